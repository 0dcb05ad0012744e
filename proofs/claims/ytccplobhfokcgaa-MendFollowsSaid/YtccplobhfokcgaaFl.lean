/- MendFollows: the walk. -/
import Derived.Test.YtccplobhfokcgaaRf
namespace Go.Proofs.Ytccplobhfokcgaa
open Go Go.RowKit Go.Shelf
set_option maxRecDepth 100000

set_option maxHeartbeats 8000000 in
theorem mendFollows_calls (m : Wk) (sl cr pv : Value) (plan : List (List Int)) (w : World) (hsl : SlopesAt w w.heap.size sl m.slopes) (hcr : CraftsAt w w.heap.size cr m.crafts) (hp : RowsAt w w.heap.size pv plan) :
    Calls Try.prog 3 #[.agg #[sl, cr, .int .i64 m.years, .int .i64 m.visit, .int .i64 m.hands], pv] w (LawPost w) := by
  obtain ⟨sA, sc, rfl, _, _⟩ := id hsl
  obtain ⟨cA, cc, rfl, _, _⟩ := id hcr
  obtain ⟨pA, pc, rfl, hpl, _⟩ := id hp
  obtain ⟨w0, hw0⟩ : ∃ w0, w0 = w.alloc (.cells #[.slice sA m.slopes.length sc, .slice cA m.crafts.length cc, .int .i64 m.years, .int .i64 m.visit, .int .i64 m.hands] 25) := ⟨_, rfl⟩
  have h0 := LawInv.start hsl hcr
  rw [← hw0] at h0
  have x5 := blk5 h0.box
  rw [hw0] at x5
  obtain ⟨x0, x1, x2, x3, x4⟩ := x5
  have HP := Lib.hid hp
  have H0 := Lib.hid h0
  have HW0 := Lib.hid hw0
  clear hp h0 hw0 hsl hcr
  go_enter Try.func3, Try.ntmps3
  go_wp2_with fail
  rw [← HW0.out]
  refine (great_calls m _ _ w0 H0.out.slopes H0.out.crafts).mono ?_
  rintro e w1 ⟨⟨g, rfl⟩, hb1⟩
  have H1 := Lib.hid (H0.out.later hb1)
  clear hb1 x0 x1 x2 x3 x4 H0 HW0
  cases g
  · go_wp2_with fail
    refine (long_calls _ plan w1 ((HP.out.below H1.out.below).mono H1.out.below.size)).mono ?_
    rintro e w2 ⟨⟨l, rfl⟩, hb2⟩
    have H2 := Lib.hid (H1.out.later hb2)
    clear hb2 H1
    cases l
    · obtain ⟨x0, x1, x2, x3, x4⟩ := blk5 H2.out.box
      go_wp2_with fail
      refine (follow_calls m _ _ _ plan w2 H2.out.slopes H2.out.crafts ((HP.out.below H2.out.below).mono H2.out.below.size)).mono ?_
      rintro e w3 ⟨v3, rfl, hr3, hb3⟩
      have H3 := Lib.hid (H2.out.later hb3)
      have HR3 := Lib.hid hr3
      obtain ⟨A3, c3, rfl, _, _⟩ := id hr3
      clear hb3 hr3 H2 x0 x1 x2 x3 x4
      obtain ⟨x0, x1, x2, x3, x4⟩ := blk5 H3.out.box
      go_wp2_with fail
      refine (rfollow_calls m _ _ _ plan w3 H3.out.slopes H3.out.crafts ((HP.out.below H3.out.below).mono H3.out.below.size)).mono ?_
      rintro e w4 ⟨v4, rfl, hr4, hb4⟩
      have H4 := Lib.hid (H3.out.later hb4)
      have hr34 := (HR3.out.below hb4).mono hb4.size
      obtain ⟨A4, c4, rfl, _, _⟩ := id hr4
      have hck := fun w5 (h5 : Grows w4 w5) => check_calls m (.slice sA m.slopes.length sc) (.slice cA m.crafts.length cc) w5 (H4.out.later h5).slopes (H4.out.later h5).crafts
      have hrk := fun w5 (h5 : Grows w4 w5) => rcheck_calls m (.slice sA m.slopes.length sc) (.slice cA m.crafts.length cc) w5 (H4.out.later h5).slopes (H4.out.later h5).crafts
      have hsr := fun w5 (h5 : Grows w4 w5) => sameRows_calls (.slice A3 (followS m plan).1.length c3) (.slice A4 (followS m plan).1.length c4) (followS m plan).1 (followS m plan).1 w5 ((hr34.below h5).mono (Below.size h5)) ((hr4.below h5).mono (Below.size h5))
      have hq := fun w5 (h5 : Grows w4 w5) => blk5 (blk_below h5 H4.out.box (lt_blk H4.out.box))
      have HCK := Lib.hid hck
      have HRK := Lib.hid hrk
      have HSR := Lib.hid hsr
      have HQ := Lib.hid hq
      clear hb4 hr4 hr34 hck hrk hsr hq H3 HR3 x0 x1 x2 x3 x4
      generalize (followS m plan).1.length = rn at *
      generalize (followS m plan).2.1 = fc at *
      generalize (followS m plan).2.2.1 = fa at *
      generalize (followS m plan).2.2.2 = fe at *
      generalize checkS m = ck at *
      go_wp2_with fail
      refine wp_region_rg Grows (fun | 1 => .ex (.int .i64 ck) | 3 => .ex (.int .i64 ck) | 8 => .ex (.bool true) | 26 => .ex (.bool true) | _ => .fn) (by kernel_rfl) (by kernel_rfl) Grows.refl growsT (by intro i; split <;> trivial) ?_
      iterate 1 (refine rg_step fun K hK => ?_; apply rg_fn rfl; (intro w4 hw; obtain ⟨x0, x1, x2, x3, x4⟩ := HQ.out w4 hw.undrew; go_simp; try rfl); go_simp; (try with_reducible refine hK _ _ ?_); try clear hK K)
      refine rg_step fun K hK => ?_
      apply rg_call (.inl rfl) rfl
      · intro w4 hw
        go_simp
        exact ⟨rfl, rfl⟩
      · intro w4 hw
        exact HCK.out w4 hw.undrew
      go_simp
      (try with_reducible refine hK _ _ ?_)
      try clear hK K
      iterate 1 (refine rg_step fun K hK => ?_; apply rg_fn rfl; (intro w4 hw; obtain ⟨x0, x1, x2, x3, x4⟩ := HQ.out w4 hw.undrew; go_simp; try rfl); go_simp; (try with_reducible refine hK _ _ ?_); try clear hK K)
      refine rg_step fun K hK => ?_
      apply rg_call (.inl rfl) rfl
      · intro w4 hw
        go_simp
        exact ⟨rfl, rfl⟩
      · intro w4 hw
        exact HRK.out w4 hw.undrew
      go_simp
      (try with_reducible refine hK _ _ ?_)
      try clear hK K
      iterate 4 (refine rg_step fun K hK => ?_; apply rg_fn rfl; (intro w4 hw; go_simp; try rfl); go_simp; (try with_reducible refine hK _ _ ?_); try clear hK K)
      refine rg_step fun K hK => ?_
      apply rg_call (.inl rfl) rfl
      · intro w4 hw
        go_simp
        exact ⟨rfl, rfl⟩
      · intro w4 hw
        refine (HSR.out w4 hw.undrew).mono ?_
        rintro e w5 ⟨rfl, hb⟩
        exact ⟨by simp, hb⟩
      go_simp
      (try with_reducible refine hK _ _ ?_)
      try clear hK K
      iterate 17 (refine rg_step fun K hK => ?_; apply rg_fn rfl; (intro w4 hw; go_simp; try rfl); go_simp; (try with_reducible refine hK _ _ ?_); try clear hK K)
      refine rg_step fun K hK => ?_
      apply rg_call (.inl rfl) rfl
      · intro w4 hw
        go_simp
        exact ⟨rfl, rfl⟩
      · intro w4 hw
        exact runs_calls w4
      go_simp
      (try with_reducible refine hK _ _ ?_)
      try clear hK K
      iterate 2 (refine rg_step fun K hK => ?_; apply rg_fn rfl; (intro w4 hw; go_simp; try rfl); go_simp; (try with_reducible refine hK _ _ ?_); try clear hK K)
      refine rg_nil ?_
      intro w5 hw5 _
      have H5 := Lib.hid (H4.out.later hw5.undrew)
      clear hw5 HQ HCK HRK HSR
      go_wp2_with fail
      go_ret
      exact ⟨rfl, H5.out.below⟩
    · go_wp2_with (go_at_call 16; refine (runs_law H2.out).mono ?_; rintro e wr ⟨rfl, hr⟩; have HR := Lib.hid hr; clear hr)
      go_ret
      exact HR.out
  · go_wp2_with (go_at_call 16; refine (runs_law H1.out).mono ?_; rintro e wr ⟨rfl, hr⟩; have HR := Lib.hid hr; clear hr)
    go_ret
    exact HR.out
end Go.Proofs.Ytccplobhfokcgaa
