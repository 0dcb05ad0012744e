/- MendValues: the row. -/
import Derived.Test.YtccplobhfokcgaaZ3
import Derived.Test.YtccplobhfokcgaaLc
import Derived.Test.YtccplobhfokcgaaPn
import Derived.Deep.Matrix
import Derived.Deep.Slices
import Derived.Deep.Fields
import Derived.ChangeSame
import Derived.Lib.SmallJoins
import Derived.ProofKit
import Derived.ChangeSlices
import Derived.Test.YtccplobhfokcgaaRows
import Derived.WalkKit
import Derived.OpenShut
import Derived.ShutString
import Derived.ChangeOld
import Derived.Below

/- The specification's Proves: the walk. -/
namespace Go.Proofs.Ytccplobhfokcgaa
open Go Go.RowKit Go.Shelf
set_option maxRecDepth 100000

theorem provesB_lnot {m : Wk} {least : Int} {ws : List Wo} (h : listOk m ws = false) : provesB m least ws = false := proves_not h
set_option maxHeartbeats 32000000 in
theorem rproves_calls (m : Wk) (sl cr : Value) (lv : Value) (least : Int) (ws : List Wo) (w : World) (hsl : SlopesAt w w.heap.size sl m.slopes) (hcr : CraftsAt w w.heap.size cr m.crafts) (hws : WorthsAt w w.heap.size lv ws) :
    Calls Try.prog 30 #[.agg #[sl, cr, .int .i64 m.years, .int .i64 m.visit, .int .i64 m.hands], .int .i64 least, lv] w (ProvesPost m least ws w) := by
  obtain ⟨sA, sc, rfl, _, _⟩ := id hsl
  obtain ⟨cA, cc, rfl, _, _⟩ := id hcr
  obtain ⟨lA, lc, rfl, hlm, hwr⟩ := id hws
  obtain ⟨w0, hw0⟩ : ∃ w0, w0 = w.alloc (.cells #[.slice sA m.slopes.length sc, .slice cA m.crafts.length cc, .int .i64 m.years, .int .i64 m.visit, .int .i64 m.hands] 25) := ⟨_, rfl⟩
  have h0 := LawInv.start hsl hcr
  rw [← hw0] at h0
  have H0 := Lib.hid h0
  have HW0 := Lib.hid hw0
  have HWR := Lib.hid hwr
  have HWS := Lib.hid hws
  have z0 : w.heap.size < w0.heap.size := by rw [hw0]; simp
  obtain ⟨x0, x1, x2, x3, x4⟩ := blk5 h0.box
  rw [hw0] at x0 x1 x2 x3 x4
  have hck := rcheck_calls m _ _ w0 h0.slopes h0.crafts
  have HCK := Lib.hid hck
  have hpost0 : ∀ (e : Ending) (w' : World), e = .returned (.tuple #[.bool (provesS m least ws).1, .int .i64 (provesS m least ws).2]) → Below w.heap.size w w' → ProvesPost m least ws w e w' := fun e w' h1 h2 => ⟨h1, h2⟩
  have HPOST0 := Lib.hid hpost0
  clear h0 hw0 hsl hcr hck hwr hws hpost0
  go_enter Try.func30, Try.ntmps30
  go_wp2_with fail
  rw [← HW0.out]
  refine HCK.out.mono ?_
  rintro e w1 ⟨rfl, hb1⟩
  have H1 := Lib.hid (H0.out.later hb1)
  have z1 := hb1.size
  clear hb1 x0 x1 x2 x3 x4 HCK
  by_cases hc : checkS m = 0
  · by_cases hbig : (ws.length : Int) > 2000
    · have hps : provesS m least ws = (false, 3) := by unfold provesS; rw [if_pos hc, if_pos (by omega)]
      have HPS := Lib.hid hps
      rw [hc]
      clear hc hps
      go_wp2_with fail
      go_ret2
      exact HPOST0.out _ _ (by rw [HPS.out]; rfl) H1.out.below
    · have hps : provesS m least ws = (provesB m least ws, 0) := by unfold provesS; rw [if_pos hc, if_neg (by omega)]
      have hm := checkS_ok hc
      have hn4 := hm.few
      have hn1 := hm.some
      have hyb := hm.years
      have hr625 := rowsS_len hm
      have hwl : ws.length ≤ 2000 := by omega
      have HM := Lib.hid hm
      have hpost : ∀ (b : Bool) (e : Ending) (w' : World), e = .returned (.tuple #[.bool (provesB m least ws), .int .i64 0]) → Below w.heap.size w w' → ProvesPost m least ws w e w' := fun _ e w' h1 h2 => HPOST0.out e w' (by rw [hps]; exact h1) h2
      have HPOST := Lib.hid (hpost true)
      rw [hc]
      clear hm hc hps hpost
      obtain ⟨x0, x1, x2, x3, x4⟩ := blk5 H1.out.box
      by_cases hy0 : m.years = 0
      · have hyb : (m.years == 0) = true := by simp [hy0]
        have hpy := provesB_years (least := least) (ws := ws) hy0
        have HPY := Lib.hid hpy
        clear hpy hy0
        by_cases hl0 : ws.length = 0
        · have hlb : ((ws.length : Int) == 0) = true := by simp [hl0]
          have hpz : provesB m least ws = decide (least ≤ 0) := by rw [HPY.out]; simp [hl0]
          have HPZ := Lib.hid hpz
          clear hpz hl0
          go_wp2_with fail
          go_ret2
          exact HPOST.out _ _ (by rw [HPZ.out]; rfl) H1.out.below
        · have hlb : ((ws.length : Int) == 0) = false := by
            rw [beq_eq_false_iff_ne]; omega
          have hpz : provesB m least ws = false := by rw [HPY.out]; simp [hl0]
          have HPZ := Lib.hid hpz
          clear hpz hl0
          go_wp2_with fail
          go_ret2
          exact HPOST.out _ _ (by rw [HPZ.out]; rfl) H1.out.below
      · have hyb2 : (m.years == 0) = false := by simpa using hy0
        have hy1 : 1 ≤ m.years := by omega
        have HY0 := Lib.hid hy0
        clear hy0
        go_wp2_with fail
        clear x0 x1 x2 x3 x4
        go_loopw [9] (fun c wr => ∃ i : Nat, i ≤ ws.length ∧ c = .int .i64 (i : Int) ∧ Hid (∀ j, j < i → okAt m ws j = true) ∧ Hid (Below w1.heap.size w1 wr)) (fun c _ => ws.length - (intOf c).toNat)
        case atStart => exact ⟨0, Nat.zero_le _, rfl, Lib.hid (fun j hj => by omega), Lib.hid (Below.refl _ _)⟩
        case round =>
          obtain ⟨i, hi, rfl, HOK, HB⟩ := hrel
          obtain ⟨Wr, rfl⟩ : ∃ Wr, Wr = wr := ⟨_, rfl⟩
          have HI := Lib.hid (H1.out.later HB.out)
          by_cases hil : i < ws.length
          · have hii : (i : Int) < (ws.length : Int) := by omega
            have hi0 : (0 : Int) ≤ (i : Int) := by omega
            have hiadd : IntKind.i64.wrap ((i : Int) + 1) = (i : Int) + 1 := IntWalk.i64_in _ (by omega)
            have hgx : ws[i]? = some ws[i] := List.getElem?_eq_getElem hil
            obtain ⟨b, o, rfl, hb, hcell⟩ := HWR.out (by intro e; rw [e] at hil; simp at hil)
            obtain ⟨u, c0, c1, c2, hu⟩ := hcell i _ hgx
            obtain ⟨uA, uc, rfl, hur⟩ := hu
            have hwW : ∀ W, Grows Wr W → _ := fun W hW => (HI.out.later hW).below
            have hq : ∀ W, Grows Wr W → _ := fun W hW => And.intro (blk5 (HI.out.later hW).box) (And.intro (((hwW W hW).cell (p := ⟨b, o + i * 3, none⟩) hb).trans c0) (And.intro (((hwW W hW).cell (p := ⟨b, o + i * 3 + 1, none⟩) hb).trans c1) (((hwW W hW).cell (p := ⟨b, o + i * 3 + 2, none⟩) hb).trans c2)))
            have hthk : ∀ W, Grows Wr W → _ := fun W hW => rthicks_calls m (.slice sA m.slopes.length sc) (.slice cA m.crafts.length cc) uA uc ws[i].th W HM.out (HI.out.later hW).slopes (HI.out.later hW).crafts ((hur.below (hwW W hW)).mono (hwW W hW).size)
            have hbadw : (ws[i].y < 0 ∨ m.years ≤ ws[i].y ∨ thOk m ws[i].th = false ∨ ws[i].c < 0 ∨ 2000000000 < ws[i].c) → listOk m ws = false := fun h => listOk_not hil (okAt_bad hil (woOk_bad h))
            have hgoodw : 0 ≤ ws[i].y → ws[i].y < m.years → thOk m ws[i].th = true → 0 ≤ ws[i].c → ws[i].c ≤ 2000000000 → woOk m ws[i] = true := woOk_good
            have hbsz : b < Wr.heap.size := Nat.lt_of_lt_of_le hb HI.out.below.size
            have HQ := Lib.hid hq
            have HTHK := Lib.hid hthk
            have HBADW := Lib.hid hbadw
            have HGOODW := Lib.hid hgoodw
            have HCELL := Lib.hid hcell
            have HUR := Lib.hid hur
            have HWW := Lib.hid hwW
            have HX : Hid (ws[i] = ws[i]) := Lib.hid rfl
            clear c0 c1 c2 hcell hur hgx hq hthk hbadw hgoodw hwW
            generalize hxe : ws[i] = x at *
            have HXE := Lib.hid hxe
            generalize hthe : thOk m x.th = tk at *
            have HTE := Lib.hid hthe
            clear hxe hthe HX
            by_cases h0 : x.y < 0
            · have h0b : decide (x.y < 0) = true := by simpa using h0
              have hnot := provesB_lnot (least := least) (HBADW.out (.inl h0))
              have HNOT := Lib.hid hnot
              clear hnot
              as_aux_lemma =>
                go_wp2_with fail
                refine wp_region_rg Grows (fun | 23 => .ex (.bool tk) | _ => .fn) (by kernel_rfl) (by kernel_rfl) Grows.refl growsT (by intro i; split <;> trivial) ?_
                iterate 7 (refine rg_step fun K hK => ?_; apply rg_fn rfl; (intro w4 hw; obtain ⟨⟨x0, x1, x2, x3, x4⟩, q0, q1, q2⟩ := HQ.out w4 hw.undrew; go_simp; try rfl); go_simp; (try with_reducible refine hK _ _ ?_); try clear hK K)
                iterate 8 (refine rg_step fun K hK => rg_skip rfl ?_; go_simp; (try with_reducible refine hK _ _ ?_); try clear hK K)
                iterate 2 (refine rg_step fun K hK => ?_; apply rg_fn rfl; (intro w4 hw; obtain ⟨⟨x0, x1, x2, x3, x4⟩, q0, q1, q2⟩ := HQ.out w4 hw.undrew; go_simp; try rfl); go_simp; (try with_reducible refine hK _ _ ?_); try clear hK K)
                iterate 8 (refine rg_step fun K hK => rg_skip rfl ?_; go_simp; (try with_reducible refine hK _ _ ?_); try clear hK K)
                iterate 2 (refine rg_step fun K hK => ?_; apply rg_fn rfl; (intro w4 hw; obtain ⟨⟨x0, x1, x2, x3, x4⟩, q0, q1, q2⟩ := HQ.out w4 hw.undrew; go_simp; try rfl); go_simp; (try with_reducible refine hK _ _ ?_); try clear hK K)
                iterate 6 (refine rg_step fun K hK => rg_skip rfl ?_; go_simp; (try with_reducible refine hK _ _ ?_); try clear hK K)
                iterate 2 (refine rg_step fun K hK => ?_; apply rg_fn rfl; (intro w4 hw; obtain ⟨⟨x0, x1, x2, x3, x4⟩, q0, q1, q2⟩ := HQ.out w4 hw.undrew; go_simp; try rfl); go_simp; (try with_reducible refine hK _ _ ?_); try clear hK K)
                iterate 6 (refine rg_step fun K hK => rg_skip rfl ?_; go_simp; (try with_reducible refine hK _ _ ?_); try clear hK K)
                iterate 1 (refine rg_step fun K hK => ?_; apply rg_fn rfl; (intro w4 hw; obtain ⟨⟨x0, x1, x2, x3, x4⟩, q0, q1, q2⟩ := HQ.out w4 hw.undrew; go_simp; try rfl); go_simp; (try with_reducible refine hK _ _ ?_); try clear hK K)
                refine rg_nil ?_
                rintro w5 hw5 _
                have HB5 := Lib.hid (HI.out.later hw5.undrew).below
                clear hw5
                go_wp2_with fail
                go_ret2
                exact HPOST.out _ _ (by rw [HNOT.out]; rfl) HB5.out
            · have h0b : decide (x.y < 0) = false := by simpa using h0
              by_cases h1 : x.y < m.years
              · have h1b : decide (m.years ≤ x.y) = false := by simp; omega
                cases tk
                · skip
                  have hnot := provesB_lnot (least := least) (HBADW.out (.inr (.inr (.inl rfl))))
                  have HNOT := Lib.hid hnot
                  clear hnot
                  as_aux_lemma =>
                    go_wp2_with fail
                    refine wp_region_rg Grows (fun | 23 => .ex (.bool false) | _ => .fn) (by kernel_rfl) (by kernel_rfl) Grows.refl growsT (by intro i; split <;> trivial) ?_
                    iterate 17 (refine rg_step fun K hK => ?_; apply rg_fn rfl; (intro w4 hw; obtain ⟨⟨x0, x1, x2, x3, x4⟩, q0, q1, q2⟩ := HQ.out w4 hw.undrew; go_simp; try rfl); go_simp; (try with_reducible refine hK _ _ ?_); try clear hK K)
                    iterate 6 (refine rg_step fun K hK => ?_; apply rg_fn rfl; (intro w4 hw; obtain ⟨⟨x0, x1, x2, x3, x4⟩, q0, q1, q2⟩ := HQ.out w4 hw.undrew; go_simp; try rfl); go_simp; (try with_reducible refine hK _ _ ?_); try clear hK K)
                    refine rg_step fun K hK => ?_
                    apply rg_call (.inl rfl) rfl
                    · intro w4 hw
                      go_simp
                      exact ⟨rfl, rfl⟩
                    · intro w4 hw
                      exact HTHK.out w4 hw.undrew
                    go_simp
                    (try with_reducible refine hK _ _ ?_)
                    try clear hK K
                    iterate 1 (refine rg_step fun K hK => ?_; apply rg_fn rfl; (intro w4 hw; obtain ⟨⟨x0, x1, x2, x3, x4⟩, q0, q1, q2⟩ := HQ.out w4 hw.undrew; go_simp; try rfl); go_simp; (try with_reducible refine hK _ _ ?_); try clear hK K)
                    iterate 2 (refine rg_step fun K hK => ?_; apply rg_fn rfl; (intro w4 hw; obtain ⟨⟨x0, x1, x2, x3, x4⟩, q0, q1, q2⟩ := HQ.out w4 hw.undrew; go_simp; try rfl); go_simp; (try with_reducible refine hK _ _ ?_); try clear hK K)
                    iterate 6 (refine rg_step fun K hK => rg_skip rfl ?_; go_simp; (try with_reducible refine hK _ _ ?_); try clear hK K)
                    iterate 2 (refine rg_step fun K hK => ?_; apply rg_fn rfl; (intro w4 hw; obtain ⟨⟨x0, x1, x2, x3, x4⟩, q0, q1, q2⟩ := HQ.out w4 hw.undrew; go_simp; try rfl); go_simp; (try with_reducible refine hK _ _ ?_); try clear hK K)
                    iterate 6 (refine rg_step fun K hK => rg_skip rfl ?_; go_simp; (try with_reducible refine hK _ _ ?_); try clear hK K)
                    iterate 1 (refine rg_step fun K hK => ?_; apply rg_fn rfl; (intro w4 hw; obtain ⟨⟨x0, x1, x2, x3, x4⟩, q0, q1, q2⟩ := HQ.out w4 hw.undrew; go_simp; try rfl); go_simp; (try with_reducible refine hK _ _ ?_); try clear hK K)
                    refine rg_nil ?_
                    rintro w5 hw5 _
                    have HB5 := Lib.hid (HI.out.later hw5.undrew).below
                    clear hw5
                    go_wp2_with fail
                    go_ret2
                    exact HPOST.out _ _ (by rw [HNOT.out]; rfl) HB5.out
                · by_cases h2 : x.c < 0
                  · have h2b : decide (x.c < 0) = true := by simpa using h2
                    have hnot := provesB_lnot (least := least) (HBADW.out (.inr (.inr (.inr (.inl h2)))))
                    have HNOT := Lib.hid hnot
                    clear hnot
                    as_aux_lemma =>
                      go_wp2_with fail
                      refine wp_region_rg Grows (fun | 23 => .ex (.bool true) | _ => .fn) (by kernel_rfl) (by kernel_rfl) Grows.refl growsT (by intro i; split <;> trivial) ?_
                      iterate 17 (refine rg_step fun K hK => ?_; apply rg_fn rfl; (intro w4 hw; obtain ⟨⟨x0, x1, x2, x3, x4⟩, q0, q1, q2⟩ := HQ.out w4 hw.undrew; go_simp; try rfl); go_simp; (try with_reducible refine hK _ _ ?_); try clear hK K)
                      iterate 6 (refine rg_step fun K hK => ?_; apply rg_fn rfl; (intro w4 hw; obtain ⟨⟨x0, x1, x2, x3, x4⟩, q0, q1, q2⟩ := HQ.out w4 hw.undrew; go_simp; try rfl); go_simp; (try with_reducible refine hK _ _ ?_); try clear hK K)
                      refine rg_step fun K hK => ?_
                      apply rg_call (.inl rfl) rfl
                      · intro w4 hw
                        go_simp
                        exact ⟨rfl, rfl⟩
                      · intro w4 hw
                        exact HTHK.out w4 hw.undrew
                      go_simp
                      (try with_reducible refine hK _ _ ?_)
                      try clear hK K
                      iterate 1 (refine rg_step fun K hK => ?_; apply rg_fn rfl; (intro w4 hw; obtain ⟨⟨x0, x1, x2, x3, x4⟩, q0, q1, q2⟩ := HQ.out w4 hw.undrew; go_simp; try rfl); go_simp; (try with_reducible refine hK _ _ ?_); try clear hK K)
                      iterate 2 (refine rg_step fun K hK => ?_; apply rg_fn rfl; (intro w4 hw; obtain ⟨⟨x0, x1, x2, x3, x4⟩, q0, q1, q2⟩ := HQ.out w4 hw.undrew; go_simp; try rfl); go_simp; (try with_reducible refine hK _ _ ?_); try clear hK K)
                      iterate 6 (refine rg_step fun K hK => ?_; apply rg_fn rfl; (intro w4 hw; obtain ⟨⟨x0, x1, x2, x3, x4⟩, q0, q1, q2⟩ := HQ.out w4 hw.undrew; go_simp; try rfl); go_simp; (try with_reducible refine hK _ _ ?_); try clear hK K)
                      iterate 2 (refine rg_step fun K hK => ?_; apply rg_fn rfl; (intro w4 hw; obtain ⟨⟨x0, x1, x2, x3, x4⟩, q0, q1, q2⟩ := HQ.out w4 hw.undrew; go_simp; try rfl); go_simp; (try with_reducible refine hK _ _ ?_); try clear hK K)
                      iterate 6 (refine rg_step fun K hK => rg_skip rfl ?_; go_simp; (try with_reducible refine hK _ _ ?_); try clear hK K)
                      iterate 1 (refine rg_step fun K hK => ?_; apply rg_fn rfl; (intro w4 hw; obtain ⟨⟨x0, x1, x2, x3, x4⟩, q0, q1, q2⟩ := HQ.out w4 hw.undrew; go_simp; try rfl); go_simp; (try with_reducible refine hK _ _ ?_); try clear hK K)
                      refine rg_nil ?_
                      rintro w5 hw5 _
                      have HB5 := Lib.hid (HI.out.later hw5.undrew).below
                      clear hw5
                      go_wp2_with fail
                      go_ret2
                      exact HPOST.out _ _ (by rw [HNOT.out]; rfl) HB5.out
                  · have h2b : decide (x.c < 0) = false := by simpa using h2
                    by_cases h3 : x.c ≤ 2000000000
                    · have h3b : decide (2000000000 < x.c) = false := by simp; omega
                      have hwo := HGOODW.out (by omega) h1 rfl (by omega) h3
                      have HWO := Lib.hid hwo
                      clear hwo
                      go_wp2_with fail
                      refine wp_region_rg Grows (fun | 23 => .ex (.bool true) | _ => .fn) (by kernel_rfl) (by kernel_rfl) Grows.refl growsT (by intro i; split <;> trivial) ?_
                      iterate 17 (refine rg_step fun K hK => ?_; apply rg_fn rfl; (intro w4 hw; obtain ⟨⟨x0, x1, x2, x3, x4⟩, q0, q1, q2⟩ := HQ.out w4 hw.undrew; go_simp; try rfl); go_simp; (try with_reducible refine hK _ _ ?_); try clear hK K)
                      iterate 6 (refine rg_step fun K hK => ?_; apply rg_fn rfl; (intro w4 hw; obtain ⟨⟨x0, x1, x2, x3, x4⟩, q0, q1, q2⟩ := HQ.out w4 hw.undrew; go_simp; try rfl); go_simp; (try with_reducible refine hK _ _ ?_); try clear hK K)
                      refine rg_step fun K hK => ?_
                      apply rg_call (.inl rfl) rfl
                      · intro w4 hw
                        go_simp
                        exact ⟨rfl, rfl⟩
                      · intro w4 hw
                        exact HTHK.out w4 hw.undrew
                      go_simp
                      (try with_reducible refine hK _ _ ?_)
                      try clear hK K
                      iterate 1 (refine rg_step fun K hK => ?_; apply rg_fn rfl; (intro w4 hw; obtain ⟨⟨x0, x1, x2, x3, x4⟩, q0, q1, q2⟩ := HQ.out w4 hw.undrew; go_simp; try rfl); go_simp; (try with_reducible refine hK _ _ ?_); try clear hK K)
                      iterate 2 (refine rg_step fun K hK => ?_; apply rg_fn rfl; (intro w4 hw; obtain ⟨⟨x0, x1, x2, x3, x4⟩, q0, q1, q2⟩ := HQ.out w4 hw.undrew; go_simp; try rfl); go_simp; (try with_reducible refine hK _ _ ?_); try clear hK K)
                      iterate 6 (refine rg_step fun K hK => ?_; apply rg_fn rfl; (intro w4 hw; obtain ⟨⟨x0, x1, x2, x3, x4⟩, q0, q1, q2⟩ := HQ.out w4 hw.undrew; go_simp; try rfl); go_simp; (try with_reducible refine hK _ _ ?_); try clear hK K)
                      iterate 2 (refine rg_step fun K hK => ?_; apply rg_fn rfl; (intro w4 hw; obtain ⟨⟨x0, x1, x2, x3, x4⟩, q0, q1, q2⟩ := HQ.out w4 hw.undrew; go_simp; try rfl); go_simp; (try with_reducible refine hK _ _ ?_); try clear hK K)
                      iterate 6 (refine rg_step fun K hK => ?_; apply rg_fn rfl; (intro w4 hw; obtain ⟨⟨x0, x1, x2, x3, x4⟩, q0, q1, q2⟩ := HQ.out w4 hw.undrew; go_simp; try rfl); go_simp; (try with_reducible refine hK _ _ ?_); try clear hK K)
                      iterate 1 (refine rg_step fun K hK => ?_; apply rg_fn rfl; (intro w4 hw; obtain ⟨⟨x0, x1, x2, x3, x4⟩, q0, q1, q2⟩ := HQ.out w4 hw.undrew; go_simp; try rfl); go_simp; (try with_reducible refine hK _ _ ?_); try clear hK K)
                      refine rg_nil ?_
                      rintro w5 hw5 _
                      replace hw5 := hw5.undrew
                      have HG5 := Lib.hid hw5
                      have HB5 := Lib.hid (HB.out.trans (hw5.mono HB.out.size))
                      have HI5 := Lib.hid (HI.out.later hw5)
                      clear hw5 HTHK
                      cases i with
                      | zero =>
                        have hok1 : ∀ j, j < 1 → okAt m ws j = true := fun j hj => by
                          obtain rfl : j = 0 := by omega
                          exact okAt_first hil (by rw [HXE.out]; exact HWO.out)
                        have HOK1 := Lib.hid hok1
                        clear hok1
                        as_aux_lemma =>
                          go_wp2_with fail
                          refine wp_region_rg Grows (fun _ => .fn) (by kernel_rfl) (by kernel_rfl) Grows.refl growsT (fun _ => trivial) ?_
                          iterate 3 (refine rg_step fun K hK => ?_; apply rg_fn rfl; (intro w4 hw; go_simp; try rfl); go_simp; (try with_reducible refine hK _ _ ?_); try clear hK K)
                          iterate 41 (refine rg_step fun K hK => rg_skip rfl ?_; go_simp; (try with_reducible refine hK _ _ ?_); try clear hK K)
                          iterate 1 (refine rg_step fun K hK => ?_; apply rg_fn rfl; (intro w4 hw; go_simp; try rfl); go_simp; (try with_reducible refine hK _ _ ?_); try clear hK K)
                          refine rg_nil ?_
                          rintro w6 hw6 _
                          have HB6 := Lib.hid (HB5.out.trans (hw6.undrew.mono HB5.out.size))
                          clear hw6
                          go_wp2_with fail
                          go_round
                          case rel => exact ⟨1, by omega, by simp, HOK1, HB6⟩
                          case measure => simp [intOf]; omega
                      | succ i =>
                        have hil0 : i < ws.length := by omega
                        have hok0 := HOK.out i (by omega)
                        have hwp : woOk m ws[i] = true := (okAt_spec hok0 hil0).1
                        have hord := okAt_next hn4 hil hwp (by rw [HXE.out]; exact HWO.out)
                        rw [HXE.out] at hord
                        obtain ⟨u', d0, d1, d2, hu'⟩ := HCELL.out i _ (List.getElem?_eq_getElem hil0)
                        obtain ⟨pA, pc, rfl, hpr⟩ := hu'
                        have hxp : ws[i].th.length = x.th.length := by rw [(woOk_spec hwp).2.1, (woOk_spec HWO.out).2.1]
                        rw [hxp] at d1
                        have hq2 : ∀ W, Grows w5 W → _ := fun W hW => And.intro (HQ.out W (growsT _ _ _ HG5.out hW)) (And.intro (((HWW.out W (growsT _ _ _ HG5.out hW)).cell (p := ⟨b, o + i * 3, none⟩) hb).trans d0) (((HWW.out W (growsT _ _ _ HG5.out hW)).cell (p := ⟨b, o + i * 3 + 1, none⟩) hb).trans d1))
                        have hbef : ∀ W, Grows w5 W → _ := fun W hW => before_calls W.heap.size pA uA pc uc ws[i].th x.th W ((hpr.below (HWW.out W (growsT _ _ _ HG5.out hW))).mono (HWW.out W (growsT _ _ _ HG5.out hW)).size) ((HUR.out.below (HWW.out W (growsT _ _ _ HG5.out hW))).mono (HWW.out W (growsT _ _ _ HG5.out hW)).size) (Nat.le_refl _) hxp
                        rw [hxp] at hbef
                        have hokn : okAt m ws (i + 1) = true → ∀ j, j < i + 1 + 1 → okAt m ws j = true := fun h j hj => by
                          rcases Nat.lt_or_ge j (i + 1) with h1 | h1
                          · exact HOK.out j h1
                          · obtain rfl : j = i + 1 := by omega
                            exact h
                        have hbadn : okAt m ws (i + 1) = false → listOk m ws = false := fun h => listOk_not hil h
                        rw [hord] at hokn hbadn
                        have HQ2 := Lib.hid hq2
                        have HBEF := Lib.hid hbef
                        have HOKN := Lib.hid hokn
                        have HBADN := Lib.hid hbadn
                        clear hok0 hwp hord d0 d1 d2 hpr hq2 hbef hokn hbadn hxp
                        generalize hpp : ws[i] = p at *
                        unfold ordW at HOKN HBADN
                        generalize beforeB p.th x.th = bf at *
                        have hix : IntKind.i64.wrap ((i : Int) + 1 - 1) = (i : Int) := by rw [IntWalk.i64_in _ (by omega)]; omega
                        have hipos : decide ((i : Int) + 1 > 0) = true := decide_eq_true (by omega)
                        have hipos2 : decide (0 < (i : Int) + 1) = true := decide_eq_true (by omega)
                        have hix2 : IntKind.i64.wrap (i : Int) = (i : Int) := IntWalk.i64_in _ (by omega)
                        have hi1a : (i : Int) + 1 < (ws.length : Int) := by omega
                        have hi1b : (0 : Int) ≤ (i : Int) + 1 := by omega
                        have hi1c : IntKind.i64.wrap ((i : Int) + 1 + 1) = (i : Int) + 1 + 1 := IntWalk.i64_in _ (by omega)
                        have hii0 : (i : Int) < (ws.length : Int) := by omega
                        have hi00 : (0 : Int) ≤ (i : Int) := by omega
                        rw [show ((i + 1 : Nat) : Int) = (i : Int) + 1 by omega]
                        clear hpp
                        by_cases hlt : x.y < p.y
                        · have hltb : decide (x.y < p.y) = true := by simpa using hlt
                          have hbad : listOk m ws = false := HBADN.out (by
                            have h1 : ¬ p.y < x.y := by omega
                            have h2 : ¬ x.y = p.y := by omega
                            simp [h1, h2])
                          have hnot := provesB_lnot (least := least) hbad
                          have HNOT := Lib.hid hnot
                          clear hnot hbad
                          as_aux_lemma =>
                            go_wp2_with fail
                            refine wp_region_rg Grows (fun | 40 => .ex (.bool bf) | _ => .fn) (by kernel_rfl) (by kernel_rfl) Grows.refl growsT (by intro i; split <;> trivial) ?_
                            iterate 16 (refine rg_step fun K hK => ?_; apply rg_fn rfl; (intro w4 hw; obtain ⟨⟨⟨x0, x1, x2, x3, x4⟩, q0, q1, q2⟩, d0, d1⟩ := HQ2.out w4 hw.undrew; go_simp; try rfl); go_simp; (try with_reducible refine hK _ _ ?_); try clear hK K)
                            iterate 13 (refine rg_step fun K hK => rg_skip rfl ?_; go_simp; (try with_reducible refine hK _ _ ?_); try clear hK K)
                            iterate 13 (refine rg_step fun K hK => rg_skip rfl ?_; go_simp; (try with_reducible refine hK _ _ ?_); try clear hK K)
                            iterate 1 (refine rg_step fun K hK => rg_skip rfl ?_; go_simp; (try with_reducible refine hK _ _ ?_); try clear hK K)
                            iterate 2 (refine rg_step fun K hK => ?_; apply rg_fn rfl; (intro w4 hw; obtain ⟨⟨⟨x0, x1, x2, x3, x4⟩, q0, q1, q2⟩, d0, d1⟩ := HQ2.out w4 hw.undrew; go_simp; try rfl); go_simp; (try with_reducible refine hK _ _ ?_); try clear hK K)
                            refine rg_nil ?_
                            rintro w6 hw6 _
                            have HB6 := Lib.hid (HI5.out.later hw6.undrew).below
                            clear hw6
                            go_wp2_with fail
                            go_ret2
                            exact HPOST.out _ _ (by rw [HNOT.out]; rfl) HB6.out
                        · have hltb : decide (x.y < p.y) = false := by simpa using hlt
                          by_cases heq : x.y = p.y
                          · have heqb : (x.y == p.y) = true := by simpa using heq
                            cases bf
                            · have hbad : listOk m ws = false := HBADN.out (by
                                have h1 : ¬ p.y < x.y := by omega
                                simp [h1])
                              clear heq
                              have hnot := provesB_lnot (least := least) hbad
                              have HNOT := Lib.hid hnot
                              clear hnot hbad
                              as_aux_lemma =>
                                go_wp2_with fail
                                refine wp_region_rg Grows (fun | 40 => .ex (.bool false) | _ => .fn) (by kernel_rfl) (by kernel_rfl) Grows.refl growsT (by intro i; split <;> trivial) ?_
                                iterate 29 (refine rg_step fun K hK => ?_; apply rg_fn rfl; (intro w4 hw; obtain ⟨⟨⟨x0, x1, x2, x3, x4⟩, q0, q1, q2⟩, d0, d1⟩ := HQ2.out w4 hw.undrew; go_simp; try rfl); go_simp; (try with_reducible refine hK _ _ ?_); try clear hK K)
                                iterate 11 (refine rg_step fun K hK => ?_; apply rg_fn rfl; (intro w4 hw; obtain ⟨⟨⟨x0, x1, x2, x3, x4⟩, q0, q1, q2⟩, d0, d1⟩ := HQ2.out w4 hw.undrew; go_simp; try rfl); go_simp; (try with_reducible refine hK _ _ ?_); try clear hK K)
                                refine rg_step fun K hK => ?_
                                apply rg_call (.inl rfl) rfl
                                · intro w4 hw
                                  go_simp
                                  exact ⟨rfl, rfl⟩
                                · intro w4 hw
                                  exact HBEF.out w4 hw.undrew
                                go_simp
                                (try with_reducible refine hK _ _ ?_)
                                try clear hK K
                                iterate 4 (refine rg_step fun K hK => ?_; apply rg_fn rfl; (intro w4 hw; obtain ⟨⟨⟨x0, x1, x2, x3, x4⟩, q0, q1, q2⟩, d0, d1⟩ := HQ2.out w4 hw.undrew; go_simp; try rfl); go_simp; (try with_reducible refine hK _ _ ?_); try clear hK K)
                                refine rg_nil ?_
                                rintro w6 hw6 _
                                have HB6 := Lib.hid (HI5.out.later hw6.undrew).below
                                clear hw6
                                go_wp2_with fail
                                go_ret2
                                exact HPOST.out _ _ (by rw [HNOT.out]; rfl) HB6.out
                            · have hok := HOKN.out (by simp [heq])
                              clear heq
                              have HOK2 := Lib.hid hok
                              clear hok
                              as_aux_lemma =>
                                go_wp2_with fail
                                refine wp_region_rg Grows (fun | 40 => .ex (.bool true) | _ => .fn) (by kernel_rfl) (by kernel_rfl) Grows.refl growsT (by intro i; split <;> trivial) ?_
                                iterate 29 (refine rg_step fun K hK => ?_; apply rg_fn rfl; (intro w4 hw; obtain ⟨⟨⟨x0, x1, x2, x3, x4⟩, q0, q1, q2⟩, d0, d1⟩ := HQ2.out w4 hw.undrew; go_simp; try rfl); go_simp; (try with_reducible refine hK _ _ ?_); try clear hK K)
                                iterate 11 (refine rg_step fun K hK => ?_; apply rg_fn rfl; (intro w4 hw; obtain ⟨⟨⟨x0, x1, x2, x3, x4⟩, q0, q1, q2⟩, d0, d1⟩ := HQ2.out w4 hw.undrew; go_simp; try rfl); go_simp; (try with_reducible refine hK _ _ ?_); try clear hK K)
                                refine rg_step fun K hK => ?_
                                apply rg_call (.inl rfl) rfl
                                · intro w4 hw
                                  go_simp
                                  exact ⟨rfl, rfl⟩
                                · intro w4 hw
                                  exact HBEF.out w4 hw.undrew
                                go_simp
                                (try with_reducible refine hK _ _ ?_)
                                try clear hK K
                                iterate 4 (refine rg_step fun K hK => ?_; apply rg_fn rfl; (intro w4 hw; obtain ⟨⟨⟨x0, x1, x2, x3, x4⟩, q0, q1, q2⟩, d0, d1⟩ := HQ2.out w4 hw.undrew; go_simp; try rfl); go_simp; (try with_reducible refine hK _ _ ?_); try clear hK K)
                                refine rg_nil ?_
                                rintro w6 hw6 _
                                have HB6 := Lib.hid (HB5.out.trans (hw6.undrew.mono HB5.out.size))
                                clear hw6
                                go_wp2_with fail
                                go_round
                                case rel => exact ⟨i + 1 + 1, by omega, by go_num, HOK2, HB6⟩
                                case measure => simp [intOf]; omega
                          · have heqb : (x.y == p.y) = false := by simpa using heq
                            have hok := HOKN.out (by
                              have h1 : p.y < x.y := by omega
                              simp [h1])
                            clear heq
                            have HOK2 := Lib.hid hok
                            clear hok
                            as_aux_lemma =>
                              go_wp2_with fail
                              refine wp_region_rg Grows (fun | 40 => .ex (.bool bf) | _ => .fn) (by kernel_rfl) (by kernel_rfl) Grows.refl growsT (by intro i; split <;> trivial) ?_
                              iterate 29 (refine rg_step fun K hK => ?_; apply rg_fn rfl; (intro w4 hw; obtain ⟨⟨⟨x0, x1, x2, x3, x4⟩, q0, q1, q2⟩, d0, d1⟩ := HQ2.out w4 hw.undrew; go_simp; try rfl); go_simp; (try with_reducible refine hK _ _ ?_); try clear hK K)
                              iterate 13 (refine rg_step fun K hK => rg_skip rfl ?_; go_simp; (try with_reducible refine hK _ _ ?_); try clear hK K)
                              iterate 3 (refine rg_step fun K hK => ?_; apply rg_fn rfl; (intro w4 hw; obtain ⟨⟨⟨x0, x1, x2, x3, x4⟩, q0, q1, q2⟩, d0, d1⟩ := HQ2.out w4 hw.undrew; go_simp; try rfl); go_simp; (try with_reducible refine hK _ _ ?_); try clear hK K)
                              refine rg_nil ?_
                              rintro w6 hw6 _
                              have HB6 := Lib.hid (HB5.out.trans (hw6.undrew.mono HB5.out.size))
                              clear hw6
                              go_wp2_with fail
                              go_round
                              case rel => exact ⟨i + 1 + 1, by omega, by go_num, HOK2, HB6⟩
                              case measure => simp [intOf]; omega
                    · have h3b : decide (2000000000 < x.c) = true := by simp; omega
                      have hnot := provesB_lnot (least := least) (HBADW.out (.inr (.inr (.inr (.inr (by omega))))))
                      have HNOT := Lib.hid hnot
                      clear hnot
                      as_aux_lemma =>
                        go_wp2_with fail
                        refine wp_region_rg Grows (fun | 23 => .ex (.bool true) | _ => .fn) (by kernel_rfl) (by kernel_rfl) Grows.refl growsT (by intro i; split <;> trivial) ?_
                        iterate 17 (refine rg_step fun K hK => ?_; apply rg_fn rfl; (intro w4 hw; obtain ⟨⟨x0, x1, x2, x3, x4⟩, q0, q1, q2⟩ := HQ.out w4 hw.undrew; go_simp; try rfl); go_simp; (try with_reducible refine hK _ _ ?_); try clear hK K)
                        iterate 6 (refine rg_step fun K hK => ?_; apply rg_fn rfl; (intro w4 hw; obtain ⟨⟨x0, x1, x2, x3, x4⟩, q0, q1, q2⟩ := HQ.out w4 hw.undrew; go_simp; try rfl); go_simp; (try with_reducible refine hK _ _ ?_); try clear hK K)
                        refine rg_step fun K hK => ?_
                        apply rg_call (.inl rfl) rfl
                        · intro w4 hw
                          go_simp
                          exact ⟨rfl, rfl⟩
                        · intro w4 hw
                          exact HTHK.out w4 hw.undrew
                        go_simp
                        (try with_reducible refine hK _ _ ?_)
                        try clear hK K
                        iterate 1 (refine rg_step fun K hK => ?_; apply rg_fn rfl; (intro w4 hw; obtain ⟨⟨x0, x1, x2, x3, x4⟩, q0, q1, q2⟩ := HQ.out w4 hw.undrew; go_simp; try rfl); go_simp; (try with_reducible refine hK _ _ ?_); try clear hK K)
                        iterate 2 (refine rg_step fun K hK => ?_; apply rg_fn rfl; (intro w4 hw; obtain ⟨⟨x0, x1, x2, x3, x4⟩, q0, q1, q2⟩ := HQ.out w4 hw.undrew; go_simp; try rfl); go_simp; (try with_reducible refine hK _ _ ?_); try clear hK K)
                        iterate 6 (refine rg_step fun K hK => ?_; apply rg_fn rfl; (intro w4 hw; obtain ⟨⟨x0, x1, x2, x3, x4⟩, q0, q1, q2⟩ := HQ.out w4 hw.undrew; go_simp; try rfl); go_simp; (try with_reducible refine hK _ _ ?_); try clear hK K)
                        iterate 2 (refine rg_step fun K hK => ?_; apply rg_fn rfl; (intro w4 hw; obtain ⟨⟨x0, x1, x2, x3, x4⟩, q0, q1, q2⟩ := HQ.out w4 hw.undrew; go_simp; try rfl); go_simp; (try with_reducible refine hK _ _ ?_); try clear hK K)
                        iterate 6 (refine rg_step fun K hK => ?_; apply rg_fn rfl; (intro w4 hw; obtain ⟨⟨x0, x1, x2, x3, x4⟩, q0, q1, q2⟩ := HQ.out w4 hw.undrew; go_simp; try rfl); go_simp; (try with_reducible refine hK _ _ ?_); try clear hK K)
                        iterate 1 (refine rg_step fun K hK => ?_; apply rg_fn rfl; (intro w4 hw; obtain ⟨⟨x0, x1, x2, x3, x4⟩, q0, q1, q2⟩ := HQ.out w4 hw.undrew; go_simp; try rfl); go_simp; (try with_reducible refine hK _ _ ?_); try clear hK K)
                        refine rg_nil ?_
                        rintro w5 hw5 _
                        have HB5 := Lib.hid (HI.out.later hw5.undrew).below
                        clear hw5
                        go_wp2_with fail
                        go_ret2
                        exact HPOST.out _ _ (by rw [HNOT.out]; rfl) HB5.out
              · have h1b : decide (m.years ≤ x.y) = true := by simp; omega
                have hnot := provesB_lnot (least := least) (HBADW.out (.inr (.inl (by omega))))
                have HNOT := Lib.hid hnot
                clear hnot
                as_aux_lemma =>
                  go_wp2_with fail
                  refine wp_region_rg Grows (fun | 23 => .ex (.bool tk) | _ => .fn) (by kernel_rfl) (by kernel_rfl) Grows.refl growsT (by intro i; split <;> trivial) ?_
                  iterate 15 (refine rg_step fun K hK => ?_; apply rg_fn rfl; (intro w4 hw; obtain ⟨⟨x0, x1, x2, x3, x4⟩, q0, q1, q2⟩ := HQ.out w4 hw.undrew; go_simp; try rfl); go_simp; (try with_reducible refine hK _ _ ?_); try clear hK K)
                  iterate 2 (refine rg_step fun K hK => ?_; apply rg_fn rfl; (intro w4 hw; obtain ⟨⟨x0, x1, x2, x3, x4⟩, q0, q1, q2⟩ := HQ.out w4 hw.undrew; go_simp; try rfl); go_simp; (try with_reducible refine hK _ _ ?_); try clear hK K)
                  iterate 8 (refine rg_step fun K hK => rg_skip rfl ?_; go_simp; (try with_reducible refine hK _ _ ?_); try clear hK K)
                  iterate 2 (refine rg_step fun K hK => ?_; apply rg_fn rfl; (intro w4 hw; obtain ⟨⟨x0, x1, x2, x3, x4⟩, q0, q1, q2⟩ := HQ.out w4 hw.undrew; go_simp; try rfl); go_simp; (try with_reducible refine hK _ _ ?_); try clear hK K)
                  iterate 6 (refine rg_step fun K hK => rg_skip rfl ?_; go_simp; (try with_reducible refine hK _ _ ?_); try clear hK K)
                  iterate 2 (refine rg_step fun K hK => ?_; apply rg_fn rfl; (intro w4 hw; obtain ⟨⟨x0, x1, x2, x3, x4⟩, q0, q1, q2⟩ := HQ.out w4 hw.undrew; go_simp; try rfl); go_simp; (try with_reducible refine hK _ _ ?_); try clear hK K)
                  iterate 6 (refine rg_step fun K hK => rg_skip rfl ?_; go_simp; (try with_reducible refine hK _ _ ?_); try clear hK K)
                  iterate 1 (refine rg_step fun K hK => ?_; apply rg_fn rfl; (intro w4 hw; obtain ⟨⟨x0, x1, x2, x3, x4⟩, q0, q1, q2⟩ := HQ.out w4 hw.undrew; go_simp; try rfl); go_simp; (try with_reducible refine hK _ _ ?_); try clear hK K)
                  refine rg_nil ?_
                  rintro w5 hw5 _
                  have HB5 := Lib.hid (HI.out.later hw5.undrew).below
                  clear hw5
                  go_wp2_with fail
                  go_ret2
                  exact HPOST.out _ _ (by rw [HNOT.out]; rfl) HB5.out
          · obtain rfl : i = ws.length := by omega
            as_aux_lemma =>
              have hii : ¬ (ws.length : Int) < (ws.length : Int) := by omega
              have hlo : listOk m ws = true := listOk_to HOK.out
              have HLO := Lib.hid hlo
              have hfst := costW_find hn4 hlo (firstS_fit HM.out)
              rw [show (firstS m).y = 0 from rfl, ← nows_thicks hn4] at hfst
              have HFST := Lib.hid hfst
              have hwsW : ∀ W, Below w.heap.size w W → WorthsAt W W.heap.size (.slice lA ws.length lc) ws := fun W hW => (HWS.out.below hW).mono hW.size
              have HWSW := Lib.hid hwsW
              have hnl : (nows m).length ≤ 140737488355328 := by simp [nows]; omega
              have HNLL := Lib.hid hnl
              obtain ⟨x0, x1, x2, x3, x4⟩ := blk5 HI.out.box
              clear hlo hfst hwsW hnl HOK
              go_wp2_with fail
              refine (rnows_calls m (.slice sA m.slopes.length sc) (.slice cA m.crafts.length cc) Wr HI.out.slopes HI.out.crafts hn4).mono ?_
              rintro e w2 ⟨vn, rfl, hown2, hb2⟩
              have hia := own_ints hown2 HNLL.out
              obtain ⟨nA, nc, rfl, hrow2⟩ := hia
              have HI2 := Lib.hid (HI.out.later hb2)
              have hfc := rfind_calls (.slice lA ws.length lc) ws 0 nA nc (nows m) w2 (HWSW.out w2 HI2.out.below) hrow2
              have HFC := Lib.hid hfc
              clear hb2 hown2 hrow2 hfc x0 x1 x2 x3 x4
              go_wp2_with fail
              refine HFC.out.mono ?_
              rintro e w3 ⟨rfl, hb3⟩
              have HI3 := Lib.hid (HI2.out.later hb3)
              clear hb3 HFC
              rcases HFST.out with ⟨hf1, hf2⟩ | ⟨i0, xf, hf1, hf2, hf3⟩
              · rw [hf1]
                have hnot := provesB_none (least := least) HY0.out hf2
                have HNOT := Lib.hid hnot
                clear hf1 hf2 hnot HFST
                go_wp2_with fail
                go_ret2
                exact HPOST.out _ _ (by rw [HNOT.out]; rfl) HI3.out.below
              · rw [hf1]
                obtain ⟨b, o, rfl, hb, hcell⟩ := HWR.out (by intro e; rw [e] at hf2; simp at hf2)
                obtain ⟨uf, _, _, f2, _⟩ := hcell i0 _ hf2
                have hi0l := (List.getElem?_eq_some_iff.1 hf2).1
                have hi0i : (i0 : Int) < (ws.length : Int) := by omega
                have hi00 : (0 : Int) ≤ (i0 : Int) := by omega
                have hi0n : ¬ (i0 : Int) < 0 := by omega
                have hf4 := (HI3.out.below.cell (p := ⟨b, o + i0 * 3 + 2, none⟩) hb).trans f2
                have HCELL := Lib.hid hcell
                have HF3 := Lib.hid hf3
                have hbz : b < w3.heap.size := Nat.lt_of_lt_of_le hb HI3.out.below.size
                clear hcell f2 hf1 hf2 hf3 HFST
                generalize xf.c = cf at *
                by_cases hlow : cf < least
                · have hlowb : decide (cf < least) = true := by simpa using hlow
                  have hnot := provesB_low HY0.out HF3.out hlow
                  have HNOT := Lib.hid hnot
                  clear hnot
                  as_aux_lemma =>
                    go_wp2_with fail
                    go_ret2
                    exact HPOST.out _ _ (by rw [HNOT.out]; rfl) HI3.out.below
                · have hlowb : decide (cf < least) = false := by simpa using hlow
                  obtain ⟨x0, x1, x2, x3, x4⟩ := blk5 HI3.out.box
                  have hrc := rrows_calls m (.slice sA m.slopes.length sc) (.slice cA m.crafts.length cc) w3 HM.out HI3.out.slopes HI3.out.crafts
                  have HRC := Lib.hid hrc
                  have HLOW := Lib.hid hlow
                  clear hrc
                  go_wp2_with fail
                  refine HRC.out.mono ?_
                  rintro e w4 ⟨⟨vr, rfl, hor⟩, hb4⟩
                  have hrl : ∀ xs ∈ rowsS m, xs.length ≤ 1000000 := fun xs hx => by have := (rowsS_mem hx).1.len; omega
                  have hra := hor.rows (by omega) hrl
                  obtain ⟨rA, rc, rfl, _, hrr⟩ := hra
                  have HRR := Lib.hid hrr
                  have HI4 := Lib.hid (HI3.out.later hb4)
                  clear hb4 hor hrl hrr x0 x1 x2 x3 x4 HRC hf4
                  go_wp2_with fail
                  go_loopw [12] (fun c wr => ∃ i : Nat, i ≤ ws.length ∧ c = .int .i64 (i : Int) ∧ Hid (doneW m ws i) ∧ Hid (Below w4.heap.size w4 wr)) (fun c _ => ws.length - (intOf c).toNat)
                  case atStart => exact ⟨0, Nat.zero_le _, rfl, Lib.hid (fun j x hj => by omega), Lib.hid (Below.refl _ _)⟩
                  case round =>
                    obtain ⟨i, hi', rfl, HD, HB⟩ := hrel
                    obtain ⟨Wi, rfl⟩ : ∃ Wi, Wi = wr := ⟨_, rfl⟩
                    have zi := HB.out.size
                    by_cases hil : i < ws.length
                    · have hii2 : (i : Int) < (ws.length : Int) := by omega
                      have hi01 : (0 : Int) ≤ (i : Int) := by omega
                      have hiadd : IntKind.i64.wrap ((i : Int) + 1) = (i : Int) + 1 := IntWalk.i64_in _ (by omega)
                      have hgx : ws[i]? = some ws[i] := List.getElem?_eq_getElem hil
                      obtain ⟨u, c0, c1, c2, hu⟩ := HCELL.out i _ hgx
                      obtain ⟨uA, uc, rfl, hur⟩ := hu
                      have hwo : woOk m ws[i] = true := (okAt_spec (listOk_at HLO.out hil) hil).1
                      have hfx := woOk_fit hn4 hwo
                      have hsok := stW_ok HM.out hwo
                      have hws2 := woOk_spec hwo
                      have hxy : 0 ≤ ws[i].y ∧ ws[i].y < m.years := by have := outB_false.1 hws2.1; omega
                      have hxc : 0 ≤ ws[i].c ∧ ws[i].c ≤ 2000000000 := outB_false.1 hws2.2.2.1
                      have hdn : (∀ r ∈ (rowsS m).take (rowsS m).length, rowProves m (costW ws) (stW ws[i]) ws[i].c r = true) → doneW m ws (i + 1) := fun h j x hj hx r hr => by
                        rcases Nat.lt_or_ge j i with h1 | h1
                        · exact HD.out j x h1 hx r hr
                        · obtain rfl : j = i := by omega
                          rw [hgx] at hx; cases hx
                          exact h r (by rw [List.take_length]; exact hr)
                      have hbadr := fun (r : List Int) (hr : r ∈ rowsS m) (h : rowProves m (costW ws) (stW ws[i]) ws[i].c r = false) => provesB_row (least := least) HY0.out hgx hr h
                      have hcw := fun W (hW : Below w.heap.size w W) => And.intro ((hW.cell (p := ⟨b, o + i * 3, none⟩) hb).trans c0) (And.intro ((hW.cell (p := ⟨b, o + i * 3 + 1, none⟩) hb).trans c1) ((hW.cell (p := ⟨b, o + i * 3 + 2, none⟩) hb).trans c2))
                      have htl := thicks_stOf hn4 hfx.len ws[i].y
                      have HDN := Lib.hid hdn
                      have HBADR := Lib.hid hbadr
                      have HCW := Lib.hid hcw
                      have HUR := Lib.hid hur
                      have HFX := Lib.hid hfx
                      have HSOK := Lib.hid hsok
                      have HTL := Lib.hid htl
                      clear c0 c1 c2 hur hgx hwo hfx hsok hws2 hdn hbadr hcw htl
                      generalize ws[i] = x at *
                      go_wp2_with fail
                      go_loopw [13] (fun c wj => ∃ j : Nat, j ≤ (rowsS m).length ∧ c = .int .i64 (j : Int) ∧ Hid (∀ r ∈ (rowsS m).take j, rowProves m (costW ws) (stW x) x.c r = true) ∧ Hid (Below w4.heap.size w4 wj)) (fun c _ => (rowsS m).length - (intOf c).toNat)
                      case atStart => exact ⟨0, Nat.zero_le _, rfl, Lib.hid (by simp), HB⟩
                      case round =>
                        obtain ⟨j, hj, rfl, HRP, HB⟩ := hrel
                        obtain ⟨Wj, rfl⟩ : ∃ Wj, Wj = wr := ⟨_, rfl⟩
                        have zj := HB.out.size
                        by_cases hjl : j < (rowsS m).length
                        · have hji : (j : Int) < ((rowsS m).length : Int) := by omega
                          have hj0 : (0 : Int) ≤ (j : Int) := by omega
                          have hjadd : IntKind.i64.wrap ((j : Int) + 1) = (j : Int) + 1 := IntWalk.i64_in _ (by omega)
                          have hgr : (rowsS m)[j]? = some (rowsS m)[j] := List.getElem?_eq_getElem hjl
                          obtain ⟨rb, ro, rfl, hrb, hrcl⟩ := HRR.out (by intro e; rw [e] at hjl; simp at hjl)
                          obtain ⟨ur, hur, rA2, rc2, rfl, hrr2⟩ := hrcl j _ hgr
                          have hrmem := List.getElem_mem hjl
                          have hrok := (rowsS_mem hrmem).1
                          have hw4 : ∀ W, Grows Wj W → Below w4.heap.size w4 W := fun W hW => HB.out.trans (hW.mono zj)
                          have hIW : ∀ W, Grows Wj W → _ := fun W hW => HI4.out.later (hw4 W hW)
                          have hyear : ∀ W, Grows Wj W → _ := fun W hW => ryear_calls m (.slice sA m.slopes.length sc) (.slice cA m.crafts.length cc) (stW x) uA rA2 uc rc2 (rowsS m)[j] W HM.out HSOK.out hrok (hIW W hW).slopes (hIW W hW).crafts (by rw [show thicks m (stW x) = x.th from HTL.out]; exact (HUR.out.below (hIW W hW).below).mono (hIW W hW).below.size) ((hrr2.below (hw4 W hW)).mono (hw4 W hW).size)
                          rw [show thicks m (stW x) = x.th from HTL.out, show (stW x).y = x.y from rfl] at hyear
                          have hcosts : ∀ W, Grows Wj W → _ := fun W hW => costs_calls m (.slice sA m.slopes.length sc) (.slice cA m.crafts.length cc) rA2 rc2 (rowsS m)[j] W HM.out hrok (hIW W hW).slopes (hIW W hW).crafts ((hrr2.below (hw4 W hW)).mono (hw4 W hW).size)
                          have hq : ∀ W, Grows Wj W → _ := fun W hW => And.intro (blk5 (hIW W hW).box) (And.intro (((hw4 W hW).cell (p := ⟨rb, ro + j, none⟩) hrb).trans hur) (HCW.out W (hIW W hW).below))
                          have hfitn := stepS_fit HM.out (show StFit m (stW x) from HFX.out.st x.y) (rowsS m)[j]
                          have hfnd := costW_find hn4 HLO.out hfitn
                          have hsy : (stepS m (stW x) (rowsS m)[j]).y = x.y + 1 := rfl
                          have hyrs := fun (h : m.years ≤ (stepS m (stW x) (rowsS m)[j]).y) => costW_year (m := m) HLO.out (t := stepS m (stW x) (rowsS m)[j]) h
                          have hout := fun (h : keptS m (stW x) (rowsS m)[j] = false) => rowProves_out (m := m) (f := costW ws) (s := stW x) (n := x.c) (r := (rowsS m)[j]) h
                          have hin := fun (h : keptS m (stW x) (rowsS m)[j] = true) => rowProves_in (m := m) (f := costW ws) (s := stW x) (n := x.c) (r := (rowsS m)[j]) h
                          have hnx : rowProves m (costW ws) (stW x) x.c (rowsS m)[j] = true → ∀ r ∈ (rowsS m).take (j + 1), rowProves m (costW ws) (stW x) x.c r = true := fun h r hr => by
                            rw [List.take_succ_eq_append_getElem hjl] at hr
                            rcases List.mem_append.1 hr with h1 | h1
                            · exact HRP.out r h1
                            · have : r = (rowsS m)[j] := by simpa using h1
                              rw [this]; exact h
                          have hbr := HBADR.out _ hrmem
                          have hnl : (thicks m (stepS m (stW x) (rowsS m)[j])).length = m.slopes.length := thicks_length _ _
                          have hcbd := costS_bd HM.out hrok
                          rw [hsy] at hfnd hyrs hin
                          have HYEAR := Lib.hid hyear
                          have HCOSTS := Lib.hid hcosts
                          have HQ := Lib.hid hq
                          have HFND := Lib.hid hfnd
                          have HYRS := Lib.hid hyrs
                          have HOUT := Lib.hid hout
                          have HIN := Lib.hid hin
                          have HNX := Lib.hid hnx
                          have HBR := Lib.hid hbr
                          have HNL := Lib.hid hnl
                          have HIW := Lib.hid hIW
                          clear hrcl hur hrr2 hrok hw4 hIW hyear hcosts hq hfitn hfnd hsy hyrs hout hin hnx hbr hnl hgr hrmem
                          generalize hkd : keptS m (stW x) (rowsS m)[j] = kd at *
                          generalize rowProves m (costW ws) (stW x) x.c (rowsS m)[j] = rp at *
                          generalize thicks m (stepS m (stW x) (rowsS m)[j]) = nt at *
                          generalize stepS m (stW x) (rowsS m)[j] = nst at *
                          generalize costS m (rowsS m)[j] = co at *
                          generalize (rowsS m)[j] = rj at *
                          clear hkd
                          go_wp2_with fail
                          refine wp_region_rg Grows (fun | 15 => .any (yearV kd) (fun _ => YearD Wj.heap.size kd nt) | _ => .fn) (by kernel_rfl) (by kernel_rfl) Grows.refl growsT (by intro i; split <;> first | trivial | exact fun _ => yearD_stable _ _ _) ?_
                          iterate 15 (refine rg_step fun K hK => ?_; apply rg_fn rfl; (intro w4 hw; obtain ⟨⟨x0, x1, x2, x3, x4⟩, q1, q2, q3, q4⟩ := HQ.out w4 hw.undrew; go_simp; try rfl); go_simp; (try with_reducible refine hK _ _ ?_); try clear hK K)
                          refine rg_step fun K hK => ?_
                          apply rg_call_any (.inl rfl) rfl
                          · intro w4 hw
                            go_simp
                            exact ⟨rfl, rfl⟩
                          · intro w4 hw
                            refine (HYEAR.out w4 hw.undrew).mono ?_
                            rintro e w5 ⟨v', he, ho, hb⟩
                            obtain ⟨A5, n5, c5, rfl⟩ := own_slice ho
                            exact ⟨_, he, hb, ⟨_, _, _, rfl⟩, _, rfl, own_mono ho (Below.size hw.undrew)⟩
                          rintro v5 ⟨A5, n5, c5, rfl⟩
                          go_simp
                          (try with_reducible refine hK _ _ ?_)
                          try clear hK K
                          iterate 5 (refine rg_step fun K hK => ?_; apply rg_fn rfl; (intro w4 hw; go_simp; try rfl); go_simp; (try with_reducible refine hK _ _ ?_); try clear hK K)
                          refine rg_nil ?_
                          rintro w8 hw8 hD
                          replace hw8 := hw8.undrew
                          obtain ⟨u9, e9, hown8⟩ := hD
                          obtain rfl : Value.slice A5 n5 c5 = u9 := by simpa using e9
                          have HOWN8 := Lib.hid hown8
                          have HB8 := Lib.hid (HB.out.trans (hw8.mono zj))
                          have HG8 := Lib.hid hw8
                          clear hw8 hown8 e9 HYEAR
                          cases kd
                          · have HNX2 := Lib.hid (HNX.out (HOUT.out rfl))
                            go_wp2_with fail
                            go_round
                            case rel => exact ⟨j + 1, by omega, by go_num, HNX2, HB8⟩
                            case measure => simp [intOf]; omega
                          · have hin := HIN.out rfl
                            have HIN2 := Lib.hid hin
                            as_aux_lemma =>
                              have hysub : IntKind.i64.wrap (m.years - 1) = m.years - 1 := IntWalk.i64_in _ (by omega)
                              have hq8 : ∀ W, Grows w8 W → _ := fun W hW => HQ.out W (growsT _ _ _ HG8.out hW)
                              have HQ8 := Lib.hid hq8
                              clear hin hq8 HIN HOUT
                              by_cases hlt : x.y < m.years - 1
                              · have hltb : decide (x.y < m.years - 1) = true := by simpa using hlt
                                have hyadd : IntKind.i64.wrap (x.y + 1) = x.y + 1 := IntWalk.i64_in _ (by omega)
                                have hy1 : decide (x.y + 1 < m.years) = true := by simp; omega
                                go_wp2_with fail
                                refine wp_region_rg Grows (fun _ => .fn) (by kernel_rfl) (by kernel_rfl) Grows.refl growsT (fun _ => trivial) ?_
                                iterate 9 (refine rg_step fun K hK => ?_; apply rg_fn rfl; (intro w4 hw; obtain ⟨⟨x0, x1, x2, x3, x4⟩, q1, q2, q3, q4⟩ := HQ8.out w4 hw.undrew; go_simp; try rfl); go_simp; (try with_reducible refine hK _ _ ?_); try clear hK K)
                                refine rg_nil ?_
                                rintro w9 hw9 _
                                replace hw9 := hw9.undrew
                                have hg9 := growsT _ _ _ HG8.out hw9
                                have HGJ := Lib.hid hg9
                                have hI9 := HI4.out.later (HB.out.trans (hg9.mono zj))
                                have HI9 := Lib.hid hI9
                                have HB9 := Lib.hid (HB.out.trans (hg9.mono zj))
                                have hown9 := own_below HOWN8.out hw9 (fun b hb => (own_blk_lt HOWN8.out b hb).2)
                                have hia := own_ints hown9 (by rw [HNL.out]; omega)
                                obtain ⟨_, _, e9, hrow9⟩ := id hia
                                cases e9
                                have hfc := rfind_calls (.slice (some ⟨b, o, none⟩) ws.length lc) ws (x.y + 1) A5 c5 nt w9 (HWSW.out w9 hI9.below) hrow9
                                obtain ⟨_, q1, q2, q3, q4⟩ := HQ8.out w9 hw9
                                have hbz9 : b < w9.heap.size := Nat.lt_of_lt_of_le hb hI9.below.size
                                have HFC := Lib.hid hfc
                                clear hw9 hg9 hI9 hown9 hia hrow9 hfc
                                go_wp2_with fail
                                refine HFC.out.mono ?_
                                rintro e w10 ⟨rfl, hb10⟩
                                have HG10 := Lib.hid (growsT _ _ _ HGJ.out hb10)
                                have HI10 := Lib.hid (HI9.out.later hb10)
                                have HB10 := Lib.hid (HB9.out.trans (hb10.mono HB9.out.size))
                                clear hb10 HFC q1 q2 q3 q4
                                rcases HFND.out with ⟨hf1, hf2⟩ | ⟨i2, x2, hf1, hf2, hf3⟩
                                · rw [hf1]
                                  have hin := HIN2.out
                                  rw [hf2, hy1] at hin
                                  have hnot := HBR.out (by rw [hin]; rfl)
                                  have HNOT := Lib.hid hnot
                                  clear hf1 hf2 hin hnot
                                  as_aux_lemma =>
                                    go_wp2_with fail
                                    go_ret2
                                    exact HPOST.out _ _ (by rw [HNOT.out]; rfl) HI10.out.below
                                · rw [hf1]
                                  have hin := HIN2.out
                                  rw [hf3] at hin
                                  simp only [Option.isSome_some, Bool.not_true, Bool.and_false, Bool.false_or, Option.getD_some] at hin
                                  have hwo2 : woOk m x2 = true := by
                                    have h1 := (List.getElem?_eq_some_iff.1 hf2).1
                                    have h2 := (okAt_spec (listOk_at HLO.out h1) h1).1
                                    rwa [(List.getElem?_eq_some_iff.1 hf2).2] at h2
                                  have hx2c : 0 ≤ x2.c ∧ x2.c ≤ 2000000000 := outB_false.1 (woOk_spec hwo2).2.2.1
                                  obtain ⟨u2, _, _, f2, _⟩ := HCELL.out i2 _ hf2
                                  have hi2l := (List.getElem?_eq_some_iff.1 hf2).1
                                  have hi2i : (i2 : Int) < (ws.length : Int) := by omega
                                  have hi20 : (0 : Int) ≤ (i2 : Int) := by omega
                                  have hi2n : ¬ (i2 : Int) < 0 := by omega
                                  have hf4 := (HI10.out.below.cell (p := ⟨b, o + i2 * 3 + 2, none⟩) hb).trans f2
                                  have hbz10 : b < w10.heap.size := Nat.lt_of_lt_of_le hb HI10.out.below.size
                                  have HIN3 := Lib.hid hin
                                  clear hf1 hf2 hf3 hin hwo2 f2 HIN2 HFND
                                  generalize x2.c = c2 at *
                                  have hsum : IntKind.i64.wrap (c2 + co) = c2 + co := IntWalk.i64_in _ (by omega)
                                  have hcom : c2 + co = co + c2 := Int.add_comm _ _
                                  have HCOM := Lib.hid hcom
                                  clear hcom
                                  by_cases hbig : x.c > c2 + co
                                  · have hbigb : decide (x.c > c2 + co) = true := by simpa using hbig
                                    have hbigb2 : decide (c2 + co < x.c) = true := by simpa using hbig
                                    have hnot := HBR.out (by rw [HIN3.out]; simp; omega)
                                    have HNOT := Lib.hid hnot
                                    clear hnot
                                    as_aux_lemma =>
                                      go_wp2_with fail
                                      refine wp_region_rg Grows (fun | 11 => .ex (.int .i64 co) | _ => .fn) (by kernel_rfl) (by kernel_rfl) Grows.refl growsT (by intro i; split <;> trivial) ?_
                                      iterate 11 (refine rg_step fun K hK => ?_; apply rg_fn rfl; (intro w4 hw; obtain ⟨⟨x0, x1, x2, x3, x4⟩, q1, q2, q3, q4⟩ := HQ.out w4 (growsT _ _ _ HG10.out hw.undrew); go_simp; try rfl); go_simp; (try with_reducible refine hK _ _ ?_); try clear hK K)
                                      refine rg_step fun K hK => ?_
                                      apply rg_call (.inl rfl) rfl
                                      · intro w4 hw
                                        go_simp
                                        exact ⟨rfl, rfl⟩
                                      · intro w4 hw
                                        exact HCOSTS.out w4 (growsT _ _ _ HG10.out hw.undrew)
                                      go_simp
                                      (try with_reducible refine hK _ _ ?_)
                                      try clear hK K
                                      iterate 2 (refine rg_step fun K hK => ?_; apply rg_fn rfl; (intro w4 hw; go_simp; try rfl); go_simp; (try with_reducible refine hK _ _ ?_); try clear hK K)
                                      refine rg_nil ?_
                                      rintro wa hwa _
                                      have HEND := Lib.hid (HI10.out.later hwa.undrew).below
                                      clear hwa
                                      go_wp2_with fail
                                      go_ret2
                                      exact HPOST.out _ _ (by rw [HNOT.out]; rfl) HEND.out
                                  · have hbigb : decide (x.c > c2 + co) = false := by simpa using hbig
                                    have hbigb2 : decide (c2 + co < x.c) = false := by simpa using hbig
                                    have HNX2 := Lib.hid (HNX.out (by rw [HIN3.out]; simp; omega))
                                    as_aux_lemma =>
                                      go_wp2_with fail
                                      refine wp_region_rg Grows (fun | 11 => .ex (.int .i64 co) | _ => .fn) (by kernel_rfl) (by kernel_rfl) Grows.refl growsT (by intro i; split <;> trivial) ?_
                                      iterate 11 (refine rg_step fun K hK => ?_; apply rg_fn rfl; (intro w4 hw; obtain ⟨⟨x0, x1, x2, x3, x4⟩, q1, q2, q3, q4⟩ := HQ.out w4 (growsT _ _ _ HG10.out hw.undrew); go_simp; try rfl); go_simp; (try with_reducible refine hK _ _ ?_); try clear hK K)
                                      refine rg_step fun K hK => ?_
                                      apply rg_call (.inl rfl) rfl
                                      · intro w4 hw
                                        go_simp
                                        exact ⟨rfl, rfl⟩
                                      · intro w4 hw
                                        exact HCOSTS.out w4 (growsT _ _ _ HG10.out hw.undrew)
                                      go_simp
                                      (try with_reducible refine hK _ _ ?_)
                                      try clear hK K
                                      iterate 2 (refine rg_step fun K hK => ?_; apply rg_fn rfl; (intro w4 hw; go_simp; try rfl); go_simp; (try with_reducible refine hK _ _ ?_); try clear hK K)
                                      refine rg_nil ?_
                                      rintro wa hwa _
                                      have HBA := Lib.hid (HB10.out.trans (hwa.undrew.mono HB10.out.size))
                                      clear hwa
                                      go_wp2_with fail
                                      go_round
                                      case rel => exact ⟨j + 1, by omega, by go_num, HNX2, HBA⟩
                                      case measure => simp [intOf]; omega
                              · have hltb : decide (x.y < m.years - 1) = false := by simpa using hlt
                                have hcn := HYRS.out (by omega)
                                have hin := HIN2.out
                                rw [hcn] at hin
                                have hy1 : decide (x.y + 1 < m.years) = false := by simp; omega
                                rw [hy1] at hin
                                simp only [Option.getD_none, Int.add_zero, Bool.false_and, Bool.false_or] at hin
                                have HIN3 := Lib.hid hin
                                have hz0 : IntKind.i64.wrap (0 + co) = co := by rw [IntWalk.i64_in _ (by omega)]; omega
                                have hz1 : IntKind.i64.wrap co = co := IntWalk.i64_in _ (by omega)
                                clear hcn hin HIN2
                                go_wp2_with fail
                                refine wp_region_rg Grows (fun _ => .fn) (by kernel_rfl) (by kernel_rfl) Grows.refl growsT (fun _ => trivial) ?_
                                iterate 9 (refine rg_step fun K hK => ?_; apply rg_fn rfl; (intro w4 hw; obtain ⟨⟨x0, x1, x2, x3, x4⟩, q1, q2, q3, q4⟩ := HQ8.out w4 hw.undrew; go_simp; try rfl); go_simp; (try with_reducible refine hK _ _ ?_); try clear hK K)
                                refine rg_nil ?_
                                rintro w9 hw9 _
                                replace hw9 := hw9.undrew
                                have HG9 := Lib.hid hw9
                                have hg9 := growsT _ _ _ HG8.out hw9
                                have HGJ := Lib.hid hg9
                                have HB9 := Lib.hid (HB.out.trans (hg9.mono zj))
                                clear hw9 hg9
                                by_cases hbig : x.c > co
                                · have hbigb : decide (x.c > co) = true := by simpa using hbig
                                  have hbigb2 : decide (co < x.c) = true := by simpa using hbig
                                  have hnot := HBR.out (by rw [HIN3.out, hbigb]; rfl)
                                  have HNOT := Lib.hid hnot
                                  clear hnot
                                  as_aux_lemma =>
                                    go_wp2_with fail
                                    refine wp_region_rg Grows (fun | 11 => .ex (.int .i64 co) | _ => .fn) (by kernel_rfl) (by kernel_rfl) Grows.refl growsT (by intro i; split <;> trivial) ?_
                                    iterate 11 (refine rg_step fun K hK => ?_; apply rg_fn rfl; (intro w4 hw; obtain ⟨⟨x0, x1, x2, x3, x4⟩, q1, q2, q3, q4⟩ := HQ8.out w4 (growsT _ _ _ HG9.out hw.undrew); go_simp; try rfl); go_simp; (try with_reducible refine hK _ _ ?_); try clear hK K)
                                    refine rg_step fun K hK => ?_
                                    apply rg_call (.inl rfl) rfl
                                    · intro w4 hw
                                      go_simp
                                      exact ⟨rfl, rfl⟩
                                    · intro w4 hw
                                      exact HCOSTS.out w4 (growsT _ _ _ HGJ.out hw.undrew)
                                    go_simp
                                    (try with_reducible refine hK _ _ ?_)
                                    try clear hK K
                                    iterate 2 (refine rg_step fun K hK => ?_; apply rg_fn rfl; (intro w4 hw; go_simp; try rfl); go_simp; (try with_reducible refine hK _ _ ?_); try clear hK K)
                                    refine rg_nil ?_
                                    rintro wa hwa _
                                    have HEND := Lib.hid (HI4.out.later (HB9.out.trans (hwa.undrew.mono HB9.out.size))).below
                                    clear hwa
                                    go_wp2_with fail
                                    go_ret2
                                    exact HPOST.out _ _ (by rw [HNOT.out]; rfl) HEND.out
                                · have hbigb : decide (x.c > co) = false := by simpa using hbig
                                  have hbigb2 : decide (co < x.c) = false := by simpa using hbig
                                  have HNX2 := Lib.hid (HNX.out (by rw [HIN3.out, hbigb]; rfl))
                                  as_aux_lemma =>
                                    go_wp2_with fail
                                    refine wp_region_rg Grows (fun | 11 => .ex (.int .i64 co) | _ => .fn) (by kernel_rfl) (by kernel_rfl) Grows.refl growsT (by intro i; split <;> trivial) ?_
                                    iterate 11 (refine rg_step fun K hK => ?_; apply rg_fn rfl; (intro w4 hw; obtain ⟨⟨x0, x1, x2, x3, x4⟩, q1, q2, q3, q4⟩ := HQ8.out w4 (growsT _ _ _ HG9.out hw.undrew); go_simp; try rfl); go_simp; (try with_reducible refine hK _ _ ?_); try clear hK K)
                                    refine rg_step fun K hK => ?_
                                    apply rg_call (.inl rfl) rfl
                                    · intro w4 hw
                                      go_simp
                                      exact ⟨rfl, rfl⟩
                                    · intro w4 hw
                                      exact HCOSTS.out w4 (growsT _ _ _ HGJ.out hw.undrew)
                                    go_simp
                                    (try with_reducible refine hK _ _ ?_)
                                    try clear hK K
                                    iterate 2 (refine rg_step fun K hK => ?_; apply rg_fn rfl; (intro w4 hw; go_simp; try rfl); go_simp; (try with_reducible refine hK _ _ ?_); try clear hK K)
                                    refine rg_nil ?_
                                    rintro wa hwa _
                                    have HBA := Lib.hid (HB9.out.trans (hwa.undrew.mono HB9.out.size))
                                    clear hwa
                                    go_wp2_with fail
                                    go_round
                                    case rel => exact ⟨j + 1, by omega, by go_num, HNX2, HBA⟩
                                    case measure => simp [intOf]; omega
                        · obtain rfl : j = (rowsS m).length := by omega
                          have hji : ¬ ((rowsS m).length : Int) < ((rowsS m).length : Int) := by omega
                          have HDN2 := Lib.hid (HDN.out HRP.out)
                          go_wp2_with fail
                          go_round
                          case rel => exact ⟨i + 1, by omega, by go_num, HDN2, HB⟩
                          case measure => simp [intOf]; omega
                    · obtain rfl : i = ws.length := by omega
                      have hii2 : ¬ (ws.length : Int) < (ws.length : Int) := by omega
                      have hall := provesB_all (least := least) HY0.out HLO.out HF3.out (by have := HLOW.out; omega) HD.out
                      have HALL := Lib.hid hall
                      have HEND := Lib.hid (HI4.out.later HB.out).below
                      clear hall
                      go_wp2_with fail
                      go_ret2
                      exact HPOST.out _ _ (by rw [HALL.out]; rfl) HEND.out
  · have hne : (checkS m != 0) = true := by simpa using hc
    have hne2 : (!(checkS m == 0)) = true := by simpa using hc
    have hl : provesS m least ws = (false, checkS m) := by unfold provesS; rw [if_neg hc]
    have HL := Lib.hid hl
    clear hc hl
    generalize checkS m = ce at *
    go_wp2_with fail
    go_ret2
    exact HPOST0.out _ _ (by rw [HL.out]; rfl) H1.out.below
end Go.Proofs.Ytccplobhfokcgaa

/- SameWorths. -/
namespace Go.Proofs.Ytccplobhfokcgaa
open Go Go.RowKit Go.Shelf
set_option maxRecDepth 100000

theorem worths_self {v v' : Value} {ws : List Wo} {w : World} (h : WorthsAt w w.heap.size v ws) (h' : WorthsAt w w.heap.size v' ws) : ∃ A c A' c', v = .slice A ws.length c ∧ v' = .slice A' ws.length c' := by
  obtain ⟨A, c, e, _⟩ := h
  obtain ⟨A', c', e', _⟩ := h'
  exact ⟨A, c, A', c', e, e'⟩
set_option maxHeartbeats 8000000 in
/-- Two lists that read alike are the same. -/
theorem sameWorths_calls (v v' : Value) (ws : List Wo) (w : World) (h : WorthsAt w w.heap.size v ws) (h' : WorthsAt w w.heap.size v' ws) :
    Calls Try.prog 31 #[v, v'] w fun e w' => e = .returned (.bool true) ∧ Below w.heap.size w w' := by
  obtain ⟨pA, pc, rfl, hpl, hpr⟩ := h
  obtain ⟨qA, qc, rfl, hql, hqr⟩ := h'
  have HPR := Lib.hid hpr
  have HQR := Lib.hid hqr
  have hn1 : ((ws.length : Int) != (ws.length : Int)) = false := by simp
  have hn2 : (!((ws.length : Int) == (ws.length : Int))) = false := by simp
  clear hpr hqr
  go_enter Try.func31, Try.ntmps31
  go_wp2_with fail
  go_loopw [5] (fun c wr => ∃ i : Nat, i ≤ ws.length ∧ c = .int .i64 (i : Int) ∧ Hid (Below w.heap.size w wr)) (fun c _ => ws.length - (intOf c).toNat)
  case atStart => exact ⟨0, Nat.zero_le _, rfl, Lib.hid (Below.refl _ _)⟩
  case round =>
    obtain ⟨i, hi, rfl, HB⟩ := hrel
    obtain ⟨Wr, rfl⟩ : ∃ Wr, Wr = wr := ⟨_, rfl⟩
    have hsz := HB.out.size
    by_cases hil : i < ws.length
    · have hii : (i : Int) < (ws.length : Int) := by omega
      have hi0 : (0 : Int) ≤ (i : Int) := by omega
      have hiadd : IntKind.i64.wrap ((i : Int) + 1) = (i : Int) + 1 := IntWalk.i64_in _ (by omega)
      obtain ⟨b, o, rfl, hb, hc⟩ := HPR.out (by intro e; rw [e] at hil; simp at hil)
      obtain ⟨b', o', rfl, hb', hc'⟩ := HQR.out (by intro e; rw [e] at hil; simp at hil)
      obtain ⟨u, c0, c1, c2, hu⟩ := hc i _ (List.getElem?_eq_getElem hil)
      obtain ⟨u', d0, d1, d2, hu'⟩ := hc' i _ (List.getElem?_eq_getElem hil)
      obtain ⟨uA, uc, rfl, hur⟩ := hu
      obtain ⟨vA, vc, rfl, hvr⟩ := hu'
      have hW : ∀ W, Grows Wr W → Below w.heap.size w W := fun W hW => HB.out.trans (hW.mono hsz)
      have hq : ∀ W, Grows Wr W → _ := fun W hG => And.intro (((hW W hG).cell (p := ⟨b, o + i * 3, none⟩) hb).trans c0) (And.intro (((hW W hG).cell (p := ⟨b, o + i * 3 + 1, none⟩) hb).trans c1) (And.intro (((hW W hG).cell (p := ⟨b, o + i * 3 + 2, none⟩) hb).trans c2)
        (And.intro (((hW W hG).cell (p := ⟨b', o' + i * 3, none⟩) hb').trans d0) (And.intro (((hW W hG).cell (p := ⟨b', o' + i * 3 + 1, none⟩) hb').trans d1) (((hW W hG).cell (p := ⟨b', o' + i * 3 + 2, none⟩) hb').trans d2)))))
      have hs : ∀ W, Grows Wr W → _ := fun W hG => sameInts_calls W.heap.size uA vA uc vc ws[i].th ws[i].th W ((hur.below (hW W hG)).mono (hW W hG).size) ((hvr.below (hW W hG)).mono (hW W hG).size) (Nat.le_refl _)
      rw [decide_eq_true rfl] at hs
      have HQ := Lib.hid hq
      have HS := Lib.hid hs
      clear hc hc' c0 c1 c2 d0 d1 d2 hur hvr hW hq hs
      generalize ws[i] = x at *
      have hy1 : (x.y != x.y) = false := by simp
      have hy2 : (!(x.y == x.y)) = false := by simp
      have hc1 : (x.c != x.c) = false := by simp
      have hc2 : (!(x.c == x.c)) = false := by simp
      go_wp2_with fail
      refine wp_region_rg Grows (fun | 35 => .ex (.bool true) | _ => .fn) (by kernel_rfl) (by kernel_rfl) Grows.refl growsT (by intro i; split <;> trivial) ?_
      iterate 35 (refine rg_step fun K hK => ?_; apply rg_fn rfl; (intro w4 hw; obtain ⟨q0, q1, q2, q3, q4, q5⟩ := HQ.out w4 hw.undrew; go_simp; try rfl); go_simp; (try with_reducible refine hK _ _ ?_); try clear hK K)
      refine rg_step fun K hK => ?_
      apply rg_call (.inl rfl) rfl
      · intro w4 hw
        go_simp
        exact ⟨rfl, rfl⟩
      · intro w4 hw
        exact HS.out w4 hw.undrew
      go_simp
      (try with_reducible refine hK _ _ ?_)
      try clear hK K
      iterate 2 (refine rg_step fun K hK => ?_; apply rg_fn rfl; (intro w4 hw; go_simp; try rfl); go_simp; (try with_reducible refine hK _ _ ?_); try clear hK K)
      refine rg_nil ?_
      rintro w5 hw5 _
      have HB5 := Lib.hid (HB.out.trans (hw5.undrew.mono hsz))
      clear hw5
      go_wp2_with fail
      go_round
      case rel => exact ⟨i + 1, by omega, by go_num, HB5⟩
      case measure => simp [intOf]; omega
    · obtain rfl : i = ws.length := by omega
      have hii : ¬ (ws.length : Int) < (ws.length : Int) := by omega
      go_wp2_with fail
      go_ret
      exact ⟨rfl, HB.out⟩
end Go.Proofs.Ytccplobhfokcgaa

/- MendBound: the walk. -/
namespace Go.Proofs.Ytccplobhfokcgaa
open Go Go.RowKit Go.Shelf
set_option maxRecDepth 100000

set_option maxHeartbeats 2000000 in
theorem broad_calls (lv : Value) (ws : List Wo) (w : World) (hp : WorthsAt w w.heap.size lv ws) :
    Calls Try.prog 26 #[lv] w (AnyBool w) := by
  obtain ⟨pA, pc, rfl, hpl, hpr⟩ := hp
  have HPR := Lib.hid hpr
  clear hpr
  go_enter Try.func26, Try.ntmps26
  have hloop : (ws.length : Int) > 300 ∧ (ws.length : Int) ≤ 2000 ∨ (ws.length : Int) > 3000 ∨ (((ws.length : Int) > 300 ∧ ¬ (ws.length : Int) ≤ 2000 ∨ ¬ (ws.length : Int) > 300) ∧ ¬ (ws.length : Int) > 3000) := by omega
  rcases hloop with ⟨h1, h2⟩ | h3 | ⟨h1, h3⟩
  · go_wp2_with fail
    go_ret
    exact ⟨⟨_, rfl⟩, Below.refl _ _⟩
  · have h1 : (ws.length : Int) > 300 := by omega
    have h2 : ¬ (ws.length : Int) ≤ 2000 := by omega
    go_wp2_with fail
    go_ret
    exact ⟨⟨_, rfl⟩, Below.refl _ _⟩
  · have H3 := Lib.hid h3
    rcases h1 with ⟨h1, h2⟩ | h1
    all_goals
      go_wp2_with fail
      go_loop [3] (fun c => ∃ i : Nat, i ≤ ws.length ∧ c = .int .i64 (i : Int)) (fun c => ws.length - (intOf c).toNat)
      case atStart => exact ⟨0, Nat.zero_le _, rfl⟩
      case round =>
        obtain ⟨i, hi, rfl⟩ := hrel
        by_cases hlt : i < ws.length
        · obtain ⟨b, o, rfl, hb, hc⟩ := HPR.out (by intro e; rw [e] at hlt; simp at hlt)
          obtain ⟨u, _, hu, _, rA, rc, rfl, _⟩ := hc i _ (List.getElem?_eq_getElem hlt)
          have hil : (i : Int) < (ws.length : Int) := by omega
          have hi0 : (0 : Int) ≤ (i : Int) := by omega
          have hadd : IntKind.i64.wrap ((i : Int) + 1) = (i : Int) + 1 := IntWalk.i64_in _ (by omega)
          generalize ws[i].th.length = n at *
          by_cases hn : (n : Int) > 20
          · go_wp2_with fail
            go_ret
            exact ⟨⟨_, rfl⟩, Below.refl _ _⟩
          · go_wp2_with fail
            go_round
            case rel => exact ⟨i + 1, by omega, by go_num⟩
            case measure => simp [intOf]; omega
        · have hil : ¬ (i : Int) < (ws.length : Int) := by omega
          go_wp2_with fail
          go_ret
          exact ⟨⟨_, rfl⟩, Below.refl _ _⟩

theorem provesS_not {m : Wk} {least : Int} {ws : List Wo} (h : (provesS m least ws).2 ≠ 0) : (provesS m least ws).1 = false := by
  unfold provesS at h ⊢
  by_cases hc : checkS m = 0
  · rw [if_pos hc] at h ⊢
    by_cases hl : 2000 < ws.length
    · rw [if_pos hl]
    · rw [if_neg hl] at h; exact absurd rfl h
  · rw [if_neg hc]
theorem provesS_yes {m : Wk} {least : Int} {ws : List Wo} (h : (provesS m least ws).2 = 0) (hy : (provesS m least ws).1 = true) : checkS m = 0 ∧ provesB m least ws = true := by
  unfold provesS at h hy
  by_cases hc : checkS m = 0
  · rw [if_pos hc] at h hy
    by_cases hl : 2000 < ws.length
    · rw [if_pos hl] at h; cases h
    · rw [if_neg hl] at hy; exact ⟨hc, hy⟩
  · rw [if_neg hc] at hy; cases hy
/-- What a proof says is at most what the cheapest plan costs. -/
theorem proves_cheap {m : Wk} {least : Int} {ws : List Wo} (h : provesB m least ws = true) (he : (cheapS m).2.2.2 = 0) (hf : (cheapS m).2.2.1 = true) : least ≤ (cheapS m).2.1 := by
  obtain ⟨hc, _, hv, e⟩ := cheapS_fine he hf
  have hm := checkS_ok hc
  have hl := planS_length (m := m) hm.years.1
  have h1 := proves_sound hm h (planOk_planS hm hv) (fun j hj => keptIn_planS hm hv (by omega))
  have h2 := costPl_planS hm hv (planS m).length (by omega)
  have h3 := (chS_ok hm hv (planS m).length (by omega)).y
  rw [valS_end (by rw [h3]; omega)] at h2
  rw [e]
  show least ≤ valS m (firstS m)
  omega

set_option maxHeartbeats 8000000 in
theorem mendBound_calls (m : Wk) (sl cr : Value) (least : Int) (lv : Value) (ws : List Wo) (pv : Value) (plan : List (List Int)) (w : World) (hsl : SlopesAt w w.heap.size sl m.slopes) (hcr : CraftsAt w w.heap.size cr m.crafts) (hws : WorthsAt w w.heap.size lv ws) (hp : RowsAt w w.heap.size pv plan) :
    Calls Try.prog 11 #[.agg #[sl, cr, .int .i64 m.years, .int .i64 m.visit, .int .i64 m.hands], .int .i64 least, lv, pv] w (LawPost w) := by
  obtain ⟨sA, sc, rfl, _, _⟩ := id hsl
  obtain ⟨cA, cc, rfl, _, _⟩ := id hcr
  obtain ⟨pA, pc, rfl, hpl, _⟩ := id hp
  obtain ⟨lA, lc, rfl, hll, _⟩ := id hws
  obtain ⟨w0, hw0⟩ : ∃ w0, w0 = w.alloc (.cells #[.slice sA m.slopes.length sc, .slice cA m.crafts.length cc, .int .i64 m.years, .int .i64 m.visit, .int .i64 m.hands] 25) := ⟨_, rfl⟩
  have h0 := LawInv.start hsl hcr
  rw [← hw0] at h0
  have x5 := blk5 h0.box
  rw [hw0] at x5
  obtain ⟨x0, x1, x2, x3, x4⟩ := x5
  have HP := Lib.hid hp
  have HWS := Lib.hid hws
  have H0 := Lib.hid h0
  have HW0 := Lib.hid hw0
  clear hp hws h0 hw0 hsl hcr
  go_enter Try.func11, Try.ntmps11
  go_wp2_with fail
  rw [← HW0.out]
  refine (great_calls m _ _ w0 H0.out.slopes H0.out.crafts).mono ?_
  rintro e w1 ⟨⟨g, rfl⟩, hb1⟩
  have H1 := Lib.hid (H0.out.later hb1)
  clear hb1 x0 x1 x2 x3 x4 H0 HW0
  cases g
  · go_wp2_with fail
    refine (broad_calls _ ws w1 ((HWS.out.below H1.out.below).mono H1.out.below.size)).mono ?_
    rintro e w2 ⟨⟨b, rfl⟩, hb2⟩
    have H2 := Lib.hid (H1.out.later hb2)
    clear hb2 H1
    cases b
    · go_wp2_with fail
      refine (long_calls _ plan w2 ((HP.out.below H2.out.below).mono H2.out.below.size)).mono ?_
      rintro e w3 ⟨⟨l, rfl⟩, hb3⟩
      have H3 := Lib.hid (H2.out.later hb3)
      clear hb3 H2
      cases l
      · obtain ⟨x0, x1, x2, x3, x4⟩ := blk5 H3.out.box
        go_wp2_with fail
        refine (proves_calls m _ _ _ least ws w3 H3.out.slopes H3.out.crafts ((HWS.out.below H3.out.below).mono H3.out.below.size)).mono ?_
        rintro e w4 ⟨rfl, hb4⟩
        have H4 := Lib.hid (H3.out.later hb4)
        clear hb4 H3 x0 x1 x2 x3 x4
        have hno := provesS_not (m := m) (least := least) (ws := ws)
        have hyes := provesS_yes (m := m) (least := least) (ws := ws)
        generalize (provesS m least ws).2 = pe at *
        generalize (provesS m least ws).1 = py at *
        have HNO := Lib.hid hno
        have HYES := Lib.hid hyes
        clear hno hyes
        by_cases he : pe = 0
        · have he1 : (pe != 0) = false := by simp [he]
          have he2 : (!(pe == 0)) = false := by simp [he]
          cases py
          · clear he
            go_wp2_with (go_at_call 16; refine (runs_law H4.out).mono ?_; rintro e wr ⟨rfl, hr⟩; have HR := Lib.hid hr; clear hr)
            go_ret
            exact HR.out
          · obtain ⟨hck, hpb⟩ := HYES.out he rfl
            have HCK := Lib.hid hck
            have HPB := Lib.hid hpb
            obtain ⟨x0, x1, x2, x3, x4⟩ := blk5 H4.out.box
            clear he hck hpb HNO HYES
            go_wp2_with fail
            refine (follow_calls m _ _ _ plan w4 H4.out.slopes H4.out.crafts ((HP.out.below H4.out.below).mono H4.out.below.size)).mono ?_
            rintro e w5 ⟨v5, rfl, _, hb5⟩
            have H5 := Lib.hid (H4.out.later hb5)
            clear hb5 H4 x0 x1 x2 x3 x4
            have hfine : (followS m plan).2.2.2 = 0 → ¬ (followS m plan).2.2.1 ≥ 0 → least ≤ (followS m plan).2.1 := fun h1 h2 => by
              obtain ⟨h3, h4, h5, h6⟩ := followS_fine h1 h2
              rw [h6]
              exact proves_sound (checkS_ok h3) HPB.out h4 h5
            generalize (followS m plan).2.2.2 = fe at *
            generalize (followS m plan).2.2.1 = fa at *
            generalize (followS m plan).2.1 = fc at *
            have HF := Lib.hid hfine
            clear hfine
            obtain ⟨x0, x1, x2, x3, x4⟩ := blk5 H5.out.box
            have hcases : (∃ p, (fe == 0) = p ∧ (p = false ∨ p = true ∧ (¬ fa < 0 ∨ fa < 0 ∧ ¬ fc < least))) := by
              by_cases h1 : fe = 0
              · refine ⟨true, by simp [h1], .inr ⟨rfl, ?_⟩⟩
                by_cases h2 : fa < 0
                · have := HF.out h1 (by omega)
                  exact .inr ⟨h2, by omega⟩
                · exact .inl h2
              · exact ⟨false, by simpa using h1, .inl rfl⟩
            have hch := proves_cheap (m := m) (least := least) (ws := ws) HPB.out
            have HCH := Lib.hid hch
            clear hch
            obtain ⟨p, hp0, hp1⟩ := hcases
            rcases hp1 with rfl | ⟨rfl, hp2 | ⟨hp2, hp3⟩⟩
            all_goals
              go_wp2_with fail
              refine (cheap_calls m _ _ w5 H5.out.slopes H5.out.crafts).mono ?_
              rintro e w6 ⟨v6, rfl, _, hb6⟩
              have H6 := Lib.hid (H5.out.later hb6)
              clear hb6 H5 x0 x1 x2 x3 x4
              have hch := HCH.out
              generalize (cheapS m).2.2.2 = ce at *
              generalize (cheapS m).2.2.1 = cf at *
              generalize (cheapS m).2.1 = cc2 at *
              by_cases hce : ce = 0
              · have hce1 : (ce != 0) = false := by simp [hce]
                have hce2 : (!(ce == 0)) = false := by simp [hce]
                cases cf
                · clear hch hce
                  go_wp2_with (go_at_call 16; refine (runs_law H6.out).mono ?_; rintro e wr ⟨rfl, hr⟩; have HR := Lib.hid hr; clear hr)
                  go_ret
                  exact HR.out
                · have hge : cc2 ≥ least := hch hce rfl
                  clear hch hce
                  go_wp2_with (go_at_call 16; refine (runs_law H6.out).mono ?_; rintro e wr ⟨rfl, hr⟩; have HR := Lib.hid hr; clear hr)
                  go_ret
                  exact HR.out
              · have hce1 : (ce != 0) = true := by simpa using hce
                have hce2 : (!(ce == 0)) = true := by simpa using hce
                clear hch hce
                go_wp2_with (go_at_call 16; refine (runs_law H6.out).mono ?_; rintro e wr ⟨rfl, hr⟩; have HR := Lib.hid hr; clear hr)
                go_ret
                exact HR.out
        · have he1 : (pe != 0) = true := by simpa using he
          have he2 : (!(pe == 0)) = true := by simpa using he
          have hpy : py = false := HNO.out he
          subst hpy
          clear he
          go_wp2_with (go_at_call 16; refine (runs_law H4.out).mono ?_; rintro e wr ⟨rfl, hr⟩; have HR := Lib.hid hr; clear hr)
          go_ret
          exact HR.out
      · go_wp2_with (go_at_call 16; refine (runs_law H3.out).mono ?_; rintro e wr ⟨rfl, hr⟩; have HR := Lib.hid hr; clear hr)
        go_ret
        exact HR.out
    · go_wp2_with (go_at_call 16; refine (runs_law H2.out).mono ?_; rintro e wr ⟨rfl, hr⟩; have HR := Lib.hid hr; clear hr)
      go_ret
      exact HR.out
  · go_wp2_with (go_at_call 16; refine (runs_law H1.out).mono ?_; rintro e wr ⟨rfl, hr⟩; have HR := Lib.hid hr; clear hr)
    go_ret
    exact HR.out
end Go.Proofs.Ytccplobhfokcgaa

/- Arguments that came in, opened: works, plans, lists of values. -/
namespace Go.Proofs.Ytccplobhfokcgaa
open Go Go.RowKit Go.Shelf
open Go.Joins Go.ChangeShapes Go.WideShapes Go.Deep
set_option maxRecDepth 100000

theorem list_choose {α : Type} {P : Nat → α → Prop} : ∀ n, (∀ i, i < n → ∃ a, P i a) → ∃ l : List α, l.length = n ∧ ∀ i a, l[i]? = some a → P i a
  | 0, _ => ⟨[], rfl, fun i a h => by simp at h⟩
  | n + 1, h => by
    obtain ⟨l, hl, hp⟩ := list_choose n (fun i hi => h i (by omega))
    obtain ⟨a, ha⟩ := h n (by omega)
    refine ⟨l ++ [a], by simp [hl], fun i b hb => ?_⟩
    rcases Nat.lt_or_ge i n with hi | hi
    · rw [List.getElem?_append_left (by omega)] at hb
      exact hp i b hb
    · rw [List.getElem?_append_right (by omega)] at hb
      have hz : i - l.length = 0 := by
        have := (List.getElem?_eq_some_iff.1 hb).1
        simp at this; omega
      rw [hz] at hb
      have : a = b := by simpa using hb
      subst this
      obtain rfl : i = n := by omega
      exact ha
theorem cell_lt {w : World} {p : Addr} {v : Value} (h : w.cell? p = some v) : p.block < w.heap.size := by
  rcases Nat.lt_or_ge p.block w.heap.size with h1 | h1
  · exact h1
  · rw [World.cell?, Array.getElem?_eq_none h1] at h
    simp at h
section
variable {H : Type} {enc : TypeId × Value → H} {w : World} {base : Nat} {held : Bool}
theorem add_plain (b o j : Nat) : (⟨b, o, none⟩ : Addr).add j = ⟨b, o + j, none⟩ := by unfold Addr.add; split <;> simp_all
theorem open_ints_at {fuel : Nat} {cs : List Value} {x : DataW H × List MemPlace} (h : DataW.trod enc Try.prog w base (fun _ => true) held fuel 36 cs = some x) : ∃ v xs, cs = [v] ∧ IntsAt w w.heap.size v xs := by
  rcases open_ints Try.underlying36 Try.underlying3 (by kernel_rfl) h with ⟨rfl, _⟩ | ⟨a, l, c, zs, rfl, _, hl, hm, hz, _, hcell, hwz⟩
  · exact ⟨_, [], rfl, none, 0, rfl, by simp, fun hn => absurd rfl hn⟩
  · have hzl : zs.length = c := by simpa using hz
    have hml : c ≤ 9223372036854775807 := by simp only [maxLen] at hm; omega
    refine ⟨_, zs.take l, rfl, some a, c, by rw [List.length_take, hzl, Nat.min_eq_left hl], by rw [List.length_map, List.length_take]; omega, fun hn => ?_⟩
    have hl0 : 0 < l := by
      rcases Nat.eq_zero_or_pos l with e | e
      · rw [e] at hn; simp at hn
      · exact e
    have h0 := hcell 0 (by omega)
    obtain ⟨b, o, sp⟩ := a
    have hsp : sp = none := by simpa [Addr.add] using World.cell?_spot h0
    subst hsp
    refine ⟨b, o, rfl, by simpa [Addr.add] using cell_lt h0, fun j u hu => ?_⟩
    rw [List.getElem?_map, List.getElem?_take] at hu
    split at hu
    · rename_i hjl
      have hj : j < zs.length := by omega
      rw [List.getElem?_eq_getElem hj] at hu
      simp at hu
      subst hu
      have := hcell j hj
      rw [getD_lt hj] at this
      rw [add_plain] at this
      exact this
    · simp at hu
theorem cellsOf_row : Try.prog.cellsOf 36 = 1 := by kernel_rfl
theorem cellsOf_slopes : Try.prog.cellsOf 22 = 1 := by kernel_rfl
theorem cellsOf_crafts : Try.prog.cellsOf 23 = 1 := by kernel_rfl
theorem cellsOf_bool : Try.prog.cellsOf 4 = 1 := by kernel_rfl
theorem cellsOf_slope : Try.prog.cellsOf 55 = 5 := by kernel_rfl
theorem cellsOf_craft : Try.prog.cellsOf 57 = 3 := by kernel_rfl
theorem cellsOf_works : Try.prog.cellsOf 25 = 5 := by kernel_rfl
theorem some_of_lt {α : Type} {l : List α} {i n : Nat} (h : l.length = n) (hi : i < n) : ∃ y, l[i]? = some y := ⟨l[i]'(by omega), List.getElem?_eq_getElem (by omega)⟩
theorem five {α : Type} {l : List α} (h : l.length = 5) : ∃ a b c d e, l = [a, b, c, d, e] := by
  match l, h with
  | [a, b, c, d, e], _ => exact ⟨a, b, c, d, e, rfl⟩
theorem three {α : Type} {l : List α} (h : l.length = 3) : ∃ a b c, l = [a, b, c] := by
  match l, h with
  | [a, b, c], _ => exact ⟨a, b, c, rfl⟩
theorem slope_read {fuel : Nat} {cs : List Value} {x : DataW H × List MemPlace} (hl : cs.length = 5) (h : DataW.trod enc Try.prog w base (fun _ => true) held fuel 55 cs = some x) :
    ∃ n0 n1 n2 n3 v xs, cs = [.int .i64 n0, .int .i64 n1, .int .i64 n2, .int .i64 n3, v] ∧ IntsAt w w.heap.size v xs := by
  obtain ⟨ys, n, _, _, _, hyl, hf⟩ := DataW.trod_struct Try.underlying55 h
  obtain ⟨c0, c1, c2, c3, c4, rfl⟩ := five hl
  have key : ∀ (i : Nat), i < 5 → ∃ y, ys[i]? = some y := fun i hi => some_of_lt hyl hi
  obtain ⟨y0, e0⟩ := key 0 (by omega)
  obtain ⟨y1, e1⟩ := key 1 (by omega)
  obtain ⟨y2, e2⟩ := key 2 (by omega)
  obtain ⟨y3, e3⟩ := key 3 (by omega)
  obtain ⟨y4, e4⟩ := key 4 (by omega)
  have h0 : DataW.trod enc Try.prog w base (fun _ => true) held n 3 (([c0, c1, c2, c3, c4] : List Value).drop 0 |>.take (Try.prog.cellsOf 3)) = some y0 := (hf 0 _ rfl).trans e0
  have h1 : DataW.trod enc Try.prog w base (fun _ => true) held n 3 (([c0, c1, c2, c3, c4] : List Value).drop 1 |>.take (Try.prog.cellsOf 3)) = some y1 := (hf 1 _ rfl).trans e1
  have h2 : DataW.trod enc Try.prog w base (fun _ => true) held n 3 (([c0, c1, c2, c3, c4] : List Value).drop 2 |>.take (Try.prog.cellsOf 3)) = some y2 := (hf 2 _ rfl).trans e2
  have h3 : DataW.trod enc Try.prog w base (fun _ => true) held n 3 (([c0, c1, c2, c3, c4] : List Value).drop 3 |>.take (Try.prog.cellsOf 3)) = some y3 := (hf 3 _ rfl).trans e3
  have h4 : DataW.trod enc Try.prog w base (fun _ => true) held n 36 (([c0, c1, c2, c3, c4] : List Value).drop 4 |>.take (Try.prog.cellsOf 36)) = some y4 := (hf 4 _ rfl).trans e4
  simp only [keyCells3, cellsOf_row, List.drop_zero, List.drop_succ_cons, List.take_succ_cons, List.take_zero] at h0 h1 h2 h3 h4
  obtain ⟨n0, e0, _, _⟩ := DataW.trod_int Try.underlying3 h0
  obtain ⟨n1, e1, _, _⟩ := DataW.trod_int Try.underlying3 h1
  obtain ⟨n2, e2, _, _⟩ := DataW.trod_int Try.underlying3 h2
  obtain ⟨n3, e3, _, _⟩ := DataW.trod_int Try.underlying3 h3
  obtain ⟨v, xs, e4, hv⟩ := open_ints_at h4
  cases e0; cases e1; cases e2; cases e3; cases e4
  exact ⟨n0, n1, n2, n3, _, xs, rfl, hv⟩
theorem craft_read {fuel : Nat} {cs : List Value} {x : DataW H × List MemPlace} (hl : cs.length = 3) (h : DataW.trod enc Try.prog w base (fun _ => true) held fuel 57 cs = some x) :
    ∃ n0 n1 b, cs = [.int .i64 n0, .int .i64 n1, .bool b] := by
  obtain ⟨ys, n, _, _, _, hyl, hf⟩ := DataW.trod_struct Try.underlying57 h
  obtain ⟨c0, c1, c2, rfl⟩ := three hl
  have key : ∀ (i : Nat), i < 3 → ∃ y, ys[i]? = some y := fun i hi => some_of_lt hyl hi
  obtain ⟨y0, e0⟩ := key 0 (by omega)
  obtain ⟨y1, e1⟩ := key 1 (by omega)
  obtain ⟨y2, e2⟩ := key 2 (by omega)
  have h0 : DataW.trod enc Try.prog w base (fun _ => true) held n 3 (([c0, c1, c2] : List Value).drop 0 |>.take (Try.prog.cellsOf 3)) = some y0 := (hf 0 _ rfl).trans e0
  have h1 : DataW.trod enc Try.prog w base (fun _ => true) held n 3 (([c0, c1, c2] : List Value).drop 1 |>.take (Try.prog.cellsOf 3)) = some y1 := (hf 1 _ rfl).trans e1
  have h2 : DataW.trod enc Try.prog w base (fun _ => true) held n 4 (([c0, c1, c2] : List Value).drop 2 |>.take (Try.prog.cellsOf 4)) = some y2 := (hf 2 _ rfl).trans e2
  simp only [keyCells3, cellsOf_bool, List.drop_zero, List.drop_succ_cons, List.take_succ_cons, List.take_zero] at h0 h1 h2
  obtain ⟨n0, e0, _, _⟩ := DataW.trod_int Try.underlying3 h0
  obtain ⟨n1, e1, _, _⟩ := DataW.trod_int Try.underlying3 h1
  obtain ⟨b, e2, _⟩ := DataW.trod_bool Try.underlying4 h2
  cases e0; cases e1; cases e2
  exact ⟨n0, n1, b, rfl⟩
theorem open_slopes_at {fuel : Nat} {cs : List Value} {x : DataW H × List MemPlace} (h : DataW.trod enc Try.prog w base (fun _ => true) held fuel 22 cs = some x) : ∃ v ss, cs = [v] ∧ SlopesAt w w.heap.size v ss := by
  rcases open_slice Try.underlying22 h with ⟨rfl, _⟩ | ⟨a, l, c, m, n, D, Pl, rfl, _, hl, hm, hmm, _, hf⟩
  · exact ⟨_, [], rfl, none, 0, rfl, by simp, fun hn => absurd rfl hn⟩
  · simp only [if_true] at hmm
    subst hmm
    have hml : m ≤ 9223372036854775807 := by simp only [maxLen] at hm; omega
    obtain ⟨ss, hsl, hss⟩ := list_choose (P := fun i (s : Slope) => ∃ t, IntsAt w w.heap.size t s.takes ∧ w.cell? (a.add (i * 5 + 0)) = some (.int .i64 s.now) ∧ w.cell? (a.add (i * 5 + 1)) = some (.int .i64 s.need) ∧ w.cell? (a.add (i * 5 + 2)) = some (.int .i64 s.full) ∧
        w.cell? (a.add (i * 5 + 3)) = some (.int .i64 s.size) ∧ w.cell? (a.add (i * 5 + 4)) = some t) l (fun i hi => by
      obtain ⟨cs', hc, ht⟩ := hf i (by omega)
      rw [cellsOf_slope] at hc
      obtain ⟨_, hcl, hat⟩ := World.cells?_some hc
      obtain ⟨n0, n1, n2, n3, v, xs, rfl, hv⟩ := slope_read hcl ht
      have k : ∀ j, j < 5 → w.cell? (a.add (i * 5 + j)) = ([.int .i64 n0, .int .i64 n1, .int .i64 n2, .int .i64 n3, v] : List Value)[j]? := fun j hj => by rw [← hat j hj, add_add]
      exact ⟨⟨n0, n1, n2, n3, xs⟩, v, hv, k 0 (by omega), k 1 (by omega), k 2 (by omega), k 3 (by omega), k 4 (by omega)⟩)
    refine ⟨_, ss, rfl, some a, m, by rw [hsl], by omega, fun hn => ?_⟩
    have h0 : 0 < ss.length := List.length_pos_iff.2 hn
    obtain ⟨_, _, hc0, _⟩ := hss 0 _ (List.getElem?_eq_getElem h0)
    obtain ⟨b, o, sp⟩ := a
    have hsp : sp = none := by simpa [Addr.add] using World.cell?_spot hc0
    subst hsp
    refine ⟨b, o, rfl, by simpa [Addr.add] using cell_lt hc0, fun i s hs => ?_⟩
    obtain ⟨t, ht, c0, c1, c2, c3, c4⟩ := hss i s hs
    rw [add_plain] at c0 c1 c2 c3 c4
    exact ⟨t, ht, c0, c1, c2, c3, c4⟩
theorem open_crafts_at {fuel : Nat} {cs : List Value} {x : DataW H × List MemPlace} (h : DataW.trod enc Try.prog w base (fun _ => true) held fuel 23 cs = some x) : ∃ v ss, cs = [v] ∧ CraftsAt w w.heap.size v ss := by
  rcases open_slice Try.underlying23 h with ⟨rfl, _⟩ | ⟨a, l, c, m, n, D, Pl, rfl, _, hl, hm, hmm, _, hf⟩
  · exact ⟨_, [], rfl, none, 0, rfl, by simp, fun hn => absurd rfl hn⟩
  · simp only [if_true] at hmm
    subst hmm
    have hml : m ≤ 9223372036854775807 := by simp only [maxLen] at hm; omega
    obtain ⟨ss, hsl, hss⟩ := list_choose (P := fun i (s : Craft) => w.cell? (a.add (i * 3 + 0)) = some (.int .i64 s.add) ∧ w.cell? (a.add (i * 3 + 1)) = some (.int .i64 s.price) ∧ w.cell? (a.add (i * 3 + 2)) = some (.bool s.strip)) l (fun i hi => by
      obtain ⟨cs', hc, ht⟩ := hf i (by omega)
      rw [cellsOf_craft] at hc
      obtain ⟨_, hcl, hat⟩ := World.cells?_some hc
      obtain ⟨n0, n1, b, rfl⟩ := craft_read hcl ht
      have k : ∀ j, j < 3 → w.cell? (a.add (i * 3 + j)) = ([.int .i64 n0, .int .i64 n1, .bool b] : List Value)[j]? := fun j hj => by rw [← hat j hj, add_add]
      exact ⟨⟨n0, n1, b⟩, k 0 (by omega), k 1 (by omega), k 2 (by omega)⟩)
    refine ⟨_, ss, rfl, some a, m, by rw [hsl], by omega, fun hn => ?_⟩
    have h0 : 0 < ss.length := List.length_pos_iff.2 hn
    obtain ⟨hc0, _⟩ := hss 0 _ (List.getElem?_eq_getElem h0)
    obtain ⟨b, o, sp⟩ := a
    have hsp : sp = none := by simpa [Addr.add] using World.cell?_spot hc0
    subst hsp
    refine ⟨b, o, rfl, by simpa [Addr.add] using cell_lt hc0, fun i s hs => ?_⟩
    obtain ⟨c0, c1, c2⟩ := hss i s hs
    rw [add_plain] at c0 c1 c2
    exact ⟨c0, c1, c2⟩
/-- Works that came in, by value. -/
theorem open_works {fuel : Nat} {v : Value} {x : DataW H × List MemPlace} {r : Go.Reach} {b0 : Nat} (hv : Value.okWide Try.prog w r b0 25 v) (h : DataW.trod enc Try.prog w base (fun _ => true) held fuel 25 v.cells.toList = some x) :
    ∃ sl cr m, v = .agg #[sl, cr, .int .i64 m.years, .int .i64 m.visit, .int .i64 m.hands] ∧ SlopesAt w w.heap.size sl (Wk.slopes m) ∧ CraftsAt w w.heap.size cr m.crafts := by
  obtain ⟨⟨cs⟩, rfl, hsz⟩ := okWide_struct Try.underlying25 hv
  rw [cellsOf_works] at hsz
  obtain ⟨c0, c1, c2, c3, c4, rfl⟩ := five (l := cs) (by simpa using hsz)
  obtain ⟨ys, n, _, _, _, hyl, hf⟩ := DataW.trod_struct Try.underlying25 h
  have key : ∀ (i : Nat), i < 5 → ∃ y, ys[i]? = some y := fun i hi => some_of_lt hyl hi
  obtain ⟨y0, e0⟩ := key 0 (by omega)
  obtain ⟨y1, e1⟩ := key 1 (by omega)
  obtain ⟨y2, e2⟩ := key 2 (by omega)
  obtain ⟨y3, e3⟩ := key 3 (by omega)
  obtain ⟨y4, e4⟩ := key 4 (by omega)
  have h0 : DataW.trod enc Try.prog w base (fun _ => true) held n 22 (([c0, c1, c2, c3, c4] : List Value).drop 0 |>.take (Try.prog.cellsOf 22)) = some y0 := (hf 0 _ rfl).trans e0
  have h1 : DataW.trod enc Try.prog w base (fun _ => true) held n 23 (([c0, c1, c2, c3, c4] : List Value).drop 1 |>.take (Try.prog.cellsOf 23)) = some y1 := (hf 1 _ rfl).trans e1
  have h2 : DataW.trod enc Try.prog w base (fun _ => true) held n 3 (([c0, c1, c2, c3, c4] : List Value).drop 2 |>.take (Try.prog.cellsOf 3)) = some y2 := (hf 2 _ rfl).trans e2
  have h3 : DataW.trod enc Try.prog w base (fun _ => true) held n 3 (([c0, c1, c2, c3, c4] : List Value).drop 3 |>.take (Try.prog.cellsOf 3)) = some y3 := (hf 3 _ rfl).trans e3
  have h4 : DataW.trod enc Try.prog w base (fun _ => true) held n 3 (([c0, c1, c2, c3, c4] : List Value).drop 4 |>.take (Try.prog.cellsOf 3)) = some y4 := (hf 4 _ rfl).trans e4
  simp only [keyCells3, cellsOf_slopes, cellsOf_crafts, List.drop_zero, List.drop_succ_cons, List.take_succ_cons, List.take_zero] at h0 h1 h2 h3 h4
  obtain ⟨sl, ss, e0, hs⟩ := open_slopes_at h0
  obtain ⟨cr, cc, e1, hc⟩ := open_crafts_at h1
  obtain ⟨n2, e2, _, _⟩ := DataW.trod_int Try.underlying3 h2
  obtain ⟨n3, e3, _, _⟩ := DataW.trod_int Try.underlying3 h3
  obtain ⟨n4, e4, _, _⟩ := DataW.trod_int Try.underlying3 h4
  cases e0; cases e1; cases e2; cases e3; cases e4
  exact ⟨_, _, ⟨ss, cc, n2, n3, n4⟩, rfl, hs, hc⟩
theorem open_rows_at {fuel : Nat} {cs : List Value} {x : DataW H × List MemPlace} (h : DataW.trod enc Try.prog w base (fun _ => true) held fuel 26 cs = some x) : ∃ v xss, cs = [v] ∧ RowsAt w w.heap.size v xss := by
  rcases open_slice1 Try.underlying26 (by kernel_rfl) h with ⟨rfl, _⟩ | ⟨a, l, c, m, n, V, D, Pl, rfl, _, hl, hm, hmm, _, hx⟩
  · exact ⟨_, [], rfl, none, 0, rfl, by simp, fun hn => absurd rfl hn⟩
  · simp only [if_true] at hmm
    have hml : c ≤ 9223372036854775807 := by simp only [maxLen] at hm; omega
    obtain ⟨xss, hsl, hss⟩ := list_choose (P := fun i (xs : List Int) => ∃ u, w.cell? (a.add i) = some u ∧ IntsAt w w.heap.size u xs) l (fun i hi => by
      obtain ⟨h1, h2⟩ := hx i (by omega)
      obtain ⟨v, xs, e, hv⟩ := open_ints_at h2
      simp at e
      exact ⟨xs, v, by rw [h1, e], hv⟩)
    refine ⟨_, xss, rfl, some a, c, by rw [hsl], by omega, fun hn => ?_⟩
    have h0 : 0 < xss.length := List.length_pos_iff.2 hn
    obtain ⟨_, hc0, _⟩ := hss 0 _ (List.getElem?_eq_getElem h0)
    obtain ⟨b, o, sp⟩ := a
    have hsp : sp = none := by simpa [Addr.add] using World.cell?_spot hc0
    subst hsp
    refine ⟨b, o, rfl, by simpa [Addr.add] using cell_lt hc0, fun i xs hs => ?_⟩
    obtain ⟨u, h1, h2⟩ := hss i xs hs
    rw [add_plain] at h1
    exact ⟨u, h1, h2⟩
end
section
variable {H : Type} {enc : TypeId × Value → H} {w : World} {base : Nat} {held : Bool}
theorem cellsOf_worth : Try.prog.cellsOf 64 = 3 := by kernel_rfl
theorem worth_read {fuel : Nat} {cs : List Value} {x : DataW H × List MemPlace} (hl : cs.length = 3) (h : DataW.trod enc Try.prog w base (fun _ => true) held fuel 64 cs = some x) :
    ∃ n0 v xs n1, cs = [.int .i64 n0, v, .int .i64 n1] ∧ IntsAt w w.heap.size v xs := by
  obtain ⟨ys, n, _, _, _, hyl, hf⟩ := DataW.trod_struct Try.underlying64 h
  obtain ⟨c0, c1, c2, rfl⟩ := three hl
  have key : ∀ (i : Nat), i < 3 → ∃ y, ys[i]? = some y := fun i hi => some_of_lt hyl hi
  obtain ⟨y0, e0⟩ := key 0 (by omega)
  obtain ⟨y1, e1⟩ := key 1 (by omega)
  obtain ⟨y2, e2⟩ := key 2 (by omega)
  have h0 : DataW.trod enc Try.prog w base (fun _ => true) held n 3 (([c0, c1, c2] : List Value).drop 0 |>.take (Try.prog.cellsOf 3)) = some y0 := (hf 0 _ rfl).trans e0
  have h1 : DataW.trod enc Try.prog w base (fun _ => true) held n 36 (([c0, c1, c2] : List Value).drop 1 |>.take (Try.prog.cellsOf 36)) = some y1 := (hf 1 _ rfl).trans e1
  have h2 : DataW.trod enc Try.prog w base (fun _ => true) held n 3 (([c0, c1, c2] : List Value).drop 2 |>.take (Try.prog.cellsOf 3)) = some y2 := (hf 2 _ rfl).trans e2
  simp only [keyCells3, cellsOf_row, List.drop_zero, List.drop_succ_cons, List.take_succ_cons, List.take_zero] at h0 h1 h2
  obtain ⟨n0, e0, _, _⟩ := DataW.trod_int Try.underlying3 h0
  obtain ⟨v, xs, e1, hv⟩ := open_ints_at h1
  obtain ⟨n1, e2, _, _⟩ := DataW.trod_int Try.underlying3 h2
  cases e0; cases e1; cases e2
  exact ⟨n0, _, xs, n1, rfl, hv⟩
theorem open_worths_at {fuel : Nat} {cs : List Value} {x : DataW H × List MemPlace} (h : DataW.trod enc Try.prog w base (fun _ => true) held fuel 42 cs = some x) : ∃ v ws, cs = [v] ∧ WorthsAt w w.heap.size v ws := by
  rcases open_slice Try.underlying42 h with ⟨rfl, _⟩ | ⟨a, l, c, m, n, D, Pl, rfl, _, hl, hm, hmm, _, hf⟩
  · exact ⟨_, [], rfl, none, 0, rfl, by simp, fun hn => absurd rfl hn⟩
  · simp only [if_true] at hmm
    subst hmm
    have hml : m ≤ 9223372036854775807 := by simp only [maxLen] at hm; omega
    obtain ⟨ss, hsl, hss⟩ := list_choose (P := fun i (s : Wo) => ∃ t, w.cell? (a.add (i * 3 + 0)) = some (.int .i64 s.y) ∧ w.cell? (a.add (i * 3 + 1)) = some t ∧ w.cell? (a.add (i * 3 + 2)) = some (.int .i64 s.c) ∧ IntsAt w w.heap.size t s.th) l (fun i hi => by
      obtain ⟨cs', hc, ht⟩ := hf i (by omega)
      rw [cellsOf_worth] at hc
      obtain ⟨_, hcl, hat⟩ := World.cells?_some hc
      obtain ⟨n0, v, xs, n1, rfl, hv⟩ := worth_read hcl ht
      have k : ∀ j, j < 3 → w.cell? (a.add (i * 3 + j)) = ([.int .i64 n0, v, .int .i64 n1] : List Value)[j]? := fun j hj => by rw [← hat j hj, add_add]
      exact ⟨⟨n0, xs, n1⟩, v, k 0 (by omega), k 1 (by omega), k 2 (by omega), hv⟩)
    refine ⟨_, ss, rfl, some a, m, by rw [hsl], by omega, fun hn => ?_⟩
    have h0 : 0 < ss.length := List.length_pos_iff.2 hn
    obtain ⟨_, hc0, _⟩ := hss 0 _ (List.getElem?_eq_getElem h0)
    obtain ⟨b, o, sp⟩ := a
    have hsp : sp = none := by simpa [Addr.add] using World.cell?_spot hc0
    subst hsp
    refine ⟨b, o, rfl, by simpa [Addr.add] using cell_lt hc0, fun i s hs => ?_⟩
    obtain ⟨t, c0, c1, c2, ht⟩ := hss i s hs
    rw [add_plain] at c0 c1 c2
    exact ⟨t, c0, c1, c2, ht⟩
end
end Go.Proofs.Ytccplobhfokcgaa

/- MendValues: the walk. -/
namespace Go.Proofs.Ytccplobhfokcgaa
open Go Go.RowKit Go.Shelf
set_option maxRecDepth 100000

set_option maxHeartbeats 8000000 in
theorem mendValues_calls (m : Wk) (sl cr : Value) (least : Int) (lv : Value) (ws : List Wo) (w : World) (hsl : SlopesAt w w.heap.size sl m.slopes) (hcr : CraftsAt w w.heap.size cr m.crafts) (hl : WorthsAt w w.heap.size lv ws) :
    Calls Try.prog 5 #[.agg #[sl, cr, .int .i64 m.years, .int .i64 m.visit, .int .i64 m.hands], .int .i64 least, lv] w (LawPost w) := by
  obtain ⟨sA, sc, rfl, _, _⟩ := id hsl
  obtain ⟨cA, cc, rfl, _, _⟩ := id hcr
  obtain ⟨w0, hw0⟩ : ∃ w0, w0 = w.alloc (.cells #[.slice sA m.slopes.length sc, .slice cA m.crafts.length cc, .int .i64 m.years, .int .i64 m.visit, .int .i64 m.hands] 25) := ⟨_, rfl⟩
  have h0 := LawInv.start hsl hcr
  rw [← hw0] at h0
  have x5 := blk5 h0.box
  rw [hw0] at x5
  obtain ⟨x0, x1, x2, x3, x4⟩ := x5
  have HL := Lib.hid hl
  have hlw : ∀ W, Below w.heap.size w W → WorthsAt W W.heap.size lv ws := fun W hW => (hl.below hW).mono hW.size
  have HLW := Lib.hid hlw
  have H0 := Lib.hid h0
  have HW0 := Lib.hid hw0
  clear h0 hw0 hsl hcr hl hlw
  go_enter Try.func5, Try.ntmps5
  go_wp2_with fail
  rw [← HW0.out]
  refine (great_calls m _ _ w0 H0.out.slopes H0.out.crafts).mono ?_
  rintro e w1 ⟨⟨g, rfl⟩, hb1⟩
  have H1 := Lib.hid (H0.out.later hb1)
  clear hb1 x0 x1 x2 x3 x4 H0 HW0
  cases g
  · go_wp2_with fail
    refine (broad_calls lv ws w1 (HLW.out w1 H1.out.below)).mono ?_
    rintro e w2 ⟨⟨g, rfl⟩, hb2⟩
    have H2 := Lib.hid (H1.out.later hb2)
    clear hb2 H1
    cases g
    · obtain ⟨x0, x1, x2, x3, x4⟩ := blk5 H2.out.box
      have hv := values_of m (.slice sA m.slopes.length sc) (.slice cA m.crafts.length cc) w2 H2.out.slopes H2.out.crafts
      have hrv : ∀ W, LawInv m w (.slice sA m.slopes.length sc) (.slice cA m.crafts.length cc) w.heap.size W → _ := fun W hW => rvalues_calls m (.slice sA m.slopes.length sc) (.slice cA m.crafts.length cc) W hW.slopes hW.crafts
      have hp : ∀ W, LawInv m w (.slice sA m.slopes.length sc) (.slice cA m.crafts.length cc) w.heap.size W → _ := fun W hW => proves_calls m (.slice sA m.slopes.length sc) (.slice cA m.crafts.length cc) lv least ws W hW.slopes hW.crafts (HLW.out W hW.below)
      have hrp : ∀ W, LawInv m w (.slice sA m.slopes.length sc) (.slice cA m.crafts.length cc) w.heap.size W → _ := fun W hW => rproves_calls m (.slice sA m.slopes.length sc) (.slice cA m.crafts.length cc) lv least ws W hW.slopes hW.crafts (HLW.out W hW.below)
      unfold ValuesPost at hv hrv
      unfold ProvesPost at hp hrp
      generalize (valuesS m).2 = ve at *
      generalize (valuesS m).1 = vw at *
      generalize (provesS m least ws).1 = pb at *
      generalize (provesS m least ws).2 = pe at *
      have HV := Lib.hid hv
      have HRV := Lib.hid hrv
      have HP := Lib.hid hp
      have HRP := Lib.hid hrp
      have he1 : (ve == ve) = true := by simp
      have he2 : (pb == pb) = true := by simp
      have he3 : (pe == pe) = true := by simp
      clear hv hrv hp hrp
      go_wp2_with fail
      refine HV.out.mono ?_
      rintro e w3 ⟨v3, rfl, hw3, hb3⟩
      have H3 := Lib.hid (H2.out.later hb3)
      have HW3 := Lib.hid hw3
      clear hb3 hw3 x0 x1 x2 x3 x4
      obtain ⟨x0, x1, x2, x3, x4⟩ := blk5 H3.out.box
      go_wp2_with fail
      refine (HRV.out w3 H3.out).mono ?_
      rintro e w4 ⟨v4, rfl, hw4, hb4⟩
      have H4 := Lib.hid (H3.out.later hb4)
      have HW4 := Lib.hid hw4
      have HW34 := Lib.hid ((HW3.out.below hb4).mono hb4.size)
      clear hb4 hw4 x0 x1 x2 x3 x4 HW3
      obtain ⟨x0, x1, x2, x3, x4⟩ := blk5 H4.out.box
      go_wp2_with fail
      refine (HP.out w4 H4.out).mono ?_
      rintro e w5 ⟨rfl, hb5⟩
      have H5 := Lib.hid (H4.out.later hb5)
      have HW35 := Lib.hid ((HW34.out.below hb5).mono hb5.size)
      have HW45 := Lib.hid ((HW4.out.below hb5).mono hb5.size)
      clear hb5 x0 x1 x2 x3 x4 HW34 HW4
      obtain ⟨x0, x1, x2, x3, x4⟩ := blk5 H5.out.box
      go_wp2_with fail
      refine (HRP.out w5 H5.out).mono ?_
      rintro e w6 ⟨rfl, hb6⟩
      have H6 := Lib.hid (H5.out.later hb6)
      have hs := sameWorths_calls v3 v4 vw w6 ((HW35.out.below hb6).mono hb6.size) ((HW45.out.below hb6).mono hb6.size)
      have HS := Lib.hid hs
      clear hb6 hs x0 x1 x2 x3 x4
      go_wp2_with fail
      refine HS.out.mono ?_
      rintro e w7 ⟨rfl, hb7⟩
      have H7 := Lib.hid (H6.out.later hb7)
      clear hb7
      go_wp2_with (go_at_call 16; refine (runs_law H7.out).mono ?_; rintro e wr ⟨rfl, hr⟩; have HR := Lib.hid hr; clear hr)
      go_ret
      exact HR.out
    · go_wp2_with (go_at_call 16; refine (runs_law H2.out).mono ?_; rintro e wr ⟨rfl, hr⟩; have HR := Lib.hid hr; clear hr)
      go_ret
      exact HR.out
  · go_wp2_with (go_at_call 16; refine (runs_law H1.out).mono ?_; rintro e wr ⟨rfl, hr⟩; have HR := Lib.hid hr; clear hr)
    go_ret
    exact HR.out
end Go.Proofs.Ytccplobhfokcgaa

namespace Go.Proofs.Ytccplobhfokcgaa.MendValues
open Go Go.ChangeShapes Go.WideShapes Go.ChangeAt Go.RowKit
set_option linter.unusedVariables false

theorem own : ownKnob Try.prog.godebug = none := by kernel_rfl
theorem laidOut : laidOutB Try.prog = true := by kernel_rfl

set_option maxRecDepth 100000 in
theorem lifted (os : Os) (started : os.Started) (H : Type) (enc : TypeId × Value → H) :
    ReturnsInHanded {} Try.checked os 5 .any (Rows.mendValuesSpec.pre6 enc Try.prog Try.f5 Rows.mendValuesRow.domain false) (Rows.mendValuesSpec.post enc Try.prog Try.f5 false true false false) := by
  refine returnsInHanded_of_change (C := Try.checked) own started (by kernel_rfl) Try.func5
    (ChangeSpec.witness6 (enc := enc) (C := Try.checked) false ⟨#[], #[.agg #[.slice none 0 0, .slice none 0 0, .int .i64 0, .int .i64 0, .int .i64 0], .int .i64 0, .slice none 0 0], []⟩ 8 (by kernel_rfl) (by kernel_rfl) (by kernel_rfl) (by kernel_rfl)) ?_
  intro W base args ds gs before hval0 hW hcnd _
  have hval : ∀ (j : Nat) t v, Try.f5.params[j]? = some t → args[j]? = some v → Value.okWide Try.prog W .any base t v := hval0
  have hW' := hW
  obtain ⟨p, q, hA0, hV, rfl, hfz, hnd⟩ := hW
  have hA : DataW.TrodAll enc Try.prog W 0 (fun _ => true) true Try.f5.params.toList args.toList ds p := hA0
  rw [Try.params5] at hA hval
  obtain ⟨v0, vs0, d0, ds0, p0, q0, hargs, rfl, rfl, h0, r0⟩ := trodAll_cons hA
  obtain ⟨v1, vs1, d1, ds1, p1, q1, rfl, rfl, rfl, h1, r1⟩ := trodAll_cons r0
  obtain ⟨v2, vs2, d2, ds2, p2, q2, rfl, rfl, rfl, h2, r2⟩ := trodAll_cons r1
  obtain ⟨rfl, rfl, rfl⟩ := trodAll_nil r2
  obtain rfl : args = #[v0, v1, v2] := by cases args; simp_all
  obtain ⟨rfl, rfl⟩ := trodVars_none hV
  have k0 := h0
  have k1 := h1
  have k2 := h2
  have lt0 : ∀ x ∈ p0, x.block < W.heap.size := by obtain ⟨m, hm⟩ := k0; exact DataW.trod_lt m _ _ _ hm
  have lt1 : ∀ x ∈ p1, x.block < W.heap.size := by obtain ⟨m, hm⟩ := k1; exact DataW.trod_lt m _ _ _ hm
  have lt2 : ∀ x ∈ p2, x.block < W.heap.size := by obtain ⟨m, hm⟩ := k2; exact DataW.trod_lt m _ _ _ hm
  obtain ⟨sl, cr, m, rfl, hsl, hcr⟩ : ∃ sl cr m, v0 = .agg #[sl, cr, .int .i64 m.years, .int .i64 m.visit, .int .i64 m.hands] ∧ SlopesAt W W.heap.size sl (Wk.slopes m) ∧ CraftsAt W W.heap.size cr m.crafts := by
    obtain ⟨fuel, hf⟩ := h0
    exact open_works (hval 0 25 v0 rfl rfl) hf
  obtain ⟨n1, rfl⟩ := okWide_int Try.underlying3 (hval 1 3 v1 rfl rfl)
  obtain ⟨x2, hx2⟩ : ∃ xs, WorthsAt W W.heap.size v2 xs := by
    obtain ⟨fuel, hf⟩ := h2
    obtain ⟨a1, l1, c1, rfl⟩ := okWide_slice Try.underlying42 (hval 2 42 v2 rfl rfl)
    obtain ⟨v, xs, hcs, hv⟩ := open_worths_at hf
    simp [Value.cells] at hcs
    subst hcs
    exact ⟨xs, hv⟩
  clear hA0 hval0
  refine (mendValues_calls m sl cr n1 v2 x2 W hsl hcr hx2).mono fun e W' ⟨he, bel⟩ => ?_
  subst he
  exact ⟨_, rfl, _, _, _, [], _, [], hW', trodAll_mk1 (shut_bool Try.underlying4 _), (trodAll_cons_mk (Below.trod laidOut (by kernel_rfl) (of_decide_eq_true (by kernel_rfl)) k0 bel lt0) (trodAll_cons_mk (Below.trod laidOut (by kernel_rfl) (of_decide_eq_true (by kernel_rfl)) k1 bel lt1) (trodAll_cons_mk (Below.trod laidOut (by kernel_rfl) (of_decide_eq_true (by kernel_rfl)) k2 bel lt2) trodAll_mk0))), rfl, bel.frame _, fun h => by cases h⟩

theorem over : Rows.mendValuesRow.holds Try.pinned (OpenSpec.ofChange Rows.mendValuesSpec) :=
  OpenClaim.holds_of_wide 5 Try.f5 rfl rfl rfl rfl rfl rfl rfl ⟨rfl, rfl, rfl, rfl, rfl⟩ rfl rfl rfl rfl rfl (by kernel_rfl) Try.func5 (by kernel_rfl)
    (of_decide_eq_true (by kernel_rfl)) (by unfold Func.isWrapper; first | (rw [if_pos (by decide +kernel)]; kernel_rfl) | (rw [if_neg (by decide +kernel)]; exact ⟨rfl, rfl⟩))
    (fun os started H enc _ => lifted os started H enc)

theorem proved : Rows.MendValuesSaid := over
#print axioms proved
end Go.Proofs.Ytccplobhfokcgaa.MendValues
