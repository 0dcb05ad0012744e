/- MendOn: the walk. -/
import Derived.Test.YtccplobhfokcgaaLc
import Derived.Test.YtccplobhfokcgaaFt
import Derived.Test.YtccplobhfokcgaaRc
namespace Go.Proofs.Ytccplobhfokcgaa
open Go Go.RowKit Go.Shelf
set_option maxRecDepth 100000

/-- Along the cheapest plan Least tells what is left to be paid. -/
theorem least_on {m : Wk} (hc : checkS m = 0) (hl : (allS m (firstS m)).length ≤ 2000) (hv : valS m (firstS m) < 2000000000) {y : Nat} (hy : (y : Int) < m.years) : leastS m ((y : Int) + 1) (thicks m (chS m (y + 1))) = (valS m (chS m (y + 1)), true, 0) := by
  have hm := checkS_ok hc
  have hok := chS_ok hm hv (y + 1) (by omega)
  have hfit := reach_fit hm (firstS_fit hm) (allS_mem.1 hok.all)
  have hst : stOf ((y : Int) + 1) (thicks m (chS m (y + 1))) = chS m (y + 1) := by
    have h1 := stOf_thicks hfit
    rw [hok.y] at h1
    exact h1
  have hlen : (allS m (chS m (y + 1))).length ≤ 2000 := Nat.le_trans (nodup_length _ _ (allS_nodup _ _) (fun t ht => allS_sub hok.all ht)) hl
  have hval := hok.val
  unfold leastS
  rw [if_pos hc, if_neg, if_pos (fits_thicks hm hfit), hst, if_neg (by omega), if_neg (by omega)]
  have h2 : outB ((y : Int) + 1) 0 m.years = false := outB_false.2 ⟨by omega, by omega⟩
  rw [h2, thicks_length]
  simp
theorem thTo_get (m : Wk) (plan : List (List Int)) {k j : Nat} (hj : j < k) : (thTo m plan k)[j]? = some (thicks m (stAt m plan (j + 1))) := by
  unfold thTo
  rw [List.getElem?_map, List.getElem?_range hj]; rfl

set_option maxHeartbeats 8000000 in
theorem mendOn_calls (m : Wk) (sl cr : Value) (w : World) (hsl : SlopesAt w w.heap.size sl m.slopes) (hcr : CraftsAt w w.heap.size cr m.crafts) :
    Calls Try.prog 12 #[.agg #[sl, cr, .int .i64 m.years, .int .i64 m.visit, .int .i64 m.hands]] w (LawPost w) := by
  obtain ⟨sA, sc, rfl, _, _⟩ := id hsl
  obtain ⟨cA, cc, rfl, _, _⟩ := id hcr
  obtain ⟨w0, hw0⟩ : ∃ w0, w0 = w.alloc (.cells #[.slice sA m.slopes.length sc, .slice cA m.crafts.length cc, .int .i64 m.years, .int .i64 m.visit, .int .i64 m.hands] 25) := ⟨_, rfl⟩
  have h0 := LawInv.start hsl hcr
  rw [← hw0] at h0
  have x5 := blk5 h0.box
  rw [hw0] at x5
  obtain ⟨x0, x1, x2, x3, x4⟩ := x5
  have H0 := Lib.hid h0
  have HW0 := Lib.hid hw0
  clear h0 hw0 hsl hcr
  go_enter Try.func12, Try.ntmps12
  go_wp2_with fail
  rw [← HW0.out]
  refine (great_calls m _ _ w0 H0.out.slopes H0.out.crafts).mono ?_
  rintro e w1 ⟨⟨g, rfl⟩, hb1⟩
  have H1 := Lib.hid (H0.out.later hb1)
  clear hb1 x0 x1 x2 x3 x4 H0 HW0
  cases g
  · obtain ⟨x0, x1, x2, x3, x4⟩ := blk5 H1.out.box
    go_wp2_with fail
    refine (cheap_calls m _ _ w1 H1.out.slopes H1.out.crafts).mono ?_
    rintro e w2 ⟨v2, rfl, hr2, hb2⟩
    have H2 := Lib.hid (H1.out.later hb2)
    clear hb2 H1 x0 x1 x2 x3 x4
    by_cases he : (cheapS m).2.2.2 = 0
    · cases hf : (cheapS m).2.2.1
      · generalize (cheapS m).2.2.2 = ce at *
        have he1 : (ce != 0) = false := by simp [he]
        have he2 : (!(ce == 0)) = false := by simp [he]
        clear he hf
        go_wp2_with (go_at_call 16; refine (runs_law H2.out).mono ?_; rintro e wr ⟨rfl, hr⟩; have HR := Lib.hid hr; clear hr)
        go_ret
        exact HR.out
      · obtain ⟨hck, hfew, hv, hch⟩ := cheapS_fine he hf
        have hm := checkS_ok hck
        have hfp := follow_planS hck hv
        have hpl := planS_length (m := m) hm.years.1
        have hyb := hm.years
        rw [hch] at hr2
        simp only [] at hr2
        rw [hch]
        simp only []
        have hcost := fun (y : Nat) (hy : (y : Int) < m.years) => (chS_pick (chS_ok hm hv y (by omega)) hy)
        have hvb := fun (y : Nat) => valS_bd hm (chS m y)
        have hend : ∀ y : Nat, ¬ (y : Int) < m.years → (y : Int) ≤ m.years → valS m (chS m y) = 0 := fun y h1 h2 => valS_end (by rw [(chS_ok hm hv y h2).y]; omega)
        have hth : ∀ y : Nat, (y : Int) < m.years → (thTo m (planS m) (planS m).length)[y]? = some (thicks m (chS m (y + 1))) := fun y hy => by
          rw [thTo_get m (planS m) (by omega), stAt_planS hm hv (y + 1) (by omega)]
        have hleast := fun (y : Nat) (hy : (y : Int) < m.years) => least_on hck hfew hv hy
        have HCOST := Lib.hid hcost
        have HVB := Lib.hid hvb
        have HEND := Lib.hid hend
        have HTH := Lib.hid hth
        have HLEAST := Lib.hid hleast
        have HFP := Lib.hid hfp
        have HM := Lib.hid hm
        have hbd := hm.few
        clear he hf hck hfew hcost hvb hend hth hleast hfp hm
        have hz : valS m (chS m 0) = valS m (firstS m) := rfl
        have HZ := Lib.hid hz
        clear hz
        generalize valS m (firstS m) = V at *
        obtain ⟨pA, pc, rfl, hp1, hpr⟩ := id hr2
        have HPR := Lib.hid hpr
        have HR2 := Lib.hid hr2
        clear hpr hr2 hch
        obtain ⟨x0, x1, x2, x3, x4⟩ := blk5 H2.out.box
        go_wp2_with fail
        refine (follow_calls m _ _ _ (planS m) w2 H2.out.slopes H2.out.crafts HR2.out).mono ?_
        rintro e w3 ⟨v3, rfl, hr3, hb3⟩
        have H3 := Lib.hid (H2.out.later hb3)
        have HB3 := Lib.hid hb3
        rw [HFP.out] at hr3
        rw [HFP.out]
        simp only [] at hr3 ⊢
        obtain ⟨tA, tc, rfl, _, htr⟩ := hr3
        rw [thTo_length] at *
        have HTR := Lib.hid htr
        clear htr hb3 H2 x0 x1 x2 x3 x4
        obtain ⟨x0, x1, x2, x3, x4⟩ := blk5 H3.out.box
        have hV1 : (V != V) = false := by simp
        have hV2 : (!(V == V)) = false := by simp
        have hne1 : (((planS m).length : Int) != m.years) = false := by simp [hpl]
        have hne2 : (!(((planS m).length : Int) == m.years)) = false := by simp [hpl]
        have HPL := Lib.hid hpl
        clear hpl
        go_wp2_with fail
        go_loopw [10, 11] (fun l c wr => ∃ y : Nat, (y : Int) ≤ m.years ∧ c = .int .i64 (y : Int) ∧ l = .int .i64 (valS m (chS m y)) ∧ Hid (Below w3.heap.size w3 wr)) (fun _ c _ => m.years.toNat - (intOf c).toNat)
        case atStart => exact ⟨0, by omega, rfl, by rw [HZ.out], Lib.hid (Below.refl _ _)⟩
        case round =>
          obtain ⟨y, hy, rfl, rfl, HB⟩ := hrel
          obtain ⟨Wr, rfl⟩ : ∃ Wr, Wr = wr := ⟨_, rfl⟩
          have HW := Lib.hid (H3.out.later HB.out)
          clear x0 x1 x2 x3 x4
          obtain ⟨x0, x1, x2, x3, x4⟩ := blk5 HW.out.box
          by_cases hyl : (y : Int) < m.years
          · have hy0 : (0 : Int) ≤ (y : Int) := by omega
            have hyadd : IntKind.i64.wrap ((y : Int) + 1) = (y : Int) + 1 := IntWalk.i64_in _ (by omega)
            obtain ⟨_, hrm, _, hcs, _⟩ := HCOST.out y hyl
            have hro := (rowsS_mem hrm).1
            have hgy := planS_get hyl
            have hgt := HTH.out y hyl
            obtain ⟨pb, po, rfl, hpb, hpc⟩ := HPR.out (by intro e; rw [e] at hgy; simp at hgy)
            obtain ⟨u1, hu1, rA, rc, rfl, hr1⟩ := hpc y _ hgy
            obtain ⟨tb, to, rfl, htb, htc⟩ := HTR.out (by intro e; rw [e] at hgt; simp at hgt)
            obtain ⟨u2, hu2, hi2⟩ := htc y _ hgt
            obtain ⟨B2, c2, rfl, _⟩ := id hi2
            have htl := thicks_length m (chS m (y + 1))
            have hw23 : Below w2.heap.size w2 Wr := HB3.out.trans (HB.out.mono HB3.out.size)
            have hyN : (y : Int) < ((planS m).length : Int) := by have := HPL.out; omega
            have hq : ∀ W, Grows Wr W → _ := fun W hW => And.intro (blk5 (blk_below hW HW.out.box (lt_blk HW.out.box))) (((hw23.trans (hW.mono hw23.size)).cell (p := ⟨pb, po + y, none⟩) hpb).trans hu1)
            have hq2 : ∀ W, Grows Wr W → _ := fun W hW => And.intro (blk5 (blk_below hW HW.out.box (lt_blk HW.out.box))) (((HB.out.trans (hW.mono HB.out.size)).cell (p := ⟨tb, to + y, none⟩) htb).trans hu2)
            have hk1 : ∀ W, Grows Wr W → _ := fun W hW => costs_calls m (.slice sA m.slopes.length sc) (.slice cA m.crafts.length cc) rA rc (pkS m y) W HM.out hro (HW.out.later hW).slopes (HW.out.later hW).crafts ((hr1.below (hw23.trans (hW.mono hw23.size))).mono (Nat.le_trans hw23.size (Below.size hW)))
            have hk2 : ∀ W, Grows Wr W → _ := fun W hW => least_calls m (.slice sA m.slopes.length sc) (.slice cA m.crafts.length cc) (.slice B2 (thicks m (chS m (y + 1))).length c2) ((y : Int) + 1) (thicks m (chS m (y + 1))) W (HW.out.later hW).slopes (HW.out.later hW).crafts ((hi2.below (HB.out.trans (hW.mono HB.out.size))).mono (Nat.le_trans HB.out.size (Below.size hW)))
            have hls := HLEAST.out y hyl
            have hb0 := HVB.out y
            have hb1 := HVB.out (y + 1)
            have hsub : IntKind.i64.wrap (valS m (chS m y) - costS m (pkS m y)) = valS m (chS m (y + 1)) := by
              rw [show valS m (chS m y) - costS m (pkS m y) = valS m (chS m (y + 1)) by omega]
              exact IntWalk.i64_in _ (by omega)
            have HQ := Lib.hid hq
            have HQ2 := Lib.hid hq2
            have HK1 := Lib.hid hk1
            have HK2 := Lib.hid hk2
            have HLS := Lib.hid hls
            have HSUB := Lib.hid hsub
            clear hq hq2 hk1 hk2 hls hsub hb0 hb1 hrm hcs hro hgy hgt hpc htc hu1 hr1 hu2 hi2 hw23
            generalize costS m (pkS m y) = co at *
            generalize (pkS m y).length = pn at *
            generalize hv0 : valS m (chS m y) = v0 at *
            generalize hv1 : valS m (chS m (y + 1)) = v1 at *
            go_wp2_with fail
            refine wp_region_rg Grows (fun | 6 => .ex (.int .i64 co) | _ => .fn) (by kernel_rfl) (by kernel_rfl) Grows.refl growsT (by intro i; split <;> trivial) ?_
            iterate 6 (refine rg_step fun K hK => ?_; apply rg_fn rfl; (intro w4 hw; obtain ⟨⟨x0, x1, x2, x3, x4⟩, y1⟩ := HQ.out w4 hw.undrew; go_simp; try rfl); go_simp; (try with_reducible refine hK _ _ ?_); try clear hK K)
            refine rg_step fun K hK => ?_
            apply rg_call (.inl rfl) rfl
            · intro w4 hw
              go_simp
              exact ⟨rfl, rfl⟩
            · intro w4 hw
              exact HK1.out w4 hw.undrew
            go_simp
            (try with_reducible refine hK _ _ ?_)
            try clear hK K
            iterate 2 (refine rg_step fun K hK => ?_; apply rg_fn rfl; (intro w4 hw; have hsub := HSUB.out; go_simp; try rfl); go_simp; (try with_reducible refine hK _ _ ?_); try clear hK K)
            refine rg_nil ?_
            intro w5 hw5 _
            replace hw5 := hw5.undrew
            have hq5 : ∀ W, Grows w5 W → _ := fun W hW => HQ2.out W (growsT _ _ _ hw5 hW)
            have hk5 : ∀ W, Grows w5 W → _ := fun W hW => HK2.out W (growsT _ _ _ hw5 hW)
            have HQ5 := Lib.hid hq5
            have HK5 := Lib.hid hk5
            have HG5 := Lib.hid hw5
            clear hw5 x0 x1 x2 x3 x4 hq5 hk5 HQ2 HK2 HQ HK1
            go_wp2_with fail
            refine wp_region_rg (Grows) (fun | 7 => .ex (.tuple #[.int .i64 v1, .bool true, .int .i64 0]) | _ => .fn) (by kernel_rfl) (by kernel_rfl) Grows.refl growsT (by intro i; split <;> trivial) ?_
            iterate 7 (refine rg_step fun K hK => ?_; apply rg_fn rfl; (intro w4 hw; obtain ⟨⟨x0, x1, x2, x3, x4⟩, y1⟩ := HQ5.out w4 hw.undrew; go_simp; try rfl); go_simp; (try with_reducible refine hK _ _ ?_); try clear hK K)
            refine rg_step fun K hK => ?_
            apply rg_call (.inl rfl) rfl (f := 24) (args := #[.agg #[.slice sA m.slopes.length sc, .slice cA m.crafts.length cc, .int .i64 m.years, .int .i64 m.visit, .int .i64 m.hands], .int .i64 ((y : Int) + 1), .slice B2 (thicks m (chS m (y + 1))).length c2])
            · intro w4 hw
              go_simp
              try rfl
            · intro w4 hw
              refine (HK5.out w4 hw.undrew).mono ?_
              rintro e w6 ⟨rfl, hb6⟩
              rw [HLS.out]
              exact ⟨rfl, hb6⟩
            go_simp
            (try with_reducible refine hK _ _ ?_)
            try clear hK K
            iterate 7 (refine rg_step fun K hK => ?_; apply rg_fn rfl; (intro w4 hw; go_simp; try rfl); go_simp; (try with_reducible refine hK _ _ ?_); try clear hK K)
            refine rg_nil ?_
            intro w6 hw6 _
            replace hw6 := hw6.undrew
            have HB6 := Lib.hid (HB.out.trans ((growsT _ _ _ HG5.out hw6).mono HB.out.size))
            clear hw6 HG5 HQ5 HK5
            have hw1 : (v1 != v1) = false := by simp
            have hw2 : (!(v1 == v1)) = false := by simp
            go_wp2_with fail
            go_round
            case rel => exact ⟨y + 1, by omega, by go_num, by rw [hv1], HB6⟩
            case measure => simp [intOf]; omega
          · have h0 := HEND.out y (by omega) (by omega)
            rw [h0]
            clear h0
            go_wp2_with (go_at_call 16; refine (runs_law HW.out).mono ?_; rintro e wr ⟨rfl, hr⟩; have HR := Lib.hid hr; clear hr)
            go_ret
            exact HR.out
    · generalize (cheapS m).2.2.2 = ce at *
      have he1 : (ce != 0) = true := by simpa using he
      have he2 : (!(ce == 0)) = true := by simpa using he
      clear he
      go_wp2_with (go_at_call 16; refine (runs_law H2.out).mono ?_; rintro e wr ⟨rfl, hr⟩; have HR := Lib.hid hr; clear hr)
      go_ret
      exact HR.out
  · go_wp2_with (go_at_call 16; refine (runs_law H1.out).mono ?_; rintro e wr ⟨rfl, hr⟩; have HR := Lib.hid hr; clear hr)
    go_ret
    exact HR.out
end Go.Proofs.Ytccplobhfokcgaa
