/- The specification's Proves. -/
import Derived.Test.YtccplobhfokcgaaZ1
import Derived.Deep.RegionHeld3

/- The specification's thicks and Least. -/
namespace Go.Proofs.Ytccplobhfokcgaa
open Go Go.RowKit Go.Shelf
set_option maxRecDepth 100000

/-- May thicknesses be? -/
def thOk (m : Wk) (th : List Int) : Bool := decide (th.length = m.slopes.length) && fitsTh m th
set_option maxHeartbeats 4000000 in
theorem rthicks_calls (m : Wk) (sl cr : Value) (tA : Option Addr) (tc : Nat) (th : List Int) (w : World) (hm : m.Ok) (hsl : SlopesAt w w.heap.size sl m.slopes) (hcr : CraftsAt w w.heap.size cr m.crafts) (ht : RowC w w.heap.size tA (th.map (Value.int .i64))) :
    Calls Try.prog 59 #[.agg #[sl, cr, .int .i64 m.years, .int .i64 m.visit, .int .i64 m.hands], .slice tA th.length tc] w fun e w' => e = .returned (.bool (thOk m th)) ∧ Below w.heap.size w w' := by
  obtain ⟨sA, sc, rfl, _, hss⟩ := id hsl
  obtain ⟨cA, cc, rfl, _, _⟩ := id hcr
  obtain ⟨w0, hw0⟩ : ∃ w0, w0 = w.alloc (.cells #[.slice sA m.slopes.length sc, .slice cA m.crafts.length cc, .int .i64 m.years, .int .i64 m.visit, .int .i64 m.hands] 25) := ⟨_, rfl⟩
  have h0 := LawInv.start hsl hcr
  rw [← hw0] at h0
  have hn4 := hm.few
  have htl : th.length ≤ 9223372036854775807 := by have := ht.1; simpa using this
  have H0 := Lib.hid h0
  have HW0 := Lib.hid hw0
  have HT := Lib.hid ht
  have HSS := Lib.hid hss
  have HM := Lib.hid hm
  have z0 : w.heap.size < w0.heap.size := by rw [hw0]; simp
  obtain ⟨x0, x1, x2, x3, x4⟩ := blk5 h0.box
  rw [hw0] at x0 x1 x2 x3 x4
  clear h0 hw0 hsl hcr hm ht hss
  by_cases hl : th.length = m.slopes.length
  · have hln : ((th.length : Int) != (m.slopes.length : Int)) = false := by simp [hl]
    have hln2 : (!((th.length : Int) == (m.slopes.length : Int))) = false := by simp [hl]
    have hle1 : th.length ≤ m.slopes.length := Nat.le_of_eq hl
    have hle2 : m.slopes.length ≤ th.length := Nat.le_of_eq hl.symm
    have hto : thOk m th = fitsTh m th := by unfold thOk; simp [hl]
    have HTO := Lib.hid hto
    clear hl hto
    go_enter Try.func59, Try.ntmps59
    go_wp2_with fail
    rw [← HW0.out]
    clear x0 x1 x2 x3 x4
    go_loopw [5] (fun c wr => ∃ i : Nat, i ≤ th.length ∧ c = .int .i64 (i : Int) ∧ Hid (∀ j, j < i → outB (th.getD j 0) 0 (fullAt m j) = false) ∧ Hid (Below w0.heap.size w0 wr)) (fun c _ => th.length - (intOf c).toNat)
    case atStart => exact ⟨0, Nat.zero_le _, rfl, Lib.hid (fun j hj => by omega), Lib.hid (Below.refl _ _)⟩
    case round =>
      obtain ⟨i, hi, rfl, HS, HB⟩ := hrel
      obtain ⟨Wr, rfl⟩ : ∃ Wr, Wr = wr := ⟨_, rfl⟩
      have HI := Lib.hid (H0.out.later HB.out)
      by_cases hlt : i < th.length
      · have hil : (i : Int) < (th.length : Int) := by omega
        have hil2 : (i : Int) < (m.slopes.length : Int) := by omega
        have hi0 : (0 : Int) ≤ (i : Int) := by omega
        have hiadd : IntKind.i64.wrap ((i : Int) + 1) = (i : Int) + 1 := IntWalk.i64_in _ (by omega)
        have his : i < m.slopes.length := by omega
        obtain ⟨tb, to, rfl, htb, htc⟩ := HT.out.at_ i (by simpa using hlt)
        simp only [List.getElem_map] at htc
        obtain ⟨b, o, rfl, hb, hc⟩ := HSS.out (by intro e; rw [e] at his; simp at his)
        obtain ⟨tk, _, c0, c1, c2, c3, c4⟩ := hc i _ (List.getElem?_eq_getElem his)
        have hq : ∀ W, Grows Wr W → _ := fun W hW => And.intro (blk5 (blk_below hW HI.out.box (lt_blk HI.out.box))) (And.intro ((((HI.out.later hW).below).cell (p := ⟨tb, to + i, none⟩) htb).trans htc) ((((HI.out.later hW).below).cell (p := ⟨b, o + i * 5 + 2, none⟩) hb).trans c2))
        have hfull : fullAt m i = m.slopes[i].full := by unfold fullAt; rw [List.getElem?_eq_getElem his]
        have hg : th.getD i 0 = th[i] := getD_lt hlt 0
        have hbad : (th[i] < 0 ∨ m.slopes[i].full < th[i]) → fitsTh m th = false := fun h => fits_not hlt (by rw [hg, hfull]; simp [outB]; omega)
        have hgood : ¬ th[i] < 0 → ¬ m.slopes[i].full < th[i] → ∀ j, j < i + 1 → outB (th.getD j 0) 0 (fullAt m j) = false := fun h1 h2 j hj => by
          rcases Nat.lt_or_ge j i with h | h
          · exact HS.out j h
          · obtain rfl : j = i := by omega
            rw [hg, hfull, outB_false]; omega
        have HQ := Lib.hid hq
        have HBAD := Lib.hid hbad
        have HGOOD := Lib.hid hgood
        clear hc c0 c1 c2 c3 c4 hq hfull hg hbad hgood htc
        generalize th[i] = tv at *
        generalize m.slopes[i].full = fv at *
        by_cases hneg : tv < 0
        · have hb0 : decide (tv < 0) = true := by simpa using hneg
          have hf := HBAD.out (.inl hneg)
          have HF := Lib.hid hf
          clear hf
          go_wp2_with fail
          refine wp_region_rg Grows (fun _ => .fn) (by kernel_rfl) (by kernel_rfl) Grows.refl growsT (fun _ => trivial) ?_
          iterate 6 (refine rg_step fun K hK => ?_; apply rg_fn rfl; (intro w4 hw; obtain ⟨⟨x0, x1, x2, x3, x4⟩, y1, y2⟩ := HQ.out w4 hw.undrew; go_simp; try rfl); go_simp; (try with_reducible refine hK _ _ ?_); try clear hK K)
          iterate 11 (refine rg_step fun K hK => rg_skip rfl ?_; go_simp; (try with_reducible refine hK _ _ ?_); try clear hK K)
          iterate 1 (refine rg_step fun K hK => ?_; apply rg_fn rfl; (intro w4 hw; go_simp; try rfl); go_simp; (try with_reducible refine hK _ _ ?_); try clear hK K)
          refine rg_nil ?_
          rintro w5 hw5 _
          have HB5 := Lib.hid (HI.out.later hw5.undrew).below
          clear hw5
          go_wp2_with fail
          go_ret
          exact ⟨by rw [HTO.out, HF.out]; rfl, HB5.out⟩
        · have hb0 : decide (tv < 0) = false := by simpa using hneg
          by_cases hbig : fv < tv
          · have hb1 : decide (fv < tv) = true := by simpa using hbig
            have hb2 : decide (tv > fv) = true := by simpa using hbig
            have hf := HBAD.out (.inr hbig)
            have HF := Lib.hid hf
            clear hf
            go_wp2_with fail
            refine wp_region_rg Grows (fun _ => .fn) (by kernel_rfl) (by kernel_rfl) Grows.refl growsT (fun _ => trivial) ?_
            iterate 18 (refine rg_step fun K hK => ?_; apply rg_fn rfl; (intro w4 hw; obtain ⟨⟨x0, x1, x2, x3, x4⟩, y1, y2⟩ := HQ.out w4 hw.undrew; go_simp; try rfl); go_simp; (try with_reducible refine hK _ _ ?_); try clear hK K)
            refine rg_nil ?_
            rintro w5 hw5 _
            have HB5 := Lib.hid (HI.out.later hw5.undrew).below
            clear hw5
            go_wp2_with fail
            go_ret
            exact ⟨by rw [HTO.out, HF.out]; rfl, HB5.out⟩
          · have hb1 : decide (fv < tv) = false := by simpa using hbig
            have hb2 : decide (tv > fv) = false := by simpa using hbig
            have HG := Lib.hid (HGOOD.out hneg hbig)
            go_wp2_with fail
            refine wp_region_rg Grows (fun _ => .fn) (by kernel_rfl) (by kernel_rfl) Grows.refl growsT (fun _ => trivial) ?_
            iterate 18 (refine rg_step fun K hK => ?_; apply rg_fn rfl; (intro w4 hw; obtain ⟨⟨x0, x1, x2, x3, x4⟩, y1, y2⟩ := HQ.out w4 hw.undrew; go_simp; try rfl); go_simp; (try with_reducible refine hK _ _ ?_); try clear hK K)
            refine rg_nil ?_
            rintro w5 hw5 _
            have HB5 := Lib.hid (HB.out.trans (hw5.undrew.mono HB.out.size))
            clear hw5
            go_wp2_with fail
            go_round
            case rel => exact ⟨i + 1, by omega, by go_num, HG, HB5⟩
            case measure => simp [intOf]; omega
      · obtain rfl : i = th.length := by omega
        have hil : ¬ (th.length : Int) < (th.length : Int) := by omega
        have hf : fitsTh m th = true := fits_to HS.out
        have HF := Lib.hid hf
        clear hf
        go_wp2_with fail
        go_ret
        exact ⟨by rw [HTO.out, HF.out]; rfl, HI.out.below⟩
  · have hln : ((th.length : Int) != (m.slopes.length : Int)) = true := by simp; omega
    have hln2 : (!((th.length : Int) == (m.slopes.length : Int))) = true := by simp; omega
    have hto : thOk m th = false := by unfold thOk; simp [hl]
    have HTO := Lib.hid hto
    have hb : Below w.heap.size w w0 := H0.out.below
    have HB := Lib.hid hb
    clear hl hto hb
    go_enter Try.func59, Try.ntmps59
    go_wp2_with fail
    rw [← HW0.out]
    go_ret
    exact ⟨by rw [HTO.out]; rfl, HB.out⟩

theorem leastS_arg {m : Wk} (hc : checkS m = 0) {y : Int} {th : List Int} (h : y < 0 ∨ m.years < y ∨ thOk m th = false) : leastS m y th = (0, false, 1) := by
  unfold leastS
  rw [if_pos hc]
  by_cases hy : outB y 0 m.years = true
  · rw [if_pos (by simp [hy])]
  · have hy2 : 0 ≤ y ∧ y ≤ m.years := outB_false.1 (by simpa using hy)
    have h3 : thOk m th = false := by
      rcases h with h | h | h
      · omega
      · omega
      · exact h
    unfold thOk at h3
    by_cases hl : th.length = m.slopes.length
    · have hf : fitsTh m th = false := by simpa [hl] using h3
      rw [if_neg (by simp [hy, hl]), hf]
      rfl
    · rw [if_pos (by simp [hl])]
theorem leastS_go {m : Wk} (hc : checkS m = 0) {y : Int} {th : List Int} (hy : 0 ≤ y ∧ y ≤ m.years) (ht : thOk m th = true) :
    leastS m y th = if (allS m (stOf y th)).length ≤ 2000 then if paidV m (stOf y th) < 0 then (0, false, 0) else (paidV m (stOf y th), true, 0) else (0, false, 3) := by
  have ht2 := ht
  unfold thOk at ht2
  rw [Bool.and_eq_true, decide_eq_true_eq] at ht2
  obtain ⟨hl, hf⟩ := ht2
  have hv := valS_bd (checkS_ok hc) (stOf y th)
  unfold leastS
  rw [if_pos hc, if_neg (by simp [outB_false.2 hy, hl]), if_pos hf]
  by_cases hm : (allS m (stOf y th)).length ≤ 2000
  · rw [if_neg (by omega), if_pos hm]
    unfold paidV
    by_cases h : valS m (stOf y th) < 2000000000
    · rw [if_neg (by omega), if_pos h, if_neg (by omega)]
    · rw [if_pos (by omega), if_neg h, if_pos (by omega)]
  · rw [if_pos (by omega), if_neg hm]
theorem fitT_of {m : Wk} (hf4 : m.slopes.length ≤ 4) {th : List Int} (ht : thOk m th = true) : FitT m th := by
  unfold thOk at ht
  rw [Bool.and_eq_true, decide_eq_true_eq] at ht
  obtain ⟨hl, hf⟩ := ht
  refine ⟨hl, fun i hi => ?_⟩
  rw [stOf_get _ _ hi]
  rcases Nat.lt_or_ge i m.slopes.length with h | h
  · have h2 := fits_get hf i (by omega)
    rw [List.getElem?_eq_getElem h, getD_lt (by omega)]
    unfold fullAt at h2
    rw [List.getElem?_eq_getElem h] at h2
    exact h2
  · rw [List.getElem?_eq_none h, List.getD_eq_getElem?_getD, List.getElem?_eq_none (by omega)]
    rfl
theorem Own3.levsT {m : Wk} (hm : m.Ok) {y : Int} {th : List Int} (hfit : FitT m th) (hy : 0 ≤ y ∧ y ≤ m.years) (hfew : (allS m (stOf y th)).length ≤ 2000) {w : World} {B : Nat} {v : Value} (h : Own3 w B v (levsT m y th)) : LevsAt w w.heap.size v (levsT m y th) := by
  have hyb := hm.years
  have hn4 := hm.few
  refine h.levs (by rw [levsT_length]; omega) (fun xss hx => ?_)
  obtain ⟨i, hi⟩ := List.getElem?_of_mem hx
  have hil := (List.getElem?_eq_some_iff.1 hi).1
  rw [levsT_length] at hil
  rw [levsT_get (by omega)] at hi
  cases hi
  refine ⟨?_, fun xs hxs => ?_⟩
  · have h1 := lenT_le hm hfit (y := y) (k := i) (by omega)
    have h2 := lev_le (m := m) (y := y) (th := th) i
    omega
  · rw [(levT_fit hm hfit i xs hxs).len]; omega
set_option maxHeartbeats 8000000 in
theorem rleast_calls (m : Wk) (sl cr : Value) (tA : Option Addr) (tc : Nat) (y : Int) (th : List Int) (w : World) (hsl : SlopesAt w w.heap.size sl m.slopes) (hcr : CraftsAt w w.heap.size cr m.crafts) (ht : RowC w w.heap.size tA (th.map (Value.int .i64))) :
    Calls Try.prog 25 #[.agg #[sl, cr, .int .i64 m.years, .int .i64 m.visit, .int .i64 m.hands], .int .i64 y, .slice tA th.length tc] w (LeastPost m y th w) := by
  obtain ⟨sA, sc, rfl, _, _⟩ := id hsl
  obtain ⟨cA, cc, rfl, _, _⟩ := id hcr
  obtain ⟨w0, hw0⟩ : ∃ w0, w0 = w.alloc (.cells #[.slice sA m.slopes.length sc, .slice cA m.crafts.length cc, .int .i64 m.years, .int .i64 m.visit, .int .i64 m.hands] 25) := ⟨_, rfl⟩
  have h0 := LawInv.start hsl hcr
  rw [← hw0] at h0
  have H0 := Lib.hid h0
  have HW0 := Lib.hid hw0
  have HT := Lib.hid ht
  have z0 : w.heap.size < w0.heap.size := by rw [hw0]; simp
  obtain ⟨x0, x1, x2, x3, x4⟩ := blk5 h0.box
  rw [hw0] at x0 x1 x2 x3 x4
  have hck := rcheck_calls m _ _ w0 h0.slopes h0.crafts
  have HCK := Lib.hid hck
  clear h0 hw0 hsl hcr ht hck
  go_enter Try.func25, Try.ntmps25
  go_wp2_with fail
  rw [← HW0.out]
  refine HCK.out.mono ?_
  rintro e w1 ⟨rfl, hb1⟩
  have H1 := Lib.hid (H0.out.later hb1)
  clear hb1 x0 x1 x2 x3 x4 HCK
  by_cases hc : checkS m = 0
  · have hm := checkS_ok hc
    have hn4 := hm.few
    have hn1 := hm.some
    have hyb := hm.years
    have hth := rthicks_calls m (.slice sA m.slopes.length sc) (.slice cA m.crafts.length cc) tA tc th w1 hm H1.out.slopes H1.out.crafts ((HT.out.below H1.out.below).mono H1.out.below.size)
    have HTHC := Lib.hid hth
    have HM := Lib.hid hm
    have hla := leastS_arg (y := y) (th := th) hc
    have hlg := leastS_go (y := y) (th := th) hc
    have HLA := Lib.hid hla
    have HLG := Lib.hid hlg
    rw [hc]
    clear hm hc hth hla hlg
    obtain ⟨x0, x1, x2, x3, x4⟩ := blk5 H1.out.box
    by_cases hy0 : y < 0
    · have hl := HLA.out (.inl hy0)
      have HL := Lib.hid hl
      clear hl
      go_wp2_with fail
      go_ret3
      exact ⟨by rw [HL.out]; rfl, H1.out.below⟩
    · by_cases hy1 : m.years < y
      · have hl := HLA.out (.inr (.inl hy1))
        have HL := Lib.hid hl
        have hy1' : y > m.years := hy1
        clear hl
        go_wp2_with fail
        go_ret3
        exact ⟨by rw [HL.out]; rfl, H1.out.below⟩
      · have hy1' : ¬ y > m.years := by omega
        cases hq : thOk m th
        · have hl := HLA.out (.inr (.inr hq))
          rw [hq] at HTHC
          have HL := Lib.hid hl
          clear hl hq
          go_wp2_with fail
          refine HTHC.out.mono ?_
          rintro e w2 ⟨rfl, hb2⟩
          have HB2 := Lib.hid (H1.out.later hb2).below
          clear hb2
          go_wp2_with fail
          go_ret3
          exact ⟨by rw [HL.out]; rfl, HB2.out⟩
        · have hl := HLG.out ⟨by omega, by omega⟩ hq
          have hfit := fitT_of hn4 hq
          rw [hq] at HTHC
          have HL := Lib.hid hl
          have HFIT := Lib.hid hfit
          clear hl hq hfit HLA HLG
          go_wp2_with fail
          refine HTHC.out.mono ?_
          rintro e w2 ⟨rfl, hb2⟩
          have H2 := Lib.hid (H1.out.later hb2)
          clear hb2 x0 x1 x2 x3 x4
          obtain ⟨x0, x1, x2, x3, x4⟩ := blk5 H2.out.box
          go_wp2_with fail
          refine (rstates_calls m _ _ y tA tc th w2 HM.out HFIT.out ⟨by omega, by omega⟩ H2.out.slopes H2.out.crafts ((HT.out.below H2.out.below).mono H2.out.below.size)).mono ?_
          rintro e w3 ⟨⟨v3, rfl, ho3⟩, hb3⟩
          have H3 := Lib.hid (H2.out.later hb3)
          clear hb3 x0 x1 x2 x3 x4
          obtain ⟨x0, x1, x2, x3, x4⟩ := blk5 H3.out.box
          by_cases hfew : (allS m (stOf y th)).length ≤ 2000
          · have hlv := Own3.levsT HM.out HFIT.out ⟨by omega, by omega⟩ hfew (ho3 hfew)
            have hl := HL.out
            rw [if_pos hfew] at hl
            have hdec : decide ((allS m (stOf y th)).length ≤ 2000) = true := by simpa using hfew
            rw [hdec]
            obtain ⟨vA, vn, vc, rfl⟩ : ∃ A n c, v3 = .slice A n c := by
              obtain ⟨A, c, e, _⟩ := id hlv
              exact ⟨_, _, _, e⟩
            have hpd := rpaid_calls m (.slice sA m.slopes.length sc) (.slice cA m.crafts.length cc) y th vA vn vc w3 HM.out HFIT.out ⟨by omega, by omega⟩ hfew H3.out.slopes H3.out.crafts hlv
            have HPD := Lib.hid hpd
            have HLL := Lib.hid hl
            have hp0 := paidsT_get (m := m) (y := y) (th := th) (i := 0) (by omega)
            have hp00 : paidL m y th 0 = [paidV m (stOf y th)] := by simp [paidL, levT]
            have hpl : (paidsT m y th).length ≤ 1000 := by simp only [paidsT, List.length_map, List.length_range]; omega
            have hpx : ∀ xs ∈ paidsT m y th, xs.length ≤ 1000000 := fun xs hx => by
              obtain ⟨i, hi⟩ := List.getElem?_of_mem hx
              have hil := (List.getElem?_eq_some_iff.1 hi).1
              simp only [paidsT, List.length_map, List.length_range] at hil
              rw [paidsT_get (by omega)] at hi
              cases hi
              rw [paidL_length]
              have h1 := lenT_le HM.out HFIT.out (y := y) (k := i) (by omega)
              have h2 := lev_le (m := m) (y := y) (th := th) i
              omega
            have HP0 := Lib.hid (And.intro hp0 (And.intro hp00 hpx))
            clear hlv ho3 hl hdec hpd hp0 hp00 hfew hpx HL
            go_wp2_with fail
            refine HPD.out.mono ?_
            rintro e w4 ⟨⟨v4, rfl, ho4⟩, hb4⟩
            have hr4 := ho4.rows (by omega) HP0.out.2.2
            obtain ⟨pA, pc, rfl, _, hpr⟩ := hr4
            obtain ⟨pb, po, rfl, hpb, hpcc⟩ := hpr (by intro e; have := HP0.out.1; rw [e] at this; simp at this)
            obtain ⟨u4, hu4, qA, qc, rfl, hqr⟩ := hpcc 0 _ HP0.out.1
            rw [HP0.out.2.1] at hqr hu4
            obtain ⟨qb, qo, rfl, hqb, hqc⟩ := hqr.at_ 0 (by simp)
            simp only [List.map_cons, List.map_nil, List.getElem_cons_zero, Nat.add_zero] at hqc hu4
            have hplen : 0 < (paidsT m y th).length := by simp [paidsT]
            have HB4 := Lib.hid (H3.out.later hb4).below
            clear hb4 hpr hpcc hqr ho4 HPD x0 x1 x2 x3 x4
            generalize paidV m (stOf y th) = pv at *
            generalize (paidsT m y th).length = pl at *
            have hpli : (0 : Int) < (pl : Int) := by omega
            by_cases hneg : pv < 0
            · have hl := HLL.out
              rw [if_pos hneg] at hl
              have HL := Lib.hid hl
              clear hl
              go_wp2_with fail
              go_ret3
              exact ⟨by rw [HL.out]; rfl, HB4.out⟩
            · have hl := HLL.out
              rw [if_neg hneg] at hl
              have HL := Lib.hid hl
              clear hl
              go_wp2_with fail
              go_ret3
              exact ⟨by rw [HL.out]; rfl, HB4.out⟩
          · have hl := HL.out
            rw [if_neg hfew] at hl
            have hdec : decide ((allS m (stOf y th)).length ≤ 2000) = false := by simpa using hfew
            rw [hdec]
            have HLL := Lib.hid hl
            clear hl hdec hfew HL ho3
            go_wp2_with fail
            go_ret3
            exact ⟨by rw [HLL.out]; rfl, H3.out.below⟩
  · have hne : (checkS m != 0) = true := by simpa using hc
    have hne2 : (!(checkS m == 0)) = true := by simpa using hc
    have hl : leastS m y th = (0, false, checkS m) := by unfold leastS; rw [if_neg hc]
    have HL := Lib.hid hl
    clear hc hl
    generalize checkS m = ce at *
    go_wp2_with fail
    go_ret3
    exact ⟨by rw [HL.out]; rfl, H1.out.below⟩
end Go.Proofs.Ytccplobhfokcgaa

/- The specification's Cheapest. -/
namespace Go.Proofs.Ytccplobhfokcgaa
open Go Go.RowKit Go.Shelf
set_option maxRecDepth 100000

theorem cheapS_bad {m : Wk} (h : checkS m ≠ 0) : cheapS m = ([], 0, false, checkS m) := by unfold cheapS; rw [if_neg h]
theorem cheapS_go {m : Wk} (h : checkS m = 0) : cheapS m = if (allS m (firstS m)).length ≤ 2000 then if paidV m (firstS m) < 0 then ([], 0, false, 0) else (planS m, paidV m (firstS m), true, 0) else ([], 0, false, 3) := by
  have hv := valS_bd (checkS_ok h) (firstS m)
  unfold cheapS
  rw [if_pos h]
  by_cases hm : (allS m (firstS m)).length ≤ 2000
  · rw [if_neg (by omega), if_pos hm]
    unfold paidV
    by_cases h : valS m (firstS m) < 2000000000
    · rw [if_neg (by omega), if_pos h, if_neg (by omega)]
    · rw [if_pos (by omega), if_neg h, if_pos (by omega)]
  · rw [if_pos (by omega), if_neg hm]
theorem paidV_val {m : Wk} {s : St} (h : ¬ paidV m s < 0) : valS m s < 2000000000 := by
  unfold paidV at h
  by_cases hv : valS m s < 2000000000
  · exact hv
  · rw [if_neg hv] at h; omega
theorem firstT {m : Wk} (hm : m.Ok) : FitT m (nows m) := by
  rw [nows_thicks hm.few]; exact fitT_thicks (firstS_fit hm)
/-- A state of the cheapest way, among the years' thicknesses. -/
structure WayT (m : Wk) (k : Nat) : Prop where
  fit : FitT m (thicks m (chS m k))
  st : stOf (0 + (k : Int)) (thicks m (chS m k)) = chS m k
  mem : thicks m (chS m k) ∈ levT m 0 (nows m) k
  val : valS m (chS m k) < 2000000000
  y : (chS m k).y = k
theorem wayT {m : Wk} (hm : m.Ok) (hv : valS m (firstS m) < 2000000000) {k : Nat} (hk : (k : Int) ≤ m.years) : WayT m k := by
  have h := chS_ok hm hv k hk
  have hr := allS_mem.1 h.all
  have hf := reach_fit hm (firstS_fit hm) hr
  have hl := reach_levT hm (firstT hm) (y := 0) hr
  rw [h.y, show ((k : Int) - 0).toNat = k by omega] at hl
  have hs := stOf_thicks hf
  rw [h.y] at hs
  exact ⟨fitT_thicks hf, by rw [Int.zero_add]; exact hs, hl, h.val, h.y⟩
/-- Rows of a list of one's own, each a row that lay there before. -/
def PlanAt (w : World) (B : Nat) (v : Value) (xss : List (List Int)) : Prop := ∃ vs, w.ownsRow B 36 1 v xss.length vs ∧ ∀ (i : Nat) (xs : List Int), xss[i]? = some xs → ∃ u, vs[i]? = some u ∧ IntsAt w B u xs
theorem PlanAt.nil (w : World) (B : Nat) : PlanAt w B (.slice none 0 0) [] := ⟨[], ⟨rfl, .inl ⟨rfl, rfl⟩⟩, fun i xs h => by simp at h⟩
theorem PlanAt.below {w w' : World} {B : Nat} {v : Value} {xss : List (List Int)} (h : PlanAt w B v xss) (hb : Below w.heap.size w w') (hB : B ≤ w.heap.size) : PlanAt w' B v xss := by
  obtain ⟨vs, h1, h2⟩ := h
  refine ⟨vs, own_below h1 hb (fun k hk => (own_blk_lt h1 k hk).2), fun i xs hi => ?_⟩
  obtain ⟨u, h3, h4⟩ := h2 i xs hi
  exact ⟨u, h3, h4.below (hb.mono hB)⟩
theorem PlanAt.rows {w : World} {B : Nat} {v : Value} {xss : List (List Int)} (h : PlanAt w B v xss) (hB : B ≤ w.heap.size) (hl : xss.length ≤ 1000000) : RowsAt w w.heap.size v xss := by
  obtain ⟨vs, h1, h2⟩ := h
  rcases id h1.2 with ⟨rfl, h0⟩ | ⟨g, cap, cur, rfl, _, hh, _, _, hs, ht⟩
  · obtain rfl : xss = [] := List.eq_nil_of_length_eq_zero h0
    exact ⟨none, 0, rfl, by simp, fun hn => absurd rfl hn⟩
  · refine ⟨_, cap, rfl, by omega, fun _ => ⟨g, 0, rfl, lt_blk hh, fun i xs hi => ?_⟩⟩
    obtain ⟨u, hu, h3⟩ := h2 i xs hi
    have hil := (List.getElem?_eq_some_iff.1 hi).1
    refine ⟨u, ?_, h3.mono hB⟩
    rw [cell_blk hh, Nat.zero_add]
    rw [← ht, List.getElem?_take, if_pos (by omega), Array.getElem?_toList] at hu
    exact hu
theorem PlanAt.snoc {W w1 : World} {B : Nat} {v v1 : Value} {xss : List (List Int)} {vs : List Value} {u : Value} {xs : List Int} (hb : Below B W w1)
    (h1 : W.ownsRow B 36 1 v xss.length vs) (h2 : ∀ (i : Nat) (xs : List Int), xss[i]? = some xs → ∃ u, vs[i]? = some u ∧ IntsAt W B u xs)
    (hu : IntsAt W B u xs) (hown : w1.ownsRow B 36 1 v1 (xss.length + 1) (vs ++ [u])) : PlanAt w1 B v1 (xss ++ [xs]) := by
  have hvl : vs.length = xss.length := by have := h1.1; simpa using this
  refine ⟨vs ++ [u], by rw [List.length_append]; exact hown, fun i ys hy => ?_⟩
  by_cases hi : i < xss.length
  · rw [List.getElem?_append_left hi] at hy
    obtain ⟨u', hu', h3⟩ := h2 i ys hy
    exact ⟨u', by rw [List.getElem?_append_left (by omega)]; exact hu', h3.below hb⟩
  · rw [List.getElem?_append_right (by omega)] at hy
    have h0 : i - xss.length = 0 := by
      have := (List.getElem?_eq_some_iff.1 hy).1
      simp at this; omega
    rw [h0] at hy
    have : xs = ys := by simpa using hy
    subst this
    exact ⟨u, by rw [List.getElem?_append_right (by omega), hvl, h0]; rfl, hu.below hb⟩
theorem pick_all {m : Wk} {s : St} {r : List Int} (h : pickS m s = some r) (h1 : ∀ r' ∈ (rowsS m).take (rowsS m).length, isBest m s r' = false) : False := by
  rw [pickS_none h1] at h; cases h

set_option maxHeartbeats 16000000 in
theorem rcheap_calls (m : Wk) (sl cr : Value) (w : World) (hsl : SlopesAt w w.heap.size sl m.slopes) (hcr : CraftsAt w w.heap.size cr m.crafts) :
    Calls Try.prog 23 #[.agg #[sl, cr, .int .i64 m.years, .int .i64 m.visit, .int .i64 m.hands]] w (CheapPost m w) := by
  obtain ⟨sA, sc, rfl, _, _⟩ := id hsl
  obtain ⟨cA, cc, rfl, _, _⟩ := id hcr
  obtain ⟨w0, hw0⟩ : ∃ w0, w0 = w.alloc (.cells #[.slice sA m.slopes.length sc, .slice cA m.crafts.length cc, .int .i64 m.years, .int .i64 m.visit, .int .i64 m.hands] 25) := ⟨_, rfl⟩
  have h0 := LawInv.start hsl hcr
  rw [← hw0] at h0
  have H0 := Lib.hid h0
  have HW0 := Lib.hid hw0
  have z0 : w.heap.size < w0.heap.size := by rw [hw0]; simp
  obtain ⟨x0, x1, x2, x3, x4⟩ := blk5 h0.box
  rw [hw0] at x0 x1 x2 x3 x4
  have hck := rcheck_calls m _ _ w0 h0.slopes h0.crafts
  have HCK := Lib.hid hck
  clear h0 hw0 hsl hcr hck
  go_enter Try.func23, Try.ntmps23
  go_wp2_with fail
  rw [← HW0.out]
  refine HCK.out.mono ?_
  rintro e w1 ⟨rfl, hb1⟩
  have H1 := Lib.hid (H0.out.later hb1)
  have z1 := hb1.size
  clear hb1 x0 x1 x2 x3 x4 HCK
  by_cases hc : checkS m = 0
  · have hm := checkS_ok hc
    have hn4 := hm.few
    have hn1 := hm.some
    have hyb := hm.years
    have hr625 := rowsS_len hm
    have hcg := cheapS_go hc
    have HM := Lib.hid hm
    have HCG := Lib.hid hcg
    have hfit := firstT hm
    have HFIT := Lib.hid hfit
    rw [hc]
    clear hm hc hcg hfit
    obtain ⟨x0, x1, x2, x3, x4⟩ := blk5 H1.out.box
    have hbx : w.heap.size < w1.heap.size := by omega
    go_wp2_with fail
    have hb1d : Below w1.heap.size w1 w1.drew := (Below.refl _ _).drew
    have HI1D := Lib.hid (H1.out.later hb1d)
    have hnl : (nows m).length ≤ 140737488355328 := by simp [nows]; omega
    have HNL := Lib.hid hnl
    clear hb1d hnl
    go_region_held3 (fun w' => w'.cell? ⟨w.heap.size, 0, none⟩ = some (.slice sA m.slopes.length sc) ∧ w'.cell? ⟨w.heap.size, 1, none⟩ = some (.slice cA m.crafts.length cc) ∧ w'.cell? ⟨w.heap.size, 2, none⟩ = some (.int .i64 m.years) ∧ w'.cell? ⟨w.heap.size, 3, none⟩ = some (.int .i64 m.visit) ∧ w'.cell? ⟨w.heap.size, 4, none⟩ = some (.int .i64 m.hands))
      (first
        | go_keep
        | (go_split_ands; refine ⟨?_, ?_, ?_, ?_, ?_⟩ <;> assumption))
      (first
        | (go_at_call 46; refine (rnows_calls m (.slice sA m.slopes.length sc) (.slice cA m.crafts.length cc) w1.drew HI1D.out.slopes HI1D.out.crafts hn4).mono ?_; rintro e w2 ⟨vn, rfl, hown2, hb2⟩; have hia := own_ints hown2 HNL.out; obtain ⟨nA, nc, rfl, hrow2⟩ := hia; have hI2 := HI1D.out.later hb2; obtain ⟨y0, y1, y2, y3, y4⟩ := blk5 hI2.box; have HI2 := Lib.hid hI2; have HROW2 := Lib.hid hrow2; clear hown2 hb2 hI2 hrow2)
        | (go_at_call 54; refine (rstates_calls m (.slice sA m.slopes.length sc) (.slice cA m.crafts.length cc) 0 nA nc (nows m) _ HM.out HFIT.out ⟨by omega, by omega⟩ HI2.out.slopes HI2.out.crafts HROW2.out).mono ?_; rintro e w3 ⟨⟨v3, rfl, ho3⟩, hb3⟩; have HO3 := Lib.hid ho3; have hI3 := HI2.out.later hb3; obtain ⟨y0, y1, y2, y3, y4⟩ := blk5 hI3.box; have HI3 := Lib.hid hI3; clear hb3 ho3 hI3))
    have hst0 : stOf 0 (nows m) = firstS m := rfl
    have hpost : ∀ (e : Ending) (w' : World) (v : Value), e = .returned (.tuple #[v, .int .i64 (cheapS m).2.1, .bool (cheapS m).2.2.1, .int .i64 (cheapS m).2.2.2]) → RowsAt w' w'.heap.size v (cheapS m).1 → Below w.heap.size w w' → CheapPost m w e w' := fun e w' v h1 h2 h3 => ⟨v, h1, h2, h3⟩
    have HPOST := Lib.hid hpost
    have hnilr : ∀ W : World, RowsAt W W.heap.size (.slice none 0 0) [] := fun W => ⟨none, 0, rfl, by simp, fun h => absurd rfl h⟩
    have HNILR := Lib.hid hnilr
    rename_i hheld9
    clear hheld9 hpost hnilr
    by_cases hfew : (allS m (stOf 0 (nows m))).length ≤ 2000
    · have hlv := Own3.levsT HM.out HFIT.out ⟨by omega, by omega⟩ hfew (HO3.out hfew)
      have hcg := HCG.out
      rw [← hst0, if_pos hfew] at hcg
      have hdec : decide ((allS m (stOf 0 (nows m))).length ≤ 2000) = true := by simpa using hfew
      rw [hdec]
      obtain ⟨vA, vn, vc, rfl⟩ : ∃ A n c, v3 = .slice A n c := by
        obtain ⟨A, c, e, _⟩ := id hlv
        exact ⟨_, _, _, e⟩
      have hpd := rpaid_calls m (.slice sA m.slopes.length sc) (.slice cA m.crafts.length cc) 0 (nows m) vA vn vc w3 HM.out HFIT.out ⟨by omega, by omega⟩ hfew HI3.out.slopes HI3.out.crafts hlv
      have HPD := Lib.hid hpd
      have HC2 := Lib.hid hcg
      have HLV := Lib.hid hlv
      have hp0 := paidsT_get (m := m) (y := 0) (th := nows m) (i := 0) (by omega)
      have hp00 : paidL m 0 (nows m) 0 = [paidV m (stOf 0 (nows m))] := by simp [paidL, levT]
      have hpl : (paidsT m 0 (nows m)).length ≤ 1000 := by simp only [paidsT, List.length_map, List.length_range]; omega
      have hlen := fun (i : Nat) (hi : (i : Int) ≤ m.years) => Nat.le_trans (lev_le (m := m) (y := 0) (th := nows m) i) (Nat.le_trans (lenT_le HM.out HFIT.out (y := 0) (k := i) (by omega)) hfew)
      have HLEN := Lib.hid hlen
      have hpx : ∀ xs ∈ paidsT m 0 (nows m), xs.length ≤ 1000000 := fun xs hx => by
        obtain ⟨i, hi⟩ := List.getElem?_of_mem hx
        have hil := (List.getElem?_eq_some_iff.1 hi).1
        simp only [paidsT, List.length_map, List.length_range] at hil
        rw [paidsT_get (by omega)] at hi
        cases hi
        rw [paidL_length]
        have := hlen i (by omega)
        omega
      have HP0 := Lib.hid (And.intro hp0 (And.intro hp00 hpx))
      have HST0 := Lib.hid hst0
      clear hlv hcg hdec hpd hp0 hp00 hfew hpx HCG hlen hst0 HO3
      go_wp2_with fail
      refine HPD.out.mono ?_
      rintro e w4 ⟨⟨v4, rfl, ho4⟩, hb4⟩
      have hr4 := ho4.rows (by omega) HP0.out.2.2
      obtain ⟨pA, pc, rfl, _, hpr⟩ := hr4
      obtain ⟨pb, po, rfl, hpb, hpcc⟩ := hpr (by intro e; have := HP0.out.1; rw [e] at this; simp at this)
      obtain ⟨u4, hu4, qA, qc, rfl, hqr⟩ := hpcc 0 _ HP0.out.1
      rw [HP0.out.2.1] at hqr hu4
      obtain ⟨qb, qo, rfl, hqb, hqc⟩ := hqr.at_ 0 (by simp)
      simp only [List.map_cons, List.map_nil, List.getElem_cons_zero, Nat.add_zero] at hqc hu4
      have hplen : 0 < (paidsT m 0 (nows m)).length := by simp [paidsT]
      have HPCC := Lib.hid hpcc
      have HI4 := Lib.hid (HI3.out.later hb4)
      have hz34 := hb4.size
      have HB34 := Lib.hid hb4
      clear hb4 hpr hpcc hqr ho4 HPD y0 y1 y2 y3 y4
      have hpli0 : (paidsT m 0 (nows m)).length = (m.years - 0).toNat + 1 := by simp [paidsT]
      generalize hpv : paidV m (stOf 0 (nows m)) = pv at *
      have HPV := Lib.hid hpv
      clear hpv
      generalize hpll : (paidsT m 0 (nows m)).length = pl at *
      have HPLL := Lib.hid hpll
      clear hpll
      have hpli : (0 : Int) < (pl : Int) := by omega
      have HPLI := Lib.hid hpli0
      clear hpli0
      by_cases hneg : pv < 0
      · have hcg := HC2.out
        rw [if_pos hneg] at hcg
        have HC3 := Lib.hid hcg
        clear hcg
        go_wp2_with fail
        refine bodyPost_ret (results_tmp4 (by rfl) _ _ _) rfl (HPOST.out _ _ _ (by rw [HC3.out]; rfl) (by rw [HC3.out]; exact HNILR.out _) HI4.out.below)
      · have hcg := HC2.out
        rw [if_neg hneg] at hcg
        have HC3 := Lib.hid hcg
        clear hcg HC2
        have hvv : valS m (firstS m) < 2000000000 := paidV_val (by rw [← HST0.out, HPV.out]; exact hneg)
        have hway := fun (k : Nat) (hk : (k : Int) ≤ m.years) => wayT HM.out hvv hk
        have hpick := fun (k : Nat) (hk : (k : Int) < m.years) => chS_pick (chS_ok HM.out hvv k (by omega)) hk
        have HWAY := Lib.hid hway
        have HPICK := Lib.hid hpick
        obtain ⟨y0, y1, y2, y3, y4⟩ := blk5 HI4.out.box
        have hrc := rrows_calls m (.slice sA m.slopes.length sc) (.slice cA m.crafts.length cc) w4 HM.out HI4.out.slopes HI4.out.crafts
        have HRC := Lib.hid hrc
        clear hvv hway hpick hrc
        go_wp2_with fail
        refine HRC.out.mono ?_
        rintro e w5 ⟨⟨vr, rfl, hor⟩, hb5⟩
        have hrl : ∀ xs ∈ rowsS m, xs.length ≤ 1000000 := fun xs hx => by have := (rowsS_mem hx).1.len; omega
        have hra := hor.rows (by omega) hrl
        obtain ⟨rA, rc, rfl, _, hrr⟩ := hra
        have HRR := Lib.hid hrr
        have HI5 := Lib.hid (HI4.out.later hb5)
        have hz45 := hb5.size
        have HB45 := Lib.hid hb5
        clear hb5 hor hrl hrr y0 y1 y2 y3 y4 HRC
        obtain ⟨y0, y1, y2, y3, y4⟩ := blk5 HI5.out.box
        go_wp2_with fail
        refine (rnows_calls m (.slice sA m.slopes.length sc) (.slice cA m.crafts.length cc) w5 HI5.out.slopes HI5.out.crafts hn4).mono ?_
        rintro e w6 ⟨vn6, rfl, hown6, hb6⟩
        obtain ⟨n6A, n6n, n6c, rfl⟩ := own_slice hown6
        rw [nows_thicks hn4] at hown6
        have HOWN6 := Lib.hid (own_mono hown6 (show w4.heap.size ≤ w5.heap.size from hz45))
        have HI6 := Lib.hid (HI5.out.later hb6)
        have HB46 := Lib.hid (HB45.out.trans (hb6.mono hz45))
        have HB56 := Lib.hid hb6
        have hz56 := hb6.size
        clear hb6 hown6 y0 y1 y2 y3 y4
        go_wp2_with fail
        have hchf : chS m 0 = firstS m := rfl
        go_loopw [11, 12, 13] (fun nw pl c wr => ∃ k : Nat, (k : Int) ≤ m.years ∧ c = .int .i64 (k : Int) ∧ (∃ A n c, nw = .slice A n c) ∧ (∃ A n c, pl = .slice A n c) ∧ Hid (wr.ownsRow w4.heap.size 3 1 nw (thicks m (chS m k)).length ((thicks m (chS m k)).map (Value.int .i64))) ∧ Hid (PlanAt wr w5.heap.size pl (planTo m k)) ∧ Hid (Below w5.heap.size w5 wr)) (fun _ _ c _ => (m.years - intOf c).toNat)
        case atStart => exact ⟨0, by omega, rfl, ⟨_, _, _, rfl⟩, ⟨none, 0, 0, rfl⟩, HOWN6, Lib.hid (PlanAt.nil _ _), HB56⟩
        case round =>
          obtain ⟨k, hk, rfl, ⟨nA6, nn6, nc6, rfl⟩, ⟨lA, ln, lc, rfl⟩, HNOW, HPL, HB⟩ := hrel
          obtain ⟨Wr, rfl⟩ : ∃ Wr, Wr = wr := ⟨_, rfl⟩
          have zr := HB.out.size
          have HI := Lib.hid (HI5.out.later HB.out)
          obtain ⟨y0, y1, y2, y3, y4⟩ := blk5 HI.out.box
          have hB4 : Below w4.heap.size w4 Wr := HB45.out.trans (HB.out.mono hz45)
          have HB4 := Lib.hid hB4
          have hB3 := HI3.out
          clear hB3
          by_cases hkl : (k : Int) < m.years
          · have hkadd : IntKind.i64.wrap ((k : Int) + 1) = (k : Int) + 1 := IntWalk.i64_in _ (by omega)
            have hk0 : (0 : Int) ≤ (k : Int) := by omega
            have hway := HWAY.out k (by omega)
            obtain ⟨hpk1, hpk2, hpk3, hpk4, hpk5⟩ := HPICK.out k hkl
            obtain ⟨_, _, e9, hvn1, hvc⟩ := id HLV.out
            cases e9
            have hll := levsT_length m 0 (nows m)
            obtain ⟨vb, vo, rfl, hvb, hvcc⟩ := hvc (by intro e; rw [e] at hll; simp at hll)
            obtain ⟨uk, huk, hlk⟩ := hvcc k _ (levsT_get (by omega))
            obtain ⟨uk1, huk1, hlk1⟩ := hvcc (k + 1) _ (levsT_get (by omega))
            obtain ⟨lkA, lkc, rfl, _, _⟩ := id hlk
            obtain ⟨lmA, lmc, rfl, _, _⟩ := id hlk1
            obtain ⟨pk, hpk, pkA, pkc, rfl, hpkr⟩ := HPCC.out k _ (paidsT_get (by omega))
            obtain ⟨pm, hpm, pmA, pmc, rfl, hpmr⟩ := HPCC.out (k + 1) _ (paidsT_get (by omega))
            have hB34 : ∀ W, Below w4.heap.size w4 W → Below w3.heap.size w3 W := fun W hW => HB34.out.trans (hW.mono hz34)
            have hia := own_ints HNOW.out (by rw [thicks_length]; omega)
            obtain ⟨_, _, e9, hnr⟩ := id hia
            cases e9
            have hts := placeT_mem (levT_rises k) hway.mem
            have hpks := paidL_get hts
            rw [hway.st] at hpks
            have hil := (List.getElem?_eq_some_iff.1 hts).1
            have hlen3 := HLEN.out k (by omega)
            have hlen4 := HLEN.out (k + 1) (by omega)
            have hnl := thicks_length m (chS m k)
            have hpl1 := rplace_calls lkA lkc (levT m 0 (nows m) k) nA6 nc6 (thicks m (chS m k)) Wr ((hlk.below (hB34 Wr hB4)).mono (by have := (hB34 Wr hB4).size; omega)) hnr (fun x hx => by rw [(levT_fit HM.out HFIT.out k x hx).len, hnl])
            have hll2 : (levsT m 0 (nows m)).length = m.years.toNat + 1 := by rw [hll]; simp
            have hlli : (k : Int) < (((levsT m 0 (nows m)).length : Nat) : Int) := by omega
            have hlli1 : (k : Int) + 1 < (((levsT m 0 (nows m)).length : Nat) : Int) := by omega
            have hplk : (k : Int) < (pl : Int) := by have := HPLI.out; omega
            have hplk1 : (k : Int) + 1 < (pl : Int) := by have := HPLI.out; omega
            have hvw := fun W (hW : Below w4.heap.size w4 W) => And.intro (((hB34 W hW).cell (p := ⟨vb, vo + k, none⟩) hvb).trans huk) (((hB34 W hW).cell (p := ⟨vb, vo + (k + 1), none⟩) hvb).trans huk1)
            have hvz := fun W (hW : Below w4.heap.size w4 W) => Nat.lt_of_lt_of_le hvb (hB34 W hW).size
            have hlmw := fun W (hW : Below w4.heap.size w4 W) => (hlk1.below (hB34 W hW)).mono (hB34 W hW).size
            have hpw := fun W (hW : Below w4.heap.size w4 W) => And.intro ((hW.cell (p := ⟨pb, po + k, none⟩) hpb).trans hpk) ((hW.cell (p := ⟨pb, po + (k + 1), none⟩) hpb).trans hpm)
            have HVW := Lib.hid hvw
            have HVZ := Lib.hid hvz
            have HLMW := Lib.hid hlmw
            have HPW := Lib.hid hpw
            have HPKR := Lib.hid hpkr
            have HPMR := Lib.hid hpmr
            have HNR := Lib.hid hnr
            have HPKS := Lib.hid hpks
            have HPL1 := Lib.hid hpl1
            have HWK := Lib.hid hway
            have HPK := Lib.hid (And.intro hpk1 (And.intro hpk2 (And.intro hpk3 (And.intro hpk4 hpk5))))
            have hu1 := (hvw Wr hB4).1
            generalize hher : placeT (levT m 0 (nows m) k) (thicks m (chS m k)) = here at *
            have hvz1 := hvz Wr hB4
            have HNLK := Lib.hid hnl
            clear hnl
            generalize (levsT m 0 (nows m)).length = vl at *
            clear hvn1 hll hvc hvcc huk huk1 hlk hlk1 hpk hpm hB34 hia hpkr hpmr hts hpks hway hpk1 hpk2 hpk3 hpk4 hpk5 hpl1 hll2 hvw hvz hlmw hpw hnr hher hchf hB4
            go_wp2_with fail
            refine HPL1.out.mono ?_
            rintro e w7 ⟨rfl, hb7⟩
            have HB7 := Lib.hid (HB.out.trans (hb7.mono zr))
            have HNOW7 := Lib.hid (own_below HNOW.out hb7 (fun b hb => (own_blk_lt HNOW.out b hb).2))
            have HPL7 := Lib.hid (HPL.out.below hb7 zr)
            have HNR7 := Lib.hid ((HNR.out.below hb7).mono hb7.size)
            clear hb7 hu1 y0 y1 y2 y3 y4 HPL1 HB4 HNOW HPL HNR
            generalize decide ((levT m 0 (nows m) k)[here]? = some (thicks m (chS m k))) = isd1 at *
            have z7 := HB7.out.size
            go_wp2_with fail
            go_loopw [11, 12, 16] (fun nw pl c wj => ∃ j : Nat, j ≤ (rowsS m).length ∧ c = .int .i64 (j : Int) ∧ nw = .slice nA6 (thicks m (chS m k)).length nc6 ∧ pl = .slice lA ln lc ∧ Hid (∀ r' ∈ (rowsS m).take j, isBest m (chS m k) r' = false) ∧ Hid (Below w7.heap.size w7 wj)) (fun _ _ c _ => (rowsS m).length - (intOf c).toNat)
            case atStart => exact ⟨0, Nat.zero_le _, rfl, rfl, rfl, Lib.hid (by simp), Lib.hid (Below.refl _ _)⟩
            case round =>
              obtain ⟨j, hj, rfl, rfl, rfl, HNB, HBJ⟩ := hrel
              obtain ⟨Wj, rfl⟩ : ∃ Wj, Wj = wr := ⟨_, rfl⟩
              have zj := HBJ.out.size
              by_cases hjl : j < (rowsS m).length
              · have hji : (j : Int) < ((rowsS m).length : Int) := by omega
                have hj0 : (0 : Int) ≤ (j : Int) := by omega
                have hjadd : IntKind.i64.wrap ((j : Int) + 1) = (j : Int) + 1 := IntWalk.i64_in _ (by omega)
                have hgr : (rowsS m)[j]? = some (rowsS m)[j] := List.getElem?_eq_getElem hjl
                obtain ⟨rb, ro, rfl, hrb, hrcl⟩ := HRR.out (by intro e; rw [e] at hjl; simp at hjl)
                obtain ⟨ur, hur, rA2, rc2, rfl, hrr2⟩ := hrcl j _ hgr
                have hrmem := List.getElem_mem hjl
                have hrok := (rowsS_mem hrmem).1
                have hw5 : ∀ W, Grows Wj W → Below w5.heap.size w5 W := fun W hW => HB7.out.trans ((HBJ.out.trans (hW.mono zj)).mono z7)
                have hw4 : ∀ W, Grows Wj W → Below w4.heap.size w4 W := fun W hW => HB45.out.trans ((hw5 W hW).mono hz45)
                have hIW : ∀ W, Grows Wj W → _ := fun W hW => HI5.out.later (hw5 W hW)
                have hsok : (chS m k).Ok m := by
                  have h1 := stOf_ok HM.out (y := 0 + (k : Int)) (outB_false.2 ⟨by omega, by omega⟩) (fits_thicks HM.out (HWK.out.st ▸ HWK.out.fit.st (0 + (k : Int)) : StFit m (chS m k)))
                  rwa [HWK.out.st] at h1
                have hyear : ∀ W, Grows Wj W → _ := fun W hW => ryear_calls m (.slice sA m.slopes.length sc) (.slice cA m.crafts.length cc) (chS m k) nA6 rA2 nc6 rc2 (rowsS m)[j] W HM.out hsok hrok (hIW W hW).slopes (hIW W hW).crafts ((HNR7.out.below (HBJ.out.trans (hW.mono zj))).mono (Nat.le_trans zj (Below.size hW))) ((hrr2.below (hw5 W hW)).mono (hw5 W hW).size)
                rw [HWK.out.y] at hyear
                have hcosts : ∀ W, Grows Wj W → _ := fun W hW => costs_calls m (.slice sA m.slopes.length sc) (.slice cA m.crafts.length cc) rA2 rc2 (rowsS m)[j] W HM.out hrok (hIW W hW).slopes (hIW W hW).crafts ((hrr2.below (hw5 W hW)).mono (hw5 W hW).size)
                have hq : ∀ W, Grows Wj W → _ := fun W hW => And.intro (blk5 (hIW W hW).box) (And.intro (((hw5 W hW).cell (p := ⟨rb, ro + j, none⟩) hrb).trans hur) (HPW.out W (hw4 W hW)))
                have hbest := fun (h : keptS m (chS m k) (rowsS m)[j] = true) => isBest_paid HM.out hrmem HWK.out.val h
                have hbest0 : keptS m (chS m k) (rowsS m)[j] = false → isBest m (chS m k) (rowsS m)[j] = false := fun h => by unfold isBest; rw [h]; rfl
                have hnbx : isBest m (chS m k) (rowsS m)[j] = false → ∀ r' ∈ (rowsS m).take (j + 1), isBest m (chS m k) r' = false := fun h r' hr' => by
                  rw [List.take_succ_eq_append_getElem hjl] at hr'
                  rcases List.mem_append.1 hr' with h1 | h1
                  · exact HNB.out r' h1
                  · have : r' = (rowsS m)[j] := by simpa using h1
                    rw [this]; exact h
                have hfound : isBest m (chS m k) (rowsS m)[j] = true → pkS m k = (rowsS m)[j] ∧ chS m (k + 1) = stepS m (chS m k) (rowsS m)[j] := fun h => by
                  have h1 := pickS_first hgr HNB.out h
                  rw [HPK.out.1] at h1
                  have h2 : pkS m k = (rowsS m)[j] := by simpa using h1
                  exact ⟨h2, by rw [HPK.out.2.2.2.2, h2]⟩
                have hnl : (thicks m (stepS m (chS m k) (rowsS m)[j])).length = m.slopes.length := thicks_length _ _
                have hnin := fun (h : keptS m (chS m k) (rowsS m)[j] = true) => (nextT_mem.2 ⟨_, HWK.out.mem, _, hrmem, by rw [HWK.out.st]; exact h, by rw [HWK.out.st]⟩ : thicks m (stepS m (chS m k) (rowsS m)[j]) ∈ levT m 0 (nows m) (k + 1))
                have hnst := stepS_stOf m HM.out (y := 0 + (k : Int)) (r := (rowsS m)[j]) HWK.out.fit
                rw [HWK.out.st] at hnst
                have hcbd := costS_bd HM.out hrok
                have hrbd := paidV_bd HM.out (s := stepS m (chS m k) (rowsS m)[j]) (by rw [stepS_y, HWK.out.y]; omega)
                have hrint : IntsAt w5 w5.heap.size (.slice rA2 (rowsS m)[j].length rc2) (rowsS m)[j] := ⟨_, _, rfl, hrr2⟩
                have hq5 := hur
                have HYEAR := Lib.hid hyear
                have HCOSTS := Lib.hid hcosts
                have HQ := Lib.hid hq
                have HBEST := Lib.hid hbest
                have HBEST0 := Lib.hid hbest0
                have HNBX := Lib.hid hnbx
                have HFOUND := Lib.hid hfound
                have HNL := Lib.hid hnl
                have HNIN := Lib.hid hnin
                have HNST := Lib.hid hnst
                have HW5 := Lib.hid hw5
                have HW4 := Lib.hid hw4
                have HIW := Lib.hid hIW
                have HRINT := Lib.hid hrint
                have HRB := Lib.hid (And.intro hrb hq5)
                clear hrcl hur hrr2 hrok hsok hw5 hw4 hIW hyear hcosts hq hbest hbest0 hnbx hfound hgr hnl hnin hrmem hnst hrint hq5
                generalize hkd : keptS m (chS m k) (rowsS m)[j] = kd at *
                generalize hbb : isBest m (chS m k) (rowsS m)[j] = bb at *
                generalize hntt : thicks m (stepS m (chS m k) (rowsS m)[j]) = nt at *
                have HNT := Lib.hid hntt
                clear hntt
                generalize stepS m (chS m k) (rowsS m)[j] = nst at *
                generalize costS m (rowsS m)[j] = co at *
                generalize (rowsS m)[j] = rj at *
                clear hkd hbb
                go_wp2_with fail
                refine wp_region_rg Grows (fun | 7 => .any (yearV kd) (fun _ => YearD Wj.heap.size kd nt) | _ => .fn) (by kernel_rfl) (by kernel_rfl) Grows.refl growsT (by intro i; split <;> first | trivial | exact fun _ => yearD_stable _ _ _) ?_
                iterate 7 (refine rg_step fun K hK => ?_; apply rg_fn rfl; (intro w4 hw; obtain ⟨⟨y0, y1, y2, y3, y4⟩, q1, q2, q3⟩ := HQ.out w4 hw.undrew; go_simp; try rfl); go_simp; (try with_reducible refine hK _ _ ?_); try clear hK K)
                refine rg_step fun K hK => ?_
                apply rg_call_any (.inl rfl) rfl
                · intro w4 hw
                  go_simp
                  exact ⟨rfl, rfl⟩
                · intro w4 hw
                  refine (HYEAR.out w4 hw.undrew).mono ?_
                  rintro e w5 ⟨v', he, ho, hb⟩
                  obtain ⟨A5, n5, c5, rfl⟩ := own_slice ho
                  exact ⟨_, he, hb, ⟨_, _, _, rfl⟩, _, rfl, own_mono ho (Below.size hw.undrew)⟩
                rintro v5 ⟨A5, n5, c5, rfl⟩
                go_simp
                (try with_reducible refine hK _ _ ?_)
                try clear hK K
                iterate 5 (refine rg_step fun K hK => ?_; apply rg_fn rfl; (intro w4 hw; go_simp; try rfl); go_simp; (try with_reducible refine hK _ _ ?_); try clear hK K)
                refine rg_nil ?_
                rintro w8 hw8 hD
                replace hw8 := hw8.undrew
                obtain ⟨u9, e9, hown8⟩ := hD
                obtain rfl : Value.slice A5 n5 c5 = u9 := by simpa using e9
                have HOWN8 := Lib.hid hown8
                have HB8 := Lib.hid (HBJ.out.trans (hw8.mono zj))
                have z8 := Below.size hw8
                have HG8 := Lib.hid hw8
                clear hw8 hown8 e9 HYEAR
                cases kd
                · have hb0 := HBEST0.out rfl
                  have HNX := Lib.hid (HNBX.out hb0)
                  clear hb0 HBEST HBEST0 HNIN
                  go_wp2_with fail
                  go_round
                  case rel => exact ⟨j + 1, by omega, by go_num, rfl, rfl, HNX, HB8⟩
                  case measure => simp [intOf]; omega
                · have hnin := HNIN.out rfl
                  have hbest := HBEST.out rfl
                  have hnl := HNL.out
                  have hat := placeT_mem (levT_rises (k + 1)) hnin
                  have hia := own_ints HOWN8.out (by rw [hnl]; omega)
                  obtain ⟨_, _, e9, hrow8⟩ := id hia
                  cases e9
                  have hw48 := HW4.out w8 HG8.out
                  have hplace := rplace_calls lmA lmc (levT m 0 (nows m) (k + 1)) A5 c5 nt w8 (HLMW.out w8 hw48) hrow8 (fun x hx => by rw [(levT_fit HM.out HFIT.out (k + 1) x hx).len, hnl])
                  have hpg := paidL_get hat
                  have hal := (List.getElem?_eq_some_iff.1 hat).1
                  rw [show (0 : Int) + ((k + 1 : Nat) : Int) = 0 + (k : Int) + 1 by omega, HNST.out] at hpg
                  have hv8 := (HVW.out w8 hw48).2
                  have hvz8 := HVZ.out w8 hw48
                  generalize placeT (levT m 0 (nows m) (k + 1)) nt = a at *
                  generalize decide ((levT m 0 (nows m) (k + 1))[a]? = some nt) = isd at *
                  have HPLC := Lib.hid hplace
                  have HPG := Lib.hid hpg
                  have HBST := Lib.hid hbest
                  clear hnin hbest hnl hat hia hrow8 hw48 hplace hpg HBEST HBEST0 HNIN
                  go_wp2_with fail
                  refine HPLC.out.mono ?_
                  rintro e w9 ⟨rfl, hb9⟩
                  have HB9 := Lib.hid (HB8.out.trans (hb9.mono (by omega)))
                  have H89 := Lib.hid hb9
                  have hg9 : Grows Wj w9 := growsT _ _ _ HG8.out hb9
                  have HG9 := Lib.hid hg9
                  have hal2 : (a : Int) < ((paidL m 0 (nows m) (k + 1)).length : Int) := by rw [paidL_length]; omega
                  have hhr2 : (here : Int) < ((paidL m 0 (nows m) k).length : Int) := by rw [paidL_length]; omega
                  have ha0 : (0 : Int) ≤ (a : Int) := by omega
                  have hh0 : (0 : Int) ≤ (here : Int) := by omega
                  obtain ⟨ab, ao, e9, hab, hac⟩ := HPMR.out.at_ a (by rw [List.length_map, paidL_length]; exact hal)
                  subst e9
                  obtain ⟨hb', ho', e9, hhb, hhc⟩ := HPKR.out.at_ here (by rw [List.length_map, paidL_length]; exact hil)
                  subst e9
                  have hav : ((paidL m 0 (nows m) (k + 1)).map (Value.int .i64))[a]'(by rw [List.length_map, paidL_length]; exact hal) = .int .i64 (paidV m nst) := by
                    rw [List.getElem_map]
                    have := HPG.out
                    rw [List.getElem?_eq_getElem (by rw [paidL_length]; exact hal)] at this
                    simpa using this
                  have hhv : ((paidL m 0 (nows m) k).map (Value.int .i64))[here]'(by rw [List.length_map, paidL_length]; exact hil) = .int .i64 (paidV m (chS m k)) := by
                    rw [List.getElem_map]
                    have := HPKS.out
                    rw [List.getElem?_eq_getElem (by rw [paidL_length]; exact hil)] at this
                    simpa using this
                  rw [hav] at hac
                  rw [hhv] at hhc
                  have hq9 : ∀ W, Grows w9 W → _ := fun W hW => And.intro (HQ.out W (growsT _ _ _ hg9 hW)) (And.intro (((HW4.out W (growsT _ _ _ hg9 hW)).cell (p := ⟨ab, ao + a, none⟩) hab).trans hac) (((HW4.out W (growsT _ _ _ hg9 hW)).cell (p := ⟨hb', ho' + here, none⟩) hhb).trans hhc))
                  have hco9 : ∀ W, Grows w9 W → _ := fun W hW => HCOSTS.out W (growsT _ _ _ hg9 hW)
                  have HQ9 := Lib.hid hq9
                  have HCO9 := Lib.hid hco9
                  have hadd : IntKind.i64.wrap (paidV m nst + co) = paidV m nst + co := IntWalk.i64_in _ (by omega)
                  have hkadd9 := hkadd
                  clear hb9 hg9 hac hhc hav hhv hq9 hco9 HPLC HQ HCOSTS hv8 hvz8
                  generalize paidV m nst = rest at *
                  generalize paidV m (chS m k) = ps at *
                  by_cases hr0 : 0 ≤ rest
                  · have hr0b : decide (0 ≤ rest) = true := by simpa using hr0
                    by_cases heq : rest + co = ps
                    · have heqb : (rest + co == ps) = true := by simpa using heq
                      have hbb : bb = true := by rw [HBST.out, hr0b]; simpa using heq
                      have HF := Lib.hid (HFOUND.out hbb)
                      clear heq hbb
                      have hpa := HPL7.out.below (HB9.out) (by omega)
                      have HOWN9 := Lib.hid (own_mono (own_below HOWN8.out (show Below w8.heap.size w8 w9 from H89.out) (fun b hb => (own_blk_lt HOWN8.out b hb).2)) (show w4.heap.size ≤ Wj.heap.size by omega))
                      have HPA := Lib.hid hpa
                      have z9 := HB9.out.size
                      clear hpa HOWN8
                      go_wp2_with fail
                      refine wp_region_rg Grows (fun | 23 => .ex (.int .i64 co) | _ => .fn) (by kernel_rfl) (by kernel_rfl) Grows.refl growsT (by intro i; split <;> trivial) ?_
                      iterate 23 (refine rg_step fun K hK => ?_; apply rg_fn rfl; (intro w4 hw; obtain ⟨⟨⟨y0, y1, y2, y3, y4⟩, q1, q2, q3⟩, q4, q5⟩ := HQ9.out w4 hw.undrew; go_simp; try rfl); go_simp; (try with_reducible refine hK _ _ ?_); try clear hK K)
                      refine rg_step fun K hK => ?_
                      apply rg_call (.inl rfl) rfl
                      · intro w4 hw
                        go_simp
                        exact ⟨rfl, rfl⟩
                      · intro w4 hw
                        exact HCO9.out w4 hw.undrew
                      go_simp
                      (try with_reducible refine hK _ _ ?_)
                      try clear hK K
                      iterate 10 (refine rg_step fun K hK => ?_; apply rg_fn rfl; (intro w4 hw; obtain ⟨⟨⟨y0, y1, y2, y3, y4⟩, q1, q2, q3⟩, q4, q5⟩ := HQ9.out w4 hw.undrew; go_simp; try rfl); go_simp; (try with_reducible refine hK _ _ ?_); try clear hK K)
                      refine rg_nil ?_
                      rintro wa hwa _
                      replace hwa := hwa.undrew
                      have hga := growsT _ _ _ HG9.out hwa
                      have hw5a := HW5.out wa hga
                      have hza := Below.size hwa
                      have HBA := Lib.hid (HB9.out.trans (hwa.mono z9))
                      have HOWNA := Lib.hid (own_below HOWN9.out hwa (fun b hb => (own_blk_lt HOWN9.out b hb).2))
                      obtain ⟨vs, hv1, hv2⟩ := HPA.out.below hwa (by omega)
                      rw [planTo_length] at hv1
                      have hv1w := fun ob => own_below hv1 (below1 wa ob) (fun b hb => (own_blk_lt hv1 b hb).2)
                      have HV := Lib.hid (And.intro hv1 hv2)
                      have HV1 := Lib.hid hv1w
                      have HRI := Lib.hid (HRINT.out.below hw5a)
                      have hra := (hw5a.cell (p := ⟨rb, ro + j, none⟩) HRB.out.1).trans HRB.out.2
                      have hrbz : rb < wa.heap.size := Nat.lt_of_lt_of_le HRB.out.1 hw5a.size
                      have hza5 := hw5a.size
                      have hk40 : k ≤ 40 := by omega
                      have HW5A := Lib.hid hw5a
                      clear hga hw5a hwa hv1 hv2 hv1w HPA HQ9 HCO9
                      go_wp2_with (at_builtin; (refine wpList_app2 w5.heap.size _ _ 26 36 (.slice none 0 0) 1 24 [.slice rA2 rj.length rc2] (by rfl) (by rfl) Try.underlying26 infoRow rfl (by decide) (by decide) (.slice lA ln lc) k vs (by rfl) wa.heap.size (by rfl) (heap_alloc_self _ _) rfl (by simp [Value.oneCell']) (HV1.out _) (by omega) (by simp; omega) ?_); intro v6 w10 hown10 hg10 hat10 hb10; obtain ⟨A6, n6, c6, rfl⟩ := own_slice hown10; have HX := Lib.hid (And.intro hown10 (And.intro hg10 hb10)); clear hown10 hg10 hat10 hb10)
                      obtain ⟨hown10, hg10, hb10⟩ := HX.out
                      have hb5a : Below w5.heap.size (wa.alloc (.cells #[.slice rA2 rj.length rc2] 36)) w10 := hb10
                      have hal1 : Below w5.heap.size wa (wa.alloc (.cells #[.slice rA2 rj.length rc2] 36)) := (below1 wa _).mono hza5
                      have hpn : PlanAt w10 w5.heap.size (.slice A6 n6 c6) (planTo m (k + 1)) := by
                        rw [planTo_succ, HF.out.1]
                        refine PlanAt.snoc hb5a (by rw [planTo_length]; exact own_below HV.out.1 (below1 wa _) (fun b hb => (own_blk_lt HV.out.1 b hb).2)) (fun i xs hi => ?_) (HRI.out.below hal1) (by rw [planTo_length]; exact hown10)
                        obtain ⟨u, h1, h2⟩ := HV.out.2 i xs hi
                        exact ⟨u, h1, h2.below hal1⟩
                      have hon : w10.ownsRow w4.heap.size 3 1 (.slice A5 nt.length c5) nt.length (nt.map (Value.int .i64)) :=
                        ints_grown (own_below HV.out.1 (below1 wa (.cells #[.slice rA2 rj.length rc2] 36)) (fun b hb => (own_blk_lt HV.out.1 b hb).2)) hg10 (own_below HOWNA.out (below1 wa _) (fun b hb => (own_blk_lt HOWNA.out b hb).2))
                      have hbn : Below w5.heap.size w5 w10 := HW5A.out.trans (hal1.trans hb5a)
                      have hnt : thicks m (chS m (k + 1)) = nt := by rw [HF.out.2, HNT.out]
                      have HPN := Lib.hid hpn
                      have HON := Lib.hid hon
                      have HBN := Lib.hid hbn
                      have HNT2 := Lib.hid hnt
                      clear hown10 hg10 hb10 hb5a hal1 hpn hon hbn hnt HX HV HV1
                      go_wp2_with fail
                      go_round
                      case rel => exact ⟨k + 1, by omega, by go_num, ⟨_, _, _, rfl⟩, ⟨_, _, _, rfl⟩, by rw [HNT2.out]; exact HON, HPN, HBN⟩
                      case measure => simp [intOf]; omega
                    · have heqb : (rest + co == ps) = false := by simpa using heq
                      have hbb : bb = false := by rw [HBST.out, hr0b]; simpa using heq
                      have HNX := Lib.hid (HNBX.out hbb)
                      clear heq hbb
                      go_wp2_with fail
                      refine wp_region_rg Grows (fun | 23 => .ex (.int .i64 co) | _ => .fn) (by kernel_rfl) (by kernel_rfl) Grows.refl growsT (by intro i; split <;> trivial) ?_
                      iterate 23 (refine rg_step fun K hK => ?_; apply rg_fn rfl; (intro w4 hw; obtain ⟨⟨⟨y0, y1, y2, y3, y4⟩, q1, q2, q3⟩, q4, q5⟩ := HQ9.out w4 hw.undrew; go_simp; try rfl); go_simp; (try with_reducible refine hK _ _ ?_); try clear hK K)
                      refine rg_step fun K hK => ?_
                      apply rg_call (.inl rfl) rfl
                      · intro w4 hw
                        go_simp
                        exact ⟨rfl, rfl⟩
                      · intro w4 hw
                        exact HCO9.out w4 hw.undrew
                      go_simp
                      (try with_reducible refine hK _ _ ?_)
                      try clear hK K
                      iterate 10 (refine rg_step fun K hK => ?_; apply rg_fn rfl; (intro w4 hw; obtain ⟨⟨⟨y0, y1, y2, y3, y4⟩, q1, q2, q3⟩, q4, q5⟩ := HQ9.out w4 hw.undrew; go_simp; try rfl); go_simp; (try with_reducible refine hK _ _ ?_); try clear hK K)
                      refine rg_nil ?_
                      rintro wa hwa _
                      have HBA := Lib.hid (HB9.out.trans (hwa.undrew.mono HB9.out.size))
                      clear hwa
                      go_wp2_with fail
                      go_round
                      case rel => exact ⟨j + 1, by omega, by go_num, rfl, rfl, HNX, HBA⟩
                      case measure => simp [intOf]; omega
                  · have hr0b : decide (0 ≤ rest) = false := by simpa using hr0
                    have hbb : bb = false := by rw [HBST.out, hr0b]; rfl
                    have HNX := Lib.hid (HNBX.out hbb)
                    clear hbb
                    go_wp2_with fail
                    refine wp_region_rg Grows (fun _ => .fn) (by kernel_rfl) (by kernel_rfl) Grows.refl growsT (fun _ => trivial) ?_
                    iterate 10 (refine rg_step fun K hK => ?_; apply rg_fn rfl; (intro w4 hw; obtain ⟨⟨⟨y0, y1, y2, y3, y4⟩, q1, q2, q3⟩, q4, q5⟩ := HQ9.out w4 hw.undrew; go_simp; try rfl); go_simp; (try with_reducible refine hK _ _ ?_); try clear hK K)
                    iterate 23 (refine rg_step fun K hK => rg_skip rfl ?_; go_simp; (try with_reducible refine hK _ _ ?_); try clear hK K)
                    iterate 1 (refine rg_step fun K hK => ?_; apply rg_fn rfl; (intro w4 hw; go_simp; try rfl); go_simp; (try with_reducible refine hK _ _ ?_); try clear hK K)
                    refine rg_nil ?_
                    rintro wa hwa _
                    have HBA := Lib.hid (HB9.out.trans (hwa.undrew.mono HB9.out.size))
                    clear hwa
                    go_wp2_with fail
                    go_round
                    case rel => exact ⟨j + 1, by omega, by go_num, rfl, rfl, HNX, HBA⟩
                    case measure => simp [intOf]; omega
              · obtain rfl : j = (rowsS m).length := by omega
                exact (pick_all HPK.out.1 HNB.out).elim
          · have hke : (k : Int) = m.years := by omega
            have hplan : planTo m k = planS m := by unfold planS; rw [show m.years.toNat = k by omega]
            have hpa := HPL.out
            rw [hplan] at hpa
            have hkl2 : (planS m).length ≤ 1000000 := by rw [← hplan, planTo_length]; omega
            have hr4 : Wr.cell? ⟨pb, po, none⟩ = some (.slice (some ⟨qb, qo, none⟩) [pv].length qc) := (hB4.cell (p := ⟨pb, po, none⟩) hpb).trans hu4
            have hq4 : Wr.cell? ⟨qb, qo, none⟩ = some (.int .i64 pv) := (hB4.cell (p := ⟨qb, qo, none⟩) hqb).trans hqc
            have hwb := HI.out.below
            have hpz : pb < Wr.heap.size := Nat.lt_of_lt_of_le hpb hB4.size
            have hqz : qb < Wr.heap.size := Nat.lt_of_lt_of_le hqb hB4.size
            have hqr : ∀ W, Grows Wr W → _ := fun W hW => And.intro ((hW.cell (p := ⟨pb, po, none⟩) hpz).trans hr4) ((hW.cell (p := ⟨qb, qo, none⟩) hqz).trans hq4)
            have HQR := Lib.hid hqr
            have HPA := Lib.hid hpa
            have HWB := Lib.hid hwb
            clear hke hplan hpa hr4 hq4 hqr hwb hB4 hchf y3 y4 y0 y1
            go_wp2_with fail
            refine wp_region_rg Grows (fun _ => .fn) (by kernel_rfl) (by kernel_rfl) Grows.refl growsT (fun _ => trivial) ?_
            iterate 10 (refine rg_step fun K hK => ?_; apply rg_fn rfl; (intro w4 hw; obtain ⟨q1, q2⟩ := HQR.out w4 hw.undrew; go_simp; try rfl); go_simp; (try with_reducible refine hK _ _ ?_); try clear hK K)
            refine rg_nil ?_
            rintro wa hwa _
            replace hwa := hwa.undrew
            have hpa := (HPA.out.below hwa zr).rows (Nat.le_trans zr (Below.size hwa)) hkl2
            have HPA2 := Lib.hid hpa
            have HWB2 := Lib.hid (HWB.out.trans (hwa.mono HWB.out.size))
            clear hwa hpa
            go_wp2_with fail
            refine bodyPost_ret (results_tmp4 (by rfl) _ _ _) rfl (HPOST.out _ _ _ (by rw [HC3.out]; rfl) (by rw [HC3.out]; exact HPA2.out) HWB2.out)
    · have hcg := HCG.out
      rw [← hst0, if_neg hfew] at hcg
      have hdec : decide ((allS m (stOf 0 (nows m))).length ≤ 2000) = false := by simpa using hfew
      rw [hdec]
      have HC2 := Lib.hid hcg
      clear hcg hdec hfew HCG HO3
      go_wp2_with fail
      refine bodyPost_ret (results_tmp4 (by rfl) _ _ _) rfl (HPOST.out _ _ _ (by rw [HC2.out]; rfl) (by rw [HC2.out]; exact HNILR.out _) HI3.out.below)
  · have hne : (checkS m != 0) = true := by simpa using hc
    have hne2 : (!(checkS m == 0)) = true := by simpa using hc
    have hl := cheapS_bad hc
    have HL := Lib.hid hl
    clear hc hl
    generalize checkS m = ce at *
    go_wp2_with fail
    refine bodyPost_ret (results_tmp4 (by rfl) _ _ _) rfl ⟨_, by rw [HL.out]; rfl, by rw [HL.out]; exact ⟨none, 0, rfl, by simp, fun h => absurd rfl h⟩, H1.out.below⟩
end Go.Proofs.Ytccplobhfokcgaa

/- The specification's Values. -/
namespace Go.Proofs.Ytccplobhfokcgaa
open Go Go.RowKit Go.Shelf
set_option maxRecDepth 100000

/-! ### Plainly -/
def costT (p : Int) : Int := if p < 0 then 2000000000 else p
theorem costT_paid {m : Wk} (hm : m.Ok) (s : St) : costT (paidV m s) = valS m s := by
  have h := valS_bd hm s
  unfold costT paidV
  by_cases hv : valS m s < 2000000000
  · rw [if_pos hv, if_neg (by omega)]
  · rw [if_neg hv, if_pos (by omega)]; omega
def rowW (m : Wk) (i : Nat) : List Wo := (levT m 0 (nows m) i).map fun t => ⟨(i : Int), t, costT (paidV m (stOf (0 + (i : Int)) t))⟩
def fullW (m : Wk) : Nat → List Wo
  | 0 => []
  | i + 1 => fullW m i ++ rowW m i
theorem rowW_length (m : Wk) (i : Nat) : (rowW m i).length = (levT m 0 (nows m) i).length := by simp [rowW]
theorem rowW_get {m : Wk} {i k : Nat} {t : List Int} (h : (levT m 0 (nows m) i)[k]? = some t) : (rowW m i)[k]? = some ⟨(i : Int), t, costT (paidV m (stOf (0 + (i : Int)) t))⟩ := by
  unfold rowW; rw [List.getElem?_map, h]; rfl
theorem fullW_length (m : Wk) : ∀ i : Nat, (fullW m i).length + (levT m 0 (nows m) i).length ≤ lenT m 0 (nows m) i
  | 0 => by simp [fullW, lenT, levT]
  | i + 1 => by
    have := fullW_length m i
    rw [fullW, List.length_append, rowW_length, lenT]
    omega
/-- The states of the years ahead of one, in order. -/
def fullS (m : Wk) : Nat → List St
  | 0 => []
  | i + 1 => fullS m i ++ (levT m 0 (nows m) i).map (stOf (i : Int))
theorem fullW_states {m : Wk} (hm : m.Ok) : ∀ i : Nat, fullW m i = (fullS m i).map (worthOf m)
  | 0 => rfl
  | i + 1 => by
    rw [fullW, fullS, List.map_append, fullW_states hm i, List.map_map]
    congr 1
    unfold rowW
    refine List.map_congr_left fun t ht => ?_
    have hf := levT_fit hm (firstT hm) i t ht
    rw [costT_paid hm, Int.zero_add]
    show _ = worthOf m (stOf (i : Int) t)
    unfold worthOf
    rw [thicks_stOf hm.few hf.len]
    rfl
theorem fullS_mem {m : Wk} {s : St} : ∀ {i : Nat}, s ∈ fullS m i ↔ ∃ j, j < i ∧ ∃ t ∈ levT m 0 (nows m) j, s = stOf (j : Int) t
  | 0 => by simp [fullS]
  | i + 1 => by
    rw [fullS, List.mem_append, fullS_mem, List.mem_map]
    constructor
    · rintro (⟨j, hj, h⟩ | ⟨t, ht, rfl⟩)
      · exact ⟨j, by omega, h⟩
      · exact ⟨i, by omega, t, ht, rfl⟩
    · rintro ⟨j, hj, t, ht, rfl⟩
      rcases Nat.lt_or_ge j i with h | h
      · exact .inl ⟨j, h, t, ht, rfl⟩
      · obtain rfl : j = i := by omega
        exact .inr ⟨t, ht, rfl⟩
theorem lex_pad : ∀ (a b : List Int) (r : List Int), a.length = b.length → lexI a b < 0 → lexI (a ++ r) (b ++ r) < 0
  | [], [], r, _, h => by simp [lexI] at h
  | x :: a, y :: b, r, hl, h => by
    simp only [List.cons_append, lexI] at h ⊢
    by_cases hc : cmpI x y = 0
    · rw [if_pos hc] at h ⊢
      exact lex_pad a b r (by simpa using hl) h
    · rw [if_neg hc] at h ⊢
      exact h
  | [], _ :: _, _, hl, _ => by simp at hl
  | _ :: _, [], _, hl, _ => by simp at hl
theorem lst_stOf (y : Int) (t : List Int) (hl : t.length ≤ 4) : lst (stOf y t) = y :: (t ++ List.replicate (4 - t.length) 0) := by
  match t, hl with
  | [], _ => rfl
  | [_], _ => rfl
  | [_, _], _ => rfl
  | [_, _, _], _ => rfl
  | [_, _, _, _], _ => rfl
  | _ :: _ :: _ :: _ :: _ :: _, h => simp at h
theorem cmpS_same {m : Wk} (hf : m.slopes.length ≤ 4) (y : Int) {a b : List Int} (ha : a.length = m.slopes.length) (hb : b.length = m.slopes.length) (h : lexI a b < 0) : cmpS (stOf y a) (stOf y b) < 0 := by
  rw [cmpS_lst, lst_stOf _ _ (by omega), lst_stOf _ _ (by omega), ha, hb]
  simp only [lexI, cmpI_self, if_true]
  exact lex_pad _ _ _ (by omega) h
theorem cmpS_year {a b : St} (h : a.y < b.y) : cmpS a b < 0 := by
  have h1 := cmpI_lt.2 h
  unfold cmpS
  rw [if_neg (by omega)]
  exact h1
theorem fullS_sorted {m : Wk} (hm : m.Ok) : ∀ i : Nat, (fullS m i).Pairwise fun a b => cmpS a b < 0
  | 0 => List.Pairwise.nil
  | i + 1 => by
    rw [fullS, List.pairwise_append]
    refine ⟨fullS_sorted hm i, ?_, fun a ha b hb => ?_⟩
    · rw [List.pairwise_map]
      refine List.Pairwise.imp_of_mem (fun {a b} ha hb h => ?_) (levT_rises i)
      exact cmpS_same hm.few _ (levT_fit hm (firstT hm) i a ha).len (levT_fit hm (firstT hm) i b hb).len h
    · obtain ⟨j, hj, t, _, rfl⟩ := fullS_mem.1 ha
      obtain ⟨u, _, rfl⟩ := List.mem_map.1 hb
      refine cmpS_year ?_
      show (j : Int) < (i : Int)
      omega
theorem cmpS_flip (a b : St) : cmpS b a = - cmpS a b := by rw [cmpS_lst, cmpS_lst, lexI_flip]
theorem strict_nodup {l : List St} (h : l.Pairwise fun a b => cmpS a b < 0) : l.Nodup :=
  List.Pairwise.imp (fun {a b} h e => by subst e; rw [cmpS_lst, lexI_self] at h; omega) h
theorem fullS_live {m : Wk} (hm : m.Ok) : fullS m m.years.toNat = liveS m := by
  have hyb := hm.years
  have hle : ∀ {l : List St}, (l.Pairwise fun a b => cmpS a b < 0) → l.Pairwise fun a b => (!ltOf cmpS b a) = true := fun h =>
    List.Pairwise.imp (fun {a b} h => by
      rw [Bool.not_eq_true', ltS, decide_eq_false_iff_not, ← cmpS_lst, cmpS_flip]
      omega) h
  refine sorted_unique (r := fun x y => !ltOf cmpS y x) (fun a b h1 h2 => ltS_total a b (by simpa using h2) (by simpa using h1)) ?_ (hle (fullS_sorted hm _)) (hle (live_sorted m))
  refine (List.perm_ext_iff_of_nodup (strict_nodup (fullS_sorted hm _)) (strict_nodup (live_sorted m))).2 fun s => ?_
  rw [fullS_mem, mem_live]
  constructor
  · rintro ⟨j, hj, t, ht, rfl⟩
    have h := levT_reach hm (firstT hm) (y := 0) j (by omega) t ht
    rw [Int.zero_add] at h
    exact ⟨h, by show (j : Int) < _; omega⟩
  · rintro ⟨hr, hy⟩
    have hy0 := hr.y.1
    have e0 : (firstS m).y = 0 := rfl
    rw [e0] at hy0
    have h := reach_levT hm (firstT hm) (y := 0) hr
    rw [show (s.y - 0).toNat = s.y.toNat by omega] at h
    refine ⟨s.y.toNat, by omega, _, h, ?_⟩
    rw [show ((s.y.toNat : Nat) : Int) = s.y by omega]
    exact (stOf_thicks (reach_fit hm (firstS_fit hm) hr)).symm
theorem valuesS_full {m : Wk} (hc : checkS m = 0) : valuesS m = if (allS m (firstS m)).length ≤ 2000 then (fullW m m.years.toNat, 0) else ([], 3) := by
  have hm := checkS_ok hc
  unfold valuesS
  rw [if_pos hc, worths_live, fullW_states hm, fullS_live hm]
  by_cases h : (allS m (firstS m)).length ≤ 2000
  · rw [if_neg (by omega), if_pos h]
  · rw [if_pos (by omega), if_neg h]

theorem spread_words {W : World} {n0 : Nat} {A : Option Addr} {xs : List Int} (h : RowC W n0 A (xs.map (Value.int .i64))) (hn : n0 ≤ W.heap.size) (hne : 1 ≤ xs.length) : ∃ ad, A = some ad ∧ ∀ j u, (xs.map (Value.int .i64))[j]? = some u → (W.alloc (.cells #[] 3)).cell? (ad.add j) = some u := by
  obtain ⟨b, o, e, hb, hc⟩ := h.2 (by intro e; simp at e; rw [e] at hne; simp at hne)
  refine ⟨_, e, fun j u hu => ?_⟩
  rw [show (⟨b, o, none⟩ : Addr).add j = ⟨b, o + j, none⟩ by unfold Addr.add; split <;> simp_all]
  exact ((below1 W _).cell (p := ⟨b, o + j, none⟩) (show b < W.heap.size by omega)).trans (hc j u hu)
theorem spread_empty (W : World) : (W.alloc (.cells #[] 3)).ownsRow W.heap.size 3 1 (.slice (some ⟨W.heap.size, 0, none⟩) 0 0) 0 [] :=
  ⟨rfl, .inr ⟨W.heap.size, 0, #[], rfl, Nat.le_refl _, heap_alloc_self _ _, Nat.le_refl _, by simp [maxLen], rfl, rfl⟩⟩
theorem spread_copy {W : World} {xs : List Int} {v' : Value} {W' : World} (h1 : W'.ownsRow W.heap.size 3 1 v' (0 + xs.length) ([] ++ xs.map (Value.int .i64))) (h2 : (W.alloc (.cells #[] 3)).grownBy W' (Value.ownBlock (.slice (some ⟨W.heap.size, 0, none⟩) 0 0))) : CopyL W xs v' W' :=
  ⟨(below1 W (.cells #[] 3)).grown h2 (by simp) (fun k hk => by cases hk; exact Nat.le_refl _), by simpa using h1⟩

set_option maxHeartbeats 16000000 in
theorem rvalues_calls (m : Wk) (sl cr : Value) (w : World) (hsl : SlopesAt w w.heap.size sl m.slopes) (hcr : CraftsAt w w.heap.size cr m.crafts) :
    Calls Try.prog 28 #[.agg #[sl, cr, .int .i64 m.years, .int .i64 m.visit, .int .i64 m.hands]] w (ValuesPost m w) := by
  obtain ⟨sA, sc, rfl, _, _⟩ := id hsl
  obtain ⟨cA, cc, rfl, _, _⟩ := id hcr
  obtain ⟨w0, hw0⟩ : ∃ w0, w0 = w.alloc (.cells #[.slice sA m.slopes.length sc, .slice cA m.crafts.length cc, .int .i64 m.years, .int .i64 m.visit, .int .i64 m.hands] 25) := ⟨_, rfl⟩
  have h0 := LawInv.start hsl hcr
  rw [← hw0] at h0
  have H0 := Lib.hid h0
  have HW0 := Lib.hid hw0
  have z0 : w.heap.size < w0.heap.size := by rw [hw0]; simp
  obtain ⟨x0, x1, x2, x3, x4⟩ := blk5 h0.box
  rw [hw0] at x0 x1 x2 x3 x4
  have hck := rcheck_calls m _ _ w0 h0.slopes h0.crafts
  have HCK := Lib.hid hck
  have hpost : ∀ (e : Ending) (w' : World) (v : Value), e = .returned (.tuple #[v, .int .i64 (valuesS m).2]) → WorthsAt w' w'.heap.size v (valuesS m).1 → Below w.heap.size w w' → ValuesPost m w e w' := fun e w' v h1 h2 h3 => ⟨v, h1, h2, h3⟩
  have HPOST := Lib.hid hpost
  clear h0 hw0 hsl hcr hck hpost
  go_enter Try.func28, Try.ntmps28
  go_wp2_with fail
  rw [← HW0.out]
  refine HCK.out.mono ?_
  rintro e w1 ⟨rfl, hb1⟩
  have H1 := Lib.hid (H0.out.later hb1)
  have z1 := hb1.size
  clear hb1 x0 x1 x2 x3 x4 HCK
  by_cases hc : checkS m = 0
  · have hm := checkS_ok hc
    have hn4 := hm.few
    have hn1 := hm.some
    have hyb := hm.years
    have hcg := valuesS_full hc
    have HM := Lib.hid hm
    have HCG := Lib.hid hcg
    have hfit := firstT hm
    have HFIT := Lib.hid hfit
    rw [hc]
    clear hm hc hcg hfit
    obtain ⟨x0, x1, x2, x3, x4⟩ := blk5 H1.out.box
    have hbx : w.heap.size < w1.heap.size := by omega
    go_wp2_with fail
    have hb1d : Below w1.heap.size w1 w1.drew := (Below.refl _ _).drew
    have HI1D := Lib.hid (H1.out.later hb1d)
    have hnl : (nows m).length ≤ 140737488355328 := by simp [nows]; omega
    have HNL := Lib.hid hnl
    clear hb1d hnl
    go_region_held3 (fun w' => w'.cell? ⟨w.heap.size, 0, none⟩ = some (.slice sA m.slopes.length sc) ∧ w'.cell? ⟨w.heap.size, 1, none⟩ = some (.slice cA m.crafts.length cc) ∧ w'.cell? ⟨w.heap.size, 2, none⟩ = some (.int .i64 m.years) ∧ w'.cell? ⟨w.heap.size, 3, none⟩ = some (.int .i64 m.visit) ∧ w'.cell? ⟨w.heap.size, 4, none⟩ = some (.int .i64 m.hands))
      (first
        | go_keep
        | (go_split_ands; refine ⟨?_, ?_, ?_, ?_, ?_⟩ <;> assumption))
      (first
        | (go_at_call 46; refine (rnows_calls m (.slice sA m.slopes.length sc) (.slice cA m.crafts.length cc) w1.drew HI1D.out.slopes HI1D.out.crafts hn4).mono ?_; rintro e w2 ⟨vn, rfl, hown2, hb2⟩; have hia := own_ints hown2 HNL.out; obtain ⟨nA, nc, rfl, hrow2⟩ := hia; have hI2 := HI1D.out.later hb2; obtain ⟨y0, y1, y2, y3, y4⟩ := blk5 hI2.box; have HI2 := Lib.hid hI2; have HROW2 := Lib.hid hrow2; clear hown2 hb2 hI2 hrow2)
        | (go_at_call 54; refine (rstates_calls m (.slice sA m.slopes.length sc) (.slice cA m.crafts.length cc) 0 nA nc (nows m) _ HM.out HFIT.out ⟨by omega, by omega⟩ HI2.out.slopes HI2.out.crafts HROW2.out).mono ?_; rintro e w3 ⟨⟨v3, rfl, ho3⟩, hb3⟩; have HO3 := Lib.hid ho3; have hI3 := HI2.out.later hb3; obtain ⟨y0, y1, y2, y3, y4⟩ := blk5 hI3.box; have HI3 := Lib.hid hI3; clear hb3 ho3 hI3))
    have hst0 : stOf 0 (nows m) = firstS m := rfl
    rename_i hheld9
    clear hheld9
    by_cases hfew : (allS m (stOf 0 (nows m))).length ≤ 2000
    · have hlv := Own3.levsT HM.out HFIT.out ⟨by omega, by omega⟩ hfew (HO3.out hfew)
      have hcg := HCG.out
      rw [← hst0, if_pos hfew] at hcg
      have hdec : decide ((allS m (stOf 0 (nows m))).length ≤ 2000) = true := by simpa using hfew
      rw [hdec]
      obtain ⟨vA, vn, vc, rfl⟩ : ∃ A n c, v3 = .slice A n c := by
        obtain ⟨A, c, e, _⟩ := id hlv
        exact ⟨_, _, _, e⟩
      have hpd := rpaid_calls m (.slice sA m.slopes.length sc) (.slice cA m.crafts.length cc) 0 (nows m) vA vn vc w3 HM.out HFIT.out ⟨by omega, by omega⟩ hfew HI3.out.slopes HI3.out.crafts hlv
      have HPD := Lib.hid hpd
      have HC2 := Lib.hid hcg
      have HLV := Lib.hid hlv
      have hpl : (paidsT m 0 (nows m)).length ≤ 1000 := by simp only [paidsT, List.length_map, List.length_range]; omega
      have hlen := fun (i : Nat) (hi : (i : Int) ≤ m.years) => Nat.le_trans (lev_le (m := m) (y := 0) (th := nows m) i) (Nat.le_trans (lenT_le HM.out HFIT.out (y := 0) (k := i) (by omega)) hfew)
      have hlenf := fun (i : Nat) (hi : (i : Int) ≤ m.years) => Nat.le_trans (fullW_length m i) (Nat.le_trans (lenT_le HM.out HFIT.out (y := 0) (k := i) (by omega)) hfew)
      have HLEN := Lib.hid hlen
      have HLENF := Lib.hid hlenf
      have hpx : ∀ xs ∈ paidsT m 0 (nows m), xs.length ≤ 1000000 := fun xs hx => by
        obtain ⟨i, hi⟩ := List.getElem?_of_mem hx
        have hil := (List.getElem?_eq_some_iff.1 hi).1
        simp only [paidsT, List.length_map, List.length_range] at hil
        rw [paidsT_get (by omega)] at hi
        cases hi
        rw [paidL_length]
        have := hlen i (by omega)
        omega
      have HPX := Lib.hid hpx
      have hpll : (paidsT m 0 (nows m)).length = m.years.toNat + 1 := by simp [paidsT]
      have hvll : (levsT m 0 (nows m)).length = m.years.toNat + 1 := by rw [levsT_length]; simp
      have HLL := Lib.hid (And.intro hpll hvll)
      clear hlv hcg hdec hpd hfew hpx HCG hlen hlenf hst0 HO3 hpll hvll
      go_wp2_with fail
      refine HPD.out.mono ?_
      rintro e w4 ⟨⟨v4, rfl, ho4⟩, hb4⟩
      have hr4 := ho4.rows (by omega) HPX.out
      obtain ⟨pA, pc, rfl, _, hpr⟩ := hr4
      have HPR := Lib.hid hpr
      have HI4 := Lib.hid (HI3.out.later hb4)
      have hz34 := hb4.size
      have HB34 := Lib.hid hb4
      obtain ⟨_, _, e9, hvn1, hvc⟩ := id HLV.out
      cases e9
      have HVC := Lib.hid hvc
      clear hb4 hpr ho4 HPD y0 y1 y2 y3 y4 hvc hvn1
      generalize hpl9 : (paidsT m 0 (nows m)).length = pl at *
      generalize hvl9 : (levsT m 0 (nows m)).length = vl at *
      clear hpl9 hvl9
      go_wp2_with fail
      go_loopw [8, 9] (fun ou c wr => ∃ i : Nat, (i : Int) ≤ m.years ∧ c = .int .i64 (i : Int) ∧ (∃ A n c, ou = .slice A n c) ∧ Hid (OwnW wr w4.heap.size ou (fullW m i)) ∧ Hid (Below w4.heap.size w4 wr)) (fun _ c _ => (m.years - intOf c).toNat)
      case atStart => exact ⟨0, by omega, rfl, ⟨none, 0, 0, rfl⟩, Lib.hid (OwnW.nil _ _), Lib.hid (Below.refl _ _)⟩
      case round =>
        obtain ⟨i, hi, rfl, ⟨oA, on, oc, rfl⟩, HOW, HB⟩ := hrel
        obtain ⟨Wr, rfl⟩ : ∃ Wr, Wr = wr := ⟨_, rfl⟩
        have zr := HB.out.size
        have HI := Lib.hid (HI4.out.later HB.out)
        obtain ⟨y0, y1, y2, y3, y4⟩ := blk5 HI.out.box
        by_cases hil : (i : Int) < m.years
        · have hiadd : IntKind.i64.wrap ((i : Int) + 1) = (i : Int) + 1 := IntWalk.i64_in _ (by omega)
          have hi0 : (0 : Int) ≤ (i : Int) := by omega
          have hivl : (i : Int) < (vl : Int) := by have := HLL.out.2; omega
          have hipl : (i : Int) < (pl : Int) := by have := HLL.out.1; omega
          obtain ⟨vb, vo, rfl, hvb, hvcc⟩ := HVC.out (by intro e; have := HLL.out.2; have h2 := levsT_length m 0 (nows m); rw [e] at h2; simp at h2)
          obtain ⟨pb, po, rfl, hpb, hpcc⟩ := HPR.out (by intro e; have h2 := paidsT_get (m := m) (y := 0) (th := nows m) (i := 0) (by omega); rw [e] at h2; simp at h2)
          obtain ⟨ui, hui, hli⟩ := hvcc i _ (levsT_get (by omega))
          obtain ⟨lA, lc, rfl, _, hlir⟩ := id hli
          obtain ⟨pi, hpi, pA2, pc2, rfl, hpir⟩ := hpcc i _ (paidsT_get (by omega))
          have hlen1 := HLEN.out i (by omega)
          have hlen2 := HLENF.out i (by omega)
          have hB34 : ∀ W, Below w4.heap.size w4 W → Below w3.heap.size w3 W := fun W hW => HB34.out.trans (hW.mono hz34)
          have huiw := fun W (hW : Below w4.heap.size w4 W) => ((hB34 W hW).cell (p := ⟨vb, vo + i, none⟩) hvb).trans hui
          have hpiw := fun W (hW : Below w4.heap.size w4 W) => (hW.cell (p := ⟨pb, po + i, none⟩) hpb).trans hpi
          have HUI := Lib.hid huiw
          have HPI := Lib.hid hpiw
          have HLIR := Lib.hid hlir
          have HPIR := Lib.hid hpir
          have HB34W := Lib.hid hB34
          have hfull : fullW m (i + 1) = fullW m i ++ rowW m i := rfl
          have HFULL := Lib.hid hfull
          clear hvcc hpcc hui hpi hli hlir hpir huiw hpiw hB34 hfull
          go_wp2_with fail
          clear y0 y1 y2 y3 y4
          go_loopw [8, 10] (fun ou c wk => ∃ k : Nat, k ≤ (levT m 0 (nows m) i).length ∧ c = .int .i64 (k : Int) ∧ (∃ A n c, ou = .slice A n c) ∧ Hid (OwnW wk w4.heap.size ou (fullW m i ++ (rowW m i).take k)) ∧ Hid (Below w4.heap.size w4 wk)) (fun _ c _ => (levT m 0 (nows m) i).length - (intOf c).toNat)
          case atStart => exact ⟨0, Nat.zero_le _, rfl, ⟨_, _, _, rfl⟩, Lib.hid (by simpa using HOW.out), HB⟩
          case round =>
            obtain ⟨k, hk, rfl, ⟨oA, on, oc, rfl⟩, HOW, HB⟩ := hrel
            obtain ⟨Wk, rfl⟩ : ∃ Wk, Wk = wr := ⟨_, rfl⟩
            have zk := HB.out.size
            have q1 := HUI.out Wk HB.out
            have q2 := HPI.out Wk HB.out
            have hvz : vb < Wk.heap.size := Nat.lt_of_lt_of_le hvb (HB34W.out Wk HB.out).size
            have hk0 : (0 : Int) ≤ (k : Int) := by omega
            by_cases hkl : k < (levT m 0 (nows m) i).length
            · have hki : (k : Int) < ((levT m 0 (nows m) i).length : Int) := by omega
              have hkip : (k : Int) < ((paidL m 0 (nows m) i).length : Int) := by rw [paidL_length]; omega
              have hkadd : IntKind.i64.wrap ((k : Int) + 1) = (k : Int) + 1 := IntWalk.i64_in _ (by omega)
              have hget := List.getElem?_eq_getElem hkl
              have hfit := levT_fit HM.out HFIT.out (y := 0) i _ (List.getElem_mem hkl)
              have hrwk := rowW_get (m := m) hget
              have hpk := paidL_get (m := m) (y := 0) (th := nows m) hget
              obtain ⟨lb, lo, rfl, hlb, hlc⟩ := HLIR.out (by intro e; rw [e] at hkl; simp at hkl)
              obtain ⟨ut, hut, tA2, tc2, rfl, htr⟩ := hlc k _ hget
              obtain ⟨qb, qo, rfl, hqb, hqc⟩ := HPIR.out.at_ k (by rw [List.length_map, paidL_length]; exact hkl)
              have hpv : ((paidL m 0 (nows m) i).map (Value.int .i64))[k]'(by rw [List.length_map, paidL_length]; exact hkl) = .int .i64 (paidV m (stOf (0 + (i : Int)) (levT m 0 (nows m) i)[k])) := by
                rw [List.getElem_map]
                rw [List.getElem?_eq_getElem (by rw [paidL_length]; exact hkl)] at hpk
                simpa using hpk
              rw [hpv] at hqc
              have hq3 : Wk.cell? ⟨qb, qo + k, none⟩ = some (.int .i64 (paidV m (stOf (0 + (i : Int)) (levT m 0 (nows m) i)[k]))) := (HB.out.cell (p := ⟨qb, qo + k, none⟩) hqb).trans hqc
              have hlw : ∀ W, Below w4.heap.size w4 W → W.cell? ⟨lb, lo + k, none⟩ = some (.slice tA2 (levT m 0 (nows m) i)[k].length tc2) := fun W hW => ((HB34W.out W hW).cell (p := ⟨lb, lo + k, none⟩) hlb).trans hut
              have htw := (htr.below (HB34W.out Wk HB.out)).mono (HB34W.out Wk HB.out).size
              have hrt : fullW m i ++ (rowW m i).take (k + 1) = (fullW m i ++ (rowW m i).take k) ++ [⟨(i : Int), (levT m 0 (nows m) i)[k], costT (paidV m (stOf (0 + (i : Int)) (levT m 0 (nows m) i)[k]))⟩] := by
                rw [List.take_add_one, hrwk, List.append_assoc]; rfl
              have hll : (fullW m i ++ (rowW m i).take k).length ≤ 2000 := by
                rw [List.length_append, List.length_take, rowW_length]; omega
              have hfl := hfit.len
              have HRT := Lib.hid hrt
              have HLL2 := Lib.hid hll
              generalize paidV m (stOf (0 + (i : Int)) (levT m 0 (nows m) i)[k]) = pv at *
              generalize (levT m 0 (nows m) i)[k] = tk at *
              have htk4 : tk.length ≤ 4 := by omega
              have htk1 : 1 ≤ tk.length := by omega
              obtain ⟨ad, rfl, hnews⟩ := spread_words htw (Nat.le_refl _) htk1
              have HNEWS := Lib.hid hnews
              have HEMPTY := Lib.hid (spread_empty Wk)
              have hsp := fun v' W' h1 h2 => spread_copy (W := Wk) (xs := tk) (v' := v') (W' := W') h1 h2
              have HSP := Lib.hid hsp
              have hl1 := hlw _ (HB.out.trans ((below1 Wk (.cells #[] 3)).mono zk))
              have hvw1 := (HUI.out _ (HB.out.trans ((below1 Wk (.cells #[] 3)).mono zk)))
              obtain ⟨i0, hi, hz0, hz1, hz2⟩ := info_parts infoInt
              have hqz : qb < Wk.heap.size := Nat.lt_of_lt_of_le hqb zk
              have hlz : lb < Wk.heap.size := Nat.lt_of_lt_of_le hlb (HB34W.out Wk HB.out).size
              clear hget hfit hrwk hpk hlc hut htr hqc hpv hlw htw hrt hll hnews hsp hfl
              by_cases hneg : pv < 0
              · have HCV : Hid (costT pv = 2000000000) := Lib.hid (by unfold costT; rw [if_pos hneg])
                obtain ⟨us, hu0, hu1, hu2⟩ := HOW.out
                have hu1w := fun W (hW : Below Wk.heap.size Wk W) => own_below hu1 hW (fun b hb => (own_blk_lt hu1 b hb).2)
                have HU := Lib.hid (And.intro hu0 (And.intro hu1 hu2))
                have HU1 := Lib.hid hu1w
                obtain ⟨A9, n9, c9, e9⟩ := own_slice hu1
                cases e9
                have hll9 := HLL2.out
                have HLEN9 := Lib.hid hll9
                clear hu0 hu1 hu2 hu1w
                go_wp2_with (first
                  | (at_builtin; (refine wpList_append_own _ rfl _ _ 36 rfl Wk.heap.size 3 i0 (.int .i64 0) 1 8 Try.underlying36 hi hz0 hz1 hz2 rfl (by decide) _ 0 [] rfl HEMPTY.out ad tk.length tc2 (tk.map (Value.int .i64)) rfl (by simp) HNEWS.out (by simp [Value.oneCell']) (by simp only [maxLen]; omega) (by omega) (by simp) ?_); intro v5 w5 hown5 hg5 _; have HC5 := Lib.hid (HSP.out v5 w5 hown5 hg5); clear hown5 hg5; obtain ⟨A5, n5, c5, rfl⟩ := own_slice HC5.out.own)
                  | (at_builtin; (refine wpList_app2 w4.heap.size _ _ 42 64 (.agg #[.int .i64 0, .slice none 0 0, .int .i64 0]) 3 40 [.int .i64 (i : Int), .slice A5 n5 c5, .int .i64 2000000000] (by rfl) (by rfl) Try.underlying42 infoWorth rfl (by decide) (by decide) (.slice oA _ oc) _ (cellsW (fullW m i ++ (rowW m i).take k) us) (by rfl) w5.heap.size (by rfl) (heap_alloc_self _ _) rfl (by simp [Value.oneCell']) (HU1.out _ (HC5.out.below.trans ((below1 _ _).mono HC5.out.below.size))) (by have := HLEN9.out; omega) (by have := HC5.out.below.size; simp; omega) ?_); intro v6 w6 hown6 hg6 hat6 hb6; obtain ⟨A6, n6, c6, rfl⟩ := own_slice hown6; have HX := Lib.hid (And.intro hown6 (And.intro hg6 hb6)); clear hown6 hg6 hat6 hb6))
                obtain ⟨hown6, hg6, hb6⟩ := HX.out
                have hba := HC5.out.below.trans ((below1 w5 (.cells #[.int .i64 (i : Int), .slice A5 n5 c5, .int .i64 2000000000] 64)).mono HC5.out.below.size)
                have hnw : OwnW w6 w4.heap.size (.slice A6 n6 c6) (fullW m i ++ (rowW m i).take (k + 1)) := by
                  rw [HRT.out, show costT pv = 2000000000 from HCV.out]
                  obtain ⟨hu0, hu1, hu2⟩ := HU.out
                  refine OwnW.snoc (x := ⟨(i : Int), tk, 2000000000⟩) hu0 (own_below hu1 hba (fun b hb => (own_blk_lt hu1 b hb).2)) (fun j x hx => ?_) (own_mono (own_below HC5.out.own (below1 w5 _) (fun b hb => (own_blk_lt HC5.out.own b hb).2)) zk) hown6 hg6
                  obtain ⟨u, h1, h2⟩ := hu2 j x hx
                  exact ⟨u, h1, own_below h2 hba (fun b hb => (own_blk_lt h2 b hb).2)⟩
                have HNW := Lib.hid hnw
                have HBN := Lib.hid (HB.out.trans ((hba.mono zk).trans hb6))
                clear hown6 hg6 hb6 hba hnw HX HU HU1 HC5
                go_round
                case rel => exact ⟨k + 1, by omega, by go_num, ⟨_, _, _, rfl⟩, HNW, HBN⟩
                case measure => simp [intOf]; omega
              · have HCV : Hid (costT pv = pv) := Lib.hid (by unfold costT; rw [if_neg hneg])
                obtain ⟨us, hu0, hu1, hu2⟩ := HOW.out
                have hu1w := fun W (hW : Below Wk.heap.size Wk W) => own_below hu1 hW (fun b hb => (own_blk_lt hu1 b hb).2)
                have HU := Lib.hid (And.intro hu0 (And.intro hu1 hu2))
                have HU1 := Lib.hid hu1w
                obtain ⟨A9, n9, c9, e9⟩ := own_slice hu1
                cases e9
                have hll9 := HLL2.out
                have HLEN9 := Lib.hid hll9
                clear hu0 hu1 hu2 hu1w
                go_wp2_with (first
                  | (at_builtin; (refine wpList_append_own _ rfl _ _ 36 rfl Wk.heap.size 3 i0 (.int .i64 0) 1 8 Try.underlying36 hi hz0 hz1 hz2 rfl (by decide) _ 0 [] rfl HEMPTY.out ad tk.length tc2 (tk.map (Value.int .i64)) rfl (by simp) HNEWS.out (by simp [Value.oneCell']) (by simp only [maxLen]; omega) (by omega) (by simp) ?_); intro v5 w5 hown5 hg5 _; have HC5 := Lib.hid (HSP.out v5 w5 hown5 hg5); clear hown5 hg5; obtain ⟨A5, n5, c5, rfl⟩ := own_slice HC5.out.own)
                  | (at_builtin; (refine wpList_app2 w4.heap.size _ _ 42 64 (.agg #[.int .i64 0, .slice none 0 0, .int .i64 0]) 3 40 [.int .i64 (i : Int), .slice A5 n5 c5, .int .i64 pv] (by rfl) (by rfl) Try.underlying42 infoWorth rfl (by decide) (by decide) (.slice oA _ oc) _ (cellsW (fullW m i ++ (rowW m i).take k) us) (by rfl) w5.heap.size (by rfl) (heap_alloc_self _ _) rfl (by simp [Value.oneCell']) (HU1.out _ (HC5.out.below.trans ((below1 _ _).mono HC5.out.below.size))) (by have := HLEN9.out; omega) (by have := HC5.out.below.size; simp; omega) ?_); intro v6 w6 hown6 hg6 hat6 hb6; obtain ⟨A6, n6, c6, rfl⟩ := own_slice hown6; have HX := Lib.hid (And.intro hown6 (And.intro hg6 hb6)); clear hown6 hg6 hat6 hb6))
                obtain ⟨hown6, hg6, hb6⟩ := HX.out
                have hba := HC5.out.below.trans ((below1 w5 (.cells #[.int .i64 (i : Int), .slice A5 n5 c5, .int .i64 pv] 64)).mono HC5.out.below.size)
                have hnw : OwnW w6 w4.heap.size (.slice A6 n6 c6) (fullW m i ++ (rowW m i).take (k + 1)) := by
                  rw [HRT.out, show costT pv = pv from HCV.out]
                  obtain ⟨hu0, hu1, hu2⟩ := HU.out
                  refine OwnW.snoc (x := ⟨(i : Int), tk, pv⟩) hu0 (own_below hu1 hba (fun b hb => (own_blk_lt hu1 b hb).2)) (fun j x hx => ?_) (own_mono (own_below HC5.out.own (below1 w5 _) (fun b hb => (own_blk_lt HC5.out.own b hb).2)) zk) hown6 hg6
                  obtain ⟨u, h1, h2⟩ := hu2 j x hx
                  exact ⟨u, h1, own_below h2 hba (fun b hb => (own_blk_lt h2 b hb).2)⟩
                have HNW := Lib.hid hnw
                have HBN := Lib.hid (HB.out.trans ((hba.mono zk).trans hb6))
                clear hown6 hg6 hb6 hba hnw HX HU HU1 HC5
                go_round
                case rel => exact ⟨k + 1, by omega, by go_num, ⟨_, _, _, rfl⟩, HNW, HBN⟩
                case measure => simp [intOf]; omega
            · obtain rfl : k = (levT m 0 (nows m) i).length := by omega
              have hki : ¬ ((levT m 0 (nows m) i).length : Int) < ((levT m 0 (nows m) i).length : Int) := by omega
              have how := HOW.out
              rw [← rowW_length, List.take_length, ← HFULL.out] at how
              have HOW2 := Lib.hid how
              clear how
              go_wp2_with fail
              go_round
              case rel => exact ⟨i + 1, by omega, by go_num, ⟨_, _, _, rfl⟩, HOW2, HB⟩
              case measure => simp [intOf]; omega
        · have hie : i = m.years.toNat := by omega
          have how := HOW.out
          rw [hie] at how
          have hlen2 := HLENF.out m.years.toNat (by omega)
          have hw := how.worths (by omega) (fun x hx => by
            rw [fullW_states HM.out] at hx
            obtain ⟨s, _, rfl⟩ := List.mem_map.1 hx
            show (thicks m s).length ≤ _
            rw [thicks_length]; omega)
          have HWF := Lib.hid hw
          clear hie how hlen2 hw y3 y4
          go_wp2_with fail
          refine bodyPost_ret (results_tmp2 (by rfl) _ _ _) rfl (HPOST.out _ _ _ (by rw [HC2.out]; rfl) (by rw [HC2.out]; exact HWF.out) HI.out.below)
    · have hcg := HCG.out
      rw [← hst0, if_neg hfew] at hcg
      have hdec : decide ((allS m (stOf 0 (nows m))).length ≤ 2000) = false := by simpa using hfew
      rw [hdec]
      have HC2 := Lib.hid hcg
      clear hcg hdec hfew HCG HO3
      go_wp2_with fail
      refine bodyPost_ret (results_tmp2 (by rfl) _ _ _) rfl (HPOST.out _ _ _ (by rw [HC2.out]; rfl) (by rw [HC2.out]; exact WorthsAt.nil _ _) HI3.out.below)
  · have hne : (checkS m != 0) = true := by simpa using hc
    have hne2 : (!(checkS m == 0)) = true := by simpa using hc
    have hl : valuesS m = ([], checkS m) := by unfold valuesS; rw [if_neg hc]
    have HL := Lib.hid hl
    clear hc hl
    generalize checkS m = ce at *
    go_wp2_with fail
    refine bodyPost_ret (results_tmp2 (by rfl) _ _ _) rfl (HPOST.out _ _ _ (by rw [HL.out]; rfl) (by rw [HL.out]; exact WorthsAt.nil _ _) H1.out.below)
end Go.Proofs.Ytccplobhfokcgaa

/- The specification's find; what Proves asks, plainly. -/
namespace Go.Proofs.Ytccplobhfokcgaa
open Go Go.RowKit Go.Shelf
set_option maxRecDepth 100000

def isW (x : Wo) (y : Int) (th : List Int) : Bool := decide (x.y = y) && decide (x.th = th)
/-- The place of a state in a list, -1 if it is not there. -/
def findI (ws : List Wo) (y : Int) (th : List Int) : Int := match ws.findIdx? fun x => isW x y th with
  | some i => (i : Int)
  | none => -1
theorem findI_at {ws : List Wo} {y : Int} {th : List Int} {i : Nat} {x : Wo} (hx : ws[i]? = some x) (h1 : ∀ j z, j < i → ws[j]? = some z → isW z y th = false) (h2 : isW x y th = true) : findI ws y th = (i : Int) := by
  obtain ⟨hil, he⟩ := List.getElem?_eq_some_iff.1 hx
  have : ws.findIdx? (fun x => isW x y th) = some i := by
    rw [List.findIdx?_eq_some_iff_getElem]
    exact ⟨hil, by rw [he]; exact h2, fun j hj => by rw [h1 j _ hj (List.getElem?_eq_getElem (by omega))]; simp⟩
  unfold findI
  rw [this]
theorem findI_none {ws : List Wo} {y : Int} {th : List Int} (h1 : ∀ j z, j < ws.length → ws[j]? = some z → isW z y th = false) : findI ws y th = -1 := by
  have : ws.findIdx? (fun x => isW x y th) = none := by
    rw [List.findIdx?_eq_none_iff]
    intro x hx
    obtain ⟨j, hj⟩ := List.getElem?_of_mem hx
    have := h1 j x (List.getElem?_eq_some_iff.1 hj).1 hj
    simp [this]
  unfold findI
  rw [this]
theorem findI_spec (ws : List Wo) (y : Int) (th : List Int) : (findI ws y th = -1 ∧ ∀ x ∈ ws, isW x y th = false) ∨ ∃ i x, findI ws y th = ((i : Nat) : Int) ∧ ws[i]? = some x ∧ isW x y th = true := by
  cases h : ws.findIdx? fun x => isW x y th with
  | none =>
    refine .inl ⟨by unfold findI; rw [h], fun x hx => ?_⟩
    have := List.findIdx?_eq_none_iff.1 h x hx
    simpa using this
  | some i =>
    obtain ⟨hil, h1, _⟩ := List.findIdx?_eq_some_iff_getElem.1 h
    exact .inr ⟨i, ws[i], by unfold findI; rw [h], List.getElem?_eq_getElem hil, h1⟩
theorem isW_iff {x : Wo} {y : Int} {th : List Int} : isW x y th = true ↔ x.y = y ∧ x.th = th := by
  unfold isW; rw [Bool.and_eq_true, decide_eq_true_eq, decide_eq_true_eq]

set_option maxHeartbeats 4000000 in
theorem rfind_calls (lv : Value) (ws : List Wo) (y : Int) (tA : Option Addr) (tc : Nat) (th : List Int) (w : World) (hws : WorthsAt w w.heap.size lv ws) (ht : RowC w w.heap.size tA (th.map (Value.int .i64))) :
    Calls Try.prog 62 #[lv, .int .i64 y, .slice tA th.length tc] w fun e w' => e = .returned (.int .i64 (findI ws y th)) ∧ Below w.heap.size w w' := by
  obtain ⟨lA, lc, rfl, hl, hrow⟩ := hws
  have HR := Lib.hid hrow
  have HT := Lib.hid ht
  clear hrow ht
  go_enter Try.func62, Try.ntmps62
  go_wp2_with fail
  go_loopw [7] (fun c wr => ∃ i : Nat, i ≤ ws.length ∧ c = .int .i64 (i : Int) ∧ Hid (∀ j z, j < i → ws[j]? = some z → isW z y th = false) ∧ Hid (Below w.heap.size w wr)) (fun c _ => ws.length - (intOf c).toNat)
  case atStart => exact ⟨0, Nat.zero_le _, rfl, Lib.hid (fun j x hj _ => by omega), Lib.hid (Below.refl _ _)⟩
  case round =>
    obtain ⟨i, hi, rfl, HS, HB⟩ := hrel
    obtain ⟨Wr, rfl⟩ : ∃ Wr, Wr = wr := ⟨_, rfl⟩
    have hsz := HB.out.size
    by_cases hlt : i < ws.length
    · have hil : (i : Int) < (ws.length : Int) := by omega
      have hi0 : (0 : Int) ≤ (i : Int) := by omega
      have hiadd : IntKind.i64.wrap ((i : Int) + 1) = (i : Int) + 1 := IntWalk.i64_in _ (by omega)
      have hgx : ws[i]? = some ws[i] := List.getElem?_eq_getElem hlt
      obtain ⟨b, o, rfl, hb, hc⟩ := HR.out (by intro e; rw [e] at hlt; simp at hlt)
      obtain ⟨u, c0, c1, c2, hu⟩ := hc i _ hgx
      obtain ⟨uA, uc, rfl, hur⟩ := hu
      have k0 := (HB.out.cell (p := ⟨b, o + i * 3, none⟩) hb).trans c0
      have k1 := (HB.out.cell (p := ⟨b, o + i * 3 + 1, none⟩) hb).trans c1
      have hbz : b < Wr.heap.size := by omega
      have hsi := sameInts_calls Wr.heap.size uA tA uc tc ws[i].th th Wr ((hur.below HB.out).mono hsz) ((HT.out.below HB.out).mono hsz) (Nat.le_refl _)
      have hat := fun h => findI_at (y := y) (th := th) hgx HS.out h
      have hno : isW ws[i] y th = false → ∀ j z, j < i + 1 → ws[j]? = some z → isW z y th = false := fun h j z hj hz => by
        rcases Nat.lt_or_ge j i with h1 | h1
        · exact HS.out j z h1 hz
        · obtain rfl : j = i := by omega
          rw [hgx] at hz; cases hz; exact h
      have HSI := Lib.hid hsi
      have HAT := Lib.hid hat
      have HNO := Lib.hid hno
      clear hc c0 c1 c2 hur hgx hsi hat hno
      generalize ws[i] = x at *
      by_cases hy : x.y = y
      · have hyb : (x.y == y) = true := by simpa using hy
        by_cases ht : x.th = th
        · have hsi := HSI.out
          rw [decide_eq_true ht] at hsi
          have HSI2 := Lib.hid hsi
          have HF := Lib.hid (HAT.out (isW_iff.2 ⟨hy, ht⟩))
          clear hsi hy ht HAT HNO HSI
          go_wp2_with fail
          refine HSI2.out.mono ?_
          rintro e w2 ⟨rfl, hb2⟩
          have HB2 := Lib.hid (HB.out.trans (hb2.mono hsz))
          clear hb2
          go_wp2_with fail
          go_ret
          exact ⟨by rw [HF.out]; rfl, HB2.out⟩
        · have hsi := HSI.out
          rw [decide_eq_false ht] at hsi
          have HSI2 := Lib.hid hsi
          have HN := Lib.hid (HNO.out (by cases h : isW x y th with | false => rfl | true => exact absurd (isW_iff.1 h).2 ht))
          clear hsi hy ht HAT HNO HSI
          go_wp2_with fail
          refine HSI2.out.mono ?_
          rintro e w2 ⟨rfl, hb2⟩
          have HB2 := Lib.hid (HB.out.trans (hb2.mono hsz))
          clear hb2
          go_wp2_with fail
          go_round
          case rel => exact ⟨i + 1, by omega, by go_num, HN, HB2⟩
          case measure => simp [intOf]; omega
      · have hyb : (x.y == y) = false := by simpa using hy
        have HN := Lib.hid (HNO.out (by cases h : isW x y th with | false => rfl | true => exact absurd (isW_iff.1 h).1 hy))
        clear hy HAT HNO HSI
        go_wp2_with fail
        go_round
        case rel => exact ⟨i + 1, by omega, by go_num, HN, HB⟩
        case measure => simp [intOf]; omega
    · obtain rfl : i = ws.length := by omega
      have hil : ¬ (ws.length : Int) < (ws.length : Int) := by omega
      have HF := Lib.hid (findI_none HS.out)
      go_wp2_with fail
      go_ret
      exact ⟨by rw [HF.out]; rfl, HB.out⟩
end Go.Proofs.Ytccplobhfokcgaa

namespace Go.Proofs.Ytccplobhfokcgaa
open Go Go.RowKit Go.Shelf
set_option maxRecDepth 100000

/-! ### Plainly -/
theorem woOk_bad {m : Wk} {x : Wo} (h : x.y < 0 ∨ m.years ≤ x.y ∨ thOk m x.th = false ∨ x.c < 0 ∨ 2000000000 < x.c) : woOk m x = false := by
  cases hw : woOk m x with
  | false => rfl
  | true =>
    obtain ⟨h1, h2, h3, h4⟩ := woOk_spec hw
    rw [outB_false] at h1 h3
    have h5 : thOk m x.th = true := by unfold thOk; rw [h4]; simp [h2]
    rcases h with h | h | h | h | h
    · omega
    · omega
    · rw [h5] at h; cases h
    · omega
    · omega
theorem woOk_good {m : Wk} {x : Wo} (h1 : 0 ≤ x.y) (h2 : x.y < m.years) (h3 : thOk m x.th = true) (h4 : 0 ≤ x.c) (h5 : x.c ≤ 2000000000) : woOk m x = true := by
  unfold thOk at h3
  rw [Bool.and_eq_true, decide_eq_true_eq] at h3
  unfold woOk
  simp only [Bool.and_eq_true, Bool.not_eq_true', Bool.or_eq_false_iff, outB_false, decide_eq_false_iff_not, Decidable.not_not]
  exact ⟨⟨⟨⟨h1, by omega⟩, h3.1⟩, h4, h5⟩, h3.2⟩
def ordW (p x : Wo) : Bool := decide (p.y < x.y) || (decide (x.y = p.y) && beforeB p.th x.th)
theorem cmp_ord {m : Wk} (hf : m.slopes.length ≤ 4) {p x : Wo} (hp : p.th.length = m.slopes.length) (hx : x.th.length = m.slopes.length) : decide (cmpS (stW p) (stW x) < 0) = ordW p x := by
  unfold ordW
  by_cases h1 : p.y < x.y
  · have : cmpS (stW p) (stW x) < 0 := cmpS_year h1
    simp [h1, this]
  · by_cases h2 : x.y = p.y
    · have e : stW p = stOf x.y p.th := by unfold stW; rw [h2]
      have e2 : stW x = stOf x.y x.th := rfl
      rw [e, e2]
      by_cases h3 : lexI p.th x.th < 0
      · have := cmpS_same hf x.y hp hx h3
        rw [decide_eq_true this, before_lex.2 h3]; simp [h2]
      · have hb : beforeB p.th x.th = false := by unfold beforeB; simpa using h3
        have : ¬ cmpS (stOf x.y p.th) (stOf x.y x.th) < 0 := by
          by_cases h4 : p.th = x.th
          · rw [h4, cmpS_lst, lexI_self]; omega
          · have := cmpS_same hf x.y hx hp (lex_tot (by omega) h3 h4)
            rw [cmpS_flip] at this
            omega
        rw [decide_eq_false this, hb]; simp [h1]
    · have : ¬ cmpS (stW p) (stW x) < 0 := by
        have h3 : cmpS (stW x) (stW p) < 0 := cmpS_year (show x.y < p.y by omega)
        rw [cmpS_flip] at h3
        omega
      simp [h1, h2, this]
theorem okAt_bad {m : Wk} {ws : List Wo} {i : Nat} (hi : i < ws.length) (h : woOk m ws[i] = false) : okAt m ws i = false := by
  unfold okAt; rw [getD_lt hi, h]; rfl
theorem okAt_first {m : Wk} {ws : List Wo} (hi : 0 < ws.length) (h : woOk m ws[0] = true) : okAt m ws 0 = true := by
  unfold okAt; rw [getD_lt hi, h]; simp
theorem okAt_next {m : Wk} (hf : m.slopes.length ≤ 4) {ws : List Wo} {i : Nat} (hi : i + 1 < ws.length) (hp : woOk m ws[i] = true) (h : woOk m ws[i + 1] = true) : okAt m ws (i + 1) = ordW ws[i] ws[i + 1] := by
  unfold okAt
  rw [getD_lt hi, h, Nat.add_sub_cancel, getD_lt (by omega), cmp_ord hf (woOk_spec hp).2.1 (woOk_spec h).2.1]
  simp
theorem woOk_fit {m : Wk} (hf : m.slopes.length ≤ 4) {x : Wo} (h : woOk m x = true) : FitT m x.th := by
  obtain ⟨_, h2, _, h4⟩ := woOk_spec h
  exact fitT_of hf (by unfold thOk; rw [h4]; simp [h2])
theorem costW_find {m : Wk} (hf : m.slopes.length ≤ 4) {ws : List Wo} (hl : listOk m ws = true) {s : St} (hs : StFit m s) :
    (findI ws s.y (thicks m s) = -1 ∧ costW ws s = none) ∨ ∃ i x, findI ws s.y (thicks m s) = ((i : Nat) : Int) ∧ ws[i]? = some x ∧ costW ws s = some x.c := by
  have hok : ∀ x ∈ ws, woOk m x = true := fun x hx => by
    obtain ⟨i, hi⟩ := List.getElem?_of_mem hx
    have hil := (List.getElem?_eq_some_iff.1 hi).1
    have := (okAt_spec (listOk_at hl hil) hil).1
    rwa [(List.getElem?_eq_some_iff.1 hi).2] at this
  rcases findI_spec ws s.y (thicks m s) with ⟨h1, h2⟩ | ⟨i, x, h1, h2, h3⟩
  · refine .inl ⟨h1, ?_⟩
    cases hc : costW ws s with
    | none => rfl
    | some c =>
      obtain ⟨x, hx, hst, _⟩ := costW_dom hc
      have hw := hok x hx
      have e1 : x.y = s.y := by rw [← hst]; rfl
      have e2 : x.th = thicks m s := by rw [← hst]; exact (thicks_stOf hf (woOk_fit hf hw).len x.y).symm
      have := h2 x hx
      rw [isW_iff.2 ⟨e1, e2⟩] at this
      cases this
  · refine .inr ⟨i, x, h1, h2, ?_⟩
    have hxm := List.mem_of_getElem? h2
    have h4 := costW_at (listOk_apart hl) x hxm
    obtain ⟨e1, e2⟩ := isW_iff.1 h3
    have : stW x = s := by unfold stW; rw [e1, e2]; exact stOf_thicks hs
    rwa [this] at h4
/-- All rows of the states ahead of a place prove. -/
def doneW (m : Wk) (ws : List Wo) (i : Nat) : Prop := ∀ (j : Nat) (x : Wo), j < i → ws[j]? = some x → ∀ r ∈ rowsS m, rowProves m (costW ws) (stW x) x.c r = true
theorem provesB_none {m : Wk} {least : Int} {ws : List Wo} (hy : m.years ≠ 0) (h : costW ws (firstS m) = none) : provesB m least ws = false := by
  unfold provesB; rw [if_neg hy, h]; simp
theorem provesB_low {m : Wk} {least n : Int} {ws : List Wo} (hy : m.years ≠ 0) (h : costW ws (firstS m) = some n) (hn : n < least) : provesB m least ws = false := by
  unfold provesB; rw [if_neg hy, h]; simp [hn]
theorem provesB_row {m : Wk} {least : Int} {ws : List Wo} (hy : m.years ≠ 0) {i : Nat} {x : Wo} (hx : ws[i]? = some x) {r : List Int} (hr : r ∈ rowsS m) (h : rowProves m (costW ws) (stW x) x.c r = false) : provesB m least ws = false := by
  have h2 : (ws.all fun x => (rowsS m).all (rowProves m (costW ws) (stW x) x.c)) = false := by
    rw [List.all_eq_false]
    refine ⟨x, List.mem_of_getElem? hx, ?_⟩
    simp only [List.all_eq_true]
    intro h3
    rw [h3 r hr] at h; cases h
  unfold provesB; rw [if_neg hy, h2]; simp
theorem provesB_all {m : Wk} {least n : Int} {ws : List Wo} (hy : m.years ≠ 0) (hl : listOk m ws = true) (h : costW ws (firstS m) = some n) (hn : ¬ n < least) (hd : doneW m ws ws.length) : provesB m least ws = true := by
  have h2 : (ws.all fun x => (rowsS m).all (rowProves m (costW ws) (stW x) x.c)) = true := by
    rw [List.all_eq_true]
    intro x hx
    rw [List.all_eq_true]
    obtain ⟨i, hi⟩ := List.getElem?_of_mem hx
    exact fun r hr => hd i x (List.getElem?_eq_some_iff.1 hi).1 hi r hr
  unfold provesB; rw [if_neg hy, h2, hl, h]; simp [hn]
theorem provesB_years {m : Wk} {least : Int} {ws : List Wo} (hy : m.years = 0) : provesB m least ws = (decide (ws.length = 0) && decide (least ≤ 0)) := by
  unfold provesB
  rw [if_pos hy]
  by_cases h : ws.length = 0
  · have : ws = [] := List.length_eq_zero_iff.1 h
    subst this
    simp [listOk]
  · have hl : listOk m ws = false := listOk_not (i := 0) (by omega) (okAt_bad (by omega) (woOk_bad (by omega)))
    simp [h]
theorem rowProves_out {m : Wk} {f : St → Option Int} {s : St} {n : Int} {r : List Int} (h : keptS m s r = false) : rowProves m f s n r = true := by unfold rowProves; rw [h]; rfl
theorem rowProves_in {m : Wk} {f : St → Option Int} {s : St} {n : Int} {r : List Int} (h : keptS m s r = true) :
    rowProves m f s n r = !((decide ((stepS m s r).y < m.years) && !(f (stepS m s r)).isSome) || decide (n > costS m r + (f (stepS m s r)).getD 0)) := by unfold rowProves; rw [h]; rfl
end Go.Proofs.Ytccplobhfokcgaa
