/- Late. -/
import Derived.Test.YtcbhldfipfcjaaaGreatDoorLp
import Derived.Test.YtcbhldfipfcjaaaGreatDoorPp

namespace Go.Proofs.YtcbhldfipfcjaaaGreatDoor
open Go Go.RowKit Go.Shelf
set_option maxRecDepth 100000

def LatePost (m : Wk) (plan : List (List Int)) (year slope : Int) (w : World) (e : Ending) (w' : World) : Prop :=
  e = .returned (.tuple #[.int .i64 (lateS m plan year slope).1, .int .i64 (lateS m plan year slope).2]) ∧ Below w.heap.size w w'

set_option maxHeartbeats 8000000 in
theorem late_calls (m : Wk) (sl cr pv : Value) (plan : List (List Int)) (year slope : Int) (w : World) (hsl : SlopesAt w w.heap.size sl m.slopes) (hcr : CraftsAt w w.heap.size cr m.crafts) (hp : RowsAt w w.heap.size pv plan) :
    Calls Tryz.prog 19 #[.agg #[sl, cr, .int .i64 m.years, .int .i64 m.visit, .int .i64 m.hands], pv, .int .i64 year, .int .i64 slope] w (LatePost m plan year slope w) := by
  obtain ⟨w0, hw0⟩ : ∃ w0, w0 = w.alloc (.cells #[sl, cr, .int .i64 m.years, .int .i64 m.visit, .int .i64 m.hands] 25) := ⟨_, rfl⟩
  have z0 : w0.heap.size = w.heap.size + 1 := by rw [hw0]; simp
  have b0 : Below w.heap.size w w0 := by rw [hw0]; exact below1 _ _
  have g0 : w0.heap[w.heap.size]? = some (.cells #[sl, cr, .int .i64 m.years, .int .i64 m.visit, .int .i64 m.hands] 25 (0, 0)) := by rw [hw0]; exact heap_alloc_self _ _
  have hfl := follow_calls m sl cr pv plan w0 ((hsl.below b0).mono (by omega)) ((hcr.below b0).mono (by omega)) ((hp.below b0).mono (by omega))
  have HW0 := Lib.hid hw0
  have HFL := Lib.hid hfl
  have HB0 := Lib.hid b0
  have HG := Lib.hid g0
  have HSL := Lib.hid hsl
  have HCR := Lib.hid hcr
  obtain ⟨sA, sc, rfl, _, _⟩ := id hsl
  obtain ⟨cA, cc, rfl, _, _⟩ := id hcr
  obtain ⟨pA, pc, rfl, hpl, hpr⟩ := hp
  have HPR := Lib.hid hpr
  clear hw0 hfl b0 g0 hpr hsl hcr
  by_cases he : (followS m plan).2.2.2 = 0
  · obtain ⟨hck, hpo⟩ := followS_ok he
    have hm := checkS_ok hck
    have hlen := planOk_len hpo
    have hrow := fun (k : Nat) (hk : k < plan.length) => (may_ok (planOk_row hpo hk)).len
    have hyb := hm.years
    have hsub : IntKind.i64.wrap (m.years - 1) = m.years - 1 := IntWalk.i64_in _ (by omega)
    have hfew := hm.few
    have hsub2 : IntKind.i64.wrap ((m.slopes.length : Int) - 1) = (m.slopes.length : Int) - 1 := IntWalk.i64_in _ (by omega)
    have HE := Lib.hid he
    have HROW := Lib.hid hrow
    have HLEN := Lib.hid hlen
    clear hrow hlen hck
    go_enter Tryz.func19, Tryz.ntmps19
    go_wp2_with fail
    rw [← HW0.out]
    refine HFL.out.mono ?_
    rintro e w1 ⟨v1, he1, _, hb1⟩
    rw [HE.out] at he1
    subst he1
    have k0 := blk_below hb1 HG.out (by omega)
    obtain ⟨x0, x1, x2, x3, x4⟩ := blk5 k0
    have z1 := hb1.size
    have HB1 := Lib.hid (HB0.out.trans (hb1.mono (by omega)))
    have K := Lib.hid k0
    clear hb1 k0 HFL HB0 HG HW0
    generalize hat : (followS m plan).2.2.1 = pat at *
    have HAT := Lib.hid hat
    clear hat
    by_cases hy : outB year 0 (m.years - 1) = true
    · have hlt : lateS m plan year slope = (0, 7) := by unfold lateS; rw [if_pos HE.out, hy]; rfl
      have HLT := Lib.hid hlt
      clear hlt
      go_wp2_with (go_at_call 48; refine (in_calls' _ _ _ _).mono ?_; rintro e w' ⟨rfl, rfl⟩)
      go_ret2
      exact ⟨by rw [HLT.out]; rfl, HB1.out⟩
    · have hy : outB year 0 (m.years - 1) = false := by simpa using hy
      obtain ⟨hy1, hy2⟩ := outB_false.1 hy
      obtain ⟨yr, rfl⟩ := Int.eq_ofNat_of_zero_le hy1
      by_cases hs : outB slope 0 ((m.slopes.length : Int) - 1) = true
      · have hlt : lateS m plan yr slope = (0, 7) := by unfold lateS; rw [if_pos HE.out, hs]; simp
        have HLT := Lib.hid hlt
        clear hlt
        go_wp2_with (go_at_call 48; refine (in_calls' _ _ _ _).mono ?_; rintro e w' ⟨rfl, rfl⟩)
        go_ret2
        exact ⟨by rw [HLT.out]; rfl, HB1.out⟩
      · have hs : outB slope 0 ((m.slopes.length : Int) - 1) = false := by simpa using hs
        obtain ⟨hs1, hs2⟩ := outB_false.1 hs
        obtain ⟨sl', rfl⟩ := Int.eq_ofNat_of_zero_le hs1
        have hlena : (plan.length : Int) ≤ m.years := Int.le_of_eq HLEN.out
        have hlenb : m.years ≤ (plan.length : Int) := Int.le_of_eq HLEN.out.symm
        have hyl : yr < plan.length := by omega
        have hrl := HROW.out yr hyl
        have hsl : sl' < plan[yr].length := by rw [hrl]; omega
        obtain ⟨pb, po, rfl, hpb, hpc⟩ := HPR.out (by intro e; rw [e] at hyl; simp at hyl)
        obtain ⟨u, hu, rA, rc, rfl, hur⟩ := hpc yr _ (List.getElem?_eq_getElem hyl)
        obtain ⟨rb, ro, rfl, hrb, hcell⟩ := (hur.below HB1.out).at_ sl' (by simpa using hsl)
        have hu' := (HB1.out.cell (p := ⟨pb, po + yr, none⟩) hpb).trans hu
        have hcl : plan[yr][sl'] = cellP plan yr sl' := by unfold cellP; rw [getD_lt hyl, getD_lt hsl]
        simp only [List.getElem_map] at hcell
        rw [hcl] at hcell
        have hyi : (yr : Int) < (plan.length : Int) := by omega
        have hsi : (sl' : Int) < (plan[yr].length : Int) := by omega
        have hy0 : (0 : Int) ≤ (yr : Int) := by omega
        have hs0 : (0 : Int) ≤ (sl' : Int) := by omega
        have HPC := Lib.hid hpc
        clear hur hu hpc hcl
        generalize hcv : cellP plan yr sl' = cv at *
        have HCV := Lib.hid hcv
        clear hcv
        by_cases hneg : cv < 0
        · have hlt : lateS m plan yr sl' = (0, 7) := by
            unfold lateS
            rw [if_pos HE.out, hy, hs]
            simp only [Int.toNat_natCast, HCV.out]
            simp [hneg]
          have HLT := Lib.hid hlt
          clear hlt
          go_wp2_with (go_at_call 48; refine (in_calls' _ _ _ _).mono ?_; rintro e w' ⟨rfl, rfl⟩)
          go_ret2
          exact ⟨by rw [HLT.out]; rfl, HB1.out⟩
        · by_cases hpat : pat = -1
          · subst hpat
            have hlt : lateS m plan yr sl' = (((lateTo (goodY m plan yr sl') yr (m.years.toNat - 1 - yr) : Nat) : Int), 0) := by
              unfold lateS
              rw [if_pos HE.out, hy, hs]
              simp only [Int.toNat_natCast, HCV.out, HAT.out]
              simp [hneg]
            have HLT := Lib.hid hlt
            clear hlt
            go_wp2_with (go_at_call 48; refine (in_calls' _ _ _ _).mono ?_; rintro e w' ⟨rfl, hw'⟩; rw [hw']; clear hw')
            clear x0 x1 x2 x3 x4 hu' hcell
            go_loopw [13] (fun i wr => ∃ Y : Nat, yr ≤ Y ∧ (Y : Int) ≤ m.years - 1 ∧ i = .int .i64 (Y : Int) ∧ Hid (Below w1.heap.size w1 wr) ∧ Hid (lateTo (goodY m plan yr sl') yr (m.years.toNat - 1 - yr) = lateTo (goodY m plan yr sl') yr (Y - yr))) (fun i _ => (intOf i).toNat)
            case atStart => exact ⟨m.years.toNat - 1, by omega, by omega, by congr 1; omega, Lib.hid (Below.refl _ _), Lib.hid rfl⟩
            case round =>
              obtain ⟨Y, hY1, hY2, rfl, HBR, HLR⟩ := hrel
              obtain ⟨Wr, rfl⟩ : ∃ Wr, Wr = wr := ⟨_, rfl⟩
              have hk := blk_below HBR.out K.out (lt_blk K.out)
              obtain ⟨x0, x1, x2, x3, x4⟩ := blk5 hk
              have HK := Lib.hid hk
              clear hk
              have zr := HBR.out.size
              have zr2 : w.heap.size ≤ Wr.heap.size := by have := HB1.out.size; omega
              by_cases hgt : yr < Y
              · have hgi : (Y : Int) > (yr : Int) := by omega
                have hYl : Y < plan.length := by omega
                have hrl2 := HROW.out Y hYl
                have hsl2 : sl' < plan[Y].length := by rw [hrl2]; omega
                have hbw := HB1.out.trans (HBR.out.mono (show w.heap.size ≤ w1.heap.size by omega))
                obtain ⟨u2, hu2, rA2, rc2, rfl, hur2⟩ := HPC.out Y _ (List.getElem?_eq_getElem hYl)
                obtain ⟨rb2, ro2, rfl, hrb2, hcell2⟩ := (hur2.below hbw).at_ sl' (by simpa using hsl2)
                have hu2' := (hbw.cell (p := ⟨pb, po + Y, none⟩) hpb).trans hu2
                have hcl2 : plan[Y][sl'] = cellP plan Y sl' := by unfold cellP; rw [getD_lt hYl, getD_lt hsl2]
                simp only [List.getElem_map] at hcell2
                rw [hcl2] at hcell2
                have hYi : (Y : Int) < (plan.length : Int) := by omega
                have hsi2 : (sl' : Int) < (plan[Y].length : Int) := by omega
                have hY0 : (0 : Int) ≤ (Y : Int) := by omega
                have hdec : IntKind.i64.wrap ((Y : Int) - 1) = ((Y - 1 : Nat) : Int) := by rw [IntWalk.i64_in _ (by omega)]; omega
                have hstep : lateTo (goodY m plan yr sl') yr (Y - yr) = if goodY m plan yr sl' Y then Y else lateTo (goodY m plan yr sl') yr (Y - 1 - yr) := by
                  rw [show Y - yr = (Y - 1 - yr) + 1 by omega, lateTo, show yr + (Y - 1 - yr) + 1 = Y by omega]
                have HST := Lib.hid (HLR.out.trans hstep)
                have HBW := Lib.hid hbw
                clear hur2 hu2 hcl2 hstep hbw
                generalize hcv2 : cellP plan Y sl' = cv2 at *
                have HCV2 := Lib.hid hcv2
                clear hcv2
                by_cases hpos : cv2 ≥ 0
                · have hbadY : goodY m plan yr sl' Y = false := by unfold goodY; rw [HCV2.out, show decide (cv2 < 0) = false by simpa using hpos]; rfl
                  have hnx : lateTo (goodY m plan yr sl') yr (m.years.toNat - 1 - yr) = lateTo (goodY m plan yr sl') yr (Y - 1 - yr) := by rw [HST.out, hbadY]; rfl
                  have HNX := Lib.hid hnx
                  clear hbadY hnx
                  go_wp2_with fail
                  go_round
                  case rel => exact ⟨Y - 1, by omega, by omega, by congr 1, HBR, HNX⟩
                  case measure => simp [intOf]; omega
                · go_wp2_with fail
                  clear x0 x1 x2 x3 x4 hu2' hcell2
                  go_loopw [14, 77] (fun v i wi => ∃ j : Nat, j ≤ plan.length ∧ i = .int .i64 (j : Int) ∧ (∃ A n c, v = .slice A n c) ∧ Hid (Below Wr.heap.size Wr wi) ∧ Hid (OwnD wi Wr.heap.size v (plan.take j))) (fun _ i _ => plan.length - (intOf i).toNat)
                  case atStart => exact ⟨0, Nat.zero_le _, rfl, ⟨none, 0, 0, rfl⟩, Lib.hid (Below.refl _ _), Lib.hid (OwnD.nil _ _)⟩
                  case round =>
                    obtain ⟨j, hj, rfl, ⟨A9, n9, c9, rfl⟩, HBI, HOD⟩ := hrel
                    obtain ⟨wi, rfl⟩ : ∃ wi, wi = wr := ⟨_, rfl⟩
                    have zi := HBI.out.size
                    by_cases hjl : j < plan.length
                    · have hji : (j : Int) < (plan.length : Int) := by omega
                      have hj0 : (0 : Int) ≤ (j : Int) := by omega
                      have hjadd : IntKind.i64.wrap ((j : Int) + 1) = (j : Int) + 1 := IntWalk.i64_in _ (by omega)
                      have hbwi := HBW.out.trans (HBI.out.mono (by omega))
                      have hgj : plan[j]? = some plan[j] := List.getElem?_eq_getElem hjl
                      obtain ⟨u3, hu3, rA3, rc3, rfl, hur3⟩ := HPC.out j _ hgj
                      have hu3' := (hbwi.cell (p := ⟨pb, po + j, none⟩) hpb).trans hu3
                      have hrl3 := HROW.out j hjl
                      have hts : plan.take (j + 1) = plan.take j ++ [plan[j]] := List.take_succ_eq_append_getElem hjl
                      have hia : IntsAt wi wi.heap.size (.slice rA3 plan[j].length rc3) plan[j] := ⟨rA3, rc3, rfl, (hur3.below hbwi).mono hbwi.size⟩
                      have hsome := hm.some
                      generalize plan[j] = row at *
                      have hcl := clone_calls (.slice rA3 row.length rc3) row wi wi.heap.size hia (by omega)
                      have HCL := Lib.hid hcl
                      have HTS := Lib.hid hts
                      have HR3 := Lib.hid hrl3
                      clear hrl3 hcl hts hia hur3 hu3 hbwi hgj
                      obtain ⟨vs, bs, ho1, ho2, ho3, ho4⟩ := HOD.out
                      have hjt : (plan.take j).length = j := by rw [List.length_take]; omega
                      have ho1' := ho1
                      rw [hjt] at ho1'
                      have how := fun w3 (hb3 : Below wi.heap.size wi w3) (o : Obj) => own_below ho1' (hb3.trans ((below1 w3 o).mono hb3.size)) (fun k hk => (own_blk_lt ho1' k hk).2)
                      have how2 := fun w3 (hb3 : Below wi.heap.size wi w3) (o : Obj) => OwnD.below ⟨vs, bs, ho1, ho2, ho3, ho4⟩ (hb3.trans ((below1 w3 o).mono hb3.size))
                      have hlo : ∀ k ∈ bs, k < wi.heap.size := fun k hk => by
                        obtain ⟨i, hi⟩ := List.getElem?_of_mem hk
                        have hil := (List.getElem?_eq_some_iff.1 hi).1
                        have hil2 : i < (plan.take j).length := by omega
                        obtain ⟨k', c', h5, _, h7⟩ := ho4 i _ (List.getElem?_eq_getElem hil2)
                        rw [hi] at h5
                        cases h5
                        exact (own_blk_lt h7 k rfl).2
                      have HOW := Lib.hid how
                      have HLO := Lib.hid hlo
                      have HO := Lib.hid (And.intro ho1 (And.intro ho2 (And.intro ho3 ho4)))
                      have hnl : row ≠ [] := fun e => by have := HR3.out; rw [e] at this; simp at this; omega
                      clear how how2 hlo ho1 ho2 ho3 ho4 ho1'
                      go_wp2_with (first
                        | (go_at_call 33; refine HCL.out.mono ?_; rintro e w3 ⟨v3, rfl, hown3, hb3⟩; obtain ⟨A3, n3, c3, rfl⟩ := own_slice hown3; have HO3 := Lib.hid hown3; have HB3 := Lib.hid hb3; clear hown3 hb3)
                        | (at_builtin; (refine wpList_app2 Wr.heap.size _ _ 39 35 (.slice none 0 0) 1 24 [.slice A3 n3 c3] (by rfl) (by rfl) Tryz.underlying39 infoRow rfl (by decide) (by decide) (.slice A9 n9 c9) j vs (by rfl) w3.heap.size (by rfl) (heap_alloc_self _ _) rfl (by simp [Value.oneCell']) (HOW.out w3 HB3.out _) (by omega) (by have := HB3.out.size; simp; omega) ?_); intro v11 w13 hown11 hg13 hat13 hb13; obtain ⟨A11, n11, c11, rfl⟩ := own_slice hown11; have HX := Lib.hid (And.intro hown11 (And.intro hg13 hb13)); clear hown11 hg13 hat13 hb13))
                      obtain ⟨hown11, hg13, hb13⟩ := HX.out
                      have hba := HB3.out.trans ((below1 w3 (.cells #[.slice A3 n3 c3] 35)).mono HB3.out.size)
                      have hod : OwnD w13 Wr.heap.size (.slice A11 n11 c11) (plan.take (j + 1)) := by
                        rw [HTS.out]
                        obtain ⟨ho1, ho2, ho3, ho4⟩ := HO.out
                        refine OwnD.snoc (W0 := wi) hnl (own_below ho1 hba (fun k hk => (own_blk_lt ho1 k hk).2)) ho2 ho3 HLO.out (fun i xs hi => ?_) (own_below HO3.out (below1 _ _) (fun k hk => (own_blk_lt HO3.out k hk).2)) zi (by rw [hjt]; exact hown11) hg13
                        obtain ⟨k, c, h5, h6, h7⟩ := ho4 i xs hi
                        exact ⟨k, c, h5, h6, own_below h7 hba (fun k hk => (own_blk_lt h7 k hk).2)⟩
                      have HOD' := Lib.hid hod
                      have HBI' := Lib.hid (HBI.out.trans ((hba.mono zi).trans hb13))
                      clear hown11 hg13 hb13 hba hod
                      go_round
                      case rel => exact ⟨j + 1, by omega, by go_num, ⟨_, _, _, rfl⟩, HBI', HOD'⟩
                      case measure => simp [intOf]; omega
                    · obtain rfl : j = plan.length := by omega
                      have hji : ¬ ((plan.length : Int) < (plan.length : Int)) := by omega
                      have hod := HOD.out
                      rw [List.take_length] at hod
                      have hgY : plan[Y]? = some plan[Y] := List.getElem?_eq_getElem hYl
                      have hgR : plan[yr]? = some plan[yr] := List.getElem?_eq_getElem hyl
                      obtain ⟨kY, cY, b, cc9, curY, e9, qY, fY, hBY, hhY, hcY, cb, hcb⟩ := hod.one hgY
                      cases e9
                      obtain ⟨kR, cR, b', cc', curR, e9, qR, fR, hBR, hhR, hcR, _⟩ := hod.one hgR
                      simp only [Value.slice.injEq, Option.some.injEq, Addr.mk.injEq, and_true, true_and] at e9
                      obtain ⟨rfl, rfl⟩ := e9
                      have hkne : kY ≠ kR := hod.apart (by omega) hgY hgR rfl qY qR
                      have hbY : b ≠ kY := fun e => by rw [e, hhY] at hcb; simp at hcb
                      have hbR : b ≠ kR := fun e => by rw [e, hhR] at hcb; simp at hcb
                      have hcR' : curR[sl']? = some (.int .i64 cv) := hcR sl' _ (by rw [List.getElem?_eq_getElem hsl, ← HCV.out]; unfold cellP; rw [getD_lt hyl, getD_lt hsl])
                      have hcY' : curY[sl']? = some (.int .i64 plan[Y][sl']) := hcY sl' _ (List.getElem?_eq_getElem hsl2)
                      have hszY : sl' < curY.size := (Array.getElem?_eq_some_iff.1 hcY').1
                      have hq : ∀ w4, CellR kY (.cells curY 3 (0, 0)) (.cells (curY.setIfInBounds sl' (.int .i64 cv)) 3 (0, 0)) wi w4 → _ := fun w4 hw4 =>
                        And.intro (show w4.cell? ⟨b, Y, none⟩ = some (.slice (some ⟨kY, 0, none⟩) plan[Y].length cY) by rw [cell_blk (hw4.bel.heap hcb hbY), ← cell_blk hcb]; exact qY)
                          (And.intro (show w4.cell? ⟨b, yr, none⟩ = some (.slice (some ⟨kR, 0, none⟩) plan[yr].length cR) by rw [cell_blk (hw4.bel.heap hcb hbY), ← cell_blk hcb]; exact qR)
                            (show w4.cell? ⟨kR, sl', none⟩ = some (.int .i64 cv) by rw [cell_blk (hw4.bel.heap hhR (Ne.symm hkne))]; exact hcR'))
                      have hq2 : ∀ w4, CellR kY (.cells curY 3 (0, 0)) (.cells (curY.setIfInBounds sl' (.int .i64 cv)) 3 (0, 0)) wi w4 → (∃ old, w4.cell? ⟨kY, sl', none⟩ = some old) ∧ w4.frozen? ⟨kY, sl', none⟩ = false ∧ (w4.setCell ⟨kY, sl', none⟩ (.int .i64 cv)).heap[kY]? = some (.cells (curY.setIfInBounds sl' (.int .i64 cv)) 3 (0, 0)) := fun w4 hw4 => by
                        rcases hw4.one hhY with h | h
                        · exact ⟨⟨_, by rw [cell_blk h]; exact hcY'⟩, frozen_blk h _, heap_set h _ _⟩
                        · refine ⟨⟨.int .i64 cv, by rw [cell_blk h]; simp [hszY]⟩, frozen_blk h _, ?_⟩
                          rw [heap_set h]; simp
                      have HQ := Lib.hid hq
                      have HQ2 := Lib.hid hq2
                      have HD := Lib.hid (And.intro hod (And.intro hgY (And.intro hgR (And.intro qY qR))))
                      have HK2 := Lib.hid (And.intro hhY (And.intro hhR (And.intro hcR' hcb)))
                      have zwi := HBI.out.size
                      clear hrl hrl2 hq hq2 hod hgY hgR qY qR fY fR hhY hhR hcY hcR hcb hcR' hcY'
                      go_wp2_with fail
                      refine wp_region_rg_tail 19 (CellR kY (.cells curY 3 (0, 0)) (.cells (curY.setIfInBounds sl' (.int .i64 cv)) 3 (0, 0))) (fun | 18 => .exw undef (fun w4 => w4.heap[kY]? = some (.cells (curY.setIfInBounds sl' (.int .i64 cv)) 3 (0, 0))) | _ => .fn) (by kernel_rfl) (by kernel_rfl) (CellR.refl _ _ _) (fun _ _ _ h k => h.trans k)
                        (by intro i; split <;> first | trivial | exact (fun w1 w2 h => h.two)) ?_
                      iterate 18 (refine rg_step fun K hK => ?_; apply rg_fn rfl; (intro w4 hw; obtain ⟨qY, qR, qc⟩ := HQ.out w4 hw.undrew; go_simp; try rfl); go_simp; (try with_reducible refine hK _ _ ?_); try clear hK K)
                      refine rg_step fun K hK => ?_
                      apply rg_exS rfl
                      · intro w4 hw
                        obtain ⟨⟨old, h1⟩, h2, h3⟩ := HQ2.out w4 hw.undrew
                        refine ⟨w4.setCell ⟨kY, sl', none⟩ (.int .i64 cv), ?_, CellR.step, h3⟩
                        go_simp
                        try rfl
                      go_simp
                      (try with_reducible refine hK _ _ ?_)
                      try clear hK K
                      refine rg_nil ?_
                      intro w5 hw5 hset
                      replace hw5 := hw5.undrew
                      obtain ⟨hod, hgY, hgR, qY, qR⟩ := HD.out
                      obtain ⟨hhY, hhR, hcR', hcb⟩ := HK2.out
                      have hodY := hod.setAt hgY rfl qY hsl2 cv
                      have hb5 : Below (wi.setCell ⟨kY, sl', none⟩ (.int .i64 cv)).heap.size (wi.setCell ⟨kY, sl', none⟩ (.int .i64 cv)) w5 := by
                        have hz : (wi.setCell ⟨kY, sl', none⟩ (.int .i64 cv)).heap.size = wi.heap.size := by simp [World.setCell]
                        refine ⟨hw5.bel.os, hw5.bel.tape, hw5.bel.output, by rw [hz]; exact hw5.bel.size, fun k hk => ?_⟩
                        by_cases hkk : k = kY
                        · subst hkk
                          rw [hset, heap_set hhY]
                        · exact (hw5.bel.block k (by rw [hz] at hk; exact hk) hkk).trans (Below.heap_setCell _ _ _ _ hkk).symm
                      have hod5 := hodY.below hb5
                      have hgR5 : (plan.set Y (plan[Y].set sl' cv))[yr]? = some plan[yr] := by rw [List.getElem?_set, if_neg (by omega)]; exact hgR
                      obtain ⟨q5Y, q5R, q5c⟩ := HQ.out w5 hw5
                      have hod6 := hod5.setAt hgR5 (b := b) (by rw [List.length_set]) q5R hsl (-1)
                      have hmv : (plan.set Y (plan[Y].set sl' cv)).set yr (plan[yr].set sl' (-1)) = movedS plan Y yr sl' := by
                        unfold movedS
                        rw [HCV.out, getD_lt hYl, getD_lt hyl]
                      rw [hmv] at hod6
                      have h5R := hw5.bel.heap hhR (Ne.symm hkne)
                      have f5R := frozen_blk h5R sl'
                      obtain ⟨w6, hw6⟩ : ∃ w6, w6 = w5.setCell ⟨kR, sl', none⟩ (.int .i64 (-1)) := ⟨_, rfl⟩
                      have hb6 : Below Wr.heap.size Wr w6 := by
                        rw [hw6]
                        exact (HBI.out.trans (hw5.bel.below zwi (fun k hk => by omega))).setCell (p := ⟨kR, sl', none⟩) hBR _
                      rw [← hw6] at hod6
                      have HW6 := Lib.hid hw6
                      have HB6 := Lib.hid hb6
                      have HOD6 := Lib.hid hod6
                      clear hw5 hset hod hgY hgR qY qR hhY hhR hcR' hcb hodY hb5 hod5 hgR5 q5Y hmv h5R hw6 hb6 hod6 HD HK2 HQ HQ2
                      simp only [List.drop_succ_cons, List.drop_zero]
                      have hk6 := blk_below HB6.out HK.out (lt_blk HK.out)
                      have x5 := blk5 hk6
                      rw [HW6.out] at x5
                      obtain ⟨x0, x1, x2, x3, x4⟩ := x5
                      clear hk6
                      go_wp2_with fail
                      have hbw6 := HBW.out.trans (HB6.out.mono zr2)
                      have hz6 := hbw6.size
                      have hrows6 : RowsAt w6 w6.heap.size (.slice (some ⟨b, 0, none⟩) plan.length c9) (movedS plan Y yr sl') := HOD6.out.rows (by rw [movedS_length]; omega) (movedS_rows (n := 1000000) (fun xs hx => by
                        obtain ⟨i, hi⟩ := List.getElem?_of_mem hx
                        have hil := (List.getElem?_eq_some_iff.1 hi).1
                        have := HROW.out i hil
                        rw [(List.getElem?_eq_some_iff.1 hi).2] at this
                        omega) _ _ _)
                      have hfl6 := follow_calls m _ _ _ (movedS plan Y yr sl') w6 ((HSL.out.below hbw6).mono hz6) ((HCR.out.below hbw6).mono hz6) hrows6
                      rw [← HW6.out]
                      refine hfl6.mono ?_
                      rintro e w7 ⟨v7, rfl, _, hb7⟩
                      have hbw7 : Below w1.heap.size w1 w7 := (HBR.out.trans (HB6.out.mono zr)).trans (hb7.mono (Nat.le_trans zr HB6.out.size))
                      have HBW7 := Lib.hid hbw7
                      have hgd : goodY m plan yr sl' Y = (decide ((followS m (movedS plan Y yr sl')).2.2.2 = 0) && decide ((followS m (movedS plan Y yr sl')).2.2.1 = -1)) := by
                        unfold goodY; rw [HCV2.out, show decide (cv2 < 0) = true by simp; omega]; rfl
                      generalize (followS m (movedS plan Y yr sl')).2.2.2 = e7 at *
                      generalize (followS m (movedS plan Y yr sl')).2.2.1 = a7 at *
                      have HGD := Lib.hid hgd
                      clear hgd hb7 hbw7 hfl6 hrows6 hbw6 x0 x1 x2 x3 x4
                      by_cases h7 : e7 = 0
                      · have h7a : (e7 == 0) = true := by simp [h7]
                        by_cases h8 : a7 = -1
                        · have h8a : (a7 == -1) = true := by simp [h8]
                          have hgood : goodY m plan yr sl' Y = true := by rw [HGD.out]; simp [h7, h8]
                          have hres : lateTo (goodY m plan yr sl') yr (m.years.toNat - 1 - yr) = Y := by rw [HST.out, hgood]; rfl
                          have HRES := Lib.hid hres
                          clear hgood hres h7 h8
                          go_wp2_with fail
                          go_ret2
                          exact ⟨by rw [HLT.out, HRES.out]; rfl, HB1.out.trans (HBW7.out.mono (by omega))⟩
                        · have h8a : (a7 == -1) = false := by simpa using h8
                          have hbadY : goodY m plan yr sl' Y = false := by rw [HGD.out]; simp [h8]
                          have hnx : lateTo (goodY m plan yr sl') yr (m.years.toNat - 1 - yr) = lateTo (goodY m plan yr sl') yr (Y - 1 - yr) := by rw [HST.out, hbadY]; rfl
                          clear h7 h8
                          have HNX := Lib.hid hnx
                          clear hbadY hnx
                          go_wp2_with fail
                          go_round
                          case rel => exact ⟨Y - 1, by omega, by omega, by congr 1, HBW7, HNX⟩
                          case measure => simp [intOf]; omega
                      · have h7a : (e7 == 0) = false := by simpa using h7
                        have hbadY : goodY m plan yr sl' Y = false := by rw [HGD.out]; simp [h7]
                        have hnx : lateTo (goodY m plan yr sl') yr (m.years.toNat - 1 - yr) = lateTo (goodY m plan yr sl') yr (Y - 1 - yr) := by rw [HST.out, hbadY]; rfl
                        clear h7
                        have HNX := Lib.hid hnx
                        clear hbadY hnx
                        go_wp2_with fail
                        go_round
                        case rel => exact ⟨Y - 1, by omega, by omega, by congr 1, HBW7, HNX⟩
                        case measure => simp [intOf]; omega
              · obtain rfl : Y = yr := by omega
                have hgi : ¬ ((Y : Int) > (Y : Int)) := by omega
                have hlt0 : lateTo (goodY m plan Y sl') Y (m.years.toNat - 1 - Y) = Y := by rw [HLR.out, Nat.sub_self]; rfl
                have HL0 := Lib.hid hlt0
                clear hlt0
                go_wp2_with fail
                go_ret2
                exact ⟨by rw [HLT.out, HL0.out]; rfl, HB1.out.trans (HBR.out.mono (by omega))⟩
          · have hp1 : (pat != -1) = true := by simpa using hpat
            have hp2 : (!(pat == -1)) = true := by simpa using hpat
            have hlt : lateS m plan yr sl' = (0, 8) := by
              unfold lateS
              rw [if_pos HE.out, hy, hs]
              simp only [Int.toNat_natCast, HCV.out, HAT.out]
              simp [hneg, hpat]
            have HLT := Lib.hid hlt
            clear hlt
            go_wp2_with (go_at_call 48; refine (in_calls' _ _ _ _).mono ?_; rintro e w' ⟨rfl, rfl⟩)
            go_ret2
            exact ⟨by rw [HLT.out]; rfl, HB1.out⟩
  · have hne : ((followS m plan).2.2.2 != 0) = true := by simpa using he
    have hne2 : (!((followS m plan).2.2.2 == 0)) = true := by simpa using he
    have hlt : lateS m plan year slope = (0, (followS m plan).2.2.2) := by unfold lateS; rw [if_neg he]
    have HLT := Lib.hid hlt
    clear hlt he
    go_enter Tryz.func19, Tryz.ntmps19
    go_wp2_with fail
    rw [← HW0.out]
    refine HFL.out.mono ?_
    rintro e w1 ⟨v1, rfl, _, hb1⟩
    have HB1 := Lib.hid (HB0.out.trans (hb1.mono (by omega)))
    clear hb1
    go_wp2_with fail
    go_ret2
    exact ⟨by rw [HLT.out]; rfl, HB1.out⟩
end Go.Proofs.YtcbhldfipfcjaaaGreatDoor
