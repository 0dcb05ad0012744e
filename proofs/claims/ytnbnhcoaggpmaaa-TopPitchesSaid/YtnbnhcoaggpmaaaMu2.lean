/- Check: the walk. -/
import Derived.Test.YtnbnhcoaggpmaaaMu

namespace Go.Proofs.Ytnbnhcoaggpmaaa
open Go Go.RowKit Go.Shelf
set_option maxRecDepth 100000

theorem checkS_slope {m : Wk} (h4 : ¬ 4 < m.slopes.length) (h0 : ¬ m.slopes.length = 0) {k : Nat} (hk : k < m.slopes.length) (hz : orL ((m.slopes.take k).map slopeE) = 0) (he : slopeE m.slopes[k] ≠ 0) : checkS m = slopeE m.slopes[k] := by
  have h1 : m.slopes.map slopeE = (m.slopes.take k).map slopeE ++ slopeE m.slopes[k] :: (m.slopes.drop (k + 1)).map slopeE := by
    rw [← List.map_cons, ← List.drop_eq_getElem_cons hk, ← List.map_append, List.take_append_drop]
  have h2 : ∀ (l : List Int) (x : Int) (r : List Int), orL l = 0 → x ≠ 0 → orL (l ++ x :: r) = x := by
    intro l x r hl hx
    induction l with
    | nil => simp [orL, hx]
    | cons y l ih =>
      simp only [orL] at hl
      by_cases hy : y = 0
      · rw [if_pos hy] at hl
        rw [List.cons_append, orL, if_pos hy]; exact ih hl
      · rw [if_neg hy] at hl; exact absurd hl hy
  have h3 := h2 _ _ ((m.slopes.drop (k + 1)).map slopeE) hz he
  unfold checkS
  rw [if_neg h4, if_neg h0, h1, h3, if_neg he]
theorem orL_snoc {l : List Int} {x : Int} (hl : orL l = 0) : orL (l ++ [x]) = x := by
  induction l with
  | nil => by_cases h : x = 0 <;> simp [orL, h]
  | cons y l ih =>
    simp only [orL] at hl
    by_cases hy : y = 0
    · rw [if_pos hy] at hl
      rw [List.cons_append, orL, if_pos hy]; exact ih hl
    · rw [if_neg hy] at hl; exact absurd hl hy

set_option maxHeartbeats 8000000 in
theorem check_calls (m : Wk) (sl cr : Value) (w : World) (hsl : SlopesAt w w.heap.size sl m.slopes) (hcr : CraftsAt w w.heap.size cr m.crafts) :
    Calls Try.prog 18 #[.agg #[sl, cr, .int .i64 m.years, .int .i64 m.visit, .int .i64 m.hands]] w fun e w' => e = .returned (.int .i64 (checkS m)) ∧ Below w.heap.size w w' := by
  obtain ⟨A, c, rfl, hl, hr⟩ := hsl
  obtain ⟨CA, cc, rfl, hcl, hcrr⟩ := hcr
  have HR := Lib.hid hr
  have HCR := Lib.hid hcrr
  clear hr hcrr
  have HB := Lib.hid (below1 w (.cells #[.slice A m.slopes.length c, .slice CA m.crafts.length cc, .int .i64 m.years, .int .i64 m.visit, .int .i64 m.hands] 49))
  by_cases h4 : 4 < m.slopes.length
  · have e : checkS m = 3 := if_pos h4
    have h4i : (4 : Int) < (m.slopes.length : Int) := by omega
    go_enter Try.func18, Try.ntmps18
    go_wp2_with fail
    go_ret
    exact ⟨ret_int (by show (3 : Int) = _; rw [e]), HB.out⟩
  · by_cases h0 : m.slopes.length = 0
    · have e : checkS m = 1 := by unfold checkS; rw [if_neg h4, if_pos h0]
      go_enter Try.func18, Try.ntmps18
      rw [h0]
      go_wp2_with fail
      go_ret
      exact ⟨ret_int (by show (1 : Int) = _; rw [e]), by have := HB.out; rw [h0] at this; exact this⟩
    · have h4i : ¬ (4 : Int) < (m.slopes.length : Int) := by omega
      have h0i : ¬ (m.slopes.length : Int) = 0 := by omega
      go_enter Try.func18, Try.ntmps18
      go_wp2_with fail
      go_loopw [22] (fun i wr => ∃ k : Nat, k ≤ m.slopes.length ∧ i = .int .i64 (k : Int) ∧ Hid (orL ((m.slopes.take k).map slopeE) = 0) ∧ Hid (Below w.heap.size w wr) ∧
        Hid (wr.heap[w.heap.size]? = some (.cells #[.slice A m.slopes.length c, .slice CA m.crafts.length cc, .int .i64 m.years, .int .i64 m.visit, .int .i64 m.hands] 49 (0, 0)))) (fun i _ => m.slopes.length - (intOf i).toNat)
      case atStart => exact ⟨0, Nat.zero_le _, rfl, Lib.hid rfl, HB, Lib.hid (heap_alloc_self _ _)⟩
      case round =>
        obtain ⟨k, hk, rfl, HZ, hbe, hbx⟩ := hrel
        by_cases hlt : k < m.slopes.length
        · obtain ⟨b, o, rfl, hb, hss⟩ := HR.out (by intro e; simp [e] at hlt)
          obtain ⟨t, hit, s0, s1, s2, s3, s4⟩ := hss k _ (List.getElem?_eq_getElem hlt)
          obtain ⟨tA, tc, rfl, hrt⟩ := hit
          have kk : ∀ j, wr.cell? ⟨b, j, none⟩ = w.cell? ⟨b, j, none⟩ := fun j => hbe.out.cell (p := ⟨b, j, none⟩) hb
          rw [← kk] at s0 s1 s2 s3 s4
          have hil : (k : Int) < (m.slopes.length : Int) := by omega
          have hi0 : (0 : Int) ≤ (k : Int) := by omega
          have hadd : IntKind.i64.wrap ((k : Int) + 1) = (k : Int) + 1 := IntWalk.i64_in _ (by omega)
          have hnext : slopeE m.slopes[k] = 0 → orL ((m.slopes.take (k + 1)).map slopeE) = 0 := fun h => by
            rw [List.take_succ_eq_append_getElem hlt, List.map_append, List.map_cons, List.map_nil, orL_snoc HZ.out]; exact h
          have hstop := fun he => checkS_slope h4 h0 hlt HZ.out he
          have hwb := hbe.out.trans ((below1 wr (.cells #[.int .i64 m.slopes[k].now, .int .i64 m.slopes[k].need, .int .i64 m.slopes[k].full, .int .i64 m.slopes[k].size, .slice tA m.slopes[k].takes.length tc] 43)).mono hbe.out.size)
          obtain ⟨sp, hsp⟩ : ∃ sp, sp = m.slopes[k] := ⟨_, rfl⟩
          rw [← hsp] at s0 s1 s2 s3 s4 hrt hnext hstop hwb
          have HSP := Lib.hid hsp
          have HN := Lib.hid hnext
          have HST := Lib.hid hstop
          have HWB := Lib.hid hwb
          have hrt' := (hrt.below hbe.out)
          have HRT := Lib.hid hrt'
          have hwb2 : (wr.alloc (.cells #[.int .i64 sp.now, .int .i64 sp.need, .int .i64 sp.full, .int .i64 sp.size, .slice tA sp.takes.length tc] 43)).heap[w.heap.size]? = some (.cells #[.slice (some ⟨b, o, none⟩) m.slopes.length c, .slice CA m.crafts.length cc, .int .i64 m.years, .int .i64 m.visit, .int .i64 m.hands] 49 (0, 0)) := blk_below (below1 wr _) hbx.out (lt_blk hbx.out)
          have HWB2 := Lib.hid hwb2
          have hne := hbe.out.size
          clear hsp hnext hstop hrt kk hss hrt' hwb hwb2
          have key : (outB sp.full 1 1000 = true) ∨ (outB sp.full 1 1000 = false ∧ outB sp.need 0 sp.full = true) ∨ (outB sp.full 1 1000 = false ∧ outB sp.need 0 sp.full = false ∧ outB sp.now 0 sp.full = true) ∨
            (outB sp.full 1 1000 = false ∧ outB sp.need 0 sp.full = false ∧ outB sp.now 0 sp.full = false ∧ outB sp.size 1 1000 = true) ∨ (outB sp.full 1 1000 = false ∧ outB sp.need 0 sp.full = false ∧ outB sp.now 0 sp.full = false ∧ outB sp.size 1 1000 = false) := by
            cases outB sp.full 1 1000 <;> cases outB sp.need 0 sp.full <;> cases outB sp.now 0 sp.full <;> cases outB sp.size 1 1000 <;> simp
          rcases key with h1 | ⟨h1, h2⟩ | ⟨h1, h2, h3⟩ | ⟨h1, h2, h3, h5⟩ | ⟨h1, h2, h3, h5⟩
          · have he : slopeE sp = 1 := if_pos (by simp [slopeBad, h1])
            have HE := Lib.hid he; clear he
            go_wp2_with (go_at_call 50; refine (in_calls' _ _ _ _).mono ?_; rintro e w' ⟨rfl, rfl⟩)
            go_ret
            exact ⟨ret_int (by rw [HST.out (by rw [HE.out]; omega), HE.out]), HWB.out⟩
          · have he : slopeE sp = 1 := if_pos (by simp [slopeBad, h1, h2])
            have HE := Lib.hid he; clear he
            go_wp2_with (go_at_call 50; refine (in_calls' _ _ _ _).mono ?_; rintro e w' ⟨rfl, rfl⟩)
            go_ret
            exact ⟨ret_int (by rw [HST.out (by rw [HE.out]; omega), HE.out]), HWB.out⟩
          · have he : slopeE sp = 1 := if_pos (by simp [slopeBad, h1, h2, h3])
            have HE := Lib.hid he; clear he
            go_wp2_with (go_at_call 50; refine (in_calls' _ _ _ _).mono ?_; rintro e w' ⟨rfl, rfl⟩)
            go_ret
            exact ⟨ret_int (by rw [HST.out (by rw [HE.out]; omega), HE.out]), HWB.out⟩
          · have he : slopeE sp = 1 := if_pos (by simp [slopeBad, h1, h2, h3, h5])
            have HE := Lib.hid he; clear he
            go_wp2_with (go_at_call 50; refine (in_calls' _ _ _ _).mono ?_; rintro e w' ⟨rfl, rfl⟩)
            go_ret
            exact ⟨ret_int (by rw [HST.out (by rw [HE.out]; omega), HE.out]), HWB.out⟩
          · have hsb : slopeBad sp = false := by simp [slopeBad, h1, h2, h3, h5]
            by_cases h12 : 12 < sp.takes.length
            · have h12i : (12 : Int) < (sp.takes.length : Int) := by omega
              have he : slopeE sp = 3 := by unfold slopeE; rw [hsb, if_pos h12]; rfl
              have HE := Lib.hid he; clear he hsb
              go_wp2_with (go_at_call 50; refine (in_calls' _ _ _ _).mono ?_; rintro e w' ⟨rfl, rfl⟩)
              go_ret
              exact ⟨ret_int (by rw [HST.out (by rw [HE.out]; omega), HE.out]), HWB.out⟩
            · have h12i : ¬ (12 : Int) < (sp.takes.length : Int) := by omega
              have he : takesBad sp.takes = true → slopeE sp = 1 := fun h => by unfold slopeE; rw [hsb, if_neg h12, if_pos h]; rfl
              have he2 : takesBad sp.takes = false → slopeE sp = 0 := fun h => by unfold slopeE; rw [hsb, if_neg h12, h]; rfl
              have HE := Lib.hid he
              have HE2 := Lib.hid he2
              clear he he2 hsb
              go_wp2_with (go_at_call 50; refine (in_calls' _ _ _ _).mono ?_; rintro e w' ⟨rfl, rfl⟩)
              go_loop [59] (fun i => ∃ j : Nat, j ≤ sp.takes.length ∧ i = .int .i64 (j : Int) ∧ Hid (∀ t ∈ sp.takes.take j, outB t 0 500 = false)) (fun i => sp.takes.length - (intOf i).toNat)
              case atStart => exact ⟨0, Nat.zero_le _, rfl, Lib.hid (by simp)⟩
              case round =>
                obtain ⟨j, hj, rfl, HJ⟩ := hrel
                by_cases hjl : j < sp.takes.length
                · obtain ⟨b2, o2, rfl, hb2, hc2⟩ := HRT.out.at_ j (by simpa using hjl)
                  simp only [List.getElem_map] at hc2
                  have hmem : sp.takes[j] ∈ sp.takes := List.getElem_mem hjl
                  have hts : sp.takes.take (j + 1) = sp.takes.take j ++ [sp.takes[j]] := List.take_succ_eq_append_getElem hjl
                  have HM := Lib.hid hmem
                  have HTS := Lib.hid hts
                  clear hmem hts
                  have hb2' : b2 < wr.heap.size := by omega
                  generalize sp.takes[j] = t at *
                  by_cases hbad : outB t 0 500 = true
                  · go_wp2_with (go_at_call 50; refine (in_calls' _ _ _ _).mono ?_; rintro e w' ⟨rfl, rfl⟩)
                    go_ret
                    have he := HE.out (by unfold takesBad; rw [List.any_eq_true]; exact ⟨t, HM.out, hbad⟩)
                    exact ⟨ret_int (by rw [HST.out (by rw [he]; omega), he]), HWB.out⟩
                  · have hbad' : outB t 0 500 = false := by simpa using hbad
                    clear hbad
                    go_wp2_with (go_at_call 50; refine (in_calls' _ _ _ _).mono ?_; rintro e w' ⟨rfl, rfl⟩)
                    have hnx : ∀ x ∈ sp.takes.take (j + 1), outB x 0 500 = false := by
                      rw [HTS.out]
                      intro x hx
                      rcases List.mem_append.1 hx with h | h
                      · exact HJ.out x h
                      · simp at h; rw [h]; exact hbad'
                    have HNX := Lib.hid hnx
                    clear hnx
                    go_round
                    case rel => exact ⟨j + 1, by omega, by go_num, HNX⟩
                    case measure => simp [intOf]; omega
                · have hje : j = sp.takes.length := by omega
                  have hz : slopeE sp = 0 := HE2.out (by
                    unfold takesBad; rw [List.any_eq_false]
                    intro x hx
                    rw [hje, List.take_length] at HJ
                    simpa using HJ.out x hx)
                  have HZ2 := Lib.hid hz
                  have hjl' : ¬ (j : Int) < (sp.takes.length : Int) := by omega
                  clear hz hje
                  go_wp2_with fail
                  go_roundw
                  case rel => exact ⟨k + 1, by omega, by go_num, Lib.hid (HN.out HZ2.out), HWB, HWB2⟩
                  case measure => simp [intOf]; omega
        · have hke : k = m.slopes.length := by omega
          have hz : orL (m.slopes.map slopeE) = 0 := by
            have := HZ.out
            rwa [hke, List.take_length] at this
          have hch : checkS m = if 4 < m.crafts.length then 3 else if m.crafts.any craftBad then 1 else if restBad m then 1 else 0 := by
            unfold checkS; rw [if_neg h4, if_neg h0, if_pos hz]
          have HCH := Lib.hid hch
          obtain ⟨w0, w1, w2, w3, w4⟩ := blk5 hbx.out
          clear hz hch HZ
          have hkl : ¬ (k : Int) < (m.slopes.length : Int) := by omega
          clear hke hk hlt
          by_cases hc4 : 4 < m.crafts.length
          · have hc4i : (4 : Int) < (m.crafts.length : Int) := by omega
            go_wp2_with fail
            go_ret
            exact ⟨ret_int (by show (3 : Int) = _; rw [HCH.out, if_pos hc4]), hbe.out⟩
          · have hc4i : ¬ (4 : Int) < (m.crafts.length : Int) := by omega
            go_wp2_with fail
            obtain ⟨wo, rfl⟩ : ∃ wo : World, wo = wr := ⟨_, rfl⟩
            have hbe0 := hbe
            have hbx0 := hbx
            clear hbe hbx w0 w1 w2 w3 w4
            go_loopw [75] (fun i wr => ∃ j : Nat, j ≤ m.crafts.length ∧ i = .int .i64 (j : Int) ∧ Hid (∀ t ∈ m.crafts.take j, craftBad t = false) ∧ Hid (Below w.heap.size w wr) ∧
              Hid (wr.heap[w.heap.size]? = some (.cells #[.slice A m.slopes.length c, .slice CA m.crafts.length cc, .int .i64 m.years, .int .i64 m.visit, .int .i64 m.hands] 49 (0, 0)))) (fun i _ => m.crafts.length - (intOf i).toNat)
            case atStart => exact ⟨0, Nat.zero_le _, rfl, Lib.hid (by simp), hbe0, hbx0⟩
            case round =>
              obtain ⟨j, hj, rfl, HJ, hbe, hbx⟩ := hrel
              by_cases hjl : j < m.crafts.length
              · obtain ⟨b, o, rfl, hb, hss⟩ := HCR.out (by intro e; simp [e] at hjl)
                obtain ⟨s0, s1, s2⟩ := hss j _ (List.getElem?_eq_getElem hjl)
                have kk : ∀ j, wr.cell? ⟨b, j, none⟩ = w.cell? ⟨b, j, none⟩ := fun j => hbe.out.cell (p := ⟨b, j, none⟩) hb
                rw [← kk] at s0 s1 s2
                have hil : (j : Int) < (m.crafts.length : Int) := by omega
                have hi0 : (0 : Int) ≤ (j : Int) := by omega
                have hadd : IntKind.i64.wrap ((j : Int) + 1) = (j : Int) + 1 := IntWalk.i64_in _ (by omega)
                have hbad : craftBad m.crafts[j] = true → checkS m = 1 := fun h => by
                  rw [HCH.out, if_neg hc4, if_pos (List.any_eq_true.2 ⟨_, List.getElem_mem hjl, h⟩)]
                have hgood : craftBad m.crafts[j] = false → ∀ t ∈ m.crafts.take (j + 1), craftBad t = false := fun h => by
                  rw [List.take_succ_eq_append_getElem hjl]
                  intro x hx
                  rcases List.mem_append.1 hx with h1 | h1
                  · exact HJ.out x h1
                  · simp at h1; rw [h1]; exact h
                have hwb := hbe.out.trans ((below1 wr (.cells #[.int .i64 m.crafts[j].add, .int .i64 m.crafts[j].price, .bool m.crafts[j].strip] 46)).mono hbe.out.size)
                have hwb2 : (wr.alloc (.cells #[.int .i64 m.crafts[j].add, .int .i64 m.crafts[j].price, .bool m.crafts[j].strip] 46)).heap[w.heap.size]? = some (.cells #[.slice A m.slopes.length c, .slice (some ⟨b, o, none⟩) m.crafts.length cc, .int .i64 m.years, .int .i64 m.visit, .int .i64 m.hands] 49 (0, 0)) := blk_below (below1 wr _) hbx.out (lt_blk hbx.out)
                have HWB := Lib.hid hwb
                have HWB2 := Lib.hid hwb2
                have HBAD := Lib.hid hbad
                have HGOOD := Lib.hid hgood
                clear hwb hwb2 hbad hgood kk hss
                generalize m.crafts[j] = cf at *
                obtain ⟨ca, cp, cs⟩ := cf
                simp only at *
                have key : outB cp 0 10000 = true ∨ (outB cp 0 10000 = false ∧ outB ca 0 1000 = true) ∨ (outB cp 0 10000 = false ∧ outB ca 0 1000 = false ∧ cs = true ∧ ¬ ca = 0) ∨
                    (outB cp 0 10000 = false ∧ outB ca 0 1000 = false ∧ cs = true ∧ ca = 0) ∨ (outB cp 0 10000 = false ∧ outB ca 0 1000 = false ∧ cs = false) := by
                  by_cases h0 : ca = 0 <;> cases outB cp 0 10000 <;> cases outB ca 0 1000 <;> cases cs <;> simp [h0]
                rcases key with h1 | ⟨h1, h2⟩ | ⟨h1, h2, rfl, hne⟩ | ⟨h1, h2, rfl, rfl⟩ | ⟨h1, h2, rfl⟩
                · have he : craftBad ⟨ca, cp, cs⟩ = true := by simp [craftBad, h1]
                  have HE := Lib.hid he; clear he
                  go_wp2_with (go_at_call 50; refine (in_calls' _ _ _ _).mono ?_; rintro e w' ⟨rfl, rfl⟩)
                  go_ret
                  exact ⟨ret_int (by rw [HBAD.out HE.out]), HWB.out⟩
                · have he : craftBad ⟨ca, cp, cs⟩ = true := by simp [craftBad, h1, h2]
                  have HE := Lib.hid he; clear he
                  go_wp2_with (go_at_call 50; refine (in_calls' _ _ _ _).mono ?_; rintro e w' ⟨rfl, rfl⟩)
                  go_ret
                  exact ⟨ret_int (by rw [HBAD.out HE.out]), HWB.out⟩
                · have he : craftBad ⟨ca, cp, true⟩ = true := by simp [craftBad, h1, h2, hne]
                  have hne1 : (!(ca == 0)) = true := by simpa using hne
                  have HE := Lib.hid he; clear he
                  go_wp2_with (go_at_call 50; refine (in_calls' _ _ _ _).mono ?_; rintro e w' ⟨rfl, rfl⟩)
                  go_ret
                  exact ⟨ret_int (by rw [HBAD.out HE.out]), HWB.out⟩
                · have he : craftBad ⟨0, cp, true⟩ = false := by simp [craftBad, h1, h2]
                  have HE := Lib.hid he; clear he
                  go_wp2_with (go_at_call 50; refine (in_calls' _ _ _ _).mono ?_; rintro e w' ⟨rfl, rfl⟩)
                  go_roundw
                  case rel => exact ⟨j + 1, by omega, by go_num, Lib.hid (HGOOD.out HE.out), HWB, HWB2⟩
                  case measure => simp [intOf]; omega
                · have he : craftBad ⟨ca, cp, false⟩ = false := by simp [craftBad, h1, h2]
                  have HE := Lib.hid he; clear he
                  go_wp2_with (go_at_call 50; refine (in_calls' _ _ _ _).mono ?_; rintro e w' ⟨rfl, rfl⟩)
                  go_roundw
                  case rel => exact ⟨j + 1, by omega, by go_num, Lib.hid (HGOOD.out HE.out), HWB, HWB2⟩
                  case measure => simp [intOf]; omega
              · have hje : j = m.crafts.length := by omega
                have hz : m.crafts.any craftBad = false := by
                  rw [List.any_eq_false]
                  intro x hx
                  have := HJ.out x (by rw [hje, List.take_length]; exact hx)
                  simp [this]
                have hch : checkS m = if restBad m then 1 else 0 := by
                  rw [HCH.out, if_neg hc4, hz]; rfl
                have HC2 := Lib.hid hch
                obtain ⟨w0, w1, w2, w3, w4⟩ := blk5 hbx.out
                clear hz hch hje HJ hj
                have hjl' : ¬ (j : Int) < (m.crafts.length : Int) := by omega
                clear hjl
                have key : outB m.years 0 40 = true ∨ (outB m.years 0 40 = false ∧ outB m.visit 0 1000000 = true) ∨ (outB m.years 0 40 = false ∧ outB m.visit 0 1000000 = false ∧ outB m.hands 0 4 = true) ∨ (outB m.years 0 40 = false ∧ outB m.visit 0 1000000 = false ∧ outB m.hands 0 4 = false) := by
                  cases outB m.years 0 40 <;> cases outB m.visit 0 1000000 <;> cases outB m.hands 0 4 <;> simp
                have hrb : restBad m = (outB m.years 0 40 || outB m.visit 0 1000000 || outB m.hands 0 4) := rfl
                have HRB := Lib.hid hrb
                clear hrb
                generalize m.years = yy at *
                generalize m.visit = vv at *
                generalize m.hands = hh at *
                rcases key with h1 | ⟨h1, h2⟩ | ⟨h1, h2, h3⟩ | ⟨h1, h2, h3⟩
                all_goals
                  have hrr := HRB.out
                  simp only [*, Bool.true_or, Bool.false_or] at hrr
                  have HRR := Lib.hid hrr
                  clear hrr
                  go_wp2_with (go_at_call 50; refine (in_calls' _ _ _ _).mono ?_; rintro e w' ⟨rfl, rfl⟩)
                  go_ret
                  exact ⟨ret_int (by rw [HC2.out, HRR.out]; simp), hbe.out⟩
end Go.Proofs.Ytnbnhcoaggpmaaa
