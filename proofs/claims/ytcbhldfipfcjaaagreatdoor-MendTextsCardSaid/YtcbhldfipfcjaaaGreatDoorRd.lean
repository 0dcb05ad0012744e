/- The specification's Costs, Check, May, nows and planned. -/
import Derived.Test.YtcbhldfipfcjaaaGreatDoorLc

namespace Go.Proofs.YtcbhldfipfcjaaaGreatDoor
open Go Go.RowKit Go.Shelf
set_option maxRecDepth 100000

theorem chain8 (a b c d e f g h : Prop) : (a ∨ (¬ a ∧ b) ∨ (¬ a ∧ ¬ b ∧ c) ∨ (¬ a ∧ ¬ b ∧ ¬ c ∧ d) ∨ (¬ a ∧ ¬ b ∧ ¬ c ∧ ¬ d ∧ e) ∨ (¬ a ∧ ¬ b ∧ ¬ c ∧ ¬ d ∧ ¬ e ∧ f) ∨ (¬ a ∧ ¬ b ∧ ¬ c ∧ ¬ d ∧ ¬ e ∧ ¬ f ∧ g) ∨ (¬ a ∧ ¬ b ∧ ¬ c ∧ ¬ d ∧ ¬ e ∧ ¬ f ∧ ¬ g ∧ h)) ∨ (¬ a ∧ ¬ b ∧ ¬ c ∧ ¬ d ∧ ¬ e ∧ ¬ f ∧ ¬ g ∧ ¬ h) := by
  by_cases a <;> by_cases b <;> by_cases c <;> by_cases d <;> by_cases e <;> by_cases f <;> by_cases g <;> by_cases h <;> simp [*]
theorem chain6 (a b c d e f : Prop) : (a ∨ (¬ a ∧ b) ∨ (¬ a ∧ ¬ b ∧ c) ∨ (¬ a ∧ ¬ b ∧ ¬ c ∧ d) ∨ (¬ a ∧ ¬ b ∧ ¬ c ∧ ¬ d ∧ e) ∨ (¬ a ∧ ¬ b ∧ ¬ c ∧ ¬ d ∧ ¬ e ∧ f)) ∨ (¬ a ∧ ¬ b ∧ ¬ c ∧ ¬ d ∧ ¬ e ∧ ¬ f) := by
  by_cases a <;> by_cases b <;> by_cases c <;> by_cases d <;> by_cases e <;> by_cases f <;> simp [*]
theorem orL_at : ∀ {l : List Int} {i : Nat} {x : Int}, (∀ j, j < i → ∀ y, l[j]? = some y → y = 0) → l[i]? = some x → x ≠ 0 → orL l = x
  | [], i, x, _, h, _ => by simp at h
  | y :: l, 0, x, _, h, hx => by
    simp at h
    subst h
    simp only [orL]
    rw [if_neg hx]
  | y :: l, i + 1, x, h0, h, hx => by
    simp only [orL]
    rw [if_pos (h0 0 (Nat.succ_pos _) y rfl)]
    exact orL_at (fun j hj z hz => h0 (j + 1) (Nat.succ_lt_succ hj) z (by simpa using hz)) (by simpa using h) hx
theorem orL_zeros : ∀ {l : List Int}, (∀ x ∈ l, x = 0) → orL l = 0
  | [], _ => rfl
  | y :: l, h => by
    simp only [orL]
    rw [if_pos (h y (by simp))]
    exact orL_zeros fun x hx => h x (by simp [hx])
/-- The first slope with an error. -/
theorem check_slope {m : Wk} (h4 : ¬ 4 < m.slopes.length) {i : Nat} {x : Slope} (h0 : ∀ j y, j < i → m.slopes[j]? = some y → slopeE y = 0) (hx : m.slopes[i]? = some x) (he : slopeE x ≠ 0) : checkS m = slopeE x := by
  have h1 : orL (m.slopes.map slopeE) = slopeE x := orL_at (i := i) (fun j hj y hy => by
    rw [List.getElem?_map, Option.map_eq_some_iff] at hy
    obtain ⟨z, hz, rfl⟩ := hy
    exact h0 j z hj hz) (by rw [List.getElem?_map, hx]; rfl) he
  have hl := (List.getElem?_eq_some_iff.1 hx).1
  unfold checkS
  rw [if_neg h4, if_neg (by omega), h1, if_neg he]
theorem check_slopes {m : Wk} (h4 : ¬ 4 < m.slopes.length) (hn : ¬ m.slopes.length = 0) (h0 : ∀ j y, j < m.slopes.length → m.slopes[j]? = some y → slopeE y = 0) :
    checkS m = if 4 < m.crafts.length then 3 else if m.crafts.any craftBad then 1 else if restBad m then 1 else 0 := by
  unfold checkS
  rw [if_neg h4, if_neg hn, if_pos]
  refine orL_zeros fun x hx => ?_
  obtain ⟨s, hs, rfl⟩ := List.mem_map.1 hx
  obtain ⟨j, hj⟩ := List.getElem?_of_mem hs
  exact h0 j s (List.getElem?_eq_some_iff.1 hj).1 hj
theorem slopeE_bad {x : Slope} (h : slopeBad x = true) : slopeE x = 1 := by unfold slopeE; rw [if_pos h]

set_option maxHeartbeats 8000000 in
theorem rcheck_calls (m : Wk) (sl cr : Value) (w : World) (hsl : SlopesAt w w.heap.size sl m.slopes) (hcr : CraftsAt w w.heap.size cr m.crafts) :
    Calls Tryz.prog 27 #[.agg #[sl, cr, .int .i64 m.years, .int .i64 m.visit, .int .i64 m.hands]] w fun e w' => e = .returned (.int .i64 (checkS m)) ∧ Below w.heap.size w w' := by
  obtain ⟨sA, sc, rfl, hl1, hss⟩ := id hsl
  obtain ⟨cA, cc, rfl, hl2, hcc⟩ := id hcr
  obtain ⟨w0, hw0⟩ : ∃ w0, w0 = w.alloc (.cells #[.slice sA m.slopes.length sc, .slice cA m.crafts.length cc, .int .i64 m.years, .int .i64 m.visit, .int .i64 m.hands] 25) := ⟨_, rfl⟩
  have h0 := LawInv.start hsl hcr
  rw [← hw0] at h0
  have x5 := blk5 h0.box
  rw [hw0] at x5
  obtain ⟨x0, x1, x2, x3, x4⟩ := x5
  have H0 := Lib.hid h0
  have HW0 := Lib.hid hw0
  have HSS := Lib.hid hss
  have HCC := Lib.hid hcc
  clear h0 hw0 hsl hcr hss hcc
  go_enter Tryz.func27, Tryz.ntmps27
  by_cases hl4 : (m.slopes.length : Int) > 4
  · have hres : checkS m = 3 := by unfold checkS; rw [if_pos (by omega)]
    have HRES := Lib.hid hres
    clear hres
    go_wp2_with fail
    go_ret
    rw [← HW0.out]
    exact ⟨ret_int HRES.out.symm, H0.out.below⟩
  · by_cases hn0 : (m.slopes.length : Int) = 0
    · have hres : checkS m = 1 := by unfold checkS; rw [if_neg (by omega), if_pos (by omega)]
      have hn1 : ((m.slopes.length : Int) == 0) = true := by simpa using hn0
      have HRES := Lib.hid hres
      clear hres hn0
      go_wp2_with fail
      go_ret
      rw [← HW0.out]
      exact ⟨ret_int HRES.out.symm, H0.out.below⟩
    · have hn1 : ((m.slopes.length : Int) == 0) = false := by simpa using hn0
      have hN : ¬ m.slopes.length = 0 := by omega
      have hL4 : ¬ 4 < m.slopes.length := by omega
      have HN := Lib.hid (And.intro hN hL4)
      clear hn0 hN hL4
      go_wp2_with fail
      rw [← HW0.out]
      go_loopw [3] (fun c wr => ∃ i : Nat, i ≤ m.slopes.length ∧ c = .int .i64 (i : Int) ∧ Hid (∀ j y, j < i → m.slopes[j]? = some y → slopeE y = 0) ∧ Hid (LawInv m w (.slice sA m.slopes.length sc) (.slice cA m.crafts.length cc) w.heap.size wr)) (fun c _ => m.slopes.length - (intOf c).toNat)
      case atStart => exact ⟨0, Nat.zero_le _, rfl, Lib.hid (fun j y h => by omega), H0⟩
      case round =>
        obtain ⟨i, hi, rfl, HZ, HI⟩ := hrel
        obtain ⟨Wr, rfl⟩ : ∃ Wr, Wr = wr := ⟨_, rfl⟩
        clear x0 x1 x2 x3 x4
        obtain ⟨x0, x1, x2, x3, x4⟩ := blk5 HI.out.box
        by_cases hil : i < m.slopes.length
        · have hii : (i : Int) < (m.slopes.length : Int) := by omega
          have hi0 : (0 : Int) ≤ (i : Int) := by omega
          have hiadd : IntKind.i64.wrap ((i : Int) + 1) = (i : Int) + 1 := IntWalk.i64_in _ (by omega)
          have hgi : m.slopes[i]? = some m.slopes[i] := List.getElem?_eq_getElem hil
          obtain ⟨b, o, rfl, hb, hc⟩ := HSS.out (by intro e; rw [e] at hil; simp at hil)
          obtain ⟨t, ht, c0, c1, c2, c3, c4⟩ := hc i _ hgi
          obtain ⟨tA, tc, rfl, _⟩ := id ht
          have hbe := HI.out.below
          have k0 := (hbe.cell (p := ⟨b, o + i * 5, none⟩) hb).trans c0
          have k1 := (hbe.cell (p := ⟨b, o + i * 5 + 1, none⟩) hb).trans c1
          have k2 := (hbe.cell (p := ⟨b, o + i * 5 + 2, none⟩) hb).trans c2
          have k3 := (hbe.cell (p := ⟨b, o + i * 5 + 3, none⟩) hb).trans c3
          have k4 := (hbe.cell (p := ⟨b, o + i * 5 + 4, none⟩) hb).trans c4
          have hch := fun he => check_slope HN.out.2 HZ.out hgi he
          have hnx : slopeE m.slopes[i] = 0 → ∀ j y, j < i + 1 → m.slopes[j]? = some y → slopeE y = 0 := fun he j y hj hy => by
            rcases Nat.lt_or_ge j i with h | h
            · exact HZ.out j y h hy
            · obtain rfl : j = i := by omega
              rw [hgi] at hy
              cases hy
              exact he
          have HCH := Lib.hid hch
          have HNX := Lib.hid hnx
          have HT := Lib.hid ht
          clear c0 c1 c2 c3 c4 hc hbe hgi hch hnx ht
          generalize m.slopes[i] = x at *
          rcases chain8 (x.full < 1) (x.full > 1000) (x.need < 0) (x.need > x.full) (x.now < 0) (x.now > x.full) (x.size < 1) (x.size > 1000) with hb | ⟨h1, h2, h3, h4, h5, h6, h7, h8⟩
          · have hbad : slopeBad x = true := by
              simp only [slopeBad, outB, Bool.or_eq_true, Bool.not_eq_true', Bool.and_eq_false_iff, decide_eq_false_iff_not]
              omega
            have hres : checkS m = 1 := by rw [HCH.out (by rw [slopeE_bad hbad]; decide), slopeE_bad hbad]
            have HRES := Lib.hid hres
            clear hbad hres
            rcases hb with h1 | ⟨h1, h2⟩ | ⟨h1, h2, h3⟩ | ⟨h1, h2, h3, h4⟩ | ⟨h1, h2, h3, h4, h5⟩ | ⟨h1, h2, h3, h4, h5, h6⟩ | ⟨h1, h2, h3, h4, h5, h6, h7⟩ | ⟨h1, h2, h3, h4, h5, h6, h7, h8⟩
            all_goals
              go_wp2_with fail
              go_ret
              exact ⟨ret_int HRES.out.symm, HI.out.below.trans ((below1 Wr _).mono HI.out.below.size)⟩
          · have hgood : slopeBad x = false := by
              simp only [slopeBad, outB, Bool.or_eq_false_iff, Bool.not_eq_false', Bool.and_eq_true, decide_eq_true_eq]
              omega
            by_cases h12 : (x.takes.length : Int) > 12
            · have he : slopeE x = 3 := by unfold slopeE; rw [hgood]; simp; omega
              have hres : checkS m = 3 := by rw [HCH.out (by rw [he]; decide), he]
              have HRES := Lib.hid hres
              clear hgood he hres
              go_wp2_with fail
              go_ret
              exact ⟨ret_int HRES.out.symm, HI.out.below.trans ((below1 Wr _).mono HI.out.below.size)⟩
            · have hE : takesBad x.takes = true → slopeE x = 1 := fun h => by unfold slopeE; rw [hgood, h]; simp; omega
              have hE0 : takesBad x.takes = false → slopeE x = 0 := fun h => by unfold slopeE; rw [hgood, h]; simp; omega
              have HE := Lib.hid (And.intro hE hE0)
              clear hgood hE hE0
              go_wp2_with fail
              obtain ⟨W1, hW1⟩ : ∃ W1, W1 = Wr.alloc (.cells #[.int .i64 x.now, .int .i64 x.need, .int .i64 x.full, .int .i64 x.size, .slice tA x.takes.length tc] 37) := ⟨_, rfl⟩
              have g5 : W1.heap[Wr.heap.size]? = some (.cells #[.int .i64 x.now, .int .i64 x.need, .int .i64 x.full, .int .i64 x.size, .slice tA x.takes.length tc] 37 (0, 0)) := by rw [hW1]; exact heap_alloc_self _ _
              have hb1 : Below Wr.heap.size Wr W1 := by rw [hW1]; exact below1 _ _
              rw [← hW1]
              have HI1 := Lib.hid (HI.out.later hb1)
              obtain ⟨y0, y1, y2, y3, y4⟩ := blk5 g5
              clear hW1 g5 hb1 k0 k1 k2 k3 k4 x0 x1 x2 x3 x4
              go_loop [5] (fun c => ∃ k : Nat, k ≤ x.takes.length ∧ c = .int .i64 (k : Int) ∧ Hid (∀ j t, j < k → x.takes[j]? = some t → outB t 0 500 = false)) (fun c => x.takes.length - (intOf c).toNat)
              case atStart => exact ⟨0, Nat.zero_le _, rfl, Lib.hid (fun j t h => by omega)⟩
              case round =>
                obtain ⟨k, hk, rfl, HK⟩ := hrel
                by_cases hkl : k < x.takes.length
                · have hki : (k : Int) < (x.takes.length : Int) := by omega
                  have hk0 : (0 : Int) ≤ (k : Int) := by omega
                  have hkadd : IntKind.i64.wrap ((k : Int) + 1) = (k : Int) + 1 := IntWalk.i64_in _ (by omega)
                  obtain ⟨tA', tc', e9, hrc⟩ := HT.out.below HI1.out.below
                  cases e9
                  obtain ⟨rb, ro, rfl, hrb, hcell⟩ := hrc.at_ k (by simpa using hkl)
                  simp only [List.getElem_map] at hcell
                  have hgk : x.takes[k]? = some x.takes[k] := List.getElem?_eq_getElem hkl
                  have hbadT : outB x.takes[k] 0 500 = true → takesBad x.takes = true := fun h => by
                    unfold takesBad
                    rw [List.any_eq_true]
                    exact ⟨_, List.mem_of_getElem? hgk, h⟩
                  have hnxT : outB x.takes[k] 0 500 = false → ∀ j t, j < k + 1 → x.takes[j]? = some t → outB t 0 500 = false := fun he j t hj hy => by
                    rcases Nat.lt_or_ge j k with h | h
                    · exact HK.out j t h hy
                    · obtain rfl : j = k := by omega
                      rw [hgk] at hy
                      cases hy
                      exact he
                  have HBT := Lib.hid hbadT
                  have HNT := Lib.hid hnxT
                  clear hrc hgk hbadT hnxT
                  generalize x.takes[k] = q at *
                  by_cases hq1 : q < 0
                  · have hres : checkS m = 1 := by
                      have he := HE.out.1 (HBT.out (by simp [outB]; omega))
                      rw [HCH.out (by rw [he]; decide), he]
                    have HRES := Lib.hid hres
                    clear hres
                    go_wp2_with fail
                    go_ret
                    exact ⟨ret_int HRES.out.symm, HI1.out.below⟩
                  · by_cases hq2 : q > 500
                    · have hres : checkS m = 1 := by
                        have he := HE.out.1 (HBT.out (by simp [outB]; omega))
                        rw [HCH.out (by rw [he]; decide), he]
                      have HRES := Lib.hid hres
                      clear hres
                      go_wp2_with fail
                      go_ret
                      exact ⟨ret_int HRES.out.symm, HI1.out.below⟩
                    · have hnq := HNT.out (outB_false.2 ⟨by omega, by omega⟩)
                      have HNQ := Lib.hid hnq
                      clear hnq
                      go_wp2_with fail
                      go_round
                      case rel => exact ⟨k + 1, by omega, by go_num, HNQ⟩
                      case measure => simp [intOf]; omega
                · have hki : ¬ (k : Int) < (x.takes.length : Int) := by omega
                  have hz : slopeE x = 0 := HE.out.2 (by
                    unfold takesBad
                    rw [List.any_eq_false]
                    intro t ht
                    obtain ⟨j, hj⟩ := List.getElem?_of_mem ht
                    have := HK.out j t (by have := (List.getElem?_eq_some_iff.1 hj).1; omega) hj
                    simp [this])
                  have HNZ := Lib.hid (HNX.out hz)
                  clear hz
                  go_wp2_with fail
                  go_round
                  case rel => exact ⟨i + 1, by omega, by go_num, HNZ, HI1⟩
                  case measure => simp [intOf]; omega
        · have hii : ¬ (i : Int) < (m.slopes.length : Int) := by omega
          have hcs := check_slopes HN.out.2 HN.out.1 (fun j y hj hy => HZ.out j y (by omega) hy)
          have HCS := Lib.hid hcs
          clear hcs
          by_cases hc4 : (m.crafts.length : Int) > 4
          · have hres : checkS m = 3 := by rw [HCS.out, if_pos (by omega)]
            have HRES := Lib.hid hres
            clear hres
            go_wp2_with fail
            go_ret
            exact ⟨ret_int HRES.out.symm, HI.out.below⟩
          · go_wp2_with fail
            go_loopw [6] (fun c wr => ∃ q : Nat, q ≤ m.crafts.length ∧ c = .int .i64 (q : Int) ∧ Hid (∀ j y, j < q → m.crafts[j]? = some y → craftBad y = false) ∧ Hid (LawInv m w (.slice sA m.slopes.length sc) (.slice cA m.crafts.length cc) w.heap.size wr)) (fun c _ => m.crafts.length - (intOf c).toNat)
            case atStart => exact ⟨0, Nat.zero_le _, rfl, Lib.hid (fun j y h => by omega), HI⟩
            case round =>
              obtain ⟨q, hq, rfl, HZ2, HJ⟩ := hrel
              obtain ⟨Wq, rfl⟩ : ∃ Wq, Wq = wr := ⟨_, rfl⟩
              clear x0 x1 x2 x3 x4
              obtain ⟨x0, x1, x2, x3, x4⟩ := blk5 HJ.out.box
              by_cases hql : q < m.crafts.length
              · have hqi : (q : Int) < (m.crafts.length : Int) := by omega
                have hq0 : (0 : Int) ≤ (q : Int) := by omega
                have hqadd : IntKind.i64.wrap ((q : Int) + 1) = (q : Int) + 1 := IntWalk.i64_in _ (by omega)
                have hgq : m.crafts[q]? = some m.crafts[q] := List.getElem?_eq_getElem hql
                obtain ⟨b, o, rfl, hb, hc⟩ := HCC.out (by intro e; rw [e] at hql; simp at hql)
                obtain ⟨c0, c1, c2⟩ := hc q _ hgq
                have hbe := HJ.out.below
                have k0 := (hbe.cell (p := ⟨b, o + q * 3, none⟩) hb).trans c0
                have k1 := (hbe.cell (p := ⟨b, o + q * 3 + 1, none⟩) hb).trans c1
                have k2 := (hbe.cell (p := ⟨b, o + q * 3 + 2, none⟩) hb).trans c2
                have hbadC : craftBad m.crafts[q] = true → checkS m = 1 := fun h => by
                  rw [HCS.out, if_neg (by omega), if_pos]
                  rw [List.any_eq_true]
                  exact ⟨_, List.mem_of_getElem? hgq, h⟩
                have hnxC : craftBad m.crafts[q] = false → ∀ j y, j < q + 1 → m.crafts[j]? = some y → craftBad y = false := fun he j y hj hy => by
                  rcases Nat.lt_or_ge j q with h | h
                  · exact HZ2.out j y h hy
                  · obtain rfl : j = q := by omega
                    rw [hgq] at hy
                    cases hy
                    exact he
                have HBC := Lib.hid hbadC
                have HNC := Lib.hid hnxC
                clear c0 c1 c2 hc hbe hgq hbadC hnxC
                generalize m.crafts[q] = y at *
                rcases chain6 (y.price < 0) (y.price > 10000) (y.add < 0) (y.add > 1000) (y.strip = true ∧ y.add ≠ 0) False with hb | ⟨h1, h2, h3, h4, h5, _⟩
                · have hbad : craftBad y = true := by
                    simp only [craftBad, outB, Bool.or_eq_true, Bool.not_eq_true', Bool.and_eq_true, Bool.and_eq_false_iff, decide_eq_false_iff_not, decide_eq_true_eq]
                    rcases hb with h1 | ⟨h1, h2⟩ | ⟨h1, h2, h3⟩ | ⟨h1, h2, h3, h4⟩ | ⟨h1, h2, h3, h4, h5⟩ | ⟨_, _, _, _, _, h⟩
                    · exact .inl (.inl (.inl (by omega)))
                    · exact .inl (.inl (.inr (by omega)))
                    · exact .inl (.inr (.inl (by omega)))
                    · exact .inl (.inr (.inr (by omega)))
                    · exact .inr h5
                    · exact h.elim
                  have HRES := Lib.hid (HBC.out hbad)
                  clear hbad
                  obtain ⟨ya, yp, ys⟩ := y
                  simp only [] at *
                  rcases hb with h1 | ⟨h1, h2⟩ | ⟨h1, h2, h3⟩ | ⟨h1, h2, h3, h4⟩ | ⟨h1, h2, h3, h4, h5, h6⟩ | ⟨_, _, _, _, _, h⟩
                  case inr.inr.inr.inr.inl =>
                    subst h5
                    have h7 : (ya != 0) = true := by simpa using h6
                    have h8 : (!(ya == 0)) = true := by simpa using h6
                    clear h6
                    go_wp2_with fail
                    go_ret
                    exact ⟨ret_int HRES.out.symm, HJ.out.below.trans ((below1 Wq _).mono HJ.out.below.size)⟩
                  case inr.inr.inr.inr.inr => exact h.elim
                  all_goals
                    go_wp2_with fail
                    go_ret
                    exact ⟨ret_int HRES.out.symm, HJ.out.below.trans ((below1 Wq _).mono HJ.out.below.size)⟩
                · have hgood : craftBad y = false := by
                    simp only [craftBad, outB, Bool.or_eq_false_iff, Bool.not_eq_false', Bool.and_eq_true, Bool.and_eq_false_iff, decide_eq_false_iff_not, decide_eq_true_eq]
                    refine ⟨⟨by omega, by omega⟩, ?_⟩
                    cases hs : y.strip
                    · exact .inl rfl
                    · exact .inr (fun h => h5 ⟨hs, h⟩)
                  have HNY := Lib.hid (HNC.out hgood)
                  clear hgood
                  obtain ⟨W1, hW1⟩ : ∃ W1, W1 = Wq.alloc (.cells #[.int .i64 y.add, .int .i64 y.price, .bool y.strip] 67) := ⟨_, rfl⟩
                  have hb1 : Below Wq.heap.size Wq W1 := by rw [hW1]; exact below1 _ _
                  have HI1 := Lib.hid (HJ.out.later hb1)
                  have HW1 := Lib.hid hW1
                  clear hb1 hW1
                  obtain ⟨ya, yp, ys⟩ := y
                  simp only [] at *
                  cases ys
                  · clear h5
                    go_wp2_with fail
                    rw [← HW1.out]
                    go_round
                    case rel => exact ⟨q + 1, by omega, by go_num, HNY, HI1⟩
                    case measure => simp [intOf]; omega
                  · have h6 : ya = 0 := Decidable.not_not.1 fun h => h5 ⟨rfl, h⟩
                    subst h6
                    clear h5
                    go_wp2_with fail
                    rw [← HW1.out]
                    go_round
                    case rel => exact ⟨q + 1, by omega, by go_num, HNY, HI1⟩
                    case measure => simp [intOf]; omega
              · have hqi : ¬ (q : Int) < (m.crafts.length : Int) := by omega
                have hany : m.crafts.any craftBad = false := by
                  rw [List.any_eq_false]
                  intro y hy
                  obtain ⟨j, hj⟩ := List.getElem?_of_mem hy
                  have := HZ2.out j y (by have := (List.getElem?_eq_some_iff.1 hj).1; omega) hj
                  simp [this]
                have hfin : checkS m = if restBad m then 1 else 0 := by rw [HCS.out, if_neg (by omega), hany]; rfl
                clear hany
                rcases chain6 (m.years < 0) (m.years > 40) (m.visit < 0) (m.visit > 1000000) (m.hands < 0) (m.hands > 4) with hb | ⟨h1, h2, h3, h4, h5, h6⟩
                · have hbad : restBad m = true := by
                    simp only [restBad, outB, Bool.or_eq_true, Bool.not_eq_true', Bool.and_eq_false_iff, decide_eq_false_iff_not]
                    omega
                  rw [hbad, if_pos rfl] at hfin
                  have HRES := Lib.hid hfin
                  clear hbad hfin
                  rcases hb with h1 | ⟨h1, h2⟩ | ⟨h1, h2, h3⟩ | ⟨h1, h2, h3, h4⟩ | ⟨h1, h2, h3, h4, h5⟩ | ⟨h1, h2, h3, h4, h5, h6⟩
                  all_goals
                    go_wp2_with fail
                    go_ret
                    exact ⟨ret_int HRES.out.symm, HJ.out.below⟩
                · have hgood : restBad m = false := by
                    simp only [restBad, outB, Bool.or_eq_false_iff, Bool.not_eq_false', Bool.and_eq_true, decide_eq_true_eq]
                    omega
                  rw [hgood, if_neg (by simp)] at hfin
                  have HRES := Lib.hid hfin
                  clear hgood hfin
                  go_wp2_with fail
                  go_ret
                  exact ⟨ret_int HRES.out.symm, HJ.out.below⟩

/-- What came in and the box lie low: they stay, whatever turns above. -/
theorem LawInv.low {m : Wk} {w : World} {sl cr : Value} {bx : Nat} {W W' : World} (h : LawInv m w sl cr bx W) (hb : Below (bx + 1) W W') (h1 : w.heap.size ≤ bx + 1) (h2 : SlopesAt w w.heap.size sl m.slopes ∧ CraftsAt w w.heap.size cr m.crafts) : LawInv m w sl cr bx W' :=
  ⟨h.below.trans (hb.mono h1), ((h2.1.below h.below).below (hb.mono h1)).mono (Nat.le_trans h.below.size hb.size), ((h2.2.below h.below).below (hb.mono h1)).mono (Nat.le_trans h.below.size hb.size), blk_below hb h.box (by omega)⟩
theorem may_len {m : Wk} {row : List Int} (h : row.length ≠ m.slopes.length) : mayS m row = false := by
  unfold mayS; simp [h]
theorem may_bad {m : Wk} {row : List Int} {i : Nat} {x : Int} (hx : row[i]? = some x) (h : x < -1 ∨ x ≥ (m.crafts.length : Int)) : mayS m row = false := by
  have : row.all (fun n => decide (-1 ≤ n) && decide (n ≤ m.crafts.length - 1)) = false := by
    rw [List.all_eq_false]
    exact ⟨x, List.mem_of_getElem? hx, by simp; omega⟩
  unfold mayS; rw [this]; simp
theorem may_all {m : Wk} {row : List Int} (hl : row.length = m.slopes.length) (h : ∀ j x, j < row.length → row[j]? = some x → -1 ≤ x ∧ x < (m.crafts.length : Int)) : mayS m row = decide ((row.countP (fun n => decide (0 ≤ n)) : Int) ≤ m.hands) := by
  have : row.all (fun n => decide (-1 ≤ n) && decide (n ≤ m.crafts.length - 1)) = true := by
    rw [List.all_eq_true]
    intro x hx
    obtain ⟨j, hj⟩ := List.getElem?_of_mem hx
    have := h j x (List.getElem?_eq_some_iff.1 hj).1 hj
    simp; omega
  unfold mayS; rw [this]; simp [hl]

def plannedS (m : Wk) (plan : List (List Int)) : Int := if checkS m = 0 then if planOk m plan then 0 else 1 else checkS m
theorem planned_follow (m : Wk) (plan : List (List Int)) : (followS m plan).2.2.2 = plannedS m plan := by
  unfold followS plannedS
  by_cases hc : checkS m = 0
  · rw [if_pos hc, if_pos hc]
    by_cases hp : planOk m plan = true
    · rw [if_pos hp, if_pos hp]
      split <;> rfl
    · rw [if_neg hp, if_neg hp]
  · rw [if_neg hc, if_neg hc]

end Go.Proofs.YtcbhldfipfcjaaaGreatDoor
