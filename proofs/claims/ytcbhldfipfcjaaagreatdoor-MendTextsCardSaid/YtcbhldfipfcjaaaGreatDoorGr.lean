/- Great. -/
import Derived.Test.YtcbhldfipfcjaaaGreatDoorGl

namespace Go.Proofs.YtcbhldfipfcjaaaGreatDoor
open Go Go.RowKit Go.Shelf
set_option maxRecDepth 100000

set_option maxHeartbeats 8000000 in
theorem great_calls (m : Wk) (sl cr : Value) (w : World) (hsl : SlopesAt w w.heap.size sl m.slopes) (hcr : CraftsAt w w.heap.size cr m.crafts) :
    Calls Tryz.prog 5 #[.agg #[sl, cr, .int .i64 m.years, .int .i64 m.visit, .int .i64 m.hands]] w (AnyBool w) := by
  obtain ⟨sA, sc, rfl, _, hss⟩ := hsl
  obtain ⟨cA, cc, rfl, _, _⟩ := hcr
  have HSS := Lib.hid hss
  clear hss
  obtain ⟨w0, hw0⟩ : ∃ w0, w0 = w.alloc (.cells #[.slice sA m.slopes.length sc, .slice cA m.crafts.length cc, .int .i64 m.years, .int .i64 m.visit, .int .i64 m.hands] 25) := ⟨_, rfl⟩
  have z0 : w0.heap.size = w.heap.size + 1 := by rw [hw0]; simp
  have b0 : Below w.heap.size w w0 := by rw [hw0]; exact below1 _ _
  have g0 : w0.heap[w.heap.size]? = some (.cells #[.slice sA m.slopes.length sc, .slice cA m.crafts.length cc, .int .i64 m.years, .int .i64 m.visit, .int .i64 m.hands] 25 (0, 0)) := by rw [hw0]; exact heap_alloc_self _ _
  have x5 := blk5 g0
  obtain ⟨x0, x1, x2, x3, x4⟩ := x5
  have HX := Lib.hid (And.intro x0 (And.intro x1 (And.intro x2 (And.intro x3 x4))))
  have HW0 := Lib.hid hw0
  have HB0 := Lib.hid b0
  clear b0 g0
  have fin : ∀ g w', w' = w0 → AnyBool w (.returned (.bool g)) w' := fun g w' e => ⟨⟨g, rfl⟩, by rw [e]; exact HB0.out⟩
  have FIN := Lib.hid fin
  clear fin
  rw [hw0] at x0 x1 x2 x3 x4
  clear hw0
  generalize hsn : m.slopes.length = sn at *
  generalize m.crafts.length = cn at *
  generalize m.years = ys at *
  have HSN := Lib.hid hsn
  clear hsn
  go_enter Tryz.func5, Tryz.ntmps5
  by_cases a1 : (sn : Int) > 2
  · by_cases a2 : (sn : Int) ≤ 4
    · go_wp2_with fail
      go_ret
      exact FIN.out _ _ HW0.out.symm
    · by_cases a3 : (sn : Int) > 10
      · go_wp2_with fail
        go_ret
        exact FIN.out _ _ HW0.out.symm
      · by_cases b1 : (cn : Int) > 2
        · by_cases b2 : (cn : Int) ≤ 4
          · go_wp2_with fail
            go_ret
            exact FIN.out _ _ HW0.out.symm
          · by_cases b3 : (cn : Int) > 10
            · go_wp2_with fail
              go_ret
              exact FIN.out _ _ HW0.out.symm
            · by_cases c1 : ys > 8
              · by_cases c2 : ys ≤ 40
                · go_wp2_with fail
                  go_ret
                  exact FIN.out _ _ HW0.out.symm
                · go_wp2_with fail
                  rw [← HW0.out]
                  clear x0 x1 x2 x3 x4
                  obtain ⟨x0, x1, x2, x3, x4⟩ := HX.out
                  go_loop [3] (fun c => ∃ i : Nat, i ≤ sn ∧ c = .int .i64 (i : Int)) (fun c => sn - (intOf c).toNat)
                  case atStart => exact ⟨0, Nat.zero_le _, rfl⟩
                  case round =>
                    obtain ⟨i, hi, rfl⟩ := hrel
                    by_cases hlt : i < sn
                    · have hlt2 : i < m.slopes.length := by rw [HSN.out]; exact hlt
                      obtain ⟨b, o, rfl, hb, hc⟩ := HSS.out (by intro e; rw [e] at hlt2; simp at hlt2)
                      obtain ⟨t, ⟨tA, tc, rfl, _⟩, _, _, _, _, h4⟩ := hc i _ (List.getElem?_eq_getElem hlt2)
                      have h4' := (HB0.out.cell (p := ⟨b, o + i * 5 + 4, none⟩) hb).trans h4
                      have hil : (i : Int) < (sn : Int) := by omega
                      have hi0 : (0 : Int) ≤ (i : Int) := by omega
                      have hadd : IntKind.i64.wrap ((i : Int) + 1) = (i : Int) + 1 := IntWalk.i64_in _ (by omega)
                      clear hc h4
                      generalize m.slopes[i].takes.length = tn at *
                      by_cases ht : (tn : Int) > 30
                      · go_wp2_with fail
                        go_ret
                        exact FIN.out _ _ rfl
                      · go_wp2_with fail
                        go_round
                        case rel => exact ⟨i + 1, by omega, by go_num⟩
                        case measure => simp [intOf]; omega
                    · have hil : ¬ (i : Int) < (sn : Int) := by omega
                      go_wp2_with fail
                      go_ret
                      exact FIN.out _ _ rfl
              · go_wp2_with fail
                rw [← HW0.out]
                clear x0 x1 x2 x3 x4
                obtain ⟨x0, x1, x2, x3, x4⟩ := HX.out
                go_loop [3] (fun c => ∃ i : Nat, i ≤ sn ∧ c = .int .i64 (i : Int)) (fun c => sn - (intOf c).toNat)
                case atStart => exact ⟨0, Nat.zero_le _, rfl⟩
                case round =>
                  obtain ⟨i, hi, rfl⟩ := hrel
                  by_cases hlt : i < sn
                  · have hlt2 : i < m.slopes.length := by rw [HSN.out]; exact hlt
                    obtain ⟨b, o, rfl, hb, hc⟩ := HSS.out (by intro e; rw [e] at hlt2; simp at hlt2)
                    obtain ⟨t, ⟨tA, tc, rfl, _⟩, _, _, _, _, h4⟩ := hc i _ (List.getElem?_eq_getElem hlt2)
                    have h4' := (HB0.out.cell (p := ⟨b, o + i * 5 + 4, none⟩) hb).trans h4
                    have hil : (i : Int) < (sn : Int) := by omega
                    have hi0 : (0 : Int) ≤ (i : Int) := by omega
                    have hadd : IntKind.i64.wrap ((i : Int) + 1) = (i : Int) + 1 := IntWalk.i64_in _ (by omega)
                    clear hc h4
                    generalize m.slopes[i].takes.length = tn at *
                    by_cases ht : (tn : Int) > 30
                    · go_wp2_with fail
                      go_ret
                      exact FIN.out _ _ rfl
                    · go_wp2_with fail
                      go_round
                      case rel => exact ⟨i + 1, by omega, by go_num⟩
                      case measure => simp [intOf]; omega
                  · have hil : ¬ (i : Int) < (sn : Int) := by omega
                    go_wp2_with fail
                    go_ret
                    exact FIN.out _ _ rfl
        · have b3 : ¬ (cn : Int) > 10 := by omega
          by_cases c1 : ys > 8
          · by_cases c2 : ys ≤ 40
            · go_wp2_with fail
              go_ret
              exact FIN.out _ _ HW0.out.symm
            · go_wp2_with fail
              rw [← HW0.out]
              clear x0 x1 x2 x3 x4
              obtain ⟨x0, x1, x2, x3, x4⟩ := HX.out
              go_loop [3] (fun c => ∃ i : Nat, i ≤ sn ∧ c = .int .i64 (i : Int)) (fun c => sn - (intOf c).toNat)
              case atStart => exact ⟨0, Nat.zero_le _, rfl⟩
              case round =>
                obtain ⟨i, hi, rfl⟩ := hrel
                by_cases hlt : i < sn
                · have hlt2 : i < m.slopes.length := by rw [HSN.out]; exact hlt
                  obtain ⟨b, o, rfl, hb, hc⟩ := HSS.out (by intro e; rw [e] at hlt2; simp at hlt2)
                  obtain ⟨t, ⟨tA, tc, rfl, _⟩, _, _, _, _, h4⟩ := hc i _ (List.getElem?_eq_getElem hlt2)
                  have h4' := (HB0.out.cell (p := ⟨b, o + i * 5 + 4, none⟩) hb).trans h4
                  have hil : (i : Int) < (sn : Int) := by omega
                  have hi0 : (0 : Int) ≤ (i : Int) := by omega
                  have hadd : IntKind.i64.wrap ((i : Int) + 1) = (i : Int) + 1 := IntWalk.i64_in _ (by omega)
                  clear hc h4
                  generalize m.slopes[i].takes.length = tn at *
                  by_cases ht : (tn : Int) > 30
                  · go_wp2_with fail
                    go_ret
                    exact FIN.out _ _ rfl
                  · go_wp2_with fail
                    go_round
                    case rel => exact ⟨i + 1, by omega, by go_num⟩
                    case measure => simp [intOf]; omega
                · have hil : ¬ (i : Int) < (sn : Int) := by omega
                  go_wp2_with fail
                  go_ret
                  exact FIN.out _ _ rfl
          · go_wp2_with fail
            rw [← HW0.out]
            clear x0 x1 x2 x3 x4
            obtain ⟨x0, x1, x2, x3, x4⟩ := HX.out
            go_loop [3] (fun c => ∃ i : Nat, i ≤ sn ∧ c = .int .i64 (i : Int)) (fun c => sn - (intOf c).toNat)
            case atStart => exact ⟨0, Nat.zero_le _, rfl⟩
            case round =>
              obtain ⟨i, hi, rfl⟩ := hrel
              by_cases hlt : i < sn
              · have hlt2 : i < m.slopes.length := by rw [HSN.out]; exact hlt
                obtain ⟨b, o, rfl, hb, hc⟩ := HSS.out (by intro e; rw [e] at hlt2; simp at hlt2)
                obtain ⟨t, ⟨tA, tc, rfl, _⟩, _, _, _, _, h4⟩ := hc i _ (List.getElem?_eq_getElem hlt2)
                have h4' := (HB0.out.cell (p := ⟨b, o + i * 5 + 4, none⟩) hb).trans h4
                have hil : (i : Int) < (sn : Int) := by omega
                have hi0 : (0 : Int) ≤ (i : Int) := by omega
                have hadd : IntKind.i64.wrap ((i : Int) + 1) = (i : Int) + 1 := IntWalk.i64_in _ (by omega)
                clear hc h4
                generalize m.slopes[i].takes.length = tn at *
                by_cases ht : (tn : Int) > 30
                · go_wp2_with fail
                  go_ret
                  exact FIN.out _ _ rfl
                · go_wp2_with fail
                  go_round
                  case rel => exact ⟨i + 1, by omega, by go_num⟩
                  case measure => simp [intOf]; omega
              · have hil : ¬ (i : Int) < (sn : Int) := by omega
                go_wp2_with fail
                go_ret
                exact FIN.out _ _ rfl
  · have a3 : ¬ (sn : Int) > 10 := by omega
    by_cases b1 : (cn : Int) > 2
    · by_cases b2 : (cn : Int) ≤ 4
      · go_wp2_with fail
        go_ret
        exact FIN.out _ _ HW0.out.symm
      · by_cases b3 : (cn : Int) > 10
        · go_wp2_with fail
          go_ret
          exact FIN.out _ _ HW0.out.symm
        · by_cases c1 : ys > 8
          · by_cases c2 : ys ≤ 40
            · go_wp2_with fail
              go_ret
              exact FIN.out _ _ HW0.out.symm
            · go_wp2_with fail
              rw [← HW0.out]
              clear x0 x1 x2 x3 x4
              obtain ⟨x0, x1, x2, x3, x4⟩ := HX.out
              go_loop [3] (fun c => ∃ i : Nat, i ≤ sn ∧ c = .int .i64 (i : Int)) (fun c => sn - (intOf c).toNat)
              case atStart => exact ⟨0, Nat.zero_le _, rfl⟩
              case round =>
                obtain ⟨i, hi, rfl⟩ := hrel
                by_cases hlt : i < sn
                · have hlt2 : i < m.slopes.length := by rw [HSN.out]; exact hlt
                  obtain ⟨b, o, rfl, hb, hc⟩ := HSS.out (by intro e; rw [e] at hlt2; simp at hlt2)
                  obtain ⟨t, ⟨tA, tc, rfl, _⟩, _, _, _, _, h4⟩ := hc i _ (List.getElem?_eq_getElem hlt2)
                  have h4' := (HB0.out.cell (p := ⟨b, o + i * 5 + 4, none⟩) hb).trans h4
                  have hil : (i : Int) < (sn : Int) := by omega
                  have hi0 : (0 : Int) ≤ (i : Int) := by omega
                  have hadd : IntKind.i64.wrap ((i : Int) + 1) = (i : Int) + 1 := IntWalk.i64_in _ (by omega)
                  clear hc h4
                  generalize m.slopes[i].takes.length = tn at *
                  by_cases ht : (tn : Int) > 30
                  · go_wp2_with fail
                    go_ret
                    exact FIN.out _ _ rfl
                  · go_wp2_with fail
                    go_round
                    case rel => exact ⟨i + 1, by omega, by go_num⟩
                    case measure => simp [intOf]; omega
                · have hil : ¬ (i : Int) < (sn : Int) := by omega
                  go_wp2_with fail
                  go_ret
                  exact FIN.out _ _ rfl
          · go_wp2_with fail
            rw [← HW0.out]
            clear x0 x1 x2 x3 x4
            obtain ⟨x0, x1, x2, x3, x4⟩ := HX.out
            go_loop [3] (fun c => ∃ i : Nat, i ≤ sn ∧ c = .int .i64 (i : Int)) (fun c => sn - (intOf c).toNat)
            case atStart => exact ⟨0, Nat.zero_le _, rfl⟩
            case round =>
              obtain ⟨i, hi, rfl⟩ := hrel
              by_cases hlt : i < sn
              · have hlt2 : i < m.slopes.length := by rw [HSN.out]; exact hlt
                obtain ⟨b, o, rfl, hb, hc⟩ := HSS.out (by intro e; rw [e] at hlt2; simp at hlt2)
                obtain ⟨t, ⟨tA, tc, rfl, _⟩, _, _, _, _, h4⟩ := hc i _ (List.getElem?_eq_getElem hlt2)
                have h4' := (HB0.out.cell (p := ⟨b, o + i * 5 + 4, none⟩) hb).trans h4
                have hil : (i : Int) < (sn : Int) := by omega
                have hi0 : (0 : Int) ≤ (i : Int) := by omega
                have hadd : IntKind.i64.wrap ((i : Int) + 1) = (i : Int) + 1 := IntWalk.i64_in _ (by omega)
                clear hc h4
                generalize m.slopes[i].takes.length = tn at *
                by_cases ht : (tn : Int) > 30
                · go_wp2_with fail
                  go_ret
                  exact FIN.out _ _ rfl
                · go_wp2_with fail
                  go_round
                  case rel => exact ⟨i + 1, by omega, by go_num⟩
                  case measure => simp [intOf]; omega
              · have hil : ¬ (i : Int) < (sn : Int) := by omega
                go_wp2_with fail
                go_ret
                exact FIN.out _ _ rfl
    · have b3 : ¬ (cn : Int) > 10 := by omega
      by_cases c1 : ys > 8
      · by_cases c2 : ys ≤ 40
        · go_wp2_with fail
          go_ret
          exact FIN.out _ _ HW0.out.symm
        · go_wp2_with fail
          rw [← HW0.out]
          clear x0 x1 x2 x3 x4
          obtain ⟨x0, x1, x2, x3, x4⟩ := HX.out
          go_loop [3] (fun c => ∃ i : Nat, i ≤ sn ∧ c = .int .i64 (i : Int)) (fun c => sn - (intOf c).toNat)
          case atStart => exact ⟨0, Nat.zero_le _, rfl⟩
          case round =>
            obtain ⟨i, hi, rfl⟩ := hrel
            by_cases hlt : i < sn
            · have hlt2 : i < m.slopes.length := by rw [HSN.out]; exact hlt
              obtain ⟨b, o, rfl, hb, hc⟩ := HSS.out (by intro e; rw [e] at hlt2; simp at hlt2)
              obtain ⟨t, ⟨tA, tc, rfl, _⟩, _, _, _, _, h4⟩ := hc i _ (List.getElem?_eq_getElem hlt2)
              have h4' := (HB0.out.cell (p := ⟨b, o + i * 5 + 4, none⟩) hb).trans h4
              have hil : (i : Int) < (sn : Int) := by omega
              have hi0 : (0 : Int) ≤ (i : Int) := by omega
              have hadd : IntKind.i64.wrap ((i : Int) + 1) = (i : Int) + 1 := IntWalk.i64_in _ (by omega)
              clear hc h4
              generalize m.slopes[i].takes.length = tn at *
              by_cases ht : (tn : Int) > 30
              · go_wp2_with fail
                go_ret
                exact FIN.out _ _ rfl
              · go_wp2_with fail
                go_round
                case rel => exact ⟨i + 1, by omega, by go_num⟩
                case measure => simp [intOf]; omega
            · have hil : ¬ (i : Int) < (sn : Int) := by omega
              go_wp2_with fail
              go_ret
              exact FIN.out _ _ rfl
      · go_wp2_with fail
        rw [← HW0.out]
        clear x0 x1 x2 x3 x4
        obtain ⟨x0, x1, x2, x3, x4⟩ := HX.out
        go_loop [3] (fun c => ∃ i : Nat, i ≤ sn ∧ c = .int .i64 (i : Int)) (fun c => sn - (intOf c).toNat)
        case atStart => exact ⟨0, Nat.zero_le _, rfl⟩
        case round =>
          obtain ⟨i, hi, rfl⟩ := hrel
          by_cases hlt : i < sn
          · have hlt2 : i < m.slopes.length := by rw [HSN.out]; exact hlt
            obtain ⟨b, o, rfl, hb, hc⟩ := HSS.out (by intro e; rw [e] at hlt2; simp at hlt2)
            obtain ⟨t, ⟨tA, tc, rfl, _⟩, _, _, _, _, h4⟩ := hc i _ (List.getElem?_eq_getElem hlt2)
            have h4' := (HB0.out.cell (p := ⟨b, o + i * 5 + 4, none⟩) hb).trans h4
            have hil : (i : Int) < (sn : Int) := by omega
            have hi0 : (0 : Int) ≤ (i : Int) := by omega
            have hadd : IntKind.i64.wrap ((i : Int) + 1) = (i : Int) + 1 := IntWalk.i64_in _ (by omega)
            clear hc h4
            generalize m.slopes[i].takes.length = tn at *
            by_cases ht : (tn : Int) > 30
            · go_wp2_with fail
              go_ret
              exact FIN.out _ _ rfl
            · go_wp2_with fail
              go_round
              case rel => exact ⟨i + 1, by omega, by go_num⟩
              case measure => simp [intOf]; omega
          · have hil : ¬ (i : Int) < (sn : Int) := by omega
            go_wp2_with fail
            go_ret
            exact FIN.out _ _ rfl
end Go.Proofs.YtcbhldfipfcjaaaGreatDoor
