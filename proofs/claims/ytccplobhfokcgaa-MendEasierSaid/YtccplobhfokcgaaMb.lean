/- may, cost and step of package mend. -/
import Derived.Test.YtccplobhfokcgaaMa
namespace Go.Proofs.Ytccplobhfokcgaa
open Go Go.RowKit Go.Shelf
set_option maxRecDepth 100000

theorem may_calls (m : Wk) (sA cA mA rA : Option Addr) (sc cn cc mc rc : Nat) (row : List Int) (w : World)
    (hr : RowC w w.heap.size rA (row.map (Value.int .i64))) (hm : m.crafts.length ≤ 1000) (hs : m.slopes.length ≤ 1000) :
    Calls Try.prog 63 #[.agg #[.slice sA m.slopes.length sc, .slice cA cn cc, .int .i64 m.years, .int .i64 m.visit, .int .i64 m.hands, .slice mA m.crafts.length mc], .slice rA row.length rc] w
      fun e w' => e = .returned (.bool (mayS m row)) ∧ Below w.heap.size w w' := by
  have hl := hr.1
  simp only [List.length_map] at hl
  have hd : mayS m row = (row.all (fun n => decide (-1 ≤ n) && decide (n ≤ m.crafts.length - 1)) && decide (row.length = m.slopes.length) && decide ((row.countP (fun n => decide (0 ≤ n)) : Int) ≤ m.hands)) := rfl
  have HD := Lib.hid hd; clear hd
  generalize mayS m row = res at *
  generalize m.crafts.length = mn at *
  generalize m.slopes.length = sn at *
  generalize m.years = years at *
  generalize m.visit = visit at *
  generalize m.hands = hands at *
  go_enter Try.func63, Try.ntmps63
  go_wp2_with fail
  go_loop [5, 10] (fun h i => ∃ k : Nat, k ≤ row.length ∧ i = .int .i64 k ∧ (row.take k).all (fun n => decide (-1 ≤ n) && decide (n ≤ mn - 1)) = true ∧ h = .int .i64 ((row.take k).countP (fun n => decide (0 ≤ n)) : Nat)) (fun _ i => row.length - (intOf i).toNat)
  case atStart => exact ⟨0, Nat.zero_le _, rfl, rfl, rfl⟩
  case round =>
    obtain ⟨k, hk, rfl, hall, rfl⟩ := hrel
    by_cases hlt : k < row.length
    · obtain ⟨b, o, rfl, hb, hk1⟩ := hr.at_ k (by simpa using hlt)
      simp only [List.getElem_map] at hk1
      have hts : row.take (k + 1) = row.take k ++ [row[k]] := by rw [List.take_succ_eq_append_getElem hlt]
      have HT := Lib.hid hts; clear hts
      have hcp : (row.take k).countP (fun n => decide (0 ≤ n)) ≤ k := Nat.le_trans List.countP_le_length (by simp; omega)
      clear hr
      have hmem : row[k] ∈ row := List.getElem_mem hlt
      generalize row[k] = x at *
      have HA := Lib.hid hall; clear hall
      have HM := Lib.hid hmem; clear hmem
      go_wp2_with (go_at_call 48; refine (in_calls _ _ _ _).mono ?_; rintro e w' ⟨rfl, rfl⟩)
      · have h1 : (!decide (-1 ≤ x)) = true ∨ (!decide (x ≤ (mn : Int) - 1)) = true := by assumption
        go_ret
        refine ⟨?_, below1 _ _⟩
        rw [HD.out]
        have : row.all (fun n => decide (-1 ≤ n) && decide (n ≤ (mn : Int) - 1)) = false := by
          rw [List.all_eq_false]
          exact ⟨x, HM.out, by simp at h1 ⊢; omega⟩
        simp [this]
      all_goals
        have h1 : (!decide (-1 ≤ x)) = false ∧ (!decide (x ≤ (mn : Int) - 1)) = false := by assumption
        go_round
        case rel => exact ⟨k + 1, by omega, by go_num, by rw [HT.out]; simp [HA.out]; simpa using h1, by rw [HT.out, List.countP_append]; simp [*]⟩
        case measure => simp [intOf]; omega
    · obtain rfl : k = row.length := by omega
      rw [List.take_length] at *
      have HA := Lib.hid hall; clear hall
      generalize hcq : List.countP (fun n => decide (0 ≤ n)) row = cq at *
      have HC := Lib.hid hcq; clear hcq
      by_cases he : row.length = sn
      all_goals
        go_wp2_with fail
        go_ret
        refine ⟨?_, below1 _ _⟩
        rw [HD.out, HA.out]
        simp [he]
end Go.Proofs.Ytccplobhfokcgaa
