/- Check. -/
import Derived.Test.YtnbnhcoaggpmaaaMs

namespace Go.Proofs.Ytnbnhcoaggpmaaa
open Go Go.RowKit Go.Shelf
set_option maxRecDepth 100000

/-- Is n out of lo .. hi? -/
def outB (n lo hi : Int) : Bool := !(decide (lo ≤ n) && decide (n ≤ hi))
def slopeBad (s : Slope) : Bool := outB s.full 1 1000 || outB s.need 0 s.full || outB s.now 0 s.full || outB s.size 1 1000
def takesBad (l : List Int) : Bool := l.any fun t => outB t 0 500
def slopeE (s : Slope) : Int := if slopeBad s then 1 else if 12 < s.takes.length then 3 else if takesBad s.takes then 1 else 0
def craftBad (c : Craft) : Bool := outB c.price 0 10000 || outB c.add 0 1000 || (c.strip && decide (c.add ≠ 0))
def restBad (m : Wk) : Bool := outB m.years 0 40 || outB m.visit 0 1000000 || outB m.hands 0 4
/-- The first error of works. -/
def checkS (m : Wk) : Int :=
  if 4 < m.slopes.length then 3 else if m.slopes.length = 0 then 1 else
  if orL (m.slopes.map slopeE) = 0 then (if 4 < m.crafts.length then 3 else if m.crafts.any craftBad then 1 else if restBad m then 1 else 0) else orL (m.slopes.map slopeE)

theorem outB_false {n lo hi : Int} : outB n lo hi = false ↔ lo ≤ n ∧ n ≤ hi := by simp [outB]
theorem slopeE_ok {s : Slope} (h : slopeE s = 0) : SlopeOk s := by
  unfold slopeE at h
  split at h
  · omega
  · rename_i hb
    split at h
    · omega
    · rename_i hl
      split at h
      · omega
      · rename_i ht
        simp only [slopeBad, Bool.not_eq_true, Bool.or_eq_false_iff, outB_false] at hb
        obtain ⟨⟨⟨h1, h2⟩, h3⟩, h4⟩ := hb
        refine ⟨h1, h2, h3, h4, by omega, fun t hm => ?_⟩
        simp only [takesBad, Bool.not_eq_true, List.any_eq_false] at ht
        exact outB_false.1 (by simpa using ht t hm)
theorem craft_ok {c : Craft} (h : craftBad c = false) : CraftOk c := by
  simp only [craftBad, Bool.or_eq_false_iff, outB_false] at h
  obtain ⟨⟨h1, h2⟩, h3⟩ := h
  refine ⟨h1, h2, fun hs => ?_⟩
  simpa [hs] using h3
theorem orL_zero : ∀ {l : List Int}, orL l = 0 → ∀ x ∈ l, x = 0
  | [], _, x, hx => by simp at hx
  | y :: l, h, x, hx => by
    simp only [orL] at h
    by_cases hy : y = 0
    · rw [if_pos hy] at h
      rcases List.mem_cons.1 hx with rfl | hx
      · exact hy
      · exact orL_zero h x hx
    · rw [if_neg hy] at h; exact absurd h hy
/-- What has no error is within bounds. -/
theorem checkS_ok {m : Wk} (h : checkS m = 0) : m.Ok := by
  unfold checkS at h
  split at h
  · omega
  · rename_i h1
    split at h
    · omega
    · rename_i h2
      split at h
      · rename_i h3
        split at h
        · omega
        · rename_i h4
          split at h
          · omega
          · rename_i h5
            split at h
            · omega
            · rename_i h6
              simp only [restBad, Bool.not_eq_true, Bool.or_eq_false_iff, outB_false] at h6
              obtain ⟨⟨h7, h8⟩, h9⟩ := h6
              refine ⟨by omega, by omega, fun s hs => slopeE_ok (orL_zero h3 _ (List.mem_map_of_mem hs)), by omega, fun c hc => ?_, h7, h8, h9⟩
              simp only [Bool.not_eq_true, List.any_eq_false] at h5
              exact craft_ok (by simpa using h5 c hc)
      · rename_i h3
        exact absurd h h3

theorem in_calls' (n lo hi : Int) (w : World) : Calls Try.prog 50 #[.int .i64 n, .int .i64 lo, .int .i64 hi] w fun e w' => e = .returned (.bool (!outB n lo hi)) ∧ w' = w := by
  have h := in_calls n lo hi w
  have e : (!outB n lo hi) = (decide (lo ≤ n) && decide (n ≤ hi)) := by simp [outB]
  rw [e]; exact h

end Go.Proofs.Ytnbnhcoaggpmaaa
