/- Works of the examples. -/
import Derived.Test.YtcbhldfipfcjaaaGreatDoorEv

namespace Go.Proofs.YtcbhldfipfcjaaaGreatDoor
open Go Go.RowKit Go.Shelf
set_option maxRecDepth 100000

def WorksPost (w : World) (e : Ending) (w' : World) : Prop :=
  ∃ sl cr, e = .returned (.agg #[sl, cr, .int .i64 3, .int .i64 10, .int .i64 1]) ∧ SlopesAt w' w'.heap.size sl m0.slopes ∧ CraftsAt w' w'.heap.size cr m0.crafts ∧ Below w.heap.size w w'
set_option maxHeartbeats 1000000 in
theorem works_calls (w : World) : Calls Tryz.prog 12 #[] w (WorksPost w) := by
  go_enter Tryz.func12, Tryz.ntmps12
  go_wp2_with fail
  obtain ⟨W, hW⟩ : ∃ W, W = (((w.alloc (.cells #[.slice (some ⟨w.heap.size + 1 + 1, 0, none⟩) 1 1, .slice (some ⟨w.heap.size + 1 + 1 + 1, 0, none⟩) 2 2, .int .i64 3, .int .i64 10, .int .i64 1] 25)).alloc (.cells #[.int .i64 15] 3)).alloc (.cells #[.int .i64 50, .int .i64 30, .int .i64 60, .int .i64 2, .slice (some ⟨w.heap.size + 1, 0, none⟩) 1 1] 37)).alloc (.cells #[.int .i64 20, .int .i64 7, .bool false, .int .i64 0, .int .i64 30, .bool true] 67) := ⟨_, rfl⟩
  rw [← hW]
  have z : W.heap.size = w.heap.size + 4 := by rw [hW]; simp
  have g0 : W.heap[w.heap.size]? = some (.cells #[.slice (some ⟨w.heap.size + 1 + 1, 0, none⟩) 1 1, .slice (some ⟨w.heap.size + 1 + 1 + 1, 0, none⟩) 2 2, .int .i64 3, .int .i64 10, .int .i64 1] 25 (0, 0)) := by
    rw [hW]; exact (Below.heap_alloc _ _ _ (by simp <;> omega)).trans ((Below.heap_alloc _ _ _ (by simp <;> omega)).trans ((Below.heap_alloc _ _ _ (by simp)).trans (heap_alloc_self _ _)))
  have g1 : W.heap[w.heap.size + 1]? = some (.cells #[.int .i64 15] 3 (0, 0)) := by
    rw [hW]; exact (Below.heap_alloc _ _ _ (by simp <;> omega)).trans ((Below.heap_alloc _ _ _ (by simp)).trans (by simpa using heap_alloc_self (w.alloc _) _))
  have g2 : W.heap[w.heap.size + 1 + 1]? = some (.cells #[.int .i64 50, .int .i64 30, .int .i64 60, .int .i64 2, .slice (some ⟨w.heap.size + 1, 0, none⟩) 1 1] 37 (0, 0)) := by
    rw [hW]; exact (Below.heap_alloc _ _ _ (by simp)).trans (by simpa using heap_alloc_self ((w.alloc _).alloc _) _)
  have g3 : W.heap[w.heap.size + 1 + 1 + 1]? = some (.cells #[.int .i64 20, .int .i64 7, .bool false, .int .i64 0, .int .i64 30, .bool true] 67 (0, 0)) := by
    rw [hW]; simpa using heap_alloc_self (((w.alloc _).alloc _).alloc _) _
  have hb : Below w.heap.size w W := by rw [hW]; exact (((below1 _ _).alloc (by simp) _).alloc (by simp <;> omega) _).alloc (by simp <;> omega) _
  clear hW
  obtain ⟨c0, c1, c2, c3, c4⟩ := blk5 g0
  obtain ⟨d0, d1, d2, d3, d4⟩ := blk5 g2
  have e : ∀ i, W.cell? ⟨w.heap.size + 1 + 1 + 1, i, none⟩ = _ := fun i => cell_blk g3 i
  have e1 : W.cell? ⟨w.heap.size + 1, 0, none⟩ = some (.int .i64 15) := by rw [cell_blk g1]; rfl
  refine bodyPost_ret (v := .agg #[.slice (some ⟨w.heap.size + 1 + 1, 0, none⟩) 1 1, .slice (some ⟨w.heap.size + 1 + 1 + 1, 0, none⟩) 2 2, .int .i64 3, .int .i64 10, .int .i64 1]) ?_ rfl ⟨_, _, rfl, ?_, ?_, hb⟩
  · simp [results, Tryz.results12, go_sem, c0, c1, c2, c3, c4]
  · refine ⟨_, 1, rfl, by simp [m0], fun _ => ⟨_, 0, rfl, by omega, fun i s hs => ?_⟩⟩
    match i, hs with
    | 0, hs =>
      simp [m0] at hs
      subst hs
      refine ⟨.slice (some ⟨w.heap.size + 1, 0, none⟩) 1 1, ⟨_, 1, rfl, by simp, fun _ => ⟨_, 0, rfl, by omega, fun j u hu => ?_⟩⟩, d0, d1, d2, d3, d4⟩
      match j, hu with
      | 0, hu => simp at hu; subst hu; exact e1
      | j + 1, hu => simp at hu
    | i + 1, hs => simp [m0] at hs
  · refine ⟨_, 2, rfl, by simp [m0], fun _ => ⟨_, 0, rfl, by omega, fun i s hs => ?_⟩⟩
    match i, hs with
    | 0, hs => simp [m0] at hs; subst hs; exact ⟨e 0, e 1, e 2⟩
    | 1, hs => simp [m0] at hs; subst hs; exact ⟨e 3, e 4, e 5⟩
    | i + 2, hs => simp [m0] at hs
end Go.Proofs.YtcbhldfipfcjaaaGreatDoor
