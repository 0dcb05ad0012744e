/- The chapter's example. -/
import Derived.Test.YtcbhldfipfcjaaaGreatDoorGr

namespace Go.Proofs.YtcbhldfipfcjaaaGreatDoor
open Go Go.RowKit Go.Shelf
set_option maxRecDepth 100000

def m0 : Wk := ⟨[⟨50, 30, 60, 2, [15]⟩], [⟨20, 7, false⟩, ⟨0, 30, true⟩], 3, 10, 1⟩
theorem ev_check : checkS m0 = 0 := by decide +kernel
theorem ev_follow : followS m0 [[-1], [-1], [-1]] = ([[35], [20]], 0, 1, 0) := by decide +kernel
theorem ev_cheap : cheapS m0 = ([[-1], [0], [0]], 48, true, 0) := by decide +kernel
theorem ev_least : leastS m0 1 [45] = (24, true, 0) := by decide +kernel
theorem ev_late : lateS m0 [[0], [-1], [0]] 0 0 = (1, 0) := by decide +kernel
def sorted0 : List St := [⟨0, 50, 0, 0, 0⟩, ⟨1, 35, 0, 0, 0⟩, ⟨1, 45, 0, 0, 0⟩, ⟨2, 30, 0, 0, 0⟩, ⟨2, 40, 0, 0, 0⟩, ⟨2, 45, 0, 0, 0⟩, ⟨3, 30, 0, 0, 0⟩, ⟨3, 35, 0, 0, 0⟩, ⟨3, 45, 0, 0, 0⟩]
theorem ev_perm : sorted0.Perm (allS m0 (firstS m0)) := by
  rw [List.perm_iff_count]
  intro a
  by_cases h : a ∈ sorted0
  · have : ∀ a ∈ sorted0, sorted0.count a = (allS m0 (firstS m0)).count a := by decide +kernel
    exact this a h
  · rw [List.count_eq_zero_of_not_mem h]
    have hsub : ∀ b ∈ allS m0 (firstS m0), b ∈ sorted0 := by decide +kernel
    exact (List.count_eq_zero_of_not_mem (fun h2 => h (hsub a h2))).symm
theorem ev_sorted : sortL (allS m0 (firstS m0)) = sorted0 :=
  sorted_unique (r := fun x y => !ltOf cmpS y x) (fun a b h1 h2 => ltS_total a b (by simpa using h2) (by simpa using h1)) ((List.mergeSort_perm _ _).trans ev_perm.symm) (sortL_sorted _) (by decide +kernel)
theorem ev_all : valuesS m0 = (worths m0 sorted0, 0) := by
  unfold valuesS
  rw [if_pos ev_check, if_neg (by decide +kernel), ev_sorted]
theorem ev_len : (worths m0 sorted0).length = 6 := by decide +kernel
theorem ev_proves : provesS m0 48 (worths m0 sorted0) = (true, 0) := by decide +kernel
theorem ev_proves2 : provesS m0 49 (worths m0 sorted0) = (false, 0) := by decide +kernel
end Go.Proofs.YtcbhldfipfcjaaaGreatDoor
