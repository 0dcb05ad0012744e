/- compare is a whole order; the list of states, sorted. -/
import Derived.Test.YtnbnhcoaggpmaaaMs
import Derived.Shelf.SlSortCmp.Insertion

namespace Go.Proofs.Ytnbnhcoaggpmaaa
open Go Go.RowKit Go.Shelf Go.Sort
set_option maxRecDepth 100000

/-! ### compare is a whole order -/
def lst (s : St) : List Int := [s.y, s.a, s.b, s.c, s.d]
theorem cmpS_lst (a b : St) : cmpS a b = lexI (lst a) (lst b) := rfl
theorem lst_inj {a b : St} (h : lst a = lst b) : a = b := by
  cases a; cases b
  simp [lst] at h
  simp [h]
theorem cmpI_lt {x y : Int} : cmpI x y < 0 ↔ x < y := by
  unfold cmpI
  split
  · omega
  · split <;> omega
theorem cmpI_flip (x y : Int) : cmpI y x = - cmpI x y := by
  unfold cmpI
  split <;> split <;> first | omega | (split <;> omega) | rfl
theorem lexI_flip : ∀ xs ys : List Int, lexI ys xs = - lexI xs ys
  | [], [] => rfl
  | [], _ :: _ => rfl
  | _ :: _, [] => rfl
  | x :: xs, y :: ys => by
    simp only [lexI, cmpI_flip x y, lexI_flip xs ys]
    by_cases h : cmpI x y = 0 <;> simp [h]
theorem lexI_zero : ∀ xs ys : List Int, xs.length = ys.length → lexI xs ys = 0 → xs = ys
  | [], [], _, _ => rfl
  | x :: xs, y :: ys, hl, h => by
    simp only [lexI] at h
    by_cases hc : cmpI x y = 0
    · rw [if_pos hc] at h
      rw [cmpI_eq hc, lexI_zero xs ys (by simpa using hl) h]
    · rw [if_neg hc] at h; exact absurd h hc
  | [], _ :: _, hl, _ => by simp at hl
  | _ :: _, [], hl, _ => by simp at hl
theorem lexI_trans : ∀ xs ys zs : List Int, lexI xs ys < 0 → lexI ys zs < 0 → lexI xs zs < 0
  | [], _, _, h, _ => by simp [lexI] at h
  | _ :: _, [], _, h, _ => by simp [lexI] at h
  | _ :: _, _ :: _, [], _, k => by simp [lexI] at k
  | x :: xs, y :: ys, z :: zs, h, k => by
    simp only [lexI] at h k ⊢
    by_cases h1 : cmpI x y = 0
    · have := cmpI_eq h1
      subst this
      rw [if_pos h1] at h
      by_cases h2 : cmpI x z = 0
      · rw [if_pos h2] at k ⊢
        exact lexI_trans xs ys zs h k
      · rw [if_neg h2] at k ⊢
        exact k
    · rw [if_neg h1] at h
      by_cases h2 : cmpI y z = 0
      · have := cmpI_eq h2
        subst this
        rw [if_neg h1]; exact h
      · rw [if_neg h2] at k
        have a1 := cmpI_lt.1 h
        have a2 := cmpI_lt.1 k
        have a3 : cmpI x z < 0 := cmpI_lt.2 (by omega)
        rw [if_neg (by omega)]; exact a3
theorem ltS (a b : St) : ltOf cmpS a b = decide (lexI (lst a) (lst b) < 0) := rfl
theorem ltS_total (a b : St) (h1 : ltOf cmpS a b = false) (h2 : ltOf cmpS b a = false) : a = b := by
  rw [ltS, decide_eq_false_iff_not] at h1 h2
  rw [lexI_flip] at h2
  exact lst_inj (lexI_zero _ _ rfl (by omega))
theorem swoS : SWO (ltOf cmpS) where
  irrefl x := by rw [ltS, lexI_self]; rfl
  trans x y z h1 h2 := by
    rw [ltS, decide_eq_true_eq] at *
    exact lexI_trans _ _ _ h1 h2
  ntrans x y z h1 h2 := by
    cases h : ltOf cmpS x z with
    | false => rfl
    | true =>
      rw [ltS, decide_eq_true_eq] at h
      by_cases hz : ltOf cmpS z y = true
      · rw [ltS, decide_eq_true_eq] at hz
        have := lexI_trans _ _ _ h hz
        rw [ltS, decide_eq_false_iff_not] at h1
        exact absurd this h1
      · have e := ltS_total y z h2 (by simpa using hz)
        subst e
        rw [ltS, decide_eq_false_iff_not] at h1
        exact absurd h h1

/-! ### The row, sorted -/
def sortL (L : List St) : List St := L.mergeSort fun x y => !ltOf cmpS y x
end Go.Proofs.Ytnbnhcoaggpmaaa
