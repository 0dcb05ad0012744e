/- The cheapest plan, plainly: no plan that keeps all costs less; of those that cost as much it is the first. -/
import Derived.Test.YtnbnhcoaggpmaaaPb

namespace Go.Proofs.Ytnbnhcoaggpmaaa
open Go Go.RowKit Go.Shelf
set_option maxRecDepth 100000

theorem unval_onto (c : Nat) : ∀ (n : Nat) (row : List Int), row.length = n → (∀ x ∈ row, -1 ≤ x ∧ x < c) → ∃ k, k < (c + 1) ^ n ∧ unval c n k = row
  | 0, row, hl, _ => ⟨0, by simp, by rw [List.length_eq_zero_iff.1 hl]; rfl⟩
  | n + 1, row, hl, hx => by
    rcases List.eq_nil_or_concat row with rfl | ⟨r, x, rfl⟩
    · simp at hl
    · obtain ⟨k, hk, he⟩ := unval_onto c n r (by simpa using hl) (fun y hy => hx y (by simp [hy]))
      have h1 := hx x (by simp)
      obtain ⟨d, hd⟩ : ∃ d : Nat, x + 1 = d := ⟨(x + 1).toNat, by omega⟩
      have hdc : d < c + 1 := by omega
      refine ⟨k * (c + 1) + d, ?_, ?_⟩
      · rw [Nat.pow_succ]
        calc k * (c + 1) + d < k * (c + 1) + (c + 1) := by omega
          _ = (k + 1) * (c + 1) := by rw [Nat.add_mul]; omega
          _ ≤ (c + 1) ^ n * (c + 1) := Nat.mul_le_mul_right _ hk
      · rw [unval, show (k * (c + 1) + d) / (c + 1) = k by rw [Nat.mul_comm, Nat.mul_add_div (by omega), Nat.div_eq_of_lt hdc]; simp, show (k * (c + 1) + d) % (c + 1) = d by rw [Nat.mul_comm, Nat.mul_add_mod, Nat.mod_eq_of_lt hdc], he]
        simp
        omega
theorem row_mem {m : Wk} {row : List Int} (h : mayS m row = true) : row ∈ rowsS m := by
  have hro := may_ok h
  obtain ⟨k, hk, he⟩ := unval_onto m.crafts.length m.slopes.length row hro.len hro.each
  unfold rowsS rowsTo
  rw [List.mem_filter, List.mem_map]
  exact ⟨⟨k, by simpa [rowsN] using hk, he⟩, h⟩

/-- One row is less than another: at the first place where they differ. -/
def LexLt (a b : List Int) : Prop := ∃ i, i < a.length ∧ i < b.length ∧ a.take i = b.take i ∧ a.getD i 0 < b.getD i 0
theorem LexLt.at_ {a b : List Int} (h : LexLt a b) {i : Nat} (ht : a.take i = b.take i) (hne : a.getD i 0 ≠ b.getD i 0) : a.getD i 0 < b.getD i 0 := by
  obtain ⟨j, hj, hj2, hjt, hlt⟩ := h
  have key : ∀ {p q : Nat}, p < q → a.take q = b.take q → a.getD p 0 = b.getD p 0 := fun {p q} hpq h => by
    have : (a.take q)[p]? = (b.take q)[p]? := by rw [h]
    rw [List.getElem?_take, List.getElem?_take, if_pos hpq, if_pos hpq] at this
    rw [List.getD_eq_getElem?_getD, List.getD_eq_getElem?_getD, this]
  rcases Nat.lt_trichotomy i j with h1 | h1 | h1
  · exact absurd (key h1 hjt) hne
  · subst h1; exact hlt
  · have := key h1 ht
    omega
theorem lexLt_append {a b : List Int} (h : LexLt a b) (x y : List Int) : LexLt (a ++ x) (b ++ y) := by
  obtain ⟨j, hj, hj2, hjt, hlt⟩ := h
  refine ⟨j, by rw [List.length_append]; omega, by rw [List.length_append]; omega, by rw [List.take_append_of_le_length (by omega), List.take_append_of_le_length (by omega)]; exact hjt, ?_⟩
  rw [List.getD_eq_getElem?_getD, List.getD_eq_getElem?_getD, List.getElem?_append_left hj, List.getElem?_append_left hj2, ← List.getD_eq_getElem?_getD, ← List.getD_eq_getElem?_getD]
  exact hlt
theorem unval_lt (c : Nat) : ∀ (n k k' : Nat), k < k' → k' < (c + 1) ^ n → LexLt (unval c n k) (unval c n k')
  | 0, k, k', h, h' => by simp at h'; omega
  | n + 1, k, k', h, h' => by
    rw [unval, unval]
    have hd : k / (c + 1) ≤ k' / (c + 1) := Nat.div_le_div_right (by omega)
    rcases Nat.lt_or_eq_of_le hd with h1 | h1
    · exact lexLt_append (unval_lt c n _ _ h1 (by rw [Nat.pow_succ] at h'; exact Nat.div_lt_of_lt_mul (by rw [Nat.mul_comm]; exact h'))) _ _
    · rw [h1]
      have hl := unval_length c n (k' / (c + 1))
      refine ⟨n, by simp [hl], by simp [hl], by rw [List.take_append_of_le_length (by omega), List.take_append_of_le_length (by omega)], ?_⟩
      rw [List.getD_eq_getElem?_getD, List.getD_eq_getElem?_getD, List.getElem?_append_right (by omega), List.getElem?_append_right (by omega), hl]
      have e1 := Nat.div_add_mod k (c + 1)
      have e2 := Nat.div_add_mod k' (c + 1)
      rw [h1] at e1
      simp only [Nat.sub_self, List.getElem?_cons_zero, Option.getD_some]
      have hlt : k % (c + 1) < k' % (c + 1) := by omega
      omega
theorem rowsS_sorted (m : Wk) : (rowsS m).Pairwise LexLt := by
  unfold rowsS rowsTo
  refine List.Pairwise.filter _ ?_
  rw [List.pairwise_map]
  refine (List.pairwise_lt_range (n := rowsN m)).imp_of_mem ?_
  intro a b _ hb hab
  exact unval_lt _ _ _ _ hab (by simpa [rowsN] using hb)
theorem pick_least {m : Wk} {s : St} {p r : List Int} (hp : pickS m s = some p) (hr : r ∈ rowsS m) (hb : isBest m s r = true) : p = r ∨ LexLt p r := by
  unfold pickS at hp
  rw [List.find?_eq_some_iff_append] at hp
  obtain ⟨_, l1, l2, e, has⟩ := hp
  have hs := rowsS_sorted m
  rw [e] at hr hs
  rcases List.mem_append.1 hr with h | h
  · have := has r h
    rw [hb] at this
    cases this
  · rcases List.mem_cons.1 h with h | h
    · exact .inl h.symm
    · rw [List.pairwise_append, List.pairwise_cons] at hs
      exact .inr (hs.2.1.1 r h)

/-- A plan that may be and keeps all slopes costs at least what the state costs. -/
theorem plan_upper {m : Wk} {plan : List (List Int)} (hp : planOk m plan = true) (hk : ∀ j < plan.length, keptIn m plan j = true) : ∀ k, k ≤ plan.length → valS m (firstS m) ≤ costPl m plan k + valS m (stAt m plan k)
  | 0, _ => by rw [stAt_zero]; simp [costPl]
  | k + 1, h => by
    have h1 := plan_upper hp hk k (by omega)
    have hl : k < plan.length := by omega
    have h2 := hk k hl
    unfold keptIn at h2
    rw [getD_lt hl] at h2
    have h3 := valS_le (s := stAt m plan k) (by rw [stAt_y m plan k (by omega)]; have := planOk_len hp; omega) (row_mem (planOk_row hp hl)) h2
    rw [costPl_succ m hl, stAt_succ m hl]
    omega
theorem plan_end {m : Wk} {plan : List (List Int)} (hp : planOk m plan = true) : valS m (stAt m plan plan.length) = 0 := by
  refine valS_end ?_
  rw [stAt_y m plan _ (Nat.le_refl _)]
  have := planOk_len hp
  omega
theorem plan_ge {m : Wk} {plan : List (List Int)} (hp : planOk m plan = true) (hk : ∀ j < plan.length, keptIn m plan j = true) : valS m (firstS m) ≤ costPl m plan plan.length := by
  have := plan_upper hp hk plan.length (Nat.le_refl _)
  rw [plan_end hp] at this
  omega
/-- From any year on. -/
theorem plan_rest {m : Wk} {plan : List (List Int)} (hp : planOk m plan = true) (hk : ∀ j < plan.length, keptIn m plan j = true) : ∀ d k, k + d = plan.length → valS m (stAt m plan k) ≤ costPl m plan plan.length - costPl m plan k
  | 0, k, h => by
    obtain rfl : k = plan.length := by omega
    rw [plan_end hp]; omega
  | d + 1, k, h => by
    have h1 := plan_rest hp hk d (k + 1) (by omega)
    have hl : k < plan.length := by omega
    have h2 := hk k hl
    unfold keptIn at h2
    rw [getD_lt hl] at h2
    have h3 := valS_le (s := stAt m plan k) (by rw [stAt_y m plan k (by omega)]; have := planOk_len hp; omega) (row_mem (planOk_row hp hl)) h2
    rw [costPl_succ m hl, stAt_succ m hl] at h1
    omega
theorem plan_best {m : Wk} {plan : List (List Int)} (hp : planOk m plan = true) (hk : ∀ j < plan.length, keptIn m plan j = true) (he : costPl m plan plan.length = valS m (firstS m)) {k : Nat} (hl : k < plan.length) : isBest m (stAt m plan k) plan[k] = true := by
  have h2 := hk k hl
  unfold keptIn at h2
  rw [getD_lt hl] at h2
  rw [isBest_spec]
  refine ⟨h2, ?_⟩
  have a1 := plan_upper hp hk k (by omega)
  have a2 := plan_upper hp hk (k + 1) hl
  have a3 := plan_rest hp hk (plan.length - k) k (by omega)
  have a4 := plan_rest hp hk (plan.length - (k + 1)) (k + 1) (by omega)
  rw [costPl_succ m hl, stAt_succ m hl] at a2 a4
  omega
theorem same_state {m : Wk} {plan : List (List Int)} (hm : m.Ok) (hv : valS m (firstS m) < 2000000000) (hlen : (plan.length : Int) = m.years) : ∀ y, y ≤ plan.length → (∀ j, j < y → plan[j]? = some (pkS m j)) → stAt m plan y = chS m y
  | 0, _, _ => rfl
  | y + 1, h, he => by
    have ih := same_state hm hv hlen y (by omega) (fun j hj => he j (by omega))
    have hl : y < plan.length := by omega
    have h1 := he y (by omega)
    rw [List.getElem?_eq_getElem hl] at h1
    have hc := chS_pick (chS_ok hm hv y (by omega)) (by omega)
    rw [stAt_succ m hl, ih, hc.2.2.2.2, show plan[y] = pkS m y by simpa using h1]
/-- At the first place where another cheapest plan differs, it does more. -/
theorem cheap_first {m : Wk} (hm : m.Ok) {plan : List (List Int)} (hv : valS m (firstS m) < 2000000000) (hp : planOk m plan = true) (hk : ∀ j < plan.length, keptIn m plan j = true) (he : costPl m plan plan.length = valS m (firstS m))
    {y : Nat} (hy : y < plan.length) (hs : ∀ j, j < y → plan[j]? = some (pkS m j)) {i : Nat} (hi : i < (pkS m y).length) (ht : (pkS m y).take i = plan[y].take i) (hne : (pkS m y).getD i 0 ≠ plan[y].getD i 0) : (pkS m y).getD i 0 < plan[y].getD i 0 := by
  have hlen := planOk_len hp
  have hst := same_state hm hv hlen y (by omega) hs
  have hb := plan_best hp hk he hy
  rw [hst] at hb
  have hc := chS_pick (chS_ok hm hv y (by omega)) (by omega)
  rcases pick_least hc.1 (row_mem (planOk_row hp hy)) hb with h | h
  · rw [h] at hne; exact absurd rfl hne
  · exact h.at_ ht hne
theorem followS_fine {m : Wk} {plan : List (List Int)} (h : (followS m plan).2.2.2 = 0) (ha : ¬ (followS m plan).2.2.1 ≥ 0) : checkS m = 0 ∧ planOk m plan = true ∧ (∀ j < plan.length, keptIn m plan j = true) ∧ (followS m plan).2.1 = costPl m plan plan.length := by
  obtain ⟨hc, hp⟩ := followS_ok h
  refine ⟨hc, hp, ?_⟩
  unfold followS at ha ⊢
  rw [if_pos hc, if_pos hp] at ha ⊢
  cases hf : firstBad m plan with
  | some k => rw [hf] at ha; exact absurd (by simp) ha
  | none =>
    refine ⟨fun j hj => ?_, rfl⟩
    unfold firstBad at hf
    rw [List.find?_eq_none] at hf
    have := hf j (by simpa using hj)
    simpa using this
theorem cheapS_fine {m : Wk} (h : (cheapS m).2.2.2 = 0) (hf : (cheapS m).2.2.1 = true) : checkS m = 0 ∧ (allS m (firstS m)).length ≤ 2000 ∧ valS m (firstS m) < 2000000000 ∧ cheapS m = (planS m, valS m (firstS m), true, 0) := by
  unfold cheapS at h hf ⊢
  by_cases hc : checkS m = 0
  · rw [if_pos hc] at h hf ⊢
    by_cases hl : 2000 < (allS m (firstS m)).length
    · rw [if_pos hl] at h; cases h
    · rw [if_neg hl] at h hf ⊢
      by_cases hv : 2000000000 ≤ valS m (firstS m)
      · rw [if_pos hv] at hf; cases hf
      · rw [if_neg hv]
        exact ⟨hc, by omega, by omega, rfl⟩
  · rw [if_neg hc] at hf; cases hf
end Go.Proofs.Ytnbnhcoaggpmaaa
