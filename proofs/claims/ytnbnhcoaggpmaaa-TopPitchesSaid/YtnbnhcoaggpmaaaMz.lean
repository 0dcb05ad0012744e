/- Slices of slices that a call makes; what a plan leaves, as plain functions. -/
import Derived.Test.YtnbnhcoaggpmaaaMx

namespace Go.Proofs.Ytnbnhcoaggpmaaa
open Go Go.RowKit Go.Shelf
set_option maxRecDepth 100000

/-- A slice of slices of whole numbers of the call's own. -/
def OwnRows (w : World) (B : Nat) (v : Value) (xss : List (List Int)) : Prop := ∃ vs, w.ownsRow B 41 1 v xss.length vs ∧
  ∀ (i : Nat) (xs : List Int), xss[i]? = some xs → ∃ u, vs[i]? = some u ∧ w.ownsRow B 3 1 u xs.length (xs.map (Value.int .i64))
theorem OwnRows.nil (w : World) (B : Nat) : OwnRows w B (.slice none 0 0) [] := ⟨[], ⟨rfl, .inl ⟨rfl, rfl⟩⟩, fun i xs h => by simp at h⟩
theorem OwnRows.below {w w' : World} {B : Nat} {v : Value} {xss : List (List Int)} (h : OwnRows w B v xss) (hb : Below w.heap.size w w') : OwnRows w' B v xss := by
  obtain ⟨vs, h1, h2⟩ := h
  refine ⟨vs, own_below h1 hb (fun k hk => (own_blk_lt h1 k hk).2), fun i xs hx => ?_⟩
  obtain ⟨u, hu, h3⟩ := h2 i xs hx
  exact ⟨u, hu, own_below h3 hb (fun k hk => (own_blk_lt h3 k hk).2)⟩
theorem OwnRows.setCell {w : World} {B : Nat} {v : Value} {xss : List (List Int)} (h : OwnRows w B v xss) {p : Addr} (hp : p.block < B) (u : Value) : OwnRows (w.setCell p u) B v xss := by
  obtain ⟨vs, h1, h2⟩ := h
  refine ⟨vs, ownsRow_setCell_below h1 hp u, fun i xs hx => ?_⟩
  obtain ⟨u', hu, h3⟩ := h2 i xs hx
  exact ⟨u', hu, ownsRow_setCell_below h3 hp u⟩
theorem OwnRows.mono {w : World} {B B' : Nat} {v : Value} {xss : List (List Int)} (h : OwnRows w B v xss) (hB : B' ≤ B) : OwnRows w B' v xss := by
  obtain ⟨vs, h1, h2⟩ := h
  refine ⟨vs, own_mono h1 hB, fun i xs hx => ?_⟩
  obtain ⟨u, hu, h3⟩ := h2 i xs hx
  exact ⟨u, hu, own_mono h3 hB⟩
theorem OwnRows.kept {w w' : World} {B : Nat} {v : Value} {xss : List (List Int)} (h : OwnRows w B v xss) (hk : ∀ k cs t, B ≤ k → w.heap[k]? = some (.cells cs t (0, 0)) → (t = 3 ∨ t = 41) → w'.heap[k]? = w.heap[k]?) : OwnRows w' B v xss := by
  obtain ⟨vs, h1, h2⟩ := h
  refine ⟨vs, own_kept h1 (fun k hk' => ?_), fun i xs hx => ?_⟩
  · obtain ⟨cur, hc⟩ := own_type h1 k hk'
    exact hk k cur _ (own_blk_lt h1 k hk').1 hc (.inr rfl)
  · obtain ⟨u, hu, h3⟩ := h2 i xs hx
    refine ⟨u, hu, own_kept h3 (fun k hk' => ?_)⟩
    obtain ⟨cur, hc⟩ := own_type h3 k hk'
    exact hk k cur _ (own_blk_lt h3 k hk').1 hc (.inl rfl)
/-- A row more. -/
theorem OwnRows.snoc {W w1 : World} {B : Nat} {v v1 : Value} {xss : List (List Int)} {vs : List Value} {u : Value} {xs : List Int}
    (h1 : W.ownsRow B 41 1 v xss.length vs) (h2 : ∀ (i : Nat) (xs : List Int), xss[i]? = some xs → ∃ u, vs[i]? = some u ∧ W.ownsRow B 3 1 u xs.length (xs.map (Value.int .i64)))
    (hu : W.ownsRow B 3 1 u xs.length (xs.map (Value.int .i64))) (hown : w1.ownsRow B 41 1 v1 (xss.length + 1) (vs ++ [u])) (hg : W.grownBy w1 v.ownBlock) : OwnRows w1 B v1 (xss ++ [xs]) := by
  have key : ∀ {u : Value} {xs : List Int}, W.ownsRow B 3 1 u xs.length (xs.map (Value.int .i64)) → w1.ownsRow B 3 1 u xs.length (xs.map (Value.int .i64)) := fun {u xs} hu =>
    own_kept hu fun k hk => by
      obtain ⟨cur, hc⟩ := own_type hu k hk
      refine hg.block k (own_blk_lt hu k hk).2 (fun e => ?_)
      obtain ⟨cur2, hc2⟩ := own_type h1 k e.symm
      rw [hc] at hc2
      simp at hc2
  have hvl : vs.length = xss.length := by have := h1.1; simpa using this
  refine ⟨vs ++ [u], by rw [List.length_append]; exact hown, fun i ys hy => ?_⟩
  by_cases hi : i < xss.length
  · rw [List.getElem?_append_left hi] at hy
    obtain ⟨u', hu', h3⟩ := h2 i ys hy
    exact ⟨u', by rw [List.getElem?_append_left (by omega)]; exact hu', key h3⟩
  · rw [List.getElem?_append_right (by omega)] at hy
    have h0 : i - xss.length = 0 := by
      have := (List.getElem?_eq_some_iff.1 hy).1
      simp at this; omega
    rw [h0] at hy
    have : xs = ys := by simpa using hy
    subst this
    exact ⟨u, by rw [List.getElem?_append_right (by omega), hvl, h0]; rfl, key hu⟩
theorem OwnRows.rows {w : World} {B : Nat} {v : Value} {xss : List (List Int)} (h : OwnRows w B v xss) (hl : xss.length ≤ 1000000) (hx : ∀ xs ∈ xss, xs.length ≤ 1000000) : RowsAt w w.heap.size v xss := by
  obtain ⟨vs, h1, h2⟩ := h
  rcases h1.2 with ⟨rfl, h0⟩ | ⟨g, cap, cur, rfl, hb, hh, hc, _, hs, ht⟩
  · obtain rfl : xss = [] := List.eq_nil_of_length_eq_zero h0
    exact ⟨none, 0, rfl, by simp, fun hn => absurd rfl hn⟩
  · refine ⟨_, cap, rfl, by omega, fun _ => ⟨g, 0, rfl, lt_blk hh, fun i xs hi => ?_⟩⟩
    obtain ⟨u, hu, h3⟩ := h2 i xs hi
    have hil := (List.getElem?_eq_some_iff.1 hi).1
    refine ⟨u, ?_, own_ints h3 (by have := hx xs (List.mem_of_getElem? hi); omega)⟩
    rw [cell_blk hh, Nat.zero_add]
    rw [← ht, List.getElem?_take, if_pos (by omega), Array.getElem?_toList] at hu
    exact hu

/-! ### What a plan leaves and costs -/
/-- The state behind the first k rows. -/
def stAt (m : Wk) (plan : List (List Int)) (k : Nat) : St := (plan.take k).foldl (stepS m) (firstS m)
def costPl (m : Wk) (plan : List (List Int)) : Nat → Int
  | 0 => 0
  | k + 1 => costPl m plan k + costS m (plan.getD k [])
def thTo (m : Wk) (plan : List (List Int)) (k : Nat) : List (List Int) := (List.range k).map fun j => thicks m (stAt m plan (j + 1))
def keptIn (m : Wk) (plan : List (List Int)) (k : Nat) : Bool := keptS m (stAt m plan k) (plan.getD k [])
def firstBad (m : Wk) (plan : List (List Int)) : Option Nat := (List.range plan.length).find? fun k => !keptIn m plan k
def followS (m : Wk) (plan : List (List Int)) : List (List Int) × Int × Int × Int :=
  if checkS m = 0 then
    if planOk m plan then
      match firstBad m plan with
      | some k => (thTo m plan (k + 1), costPl m plan (k + 1), k, 0)
      | none => (thTo m plan plan.length, costPl m plan plan.length, -1, 0)
    else ([], 0, 0, 1)
  else ([], 0, 0, checkS m)
theorem stAt_zero (m : Wk) (plan : List (List Int)) : stAt m plan 0 = firstS m := rfl
theorem stAt_succ (m : Wk) {plan : List (List Int)} {k : Nat} (h : k < plan.length) : stAt m plan (k + 1) = stepS m (stAt m plan k) plan[k] := by
  unfold stAt; rw [List.take_succ_eq_append_getElem h, List.foldl_append]; rfl
theorem stAt_y (m : Wk) (plan : List (List Int)) : ∀ k, k ≤ plan.length → (stAt m plan k).y = k
  | 0, _ => rfl
  | k + 1, h => by rw [stAt_succ m (by omega), stepS_y, stAt_y m plan k (by omega)]; omega
theorem firstS_ok {m : Wk} (hm : m.Ok) : (firstS m).Ok m := by
  have h : ∀ i, 0 ≤ (nows m).getD i 0 ∧ (nows m).getD i 0 ≤ 1000 := by
    intro i
    rw [List.getD_eq_getElem?_getD]
    cases he : (nows m)[i]? with
    | none => simp
    | some x =>
      have := List.mem_of_getElem? he
      simp only [nows, List.mem_map] at this
      obtain ⟨s, hs, rfl⟩ := this
      have h1 := (hm.slopes s hs).now
      have h2 := (hm.slopes s hs).full
      simp only [Option.getD_some]; omega
  exact ⟨by simp [firstS, stOf], h 0, h 1, h 2, h 3⟩
theorem stAt_ok {m : Wk} (hm : m.Ok) (plan : List (List Int)) (hp : (plan.length : Int) ≤ 40) : ∀ k, k ≤ plan.length → (stAt m plan k).Ok m
  | 0, _ => firstS_ok hm
  | k + 1, h => by
    rw [stAt_succ m (by omega)]
    exact stepS_ok hm (stAt_ok hm plan hp k (by omega)) _ (by rw [stAt_y m plan k (by omega)]; omega)
theorem getD_lt {α : Type} {l : List α} {k : Nat} (h : k < l.length) (d : α) : l.getD k d = l[k] := by simp [List.getD_eq_getElem?_getD, List.getElem?_eq_getElem h]
theorem costPl_succ (m : Wk) {plan : List (List Int)} {k : Nat} (h : k < plan.length) : costPl m plan (k + 1) = costPl m plan k + costS m plan[k] := by rw [costPl, getD_lt h]
theorem thTo_succ (m : Wk) (plan : List (List Int)) (k : Nat) : thTo m plan (k + 1) = thTo m plan k ++ [thicks m (stAt m plan (k + 1))] := by
  unfold thTo; rw [List.range_succ, List.map_append]; rfl
theorem thTo_length (m : Wk) (plan : List (List Int)) (k : Nat) : (thTo m plan k).length = k := by simp [thTo]
theorem thicks_length (m : Wk) (s : St) : (thicks m s).length = m.slopes.length := by simp [thicks]
theorem may_ok {m : Wk} {row : List Int} (h : mayS m row = true) : RowOk m row := by
  unfold mayS at h
  simp only [Bool.and_eq_true, List.all_eq_true, decide_eq_true_eq] at h
  exact ⟨h.1.2, fun k hk => by have := h.1.1 k hk; omega⟩
theorem planOk_row {m : Wk} {plan : List (List Int)} (h : planOk m plan = true) {k : Nat} (hk : k < plan.length) : mayS m plan[k] = true := by
  unfold planOk at h
  simp only [Bool.and_eq_true, List.all_eq_true] at h
  exact h.2 _ (List.getElem_mem hk)
theorem planOk_len {m : Wk} {plan : List (List Int)} (h : planOk m plan = true) : (plan.length : Int) = m.years := by
  unfold planOk at h
  simp only [Bool.and_eq_true, decide_eq_true_eq] at h
  exact h.1
theorem costPl_bd {m : Wk} (hm : m.Ok) {plan : List (List Int)} (h : planOk m plan = true) : ∀ k, k ≤ plan.length → 0 ≤ costPl m plan k ∧ costPl m plan k ≤ k * 41000000
  | 0, _ => by simp [costPl]
  | k + 1, hk => by
    rw [costPl_succ m (by omega)]
    have h1 := costPl_bd hm h k (by omega)
    have h2 := costS_bd hm (may_ok (planOk_row h (show k < plan.length by omega)))
    omega
theorem find_first {p : Nat → Bool} {k : Nat} : ∀ {n : Nat}, k < n → (∀ j < k, p j = false) → p k = true → (List.range n).find? p = some k
  | 0, h, _, _ => by omega
  | n + 1, h, h1, h2 => by
    rw [List.range_succ, List.find?_append]
    by_cases hk : k < n
    · rw [find_first hk h1 h2]; rfl
    · obtain rfl : k = n := by omega
      have : (List.range k).find? p = none := by
        rw [List.find?_eq_none]
        intro x hx
        simp at hx
        simp [h1 x hx]
      rw [this]; simp [h2]
theorem followS_bad {m : Wk} {plan : List (List Int)} (hc : checkS m = 0) (hp : planOk m plan = true) {k : Nat} (hk : k < plan.length) (h1 : ∀ j < k, keptIn m plan j = true) (h2 : keptIn m plan k = false) :
    followS m plan = (thTo m plan (k + 1), costPl m plan (k + 1), (k : Int), 0) := by
  unfold followS firstBad
  rw [if_pos hc, if_pos hp, find_first hk (fun j hj => by simp [h1 j hj]) (by simp [h2])]
theorem followS_good {m : Wk} {plan : List (List Int)} (hc : checkS m = 0) (hp : planOk m plan = true) (h1 : ∀ j < plan.length, keptIn m plan j = true) :
    followS m plan = (thTo m plan plan.length, costPl m plan plan.length, -1, 0) := by
  unfold followS firstBad
  have : (List.range plan.length).find? (fun k => !keptIn m plan k) = none := by
    rw [List.find?_eq_none]
    intro x hx
    simp at hx
    simp [h1 x hx]
  rw [if_pos hc, if_pos hp, this]
end Go.Proofs.Ytnbnhcoaggpmaaa
