/- The cheapest plan, as plain functions. -/
import Derived.Test.YtnbnhcoaggpmaaaMz
import Derived.Test.YtnbnhcoaggpmaaaPa
import Derived.Test.YtnbnhcoaggpmaaaMu

namespace Go.Proofs.Ytnbnhcoaggpmaaa
open Go Go.RowKit Go.Shelf
set_option maxRecDepth 100000

theorem foldl_min_att {α : Type} (p : α → Bool) (g : α → Int) : ∀ (l : List α) (z : Int), l.foldl (fun a r => if p r then min a (g r) else a) z = z ∨ ∃ r ∈ l, p r = true ∧ g r = l.foldl (fun a r => if p r then min a (g r) else a) z
  | [], z => .inl rfl
  | a :: l, z => by
    rw [List.foldl_cons]
    rcases foldl_min_att p g l (if p a then min z (g a) else z) with h | ⟨r, hr, h1, h2⟩
    · rw [h]
      by_cases hp : p a = true
      · rw [if_pos hp]
        by_cases hz : z ≤ g a
        · left; omega
        · right; exact ⟨a, by simp, hp, by omega⟩
      · rw [if_neg hp]; exact .inl rfl
    · exact .inr ⟨r, by simp [hr], h1, h2⟩
theorem foldl_min_le {α : Type} (p : α → Bool) (g : α → Int) : ∀ (l : List α) (z : Int), l.foldl (fun a r => if p r then min a (g r) else a) z ≤ z ∧ ∀ r ∈ l, p r = true → l.foldl (fun a r => if p r then min a (g r) else a) z ≤ g r
  | [], z => ⟨Int.le_refl _, fun r h => by simp at h⟩
  | a :: l, z => by
    rw [List.foldl_cons]
    obtain ⟨h1, h2⟩ := foldl_min_le p g l (if p a then min z (g a) else z)
    by_cases hp : p a = true
    · rw [if_pos hp] at *
      refine ⟨by omega, fun r hr hpr => ?_⟩
      rcases List.mem_cons.1 hr with rfl | hr
      · omega
      · exact h2 r hr hpr
    · rw [if_neg hp] at *
      refine ⟨h1, fun r hr hpr => ?_⟩
      rcases List.mem_cons.1 hr with rfl | hr
      · exact absurd hpr hp
      · exact h2 r hr hpr
theorem valS_fold {m : Wk} {s : St} (h : s.y < m.years) : valS m s = (rowsS m).foldl (fun a r => if keptS m s r then min a (costS m r + valS m (stepS m s r)) else a) 2000000000 := by
  rw [valS_step h]; unfold leastTo; rw [List.take_length]
/-- A row that may be done costs no less. -/
theorem valS_le {m : Wk} {s : St} (h : s.y < m.years) {r : List Int} (hr : r ∈ rowsS m) (hk : keptS m s r = true) : valS m s ≤ costS m r + valS m (stepS m s r) := by
  rw [valS_fold h]
  exact (foldl_min_le (fun r => keptS m s r) (fun r => costS m r + valS m (stepS m s r)) (rowsS m) 2000000000).2 r hr hk
/-- Some row costs just that. -/
theorem valS_att {m : Wk} {s : St} (h : s.y < m.years) (hv : valS m s < 2000000000) : ∃ r ∈ rowsS m, keptS m s r = true ∧ costS m r + valS m (stepS m s r) = valS m s := by
  have h1 := valS_fold h
  rcases foldl_min_att (fun r => keptS m s r) (fun r => costS m r + valS m (stepS m s r)) (rowsS m) 2000000000 with h2 | ⟨r, hr, hk, h2⟩
  · rw [← h1] at h2; omega
  · rw [← h1] at h2; exact ⟨r, hr, hk, h2⟩

/-- Is it a row of the cheapest way? -/
def isBest (m : Wk) (s : St) (r : List Int) : Bool := keptS m s r && decide (costS m r + valS m (stepS m s r) = valS m s)
def pickS (m : Wk) (s : St) : Option (List Int) := (rowsS m).find? (isBest m s)
def chS (m : Wk) : Nat → St
  | 0 => firstS m
  | k + 1 => match pickS m (chS m k) with
    | some r => stepS m (chS m k) r
    | none => chS m k
def pkS (m : Wk) (k : Nat) : List Int := (pickS m (chS m k)).getD []
def planTo (m : Wk) (k : Nat) : List (List Int) := (List.range k).map (pkS m)
def planS (m : Wk) : List (List Int) := planTo m m.years.toNat
def cheapS (m : Wk) : List (List Int) × Int × Bool × Int :=
  if checkS m = 0 then
    if 2000 < (allS m (firstS m)).length then ([], 0, false, 3)
    else if 2000000000 ≤ valS m (firstS m) then ([], 0, false, 0) else (planS m, valS m (firstS m), true, 0)
  else ([], 0, false, checkS m)
theorem isBest_spec {m : Wk} {s : St} {r : List Int} : isBest m s r = true ↔ keptS m s r = true ∧ costS m r + valS m (stepS m s r) = valS m s := by
  unfold isBest; rw [Bool.and_eq_true, decide_eq_true_eq]
theorem pickS_some {m : Wk} {s : St} (h : s.y < m.years) (hv : valS m s < 2000000000) : ∃ r, pickS m s = some r ∧ r ∈ rowsS m ∧ keptS m s r = true ∧ costS m r + valS m (stepS m s r) = valS m s := by
  obtain ⟨r, hr, hk, he⟩ := valS_att h hv
  cases hp : pickS m s with
  | none =>
    have := List.find?_eq_none.1 hp r hr
    exact absurd (isBest_spec.2 ⟨hk, he⟩) this
  | some r' =>
    have h1 := List.find?_some hp
    obtain ⟨h2, h3⟩ := isBest_spec.1 h1
    exact ⟨r', rfl, List.mem_of_find?_eq_some hp, h2, h3⟩
theorem pickS_first {m : Wk} {s : St} {k : Nat} {r : List Int} (hr : (rowsS m)[k]? = some r) (h1 : ∀ r' ∈ (rowsS m).take k, isBest m s r' = false) (h2 : isBest m s r = true) : pickS m s = some r := by
  unfold pickS
  rw [← List.take_append_drop k (rowsS m), List.find?_append]
  have : ((rowsS m).take k).find? (isBest m s) = none := by
    rw [List.find?_eq_none]; intro x hx; simp [h1 x hx]
  rw [this, Option.none_or]
  obtain ⟨hlt, he⟩ := List.getElem?_eq_some_iff.1 hr
  rw [List.drop_eq_getElem_cons hlt, he, List.find?_cons_of_pos h2]
theorem pickS_none {m : Wk} {s : St} (h1 : ∀ r' ∈ (rowsS m).take (rowsS m).length, isBest m s r' = false) : pickS m s = none := by
  unfold pickS
  rw [List.take_length] at h1
  rw [List.find?_eq_none]; intro x hx; simp [h1 x hx]
structure ChOk (m : Wk) (k : Nat) : Prop where
  y : (chS m k).y = k
  val : valS m (chS m k) < 2000000000
  all : chS m k ∈ allS m (firstS m)
theorem chS_pick {m : Wk} {k : Nat} (h : ChOk m k) (hk : (k : Int) < m.years) : pickS m (chS m k) = some (pkS m k) ∧ pkS m k ∈ rowsS m ∧ keptS m (chS m k) (pkS m k) = true ∧ costS m (pkS m k) + valS m (chS m (k + 1)) = valS m (chS m k) ∧ chS m (k + 1) = stepS m (chS m k) (pkS m k) := by
  obtain ⟨r, hp, hr, hkp, he⟩ := pickS_some (by rw [h.y]; exact hk) h.val
  have e1 : pkS m k = r := by unfold pkS; rw [hp]; rfl
  have e2 : chS m (k + 1) = stepS m (chS m k) r := by rw [chS, hp]
  rw [e1, e2]
  exact ⟨hp, hr, hkp, he, rfl⟩
theorem chS_ok {m : Wk} (hm : m.Ok) (hv : valS m (firstS m) < 2000000000) : ∀ k : Nat, (k : Int) ≤ m.years → ChOk m k
  | 0, _ => ⟨rfl, hv, allS_self _ _⟩
  | k + 1, hk => by
    have ih := chS_ok hm hv k (by omega)
    obtain ⟨hp, hr, hkp, he, e⟩ := chS_pick ih (by omega)
    refine ⟨by rw [e, stepS_y, ih.y]; omega, ?_, ?_⟩
    · have := (costS_bd hm (rowsS_mem hr).1).1
      have := ih.val
      omega
    · rw [e]
      exact allS_closed ih.all (mem_kids.2 ⟨by rw [ih.y]; omega, _, hr, hkp, rfl⟩)
theorem planTo_length (m : Wk) (k : Nat) : (planTo m k).length = k := by simp [planTo]
theorem planTo_succ (m : Wk) (k : Nat) : planTo m (k + 1) = planTo m k ++ [pkS m k] := by
  unfold planTo; rw [List.range_succ, List.map_append]; rfl
theorem planS_length {m : Wk} (hy : 0 ≤ m.years) : ((planS m).length : Int) = m.years := by unfold planS; rw [planTo_length]; omega
theorem planS_get {m : Wk} {k : Nat} (hk : (k : Int) < m.years) : (planS m)[k]? = some (pkS m k) := by
  unfold planS planTo
  rw [List.getElem?_map, List.getElem?_range (by omega)]; rfl
theorem planS_at {m : Wk} {k : Nat} (h : k < (planS m).length) (hk : (k : Int) < m.years) : (planS m)[k] = pkS m k := by
  have := planS_get hk
  rw [List.getElem?_eq_getElem h] at this
  simpa using this
/-- The cheapest plan goes along the cheapest states. -/
theorem stAt_planS {m : Wk} (hm : m.Ok) (hv : valS m (firstS m) < 2000000000) : ∀ k : Nat, (k : Int) ≤ m.years → stAt m (planS m) k = chS m k
  | 0, _ => rfl
  | k + 1, hk => by
    have hl := planS_length (m := m) hm.years.1
    have hlt : k < (planS m).length := by omega
    rw [stAt_succ m hlt, stAt_planS hm hv k (by omega), planS_at hlt (by omega)]
    exact (chS_pick (chS_ok hm hv k (by omega)) (by omega)).2.2.2.2.symm
theorem keptIn_planS {m : Wk} (hm : m.Ok) (hv : valS m (firstS m) < 2000000000) {k : Nat} (hk : (k : Int) < m.years) : keptIn m (planS m) k = true := by
  have hl := planS_length (m := m) hm.years.1
  have hlt : k < (planS m).length := by omega
  unfold keptIn
  rw [getD_lt hlt, planS_at hlt hk, stAt_planS hm hv k (by omega)]
  exact (chS_pick (chS_ok hm hv k (by omega)) hk).2.2.1
theorem planOk_planS {m : Wk} (hm : m.Ok) (hv : valS m (firstS m) < 2000000000) : planOk m (planS m) = true := by
  have hl := planS_length (m := m) hm.years.1
  unfold planOk
  rw [Bool.and_eq_true, decide_eq_true_eq, List.all_eq_true]
  refine ⟨hl, fun r hr => ?_⟩
  obtain ⟨k, hk⟩ := List.getElem?_of_mem hr
  have hlt := (List.getElem?_eq_some_iff.1 hk).1
  rw [planS_get (by omega)] at hk
  cases hk
  exact (rowsS_mem (chS_pick (chS_ok hm hv k (by omega)) (by omega)).2.1).2
theorem costPl_planS {m : Wk} (hm : m.Ok) (hv : valS m (firstS m) < 2000000000) : ∀ k : Nat, (k : Int) ≤ m.years → costPl m (planS m) k + valS m (chS m k) = valS m (firstS m)
  | 0, _ => by simp [costPl, chS]
  | k + 1, hk => by
    have hl := planS_length (m := m) hm.years.1
    have hlt : k < (planS m).length := by omega
    have ih := costPl_planS hm hv k (by omega)
    rw [costPl_succ m hlt, planS_at hlt (by omega)]
    have := (chS_pick (chS_ok hm hv k (by omega)) (by omega)).2.2.2.1
    omega
/-- Followed, the cheapest plan keeps all, and costs what it is said to cost. -/
theorem follow_planS {m : Wk} (hc : checkS m = 0) (hv : valS m (firstS m) < 2000000000) : followS m (planS m) = (thTo m (planS m) (planS m).length, valS m (firstS m), -1, 0) := by
  have hm := checkS_ok hc
  have hl := planS_length (m := m) hm.years.1
  rw [followS_good hc (planOk_planS hm hv) (fun j hj => keptIn_planS hm hv (by omega))]
  have h1 := costPl_planS hm hv (planS m).length (by omega)
  have h2 := (chS_ok hm hv (planS m).length (by omega)).y
  rw [valS_end (by rw [h2]; omega)] at h1
  rw [← h1]
  simp
theorem followS_ok {m : Wk} {plan : List (List Int)} (h : (followS m plan).2.2.2 = 0) : checkS m = 0 ∧ planOk m plan = true := by
  unfold followS at h
  by_cases hc : checkS m = 0
  · refine ⟨hc, ?_⟩
    rw [if_pos hc] at h
    cases hp : planOk m plan with
    | true => rfl
    | false => rw [hp] at h; simp at h
  · rw [if_neg hc] at h
    exact absurd h hc
end Go.Proofs.Ytnbnhcoaggpmaaa
