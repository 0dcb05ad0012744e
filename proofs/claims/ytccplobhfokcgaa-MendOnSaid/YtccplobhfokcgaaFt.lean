/- States that are come to fit their slopes. -/
import Derived.Test.YtccplobhfokcgaaPn
namespace Go.Proofs.Ytccplobhfokcgaa
open Go Go.RowKit Go.Shelf
set_option maxRecDepth 100000

/-- Each thickness is within its slope; the places behind the slopes are nothing. -/
def StFit (m : Wk) (s : St) : Prop := ∀ i, i < 4 → match m.slopes[i]? with
  | some x => 0 ≤ s.get i ∧ s.get i ≤ x.full
  | none => s.get i = 0
theorem mendC_fit {cs : List Craft} (hcs : ∀ c ∈ cs, CraftOk c) (k t full : Int) (ht : 0 ≤ t ∧ t ≤ full) : 0 ≤ mendC cs k t full ∧ mendC cs k t full ≤ full := by
  unfold mendC
  split
  · exact ht
  · split
    · rename_i c hc
      have := (hcs c (List.mem_of_getElem? hc)).add
      split <;> omega
    · exact ht
theorem takeOf_nonneg {m : Wk} (hm : m.Ok) {x : Slope} (hx : x ∈ m.slopes) (y : Int) : 0 ≤ takeOf x y := by
  unfold takeOf
  rw [List.getD_eq_getElem?_getD]
  cases he : x.takes[y.toNat % x.takes.length]? with
  | none => simp
  | some v => exact ((hm.slopes x hx).takes v (List.mem_of_getElem? he)).1
theorem leftS_fit {m : Wk} (hm : m.Ok) {x : Slope} (hx : x ∈ m.slopes) (y k t : Int) (ht : 0 ≤ t ∧ t ≤ x.full) : 0 ≤ leftS m.crafts x y k t ∧ leftS m.crafts x y k t ≤ x.full := by
  have h := mendC_fit hm.craft k t x.full ht
  have h2 := takeOf_nonneg hm hx y
  unfold leftS
  split
  · exact h
  · omega
theorem stepS_get (m : Wk) (s : St) (row : List Int) {i : Nat} (hi : i < 4) : (stepS m s row).get i = upd m.crafts m.slopes row s.y i (s.get i) := by
  match i, hi with
  | 0, _ => rfl
  | 1, _ => rfl
  | 2, _ => rfl
  | 3, _ => rfl
theorem stepS_fit {m : Wk} (hm : m.Ok) {s : St} (hs : StFit m s) (row : List Int) : StFit m (stepS m s row) := by
  intro i hi
  have h := hs i hi
  rw [stepS_get m s row hi]
  unfold upd
  cases he : m.slopes[i]? with
  | none => rw [he] at h; exact h
  | some x => rw [he] at h; exact leftS_fit hm (List.mem_of_getElem? he) _ _ _ h
theorem stOf_get (y : Int) (th : List Int) {i : Nat} (hi : i < 4) : (stOf y th).get i = th.getD i 0 := by
  match i, hi with
  | 0, _ => rfl
  | 1, _ => rfl
  | 2, _ => rfl
  | 3, _ => rfl
theorem firstS_fit {m : Wk} (hm : m.Ok) : StFit m (firstS m) := by
  intro i hi
  unfold firstS
  rw [stOf_get _ _ hi, List.getD_eq_getElem?_getD, nows, List.getElem?_map]
  cases he : m.slopes[i]? with
  | none => rfl
  | some x =>
    have := (hm.slopes x (List.mem_of_getElem? he)).now
    simpa using this
theorem reach_fit {m : Wk} (hm : m.Ok) {s t : St} (hs : StFit m s) (h : Reach m s t) : StFit m t := by
  induction h with
  | self => exact hs
  | step _ hu ih =>
    obtain ⟨_, r, _, _, rfl⟩ := mem_kids.1 hu
    exact stepS_fit hm ih r
theorem thicks_get (m : Wk) (s : St) {i : Nat} (hi : i < m.slopes.length) : (thicks m s).getD i 0 = s.get i := by
  unfold thicks
  rw [List.getD_eq_getElem?_getD, List.getElem?_map, List.getElem?_range hi]
  rfl
theorem thicks_out (m : Wk) (s : St) {i : Nat} (hi : m.slopes.length ≤ i) : (thicks m s).getD i 0 = 0 := by
  rw [List.getD_eq_getElem?_getD, List.getElem?_eq_none (by rw [thicks_length]; exact hi)]
  rfl
/-- Its thicknesses told, it is the state again. -/
theorem stOf_thicks {m : Wk} {s : St} (hs : StFit m s) : stOf s.y (thicks m s) = s := by
  have key : ∀ i, i < 4 → (thicks m s).getD i 0 = s.get i := by
    intro i hi
    rcases Nat.lt_or_ge i m.slopes.length with h | h
    · exact thicks_get m s h
    · have h2 := hs i hi
      rw [List.getElem?_eq_none h] at h2
      rw [thicks_out m s h]
      exact h2.symm
  have h0 := key 0 (by omega)
  have h1 := key 1 (by omega)
  have h2 := key 2 (by omega)
  have h3 := key 3 (by omega)
  unfold stOf
  rw [h0, h1, h2, h3]
  rfl
theorem fits_thicks {m : Wk} (hm : m.Ok) {s : St} (hs : StFit m s) : fitsTh m (thicks m s) = true := by
  have hf := hm.few
  refine fits_to (fun i hi => ?_)
  rw [thicks_length] at hi
  rw [thicks_get m s hi, outB_false]
  have h := hs i (by omega)
  unfold fullAt
  rw [List.getElem?_eq_getElem hi] at h ⊢
  exact h
end Go.Proofs.Ytccplobhfokcgaa
