/- Plain law: better works cost no more (cut from Pn for a seat without lists of values). -/
import Derived.Test.YtnbnhcoaggpmaaaPc

namespace Go.Proofs.Ytnbnhcoaggpmaaa
open Go Go.RowKit Go.Shelf
set_option maxRecDepth 100000

theorem takeOf_nonneg {m : Wk} (hm : m.Ok) {x : Slope} (hx : x ∈ m.slopes) (y : Int) : 0 ≤ takeOf x y := by
  unfold takeOf
  rw [List.getD_eq_getElem?_getD]
  cases he : x.takes[y.toNat % x.takes.length]? with
  | none => simp
  | some v => exact ((hm.slopes x hx).takes v (List.mem_of_getElem? he)).1
theorem stepS_get (m : Wk) (s : St) (row : List Int) {i : Nat} (hi : i < 4) : (stepS m s row).get i = upd m.crafts m.slopes row s.y i (s.get i) := by
  match i, hi with
  | 0, _ => rfl
  | 1, _ => rfl
  | 2, _ => rfl
  | 3, _ => rfl
theorem stOf_get (y : Int) (th : List Int) {i : Nat} (hi : i < 4) : (stOf y th).get i = th.getD i 0 := by
  match i, hi with
  | 0, _ => rfl
  | 1, _ => rfl
  | 2, _ => rfl
  | 3, _ => rfl
def sizeAt (m : Wk) (i : Nat) : Int := match m.slopes[i]? with
  | some s => s.size
  | none => 0
theorem costTo_step (m : Wk) (row : List Int) (i : Nat) : costTo m row (i + 1) = costTo m row i + priceC m.crafts (row.getD i (-1)) * sizeAt m i := rfl
structure EasierS (x x' : Slope) : Prop where
  full : x'.full = x.full
  size : x'.size = x.size
  need : x'.need ≤ x.need
  now : x.now ≤ x'.now
  count : x'.takes.length = x.takes.length
  takes : ∀ j, x'.takes.getD j 0 ≤ x.takes.getD j 0
theorem EasierS.refl (x : Slope) : EasierS x x := ⟨rfl, rfl, Int.le_refl _, Int.le_refl _, rfl, fun _ => Int.le_refl _⟩
structure Easier (m m' : Wk) : Prop where
  len : m'.slopes.length = m.slopes.length
  each : ∀ (i : Nat) (x x' : Slope), m.slopes[i]? = some x → m'.slopes[i]? = some x' → EasierS x x'
  crafts : ∃ l, m'.crafts = m.crafts ++ l
  years : m'.years = m.years
  visit : m'.visit = m.visit
  hands : m.hands ≤ m'.hands
theorem Easier.at_ {m m' : Wk} (h : Easier m m') {i : Nat} {x : Slope} (hx : m.slopes[i]? = some x) : ∃ x', m'.slopes[i]? = some x' ∧ EasierS x x' := by
  have hl := (List.getElem?_eq_some_iff.1 hx).1
  have hl2 : i < m'.slopes.length := by rw [h.len]; exact hl
  exact ⟨_, List.getElem?_eq_getElem hl2, h.each i _ _ hx (List.getElem?_eq_getElem hl2)⟩
theorem Easier.out {m m' : Wk} (h : Easier m m') {i : Nat} (hx : m.slopes[i]? = none) : m'.slopes[i]? = none := by
  rw [List.getElem?_eq_none_iff] at hx ⊢
  rw [h.len]; exact hx
theorem craft_same {m m' : Wk} (h : Easier m m') {k : Int} (hk : k < m.crafts.length) (h0 : ¬ k < 0) : m'.crafts[k.toNat]? = m.crafts[k.toNat]? := by
  obtain ⟨l, hl⟩ := h.crafts
  rw [hl, List.getElem?_append_left (by omega)]
theorem priceC_same {m m' : Wk} (h : Easier m m') {k : Int} (hk : k < m.crafts.length) : priceC m'.crafts k = priceC m.crafts k := by
  unfold priceC
  by_cases h0 : k < 0
  · rw [if_pos h0, if_pos h0]
  · rw [if_neg h0, if_neg h0, craft_same h hk h0]
theorem mendC_same {m m' : Wk} (h : Easier m m') {k : Int} (hk : k < m.crafts.length) (t full : Int) : mendC m'.crafts k t full = mendC m.crafts k t full := by
  unfold mendC
  by_cases h0 : k < 0
  · rw [if_pos h0, if_pos h0]
  · rw [if_neg h0, if_neg h0, craft_same h hk h0]
theorem mendC_mono (cs : List Craft) (k full : Int) {t t' : Int} (h : t ≤ t') : mendC cs k t full ≤ mendC cs k t' full := by
  unfold mendC
  split
  · exact h
  · split
    · split <;> omega
    · exact h
theorem row_at {m : Wk} {row : List Int} (hr : RowOk m row) (i : Nat) : row.getD i (-1) < m.crafts.length := by
  rcases Nat.lt_or_ge i row.length with h | h
  · rw [getD_lt h]
    exact (hr.each _ (List.getElem_mem h)).2
  · rw [List.getD_eq_getElem?_getD, List.getElem?_eq_none h]
    show (-1 : Int) < _
    omega
theorem leftS_easier {m m' : Wk} (h : Easier m m') {x x' : Slope} (hx : EasierS x x') (y : Int) {k : Int} (hk : k < m.crafts.length) {t t' : Int} (ht : t ≤ t') : leftS m.crafts x y k t ≤ leftS m'.crafts x' y k t' := by
  have h1 := mendC_mono m.crafts k x.full ht
  have h2 := hx.takes (y.toNat % x.takes.length)
  unfold leftS takeOf
  rw [hx.count, hx.full, mendC_same h hk]
  split
  · exact h1
  · omega
theorem costTo_easier {m m' : Wk} (h : Easier m m') {row : List Int} (hr : RowOk m row) : ∀ k, costTo m' row k = costTo m row k
  | 0 => rfl
  | k + 1 => by
    rw [costTo_step, costTo_step, costTo_easier h hr k, priceC_same h (row_at hr k)]
    have : sizeAt m' k = sizeAt m k := by
      unfold sizeAt
      cases hx : m.slopes[k]? with
      | none => rw [h.out hx]
      | some x =>
        obtain ⟨x', hx', he⟩ := h.at_ hx
        rw [hx']
        exact he.size
    rw [this]
theorem costS_easier {m m' : Wk} (h : Easier m m') {row : List Int} (hr : RowOk m row) : costS m' row = costS m row := by
  unfold costS
  rw [costTo_easier h hr, h.visit]
theorem mayS_easier {m m' : Wk} (h : Easier m m') {row : List Int} (hr : mayS m row = true) : mayS m' row = true := by
  unfold mayS at hr ⊢
  simp only [Bool.and_eq_true, List.all_eq_true, decide_eq_true_eq] at hr ⊢
  obtain ⟨⟨h1, h2⟩, h3⟩ := hr
  obtain ⟨l, hl⟩ := h.crafts
  have h4 := h.hands
  refine ⟨⟨fun x hx => ?_, by rw [h.len]; exact h2⟩, by omega⟩
  have := h1 x hx
  rw [hl, List.length_append]
  omega
/-- One state is no worse than another. -/
def StGe (s s' : St) : Prop := s'.y = s.y ∧ ∀ i, i < 4 → s.get i ≤ s'.get i
theorem upd_easier {m m' : Wk} (h : Easier m m') {row : List Int} (hr : RowOk m row) (y : Int) (i : Nat) {t t' : Int} (ht : t ≤ t') : upd m.crafts m.slopes row y i t ≤ upd m'.crafts m'.slopes row y i t' := by
  unfold upd
  cases hx : m.slopes[i]? with
  | none => rw [h.out hx]; exact ht
  | some x =>
    obtain ⟨x', hx', he⟩ := h.at_ hx
    rw [hx']
    exact leftS_easier h he y (row_at hr i) ht
theorem stepS_easier {m m' : Wk} (h : Easier m m') {row : List Int} (hr : RowOk m row) {s s' : St} (hs : StGe s s') : StGe (stepS m s row) (stepS m' s' row) := by
  refine ⟨by rw [stepS_y, stepS_y, hs.1], fun i hi => ?_⟩
  rw [stepS_get m s row hi, stepS_get m' s' row hi, hs.1]
  exact upd_easier h hr _ _ (hs.2 i hi)
theorem keptS_easier {m m' : Wk} (h : Easier m m') (hf : m.slopes.length ≤ 4) {row : List Int} (hr : RowOk m row) {s s' : St} (hs : StGe s s') (hk : keptS m s row = true) : keptS m' s' row = true := by
  unfold keptS at hk ⊢
  rw [List.all_eq_true] at hk ⊢
  intro i hi
  rw [h.len] at hi
  have hi2 : i < m.slopes.length := by simpa using hi
  have h1 := hk i hi
  unfold keptAt at h1 ⊢
  obtain ⟨x', hx', he⟩ := h.at_ (List.getElem?_eq_getElem hi2)
  rw [hx']
  rw [List.getElem?_eq_getElem hi2] at h1
  simp only [decide_eq_true_eq] at h1 ⊢
  have h2 := leftS_easier h he s.y (row_at hr i) (hs.2 i (by omega))
  have h3 := he.need
  rw [hs.1]
  omega
theorem valS_easier {m m' : Wk} (hm : m.Ok) (hm' : m'.Ok) (h : Easier m m') : ∀ (n : Nat) (s s' : St), (m.years - s.y).toNat = n → StGe s s' → valS m' s' ≤ valS m s
  | 0, s, s', hn, hs => by
    rw [valS_end (m := m') (s := s') (by rw [h.years, hs.1]; omega), valS_end (m := m) (s := s) (by omega)]
    exact Int.le_refl _
  | n + 1, s, s', hn, hs => by
    by_cases hv : valS m s < 2000000000
    · obtain ⟨r, hr, hk, he⟩ := valS_att (by omega) hv
      obtain ⟨hro, hma⟩ := rowsS_mem hr
      have h1 := valS_le (m := m') (s := s') (by rw [h.years, hs.1]; omega) (row_mem (mayS_easier h hma)) (keptS_easier h hm.few hro hs hk)
      have h2 := valS_easier hm hm' h n (stepS m s r) (stepS m' s' r) (by rw [stepS_y]; omega) (stepS_easier h hro hs)
      rw [costS_easier h hro] at h1
      omega
    · have := (valS_bd hm' s').2
      omega
theorem firstS_easier {m m' : Wk} (h : Easier m m') : StGe (firstS m) (firstS m') := by
  refine ⟨rfl, fun i hi => ?_⟩
  unfold firstS
  rw [stOf_get _ _ hi, stOf_get _ _ hi, List.getD_eq_getElem?_getD, List.getD_eq_getElem?_getD, nows, nows, List.getElem?_map, List.getElem?_map]
  cases hx : m.slopes[i]? with
  | none => rw [h.out hx]; exact Int.le_refl _
  | some x =>
    obtain ⟨x', hx', he⟩ := h.at_ hx
    rw [hx']
    simpa using he.now
/-- What a call of Cheapest says of works no harder. -/
theorem cheapS_easier {m m' : Wk} (hc : checkS m = 0) (hc' : checkS m' = 0) (hv : valS m (firstS m) < 2000000000) (h : Easier m m') :
    (cheapS m').2.2.2 = 3 ∨ ((cheapS m').2.2.2 = 0 ∧ (cheapS m').2.2.1 = true ∧ (cheapS m').2.1 ≤ valS m (firstS m)) := by
  have hle := valS_easier (checkS_ok hc) (checkS_ok hc') h _ _ _ rfl (firstS_easier h)
  unfold cheapS
  rw [if_pos hc']
  split
  · exact .inl rfl
  · rw [if_neg (by omega)]
    exact .inr ⟨rfl, rfl, hle⟩
theorem orL_all : ∀ {l : List Int}, (∀ x ∈ l, x = 0) → orL l = 0
  | [], _ => rfl
  | y :: l, h => by
    simp only [orL]
    rw [if_pos (h y (by simp))]
    exact orL_all fun x hx => h x (by simp [hx])
theorem slopeE_of {s : Slope} (h : SlopeOk s) : slopeE s = 0 := by
  obtain ⟨h1, h2, h3, h4, h5, h6⟩ := h
  have a1 : slopeBad s = false := by simp only [slopeBad, Bool.or_eq_false_iff, outB_false]; exact ⟨⟨⟨h1, h2⟩, h3⟩, h4⟩
  have a2 : takesBad s.takes = false := by
    unfold takesBad
    rw [List.any_eq_false]
    intro t ht
    have := outB_false.2 (h6 t ht)
    simp [this]
  unfold slopeE
  rw [a1, a2]
  simp
  omega
theorem craftBad_of {c : Craft} (h : CraftOk c) : craftBad c = false := by
  obtain ⟨h1, h2, h3⟩ := h
  simp only [craftBad, Bool.or_eq_false_iff, outB_false]
  refine ⟨⟨h1, h2⟩, ?_⟩
  cases hs : c.strip
  · rfl
  · simp [h3 hs]
/-- What is within bounds has no error. -/
theorem checkS_of {m : Wk} (hm : m.Ok) : checkS m = 0 := by
  obtain ⟨h1, h2, h3, h4, h5, h6, h7, h8⟩ := hm
  unfold checkS
  rw [if_neg (by omega), if_neg (by omega), if_pos (orL_all fun x hx => by
    obtain ⟨s, hs, rfl⟩ := List.mem_map.1 hx
    exact slopeE_of (h3 s hs)), if_neg (by omega)]
  have a1 : m.crafts.any craftBad = false := by
    rw [List.any_eq_false]
    intro c hc
    simp [craftBad_of (h5 c hc)]
  have a2 : restBad m = false := by simp only [restBad, Bool.or_eq_false_iff, outB_false]; exact ⟨⟨h6, h7⟩, h8⟩
  rw [a1, a2]
  rfl
end Go.Proofs.Ytnbnhcoaggpmaaa
