/- The plain laws behind the statements: a proof's bound, the values of all states, one thing left out or put off, works that are no harder. -/
import Derived.Test.YtcbhldfipfcjaaaGreatDoorPc
import Derived.Test.YtcbhldfipfcjaaaGreatDoorPp
import Derived.Test.YtcbhldfipfcjaaaGreatDoorLp

namespace Go.Proofs.YtcbhldfipfcjaaaGreatDoor
open Go Go.RowKit Go.Shelf
set_option maxRecDepth 100000

theorem costW_year {m : Wk} {ws : List Wo} (h : listOk m ws = true) {t : St} (ht : m.years ≤ t.y) : costW ws t = none := by
  cases hc : costW ws t with
  | none => rfl
  | some c =>
    obtain ⟨x, hx, hs, _⟩ := costW_dom hc
    obtain ⟨i, hi⟩ := List.getElem?_of_mem hx
    have hil := (List.getElem?_eq_some_iff.1 hi).1
    have hwo := (okAt_spec (listOk_at h hil) hil).1
    rw [(List.getElem?_eq_some_iff.1 hi).2] at hwo
    have h1 := outB_false.1 (woOk_spec hwo).1
    have h2 : (stW x).y = x.y := rfl
    rw [hs] at h2
    omega
theorem proves_parts {m : Wk} {least : Int} {ws : List Wo} (h : provesB m least ws = true) (hy : m.years ≠ 0) : listOk m ws = true ∧ (∃ n, costW ws (firstS m) = some n ∧ least ≤ n) ∧ ∀ (s : St) (n : Int), costW ws s = some n → ∀ r ∈ rowsS m, rowProves m (costW ws) s n r = true := by
  unfold provesB at h
  rw [if_neg hy] at h
  simp only [Bool.and_eq_true, Bool.not_eq_true', Bool.or_eq_false_iff, Bool.not_eq_false', decide_eq_false_iff_not, List.all_eq_true] at h
  obtain ⟨h1, ⟨h2, h3⟩, h4⟩ := h
  refine ⟨h1, ?_, fun s n hn r hr => ?_⟩
  · obtain ⟨n, hn⟩ := Option.isSome_iff_exists.1 h2
    rw [hn] at h3
    exact ⟨n, hn, by simpa using h3⟩
  · obtain ⟨x, hx, hs, hc⟩ := costW_dom hn
    have := h4 x hx r hr
    rwa [hs, hc] at this
theorem rowProves_kept {m : Wk} {f : St → Option Int} {s : St} {n : Int} {r : List Int} (h : rowProves m f s n r = true) (hk : keptS m s r = true) :
    ((stepS m s r).y < m.years → ∃ c, f (stepS m s r) = some c) ∧ n ≤ costS m r + (f (stepS m s r)).getD 0 := by
  unfold rowProves at h
  rw [hk] at h
  simp only [Bool.not_true, Bool.false_or, Bool.not_eq_true', Bool.or_eq_false_iff, Bool.and_eq_false_iff, decide_eq_false_iff_not, Bool.not_eq_false'] at h
  exact ⟨fun hy => Option.isSome_iff_exists.1 (h.1.resolve_left (fun h2 => h2 hy)), by omega⟩
/-- The whole law: what a proof says is at most what any plan that keeps all slopes costs. -/
theorem proves_sound {m : Wk} (hm : m.Ok) {least : Int} {ws : List Wo} (h : provesB m least ws = true) {plan : List (List Int)} (hp : planOk m plan = true) (hk : ∀ j < plan.length, keptIn m plan j = true) : least ≤ costPl m plan plan.length := by
  have hlen := planOk_len hp
  by_cases hy : m.years = 0
  · unfold provesB at h
    rw [if_pos hy] at h
    simp only [Bool.and_eq_true, decide_eq_true_eq] at h
    have : plan.length = 0 := by omega
    rw [this]
    exact h.2.1
  · obtain ⟨hl, ⟨n0, hn0, hle⟩, hrow⟩ := proves_parts h hy
    have key : ∀ k, k < plan.length → ∃ n, costW ws (stAt m plan k) = some n ∧ least ≤ costPl m plan k + n := by
      intro k
      induction k with
      | zero => intro _; exact ⟨n0, hn0, by simp [costPl]; exact hle⟩
      | succ k ih =>
        intro hk1
        obtain ⟨n, hn, hln⟩ := ih (by omega)
        have hkl : k < plan.length := by omega
        have h2 := hk k hkl
        unfold keptIn at h2
        rw [getD_lt hkl] at h2
        obtain ⟨h3, h4⟩ := rowProves_kept (hrow _ _ hn _ (row_mem (planOk_row hp hkl))) h2
        have hyk : (stepS m (stAt m plan k) plan[k]).y < m.years := by
          rw [stepS_y, stAt_y m plan k (by omega)]; omega
        obtain ⟨c, hc⟩ := h3 hyk
        rw [hc] at h4
        refine ⟨c, by rw [stAt_succ m hkl]; exact hc, ?_⟩
        rw [costPl_succ m hkl]
        simp at h4
        omega
    have hpos : plan.length - 1 < plan.length := by omega
    obtain ⟨n, hn, hln⟩ := key (plan.length - 1) hpos
    have h2 := hk (plan.length - 1) hpos
    unfold keptIn at h2
    rw [getD_lt hpos] at h2
    obtain ⟨_, h4⟩ := rowProves_kept (hrow _ _ hn _ (row_mem (planOk_row hp hpos))) h2
    rw [costW_year hl (t := stepS m (stAt m plan (plan.length - 1)) plan[plan.length - 1]) (by rw [stepS_y, stAt_y m plan _ (by omega)]; omega)] at h4
    have hs := costPl_succ m hpos
    rw [show plan.length - 1 + 1 = plan.length by omega] at hs
    rw [hs]
    simp at h4
    omega

/-- Each thickness is within its slope; the places behind the slopes are nothing. -/
def StFit (m : Wk) (s : St) : Prop := ∀ i, i < 4 → match m.slopes[i]? with
  | some x => 0 ≤ s.get i ∧ s.get i ≤ x.full
  | none => s.get i = 0
theorem mendC_fit {cs : List Craft} (hcs : ∀ c ∈ cs, CraftOk c) (k t full : Int) (ht : 0 ≤ t ∧ t ≤ full) : 0 ≤ mendC cs k t full ∧ mendC cs k t full ≤ full := by
  unfold mendC
  split
  · exact ht
  · split
    · rename_i c hc
      have := (hcs c (List.mem_of_getElem? hc)).add
      split <;> omega
    · exact ht
theorem takeOf_nonneg {m : Wk} (hm : m.Ok) {x : Slope} (hx : x ∈ m.slopes) (y : Int) : 0 ≤ takeOf x y := by
  unfold takeOf
  rw [List.getD_eq_getElem?_getD]
  cases he : x.takes[y.toNat % x.takes.length]? with
  | none => simp
  | some v => exact ((hm.slopes x hx).takes v (List.mem_of_getElem? he)).1
theorem leftS_fit {m : Wk} (hm : m.Ok) {x : Slope} (hx : x ∈ m.slopes) (y k t : Int) (ht : 0 ≤ t ∧ t ≤ x.full) : 0 ≤ leftS m.crafts x y k t ∧ leftS m.crafts x y k t ≤ x.full := by
  have h := mendC_fit hm.craft k t x.full ht
  have h2 := takeOf_nonneg hm hx y
  unfold leftS
  split
  · exact h
  · omega
theorem stepS_get (m : Wk) (s : St) (row : List Int) {i : Nat} (hi : i < 4) : (stepS m s row).get i = upd m.crafts m.slopes row s.y i (s.get i) := by
  match i, hi with
  | 0, _ => rfl
  | 1, _ => rfl
  | 2, _ => rfl
  | 3, _ => rfl
theorem stepS_fit {m : Wk} (hm : m.Ok) {s : St} (hs : StFit m s) (row : List Int) : StFit m (stepS m s row) := by
  intro i hi
  have h := hs i hi
  rw [stepS_get m s row hi]
  unfold upd
  cases he : m.slopes[i]? with
  | none => rw [he] at h; exact h
  | some x => rw [he] at h; exact leftS_fit hm (List.mem_of_getElem? he) _ _ _ h
theorem stOf_get (y : Int) (th : List Int) {i : Nat} (hi : i < 4) : (stOf y th).get i = th.getD i 0 := by
  match i, hi with
  | 0, _ => rfl
  | 1, _ => rfl
  | 2, _ => rfl
  | 3, _ => rfl
theorem firstS_fit {m : Wk} (hm : m.Ok) : StFit m (firstS m) := by
  intro i hi
  unfold firstS
  rw [stOf_get _ _ hi, List.getD_eq_getElem?_getD, nows, List.getElem?_map]
  cases he : m.slopes[i]? with
  | none => rfl
  | some x =>
    have := (hm.slopes x (List.mem_of_getElem? he)).now
    simpa using this
theorem reach_fit {m : Wk} (hm : m.Ok) {s t : St} (hs : StFit m s) (h : Reach m s t) : StFit m t := by
  induction h with
  | self => exact hs
  | step _ hu ih =>
    obtain ⟨_, r, _, _, rfl⟩ := mem_kids.1 hu
    exact stepS_fit hm ih r
theorem thicks_get (m : Wk) (s : St) {i : Nat} (hi : i < m.slopes.length) : (thicks m s).getD i 0 = s.get i := by
  unfold thicks
  rw [List.getD_eq_getElem?_getD, List.getElem?_map, List.getElem?_range hi]
  rfl
theorem thicks_out (m : Wk) (s : St) {i : Nat} (hi : m.slopes.length ≤ i) : (thicks m s).getD i 0 = 0 := by
  rw [List.getD_eq_getElem?_getD, List.getElem?_eq_none (by rw [thicks_length]; exact hi)]
  rfl
/-- Its thicknesses told, it is the state again. -/
theorem stOf_thicks {m : Wk} {s : St} (hs : StFit m s) : stOf s.y (thicks m s) = s := by
  have key : ∀ i, i < 4 → (thicks m s).getD i 0 = s.get i := by
    intro i hi
    rcases Nat.lt_or_ge i m.slopes.length with h | h
    · exact thicks_get m s h
    · have h2 := hs i hi
      rw [List.getElem?_eq_none h] at h2
      rw [thicks_out m s h]
      exact h2.symm
  have h0 := key 0 (by omega)
  have h1 := key 1 (by omega)
  have h2 := key 2 (by omega)
  have h3 := key 3 (by omega)
  unfold stOf
  rw [h0, h1, h2, h3]
  rfl
theorem fits_thicks {m : Wk} (hm : m.Ok) {s : St} (hs : StFit m s) : fitsTh m (thicks m s) = true := by
  have hf := hm.few
  refine fits_to (fun i hi => ?_)
  rw [thicks_length] at hi
  rw [thicks_get m s hi, outB_false]
  have h := hs i (by omega)
  unfold fullAt
  rw [List.getElem?_eq_getElem hi] at h ⊢
  exact h

/-- The states of the years, in order. -/
def liveS (m : Wk) : List St := (sortL (allS m (firstS m))).filter fun s => decide (s.y < m.years)
theorem worths_live (m : Wk) : worths m (sortL (allS m (firstS m))) = (liveS m).map (worthOf m) := rfl
theorem mem_live {m : Wk} {s : St} : s ∈ liveS m ↔ Reach m (firstS m) s ∧ s.y < m.years := by
  unfold liveS
  rw [List.mem_filter, sortL_mem, allS_mem, decide_eq_true_eq]
theorem live_sorted (m : Wk) : (liveS m).Pairwise fun a b => cmpS a b < 0 := by
  unfold liveS
  refine List.Pairwise.filter _ ?_
  have hn : (sortL (allS m (firstS m))).Nodup := (List.mergeSort_perm _ _).nodup_iff.2 (allS_nodup m _)
  refine (List.pairwise_and_iff.2 ⟨sortL_sorted _, hn⟩).imp ?_
  rintro a b ⟨h1, h2⟩
  cases h : ltOf cmpS a b
  · exact absurd (ltS_total a b h (by simpa using h1)) h2
  · rw [ltS, decide_eq_true_eq] at h
    rw [cmpS_lst]; exact h
theorem live_fit {m : Wk} (hm : m.Ok) {s : St} (h : s ∈ liveS m) : StFit m s := reach_fit hm (firstS_fit hm) (mem_live.1 h).1
theorem live_ok {m : Wk} (hm : m.Ok) {s : St} (h : s ∈ liveS m) : s.Ok m := (mem_live.1 h).1.ok hm (firstS_ok hm)
theorem stW_worth {m : Wk} {s : St} (h : StFit m s) : stW (worthOf m s) = s := stOf_thicks h
theorem woOk_worth {m : Wk} (hm : m.Ok) {s : St} (h : s ∈ liveS m) : woOk m (worthOf m s) = true := by
  have h1 := (live_ok hm h).year
  have h2 := (mem_live.1 h).2
  have h3 := valS_bd hm s
  unfold woOk worthOf
  simp only [Bool.and_eq_true, Bool.not_eq_true', Bool.or_eq_false_iff, outB_false, decide_eq_false_iff_not, Decidable.not_not]
  exact ⟨⟨⟨⟨by omega, by omega⟩, thicks_length m s⟩, h3⟩, fits_thicks hm (live_fit hm h)⟩
theorem listOk_worths {m : Wk} (hm : m.Ok) : listOk m ((liveS m).map (worthOf m)) = true := by
  refine listOk_to fun i hi => ?_
  rw [List.length_map] at hi
  unfold okAt
  rw [getD_lt (by simpa using hi), Bool.and_eq_true]
  refine ⟨by rw [List.getElem_map]; exact woOk_worth hm (List.getElem_mem hi), ?_⟩
  by_cases h0 : i = 0
  · simp [h0]
  · rw [getD_lt (by rw [List.length_map]; omega), List.getElem_map, List.getElem_map, stW_worth (live_fit hm (List.getElem_mem _)), stW_worth (live_fit hm (List.getElem_mem _))]
    have := List.pairwise_iff_getElem.1 (live_sorted m) (i - 1) i (by omega) hi (by omega)
    simp [this]
theorem costW_live {m : Wk} (hm : m.Ok) {s : St} (h : s ∈ liveS m) : costW ((liveS m).map (worthOf m)) s = some (valS m s) := by
  have := costW_at (listOk_apart (listOk_worths hm)) (worthOf m s) (List.mem_map_of_mem h)
  rw [stW_worth (live_fit hm h)] at this
  exact this
theorem live_next {m : Wk} {s : St} (h : s ∈ liveS m) {r : List Int} (hr : r ∈ rowsS m) (hk : keptS m s r = true) (hy : (stepS m s r).y < m.years) : stepS m s r ∈ liveS m :=
  mem_live.2 ⟨(mem_live.1 h).1.step (mem_kids.2 ⟨(mem_live.1 h).2, r, hr, hk, rfl⟩), hy⟩
theorem live_years {m : Wk} (hy : m.years = 0) : liveS m = [] := by
  unfold liveS
  rw [List.filter_eq_nil_iff]
  intro s hs
  rw [sortL_mem, allS_mem] at hs
  have := hs.y.1
  have h0 : (firstS m).y = 0 := rfl
  simp
  omega
/-- The values prove a number just if the cheapest plan costs no less. -/
theorem provesB_worths {m : Wk} (hm : m.Ok) (least : Int) : provesB m least ((liveS m).map (worthOf m)) = decide (least ≤ valS m (firstS m)) := by
  have hy0 := hm.years
  unfold provesB
  rw [listOk_worths hm, Bool.true_and]
  by_cases hy : m.years = 0
  · rw [if_pos hy, live_years hy, valS_end (by rw [hy]; exact Int.le_refl _)]
    simp
  · rw [if_neg hy, costW_live hm (mem_live.2 ⟨.self, show (0 : Int) < m.years by omega⟩)]
    have hall : (((liveS m).map (worthOf m)).all fun x => (rowsS m).all (rowProves m (costW ((liveS m).map (worthOf m))) (stW x) x.c)) = true := by
      rw [List.all_eq_true]
      intro x hx
      obtain ⟨s, hs, rfl⟩ := List.mem_map.1 hx
      rw [List.all_eq_true, stW_worth (live_fit hm hs)]
      intro r hr
      unfold rowProves
      cases hk : keptS m s r
      · rfl
      · have hle := valS_le (mem_live.1 hs).2 hr hk
        by_cases hyt : (stepS m s r).y < m.years
        · rw [costW_live hm (live_next hs hr hk hyt)]
          simp [worthOf]
          omega
        · rw [costW_year (listOk_worths hm) (Int.not_lt.1 hyt)]
          rw [valS_end (Int.not_lt.1 hyt)] at hle
          simp [worthOf, hyt]
          omega
    rw [hall]
    by_cases h : least ≤ valS m (firstS m)
    · have h2 : ¬ valS m (firstS m) < least := by omega
      simp [h, h2]
    · have h2 : valS m (firstS m) < least := by omega
      simp [h, h2]
/-- A state worth more: no proof. -/
theorem provesB_more {m : Wk} (hm : m.Ok) (least : Int) {i : Nat} {s : St} (hi : (liveS m)[i]? = some s) {c : Int} (hv : valS m s < 2000000000) (hc : valS m s < c) :
    provesB m least (((liveS m).map (worthOf m)).set i ⟨s.y, thicks m s, c⟩) = false := by
  have hsm := List.mem_of_getElem? hi
  have hil := (List.getElem?_eq_some_iff.1 hi).1
  cases hp : provesB m least (((liveS m).map (worthOf m)).set i ⟨s.y, thicks m s, c⟩) with
  | false => rfl
  | true =>
    exfalso
    have hy : m.years ≠ 0 := fun e => by
      rw [live_years e] at hsm
      cases hsm
    obtain ⟨hl, _, hrow⟩ := proves_parts hp hy
    have hap := listOk_apart hl
    have hst : stW ⟨s.y, thicks m s, c⟩ = s := stOf_thicks (live_fit hm hsm)
    have hcs : costW (((liveS m).map (worthOf m)).set i ⟨s.y, thicks m s, c⟩) s = some c := by
      have := costW_at hap ⟨s.y, thicks m s, c⟩ (List.mem_of_getElem? (i := i) (by rw [List.getElem?_set_self (by simpa using hil)]))
      rw [hst] at this
      exact this
    obtain ⟨r, hr, hk, he⟩ := valS_att (mem_live.1 hsm).2 hv
    obtain ⟨h1, h2⟩ := rowProves_kept (hrow s c hcs r hr) hk
    by_cases hyt : (stepS m s r).y < m.years
    · have hn := live_next hsm hr hk hyt
      obtain ⟨j, hj⟩ := List.getElem?_of_mem hn
      have hij : i ≠ j := fun e => by
        subst e
        rw [hi] at hj
        have e2 : s = stepS m s r := by simpa using hj
        have e3 : s.y = s.y + 1 := by rw [← stepS_y m s r, ← e2]
        omega
      have := costW_at hap (worthOf m (stepS m s r)) (List.mem_of_getElem? (i := j) (by rw [List.getElem?_set_ne hij, List.getElem?_map, hj]; rfl))
      rw [stW_worth (live_fit hm hn)] at this
      rw [this] at h2
      simp [worthOf] at h2
      omega
    · rw [costW_year hl (Int.not_lt.1 hyt)] at h2
      rw [valS_end (Int.not_lt.1 hyt)] at he
      simp at h2
      omega

theorem mayS_out {m : Wk} {row : List Int} (h : mayS m row = true) {s : Nat} (hs : s < row.length) : mayS m (row.set s (-1)) = true := by
  unfold mayS at h ⊢
  simp only [Bool.and_eq_true, List.all_eq_true, decide_eq_true_eq] at h ⊢
  obtain ⟨⟨h1, h2⟩, h3⟩ := h
  refine ⟨⟨fun x hx => ?_, by simpa using h2⟩, ?_⟩
  · rcases List.mem_or_eq_of_mem_set hx with h4 | h4
    · exact h1 x h4
    · subst h4
      exact ⟨by omega, by omega⟩
  · rw [List.countP_set hs]
    simp only [show decide ((0 : Int) ≤ -1) = false from rfl]
    simp only [Bool.false_eq_true, if_false]
    omega
def sizeAt (m : Wk) (i : Nat) : Int := match m.slopes[i]? with
  | some s => s.size
  | none => 0
theorem costTo_step (m : Wk) (row : List Int) (i : Nat) : costTo m row (i + 1) = costTo m row i + priceC m.crafts (row.getD i (-1)) * sizeAt m i := rfl
theorem getD_set {row : List Int} {s : Nat} (hs : s < row.length) (x d : Int) (i : Nat) : (row.set s x).getD i d = if i = s then x else row.getD i d := by
  rw [List.getD_eq_getElem?_getD, List.getD_eq_getElem?_getD, List.getElem?_set]
  by_cases h : s = i
  · subst h; simp [hs]
  · rw [if_neg h, if_neg (fun e => h e.symm)]
theorem costTo_set (m : Wk) {row : List Int} {s : Nat} (hs : s < row.length) (x : Int) : ∀ k, costTo m (row.set s x) k = costTo m row k + if s < k then (priceC m.crafts x - priceC m.crafts row[s]) * sizeAt m s else 0
  | 0 => by simp [costTo]
  | k + 1 => by
    rw [costTo_step, costTo_step, costTo_set m hs x k, getD_set hs]
    by_cases h : k = s
    · subst h
      rw [if_pos rfl, if_neg (by omega), if_pos (by omega), getD_lt hs, Int.sub_mul]
      omega
    · rw [if_neg h]
      by_cases h2 : s < k
      · rw [if_pos h2, if_pos (by omega)]; omega
      · rw [if_neg h2, if_neg (by omega)]; omega
theorem priceC_neg (cs : List Craft) {k : Int} (h : k < 0) : priceC cs k = 0 := by unfold priceC; rw [if_pos h]
theorem any_out {row : List Int} {s : Nat} (h : (row.set s (-1)).any (fun k => decide (0 ≤ k)) = true) : row.any (fun k => decide (0 ≤ k)) = true := by
  rw [List.any_eq_true] at h ⊢
  obtain ⟨x, hx, h2⟩ := h
  rcases List.mem_or_eq_of_mem_set hx with h4 | h4
  · exact ⟨x, h4, h2⟩
  · subst h4; simp at h2
theorem costS_out {m : Wk} (hm : m.Ok) {row : List Int} {s : Nat} (hs : s < row.length) : costS m (row.set s (-1)) ≤ costS m row - priceC m.crafts row[s] * sizeAt m s := by
  have hv := hm.visit
  have h1 := costTo_set m hs (-1) row.length
  rw [if_pos hs, priceC_neg _ (by omega), Int.sub_mul] at h1
  unfold costS
  rw [List.length_set, h1]
  by_cases ha : (row.set s (-1)).any (fun k => decide (0 ≤ k)) = true
  · rw [if_pos ha, if_pos (any_out ha)]; omega
  · rw [if_neg ha]
    split <;> omega
theorem costS_in {m : Wk} (hm : m.Ok) {row : List Int} {s : Nat} (hs : s < row.length) (hn : row[s] < 0) (x : Int) : costS m (row.set s x) ≤ costS m row + priceC m.crafts x * sizeAt m s + m.visit := by
  have hv := hm.visit
  have h1 := costTo_set m hs x row.length
  rw [if_pos hs, priceC_neg _ hn, Int.sub_mul] at h1
  unfold costS
  rw [List.length_set, h1]
  split <;> split <;> omega
theorem costPl_set (m : Wk) {plan : List (List Int)} {i : Nat} (hi : i < plan.length) (r : List Int) : ∀ k, k ≤ plan.length → costPl m (plan.set i r) k = costPl m plan k + if i < k then costS m r - costS m plan[i] else 0
  | 0, _ => by simp [costPl]
  | k + 1, hk => by
    have hk2 : k < plan.length := by omega
    rw [costPl_succ m (plan := plan.set i r) (by simpa using hk2), costPl_succ m hk2, costPl_set m hi r k (by omega), List.getElem_set]
    by_cases h : i = k
    · subst h
      rw [if_pos rfl, if_neg (by omega), if_pos (by omega)]; omega
    · rw [if_neg h]
      by_cases h2 : i < k
      · rw [if_pos h2, if_pos (by omega)]; omega
      · rw [if_neg h2, if_neg (by omega)]; omega
/-- One thing left out: the plan may be. -/
theorem planOk_out {m : Wk} {plan : List (List Int)} (h : planOk m plan = true) {y s : Nat} (hy : y < plan.length) (hs : s < m.slopes.length) : planOk m (plan.set y (plan[y].set s (-1))) = true := by
  have h1 := planOk_len h
  unfold planOk
  rw [Bool.and_eq_true, decide_eq_true_eq, List.length_set, List.all_eq_true]
  refine ⟨h1, fun r hr => ?_⟩
  rcases List.mem_or_eq_of_mem_set hr with h2 | h2
  · obtain ⟨k, hk⟩ := List.getElem?_of_mem h2
    have hkl := (List.getElem?_eq_some_iff.1 hk).1
    have := planOk_row h hkl
    rw [(List.getElem?_eq_some_iff.1 hk).2] at this
    exact this
  · rw [h2]
    exact mayS_out (planOk_row h hy) (by rw [(may_ok (planOk_row h hy)).len]; exact hs)
/-- One thing left out: it isn't cheaper and kept. -/
theorem out_ge {m : Wk} (hc : checkS m = 0) {plan : List (List Int)} (h : planOk m plan = true) {y s : Nat} (hy : y < plan.length) (hs : s < m.slopes.length) :
    (followS m (plan.set y (plan[y].set s (-1)))).2.2.2 = 0 ∧ ((followS m (plan.set y (plan[y].set s (-1)))).2.2.1 < 0 → valS m (firstS m) ≤ (followS m (plan.set y (plan[y].set s (-1)))).2.1) := by
  have hp := planOk_out h hy hs
  have he : (followS m (plan.set y (plan[y].set s (-1)))).2.2.2 = 0 := by
    unfold followS
    rw [if_pos hc, if_pos hp]
    split <;> rfl
  refine ⟨he, fun ha => ?_⟩
  obtain ⟨_, hpo, hk, hcost⟩ := followS_fine he (by omega)
  rw [hcost]
  exact plan_ge hpo hk
/-- One thing put off, all kept: it costs no less than the cheapest, and at most a visit more than before. -/
theorem moved_cost {m : Wk} (hm : m.Ok) {plan : List (List Int)} (h : planOk m plan = true) {y yr s : Nat} (hne : y ≠ yr) (hy : y < plan.length) (hyr : yr < plan.length) (hs : s < m.slopes.length) (hn : cellP plan y s < 0) :
    costPl m (movedS plan y yr s) plan.length ≤ costPl m plan plan.length + m.visit := by
  have l1 : s < plan[y].length := by rw [(may_ok (planOk_row h hy)).len]; exact hs
  have l2 : s < plan[yr].length := by rw [(may_ok (planOk_row h hyr)).len]; exact hs
  have hc1 : cellP plan y s = plan[y][s] := by unfold cellP; rw [getD_lt hy, getD_lt l1]
  have hc2 : cellP plan yr s = plan[yr][s] := by unfold cellP; rw [getD_lt hyr, getD_lt l2]
  rw [hc1] at hn
  unfold movedS
  rw [hc2, getD_lt hy, getD_lt hyr]
  rw [costPl_set m (by simpa using hyr) _ plan.length (by simp), costPl_set m hy _ plan.length (Nat.le_refl _), if_pos hyr, if_pos hy, List.getElem_set_ne hne]
  have e1 := costS_out hm l2
  have e2 := costS_in hm l1 hn plan[yr][s]
  omega
theorem lateTo_bd (good : Nat → Bool) (yr : Nat) : ∀ d, yr ≤ lateTo good yr d ∧ lateTo good yr d ≤ yr + d ∧ (lateTo good yr d = yr ∨ good (lateTo good yr d) = true)
  | 0 => by simp [lateTo]
  | d + 1 => by
    unfold lateTo
    by_cases h : good (yr + d + 1) = true
    · rw [if_pos h]; exact ⟨by omega, by omega, .inr h⟩
    · rw [if_neg h]
      obtain ⟨h1, h2, h3⟩ := lateTo_bd good yr d
      exact ⟨h1, by omega, h3⟩
/-- What MendPutOff needs of the cheapest plan. -/
structure PutFacts (m : Wk) (P : List (List Int)) (V : Int) : Prop where
  ok : m.Ok
  len : (P.length : Int) = m.years
  val : 0 ≤ V ∧ V ≤ 2000000000
  row : ∀ (k : Nat) (hk : k < P.length), P[k].length = m.slopes.length
  bad : ∀ year slope : Int, (year < 0 ∨ year ≥ m.years ∨ slope < 0 ∨ slope ≥ m.slopes.length ∨ cellP P year.toNat slope.toNat < 0) → lateS m P year slope = (0, 7)
  good : ∀ yr s : Nat, yr < P.length → s < m.slopes.length → ¬ cellP P yr s < 0 → ∃ n : Nat, lateS m P yr s = ((n : Int), 0) ∧ yr ≤ n ∧ n < P.length ∧
    (n ≠ yr → cellP P n s < 0 ∧ (followS m (movedS P n yr s)).2.2.2 = 0 ∧ (followS m (movedS P n yr s)).2.2.1 = -1 ∧ V ≤ (followS m (movedS P n yr s)).2.1 ∧ (followS m (movedS P n yr s)).2.1 ≤ V + m.visit)
  out : ∀ (y s : Nat) (hy : y < P.length), s < m.slopes.length → (followS m (P.set y (P[y].set s (-1)))).2.2.2 = 0 ∧ ((followS m (P.set y (P[y].set s (-1)))).2.2.1 < 0 → V ≤ (followS m (P.set y (P[y].set s (-1)))).2.1)
theorem putFacts {m : Wk} (hc : checkS m = 0) (hv : valS m (firstS m) < 2000000000) : PutFacts m (planS m) (valS m (firstS m)) := by
  have hm := checkS_ok hc
  have hfp := follow_planS hc hv
  have hl := planS_length (m := m) hm.years.1
  have hpo := planOk_planS hm hv
  have hfe : (followS m (planS m)).2.2.2 = 0 := by rw [hfp]
  have hfa : (followS m (planS m)).2.2.1 = -1 := by rw [hfp]
  have hyb := hm.years
  have hcost : costPl m (planS m) (planS m).length = valS m (firstS m) := by
    have h1 := costPl_planS hm hv (planS m).length (by omega)
    have h2 := (chS_ok hm hv (planS m).length (by omega)).y
    rw [valS_end (by rw [h2]; omega)] at h1
    omega
  refine ⟨hm, hl, valS_bd hm _, fun k hk => (may_ok (planOk_row hpo hk)).len, fun year slope h => ?_, fun yr s hy hs hn => ?_, fun y s hy hs => out_ge hc hpo hy hs⟩
  · unfold lateS
    rw [if_pos hfe, if_pos]
    simp only [Bool.or_eq_true, decide_eq_true_eq]
    rcases h with h | h | h | h | h
    · exact .inl (.inl (by simp [outB]; omega))
    · exact .inl (.inl (by simp [outB]; omega))
    · exact .inl (.inr (by simp [outB]; omega))
    · exact .inl (.inr (by simp [outB]; omega))
    · exact .inr h
  · have hb := lateTo_bd (goodY m (planS m) yr s) yr (m.years.toNat - 1 - yr)
    obtain ⟨b1, b2, b3⟩ := hb
    refine ⟨lateTo (goodY m (planS m) yr s) yr (m.years.toNat - 1 - yr), ?_, b1, by omega, fun hne => ?_⟩
    · unfold lateS
      rw [if_pos hfe, if_neg, if_pos hfa]
      · simp
      · simp only [Bool.or_eq_true, decide_eq_true_eq, Int.toNat_natCast]
        rintro ((h | h) | h)
        · simp [outB] at h; omega
        · simp [outB] at h; omega
        · exact hn h
    · have hg := b3.resolve_left hne
      generalize lateTo (goodY m (planS m) yr s) yr (m.years.toNat - 1 - yr) = n at *
      unfold goodY at hg
      simp only [Bool.and_eq_true, decide_eq_true_eq] at hg
      obtain ⟨⟨g1, g2⟩, g3⟩ := hg
      obtain ⟨_, f2, f3, f4⟩ := followS_fine g2 (by omega)
      have h1 := plan_ge f2 f3
      have h2 := moved_cost hm hpo hne (show n < (planS m).length by omega) hy hs g1
      rw [movedS_length] at f4 h1
      exact ⟨g1, g2, g3, by rw [f4]; exact h1, by rw [f4]; omega⟩

/-- A slope that is no harder to keep. -/
structure EasierS (x x' : Slope) : Prop where
  full : x'.full = x.full
  size : x'.size = x.size
  need : x'.need ≤ x.need
  now : x.now ≤ x'.now
  count : x'.takes.length = x.takes.length
  takes : ∀ j, x'.takes.getD j 0 ≤ x.takes.getD j 0
theorem EasierS.refl (x : Slope) : EasierS x x := ⟨rfl, rfl, Int.le_refl _, Int.le_refl _, rfl, fun _ => Int.le_refl _⟩
structure Easier (m m' : Wk) : Prop where
  len : m'.slopes.length = m.slopes.length
  each : ∀ (i : Nat) (x x' : Slope), m.slopes[i]? = some x → m'.slopes[i]? = some x' → EasierS x x'
  crafts : ∃ l, m'.crafts = m.crafts ++ l
  years : m'.years = m.years
  visit : m'.visit = m.visit
  hands : m.hands ≤ m'.hands
theorem Easier.at_ {m m' : Wk} (h : Easier m m') {i : Nat} {x : Slope} (hx : m.slopes[i]? = some x) : ∃ x', m'.slopes[i]? = some x' ∧ EasierS x x' := by
  have hl := (List.getElem?_eq_some_iff.1 hx).1
  have hl2 : i < m'.slopes.length := by rw [h.len]; exact hl
  exact ⟨_, List.getElem?_eq_getElem hl2, h.each i _ _ hx (List.getElem?_eq_getElem hl2)⟩
theorem Easier.out {m m' : Wk} (h : Easier m m') {i : Nat} (hx : m.slopes[i]? = none) : m'.slopes[i]? = none := by
  rw [List.getElem?_eq_none_iff] at hx ⊢
  rw [h.len]; exact hx
theorem craft_same {m m' : Wk} (h : Easier m m') {k : Int} (hk : k < m.crafts.length) (h0 : ¬ k < 0) : m'.crafts[k.toNat]? = m.crafts[k.toNat]? := by
  obtain ⟨l, hl⟩ := h.crafts
  rw [hl, List.getElem?_append_left (by omega)]
theorem priceC_same {m m' : Wk} (h : Easier m m') {k : Int} (hk : k < m.crafts.length) : priceC m'.crafts k = priceC m.crafts k := by
  unfold priceC
  by_cases h0 : k < 0
  · rw [if_pos h0, if_pos h0]
  · rw [if_neg h0, if_neg h0, craft_same h hk h0]
theorem mendC_same {m m' : Wk} (h : Easier m m') {k : Int} (hk : k < m.crafts.length) (t full : Int) : mendC m'.crafts k t full = mendC m.crafts k t full := by
  unfold mendC
  by_cases h0 : k < 0
  · rw [if_pos h0, if_pos h0]
  · rw [if_neg h0, if_neg h0, craft_same h hk h0]
theorem mendC_mono (cs : List Craft) (k full : Int) {t t' : Int} (h : t ≤ t') : mendC cs k t full ≤ mendC cs k t' full := by
  unfold mendC
  split
  · exact h
  · split
    · split <;> omega
    · exact h
theorem row_at {m : Wk} {row : List Int} (hr : RowOk m row) (i : Nat) : row.getD i (-1) < m.crafts.length := by
  rcases Nat.lt_or_ge i row.length with h | h
  · rw [getD_lt h]
    exact (hr.each _ (List.getElem_mem h)).2
  · rw [List.getD_eq_getElem?_getD, List.getElem?_eq_none h]
    show (-1 : Int) < _
    omega
theorem leftS_easier {m m' : Wk} (h : Easier m m') {x x' : Slope} (hx : EasierS x x') (y : Int) {k : Int} (hk : k < m.crafts.length) {t t' : Int} (ht : t ≤ t') : leftS m.crafts x y k t ≤ leftS m'.crafts x' y k t' := by
  have h1 := mendC_mono m.crafts k x.full ht
  have h2 := hx.takes (y.toNat % x.takes.length)
  unfold leftS takeOf
  rw [hx.count, hx.full, mendC_same h hk]
  split
  · exact h1
  · omega
theorem costTo_easier {m m' : Wk} (h : Easier m m') {row : List Int} (hr : RowOk m row) : ∀ k, costTo m' row k = costTo m row k
  | 0 => rfl
  | k + 1 => by
    rw [costTo_step, costTo_step, costTo_easier h hr k, priceC_same h (row_at hr k)]
    have : sizeAt m' k = sizeAt m k := by
      unfold sizeAt
      cases hx : m.slopes[k]? with
      | none => rw [h.out hx]
      | some x =>
        obtain ⟨x', hx', he⟩ := h.at_ hx
        rw [hx']
        exact he.size
    rw [this]
theorem costS_easier {m m' : Wk} (h : Easier m m') {row : List Int} (hr : RowOk m row) : costS m' row = costS m row := by
  unfold costS
  rw [costTo_easier h hr, h.visit]
theorem mayS_easier {m m' : Wk} (h : Easier m m') {row : List Int} (hr : mayS m row = true) : mayS m' row = true := by
  unfold mayS at hr ⊢
  simp only [Bool.and_eq_true, List.all_eq_true, decide_eq_true_eq] at hr ⊢
  obtain ⟨⟨h1, h2⟩, h3⟩ := hr
  obtain ⟨l, hl⟩ := h.crafts
  have h4 := h.hands
  refine ⟨⟨fun x hx => ?_, by rw [h.len]; exact h2⟩, by omega⟩
  have := h1 x hx
  rw [hl, List.length_append]
  omega
/-- One state is no worse than another. -/
def StGe (s s' : St) : Prop := s'.y = s.y ∧ ∀ i, i < 4 → s.get i ≤ s'.get i
theorem upd_easier {m m' : Wk} (h : Easier m m') {row : List Int} (hr : RowOk m row) (y : Int) (i : Nat) {t t' : Int} (ht : t ≤ t') : upd m.crafts m.slopes row y i t ≤ upd m'.crafts m'.slopes row y i t' := by
  unfold upd
  cases hx : m.slopes[i]? with
  | none => rw [h.out hx]; exact ht
  | some x =>
    obtain ⟨x', hx', he⟩ := h.at_ hx
    rw [hx']
    exact leftS_easier h he y (row_at hr i) ht
theorem stepS_easier {m m' : Wk} (h : Easier m m') {row : List Int} (hr : RowOk m row) {s s' : St} (hs : StGe s s') : StGe (stepS m s row) (stepS m' s' row) := by
  refine ⟨by rw [stepS_y, stepS_y, hs.1], fun i hi => ?_⟩
  rw [stepS_get m s row hi, stepS_get m' s' row hi, hs.1]
  exact upd_easier h hr _ _ (hs.2 i hi)
theorem keptS_easier {m m' : Wk} (h : Easier m m') (hf : m.slopes.length ≤ 4) {row : List Int} (hr : RowOk m row) {s s' : St} (hs : StGe s s') (hk : keptS m s row = true) : keptS m' s' row = true := by
  unfold keptS at hk ⊢
  rw [List.all_eq_true] at hk ⊢
  intro i hi
  rw [h.len] at hi
  have hi2 : i < m.slopes.length := by simpa using hi
  have h1 := hk i hi
  unfold keptAt at h1 ⊢
  obtain ⟨x', hx', he⟩ := h.at_ (List.getElem?_eq_getElem hi2)
  rw [hx']
  rw [List.getElem?_eq_getElem hi2] at h1
  simp only [decide_eq_true_eq] at h1 ⊢
  have h2 := leftS_easier h he s.y (row_at hr i) (hs.2 i (by omega))
  have h3 := he.need
  rw [hs.1]
  omega
theorem valS_easier {m m' : Wk} (hm : m.Ok) (hm' : m'.Ok) (h : Easier m m') : ∀ (n : Nat) (s s' : St), (m.years - s.y).toNat = n → StGe s s' → valS m' s' ≤ valS m s
  | 0, s, s', hn, hs => by
    rw [valS_end (m := m') (s := s') (by rw [h.years, hs.1]; omega), valS_end (m := m) (s := s) (by omega)]
    exact Int.le_refl _
  | n + 1, s, s', hn, hs => by
    by_cases hv : valS m s < 2000000000
    · obtain ⟨r, hr, hk, he⟩ := valS_att (by omega) hv
      obtain ⟨hro, hma⟩ := rowsS_mem hr
      have h1 := valS_le (m := m') (s := s') (by rw [h.years, hs.1]; omega) (row_mem (mayS_easier h hma)) (keptS_easier h hm.few hro hs hk)
      have h2 := valS_easier hm hm' h n (stepS m s r) (stepS m' s' r) (by rw [stepS_y]; omega) (stepS_easier h hro hs)
      rw [costS_easier h hro] at h1
      omega
    · have := (valS_bd hm' s').2
      omega
theorem firstS_easier {m m' : Wk} (h : Easier m m') : StGe (firstS m) (firstS m') := by
  refine ⟨rfl, fun i hi => ?_⟩
  unfold firstS
  rw [stOf_get _ _ hi, stOf_get _ _ hi, List.getD_eq_getElem?_getD, List.getD_eq_getElem?_getD, nows, nows, List.getElem?_map, List.getElem?_map]
  cases hx : m.slopes[i]? with
  | none => rw [h.out hx]; exact Int.le_refl _
  | some x =>
    obtain ⟨x', hx', he⟩ := h.at_ hx
    rw [hx']
    simpa using he.now
/-- What a call of Cheapest says of works no harder. -/
theorem cheapS_easier {m m' : Wk} (hc : checkS m = 0) (hc' : checkS m' = 0) (hv : valS m (firstS m) < 2000000000) (h : Easier m m') :
    (cheapS m').2.2.2 = 3 ∨ ((cheapS m').2.2.2 = 0 ∧ (cheapS m').2.2.1 = true ∧ (cheapS m').2.1 ≤ valS m (firstS m)) := by
  have hle := valS_easier (checkS_ok hc) (checkS_ok hc') h _ _ _ rfl (firstS_easier h)
  unfold cheapS
  rw [if_pos hc']
  split
  · exact .inl rfl
  · rw [if_neg (by omega)]
    exact .inr ⟨rfl, rfl, hle⟩
theorem orL_all : ∀ {l : List Int}, (∀ x ∈ l, x = 0) → orL l = 0
  | [], _ => rfl
  | y :: l, h => by
    simp only [orL]
    rw [if_pos (h y (by simp))]
    exact orL_all fun x hx => h x (by simp [hx])
theorem slopeE_of {s : Slope} (h : SlopeOk s) : slopeE s = 0 := by
  obtain ⟨h1, h2, h3, h4, h5, h6⟩ := h
  have a1 : slopeBad s = false := by simp only [slopeBad, Bool.or_eq_false_iff, outB_false]; exact ⟨⟨⟨h1, h2⟩, h3⟩, h4⟩
  have a2 : takesBad s.takes = false := by
    unfold takesBad
    rw [List.any_eq_false]
    intro t ht
    have := outB_false.2 (h6 t ht)
    simp [this]
  unfold slopeE
  rw [a1, a2]
  simp
  omega
theorem craftBad_of {c : Craft} (h : CraftOk c) : craftBad c = false := by
  obtain ⟨h1, h2, h3⟩ := h
  simp only [craftBad, Bool.or_eq_false_iff, outB_false]
  refine ⟨⟨h1, h2⟩, ?_⟩
  cases hs : c.strip
  · rfl
  · simp [h3 hs]
/-- What is within bounds has no error. -/
theorem checkS_of {m : Wk} (hm : m.Ok) : checkS m = 0 := by
  obtain ⟨h1, h2, h3, h4, h5, h6, h7, h8⟩ := hm
  unfold checkS
  rw [if_neg (by omega), if_neg (by omega), if_pos (orL_all fun x hx => by
    obtain ⟨s, hs, rfl⟩ := List.mem_map.1 hx
    exact slopeE_of (h3 s hs)), if_neg (by omega)]
  have a1 : m.crafts.any craftBad = false := by
    rw [List.any_eq_false]
    intro c hc
    simp [craftBad_of (h5 c hc)]
  have a2 : restBad m = false := by simp only [restBad, Bool.or_eq_false_iff, outB_false]; exact ⟨⟨h6, h7⟩, h8⟩
  rw [a1, a2]
  rfl
/-- One slope turned. -/
def turnS (m : Wk) (i : Nat) (x : Slope) : Wk := { m with slopes := m.slopes.set i x }
theorem turnS_easier {m : Wk} {i : Nat} {x x' : Slope} (hx : m.slopes[i]? = some x) (h : EasierS x x') : Easier m (turnS m i x') := by
  refine ⟨by simp [turnS], fun j y y' hy hy' => ?_, ⟨[], by simp [turnS]⟩, rfl, rfl, Int.le_refl _⟩
  simp only [turnS] at hy'
  rw [List.getElem?_set] at hy'
  by_cases hij : i = j
  · subst hij
    rw [hx] at hy
    rw [if_pos rfl, if_pos (List.getElem?_eq_some_iff.1 hx).1] at hy'
    cases hy; cases hy'
    exact h
  · rw [if_neg hij, hy] at hy'
    cases hy'
    exact EasierS.refl _
theorem turnS_ok {m : Wk} (hm : m.Ok) {i : Nat} {x' : Slope} (h : SlopeOk x') : (turnS m i x').Ok := by
  obtain ⟨h1, h2, h3, h4, h5, h6, h7, h8⟩ := hm
  refine ⟨by simpa [turnS] using h1, by simpa [turnS] using h2, fun s hs => ?_, h4, h5, h6, h7, h8⟩
  simp only [turnS] at hs
  rcases List.mem_or_eq_of_mem_set hs with h | h
  · exact h3 s h
  · rw [h]; assumption
def thicker (x : Slope) (n : Int) : Slope := { x with now := min (x.now + n) x.full }
def needier (x : Slope) (n : Int) : Slope := { x with need := max (x.need - n) 0 }
def milder (x : Slope) (n : Int) : Slope := { x with takes := x.takes.map fun t => max (t - n) 0 }
theorem thicker_ok {x : Slope} (h : SlopeOk x) {n : Int} (hn : 0 ≤ n) : SlopeOk (thicker x n) ∧ EasierS x (thicker x n) := by
  obtain ⟨h1, h2, h3, h4, h5, h6⟩ := h
  exact ⟨⟨h1, h2, by simp only [thicker]; omega, h4, h5, h6⟩, rfl, rfl, Int.le_refl _, by simp only [thicker]; omega, rfl, fun _ => Int.le_refl _⟩
theorem needier_ok {x : Slope} (h : SlopeOk x) {n : Int} (hn : 0 ≤ n) : SlopeOk (needier x n) ∧ EasierS x (needier x n) := by
  obtain ⟨h1, h2, h3, h4, h5, h6⟩ := h
  exact ⟨⟨h1, by simp only [needier]; omega, h3, h4, h5, h6⟩, rfl, rfl, by simp only [needier]; omega, Int.le_refl _, rfl, fun _ => Int.le_refl _⟩
theorem milder_ok {x : Slope} (h : SlopeOk x) {n : Int} (hn : 0 ≤ n) : SlopeOk (milder x n) ∧ EasierS x (milder x n) := by
  obtain ⟨h1, h2, h3, h4, h5, h6⟩ := h
  refine ⟨⟨h1, h2, h3, h4, by simpa [milder] using h5, fun t ht => ?_⟩, rfl, rfl, Int.le_refl _, Int.le_refl _, by simp [milder], fun j => ?_⟩
  · simp only [milder, List.mem_map] at ht
    obtain ⟨u, hu, rfl⟩ := ht
    have := h6 u hu
    omega
  · simp only [milder]
    rw [List.getD_eq_getElem?_getD, List.getD_eq_getElem?_getD, List.getElem?_map]
    cases hj : x.takes[j]? with
    | none => exact Int.le_refl _
    | some u =>
      have := h6 u (List.mem_of_getElem? hj)
      simp only [Option.map_some, Option.getD_some]
      omega
def handier (m : Wk) : Wk := { m with hands := min (m.hands + 1) 4 }
def craftier (m : Wk) (c : Craft) : Wk := { m with crafts := m.crafts ++ [c] }
theorem handier_ok {m : Wk} (hm : m.Ok) : (handier m).Ok ∧ Easier m (handier m) := by
  obtain ⟨h1, h2, h3, h4, h5, h6, h7, h8⟩ := hm
  exact ⟨⟨h1, h2, h3, h4, h5, h6, h7, by simp only [handier]; omega⟩, rfl, fun i x x' hx hx' => by
    simp only [handier] at hx'
    rw [hx] at hx'; cases hx'; exact EasierS.refl _, ⟨[], by simp [handier]⟩, rfl, rfl, by simp only [handier]; omega⟩
theorem craftier_easier (m : Wk) (c : Craft) : Easier m (craftier m c) :=
  ⟨rfl, fun i x x' hx hx' => by
    simp only [craftier] at hx'
    rw [hx] at hx'; cases hx'; exact EasierS.refl _, ⟨[c], rfl⟩, rfl, rfl, Int.le_refl _⟩
theorem craftier_check {m : Wk} (hm : m.Ok) (c : Craft) (hf : m.crafts.length < 4) : checkS (craftier m c) = 0 ∨ checkS (craftier m c) = 1 := by
  obtain ⟨h1, h2, h3, h4, h5, h6, h7, h8⟩ := hm
  have e0 : ¬ 4 < (craftier m c).slopes.length := by simp only [craftier]; omega
  have e1 : ¬ (craftier m c).slopes.length = 0 := by simp only [craftier]; omega
  have e2 : orL ((craftier m c).slopes.map slopeE) = 0 := orL_all fun x hx => by
    obtain ⟨s, hs, rfl⟩ := List.mem_map.1 hx
    exact slopeE_of (h3 s hs)
  have e3 : ¬ 4 < (craftier m c).crafts.length := by simp only [craftier, List.length_append, List.length_singleton]; omega
  have key : checkS (craftier m c) = if (craftier m c).crafts.any craftBad then 1 else if restBad (craftier m c) then 1 else 0 := by
    unfold checkS
    rw [if_neg e0, if_neg e1, if_pos e2, if_neg e3]
  rw [key]
  split
  · exact .inr rfl
  · split
    · exact .inr rfl
    · exact .inl rfl
end Go.Proofs.YtcbhldfipfcjaaaGreatDoor
