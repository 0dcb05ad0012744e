/- The specification's Paid: the walk. -/
import Derived.Test.YtccplobhfokcgaaPn
import Derived.Test.YtccplobhfokcgaaRa
import Derived.Test.YtccplobhfokcgaaRd
import Derived.Test.YtccplobhfokcgaaRf

/- The specification's lists of thicknesses by years, and what they cost: plainly. -/
namespace Go.Proofs.Ytccplobhfokcgaa
open Go Go.RowKit Go.Shelf
set_option maxRecDepth 100000

/-- Where thicknesses are in a list that rises, or would be. -/
def placeT : List (List Int) → List Int → Nat
  | [], _ => 0
  | x :: l, t => if beforeB x t then placeT l t + 1 else 0
/-- Put in, once. -/
def insT : List (List Int) → List Int → List (List Int)
  | [], t => [t]
  | x :: l, t => if beforeB x t then x :: insT l t else if x = t then x :: l else t :: x :: l
def RisesT (l : List (List Int)) : Prop := l.Pairwise fun a b => lexI a b < 0
theorem placeT_le : ∀ (l : List (List Int)) (t : List Int), placeT l t ≤ l.length
  | [], _ => Nat.le_refl _
  | x :: l, t => by
    have := placeT_le l t
    unfold placeT
    split <;> simp <;> omega
theorem placeT_less : ∀ (l : List (List Int)) (t : List Int) (j : Nat) (x : List Int), j < placeT l t → l[j]? = some x → beforeB x t = true
  | [], _, j, x, _, h => by simp at h
  | y :: l, t, 0, x, hj, h => by
    simp at h
    subst h
    unfold placeT at hj
    by_cases hb : beforeB y t = true
    · exact hb
    · rw [if_neg hb] at hj; omega
  | y :: l, t, j + 1, x, hj, h => by
    unfold placeT at hj
    by_cases hb : beforeB y t = true
    · rw [if_pos hb] at hj
      exact placeT_less l t j x (by omega) (by simpa using h)
    · rw [if_neg hb] at hj; omega
theorem placeT_not : ∀ (l : List (List Int)) (t x : List Int), l[placeT l t]? = some x → beforeB x t = false
  | [], _, x, h => by simp [placeT] at h
  | y :: l, t, x, h => by
    unfold placeT at h
    by_cases hb : beforeB y t = true
    · rw [if_pos hb] at h
      exact placeT_not l t x (by simpa using h)
    · rw [if_neg hb] at h
      simp at h
      subst h
      simpa using hb
/-- What stops at a place is the place. -/
theorem placeT_at (l : List (List Int)) (t : List Int) (i : Nat) (hi : i ≤ l.length) (hl : ∀ j x, j < i → l[j]? = some x → beforeB x t = true) (hn : ∀ x, l[i]? = some x → beforeB x t = false) : placeT l t = i := by
  induction l generalizing i with
  | nil => simp at hi; subst hi; rfl
  | cons y l ih =>
    unfold placeT
    cases i with
    | zero => rw [if_neg (by rw [hn y (by simp)]; simp)]
    | succ i =>
      rw [if_pos (hl 0 y (by omega) (by simp)), ih i (by simpa using hi) (fun j x hj h => hl (j + 1) x (by omega) (by simpa using h)) (fun x h => hn x (by simpa using h))]
theorem before_lex {a b : List Int} : beforeB a b = true ↔ lexI a b < 0 := by unfold beforeB; rw [decide_eq_true_eq]
theorem before_self (t : List Int) : beforeB t t = false := by unfold beforeB; rw [lexI_self]; rfl
theorem insT_place : ∀ (l : List (List Int)) (t : List Int), insT l t = if l[placeT l t]? = some t then l else l.take (placeT l t) ++ t :: l.drop (placeT l t)
  | [], t => by simp [insT, placeT]
  | x :: l, t => by
    unfold insT placeT
    by_cases hb : beforeB x t = true
    · rw [if_pos hb, if_pos hb, insT_place l t]
      simp only [List.getElem?_cons_succ, List.take_succ_cons, List.drop_succ_cons, List.cons_append]
      split <;> rfl
    · rw [if_neg hb, if_neg hb]
      by_cases hx : x = t
      · simp [hx]
      · simp [hx]
theorem insT_mem : ∀ {l : List (List Int)} {t x : List Int}, x ∈ insT l t ↔ x ∈ l ∨ x = t
  | [], t, x => by simp [insT]
  | y :: l, t, x => by
    unfold insT
    by_cases hb : beforeB y t = true
    · rw [if_pos hb, List.mem_cons, insT_mem, List.mem_cons, or_assoc]
    · rw [if_neg hb]
      by_cases hy : y = t
      · rw [if_pos hy]
        subst hy
        simp
        exact fun h => .inl h
      · rw [if_neg hy, List.mem_cons]
        exact or_comm
theorem insT_length (l : List (List Int)) (t : List Int) : (insT l t).length = if l[placeT l t]? = some t then l.length else l.length + 1 := by
  have h := placeT_le l t
  rw [insT_place]
  split
  · rfl
  · simp only [List.length_append, List.length_take, List.length_cons, List.length_drop]; omega
theorem lex_tot {a b : List Int} (hl : a.length = b.length) (h1 : ¬ lexI a b < 0) (h2 : a ≠ b) : lexI b a < 0 := by
  have h3 := lexI_flip a b
  have h4 : lexI a b ≠ 0 := fun e => h2 (lexI_zero _ _ hl e)
  omega
theorem insT_rises {n : Nat} : ∀ {l : List (List Int)} {t : List Int}, (∀ x ∈ l, x.length = n) → t.length = n → RisesT l → RisesT (insT l t)
  | [], t, _, _, _ => by simp [insT, RisesT]
  | y :: l, t, hl, ht, hs => by
    obtain ⟨h1, h2⟩ := List.pairwise_cons.1 hs
    have hy := hl y (by simp)
    unfold insT
    by_cases hb : beforeB y t = true
    · rw [if_pos hb]
      refine List.pairwise_cons.2 ⟨fun x hx => ?_, insT_rises (fun x hx => hl x (by simp [hx])) ht h2⟩
      rcases insT_mem.1 hx with hx | hx
      · exact h1 x hx
      · subst hx; exact before_lex.1 hb
    · rw [if_neg hb]
      by_cases hyt : y = t
      · rw [if_pos hyt]; exact hs
      · rw [if_neg hyt]
        have hty : lexI t y < 0 := lex_tot (by rw [hy, ht]) (fun h => hb (before_lex.2 h)) hyt
        refine List.pairwise_cons.2 ⟨fun x hx => ?_, hs⟩
        rcases List.mem_cons.1 hx with rfl | hx
        · exact hty
        · exact lexI_trans _ _ _ hty (h1 x hx)
theorem rises_nodup {l : List (List Int)} (h : RisesT l) : l.Nodup :=
  List.Pairwise.imp (fun {a b} h e => by subst e; rw [lexI_self] at h; omega) h
theorem placeT_mem {l : List (List Int)} {t : List Int} (h : RisesT l) (ht : t ∈ l) : l[placeT l t]? = some t := by
  obtain ⟨i, hi⟩ := List.getElem?_of_mem ht
  have hil := (List.getElem?_eq_some_iff.1 hi).1
  rw [placeT_at l t i (by omega) (fun j x hj hx => ?_) (fun x hx => ?_)]
  · exact hi
  · obtain ⟨hjl, hxe⟩ := List.getElem?_eq_some_iff.1 hx
    have := List.pairwise_iff_getElem.1 h j i hjl hil hj
    rw [hxe, (List.getElem?_eq_some_iff.1 hi).2] at this
    exact before_lex.2 this
  · rw [hi] at hx
    cases hx
    exact before_self _
theorem foldl_ins_mem {x : List Int} : ∀ (K l : List (List Int)), x ∈ K.foldl insT l ↔ x ∈ l ∨ x ∈ K
  | [], l => by simp
  | k :: K, l => by rw [List.foldl_cons, foldl_ins_mem K, insT_mem, List.mem_cons, or_assoc]
theorem foldl_ins_rises {n : Nat} : ∀ (K l : List (List Int)), (∀ x ∈ l, x.length = n) → (∀ x ∈ K, x.length = n) → RisesT l → RisesT (K.foldl insT l)
  | [], l, _, _, h => h
  | k :: K, l, hl, hK, h => foldl_ins_rises K (insT l k) (fun x hx => (insT_mem.1 hx).elim (hl x) (fun e => e ▸ hK k (by simp))) (fun x hx => hK x (by simp [hx])) (insT_rises hl (hK k (by simp)) h)

/-! ### Years -/
/-- What the rows leave of thicknesses within a year. -/
def kidT (m : Wk) (y : Int) (t : List Int) (rows : List (List Int)) : List (List Int) := (rows.filter fun r => keptS m (stOf y t) r).map fun r => thicks m (stepS m (stOf y t) r)
def nextT (m : Wk) (y : Int) (now : List (List Int)) : List (List Int) := (now.flatMap fun t => kidT m y t (rowsS m)).foldl insT []
/-- The thicknesses at the beginning of each year, from a year on. -/
def levT (m : Wk) (y : Int) (th : List Int) : Nat → List (List Int)
  | 0 => [th]
  | k + 1 => nextT m (y + k) (levT m y th k)
def lenT (m : Wk) (y : Int) (th : List Int) : Nat → Nat
  | 0 => 1
  | k + 1 => lenT m y th k + (levT m y th (k + 1)).length
structure FitT (m : Wk) (th : List Int) : Prop where
  len : th.length = m.slopes.length
  fit : StFit m (stOf 0 th)
theorem FitT.st {m : Wk} {th : List Int} (h : FitT m th) (y : Int) : StFit m (stOf y th) := h.fit
theorem fitT_thicks {m : Wk} {s : St} (h : StFit m s) : FitT m (thicks m s) := by
  refine ⟨thicks_length m s, ?_⟩
  have e := stOf_thicks h
  intro i hi
  have h1 := h i hi
  rw [← e] at h1
  exact h1
theorem thicks_stOf {m : Wk} (hf : m.slopes.length ≤ 4) {th : List Int} (hl : th.length = m.slopes.length) (y : Int) : thicks m (stOf y th) = th := by
  refine List.ext_getElem (by rw [thicks_length, hl]) fun i h1 h2 => ?_
  have h3 : i < m.slopes.length := by omega
  have := thicks_get m (stOf y th) h3
  rw [getD_lt h1, stOf_get _ _ (by omega), getD_lt h2] at this
  exact this
theorem stOf_inj {m : Wk} (hf : m.slopes.length ≤ 4) {a b : List Int} (ha : a.length = m.slopes.length) (hb : b.length = m.slopes.length) {y z : Int} (h : stOf y a = stOf z b) : y = z ∧ a = b := by
  have e1 := thicks_stOf hf ha y
  have e2 := thicks_stOf hf hb z
  have e3 : (stOf y a).y = (stOf z b).y := by rw [h]
  exact ⟨e3, by rw [← e1, ← e2, h]⟩
theorem kidT_mem {m : Wk} {y : Int} {t : List Int} {rows : List (List Int)} {u : List Int} : u ∈ kidT m y t rows ↔ ∃ r ∈ rows, keptS m (stOf y t) r = true ∧ thicks m (stepS m (stOf y t) r) = u := by
  unfold kidT
  simp only [List.mem_map, List.mem_filter]
  constructor
  · rintro ⟨r, ⟨h1, h2⟩, h3⟩; exact ⟨r, h1, h2, h3⟩
  · rintro ⟨r, h1, h2, h3⟩; exact ⟨r, ⟨h1, h2⟩, h3⟩
theorem nextT_mem {m : Wk} {y : Int} {now : List (List Int)} {u : List Int} : u ∈ nextT m y now ↔ ∃ t ∈ now, ∃ r ∈ rowsS m, keptS m (stOf y t) r = true ∧ thicks m (stepS m (stOf y t) r) = u := by
  unfold nextT
  rw [foldl_ins_mem]
  simp only [List.not_mem_nil, false_or, List.mem_flatMap, kidT_mem]
theorem stepS_stOf (m : Wk) (hm : m.Ok) {y : Int} {t r : List Int} (h : FitT m t) : stOf (y + 1) (thicks m (stepS m (stOf y t) r)) = stepS m (stOf y t) r := stOf_thicks (stepS_fit hm (h.st y) r)
theorem levT_fit {m : Wk} (hm : m.Ok) {y : Int} {th : List Int} (h : FitT m th) : ∀ (k : Nat) (t : List Int), t ∈ levT m y th k → FitT m t
  | 0, t, ht => by simp [levT] at ht; subst ht; exact h
  | k + 1, t, ht => by
    obtain ⟨u, hu, r, _, _, rfl⟩ := nextT_mem.1 ht
    exact fitT_thicks (stepS_fit hm ((levT_fit hm h k u hu).st _) r)
theorem levT_rises {m : Wk} {y : Int} {th : List Int} : ∀ k : Nat, RisesT (levT m y th k)
  | 0 => by simp [levT, RisesT]
  | k + 1 => foldl_ins_rises (n := m.slopes.length) _ _ (fun x hx => by cases hx) (fun x hx => by
      obtain ⟨t, _, h⟩ := List.mem_flatMap.1 hx
      obtain ⟨r, _, _, rfl⟩ := kidT_mem.1 h
      exact thicks_length _ _) (by simp [RisesT])
theorem levT_reach {m : Wk} (hm : m.Ok) {y : Int} {th : List Int} (h : FitT m th) : ∀ (k : Nat), y + k ≤ m.years → ∀ t ∈ levT m y th k, Reach m (stOf y th) (stOf (y + k) t)
  | 0, _, t, ht => by
    simp [levT] at ht; subst ht
    rw [show y + ((0 : Nat) : Int) = y by omega]
    exact .self
  | k + 1, hk, t, ht => by
    obtain ⟨u, hu, r, hr, hkp, rfl⟩ := nextT_mem.1 ht
    have ih := levT_reach hm h k (by omega) u hu
    have e := stepS_stOf m hm (y := y + k) (r := r) (levT_fit hm h k u hu)
    rw [show y + ((k + 1 : Nat) : Int) = y + k + 1 by omega, e]
    exact ih.step (mem_kids.2 ⟨by show y + (k : Int) < _; omega, r, hr, hkp, rfl⟩)
theorem reach_levT {m : Wk} (hm : m.Ok) {y : Int} {th : List Int} (h : FitT m th) {u : St} (hu : Reach m (stOf y th) u) : thicks m u ∈ levT m y th (u.y - y).toNat := by
  induction hu with
  | self =>
    have e : (stOf y th).y = y := rfl
    rw [e, show (y - y).toNat = 0 by omega, thicks_stOf hm.few h.len]
    simp [levT]
  | step h1 hk ih =>
    rename_i t u
    obtain ⟨hy, r, hr, hkp, rfl⟩ := mem_kids.1 hk
    have hy2 := h1.y.1
    have e0 : (stOf y th).y = y := rfl
    rw [e0] at hy2
    have e1 := stOf_thicks (reach_fit hm (h.st y) h1)
    rw [stepS_y, show (t.y + 1 - y).toNat = (t.y - y).toNat + 1 by omega]
    refine nextT_mem.2 ⟨_, ih, r, hr, ?_, ?_⟩
    · rw [show y + ((t.y - y).toNat : Int) = t.y by omega, e1]; exact hkp
    · rw [show y + ((t.y - y).toNat : Int) = t.y by omega, e1]
/-- All states of the years up to one. -/
def allT (m : Wk) (y : Int) (th : List Int) : Nat → List St
  | 0 => [stOf y th]
  | k + 1 => allT m y th k ++ (levT m y th (k + 1)).map (stOf (y + ((k + 1 : Nat) : Int)))
theorem allT_length (m : Wk) (y : Int) (th : List Int) : ∀ k, (allT m y th k).length = lenT m y th k
  | 0 => rfl
  | k + 1 => by rw [allT, lenT, List.length_append, List.length_map, allT_length m y th k]
theorem allT_mem {m : Wk} {y : Int} {th : List Int} {s : St} : ∀ {k : Nat}, s ∈ allT m y th k ↔ ∃ j, j ≤ k ∧ ∃ t ∈ levT m y th j, s = stOf (y + (j : Int)) t
  | 0 => by
    constructor
    · intro h
      simp [allT] at h
      exact ⟨0, Nat.le_refl _, th, by simp [levT], by rw [h, show y + ((0 : Nat) : Int) = y by omega]⟩
    · rintro ⟨j, hj, t, ht, rfl⟩
      obtain rfl : j = 0 := by omega
      simp [levT] at ht
      subst ht
      rw [show y + ((0 : Nat) : Int) = y by omega]
      simp [allT]
  | k + 1 => by
    rw [allT, List.mem_append, allT_mem, List.mem_map]
    constructor
    · rintro (⟨j, hj, h⟩ | ⟨t, ht, rfl⟩)
      · exact ⟨j, by omega, h⟩
      · exact ⟨k + 1, Nat.le_refl _, t, ht, rfl⟩
    · rintro ⟨j, hj, t, ht, rfl⟩
      rcases Nat.lt_or_ge k j with h | h
      · obtain rfl : j = k + 1 := by omega
        exact .inr ⟨t, ht, rfl⟩
      · exact .inl ⟨j, h, t, ht, rfl⟩
theorem map_nodup {m : Wk} (hm : m.Ok) {y : Int} {l : List (List Int)} (hl : ∀ t ∈ l, t.length = m.slopes.length) (hn : l.Nodup) : (l.map (stOf y)).Nodup := by
  induction l with
  | nil => exact List.nodup_nil
  | cons x l ih =>
    obtain ⟨h1, h2⟩ := List.nodup_cons.1 hn
    rw [List.map_cons, List.nodup_cons]
    refine ⟨fun h => ?_, ih (fun t ht => hl t (by simp [ht])) h2⟩
    obtain ⟨t, ht, he⟩ := List.mem_map.1 h
    have := (stOf_inj hm.few (hl t (by simp [ht])) (hl x (by simp)) he).2
    subst this
    exact h1 ht
theorem allT_year {m : Wk} {y : Int} {th : List Int} {k : Nat} {s : St} (h : s ∈ allT m y th k) : s.y ≤ y + k := by
  obtain ⟨j, hj, t, _, rfl⟩ := allT_mem.1 h
  show y + (j : Int) ≤ _
  omega
theorem snoc_nodup {m : Wk} (hm : m.Ok) {y : Int} {th : List Int} {k : Nat} (hk : (allT m y th k).Nodup) {l : List (List Int)} (hl : ∀ t ∈ l, t.length = m.slopes.length) (hn : l.Nodup) : (allT m y th k ++ l.map (stOf (y + ((k + 1 : Nat) : Int)))).Nodup := by
  refine List.nodup_append.2 ⟨hk, map_nodup hm hl hn, fun a ha b hb => ?_⟩
  rintro rfl
  obtain ⟨t, _, rfl⟩ := List.mem_map.1 hb
  have := allT_year ha
  have e : (stOf (y + ((k + 1 : Nat) : Int)) t).y = y + ((k + 1 : Nat) : Int) := rfl
  omega
theorem allT_nodup {m : Wk} (hm : m.Ok) {y : Int} {th : List Int} (h : FitT m th) : ∀ k, (allT m y th k).Nodup
  | 0 => by simp [allT]
  | k + 1 => snoc_nodup hm (allT_nodup hm h k) (fun t ht => (levT_fit hm h (k + 1) t ht).len) (rises_nodup (levT_rises _))
theorem allT_reach {m : Wk} (hm : m.Ok) {y : Int} {th : List Int} (h : FitT m th) {k : Nat} (hk : y + k ≤ m.years) {s : St} (hs : s ∈ allT m y th k) : Reach m (stOf y th) s := by
  obtain ⟨j, hj, t, ht, rfl⟩ := allT_mem.1 hs
  exact levT_reach hm h j (by omega) t ht
/-- All of them: as many as can be come to. -/
theorem lenT_all {m : Wk} (hm : m.Ok) {y : Int} {th : List Int} (h : FitT m th) {k : Nat} (hk : y + k = m.years) : lenT m y th k = (allS m (stOf y th)).length := by
  rw [← allT_length]
  refine Nat.le_antisymm (nodup_length _ _ (allT_nodup hm h k) fun t ht => allS_mem.2 (allT_reach hm h (by omega) ht)) (nodup_length _ _ (allS_nodup m _) fun s hs => ?_)
  have hr := allS_mem.1 hs
  have hy := hr.y.1
  have e0 : (stOf y th).y = y := rfl
  rw [e0] at hy
  refine allT_mem.2 ⟨(s.y - y).toNat, ?_, _, reach_levT hm h hr, ?_⟩
  · rcases hr.y.2 with h1 | h1
    · omega
    · rw [h1, e0]; omega
  · rw [show y + ((s.y - y).toNat : Int) = s.y by omega, stOf_thicks (reach_fit hm (h.st y) hr)]
/-- Whatever has been found is no more than that. -/
theorem lenT_part {m : Wk} (hm : m.Ok) {y : Int} {th : List Int} (h : FitT m th) {k : Nat} (hk : y + k < m.years) {l : List (List Int)} (hn : l.Nodup) (hl : ∀ t ∈ l, t ∈ levT m y th (k + 1)) : lenT m y th k + l.length ≤ (allS m (stOf y th)).length := by
  have h1 := nodup_length _ (allS m (stOf y th)) (snoc_nodup hm (allT_nodup hm h k) (fun t ht => (levT_fit hm h (k + 1) t (hl t ht)).len) hn) (fun s hs => by
    rcases List.mem_append.1 hs with hs | hs
    · exact allS_mem.2 (allT_reach hm h (by omega) hs)
    · obtain ⟨t, ht, rfl⟩ := List.mem_map.1 hs
      exact allS_mem.2 (levT_reach hm h (k + 1) (by omega) t (hl t ht)))
  rw [List.length_append, List.length_map, allT_length] at h1
  exact h1
theorem lenT_le {m : Wk} (hm : m.Ok) {y : Int} {th : List Int} (h : FitT m th) {k : Nat} (hk : y + k ≤ m.years) : lenT m y th k ≤ (allS m (stOf y th)).length := by
  rw [← allT_length]
  exact nodup_length _ _ (allT_nodup hm h k) fun t ht => allS_mem.2 (allT_reach hm h hk ht)
theorem lev_le {m : Wk} {y : Int} {th : List Int} : ∀ k, (levT m y th k).length ≤ lenT m y th k
  | 0 => Nat.le_refl _
  | k + 1 => by rw [lenT]; omega

/-! ### What they cost -/
/-- What it costs from a state on; below 0: it cannot be kept. -/
def paidV (m : Wk) (s : St) : Int := if valS m s < 2000000000 then valS m s else -1
def paidTo (m : Wk) (s : St) (k : Nat) : Int := if leastTo m s k < 2000000000 then leastTo m s k else -1
theorem valS_years {m : Wk} (hm : m.Ok) : ∀ (n : Nat) (s : St), (m.years - s.y).toNat = n → valS m s < 2000000000 → valS m s ≤ n * 41000000
  | 0, s, hn, _ => by rw [valS_end (by omega)]; omega
  | n + 1, s, hn, hv => by
    obtain ⟨r, hr, _, he⟩ := valS_att (by omega) hv
    have h1 := costS_bd hm (rowsS_mem hr).1
    have h2 := valS_years hm n (stepS m s r) (by rw [stepS_y]; omega) (by omega)
    rw [← he]
    omega
theorem valS_small {m : Wk} (hm : m.Ok) {s : St} (hy : 0 ≤ s.y) (hv : valS m s < 2000000000) : valS m s ≤ 1640000000 := by
  have h1 := valS_years hm _ s rfl hv
  have h2 := hm.years
  have h3 : ((m.years - s.y).toNat : Int) * 41000000 ≤ 40 * 41000000 := Int.mul_le_mul_of_nonneg_right (by omega) (by omega)
  omega
theorem paidV_bd {m : Wk} (hm : m.Ok) {s : St} (hy : 0 ≤ s.y) : -1 ≤ paidV m s ∧ paidV m s ≤ 1640000000 := by
  have h := (valS_bd hm s).1
  unfold paidV
  split
  · rename_i h1
    have := valS_small hm hy h1
    omega
  · omega
theorem paidV_step {m : Wk} {s : St} (h : s.y < m.years) : paidV m s = paidTo m s (rowsS m).length := by unfold paidV paidTo; rw [valS_step h]
theorem paidV_end {m : Wk} {s : St} (h : m.years ≤ s.y) : paidV m s = 0 := by unfold paidV; rw [valS_end h]; rfl
theorem paidTo_zero (m : Wk) (s : St) : paidTo m s 0 = -1 := rfl
theorem paidTo_out {m : Wk} {s : St} {k : Nat} {r : List Int} (h : (rowsS m)[k]? = some r) (hk : keptS m s r = false) : paidTo m s (k + 1) = paidTo m s k := by
  unfold paidTo
  rw [leastTo_succ h, hk]
  rfl
theorem paidTo_in {m : Wk} (hm : m.Ok) {s : St} (hy : 0 ≤ s.y) {k : Nat} {r : List Int} (h : (rowsS m)[k]? = some r) (hk : keptS m s r = true) :
    paidTo m s (k + 1) = if 0 ≤ paidV m (stepS m s r) ∧ (paidTo m s k < 0 ∨ paidV m (stepS m s r) + costS m r < paidTo m s k) then paidV m (stepS m s r) + costS m r else paidTo m s k := by
  have h1 := leastTo_bd hm s k
  have h2 := valS_bd hm (stepS m s r)
  have h3 := costS_bd hm (rowsS_mem (List.mem_of_getElem? h)).1
  have h4 := valS_small (s := stepS m s r) hm (by rw [stepS_y]; omega)
  unfold paidTo paidV
  rw [leastTo_succ h, hk]
  simp only [if_true]
  generalize leastTo m s k = a at *
  generalize valS m (stepS m s r) = v at *
  generalize costS m r = c at *
  by_cases hv : v < 2000000000
  · have h5 := h4 hv
    rw [if_pos hv]
    by_cases ha : a < 2000000000
    · rw [if_pos ha]
      by_cases hc : v + c < a
      · rw [if_pos (show min a (c + v) < 2000000000 by omega), if_pos ⟨by omega, .inr hc⟩]; omega
      · rw [if_pos (show min a (c + v) < 2000000000 by omega), if_neg (by omega)]; omega
    · rw [if_neg ha, if_pos (show min a (c + v) < 2000000000 by omega), if_pos ⟨by omega, .inl (by omega)⟩]; omega
  · rw [if_neg hv, if_neg (by omega : ¬ ((0 : Int) ≤ -1 ∧ _))]
    by_cases ha : a < 2000000000
    · rw [if_pos ha, if_pos (by omega)]; omega
    · rw [if_neg ha, if_neg (by omega)]
/-- The row that is picked: as the specification asks it. -/
theorem isBest_paid {m : Wk} (hm : m.Ok) {s : St} {r : List Int} (hr : r ∈ rowsS m) (hv : valS m s < 2000000000) (hk : keptS m s r = true) :
    isBest m s r = (decide (0 ≤ paidV m (stepS m s r)) && decide (paidV m (stepS m s r) + costS m r = paidV m s)) := by
  have h2 := valS_bd hm (stepS m s r)
  have h3 := costS_bd hm (rowsS_mem hr).1
  have h4 := valS_bd hm s
  unfold isBest
  rw [hk, Bool.true_and]
  unfold paidV
  rw [if_pos hv]
  by_cases h : valS m (stepS m s r) < 2000000000
  · rw [if_pos h]
    have e : (decide (0 ≤ valS m (stepS m s r))) = true := by simpa using h2.1
    rw [e, Bool.true_and]
    have : (costS m r + valS m (stepS m s r) = valS m s) = (valS m (stepS m s r) + costS m r = valS m s) := by rw [Int.add_comm]
    simp [this]
  · rw [if_neg h]
    have : ¬ costS m r + valS m (stepS m s r) = valS m s := by omega
    simp [this]
end Go.Proofs.Ytccplobhfokcgaa

/- The specification's place and Rows. -/
namespace Go.Proofs.Ytccplobhfokcgaa
open Go Go.RowKit Go.Shelf
set_option maxRecDepth 100000

set_option maxHeartbeats 2000000 in
theorem rplace_calls (lA : Option Addr) (lc : Nat) (L : List (List Int)) (tA : Option Addr) (tc : Nat) (t : List Int) (w : World) (hL : RowsAt w w.heap.size (.slice lA L.length lc) L) (ht : RowC w w.heap.size tA (t.map (Value.int .i64))) (hlen : ∀ x ∈ L, x.length = t.length) :
    Calls Try.prog 57 #[.slice lA L.length lc, .slice tA t.length tc] w
      fun e w' => e = .returned (.tuple #[.int .i64 ((placeT L t : Nat) : Int), .bool (decide (L[placeT L t]? = some t))]) ∧ Below w.heap.size w w' := by
  obtain ⟨_, _, e, hl, hrow⟩ := id hL
  cases e
  have HR := Lib.hid hrow
  have HT := Lib.hid ht
  have HLEN := Lib.hid hlen
  clear hrow ht hlen hL
  go_enter Try.func57, Try.ntmps57
  go_wp2_with fail
  go_loopw [6] (fun c wr => ∃ i : Nat, i ≤ L.length ∧ c = .int .i64 (i : Int) ∧ Hid (∀ j x, j < i → L[j]? = some x → beforeB x t = true) ∧ Hid (Below w.heap.size w wr)) (fun c _ => L.length - (intOf c).toNat)
  case atStart => exact ⟨0, Nat.zero_le _, rfl, Lib.hid (fun j x hj _ => by omega), Lib.hid (Below.refl _ _)⟩
  case round =>
    obtain ⟨i, hi, rfl, HS, HB⟩ := hrel
    obtain ⟨Wr, rfl⟩ : ∃ Wr, Wr = wr := ⟨_, rfl⟩
    have hsz := HB.out.size
    by_cases hlt : i < L.length
    · have hil : (i : Int) < (L.length : Int) := by omega
      have hi0 : (0 : Int) ≤ (i : Int) := by omega
      have hiadd : IntKind.i64.wrap ((i : Int) + 1) = (i : Int) + 1 := IntWalk.i64_in _ (by omega)
      obtain ⟨b, o, rfl, hb, hc⟩ := HR.out (by intro e; rw [e] at hlt; simp at hlt)
      obtain ⟨u, hu, xA, xc, rfl, hx⟩ := hc i _ (List.getElem?_eq_getElem hlt)
      have hxl := HLEN.out _ (List.getElem_mem hlt)
      have hu2 := (HB.out.cell (p := ⟨b, o + i, none⟩) hb).trans hu
      have hxr := (hx.below HB.out).mono hsz
      have htr := (HT.out.below HB.out).mono hsz
      have hstop : beforeB L[i] t = false → placeT L t = i := fun h => placeT_at L t i (by omega) HS.out (fun x hx => by rw [List.getElem?_eq_getElem hlt] at hx; cases hx; exact h)
      have hgo : beforeB L[i] t = true → ∀ j x, j < i + 1 → L[j]? = some x → beforeB x t = true := fun h j x hj hx9 => by
        rcases Nat.lt_or_ge j i with h1 | h1
        · exact HS.out j x h1 hx9
        · obtain rfl : j = i := by omega
          rw [List.getElem?_eq_getElem hlt] at hx9; cases hx9; exact h
      have hsm : beforeB L[i] t = false → decide (L[placeT L t]? = some t) = decide (L[i] = t) := fun h => by rw [hstop h, List.getElem?_eq_getElem hlt]; simp
      clear hc hu hx
      generalize L[i] = x at *
      have hbc := before_calls Wr.heap.size xA tA xc tc x t Wr hxr htr (Nat.le_refl _) hxl
      rw [hxl] at hbc hu2
      have HX := Lib.hid hxr
      have HTR := Lib.hid htr
      have HXL := Lib.hid hxl
      cases hq : beforeB x t
      · rw [hq] at hbc
        have HBC := Lib.hid hbc
        have HST := Lib.hid (hstop hq)
        have HSM := Lib.hid (hsm hq)
        have z1 : b < Wr.heap.size := by omega
        clear hq hbc hstop hgo hsm hxl hxr htr
        go_wp2_with fail
        refine HBC.out.mono ?_
        rintro e w2 ⟨rfl, hb2⟩
        have hu3 := (hb2.cell (p := ⟨b, o + i, none⟩) z1).trans hu2
        have HB2 := Lib.hid (HB.out.trans (hb2.mono hsz))
        have hsc := sameInts_calls w2.heap.size xA tA xc tc x t w2 ((HX.out.below hb2).mono hb2.size) ((HTR.out.below hb2).mono hb2.size) (Nat.le_refl _)
        rw [HXL.out, ← HSM.out] at hsc
        have HSC := Lib.hid hsc
        clear hsc hb2 hu2
        go_wp2_with fail
        refine HSC.out.mono ?_
        rintro e w3 ⟨rfl, hb3⟩
        have HB3 := Lib.hid (HB2.out.trans (hb3.mono HB2.out.size))
        clear hb3
        go_wp2_with fail
        go_ret2
        exact ⟨by rw [HST.out]; rfl, HB3.out⟩
      · rw [hq] at hbc
        have HBC := Lib.hid hbc
        have HGO := Lib.hid (hgo hq)
        clear hq hbc hstop hgo hsm hxl hxr htr
        go_wp2_with fail
        refine HBC.out.mono ?_
        rintro e w2 ⟨rfl, hb2⟩
        have HB2 := Lib.hid (HB.out.trans (hb2.mono hsz))
        clear hb2
        go_wp2_with fail
        go_round
        case rel => exact ⟨i + 1, by omega, by go_num, HGO, HB2⟩
        case measure => simp [intOf]; omega
    · obtain rfl : i = L.length := by omega
      have hil : ¬ (L.length : Int) < (L.length : Int) := by omega
      have hst : placeT L t = L.length := placeT_at L t _ (Nat.le_refl _) HS.out (fun x hx => by simp at hx)
      have hsm : decide (L[placeT L t]? = some t) = false := by rw [hst]; simp
      have HST := Lib.hid (And.intro hst hsm)
      clear hst hsm
      go_wp2_with fail
      go_ret2
      exact ⟨by rw [HST.out.2, HST.out.1]; rfl, HB.out⟩
end Go.Proofs.Ytccplobhfokcgaa

/- The specification's Rows. -/
namespace Go.Proofs.Ytccplobhfokcgaa
open Go Go.RowKit Go.Shelf
set_option maxRecDepth 100000

/-- What one copy of a list makes. -/
structure CopyL (wi : World) (row : List Int) (u : Value) (W : World) : Prop where
  below : Below wi.heap.size wi W
  own : W.ownsRow wi.heap.size 3 1 u row.length (row.map (Value.int .i64))
theorem zrow_set {k n : Nat} (h : k < n) : (zrow k n).toArray.setIfInBounds k (.int .i64 (-1)) = (zrow (k + 1) n).toArray := by
  simp only [List.setIfInBounds_toArray]
  congr 1
  unfold zrow
  rw [List.set_append_right _ _ (by simp), List.length_replicate, Nat.sub_self, show n - k = (n - (k + 1)) + 1 by omega, List.replicate_succ, List.set_cons_zero, List.replicate_succ', List.append_assoc]
  rfl
theorem zrow_full (n : Nat) : (zrow n n).toArray = ((List.replicate n (-1 : Int)).map (Value.int .i64)).toArray := by simp [zrow]
theorem own_ne {p : Nat → Prop} {w : World} {B : Nat} {v : Value} {xss : List (List Int)} {g : Nat} (h : OwnP p w B v xss) (hp : ∀ k, p k → k ≠ g) {i : Nat} (u : Value) : OwnP p (w.setCell ⟨g, i, none⟩ u) B v xss :=
  h.kept fun k _ _ hk _ _ _ => Below.heap_setCell _ _ _ _ (hp k hk)

set_option maxHeartbeats 8000000 in
theorem rrows_calls (m : Wk) (sl cr : Value) (w : World) (hm : m.Ok) (hsl : SlopesAt w w.heap.size sl m.slopes) (hcr : CraftsAt w w.heap.size cr m.crafts) :
    Calls Try.prog 56 #[.agg #[sl, cr, .int .i64 m.years, .int .i64 m.visit, .int .i64 m.hands]] w fun e w' => (∃ v', e = .returned v' ∧ OwnRows w' w.heap.size v' (rowsS m)) ∧ Below w.heap.size w w' := by
  obtain ⟨sA, sc, rfl, _, _⟩ := id hsl
  obtain ⟨cA, cc, rfl, _, _⟩ := id hcr
  obtain ⟨w0, hw0⟩ : ∃ w0, w0 = w.alloc (.cells #[.slice sA m.slopes.length sc, .slice cA m.crafts.length cc, .int .i64 m.years, .int .i64 m.visit, .int .i64 m.hands] 25) := ⟨_, rfl⟩
  have h0 := LawInv.start hsl hcr
  rw [← hw0] at h0
  have hn1 := hm.some
  have hn4 := hm.few
  have hc4 := hm.crafts
  have hrN : ∀ k, (rowsTo m k).length ≤ k := fun k => by
    unfold rowsTo
    refine Nat.le_trans (List.length_filter_le _ _) ?_
    simp
  have hr625 : rowsN m ≤ 625 := by
    unfold rowsN
    calc (m.crafts.length + 1) ^ m.slopes.length ≤ 5 ^ m.slopes.length := Nat.pow_le_pow_left (by omega) _
      _ ≤ 5 ^ 4 := Nat.pow_le_pow_right (by omega) hn4
  have HRN := Lib.hid hrN
  have H0 := Lib.hid h0
  have HW0 := Lib.hid hw0
  have z0 : w0.heap.size = w.heap.size + 1 := by rw [hw0]; simp
  have HZ0 := Lib.hid z0
  obtain ⟨x0, x1, x2, x3, x4⟩ := blk5 h0.box
  have hmk : ∀ W : World, (Instr.makeSlice 36 (.int .i64 (m.slopes.length : Int)) (.int .i64 (m.slopes.length : Int))).run Try.prog W = .ok (.slice (some ⟨W.heap.size, 0, none⟩) m.slopes.length m.slopes.length) (W.alloc (.cells (madeCells #[.int .i64 0] m.slopes.length) 3)) :=
    fun W => run_make_row' 36 3 (.int .i64 0) 8 Try.underlying36 infoInt rfl .i64 .i64 m.slopes.length (by omega) (by omega) W
  have hmc : (madeCells #[Value.int .i64 0] m.slopes.length) = (zrow 0 m.slopes.length).toArray := by
    simp only [madeCells, zrow, List.replicate_zero, List.nil_append, Nat.sub_zero]
    apply Array.ext
    · simp
    · intro i h1 h2
      simp [Nat.mod_one]
  rw [hmc] at hmk
  obtain ⟨w1, hw1⟩ : ∃ w1, w1 = w0.alloc (.cells (zrow 0 m.slopes.length).toArray 3) := ⟨_, rfl⟩
  obtain ⟨g, hg⟩ : ∃ g, g = w.heap.size + 1 := ⟨_, rfl⟩
  have hgz : w0.heap.size = g := by rw [z0, hg]
  have g1 : w1.heap[g]? = some (.cells (zrow 0 m.slopes.length).toArray 3 (0, 0)) := by rw [hw1, ← hgz]; exact heap_alloc_self _ _
  have b1 : Below g w0 w1 := by rw [hw1, ← hgz]; exact below1 _ _
  have HW1 := Lib.hid hw1
  have HG := Lib.hid hgz
  have HGE := Lib.hid hg
  have G1 := Lib.hid g1
  have B1 := Lib.hid b1
  rw [hw0] at x0 x1 x2 x3 x4
  clear h0 hw0 hsl hcr z0 hmc hw1 g1 b1 hrN hgz hg
  go_enter Try.func56, Try.ntmps56
  go_wp2_with fail
  rw [← HW0.out, ← HW1.out, ← HGE.out]
  clear x0 x1 x2 x3 x4 hmk
  go_loopw [5] (fun c wr => ∃ k : Nat, k ≤ m.slopes.length ∧ c = .int .i64 (k : Int) ∧ Hid (wr.heap[g]? = some (.cells (zrow k m.slopes.length).toArray 3 (0, 0))) ∧ Hid (Below g w0 wr)) (fun c _ => m.slopes.length - (intOf c).toNat)
  case atStart => exact ⟨0, Nat.zero_le _, rfl, G1, B1⟩
  case round =>
    obtain ⟨k, hk, rfl, HR, HB⟩ := hrel
    obtain ⟨Wr, rfl⟩ : ∃ Wr, Wr = wr := ⟨_, rfl⟩
    have hg1 := lt_blk HR.out
    by_cases hlt : k < m.slopes.length
    · have hki : (k : Int) < (m.slopes.length : Int) := by omega
      have hk0 : (0 : Int) ≤ (k : Int) := by omega
      have hkadd : IntKind.i64.wrap ((k : Int) + 1) = (k : Int) + 1 := IntWalk.i64_in _ (by omega)
      have hcell : Wr.cell? ⟨g, k, none⟩ = some (.int .i64 0) := by
        rw [cell_blk HR.out]
        simp only [List.getElem?_toArray, zrow]
        rw [List.getElem?_append_right (by simp), List.length_replicate, Nat.sub_self, List.getElem?_replicate, if_pos (by omega)]
      have hfr := frozen_blk HR.out k
      have hnx : (Wr.setCell ⟨g, k, none⟩ (.int .i64 (-1))).heap[g]? = some (.cells (zrow (k + 1) m.slopes.length).toArray 3 (0, 0)) := by rw [heap_set HR.out, zrow_set hlt]
      have hbx : Below g w0 (Wr.setCell ⟨g, k, none⟩ (.int .i64 (-1))) := HB.out.setCell (p := ⟨g, k, none⟩) (Nat.le_refl g) _
      have HN := Lib.hid hnx
      have HBX := Lib.hid hbx
      clear hnx hbx
      go_wp2_with fail
      go_round
      case rel => exact ⟨k + 1, by omega, by go_num, HN, HBX⟩
      case measure => simp [intOf]; omega
    · obtain rfl : k = m.slopes.length := by omega
      have hki : ¬ (m.slopes.length : Int) < (m.slopes.length : Int) := by omega
      have hrow0 : Wr.heap[g]? = some (.cells ((rowK m 0).map (Value.int .i64)).toArray 3 (0, 0)) := by
        rw [HR.out, zrow_full, rowK, unval_zero]
      have HR0 := Lib.hid hrow0
      clear hrow0
      go_wp2_with fail
      go_loopw [3] (fun out wr => ∃ k : Nat, k < rowsN m ∧ (∃ A n c, out = .slice A n c) ∧ Hid (wr.heap[g]? = some (.cells ((rowK m k).map (Value.int .i64)).toArray 3 (0, 0))) ∧ Hid (OwnP (fun b => b ≠ g) wr (g + 1) out (rowsTo m k)) ∧ Hid (Below g w0 wr)) (fun _ wr => rowLeft m g wr)
      case atStart => exact ⟨0, Nat.pow_pos (by omega), ⟨none, 0, 0, rfl⟩, HR0, Lib.hid (OwnP.nil _ _ _), HB⟩
      case round =>
        obtain ⟨k, hk, ⟨oA, on, oc, rfl⟩, HRW, HOP, HBB⟩ := hrel
        obtain ⟨Wo, rfl⟩ : ∃ Wo, Wo = wr := ⟨_, rfl⟩
        have hgo := lt_blk HRW.out
        have hI := H0.out.later (W' := Wo) (by rw [HG.out]; exact HBB.out)
        have hrc : RowC Wo Wo.heap.size (some ⟨g, 0, none⟩) ((rowK m k).map (Value.int .i64)) := ⟨by simp [rowK, unval_length]; omega, fun _ => ⟨g, 0, rfl, hgo, fun j u hu => by rw [cell_blk HRW.out]; simpa using hu⟩⟩
        have hmay := rmay_calls m _ _ (some ⟨g, 0, none⟩) m.slopes.length (rowK m k) Wo hI.slopes hI.crafts hrc hn4
        rw [show (rowK m k).length = m.slopes.length from unval_length _ _ _] at hmay
        have hsuc := rowsTo_succ m k
        have hpre := rowsTo_prefix m (show k + 1 ≤ rowsN m by omega)
        have HSUC := Lib.hid hsuc
        have HPRE := Lib.hid hpre
        have HI := Lib.hid hI
        obtain ⟨x0, x1, x2, x3, x4⟩ := blk5 hI.box
        clear hI hrc hsuc hpre
        have HMY : Hid (mayS m (rowK m k) = mayS m (rowK m k)) := Lib.hid rfl
        generalize hq : mayS m (rowK m k) = q at hmay HSUC
        have HMAY := Lib.hid hmay
        clear hmay hq HMY
        go_wp2_with fail
        refine HMAY.out.mono ?_
        rintro e w2 ⟨rfl, hb2⟩
        have hr2 := blk_below hb2 HRW.out hgo
        have hop2 := HOP.out.below hb2
        have hbb2 := HBB.out.trans (hb2.mono (Nat.le_of_lt hgo))
        have HR2 := Lib.hid hr2
        have HOP2 := Lib.hid hop2
        have HBB2 := Lib.hid hbb2
        have z2 := lt_blk hr2
        clear hr2 hop2 hbb2 HMAY x0 x1 x2 x3 x4 HI hb2
        cases q
        · have hrk : rowsTo m (k + 1) = rowsTo m k := by rw [HSUC.out]; simp
          have hop3 := HOP2.out
          rw [← hrk] at hop3
          have HOP3 := Lib.hid hop3
          clear hop3 hrk
          obtain ⟨w3, hw3⟩ : ∃ w3, w3 = w2 := ⟨_, rfl⟩
          rw [← hw3] at HR2 HBB2 HOP3 ⊢
          have z3 := lt_blk HR2.out
          clear hw3 HOP2
          go_wp2_with fail
          go_loopw [6] (fun i wi => ∃ t : Nat, t ≤ m.slopes.length ∧ i = .int .i64 ((m.slopes.length : Int) - (t : Int) - 1) ∧ k % (m.crafts.length + 1) ^ t = (m.crafts.length + 1) ^ t - 1 ∧
            Hid (wi.heap[g]? = some (.cells ((carry m.crafts.length m.slopes.length k t).map (Value.int .i64)).toArray 3 (0, 0))) ∧ Hid (OwnP (fun b => b ≠ g) wi (g + 1) (.slice oA on oc) (rowsTo m (k + 1))) ∧ Hid (Below g w0 wi)) (fun i _ => (intOf i + 1).toNat)
          case atStart => exact ⟨0, Nat.zero_le _, by rw [show (m.slopes.length : Int) - ((0 : Nat) : Int) - 1 = (m.slopes.length : Int) - 1 by omega], by simp [Nat.mod_one], by rw [carry_zero]; exact HR2, HOP3, HBB2⟩
          case round =>
            obtain ⟨t, ht, rfl, hmod, hri, hop, hbi⟩ := hrel
            obtain ⟨Wi, rfl⟩ : ∃ Wi, Wi = wr := ⟨_, rfl⟩
            have HI := Lib.hid (H0.out.later (W' := Wi) (by rw [HG.out]; exact hbi.out))
            obtain ⟨x0, x1, x2, x3, x4⟩ := blk5 HI.out.box
            have hwz := lt_blk HI.out.box
            have hgi := lt_blk hri.out
            by_cases htn : t = m.slopes.length
            · subst htn
              have hi1 : (m.slopes.length : Int) - (m.slopes.length : Int) - 1 = -1 := by omega
              have hfin : k + 1 = rowsN m := carry_end hk hmod
              rw [hi1]
              have HFIN := Lib.hid hfin; clear hfin hi1
              go_wp2_with fail
              refine wp_region_rg (Below Wi.heap.size) (fun _ => .fn) (by kernel_rfl) (by kernel_rfl) (Below.refl _) belowR (fun _ => trivial) ?_
              iterate 3 (refine rg_step fun K hK => ?_; apply rg_fn rfl; (intro w4 hw; have hc := below_cells (undrew hw); go_simp; try rfl); go_simp; (try with_reducible refine hK _ _ ?_); try clear hK K)
              iterate 9 (refine rg_step fun K hK => rg_skip rfl ?_; go_simp; (try with_reducible refine hK _ _ ?_); try clear hK K)
              iterate 1 (refine rg_step fun K hK => ?_; apply rg_fn rfl; (intro w4 hw; have hc := below_cells (undrew hw); go_simp; try rfl); go_simp; (try with_reducible refine hK _ _ ?_); try clear hK K)
              refine rg_nil ?_
              intro w7 hw7 _
              replace hw7 := undrew hw7
              have hop7 := hop.out.below hw7
              rw [HFIN.out] at hop7
              have HOP7 := Lib.hid hop7
              have HB7 := Lib.hid (hbi.out.trans (hw7.mono (Nat.le_of_lt hgi)))
              clear hw7 hop7
              go_wp2_with fail
              go_ret
              exact ⟨⟨_, rfl, HOP7.out.own.mono (by have := HGE.out; omega)⟩, by have h1 := HZ0.out; have h2 := HG.out; have h4 := HGE.out; have h3 := H0.out.below; exact h3.trans (HB7.out.mono (by omega))⟩
            · obtain ⟨i, hi⟩ : ∃ i, i + t + 1 = m.slopes.length := ⟨m.slopes.length - t - 1, by omega⟩
              have hiv : (m.slopes.length : Int) - (t : Int) - 1 = (i : Int) := by omega
              have hca := carry_at m.crafts.length m.slopes.length k t (by omega)
              rw [show m.slopes.length - t - 1 = i by omega] at hca
              have hcell : Wi.cell? ⟨g, i, none⟩ = some (.int .i64 (((k / (m.crafts.length + 1) ^ t % (m.crafts.length + 1) : Nat) : Int) - 1)) := by
                rw [cell_blk hri.out]; simp [hca]
              have hdlt : k / (m.crafts.length + 1) ^ t % (m.crafts.length + 1) < m.crafts.length + 1 := Nat.mod_lt _ (by omega)
              have hin : (i : Int) < (m.slopes.length : Int) := by omega
              have hi0 : (0 : Int) ≤ (i : Int) := by omega
              rw [hiv]
              generalize hd : k / (m.crafts.length + 1) ^ t % (m.crafts.length + 1) = d at *
              have HD := Lib.hid hd
              clear hca hd hiv
              have hsb : IntKind.i64.wrap ((m.crafts.length : Int) - 1) = (m.crafts.length : Int) - 1 := IntWalk.i64_in _ (by omega)
              have hcc : (0 : Int) ≤ (m.crafts.length : Int) := by omega
              go_wp2_with fail
              refine wp_region_rg (Below Wi.heap.size) (fun _ => .fn) (by kernel_rfl) (by kernel_rfl) (Below.refl _) belowR (fun _ => trivial) ?_
              iterate 13 (refine rg_step fun K hK => ?_; apply rg_fn rfl; (intro w4 hw; have hc := below_cells (undrew hw); go_simp; try rfl); go_simp; (try with_reducible refine hK _ _ ?_); try clear hK K)
              refine rg_nil ?_
              intro w7 hw7 _
              replace hw7 := undrew hw7
              have hop7 := hop.out.below hw7
              have hr7 := blk_below hw7 hri.out hgi
              have hc7 : w7.cell? ⟨g, i, none⟩ = some (.int .i64 ((d : Int) - 1)) := (hw7.cell (p := ⟨g, i, none⟩) hgi).trans hcell
              have hf7 : w7.frozen? ⟨g, i, none⟩ = false := frozen_blk hr7 i
              have HB7 := Lib.hid (hbi.out.trans (hw7.mono (Nat.le_of_lt hgi)))
              have HOP7 := Lib.hid hop7
              have HR7 := Lib.hid hr7
              have hisub : IntKind.i64.wrap ((i : Int) - 1) = (i : Int) - 1 := IntWalk.i64_in _ (by omega)
              clear hw7 hop7 hr7 x0 x1 x2 x3 x4 hcell
              by_cases hdc : d = m.crafts.length
              · subst hdc
                have hbeq : (((m.crafts.length : Int) - 1) == ((m.crafts.length : Int) - 1)) = true := by simp
                have hrn : (w7.setCell ⟨g, i, none⟩ (.int .i64 (-1))).heap[g]? = some (.cells ((carry m.crafts.length m.slopes.length k (t + 1)).map (Value.int .i64)).toArray 3 (0, 0)) := by
                  rw [heap_set HR7.out, map_set_int, ← carry_next _ _ _ _ (by omega : t < m.slopes.length), show m.slopes.length - t - 1 = i by omega]
                have hopn := own_ne HOP7.out (g := g) (fun _ h => h) (i := i) (.int .i64 (-1))
                have hbn : Below g w0 (w7.setCell ⟨g, i, none⟩ (.int .i64 (-1))) := HB7.out.setCell (p := ⟨g, i, none⟩) (Nat.le_refl g) _
                have hfull := carry_full hmod HD.out
                have HRN2 := Lib.hid (And.intro hrn (And.intro hopn (And.intro hbn hfull)))
                clear hrn hopn hbn hfull
                go_wp2_with fail
                go_round
                case rel => exact ⟨t + 1, by omega, by rw [show (m.slopes.length : Int) - ((t + 1 : Nat) : Int) - 1 = (i : Int) - 1 by omega], HRN2.out.2.2.2, Lib.hid HRN2.out.1, Lib.hid HRN2.out.2.1, Lib.hid HRN2.out.2.2.1⟩
                case measure => simp [intOf]
              · have hdc' : d < m.crafts.length := by omega
                have hne : ((d : Int) - 1 == (m.crafts.length : Int) - 1) = false := by rw [beq_eq_false_iff_ne]; omega
                have hil : ¬ (i : Int) < 0 := by omega
                have hd1 : IntKind.i64.wrap ((d : Int) - 1 + 1) = (d : Int) := by rw [IntWalk.i64_in _ (by omega)]; omega
                have hmore : k + 1 < rowsN m := carry_more (by omega : t < m.slopes.length) hk (by rw [HD.out]; exact hdc')
                have hrow' : (w7.setCell ⟨g, i, none⟩ (.int .i64 (d : Int))).heap[g]? = some (.cells ((rowK m (k + 1)).map (Value.int .i64)).toArray 3 (0, 0)) := by
                  rw [heap_set HR7.out, map_set_int]
                  have := carry_done (c := m.crafts.length) (n := m.slopes.length) (k := k) (t := t) (by omega) hmod (by rw [HD.out]; exact hdc')
                  rw [HD.out, show m.slopes.length - t - 1 = i by omega, show (d : Int) - 1 + 1 = d by omega] at this
                  rw [this]; rfl
                have hopn := own_ne HOP7.out (g := g) (fun _ h => h) (i := i) (.int .i64 (d : Int))
                have hbn : Below g w0 (w7.setCell ⟨g, i, none⟩ (.int .i64 (d : Int))) := HB7.out.setCell (p := ⟨g, i, none⟩) (Nat.le_refl g) _
                have hleft := rowLeft_eq m g (k + 1) _ hmore hrow'
                have hleft0 := rowLeft_eq m g k _ hk HRW.out
                have HRN2 := Lib.hid (And.intro hrow' (And.intro hopn hbn))
                have HLEFT := Lib.hid (And.intro hleft hleft0)
                clear hrow' hopn hbn hleft hleft0
                go_wp2_with fail
                go_round
                case rel => exact ⟨k + 1, hmore, ⟨_, _, _, rfl⟩, Lib.hid HRN2.out.1, Lib.hid HRN2.out.2.1, Lib.hid HRN2.out.2.2⟩
                case measure => rw [HLEFT.out.1, HLEFT.out.2]; omega
        · have hts : rowsTo m (k + 1) = rowsTo m k ++ [rowK m k] := by rw [HSUC.out]; simp
          have hlk : (rowK m k).length = m.slopes.length := unval_length _ _ _
          have hol := HRN.out k
          have hnl : rowK m k ≠ [] := fun e => by rw [e] at hlk; simp at hlk; omega
          obtain ⟨vs, ho1, ho2, ho3⟩ := HOP2.out
          have how := fun W (hW : Below w2.heap.size w2 W) => own_below ho1 hW (fun k hk => (own_blk_lt ho1 k hk).2)
          have HOW := Lib.hid how
          have hnews : ∀ j u, ((rowK m k).map (Value.int .i64))[j]? = some u → (w2.alloc (.cells #[] 3)).cell? ((⟨g, 0, none⟩ : Addr).add j) = some u := by
            intro j u hu
            rw [show (⟨g, 0, none⟩ : Addr).add j = ⟨g, j, none⟩ by unfold Addr.add; split <;> simp_all]
            refine ((below1 w2 _).cell (p := ⟨g, j, none⟩) z2).trans ?_
            rw [cell_blk HR2.out]; simpa using hu
          have HNEWS := Lib.hid hnews
          have HTS := Lib.hid hts
          have HO := Lib.hid (And.intro ho1 (And.intro ho2 ho3))
          obtain ⟨i0, hi, hz0, hz1, hz2⟩ := info_parts infoInt
          have hspread : ∀ v' W', W'.ownsRow w2.heap.size 3 1 v' (0 + m.slopes.length) ([] ++ (rowK m k).map (Value.int .i64)) → (w2.alloc (.cells #[] 3)).grownBy W' (Value.ownBlock (.slice (some ⟨w2.heap.size, 0, none⟩) 0 0)) → CopyL w2 (rowK m k) v' W' := fun v' W' h1 h2 =>
            ⟨(below1 w2 (.cells #[] 3)).grown h2 (by simp) (fun k hk => by cases hk; exact Nat.le_refl _), by rw [hlk]; simpa using h1⟩
          have HSPREAD := Lib.hid hspread
          have hempty : (w2.alloc (.cells #[] 3)).ownsRow w2.heap.size 3 1 (.slice (some ⟨w2.heap.size, 0, none⟩) 0 0) 0 [] :=
            ⟨rfl, .inr ⟨w2.heap.size, 0, #[], rfl, Nat.le_refl _, heap_alloc_self _ _, Nat.le_refl _, by simp [maxLen], rfl, rfl⟩⟩
          have HEMPTY := Lib.hid hempty
          have hlm : ((rowK m k).map (Value.int .i64)).length = m.slopes.length := by simp [hlk]
          have HLM := Lib.hid hlm
          have hgb : g + 1 ≤ w2.heap.size := z2
          clear how ho1 ho2 ho3 hspread hempty hnews hts hlk hlm
          go_wp2_with (first
            | (at_builtin; (refine wpList_append_own _ rfl _ _ 36 rfl w2.heap.size 3 i0 (.int .i64 0) 1 8 Try.underlying36 hi hz0 hz1 hz2 rfl (by decide) _ 0 [] rfl HEMPTY.out ⟨g, 0, none⟩ m.slopes.length m.slopes.length ((rowK m k).map (Value.int .i64)) rfl (by rw [HLM.out]; simp) HNEWS.out (by simp [Value.oneCell']) (by simp only [maxLen]; omega) (by omega) (by simp) ?_); intro v5 w5 hown5 hg5 _; have HC5 := Lib.hid (HSPREAD.out v5 w5 hown5 hg5); clear hown5 hg5; obtain ⟨A5, n5, c5, rfl⟩ := own_slice HC5.out.own)
            | (at_builtin; (refine wpList_app2 (g + 1) _ _ 26 36 (.slice none 0 0) 1 24 [.slice A5 n5 c5] (by rfl) (by rfl) Try.underlying26 infoRow rfl (by decide) (by decide) (.slice oA on oc) (rowsTo m k).length vs (by rfl) w5.heap.size (by rfl) (heap_alloc_self _ _) rfl (by simp [Value.oneCell']) (HOW.out _ (HC5.out.below.trans ((below1 _ _).mono HC5.out.below.size))) (by omega) (by have := HC5.out.below.size; simp; omega) ?_); intro v6 w6 hown6 hg6 hat6 hb6; obtain ⟨A6, n6, c6, rfl⟩ := own_slice hown6; have HX := Lib.hid (And.intro hown6 (And.intro hg6 (And.intro hat6 hb6))); clear hown6 hg6 hat6 hb6))
          obtain ⟨hown6, hg6, hat6, hb6⟩ := HX.out
          have hba := HC5.out.below.trans ((below1 w5 (.cells #[.slice A5 n5 c5] 36)).mono HC5.out.below.size)
          have hod : OwnP (fun b => b ≠ g) w6 (g + 1) (.slice A6 n6 c6) (rowsTo m (k + 1)) := by
            rw [HTS.out]
            obtain ⟨ho1, ho2, ho3⟩ := HO.out
            refine OwnP.snoc (W := w5.alloc (.cells #[.slice A5 n5 c5] 36)) (own_below ho1 hba (fun k hk => (own_blk_lt ho1 k hk).2)) ho2 (fun i xs hi => ?_) (own_mono (own_below HC5.out.own (below1 w5 (.cells #[.slice A5 n5 c5] 36)) (fun k hk => (own_blk_lt HC5.out.own k hk).2)) hgb) (fun k hk => by have := (own_blk_lt HC5.out.own k hk).1; omega) hown6 hg6 hat6 (fun k hk => by have := HC5.out.below.size; simp at hk; omega)
            obtain ⟨u, h5, h6, h7⟩ := ho3 i xs hi
            exact ⟨u, h5, own_below h6 hba (fun k hk => (own_blk_lt h6 k hk).2), h7⟩
          have hrw3 : w6.heap[g]? = some (.cells ((rowK m k).map (Value.int .i64)).toArray 3 (0, 0)) := (hb6.block g (by omega)).trans ((hba.block g z2).trans HR2.out)
          have hbb3 : Below g w0 w6 := HBB2.out.trans ((hba.mono (Nat.le_of_lt z2)).trans (hb6.mono (Nat.le_succ _)))
          obtain ⟨w3, hw3⟩ : ∃ w3, w3 = w6 := ⟨_, rfl⟩
          rw [← hw3] at hrw3 hbb3 hod ⊢
          have z3 := lt_blk hrw3
          replace HR2 := Lib.hid hrw3
          replace HBB2 := Lib.hid hbb3
          have HOP3 := Lib.hid hod
          clear hown6 hg6 hat6 hb6 hba hod hrw3 hbb3 HX HO HOW HC5 HEMPTY HSPREAD HNEWS hw3
          go_loopw [6] (fun i wi => ∃ t : Nat, t ≤ m.slopes.length ∧ i = .int .i64 ((m.slopes.length : Int) - (t : Int) - 1) ∧ k % (m.crafts.length + 1) ^ t = (m.crafts.length + 1) ^ t - 1 ∧
            Hid (wi.heap[g]? = some (.cells ((carry m.crafts.length m.slopes.length k t).map (Value.int .i64)).toArray 3 (0, 0))) ∧ Hid (OwnP (fun b => b ≠ g) wi (g + 1) (.slice A6 n6 c6) (rowsTo m (k + 1))) ∧ Hid (Below g w0 wi)) (fun i _ => (intOf i + 1).toNat)
          case atStart => exact ⟨0, Nat.zero_le _, by rw [show (m.slopes.length : Int) - ((0 : Nat) : Int) - 1 = (m.slopes.length : Int) - 1 by omega], by simp [Nat.mod_one], by rw [carry_zero]; exact HR2, HOP3, HBB2⟩
          case round =>
            obtain ⟨t, ht, rfl, hmod, hri, hop, hbi⟩ := hrel
            obtain ⟨Wi, rfl⟩ : ∃ Wi, Wi = wr := ⟨_, rfl⟩
            have HI := Lib.hid (H0.out.later (W' := Wi) (by rw [HG.out]; exact hbi.out))
            obtain ⟨x0, x1, x2, x3, x4⟩ := blk5 HI.out.box
            have hwz := lt_blk HI.out.box
            have hgi := lt_blk hri.out
            by_cases htn : t = m.slopes.length
            · subst htn
              have hi1 : (m.slopes.length : Int) - (m.slopes.length : Int) - 1 = -1 := by omega
              have hfin : k + 1 = rowsN m := carry_end hk hmod
              rw [hi1]
              have HFIN := Lib.hid hfin; clear hfin hi1
              go_wp2_with fail
              refine wp_region_rg (Below Wi.heap.size) (fun _ => .fn) (by kernel_rfl) (by kernel_rfl) (Below.refl _) belowR (fun _ => trivial) ?_
              iterate 3 (refine rg_step fun K hK => ?_; apply rg_fn rfl; (intro w4 hw; have hc := below_cells (undrew hw); go_simp; try rfl); go_simp; (try with_reducible refine hK _ _ ?_); try clear hK K)
              iterate 9 (refine rg_step fun K hK => rg_skip rfl ?_; go_simp; (try with_reducible refine hK _ _ ?_); try clear hK K)
              iterate 1 (refine rg_step fun K hK => ?_; apply rg_fn rfl; (intro w4 hw; have hc := below_cells (undrew hw); go_simp; try rfl); go_simp; (try with_reducible refine hK _ _ ?_); try clear hK K)
              refine rg_nil ?_
              intro w7 hw7 _
              replace hw7 := undrew hw7
              have hop7 := hop.out.below hw7
              rw [HFIN.out] at hop7
              have HOP7 := Lib.hid hop7
              have HB7 := Lib.hid (hbi.out.trans (hw7.mono (Nat.le_of_lt hgi)))
              clear hw7 hop7
              go_wp2_with fail
              go_ret
              exact ⟨⟨_, rfl, HOP7.out.own.mono (by have := HGE.out; omega)⟩, by have h1 := HZ0.out; have h2 := HG.out; have h4 := HGE.out; have h3 := H0.out.below; exact h3.trans (HB7.out.mono (by omega))⟩
            · obtain ⟨i, hi⟩ : ∃ i, i + t + 1 = m.slopes.length := ⟨m.slopes.length - t - 1, by omega⟩
              have hiv : (m.slopes.length : Int) - (t : Int) - 1 = (i : Int) := by omega
              have hca := carry_at m.crafts.length m.slopes.length k t (by omega)
              rw [show m.slopes.length - t - 1 = i by omega] at hca
              have hcell : Wi.cell? ⟨g, i, none⟩ = some (.int .i64 (((k / (m.crafts.length + 1) ^ t % (m.crafts.length + 1) : Nat) : Int) - 1)) := by
                rw [cell_blk hri.out]; simp [hca]
              have hdlt : k / (m.crafts.length + 1) ^ t % (m.crafts.length + 1) < m.crafts.length + 1 := Nat.mod_lt _ (by omega)
              have hin : (i : Int) < (m.slopes.length : Int) := by omega
              have hi0 : (0 : Int) ≤ (i : Int) := by omega
              rw [hiv]
              generalize hd : k / (m.crafts.length + 1) ^ t % (m.crafts.length + 1) = d at *
              have HD := Lib.hid hd
              clear hca hd hiv
              have hsb : IntKind.i64.wrap ((m.crafts.length : Int) - 1) = (m.crafts.length : Int) - 1 := IntWalk.i64_in _ (by omega)
              have hcc : (0 : Int) ≤ (m.crafts.length : Int) := by omega
              go_wp2_with fail
              refine wp_region_rg (Below Wi.heap.size) (fun _ => .fn) (by kernel_rfl) (by kernel_rfl) (Below.refl _) belowR (fun _ => trivial) ?_
              iterate 13 (refine rg_step fun K hK => ?_; apply rg_fn rfl; (intro w4 hw; have hc := below_cells (undrew hw); go_simp; try rfl); go_simp; (try with_reducible refine hK _ _ ?_); try clear hK K)
              refine rg_nil ?_
              intro w7 hw7 _
              replace hw7 := undrew hw7
              have hop7 := hop.out.below hw7
              have hr7 := blk_below hw7 hri.out hgi
              have hc7 : w7.cell? ⟨g, i, none⟩ = some (.int .i64 ((d : Int) - 1)) := (hw7.cell (p := ⟨g, i, none⟩) hgi).trans hcell
              have hf7 : w7.frozen? ⟨g, i, none⟩ = false := frozen_blk hr7 i
              have HB7 := Lib.hid (hbi.out.trans (hw7.mono (Nat.le_of_lt hgi)))
              have HOP7 := Lib.hid hop7
              have HR7 := Lib.hid hr7
              have hisub : IntKind.i64.wrap ((i : Int) - 1) = (i : Int) - 1 := IntWalk.i64_in _ (by omega)
              clear hw7 hop7 hr7 x0 x1 x2 x3 x4 hcell
              by_cases hdc : d = m.crafts.length
              · subst hdc
                have hbeq : (((m.crafts.length : Int) - 1) == ((m.crafts.length : Int) - 1)) = true := by simp
                have hrn : (w7.setCell ⟨g, i, none⟩ (.int .i64 (-1))).heap[g]? = some (.cells ((carry m.crafts.length m.slopes.length k (t + 1)).map (Value.int .i64)).toArray 3 (0, 0)) := by
                  rw [heap_set HR7.out, map_set_int, ← carry_next _ _ _ _ (by omega : t < m.slopes.length), show m.slopes.length - t - 1 = i by omega]
                have hopn := own_ne HOP7.out (g := g) (fun _ h => h) (i := i) (.int .i64 (-1))
                have hbn : Below g w0 (w7.setCell ⟨g, i, none⟩ (.int .i64 (-1))) := HB7.out.setCell (p := ⟨g, i, none⟩) (Nat.le_refl g) _
                have hfull := carry_full hmod HD.out
                have HRN2 := Lib.hid (And.intro hrn (And.intro hopn (And.intro hbn hfull)))
                clear hrn hopn hbn hfull
                go_wp2_with fail
                go_round
                case rel => exact ⟨t + 1, by omega, by rw [show (m.slopes.length : Int) - ((t + 1 : Nat) : Int) - 1 = (i : Int) - 1 by omega], HRN2.out.2.2.2, Lib.hid HRN2.out.1, Lib.hid HRN2.out.2.1, Lib.hid HRN2.out.2.2.1⟩
                case measure => simp [intOf]
              · have hdc' : d < m.crafts.length := by omega
                have hne : ((d : Int) - 1 == (m.crafts.length : Int) - 1) = false := by rw [beq_eq_false_iff_ne]; omega
                have hil : ¬ (i : Int) < 0 := by omega
                have hd1 : IntKind.i64.wrap ((d : Int) - 1 + 1) = (d : Int) := by rw [IntWalk.i64_in _ (by omega)]; omega
                have hmore : k + 1 < rowsN m := carry_more (by omega : t < m.slopes.length) hk (by rw [HD.out]; exact hdc')
                have hrow' : (w7.setCell ⟨g, i, none⟩ (.int .i64 (d : Int))).heap[g]? = some (.cells ((rowK m (k + 1)).map (Value.int .i64)).toArray 3 (0, 0)) := by
                  rw [heap_set HR7.out, map_set_int]
                  have := carry_done (c := m.crafts.length) (n := m.slopes.length) (k := k) (t := t) (by omega) hmod (by rw [HD.out]; exact hdc')
                  rw [HD.out, show m.slopes.length - t - 1 = i by omega, show (d : Int) - 1 + 1 = d by omega] at this
                  rw [this]; rfl
                have hopn := own_ne HOP7.out (g := g) (fun _ h => h) (i := i) (.int .i64 (d : Int))
                have hbn : Below g w0 (w7.setCell ⟨g, i, none⟩ (.int .i64 (d : Int))) := HB7.out.setCell (p := ⟨g, i, none⟩) (Nat.le_refl g) _
                have hleft := rowLeft_eq m g (k + 1) _ hmore hrow'
                have hleft0 := rowLeft_eq m g k _ hk HRW.out
                have HRN2 := Lib.hid (And.intro hrow' (And.intro hopn hbn))
                have HLEFT := Lib.hid (And.intro hleft hleft0)
                clear hrow' hopn hbn hleft hleft0
                go_wp2_with fail
                go_round
                case rel => exact ⟨k + 1, hmore, ⟨_, _, _, rfl⟩, Lib.hid HRN2.out.1, Lib.hid HRN2.out.2.1, Lib.hid HRN2.out.2.2⟩
                case measure => rw [HLEFT.out.1, HLEFT.out.2]; omega
end Go.Proofs.Ytccplobhfokcgaa

/- Lists of lists of rows: how they lie in memory. -/
namespace Go.Proofs.Ytccplobhfokcgaa
open Go Go.RowKit Go.Shelf
set_option maxRecDepth 100000

/-- A list of lists of rows. -/
def LevsAt (w : World) (n0 : Nat) (v : Value) (L : List (List (List Int))) : Prop := ∃ A c, v = .slice A L.length c ∧ L.length ≤ 9223372036854775807 ∧
  (L ≠ [] → ∃ b o, A = some ⟨b, o, none⟩ ∧ b < n0 ∧ ∀ i xss, L[i]? = some xss → ∃ u, w.cell? ⟨b, o + i, none⟩ = some u ∧ RowsAt w n0 u xss)
theorem LevsAt.below {w w' : World} {n0 : Nat} {v : Value} {L : List (List (List Int))} (h : LevsAt w n0 v L) (hb : Below n0 w w') : LevsAt w' n0 v L := by
  obtain ⟨A, c, e, hl, hr⟩ := h
  refine ⟨A, c, e, hl, fun hn => ?_⟩
  obtain ⟨b, o, e, hlt, hc⟩ := hr hn
  refine ⟨b, o, e, hlt, fun i xs hx => ?_⟩
  obtain ⟨u, h1, h2⟩ := hc i xs hx
  exact ⟨u, (hb.cell (p := ⟨b, o + i, none⟩) hlt).trans h1, h2.below hb⟩
theorem LevsAt.mono {w : World} {n0 n1 : Nat} {v : Value} {L : List (List (List Int))} (h : LevsAt w n0 v L) (hn : n0 ≤ n1) : LevsAt w n1 v L := by
  obtain ⟨A, c, e, hl, hr⟩ := h
  refine ⟨A, c, e, hl, fun hne => ?_⟩
  obtain ⟨b, o, e, hlt, hc⟩ := hr hne
  refine ⟨b, o, e, Nat.lt_of_lt_of_le hlt hn, fun i xs hx => ?_⟩
  obtain ⟨u, h1, h2⟩ := hc i xs hx
  exact ⟨u, h1, h2.mono hn⟩
/-- One of one's own. -/
def Own3 (w : World) (B : Nat) (v : Value) (L : List (List (List Int))) : Prop := ∃ vs, w.ownsRow B 26 1 v L.length vs ∧
  ∀ (i : Nat) (xss : List (List Int)), L[i]? = some xss → ∃ u, vs[i]? = some u ∧ OwnRows w B u xss
theorem Own3.below {w w' : World} {B : Nat} {v : Value} {L : List (List (List Int))} (h : Own3 w B v L) (hb : Below w.heap.size w w') : Own3 w' B v L := by
  obtain ⟨vs, h1, h2⟩ := h
  refine ⟨vs, own_below h1 hb (fun k hk => (own_blk_lt h1 k hk).2), fun i xss hx => ?_⟩
  obtain ⟨u, hu, h3⟩ := h2 i xss hx
  exact ⟨u, hu, h3.below hb⟩
theorem Own3.mono {w : World} {B B' : Nat} {v : Value} {L : List (List (List Int))} (h : Own3 w B v L) (hB : B' ≤ B) : Own3 w B' v L := by
  obtain ⟨vs, h1, h2⟩ := h
  refine ⟨vs, own_mono h1 hB, fun i xss hx => ?_⟩
  obtain ⟨u, hu, h3⟩ := h2 i xss hx
  exact ⟨u, hu, h3.mono hB⟩
theorem Own3.snoc {W w1 : World} {B : Nat} {v v1 : Value} {L : List (List (List Int))} {vs : List Value} {u : Value} {xss : List (List Int)}
    (h1 : W.ownsRow B 26 1 v L.length vs) (h2 : ∀ (i : Nat) (xss : List (List Int)), L[i]? = some xss → ∃ u, vs[i]? = some u ∧ OwnRows W B u xss)
    (hu : OwnRows W B u xss) (hown : w1.ownsRow B 26 1 v1 (L.length + 1) (vs ++ [u])) (hg : W.grownBy w1 v.ownBlock) : Own3 w1 B v1 (L ++ [xss]) := by
  have key : ∀ {u : Value} {xss : List (List Int)}, OwnRows W B u xss → OwnRows w1 B u xss := fun {u xss} hu =>
    hu.kept fun k cs t _ hk ht => hg.block k (lt_blk hk) fun e => by
      obtain ⟨cur2, hc2⟩ := own_type h1 k e.symm
      rw [hk] at hc2
      rcases ht with rfl | rfl <;> simp at hc2
  have hvl : vs.length = L.length := by have := h1.1; simpa using this
  refine ⟨vs ++ [u], by rw [List.length_append]; exact hown, fun i ys hy => ?_⟩
  by_cases hi : i < L.length
  · rw [List.getElem?_append_left hi] at hy
    obtain ⟨u', hu', h3⟩ := h2 i ys hy
    exact ⟨u', by rw [List.getElem?_append_left (by omega)]; exact hu', key h3⟩
  · rw [List.getElem?_append_right (by omega)] at hy
    have h0 : i - L.length = 0 := by
      have := (List.getElem?_eq_some_iff.1 hy).1
      simp at this; omega
    rw [h0] at hy
    have : xss = ys := by simpa using hy
    subst this
    exact ⟨u, by rw [List.getElem?_append_right (by omega), hvl, h0]; rfl, key hu⟩
theorem own_blkv {w : World} {B e g c n : Nat} {xs : List Value} (h : w.ownsRow B e 1 (.slice (some ⟨g, 0, none⟩) n c) n xs) :
    ∃ cur, w.heap[g]? = some (.cells cur e (0, 0)) ∧ (∀ i, i < n → cur[i]? = xs[i]?) ∧ B ≤ g ∧ g < w.heap.size := by
  have hb := own_blk_lt h g rfl
  have hl := h.1
  rcases h.2 with ⟨h1, _⟩ | ⟨g', cap', cur, hv, _, hh, _, _, _, ht⟩
  · cases h1
  · cases hv
    refine ⟨cur, hh, fun i hi => ?_, hb.1, hb.2⟩
    rw [← ht, List.getElem?_take, if_pos (by omega), Array.getElem?_toList]
theorem own_setv {w : World} {B e g c n : Nat} {xs : List Value} (h : w.ownsRow B e 1 (.slice (some ⟨g, 0, none⟩) n c) n xs) (s : Nat) (u : Value) : (w.setCell ⟨g, s, none⟩ u).ownsRow B e 1 (.slice (some ⟨g, 0, none⟩) n c) n (xs.set s u) := by
  have hl := h.1
  rcases h.2 with ⟨h1, _⟩ | ⟨g', cap, cur, hv, hB, hh, hc, hm, hsz, ht⟩
  · cases h1
  · cases hv
    refine ⟨by simpa using hl, .inr ⟨g, c, cur.setIfInBounds s u, rfl, hB, heap_set hh s _, hc, hm, by simpa using hsz, ?_⟩⟩
    rw [Array.toList_setIfInBounds, ← ht, List.take_set]
theorem own_head {w : World} {B e n : Nat} {v : Value} {xs : List Value} (h : w.ownsRow B e 1 v n xs) (hn : 0 < n) : ∃ g c, v = .slice (some ⟨g, 0, none⟩) n c := by
  rcases h.2 with ⟨_, h0⟩ | ⟨g, cap, cur, e, _⟩
  · omega
  · exact ⟨g, cap, e⟩
theorem Own3.levs {w : World} {B : Nat} {v : Value} {L : List (List (List Int))} (h : Own3 w B v L) (hl : L.length ≤ 1000000) (hx : ∀ xss ∈ L, xss.length ≤ 1000000 ∧ ∀ xs ∈ xss, xs.length ≤ 1000000) : LevsAt w w.heap.size v L := by
  obtain ⟨vs, h1, h2⟩ := h
  rcases id h1.2 with ⟨rfl, h0⟩ | ⟨g, cap, cur, rfl, hB, hh, _, _, hs, ht⟩
  · obtain rfl : L = [] := List.eq_nil_of_length_eq_zero h0
    exact ⟨none, 0, rfl, by simp, fun hn => absurd rfl hn⟩
  · refine ⟨_, cap, rfl, by omega, fun _ => ⟨g, 0, rfl, lt_blk hh, fun i xss hi => ?_⟩⟩
    obtain ⟨u, hu, h3⟩ := h2 i xss hi
    have hil := (List.getElem?_eq_some_iff.1 hi).1
    obtain ⟨hxl, hxs⟩ := hx xss (List.mem_of_getElem? hi)
    refine ⟨u, ?_, h3.rows hxl hxs⟩
    rw [cell_blk hh, Nat.zero_add]
    rw [← ht, List.getElem?_take, if_pos (by omega), Array.getElem?_toList] at hu
    exact hu
/-- A row put in at its place. -/
theorem ownRows_ins {w : World} {B : Nat} {v : Value} {l : List (List Int)} {vs : List Value} {u : Value} {t : List Int} {p : Nat} (hp : p ≤ l.length)
    (h1 : w.ownsRow B 36 1 v (l.length + 1) (vs.take p ++ u :: vs.drop p)) (hvl : vs.length = l.length)
    (h2 : ∀ (i : Nat) (xs : List Int), l[i]? = some xs → ∃ u, vs[i]? = some u ∧ w.ownsRow B 3 1 u xs.length (xs.map (Value.int .i64)))
    (hu : w.ownsRow B 3 1 u t.length (t.map (Value.int .i64))) : OwnRows w B v (l.take p ++ t :: l.drop p) := by
  refine ⟨vs.take p ++ u :: vs.drop p, by simp only [List.length_append, List.length_take, List.length_cons, List.length_drop]; rw [show min p l.length + (l.length - p + 1) = l.length + 1 by omega]; exact h1, fun i xs hi => ?_⟩
  have e1 : (l.take p).length = p := by rw [List.length_take]; omega
  have e2 : (vs.take p).length = p := by rw [List.length_take]; omega
  rcases Nat.lt_or_ge i p with h | h
  · rw [List.getElem?_append_left (by omega), List.getElem?_take, if_pos h] at hi
    obtain ⟨u', h3, h4⟩ := h2 i xs hi
    exact ⟨u', by rw [List.getElem?_append_left (by omega), List.getElem?_take, if_pos h]; exact h3, h4⟩
  · rw [List.getElem?_append_right (by omega), e1] at hi
    rw [List.getElem?_append_right (by omega), e2]
    cases hd : i - p with
    | zero =>
      rw [hd] at hi
      have : t = xs := by simpa using hi
      subst this
      exact ⟨u, rfl, hu⟩
    | succ d =>
      rw [hd] at hi
      simp only [List.getElem?_cons_succ, List.getElem?_drop] at hi ⊢
      exact h2 _ _ hi
/-- One step of moving up. -/
theorem shift_set (vs : List Value) (X Y : Value) {j : Nat} (hj : 0 < j) (hjl : j ≤ vs.length) (hY : vs[j - 1]? = some Y) : (vs.take j ++ X :: vs.drop j).set j Y = vs.take (j - 1) ++ Y :: vs.drop (j - 1) := by
  have e1 : (vs.take j).length = j := by rw [List.length_take]; omega
  rw [List.set_append_right _ _ (by omega), e1, Nat.sub_self, List.set_cons_zero]
  obtain ⟨hlt, he⟩ := List.getElem?_eq_some_iff.1 hY
  have e2 : vs.take j = vs.take (j - 1) ++ [Y] := by
    rw [show j = (j - 1) + 1 by omega, List.take_succ_eq_append_getElem hlt, he]; simp
  have e3 : vs.drop (j - 1) = Y :: vs.drop j := by
    rw [List.drop_eq_getElem_cons hlt, he, show j - 1 + 1 = j by omega]
  rw [e2, e3, List.append_assoc]
  rfl
theorem shift_last (vs : List Value) (X : Value) : vs ++ [X] = vs.take vs.length ++ X :: vs.drop vs.length := by simp
theorem shift_end (vs : List Value) (X u : Value) {p : Nat} (hp : p ≤ vs.length) : (vs.take p ++ X :: vs.drop p).set p u = vs.take p ++ u :: vs.drop p := by
  have e1 : (vs.take p).length = p := by rw [List.length_take]; omega
  rw [List.set_append_right _ _ (by omega), e1, Nat.sub_self, List.set_cons_zero]
theorem shift_get (vs : List Value) (X : Value) {j : Nat} (hj : 0 < j) (hjl : j ≤ vs.length) : (vs.take j ++ X :: vs.drop j)[j - 1]? = vs[j - 1]? := by
  rw [List.getElem?_append_left (by rw [List.length_take]; omega), List.getElem?_take, if_pos (by omega)]
theorem infoRows3 : (Try.prog.info? 26).map (fun i => (i.zero, i.size, i.bytes)) = some (some (.slice none 0 0), 1, 24) := by kernel_rfl
end Go.Proofs.Ytccplobhfokcgaa

/- The specification's States. -/
namespace Go.Proofs.Ytccplobhfokcgaa
open Go Go.RowKit Go.Shelf
set_option maxRecDepth 100000

/-! ### Plainly -/
def levTo (m : Wk) (y : Int) (th : List Int) (k : Nat) : List (List (List Int)) := (List.range (k + 1)).map (levT m y th)
theorem levTo_length (m : Wk) (y : Int) (th : List Int) (k : Nat) : (levTo m y th k).length = k + 1 := by simp [levTo]
theorem levTo_succ (m : Wk) (y : Int) (th : List Int) (k : Nat) : levTo m y th (k + 1) = levTo m y th k ++ [levT m y th (k + 1)] := by
  unfold levTo; rw [List.range_succ, List.map_append]; rfl
theorem levTo_get {m : Wk} {y : Int} {th : List Int} {k i : Nat} (h : i ≤ k) : (levTo m y th k)[i]? = some (levT m y th i) := by
  unfold levTo
  rw [List.getElem?_map, List.getElem?_range (by omega)]; rfl
/-- All the years' thicknesses. -/
def levsT (m : Wk) (y : Int) (th : List Int) : List (List (List Int)) := levTo m y th (m.years - y).toNat
def flatT (m : Wk) (y : Int) (now : List (List Int)) (i k : Nat) : List (List Int) := ((now.take i).flatMap fun t => kidT m y t (rowsS m)) ++ kidT m y (now.getD i []) ((rowsS m).take k)
/-- What has been found ahead of a place. -/
def accT (m : Wk) (y : Int) (now : List (List Int)) (i k : Nat) : List (List Int) := (flatT m y now i k).foldl insT []
theorem kidT_nil (m : Wk) (y : Int) (t : List Int) : kidT m y t [] = [] := rfl
theorem flatT_zero (m : Wk) (y : Int) (now : List (List Int)) (i : Nat) : flatT m y now i 0 = (now.take i).flatMap fun t => kidT m y t (rowsS m) := by
  unfold flatT; rw [List.take_zero, kidT_nil, List.append_nil]
theorem accT_start (m : Wk) (y : Int) (now : List (List Int)) : accT m y now 0 0 = [] := by unfold accT; rw [flatT_zero]; rfl
theorem accT_end (m : Wk) (y : Int) (now : List (List Int)) : accT m y now now.length 0 = nextT m y now := by unfold accT nextT; rw [flatT_zero, List.take_length]
theorem accT_next {m : Wk} {y : Int} {now : List (List Int)} {i : Nat} (h : i < now.length) : accT m y now i (rowsS m).length = accT m y now (i + 1) 0 := by
  unfold accT
  rw [flatT_zero, List.take_succ_eq_append_getElem h, List.flatMap_append]
  unfold flatT
  rw [List.take_length, getD_lt h]
  simp
theorem accT_out {m : Wk} {y : Int} {now : List (List Int)} {i k : Nat} (h : i < now.length) {r : List Int} (hr : (rowsS m)[k]? = some r) (hk : keptS m (stOf y now[i]) r = false) : accT m y now i (k + 1) = accT m y now i k := by
  unfold accT flatT kidT
  rw [List.take_add_one, hr, getD_lt h]
  simp [hk]
theorem accT_in {m : Wk} {y : Int} {now : List (List Int)} {i k : Nat} (h : i < now.length) {r : List Int} (hr : (rowsS m)[k]? = some r) (hk : keptS m (stOf y now[i]) r = true) : accT m y now i (k + 1) = insT (accT m y now i k) (thicks m (stepS m (stOf y now[i]) r)) := by
  unfold accT flatT kidT
  rw [List.take_add_one, hr, getD_lt h]
  simp [hk]
theorem flatT_sub {m : Wk} {y : Int} {now : List (List Int)} {i k : Nat} {x : List Int} (hx : x ∈ flatT m y now i k) (h : i < now.length) : x ∈ now.flatMap fun t => kidT m y t (rowsS m) := by
  unfold flatT at hx
  rw [List.mem_flatMap]
  rcases List.mem_append.1 hx with hx | hx
  · obtain ⟨t, ht, h2⟩ := List.mem_flatMap.1 hx
    exact ⟨t, List.mem_of_mem_take ht, h2⟩
  · rw [getD_lt h] at hx
    obtain ⟨r, hr, h2⟩ := kidT_mem.1 hx
    exact ⟨now[i], List.getElem_mem h, kidT_mem.2 ⟨r, List.mem_of_mem_take hr, h2⟩⟩
theorem accT_sub {m : Wk} {y : Int} {now : List (List Int)} {i k : Nat} {x : List Int} (hx : x ∈ accT m y now i k) (h : i < now.length) : x ∈ nextT m y now := by
  unfold accT at hx
  unfold nextT
  rw [foldl_ins_mem] at hx ⊢
  exact .inr (flatT_sub (hx.resolve_left (by simp)) h)
theorem accT_rises (m : Wk) (y : Int) (now : List (List Int)) (i k : Nat) : RisesT (accT m y now i k) ∧ ∀ x ∈ accT m y now i k, x.length = m.slopes.length := by
  have hl : ∀ x ∈ flatT m y now i k, x.length = m.slopes.length := fun x hx => by
    unfold flatT at hx
    rcases List.mem_append.1 hx with hx | hx
    · obtain ⟨t, _, h2⟩ := List.mem_flatMap.1 hx
      obtain ⟨r, _, _, rfl⟩ := kidT_mem.1 h2
      exact thicks_length _ _
    · obtain ⟨r, _, _, rfl⟩ := kidT_mem.1 hx
      exact thicks_length _ _
  refine ⟨foldl_ins_rises (n := m.slopes.length) _ _ (fun x hx => by cases hx) hl (by simp [RisesT]), fun x hx => ?_⟩
  unfold accT at hx
  rw [foldl_ins_mem] at hx
  exact hl x (hx.resolve_left (by simp))
def RStatesPost (m : Wk) (y : Int) (th : List Int) (w : World) (e : Ending) (w' : World) : Prop :=
  (∃ v', e = .returned (.tuple #[v', .bool (decide ((allS m (stOf y th)).length ≤ 2000))]) ∧ ((allS m (stOf y th)).length ≤ 2000 → Own3 w' w.heap.size v' (levsT m y th))) ∧ Below w.heap.size w w'
theorem own_one {w : World} {B b e : Nat} {v : Value} (h : w.heap[b]? = some (.cells #[v] e (0, 0))) (hB : B ≤ b) : w.ownsRow B e 1 (.slice (some ⟨b, 0, none⟩) 1 1) 1 [v] :=
  ⟨rfl, .inr ⟨b, 1, #[v], rfl, hB, h, Nat.le_refl _, by simp [maxLen], rfl, rfl⟩⟩
/-- A row of whole numbers lies as it lay. -/
theorem ints_grown {W w1 : World} {B B' n m : Nat} {v u : Value} {vs xs : List Value} (h1 : W.ownsRow B 36 1 v n vs) (hg : W.grownBy w1 v.ownBlock) (hu : W.ownsRow B' 3 1 u m xs) : w1.ownsRow B' 3 1 u m xs :=
  own_kept hu fun k hk => by
    obtain ⟨cur, hc⟩ := own_type hu k hk
    refine hg.block k (own_blk_lt hu k hk).2 (fun e => ?_)
    obtain ⟨cur2, hc2⟩ := own_type h1 k e.symm
    rw [hc] at hc2
    simp at hc2
theorem ints_bel {w w' : World} {B' m g : Nat} {u : Value} {xs : List Value} {cur : Array Value} (hg : w.heap[g]? = some (.cells cur 36 (0, 0))) (hb : Bel (fun k => k = g) w w') (hu : w.ownsRow B' 3 1 u m xs) : w'.ownsRow B' 3 1 u m xs :=
  own_kept hu fun k hk => by
    obtain ⟨cur2, hc⟩ := own_type hu k hk
    refine hb.block k (own_blk_lt hu k hk).2 (fun e => ?_)
    subst e
    rw [hc] at hg
    simp at hg

set_option maxHeartbeats 16000000 in
theorem rstates_calls (m : Wk) (sl cr : Value) (y : Int) (tA : Option Addr) (tc : Nat) (th : List Int) (w : World) (hm : m.Ok) (hfit : FitT m th) (hy : 0 ≤ y ∧ y ≤ m.years) (hsl : SlopesAt w w.heap.size sl m.slopes) (hcr : CraftsAt w w.heap.size cr m.crafts)
    (ht : RowC w w.heap.size tA (th.map (Value.int .i64))) :
    Calls Try.prog 54 #[.agg #[sl, cr, .int .i64 m.years, .int .i64 m.visit, .int .i64 m.hands], .int .i64 y, .slice tA th.length tc] w (RStatesPost m y th w) := by
  obtain ⟨sA, sc, rfl, _, _⟩ := id hsl
  obtain ⟨cA, cc, rfl, _, _⟩ := id hcr
  obtain ⟨w0, hw0⟩ : ∃ w0, w0 = w.alloc (.cells #[.slice sA m.slopes.length sc, .slice cA m.crafts.length cc, .int .i64 m.years, .int .i64 m.visit, .int .i64 m.hands] 25) := ⟨_, rfl⟩
  have h0 := LawInv.start hsl hcr
  rw [← hw0] at h0
  have hn1 := hm.some
  have hn4 := hm.few
  have hyb := hm.years
  have hr625 := rowsS_len hm
  obtain ⟨hy0, hy1⟩ := hy
  have H0 := Lib.hid h0
  have HW0 := Lib.hid hw0
  have HM := Lib.hid hm
  have HFIT := Lib.hid hfit
  have HTH := Lib.hid ht
  have z0 : w.heap.size < w0.heap.size := by rw [hw0]; simp
  obtain ⟨x0, x1, x2, x3, x4⟩ := blk5 h0.box
  rw [hw0] at x0 x1 x2 x3 x4
  have hrc := rrows_calls m _ _ w0 hm h0.slopes h0.crafts
  have HRC := Lib.hid hrc
  clear h0 hw0 hsl hcr hrc hfit hm ht
  go_enter Try.func54, Try.ntmps54
  go_wp2_with fail
  rw [← HW0.out]
  refine HRC.out.mono ?_
  rintro e w1 ⟨⟨vr, rfl, hor⟩, hb1⟩
  have hrl : ∀ xs ∈ rowsS m, xs.length ≤ 1000000 := fun xs hx => by have := (rowsS_mem hx).1.len; omega
  have hra := hor.rows (by omega) hrl
  obtain ⟨rA, rc, rfl, _, hrr⟩ := hra
  have HRR := Lib.hid hrr
  have H1 := Lib.hid (H0.out.later hb1)
  have htw := (HTH.out.below H1.out.below).mono H1.out.below.size
  have z1 := hb1.size
  have hfl := HFIT.out.len
  have hnews : ∀ j u, (th.map (Value.int .i64))[j]? = some u → ∃ ad, tA = some ad ∧ (w1.alloc (.cells #[] 3)).cell? (ad.add j) = some u := fun j u hu => by
    obtain ⟨b, o, e, hbl, hc⟩ := htw.2 (by intro e; simp [e] at hu)
    refine ⟨_, e, ?_⟩
    rw [show (⟨b, o, none⟩ : Addr).add j = ⟨b, o + j, none⟩ by unfold Addr.add; split <;> simp_all]
    exact ((below1 w1 _).cell (p := ⟨b, o + j, none⟩) hbl).trans (hc j u hu)
  obtain ⟨ad, rfl⟩ : ∃ ad, tA = some ad := by
    obtain ⟨b, o, e, _⟩ := htw.at_ 0 (by simp; omega)
    exact ⟨_, e⟩
  have hnews2 : ∀ j u, (th.map (Value.int .i64))[j]? = some u → (w1.alloc (.cells #[] 3)).cell? (ad.add j) = some u := fun j u hu => by
    obtain ⟨_, e, h⟩ := hnews j u hu
    cases e; exact h
  have HNEWS := Lib.hid hnews2
  obtain ⟨i0, hi, hz0, hz1, hz2⟩ := info_parts infoInt
  have hempty : (w1.alloc (.cells #[] 3)).ownsRow w1.heap.size 3 1 (.slice (some ⟨w1.heap.size, 0, none⟩) 0 0) 0 [] :=
    ⟨rfl, .inr ⟨w1.heap.size, 0, #[], rfl, Nat.le_refl _, heap_alloc_self _ _, Nat.le_refl _, by simp [maxLen], rfl, rfl⟩⟩
  have hspread : ∀ v' W', W'.ownsRow w1.heap.size 3 1 v' (0 + th.length) ([] ++ th.map (Value.int .i64)) → (w1.alloc (.cells #[] 3)).grownBy W' (Value.ownBlock (.slice (some ⟨w1.heap.size, 0, none⟩) 0 0)) → CopyL w1 th v' W' := fun v' W' h1 h2 =>
    ⟨(below1 w1 (.cells #[] 3)).grown h2 (by simp) (fun k hk => by cases hk; exact Nat.le_refl _), by simpa using h1⟩
  have HEMPTY := Lib.hid hempty
  have HSPREAD := Lib.hid hspread
  have hth4 : th.length ≤ 4 := by omega
  have hth1 : 1 ≤ th.length := by omega
  clear hnews hnews2 hempty hspread hb1 hor hrl hrr hfl htw x0 x1 x2 x3 x4 HTH
  go_wp2_with (at_builtin; (refine wpList_append_own _ rfl _ _ 36 rfl w1.heap.size 3 i0 (.int .i64 0) 1 8 Try.underlying36 hi hz0 hz1 hz2 rfl (by decide) _ 0 [] rfl HEMPTY.out ad th.length tc (th.map (Value.int .i64)) rfl (by simp) HNEWS.out (by simp [Value.oneCell']) (by simp only [maxLen]; omega) (by omega) (by simp) ?_); intro v5 w5 hown5 hg5 _; have HC5 := Lib.hid (HSPREAD.out v5 w5 hown5 hg5); clear hown5 hg5; obtain ⟨A5, n5, c5, rfl⟩ := own_slice HC5.out.own)
  obtain ⟨w6, hw6⟩ : ∃ w6, w6 = (w5.alloc (.cells #[.slice A5 n5 c5] 36)).alloc (.cells #[.slice (some ⟨w5.heap.size, 0, none⟩) 1 1] 26) := ⟨_, rfl⟩
  have b56 : Below w5.heap.size w5 w6 := by rw [hw6]; exact (below1 _ _).trans ((below1 _ _).mono (by simp))
  have z5 := HC5.out.below.size
  have hown6 : Own3 w6 w1.heap.size (.slice (some ⟨w5.heap.size + 1, 0, none⟩) 1 1) (levTo m y th 0) := by
    have g1 : w6.heap[w5.heap.size + 1]? = some (.cells #[.slice (some ⟨w5.heap.size, 0, none⟩) 1 1] 26 (0, 0)) := by
      rw [hw6]; simpa using heap_alloc_self (w5.alloc (.cells #[.slice A5 n5 c5] 36)) (.cells #[.slice (some ⟨w5.heap.size, 0, none⟩) 1 1] 26)
    have g2 : w6.heap[w5.heap.size]? = some (.cells #[.slice A5 n5 c5] 36 (0, 0)) := by
      rw [hw6]; exact (Below.heap_alloc _ _ _ (by simp)).trans (heap_alloc_self w5 _)
    refine ⟨[.slice (some ⟨w5.heap.size, 0, none⟩) 1 1], own_one g1 (by omega), fun i xss hi => ?_⟩
    have hi0 : i = 0 := by have := (List.getElem?_eq_some_iff.1 hi).1; rw [levTo_length] at this; omega
    subst hi0
    rw [levTo_get (Nat.le_refl _)] at hi
    cases hi
    refine ⟨_, rfl, [.slice A5 n5 c5], own_one g2 (by omega), fun i xs hi => ?_⟩
    have hi0 : i = 0 := by have := (List.getElem?_eq_some_iff.1 hi).1; simp [levT] at this; omega
    subst hi0
    simp [levT] at hi
    subst hi
    exact ⟨_, rfl, own_below HC5.out.own b56 (fun k hk => (own_blk_lt HC5.out.own k hk).2)⟩
  have HO6 := Lib.hid hown6
  have HB6 := Lib.hid (HC5.out.below.trans (b56.mono z5))
  have HW6 := Lib.hid hw6
  clear hown6 b56 hw6 HC5 HEMPTY HSPREAD HNEWS
  rw [← HW6.out]
  go_wp2_with fail
  go_loopw [9, 10, 11] (fun ou ma c wr => ∃ k : Nat, y + (k : Int) ≤ m.years ∧ c = .int .i64 (y + (k : Int)) ∧ ma = .int .i64 ((lenT m y th k : Nat) : Int) ∧ (∃ A n c, ou = .slice A n c) ∧ Hid (lenT m y th k ≤ 2000) ∧ Hid (Own3 wr w1.heap.size ou (levTo m y th k)) ∧ Hid (Below w1.heap.size w1 wr)) (fun _ _ c _ => (m.years - intOf c).toNat)
  case atStart => exact ⟨0, by omega, by simp, rfl, ⟨_, _, _, rfl⟩, Lib.hid (by simp [lenT]), HO6, HB6⟩
  case round =>
    obtain ⟨k, hk, rfl, rfl, ⟨oA, on, oc, rfl⟩, HLEN, HOU, HB⟩ := hrel
    obtain ⟨Wr, rfl⟩ : ∃ Wr, Wr = wr := ⟨_, rfl⟩
    have zr := HB.out.size
    have HI := Lib.hid (H1.out.later HB.out)
    obtain ⟨x0, x1, x2, x3, x4⟩ := blk5 HI.out.box
    by_cases hyl : y + (k : Int) < m.years
    · have hyadd : IntKind.i64.wrap (y + (k : Int) + 1) = y + (k : Int) + 1 := IntWalk.i64_in _ (by omega)
      have hou := HOU.out
      obtain ⟨us, hu1, hu2⟩ := id hou
      rw [levTo_length] at hu1
      obtain ⟨og, oc', e9⟩ := own_head hu1 (by omega)
      cases e9
      obtain ⟨ocur, hog, hoc, hoB, hoS⟩ := own_blkv hu1
      obtain ⟨un, hun, hunr⟩ := hu2 k _ (levTo_get (Nat.le_refl _))
      have hcell : Wr.cell? ⟨og, k, none⟩ = some un := by rw [cell_blk hog, hoc k (by omega)]; exact hun
      have hfitk := fun t ht => levT_fit HM.out HFIT.out (y := y) k t ht
      have hlk := lev_le (m := m) (y := y) (th := th) k
      have hlen := HLEN.out
      have hnr := hunr.rows (by omega) (fun xs hx => by rw [(hfitk xs hx).len]; omega)
      obtain ⟨nA, nc, rfl, _, hnrr⟩ := hnr
      have hone : (Value.slice nA (levT m y th k).length nc).oneCell' = true := rfl
      have HNRR := Lib.hid hnrr
      have hpart := fun (l : List (List Int)) => lenT_part HM.out HFIT.out (y := y) (k := k) hyl (l := l)
      have HPART := Lib.hid hpart
      have HFK := Lib.hid hfitk
      have hlv : levT m y th (k + 1) = nextT m (y + (k : Int)) (levT m y th k) := rfl
      have hln : lenT m y th (k + 1) = lenT m y th k + (levT m y th (k + 1)).length := rfl
      have HLV := Lib.hid hlv
      have HLN := Lib.hid hln
      have HUS := Lib.hid (And.intro hu1 hu2)
      have hk0 : (0 : Int) ≤ (k : Int) := by omega
      have hki : (k : Int) < ((k : Int) + 1) := by omega
      have hki2 : (k : Int) < ((k + 1 : Nat) : Int) := by omega
      have hsub : IntKind.i64.wrap ((k : Int) + 1 - 1) = (k : Int) := by rw [IntWalk.i64_in _ (by omega)]; omega
      have hsub2 : IntKind.i64.wrap (((k + 1 : Nat) : Int) - 1) = (k : Int) := by rw [IntWalk.i64_in _ (by omega)]; omega
      have HNOW : Hid (levT m y th k = levT m y th k) := Lib.hid rfl
      generalize hnow : levT m y th k = now at *
      generalize lenT m y th k = len0 at *
      clear hou hu1 hu2 hog hoc hun hunr hfitk hnrr hpart hlv hln hnow HNOW
      go_wp2_with fail
      clear x0 x1 x2 x3 x4 hcell hsub hsub2
      go_loopw [10, 12, 14] (fun ma nx c wi => ∃ i mm : Nat, i ≤ now.length ∧ c = .int .i64 (i : Int) ∧ ma = .int .i64 (mm : Int) ∧ (∃ A n c, nx = .slice A n c) ∧ mm ≤ 2000 ∧ Hid (mm = len0 + (accT m (y + (k : Int)) now i 0).length) ∧ Hid (OwnRows wi Wr.heap.size nx (accT m (y + (k : Int)) now i 0)) ∧ Hid (Below Wr.heap.size Wr wi)) (fun _ _ c _ => now.length - (intOf c).toNat)
      case atStart => exact ⟨0, len0, Nat.zero_le _, rfl, rfl, ⟨none, 0, 0, rfl⟩, HLEN.out, Lib.hid (by simp [accT_start]), Lib.hid (by rw [accT_start]; exact OwnRows.nil _ _), Lib.hid (Below.refl _ _)⟩
      case round =>
        obtain ⟨i, mm, hi', rfl, rfl, ⟨xA, xn, xc, rfl⟩, hmm1, HL1, HOR, HBI⟩ := hrel
        obtain ⟨Wi, rfl⟩ : ∃ Wi, Wi = wr := ⟨_, rfl⟩
        have zi := HBI.out.size
        by_cases hil : i < now.length
        · have hii : (i : Int) < (now.length : Int) := by omega
          have hi0 : (0 : Int) ≤ (i : Int) := by omega
          have hiadd : IntKind.i64.wrap ((i : Int) + 1) = (i : Int) + 1 := IntWalk.i64_in _ (by omega)
          obtain ⟨nb, no, rfl, hnb, hnc⟩ := HNRR.out (by intro e; rw [e] at hil; simp at hil)
          obtain ⟨ut, hut, tA2, tc2, rfl, htr⟩ := hnc i _ (List.getElem?_eq_getElem hil)
          have hft := HFK.out _ (List.getElem_mem hil)
          have hut2 := fun W (hW : Below Wr.heap.size Wr W) => (hW.cell (p := ⟨nb, no + i, none⟩) hnb).trans hut
          have htr2 := fun W (hW : Below Wr.heap.size Wr W) => (htr.below hW).mono hW.size
          have HUT := Lib.hid (And.intro hut2 htr2)
          have HFT := Lib.hid hft
          clear hnc hut htr hft hut2 htr2
          go_wp2_with fail
          go_loopw [10, 12, 15] (fun ma nx c wk => ∃ q mm : Nat, q ≤ (rowsS m).length ∧ c = .int .i64 (q : Int) ∧ ma = .int .i64 (mm : Int) ∧ (∃ A n c, nx = .slice A n c) ∧ mm ≤ 2000 ∧ Hid (mm = len0 + (accT m (y + (k : Int)) now i q).length) ∧ Hid (OwnRows wk Wr.heap.size nx (accT m (y + (k : Int)) now i q)) ∧ Hid (Below Wr.heap.size Wr wk)) (fun _ _ c _ => (rowsS m).length - (intOf c).toNat)
          case atStart => exact ⟨0, mm, Nat.zero_le _, rfl, rfl, ⟨_, _, _, rfl⟩, hmm1, HL1, HOR, HBI⟩
          case round =>
            obtain ⟨q, mm, hq', rfl, rfl, ⟨xA, xn, xc, rfl⟩, hmm2, HL2, HOR, HBK⟩ := hrel
            obtain ⟨Wk, rfl⟩ : ∃ Wk, Wk = wr := ⟨_, rfl⟩
            have zk := HBK.out.size
            by_cases hql : q < (rowsS m).length
            · have hqi : (q : Int) < ((rowsS m).length : Int) := by omega
              have hq0 : (0 : Int) ≤ (q : Int) := by omega
              have hqadd : IntKind.i64.wrap ((q : Int) + 1) = (q : Int) + 1 := IntWalk.i64_in _ (by omega)
              have hgr : (rowsS m)[q]? = some (rowsS m)[q] := List.getElem?_eq_getElem hql
              obtain ⟨rb, ro, rfl, hrb, hrcl⟩ := HRR.out (by intro e; rw [e] at hql; simp at hql)
              obtain ⟨ur, hur, rA2, rc2, rfl, hrr2⟩ := hrcl q _ hgr
              have hrok := (rowsS_mem (List.getElem_mem hql)).1
              have hIk := HI.out.later (HBK.out)
              have hsok : (stOf (y + (k : Int)) now[i]).Ok m := by
                refine stOf_ok HM.out (outB_false.2 ⟨by omega, by omega⟩) ?_
                have := fits_thicks HM.out HFT.out.fit
                rwa [thicks_stOf hn4 HFT.out.len] at this
              have hth := thicks_stOf hn4 HFT.out.len (y + (k : Int))
              have hyear : ∀ W, Grows Wk W → _ := fun W hW => ryear_calls m (.slice sA m.slopes.length sc) (.slice cA m.crafts.length cc) (stOf (y + (k : Int)) now[i]) tA2 rA2 tc2 rc2 (rowsS m)[q] W HM.out hsok hrok (hIk.later hW).slopes (hIk.later hW).crafts (by rw [hth]; exact HUT.out.2 W (HBK.out.trans (hW.mono zk))) ((hrr2.below (HB.out.trans ((HBK.out.trans (hW.mono zk)).mono zr))).mono (by have := Below.size hW; omega))
              rw [hth, show (stOf (y + (k : Int)) now[i]).y = y + (k : Int) from rfl] at hyear
              have hq : ∀ W, Grows Wk W → _ := fun W hW => And.intro (blk5 (blk_below hW hIk.box (lt_blk hIk.box))) (And.intro (HUT.out.1 W (HBK.out.trans (hW.mono zk))) (((HB.out.trans ((HBK.out.trans (hW.mono zk)).mono zr)).cell (p := ⟨rb, ro + q, none⟩) hrb).trans hur))
              have hain := fun h => accT_in (m := m) (y := y + (k : Int)) hil hgr h
              have haout := fun h => accT_out (m := m) (y := y + (k : Int)) hil hgr h
              have hnl : (thicks m (stepS m (stOf (y + (k : Int)) now[i]) (rowsS m)[q])).length = m.slopes.length := thicks_length _ _
              have hnin := fun (h : keptS m (stOf (y + (k : Int)) now[i]) (rowsS m)[q] = true) => nextT_mem.2 ⟨_, List.getElem_mem hil, _, List.getElem_mem hql, h, rfl⟩
              have HYEAR := Lib.hid hyear
              have HQ := Lib.hid hq
              have HAIN := Lib.hid hain
              have HAOUT := Lib.hid haout
              have HNL := Lib.hid hnl
              have HNIN := Lib.hid hnin
              clear hrcl hur hrr2 hrok hIk hsok hth hyear hq hain haout hgr hnl hnin
              generalize hkd : keptS m (stOf (y + (k : Int)) now[i]) (rowsS m)[q] = kd at *
              generalize thicks m (stepS m (stOf (y + (k : Int)) now[i]) (rowsS m)[q]) = nt at *
              have HKD := Lib.hid hkd
              generalize now[i] = ti at *
              generalize (rowsS m)[q] = rq at *
              clear hkd
              go_wp2_with fail
              refine wp_region_rg Grows (fun | 10 => .any (yearV kd) (fun _ => YearD Wk.heap.size kd nt) | _ => .fn) (by kernel_rfl) (by kernel_rfl) Grows.refl growsT (by intro i; split <;> first | trivial | exact fun _ => yearD_stable _ _ _) ?_
              iterate 10 (refine rg_step fun K hK => ?_; apply rg_fn rfl; (intro w4 hw; obtain ⟨⟨x0, x1, x2, x3, x4⟩, y1, y2⟩ := HQ.out w4 hw.undrew; go_simp; try rfl); go_simp; (try with_reducible refine hK _ _ ?_); try clear hK K)
              refine rg_step fun K hK => ?_
              apply rg_call_any (.inl rfl) rfl
              · intro w4 hw
                go_simp
                exact ⟨rfl, rfl⟩
              · intro w4 hw
                refine (HYEAR.out w4 hw.undrew).mono ?_
                rintro e w5 ⟨v', he, ho, hb⟩
                obtain ⟨A5, n5, c5, rfl⟩ := own_slice ho
                exact ⟨_, he, hb, ⟨_, _, _, rfl⟩, _, rfl, own_mono ho (Below.size hw.undrew)⟩
              rintro v5 ⟨A5, n5, c5, rfl⟩
              go_simp
              (try with_reducible refine hK _ _ ?_)
              try clear hK K
              iterate 5 (refine rg_step fun K hK => ?_; apply rg_fn rfl; (intro w4 hw; go_simp; try rfl); go_simp; (try with_reducible refine hK _ _ ?_); try clear hK K)
              refine rg_nil ?_
              rintro w5 hw5 hD
              replace hw5 := hw5.undrew
              obtain ⟨u9, e9, hown5⟩ := hD
              obtain rfl : Value.slice A5 n5 c5 = u9 := by simpa using e9
              have HOWN5 := Lib.hid hown5
              have HB5 := Lib.hid (HBK.out.trans (hw5.mono zk))
              have HOR5 := Lib.hid (HOR.out.below hw5)
              have z5 := Below.size hw5
              clear hw5 hown5 e9 HYEAR HQ HOR
              cases kd
              · have hac := HAOUT.out rfl
                have hl9 := HL2.out
                have ho9 := HOR5.out
                rw [← hac] at hl9 ho9
                have hmadd : IntKind.i64.wrap ((mm : Int) + 1) = (mm : Int) + 1 := IntWalk.i64_in _ (by omega)
                have HL9 := Lib.hid hl9
                have HO9 := Lib.hid ho9
                have HAC := Lib.hid hac
                clear hac hl9 ho9 HAIN HAOUT HNIN
                go_wp2_with fail
                go_round
                case rel => exact ⟨q + 1, mm, by omega, by go_num, rfl, ⟨_, _, _, rfl⟩, hmm2, HL9, HO9, HB5⟩
                case measure => simp [intOf]; omega
              · have hac := HAIN.out rfl
                have hnin := HNIN.out rfl
                have hris := accT_rises m (y + (k : Int)) now i q
                have hsub := fun x (hx : x ∈ accT m (y + (k : Int)) now i q) => accT_sub hx hil
                have hl2 := HL2.out
                have hnl := HNL.out
                have HAC := Lib.hid hac
                have HL2B := HL2
                generalize hacc1 : accT m (y + (k : Int)) now i (q + 1) = acc1 at *
                have HA1 := Lib.hid hacc1
                clear hacc1
                generalize accT m (y + (k : Int)) now i q = acc at *
                have hra := HOR5.out.rows (by omega) (fun xs hx => by rw [hris.2 xs hx]; omega)
                obtain ⟨_, _, e9, _⟩ := id hra
                cases e9
                have hia := own_ints HOWN5.out (by rw [hnl]; omega)
                obtain ⟨_, _, e9, hrow5⟩ := id hia
                cases e9
                have hplace := rplace_calls xA xc acc A5 c5 nt w5 hra hrow5 (fun x hx => by rw [hris.2 x hx, hnl])
                have hple := placeT_le acc nt
                have hins := insT_place acc nt
                have hinl := insT_length acc nt
                have hinr := insT_rises hris.2 hnl hris.1
                have hinm := fun x => insT_mem (l := acc) (t := nt) (x := x)
                generalize hpp : placeT acc nt = p at *
                have HPL := Lib.hid hplace
                have HINS := Lib.hid hins
                have HINL := Lib.hid hinl
                have HINR := Lib.hid (And.intro hinr hinm)
                have HSUB := Lib.hid (And.intro hnin hsub)
                generalize hisd : decide (acc[p]? = some nt) = isd at *
                have HISD := Lib.hid hisd
                clear hac hnin hris hsub hra hia hrow5 hplace hins hinl hinr hinm hpp hisd HAIN HAOUT HNIN HL2 hl2 hnl
                go_wp2_with fail
                refine HPL.out.mono ?_
                rintro e w7 ⟨rfl, hb7⟩
                have HB7 := Lib.hid (HB5.out.trans (hb7.mono (by omega)))
                have HOR7 := Lib.hid (HOR5.out.below hb7)
                have HOWN7 := Lib.hid (own_below HOWN5.out hb7 (fun k hk => (own_blk_lt HOWN5.out k hk).2))
                have z7 := hb7.size
                clear hb7 HPL HOR5 HOWN5
                cases isd
                · have hns : ¬ acc[p]? = some nt := fun h => by have := HISD.out; simp [h] at this
                  have hi9 := HINS.out
                  have hl9 := HINL.out
                  rw [if_neg hns] at hi9 hl9
                  have hpt := HPART.out acc1 (by rw [HAC.out]; exact rises_nodup HINR.out.1) (fun x hx => by
                    rw [HLV.out]
                    rw [HAC.out] at hx
                    rcases (HINR.out.2 x).1 hx with h | h
                    · exact HSUB.out.2 x h
                    · subst h; exact HSUB.out.1)
                  rw [← HAC.out] at hi9 hl9
                  rw [hl9] at hpt
                  have HI9 := Lib.hid hi9
                  have HL9 := Lib.hid hl9
                  have HPT := Lib.hid hpt
                  clear hns hi9 hl9 hpt HINS HINL HSUB HISD
                  by_cases hbig : (mm : Int) + 1 > 2000
                  · have hdec : decide ((allS m (stOf y th)).length ≤ 2000) = false := by
                      have h1 := HPT.out
                      have h2 := HL2B.out
                      simp; omega
                    have HDEC := Lib.hid hdec
                    clear hdec
                    go_wp2_with fail
                    go_ret2
                    exact ⟨⟨_, by rw [HDEC.out]; rfl, fun h => by have h1 := HDEC.out; simp at h1; omega⟩, HI.out.below.trans (HB7.out.mono (by have := HI.out.below.size; omega))⟩
                  · have hacl : acc.length ≤ 2000 := by have := HL2B.out; omega
                    have hor := HOR7.out
                    obtain ⟨vs, hv1, hv2⟩ := id hor
                    have hv1w := fun ob => own_below hv1 (below1 w7 ob) (fun k hk => (own_blk_lt hv1 k hk).2)
                    have hvl : vs.length = acc.length := by have := hv1.1; simpa using this
                    have HV := Lib.hid (And.intro hv1 hv2)
                    have HV1 := Lib.hid hv1w
                    have HVL := Lib.hid hvl
                    clear hor hv1 hv2 hv1w hvl
                    go_wp2_with (at_builtin; (refine wpList_app2 Wr.heap.size _ _ 26 36 (.slice none 0 0) 1 24 [.slice none 0 0] (by rfl) (by rfl) Try.underlying26 infoRow rfl (by decide) (by decide) (.slice xA acc.length xc) acc.length vs (by rfl) w7.heap.size (by rfl) (heap_alloc_self _ _) rfl (by simp [Value.oneCell']) (HV1.out _) (by omega) (by simp; omega) ?_); intro v8 w8 hown8 hg8 hat8 hb8; have hh8 := own_head hown8 (Nat.succ_pos _); obtain ⟨g8, c8, rfl⟩ := hh8; have HX := Lib.hid (And.intro hown8 (And.intro hg8 (And.intro hat8 hb8))); clear hown8 hg8 hat8 hb8)
                    obtain ⟨hown8, hg8, hat8, hb8⟩ := HX.out
                    have hvl := HVL.out
                    have hown8' : w8.ownsRow Wr.heap.size 36 1 (.slice (some ⟨g8, 0, none⟩) (acc.length + 1) c8) (acc.length + 1) (vs.take acc.length ++ (Value.slice none 0 0) :: vs.drop acc.length) := by
                      have := shift_last vs (.slice none 0 0)
                      rw [hvl] at this
                      rw [← this]; exact hown8
                    obtain ⟨cur8, hh8, _, hgB8, hgS8⟩ := own_blkv hown8'
                    have hinr8 : ∀ (i : Nat) (xs : List Int), acc[i]? = some xs → ∃ u, vs[i]? = some u ∧ w8.ownsRow Wr.heap.size 3 1 u xs.length (xs.map (Value.int .i64)) := fun i xs hi => by
                      obtain ⟨u, h1, h2⟩ := HV.out.2 i xs hi
                      exact ⟨u, h1, ints_grown (own_below HV.out.1 (below1 w7 _) (fun k hk => (own_blk_lt HV.out.1 k hk).2)) hg8 (own_below h2 (below1 w7 _) (fun k hk => (own_blk_lt h2 k hk).2))⟩
                    have hnt8 : w8.ownsRow Wr.heap.size 3 1 (.slice A5 nt.length c5) nt.length (nt.map (Value.int .i64)) :=
                      own_mono (ints_grown (own_below HV.out.1 (below1 w7 _) (fun k hk => (own_blk_lt HV.out.1 k hk).2)) hg8 (own_below HOWN7.out (below1 w7 _) (fun k hk => (own_blk_lt HOWN7.out k hk).2))) (by omega)
                    have hbel8 : Below Wr.heap.size Wr w8 := HB7.out.trans (((below1 w7 _).mono (by have := HB7.out.size; omega)).trans hb8)
                    have H8 := Lib.hid (And.intro hinr8 (And.intro hnt8 (And.intro hbel8 hh8)))
                    have HO8 := Lib.hid hown8'
                    have hal0 : (0 : Int) ≤ (acc.length : Int) := by omega
                    have hasub : IntKind.i64.wrap ((acc.length : Int) + 1 - 1) = (acc.length : Int) := by rw [IntWalk.i64_in _ (by omega)]; omega
                    clear hown8 hg8 hat8 hb8 hown8' hh8 hinr8 hnt8 hbel8 HX HV HV1 HOR7 HOWN7 HB7 HB5 HOR HPART
                    go_wp2_with fail
                    go_loopw [20] (fun c wj => ∃ (j : Nat) (X : Value), p ≤ j ∧ j ≤ acc.length ∧ c = .int .i64 (j : Int) ∧ Hid (wj.ownsRow Wr.heap.size 36 1 (.slice (some ⟨g8, 0, none⟩) (acc.length + 1) c8) (acc.length + 1) (vs.take j ++ X :: vs.drop j)) ∧ Hid (Bel (fun k => k = g8) w8 wj)) (fun c _ => (intOf c).toNat)
                    case atStart => exact ⟨acc.length, _, hple, Nat.le_refl _, rfl, HO8, Lib.hid (Bel.refl _ _)⟩
                    case round =>
                      obtain ⟨j, X, hpj, hja, rfl, HOJ, HBJ⟩ := hrel
                      obtain ⟨Wj, rfl⟩ : ∃ Wj, Wj = wr := ⟨_, rfl⟩
                      by_cases hjp : p < j
                      · obtain ⟨j', rfl⟩ : ∃ j', j = j' + 1 := ⟨j - 1, by omega⟩
                        have hja' : j' < acc.length := by omega
                        obtain ⟨curj, hhj, hcj, _, hgj⟩ := own_blkv HOJ.out
                        obtain ⟨Y, hY, hYo⟩ := H8.out.1 j' _ (List.getElem?_eq_getElem hja')
                        obtain ⟨YA, Yn, Yc, rfl⟩ := own_slice hYo
                        have hcell : Wj.cell? ⟨g8, j', none⟩ = some (.slice YA Yn Yc) := by
                          rw [cell_blk hhj, hcj j' (by omega)]
                          have := shift_get vs X (j := j' + 1) (by omega) (by omega)
                          simp only [Nat.add_sub_cancel] at this
                          rw [this, hY]
                        obtain ⟨Z, hZ⟩ : ∃ Z, Wj.cell? ⟨g8, j' + 1, none⟩ = some Z := by
                          rw [cell_blk hhj, hcj (j' + 1) (by omega)]
                          exact ⟨_, List.getElem?_eq_getElem (by simp only [List.length_append, List.length_take, List.length_cons, List.length_drop]; omega)⟩
                        have hfr := frozen_blk hhj (j' + 1)
                        have hown := own_setv HOJ.out (j' + 1) (.slice YA Yn Yc)
                        rw [shift_set vs X (.slice YA Yn Yc) (j := j' + 1) (by omega) (by omega) (by simpa using hY), Nat.add_sub_cancel] at hown
                        have hbel := HBJ.out.setCell (p := ⟨g8, j' + 1, none⟩) (fun _ => rfl) (.slice YA Yn Yc)
                        have HOJ2 := Lib.hid hown
                        have HBJ2 := Lib.hid hbel
                        have hjpi : (j' : Int) + 1 > (p : Int) := by omega
                        have hj0 : (0 : Int) ≤ (j' : Int) := by omega
                        have hj1 : (j' : Int) < (acc.length : Int) + 1 := by omega
                        have hj2 : (j' : Int) + 1 < (acc.length : Int) + 1 := by omega
                        have hj00 : (0 : Int) ≤ (j' : Int) + 1 := by omega
                        have hj3 : IntKind.i64.wrap ((j' : Int) + 1 - 1) = (j' : Int) := by rw [IntWalk.i64_in _ (by omega)]; omega
                        rw [show ((j' + 1 : Nat) : Int) = (j' : Int) + 1 by omega]
                        clear hhj hcj hY hYo hown hbel
                        go_wp2_with fail
                        go_round
                        case rel => exact ⟨j', _, by omega, by omega, rfl, HOJ2, HBJ2⟩
                        case measure => simp [intOf]
                      · obtain rfl : j = p := by omega
                        have hjpi : ¬ (j : Int) > (j : Int) := by omega
                        obtain ⟨curj, hhj, hcj, _, hgj⟩ := own_blkv HOJ.out
                        obtain ⟨Z, hZ⟩ : ∃ Z, Wj.cell? ⟨g8, j, none⟩ = some Z := by
                          rw [cell_blk hhj, hcj j (by omega)]
                          exact ⟨_, List.getElem?_eq_getElem (by simp only [List.length_append, List.length_take, List.length_cons, List.length_drop]; omega)⟩
                        have hfr := frozen_blk hhj j
                        have hown := own_setv HOJ.out j (.slice A5 nt.length c5)
                        rw [shift_end vs X (.slice A5 nt.length c5) (by omega)] at hown
                        have hbel := HBJ.out.setCell (p := ⟨g8, j, none⟩) (fun _ => rfl) (.slice A5 nt.length c5)
                        obtain ⟨hin, hntw, hbw, hh8⟩ := H8.out
                        have hrows := ownRows_ins (l := acc) (t := nt) (p := j) (by omega) hown (by omega) (fun i xs hi => by
                          obtain ⟨u, h1, h2⟩ := hin i xs hi
                          exact ⟨u, h1, ints_bel hh8 hbel h2⟩) (ints_bel hh8 hbel hntw)
                        rw [← HI9.out] at hrows
                        have hbelow : Below Wr.heap.size Wr (Wj.setCell ⟨g8, j, none⟩ (.slice A5 nt.length c5)) := hbw.trans (hbel.below hbw.size (fun k hk => by omega))
                        have hl9 := HL9.out
                        have hl2 := HL2B.out
                        have hmm9 : mm + 1 = len0 + acc1.length := by omega
                        have HRW := Lib.hid hrows
                        have HBW := Lib.hid hbelow
                        have HMM9 := Lib.hid hmm9
                        have hj1 : (j : Int) < (acc.length : Int) + 1 := by omega
                        have hj00 : (0 : Int) ≤ (j : Int) := by omega
                        clear hhj hcj hown hbel hin hntw hbw hh8 hrows hbelow hl9 hl2 hmm9
                        go_wp2_with fail
                        go_round
                        case rel => exact ⟨q + 1, mm + 1, by omega, by go_num, by go_num, ⟨_, _, _, rfl⟩, by omega, by rw [HA1.out]; exact HMM9, by rw [HA1.out]; exact HRW, HBW⟩
                        case measure => simp [intOf]; omega
                · have hns : acc[p]? = some nt := by have := HISD.out; simpa using this
                  have hi9 := HINS.out
                  rw [if_pos hns, ← HAC.out] at hi9
                  have hl9 : mm = len0 + acc1.length := by rw [hi9]; exact HL2B.out
                  have ho9 : OwnRows w7 Wr.heap.size (.slice xA acc.length xc) acc1 := by rw [hi9]; exact HOR7.out
                  have HL9 := Lib.hid hl9
                  have HO9 := Lib.hid ho9
                  clear hns hi9 hl9 ho9
                  go_wp2_with fail
                  go_round
                  case rel => exact ⟨q + 1, mm, by omega, by go_num, rfl, ⟨_, _, _, rfl⟩, hmm2, by rw [HA1.out]; exact HL9, by rw [HA1.out]; exact HO9, HB7⟩
                  case measure => simp [intOf]; omega
            · obtain rfl : q = (rowsS m).length := by omega
              have hqi : ¬ ((rowsS m).length : Int) < ((rowsS m).length : Int) := by omega
              have hac := accT_next (m := m) (y := y + (k : Int)) hil
              have hl2 := HL2.out
              have hor2 := HOR.out
              rw [hac] at hl2 hor2
              have HL3 := Lib.hid hl2
              have HOR3 := Lib.hid hor2
              have HAC := Lib.hid hac
              clear hac hl2 hor2
              go_wp2_with fail
              go_round
              case rel => exact ⟨i + 1, mm, by omega, by go_num, rfl, ⟨_, _, _, rfl⟩, hmm2, HL3, HOR3, HBK⟩
              case measure => simp [intOf]; omega
        · obtain rfl : i = now.length := by omega
          have hii : ¬ (now.length : Int) < (now.length : Int) := by omega
          have hae := accT_end m (y + (k : Int)) now
          rw [← HLV.out] at hae
          have hor := HOR.out
          have hl1 := HL1.out
          rw [hae] at hor hl1
          rw [← HLN.out] at hl1
          obtain ⟨hu1, hu2⟩ := HUS.out
          have hou := Own3.below ⟨us, by rw [levTo_length]; exact hu1, hu2⟩ (HBI.out)
          obtain ⟨us', hv1, hv2⟩ := hou
          have hv1w := fun ob => own_below hv1 (below1 Wi ob) (fun k hk => (own_blk_lt hv1 k hk).2)
          rw [levTo_length] at hv1w
          have HV := Lib.hid (And.intro hv1 hv2)
          have HV1 := Lib.hid hv1w
          have HOR2 := Lib.hid hor
          have HL2 := Lib.hid hl1
          have hk40 : k ≤ 40 := by omega
          clear hae hor hl1 hu1 hu2 hv1 hv2 hv1w HUS HOR HL1
          go_wp2_with (at_builtin; (refine wpList_app2 w1.heap.size _ _ 98 26 (.slice none 0 0) 1 24 [.slice xA xn xc] (by rfl) (by rfl) Try.underlying98 infoRows3 rfl (by decide) (by decide) (.slice (some ⟨og, 0, none⟩) (k + 1) oc) (k + 1) us' (by rfl) Wi.heap.size (by rfl) (heap_alloc_self _ _) rfl (by simp [Value.oneCell']) (HV1.out _) (by omega) (by simp; omega) ?_); intro v8 w8 hown8 hg8 hat8 hb8; obtain ⟨A8, n8, c8, rfl⟩ := own_slice hown8; have HX := Lib.hid (And.intro hown8 (And.intro hg8 hb8)); clear hown8 hg8 hat8 hb8)
          obtain ⟨hown8, hg8, hb8⟩ := HX.out
          have hnew : Own3 w8 w1.heap.size (.slice A8 n8 c8) (levTo m y th (k + 1)) := by
            rw [levTo_succ]
            refine Own3.snoc (W := Wi.alloc (.cells #[.slice xA xn xc] 26)) (own_below HV.out.1 (below1 Wi _) (fun k hk => (own_blk_lt HV.out.1 k hk).2)) (fun i xss hi => ?_) ((HOR2.out.below (below1 Wi _)).mono (by omega)) (by rw [levTo_length]; exact hown8) hg8
            obtain ⟨u, h1, h2⟩ := HV.out.2 i xss hi
            exact ⟨u, h1, h2.below (below1 Wi _)⟩
          have hbn : Below w1.heap.size w1 w8 := (HB.out.trans (HBI.out.mono zr)).trans (((below1 Wi (.cells #[.slice xA xn xc] 26)).mono (by omega)).trans hb8)
          have HNEW := Lib.hid hnew
          have HBN := Lib.hid hbn
          clear hown8 hg8 hb8 hnew hbn HX HV HV1
          go_wp2_with fail
          go_round
          case rel => exact ⟨k + 1, by omega, by rw [show y + ((k + 1 : Nat) : Int) = y + (k : Int) + 1 by omega], by rw [← HL2.out], ⟨_, _, _, rfl⟩, Lib.hid (by rw [← HL2.out]; exact hmm1), HNEW, HBN⟩
          case measure => simp [intOf]; omega
    · have hke : y + (k : Int) = m.years := by omega
      have hall := lenT_all HM.out HFIT.out (y := y) (k := k) hke
      have hdec : decide ((allS m (stOf y th)).length ≤ 2000) = true := by have := HLEN.out; simp; omega
      have hlv : levTo m y th k = levsT m y th := by unfold levsT; rw [show (m.years - y).toNat = k by omega]
      have HDEC := Lib.hid hdec
      have hou := HOU.out
      rw [hlv] at hou
      have HOU2 := Lib.hid hou
      have hyl2 : ¬ y + (k : Int) < m.years := hyl
      clear hke hall hdec hlv hou HOU
      go_wp2_with fail
      go_ret2
      exact ⟨⟨_, by rw [HDEC.out]; rfl, fun _ => HOU2.out.mono (by omega)⟩, HI.out.below⟩
end Go.Proofs.Ytccplobhfokcgaa

/- The specification's Paid. -/
namespace Go.Proofs.Ytccplobhfokcgaa
open Go Go.RowKit Go.Shelf
set_option maxRecDepth 100000

/-! ### Plainly -/
def paidL (m : Wk) (y : Int) (th : List Int) (i : Nat) : List Int := (levT m y th i).map fun t => paidV m (stOf (y + (i : Int)) t)
def paidsT (m : Wk) (y : Int) (th : List Int) : List (List Int) := (List.range ((m.years - y).toNat + 1)).map (paidL m y th)
theorem paidL_length (m : Wk) (y : Int) (th : List Int) (i : Nat) : (paidL m y th i).length = (levT m y th i).length := by simp [paidL]
theorem paidL_get {m : Wk} {y : Int} {th : List Int} {i k : Nat} {t : List Int} (h : (levT m y th i)[k]? = some t) : (paidL m y th i)[k]? = some (paidV m (stOf (y + (i : Int)) t)) := by
  unfold paidL; rw [List.getElem?_map, h]; rfl
theorem paidsT_get {m : Wk} {y : Int} {th : List Int} {i : Nat} (h : i ≤ (m.years - y).toNat) : (paidsT m y th)[i]? = some (paidL m y th i) := by
  unfold paidsT
  rw [List.getElem?_map, List.getElem?_range (by omega)]; rfl
theorem levsT_get {m : Wk} {y : Int} {th : List Int} {i : Nat} (h : i ≤ (m.years - y).toNat) : (levsT m y th)[i]? = some (levT m y th i) := levTo_get h
theorem levsT_length (m : Wk) (y : Int) (th : List Int) : (levsT m y th).length = (m.years - y).toNat + 1 := levTo_length _ _ _ _
/-- The rows of a list of d years' costs, the last ones. -/
def PaidAt (m : Wk) (y : Int) (th : List Int) (n g B d : Nat) (w : World) : Prop := ∃ cur : Array Value, w.heap[g]? = some (.cells cur 36 (0, 0)) ∧ cur.size = n + 1 ∧
  ∀ i, i ≤ n → (i + d ≤ n → cur[i]? = some (.slice none 0 0)) ∧ (n < i + d → ∃ u, cur[i]? = some u ∧ w.ownsRow B 3 1 u (paidL m y th i).length ((paidL m y th i).map (Value.int .i64)))
theorem PaidAt.rows {m : Wk} {y : Int} {th : List Int} {n g B d : Nat} {w : World} (h : PaidAt m y th n g B d w) (hd : n < d) (hn : n = (m.years - y).toNat) (hB : B ≤ g) (hm : n ≤ 1000) : OwnRows w B (.slice (some ⟨g, 0, none⟩) (n + 1) (n + 1)) (paidsT m y th) := by
  obtain ⟨cur, h1, h2, h3⟩ := h
  have hl : (paidsT m y th).length = n + 1 := by simp [paidsT, hn]
  refine ⟨cur.toList, ?_, fun i xs hi => ?_⟩
  · rw [hl]
    exact ⟨by simpa using h2, .inr ⟨g, n + 1, cur, rfl, hB, h1, Nat.le_refl _, by simp only [maxLen]; omega, by simpa using h2, by rw [List.take_of_length_le (by simp [h2])]⟩⟩
  · have hil := (List.getElem?_eq_some_iff.1 hi).1
    rw [hl] at hil
    obtain ⟨u, hu, ho⟩ := (h3 i (by omega)).2 (by omega)
    rw [paidsT_get (by omega)] at hi
    cases hi
    exact ⟨u, by rw [Array.getElem?_toList]; exact hu, ho⟩
theorem PaidAt.below {m : Wk} {y : Int} {th : List Int} {n g B d : Nat} {w w' : World} (h : PaidAt m y th n g B d w) (hb : Below w.heap.size w w') : PaidAt m y th n g B d w' := by
  obtain ⟨cur, h1, h2, h3⟩ := h
  refine ⟨cur, blk_below hb h1 (lt_blk h1), h2, fun i hi => ⟨(h3 i hi).1, fun hd => ?_⟩⟩
  obtain ⟨u, hu, ho⟩ := (h3 i hi).2 hd
  exact ⟨u, hu, own_below ho hb (fun k hk => (own_blk_lt ho k hk).2)⟩
/-- A number more in one row. -/
theorem paid_store {Wi W w1 : World} {ob : Obj} {g i k : Nat} {cur : Array Value} {u v1 : Value} {xs ys : List Value} (hgW : W.heap[g]? = some (.cells (cur.setIfInBounds i u) 36 (0, 0))) (hgi : g < Wi.heap.size) (hbel : Bel (fun k => k = g) Wi W)
    (hown : W.ownsRow Wi.heap.size 3 1 u k xs) (hown1 : w1.ownsRow Wi.heap.size 3 1 v1 (k + 1) ys) (hgr : (W.alloc ob).grownBy w1 u.ownBlock) :
    w1.heap[g]? = some (.cells (cur.setIfInBounds i u) 36 (0, 0)) ∧ (w1.setCell ⟨g, i, none⟩ v1).heap[g]? = some (.cells (cur.setIfInBounds i v1) 36 (0, 0)) ∧ (w1.setCell ⟨g, i, none⟩ v1).ownsRow Wi.heap.size 3 1 v1 (k + 1) ys ∧ Bel (fun k => k = g) Wi (w1.setCell ⟨g, i, none⟩ v1) := by
  have hgz := lt_blk hgW
  have h1 : w1.heap[g]? = some (.cells (cur.setIfInBounds i u) 36 (0, 0)) := by
    refine (hgr.block g (by simp; omega) (fun e => ?_)).trans ((Below.heap_alloc _ _ _ hgz).trans hgW)
    have := (own_blk_lt hown g e.symm).1
    omega
  refine ⟨h1, ?_, own_kept hown1 (fun b hb => Below.heap_setCell _ _ _ _ (fun e => ?_)), ?_⟩
  · rw [heap_set h1]
    congr 2
    simp
  · have := (own_blk_lt hown1 b hb).1
    simp at e
    omega
  · have hb1 : Below Wi.heap.size (W.alloc ob) w1 := (Below.refl _ _).grown hgr (by have := hbel.size; simp; omega) (fun b hb => (own_blk_lt hown b hb).1)
    have hb2 : Bel (fun k => k = g) Wi w1 := by
      have h2 := hbel.alloc ob
      exact ⟨hb1.os.trans h2.os, hb1.tape.trans h2.tape, hb1.output.trans h2.output, Nat.le_trans h2.size hb1.size, fun j hj hn => (hb1.block j hj).trans (h2.block j hj hn)⟩
    exact hb2.setCell (fun _ => rfl) _
theorem PaidAt.next {m : Wk} {y : Int} {th : List Int} {n g B d i : Nat} {Wi W : World} {cur : Array Value} {u : Value} (hi : i + d = n) (h1 : Wi.heap[g]? = some (.cells cur 36 (0, 0))) (h2 : cur.size = n + 1)
    (h3 : ∀ i, i ≤ n → (i + d ≤ n → cur[i]? = some (.slice none 0 0)) ∧ (n < i + d → ∃ u, cur[i]? = some u ∧ Wi.ownsRow B 3 1 u (paidL m y th i).length ((paidL m y th i).map (Value.int .i64))))
    (hgW : W.heap[g]? = some (.cells (cur.setIfInBounds i u) 36 (0, 0))) (hbel : Bel (fun k => k = g) Wi W) (hown : W.ownsRow Wi.heap.size 3 1 u (paidL m y th i).length ((paidL m y th i).map (Value.int .i64))) (hB : B ≤ Wi.heap.size) : PaidAt m y th n g B (d + 1) W := by
  refine ⟨_, hgW, by simpa using h2, fun j hj => ⟨fun hd => ?_, fun hd => ?_⟩⟩
  · rw [Array.getElem?_setIfInBounds_ne (by omega)]
    exact (h3 j hj).1 (by omega)
  · by_cases hji : j = i
    · subst hji
      exact ⟨u, by rw [Array.getElem?_setIfInBounds_self_of_lt (by omega)], own_mono hown hB⟩
    · obtain ⟨u', hu, ho⟩ := (h3 j hj).2 (by omega)
      exact ⟨u', by rw [Array.getElem?_setIfInBounds_ne (by omega)]; exact hu, ints_bel h1 hbel ho⟩
end Go.Proofs.Ytccplobhfokcgaa

namespace Go.Proofs.Ytccplobhfokcgaa
open Go Go.RowKit Go.Shelf
set_option maxRecDepth 100000

/-- What a row costs, and what is asked of it. -/
def betterB (rest co best : Int) : Bool := decide (0 ≤ rest) && (decide (best < 0) || decide (rest + co < best))
set_option maxHeartbeats 16000000 in
theorem rpaid_calls (m : Wk) (sl cr : Value) (y : Int) (th : List Int) (vA : Option Addr) (vn vc : Nat) (w : World) (hm : m.Ok) (hfit : FitT m th) (hy : 0 ≤ y ∧ y ≤ m.years) (hfew : (allS m (stOf y th)).length ≤ 2000) (hsl : SlopesAt w w.heap.size sl m.slopes) (hcr : CraftsAt w w.heap.size cr m.crafts)
    (hst : LevsAt w w.heap.size (.slice vA vn vc) (levsT m y th)) :
    Calls Try.prog 55 #[.agg #[sl, cr, .int .i64 m.years, .int .i64 m.visit, .int .i64 m.hands], .int .i64 y, .slice vA vn vc] w fun e w' => (∃ v', e = .returned v' ∧ OwnRows w' w.heap.size v' (paidsT m y th)) ∧ Below w.heap.size w w' := by
  obtain ⟨sA, sc, rfl, _, _⟩ := id hsl
  obtain ⟨cA, cc, rfl, _, _⟩ := id hcr
  obtain ⟨_, _, e9, _, hst2⟩ := id hst
  cases e9
  obtain ⟨w0, hw0⟩ : ∃ w0, w0 = w.alloc (.cells #[.slice sA m.slopes.length sc, .slice cA m.crafts.length cc, .int .i64 m.years, .int .i64 m.visit, .int .i64 m.hands] 25) := ⟨_, rfl⟩
  have h0 := LawInv.start hsl hcr
  rw [← hw0] at h0
  have hn1 := hm.some
  have hn4 := hm.few
  have hyb := hm.years
  have hr625 := rowsS_len hm
  obtain ⟨hy0, hy1⟩ := hy
  have hlev : ∀ i : Nat, y + (i : Int) ≤ m.years → (levT m y th i).length ≤ 2000 := fun i hi => Nat.le_trans (lev_le i) (Nat.le_trans (lenT_le hm hfit hi) hfew)
  have hlev0 : ∀ i : Nat, (levT m y th i).length ≤ 2000 ∨ m.years < y + (i : Int) := fun i => by
    by_cases h : y + (i : Int) ≤ m.years
    · exact .inl (hlev i h)
    · exact .inr (by omega)
  have hll := levsT_length m y th
  generalize hn : (m.years - y).toNat = n at *
  have hn40 : n ≤ 40 := by omega
  have hyn : y + (n : Int) = m.years := by omega
  have hst3 : ∃ b o, vA = some ⟨b, o, none⟩ ∧ b < w.heap.size ∧ ∀ i, i ≤ n → ∃ u, w.cell? ⟨b, o + i, none⟩ = some u ∧ RowsAt w w.heap.size u (levT m y th i) := by
    obtain ⟨b, o, e, hb, hc⟩ := hst2 (by intro e; rw [e] at hll; simp at hll)
    exact ⟨b, o, e, hb, fun i hi => hc i _ (levsT_get (by omega))⟩
  obtain ⟨vb, vo, rfl, hvb, hvc⟩ := hst3
  rw [hll]
  have H0 := Lib.hid h0
  have HW0 := Lib.hid hw0
  have HM := Lib.hid hm
  have HFIT := Lib.hid hfit
  have HVC := Lib.hid hvc
  have HLEV := Lib.hid hlev
  have HNN := Lib.hid hn
  have z0 : w.heap.size < w0.heap.size := by rw [hw0]; simp
  obtain ⟨x0, x1, x2, x3, x4⟩ := blk5 h0.box
  rw [hw0] at x0 x1 x2 x3 x4
  have hrc := rrows_calls m _ _ w0 hm h0.slopes h0.crafts
  have HRC := Lib.hid hrc
  have hmk : ∀ W : World, (Instr.makeSlice 26 (.int .i64 ((n : Int) + 1)) (.int .i64 ((n : Int) + 1))).run Try.prog W = .ok (.slice (some ⟨W.heap.size, 0, none⟩) (n + 1) (n + 1)) (W.alloc (.cells (madeCells #[.slice none 0 0] (n + 1)) 36)) :=
    fun W => run_make_row' 26 36 (.slice none 0 0) 24 Try.underlying26 infoRow rfl .i64 .i64 (n + 1) (by omega) (by omega) W
  clear h0 hw0 hsl hcr hrc hfit hm hst hst2 hvc hll hlev hlev0 hfew hn
  go_enter Try.func55, Try.ntmps55
  go_wp2_with fail
  rw [← HW0.out]
  refine HRC.out.mono ?_
  rintro e w1 ⟨⟨vr, rfl, hor⟩, hb1⟩
  have hrl : ∀ xs ∈ rowsS m, xs.length ≤ 1000000 := fun xs hx => by have := (rowsS_mem hx).1.len; omega
  have hra := hor.rows (by omega) hrl
  obtain ⟨rA, rc, rfl, _, hrr⟩ := hra
  have HRR := Lib.hid hrr
  have H1 := Lib.hid (H0.out.later hb1)
  have z1 := hb1.size
  clear hb1 hor hrl hrr x0 x1 x2 x3 x4
  go_wp2_with fail
  obtain ⟨w2, hw2⟩ : ∃ w2, w2 = w1.alloc (.cells (madeCells #[.slice none 0 0] (n + 1)) 36) := ⟨_, rfl⟩
  obtain ⟨g, hg⟩ : ∃ g, g = w1.heap.size := ⟨_, rfl⟩
  have hpaid0 : PaidAt m y th n g w1.heap.size 0 w2 := by
    refine ⟨_, by rw [hw2, hg]; exact heap_alloc_self _ _, by simp [madeCells], fun i hi => ⟨fun _ => ?_, fun h => by omega⟩⟩
    simp only [madeCells]
    rw [Array.getElem?_map, Array.getElem?_range, if_pos (by omega)]
    simp [Nat.mod_one]
  have hb12 : Below w1.heap.size w1 w2 := by rw [hw2]; exact below1 _ _
  have HP0 := Lib.hid hpaid0
  have HB12 := Lib.hid hb12
  have HW2 := Lib.hid hw2
  have HG := Lib.hid hg
  rw [← HW2.out, ← HG.out]
  clear hw2 hg hpaid0 hb12 hmk
  go_loopw [9] (fun c wr => ∃ d : Nat, d ≤ n + 1 ∧ c = .int .i64 ((n : Int) - (d : Int)) ∧ Hid (PaidAt m y th n g w1.heap.size d wr) ∧ Hid (Below w1.heap.size w1 wr)) (fun c _ => (intOf c + 1).toNat)
  case atStart => exact ⟨0, by omega, by simp, HP0, HB12⟩
  case round =>
    obtain ⟨d, hd, rfl, HPA, HB⟩ := hrel
    obtain ⟨Wi, rfl⟩ : ∃ Wi, Wi = wr := ⟨_, rfl⟩
    have zi := HB.out.size
    by_cases hdn : d ≤ n
    · obtain ⟨i, hi⟩ : ∃ i, i + d = n := ⟨n - d, by omega⟩
      have hiv : (n : Int) - (d : Int) = (i : Int) := by omega
      have hi0 : (0 : Int) ≤ (i : Int) := by omega
      have hisub : IntKind.i64.wrap ((i : Int) - 1) = (i : Int) - 1 := IntWalk.i64_in _ (by omega)
      have hin : (i : Int) < (n : Int) + 1 := by omega
      rw [hiv]
      obtain ⟨cur, hc1, hc2, hc3⟩ := HPA.out
      have hgi := lt_blk hc1
      have hnil := (hc3 i (by omega)).1 (by omega)
      have hself : cur.setIfInBounds i (.slice none 0 0) = cur := by
        apply Array.ext_getElem?
        intro j
        by_cases hji : j = i
        · subst hji; rw [Array.getElem?_setIfInBounds_self_of_lt (by omega)]; exact hnil.symm
        · rw [Array.getElem?_setIfInBounds_ne (by omega)]
      have hstart : Wi.heap[g]? = some (.cells (cur.setIfInBounds i (.slice none 0 0)) 36 (0, 0)) := by rw [hself]; exact hc1
      have HST := Lib.hid hstart
      have HCUR := Lib.hid (And.intro hc1 (And.intro hc2 hc3))
      have hlen2 := HLEV.out i (by omega)
      obtain ⟨ui, hui, lA, lc, rfl, _, hli⟩ := HVC.out i (by omega)
      have huiw := fun W (hW : Below w.heap.size w W) => (hW.cell (p := ⟨vb, vo + i, none⟩) hvb).trans hui
      have HUI := Lib.hid huiw
      have HLI := Lib.hid hli
      have hbase : ∀ W, Bel (fun k => k = g) Wi W → Below w1.heap.size w1 W := fun W hW => HB.out.trans (hW.below zi (fun k hk => by have := HG.out; omega))
      have HBASE := Lib.hid hbase
      have hfk := fun t ht => levT_fit HM.out HFIT.out (y := y) i t ht
      have HFK := Lib.hid hfk
      clear hiv hc1 hc3 hnil hself hstart hui huiw hli hbase hfk HPA
      go_wp2_with fail
      go_loopw [10] (fun c wk => ∃ (k : Nat) (u : Value), k ≤ (levT m y th i).length ∧ c = .int .i64 (k : Int) ∧ (∃ A n c, u = .slice A n c) ∧ Hid (wk.heap[g]? = some (.cells (cur.setIfInBounds i u) 36 (0, 0))) ∧ Hid (wk.ownsRow Wi.heap.size 3 1 u k (((paidL m y th i).take k).map (Value.int .i64))) ∧ Hid (Bel (fun k => k = g) Wi wk)) (fun c _ => (levT m y th i).length - (intOf c).toNat)
      case atStart => exact ⟨0, _, Nat.zero_le _, rfl, ⟨none, 0, 0, rfl⟩, HST, Lib.hid ⟨by simp, .inl ⟨rfl, rfl⟩⟩, Lib.hid (Bel.refl _ _)⟩
      case round =>
        obtain ⟨k, u, hk, rfl, ⟨uA, un, uc, rfl⟩, HGK, HOK, HBK⟩ := hrel
        obtain ⟨Wk, rfl⟩ : ∃ Wk, Wk = wr := ⟨_, rfl⟩
        have hbk1 := HBASE.out Wk HBK.out
        have HI := Lib.hid (H1.out.later hbk1)
        have hwk := HI.out.below
        have q1 := HUI.out Wk hwk
        have hvbk : vb < Wk.heap.size := Nat.lt_of_lt_of_le hvb hwk.size
        obtain ⟨x0, x1, x2, x3, x4⟩ := blk5 HI.out.box
        have hgk := lt_blk HGK.out
        have hui2 : Wk.cell? ⟨g, i, none⟩ = some (.slice uA un uc) := by
          rw [cell_blk HGK.out, Array.getElem?_setIfInBounds_self_of_lt (by omega)]
        have hfr := frozen_blk HGK.out i
        have hbound : (0 : Int) ≤ (k : Int) := by omega
        by_cases hkl : k < (levT m y th i).length
        · have hki : (k : Int) < ((levT m y th i).length : Int) := by omega
          have hkadd : IntKind.i64.wrap ((k : Int) + 1) = (k : Int) + 1 := IntWalk.i64_in _ (by omega)
          have hpget := paidL_get (m := m) (y := y) (th := th) (i := i) (List.getElem?_eq_getElem hkl)
          have hptk : (paidL m y th i).take (k + 1) = (paidL m y th i).take k ++ [paidV m (stOf (y + (i : Int)) (levT m y th i)[k])] := by
            rw [List.take_add_one, hpget]; rfl
          have HPT := Lib.hid hptk
          clear hpget hptk
          have hokw := HOK.out
          have hokb := fun ob => own_below hokw (below1 Wk ob) (fun k hk => (own_blk_lt hokw k hk).2)
          have HOKB := Lib.hid hokb
          have hzki : Wi.heap.size ≤ Wk.heap.size := HBK.out.size
          clear hokw hokb
          by_cases hlast : i = n
          · have hib : ((i : Int) == (n : Int)) = true := by simp [hlast]
            have hpv : paidV m (stOf (y + (i : Int)) (levT m y th i)[k]) = 0 := paidV_end (by show m.years ≤ y + (i : Int); omega)
            have HPV := Lib.hid hpv
            have HLAST := Lib.hid hlast
            clear hpv hlast
            go_wp2_with (at_builtin; (refine wpList_app2 Wi.heap.size _ _ 36 3 (.int .i64 0) 1 8 [.int .i64 0] (by rfl) (by rfl) Try.underlying36 infoInt rfl (by decide) (by decide) (.slice uA un uc) k _ (by rfl) Wk.heap.size (by rfl) (heap_alloc_self _ _) rfl (by simp [Value.oneCell']) (HOKB.out _) (by omega) (by simp; omega) ?_); intro v1 w9 hown9 hg9 hat9 hb9; obtain ⟨A9, n9, c9, rfl⟩ := own_slice hown9; have HX := Lib.hid (And.intro hown9 hg9); have hst9 := paid_store HGK.out hgi HBK.out HOK.out hown9 hg9; have HS9 := Lib.hid hst9; have hf9 := frozen_blk hst9.1 i; have hq9 : w9.cell? ⟨g, i, none⟩ = some (.slice uA un uc) := (by rw [cell_blk hst9.1, Array.getElem?_setIfInBounds_self_of_lt (by omega)]); clear hst9 hown9 hg9 hat9 hb9)
            obtain ⟨_, s2, s3, s4⟩ := HS9.out
            have hrow : (((paidL m y th i).take (k + 1)).map (Value.int .i64)) = (((paidL m y th i).take k).map (Value.int .i64)) ++ [.int .i64 0] := by rw [HPT.out, HPV.out]; simp
            rw [← hrow] at s3
            have S2 := Lib.hid s2
            have S3 := Lib.hid s3
            have S4 := Lib.hid s4
            clear s2 s3 s4 hrow HS9 HX HOKB
            go_round
            case rel => exact ⟨k + 1, _, by omega, by go_num, ⟨_, _, _, rfl⟩, S2, S3, S4⟩
            case measure => simp [intOf]; omega
          · have hib : ((i : Int) == (n : Int)) = false := by simp; omega
            have hil : i + 1 ≤ n := by omega
            have hsy : y + (i : Int) < m.years := by omega
            obtain ⟨u2, hu2, hl2⟩ := HVC.out (i + 1) (by omega)
            obtain ⟨l2A, l2c, rfl, _, _⟩ := id hl2
            have hu2w := fun W (hW : Below w.heap.size w W) => (hW.cell (p := ⟨vb, vo + (i + 1), none⟩) hvb).trans hu2
            obtain ⟨hc1, hc2', hc3⟩ := HCUR.out
            obtain ⟨p2, hp2, hp2o⟩ := (hc3 (i + 1) (by omega)).2 (by omega)
            have hlen3 := HLEV.out (i + 1) (by omega)
            have hp2w : ∀ W, Bel (fun k => k = g) Wi W → W.ownsRow w1.heap.size 3 1 p2 (paidL m y th (i + 1)).length ((paidL m y th (i + 1)).map (Value.int .i64)) := fun W hW => ints_bel hc1 hW hp2o
            have hp2i := own_ints (hp2w Wk HBK.out) (by rw [paidL_length]; omega)
            obtain ⟨pA, pc, rfl, hp2r⟩ := hp2i
            have hpc2 : Wk.cell? ⟨g, i + 1, none⟩ = some (.slice pA (paidL m y th (i + 1)).length pc) := by
              rw [cell_blk HGK.out, Array.getElem?_setIfInBounds_ne (by omega)]; exact hp2
            have HPC2 := Lib.hid hpc2
            have HP2R := Lib.hid hp2r
            have HU2 := Lib.hid hu2w
            have HL2 := Lib.hid hl2
            obtain ⟨lb, lo, rfl, hlb, hlc⟩ := HLI.out (by intro e; rw [e] at hkl; simp at hkl)
            obtain ⟨ut, hut, tA2, tc2, rfl, htr⟩ := hlc k _ (List.getElem?_eq_getElem hkl)
            have hft := HFK.out _ (List.getElem_mem hkl)
            have hutw := fun W (hW : Below w.heap.size w W) => (hW.cell (p := ⟨lb, lo + k, none⟩) hlb).trans hut
            have htrw := fun W (hW : Below w.heap.size w W) => (htr.below hW).mono hW.size
            have HUT := Lib.hid (And.intro hutw htrw)
            have HFT := Lib.hid hft
            have HIL := Lib.hid hlast
            have hsok : (stOf (y + (i : Int)) (levT m y th i)[k]).Ok m := by
              refine stOf_ok HM.out (outB_false.2 ⟨by omega, by omega⟩) ?_
              have := fits_thicks HM.out hft.fit
              rwa [thicks_stOf hn4 hft.len] at this
            have HSOK := Lib.hid hsok
            have hps := paidV_step (m := m) (s := stOf (y + (i : Int)) (levT m y th i)[k]) hsy
            have HPS := Lib.hid hps
            have hmem := List.getElem_mem hkl
            have HMEM := Lib.hid hmem
            clear hu2 hu2w hc1 hc2' hc3 hp2 hp2o hp2w hpc2 hp2r hl2 hlc hut htr hft hutw htrw hlast hsok hps hmem
            generalize (levT m y th i)[k] = ti at *
            go_wp2_with fail
            go_loopw [11, 12] (fun be c wj => ∃ j : Nat, j ≤ (rowsS m).length ∧ c = .int .i64 (j : Int) ∧ be = .int .i64 (paidTo m (stOf (y + (i : Int)) ti) j) ∧ Hid (Below Wk.heap.size Wk wj)) (fun _ c _ => (rowsS m).length - (intOf c).toNat)
            case atStart => exact ⟨0, Nat.zero_le _, rfl, by rw [paidTo_zero], Lib.hid (Below.refl _ _)⟩
            case round =>
              obtain ⟨j, hj, rfl, rfl, HBJ⟩ := hrel
              obtain ⟨Wj, rfl⟩ : ∃ Wj, Wj = wr := ⟨_, rfl⟩
              have zj := HBJ.out.size
              have HIj := Lib.hid (HI.out.later HBJ.out)
              by_cases hjl : j < (rowsS m).length
              · have hji : (j : Int) < ((rowsS m).length : Int) := by omega
                have hj0 : (0 : Int) ≤ (j : Int) := by omega
                have hjadd : IntKind.i64.wrap ((j : Int) + 1) = (j : Int) + 1 := IntWalk.i64_in _ (by omega)
                have hgr : (rowsS m)[j]? = some (rowsS m)[j] := List.getElem?_eq_getElem hjl
                obtain ⟨rb, ro, rfl, hrb, hrcl⟩ := HRR.out (by intro e; rw [e] at hjl; simp at hjl)
                obtain ⟨ur, hur, rA2, rc2, rfl, hrr2⟩ := hrcl j _ hgr
                have hrmem := List.getElem_mem hjl
                have hrok := (rowsS_mem hrmem).1
                have hIj := HIj.out
                have hth := thicks_stOf hn4 HFT.out.len (y + (i : Int))
                have hw1 : ∀ W, Grows Wj W → Below w1.heap.size w1 W := fun W hW => HBASE.out Wk HBK.out |>.trans ((HBJ.out.trans (hW.mono zj)).mono (by have := HBK.out.size; omega))
                have hyear : ∀ W, Grows Wj W → _ := fun W hW => ryear_calls m (.slice sA m.slopes.length sc) (.slice cA m.crafts.length cc) (stOf (y + (i : Int)) ti) tA2 rA2 tc2 rc2 (rowsS m)[j] W HM.out HSOK.out hrok (hIj.later hW).slopes (hIj.later hW).crafts (by rw [hth]; exact (HUT.out.2 W (hIj.later hW).below)) ((hrr2.below (hw1 W hW)).mono (by have := (hw1 W hW).size; omega))
                rw [hth, show (stOf (y + (i : Int)) ti).y = y + (i : Int) from rfl] at hyear
                have hcosts : ∀ W, Grows Wj W → _ := fun W hW => costs_calls m (.slice sA m.slopes.length sc) (.slice cA m.crafts.length cc) rA2 rc2 (rowsS m)[j] W HM.out hrok (hIj.later hW).slopes (hIj.later hW).crafts ((hrr2.below (hw1 W hW)).mono (by have := (hw1 W hW).size; omega))
                have hq : ∀ W, Grows Wj W → _ := fun W hW => And.intro (blk5 (blk_below hW hIj.box (lt_blk hIj.box))) (And.intro (HUI.out W (hIj.later hW).below) (And.intro (HUT.out.1 W (hIj.later hW).below) (((hw1 W hW).cell (p := ⟨rb, ro + j, none⟩) hrb).trans hur)))
                have hpin := fun h => paidTo_in HM.out (s := stOf (y + (i : Int)) ti) (by show 0 ≤ y + (i : Int); omega) hgr h
                have hpout := fun h => paidTo_out (s := stOf (y + (i : Int)) ti) hgr h
                have hnl : (thicks m (stepS m (stOf (y + (i : Int)) ti) (rowsS m)[j])).length = m.slopes.length := thicks_length _ _
                have hnin := fun (h : keptS m (stOf (y + (i : Int)) ti) (rowsS m)[j] = true) => (nextT_mem.2 ⟨_, HMEM.out, _, hrmem, h, rfl⟩ : thicks m (stepS m (stOf (y + (i : Int)) ti) (rowsS m)[j]) ∈ levT m y th (i + 1))
                have hnst := stepS_stOf m HM.out (y := y + (i : Int)) (r := (rowsS m)[j]) HFT.out
                have hcbd := costS_bd HM.out hrok
                have hrbd := paidV_bd HM.out (s := stepS m (stOf (y + (i : Int)) ti) (rowsS m)[j]) (by rw [stepS_y]; show 0 ≤ y + (i : Int) + 1; omega)
                have HYEAR := Lib.hid hyear
                have HCOSTS := Lib.hid hcosts
                have HQ := Lib.hid hq
                have HPIN := Lib.hid hpin
                have HPOUT := Lib.hid hpout
                have HNL := Lib.hid hnl
                have HNIN := Lib.hid hnin
                have HNST := Lib.hid hnst
                clear hrcl hur hrr2 hrok hIj hth hw1 hyear hcosts hq hpin hpout hgr hnl hnin hrmem hnst x0 x1 x2 x3 x4
                generalize hkd : keptS m (stOf (y + (i : Int)) ti) (rowsS m)[j] = kd at *
                generalize thicks m (stepS m (stOf (y + (i : Int)) ti) (rowsS m)[j]) = nt at *
                generalize stepS m (stOf (y + (i : Int)) ti) (rowsS m)[j] = nst at *
                generalize costS m (rowsS m)[j] = co at *
                have HKD := Lib.hid hkd
                generalize (rowsS m)[j] = rj at *
                have hyiw : IntKind.i64.wrap (y + (i : Int)) = y + (i : Int) := IntWalk.i64_in _ (by omega)
                clear hkd
                go_wp2_with fail
                refine wp_region_rg Grows (fun | 15 => .any (yearV kd) (fun _ => YearD Wj.heap.size kd nt) | _ => .fn) (by kernel_rfl) (by kernel_rfl) Grows.refl growsT (by intro i; split <;> first | trivial | exact fun _ => yearD_stable _ _ _) ?_
                iterate 15 (refine rg_step fun K hK => ?_; apply rg_fn rfl; (intro w4 hw; obtain ⟨⟨x0, x1, x2, x3, x4⟩, y1, y2, y3⟩ := HQ.out w4 hw.undrew; go_simp; try rfl); go_simp; (try with_reducible refine hK _ _ ?_); try clear hK K)
                refine rg_step fun K hK => ?_
                apply rg_call_any (.inl rfl) rfl
                · intro w4 hw
                  go_simp
                  exact ⟨rfl, rfl⟩
                · intro w4 hw
                  refine (HYEAR.out w4 hw.undrew).mono ?_
                  rintro e w5 ⟨v', he, ho, hb⟩
                  obtain ⟨A5, n5, c5, rfl⟩ := own_slice ho
                  exact ⟨_, he, hb, ⟨_, _, _, rfl⟩, _, rfl, own_mono ho (Below.size hw.undrew)⟩
                rintro v5 ⟨A5, n5, c5, rfl⟩
                go_simp
                (try with_reducible refine hK _ _ ?_)
                try clear hK K
                iterate 5 (refine rg_step fun K hK => ?_; apply rg_fn rfl; (intro w4 hw; go_simp; try rfl); go_simp; (try with_reducible refine hK _ _ ?_); try clear hK K)
                refine rg_nil ?_
                rintro w5 hw5 hD
                replace hw5 := hw5.undrew
                obtain ⟨u9, e9, hown5⟩ := hD
                obtain rfl : Value.slice A5 n5 c5 = u9 := by simpa using e9
                have HOWN5 := Lib.hid hown5
                have HB5 := Lib.hid (HBJ.out.trans (hw5.mono zj))
                have z5 := Below.size hw5
                have HG5 := Lib.hid hw5
                clear hw5 hown5 e9 HYEAR
                cases kd
                · have hpo := HPOUT.out rfl
                  have HPO := Lib.hid hpo
                  clear hpo HPIN HPOUT HNIN
                  go_wp2_with fail
                  go_round
                  case rel => exact ⟨j + 1, by omega, by go_num, by rw [HPO.out], HB5⟩
                  case measure => simp [intOf]; omega
                · have hnin := HNIN.out rfl
                  have hpin := HPIN.out rfl
                  have hnl := HNL.out
                  have HPI := Lib.hid hpin
                  have hat := placeT_mem (levT_rises (i + 1)) hnin
                  have hia := own_ints HOWN5.out (by rw [hnl]; omega)
                  obtain ⟨_, _, e9, hrow5⟩ := id hia
                  cases e9
                  have hI5 := HI.out.later HB5.out
                  have hz5 := hI5.below.size
                  have hra5 : RowsAt w5 w5.heap.size (.slice l2A (levT m y th (i + 1)).length l2c) (levT m y th (i + 1)) := (HL2.out.below hI5.below).mono hz5
                  have hplace := rplace_calls l2A l2c (levT m y th (i + 1)) A5 c5 nt w5 hra5 hrow5 (fun x hx => by rw [(levT_fit HM.out HFIT.out (i + 1) x hx).len, hnl])
                  have hq2 := HU2.out w5 hI5.below
                  have hpg := paidL_get hat
                  have hal := (List.getElem?_eq_some_iff.1 hat).1
                  rw [show y + ((i + 1 : Nat) : Int) = y + (i : Int) + 1 by omega, HNST.out] at hpg
                  generalize placeT (levT m y th (i + 1)) nt = a at *
                  generalize decide ((levT m y th (i + 1))[a]? = some nt) = isd at *
                  have HPL := Lib.hid hplace
                  have HPG := Lib.hid hpg
                  have hi1 : (i : Int) + 1 < (n : Int) + 1 := by omega
                  have hi2 : (0 : Int) ≤ (i : Int) + 1 := by omega
                  have hi3 : IntKind.i64.wrap ((i : Int) + 1) = (i : Int) + 1 := IntWalk.i64_in _ (by omega)
                  have hvb5 : vb < w5.heap.size := by omega
                  clear hnin hpin hnl hat hia hrow5 hI5 hra5 hplace hpg HPIN HPOUT HNIN
                  go_wp2_with fail
                  refine HPL.out.mono ?_
                  rintro e w7 ⟨rfl, hb7⟩
                  have HB7 := Lib.hid (HB5.out.trans (hb7.mono (by omega)))
                  have hg7 : Grows Wj w7 := growsT _ _ _ HG5.out hb7
                  have h7g : w7.heap[g]? = some (.cells (cur.setIfInBounds i (.slice uA un uc)) 36 (0, 0)) := blk_below HB7.out HGK.out hgk
                  have hc7 : w7.cell? ⟨g, i + 1, none⟩ = some (.slice pA (paidL m y th (i + 1)).length pc) := (HB7.out.cell (p := ⟨g, i + 1, none⟩) hgk).trans HPC2.out
                  have hpl7 : (a : Int) < ((paidL m y th (i + 1)).length : Int) := by rw [paidL_length]; omega
                  have ha0 : (0 : Int) ≤ (a : Int) := by omega
                  obtain ⟨pb, po, e9, hpb, hpc⟩ := HP2R.out.at_ a (by rw [List.length_map, paidL_length]; exact hal)
                  subst e9
                  have hpv : ((paidL m y th (i + 1)).map (Value.int .i64))[a]'(by rw [List.length_map, paidL_length]; exact hal) = .int .i64 (paidV m nst) := by
                    rw [List.getElem_map]
                    have := HPG.out
                    rw [List.getElem?_eq_getElem (by rw [paidL_length]; exact hal)] at this
                    simpa using this
                  rw [hpv] at hpc
                  have hr7 : w7.cell? ⟨pb, po + a, none⟩ = some (.int .i64 (paidV m nst)) := (HB7.out.cell (p := ⟨pb, po + a, none⟩) hpb).trans hpc
                  have hq7 : ∀ W, Grows w7 W → _ := fun W hW => HQ.out W (growsT _ _ _ hg7 hW)
                  have hco7 : ∀ W, Grows w7 W → _ := fun W hW => HCOSTS.out W (growsT _ _ _ hg7 hW)
                  have HQ7 := Lib.hid hq7
                  have HCO7 := Lib.hid hco7
                  have hgz : g < w7.heap.size := lt_blk h7g
                  have hpbz : pb < w7.heap.size := Nat.lt_of_lt_of_le hpb HB7.out.size
                  have hadd : IntKind.i64.wrap (paidV m nst + co) = paidV m nst + co := IntWalk.i64_in _ (by omega)
                  have hi4 : i + 1 < n + 1 := by omega
                  clear hb7 hg7 h7g hpc hpv hq7 hco7 HPL HQ HCOSTS hq2
                  generalize paidV m nst = rest at *
                  have HPI2 := HPI
                  have hbb := leastTo_bd HM.out (stOf (y + (i : Int)) ti) j
                  generalize hbest : paidTo m (stOf (y + (i : Int)) ti) j = best at *
                  have HBE := Lib.hid hbest
                  clear hbest hbb
                  by_cases hr0 : 0 ≤ rest
                  · have hr0b : decide (0 ≤ rest) = true := by simpa using hr0
                    by_cases hb0 : best < 0
                    · have hb0b : decide (best < 0) = true := by simpa using hb0
                      have hpi := HPI.out
                      rw [if_pos ⟨hr0, .inl hb0⟩] at hpi
                      have HPN := Lib.hid hpi
                      clear hpi
                      go_wp2_with fail
                      refine wp_region_rg Grows (fun _ => .fn) (by kernel_rfl) (by kernel_rfl) Grows.refl growsT (fun _ => trivial) ?_
                      iterate 6 (refine rg_step fun K hK => ?_; apply rg_fn rfl; (intro w4 hw; go_simp; try rfl); go_simp; (try with_reducible refine hK _ _ ?_); try clear hK K)
                      iterate 10 (refine rg_step fun K hK => rg_skip rfl ?_; go_simp; (try with_reducible refine hK _ _ ?_); try clear hK K)
                      iterate 2 (refine rg_step fun K hK => ?_; apply rg_fn rfl; (intro w4 hw; go_simp; try rfl); go_simp; (try with_reducible refine hK _ _ ?_); try clear hK K)
                      refine rg_nil ?_
                      rintro w8 hw8 _
                      replace hw8 := hw8.undrew
                      have HG8 := Lib.hid hw8
                      have HB8 := Lib.hid (HB7.out.trans (hw8.mono HB7.out.size))
                      clear hw8
                      go_wp2_with fail
                      refine wp_region_rg Grows (fun | 6 => .ex (.int .i64 co) | _ => .fn) (by kernel_rfl) (by kernel_rfl) Grows.refl growsT (by intro i; split <;> trivial) ?_
                      iterate 6 (refine rg_step fun K hK => ?_; apply rg_fn rfl; (intro w4 hw; obtain ⟨⟨x0, x1, x2, x3, x4⟩, y1, y2, y3⟩ := HQ7.out w4 (growsT _ _ _ HG8.out hw.undrew); go_simp; try rfl); go_simp; (try with_reducible refine hK _ _ ?_); try clear hK K)
                      refine rg_step fun K hK => ?_
                      apply rg_call (.inl rfl) rfl
                      · intro w4 hw
                        go_simp
                        exact ⟨rfl, rfl⟩
                      · intro w4 hw
                        exact HCO7.out w4 (growsT _ _ _ HG8.out hw.undrew)
                      go_simp
                      (try with_reducible refine hK _ _ ?_)
                      try clear hK K
                      iterate 2 (refine rg_step fun K hK => ?_; apply rg_fn rfl; (intro w4 hw; go_simp; try rfl); go_simp; (try with_reducible refine hK _ _ ?_); try clear hK K)
                      refine rg_nil ?_
                      rintro w9 hw9 _
                      have HB9 := Lib.hid (HB8.out.trans (hw9.undrew.mono HB8.out.size))
                      clear hw9
                      go_wp2_with fail
                      go_round
                      case rel => exact ⟨j + 1, by omega, by go_num, by rw [HPN.out], HB9⟩
                      case measure => simp [intOf]; omega
                    · have hb0b : decide (best < 0) = false := by simpa using hb0
                      by_cases hle : rest + co < best
                      · have hleb : decide (rest + co < best) = true := by simpa using hle
                        have hpi := HPI.out
                        rw [if_pos ⟨hr0, .inr hle⟩] at hpi
                        have HPN := Lib.hid hpi
                        clear hpi
                        go_wp2_with fail
                        refine wp_region_rg Grows (fun | 12 => .ex (.int .i64 co) | _ => .fn) (by kernel_rfl) (by kernel_rfl) Grows.refl growsT (by intro i; split <;> trivial) ?_
                        iterate 12 (refine rg_step fun K hK => ?_; apply rg_fn rfl; (intro w4 hw; obtain ⟨⟨x0, x1, x2, x3, x4⟩, y1, y2, y3⟩ := HQ7.out w4 hw.undrew; go_simp; try rfl); go_simp; (try with_reducible refine hK _ _ ?_); try clear hK K)
                        refine rg_step fun K hK => ?_
                        apply rg_call (.inl rfl) rfl
                        · intro w4 hw
                          go_simp
                          exact ⟨rfl, rfl⟩
                        · intro w4 hw
                          exact HCO7.out w4 hw.undrew
                        go_simp
                        (try with_reducible refine hK _ _ ?_)
                        try clear hK K
                        iterate 5 (refine rg_step fun K hK => ?_; apply rg_fn rfl; (intro w4 hw; go_simp; try rfl); go_simp; (try with_reducible refine hK _ _ ?_); try clear hK K)
                        refine rg_nil ?_
                        rintro w8 hw8 _
                        replace hw8 := hw8.undrew
                        have HG8 := Lib.hid hw8
                        have HB8 := Lib.hid (HB7.out.trans (hw8.mono HB7.out.size))
                        clear hw8
                        go_wp2_with fail
                        refine wp_region_rg Grows (fun | 6 => .ex (.int .i64 co) | _ => .fn) (by kernel_rfl) (by kernel_rfl) Grows.refl growsT (by intro i; split <;> trivial) ?_
                        iterate 6 (refine rg_step fun K hK => ?_; apply rg_fn rfl; (intro w4 hw; obtain ⟨⟨x0, x1, x2, x3, x4⟩, y1, y2, y3⟩ := HQ7.out w4 (growsT _ _ _ HG8.out hw.undrew); go_simp; try rfl); go_simp; (try with_reducible refine hK _ _ ?_); try clear hK K)
                        refine rg_step fun K hK => ?_
                        apply rg_call (.inl rfl) rfl
                        · intro w4 hw
                          go_simp
                          exact ⟨rfl, rfl⟩
                        · intro w4 hw
                          exact HCO7.out w4 (growsT _ _ _ HG8.out hw.undrew)
                        go_simp
                        (try with_reducible refine hK _ _ ?_)
                        try clear hK K
                        iterate 2 (refine rg_step fun K hK => ?_; apply rg_fn rfl; (intro w4 hw; go_simp; try rfl); go_simp; (try with_reducible refine hK _ _ ?_); try clear hK K)
                        refine rg_nil ?_
                        rintro w9 hw9 _
                        have HB9 := Lib.hid (HB8.out.trans (hw9.undrew.mono HB8.out.size))
                        clear hw9
                        go_wp2_with fail
                        go_round
                        case rel => exact ⟨j + 1, by omega, by go_num, by rw [HPN.out], HB9⟩
                        case measure => simp [intOf]; omega
                      · have hleb : decide (rest + co < best) = false := by simpa using hle
                        have hpi := HPI.out
                        rw [if_neg (fun h => h.2.elim hb0 hle)] at hpi
                        have HPN := Lib.hid hpi
                        clear hpi
                        go_wp2_with fail
                        refine wp_region_rg Grows (fun | 12 => .ex (.int .i64 co) | _ => .fn) (by kernel_rfl) (by kernel_rfl) Grows.refl growsT (by intro i; split <;> trivial) ?_
                        iterate 12 (refine rg_step fun K hK => ?_; apply rg_fn rfl; (intro w4 hw; obtain ⟨⟨x0, x1, x2, x3, x4⟩, y1, y2, y3⟩ := HQ7.out w4 hw.undrew; go_simp; try rfl); go_simp; (try with_reducible refine hK _ _ ?_); try clear hK K)
                        refine rg_step fun K hK => ?_
                        apply rg_call (.inl rfl) rfl
                        · intro w4 hw
                          go_simp
                          exact ⟨rfl, rfl⟩
                        · intro w4 hw
                          exact HCO7.out w4 hw.undrew
                        go_simp
                        (try with_reducible refine hK _ _ ?_)
                        try clear hK K
                        iterate 5 (refine rg_step fun K hK => ?_; apply rg_fn rfl; (intro w4 hw; go_simp; try rfl); go_simp; (try with_reducible refine hK _ _ ?_); try clear hK K)
                        refine rg_nil ?_
                        rintro w8 hw8 _
                        have HB8 := Lib.hid (HB7.out.trans (hw8.undrew.mono HB7.out.size))
                        clear hw8
                        go_wp2_with fail
                        go_round
                        case rel => exact ⟨j + 1, by omega, by go_num, by rw [HPN.out], HB8⟩
                        case measure => simp [intOf]; omega
                  · have hr0b : decide (0 ≤ rest) = false := by simpa using hr0
                    have hpi := HPI.out
                    rw [if_neg (fun h => hr0 h.1)] at hpi
                    have HPN := Lib.hid hpi
                    clear hpi
                    go_wp2_with fail
                    refine wp_region_rg Grows (fun _ => .fn) (by kernel_rfl) (by kernel_rfl) Grows.refl growsT (fun _ => trivial) ?_
                    iterate 3 (refine rg_step fun K hK => ?_; apply rg_fn rfl; (intro w4 hw; go_simp; try rfl); go_simp; (try with_reducible refine hK _ _ ?_); try clear hK K)
                    iterate 14 (refine rg_step fun K hK => rg_skip rfl ?_; go_simp; (try with_reducible refine hK _ _ ?_); try clear hK K)
                    iterate 1 (refine rg_step fun K hK => ?_; apply rg_fn rfl; (intro w4 hw; go_simp; try rfl); go_simp; (try with_reducible refine hK _ _ ?_); try clear hK K)
                    refine rg_nil ?_
                    rintro w8 hw8 _
                    have HB8 := Lib.hid (HB7.out.trans (hw8.undrew.mono HB7.out.size))
                    clear hw8
                    go_wp2_with fail
                    go_round
                    case rel => exact ⟨j + 1, by omega, by go_num, by rw [HPN.out], HB8⟩
                    case measure => simp [intOf]; omega
              · obtain rfl : j = (rowsS m).length := by omega
                have hji : ¬ ((rowsS m).length : Int) < ((rowsS m).length : Int) := by omega
                rw [← HPS.out]
                have hwj := HBK.out.trans (Bel.of_below HBJ.out)
                have hgj := blk_below HBJ.out HGK.out hgk
                have hokj := own_below HOK.out HBJ.out (fun b hb => (own_blk_lt HOK.out b hb).2)
                have hokb := fun ob => own_below hokj (below1 Wj ob) (fun k hk => (own_blk_lt hokj k hk).2)
                have hfrj := frozen_blk hgj i
                have hujj : Wj.cell? ⟨g, i, none⟩ = some (.slice uA un uc) := by rw [cell_blk hgj, Array.getElem?_setIfInBounds_self_of_lt (by omega)]
                have hzkj : Wi.heap.size ≤ Wj.heap.size := by omega
                have HGJ := Lib.hid hgj
                have HOKJ := Lib.hid hokj
                have HOKB2 := Lib.hid hokb
                have HWJ := Lib.hid hwj
                clear hgj hokj hokb hwj x0 x1 x2 x3 x4
                generalize paidV m (stOf (y + (i : Int)) ti) = pvv at *
                go_wp2_with (at_builtin; (refine wpList_app2 Wi.heap.size _ _ 36 3 (.int .i64 0) 1 8 [.int .i64 pvv] (by rfl) (by rfl) Try.underlying36 infoInt rfl (by decide) (by decide) (.slice uA un uc) k _ (by rfl) Wj.heap.size (by rfl) (heap_alloc_self _ _) rfl (by simp [Value.oneCell']) (HOKB2.out _) (by omega) (by simp; omega) ?_); intro v1 w9 hown9 hg9 hat9 hb9; obtain ⟨A9, n9, c9, rfl⟩ := own_slice hown9; have HX := Lib.hid (And.intro hown9 hg9); have hst9 := paid_store HGJ.out hgi HWJ.out HOKJ.out hown9 hg9; have HS9 := Lib.hid hst9; have hf9 := frozen_blk hst9.1 i; have hq9 : w9.cell? ⟨g, i, none⟩ = some (.slice uA un uc) := (by rw [cell_blk hst9.1, Array.getElem?_setIfInBounds_self_of_lt (by omega)]); clear hst9 hown9 hg9 hat9 hb9)
                obtain ⟨_, s2, s3, s4⟩ := HS9.out
                have hrow : (((paidL m y th i).take (k + 1)).map (Value.int .i64)) = (((paidL m y th i).take k).map (Value.int .i64)) ++ [.int .i64 pvv] := by rw [HPT.out]; simp
                rw [← hrow] at s3
                have S2 := Lib.hid s2
                have S3 := Lib.hid s3
                have S4 := Lib.hid s4
                clear s2 s3 s4 hrow HS9 HX HOKB HOKB2
                go_round
                case rel => exact ⟨k + 1, _, by omega, by go_num, ⟨_, _, _, rfl⟩, S2, S3, S4⟩
                case measure => simp [intOf]; omega
        · obtain rfl : k = (levT m y th i).length := by omega
          have hki : ¬ ((levT m y th i).length : Int) < ((levT m y th i).length : Int) := by omega
          have hok := HOK.out
          rw [← paidL_length, List.take_length] at hok
          obtain ⟨hc1, hc2', hc3⟩ := HCUR.out
          have hnext := PaidAt.next hi hc1 hc2' hc3 HGK.out HBK.out hok zi
          have HNX := Lib.hid hnext
          have HBX := Lib.hid hbk1
          clear hok hc1 hc2' hc3 hnext hui2 hfr
          go_wp2_with fail
          go_round
          case rel => exact ⟨d + 1, by omega, by rw [show (n : Int) - ((d + 1 : Nat) : Int) = (i : Int) - 1 by omega], HNX, HBX⟩
          case measure => simp [intOf]
    · obtain rfl : d = n + 1 := by omega
      have hiv : (n : Int) - ((n + 1 : Nat) : Int) = -1 := by omega
      rw [hiv]
      have hfin := HPA.out.rows (by omega) HNN.out.symm (by rw [HG.out]; exact Nat.le_refl _) (by omega)
      have HFIN := Lib.hid (hfin.mono (B' := w.heap.size) (by omega))
      have HBL := Lib.hid (H1.out.below.trans (HB.out.mono (by omega)))
      clear hfin hiv
      go_wp2_with fail
      go_ret
      exact ⟨⟨_, rfl, HFIN.out⟩, HBL.out⟩
end Go.Proofs.Ytccplobhfokcgaa
