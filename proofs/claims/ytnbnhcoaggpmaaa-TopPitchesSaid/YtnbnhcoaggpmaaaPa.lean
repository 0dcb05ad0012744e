/- What can be come to from a state on, as a list. -/
import Derived.Test.YtnbnhcoaggpmaaaMq

namespace Go.Proofs.Ytnbnhcoaggpmaaa
open Go Go.RowKit Go.Shelf
set_option maxRecDepth 100000

/-- What can be come to from a state within a year. -/
def kids (m : Wk) (s : St) : List St := if s.y < m.years then ((rowsS m).filter fun r => keptS m s r).map (stepS m s) else []
theorem mem_kids {m : Wk} {s t : St} : t ∈ kids m s ↔ s.y < m.years ∧ ∃ r ∈ rowsS m, keptS m s r = true ∧ stepS m s r = t := by
  unfold kids
  by_cases h : s.y < m.years
  · simp only [h, if_true, true_and, List.mem_map, List.mem_filter]
    constructor
    · rintro ⟨r, ⟨h1, h2⟩, h3⟩; exact ⟨r, h1, h2, h3⟩
    · rintro ⟨r, h1, h2, h3⟩; exact ⟨r, ⟨h1, h2⟩, h3⟩
  · simp [h]
theorem kids_y {m : Wk} {s t : St} (h : t ∈ kids m s) : t.y = s.y + 1 ∧ s.y < m.years := by
  obtain ⟨h1, r, _, _, rfl⟩ := mem_kids.1 h
  exact ⟨rfl, h1⟩
inductive Reach (m : Wk) (s : St) : St → Prop
  | self : Reach m s s
  | step {t u : St} : Reach m s t → u ∈ kids m t → Reach m s u
theorem Reach.trans {m : Wk} {s t u : St} (h : Reach m s t) (k : Reach m t u) : Reach m s u := by
  induction k with
  | self => exact h
  | step _ hu ih => exact ih.step hu
theorem Reach.y {m : Wk} {s t : St} (h : Reach m s t) : s.y ≤ t.y ∧ (t.y ≤ m.years ∨ t = s) := by
  induction h with
  | self => exact ⟨Int.le_refl _, .inr rfl⟩
  | step _ hu ih =>
    have := kids_y hu
    exact ⟨by omega, .inl (by omega)⟩
theorem Reach.ok {m : Wk} (hm : m.Ok) {s t : St} (hs : s.Ok m) (h : Reach m s t) : t.Ok m := by
  induction h with
  | self => exact hs
  | step _ hu ih =>
    obtain ⟨h1, r, _, _, rfl⟩ := mem_kids.1 hu
    exact stepS_ok hm ih r (by have := hm.years; omega)

/-- Add what is not there yet. -/
def addL (L K : List St) : List St := K.foldl putL L
theorem putL_mem {L : List St} {x t : St} : t ∈ putL L x ↔ t ∈ L ∨ t = x := by
  unfold putL
  by_cases h : x ∈ L
  · rw [if_pos h]
    constructor
    · exact .inl
    · rintro (h1 | rfl)
      · exact h1
      · exact h
  · rw [if_neg h]; simp
theorem putL_nodup {L : List St} {x : St} (h : L.Nodup) : (putL L x).Nodup := by
  unfold putL
  by_cases hx : x ∈ L
  · rw [if_pos hx]; exact h
  · rw [if_neg hx, List.nodup_append]
    exact ⟨h, by simp, fun a ha b hb => by simp at hb; subst hb; rintro rfl; exact hx ha⟩
theorem putL_length {L : List St} {x : St} : L.length ≤ (putL L x).length ∧ (putL L x).length ≤ L.length + 1 := by
  unfold putL
  split <;> simp
theorem addL_mem {L K : List St} {t : St} : t ∈ addL L K ↔ t ∈ L ∨ t ∈ K := by
  unfold addL
  induction K generalizing L with
  | nil => simp
  | cons x K ih => rw [List.foldl_cons, ih, putL_mem, List.mem_cons, or_assoc]
theorem addL_nodup {L K : List St} (h : L.Nodup) : (addL L K).Nodup := by
  unfold addL
  induction K generalizing L with
  | nil => exact h
  | cons x K ih => exact ih (putL_nodup h)

/-- The states of so many years more. -/
def sweep (m : Wk) (s : St) : Nat → List St
  | 0 => [s]
  | n + 1 => addL (sweep m s n) ((sweep m s n).flatMap (kids m))
theorem sweep_nodup (m : Wk) (s : St) : ∀ n, (sweep m s n).Nodup
  | 0 => by simp [sweep]
  | n + 1 => addL_nodup (sweep_nodup m s n)
theorem sweep_reach {m : Wk} {s : St} : ∀ {n : Nat} {t : St}, t ∈ sweep m s n → Reach m s t
  | 0, t, h => by simp [sweep] at h; subst h; exact .self
  | n + 1, t, h => by
    rw [sweep, addL_mem, List.mem_flatMap] at h
    rcases h with h | ⟨u, h1, h2⟩
    · exact sweep_reach h
    · exact (sweep_reach h1).step h2
theorem sweep_mono {m : Wk} {s t : St} {n k : Nat} (h : t ∈ sweep m s n) (hk : n ≤ k) : t ∈ sweep m s k := by
  induction k with
  | zero => obtain rfl : n = 0 := by omega
            exact h
  | succ k ih =>
    rcases Nat.lt_or_ge k n with h1 | h1
    · obtain rfl : n = k + 1 := by omega
      exact h
    · rw [sweep, addL_mem]; exact .inl (ih h1)
theorem reach_sweep {m : Wk} {s t : St} (h : Reach m s t) : t ∈ sweep m s (t.y - s.y).toNat := by
  induction h with
  | self => simp [sweep]
  | step h hu ih =>
    rename_i t u
    have h1 := (kids_y hu).1
    have h2 := h.y.1
    rw [show (u.y - s.y).toNat = (t.y - s.y).toNat + 1 by omega, sweep, addL_mem, List.mem_flatMap]
    exact .inr ⟨_, ih, hu⟩
/-- All that can be come to. -/
def allS (m : Wk) (s : St) : List St := sweep m s (m.years - s.y).toNat
theorem allS_mem {m : Wk} {s t : St} : t ∈ allS m s ↔ Reach m s t :=
  ⟨sweep_reach, fun h => sweep_mono (reach_sweep h) (by
    obtain ⟨h1, h2 | rfl⟩ := h.y
    · omega
    · omega)⟩
theorem allS_nodup (m : Wk) (s : St) : (allS m s).Nodup := sweep_nodup m s _
theorem allS_self (m : Wk) (s : St) : s ∈ allS m s := allS_mem.2 .self
theorem allS_closed {m : Wk} {s t u : St} (h : t ∈ allS m s) (hu : u ∈ kids m t) : u ∈ allS m s := allS_mem.2 ((allS_mem.1 h).step hu)
theorem allS_sub {m : Wk} {s t u : St} (h : t ∈ allS m s) (hu : u ∈ allS m t) : u ∈ allS m s := allS_mem.2 ((allS_mem.1 h).trans (allS_mem.1 hu))
/-- A list that begins with s, has only what can be come to, and is closed, is all of it. -/
theorem allS_perm {m : Wk} {s : St} {L : List St} (hn : L.Nodup) (hs : s ∈ L) (hr : ∀ t ∈ L, Reach m s t) (hc : ∀ t ∈ L, ∀ u ∈ kids m t, u ∈ L) : L.Perm (allS m s) :=
  (List.perm_ext_iff_of_nodup hn (allS_nodup m s)).2 fun t => ⟨fun h => allS_mem.2 (hr t h), fun h => by
    have h1 := allS_mem.1 h
    induction h1 with
    | self => exact hs
    | step h2 hu ih => exact hc _ (ih (allS_mem.2 h2)) _ hu⟩
theorem allS_len {m : Wk} {s : St} {L : List St} (hn : L.Nodup) (hr : ∀ t ∈ L, Reach m s t) : L.length ≤ (allS m s).length :=
  nodup_length _ _ hn fun t ht => allS_mem.2 (hr t ht)
theorem allS_shut {m : Wk} (hm : m.Ok) {s : St} (hs : s.Ok m) (hy : s.y ≤ m.years) {L : List St} (hL : L.Perm (allS m s)) (hf : L.length ≤ 2000) : Shut m L where
  ok t ht := (allS_mem.1 (hL.mem_iff.1 ht)).ok hm hs
  year t ht := by
    rcases (allS_mem.1 (hL.mem_iff.1 ht)).y.2 with h | rfl
    · exact h
    · exact hy
  next t ht hty r hr hk := hL.mem_iff.2 (allS_closed (hL.mem_iff.1 ht) (mem_kids.2 ⟨hty, r, hr, hk, rfl⟩))
  few := hf
end Go.Proofs.Ytnbnhcoaggpmaaa
