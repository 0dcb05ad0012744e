/- Lists of values of states, and of states, in memory. -/
import Derived.Test.YtcbhldfipfcjaaaGreatDoorLs

namespace Go.Proofs.YtcbhldfipfcjaaaGreatDoor
open Go Go.RowKit Go.Shelf
set_option maxRecDepth 100000

/-- What is told of a state: its year, its thicknesses, what it costs. -/
structure Wo where
  y : Int
  th : List Int
  c : Int
def cellsW : List Wo → List Value → List Value
  | x :: ws, u :: us => .int .i64 x.y :: u :: .int .i64 x.c :: cellsW ws us
  | _, _ => []
theorem cellsW_length : ∀ (ws : List Wo) (us : List Value), us.length = ws.length → (cellsW ws us).length = ws.length * 3
  | [], [], _ => rfl
  | x :: ws, u :: us, h => by
    have := cellsW_length ws us (by simpa using h)
    simp only [cellsW, List.length_cons, this]
    omega
theorem cellsW_snoc (x : Wo) (u : Value) : ∀ (ws : List Wo) (us : List Value), us.length = ws.length → cellsW (ws ++ [x]) (us ++ [u]) = cellsW ws us ++ [.int .i64 x.y, u, .int .i64 x.c]
  | [], [], _ => rfl
  | y :: ws, v :: us, h => by
    have := cellsW_snoc x u ws us (by simpa using h)
    simp only [List.cons_append, cellsW, this]
theorem cellsW_at {x : Wo} {u : Value} : ∀ (ws : List Wo) (us : List Value) (i : Nat), ws[i]? = some x → us[i]? = some u →
    (cellsW ws us)[i * 3]? = some (.int .i64 x.y) ∧ (cellsW ws us)[i * 3 + 1]? = some u ∧ (cellsW ws us)[i * 3 + 2]? = some (.int .i64 x.c)
  | [], _, i, h, _ => by simp at h
  | y :: ws, [], i, _, h => by simp at h
  | y :: ws, v :: us, 0, h, k => by
    simp at h k
    subst h; subst k
    exact ⟨rfl, rfl, rfl⟩
  | y :: ws, v :: us, i + 1, h, k => by
    have := cellsW_at ws us i (by simpa using h) (by simpa using k)
    have e : ∀ j, (cellsW (y :: ws) (v :: us))[(i + 1) * 3 + j]? = (cellsW ws us)[i * 3 + j]? := fun j => by
      rw [show (i + 1) * 3 + j = (i * 3 + j) + 3 by omega]; rfl
    refine ⟨(e 0).trans this.1, (e 1).trans this.2.1, (e 2).trans this.2.2⟩

/-- A list of values of one's own. -/
def OwnW (w : World) (B : Nat) (v : Value) (ws : List Wo) : Prop := ∃ us : List Value, us.length = ws.length ∧ w.ownsRow B 110 3 v ws.length (cellsW ws us) ∧
  ∀ (i : Nat) (x : Wo), ws[i]? = some x → ∃ u, us[i]? = some u ∧ w.ownsRow B 3 1 u x.th.length (x.th.map (Value.int .i64))
theorem OwnW.nil (w : World) (B : Nat) : OwnW w B (.slice none 0 0) [] := ⟨[], rfl, ⟨rfl, .inl ⟨rfl, rfl⟩⟩, fun i x h => by simp at h⟩
theorem OwnW.kept {w w' : World} {B : Nat} {v : Value} {ws : List Wo} (h : OwnW w B v ws) (hk : ∀ k cs t, B ≤ k → w.heap[k]? = some (.cells cs t (0, 0)) → w'.heap[k]? = w.heap[k]?) : OwnW w' B v ws := by
  obtain ⟨us, h0, h1, h2⟩ := h
  refine ⟨us, h0, own_kept h1 (fun k hk' => ?_), fun i x hx => ?_⟩
  · obtain ⟨cur, hc⟩ := own_type h1 k hk'
    exact hk k cur _ (own_blk_lt h1 k hk').1 hc
  · obtain ⟨u, hu, h4⟩ := h2 i x hx
    refine ⟨u, hu, own_kept h4 (fun k hk' => ?_)⟩
    obtain ⟨cur, hc⟩ := own_type h4 k hk'
    exact hk k cur _ (own_blk_lt h4 k hk').1 hc
theorem OwnW.snoc {W w1 : World} {B : Nat} {v v1 : Value} {ws : List Wo} {us : List Value} {u : Value} {x : Wo} (h0 : us.length = ws.length)
    (h1 : W.ownsRow B 110 3 v ws.length (cellsW ws us))
    (h2 : ∀ (i : Nat) (x : Wo), ws[i]? = some x → ∃ u, us[i]? = some u ∧ W.ownsRow B 3 1 u x.th.length (x.th.map (Value.int .i64)))
    (hu : W.ownsRow B 3 1 u x.th.length (x.th.map (Value.int .i64))) (hown : w1.ownsRow B 110 3 v1 (ws.length + 1) (cellsW ws us ++ [.int .i64 x.y, u, .int .i64 x.c])) (hg : W.grownBy w1 v.ownBlock) :
    OwnW w1 B v1 (ws ++ [x]) := by
  have key : ∀ {u : Value} {xs : List Int}, W.ownsRow B 3 1 u xs.length (xs.map (Value.int .i64)) → w1.ownsRow B 3 1 u xs.length (xs.map (Value.int .i64)) := fun {u xs} hu =>
    own_kept hu fun k hk => by
      obtain ⟨cur, hc⟩ := own_type hu k hk
      refine hg.block k (own_blk_lt hu k hk).2 (fun e => ?_)
      obtain ⟨cur2, hc2⟩ := own_type h1 k e.symm
      rw [hc] at hc2
      simp at hc2
  refine ⟨us ++ [u], by simp [h0], by rw [List.length_append, cellsW_snoc _ _ _ _ h0]; exact hown, fun i y hy => ?_⟩
  by_cases hi : i < ws.length
  · rw [List.getElem?_append_left hi] at hy
    obtain ⟨u', hu', h3⟩ := h2 i y hy
    exact ⟨u', by rw [List.getElem?_append_left (by omega)]; exact hu', key h3⟩
  · rw [List.getElem?_append_right (by omega)] at hy
    have hz : i - ws.length = 0 := by
      have := (List.getElem?_eq_some_iff.1 hy).1
      simp at this; omega
    rw [hz] at hy
    have : x = y := by simpa using hy
    subst this
    exact ⟨u, by rw [List.getElem?_append_right (by omega), h0, hz]; rfl, key hu⟩

/-- A slice of values. -/
def WorthsAt (w : World) (n0 : Nat) (v : Value) (ws : List Wo) : Prop := ∃ A c, v = .slice A ws.length c ∧ ws.length ≤ 9223372036854775807 ∧
  (ws ≠ [] → ∃ b o, A = some ⟨b, o, none⟩ ∧ b < n0 ∧ ∀ i x, ws[i]? = some x → ∃ u, w.cell? ⟨b, o + i * 3, none⟩ = some (.int .i64 x.y) ∧ w.cell? ⟨b, o + i * 3 + 1, none⟩ = some u ∧ w.cell? ⟨b, o + i * 3 + 2, none⟩ = some (.int .i64 x.c) ∧ IntsAt w n0 u x.th)
theorem WorthsAt.below {w w' : World} {n0 : Nat} {v : Value} {ws : List Wo} (h : WorthsAt w n0 v ws) (hb : Below n0 w w') : WorthsAt w' n0 v ws := by
  obtain ⟨A, c, e, hl, hr⟩ := h
  refine ⟨A, c, e, hl, fun hn => ?_⟩
  obtain ⟨b, o, e, hlt, hc⟩ := hr hn
  refine ⟨b, o, e, hlt, fun i x hx => ?_⟩
  obtain ⟨u, h1, h2, h3, h4⟩ := hc i x hx
  exact ⟨u, (hb.cell (p := ⟨b, o + i * 3, none⟩) hlt).trans h1, (hb.cell (p := ⟨b, o + i * 3 + 1, none⟩) hlt).trans h2, (hb.cell (p := ⟨b, o + i * 3 + 2, none⟩) hlt).trans h3, h4.below hb⟩
theorem WorthsAt.mono {w : World} {n0 n1 : Nat} {v : Value} {ws : List Wo} (h : WorthsAt w n0 v ws) (hn : n0 ≤ n1) : WorthsAt w n1 v ws := by
  obtain ⟨A, c, e, hl, hr⟩ := h
  refine ⟨A, c, e, hl, fun hne => ?_⟩
  obtain ⟨b, o, e, hlt, hc⟩ := hr hne
  refine ⟨b, o, e, Nat.lt_of_lt_of_le hlt hn, fun i x hx => ?_⟩
  obtain ⟨u, h1, h2, h3, h4⟩ := hc i x hx
  exact ⟨u, h1, h2, h3, h4.mono hn⟩
theorem WorthsAt.nil (w : World) (n : Nat) : WorthsAt w n (.slice none 0 0) [] := ⟨none, 0, rfl, by simp, fun h => absurd rfl h⟩
theorem OwnW.worths {w : World} {B : Nat} {v : Value} {ws : List Wo} (h : OwnW w B v ws) (hl : ws.length ≤ 1000000) (hx : ∀ x ∈ ws, x.th.length ≤ 1000000) : WorthsAt w w.heap.size v ws := by
  obtain ⟨us, h0, h1, h2⟩ := h
  rcases h1.2 with ⟨rfl, h3⟩ | ⟨g, cap, cur, rfl, hB, hh, hc, _, hs, ht⟩
  · have : ws = [] := List.length_eq_zero_iff.1 h3
    subst this
    exact WorthsAt.nil _ _
  · refine ⟨_, _, rfl, by omega, fun hn => ⟨g, 0, rfl, lt_blk hh, fun i x hx' => ?_⟩⟩
    have hil := (List.getElem?_eq_some_iff.1 hx').1
    obtain ⟨u, hu, h4⟩ := h2 i x hx'
    obtain ⟨c0, c1, c2⟩ := cellsW_at ws us i hx' hu
    have key : ∀ j, j < 3 → w.cell? ⟨g, 0 + i * 3 + j, none⟩ = (cellsW ws us)[i * 3 + j]? := fun j hj => by
      rw [cell_blk hh, ← ht, List.getElem?_take, if_pos (by omega), Array.getElem?_toList, Nat.zero_add]
    exact ⟨u, (key 0 (by omega)).trans c0, (key 1 (by omega)).trans c1, (key 2 (by omega)).trans c2, own_ints h4 (by have := hx x (List.mem_of_getElem? hx'); omega)⟩

/-- A slice of states. -/
def StsAt (w : World) (n0 : Nat) (v : Value) (L : List St) : Prop := ∃ A c, v = .slice A L.length c ∧
  (L ≠ [] → ∃ b, A = some ⟨b, 0, none⟩ ∧ b < n0 ∧ ∀ i t, L[i]? = some t → w.cell? ⟨b, i * 5, none⟩ = some (.int .i64 t.y) ∧ w.cell? ⟨b, i * 5 + 1, none⟩ = some (.int .i64 t.a) ∧ w.cell? ⟨b, i * 5 + 2, none⟩ = some (.int .i64 t.b) ∧
    w.cell? ⟨b, i * 5 + 3, none⟩ = some (.int .i64 t.c) ∧ w.cell? ⟨b, i * 5 + 4, none⟩ = some (.int .i64 t.d))
theorem StsAt.below {w w' : World} {n0 : Nat} {v : Value} {L : List St} (h : StsAt w n0 v L) (hb : Below n0 w w') : StsAt w' n0 v L := by
  obtain ⟨A, c, e, hr⟩ := h
  refine ⟨A, c, e, fun hn => ?_⟩
  obtain ⟨b, e, hlt, hc⟩ := hr hn
  refine ⟨b, e, hlt, fun i t ht => ?_⟩
  obtain ⟨h0, h1, h2, h3, h4⟩ := hc i t ht
  have key : ∀ j, w'.cell? ⟨b, j, none⟩ = w.cell? ⟨b, j, none⟩ := fun j => hb.cell (p := ⟨b, j, none⟩) hlt
  exact ⟨(key _).trans h0, (key _).trans h1, (key _).trans h2, (key _).trans h3, (key _).trans h4⟩
theorem StsAt.mono {w : World} {n0 n1 : Nat} {v : Value} {L : List St} (h : StsAt w n0 v L) (hn : n0 ≤ n1) : StsAt w n1 v L := by
  obtain ⟨A, c, e, hr⟩ := h
  refine ⟨A, c, e, fun hne => ?_⟩
  obtain ⟨b, e, hlt, hc⟩ := hr hne
  exact ⟨b, e, Nat.lt_of_lt_of_le hlt hn, hc⟩
theorem cellsL_at : ∀ (L : List St) (i k : Nat) (t : St), L[i]? = some t → k < 5 → (cellsL L)[i * 5 + k]? = (stC t)[k]? := by
  intro L
  induction L with
  | nil => intro i k t h; simp at h
  | cons x L ih =>
    intro i k t h hk
    have : cellsL (x :: L) = stC x ++ cellsL L := by simp [cellsL]
    rw [this]
    cases i with
    | zero =>
      simp at h; subst h
      rw [List.getElem?_append_left (by simpa [stC] using hk), Nat.zero_mul, Nat.zero_add]
    | succ i =>
      rw [List.getElem?_append_right (by simp [stC]; omega)]
      have hl : (stC x).length = 5 := rfl
      rw [hl, show (i + 1) * 5 + k - 5 = i * 5 + k by omega]
      exact ih i k t (by simpa using h) hk
theorem sts_own {w : World} {base : Nat} {v : Value} {L : List St} (h : w.ownsRow base 95 5 v L.length (cellsL L)) : StsAt w w.heap.size v L := by
  rcases h.2 with ⟨rfl, h3⟩ | ⟨g, cap, cur, rfl, hB, hh, hc, _, hs, ht⟩
  · exact ⟨none, 0, by rw [h3], fun hn => absurd (List.length_eq_zero_iff.1 h3) hn⟩
  · refine ⟨_, _, rfl, fun hn => ⟨g, rfl, lt_blk hh, fun i t hi => ?_⟩⟩
    have hil := (List.getElem?_eq_some_iff.1 hi).1
    have h4 : ∀ k, k < 5 → w.cell? ⟨g, i * 5 + k, none⟩ = (stC t)[k]? := by
      intro k hk
      rw [cell_blk hh, ← cellsL_at L i k t hi hk, ← ht, List.getElem?_take, if_pos (by omega), Array.getElem?_toList]
    exact ⟨h4 0 (by omega), h4 1 (by omega), h4 2 (by omega), h4 3 (by omega), h4 4 (by omega)⟩

/-- Sorting comes to one list, in whatever order the states stood. -/
theorem sorted_unique {r : St → St → Bool} (hanti : ∀ a b, r a b = true → r b a = true → a = b) : ∀ {l1 l2 : List St}, l1.Perm l2 → l1.Pairwise (fun a b => r a b = true) → l2.Pairwise (fun a b => r a b = true) → l1 = l2
  | [], l2, hp, _, _ => by simpa using hp.symm
  | x :: l1, [], hp, _, _ => by simp at hp
  | x :: l1, y :: l2, hp, h1, h2 => by
    rw [List.pairwise_cons] at h1 h2
    have hxy : x = y := by
      have hx : x ∈ y :: l2 := hp.mem_iff.1 (by simp)
      have hy : y ∈ x :: l1 := hp.mem_iff.2 (by simp)
      rcases List.mem_cons.1 hx with e | hx
      · exact e
      · rcases List.mem_cons.1 hy with e | hy
        · exact e.symm
        · exact hanti _ _ (h1.1 y hy) (h2.1 x hx)
    subst hxy
    rw [sorted_unique hanti hp.cons_inv h1.2 h2.2]
theorem sortL_tr (a b c : St) (h1 : (!ltOf cmpS b a) = true) (h2 : (!ltOf cmpS c b) = true) : (!ltOf cmpS c a) = true := by
  have := swoS.ntrans c b a (by simpa using h2) (by simpa using h1)
  simpa using this
theorem sortL_tot (a b : St) : ((!ltOf cmpS b a) || (!ltOf cmpS a b)) = true := by
  cases h : ltOf cmpS b a
  · rfl
  · cases h2 : ltOf cmpS a b
    · rfl
    · have := swoS.trans _ _ _ h h2
      rw [swoS.irrefl] at this
      cases this
theorem sortL_sorted (L : List St) : (sortL L).Pairwise (fun a b => (!ltOf cmpS b a) = true) := List.pairwise_mergeSort sortL_tr sortL_tot _
theorem sortL_perm {L L' : List St} (h : L.Perm L') : sortL L = sortL L' :=
  sorted_unique (r := fun x y => !ltOf cmpS y x) (fun a b h1 h2 => ltS_total a b (by simpa using h2) (by simpa using h1)) (((List.mergeSort_perm _ _).trans h).trans (List.mergeSort_perm _ _).symm) (sortL_sorted _) (sortL_sorted _)
theorem sortL_mem {L : List St} {t : St} : t ∈ sortL L ↔ t ∈ L := (List.mergeSort_perm _ _).mem_iff
theorem sortL_length (L : List St) : (sortL L).length = L.length := by simp [sortL]

/-- What is told of the states of a list. -/
def worthOf (m : Wk) (s : St) : Wo := ⟨s.y, thicks m s, valS m s⟩
def worths (m : Wk) (L : List St) : List Wo := (L.filter fun s => decide (s.y < m.years)).map (worthOf m)
theorem worths_in {m : Wk} {L : List St} {k : Nat} {s : St} (h : L[k]? = some s) (hy : s.y < m.years) : worths m (L.take (k + 1)) = worths m (L.take k) ++ [worthOf m s] := by
  unfold worths
  rw [List.take_add_one, h]
  simp [hy]
theorem worths_out {m : Wk} {L : List St} {k : Nat} {s : St} (h : L[k]? = some s) (hy : ¬ s.y < m.years) : worths m (L.take (k + 1)) = worths m (L.take k) := by
  unfold worths
  rw [List.take_add_one, h]
  simp [hy]
theorem worths_le (m : Wk) (L : List St) : (worths m L).length ≤ L.length := by
  unfold worths
  rw [List.length_map]
  exact List.length_filter_le _ _
def valuesS (m : Wk) : List Wo × Int :=
  if checkS m = 0 then (if 2000 < (allS m (firstS m)).length then ([], 3) else (worths m (sortL (allS m (firstS m))), 0)) else ([], checkS m)
end Go.Proofs.YtcbhldfipfcjaaaGreatDoor
