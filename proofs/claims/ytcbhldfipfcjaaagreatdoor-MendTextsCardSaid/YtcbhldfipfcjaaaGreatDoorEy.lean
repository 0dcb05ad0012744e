/- The changed copy of works, in memory. -/
import Derived.Test.YtcbhldfipfcjaaaGreatDoorCo
import Derived.Test.YtcbhldfipfcjaaaGreatDoorPn

namespace Go.Proofs.YtcbhldfipfcjaaaGreatDoor
open Go Go.RowKit Go.Shelf
set_option maxRecDepth 100000

theorem own_setG {w : World} {B k c n size : Nat} {t : TypeId} {xs : List Value} (h : w.ownsRow B t size (.slice (some ⟨k, 0, none⟩) n c) n xs) (s : Nat) (u : Value) :
    (w.setCell ⟨k, s, none⟩ u).ownsRow B t size (.slice (some ⟨k, 0, none⟩) n c) n (xs.set s u) := by
  have hl := h.1
  rcases h.2 with ⟨h1, _⟩ | ⟨g, cap, cur, hv, hB, hh, hc, hm, hsz, ht⟩
  · cases h1
  · cases hv
    refine ⟨by simpa using hl, .inr ⟨k, c, cur.setIfInBounds s u, rfl, hB, heap_set hh s _, hc, hm, by simpa using hsz, ?_⟩⟩
    rw [Array.toList_setIfInBounds, ← ht, List.take_set]
/-- What stands in an owned row's block. -/
theorem own_cells {w : World} {B k c n size : Nat} {t : TypeId} {xs : List Value} (h : w.ownsRow B t size (.slice (some ⟨k, 0, none⟩) n c) n xs) : ∀ j u, xs[j]? = some u → w.cell? ⟨k, j, none⟩ = some u := by
  intro j u hj
  rcases h.2 with ⟨h1, _⟩ | ⟨g, cap, cur, hv, hB, hh, hc, hm, hsz, ht⟩
  · cases h1
  · cases hv
    have hjl := (List.getElem?_eq_some_iff.1 hj).1
    rw [h.1] at hjl
    rw [cell_blk hh]
    rw [← ht, List.getElem?_take, if_pos hjl, Array.getElem?_toList] at hj
    exact hj
theorem own_frozen {w : World} {B k c n size : Nat} {t : TypeId} {xs : List Value} (h : w.ownsRow B t size (.slice (some ⟨k, 0, none⟩) n c) n xs) (i : Nat) : w.frozen? ⟨k, i, none⟩ = false := by
  obtain ⟨cur, hc⟩ := own_type h k rfl
  exact frozen_blk hc i
theorem own_slopesAt {w : World} {B : Nat} {v : Value} {ss : List Slope} (h : OwnSl w B v ss) (hl : ss.length ≤ 9223372036854775807) (hT : ∀ s ∈ ss, s.takes.length ≤ 9223372036854775807) : SlopesAt w w.heap.size v ss := by
  obtain ⟨us, ks, h1, h2, h3, h4, h5⟩ := h
  rcases id h4.2 with ⟨e, h0⟩ | ⟨g, cap, cur, e, hB, hh, hc, hm, hsz, ht⟩
  · subst e
    exact ⟨none, 0, by rw [h0], hl, fun hne => absurd (List.eq_nil_of_length_eq_zero h0) hne⟩
  · subst e
    refine ⟨some ⟨g, 0, none⟩, cap, rfl, hl, fun hne => ⟨g, 0, rfl, lt_blk hh, fun i s hs => ?_⟩⟩
    obtain ⟨k, c, e1, e2, e3⟩ := h5 i s hs
    obtain ⟨c0, c1, c2, c3, c4⟩ := cellsSl_at ss us i hs e2
    have hat := own_cells h4
    refine ⟨_, ⟨some ⟨k, 0, none⟩, c, rfl, by simpa using hT s (List.mem_of_getElem? hs), fun _ => ⟨k, 0, rfl, (own_blk_lt e3 k rfl).2, fun j u hu => ?_⟩⟩, ?_, ?_, ?_, ?_, ?_⟩
    · rw [Nat.zero_add]; exact own_cells e3 j u hu
    all_goals rw [Nat.zero_add]
    · exact hat _ _ c0
    · exact hat _ _ c1
    · exact hat _ _ c2
    · exact hat _ _ c3
    · exact hat _ _ c4
theorem own_craftsAt {w : World} {B : Nat} {v : Value} {cs : List Craft} (h : w.ownsRow B 67 3 v cs.length (cellsC cs)) (hl : cs.length ≤ 9223372036854775807) : CraftsAt w w.heap.size v cs := by
  rcases id h.2 with ⟨e, h0⟩ | ⟨g, cap, cur, e, hB, hh, hc, hm, hsz, ht⟩
  · subst e
    exact ⟨none, 0, by rw [h0], hl, fun hne => absurd (List.eq_nil_of_length_eq_zero h0) hne⟩
  · subst e
    refine ⟨some ⟨g, 0, none⟩, cap, rfl, hl, fun hne => ⟨g, 0, rfl, lt_blk hh, fun i s hs => ?_⟩⟩
    obtain ⟨c0, c1, c2⟩ := cellsC_at hs
    have hat := own_cells h
    simp only [Nat.zero_add]
    exact ⟨hat _ _ c0, hat _ _ c1, hat _ _ c2⟩
/-- What is known of one slope in a list of one's own. -/
structure SlAt (w : World) (b : Nat) (i : Nat) (x : Slope) (k c : Nat) : Prop where
  now : w.cell? ⟨b, i * 5, none⟩ = some (.int .i64 x.now)
  need : w.cell? ⟨b, i * 5 + 1, none⟩ = some (.int .i64 x.need)
  full : w.cell? ⟨b, i * 5 + 2, none⟩ = some (.int .i64 x.full)
  size : w.cell? ⟨b, i * 5 + 3, none⟩ = some (.int .i64 x.size)
  takes : w.cell? ⟨b, i * 5 + 4, none⟩ = some (.slice (some ⟨k, 0, none⟩) x.takes.length c)
  fr : ∀ j, w.frozen? ⟨b, j, none⟩ = false
  frk : ∀ j, w.frozen? ⟨k, j, none⟩ = false
  each : ∀ (j : Nat) (t : Int), x.takes[j]? = some t → w.cell? ⟨k, j, none⟩ = some (.int .i64 t)
  ne : k ≠ b
  blk : ∃ cur, w.heap[k]? = some (.cells cur 3 (0, 0))
theorem OwnSl.form {w : World} {B : Nat} {v : Value} {ss : List Slope} (h : OwnSl w B v ss) {i : Nat} {x : Slope} (hx : ss[i]? = some x) : ∃ b cc k c, v = .slice (some ⟨b, 0, none⟩) ss.length cc ∧ B ≤ b ∧ B ≤ k ∧ b < w.heap.size ∧ k < w.heap.size ∧ SlAt w b i x k c := by
  obtain ⟨us, ks, h1, h2, h3, h4, h5⟩ := h
  have hil := (List.getElem?_eq_some_iff.1 hx).1
  obtain ⟨k, c, e1, e2, e3⟩ := h5 i x hx
  obtain ⟨b, cc, rfl, hB, hlt⟩ := h4.form (by omega)
  obtain ⟨c0, c1, c2, c3, c4⟩ := cellsSl_at ss us i hx e2
  have hat := own_cells h4
  have hkb := own_blk_lt e3 k rfl
  refine ⟨b, cc, k, c, rfl, hB, hkb.1, hlt, hkb.2, hat _ _ c0, hat _ _ c1, hat _ _ c2, hat _ _ c3, hat _ _ c4, own_frozen h4, own_frozen e3, fun j t ht => own_cells e3 j _ (by rw [List.getElem?_map, ht]; rfl), fun e => ?_, own_type e3 _ rfl⟩
  subst e
  obtain ⟨q1, hq1⟩ := own_type h4 _ rfl
  obtain ⟨q2, hq2⟩ := own_type e3 _ rfl
  rw [hq1] at hq2
  simp at hq2
theorem cellsSl_set {x' : Slope} {u : Value} : ∀ (ss : List Slope) (us : List Value) (i : Nat) (x : Slope), ss[i]? = some x → us[i]? = some u → us.length = ss.length → ∀ (f : Nat) (n : Value), f < 5 →
    [Value.int .i64 x.now, .int .i64 x.need, .int .i64 x.full, .int .i64 x.size, u].set f n = [Value.int .i64 x'.now, .int .i64 x'.need, .int .i64 x'.full, .int .i64 x'.size, u] →
    cellsSl (ss.set i x') us = (cellsSl ss us).set (i * 5 + f) n
  | [], _, i, x, h, _, _, _, _, _, _ => by simp at h
  | y :: ss, [], i, x, _, h, _, _, _, _, _ => by simp at h
  | y :: ss, v :: us, 0, x, h, k, _, f, n, hf, hs => by
    simp at h k
    subst h; subst k
    simp only [List.set_cons_zero, cellsSl]
    have e : ∀ (L M : List Value) (t : List Value), f < L.length → L.set f n = M → M ++ t = (L ++ t).set (0 * 5 + f) n := by
      intro L M t hfl hL
      rw [Nat.zero_mul, Nat.zero_add, ← hL, List.set_append, if_pos hfl]
    exact e _ _ _ (by simpa using hf) hs
  | y :: ss, v :: us, i + 1, x, h, k, hl, f, n, hf, hs => by
    have ih := cellsSl_set (x' := x') (u := u) ss us i x (by simpa using h) (by simpa using k) (by simpa using hl) f n hf hs
    simp only [List.set_cons_succ, cellsSl, ih]
    rw [show (i + 1) * 5 + f = (((((i * 5 + f) + 1) + 1) + 1) + 1) + 1 by omega]
    simp only [List.set_cons_succ]
/-- One field of one slope, stored. -/
theorem OwnSl.setF {w : World} {B b cc i f : Nat} {ss : List Slope} {x x' : Slope} {n : Value} (h : OwnSl w B (.slice (some ⟨b, 0, none⟩) ss.length cc) ss) (hx : ss[i]? = some x) (hf : f < 5) (ht : x'.takes = x.takes)
    (hs : ∀ u, [Value.int .i64 x.now, .int .i64 x.need, .int .i64 x.full, .int .i64 x.size, u].set f n = [Value.int .i64 x'.now, .int .i64 x'.need, .int .i64 x'.full, .int .i64 x'.size, u]) :
    OwnSl (w.setCell ⟨b, i * 5 + f, none⟩ n) B (.slice (some ⟨b, 0, none⟩) ss.length cc) (ss.set i x') := by
  obtain ⟨us, ks, h1, h2, h3, h4, h5⟩ := h
  have hil := (List.getElem?_eq_some_iff.1 hx).1
  obtain ⟨k, c, e1, e2, e3⟩ := h5 i x hx
  refine ⟨us, ks, by simpa using h1, by simpa using h2, h3, ?_, fun j s hj => ?_⟩
  · rw [List.length_set, cellsSl_set ss us i x hx e2 h1 f n hf (hs _)]
    exact own_setG h4 _ _
  · have key : ∀ (k c n0 : Nat) (xs : List Value), w.ownsRow B 3 1 (.slice (some ⟨k, 0, none⟩) n0 c) n0 xs → (w.setCell ⟨b, i * 5 + f, none⟩ n).ownsRow B 3 1 (.slice (some ⟨k, 0, none⟩) n0 c) n0 xs := fun k c n0 xs hk =>
      own_kept hk fun k' e => Below.heap_setCell _ _ _ _ (fun e' => by
        change k' = b at e'
        subst e'
        obtain ⟨q1, hq1⟩ := own_type h4 _ rfl
        obtain ⟨q2, hq2⟩ := own_type hk _ e
        rw [hq1] at hq2
        simp at hq2)
    rw [List.getElem?_set] at hj
    by_cases hij : i = j
    · subst hij
      rw [if_pos rfl, if_pos hil] at hj
      have : x' = s := by simpa using hj
      subst this
      rw [ht]
      exact ⟨k, c, e1, e2, key _ _ _ _ e3⟩
    · rw [if_neg hij] at hj
      obtain ⟨k', c', e4, e5, e6⟩ := h5 j s hj
      exact ⟨k', c', e4, e5, key _ _ _ _ e6⟩
theorem cellsSl_same {x x' : Slope} (h0 : x'.now = x.now) (h1 : x'.need = x.need) (h2 : x'.full = x.full) (h3 : x'.size = x.size) : ∀ (ss : List Slope) (us : List Value) (i : Nat), ss[i]? = some x → cellsSl (ss.set i x') us = cellsSl ss us
  | [], _, i, h => by simp at h
  | y :: ss, [], 0, h => rfl
  | y :: ss, [], i + 1, h => rfl
  | y :: ss, v :: us, 0, h => by
    simp at h
    subst h
    simp only [List.set_cons_zero, cellsSl, h0, h1, h2, h3]
  | y :: ss, v :: us, i + 1, h => by
    have ih := cellsSl_same h0 h1 h2 h3 ss us i (by simpa using h)
    simp only [List.set_cons_succ, cellsSl, ih]
/-- One of a slope's takes, stored. -/
theorem OwnSl.setT {w : World} {B b cc i k c : Nat} {ss : List Slope} {x : Slope} (h : OwnSl w B (.slice (some ⟨b, 0, none⟩) ss.length cc) ss) (hx : ss[i]? = some x) (ha : SlAt w b i x k c) (j : Nat) (t : Int) :
    OwnSl (w.setCell ⟨k, j, none⟩ (.int .i64 t)) B (.slice (some ⟨b, 0, none⟩) ss.length cc) (ss.set i { x with takes := x.takes.set j t }) := by
  obtain ⟨us, ks, h1, h2, h3, h4, h5⟩ := h
  have hil := (List.getElem?_eq_some_iff.1 hx).1
  obtain ⟨k1, c1, e1, e2, e3⟩ := h5 i x hx
  obtain ⟨_, _, _, _, d4⟩ := cellsSl_at ss us i hx e2
  have d5 := (own_cells h4 _ _ d4).symm.trans ha.takes
  simp at d5
  obtain ⟨rfl, rfl⟩ := d5
  refine ⟨us, ks, by simpa using h1, by simpa using h2, h3, ?_, fun j' s hj => ?_⟩
  · rw [List.length_set, cellsSl_same (x := x) (x' := { x with takes := x.takes.set j t }) rfl rfl rfl rfl ss us i hx]
    exact own_kept h4 fun k' e => Below.heap_setCell _ _ _ _ (fun e' => by
      change k' = k1 at e'
      have : b = k' := by simpa [Value.ownBlock] using e
      exact ha.ne (by omega))
  · rw [List.getElem?_set] at hj
    by_cases hij : i = j'
    · subst hij
      rw [if_pos rfl, if_pos hil] at hj
      have : { x with takes := x.takes.set j t } = s := by simpa using hj
      subst this
      refine ⟨k1, c1, e1, by simpa using e2, ?_⟩
      simp only [List.length_set]
      exact own_set e3 t
    · rw [if_neg hij] at hj
      obtain ⟨k', c', e4, e5, e6⟩ := h5 j' s hj
      refine ⟨k', c', e4, e5, own_kept e6 fun k2 hk2 => Below.heap_setCell _ _ _ _ (fun e => ?_)⟩
      have e7 : k' = k2 := by simpa [Value.ownBlock] using hk2
      subst e7
      change k' = k1 at e
      subst e
      have hjl := (List.getElem?_eq_some_iff.1 e4).1
      have hib := (List.getElem?_eq_some_iff.1 e1).1
      have h11 := (List.getElem?_eq_some_iff.1 e4).2
      have h12 := (List.getElem?_eq_some_iff.1 e1).2
      have hp := List.pairwise_iff_getElem.1 h3
      rcases Nat.lt_or_gt_of_ne hij with hlt | hlt
      · exact hp i j' hib hjl hlt (h12.trans h11.symm)
      · exact hp j' i hjl hib hlt (h11.trans h12.symm)
/-- The takes, the first ones turned. -/
def milderTo (x : Slope) (n : Int) (j : Nat) : Slope := { x with takes := (x.takes.take j).map (fun t => max (t - n) 0) ++ x.takes.drop j }
theorem milderTo_zero (x : Slope) (n : Int) : milderTo x n 0 = x := by simp [milderTo]
theorem milderTo_all (x : Slope) (n : Int) : milderTo x n x.takes.length = milder x n := by simp [milderTo, milder]
theorem milderTo_len (x : Slope) (n : Int) (j : Nat) : (milderTo x n j).takes.length = x.takes.length := by
  simp only [milderTo, List.length_append, List.length_map, List.length_take, List.length_drop]; omega
theorem milderTo_at {x : Slope} {n : Int} {j : Nat} (h : j < x.takes.length) : (milderTo x n j).takes[j]? = some x.takes[j] := by
  simp only [milderTo]
  rw [List.getElem?_append_right (by rw [List.length_map, List.length_take]; omega), List.length_map, List.length_take, Nat.min_eq_left (Nat.le_of_lt h), Nat.sub_self, List.getElem?_drop, Nat.add_zero]
  exact List.getElem?_eq_getElem h
theorem milderTo_succ {x : Slope} {n : Int} {j : Nat} (h : j < x.takes.length) : { milderTo x n j with takes := (milderTo x n j).takes.set j (max (x.takes[j] - n) 0) } = milderTo x n (j + 1) := by
  simp only [milderTo, Slope.mk.injEq, true_and]
  have h1 : ((x.takes.take j).map (fun t => max (t - n) 0)).length = j := by rw [List.length_map, List.length_take]; omega
  rw [List.set_append, if_neg (by omega), h1, Nat.sub_self, List.take_succ_eq_append_getElem h, List.map_append, List.append_assoc]
  congr 1
  rw [List.drop_eq_getElem_cons h]
  rfl
end Go.Proofs.YtcbhldfipfcjaaaGreatDoor
