/- Late: plainly; slices of rows of one's own, each in a block of its own. -/
import Derived.Test.YtcbhldfipfcjaaaGreatDoorVs

namespace Go.Proofs.YtcbhldfipfcjaaaGreatDoor
open Go Go.RowKit Go.Shelf
set_option maxRecDepth 100000

def cellP (plan : List (List Int)) (y s : Nat) : Int := (plan.getD y []).getD s 0
/-- What is done at a slope in one year, put off to another. -/
def movedS (plan : List (List Int)) (y yr s : Nat) : List (List Int) :=
  (plan.set y ((plan.getD y []).set s (cellP plan yr s))).set yr ((plan.getD yr []).set s (-1))
def goodY (m : Wk) (plan : List (List Int)) (yr s y : Nat) : Bool :=
  decide (cellP plan y s < 0) && decide ((followS m (movedS plan y yr s)).2.2.2 = 0) && decide ((followS m (movedS plan y yr s)).2.2.1 = -1)
def lateTo (good : Nat → Bool) (yr : Nat) : Nat → Nat
  | 0 => yr
  | d + 1 => if good (yr + d + 1) then yr + d + 1 else lateTo good yr d
def lateS (m : Wk) (plan : List (List Int)) (year slope : Int) : Int × Int :=
  if (followS m plan).2.2.2 = 0 then
    if outB year 0 (m.years - 1) || outB slope 0 ((m.slopes.length : Int) - 1) || decide (cellP plan year.toNat slope.toNat < 0) then (0, 7)
    else if (followS m plan).2.2.1 = -1 then ((lateTo (goodY m plan year.toNat slope.toNat) year.toNat (m.years.toNat - 1 - year.toNat) : Nat), 0) else (0, 8)
  else (0, (followS m plan).2.2.2)
theorem movedS_length (plan : List (List Int)) (y yr s : Nat) : (movedS plan y yr s).length = plan.length := by simp [movedS]

theorem getD_le {plan : List (List Int)} {n : Nat} (h : ∀ xs ∈ plan, xs.length ≤ n) (y : Nat) : (plan.getD y []).length ≤ n := by
  rcases Nat.lt_or_ge y plan.length with hy | hy
  · rw [getD_lt hy]; exact h _ (List.getElem_mem hy)
  · rw [List.getD_eq_getElem?_getD, List.getElem?_eq_none hy]; simp
theorem movedS_rows {plan : List (List Int)} {n : Nat} (h : ∀ xs ∈ plan, xs.length ≤ n) (y yr s : Nat) : ∀ xs ∈ movedS plan y yr s, xs.length ≤ n := by
  intro xs hx
  unfold movedS at hx
  rcases List.mem_or_eq_of_mem_set hx with h1 | h1
  · rcases List.mem_or_eq_of_mem_set h1 with h2 | h2
    · exact h xs h2
    · rw [h2, List.length_set]; exact getD_le h y
  · rw [h1, List.length_set]; exact getD_le h yr

/-- As OwnRows; each row lies in a block of its own. -/
def OwnD (w : World) (B : Nat) (v : Value) (xss : List (List Int)) : Prop := ∃ (vs : List Value) (bs : List Nat), w.ownsRow B 35 1 v xss.length vs ∧ bs.length = xss.length ∧ bs.Nodup ∧
  ∀ (i : Nat) (xs : List Int), xss[i]? = some xs → ∃ k c, bs[i]? = some k ∧ vs[i]? = some (.slice (some ⟨k, 0, none⟩) xs.length c) ∧ w.ownsRow B 3 1 (.slice (some ⟨k, 0, none⟩) xs.length c) xs.length (xs.map (Value.int .i64))
theorem OwnD.nil (w : World) (B : Nat) : OwnD w B (.slice none 0 0) [] := ⟨[], [], ⟨rfl, .inl ⟨rfl, rfl⟩⟩, rfl, List.nodup_nil, fun i xs h => by simp at h⟩
theorem OwnD.rows {w : World} {B : Nat} {v : Value} {xss : List (List Int)} (h : OwnD w B v xss) (hl : xss.length ≤ 1000000) (hx : ∀ xs ∈ xss, xs.length ≤ 1000000) : RowsAt w w.heap.size v xss := by
  obtain ⟨vs, bs, h1, _, _, h2⟩ := h
  exact OwnRows.rows ⟨vs, h1, fun i xs hi => by obtain ⟨k, c, _, h3, h4⟩ := h2 i xs hi; exact ⟨_, h3, h4⟩⟩ hl hx
theorem OwnD.below {w w' : World} {B : Nat} {v : Value} {xss : List (List Int)} (h : OwnD w B v xss) (hb : Below w.heap.size w w') : OwnD w' B v xss := by
  obtain ⟨vs, bs, h1, h2, h3, h4⟩ := h
  refine ⟨vs, bs, own_below h1 hb (fun k hk => (own_blk_lt h1 k hk).2), h2, h3, fun i xs hi => ?_⟩
  obtain ⟨k, c, h5, h6, h7⟩ := h4 i xs hi
  exact ⟨k, c, h5, h6, own_below h7 hb (fun k hk => (own_blk_lt h7 k hk).2)⟩
theorem OwnD.snoc {W0 W w1 : World} {B : Nat} {v v1 : Value} {xss : List (List Int)} {vs : List Value} {bs : List Nat} {u : Value} {xs : List Int} (hne : xs ≠ [])
    (h1 : W.ownsRow B 35 1 v xss.length vs) (hb : bs.length = xss.length) (hn : bs.Nodup) (hlo : ∀ k ∈ bs, k < W0.heap.size)
    (h2 : ∀ (i : Nat) (xs : List Int), xss[i]? = some xs → ∃ k c, bs[i]? = some k ∧ vs[i]? = some (.slice (some ⟨k, 0, none⟩) xs.length c) ∧ W.ownsRow B 3 1 (.slice (some ⟨k, 0, none⟩) xs.length c) xs.length (xs.map (Value.int .i64)))
    (hu : W.ownsRow W0.heap.size 3 1 u xs.length (xs.map (Value.int .i64))) (hB : B ≤ W0.heap.size) (hown : w1.ownsRow B 35 1 v1 (xss.length + 1) (vs ++ [u])) (hg : W.grownBy w1 v.ownBlock) : OwnD w1 B v1 (xss ++ [xs]) := by
  have key : ∀ {u : Value} {xs : List Int}, W.ownsRow B 3 1 u xs.length (xs.map (Value.int .i64)) → w1.ownsRow B 3 1 u xs.length (xs.map (Value.int .i64)) := fun {u xs} hu =>
    own_kept hu fun k hk => by
      obtain ⟨cur, hc⟩ := own_type hu k hk
      refine hg.block k (own_blk_lt hu k hk).2 (fun e => ?_)
      obtain ⟨cur2, hc2⟩ := own_type h1 k e.symm
      rw [hc] at hc2
      simp at hc2
  have hvl : vs.length = xss.length := by have := h1.1; simpa using this
  have hu' := own_mono hu hB
  rcases id hu.2 with ⟨_, h0⟩ | ⟨g, cap, cur, hue, hgB, _⟩
  · exact absurd (List.length_eq_zero_iff.1 h0) hne
  · subst hue
    refine ⟨vs ++ [_], bs ++ [g], by rw [List.length_append]; exact hown, by simp [hb], List.nodup_append.2 ⟨hn, by simp, fun a ha b hb2 => by have := hlo a ha; simp at hb2; omega⟩, fun i ys hy => ?_⟩
    by_cases hi : i < xss.length
    · rw [List.getElem?_append_left hi] at hy
      obtain ⟨k, c, h3, h4, h5⟩ := h2 i ys hy
      exact ⟨k, c, by rw [List.getElem?_append_left (by omega)]; exact h3, by rw [List.getElem?_append_left (by omega)]; exact h4, key h5⟩
    · rw [List.getElem?_append_right (by omega)] at hy
      have hz : i - xss.length = 0 := by
        have := (List.getElem?_eq_some_iff.1 hy).1
        simp at this; omega
      rw [hz] at hy
      have : xs = ys := by simpa using hy
      subst this
      exact ⟨g, cap, by rw [List.getElem?_append_right (by omega), hb, hz]; rfl, by rw [List.getElem?_append_right (by omega), hvl, hz]; rfl, key hu'⟩
/-- One cell of one row, stored. -/
theorem own_set {w : World} {B k c n : Nat} {xs : List Int} (h : w.ownsRow B 3 1 (.slice (some ⟨k, 0, none⟩) n c) n (xs.map (Value.int .i64))) {s : Nat} (x : Int) :
    (w.setCell ⟨k, s, none⟩ (.int .i64 x)).ownsRow B 3 1 (.slice (some ⟨k, 0, none⟩) n c) n ((xs.set s x).map (Value.int .i64)) := by
  have hl := h.1
  rcases h.2 with ⟨h1, _⟩ | ⟨g, cap, cur, hv, hB, hh, hc, hm, hsz, ht⟩
  · cases h1
  · cases hv
    refine ⟨by simpa using hl, .inr ⟨k, c, cur.setIfInBounds s (.int .i64 x), rfl, hB, heap_set hh s _, hc, hm, by simpa using hsz, ?_⟩⟩
    have hxl : xs.length = n := by simpa using hl
    rw [Array.toList_setIfInBounds, List.map_set, ← ht, List.take_set]
theorem OwnD.set {w : World} {B : Nat} {v : Value} {xss : List (List Int)} (h : OwnD w B v xss) {i : Nat} {xs : List Int} (hi : xss[i]? = some xs) {s : Nat} (hs : s < xs.length) (x : Int) :
    ∃ k c b o n cc, v = .slice (some ⟨b, o, none⟩) n cc ∧ w.cell? ⟨b, o + i, none⟩ = some (.slice (some ⟨k, 0, none⟩) xs.length c) ∧ b ≠ k ∧ B ≤ k ∧ k < w.heap.size ∧ OwnD (w.setCell ⟨k, s, none⟩ (.int .i64 x)) B v (xss.set i (xs.set s x)) := by
  obtain ⟨vs, bs, h1, h2, h3, h4⟩ := h
  obtain ⟨k, c, h5, h6, h7⟩ := h4 i xs hi
  have hil := (List.getElem?_eq_some_iff.1 hi).1
  obtain ⟨cur7, hc7⟩ := own_type h7 k rfl
  have hb7 := own_blk_lt h7 k rfl
  rcases id h1.2 with ⟨_, h0⟩ | ⟨g, cap, cur, rfl, hB, hh, hc, hm, hsz, ht⟩
  · omega
  · have hgk : g ≠ k := fun e => by rw [e, hc7] at hh; simp at hh
    refine ⟨k, c, g, 0, _, cap, rfl, ?_, hgk, hb7.1, hb7.2, vs, bs, ?_, by simpa using h2, h3, fun j ys hj => ?_⟩
    · rw [cell_blk hh, Nat.zero_add]
      rw [← ht, List.getElem?_take, if_pos (by omega), Array.getElem?_toList] at h6
      exact h6
    · rw [List.length_set]
      exact own_kept h1 fun k' hk' => Below.heap_setCell _ _ _ _ (by
        have : g = k' := by simpa [Value.ownBlock] using hk'
        show k' ≠ k
        omega)
    · rw [List.getElem?_set] at hj
      by_cases hij : i = j
      · subst hij
        rw [if_pos rfl, if_pos hil] at hj
        have : xs.set s x = ys := by simpa using hj
        subst this
        refine ⟨k, c, h5, by rw [List.length_set]; exact h6, ?_⟩
        have := own_set h7 (s := s) x
        rw [List.length_set]; exact this
      · rw [if_neg hij] at hj
        obtain ⟨k', c', h8, h9, h10⟩ := h4 j ys hj
        refine ⟨k', c', h8, h9, own_kept h10 fun k2 hk2 => Below.heap_setCell _ _ _ _ (by
          have e : k' = k2 := by simpa [Value.ownBlock] using hk2
          subst e
          intro e
          change k' = k at e
          have hjl := (List.getElem?_eq_some_iff.1 h8).1
          have hib := (List.getElem?_eq_some_iff.1 h5).1
          have h11 := (List.getElem?_eq_some_iff.1 h8).2
          have h12 := (List.getElem?_eq_some_iff.1 h5).2
          have hp := List.pairwise_iff_getElem.1 h3
          rcases Nat.lt_or_gt_of_ne hij with hlt | hlt
          · exact hp i j hib hjl hlt (h12.trans (e.symm.trans h11.symm))
          · exact hp j i hjl hib hlt (h11.trans (e.trans h12.symm)))⟩
theorem OwnD.one {w : World} {B : Nat} {v : Value} {xss : List (List Int)} (h : OwnD w B v xss) {i : Nat} {xs : List Int} (hi : xss[i]? = some xs) :
    ∃ k c b cc cur, v = .slice (some ⟨b, 0, none⟩) xss.length cc ∧ w.cell? ⟨b, i, none⟩ = some (.slice (some ⟨k, 0, none⟩) xs.length c) ∧ w.frozen? ⟨b, i, none⟩ = false ∧ B ≤ k ∧ w.heap[k]? = some (.cells cur 3 (0, 0)) ∧ (∀ (j : Nat) (x : Int), xs[j]? = some x → cur[j]? = some (.int .i64 x)) ∧
      ∃ cb, w.heap[b]? = some (.cells cb 35 (0, 0)) := by
  obtain ⟨vs, bs, h1, h2, h3, h4⟩ := h
  obtain ⟨k, c, h5, h6, h7⟩ := h4 i xs hi
  have hil := (List.getElem?_eq_some_iff.1 hi).1
  rcases id h1.2 with ⟨_, h0⟩ | ⟨g, cap, cur, rfl, hB, hh, hc, hm, hsz, ht⟩
  · omega
  · rcases id h7.2 with ⟨h8, _⟩ | ⟨g', cap', cur', hv, hB', hh', hc', hm', hsz', ht'⟩
    · cases h8
    · cases hv
      refine ⟨k, c, g, cap, cur', rfl, ?_, frozen_blk hh _, hB', hh', fun j x hj => ?_, cur, hh⟩
      · rw [cell_blk hh]
        rw [← ht, List.getElem?_take, if_pos (by omega), Array.getElem?_toList] at h6
        exact h6
      · have hjl := (List.getElem?_eq_some_iff.1 hj).1
        have : (xs.map (Value.int .i64))[j]? = some (.int .i64 x) := by rw [List.getElem?_map, hj]; rfl
        rw [← ht', List.getElem?_take, if_pos (by omega), Array.getElem?_toList] at this
        exact this
theorem OwnD.apart {w : World} {B : Nat} {v : Value} {xss : List (List Int)} (h : OwnD w B v xss) {i j : Nat} (hij : i ≠ j) {xs ys : List Int} (hi : xss[i]? = some xs) (hj : xss[j]? = some ys) {b cc k1 k2 n1 n2 c1 c2 : Nat} (hv : v = .slice (some ⟨b, 0, none⟩) xss.length cc)
    (e1 : w.cell? ⟨b, i, none⟩ = some (.slice (some ⟨k1, 0, none⟩) n1 c1)) (e2 : w.cell? ⟨b, j, none⟩ = some (.slice (some ⟨k2, 0, none⟩) n2 c2)) : k1 ≠ k2 := by
  obtain ⟨vs, bs, h1, h2, h3, h4⟩ := h
  obtain ⟨k, c, h5, h6, _⟩ := h4 i xs hi
  obtain ⟨k', c', h8, h9, _⟩ := h4 j ys hj
  have hil := (List.getElem?_eq_some_iff.1 hi).1
  have hjl' := (List.getElem?_eq_some_iff.1 hj).1
  rcases id h1.2 with ⟨_, h0⟩ | ⟨g, cap, cur, e, hB, hh, hc, hm, hsz, ht⟩
  · omega
  · rw [hv] at e
    cases e
    rw [← ht, List.getElem?_take, if_pos (by omega), Array.getElem?_toList] at h6 h9
    rw [cell_blk hh, h6] at e1
    rw [cell_blk hh, h9] at e2
    simp at e1 e2
    have hjl := (List.getElem?_eq_some_iff.1 h8).1
    have hib := (List.getElem?_eq_some_iff.1 h5).1
    have h11 := (List.getElem?_eq_some_iff.1 h8).2
    have h12 := (List.getElem?_eq_some_iff.1 h5).2
    have hp := List.pairwise_iff_getElem.1 h3
    intro e3
    have e4 : k = k' := by rw [e1.1, e2.1, e3]
    rcases Nat.lt_or_gt_of_ne hij with hlt | hlt
    · exact hp i j hib hjl hlt (h12.trans (e4.trans h11.symm))
    · exact hp j i hjl hib hlt (h11.trans (e4.symm.trans h12.symm))
theorem OwnD.setAt {w : World} {B : Nat} {v : Value} {xss : List (List Int)} (h : OwnD w B v xss) {i : Nat} {xs : List Int} (hi : xss[i]? = some xs) {b cc k n1 c : Nat} (hv : v = .slice (some ⟨b, 0, none⟩) xss.length cc)
    (hc : w.cell? ⟨b, i, none⟩ = some (.slice (some ⟨k, 0, none⟩) n1 c)) {s : Nat} (hs : s < xs.length) (x : Int) : OwnD (w.setCell ⟨k, s, none⟩ (.int .i64 x)) B v (xss.set i (xs.set s x)) := by
  obtain ⟨k', c', b', o', n', cc', e1, e2, _, _, _, e3⟩ := h.set hi hs x
  obtain ⟨k2, c2, b2, cc2, _, e4, e5, _⟩ := h.one hi
  rw [hv] at e1 e4
  cases e4
  simp only [Value.slice.injEq, Option.some.injEq, Addr.mk.injEq] at e1
  obtain ⟨⟨rfl, rfl, _⟩, _⟩ := e1
  rw [Nat.zero_add, hc] at e2
  simp at e2
  rw [e2.1]; exact e3
/-- A store to one place of one row, once or again. -/
structure CellR (k : Nat) (c0 c1 : Obj) (w w' : World) : Prop where
  bel : Bel (fun j => j = k) w w'
  one : w.heap[k]? = some c0 → w'.heap[k]? = some c0 ∨ w'.heap[k]? = some c1
  two : w.heap[k]? = some c1 → w'.heap[k]? = some c1
theorem CellR.refl (k : Nat) (c0 c1 : Obj) (w : World) : CellR k c0 c1 w w := ⟨Bel.refl _ _, .inl, id⟩
theorem CellR.trans {k : Nat} {c0 c1 : Obj} {w1 w2 w3 : World} (h : CellR k c0 c1 w1 w2) (g : CellR k c0 c1 w2 w3) : CellR k c0 c1 w1 w3 :=
  ⟨h.bel.trans g.bel, fun hf => (h.one hf).elim g.one (fun h2 => .inr (g.two h2)), fun hg => g.two (h.two hg)⟩
theorem CellR.undrew {k : Nat} {c0 c1 : Obj} {w w' : World} (h : CellR k c0 c1 w.drew w') : CellR k c0 c1 w w' :=
  ⟨⟨h.bel.os, h.bel.tape, h.bel.output, h.bel.size, h.bel.block⟩, h.one, h.two⟩
theorem CellR.step {k s : Nat} {cur : Array Value} {t : TypeId} {u : Value} {w : World} :
    CellR k (.cells cur t (0, 0)) (.cells (cur.setIfInBounds s u) t (0, 0)) w (w.setCell ⟨k, s, none⟩ u) := by
  refine ⟨(Bel.refl (fun j => j = k) w).setCell (fun _ => rfl) _, fun h => .inr (heap_set h s u), fun h => ?_⟩
  have := heap_set h s u
  rw [this]
  congr 2
  simp
theorem movedS_ne {plan : List (List Int)} {y yr s : Nat} (h : y ≠ yr) : (plan.set y ((plan.getD y []).set s (cellP plan yr s)))[yr]? = plan[yr]? := by rw [List.getElem?_set, if_neg h]
end Go.Proofs.YtcbhldfipfcjaaaGreatDoor
