/- Lists of rows of one's own, within a set of blocks: two of them side by side. -/
import Derived.Test.YtccplobhfokcgaaLp
namespace Go.Proofs.Ytccplobhfokcgaa
open Go Go.RowKit Go.Shelf
set_option maxRecDepth 100000

/-- As OwnD; its blocks are in a set. -/
def OwnS (w : World) (B : Nat) (S : Nat → Prop) (v : Value) (xss : List (List Int)) : Prop := ∃ (vs : List Value) (bs : List Nat), w.ownsRow B 36 1 v xss.length vs ∧ bs.length = xss.length ∧ bs.Nodup ∧
  (∀ (i : Nat) (xs : List Int), xss[i]? = some xs → ∃ k c, bs[i]? = some k ∧ vs[i]? = some (.slice (some ⟨k, 0, none⟩) xs.length c) ∧ w.ownsRow B 3 1 (.slice (some ⟨k, 0, none⟩) xs.length c) xs.length (xs.map (Value.int .i64))) ∧
  (∀ k, v.ownBlock = some k → S k) ∧ (∀ k ∈ bs, S k) ∧ ∀ k, S k → k < w.heap.size
theorem OwnS.toD {w : World} {B : Nat} {S : Nat → Prop} {v : Value} {xss : List (List Int)} (h : OwnS w B S v xss) : OwnD w B v xss := by
  obtain ⟨vs, bs, h1, h2, h3, h4, _⟩ := h
  exact ⟨vs, bs, h1, h2, h3, h4⟩
theorem OwnS.nil (w : World) (B : Nat) : OwnS w B (fun _ => False) (.slice none 0 0) [] :=
  ⟨[], [], ⟨rfl, .inl ⟨rfl, rfl⟩⟩, rfl, List.nodup_nil, fun i xs h => by simp at h, fun k h => by simp [Value.ownBlock] at h, fun k h => by simp at h, fun k h => h.elim⟩
theorem OwnS.kept {w w' : World} {B : Nat} {S : Nat → Prop} {v : Value} {xss : List (List Int)} (h : OwnS w B S v xss) (hk : ∀ k, S k → w'.heap[k]? = w.heap[k]?) (hs : w.heap.size ≤ w'.heap.size) : OwnS w' B S v xss := by
  obtain ⟨vs, bs, h1, h2, h3, h4, h5, h6, h7⟩ := h
  refine ⟨vs, bs, own_kept h1 (fun k e => hk k (h5 k e)), h2, h3, fun i xs hi => ?_, h5, h6, fun k e => Nat.lt_of_lt_of_le (h7 k e) hs⟩
  obtain ⟨k, c, e1, e2, e3⟩ := h4 i xs hi
  refine ⟨k, c, e1, e2, own_kept e3 (fun k' e => ?_)⟩
  have : k = k' := by simpa [Value.ownBlock] using e
  subst this
  exact hk k (h6 k (List.mem_of_getElem? e1))
theorem OwnS.below {w w' : World} {B : Nat} {S : Nat → Prop} {v : Value} {xss : List (List Int)} (h : OwnS w B S v xss) (hb : Below w.heap.size w w') : OwnS w' B S v xss :=
  h.kept (fun k hk => by obtain ⟨_, _, _, _, _, _, _, _, h7⟩ := id h; exact hb.block k (h7 k hk)) hb.size
theorem OwnS.row {w : World} {B : Nat} {S : Nat → Prop} {v : Value} {xss : List (List Int)} (h : OwnS w B S v xss) {i : Nat} {xs : List Int} (hi : xss[i]? = some xs) {b cc k n1 c : Nat} (hv : v = .slice (some ⟨b, 0, none⟩) xss.length cc)
    (hc : w.cell? ⟨b, i, none⟩ = some (.slice (some ⟨k, 0, none⟩) n1 c)) : S k ∧ S b := by
  obtain ⟨vs, bs, h1, h2, h3, h4, h5, h6, h7⟩ := h
  obtain ⟨k', c', e1, e2, e3⟩ := h4 i xs hi
  have hil := (List.getElem?_eq_some_iff.1 hi).1
  refine ⟨?_, h5 b (by rw [hv]; rfl)⟩
  rcases id h1.2 with ⟨_, h0⟩ | ⟨g, cap, cur, e, hB, hh, hcp, hm, hsz, ht⟩
  · omega
  · rw [hv] at e
    cases e
    rw [← ht, List.getElem?_take, if_pos (by omega), Array.getElem?_toList] at e2
    rw [cell_blk hh, e2] at hc
    simp at hc
    rw [← hc.1]
    exact h6 k' (List.mem_of_getElem? e1)
/-- A row more. -/
theorem OwnS.snoc {W0 W w1 : World} {B : Nat} {S : Nat → Prop} {v v1 : Value} {xss : List (List Int)} {vs : List Value} {bs : List Nat} {u : Value} {xs : List Int} (hne : xs ≠ []) (hW : Below W0.heap.size W0 W)
    (h1 : W0.ownsRow B 36 1 v xss.length vs) (hb : bs.length = xss.length) (hn : bs.Nodup)
    (h2 : ∀ (i : Nat) (xs : List Int), xss[i]? = some xs → ∃ k c, bs[i]? = some k ∧ vs[i]? = some (.slice (some ⟨k, 0, none⟩) xs.length c) ∧ W0.ownsRow B 3 1 (.slice (some ⟨k, 0, none⟩) xs.length c) xs.length (xs.map (Value.int .i64)))
    (h5 : ∀ k, v.ownBlock = some k → S k) (h6 : ∀ k ∈ bs, S k) (h7 : ∀ k, S k → k < W0.heap.size)
    (hu : W.ownsRow W0.heap.size 3 1 u xs.length (xs.map (Value.int .i64))) (hB : B ≤ W0.heap.size) (hown : w1.ownsRow B 36 1 v1 (xss.length + 1) (vs ++ [u])) (hg : W.grownBy w1 v.ownBlock)
    (hat : v1.ownBlock = v.ownBlock ∨ ∃ b, v1.ownBlock = some b ∧ W.heap.size ≤ b) : OwnS w1 B (fun k => S k ∨ W0.heap.size ≤ k ∧ k < w1.heap.size) v1 (xss ++ [xs]) := by
  have hd := OwnD.snoc (W0 := W0) hne (own_below h1 hW (fun k hk => (own_blk_lt h1 k hk).2)) hb hn (fun k hk => h7 k (h6 k hk)) (fun i xs hi => by
    obtain ⟨k, c, e1, e2, e3⟩ := h2 i xs hi
    exact ⟨k, c, e1, e2, own_below e3 hW (fun k hk => (own_blk_lt e3 k hk).2)⟩) hu hB hown hg
  have hsz : W0.heap.size ≤ w1.heap.size := Nat.le_trans hW.size hg.size
  obtain ⟨vs', bs', d1, d2, d3, d4⟩ := hd
  have hS : ∀ k, (S k ∨ W0.heap.size ≤ k ∧ k < w1.heap.size) → k < w1.heap.size := fun k hk => by
    rcases hk with hk | hk
    · have := h7 k hk; omega
    · exact hk.2
  have hvs : vs' = vs ++ [u] := by
    have e1 := d1
    rw [List.length_append] at e1
    rcases id hown.2 with ⟨e2, h0⟩ | ⟨g, cap, cur, e, _, hh, _, _, hsz, ht⟩
    · omega
    · rcases id e1.2 with ⟨e3, h0⟩ | ⟨g', cap', cur', e', _, hh', _, _, hsz', ht'⟩
      · rw [e3] at e; cases e
      · rw [e] at e'
        cases e'
        rw [hh] at hh'
        cases hh'
        rw [← ht, ← ht']
        rfl
  subst hvs
  refine ⟨_, bs', d1, d2, d3, d4, fun k hk => ?_, fun k hk => ?_, hS⟩
  · rcases hat with e | ⟨b, e, hb⟩
    · rw [e] at hk; exact .inl (h5 k hk)
    · rw [e] at hk
      cases hk
      exact .inr ⟨Nat.le_trans hW.size hb, (own_blk_lt hown _ e).2⟩
  · obtain ⟨i, hi⟩ := List.getElem?_of_mem hk
    have hil := (List.getElem?_eq_some_iff.1 hi).1
    have hil2 : i < (xss ++ [xs]).length := by omega
    obtain ⟨k', c', e1, e2, e3⟩ := d4 i _ (List.getElem?_eq_getElem hil2)
    rw [hi] at e1
    cases e1
    by_cases hix : i < xss.length
    · obtain ⟨k2, c2, f1, f2, _⟩ := h2 i _ (List.getElem?_eq_getElem hix)
      have hvl : vs.length = xss.length := by have := h1.1; simpa using this
      rw [List.getElem?_append_left (by omega), f2] at e2
      simp at e2
      rw [← e2.1]
      exact .inl (h6 k2 (List.mem_of_getElem? f1))
    · have hvl : vs.length = xss.length := by have := h1.1; simpa using this
      have hix2 : i - vs.length = 0 := by rw [List.length_append] at hil2; simp at hil2; omega
      rw [List.getElem?_append_right (by omega), hix2] at e2
      have hue : u = .slice (some ⟨k, 0, none⟩) (xss ++ [xs])[i].length c' := by simpa using e2
      have hk2 := own_blk_lt hu k (by rw [hue]; rfl)
      exact .inr ⟨hk2.1, Nat.lt_of_lt_of_le hk2.2 hg.size⟩
/-- The other list is not touched. -/
theorem OwnS.beside {W0 W w1 : World} {B : Nat} {S S2 : Nat → Prop} {v v2 : Value} {yss : List (List Int)} (h : OwnS W0 B S2 v2 yss) (hW : Below W0.heap.size W0 W) (h5 : ∀ k, v.ownBlock = some k → S k) (hd : ∀ k, S k → ¬ S2 k) (hg : W.grownBy w1 v.ownBlock) : OwnS w1 B S2 v2 yss := by
  obtain ⟨_, _, _, _, _, _, _, _, h7⟩ := id h
  refine h.kept (fun k hk => ?_) (Nat.le_trans hW.size hg.size)
  rw [hg.block k (Nat.lt_of_lt_of_le (h7 k hk) hW.size) (fun e => hd k (h5 k e.symm) hk)]
  exact hW.block k (h7 k hk)
end Go.Proofs.Ytccplobhfokcgaa
