/- Slices of slices of one's own, and where their blocks lie; the environment of values under stores. -/
import Derived.Test.YtnbnhcoaggpmaaaMy

namespace Go.Proofs.Ytnbnhcoaggpmaaa
open Go Go.RowKit Go.Shelf
set_option maxRecDepth 100000

/-- As OwnRows; each block is where p says. -/
def OwnP (p : Nat → Prop) (w : World) (B : Nat) (v : Value) (xss : List (List Int)) : Prop := ∃ vs, w.ownsRow B 41 1 v xss.length vs ∧ (∀ k, v.ownBlock = some k → p k) ∧
  ∀ (i : Nat) (xs : List Int), xss[i]? = some xs → ∃ u, vs[i]? = some u ∧ w.ownsRow B 3 1 u xs.length (xs.map (Value.int .i64)) ∧ ∀ k, u.ownBlock = some k → p k
theorem OwnP.own {p : Nat → Prop} {w : World} {B : Nat} {v : Value} {xss : List (List Int)} (h : OwnP p w B v xss) : OwnRows w B v xss := by
  obtain ⟨vs, h1, _, h2⟩ := h
  exact ⟨vs, h1, fun i xs hx => (h2 i xs hx).imp fun u hu => ⟨hu.1, hu.2.1⟩⟩
theorem OwnRows.toP {w : World} {B : Nat} {v : Value} {xss : List (List Int)} (h : OwnRows w B v xss) : OwnP (fun k => B ≤ k ∧ k < w.heap.size) w B v xss := by
  obtain ⟨vs, h1, h2⟩ := h
  exact ⟨vs, h1, fun k hk => own_blk_lt h1 k hk, fun i xs hx => (h2 i xs hx).imp fun u hu => ⟨hu.1, hu.2, fun k hk => own_blk_lt hu.2 k hk⟩⟩
theorem OwnP.imp {p q : Nat → Prop} {w : World} {B : Nat} {v : Value} {xss : List (List Int)} (h : OwnP p w B v xss) (hpq : ∀ k, p k → q k) : OwnP q w B v xss := by
  obtain ⟨vs, h1, h2, h3⟩ := h
  exact ⟨vs, h1, fun k hk => hpq k (h2 k hk), fun i xs hx => (h3 i xs hx).imp fun u hu => ⟨hu.1, hu.2.1, fun k hk => hpq k (hu.2.2 k hk)⟩⟩
/-- Blocks where p says, with cells of whole numbers or of slices, lie as they lay. -/
theorem OwnP.kept {p : Nat → Prop} {w w' : World} {B : Nat} {v : Value} {xss : List (List Int)} (h : OwnP p w B v xss)
    (hk : ∀ k cs t, p k → B ≤ k → w.heap[k]? = some (.cells cs t (0, 0)) → (t = 3 ∨ t = 41) → w'.heap[k]? = w.heap[k]?) : OwnP p w' B v xss := by
  obtain ⟨vs, h1, h2, h3⟩ := h
  refine ⟨vs, own_kept h1 (fun k hk' => ?_), h2, fun i xs hx => ?_⟩
  · obtain ⟨cur, hc⟩ := own_type h1 k hk'
    exact hk k cur _ (h2 k hk') (own_blk_lt h1 k hk').1 hc (.inr rfl)
  · obtain ⟨u, hu, h4, h5⟩ := h3 i xs hx
    refine ⟨u, hu, own_kept h4 (fun k hk' => ?_), h5⟩
    obtain ⟨cur, hc⟩ := own_type h4 k hk'
    exact hk k cur _ (h5 k hk') (own_blk_lt h4 k hk').1 hc (.inl rfl)
theorem OwnP.below {p : Nat → Prop} {w w' : World} {B : Nat} {v : Value} {xss : List (List Int)} (h : OwnP p w B v xss) (hb : Below w.heap.size w w') : OwnP p w' B v xss :=
  h.kept fun k _ _ _ _ hc _ => hb.block k (lt_blk hc)
theorem OwnP.setCell {p : Nat → Prop} {w : World} {B : Nat} {v : Value} {xss : List (List Int)} (h : OwnP p w B v xss) {a : Addr} (hp : a.block < B) (u : Value) : OwnP p (w.setCell a u) B v xss :=
  h.kept fun k _ _ _ hB _ _ => Below.heap_setCell _ _ _ _ (by omega)
theorem OwnP.rows {p : Nat → Prop} {w : World} {B : Nat} {v : Value} {xss : List (List Int)} (h : OwnP p w B v xss) (hl : xss.length ≤ 1000000) (hx : ∀ xs ∈ xss, xs.length ≤ 1000000) : RowsAt w w.heap.size v xss := h.own.rows hl hx
theorem OwnP.nil (p : Nat → Prop) (w : World) (B : Nat) : OwnP p w B (.slice none 0 0) [] := ⟨[], ⟨rfl, .inl ⟨rfl, rfl⟩⟩, fun k hk => by simp [Value.ownBlock] at hk, fun i xs h => by simp at h⟩
theorem OwnP.snoc {p : Nat → Prop} {W w1 : World} {B : Nat} {v v1 : Value} {xss : List (List Int)} {vs : List Value} {u : Value} {xs : List Int}
    (h1 : W.ownsRow B 41 1 v xss.length vs) (hv : ∀ k, v.ownBlock = some k → p k)
    (h2 : ∀ (i : Nat) (xs : List Int), xss[i]? = some xs → ∃ u, vs[i]? = some u ∧ W.ownsRow B 3 1 u xs.length (xs.map (Value.int .i64)) ∧ ∀ k, u.ownBlock = some k → p k)
    (hu : W.ownsRow B 3 1 u xs.length (xs.map (Value.int .i64))) (hup : ∀ k, u.ownBlock = some k → p k) (hown : w1.ownsRow B 41 1 v1 (xss.length + 1) (vs ++ [u])) (hg : W.grownBy w1 v.ownBlock)
    (hat : v1.ownBlock = v.ownBlock ∨ ∃ b, v1.ownBlock = some b ∧ W.heap.size ≤ b) (hnew : ∀ k, W.heap.size ≤ k → p k) : OwnP p w1 B v1 (xss ++ [xs]) := by
  have key : ∀ {u : Value} {xs : List Int}, W.ownsRow B 3 1 u xs.length (xs.map (Value.int .i64)) → w1.ownsRow B 3 1 u xs.length (xs.map (Value.int .i64)) := fun {u xs} hu =>
    own_kept hu fun k hk => by
      obtain ⟨cur, hc⟩ := own_type hu k hk
      refine hg.block k (own_blk_lt hu k hk).2 (fun e => ?_)
      obtain ⟨cur2, hc2⟩ := own_type h1 k e.symm
      rw [hc] at hc2
      simp at hc2
  have hvl : vs.length = xss.length := by have := h1.1; simpa using this
  refine ⟨vs ++ [u], by rw [List.length_append]; exact hown, ?_, fun i ys hy => ?_⟩
  · intro k hk
    rcases hat with e | ⟨b, e, hb⟩
    · exact hv k (e ▸ hk)
    · rw [e] at hk; cases hk; exact hnew _ hb
  · by_cases hi : i < xss.length
    · rw [List.getElem?_append_left hi] at hy
      obtain ⟨u', hu', h3, h4⟩ := h2 i ys hy
      exact ⟨u', by rw [List.getElem?_append_left (by omega)]; exact hu', key h3, h4⟩
    · rw [List.getElem?_append_right (by omega)] at hy
      have h0 : i - xss.length = 0 := by
        have := (List.getElem?_eq_some_iff.1 hy).1
        simp at this; omega
      rw [h0] at hy
      have : xs = ys := by simpa using hy
      subst this
      exact ⟨u, by rw [List.getElem?_append_right (by omega), hvl, h0]; rfl, key hu, hup⟩

/-- The blocks of the environment. -/
structure EnvLt (n0 mb xb vb kb B : Nat) : Prop where
  n0 : n0 ≤ B
  mb : mb < B
  xb : xb < B
  vb : vb < B
  kb : kb < B
theorem Env.lt {m : Wk} {T : List St} {n0 mb xb vb kb : Nat} {sA cA mA : Option Addr} {sc cn cc mc : Nat} {w : World} (h : Env m T n0 mb xb vb kb sA cA mA sc cn cc mc w) (hn : n0 ≤ w.heap.size) : EnvLt n0 mb xb vb kb w.heap.size :=
  ⟨hn, lt_blk h.model, lt_blk h.known, lt_blk h.value, by obtain ⟨L, hL⟩ := h.memo; exact hL.map.lt⟩
theorem Env.below {m : Wk} {T : List St} {n0 mb xb vb kb B : Nat} {sA cA mA : Option Addr} {sc cn cc mc : Nat} {w w' : World} (h : Env m T n0 mb xb vb kb sA cA mA sc cn cc mc w) (hb : Below B w w') (hl : EnvLt n0 mb xb vb kb B) : Env m T n0 mb xb vb kb sA cA mA sc cn cc mc w' :=
  ⟨h.slopes.below (hb.mono hl.n0), h.crafts.below (hb.mono hl.n0), blk_below hb h.model hl.mb, blk_below hb h.known hl.xb, blk_below hb h.value hl.vb, h.memo.imp fun _ hL => hL.kept (hb.block _ hl.kb), h.at0⟩
/-- A store to a box of another type. -/
theorem Env.setCell {m : Wk} {T : List St} {n0 mb xb vb kb : Nat} {sA cA mA : Option Addr} {sc cn cc mc : Nat} {w : World} (h : Env m T n0 mb xb vb kb sA cA mA sc cn cc mc w) {p i : Nat} {cs : Array Value} {t : TypeId} {fr : Nat × Nat}
    (hp : w.heap[p]? = some (.cells cs t fr)) (ht : t ≠ 75 ∧ t ≠ 120 ∧ t ≠ 84) (hc : ∀ (j : Nat) (u : Value), cs[j]? = some u → ∀ T x, u ≠ .iface T x) (v : Value)
    (hs : SlopesAt (w.setCell ⟨p, i, none⟩ v) n0 (.slice sA m.slopes.length sc) m.slopes) : Env m T n0 mb xb vb kb sA cA mA sc cn cc mc (w.setCell ⟨p, i, none⟩ v) := by
  have e : ∀ {k : Nat} {cs' : Array Value} {t' : TypeId} {fr' : Nat × Nat}, w.heap[k]? = some (.cells cs' t' fr') → t ≠ t' → (w.setCell ⟨p, i, none⟩ v).heap[k]? = some (.cells cs' t' fr') := fun {k cs' t' fr'} hk hne =>
    (Below.heap_setCell _ _ _ _ (fun e => by
      rw [e, hp] at hk
      simp only [Option.some.injEq, Obj.cells.injEq] at hk
      exact hne hk.2.1)).trans hk
  obtain ⟨L, hL⟩ := h.memo
  obtain ⟨es, clock, hm⟩ := hL.map.obj
  exact ⟨hs, h.crafts.setCell hp hc v, e h.model ht.1, e h.known ht.2.1, e h.value ht.2.2, ⟨L, hL.kept (Below.heap_setCell _ _ _ _ (fun e => by rw [e, hp] at hm; simp at hm))⟩, h.at0⟩
end Go.Proofs.Ytnbnhcoaggpmaaa
