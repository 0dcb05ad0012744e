/- Marks on a frame: what a range over a function leaves behind, and how a function returns over them. -/
import Derived.Test.YtccplobhfokcgaaMk
namespace Go.Proofs.Ytccplobhfokcgaa
open Go Go.RowKit Go.Shelf
set_option maxRecDepth 100000

/-- The marks that range statements have left on the frame; their blocks lie from b on, below hi. -/
def Marks (b : Nat) (w : World) : Nat → List Deferred → Prop
  | hi, [] => b ≤ hi
  | hi, d :: ds => ∃ D, D < hi ∧ d = { target := .collected D, args := #[] } ∧ w.heap[D]? = some (.deferred (some [])) ∧ Marks b w D ds
theorem Marks.le {b : Nat} {w : World} : ∀ {ds : List Deferred} {hi : Nat}, Marks b w hi ds → b ≤ hi
  | [], _, h => h
  | _ :: _, _, ⟨_, hD, _, _, hm⟩ => Nat.le_of_lt (Nat.lt_of_le_of_lt (Marks.le hm) hD)
theorem Marks.mono {b : Nat} {w : World} : ∀ {ds : List Deferred} {hi hi' : Nat}, Marks b w hi ds → hi ≤ hi' → Marks b w hi' ds
  | [], _, _, h, hl => Nat.le_trans h hl
  | _ :: _, _, _, ⟨D, hD, e, hk, hm⟩, hl => ⟨D, Nat.lt_of_lt_of_le hD hl, e, hk, hm⟩
/-- Blocks that lie as they lay, where they held deferred calls. -/
theorem Marks.kept {b : Nat} {w w' : World} : ∀ {ds : List Deferred} {hi : Nat}, Marks b w hi ds → (∀ k, b ≤ k → k < hi → w.heap[k]? = some (.deferred (some [])) → w'.heap[k]? = some (.deferred (some []))) → Marks b w' hi ds
  | [], _, h, _ => h
  | _ :: _, _, ⟨D, hD, e, hk, hm⟩, hs => ⟨D, hD, e, hs D (Marks.le hm) hD hk, Marks.kept hm fun k h1 h2 => hs k h1 (Nat.lt_trans h2 hD)⟩
theorem Marks.below {b n : Nat} {w w' : World} {ds : List Deferred} {hi : Nat} (h : Marks b w hi ds) (hb : Below n w w') (hn : hi ≤ n) : Marks b w' hi ds :=
  h.kept fun k _ h2 hk => blk_below hb hk (Nat.lt_of_lt_of_le h2 hn)
theorem Marks.bel {b : Nat} {S : Nat → Prop} {w w' : World} {ds : List Deferred} {hi : Nat} (h : Marks b w hi ds) (hb : Bel S w w') (hS : ∀ k, b ≤ k → k < hi → ¬ S k) : Marks b w' hi ds :=
  h.kept fun k h1 h2 hk => hb.heap hk (hS k h1 h2)
/-- A store to a cell leaves marks as they are. -/
theorem Marks.setCell {b : Nat} {w : World} {ds : List Deferred} {hi : Nat} (h : Marks b w hi ds) {p : Addr} {o : Obj} (ho : w.heap[p.block]? = some o) (hc : ∀ x, o ≠ Obj.deferred x) (v : Value) : Marks b (w.setCell p v) hi ds :=
  h.kept fun k _ _ hk => by
    have hne : k ≠ p.block := fun e => hc _ (by rw [e, ho] at hk; simpa using hk)
    exact (Below.heap_setCell _ _ _ _ (fun e => hne e)).trans hk
theorem Marks.push {b : Nat} {w : World} {ds : List Deferred} {hi : Nat} (h : Marks b w hi ds) {D hi' : Nat} (hD : hi ≤ D) (hk : w.heap[D]? = some (.deferred (some []))) (hh : D < hi') :
    Marks b w hi' ({ target := .collected D, args := #[] } :: ds) := ⟨D, hh, rfl, hk, h.mono hD⟩

/-- What taking over the marks' calls leaves: all but blocks of deferred calls from b on. -/
structure Taken (b : Nat) (w w' : World) : Prop where
  os : w'.os = w.os
  tape : w'.tape = w.tape
  output : w'.output = w.output
  size : w'.heap.size = w.heap.size
  low : ∀ k, k < b → w'.heap[k]? = w.heap[k]?
  same : ∀ (k : Nat) (o : Obj), w.heap[k]? = some o → (∀ x, o ≠ Obj.deferred x) → w'.heap[k]? = some o
theorem Taken.refl (b : Nat) (w : World) : Taken b w w := ⟨rfl, rfl, rfl, rfl, fun _ _ => rfl, fun _ _ h _ => h⟩
theorem Taken.below {b n : Nat} {w w' : World} (h : Taken b w w') (hn : n ≤ b) (hs : b ≤ w.heap.size) : Below n w w' := ⟨h.os, h.tape, h.output, by rw [h.size]; exact Nat.le_refl _, fun k hk => h.low k (Nat.lt_of_lt_of_le hk hn)⟩
theorem Taken.cells {b : Nat} {w w' : World} (h : Taken b w w') {k : Nat} {cs : Array Value} {t : TypeId} {f : Nat × Nat} (hk : w.heap[k]? = some (.cells cs t f)) : w'.heap[k]? = some (.cells cs t f) := h.same k _ hk (fun x e => by cases e)
theorem Taken.step {b : Nat} {w w' : World} {D : Nat} (hk : w.heap[D]? = some (.deferred (some []))) (hD : b ≤ D) (h : Taken b (w.putObj D (.deferred none)) w') : Taken b w w' :=
  ⟨h.os, h.tape, h.output, by rw [h.size]; simp, fun k hkb => (h.low k hkb).trans (World.putObj_heap_other (by omega)), fun k o ho hx => h.same k o ((World.putObj_heap_other (fun e => by subst e; rw [hk] at ho; exact hx _ (by simpa using ho.symm))).trans ho) hx⟩

theorem leavesM_marks {F : Fence} {n : Nat} {P : Program} {fn : Func} {tmps : Array Value} {R : Ending → World → Prop} {b : Nat} : ∀ (ds : List Deferred) (hi : Nat) (w : World), Marks b w hi ds →
    (∀ w', Taken b w w' → ∃ v, (results fn tmps).run P w' = .ok v w' ∧ R (.returned v) w') → LeavesInM F n P fn tmps R ds .returning w
  | [], _, w, _, h => h w (Taken.refl b w)
  | _ :: ds, _, w, ⟨D, _, e, hk, hm⟩, h => by
    subst e
    refine ⟨by simp, .inl ⟨D, _, rfl, run_takeDeferred hk, ?_⟩⟩
    exact leavesM_marks ds D _ (hm.kept fun k _ h2 hkk => (World.putObj_heap_other (by omega)).trans hkk) fun w' hw' => h w' (hw'.step hk (Marks.le hm))
/-- A return over marks. -/
theorem bodyPostM_ret {F : Fence} {n : Nat} {P : Program} {fn : Func} {R : Ending → World → Prop} {b hi : Nat} {tmps : Array Value} {ds : List Deferred} {w : World} (hm : Marks b w hi ds)
    (h : ∀ w', Taken b w w' → ∃ v, (results fn tmps).run P w' = .ok v w' ∧ R (.returned v) w') : bodyPostM F n P fn R .ret { tmps := tmps, defers := ds } w :=
  leavesM_marks ds hi w hm h
end Go.Proofs.Ytccplobhfokcgaa
