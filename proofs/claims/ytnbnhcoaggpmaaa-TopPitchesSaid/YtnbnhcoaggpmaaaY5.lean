/- The values of states, as plain functions; the map of those known. -/
import Derived.Test.YtnbnhcoaggpmaaaY4
import Derived.Maps.OwnSet
import Derived.Maps.OwnOps
import Derived.Maps.RangeWalk
import Derived.DeepKeys4

/- Marks on a frame: what a range over a function leaves behind, and how a function returns over them. -/
namespace Go.Proofs.Ytnbnhcoaggpmaaa
open Go Go.RowKit Go.Shelf
set_option maxRecDepth 100000

/-- The marks that range statements have left on the frame; their blocks lie from b on, below hi. -/
def Marks (b : Nat) (w : World) : Nat → List Deferred → Prop
  | hi, [] => b ≤ hi
  | hi, d :: ds => ∃ D, D < hi ∧ d = { target := .collected D, args := #[] } ∧ w.heap[D]? = some (.deferred (some [])) ∧ Marks b w D ds
theorem Marks.le {b : Nat} {w : World} : ∀ {ds : List Deferred} {hi : Nat}, Marks b w hi ds → b ≤ hi
  | [], _, h => h
  | _ :: _, _, ⟨_, hD, _, _, hm⟩ => Nat.le_of_lt (Nat.lt_of_le_of_lt (Marks.le hm) hD)
theorem Marks.mono {b : Nat} {w : World} : ∀ {ds : List Deferred} {hi hi' : Nat}, Marks b w hi ds → hi ≤ hi' → Marks b w hi' ds
  | [], _, _, h, hl => Nat.le_trans h hl
  | _ :: _, _, _, ⟨D, hD, e, hk, hm⟩, hl => ⟨D, Nat.lt_of_lt_of_le hD hl, e, hk, hm⟩
/-- Blocks that lie as they lay, where they held deferred calls. -/
theorem Marks.kept {b : Nat} {w w' : World} : ∀ {ds : List Deferred} {hi : Nat}, Marks b w hi ds → (∀ k, b ≤ k → k < hi → w.heap[k]? = some (.deferred (some [])) → w'.heap[k]? = some (.deferred (some []))) → Marks b w' hi ds
  | [], _, h, _ => h
  | _ :: _, _, ⟨D, hD, e, hk, hm⟩, hs => ⟨D, hD, e, hs D (Marks.le hm) hD hk, Marks.kept hm fun k h1 h2 => hs k h1 (Nat.lt_trans h2 hD)⟩
theorem Marks.below {b n : Nat} {w w' : World} {ds : List Deferred} {hi : Nat} (h : Marks b w hi ds) (hb : Below n w w') (hn : hi ≤ n) : Marks b w' hi ds :=
  h.kept fun k _ h2 hk => blk_below hb hk (Nat.lt_of_lt_of_le h2 hn)
theorem Marks.bel {b : Nat} {S : Nat → Prop} {w w' : World} {ds : List Deferred} {hi : Nat} (h : Marks b w hi ds) (hb : Bel S w w') (hS : ∀ k, b ≤ k → k < hi → ¬ S k) : Marks b w' hi ds :=
  h.kept fun k h1 h2 hk => hb.heap hk (hS k h1 h2)
/-- A store to a cell leaves marks as they are. -/
theorem Marks.setCell {b : Nat} {w : World} {ds : List Deferred} {hi : Nat} (h : Marks b w hi ds) {p : Addr} {o : Obj} (ho : w.heap[p.block]? = some o) (hc : ∀ x, o ≠ Obj.deferred x) (v : Value) : Marks b (w.setCell p v) hi ds :=
  h.kept fun k _ _ hk => by
    have hne : k ≠ p.block := fun e => hc _ (by rw [e, ho] at hk; simpa using hk)
    exact (Below.heap_setCell _ _ _ _ (fun e => hne e)).trans hk
theorem Marks.push {b : Nat} {w : World} {ds : List Deferred} {hi : Nat} (h : Marks b w hi ds) {D hi' : Nat} (hD : hi ≤ D) (hk : w.heap[D]? = some (.deferred (some []))) (hh : D < hi') :
    Marks b w hi' ({ target := .collected D, args := #[] } :: ds) := ⟨D, hh, rfl, hk, h.mono hD⟩

/-- What taking over the marks' calls leaves: all but blocks of deferred calls from b on. -/
structure Taken (b : Nat) (w w' : World) : Prop where
  os : w'.os = w.os
  tape : w'.tape = w.tape
  output : w'.output = w.output
  size : w'.heap.size = w.heap.size
  low : ∀ k, k < b → w'.heap[k]? = w.heap[k]?
  same : ∀ (k : Nat) (o : Obj), w.heap[k]? = some o → (∀ x, o ≠ Obj.deferred x) → w'.heap[k]? = some o
theorem Taken.refl (b : Nat) (w : World) : Taken b w w := ⟨rfl, rfl, rfl, rfl, fun _ _ => rfl, fun _ _ h _ => h⟩
theorem Taken.below {b n : Nat} {w w' : World} (h : Taken b w w') (hn : n ≤ b) (hs : b ≤ w.heap.size) : Below n w w' := ⟨h.os, h.tape, h.output, by rw [h.size]; exact Nat.le_refl _, fun k hk => h.low k (Nat.lt_of_lt_of_le hk hn)⟩
theorem Taken.cells {b : Nat} {w w' : World} (h : Taken b w w') {k : Nat} {cs : Array Value} {t : TypeId} {f : Nat × Nat} (hk : w.heap[k]? = some (.cells cs t f)) : w'.heap[k]? = some (.cells cs t f) := h.same k _ hk (fun x e => by cases e)
theorem Taken.step {b : Nat} {w w' : World} {D : Nat} (hk : w.heap[D]? = some (.deferred (some []))) (hD : b ≤ D) (h : Taken b (w.putObj D (.deferred none)) w') : Taken b w w' :=
  ⟨h.os, h.tape, h.output, by rw [h.size]; simp, fun k hkb => (h.low k hkb).trans (World.putObj_heap_other (by omega)), fun k o ho hx => h.same k o ((World.putObj_heap_other (fun e => by subst e; rw [hk] at ho; exact hx _ (by simpa using ho.symm))).trans ho) hx⟩

theorem leavesM_marks {F : Fence} {n : Nat} {P : Program} {fn : Func} {tmps : Array Value} {R : Ending → World → Prop} {b : Nat} : ∀ (ds : List Deferred) (hi : Nat) (w : World), Marks b w hi ds →
    (∀ w', Taken b w w' → ∃ v, (results fn tmps).run P w' = .ok v w' ∧ R (.returned v) w') → LeavesInM F n P fn tmps R ds .returning w
  | [], _, w, _, h => h w (Taken.refl b w)
  | _ :: ds, _, w, ⟨D, _, e, hk, hm⟩, h => by
    subst e
    refine ⟨by simp, .inl ⟨D, _, rfl, run_takeDeferred hk, ?_⟩⟩
    exact leavesM_marks ds D _ (hm.kept fun k _ h2 hkk => (World.putObj_heap_other (by omega)).trans hkk) fun w' hw' => h w' (hw'.step hk (Marks.le hm))
/-- A return over marks. -/
theorem bodyPostM_ret {F : Fence} {n : Nat} {P : Program} {fn : Func} {R : Ending → World → Prop} {b hi : Nat} {tmps : Array Value} {ds : List Deferred} {w : World} (hm : Marks b w hi ds)
    (h : ∀ w', Taken b w w' → ∃ v, (results fn tmps).run P w' = .ok v w' ∧ R (.returned v) w') : bodyPostM F n P fn R .ret { tmps := tmps, defers := ds } w :=
  leavesM_marks ds hi w hm h
end Go.Proofs.Ytnbnhcoaggpmaaa

/- Maps keyed by states. -/
namespace Go.Proofs.Ytnbnhcoaggpmaaa
open Go Go.RowKit Go.Shelf
set_option maxRecDepth 100000

def stV (s : St) : Value := .agg #[.int .i64 s.y, .int .i64 s.a, .int .i64 s.b, .int .i64 s.c, .int .i64 s.d]
structure St.Wf (s : St) : Prop where
  y : -9223372036854775808 ≤ s.y ∧ s.y ≤ 9223372036854775807
  a : -9223372036854775808 ≤ s.a ∧ s.a ≤ 9223372036854775807
  b : -9223372036854775808 ≤ s.b ∧ s.b ≤ 9223372036854775807
  c : -9223372036854775808 ≤ s.c ∧ s.c ≤ 9223372036854775807
  d : -9223372036854775808 ≤ s.d ∧ s.d ≤ 9223372036854775807
theorem St.Ok.wf {m : Wk} {s : St} (h : s.Ok m) : s.Wf := by
  obtain ⟨h1, h2, h3, h4, h5⟩ := h
  exact ⟨by omega, by omega, by omega, by omega, by omega⟩

theorem keyLaidOut : laidOutB Try.prog = true := by kernel_rfl
theorem keyRow : (79 : TypeId) < Try.prog.types.size := of_decide_eq_true (by kernel_rfl)
theorem keyWide : (match Try.prog.underlying 79 with | some (.array _ _) | some (.struct _) => true | _ => false) = true := by kernel_rfl
theorem keyLaw : Maps.Keyed Try.prog 79 := Maps.Keyed.of_law (deep_law_laid keyLaidOut (m := 3) (by omega) keyRow (by kernel_rfl) keyWide)
theorem keyDeep : Try.prog.keyType 79 = true := by kernel_rfl

theorem wf_lit {a : Int} (h : -9223372036854775808 ≤ a ∧ a ≤ 9223372036854775807) : (Lit.int .i64 a).wf = true := by
  have h1 : IntKind.i64.min = -9223372036854775808 := by decide
  have h2 : IntKind.i64.max = 9223372036854775807 := by decide
  simp [Lit.wf, h1, h2]
  omega
theorem keyCells : Try.prog.cellsOf 79 = 5 := by kernel_rfl
theorem keyCells2 : Try.prog.cellsOf 77 = 4 := by kernel_rfl
theorem keyCells3 : Try.prog.cellsOf 3 = 1 := by kernel_rfl
theorem keyOf_st (s : St) (h : s.Wf) : ∃ l, keyOf Try.prog 79 (stV s) = some l := by
  obtain ⟨h1, h2, h3, h4, h5⟩ := h
  have w1 := wf_lit h1
  have w2 := wf_lit h2
  have w3 := wf_lit h3
  have w4 := wf_lit h4
  have w5 := wf_lit h5
  have hr : (79 : Nat) < Try.prog.types.size := of_decide_eq_true (by kernel_rfl)
  obtain ⟨d, hd⟩ : ∃ d, Try.prog.types.size + 1 = d + 3 := ⟨Try.prog.types.size - 2, by omega⟩
  unfold keyOf
  rw [Try.underlying79]
  simp only [keyDeep, Value.formed, Try.underlying79, keyCells, hd, stV]
  simp [Value.cells, Program.keyLits, Try.underlying79, Try.underlying77, Try.underlying3, keyCells, keyCells2, keyCells3, List.range_succ, w1, w2, w3, w4, w5]

/-- The key that a state reads as. -/
noncomputable def stK (s : St) : Lit := (keyOf Try.prog 79 (stV s)).getD (.bool false)
theorem stK_eq (s : St) (h : s.Wf) : keyOf Try.prog 79 (stV s) = some (stK s) := by
  obtain ⟨l, hl⟩ := keyOf_st s h
  unfold stK; rw [hl]; rfl
theorem stK_inj {s t : St} (hs : s.Wf) (ht : t.Wf) (h : stK s = stK t) : s = t := by
  have := keyLaw.inj (stK_eq s hs) (h ▸ stK_eq t ht)
  unfold stV at this
  cases s; cases t
  simp at this
  simp [this]
theorem stK_key (s : St) (h : s.Wf) : WideAt.IsKeyLit (stK s) := keyLaw.key (stK_eq s h)

/-- Block b is a map from states to numbers, of at most n entries, that holds f. -/
def StMap (w : World) (b n : Nat) (f : St → Option Int) : Prop :=
  ∃ D : DataW Unit, w.ownsMap Try.prog 79 (plainElem Try.prog 3) b n D ∧ ∀ s : St, s.Wf → Maps.has D (stK s) = (f s).isSome ∧ ∀ x, f s = some x → D.atKey (stK s) (.lit (.int .i64 0)) = .lit (.int .i64 x)
theorem StMap.made (w : World) : StMap (w.alloc (.map #[] 0)) w.heap.size 0 (fun _ => none) :=
  ⟨.map [], World.ownsMap_made _ _ _ _, fun s _ => ⟨by simp [Maps.has], fun x h => by cases h⟩⟩
theorem StMap.kept {w w' : World} {b n : Nat} {f : St → Option Int} (h : StMap w b n f) (hk : w'.heap[b]? = w.heap[b]?) : StMap w' b n f := by
  obtain ⟨D, ⟨es, clock, hb, rest⟩, hf⟩ := h
  exact ⟨D, ⟨es, clock, hk.trans hb, rest⟩, hf⟩
theorem StMap.mono {w : World} {b n n' : Nat} {f : St → Option Int} (h : StMap w b n f) (hn : n ≤ n') : StMap w b n' f := by
  obtain ⟨D, ho, hf⟩ := h
  exact ⟨D, ho.mono hn, hf⟩
theorem StMap.lt {w : World} {b n : Nat} {f : St → Option Int} (h : StMap w b n f) : b < w.heap.size := by
  obtain ⟨D, ho, hf⟩ := h
  exact ho.lt
theorem StMap.obj {w : World} {b n : Nat} {f : St → Option Int} (h : StMap w b n f) : ∃ es clock, w.heap[b]? = some (.map es clock) := by
  obtain ⟨D, ⟨es, clock, hb, rest⟩, hf⟩ := h
  exact ⟨es, clock, hb⟩
theorem zeroInt (w : World) : (zeroValue 3).run Try.prog w = .ok (.int .i64 0) w := by kernel_rfl
theorem StMap.look {w : World} {b n : Nat} {f : St → Option Int} (h : StMap w b n f) (s : St) (hs : s.Wf) :
    (Instr.lookup 120 (.map (some b)) (stV s) true).run Try.prog w = .ok (.tuple #[.int .i64 ((f s).getD 0), .bool (f s).isSome]) w := by
  obtain ⟨D, ho, hf⟩ := h
  obtain ⟨h1, h2⟩ := hf s hs
  obtain ⟨v, ps, hrun, hv⟩ := ho.look_ok keyLaw Try.underlying120 (zeroInt w) (plainElem_int Try.underlying3 (by decide)) (stK_eq s hs)
  rw [hrun, h1]
  obtain ⟨c, rfl, hc, _⟩ := plainElem_int_inv Try.underlying3 hv
  simp only [Prod.mk.injEq] at hc
  cases hfs : f s with
  | none =>
    rw [hfs] at h1
    rw [Maps.atKey_of_not_has h1] at hc
    have := hc.1
    simp at this
    simp [← this]
  | some x =>
    rw [h2 x hfs] at hc
    have := hc.1
    simp at this
    simp [this]
def putS (f : St → Option Int) (s : St) (x : Int) : St → Option Int := fun t => if t = s then some x else f t
theorem StMap.store {w : World} {b n : Nat} {f : St → Option Int} (h : StMap w b n f) (s : St) (hs : s.Wf) (x : Int) (hx : -9223372036854775808 ≤ x ∧ x ≤ 9223372036854775807) (hn : n < maxLen) :
    ∃ w', (Instr.mapUpdate 120 (.map (some b)) (stV s) (.int .i64 x)).run Try.prog w = .ok () w' ∧ StMap w' b (n + 1) (putS f s x) ∧ Bel (fun k => k = b) w w' := by
  obtain ⟨D, ho, hf⟩ := h
  obtain ⟨w', hrun, ho', hg⟩ := ho.update keyLaw Try.underlying120 hn (stK_eq s hs) (plainElem_int Try.underlying3 (wf_lit hx))
  have hM := ho.isMap
  refine ⟨w', hrun, ⟨_, ho', fun t ht => ?_⟩, ⟨hg.os, hg.tape, hg.output, hg.size, fun k hk hne => hg.block k hk (fun e => hne (by simpa using e))⟩⟩
  unfold putS
  by_cases hts : t = s
  · subst hts
    rw [if_pos rfl, Maps.has_put_same hM (stK_key t hs)]
    refine ⟨rfl, fun y hy => ?_⟩
    rw [Maps.atKey_put_same hM (stK_key t hs)]
    simp at hy
    rw [hy]
  · have hne : stK t ≠ stK s := fun e => hts (stK_inj ht hs e)
    rw [if_neg hts, Maps.has_put_other hne]
    refine ⟨(hf t ht).1, fun y hy => ?_⟩
    rw [Maps.atKey_put_other hne]
    exact (hf t ht).2 y hy

/-- Block b is a set of states, of at most n. -/
def StSet (w : World) (b n : Nat) (f : St → Bool) : Prop :=
  ∃ D : DataW Unit, w.ownsMap Try.prog 79 unitElem b n D ∧ ∀ s : St, s.Wf → Maps.has D (stK s) = f s
theorem StSet.made (w : World) : StSet (w.alloc (.map #[] 0)) w.heap.size 0 (fun _ => false) :=
  ⟨.map [], World.ownsMap_made _ _ _ _, fun s _ => by simp [Maps.has]⟩
theorem StSet.kept {w w' : World} {b n : Nat} {f : St → Bool} (h : StSet w b n f) (hk : w'.heap[b]? = w.heap[b]?) : StSet w' b n f := by
  obtain ⟨D, ⟨es, clock, hb, rest⟩, hf⟩ := h
  exact ⟨D, ⟨es, clock, hk.trans hb, rest⟩, hf⟩
theorem StSet.mono {w : World} {b n n' : Nat} {f : St → Bool} (h : StSet w b n f) (hn : n ≤ n') : StSet w b n' f := by
  obtain ⟨D, ho, hf⟩ := h
  exact ⟨D, ho.mono hn, hf⟩
theorem StSet.lt {w : World} {b n : Nat} {f : St → Bool} (h : StSet w b n f) : b < w.heap.size := by
  obtain ⟨D, ho, hf⟩ := h
  exact ho.lt
theorem StSet.obj {w : World} {b n : Nat} {f : St → Bool} (h : StSet w b n f) : ∃ es clock, w.heap[b]? = some (.map es clock) := by
  obtain ⟨D, ⟨es, clock, hb, rest⟩, hf⟩ := h
  exact ⟨es, clock, hb⟩
theorem zeroUnit (w : World) : (zeroValue 137).run Try.prog w = .ok (.agg #[]) w := by kernel_rfl
theorem StSet.look {w : World} {b n : Nat} {f : St → Bool} (h : StSet w b n f) (s : St) (hs : s.Wf) :
    (Instr.lookup 114 (.map (some b)) (stV s) true).run Try.prog w = .ok (.tuple #[.agg #[], .bool (f s)]) w := by
  obtain ⟨D, ho, hf⟩ := h
  obtain ⟨v, ps, hrun, hv⟩ := ho.look_ok keyLaw Try.underlying114 (zeroUnit w) unitElem_mk (stK_eq s hs)
  obtain ⟨rfl, _⟩ := unitElem_inv hv
  rw [hrun, hf s hs]
theorem StSet.store {w : World} {b n : Nat} {f : St → Bool} (h : StSet w b n f) (s : St) (hs : s.Wf) (hn : n < maxLen) :
    ∃ w', (Instr.mapUpdate 114 (.map (some b)) (stV s) (.agg #[])).run Try.prog w = .ok () w' ∧ StSet w' b (n + 1) (fun t => if t = s then true else f t) ∧ Bel (fun k => k = b) w w' := by
  obtain ⟨D, ho, hf⟩ := h
  obtain ⟨w', hrun, ho', hg⟩ := ho.update keyLaw Try.underlying114 hn (stK_eq s hs) unitElem_mk
  have hM := ho.isMap
  refine ⟨w', hrun, ⟨_, ho', fun t ht => ?_⟩, ⟨hg.os, hg.tape, hg.output, hg.size, fun k hk hne => hg.block k hk (fun e => hne (by simpa using e))⟩⟩
  by_cases hts : t = s
  · subst hts
    rw [Maps.has_put_same hM (stK_key t hs)]; simp
  · have hne : stK t ≠ stK s := fun e => hts (stK_inj ht hs e)
    rw [Maps.has_put_other hne, hf t ht]; simp [hts]
end Go.Proofs.Ytnbnhcoaggpmaaa

namespace Go.Proofs.Ytnbnhcoaggpmaaa
open Go Go.RowKit Go.Shelf
set_option maxRecDepth 100000

theorem leftS_bd {m : Wk} (hm : m.Ok) {x : Slope} (hx : x ∈ m.slopes) (y k t : Int) (ht : 0 ≤ t ∧ t ≤ 1000) : 0 ≤ leftS m.crafts x y k t ∧ leftS m.crafts x y k t ≤ 1000 := by
  have h := mendC_bd hm.craft k t x.full ht (hm.slopes x hx).full
  unfold leftS
  split
  · exact h
  · have h2 : 0 ≤ takeOf x y := by
      unfold takeOf
      rw [List.getD_eq_getElem?_getD]
      cases he : x.takes[y.toNat % x.takes.length]? with
      | none => simp
      | some v => exact ((hm.slopes x hx).takes v (List.mem_of_getElem? he)).1
    omega
theorem upd_bd {m : Wk} (hm : m.Ok) (row : List Int) (y : Int) (i : Nat) (t : Int) (ht : 0 ≤ t ∧ t ≤ 1000) : 0 ≤ upd m.crafts m.slopes row y i t ∧ upd m.crafts m.slopes row y i t ≤ 1000 := by
  unfold upd
  split
  · rename_i x hx
    exact leftS_bd hm (List.mem_of_getElem? hx) _ _ _ ht
  · exact ht
theorem stepS_ok {m : Wk} (hm : m.Ok) {s : St} (hs : s.Ok m) (row : List Int) (hy : s.y < 40) : (stepS m s row).Ok m :=
  ⟨⟨by show 0 ≤ s.y + 1; have := hs.year; omega, by show s.y + 1 ≤ 40; omega⟩, upd_bd hm _ _ _ _ hs.a, upd_bd hm _ _ _ _ hs.b, upd_bd hm _ _ _ _ hs.c, upd_bd hm _ _ _ _ hs.d⟩
theorem stepS_y (m : Wk) (s : St) (row : List Int) : (stepS m s row).y = s.y + 1 := rfl
theorem rowsS_mem {m : Wk} {r : List Int} (h : r ∈ rowsS m) : RowOk m r ∧ mayS m r = true := by
  unfold rowsS rowsTo at h
  rw [List.mem_filter, List.mem_map] at h
  obtain ⟨⟨k, _, rfl⟩, h2⟩ := h
  exact ⟨rowK_ok m k, h2⟩
theorem costS_bd {m : Wk} (hm : m.Ok) {r : List Int} (hr : RowOk m r) : 0 ≤ costS m r ∧ costS m r ≤ 41000000 := by
  have h1 := costTo_bd hm r r.length (by rw [hr.len]; exact Nat.le_refl _)
  have h2 := hm.visit
  have h3 := hm.few
  have h4 := hr.len
  have h5 : (r.length : Int) ≤ 4 := by omega
  unfold costS
  split <;> omega

def valF (m : Wk) : Nat → St → Int
  | 0, _ => 0
  | n + 1, s => (rowsS m).foldl (fun a r => if keptS m s r then min a (costS m r + valF m n (stepS m s r)) else a) 2000000000
/-- What it costs at least to keep all from a state on. -/
def valS (m : Wk) (s : St) : Int := valF m (m.years - s.y).toNat s
def leastTo (m : Wk) (s : St) (k : Nat) : Int := ((rowsS m).take k).foldl (fun a r => if keptS m s r then min a (costS m r + valS m (stepS m s r)) else a) 2000000000
theorem valS_end {m : Wk} {s : St} (h : m.years ≤ s.y) : valS m s = 0 := by
  unfold valS
  rw [show (m.years - s.y).toNat = 0 by omega]; rfl
theorem valS_step {m : Wk} {s : St} (h : s.y < m.years) : valS m s = leastTo m s (rowsS m).length := by
  unfold valS leastTo
  rw [show (m.years - s.y).toNat = (m.years - (s.y + 1)).toNat + 1 by omega, List.take_length]
  rfl
theorem leastTo_zero (m : Wk) (s : St) : leastTo m s 0 = 2000000000 := rfl
theorem leastTo_succ {m : Wk} {s : St} {k : Nat} {r : List Int} (h : (rowsS m)[k]? = some r) :
    leastTo m s (k + 1) = if keptS m s r then min (leastTo m s k) (costS m r + valS m (stepS m s r)) else leastTo m s k := by
  unfold leastTo
  rw [List.take_add_one, h, List.foldl_append]
  rfl
theorem foldl_min_bd {α : Type} (p : α → Bool) (g : α → Int) : ∀ (l : List α) (z : Int), 0 ≤ z → z ≤ 2000000000 → (∀ a ∈ l, 0 ≤ g a) →
    0 ≤ l.foldl (fun a r => if p r then min a (g r) else a) z ∧ l.foldl (fun a r => if p r then min a (g r) else a) z ≤ 2000000000
  | [], z, h0, h1, _ => ⟨h0, h1⟩
  | a :: l, z, h0, h1, hg => by
    have h2 := hg a (by simp)
    rw [List.foldl_cons]
    refine foldl_min_bd p g l _ ?_ ?_ (fun b hb => hg b (by simp [hb]))
    · split <;> omega
    · split <;> omega
theorem valF_bd {m : Wk} (hm : m.Ok) : ∀ (n : Nat) (s : St), 0 ≤ valF m n s ∧ valF m n s ≤ 2000000000
  | 0, _ => by simp [valF]
  | n + 1, s => foldl_min_bd (fun r => keptS m s r) (fun r => costS m r + valF m n (stepS m s r)) _ _ (by omega) (by omega) (fun r hr => by
      have := (costS_bd hm (rowsS_mem hr).1).1
      have := (valF_bd hm n (stepS m s r)).1
      omega)
theorem valS_bd {m : Wk} (hm : m.Ok) (s : St) : 0 ≤ valS m s ∧ valS m s ≤ 2000000000 := valF_bd hm _ s
theorem leastTo_bd {m : Wk} (hm : m.Ok) (s : St) (k : Nat) : 0 ≤ leastTo m s k ∧ leastTo m s k ≤ 2000000000 :=
  foldl_min_bd (fun r => keptS m s r) (fun r => costS m r + valS m (stepS m s r)) _ _ (by omega) (by omega) (fun r hr => by
    have := (costS_bd hm (rowsS_mem (List.mem_of_mem_take hr)).1).1
    have := (valS_bd hm (stepS m s r)).1
    omega)

/-- A list of states that holds whatever can be come to from them. -/
structure Shut (m : Wk) (T : List St) : Prop where
  ok : ∀ t ∈ T, t.Ok m
  year : ∀ t ∈ T, t.y ≤ m.years
  next : ∀ t ∈ T, t.y < m.years → ∀ r ∈ rowsS m, keptS m t r = true → stepS m t r ∈ T
  few : T.length ≤ 2000

theorem nodup_length : ∀ (L T : List St), L.Nodup → (∀ t ∈ L, t ∈ T) → L.length ≤ T.length
  | [], _, _, _ => Nat.zero_le _
  | x :: L, T, hn, hs => by
    obtain ⟨hx, hn'⟩ := List.nodup_cons.1 hn
    have h1 : x ∈ T := hs x (by simp)
    have h2 := nodup_length L (T.erase x) hn' (fun t ht => (List.mem_erase_of_ne (fun e : t = x => hx (e ▸ ht))).2 (hs t (by simp [ht])))
    have h3 := List.length_erase_of_mem h1
    have h4 : 0 < T.length := List.length_pos_of_mem h1
    simp only [List.length_cons]
    omega

def memoF (m : Wk) (L : List St) : St → Option Int := fun t => if t ∈ L then some (valS m t) else none
/-- The map of values known: those of L. -/
structure Memo (m : Wk) (T : List St) (b : Nat) (w : World) (L : List St) : Prop where
  map : StMap w b L.length (memoF m L)
  nodup : L.Nodup
  sub : ∀ t ∈ L, t ∈ T
theorem Memo.few {m : Wk} {T : List St} {b : Nat} {w : World} {L : List St} (h : Memo m T b w L) (hT : Shut m T) : L.length ≤ 2000 := Nat.le_trans (nodup_length _ _ h.nodup h.sub) hT.few
theorem Memo.kept {m : Wk} {T : List St} {b : Nat} {w w' : World} {L : List St} (h : Memo m T b w L) (hk : w'.heap[b]? = w.heap[b]?) : Memo m T b w' L := ⟨h.map.kept hk, h.nodup, h.sub⟩
theorem StMap.same {w : World} {b n n' : Nat} {f g : St → Option Int} (h : StMap w b n f) (k : StMap w b n' g) (s : St) (hs : s.Wf) : (f s).isSome = (g s).isSome := by
  obtain ⟨D, ⟨es, clock, hb, F, hl, hD⟩, hf⟩ := h
  obtain ⟨D', ⟨es', clock', hb', F', hl', hD'⟩, hg⟩ := k
  rw [hb] at hb'
  simp only [Option.some.injEq, Obj.map.injEq] at hb'
  obtain ⟨rfl, rfl⟩ := hb'
  rw [← (hf s hs).1, ← (hg s hs).1, hD, hD']
theorem Memo.same {m : Wk} {T : List St} {b : Nat} {w : World} {L L' : List St} (h : Memo m T b w L) (k : Memo m T b w L') (hT : Shut m T) {t : St} (ht : t ∈ T) : t ∈ L ↔ t ∈ L' := by
  have := h.map.same k.map t (hT.ok t ht).wf
  unfold memoF at this
  by_cases h1 : t ∈ L <;> by_cases h2 : t ∈ L' <;> simp_all
theorem Memo.look {m : Wk} {T : List St} {b : Nat} {w : World} {L : List St} (h : Memo m T b w L) (s : St) (hs : s.Wf) :
    (Instr.lookup 120 (.map (some b)) (stV s) true).run Try.prog w = .ok (.tuple #[.int .i64 (if s ∈ L then valS m s else 0), .bool (decide (s ∈ L))]) w := by
  rw [h.map.look s hs]
  unfold memoF
  by_cases h1 : s ∈ L <;> simp [h1]
theorem Memo.store {m : Wk} {T : List St} {b : Nat} {w : World} {L : List St} (hm : m.Ok) (hT : Shut m T) (h : Memo m T b w L) {s : St} (hs : s ∈ T) (hn : s ∉ L) :
    ∃ w', (Instr.mapUpdate 120 (.map (some b)) (stV s) (.int .i64 (valS m s))).run Try.prog w = .ok () w' ∧ Memo m T b w' (s :: L) ∧ Bel (fun k => k = b) w w' := by
  have h1 := valS_bd hm s
  have h2 := h.few hT
  obtain ⟨w', hrun, hmp, hb⟩ := h.map.store s (hT.ok s hs).wf (valS m s) (by omega) (by unfold maxLen; omega)
  refine ⟨w', hrun, ⟨?_, List.nodup_cons.2 ⟨hn, h.nodup⟩, fun t ht => ?_⟩, hb⟩
  · have e : putS (memoF m L) s (valS m s) = memoF m (s :: L) := by
      funext t
      unfold putS memoF
      by_cases h1 : t = s
      · simp [h1]
      · simp [h1]
    rw [← e]; exact hmp
  · rcases List.mem_cons.1 ht with rfl | ht
    · exact hs
    · exact h.sub t ht

/-- What a call of value leaves: the map alone has turned; what is new in it are states of years from y on. -/
def Learnt (m : Wk) (T : List St) (b : Nat) (y : Int) (w w' : World) : Prop :=
  Bel (fun k => k = b) w w' ∧ ∀ L, Memo m T b w L → ∃ L', Memo m T b w' L' ∧ ∀ t ∈ L', t ∈ L ∨ y ≤ t.y
theorem Learnt.refl (m : Wk) (T : List St) (b : Nat) (y : Int) (w : World) : Learnt m T b y w w := ⟨Bel.refl _ _, fun L h => ⟨L, h, fun _ ht => .inl ht⟩⟩
theorem Learnt.trans {m : Wk} {T : List St} {b : Nat} {y : Int} {A B C : World} (h : Learnt m T b y A B) (k : Learnt m T b y B C) : Learnt m T b y A C :=
  ⟨h.1.trans k.1, fun L hL => by
    obtain ⟨L1, h1, h2⟩ := h.2 L hL
    obtain ⟨L2, h3, h4⟩ := k.2 L1 h1
    exact ⟨L2, h3, fun t ht => (h4 t ht).elim (fun h => h2 t h) .inr⟩⟩
theorem Learnt.mono {m : Wk} {T : List St} {b : Nat} {y y' : Int} {A B : World} (h : Learnt m T b y A B) (hy : y' ≤ y) : Learnt m T b y' A B :=
  ⟨h.1, fun L hL => by
    obtain ⟨L1, h1, h2⟩ := h.2 L hL
    exact ⟨L1, h1, fun t ht => (h2 t ht).imp id (fun h => by omega)⟩⟩
/-- Whatever leaves the map as it lay. -/
theorem Learnt.of_bel {m : Wk} {T : List St} {b : Nat} {y : Int} {S : Nat → Prop} {A B : World} (h : Bel S A B) (hb : b < A.heap.size) (hS : ¬ S b) (hl : ∀ k, k < A.heap.size → S k → k = b) : Learnt m T b y A B :=
  ⟨h.mono hl, fun L hL => ⟨L, hL.kept (h.block b hb hS), fun _ ht => .inl ht⟩⟩
theorem Learnt.of_below {m : Wk} {T : List St} {b : Nat} {y : Int} {A B : World} (h : Below A.heap.size A B) (hb : b < A.heap.size) : Learnt m T b y A B :=
  ⟨Bel.of_below h, fun L hL => ⟨L, hL.kept (h.block b hb), fun _ ht => .inl ht⟩⟩
end Go.Proofs.Ytnbnhcoaggpmaaa
