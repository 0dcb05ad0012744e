/- Maps keyed by states. -/
import Derived.Test.YtccplobhfokcgaaMl
import Derived.Maps.OwnSet
import Derived.Maps.OwnOps
import Derived.Maps.RangeWalk
import Derived.DeepKeys4
namespace Go.Proofs.Ytccplobhfokcgaa
open Go Go.RowKit Go.Shelf
set_option maxRecDepth 100000

def stV (s : St) : Value := .agg #[.int .i64 s.y, .int .i64 s.a, .int .i64 s.b, .int .i64 s.c, .int .i64 s.d]
structure St.Wf (s : St) : Prop where
  y : -9223372036854775808 ≤ s.y ∧ s.y ≤ 9223372036854775807
  a : -9223372036854775808 ≤ s.a ∧ s.a ≤ 9223372036854775807
  b : -9223372036854775808 ≤ s.b ∧ s.b ≤ 9223372036854775807
  c : -9223372036854775808 ≤ s.c ∧ s.c ≤ 9223372036854775807
  d : -9223372036854775808 ≤ s.d ∧ s.d ≤ 9223372036854775807
theorem St.Ok.wf {m : Wk} {s : St} (h : s.Ok m) : s.Wf := by
  obtain ⟨h1, h2, h3, h4, h5⟩ := h
  exact ⟨by omega, by omega, by omega, by omega, by omega⟩

theorem keyLaidOut : laidOutB Try.prog = true := by kernel_rfl
theorem keyRow : (79 : TypeId) < Try.prog.types.size := of_decide_eq_true (by kernel_rfl)
theorem keyWide : (match Try.prog.underlying 79 with | some (.array _ _) | some (.struct _) => true | _ => false) = true := by kernel_rfl
theorem keyLaw : Maps.Keyed Try.prog 79 := Maps.Keyed.of_law (deep_law_laid keyLaidOut (m := 3) (by omega) keyRow (by kernel_rfl) keyWide)
theorem keyDeep : Try.prog.keyType 79 = true := by kernel_rfl

theorem wf_lit {a : Int} (h : -9223372036854775808 ≤ a ∧ a ≤ 9223372036854775807) : (Lit.int .i64 a).wf = true := by
  have h1 : IntKind.i64.min = -9223372036854775808 := by decide
  have h2 : IntKind.i64.max = 9223372036854775807 := by decide
  simp [Lit.wf, h1, h2]
  omega
theorem keyCells : Try.prog.cellsOf 79 = 5 := by kernel_rfl
theorem keyCells2 : Try.prog.cellsOf 77 = 4 := by kernel_rfl
theorem keyCells3 : Try.prog.cellsOf 3 = 1 := by kernel_rfl
theorem keyOf_st (s : St) (h : s.Wf) : ∃ l, keyOf Try.prog 79 (stV s) = some l := by
  obtain ⟨h1, h2, h3, h4, h5⟩ := h
  have w1 := wf_lit h1
  have w2 := wf_lit h2
  have w3 := wf_lit h3
  have w4 := wf_lit h4
  have w5 := wf_lit h5
  have hr : (79 : Nat) < Try.prog.types.size := of_decide_eq_true (by kernel_rfl)
  obtain ⟨d, hd⟩ : ∃ d, Try.prog.types.size + 1 = d + 3 := ⟨Try.prog.types.size - 2, by omega⟩
  unfold keyOf
  rw [Try.underlying79]
  simp only [keyDeep, Value.formed, Try.underlying79, keyCells, hd, stV]
  simp [Value.cells, Program.keyLits, Try.underlying79, Try.underlying77, Try.underlying3, keyCells, keyCells2, keyCells3, List.range_succ, w1, w2, w3, w4, w5]

/-- The key that a state reads as. -/
noncomputable def stK (s : St) : Lit := (keyOf Try.prog 79 (stV s)).getD (.bool false)
theorem stK_eq (s : St) (h : s.Wf) : keyOf Try.prog 79 (stV s) = some (stK s) := by
  obtain ⟨l, hl⟩ := keyOf_st s h
  unfold stK; rw [hl]; rfl
theorem stK_inj {s t : St} (hs : s.Wf) (ht : t.Wf) (h : stK s = stK t) : s = t := by
  have := keyLaw.inj (stK_eq s hs) (h ▸ stK_eq t ht)
  unfold stV at this
  cases s; cases t
  simp at this
  simp [this]
theorem stK_key (s : St) (h : s.Wf) : WideAt.IsKeyLit (stK s) := keyLaw.key (stK_eq s h)

/-- Block b is a map from states to numbers, of at most n entries, that holds f. -/
def StMap (w : World) (b n : Nat) (f : St → Option Int) : Prop :=
  ∃ D : DataW Unit, w.ownsMap Try.prog 79 (plainElem Try.prog 3) b n D ∧ ∀ s : St, s.Wf → Maps.has D (stK s) = (f s).isSome ∧ ∀ x, f s = some x → D.atKey (stK s) (.lit (.int .i64 0)) = .lit (.int .i64 x)
theorem StMap.made (w : World) : StMap (w.alloc (.map #[] 0)) w.heap.size 0 (fun _ => none) :=
  ⟨.map [], World.ownsMap_made _ _ _ _, fun s _ => ⟨by simp [Maps.has], fun x h => by cases h⟩⟩
theorem StMap.kept {w w' : World} {b n : Nat} {f : St → Option Int} (h : StMap w b n f) (hk : w'.heap[b]? = w.heap[b]?) : StMap w' b n f := by
  obtain ⟨D, ⟨es, clock, hb, rest⟩, hf⟩ := h
  exact ⟨D, ⟨es, clock, hk.trans hb, rest⟩, hf⟩
theorem StMap.mono {w : World} {b n n' : Nat} {f : St → Option Int} (h : StMap w b n f) (hn : n ≤ n') : StMap w b n' f := by
  obtain ⟨D, ho, hf⟩ := h
  exact ⟨D, ho.mono hn, hf⟩
theorem StMap.lt {w : World} {b n : Nat} {f : St → Option Int} (h : StMap w b n f) : b < w.heap.size := by
  obtain ⟨D, ho, hf⟩ := h
  exact ho.lt
theorem StMap.obj {w : World} {b n : Nat} {f : St → Option Int} (h : StMap w b n f) : ∃ es clock, w.heap[b]? = some (.map es clock) := by
  obtain ⟨D, ⟨es, clock, hb, rest⟩, hf⟩ := h
  exact ⟨es, clock, hb⟩
theorem zeroInt (w : World) : (zeroValue 3).run Try.prog w = .ok (.int .i64 0) w := by kernel_rfl
theorem StMap.look {w : World} {b n : Nat} {f : St → Option Int} (h : StMap w b n f) (s : St) (hs : s.Wf) :
    (Instr.lookup 107 (.map (some b)) (stV s) true).run Try.prog w = .ok (.tuple #[.int .i64 ((f s).getD 0), .bool (f s).isSome]) w := by
  obtain ⟨D, ho, hf⟩ := h
  obtain ⟨h1, h2⟩ := hf s hs
  obtain ⟨v, ps, hrun, hv⟩ := ho.look_ok keyLaw Try.underlying107 (zeroInt w) (plainElem_int Try.underlying3 (by decide)) (stK_eq s hs)
  rw [hrun, h1]
  obtain ⟨c, rfl, hc, _⟩ := plainElem_int_inv Try.underlying3 hv
  simp only [Prod.mk.injEq] at hc
  cases hfs : f s with
  | none =>
    rw [hfs] at h1
    rw [Maps.atKey_of_not_has h1] at hc
    have := hc.1
    simp at this
    simp [← this]
  | some x =>
    rw [h2 x hfs] at hc
    have := hc.1
    simp at this
    simp [this]
def putS (f : St → Option Int) (s : St) (x : Int) : St → Option Int := fun t => if t = s then some x else f t
theorem StMap.store {w : World} {b n : Nat} {f : St → Option Int} (h : StMap w b n f) (s : St) (hs : s.Wf) (x : Int) (hx : -9223372036854775808 ≤ x ∧ x ≤ 9223372036854775807) (hn : n < maxLen) :
    ∃ w', (Instr.mapUpdate 107 (.map (some b)) (stV s) (.int .i64 x)).run Try.prog w = .ok () w' ∧ StMap w' b (n + 1) (putS f s x) ∧ Bel (fun k => k = b) w w' := by
  obtain ⟨D, ho, hf⟩ := h
  obtain ⟨w', hrun, ho', hg⟩ := ho.update keyLaw Try.underlying107 hn (stK_eq s hs) (plainElem_int Try.underlying3 (wf_lit hx))
  have hM := ho.isMap
  refine ⟨w', hrun, ⟨_, ho', fun t ht => ?_⟩, ⟨hg.os, hg.tape, hg.output, hg.size, fun k hk hne => hg.block k hk (fun e => hne (by simpa using e))⟩⟩
  unfold putS
  by_cases hts : t = s
  · subst hts
    rw [if_pos rfl, Maps.has_put_same hM (stK_key t hs)]
    refine ⟨rfl, fun y hy => ?_⟩
    rw [Maps.atKey_put_same hM (stK_key t hs)]
    simp at hy
    rw [hy]
  · have hne : stK t ≠ stK s := fun e => hts (stK_inj ht hs e)
    rw [if_neg hts, Maps.has_put_other hne]
    refine ⟨(hf t ht).1, fun y hy => ?_⟩
    rw [Maps.atKey_put_other hne]
    exact (hf t ht).2 y hy

/-- Block b is a set of states, of at most n. -/
def StSet (w : World) (b n : Nat) (f : St → Bool) : Prop :=
  ∃ D : DataW Unit, w.ownsMap Try.prog 79 unitElem b n D ∧ ∀ s : St, s.Wf → Maps.has D (stK s) = f s
theorem StSet.made (w : World) : StSet (w.alloc (.map #[] 0)) w.heap.size 0 (fun _ => false) :=
  ⟨.map [], World.ownsMap_made _ _ _ _, fun s _ => by simp [Maps.has]⟩
theorem StSet.kept {w w' : World} {b n : Nat} {f : St → Bool} (h : StSet w b n f) (hk : w'.heap[b]? = w.heap[b]?) : StSet w' b n f := by
  obtain ⟨D, ⟨es, clock, hb, rest⟩, hf⟩ := h
  exact ⟨D, ⟨es, clock, hk.trans hb, rest⟩, hf⟩
theorem StSet.mono {w : World} {b n n' : Nat} {f : St → Bool} (h : StSet w b n f) (hn : n ≤ n') : StSet w b n' f := by
  obtain ⟨D, ho, hf⟩ := h
  exact ⟨D, ho.mono hn, hf⟩
theorem StSet.lt {w : World} {b n : Nat} {f : St → Bool} (h : StSet w b n f) : b < w.heap.size := by
  obtain ⟨D, ho, hf⟩ := h
  exact ho.lt
theorem StSet.obj {w : World} {b n : Nat} {f : St → Bool} (h : StSet w b n f) : ∃ es clock, w.heap[b]? = some (.map es clock) := by
  obtain ⟨D, ⟨es, clock, hb, rest⟩, hf⟩ := h
  exact ⟨es, clock, hb⟩
theorem zeroUnit (w : World) : (zeroValue 70).run Try.prog w = .ok (.agg #[]) w := by kernel_rfl
theorem StSet.look {w : World} {b n : Nat} {f : St → Bool} (h : StSet w b n f) (s : St) (hs : s.Wf) :
    (Instr.lookup 121 (.map (some b)) (stV s) true).run Try.prog w = .ok (.tuple #[.agg #[], .bool (f s)]) w := by
  obtain ⟨D, ho, hf⟩ := h
  obtain ⟨v, ps, hrun, hv⟩ := ho.look_ok keyLaw Try.underlying121 (zeroUnit w) unitElem_mk (stK_eq s hs)
  obtain ⟨rfl, _⟩ := unitElem_inv hv
  rw [hrun, hf s hs]
theorem StSet.store {w : World} {b n : Nat} {f : St → Bool} (h : StSet w b n f) (s : St) (hs : s.Wf) (hn : n < maxLen) :
    ∃ w', (Instr.mapUpdate 121 (.map (some b)) (stV s) (.agg #[])).run Try.prog w = .ok () w' ∧ StSet w' b (n + 1) (fun t => if t = s then true else f t) ∧ Bel (fun k => k = b) w w' := by
  obtain ⟨D, ho, hf⟩ := h
  obtain ⟨w', hrun, ho', hg⟩ := ho.update keyLaw Try.underlying121 hn (stK_eq s hs) unitElem_mk
  have hM := ho.isMap
  refine ⟨w', hrun, ⟨_, ho', fun t ht => ?_⟩, ⟨hg.os, hg.tape, hg.output, hg.size, fun k hk hne => hg.block k hk (fun e => hne (by simpa using e))⟩⟩
  by_cases hts : t = s
  · subst hts
    rw [Maps.has_put_same hM (stK_key t hs)]; simp
  · have hne : stK t ≠ stK s := fun e => hts (stK_inj ht hs e)
    rw [Maps.has_put_other hne, hf t ht]; simp [hts]
end Go.Proofs.Ytccplobhfokcgaa
