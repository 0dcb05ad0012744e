/- 'for row := range m.rows': the law. -/
import Derived.Test.YtccplobhfokcgaaMj
import Derived.RangeFuncFrom
namespace Go.Proofs.Ytccplobhfokcgaa
open Go Go.RowKit Go.Shelf
set_option maxRecDepth 100000

/-- What a round keeps: the iterator's own blocks lie as they lay. -/
def KeptMid (lo hi : Nat) (W W' : World) : Prop := W.heap.size ≤ W'.heap.size ∧ ∀ j, Mid lo hi j → W'.heap[j]? = W.heap[j]?
theorem KeptMid.refl (lo hi : Nat) (W : World) : KeptMid lo hi W W := ⟨Nat.le_refl _, fun _ _ => rfl⟩
theorem KeptMid.trans {lo hi : Nat} {A B C : World} (h : KeptMid lo hi A B) (k : KeptMid lo hi B C) : KeptMid lo hi A C := ⟨Nat.le_trans h.1 k.1, fun j hj => (k.2 j hj).trans (h.2 j hj)⟩
theorem KeptMid.of_bel {lo hi : Nat} {S : Nat → Prop} {A B : World} (h : Bel S A B) (hh : hi ≤ A.heap.size) (hs : ∀ j, S j → ¬ Mid lo hi j) : KeptMid lo hi A B :=
  ⟨h.size, fun j hj => h.block j (Nat.lt_of_lt_of_le hj.2 hh) (fun hS => hs j hS hj)⟩
def rowPost (lo B : Nat) (I : Nat → Nat → World → Prop) (Ix : Nat → Code → Nat → World → Prop) (k : Nat) (W : World) : Exit → Act → World → Prop
  | .normal, _, W' => KeptMid lo B W W' ∧ I B k W'
  | .ret, _, W' => KeptMid lo B W W' ∧ Ix B .ret k W'
  | .exit id, _, W' => KeptMid lo B W W' ∧ Ix B (.exit id) k W'
  | _, _, _ => False

/-- **'for row := range m.rows { .. }'**, outside a round. -/
theorem wpIn_rangeRows (m : Wk) (hm : 1 ≤ m.slopes.length ∧ m.slopes.length ≤ 4) (hc : m.crafts.length ≤ 4) (sA cA mA : Option Addr) (sc cn cc mc : Nat)
    {g : Operand} {p : Tmp} {assign body : Code} {Q : Exit → Act → World → Prop} {a : Act} {w : World}
    (hg : a.eval g = .func (.func 52) #[.agg #[.slice sA m.slopes.length sc, .slice cA cn cc, .int .i64 m.years, .int .i64 m.visit, .int .i64 m.hands, .slice mA m.crafts.length mc]] #[])
    (I : Nat → Nat → World → Prop) (Ix : Nat → Code → Nat → World → Prop)
    (hI : ∀ B k W1 W2, w.heap.size ≤ B → I B k W1 → Bel (Mid w.heap.size B) W1 W2 → I B k W2)
    (hIx : ∀ B c k W1 W2, w.heap.size ≤ B → Ix B c k W1 → Bel (Mid w.heap.size B) W1 W2 → Ix B c k W2)
    (h0 : ∀ B W1, w.heap.size ≤ B → B ≤ W1.heap.size → Below w.heap.size w W1 → I B 0 W1)
    (d : Tmp)
    (hassign : ∀ (l : Nat) (rv : Value) (W : World) (K : Act → World → Prop), K { tmps := (a.tmps.setIfInBounds p rv).setIfInBounds d rv, defers := [] } W →
      assign.wpIn (Fence.wide.inRound l) 8 Try.prog (Exit.then K (fun _ _ _ => False)) { tmps := a.tmps.setIfInBounds p rv, defers := [] } W)
    (hbody : ∀ (l B k : Nat) (W : World) (rv : Value) (row : List Int), w.heap.size + 2 ≤ B → B ≤ W.heap.size → (rowsS m)[k]? = some row → I B k W → IntsAt W B rv row →
      body.wpIn (Fence.wide.inRound l) 8 Try.prog (rowPost w.heap.size B I Ix (k + 1) W) { tmps := (a.tmps.setIfInBounds p rv).setIfInBounds d rv, defers := [] } W)
    (hdone : ∀ (B : Nat) (W : World), w.heap.size + 2 ≤ B → I B (rowsS m).length W → W.heap[w.heap.size]? = some (.deferred (some [])) →
      Q .normal { a with defers := { target := .collected w.heap.size, args := #[] } :: a.defers } W)
    (hstop : ∀ (B : Nat) (c : Code) (k : Nat) (W : World), w.heap.size + 2 ≤ B → 1 ≤ k → k ≤ (rowsS m).length → Ix B c k W → W.heap[w.heap.size]? = some (.deferred (some [])) →
      c.wpIn Fence.wide 10 Try.prog Q { a with defers := { target := .collected w.heap.size, args := #[] } :: a.defers } W) :
    (Code.rangeFunc g #[p] assign body).wpIn Fence.wide 10 Try.prog Q a w := by
  refine wpIn_rangeFunc ?_
  intro fn hfn
  obtain ⟨rec, hrec⟩ : ∃ rec : LoopState → Option Code → Loop, rec = fun st pe => { state := st, pending := pe, fn, tmps := a.tmps, params := #[p], assign, body, defers := w.heap.size } := ⟨_, rfl⟩
  obtain ⟨W1, hW1⟩ : ∃ W1, (w.alloc (.deferred (some []))).alloc (.loop (rec .ready none)) = W1 := ⟨_, rfl⟩
  have hL1 : W1.heap[w.heap.size + 1]? = some (.loop (rec .ready none)) := by
    rw [← hW1]; have := World.alloc_heap_new (w.alloc (.deferred (some []))) (.loop (rec .ready none)); rwa [World.size_alloc] at this
  have hK1 : W1.heap[w.heap.size]? = some (.deferred (some [])) := by
    rw [← hW1]; exact (Below.heap_alloc _ _ _ (by simp)).trans (World.alloc_heap_new w _)
  have hb1 : Below w.heap.size w W1 := by
    rw [← hW1]; exact ((Below.refl _ w).alloc (Nat.le_refl _) _).alloc (by simp) _
  have hz1 : W1.heap.size = w.heap.size + 2 := by rw [← hW1]; simp
  refine ⟨w.heap.size + 1, [{ target := .collected w.heap.size, args := #[] }], W1, { target := .fn (.func 52) #[], args := #[.agg #[.slice sA m.slopes.length sc, .slice cA cn cc, .int .i64 m.years, .int .i64 m.visit, .int .i64 m.hands, .slice mA m.crafts.length mc], .func (.yield (w.heap.size + 1)) #[] #[]] }, W1, 52,
    #[.agg #[.slice sA m.slopes.length sc, .slice cA cn cc, .int .i64 m.years, .int .i64 m.visit, .int .i64 m.hands, .slice mA m.crafts.length mc], .func (.yield (w.heap.size + 1)) #[] #[]], W1, ?_, ?_, ?_, ?_, fun _ => by decide, ?_⟩
  · rw [← hW1, hrec]; exact run_enterLoop_outer _ _ _ _ _
  · simp only [resolve, hg]
    simp [go_sem]
  · intro f' hf'; exact trivial
  · simp [invoke, go_sem]
  · refine (rows_in m hm hc sA cA mA sc cn cc mc (w.heap.size + 1) W1
      (fun B k W => w.heap.size + 2 ≤ B ∧ I B k W ∧ W.heap[w.heap.size + 1]? = some (.loop (rec .ready none)) ∧ W.heap[w.heap.size]? = some (.deferred (some [])))
      (fun B k W => w.heap.size + 2 ≤ B ∧ ∃ c, Ix B c k W ∧ W.heap[w.heap.size + 1]? = some (.loop (rec .done (some c))) ∧ W.heap[w.heap.size]? = some (.deferred (some [])))
      ?_ ?_ ?_).mono ?_
    · rintro B k Wa Wb hB ⟨hB2, hi, hl, hk⟩ hbel
      exact ⟨hB2, hI B k Wa Wb (by omega) hi (hbel.mono fun j _ hj => ⟨by have := hj.1; omega, hj.2⟩), hbel.heap hl (fun h => by have := h.1; omega), hbel.heap hk (fun h => by have := h.1; omega)⟩
    · intro B Wb hB hBW hbel
      refine ⟨by omega, h0 B Wb (by omega) hBW (hb1.trans (hbel.mono (by omega))), ?_, ?_⟩
      · exact blk_below hbel hL1 (by omega)
      · exact blk_below hbel hK1 (by omega)
    · rintro B k W rv row hB hBW hrow ⟨hB2, hi, hl, hk⟩ hrv
      have hlt : w.heap.size + 1 < W.heap.size := lt_blk hl
      have hy : (Instr.yield (w.heap.size + 1) #[rv]).run Try.prog W = .ok (.round (w.heap.size + 1) fn (a.tmps.setIfInBounds p rv) assign body) W := by
        have := run_yield (P := Try.prog) (args := #[rv]) hl (by rw [hrec]; rfl)
        rw [hrec] at this
        simpa using this
      refine ⟨fn, _, assign, body, hy, roundIn_of_wpIn hfn (hassign _ rv W _ ?_)⟩
      refine ⟨_, run_beginRound hl (by rw [hrec]), ?_⟩
      have hl2 : (W.putObj (w.heap.size + 1) (.loop { rec .ready none with state := .busy })).heap[w.heap.size + 1]? = some (.loop { rec .ready none with state := .busy }) := World.putObj_heap_same hlt
      have hk2 : (W.putObj (w.heap.size + 1) (.loop { rec .ready none with state := .busy })).heap[w.heap.size]? = some (.deferred (some [])) := (World.putObj_heap_other (by omega)).trans hk
      have hbel2 : Bel (fun j => j = w.heap.size + 1) W (W.putObj (w.heap.size + 1) (.loop { rec .ready none with state := .busy })) := (Bel.refl (fun j => j = w.heap.size + 1) W).putObj (fun _ => rfl) _
      have hm1 : ∀ j, j < W.heap.size → j = w.heap.size + 1 → Mid w.heap.size B j := fun j _ e => ⟨by omega, by omega⟩
      refine wpIn_mono (hbody _ B k _ rv row hB2 (Nat.le_trans hBW hbel2.size) hrow (hI B k _ _ (by omega) hi (hbel2.mono hm1)) ?_) ?_
      · obtain ⟨A, c, rfl, hlen, hcells⟩ := hrv
        refine ⟨A, c, rfl, hlen, fun hne => ?_⟩
        obtain ⟨b, o, hA, hb, hcs⟩ := hcells hne
        refine ⟨b, o, hA, hb, fun j u hu => ?_⟩
        have := hcs j u hu
        by_cases hbe : b = w.heap.size + 1
        · subst hbe
          rw [World.cell?, hl] at this
          simp at this
        · rw [← this, World.cell?, World.cell?, World.putObj_heap_other hbe]
      have fin : ∀ (jump : Option Code) (W3 : World), KeptMid w.heap.size B (W.putObj (w.heap.size + 1) (.loop { rec .ready none with state := .busy })) W3 →
          (Instr.endRound (w.heap.size + 1) jump).run Try.prog W3 = .ok (.bool jump.isNone) (W3.putObj (w.heap.size + 1) (.loop (rec (if jump.isNone then .ready else .done) jump))) ∧
          (W3.putObj (w.heap.size + 1) (.loop (rec (if jump.isNone then .ready else .done) jump))).heap[w.heap.size + 1]? = some (.loop (rec (if jump.isNone then .ready else .done) jump)) ∧
          (W3.putObj (w.heap.size + 1) (.loop (rec (if jump.isNone then .ready else .done) jump))).heap[w.heap.size]? = some (.deferred (some [])) ∧
          Bel (fun j => j = w.heap.size + 1) W3 (W3.putObj (w.heap.size + 1) (.loop (rec (if jump.isNone then .ready else .done) jump))) := fun jump W3 hk3 => by
        have hl3 := (hk3.2 _ ⟨by omega, by omega⟩).trans hl2
        have := run_endRound (P := Try.prog) jump hl3
        rw [hrec] at this ⊢
        exact ⟨this, World.putObj_heap_same (lt_blk hl3), (World.putObj_heap_other (by omega)).trans ((hk3.2 _ ⟨by omega, by omega⟩).trans hk2), (Bel.refl (fun j => j = w.heap.size + 1) W3).putObj (fun _ => rfl) _⟩
      rintro e a3 W3 hp
      cases e with
      | normal =>
        obtain ⟨hk3, hi3⟩ := hp
        obtain ⟨hr, hl4, hk4, hb4⟩ := fin none W3 hk3
        refine ⟨_, _, hr, .inl ⟨rfl, ⟨hB2, hI B _ _ _ (by omega) hi3 (hb4.mono fun j _ e => ⟨by omega, by omega⟩), hl4, hk4⟩, Nat.le_trans hbel2.size (Nat.le_trans hk3.1 hb4.size), fun j hj => ?_⟩⟩
        have hj1 := hj.1
        have hne : j ≠ w.heap.size + 1 := by omega
        exact (World.putObj_heap_other hne).trans ((hk3.2 j ⟨by omega, hj.2⟩).trans (World.putObj_heap_other hne))
      | ret =>
        obtain ⟨hk3, hi3⟩ := hp
        obtain ⟨hr, hl4, hk4, hb4⟩ := fin (some .ret) W3 hk3
        exact ⟨_, _, hr, .inr ⟨rfl, hB2, .ret, hIx B _ _ _ _ (by omega) hi3 (hb4.mono fun j _ e => ⟨by omega, by omega⟩), hl4, hk4⟩⟩
      | exit id =>
        obtain ⟨hk3, hi3⟩ := hp
        obtain ⟨hr, hl4, hk4, hb4⟩ := fin (some (.exit id)) W3 hk3
        exact ⟨_, _, hr, .inr ⟨rfl, hB2, .exit id, hIx B _ _ _ _ (by omega) hi3 (hb4.mono fun j _ e => ⟨by omega, by omega⟩), hl4, hk4⟩⟩
      | goto t => exact hp.elim
      | panic ch => exact hp.elim
      | outgrown => exact hp.elim
    · rintro e W2 ⟨⟨v, rfl⟩, B, hB, (⟨hB2, hi, hl, hk⟩ | ⟨k, hk1, hkn, hB2, c, hi, hl, hk⟩)⟩
      · refine ⟨none, _, by have := run_endLoop (P := Try.prog) hl (by rw [hrec]; simp); rw [hrec] at this; exact this, hdone B _ hB2 (hI B _ _ _ (by omega) hi ((Bel.refl (Mid w.heap.size B) W2).putObj (fun _ => ⟨by omega, by omega⟩) _)) ((World.putObj_heap_other (by omega)).trans hk)⟩
      · refine ⟨some c, _, by have := run_endLoop (P := Try.prog) hl (by rw [hrec]; simp); rw [hrec] at this; exact this, hstop B c k _ hB2 hk1 hkn (hIx B c _ _ _ (by omega) hi ((Bel.refl (Mid w.heap.size B) W2).putObj (fun _ => ⟨by omega, by omega⟩) _)) ((World.putObj_heap_other (by omega)).trans hk)⟩
end Go.Proofs.Ytccplobhfokcgaa
