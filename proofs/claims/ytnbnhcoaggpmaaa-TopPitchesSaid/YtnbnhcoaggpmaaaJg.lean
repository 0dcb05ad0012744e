/- Roofs: 'for i, s := range sides(l)': the laws, by itself and within a round. -/
import Derived.Test.YtnbnhcoaggpmaaaJf

namespace Go.Proofs.Ytnbnhcoaggpmaaa
open Go Go.RowKit Go.Shelf
set_option maxRecDepth 100000

theorem room_none {F : Fence} (hd : F.depth = none) (k : Nat) : F.room k := fun d h => by rw [hd] at h; cases h
theorem roundIn_any {F : Fence} (hd : F.depth = none) {m m' : Nat} {P : Program} {l : Nat} {f : FuncId} {tmps : Array Value} {assign body : Code} {w : World} {R : Ending → World → Prop} (h : RoundIn F m P l f tmps assign body w R) : RoundIn F m' P l f tmps assign body w R :=
  ⟨h.1, fun c cs _ => h.2 c cs (room_none hd _)⟩
theorem yieldAt_any {F : Fence} (hd : F.depth = none) {m : Nat} (m' : Nat) {P : Program} {l : Nat} {args : Array Value} {W : World} {R : Ending → World → Prop} (h : YieldAt F m P l args W R) : YieldAt F m' P l args W R := by
  obtain ⟨fn, tmps, assign, body, hy, hR⟩ := h
  exact ⟨fn, tmps, assign, body, hy, roundIn_any hd hR⟩
/-- What a round keeps of its loop's blocks. -/
def KeptJ (S : Nat → Prop) (W W' : World) : Prop := W.heap.size ≤ W'.heap.size ∧ ∀ j, S j → W'.heap[j]? = W.heap[j]?
def sidePost (S : Nat → Prop) (I : World → Prop) (Ix : Code → World → Prop) (W : World) : Exit → Act → World → Prop
  | .normal, _, W' => KeptJ S W W' ∧ I W'
  | .ret, _, W' => KeptJ S W W' ∧ Ix .ret W'
  | .exit id, _, W' => KeptJ S W W' ∧ Ix (.exit id) W'
  | _, _, _ => False
def sideO (x0 y0 x1 y1 : Int) : Obj := .cells #[.int .i64 x0, .int .i64 y0, .int .i64 x1, .int .i64 y1] 65 (0, 0)
def sideG (x0 y0 x1 y1 : Int) : Value := .agg #[.int .i64 x0, .int .i64 y0, .int .i64 x1, .int .i64 y1]
theorem wpIn_rangeSides (A : Option Addr) (n c : Nat) (ps : List (Int × Int)) (bx n0 : Nat) {g : Operand} {p1 p2 d : Tmp} {assign body : Code} {Q : Exit → Act → World → Prop} {a : Act} {w : World}
    (hg : a.eval g = .func (.func 44) #[] #[.pointer (some ⟨bx, 0, none⟩)])
    (I : World → Prop) (Ix : Code → World → Prop)
    (hIa : ∀ W1, I W1 → W1.heap[bx]? = some (.cells #[.slice A n c] 36 (0, 0)) ∧ AtsAt W1 n0 (.slice A n c) ps ∧ n0 ≤ W1.heap.size)
    (hI : ∀ W1 W2, I W1 → Bel (fun j => j = w.heap.size ∨ j = w.heap.size + 1) W1 W2 → I W2)
    (hIx : ∀ c W1 W2, Ix c W1 → Bel (fun j => j = w.heap.size ∨ j = w.heap.size + 1) W1 W2 → Ix c W2)
    (h0 : ∀ W1, Below w.heap.size w W1 → w.heap.size + 2 ≤ W1.heap.size → I W1)
    (hassign : ∀ (l : Nat) (i x0 y0 x1 y1 : Int) (W : World) (K : Act → World → Prop), K { tmps := ((a.tmps.setIfInBounds p1 (.int .i64 i)).setIfInBounds p2 (sideG x0 y0 x1 y1)).setIfInBounds d (.pointer (some ⟨W.heap.size, 0, none⟩)), defers := [] } (W.alloc (sideO x0 y0 x1 y1)) →
      assign.wpIn (Fence.wide.inRound l) 8 Try.prog (Exit.then K (fun _ _ _ => False)) { tmps := (a.tmps.setIfInBounds p1 (.int .i64 i)).setIfInBounds p2 (sideG x0 y0 x1 y1), defers := [] } W)
    (hbody : ∀ (l sb : Nat) (i x0 y0 x1 y1 : Int) (W : World), I W → W.heap[sb]? = some (sideO x0 y0 x1 y1) → w.heap.size + 2 ≤ sb → (∃ r1, W.heap[l]? = some (.loop r1)) → (fun j => j = w.heap.size ∨ j = w.heap.size + 1) l →
      body.wpIn (Fence.wide.inRound l) 8 Try.prog (sidePost (fun j => j = w.heap.size ∨ j = w.heap.size + 1) I Ix W) { tmps := ((a.tmps.setIfInBounds p1 (.int .i64 i)).setIfInBounds p2 (sideG x0 y0 x1 y1)).setIfInBounds d (.pointer (some ⟨sb, 0, none⟩)), defers := [] } W)
    (hdone : ∀ (W : World), I W → W.heap[w.heap.size]? = some (.deferred (some [])) → Q .normal { a with defers := { target := .collected w.heap.size, args := #[] } :: a.defers } W)
    (hstop : ∀ (c : Code) (W : World), Ix c W → W.heap[w.heap.size]? = some (.deferred (some [])) → c.wpIn Fence.wide 10 Try.prog Q { a with defers := { target := .collected w.heap.size, args := #[] } :: a.defers } W) :
    (Code.rangeFunc g #[p1, p2] assign body).wpIn Fence.wide 10 Try.prog Q a w := by
  refine wpIn_rangeFunc ?_
  intro fn hfn
  obtain ⟨rec, hrec⟩ : ∃ rec : LoopState → Option Code → Loop, rec = fun st pe => { state := st, pending := pe, fn, tmps := a.tmps, params := #[p1, p2], assign, body, defers := w.heap.size } := ⟨_, rfl⟩
  obtain ⟨W1, hW1⟩ : ∃ W1, (w.alloc (.deferred (some []))).alloc (.loop (rec .ready none)) = W1 := ⟨_, rfl⟩
  have hL1 : W1.heap[w.heap.size + 1]? = some (.loop (rec .ready none)) := by
    rw [← hW1]; have := World.alloc_heap_new (w.alloc (.deferred (some []))) (.loop (rec .ready none)); rwa [World.size_alloc] at this
  have hb1 : Below w.heap.size w W1 := by
    rw [← hW1]; exact ((Below.refl _ w).alloc (Nat.le_refl _) _).alloc (by simp) _
  have hz1 : W1.heap.size = w.heap.size + 2 := by rw [← hW1]; simp
  have hK1 : W1.heap[w.heap.size]? = some (.deferred (some [])) := by
    rw [← hW1]; exact (Below.heap_alloc _ _ _ (by simp)).trans (World.alloc_heap_new w _)
  refine ⟨w.heap.size + 1, [{ target := .collected w.heap.size, args := #[] }], W1, { target := .fn (.func 44) #[.pointer (some ⟨bx, 0, none⟩)], args := #[.func (.yield (w.heap.size + 1)) #[] #[]] }, W1, 44,
    #[.func (.yield (w.heap.size + 1)) #[] #[], .pointer (some ⟨bx, 0, none⟩)], W1, ?_, ?_, ?_, ?_, fun _ => by decide, ?_⟩
  · rw [← hW1, hrec]; exact run_enterLoop_outer _ _ _ _ _
  · simp only [resolve, hg]
    simp [go_sem]
  · intro f' hf'; exact trivial
  · simp [invoke, go_sem]
  · refine ( sides_in bx (w.heap.size + 1) n0 (.slice A n c) ps W1
      (fun W => I W ∧ W.heap[w.heap.size + 1]? = some (.loop (rec .ready none)) ∧ W.heap[w.heap.size]? = some (.deferred (some [])))
      (fun W => ∃ c, Ix c W ∧ W.heap[w.heap.size + 1]? = some (.loop (rec .done (some c))) ∧ W.heap[w.heap.size]? = some (.deferred (some [])))
      (fun W1 h => hIa W1 h.1) ?_ ?_ ?_).mono ?_
    · rintro Wa Wb ⟨hi, hl, hk⟩ hbel
      exact ⟨hI Wa Wb hi (Bel.of_below hbel), blk_below hbel hl (lt_blk hl), blk_below hbel hk (lt_blk hk)⟩
    · exact ⟨h0 W1 hb1 (by omega), hL1, hK1⟩
    · rintro i x0 y0 x1 y1 W ⟨hi, hl, hk⟩
      have hlt : w.heap.size + 1 < W.heap.size := lt_blk hl
      have hy : (Instr.yield (w.heap.size + 1) #[.int .i64 i, sideG x0 y0 x1 y1]).run Try.prog W = .ok (.round (w.heap.size + 1) fn ((a.tmps.setIfInBounds p1 (.int .i64 i)).setIfInBounds p2 (sideG x0 y0 x1 y1)) assign body) W := by
        have := run_yield (P := Try.prog) (args := #[.int .i64 i, sideG x0 y0 x1 y1]) hl (by rw [hrec]; rfl)
        rw [hrec] at this
        simpa using this
      refine ⟨fn, _, assign, body, hy, roundIn_of_wpIn hfn (hassign _ i x0 y0 x1 y1 W _ ?_)⟩
      have hl0 : (W.alloc (sideO x0 y0 x1 y1)).heap[w.heap.size + 1]? = some (.loop (rec .ready none)) := blk_below (below1 _ _) hl hlt
      have hs0 : (W.alloc (sideO x0 y0 x1 y1)).heap[W.heap.size]? = some (sideO x0 y0 x1 y1) := heap_alloc_self _ _
      have hi0 : I (W.alloc (sideO x0 y0 x1 y1)) := hI _ _ hi (Bel.of_below (below1 _ _))
      have hlt0 : w.heap.size + 1 < (W.alloc (sideO x0 y0 x1 y1)).heap.size := lt_blk hl0
      have hk0 : (W.alloc (sideO x0 y0 x1 y1)).heap[w.heap.size]? = some (.deferred (some [])) := blk_below (below1 _ _) hk (lt_blk hk)
      refine ⟨_, run_beginRound hl0 (by rw [hrec]), ?_⟩
      generalize hV : W.alloc (sideO x0 y0 x1 y1) = V at *
      have hl2 : (V.putObj (w.heap.size + 1) (.loop { rec .ready none with state := .busy })).heap[w.heap.size + 1]? = some (.loop { rec .ready none with state := .busy }) := World.putObj_heap_same hlt0
      have hk2 : (V.putObj (w.heap.size + 1) (.loop { rec .ready none with state := .busy })).heap[w.heap.size]? = some (.deferred (some [])) := (World.putObj_heap_other (by omega)).trans hk0
      have hs2 : (V.putObj (w.heap.size + 1) (.loop { rec .ready none with state := .busy })).heap[W.heap.size]? = some (sideO x0 y0 x1 y1) := (World.putObj_heap_other (by omega)).trans hs0
      have hbel2 : Bel (fun j => j = w.heap.size ∨ j = w.heap.size + 1) V (V.putObj (w.heap.size + 1) (.loop { rec .ready none with state := .busy })) := (Bel.refl (fun j => j = w.heap.size ∨ j = w.heap.size + 1) V).putObj (fun _ => .inr rfl) _
      refine wpIn_mono (hbody _ W.heap.size i x0 y0 x1 y1 _ (hI _ _ hi0 hbel2) hs2 (by omega) ⟨_, hl2⟩ (.inr rfl)) ?_
      have fin : ∀ (jump : Option Code) (W3 : World), KeptJ (fun j => j = w.heap.size ∨ j = w.heap.size + 1) (V.putObj (w.heap.size + 1) (.loop { rec .ready none with state := .busy })) W3 →
          (Instr.endRound (w.heap.size + 1) jump).run Try.prog W3 = .ok (.bool jump.isNone) (W3.putObj (w.heap.size + 1) (.loop (rec (if jump.isNone then .ready else .done) jump))) ∧
          (W3.putObj (w.heap.size + 1) (.loop (rec (if jump.isNone then .ready else .done) jump))).heap[w.heap.size + 1]? = some (.loop (rec (if jump.isNone then .ready else .done) jump)) ∧
          ((W3.putObj (w.heap.size + 1) (.loop (rec (if jump.isNone then .ready else .done) jump))).heap[w.heap.size]? = some (.deferred (some []))) ∧
          Bel (fun j => j = w.heap.size ∨ j = w.heap.size + 1) W3 (W3.putObj (w.heap.size + 1) (.loop (rec (if jump.isNone then .ready else .done) jump))) := fun jump W3 hk3 => by
        have hl3 := (hk3.2 _ (.inr rfl)).trans hl2
        have := run_endRound (P := Try.prog) jump hl3
        rw [hrec] at this ⊢
        exact ⟨this, World.putObj_heap_same (lt_blk hl3), (World.putObj_heap_other (by omega)).trans ((hk3.2 _ (.inl rfl)).trans hk2), (Bel.refl (fun j => j = w.heap.size ∨ j = w.heap.size + 1) W3).putObj (fun _ => .inr rfl) _⟩
      rintro e a3 W3 hp
      cases e with
      | normal =>
        obtain ⟨hk3, hi3⟩ := hp
        obtain ⟨hr, hl4, hk4, hb4⟩ := fin none W3 hk3
        exact ⟨_, _, hr, .inl ⟨rfl, hI _ _ hi3 hb4, hl4, hk4⟩⟩
      | ret =>
        obtain ⟨hk3, hi3⟩ := hp
        obtain ⟨hr, hl4, hk4, hb4⟩ := fin (some .ret) W3 hk3
        exact ⟨_, _, hr, .inr ⟨rfl, .ret, hIx _ _ _ hi3 hb4, hl4, hk4⟩⟩
      | exit id =>
        obtain ⟨hk3, hi3⟩ := hp
        obtain ⟨hr, hl4, hk4, hb4⟩ := fin (some (.exit id)) W3 hk3
        exact ⟨_, _, hr, .inr ⟨rfl, .exit id, hIx _ _ _ hi3 hb4, hl4, hk4⟩⟩
      | goto t => exact hp.elim
      | panic ch => exact hp.elim
      | outgrown => exact hp.elim
    · rintro e W2 ⟨⟨v, rfl⟩, (⟨hi, hl, hk⟩ | ⟨c, hi, hl, hk⟩)⟩
      · refine ⟨none, _, by have := run_endLoop (P := Try.prog) hl (by rw [hrec]; simp); rw [hrec] at this; exact this, hdone _ (hI _ _ hi ((Bel.refl (fun j => j = w.heap.size ∨ j = w.heap.size + 1) W2).putObj (fun _ => .inr rfl) _)) ((World.putObj_heap_other (by omega)).trans hk)⟩
      · refine ⟨some c, _, by have := run_endLoop (P := Try.prog) hl (by rw [hrec]; simp); rw [hrec] at this; exact this, hstop c _ (hIx c _ _ hi ((Bel.refl (fun j => j = w.heap.size ∨ j = w.heap.size + 1) W2).putObj (fun _ => .inr rfl) _)) ((World.putObj_heap_other (by omega)).trans hk)⟩
theorem wpIn_rangeSidesIn (A : Option Addr) (n c : Nat) (ps : List (Int × Int)) (bx n0 : Nat) {g : Operand} {p1 p2 d : Tmp} {assign body : Code} {Q : Exit → Act → World → Prop} {a : Act} {w : World} {l₀ : Nat} {r₀ : Loop} (hl0 : w.heap[l₀]? = some (.loop r₀))
    (hg : a.eval g = .func (.func 44) #[] #[.pointer (some ⟨bx, 0, none⟩)])
    (I : World → Prop) (Ix : Code → World → Prop)
    (hIa : ∀ W1, I W1 → W1.heap[bx]? = some (.cells #[.slice A n c] 36 (0, 0)) ∧ AtsAt W1 n0 (.slice A n c) ps ∧ n0 ≤ W1.heap.size)
    (hI : ∀ W1 W2, I W1 → Bel (fun j => j = w.heap.size) W1 W2 → I W2)
    (hIx : ∀ c W1 W2, Ix c W1 → Bel (fun j => j = w.heap.size) W1 W2 → Ix c W2)
    (h0 : ∀ W1, Below w.heap.size w W1 → w.heap.size + 1 ≤ W1.heap.size → I W1)
    (hassign : ∀ (l : Nat) (i x0 y0 x1 y1 : Int) (W : World) (K : Act → World → Prop), K { tmps := ((a.tmps.setIfInBounds p1 (.int .i64 i)).setIfInBounds p2 (sideG x0 y0 x1 y1)).setIfInBounds d (.pointer (some ⟨W.heap.size, 0, none⟩)), defers := [] } (W.alloc (sideO x0 y0 x1 y1)) →
      assign.wpIn (Fence.wide.inRound l) 8 Try.prog (Exit.then K (fun _ _ _ => False)) { tmps := (a.tmps.setIfInBounds p1 (.int .i64 i)).setIfInBounds p2 (sideG x0 y0 x1 y1), defers := [] } W)
    (hbody : ∀ (l sb : Nat) (i x0 y0 x1 y1 : Int) (W : World), I W → W.heap[sb]? = some (sideO x0 y0 x1 y1) → w.heap.size + 1 ≤ sb → (∃ r1, W.heap[l]? = some (.loop r1)) → (fun j => j = w.heap.size) l →
      body.wpIn (Fence.wide.inRound l) 8 Try.prog (sidePost (fun j => j = w.heap.size) I Ix W) { tmps := ((a.tmps.setIfInBounds p1 (.int .i64 i)).setIfInBounds p2 (sideG x0 y0 x1 y1)).setIfInBounds d (.pointer (some ⟨sb, 0, none⟩)), defers := [] } W)
    (hdone : ∀ (W : World), I W →  Q .normal a W)
    (hstop : ∀ (c : Code) (W : World), Ix c W →  c.wpIn (Fence.wide.inRound l₀) 8 Try.prog Q a W) :
    (Code.rangeFunc g #[p1, p2] assign body).wpIn (Fence.wide.inRound l₀) 8 Try.prog Q a w := by
  refine wpIn_rangeFunc ?_
  intro fn hfn
  obtain ⟨rec, hrec⟩ : ∃ rec : LoopState → Option Code → Loop, rec = fun st pe => { state := st, pending := pe, fn, tmps := a.tmps, params := #[p1, p2], assign, body, defers := r₀.defers } := ⟨_, rfl⟩
  obtain ⟨W1, hW1⟩ : ∃ W1, w.alloc (.loop (rec .ready none)) = W1 := ⟨_, rfl⟩
  have hL1 : W1.heap[w.heap.size]? = some (.loop (rec .ready none)) := by
    rw [← hW1]; exact World.alloc_heap_new w _
  have hb1 : Below w.heap.size w W1 := by
    rw [← hW1]; exact (Below.refl _ w).alloc (Nat.le_refl _) _
  have hz1 : W1.heap.size = w.heap.size + 1 := by rw [← hW1]; simp
  have hK1 : True := trivial
  refine ⟨w.heap.size, [], W1, { target := .fn (.func 44) #[.pointer (some ⟨bx, 0, none⟩)], args := #[.func (.yield (w.heap.size)) #[] #[]] }, W1, 44,
    #[.func (.yield (w.heap.size)) #[] #[], .pointer (some ⟨bx, 0, none⟩)], W1, ?_, ?_, ?_, ?_, fun _ => by decide, ?_⟩
  · rw [← hW1, hrec]; exact run_enterLoop_inner hl0 _ _ _ _ _
  · simp only [resolve, hg]
    simp [go_sem]
  · intro f' hf'; exact trivial
  · simp [invoke, go_sem]
  · refine (CallsIn.inRound l₀ <| (callsIn_wide (n := 7)).2 <| (callsIn_wide (n := 9)).1 <| sides_in bx (w.heap.size) n0 (.slice A n c) ps W1
      (fun W => I W ∧ W.heap[w.heap.size]? = some (.loop (rec .ready none)) ∧ True)
      (fun W => ∃ c, Ix c W ∧ W.heap[w.heap.size]? = some (.loop (rec .done (some c))) ∧ True)
      (fun W1 h => hIa W1 h.1) ?_ ?_ ?_).mono ?_
    · rintro Wa Wb ⟨hi, hl, hk⟩ hbel
      exact ⟨hI Wa Wb hi (Bel.of_below hbel), blk_below hbel hl (lt_blk hl), trivial⟩
    · exact ⟨h0 W1 hb1 (by omega), hL1, hK1⟩
    · rintro i x0 y0 x1 y1 W ⟨hi, hl, hk⟩
      have hlt : w.heap.size < W.heap.size := lt_blk hl
      have hy : (Instr.yield (w.heap.size) #[.int .i64 i, sideG x0 y0 x1 y1]).run Try.prog W = .ok (.round (w.heap.size) fn ((a.tmps.setIfInBounds p1 (.int .i64 i)).setIfInBounds p2 (sideG x0 y0 x1 y1)) assign body) W := by
        have := run_yield (P := Try.prog) (args := #[.int .i64 i, sideG x0 y0 x1 y1]) hl (by rw [hrec]; rfl)
        rw [hrec] at this
        simpa using this
      refine ⟨fn, _, assign, body, hy, roundIn_of_wpIn hfn (hassign _ i x0 y0 x1 y1 W _ ?_)⟩
      have hl0 : (W.alloc (sideO x0 y0 x1 y1)).heap[w.heap.size]? = some (.loop (rec .ready none)) := blk_below (below1 _ _) hl hlt
      have hs0 : (W.alloc (sideO x0 y0 x1 y1)).heap[W.heap.size]? = some (sideO x0 y0 x1 y1) := heap_alloc_self _ _
      have hi0 : I (W.alloc (sideO x0 y0 x1 y1)) := hI _ _ hi (Bel.of_below (below1 _ _))
      have hlt0 : w.heap.size < (W.alloc (sideO x0 y0 x1 y1)).heap.size := lt_blk hl0
      refine ⟨_, run_beginRound hl0 (by rw [hrec]), ?_⟩
      generalize hV : W.alloc (sideO x0 y0 x1 y1) = V at *
      have hl2 : (V.putObj (w.heap.size) (.loop { rec .ready none with state := .busy })).heap[w.heap.size]? = some (.loop { rec .ready none with state := .busy }) := World.putObj_heap_same hlt0
      have hs2 : (V.putObj (w.heap.size) (.loop { rec .ready none with state := .busy })).heap[W.heap.size]? = some (sideO x0 y0 x1 y1) := (World.putObj_heap_other (by omega)).trans hs0
      have hbel2 : Bel (fun j => j = w.heap.size) V (V.putObj (w.heap.size) (.loop { rec .ready none with state := .busy })) := (Bel.refl (fun j => j = w.heap.size) V).putObj (fun _ => rfl) _
      refine wpIn_mono (hbody _ W.heap.size i x0 y0 x1 y1 _ (hI _ _ hi0 hbel2) hs2 (by omega) ⟨_, hl2⟩ (rfl)) ?_
      have fin : ∀ (jump : Option Code) (W3 : World), KeptJ (fun j => j = w.heap.size) (V.putObj (w.heap.size) (.loop { rec .ready none with state := .busy })) W3 →
          (Instr.endRound (w.heap.size) jump).run Try.prog W3 = .ok (.bool jump.isNone) (W3.putObj (w.heap.size) (.loop (rec (if jump.isNone then .ready else .done) jump))) ∧
          (W3.putObj (w.heap.size) (.loop (rec (if jump.isNone then .ready else .done) jump))).heap[w.heap.size]? = some (.loop (rec (if jump.isNone then .ready else .done) jump)) ∧
          (True) ∧
          Bel (fun j => j = w.heap.size) W3 (W3.putObj (w.heap.size) (.loop (rec (if jump.isNone then .ready else .done) jump))) := fun jump W3 hk3 => by
        have hl3 := (hk3.2 _ (rfl)).trans hl2
        have := run_endRound (P := Try.prog) jump hl3
        rw [hrec] at this ⊢
        exact ⟨this, World.putObj_heap_same (lt_blk hl3), trivial, (Bel.refl (fun j => j = w.heap.size) W3).putObj (fun _ => rfl) _⟩
      rintro e a3 W3 hp
      cases e with
      | normal =>
        obtain ⟨hk3, hi3⟩ := hp
        obtain ⟨hr, hl4, hk4, hb4⟩ := fin none W3 hk3
        exact ⟨_, _, hr, .inl ⟨rfl, hI _ _ hi3 hb4, hl4, hk4⟩⟩
      | ret =>
        obtain ⟨hk3, hi3⟩ := hp
        obtain ⟨hr, hl4, hk4, hb4⟩ := fin (some .ret) W3 hk3
        exact ⟨_, _, hr, .inr ⟨rfl, .ret, hIx _ _ _ hi3 hb4, hl4, hk4⟩⟩
      | exit id =>
        obtain ⟨hk3, hi3⟩ := hp
        obtain ⟨hr, hl4, hk4, hb4⟩ := fin (some (.exit id)) W3 hk3
        exact ⟨_, _, hr, .inr ⟨rfl, .exit id, hIx _ _ _ hi3 hb4, hl4, hk4⟩⟩
      | goto t => exact hp.elim
      | panic ch => exact hp.elim
      | outgrown => exact hp.elim
    · rintro e W2 ⟨⟨v, rfl⟩, (⟨hi, hl, hk⟩ | ⟨c, hi, hl, hk⟩)⟩
      · refine ⟨none, _, by have := run_endLoop (P := Try.prog) hl (by rw [hrec]; simp); rw [hrec] at this; exact this, hdone _ (hI _ _ hi ((Bel.refl (fun j => j = w.heap.size) W2).putObj (fun _ => rfl) _)) ⟩
      · refine ⟨some c, _, by have := run_endLoop (P := Try.prog) hl (by rw [hrec]; simp); rw [hrec] at this; exact this, hstop c _ (hIx c _ _ hi ((Bel.refl (fun j => j = w.heap.size) W2).putObj (fun _ => rfl) _)) ⟩
end Go.Proofs.Ytnbnhcoaggpmaaa
