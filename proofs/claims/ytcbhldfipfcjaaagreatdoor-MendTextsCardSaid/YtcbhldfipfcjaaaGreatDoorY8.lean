/- mend.Parse: its lines and words. -/
import Derived.Test.YtcbhldfipfcjaaaGreatDoorY1
import Derived.Test.YtcbhldfipfcjaaaGreatDoorY4
import Derived.Test.YtcbhldfipfcjaaaGreatDoorY6

/- strings.Lines: the iterator. -/
namespace Go.Proofs.YtcbhldfipfcjaaaGreatDoor
open Go Go.RowKit Go.Shelf
set_option maxRecDepth 100000
attribute [local go_sem] Oper.semAt_some

/-- The first line of what is left, with its line feed, and what is left behind it. -/
def lineB (r : ByteArray) : ByteArray := if Lib.indexByte r.data.toList 10 = -1 then r else r.extract 0 ((Lib.indexByte r.data.toList 10).toNat + 1)
def afterB (r : ByteArray) : ByteArray := if Lib.indexByte r.data.toList 10 = -1 then ⟨#[]⟩ else r.extract ((Lib.indexByte r.data.toList 10).toNat + 1) r.size
set_option maxHeartbeats 4000000 in
theorem lines_in (bx l : Nat) (s : ByteArray) (W : World) (hbx : W.heap[bx]? = some (.cells #[.string s] 9 (0, 0))) (hs : s.size ≤ 100000)
    (J : ByteArray → World → Prop) (Jx : World → Prop)
    (hJ : ∀ r W1 W2, J r W1 → Bel (fun j => j = bx) W1 W2 → J r W2) (h0 : J s W)
    (hY : ∀ r W1, r.size ≠ 0 → J r W1 → YieldAt Fence.wide 8 Tryz.prog l #[.string (lineB r)] W1 fun e W' => (e = .returned (.bool true) ∧ J (afterB r) W' ∧ W'.heap[bx]? = W1.heap[bx]?) ∨ (e = .returned (.bool false) ∧ Jx W')) :
    CallsIn Fence.wide 9 Tryz.prog 54 #[.func (.yield l) #[] #[], .pointer (some ⟨bx, 0, none⟩)] W fun e W' => (∃ v, e = .returned v) ∧ (J ByteArray.empty W' ∨ Jx W') := by
  have HY := Lib.hid hY; clear hY
  have HJ := Lib.hid hJ; clear hJ
  have H0 := Lib.hid h0; clear h0
  have HBX := Lib.hid hbx; clear hbx
  have hFw : ∀ f, Fence.wide.fn f := fun _ => trivial
  refine callsIn_of_wp Tryz.func54 rfl trivial ?_ rfl
  simp only [Tryz.ntmps54, List.size_toArray, List.length_cons, List.length_nil, Nat.reduceAdd, Nat.reduceSub, Array.replicate_succ, Array.replicate_zero, List.push_toArray, List.append_toArray, List.nil_append, List.cons_append]
  gi_wp2_with fail
  gi_loopw [3] (fun _ wr => ∃ r : ByteArray, r.size ≤ s.size ∧ Hid (wr.heap[bx]? = some (.cells #[.string r] 9 (0, 0))) ∧ Hid (J r wr)) (fun _ wr => (match wr.heap[bx]? with | some (.cells #[.string r] _ _) => r.size | _ => 0))
  case atStart => exact ⟨s, Nat.le_refl _, HBX, H0⟩
  case round =>
    obtain ⟨r, hr, hb, hj⟩ := hrel
    have c0 : wr.cell? ⟨bx, 0, none⟩ = some (.string r) := by rw [cell_blk hb.out]; rfl
    have f0 := frozen_blk hb.out 0
    by_cases hz : r.size = 0
    · have hzi : ¬ (r.size : Int) > 0 := by omega
      gi_wp2_with fail
      go_end0
      have hre : r = ByteArray.empty := ByteArray.size_eq_zero_iff.1 hz
      exact ⟨⟨_, rfl⟩, .inl (by rw [← hre]; exact hj.out)⟩
    · have hzi : (r.size : Int) > 0 := by omega
      rcases split_at_byte (b := 10) r.data.toList with ⟨h1, h2⟩ | ⟨x, y, h1, h2, h3⟩
      · have hbx1 : (wr.setCell ⟨bx, 0, none⟩ (.string ⟨#[]⟩)).heap[bx]? = some (.cells #[.string ⟨#[]⟩] 9 (0, 0)) := (heap_set hb.out 0 _).trans rfl
        have hl : lineB r = r := by unfold lineB; rw [if_pos h2]
        have ha : afterB r = ⟨#[]⟩ := by unfold afterB; rw [if_pos h2]
        have hj1 := HJ.out r wr (wr.setCell ⟨bx, 0, none⟩ (.string ⟨#[]⟩)) hj.out ((Bel.refl (fun j => j = bx) _).setCell (p := ⟨bx, 0, none⟩) (fun _ => rfl) _)
        obtain ⟨fn, tmps, assign, body, hy, hR⟩ := HY.out r _ hz hj1
        rw [hl] at hy
        rw [ha] at hR
        have HB1 := Lib.hid hbx1
        clear hj1 h1 hl ha hbx1
        gi_wp2_with (gi_at_call 55; refine (callsIn_wide.2 (Tryz.strings_IndexByte r 10 wr)).mono ?_; rintro e w2 ⟨rfl, rfl⟩)
        refine hR.mono ?_
        rintro e w4 (⟨rfl, hjn, hk4⟩ | ⟨rfl, hjx⟩)
        · have hb4 := hk4.trans HB1.out
          have HB4 := Lib.hid hb4
          have HJ4 := Lib.hid hjn
          clear hR hy hjn hk4 hb4
          gi_wp2_with fail
          go_round
          case rel =>
            refine ⟨_, _, _, _, _, _, _, _, _, _, _, _, _, _, _, _, _, _, _, _, _, _, ?_, rfl⟩
            exact ⟨⟨#[]⟩, Nat.zero_le _, HB4, HJ4⟩
          case measure =>
            rw [HB4.out, hb.out]
            show (0 : Nat) < r.size
            omega
        · have HX := Lib.hid hjx
          clear hR hy hjx
          gi_wp2_with fail
          exact bodyPost_ret (results_none rfl _ _ _) rfl ⟨⟨_, rfl⟩, .inr HX.out⟩
      · have hn : x.length < r.size := by
          have : r.data.toList.length = r.size := by simp
          rw [← this, h1]
          simp
        generalize x.length = n at *
        have hn0 : (0 : Int) ≤ (n : Int) := by omega
        have hadd : IntKind.i64.wrap ((n : Int) + 1) = (n : Int) + 1 := IntWalk.i64_in _ (by omega)
        have hnb : (n : Int) + 1 ≤ (r.size : Int) := by omega
        have hl : lineB r = r.extract 0 (n + 1) := by unfold lineB; rw [h3, if_neg (by omega)]; rfl
        have ha : afterB r = r.extract (n + 1) r.size := by unfold afterB; rw [h3, if_neg (by omega)]; rfl
        have HLA := Lib.hid (And.intro hl ha)
        clear h1 hl ha
        gi_wp2_with (gi_at_call 55; refine (callsIn_wide.2 (Tryz.strings_IndexByte r 10 wr)).mono ?_; rintro e w2 ⟨rfl, rfl⟩)
        gi_region
        obtain ⟨w3, hw3⟩ : ∃ w3, w3 = (w2.setCell ⟨bx, 0, none⟩ (.string (r.extract (n + 1) r.size))).drew := ⟨_, rfl⟩
        rw [← hw3]
        have hbx1 : w3.heap[bx]? = some (.cells #[.string (r.extract (n + 1) r.size)] 9 (0, 0)) := by rw [hw3]; exact (heap_set hb.out 0 _).trans rfl
        have hj1 : J r w3 := by
          rw [hw3]
          exact HJ.out r w2 _ hj.out (((Bel.refl (fun j => j = bx) _).setCell (p := ⟨bx, 0, none⟩) (fun _ => rfl) _).trans (Bel.of_below ((Below.refl _ _).drew)))
        obtain ⟨fn, tmps, assign, body, hy, hR⟩ := HY.out r _ hz hj1
        rw [HLA.out.1] at hy
        rw [HLA.out.2] at hR
        have HB1 := Lib.hid hbx1
        have hsz : (r.extract (n + 1) r.size).size = r.size - (n + 1) := by simp [ByteArray.size_extract]
        have HSZ := Lib.hid hsz
        clear hj1 hw3 hbx1 hsz
        gi_wp2_with fail
        refine hR.mono ?_
        rintro e w4 (⟨rfl, hjn, hk4⟩ | ⟨rfl, hjx⟩)
        · have hb4 := hk4.trans HB1.out
          have HB4 := Lib.hid hb4
          have HJ4 := Lib.hid hjn
          clear hR hy hjn hk4 hb4
          gi_wp2_with fail
          go_round
          case rel =>
            refine ⟨_, _, _, _, _, _, _, _, _, _, _, _, _, _, _, _, _, _, _, _, _, _, ?_, rfl⟩
            exact ⟨r.extract (n + 1) r.size, by rw [HSZ.out]; omega, HB4, HJ4⟩
          case measure =>
            rw [HB4.out, hb.out]
            show (r.extract (n + 1) r.size).size < r.size
            rw [HSZ.out]
            omega
        · have HX := Lib.hid hjx
          clear hR hy hjx
          gi_wp2_with fail
          exact bodyPost_ret (results_none rfl _ _ _) rfl ⟨⟨_, rfl⟩, .inr HX.out⟩
end Go.Proofs.YtcbhldfipfcjaaaGreatDoor

/- 'for l := range strings.Lines(text)': the law. -/
namespace Go.Proofs.YtcbhldfipfcjaaaGreatDoor
open Go Go.RowKit Go.Shelf
set_option maxRecDepth 100000

/-- The blocks of the loop and of its iterator. -/
def LoopB (lo bx : Nat) (j : Nat) : Prop := j = bx ∨ j = lo ∨ j = lo + 1
/-- What a round keeps. -/
def KeptL (lo bx : Nat) (W W' : World) : Prop := W.heap.size ≤ W'.heap.size ∧ ∀ j, LoopB lo bx j → W'.heap[j]? = W.heap[j]?
def linePost (lo bx : Nat) (I : ByteArray → World → Prop) (Ix : Code → World → Prop) (r : ByteArray) (W : World) : Exit → Act → World → Prop
  | .normal, _, W' => KeptL lo bx W W' ∧ I r W'
  | .ret, _, W' => KeptL lo bx W W' ∧ Ix .ret W'
  | .exit id, _, W' => KeptL lo bx W W' ∧ Ix (.exit id) W'
  | _, _, _ => False
theorem wpIn_rangeLines (s : ByteArray) (bx : Nat) (hs : s.size ≤ 100000) {g : Operand} {p : Tmp} {assign body : Code} {Q : Exit → Act → World → Prop} {a : Act} {w : World}
    (hg : a.eval g = .func (.func 54) #[] #[.pointer (some ⟨bx, 0, none⟩)])
    (hbx : w.heap[bx]? = some (.cells #[.string s] 9 (0, 0)))
    (I : ByteArray → World → Prop) (Ix : Code → World → Prop)
    (hI : ∀ r W1 W2, I r W1 → Bel (LoopB w.heap.size bx) W1 W2 → I r W2)
    (hIx : ∀ c W1 W2, Ix c W1 → Bel (LoopB w.heap.size bx) W1 W2 → Ix c W2)
    (h0 : ∀ W1, Below w.heap.size w W1 → w.heap.size + 2 ≤ W1.heap.size → I s W1)
    (d : Tmp)
    (hassign : ∀ (l : Nat) (rv : Value) (W : World) (K : Act → World → Prop), K { tmps := (a.tmps.setIfInBounds p rv).setIfInBounds d rv, defers := [] } W →
      assign.wpIn (Fence.wide.inRound l) 8 Tryz.prog (Exit.then K (fun _ _ _ => False)) { tmps := a.tmps.setIfInBounds p rv, defers := [] } W)
    (hbody : ∀ (l : Nat) (W : World) (r : ByteArray), r.size ≠ 0 → I r W →
      body.wpIn (Fence.wide.inRound l) 8 Tryz.prog (linePost w.heap.size bx I Ix (afterB r) W) { tmps := (a.tmps.setIfInBounds p (.string (lineB r))).setIfInBounds d (.string (lineB r)), defers := [] } W)
    (hdone : ∀ (W : World), I ByteArray.empty W → W.heap[w.heap.size]? = some (.deferred (some [])) →
      Q .normal { a with defers := { target := .collected w.heap.size, args := #[] } :: a.defers } W)
    (hstop : ∀ (c : Code) (W : World), Ix c W → W.heap[w.heap.size]? = some (.deferred (some [])) →
      c.wpIn Fence.wide 10 Tryz.prog Q { a with defers := { target := .collected w.heap.size, args := #[] } :: a.defers } W) :
    (Code.rangeFunc g #[p] assign body).wpIn Fence.wide 10 Tryz.prog Q a w := by
  have hbl : bx < w.heap.size := lt_blk hbx
  refine wpIn_rangeFunc ?_
  intro fn hfn
  obtain ⟨rec, hrec⟩ : ∃ rec : LoopState → Option Code → Loop, rec = fun st pe => { state := st, pending := pe, fn, tmps := a.tmps, params := #[p], assign, body, defers := w.heap.size } := ⟨_, rfl⟩
  obtain ⟨W1, hW1⟩ : ∃ W1, (w.alloc (.deferred (some []))).alloc (.loop (rec .ready none)) = W1 := ⟨_, rfl⟩
  have hL1 : W1.heap[w.heap.size + 1]? = some (.loop (rec .ready none)) := by
    rw [← hW1]; have := World.alloc_heap_new (w.alloc (.deferred (some []))) (.loop (rec .ready none)); rwa [World.size_alloc] at this
  have hK1 : W1.heap[w.heap.size]? = some (.deferred (some [])) := by
    rw [← hW1]; exact (Below.heap_alloc _ _ _ (by simp)).trans (World.alloc_heap_new w _)
  have hb1 : Below w.heap.size w W1 := by
    rw [← hW1]; exact ((Below.refl _ w).alloc (Nat.le_refl _) _).alloc (by simp) _
  have hz1 : W1.heap.size = w.heap.size + 2 := by rw [← hW1]; simp
  refine ⟨w.heap.size + 1, [{ target := .collected w.heap.size, args := #[] }], W1, { target := .fn (.func 54) #[.pointer (some ⟨bx, 0, none⟩)], args := #[.func (.yield (w.heap.size + 1)) #[] #[]] }, W1, 54,
    #[.func (.yield (w.heap.size + 1)) #[] #[], .pointer (some ⟨bx, 0, none⟩)], W1, ?_, ?_, ?_, ?_, fun _ => by decide, ?_⟩
  · rw [← hW1, hrec]; exact run_enterLoop_outer _ _ _ _ _
  · simp only [resolve, hg]
    simp [go_sem]
  · intro f' hf'; exact trivial
  · simp [invoke, go_sem]
  · refine (lines_in bx (w.heap.size + 1) s W1 (blk_below hb1 hbx hbl) hs
      (fun r W => I r W ∧ W.heap[w.heap.size + 1]? = some (.loop (rec .ready none)) ∧ W.heap[w.heap.size]? = some (.deferred (some [])))
      (fun W => ∃ c, Ix c W ∧ W.heap[w.heap.size + 1]? = some (.loop (rec .done (some c))) ∧ W.heap[w.heap.size]? = some (.deferred (some [])))
      ?_ ?_ ?_).mono ?_
    · rintro r Wa Wb ⟨hi, hl, hk⟩ hbel
      exact ⟨hI r Wa Wb hi (hbel.mono fun j _ hj => .inl hj), hbel.heap hl (fun h => by omega), hbel.heap hk (fun h => by omega)⟩
    · exact ⟨h0 W1 hb1 (by omega), hL1, hK1⟩
    · rintro r W hr ⟨hi, hl, hk⟩
      have hlt : w.heap.size + 1 < W.heap.size := lt_blk hl
      have hy : (Instr.yield (w.heap.size + 1) #[.string (lineB r)]).run Tryz.prog W = .ok (.round (w.heap.size + 1) fn (a.tmps.setIfInBounds p (.string (lineB r))) assign body) W := by
        have := run_yield (P := Tryz.prog) (args := #[.string (lineB r)]) hl (by rw [hrec]; rfl)
        rw [hrec] at this
        simpa using this
      refine ⟨fn, _, assign, body, hy, roundIn_of_wpIn hfn (hassign _ _ W _ ?_)⟩
      refine ⟨_, run_beginRound hl (by rw [hrec]), ?_⟩
      have hl2 : (W.putObj (w.heap.size + 1) (.loop { rec .ready none with state := .busy })).heap[w.heap.size + 1]? = some (.loop { rec .ready none with state := .busy }) := World.putObj_heap_same hlt
      have hk2 : (W.putObj (w.heap.size + 1) (.loop { rec .ready none with state := .busy })).heap[w.heap.size]? = some (.deferred (some [])) := (World.putObj_heap_other (by omega)).trans hk
      have hbel2 : Bel (LoopB w.heap.size bx) W (W.putObj (w.heap.size + 1) (.loop { rec .ready none with state := .busy })) := (Bel.refl _ W).putObj (fun _ => .inr (.inr rfl)) _
      have hbx2 : (W.putObj (w.heap.size + 1) (.loop { rec .ready none with state := .busy })).heap[bx]? = W.heap[bx]? := World.putObj_heap_other (by omega)
      refine wpIn_mono (hbody _ _ r hr (hI r _ _ hi hbel2)) ?_
      have fin : ∀ (jump : Option Code) (W3 : World), KeptL w.heap.size bx (W.putObj (w.heap.size + 1) (.loop { rec .ready none with state := .busy })) W3 →
          (Instr.endRound (w.heap.size + 1) jump).run Tryz.prog W3 = .ok (.bool jump.isNone) (W3.putObj (w.heap.size + 1) (.loop (rec (if jump.isNone then .ready else .done) jump))) ∧
          (W3.putObj (w.heap.size + 1) (.loop (rec (if jump.isNone then .ready else .done) jump))).heap[w.heap.size + 1]? = some (.loop (rec (if jump.isNone then .ready else .done) jump)) ∧
          (W3.putObj (w.heap.size + 1) (.loop (rec (if jump.isNone then .ready else .done) jump))).heap[w.heap.size]? = some (.deferred (some [])) ∧
          (W3.putObj (w.heap.size + 1) (.loop (rec (if jump.isNone then .ready else .done) jump))).heap[bx]? = W.heap[bx]? ∧
          Bel (LoopB w.heap.size bx) W3 (W3.putObj (w.heap.size + 1) (.loop (rec (if jump.isNone then .ready else .done) jump))) := fun jump W3 hk3 => by
        have hl3 := (hk3.2 _ (.inr (.inr rfl))).trans hl2
        have := run_endRound (P := Tryz.prog) jump hl3
        rw [hrec] at this ⊢
        exact ⟨this, World.putObj_heap_same (lt_blk hl3), (World.putObj_heap_other (by omega)).trans ((hk3.2 _ (.inr (.inl rfl))).trans hk2), (World.putObj_heap_other (by omega)).trans ((hk3.2 _ (.inl rfl)).trans hbx2), (Bel.refl (LoopB w.heap.size bx) W3).putObj (fun _ => .inr (.inr rfl)) _⟩
      rintro e a3 W3 hp
      cases e with
      | normal =>
        obtain ⟨hk3, hi3⟩ := hp
        obtain ⟨hr, hl4, hk4, hbx4, hb4⟩ := fin none W3 hk3
        exact ⟨_, _, hr, .inl ⟨rfl, ⟨hI _ _ _ hi3 hb4, hl4, hk4⟩, hbx4⟩⟩
      | ret =>
        obtain ⟨hk3, hi3⟩ := hp
        obtain ⟨hr, hl4, hk4, hbx4, hb4⟩ := fin (some .ret) W3 hk3
        exact ⟨_, _, hr, .inr ⟨rfl, .ret, hIx _ _ _ hi3 hb4, hl4, hk4⟩⟩
      | exit id =>
        obtain ⟨hk3, hi3⟩ := hp
        obtain ⟨hr, hl4, hk4, hbx4, hb4⟩ := fin (some (.exit id)) W3 hk3
        exact ⟨_, _, hr, .inr ⟨rfl, .exit id, hIx _ _ _ hi3 hb4, hl4, hk4⟩⟩
      | goto t => exact hp.elim
      | panic ch => exact hp.elim
      | outgrown => exact hp.elim
    · rintro e W2 ⟨⟨v, rfl⟩, (⟨hi, hl, hk⟩ | ⟨c, hi, hl, hk⟩)⟩
      · refine ⟨none, _, by have := run_endLoop (P := Tryz.prog) hl (by rw [hrec]; simp); rw [hrec] at this; exact this, hdone _ (hI _ _ _ hi ((Bel.refl (LoopB w.heap.size bx) W2).putObj (fun _ => .inr (.inr rfl)) _)) ((World.putObj_heap_other (by omega)).trans hk)⟩
      · refine ⟨some c, _, by have := run_endLoop (P := Tryz.prog) hl (by rw [hrec]; simp); rw [hrec] at this; exact this, hstop c _ (hIx c _ _ hi ((Bel.refl (LoopB w.heap.size bx) W2).putObj (fun _ => .inr (.inr rfl)) _)) ((World.putObj_heap_other (by omega)).trans hk)⟩
end Go.Proofs.YtcbhldfipfcjaaaGreatDoor

/- What parsing the text of works gives, in plain Lean. -/
namespace Go.Proofs.YtcbhldfipfcjaaaGreatDoor
open Go Go.RowKit Go.Shelf

def numsL : List (List UInt8) → Option (List Int)
  | [] => some []
  | w :: ws => match numOf w, numsL ws with
    | some n, some l => some (n :: l)
    | _, _ => none
theorem numsL_snoc : ∀ (ws : List (List UInt8)) (w : List UInt8) (l : List Int), numsL ws = some l → numsL (ws ++ [w]) = (numOf w).map fun n => l ++ [n]
  | [], w, l, h => by
    simp only [numsL, Option.some.injEq] at h
    subst h
    simp only [List.nil_append, numsL]
    cases numOf w <;> rfl
  | v :: ws, w, l, h => by
    simp only [numsL] at h
    cases hv : numOf v with
    | none => rw [hv] at h; cases h
    | some n =>
      cases hl : numsL ws with
      | none => rw [hv, hl] at h; cases h
      | some l' =>
        rw [hv, hl] at h
        simp only [Option.some.injEq] at h
        subst h
        have ih := numsL_snoc ws w l' hl
        simp only [List.cons_append, numsL, hv, ih]
        cases numOf w <;> rfl
theorem numsL_none : ∀ (ws vs : List (List UInt8)) (w : List UInt8), numOf w = none → numsL (ws ++ w :: vs) = none
  | [], vs, w, h => by simp [numsL, h]
  | v :: ws, vs, w, h => by
    simp only [List.cons_append, numsL, numsL_none ws vs w h]
    cases numOf v <;> rfl
theorem numsL_bound : ∀ (ws : List (List UInt8)) (l : List Int), numsL ws = some l → ∀ n ∈ l, -10000000000 < n ∧ n < 10000000000
  | [], l, h, n, hn => by
    simp only [numsL, Option.some.injEq] at h
    subst h; simp at hn
  | v :: ws, l, h, n, hn => by
    simp only [numsL] at h
    cases hv : numOf v with
    | none => rw [hv] at h; cases h
    | some x =>
      cases hl : numsL ws with
      | none => rw [hv, hl] at h; cases h
      | some l' =>
        rw [hv, hl] at h
        simp only [Option.some.injEq] at h
        subst h
        rcases List.mem_cons.1 hn with e | e
        · subst e; exact numOf_bound hv
        · exact numsL_bound ws l' hl n e
theorem numsL_length : ∀ (ws : List (List UInt8)) (l : List Int), numsL ws = some l → l.length = ws.length
  | [], l, h => by
    simp only [numsL, Option.some.injEq] at h
    subst h; rfl
  | v :: ws, l, h => by
    simp only [numsL] at h
    cases hv : numOf v with
    | none => rw [hv] at h; cases h
    | some x =>
      cases hl : numsL ws with
      | none => rw [hv, hl] at h; cases h
      | some l' =>
        rw [hv, hl] at h
        simp only [Option.some.injEq] at h
        subst h
        simp [numsL_length ws l' hl]
/-- A line's word and numbers. -/
def lineN (first : Bool) (m : Wk) (h : List UInt8) (n : List Int) : Option Wk :=
  if (h == bWorks) != first then none
  else if h == bWorks && n.length == 3 then some { m with years := n.getD 0 0, visit := n.getD 1 0, hands := n.getD 2 0 }
  else if h == bSlope && decide (4 ≤ n.length) && m.crafts.length == 0 then some { m with slopes := m.slopes ++ [⟨n.getD 0 0, n.getD 1 0, n.getD 2 0, n.getD 3 0, n.drop 4⟩] }
  else if h == bAdd && n.length == 2 then some { m with crafts := m.crafts ++ [⟨n.getD 0 0, n.getD 1 0, false⟩] }
  else if h == bStrip && n.length == 1 then some { m with crafts := m.crafts ++ [⟨0, n.getD 0 0, true⟩] }
  else none
def lineS (first : Bool) (m : Wk) (l : List UInt8) : Option Wk :=
  match numsL (wordsL l).tail with
  | none => none
  | some n => lineN first m ((wordsL l).headD []) n
def parseGo : Nat → Wk → List (List UInt8) → Nat × Option Wk
  | k, m, [] => (k, some m)
  | k, m, l :: ls => match lineS (k == 0) m l with
    | none => (k + 1, none)
    | some m' => parseGo (k + 1) m' ls
def wk0 : Wk := ⟨[], [], 0, 0, 0⟩
/-- The works, the wrong line, the error. -/
def parseS (s : List UInt8) : Wk × Int × Int :=
  if 65536 < s.length then (wk0, 0, 3) else
  match parseGo 0 wk0 (linesL s) with
  | (k, none) => (wk0, k, 4)
  | (k, some m) => if k = 0 then (wk0, 0, 4) else if checkS m = 0 then (m, 0, 0) else (wk0, 0, checkS m)
theorem trimSuffix_nl {x : List UInt8} : Lib.trimSuffix (x ++ [10]) [10] = x := by
  unfold Lib.trimSuffix Lib.hasSuffix
  have : List.isSuffixOf [10] (x ++ [10]) = true := by
    rw [List.isSuffixOf_iff_suffix]
    exact ⟨x, rfl⟩
  rw [if_pos this]
  simp
theorem trimSuffix_none {x : List UInt8} (h : 10 ∉ x) : Lib.trimSuffix x [10] = x := by
  unfold Lib.trimSuffix Lib.hasSuffix
  rw [if_neg]
  intro hs
  rw [List.isSuffixOf_iff_suffix] at hs
  obtain ⟨t, ht⟩ := hs
  exact h (by rw [← ht]; simp)
end Go.Proofs.YtcbhldfipfcjaaaGreatDoor

namespace Go.Proofs.YtcbhldfipfcjaaaGreatDoor
open Go Go.RowKit Go.Shelf
set_option maxRecDepth 100000

theorem extract_list (r : ByteArray) (a b : Nat) : (r.extract a b).data.toList = (r.data.toList.take b).drop a := by
  rw [Lib.extract_data, List.take_drop]
  by_cases h : a ≤ b
  · rw [Nat.add_sub_cancel' h]
  · rw [Nat.sub_eq_zero_of_le (by omega), Nat.add_zero, List.drop_eq_nil_of_le (by rw [List.length_take]; omega), List.drop_eq_nil_of_le (by rw [List.length_take]; omega)]
theorem line_step (r : ByteArray) (h : r.size ≠ 0) : linesL r.data.toList = Lib.trimSuffix (lineB r).data.toList [10] :: linesL (afterB r).data.toList ∧ (afterB r).size < r.size ∧ (lineB r).size ≤ r.size := by
  have hl : r.data.toList.length = r.size := by simp
  rcases split_at_byte (b := 10) r.data.toList with ⟨h1, h2⟩ | ⟨x, y, h1, h2, h3⟩
  · unfold lineB afterB
    rw [if_pos h2, if_pos h2]
    have hne : r.data.toList ≠ [] := fun e => h (by rw [← hl, e]; rfl)
    refine ⟨?_, ?_, Nat.le_refl _⟩
    · rw [linesL_none h1 hne, trimSuffix_none h1]; rfl
    · show 0 < r.size
      omega
  · unfold lineB afterB
    have hn : ¬ ((x.length : Int) = -1) := by omega
    rw [h3, if_neg hn, if_neg hn]
    have hlen : r.size = x.length + (y.length + 1) := by rw [← hl, h1]; simp
    refine ⟨?_, ?_, ?_⟩
    · rw [extract_list, extract_list, ← hl, h1]
      have e1 : ((x ++ 10 :: y).take ((x.length : Int).toNat + 1)).drop 0 = x ++ [10] := by
        rw [Int.toNat_natCast, List.take_append, List.take_of_length_le (by omega), show x.length + 1 - x.length = 1 by omega]
        rfl
      have e2 : ((x ++ 10 :: y).take (x ++ 10 :: y).length).drop ((x.length : Int).toNat + 1) = y := by
        rw [List.take_of_length_le (Nat.le_refl _), Int.toNat_natCast, List.drop_append, List.drop_eq_nil_of_le (by omega), show x.length + 1 - x.length = 1 by omega]
        rfl
      rw [e1, e2, trimSuffix_nl, linesL_hit _ h2]
    · simp only [ByteArray.size_extract]; omega
    · simp only [ByteArray.size_extract]; omega
theorem split_len (b : UInt8) (n : Nat) : ∀ (l : List UInt8), l.length = n → (Lib.split l [b]).length = Lib.count l [b] + 1 := by
  induction n using Nat.strongRecOn with
  | ind n ih =>
    intro l hl
    rcases split_at_byte (b := b) l with ⟨h1, h2⟩ | ⟨x, y, h1, h2, h3⟩
    · have hi : Lib.index l [b] = -1 := by rw [index_one]; exact h2
      unfold Lib.split
      rw [Lib.count_miss hi]
      rfl
    · have hi : Lib.index l [b] = (x.length : Nat) := by rw [index_one]; exact h3
      have hd : l.drop (x.length + 1) = y := by rw [h1]; simp
      have hy := ih y.length (by rw [← hl, h1]; simp only [List.length_append, List.length_cons]; omega) y rfl
      unfold Lib.split at hy ⊢
      rw [Lib.count_hit (by simp) hi]
      simp only [List.length_singleton]
      rw [hd, Nat.add_comm 1, Lib.splitK]
      have hne : ¬ ((Lib.index l [b] == -1) = true) := by rw [hi]; simp
      rw [if_neg hne, hi]
      simp only [Int.toNat_natCast, List.length_cons, List.length_nil, Nat.zero_add]
      rw [hd, hy]
theorem split_calls (s : ByteArray) (w : World) (hs : s.size ≤ 100000) (hv : Vars w) : Calls Tryz.prog 30 #[.string s, .string ⟨#[32]⟩] w fun e w' => ∃ ws : List ByteArray, e = .returned (.slice (some ⟨w.heap.size, 0, none⟩) ws.length ws.length) ∧
    ws.map (fun b => b.data.toList) = wordsL s.data.toList ∧ w' = w.alloc (.cells (ws.map Value.string).toArray 9) := by
  obtain ⟨m, hm⟩ := hv.len
  refine (Tryz.strings_Split s ⟨#[32]⟩ m w (by omega) hm (by decide)).mono ?_
  rintro e w' ⟨rfl, rfl⟩
  have hsp := Lib.splitB_data ⟨#[32]⟩ 0 (Lib.countB s ⟨#[32]⟩) s
  have he : Lib.splitK (ByteArray.mk #[32]).data.toList 0 (Lib.countB s ⟨#[32]⟩) s.data.toList = wordsL s.data.toList := split_one 32 _ s.data.toList rfl
  rw [he] at hsp
  have hlen : (Lib.splitB ⟨#[32]⟩ 0 (Lib.countB s ⟨#[32]⟩) s).length = Lib.countB s ⟨#[32]⟩ + 1 := by
    have h := congrArg List.length (Lib.splitB_data ⟨#[32]⟩ 0 (Lib.countB s ⟨#[32]⟩) s)
    rw [List.length_map] at h
    rw [h]
    exact split_len 32 _ s.data.toList rfl
  exact ⟨_, by rw [hlen], hsp, rfl⟩
end Go.Proofs.YtcbhldfipfcjaaaGreatDoor
