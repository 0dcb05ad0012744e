/- The text of works is parsed as these works: plain Lean. -/
import Derived.Test.YtcbhldfipfcjaaaGreatDoorY8
import Derived.Test.YtcbhldfipfcjaaaGreatDoorEy
import Derived.Test.YtcbhldfipfcjaaaGreatDoorY5
import Derived.Test.YtcbhldfipfcjaaaGreatDoorRa
import Derived.Test.YtcbhldfipfcjaaaGreatDoorLc

/- mend.Parse: what is kept. -/
namespace Go.Proofs.YtcbhldfipfcjaaaGreatDoor
open Go Go.RowKit Go.Shelf
set_option maxRecDepth 100000

theorem results_parse {tmps : Array Value} {w : World} {b0 b1 b2 : Nat} {cs : Array Value} {x y : Int} (h0 : tmps.getD 2 undef = .pointer (some ⟨b0, 0, none⟩)) (h1 : tmps.getD 3 undef = .pointer (some ⟨b1, 0, none⟩)) (h2 : tmps.getD 4 undef = .pointer (some ⟨b2, 0, none⟩))
    (g0 : w.heap[b0]? = some (.cells cs 25 (0, 0))) (hcs : cs.size = 5) (g1 : w.heap[b1]? = some (.cells #[.int .i64 x] 3 (0, 0))) (g2 : w.heap[b2]? = some (.cells #[.int .i64 y] 28 (0, 0))) :
    (results Tryz.f9 tmps).run Tryz.prog w = .ok (.tuple #[.agg cs, .int .i64 x, .int .i64 y]) w := by
  have e0 := run_loadVar_row (P := Tryz.prog) w b0 25 25 cs (0, 0) _ g0 Tryz.underlying25 (by rfl) (by rw [hcs]; exact infoWorksZ)
  have c1 : w.cell? ⟨b1, 0, none⟩ = some (.int .i64 x) := by rw [cell_blk g1]; rfl
  have c2 : w.cell? ⟨b2, 0, none⟩ = some (.int .i64 y) := by rw [cell_blk g2]; rfl
  have hr : Func.results Tryz.f9 = #[.cell 2 25, .cell 3 3, .cell 4 28] := by rfl
  have h0' : tmps[2]?.getD undef = .pointer (some ⟨b0, 0, none⟩) := by simpa using h0
  have h1' : tmps[3]?.getD undef = .pointer (some ⟨b1, 0, none⟩) := by simpa using h1
  have h2' : tmps[4]?.getD undef = .pointer (some ⟨b2, 0, none⟩) := by simpa using h2
  have e1 : (loadVar 3 ⟨b1, 0, none⟩).run Tryz.prog w = .ok (.int .i64 x) w := by
    have u := Tryz.isAgg3
    simp [loadVar, Sem.run_bind, u, go_sem, c1]
  have e2 : (loadVar 28 ⟨b2, 0, none⟩).run Tryz.prog w = .ok (.int .i64 y) w := by
    have u := Tryz.isAgg28
    simp [loadVar, Sem.run_bind, u, go_sem, c2]
  simp [results, hr, h0', h1', h2', asAddr, e0, e1, e2]
/-- Whole numbers in a block from B on. -/
def TakesAt (w : World) (B : Nat) (u : Value) (xs : List Int) : Prop := ∃ A c, u = .slice A xs.length c ∧ (xs ≠ [] → ∃ (b o : Nat) (cs : Array Value), A = some ⟨b, o, none⟩ ∧ B ≤ b ∧ w.heap[b]? = some (.cells cs 3 (0, 0)) ∧ ∀ (j : Nat) (x : Int), xs[j]? = some x → cs[o + j]? = some (.int .i64 x))
theorem TakesAt.kept {w w' : World} {B : Nat} {u : Value} {xs : List Int} (h : TakesAt w B u xs) (hk : ∀ k cs, B ≤ k → w.heap[k]? = some (.cells cs 3 (0, 0)) → w'.heap[k]? = w.heap[k]?) : TakesAt w' B u xs := by
  obtain ⟨A, c, e, h1⟩ := h
  refine ⟨A, c, e, fun hne => ?_⟩
  obtain ⟨b, o, cs, e1, hb, hc, hj⟩ := h1 hne
  exact ⟨b, o, cs, e1, hb, (hk b cs hb hc).trans hc, hj⟩
theorem TakesAt.of_own {w : World} {B : Nat} {u : Value} {xs : List Int} (h : w.ownsRow B 3 1 u xs.length (xs.map (Value.int .i64))) : TakesAt w B u xs := by
  rcases id h.2 with ⟨e, h0⟩ | ⟨g, cap, cur, e, hB, hh, hc, hm, hsz, ht⟩
  · subst e
    exact ⟨none, 0, by rw [h0], fun hne => absurd (List.eq_nil_of_length_eq_zero h0) hne⟩
  · subst e
    refine ⟨_, cap, rfl, fun _ => ⟨g, 0, cur, rfl, hB, hh, fun j x hj => ?_⟩⟩
    have hjl := (List.getElem?_eq_some_iff.1 hj).1
    have : (xs.map (Value.int .i64))[j]? = some (.int .i64 x) := by rw [List.getElem?_map, hj]; rfl
    rw [← ht, List.getElem?_take, if_pos (by omega), Array.getElem?_toList] at this
    rw [Nat.zero_add]; exact this
theorem TakesAt.mono {w : World} {B B' : Nat} {u : Value} {xs : List Int} (h : TakesAt w B u xs) (hb : B' ≤ B) : TakesAt w B' u xs := by
  obtain ⟨A, c, e, h1⟩ := h
  refine ⟨A, c, e, fun hne => ?_⟩
  obtain ⟨b, o, cs, e1, h2, hc, hj⟩ := h1 hne
  exact ⟨b, o, cs, e1, Nat.le_trans hb h2, hc, hj⟩
/-- Slopes of one's own; their takes lie wherever, from B on. -/
def OwnSq (w : World) (B : Nat) (v : Value) (ss : List Slope) : Prop := ∃ us : List Value, us.length = ss.length ∧ w.ownsRow B 37 5 v ss.length (cellsSl ss us) ∧
  ∀ (i : Nat) (s : Slope), ss[i]? = some s → ∃ u, us[i]? = some u ∧ TakesAt w B u s.takes
theorem OwnSq.nil (w : World) (B : Nat) : OwnSq w B (.slice none 0 0) [] := ⟨[], rfl, ⟨rfl, .inl ⟨rfl, rfl⟩⟩, fun i s h => by simp at h⟩
theorem OwnSq.kept {w w' : World} {B : Nat} {v : Value} {ss : List Slope} (h : OwnSq w B v ss) (hk : ∀ k cs t, B ≤ k → w.heap[k]? = some (.cells cs t (0, 0)) → (t = 3 ∨ t = 37) → w'.heap[k]? = w.heap[k]?) : OwnSq w' B v ss := by
  obtain ⟨us, h1, h4, h5⟩ := h
  refine ⟨us, h1, own_kept h4 (fun k e => ?_), fun i s hs => ?_⟩
  · obtain ⟨cur, hc⟩ := own_type h4 k e
    exact hk k cur _ (own_blk_lt h4 k e).1 hc (.inr rfl)
  · obtain ⟨u, e1, e2⟩ := h5 i s hs
    exact ⟨u, e1, e2.kept fun k cs hB hc => hk k cs _ hB hc (.inl rfl)⟩
theorem OwnSq.snoc {W w1 : World} {B : Nat} {v v1 : Value} {ss : List Slope} {us : List Value} {u : Value} {x : Slope} (h1 : us.length = ss.length)
    (h4 : W.ownsRow B 37 5 v ss.length (cellsSl ss us)) (h5 : ∀ (i : Nat) (s : Slope), ss[i]? = some s → ∃ u, us[i]? = some u ∧ TakesAt W B u s.takes) (hu : TakesAt W B u x.takes)
    (hown : w1.ownsRow B 37 5 v1 (ss.length + 1) (cellsSl ss us ++ [.int .i64 x.now, .int .i64 x.need, .int .i64 x.full, .int .i64 x.size, u])) (hg : W.grownBy w1 v.ownBlock) : OwnSq w1 B v1 (ss ++ [x]) := by
  have key : ∀ {u : Value} {xs : List Int}, TakesAt W B u xs → TakesAt w1 B u xs := fun hu =>
    hu.kept fun k cs _ hc => hg.block k (lt_blk hc) (fun e => by
      obtain ⟨cur2, hc2⟩ := own_type h4 k e.symm
      rw [hc] at hc2
      simp at hc2)
  refine ⟨us ++ [u], by simp [h1], by rw [List.length_append, cellsSl_snoc _ _ _ _ h1]; exact hown, fun i s hs => ?_⟩
  by_cases hi : i < ss.length
  · rw [List.getElem?_append_left hi] at hs
    obtain ⟨u', e1, e2⟩ := h5 i s hs
    exact ⟨u', by rw [List.getElem?_append_left (by omega)]; exact e1, key e2⟩
  · rw [List.getElem?_append_right (by omega)] at hs
    have hz : i - ss.length = 0 := by
      have := (List.getElem?_eq_some_iff.1 hs).1
      simp at this; omega
    rw [hz] at hs
    have : x = s := by simpa using hs
    subst this
    exact ⟨u, by rw [List.getElem?_append_right (by omega), h1, hz]; rfl, key hu⟩
theorem own_slopesQ {w : World} {B : Nat} {v : Value} {ss : List Slope} (h : OwnSq w B v ss) (hl : ss.length ≤ 9223372036854775807) (hT : ∀ s ∈ ss, s.takes.length ≤ 9223372036854775807) : SlopesAt w w.heap.size v ss := by
  obtain ⟨us, h1, h4, h5⟩ := h
  rcases id h4.2 with ⟨e, h0⟩ | ⟨g, cap, cur, e, hB, hh, hc, hm, hsz, ht⟩
  · subst e
    exact ⟨none, 0, by rw [h0], hl, fun hne => absurd (List.eq_nil_of_length_eq_zero h0) hne⟩
  · subst e
    refine ⟨some ⟨g, 0, none⟩, cap, rfl, hl, fun hne => ⟨g, 0, rfl, lt_blk hh, fun i s hs => ?_⟩⟩
    obtain ⟨u, e2, A, c, e3, h6⟩ := h5 i s hs
    obtain ⟨c0, c1, c2, c3, c4⟩ := cellsSl_at ss us i hs e2
    have hat := own_cells h4
    refine ⟨u, ⟨A, c, e3, by simpa using hT s (List.mem_of_getElem? hs), fun hn => ?_⟩, ?_, ?_, ?_, ?_, ?_⟩
    · obtain ⟨b, o, cs, e4, _, hcs, hj⟩ := h6 (by simpa using hn)
      refine ⟨b, o, e4, lt_blk hcs, fun j u' hu' => ?_⟩
      simp only [List.getElem?_map, Option.map_eq_some_iff] at hu'
      obtain ⟨y, hy, rfl⟩ := hu'
      rw [cell_blk hcs]
      exact hj j y hy
    all_goals rw [Nat.zero_add]
    · exact hat _ _ c0
    · exact hat _ _ c1
    · exact hat _ _ c2
    · exact hat _ _ c3
    · exact hat _ _ c4
structure PaInv (w : World) (R : Nat × Option Wk) (s r : ByteArray) (k : Nat) (m : Wk) (v cr : Value) (W : World) : Prop where
  go : parseGo k m (linesL r.data.toList) = R
  count : k + r.size ≤ s.size
  box : W.heap[w.heap.size]? = some (.cells #[v, cr, .int .i64 m.years, .int .i64 m.visit, .int .i64 m.hands] 25 (0, 0))
  line : W.heap[w.heap.size + 1]? = some (.cells #[.int .i64 0] 3 (0, 0))
  err : W.heap[w.heap.size + 2]? = some (.cells #[.int .i64 0] 28 (0, 0))
  cnt : W.heap[w.heap.size + 3]? = some (.cells #[.int .i64 (k : Int)] 3 (0, 0))
  sl : OwnSq W (w.heap.size + 7) v m.slopes
  own : W.ownsRow (w.heap.size + 7) 67 3 cr m.crafts.length (cellsC m.crafts)
  few : m.slopes.length + m.crafts.length ≤ k
  takes : ∀ x ∈ m.slopes, x.takes.length ≤ 100000
  below : Below w.heap.size w W
  big : w.heap.size + 7 ≤ W.heap.size
/-- The wrong line has been told. -/
structure PaBad (w : World) (R : Nat × Option Wk) (W : World) : Prop where
  bad : R.2 = none
  box : W.heap[w.heap.size]? = some (.cells #[.slice none 0 0, .slice none 0 0, .int .i64 0, .int .i64 0, .int .i64 0] 25 (0, 0))
  line : W.heap[w.heap.size + 1]? = some (.cells #[.int .i64 (R.1 : Int)] 3 (0, 0))
  err : W.heap[w.heap.size + 2]? = some (.cells #[.int .i64 4] 28 (0, 0))
  below : Below w.heap.size w W
  big : w.heap.size + 7 ≤ W.heap.size
def PaI (w : World) (R : Nat × Option Wk) (s r : ByteArray) (W : World) : Prop := ∃ k m v cr, PaInv w R s r k m v cr W
def PaX (w : World) (R : Nat × Option Wk) (c : Code) (W : World) : Prop := c = .ret ∧ PaBad w R W
/-- What leaves the boxes and what is owned as it was. -/
structure PaSame (w W W' : World) : Prop where
  size : W.heap.size ≤ W'.heap.size
  block : ∀ j, j < W.heap.size → (j < w.heap.size + 3 ∨ w.heap.size + 7 ≤ j) → W'.heap[j]? = W.heap[j]?
  os : W'.os = W.os
  tape : W'.tape = W.tape
  output : W'.output = W.output
theorem PaSame.ofBel {w W W' : World} (h : Bel (LoopB (w.heap.size + 5) (w.heap.size + 4)) W W') : PaSame w W W' :=
  ⟨h.size, fun j hj hs => h.block j hj (fun e => by rcases e with e | e | e <;> omega), h.os, h.tape, h.output⟩
theorem PaSame.below {w W W' : World} (h : PaSame w W W') (hb : Below w.heap.size w W) (hz : w.heap.size ≤ W.heap.size) : Below w.heap.size w W' :=
  ⟨h.os.trans hb.os, h.tape.trans hb.tape, h.output.trans hb.output, Nat.le_trans hb.size h.size, fun j hj => (h.block j (by omega) (.inl (by omega))).trans (hb.block j hj)⟩
theorem PaInv.same {w : World} {R : Nat × Option Wk} {s r : ByteArray} {k : Nat} {m : Wk} {v cr : Value} {W W' : World} (h : PaInv w R s r k m v cr W) (hs : PaSame w W W') (h3 : W'.heap[w.heap.size + 3]? = W.heap[w.heap.size + 3]?) : PaInv w R s r k m v cr W' := by
  obtain ⟨h1, h2, hb, hl, he, hc, hsl, hcr, hf, ht, hbe, hbi⟩ := h
  refine ⟨h1, h2, (hs.block _ (by omega) (.inl (by omega))).trans hb, (hs.block _ (by omega) (.inl (by omega))).trans hl, (hs.block _ (by omega) (.inl (by omega))).trans he, h3.trans hc, ?_, ?_, hf, ht, hs.below hbe hbe.size, Nat.le_trans hbi hs.size⟩
  · exact hsl.kept fun b cs t hB hk _ => hs.block b (lt_blk hk) (.inr hB)
  · exact own_kept hcr fun b hb => hs.block b (own_blk_lt hcr b hb).2 (.inr (own_blk_lt hcr b hb).1)
theorem PaI.stable {w : World} {R : Nat × Option Wk} {s r : ByteArray} {W W' : World} (h : PaI w R s r W) (hb : Bel (LoopB (w.heap.size + 5) (w.heap.size + 4)) W W') : PaI w R s r W' := by
  obtain ⟨k, m, v, cr, hi⟩ := h
  exact ⟨k, m, v, cr, hi.same (PaSame.ofBel hb) (hb.block _ (by have := hi.big; omega) (fun e => by rcases e with e | e | e <;> omega))⟩
theorem PaX.stable {w : World} {R : Nat × Option Wk} {c : Code} {W W' : World} (h : PaX w R c W) (hb : Bel (LoopB (w.heap.size + 5) (w.heap.size + 4)) W W') : PaX w R c W' := by
  obtain ⟨hc, h1, h2, h3, h4, h5, h6⟩ := h
  have hs := PaSame.ofBel hb
  exact ⟨hc, h1, (hs.block _ (by omega) (.inl (by omega))).trans h2, (hs.block _ (by omega) (.inl (by omega))).trans h3, (hs.block _ (by omega) (.inl (by omega))).trans h4, hs.below h5 h5.size, Nat.le_trans h6 hs.size⟩
end Go.Proofs.YtcbhldfipfcjaaaGreatDoor

/- mend.Parse: its boxes. -/
namespace Go.Proofs.YtcbhldfipfcjaaaGreatDoor
open Go Go.RowKit Go.Shelf
set_option maxRecDepth 100000
attribute [local go_sem] Oper.semAt_some

def ParsePost (s : List UInt8) (w : World) (e : Ending) (w' : World) : Prop := ∃ v cr, e = .returned (.tuple #[.agg #[v, cr, .int .i64 (parseS s).1.years, .int .i64 (parseS s).1.visit, .int .i64 (parseS s).1.hands], .int .i64 (parseS s).2.1, .int .i64 (parseS s).2.2]) ∧
  SlopesAt w' w'.heap.size v (parseS s).1.slopes ∧ CraftsAt w' w'.heap.size cr (parseS s).1.crafts ∧ Below w.heap.size w w'
theorem lines_calls (s : ByteArray) (w : World) : Calls Tryz.prog 29 #[.string s] w fun e w' => e = .returned (.func (.func 54) #[] #[.pointer (some ⟨w.heap.size, 0, none⟩)]) ∧ w' = w.alloc (.cells #[.string s] 9) := by
  go_enter Tryz.func29, Tryz.ntmps29
  go_wp2
  go_ret
  exact ⟨rfl, rfl⟩
theorem slopesAt_nil (w : World) : SlopesAt w w.heap.size (.slice none 0 0) [] := own_slopesAt (OwnSl.nil w 0) (by simp) (fun s hs => by simp at hs)
theorem craftsAt_nil (w : World) : CraftsAt w w.heap.size (.slice none 0 0) [] := own_craftsAt (cs := []) (B := 0) ⟨rfl, .inl ⟨rfl, rfl⟩⟩ (by simp)
/-- The results, stored. -/
def setRes (W : World) (b : Nat) (v0 v1 : Value) (x y z k e : Int) : World :=
  ((((((W.setCell ⟨b, 0, none⟩ v0).setCell ⟨b, 1, none⟩ v1).setCell ⟨b, 2, none⟩ (.int .i64 x)).setCell ⟨b, 3, none⟩ (.int .i64 y)).setCell ⟨b, 4, none⟩ (.int .i64 z)).setCell ⟨b + 1, 0, none⟩ (.int .i64 k)).setCell ⟨b + 2, 0, none⟩ (.int .i64 e)
structure ResSet (W : World) (b : Nat) (v0 v1 : Value) (x y z k e : Int) (W' : World) : Prop where
  box : W'.heap[b]? = some (.cells #[v0, v1, .int .i64 x, .int .i64 y, .int .i64 z] 25 (0, 0))
  line : W'.heap[b + 1]? = some (.cells #[.int .i64 k] 3 (0, 0))
  err : W'.heap[b + 2]? = some (.cells #[.int .i64 e] 28 (0, 0))
  same : ∀ j, j < b ∨ b + 3 ≤ j → W'.heap[j]? = W.heap[j]?
  below : Below b W W'
theorem setRes_set {W : World} {b : Nat} {u0 u1 u2 u3 u4 u5 u6 : Value} {v0 v1 : Value} {x y z k e : Int} (g0 : W.heap[b]? = some (.cells #[u0, u1, u2, u3, u4] 25 (0, 0))) (g1 : W.heap[b + 1]? = some (.cells #[u5] 3 (0, 0))) (g2 : W.heap[b + 2]? = some (.cells #[u6] 28 (0, 0))) :
    ResSet W b v0 v1 x y z k e (setRes W b v0 v1 x y z k e) := by
  have o1 : ∀ (w : World) (i : Nat) (v : Value) (j : Nat), j ≠ b → (w.setCell ⟨b, i, none⟩ v).heap[j]? = w.heap[j]? := fun w i v j h => Below.heap_setCell _ _ _ _ h
  have h5 : (((((W.setCell ⟨b, 0, none⟩ v0).setCell ⟨b, 1, none⟩ v1).setCell ⟨b, 2, none⟩ (.int .i64 x)).setCell ⟨b, 3, none⟩ (.int .i64 y)).setCell ⟨b, 4, none⟩ (.int .i64 z)).heap[b]? = some (.cells #[v0, v1, .int .i64 x, .int .i64 y, .int .i64 z] 25 (0, 0)) := by
    rw [heap_set (heap_set (heap_set (heap_set (heap_set g0 0 _) 1 _) 2 _) 3 _) 4 _]; rfl
  have s5 : ∀ j, j ≠ b → (((((W.setCell ⟨b, 0, none⟩ v0).setCell ⟨b, 1, none⟩ v1).setCell ⟨b, 2, none⟩ (.int .i64 x)).setCell ⟨b, 3, none⟩ (.int .i64 y)).setCell ⟨b, 4, none⟩ (.int .i64 z)).heap[j]? = W.heap[j]? := fun j h => by
    rw [o1 _ _ _ _ h, o1 _ _ _ _ h, o1 _ _ _ _ h, o1 _ _ _ _ h, o1 _ _ _ _ h]
  have b5 : Below b W (((((W.setCell ⟨b, 0, none⟩ v0).setCell ⟨b, 1, none⟩ v1).setCell ⟨b, 2, none⟩ (.int .i64 x)).setCell ⟨b, 3, none⟩ (.int .i64 y)).setCell ⟨b, 4, none⟩ (.int .i64 z)) :=
    ((((((Below.refl b W).setCell (p := ⟨b, 0, none⟩) (Nat.le_refl _) _).setCell (p := ⟨b, 1, none⟩) (Nat.le_refl _) _).setCell (p := ⟨b, 2, none⟩) (Nat.le_refl _) _).setCell (p := ⟨b, 3, none⟩) (Nat.le_refl _) _).setCell (p := ⟨b, 4, none⟩) (Nat.le_refl _) _)
  unfold setRes
  generalize (((((W.setCell ⟨b, 0, none⟩ v0).setCell ⟨b, 1, none⟩ v1).setCell ⟨b, 2, none⟩ (.int .i64 x)).setCell ⟨b, 3, none⟩ (.int .i64 y)).setCell ⟨b, 4, none⟩ (.int .i64 z)) = W5 at *
  have g1' := (s5 (b + 1) (by omega)).trans g1
  have g2' := (s5 (b + 2) (by omega)).trans g2
  refine ⟨?_, ?_, ?_, fun j hj => ?_, (b5.setCell (p := ⟨b + 1, 0, none⟩) (Nat.le_succ _) _).setCell (p := ⟨b + 2, 0, none⟩) (by show b ≤ b + 2; omega) _⟩
  · exact (Below.heap_setCell _ _ _ _ (by show b ≠ b + 2; omega)).trans ((Below.heap_setCell _ _ _ _ (by show b ≠ b + 1; omega)).trans h5)
  · exact (Below.heap_setCell _ _ _ _ (by show b + 1 ≠ b + 2; omega)).trans ((heap_set g1' 0 _).trans rfl)
  · exact (heap_set ((Below.heap_setCell _ _ _ _ (by show b + 2 ≠ b + 1; omega)).trans g2') 0 _).trans rfl
  · exact (Below.heap_setCell _ _ _ _ (by show j ≠ b + 2; omega)).trans ((Below.heap_setCell _ _ _ _ (by show j ≠ b + 1; omega)).trans (s5 j (by omega)))
/-- A return with nothing but a line and an error. -/
theorem parse_bad {tmps : Array Value} {w W w' : World} {s : List UInt8} {D : Nat} {k : Int} {e : Int} (h2 : tmps.getD 2 undef = .pointer (some ⟨w.heap.size, 0, none⟩)) (h3 : tmps.getD 3 undef = .pointer (some ⟨w.heap.size + 1, 0, none⟩)) (h4 : tmps.getD 4 undef = .pointer (some ⟨w.heap.size + 2, 0, none⟩))
    (hp : parseS s = (wk0, k, e)) (hT : Taken D W w') (hD : w.heap.size ≤ D) (hDW : D ≤ W.heap.size)
    (g0 : W.heap[w.heap.size]? = some (.cells #[.slice none 0 0, .slice none 0 0, .int .i64 0, .int .i64 0, .int .i64 0] 25 (0, 0)))
    (g1 : W.heap[w.heap.size + 1]? = some (.cells #[.int .i64 k] 3 (0, 0))) (g2 : W.heap[w.heap.size + 2]? = some (.cells #[.int .i64 e] 28 (0, 0))) (hb : Below w.heap.size w W) :
    ∃ v, (results Tryz.f9 tmps).run Tryz.prog w' = .ok v w' ∧ ParsePost s w (.returned v) w' := by
  refine ⟨_, results_parse h2 h3 h4 (hT.cells g0) rfl (hT.cells g1) (hT.cells g2), .slice none 0 0, .slice none 0 0, ?_, ?_, ?_, hb.trans (hT.below hD hDW)⟩
  · rw [hp]; rfl
  · rw [hp]; exact slopesAt_nil w'
  · rw [hp]; exact craftsAt_nil w'
theorem boxes3 (w : World) (e : Int) :
    (((w.alloc (.cells #[.slice none 0 0, .slice none 0 0, .int .i64 0, .int .i64 0, .int .i64 0] 25)).alloc (.cells #[.int .i64 0] 3)).alloc (.cells #[.int .i64 e] 28)).heap[w.heap.size]? = some (.cells #[.slice none 0 0, .slice none 0 0, .int .i64 0, .int .i64 0, .int .i64 0] 25 (0, 0)) ∧
    (((w.alloc (.cells #[.slice none 0 0, .slice none 0 0, .int .i64 0, .int .i64 0, .int .i64 0] 25)).alloc (.cells #[.int .i64 0] 3)).alloc (.cells #[.int .i64 e] 28)).heap[w.heap.size + 1]? = some (.cells #[.int .i64 0] 3 (0, 0)) ∧
    (((w.alloc (.cells #[.slice none 0 0, .slice none 0 0, .int .i64 0, .int .i64 0, .int .i64 0] 25)).alloc (.cells #[.int .i64 0] 3)).alloc (.cells #[.int .i64 e] 28)).heap[w.heap.size + 2]? = some (.cells #[.int .i64 e] 28 (0, 0)) ∧
    Below w.heap.size w (((w.alloc (.cells #[.slice none 0 0, .slice none 0 0, .int .i64 0, .int .i64 0, .int .i64 0] 25)).alloc (.cells #[.int .i64 0] 3)).alloc (.cells #[.int .i64 e] 28)) ∧
    (((w.alloc (.cells #[.slice none 0 0, .slice none 0 0, .int .i64 0, .int .i64 0, .int .i64 0] 25)).alloc (.cells #[.int .i64 0] 3)).alloc (.cells #[.int .i64 e] 28)).heap.size = w.heap.size + 3 := by
  obtain ⟨w1, h1⟩ : ∃ w1, w1 = w.alloc (.cells #[.slice none 0 0, .slice none 0 0, .int .i64 0, .int .i64 0, .int .i64 0] 25) := ⟨_, rfl⟩
  obtain ⟨w2, h2⟩ : ∃ w2, w2 = w1.alloc (.cells #[.int .i64 0] 3) := ⟨_, rfl⟩
  rw [← h1, ← h2]
  have z1 : w1.heap.size = w.heap.size + 1 := by rw [h1]; simp
  have z2 : w2.heap.size = w.heap.size + 2 := by rw [h2]; simp [z1]
  have b1 : Below w.heap.size w w1 := by rw [h1]; exact below1 _ _
  have b2 : Below w1.heap.size w1 w2 := by rw [h2]; exact below1 _ _
  have b3 := below1 w2 (.cells #[.int .i64 e] 28)
  have g1 : w1.heap[w.heap.size]? = some (.cells #[.slice none 0 0, .slice none 0 0, .int .i64 0, .int .i64 0, .int .i64 0] 25 (0, 0)) := by rw [h1]; exact heap_alloc_self _ _
  have g2 : w2.heap[w.heap.size + 1]? = some (.cells #[.int .i64 0] 3 (0, 0)) := by rw [h2, ← z1]; exact heap_alloc_self _ _
  have g3 := heap_alloc_self w2 (.cells #[.int .i64 e] 28)
  rw [z2] at g3
  exact ⟨blk_below b3 (blk_below b2 g1 (by omega)) (by omega), blk_below b3 g2 (by omega), g3, b1.trans ((b2.mono (by omega)).trans (b3.mono (by omega))), by simp [z2]⟩
theorem trimSuffix_len (x p : List UInt8) : (Lib.trimSuffix x p).length ≤ x.length := by
  unfold Lib.trimSuffix
  split
  · rw [List.length_take]; omega
  · exact Nat.le_refl _
theorem partsG_size (b : UInt8) : ∀ (l cur p : List UInt8), p ∈ partsG b cur l → p.length ≤ cur.length + l.length
  | [], cur, p, h => by
    simp only [partsG, List.mem_singleton] at h
    subst h; simp
  | c :: l, cur, p, h => by
    rw [partsG_cons] at h
    split at h
    · rcases List.mem_cons.1 h with e | e
      · subst e; simp
      · have := partsG_size b l [] p e
        simp only [List.length_nil, List.length_cons] at this ⊢
        omega
    · have := partsG_size b l _ p h
      simp only [List.length_append, List.length_cons, List.length_nil] at this ⊢
      omega
theorem partsG_count (b : UInt8) : ∀ (l cur : List UInt8), (partsG b cur l).length ≤ l.length + 1
  | [], cur => by simp [partsG]
  | c :: l, cur => by
    rw [partsG_cons]
    split
    · have := partsG_count b l []
      simp only [List.length_cons]
      omega
    · have := partsG_count b l (cur ++ [c])
      simp only [List.length_cons]
      omega
/-- The numbers of a line's first words. -/
structure PaMid (W3 : World) (ws : List (List UInt8)) (nv : Value) (j : Nat) (W : World) : Prop where
  nums : ∃ xs, numsL (ws.take j) = some xs ∧ W.ownsRow W3.heap.size 3 1 nv xs.length (xs.map (Value.int .i64)) ∧ Below W3.heap.size W3 W
theorem PaMid.below {W3 : World} {ws : List (List UInt8)} {nv : Value} {j : Nat} {W : World} (h : PaMid W3 ws nv j W) : Below W3.heap.size W3 W := by
  obtain ⟨_, _, _, hb⟩ := h.nums
  exact hb
/-- A round that ends by telling the wrong line. -/
theorem pa_bad_end {w W W5 W6 : World} {R : Nat × Option Wk} {k : Nat} (hs1 : ∀ j, j < W.heap.size → j ≠ w.heap.size + 3 → W5.heap[j]? = W.heap[j]?) (hR : R = (k + 1, none)) (hset : ResSet W5 w.heap.size (.slice none 0 0) (.slice none 0 0) 0 0 0 ((k : Int) + 1) 4 W6)
    (hb : Below w.heap.size w W5) (hz : W.heap.size ≤ W5.heap.size) (hbig : w.heap.size + 7 ≤ W.heap.size) : KeptL (w.heap.size + 5) (w.heap.size + 4) W W6.drew ∧ PaX w R .ret W6.drew := by
  refine ⟨⟨Nat.le_trans hz hset.below.size, fun j hj => ?_⟩, rfl, by rw [hR], hset.box, ?_, hset.err, (hb.trans hset.below).drew, Nat.le_trans hbig (Nat.le_trans hz hset.below.size)⟩
  · have h1 : w.heap.size + 3 < j ∧ j < W.heap.size := by rcases hj with e | e | e <;> omega
    exact (hset.same j (.inr (by omega))).trans (hs1 j h1.2 (by omega))
  · rw [hR]
    show W6.drew.heap[w.heap.size + 1]? = some (.cells #[.int .i64 ((k + 1 : Nat) : Int)] 3 (0, 0))
    rw [show ((k + 1 : Nat) : Int) = (k : Int) + 1 by omega]
    exact hset.line
theorem own_len {w : World} {B e size n k c : Nat} {A : Option Addr} {xs : List Value} (h : w.ownsRow B e size (.slice A n c) k xs) : n = k := by
  rcases h.2 with ⟨h1, h2⟩ | ⟨g, cap, cur, hv, _⟩
  · simp only [Value.slice.injEq] at h1
    omega
  · simp only [Value.slice.injEq] at hv
    omega
/-- The boxes while a line is taken up: the line is counted already. -/
structure PaAt (w : World) (k : Nat) (m : Wk) (v cr : Value) (W : World) : Prop where
  box : W.heap[w.heap.size]? = some (.cells #[v, cr, .int .i64 m.years, .int .i64 m.visit, .int .i64 m.hands] 25 (0, 0))
  line : W.heap[w.heap.size + 1]? = some (.cells #[.int .i64 0] 3 (0, 0))
  err : W.heap[w.heap.size + 2]? = some (.cells #[.int .i64 0] 28 (0, 0))
  cnt : W.heap[w.heap.size + 3]? = some (.cells #[.int .i64 ((k : Int) + 1)] 3 (0, 0))
  sl : OwnSq W (w.heap.size + 7) v m.slopes
  own : W.ownsRow (w.heap.size + 7) 67 3 cr m.crafts.length (cellsC m.crafts)
  below : Below w.heap.size w W
  big : w.heap.size + 7 ≤ W.heap.size
theorem PaAt.of {w W W6 : World} {R : Nat × Option Wk} {s r : ByteArray} {k : Nat} {m : Wk} {v cr : Value} (h : PaInv w R s r k m v cr W) (hs1 : ∀ j, j < W.heap.size → j ≠ w.heap.size + 3 → W6.heap[j]? = W.heap[j]?)
    (hc : W6.heap[w.heap.size + 3]? = some (.cells #[.int .i64 ((k : Int) + 1)] 3 (0, 0))) (hb : Below w.heap.size w W6) (hz : W.heap.size ≤ W6.heap.size) : PaAt w k m v cr W6 := by
  have hbg := h.big
  exact ⟨(hs1 _ (by omega) (by omega)).trans h.box, (hs1 _ (by omega) (by omega)).trans h.line, (hs1 _ (by omega) (by omega)).trans h.err, hc, h.sl.kept fun b cs t hB hk _ => hs1 b (lt_blk hk) (by omega),
    own_kept h.own fun b hb => hs1 b (own_blk_lt h.own b hb).2 (by have := (own_blk_lt h.own b hb).1; omega), hb, by omega⟩
theorem PaAt.fin {w W W' : World} {R : Nat × Option Wk} {s r : ByteArray} {k : Nat} {m' : Wk} {v' cr' : Value} (h : PaAt w k m' v' cr' W') (hgo : parseGo (k + 1) m' (linesL (afterB r).data.toList) = R) (hcount : k + r.size ≤ s.size) (haft : (afterB r).size < r.size)
    (hfew : m'.slopes.length + m'.crafts.length ≤ k + 1) (ht : ∀ x ∈ m'.slopes, x.takes.length ≤ 100000) (hz : W.heap.size ≤ W'.heap.size) (hkept : ∀ j, j = w.heap.size + 4 ∨ j = w.heap.size + 5 ∨ j = w.heap.size + 6 → W'.heap[j]? = W.heap[j]?) :
    KeptL (w.heap.size + 5) (w.heap.size + 4) W W' ∧ PaI w R s (afterB r) W' := by
  refine ⟨⟨hz, fun j hj => hkept j (by rcases hj with e | e | e <;> omega)⟩, k + 1, m', v', cr', hgo, by omega, h.box, h.line, h.err, ?_, h.sl, h.own, hfew, ht, h.below, h.big⟩
  rw [show ((k + 1 : Nat) : Int) = (k : Int) + 1 by omega]
  exact h.cnt
/-- Years, visit and hands are stored. -/
theorem PaAt.nums {w W W7 : World} {k : Nat} {m : Wk} {v cr : Value} (h : PaAt w k m v cr W) (x y z : Int) (hW : W7 = (((W.setCell ⟨w.heap.size, 2, none⟩ (.int .i64 x)).setCell ⟨w.heap.size, 3, none⟩ (.int .i64 y)).setCell ⟨w.heap.size, 4, none⟩ (.int .i64 z))) :
    PaAt w k { m with years := x, visit := y, hands := z } v cr W7 ∧ (∀ j, j ≠ w.heap.size → W7.heap[j]? = W.heap[j]?) := by
  have ho : ∀ j, j ≠ w.heap.size → W7.heap[j]? = W.heap[j]? := fun j hj => by
    rw [hW, Below.heap_setCell _ _ _ _ (by exact hj), Below.heap_setCell _ _ _ _ (by exact hj), Below.heap_setCell _ _ _ _ (by exact hj)]
  have hsz : W7.heap.size = W.heap.size := by rw [hW]; simp [World.setCell]
  have hbg := h.big
  refine ⟨⟨?_, (ho _ (by omega)).trans h.line, (ho _ (by omega)).trans h.err, (ho _ (by omega)).trans h.cnt, h.sl.kept fun b cs t hB hk _ => ho b (by omega), own_kept h.own fun b hb => ho b (by have := (own_blk_lt h.own b hb).1; omega), ?_, by omega⟩, ho⟩
  · rw [hW, heap_set (heap_set (heap_set h.box 2 _) 3 _) 4 _]; rfl
  · rw [hW]
    exact ((h.below.setCell (p := ⟨w.heap.size, 2, none⟩) (Nat.le_refl _) _).setCell (p := ⟨w.heap.size, 3, none⟩) (Nat.le_refl _) _).setCell (p := ⟨w.heap.size, 4, none⟩) (Nat.le_refl _) _
/-- Blocks laid behind. -/
theorem PaAt.later {w W W' : World} {k : Nat} {m : Wk} {v cr : Value} (h : PaAt w k m v cr W) (hb : Below W.heap.size W W') : PaAt w k m v cr W' := by
  have hbg := h.big
  exact ⟨blk_below hb h.box (lt_blk h.box), blk_below hb h.line (lt_blk h.line), blk_below hb h.err (lt_blk h.err), blk_below hb h.cnt (lt_blk h.cnt), h.sl.kept fun b cs t _ hk _ => hb.block b (lt_blk hk),
    own_kept h.own fun b hk => hb.block b (own_blk_lt h.own b hk).2, h.below.trans (hb.mono h.below.size), Nat.le_trans hbg hb.size⟩
/-- A slope more. -/
theorem PaAt.slope {w W w8 : World} {k : Nat} {m : Wk} {v cr v8 u : Value} {x : Slope} {us : List Value} (h : PaAt w k m v cr W) (h1 : us.length = m.slopes.length) (h4 : W.ownsRow (w.heap.size + 7) 37 5 v m.slopes.length (cellsSl m.slopes us))
    (h5 : ∀ (i : Nat) (s : Slope), m.slopes[i]? = some s → ∃ u, us[i]? = some u ∧ TakesAt W (w.heap.size + 7) u s.takes) (hu : TakesAt W (w.heap.size + 7) u x.takes)
    (hown : w8.ownsRow (w.heap.size + 7) 37 5 v8 (m.slopes.length + 1) (cellsSl m.slopes us ++ [.int .i64 x.now, .int .i64 x.need, .int .i64 x.full, .int .i64 x.size, u])) (hg : W.grownBy w8 v.ownBlock) (hb8 : Below (w.heap.size + 7) W w8) :
    w8.heap[w.heap.size]? = some (.cells #[v, cr, .int .i64 m.years, .int .i64 m.visit, .int .i64 m.hands] 25 (0, 0)) ∧ PaAt w k { m with slopes := m.slopes ++ [x] } v8 cr (w8.setCell ⟨w.heap.size, 0, none⟩ v8) ∧ (∀ j, j ≠ w.heap.size → j < w.heap.size + 7 → (w8.setCell ⟨w.heap.size, 0, none⟩ v8).heap[j]? = W.heap[j]?) ∧ W.heap.size ≤ (w8.setCell ⟨w.heap.size, 0, none⟩ v8).heap.size := by
  have hbg := h.big
  have hbx := blk_below hb8 h.box (by omega)
  have ho : ∀ j, j ≠ w.heap.size → (w8.setCell ⟨w.heap.size, 0, none⟩ v8).heap[j]? = w8.heap[j]? := fun j hj => Below.heap_setCell _ _ _ _ hj
  have hsz : (w8.setCell ⟨w.heap.size, 0, none⟩ v8).heap.size = w8.heap.size := by simp [World.setCell]
  have hs8 := OwnSq.snoc (x := x) h1 h4 h5 hu hown hg
  have hc8 : w8.ownsRow (w.heap.size + 7) 67 3 cr m.crafts.length (cellsC m.crafts) := own_kept h.own (fun b hb => hg.block b (own_blk_lt h.own b hb).2 (fun e => by
    obtain ⟨cur, hcu⟩ := own_type h4 b e.symm
    obtain ⟨cu2, hc2⟩ := own_type h.own b hb
    rw [hc2] at hcu
    simp at hcu))
  refine ⟨hbx, ⟨(heap_set hbx 0 _).trans rfl, (ho _ (by omega)).trans (blk_below hb8 h.line (by omega)), (ho _ (by omega)).trans (blk_below hb8 h.err (by omega)), (ho _ (by omega)).trans (blk_below hb8 h.cnt (by omega)), hs8.kept fun b cs t hB _ _ => ho b (by omega),
    own_kept hc8 fun b hb => ho b (by have := (own_blk_lt hc8 b hb).1; omega), (h.below.trans (hb8.mono (by omega))).setCell (p := ⟨w.heap.size, 0, none⟩) (Nat.le_refl _) _, by have := hb8.size; omega⟩, fun j hj hj7 => (ho j hj).trans (hb8.block j hj7), by have := hb8.size; omega⟩
/-- A craft more. -/
theorem PaAt.craft {w W w8 : World} {k : Nat} {m : Wk} {v cr cr8 : Value} {c : Craft} (h : PaAt w k m v cr W)
    (hown : w8.ownsRow (w.heap.size + 7) 67 3 cr8 (m.crafts.length + 1) (cellsC m.crafts ++ [.int .i64 c.add, .int .i64 c.price, .bool c.strip])) (hg : W.grownBy w8 cr.ownBlock) (hb8 : Below (w.heap.size + 7) W w8) :
    w8.heap[w.heap.size]? = some (.cells #[v, cr, .int .i64 m.years, .int .i64 m.visit, .int .i64 m.hands] 25 (0, 0)) ∧ PaAt w k { m with crafts := m.crafts ++ [c] } v cr8 (w8.setCell ⟨w.heap.size, 1, none⟩ cr8) ∧ (∀ j, j ≠ w.heap.size → j < w.heap.size + 7 → (w8.setCell ⟨w.heap.size, 1, none⟩ cr8).heap[j]? = W.heap[j]?) ∧ W.heap.size ≤ (w8.setCell ⟨w.heap.size, 1, none⟩ cr8).heap.size := by
  have hbg := h.big
  have hbx := blk_below hb8 h.box (by omega)
  have ho : ∀ j, j ≠ w.heap.size → (w8.setCell ⟨w.heap.size, 1, none⟩ cr8).heap[j]? = w8.heap[j]? := fun j hj => Below.heap_setCell _ _ _ _ hj
  have hsz : (w8.setCell ⟨w.heap.size, 1, none⟩ cr8).heap.size = w8.heap.size := by simp [World.setCell]
  have hs8 : OwnSq w8 (w.heap.size + 7) v m.slopes := h.sl.kept fun b cs t _ hk ht => hg.block b (lt_blk hk) (fun e => by
    obtain ⟨cur, hcu⟩ := own_type h.own b e.symm
    rw [hcu] at hk
    rcases ht with ht | ht <;> subst ht <;> simp at hk)
  have e : cellsC (m.crafts ++ [c]) = cellsC m.crafts ++ [.int .i64 c.add, .int .i64 c.price, .bool c.strip] := by simp [cellsC]
  refine ⟨hbx, ⟨(heap_set hbx 1 _).trans rfl, (ho _ (by omega)).trans (blk_below hb8 h.line (by omega)), (ho _ (by omega)).trans (blk_below hb8 h.err (by omega)), (ho _ (by omega)).trans (blk_below hb8 h.cnt (by omega)), hs8.kept fun b cs t hB _ _ => ho b (by omega),
    ?_, (h.below.trans (hb8.mono (by omega))).setCell (p := ⟨w.heap.size, 1, none⟩) (Nat.le_refl _) _, by have := hb8.size; omega⟩, fun j hj hj7 => (ho j hj).trans (hb8.block j hj7), by have := hb8.size; omega⟩
  show World.ownsRow _ _ _ _ _ (m.crafts ++ [c]).length (cellsC (m.crafts ++ [c]))
  rw [e, List.length_append]
  exact own_kept hown fun b hb => ho b (by have := (own_blk_lt hown b hb).1; omega)
theorem boxes4 (w : World) : ((((w.alloc (.cells #[.slice none 0 0, .slice none 0 0, .int .i64 0, .int .i64 0, .int .i64 0] 25)).alloc (.cells #[.int .i64 0] 3)).alloc (.cells #[.int .i64 0] 28)).alloc (.cells #[.int .i64 0] 3)).heap.size = w.heap.size + 4 ∧
    Below w.heap.size w ((((w.alloc (.cells #[.slice none 0 0, .slice none 0 0, .int .i64 0, .int .i64 0, .int .i64 0] 25)).alloc (.cells #[.int .i64 0] 3)).alloc (.cells #[.int .i64 0] 28)).alloc (.cells #[.int .i64 0] 3)) ∧
    ((((w.alloc (.cells #[.slice none 0 0, .slice none 0 0, .int .i64 0, .int .i64 0, .int .i64 0] 25)).alloc (.cells #[.int .i64 0] 3)).alloc (.cells #[.int .i64 0] 28)).alloc (.cells #[.int .i64 0] 3)).heap[w.heap.size]? = some (.cells #[.slice none 0 0, .slice none 0 0, .int .i64 0, .int .i64 0, .int .i64 0] 25 (0, 0)) ∧
    ((((w.alloc (.cells #[.slice none 0 0, .slice none 0 0, .int .i64 0, .int .i64 0, .int .i64 0] 25)).alloc (.cells #[.int .i64 0] 3)).alloc (.cells #[.int .i64 0] 28)).alloc (.cells #[.int .i64 0] 3)).heap[w.heap.size + 1]? = some (.cells #[.int .i64 0] 3 (0, 0)) ∧
    ((((w.alloc (.cells #[.slice none 0 0, .slice none 0 0, .int .i64 0, .int .i64 0, .int .i64 0] 25)).alloc (.cells #[.int .i64 0] 3)).alloc (.cells #[.int .i64 0] 28)).alloc (.cells #[.int .i64 0] 3)).heap[w.heap.size + 2]? = some (.cells #[.int .i64 0] 28 (0, 0)) ∧
    ((((w.alloc (.cells #[.slice none 0 0, .slice none 0 0, .int .i64 0, .int .i64 0, .int .i64 0] 25)).alloc (.cells #[.int .i64 0] 3)).alloc (.cells #[.int .i64 0] 28)).alloc (.cells #[.int .i64 0] 3)).heap[w.heap.size + 3]? = some (.cells #[.int .i64 0] 3 (0, 0)) := by
  obtain ⟨w1, h1⟩ : ∃ w1, w1 = w.alloc (.cells #[.slice none 0 0, .slice none 0 0, .int .i64 0, .int .i64 0, .int .i64 0] 25) := ⟨_, rfl⟩
  obtain ⟨w2, h2⟩ : ∃ w2, w2 = w1.alloc (.cells #[.int .i64 0] 3) := ⟨_, rfl⟩
  obtain ⟨w3, h3⟩ : ∃ w3, w3 = w2.alloc (.cells #[.int .i64 0] 28) := ⟨_, rfl⟩
  rw [← h1, ← h2, ← h3]
  have z1 : w1.heap.size = w.heap.size + 1 := by rw [h1]; simp
  have z2 : w2.heap.size = w.heap.size + 2 := by rw [h2]; simp [z1]
  have z3 : w3.heap.size = w.heap.size + 3 := by rw [h3]; simp [z2]
  have b1 : Below w.heap.size w w1 := by rw [h1]; exact below1 _ _
  have b2 : Below w1.heap.size w1 w2 := by rw [h2]; exact below1 _ _
  have b3 : Below w2.heap.size w2 w3 := by rw [h3]; exact below1 _ _
  have b4 := below1 w3 (.cells #[.int .i64 0] 3)
  have g1 : w1.heap[w.heap.size]? = some (.cells #[.slice none 0 0, .slice none 0 0, .int .i64 0, .int .i64 0, .int .i64 0] 25 (0, 0)) := by rw [h1]; exact heap_alloc_self _ _
  have g2 : w2.heap[w.heap.size + 1]? = some (.cells #[.int .i64 0] 3 (0, 0)) := by rw [h2, ← z1]; exact heap_alloc_self _ _
  have g3 : w3.heap[w.heap.size + 2]? = some (.cells #[.int .i64 0] 28 (0, 0)) := by rw [h3, ← z2]; exact heap_alloc_self _ _
  have g4 := heap_alloc_self w3 (.cells #[.int .i64 0] 3)
  rw [z3] at g4
  exact ⟨by simp [z3], b1.trans ((b2.mono (by omega)).trans ((b3.mono (by omega)).trans (b4.mono (by omega)))), blk_below b4 (blk_below b3 (blk_below b2 g1 (by omega)) (by omega)) (by omega), blk_below b4 (blk_below b3 g2 (by omega)) (by omega), blk_below b4 g3 (by omega), g4⟩
theorem lineN_nil (first : Bool) (m : Wk) (h : List UInt8) : lineN first m h [] = none := by
  unfold lineN
  split
  · rfl
  · simp
def aggOf : List Value → Array Value
  | [.agg cs] => cs
  | _ => #[]
/-- The works' box while years and visit are being stored, in whatever order, once or again. -/
def bxO (v cr : Value) (y z h a c : Int) (p q : Bool) : Obj := .cells #[v, cr, .int .i64 (if p then a else y), .int .i64 (if q then c else z), .int .i64 h] 25 (0, 0)
structure BoxR (b : Nat) (v cr : Value) (y z h a c : Int) (w w' : World) : Prop where
  bel : Bel (fun j => j = b) w w'
  step : ∀ p q : Bool, w.heap[b]? = some (bxO v cr y z h a c p q) → ∃ p' q' : Bool, (p = true → p' = true) ∧ (q = true → q' = true) ∧ w'.heap[b]? = some (bxO v cr y z h a c p' q')
theorem BoxR.refl (b : Nat) (v cr : Value) (y z h a c : Int) (w : World) : BoxR b v cr y z h a c w w := ⟨Bel.refl _ _, fun p q e => ⟨p, q, id, id, e⟩⟩
theorem BoxR.trans {b : Nat} {v cr : Value} {y z h a c : Int} {w1 w2 w3 : World} (k : BoxR b v cr y z h a c w1 w2) (l : BoxR b v cr y z h a c w2 w3) : BoxR b v cr y z h a c w1 w3 :=
  ⟨k.bel.trans l.bel, fun p q e => by
    obtain ⟨p1, q1, h1, h2, e1⟩ := k.step p q e
    obtain ⟨p2, q2, h3, h4, e2⟩ := l.step p1 q1 e1
    exact ⟨p2, q2, fun h => h3 (h1 h), fun h => h4 (h2 h), e2⟩⟩
theorem BoxR.undrew {b : Nat} {v cr : Value} {y z h a c : Int} {w w' : World} (k : BoxR b v cr y z h a c w.drew w') : BoxR b v cr y z h a c w w' :=
  ⟨⟨k.bel.os, k.bel.tape, k.bel.output, k.bel.size, k.bel.block⟩, k.step⟩
theorem BoxR.set2 {b : Nat} {v cr : Value} {y z h a c : Int} {w : World} : BoxR b v cr y z h a c w (w.setCell ⟨b, 2, none⟩ (.int .i64 a)) :=
  ⟨(Bel.refl (fun j => j = b) w).setCell (p := ⟨b, 2, none⟩) (fun _ => rfl) _, fun _ q e => ⟨true, q, fun _ => rfl, id, (heap_set e 2 _).trans rfl⟩⟩
theorem BoxR.set3 {b : Nat} {v cr : Value} {y z h a c : Int} {w : World} : BoxR b v cr y z h a c w (w.setCell ⟨b, 3, none⟩ (.int .i64 c)) :=
  ⟨(Bel.refl (fun j => j = b) w).setCell (p := ⟨b, 3, none⟩) (fun _ => rfl) _, fun p _ e => ⟨p, true, id, fun _ => rfl, (heap_set e 3 _).trans rfl⟩⟩
def BoxA (b : Nat) (v cr : Value) (y z h a c : Int) (w : World) : Prop := ∃ q, w.heap[b]? = some (bxO v cr y z h a c true q)
def BoxC (b : Nat) (v cr : Value) (y z h a c : Int) (w : World) : Prop := ∃ p, w.heap[b]? = some (bxO v cr y z h a c p true)
theorem BoxA.both {b : Nat} {v cr : Value} {y z h a c : Int} {w : World} (h1 : BoxA b v cr y z h a c w) (h2 : BoxC b v cr y z h a c w) : w.heap[b]? = some (.cells #[v, cr, .int .i64 a, .int .i64 c, .int .i64 h] 25 (0, 0)) := by
  obtain ⟨q, e1⟩ := h1
  obtain ⟨p, e2⟩ := h2
  cases q
  · have e := e1.symm.trans e2
    simp only [bxO, Option.some.injEq, Obj.cells.injEq, Array.mk.injEq, List.cons.injEq, Value.int.injEq] at e
    simp at e
    rw [e1]
    simp [bxO, e]
  · rw [e1]; rfl
theorem PaAt.nums2 {w W W7 : World} {k : Nat} {m : Wk} {v cr : Value} (h : PaAt w k m v cr W) (x y z : Int) (hbox : W7.heap[w.heap.size]? = some (.cells #[v, cr, .int .i64 x, .int .i64 y, .int .i64 z] 25 (0, 0)))
    (ho : ∀ j, j ≠ w.heap.size → j < W.heap.size → W7.heap[j]? = W.heap[j]?) (hz : W.heap.size ≤ W7.heap.size) (hb : Below w.heap.size w W7) : PaAt w k { m with years := x, visit := y, hands := z } v cr W7 := by
  have hbg := h.big
  exact ⟨hbox, (ho _ (by omega) (by omega)).trans h.line, (ho _ (by omega) (by omega)).trans h.err, (ho _ (by omega) (by omega)).trans h.cnt, h.sl.kept fun b cs t hB hk _ => ho b (by omega) (lt_blk hk),
    own_kept h.own fun b hb => ho b (by have := (own_blk_lt h.own b hb).1; omega) (own_blk_lt h.own b hb).2, hb, by omega⟩
end Go.Proofs.YtcbhldfipfcjaaaGreatDoor

/- The specification's comparing of works. -/
namespace Go.Proofs.YtcbhldfipfcjaaaGreatDoor
open Go Go.RowKit Go.Shelf
set_option maxRecDepth 100000
theorem cell_alloc {w : World} {p : Addr} {v : Value} (ob : Obj) (h : w.cell? p = some v) : (w.alloc ob).cell? p = some v := by rw [World.cell?_alloc_lt _ _ _ (World.block_lt_of_cell? w _ h)]; exact h
def SameInv (m : Wk) (w : World) (s1 c1 s2 c2 : Value) (W : World) : Prop :=
  LawInv m w s1 c1 w.heap.size W ∧ LawInv m w s2 c2 (w.heap.size + 1) W
theorem SameInv.later {m : Wk} {w : World} {s1 c1 s2 c2 : Value} {W W' : World} (h : SameInv m w s1 c1 s2 c2 W) (hb : Below W.heap.size W W') : SameInv m w s1 c1 s2 c2 W' := ⟨h.1.later hb, h.2.later hb⟩

set_option maxHeartbeats 4000000 in
theorem same_calls (m : Wk) (s1 c1 s2 c2 : Value) (w : World) (hs1 : SlopesAt w w.heap.size s1 m.slopes) (hc1 : CraftsAt w w.heap.size c1 m.crafts) (hs2 : SlopesAt w w.heap.size s2 m.slopes) (hc2 : CraftsAt w w.heap.size c2 m.crafts) :
    Calls Tryz.prog 11 #[.agg #[s1, c1, .int .i64 m.years, .int .i64 m.visit, .int .i64 m.hands], .agg #[s2, c2, .int .i64 m.years, .int .i64 m.visit, .int .i64 m.hands]] w (LawPost w) := by
  obtain ⟨A, ac, rfl, hAl, hAs⟩ := id hs1
  obtain ⟨B, bc, rfl, hBl, hBs⟩ := id hs2
  obtain ⟨C, cc, rfl, hCl, hCs⟩ := id hc1
  obtain ⟨D, dc, rfl, hDl, hDs⟩ := id hc2
  obtain ⟨w0, hw0⟩ : ∃ w0, w0 = w.alloc (.cells #[.slice A m.slopes.length ac, .slice C m.crafts.length cc, .int .i64 m.years, .int .i64 m.visit, .int .i64 m.hands] 25) := ⟨_, rfl⟩
  obtain ⟨w1, hw1⟩ : ∃ w1, w1 = w0.alloc (.cells #[.slice B m.slopes.length bc, .slice D m.crafts.length dc, .int .i64 m.years, .int .i64 m.visit, .int .i64 m.hands] 25) := ⟨_, rfl⟩
  have b0 : Below w.heap.size w w0 := by rw [hw0]; exact below1 _ _
  have b1 : Below w0.heap.size w0 w1 := by rw [hw1]; exact below1 _ _
  have h0 : LawInv m w (.slice A m.slopes.length ac) (.slice C m.crafts.length cc) w.heap.size w1 := by
    have := LawInv.start hs1 hc1
    rw [← hw0] at this
    exact this.later b1
  have hsz : w0.heap.size = w.heap.size + 1 := by rw [hw0]; simp
  have h1 : LawInv m w (.slice B m.slopes.length bc) (.slice D m.crafts.length dc) (w.heap.size + 1) w1 := by
    have := LawInv.start (m := m) ((hs2.below b0).mono b0.size) ((hc2.below b0).mono b0.size)
    rw [← hw1, hsz] at this
    exact ⟨b0.trans (b1.mono b0.size), this.slopes, this.crafts, this.box⟩
  have hi : SameInv m w (.slice A m.slopes.length ac) (.slice C m.crafts.length cc) (.slice B m.slopes.length bc) (.slice D m.crafts.length dc) w1 := ⟨h0, h1⟩
  have x5 := blk5 h0.box
  have y5 := blk5 h1.box
  rw [hw1, hw0] at x5 y5
  obtain ⟨x0, x1, x2, x3, x4⟩ := x5
  obtain ⟨y0, y1, y2, y3, y4⟩ := y5
  have HI := Lib.hid hi
  have HW1 := Lib.hid hw1
  have HW0 := Lib.hid hw0
  have HA := Lib.hid hAs
  have HB := Lib.hid hBs
  have HC := Lib.hid hCs
  have HD := Lib.hid hDs
  clear hi hw1 hw0 h0 h1 b0 b1 hsz hs1 hs2 hc1 hc2 hAs hBs hCs hDs
  go_enter Tryz.func11, Tryz.ntmps11
  go_wp2_with fail
  rw [← HW0.out, ← HW1.out]
  go_loopw [5] (fun c wr => ∃ i : Nat, i ≤ m.slopes.length ∧ c = .int .i64 (i : Int) ∧ Hid (SameInv m w (.slice A m.slopes.length ac) (.slice C m.crafts.length cc) (.slice B m.slopes.length bc) (.slice D m.crafts.length dc) wr)) (fun c _ => m.slopes.length - (intOf c).toNat)
  case atStart => exact ⟨0, Nat.zero_le _, rfl, HI⟩
  case round =>
    obtain ⟨i, hi, rfl, HJ⟩ := hrel
    obtain ⟨Wr, rfl⟩ : ∃ Wr, Wr = wr := ⟨_, rfl⟩
    clear x0 x1 x2 x3 x4 y0 y1 y2 y3 y4
    obtain ⟨x0, x1, x2, x3, x4⟩ := blk5 HJ.out.1.box
    obtain ⟨y0, y1, y2, y3, y4⟩ := blk5 HJ.out.2.box
    by_cases hil : i < m.slopes.length
    · have hii : (i : Int) < (m.slopes.length : Int) := by omega
      have hi0 : (0 : Int) ≤ (i : Int) := by omega
      have hiadd : IntKind.i64.wrap ((i : Int) + 1) = (i : Int) + 1 := IntWalk.i64_in _ (by omega)
      have hgi : m.slopes[i]? = some m.slopes[i] := List.getElem?_eq_getElem hil
      obtain ⟨b, o, rfl, hb, hc⟩ := HA.out (by intro e; rw [e] at hil; simp at hil)
      obtain ⟨t, ht, c0, c1, c2, c3, c4⟩ := hc i _ hgi
      obtain ⟨tA, tc, rfl, hrA⟩ := id ht
      obtain ⟨b', o', rfl, hb', hc'⟩ := HB.out (by intro e; rw [e] at hil; simp at hil)
      obtain ⟨t', ht', c0', c1', c2', c3', c4'⟩ := hc' i _ hgi
      obtain ⟨tB, tc', rfl, hrB⟩ := id ht'
      have hbe := HJ.out.1.below
      have k0 := (hbe.cell (p := ⟨b, o + i * 5, none⟩) hb).trans c0
      have k1 := (hbe.cell (p := ⟨b, o + i * 5 + 1, none⟩) hb).trans c1
      have k2 := (hbe.cell (p := ⟨b, o + i * 5 + 2, none⟩) hb).trans c2
      have k3 := (hbe.cell (p := ⟨b, o + i * 5 + 3, none⟩) hb).trans c3
      have k4 := (hbe.cell (p := ⟨b, o + i * 5 + 4, none⟩) hb).trans c4
      have k0' := (hbe.cell (p := ⟨b', o' + i * 5, none⟩) hb').trans c0'
      have k1' := (hbe.cell (p := ⟨b', o' + i * 5 + 1, none⟩) hb').trans c1'
      have k2' := (hbe.cell (p := ⟨b', o' + i * 5 + 2, none⟩) hb').trans c2'
      have k3' := (hbe.cell (p := ⟨b', o' + i * 5 + 3, none⟩) hb').trans c3'
      have k4' := (hbe.cell (p := ⟨b', o' + i * 5 + 4, none⟩) hb').trans c4'
      have HRA := Lib.hid hrA
      have HRB := Lib.hid hrB
      clear c0 c1 c2 c3 c4 c0' c1' c2' c3' c4' hc hc' hbe hgi ht ht' hrA hrB
      generalize m.slopes[i] = x at *
      have ak0 := fun ob => cell_alloc ob k0
      have bk0 := fun ob ob' => cell_alloc ob' (cell_alloc ob k0)
      have ak1 := fun ob => cell_alloc ob k1
      have bk1 := fun ob ob' => cell_alloc ob' (cell_alloc ob k1)
      have ak2 := fun ob => cell_alloc ob k2
      have bk2 := fun ob ob' => cell_alloc ob' (cell_alloc ob k2)
      have ak3 := fun ob => cell_alloc ob k3
      have bk3 := fun ob ob' => cell_alloc ob' (cell_alloc ob k3)
      have ak4 := fun ob => cell_alloc ob k4
      have bk4 := fun ob ob' => cell_alloc ob' (cell_alloc ob k4)
      have ak0' := fun ob => cell_alloc ob k0'
      have bk0' := fun ob ob' => cell_alloc ob' (cell_alloc ob k0')
      have ak1' := fun ob => cell_alloc ob k1'
      have bk1' := fun ob ob' => cell_alloc ob' (cell_alloc ob k1')
      have ak2' := fun ob => cell_alloc ob k2'
      have bk2' := fun ob ob' => cell_alloc ob' (cell_alloc ob k2')
      have ak3' := fun ob => cell_alloc ob k3'
      have bk3' := fun ob ob' => cell_alloc ob' (cell_alloc ob k3')
      have ak4' := fun ob => cell_alloc ob k4'
      have bk4' := fun ob ob' => cell_alloc ob' (cell_alloc ob k4')
      have ax0 := fun ob => cell_alloc ob x0
      have bx0 := fun ob ob' => cell_alloc ob' (cell_alloc ob x0)
      have ay0 := fun ob => cell_alloc ob y0
      have by0 := fun ob ob' => cell_alloc ob' (cell_alloc ob y0)
      go_wp2_with fail
      go_region
      all_goals
        go_wp2_with fail
        refine (sameInts_calls w.heap.size tA tB tc tc' x.takes x.takes _ (HRA.out.below (HJ.out.1.below.trans ((((below1 Wr _).alloc (by simp) _).drew).mono HJ.out.1.below.size))) (HRB.out.below (HJ.out.1.below.trans ((((below1 Wr _).alloc (by simp) _).drew).mono HJ.out.1.below.size))) (Nat.le_trans HJ.out.1.below.size ((((below1 Wr _).alloc (by simp) _).drew).size))).mono ?_
        rintro e W3 ⟨rfl, hb3⟩
        have h3 := HJ.out.later ((((below1 Wr _).alloc (by simp) _).drew).trans (hb3.mono ((((below1 Wr _).alloc (by simp) _).drew).size)))
        have H3 := Lib.hid h3
        clear hb3 h3
        rw [show decide (x.takes = x.takes) = true from by simp]
        go_wp2_with fail
        go_round
        case rel => exact ⟨i + 1, by omega, by go_num, H3⟩
        case measure => simp [intOf]; omega
    · have hii : ¬ (i : Int) < (m.slopes.length : Int) := by omega
      go_wp2_with fail
      go_loopw [8] (fun c wr => ∃ i : Nat, i ≤ m.crafts.length ∧ c = .int .i64 (i : Int) ∧ Hid (SameInv m w (.slice A m.slopes.length ac) (.slice C m.crafts.length cc) (.slice B m.slopes.length bc) (.slice D m.crafts.length dc) wr)) (fun c _ => m.crafts.length - (intOf c).toNat)
      case atStart => exact ⟨0, Nat.zero_le _, rfl, HJ⟩
      case round =>
        obtain ⟨q, hq, rfl, HK⟩ := hrel
        obtain ⟨Wq, rfl⟩ : ∃ Wq, Wq = wr := ⟨_, rfl⟩
        clear x0 x1 x2 x3 x4 y0 y1 y2 y3 y4
        obtain ⟨x0, x1, x2, x3, x4⟩ := blk5 HK.out.1.box
        obtain ⟨y0, y1, y2, y3, y4⟩ := blk5 HK.out.2.box
        by_cases hql : q < m.crafts.length
        · have hqi : (q : Int) < (m.crafts.length : Int) := by omega
          have hq0 : (0 : Int) ≤ (q : Int) := by omega
          have hqadd : IntKind.i64.wrap ((q : Int) + 1) = (q : Int) + 1 := IntWalk.i64_in _ (by omega)
          have hgq : m.crafts[q]? = some m.crafts[q] := List.getElem?_eq_getElem hql
          obtain ⟨b, o, rfl, hb, hc⟩ := HC.out (by intro e; rw [e] at hql; simp at hql)
          obtain ⟨c0, c1, c2⟩ := hc q _ hgq
          obtain ⟨b', o', rfl, hb', hc'⟩ := HD.out (by intro e; rw [e] at hql; simp at hql)
          obtain ⟨c0', c1', c2'⟩ := hc' q _ hgq
          have hbe := HK.out.1.below
          have k0 := (hbe.cell (p := ⟨b, o + q * 3, none⟩) hb).trans c0
          have k1 := (hbe.cell (p := ⟨b, o + q * 3 + 1, none⟩) hb).trans c1
          have k2 := (hbe.cell (p := ⟨b, o + q * 3 + 2, none⟩) hb).trans c2
          have k0' := (hbe.cell (p := ⟨b', o' + q * 3, none⟩) hb').trans c0'
          have k1' := (hbe.cell (p := ⟨b', o' + q * 3 + 1, none⟩) hb').trans c1'
          have k2' := (hbe.cell (p := ⟨b', o' + q * 3 + 2, none⟩) hb').trans c2'
          clear c0 c1 c2 c0' c1' c2' hc hc' hbe hgq
          generalize m.crafts[q] = y at *
          obtain ⟨ya, yp, ys⟩ := y
          simp only [] at *
          have hs1 := HK.out.1.below.size
          have hs2 := lt_blk HK.out.2.box
          have hs3 : w.heap.size < Wq.heap.size := by omega
          have hb1 : b < Wq.heap.size := by omega
          have hb1' : b' < Wq.heap.size := by omega
          go_wp2_with fail
          refine wp_region_rg (Below Wq.heap.size) (fun _ => .fn) (by kernel_rfl) (by kernel_rfl) (Below.refl _) belowR (fun _ => trivial) ?_
          iterate 11 (refine rg_step fun K hK => ?_; apply rg_fn rfl; (intro w4 hw; have hc := below_cells (undrew hw); go_simp; try rfl); go_simp; (try with_reducible refine hK _ _ ?_); try clear hK K)
          refine rg_nil ?_
          intro w5 hw5 _
          have HB5 := Lib.hid (undrew hw5)
          clear hw5
          go_wp2_with fail
          go_round
          case rel => exact ⟨q + 1, by omega, by go_num, Lib.hid (HK.out.later HB5.out)⟩
          case measure => simp [intOf]; omega
        · have hqi : ¬ (q : Int) < (m.crafts.length : Int) := by omega
          go_wp2_with fail
          go_ret
          exact ⟨rfl, HK.out.1.below⟩
end Go.Proofs.YtcbhldfipfcjaaaGreatDoor

namespace Go.Proofs.YtcbhldfipfcjaaaGreatDoor
open Go Go.RowKit Go.Shelf

theorem dg_ofNat : ∀ k : Fin 10, isDig (UInt8.ofNat (48 + k.val)) = true ∧ (UInt8.ofNat (48 + k.val)).toNat - 48 = k.val := by decide +kernel
theorem dec_dig (u : Nat) : ∀ c ∈ Lib.decDigits u, isDig c = true := by
  induction u using Nat.strongRecOn with
  | ind u ih =>
    intro c hc
    rw [Lib.decDigits] at hc
    split at hc
    · rename_i h
      simp only [List.mem_singleton] at hc
      subst hc
      exact (dg_ofNat ⟨u, h⟩).1
    · rename_i h
      rcases List.mem_append.1 hc with h1 | h1
      · exact ih (u / 10) (by omega) c h1
      · simp only [List.mem_singleton] at h1
        subst h1
        exact (dg_ofNat ⟨u % 10, by omega⟩).1
theorem decV_snoc (l : List UInt8) (c : UInt8) (acc : Nat) : decV acc (l ++ [c]) = decV acc l * 10 + (c.toNat - 48) := by
  unfold decV
  rw [List.foldl_append]
  rfl
theorem dec_val (u : Nat) : decV 0 (Lib.decDigits u) = u := by
  induction u using Nat.strongRecOn with
  | ind u ih =>
    rw [Lib.decDigits]
    split
    · rename_i h
      have := (dg_ofNat ⟨u, h⟩).2
      simp only [decV, List.foldl_cons, List.foldl_nil]
      simp only at this
      omega
    · rename_i h
      rw [decV_snoc, ih (u / 10) (by omega)]
      have := (dg_ofNat ⟨u % 10, by omega⟩).2
      simp only at this
      omega
theorem dec_ne (u : Nat) : Lib.decDigits u ≠ [] := by
  intro h
  have := Lib.decDigits_length u
  rw [h] at this
  have := Lib.nDigits_pos u
  simp at *
  omega
theorem dec_head (u : Nat) : (Lib.decDigits u).head? = some 48 → u = 0 := by
  induction u using Nat.strongRecOn with
  | ind u ih =>
    intro h
    rw [Lib.decDigits] at h
    split at h
    · rename_i hu
      have : ∀ k : Fin 10, UInt8.ofNat (48 + k.val) = 48 → k.val = 0 := by decide +kernel
      exact this ⟨u, hu⟩ (by simpa using h)
    · rename_i hu
      rw [List.head?_append] at h
      cases hd : (Lib.decDigits (u / 10)).head? with
      | none => exact absurd (List.head?_eq_none_iff.1 hd) (dec_ne _)
      | some c =>
        rw [hd] at h
        simp only [Option.some_or] at h
        have := ih (u / 10) (by omega) (hd.trans h)
        omega
theorem itoa_dig {n : Int} (h : 0 ≤ n) : ∀ c ∈ Lib.itoa n, isDig c = true := by
  unfold Lib.itoa
  rw [if_neg (by omega)]
  exact dec_dig _
theorem itoa_no {n : Int} (h : 0 ≤ n) {b : UInt8} (hb : isDig b = false) : b ∉ Lib.itoa n := fun hm => by
  rw [itoa_dig h b hm] at hb
  cases hb
theorem itoa_ne {n : Int} (h : 0 ≤ n) : Lib.itoa n ≠ [] := by
  unfold Lib.itoa
  rw [if_neg (by omega)]
  exact dec_ne _
theorem numOf_itoa {n : Int} (h0 : 0 ≤ n) (h1 : n < 10000000000) : numOf (Lib.itoa n) = some n := by
  have hl := itoa_len h0 h1
  have hd := itoa_dig h0
  have hne := itoa_ne h0
  have hu : Lib.itoa n = Lib.decDigits n.toNat := by unfold Lib.itoa; rw [if_neg (by omega)]
  unfold numOf
  rw [if_neg]
  · unfold magN
    rw [if_neg, if_pos]
    · rw [hu, dec_val]
      simp
      omega
    · rw [List.all_eq_true]; exact hd
    · rintro (h | h | ⟨h2, h⟩)
      · exact hne h
      · omega
      · rw [hu] at h2
        have := dec_head _ h2
        rcases h with h | h
        · rw [hu, this, Lib.decDigits_length, Lib.nDigits_small (by omega)] at h
          omega
        · cases h
  · intro h
    obtain ⟨l, hl'⟩ := List.head?_eq_some_iff.1 h
    have := hd 45 (by rw [hl']; simp)
    revert this
    decide
/-- Numbers that a line may hold. -/
def Plain (l : List Int) : Prop := ∀ n ∈ l, 0 ≤ n ∧ n < 10000000000
theorem Plain.tail {n : Int} {l : List Int} (h : Plain (n :: l)) : Plain l := fun x hx => h x (List.mem_cons_of_mem _ hx)
theorem numsS_no {b : UInt8} (hb : isDig b = false) (h32 : b ≠ 32) : ∀ {l : List Int}, Plain l → b ∉ numsS l
  | [], _ => by simp [numsS]
  | n :: l, h => by
    have h1 := itoa_no (h n (by simp)).1 hb
    have h2 := numsS_no hb h32 h.tail
    simp only [numsS, List.flatMap_cons, List.mem_append, List.mem_cons, not_or] at h2 ⊢
    exact ⟨⟨h32, h1⟩, h2⟩
theorem words_row : ∀ {l : List Int} (x : List UInt8), 32 ∉ x → Plain l → partsG 32 [] (x ++ numsS l) = x :: l.map Lib.itoa
  | [], x, hx, _ => by
    rw [show numsS [] = [] from rfl, List.append_nil, partsG_none _ hx]; rfl
  | n :: l, x, hx, h => by
    have e : x ++ numsS (n :: l) = x ++ 32 :: (Lib.itoa n ++ numsS l) := by simp [numsS]
    rw [e, partsG_hit _ _ hx, words_row (Lib.itoa n) (itoa_no (h n (by simp)).1 (by decide)) h.tail]
    rfl
theorem numsL_itoa : ∀ {l : List Int}, Plain l → numsL (l.map Lib.itoa) = some l
  | [], _ => rfl
  | n :: l, h => by
    have h1 := h n (by simp)
    simp only [List.map_cons, numsL]
    rw [numOf_itoa h1.1 h1.2, numsL_itoa h.tail]
theorem lineS_row {head : List UInt8} {l : List Int} (first : Bool) (m : Wk) (hh : 32 ∉ head) (h : Plain l) : lineS first m (head ++ numsS l) = lineN first m head l := by
  unfold lineS wordsL
  rw [words_row head hh h]
  simp only [List.tail_cons, numsL_itoa h, List.headD_cons]
theorem lines_rows : ∀ {rows : List (List UInt8 × List Int)}, (∀ r ∈ rows, 10 ∉ r.1 ∧ Plain r.2) → linesL (rows.flatMap fun r => rowS r.1 r.2) = rows.map fun r => r.1 ++ numsS r.2
  | [], _ => rfl
  | r :: rows, h => by
    have h1 := h r (by simp)
    have e : (r :: rows).flatMap (fun r => rowS r.1 r.2) = (r.1 ++ numsS r.2) ++ 10 :: rows.flatMap (fun r => rowS r.1 r.2) := by simp [rowS]
    rw [e, linesL_hit _ (by simp only [List.mem_append, not_or]; exact ⟨h1.1, numsS_no (by decide) (by decide) h1.2⟩), lines_rows fun r hr => h r (List.mem_cons_of_mem _ hr)]
    rfl
def slopeP (x : Slope) : List UInt8 × List Int := (bSlope, slopeN x)
def craftP (c : Craft) : List UInt8 × List Int := if c.strip then (bStrip, [c.price]) else (bAdd, [c.add, c.price])
def rowsP (m : Wk) : List (List UInt8 × List Int) := (bWorks, [m.years, m.visit, m.hands]) :: (m.slopes.map slopeP ++ m.crafts.map craftP)
theorem textS_rows (m : Wk) : textS m = (rowsP m).flatMap fun r => rowS r.1 r.2 := by
  have hc : craftRow = fun c => rowS (craftP c).1 (craftP c).2 := by
    funext c
    unfold craftRow craftP
    split <;> rfl
  simp only [textS, rowsP, headS, List.flatMap_cons, List.flatMap_append, List.flatMap_map, hc, List.append_assoc]
  rfl
theorem rowsP_plain {m : Wk} (h : m.Ok) : ∀ r ∈ rowsP m, (10 ∉ r.1 ∧ 32 ∉ r.1) ∧ Plain r.2 := by
  have g1 : 10 ∉ bWorks ∧ 32 ∉ bWorks := by decide
  have g2 : 10 ∉ bSlope ∧ 32 ∉ bSlope := by decide
  have g3 : 10 ∉ bStrip ∧ 32 ∉ bStrip := by decide
  have g4 : 10 ∉ bAdd ∧ 32 ∉ bAdd := by decide
  intro r hr
  simp only [rowsP, List.mem_cons, List.mem_append, List.mem_map] at hr
  rcases hr with rfl | ⟨x, hx, rfl⟩ | ⟨c, hc, rfl⟩
  · exact ⟨g1, headN_ok h⟩
  · exact ⟨g2, slopeN_ok (h.slopes x hx)⟩
  · have := craftN_ok (h.craft c hc)
    unfold craftP
    split
    · exact ⟨g3, this.1⟩
    · exact ⟨g4, this.2⟩
theorem no32_works : 32 ∉ bWorks := by decide
theorem no32_slope : 32 ∉ bSlope := by decide
theorem no32_craft (x : Craft) : 32 ∉ (craftP x).1 := by
  have g3 : 32 ∉ bStrip := by decide
  have g4 : 32 ∉ bAdd := by decide
  unfold craftP
  split
  · exact g3
  · exact g4
def lineP (r : List UInt8 × List Int) : List UInt8 := r.1 ++ numsS r.2
theorem lineN_slope {m : Wk} (x : Slope) (hc : m.crafts = []) : lineN false m bSlope (slopeN x) = some { m with slopes := m.slopes ++ [x] } := by
  unfold lineN
  have e1 : (bSlope == bWorks) = false := by decide
  have e2 : (slopeN x).length = 4 + x.takes.length := by simp [slopeN]; omega
  rw [e1, hc]
  simp [slopeN]
theorem lineN_craft {m : Wk} {c : Craft} (h : CraftOk c) : lineN false m (craftP c).1 (craftP c).2 = some { m with crafts := m.crafts ++ [c] } := by
  have e1 : (bStrip == bWorks) = false := by decide
  have e2 : (bStrip == bSlope) = false := by decide
  have e3 : (bStrip == bAdd) = false := by decide
  have f1 : (bAdd == bWorks) = false := by decide
  have f2 : (bAdd == bSlope) = false := by decide
  obtain ⟨a, p, s⟩ := c
  cases s
  · simp [lineN, craftP, f1, f2]
  · have : a = 0 := h.strip rfl
    subst this
    simp [lineN, craftP, e1, e2, e3]
theorem parseGo_slopes : ∀ (ss : List Slope) (k : Nat) (m : Wk) (rest : List (List UInt8)), m.crafts = [] → (∀ x ∈ ss, SlopeOk x) → 1 ≤ k →
    parseGo k m (ss.map (fun x => lineP (slopeP x)) ++ rest) = parseGo (k + ss.length) { m with slopes := m.slopes ++ ss } rest
  | [], k, m, rest, _, _, _ => by simp
  | x :: ss, k, m, rest, hc, h, hk => by
    have hl : lineS (k == 0) m (lineP (slopeP x)) = some { m with slopes := m.slopes ++ [x] } := by
      have : (k == 0) = false := by simp; omega
      rw [this]
      exact (lineS_row false m no32_slope (slopeN_ok (h x (by simp)))).trans (lineN_slope x hc)
    simp only [List.map_cons, List.cons_append, parseGo, hl]
    rw [parseGo_slopes ss (k + 1) { m with slopes := m.slopes ++ [x] } rest hc (fun y hy => h y (List.mem_cons_of_mem _ hy)) (by omega)]
    simp only [List.append_assoc, List.singleton_append, List.length_cons]
    congr 1
    omega
theorem parseGo_crafts : ∀ (cs : List Craft) (k : Nat) (m : Wk), (∀ x ∈ cs, CraftOk x) → 1 ≤ k →
    parseGo k m (cs.map (fun x => lineP (craftP x))) = (k + cs.length, some { m with crafts := m.crafts ++ cs })
  | [], k, m, _, _ => by simp [parseGo]
  | x :: cs, k, m, h, hk => by
    have hx := h x (by simp)
    have hl : lineS (k == 0) m (lineP (craftP x)) = some { m with crafts := m.crafts ++ [x] } := by
      have : (k == 0) = false := by simp; omega
      rw [this]
      refine (lineS_row false m ?_ ?_).trans (lineN_craft hx)
      · exact no32_craft x
      · have := craftN_ok hx
        unfold craftP
        split
        · exact this.1
        · exact this.2
    simp only [List.map_cons, parseGo, hl]
    rw [parseGo_crafts cs (k + 1) { m with crafts := m.crafts ++ [x] } (fun y hy => h y (List.mem_cons_of_mem _ hy)) (by omega)]
    simp only [List.append_assoc, List.singleton_append, List.length_cons]
    congr 1
    omega
theorem parse_text {m : Wk} (h : checkS m = 0) : parseS (textS m) = (m, 0, 0) := by
  have ho := checkS_ok h
  have hl := textS_len ho
  have hlines : linesL (textS m) = (rowsP m).map lineP := by
    rw [textS_rows]
    exact lines_rows fun r hr => ⟨(rowsP_plain ho r hr).1.1, (rowsP_plain ho r hr).2⟩
  have hgo : parseGo 0 wk0 (linesL (textS m)) = (1 + m.slopes.length + m.crafts.length, some m) := by
    have h0 : lineS true wk0 (lineP (bWorks, [m.years, m.visit, m.hands])) = some { wk0 with years := m.years, visit := m.visit, hands := m.hands } :=
      (lineS_row true wk0 no32_works (headN_ok ho)).trans (by simp [lineN])
    rw [hlines]
    simp only [rowsP, List.map_cons, List.map_append, List.map_map, parseGo]
    rw [show ((0 : Nat) == 0) = true from rfl, h0]
    simp only []
    have h1 := parseGo_slopes m.slopes (0 + 1) { wk0 with years := m.years, visit := m.visit, hands := m.hands } (m.crafts.map fun x => lineP (craftP x)) rfl ho.slopes (by omega)
    have h2 := parseGo_crafts m.crafts (0 + 1 + m.slopes.length) { wk0 with years := m.years, visit := m.visit, hands := m.hands, slopes := m.slopes } ho.craft (by omega)
    simp only [wk0, List.nil_append] at h1 h2
    exact h1.trans (h2.trans (by simp))
  unfold parseS
  rw [if_neg (by omega), hgo]
  simp only []
  rw [if_neg (by omega), if_pos h]
end Go.Proofs.YtcbhldfipfcjaaaGreatDoor
