/- states of package mend: all that can be come to. -/
import Derived.Test.YtnbnhcoaggpmaaaPa
import Derived.Test.YtnbnhcoaggpmaaaRh
import Derived.Test.YtnbnhcoaggpmaaaMt

namespace Go.Proofs.Ytnbnhcoaggpmaaa
open Go Go.RowKit Go.Shelf
set_option maxRecDepth 100000
attribute [local go_sem] Oper.semAt_some

theorem wpIn_loop_ghost {F : Fence} {k : Nat} {P : Program} {Q : Exit → Act → World → Prop} {a : Act} {w : World} {c : Code} (I : Nat → Act → World → Prop) (n₀ : Nat) (h₀ : I n₀ a w)
    (round : ∀ n a w, I n a w → c.wpIn F k P (Exit.then (fun a' w' => ∃ n', n' < n ∧ I n' a' w') Q) a w) : (Code.loop c).wpIn F k P Q a w := by
  refine wpIn_loop (fun a w => ∃ n, I n a w) (fun a w => leastOf (fun n => I n a w)) ⟨n₀, h₀⟩ ?_
  intro a w hI
  refine wpIn_mono (round _ a w (leastOf_spec hI).1) ?_
  intro e a' w' hq
  cases e with
  | normal =>
    obtain ⟨n', hlt, hI'⟩ := hq
    exact show (∃ n, I n a' w') ∧ leastOf (fun n => I n a' w') < leastOf (fun n => I n a w) from ⟨⟨n', hI'⟩, Nat.lt_of_le_of_lt ((leastOf_spec ⟨n', hI'⟩).2 n' hI') hlt⟩
  | exit id => exact hq
  | goto l => exact hq
  | ret => exact hq
  | panic ch => exact hq
  | outgrown => exact hq

/-- A frame of a form; what is not said of it is read off itself. -/
def Fits (F : (Nat → Value) → Act) (a : Act) : Prop := a = F (fun j => a.tmps.getD j undef)
theorem Fits.open_ {F : (Nat → Value) → Act} {a : Act} (h : Fits F a) : ∃ u, a = F u := ⟨_, h⟩

theorem bag_made (w : World) (base : Nat) : Bag (((w.alloc (.map #[] 0)).alloc (.cells #[.slice none 0 0, .map (some w.heap.size)] 116))) base (w.heap.size + 1) w.heap.size (.slice none 0 0) [] where
  box := by simpa using heap_alloc_self (w.alloc (.map #[] 0)) (.cells #[.slice none 0 0, .map (some w.heap.size)] 116)
  set := by
    have h := (StSet.made w).kept (w' := (w.alloc (.map #[] 0)).alloc (.cells #[.slice none 0 0, .map (some w.heap.size)] 116)) (Below.heap_alloc _ _ _ (by simp))
    have e : (fun s : St => decide (s ∈ ([] : List St))) = fun _ => false := by funext s; simp
    rw [e]; exact h
  own := ⟨rfl, .inl ⟨rfl, rfl⟩⟩

/-- What the rounds of states keep. -/
structure StInv (m : Wk) (s : St) (sA cA mA : Option Addr) (sc cn cc mc : Nat) (w W : World) (ib i : Nat) (L : List St) (g cap : Nat) : Prop where
  below : Below w.heap.size w W
  model : W.heap[w.heap.size]? = some (.cells #[.slice sA m.slopes.length sc, .slice cA cn cc, .int .i64 m.years, .int .i64 m.visit, .int .i64 m.hands, .slice mA m.crafts.length mc] 75 (0, 0))
  bag : Bag W (w.heap.size + 4) (w.heap.size + 1 + 1 + 1) (w.heap.size + 1 + 1) (.slice (some ⟨g, 0, none⟩) L.length cap) L
  idx : W.heap[ib]? = some (.cells #[.int .i64 (i : Int)] 3 (0, 0))
  pos : w.heap.size + 4 ≤ ib
  nodup : L.Nodup
  from_ : s ∈ L
  reach : ∀ t ∈ L, Reach m s t
  shut : ∀ j < i, ∀ t, L[j]? = some t → ∀ u ∈ kids m t, u ∈ L
  few : L.length ≤ 2700
  le : i ≤ L.length
theorem bag_form {w : World} {base bb kb : Nat} {v : Value} {L : List St} (h : Bag w base bb kb v L) (hn : L ≠ []) : ∃ g cap, v = .slice (some ⟨g, 0, none⟩) L.length cap := by
  rcases h.own.2 with ⟨_, h0⟩ | ⟨g, cap, cur, hv, _⟩
  · exact absurd (List.length_eq_zero_iff.1 h0) hn
  · exact ⟨g, cap, hv⟩
theorem bag_cells {w : World} {base bb kb g cap : Nat} {L : List St} (h : Bag w base bb kb (.slice (some ⟨g, 0, none⟩) L.length cap) L) {i : Nat} {t : St} (hi : L[i]? = some t) :
    ∃ cur, w.heap[g]? = some (.cells cur 79 (0, 0)) ∧ w.cell? ⟨g, i * 5, none⟩ = some (.int .i64 t.y) ∧ w.cell? ⟨g, i * 5 + 1, none⟩ = some (.int .i64 t.a) ∧ w.cell? ⟨g, i * 5 + 2, none⟩ = some (.int .i64 t.b) ∧ w.cell? ⟨g, i * 5 + 3, none⟩ = some (.int .i64 t.c) ∧ w.cell? ⟨g, i * 5 + 4, none⟩ = some (.int .i64 t.d) := by
  rcases h.own.2 with ⟨h1, _⟩ | ⟨g', cap', cur, hv, hb, hh, hc, _, hs, ht⟩
  · cases h1
  · cases hv
    have hil := (List.getElem?_eq_some_iff.1 hi).1
    have h3 : ∀ (L : List St) (i k : Nat) (t : St), L[i]? = some t → k < 5 → (cellsL L)[i * 5 + k]? = (stC t)[k]? := by
      intro L
      induction L with
      | nil => intro i k t h; simp at h
      | cons x L ih =>
        intro i k t h hk
        have : cellsL (x :: L) = stC x ++ cellsL L := by simp [cellsL]
        rw [this]
        cases i with
        | zero =>
          simp at h; subst h
          rw [List.getElem?_append_left (by simpa [stC] using hk), Nat.zero_mul, Nat.zero_add]
        | succ i =>
          rw [List.getElem?_append_right (by simp [stC]; omega)]
          have hl : (stC x).length = 5 := rfl
          rw [hl, show (i + 1) * 5 + k - 5 = i * 5 + k by omega]
          exact ih i k t (by simpa using h) hk
    have h4 : ∀ k, k < 5 → w.cell? ⟨g, i * 5 + k, none⟩ = (stC t)[k]? := by
      intro k hk
      rw [cell_blk hh, ← h3 L i k t hi hk, ← ht, List.getElem?_take, if_pos (by omega), Array.getElem?_toList]
    exact ⟨cur, hh, h4 0 (by omega), h4 1 (by omega), h4 2 (by omega), h4 3 (by omega), h4 4 (by omega)⟩

theorem rowsN_le {m : Wk} (hm : m.Ok) : rowsN m ≤ 625 := by
  have h1 := hm.few
  have h2 := hm.crafts
  unfold rowsN
  calc (m.crafts.length + 1) ^ m.slopes.length ≤ 5 ^ m.slopes.length := Nat.pow_le_pow_left (by omega) _
    _ ≤ 5 ^ 4 := Nat.pow_le_pow_right (by omega) h1
    _ = 625 := by decide
theorem rowsS_len {m : Wk} (hm : m.Ok) : (rowsS m).length ≤ 625 := by
  unfold rowsS rowsTo
  refine Nat.le_trans (List.length_filter_le _ _) ?_
  simp only [List.length_map, List.length_range]
  exact rowsN_le hm
/-- What the rounds over rows keep. -/
structure RwInv (m : Wk) (s : St) (sA cA mA : Option Addr) (sc cn cc mc : Nat) (w W0 : World) (ib i : Nat) (t : St) (ds : List Deferred) (B k : Nat) (W : World) (L : List St) (g cap : Nat) : Prop where
  inv : StInv m s sA cA mA sc cn cc mc w W ib i L g cap
  grew : W0.heap.size ≤ W.heap.size
  gpos : g < W0.heap.size ∨ B ≤ g
  ipos : ib < W0.heap.size
  at_ : L[i]? = some t
  few : L.length ≤ 2000 + k
  kids : ∀ r ∈ (rowsS m).take k, keptS m t r = true → stepS m t r ∈ L
  marks : Marks (w.heap.size + 4) W W0.heap.size ds
theorem StInv.lows {m : Wk} {s : St} {sA cA mA : Option Addr} {sc cn cc mc : Nat} {w W : World} {ib i : Nat} {L : List St} {g cap : Nat} (h : StInv m s sA cA mA sc cn cc mc w W ib i L g cap) :
    w.heap.size < W.heap.size ∧ w.heap.size + 1 + 1 + 1 < W.heap.size ∧ w.heap.size + 1 + 1 < W.heap.size ∧ ib < W.heap.size := ⟨lt_blk h.model, lt_blk h.bag.box, h.bag.set.lt, lt_blk h.idx⟩
/-- Whatever leaves the blocks of the state's own as they lay. -/
theorem StInv.kept {m : Wk} {s : St} {sA cA mA : Option Addr} {sc cn cc mc : Nat} {w W W' : World} {ib i : Nat} {L : List St} {g cap : Nat} (h : StInv m s sA cA mA sc cn cc mc w W ib i L g cap)
    (hb : Below (w.heap.size + 4) W W') (hi : W'.heap[ib]? = W.heap[ib]?) (hg : W'.heap[g]? = W.heap[g]?) : StInv m s sA cA mA sc cn cc mc w W' ib i L g cap where
  below := h.below.trans (hb.mono (by omega))
  model := blk_below hb h.model (by omega)
  bag := ⟨blk_below hb h.bag.box (by omega), h.bag.set.kept (hb.block _ (by omega)), own_kept h.bag.own (fun k hk => by
    have : g = k := by simpa [Value.ownBlock] using hk
    subst this; exact hg)⟩
  idx := hi.trans h.idx
  pos := h.pos
  nodup := h.nodup
  from_ := h.from_
  reach := h.reach
  shut := h.shut
  few := h.few
  le := h.le
theorem StInv.glt {m : Wk} {s : St} {sA cA mA : Option Addr} {sc cn cc mc : Nat} {w W : World} {ib i : Nat} {L : List St} {g cap : Nat} (h : StInv m s sA cA mA sc cn cc mc w W ib i L g cap) : w.heap.size + 4 ≤ g ∧ g < W.heap.size :=
  own_blk_lt h.bag.own g rfl
theorem RwInv.kept {m : Wk} {s : St} {sA cA mA : Option Addr} {sc cn cc mc : Nat} {w W0 : World} {ib i : Nat} {t : St} {ds : List Deferred} {B k : Nat} {W W' : World} {L : List St} {g cap : Nat}
    (h : RwInv m s sA cA mA sc cn cc mc w W0 ib i t ds B k W L g cap) (hb : Bel (Mid W0.heap.size B) W W') (hW0 : w.heap.size + 4 ≤ W0.heap.size) : RwInv m s sA cA mA sc cn cc mc w W0 ib i t ds B k W' L g cap where
  inv := h.inv.kept (hb.below (by have := h.grew; omega) (fun k hk => by have := hk.1; omega)) (hb.block _ h.inv.lows.2.2.2 (fun hk => by have := hk.1; have := h.ipos; omega))
    (hb.block _ h.inv.glt.2 (fun hk => by have h1 := hk.1; have h2 := hk.2; rcases h.gpos with h3 | h3 <;> omega))
  grew := Nat.le_trans h.grew hb.size
  gpos := h.gpos
  ipos := h.ipos
  at_ := h.at_
  few := h.few
  kids := h.kids
  marks := h.marks.bel hb (fun k _ h2 hk => by have := hk.1; omega)
theorem StInv.next {m : Wk} {s : St} {sA cA mA : Option Addr} {sc cn cc mc : Nat} {w W : World} {ib i : Nat} {L : List St} {g cap : Nat} (h : StInv m s sA cA mA sc cn cc mc w W ib i L g cap) {t : St} (ht : L[i]? = some t)
    (hk : ∀ u ∈ kids m t, u ∈ L) : StInv m s sA cA mA sc cn cc mc w (W.alloc (.cells #[.int .i64 ((i : Int) + 1)] 3)) W.heap.size (i + 1) L g cap where
  below := h.below.trans ((below1 W _).mono (by have := h.lows; omega))
  model := blk_below (below1 W _) h.model h.lows.1
  bag := ⟨blk_below (below1 W _) h.bag.box h.lows.2.1, h.bag.set.kept ((below1 W _).block _ h.lows.2.2.1), own_below h.bag.own (below1 W _) (fun k hk => (own_blk_lt h.bag.own k hk).2)⟩
  idx := by rw [heap_alloc_self]; simp
  pos := by have := h.lows; omega
  nodup := h.nodup
  from_ := h.from_
  reach := h.reach
  shut j hj u hu v hv := by
    rcases Nat.lt_or_ge j i with h1 | h1
    · exact h.shut j h1 u hu v hv
    · obtain rfl : j = i := by omega
      rw [ht] at hu; cases hu
      exact hk v hv
  few := h.few
  le := by have := (List.getElem?_eq_some_iff.1 ht).1; omega
theorem StInv.many {m : Wk} {s : St} {sA cA mA : Option Addr} {sc cn cc mc : Nat} {w W : World} {ib i : Nat} {L : List St} {g cap : Nat} (h : StInv m s sA cA mA sc cn cc mc w W ib i L g cap) (hL : 2000 < L.length) : 2000 < (allS m s).length :=
  Nat.lt_of_lt_of_le hL (allS_len h.nodup h.reach)
theorem StInv.done {m : Wk} {s : St} {sA cA mA : Option Addr} {sc cn cc mc : Nat} {w W : World} {ib i : Nat} {L : List St} {g cap : Nat} (h : StInv m s sA cA mA sc cn cc mc w W ib i L g cap) (hi : L.length ≤ i) : L.Perm (allS m s) :=
  allS_perm h.nodup h.from_ h.reach fun t ht u hu => by
    obtain ⟨j, hj⟩ := List.getElem?_of_mem ht
    exact h.shut j (by have := (List.getElem?_eq_some_iff.1 hj).1; omega) t hj u hu

theorem RwInv.row {m : Wk} {s : St} {sA cA mA : Option Addr} {sc cn cc mc : Nat} {w W0 : World} {ib i : Nat} {t : St} {ds : List Deferred} {B k : Nat} {W : World} {L : List St} {g cap : Nat}
    (h : RwInv m s sA cA mA sc cn cc mc w W0 ib i t ds B k W L g cap) {L' : List St} (hsub : ∀ u ∈ L, u ∈ L') {row : List Int} (hrow : (rowsS m)[k]? = some row) (hk : keptS m t row = true → stepS m t row ∈ L') :
    ∀ r ∈ (rowsS m).take (k + 1), keptS m t r = true → stepS m t r ∈ L' := by
  intro r hr hkr
  rw [List.take_add_one, hrow] at hr
  rcases List.mem_append.1 hr with h1 | h1
  · exact hsub _ (h.kids r h1 hkr)
  · have : r = row := by simpa using h1
    subst this; exact hk hkr
theorem RwInv.skip {m : Wk} {s : St} {sA cA mA : Option Addr} {sc cn cc mc : Nat} {w W0 : World} {ib i : Nat} {t : St} {ds : List Deferred} {B k : Nat} {W : World} {L : List St} {g cap : Nat}
    (h : RwInv m s sA cA mA sc cn cc mc w W0 ib i t ds B k W L g cap) {row : List Int} (hrow : (rowsS m)[k]? = some row) (hk : keptS m t row = false) : RwInv m s sA cA mA sc cn cc mc w W0 ib i t ds B (k + 1) W L g cap :=
  ⟨h.inv, h.grew, h.gpos, h.ipos, h.at_, by have := h.few; omega, h.row (fun _ hu => hu) hrow (fun e => by rw [hk] at e; cases e), h.marks⟩
theorem putL_get {L : List St} {x t : St} {j : Nat} (h : L[j]? = some t) : (putL L x)[j]? = some t := by
  unfold putL
  split
  · exact h
  · rw [List.getElem?_append_left (List.getElem?_eq_some_iff.1 h).1]; exact h
theorem RwInv.put {m : Wk} (hm : m.Ok) {s : St} {sA cA mA : Option Addr} {sc cn cc mc : Nat} {w W0 : World} {ib i : Nat} {t : St} {ds : List Deferred} {B k : Nat} {W W' : World} {L : List St} {g cap : Nat}
    (h : RwInv m s sA cA mA sc cn cc mc w W0 ib i t ds B k W L g cap) (hBW : B ≤ W.heap.size) (hW0 : w.heap.size + 4 ≤ W0.heap.size) {row : List Int} (hrow : (rowsS m)[k]? = some row) (hk : keptS m t row = true) (hy : t.y < m.years) {v' : Value}
    (hbag : Bag W' (w.heap.size + 4) (w.heap.size + 1 + 1 + 1) (w.heap.size + 1 + 1) v' (putL L (stepS m t row))) (hv : v'.ownBlock = (Value.slice (some ⟨g, 0, none⟩) L.length cap).ownBlock ∨ ∃ b, v'.ownBlock = some b ∧ W.heap.size ≤ b)
    (hbel : Bel (fun k => k = w.heap.size + 1 + 1 + 1 ∨ k = w.heap.size + 1 + 1 ∨ (Value.slice (some ⟨g, 0, none⟩) L.length cap).ownBlock = some k) W W') :
    ∃ g' cap', RwInv m s sA cA mA sc cn cc mc w W0 ib i t ds B (k + 1) W' (putL L (stepS m t row)) g' cap' := by
  have hmem : ∀ u ∈ L, u ∈ putL L (stepS m t row) := fun u hu => putL_mem.2 (.inl hu)
  have hs1 := hmem s h.inv.from_
  obtain ⟨g', cap', rfl⟩ := bag_form hbag (fun e => by rw [e] at hs1; simp at hs1)
  obtain ⟨hg1, hg2⟩ := h.inv.glt
  have hown : ∀ j, (Value.slice (some ⟨g, 0, none⟩) L.length cap).ownBlock = some j → j = g := fun j e => by
    have : g = j := by simpa [Value.ownBlock] using e
    exact this.symm
  obtain ⟨c2, hc2⟩ := own_type h.inv.bag.own g rfl
  have hlow : ∀ j, (j = w.heap.size + 1 + 1 + 1 ∨ j = w.heap.size + 1 + 1 ∨ (Value.slice (some ⟨g, 0, none⟩) L.length cap).ownBlock = some j) → w.heap.size + 2 ≤ j := by
    rintro j (rfl | rfl | e)
    · omega
    · omega
    · rw [hown j e]; omega
  have hkl := (List.getElem?_eq_some_iff.1 hrow).1
  have h625 := rowsS_len hm
  have hlen := @putL_length L (stepS m t row)
  have hp := h.inv.pos
  refine ⟨g', cap', ⟨⟨?_, ?_, hbag, ?_, hp, putL_nodup h.inv.nodup, hs1, ?_, ?_, ?_, ?_⟩, Nat.le_trans h.grew hbel.size, ?_, h.ipos, putL_get h.at_, ?_, h.row hmem hrow (fun _ => putL_mem.2 (.inr rfl)), ?_⟩⟩
  · exact h.inv.below.trans (hbel.below (by have := h.grew; omega) (fun j hj => by have := hlow j hj; omega))
  · exact hbel.heap h.inv.model (fun hj => by have := hlow _ hj; omega)
  · refine hbel.heap h.inv.idx ?_
    rintro (e | e | e)
    · omega
    · omega
    · rw [← hown _ e, h.inv.idx] at hc2; simp at hc2
  · intro u hu
    rcases putL_mem.1 hu with hu | rfl
    · exact h.inv.reach u hu
    · exact (h.inv.reach t (List.mem_of_getElem? h.at_)).step (mem_kids.2 ⟨hy, row, List.mem_of_getElem? hrow, hk, rfl⟩)
  · intro j hj u hu v hv
    have hjl : j < L.length := by have := h.inv.le; omega
    have h1 : L[j]? = some u := by
      obtain ⟨x, hx⟩ : ∃ x, L[j]? = some x := ⟨_, List.getElem?_eq_getElem hjl⟩
      rw [putL_get hx] at hu; rw [hx, hu]
    exact hmem _ (h.inv.shut j hj u h1 v hv)
  · have := h.few; omega
  · have := h.inv.le; omega
  · rcases hv with e | ⟨b, e, hb⟩
    · rw [show (Value.slice (some ⟨g, 0, none⟩) L.length cap).ownBlock = some g from rfl] at e
      have : g' = g := by simpa [Value.ownBlock] using e
      rw [this]; exact h.gpos
    · have : g' = b := by simpa [Value.ownBlock] using e
      right; omega
  · have := h.few; omega
  · refine h.marks.kept fun j h1 h2 hj => hbel.heap hj ?_
    rintro (e | e | e)
    · omega
    · omega
    · rw [← hown _ e, hj] at hc2; simp at hc2

/-- A new box of a state. -/
def BoxAt (W : World) (v : Value) (w : World) : Prop := ∃ b, v = .pointer (some ⟨b, 0, none⟩) ∧ W.heap.size ≤ b ∧ w.heap[b]? = some (.cells #[.int .i64 0, .int .i64 0, .int .i64 0, .int .i64 0, .int .i64 0] 79 (0, 0))
theorem boxAt_stable (W : World) : ∀ v w w', Grows w w' → BoxAt W v w → BoxAt W v w' := fun _ _ _ h ⟨b, h1, h2, h3⟩ => ⟨b, h1, h2, blk_below h h3 (lt_blk h3)⟩

/-- What states comes to. -/
def StatesPost (m : Wk) (s : St) (w : World) (e : Ending) (w' : World) : Prop :=
  Below w.heap.size w w' ∧ ((2000 < (allS m s).length ∧ e = .returned (.tuple #[.slice none 0 0, .bool false])) ∨
    ((allS m s).length ≤ 2000 ∧ ∃ v L, e = .returned (.tuple #[v, .bool true]) ∧ L.Perm (allS m s) ∧ w'.ownsRow w.heap.size 79 5 v L.length (cellsL (sortL L))))

set_option maxHeartbeats 1000000 in
theorem states_calls (m : Wk) (hm : m.Ok) (s : St) (hs : s.Ok m) (hy : s.y ≤ m.years) (sA cA mA : Option Addr) (sc cn cc mc : Nat) (w : World)
    (hsl : SlopesAt w w.heap.size (.slice sA m.slopes.length sc) m.slopes) (hmc : McAt w w.heap.size (.slice mA m.crafts.length mc) m.crafts) :
    Calls Try.prog 21 #[.agg #[.slice sA m.slopes.length sc, .slice cA cn cc, .int .i64 m.years, .int .i64 m.visit, .int .i64 m.hands, .slice mA m.crafts.length mc], stV s] w
      (StatesPost m s w) := by
  refine (callsIn_wide (n := 10)).1 ?_
  have hFw : ∀ f, Fence.wide.fn f := fun _ => trivial
  have hmm := @run_makeMap Try.prog
  have hbag := bag_made ((w.alloc (.cells #[.slice sA m.slopes.length sc, .slice cA cn cc, .int .i64 m.years, .int .i64 m.visit, .int .i64 m.hands, .slice mA m.crafts.length mc] 75)).alloc (.cells #[.int .i64 s.y, .int .i64 s.a, .int .i64 s.b, .int .i64 s.c, .int .i64 s.d] 79)) (w.heap.size + 4)
  simp only [World.size_alloc] at hbag
  have HBAG := Lib.hid hbag
  clear hbag
  refine callsIn_of_wp_marks Try.func21 rfl trivial ?_ rfl
  simp only [Try.ntmps21, stV, List.size_toArray, List.length_cons, List.length_nil, Nat.reduceAdd, Nat.reduceSub, Array.replicate_succ, Array.replicate_zero, List.push_toArray, List.append_toArray, List.nil_append, List.cons_append]
  gi_wp2_with (gi_at_call 52; refine (callsIn_wide.2 (put_calls (w.heap.size + 4) (w.heap.size + 1 + 1 + 1) (w.heap.size + 1 + 1) (.slice none 0 0) [] s _ hs.wf HBAG.out (by simp) (by simp))).mono ?_; rintro e w2 ⟨⟨r, rfl⟩, v2, hbag2, hv2, hbel2⟩)
  have hput : putL [] s = [s] := rfl
  rw [hput] at hbag2
  obtain ⟨g, cap, rfl⟩ := bag_form hbag2 (by simp)
  have hW0 : Below w.heap.size w w2 := by
    refine ((below1 _ _).alloc (by simp) _).alloc (by simp; omega) _ |>.alloc (by simp; omega) _ |>.trans (hbel2.below (by simp; omega) ?_)
    rintro k (rfl | rfl | h)
    · omega
    · omega
    · simp [Value.ownBlock] at h
  have hm2 : w2.heap[w.heap.size]? = some (.cells #[.slice sA m.slopes.length sc, .slice cA cn cc, .int .i64 m.years, .int .i64 m.visit, .int .i64 m.hands, .slice mA m.crafts.length mc] 75 (0, 0)) := by
    refine hbel2.heap ?_ ?_
    · exact (Below.heap_alloc _ _ _ (by simp; omega)).trans ((Below.heap_alloc _ _ _ (by simp; omega)).trans ((Below.heap_alloc _ _ _ (by simp)).trans (heap_alloc_self _ _)))
    · rintro (h | h | h)
      · omega
      · omega
      · simp [Value.ownBlock] at h
  have hz2 := hbel2.size
  simp only [World.size_alloc] at hz2
  refine wpIn_loop_ghost (fun n a W => ∃ (ib i : Nat) (L : List St) (g cap : Nat) (ds : List Deferred), StInv m s sA cA mA sc cn cc mc w W ib i L g cap ∧ Marks (w.heap.size + 4) W W.heap.size ds ∧ n = 3000 - i ∧
    Fits (fun u => { tmps := #[.agg #[.slice sA m.slopes.length sc, .slice cA cn cc, .int .i64 m.years, .int .i64 m.visit, .int .i64 m.hands, .slice mA m.crafts.length mc], .agg #[.int .i64 s.y, .int .i64 s.a, .int .i64 s.b, .int .i64 s.c, .int .i64 s.d], .pointer (some ⟨w.heap.size, 0, none⟩), .pointer (some ⟨w.heap.size + 1, 0, none⟩), .slice none 0 0, .bool false, .pointer (some ⟨w.heap.size + 1 + 1 + 1, 0, none⟩), .pointer (some ⟨ib, 0, none⟩), u 8, u 9, u 10, .map (some (w.heap.size + 1 + 1)), .agg #[.slice none 0 0, .map (some (w.heap.size + 1 + 1))], .agg #[.int .i64 s.y, .int .i64 s.a, .int .i64 s.b, .int .i64 s.c, .int .i64 s.d], r, u 15, u 16, u 17, u 18, u 19, u 20, u 21, u 22, u 23, u 24, u 25, u 26, u 27, u 28, u 29, u 30, u 31, u 32, u 33, u 34, u 35, u 36, u 37, u 38, u 39, u 40, u 41, u 42, u 43, u 44, u 45, u 46, u 47, u 48, u 49, u 50, u 51, u 52, u 53, undef, undef, undef, undef, undef, undef, undef, undef, undef], defers := ds }) a) 3000 ?start ?round
  case start =>
    refine ⟨w2.heap.size, 0, [s], g, cap, [], ⟨?_, ?_, ?_, ?_, by omega, by simp, by simp, fun t ht => by simp at ht; subst ht; exact .self, fun j hj => by omega, by simp, by simp⟩, by show w.heap.size + 4 ≤ _; simp; omega, rfl, rfl⟩
    · exact hW0.trans ((below1 w2 _).mono (by omega))
    · exact (Below.heap_alloc _ _ _ (lt_blk hm2)).trans hm2
    · exact ⟨(Below.heap_alloc _ _ _ (lt_blk hbag2.box)).trans hbag2.box, hbag2.set.kept (Below.heap_alloc _ _ _ hbag2.set.lt), own_below hbag2.own (below1 _ _) (fun k h => (own_blk_lt hbag2.own k h).2)⟩
    · exact heap_alloc_self w2 _
  case round =>
    rintro n a W ⟨ib, i, L, g, cap, ds, hinv, hmarks, rfl, hfit⟩
    obtain ⟨u, rfl⟩ := hfit.open_
    clear hfit
    dsimp only
    clear hW0 hm2 hbag2 hz2 hbel2 hv2
    have c0 : W.cell? ⟨ib, 0, none⟩ = some (.int .i64 (i : Int)) := by rw [cell_blk hinv.idx]; rfl
    have c1 : W.cell? ⟨w.heap.size + 1 + 1 + 1, 0, none⟩ = some (.slice (some ⟨g, 0, none⟩) L.length cap) := by rw [cell_blk hinv.bag.box]; rfl
    have hzl := hinv.lows
    by_cases hlt : i < L.length
    · have hlti : (i : Int) < (L.length : Int) := by omega
      by_cases hmany : 2000 < L.length
      · have hmi : (2000 : Int) < (L.length : Int) := by omega
        have HI := Lib.hid hinv
        clear hinv
        gi_wp2_with fail
        refine bodyPostM_ret hmarks fun w' hw' => ⟨.tuple #[.slice none 0 0, .bool false], ?_, HI.out.below.trans (hw'.below (by omega) (by omega)), .inl ⟨HI.out.many hmany, rfl⟩⟩
        simp [results, Try.results21, go_sem]
      · have hmi : ¬ (2000 : Int) < (L.length : Int) := by omega
        obtain ⟨t, ht⟩ : ∃ t, L[i]? = some t := ⟨_, List.getElem?_eq_getElem hlt⟩
        obtain ⟨cur, hcur, t0, t1, t2, t3, t4⟩ := bag_cells hinv.bag ht
        obtain ⟨m0, m1, m2, m3, m4, m5⟩ := blk6 hinv.model
        have hgl := hinv.glt
        have hi0 : (0 : Int) ≤ (i : Int) := by omega
        have HI := Lib.hid hinv
        have HT := Lib.hid ht
        clear hinv ht
        gi_wp2_with fail
        refine wpIn_region_rg (Below W.heap.size) (fun _ => .fn) (by kernel_rfl) (fun _ => trivial) (by kernel_rfl) (Below.refl _) belowR (fun _ => trivial) ?_
        iterate 10 (refine rg_step fun K hK => ?_; apply rg_fn rfl; (intro w4 hw; have hc := below_cells (undrew hw); go_simp; try rfl); go_simp; (try with_reducible refine hK _ _ ?_); try clear hK K)
        refine rg_nil ?_
        intro w5 hw5 _
        replace hw5 := undrew hw5
        have hI5 := HI.out.kept (hw5.mono (by omega)) (hw5.block _ (by omega)) (hw5.block _ (by omega))
        have hM5 := (hmarks.below hw5 (Nat.le_refl _)).mono hw5.size
        clear hw5 c0 c1 hcur t0 t1 t2 t3 t4 m0 m1 m2 m3 m4 m5 hmarks hzl hgl HI
        have hzl := hI5.lows
        have c0 : w5.cell? ⟨ib, 0, none⟩ = some (.int .i64 (i : Int)) := by rw [cell_blk hI5.idx]; rfl
        have hadd : IntKind.i64.wrap ((i : Int) + 1) = (i : Int) + 1 := IntWalk.i64_in _ (by omega)
        by_cases hyt : m.years ≤ t.y
        · have HI := Lib.hid hI5
          clear hI5
          gi_wp2_with fail
          refine ⟨3000 - (i + 1), by omega, w5.heap.size, i + 1, L, g, cap, ds, HI.out.next HT.out (fun v hv => absurd (kids_y hv).2 (by omega)), (hM5.below (below1 _ _) (Nat.le_refl _)).mono (by simp), rfl, rfl⟩
        · obtain ⟨m0, m1, m2, m3, m4, m5⟩ := blk6 hI5.model
          have hgl := hI5.glt
          have hpos := hI5.pos
          have HI := Lib.hid hI5
          clear hI5
          gi_wp2_with fail
          refine wpIn_rangeRows m ⟨hm.some, hm.few⟩ hm.crafts sA cA mA sc cn cc mc rfl
            (fun B k W' => ∃ L' g' cap', RwInv m s sA cA mA sc cn cc mc w w5 ib i t ds B k W' L' g' cap') (fun _ _ _ _ => False) ?_ (fun _ _ _ _ _ _ h _ => h) ?_ 8 ?assign ?body ?done (fun _ _ _ _ _ _ _ h _ => h.elim)
          case assign =>
            intro l rv W K hK
            gi_wp2_with fail
            simpa using hK
          · rintro B k W1 W2 hB ⟨L', g', cap', h⟩ hbel
            exact ⟨L', g', cap', h.kept hbel (by omega)⟩
          · intro B W1 hB hBW hbel
            exact ⟨L, g, cap, HI.out.kept (hbel.mono (by omega)) (hbel.block _ (by omega)) (hbel.block _ (by omega)), hbel.size, .inl hgl.2, hzl.2.2.2, HT.out, by omega, by simp, hM5.below hbel (Nat.le_refl _)⟩
          case done =>
            rintro B W' hB ⟨L', g', cap', h⟩ hD
            have c0' : W'.cell? ⟨ib, 0, none⟩ = some (.int .i64 (i : Int)) := by rw [cell_blk h.inv.idx]; rfl
            have hl' := h.inv.lows
            have hkd : ∀ v ∈ kids m t, v ∈ L' := by
              intro v hv
              obtain ⟨_, r, hr, hk, rfl⟩ := mem_kids.1 hv
              exact h.kids r (by rw [List.take_length]; exact hr) hk
            have hfin := h.inv.next h.at_ hkd
            have hmk := (h.marks.push (Nat.le_refl _) hD (lt_blk hD)).below (below1 W' (.cells #[.int .i64 ((i : Int) + 1)] 3)) (Nat.le_refl _) |>.mono (below1 W' (.cells #[.int .i64 ((i : Int) + 1)] 3)).size
            have hil := (List.getElem?_eq_some_iff.1 h.at_).1
            have hfw := h.inv.few
            have HFIN := Lib.hid hfin
            have HMK := Lib.hid hmk
            clear hfin hmk hkd h hD m0 m1 m2 m3 m4 m5 c0
            gi_wp2_with fail
            exact ⟨3000 - (i + 1), by omega, W'.heap.size, i + 1, L', g', cap', _, HFIN.out, HMK.out, rfl, rfl⟩
          case body =>
            rintro l B k W3 rv row hB hBW hrow ⟨L', g', cap', hrw⟩ ⟨rA, rc, rfl, hrc⟩
            have hI3 := hrw.inv
            obtain ⟨cur, hcur, t0, t1, t2, t3, t4⟩ := bag_cells hI3.bag hrw.at_
            obtain ⟨n0, n1, n2, n3, n4, n5⟩ := blk6 hI3.model
            have d0 : W3.cell? ⟨ib, 0, none⟩ = some (.int .i64 (i : Int)) := by rw [cell_blk hI3.idx]; rfl
            have d1 : W3.cell? ⟨w.heap.size + 1 + 1 + 1, 0, none⟩ = some (.slice (some ⟨g', 0, none⟩) L'.length cap') := by rw [cell_blk hI3.bag.box]; rfl
            have hgl' := hI3.glt
            have hzl' := hI3.lows
            have hil := (List.getElem?_eq_some_iff.1 hrw.at_).1
            have hili : (i : Int) < (L'.length : Int) := by omega
            have hrm : row ∈ rowsS m := List.mem_of_getElem? hrow
            have hro := (rowsS_mem hrm).1
            have hto : t.Ok m := (hI3.reach t (List.mem_of_getElem? hrw.at_)).ok hm hs
            have hstep := fun w4 (hw4 : Below W3.heap.size W3 w4) => step_calls m t (.slice cA cn cc) _ _ rA rc row w4 hm hto hro ((hsl.below hI3.below).below (hw4.mono (by omega)) |>.mono (by have := hw4.size; omega)) ((hmc.below hI3.below).below (hw4.mono (by omega)) |>.mono (by have := hw4.size; omega)) ((hrc.mono hBW).below hw4 |>.mono hw4.size)
            have HSTEP := Lib.hid hstep
            have HR := Lib.hid hrw
            have HROW := Lib.hid hrow
            clear hstep hrw hrow hI3 hcur m0 m1 m2 m3 m4 m5 c0
            gi_wp2_with fail
            refine wpIn_region_rg_late 12 12 10 Grows (fun | 7 => .ex (.tuple #[.agg #[.int .i64 (stepS m t row).y, .int .i64 (stepS m t row).a, .int .i64 (stepS m t row).b, .int .i64 (stepS m t row).c, .int .i64 (stepS m t row).d], .bool (keptS m t row)]) | 11 => .any anyV (fun _ => BoxAt W3) | _ => .fn) (by kernel_rfl) (fun _ => trivial) (by kernel_rfl) (fun _ _ _ _ _ h => h) (by kernel_rfl) Grows.refl growsT (by intro i; split <;> first | trivial | exact fun _ => boxAt_stable W3) ?_
            simp only [lateL, List.modify_succ_cons, List.modify_zero_cons, lateOp, List.take_succ_cons, List.take_zero, List.drop_succ_cons, List.drop_zero]
            iterate 7 (refine rg_step fun K hK => ?_; apply rg_fn rfl; (intro w4 hw; have hc := below_cells hw.undrew; go_simp; try rfl); go_simp; (try with_reducible refine hK _ _ ?_); try clear hK K)
            refine rg_step fun K hK => ?_
            apply rg_call (.inr ⟨l, rfl⟩) rfl
            · intro w4 hw
              go_simp
              exact ⟨rfl, rfl⟩
            · intro w4 hw
              exact HSTEP.out w4 hw.undrew
            go_simp
            (try with_reducible refine hK _ _ ?_)
            try clear hK K
            iterate 3 (refine rg_step fun K hK => ?_; apply rg_fn rfl; (intro w4 hw; go_simp; try rfl); go_simp; (try with_reducible refine hK _ _ ?_); try clear hK K)
            refine rg_step fun K hK => ?_
            apply rg_any rfl
            · intro w4 hw
              refine ⟨.pointer (some ⟨w4.heap.size, 0, none⟩), w4.alloc (.cells #[.int .i64 0, .int .i64 0, .int .i64 0, .int .i64 0, .int .i64 0] 79), by go_simp; try rfl, below1 _ _, trivial, ⟨_, rfl, hw.undrew.size, heap_alloc_self _ _⟩⟩
            intro v9 _
            go_simp
            (try with_reducible refine hK _ _ ?_)
            try clear hK K
            refine rg_nil ?_
            rintro w6 hw6 ⟨b9, rfl, hb9, hb9z⟩
            replace hw6 := hw6.undrew
            have hb9f := frozen_blk hb9z
            obtain ⟨z0, z1, z2, z3, z4⟩ := blk5 hb9z
            have h9s := lt_blk hb9z
            clear t0 t1 t2 t3 t4 n0 n1 n2 n3 n4 n5 d0 d1
            obtain ⟨W7, hW7⟩ : ∃ W7, W7 = ((((w6.setCell ⟨b9, 0, none⟩ (.int .i64 (stepS m t row).y)).setCell ⟨b9, 1, none⟩ (.int .i64 (stepS m t row).a)).setCell ⟨b9, 2, none⟩ (.int .i64 (stepS m t row).b)).setCell ⟨b9, 3, none⟩ (.int .i64 (stepS m t row).c)).setCell ⟨b9, 4, none⟩ (.int .i64 (stepS m t row).d) := ⟨_, rfl⟩
            have g7 : W7.heap[b9]? = some (.cells #[.int .i64 (stepS m t row).y, .int .i64 (stepS m t row).a, .int .i64 (stepS m t row).b, .int .i64 (stepS m t row).c, .int .i64 (stepS m t row).d] 79 (0, 0)) := by
              rw [hW7, heap_set (heap_set (heap_set (heap_set (heap_set hb9z 0 _) 1 _) 2 _) 3 _) 4 _]; rfl
            have hb7 : Below W3.heap.size W3 W7 := by
              rw [hW7]; exact ((((hw6.setCell (p := ⟨b9, 0, none⟩) hb9 _).setCell (p := ⟨b9, 1, none⟩) hb9 _).setCell (p := ⟨b9, 2, none⟩) hb9 _).setCell (p := ⟨b9, 3, none⟩) hb9 _).setCell (p := ⟨b9, 4, none⟩) hb9 _
            obtain ⟨y0, y1, y2, y3, y4⟩ := blk5 g7
            have HW7 := Lib.hid hW7
            clear hW7 g7
            have hR7 := HR.out.kept (Bel.of_below hb7) (by omega)
            have hok := stepS_ok hm hto row (by have := hm.years; omega)
            have hput := put_calls (w.heap.size + 4) (w.heap.size + 1 + 1 + 1) (w.heap.size + 1 + 1) _ L' (stepS m t row) _ hok.wf hR7.inv.bag (by have := hR7.inv.few; omega) (by have := hR7.grew; omega)
            clear y0 y1 y2 y3 y4
            have HPUT := Lib.hid hput
            have HR7 := Lib.hid hR7
            have HB7 := Lib.hid hb7
            clear hput hR7 hb7 hok
            have hw6s := hw6.size
            clear hw6
            gi_wp2_with fail
            · have hk : keptS m t row = true := by assumption
              have HK := Lib.hid hk
              rw [← HW7.out]
              refine (CallsIn.inRound l (callsIn_wide.2 HPUT.out)).mono ?_
              rintro e w8 ⟨⟨r8, rfl⟩, v8, hbag8, hv8, hbel8⟩
              have HX := Lib.hid (And.intro hbag8 (And.intro hv8 hbel8))
              clear hbag8 hv8 hbel8
              gi_wp2_with fail
              obtain ⟨hbag8, hv8, hbel8⟩ := HX.out
              obtain ⟨g8, cap8, hR8⟩ := HR7.out.put hm (by have := HB7.out.size; omega) (by omega) HROW.out HK.out hyt hbag8 hv8 hbel8
              refine ⟨⟨Nat.le_trans HB7.out.size hbel8.size, fun j hj => ?_⟩, _, g8, cap8, hR8⟩
              refine (hbel8.block j (by have := hj.2; have := HB7.out.size; omega) ?_).trans (HB7.out.block j (by have := hj.2; omega))
              rintro (e | e | e)
              · have := hj.1; omega
              · have := hj.1; omega
              · have e2 : g' = j := by simpa [Value.ownBlock] using e
                have h1 := hj.1
                have h2 := hj.2
                rcases HR.out.gpos with h3 | h3 <;> omega
            · have hk' : keptS m t row = false := by first | assumption | (rename_i hk; simpa using hk)
              rw [← HW7.out]
              exact ⟨⟨HB7.out.size, fun j hj => HB7.out.block j (by have := hj.2; omega)⟩, _, _, _, HR7.out.skip HROW.out hk'⟩
    · have hlti : ¬ (i : Int) < (L.length : Int) := by omega
      by_cases hmany : 2000 < L.length
      · have hmi : (2000 : Int) < (L.length : Int) := by omega
        have HI := Lib.hid hinv
        clear hinv
        gi_wp2_with fail
        refine bodyPostM_ret hmarks fun w' hw' => ⟨.tuple #[.slice none 0 0, .bool false], ?_, HI.out.below.trans (hw'.below (by omega) (by omega)), .inl ⟨HI.out.many hmany, rfl⟩⟩
        simp [results, Try.results21, go_sem]
      · have hmi : ¬ (2000 : Int) < (L.length : Int) := by omega
        have HI := Lib.hid hinv
        clear hinv
        have hown := HI.out.bag.own
        have hsc := sort_calls (w.heap.size + 4) _ L W hown (fun e => by have := HI.out.from_; rw [e] at this; simp at this) (by have := HI.out.few; omega)
        have HSC := Lib.hid hsc
        clear hown hsc
        gi_wp2_with (gi_at_call 53; refine (callsIn_wide.2 HSC.out).mono ?_; rintro e w6 ⟨rfl, hown6, hb6⟩; have hbx6 := hb6.heap HI.out.bag.box (fun e => by obtain ⟨c2, hc2⟩ := own_type HI.out.bag.own _ e; rw [HI.out.bag.box] at hc2; simp at hc2); have c1 : w6.cell? ⟨w.heap.size + 1 + 1 + 1, 0, none⟩ = some (.slice (some ⟨g, 0, none⟩) L.length cap) := (by rw [cell_blk hbx6]; rfl); have HO6 := Lib.hid hown6; have HB6 := Lib.hid hb6; clear hbx6 hown6 hb6)
        have hgl := HI.out.glt
        have hM6 : Marks (w.heap.size + 4) w6 w6.heap.size ds := (hmarks.kept (fun k _ h2 hk => HB6.out.heap hk (fun e => by obtain ⟨c2, hc2⟩ := own_type HI.out.bag.own _ e; rw [hk] at hc2; simp at hc2))).mono HB6.out.size
        refine bodyPostM_ret hM6 fun w' hw' => ⟨.tuple #[.slice (some ⟨g, 0, none⟩) L.length cap, .bool true], ?_, ?_, .inr ⟨?_, _, L, rfl, HI.out.done (by omega), ?_⟩⟩
        · simp [results, Try.results21, go_sem]
        · have h1 : Below w.heap.size w w6 := HI.out.below.trans (HB6.out.below (by omega) (fun k hk => by
            have : g = k := by simpa [Value.ownBlock] using hk
            omega))
          exact h1.trans (hw'.below (by omega) (by have := HB6.out.size; omega))
        · rw [← (HI.out.done (by omega)).length_eq]; omega
        · exact own_kept (own_mono HO6.out (by omega)) (fun k hk => by
            obtain ⟨c2, hc2⟩ := own_type HO6.out _ hk
            exact (hw'.cells hc2).trans hc2.symm)
end Go.Proofs.Ytnbnhcoaggpmaaa
