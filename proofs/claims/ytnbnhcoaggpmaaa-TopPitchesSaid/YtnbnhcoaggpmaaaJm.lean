/- Roofs: the frame of Check. -/
import Derived.Test.YtnbnhcoaggpmaaaJl
import Derived.Test.YtnbnhcoaggpmaaaMv

namespace Go.Proofs.Ytnbnhcoaggpmaaa
open Go Go.RowKit Go.Shelf
set_option maxRecDepth 100000
attribute [local go_sem] Oper.semAt_some

theorem results_err {fn : Func} {p : Tmp} {tmps : Array Value} {w : World} {b : Nat} {q : Int} (h : fn.results = #[.cell p 32]) (hp : tmps.getD p undef = .pointer (some ⟨b, 0, none⟩)) (hg : w.heap[b]? = some (.cells #[.int .i64 q] 32 (0, 0))) :
    (results fn tmps).run Try.prog w = .ok (.int .i64 q) w := by
  have hp' : tmps[p]?.getD undef = .pointer (some ⟨b, 0, none⟩) := by simpa using hp
  have c1 : w.cell? ⟨b, 0, none⟩ = some (.int .i64 q) := by rw [cell_blk hg]; rfl
  have e1 : (loadVar 32 ⟨b, 0, none⟩).run Try.prog w = .ok (.int .i64 q) w := by
    have u := Try.isAgg32
    simp [loadVar, Sem.run_bind, u, go_sem, c1]
  simp [results, h, hp', asAddr, e1]
def CheckP (fs : List FaceS) (w : World) (e : Ending) (w' : World) : Prop := ∃ n : Int, e = .returned (.int .i64 n) ∧ (n = 0 → ∀ (i : Nat) (hi : i < fs.length), RunOk fs[i]) ∧ Below w.heap.size w w'
/-- The blocks of Check: the roof, the result. -/
def ChkF (w : World) (fv ov : Value) (W : World) : Prop := W.heap[w.heap.size]? = some (.cells #[fv, ov] 25 (0, 0)) ∧ ∃ n : Int, W.heap[w.heap.size + 1]? = some (.cells #[.int .i64 n] 32 (0, 0))
theorem ChkF.kept {w W W' : World} {fv ov : Value} (h : ChkF w fv ov W) (hk : ∀ j, j < w.heap.size + 2 → W'.heap[j]? = W.heap[j]?) : ChkF w fv ov W' := by
  obtain ⟨h1, n, h2⟩ := h
  exact ⟨(hk _ (by omega)).trans h1, n, (hk _ (by omega)).trans h2⟩
abbrev Chk (w : World) (fv ov : Value) (W : World) : Prop := FrK w 2 (ChkF w fv ov) W
theorem Chk.later {w W W' : World} {fv ov : Value} (h : Chk w fv ov W) (hb : Below W.heap.size W W') : Chk w fv ov W' :=
  ⟨h.below.trans (hb.mono h.below.size), Nat.le_trans h.big hb.size, h.own.kept fun j hj => hb.block j (Nat.lt_of_lt_of_le hj h.big)⟩
theorem Chk.cells {w W : World} {fv ov : Value} (h : Chk w fv ov W) : (W.cell? ⟨w.heap.size, 0, none⟩ = some fv ∧ W.cell? ⟨w.heap.size, 1, none⟩ = some ov) ∧ (∃ n : Int, W.cell? ⟨w.heap.size + 1, 0, none⟩ = some (.int .i64 n)) ∧ W.frozen? ⟨w.heap.size + 1, 0, none⟩ = false := by
  obtain ⟨h1, n, h2⟩ := h.own
  exact ⟨⟨(cell_blk h1 0).trans rfl, (cell_blk h1 1).trans rfl⟩, ⟨n, (cell_blk h2 0).trans rfl⟩, frozen_blk h2 0⟩
/-- The result, stored. -/
theorem Chk.set {w W : World} {fv ov : Value} (h : Chk w fv ov W) (n : Int) : Chk w fv ov (W.setCell ⟨w.heap.size + 1, 0, none⟩ (.int .i64 n)) ∧ (W.setCell ⟨w.heap.size + 1, 0, none⟩ (.int .i64 n)).heap[w.heap.size + 1]? = some (.cells #[.int .i64 n] 32 (0, 0)) ∧
    (∀ j, j ≠ w.heap.size + 1 → (W.setCell ⟨w.heap.size + 1, 0, none⟩ (.int .i64 n)).heap[j]? = W.heap[j]?) ∧ (W.setCell ⟨w.heap.size + 1, 0, none⟩ (.int .i64 n)).heap.size = W.heap.size := by
  have ho : ∀ j, j ≠ w.heap.size + 1 → (W.setCell ⟨w.heap.size + 1, 0, none⟩ (.int .i64 n)).heap[j]? = W.heap[j]? := fun j hj => Below.heap_setCell _ _ _ _ hj
  have hsz : (W.setCell ⟨w.heap.size + 1, 0, none⟩ (.int .i64 n)).heap.size = W.heap.size := by simp [World.setCell]
  obtain ⟨h1, m, h2⟩ := h.own
  have h2' : (W.setCell ⟨w.heap.size + 1, 0, none⟩ (.int .i64 n)).heap[w.heap.size + 1]? = some (.cells #[.int .i64 n] 32 (0, 0)) := (heap_set h2 0 _).trans rfl
  exact ⟨⟨h.below.setCell (p := ⟨w.heap.size + 1, 0, none⟩) (Nat.le_succ _) _, by rw [hsz]; exact h.big, (ho _ (by omega)).trans h1, n, h2'⟩, h2', ho, hsz⟩
theorem chk_boxes (w : World) (fv ov : Value) (n : Int) : Chk w fv ov ((w.alloc (.cells #[fv, ov] 25)).alloc (.cells #[.int .i64 n] 32)) ∧ ((w.alloc (.cells #[fv, ov] 25)).alloc (.cells #[.int .i64 n] 32)).heap[w.heap.size + 1]? = some (.cells #[.int .i64 n] 32 (0, 0)) := by
  have h2 := heap_alloc_two w (.cells #[fv, ov] 25) (.cells #[.int .i64 n] 32)
  exact ⟨⟨two_allocs _ _ _, by simp, blk_below (below1 _ _) (heap_alloc_self _ _) (by simp), n, h2⟩, h2⟩
/-- A face of the roof, read in a later world. -/
theorem face_at {w W : World} {F : Option Addr} {n fc : Nat} {fs : List FaceS} (h : FacesAt w w.heap.size (.slice F n fc) fs) (hb : Below w.heap.size w W) {i : Nat} (hi : i < fs.length) :
    ∃ b o cA cc, F = some ⟨b, o, none⟩ ∧ b < w.heap.size ∧ (W.cell? ⟨b, o + i * 7, none⟩ = some (.string fs[i].name) ∧ W.cell? ⟨b, o + i * 7 + 1, none⟩ = some (.int .i64 fs[i].side) ∧ W.cell? ⟨b, o + i * 7 + 2, none⟩ = some (.int .i64 fs[i].foot) ∧ W.cell? ⟨b, o + i * 7 + 3, none⟩ = some (.int .i64 fs[i].base) ∧
      W.cell? ⟨b, o + i * 7 + 4, none⟩ = some (.int .i64 fs[i].rise) ∧ W.cell? ⟨b, o + i * 7 + 5, none⟩ = some (.int .i64 fs[i].run) ∧ W.cell? ⟨b, o + i * 7 + 6, none⟩ = some (.slice cA fs[i].corners.length cc)) ∧ AtsAt w w.heap.size (.slice cA fs[i].corners.length cc) fs[i].corners := by
  obtain ⟨A, c, e, _, _, h3⟩ := h
  simp only [Value.slice.injEq] at e
  obtain ⟨rfl, _, _⟩ := e
  obtain ⟨b, o, rfl, hlt, hc⟩ := h3 (fun e => by rw [e] at hi; simp at hi)
  obtain ⟨k0, k1, k2, k3, k4, k5, cv, k6, hcv⟩ := hc i fs[i] (List.getElem?_eq_getElem hi)
  obtain ⟨cA, cc, rfl, _⟩ := id hcv
  have hx : ∀ j, W.cell? ⟨b, j, none⟩ = w.cell? ⟨b, j, none⟩ := fun j => hb.cell (p := ⟨b, j, none⟩) hlt
  exact ⟨b, o, cA, cc, rfl, hlt, ⟨(hx _).trans k0, (hx _).trans k1, (hx _).trans k2, (hx _).trans k3, (hx _).trans k4, (hx _).trans k5, (hx _).trans k6⟩, hcv⟩
/-- A world that is the same from W1 on below lo, but for the result. -/
structure SameTo (w : World) (fv ov : Value) (W1 : World) (lo : Nat) (W : World) : Prop where
  chk : Chk w fv ov W
  size : lo ≤ W.heap.size
  same : ∀ j, j < lo → j ≠ w.heap.size + 1 → W.heap[j]? = W1.heap[j]?
theorem SameTo.bel {w W1 W W' : World} {fv ov : Value} {lo : Nat} {S : Nat → Prop} (h : SameTo w fv ov W1 lo W) (hb : Bel S W W') (hS : ∀ j, S j → lo ≤ j) (hlo : w.heap.size + 2 ≤ lo) : SameTo w fv ov W1 lo W' :=
  ⟨h.chk.bel hb (fun j hj => Nat.le_trans hlo (hS j hj)) fun hF hk => hF.kept hk, Nat.le_trans h.size hb.size, fun j hj hne => (hb.block j (Nat.lt_of_lt_of_le hj h.size) (fun e => by have := hS j e; omega)).trans (h.same j hj hne)⟩
theorem SameTo.later {w W1 W W' : World} {fv ov : Value} {lo : Nat} (h : SameTo w fv ov W1 lo W) (hb : Below W.heap.size W W') : SameTo w fv ov W1 lo W' :=
  ⟨h.chk.later hb, Nat.le_trans h.size hb.size, fun j hj hne => (hb.block j (Nat.lt_of_lt_of_le hj h.size)).trans (h.same j hj hne)⟩
theorem SameTo.set {w W1 W : World} {fv ov : Value} {lo : Nat} (h : SameTo w fv ov W1 lo W) (n : Int) : SameTo w fv ov W1 lo (W.setCell ⟨w.heap.size + 1, 0, none⟩ (.int .i64 n)) := by
  obtain ⟨h1, _, h3, h4⟩ := h.chk.set n
  exact ⟨h1, by rw [h4]; exact h.size, fun j hj hne => (h3 j hne).trans (h.same j hj hne)⟩
theorem SameTo.marks {w W1 W : World} {fv ov : Value} {lo : Nat} {ds : List Deferred} {hi : Nat} (h : SameTo w fv ov W1 lo W) (hm : Marks (w.heap.size + 2) W1 hi ds) (hh : hi ≤ lo) : Marks (w.heap.size + 2) W hi ds :=
  hm.kept fun k h1 h2 hk => (h.same k (by omega) (by omega)).trans hk
theorem SameTo.trans {w W1 Wb W2 W : World} {fv ov : Value} {lo : Nat} (h1 : SameTo w fv ov W1 lo Wb) (hb : Below Wb.heap.size Wb W2) (h2 : SameTo w fv ov W2 W2.heap.size W) : SameTo w fv ov W1 lo W :=
  ⟨h2.chk, Nat.le_trans h1.size (Nat.le_trans hb.size h2.size), fun j hj hne => by
    have hjb := Nat.lt_of_lt_of_le hj h1.size
    exact (h2.same j (Nat.lt_of_lt_of_le hjb hb.size) hne).trans ((hb.block j hjb).trans (h1.same j hj hne))⟩
theorem SameTo.keptJ {w Wb W2 W : World} {fv ov : Value} {lo : Nat} (hb : Below Wb.heap.size Wb W2) (h2 : SameTo w fv ov W2 W2.heap.size W) (hlo : w.heap.size + 2 ≤ lo) (hbig : lo + 2 ≤ Wb.heap.size) : KeptJ (fun j => j = lo ∨ j = lo + 1) Wb W :=
  ⟨Nat.le_trans hb.size h2.size, fun j hj => by
    have hjb : j < Wb.heap.size := by rcases hj with e | e <;> omega
    have hne : j ≠ w.heap.size + 1 := by rcases hj with e | e <;> omega
    exact (h2.same j (Nat.lt_of_lt_of_le hjb hb.size) hne).trans (hb.block j hjb)⟩
theorem SameTo.keptL {w Wd W W2 : World} {fv ov : Value} {lo : Nat} (hsz : Wd.heap.size ≤ W.heap.size) (h : ∀ j, j < Wd.heap.size → j ≠ w.heap.size + 1 → W.heap[j]? = Wd.heap[j]?) (hlo : w.heap.size + 2 ≤ lo) (hbig : lo + 1 ≤ Wd.heap.size) (hS : SameTo w fv ov W2 lo Wd) (hc : Chk w fv ov W) : KeptJ (fun j => j = lo) Wd W ∧ SameTo w fv ov W2 lo W :=
  ⟨⟨hsz, fun j hj => h j (by omega) (by omega)⟩, hc, Nat.le_trans hS.size hsz, fun j hj hne => (h j (by omega) hne).trans (hS.same j hj hne)⟩
end Go.Proofs.Ytnbnhcoaggpmaaa
