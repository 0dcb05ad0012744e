/- Arguments that came in, opened: lists of values, lists of bytes. -/
import Derived.Test.YtccplobhfokcgaaAr
namespace Go.Proofs.Ytccplobhfokcgaa
open Go Go.RowKit Go.Shelf
open Go.Joins Go.ChangeShapes Go.WideShapes Go.Deep
set_option maxRecDepth 100000

section
variable {H : Type} {enc : TypeId × Value → H} {w : World} {base : Nat} {held : Bool}
theorem cellsOf_worth : Try.prog.cellsOf 64 = 3 := by kernel_rfl
theorem worth_read {fuel : Nat} {cs : List Value} {x : DataW H × List MemPlace} (hl : cs.length = 3) (h : DataW.trod enc Try.prog w base (fun _ => true) held fuel 64 cs = some x) :
    ∃ n0 v xs n1, cs = [.int .i64 n0, v, .int .i64 n1] ∧ IntsAt w w.heap.size v xs := by
  obtain ⟨ys, n, _, _, _, hyl, hf⟩ := DataW.trod_struct Try.underlying64 h
  obtain ⟨c0, c1, c2, rfl⟩ := three hl
  have key : ∀ (i : Nat), i < 3 → ∃ y, ys[i]? = some y := fun i hi => some_of_lt hyl hi
  obtain ⟨y0, e0⟩ := key 0 (by omega)
  obtain ⟨y1, e1⟩ := key 1 (by omega)
  obtain ⟨y2, e2⟩ := key 2 (by omega)
  have h0 : DataW.trod enc Try.prog w base (fun _ => true) held n 3 (([c0, c1, c2] : List Value).drop 0 |>.take (Try.prog.cellsOf 3)) = some y0 := (hf 0 _ rfl).trans e0
  have h1 : DataW.trod enc Try.prog w base (fun _ => true) held n 36 (([c0, c1, c2] : List Value).drop 1 |>.take (Try.prog.cellsOf 36)) = some y1 := (hf 1 _ rfl).trans e1
  have h2 : DataW.trod enc Try.prog w base (fun _ => true) held n 3 (([c0, c1, c2] : List Value).drop 2 |>.take (Try.prog.cellsOf 3)) = some y2 := (hf 2 _ rfl).trans e2
  simp only [keyCells3, cellsOf_row, List.drop_zero, List.drop_succ_cons, List.take_succ_cons, List.take_zero] at h0 h1 h2
  obtain ⟨n0, e0, _, _⟩ := DataW.trod_int Try.underlying3 h0
  obtain ⟨v, xs, e1, hv⟩ := open_ints_at h1
  obtain ⟨n1, e2, _, _⟩ := DataW.trod_int Try.underlying3 h2
  cases e0; cases e1; cases e2
  exact ⟨n0, _, xs, n1, rfl, hv⟩
theorem open_worths_at {fuel : Nat} {cs : List Value} {x : DataW H × List MemPlace} (h : DataW.trod enc Try.prog w base (fun _ => true) held fuel 42 cs = some x) : ∃ v ws, cs = [v] ∧ WorthsAt w w.heap.size v ws := by
  rcases open_slice Try.underlying42 h with ⟨rfl, _⟩ | ⟨a, l, c, m, n, D, Pl, rfl, _, hl, hm, hmm, _, hf⟩
  · exact ⟨_, [], rfl, none, 0, rfl, by simp, fun hn => absurd rfl hn⟩
  · simp only [if_true] at hmm
    subst hmm
    have hml : m ≤ 9223372036854775807 := by simp only [maxLen] at hm; omega
    obtain ⟨ss, hsl, hss⟩ := list_choose (P := fun i (s : Wo) => ∃ t, w.cell? (a.add (i * 3 + 0)) = some (.int .i64 s.y) ∧ w.cell? (a.add (i * 3 + 1)) = some t ∧ w.cell? (a.add (i * 3 + 2)) = some (.int .i64 s.c) ∧ IntsAt w w.heap.size t s.th) l (fun i hi => by
      obtain ⟨cs', hc, ht⟩ := hf i (by omega)
      rw [cellsOf_worth] at hc
      obtain ⟨_, hcl, hat⟩ := World.cells?_some hc
      obtain ⟨n0, v, xs, n1, rfl, hv⟩ := worth_read hcl ht
      have k : ∀ j, j < 3 → w.cell? (a.add (i * 3 + j)) = ([.int .i64 n0, v, .int .i64 n1] : List Value)[j]? := fun j hj => by rw [← hat j hj, add_add]
      exact ⟨⟨n0, xs, n1⟩, v, k 0 (by omega), k 1 (by omega), k 2 (by omega), hv⟩)
    refine ⟨_, ss, rfl, some a, m, by rw [hsl], by omega, fun hn => ?_⟩
    have h0 : 0 < ss.length := List.length_pos_iff.2 hn
    obtain ⟨_, hc0, _⟩ := hss 0 _ (List.getElem?_eq_getElem h0)
    obtain ⟨b, o, sp⟩ := a
    have hsp : sp = none := by simpa [Addr.add] using World.cell?_spot hc0
    subst hsp
    refine ⟨b, o, rfl, by simpa [Addr.add] using cell_lt hc0, fun i s hs => ?_⟩
    obtain ⟨t, c0, c1, c2, ht⟩ := hss i s hs
    rw [add_plain] at c0 c1 c2
    exact ⟨t, c0, c1, c2, ht⟩
end
end Go.Proofs.Ytccplobhfokcgaa
