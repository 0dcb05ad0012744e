/- A roof and a climate that came in, opened. -/
import Derived.Test.YtnbnhcoaggpmaaaJp
import Derived.Deep.Matrix
import Derived.Deep.Slices
import Derived.Deep.Fields
import Derived.ChangeSame
import Derived.Lib.SmallJoins
import Derived.ProofKit
import Derived.ChangeSlices

namespace Go.Proofs.Ytnbnhcoaggpmaaa
open Go Go.RowKit Go.Shelf
open Go.Joins Go.ChangeShapes Go.WideShapes Go.Deep
set_option maxRecDepth 100000
theorem list_choose {α : Type} {P : Nat → α → Prop} : ∀ n, (∀ i, i < n → ∃ a, P i a) → ∃ l : List α, l.length = n ∧ ∀ i a, l[i]? = some a → P i a
  | 0, _ => ⟨[], rfl, fun i a h => by simp at h⟩
  | n + 1, h => by
    obtain ⟨l, hl, hp⟩ := list_choose n (fun i hi => h i (by omega))
    obtain ⟨a, ha⟩ := h n (by omega)
    refine ⟨l ++ [a], by simp [hl], fun i b hb => ?_⟩
    rcases Nat.lt_or_ge i n with hi | hi
    · rw [List.getElem?_append_left (by omega)] at hb
      exact hp i b hb
    · rw [List.getElem?_append_right (by omega)] at hb
      have hz : i - l.length = 0 := by
        have := (List.getElem?_eq_some_iff.1 hb).1
        simp at this; omega
      rw [hz] at hb
      have : a = b := by simpa using hb
      subst this
      obtain rfl : i = n := by omega
      exact ha
theorem cell_lt {w : World} {p : Addr} {v : Value} (h : w.cell? p = some v) : p.block < w.heap.size := by
  rcases Nat.lt_or_ge p.block w.heap.size with h1 | h1
  · exact h1
  · rw [World.cell?, Array.getElem?_eq_none h1] at h
    simp at h
section
variable {H : Type} {enc : TypeId × Value → H} {w : World} {base : Nat} {held : Bool}
theorem add_plain (b o j : Nat) : (⟨b, o, none⟩ : Addr).add j = ⟨b, o + j, none⟩ := by unfold Addr.add; split <;> simp_all
theorem some_of_lt {α : Type} {l : List α} {i n : Nat} (h : l.length = n) (hi : i < n) : ∃ y, l[i]? = some y := ⟨l[i]'(by omega), List.getElem?_eq_getElem (by omega)⟩
theorem len2 {α : Type} {l : List α} (h : l.length = 2) : ∃ a b, l = [a, b] := by
  match l, h with
  | [a, b], _ => exact ⟨a, b, rfl⟩
theorem len6 {α : Type} {l : List α} (h : l.length = 6) : ∃ a b c d e f, l = [a, b, c, d, e, f] := by
  match l, h with
  | [a, b, c, d, e, f], _ => exact ⟨a, b, c, d, e, f, rfl⟩
theorem len7 {α : Type} {l : List α} (h : l.length = 7) : ∃ a b c d e f g, l = [a, b, c, d, e, f, g] := by
  match l, h with
  | [a, b, c, d, e, f, g], _ => exact ⟨a, b, c, d, e, f, g, rfl⟩
theorem sz_ats : Try.prog.cellsOf 36 = 1 := by kernel_rfl
theorem sz_faces : Try.prog.cellsOf 22 = 1 := by kernel_rfl
theorem sz_opens : Try.prog.cellsOf 23 = 1 := by kernel_rfl
theorem sz_int : Try.prog.cellsOf 3 = 1 := by kernel_rfl
theorem sz_str : Try.prog.cellsOf 9 = 1 := by kernel_rfl
theorem sz_side : Try.prog.cellsOf 35 = 1 := by kernel_rfl
theorem sz_at : Try.prog.cellsOf 55 = 2 := by kernel_rfl
theorem sz_face : Try.prog.cellsOf 38 = 7 := by kernel_rfl
theorem sz_open : Try.prog.cellsOf 57 = 6 := by kernel_rfl
theorem sz_span : Try.prog.cellsOf 27 = 2 := by kernel_rfl
theorem sz_clim : Try.prog.cellsOf 29 = 2 := by kernel_rfl
theorem sz_roof : Try.prog.cellsOf 25 = 2 := by kernel_rfl
theorem at_read {fuel : Nat} {cs : List Value} {x : DataW H × List MemPlace} (hl : cs.length = 2) (h : DataW.trod enc Try.prog w base (fun _ => true) held fuel 55 cs = some x) :
    ∃ n0 n1, cs = [.int .i64 n0, .int .i64 n1] := by
  obtain ⟨ys, n, _, _, _, hyl, hf⟩ := DataW.trod_struct Try.underlying55 h
  obtain ⟨c0, c1, rfl⟩ := len2 hl
  have key : ∀ (i : Nat), i < 2 → ∃ y, ys[i]? = some y := fun i hi => some_of_lt hyl hi
  obtain ⟨y0, e0⟩ := key 0 (by omega)
  have h0 : DataW.trod enc Try.prog w base (fun _ => true) held n 3 (([c0, c1] : List Value).drop 0 |>.take (Try.prog.cellsOf 3)) = some y0 := (hf 0 _ rfl).trans e0
  obtain ⟨y1, e1⟩ := key 1 (by omega)
  have h1 : DataW.trod enc Try.prog w base (fun _ => true) held n 3 (([c0, c1] : List Value).drop 1 |>.take (Try.prog.cellsOf 3)) = some y1 := (hf 1 _ rfl).trans e1
  simp only [sz_ats, sz_faces, sz_opens, sz_int, sz_str, sz_side, sz_at, sz_span, List.drop_zero, List.drop_succ_cons, List.take_succ_cons, List.take_zero] at h0 h1
  obtain ⟨n0, g0, _, _⟩ := DataW.trod_int Try.underlying3 h0
  obtain ⟨n1, g1, _, _⟩ := DataW.trod_int Try.underlying3 h1
  cases g0; cases g1
  exact ⟨n0, n1, rfl⟩
theorem span_read {fuel : Nat} {cs : List Value} {x : DataW H × List MemPlace} (hl : cs.length = 2) (h : DataW.trod enc Try.prog w base (fun _ => true) held fuel 27 cs = some x) :
    ∃ n0 n1, cs = [.int .i64 n0, .int .i64 n1] := by
  obtain ⟨ys, n, _, _, _, hyl, hf⟩ := DataW.trod_struct Try.underlying27 h
  obtain ⟨c0, c1, rfl⟩ := len2 hl
  have key : ∀ (i : Nat), i < 2 → ∃ y, ys[i]? = some y := fun i hi => some_of_lt hyl hi
  obtain ⟨y0, e0⟩ := key 0 (by omega)
  have h0 : DataW.trod enc Try.prog w base (fun _ => true) held n 3 (([c0, c1] : List Value).drop 0 |>.take (Try.prog.cellsOf 3)) = some y0 := (hf 0 _ rfl).trans e0
  obtain ⟨y1, e1⟩ := key 1 (by omega)
  have h1 : DataW.trod enc Try.prog w base (fun _ => true) held n 3 (([c0, c1] : List Value).drop 1 |>.take (Try.prog.cellsOf 3)) = some y1 := (hf 1 _ rfl).trans e1
  simp only [sz_ats, sz_faces, sz_opens, sz_int, sz_str, sz_side, sz_at, sz_span, List.drop_zero, List.drop_succ_cons, List.take_succ_cons, List.take_zero] at h0 h1
  obtain ⟨n0, g0, _, _⟩ := DataW.trod_int Try.underlying3 h0
  obtain ⟨n1, g1, _, _⟩ := DataW.trod_int Try.underlying3 h1
  cases g0; cases g1
  exact ⟨n0, n1, rfl⟩
theorem open_ats_at {fuel : Nat} {cs : List Value} {x : DataW H × List MemPlace} (h : DataW.trod enc Try.prog w base (fun _ => true) held fuel 36 cs = some x) : ∃ v ss, cs = [v] ∧ AtsAt w w.heap.size v ss := by
  rcases open_slice Try.underlying36 h with ⟨rfl, _⟩ | ⟨a, l, c, m, n, D, Pl, rfl, _, hl, hm, hmm, _, hf⟩
  · exact ⟨_, [], rfl, none, 0, rfl, by simp, by simp, fun hn => absurd rfl hn⟩
  · simp only [if_true] at hmm
    subst hmm
    have hml : m ≤ 9223372036854775807 := by simp only [maxLen] at hm; omega
    obtain ⟨ss, hsl, hss⟩ := list_choose (P := fun i (s : Int × Int) => w.cell? (a.add (i * 2 + 0)) = some (.int .i64 s.1) ∧ w.cell? (a.add (i * 2 + 1)) = some (.int .i64 s.2)) l (fun i hi => by
      obtain ⟨cs', hc, ht⟩ := hf i (by omega)
      rw [sz_at] at hc
      obtain ⟨_, hcl, hat⟩ := World.cells?_some hc
      obtain ⟨n0, n1, rfl⟩ := at_read hcl ht
      have k : ∀ j, j < 2 → w.cell? (a.add (i * 2 + j)) = ([.int .i64 n0, .int .i64 n1] : List Value)[j]? := fun j hj => by rw [← hat j hj, add_add]
      exact ⟨(n0, n1), k 0 (by omega), k 1 (by omega)⟩)
    refine ⟨_, ss, rfl, some a, m, by rw [hsl], by omega, by omega, fun hn => ?_⟩
    have h0 : 0 < ss.length := List.length_pos_iff.2 hn
    obtain ⟨hc0, _⟩ := hss 0 _ (List.getElem?_eq_getElem h0)
    obtain ⟨b, o, sp⟩ := a
    have hsp : sp = none := by simpa [Addr.add] using World.cell?_spot hc0
    subst hsp
    refine ⟨b, o, rfl, by simpa [Addr.add] using cell_lt hc0, fun i s hs => ?_⟩
    obtain ⟨c0, c1⟩ := hss i s hs
    rw [add_plain] at c0 c1
    exact ⟨c0, c1⟩
theorem face_read {fuel : Nat} {cs : List Value} {x : DataW H × List MemPlace} (hl : cs.length = 7) (h : DataW.trod enc Try.prog w base (fun _ => true) held fuel 38 cs = some x) :
    ∃ n0 n1 n2 n3 n4 n5 v xs, cs = [.string n0, .int .i64 n1, .int .i64 n2, .int .i64 n3, .int .i64 n4, .int .i64 n5, v] ∧ AtsAt w w.heap.size v xs := by
  obtain ⟨ys, n, _, _, _, hyl, hf⟩ := DataW.trod_struct Try.underlying38 h
  obtain ⟨c0, c1, c2, c3, c4, c5, c6, rfl⟩ := len7 hl
  have key : ∀ (i : Nat), i < 7 → ∃ y, ys[i]? = some y := fun i hi => some_of_lt hyl hi
  obtain ⟨y0, e0⟩ := key 0 (by omega)
  have h0 : DataW.trod enc Try.prog w base (fun _ => true) held n 9 (([c0, c1, c2, c3, c4, c5, c6] : List Value).drop 0 |>.take (Try.prog.cellsOf 9)) = some y0 := (hf 0 _ rfl).trans e0
  obtain ⟨y1, e1⟩ := key 1 (by omega)
  have h1 : DataW.trod enc Try.prog w base (fun _ => true) held n 35 (([c0, c1, c2, c3, c4, c5, c6] : List Value).drop 1 |>.take (Try.prog.cellsOf 35)) = some y1 := (hf 1 _ rfl).trans e1
  obtain ⟨y2, e2⟩ := key 2 (by omega)
  have h2 : DataW.trod enc Try.prog w base (fun _ => true) held n 3 (([c0, c1, c2, c3, c4, c5, c6] : List Value).drop 2 |>.take (Try.prog.cellsOf 3)) = some y2 := (hf 2 _ rfl).trans e2
  obtain ⟨y3, e3⟩ := key 3 (by omega)
  have h3 : DataW.trod enc Try.prog w base (fun _ => true) held n 3 (([c0, c1, c2, c3, c4, c5, c6] : List Value).drop 3 |>.take (Try.prog.cellsOf 3)) = some y3 := (hf 3 _ rfl).trans e3
  obtain ⟨y4, e4⟩ := key 4 (by omega)
  have h4 : DataW.trod enc Try.prog w base (fun _ => true) held n 3 (([c0, c1, c2, c3, c4, c5, c6] : List Value).drop 4 |>.take (Try.prog.cellsOf 3)) = some y4 := (hf 4 _ rfl).trans e4
  obtain ⟨y5, e5⟩ := key 5 (by omega)
  have h5 : DataW.trod enc Try.prog w base (fun _ => true) held n 3 (([c0, c1, c2, c3, c4, c5, c6] : List Value).drop 5 |>.take (Try.prog.cellsOf 3)) = some y5 := (hf 5 _ rfl).trans e5
  obtain ⟨y6, e6⟩ := key 6 (by omega)
  have h6 : DataW.trod enc Try.prog w base (fun _ => true) held n 36 (([c0, c1, c2, c3, c4, c5, c6] : List Value).drop 6 |>.take (Try.prog.cellsOf 36)) = some y6 := (hf 6 _ rfl).trans e6
  simp only [sz_ats, sz_faces, sz_opens, sz_int, sz_str, sz_side, sz_at, sz_span, List.drop_zero, List.drop_succ_cons, List.take_succ_cons, List.take_zero] at h0 h1 h2 h3 h4 h5 h6
  obtain ⟨n0, g0, _, _⟩ := DataW.trod_string Try.underlying9 h0
  obtain ⟨n1, g1, _, _⟩ := DataW.trod_int Try.underlying35 h1
  obtain ⟨n2, g2, _, _⟩ := DataW.trod_int Try.underlying3 h2
  obtain ⟨n3, g3, _, _⟩ := DataW.trod_int Try.underlying3 h3
  obtain ⟨n4, g4, _, _⟩ := DataW.trod_int Try.underlying3 h4
  obtain ⟨n5, g5, _, _⟩ := DataW.trod_int Try.underlying3 h5
  obtain ⟨v6, xs6, g6, hv6⟩ := open_ats_at h6
  cases g0; cases g1; cases g2; cases g3; cases g4; cases g5; cases g6
  exact ⟨_, _, _, _, _, _, _, xs6, rfl, hv6⟩
theorem open_faces_at {fuel : Nat} {cs : List Value} {x : DataW H × List MemPlace} (h : DataW.trod enc Try.prog w base (fun _ => true) held fuel 22 cs = some x) : ∃ v ss, cs = [v] ∧ FacesAt w w.heap.size v ss := by
  rcases open_slice Try.underlying22 h with ⟨rfl, _⟩ | ⟨a, l, c, m, n, D, Pl, rfl, _, hl, hm, hmm, _, hf⟩
  · exact ⟨_, [], rfl, none, 0, rfl, by simp, by simp, fun hn => absurd rfl hn⟩
  · simp only [if_true] at hmm
    subst hmm
    have hml : m ≤ 9223372036854775807 := by simp only [maxLen] at hm; omega
    obtain ⟨ss, hsl, hss⟩ := list_choose (P := fun i (s : FaceS) => w.cell? (a.add (i * 7 + 0)) = some (.string s.name) ∧ w.cell? (a.add (i * 7 + 1)) = some (.int .i64 s.side) ∧ w.cell? (a.add (i * 7 + 2)) = some (.int .i64 s.foot) ∧ w.cell? (a.add (i * 7 + 3)) = some (.int .i64 s.base) ∧ w.cell? (a.add (i * 7 + 4)) = some (.int .i64 s.rise) ∧ w.cell? (a.add (i * 7 + 5)) = some (.int .i64 s.run) ∧ ∃ cv, w.cell? (a.add (i * 7 + 6)) = some cv ∧ AtsAt w w.heap.size cv s.corners) l (fun i hi => by
      obtain ⟨cs', hc, ht⟩ := hf i (by omega)
      rw [sz_face] at hc
      obtain ⟨_, hcl, hat⟩ := World.cells?_some hc
      obtain ⟨n0, n1, n2, n3, n4, n5, v, xs, rfl, hv⟩ := face_read hcl ht
      have k : ∀ j, j < 7 → w.cell? (a.add (i * 7 + j)) = ([.string n0, .int .i64 n1, .int .i64 n2, .int .i64 n3, .int .i64 n4, .int .i64 n5, v] : List Value)[j]? := fun j hj => by rw [← hat j hj, add_add]
      exact ⟨⟨n0, n1, n2, n3, n4, n5, xs⟩, k 0 (by omega), k 1 (by omega), k 2 (by omega), k 3 (by omega), k 4 (by omega), k 5 (by omega), v, k 6 (by omega), hv⟩)
    refine ⟨_, ss, rfl, some a, m, by rw [hsl], by omega, by omega, fun hn => ?_⟩
    have h0 : 0 < ss.length := List.length_pos_iff.2 hn
    obtain ⟨hc0, _⟩ := hss 0 _ (List.getElem?_eq_getElem h0)
    obtain ⟨b, o, sp⟩ := a
    have hsp : sp = none := by simpa [Addr.add] using World.cell?_spot hc0
    subst hsp
    refine ⟨b, o, rfl, by simpa [Addr.add] using cell_lt hc0, fun i s hs => ?_⟩
    obtain ⟨c0, c1, c2, c3, c4, c5, cv, c6, hcv⟩ := hss i s hs
    rw [add_plain] at c0 c1 c2 c3 c4 c5 c6
    exact ⟨c0, c1, c2, c3, c4, c5, cv, c6, hcv⟩
theorem open_read {fuel : Nat} {cs : List Value} {x : DataW H × List MemPlace} (hl : cs.length = 6) (h : DataW.trod enc Try.prog w base (fun _ => true) held fuel 57 cs = some x) :
    ∃ n0 n1 n2 n3 n4 n5, cs = [.string n0, .int .i64 n1, .int .i64 n2, .int .i64 n3, .int .i64 n4, .int .i64 n5] := by
  obtain ⟨ys, n, _, _, _, hyl, hf⟩ := DataW.trod_struct Try.underlying57 h
  obtain ⟨c0, c1, c2, c3, c4, c5, rfl⟩ := len6 hl
  have key : ∀ (i : Nat), i < 4 → ∃ y, ys[i]? = some y := fun i hi => some_of_lt hyl hi
  obtain ⟨y0, e0⟩ := key 0 (by omega)
  have h0 : DataW.trod enc Try.prog w base (fun _ => true) held n 9 (([c0, c1, c2, c3, c4, c5] : List Value).drop 0 |>.take (Try.prog.cellsOf 9)) = some y0 := (hf 0 _ rfl).trans e0
  obtain ⟨y1, e1⟩ := key 1 (by omega)
  have h1 : DataW.trod enc Try.prog w base (fun _ => true) held n 3 (([c0, c1, c2, c3, c4, c5] : List Value).drop 1 |>.take (Try.prog.cellsOf 3)) = some y1 := (hf 1 _ rfl).trans e1
  obtain ⟨y2, e2⟩ := key 2 (by omega)
  have h2 : DataW.trod enc Try.prog w base (fun _ => true) held n 55 (([c0, c1, c2, c3, c4, c5] : List Value).drop 2 |>.take (Try.prog.cellsOf 55)) = some y2 := (hf 2 _ rfl).trans e2
  obtain ⟨y3, e3⟩ := key 3 (by omega)
  have h3 : DataW.trod enc Try.prog w base (fun _ => true) held n 55 (([c0, c1, c2, c3, c4, c5] : List Value).drop 4 |>.take (Try.prog.cellsOf 55)) = some y3 := (hf 3 _ rfl).trans e3
  simp only [sz_ats, sz_faces, sz_opens, sz_int, sz_str, sz_side, sz_at, sz_span, List.drop_zero, List.drop_succ_cons, List.take_succ_cons, List.take_zero] at h0 h1 h2 h3
  obtain ⟨n0, g0, _, _⟩ := DataW.trod_string Try.underlying9 h0
  obtain ⟨n1, g1, _, _⟩ := DataW.trod_int Try.underlying3 h1
  obtain ⟨n2, m2, g2⟩ := at_read rfl h2
  obtain ⟨n3, m3, g3⟩ := at_read rfl h3
  cases g0; cases g1; cases g2; cases g3
  exact ⟨_, _, _, _, _, _, rfl⟩
theorem open_opens_at {fuel : Nat} {cs : List Value} {x : DataW H × List MemPlace} (h : DataW.trod enc Try.prog w base (fun _ => true) held fuel 23 cs = some x) : ∃ v ss, cs = [v] ∧ OpensAt w w.heap.size v ss := by
  rcases open_slice Try.underlying23 h with ⟨rfl, _⟩ | ⟨a, l, c, m, n, D, Pl, rfl, _, hl, hm, hmm, _, hf⟩
  · exact ⟨_, [], rfl, none, 0, rfl, by simp, by simp, fun hn => absurd rfl hn⟩
  · simp only [if_true] at hmm
    subst hmm
    have hml : m ≤ 9223372036854775807 := by simp only [maxLen] at hm; omega
    obtain ⟨ss, hsl, hss⟩ := list_choose (P := fun i (s : OpenS) => w.cell? (a.add (i * 6 + 0)) = some (.string s.name) ∧ w.cell? (a.add (i * 6 + 1)) = some (.int .i64 s.face) ∧ w.cell? (a.add (i * 6 + 2)) = some (.int .i64 s.lx) ∧ w.cell? (a.add (i * 6 + 3)) = some (.int .i64 s.ly) ∧ w.cell? (a.add (i * 6 + 4)) = some (.int .i64 s.hx) ∧ w.cell? (a.add (i * 6 + 5)) = some (.int .i64 s.hy)) l (fun i hi => by
      obtain ⟨cs', hc, ht⟩ := hf i (by omega)
      rw [sz_open] at hc
      obtain ⟨_, hcl, hat⟩ := World.cells?_some hc
      obtain ⟨n0, n1, n2, n3, n4, n5, rfl⟩ := open_read hcl ht
      have k : ∀ j, j < 6 → w.cell? (a.add (i * 6 + j)) = ([.string n0, .int .i64 n1, .int .i64 n2, .int .i64 n3, .int .i64 n4, .int .i64 n5] : List Value)[j]? := fun j hj => by rw [← hat j hj, add_add]
      exact ⟨⟨n0, n1, n2, n3, n4, n5⟩, k 0 (by omega), k 1 (by omega), k 2 (by omega), k 3 (by omega), k 4 (by omega), k 5 (by omega)⟩)
    refine ⟨_, ss, rfl, some a, m, by rw [hsl], by omega, by omega, fun hn => ?_⟩
    have h0 : 0 < ss.length := List.length_pos_iff.2 hn
    obtain ⟨hc0, _⟩ := hss 0 _ (List.getElem?_eq_getElem h0)
    obtain ⟨b, o, sp⟩ := a
    have hsp : sp = none := by simpa [Addr.add] using World.cell?_spot hc0
    subst hsp
    refine ⟨b, o, rfl, by simpa [Addr.add] using cell_lt hc0, fun i s hs => ?_⟩
    obtain ⟨c0, c1, c2, c3, c4, c5⟩ := hss i s hs
    rw [add_plain] at c0 c1 c2 c3 c4 c5
    exact ⟨c0, c1, c2, c3, c4, c5⟩
theorem roof_read {fuel : Nat} {cs : List Value} {x : DataW H × List MemPlace} (hl : cs.length = 2) (h : DataW.trod enc Try.prog w base (fun _ => true) held fuel 25 cs = some x) :
    ∃ fv ov fs os, cs = [fv, ov] ∧ FacesAt w w.heap.size fv fs ∧ OpensAt w w.heap.size ov os := by
  obtain ⟨ys, n, _, _, _, hyl, hf⟩ := DataW.trod_struct Try.underlying25 h
  obtain ⟨c0, c1, rfl⟩ := len2 hl
  have key : ∀ (i : Nat), i < 2 → ∃ y, ys[i]? = some y := fun i hi => some_of_lt hyl hi
  obtain ⟨y0, e0⟩ := key 0 (by omega)
  have h0 : DataW.trod enc Try.prog w base (fun _ => true) held n 22 (([c0, c1] : List Value).drop 0 |>.take (Try.prog.cellsOf 22)) = some y0 := (hf 0 _ rfl).trans e0
  obtain ⟨y1, e1⟩ := key 1 (by omega)
  have h1 : DataW.trod enc Try.prog w base (fun _ => true) held n 23 (([c0, c1] : List Value).drop 1 |>.take (Try.prog.cellsOf 23)) = some y1 := (hf 1 _ rfl).trans e1
  simp only [sz_ats, sz_faces, sz_opens, sz_int, sz_str, sz_side, sz_at, sz_span, List.drop_zero, List.drop_succ_cons, List.take_succ_cons, List.take_zero] at h0 h1
  obtain ⟨v0, xs0, g0, hv0⟩ := open_faces_at h0
  obtain ⟨v1, xs1, g1, hv1⟩ := open_opens_at h1
  cases g0; cases g1
  exact ⟨_, _, xs0, xs1, rfl, hv0, hv1⟩
theorem clim_read {fuel : Nat} {cs : List Value} {x : DataW H × List MemPlace} (hl : cs.length = 2) (h : DataW.trod enc Try.prog w base (fun _ => true) held fuel 29 cs = some x) :
    ∃ n0 n1, cs = [.int .i64 n0, .int .i64 n1] := by
  obtain ⟨ys, n, _, _, _, hyl, hf⟩ := DataW.trod_struct Try.underlying29 h
  obtain ⟨c0, c1, rfl⟩ := len2 hl
  have key : ∀ (i : Nat), i < 1 → ∃ y, ys[i]? = some y := fun i hi => some_of_lt hyl hi
  obtain ⟨y0, e0⟩ := key 0 (by omega)
  have h0 : DataW.trod enc Try.prog w base (fun _ => true) held n 27 (([c0, c1] : List Value).drop 0 |>.take (Try.prog.cellsOf 27)) = some y0 := (hf 0 _ rfl).trans e0
  simp only [sz_ats, sz_faces, sz_opens, sz_int, sz_str, sz_side, sz_at, sz_span, List.drop_zero, List.drop_succ_cons, List.take_succ_cons, List.take_zero] at h0
  obtain ⟨n0, m0, g0⟩ := span_read rfl h0
  cases g0
  exact ⟨_, _, rfl⟩
theorem open_roof {fuel : Nat} {v : Value} {x : DataW H × List MemPlace} {r : Go.Reach} {b0 : Nat} (hv : Value.okWide Try.prog w r b0 25 v) (h : DataW.trod enc Try.prog w base (fun _ => true) held fuel 25 v.cells.toList = some x) :
    ∃ fv ov fs os, v = .agg #[fv, ov] ∧ FacesAt w w.heap.size fv fs ∧ OpensAt w w.heap.size ov os := by
  obtain ⟨⟨cs⟩, rfl, hsz⟩ := okWide_struct Try.underlying25 hv
  rw [sz_roof] at hsz
  obtain ⟨fv, ov, fs, os, e, h1, h2⟩ := roof_read (cs := cs) (by simpa using hsz) h
  exact ⟨fv, ov, fs, os, by rw [e], h1, h2⟩
theorem open_clim {fuel : Nat} {v : Value} {x : DataW H × List MemPlace} {r : Go.Reach} {b0 : Nat} (hv : Value.okWide Try.prog w r b0 29 v) (h : DataW.trod enc Try.prog w base (fun _ => true) held fuel 29 v.cells.toList = some x) :
    ∃ lo hi, v = .agg #[.int .i64 lo, .int .i64 hi] := by
  obtain ⟨⟨cs⟩, rfl, hsz⟩ := okWide_struct Try.underlying29 hv
  rw [sz_clim] at hsz
  obtain ⟨lo, hi, e⟩ := clim_read (cs := cs) (by simpa using hsz) h
  exact ⟨lo, hi, by rw [e]⟩
end
end Go.Proofs.Ytnbnhcoaggpmaaa
