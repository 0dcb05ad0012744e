/- Arguments that came in, opened: works, plans, lists of values. -/
import Derived.Test.YtcbhldfipfcjaaaGreatDoorLc
import Derived.Deep.Matrix
import Derived.Deep.Slices
import Derived.Deep.Fields
import Derived.ChangeSame
import Derived.Lib.SmallJoins
import Derived.ProofKit
import Derived.ChangeSlices

namespace Go.Proofs.YtcbhldfipfcjaaaGreatDoor
open Go Go.RowKit Go.Shelf
open Go.Joins Go.ChangeShapes Go.WideShapes Go.Deep
set_option maxRecDepth 100000

theorem list_choose {α : Type} {P : Nat → α → Prop} : ∀ n, (∀ i, i < n → ∃ a, P i a) → ∃ l : List α, l.length = n ∧ ∀ i a, l[i]? = some a → P i a
  | 0, _ => ⟨[], rfl, fun i a h => by simp at h⟩
  | n + 1, h => by
    obtain ⟨l, hl, hp⟩ := list_choose n (fun i hi => h i (by omega))
    obtain ⟨a, ha⟩ := h n (by omega)
    refine ⟨l ++ [a], by simp [hl], fun i b hb => ?_⟩
    rcases Nat.lt_or_ge i n with hi | hi
    · rw [List.getElem?_append_left (by omega)] at hb
      exact hp i b hb
    · rw [List.getElem?_append_right (by omega)] at hb
      have hz : i - l.length = 0 := by
        have := (List.getElem?_eq_some_iff.1 hb).1
        simp at this; omega
      rw [hz] at hb
      have : a = b := by simpa using hb
      subst this
      obtain rfl : i = n := by omega
      exact ha
theorem cell_lt {w : World} {p : Addr} {v : Value} (h : w.cell? p = some v) : p.block < w.heap.size := by
  rcases Nat.lt_or_ge p.block w.heap.size with h1 | h1
  · exact h1
  · rw [World.cell?, Array.getElem?_eq_none h1] at h
    simp at h
section
variable {H : Type} {enc : TypeId × Value → H} {w : World} {base : Nat} {held : Bool}
theorem add_plain (b o j : Nat) : (⟨b, o, none⟩ : Addr).add j = ⟨b, o + j, none⟩ := by unfold Addr.add; split <;> simp_all
theorem open_ints_at {fuel : Nat} {cs : List Value} {x : DataW H × List MemPlace} (h : DataW.trod enc Tryz.prog w base (fun _ => true) held fuel 35 cs = some x) : ∃ v xs, cs = [v] ∧ IntsAt w w.heap.size v xs := by
  rcases open_ints Tryz.underlying35 Tryz.underlying3 (by kernel_rfl) h with ⟨rfl, _⟩ | ⟨a, l, c, zs, rfl, _, hl, hm, hz, _, hcell, hwz⟩
  · exact ⟨_, [], rfl, none, 0, rfl, by simp, fun hn => absurd rfl hn⟩
  · have hzl : zs.length = c := by simpa using hz
    have hml : c ≤ 9223372036854775807 := by simp only [maxLen] at hm; omega
    refine ⟨_, zs.take l, rfl, some a, c, by rw [List.length_take, hzl, Nat.min_eq_left hl], by rw [List.length_map, List.length_take]; omega, fun hn => ?_⟩
    have hl0 : 0 < l := by
      rcases Nat.eq_zero_or_pos l with e | e
      · rw [e] at hn; simp at hn
      · exact e
    have h0 := hcell 0 (by omega)
    obtain ⟨b, o, sp⟩ := a
    have hsp : sp = none := by simpa [Addr.add] using World.cell?_spot h0
    subst hsp
    refine ⟨b, o, rfl, by simpa [Addr.add] using cell_lt h0, fun j u hu => ?_⟩
    rw [List.getElem?_map, List.getElem?_take] at hu
    split at hu
    · rename_i hjl
      have hj : j < zs.length := by omega
      rw [List.getElem?_eq_getElem hj] at hu
      simp at hu
      subst hu
      have := hcell j hj
      rw [getD_lt hj] at this
      rw [add_plain] at this
      exact this
    · simp at hu
theorem cellsOf_row : Tryz.prog.cellsOf 35 = 1 := by kernel_rfl
theorem cellsOf_slopes : Tryz.prog.cellsOf 22 = 1 := by kernel_rfl
theorem cellsOf_crafts : Tryz.prog.cellsOf 23 = 1 := by kernel_rfl
theorem cellsOf_bool : Tryz.prog.cellsOf 4 = 1 := by kernel_rfl
theorem cellsOf_slope : Tryz.prog.cellsOf 37 = 5 := by kernel_rfl
theorem cellsOf_craft : Tryz.prog.cellsOf 67 = 3 := by kernel_rfl
theorem cellsOf_works : Tryz.prog.cellsOf 25 = 5 := by kernel_rfl
theorem some_of_lt {α : Type} {l : List α} {i n : Nat} (h : l.length = n) (hi : i < n) : ∃ y, l[i]? = some y := ⟨l[i]'(by omega), List.getElem?_eq_getElem (by omega)⟩
theorem five {α : Type} {l : List α} (h : l.length = 5) : ∃ a b c d e, l = [a, b, c, d, e] := by
  match l, h with
  | [a, b, c, d, e], _ => exact ⟨a, b, c, d, e, rfl⟩
theorem three {α : Type} {l : List α} (h : l.length = 3) : ∃ a b c, l = [a, b, c] := by
  match l, h with
  | [a, b, c], _ => exact ⟨a, b, c, rfl⟩
theorem slope_read {fuel : Nat} {cs : List Value} {x : DataW H × List MemPlace} (hl : cs.length = 5) (h : DataW.trod enc Tryz.prog w base (fun _ => true) held fuel 37 cs = some x) :
    ∃ n0 n1 n2 n3 v xs, cs = [.int .i64 n0, .int .i64 n1, .int .i64 n2, .int .i64 n3, v] ∧ IntsAt w w.heap.size v xs := by
  obtain ⟨ys, n, _, _, _, hyl, hf⟩ := DataW.trod_struct Tryz.underlying37 h
  obtain ⟨c0, c1, c2, c3, c4, rfl⟩ := five hl
  have key : ∀ (i : Nat), i < 5 → ∃ y, ys[i]? = some y := fun i hi => some_of_lt hyl hi
  obtain ⟨y0, e0⟩ := key 0 (by omega)
  obtain ⟨y1, e1⟩ := key 1 (by omega)
  obtain ⟨y2, e2⟩ := key 2 (by omega)
  obtain ⟨y3, e3⟩ := key 3 (by omega)
  obtain ⟨y4, e4⟩ := key 4 (by omega)
  have h0 : DataW.trod enc Tryz.prog w base (fun _ => true) held n 3 (([c0, c1, c2, c3, c4] : List Value).drop 0 |>.take (Tryz.prog.cellsOf 3)) = some y0 := (hf 0 _ rfl).trans e0
  have h1 : DataW.trod enc Tryz.prog w base (fun _ => true) held n 3 (([c0, c1, c2, c3, c4] : List Value).drop 1 |>.take (Tryz.prog.cellsOf 3)) = some y1 := (hf 1 _ rfl).trans e1
  have h2 : DataW.trod enc Tryz.prog w base (fun _ => true) held n 3 (([c0, c1, c2, c3, c4] : List Value).drop 2 |>.take (Tryz.prog.cellsOf 3)) = some y2 := (hf 2 _ rfl).trans e2
  have h3 : DataW.trod enc Tryz.prog w base (fun _ => true) held n 3 (([c0, c1, c2, c3, c4] : List Value).drop 3 |>.take (Tryz.prog.cellsOf 3)) = some y3 := (hf 3 _ rfl).trans e3
  have h4 : DataW.trod enc Tryz.prog w base (fun _ => true) held n 35 (([c0, c1, c2, c3, c4] : List Value).drop 4 |>.take (Tryz.prog.cellsOf 35)) = some y4 := (hf 4 _ rfl).trans e4
  simp only [keyCells3, cellsOf_row, List.drop_zero, List.drop_succ_cons, List.take_succ_cons, List.take_zero] at h0 h1 h2 h3 h4
  obtain ⟨n0, e0, _, _⟩ := DataW.trod_int Tryz.underlying3 h0
  obtain ⟨n1, e1, _, _⟩ := DataW.trod_int Tryz.underlying3 h1
  obtain ⟨n2, e2, _, _⟩ := DataW.trod_int Tryz.underlying3 h2
  obtain ⟨n3, e3, _, _⟩ := DataW.trod_int Tryz.underlying3 h3
  obtain ⟨v, xs, e4, hv⟩ := open_ints_at h4
  cases e0; cases e1; cases e2; cases e3; cases e4
  exact ⟨n0, n1, n2, n3, _, xs, rfl, hv⟩
theorem craft_read {fuel : Nat} {cs : List Value} {x : DataW H × List MemPlace} (hl : cs.length = 3) (h : DataW.trod enc Tryz.prog w base (fun _ => true) held fuel 67 cs = some x) :
    ∃ n0 n1 b, cs = [.int .i64 n0, .int .i64 n1, .bool b] := by
  obtain ⟨ys, n, _, _, _, hyl, hf⟩ := DataW.trod_struct Tryz.underlying67 h
  obtain ⟨c0, c1, c2, rfl⟩ := three hl
  have key : ∀ (i : Nat), i < 3 → ∃ y, ys[i]? = some y := fun i hi => some_of_lt hyl hi
  obtain ⟨y0, e0⟩ := key 0 (by omega)
  obtain ⟨y1, e1⟩ := key 1 (by omega)
  obtain ⟨y2, e2⟩ := key 2 (by omega)
  have h0 : DataW.trod enc Tryz.prog w base (fun _ => true) held n 3 (([c0, c1, c2] : List Value).drop 0 |>.take (Tryz.prog.cellsOf 3)) = some y0 := (hf 0 _ rfl).trans e0
  have h1 : DataW.trod enc Tryz.prog w base (fun _ => true) held n 3 (([c0, c1, c2] : List Value).drop 1 |>.take (Tryz.prog.cellsOf 3)) = some y1 := (hf 1 _ rfl).trans e1
  have h2 : DataW.trod enc Tryz.prog w base (fun _ => true) held n 4 (([c0, c1, c2] : List Value).drop 2 |>.take (Tryz.prog.cellsOf 4)) = some y2 := (hf 2 _ rfl).trans e2
  simp only [keyCells3, cellsOf_bool, List.drop_zero, List.drop_succ_cons, List.take_succ_cons, List.take_zero] at h0 h1 h2
  obtain ⟨n0, e0, _, _⟩ := DataW.trod_int Tryz.underlying3 h0
  obtain ⟨n1, e1, _, _⟩ := DataW.trod_int Tryz.underlying3 h1
  obtain ⟨b, e2, _⟩ := DataW.trod_bool Tryz.underlying4 h2
  cases e0; cases e1; cases e2
  exact ⟨n0, n1, b, rfl⟩
theorem open_slopes_at {fuel : Nat} {cs : List Value} {x : DataW H × List MemPlace} (h : DataW.trod enc Tryz.prog w base (fun _ => true) held fuel 22 cs = some x) : ∃ v ss, cs = [v] ∧ SlopesAt w w.heap.size v ss := by
  rcases open_slice Tryz.underlying22 h with ⟨rfl, _⟩ | ⟨a, l, c, m, n, D, Pl, rfl, _, hl, hm, hmm, _, hf⟩
  · exact ⟨_, [], rfl, none, 0, rfl, by simp, fun hn => absurd rfl hn⟩
  · simp only [if_true] at hmm
    subst hmm
    have hml : m ≤ 9223372036854775807 := by simp only [maxLen] at hm; omega
    obtain ⟨ss, hsl, hss⟩ := list_choose (P := fun i (s : Slope) => ∃ t, IntsAt w w.heap.size t s.takes ∧ w.cell? (a.add (i * 5 + 0)) = some (.int .i64 s.now) ∧ w.cell? (a.add (i * 5 + 1)) = some (.int .i64 s.need) ∧ w.cell? (a.add (i * 5 + 2)) = some (.int .i64 s.full) ∧
        w.cell? (a.add (i * 5 + 3)) = some (.int .i64 s.size) ∧ w.cell? (a.add (i * 5 + 4)) = some t) l (fun i hi => by
      obtain ⟨cs', hc, ht⟩ := hf i (by omega)
      rw [cellsOf_slope] at hc
      obtain ⟨_, hcl, hat⟩ := World.cells?_some hc
      obtain ⟨n0, n1, n2, n3, v, xs, rfl, hv⟩ := slope_read hcl ht
      have k : ∀ j, j < 5 → w.cell? (a.add (i * 5 + j)) = ([.int .i64 n0, .int .i64 n1, .int .i64 n2, .int .i64 n3, v] : List Value)[j]? := fun j hj => by rw [← hat j hj, add_add]
      exact ⟨⟨n0, n1, n2, n3, xs⟩, v, hv, k 0 (by omega), k 1 (by omega), k 2 (by omega), k 3 (by omega), k 4 (by omega)⟩)
    refine ⟨_, ss, rfl, some a, m, by rw [hsl], by omega, fun hn => ?_⟩
    have h0 : 0 < ss.length := List.length_pos_iff.2 hn
    obtain ⟨_, _, hc0, _⟩ := hss 0 _ (List.getElem?_eq_getElem h0)
    obtain ⟨b, o, sp⟩ := a
    have hsp : sp = none := by simpa [Addr.add] using World.cell?_spot hc0
    subst hsp
    refine ⟨b, o, rfl, by simpa [Addr.add] using cell_lt hc0, fun i s hs => ?_⟩
    obtain ⟨t, ht, c0, c1, c2, c3, c4⟩ := hss i s hs
    rw [add_plain] at c0 c1 c2 c3 c4
    exact ⟨t, ht, c0, c1, c2, c3, c4⟩
theorem open_crafts_at {fuel : Nat} {cs : List Value} {x : DataW H × List MemPlace} (h : DataW.trod enc Tryz.prog w base (fun _ => true) held fuel 23 cs = some x) : ∃ v ss, cs = [v] ∧ CraftsAt w w.heap.size v ss := by
  rcases open_slice Tryz.underlying23 h with ⟨rfl, _⟩ | ⟨a, l, c, m, n, D, Pl, rfl, _, hl, hm, hmm, _, hf⟩
  · exact ⟨_, [], rfl, none, 0, rfl, by simp, fun hn => absurd rfl hn⟩
  · simp only [if_true] at hmm
    subst hmm
    have hml : m ≤ 9223372036854775807 := by simp only [maxLen] at hm; omega
    obtain ⟨ss, hsl, hss⟩ := list_choose (P := fun i (s : Craft) => w.cell? (a.add (i * 3 + 0)) = some (.int .i64 s.add) ∧ w.cell? (a.add (i * 3 + 1)) = some (.int .i64 s.price) ∧ w.cell? (a.add (i * 3 + 2)) = some (.bool s.strip)) l (fun i hi => by
      obtain ⟨cs', hc, ht⟩ := hf i (by omega)
      rw [cellsOf_craft] at hc
      obtain ⟨_, hcl, hat⟩ := World.cells?_some hc
      obtain ⟨n0, n1, b, rfl⟩ := craft_read hcl ht
      have k : ∀ j, j < 3 → w.cell? (a.add (i * 3 + j)) = ([.int .i64 n0, .int .i64 n1, .bool b] : List Value)[j]? := fun j hj => by rw [← hat j hj, add_add]
      exact ⟨⟨n0, n1, b⟩, k 0 (by omega), k 1 (by omega), k 2 (by omega)⟩)
    refine ⟨_, ss, rfl, some a, m, by rw [hsl], by omega, fun hn => ?_⟩
    have h0 : 0 < ss.length := List.length_pos_iff.2 hn
    obtain ⟨hc0, _⟩ := hss 0 _ (List.getElem?_eq_getElem h0)
    obtain ⟨b, o, sp⟩ := a
    have hsp : sp = none := by simpa [Addr.add] using World.cell?_spot hc0
    subst hsp
    refine ⟨b, o, rfl, by simpa [Addr.add] using cell_lt hc0, fun i s hs => ?_⟩
    obtain ⟨c0, c1, c2⟩ := hss i s hs
    rw [add_plain] at c0 c1 c2
    exact ⟨c0, c1, c2⟩
/-- Works that came in, by value. -/
theorem open_works {fuel : Nat} {v : Value} {x : DataW H × List MemPlace} {r : Go.Reach} {b0 : Nat} (hv : Value.okWide Tryz.prog w r b0 25 v) (h : DataW.trod enc Tryz.prog w base (fun _ => true) held fuel 25 v.cells.toList = some x) :
    ∃ sl cr m, v = .agg #[sl, cr, .int .i64 m.years, .int .i64 m.visit, .int .i64 m.hands] ∧ SlopesAt w w.heap.size sl (Wk.slopes m) ∧ CraftsAt w w.heap.size cr m.crafts := by
  obtain ⟨⟨cs⟩, rfl, hsz⟩ := okWide_struct Tryz.underlying25 hv
  rw [cellsOf_works] at hsz
  obtain ⟨c0, c1, c2, c3, c4, rfl⟩ := five (l := cs) (by simpa using hsz)
  obtain ⟨ys, n, _, _, _, hyl, hf⟩ := DataW.trod_struct Tryz.underlying25 h
  have key : ∀ (i : Nat), i < 5 → ∃ y, ys[i]? = some y := fun i hi => some_of_lt hyl hi
  obtain ⟨y0, e0⟩ := key 0 (by omega)
  obtain ⟨y1, e1⟩ := key 1 (by omega)
  obtain ⟨y2, e2⟩ := key 2 (by omega)
  obtain ⟨y3, e3⟩ := key 3 (by omega)
  obtain ⟨y4, e4⟩ := key 4 (by omega)
  have h0 : DataW.trod enc Tryz.prog w base (fun _ => true) held n 22 (([c0, c1, c2, c3, c4] : List Value).drop 0 |>.take (Tryz.prog.cellsOf 22)) = some y0 := (hf 0 _ rfl).trans e0
  have h1 : DataW.trod enc Tryz.prog w base (fun _ => true) held n 23 (([c0, c1, c2, c3, c4] : List Value).drop 1 |>.take (Tryz.prog.cellsOf 23)) = some y1 := (hf 1 _ rfl).trans e1
  have h2 : DataW.trod enc Tryz.prog w base (fun _ => true) held n 3 (([c0, c1, c2, c3, c4] : List Value).drop 2 |>.take (Tryz.prog.cellsOf 3)) = some y2 := (hf 2 _ rfl).trans e2
  have h3 : DataW.trod enc Tryz.prog w base (fun _ => true) held n 3 (([c0, c1, c2, c3, c4] : List Value).drop 3 |>.take (Tryz.prog.cellsOf 3)) = some y3 := (hf 3 _ rfl).trans e3
  have h4 : DataW.trod enc Tryz.prog w base (fun _ => true) held n 3 (([c0, c1, c2, c3, c4] : List Value).drop 4 |>.take (Tryz.prog.cellsOf 3)) = some y4 := (hf 4 _ rfl).trans e4
  simp only [keyCells3, cellsOf_slopes, cellsOf_crafts, List.drop_zero, List.drop_succ_cons, List.take_succ_cons, List.take_zero] at h0 h1 h2 h3 h4
  obtain ⟨sl, ss, e0, hs⟩ := open_slopes_at h0
  obtain ⟨cr, cc, e1, hc⟩ := open_crafts_at h1
  obtain ⟨n2, e2, _, _⟩ := DataW.trod_int Tryz.underlying3 h2
  obtain ⟨n3, e3, _, _⟩ := DataW.trod_int Tryz.underlying3 h3
  obtain ⟨n4, e4, _, _⟩ := DataW.trod_int Tryz.underlying3 h4
  cases e0; cases e1; cases e2; cases e3; cases e4
  exact ⟨_, _, ⟨ss, cc, n2, n3, n4⟩, rfl, hs, hc⟩
theorem open_rows_at {fuel : Nat} {cs : List Value} {x : DataW H × List MemPlace} (h : DataW.trod enc Tryz.prog w base (fun _ => true) held fuel 39 cs = some x) : ∃ v xss, cs = [v] ∧ RowsAt w w.heap.size v xss := by
  rcases open_slice1 Tryz.underlying39 (by kernel_rfl) h with ⟨rfl, _⟩ | ⟨a, l, c, m, n, V, D, Pl, rfl, _, hl, hm, hmm, _, hx⟩
  · exact ⟨_, [], rfl, none, 0, rfl, by simp, fun hn => absurd rfl hn⟩
  · simp only [if_true] at hmm
    have hml : c ≤ 9223372036854775807 := by simp only [maxLen] at hm; omega
    obtain ⟨xss, hsl, hss⟩ := list_choose (P := fun i (xs : List Int) => ∃ u, w.cell? (a.add i) = some u ∧ IntsAt w w.heap.size u xs) l (fun i hi => by
      obtain ⟨h1, h2⟩ := hx i (by omega)
      obtain ⟨v, xs, e, hv⟩ := open_ints_at h2
      simp at e
      exact ⟨xs, v, by rw [h1, e], hv⟩)
    refine ⟨_, xss, rfl, some a, c, by rw [hsl], by omega, fun hn => ?_⟩
    have h0 : 0 < xss.length := List.length_pos_iff.2 hn
    obtain ⟨_, hc0, _⟩ := hss 0 _ (List.getElem?_eq_getElem h0)
    obtain ⟨b, o, sp⟩ := a
    have hsp : sp = none := by simpa [Addr.add] using World.cell?_spot hc0
    subst hsp
    refine ⟨b, o, rfl, by simpa [Addr.add] using cell_lt hc0, fun i xs hs => ?_⟩
    obtain ⟨u, h1, h2⟩ := hss i xs hs
    rw [add_plain] at h1
    exact ⟨u, h1, h2⟩
end
section
variable {H : Type} {enc : TypeId × Value → H} {w : World} {base : Nat} {held : Bool}
theorem cellsOf_worth : Tryz.prog.cellsOf 110 = 3 := by kernel_rfl
theorem worth_read {fuel : Nat} {cs : List Value} {x : DataW H × List MemPlace} (hl : cs.length = 3) (h : DataW.trod enc Tryz.prog w base (fun _ => true) held fuel 110 cs = some x) :
    ∃ n0 v xs n1, cs = [.int .i64 n0, v, .int .i64 n1] ∧ IntsAt w w.heap.size v xs := by
  obtain ⟨ys, n, _, _, _, hyl, hf⟩ := DataW.trod_struct Tryz.underlying110 h
  obtain ⟨c0, c1, c2, rfl⟩ := three hl
  have key : ∀ (i : Nat), i < 3 → ∃ y, ys[i]? = some y := fun i hi => some_of_lt hyl hi
  obtain ⟨y0, e0⟩ := key 0 (by omega)
  obtain ⟨y1, e1⟩ := key 1 (by omega)
  obtain ⟨y2, e2⟩ := key 2 (by omega)
  have h0 : DataW.trod enc Tryz.prog w base (fun _ => true) held n 3 (([c0, c1, c2] : List Value).drop 0 |>.take (Tryz.prog.cellsOf 3)) = some y0 := (hf 0 _ rfl).trans e0
  have h1 : DataW.trod enc Tryz.prog w base (fun _ => true) held n 35 (([c0, c1, c2] : List Value).drop 1 |>.take (Tryz.prog.cellsOf 35)) = some y1 := (hf 1 _ rfl).trans e1
  have h2 : DataW.trod enc Tryz.prog w base (fun _ => true) held n 3 (([c0, c1, c2] : List Value).drop 2 |>.take (Tryz.prog.cellsOf 3)) = some y2 := (hf 2 _ rfl).trans e2
  simp only [keyCells3, cellsOf_row, List.drop_zero, List.drop_succ_cons, List.take_succ_cons, List.take_zero] at h0 h1 h2
  obtain ⟨n0, e0, _, _⟩ := DataW.trod_int Tryz.underlying3 h0
  obtain ⟨v, xs, e1, hv⟩ := open_ints_at h1
  obtain ⟨n1, e2, _, _⟩ := DataW.trod_int Tryz.underlying3 h2
  cases e0; cases e1; cases e2
  exact ⟨n0, _, xs, n1, rfl, hv⟩
theorem open_worths_at {fuel : Nat} {cs : List Value} {x : DataW H × List MemPlace} (h : DataW.trod enc Tryz.prog w base (fun _ => true) held fuel 47 cs = some x) : ∃ v ws, cs = [v] ∧ WorthsAt w w.heap.size v ws := by
  rcases open_slice Tryz.underlying47 h with ⟨rfl, _⟩ | ⟨a, l, c, m, n, D, Pl, rfl, _, hl, hm, hmm, _, hf⟩
  · exact ⟨_, [], rfl, none, 0, rfl, by simp, fun hn => absurd rfl hn⟩
  · simp only [if_true] at hmm
    subst hmm
    have hml : m ≤ 9223372036854775807 := by simp only [maxLen] at hm; omega
    obtain ⟨ss, hsl, hss⟩ := list_choose (P := fun i (s : Wo) => ∃ t, w.cell? (a.add (i * 3 + 0)) = some (.int .i64 s.y) ∧ w.cell? (a.add (i * 3 + 1)) = some t ∧ w.cell? (a.add (i * 3 + 2)) = some (.int .i64 s.c) ∧ IntsAt w w.heap.size t s.th) l (fun i hi => by
      obtain ⟨cs', hc, ht⟩ := hf i (by omega)
      rw [cellsOf_worth] at hc
      obtain ⟨_, hcl, hat⟩ := World.cells?_some hc
      obtain ⟨n0, v, xs, n1, rfl, hv⟩ := worth_read hcl ht
      have k : ∀ j, j < 3 → w.cell? (a.add (i * 3 + j)) = ([.int .i64 n0, v, .int .i64 n1] : List Value)[j]? := fun j hj => by rw [← hat j hj, add_add]
      exact ⟨⟨n0, xs, n1⟩, v, k 0 (by omega), k 1 (by omega), k 2 (by omega), hv⟩)
    refine ⟨_, ss, rfl, some a, m, by rw [hsl], by omega, fun hn => ?_⟩
    have h0 : 0 < ss.length := List.length_pos_iff.2 hn
    obtain ⟨_, hc0, _⟩ := hss 0 _ (List.getElem?_eq_getElem h0)
    obtain ⟨b, o, sp⟩ := a
    have hsp : sp = none := by simpa [Addr.add] using World.cell?_spot hc0
    subst hsp
    refine ⟨b, o, rfl, by simpa [Addr.add] using cell_lt hc0, fun i s hs => ?_⟩
    obtain ⟨t, c0, c1, c2, ht⟩ := hss i s hs
    rw [add_plain] at c0 c1 c2
    exact ⟨t, c0, c1, c2, ht⟩
end
end Go.Proofs.YtcbhldfipfcjaaaGreatDoor
