/- The rows of works in order: plain lists; what a change of worlds keeps. -/
import Derived.Test.YtccplobhfokcgaaMg
namespace Go.Proofs.Ytccplobhfokcgaa
open Go Go.RowKit Go.Shelf

/-! ### Worlds that part in some blocks alone -/
structure Bel (S : Nat → Prop) (w w' : World) : Prop where
  os : w'.os = w.os
  tape : w'.tape = w.tape
  output : w'.output = w.output
  size : w.heap.size ≤ w'.heap.size
  block : ∀ k, k < w.heap.size → ¬ S k → w'.heap[k]? = w.heap[k]?
theorem Bel.refl (S : Nat → Prop) (w : World) : Bel S w w := ⟨rfl, rfl, rfl, Nat.le_refl _, fun _ _ _ => rfl⟩
theorem Bel.trans {S : Nat → Prop} {a b c : World} (h : Bel S a b) (k : Bel S b c) : Bel S a c :=
  ⟨k.os.trans h.os, k.tape.trans h.tape, k.output.trans h.output, Nat.le_trans h.size k.size, fun i hi hs => (k.block i (Nat.lt_of_lt_of_le hi h.size) hs).trans (h.block i hi hs)⟩
theorem Bel.mono {S S' : Nat → Prop} {a b : World} (h : Bel S a b) (hs : ∀ k, k < a.heap.size → S k → S' k) : Bel S' a b := ⟨h.os, h.tape, h.output, h.size, fun i hi hn => h.block i hi fun hk => hn (hs i hi hk)⟩
theorem Bel.of_below {S : Nat → Prop} {a b : World} (h : Below a.heap.size a b) : Bel S a b := ⟨h.os, h.tape, h.output, h.size, fun i hi _ => h.block i hi⟩
theorem Bel.below {S : Nat → Prop} {a b : World} (h : Bel S a b) {n : Nat} (hn : n ≤ a.heap.size) (hs : ∀ k, S k → n ≤ k) : Below n a b :=
  ⟨h.os, h.tape, h.output, h.size, fun i hi => h.block i (Nat.lt_of_lt_of_le hi hn) fun hk => by have := hs i hk; omega⟩
theorem Bel.alloc {S : Nat → Prop} {a b : World} (h : Bel S a b) (o : Obj) : Bel S a (b.alloc o) := h.trans (Bel.of_below (below1 b o))
theorem Bel.drew {S : Nat → Prop} {a b : World} (h : Bel S a b) : Bel S a b.drew := ⟨h.os, h.tape, h.output, h.size, h.block⟩
theorem Bel.setCell {S : Nat → Prop} {a b : World} (h : Bel S a b) {p : Addr} (hp : p.block < a.heap.size → S p.block) (u : Value) : Bel S a (b.setCell p u) :=
  ⟨h.os, h.tape, h.output, by simpa [World.setCell] using h.size, fun i hi hn => (Below.heap_setCell _ _ _ _ (fun e => hn (by subst e; exact hp hi))).trans (h.block i hi hn)⟩
theorem Bel.putObj {S : Nat → Prop} {a b : World} (h : Bel S a b) {l : Nat} (hl : l < a.heap.size → S l) (o : Obj) : Bel S a (b.putObj l o) :=
  ⟨h.os, h.tape, h.output, by simpa using h.size, fun i hi hn => (World.putObj_heap_other (fun e => hn (by subst e; exact hl hi))).trans (h.block i hi hn)⟩
theorem Bel.heap {S : Nat → Prop} {a b : World} (h : Bel S a b) {k : Nat} {o : Obj} (hk : a.heap[k]? = some o) (hn : ¬ S k) : b.heap[k]? = some o := (h.block k (lt_blk hk) hn).trans hk

/-! ### All rows, by their numbers -/
/-- The digits of k in base c + 1, each less one. -/
def unval (c : Nat) : Nat → Nat → List Int
  | 0, _ => []
  | n + 1, k => unval c n (k / (c + 1)) ++ [((k % (c + 1) : Nat) : Int) - 1]
theorem unval_length (c : Nat) : ∀ n k, (unval c n k).length = n
  | 0, _ => rfl
  | n + 1, k => by simp [unval, unval_length c n]
theorem unval_each (c : Nat) : ∀ n k, ∀ x ∈ unval c n k, -1 ≤ x ∧ x < c
  | 0, _, x, hx => by simp [unval] at hx
  | n + 1, k, x, hx => by
    simp only [unval, List.mem_append, List.mem_singleton] at hx
    rcases hx with hx | rfl
    · exact unval_each c n _ x hx
    · have := Nat.mod_lt k (show 0 < c + 1 by omega)
      omega
theorem unval_zero (c : Nat) : ∀ n, unval c n 0 = List.replicate n (-1)
  | 0 => rfl
  | n + 1 => by simp [unval, unval_zero c n, List.replicate_succ']
/-- The first digits and the last t ones. -/
theorem unval_split (c j : Nat) : ∀ t k, ∃ tl : List Int, tl.length = t ∧ unval c (j + t) k = unval c j (k / (c + 1) ^ t) ++ tl
  | 0, k => ⟨[], rfl, by simp⟩
  | t + 1, k => by
    obtain ⟨tl, h1, h2⟩ := unval_split c j t (k / (c + 1))
    refine ⟨tl ++ [((k % (c + 1) : Nat) : Int) - 1], by simp [h1], ?_⟩
    rw [show j + (t + 1) = (j + t) + 1 by omega, unval, h2, Nat.div_div_eq_div_mul, Nat.pow_succ, Nat.mul_comm ((c + 1) ^ t), List.append_assoc]
theorem unval_mul (c j : Nat) : ∀ t q, unval c (j + t) (q * (c + 1) ^ t) = unval c j q ++ List.replicate t (-1)
  | 0, q => by simp
  | t + 1, q => by
    rw [show j + (t + 1) = (j + t) + 1 by omega, unval, Nat.pow_succ, ← Nat.mul_assoc, Nat.mul_div_cancel _ (by omega), Nat.mul_mod_left, unval_mul c j t q, List.append_assoc]
    simp [List.replicate_succ']
theorem unval_succ_last (c n k : Nat) (h : k % (c + 1) < c) : unval c (n + 1) (k + 1) = unval c n (k / (c + 1)) ++ [((k % (c + 1) : Nat) : Int)] := by
  have h1 : (k + 1) / (c + 1) = k / (c + 1) := by
    rw [Nat.succ_div]; split
    · rename_i hd
      have := Nat.mod_eq_zero_of_dvd hd
      rw [Nat.add_mod] at this
      rcases Nat.eq_zero_or_pos c with rfl | hc
      · omega
      · rw [Nat.mod_eq_of_lt (show 1 < c + 1 by omega), Nat.mod_eq_of_lt (by omega)] at this; omega
    · rfl
  have h2 : (k + 1) % (c + 1) = k % (c + 1) + 1 := by
    rcases Nat.eq_zero_or_pos c with rfl | hc
    · omega
    · rw [Nat.add_mod, Nat.mod_eq_of_lt (show 1 < c + 1 by omega), Nat.mod_eq_of_lt (by omega)]
  rw [unval, h1, h2]; simp
/-- How many rows there are. -/
def rowsN (m : Wk) : Nat := (m.crafts.length + 1) ^ m.slopes.length
def rowK (m : Wk) (k : Nat) : List Int := unval m.crafts.length m.slopes.length k
/-- The rows that may be, among the first k. -/
def rowsTo (m : Wk) (k : Nat) : List (List Int) := ((List.range k).map (rowK m)).filter (mayS m)
def rowsS (m : Wk) : List (List Int) := rowsTo m (rowsN m)
theorem rowsTo_succ (m : Wk) (k : Nat) : rowsTo m (k + 1) = rowsTo m k ++ if mayS m (rowK m k) then [rowK m k] else [] := by
  simp only [rowsTo, List.range_succ, List.map_append, List.filter_append, List.map_cons, List.map_nil, List.filter_cons, List.filter_nil]
theorem rowsTo_prefix (m : Wk) {k n : Nat} (h : k ≤ n) : ∃ t, rowsTo m n = rowsTo m k ++ t := by
  induction n with
  | zero => obtain rfl : k = 0 := by omega
            exact ⟨[], by simp⟩
  | succ n ih =>
    rcases Nat.lt_or_ge n k with h1 | h1
    · obtain rfl : k = n + 1 := by omega
      exact ⟨[], by simp⟩
    · obtain ⟨t, ht⟩ := ih h1
      exact ⟨_, by rw [rowsTo_succ, ht, List.append_assoc]⟩
theorem rowK_ok (m : Wk) (k : Nat) : RowOk m (rowK m k) := ⟨unval_length _ _ _, unval_each _ _ _⟩
end Go.Proofs.Ytccplobhfokcgaa
