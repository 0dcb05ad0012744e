/- values; put into a bag. -/
import Derived.Test.YtnbnhcoaggpmaaaMo

namespace Go.Proofs.Ytnbnhcoaggpmaaa
open Go Go.RowKit Go.Shelf
set_option maxRecDepth 100000

theorem run_store_func (P : Program) (w : World) (a : Addr) (m : Mode) (f : Fn) (x y : Array Value) : (store a (.func f x y) m).run P w = stored P w a (.func f x y) m := run_store P w a _ m rfl
attribute [local go_sem] run_store_func
def valueV (mb xb vb : Nat) : Value := .func (.func 55) #[] #[.pointer (some ⟨mb, 0, none⟩), .pointer (some ⟨xb, 0, none⟩), .pointer (some ⟨vb, 0, none⟩)]
theorem memo_made (m : Wk) (T : List St) (w : World) : Memo m T w.heap.size (w.alloc (.map #[] 0)) [] :=
  ⟨by have h : memoF m [] = fun _ => none := by funext t; simp [memoF]
      rw [h]; exact StMap.made w, List.nodup_nil, fun _ h => by cases h⟩

theorem values_calls (m : Wk) (T : List St) (sA cA mA : Option Addr) (sc cn cc mc : Nat) (w : World) (hsl : SlopesAt w w.heap.size (.slice sA m.slopes.length sc) m.slopes) (hmc : McAt w w.heap.size (.slice mA m.crafts.length mc) m.crafts) :
    Calls Try.prog 22 #[.agg #[.slice sA m.slopes.length sc, .slice cA cn cc, .int .i64 m.years, .int .i64 m.visit, .int .i64 m.hands, .slice mA m.crafts.length mc]] w
      fun e w' => ∃ mb xb vb kb, e = .returned (valueV mb xb vb) ∧ Env m T w.heap.size mb xb vb kb sA cA mA sc cn cc mc w' ∧ Below w.heap.size w w' := by
  have hmm := @run_makeMap Try.prog
  have HSL := Lib.hid hsl
  have HMC := Lib.hid hmc
  clear hsl hmc
  obtain ⟨W1, hW1⟩ : ∃ W1, W1 = w.alloc (.cells #[.slice sA m.slopes.length sc, .slice cA cn cc, .int .i64 m.years, .int .i64 m.visit, .int .i64 m.hands, .slice mA m.crafts.length mc] 75) := ⟨_, rfl⟩
  obtain ⟨W2, hW2⟩ : ∃ W2, W2 = W1.alloc (.map #[] 0) := ⟨_, rfl⟩
  obtain ⟨W3, hW3⟩ : ∃ W3, W3 = W2.alloc (.cells #[.map (some W1.heap.size)] 120) := ⟨_, rfl⟩
  obtain ⟨W4, hW4⟩ : ∃ W4, W4 = W3.alloc (.cells #[valueV w.heap.size W2.heap.size W3.heap.size] 84) := ⟨_, rfl⟩
  have b1 : Below w.heap.size w W1 := by rw [hW1]; exact below1 _ _
  have b2 : Below W1.heap.size W1 W2 := by rw [hW2]; exact below1 _ _
  have b3 : Below W2.heap.size W2 W3 := by rw [hW3]; exact below1 _ _
  have b4 : Below W3.heap.size W3 W4 := by rw [hW4]; exact below1 _ _
  have z1 : W1.heap.size = w.heap.size + 1 := by rw [hW1]; simp
  have z2 : W2.heap.size = w.heap.size + 1 + 1 := by rw [hW2]; simp [z1]
  have z3 : W3.heap.size = w.heap.size + 1 + 1 + 1 := by rw [hW3]; simp [z2]
  have g4 : W4.heap[W3.heap.size]? = some (.cells #[valueV w.heap.size W2.heap.size W3.heap.size] 84 (0, 0)) := by rw [hW4]; exact heap_alloc_self _ _
  have g3 : W4.heap[W2.heap.size]? = some (.cells #[.map (some W1.heap.size)] 120 (0, 0)) := blk_below b4 (by rw [hW3]; exact heap_alloc_self _ _) (by omega)
  have g2 : Memo m T W1.heap.size W4 [] := by
    have := memo_made m T W1
    rw [← hW2] at this
    exact this.kept ((b4.block _ (by omega)).trans (b3.block _ (by omega)))
  have g1 : W4.heap[w.heap.size]? = some (.cells #[.slice sA m.slopes.length sc, .slice cA cn cc, .int .i64 m.years, .int .i64 m.visit, .int .i64 m.hands, .slice mA m.crafts.length mc] 75 (0, 0)) :=
    blk_below b4 (blk_below b3 (blk_below b2 (by rw [hW1]; exact heap_alloc_self _ _) (by omega)) (by omega)) (by omega)
  have b0 : Below w.heap.size w W4 := ((b1.trans (b2.mono (by omega))).trans (b3.mono (by omega))).trans (b4.mono (by omega))
  have hWW : W4 = (((w.alloc (.cells #[.slice sA m.slopes.length sc, .slice cA cn cc, .int .i64 m.years, .int .i64 m.visit, .int .i64 m.hands, .slice mA m.crafts.length mc] 75)).alloc (.map #[] 0)).alloc (.cells #[.map (some (w.heap.size + 1))] 120)).alloc (.cells #[valueV w.heap.size (w.heap.size + 1 + 1) (w.heap.size + 1 + 1 + 1)] 84) := by
    rw [hW4, z3, z2, hW3, z1, hW2, hW1]
  have HW := Lib.hid hWW
  have G1 := Lib.hid g1
  have G2 := Lib.hid g2
  have G3 := Lib.hid g3
  have G4 := Lib.hid g4
  clear hWW hW1 hW2 hW3 hW4 g1 g2 g3 g4
  go_enter Try.func22, Try.ntmps22
  go_wp2
  go_ret
  have hw := HW.out
  unfold valueV at hw
  rw [← hw]
  refine ⟨w.heap.size, W2.heap.size, W3.heap.size, W1.heap.size, by rw [z2, z3]; rfl, ⟨?_, ?_, ?_, ?_, ?_, ?_, by omega⟩, ?_⟩
  · exact HSL.out.below b0
  · exact HMC.out.below b0
  · exact G1.out
  · exact G3.out
  · exact G4.out
  · exact ⟨[], G2.out⟩
  · exact b0
end Go.Proofs.Ytnbnhcoaggpmaaa
