/- Clone, begin, first, all and modelOf. -/
import Derived.Test.YtccplobhfokcgaaMd
namespace Go.Proofs.Ytccplobhfokcgaa
open Go Go.RowKit Go.Shelf
set_option maxRecDepth 100000

theorem infoInt : (Try.prog.info? 3).map (fun i => (i.zero, i.size, i.bytes)) = some (some (.int .i64 0), 1, 8) := by kernel_rfl

theorem clone_calls (v : Value) (xs : List Int) (w : World) (n0 : Nat) (hv : IntsAt w n0 v xs) (hxs : xs.length ≤ 1000000) :
    Calls Try.prog 53 #[v] w fun e w' => ∃ v', e = .returned v' ∧ w'.ownsRow w.heap.size 3 1 v' xs.length (xs.map (Value.int .i64)) ∧ Below w.heap.size w w' := by
  obtain ⟨A, c, rfl, hl, hr⟩ := hv
  cases A with
  | none =>
    have hx : xs = [] := by
      cases xs with
      | nil => rfl
      | cons x xs => obtain ⟨b, o, e, _⟩ := hr (by simp); cases e
    subst hx
    have heq := fun w' => Lib.run_eql_slice_nil (P := Try.prog) w' 36 3 none 0 c 0 0 Try.underlying36
    go_enter Try.func53, Try.ntmps53
    go_wp2
    go_ret
    exact ⟨_, rfl, ⟨rfl, .inl ⟨rfl, rfl⟩⟩, Below.refl _ _⟩
  | some ad =>
    have heq := fun w' => Lib.run_eql_slice_nil (P := Try.prog) w' 36 3 (some ad) xs.length c 0 0 Try.underlying36
    obtain ⟨i0, hi, hz0, hz1, hz2⟩ := info_parts infoInt
    go_enter Try.func53, Try.ntmps53
    have hown : (w.alloc (.cells #[] 3)).ownsRow w.heap.size 3 1 (.slice (some ⟨w.heap.size, 0, none⟩) 0 0) 0 [] :=
      ⟨rfl, .inr ⟨w.heap.size, 0, #[], rfl, Nat.le_refl _, heap_alloc_self _ _, Nat.le_refl _, by simp [maxLen], rfl, rfl⟩⟩
    simp only [List.length_map] at hl
    have hnews : ∀ j u, (xs.map (Value.int .i64))[j]? = some u → (w.alloc (.cells #[] 3)).cell? (ad.add j) = some u := by
      intro j u hu
      obtain ⟨b, o, e, hlt, hc⟩ := hr (by intro e; simp [e] at hu)
      cases e
      have h1 := hc j u hu
      rw [show (⟨b, o, none⟩ : Addr).add j = ⟨b, o + j, none⟩ by unfold Addr.add; split <;> simp_all]
      exact ((below1 w (.cells #[] 3)).cell (p := ⟨b, o + j, none⟩) (World.block_lt_of_cell? w _ h1)).trans h1
    have HN := Lib.hid hnews
    clear hr hnews
    go_wp2_with (at_builtin; (refine wpList_append_own _ rfl _ _ 36 rfl w.heap.size 3 i0 (.int .i64 0) 1 8 Try.underlying36 hi hz0 hz1 hz2 rfl (by decide) _ 0 [] rfl hown ad xs.length c (xs.map (Value.int .i64)) rfl (by simp) HN.out (by simp [Value.oneCell']) (by simp only [maxLen]; omega) (by omega) (by simp) ?_); intro v' w1 hown' hg _)
    go_ret
    refine ⟨v', rfl, by simpa using hown', (below1 w (.cells #[] 3)).grown hg (by simp) (fun k hk => by cases hk; exact Nat.le_refl _)⟩

/-- The thicknesses of a state, as many as there are slopes. -/
def thicks (m : Wk) (s : St) : List Int := (List.range m.slopes.length).map s.get
theorem all_calls (m : Wk) (s : St) (sA : Option Addr) (sc : Nat) (v1 v5 : Value) (y v h : Int) (w : World) (hm : m.slopes.length ≤ 4) :
    Calls Try.prog 43 #[.agg #[.slice sA m.slopes.length sc, v1, .int .i64 y, .int .i64 v, .int .i64 h, v5], .agg #[.int .i64 s.y, .int .i64 s.a, .int .i64 s.b, .int .i64 s.c, .int .i64 s.d]] w
      fun e w' => ∃ v', e = .returned v' ∧ w'.ownsRow w.heap.size 3 1 v' (thicks m s).length ((thicks m s).map (Value.int .i64)) ∧ Below w.heap.size w w' := by
  have hn4 : (m.slopes.length : Int) ≤ 4 := by omega
  have hlen : (thicks m s).length = m.slopes.length := by simp [thicks]
  have hcl : ∀ w1 : World, w1.heap[w.heap.size + 1]? = some (.cells #[.int .i64 s.y, .int .i64 s.a, .int .i64 s.b, .int .i64 s.c, .int .i64 s.d] 79) →
      Calls Try.prog 53 #[.slice (some ⟨w.heap.size + 1, 1, none⟩) m.slopes.length 4] w1 fun e w' => ∃ v', e = .returned v' ∧ w'.ownsRow w1.heap.size 3 1 v' (thicks m s).length ((thicks m s).map (Value.int .i64)) ∧ Below w1.heap.size w1 w' := by
    intro w1 h1
    refine clone_calls _ (thicks m s) w1 w1.heap.size ⟨some ⟨w.heap.size + 1, 1, none⟩, 4, by rw [hlen], by simp; omega, fun _ => ⟨_, _, rfl, lt_blk h1, fun j u hu => ?_⟩⟩ (by omega)
    rw [cell_blk h1]
    simp only [List.getElem?_map, Option.map_eq_some_iff] at hu
    obtain ⟨x, hx, rfl⟩ := hu
    have hj : j < m.slopes.length := by
      rcases Nat.lt_or_ge j m.slopes.length with h | h
      · exact h
      · rw [List.getElem?_eq_none (by omega)] at hx; cases hx
    simp only [thicks, List.getElem?_map, List.getElem?_range hj, Option.map_some, Option.some.injEq] at hx
    subst hx
    have : j < 4 := by omega
    match j, this with
    | 0, _ => rfl
    | 1, _ => rfl
    | 2, _ => rfl
    | 3, _ => rfl
  have HC := Lib.hid hcl; clear hcl
  have HL := Lib.hid hlen; clear hlen
  have HF : Hid (∀ (e : Ending) (w' : World), (∃ v', e = .returned v' ∧ w'.ownsRow (w.heap.size + 2) 3 1 v' (thicks m s).length ((thicks m s).map (Value.int .i64)) ∧ Below w.heap.size w w') → ∃ v', e = .returned v' ∧ w'.ownsRow w.heap.size 3 1 v' (thicks m s).length ((thicks m s).map (Value.int .i64)) ∧ Below w.heap.size w w') := by
    rintro e w' ⟨v', he, ho, hb⟩
    exact ⟨v', he, own_mono ho (by omega), hb⟩
  go_enter Try.func43, Try.ntmps43
  go_wp2_with fail
  refine (HC.out _ ?_).mono ?_
  · simpa using heap_alloc_self (w.alloc _) _
  rintro e w' ⟨v', rfl, ho, hb⟩
  go_wp2_with fail
  go_ret
  refine HF.out _ _ ⟨v', rfl, by simpa using ho, ?_⟩
  exact ((below1 _ _).alloc (by simp) _).trans (hb.mono (by simp; omega))
end Go.Proofs.Ytccplobhfokcgaa
