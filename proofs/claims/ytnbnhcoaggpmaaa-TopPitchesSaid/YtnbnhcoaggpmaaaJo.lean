/- What a season takes of a face; great roofs. -/
import Derived.Test.YtnbnhcoaggpmaaaJn

namespace Go.Proofs.Ytnbnhcoaggpmaaa
open Go Go.RowKit Go.Shelf
set_option maxRecDepth 100000
attribute [local go_sem] Oper.semAt_some

theorem win_calls (n l h : Int) (w : World) : Calls Try.prog 17 #[.int .i64 n, .int .i64 l, .int .i64 h] w fun e w' => e = .returned (.bool (decide (l ≤ n ∧ n ≤ h))) ∧ w' = w := by
  go_enter Try.func17, Try.ntmps17
  by_cases h1 : l ≤ n
  · by_cases h2 : n ≤ h
    · go_wp2_with fail
      go_ret
      exact ⟨by simp [h1, h2], rfl⟩
    · go_wp2_with fail
      go_ret
      exact ⟨by simp; omega, rfl⟩
  · go_wp2_with fail
    go_ret
    exact ⟨by simp; omega, rfl⟩
theorem spans_calls (a b m : Int) (w : World) : Calls Try.prog 16 #[.agg #[.int .i64 a, .int .i64 b], .int .i64 m] w fun e w' => e = .returned (.bool (decide (0 ≤ a ∧ a ≤ b ∧ b ≤ m))) ∧ Below w.heap.size w w' := by
  go_enter Try.func16, Try.ntmps16
  by_cases h1 : 0 ≤ a
  · by_cases h2 : a ≤ b
    · by_cases h3 : b ≤ m
      · go_wp2_with fail
        go_ret
        exact ⟨by simp [h1, h2, h3], below1 _ _⟩
      · go_wp2_with fail
        go_ret
        exact ⟨by simp; omega, below1 _ _⟩
    · go_wp2_with fail
      go_ret
      exact ⟨by simp; omega, below1 _ _⟩
  · go_wp2_with fail
    go_ret
    exact ⟨by simp; omega, below1 _ _⟩
/-- What a season takes. -/
def rateOk (lo hi rise run shade moss : Int) : Prop := (0 ≤ lo ∧ lo ≤ hi ∧ hi ≤ 10000) ∧ (1 ≤ rise ∧ rise ≤ 100) ∧ (1 ≤ run ∧ run ≤ 100) ∧ (0 ≤ shade ∧ shade ≤ 100) ∧ (0 ≤ moss ∧ moss ≤ 100)
instance (lo hi rise run shade moss : Int) : Decidable (rateOk lo hi rise run shade moss) := by unfold rateOk; infer_instance
def rateS (lo hi rise run shade moss : Int) : Int × Int × Int :=
  if rateOk lo hi rise run shade moss then (Int.tdiv (lo * ((100 + shade) * (rise + run))) (200 * rise), Int.tdiv (hi * ((100 + shade) * (rise + run)) * (100 + moss) + 20000 * rise - 1) (20000 * rise), 0) else (0, 0, 1)
theorem results_rate {tmps : Array Value} {w : World} {b0 : Nat} {cs : Array Value} {y : Int} (h0 : tmps.getD 10 undef = .pointer (some ⟨b0, 0, none⟩)) (h1 : tmps.getD 11 undef = .int .i64 y)
    (g0 : w.heap[b0]? = some (.cells cs 27 (0, 0))) (hcs : cs.size = 2) : (results Try.f7 tmps).run Try.prog w = .ok (.tuple #[.agg cs, .int .i64 y]) w := by
  have hi : (Try.prog.info? 27).map (·.size) = some 2 := by kernel_rfl
  have e0 := run_loadVar_row (P := Try.prog) w b0 27 27 cs (0, 0) _ g0 Try.underlying27 (by rfl) (by rw [hcs]; exact hi)
  have hr : Func.results Try.f7 = #[.cell 10 27, .tmp 11] := by rfl
  have h0' : tmps[10]?.getD undef = .pointer (some ⟨b0, 0, none⟩) := by simpa using h0
  have h1' : tmps[11]?.getD undef = .int .i64 y := by simpa using h1
  simp [results, hr, h0', h1', asAddr, e0]
def RateP (r : Int × Int × Int) (w : World) (e : Ending) (w' : World) : Prop := e = .returned (.tuple #[.agg #[.int .i64 r.1, .int .i64 r.2.1], .int .i64 r.2.2]) ∧ Below w.heap.size w w'
theorem spanSet2 {w W : World} {u0 u1 : Value} (g : W.heap[w.heap.size + 1]? = some (.cells #[u0, u1] 27 (0, 0))) (hb : Below w.heap.size w W) (x y : Int) :
    ((W.setCell ⟨w.heap.size + 1, 0, none⟩ (.int .i64 x)).setCell ⟨w.heap.size + 1, 1, none⟩ (.int .i64 y)).heap[w.heap.size + 1]? = some (.cells #[.int .i64 x, .int .i64 y] 27 (0, 0)) ∧ Below w.heap.size w ((W.setCell ⟨w.heap.size + 1, 0, none⟩ (.int .i64 x)).setCell ⟨w.heap.size + 1, 1, none⟩ (.int .i64 y)) :=
  ⟨(heap_set (heap_set g 0 _) 1 _).trans rfl, (hb.setCell (p := ⟨w.heap.size + 1, 0, none⟩) (Nat.le_succ _) _).setCell (p := ⟨w.heap.size + 1, 1, none⟩) (Nat.le_succ _) _⟩
set_option maxHeartbeats 4000000 in
theorem rate_calls (lo hi rise run shade moss : Int) (w : World) : Calls Try.prog 7 #[.agg #[.int .i64 lo, .int .i64 hi], .int .i64 rise, .int .i64 run, .int .i64 shade, .int .i64 moss] w (RateP (rateS lo hi rise run shade moss) w) := by
  obtain ⟨W, hW⟩ : ∃ W, W = (w.alloc (.cells #[.int .i64 lo, .int .i64 hi] 29)).alloc (.cells #[.int .i64 0, .int .i64 0] 27) := ⟨_, rfl⟩
  have hb : Below w.heap.size w W := by rw [hW]; exact two_allocs _ _ _
  have hg0 : W.heap[w.heap.size]? = some (.cells #[.int .i64 lo, .int .i64 hi] 29 (0, 0)) := by rw [hW]; exact blk_below (below1 _ _) (heap_alloc_self _ _) (by simp)
  have hg1 : W.heap[w.heap.size + 1]? = some (.cells #[.int .i64 0, .int .i64 0] 27 (0, 0)) := by rw [hW]; exact heap_alloc_two _ _ _
  have HW := Lib.hid (And.intro hb (And.intro hg0 hg1))
  clear hb hg0 hg1
  go_enter Try.func7, Try.ntmps7
  go_wp2_with fail
  rw [← hW]
  clear hW
  refine (spans_calls lo hi 10000 W).mono ?_
  rintro e W1 ⟨rfl, hb1⟩
  have hb' := HW.out.1.trans (hb1.mono HW.out.1.size)
  have g0 := blk_below hb1 HW.out.2.1 (lt_blk HW.out.2.1)
  have g1 := blk_below hb1 HW.out.2.2 (lt_blk HW.out.2.2)
  have c0 : W1.cell? ⟨w.heap.size, 0, none⟩ = some (.int .i64 lo) := (cell_blk g0 0).trans rfl
  have c1 : W1.cell? ⟨w.heap.size, 1, none⟩ = some (.int .i64 hi) := (cell_blk g0 1).trans rfl
  have d0 : W1.cell? ⟨w.heap.size + 1, 0, none⟩ = some (.int .i64 0) := (cell_blk g1 0).trans rfl
  have d1 : W1.cell? ⟨w.heap.size + 1, 1, none⟩ = some (.int .i64 0) := (cell_blk g1 1).trans rfl
  have fr := frozen_blk g1
  have HB := Lib.hid (spanSet2 g1 hb' 0 0)
  have HG := Lib.hid (And.intro g1 hb')
  clear hb1 hb' g0 g1
  by_cases hs : ¬ (0 ≤ lo ∧ lo ≤ hi ∧ hi ≤ 10000)
  · rw [decide_eq_false hs]
    have hr : rateS lo hi rise run shade moss = (0, 0, 1) := by unfold rateS; rw [if_neg (fun h => hs h.1)]
    go_wp2_with fail
    first
      | exact bodyPost_ret (results_rate (by rfl) (by rfl) HG.out.1 rfl) (by rfl) ⟨by rw [hr], HG.out.2⟩
      | exact bodyPost_ret (results_rate (by rfl) (by rfl) HB.out.1 rfl) (by rfl) ⟨by rw [hr], HB.out.2⟩
  · skip
    have hs2 := Classical.not_not.1 hs
    rw [decide_eq_true hs2]
    go_wp2_with fail
    refine (win_calls _ _ _ W1).mono ?_
    rintro e W2 ⟨rfl, hW2⟩
    replace hW2 := hW2.symm
    subst hW2
    by_cases ht2 : ¬ (1 ≤ rise ∧ rise ≤ 100)
    · rw [decide_eq_false ht2]
      have hr : rateS lo hi rise run shade moss = (0, 0, 1) := by unfold rateS; rw [if_neg (fun h => ht2 h.2.1)]
      go_wp2_with fail
      first
        | exact bodyPost_ret (results_rate (by rfl) (by rfl) HG.out.1 rfl) (by rfl) ⟨by rw [hr], HG.out.2⟩
        | exact bodyPost_ret (results_rate (by rfl) (by rfl) HB.out.1 rfl) (by rfl) ⟨by rw [hr], HB.out.2⟩
    · skip
      have hs3 := Classical.not_not.1 ht2
      rw [decide_eq_true hs3]
      go_wp2_with fail
      refine (win_calls _ _ _ W1).mono ?_
      rintro e W3 ⟨rfl, hW3⟩
      replace hW3 := hW3.symm
      subst hW3
      by_cases ht3 : ¬ (1 ≤ run ∧ run ≤ 100)
      · rw [decide_eq_false ht3]
        have hr : rateS lo hi rise run shade moss = (0, 0, 1) := by unfold rateS; rw [if_neg (fun h => ht3 h.2.2.1)]
        go_wp2_with fail
        first
          | exact bodyPost_ret (results_rate (by rfl) (by rfl) HG.out.1 rfl) (by rfl) ⟨by rw [hr], HG.out.2⟩
          | exact bodyPost_ret (results_rate (by rfl) (by rfl) HB.out.1 rfl) (by rfl) ⟨by rw [hr], HB.out.2⟩
      · skip
        have hs4 := Classical.not_not.1 ht3
        rw [decide_eq_true hs4]
        go_wp2_with fail
        refine (win_calls _ _ _ W1).mono ?_
        rintro e W4 ⟨rfl, hW4⟩
        replace hW4 := hW4.symm
        subst hW4
        by_cases ht4 : ¬ (0 ≤ shade ∧ shade ≤ 100)
        · rw [decide_eq_false ht4]
          have hr : rateS lo hi rise run shade moss = (0, 0, 1) := by unfold rateS; rw [if_neg (fun h => ht4 h.2.2.2.1)]
          go_wp2_with fail
          first
            | exact bodyPost_ret (results_rate (by rfl) (by rfl) HG.out.1 rfl) (by rfl) ⟨by rw [hr], HG.out.2⟩
            | exact bodyPost_ret (results_rate (by rfl) (by rfl) HB.out.1 rfl) (by rfl) ⟨by rw [hr], HB.out.2⟩
        · skip
          have hs5 := Classical.not_not.1 ht4
          rw [decide_eq_true hs5]
          go_wp2_with fail
          refine (win_calls _ _ _ W1).mono ?_
          rintro e W5 ⟨rfl, hW5⟩
          replace hW5 := hW5.symm
          subst hW5
          by_cases ht5 : ¬ (0 ≤ moss ∧ moss ≤ 100)
          · rw [decide_eq_false ht5]
            have hr : rateS lo hi rise run shade moss = (0, 0, 1) := by unfold rateS; rw [if_neg (fun h => ht5 h.2.2.2.2)]
            go_wp2_with fail
            first
              | exact bodyPost_ret (results_rate (by rfl) (by rfl) HG.out.1 rfl) (by rfl) ⟨by rw [hr], HG.out.2⟩
              | exact bodyPost_ret (results_rate (by rfl) (by rfl) HB.out.1 rfl) (by rfl) ⟨by rw [hr], HB.out.2⟩
          · skip
            have hs6 := Classical.not_not.1 ht5
            rw [decide_eq_true hs6]
            have hok : rateOk lo hi rise run shade moss := ⟨hs2, hs3, hs4, hs5, hs6⟩
            have hS : (100 + shade) * (rise + run) ≤ 200 * 200 := Int.mul_le_mul (by omega) (by omega) (by omega) (by omega)
            have hS0 : 0 ≤ (100 + shade) * (rise + run) := Int.mul_nonneg (by omega) (by omega)
            obtain ⟨S, hSd⟩ : ∃ S, (100 + shade) * (rise + run) = S := ⟨_, rfl⟩
            rw [hSd] at hS hS0
            have hP : lo * S ≤ 10000 * (200 * 200) := Int.mul_le_mul (by omega) hS hS0 (by omega)
            have hP0 : 0 ≤ lo * S := Int.mul_nonneg (by omega) hS0
            obtain ⟨P, hPd⟩ : ∃ P, lo * S = P := ⟨_, rfl⟩
            rw [hPd] at hP hP0
            have hQ : hi * S ≤ 10000 * (200 * 200) := Int.mul_le_mul (by omega) hS hS0 (by omega)
            have hQ0 : 0 ≤ hi * S := Int.mul_nonneg (by omega) hS0
            obtain ⟨Q, hQd⟩ : ∃ Q, hi * S = Q := ⟨_, rfl⟩
            rw [hQd] at hQ hQ0
            have hR : Q * (100 + moss) ≤ 10000 * (200 * 200) * 200 := Int.mul_le_mul hQ (by omega) (by omega) (by omega)
            have hR0 : 0 ≤ Q * (100 + moss) := Int.mul_nonneg hQ0 (by omega)
            obtain ⟨R, hRd⟩ : ∃ R, Q * (100 + moss) = R := ⟨_, rfl⟩
            rw [hRd] at hR hR0
            have hr : rateS lo hi rise run shade moss = (Int.tdiv P (200 * rise), Int.tdiv (R + 20000 * rise - 1) (20000 * rise), 0) := by
              unfold rateS
              rw [if_pos hok, hSd, hPd, hQd, hRd]
            have hd1 : 0 ≤ Int.tdiv P (200 * rise) ∧ Int.tdiv P (200 * rise) ≤ P := ⟨Int.tdiv_nonneg hP0 (by omega), Int.tdiv_le_self _ hP0⟩
            have hd2 : 0 ≤ Int.tdiv (R + 20000 * rise - 1) (20000 * rise) ∧ Int.tdiv (R + 20000 * rise - 1) (20000 * rise) ≤ R + 20000 * rise - 1 := ⟨Int.tdiv_nonneg (by omega) (by omega), Int.tdiv_le_self _ (by omega)⟩
            have y1 : IntKind.i64.wrap P = P := IntWalk.i64_in _ (by omega)
            have y2 : IntKind.i64.wrap (200 * rise) = 200 * rise := IntWalk.i64_in _ (by omega)
            have y3 : IntKind.i64.wrap (Int.tdiv P (200 * rise)) = Int.tdiv P (200 * rise) := IntWalk.i64_in _ (by omega)
            have y4 : IntKind.i64.wrap Q = Q := IntWalk.i64_in _ (by omega)
            have y5 : IntKind.i64.wrap (100 + moss) = 100 + moss := IntWalk.i64_in _ (by omega)
            have y6 : IntKind.i64.wrap R = R := IntWalk.i64_in _ (by omega)
            have y7 : IntKind.i64.wrap (R + 20000 * rise) = R + 20000 * rise := IntWalk.i64_in _ (by omega)
            have y8 : IntKind.i64.wrap (R + 20000 * rise - 1) = R + 20000 * rise - 1 := IntWalk.i64_in _ (by omega)
            have y9 : IntKind.i64.wrap (Int.tdiv (R + 20000 * rise - 1) (20000 * rise)) = Int.tdiv (R + 20000 * rise - 1) (20000 * rise) := IntWalk.i64_in _ (by omega)
            have HR := Lib.hid hr
            have hz1 : ¬ 200 * rise = 0 := by omega
            have hz2 : ¬ 20000 * rise = 0 := by omega
            have hrise : rise ≠ 0 := by omega
            have hq : ∀ w4, Below W1.heap.size W1 w4 → w4.cell? ⟨w.heap.size, 0, none⟩ = some (.int .i64 lo) ∧ w4.cell? ⟨w.heap.size, 1, none⟩ = some (.int .i64 hi) := fun w4 h4 => by
              have hz := HG.out.2.size
              have hl := lt_blk HG.out.1
              exact ⟨(h4.cell (p := ⟨w.heap.size, 0, none⟩) (by show w.heap.size < _; omega)).trans c0, (h4.cell (p := ⟨w.heap.size, 1, none⟩) (by show w.heap.size < _; omega)).trans c1⟩
            have HQ := Lib.hid hq
            clear hr hq hs ht2 ht3 ht4 ht5 hok
            go_wp2_with fail
            refine wp_region_rg_tail 21 Grows (fun _ => .fn) (by kernel_rfl) (by kernel_rfl) Grows.refl growsT (by intro i; trivial) ?_
            iterate 21 (refine rg_step fun K hK => ?_; apply rg_fn rfl; (intro w4 hw; obtain ⟨q0, q1⟩ := HQ.out w4 hw.undrew; go_simp; try rfl); go_simp; (try with_reducible refine hK _ _ ?_); try clear hK K)
            refine rg_nil ?_
            intro W6 hw6 _
            replace hw6 := hw6.undrew
            have g6 := blk_below hw6 HG.out.1 (lt_blk HG.out.1)
            have hb6 : Below w.heap.size w W6 := HG.out.2.trans (Below.mono hw6 HG.out.2.size)
            have HS := fun x y => Lib.hid (spanSet2 g6 hb6 x y)
            obtain ⟨q2, q3⟩ : W6.cell? ⟨w.heap.size + 1, 0, none⟩ = some (.int .i64 0) ∧ W6.cell? ⟨w.heap.size + 1, 1, none⟩ = some (.int .i64 0) := ⟨(cell_blk g6 0).trans rfl, (cell_blk g6 1).trans rfl⟩
            have f6 := frozen_blk g6
            clear hw6 g6 hb6 c0 c1 d0 d1 fr
            simp only [List.drop_succ_cons, List.drop_zero]
            go_wp2_with fail
            exact bodyPost_ret (results_rate (by rfl) (by rfl) (HS _ _).out.1 rfl) (by rfl) ⟨by rw [HR.out], (HS _ _).out.2⟩
end Go.Proofs.Ytnbnhcoaggpmaaa
