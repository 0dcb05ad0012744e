/- Plain law: of two faces the steeper one is no dearer. -/
import Derived.Test.YtnbnhcoaggpmaaaPq
import Derived.Test.YtnbnhcoaggpmaaaJo

namespace Go.Proofs.Ytnbnhcoaggpmaaa
open Go Go.RowKit Go.Shelf
set_option maxRecDepth 100000

theorem ceil_mono {A B d e : Int} (hd : 0 < d) (he : 0 < e) (hA : 0 ≤ A) (hB : 0 ≤ B) (h : A * e ≤ B * d) : Int.tdiv (A + d - 1) d ≤ Int.tdiv (B + e - 1) e := by
  rw [Int.tdiv_eq_ediv_of_nonneg (by omega), Int.tdiv_eq_ediv_of_nonneg (by omega)]
  obtain ⟨q, hq⟩ : ∃ q, (B + e - 1) / e = q := ⟨_, rfl⟩
  rw [hq]
  have h1 : B ≤ q * e := by
    have h2 := Int.lt_ediv_add_one_mul_self (B + e - 1) he
    rw [hq, Int.add_mul, Int.one_mul] at h2
    omega
  have h3 : A * e ≤ (q * d) * e := by
    have h4 : B * d ≤ (q * e) * d := Int.mul_le_mul_of_nonneg_right h1 (by omega)
    have h5 : (q * e) * d = (q * d) * e := by rw [Int.mul_assoc, Int.mul_comm e d, ← Int.mul_assoc]
    omega
  have h6 : A ≤ q * d := Int.le_of_mul_le_mul_right h3 he
  have h7 : (A + d - 1) / d < q + 1 := Int.ediv_lt_of_lt_mul hd (by rw [Int.add_mul, Int.one_mul]; omega)
  omega
theorem rate_mono {lo hi rx nx ry ny : Int} (hx : rateOk lo hi rx nx 0 0) (hy : rateOk lo hi ry ny 0 0) (h : ry * nx ≤ rx * ny) : (rateS lo hi rx nx 0 0).2.1 ≤ (rateS lo hi ry ny 0 0).2.1 := by
  unfold rateS
  rw [if_pos hx, if_pos hy]
  obtain ⟨⟨h1, h2, h3⟩, ⟨h4, h5⟩, ⟨h6, h7⟩, _⟩ := hx
  obtain ⟨_, ⟨h8, h9⟩, ⟨h10, h11⟩, _⟩ := hy
  show Int.tdiv (hi * ((100 + 0) * (rx + nx)) * (100 + 0) + 20000 * rx - 1) (20000 * rx) ≤ Int.tdiv (hi * ((100 + 0) * (ry + ny)) * (100 + 0) + 20000 * ry - 1) (20000 * ry)
  have hh : 0 ≤ hi := by omega
  have hpx : 0 ≤ hi * ((100 + 0) * (rx + nx)) := Int.mul_nonneg hh (by omega)
  have hpy : 0 ≤ hi * ((100 + 0) * (ry + ny)) := Int.mul_nonneg hh (by omega)
  refine ceil_mono (by omega) (by omega) (by omega) (by omega) ?_
  have e1 : hi * ((100 + 0) * (rx + nx)) * (100 + 0) * (20000 * ry) = 200000000 * (hi * ((rx + nx) * ry)) := by
    rw [show (100 + 0 : Int) = 100 from rfl, show hi * (100 * (rx + nx)) = 100 * (hi * (rx + nx)) by rw [Int.mul_left_comm]]
    rw [show 100 * (hi * (rx + nx)) * 100 * (20000 * ry) = 200000000 * (hi * (rx + nx) * ry) by
      rw [Int.mul_comm (100 * (hi * (rx + nx))) 100, ← Int.mul_assoc 100 100, Int.mul_assoc, Int.mul_left_comm (hi * (rx + nx)) 20000 ry, ← Int.mul_assoc]
      rfl, Int.mul_assoc hi]
  have e2 : hi * ((100 + 0) * (ry + ny)) * (100 + 0) * (20000 * rx) = 200000000 * (hi * ((ry + ny) * rx)) := by
    rw [show (100 + 0 : Int) = 100 from rfl, show hi * (100 * (ry + ny)) = 100 * (hi * (ry + ny)) by rw [Int.mul_left_comm]]
    rw [show 100 * (hi * (ry + ny)) * 100 * (20000 * rx) = 200000000 * (hi * (ry + ny) * rx) by
      rw [Int.mul_comm (100 * (hi * (ry + ny))) 100, ← Int.mul_assoc 100 100, Int.mul_assoc, Int.mul_left_comm (hi * (ry + ny)) 20000 rx, ← Int.mul_assoc]
      rfl, Int.mul_assoc hi]
  rw [e1, e2]
  have h12 : (rx + nx) * ry ≤ (ry + ny) * rx := by
    rw [Int.add_mul, Int.add_mul, Int.mul_comm rx ry, Int.mul_comm nx ry, Int.mul_comm ny rx]
    omega
  have h13 := Int.mul_le_mul_of_nonneg_left h12 hh
  omega
theorem take_mono {a b : Int} (ha : 0 ≤ a) (h : a ≤ b) : Int.tdiv (a + 99) 100 ≤ Int.tdiv (b + 99) 100 := by
  rw [Int.tdiv_eq_ediv_of_nonneg (by omega), Int.tdiv_eq_ediv_of_nonneg (by omega)]
  omega
theorem take_bound {b : Int} (hb : 0 ≤ b) (h : b ≤ 50000) : 0 ≤ Int.tdiv (b + 99) 100 ∧ Int.tdiv (b + 99) 100 ≤ 500 := by
  rw [Int.tdiv_eq_ediv_of_nonneg (by omega)]
  omega
/-- Works of one slope. -/
def oneW (t need take years : Int) : Wk := ⟨[⟨t, need, t, 3, [take]⟩], [⟨20, 2, false⟩, ⟨0, 5, true⟩], years, 4, 1⟩
theorem oneW_easier {t need take take' years : Int} (h : take' ≤ take) : Easier (oneW t need take years) (oneW t need take' years) :=
  ⟨rfl, fun i x x' hx hx' => by
    match i, hx, hx' with
    | 0, hx, hx' =>
      obtain rfl := Option.some.inj hx
      obtain rfl := Option.some.inj hx'
      refine ⟨rfl, rfl, Int.le_refl _, Int.le_refl _, rfl, fun j => ?_⟩
      match j with
      | 0 => exact h
      | j + 1 => simp
    | n + 1, hx, _ => simp [oneW] at hx, ⟨[], by simp [oneW]⟩, rfl, rfl, Int.le_refl _⟩
theorem oneW_check {t need take years : Int} (ht : 1 ≤ t ∧ t ≤ 1000) (hn : 0 ≤ need ∧ need ≤ t) (hk : 0 ≤ take ∧ take ≤ 500) (hy : 0 ≤ years ∧ years ≤ 8) : checkS (oneW t need take years) = 0 := by
  refine checkS_of ⟨by simp [oneW], by simp [oneW], fun s hs => ?_, by simp [oneW], fun c hc => ?_, ⟨hy.1, by show years ≤ 40; omega⟩, ⟨by show (0 : Int) ≤ 4; omega, by show (4 : Int) ≤ 1000000; omega⟩, ⟨by show (0 : Int) ≤ 1; omega, by show (1 : Int) ≤ 4; omega⟩⟩
  · simp only [oneW, List.mem_singleton] at hs
    subst hs
    refine ⟨ht, hn, ⟨by show 0 ≤ t; omega, Int.le_refl _⟩, ⟨by show (1 : Int) ≤ 3; omega, by show (3 : Int) ≤ 1000; omega⟩, by simp, fun x hx => ?_⟩
    simp only [List.mem_singleton] at hx
    subst hx
    exact hk
  · simp only [oneW, List.mem_cons, List.not_mem_nil, or_false] at hc
    rcases hc with rfl | rfl
    · exact ⟨⟨by show (0 : Int) ≤ 2; omega, by show (2 : Int) ≤ 10000; omega⟩, ⟨by show (0 : Int) ≤ 20; omega, by show (20 : Int) ≤ 1000; omega⟩, fun h => by cases h⟩
    · exact ⟨⟨by show (0 : Int) ≤ 5; omega, by show (5 : Int) ≤ 10000; omega⟩, ⟨by show (0 : Int) ≤ 0; omega, by show (0 : Int) ≤ 1000; omega⟩, fun _ => rfl⟩
theorem rate_nonneg {lo hi r n : Int} (hx : rateOk lo hi r n 0 0) : 0 ≤ (rateS lo hi r n 0 0).2.1 := by
  unfold rateS
  rw [if_pos hx]
  obtain ⟨⟨h1, h2, h3⟩, ⟨h4, h5⟩, ⟨h6, h7⟩, _⟩ := hx
  have hp : 0 ≤ hi * ((100 + 0) * (r + n)) := Int.mul_nonneg (by omega) (by omega)
  exact Int.tdiv_nonneg (by omega) (by omega)
theorem cheap_err {m : Wk} (hc : checkS m = 0) : (cheapS m).2.2.2 = 0 ∨ (cheapS m).2.2.2 = 3 := by
  unfold cheapS
  rw [if_pos hc]
  split
  · exact .inr rfl
  · split <;> exact .inl rfl
theorem pitch_law {w o : Wk} (hw : checkS w = 0) (ho : checkS o = 0) (he : Easier o w) (h1 : (cheapS w).2.2.2 = 0) (h2 : (cheapS o).2.2.2 = 0) (h3 : (cheapS o).2.2.1 = true) : (cheapS w).2.2.1 = true ∧ (cheapS w).2.1 ≤ (cheapS o).2.1 := by
  have hv : valS o (firstS o) < 2000000000 ∧ (cheapS o).2.1 = valS o (firstS o) := by
    unfold cheapS at h2 h3 ⊢
    rw [if_pos ho] at h2 h3 ⊢
    split at h2
    · cases h2
    · rename_i hq
      rw [if_neg hq] at h3 ⊢
      split at h3
      · cases h3
      · rename_i hq2
        rw [if_neg hq2]
        exact ⟨by omega, rfl⟩
  rcases cheapS_easier ho hw hv.1 he with h | ⟨_, h5, h6⟩
  · rw [h1] at h; cases h
  · exact ⟨h5, by rw [hv.2]; exact h6⟩
end Go.Proofs.Ytnbnhcoaggpmaaa
