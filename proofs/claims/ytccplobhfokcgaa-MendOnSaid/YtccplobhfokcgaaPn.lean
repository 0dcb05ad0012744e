/- A list that is a proof is right. -/
import Derived.Test.YtccplobhfokcgaaPc
import Derived.Test.YtccplobhfokcgaaPp
namespace Go.Proofs.Ytccplobhfokcgaa
open Go Go.RowKit Go.Shelf
set_option maxRecDepth 100000

theorem costW_year {m : Wk} {ws : List Wo} (h : listOk m ws = true) {t : St} (ht : m.years ≤ t.y) : costW ws t = none := by
  cases hc : costW ws t with
  | none => rfl
  | some c =>
    obtain ⟨x, hx, hs, _⟩ := costW_dom hc
    obtain ⟨i, hi⟩ := List.getElem?_of_mem hx
    have hil := (List.getElem?_eq_some_iff.1 hi).1
    have hwo := (okAt_spec (listOk_at h hil) hil).1
    rw [(List.getElem?_eq_some_iff.1 hi).2] at hwo
    have h1 := outB_false.1 (woOk_spec hwo).1
    have h2 : (stW x).y = x.y := rfl
    rw [hs] at h2
    omega
theorem proves_parts {m : Wk} {least : Int} {ws : List Wo} (h : provesB m least ws = true) (hy : m.years ≠ 0) : listOk m ws = true ∧ (∃ n, costW ws (firstS m) = some n ∧ least ≤ n) ∧ ∀ (s : St) (n : Int), costW ws s = some n → ∀ r ∈ rowsS m, rowProves m (costW ws) s n r = true := by
  unfold provesB at h
  rw [if_neg hy] at h
  simp only [Bool.and_eq_true, Bool.not_eq_true', Bool.or_eq_false_iff, Bool.not_eq_false', decide_eq_false_iff_not, List.all_eq_true] at h
  obtain ⟨h1, ⟨h2, h3⟩, h4⟩ := h
  refine ⟨h1, ?_, fun s n hn r hr => ?_⟩
  · obtain ⟨n, hn⟩ := Option.isSome_iff_exists.1 h2
    rw [hn] at h3
    exact ⟨n, hn, by simpa using h3⟩
  · obtain ⟨x, hx, hs, hc⟩ := costW_dom hn
    have := h4 x hx r hr
    rwa [hs, hc] at this
theorem rowProves_kept {m : Wk} {f : St → Option Int} {s : St} {n : Int} {r : List Int} (h : rowProves m f s n r = true) (hk : keptS m s r = true) :
    ((stepS m s r).y < m.years → ∃ c, f (stepS m s r) = some c) ∧ n ≤ costS m r + (f (stepS m s r)).getD 0 := by
  unfold rowProves at h
  rw [hk] at h
  simp only [Bool.not_true, Bool.false_or, Bool.not_eq_true', Bool.or_eq_false_iff, Bool.and_eq_false_iff, decide_eq_false_iff_not, Bool.not_eq_false'] at h
  exact ⟨fun hy => Option.isSome_iff_exists.1 (h.1.resolve_left (fun h2 => h2 hy)), by omega⟩
/-- The whole law: what a proof says is at most what any plan that keeps all slopes costs. -/
theorem proves_sound {m : Wk} (hm : m.Ok) {least : Int} {ws : List Wo} (h : provesB m least ws = true) {plan : List (List Int)} (hp : planOk m plan = true) (hk : ∀ j < plan.length, keptIn m plan j = true) : least ≤ costPl m plan plan.length := by
  have hlen := planOk_len hp
  by_cases hy : m.years = 0
  · unfold provesB at h
    rw [if_pos hy] at h
    simp only [Bool.and_eq_true, decide_eq_true_eq] at h
    have : plan.length = 0 := by omega
    rw [this]
    exact h.2.1
  · obtain ⟨hl, ⟨n0, hn0, hle⟩, hrow⟩ := proves_parts h hy
    have key : ∀ k, k < plan.length → ∃ n, costW ws (stAt m plan k) = some n ∧ least ≤ costPl m plan k + n := by
      intro k
      induction k with
      | zero => intro _; exact ⟨n0, hn0, by simp [costPl]; exact hle⟩
      | succ k ih =>
        intro hk1
        obtain ⟨n, hn, hln⟩ := ih (by omega)
        have hkl : k < plan.length := by omega
        have h2 := hk k hkl
        unfold keptIn at h2
        rw [getD_lt hkl] at h2
        obtain ⟨h3, h4⟩ := rowProves_kept (hrow _ _ hn _ (row_mem (planOk_row hp hkl))) h2
        have hyk : (stepS m (stAt m plan k) plan[k]).y < m.years := by
          rw [stepS_y, stAt_y m plan k (by omega)]; omega
        obtain ⟨c, hc⟩ := h3 hyk
        rw [hc] at h4
        refine ⟨c, by rw [stAt_succ m hkl]; exact hc, ?_⟩
        rw [costPl_succ m hkl]
        simp at h4
        omega
    have hpos : plan.length - 1 < plan.length := by omega
    obtain ⟨n, hn, hln⟩ := key (plan.length - 1) hpos
    have h2 := hk (plan.length - 1) hpos
    unfold keptIn at h2
    rw [getD_lt hpos] at h2
    obtain ⟨_, h4⟩ := rowProves_kept (hrow _ _ hn _ (row_mem (planOk_row hp hpos))) h2
    rw [costW_year hl (t := stepS m (stAt m plan (plan.length - 1)) plan[plan.length - 1]) (by rw [stepS_y, stAt_y m plan _ (by omega)]; omega)] at h4
    have hs := costPl_succ m hpos
    rw [show plan.length - 1 + 1 = plan.length by omega] at hs
    rw [hs]
    simp at h4
    omega
end Go.Proofs.Ytccplobhfokcgaa
