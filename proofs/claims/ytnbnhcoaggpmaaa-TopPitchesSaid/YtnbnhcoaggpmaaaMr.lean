/- compare. -/
import Derived.Test.YtnbnhcoaggpmaaaMq

namespace Go.Proofs.Ytnbnhcoaggpmaaa
open Go Go.RowKit Go.Shelf
set_option maxRecDepth 100000

def cmpI (x y : Int) : Int := if x < y then -1 else if y < x then 1 else 0
theorem isNaN_calls (x : Int) (w : World) : Calls Try.prog 68 #[.int .i64 x] w fun e w' => e = .returned (.bool false) ∧ w' = w := by
  go_enter Try.func68, Try.ntmps68
  go_wp2
  go_ret
  simp
theorem compareInt_calls (x y : Int) (w : World) : Calls Try.prog 46 #[.int .i64 x, .int .i64 y] w fun e w' => e = .returned (.int .i64 (cmpI x y)) ∧ w' = w := by
  have h1 := fun z W => isNaN_calls z W
  by_cases a : x < y
  · have e : cmpI x y = -1 := if_pos a
    go_enter Try.func46, Try.ntmps46
    go_wp2_with (go_at_call 68; refine (h1 _ _).mono ?_; rintro e w' ⟨rfl, rfl⟩)
    go_ret
    simp [e]
  · by_cases b : y < x
    · have e : cmpI x y = 1 := by unfold cmpI; rw [if_neg a, if_pos b]
      go_enter Try.func46, Try.ntmps46
      go_wp2_with (go_at_call 68; refine (h1 _ _).mono ?_; rintro e w' ⟨rfl, rfl⟩)
      go_ret
      simp [e]
    · have e : cmpI x y = 0 := by unfold cmpI; rw [if_neg a, if_neg b]
      go_enter Try.func46, Try.ntmps46
      go_wp2_with (go_at_call 68; refine (h1 _ _).mono ?_; rintro e w' ⟨rfl, rfl⟩)
      go_ret
      simp [e]

def lexI : List Int → List Int → Int
  | x :: xs, y :: ys => if cmpI x y = 0 then lexI xs ys else cmpI x y
  | _, _ => 0
theorem cmpI_self (x : Int) : cmpI x x = 0 := by simp [cmpI]
theorem cmpI_eq {x y : Int} (h : cmpI x y = 0) : x = y := by
  unfold cmpI at h
  split at h
  · omega
  · split at h <;> omega
theorem lexI_drop : ∀ (xs ys : List Int) (i : Nat), xs.take i = ys.take i → lexI xs ys = lexI (xs.drop i) (ys.drop i)
  | xs, ys, 0, _ => rfl
  | [], [], i + 1, _ => by simp
  | x :: xs, [], i + 1, h => by simp at h
  | [], y :: ys, i + 1, h => by simp at h
  | x :: xs, y :: ys, i + 1, h => by
    simp only [List.take_succ_cons, List.cons.injEq] at h
    obtain ⟨rfl, h⟩ := h
    simp only [List.drop_succ_cons]
    rw [← lexI_drop xs ys i h]
    simp [lexI, cmpI_self]

set_option maxHeartbeats 1000000 in
theorem slicesCompare_calls (n0 : Nat) (A B : Option Addr) (ca cb : Nat) (xs ys : List Int) (w : World) (hx : RowC w n0 A (xs.map (Value.int .i64))) (hy : RowC w n0 B (ys.map (Value.int .i64))) (hl : ys.length = xs.length) (hb : xs.length ≤ 1000) :
    Calls Try.prog 71 #[.slice A xs.length ca, .slice B xs.length cb] w fun e w' => e = .returned (.int .i64 (lexI xs ys)) ∧ w' = w := by
  have hcmp := fun x y W => compareInt_calls x y W
  go_enter Try.func71, Try.ntmps71
  go_wp2
  go_loopw [11] (fun c wr => ∃ i : Nat, i ≤ xs.length ∧ c = .int .i64 (i : Int) ∧ xs.take i = ys.take i ∧ wr = w) (fun c _ => xs.length - (intOf c).toNat)
  case atStart => exact ⟨0, Nat.zero_le _, rfl, rfl, rfl⟩
  case round =>
    obtain ⟨i, hi, rfl, heq, rfl⟩ := hrel
    by_cases hlt : i < xs.length
    · obtain ⟨b, o, rfl, hbk, hc⟩ := hx.at_ i (by simpa using hlt)
      obtain ⟨b2, o2, rfl, hbk2, hc2⟩ := hy.at_ i (by simp; omega)
      simp only [List.getElem_map] at hc hc2
      have hlt2 : i < ys.length := by omega
      have hil : (i : Int) < (xs.length : Int) := by omega
      have hi0 : (0 : Int) ≤ (i : Int) := by omega
      have hadd : IntKind.i64.wrap ((i : Int) + 1) = (i : Int) + 1 := IntWalk.i64_in _ (by omega)
      have hdx : xs.drop i = xs[i] :: xs.drop (i + 1) := List.drop_eq_getElem_cons hlt
      have hdy : ys.drop i = ys[i] :: ys.drop (i + 1) := List.drop_eq_getElem_cons hlt2
      have hlx : lexI xs ys = if cmpI xs[i] ys[i] = 0 then lexI (xs.drop (i + 1)) (ys.drop (i + 1)) else cmpI xs[i] ys[i] := by rw [lexI_drop xs ys i heq, hdx, hdy]; rfl
      have htx : cmpI xs[i] ys[i] = 0 → xs.take (i + 1) = ys.take (i + 1) := fun h => by
        rw [List.take_succ_eq_append_getElem hlt, List.take_succ_eq_append_getElem hlt2, heq, cmpI_eq h]
      have HX := Lib.hid hlx
      have HT := Lib.hid htx
      have HEQ := Lib.hid heq
      clear hlx htx heq hdx hdy
      generalize xs[i] = x at *
      generalize ys[i] = y at *
      by_cases hz : cmpI x y = 0
      · go_wp2_with (go_at_call 46; refine (hcmp _ _ _).mono ?_; rintro e w' ⟨rfl, rfl⟩)
        refine ⟨⟨i + 1, by omega, by simp, HT.out hz, ?_⟩, by simp [intOf]; omega⟩
        first | trivial | rfl
      · go_wp2_with (go_at_call 46; refine (hcmp _ _ _).mono ?_; rintro e w' ⟨rfl, rfl⟩)
        go_ret
        exact ⟨ret_int (by show cmpI x y = _; rw [HX.out, if_neg hz]), rfl⟩
    · have hin : i = xs.length := by omega
      subst hin
      have hz : lexI xs ys = 0 := by
        rw [lexI_drop xs ys xs.length heq]
        simp [lexI]
      have HZ := Lib.hid hz
      clear heq hz
      go_wp2
      go_ret
      exact ⟨ret_int (by show (0 : Int) = _; rw [HZ.out]), rfl⟩

def orL : List Int → Int
  | [] => 0
  | x :: l => if x = 0 then orL l else x
set_option maxHeartbeats 1000000 in
theorem or_calls (n0 : Nat) (A : Option Addr) (ca : Nat) (xs : List Int) (w : World) (hx : RowC w n0 A (xs.map (Value.int .i64))) (hb : xs.length ≤ 1000) :
    Calls Try.prog 45 #[.slice A xs.length ca] w fun e w' => e = .returned (.int .i64 (orL xs)) ∧ w' = w := by
  go_enter Try.func45, Try.ntmps45
  go_wp2
  go_loopw [8] (fun c wr => ∃ i : Nat, i ≤ xs.length ∧ c = .int .i64 (i : Int) ∧ orL xs = orL (xs.drop i) ∧ wr = w) (fun c _ => xs.length - (intOf c).toNat)
  case atStart => exact ⟨0, Nat.zero_le _, rfl, rfl, rfl⟩
  case round =>
    obtain ⟨i, hi, rfl, heq, rfl⟩ := hrel
    by_cases hlt : i < xs.length
    · obtain ⟨b, o, rfl, hbk, hc⟩ := hx.at_ i (by simpa using hlt)
      simp only [List.getElem_map] at hc
      have hil : (i : Int) < (xs.length : Int) := by omega
      have hi0 : (0 : Int) ≤ (i : Int) := by omega
      have hadd : IntKind.i64.wrap ((i : Int) + 1) = (i : Int) + 1 := IntWalk.i64_in _ (by omega)
      have hdx : xs.drop i = xs[i] :: xs.drop (i + 1) := List.drop_eq_getElem_cons hlt
      rw [hdx, orL] at heq
      have HX := Lib.hid heq
      clear heq hdx
      generalize xs[i] = x at *
      by_cases hz : x = 0
      · subst hz
        go_wp2
        refine ⟨⟨i + 1, by omega, by simp, by rw [HX.out, if_pos rfl], ?_⟩, by simp [intOf]; omega⟩
        first | trivial | rfl
      · go_wp2
        go_ret
        exact ⟨ret_int (by show x = _; rw [HX.out, if_neg hz]), rfl⟩
    · have hin : i = xs.length := by omega
      subst hin
      have hz : orL xs = 0 := by
        rw [heq, List.drop_length]; rfl
      have HZ := Lib.hid hz
      clear heq hz
      go_wp2
      go_ret
      exact ⟨ret_int (by show (0 : Int) = _; rw [HZ.out]), rfl⟩
end Go.Proofs.Ytnbnhcoaggpmaaa
