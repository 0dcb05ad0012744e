/- Check. -/
import Derived.Test.YtcbhldfipfcjaaaGreatDoorMq
import Derived.Sort.Grow
import Derived.Deep.Draws

/- compare. -/
namespace Go.Proofs.YtcbhldfipfcjaaaGreatDoor
open Go Go.RowKit Go.Shelf
set_option maxRecDepth 100000

def cmpI (x y : Int) : Int := if x < y then -1 else if y < x then 1 else 0
theorem isNaN_calls (x : Int) (w : World) : Calls Tryz.prog 93 #[.int .i64 x] w fun e w' => e = .returned (.bool false) ∧ w' = w := by
  go_enter Tryz.func93, Tryz.ntmps93
  go_wp2
  go_ret
  simp
theorem compareInt_calls (x y : Int) (w : World) : Calls Tryz.prog 70 #[.int .i64 x, .int .i64 y] w fun e w' => e = .returned (.int .i64 (cmpI x y)) ∧ w' = w := by
  have h1 := fun z W => isNaN_calls z W
  by_cases a : x < y
  · have e : cmpI x y = -1 := if_pos a
    go_enter Tryz.func70, Tryz.ntmps70
    go_wp2_with (go_at_call 93; refine (h1 _ _).mono ?_; rintro e w' ⟨rfl, rfl⟩)
    go_ret
    simp [e]
  · by_cases b : y < x
    · have e : cmpI x y = 1 := by unfold cmpI; rw [if_neg a, if_pos b]
      go_enter Tryz.func70, Tryz.ntmps70
      go_wp2_with (go_at_call 93; refine (h1 _ _).mono ?_; rintro e w' ⟨rfl, rfl⟩)
      go_ret
      simp [e]
    · have e : cmpI x y = 0 := by unfold cmpI; rw [if_neg a, if_neg b]
      go_enter Tryz.func70, Tryz.ntmps70
      go_wp2_with (go_at_call 93; refine (h1 _ _).mono ?_; rintro e w' ⟨rfl, rfl⟩)
      go_ret
      simp [e]

def lexI : List Int → List Int → Int
  | x :: xs, y :: ys => if cmpI x y = 0 then lexI xs ys else cmpI x y
  | _, _ => 0
theorem cmpI_self (x : Int) : cmpI x x = 0 := by simp [cmpI]
theorem cmpI_eq {x y : Int} (h : cmpI x y = 0) : x = y := by
  unfold cmpI at h
  split at h
  · omega
  · split at h <;> omega
theorem lexI_drop : ∀ (xs ys : List Int) (i : Nat), xs.take i = ys.take i → lexI xs ys = lexI (xs.drop i) (ys.drop i)
  | xs, ys, 0, _ => rfl
  | [], [], i + 1, _ => by simp
  | x :: xs, [], i + 1, h => by simp at h
  | [], y :: ys, i + 1, h => by simp at h
  | x :: xs, y :: ys, i + 1, h => by
    simp only [List.take_succ_cons, List.cons.injEq] at h
    obtain ⟨rfl, h⟩ := h
    simp only [List.drop_succ_cons]
    rw [← lexI_drop xs ys i h]
    simp [lexI, cmpI_self]

set_option maxHeartbeats 1000000 in
theorem slicesCompare_calls (n0 : Nat) (A B : Option Addr) (ca cb : Nat) (xs ys : List Int) (w : World) (hx : RowC w n0 A (xs.map (Value.int .i64))) (hy : RowC w n0 B (ys.map (Value.int .i64))) (hl : ys.length = xs.length) (hb : xs.length ≤ 1000) :
    Calls Tryz.prog 71 #[.slice A xs.length ca, .slice B xs.length cb] w fun e w' => e = .returned (.int .i64 (lexI xs ys)) ∧ w' = w := by
  have hcmp := fun x y W => compareInt_calls x y W
  go_enter Tryz.func71, Tryz.ntmps71
  go_wp2
  go_loopw [11] (fun c wr => ∃ i : Nat, i ≤ xs.length ∧ c = .int .i64 (i : Int) ∧ xs.take i = ys.take i ∧ wr = w) (fun c _ => xs.length - (intOf c).toNat)
  case atStart => exact ⟨0, Nat.zero_le _, rfl, rfl, rfl⟩
  case round =>
    obtain ⟨i, hi, rfl, heq, rfl⟩ := hrel
    by_cases hlt : i < xs.length
    · obtain ⟨b, o, rfl, hbk, hc⟩ := hx.at_ i (by simpa using hlt)
      obtain ⟨b2, o2, rfl, hbk2, hc2⟩ := hy.at_ i (by simp; omega)
      simp only [List.getElem_map] at hc hc2
      have hlt2 : i < ys.length := by omega
      have hil : (i : Int) < (xs.length : Int) := by omega
      have hi0 : (0 : Int) ≤ (i : Int) := by omega
      have hadd : IntKind.i64.wrap ((i : Int) + 1) = (i : Int) + 1 := IntWalk.i64_in _ (by omega)
      have hdx : xs.drop i = xs[i] :: xs.drop (i + 1) := List.drop_eq_getElem_cons hlt
      have hdy : ys.drop i = ys[i] :: ys.drop (i + 1) := List.drop_eq_getElem_cons hlt2
      have hlx : lexI xs ys = if cmpI xs[i] ys[i] = 0 then lexI (xs.drop (i + 1)) (ys.drop (i + 1)) else cmpI xs[i] ys[i] := by rw [lexI_drop xs ys i heq, hdx, hdy]; rfl
      have htx : cmpI xs[i] ys[i] = 0 → xs.take (i + 1) = ys.take (i + 1) := fun h => by
        rw [List.take_succ_eq_append_getElem hlt, List.take_succ_eq_append_getElem hlt2, heq, cmpI_eq h]
      have HX := Lib.hid hlx
      have HT := Lib.hid htx
      have HEQ := Lib.hid heq
      clear hlx htx heq hdx hdy
      generalize xs[i] = x at *
      generalize ys[i] = y at *
      by_cases hz : cmpI x y = 0
      · go_wp2_with (go_at_call 70; refine (hcmp _ _ _).mono ?_; rintro e w' ⟨rfl, rfl⟩)
        refine ⟨⟨i + 1, by omega, by simp, HT.out hz, ?_⟩, by simp [intOf]; omega⟩
        first | trivial | rfl
      · go_wp2_with (go_at_call 70; refine (hcmp _ _ _).mono ?_; rintro e w' ⟨rfl, rfl⟩)
        go_ret
        exact ⟨ret_int (by show cmpI x y = _; rw [HX.out, if_neg hz]), rfl⟩
    · have hin : i = xs.length := by omega
      subst hin
      have hz : lexI xs ys = 0 := by
        rw [lexI_drop xs ys xs.length heq]
        simp [lexI]
      have HZ := Lib.hid hz
      clear heq hz
      go_wp2
      go_ret
      exact ⟨ret_int (by show (0 : Int) = _; rw [HZ.out]), rfl⟩

def orL : List Int → Int
  | [] => 0
  | x :: l => if x = 0 then orL l else x
set_option maxHeartbeats 1000000 in
theorem or_calls (n0 : Nat) (A : Option Addr) (ca : Nat) (xs : List Int) (w : World) (hx : RowC w n0 A (xs.map (Value.int .i64))) (hb : xs.length ≤ 1000) :
    Calls Tryz.prog 69 #[.slice A xs.length ca] w fun e w' => e = .returned (.int .i64 (orL xs)) ∧ w' = w := by
  go_enter Tryz.func69, Tryz.ntmps69
  go_wp2
  go_loopw [8] (fun c wr => ∃ i : Nat, i ≤ xs.length ∧ c = .int .i64 (i : Int) ∧ orL xs = orL (xs.drop i) ∧ wr = w) (fun c _ => xs.length - (intOf c).toNat)
  case atStart => exact ⟨0, Nat.zero_le _, rfl, rfl, rfl⟩
  case round =>
    obtain ⟨i, hi, rfl, heq, rfl⟩ := hrel
    by_cases hlt : i < xs.length
    · obtain ⟨b, o, rfl, hbk, hc⟩ := hx.at_ i (by simpa using hlt)
      simp only [List.getElem_map] at hc
      have hil : (i : Int) < (xs.length : Int) := by omega
      have hi0 : (0 : Int) ≤ (i : Int) := by omega
      have hadd : IntKind.i64.wrap ((i : Int) + 1) = (i : Int) + 1 := IntWalk.i64_in _ (by omega)
      have hdx : xs.drop i = xs[i] :: xs.drop (i + 1) := List.drop_eq_getElem_cons hlt
      rw [hdx, orL] at heq
      have HX := Lib.hid heq
      clear heq hdx
      generalize xs[i] = x at *
      by_cases hz : x = 0
      · subst hz
        go_wp2
        refine ⟨⟨i + 1, by omega, by simp, by rw [HX.out, if_pos rfl], ?_⟩, by simp [intOf]; omega⟩
        first | trivial | rfl
      · go_wp2
        go_ret
        exact ⟨ret_int (by show x = _; rw [HX.out, if_neg hz]), rfl⟩
    · have hin : i = xs.length := by omega
      subst hin
      have hz : orL xs = 0 := by
        rw [heq, List.drop_length]; rfl
      have HZ := Lib.hid hz
      clear heq hz
      go_wp2
      go_ret
      exact ⟨ret_int (by show (0 : Int) = _; rw [HZ.out]), rfl⟩
end Go.Proofs.YtcbhldfipfcjaaaGreatDoor

/- compare. -/
namespace Go.Proofs.YtcbhldfipfcjaaaGreatDoor
open Go Go.RowKit Go.Shelf Go.Sort
set_option maxRecDepth 100000

/-- Draws and new blocks. -/
def GrowN (a b : World) : Prop := ∃ q os, b = grow (a.drewN q) os
theorem GrowN.refl (a : World) : GrowN a a := ⟨0, #[], by simp [World.drewN]⟩
theorem GrowN.trans : ∀ a b c : World, GrowN a b → GrowN b c → GrowN a c := by
  rintro a b c ⟨q, os, rfl⟩ ⟨q', os', rfl⟩
  refine ⟨q + q', os ++ os', ?_⟩
  rw [← grow_grow]
  simp [grow, World.drewN, Nat.add_assoc]
theorem GrowN.alloc (a : World) (o : Obj) : GrowN a (a.alloc o) := ⟨0, #[o], by rw [alloc_eq_grow]; simp [World.drewN]⟩
theorem GrowN.undrew {a b : World} (h : GrowN a.drew b) : GrowN a b := by
  obtain ⟨q, os, rfl⟩ := h
  exact ⟨1 + q, os, by unfold grow World.drewN World.drew; simp only [Nat.add_assoc]⟩
theorem GrowN.below {a b : World} (h : GrowN a b) : Below a.heap.size a b := by
  obtain ⟨q, os, rfl⟩ := h
  exact ⟨rfl, rfl, rfl, by simp [World.drewN], fun k hk => by simp [grow, World.drewN, Array.getElem?_append, hk]⟩

def thL (s : St) : List Int := [s.a, s.b, s.c, s.d]
theorem arrElem : Tryz.prog.underlying 3 = some (.int .i64) := Tryz.underlying3
theorem run_equalIn_four (w : World) (d : Nat) (t : TypeId) (ht : Tryz.prog.underlying t = some (.array 4 3)) (x0 x1 x2 x3 y0 y1 y2 y3 : Int) :
    (Op.equalIn (d + 2) t (.agg #[.int .i64 x0, .int .i64 x1, .int .i64 x2, .int .i64 x3]) (.agg #[.int .i64 y0, .int .i64 y1, .int .i64 y2, .int .i64 y3])).run Tryz.prog w = .ok (x0 == y0 && (x1 == y1 && (x2 == y2 && x3 == y3))) w := by
  have hsz : ∀ w, (sizeOf 3).run Tryz.prog w = .ok 1 w := by intro w; kernel_rfl
  have he := fun a b w => run_equalIn_int (P := Tryz.prog) w d 3 .i64 .i64 a b Tryz.underlying3
  rw [Op.equalIn]
  simp only [Sem.run_bind, run_underlying ht, Result.andThen_ok, hsz, Std.Legacy.Range.forIn_eq_forIn_range', Std.Legacy.Range.size, Nat.sub_zero, Nat.add_sub_cancel, Nat.div_one]
  simp only [List.range', List.forIn_cons, List.forIn_nil]
  by_cases h0 : x0 = y0 <;> by_cases h1 : x1 = y1 <;> by_cases h2 : x2 = y2 <;> by_cases h3 : x3 = y3 <;>
    simp [Sem.run_bind, part, isAgg, run_underlying Tryz.underlying3, he, h0, h1, h2, h3]
def cmpS (a b : St) : Int := if cmpI a.y b.y = 0 then lexI (thL a) (thL b) else cmpI a.y b.y
theorem guardArr : Tryz.prog.eqGuardType Tryz.prog.depth 93 = false := by kernel_rfl
theorem lexI_self : ∀ xs : List Int, lexI xs xs = 0
  | [] => rfl
  | x :: xs => by simp [lexI, cmpI_self, lexI_self xs]
theorem orL_two (p q : Int) : orL [p, q] = if p = 0 then q else p := by
  simp only [orL]
  by_cases h : p = 0
  · by_cases k : q = 0 <;> simp [h, k]
  · simp [h]
theorem rowC_box {w : World} {k : Nat} {s : St} (h : w.heap[k]? = some (.cells (stC s).toArray 95 (0, 0))) : RowC w w.heap.size (some ⟨k, 1, none⟩) ((thL s).map (Value.int .i64)) :=
  ⟨by simp [thL], fun _ => ⟨k, 1, rfl, lt_blk h, fun j u hu => by
    rw [cell_blk h]
    rw [Nat.add_comm]
    simpa [thL, stC] using hu⟩⟩
theorem rowC_two (w : World) (x y : Int) : RowC (w.alloc (.cells #[.int .i64 x, .int .i64 y] 3)) (w.heap.size + 1) (some ⟨w.heap.size, 0, none⟩) ([x, y].map (Value.int .i64)) :=
  ⟨by simp, fun _ => ⟨w.heap.size, 0, rfl, Nat.lt_succ_self _, fun j u hu => by
    rw [cell_blk (heap_alloc_self w _)]
    simpa using hu⟩⟩
/-- The fourth part of compare: the years, then the thicknesses. -/
theorem compare_calls (a b : St) (w : World) : Calls Tryz.prog 50 #[stV a, stV b] w fun e w' => e = .returned (.int .i64 (cmpS a b)) ∧ GrowN w w' := by
  have hgd := guardArr
  have heq : ∀ W, (binOp .eql 93 (.agg #[.int .i64 a.a, .int .i64 a.b, .int .i64 a.c, .int .i64 a.d]) (.agg #[.int .i64 b.a, .int .i64 b.b, .int .i64 b.c, .int .i64 b.d])).run Tryz.prog W = .ok (.bool (decide (thL a = thL b))) W := by
    intro W
    rw [run_eql_struct, run_equalIn_four W 9998 _ Tryz.underlying93]
    simp only [Result.andThen_ok]
    congr 2
    rw [Bool.eq_iff_iff]
    simp [thL]
  obtain ⟨W2, hW2⟩ : ∃ W2, W2 = (w.alloc (.cells (stC a).toArray 95)).alloc (.cells (stC b).toArray 95) := ⟨_, rfl⟩
  have hg2 : GrowN w W2 := by rw [hW2]; exact GrowN.trans _ _ _ (GrowN.alloc _ _) (GrowN.alloc _ _)
  have ga : W2.heap[w.heap.size]? = some (.cells (stC a).toArray 95 (0, 0)) := by rw [hW2]; exact (Below.heap_alloc _ _ _ (by simp)).trans (heap_alloc_self _ _)
  have gb : W2.heap[w.heap.size + 1]? = some (.cells (stC b).toArray 95 (0, 0)) := by rw [hW2]; simpa using heap_alloc_self (w.alloc (.cells (stC a).toArray 95)) (.cells (stC b).toArray 95)
  have hq : ∀ w4, GrowN W2 w4 → _ := fun w4 h => And.intro (blk5 (blk_below h.below ga (lt_blk ga))) (And.intro (blk5 (blk_below h.below gb (lt_blk gb))) (And.intro (blk_below h.below ga (lt_blk ga)) (blk_below h.below gb (lt_blk gb))))
  have HQ := Lib.hid hq
  have HG2 := Lib.hid hg2
  have HW2 := Lib.hid hW2
  clear hq hg2 hW2 ga gb
  by_cases hy : a.y = b.y
  · by_cases ht : thL a = thL b
    · have e : cmpS a b = 0 := by unfold cmpS; rw [hy, cmpI_self, if_pos rfl, ht, lexI_self]
      simp only [ht, decide_true] at heq
      go_enter Tryz.func50, Tryz.ntmps50
      simp only [stV, hy]
      go_wp2_with fail
      go_ret
      have hw := HG2.out
      rw [HW2.out] at hw
      simp only [stC, hy] at hw
      exact ⟨ret_int (by show (0 : Int) = _; rw [e]), hw⟩
    · simp only [ht, decide_false] at heq
      go_enter Tryz.func50, Tryz.ntmps50
      simp only [stV]
      have hd : decide (a.y = b.y) = true := by simpa using hy
      have hd2 : (a.y == b.y) = true := by simpa using hy
      clear hy
      go_wp2_with fail
      rw [show (w.alloc (.cells #[.int .i64 a.y, .int .i64 a.a, .int .i64 a.b, .int .i64 a.c, .int .i64 a.d] 95)).alloc (.cells #[.int .i64 b.y, .int .i64 b.a, .int .i64 b.b, .int .i64 b.c, .int .i64 b.d] 95) = W2 from HW2.out.symm]
      refine wp_region_rg_tail 10 GrowN (fun | 4 => .ex (.int .i64 (cmpI a.y b.y)) | 9 => .ex (.int .i64 (lexI (thL a) (thL b))) | _ => .fn) (by kernel_rfl) (by kernel_rfl) GrowN.refl GrowN.trans (by intro i; split <;> trivial) ?_
      iterate 4 (refine rg_step fun K hK => ?_; apply rg_fn rfl; (intro w4 hw; obtain ⟨⟨p0, p1, p2, p3, p4⟩, ⟨q0, q1, q2, q3, q4⟩, _, _⟩ := HQ.out _ hw.undrew; go_simp; try rfl); go_simp; (try with_reducible refine hK _ _ ?_); try clear hK K)
      refine rg_step fun K hK => ?_
      apply rg_call (.inl rfl) rfl
      · intro w4 hw
        go_simp
        exact ⟨rfl, rfl⟩
      · intro w4 hw
        refine (compareInt_calls a.y b.y w4).mono ?_
        rintro e w5 ⟨he, rfl⟩
        exact ⟨he, GrowN.refl _⟩
      go_simp
      (try with_reducible refine hK _ _ ?_)
      try clear hK K
      iterate 4 (refine rg_step fun K hK => ?_; apply rg_fn rfl; (intro w4 hw; obtain ⟨⟨p0, p1, p2, p3, p4⟩, ⟨q0, q1, q2, q3, q4⟩, _, _⟩ := HQ.out _ hw.undrew; go_simp; try rfl); go_simp; (try with_reducible refine hK _ _ ?_); try clear hK K)
      refine rg_step fun K hK => ?_
      apply rg_call (.inl rfl) rfl
      · intro w4 hw
        go_simp
        exact ⟨rfl, rfl⟩
      · intro w4 hw
        obtain ⟨_, _, hba, hbb⟩ := HQ.out _ hw.undrew
        refine (slicesCompare_calls w4.heap.size (some ⟨w.heap.size, 1, none⟩) (some ⟨w.heap.size + 1, 1, none⟩) 4 4 (thL a) (thL b) w4 (rowC_box hba) (rowC_box hbb) rfl (by simp [thL])).mono ?_
        rintro e w5 ⟨he, rfl⟩
        exact ⟨he, GrowN.refl _⟩
      go_simp
      (try with_reducible refine hK _ _ ?_)
      try clear hK K
      refine rg_nil ?_
      intro w5 hw5 _
      replace hw5 := hw5.undrew
      simp only [List.drop_succ_cons, List.drop_zero]
      have hor := or_calls (w5.heap.size + 1) (some ⟨w5.heap.size, 0, none⟩) 2 [cmpI a.y b.y, lexI (thL a) (thL b)] (w5.alloc (.cells #[.int .i64 (cmpI a.y b.y), .int .i64 (lexI (thL a) (thL b))] 3)) (rowC_two _ _ _) (by simp)
      rw [orL_two, show (if cmpI a.y b.y = 0 then lexI (thL a) (thL b) else cmpI a.y b.y) = cmpS a b from rfl] at hor
      have HF := Lib.hid (GrowN.trans _ _ _ HG2.out (GrowN.trans _ _ _ hw5 (GrowN.alloc w5 (.cells #[.int .i64 (cmpI a.y b.y), .int .i64 (lexI (thL a) (thL b))] 3))))
      clear hw5
      go_wp2_with (go_at_call 69; refine hor.mono ?_; rintro e w' ⟨rfl, rfl⟩)
      go_ret
      exact ⟨rfl, HF.out⟩
  · go_enter Tryz.func50, Tryz.ntmps50
    simp only [stV]
    have hd : decide (a.y = b.y) = false := by simpa using hy
    have hd2 : (a.y == b.y) = false := by simpa using hy
    go_wp2_with fail
    rw [show (w.alloc (.cells #[.int .i64 a.y, .int .i64 a.a, .int .i64 a.b, .int .i64 a.c, .int .i64 a.d] 95)).alloc (.cells #[.int .i64 b.y, .int .i64 b.a, .int .i64 b.b, .int .i64 b.c, .int .i64 b.d] 95) = W2 from HW2.out.symm]
    refine wp_region_rg_tail 10 GrowN (fun | 4 => .ex (.int .i64 (cmpI a.y b.y)) | 9 => .ex (.int .i64 (lexI (thL a) (thL b))) | _ => .fn) (by kernel_rfl) (by kernel_rfl) GrowN.refl GrowN.trans (by intro i; split <;> trivial) ?_
    iterate 4 (refine rg_step fun K hK => ?_; apply rg_fn rfl; (intro w4 hw; obtain ⟨⟨p0, p1, p2, p3, p4⟩, ⟨q0, q1, q2, q3, q4⟩, _, _⟩ := HQ.out _ hw.undrew; go_simp; try rfl); go_simp; (try with_reducible refine hK _ _ ?_); try clear hK K)
    refine rg_step fun K hK => ?_
    apply rg_call (.inl rfl) rfl
    · intro w4 hw
      go_simp
      exact ⟨rfl, rfl⟩
    · intro w4 hw
      refine (compareInt_calls a.y b.y w4).mono ?_
      rintro e w5 ⟨he, rfl⟩
      exact ⟨he, GrowN.refl _⟩
    go_simp
    (try with_reducible refine hK _ _ ?_)
    try clear hK K
    iterate 4 (refine rg_step fun K hK => ?_; apply rg_fn rfl; (intro w4 hw; obtain ⟨⟨p0, p1, p2, p3, p4⟩, ⟨q0, q1, q2, q3, q4⟩, _, _⟩ := HQ.out _ hw.undrew; go_simp; try rfl); go_simp; (try with_reducible refine hK _ _ ?_); try clear hK K)
    refine rg_step fun K hK => ?_
    apply rg_call (.inl rfl) rfl
    · intro w4 hw
      go_simp
      exact ⟨rfl, rfl⟩
    · intro w4 hw
      obtain ⟨_, _, hba, hbb⟩ := HQ.out _ hw.undrew
      refine (slicesCompare_calls w4.heap.size (some ⟨w.heap.size, 1, none⟩) (some ⟨w.heap.size + 1, 1, none⟩) 4 4 (thL a) (thL b) w4 (rowC_box hba) (rowC_box hbb) rfl (by simp [thL])).mono ?_
      rintro e w5 ⟨he, rfl⟩
      exact ⟨he, GrowN.refl _⟩
    go_simp
    (try with_reducible refine hK _ _ ?_)
    try clear hK K
    refine rg_nil ?_
    intro w5 hw5 _
    replace hw5 := hw5.undrew
    simp only [List.drop_succ_cons, List.drop_zero]
    have hor := or_calls (w5.heap.size + 1) (some ⟨w5.heap.size, 0, none⟩) 2 [cmpI a.y b.y, lexI (thL a) (thL b)] (w5.alloc (.cells #[.int .i64 (cmpI a.y b.y), .int .i64 (lexI (thL a) (thL b))] 3)) (rowC_two _ _ _) (by simp)
    rw [orL_two, show (if cmpI a.y b.y = 0 then lexI (thL a) (thL b) else cmpI a.y b.y) = cmpS a b from rfl] at hor
    have HF := Lib.hid (GrowN.trans _ _ _ HG2.out (GrowN.trans _ _ _ hw5 (GrowN.alloc w5 (.cells #[.int .i64 (cmpI a.y b.y), .int .i64 (lexI (thL a) (thL b))] 3))))
    clear hw5
    go_wp2_with (go_at_call 69; refine hor.mono ?_; rintro e w' ⟨rfl, rfl⟩)
    go_ret
    exact ⟨rfl, HF.out⟩
end Go.Proofs.YtcbhldfipfcjaaaGreatDoor

namespace Go.Proofs.YtcbhldfipfcjaaaGreatDoor
open Go Go.RowKit Go.Shelf
set_option maxRecDepth 100000

/-- Is n out of lo .. hi? -/
def outB (n lo hi : Int) : Bool := !(decide (lo ≤ n) && decide (n ≤ hi))
def slopeBad (s : Slope) : Bool := outB s.full 1 1000 || outB s.need 0 s.full || outB s.now 0 s.full || outB s.size 1 1000
def takesBad (l : List Int) : Bool := l.any fun t => outB t 0 500
def slopeE (s : Slope) : Int := if slopeBad s then 1 else if 12 < s.takes.length then 3 else if takesBad s.takes then 1 else 0
def craftBad (c : Craft) : Bool := outB c.price 0 10000 || outB c.add 0 1000 || (c.strip && decide (c.add ≠ 0))
def restBad (m : Wk) : Bool := outB m.years 0 40 || outB m.visit 0 1000000 || outB m.hands 0 4
/-- The first error of works. -/
def checkS (m : Wk) : Int :=
  if 4 < m.slopes.length then 3 else if m.slopes.length = 0 then 1 else
  if orL (m.slopes.map slopeE) = 0 then (if 4 < m.crafts.length then 3 else if m.crafts.any craftBad then 1 else if restBad m then 1 else 0) else orL (m.slopes.map slopeE)

theorem outB_false {n lo hi : Int} : outB n lo hi = false ↔ lo ≤ n ∧ n ≤ hi := by simp [outB]
theorem slopeE_ok {s : Slope} (h : slopeE s = 0) : SlopeOk s := by
  unfold slopeE at h
  split at h
  · omega
  · rename_i hb
    split at h
    · omega
    · rename_i hl
      split at h
      · omega
      · rename_i ht
        simp only [slopeBad, Bool.not_eq_true, Bool.or_eq_false_iff, outB_false] at hb
        obtain ⟨⟨⟨h1, h2⟩, h3⟩, h4⟩ := hb
        refine ⟨h1, h2, h3, h4, by omega, fun t hm => ?_⟩
        simp only [takesBad, Bool.not_eq_true, List.any_eq_false] at ht
        exact outB_false.1 (by simpa using ht t hm)
theorem craft_ok {c : Craft} (h : craftBad c = false) : CraftOk c := by
  simp only [craftBad, Bool.or_eq_false_iff, outB_false] at h
  obtain ⟨⟨h1, h2⟩, h3⟩ := h
  refine ⟨h1, h2, fun hs => ?_⟩
  simpa [hs] using h3
theorem orL_zero : ∀ {l : List Int}, orL l = 0 → ∀ x ∈ l, x = 0
  | [], _, x, hx => by simp at hx
  | y :: l, h, x, hx => by
    simp only [orL] at h
    by_cases hy : y = 0
    · rw [if_pos hy] at h
      rcases List.mem_cons.1 hx with rfl | hx
      · exact hy
      · exact orL_zero h x hx
    · rw [if_neg hy] at h; exact absurd h hy
/-- What has no error is within bounds. -/
theorem checkS_ok {m : Wk} (h : checkS m = 0) : m.Ok := by
  unfold checkS at h
  split at h
  · omega
  · rename_i h1
    split at h
    · omega
    · rename_i h2
      split at h
      · rename_i h3
        split at h
        · omega
        · rename_i h4
          split at h
          · omega
          · rename_i h5
            split at h
            · omega
            · rename_i h6
              simp only [restBad, Bool.not_eq_true, Bool.or_eq_false_iff, outB_false] at h6
              obtain ⟨⟨h7, h8⟩, h9⟩ := h6
              refine ⟨by omega, by omega, fun s hs => slopeE_ok (orL_zero h3 _ (List.mem_map_of_mem hs)), by omega, fun c hc => ?_, h7, h8, h9⟩
              simp only [Bool.not_eq_true, List.any_eq_false] at h5
              exact craft_ok (by simpa using h5 c hc)
      · rename_i h3
        exact absurd h h3

theorem in_calls' (n lo hi : Int) (w : World) : Calls Tryz.prog 48 #[.int .i64 n, .int .i64 lo, .int .i64 hi] w fun e w' => e = .returned (.bool (!outB n lo hi)) ∧ w' = w := by
  have h := in_calls n lo hi w
  have e : (!outB n lo hi) = (decide (lo ≤ n) && decide (n ≤ hi)) := by simp [outB]
  rw [e]; exact h

end Go.Proofs.YtcbhldfipfcjaaaGreatDoor
