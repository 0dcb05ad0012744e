/- What the specification's Parse has laid. -/
import Derived.Test.YtcbhldfipfcjaaaGreatDoorY1
import Derived.Test.YtcbhldfipfcjaaaGreatDoorY9
import Derived.Test.YtcbhldfipfcjaaaGreatDoorMy
import Derived.Test.YtcbhldfipfcjaaaGreatDoorY8

/- The specification's lines and words. -/
namespace Go.Proofs.YtcbhldfipfcjaaaGreatDoor
open Go Go.RowKit Go.Shelf
set_option maxRecDepth 100000

theorem infoStrS : (Tryz.prog.info? 9).map (fun i => (i.zero, i.size, i.bytes)) = some (some (.string ⟨#[]⟩), 1, 16) := by kernel_rfl
/-- Strings of one's own. -/
def OwnStr (w : World) (B : Nat) (v : Value) (ss : List ByteArray) : Prop := w.ownsRow B 9 1 v ss.length (ss.map Value.string)
structure PtMid (b : UInt8) (s : ByteArray) (w : World) (i a : Nat) (v : Value) (os : List ByteArray) (W : World) : Prop where
  own : OwnStr W w.heap.size v os
  go : partsG b [] s.data.toList = os.map (fun x => x.data.toList) ++ partsG b ((s.data.toList.take i).drop a) (s.data.toList.drop i)
  few : os.length ≤ i
  below : Below w.heap.size w W
def PartsPost (b : UInt8) (s : ByteArray) (w : World) (e : Ending) (w' : World) : Prop := ∃ v os, e = .returned v ∧ OwnStr w' w.heap.size v os ∧ os.map (fun x => x.data.toList) = partsG b [] s.data.toList ∧ Below w.heap.size w w'
theorem pt_step (b : UInt8) (L : List UInt8) (i a : Nat) (hi : i < L.length) (ha : a ≤ i) :
    partsG b ((L.take i).drop a) (L.drop i) = if L[i] = b then ((L.take i).drop a) :: partsG b ((L.take (i + 1)).drop (i + 1)) (L.drop (i + 1)) else partsG b ((L.take (i + 1)).drop a) (L.drop (i + 1)) := by
  have e1 : (L.take (i + 1)).drop (i + 1) = [] := List.drop_eq_nil_of_le (by rw [List.length_take]; omega)
  have e2 : (L.take (i + 1)).drop a = (L.take i).drop a ++ [L[i]] := by
    rw [List.take_succ_eq_append_getElem hi, List.drop_append_of_le_length (by rw [List.length_take]; omega)]
  rw [List.drop_eq_getElem_cons hi, partsG_cons, e1, e2]
theorem ba_get (s : ByteArray) (i : Nat) (h : i < s.size) : s.data.toList[i]'(by simpa using h) = s[i] := rfl
set_option maxHeartbeats 4000000 in
theorem parts_calls (b : UInt8) (s : ByteArray) (w : World) (hs : s.size ≤ 100000) : Calls Tryz.prog 61 #[.string s, .int .u8 (b.toNat : Int)] w (PartsPost b s w) := by
  go_enter Tryz.func61, Tryz.ntmps61
  go_wp2_with fail
  go_loopw [5, 6, 7] (fun ov av iv wr => ∃ (i a : Nat) (os : List ByteArray), i ≤ s.size ∧ a ≤ i ∧ iv = .int .i64 (i : Int) ∧ av = .int .i64 (a : Int) ∧ (∃ A n c, ov = .slice A n c) ∧ Hid (PtMid b s w i a ov os wr)) (fun _ _ iv _ => s.size - (intOf iv).toNat)
  case atStart => exact ⟨0, 0, [], Nat.zero_le _, Nat.le_refl _, rfl, rfl, ⟨_, _, _, rfl⟩, Lib.hid ⟨⟨rfl, .inl ⟨rfl, rfl⟩⟩, by simp, Nat.le_refl _, Below.refl _ _⟩⟩
  case round =>
    obtain ⟨i, a, os, hi, ha, rfl, rfl, ⟨A, n, c, rfl⟩, HI⟩ := hrel
    obtain ⟨Wr, rfl⟩ : ∃ Wr, Wr = wr := ⟨_, rfl⟩
    by_cases hil : i < s.size
    · have hii : (i : Int) < (s.size : Int) := by omega
      have hi0 : (0 : Int) ≤ (i : Int) := by omega
      have hiadd : IntKind.i64.wrap ((i : Int) + 1) = (i : Int) + 1 := IntWalk.i64_in _ (by omega)
      have hL : i < s.data.toList.length := by simpa using hil
      have hstep := pt_step b s.data.toList i a hL ha
      rw [ba_get s i hil] at hstep
      have hmi := HI.out.go
      rw [hstep] at hmi
      have hx := extract_list s a i
      by_cases hbq : s[i] = b
      · rw [if_pos hbq] at hmi
        have hq : ((s[i].toNat : Int) == (b.toNat : Int)) = true := by rw [hbq]; simp
        have hown := HI.out.own
        have HM := Lib.hid (And.intro hmi hx)
        have hfew := HI.out.few
        clear hstep hbq hmi hx
        go_wp2_with (at_builtin; (refine wpList_app2 w.heap.size _ _ 74 9 (.string ⟨#[]⟩) 1 16 [.string (s.extract a i)] (by rfl) (by rfl) Tryz.underlying74 infoStrS rfl (by decide) (by decide) (.slice A n c) os.length (os.map Value.string) (by rfl) Wr.heap.size (by rfl) (heap_alloc_self _ _) rfl (by simp [Value.oneCell']) (own_below hown (below1 _ _) (fun k hk => (own_blk_lt hown k hk).2)) (by omega) (by have := HI.out.below.size; simp; omega) ?_); intro v8 w8 hown8 hg8 hat8 hb8; obtain ⟨A8, n8, c8, rfl⟩ := own_slice hown8; have H8 := Lib.hid (And.intro hown8 hb8); clear hown8 hg8 hat8 hb8)
        go_round
        case rel => exact ⟨i + 1, i + 1, os ++ [s.extract a i], by omega, Nat.le_refl _, by go_num, by go_num, ⟨_, _, _, rfl⟩, Lib.hid ⟨by
            have := H8.out.1
            unfold OwnStr
            rw [List.length_append, List.map_append]
            exact this, by rw [HM.out.1, List.map_append, List.append_assoc, ← HM.out.2]; rfl, by rw [List.length_append]; simp; omega, HI.out.below.trans (((below1 Wr _).mono HI.out.below.size).trans H8.out.2)⟩⟩
        case measure => simp [intOf]; omega
      · rw [if_neg hbq] at hmi
        have hq : ((s[i].toNat : Int) == (b.toNat : Int)) = false := by
          rw [beq_eq_false_iff_ne]
          intro e
          exact hbq (UInt8.toNat_inj.1 (by omega))
        have HM := Lib.hid hmi
        clear hstep hbq hmi hx
        go_wp2_with fail
        go_round
        case rel => exact ⟨i + 1, a, os, by omega, by omega, by go_num, rfl, ⟨_, _, _, rfl⟩, Lib.hid ⟨HI.out.own, HM.out, Nat.le_succ_of_le HI.out.few, HI.out.below⟩⟩
        case measure => simp [intOf]; omega
    · have hii : ¬ (i : Int) < (s.size : Int) := by omega
      have hin : i = s.size := by omega
      subst hin
      have hown := HI.out.own
      have hfew := HI.out.few
      have hx := extract_list s a s.size
      have hsl : s.size = s.data.toList.length := by simp
      have hmi := HI.out.go
      rw [show s.data.toList.drop s.size = [] from List.drop_eq_nil_of_le (by omega)] at hmi
      have HM := Lib.hid (And.intro hmi hx)
      clear hmi hx hsl
      go_wp2_with (at_builtin; (refine wpList_app2 w.heap.size _ _ 74 9 (.string ⟨#[]⟩) 1 16 [.string (s.extract a s.size)] (by rfl) (by rfl) Tryz.underlying74 infoStrS rfl (by decide) (by decide) (.slice A n c) os.length (os.map Value.string) (by rfl) Wr.heap.size (by rfl) (heap_alloc_self _ _) rfl (by simp [Value.oneCell']) (own_below hown (below1 _ _) (fun k hk => (own_blk_lt hown k hk).2)) (by omega) (by have := HI.out.below.size; simp; omega) ?_); intro v8 w8 hown8 hg8 hat8 hb8; obtain ⟨A8, n8, c8, rfl⟩ := own_slice hown8; have H8 := Lib.hid (And.intro hown8 hb8); clear hown8 hg8 hat8 hb8)
      go_ret
      exact ⟨_, os ++ [s.extract a s.size], rfl, by
        have := H8.out.1
        unfold OwnStr
        rw [List.length_append, List.map_append]
        exact this, by rw [HM.out.1, List.map_append]; simp only [List.map_cons, List.map_nil]; rw [HM.out.2]; rfl, HI.out.below.trans (((below1 Wr _).mono HI.out.below.size).trans H8.out.2)⟩
theorem own_take {w : World} {B : Nat} {t : TypeId} {A : Option Addr} {n c k : Nat} {xs : List Value} (h : w.ownsRow B t 1 (.slice A n c) n xs) (hk : k ≤ n) (h0 : A ≠ none) : w.ownsRow B t 1 (.slice A k c) k (xs.take k) := by
  have hl := h.1
  rcases h.2 with ⟨e, _⟩ | ⟨g, cap, cur, e, hB, hh, hc, hm, hsz, ht⟩
  · simp only [Value.slice.injEq] at e
    exact absurd e.1 h0
  · simp only [Value.slice.injEq] at e
    obtain ⟨rfl, _, rfl⟩ := e
    exact ⟨by rw [List.length_take]; omega, .inr ⟨g, c, cur, rfl, hB, hh, by omega, hm, hsz, by rw [← ht, List.take_take]; congr 1; omega⟩⟩
theorem own_str_at {w : World} {B : Nat} {A : Option Addr} {n c : Nat} {os : List ByteArray} (h : OwnStr w B (.slice A n c) os) (hne : os ≠ []) : n = os.length ∧ n ≤ c ∧ ∃ g, A = some ⟨g, 0, none⟩ ∧ B ≤ g ∧ g < w.heap.size ∧ ∀ (j : Nat) (hj : j < os.length), w.cell? ⟨g, j, none⟩ = some (.string os[j]) := by
  have hn := own_len h
  subst hn
  have hpos := List.length_pos_iff.2 hne
  rcases h.2 with ⟨e, h0⟩ | ⟨g, cap, cur, e, hB, hh, hc, _⟩
  · omega
  · simp only [Value.slice.injEq] at e
    obtain ⟨rfl, _, rfl⟩ := e
    refine ⟨rfl, hc, g, rfl, hB, lt_blk hh, fun j hj => own_cells h j _ ?_⟩
    rw [List.getElem?_map, List.getElem?_eq_getElem hj]
    rfl
def LinesPost (s : ByteArray) (w : World) (e : Ending) (w' : World) : Prop := ∃ v os, e = .returned v ∧ OwnStr w' w.heap.size v os ∧ os.map (fun x => x.data.toList) = linesL s.data.toList ∧ Below w.heap.size w w'
set_option maxHeartbeats 2000000 in
theorem rlines_calls (s : ByteArray) (w : World) (hs : s.size ≤ 100000) : Calls Tryz.prog 34 #[.string s] w (LinesPost s w) := by
  have HP := Lib.hid (parts_calls 10 s w hs)
  go_enter Tryz.func34, Tryz.ntmps34
  go_wp2_with fail
  refine HP.out.mono ?_
  rintro e w1 ⟨v, os, rfl, hown, hgo, hb⟩
  obtain ⟨A, n, c, rfl⟩ := own_slice hown
  have hne : os ≠ [] := fun e => partsG_ne 10 s.data.toList [] (by rw [← hgo, e]; rfl)
  obtain ⟨rfl, hcap, g, rfl, hB, hg, hat⟩ := own_str_at hown hne
  have hpos := List.length_pos_iff.2 hne
  have hlast := hat (os.length - 1) (by omega)
  have hidx : IntKind.i64.wrap ((os.length : Int) - 1) = ((os.length - 1 : Nat) : Int) := by
    rw [show ((os.length : Int) - 1) = ((os.length - 1 : Nat) : Int) by omega]
    exact IntWalk.i64_in _ (by have := partsG_count 10 s.data.toList []; rw [← hgo, List.length_map] at this; have h2 : s.data.toList.length = s.size := by simp
                               omega)
  have hll : (os.map (fun x => x.data.toList)).getLast? = some (os[os.length - 1]'(by omega)).data.toList := by
    rw [List.getLast?_map, List.getLast?_eq_some_getLast hne, List.getLast_eq_getElem]
    rfl
  rw [hgo] at hll
  have HL := Lib.hid (And.intro hll (And.intro hown (And.intro hgo hb)))
  generalize os[os.length - 1]'(by omega) = last at *
  clear hll hown hgo hb HP
  by_cases he : last.data.toList = []
  · have hq : last.toList.isEmpty = true := by rw [ByteArray.toList_eq, he]; rfl
    have hcap2 : os.length ≤ c + 1 := by omega
    go_wp2_with fail
    go_ret
    obtain ⟨hll, hown, hgo, hb⟩ := HL.out
    have ht := own_take hown (k := os.length - 1) (by omega) (by simp)
    refine ⟨_, os.take (os.length - 1), rfl, ?_, ?_, hb⟩
    · unfold OwnStr
      rw [List.length_take, List.map_take, show min (os.length - 1) os.length = os.length - 1 by omega]
      exact ht
    · unfold linesL
      rw [hll, he, if_pos rfl, ← hgo, List.dropLast_eq_take, List.length_map, List.map_take]
  · have hq : last.toList.isEmpty = false := by rw [ByteArray.toList_eq]; simpa using he
    go_wp2_with fail
    go_ret
    obtain ⟨hll, hown, hgo, hb⟩ := HL.out
    exact ⟨_, os, rfl, hown, by
      unfold linesL
      rw [hll, if_neg (fun e => he (Option.some.inj e)), hgo], hb⟩
def WordsPost (s : ByteArray) (w : World) (e : Ending) (w' : World) : Prop := ∃ v ok os, e = .returned (.tuple #[v, .bool ok]) ∧ (∃ A n c, v = .slice A n c) ∧ (ok = true → OwnStr w' w.heap.size v os ∧ os.map (fun x => x.data.toList) = wordsL s.data.toList ∧ ∀ x ∈ wordsL s.data.toList, x ≠ []) ∧ (ok = false → ∃ x ∈ wordsL s.data.toList, x = []) ∧ Below w.heap.size w w'
set_option maxHeartbeats 2000000 in
theorem rwords_calls (s : ByteArray) (w : World) (hs : s.size ≤ 100000) : Calls Tryz.prog 35 #[.string s] w (WordsPost s w) := by
  have HP := Lib.hid (parts_calls 32 s w hs)
  go_enter Tryz.func35, Tryz.ntmps35
  go_wp2_with fail
  refine HP.out.mono ?_
  rintro e w1 ⟨v, os, rfl, hown, hgo, hb⟩
  obtain ⟨A, n, c, rfl⟩ := own_slice hown
  have hne : os ≠ [] := fun e => partsG_ne 32 s.data.toList [] (by rw [← hgo, e]; rfl)
  obtain ⟨rfl, hcap, g, rfl, hB, hg, hat⟩ := own_str_at hown hne
  have hlen : os.length ≤ 100001 := by
    have := partsG_count 32 s.data.toList []
    rw [← hgo, List.length_map] at this
    have h2 : s.data.toList.length = s.size := by simp
    omega
  have HL := Lib.hid (And.intro hown (And.intro hgo hb))
  have HAT := Lib.hid hat
  clear hown hgo hb HP hat hs
  go_wp2_with fail
  go_loop [5] (fun iv => ∃ i : Nat, i ≤ os.length ∧ iv = .int .i64 (i : Int) ∧ Hid (∀ (j : Nat) (hj : j < os.length), j < i → os[j].data.toList ≠ [])) (fun iv => os.length - (intOf iv).toNat)
  case atStart => exact ⟨0, Nat.zero_le _, rfl, Lib.hid (fun j _ h => by omega)⟩
  case round =>
    obtain ⟨i, hi, rfl, HZ⟩ := hrel
    by_cases hil : i < os.length
    · have hii : (i : Int) < (os.length : Int) := by omega
      have hi0 : (0 : Int) ≤ (i : Int) := by omega
      have hiadd : IntKind.i64.wrap ((i : Int) + 1) = (i : Int) + 1 := IntWalk.i64_in _ (by omega)
      have hx := HAT.out i hil
      have hnx : os[i].data.toList ≠ [] → ∀ (j : Nat) (hj : j < os.length), j < i + 1 → os[j].data.toList ≠ [] := fun he j hj hji => by
        rcases Nat.lt_or_ge j i with h | h
        · exact HZ.out j hj h
        · obtain rfl : j = i := by omega
          exact he
      have hmem : os[i].data.toList ∈ wordsL s.data.toList := by
        unfold wordsL
        rw [← HL.out.2.1]
        exact List.mem_map.2 ⟨os[i], List.getElem_mem hil, rfl⟩
      have HNX := Lib.hid (And.intro hnx hmem)
      clear hnx hmem
      generalize os[i] = x at *
      by_cases he : x.data.toList = []
      · have hq : x.toList.isEmpty = true := by rw [ByteArray.toList_eq, he]; rfl
        go_wp2_with fail
        go_ret2
        exact ⟨_, false, [], rfl, ⟨_, _, _, rfl⟩, (by intro h; cases h), fun _ => ⟨_, HNX.out.2, he⟩, HL.out.2.2⟩
      · have hq : x.toList.isEmpty = false := by rw [ByteArray.toList_eq]; simpa using he
        have HNN := Lib.hid (HNX.out.1 he)
        clear he
        go_wp2_with fail
        go_round
        case rel => exact ⟨i + 1, by omega, by go_num, HNN⟩
        case measure => simp [intOf]; omega
    · have hii : ¬ (i : Int) < (os.length : Int) := by omega
      have hin : i = os.length := by omega
      have HZZ := Lib.hid (And.intro hin HZ.out)
      clear hin HZ
      go_wp2_with fail
      go_ret2
      refine ⟨_, true, os, rfl, ⟨_, _, _, rfl⟩, fun _ => ⟨HL.out.1, HL.out.2.1, fun x hx => ?_⟩, (by intro h; cases h), HL.out.2.2⟩
      unfold wordsL at hx
      rw [← HL.out.2.1] at hx
      obtain ⟨y, hy, rfl⟩ := List.mem_map.1 hx
      obtain ⟨j, hj, rfl⟩ := List.getElem_of_mem hy
      exact HZZ.out.2 j hj (by have := HZZ.out.1; omega)
end Go.Proofs.YtcbhldfipfcjaaaGreatDoor

/- The specification's whole numbers. -/
namespace Go.Proofs.YtcbhldfipfcjaaaGreatDoor
open Go Go.RowKit Go.Shelf
set_option maxRecDepth 100000

def WholePost (o : Option Int) (w : World) (e : Ending) (w' : World) : Prop := e = .returned (.tuple #[.int .i64 (o.getD 0), .bool o.isSome]) ∧ w' = w
def signO (neg : Bool) (o : Option Nat) : Option Int := o.map fun u : Nat => if neg then -(u : Int) else (u : Int)
theorem magN_zero {d : List UInt8} {neg : Bool} (h : d.length = 0) : magN d neg = none := by
  unfold magN
  rw [if_pos (.inl (List.length_eq_zero_iff.1 h))]
theorem magN_long {d : List UInt8} {neg : Bool} (h : 10 < d.length) : magN d neg = none := by
  unfold magN
  rw [if_pos (.inr (.inl h))]
theorem magN_lead {d : List UInt8} {neg : Bool} (h : d.head? = some 48) (h2 : 1 < d.length ∨ neg = true) : magN d neg = none := by
  unfold magN
  rw [if_pos (.inr (.inr ⟨h, h2⟩))]
theorem magN_bad {d : List UInt8} {neg : Bool} {c : UInt8} (h : c ∈ d) (h2 : isDig c = false) : magN d neg = none := by
  unfold magN
  split
  · rfl
  · rw [if_neg]
    intro ha
    rw [List.all_eq_true] at ha
    rw [ha c h] at h2
    cases h2
theorem magN_good {d : List UInt8} {neg : Bool} (h0 : ¬ d.length = 0) (h1 : ¬ 10 < d.length) (h2 : ¬ (d.head? = some 48 ∧ (1 < d.length ∨ neg = true))) (h3 : ∀ c ∈ d, isDig c = true) : magN d neg = some (decV 0 d) := by
  unfold magN
  rw [if_neg, if_pos]
  · rw [List.all_eq_true]; exact h3
  · rintro (h | h | h)
    · exact h0 (by rw [h]; rfl)
    · exact h1 h
    · exact h2 h
theorem ba_head (s : ByteArray) (h : 0 < s.size) : s.data.toList.head? = some s[0] := by
  have hl : 0 < s.data.toList.length := by simpa using h
  rw [List.head?_eq_getElem?, List.getElem?_eq_getElem hl]
  rfl
theorem whole_spec (s : ByteArray) : ∃ d neg, numOf s.data.toList = signO neg (magN d neg) ∧ ((neg = false ∧ d = s.data.toList ∧ ∀ h : 0 < s.size, s[0] ≠ 45) ∨ (neg = true ∧ d = s.data.toList.drop 1 ∧ ∃ h : 0 < s.size, s[0] = 45)) := by
  by_cases h : s.data.toList.head? = some 45
  · refine ⟨s.data.toList.drop 1, true, by unfold numOf signO; rw [if_pos h]; rfl, .inr ⟨rfl, rfl, ?_⟩⟩
    have hs : 0 < s.size := by
      rcases Nat.eq_zero_or_pos s.size with e | e
      · have : s.data.toList = [] := by apply List.eq_nil_of_length_eq_zero; simpa using e
        rw [this] at h; cases h
      · exact e
    exact ⟨hs, by rw [ba_head s hs] at h; exact Option.some.inj h⟩
  · exact ⟨s.data.toList, false, by unfold numOf signO; rw [if_neg h]; rfl, .inl ⟨rfl, rfl, fun hs e => h (by rw [ba_head s hs, e])⟩⟩
theorem isDig_iff (c : UInt8) : isDig c = true ↔ ¬ ((c.toNat : Int) < 48) ∧ ¬ ((c.toNat : Int) > 57) := by
  simp only [isDig, decide_eq_true_eq]
  omega
theorem take_dig {L : List UInt8} {i : Nat} (hi : i < L.length) (h : ∀ c ∈ L.take i, isDig c = true) (h2 : isDig L[i] = true) : ∀ c ∈ L.take (i + 1), isDig c = true := by
  intro c hc
  rw [List.take_succ_eq_append_getElem hi] at hc
  rcases List.mem_append.1 hc with e | e
  · exact h c e
  · rw [List.mem_singleton.1 e]; exact h2
theorem decV_take {L : List UInt8} {i : Nat} (hi : i < L.length) : decV 0 (L.take (i + 1)) = decV 0 (L.take i) * 10 + (L[i].toNat - 48) := by
  rw [List.take_succ_eq_append_getElem hi, decV_snoc]
theorem decV_ten {L : List UInt8} (h : ∀ c ∈ L, isDig c = true) (hl : L.length ≤ 10) : decV 0 L < 10000000000 := by
  have h1 := decV_lt L 0 1 h (by omega)
  have h3 : (10 : Nat) ^ L.length ≤ 10 ^ 10 := Nat.pow_le_pow_right (by omega) hl
  have h5 : (10 : Nat) ^ 10 = 10000000000 := by decide
  rw [h5] at h3
  omega
theorem whole_step (d : ByteArray) (i : Nat) (hi : i < d.size) (hle : d.size ≤ 10) (hp : ∀ c ∈ d.data.toList.take i, isDig c = true) (hx : isDig d[i] = true) :
    IntKind.u8.wrap ((d[i].toNat : Int) - 48) = ((d[i].toNat - 48 : Nat) : Int) ∧ IntKind.i64.wrap ((d[i].toNat - 48 : Nat) : Int) = ((d[i].toNat - 48 : Nat) : Int) ∧ IntKind.i64.wrap (10 * ((decV 0 (d.data.toList.take i) : Nat) : Int)) = ((10 * decV 0 (d.data.toList.take i) : Nat) : Int) ∧
    RowKit.wrap64 (10 * ((decV 0 (d.data.toList.take i) : Nat) : Int) + ((d[i].toNat - 48 : Nat) : Int)) = ((decV 0 (d.data.toList.take (i + 1)) : Nat) : Int) ∧ (∀ c ∈ d.data.toList.take (i + 1), isDig c = true) := by
  have hL : i < d.data.toList.length := by simpa using hi
  have hd := (isDig_iff d[i]).1 hx
  have hlt := d[i].toNat_lt
  have h1 := take_dig hL hp hx
  have h2 := decV_take hL
  have h3 := decV_ten h1 (by rw [List.length_take]; omega)
  have h4 := decV_ten hp (by rw [List.length_take]; omega)
  rw [ba_get d i hi] at h2
  refine ⟨?_, ?_, ?_, ?_, h1⟩
  · rw [show ((d[i].toNat : Int) - 48) = ((d[i].toNat - 48 : Nat) : Int) by omega]
    exact IntWalk.u8_in _ ⟨by omega, by omega⟩
  · exact IntWalk.i64_in _ (by omega)
  · rw [show (10 * ((decV 0 (d.data.toList.take i) : Nat) : Int)) = ((10 * decV 0 (d.data.toList.take i) : Nat) : Int) by omega]
    exact IntWalk.i64_in _ (by omega)
  · rw [show (10 * ((decV 0 (d.data.toList.take i) : Nat) : Int) + ((d[i].toNat - 48 : Nat) : Int)) = ((decV 0 (d.data.toList.take (i + 1)) : Nat) : Int) by omega]
    simp only [RowKit.wrap64]
    omega
theorem take_all {L : List UInt8} {n : Nat} (h : n = L.length) : L.take n = L := by rw [h, List.take_length]
theorem mem_at (d : ByteArray) (i : Nat) (hi : i < d.size) : d[i] ∈ d.data.toList := by
  rw [← ba_get d i hi]
  exact List.getElem_mem _
set_option maxHeartbeats 8000000 in
theorem whole_calls (s : ByteArray) (w : World) (hs : s.size ≤ 100000) : Calls Tryz.prog 62 #[.string s] w (WholePost (numOf s.data.toList) w) := by
  obtain ⟨dl, neg, hnum, hcase⟩ := whole_spec s
  rw [hnum]
  have hlen : s.data.toList.length = s.size := by simp
  obtain ⟨d, hd⟩ : ∃ d : ByteArray, d.data.toList = dl := ⟨⟨dl.toArray⟩, rfl⟩
  have hdl : dl.length = d.size := by rw [← hd]; simp
  clear hnum
  go_enter Tryz.func62, Tryz.ntmps62
  by_cases h0 : s.size = 0
  · have hneg : neg = false ∧ dl.length = 0 := by
      rcases hcase with ⟨rfl, rfl, _⟩ | ⟨_, _, h, _⟩
      · exact ⟨rfl, by omega⟩
      · omega
    obtain ⟨rfl, hz⟩ := hneg
    rw [magN_zero hz]
    have hsi : ¬ ((s.size : Int) > 0) := by omega
    have hsz : (s.size : Int) = 0 := by omega
    clear hcase hd hdl
    go_wp2_with fail
    go_ret2
    exact ⟨rfl, rfl⟩
  · have hsi : (s.size : Int) > 0 := by omega
    have hs0 : 0 < s.size := by omega
    rcases hcase with ⟨rfl, rfl, hne⟩ | ⟨rfl, rfl, hs0', heq⟩
    · obtain rfl : d = s := ByteArray.ext (Array.ext' hd)
      have hq5 : ((d[0].toNat : Int) == 45) = false := by
        rw [beq_eq_false_iff_ne]
        intro e
        exact hne hs0 (UInt8.toNat_inj.1 (by have : (45 : UInt8).toNat = 45 := rfl; omega))
      clear hne hd
      go_upto_region 4 with fail
      by_cases hz : d.size = 0
      · have hzi : (d.size : Int) = 0 := by omega
        have HM := Lib.hid (magN_zero (d := d.data.toList) (neg := false) (by omega))
        go_wp2_with fail
        go_ret2
        exact ⟨by rw [HM.out]; rfl, rfl⟩
      · have hd0 : 0 < d.size := by omega
        have hzi : ¬ ((d.size : Int) = 0) := by omega
        have hzb : ((d.size : Int) == 0) = false := by rw [beq_eq_false_iff_ne]; exact hzi
        by_cases hlg : (d.size : Int) > 10
        · have HM := Lib.hid (magN_long (d := d.data.toList) (neg := false) (by omega))
          go_wp2_with fail
          go_ret2
          exact ⟨by rw [HM.out]; rfl, rfl⟩
        · have hhd := ba_head d hd0
          by_cases hld : d[0] = 48 ∧ 1 < d.size
          · have HM := Lib.hid (magN_lead (d := d.data.toList) (neg := false) (by rw [hhd, hld.1]) (.inl (by omega)))
            have hq8 : ((d[0].toNat : Int) == 48) = true := by rw [hld.1]; rfl
            have hgt : (d.size : Int) > 1 := by have := hld.2; omega
            clear hld
            go_wp2_with fail
            go_ret2
            exact ⟨by rw [HM.out]; rfl, rfl⟩
          · have hlead : ¬ (d.data.toList.head? = some 48 ∧ (1 < d.data.toList.length ∨ false = true)) := by
              rintro ⟨h1, h2⟩
              rcases h2 with h2 | h2
              · exact hld ⟨Option.some.inj (hhd.symm.trans h1), by omega⟩
              · cases h2
            have HLD := Lib.hid hlead
            clear hlead hhd
            by_cases h8 : d[0] = 48
            · have hq8 : ((d[0].toNat : Int) == 48) = true := by rw [h8]; rfl
              have hgt : ¬ ((d.size : Int) > 1) := fun h => hld ⟨h8, by omega⟩
              clear h8 hld
              go_wp2_with fail
              go_loop [5, 6] (fun nv iv => ∃ i : Nat, i ≤ d.size ∧ iv = .int .i64 (i : Int) ∧ nv = .int .i64 ((decV 0 (d.data.toList.take i) : Nat) : Int) ∧ Hid (∀ c ∈ d.data.toList.take i, isDig c = true)) (fun _ iv => d.size - (intOf iv).toNat)
              case atStart => exact ⟨0, Nat.zero_le _, rfl, rfl, Lib.hid (fun c h => by simp at h)⟩
              case round =>
                obtain ⟨i, hi, rfl, rfl, HZ⟩ := hrel
                by_cases hil : i < d.size
                · have hii : (i : Int) < (d.size : Int) := by omega
                  have hi0 : (0 : Int) ≤ (i : Int) := by omega
                  have hiadd : IntKind.i64.wrap ((i : Int) + 1) = (i : Int) + 1 := IntWalk.i64_in _ (by omega)
                  by_cases hdg : isDig d[i] = true
                  · have hbl : ¬ ((d[i].toNat : Int) < 48) := ((isDig_iff _).1 hdg).1
                    have hbg : ¬ ((d[i].toNat : Int) > 57) := ((isDig_iff _).1 hdg).2
                    obtain ⟨h1, h2, h3, h4, h5⟩ := whole_step d i hil (by omega) HZ.out hdg
                    have H5 := Lib.hid h5
                    have H4 := Lib.hid h4
                    clear h4 h5 hdg
                    go_wp2_with fail
                    go_round
                    case rel => exact ⟨i + 1, by omega, by go_num, congrArg (Value.int .i64) H4.out, H5⟩
                    case measure => simp [intOf]; omega
                  · have HM := Lib.hid (magN_bad (d := d.data.toList) (neg := false) (c := d[i]) (mem_at d i hil) (by simpa using hdg))
                    by_cases hbl : (d[i].toNat : Int) < 48
                    · clear hdg
                      go_wp2_with fail
                      go_ret2
                      exact ⟨by rw [HM.out]; rfl, rfl⟩
                    · have hbg : (d[i].toNat : Int) > 57 := Classical.byContradiction fun h => hdg ((isDig_iff _).2 ⟨hbl, h⟩)
                      clear hdg
                      go_wp2_with fail
                      go_ret2
                      exact ⟨by rw [HM.out]; rfl, rfl⟩
                · have hii : ¬ (i : Int) < (d.size : Int) := by omega
                  have hta : d.data.toList.take i = d.data.toList := take_all (by omega)
                  have HZ2 := HZ.out
                  rw [hta] at HZ2 ⊢
                  have HM := Lib.hid (magN_good (d := d.data.toList) (neg := false) (by omega) (by omega) (fun h => HLD.out (by simpa using h)) HZ2)
                  have hN := decV_ten HZ2 (by omega)
                  have hneg : IntKind.i64.wrap (-((decV 0 d.data.toList : Nat) : Int)) = -((decV 0 d.data.toList : Nat) : Int) := IntWalk.i64_in _ (by omega)
                  clear HZ HZ2 hta
                  go_wp2_with fail
                  go_ret2
                  exact ⟨by rw [HM.out]; rfl, rfl⟩
            · have hq8 : ((d[0].toNat : Int) == 48) = false := by
                rw [beq_eq_false_iff_ne]
                intro e
                exact h8 (UInt8.toNat_inj.1 (by have : (48 : UInt8).toNat = 48 := rfl; omega))
              clear h8 hld
              go_wp2_with fail
              go_loop [5, 6] (fun nv iv => ∃ i : Nat, i ≤ d.size ∧ iv = .int .i64 (i : Int) ∧ nv = .int .i64 ((decV 0 (d.data.toList.take i) : Nat) : Int) ∧ Hid (∀ c ∈ d.data.toList.take i, isDig c = true)) (fun _ iv => d.size - (intOf iv).toNat)
              case atStart => exact ⟨0, Nat.zero_le _, rfl, rfl, Lib.hid (fun c h => by simp at h)⟩
              case round =>
                obtain ⟨i, hi, rfl, rfl, HZ⟩ := hrel
                by_cases hil : i < d.size
                · have hii : (i : Int) < (d.size : Int) := by omega
                  have hi0 : (0 : Int) ≤ (i : Int) := by omega
                  have hiadd : IntKind.i64.wrap ((i : Int) + 1) = (i : Int) + 1 := IntWalk.i64_in _ (by omega)
                  by_cases hdg : isDig d[i] = true
                  · have hbl : ¬ ((d[i].toNat : Int) < 48) := ((isDig_iff _).1 hdg).1
                    have hbg : ¬ ((d[i].toNat : Int) > 57) := ((isDig_iff _).1 hdg).2
                    obtain ⟨h1, h2, h3, h4, h5⟩ := whole_step d i hil (by omega) HZ.out hdg
                    have H5 := Lib.hid h5
                    have H4 := Lib.hid h4
                    clear h4 h5 hdg
                    go_wp2_with fail
                    go_round
                    case rel => exact ⟨i + 1, by omega, by go_num, congrArg (Value.int .i64) H4.out, H5⟩
                    case measure => simp [intOf]; omega
                  · have HM := Lib.hid (magN_bad (d := d.data.toList) (neg := false) (c := d[i]) (mem_at d i hil) (by simpa using hdg))
                    by_cases hbl : (d[i].toNat : Int) < 48
                    · clear hdg
                      go_wp2_with fail
                      go_ret2
                      exact ⟨by rw [HM.out]; rfl, rfl⟩
                    · have hbg : (d[i].toNat : Int) > 57 := Classical.byContradiction fun h => hdg ((isDig_iff _).2 ⟨hbl, h⟩)
                      clear hdg
                      go_wp2_with fail
                      go_ret2
                      exact ⟨by rw [HM.out]; rfl, rfl⟩
                · have hii : ¬ (i : Int) < (d.size : Int) := by omega
                  have hta : d.data.toList.take i = d.data.toList := take_all (by omega)
                  have HZ2 := HZ.out
                  rw [hta] at HZ2 ⊢
                  have HM := Lib.hid (magN_good (d := d.data.toList) (neg := false) (by omega) (by omega) (fun h => HLD.out (by simpa using h)) HZ2)
                  have hN := decV_ten HZ2 (by omega)
                  have hneg : IntKind.i64.wrap (-((decV 0 d.data.toList : Nat) : Int)) = -((decV 0 d.data.toList : Nat) : Int) := IntWalk.i64_in _ (by omega)
                  clear HZ HZ2 hta
                  go_wp2_with fail
                  go_ret2
                  exact ⟨by rw [HM.out]; rfl, rfl⟩
    · have hq5 : ((s[0].toNat : Int) == 45) = true := by rw [heq]; rfl
      have hx : s.extract 1 s.size = d := by
        apply ByteArray.ext
        apply Array.ext'
        rw [hd, extract_list, List.take_of_length_le (by omega)]
      clear heq
      rw [← hd] at hdl ⊢
      clear hd
      go_upto_region 4 with fail
      clear hx hq5
      by_cases hz : d.size = 0
      · have hzi : (d.size : Int) = 0 := by omega
        have HM := Lib.hid (magN_zero (d := d.data.toList) (neg := true) (by omega))
        go_wp2_with fail
        go_ret2
        exact ⟨by rw [HM.out]; rfl, rfl⟩
      · have hd0 : 0 < d.size := by omega
        have hzi : ¬ ((d.size : Int) = 0) := by omega
        have hzb : ((d.size : Int) == 0) = false := by rw [beq_eq_false_iff_ne]; exact hzi
        by_cases hlg : (d.size : Int) > 10
        · have HM := Lib.hid (magN_long (d := d.data.toList) (neg := true) (by omega))
          go_wp2_with fail
          go_ret2
          exact ⟨by rw [HM.out]; rfl, rfl⟩
        · have hhd := ba_head d hd0
          by_cases hld : d[0] = 48
          · have HM := Lib.hid (magN_lead (d := d.data.toList) (neg := true) (by rw [hhd, hld]) (.inr rfl))
            have hq8 : ((d[0].toNat : Int) == 48) = true := by rw [hld]; rfl
            clear hld
            by_cases hgt : (d.size : Int) > 1
            · go_wp2_with fail
              go_ret2
              exact ⟨by rw [HM.out]; rfl, rfl⟩
            · go_wp2_with fail
              go_ret2
              exact ⟨by rw [HM.out]; rfl, rfl⟩
          · have hq8 : ((d[0].toNat : Int) == 48) = false := by
              rw [beq_eq_false_iff_ne]
              intro e
              exact hld (UInt8.toNat_inj.1 (by have : (48 : UInt8).toNat = 48 := rfl; omega))
            have hlead : ¬ (d.data.toList.head? = some 48 ∧ (1 < d.data.toList.length ∨ true = true)) := fun h => hld (Option.some.inj (hhd.symm.trans h.1))
            have HLD := Lib.hid hlead
            clear hlead hld hhd
            go_wp2_with fail
            go_loop [5, 6] (fun nv iv => ∃ i : Nat, i ≤ d.size ∧ iv = .int .i64 (i : Int) ∧ nv = .int .i64 ((decV 0 (d.data.toList.take i) : Nat) : Int) ∧ Hid (∀ c ∈ d.data.toList.take i, isDig c = true)) (fun _ iv => d.size - (intOf iv).toNat)
            case atStart => exact ⟨0, Nat.zero_le _, rfl, rfl, Lib.hid (fun c h => by simp at h)⟩
            case round =>
              obtain ⟨i, hi, rfl, rfl, HZ⟩ := hrel
              by_cases hil : i < d.size
              · have hii : (i : Int) < (d.size : Int) := by omega
                have hi0 : (0 : Int) ≤ (i : Int) := by omega
                have hiadd : IntKind.i64.wrap ((i : Int) + 1) = (i : Int) + 1 := IntWalk.i64_in _ (by omega)
                by_cases hdg : isDig d[i] = true
                · have hbl : ¬ ((d[i].toNat : Int) < 48) := ((isDig_iff _).1 hdg).1
                  have hbg : ¬ ((d[i].toNat : Int) > 57) := ((isDig_iff _).1 hdg).2
                  obtain ⟨h1, h2, h3, h4, h5⟩ := whole_step d i hil (by omega) HZ.out hdg
                  have H5 := Lib.hid h5
                  have H4 := Lib.hid h4
                  clear h4 h5 hdg
                  go_wp2_with fail
                  go_round
                  case rel => exact ⟨i + 1, by omega, by go_num, congrArg (Value.int .i64) H4.out, H5⟩
                  case measure => simp [intOf]; omega
                · have HM := Lib.hid (magN_bad (d := d.data.toList) (neg := true) (c := d[i]) (mem_at d i hil) (by simpa using hdg))
                  by_cases hbl : (d[i].toNat : Int) < 48
                  · clear hdg
                    go_wp2_with fail
                    go_ret2
                    exact ⟨by rw [HM.out]; rfl, rfl⟩
                  · have hbg : (d[i].toNat : Int) > 57 := Classical.byContradiction fun h => hdg ((isDig_iff _).2 ⟨hbl, h⟩)
                    clear hdg
                    go_wp2_with fail
                    go_ret2
                    exact ⟨by rw [HM.out]; rfl, rfl⟩
              · have hii : ¬ (i : Int) < (d.size : Int) := by omega
                have hta : d.data.toList.take i = d.data.toList := take_all (by omega)
                have HZ2 := HZ.out
                rw [hta] at HZ2 ⊢
                have HM := Lib.hid (magN_good (d := d.data.toList) (neg := true) (by omega) (by omega) (fun h => HLD.out (by simpa using h)) HZ2)
                have hN := decV_ten HZ2 (by omega)
                have hneg : IntKind.i64.wrap (-((decV 0 d.data.toList : Nat) : Int)) = -((decV 0 d.data.toList : Nat) : Int) := IntWalk.i64_in _ (by omega)
                clear HZ HZ2 hta
                go_wp2_with fail
                go_ret2
                exact ⟨by rw [HM.out]; rfl, rfl⟩
end Go.Proofs.YtcbhldfipfcjaaaGreatDoor

/- The specification's numbers of a line. -/
namespace Go.Proofs.YtcbhldfipfcjaaaGreatDoor
open Go Go.RowKit Go.Shelf
set_option maxRecDepth 100000

structure WlMid (w : World) (os : List ByteArray) (i : Nat) (v : Value) (xs : List Int) (W : World) : Prop where
  own : W.ownsRow w.heap.size 3 1 v xs.length (xs.map (Value.int .i64))
  go : numsL ((os.take i).map fun x => x.data.toList) = some xs
  below : Below w.heap.size w W
def WholesPost (L : List (List UInt8)) (w : World) (e : Ending) (w' : World) : Prop := ∃ v, e = .returned (.tuple #[v, .bool (numsL L).isSome]) ∧ (∃ A n c, v = .slice A n c) ∧ (∀ xs, numsL L = some xs → w'.ownsRow w.heap.size 3 1 v xs.length (xs.map (Value.int .i64))) ∧ Below w.heap.size w w'
def StrAt (w : World) (A : Option Addr) (os : List ByteArray) : Prop := os ≠ [] → ∃ g o, A = some ⟨g, o, none⟩ ∧ g < w.heap.size ∧ ∀ (j : Nat) (hj : j < os.length), w.cell? ⟨g, o + j, none⟩ = some (.string os[j])
theorem wl_none {os : List ByteArray} {i : Nat} (hi : i < os.length) (h : numOf os[i].data.toList = none) : numsL (os.map fun x => x.data.toList) = none := by
  have e : os = os.take i ++ os[i] :: os.drop (i + 1) := by rw [← List.drop_eq_getElem_cons hi, List.take_append_drop]
  rw [e, List.map_append, List.map_cons]
  exact numsL_none _ _ _ h
theorem wl_snoc {os : List ByteArray} {i : Nat} {xs : List Int} {n : Int} (hi : i < os.length) (h : numsL ((os.take i).map fun x => x.data.toList) = some xs) (hn : numOf os[i].data.toList = some n) : numsL ((os.take (i + 1)).map fun x => x.data.toList) = some (xs ++ [n]) := by
  rw [List.take_succ_eq_append_getElem hi, List.map_append, List.map_cons, List.map_nil, numsL_snoc _ _ _ h, hn]
  rfl
set_option maxHeartbeats 4000000 in
theorem wholes_calls (A : Option Addr) (c : Nat) (os : List ByteArray) (w : World) (hA : StrAt w A os) (hl : os.length ≤ 100001) (hs : ∀ x ∈ os, x.size ≤ 100000) : Calls Tryz.prog 36 #[.slice A os.length c] w (WholesPost (os.map fun x => x.data.toList) w) := by
  have HA := Lib.hid hA
  have HS := Lib.hid hs
  clear hA hs
  go_enter Tryz.func36, Tryz.ntmps36
  go_wp2_with fail
  go_loopw [4, 5] (fun ov iv wr => ∃ (i : Nat) (xs : List Int), i ≤ os.length ∧ iv = .int .i64 (i : Int) ∧ (∃ A n c, ov = .slice A n c) ∧ Hid (WlMid w os i ov xs wr)) (fun _ iv _ => os.length - (intOf iv).toNat)
  case atStart => exact ⟨0, [], Nat.zero_le _, rfl, ⟨_, _, _, rfl⟩, Lib.hid ⟨⟨rfl, .inl ⟨rfl, rfl⟩⟩, rfl, Below.refl _ _⟩⟩
  case round =>
    obtain ⟨i, xs, hi, rfl, ⟨A2, n2, c2, rfl⟩, HI⟩ := hrel
    obtain ⟨Wr, rfl⟩ : ∃ Wr, Wr = wr := ⟨_, rfl⟩
    by_cases hil : i < os.length
    · have hii : (i : Int) < (os.length : Int) := by omega
      have hi0 : (0 : Int) ≤ (i : Int) := by omega
      have hiadd : IntKind.i64.wrap ((i : Int) + 1) = (i : Int) + 1 := IntWalk.i64_in _ (by omega)
      obtain ⟨g, o, rfl, hg, hat⟩ := HA.out (fun e => by rw [e] at hil; simp at hil)
      have hx : Wr.cell? ⟨g, o + i, none⟩ = some (.string os[i]) := (HI.out.below.cell (p := ⟨g, o + i, none⟩) hg).trans (hat i hil)
      have HX := Lib.hid (And.intro (HS.out os[i] (List.getElem_mem hil)) (And.intro (wl_none hil) (fun n => wl_snoc (n := n) hil HI.out.go)))
      have HT := Lib.hid hat
      clear hat
      generalize os[i] = x at *
      go_wp2_with fail
      refine (whole_calls x Wr HX.out.1).mono ?_
      rintro e w4 ⟨rfl, rfl⟩
      cases hn : numOf x.data.toList with
      | none =>
        have HN := Lib.hid (HX.out.2.1 hn)
        simp only [Option.getD_none, Option.isSome_none]
        clear hn
        go_wp2_with fail
        go_ret2
        exact ⟨_, by rw [HN.out]; rfl, ⟨_, _, _, rfl⟩, fun xs h => by rw [HN.out] at h; (cases h), HI.out.below⟩
      | some n =>
        have HN := Lib.hid (HX.out.2.2 n hn)
        simp only [Option.getD_some, Option.isSome_some]
        have hown := HI.out.own
        have hlx : xs.length ≤ 100001 := by have := numsL_length _ _ HI.out.go; rw [List.length_map, List.length_take] at this; omega
        clear hn
        go_wp2_with (at_builtin; (refine wpList_app2 w.heap.size _ _ 35 3 (.int .i64 0) 1 8 [.int .i64 n] (by rfl) (by rfl) Tryz.underlying35 infoInt rfl (by decide) (by decide) (.slice A2 n2 c2) xs.length (xs.map (Value.int .i64)) (by rfl) w4.heap.size (by rfl) (heap_alloc_self _ _) rfl (by simp [Value.oneCell']) (own_below hown (below1 _ _) (fun k hk => (own_blk_lt hown k hk).2)) (by omega) (by have := HI.out.below.size; simp; omega) ?_); intro v8 w8 hown8 hg8 hat8 hb8; obtain ⟨A8, n8, c8, rfl⟩ := own_slice hown8; have H8 := Lib.hid (And.intro hown8 hb8); clear hown8 hg8 hat8 hb8)
        go_round
        case rel => exact ⟨i + 1, xs ++ [n], by omega, by go_num, ⟨_, _, _, rfl⟩, Lib.hid ⟨by
            have := H8.out.1
            rw [List.length_append, List.map_append]
            exact this, HN.out, HI.out.below.trans (((below1 w4 _).mono HI.out.below.size).trans H8.out.2)⟩⟩
        case measure => simp [intOf]; omega
    · have hii : ¬ (i : Int) < (os.length : Int) := by omega
      have hin : i = os.length := by omega
      have hgo := HI.out.go
      rw [hin, List.take_length] at hgo
      have HG := Lib.hid hgo
      clear hgo
      go_wp2_with fail
      go_ret2
      refine ⟨_, by rw [HG.out]; rfl, ⟨_, _, _, rfl⟩, fun ys h => ?_, HI.out.below⟩
      rw [HG.out] at h
      obtain rfl := Option.some.inj h
      exact HI.out.own
end Go.Proofs.YtcbhldfipfcjaaaGreatDoor

namespace Go.Proofs.YtcbhldfipfcjaaaGreatDoor
open Go Go.RowKit Go.Shelf
set_option maxRecDepth 100000
attribute [local go_sem] Oper.semAt_some

theorem lineS_empty (first : Bool) (m : Wk) (l : List UInt8) (h : ∃ x ∈ wordsL l, x = []) : lineS first m l = none := by
  obtain ⟨x, hx, rfl⟩ := h
  unfold lineS
  cases hw : wordsL l with
  | nil => rw [hw] at hx; cases hx
  | cons y ys =>
    rw [hw] at hx
    simp only [List.tail_cons, List.headD_cons]
    rcases List.mem_cons.1 hx with e | e
    · subst e
      cases numsL ys with
      | none => rfl
      | some n =>
        show lineN first m [] n = none
        unfold lineN
        split
        · rfl
        · simp [bWorks, bSlope, bAdd, bStrip]
    · have hn : numsL ys = none := by
        obtain ⟨p, q, rfl⟩ := List.append_of_mem e
        exact numsL_none _ _ _ (by rfl)
      rw [hn]
theorem results_rparse {tmps : Array Value} {w : World} {b0 : Nat} {cs : Array Value} {x y : Int} (h0 : tmps.getD 2 undef = .pointer (some ⟨b0, 0, none⟩)) (h1 : tmps.getD 3 undef = .int .i64 x) (h2 : tmps.getD 4 undef = .int .i64 y)
    (g0 : w.heap[b0]? = some (.cells cs 25 (0, 0))) (hcs : cs.size = 5) : (results Tryz.f10 tmps).run Tryz.prog w = .ok (.tuple #[.agg cs, .int .i64 x, .int .i64 y]) w := by
  have e0 := run_loadVar_row (P := Tryz.prog) w b0 25 25 cs (0, 0) _ g0 Tryz.underlying25 (by rfl) (by rw [hcs]; exact infoWorksZ)
  have hr : Func.results Tryz.f10 = #[.cell 2 25, .tmp 3, .tmp 4] := by rfl
  have h0' : tmps[2]?.getD undef = .pointer (some ⟨b0, 0, none⟩) := by simpa using h0
  have h1' : tmps[3]?.getD undef = .int .i64 x := by simpa using h1
  have h2' : tmps[4]?.getD undef = .int .i64 y := by simpa using h2
  simp [results, hr, h0', h1', h2', asAddr, e0]
def setWorks (W : World) (r : Nat) (v0 v1 : Value) (x y z : Int) : World :=
  ((((W.setCell ⟨r, 0, none⟩ v0).setCell ⟨r, 1, none⟩ v1).setCell ⟨r, 2, none⟩ (.int .i64 x)).setCell ⟨r, 3, none⟩ (.int .i64 y)).setCell ⟨r, 4, none⟩ (.int .i64 z)
structure WSet (W : World) (r : Nat) (v0 v1 : Value) (x y z : Int) (W' : World) : Prop where
  box : W'.heap[r]? = some (.cells #[v0, v1, .int .i64 x, .int .i64 y, .int .i64 z] 25 (0, 0))
  same : ∀ j, j ≠ r → W'.heap[j]? = W.heap[j]?
  below : Below r W W'
theorem setWorks_set {W : World} {r : Nat} {u0 u1 u2 u3 u4 : Value} (v0 v1 : Value) (x y z : Int) (g0 : W.heap[r]? = some (.cells #[u0, u1, u2, u3, u4] 25 (0, 0))) : WSet W r v0 v1 x y z (setWorks W r v0 v1 x y z) := by
  have o1 : ∀ (w : World) (i : Nat) (v : Value) (j : Nat), j ≠ r → (w.setCell ⟨r, i, none⟩ v).heap[j]? = w.heap[j]? := fun w i v j h => Below.heap_setCell _ _ _ _ h
  unfold setWorks
  refine ⟨?_, fun j h => ?_, ((((((Below.refl r W).setCell (p := ⟨r, 0, none⟩) (Nat.le_refl _) _).setCell (p := ⟨r, 1, none⟩) (Nat.le_refl _) _).setCell (p := ⟨r, 2, none⟩) (Nat.le_refl _) _).setCell (p := ⟨r, 3, none⟩) (Nat.le_refl _) _).setCell (p := ⟨r, 4, none⟩) (Nat.le_refl _) _)⟩
  · rw [heap_set (heap_set (heap_set (heap_set (heap_set g0 0 _) 1 _) 2 _) 3 _) 4 _]; rfl
  · rw [o1 _ _ _ _ h, o1 _ _ _ _ h, o1 _ _ _ _ h, o1 _ _ _ _ h, o1 _ _ _ _ h]
/-- A return with a line and an error alone. -/
theorem rparse_bad {s : List UInt8} {w W : World} {k e : Int} (hp : parseS s = (wk0, k, e)) (g0 : W.heap[w.heap.size]? = some (.cells #[.slice none 0 0, .slice none 0 0, .int .i64 0, .int .i64 0, .int .i64 0] 25 (0, 0))) (hb : Below w.heap.size w W) :
    ParsePost s w (.returned (.tuple #[.agg #[.slice none 0 0, .slice none 0 0, .int .i64 0, .int .i64 0, .int .i64 0], .int .i64 k, .int .i64 e])) W ∧
    W.heap[w.heap.size]? = some (.cells #[.slice none 0 0, .slice none 0 0, .int .i64 0, .int .i64 0, .int .i64 0] 25 (0, 0)) := by
  refine ⟨⟨.slice none 0 0, .slice none 0 0, ?_, ?_, ?_, hb⟩, g0⟩
  · rw [hp]; rfl
  · rw [hp]; exact slopesAt_nil _
  · rw [hp]; exact craftsAt_nil _
theorem rparse_bad2 {s : List UInt8} {w W : World} {k e : Int} (hp : parseS s = (wk0, k, e)) (g0 : W.heap[w.heap.size]? = some (.cells #[.slice none 0 0, .slice none 0 0, .int .i64 0, .int .i64 0, .int .i64 0] 25 (0, 0))) (hb : Below w.heap.size w W) :
    ParsePost s w (.returned (.tuple #[.agg #[.slice none 0 0, .slice none 0 0, .int .i64 0, .int .i64 0, .int .i64 0], .int .i64 k, .int .i64 e])) (((((W.setCell ⟨w.heap.size, 0, none⟩ (.slice none 0 0)).setCell ⟨w.heap.size, 1, none⟩ (.slice none 0 0)).setCell ⟨w.heap.size, 2, none⟩ (.int .i64 0)).setCell ⟨w.heap.size, 3, none⟩ (.int .i64 0)).setCell ⟨w.heap.size, 4, none⟩ (.int .i64 0)) ∧
    (((((W.setCell ⟨w.heap.size, 0, none⟩ (.slice none 0 0)).setCell ⟨w.heap.size, 1, none⟩ (.slice none 0 0)).setCell ⟨w.heap.size, 2, none⟩ (.int .i64 0)).setCell ⟨w.heap.size, 3, none⟩ (.int .i64 0)).setCell ⟨w.heap.size, 4, none⟩ (.int .i64 0)).heap[w.heap.size]? = some (.cells #[.slice none 0 0, .slice none 0 0, .int .i64 0, .int .i64 0, .int .i64 0] 25 (0, 0)) := by
  have h := setWorks_set (.slice none 0 0) (.slice none 0 0) 0 0 0 g0
  exact rparse_bad hp h.box (hb.trans h.below)
/-- The works that are being read. -/
structure RpAt (b : Nat) (w1 : World) (m : Wk) (v cr : Value) (W : World) : Prop where
  box : W.heap[b]? = some (.cells #[v, cr, .int .i64 m.years, .int .i64 m.visit, .int .i64 m.hands] 25 (0, 0))
  sl : OwnSq W (b + 1) v m.slopes
  own : W.ownsRow (b + 1) 67 3 cr m.crafts.length (cellsC m.crafts)
  below : Below b w1 W
  big : b + 1 ≤ W.heap.size
theorem RpAt.later {b : Nat} {w1 W W' : World} {m : Wk} {v cr : Value} (h : RpAt b w1 m v cr W) (hb : Below W.heap.size W W') : RpAt b w1 m v cr W' := by
  have hbg := h.big
  exact ⟨blk_below hb h.box (lt_blk h.box), h.sl.kept fun b cs t _ hk _ => hb.block b (lt_blk hk), own_kept h.own fun b hk => hb.block b (own_blk_lt h.own b hk).2, h.below.trans (hb.mono (by omega)), Nat.le_trans hbg hb.size⟩
theorem RpAt.nums {b : Nat} {w1 W : World} {m : Wk} {v cr : Value} (h : RpAt b w1 m v cr W) (x y z : Int) :
    RpAt b w1 { m with years := x, visit := y, hands := z } v cr (((W.setCell ⟨b, 2, none⟩ (.int .i64 x)).setCell ⟨b, 3, none⟩ (.int .i64 y)).setCell ⟨b, 4, none⟩ (.int .i64 z)) := by
  have hsz : (((W.setCell ⟨b, 2, none⟩ (.int .i64 x)).setCell ⟨b, 3, none⟩ (.int .i64 y)).setCell ⟨b, 4, none⟩ (.int .i64 z)).heap.size = W.heap.size := by simp [World.setCell]
  have ho : ∀ j, j ≠ b → (((W.setCell ⟨b, 2, none⟩ (.int .i64 x)).setCell ⟨b, 3, none⟩ (.int .i64 y)).setCell ⟨b, 4, none⟩ (.int .i64 z)).heap[j]? = W.heap[j]? := fun j hj => by
    rw [Below.heap_setCell _ _ _ _ (by exact hj), Below.heap_setCell _ _ _ _ (by exact hj), Below.heap_setCell _ _ _ _ (by exact hj)]
  have hbg := h.big
  refine ⟨?_, h.sl.kept fun k cs t hB hk _ => ho k (by omega), own_kept h.own fun k hk => ho k (by have := (own_blk_lt h.own k hk).1; omega), ?_, by omega⟩
  · rw [heap_set (heap_set (heap_set h.box 2 _) 3 _) 4 _]; rfl
  · exact ((h.below.setCell (p := ⟨b, 2, none⟩) (Nat.le_refl _) _).setCell (p := ⟨b, 3, none⟩) (Nat.le_refl _) _).setCell (p := ⟨b, 4, none⟩) (Nat.le_refl _) _
theorem RpAt.nums2 {b : Nat} {w1 W W7 : World} {m : Wk} {v cr : Value} (h : RpAt b w1 m v cr W) (x y z : Int) (hbox : W7.heap[b]? = some (.cells #[v, cr, .int .i64 x, .int .i64 y, .int .i64 z] 25 (0, 0)))
    (ho : ∀ j, j ≠ b → j < W.heap.size → W7.heap[j]? = W.heap[j]?) (hz : W.heap.size ≤ W7.heap.size) (hb : Below b w1 W7) : RpAt b w1 { m with years := x, visit := y, hands := z } v cr W7 := by
  have hbg := h.big
  exact ⟨hbox, h.sl.kept fun k cs t hB hk _ => ho k (by omega) (lt_blk hk), own_kept h.own fun k hk => ho k (by have := (own_blk_lt h.own k hk).1; omega) (own_blk_lt h.own k hk).2, hb, by omega⟩
theorem RpAt.slope {b : Nat} {w1 W w8 : World} {m : Wk} {v cr v8 u : Value} {x : Slope} {us : List Value} (h : RpAt b w1 m v cr W) (h1 : us.length = m.slopes.length) (h4 : W.ownsRow (b + 1) 37 5 v m.slopes.length (cellsSl m.slopes us))
    (h5 : ∀ (i : Nat) (s : Slope), m.slopes[i]? = some s → ∃ u, us[i]? = some u ∧ TakesAt W (b + 1) u s.takes) (hu : TakesAt W (b + 1) u x.takes)
    (hown : w8.ownsRow (b + 1) 37 5 v8 (m.slopes.length + 1) (cellsSl m.slopes us ++ [.int .i64 x.now, .int .i64 x.need, .int .i64 x.full, .int .i64 x.size, u])) (hg : W.grownBy w8 v.ownBlock) (hb8 : Below (b + 1) W w8) :
    w8.heap[b]? = some (.cells #[v, cr, .int .i64 m.years, .int .i64 m.visit, .int .i64 m.hands] 25 (0, 0)) ∧ RpAt b w1 { m with slopes := m.slopes ++ [x] } v8 cr (w8.setCell ⟨b, 0, none⟩ v8) := by
  have hbg := h.big
  have hbx := blk_below hb8 h.box (by omega)
  have ho : ∀ j, j ≠ b → (w8.setCell ⟨b, 0, none⟩ v8).heap[j]? = w8.heap[j]? := fun j hj => Below.heap_setCell _ _ _ _ hj
  have hsz : (w8.setCell ⟨b, 0, none⟩ v8).heap.size = w8.heap.size := by simp [World.setCell]
  have hs8 := OwnSq.snoc (x := x) h1 h4 h5 hu hown hg
  have hc8 : w8.ownsRow (b + 1) 67 3 cr m.crafts.length (cellsC m.crafts) := own_kept h.own (fun k hk => hg.block k (own_blk_lt h.own k hk).2 (fun e => by
    obtain ⟨cur, hcu⟩ := own_type h4 k e.symm
    obtain ⟨cu2, hc2⟩ := own_type h.own k hk
    rw [hc2] at hcu
    simp at hcu))
  exact ⟨hbx, (heap_set hbx 0 _).trans rfl, hs8.kept fun k cs t hB _ _ => ho k (by omega), own_kept hc8 fun k hk => ho k (by have := (own_blk_lt hc8 k hk).1; omega),
    (h.below.trans (hb8.mono (by omega))).setCell (p := ⟨b, 0, none⟩) (Nat.le_refl _) _, by have := hb8.size; omega⟩
theorem RpAt.craft {b : Nat} {w1 W w8 : World} {m : Wk} {v cr cr8 : Value} {c : Craft} (h : RpAt b w1 m v cr W)
    (hown : w8.ownsRow (b + 1) 67 3 cr8 (m.crafts.length + 1) (cellsC m.crafts ++ [.int .i64 c.add, .int .i64 c.price, .bool c.strip])) (hg : W.grownBy w8 cr.ownBlock) (hb8 : Below (b + 1) W w8) :
    w8.heap[b]? = some (.cells #[v, cr, .int .i64 m.years, .int .i64 m.visit, .int .i64 m.hands] 25 (0, 0)) ∧ RpAt b w1 { m with crafts := m.crafts ++ [c] } v cr8 (w8.setCell ⟨b, 1, none⟩ cr8) := by
  have hbg := h.big
  have hbx := blk_below hb8 h.box (by omega)
  have ho : ∀ j, j ≠ b → (w8.setCell ⟨b, 1, none⟩ cr8).heap[j]? = w8.heap[j]? := fun j hj => Below.heap_setCell _ _ _ _ hj
  have hsz : (w8.setCell ⟨b, 1, none⟩ cr8).heap.size = w8.heap.size := by simp [World.setCell]
  have hs8 : OwnSq w8 (b + 1) v m.slopes := h.sl.kept fun k cs t _ hk ht => hg.block k (lt_blk hk) (fun e => by
    obtain ⟨cur, hcu⟩ := own_type h.own k e.symm
    rw [hcu] at hk
    rcases ht with ht | ht <;> subst ht <;> simp at hk)
  have e : cellsC (m.crafts ++ [c]) = cellsC m.crafts ++ [.int .i64 c.add, .int .i64 c.price, .bool c.strip] := by simp [cellsC]
  refine ⟨hbx, (heap_set hbx 1 _).trans rfl, hs8.kept fun k cs t hB _ _ => ho k (by omega), ?_, (h.below.trans (hb8.mono (by omega))).setCell (p := ⟨b, 1, none⟩) (Nat.le_refl _) _, by have := hb8.size; omega⟩
  show World.ownsRow _ _ _ _ _ (m.crafts ++ [c]).length (cellsC (m.crafts ++ [c]))
  rw [e, List.length_append]
  exact own_kept hown fun k hk => ho k (by have := (own_blk_lt hown k hk).1; omega)
theorem rparse_good {s : List UInt8} {b : Nat} {w w1 W : World} {m : Wk} {v cr : Value} (h : RpAt b w1 m v cr W) (hp : parseS s = (m, 0, 0)) (g0 : W.heap[w.heap.size]? = some (.cells #[.slice none 0 0, .slice none 0 0, .int .i64 0, .int .i64 0, .int .i64 0] 25 (0, 0))) (hb : Below w.heap.size w W) (hr : w.heap.size < b)
    (hl : m.slopes.length ≤ 9223372036854775807) (hc : m.crafts.length ≤ 9223372036854775807) (ht : ∀ x ∈ m.slopes, x.takes.length ≤ 9223372036854775807) :
    ParsePost s w (.returned (.tuple #[.agg #[v, cr, .int .i64 m.years, .int .i64 m.visit, .int .i64 m.hands], .int .i64 0, .int .i64 0])) (((((W.setCell ⟨w.heap.size, 0, none⟩ v).setCell ⟨w.heap.size, 1, none⟩ cr).setCell ⟨w.heap.size, 2, none⟩ (.int .i64 m.years)).setCell ⟨w.heap.size, 3, none⟩ (.int .i64 m.visit)).setCell ⟨w.heap.size, 4, none⟩ (.int .i64 m.hands)) ∧
    (((((W.setCell ⟨w.heap.size, 0, none⟩ v).setCell ⟨w.heap.size, 1, none⟩ cr).setCell ⟨w.heap.size, 2, none⟩ (.int .i64 m.years)).setCell ⟨w.heap.size, 3, none⟩ (.int .i64 m.visit)).setCell ⟨w.heap.size, 4, none⟩ (.int .i64 m.hands)).heap[w.heap.size]? = some (.cells #[v, cr, .int .i64 m.years, .int .i64 m.visit, .int .i64 m.hands] 25 (0, 0)) := by
  have h1 := setWorks_set v cr m.years m.visit m.hands g0
  refine ⟨⟨v, cr, ?_, ?_, ?_, hb.trans h1.below⟩, h1.box⟩
  · rw [hp]
  · rw [hp]
    exact own_slopesQ (h.sl.kept fun k cs t hB _ _ => h1.same k (by omega)) hl ht
  · rw [hp]
    exact own_craftsAt (own_kept h.own fun k hk => h1.same k (by have := (own_blk_lt h.own k hk).1; omega)) hc
structure RpInv (b : Nat) (w1 : World) (R : Nat × Option Wk) (ls : List (List UInt8)) (i : Nat) (m : Wk) (v cr : Value) (W : World) : Prop where
  laid : RpAt b w1 m v cr W
  go : parseGo i m (ls.drop i) = R
  few : m.slopes.length + m.crafts.length ≤ i
  takes : ∀ x ∈ m.slopes, x.takes.length ≤ 100001
theorem rp_step {R : Nat × Option Wk} {ls : List (List UInt8)} {i : Nat} {m : Wk} (hi : i < ls.length) (h : parseGo i m (ls.drop i) = R) : (lineS (i == 0) m ls[i] = none → R = (i + 1, none)) ∧ (∀ m', lineS (i == 0) m ls[i] = some m' → parseGo (i + 1) m' (ls.drop (i + 1)) = R) := by
  rw [List.drop_eq_getElem_cons hi, parseGo] at h
  refine ⟨fun e => ?_, fun m' e => ?_⟩
  · rw [e] at h; exact h.symm
  · rw [e] at h; exact h
theorem rp_stop {s : ByteArray} {R : Nat × Option Wk} {i : Nat} (hs : (s.size : Int) ≤ 65536) (hR : parseGo 0 wk0 (linesL s.data.toList) = R) (h : R = (i + 1, none)) : parseS s.data.toList = (wk0, (i : Int) + 1, 4) := by
  unfold parseS
  have hl : s.data.toList.length = s.size := by simp
  rw [if_neg (by omega), hR, h]
  show (wk0, ((i + 1 : Nat) : Int), (4 : Int)) = _
  rw [show ((i + 1 : Nat) : Int) = (i : Int) + 1 by omega]
theorem rp_done {s : ByteArray} {R : Nat × Option Wk} {ls : List (List UInt8)} {m : Wk} (hs : (s.size : Int) ≤ 65536) (hls : ls = linesL s.data.toList) (hne : ls ≠ []) (hR : parseGo 0 wk0 (linesL s.data.toList) = R) (h : parseGo ls.length m (ls.drop ls.length) = R) : parseS s.data.toList = if checkS m = 0 then (m, 0, 0) else (wk0, 0, checkS m) := by
  unfold parseS
  have hl : s.data.toList.length = s.size := by simp
  rw [List.drop_length, parseGo] at h
  rw [if_neg (by omega), hR, ← h]
  show (if ls.length = 0 then _ else _) = _
  rw [if_neg (fun e => hne (List.eq_nil_of_length_eq_zero e))]
end Go.Proofs.YtcbhldfipfcjaaaGreatDoor
