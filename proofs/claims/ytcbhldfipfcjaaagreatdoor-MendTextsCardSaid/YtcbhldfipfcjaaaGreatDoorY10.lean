/- The specification's text of works. -/
import Derived.Test.YtcbhldfipfcjaaaGreatDoorY1
import Derived.Test.YtcbhldfipfcjaaaGreatDoorY9
import Derived.Lib.ItoaLen
import Derived.Test.YtcbhldfipfcjaaaGreatDoorRd
import Derived.Test.YtcbhldfipfcjaaaGreatDoorVe

/- The specification's numbers and rows of text. -/
namespace Go.Proofs.YtcbhldfipfcjaaaGreatDoor
open Go Go.RowKit Go.Shelf
set_option maxRecDepth 100000

theorem enc_dig : ∀ k : Fin 10, Utf8.encode (48 + (k.val : Int)) = ⟨#[UInt8.ofNat (48 + k.val)]⟩ := by decide +kernel
theorem dec_short {n : Nat} (h : n < 9223372036854775808) : (Lib.decDigits n).length ≤ 20 := by
  rw [Lib.decDigits_length]; exact Lib.nDigits_le20 n (by omega)
theorem ret_bytes {a b : ByteArray} (h : a = b) : Ending.returned (.string a) = .returned (.string b) := by rw [h]
theorem digits_calls (n : Nat) : ∀ (w : World), n < 9223372036854775808 → Calls Tryz.prog 98 #[.int .u64 (n : Int)] w fun e w' => e = .returned (.string ⟨(Lib.decDigits n).toArray⟩) ∧ Below w.heap.size w w' := by
  induction n using Nat.strongRecOn with
  | ind n ih =>
    intro w hn
    by_cases h : n < 10
    · have hi : (n : Int) < 10 := by omega
      have hd : Lib.decDigits n = [UInt8.ofNat (48 + n)] := Lib.decDigits_one h
      rw [hd]
      go_enter Tryz.func98, Tryz.ntmps98
      obtain rfl | rfl | rfl | rfl | rfl | rfl | rfl | rfl | rfl | rfl : n = 0 ∨ n = 1 ∨ n = 2 ∨ n = 3 ∨ n = 4 ∨ n = 5 ∨ n = 6 ∨ n = 7 ∨ n = 8 ∨ n = 9 := by omega
      all_goals
        go_wp2_with fail
        go_ret
        exact ⟨rfl, Below.refl _ _⟩
    · have hi : ¬ (n : Int) < 10 := by omega
      have hd : Lib.decDigits n = Lib.decDigits (n / 10) ++ [UInt8.ofNat (48 + n % 10)] := by rw [Lib.decDigits, dif_neg h]
      have IH := ih (n / 10) (by omega)
      rw [hd]
      have hq : (n : Int) / 10 = ((n / 10 : Nat) : Int) := by omega
      go_enter Tryz.func98, Tryz.ntmps98
      have IH2 := Lib.hid (IH w (by omega))
      have HQ := Lib.hid hq
      clear IH ih hq
      have hr : (n : Int) % 10 = ((n % 10 : Nat) : Int) := by omega
      have hm : n % 10 < 10 := by omega
      go_wp2_with fail
      rw [HQ.out]
      refine IH2.out.mono ?_
      rintro e w1 ⟨rfl, hb⟩
      have HB := Lib.hid hb
      clear hb IH2 HQ
      have hl := dec_short (n := n / 10) (by omega)
      obtain ⟨ds, hds⟩ : ∃ ds, Lib.decDigits (n / 10) = ds := ⟨_, rfl⟩
      obtain ⟨k, hk⟩ : ∃ k, n % 10 = k := ⟨_, rfl⟩
      rw [hds] at hl ⊢
      rw [hk] at hr hm
      have HE := Lib.hid (And.intro hds hk)
      clear hd hds hk
      have he := enc_dig ⟨k, hm⟩
      obtain rfl | rfl | rfl | rfl | rfl | rfl | rfl | rfl | rfl | rfl : k = 0 ∨ k = 1 ∨ k = 2 ∨ k = 3 ∨ k = 4 ∨ k = 5 ∨ k = 6 ∨ k = 7 ∨ k = 8 ∨ k = 9 := by omega
      all_goals
        simp only [] at he
        have hlt : ¬ (9223372036854775807 < ds.length + 1) := by omega
        go_wp2_with fail
        go_ret
        rw [HE.out.1, HE.out.2]
        exact ⟨ret_bytes (by apply ByteArray.ext; simp; decide +kernel), HB.out⟩
theorem decimal_calls (n : Int) (w : World) (h0 : 0 ≤ n) (h1 : n < 9223372036854775808) : Calls Tryz.prog 74 #[.int .i64 n] w fun e w' => e = .returned (.string ⟨(Lib.itoa n).toArray⟩) ∧ Below w.heap.size w w' := by
  obtain ⟨k, rfl⟩ := Int.eq_ofNat_of_zero_le h0
  have hi : ¬ ((k : Int) < 0) := by omega
  have hit : Lib.itoa (k : Int) = Lib.decDigits k := by unfold Lib.itoa; rw [if_neg hi]; simp
  have hw : IntKind.u64.wrap (k : Int) = (k : Int) := by simp [IntKind.wrap, IntKind.bits, IntKind.signed]; omega
  have HD := Lib.hid (digits_calls k w (by omega))
  rw [hit]
  go_enter Tryz.func74, Tryz.ntmps74
  go_wp2_with fail
  refine HD.out.mono ?_
  rintro e w1 ⟨rfl, hb⟩
  have HB := Lib.hid hb
  clear hb HD
  go_wp2_with fail
  go_ret
  exact ⟨rfl, HB.out⟩
theorem numsS_take {l : List Int} {i : Nat} (h : i < l.length) : numsS (l.take (i + 1)) = numsS (l.take i) ++ 32 :: Lib.itoa l[i] := by
  rw [List.take_succ_eq_append_getElem h, numsS_snoc]
set_option maxHeartbeats 2000000 in
theorem row_calls (hd : List UInt8) (A : Option Addr) (c : Nat) (l : List Int) (w : World) (hr : RowC w w.heap.size A (l.map (Value.int .i64))) (hp : Plain l) (hl : l.length ≤ 100) (hh : hd.length ≤ 100) :
    Calls Tryz.prog 53 #[.string ⟨hd.toArray⟩, .slice A l.length c] w fun e w' => e = .returned (.string ⟨(rowS hd l).toArray⟩) ∧ Below w.heap.size w w' := by
  have HR := Lib.hid hr
  have HP := Lib.hid hp
  clear hr hp
  go_enter Tryz.func53, Tryz.ntmps53
  go_wp2_with fail
  go_loopw [0, 5] (fun sv iv wr => ∃ i : Nat, i ≤ l.length ∧ iv = .int .i64 (i : Int) ∧ sv = .string ⟨(hd ++ numsS (l.take i)).toArray⟩ ∧ Hid (Below w.heap.size w wr)) (fun _ iv _ => l.length - (intOf iv).toNat)
  case atStart => exact ⟨0, Nat.zero_le _, rfl, by simp [numsS], Lib.hid (Below.refl _ _)⟩
  case round =>
    obtain ⟨i, hi, rfl, rfl, HB⟩ := hrel
    obtain ⟨Wr, rfl⟩ : ∃ Wr, Wr = wr := ⟨_, rfl⟩
    have hlen : (hd ++ numsS (l.take i)).length ≤ 1300 := by
      have := numsS_len (l := l.take i) (fun n hn => HP.out n (List.mem_of_mem_take hn))
      rw [List.length_append]
      rw [List.length_take] at this
      omega
    by_cases hil : i < l.length
    · have hii : (i : Int) < (l.length : Int) := by omega
      have hi0 : (0 : Int) ≤ (i : Int) := by omega
      have hiadd : IntKind.i64.wrap ((i : Int) + 1) = (i : Int) + 1 := IntWalk.i64_in _ (by omega)
      obtain ⟨b, o, rfl, hbk, hc⟩ := (HR.out.below HB.out).at_ i (by simpa using hil)
      simp only [List.getElem_map] at hc
      have hpi := HP.out l[i] (List.getElem_mem hil)
      have hil2 := itoa_len hpi.1 hpi.2
      have HT := Lib.hid (numsS_take hil)
      have HD := Lib.hid (decimal_calls l[i] Wr hpi.1 (by omega))
      clear hpi
      generalize l[i] = x at *
      obtain ⟨ts, hts⟩ : ∃ ts, ts = hd ++ numsS (l.take i) := ⟨_, rfl⟩
      rw [← hts] at hlen ⊢
      have HTS := Lib.hid hts
      clear hts
      have h1 : ¬ 9223372036854775807 < ts.length + 1 := by omega
      have h2 : ¬ 9223372036854775807 < ts.length + 1 + (Lib.itoa x).length := by omega
      go_wp2_with fail
      refine HD.out.mono ?_
      rintro e W2 ⟨rfl, hb2⟩
      have HB2 := Lib.hid (HB.out.trans (hb2.mono HB.out.size))
      clear hb2 HD
      go_wp2_with fail
      go_round
      case rel => exact ⟨i + 1, by omega, by go_num, by
        rw [HT.out, ← List.append_assoc, ← HTS.out]
        exact congrArg Value.string (by apply ByteArray.ext; simp), HB2⟩
      case measure => simp [intOf]; omega
    · have hii : ¬ (i : Int) < (l.length : Int) := by omega
      have hin : i = l.length := by omega
      subst hin
      rw [List.take_length] at hlen ⊢
      obtain ⟨ts, hts⟩ : ∃ ts, ts = hd ++ numsS l := ⟨_, rfl⟩
      rw [← hts] at hlen ⊢
      have HTS := Lib.hid hts
      clear hts
      have h1 : ¬ 9223372036854775807 < ts.length + 1 := by omega
      go_wp2_with fail
      go_ret
      exact ⟨ret_bytes (by unfold rowS; rw [← HTS.out]; apply ByteArray.ext; simp), HB.out⟩
end Go.Proofs.YtcbhldfipfcjaaaGreatDoor

namespace Go.Proofs.YtcbhldfipfcjaaaGreatDoor
open Go Go.RowKit Go.Shelf
set_option maxRecDepth 100000

/-- A row of numbers in a block of its own. -/
theorem rowC_blk {W : World} {xs : List Int} {b : Nat} (h : W.heap[b]? = some (.cells (xs.map (Value.int .i64)).toArray 3 (0, 0))) (hl : xs.length ≤ 100) : RowC W W.heap.size (some ⟨b, 0, none⟩) (xs.map (Value.int .i64)) := by
  refine ⟨by rw [List.length_map]; omega, fun _ => ⟨b, 0, rfl, lt_blk h, fun j u hu => ?_⟩⟩
  rw [cell_blk h]
  simpa using hu
theorem flat_take {α : Type} {f : α → List UInt8} {l : List α} {i : Nat} (h : i < l.length) : (l.take (i + 1)).flatMap f = (l.take i).flatMap f ++ f l[i] := by
  rw [List.take_succ_eq_append_getElem h, List.flatMap_append, List.flatMap_singleton]
theorem own_lit {W : World} {xs : List Int} {b : Nat} (h : W.heap[b]? = some (.cells (xs.map (Value.int .i64)).toArray 3 (0, 0))) (hl : xs.length ≤ 100) : W.ownsRow b 3 1 (.slice (some ⟨b, 0, none⟩) xs.length xs.length) xs.length (xs.map (Value.int .i64)) :=
  ⟨by simp, .inr ⟨b, xs.length, _, rfl, Nat.le_refl _, h, Nat.le_refl _, by simp only [maxLen]; omega, by simp, by rw [Nat.mul_one]; exact List.take_of_length_le (by simp)⟩⟩
theorem str_cat {a b : List UInt8} : (ByteArray.mk a.toArray ++ ByteArray.mk b.toArray) = ByteArray.mk (a ++ b).toArray := by
  apply ByteArray.ext; simp
set_option maxHeartbeats 4000000 in
theorem text_calls (m : Wk) (sl cr : Value) (w : World) (hok : m.Ok) (hsl : SlopesAt w w.heap.size sl m.slopes) (hcr : CraftsAt w w.heap.size cr m.crafts) :
    Calls Tryz.prog 28 #[.agg #[sl, cr, .int .i64 m.years, .int .i64 m.visit, .int .i64 m.hands]] w fun e w' => e = .returned (.string ⟨(textS m).toArray⟩) ∧ Below w.heap.size w w' := by
  obtain ⟨A, ac, rfl, hAl, hAs⟩ := id hsl
  obtain ⟨C, cc, rfl, hCl, hCs⟩ := id hcr
  obtain ⟨w0, hw0⟩ : ∃ w0, w0 = w.alloc (.cells #[.slice A m.slopes.length ac, .slice C m.crafts.length cc, .int .i64 m.years, .int .i64 m.visit, .int .i64 m.hands] 25) := ⟨_, rfl⟩
  have h0 := LawInv.start hsl hcr
  rw [← hw0] at h0
  have x5 := blk5 h0.box
  rw [hw0] at x5
  obtain ⟨x0, x1, x2, x3, x4⟩ := x5
  have H0 := Lib.hid h0
  have HW0 := Lib.hid hw0
  have HA := Lib.hid hAs
  have HC := Lib.hid hCs
  have HOK := Lib.hid hok
  have hfew := hok.few
  have hcf := hok.crafts
  clear h0 hw0 hsl hcr hAs hCs hok
  go_enter Tryz.func28, Tryz.ntmps28
  go_wp2_with fail
  rw [← HW0.out]
  obtain ⟨w1, hw1⟩ : ∃ w1, w1 = w0.alloc (.cells #[.int .i64 m.years, .int .i64 m.visit, .int .i64 m.hands] 3) := ⟨_, rfl⟩
  rw [← hw1]
  have hb1 : Below w0.heap.size w0 w1 := by rw [hw1]; exact below1 _ _
  have hg1 : w1.heap[w0.heap.size]? = some (.cells ([m.years, m.visit, m.hands].map (Value.int .i64)).toArray 3 (0, 0)) := by rw [hw1]; exact heap_alloc_self _ _
  have hz0 : w0.heap.size = w.heap.size + 1 := by rw [HW0.out]; simp
  rw [← hz0]
  refine (row_calls bWorks _ 3 [m.years, m.visit, m.hands] w1 (rowC_blk hg1 (by simp)) (headN_ok HOK.out) (by simp) (by decide)).mono ?_
  rintro e w2 ⟨rfl, hb2⟩
  have H2 := Lib.hid (H0.out.later (hb1.trans (hb2.mono hb1.size)))
  clear hb2 hb1 hg1 hw1 hz0 x0 x1 x2 x3 x4
  rw [show rowS bWorks [m.years, m.visit, m.hands] = headS m from rfl]
  go_wp2_with fail
  go_loopw [3, 4] (fun sv iv wr => ∃ i : Nat, i ≤ m.slopes.length ∧ iv = .int .i64 (i : Int) ∧ sv = .string ⟨(headS m ++ (m.slopes.take i).flatMap slopeRow).toArray⟩ ∧ Hid (LawInv m w (.slice A m.slopes.length ac) (.slice C m.crafts.length cc) w.heap.size wr)) (fun _ iv _ => m.slopes.length - (intOf iv).toNat)
  case atStart => exact ⟨0, Nat.zero_le _, rfl, by simp, H2⟩
  case round =>
    obtain ⟨i, hi, rfl, rfl, HI⟩ := hrel
    obtain ⟨Wr, rfl⟩ : ∃ Wr, Wr = wr := ⟨_, rfl⟩
    obtain ⟨x0, x1, x2, x3, x4⟩ := blk5 HI.out.box
    have hlen : (headS m ++ (m.slopes.take i).flatMap slopeRow).length ≤ 800 := by
      have h1 := headS_len HOK.out
      have h2 := slopes_len HOK.out i
      rw [List.length_append]; omega
    by_cases hil : i < m.slopes.length
    · have hii : (i : Int) < (m.slopes.length : Int) := by omega
      have hi0 : (0 : Int) ≤ (i : Int) := by omega
      have hiadd : IntKind.i64.wrap ((i : Int) + 1) = (i : Int) + 1 := IntWalk.i64_in _ (by omega)
      have hgi : m.slopes[i]? = some m.slopes[i] := List.getElem?_eq_getElem hil
      have hso := HOK.out.slopes m.slopes[i] (List.getElem_mem hil)
      obtain ⟨b, o, rfl, hb, hc⟩ := HA.out (by intro e; rw [e] at hil; simp at hil)
      obtain ⟨t, ⟨tA, tc, rfl, htr⟩, c0, c1, c2, c3, c4⟩ := hc i _ hgi
      have hbe := HI.out.below
      have k0 := (hbe.cell (p := ⟨b, o + i * 5, none⟩) hb).trans c0
      have k1 := (hbe.cell (p := ⟨b, o + i * 5 + 1, none⟩) hb).trans c1
      have k2 := (hbe.cell (p := ⟨b, o + i * 5 + 2, none⟩) hb).trans c2
      have k3 := (hbe.cell (p := ⟨b, o + i * 5 + 3, none⟩) hb).trans c3
      have k4 := (hbe.cell (p := ⟨b, o + i * 5 + 4, none⟩) hb).trans c4
      have HTR := Lib.hid htr
      have HFT := Lib.hid (flat_take (f := slopeRow) hil)
      have HSO := Lib.hid hso
      have hx12 := hso.len
      clear hc c0 c1 c2 c3 c4 htr hgi hbe hso
      generalize m.slopes[i] = x at *
      obtain ⟨ts, hts⟩ : ∃ ts, ts = headS m ++ (m.slopes.take i).flatMap slopeRow := ⟨_, rfl⟩
      rw [← hts] at hlen ⊢
      have HTS := Lib.hid hts
      clear hts
      have hrl : (slopeRow x).length ≤ 182 := slopeRow_len HSO.out
      have hcat : ¬ 9223372036854775807 < ts.length + (slopeRow x).length := by omega
      go_upto_region 6 with fail
      obtain ⟨w5, hw5⟩ : ∃ w5, w5 = Wr.alloc (.cells #[.int .i64 x.now, .int .i64 x.need, .int .i64 x.full, .int .i64 x.size, .slice tA x.takes.length tc] 37) := ⟨_, rfl⟩
      rw [← hw5]
      have hb5 : Below Wr.heap.size Wr w5 := by rw [hw5]; exact below1 _ _
      have hg5 : w5.heap[Wr.heap.size]? = some (.cells #[.int .i64 x.now, .int .i64 x.need, .int .i64 x.full, .int .i64 x.size, .slice tA x.takes.length tc] 37 (0, 0)) := by rw [hw5]; exact heap_alloc_self _ _
      obtain ⟨y0, y1, y2, y3, y4⟩ := blk5 hg5
      have H5 := Lib.hid (HI.out.later hb5)
      have y4a := fun ob => cell_alloc ob y4
      have HW6 : Hid (∀ ob, Below Wr.heap.size Wr (w5.alloc ob)) := Lib.hid (fun ob => hb5.trans ((below1 w5 ob).mono hb5.size))
      have hz5 := hb5.size
      clear hw5 hb5 hg5 k0 k1 k2 k3 k4 x0 x1 x2 x3 x4
      by_cases hne : x.takes = []
      · have hl0 : x.takes.length = 0 := by rw [hne]; rfl
        have HN := Lib.hid hne
        rw [hl0] at y4 y4a
        clear hne
        have hsn : slopeN x = [x.now, x.need, x.full, x.size] := by unfold slopeN; rw [HN.out]; rfl
        have HSN := Lib.hid hsn
        clear hsn
        cases tA with
        | none =>
          go_wp2_with fail
          obtain ⟨w6, hw6⟩ : ∃ w6, w6 = w5.alloc (.cells #[.int .i64 x.now, .int .i64 x.need, .int .i64 x.full, .int .i64 x.size] 3) := ⟨_, rfl⟩
          have hg6 : w6.heap[w5.heap.size]? = some (.cells ([x.now, x.need, x.full, x.size].map (Value.int .i64)).toArray 3 (0, 0)) := by rw [hw6]; exact heap_alloc_self _ _
          have hb6 : Below Wr.heap.size Wr w6 := by rw [hw6]; exact HW6.out _
          have HB := Lib.hid hb6
          rw [← hw6]
          clear hw6 hb6
          refine (row_calls bSlope _ 4 [x.now, x.need, x.full, x.size] w6 (rowC_blk hg6 (by simp)) (HSN.out ▸ slopeN_ok HSO.out) (by simp) (by decide)).mono ?_
          rw [← HSN.out]
          rintro e W7 ⟨rfl, hb7⟩
          have H7 := Lib.hid (HI.out.later (HB.out.trans (hb7.mono HB.out.size)))
          clear hb7
          rw [show rowS bSlope (slopeN x) = slopeRow x from rfl]
          go_wp2_with fail
          go_round
          case rel => exact ⟨i + 1, by omega, by go_num, by
            rw [HFT.out, ← List.append_assoc, ← HTS.out]
            exact congrArg Value.string str_cat, H7⟩
          case measure => simp [intOf]; omega
        | some ad =>
          go_wp2_with fail
          obtain ⟨w6, hw6⟩ : ∃ w6, w6 = w5.alloc (.cells #[.int .i64 x.now, .int .i64 x.need, .int .i64 x.full, .int .i64 x.size] 3) := ⟨_, rfl⟩
          have hg6 : w6.heap[w5.heap.size]? = some (.cells ([x.now, x.need, x.full, x.size].map (Value.int .i64)).toArray 3 (0, 0)) := by rw [hw6]; exact heap_alloc_self _ _
          have hb6 : Below Wr.heap.size Wr w6 := by rw [hw6]; exact HW6.out _
          have HB := Lib.hid hb6
          rw [← hw6]
          clear hw6 hb6
          refine (row_calls bSlope _ 4 [x.now, x.need, x.full, x.size] w6 (rowC_blk hg6 (by simp)) (HSN.out ▸ slopeN_ok HSO.out) (by simp) (by decide)).mono ?_
          rw [← HSN.out]
          rintro e W7 ⟨rfl, hb7⟩
          have H7 := Lib.hid (HI.out.later (HB.out.trans (hb7.mono HB.out.size)))
          clear hb7
          rw [show rowS bSlope (slopeN x) = slopeRow x from rfl]
          go_wp2_with fail
          go_round
          case rel => exact ⟨i + 1, by omega, by go_num, by
            rw [HFT.out, ← List.append_assoc, ← HTS.out]
            exact congrArg Value.string str_cat, H7⟩
          case measure => simp [intOf]; omega
      · obtain ⟨tb, tf, rfl, htb, htc⟩ := HTR.out.2 (by simpa using hne)
        have hpos : 0 < x.takes.length := List.length_pos_iff.2 hne
        have hnews : ∀ ob k u, (x.takes.map (Value.int .i64))[k]? = some u → (w5.alloc ob).cell? ((⟨tb, tf, none⟩ : Addr).add k) = some u := by
          intro ob k u hu
          rw [add_plain']
          exact ((HI.out.below.trans ((HW6.out ob).mono HI.out.below.size)).cell (p := ⟨tb, tf + k, none⟩) htb).trans (htc k u hu)
        have HNEWS := Lib.hid hnews
        have HOWN := Lib.hid (own_lit (W := w5.alloc (.cells #[.int .i64 x.now, .int .i64 x.need, .int .i64 x.full, .int .i64 x.size] 3)) (xs := [x.now, x.need, x.full, x.size]) (b := w5.heap.size) (heap_alloc_self _ _) (by simp))
        obtain ⟨i0, hi0', hz0, hz1, hz2⟩ := info_parts infoInt
        clear hnews htc hne
        go_wp2_with (at_builtin; (refine wpList_append_own _ rfl _ _ 35 rfl w5.heap.size 3 i0 (.int .i64 0) 1 8 Tryz.underlying35 hi0' hz0 hz1 hz2 rfl (by decide) _ 4 _ rfl HOWN.out ⟨tb, tf, none⟩ x.takes.length tc (x.takes.map (Value.int .i64)) rfl (by simp) (HNEWS.out _) (by simp [Value.oneCell']) (by simp only [maxLen]; omega) (by omega) (by simp) ?_); intro v' w7 hown7 hg7 _; obtain ⟨A7, n7, c7, rfl⟩ := own_slice hown7; have H7 := Lib.hid (And.intro hown7 hg7); clear hown7 hg7)
        obtain ⟨hown7, hg7⟩ := H7.out
        have hb7 : Below Wr.heap.size Wr w7 := (HW6.out _).grown hg7 (by simp; omega) (fun k hk => by
          have e2 : w5.heap.size = k := by injection hk
          omega)
        have hown8 : w7.ownsRow w5.heap.size 3 1 (.slice A7 n7 c7) (slopeN x).length ((slopeN x).map (Value.int .i64)) := by
          have e1 : (slopeN x).length = 4 + x.takes.length := by simp [slopeN]; omega
          rw [e1]
          simpa [slopeN] using hown7
        obtain ⟨A8, c8, e8, hrc⟩ := own_ints hown8 (by simp [slopeN]; omega)
        rw [e8]
        have HB := Lib.hid hb7
        clear hown7 hg7 hown8 H7 hb7
        refine (row_calls bSlope A8 c8 (slopeN x) w7 hrc (slopeN_ok HSO.out) (by simp [slopeN]; omega) (by decide)).mono ?_
        rintro e W7 ⟨rfl, hb7⟩
        have H7 := Lib.hid (HI.out.later (HB.out.trans (hb7.mono HB.out.size)))
        clear hb7
        rw [show rowS bSlope (slopeN x) = slopeRow x from rfl]
        go_wp2_with fail
        go_round
        case rel => exact ⟨i + 1, by omega, by go_num, by
          rw [HFT.out, ← List.append_assoc, ← HTS.out]
          exact congrArg Value.string str_cat, H7⟩
        case measure => simp [intOf]; omega
    · have hii : ¬ (i : Int) < (m.slopes.length : Int) := by omega
      have hin : i = m.slopes.length := by omega
      subst hin
      rw [List.take_length] at hlen ⊢
      go_wp2_with fail
      go_loopw [3, 6] (fun sv iv wr => ∃ i : Nat, i ≤ m.crafts.length ∧ iv = .int .i64 (i : Int) ∧ sv = .string ⟨(headS m ++ m.slopes.flatMap slopeRow ++ (m.crafts.take i).flatMap craftRow).toArray⟩ ∧ Hid (LawInv m w (.slice A m.slopes.length ac) (.slice C m.crafts.length cc) w.heap.size wr)) (fun _ iv _ => m.crafts.length - (intOf iv).toNat)
      case atStart => exact ⟨0, Nat.zero_le _, rfl, by simp, HI⟩
      case round =>
        obtain ⟨q, hq, rfl, rfl, HJ⟩ := hrel
        obtain ⟨Wq, rfl⟩ : ∃ Wq, Wq = wr := ⟨_, rfl⟩
        clear x0 x1 x2 x3 x4
        obtain ⟨x0, x1, x2, x3, x4⟩ := blk5 HJ.out.box
        have hlen2 : (headS m ++ m.slopes.flatMap slopeRow ++ (m.crafts.take q).flatMap craftRow).length ≤ 920 := by
          have h2 := crafts_len HOK.out q
          rw [List.length_append]; omega
        by_cases hql : q < m.crafts.length
        · have hqi : (q : Int) < (m.crafts.length : Int) := by omega
          have hq0 : (0 : Int) ≤ (q : Int) := by omega
          have hqadd : IntKind.i64.wrap ((q : Int) + 1) = (q : Int) + 1 := IntWalk.i64_in _ (by omega)
          have hgq : m.crafts[q]? = some m.crafts[q] := List.getElem?_eq_getElem hql
          have hco := HOK.out.craft m.crafts[q] (List.getElem_mem hql)
          obtain ⟨b, o, rfl, hb, hc⟩ := HC.out (by intro e; rw [e] at hql; simp at hql)
          obtain ⟨c0, c1, c2⟩ := hc q _ hgq
          have hbe := HJ.out.below
          have k0 := (hbe.cell (p := ⟨b, o + q * 3, none⟩) hb).trans c0
          have k1 := (hbe.cell (p := ⟨b, o + q * 3 + 1, none⟩) hb).trans c1
          have k2 := (hbe.cell (p := ⟨b, o + q * 3 + 2, none⟩) hb).trans c2
          have HFT := Lib.hid (flat_take (f := craftRow) hql)
          have HCO := Lib.hid hco
          clear hc c0 c1 c2 hgq hbe hco
          generalize m.crafts[q] = y at *
          obtain ⟨ts, hts⟩ : ∃ ts, ts = headS m ++ m.slopes.flatMap slopeRow ++ (m.crafts.take q).flatMap craftRow := ⟨_, rfl⟩
          rw [← hts] at hlen2 ⊢
          have HTS := Lib.hid hts
          clear hts
          have hrl : (craftRow y).length ≤ 30 := craftRow_len HCO.out
          have hcat : ¬ 9223372036854775807 < ts.length + (craftRow y).length := by omega
          obtain ⟨w5, hw5⟩ : ∃ w5, w5 = Wq.alloc (.cells #[.int .i64 y.add, .int .i64 y.price, .bool y.strip] 67) := ⟨_, rfl⟩
          have hb5 : Below Wq.heap.size Wq w5 := by rw [hw5]; exact below1 _ _
          have HW5 := Lib.hid hw5
          obtain ⟨ya, yp, ys⟩ := y
          simp only [] at *
          cases ys
          · have hcr : craftRow ⟨ya, yp, false⟩ = rowS bAdd [ya, yp] := rfl
            rw [hcr] at hcat hrl HFT
            obtain ⟨w6, hw6⟩ : ∃ w6, w6 = w5.alloc (.cells #[.int .i64 ya, .int .i64 yp] 3) := ⟨_, rfl⟩
            have hg6 : w6.heap[w5.heap.size]? = some (.cells ([ya, yp].map (Value.int .i64)).toArray 3 (0, 0)) := by rw [hw6]; exact heap_alloc_self _ _
            have hb6 : Below Wq.heap.size Wq w6 := by rw [hw6]; exact hb5.trans ((below1 w5 _).mono hb5.size)
            have hz5 : w5.heap.size = Wq.heap.size + 1 := by rw [hw5]; simp
            have HROW := Lib.hid (row_calls bAdd _ 2 [ya, yp] w6 (rowC_blk hg6 (by simp)) (craftN_ok HCO.out).2 (by simp) (by decide))
            have HW6 := Lib.hid hw6
            have HB6 := Lib.hid hb6
            have HZ5 := Lib.hid hz5
            clear hw5 hw6 hg6 hb6 hb5 hcr hz5
            go_wp2_with fail
            rw [← HW5.out, ← HW6.out, ← HZ5.out]
            refine HROW.out.mono ?_
            rintro e W7 ⟨rfl, hb7⟩
            have H7 := Lib.hid (HJ.out.later (HB6.out.trans (hb7.mono HB6.out.size)))
            clear hb7 HROW
            go_wp2_with fail
            go_round
            case rel => exact ⟨q + 1, by omega, by go_num, by
              rw [HFT.out, ← List.append_assoc, ← HTS.out]
              exact congrArg Value.string str_cat, H7⟩
            case measure => simp [intOf]; omega
          · have hcr : craftRow ⟨ya, yp, true⟩ = rowS bStrip [yp] := rfl
            rw [hcr] at hcat hrl HFT
            obtain ⟨w6, hw6⟩ : ∃ w6, w6 = w5.alloc (.cells #[.int .i64 yp] 3) := ⟨_, rfl⟩
            have hg6 : w6.heap[w5.heap.size]? = some (.cells ([yp].map (Value.int .i64)).toArray 3 (0, 0)) := by rw [hw6]; exact heap_alloc_self _ _
            have hb6 : Below Wq.heap.size Wq w6 := by rw [hw6]; exact hb5.trans ((below1 w5 _).mono hb5.size)
            have hz5 : w5.heap.size = Wq.heap.size + 1 := by rw [hw5]; simp
            have HROW := Lib.hid (row_calls bStrip _ 1 [yp] w6 (rowC_blk hg6 (by simp)) (craftN_ok HCO.out).1 (by simp) (by decide))
            have HW6 := Lib.hid hw6
            have HB6 := Lib.hid hb6
            have HZ5 := Lib.hid hz5
            clear hw5 hw6 hg6 hb6 hb5 hcr hz5
            go_wp2_with fail
            rw [← HW5.out, ← HW6.out, ← HZ5.out]
            refine HROW.out.mono ?_
            rintro e W7 ⟨rfl, hb7⟩
            have H7 := Lib.hid (HJ.out.later (HB6.out.trans (hb7.mono HB6.out.size)))
            clear hb7 HROW
            go_wp2_with fail
            go_round
            case rel => exact ⟨q + 1, by omega, by go_num, by
              rw [HFT.out, ← List.append_assoc, ← HTS.out]
              exact congrArg Value.string str_cat, H7⟩
            case measure => simp [intOf]; omega
        · have hqi : ¬ (q : Int) < (m.crafts.length : Int) := by omega
          have hqn : q = m.crafts.length := by omega
          subst hqn
          rw [List.take_length]
          go_wp2_with fail
          go_ret
          exact ⟨ret_bytes (by unfold textS; rw [List.append_assoc]), HJ.out.below⟩
set_option maxHeartbeats 2000000 in
theorem rprint_calls (m : Wk) (sl cr : Value) (w : World) (hsl : SlopesAt w w.heap.size sl m.slopes) (hcr : CraftsAt w w.heap.size cr m.crafts) :
    Calls Tryz.prog 8 #[.agg #[sl, cr, .int .i64 m.years, .int .i64 m.visit, .int .i64 m.hands]] w (PrintPost m w) := by
  obtain ⟨A, ac, rfl, _, _⟩ := id hsl
  obtain ⟨C, cc, rfl, _, _⟩ := id hcr
  obtain ⟨w0, hw0⟩ : ∃ w0, w0 = w.alloc (.cells #[.slice A m.slopes.length ac, .slice C m.crafts.length cc, .int .i64 m.years, .int .i64 m.visit, .int .i64 m.hands] 25) := ⟨_, rfl⟩
  have h0 := LawInv.start hsl hcr
  rw [← hw0] at h0
  have x5 := blk5 h0.box
  rw [hw0] at x5
  obtain ⟨x0, x1, x2, x3, x4⟩ := x5
  have H0 := Lib.hid h0
  have HW0 := Lib.hid hw0
  clear h0 hw0 hsl hcr
  go_enter Tryz.func8, Tryz.ntmps8
  go_wp2_with fail
  rw [← HW0.out]
  refine (rcheck_calls m _ _ w0 H0.out.slopes H0.out.crafts).mono ?_
  rintro e w1 ⟨rfl, hb1⟩
  have H1 := Lib.hid (H0.out.later hb1)
  clear hb1 x0 x1 x2 x3 x4 H0 HW0
  by_cases hck : checkS m = 0
  · have hp : printS m = (textS m, 0) := by unfold printS; rw [if_pos hck]
    have hok := checkS_ok hck
    have hlen := textS_len hok
    have HT := Lib.hid (text_calls m _ _ w1 hok H1.out.slopes H1.out.crafts)
    have HP := Lib.hid hp
    rw [hck]
    obtain ⟨x0, x1, x2, x3, x4⟩ := blk5 H1.out.box
    clear hp hok hck
    go_wp2_with fail
    refine HT.out.mono ?_
    rintro e w2 ⟨rfl, hb2⟩
    have H2 := Lib.hid (H1.out.later hb2)
    have hbig : ¬ (65536 < ((textS m).length : Int)) := by omega
    clear hb2 HT x0 x1 x2 x3 x4
    generalize textS m = ts at *
    go_wp2_with fail
    go_ret2
    exact ⟨by rw [HP.out]; rfl, H2.out.below⟩
  · have hp : printS m = ([], checkS m) := by unfold printS; rw [if_neg hck]
    have he1 : (checkS m != 0) = true := by simp [hck]
    have he2 : (!(checkS m == 0)) = true := by simp [hck]
    have HP := Lib.hid hp
    generalize checkS m = ce at *
    clear hp
    go_wp2_with fail
    go_ret2
    exact ⟨by rw [HP.out]; rfl, H1.out.below⟩
end Go.Proofs.YtcbhldfipfcjaaaGreatDoor
