/- mend.Print. -/
import Derived.Test.YtcbhldfipfcjaaaGreatDoorY1
import Derived.Test.YtcbhldfipfcjaaaGreatDoorLc

namespace Go.Proofs.YtcbhldfipfcjaaaGreatDoor
open Go Go.RowKit Go.Shelf
set_option maxRecDepth 100000

def printS (m : Wk) : List UInt8 × Int := if checkS m = 0 then (textS m, 0) else ([], checkS m)
def PrintPost (m : Wk) (w : World) (e : Ending) (w' : World) : Prop := e = .returned (.tuple #[.string ⟨(printS m).1.toArray⟩, .int .i64 (printS m).2]) ∧ Below w.heap.size w w'
theorem fresh_builder (w : World) : IsB w.heap.size w.heap.size [] (w.alloc (.cells #[.pointer none, .slice none 0 0] 58)) :=
  .inl ⟨Nat.le_refl _, .slice none 0 0, heap_alloc_self _ _, ⟨rfl, .inl ⟨rfl, rfl⟩⟩, by simp [Value.ownBlock]⟩
theorem isB_below {B b : Nat} {bs : List Value} {w w' : World} (h : IsB B b bs w) (hb : Below w.heap.size w w') : IsB B b bs w' := by
  rcases h with ⟨h1, v, h2, h3, h4⟩ | h
  · exact .inl ⟨h1, v, blk_below hb h2 (lt_blk h2), own_below h3 hb (fun k hk => (own_blk_lt h3 k hk).2), h4⟩
  · exact .inr (used_below h hb)
/-- What Print keeps. -/
structure PtInv (w2 : World) (l : List UInt8) (W : World) : Prop where
  used : UsedB w2.heap.size w2.heap.size (Lib.byteCells l) W
  below : Below w2.heap.size w2 W
theorem own_cs {w : World} {B k c n : Nat} {vs : List Value} (h : w.ownsRow B 3 1 (.slice (some ⟨k, 0, none⟩) n c) n vs) : ∃ (cs : Array Value) (f : Nat × Nat), w.heap[k]? = some (.cells cs 3 f) ∧ ∀ (j : Nat) (u : Value), vs[j]? = some u → cs[j]? = some u := by
  rcases id h.2 with ⟨h1, _⟩ | ⟨g, cap, cur, hv, hB, hh, hc, hm, hsz, ht⟩
  · cases h1
  · cases hv
    refine ⟨cur, (0, 0), hh, fun j u hj => ?_⟩
    have hjl := (List.getElem?_eq_some_iff.1 hj).1
    rw [h.1] at hjl
    rw [← ht, List.getElem?_take, if_pos hjl, Array.getElem?_toList] at hj
    exact hj
theorem PtInv.later {w2 : World} {l : List UInt8} {W W' : World} (h : PtInv w2 l W) (hb : Below W.heap.size W W') : PtInv w2 l W' := ⟨used_below h.used hb, h.below.trans (hb.mono h.below.size)⟩
theorem PtInv.ne {w2 : World} {l : List UInt8} {W : World} (h : PtInv w2 l W) {k : Nat} {cs : Array Value} {f : Nat × Nat} (hk : W.heap[k]? = some (.cells cs 3 f)) : k ≠ w2.heap.size := fun e => by
  obtain ⟨_, v, h2, _⟩ := h.used
  rw [e, h2] at hk
  simp at hk
/-- A line put behind what is there. -/
theorem putl_inv {w2 W : World} {l : List UInt8} (h : PtInv w2 l W) (hv : Vars w2) (head : ByteArray) {k c : Nat} {xs : List Int} {cs : Array Value} {f : Nat × Nat} (hk : W.heap[k]? = some (.cells cs 3 f)) (hcs : ∀ (j : Nat) (u : Value), (xs.map (Value.int .i64))[j]? = some u → cs[j]? = some u)
    (hxb : ∀ n ∈ xs, 0 ≤ n ∧ n < 10000000000) (hlen : l.length + head.size + 11 * xs.length + 1 ≤ 1000000) (hw : 1 < w2.heap.size) :
    Calls Tryz.prog 21 #[.string head, .slice (some ⟨k, 0, none⟩) xs.length c, .pointer (some ⟨w2.heap.size, 0, none⟩)] W fun e w' => e = .returned (.tuple #[]) ∧ PtInv w2 (l ++ rowS head.data.toList xs) w' := by
  refine (putl_calls w2.heap.size w2.heap.size l head (some ⟨k, 0, none⟩) c xs W (.inr h.used) h.below.size hw (hv.below h.below hw) (fun _ => ⟨k, cs, f, rfl, h.ne hk, hk, hcs⟩) hxb hlen).mono ?_
  rintro e w' ⟨rfl, h1, h2, _⟩
  exact ⟨rfl, h1, h.below.trans h2⟩
set_option maxHeartbeats 16000000 in
theorem print_calls (m : Wk) (sl cr : Value) (w : World) (hsl : SlopesAt w w.heap.size sl m.slopes) (hcr : CraftsAt w w.heap.size cr m.crafts) (hv : Vars w) :
    Calls Tryz.prog 7 #[.agg #[sl, cr, .int .i64 m.years, .int .i64 m.visit, .int .i64 m.hands]] w (PrintPost m w) := by
  obtain ⟨sA, sc, rfl, _, hss⟩ := id hsl
  obtain ⟨cA, cc, rfl, _, hcc⟩ := id hcr
  obtain ⟨w0, hw0⟩ : ∃ w0, w0 = w.alloc (.cells #[.slice sA m.slopes.length sc, .slice cA m.crafts.length cc, .int .i64 m.years, .int .i64 m.visit, .int .i64 m.hands] 25) := ⟨_, rfl⟩
  have h0 := LawInv.start hsl hcr
  rw [← hw0] at h0
  have H0 := Lib.hid h0
  have HW0 := Lib.hid hw0
  have HSS := Lib.hid hss
  have HCC := Lib.hid hcc
  have HV := Lib.hid hv
  obtain ⟨x0, x1, x2, x3, x4⟩ := blk5 h0.box
  clear h0 hw0 hsl hcr hss hcc hv
  go_enter Tryz.func7, Tryz.ntmps7
  go_upto_region 1 with fail
  rw [← HW0.out]
  go_wp2_with fail
  refine (check_calls m _ _ w0 H0.out.slopes H0.out.crafts).mono ?_
  rintro e w2 ⟨rfl, hb2⟩
  have H2 := Lib.hid (H0.out.later hb2)
  clear hb2 x0 x1 x2 x3 x4 H0 HW0
  by_cases hck : checkS m = 0
  · have hok := checkS_ok hck
    have hp : printS m = (textS m, 0) := by unfold printS; rw [if_pos hck]
    have HP := Lib.hid hp
    have HOK := Lib.hid hok
    have h4 := hok.few
    have hc4 := hok.crafts
    generalize checkS m = ce at *
    have he1 : (ce != 0) = false := by simp [hck]
    have he2 : (!(ce == 0)) = false := by simp [hck]
    clear hck hp hok
    obtain ⟨x0, x1, x2, x3, x4⟩ := blk5 H2.out.box
    go_upto_region 6 with fail
    obtain ⟨w3, hw3⟩ : ∃ w3, w3 = w2.alloc (.cells #[.pointer none, .slice none 0 0] 58) := ⟨_, rfl⟩
    rw [← hw3]
    have hz3 : w3.heap.size = w2.heap.size + 1 := by rw [hw3]; simp
    have hb3 : Below w2.heap.size w2 w3 := by rw [hw3]; exact below1 _ _
    have hi3 : IsB w2.heap.size w2.heap.size [] w3 := by rw [hw3]; exact fresh_builder w2
    have hzw : w.heap.size < w2.heap.size := lt_blk H2.out.box
    have H3 := Lib.hid (And.intro hb3 (And.intro hi3 hz3))
    have hbx := blk_below hb3 H2.out.box hzw
    clear hw3 x0 x1 x2 x3 x4
    obtain ⟨x0, x1, x2, x3, x4⟩ := blk5 hbx
    clear hbx hb3 hi3 hz3
    have hv2 : Vars w2 := HV.out.below H2.out.below (by have := HV.out.big; omega)
    have HV2 := Lib.hid hv2
    have h1w : 1 < w2.heap.size := hv2.big
    have h1 : ∀ W, W = w3.alloc (.cells #[.int .i64 m.years, .int .i64 m.visit, .int .i64 m.hands] 3) → Calls Tryz.prog 21 #[.string ⟨#[119, 111, 114, 107, 115]⟩, .slice (some ⟨w3.heap.size, 0, none⟩) 3 3, .pointer (some ⟨w2.heap.size, 0, none⟩)] W fun e w' => e = .returned (.tuple #[]) ∧ PtInv w2 (headS m) w' := by
      rintro W rfl
      have hb := below1 w3 (.cells #[.int .i64 m.years, .int .i64 m.visit, .int .i64 m.hands] 3)
      have hn := heap_alloc_self w3 (.cells #[.int .i64 m.years, .int .i64 m.visit, .int .i64 m.hands] 3)
      refine (putl_calls w2.heap.size w2.heap.size [] ⟨#[119, 111, 114, 107, 115]⟩ (some ⟨w3.heap.size, 0, none⟩) 3 [m.years, m.visit, m.hands] _ (isB_below H3.out.2.1 hb) (by simp; have := H3.out.2.2; omega) h1w (hv2.below (H3.out.1.trans (hb.mono H3.out.1.size)) h1w) (fun _ => ⟨w3.heap.size, _, _, rfl, by have := H3.out.2.2; omega, hn, fun j u hu => by simpa using hu⟩) (headN_ok HOK.out) (by simp [ByteArray.size])).mono ?_
      rintro e w' ⟨rfl, h1, h2, _⟩
      exact ⟨rfl, h1, (H3.out.1.trans (hb.mono H3.out.1.size)).trans h2⟩
    have HC1 := Lib.hid (h1 _ rfl)
    clear h1 hv2
    go_wp2_with fail
    refine HC1.out.mono ?_
    rintro e w5 ⟨rfl, hp5⟩
    have HP5 : Hid (PtInv w2 (headS m ++ (m.slopes.take 0).flatMap slopeRow) w5) := Lib.hid (by simpa using hp5)
    have hbw : ∀ W l, PtInv w2 l W → Below w.heap.size w W := fun W l h => H2.out.below.trans (h.below.mono (by omega))
    have hbx : ∀ W l, PtInv w2 l W → W.heap[w.heap.size]? = some (.cells #[.slice sA m.slopes.length sc, .slice cA m.crafts.length cc, .int .i64 m.years, .int .i64 m.visit, .int .i64 m.hands] 25 (0, 0)) := fun W l h => blk_below h.below H2.out.box hzw
    obtain ⟨x0, x1, x2, x3, x4⟩ := blk5 (hbx w5 _ hp5)
    have HBW := Lib.hid hbw
    have HBX := Lib.hid hbx
    clear hp5 HC1 H3 hbw hbx
    go_wp2_with fail
    go_loopw [29] (fun iv wr => ∃ j : Nat, j ≤ m.slopes.length ∧ iv = .int .i64 (j : Int) ∧ Hid (PtInv w2 (headS m ++ (m.slopes.take j).flatMap slopeRow) wr)) (fun iv _ => m.slopes.length - (intOf iv).toNat)
    case atStart => exact ⟨0, Nat.zero_le _, rfl, HP5⟩
    case round =>
      obtain ⟨j, hj, rfl, HI⟩ := hrel
      obtain ⟨wi, rfl⟩ : ∃ wi, wi = wr := ⟨_, rfl⟩
      by_cases hjl : j < m.slopes.length
      · have hji : (j : Int) < (m.slopes.length : Int) := by omega
        have hj0 : (0 : Int) ≤ (j : Int) := by omega
        have hjadd : IntKind.i64.wrap ((j : Int) + 1) = (j : Int) + 1 := IntWalk.i64_in _ (by omega)
        have hgj : m.slopes[j]? = some m.slopes[j] := List.getElem?_eq_getElem hjl
        have hts : m.slopes.take (j + 1) = m.slopes.take j ++ [m.slopes[j]] := List.take_succ_eq_append_getElem hjl
        obtain ⟨sb, so, rfl, hsb, hcs⟩ := HSS.out (by intro e; rw [e] at hjl; simp at hjl)
        obtain ⟨t, ⟨tA, tc, rfl, htr⟩, c0, c1, c2, c3, c4⟩ := hcs j _ hgj
        have hk : ∀ i, wi.cell? ⟨sb, i, none⟩ = w.cell? ⟨sb, i, none⟩ := fun i => (HBW.out wi _ HI.out).cell (p := ⟨sb, i, none⟩) hsb
        have d0 := (hk _).trans c0
        have d1 := (hk _).trans c1
        have d2 := (hk _).trans c2
        have d3 := (hk _).trans c3
        have d4 := (hk _).trans c4
        have hxo := HOK.out.slopes _ (List.getElem_mem hjl)
        have hsl := slopes_len HOK.out j
        have hhl := headS_len HOK.out
        have HTR := Lib.hid htr
        have HTS := Lib.hid hts
        have HXO := Lib.hid hxo
        have hx12 := hxo.len
        clear hcs c0 c1 c2 c3 c4 hk htr hgj
        generalize m.slopes[j] = x at *
        clear hts hxo x0 x1 x2 x3 x4
        go_upto_region 10 with fail
        obtain ⟨w6, hw6⟩ : ∃ w6, w6 = wi.alloc (.cells #[.int .i64 x.now, .int .i64 x.need, .int .i64 x.full, .int .i64 x.size, .slice tA x.takes.length tc] 37) := ⟨_, rfl⟩
        rw [← hw6]
        have hb6 : Below wi.heap.size wi w6 := by rw [hw6]; exact below1 _ _
        have k6 : w6.heap[wi.heap.size]? = some (.cells #[.int .i64 x.now, .int .i64 x.need, .int .i64 x.full, .int .i64 x.size, .slice tA x.takes.length tc] 37 (0, 0)) := by rw [hw6]; exact heap_alloc_self _ _
        have H6 := Lib.hid (HI.out.later hb6)
        clear hw6
        obtain ⟨d0', d1', d2', d3', d4'⟩ := blk5 k6
        have d5 : ∀ ob, (w6.alloc ob).cell? ⟨wi.heap.size, 4, none⟩ = some (.slice tA x.takes.length tc) := fun ob => ((below1 w6 ob).cell (p := ⟨wi.heap.size, 4, none⟩) (lt_blk k6)).trans d4'
        have H7 := Lib.hid (H6.out.later (below1 w6 (.cells #[.int .i64 x.now, .int .i64 x.need, .int .i64 x.full, .int .i64 x.size] 3)))
        clear k6 hb6
        have hnx : ∀ W, PtInv w2 (headS m ++ (m.slopes.take j).flatMap slopeRow ++ rowS bSlope (slopeN x)) W → Hid (PtInv w2 (headS m ++ (m.slopes.take (j + 1)).flatMap slopeRow) W) := fun W h => Lib.hid (by
          rw [HTS.out, List.flatMap_append, ← List.append_assoc]
          simpa [slopeRow] using h)
        have HNX := Lib.hid hnx
        have hlb : (headS m ++ (m.slopes.take j).flatMap slopeRow).length + 5 + 11 * (slopeN x).length + 1 ≤ 1000000 := by
          have h3 : (slopeN x).length = 4 + x.takes.length := by simp [slopeN]; omega
          rw [List.length_append, h3]; omega
        have HLB := Lib.hid hlb
        clear hnx hlb
        cases tA with
        | none =>
          have ht0 : x.takes = [] := by
            cases hx : x.takes with
            | nil => rfl
            | cons a l =>
              obtain ⟨_, _, e, _⟩ := HTR.out.2 (by rw [hx]; simp)
              cases e
          have hl0 : x.takes.length = 0 := by rw [ht0]; rfl
          have hcall : Calls Tryz.prog 21 #[.string ⟨#[115, 108, 111, 112, 101]⟩, .slice (some ⟨w6.heap.size, 0, none⟩) 4 4, .pointer (some ⟨w2.heap.size, 0, none⟩)] (w6.alloc (.cells #[.int .i64 x.now, .int .i64 x.need, .int .i64 x.full, .int .i64 x.size] 3)) fun e w' => e = .returned (.tuple #[]) ∧ PtInv w2 (headS m ++ (m.slopes.take j).flatMap slopeRow ++ rowS bSlope (slopeN x)) w' := by
            have hsn : slopeN x = [x.now, x.need, x.full, x.size] := by simp [slopeN, ht0]
            have hb := slopeN_ok HXO.out
            have hl := HLB.out
            rw [hsn] at hb hl ⊢
            exact putl_inv (xs := [x.now, x.need, x.full, x.size]) H7.out HV2.out ⟨#[115, 108, 111, 112, 101]⟩ (heap_alloc_self w6 _) (fun j u hu => by simpa using hu) hb hl h1w
          have HCALL := Lib.hid hcall
          clear hcall ht0
          rw [hl0] at d5 d4'
          clear hl0
          go_wp2_with fail
          refine HCALL.out.mono ?_
          rintro e w8 ⟨rfl, h8⟩
          have H8 := HNX.out w8 h8
          clear h8
          go_wp2_with fail
          go_round
          case rel => exact ⟨j + 1, by omega, by go_num, H8⟩
          case measure => simp [intOf]; omega
        | some ad =>
          have hnews : ∀ W, Below w.heap.size w W → ∀ (k : Nat) (u : Value), (x.takes.map (Value.int .i64))[k]? = some u → W.cell? (ad.add k) = some u := by
            intro W hW k u hu
            obtain ⟨b, o, e, hb, hc⟩ := HTR.out.2 (by intro e; simp [e] at hu)
            cases e
            rw [show (⟨b, o, none⟩ : Addr).add k = ⟨b, o + k, none⟩ by unfold Addr.add; split <;> simp_all]
            exact (hW.cell (p := ⟨b, o + k, none⟩) hb).trans (hc k u hu)
          have hown4 : (w6.alloc (.cells #[.int .i64 x.now, .int .i64 x.need, .int .i64 x.full, .int .i64 x.size] 3)).ownsRow w6.heap.size 3 1 (.slice (some ⟨w6.heap.size, 0, none⟩) 4 4) 4 [.int .i64 x.now, .int .i64 x.need, .int .i64 x.full, .int .i64 x.size] :=
            ⟨rfl, .inr ⟨w6.heap.size, 4, _, rfl, Nat.le_refl _, heap_alloc_self w6 _, Nat.le_refl _, by simp [maxLen], rfl, rfl⟩⟩
          have hnl : 4 + x.takes.length = (slopeN x).length := by simp [slopeN]; omega
          have hmap : [Value.int .i64 x.now, .int .i64 x.need, .int .i64 x.full, .int .i64 x.size] ++ x.takes.map (Value.int .i64) = (slopeN x).map (Value.int .i64) := by simp [slopeN]
          have HN := Lib.hid (And.intro hnews (And.intro hown4 (And.intro hnl hmap)))
          obtain ⟨i0, hi, hz0, hz1, hz2⟩ := info_parts infoInt
          clear hnews hown4 hnl hmap
          go_wp2_with (at_builtin; (refine wpList_append_own _ rfl _ _ 35 rfl w6.heap.size 3 i0 (.int .i64 0) 1 8 Tryz.underlying35 hi hz0 hz1 hz2 rfl (by decide) _ 4 _ rfl HN.out.2.1 ad x.takes.length tc (x.takes.map (Value.int .i64)) rfl (by simp) (HN.out.1 _ (HBW.out _ _ H7.out)) (by simp [Value.oneCell']) (by simp only [maxLen]; omega) (by omega) (by simp) ?_); intro v7 w7 hown7 hg7 _; rw [HN.out.2.2.1, HN.out.2.2.2] at hown7; obtain ⟨g7, c7, rfl, _, _⟩ := hown7.form (by rw [← HN.out.2.2.1]; omega); have H8 := Lib.hid (And.intro hown7 hg7); clear hown7 hg7)
          have hb7 : Below w6.heap.size w6 w7 := (below1 w6 _).grown H8.out.2 (by simp) (fun k hk => by cases hk; exact Nat.le_refl _)
          obtain ⟨cs7, f7, hk7, hc7⟩ := own_cs H8.out.1
          refine (putl_inv (xs := slopeN x) (H6.out.later hb7) HV2.out ⟨#[115, 108, 111, 112, 101]⟩ hk7 hc7 (slopeN_ok HXO.out) HLB.out h1w).mono ?_
          rintro e w8 ⟨rfl, h8⟩
          have H9 := HNX.out w8 h8
          clear h8 hb7 hk7 hc7 H8
          go_wp2_with fail
          go_round
          case rel => exact ⟨j + 1, by omega, by go_num, H9⟩
          case measure => simp [intOf]; omega
      · obtain rfl : j = m.slopes.length := by omega
        have hji : ¬ ((m.slopes.length : Int) < (m.slopes.length : Int)) := by omega
        have hI0 := HI.out
        rw [List.take_length] at hI0
        have HI0 : Hid (PtInv w2 (headS m ++ m.slopes.flatMap slopeRow ++ (m.crafts.take 0).flatMap craftRow) wi) := Lib.hid (by simpa using hI0)
        obtain ⟨z0, z1, z2, z3, z4⟩ := blk5 (HBX.out wi _ hI0)
        clear hI0 x0 x1 x2 x3 x4
        go_wp2_with fail
        go_loopw [51] (fun iv wr => ∃ j : Nat, j ≤ m.crafts.length ∧ iv = .int .i64 (j : Int) ∧ Hid (PtInv w2 (headS m ++ m.slopes.flatMap slopeRow ++ (m.crafts.take j).flatMap craftRow) wr)) (fun iv _ => m.crafts.length - (intOf iv).toNat)
        case atStart => exact ⟨0, Nat.zero_le _, rfl, HI0⟩
        case round =>
          obtain ⟨j, hj, rfl, HJ⟩ := hrel
          obtain ⟨wj, rfl⟩ : ∃ wj, wj = wr := ⟨_, rfl⟩
          by_cases hjl : j < m.crafts.length
          · have hji2 : (j : Int) < (m.crafts.length : Int) := by omega
            have hj0 : (0 : Int) ≤ (j : Int) := by omega
            have hjadd : IntKind.i64.wrap ((j : Int) + 1) = (j : Int) + 1 := IntWalk.i64_in _ (by omega)
            have hgj : m.crafts[j]? = some m.crafts[j] := List.getElem?_eq_getElem hjl
            have hts : m.crafts.take (j + 1) = m.crafts.take j ++ [m.crafts[j]] := List.take_succ_eq_append_getElem hjl
            obtain ⟨cb, co, rfl, hcb, hcs⟩ := HCC.out (by intro e; rw [e] at hjl; simp at hjl)
            obtain ⟨c0, c1, c2⟩ := hcs j _ hgj
            have hk : ∀ i, wj.cell? ⟨cb, i, none⟩ = w.cell? ⟨cb, i, none⟩ := fun i => (HBW.out wj _ HJ.out).cell (p := ⟨cb, i, none⟩) hcb
            have d0 := (hk _).trans c0
            have d1 := (hk _).trans c1
            have d2 := (hk _).trans c2
            have hco := HOK.out.craft _ (List.getElem_mem hjl)
            have hcl := crafts_len HOK.out j
            have hsl := slopes_len HOK.out m.slopes.length
            rw [List.take_length] at hsl
            have hhl := headS_len HOK.out
            have HTS := Lib.hid hts
            have HCO := Lib.hid hco
            clear hcs c0 c1 c2 hk hgj
            generalize m.crafts[j] = y at *
            clear hts hco z0 z1 z2 z3 z4
            go_upto_region 15 with fail
            obtain ⟨w6, hw6⟩ : ∃ w6, w6 = wj.alloc (.cells #[.int .i64 y.add, .int .i64 y.price, .bool y.strip] 67) := ⟨_, rfl⟩
            rw [← hw6]
            have hb6 : Below wj.heap.size wj w6 := by rw [hw6]; exact below1 _ _
            have k6 : w6.heap[wj.heap.size]? = some (.cells #[.int .i64 y.add, .int .i64 y.price, .bool y.strip] 67 (0, 0)) := by rw [hw6]; exact heap_alloc_self _ _
            have H6 := Lib.hid (HJ.out.later hb6)
            clear hw6
            have d0' : w6.cell? ⟨wj.heap.size, 0, none⟩ = some (.int .i64 y.add) := by rw [cell_blk k6]; rfl
            have d1' : w6.cell? ⟨wj.heap.size, 1, none⟩ = some (.int .i64 y.price) := by rw [cell_blk k6]; rfl
            have d2' : w6.cell? ⟨wj.heap.size, 2, none⟩ = some (.bool y.strip) := by rw [cell_blk k6]; rfl
            have hnx : ∀ W, PtInv w2 (headS m ++ m.slopes.flatMap slopeRow ++ (m.crafts.take j).flatMap craftRow ++ craftRow y) W → Hid (PtInv w2 (headS m ++ m.slopes.flatMap slopeRow ++ (m.crafts.take (j + 1)).flatMap craftRow) W) := fun W h => Lib.hid (by
              rw [HTS.out, List.flatMap_append, ← List.append_assoc]
              simpa using h)
            have HNX := Lib.hid hnx
            have hlb : (headS m ++ m.slopes.flatMap slopeRow ++ (m.crafts.take j).flatMap craftRow).length ≤ 900 := by
              rw [List.length_append, List.length_append]; omega
            have HLB := Lib.hid hlb
            clear hnx hlb k6 hb6
            cases hst : y.strip
            · have hcall : Calls Tryz.prog 21 #[.string ⟨#[97, 100, 100]⟩, .slice (some ⟨w6.heap.size, 0, none⟩) 2 2, .pointer (some ⟨w2.heap.size, 0, none⟩)] (w6.alloc (.cells #[.int .i64 y.add, .int .i64 y.price] 3)) fun e w' => e = .returned (.tuple #[]) ∧ PtInv w2 (headS m ++ m.slopes.flatMap slopeRow ++ (m.crafts.take j).flatMap craftRow ++ craftRow y) w' := by
                have hr : craftRow y = rowS bAdd [y.add, y.price] := by unfold craftRow; rw [hst]; rfl
                rw [hr]
                have hl := HLB.out
                exact putl_inv (xs := [y.add, y.price]) (H6.out.later (below1 w6 _)) HV2.out ⟨#[97, 100, 100]⟩ (heap_alloc_self w6 _) (fun j u hu => by simpa using hu) (craftN_ok HCO.out).2 (by show _ + 3 + 11 * 2 + 1 ≤ _; omega) h1w
              have HCALL := Lib.hid hcall
              rw [hst] at d2'
              clear hcall
              go_wp2_with fail
              refine HCALL.out.mono ?_
              rintro e w8 ⟨rfl, h8⟩
              have H8 := HNX.out w8 h8
              clear h8
              go_wp2_with fail
              go_round
              case rel => exact ⟨j + 1, by omega, by go_num, H8⟩
              case measure => simp [intOf]; omega
            · have hcall : Calls Tryz.prog 21 #[.string ⟨#[115, 116, 114, 105, 112]⟩, .slice (some ⟨w6.heap.size, 0, none⟩) 1 1, .pointer (some ⟨w2.heap.size, 0, none⟩)] (w6.alloc (.cells #[.int .i64 y.price] 3)) fun e w' => e = .returned (.tuple #[]) ∧ PtInv w2 (headS m ++ m.slopes.flatMap slopeRow ++ (m.crafts.take j).flatMap craftRow ++ craftRow y) w' := by
                have hr : craftRow y = rowS bStrip [y.price] := by unfold craftRow; rw [hst]; rfl
                rw [hr]
                have hl := HLB.out
                exact putl_inv (xs := [y.price]) (H6.out.later (below1 w6 _)) HV2.out ⟨#[115, 116, 114, 105, 112]⟩ (heap_alloc_self w6 _) (fun j u hu => by simpa using hu) (craftN_ok HCO.out).1 (by show _ + 5 + 11 * 1 + 1 ≤ _; omega) h1w
              have HCALL := Lib.hid hcall
              rw [hst] at d2'
              clear hcall
              go_wp2_with fail
              refine HCALL.out.mono ?_
              rintro e w8 ⟨rfl, h8⟩
              have H8 := HNX.out w8 h8
              clear h8
              go_wp2_with fail
              go_round
              case rel => exact ⟨j + 1, by omega, by go_num, H8⟩
              case measure => simp [intOf]; omega
          · obtain rfl : j = m.crafts.length := by omega
            have hji2 : ¬ ((m.crafts.length : Int) < (m.crafts.length : Int)) := by omega
            have hJ := HJ.out
            rw [List.take_length] at hJ
            have hT : PtInv w2 (textS m) wj := hJ
            have HT := Lib.hid hT
            have htl := textS_len HOK.out
            have htl2 : ¬ (((Lib.byteCells (textS m)).length : Int) > 65536) := by rw [Lib.byteCells_length]; omega
            have htl3 : ((Lib.byteCells (textS m)).length : Int) ≤ 65536 := by omega
            clear hJ hT htl
            generalize textS m = T at *
            go_wp2_with fail
            refine (Tryz.Builder_Len w2.heap.size w2.heap.size _ wj (.inr HT.out.used)).mono ?_
            rintro e w8 ⟨rfl, rfl⟩
            go_wp2_with fail
            refine (Tryz.Builder_String_any w2.heap.size w2.heap.size T w8 (.inr HT.out.used) HT.out.below.size).mono ?_
            rintro e w9 ⟨rfl, h9⟩
            have HF := Lib.hid (H2.out.below.trans ((HT.out.below.trans h9).mono (by omega)))
            clear h9
            go_wp2_with fail
            go_ret2
            exact ⟨by rw [HP.out]; rfl, HF.out⟩
  · have hp : printS m = ([], checkS m) := by unfold printS; rw [if_neg hck]
    have HP := Lib.hid hp
    have hbel := H2.out.below
    have HB := Lib.hid hbel
    clear hp hbel
    generalize checkS m = ce at *
    have he1 : (ce != 0) = true := by simp [hck]
    have he2 : (!(ce == 0)) = true := by simp [hck]
    go_wp2_with fail
    go_ret2
    exact ⟨by rw [HP.out]; rfl, HB.out⟩
end Go.Proofs.YtcbhldfipfcjaaaGreatDoor
