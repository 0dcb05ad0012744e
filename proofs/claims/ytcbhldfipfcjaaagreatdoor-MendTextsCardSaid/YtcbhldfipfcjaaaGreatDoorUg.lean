/- The specification's Parse. -/
import Derived.Test.YtcbhldfipfcjaaaGreatDoorY11
import Derived.Test.YtcbhldfipfcjaaaGreatDoorRd

namespace Go.Proofs.YtcbhldfipfcjaaaGreatDoor
open Go Go.RowKit Go.Shelf
set_option maxRecDepth 100000
attribute [local go_sem] Oper.semAt_some

theorem linesL_mem {l x : List UInt8} (h : x ∈ linesL l) : x.length ≤ l.length := by
  have h1 : x ∈ partsG 10 [] l := by
    unfold linesL at h
    split at h
    · exact List.dropLast_subset _ h
    · exact h
  have h2 := partsG_size 10 l [] x h1
  simpa using h2
theorem linesL_count (l : List UInt8) : (linesL l).length ≤ l.length + 1 := by
  have h := partsG_count 10 l []
  unfold linesL
  split
  · rw [List.length_dropLast]; omega
  · exact h
theorem lineS_words {first : Bool} {m : Wk} {l : List UInt8} {x0 : ByteArray} {bt : List ByteArray} (h : (x0 :: bt).map (fun x => x.data.toList) = wordsL l) : lineS first m l = match numsL (bt.map fun x => x.data.toList) with
    | none => none
    | some n => lineN first m x0.data.toList n := by
  unfold lineS
  rw [← h]
  rfl
set_option maxHeartbeats 16000000 in
theorem rparse_calls (s : ByteArray) (w : World) (hs : s.size ≤ 100000) : Calls Tryz.prog 10 #[.string s] w (ParsePost s.data.toList w) := by
  obtain ⟨w0, hw0⟩ : ∃ w0, w0 = w.alloc (.cells #[.slice none 0 0, .slice none 0 0, .int .i64 0, .int .i64 0, .int .i64 0] 25) := ⟨_, rfl⟩
  have hb0 : Below w.heap.size w w0 := by rw [hw0]; exact below1 _ _
  have hz0 : w0.heap.size = w.heap.size + 1 := by rw [hw0]; simp
  have g0 : w0.heap[w.heap.size]? = some (.cells #[.slice none 0 0, .slice none 0 0, .int .i64 0, .int .i64 0, .int .i64 0] 25 (0, 0)) := by rw [hw0]; exact heap_alloc_self _ _
  have H0 := Lib.hid (And.intro hw0 (And.intro hb0 (And.intro hz0 g0)))
  clear hw0 hb0 hz0 g0
  go_enter Tryz.func10, Tryz.ntmps10
  by_cases hbig : (s.size : Int) > 65536
  · have hp : parseS s.data.toList = (wk0, 0, 3) := by
      unfold parseS
      have hl : s.data.toList.length = s.size := by simp
      rw [if_pos (by omega)]
    have HB := Lib.hid (rparse_bad hp H0.out.2.2.2 H0.out.2.1)
    obtain ⟨r0, r1, r2, r3, r4⟩ := blk5 H0.out.2.2.2
    have fr := frozen_blk H0.out.2.2.2
    rw [H0.out.1] at HB r0 r1 r2 r3 r4 fr
    clear hp
    go_wp2_with fail
    exact bodyPost_ret (results_rparse (by rfl) (by rfl) (by rfl) HB.out.2 rfl) (by rfl) HB.out.1
  · have hbig2 : (s.size : Int) ≤ 65536 := by omega
    have HBIG := Lib.hid hbig2
    clear hbig2
    go_wp2_with fail
    rw [← H0.out.1]
    refine (rlines_calls s w0 hs).mono ?_
    rintro e w1 ⟨v, os, rfl, hown, hls, hb1⟩
    obtain ⟨A, n, c, rfl⟩ := own_slice hown
    obtain ⟨ls, hlsd⟩ : ∃ ls, ls = linesL s.data.toList := ⟨_, rfl⟩
    obtain ⟨R, hR⟩ : ∃ R, parseGo 0 wk0 (linesL s.data.toList) = R := ⟨_, rfl⟩
    have hlen : os.length ≤ 100001 := by
      have h1 := congrArg List.length hls
      have h2 := linesL_count s.data.toList
      have h3 : s.data.toList.length = s.size := by simp
      rw [List.length_map] at h1
      omega
    have hz1 := hb1.size
    have hrc : ∀ W', Below w1.heap.size w1 W' → W'.heap[w.heap.size]? = some (.cells #[.slice none 0 0, .slice none 0 0, .int .i64 0, .int .i64 0, .int .i64 0] 25 (0, 0)) ∧ Below w.heap.size w W' := fun W' h => by
      have hz := H0.out.2.2.1
      exact ⟨blk_below h (blk_below hb1 H0.out.2.2.2 (by omega)) (by omega), H0.out.2.1.trans ((hb1.mono (by omega)).trans (h.mono (by omega)))⟩
    have HRC := Lib.hid hrc
    have HR := Lib.hid hR
    clear hR hrc
    by_cases hne : os = []
    · subst hne
      have hn := own_len hown
      simp only [List.length_nil] at hn
      subst hn
      have hp : parseS s.data.toList = (wk0, 0, 4) := by
        unfold parseS
        have hl : s.data.toList.length = s.size := by simp
        rw [if_neg (by omega), ← hls]
        rfl
      have HB := Lib.hid (rparse_bad2 hp (HRC.out w1 (Below.refl _ _)).1 (HRC.out w1 (Below.refl _ _)).2)
      obtain ⟨r0, r1, r2, r3, r4⟩ := blk5 (HRC.out w1 (Below.refl _ _)).1
      have fr := frozen_blk (HRC.out w1 (Below.refl _ _)).1
      clear hp hls hlsd hown hb1
      go_wp2_with fail
      exact bodyPost_ret (results_rparse (by rfl) (by rfl) (by rfl) HB.out.2 rfl) (by rfl) HB.out.1
    · obtain ⟨rfl, hcap, g, rfl, hB, hg, hat⟩ := own_str_at hown hne
      have hln0 : ((os.length : Int) == 0) = false := by
        have := List.length_pos_iff.2 hne
        rw [beq_eq_false_iff_ne]
        omega
      have hmap : os.map (fun x => x.data.toList) = ls := hls.trans hlsd.symm
      have hsz : ∀ x ∈ os, x.size ≤ 100000 := fun x hx => by
        have h1 := linesL_mem (l := s.data.toList) (x := x.data.toList) (by rw [← hls]; exact List.mem_map.2 ⟨x, hx, rfl⟩)
        have h3 : s.data.toList.length = s.size := by simp
        have h4 : x.data.toList.length = x.size := by simp
        omega
      obtain ⟨w2, hw2⟩ : ∃ w2, w2 = w1.alloc (.cells #[.slice none 0 0, .slice none 0 0, .int .i64 0, .int .i64 0, .int .i64 0] 25) := ⟨_, rfl⟩
      have hat2 : RpAt w1.heap.size w1 wk0 (.slice none 0 0) (.slice none 0 0) w2 := ⟨by rw [hw2]; exact heap_alloc_self _ _, OwnSq.nil _ _, ⟨rfl, .inl ⟨rfl, rfl⟩⟩, by rw [hw2]; exact below1 _ _, by rw [hw2]; simp⟩
      have HAT2 := Lib.hid hat2
      have HL := Lib.hid (And.intro hls (And.intro hlsd (And.intro hmap (And.intro hat hsz))))
      clear hat2 hls hlsd hmap hat hsz hown hb1
      go_wp2_with fail
      rw [← hw2]
      clear hw2
      go_loopw [7] (fun iv wr => ∃ (i : Nat) (m : Wk) (v cr : Value), i ≤ os.length ∧ iv = .int .i64 (i : Int) ∧ Hid (RpInv w1.heap.size w1 R ls i m v cr wr)) (fun iv _ => os.length - (intOf iv).toNat)
      case atStart => exact ⟨0, wk0, _, _, Nat.zero_le _, rfl, Lib.hid ⟨HAT2.out, by rw [List.drop_zero, HL.out.2.1]; exact HR.out, Nat.le_refl _, fun x hx => by simp [wk0] at hx⟩⟩
      case round =>
        obtain ⟨i, m, v, cr, hi, rfl, HI⟩ := hrel
        obtain ⟨Wr, rfl⟩ : ∃ Wr, Wr = wr := ⟨_, rfl⟩
        obtain ⟨vA, vn, vc, rfl⟩ : ∃ A n c, v = .slice A n c := by
          obtain ⟨_, _, h4, _⟩ := HI.out.laid.sl
          exact own_slice h4
        obtain ⟨cA, cn, cc, rfl⟩ := own_slice HI.out.laid.own
        obtain rfl : cn = m.crafts.length := own_len HI.out.laid.own
        by_cases hil : i < os.length
        · have hii : (i : Int) < (os.length : Int) := by omega
          have hi0 : (0 : Int) ≤ (i : Int) := by omega
          have hiadd : IntKind.i64.wrap ((i : Int) + 1) = (i : Int) + 1 := IntWalk.i64_in _ (by omega)
          have hx : Wr.cell? ⟨g, i, none⟩ = some (.string os[i]) := (HI.out.laid.below.cell (p := ⟨g, i, none⟩) hg).trans (HL.out.2.2.2.1 i hil)
          have hill : i < ls.length := by rw [← HL.out.2.2.1, List.length_map]; exact hil
          have hli : ls[i] = os[i].data.toList := by
            have := HL.out.2.2.1
            subst this
            rw [List.getElem_map]
          have hst := rp_step hill HI.out.go
          rw [hli] at hst
          have HX := Lib.hid (And.intro (HL.out.2.2.2.2 os[i] (List.getElem_mem hil)) hst)
          clear hst hli hill
          generalize os[i] = x at *
          go_wp2_with fail
          refine (rwords_calls x Wr HX.out.1).mono ?_
          rintro e w3 ⟨v3, ok, ws, rfl, ⟨A3, n3, c3, rfl⟩, hok, hno, hb3⟩
          have HA3 := Lib.hid (HI.out.laid.later hb3)
          clear hx
          cases ok
          · have hl := lineS_empty (i == 0) m _ (hno rfl)
            have HLN := Lib.hid hl
            clear hok hno hb3 hl
            have HB := Lib.hid (rparse_bad2 (rp_stop HBIG.out HR.out (HX.out.2.1 (HLN.out))) (HRC.out w3 (HA3.out.below)).1 (HRC.out w3 (HA3.out.below)).2)
            obtain ⟨r0, r1, r2, r3, r4⟩ := blk5 (HRC.out w3 (HA3.out.below)).1
            have fr := frozen_blk (HRC.out w3 (HA3.out.below)).1
            go_wp2_with fail
            exact bodyPost_ret (results_rparse (by rfl) (by rfl) (by rfl) HB.out.2 rfl) (by rfl) HB.out.1
          · obtain ⟨hown3, hws, hnn⟩ := hok rfl
            have hwne : ws ≠ [] := fun e => partsG_ne 32 x.data.toList [] (by
              rw [e] at hws
              exact hws.symm)
            obtain ⟨rfl, hcap3, g3, rfl, hB3, hg3, hat3⟩ := own_str_at hown3 hwne
            obtain ⟨x0, bt, rfl⟩ : ∃ x0 bt, ws = x0 :: bt := by
              cases ws with
              | nil => exact absurd rfl hwne
              | cons x0 bt => exact ⟨x0, bt, rfl⟩
            have hwl : (x0 :: bt).length ≤ 100001 := by
              have h1 := congrArg List.length hws
              have h2 := partsG_count 32 x.data.toList []
              have h3 : x.data.toList.length = x.size := by simp
              have h4 := HX.out.1
              unfold wordsL at h1
              rw [List.length_map] at h1
              omega
            have hwz : ∀ y ∈ bt, y.size ≤ 100000 := fun y hy => by
              have h1 : y.data.toList ∈ wordsL x.data.toList := by rw [← hws]; exact List.mem_map.2 ⟨y, List.mem_cons_of_mem _ hy, rfl⟩
              have h2 := partsG_size 32 x.data.toList [] _ h1
              have h3 : x.data.toList.length = x.size := by simp
              have h4 := HX.out.1
              have h5 : y.data.toList.length = y.size := by simp
              simp only [List.length_nil, Nat.zero_add] at h2
              omega
            have hx0 : w3.cell? ⟨g3, 0, none⟩ = some (.string x0) := hat3 0 (by simp)
            have hsa : ∀ A, (bt ≠ [] → A = some ⟨g3, 1, none⟩) → StrAt w3 A bt := fun A hA hb => ⟨g3, 1, hA hb, hg3, fun j hj => by
              have h := hat3 (j + 1) (by simp; omega)
              rw [Nat.add_comm 1 j]
              exact h⟩
            have HW := Lib.hid (And.intro hws (And.intro hwz (And.intro hsa (lineS_words (first := (i == 0)) (m := m) hws))))
            have HG3 := Lib.hid (And.intro hx0 hg3)
            obtain ⟨nb, hnb⟩ : ∃ nb, nb = bt.length := ⟨_, rfl⟩
            have hlen3 : (x0 :: bt).length = nb + 1 := by rw [hnb]; rfl
            rw [hlen3] at hwl hcap3 ⊢
            have hnb1 : (1 : Int) ≤ (nb : Int) + 1 := by omega
            have HNB := Lib.hid hnb
            have hk0 : (hid0 : True) → ((i == 0) = true ∨ (i == 0) = false) := fun _ => by cases (i == 0) <;> simp
            clear hok hno hb3 hown3 hws hnn hwne hat3 hwz hx0 hsa hlen3 hk0
            by_cases hnz : nb = 0
            · have hbt : bt = [] := List.eq_nil_of_length_eq_zero (HNB.out.symm.trans hnz)
              have hl : lineS (i == 0) m x.data.toList = none := by
                rw [HW.out.2.2.2, hbt]
                exact lineN_nil _ _ _
              have HLN := Lib.hid hl
              have HBT := Lib.hid hbt
              have hst := ByteArray.toList_eq x0
              clear hl HNB hbt hnz
              subst hnb
              by_cases hc3 : c3 = 1
              all_goals
                go_wp2_with fail
                refine (wholes_calls _ _ bt w3 (fun h => absurd HBT.out h) (by omega) HW.out.2.1).mono ?_
                rintro e W4 ⟨v4, rfl, ⟨A4, n4, c4, rfl⟩, hxs, hb4⟩
                have hns : numsL (bt.map fun x => x.data.toList) = some [] := by rw [HBT.out]; rfl
                have hxs2 := hxs [] hns
                obtain rfl : n4 = 0 := own_len hxs2
                rw [hns]
                clear hns hc3
                have HA4 := Lib.hid (HA3.out.later hb4)
                have hx04 : W4.cell? ⟨g3, 0, none⟩ = some (.string x0) := (hb4.cell (p := ⟨g3, 0, none⟩) HG3.out.2).trans HG3.out.1
                clear hxs hxs2 hb4
                simp only [Option.isSome_some]
                have HB := Lib.hid (rparse_bad2 (rp_stop HBIG.out HR.out (HX.out.2.1 (HLN.out))) (HRC.out W4 (HA4.out.below)).1 (HRC.out W4 (HA4.out.below)).2)
                obtain ⟨r0, r1, r2, r3, r4⟩ := blk5 (HRC.out W4 (HA4.out.below)).1
                have fr := frozen_blk (HRC.out W4 (HA4.out.below)).1
                generalize hqW : (x0.data.toList == [119, 111, 114, 107, 115]) = qW at *
                generalize hqS : (x0.data.toList == [115, 108, 111, 112, 101]) = qS at *
                generalize hqA : (x0.data.toList == [97, 100, 100]) = qA at *
                generalize hqT : (x0.data.toList == [115, 116, 114, 105, 112]) = qT at *
                generalize hqI : ((i : Int) == 0) = qI at *
                cases qW <;> cases qS <;> cases qA <;> cases qT <;> cases qI
                all_goals
                  go_wp2_with fail
                  exact bodyPost_ret (results_rparse (by rfl) (by rfl) (by rfl) HB.out.2 rfl) (by rfl) HB.out.1
            · have hc3 : ¬ c3 = 1 := by omega
              subst hnb
              go_wp2_with fail
              refine (wholes_calls _ _ bt w3 (HW.out.2.2.1 _ (fun _ => rfl)) (by omega) HW.out.2.1).mono ?_
              rintro e W4 ⟨v4, rfl, ⟨A4, n4, c4, rfl⟩, hxs, hb4⟩
              have HA4 := Lib.hid (HA3.out.later hb4)
              cases hn : numsL (bt.map fun x => x.data.toList) with
              | none =>
                have hl : lineS (i == 0) m x.data.toList = none := by
                  rw [HW.out.2.2.2, hn]
                have HLN := Lib.hid hl
                clear hl hxs hn hb4 hc3 hnz
                simp only [Option.isSome_none]
                have HB := Lib.hid (rparse_bad2 (rp_stop HBIG.out HR.out (HX.out.2.1 (HLN.out))) (HRC.out W4 (HA4.out.below)).1 (HRC.out W4 (HA4.out.below)).2)
                obtain ⟨r0, r1, r2, r3, r4⟩ := blk5 (HRC.out W4 (HA4.out.below)).1
                have fr := frozen_blk (HRC.out W4 (HA4.out.below)).1
                go_wp2_with fail
                exact bodyPost_ret (results_rparse (by rfl) (by rfl) (by rfl) HB.out.2 rfl) (by rfl) HB.out.1
              | some xs =>
                have hxs2 := hxs xs hn
                obtain rfl : n4 = xs.length := own_len hxs2
                have hl : lineS (i == 0) m x.data.toList = lineN (i == 0) m x0.data.toList xs := by
                  rw [HW.out.2.2.2, hn]
                have hxl : xs.length ≤ 100001 := by
                  have h1 := numsL_length _ _ hn
                  rw [List.length_map] at h1
                  omega
                have HLN := Lib.hid hl
                have HXO := Lib.hid hxs2
                have HXL := Lib.hid hxl
                have hx04 : W4.cell? ⟨g3, 0, none⟩ = some (.string x0) := (hb4.cell (p := ⟨g3, 0, none⟩) HG3.out.2).trans HG3.out.1
                obtain ⟨x0', x1', x2', x3', x4'⟩ := blk5 HA4.out.box
                have x1c : W4.cell? ⟨w1.heap.size, 1, none⟩ = some (.slice cA m.crafts.length cc) := x1'
                have HB4 := Lib.hid hb4
                clear hl hxl hxs hn hxs2 hc3 hnz x0' x1' x2' x3' x4' hb4
                simp only [Option.isSome_some]
                have hst := ByteArray.toList_eq x0
                by_cases hi00 : i = 0
                · have hib : ((i : Int) == 0) = true := by simp [hi00]
                  have hk : (i == 0) = true := by simp [hi00]
                  have HK := Lib.hid hk
                  clear hi00 hk
                  by_cases hW : x0.data.toList = bWorks
                  · skip
                    have hWb : (x0.data.toList == [119, 111, 114, 107, 115]) = true := by rw [hW]; rfl
                    have hSb : (x0.data.toList == [115, 108, 111, 112, 101]) = false := by rw [hW]; rfl
                    have hAb : (x0.data.toList == [97, 100, 100]) = false := by rw [hW]; rfl
                    have hTb : (x0.data.toList == [115, 116, 114, 105, 112]) = false := by rw [hW]; rfl
                    have HWD := Lib.hid hW
                    clear hW
                    by_cases h3 : xs.length = 3
                    · obtain ⟨ya, yb, yc, rfl⟩ : ∃ a b c, xs = [a, b, c] := by
                        match xs, h3 with
                        | [a, b, c], _ => exact ⟨a, b, c, rfl⟩
                      have hl2 : lineN (i == 0) m x0.data.toList [ya, yb, yc] = some { m with years := ya, visit := yb, hands := yc } := by
                        unfold lineN
                        rw [HK.out, HWD.out]
                        rfl
                      have HGO := Lib.hid (HX.out.2.2 _ (HLN.out.trans hl2))
                      have ho6 : W4.ownsRow w3.heap.size 3 1 (.slice A4 3 c4) 3 [.int .i64 ya, .int .i64 yb, .int .i64 yc] := HXO.out
                      obtain ⟨gn, cap, e, hgB, hgl⟩ := ho6.form (by omega)
                      simp only [Value.slice.injEq] at e
                      obtain ⟨rfl, _, _⟩ := e
                      have n0 := own_cells ho6 0 _ rfl
                      have n1 := own_cells ho6 1 _ rfl
                      have n2 := own_cells ho6 2 _ rfl
                      have hgne : gn ≠ w1.heap.size := by have := HA3.out.big; omega
                      have hgne2 : w1.heap.size ≠ gn := fun e => hgne e.symm
                      have hq : ∀ w4, BoxR w1.heap.size (.slice vA vn vc) (.slice cA m.crafts.length cc) m.years m.visit m.hands ya yb W4 w4 → w4.cell? ⟨gn, 0, none⟩ = some (.int .i64 ya) ∧ w4.cell? ⟨gn, 1, none⟩ = some (.int .i64 yb) ∧ w4.cell? ⟨gn, 2, none⟩ = some (.int .i64 yc) := fun w4 hw => by
                        have hb := hw.bel.block gn hgl hgne
                        exact ⟨(World.cell?_of_block hb).trans n0, (World.cell?_of_block hb).trans n1, (World.cell?_of_block hb).trans n2⟩
                      have hq2 : ∀ w4, BoxR w1.heap.size (.slice vA vn vc) (.slice cA m.crafts.length cc) m.years m.visit m.hands ya yb W4 w4 → (∃ o2 o3, w4.cell? ⟨w1.heap.size, 2, none⟩ = some o2 ∧ w4.cell? ⟨w1.heap.size, 3, none⟩ = some o3) ∧ (∀ j, w4.frozen? ⟨w1.heap.size, j, none⟩ = false) ∧
                          (∃ q, (w4.setCell ⟨w1.heap.size, 2, none⟩ (.int .i64 ya)).heap[w1.heap.size]? = some (bxO (.slice vA vn vc) (.slice cA m.crafts.length cc) m.years m.visit m.hands ya yb true q)) ∧ ∃ p, (w4.setCell ⟨w1.heap.size, 3, none⟩ (.int .i64 yb)).heap[w1.heap.size]? = some (bxO (.slice vA vn vc) (.slice cA m.crafts.length cc) m.years m.visit m.hands ya yb p true) := fun w4 hw => by
                        obtain ⟨p, q, _, _, e⟩ := hw.step false false HA4.out.box
                        exact ⟨⟨_, _, by rw [cell_blk e]; rfl, by rw [cell_blk e]; rfl⟩, frozen_blk e, ⟨q, (heap_set e 2 _).trans rfl⟩, p, (heap_set e 3 _).trans rfl⟩
                      have HQA := Lib.hid hq
                      have HQB := Lib.hid hq2
                      clear hl2 ho6 h3 hq hq2 n0 n1 n2
                      go_wp2_with fail
                      refine wp_region_rg_tail 13 (BoxR w1.heap.size (.slice vA vn vc) (.slice cA m.crafts.length cc) m.years m.visit m.hands ya yb) (fun | 10 => .exw undef (BoxA w1.heap.size (.slice vA vn vc) (.slice cA m.crafts.length cc) m.years m.visit m.hands ya yb) | 12 => .exw undef (BoxC w1.heap.size (.slice vA vn vc) (.slice cA m.crafts.length cc) m.years m.visit m.hands ya yb) | _ => .fn) (by kernel_rfl) (by kernel_rfl) (BoxR.refl _ _ _ _ _ _ _ _) (fun _ _ _ h k => h.trans k)
                        (by intro i; split <;> first | trivial | exact (fun w1 w2 h h0 => by obtain ⟨q, e⟩ := h0; obtain ⟨p', q', h1, _, e'⟩ := h.step true q e; rw [h1 rfl] at e'; exact ⟨q', e'⟩) | exact (fun w1 w2 h h0 => by obtain ⟨p, e⟩ := h0; obtain ⟨p', q', _, h2, e'⟩ := h.step p true e; rw [h2 rfl] at e'; exact ⟨p', e'⟩)) ?_
                      iterate 10 (refine rg_step fun K hK => ?_; apply rg_fn rfl; (intro w4 hw; obtain ⟨q0, q1, q2⟩ := HQA.out w4 hw.undrew; go_simp; try rfl); go_simp; (try with_reducible refine hK _ _ ?_); try clear hK K)
                      refine rg_step fun K hK => ?_
                      apply rg_exS rfl
                      · intro w4 hw
                        obtain ⟨⟨o2, o3, e2, e3⟩, ef, h2, _⟩ := HQB.out w4 hw.undrew
                        refine ⟨w4.setCell ⟨w1.heap.size, 2, none⟩ (.int .i64 ya), ?_, BoxR.set2, h2⟩
                        go_simp
                        try rfl
                      go_simp
                      (try with_reducible refine hK _ _ ?_)
                      try clear hK K
                      iterate 1 (refine rg_step fun K hK => ?_; apply rg_fn rfl; (intro w4 hw; go_simp; try rfl); go_simp; (try with_reducible refine hK _ _ ?_); try clear hK K)
                      refine rg_step fun K hK => ?_
                      apply rg_exS rfl
                      · intro w4 hw
                        obtain ⟨⟨o2, o3, e2, e3⟩, ef, _, h3⟩ := HQB.out w4 hw.undrew
                        refine ⟨w4.setCell ⟨w1.heap.size, 3, none⟩ (.int .i64 yb), ?_, BoxR.set3, h3⟩
                        go_simp
                        try rfl
                      go_simp
                      (try with_reducible refine hK _ _ ?_)
                      try clear hK K
                      refine rg_nil ?_
                      intro w7 hw7 hset
                      replace hw7 := hw7.undrew
                      obtain ⟨hA, hC⟩ : BoxA w1.heap.size (.slice vA vn vc) (.slice cA m.crafts.length cc) m.years m.visit m.hands ya yb w7 ∧ BoxC w1.heap.size (.slice vA vn vc) (.slice cA m.crafts.length cc) m.years m.visit m.hands ya yb w7 := by
                        first | exact hset | exact ⟨hset.2, hset.1⟩ | exact ⟨hset.1, hset.2.1⟩ | exact ⟨hset.2.1, hset.1⟩
                      have hbox7 := hA.both hC
                      obtain ⟨q0, q1, q2⟩ := HQA.out w7 hw7
                      have y4 : w7.cell? ⟨w1.heap.size, 4, none⟩ = some (.int .i64 m.hands) := by rw [cell_blk hbox7]; rfl
                      have fy := frozen_blk hbox7 4
                      have hat7 := HA4.out.nums2 (W7 := w7.setCell ⟨w1.heap.size, 4, none⟩ (.int .i64 yc)) ya yb yc ((heap_set hbox7 4 _).trans rfl) (fun j hj hjl => (Below.heap_setCell _ _ _ _ (by exact hj)).trans (hw7.bel.block j hjl hj)) (by simp [World.setCell]; exact hw7.bel.size) ((HA4.out.below.trans (hw7.bel.below HA4.out.below.size (fun k hk => by omega))).setCell (p := ⟨w1.heap.size, 4, none⟩) (Nat.le_refl _) _)
                      have hfin : RpInv w1.heap.size w1 R ls (i + 1) _ _ _ _ := ⟨hat7, HGO.out, Nat.le_succ_of_le HI.out.few, HI.out.takes⟩
                      have HFIN := Lib.hid hfin
                      clear hA hC hbox7 hat7 hfin hset hw7
                      simp only [List.drop_succ_cons, List.drop_zero]
                      go_wp2_with fail
                      go_round
                      case rel => exact ⟨i + 1, _, _, _, by omega, by go_num, HFIN⟩
                      case measure => simp [intOf]; omega
                    · have h3i : ((xs.length : Int) == 3) = false := by rw [beq_eq_false_iff_ne]; omega
                      have hl2 : lineN (i == 0) m x0.data.toList xs = none := by
                        unfold lineN
                        rw [HK.out, HWD.out]
                        have h3' : (xs.length == 3) = false := by rw [beq_eq_false_iff_ne]; exact h3
                        rw [h3']
                        rfl
                      have HL2 := Lib.hid (HLN.out.trans hl2)
                      clear hl2 h3
                      have HB := Lib.hid (rparse_bad2 (rp_stop HBIG.out HR.out (HX.out.2.1 (HL2.out))) (HRC.out W4 (HA4.out.below)).1 (HRC.out W4 (HA4.out.below)).2)
                      obtain ⟨r0, r1, r2, r3, r4⟩ := blk5 (HRC.out W4 (HA4.out.below)).1
                      have fr := frozen_blk (HRC.out W4 (HA4.out.below)).1
                      go_wp2_with fail
                      exact bodyPost_ret (results_rparse (by rfl) (by rfl) (by rfl) HB.out.2 rfl) (by rfl) HB.out.1
                  · have hWb : (x0.data.toList == [119, 111, 114, 107, 115]) = false := by rw [beq_eq_false_iff_ne]; exact hW
                    clear hW
                    have hl2 : lineN (i == 0) m x0.data.toList xs = none := by
                      unfold lineN
                      rw [HK.out, show (x0.data.toList == bWorks) = false from hWb]
                      rfl
                    have HL2 := Lib.hid (HLN.out.trans hl2)
                    clear hl2
                    have HB := Lib.hid (rparse_bad2 (rp_stop HBIG.out HR.out (HX.out.2.1 (HL2.out))) (HRC.out W4 (HA4.out.below)).1 (HRC.out W4 (HA4.out.below)).2)
                    obtain ⟨r0, r1, r2, r3, r4⟩ := blk5 (HRC.out W4 (HA4.out.below)).1
                    have fr := frozen_blk (HRC.out W4 (HA4.out.below)).1
                    go_wp2_with fail
                    exact bodyPost_ret (results_rparse (by rfl) (by rfl) (by rfl) HB.out.2 rfl) (by rfl) HB.out.1
                · have hib : ((i : Int) == 0) = false := by simp; omega
                  have hk : (i == 0) = false := by simp [hi00]
                  have HK := Lib.hid hk
                  clear hi00 hk
                  by_cases hW : x0.data.toList = bWorks
                  · have hWb : (x0.data.toList == [119, 111, 114, 107, 115]) = true := by rw [hW]; rfl
                    have hl2 : lineN (i == 0) m x0.data.toList xs = none := by
                      unfold lineN
                      rw [HK.out, hW]
                      rfl
                    have HL2 := Lib.hid (HLN.out.trans hl2)
                    clear hl2 hW
                    have HB := Lib.hid (rparse_bad2 (rp_stop HBIG.out HR.out (HX.out.2.1 (HL2.out))) (HRC.out W4 (HA4.out.below)).1 (HRC.out W4 (HA4.out.below)).2)
                    obtain ⟨r0, r1, r2, r3, r4⟩ := blk5 (HRC.out W4 (HA4.out.below)).1
                    have fr := frozen_blk (HRC.out W4 (HA4.out.below)).1
                    go_wp2_with fail
                    exact bodyPost_ret (results_rparse (by rfl) (by rfl) (by rfl) HB.out.2 rfl) (by rfl) HB.out.1
                  · have hWb : (x0.data.toList == [119, 111, 114, 107, 115]) = false := by rw [beq_eq_false_iff_ne]; exact hW
                    clear hW
                    by_cases hW : x0.data.toList = bSlope
                    · have hSb : (x0.data.toList == [115, 108, 111, 112, 101]) = true := by rw [hW]; rfl
                      have hAb : (x0.data.toList == [97, 100, 100]) = false := by rw [hW]; rfl
                      have hTb : (x0.data.toList == [115, 116, 114, 105, 112]) = false := by rw [hW]; rfl
                      have HWD := Lib.hid hW
                      clear hW
                      by_cases h4 : 4 ≤ xs.length
                      · have h4i : (xs.length : Int) ≥ 4 := by omega
                        by_cases hc0 : m.crafts.length = 0
                        · have hc0b : ((m.crafts.length : Int) == 0) = true := by simp [hc0]
                          obtain ⟨ya, yb, yc, yd, rest, rfl⟩ : ∃ a b c d rest, xs = a :: b :: c :: d :: rest := by
                            match xs, h4 with
                            | a :: b :: c :: d :: rest, _ => exact ⟨a, b, c, d, rest, rfl⟩
                          have hl2 : lineN (i == 0) m x0.data.toList (ya :: yb :: yc :: yd :: rest) = some { m with slopes := m.slopes ++ [⟨ya, yb, yc, yd, rest⟩] } := by
                            unfold lineN
                            have e1 : decide (4 ≤ (ya :: yb :: yc :: yd :: rest).length) = true := decide_eq_true h4
                            have e2 : (m.crafts.length == 0) = true := by simp [hc0]
                            rw [HK.out, HWD.out, e1, e2]
                            rfl
                          have HGO := Lib.hid (HX.out.2.2 _ (HLN.out.trans hl2))
                          obtain ⟨nr, hnr⟩ : ∃ nr, nr = rest.length := ⟨_, rfl⟩
                          have hlenx : (ya :: yb :: yc :: yd :: rest).length = nr + 4 := by rw [hnr]; rfl
                          have hrl : rest.length ≤ 100001 := by
                            have := HXL.out
                            rw [hlenx] at this
                            omega
                          have HRL := Lib.hid hrl
                          have ho6 := HXO.out
                          rw [hlenx] at ho6
                          obtain ⟨gn, cap, e, hgB, hgl⟩ := ho6.form (by omega)
                          simp only [Value.slice.injEq] at e
                          obtain ⟨rfl, _, hcapn⟩ := e
                          have hncap : nr + 4 ≤ c4 := by
                            rcases ho6.2 with ⟨h1, _⟩ | ⟨g', cap', cur, hv, _, _, hcp, _⟩
                            · cases h1
                            · simp only [Value.slice.injEq] at hv
                              omega
                          obtain ⟨cq, rfl⟩ : ∃ cq, c4 = cq + 4 := ⟨c4 - 4, by omega⟩
                          have hnq : nr ≤ cq := by omega
                          have n0 := own_cells ho6 0 (.int .i64 ya) rfl
                          have n1 := own_cells ho6 1 (.int .i64 yb) rfl
                          have n2 := own_cells ho6 2 (.int .i64 yc) rfl
                          have n3 := own_cells ho6 3 (.int .i64 yd) rfl
                          have htk : ∀ w5, Below W4.heap.size W4 w5 → TakesAt w5 (w1.heap.size + 1) (.slice (some ⟨gn, 4, none⟩) nr cq) rest := fun w5 hw => by
                            rw [hnr]
                            refine ⟨_, _, rfl, fun _ => ?_⟩
                            rcases ho6.2 with ⟨h1, _⟩ | ⟨g', cap', cur, hv, _, hh, hcp, _, _, ht⟩
                            · cases h1
                            · simp only [Value.slice.injEq, Option.some.injEq, Addr.mk.injEq] at hv
                              obtain ⟨⟨rfl, _⟩, _, _⟩ := hv
                              refine ⟨gn, 4, cur, rfl, by have := HA3.out.big; omega, blk_below hw hh (lt_blk hh), fun j y hj => ?_⟩
                              have hjl := (List.getElem?_eq_some_iff.1 hj).1
                              have h5 : ((ya :: yb :: yc :: yd :: rest).map (Value.int .i64))[4 + j]? = some (.int .i64 y) := by
                                rw [show 4 + j = j + 1 + 1 + 1 + 1 by omega]
                                simp only [List.map_cons, List.getElem?_cons_succ, List.getElem?_map, hj, Option.map_some]
                              rw [← ht, List.getElem?_take, if_pos (by omega), Array.getElem?_toList] at h5
                              exact h5
                          have hq : ∀ w5, Below W4.heap.size W4 w5 → w5.cell? ⟨w1.heap.size, 0, none⟩ = some (.slice vA vn vc) ∧ w5.cell? ⟨gn, 0, none⟩ = some (.int .i64 ya) ∧ w5.cell? ⟨gn, 1, none⟩ = some (.int .i64 yb) ∧ w5.cell? ⟨gn, 2, none⟩ = some (.int .i64 yc) ∧ w5.cell? ⟨gn, 3, none⟩ = some (.int .i64 yd) := fun w5 hw =>
                            ⟨(hw.cell (p := ⟨w1.heap.size, 0, none⟩) (lt_blk HA4.out.box)).trans (by rw [cell_blk HA4.out.box]; rfl), (hw.cell (p := ⟨gn, 0, none⟩) hgl).trans n0, (hw.cell (p := ⟨gn, 1, none⟩) hgl).trans n1, (hw.cell (p := ⟨gn, 2, none⟩) hgl).trans n2, (hw.cell (p := ⟨gn, 3, none⟩) hgl).trans n3⟩
                          have HQA := Lib.hid hq
                          have HTK1 := Lib.hid htk
                          have HNR := Lib.hid hnr
                          have h4j : ((nr + 4 : Nat) : Int) ≥ 4 := by omega
                          rw [hlenx]
                          clear hl2 ho6 hq htk hnr n0 n1 n2 n3 h4 h4i hc0 hlenx hcapn hncap hrl
                          by_cases hq0 : cq = 0
                          · obtain rfl : nr = 0 := by omega
                            subst hq0
                            have htk : ∀ w5, Below W4.heap.size W4 w5 → TakesAt w5 (w1.heap.size + 1) (.slice (some ⟨gn, 0, none⟩) 0 0) rest := fun w5 _ => by
                              have h0 : rest = [] := List.eq_nil_of_length_eq_zero HNR.out.symm
                              rw [h0]
                              exact ⟨_, _, rfl, fun h => absurd rfl h⟩
                            have HTK := Lib.hid htk
                            clear htk
                            go_wp2_with fail
                            refine wp_region_rg_tail 18 Grows (fun | 17 => .any anyV (fun l v w5 => ∃ b, v = .slice (some ⟨b, 0, none⟩) 1 1 ∧ w5.heap[b]? = some (.cells (aggOf l) 37 (0, 0))) | _ => .fn) (by kernel_rfl) (by kernel_rfl) Grows.refl growsT
                              (by intro i; split <;> first | trivial | exact (fun l v w1 w2 h ⟨b, h2, h3⟩ => ⟨b, h2, blk_below h h3 (lt_blk h3)⟩)) ?_
                            iterate 17 (refine rg_step fun K hK => ?_; apply rg_fn rfl; (intro w4 hw; obtain ⟨q0, q1, q2, q3, q4⟩ := HQA.out w4 hw.undrew; go_simp; try rfl); go_simp; (try with_reducible refine hK _ _ ?_); try clear hK K)
                            refine rg_step fun K hK => ?_
                            apply rg_any rfl
                            · intro w4 hw
                              refine ⟨.slice (some ⟨w4.heap.size, 0, none⟩) 1 1, w4.alloc (.cells #[.int .i64 ya, .int .i64 yb, .int .i64 yc, .int .i64 yd, .slice (some ⟨gn, 0, none⟩) 0 0] 37), ?_, below1 _ _, trivial, ⟨_, rfl, heap_alloc_self _ _⟩⟩
                              go_simp
                              try rfl
                            rintro v10 _
                            go_simp
                            (try with_reducible refine hK _ _ ?_)
                            try clear hK K
                            refine rg_nil ?_
                            rintro w12 hw12 ⟨b9, rfl, hblk⟩
                            replace hblk : w12.heap[b9]? = some (.cells #[.int .i64 ya, .int .i64 yb, .int .i64 yc, .int .i64 yd, .slice (some ⟨gn, 0, none⟩) 0 0] 37 (0, 0)) := hblk
                            replace hw12 := hw12.undrew
                            have htk : TakesAt w12 (w1.heap.size + 1) (.slice (some ⟨gn, 0, none⟩) 0 0) rest := HTK.out w12 hw12
                            have hat12 := HA4.out.later hw12
                            have HAT12 := Lib.hid hat12
                            have hsl : m.slopes.length ≤ 100001 := by have := HI.out.few; omega
                            obtain ⟨us, u1, u2, u3⟩ := hat12.sl
                            have HU := Lib.hid (And.intro u1 (And.intro u2 (And.intro u3 htk)))
                            clear hat12 hw12 u1 u2 u3 htk
                            simp only [List.drop_succ_cons, List.drop_zero]
                            refine wpList_app2 (w1.heap.size + 1) _ _ 22 37 (.agg #[.int .i64 0, .int .i64 0, .int .i64 0, .int .i64 0, .slice none 0 0]) 5 56 [.int .i64 ya, .int .i64 yb, .int .i64 yc, .int .i64 yd, .slice (some ⟨gn, 0, none⟩) 0 0] (by rfl) (by rfl) Tryz.underlying22 infoSlopeS rfl (by decide) (by decide) (.slice vA vn vc) m.slopes.length (cellsSl m.slopes us) (by rfl) b9 (by rfl) hblk rfl (by simp [Value.oneCell']) HU.out.2.1 (by omega) HAT12.out.big ?_
                            intro v8 w8 hown8 hg8 hat8 hb8
                            obtain ⟨A8, n8, c8, rfl⟩ := own_slice hown8
                            obtain ⟨k8, hat9⟩ := HAT12.out.slope (x := ⟨ya, yb, yc, yd, rest⟩) HU.out.1 HU.out.2.1 HU.out.2.2.1 HU.out.2.2.2 hown8 hg8 hb8
                            obtain ⟨r0, r1, r2, r3, r4⟩ := blk5 k8
                            have fr8 := frozen_blk k8
                            have hfin : RpInv w1.heap.size w1 R ls (i + 1) _ _ _ _ := ⟨hat9, HGO.out, by have := HI.out.few; simp only [List.length_append, List.length_singleton]; omega, fun y hy => by
                              rcases List.mem_append.1 hy with h | h
                              · exact HI.out.takes y h
                              · simp only [List.mem_singleton] at h
                                subst h
                                exact HRL.out⟩
                            have HFIN := Lib.hid hfin
                            clear hown8 hg8 hat8 hb8 k8 hat9 hfin hblk
                            go_wp2_with fail
                            go_round
                            case rel => exact ⟨i + 1, _, _, _, by omega, by go_num, HFIN⟩
                            case measure => simp [intOf]; omega
                          · have hq1 : ¬ (cq : Int) = 0 := by omega
                            have bd0 : (0 : Int) < (nr : Int) + 4 := by omega
                            have bd1 : (1 : Int) < (nr : Int) + 4 := by omega
                            have bd2 : (2 : Int) < (nr : Int) + 4 := by omega
                            have bd3 : (3 : Int) < (nr : Int) + 4 := by omega
                            have bd4 : (4 : Int) ≤ (nr : Int) + 4 := by omega
                            have bd5 : nr ≤ cq := by omega
                            have HTK := HTK1
                            go_wp2_with fail
                            refine wp_region_rg_tail 18 Grows (fun | 17 => .any anyV (fun l v w5 => ∃ b, v = .slice (some ⟨b, 0, none⟩) 1 1 ∧ w5.heap[b]? = some (.cells (aggOf l) 37 (0, 0))) | _ => .fn) (by kernel_rfl) (by kernel_rfl) Grows.refl growsT
                              (by intro i; split <;> first | trivial | exact (fun l v w1 w2 h ⟨b, h2, h3⟩ => ⟨b, h2, blk_below h h3 (lt_blk h3)⟩)) ?_
                            iterate 17 (refine rg_step fun K hK => ?_; apply rg_fn rfl; (intro w4 hw; obtain ⟨q0, q1, q2, q3, q4⟩ := HQA.out w4 hw.undrew; go_simp; try rfl); go_simp; (try with_reducible refine hK _ _ ?_); try clear hK K)
                            refine rg_step fun K hK => ?_
                            apply rg_any rfl
                            · intro w4 hw
                              refine ⟨.slice (some ⟨w4.heap.size, 0, none⟩) 1 1, w4.alloc (.cells #[.int .i64 ya, .int .i64 yb, .int .i64 yc, .int .i64 yd, .slice (some ⟨gn, 4, none⟩) nr cq] 37), ?_, below1 _ _, trivial, ⟨_, rfl, heap_alloc_self _ _⟩⟩
                              go_simp
                              try rfl
                            rintro v10 _
                            go_simp
                            (try with_reducible refine hK _ _ ?_)
                            try clear hK K
                            refine rg_nil ?_
                            rintro w12 hw12 ⟨b9, rfl, hblk⟩
                            replace hblk : w12.heap[b9]? = some (.cells #[.int .i64 ya, .int .i64 yb, .int .i64 yc, .int .i64 yd, .slice (some ⟨gn, 4, none⟩) nr cq] 37 (0, 0)) := hblk
                            replace hw12 := hw12.undrew
                            have htk : TakesAt w12 (w1.heap.size + 1) (.slice (some ⟨gn, 4, none⟩) nr cq) rest := HTK.out w12 hw12
                            have hat12 := HA4.out.later hw12
                            have HAT12 := Lib.hid hat12
                            have hsl : m.slopes.length ≤ 100001 := by have := HI.out.few; omega
                            obtain ⟨us, u1, u2, u3⟩ := hat12.sl
                            have HU := Lib.hid (And.intro u1 (And.intro u2 (And.intro u3 htk)))
                            clear hat12 hw12 u1 u2 u3 htk
                            simp only [List.drop_succ_cons, List.drop_zero]
                            refine wpList_app2 (w1.heap.size + 1) _ _ 22 37 (.agg #[.int .i64 0, .int .i64 0, .int .i64 0, .int .i64 0, .slice none 0 0]) 5 56 [.int .i64 ya, .int .i64 yb, .int .i64 yc, .int .i64 yd, .slice (some ⟨gn, 4, none⟩) nr cq] (by rfl) (by rfl) Tryz.underlying22 infoSlopeS rfl (by decide) (by decide) (.slice vA vn vc) m.slopes.length (cellsSl m.slopes us) (by rfl) b9 (by rfl) hblk rfl (by simp [Value.oneCell']) HU.out.2.1 (by omega) HAT12.out.big ?_
                            intro v8 w8 hown8 hg8 hat8 hb8
                            obtain ⟨A8, n8, c8, rfl⟩ := own_slice hown8
                            obtain ⟨k8, hat9⟩ := HAT12.out.slope (x := ⟨ya, yb, yc, yd, rest⟩) HU.out.1 HU.out.2.1 HU.out.2.2.1 HU.out.2.2.2 hown8 hg8 hb8
                            obtain ⟨r0, r1, r2, r3, r4⟩ := blk5 k8
                            have fr8 := frozen_blk k8
                            have hfin : RpInv w1.heap.size w1 R ls (i + 1) _ _ _ _ := ⟨hat9, HGO.out, by have := HI.out.few; simp only [List.length_append, List.length_singleton]; omega, fun y hy => by
                              rcases List.mem_append.1 hy with h | h
                              · exact HI.out.takes y h
                              · simp only [List.mem_singleton] at h
                                subst h
                                exact HRL.out⟩
                            have HFIN := Lib.hid hfin
                            clear hown8 hg8 hat8 hb8 k8 hat9 hfin hblk
                            go_wp2_with fail
                            go_round
                            case rel => exact ⟨i + 1, _, _, _, by omega, by go_num, HFIN⟩
                            case measure => simp [intOf]; omega
                        · have hc0b : ((m.crafts.length : Int) == 0) = false := by rw [beq_eq_false_iff_ne]; omega
                          have hl2 : lineN (i == 0) m x0.data.toList xs = none := by
                            unfold lineN
                            rw [HK.out, HWD.out]
                            have e1 : (m.crafts.length == 0) = false := by simp [hc0]
                            rw [e1, Bool.and_false]
                            rfl
                          have HL2 := Lib.hid (HLN.out.trans hl2)
                          clear hl2 hc0 h4
                          have HB := Lib.hid (rparse_bad2 (rp_stop HBIG.out HR.out (HX.out.2.1 (HL2.out))) (HRC.out W4 (HA4.out.below)).1 (HRC.out W4 (HA4.out.below)).2)
                          obtain ⟨r0, r1, r2, r3, r4⟩ := blk5 (HRC.out W4 (HA4.out.below)).1
                          have fr := frozen_blk (HRC.out W4 (HA4.out.below)).1
                          go_wp2_with fail
                          exact bodyPost_ret (results_rparse (by rfl) (by rfl) (by rfl) HB.out.2 rfl) (by rfl) HB.out.1
                      · have h4i : ¬ (xs.length : Int) ≥ 4 := by omega
                        have hl2 : lineN (i == 0) m x0.data.toList xs = none := by
                          unfold lineN
                          rw [HK.out, HWD.out]
                          have e1 : decide (4 ≤ xs.length) = false := by simp [h4]
                          rw [e1, Bool.and_false, Bool.false_and]
                          rfl
                        have HL2 := Lib.hid (HLN.out.trans hl2)
                        clear hl2 h4
                        have HB := Lib.hid (rparse_bad2 (rp_stop HBIG.out HR.out (HX.out.2.1 (HL2.out))) (HRC.out W4 (HA4.out.below)).1 (HRC.out W4 (HA4.out.below)).2)
                        obtain ⟨r0, r1, r2, r3, r4⟩ := blk5 (HRC.out W4 (HA4.out.below)).1
                        have fr := frozen_blk (HRC.out W4 (HA4.out.below)).1
                        go_wp2_with fail
                        exact bodyPost_ret (results_rparse (by rfl) (by rfl) (by rfl) HB.out.2 rfl) (by rfl) HB.out.1
                    · have hSb : (x0.data.toList == [115, 108, 111, 112, 101]) = false := by rw [beq_eq_false_iff_ne]; exact hW
                      clear hW
                      by_cases hW : x0.data.toList = bAdd
                      · have hAb : (x0.data.toList == [97, 100, 100]) = true := by rw [hW]; rfl
                        have hTb : (x0.data.toList == [115, 116, 114, 105, 112]) = false := by rw [hW]; rfl
                        have HWD := Lib.hid hW
                        clear hW
                        by_cases h2 : xs.length = 2
                        · have h2i : ((xs.length : Int) == 2) = true := by simp [h2]
                          obtain ⟨ya, yb, rfl⟩ : ∃ ya yb, xs = [ya, yb] := by
                            match xs, h2 with
                            | [ya, yb], _ => exact ⟨ya, yb, rfl⟩
                          have hl2 : lineN (i == 0) m x0.data.toList [ya, yb] = some { m with crafts := m.crafts ++ [⟨ya, yb, false⟩] } := by
                            unfold lineN
                            rw [HK.out, HWD.out]
                            rfl
                          have HGO := Lib.hid (HX.out.2.2 _ (HLN.out.trans hl2))
                          have ho6 : W4.ownsRow w3.heap.size 3 1 (.slice A4 2 c4) 2 [.int .i64 ya, .int .i64 yb] := HXO.out
                          obtain ⟨gn, cap, e, hgB, hgl⟩ := ho6.form (by omega)
                          simp only [Value.slice.injEq] at e
                          obtain ⟨rfl, _, _⟩ := e
                          have n0 := own_cells ho6 0 _ rfl
                          have n1 := own_cells ho6 1 _ rfl
                          have hq : ∀ w5, Below W4.heap.size W4 w5 → w5.cell? ⟨w1.heap.size, 1, none⟩ = some (.slice cA m.crafts.length cc) ∧ w5.cell? ⟨gn, 0, none⟩ = some (.int .i64 ya) ∧ w5.cell? ⟨gn, 1, none⟩ = some (.int .i64 yb) := fun w5 hw =>
                            ⟨(hw.cell (p := ⟨w1.heap.size, 1, none⟩) (lt_blk HA4.out.box)).trans (by rw [cell_blk HA4.out.box]; rfl), (hw.cell (p := ⟨gn, 0, none⟩) hgl).trans n0, (hw.cell (p := ⟨gn, 1, none⟩) hgl).trans n1⟩
                          have HQA := Lib.hid hq
                          clear hl2 ho6 hq n0 n1 h2
                          go_wp2_with fail
                          refine wp_region_rg_tail 10 Grows (fun | 9 => .any anyV (fun l v w5 => ∃ b, v = .slice (some ⟨b, 0, none⟩) 1 1 ∧ w5.heap[b]? = some (.cells (aggOf l) 67 (0, 0))) | _ => .fn) (by kernel_rfl) (by kernel_rfl) Grows.refl growsT
                            (by intro i; split <;> first | trivial | exact (fun l v w1 w2 h ⟨b, h2, h3⟩ => ⟨b, h2, blk_below h h3 (lt_blk h3)⟩)) ?_
                          iterate 9 (refine rg_step fun K hK => ?_; apply rg_fn rfl; (intro w4 hw; obtain ⟨q0, q1, q2⟩ := HQA.out w4 hw.undrew; go_simp; try rfl); go_simp; (try with_reducible refine hK _ _ ?_); try clear hK K)
                          refine rg_step fun K hK => ?_
                          apply rg_any rfl
                          · intro w4 hw
                            refine ⟨.slice (some ⟨w4.heap.size, 0, none⟩) 1 1, w4.alloc (.cells #[.int .i64 ya, .int .i64 yb, .bool false] 67), ?_, below1 _ _, trivial, ⟨_, rfl, heap_alloc_self _ _⟩⟩
                            go_simp
                            try rfl
                          rintro v10 _
                          go_simp
                          (try with_reducible refine hK _ _ ?_)
                          try clear hK K
                          refine rg_nil ?_
                          rintro w12 hw12 ⟨b9, rfl, hblk⟩
                          replace hblk : w12.heap[b9]? = some (.cells #[.int .i64 ya, .int .i64 yb, .bool false] 67 (0, 0)) := hblk
                          replace hw12 := hw12.undrew
                          have hat12 := HA4.out.later hw12
                          have HAT12 := Lib.hid hat12
                          have hcl : m.crafts.length ≤ 100001 := by have := HI.out.few; omega
                          clear hat12 hw12
                          simp only [List.drop_succ_cons, List.drop_zero]
                          refine wpList_app2 (w1.heap.size + 1) _ _ 23 67 (.agg #[.int .i64 0, .int .i64 0, .bool false]) 3 24 [.int .i64 ya, .int .i64 yb, .bool false] (by rfl) (by rfl) Tryz.underlying23 infoCraftS rfl (by decide) (by decide) (.slice cA m.crafts.length cc) m.crafts.length (cellsC m.crafts) (by rfl) b9 (by rfl) hblk rfl (by simp [Value.oneCell']) HAT12.out.own (by omega) HAT12.out.big ?_
                          intro v8 w8 hown8 hg8 hat8 hb8
                          obtain ⟨A8, n8, c8, rfl⟩ := own_slice hown8
                          obtain ⟨k8, hat9⟩ := HAT12.out.craft (c := ⟨ya, yb, false⟩) hown8 hg8 hb8
                          obtain ⟨r0, r1, r2, r3, r4⟩ := blk5 k8
                          have fr8 := frozen_blk k8
                          have hfin : RpInv w1.heap.size w1 R ls (i + 1) _ _ _ _ := ⟨hat9, HGO.out, by have := HI.out.few; simp only [List.length_append, List.length_singleton]; omega, HI.out.takes⟩
                          have HFIN := Lib.hid hfin
                          clear hown8 hg8 hat8 hb8 k8 hat9 hfin hblk
                          go_wp2_with fail
                          go_round
                          case rel => exact ⟨i + 1, _, _, _, by omega, by go_num, HFIN⟩
                          case measure => simp [intOf]; omega
                        · have h2i : ((xs.length : Int) == 2) = false := by rw [beq_eq_false_iff_ne]; omega
                          have hl2 : lineN (i == 0) m x0.data.toList xs = none := by
                            unfold lineN
                            rw [HK.out, HWD.out]
                            have e1 : (xs.length == 2) = false := by simp [h2]
                            rw [e1]
                            rfl
                          have HL2 := Lib.hid (HLN.out.trans hl2)
                          clear hl2 h2
                          have HB := Lib.hid (rparse_bad2 (rp_stop HBIG.out HR.out (HX.out.2.1 (HL2.out))) (HRC.out W4 (HA4.out.below)).1 (HRC.out W4 (HA4.out.below)).2)
                          obtain ⟨r0, r1, r2, r3, r4⟩ := blk5 (HRC.out W4 (HA4.out.below)).1
                          have fr := frozen_blk (HRC.out W4 (HA4.out.below)).1
                          go_wp2_with fail
                          exact bodyPost_ret (results_rparse (by rfl) (by rfl) (by rfl) HB.out.2 rfl) (by rfl) HB.out.1
                      · have hAb : (x0.data.toList == [97, 100, 100]) = false := by rw [beq_eq_false_iff_ne]; exact hW
                        clear hW
                        by_cases hW : x0.data.toList = bStrip
                        · have hTb : (x0.data.toList == [115, 116, 114, 105, 112]) = true := by rw [hW]; rfl
                          have HWD := Lib.hid hW
                          clear hW
                          by_cases h1 : xs.length = 1
                          · have h2i : ((xs.length : Int) == 1) = true := by simp [h1]
                            obtain ⟨ya, rfl⟩ : ∃ ya, xs = [ya] := by
                              match xs, h1 with
                              | [ya], _ => exact ⟨ya, rfl⟩
                            have hl2 : lineN (i == 0) m x0.data.toList [ya] = some { m with crafts := m.crafts ++ [⟨0, ya, true⟩] } := by
                              unfold lineN
                              rw [HK.out, HWD.out]
                              rfl
                            have HGO := Lib.hid (HX.out.2.2 _ (HLN.out.trans hl2))
                            have ho6 : W4.ownsRow w3.heap.size 3 1 (.slice A4 1 c4) 1 [.int .i64 ya] := HXO.out
                            obtain ⟨gn, cap, e, hgB, hgl⟩ := ho6.form (by omega)
                            simp only [Value.slice.injEq] at e
                            obtain ⟨rfl, _, _⟩ := e
                            have n0 := own_cells ho6 0 _ rfl
                            have hq : ∀ w5, Below W4.heap.size W4 w5 → w5.cell? ⟨w1.heap.size, 1, none⟩ = some (.slice cA m.crafts.length cc) ∧ w5.cell? ⟨gn, 0, none⟩ = some (.int .i64 ya) := fun w5 hw =>
                              ⟨(hw.cell (p := ⟨w1.heap.size, 1, none⟩) (lt_blk HA4.out.box)).trans (by rw [cell_blk HA4.out.box]; rfl), (hw.cell (p := ⟨gn, 0, none⟩) hgl).trans n0⟩
                            have HQA := Lib.hid hq
                            clear hl2 ho6 hq n0 h1
                            go_wp2_with fail
                            refine wp_region_rg_tail 7 Grows (fun | 6 => .any anyV (fun l v w5 => ∃ b, v = .slice (some ⟨b, 0, none⟩) 1 1 ∧ w5.heap[b]? = some (.cells (aggOf l) 67 (0, 0))) | _ => .fn) (by kernel_rfl) (by kernel_rfl) Grows.refl growsT
                              (by intro i; split <;> first | trivial | exact (fun l v w1 w2 h ⟨b, h2, h3⟩ => ⟨b, h2, blk_below h h3 (lt_blk h3)⟩)) ?_
                            iterate 6 (refine rg_step fun K hK => ?_; apply rg_fn rfl; (intro w4 hw; obtain ⟨q0, q1⟩ := HQA.out w4 hw.undrew; go_simp; try rfl); go_simp; (try with_reducible refine hK _ _ ?_); try clear hK K)
                            refine rg_step fun K hK => ?_
                            apply rg_any rfl
                            · intro w4 hw
                              refine ⟨.slice (some ⟨w4.heap.size, 0, none⟩) 1 1, w4.alloc (.cells #[.int .i64 0, .int .i64 ya, .bool true] 67), ?_, below1 _ _, trivial, ⟨_, rfl, heap_alloc_self _ _⟩⟩
                              go_simp
                              try rfl
                            rintro v10 _
                            go_simp
                            (try with_reducible refine hK _ _ ?_)
                            try clear hK K
                            refine rg_nil ?_
                            rintro w12 hw12 ⟨b9, rfl, hblk⟩
                            replace hblk : w12.heap[b9]? = some (.cells #[.int .i64 0, .int .i64 ya, .bool true] 67 (0, 0)) := hblk
                            replace hw12 := hw12.undrew
                            have hat12 := HA4.out.later hw12
                            have HAT12 := Lib.hid hat12
                            have hcl : m.crafts.length ≤ 100001 := by have := HI.out.few; omega
                            clear hat12 hw12
                            simp only [List.drop_succ_cons, List.drop_zero]
                            refine wpList_app2 (w1.heap.size + 1) _ _ 23 67 (.agg #[.int .i64 0, .int .i64 0, .bool false]) 3 24 [.int .i64 0, .int .i64 ya, .bool true] (by rfl) (by rfl) Tryz.underlying23 infoCraftS rfl (by decide) (by decide) (.slice cA m.crafts.length cc) m.crafts.length (cellsC m.crafts) (by rfl) b9 (by rfl) hblk rfl (by simp [Value.oneCell']) HAT12.out.own (by omega) HAT12.out.big ?_
                            intro v8 w8 hown8 hg8 hat8 hb8
                            obtain ⟨A8, n8, c8, rfl⟩ := own_slice hown8
                            obtain ⟨k8, hat9⟩ := HAT12.out.craft (c := ⟨0, ya, true⟩) hown8 hg8 hb8
                            obtain ⟨r0, r1, r2, r3, r4⟩ := blk5 k8
                            have fr8 := frozen_blk k8
                            have hfin : RpInv w1.heap.size w1 R ls (i + 1) _ _ _ _ := ⟨hat9, HGO.out, by have := HI.out.few; simp only [List.length_append, List.length_singleton]; omega, HI.out.takes⟩
                            have HFIN := Lib.hid hfin
                            clear hown8 hg8 hat8 hb8 k8 hat9 hfin hblk
                            go_wp2_with fail
                            go_round
                            case rel => exact ⟨i + 1, _, _, _, by omega, by go_num, HFIN⟩
                            case measure => simp [intOf]; omega
                          · have h1i : ((xs.length : Int) == 1) = false := by rw [beq_eq_false_iff_ne]; omega
                            have hl2 : lineN (i == 0) m x0.data.toList xs = none := by
                              unfold lineN
                              rw [HK.out, HWD.out]
                              have e1 : (xs.length == 1) = false := by simp [h1]
                              rw [e1]
                              rfl
                            have HL2 := Lib.hid (HLN.out.trans hl2)
                            clear hl2 h1
                            have HB := Lib.hid (rparse_bad2 (rp_stop HBIG.out HR.out (HX.out.2.1 (HL2.out))) (HRC.out W4 (HA4.out.below)).1 (HRC.out W4 (HA4.out.below)).2)
                            obtain ⟨r0, r1, r2, r3, r4⟩ := blk5 (HRC.out W4 (HA4.out.below)).1
                            have fr := frozen_blk (HRC.out W4 (HA4.out.below)).1
                            go_wp2_with fail
                            exact bodyPost_ret (results_rparse (by rfl) (by rfl) (by rfl) HB.out.2 rfl) (by rfl) HB.out.1
                        · have hTb : (x0.data.toList == [115, 116, 114, 105, 112]) = false := by rw [beq_eq_false_iff_ne]; exact hW
                          clear hW
                          have hl2 : lineN (i == 0) m x0.data.toList xs = none := by
                            unfold lineN
                            rw [HK.out, show (x0.data.toList == bWorks) = false from hWb, show (x0.data.toList == bSlope) = false from hSb, show (x0.data.toList == bAdd) = false from hAb, show (x0.data.toList == bStrip) = false from hTb]
                            rfl
                          have HL2 := Lib.hid (HLN.out.trans hl2)
                          clear hl2
                          have HB := Lib.hid (rparse_bad2 (rp_stop HBIG.out HR.out (HX.out.2.1 (HL2.out))) (HRC.out W4 (HA4.out.below)).1 (HRC.out W4 (HA4.out.below)).2)
                          obtain ⟨r0, r1, r2, r3, r4⟩ := blk5 (HRC.out W4 (HA4.out.below)).1
                          have fr := frozen_blk (HRC.out W4 (HA4.out.below)).1
                          go_wp2_with fail
                          exact bodyPost_ret (results_rparse (by rfl) (by rfl) (by rfl) HB.out.2 rfl) (by rfl) HB.out.1
        · have hii : ¬ (i : Int) < (os.length : Int) := by omega
          have hin : i = os.length := by omega
          have hll : ls.length = os.length := by rw [← HL.out.2.2.1, List.length_map]
          have hps := rp_done (m := m) HBIG.out HL.out.2.1 (fun e => hne (by rw [e] at hll; exact List.eq_nil_of_length_eq_zero hll.symm)) HR.out (by rw [hll, ← hin]; exact HI.out.go)
          have hfw := HI.out.few
          have hs0 : SlopesAt Wr Wr.heap.size (.slice vA vn vc) m.slopes := own_slopesQ HI.out.laid.sl (by omega) (fun y hy => by have := HI.out.takes y hy; omega)
          have hc0 : CraftsAt Wr Wr.heap.size (.slice cA m.crafts.length cc) m.crafts := own_craftsAt HI.out.laid.own (by omega)
          have HPS := Lib.hid hps
          have HSC := Lib.hid (And.intro hs0 hc0)
          have HLEN := Lib.hid (And.intro hlen hin)
          obtain ⟨x0, x1, x2, x3, x4⟩ := blk5 HI.out.laid.box
          clear hps hs0 hc0 hfw hin hll
          go_wp2_with fail
          refine (rcheck_calls m _ _ Wr HSC.out.1 HSC.out.2).mono ?_
          rintro e W2 ⟨rfl, hb2⟩
          have HA2 := Lib.hid (HI.out.laid.later hb2)
          clear x0 x1 x2 x3 x4 hb2
          obtain ⟨x0, x1, x2, x3, x4⟩ := blk5 HA2.out.box
          obtain ⟨r0, r1, r2, r3, r4⟩ := blk5 (HRC.out W2 HA2.out.below).1
          have fr := frozen_blk (HRC.out W2 HA2.out.below).1
          by_cases hck : checkS m = 0
          · have hps := HPS.out
            rw [if_pos hck] at hps
            have HG := Lib.hid (rparse_good (w := w) HA2.out hps (HRC.out W2 HA2.out.below).1 (HRC.out W2 HA2.out.below).2 (by have := H0.out.2.2.1; omega) (by have := HI.out.few; have := HLEN.out; omega) (by have := HI.out.few; have := HLEN.out; omega) (fun y hy => by have := HI.out.takes y hy; omega))
            have hc1 : (!(checkS m == 0)) = false := by simp [hck]
            have hc2 : (checkS m != 0) = false := by simp [hck]
            clear hps HPS
            generalize checkS m = ce at *
            go_wp2_with fail
            exact bodyPost_ret (results_rparse (by rfl) (by rfl) (by rfl) HG.out.2 rfl) (by rfl) HG.out.1
          · have hps := HPS.out
            rw [if_neg hck] at hps
            have HB := Lib.hid (rparse_bad2 hps (HRC.out W2 HA2.out.below).1 (HRC.out W2 HA2.out.below).2)
            have hc1 : (!(checkS m == 0)) = true := by simp [hck]
            have hc2 : (checkS m != 0) = true := by simp [hck]
            clear hps HPS
            generalize checkS m = ce at *
            go_wp2_with fail
            exact bodyPost_ret (results_rparse (by rfl) (by rfl) (by rfl) HB.out.2 rfl) (by rfl) HB.out.1
end Go.Proofs.YtcbhldfipfcjaaaGreatDoor
