/- The specification's Year and Follow. -/
import Derived.Test.YtccplobhfokcgaaRd
import Derived.Test.YtccplobhfokcgaaPn
namespace Go.Proofs.Ytccplobhfokcgaa
open Go Go.RowKit Go.Shelf
set_option maxRecDepth 100000

set_option maxHeartbeats 8000000 in
theorem ryear_calls (m : Wk) (sl cr : Value) (s : St) (tA rA : Option Addr) (tc rc : Nat) (row : List Int) (w : World) (hm : m.Ok) (hs : s.Ok m) (hrow : RowOk m row) (hsl : SlopesAt w w.heap.size sl m.slopes) (hcr : CraftsAt w w.heap.size cr m.crafts)
    (ht : RowC w w.heap.size tA ((thicks m s).map (Value.int .i64))) (hr : RowC w w.heap.size rA (row.map (Value.int .i64))) :
    Calls Try.prog 47 #[.agg #[sl, cr, .int .i64 m.years, .int .i64 m.visit, .int .i64 m.hands], .int .i64 s.y, .slice tA (thicks m s).length tc, .slice rA row.length rc] w
      fun e w' => ∃ v', e = .returned (.tuple #[v', .bool (keptS m s row)]) ∧ w'.ownsRow w.heap.size 3 1 v' (thicks m (stepS m s row)).length ((thicks m (stepS m s row)).map (Value.int .i64)) ∧ Below w.heap.size w w' := by
  obtain ⟨sA, sc, rfl, hl1, hss⟩ := id hsl
  obtain ⟨cA, cc, rfl, hl2, hcc⟩ := id hcr
  obtain ⟨w0, hw0⟩ : ∃ w0, w0 = w.alloc (.cells #[.slice sA m.slopes.length sc, .slice cA m.crafts.length cc, .int .i64 m.years, .int .i64 m.visit, .int .i64 m.hands] 25) := ⟨_, rfl⟩
  have h0 := LawInv.start hsl hcr
  rw [← hw0] at h0
  have htl := thicks_length m s
  have hr4 : row.length ≤ 4 := by have := hrow.len; have := hm.few; omega
  have hn4 := hm.few
  have hsy := hs.year
  have H0 := Lib.hid h0
  have HW0 := Lib.hid hw0
  have HSS := Lib.hid hss
  have HCC := Lib.hid hcc
  have HT := Lib.hid ht
  have HR := Lib.hid hr
  have HTL := Lib.hid htl
  have HRL := Lib.hid hrow.len
  have z0 : w.heap.size < w0.heap.size := by rw [hw0]; simp
  clear h0 hw0 hsl hcr hss hcc ht hr htl
  go_enter Try.func47, Try.ntmps47
  go_wp2_with fail
  rw [← HW0.out]
  go_loopw [10, 11, 12] (fun l kp c wr => ∃ k : Nat, k ≤ m.slopes.length ∧ c = .int .i64 (k : Int) ∧ kp = .bool (keptTo m s row k) ∧ (∃ A n c, l = .slice A n c) ∧ Hid (wr.ownsRow w0.heap.size 3 1 l k (((thicks m (stepS m s row)).take k).map (Value.int .i64))) ∧ Hid (Below w0.heap.size w0 wr)) (fun _ _ c _ => m.slopes.length - (intOf c).toNat)
  case atStart => exact ⟨0, Nat.zero_le _, rfl, rfl, ⟨none, 0, 0, rfl⟩, Lib.hid ⟨by simp, .inl ⟨rfl, rfl⟩⟩, Lib.hid (Below.refl _ _)⟩
  case round =>
    obtain ⟨k, hk, rfl, rfl, ⟨lA, ln, lc, rfl⟩, HO, HB⟩ := hrel
    obtain ⟨Wr, rfl⟩ : ∃ Wr, Wr = wr := ⟨_, rfl⟩
    have zr := HB.out.size
    have hI := H0.out.later HB.out
    have HI := Lib.hid hI
    clear hI
    obtain ⟨x0, x1, x2, x3, x4⟩ := blk5 HI.out.box
    by_cases hlt : k < m.slopes.length
    · have hki : (k : Int) < (m.slopes.length : Int) := by omega
      have hk0 : (0 : Int) ≤ (k : Int) := by omega
      have hkadd : IntKind.i64.wrap ((k : Int) + 1) = (k : Int) + 1 := IntWalk.i64_in _ (by omega)
      have hkr : k < row.length := by rw [HRL.out]; exact hlt
      have hkt : k < (thicks m s).length := by rw [HTL.out]; exact hlt
      have hkri : (k : Int) < (row.length : Int) := by omega
      have hkti : (k : Int) < ((thicks m s).length : Int) := by omega
      obtain ⟨b, o, rfl, hb, hc⟩ := HSS.out (by intro e; rw [e] at hlt; simp at hlt)
      obtain ⟨tk, htk, c0, c1, c2, c3, c4⟩ := hc k _ (List.getElem?_eq_getElem hlt)
      obtain ⟨kA, kc, rfl, hkrow⟩ := id htk
      have hbe := HI.out.below
      have hbW := Nat.lt_of_lt_of_le hb hbe.size
      have k0 := (hbe.cell (p := ⟨b, o + k * 5, none⟩) hb).trans c0
      have k1 := (hbe.cell (p := ⟨b, o + k * 5 + 1, none⟩) hb).trans c1
      have k2 := (hbe.cell (p := ⟨b, o + k * 5 + 2, none⟩) hb).trans c2
      have k3 := (hbe.cell (p := ⟨b, o + k * 5 + 3, none⟩) hb).trans c3
      have k4 := (hbe.cell (p := ⟨b, o + k * 5 + 4, none⟩) hb).trans c4
      obtain ⟨tb, to, rfl, htb, htc⟩ := HT.out.at_ k (by simpa using hkt)
      obtain ⟨rb, ro, rfl, hrb, hrc⟩ := HR.out.at_ k (by simpa using hkr)
      simp only [List.getElem_map] at htc hrc
      have htv : (thicks m s)[k] = s.get k := by
        have := thicks_get m s hlt
        rw [getD_lt hkt] at this
        exact this
      rw [htv] at htc
      have t0 := (hbe.cell (p := ⟨tb, to + k, none⟩) htb).trans htc
      have r0 := (hbe.cell (p := ⟨rb, ro + k, none⟩) hrb).trans hrc
      clear c0 c1 c2 c3 c4 hc hbe htv htc hrc
      have hzw := HI.out.below.size
      have hal : ∀ (p : Addr) (v : Value), p.block < Wr.heap.size → Wr.cell? p = some v → ∀ ob, (Wr.alloc ob).cell? p = some v := fun p v hp hv ob => ((below1 Wr ob).cell hp).trans hv
      have a0 := hal ⟨b, o + k * 5, none⟩ _ hbW k0
      have a1 := hal ⟨b, o + k * 5 + 1, none⟩ _ hbW k1
      have a2 := hal ⟨b, o + k * 5 + 2, none⟩ _ hbW k2
      have a3 := hal ⟨b, o + k * 5 + 3, none⟩ _ hbW k3
      have a4 := hal ⟨b, o + k * 5 + 4, none⟩ _ hbW k4
      have a5 := hal ⟨tb, to + k, none⟩ _ (show tb < Wr.heap.size by omega) t0
      have a6 := hal ⟨w.heap.size, 0, none⟩ _ (show w.heap.size < Wr.heap.size by omega) x0
      clear hal
      have hts := keptTo_succ m s row k hlt hkr
      have hL := leftS_bd hm (List.getElem_mem hlt) s.y row[k] (s.get k) (hs.get k)
      have hmd := mendC_bd hm.craft row[k] (s.get k) m.slopes[k].full (hs.get k) (hm.slopes _ (List.getElem_mem hlt)).full
      have htn : (thicks m (stepS m s row)).take (k + 1) = (thicks m (stepS m s row)).take k ++ [leftS m.crafts m.slopes[k] s.y row[k] (s.get k)] := by
        have hl : k < (thicks m (stepS m s row)).length := by rw [thicks_length]; exact hlt
        rw [List.take_succ_eq_append_getElem hl]
        have h1 := thicks_get m (stepS m s row) hlt
        rw [getD_lt hl, stepS_get m s row (by omega)] at h1
        unfold upd at h1
        rw [List.getElem?_eq_getElem hlt] at h1
        simp only [getD_lt hkr] at h1
        rw [h1]
      have hlf : leftS m.crafts m.slopes[k] s.y row[k] (s.get k) = max 0 (mendC m.crafts row[k] (s.get k) m.slopes[k].full - if m.slopes[k].takes.length = 0 then 0 else takeOf m.slopes[k] s.y) := by
        unfold leftS
        split
        · omega
        · rfl
      have htk0 : 0 ≤ (if m.slopes[k].takes.length = 0 then 0 else takeOf m.slopes[k] s.y) ∧ (if m.slopes[k].takes.length = 0 then 0 else takeOf m.slopes[k] s.y) ≤ 500 := by
        split
        · omega
        · rename_i h9
          unfold takeOf
          rw [getD_lt (Nat.mod_lt _ (by omega))]
          exact (hm.slopes _ (List.getElem_mem hlt)).takes _ (List.getElem_mem _)
      have hrk := hrow.each _ (List.getElem_mem hkr)
      have htk12 := (hm.slopes _ (List.getElem_mem hlt)).len
      have hcraft : ∀ q : Nat, row[k] = (q : Int) → ∀ hq : q < m.crafts.length, mendC m.crafts row[k] (s.get k) m.slopes[k].full = (if m.crafts[q].strip then m.slopes[k].full else min m.slopes[k].full (s.get k + m.crafts[q].add)) ∧ 0 ≤ m.crafts[q].add ∧ m.crafts[q].add ≤ 1000 := fun q e hq => by
        refine ⟨?_, (hm.craft _ (List.getElem_mem hq)).add⟩
        unfold mendC
        rw [e, if_neg (by omega), Int.toNat_natCast, List.getElem?_eq_getElem hq]
      have hnone : row[k] < 0 → mendC m.crafts row[k] (s.get k) m.slopes[k].full = s.get k := fun h => by unfold mendC; rw [if_pos h]
      have hsg := hs.get k
      have hfull := (hm.slopes _ (List.getElem_mem hlt)).full
      have HTS := Lib.hid hts
      have HTN := Lib.hid htn
      have HLF := Lib.hid hlf
      have HCR := Lib.hid hcraft
      have HNO := Lib.hid hnone
      have hkrow2 := hkrow
      have HKR := Lib.hid hkrow2
      clear hts htn hlf hcraft hnone hkrow hkrow2 htk
      generalize m.slopes[k] = x at *
      generalize row[k] = rk at *
      generalize leftS m.crafts x s.y rk (s.get k) = L at *
      generalize mendC m.crafts rk (s.get k) x.full = T at *
      generalize htkd : (if x.takes.length = 0 then 0 else takeOf x s.y) = tk at *
      generalize s.get k = sg at *
      have HTK := Lib.hid htkd
      clear htkd
      go_wp2_with fail
      go_region
      obtain ⟨W1, hW1⟩ : ∃ W1, W1 = (Wr.alloc (.cells #[.int .i64 x.now, .int .i64 x.need, .int .i64 x.full, .int .i64 x.size, .slice kA x.takes.length kc] 55)).drew := ⟨_, rfl⟩
      have g5 : W1.heap[Wr.heap.size]? = some (.cells #[.int .i64 x.now, .int .i64 x.need, .int .i64 x.full, .int .i64 x.size, .slice kA x.takes.length kc] 55 (0, 0)) := by rw [hW1]; exact heap_alloc_self Wr _
      have hb1 : Below Wr.heap.size Wr W1 := by rw [hW1]; exact (below1 Wr _).drew
      rw [← hW1]
      have HI1 := Lib.hid (HI.out.later hb1)
      have r1 : W1.cell? ⟨rb, ro + k, none⟩ = some (.int .i64 rk) := (hb1.cell (p := ⟨rb, ro + k, none⟩) (show rb < Wr.heap.size by omega)).trans r0
      have G5 := Lib.hid g5
      have HB1 := Lib.hid hb1
      have hz1 := lt_blk g5
      clear hW1 g5 hb1 a0 a1 a2 a3 a4 a5 a6 k0 k1 k2 k3 k4 t0 r0 x0 x1 x2 x3 x4
      by_cases hneg : rk ≥ 0
      · obtain ⟨q, rfl⟩ := Int.eq_ofNat_of_zero_le hneg
        have hq : q < m.crafts.length := by omega
        have hqi : (q : Int) < (m.crafts.length : Int) := by omega
        obtain ⟨cb, co, rfl, hcb, hcc2⟩ := HCC.out (by intro e; rw [e] at hq; simp at hq)
        obtain ⟨d0, d1, d2⟩ := hcc2 q _ (List.getElem?_eq_getElem hq)
        obtain ⟨hTq, ha0, ha1⟩ := HCR.out q rfl hq
        obtain ⟨x0, x1, x2, x3, x4⟩ := blk5 HI1.out.box
        have hbe := HI1.out.below
        have e0 := (hbe.cell (p := ⟨cb, co + q * 3, none⟩) hcb).trans d0
        have e1 := (hbe.cell (p := ⟨cb, co + q * 3 + 1, none⟩) hcb).trans d1
        have e2 := (hbe.cell (p := ⟨cb, co + q * 3 + 2, none⟩) hcb).trans d2
        have hal : ∀ (p : Addr) (v : Value), p.block < W1.heap.size → W1.cell? p = some v → ∀ ob, (W1.alloc ob).cell? p = some v := fun p v hp hv ob => ((below1 W1 ob).cell hp).trans hv
        have hzz := hbe.size
        have a0 := hal ⟨cb, co + q * 3, none⟩ _ (show cb < W1.heap.size by omega) e0
        have a1 := hal ⟨cb, co + q * 3 + 1, none⟩ _ (show cb < W1.heap.size by omega) e1
        have a2 := hal ⟨cb, co + q * 3 + 2, none⟩ _ (show cb < W1.heap.size by omega) e2
        have a3 := hal ⟨rb, ro + k, none⟩ _ (show rb < W1.heap.size by omega) r1
        have a4 := hal ⟨w.heap.size, 1, none⟩ _ (show w.heap.size < W1.heap.size by omega) x1
        have hq0 : (0 : Int) ≤ (q : Int) := by omega
        clear hal hbe d0 d1 d2 hcc2
        generalize m.crafts[q] = y at *
        go_wp2_with fail
        go_region
        obtain ⟨W2, hW2⟩ : ∃ W2, W2 = (W1.alloc (.cells #[.int .i64 y.add, .int .i64 y.price, .bool y.strip] 57)).drew := ⟨_, rfl⟩
        have g3 : W2.heap[W1.heap.size]? = some (.cells #[.int .i64 y.add, .int .i64 y.price, .bool y.strip] 57 (0, 0)) := by rw [hW2]; exact heap_alloc_self W1 _
        have hb2 : Below W1.heap.size W1 W2 := by rw [hW2]; exact (below1 W1 _).drew
        rw [← hW2]
        have HI2 := Lib.hid (HI1.out.later hb2)
        have HB2 := Lib.hid (HB1.out.trans (hb2.mono (by have := HB1.out.size; omega)))
        have G52 := Lib.hid (blk_below hb2 G5.out hz1)
        have hz2 : Wr.heap.size < W2.heap.size := Nat.lt_of_lt_of_le hz1 hb2.size
        have f0 : W2.cell? ⟨W1.heap.size, 0, none⟩ = some (.int .i64 y.add) := by rw [cell_blk g3]; rfl
        have f2 : W2.cell? ⟨W1.heap.size, 2, none⟩ = some (.bool y.strip) := by rw [cell_blk g3]; rfl
        clear hW2 hb2 g3 a0 a1 a2 a3 a4 e0 e1 e2 r1 x0 x1 x2 x3 x4
        generalize y.strip = ys at *
        cases ys
        · have hT : min (sg + y.add) x.full = T := by rw [hTq]; simp; omega
          have hadd : IntKind.i64.wrap (sg + y.add) = sg + y.add := IntWalk.i64_in _ (by omega)
          have hl : max (min (sg + y.add) x.full - tk) 0 = L := by have := HLF.out; omega
          have hsub : IntKind.i64.wrap (min (sg + y.add) x.full - tk) = min (sg + y.add) x.full - tk := IntWalk.i64_in _ (by omega)
          have HLL := Lib.hid hl
          clear hT hTq
          have htake := take_calls w.heap.size x kA kc s.y W2 (HKR.out.below HI2.out.below) HI2.out.below.size htk12 ⟨hsy.1, hsy.2⟩
          rw [HTK.out] at htake
          have HTAKE := Lib.hid htake
          have hho := own_below HO.out HB2.out (fun k hk => (own_blk_lt HO.out k hk).2)
          have hho2 := fun w3 (hb3 : Below W2.heap.size W2 w3) (ob : Obj) => own_below hho (hb3.trans ((below1 w3 ob).mono hb3.size)) (fun k hk => (own_blk_lt hho k hk).2)
          have HHO := Lib.hid hho2
          have hzV := Nat.le_trans zr HB2.out.size
          obtain ⟨x0, x1, x2, x3, x4⟩ := blk5 HI2.out.box
          obtain ⟨y0, y1, y2, y3, y4⟩ := blk5 G52.out
          generalize hkp : keptTo m s row k = kp at *
          clear htake hho hho2 hkp hl
          cases kp
          all_goals
            go_wp2_with (first
              | (go_at_call 66; refine HTAKE.out.mono ?_; rintro e w3 ⟨rfl, hb3⟩; have g53 := blk_below hb3 G52.out hz2; obtain ⟨y0, y1, y2, y3, y4⟩ := blk5 g53; have hz3 := hb3.size; have HB3 := Lib.hid hb3; clear hb3 g53)
              | (at_builtin; (refine wpList_app2 w0.heap.size _ _ 36 3 (.int .i64 0) 1 8 [.int .i64 (max (min (sg + y.add) x.full - tk) 0)] (by rfl) (by rfl) Try.underlying36 infoInt rfl (by decide) (by decide) (.slice lA ln lc) k _ (by rfl) w3.heap.size (by rfl) (heap_alloc_self _ _) rfl (by simp [Value.oneCell']) (HHO.out w3 HB3.out _) (by omega) (by simp; omega) ?_); intro v1 w4 hown4 hg _ hb4; obtain ⟨A4, n4, c4, rfl⟩ := own_slice hown4; have HX := Lib.hid (And.intro hown4 hb4); clear hown4 hg hb4))
            obtain ⟨hown4, hb4⟩ := HX.out
            have hoo : w4.ownsRow w0.heap.size 3 1 (.slice A4 n4 c4) (k + 1) (((thicks m (stepS m s row)).take (k + 1)).map (Value.int .i64)) := by rw [HTN.out, ← HLL.out]; simpa using hown4
            have hbW : Below w0.heap.size w0 w4 := (HB.out.trans (HB2.out.mono zr)).trans ((HB3.out.mono hzV).trans (((below1 w3 (.cells #[.int .i64 (max (min (sg + y.add) x.full - tk) 0)] 3)).mono (Nat.le_trans hzV HB3.out.size)).trans hb4))
            have HO4 := Lib.hid hoo
            have HB4 := Lib.hid hbW
            clear hown4 hb4 hoo hbW HX
            go_round
            case rel =>
              refine ⟨k + 1, by omega, by go_num, ?_, ⟨_, _, _, rfl⟩, HO4, HB4⟩
              first
                | (rw [HTS.out]; rfl)
                | (rw [HTS.out, ← HLL.out]; rfl)
                | (rw [HTS.out, ← HLL.out]; simp)
            case measure => simp [intOf]; omega
        · have hT : x.full = T := by rw [hTq]; simp
          have hl : max (x.full - tk) 0 = L := by have := HLF.out; omega
          have hsub : IntKind.i64.wrap (x.full - tk) = x.full - tk := IntWalk.i64_in _ (by omega)
          have HLL := Lib.hid hl
          clear hT hTq
          have htake := take_calls w.heap.size x kA kc s.y W2 (HKR.out.below HI2.out.below) HI2.out.below.size htk12 ⟨hsy.1, hsy.2⟩
          rw [HTK.out] at htake
          have HTAKE := Lib.hid htake
          have hho := own_below HO.out HB2.out (fun k hk => (own_blk_lt HO.out k hk).2)
          have hho2 := fun w3 (hb3 : Below W2.heap.size W2 w3) (ob : Obj) => own_below hho (hb3.trans ((below1 w3 ob).mono hb3.size)) (fun k hk => (own_blk_lt hho k hk).2)
          have HHO := Lib.hid hho2
          have hzV := Nat.le_trans zr HB2.out.size
          obtain ⟨x0, x1, x2, x3, x4⟩ := blk5 HI2.out.box
          obtain ⟨y0, y1, y2, y3, y4⟩ := blk5 G52.out
          generalize hkp : keptTo m s row k = kp at *
          clear htake hho hho2 hkp hl
          cases kp
          all_goals
            go_wp2_with (first
              | (go_at_call 66; refine HTAKE.out.mono ?_; rintro e w3 ⟨rfl, hb3⟩; have g53 := blk_below hb3 G52.out hz2; obtain ⟨y0, y1, y2, y3, y4⟩ := blk5 g53; have hz3 := hb3.size; have HB3 := Lib.hid hb3; clear hb3 g53)
              | (at_builtin; (refine wpList_app2 w0.heap.size _ _ 36 3 (.int .i64 0) 1 8 [.int .i64 (max (x.full - tk) 0)] (by rfl) (by rfl) Try.underlying36 infoInt rfl (by decide) (by decide) (.slice lA ln lc) k _ (by rfl) w3.heap.size (by rfl) (heap_alloc_self _ _) rfl (by simp [Value.oneCell']) (HHO.out w3 HB3.out _) (by omega) (by simp; omega) ?_); intro v1 w4 hown4 hg _ hb4; obtain ⟨A4, n4, c4, rfl⟩ := own_slice hown4; have HX := Lib.hid (And.intro hown4 hb4); clear hown4 hg hb4))
            obtain ⟨hown4, hb4⟩ := HX.out
            have hoo : w4.ownsRow w0.heap.size 3 1 (.slice A4 n4 c4) (k + 1) (((thicks m (stepS m s row)).take (k + 1)).map (Value.int .i64)) := by rw [HTN.out, ← HLL.out]; simpa using hown4
            have hbW : Below w0.heap.size w0 w4 := (HB.out.trans (HB2.out.mono zr)).trans ((HB3.out.mono hzV).trans (((below1 w3 (.cells #[.int .i64 (max (x.full - tk) 0)] 3)).mono (Nat.le_trans hzV HB3.out.size)).trans hb4))
            have HO4 := Lib.hid hoo
            have HB4 := Lib.hid hbW
            clear hown4 hb4 hoo hbW HX
            go_round
            case rel =>
              refine ⟨k + 1, by omega, by go_num, ?_, ⟨_, _, _, rfl⟩, HO4, HB4⟩
              first
                | (rw [HTS.out]; rfl)
                | (rw [HTS.out, ← HLL.out]; rfl)
                | (rw [HTS.out, ← HLL.out]; simp)
            case measure => simp [intOf]; omega
      · have hT : sg = T := (HNO.out (by omega)).symm
        have hl : max (sg - tk) 0 = L := by have := HLF.out; omega
        have hsub : IntKind.i64.wrap (sg - tk) = sg - tk := IntWalk.i64_in _ (by omega)
        have HLL := Lib.hid hl
        clear hT
        have htake := take_calls w.heap.size x kA kc s.y W1 (HKR.out.below HI1.out.below) HI1.out.below.size htk12 ⟨hsy.1, hsy.2⟩
        rw [HTK.out] at htake
        have HTAKE := Lib.hid htake
        have hho := own_below HO.out HB1.out (fun k hk => (own_blk_lt HO.out k hk).2)
        have hho2 := fun w3 (hb3 : Below W1.heap.size W1 w3) (ob : Obj) => own_below hho (hb3.trans ((below1 w3 ob).mono hb3.size)) (fun k hk => (own_blk_lt hho k hk).2)
        have HHO := Lib.hid hho2
        have hzV := Nat.le_trans zr HB1.out.size
        obtain ⟨x0, x1, x2, x3, x4⟩ := blk5 HI1.out.box
        obtain ⟨y0, y1, y2, y3, y4⟩ := blk5 G5.out
        generalize hkp : keptTo m s row k = kp at *
        clear htake hho hho2 hkp hl
        cases kp
        all_goals
          go_wp2_with (first
            | (go_at_call 66; refine HTAKE.out.mono ?_; rintro e w3 ⟨rfl, hb3⟩; have g53 := blk_below hb3 G5.out hz1; obtain ⟨y0, y1, y2, y3, y4⟩ := blk5 g53; have hz3 := hb3.size; have HB3 := Lib.hid hb3; clear hb3 g53)
            | (at_builtin; (refine wpList_app2 w0.heap.size _ _ 36 3 (.int .i64 0) 1 8 [.int .i64 (max (sg - tk) 0)] (by rfl) (by rfl) Try.underlying36 infoInt rfl (by decide) (by decide) (.slice lA ln lc) k _ (by rfl) w3.heap.size (by rfl) (heap_alloc_self _ _) rfl (by simp [Value.oneCell']) (HHO.out w3 HB3.out _) (by omega) (by simp; omega) ?_); intro v1 w4 hown4 hg _ hb4; obtain ⟨A4, n4, c4, rfl⟩ := own_slice hown4; have HX := Lib.hid (And.intro hown4 hb4); clear hown4 hg hb4))
          obtain ⟨hown4, hb4⟩ := HX.out
          have hoo : w4.ownsRow w0.heap.size 3 1 (.slice A4 n4 c4) (k + 1) (((thicks m (stepS m s row)).take (k + 1)).map (Value.int .i64)) := by rw [HTN.out, ← HLL.out]; simpa using hown4
          have hbW : Below w0.heap.size w0 w4 := (HB.out.trans (HB1.out.mono zr)).trans ((HB3.out.mono hzV).trans (((below1 w3 (.cells #[.int .i64 (max (sg - tk) 0)] 3)).mono (Nat.le_trans hzV HB3.out.size)).trans hb4))
          have HO4 := Lib.hid hoo
          have HB4 := Lib.hid hbW
          clear hown4 hb4 hoo hbW HX
          go_round
          case rel =>
            refine ⟨k + 1, by omega, by go_num, ?_, ⟨_, _, _, rfl⟩, HO4, HB4⟩
            first
              | (rw [HTS.out]; rfl)
              | (rw [HTS.out, ← HLL.out]; rfl)
              | (rw [HTS.out, ← HLL.out]; simp)
          case measure => simp [intOf]; omega
    · obtain rfl : k = m.slopes.length := by omega
      have hki : ¬ (m.slopes.length : Int) < (m.slopes.length : Int) := by omega
      have hl := thicks_length m (stepS m s row)
      have hoo := HO.out
      rw [show (thicks m (stepS m s row)).take m.slopes.length = thicks m (stepS m s row) by rw [← hl, List.take_length]] at hoo
      have HOO := Lib.hid (own_mono hoo (by omega : w.heap.size ≤ w0.heap.size))
      have HL := Lib.hid hl
      have hkk : keptTo m s row m.slopes.length = keptS m s row := rfl
      rw [hkk]
      clear hoo hl hkk
      go_wp2_with fail
      go_ret2
      refine ⟨_, rfl, by rw [HL.out]; exact HOO.out, HI.out.below⟩

theorem nows_thicks {m : Wk} (hm : m.slopes.length ≤ 4) : nows m = thicks m (firstS m) := by
  have hl : (nows m).length = m.slopes.length := by simp [nows]
  refine List.ext_getElem (by rw [hl, thicks_length]) fun i h1 h2 => ?_
  have hi : i < m.slopes.length := by omega
  have h3 := thicks_get m (firstS m) hi
  rw [getD_lt h2] at h3
  rw [h3]
  unfold firstS
  rw [stOf_get _ _ (by omega), getD_lt h1]
theorem results_tmp4 {fn : Func} {t u v x : Tmp} (h : fn.results = #[.tmp t, .tmp u, .tmp v, .tmp x]) (tmps : Array Value) (P : Program) (w : World) :
    (results fn tmps).run P w = .ok (.tuple #[tmps.getD t undef, tmps.getD u undef, tmps.getD v undef, tmps.getD x undef]) w := by
  simp [results, h]
/-- A slice and whether. -/
def yearV (kp : Bool) : { S : Value → Prop // ∃ u, S u } := ⟨fun v => ∃ A n c, v = .tuple #[.slice A n c, .bool kp], .tuple #[.slice none 0 0, .bool kp], none, 0, 0, rfl⟩
def YearD (B : Nat) (kp : Bool) (xs : List Int) (v : Value) (w : World) : Prop := ∃ u, v = .tuple #[u, .bool kp] ∧ w.ownsRow B 3 1 u xs.length (xs.map (Value.int .i64))
theorem yearD_stable (B : Nat) (kp : Bool) (xs : List Int) : ∀ v w w', Grows w w' → YearD B kp xs v w → YearD B kp xs v w' := fun _ _ _ h ⟨u, h1, h2⟩ => ⟨u, h1, own_below h2 h (fun k hk => (own_blk_lt h2 k hk).2)⟩

set_option maxHeartbeats 8000000 in
theorem rfollow_calls (m : Wk) (sl cr pv : Value) (plan : List (List Int)) (w : World) (hsl : SlopesAt w w.heap.size sl m.slopes) (hcr : CraftsAt w w.heap.size cr m.crafts) (hp : RowsAt w w.heap.size pv plan) :
    Calls Try.prog 18 #[.agg #[sl, cr, .int .i64 m.years, .int .i64 m.visit, .int .i64 m.hands], pv] w (FollowPost m plan w) := by
  obtain ⟨sA, sc, rfl, hl1, _⟩ := id hsl
  obtain ⟨cA, cc, rfl, hl2, _⟩ := id hcr
  obtain ⟨pA, pc, rfl, hpl, hpr⟩ := id hp
  obtain ⟨w0, hw0⟩ : ∃ w0, w0 = w.alloc (.cells #[.slice sA m.slopes.length sc, .slice cA m.crafts.length cc, .int .i64 m.years, .int .i64 m.visit, .int .i64 m.hands] 25) := ⟨_, rfl⟩
  have h0 := LawInv.start hsl hcr
  rw [← hw0] at h0
  have x5 := blk5 h0.box
  rw [hw0] at x5
  obtain ⟨x0, x1, x2, x3, x4⟩ := x5
  have H0 := Lib.hid h0
  have HW0 := Lib.hid hw0
  have HP := Lib.hid hp
  have HPR := Lib.hid hpr
  have HSC := Lib.hid (And.intro hsl hcr)
  have z0 : w.heap.size < w0.heap.size := by rw [hw0]; simp
  clear h0 hw0 hsl hcr hpr hp
  go_enter Try.func18, Try.ntmps18
  go_wp2_with fail
  rw [← HW0.out]
  refine (rplanned_calls m _ _ _ plan w0 H0.out.slopes H0.out.crafts ((HP.out.below H0.out.below).mono H0.out.below.size)).mono ?_
  rintro e w1 ⟨rfl, hb1⟩
  have H1 := Lib.hid (H0.out.later hb1)
  have hz1 := hb1.size
  clear hb1 x0 x1 x2 x3 x4
  obtain ⟨x0, x1, x2, x3, x4⟩ := blk5 H1.out.box
  have hpf := planned_follow m plan
  by_cases he : plannedS m plan = 0
  · rw [he] at hpf
    obtain ⟨hck, hpo⟩ := followS_ok hpf
    have hm := checkS_ok hck
    have hlen := planOk_len hpo
    have hyb := hm.years
    have hn4 := hm.few
    have hpl1 : (plan.length : Int) ≤ m.years := Int.le_of_eq hlen
    have hpl2 : m.years ≤ (plan.length : Int) := Int.le_of_eq hlen.symm
    have HM := Lib.hid hm
    have HCK := Lib.hid hck
    have HPO := Lib.hid hpo
    have hnow := rnows_calls m (.slice sA m.slopes.length sc) (.slice cA m.crafts.length cc) w1 H1.out.slopes H1.out.crafts hn4
    have HNOWC := Lib.hid hnow
    rw [he]
    clear hpf hck hpo hm hlen he hnow
    go_wp2_with fail
    refine HNOWC.out.mono ?_
    rintro e w2 ⟨vn, rfl, hown2, hb2⟩
    have H2 := Lib.hid (H1.out.later hb2)
    obtain ⟨nA, nn, nc, rfl⟩ := own_slice hown2
    have hown2' := own_mono hown2 (show w0.heap.size ≤ w1.heap.size by omega)
    rw [nows_thicks hn4] at hown2'
    have HOWN2 := Lib.hid hown2'
    have hz2 := hb2.size
    clear hb2 hown2 hown2' x0 x1 x2 x3 x4
    go_wp2_with fail
    go_loopw [9, 10, 11, 12] (fun nw co ou c wr => ∃ y : Nat, y ≤ plan.length ∧ c = .int .i64 (y : Int) ∧ co = .int .i64 (costPl m plan y) ∧ (∃ A n c, nw = .slice A n c) ∧ (∃ A n c, ou = .slice A n c) ∧ Hid (∀ j, j < y → keptIn m plan j = true) ∧ Hid (LawInv m w (.slice sA m.slopes.length sc) (.slice cA m.crafts.length cc) w.heap.size wr) ∧ Hid (w0.heap.size ≤ wr.heap.size) ∧
      Hid (wr.ownsRow w0.heap.size 3 1 nw (thicks m (stAt m plan y)).length ((thicks m (stAt m plan y)).map (Value.int .i64))) ∧ Hid (OwnRows wr w0.heap.size ou (thTo m plan y))) (fun _ _ _ c _ => plan.length - (intOf c).toNat)
    case atStart => exact ⟨0, Nat.zero_le _, rfl, rfl, ⟨_, _, _, rfl⟩, ⟨none, 0, 0, rfl⟩, Lib.hid (fun j h => by omega), H2, Lib.hid (by omega), HOWN2, Lib.hid (OwnRows.nil _ _)⟩
    case round =>
      obtain ⟨y, hy, rfl, rfl, ⟨A9, n9, c9, rfl⟩, ⟨A8, n8, c8, rfl⟩, HK, HI, HZ, HNW, HOU⟩ := hrel
      obtain ⟨Wr, rfl⟩ : ∃ Wr, Wr = wr := ⟨_, rfl⟩
      obtain ⟨x0, x1, x2, x3, x4⟩ := blk5 HI.out.box
      by_cases hyl : y < plan.length
      · have hym : (y : Int) < m.years := by omega
        have hyi : (y : Int) < (plan.length : Int) := by omega
        have hy0 : (0 : Int) ≤ (y : Int) := by omega
        have hyadd : IntKind.i64.wrap ((y : Int) + 1) = (y : Int) + 1 := IntWalk.i64_in _ (by omega)
        have hgy : plan[y]? = some plan[y] := List.getElem?_eq_getElem hyl
        have hmay := planOk_row HPO.out hyl
        have hro := may_ok hmay
        have hst := stAt_ok HM.out plan (by omega) y hy
        have hsy := stAt_y m plan y hy
        obtain ⟨pb, po, rfl, hpb, hpc⟩ := HPR.out (by intro e; rw [e] at hyl; simp at hyl)
        obtain ⟨u, hu, rA, rc, rfl, hur⟩ := hpc y _ hgy
        have hnxt := stAt_succ m hyl
        have hcs := costPl_succ m hyl
        have hcb := costPl_bd HM.out HPO.out y hy
        have hcb1 := costPl_bd HM.out HPO.out (y + 1) hyl
        have hkin : keptIn m plan y = keptS m (stAt m plan y) plan[y] := by unfold keptIn; rw [getD_lt hyl]
        have hbe := HI.out.below
        have hni := own_ints HNW.out (by rw [thicks_length]; omega)
        obtain ⟨A7, c7, e7, hnr⟩ := hni
        cases e7
        have hq : ∀ w4, Grows Wr w4 → _ := fun w4 hw4 => And.intro (blk5 (blk_below hw4 HI.out.box (lt_blk HI.out.box))) (((hbe.trans (hw4.mono hbe.size)).cell (p := ⟨pb, po + y, none⟩) hpb).trans hu)
        have hyear : ∀ w4, Grows Wr w4 → _ := fun w4 hw4 => ryear_calls m (.slice sA m.slopes.length sc) (.slice cA m.crafts.length cc) (stAt m plan y) A9 rA c9 rc plan[y] w4 HM.out hst hro (HI.out.later hw4).slopes (HI.out.later hw4).crafts ((hnr.below hw4).mono (Below.size hw4)) ((hur.below (hbe.trans (hw4.mono hbe.size))).mono (Nat.le_trans hbe.size (Below.size hw4)))
        have hcosts : ∀ w4, Grows Wr w4 → _ := fun w4 hw4 => costs_calls m (.slice sA m.slopes.length sc) (.slice cA m.crafts.length cc) rA rc plan[y] w4 HM.out hro (HI.out.later hw4).slopes (HI.out.later hw4).crafts ((hur.below (hbe.trans (hw4.mono hbe.size))).mono (Nat.le_trans hbe.size (Below.size hw4)))
        rw [hsy, ← hkin, ← hnxt] at hyear
        have hth := thTo_succ m plan y
        have hadd : IntKind.i64.wrap (costPl m plan y + costS m plan[y]) = costPl m plan (y + 1) := by rw [← hcs]; exact IntWalk.i64_in _ (by omega)
        have HQ := Lib.hid hq
        have HYEAR := Lib.hid hyear
        have HCOSTS := Lib.hid hcosts
        have HTH := Lib.hid hth
        have HADD := Lib.hid hadd
        clear hq hyear hcosts hth hgy hmay hro hst hsy hpc hu hur hnxt hcs hcb hcb1 hkin hbe hnr hadd
        generalize hkd : keptIn m plan y = kd at *
        have HKD := Lib.hid hkd
        generalize costS m plan[y] = co at *
        generalize plan[y].length = rn at *
        clear hkd
        go_wp2_with fail
        refine wp_region_rg Grows (fun | 7 => .any (yearV kd) (fun _ => YearD Wr.heap.size kd (thicks m (stAt m plan (y + 1)))) | _ => .fn) (by kernel_rfl) (by kernel_rfl) Grows.refl growsT (by intro i; split <;> first | trivial | exact fun _ => yearD_stable _ _ _) ?_
        iterate 7 (refine rg_step fun K hK => ?_; apply rg_fn rfl; (intro w4 hw; obtain ⟨⟨x0, x1, x2, x3, x4⟩, y1⟩ := HQ.out w4 hw.undrew; go_simp; try rfl); go_simp; (try with_reducible refine hK _ _ ?_); try clear hK K)
        refine rg_step fun K hK => ?_
        apply rg_call_any (.inl rfl) rfl
        · intro w4 hw
          go_simp
          exact ⟨rfl, rfl⟩
        · intro w4 hw
          refine (HYEAR.out w4 hw.undrew).mono ?_
          rintro e w5 ⟨v', he, ho, hb⟩
          obtain ⟨A5, n5, c5, rfl⟩ := own_slice ho
          exact ⟨_, he, hb, ⟨_, _, _, rfl⟩, _, rfl, own_mono ho (Below.size hw.undrew)⟩
        rintro v5 ⟨A5, n5, c5, rfl⟩
        go_simp
        (try with_reducible refine hK _ _ ?_)
        try clear hK K
        iterate 5 (refine rg_step fun K hK => ?_; apply rg_fn rfl; (intro w4 hw; go_simp; try rfl); go_simp; (try with_reducible refine hK _ _ ?_); try clear hK K)
        refine rg_nil ?_
        rintro w5 hw5 hD
        replace hw5 := hw5.undrew
        obtain ⟨u9, e9, hown5⟩ := hD
        obtain rfl : Value.slice A5 n5 c5 = u9 := by simpa using e9
        have hq5 : ∀ w4, Grows w5 w4 → _ := fun w4 hw4 => HQ.out w4 (growsT _ _ _ hw5 hw4)
        have hc5 : ∀ w4, Grows w5 w4 → _ := fun w4 hw4 => HCOSTS.out w4 (growsT _ _ _ hw5 hw4)
        have HQ5 := Lib.hid hq5
        have HC5 := Lib.hid hc5
        have HOWN5 := Lib.hid hown5
        have HG5 := Lib.hid hw5
        clear hq5 hc5 hown5 e9 hw5 HQ HCOSTS HYEAR x0 x1 x2 x3 x4
        go_wp2_with fail
        refine wp_region_rg Grows (fun | 6 => .ex (.int .i64 co) | _ => .fn) (by kernel_rfl) (by kernel_rfl) Grows.refl growsT (by intro i; split <;> trivial) ?_
        iterate 6 (refine rg_step fun K hK => ?_; apply rg_fn rfl; (intro w4 hw; obtain ⟨⟨x0, x1, x2, x3, x4⟩, y1⟩ := HQ5.out w4 hw.undrew; go_simp; try rfl); go_simp; (try with_reducible refine hK _ _ ?_); try clear hK K)
        refine rg_step fun K hK => ?_
        apply rg_call (.inl rfl) rfl
        · intro w4 hw
          go_simp
          exact ⟨rfl, rfl⟩
        · intro w4 hw
          exact HC5.out w4 hw.undrew
        go_simp
        (try with_reducible refine hK _ _ ?_)
        try clear hK K
        iterate 2 (refine rg_step fun K hK => ?_; apply rg_fn rfl; (intro w4 hw; have hadd := HADD.out; go_simp; try rfl); go_simp; (try with_reducible refine hK _ _ ?_); try clear hK K)
        refine rg_nil ?_
        rintro w6 hw6 _
        replace hw6 := hw6.undrew
        have hg6 : Grows Wr w6 := growsT _ _ _ HG5.out hw6
        have HI6 := Lib.hid (HI.out.later hg6)
        have hz6 : w0.heap.size ≤ w6.heap.size := Nat.le_trans HZ.out (Below.size hg6)
        have hown6 := own_mono (own_below HOWN5.out hw6 (fun k hk => (own_blk_lt HOWN5.out k hk).2)) HZ.out
        have hou6 := HOU.out.below hg6
        obtain ⟨vs, hv1, hv2⟩ := hou6
        rw [thTo_length] at hv1
        have HOWN6 := Lib.hid hown6
        have HV2 := Lib.hid hv2
        have HV1 := Lib.hid hv1
        have hvb := fun ob => own_below hv1 (below1 w6 ob) (fun k hk => (own_blk_lt hv1 k hk).2)
        have HVB := Lib.hid hvb
        clear hg6 hown6 hv1 hv2 hw6 HQ5 HC5 HOWN5 HG5 hvb
        cases kd
        all_goals
          go_wp2_with (at_builtin; (refine wpList_app2 w0.heap.size _ _ 26 36 (.slice none 0 0) 1 24 [.slice A5 n5 c5] (by rfl) (by rfl) Try.underlying26 infoRow rfl (by decide) (by decide) (.slice A8 n8 c8) y vs (by rfl) w6.heap.size (by rfl) (heap_alloc_self _ _) rfl (by simp [Value.oneCell']) (HVB.out _) (by omega) (by simp; omega) ?_); intro v11 w9 hown11 hg9 _ hb9; obtain ⟨A11, n11, c11, rfl⟩ := own_slice hown11; have HX := Lib.hid (And.intro hown11 (And.intro hg9 hb9)); clear hown11 hg9 hb9)
        · obtain ⟨hown11, hg9, hb9⟩ := HX.out
          have hbW : Below w0.heap.size w6 w9 := ((below1 w6 (.cells #[.slice A5 n5 c5] 36)).mono hz6).trans hb9
          have hth : OwnRows w9 w0.heap.size (.slice A11 n11 c11) (thTo m plan (y + 1)) := by
            rw [HTH.out]
            refine OwnRows.snoc (W := w6.alloc (.cells #[.slice A5 n5 c5] 36)) (by rw [thTo_length]; exact HVB.out _) (fun i xs hi => by
              obtain ⟨u, h1, h2⟩ := HV2.out i xs hi
              exact ⟨u, h1, own_below h2 (below1 _ _) (fun k hk => (own_blk_lt h2 k hk).2)⟩) (own_below HOWN6.out (below1 _ _) (fun k hk => (own_blk_lt HOWN6.out k hk).2)) (by rw [thTo_length]; exact hown11) hg9
          have hres := followS_bad HCK.out HPO.out hyl HK.out HKD.out
          have hrows := hth.rows (by rw [thTo_length]; omega) (fun xs hx => by
            unfold thTo at hx
            obtain ⟨j, _, rfl⟩ := List.mem_map.1 hx
            rw [thicks_length]; omega)
          refine bodyPost_ret (results_tmp4 rfl _ _ _) rfl ?_
          unfold FollowPost
          rw [hres]
          exact ⟨_, rfl, hrows, HI6.out.below.trans (hbW.mono (by omega))⟩
        · obtain ⟨hown11, hg9, hb9⟩ := HX.out
          have hbW : Below w0.heap.size w6 w9 := ((below1 w6 (.cells #[.slice A5 n5 c5] 36)).mono hz6).trans hb9
          have hth : OwnRows w9 w0.heap.size (.slice A11 n11 c11) (thTo m plan (y + 1)) := by
            rw [HTH.out]
            refine OwnRows.snoc (W := w6.alloc (.cells #[.slice A5 n5 c5] 36)) (by rw [thTo_length]; exact HVB.out _) (fun i xs hi => by
              obtain ⟨u, h1, h2⟩ := HV2.out i xs hi
              exact ⟨u, h1, own_below h2 (below1 _ _) (fun k hk => (own_blk_lt h2 k hk).2)⟩) (own_below HOWN6.out (below1 _ _) (fun k hk => (own_blk_lt HOWN6.out k hk).2)) (by rw [thTo_length]; exact hown11) hg9
          have hnw9 : w9.ownsRow w0.heap.size 3 1 (.slice A5 n5 c5) (thicks m (stAt m plan (y + 1))).length ((thicks m (stAt m plan (y + 1))).map (Value.int .i64)) := by
            have h6 := own_below HOWN6.out (below1 w6 (.cells #[.slice A5 n5 c5] 36)) (fun k hk => (own_blk_lt HOWN6.out k hk).2)
            refine own_kept h6 fun k hk => ?_
            obtain ⟨cur, hc⟩ := own_type h6 k hk
            refine hg9.block k (own_blk_lt h6 k hk).2 (fun e => ?_)
            obtain ⟨cur2, hc2⟩ := own_type (HVB.out (.cells #[.slice A5 n5 c5] 36)) k e.symm
            rw [hc] at hc2
            simp at hc2
          have hI9 : LawInv m w (.slice sA m.slopes.length sc) (.slice cA m.crafts.length cc) w.heap.size w9 := HI6.out.low (hbW.mono (by omega)) (by omega) HSC.out
          have HTH9 := Lib.hid hth
          have HNW9 := Lib.hid hnw9
          have HI9 := Lib.hid hI9
          have HZ9 := Lib.hid (Nat.le_trans hz6 hbW.size)
          have HK9 : Hid (∀ j, j < y + 1 → keptIn m plan j = true) := Lib.hid (fun j hj => by
            rcases Nat.lt_or_ge j y with h | h
            · exact HK.out j h
            · obtain rfl : j = y := by omega
              exact HKD.out)
          clear hown11 hg9 hb9 hbW hth hnw9 hI9 HX
          go_round
          case rel => exact ⟨y + 1, by omega, by go_num, rfl, ⟨_, _, _, rfl⟩, ⟨_, _, _, rfl⟩, HK9, HI9, HZ9, HNW9, HTH9⟩
          case measure => simp [intOf]; omega
      · obtain rfl : y = plan.length := by omega
        have hym : ¬ (plan.length : Int) < m.years := by omega
        have hres := followS_good HCK.out HPO.out HK.out
        have hrows := HOU.out.rows (by rw [thTo_length]; omega) (fun xs hx => by
          unfold thTo at hx
          obtain ⟨j, _, rfl⟩ := List.mem_map.1 hx
          rw [thicks_length]; omega)
        have HRES := Lib.hid hres
        have HROWS := Lib.hid hrows
        clear hres hrows
        go_wp2_with fail
        refine bodyPost_ret (results_tmp4 rfl _ _ _) rfl ?_
        unfold FollowPost
        rw [HRES.out]
        exact ⟨_, rfl, HROWS.out, HI.out.below⟩
  · have hn1 : (plannedS m plan != 0) = true := by simpa using he
    have hn2 : (!(plannedS m plan == 0)) = true := by simpa using he
    have hres : followS m plan = ([], 0, 0, plannedS m plan) := by
      rw [← hpf] at he ⊢
      unfold followS at he ⊢
      by_cases hc : checkS m = 0
      · rw [if_pos hc] at he ⊢
        by_cases hpp : planOk m plan = true
        · rw [if_pos hpp] at he
          exact absurd (by split <;> rfl) he
        · rw [if_neg hpp]
      · rw [if_neg hc]
    have HRES := Lib.hid hres
    clear he hres hpf
    go_wp2_with fail
    refine bodyPost_ret (results_tmp4 rfl _ _ _) rfl ?_
    unfold FollowPost
    rw [HRES.out]
    exact ⟨_, rfl, RowsAt.nil _ _, H1.out.below⟩
end Go.Proofs.Ytccplobhfokcgaa
