/- mend.Parse. -/
import Derived.Test.YtcbhldfipfcjaaaGreatDoorY9

namespace Go.Proofs.YtcbhldfipfcjaaaGreatDoor
open Go Go.RowKit Go.Shelf
set_option maxRecDepth 100000
attribute [local go_sem] Oper.semAt_some

set_option maxHeartbeats 16000000 in
theorem parse_calls (s : ByteArray) (w : World) (hs : s.size ≤ 100000) (hv : Vars w) : Calls Tryz.prog 9 #[.string s] w (ParsePost s.data.toList w) := by
  refine (callsIn_wide (n := 10)).1 ?_
  have hFw : ∀ f, Fence.wide.fn f := fun _ => trivial
  have HV := Lib.hid hv
  clear hv
  refine callsIn_of_wp_marks Tryz.func9 rfl trivial ?_ rfl
  simp only [Tryz.ntmps9, List.size_toArray, List.length_cons, List.length_nil, Nat.reduceAdd, Nat.reduceSub, Array.replicate_succ, Array.replicate_zero, List.push_toArray, List.append_toArray, List.nil_append, List.cons_append]
  by_cases hbig : (s.size : Int) > 65536
  · gi_wp2_with fail
    have hp : parseS s.data.toList = (wk0, 0, 3) := by
      unfold parseS
      have hl : s.data.toList.length = s.size := by simp
      rw [if_pos (by omega)]
    refine bodyPostM_ret (b := w.heap.size + 3) (hi := w.heap.size + 3) (ds := []) (Nat.le_refl _) fun w' hw' => ?_
    obtain ⟨g0, g1, g2, hb, hz⟩ := boxes3 w 3
    exact parse_bad rfl rfl rfl hp hw' (by omega) (Nat.le_of_eq hz.symm) g0 g1 g2 hb
  · gi_wp2_with fail
    simp only [Nat.add_assoc, Nat.reduceAdd]
    obtain ⟨w3, hw3⟩ : ∃ w3, w3 = (((w.alloc (.cells #[.slice none 0 0, .slice none 0 0, .int .i64 0, .int .i64 0, .int .i64 0] 25)).alloc (.cells #[.int .i64 0] 3)).alloc (.cells #[.int .i64 0] 28)).alloc (.cells #[.int .i64 0] 3) := ⟨_, rfl⟩
    rw [← hw3]
    obtain ⟨hz3, hb3, g0, g1, g2, g3⟩ := boxes4 w
    rw [← hw3] at hz3 hb3 g0 g1 g2 g3
    have HG := Lib.hid (And.intro hb3 (And.intro g0 (And.intro g1 (And.intro g2 (And.intro g3 hz3)))))
    clear hw3 g0 g1 g2 g3 hb3 hz3
    refine (callsIn_wide.2 (lines_calls s w3)).mono ?_
    rintro e w4 ⟨rfl, hw4⟩
    have hbx : w4.heap[w3.heap.size]? = some (.cells #[.string s] 9 (0, 0)) := by rw [hw4]; exact heap_alloc_self _ _
    have hz4 : w4.heap.size = w3.heap.size + 1 := by rw [hw4]; simp
    have hb4 : Below w3.heap.size w3 w4 := by rw [hw4]; exact below1 _ _
    have hz3 := HG.out.2.2.2.2.2
    rw [hz3]
    rw [hz3] at hbx hz4
    have hlo : w4.heap.size = w.heap.size + 5 := by omega
    have HL := Lib.hid (And.intro hbx (And.intro hb4 hlo))
    obtain ⟨R, hR⟩ : ∃ R, R = parseGo 0 wk0 (linesL s.data.toList) := ⟨_, rfl⟩
    have HR := Lib.hid hR
    clear hw4 hbx hz4 hb4 hlo hz3 hR
    gi_wp2_with fail
    refine wpIn_rangeLines s (w.heap.size + 4) hs rfl HL.out.1 (PaI w R s) (PaX w R) ?hI ?hIx ?h0 6 ?assign ?body ?done ?stop
    case hI =>
      intro r W1 W2 h hb
      rw [HL.out.2.2] at hb
      exact h.stable hb
    case hIx =>
      intro c W1 W2 h hb
      rw [HL.out.2.2] at hb
      exact h.stable hb
    case h0 =>
      intro W1 hb hz
      obtain ⟨hb3, g0, g1, g2, g3, hz3⟩ := HG.out
      have hbb : Below w3.heap.size w3 W1 := HL.out.2.1.trans (hb.mono (by rw [HL.out.2.2, hz3]; omega))
      refine ⟨0, wk0, .slice none 0 0, .slice none 0 0, HR.out.symm, by omega, ?_, ?_, ?_, ?_, OwnSq.nil _ _, ⟨rfl, .inl ⟨rfl, rfl⟩⟩, Nat.le_refl _, fun x hx => by simp [wk0] at hx, hb3.trans (hbb.mono (by omega)), by have := HL.out.2.2; omega⟩
      · exact blk_below hbb g0 (by omega)
      · exact blk_below hbb g1 (by omega)
      · exact blk_below hbb g2 (by omega)
      · exact blk_below hbb g3 (by omega)
    case assign =>
      intro l rv W K hK
      gi_wp2_with fail
      simpa using hK
    case body =>
      rintro l W r hr ⟨k, m, v, cr, hi⟩
      rw [HL.out.2.2]
      obtain ⟨hgo, hcount, hbox, hline, herr, hcnt, hsl, hown, hfew, htakes, hbelow, hbigW⟩ := id hi
      obtain ⟨vA, vn, vc, rfl⟩ : ∃ A n c, v = .slice A n c := by
        obtain ⟨_, _, h4, _⟩ := hsl
        exact own_slice h4
      obtain ⟨cA, cn, cc, rfl⟩ := own_slice hown
      obtain ⟨hstep, haft, hlsz⟩ := line_step r hr
      rw [hstep] at hgo
      have HI := Lib.hid hi
      have k0 : W.cell? ⟨w.heap.size + 3, 0, none⟩ = some (.int .i64 (k : Int)) := by rw [cell_blk hcnt]; rfl
      have fk := frozen_blk hcnt 0
      have hkadd : IntKind.i64.wrap ((k : Int) + 1) = (k : Int) + 1 := IntWalk.i64_in _ (by omega)
      obtain ⟨W1, hW1⟩ : ∃ W1, W1 = W.setCell ⟨w.heap.size + 3, 0, none⟩ (.int .i64 ((k : Int) + 1)) := ⟨_, rfl⟩
      have hset1 : W1.heap[w.heap.size + 3]? = some (.cells #[.int .i64 ((k : Int) + 1)] 3 (0, 0)) := by rw [hW1]; exact (heap_set hcnt 0 _).trans rfl
      have hoth1 : ∀ j, j ≠ w.heap.size + 3 → W1.heap[j]? = W.heap[j]? := fun j hj => by rw [hW1]; exact Below.heap_setCell _ _ _ _ hj
      have hz1 : W1.heap.size = W.heap.size := by rw [hW1]; simp [World.setCell]
      have hsm1 : PaSame w W W1 := ⟨by omega, fun j hj hs => hoth1 j (by omega), by rw [hW1]; rfl, by rw [hW1]; rfl, by rw [hW1]; rfl⟩
      have H1 := Lib.hid (And.intro hset1 (And.intro hoth1 (And.intro hz1 hsm1)))
      have HGO := Lib.hid (And.intro hgo (And.intro hcount (And.intro haft hlsz)))
      clear hi hcnt hset1 hoth1 hz1 hsm1 hgo hcount haft hlsz hsl hown hfew htakes hbelow hbox hline herr hstep
      gi_wp2_with fail
      rw [← hW1]
      refine (CallsIn.inRound l (callsIn_wide.2 (Tryz.strings_TrimSuffix (lineB r) ⟨#[10]⟩ W1 (by have := HGO.out.2.2.2; have := HGO.out.2.1; omega)))).mono ?_
      rintro e W2 ⟨rfl, rfl⟩
      have hb1 : Below w.heap.size w W2 := H1.out.2.2.2.below HI.out.below HI.out.below.size
      obtain ⟨L, hL⟩ : ∃ L, L = Lib.trimSuffix (lineB r).data.toList [10] := ⟨_, rfl⟩
      have hL2 : Lib.trimSuffix (lineB r).data.toList (ByteArray.mk #[10]).data.toList = L := hL.symm
      rw [hL2]
      have hgo := HGO.out.1
      rw [← hL] at hgo
      have hLl : L.length ≤ 100000 := by
        have h1 := trimSuffix_len (lineB r).data.toList [10]
        have h2 : (lineB r).data.toList.length = (lineB r).size := by simp
        have := HGO.out.2.2.2
        have := HGO.out.2.1
        rw [hL]; omega
      have HGO2 := Lib.hid (And.intro hgo HGO.out.2)
      have hv2 : Vars W2 := HV.out.below hb1 HV.out.big
      clear hL hL2 hgo hW1 HGO
      gi_wp2_with fail
      refine (CallsIn.inRound l (callsIn_wide.2 (split_calls ⟨L.toArray⟩ W2 (by simpa [ByteArray.size] using hLl) hv2))).mono ?_
      rintro e W3 ⟨ws, rfl, hws, hW3⟩
      have hws' : ws.map (fun b => b.data.toList) = wordsL L := by simpa using hws
      obtain ⟨b0, bt, rfl⟩ : ∃ b0 bt, ws = b0 :: bt := by
        cases ws with
        | nil => exact absurd hws'.symm (partsG_ne 32 L [])
        | cons b0 bt => exact ⟨b0, bt, rfl⟩
      obtain ⟨nb, hnb⟩ : ∃ nb, nb = bt.length := ⟨_, rfl⟩
      have hlen : (b0 :: bt).length = nb + 1 := by rw [hnb]; rfl
      have hblk : W3.heap[W2.heap.size]? = some (.cells (((b0 :: bt).map Value.string).toArray) 9 (0, 0)) := by rw [hW3]; exact heap_alloc_self _ _
      have hb3 : Below W2.heap.size W2 W3 := by rw [hW3]; exact below1 _ _
      rw [hlen]
      have hnb1 : (nb : Int) + 1 ≥ 1 := by omega
      have hsz : ∀ b ∈ b0 :: bt, b.size ≤ 100000 := fun b hb => by
        have h1 : b.data.toList ∈ wordsL L := by rw [← hws']; exact List.mem_map.2 ⟨b, hb, rfl⟩
        have h2 := partsG_size 32 L [] _ h1
        have h3 : b.data.toList.length = b.size := by simp
        simp only [List.length_nil, Nat.zero_add] at h2
        omega
      have hnbL : nb ≤ 100000 := by
        have h1 := congrArg List.length hws'
        have h2 := partsG_count 32 L []
        rw [List.length_map, hlen] at h1
        unfold wordsL at h1
        omega
      have HW3 := Lib.hid (And.intro hblk (And.intro hb3 (And.intro hws' (And.intro hnb (And.intro hv2 hsz)))))
      clear hW3 hblk hb3 hws hws' hnb hlen hv2 hsz
      have hS : ∀ W', Below W3.heap.size W3 W' → (∀ j, j < W.heap.size → j ≠ w.heap.size + 3 → W'.heap[j]? = W.heap[j]?) ∧ W'.heap[w.heap.size + 3]? = some (.cells #[.int .i64 ((k : Int) + 1)] 3 (0, 0)) ∧ Below w.heap.size w W' ∧ W.heap.size ≤ W'.heap.size := fun W' hb => by
        have hb23 := HW3.out.2.1.trans (hb.mono HW3.out.2.1.size)
        have hz := H1.out.2.2.1
        refine ⟨fun j hj hne => (hb23.block j (by omega)).trans (H1.out.2.1 j hne), (hb23.block _ (by have := HI.out.big; omega)).trans H1.out.1, hb1.trans (hb23.mono (by have := HI.out.big; omega)), by have := hb23.size; omega⟩
      have HS := Lib.hid hS
      clear hS
      by_cases hnz : nb = 0
      · subst hnz
        have hbt : bt = [] := List.eq_nil_of_length_eq_zero HW3.out.2.2.2.1.symm
        subst hbt
        have hRB : R = (k + 1, none) := by
          have h1 := HGO2.out.1
          have hl : lineS (k == 0) m L = none := by
            unfold lineS
            rw [← HW3.out.2.2.1]
            exact lineN_nil _ _ _
          rw [parseGo, hl] at h1
          exact h1.symm
        have HRB := Lib.hid hRB
        clear hRB
        gi_wp2_with fail
        gi_loopw [8, 29] (fun nv jv wr => nv = .slice none 0 0 ∧ jv = .int .i64 0 ∧ wr = W3) (fun _ _ _ => 0)
        case atStart => exact ⟨rfl, rfl, rfl⟩
        case round =>
          obtain ⟨rfl, rfl, hwr⟩ := hrel
          obtain ⟨wj, hwj⟩ : ∃ wj, wj = wr := ⟨_, rfl⟩
          rw [← hwj]
          have hj3 : wj = W3 := hwj.trans hwr
          clear hwr hwj
          subst hj3
          have hst := ByteArray.toList_eq b0
          have hf0 : wj.cell? ⟨W2.heap.size, 0, none⟩ = some (.string b0) := by
            rw [cell_blk HW3.out.1]
            simp
          have hc3 : wj.cell? ⟨w.heap.size + 3, 0, none⟩ = some (.int .i64 ((k : Int) + 1)) := by rw [cell_blk (HS.out wj (Below.refl _ _)).2.1]; rfl
          have hq : ∀ w4, Below wj.heap.size wj w4 → w4.cell? ⟨w.heap.size + 3, 0, none⟩ = some (.int .i64 ((k : Int) + 1)) ∧ w4.cell? ⟨W2.heap.size, 0, none⟩ = some (.string b0) := fun w4 hw => by
            have h1 := (HS.out wj (Below.refl _ _)).2.1
            exact ⟨(hw.cell (p := ⟨w.heap.size + 3, 0, none⟩) (lt_blk h1)).trans hc3, (hw.cell (p := ⟨W2.heap.size, 0, none⟩) (lt_blk HW3.out.1)).trans hf0⟩
          have HQ := Lib.hid hq
          clear hq
          by_cases hk0 : k = 0
          · have hkb : ((k : Int) + 1 == 1) = true := by simp [hk0]
            clear hk0
            by_cases hW : b0.data.toList = bWorks
            · have hWb : (b0.data.toList == [119, 111, 114, 107, 115]) = true := by rw [hW]; rfl
              have hSb : (b0.data.toList == [115, 108, 111, 112, 101]) = false := by rw [hW]; rfl
              have hAb : (b0.data.toList == [97, 100, 100]) = false := by rw [hW]; rfl
              have hTb : (b0.data.toList == [115, 116, 114, 105, 112]) = false := by rw [hW]; rfl
              clear hW
              gi_wp2_with fail
              refine wpIn_region_rg Grows (fun _ => .fn) (by kernel_rfl) (fun _ => trivial) (by kernel_rfl) Grows.refl growsT (fun _ => trivial) ?_
              iterate 8 (refine rg_step fun K hK => ?_; apply rg_fn rfl; (intro w4 hw; obtain ⟨q0, q1⟩ := HQ.out w4 hw.undrew; go_simp; try rfl); go_simp; (try with_reducible refine hK _ _ ?_); try clear hK K)
              refine rg_nil ?_
              intro w6 hw6 _
              replace hw6 := hw6.undrew
              have HM6 := Lib.hid hw6
              have hf6 : w6.cell? ⟨W2.heap.size, 0, none⟩ = some (.string b0) := (HQ.out w6 hw6).2
              have hx1 : w6.cell? ⟨w.heap.size, 1, none⟩ = some (.slice cA cn cc) := by
                obtain ⟨hs1, _⟩ := HS.out w6 hw6
                rw [cell_blk ((hs1 _ (by have := HI.out.big; omega) (by omega)).trans HI.out.box)]
                rfl
              clear hw6 hc3 hf0
              clear hkb
              obtain ⟨hs1, hs2, hs3, hs4⟩ := HS.out w6 HM6.out
              have hbg := HI.out.big
              have hset := setRes_set (v0 := .slice none 0 0) (v1 := .slice none 0 0) (x := 0) (y := 0) (z := 0) (k := (k : Int) + 1) (e := 4) ((hs1 _ (by omega) (by omega)).trans HI.out.box) ((hs1 _ (by omega) (by omega)).trans HI.out.line) ((hs1 _ (by omega) (by omega)).trans HI.out.err)
              obtain ⟨x0, x1, x2, x3, x4⟩ := blk5 ((hs1 _ (by omega) (by omega)).trans HI.out.box)
              have fx := frozen_blk ((hs1 _ (by omega) (by omega)).trans HI.out.box)
              have l0 : w6.cell? ⟨w.heap.size + 1, 0, none⟩ = some (.int .i64 0) := by rw [cell_blk ((hs1 _ (by omega) (by omega)).trans HI.out.line)]; rfl
              have fl := frozen_blk ((hs1 _ (by omega) (by omega)).trans HI.out.line) 0
              have e0 : w6.cell? ⟨w.heap.size + 2, 0, none⟩ = some (.int .i64 0) := by rw [cell_blk ((hs1 _ (by omega) (by omega)).trans HI.out.err)]; rfl
              have fe := frozen_blk ((hs1 _ (by omega) (by omega)).trans HI.out.err) 0
              have c3 : w6.cell? ⟨w.heap.size + 3, 0, none⟩ = some (.int .i64 ((k : Int) + 1)) := by rw [cell_blk hs2]; rfl
              have HEND := Lib.hid (pa_bad_end hs1 HRB.out hset hs3 hs4 hbg)
              clear hset hs1 hs2 hs3 hs4
              gi_wp2_with fail
              gi_region
              all_goals
                gi_wp2_with fail
                exact HEND.out
            · have hWb : (b0.data.toList == [119, 111, 114, 107, 115]) = false := by rw [beq_eq_false_iff_ne]; exact hW
              clear hW
              gi_wp2_with fail
              refine wpIn_region_rg Grows (fun _ => .fn) (by kernel_rfl) (fun _ => trivial) (by kernel_rfl) Grows.refl growsT (fun _ => trivial) ?_
              iterate 8 (refine rg_step fun K hK => ?_; apply rg_fn rfl; (intro w4 hw; obtain ⟨q0, q1⟩ := HQ.out w4 hw.undrew; go_simp; try rfl); go_simp; (try with_reducible refine hK _ _ ?_); try clear hK K)
              refine rg_nil ?_
              intro w6 hw6 _
              replace hw6 := hw6.undrew
              have HM6 := Lib.hid hw6
              have hf6 : w6.cell? ⟨W2.heap.size, 0, none⟩ = some (.string b0) := (HQ.out w6 hw6).2
              have hx1 : w6.cell? ⟨w.heap.size, 1, none⟩ = some (.slice cA cn cc) := by
                obtain ⟨hs1, _⟩ := HS.out w6 hw6
                rw [cell_blk ((hs1 _ (by have := HI.out.big; omega) (by omega)).trans HI.out.box)]
                rfl
              clear hw6 hc3 hf0
              clear hkb
              obtain ⟨hs1, hs2, hs3, hs4⟩ := HS.out w6 HM6.out
              have hbg := HI.out.big
              have hset := setRes_set (v0 := .slice none 0 0) (v1 := .slice none 0 0) (x := 0) (y := 0) (z := 0) (k := (k : Int) + 1) (e := 4) ((hs1 _ (by omega) (by omega)).trans HI.out.box) ((hs1 _ (by omega) (by omega)).trans HI.out.line) ((hs1 _ (by omega) (by omega)).trans HI.out.err)
              obtain ⟨x0, x1, x2, x3, x4⟩ := blk5 ((hs1 _ (by omega) (by omega)).trans HI.out.box)
              have fx := frozen_blk ((hs1 _ (by omega) (by omega)).trans HI.out.box)
              have l0 : w6.cell? ⟨w.heap.size + 1, 0, none⟩ = some (.int .i64 0) := by rw [cell_blk ((hs1 _ (by omega) (by omega)).trans HI.out.line)]; rfl
              have fl := frozen_blk ((hs1 _ (by omega) (by omega)).trans HI.out.line) 0
              have e0 : w6.cell? ⟨w.heap.size + 2, 0, none⟩ = some (.int .i64 0) := by rw [cell_blk ((hs1 _ (by omega) (by omega)).trans HI.out.err)]; rfl
              have fe := frozen_blk ((hs1 _ (by omega) (by omega)).trans HI.out.err) 0
              have c3 : w6.cell? ⟨w.heap.size + 3, 0, none⟩ = some (.int .i64 ((k : Int) + 1)) := by rw [cell_blk hs2]; rfl
              have HEND := Lib.hid (pa_bad_end hs1 HRB.out hset hs3 hs4 hbg)
              clear hset hs1 hs2 hs3 hs4
              gi_wp2_with fail
              gi_region
              all_goals
                gi_wp2_with fail
                exact HEND.out
          · have hkb : ((k : Int) + 1 == 1) = false := by rw [beq_eq_false_iff_ne]; omega
            clear hk0
            by_cases hW : b0.data.toList = bWorks
            · have hWb : (b0.data.toList == [119, 111, 114, 107, 115]) = true := by rw [hW]; rfl
              clear hW
              gi_wp2_with fail
              refine wpIn_region_rg Grows (fun _ => .fn) (by kernel_rfl) (fun _ => trivial) (by kernel_rfl) Grows.refl growsT (fun _ => trivial) ?_
              iterate 8 (refine rg_step fun K hK => ?_; apply rg_fn rfl; (intro w4 hw; obtain ⟨q0, q1⟩ := HQ.out w4 hw.undrew; go_simp; try rfl); go_simp; (try with_reducible refine hK _ _ ?_); try clear hK K)
              refine rg_nil ?_
              intro w6 hw6 _
              replace hw6 := hw6.undrew
              have HM6 := Lib.hid hw6
              have hf6 : w6.cell? ⟨W2.heap.size, 0, none⟩ = some (.string b0) := (HQ.out w6 hw6).2
              have hx1 : w6.cell? ⟨w.heap.size, 1, none⟩ = some (.slice cA cn cc) := by
                obtain ⟨hs1, _⟩ := HS.out w6 hw6
                rw [cell_blk ((hs1 _ (by have := HI.out.big; omega) (by omega)).trans HI.out.box)]
                rfl
              clear hw6 hc3 hf0
              clear hkb
              obtain ⟨hs1, hs2, hs3, hs4⟩ := HS.out w6 HM6.out
              have hbg := HI.out.big
              have hset := setRes_set (v0 := .slice none 0 0) (v1 := .slice none 0 0) (x := 0) (y := 0) (z := 0) (k := (k : Int) + 1) (e := 4) ((hs1 _ (by omega) (by omega)).trans HI.out.box) ((hs1 _ (by omega) (by omega)).trans HI.out.line) ((hs1 _ (by omega) (by omega)).trans HI.out.err)
              obtain ⟨x0, x1, x2, x3, x4⟩ := blk5 ((hs1 _ (by omega) (by omega)).trans HI.out.box)
              have fx := frozen_blk ((hs1 _ (by omega) (by omega)).trans HI.out.box)
              have l0 : w6.cell? ⟨w.heap.size + 1, 0, none⟩ = some (.int .i64 0) := by rw [cell_blk ((hs1 _ (by omega) (by omega)).trans HI.out.line)]; rfl
              have fl := frozen_blk ((hs1 _ (by omega) (by omega)).trans HI.out.line) 0
              have e0 : w6.cell? ⟨w.heap.size + 2, 0, none⟩ = some (.int .i64 0) := by rw [cell_blk ((hs1 _ (by omega) (by omega)).trans HI.out.err)]; rfl
              have fe := frozen_blk ((hs1 _ (by omega) (by omega)).trans HI.out.err) 0
              have c3 : w6.cell? ⟨w.heap.size + 3, 0, none⟩ = some (.int .i64 ((k : Int) + 1)) := by rw [cell_blk hs2]; rfl
              have HEND := Lib.hid (pa_bad_end hs1 HRB.out hset hs3 hs4 hbg)
              clear hset hs1 hs2 hs3 hs4
              gi_wp2_with fail
              gi_region
              all_goals
                gi_wp2_with fail
                exact HEND.out
            · have hWb : (b0.data.toList == [119, 111, 114, 107, 115]) = false := by rw [beq_eq_false_iff_ne]; exact hW
              clear hW
              gi_wp2_with fail
              refine wpIn_region_rg Grows (fun _ => .fn) (by kernel_rfl) (fun _ => trivial) (by kernel_rfl) Grows.refl growsT (fun _ => trivial) ?_
              iterate 8 (refine rg_step fun K hK => ?_; apply rg_fn rfl; (intro w4 hw; obtain ⟨q0, q1⟩ := HQ.out w4 hw.undrew; go_simp; try rfl); go_simp; (try with_reducible refine hK _ _ ?_); try clear hK K)
              refine rg_nil ?_
              intro w6 hw6 _
              replace hw6 := hw6.undrew
              have HM6 := Lib.hid hw6
              have hf6 : w6.cell? ⟨W2.heap.size, 0, none⟩ = some (.string b0) := (HQ.out w6 hw6).2
              have hx1 : w6.cell? ⟨w.heap.size, 1, none⟩ = some (.slice cA cn cc) := by
                obtain ⟨hs1, _⟩ := HS.out w6 hw6
                rw [cell_blk ((hs1 _ (by have := HI.out.big; omega) (by omega)).trans HI.out.box)]
                rfl
              clear hw6 hc3 hf0
              clear hkb
              by_cases hS : b0.data.toList = bSlope
              · have hSb : (b0.data.toList == [115, 108, 111, 112, 101]) = true := by rw [hS]; rfl
                have hAb : (b0.data.toList == [97, 100, 100]) = false := by rw [hS]; rfl
                have hTb : (b0.data.toList == [115, 116, 114, 105, 112]) = false := by rw [hS]; rfl
                clear hS
                obtain ⟨hs1, hs2, hs3, hs4⟩ := HS.out w6 HM6.out
                have hbg := HI.out.big
                have hset := setRes_set (v0 := .slice none 0 0) (v1 := .slice none 0 0) (x := 0) (y := 0) (z := 0) (k := (k : Int) + 1) (e := 4) ((hs1 _ (by omega) (by omega)).trans HI.out.box) ((hs1 _ (by omega) (by omega)).trans HI.out.line) ((hs1 _ (by omega) (by omega)).trans HI.out.err)
                obtain ⟨x0, x1, x2, x3, x4⟩ := blk5 ((hs1 _ (by omega) (by omega)).trans HI.out.box)
                have fx := frozen_blk ((hs1 _ (by omega) (by omega)).trans HI.out.box)
                have l0 : w6.cell? ⟨w.heap.size + 1, 0, none⟩ = some (.int .i64 0) := by rw [cell_blk ((hs1 _ (by omega) (by omega)).trans HI.out.line)]; rfl
                have fl := frozen_blk ((hs1 _ (by omega) (by omega)).trans HI.out.line) 0
                have e0 : w6.cell? ⟨w.heap.size + 2, 0, none⟩ = some (.int .i64 0) := by rw [cell_blk ((hs1 _ (by omega) (by omega)).trans HI.out.err)]; rfl
                have fe := frozen_blk ((hs1 _ (by omega) (by omega)).trans HI.out.err) 0
                have c3 : w6.cell? ⟨w.heap.size + 3, 0, none⟩ = some (.int .i64 ((k : Int) + 1)) := by rw [cell_blk hs2]; rfl
                have HEND := Lib.hid (pa_bad_end hs1 HRB.out hset hs3 hs4 hbg)
                clear hset hs1 hs2 hs3 hs4
                gi_wp2_with fail
                gi_region
                all_goals
                  gi_wp2_with fail
                  exact HEND.out
              · have hSb : (b0.data.toList == [115, 108, 111, 112, 101]) = false := by rw [beq_eq_false_iff_ne]; exact hS
                clear hS
                by_cases hA : b0.data.toList = bAdd
                · have hAb : (b0.data.toList == [97, 100, 100]) = true := by rw [hA]; rfl
                  have hTb : (b0.data.toList == [115, 116, 114, 105, 112]) = false := by rw [hA]; rfl
                  clear hA
                  obtain ⟨hs1, hs2, hs3, hs4⟩ := HS.out w6 HM6.out
                  have hbg := HI.out.big
                  have hset := setRes_set (v0 := .slice none 0 0) (v1 := .slice none 0 0) (x := 0) (y := 0) (z := 0) (k := (k : Int) + 1) (e := 4) ((hs1 _ (by omega) (by omega)).trans HI.out.box) ((hs1 _ (by omega) (by omega)).trans HI.out.line) ((hs1 _ (by omega) (by omega)).trans HI.out.err)
                  obtain ⟨x0, x1, x2, x3, x4⟩ := blk5 ((hs1 _ (by omega) (by omega)).trans HI.out.box)
                  have fx := frozen_blk ((hs1 _ (by omega) (by omega)).trans HI.out.box)
                  have l0 : w6.cell? ⟨w.heap.size + 1, 0, none⟩ = some (.int .i64 0) := by rw [cell_blk ((hs1 _ (by omega) (by omega)).trans HI.out.line)]; rfl
                  have fl := frozen_blk ((hs1 _ (by omega) (by omega)).trans HI.out.line) 0
                  have e0 : w6.cell? ⟨w.heap.size + 2, 0, none⟩ = some (.int .i64 0) := by rw [cell_blk ((hs1 _ (by omega) (by omega)).trans HI.out.err)]; rfl
                  have fe := frozen_blk ((hs1 _ (by omega) (by omega)).trans HI.out.err) 0
                  have c3 : w6.cell? ⟨w.heap.size + 3, 0, none⟩ = some (.int .i64 ((k : Int) + 1)) := by rw [cell_blk hs2]; rfl
                  have HEND := Lib.hid (pa_bad_end hs1 HRB.out hset hs3 hs4 hbg)
                  clear hset hs1 hs2 hs3 hs4
                  gi_wp2_with fail
                  gi_region
                  all_goals
                    gi_wp2_with fail
                    exact HEND.out
                · have hAb : (b0.data.toList == [97, 100, 100]) = false := by rw [beq_eq_false_iff_ne]; exact hA
                  clear hA
                  by_cases hT : b0.data.toList = bStrip
                  · have hTb : (b0.data.toList == [115, 116, 114, 105, 112]) = true := by rw [hT]; rfl
                    clear hT
                    obtain ⟨hs1, hs2, hs3, hs4⟩ := HS.out w6 HM6.out
                    have hbg := HI.out.big
                    have hset := setRes_set (v0 := .slice none 0 0) (v1 := .slice none 0 0) (x := 0) (y := 0) (z := 0) (k := (k : Int) + 1) (e := 4) ((hs1 _ (by omega) (by omega)).trans HI.out.box) ((hs1 _ (by omega) (by omega)).trans HI.out.line) ((hs1 _ (by omega) (by omega)).trans HI.out.err)
                    obtain ⟨x0, x1, x2, x3, x4⟩ := blk5 ((hs1 _ (by omega) (by omega)).trans HI.out.box)
                    have fx := frozen_blk ((hs1 _ (by omega) (by omega)).trans HI.out.box)
                    have l0 : w6.cell? ⟨w.heap.size + 1, 0, none⟩ = some (.int .i64 0) := by rw [cell_blk ((hs1 _ (by omega) (by omega)).trans HI.out.line)]; rfl
                    have fl := frozen_blk ((hs1 _ (by omega) (by omega)).trans HI.out.line) 0
                    have e0 : w6.cell? ⟨w.heap.size + 2, 0, none⟩ = some (.int .i64 0) := by rw [cell_blk ((hs1 _ (by omega) (by omega)).trans HI.out.err)]; rfl
                    have fe := frozen_blk ((hs1 _ (by omega) (by omega)).trans HI.out.err) 0
                    have c3 : w6.cell? ⟨w.heap.size + 3, 0, none⟩ = some (.int .i64 ((k : Int) + 1)) := by rw [cell_blk hs2]; rfl
                    have HEND := Lib.hid (pa_bad_end hs1 HRB.out hset hs3 hs4 hbg)
                    clear hset hs1 hs2 hs3 hs4
                    gi_wp2_with fail
                    gi_region
                    all_goals
                      gi_wp2_with fail
                      exact HEND.out
                  · have hTb : (b0.data.toList == [115, 116, 114, 105, 112]) = false := by rw [beq_eq_false_iff_ne]; exact hT
                    clear hT
                    obtain ⟨hs1, hs2, hs3, hs4⟩ := HS.out w6 HM6.out
                    have hbg := HI.out.big
                    have hset := setRes_set (v0 := .slice none 0 0) (v1 := .slice none 0 0) (x := 0) (y := 0) (z := 0) (k := (k : Int) + 1) (e := 4) ((hs1 _ (by omega) (by omega)).trans HI.out.box) ((hs1 _ (by omega) (by omega)).trans HI.out.line) ((hs1 _ (by omega) (by omega)).trans HI.out.err)
                    obtain ⟨x0, x1, x2, x3, x4⟩ := blk5 ((hs1 _ (by omega) (by omega)).trans HI.out.box)
                    have fx := frozen_blk ((hs1 _ (by omega) (by omega)).trans HI.out.box)
                    have l0 : w6.cell? ⟨w.heap.size + 1, 0, none⟩ = some (.int .i64 0) := by rw [cell_blk ((hs1 _ (by omega) (by omega)).trans HI.out.line)]; rfl
                    have fl := frozen_blk ((hs1 _ (by omega) (by omega)).trans HI.out.line) 0
                    have e0 : w6.cell? ⟨w.heap.size + 2, 0, none⟩ = some (.int .i64 0) := by rw [cell_blk ((hs1 _ (by omega) (by omega)).trans HI.out.err)]; rfl
                    have fe := frozen_blk ((hs1 _ (by omega) (by omega)).trans HI.out.err) 0
                    have c3 : w6.cell? ⟨w.heap.size + 3, 0, none⟩ = some (.int .i64 ((k : Int) + 1)) := by rw [cell_blk hs2]; rfl
                    have HEND := Lib.hid (pa_bad_end hs1 HRB.out hset hs3 hs4 hbg)
                    clear hset hs1 hs2 hs3 hs4
                    gi_wp2_with fail
                    gi_region
                    all_goals
                      gi_wp2_with fail
                      exact HEND.out
      · have HM0 : Hid (PaMid W3 (bt.map fun b => b.data.toList) (.slice none 0 0) 0 W3) := Lib.hid ⟨[], rfl, ⟨rfl, .inl ⟨rfl, rfl⟩⟩, Below.refl _ _⟩
        gi_wp2_with fail
        gi_loopw [8, 29] (fun nv jv wr => ∃ j : Nat, j ≤ nb ∧ jv = .int .i64 (j : Int) ∧ ∃ A n c, nv = .slice A n c ∧ Hid (PaMid W3 (bt.map fun b => b.data.toList) (.slice A n c) j wr)) (fun _ jv _ => nb - (intOf jv).toNat)
        case atStart => exact ⟨0, Nat.zero_le _, rfl, _, _, _, rfl, HM0⟩
        case round =>
          obtain ⟨j, hj, rfl, nA, nn, nc, rfl, HM⟩ := hrel
          obtain ⟨wj, rfl⟩ : ∃ wj, wj = wr := ⟨_, rfl⟩
          by_cases hjl : j < nb
          · have hji : (j : Int) < (nb : Int) := by omega
            have hj0 : (0 : Int) ≤ (j : Int) := by omega
            have hjadd : IntKind.i64.wrap ((j : Int) + 1) = (j : Int) + 1 := IntWalk.i64_in _ (by omega)
            have hjt : j < bt.length := by have := HW3.out.2.2.2.1; omega
            have hwd : wj.cell? ⟨W2.heap.size, 1 + j, none⟩ = some (.string bt[j]) := by
              have h1 := blk_below HM.out.below HW3.out.1 (lt_blk HW3.out.1)
              rw [cell_blk h1]
              simp [Nat.add_comm 1 j]
            have hbs := HW3.out.2.2.2.2.2 _ (List.mem_cons_of_mem b0 (List.getElem_mem hjt))
            gi_wp2_with fail
            refine (CallsIn.inRound l (callsIn_wide.2 (number_calls bt[j] wj (by omega)))).mono ?_
            rintro e W5 ⟨rfl, hb5⟩
            have HM5 : Hid (Below W3.heap.size W3 W5) := Lib.hid (HM.out.below.trans (hb5.mono HM.out.below.size))
            have HB5 := Lib.hid hb5
            clear hb5
            cases hno : numOf bt[j].data.toList with
            | none =>
              have hR : R = (k + 1, none) := by
                have h1 := HGO2.out.1
                have hw := HW3.out.2.2.1
                have hl : lineS (k == 0) m L = none := by
                  unfold lineS
                  rw [← hw]
                  have hsp : bt.map (fun b => b.data.toList) = (bt.take j).map (fun b => b.data.toList) ++ bt[j].data.toList :: (bt.drop (j + 1)).map (fun b => b.data.toList) := by
                    rw [← List.map_cons (f := fun b : ByteArray => b.data.toList), ← List.map_append, ← List.drop_eq_getElem_cons hjt, List.take_append_drop]
                  have : ((b0 :: bt).map (fun b => b.data.toList)).tail = bt.map (fun b => b.data.toList) := rfl
                  rw [this, hsp, numsL_none _ _ _ hno]
                rw [parseGo, hl] at h1
                exact h1.symm
              have HR1 := Lib.hid hR
              obtain ⟨hs1, hs2, hs3, hs4⟩ := HS.out W5 HM5.out
              have hbg := HI.out.big
              have hset := setRes_set (v0 := .slice none 0 0) (v1 := .slice none 0 0) (x := 0) (y := 0) (z := 0) (k := (k : Int) + 1) (e := 4) ((hs1 _ (by omega) (by omega)).trans HI.out.box) ((hs1 _ (by omega) (by omega)).trans HI.out.line) ((hs1 _ (by omega) (by omega)).trans HI.out.err)
              obtain ⟨x0, x1, x2, x3, x4⟩ := blk5 ((hs1 _ (by omega) (by omega)).trans HI.out.box)
              have fx := frozen_blk ((hs1 _ (by omega) (by omega)).trans HI.out.box)
              have l0 : W5.cell? ⟨w.heap.size + 1, 0, none⟩ = some (.int .i64 0) := by rw [cell_blk ((hs1 _ (by omega) (by omega)).trans HI.out.line)]; rfl
              have fl := frozen_blk ((hs1 _ (by omega) (by omega)).trans HI.out.line) 0
              have e0 : W5.cell? ⟨w.heap.size + 2, 0, none⟩ = some (.int .i64 0) := by rw [cell_blk ((hs1 _ (by omega) (by omega)).trans HI.out.err)]; rfl
              have fe := frozen_blk ((hs1 _ (by omega) (by omega)).trans HI.out.err) 0
              have c3 : W5.cell? ⟨w.heap.size + 3, 0, none⟩ = some (.int .i64 ((k : Int) + 1)) := by rw [cell_blk hs2]; rfl
              have HEND := Lib.hid (pa_bad_end hs1 hR hset hs3 hs4 hbg)
              clear hset hno hs1 hs2 hs3 hs4 hR
              simp only [numV]
              gi_wp2_with fail
              gi_region
              all_goals
                gi_wp2_with fail
                exact HEND.out
            | some x =>
              obtain ⟨xs, hxs, hxo, hxb⟩ := HM.out.nums
              have hts : (bt.map fun b => b.data.toList).take (j + 1) = (bt.map fun b => b.data.toList).take j ++ [bt[j].data.toList] := by
                rw [List.take_succ_eq_append_getElem (by rw [List.length_map]; exact hjt), List.getElem_map]
              have hn1 := numsL_snoc _ bt[j].data.toList _ hxs
              rw [hno, ← hts] at hn1
              have hxl := numsL_length _ _ hxs
              rw [List.length_take, List.length_map] at hxl
              have hxo5 : ∀ ob, (W5.alloc ob).ownsRow W3.heap.size 3 1 (.slice nA nn nc) xs.length (xs.map (Value.int .i64)) := fun ob => own_below (own_below hxo HB5.out (fun k hk => (own_blk_lt hxo k hk).2)) (below1 W5 ob) (fun k hk => Nat.lt_of_lt_of_le (own_blk_lt hxo k hk).2 HB5.out.size)
              have HXS := Lib.hid (And.intro hn1 hxo5)
              have hxl2 : xs.length ≤ 100000 := by omega
              have hz35 := HM5.out.size
              clear hxs hxo hxb hts hn1 hxo5 hno
              simp only [numV]
              gi_wp2_with (gi_at_builtin; (refine wpListIn_app2 W3.heap.size _ _ 35 3 (.int .i64 0) 1 8 [.int .i64 x] (by rfl) (by rfl) Tryz.underlying35 infoInt rfl (by decide) (by decide) (.slice nA nn nc) xs.length (xs.map (Value.int .i64)) (by rfl) W5.heap.size (by rfl) (heap_alloc_self _ _) rfl (by simp [Value.oneCell']) (HXS.out.2 _) (by omega) (by simp; omega) ?_); intro v8 w8 hown8 hg8 hat8 hb8; obtain ⟨A8, n8, c8, rfl⟩ := own_slice hown8; have H8 := Lib.hid (And.intro hown8 hb8); clear hown8 hg8 hat8 hb8)
              have HM8 : Hid (PaMid W3 (bt.map fun b => b.data.toList) (.slice A8 n8 c8) (j + 1) w8) := Lib.hid ⟨xs ++ [x], HXS.out.1, by
                have := H8.out.1
                rw [List.length_append, List.map_append]
                exact this, HM5.out.trans (((below1 W5 _).mono hz35).trans H8.out.2)⟩
              gi_wp2_with fail
              exact ⟨⟨j + 1, by omega, by go_num, A8, n8, c8, rfl, HM8⟩, by simp [intOf]; omega⟩
          · obtain rfl : j = nb := by omega
            have hji : ¬ ((j : Int) < (j : Int)) := by omega
            obtain ⟨xs, hxs, hxo, hxb⟩ := HM.out.nums
            have hnn : nn = xs.length := own_len hxo
            subst hnn
            have hcn : cn = m.crafts.length := own_len HI.out.own
            subst hcn
            have hall : numsL (bt.map fun b => b.data.toList) = some xs := by
              rw [List.take_of_length_le (by rw [List.length_map]; have := HW3.out.2.2.2.1; omega)] at hxs
              exact hxs
            have hline : lineS (k == 0) m L = lineN (k == 0) m b0.data.toList xs := by
              unfold lineS
              rw [← HW3.out.2.2.1]
              have : ((b0 :: bt).map (fun b => b.data.toList)).tail = bt.map (fun b => b.data.toList) := rfl
              rw [this, hall]
              rfl
            have hRB : lineN (k == 0) m b0.data.toList xs = none → R = (k + 1, none) := fun h => by
              have h1 := HGO2.out.1
              rw [parseGo, hline, h] at h1
              exact h1.symm
            have hRG : ∀ m', lineN (k == 0) m b0.data.toList xs = some m' → parseGo (k + 1) m' (linesL (afterB r).data.toList) = R := fun m' h => by
              have h1 := HGO2.out.1
              rw [parseGo, hline, h] at h1
              exact h1
            have HRB := Lib.hid hRB
            have HRG := Lib.hid hRG
            have hxbd := numsL_bound _ _ hall
            have HXB := Lib.hid hxbd
            have hxl : xs.length ≤ 100000 := by
              have := numsL_length _ _ hall
              rw [List.length_map] at this
              have := HW3.out.2.2.2.1
              omega
            have HXO := Lib.hid hxo
            have HMJ := Lib.hid hxb
            have hst := ByteArray.toList_eq b0
            have hf0 : wj.cell? ⟨W2.heap.size, 0, none⟩ = some (.string b0) := by
              rw [cell_blk (blk_below hxb HW3.out.1 (lt_blk HW3.out.1))]
              simp
            have hc3 : wj.cell? ⟨w.heap.size + 3, 0, none⟩ = some (.int .i64 ((k : Int) + 1)) := by rw [cell_blk (HS.out wj hxb).2.1]; rfl
            clear hxs hxo hxb hall hline hRB hRG hxbd
            have hq : ∀ w4, Below wj.heap.size wj w4 → w4.cell? ⟨w.heap.size + 3, 0, none⟩ = some (.int .i64 ((k : Int) + 1)) ∧ w4.cell? ⟨W2.heap.size, 0, none⟩ = some (.string b0) := fun w4 hw => by
              have h1 := (HS.out wj HMJ.out).2.1
              exact ⟨(hw.cell (p := ⟨w.heap.size + 3, 0, none⟩) (lt_blk h1)).trans hc3, (hw.cell (p := ⟨W2.heap.size, 0, none⟩) (lt_blk (blk_below HMJ.out HW3.out.1 (lt_blk HW3.out.1)))).trans hf0⟩
            have HQ := Lib.hid hq
            clear hq
            have hnone : ∀ P : Prop, P → P := fun _ h => h
            by_cases hk0 : k = 0
            · have hkb : ((k : Int) + 1 == 1) = true := by simp [hk0]
              have hkf : (k == 0) = true := by simp [hk0]
              have HK0 := Lib.hid (And.intro hk0 hkf)
              clear hk0 hkf
              by_cases hW : b0.data.toList = bWorks
              · have hWb : (b0.data.toList == [119, 111, 114, 107, 115]) = true := by rw [hW]; rfl
                gi_wp2_with fail
                refine wpIn_region_rg Grows (fun _ => .fn) (by kernel_rfl) (fun _ => trivial) (by kernel_rfl) Grows.refl growsT (fun _ => trivial) ?_
                iterate 8 (refine rg_step fun K hK => ?_; apply rg_fn rfl; (intro w4 hw; obtain ⟨q0, q1⟩ := HQ.out w4 hw.undrew; go_simp; try rfl); go_simp; (try with_reducible refine hK _ _ ?_); try clear hK K)
                refine rg_nil ?_
                intro w6 hw6 _
                replace hw6 := hw6.undrew
                have HM6 := Lib.hid (HMJ.out.trans (hw6.mono HMJ.out.size))
                have HW6 := Lib.hid hw6
                have hf6 : w6.cell? ⟨W2.heap.size, 0, none⟩ = some (.string b0) := (HQ.out w6 hw6).2
                clear hw6 hc3 hf0
                have hSb : (b0.data.toList == [115, 108, 111, 112, 101]) = false := by rw [hW]; rfl
                have hAb : (b0.data.toList == [97, 100, 100]) = false := by rw [hW]; rfl
                have hTb : (b0.data.toList == [115, 116, 114, 105, 112]) = false := by rw [hW]; rfl
                have HW := Lib.hid hW
                clear hW hkb
                by_cases h3 : xs.length = 3
                · obtain ⟨a, b, c, rfl⟩ : ∃ a b c, xs = [a, b, c] := by
                    match xs, h3 with
                    | [a, b, c], _ => exact ⟨a, b, c, rfl⟩
                  have hl : lineN (k == 0) m b0.data.toList [a, b, c] = some { m with years := a, visit := b, hands := c } := by
                    unfold lineN
                    rw [HK0.out.2, HW.out]
                    rfl
                  have HGOOD := Lib.hid (HRG.out _ hl)
                  have ho6 : w6.ownsRow W3.heap.size 3 1 (.slice nA 3 nc) 3 [.int .i64 a, .int .i64 b, .int .i64 c] := own_below HXO.out HW6.out (fun k hk => (own_blk_lt HXO.out k hk).2)
                  obtain ⟨g, cap, e, hgB, _⟩ := ho6.form (by omega)
                  have hgne : g ≠ w.heap.size := by
                    have h1 := HW3.out.2.1.size
                    have h2 := lt_blk H1.out.1
                    omega
                  have hgne2 : w.heap.size ≠ g := fun e => hgne e.symm
                  simp only [Value.slice.injEq] at e
                  obtain ⟨rfl, _, _⟩ := e
                  have n0 := own_cells ho6 0 _ rfl
                  have n1 := own_cells ho6 1 _ rfl
                  have n2 := own_cells ho6 2 _ rfl
                  obtain ⟨hs1, hs2, hs3, hs4⟩ := HS.out w6 HM6.out
                  have hat := PaAt.of HI.out hs1 hs2 hs3 hs4
                  obtain ⟨x0, x1, x2, x3, x4⟩ := blk5 hat.box
                  have fx := frozen_blk hat.box
                  have hbg := HI.out.big
                  have hq : ∀ w4, BoxR w.heap.size (.slice vA vn vc) (.slice cA m.crafts.length cc) m.years m.visit m.hands a b w6 w4 → w4.cell? ⟨g, 0, none⟩ = some (.int .i64 a) ∧ w4.cell? ⟨g, 1, none⟩ = some (.int .i64 b) ∧ w4.cell? ⟨g, 2, none⟩ = some (.int .i64 c) := fun w4 hw => by
                    have hgl := (own_blk_lt ho6 g rfl).2
                    have hb := hw.bel.block g hgl hgne
                    exact ⟨(World.cell?_of_block hb).trans n0, (World.cell?_of_block hb).trans n1, (World.cell?_of_block hb).trans n2⟩
                  have hq2 : ∀ w4, BoxR w.heap.size (.slice vA vn vc) (.slice cA m.crafts.length cc) m.years m.visit m.hands a b w6 w4 → (∃ o2 o3, w4.cell? ⟨w.heap.size, 2, none⟩ = some o2 ∧ w4.cell? ⟨w.heap.size, 3, none⟩ = some o3) ∧ (∀ j, w4.frozen? ⟨w.heap.size, j, none⟩ = false) ∧
                      (∃ q, (w4.setCell ⟨w.heap.size, 2, none⟩ (.int .i64 a)).heap[w.heap.size]? = some (bxO (.slice vA vn vc) (.slice cA m.crafts.length cc) m.years m.visit m.hands a b true q)) ∧ ∃ p, (w4.setCell ⟨w.heap.size, 3, none⟩ (.int .i64 b)).heap[w.heap.size]? = some (bxO (.slice vA vn vc) (.slice cA m.crafts.length cc) m.years m.visit m.hands a b p true) := fun w4 hw => by
                    obtain ⟨p, q, _, _, e⟩ := hw.step false false hat.box
                    exact ⟨⟨_, _, by rw [cell_blk e]; rfl, by rw [cell_blk e]; rfl⟩, frozen_blk e, ⟨q, (heap_set e 2 _).trans rfl⟩, p, (heap_set e 3 _).trans rfl⟩
                  have HQA := Lib.hid hq
                  have HQB := Lib.hid hq2
                  have HAT := Lib.hid hat
                  have HS6 := Lib.hid (And.intro hs1 hs4)
                  clear hl ho6 hs1 hs2 hs3 hs4 hat h3 hq hq2 n0 n1 n2 x0 x1 x2 x3 x4 fx
                  gi_wp2_with fail
                  refine wpIn_region_rg_tail 13 (BoxR w.heap.size (.slice vA vn vc) (.slice cA m.crafts.length cc) m.years m.visit m.hands a b) (fun | 10 => .exw undef (BoxA w.heap.size (.slice vA vn vc) (.slice cA m.crafts.length cc) m.years m.visit m.hands a b) | 12 => .exw undef (BoxC w.heap.size (.slice vA vn vc) (.slice cA m.crafts.length cc) m.years m.visit m.hands a b) | _ => .fn) (by kernel_rfl) (fun _ => trivial) (by kernel_rfl) (BoxR.refl _ _ _ _ _ _ _ _) (fun _ _ _ h k => h.trans k)
                    (by intro i; split <;> first | trivial | exact (fun w1 w2 h h0 => by obtain ⟨q, e⟩ := h0; obtain ⟨p', q', h1, _, e'⟩ := h.step true q e; rw [h1 rfl] at e'; exact ⟨q', e'⟩) | exact (fun w1 w2 h h0 => by obtain ⟨p, e⟩ := h0; obtain ⟨p', q', _, h2, e'⟩ := h.step p true e; rw [h2 rfl] at e'; exact ⟨p', e'⟩)) ?_
                  iterate 10 (refine rg_step fun K hK => ?_; apply rg_fn rfl; (intro w4 hw; obtain ⟨q0, q1, q2⟩ := HQA.out w4 hw.undrew; go_simp; try rfl); go_simp; (try with_reducible refine hK _ _ ?_); try clear hK K)
                  refine rg_step fun K hK => ?_
                  apply rg_exS rfl
                  · intro w4 hw
                    obtain ⟨⟨o2, o3, e2, e3⟩, ef, h2, _⟩ := HQB.out w4 hw.undrew
                    refine ⟨w4.setCell ⟨w.heap.size, 2, none⟩ (.int .i64 a), ?_, BoxR.set2, h2⟩
                    go_simp
                    try rfl
                  go_simp
                  (try with_reducible refine hK _ _ ?_)
                  try clear hK K
                  iterate 1 (refine rg_step fun K hK => ?_; apply rg_fn rfl; (intro w4 hw; go_simp; try rfl); go_simp; (try with_reducible refine hK _ _ ?_); try clear hK K)
                  refine rg_step fun K hK => ?_
                  apply rg_exS rfl
                  · intro w4 hw
                    obtain ⟨⟨o2, o3, e2, e3⟩, ef, _, h3⟩ := HQB.out w4 hw.undrew
                    refine ⟨w4.setCell ⟨w.heap.size, 3, none⟩ (.int .i64 b), ?_, BoxR.set3, h3⟩
                    go_simp
                    try rfl
                  go_simp
                  (try with_reducible refine hK _ _ ?_)
                  try clear hK K
                  refine rg_nil ?_
                  intro w7 hw7 hset
                  replace hw7 := hw7.undrew
                  obtain ⟨hA, hC⟩ : BoxA w.heap.size (.slice vA vn vc) (.slice cA m.crafts.length cc) m.years m.visit m.hands a b w7 ∧ BoxC w.heap.size (.slice vA vn vc) (.slice cA m.crafts.length cc) m.years m.visit m.hands a b w7 := by
                    first | exact hset | exact ⟨hset.2, hset.1⟩ | exact ⟨hset.1, hset.2.1⟩ | exact ⟨hset.2.1, hset.1⟩
                  have hbox7 := hA.both hC
                  obtain ⟨q0, q1, q2⟩ := HQA.out w7 hw7
                  have y4 : w7.cell? ⟨w.heap.size, 4, none⟩ = some (.int .i64 m.hands) := by rw [cell_blk hbox7]; rfl
                  have fy := frozen_blk hbox7 4
                  have hat7 := HAT.out.nums2 (W7 := w7.setCell ⟨w.heap.size, 4, none⟩ (.int .i64 c)) a b c ((heap_set hbox7 4 _).trans rfl) (fun j hj hjl => (Below.heap_setCell _ _ _ _ (by exact hj)).trans (hw7.bel.block j hjl hj)) (by simp [World.setCell]; exact hw7.bel.size) ((HAT.out.below.trans (hw7.bel.below HAT.out.below.size (fun k hk => by omega))).setCell (p := ⟨w.heap.size, 4, none⟩) (Nat.le_refl _) _)
                  have hfin := hat7.fin (R := R) (s := s) (r := r) (W := W) HGOOD.out HGO2.out.2.1 HGO2.out.2.2.1 (by have := HI.out.few; exact Nat.le_succ_of_le this) HI.out.takes (by simp [World.setCell]; have := hw7.bel.size; have := HS6.out.2; omega) (fun j hj => by
                    have := HS6.out.2
                    exact ((Below.heap_setCell _ _ _ _ (by show j ≠ w.heap.size; omega)).trans (hw7.bel.block j (by omega) (by omega))).trans (HS6.out.1 j (by omega) (by omega)))
                  have HFIN := Lib.hid hfin
                  clear hA hC hbox7 hat7 hfin hset hw7
                  simp only [List.drop_succ_cons, List.drop_zero]
                  gi_wp2_with fail
                  exact HFIN.out
                · have hn3 : ((xs.length : Int) == 3) = false := by rw [beq_eq_false_iff_ne]; omega
                  have hl : lineN (k == 0) m b0.data.toList xs = none := by
                    unfold lineN
                    rw [HK0.out.2, HW.out]
                    have h3' : (xs.length == 3) = false := by rw [beq_eq_false_iff_ne]; exact h3
                    rw [h3']
                    rfl
                  have HL0 := Lib.hid hl
                  clear hl h3
                  obtain ⟨hs1, hs2, hs3, hs4⟩ := HS.out w6 HM6.out
                  have hbg := HI.out.big
                  have hset := setRes_set (v0 := .slice none 0 0) (v1 := .slice none 0 0) (x := 0) (y := 0) (z := 0) (k := (k : Int) + 1) (e := 4) ((hs1 _ (by omega) (by omega)).trans HI.out.box) ((hs1 _ (by omega) (by omega)).trans HI.out.line) ((hs1 _ (by omega) (by omega)).trans HI.out.err)
                  obtain ⟨x0, x1, x2, x3, x4⟩ := blk5 ((hs1 _ (by omega) (by omega)).trans HI.out.box)
                  have fx := frozen_blk ((hs1 _ (by omega) (by omega)).trans HI.out.box)
                  have l0 : w6.cell? ⟨w.heap.size + 1, 0, none⟩ = some (.int .i64 0) := by rw [cell_blk ((hs1 _ (by omega) (by omega)).trans HI.out.line)]; rfl
                  have fl := frozen_blk ((hs1 _ (by omega) (by omega)).trans HI.out.line) 0
                  have e0 : w6.cell? ⟨w.heap.size + 2, 0, none⟩ = some (.int .i64 0) := by rw [cell_blk ((hs1 _ (by omega) (by omega)).trans HI.out.err)]; rfl
                  have fe := frozen_blk ((hs1 _ (by omega) (by omega)).trans HI.out.err) 0
                  have c3 : w6.cell? ⟨w.heap.size + 3, 0, none⟩ = some (.int .i64 ((k : Int) + 1)) := by rw [cell_blk hs2]; rfl
                  have HEND := Lib.hid (pa_bad_end hs1 (HRB.out HL0.out) hset hs3 hs4 hbg)
                  clear hset hs1 hs2 hs3 hs4
                  gi_wp2_with fail
                  gi_region
                  all_goals
                    gi_wp2_with fail
                    exact HEND.out
              · have hWb : (b0.data.toList == [119, 111, 114, 107, 115]) = false := by rw [beq_eq_false_iff_ne]; exact hW
                have hl : lineN (k == 0) m b0.data.toList xs = none := by
                  unfold lineN
                  rw [HK0.out.2, show (b0.data.toList == bWorks) = false from hWb]
                  rfl
                have HL0 := Lib.hid hl
                clear hl
                gi_wp2_with fail
                refine wpIn_region_rg Grows (fun _ => .fn) (by kernel_rfl) (fun _ => trivial) (by kernel_rfl) Grows.refl growsT (fun _ => trivial) ?_
                iterate 8 (refine rg_step fun K hK => ?_; apply rg_fn rfl; (intro w4 hw; obtain ⟨q0, q1⟩ := HQ.out w4 hw.undrew; go_simp; try rfl); go_simp; (try with_reducible refine hK _ _ ?_); try clear hK K)
                refine rg_nil ?_
                intro w6 hw6 _
                replace hw6 := hw6.undrew
                have HM6 := Lib.hid (HMJ.out.trans (hw6.mono HMJ.out.size))
                have HW6 := Lib.hid hw6
                have hf6 : w6.cell? ⟨W2.heap.size, 0, none⟩ = some (.string b0) := (HQ.out w6 hw6).2
                clear hw6 hc3 hf0
                obtain ⟨hs1, hs2, hs3, hs4⟩ := HS.out w6 HM6.out
                have hbg := HI.out.big
                have hset := setRes_set (v0 := .slice none 0 0) (v1 := .slice none 0 0) (x := 0) (y := 0) (z := 0) (k := (k : Int) + 1) (e := 4) ((hs1 _ (by omega) (by omega)).trans HI.out.box) ((hs1 _ (by omega) (by omega)).trans HI.out.line) ((hs1 _ (by omega) (by omega)).trans HI.out.err)
                obtain ⟨x0, x1, x2, x3, x4⟩ := blk5 ((hs1 _ (by omega) (by omega)).trans HI.out.box)
                have fx := frozen_blk ((hs1 _ (by omega) (by omega)).trans HI.out.box)
                have l0 : w6.cell? ⟨w.heap.size + 1, 0, none⟩ = some (.int .i64 0) := by rw [cell_blk ((hs1 _ (by omega) (by omega)).trans HI.out.line)]; rfl
                have fl := frozen_blk ((hs1 _ (by omega) (by omega)).trans HI.out.line) 0
                have e0 : w6.cell? ⟨w.heap.size + 2, 0, none⟩ = some (.int .i64 0) := by rw [cell_blk ((hs1 _ (by omega) (by omega)).trans HI.out.err)]; rfl
                have fe := frozen_blk ((hs1 _ (by omega) (by omega)).trans HI.out.err) 0
                have c3 : w6.cell? ⟨w.heap.size + 3, 0, none⟩ = some (.int .i64 ((k : Int) + 1)) := by rw [cell_blk hs2]; rfl
                have HEND := Lib.hid (pa_bad_end hs1 (HRB.out HL0.out) hset hs3 hs4 hbg)
                clear hset hs1 hs2 hs3 hs4
                gi_wp2_with fail
                gi_region
                all_goals
                  gi_wp2_with fail
                  exact HEND.out
            · have hkb : ((k : Int) + 1 == 1) = false := by rw [beq_eq_false_iff_ne]; omega
              have hkf : (k == 0) = false := by simp [hk0]
              have HK0 := Lib.hid (And.intro hk0 hkf)
              clear hk0 hkf
              by_cases hW : b0.data.toList = bWorks
              · have hWb : (b0.data.toList == [119, 111, 114, 107, 115]) = true := by rw [hW]; rfl
                have HW := Lib.hid hW
                clear hW
                gi_wp2_with fail
                refine wpIn_region_rg Grows (fun _ => .fn) (by kernel_rfl) (fun _ => trivial) (by kernel_rfl) Grows.refl growsT (fun _ => trivial) ?_
                iterate 8 (refine rg_step fun K hK => ?_; apply rg_fn rfl; (intro w4 hw; obtain ⟨q0, q1⟩ := HQ.out w4 hw.undrew; go_simp; try rfl); go_simp; (try with_reducible refine hK _ _ ?_); try clear hK K)
                refine rg_nil ?_
                intro w6 hw6 _
                replace hw6 := hw6.undrew
                have HM6 := Lib.hid (HMJ.out.trans (hw6.mono HMJ.out.size))
                have HW6 := Lib.hid hw6
                have hf6 : w6.cell? ⟨W2.heap.size, 0, none⟩ = some (.string b0) := (HQ.out w6 hw6).2
                clear hw6 hc3 hf0
                have hl : lineN (k == 0) m b0.data.toList xs = none := by
                  unfold lineN
                  rw [HK0.out.2, HW.out]
                  rfl
                have HL0 := Lib.hid hl
                clear hl
                obtain ⟨hs1, hs2, hs3, hs4⟩ := HS.out w6 HM6.out
                have hbg := HI.out.big
                have hset := setRes_set (v0 := .slice none 0 0) (v1 := .slice none 0 0) (x := 0) (y := 0) (z := 0) (k := (k : Int) + 1) (e := 4) ((hs1 _ (by omega) (by omega)).trans HI.out.box) ((hs1 _ (by omega) (by omega)).trans HI.out.line) ((hs1 _ (by omega) (by omega)).trans HI.out.err)
                obtain ⟨x0, x1, x2, x3, x4⟩ := blk5 ((hs1 _ (by omega) (by omega)).trans HI.out.box)
                have fx := frozen_blk ((hs1 _ (by omega) (by omega)).trans HI.out.box)
                have l0 : w6.cell? ⟨w.heap.size + 1, 0, none⟩ = some (.int .i64 0) := by rw [cell_blk ((hs1 _ (by omega) (by omega)).trans HI.out.line)]; rfl
                have fl := frozen_blk ((hs1 _ (by omega) (by omega)).trans HI.out.line) 0
                have e0 : w6.cell? ⟨w.heap.size + 2, 0, none⟩ = some (.int .i64 0) := by rw [cell_blk ((hs1 _ (by omega) (by omega)).trans HI.out.err)]; rfl
                have fe := frozen_blk ((hs1 _ (by omega) (by omega)).trans HI.out.err) 0
                have c3 : w6.cell? ⟨w.heap.size + 3, 0, none⟩ = some (.int .i64 ((k : Int) + 1)) := by rw [cell_blk hs2]; rfl
                have HEND := Lib.hid (pa_bad_end hs1 (HRB.out HL0.out) hset hs3 hs4 hbg)
                clear hset hs1 hs2 hs3 hs4
                gi_wp2_with fail
                gi_region
                all_goals
                  gi_wp2_with fail
                  exact HEND.out
              · have hWb : (b0.data.toList == [119, 111, 114, 107, 115]) = false := by rw [beq_eq_false_iff_ne]; exact hW
                gi_wp2_with fail
                refine wpIn_region_rg Grows (fun _ => .fn) (by kernel_rfl) (fun _ => trivial) (by kernel_rfl) Grows.refl growsT (fun _ => trivial) ?_
                iterate 8 (refine rg_step fun K hK => ?_; apply rg_fn rfl; (intro w4 hw; obtain ⟨q0, q1⟩ := HQ.out w4 hw.undrew; go_simp; try rfl); go_simp; (try with_reducible refine hK _ _ ?_); try clear hK K)
                refine rg_nil ?_
                intro w6 hw6 _
                replace hw6 := hw6.undrew
                have HM6 := Lib.hid (HMJ.out.trans (hw6.mono HMJ.out.size))
                have HW6 := Lib.hid hw6
                have hf6 : w6.cell? ⟨W2.heap.size, 0, none⟩ = some (.string b0) := (HQ.out w6 hw6).2
                clear hw6 hc3 hf0
                clear hkb hW
                have hat : PaAt w k m (.slice vA vn vc) (.slice cA m.crafts.length cc) w6 := by
                  obtain ⟨hs1, hs2, hs3, hs4⟩ := HS.out w6 HM6.out
                  exact PaAt.of HI.out hs1 hs2 hs3 hs4
                have HAT := Lib.hid hat
                have hx1 : w6.cell? ⟨w.heap.size, 1, none⟩ = some (.slice cA m.crafts.length cc) := by rw [cell_blk hat.box]; rfl
                have ho6 : w6.ownsRow W3.heap.size 3 1 (.slice nA xs.length nc) xs.length (xs.map (Value.int .i64)) := own_below HXO.out HW6.out (fun k hk => (own_blk_lt HXO.out k hk).2)
                have HO6 := Lib.hid ho6
                have hs14 : (∀ j, j < W.heap.size → j ≠ w.heap.size + 3 → w6.heap[j]? = W.heap[j]?) ∧ W.heap.size ≤ w6.heap.size := by
                  obtain ⟨hs1, hs2, hs3, hs4⟩ := HS.out w6 HM6.out
                  exact ⟨hs1, hs4⟩
                have HS6 := Lib.hid hs14
                clear hat ho6 hs14
                by_cases hS : b0.data.toList = bSlope
                · have hSb : (b0.data.toList == [115, 108, 111, 112, 101]) = true := by rw [hS]; rfl
                  have hAb : (b0.data.toList == [97, 100, 100]) = false := by rw [hS]; rfl
                  have hTb : (b0.data.toList == [115, 116, 114, 105, 112]) = false := by rw [hS]; rfl
                  have HSW := Lib.hid hS
                  clear hS
                  by_cases h4 : 4 ≤ xs.length
                  · have h4i : (xs.length : Int) ≥ 4 := by omega
                    by_cases hc0 : m.crafts.length = 0
                    · have hc0b : ((m.crafts.length : Int) == 0) = true := by simp [hc0]
                      obtain ⟨a, b, c, d, rest, rfl⟩ : ∃ a b c d rest, xs = a :: b :: c :: d :: rest := by
                        match xs, h4 with
                        | a :: b :: c :: d :: rest, _ => exact ⟨a, b, c, d, rest, rfl⟩
                      have hl : lineN (k == 0) m b0.data.toList (a :: b :: c :: d :: rest) = some { m with slopes := m.slopes ++ [⟨a, b, c, d, rest⟩] } := by
                        unfold lineN
                        have e1 : decide (4 ≤ (a :: b :: c :: d :: rest).length) = true := decide_eq_true h4
                        have e2 : (m.crafts.length == 0) = true := by simp [hc0]
                        rw [HK0.out.2, HSW.out, e1, e2]
                        rfl
                      have HGOOD := Lib.hid (HRG.out _ hl)
                      have HC0 := Lib.hid hc0
                      obtain ⟨nr, hnr⟩ : ∃ nr, nr = rest.length := ⟨_, rfl⟩
                      have hlen : (a :: b :: c :: d :: rest).length = nr + 4 := by rw [hnr]; rfl
                      have ho6 := HO6.out
                      rw [hlen] at ho6
                      obtain ⟨g, cap, e, hgB, hgl⟩ := ho6.form (by omega)
                      simp only [Value.slice.injEq] at e
                      obtain ⟨rfl, _, hcap⟩ := e
                      have hncap : nr + 4 ≤ nc := by
                        rcases ho6.2 with ⟨h1, _⟩ | ⟨g', cap', cur, hv, _, _, hcp, _⟩
                        · cases h1
                        · simp only [Value.slice.injEq] at hv
                          omega
                      obtain ⟨cq, rfl⟩ : ∃ cq, nc = cq + 4 := ⟨nc - 4, by omega⟩
                      have hnq : nr ≤ cq := by omega
                      have n0 := own_cells ho6 0 (.int .i64 a) rfl
                      have n1 := own_cells ho6 1 (.int .i64 b) rfl
                      have n2 := own_cells ho6 2 (.int .i64 c) rfl
                      have n3 := own_cells ho6 3 (.int .i64 d) rfl
                      have hrest : ∀ w4, Below w6.heap.size w6 w4 → ∀ o cp, (nr ≠ 0 → o = 4) → IntsAt w4 w4.heap.size (.slice (some ⟨g, o, none⟩) nr cp) rest := fun w4 hw o cp ho => by
                        have hxl2 : (a :: b :: c :: d :: rest).length ≤ 100000 := hxl
                        rw [hlen] at hxl2
                        refine ⟨_, _, by rw [hnr], by rw [List.length_map]; omega, fun hne => ?_⟩
                        have hn0 : nr ≠ 0 := fun e => hne (by rw [hnr] at e; rw [List.eq_nil_of_length_eq_zero e]; rfl)
                        rw [ho hn0]
                        refine ⟨g, 4, rfl, Nat.lt_of_lt_of_le hgl hw.size, fun j u hu => ?_⟩
                        have h1 := own_cells ho6 (4 + j) u (by
                          rw [show 4 + j = j + 1 + 1 + 1 + 1 by omega]
                          exact hu)
                        exact (hw.cell (p := ⟨g, 4 + j, none⟩) hgl).trans h1
                      have hq : ∀ w4, Below w6.heap.size w6 w4 → w4.cell? ⟨w.heap.size, 0, none⟩ = some (.slice vA vn vc) ∧ w4.cell? ⟨g, 0, none⟩ = some (.int .i64 a) ∧ w4.cell? ⟨g, 1, none⟩ = some (.int .i64 b) ∧ w4.cell? ⟨g, 2, none⟩ = some (.int .i64 c) ∧ w4.cell? ⟨g, 3, none⟩ = some (.int .i64 d) := fun w4 hw =>
                        ⟨(hw.cell (p := ⟨w.heap.size, 0, none⟩) (lt_blk HAT.out.box)).trans (by rw [cell_blk HAT.out.box]; rfl), (hw.cell (p := ⟨g, 0, none⟩) hgl).trans n0, (hw.cell (p := ⟨g, 1, none⟩) hgl).trans n1, (hw.cell (p := ⟨g, 2, none⟩) hgl).trans n2, (hw.cell (p := ⟨g, 3, none⟩) hgl).trans n3⟩
                      have HQA := Lib.hid hq
                      have HREST := Lib.hid hrest
                      have HNR := Lib.hid hnr
                      have hxl3 : nr ≤ 100000 := by
                        have hxl2 : (a :: b :: c :: d :: rest).length ≤ 100000 := hxl
                        rw [hlen] at hxl2
                        omega
                      have h4j : ((nr + 4 : Nat) : Int) ≥ 4 := by omega
                      rw [hlen]
                      clear hl ho6 hq hrest hnr n0 n1 n2 n3 h4 h4i hc0 hlen hcap hxl hncap
                      by_cases hq0 : cq = 0
                      · obtain rfl : nr = 0 := by omega
                        subst hq0
                        gi_wp2_with fail
                        refine wpIn_region_rg_tail 19 Grows (fun | 16 => .any sliceV (fun _ v w4 => TakesAt w4 (w.heap.size + 7) v rest) | 18 => .any anyV (fun l v w4 => ∃ b, v = .slice (some ⟨b, 0, none⟩) 1 1 ∧ w4.heap[b]? = some (.cells (aggOf l) 37 (0, 0))) | _ => .fn) (by kernel_rfl) (fun _ => trivial) (by kernel_rfl) Grows.refl growsT
                          (by intro i; split <;> first | trivial | exact (fun l v w1 w2 h h1 => h1.kept fun k cs _ hc => h.block k (lt_blk hc)) | exact (fun l v w1 w2 h ⟨b, h2, h3⟩ => ⟨b, h2, blk_below h h3 (lt_blk h3)⟩)) ?_
                        iterate 16 (refine rg_step fun K hK => ?_; apply rg_fn rfl; (intro w4 hw; obtain ⟨q0, q1, q2, q3, q4⟩ := HQA.out w4 hw.undrew; go_simp; try rfl); go_simp; (try with_reducible refine hK _ _ ?_); try clear hK K)
                        refine rg_step fun K hK => ?_
                        apply rg_call_any (.inr ⟨l, rfl⟩) rfl
                        · intro w4 hw
                          go_simp
                          exact ⟨rfl, rfl⟩
                        · intro w4 hw
                          refine (clone_calls (.slice (some ⟨g, 0, none⟩) 0 0) rest w4 w4.heap.size (HREST.out w4 hw.undrew _ _ (fun h => absurd rfl h)) (by have := HNR.out; omega)).mono ?_
                          rintro e w5 ⟨v', he, ho, hb⟩
                          exact ⟨v', he, hb, own_slice ho, (TakesAt.of_own ho).mono (Nat.le_trans HAT.out.big hw.undrew.size)⟩
                        rintro v9 ⟨A9, n9, c9, rfl⟩
                        go_simp
                        (try with_reducible refine hK _ _ ?_)
                        try clear hK K
                        iterate 1 (refine rg_step fun K hK => ?_; apply rg_fn rfl; (intro w4 hw; go_simp; try rfl); go_simp; (try with_reducible refine hK _ _ ?_); try clear hK K)
                        refine rg_step fun K hK => ?_
                        apply rg_any rfl
                        · intro w4 hw
                          refine ⟨.slice (some ⟨w4.heap.size, 0, none⟩) 1 1, w4.alloc (.cells #[.int .i64 a, .int .i64 b, .int .i64 c, .int .i64 d, .slice A9 n9 c9] 37), ?_, below1 _ _, trivial, ⟨_, rfl, heap_alloc_self _ _⟩⟩
                          go_simp
                          try rfl
                        rintro v10 _
                        go_simp
                        (try with_reducible refine hK _ _ ?_)
                        try clear hK K
                        refine rg_nil ?_
                        rintro w12 hw12 ⟨htk, b9, rfl, hblk⟩
                        replace hblk : w12.heap[b9]? = some (.cells #[.int .i64 a, .int .i64 b, .int .i64 c, .int .i64 d, .slice A9 n9 c9] 37 (0, 0)) := hblk
                        replace hw12 := hw12.undrew
                        have hat12 := HAT.out.later hw12
                        have HAT12 := Lib.hid hat12
                        have hsl : m.slopes.length ≤ 100000 := by have := HI.out.few; have := HGO2.out.2.1; omega
                        have HW12 := Lib.hid hw12
                        obtain ⟨us, u1, u2, u3⟩ := hat12.sl
                        have HU := Lib.hid (And.intro u1 (And.intro u2 (And.intro u3 htk)))
                        clear hat12 hw12 u1 u2 u3 htk
                        simp only [List.drop_succ_cons, List.drop_zero]
                        refine wpListIn_app2 (w.heap.size + 7) _ _ 22 37 (.agg #[.int .i64 0, .int .i64 0, .int .i64 0, .int .i64 0, .slice none 0 0]) 5 56 [.int .i64 a, .int .i64 b, .int .i64 c, .int .i64 d, .slice A9 n9 c9] (by rfl) (by rfl) Tryz.underlying22 infoSlopeS rfl (by decide) (by decide) (.slice vA vn vc) m.slopes.length (cellsSl m.slopes us) (by rfl) b9 (by rfl) hblk rfl (by simp [Value.oneCell']) HU.out.2.1 (by omega) HAT12.out.big ?_
                        intro v8 w8 hown8 hg8 hat8 hb8
                        obtain ⟨A8, n8, c8, rfl⟩ := own_slice hown8
                        obtain ⟨k8, hat9, hk9, hz9⟩ := HAT12.out.slope (x := ⟨a, b, c, d, rest⟩) HU.out.1 HU.out.2.1 HU.out.2.2.1 HU.out.2.2.2 hown8 hg8 hb8
                        obtain ⟨r0, r1, r2, r3, r4⟩ := blk5 k8
                        have fr8 := frozen_blk k8
                        have hfin := hat9.fin (R := R) (s := s) (r := r) (W := W) HGOOD.out HGO2.out.2.1 HGO2.out.2.2.1 (by have := HI.out.few; simp only [List.length_append, List.length_singleton]; omega) (fun x hx => by
                          rcases List.mem_append.1 hx with h | h
                          · exact HI.out.takes x h
                          · simp only [List.mem_singleton] at h
                            subst h
                            show rest.length ≤ 100000
                            have := HNR.out
                            omega) (by have := HS6.out.2; have := HW12.out.size; omega) (fun j hj => by
                          have hbg := HI.out.big
                          have := HS6.out.2
                          exact ((hk9 j (by omega) (by omega)).trans (HW12.out.block j (by omega))).trans (HS6.out.1 j (by omega) (by omega)))
                        have HFIN := Lib.hid hfin
                        clear hown8 hg8 hat8 hb8 k8 hat9 hk9 hz9 hfin hblk
                        gi_wp2_with fail
                        exact HFIN.out
                      · have hq1 : ¬ (cq : Int) = 0 := by omega
                        have bd0 : (0 : Int) < (nr : Int) + 4 := by omega
                        have bd1 : (1 : Int) < (nr : Int) + 4 := by omega
                        have bd2 : (2 : Int) < (nr : Int) + 4 := by omega
                        have bd3 : (3 : Int) < (nr : Int) + 4 := by omega
                        have bd4 : (4 : Int) ≤ (nr : Int) + 4 := by omega
                        have bd5 : nr ≤ cq := by omega
                        gi_wp2_with fail
                        refine wpIn_region_rg_tail 19 Grows (fun | 16 => .any sliceV (fun _ v w4 => TakesAt w4 (w.heap.size + 7) v rest) | 18 => .any anyV (fun l v w4 => ∃ b, v = .slice (some ⟨b, 0, none⟩) 1 1 ∧ w4.heap[b]? = some (.cells (aggOf l) 37 (0, 0))) | _ => .fn) (by kernel_rfl) (fun _ => trivial) (by kernel_rfl) Grows.refl growsT
                          (by intro i; split <;> first | trivial | exact (fun l v w1 w2 h h1 => h1.kept fun k cs _ hc => h.block k (lt_blk hc)) | exact (fun l v w1 w2 h ⟨b, h2, h3⟩ => ⟨b, h2, blk_below h h3 (lt_blk h3)⟩)) ?_
                        iterate 16 (refine rg_step fun K hK => ?_; apply rg_fn rfl; (intro w4 hw; obtain ⟨q0, q1, q2, q3, q4⟩ := HQA.out w4 hw.undrew; go_simp; try rfl); go_simp; (try with_reducible refine hK _ _ ?_); try clear hK K)
                        refine rg_step fun K hK => ?_
                        apply rg_call_any (.inr ⟨l, rfl⟩) rfl
                        · intro w4 hw
                          go_simp
                          exact ⟨rfl, rfl⟩
                        · intro w4 hw
                          refine (clone_calls (.slice (some ⟨g, 4, none⟩) nr cq) rest w4 w4.heap.size (HREST.out w4 hw.undrew _ _ (fun _ => rfl)) (by have := HNR.out; omega)).mono ?_
                          rintro e w5 ⟨v', he, ho, hb⟩
                          exact ⟨v', he, hb, own_slice ho, (TakesAt.of_own ho).mono (Nat.le_trans HAT.out.big hw.undrew.size)⟩
                        rintro v9 ⟨A9, n9, c9, rfl⟩
                        go_simp
                        (try with_reducible refine hK _ _ ?_)
                        try clear hK K
                        iterate 1 (refine rg_step fun K hK => ?_; apply rg_fn rfl; (intro w4 hw; go_simp; try rfl); go_simp; (try with_reducible refine hK _ _ ?_); try clear hK K)
                        refine rg_step fun K hK => ?_
                        apply rg_any rfl
                        · intro w4 hw
                          refine ⟨.slice (some ⟨w4.heap.size, 0, none⟩) 1 1, w4.alloc (.cells #[.int .i64 a, .int .i64 b, .int .i64 c, .int .i64 d, .slice A9 n9 c9] 37), ?_, below1 _ _, trivial, ⟨_, rfl, heap_alloc_self _ _⟩⟩
                          go_simp
                          try rfl
                        rintro v10 _
                        go_simp
                        (try with_reducible refine hK _ _ ?_)
                        try clear hK K
                        refine rg_nil ?_
                        rintro w12 hw12 ⟨htk, b9, rfl, hblk⟩
                        replace hblk : w12.heap[b9]? = some (.cells #[.int .i64 a, .int .i64 b, .int .i64 c, .int .i64 d, .slice A9 n9 c9] 37 (0, 0)) := hblk
                        replace hw12 := hw12.undrew
                        have hat12 := HAT.out.later hw12
                        have HAT12 := Lib.hid hat12
                        have hsl : m.slopes.length ≤ 100000 := by have := HI.out.few; have := HGO2.out.2.1; omega
                        have HW12 := Lib.hid hw12
                        obtain ⟨us, u1, u2, u3⟩ := hat12.sl
                        have HU := Lib.hid (And.intro u1 (And.intro u2 (And.intro u3 htk)))
                        clear hat12 hw12 u1 u2 u3 htk
                        simp only [List.drop_succ_cons, List.drop_zero]
                        refine wpListIn_app2 (w.heap.size + 7) _ _ 22 37 (.agg #[.int .i64 0, .int .i64 0, .int .i64 0, .int .i64 0, .slice none 0 0]) 5 56 [.int .i64 a, .int .i64 b, .int .i64 c, .int .i64 d, .slice A9 n9 c9] (by rfl) (by rfl) Tryz.underlying22 infoSlopeS rfl (by decide) (by decide) (.slice vA vn vc) m.slopes.length (cellsSl m.slopes us) (by rfl) b9 (by rfl) hblk rfl (by simp [Value.oneCell']) HU.out.2.1 (by omega) HAT12.out.big ?_
                        intro v8 w8 hown8 hg8 hat8 hb8
                        obtain ⟨A8, n8, c8, rfl⟩ := own_slice hown8
                        obtain ⟨k8, hat9, hk9, hz9⟩ := HAT12.out.slope (x := ⟨a, b, c, d, rest⟩) HU.out.1 HU.out.2.1 HU.out.2.2.1 HU.out.2.2.2 hown8 hg8 hb8
                        obtain ⟨r0, r1, r2, r3, r4⟩ := blk5 k8
                        have fr8 := frozen_blk k8
                        have hfin := hat9.fin (R := R) (s := s) (r := r) (W := W) HGOOD.out HGO2.out.2.1 HGO2.out.2.2.1 (by have := HI.out.few; simp only [List.length_append, List.length_singleton]; omega) (fun x hx => by
                          rcases List.mem_append.1 hx with h | h
                          · exact HI.out.takes x h
                          · simp only [List.mem_singleton] at h
                            subst h
                            show rest.length ≤ 100000
                            have := HNR.out
                            omega) (by have := HS6.out.2; have := HW12.out.size; omega) (fun j hj => by
                          have hbg := HI.out.big
                          have := HS6.out.2
                          exact ((hk9 j (by omega) (by omega)).trans (HW12.out.block j (by omega))).trans (HS6.out.1 j (by omega) (by omega)))
                        have HFIN := Lib.hid hfin
                        clear hown8 hg8 hat8 hb8 k8 hat9 hk9 hz9 hfin hblk
                        gi_wp2_with fail
                        exact HFIN.out
                    · have hc0b : ((m.crafts.length : Int) == 0) = false := by simp [hc0]
                      have HC0 := Lib.hid hc0
                      clear hc0
                      have hl : lineN (k == 0) m b0.data.toList xs = none := by
                        unfold lineN
                        rw [HK0.out.2, HSW.out]
                        have e1 : (m.crafts.length == 0) = false := by simp [HC0.out]
                        rw [e1, Bool.and_false]
                        rfl
                      have HL0 := Lib.hid hl
                      clear hl
                      obtain ⟨hs1, hs2, hs3, hs4⟩ := HS.out w6 HM6.out
                      have hbg := HI.out.big
                      have hset := setRes_set (v0 := .slice none 0 0) (v1 := .slice none 0 0) (x := 0) (y := 0) (z := 0) (k := (k : Int) + 1) (e := 4) ((hs1 _ (by omega) (by omega)).trans HI.out.box) ((hs1 _ (by omega) (by omega)).trans HI.out.line) ((hs1 _ (by omega) (by omega)).trans HI.out.err)
                      obtain ⟨x0, x1, x2, x3, x4⟩ := blk5 ((hs1 _ (by omega) (by omega)).trans HI.out.box)
                      have fx := frozen_blk ((hs1 _ (by omega) (by omega)).trans HI.out.box)
                      have l0 : w6.cell? ⟨w.heap.size + 1, 0, none⟩ = some (.int .i64 0) := by rw [cell_blk ((hs1 _ (by omega) (by omega)).trans HI.out.line)]; rfl
                      have fl := frozen_blk ((hs1 _ (by omega) (by omega)).trans HI.out.line) 0
                      have e0 : w6.cell? ⟨w.heap.size + 2, 0, none⟩ = some (.int .i64 0) := by rw [cell_blk ((hs1 _ (by omega) (by omega)).trans HI.out.err)]; rfl
                      have fe := frozen_blk ((hs1 _ (by omega) (by omega)).trans HI.out.err) 0
                      have c3 : w6.cell? ⟨w.heap.size + 3, 0, none⟩ = some (.int .i64 ((k : Int) + 1)) := by rw [cell_blk hs2]; rfl
                      have HEND := Lib.hid (pa_bad_end hs1 (HRB.out HL0.out) hset hs3 hs4 hbg)
                      clear hset hs1 hs2 hs3 hs4
                      gi_wp2_with fail
                      gi_region
                      all_goals
                        gi_wp2_with fail
                        exact HEND.out
                  · have h4i : ¬ (xs.length : Int) ≥ 4 := by omega
                    have H4 := Lib.hid h4
                    clear h4
                    have hl : lineN (k == 0) m b0.data.toList xs = none := by
                      unfold lineN
                      rw [HK0.out.2, HSW.out]
                      have e1 : decide (4 ≤ xs.length) = false := by simp [H4.out]
                      rw [e1, Bool.and_false, Bool.false_and]
                      rfl
                    have HL0 := Lib.hid hl
                    clear hl
                    obtain ⟨hs1, hs2, hs3, hs4⟩ := HS.out w6 HM6.out
                    have hbg := HI.out.big
                    have hset := setRes_set (v0 := .slice none 0 0) (v1 := .slice none 0 0) (x := 0) (y := 0) (z := 0) (k := (k : Int) + 1) (e := 4) ((hs1 _ (by omega) (by omega)).trans HI.out.box) ((hs1 _ (by omega) (by omega)).trans HI.out.line) ((hs1 _ (by omega) (by omega)).trans HI.out.err)
                    obtain ⟨x0, x1, x2, x3, x4⟩ := blk5 ((hs1 _ (by omega) (by omega)).trans HI.out.box)
                    have fx := frozen_blk ((hs1 _ (by omega) (by omega)).trans HI.out.box)
                    have l0 : w6.cell? ⟨w.heap.size + 1, 0, none⟩ = some (.int .i64 0) := by rw [cell_blk ((hs1 _ (by omega) (by omega)).trans HI.out.line)]; rfl
                    have fl := frozen_blk ((hs1 _ (by omega) (by omega)).trans HI.out.line) 0
                    have e0 : w6.cell? ⟨w.heap.size + 2, 0, none⟩ = some (.int .i64 0) := by rw [cell_blk ((hs1 _ (by omega) (by omega)).trans HI.out.err)]; rfl
                    have fe := frozen_blk ((hs1 _ (by omega) (by omega)).trans HI.out.err) 0
                    have c3 : w6.cell? ⟨w.heap.size + 3, 0, none⟩ = some (.int .i64 ((k : Int) + 1)) := by rw [cell_blk hs2]; rfl
                    have HEND := Lib.hid (pa_bad_end hs1 (HRB.out HL0.out) hset hs3 hs4 hbg)
                    clear hset hs1 hs2 hs3 hs4
                    gi_wp2_with fail
                    gi_region
                    all_goals
                      gi_wp2_with fail
                      exact HEND.out
                · have hSb : (b0.data.toList == [115, 108, 111, 112, 101]) = false := by rw [beq_eq_false_iff_ne]; exact hS
                  clear hS
                  by_cases hA : b0.data.toList = bAdd
                  · have hAb : (b0.data.toList == [97, 100, 100]) = true := by rw [hA]; rfl
                    have hTb : (b0.data.toList == [115, 116, 114, 105, 112]) = false := by rw [hA]; rfl
                    have HAW := Lib.hid hA
                    clear hA
                    by_cases h2 : xs.length = 2
                    · have h2b : ((xs.length : Int) == 2) = true := by simp [h2]
                      obtain ⟨a, b, rfl⟩ : ∃ a b, xs = [a, b] := by
                        match xs, h2 with
                        | [a, b], _ => exact ⟨a, b, rfl⟩
                      have hl : lineN (k == 0) m b0.data.toList [a, b] = some { m with crafts := m.crafts ++ [⟨a, b, false⟩] } := by
                        unfold lineN
                        rw [HK0.out.2, HAW.out]
                        rfl
                      have HGOOD := Lib.hid (HRG.out _ hl)
                      have ho6 := HO6.out
                      obtain ⟨g, cap, e, hgB, hgl⟩ := ho6.form (by simp)
                      simp only [Value.slice.injEq] at e
                      obtain ⟨rfl, _, _⟩ := e
                      have n0 := own_cells ho6 0 _ rfl
                      have n1 := own_cells ho6 1 _ rfl
                      have hq : ∀ w4, Below w6.heap.size w6 w4 → w4.cell? ⟨w.heap.size, 1, none⟩ = some (.slice cA m.crafts.length cc) ∧ w4.cell? ⟨g, 0, none⟩ = some (.int .i64 a) ∧ w4.cell? ⟨g, 1, none⟩ = some (.int .i64 b) := fun w4 hw =>
                        ⟨(hw.cell (p := ⟨w.heap.size, 1, none⟩) (lt_blk HAT.out.box)).trans hx1, (hw.cell (p := ⟨g, 0, none⟩) hgl).trans n0, (hw.cell (p := ⟨g, 1, none⟩) hgl).trans n1⟩
                      have HQA := Lib.hid hq
                      clear hl ho6 hq n0 n1 hx1 h2
                      gi_wp2_with fail
                      refine wpIn_region_rg_tail 10 Grows (fun | 9 => .any anyV (fun l v w4 => ∃ b, v = .slice (some ⟨b, 0, none⟩) 1 1 ∧ w4.heap[b]? = some (.cells (aggOf l) 67 (0, 0))) | _ => .fn) (by kernel_rfl) (fun _ => trivial) (by kernel_rfl) Grows.refl growsT
                        (by intro i; split <;> first | trivial | exact (fun l v w1 w2 h ⟨b, h2, h3⟩ => ⟨b, h2, blk_below h h3 (lt_blk h3)⟩)) ?_
                      iterate 9 (refine rg_step fun K hK => ?_; apply rg_fn rfl; (intro w4 hw; obtain ⟨q0, q1, q2⟩ := HQA.out w4 hw.undrew; go_simp; try rfl); go_simp; (try with_reducible refine hK _ _ ?_); try clear hK K)
                      refine rg_step fun K hK => ?_
                      apply rg_any rfl
                      · intro w4 hw
                        refine ⟨.slice (some ⟨w4.heap.size, 0, none⟩) 1 1, w4.alloc (.cells #[.int .i64 a, .int .i64 b, .bool false] 67), ?_, below1 _ _, trivial, ⟨_, rfl, heap_alloc_self _ _⟩⟩
                        go_simp
                        try rfl
                      rintro v10 _
                      go_simp
                      (try with_reducible refine hK _ _ ?_)
                      try clear hK K
                      refine rg_nil ?_
                      rintro w12 hw12 ⟨b9, rfl, hblk⟩
                      replace hblk : w12.heap[b9]? = some (.cells #[.int .i64 a, .int .i64 b, .bool false] 67 (0, 0)) := hblk
                      replace hw12 := hw12.undrew
                      have hat12 := HAT.out.later hw12
                      have HAT12 := Lib.hid hat12
                      have hcl : m.crafts.length ≤ 100000 := by have := HI.out.few; have := HGO2.out.2.1; omega
                      have HW12 := Lib.hid hw12
                      clear hat12 hw12
                      simp only [List.drop_succ_cons, List.drop_zero]
                      refine wpListIn_app2 (w.heap.size + 7) _ _ 23 67 (.agg #[.int .i64 0, .int .i64 0, .bool false]) 3 24 [.int .i64 a, .int .i64 b, .bool false] (by rfl) (by rfl) Tryz.underlying23 infoCraftS rfl (by decide) (by decide) (.slice cA m.crafts.length cc) m.crafts.length (cellsC m.crafts) (by rfl) b9 (by rfl) hblk rfl (by simp [Value.oneCell']) HAT12.out.own (by omega) HAT12.out.big ?_
                      intro v8 w8 hown8 hg8 hat8 hb8
                      obtain ⟨A8, n8, c8, rfl⟩ := own_slice hown8
                      obtain ⟨k8, hat9, hk9, hz9⟩ := HAT12.out.craft (c := ⟨a, b, false⟩) hown8 hg8 hb8
                      obtain ⟨r0, r1, r2, r3, r4⟩ := blk5 k8
                      have fr8 := frozen_blk k8
                      have hfin := hat9.fin (R := R) (s := s) (r := r) (W := W) HGOOD.out HGO2.out.2.1 HGO2.out.2.2.1 (by have := HI.out.few; simp only [List.length_append, List.length_singleton]; omega) HI.out.takes (by have := HS6.out.2; have := HW12.out.size; omega) (fun j hj => by
                        have hbg := HI.out.big
                        have := HS6.out.2
                        exact ((hk9 j (by omega) (by omega)).trans (HW12.out.block j (by omega))).trans (HS6.out.1 j (by omega) (by omega)))
                      have HFIN := Lib.hid hfin
                      clear hown8 hg8 hat8 hb8 k8 hat9 hk9 hz9 hfin hblk
                      gi_wp2_with fail
                      exact HFIN.out
                    · have h2b : ((xs.length : Int) == 2) = false := by rw [beq_eq_false_iff_ne]; omega
                      have H2n := Lib.hid h2
                      clear h2
                      have hl : lineN (k == 0) m b0.data.toList xs = none := by
                        unfold lineN
                        rw [HK0.out.2, HAW.out]
                        have e1 : (xs.length == 2) = false := by simp [H2n.out]
                        rw [e1]
                        rfl
                      have HL0 := Lib.hid hl
                      clear hl
                      obtain ⟨hs1, hs2, hs3, hs4⟩ := HS.out w6 HM6.out
                      have hbg := HI.out.big
                      have hset := setRes_set (v0 := .slice none 0 0) (v1 := .slice none 0 0) (x := 0) (y := 0) (z := 0) (k := (k : Int) + 1) (e := 4) ((hs1 _ (by omega) (by omega)).trans HI.out.box) ((hs1 _ (by omega) (by omega)).trans HI.out.line) ((hs1 _ (by omega) (by omega)).trans HI.out.err)
                      obtain ⟨x0, x1, x2, x3, x4⟩ := blk5 ((hs1 _ (by omega) (by omega)).trans HI.out.box)
                      have fx := frozen_blk ((hs1 _ (by omega) (by omega)).trans HI.out.box)
                      have l0 : w6.cell? ⟨w.heap.size + 1, 0, none⟩ = some (.int .i64 0) := by rw [cell_blk ((hs1 _ (by omega) (by omega)).trans HI.out.line)]; rfl
                      have fl := frozen_blk ((hs1 _ (by omega) (by omega)).trans HI.out.line) 0
                      have e0 : w6.cell? ⟨w.heap.size + 2, 0, none⟩ = some (.int .i64 0) := by rw [cell_blk ((hs1 _ (by omega) (by omega)).trans HI.out.err)]; rfl
                      have fe := frozen_blk ((hs1 _ (by omega) (by omega)).trans HI.out.err) 0
                      have c3 : w6.cell? ⟨w.heap.size + 3, 0, none⟩ = some (.int .i64 ((k : Int) + 1)) := by rw [cell_blk hs2]; rfl
                      have HEND := Lib.hid (pa_bad_end hs1 (HRB.out HL0.out) hset hs3 hs4 hbg)
                      clear hset hs1 hs2 hs3 hs4
                      gi_wp2_with fail
                      gi_region
                      all_goals
                        gi_wp2_with fail
                        exact HEND.out
                  · have hAb : (b0.data.toList == [97, 100, 100]) = false := by rw [beq_eq_false_iff_ne]; exact hA
                    clear hA
                    by_cases hT : b0.data.toList = bStrip
                    · have hTb : (b0.data.toList == [115, 116, 114, 105, 112]) = true := by rw [hT]; rfl
                      have HTW := Lib.hid hT
                      clear hT
                      by_cases h1 : xs.length = 1
                      · have h1b : ((xs.length : Int) == 1) = true := by simp [h1]
                        obtain ⟨a, rfl⟩ : ∃ a, xs = [a] := by
                          match xs, h1 with
                          | [a], _ => exact ⟨a, rfl⟩
                        have hl : lineN (k == 0) m b0.data.toList [a] = some { m with crafts := m.crafts ++ [⟨0, a, true⟩] } := by
                          unfold lineN
                          rw [HK0.out.2, HTW.out]
                          rfl
                        have HGOOD := Lib.hid (HRG.out _ hl)
                        have ho6 := HO6.out
                        obtain ⟨g, cap, e, hgB, hgl⟩ := ho6.form (by simp)
                        simp only [Value.slice.injEq] at e
                        obtain ⟨rfl, _, _⟩ := e
                        have n0 := own_cells ho6 0 _ rfl
                        have hq : ∀ w4, Below w6.heap.size w6 w4 → w4.cell? ⟨w.heap.size, 1, none⟩ = some (.slice cA m.crafts.length cc) ∧ w4.cell? ⟨g, 0, none⟩ = some (.int .i64 a) := fun w4 hw =>
                          ⟨(hw.cell (p := ⟨w.heap.size, 1, none⟩) (lt_blk HAT.out.box)).trans hx1, (hw.cell (p := ⟨g, 0, none⟩) hgl).trans n0⟩
                        have HQA := Lib.hid hq
                        clear hl ho6 hq n0 hx1 h1
                        gi_wp2_with fail
                        refine wpIn_region_rg_tail 7 Grows (fun | 6 => .any anyV (fun l v w4 => ∃ b, v = .slice (some ⟨b, 0, none⟩) 1 1 ∧ w4.heap[b]? = some (.cells (aggOf l) 67 (0, 0))) | _ => .fn) (by kernel_rfl) (fun _ => trivial) (by kernel_rfl) Grows.refl growsT
                          (by intro i; split <;> first | trivial | exact (fun l v w1 w2 h ⟨b, h2, h3⟩ => ⟨b, h2, blk_below h h3 (lt_blk h3)⟩)) ?_
                        iterate 6 (refine rg_step fun K hK => ?_; apply rg_fn rfl; (intro w4 hw; obtain ⟨q0, q1⟩ := HQA.out w4 hw.undrew; go_simp; try rfl); go_simp; (try with_reducible refine hK _ _ ?_); try clear hK K)
                        refine rg_step fun K hK => ?_
                        apply rg_any rfl
                        · intro w4 hw
                          refine ⟨.slice (some ⟨w4.heap.size, 0, none⟩) 1 1, w4.alloc (.cells #[.int .i64 0, .int .i64 a, .bool true] 67), ?_, below1 _ _, trivial, ⟨_, rfl, heap_alloc_self _ _⟩⟩
                          go_simp
                          try rfl
                        rintro v10 _
                        go_simp
                        (try with_reducible refine hK _ _ ?_)
                        try clear hK K
                        refine rg_nil ?_
                        rintro w12 hw12 ⟨b9, rfl, hblk⟩
                        replace hblk : w12.heap[b9]? = some (.cells #[.int .i64 0, .int .i64 a, .bool true] 67 (0, 0)) := hblk
                        replace hw12 := hw12.undrew
                        have hat12 := HAT.out.later hw12
                        have HAT12 := Lib.hid hat12
                        have hcl : m.crafts.length ≤ 100000 := by have := HI.out.few; have := HGO2.out.2.1; omega
                        have HW12 := Lib.hid hw12
                        clear hat12 hw12
                        simp only [List.drop_succ_cons, List.drop_zero]
                        refine wpListIn_app2 (w.heap.size + 7) _ _ 23 67 (.agg #[.int .i64 0, .int .i64 0, .bool false]) 3 24 [.int .i64 0, .int .i64 a, .bool true] (by rfl) (by rfl) Tryz.underlying23 infoCraftS rfl (by decide) (by decide) (.slice cA m.crafts.length cc) m.crafts.length (cellsC m.crafts) (by rfl) b9 (by rfl) hblk rfl (by simp [Value.oneCell']) HAT12.out.own (by omega) HAT12.out.big ?_
                        intro v8 w8 hown8 hg8 hat8 hb8
                        obtain ⟨A8, n8, c8, rfl⟩ := own_slice hown8
                        obtain ⟨k8, hat9, hk9, hz9⟩ := HAT12.out.craft (c := ⟨0, a, true⟩) hown8 hg8 hb8
                        obtain ⟨r0, r1, r2, r3, r4⟩ := blk5 k8
                        have fr8 := frozen_blk k8
                        have hfin := hat9.fin (R := R) (s := s) (r := r) (W := W) HGOOD.out HGO2.out.2.1 HGO2.out.2.2.1 (by have := HI.out.few; simp only [List.length_append, List.length_singleton]; omega) HI.out.takes (by have := HS6.out.2; have := HW12.out.size; omega) (fun j hj => by
                          have hbg := HI.out.big
                          have := HS6.out.2
                          exact ((hk9 j (by omega) (by omega)).trans (HW12.out.block j (by omega))).trans (HS6.out.1 j (by omega) (by omega)))
                        have HFIN := Lib.hid hfin
                        clear hown8 hg8 hat8 hb8 k8 hat9 hk9 hz9 hfin hblk
                        gi_wp2_with fail
                        exact HFIN.out
                      · have h1b : ((xs.length : Int) == 1) = false := by rw [beq_eq_false_iff_ne]; omega
                        have H1n := Lib.hid h1
                        clear h1
                        have hl : lineN (k == 0) m b0.data.toList xs = none := by
                          unfold lineN
                          rw [HK0.out.2, HTW.out]
                          have e1 : (xs.length == 1) = false := by simp [H1n.out]
                          rw [e1]
                          rfl
                        have HL0 := Lib.hid hl
                        clear hl
                        obtain ⟨hs1, hs2, hs3, hs4⟩ := HS.out w6 HM6.out
                        have hbg := HI.out.big
                        have hset := setRes_set (v0 := .slice none 0 0) (v1 := .slice none 0 0) (x := 0) (y := 0) (z := 0) (k := (k : Int) + 1) (e := 4) ((hs1 _ (by omega) (by omega)).trans HI.out.box) ((hs1 _ (by omega) (by omega)).trans HI.out.line) ((hs1 _ (by omega) (by omega)).trans HI.out.err)
                        obtain ⟨x0, x1, x2, x3, x4⟩ := blk5 ((hs1 _ (by omega) (by omega)).trans HI.out.box)
                        have fx := frozen_blk ((hs1 _ (by omega) (by omega)).trans HI.out.box)
                        have l0 : w6.cell? ⟨w.heap.size + 1, 0, none⟩ = some (.int .i64 0) := by rw [cell_blk ((hs1 _ (by omega) (by omega)).trans HI.out.line)]; rfl
                        have fl := frozen_blk ((hs1 _ (by omega) (by omega)).trans HI.out.line) 0
                        have e0 : w6.cell? ⟨w.heap.size + 2, 0, none⟩ = some (.int .i64 0) := by rw [cell_blk ((hs1 _ (by omega) (by omega)).trans HI.out.err)]; rfl
                        have fe := frozen_blk ((hs1 _ (by omega) (by omega)).trans HI.out.err) 0
                        have c3 : w6.cell? ⟨w.heap.size + 3, 0, none⟩ = some (.int .i64 ((k : Int) + 1)) := by rw [cell_blk hs2]; rfl
                        have HEND := Lib.hid (pa_bad_end hs1 (HRB.out HL0.out) hset hs3 hs4 hbg)
                        clear hset hs1 hs2 hs3 hs4
                        gi_wp2_with fail
                        gi_region
                        all_goals
                          gi_wp2_with fail
                          exact HEND.out
                    · have hTb : (b0.data.toList == [115, 116, 114, 105, 112]) = false := by rw [beq_eq_false_iff_ne]; exact hT
                      clear hT
                      have hl : lineN (k == 0) m b0.data.toList xs = none := by
                        unfold lineN
                        rw [HK0.out.2, show (b0.data.toList == bWorks) = false from hWb, show (b0.data.toList == bSlope) = false from hSb, show (b0.data.toList == bAdd) = false from hAb, show (b0.data.toList == bStrip) = false from hTb]
                        rfl
                      have HL0 := Lib.hid hl
                      clear hl
                      obtain ⟨hs1, hs2, hs3, hs4⟩ := HS.out w6 HM6.out
                      have hbg := HI.out.big
                      have hset := setRes_set (v0 := .slice none 0 0) (v1 := .slice none 0 0) (x := 0) (y := 0) (z := 0) (k := (k : Int) + 1) (e := 4) ((hs1 _ (by omega) (by omega)).trans HI.out.box) ((hs1 _ (by omega) (by omega)).trans HI.out.line) ((hs1 _ (by omega) (by omega)).trans HI.out.err)
                      obtain ⟨x0, x1, x2, x3, x4⟩ := blk5 ((hs1 _ (by omega) (by omega)).trans HI.out.box)
                      have fx := frozen_blk ((hs1 _ (by omega) (by omega)).trans HI.out.box)
                      have l0 : w6.cell? ⟨w.heap.size + 1, 0, none⟩ = some (.int .i64 0) := by rw [cell_blk ((hs1 _ (by omega) (by omega)).trans HI.out.line)]; rfl
                      have fl := frozen_blk ((hs1 _ (by omega) (by omega)).trans HI.out.line) 0
                      have e0 : w6.cell? ⟨w.heap.size + 2, 0, none⟩ = some (.int .i64 0) := by rw [cell_blk ((hs1 _ (by omega) (by omega)).trans HI.out.err)]; rfl
                      have fe := frozen_blk ((hs1 _ (by omega) (by omega)).trans HI.out.err) 0
                      have c3 : w6.cell? ⟨w.heap.size + 3, 0, none⟩ = some (.int .i64 ((k : Int) + 1)) := by rw [cell_blk hs2]; rfl
                      have HEND := Lib.hid (pa_bad_end hs1 (HRB.out HL0.out) hset hs3 hs4 hbg)
                      clear hset hs1 hs2 hs3 hs4
                      gi_wp2_with fail
                      gi_region
                      all_goals
                        gi_wp2_with fail
                        exact HEND.out
    case done =>
      rintro W ⟨k, m, v, cr, hi⟩ hk
      rw [HL.out.2.2] at hk
      obtain ⟨hgo, hcount, hbox, hline, herr, hcnt, hsl, hown, hfew, htakes, hbelow, hbigW⟩ := id hi
      have hRv : R = (k, some m) := hgo.symm
      obtain ⟨vA, vn, vc, rfl⟩ : ∃ A n c, v = .slice A n c := by
        obtain ⟨_, _, h4, _⟩ := hsl
        exact own_slice h4
      obtain ⟨cA, cn, cc, rfl⟩ := own_slice hown
      have hps : parseS s.data.toList = if k = 0 then (wk0, 0, 4) else if checkS m = 0 then (m, 0, 0) else (wk0, 0, checkS m) := by
        unfold parseS
        have hl : s.data.toList.length = s.size := by simp
        rw [if_neg (by omega), ← HR.out, hRv]
      have HPS := Lib.hid hps
      have HI := Lib.hid hi
      have HK := Lib.hid hk
      obtain ⟨x0, x1, x2, x3, x4⟩ := blk5 hbox
      have fx := frozen_blk hbox
      have l0 : W.cell? ⟨w.heap.size + 1, 0, none⟩ = some (.int .i64 0) := by rw [cell_blk hline]; rfl
      have fl := frozen_blk hline 0
      have e0 : W.cell? ⟨w.heap.size + 2, 0, none⟩ = some (.int .i64 0) := by rw [cell_blk herr]; rfl
      have fe := frozen_blk herr 0
      have k0 : W.cell? ⟨w.heap.size + 3, 0, none⟩ = some (.int .i64 (k : Int)) := by rw [cell_blk hcnt]; rfl
      have hs0 : SlopesAt W W.heap.size (.slice vA vn vc) m.slopes := own_slopesQ hsl (by omega) (fun x hx => by have := htakes x hx; omega)
      have hc0 : CraftsAt W W.heap.size (.slice cA cn cc) m.crafts := own_craftsAt hown (by omega)
      have HSC := Lib.hid (And.intro hs0 hc0)
      clear hi hk hps hgo hRv hbox hline herr hcnt hsl hown hfew htakes hbelow hs0 hc0
      by_cases hk0 : k = 0
      · subst hk0
        rw [if_pos rfl] at HPS
        have hset := setRes_set (v0 := .slice none 0 0) (v1 := .slice none 0 0) (x := 0) (y := 0) (z := 0) (k := 0) (e := 4) HI.out.box HI.out.line HI.out.err
        have HSET := Lib.hid hset
        clear hset
        gi_wp2_with fail
        refine bodyPostM_ret (b := w.heap.size + 5) (hi := w.heap.size + 6) ⟨w.heap.size + 5, by omega, by rw [HL.out.2.2], (HSET.out.same _ (.inr (by omega))).trans HK.out, Nat.le_refl _⟩ fun w' hw' => ?_
        have hW : w.heap.size + 5 ≤ (setRes W w.heap.size (.slice none 0 0) (.slice none 0 0) 0 0 0 0 4).heap.size := by have := HI.out.big; have := HSET.out.below.size; omega
        exact parse_bad rfl rfl rfl HPS.out hw' (by omega) hW HSET.out.box HSET.out.line HSET.out.err (HI.out.below.trans HSET.out.below)
      · have hk1 : ((k : Int) == 0) = false := by simp; omega
        rw [if_neg hk0] at HPS
        gi_wp2_with fail
        refine (callsIn_wide.2 (check_calls m _ _ W HSC.out.1 HSC.out.2)).mono ?_
        rintro e W2 ⟨rfl, hb2⟩
        have HI2 := Lib.hid (HI.out.same ⟨hb2.size, fun j hj _ => hb2.block j hj, hb2.os, hb2.tape, hb2.output⟩ (hb2.block _ (by have := HI.out.big; omega)))
        have HK2 := Lib.hid (blk_below hb2 HK.out (lt_blk HK.out))
        have HSC2 := Lib.hid (And.intro ((HSC.out.1.below hb2).mono hb2.size) ((HSC.out.2.below hb2).mono hb2.size))
        clear hb2 x0 x1 x2 x3 x4 fx l0 fl e0 fe k0
        obtain ⟨x0, x1, x2, x3, x4⟩ := blk5 HI2.out.box
        have fx := frozen_blk HI2.out.box
        have l0 : W2.cell? ⟨w.heap.size + 1, 0, none⟩ = some (.int .i64 0) := by rw [cell_blk HI2.out.line]; rfl
        have fl := frozen_blk HI2.out.line 0
        have e0 : W2.cell? ⟨w.heap.size + 2, 0, none⟩ = some (.int .i64 0) := by rw [cell_blk HI2.out.err]; rfl
        have fe := frozen_blk HI2.out.err 0
        by_cases hck : checkS m = 0
        · rw [if_pos hck] at HPS
          have hc0 : (checkS m != 0) = false := by simp [hck]
          have hset := setRes_set (v0 := .slice vA vn vc) (v1 := .slice cA cn cc) (x := m.years) (y := m.visit) (z := m.hands) (k := 0) (e := 0) HI2.out.box HI2.out.line HI2.out.err
          have HSET := Lib.hid hset
          clear hset
          generalize checkS m = ce at *
          have hc1 : (!(ce == 0)) = false := by simp [hck]
          gi_wp2_with fail
          refine bodyPostM_ret (b := w.heap.size + 5) (hi := w.heap.size + 6) ⟨w.heap.size + 5, by omega, by rw [HL.out.2.2], (HSET.out.same _ (.inr (by omega))).trans HK2.out, Nat.le_refl _⟩ fun w' hw' => ?_
          have hW : w.heap.size + 5 ≤ (setRes W2 w.heap.size (.slice vA vn vc) (.slice cA cn cc) m.years m.visit m.hands 0 0).heap.size := by have := HI2.out.big; have := HSET.out.below.size; omega
          have hbt := hw'.below (n := w.heap.size) (by omega) hW
          refine ⟨_, results_parse rfl rfl rfl (hw'.cells HSET.out.box) rfl (hw'.cells HSET.out.line) (hw'.cells HSET.out.err), .slice vA vn vc, .slice cA cn cc, by rw [HPS.out], ?_, ?_, (HI2.out.below.trans HSET.out.below).trans hbt⟩
          · rw [HPS.out]
            show SlopesAt _ _ _ m.slopes
            refine own_slopesQ ((HI2.out.sl.kept (fun b cs t hB hk _ => (HSET.out.same b (.inr (by omega))))).kept (fun b cs t hB hk _ => (hw'.cells hk).trans hk.symm)) (by have := HI2.out.few; have := HI2.out.count; omega) (fun x hx => by have := HI2.out.takes x hx; omega)
          · rw [HPS.out]
            show CraftsAt _ _ _ m.crafts
            have h1 := own_kept HI2.out.own (w' := setRes W2 w.heap.size (.slice vA vn vc) (.slice cA cn cc) m.years m.visit m.hands 0 0) (fun b hb => HSET.out.same b (.inr (by have := (own_blk_lt HI2.out.own b hb).1; omega)))
            refine own_craftsAt (own_kept h1 (fun b hb => ?_)) (by have := HI2.out.few; have := HI2.out.count; omega)
            obtain ⟨cur, hcur⟩ := own_type h1 b hb
            exact (hw'.cells hcur).trans hcur.symm
        · rw [if_neg hck] at HPS
          have hset := setRes_set (v0 := .slice none 0 0) (v1 := .slice none 0 0) (x := 0) (y := 0) (z := 0) (k := 0) (e := checkS m) HI2.out.box HI2.out.line HI2.out.err
          have HSET := Lib.hid hset
          clear hset
          generalize checkS m = ce at *
          have hc0 : (ce != 0) = true := by simp [hck]
          have hc1 : (!(ce == 0)) = true := by simp [hck]
          gi_wp2_with fail
          refine bodyPostM_ret (b := w.heap.size + 5) (hi := w.heap.size + 6) ⟨w.heap.size + 5, by omega, by rw [HL.out.2.2], (HSET.out.same _ (.inr (by omega))).trans HK2.out, Nat.le_refl _⟩ fun w' hw' => ?_
          have hW : w.heap.size + 5 ≤ (setRes W2 w.heap.size (.slice none 0 0) (.slice none 0 0) 0 0 0 0 ce).heap.size := by have := HI2.out.big; have := HSET.out.below.size; omega
          exact parse_bad rfl rfl rfl HPS.out hw' (by omega) hW HSET.out.box HSET.out.line HSET.out.err (HI2.out.below.trans HSET.out.below)
    case stop =>
      rintro c W ⟨rfl, hx⟩ hk
      rw [HL.out.2.2] at hk
      have hRv : R = (R.1, none) := by rw [← hx.bad]
      have hps : parseS s.data.toList = (wk0, (R.1 : Int), 4) := by
        unfold parseS
        have hl : s.data.toList.length = s.size := by simp
        rw [if_neg (by omega), ← HR.out, hRv]
      gi_wp2_with fail
      refine bodyPostM_ret (b := w.heap.size + 5) (hi := w.heap.size + 6) ⟨w.heap.size + 5, by omega, by rw [HL.out.2.2], hk, Nat.le_refl _⟩ fun w' hw' => ?_
      exact parse_bad rfl rfl rfl hps hw' (by omega) (by have := hx.big; omega) hx.box hx.line hx.err hx.below
end Go.Proofs.YtcbhldfipfcjaaaGreatDoor
