/- Roofs: Check. -/
import Derived.Test.YtnbnhcoaggpmaaaJm

namespace Go.Proofs.Ytnbnhcoaggpmaaa
open Go Go.RowKit Go.Shelf
set_option maxRecDepth 100000
attribute [local go_sem] Oper.semAt_some

set_option maxHeartbeats 16000000 in
theorem roofCheck_calls (fv ov : Value) (fs : List FaceS) (os : List OpenS) (w : World) (hf : FacesAt w w.heap.size fv fs) (ho : OpensAt w w.heap.size ov os) : Calls Try.prog 5 #[.agg #[fv, ov]] w (CheckP fs w) := by
  obtain ⟨F, fc, rfl, hfmax, hfcap, _⟩ := id hf
  obtain ⟨O, oc, rfl, homax, hocap, _⟩ := id ho
  refine (callsIn_wide (n := 10)).1 ?_
  have hFw : ∀ f, Fence.wide.fn f := fun _ => trivial
  have HA := Lib.hid (And.intro hf ho)
  clear hf ho
  refine callsIn_of_wp_marks Try.func5 rfl trivial ?_ rfl
  simp only [Try.ntmps5, List.size_toArray, List.length_cons, List.length_nil, Nat.reduceAdd, Nat.reduceSub, Array.replicate_succ, Array.replicate_zero, List.push_toArray, List.append_toArray, List.nil_append, List.cons_append]
  obtain ⟨W0, hW0⟩ : ∃ W0, W0 = (w.alloc (.cells #[.slice F fs.length fc, .slice O os.length oc] 25)).alloc (.cells #[.int .i64 0] 32) := ⟨_, rfl⟩
  have H0 := Lib.hid (chk_boxes w (.slice F fs.length fc) (.slice O os.length oc) 0).1
  have HEND : ∀ (W : World) (n : Int), Chk w (.slice F fs.length fc) (.slice O os.length oc) W → W.heap[w.heap.size + 1]? = some (.cells #[.int .i64 n] 32 (0, 0)) → (n = 0 → ∀ (i : Nat) (hi : i < fs.length), RunOk fs[i]) →
      ∀ tmps : Array Value, tmps.getD 2 undef = .pointer (some ⟨w.heap.size + 1, 0, none⟩) → ∀ w', Taken (w.heap.size + 2) W w' → ∃ v, (results Try.f5 tmps).run Try.prog w' = .ok v w' ∧ CheckP fs w (.returned v) w' := fun W n hI hr hok tmps ht w' hw' =>
    ⟨_, results_err (by rfl) ht (hw'.cells hr), n, rfl, hok, hI.below.trans (hw'.below (by omega) hI.big)⟩
  have HEND := Lib.hid HEND
  obtain ⟨⟨a0, a1⟩, ⟨a2, a3⟩, a4⟩ := Chk.cells H0.out
  by_cases h16 : (fs.length : Int) > 16
  · gi_wp2_with fail
    obtain ⟨s1, s2⟩ := chk_boxes w (.slice F fs.length fc) (.slice O os.length oc) 3
    exact bodyPostM_ret (b := w.heap.size + 2) (hi := w.heap.size + 2) (ds := []) (Nat.le_refl _) (HEND.out _ 3 s1 s2 (fun h => absurd h (by decide)) _ rfl)
  · gi_wp2_with fail
    rw [← hW0] at H0 ⊢
    clear a0 a1 a2 a3 a4 hW0
    gi_loopw [26] (fun iv wr => ∃ i : Nat, i ≤ fs.length ∧ iv = .int .i64 (i : Int) ∧ Hid (Chk w (.slice F fs.length fc) (.slice O os.length oc) wr ∧ ∀ (k : Nat) (hk : k < fs.length), k < i → RunOk fs[k])) (fun iv _ => fs.length - (intOf iv).toNat)
    case atStart => exact ⟨0, Nat.zero_le _, rfl, Lib.hid ⟨H0.out, fun k hk h => by omega⟩⟩
    case round =>
      obtain ⟨i, hi, rfl, HL⟩ := hrel
      obtain ⟨vr, rfl⟩ : ∃ vr, vr = wr := ⟨_, rfl⟩
      obtain ⟨⟨a0, a1⟩, ⟨a2, a3⟩, a4⟩ := Chk.cells HL.out.1
      by_cases hil : i < fs.length
      · have hii : (i : Int) < (fs.length : Int) := by omega
        have hi0 : (0 : Int) ≤ (i : Int) := by omega
        have hiadd : IntKind.i64.wrap ((i : Int) + 1) = (i : Int) + 1 := IntWalk.i64_in _ (by omega)
        gi_wp2_with fail
        refine (callsIn_wide.2 (checkFace_calls _ fs i hil vr ((HA.out.1.below HL.out.1.below).mono HL.out.1.below.size))).mono ?_
        rintro e W1 ⟨n, rfl, hok, hb1⟩
        have HL1 := Lib.hid (Chk.later HL.out.1 hb1)
        have HOK := Lib.hid hok
        clear hok hb1 a0 a1 a2 a3 a4
        obtain ⟨⟨a0, a1⟩, ⟨a2, a3⟩, a4⟩ := Chk.cells HL1.out
        by_cases hn : n = 0
        · have hn1 : (n != 0) = false := by simp [hn]
          have HN := Lib.hid (⟨HL1.out, fun k hk hki => by
            rcases Nat.lt_or_ge k i with h | h
            · exact HL.out.2 k hk h
            · obtain rfl : k = i := by omega
              exact HOK.out hn⟩ : Chk w (.slice F fs.length fc) (.slice O os.length oc) W1 ∧ ∀ (k : Nat) (hk : k < fs.length), k < i + 1 → RunOk fs[k])
          clear hn
          gi_wp2_with fail
          go_round
          case rel => exact ⟨i + 1, by omega, by go_num, HN⟩
          case measure => simp [intOf]; omega
        · have hn1 : (n != 0) = true := by simp [hn]
          obtain ⟨s1, s2, _, _⟩ := Chk.set HL1.out n
          have HS := Lib.hid (HEND.out _ n s1 s2 (fun h => absurd h hn))
          clear hn s1 s2
          gi_wp2_with fail
          exact bodyPostM_ret (b := w.heap.size + 2) (hi := w.heap.size + 2) (ds := []) (Nat.le_refl _) (HS.out _ rfl)
      · have hii : ¬ (i : Int) < (fs.length : Int) := by omega
        have hall : ∀ (k : Nat) (hk : k < fs.length), RunOk fs[k] := fun k hk => HL.out.2 k hk (by omega)
        have HALL := Lib.hid hall
        have HL1 := Lib.hid HL.out.1
        clear hall HL
        by_cases h12 : (os.length : Int) > 12
        · obtain ⟨s1, s2, _, _⟩ := Chk.set HL1.out 3
          have HS := Lib.hid (HEND.out _ 3 s1 s2 (fun h => absurd h (by decide)))
          clear s1 s2
          gi_wp2_with fail
          exact bodyPostM_ret (b := w.heap.size + 2) (hi := w.heap.size + 2) (ds := []) (Nat.le_refl _) (HS.out _ rfl)
        · gi_wp2_with fail
          gi_loopw [44] (fun iv wr => ∃ i : Nat, i ≤ os.length ∧ iv = .int .i64 (i : Int) ∧ Hid (Chk w (.slice F fs.length fc) (.slice O os.length oc) wr)) (fun iv _ => os.length - (intOf iv).toNat)
          case atStart => exact ⟨0, Nat.zero_le _, rfl, HL1⟩
          case round =>
            clear a0 a1 a2 a3 a4
            obtain ⟨j, hj, rfl, HLB⟩ := hrel
            obtain ⟨vb, rfl⟩ : ∃ vb, vb = wr := ⟨_, rfl⟩
            obtain ⟨⟨a0, a1⟩, ⟨a2, a3⟩, a4⟩ := Chk.cells HLB.out
            by_cases hjl : j < os.length
            · have hji : (j : Int) < (os.length : Int) := by omega
              have hj0 : (0 : Int) ≤ (j : Int) := by omega
              have hjadd : IntKind.i64.wrap ((j : Int) + 1) = (j : Int) + 1 := IntWalk.i64_in _ (by omega)
              gi_wp2_with fail
              refine (callsIn_wide.2 (checkOpen_calls _ _ fs os j hjl vb ((HA.out.1.below HLB.out.below).mono HLB.out.below.size) ((HA.out.2.below HLB.out.below).mono HLB.out.below.size))).mono ?_
              rintro e W1 ⟨⟨n, rfl⟩, hb1⟩
              have HB1 := Lib.hid (Chk.later HLB.out hb1)
              clear hb1 a0 a1 a2 a3 a4
              obtain ⟨⟨a0, a1⟩, ⟨a2, a3⟩, a4⟩ := Chk.cells HB1.out
              by_cases hn : n = 0
              · have hn1 : (n != 0) = false := by simp [hn]
                clear hn
                gi_wp2_with fail
                go_round
                case rel => exact ⟨j + 1, by omega, by go_num, HB1⟩
                case measure => simp [intOf]; omega
              · have hn1 : (n != 0) = true := by simp [hn]
                obtain ⟨s1, s2, _, _⟩ := Chk.set HB1.out n
                have HS := Lib.hid (HEND.out _ n s1 s2 (fun h => absurd h hn))
                clear hn s1 s2
                gi_wp2_with fail
                exact bodyPostM_ret (b := w.heap.size + 2) (hi := w.heap.size + 2) (ds := []) (Nat.le_refl _) (HS.out _ rfl)
            · have hji : ¬ (j : Int) < (os.length : Int) := by omega
              gi_wp2_with fail
              gi_loopw [57] (fun iv wr => ∃ i : Nat, i ≤ fs.length ∧ iv = .int .i64 (i : Int) ∧ Hid (Chk w (.slice F fs.length fc) (.slice O os.length oc) wr)) (fun iv _ => fs.length - (intOf iv).toNat)
              case atStart => exact ⟨0, Nat.zero_le _, rfl, HLB⟩
              case round =>
                clear a0 a1 a2 a3 a4
                obtain ⟨p, hp, rfl, HLC⟩ := hrel
                obtain ⟨vc, rfl⟩ : ∃ vc, vc = wr := ⟨_, rfl⟩
                obtain ⟨⟨a0, a1⟩, ⟨a2, a3⟩, a4⟩ := Chk.cells HLC.out
                by_cases hpl : p < fs.length
                · have hpi : (p : Int) < (fs.length : Int) := by omega
                  have hp0 : (0 : Int) ≤ (p : Int) := by omega
                  have hpc : (p : Int) ≤ (fs.length : Int) := by omega
                  have hpcc : p ≤ fc := by omega
                  have hpadd : IntKind.i64.wrap ((p : Int) + 1) = (p : Int) + 1 := IntWalk.i64_in _ (by omega)
                  obtain ⟨fb, fo, cA, cc, rfl, hfb, ⟨k0, k1, k2, k3, k4, k5, k6⟩, hcv⟩ := face_at HA.out.1 HLC.out.below hpl
                  obtain ⟨V, hV⟩ : ∃ V, V = vc.alloc (.cells #[.string fs[p].name, .int .i64 fs[p].side, .int .i64 fs[p].foot, .int .i64 fs[p].base, .int .i64 fs[p].rise, .int .i64 fs[p].run, .slice cA fs[p].corners.length cc] 38) := ⟨_, rfl⟩
                  have hbV : Below vc.heap.size vc V := by rw [hV]; exact below1 _ _
                  have hgV : V.heap[vc.heap.size]? = some (faceO fs[p] (.slice cA fs[p].corners.length cc)) := by rw [hV]; exact heap_alloc_self _ _
                  have HV := Lib.hid (And.intro (Chk.later HLC.out hbV) (And.intro hgV hcv))
                  have u0 : ∀ ob, (vc.alloc ob).cell? ⟨w.heap.size, 0, none⟩ = some (.slice (some ⟨fb, fo, none⟩) fs.length fc) := fun ob => (Chk.cells (Chk.later HLC.out (below1 vc ob))).1.1
                  generalize fs[p] = fp at *
                  clear hbV hgV hcv
                  gi_wp2_with fail
                  rw [← hV]
                  clear hV u0 k0 k1 k2 k3 k4 k5 k6 a0 a1 a2 a3 a4
                  have hlow : w.heap.size + 2 ≤ vc.heap.size := HLC.out.big
                  gi_loopw [67] (fun iv wr => ∃ i : Nat, i ≤ p ∧ iv = .int .i64 (i : Int) ∧ Hid (Chk w (.slice (some ⟨fb, fo, none⟩) fs.length fc) (.slice O os.length oc) wr ∧ wr.heap[vc.heap.size]? = some (faceO fp (.slice cA fp.corners.length cc)))) (fun iv _ => p - (intOf iv).toNat)
                  case atStart => exact ⟨0, Nat.zero_le _, rfl, Lib.hid ⟨HV.out.1, HV.out.2.1⟩⟩
                  case round =>
                    obtain ⟨q, hq, rfl, HLQ⟩ := hrel
                    obtain ⟨vq, rfl⟩ : ∃ vq, vq = wr := ⟨_, rfl⟩
                    by_cases hql : q < p
                    · have hqi : (q : Int) < (p : Int) := by omega
                      have hq0 : (0 : Int) ≤ (q : Int) := by omega
                      have hqadd : IntKind.i64.wrap ((q : Int) + 1) = (q : Int) + 1 := IntWalk.i64_in _ (by omega)
                      obtain ⟨fb', fo', dA, dc, e, hfb', ⟨k0, k1, k2, k3, k4, k5, k6⟩, hdv⟩ := face_at HA.out.1 HLQ.out.1.below (i := q) (by omega)
                      simp only [Option.some.injEq, Addr.mk.injEq] at e
                      obtain ⟨rfl, rfl, _⟩ := e
                      obtain ⟨V2, hV2⟩ : ∃ V2, V2 = vq.alloc (.cells #[.string fs[q].name, .int .i64 fs[q].side, .int .i64 fs[q].foot, .int .i64 fs[q].base, .int .i64 fs[q].rise, .int .i64 fs[q].run, .slice dA fs[q].corners.length dc] 38) := ⟨_, rfl⟩
                      have hbV : Below vq.heap.size vq V2 := by rw [hV2]; exact below1 _ _
                      have hgV : V2.heap[vq.heap.size]? = some (faceO fs[q] (.slice dA fs[q].corners.length dc)) := by rw [hV2]; exact heap_alloc_self _ _
                      have h8 := blk_below hbV HLQ.out.2 (lt_blk HLQ.out.2)
                      have HV2 := Lib.hid (And.intro (Chk.later HLQ.out.1 hbV) (And.intro h8 (And.intro hgV hdv)))
                      generalize fs[q] = fq at *
                      have hcel : ∀ W, Below V2.heap.size V2 W → W.cell? ⟨vc.heap.size, 6, none⟩ = some (.slice cA fp.corners.length cc) ∧ W.cell? ⟨vq.heap.size, 6, none⟩ = some (.slice dA fq.corners.length dc) := fun W hW =>
                        ⟨(cell_blk (blk_below hW h8 (lt_blk h8)) 6).trans rfl, (cell_blk (blk_below hW hgV (lt_blk hgV)) 6).trans rfl⟩
                      have HCE := Lib.hid hcel
                      obtain ⟨b0, b1⟩ := hcel V2 (Below.refl _ _)
                      clear hbV hgV h8 hdv hcel
                      rw [hV2] at b0 b1
                      gi_wp2_with fail
                      rw [← hV2]
                      clear hV2 k0 k1 k2 k3 k4 k5 k6 b0 b1
                      have hats : ∀ W, Chk w (.slice (some ⟨fb, fo, none⟩) fs.length fc) (.slice O os.length oc) W → AtsAt W W.heap.size (.slice cA fp.corners.length cc) fp.corners ∧ AtsAt W W.heap.size (.slice dA fq.corners.length dc) fq.corners := fun W hW => ⟨(HV.out.2.2.below hW.below).mono hW.below.size, (HV2.out.2.2.2.below hW.below).mono hW.below.size⟩
                      have HATS := Lib.hid hats
                      clear hats
                      refine (callsIn_wide.2 (parted_calls _ _ fp.corners fq.corners V2 (HATS.out V2 HV2.out.1).1 (HATS.out V2 HV2.out.1).2)).mono ?_
                      rintro e W1 ⟨⟨q1, rfl⟩, hb1⟩
                      have HC1 := Lib.hid (And.intro (Chk.later HV2.out.1 hb1) (And.intro (blk_below hb1 HV2.out.2.1 (lt_blk HV2.out.2.1)) (hb1 : Below V2.heap.size V2 W1)))
                      clear hb1
                      obtain ⟨b0, b1⟩ := HCE.out W1 HC1.out.2.2
                      cases q1
                      · gi_wp2_with fail
                        clear b0 b1
                        refine (callsIn_wide.2 (parted_calls _ _ fq.corners fp.corners W1 (HATS.out W1 HC1.out.1).2 (HATS.out W1 HC1.out.1).1)).mono ?_
                        rintro e W2 ⟨⟨q2, rfl⟩, hb2⟩
                        have HC2 := Lib.hid (And.intro (Chk.later HC1.out.1 hb2) (blk_below hb2 HC1.out.2.1 (lt_blk HC1.out.2.1)))
                        clear hb2
                        cases q2
                        · obtain ⟨_, ⟨a2, a3⟩, a4⟩ := Chk.cells HC2.out.1
                          obtain ⟨s1, s2, _, _⟩ := Chk.set HC2.out.1 10
                          have HS := Lib.hid (HEND.out _ 10 s1 s2 (fun h => absurd h (by decide)))
                          clear s1 s2
                          gi_wp2_with fail
                          exact bodyPostM_ret (b := w.heap.size + 2) (hi := w.heap.size + 2) (ds := []) (Nat.le_refl _) (HS.out _ rfl)
                        · gi_wp2_with fail
                          go_round
                          case rel => exact ⟨q + 1, by omega, by go_num, HC2⟩
                          case measure => simp [intOf]; omega
                      · gi_wp2_with fail
                        go_round
                        case rel => exact ⟨q + 1, by omega, by go_num, Lib.hid ⟨HC1.out.1, HC1.out.2.1⟩⟩
                        case measure => simp [intOf]; omega
                    · have hqi : ¬ (q : Int) < (p : Int) := by omega
                      have HE := Lib.hid HLQ.out.1
                      gi_wp2_with fail
                      go_round
                      case rel => exact ⟨p + 1, by omega, by go_num, HE⟩
                      case measure => simp [intOf]; omega
                · have hpi : ¬ (p : Int) < (fs.length : Int) := by omega
                  gi_wp2_with fail
                  refine wpIn_loop_ghost (fun n a W => ∃ (p : Nat) (ds : List Deferred), Chk w (.slice F fs.length fc) (.slice O os.length oc) W ∧ Marks (w.heap.size + 2) W W.heap.size ds ∧ n = fs.length - p ∧ p ≤ fs.length ∧ Fits (fun u => { tmps := #[u 0, .pointer (some ⟨w.heap.size, 0, none⟩), .pointer (some ⟨w.heap.size + 1, 0, none⟩), u 3, u 4, u 5, u 6, u 7, u 8, u 9, u 10, u 11, u 12, u 13, u 14, u 15, u 16, u 17, u 18, u 19, u 20, u 21, u 22, u 23, u 24, u 25, u 26, u 27, u 28, u 29, u 30, u 31, u 32, u 33, u 34, u 35, u 36, u 37, u 38, u 39, u 40, u 41, u 42, u 43, u 44, u 45, u 46, u 47, u 48, u 49, u 50, u 51, u 52, u 53, u 54, u 55, u 56, u 57, u 58, u 59, u 60, u 61, u 62, u 63, u 64, u 65, u 66, u 67, u 68, u 69, u 70, u 71, u 72, u 73, u 74, u 75, u 76, u 77, u 78, u 79, u 80, u 81, u 82, u 83, u 84, u 85, u 86, u 87, .slice F fs.length fc, .int .i64 (fs.length : Int), .int .i64 (p : Int), u 91, u 92, u 93, u 94, u 95, u 96, u 97, u 98, u 99, u 100, u 101, u 102, u 103, u 104, u 105, u 106, u 107, u 108, u 109, u 110, u 111, u 112, u 113, u 114, u 115, u 116, u 117, u 118, u 119, u 120, u 121, u 122, u 123, u 124, u 125], defers := ds }) a) fs.length ?start ?round
                  case start => exact ⟨0, [], HLC.out, HLC.out.big, rfl, Nat.zero_le _, rfl⟩
                  case round =>
                    clear a0 a1 a2 a3 a4
                    rintro n a vd ⟨p, ds, hCD, hMD, rfl, hp, hfit⟩
                    obtain ⟨u, rfl⟩ := hfit.open_
                    clear hfit
                    dsimp only
                    have HCD := Lib.hid hCD
                    have HMD := Lib.hid hMD
                    clear hCD hMD
                    obtain ⟨vc, rfl⟩ : ∃ vc, vc = vd := ⟨_, rfl⟩
                    obtain ⟨⟨a0, a1⟩, ⟨a2, a3⟩, a4⟩ := Chk.cells HCD.out
                    by_cases hpl : p < fs.length
                    · have hpi : (p : Int) < (fs.length : Int) := by omega
                      have hp0 : (0 : Int) ≤ (p : Int) := by omega
                      have hpc : (p : Int) ≤ (fs.length : Int) := by omega
                      have hpcc : p ≤ fc := by omega
                      have hpadd : IntKind.i64.wrap ((p : Int) + 1) = (p : Int) + 1 := IntWalk.i64_in _ (by omega)
                      obtain ⟨fb, fo, cA, cc, rfl, hfb, ⟨k0, k1, k2, k3, k4, k5, k6⟩, hcv⟩ := face_at HA.out.1 HCD.out.below hpl
                      obtain ⟨V, hV⟩ : ∃ V, V = vc.alloc (.cells #[.string fs[p].name, .int .i64 fs[p].side, .int .i64 fs[p].foot, .int .i64 fs[p].base, .int .i64 fs[p].rise, .int .i64 fs[p].run, .slice cA fs[p].corners.length cc] 38) := ⟨_, rfl⟩
                      have hbV : Below vc.heap.size vc V := by rw [hV]; exact below1 _ _
                      have hgV : V.heap[vc.heap.size]? = some (faceO fs[p] (.slice cA fs[p].corners.length cc)) := by rw [hV]; exact heap_alloc_self _ _
                      have hMV := (HMD.out.below hbV (Nat.le_refl _)).mono hbV.size
                      have HV := Lib.hid (And.intro (Chk.later HCD.out hbV) (And.intro hgV (And.intro hcv hMV)))
                      have u0 : ∀ ob, (vc.alloc ob).cell? ⟨w.heap.size, 0, none⟩ = some (.slice (some ⟨fb, fo, none⟩) fs.length fc) := fun ob => (Chk.cells (Chk.later HCD.out (below1 vc ob))).1.1
                      generalize fs[p] = fp at *
                      clear hbV hgV hcv hMV
                      gi_wp2_with fail
                      rw [← hV]
                      clear hV u0 k0 k1 k2 k3 k4 k5 k6 a0 a1 a2 a3 a4
                      have hlow : w.heap.size + 2 ≤ vc.heap.size := HCD.out.big
                      refine wpIn_loop_ghost (fun n a W => ∃ (q : Nat) (ds : List Deferred), Chk w (.slice (some ⟨fb, fo, none⟩) fs.length fc) (.slice O os.length oc) W ∧ W.heap[vc.heap.size]? = some (faceO fp (.slice cA fp.corners.length cc)) ∧ Marks (w.heap.size + 2) W W.heap.size ds ∧ n = p - q ∧ q ≤ p ∧ Fits (fun u => { tmps := #[u 0, .pointer (some ⟨w.heap.size, 0, none⟩), .pointer (some ⟨w.heap.size + 1, 0, none⟩), u 3, u 4, u 5, u 6, u 7, u 8, u 9, u 10, u 11, .pointer (some ⟨vc.heap.size, 0, none⟩), u 13, u 14, u 15, u 16, u 17, u 18, u 19, u 20, u 21, u 22, u 23, u 24, u 25, u 26, u 27, u 28, u 29, u 30, u 31, u 32, u 33, u 34, u 35, u 36, u 37, u 38, u 39, u 40, u 41, u 42, u 43, u 44, u 45, u 46, u 47, u 48, u 49, u 50, u 51, u 52, u 53, u 54, u 55, u 56, u 57, u 58, u 59, u 60, u 61, u 62, u 63, u 64, u 65, u 66, u 67, u 68, u 69, u 70, u 71, u 72, u 73, u 74, u 75, u 76, u 77, u 78, u 79, u 80, u 81, u 82, u 83, u 84, u 85, u 86, u 87, .slice (some ⟨fb, fo, none⟩) fs.length fc, .int .i64 (fs.length : Int), .int .i64 (p : Int), u 91, u 92, u 93, u 94, u 95, u 96, u 97, .slice (some ⟨fb, fo, none⟩) p fc, .int .i64 (p : Int), .int .i64 (q : Int), u 101, u 102, u 103, u 104, u 105, u 106, u 107, u 108, u 109, u 110, u 111, u 112, u 113, u 114, u 115, u 116, u 117, u 118, u 119, u 120, u 121, u 122, u 123, u 124, u 125], defers := ds }) a) p ?start2 ?round2
                      case start2 => exact ⟨0, ds, HV.out.1, HV.out.2.1, HV.out.2.2.2, rfl, Nat.zero_le _, rfl⟩
                      case round2 =>
                        rintro n a vq ⟨q, ds2, hCQ, hFQ, hMQ, rfl, hq, hfit⟩
                        obtain ⟨u2, rfl⟩ := hfit.open_
                        clear hfit
                        dsimp only
                        have HLQ := Lib.hid (And.intro hCQ (And.intro hFQ hMQ))
                        clear hCQ hFQ hMQ
                        by_cases hql : q < p
                        · have hqi : (q : Int) < (p : Int) := by omega
                          have hq0 : (0 : Int) ≤ (q : Int) := by omega
                          have hqadd : IntKind.i64.wrap ((q : Int) + 1) = (q : Int) + 1 := IntWalk.i64_in _ (by omega)
                          obtain ⟨fb', fo', dA, dc, e, hfb', ⟨k0, k1, k2, k3, k4, k5, k6⟩, hdv⟩ := face_at HA.out.1 HLQ.out.1.below (i := q) (by omega)
                          simp only [Option.some.injEq, Addr.mk.injEq] at e
                          obtain ⟨rfl, rfl, _⟩ := e
                          obtain ⟨V2, hV2⟩ : ∃ V2, V2 = vq.alloc (.cells #[.string fs[q].name, .int .i64 fs[q].side, .int .i64 fs[q].foot, .int .i64 fs[q].base, .int .i64 fs[q].rise, .int .i64 fs[q].run, .slice dA fs[q].corners.length dc] 38) := ⟨_, rfl⟩
                          have hbV : Below vq.heap.size vq V2 := by rw [hV2]; exact below1 _ _
                          have hzV : V2.heap.size = vq.heap.size + 1 := by rw [hV2]; simp
                          have hgV : V2.heap[vq.heap.size]? = some (faceO fs[q] (.slice dA fs[q].corners.length dc)) := by rw [hV2]; exact heap_alloc_self _ _
                          have h8 := blk_below hbV HLQ.out.2.1 (lt_blk HLQ.out.2.1)
                          have hM2 := HLQ.out.2.2.below hbV (Nat.le_refl _)
                          have HV2 := Lib.hid (And.intro (Chk.later HLQ.out.1 hbV) (And.intro h8 (And.intro hgV (And.intro hdv (And.intro hM2 hzV)))))
                          generalize fs[q] = fq at *
                          have b0 : V2.cell? ⟨vc.heap.size, 6, none⟩ = some (.slice cA fp.corners.length cc) := (cell_blk h8 6).trans rfl
                          clear hbV hgV h8 hdv hM2 hzV
                          rw [hV2] at b0
                          gi_wp2_with fail
                          rw [← hV2]
                          clear hV2 k0 k1 k2 k3 k4 k5 k6 b0
                          have hats : ∀ W, Chk w (.slice (some ⟨fb, fo, none⟩) fs.length fc) (.slice O os.length oc) W → AtsAt W w.heap.size (.slice cA fp.corners.length cc) fp.corners ∧ AtsAt W w.heap.size (.slice dA fq.corners.length dc) fq.corners := fun W hW => ⟨HV.out.2.2.1.below hW.below, HV2.out.2.2.2.1.below hW.below⟩
                          have HATS := Lib.hid hats
                          clear hats
                          refine (callsIn_wide.2 (sides_calls cA fp.corners.length cc V2)).mono ?_
                          rintro e W1 ⟨rfl, hW1⟩
                          have hb1 : Below V2.heap.size V2 W1 := by rw [hW1]; exact below1 _ _
                          have gx : W1.heap[V2.heap.size]? = some (.cells #[.slice cA fp.corners.length cc] 36 (0, 0)) := by rw [hW1]; exact heap_alloc_self _ _
                          have hz1 : W1.heap.size = V2.heap.size + 1 := by rw [hW1]; simp
                          have hv2 := HV2.out.2.2.2.2.2
                          have HZ := Lib.hid (And.intro hv2 (And.intro hz1 HLQ.out.1.big))
                          have HW1 := Lib.hid (And.intro (Chk.later HV2.out.1 hb1) (And.intro gx (And.intro (blk_below hb1 HV2.out.2.1 (lt_blk HV2.out.2.1)) (And.intro (blk_below hb1 HV2.out.2.2.1 (lt_blk HV2.out.2.2.1)) (HV2.out.2.2.2.2.1.below hb1 (by omega))))))
                          clear hW1 hb1 gx hv2 hz1
                          have hvcq := lt_blk HLQ.out.2.1
                          gi_wp2_with fail
                          obtain ⟨hv2, hz1, hbq⟩ := HZ.out
                          refine wpIn_rangeSides cA fp.corners.length cc fp.corners V2.heap.size w.heap.size (d := 16) rfl (SameTo w (.slice (some ⟨fb, fo, none⟩) fs.length fc) (.slice O os.length oc) W1 W1.heap.size) (fun c' W' => c' = .ret ∧ SameTo w (.slice (some ⟨fb, fo, none⟩) fs.length fc) (.slice O os.length oc) W1 W1.heap.size W') ?hIa ?hI ?hIx ?h0 ?assign ?body ?done ?stop
                          case hIa => exact fun W h => ⟨(h.same _ (by omega) (by omega)).trans HW1.out.2.1, (HATS.out W h.chk).1, h.chk.below.size⟩
                          case hI => exact fun W W' h hb => h.bel hb (fun j hj => by omega) (by omega)
                          case hIx => exact fun c' W W' h hb => ⟨h.1, h.2.bel hb (fun j hj => by omega) (by omega)⟩
                          case h0 => exact fun W hb hz => ⟨Chk.later HW1.out.1 hb, by omega, fun j hj _ => hb.block j hj⟩
                          case assign =>
                            intro l i x0 y0 x1 y1 W K hK
                            clear hv2 hz1 hbq
                            unfold sideG sideO at *
                            gi_wp2_with fail
                            simpa using hK
                          case body =>
                            rintro l sb i x0 y0 x1 y1 Wb hS hsb hbig ⟨r0, hr0⟩ hl
                            have hsbl := lt_blk hsb
                            have h14 := (hS.same vq.heap.size (by omega) (by omega)).trans HW1.out.2.2.2.1
                            have b1 : Wb.cell? ⟨vq.heap.size, 6, none⟩ = some (.slice dA fq.corners.length dc) := (cell_blk h14 6).trans rfl
                            have HSB := Lib.hid (And.intro hS (And.intro hsb hr0))
                            clear hS hsb hr0 h14 hl hv2 hz1 hbq
                            gi_wp2_with fail
                            refine (CallsIn.inRound l (callsIn_wide.2 (sides_calls dA fq.corners.length dc Wb))).mono ?_
                            rintro e W2 ⟨rfl, hW2⟩
                            have hb2 : Below Wb.heap.size Wb W2 := by rw [hW2]; exact below1 _ _
                            have gy : W2.heap[Wb.heap.size]? = some (.cells #[.slice dA fq.corners.length dc] 36 (0, 0)) := by rw [hW2]; exact heap_alloc_self _ _
                            have hz2 : W2.heap.size = Wb.heap.size + 1 := by rw [hW2]; simp
                            have HZ2 := Lib.hid hz2
                            have HW2 := Lib.hid (And.intro hb2 (And.intro gy (And.intro (Chk.later HSB.out.1.chk hb2) (blk_below hb2 HSB.out.2.1 hsbl))))
                            have hr2 := blk_below hb2 HSB.out.2.2 (lt_blk HSB.out.2.2)
                            clear hW2 hb2 gy b1 hz2
                            gi_wp2_with fail
                            obtain ⟨hv2, hz1, hbq⟩ := HZ.out
                            have hz2 := HZ2.out
                            refine wpIn_rangeSidesIn dA fq.corners.length dc fq.corners Wb.heap.size w.heap.size (d := 18) hr2 rfl (SameTo w (.slice (some ⟨fb, fo, none⟩) fs.length fc) (.slice O os.length oc) W2 W2.heap.size) (fun c' W' => c' = .ret ∧ SameTo w (.slice (some ⟨fb, fo, none⟩) fs.length fc) (.slice O os.length oc) W2 W2.heap.size W') ?hIa2 ?hI2 ?hIx2 ?h02 ?assign2 ?body2 ?done2 ?stop2
                            case hIa2 => exact fun W h => ⟨(h.same _ (by omega) (by omega)).trans HW2.out.2.1, (HATS.out W h.chk).2, h.chk.below.size⟩
                            case hI2 => exact fun W W' h hb => h.bel hb (fun j hj => by omega) (by omega)
                            case hIx2 => exact fun c' W W' h hb => ⟨h.1, h.2.bel hb (fun j hj => by omega) (by omega)⟩
                            case h02 => exact fun W hb hz => ⟨Chk.later HW2.out.2.2.1 hb, by omega, fun j hj _ => hb.block j hj⟩
                            case assign2 =>
                              intro l i x0 y0 x1 y1 W K hK
                              clear hv2 hz1 hbq hz2
                              unfold sideG sideO at *
                              gi_wp2_with fail
                              simpa using hK
                            case body2 =>
                              rintro l2 sb2 i2 b0 b1 b2 b3 Wd hS2 hsb2 hbig2 hloop2 hl2
                              have hsb2l := lt_blk hsb2
                              have h16 := (hS2.same sb (by omega) (by omega)).trans HW2.out.2.2.2
                              have hq : ∀ w4, Below Wd.heap.size Wd w4 → (w4.cell? ⟨sb, 0, none⟩ = some (.int .i64 x0) ∧ w4.cell? ⟨sb, 1, none⟩ = some (.int .i64 y0) ∧ w4.cell? ⟨sb, 2, none⟩ = some (.int .i64 x1) ∧ w4.cell? ⟨sb, 3, none⟩ = some (.int .i64 y1)) ∧
                                  w4.cell? ⟨sb2, 0, none⟩ = some (.int .i64 b0) ∧ w4.cell? ⟨sb2, 1, none⟩ = some (.int .i64 b1) ∧ w4.cell? ⟨sb2, 2, none⟩ = some (.int .i64 b2) ∧ w4.cell? ⟨sb2, 3, none⟩ = some (.int .i64 b3) := fun w4 h4 => by
                                have e1 := blk_below h4 h16 (lt_blk h16)
                                have e2 := blk_below h4 hsb2 hsb2l
                                exact ⟨⟨(cell_blk e1 0).trans rfl, (cell_blk e1 1).trans rfl, (cell_blk e1 2).trans rfl, (cell_blk e1 3).trans rfl⟩, (cell_blk e2 0).trans rfl, (cell_blk e2 1).trans rfl, (cell_blk e2 2).trans rfl, (cell_blk e2 3).trans rfl⟩
                              have HQ := Lib.hid hq
                              have HS2 := Lib.hid hS2
                              have hbg3 : w.heap.size + 2 ≤ W2.heap.size := by omega
                              have hend : ∀ W', Below Wd.heap.size Wd W' → KeptJ (fun j => j = W2.heap.size) Wd W' ∧ SameTo w (.slice (some ⟨fb, fo, none⟩) fs.length fc) (.slice O os.length oc) W2 W2.heap.size W' := fun W' hb =>
                                ⟨⟨hb.size, fun j hj => hb.block j (by omega)⟩, HS2.out.later hb⟩
                              have hret : ∀ W', Below Wd.heap.size Wd W' → (KeptJ (fun j => j = W2.heap.size) Wd (W'.setCell ⟨w.heap.size + 1, 0, none⟩ (.int .i64 9)) ∧ SameTo w (.slice (some ⟨fb, fo, none⟩) fs.length fc) (.slice O os.length oc) W2 W2.heap.size (W'.setCell ⟨w.heap.size + 1, 0, none⟩ (.int .i64 9))) ∧ (∃ n : Int, W'.cell? ⟨w.heap.size + 1, 0, none⟩ = some (.int .i64 n)) ∧ W'.frozen? ⟨w.heap.size + 1, 0, none⟩ = false := fun W' hb => by
                                have hS' := HS2.out.later hb
                                obtain ⟨h1, _, h3, h4⟩ := Chk.set hS'.chk 9
                                refine ⟨⟨⟨by rw [h4]; exact hb.size, fun j hj => (h3 j (by omega)).trans (hb.block j (by omega))⟩, hS'.set 9⟩, (Chk.cells hS'.chk).2.1, (Chk.cells hS'.chk).2.2⟩
                              have HE := Lib.hid hend
                              have HR := Lib.hid hret
                              clear hq hS2 h16 hsb2 hloop2 hl2 hend hret hv2 hz1 hbq hz2
                              gi_wp2_with fail
                              refine wpIn_region_rg_tail 8 Grows (fun | 1 => .any sideW (fun _ _ _ => True) | 3 => .any sideW (fun _ _ _ => True) | 4 => .any boolW (fun _ _ _ => True) | _ => .fn) (by kernel_rfl) (fun _ => trivial) (by kernel_rfl) Grows.refl growsT (by intro i; split <;> first | trivial | exact fun _ _ _ _ _ _ => trivial) ?_
                              iterate 1 (refine rg_step fun K hK => ?_; apply rg_fn rfl; (intro w4 hw; obtain ⟨⟨r0, r1, r2, r3⟩, t0, t1, t2, t3⟩ := HQ.out w4 hw.undrew; go_simp; try rfl); go_simp; (try with_reducible refine hK _ _ ?_); try clear hK K)
                              refine rg_step fun K hK => ?_
                              apply rg_call_any (.inr ⟨l2, rfl⟩) rfl
                              · intro w4 hw
                                go_simp
                                exact ⟨rfl, rfl⟩
                              · intro w4 hw
                                refine (ends_calls _ _ _ _ w4).mono ?_
                                rintro e w5 ⟨⟨c0, c1, c2, c3, rfl⟩, hb⟩
                                exact ⟨_, rfl, hb, ⟨c0, c1, c2, c3, rfl⟩, trivial⟩
                              rintro v5 ⟨c0, c1, c2, c3, rfl⟩
                              go_simp
                              (try with_reducible refine hK _ _ ?_)
                              try clear hK K
                              iterate 1 (refine rg_step fun K hK => ?_; apply rg_fn rfl; (intro w4 hw; obtain ⟨⟨r0, r1, r2, r3⟩, t0, t1, t2, t3⟩ := HQ.out w4 hw.undrew; go_simp; try rfl); go_simp; (try with_reducible refine hK _ _ ?_); try clear hK K)
                              refine rg_step fun K hK => ?_
                              apply rg_call_any (.inr ⟨l2, rfl⟩) rfl
                              · intro w4 hw
                                go_simp
                                exact ⟨rfl, rfl⟩
                              · intro w4 hw
                                refine (ends_calls _ _ _ _ w4).mono ?_
                                rintro e w5 ⟨⟨d0, d1, d2, d3, rfl⟩, hb⟩
                                exact ⟨_, rfl, hb, ⟨d0, d1, d2, d3, rfl⟩, trivial⟩
                              rintro v5 ⟨d0, d1, d2, d3, rfl⟩
                              go_simp
                              (try with_reducible refine hK _ _ ?_)
                              try clear hK K
                              refine rg_step fun K hK => ?_
                              apply rg_any rfl
                              · intro w4 hw
                                refine ⟨.bool (decide (¬ (c0 = d0 ∧ c1 = d1 ∧ c2 = d2 ∧ c3 = d3))), w4, ?_, Grows.refl _, ⟨_, rfl⟩, trivial⟩
                                go_simp
                                repeat' split
                                all_goals simp_all
                              rintro v5 ⟨qn, rfl⟩
                              go_simp
                              (try with_reducible refine hK _ _ ?_)
                              try clear hK K
                              iterate 1 (refine rg_step fun K hK => ?_; apply rg_fn rfl; (intro w4 hw; go_simp; try rfl); go_simp; (try with_reducible refine hK _ _ ?_); try clear hK K)
                              cases qn
                              · iterate 2 (refine rg_step fun K hK => ?_; apply rg_skip rfl; go_simp; (try with_reducible refine hK _ _ ?_); try clear hK K)
                                refine rg_nil ?_
                                intro W6 hw6 _
                                replace hw6 := hw6.undrew
                                have HF := Lib.hid (HE.out W6 hw6)
                                clear hw6
                                simp only [List.drop_succ_cons, List.drop_zero]
                                gi_wp2_with fail
                                exact HF.out
                              · skip
                                iterate 2 (refine rg_step fun K hK => ?_; apply rg_fn rfl; (intro w4 hw; obtain ⟨⟨r0, r1, r2, r3⟩, t0, t1, t2, t3⟩ := HQ.out w4 hw.undrew; go_simp; try rfl); go_simp; (try with_reducible refine hK _ _ ?_); try clear hK K)
                                refine rg_nil ?_
                                intro W6 hw6 _
                                replace hw6 := hw6.undrew
                                have HM6 := Lib.hid (hw6 : Below Wd.heap.size Wd W6)
                                clear hw6
                                simp only [List.drop_succ_cons, List.drop_zero]
                                gi_wp2_with fail
                                refine (CallsIn.inRound l2 (callsIn_wide.2 (share_calls _ _ _ _ _ _ _ _ W6))).mono ?_
                                rintro e W7 ⟨⟨q7, rfl⟩, hb7⟩
                                have HM7 := Lib.hid (HM6.out.trans (hb7.mono HM6.out.size))
                                clear hb7
                                cases q7
                                · gi_wp2_with fail
                                  exact HE.out W7 HM7.out
                                · obtain ⟨hfin, ⟨n7, k7⟩, f7⟩ := HR.out W7 HM7.out
                                  have HF := Lib.hid hfin
                                  clear hfin
                                  gi_wp2_with fail
                                  exact ⟨HF.out.1, rfl, HF.out.2⟩
                            case done2 =>
                              intro W' hS'
                              have HF := Lib.hid (And.intro (SameTo.keptJ (lo := W1.heap.size) HW2.out.1 hS' (by omega) (by omega)) (HSB.out.1.trans HW2.out.1 hS'))
                              clear hS' hr2 hv2 hz1 hbq hz2
                              gi_wp2_with fail
                              exact HF.out
                            case stop2 =>
                              rintro c' W' ⟨rfl, hS'⟩
                              have HF := Lib.hid (And.intro (SameTo.keptJ (lo := W1.heap.size) HW2.out.1 hS' (by omega) (by omega)) (HSB.out.1.trans HW2.out.1 hS'))
                              clear hS' hr2 hv2 hz1 hbq hz2
                              gi_wp2_with fail
                              exact ⟨HF.out.1, rfl, HF.out.2⟩
                          case done =>
                            intro W' hS' hD
                            have h12' := (hS'.same vc.heap.size (by omega) (by omega)).trans HW1.out.2.2.1
                            have hm' := (hS'.marks HW1.out.2.2.2.2 (by omega)).push (D := W1.heap.size) (hi' := W'.heap.size) (by omega) hD (lt_blk hD)
                            have HF := Lib.hid (And.intro hS'.chk (And.intro h12' hm'))
                            clear hS' hD h12' hm' hz1 hbq
                            gi_wp2_with fail
                            exact ⟨p - (q + 1), by omega, q + 1, _, HF.out.1, HF.out.2.1, HF.out.2.2, rfl, by omega, rfl⟩
                          case stop =>
                            rintro c' W' ⟨rfl, hS'⟩ hD
                            have hm' := (hS'.marks HW1.out.2.2.2.2 (by omega)).push (D := W1.heap.size) (hi' := W'.heap.size) (by omega) hD (lt_blk hD)
                            obtain ⟨_, n, hn⟩ := id hS'.chk.own
                            have HS := Lib.hid (HEND.out W' n hS'.chk hn (fun _ => HALL.out))
                            have HM' := Lib.hid hm'
                            clear hS' hD hm' hn hv2 hz1 hbq
                            gi_wp2_with fail
                            exact bodyPostM_ret HM'.out (HS.out _ rfl)
                        · have hqi : ¬ (q : Int) < (p : Int) := by omega
                          gi_wp2_with fail
                          exact ⟨fs.length - (p + 1), by omega, HLQ.out.1, p + 1, ds2, HLQ.out.2.2, rfl, by omega, rfl⟩
                    · have hpi : ¬ (p : Int) < (fs.length : Int) := by omega
                      obtain ⟨s1, s2, s3, s4⟩ := Chk.set HCD.out 0
                      have hm' := (HMD.out.setCell (p := ⟨w.heap.size + 1, 0, none⟩) (o := .cells #[.int .i64 a2] 32 (0, 0)) (by
                        obtain ⟨_, n, hn⟩ := HCD.out.own
                        rw [cell_blk hn] at a3
                        have : n = a2 := by simpa using a3
                        rw [← this]; exact hn) (fun x e => by cases e) (.int .i64 0))
                      have HM' := Lib.hid hm'
                      have HS := Lib.hid (HEND.out _ 0 s1 s2 (fun _ => HALL.out))
                      clear s1 s2 s3 s4 hm'
                      gi_wp2_with fail
                      exact bodyPostM_ret HM'.out (HS.out _ rfl)
end Go.Proofs.Ytnbnhcoaggpmaaa
