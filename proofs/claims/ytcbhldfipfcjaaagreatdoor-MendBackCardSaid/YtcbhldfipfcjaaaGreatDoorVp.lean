/- MendBack: the walk. -/
import Derived.Test.YtcbhldfipfcjaaaGreatDoorVm
import Derived.Test.YtcbhldfipfcjaaaGreatDoorY9
import Derived.Test.YtcbhldfipfcjaaaGreatDoorVe
import Derived.Test.YtcbhldfipfcjaaaGreatDoorGr
import Derived.Test.YtcbhldfipfcjaaaGreatDoorRu

namespace Go.Proofs.YtcbhldfipfcjaaaGreatDoor
open Go Go.RowKit Go.Shelf
set_option maxRecDepth 100000

set_option maxHeartbeats 4000000 in
theorem mendBack_calls (m : Wk) (sl cr : Value) (w : World) (hsl : SlopesAt w w.heap.size sl m.slopes) (hcr : CraftsAt w w.heap.size cr m.crafts) (hv : Vars w) :
    Calls Tryz.prog 4 #[.agg #[sl, cr, .int .i64 m.years, .int .i64 m.visit, .int .i64 m.hands]] w (LawPost w) := by
  obtain ⟨sA, sc, rfl, _, _⟩ := id hsl
  obtain ⟨cA, cc, rfl, _, _⟩ := id hcr
  obtain ⟨w0, hw0⟩ : ∃ w0, w0 = w.alloc (.cells #[.slice sA m.slopes.length sc, .slice cA m.crafts.length cc, .int .i64 m.years, .int .i64 m.visit, .int .i64 m.hands] 25) := ⟨_, rfl⟩
  have h0 := LawInv.start hsl hcr
  rw [← hw0] at h0
  have x5 := blk5 h0.box
  rw [hw0] at x5
  obtain ⟨x0, x1, x2, x3, x4⟩ := x5
  have HV := Lib.hid hv
  have H0 := Lib.hid h0
  have HW0 := Lib.hid hw0
  clear hv h0 hw0 hsl hcr
  go_enter Tryz.func4, Tryz.ntmps4
  go_wp2_with fail
  rw [← HW0.out]
  refine (great_calls m _ _ w0 H0.out.slopes H0.out.crafts).mono ?_
  rintro e w1 ⟨⟨g, rfl⟩, hb1⟩
  have H1 := Lib.hid (H0.out.later hb1)
  clear hb1 x0 x1 x2 x3 x4 H0 HW0
  cases g
  · obtain ⟨x0, x1, x2, x3, x4⟩ := blk5 H1.out.box
    go_wp2_with fail
    refine (print_calls m _ _ w1 H1.out.slopes H1.out.crafts (HV.out.below H1.out.below HV.out.big)).mono ?_
    rintro e w2 ⟨rfl, hb2⟩
    have H2 := Lib.hid (H1.out.later hb2)
    clear hb2 H1 x0 x1 x2 x3 x4
    by_cases hck : checkS m = 0
    · have hp : printS m = (textS m, 0) := by unfold printS; rw [if_pos hck]
      rw [hp]
      have hlen := textS_len (checkS_ok hck)
      have hpt := parse_text hck
      obtain ⟨s, hs⟩ : ∃ s : ByteArray, s = ⟨(textS m).toArray⟩ := ⟨_, rfl⟩
      have hsl : s.data.toList = textS m := by rw [hs]
      have hsz : s.size ≤ 100000 := by
        have : s.size = s.data.toList.length := by simp
        rw [this, hsl]; omega
      simp only []
      rw [← hs]
      have HPC := Lib.hid (parse_calls s w2 hsz (HV.out.below H2.out.below HV.out.big))
      rw [hsl] at HPC
      have HPT := Lib.hid hpt
      clear hp hlen hpt hs hsl hsz hck
      go_wp2_with fail
      refine HPC.out.mono ?_
      rintro e w3 ⟨v, cr, rfl, hvs, hcs, hb3⟩
      rw [HPT.out] at hvs hcs ⊢
      obtain ⟨vA, vc, rfl, _, _⟩ := id hvs
      obtain ⟨dA, dc, rfl, _, _⟩ := id hcs
      have H3 := Lib.hid (H2.out.later hb3)
      have HVS := Lib.hid hvs
      have HCS := Lib.hid hcs
      clear hvs hcs hb3 HPC H2
      simp only []
      obtain ⟨x0, x1, x2, x3, x4⟩ := blk5 H3.out.box
      obtain ⟨w4, hw4⟩ : ∃ w4, w4 = w3.alloc (.cells #[.slice vA m.slopes.length vc, .slice dA m.crafts.length dc, .int .i64 m.years, .int .i64 m.visit, .int .i64 m.hands] 25) := ⟨_, rfl⟩
      have hb4 : Below w3.heap.size w3 w4 := by rw [hw4]; exact below1 _ _
      have H4 := Lib.hid (H3.out.later hb4)
      have HS := Lib.hid (same_calls m _ _ _ _ w4 H4.out.slopes H4.out.crafts ((HVS.out.below hb4).mono hb4.size) ((HCS.out.below hb4).mono hb4.size))
      have HW4 := Lib.hid hw4
      have a0 := fun ob => cell_alloc ob x0
      have a1 := fun ob => cell_alloc ob x1
      have a2 := fun ob => cell_alloc ob x2
      have a3 := fun ob => cell_alloc ob x3
      have a4 := fun ob => cell_alloc ob x4
      clear hb4 hw4 HVS HCS H3
      go_wp2_with fail
      rw [← HW4.out]
      refine HS.out.mono ?_
      rintro e w5 ⟨rfl, hb5⟩
      have H5 := Lib.hid (H4.out.later (hb5 : Below w4.heap.size w4 w5))
      clear hb5 HS H4
      go_wp2_with (go_at_call 6; refine (runs_law H5.out).mono ?_; rintro e wr ⟨rfl, hr⟩; have HR := Lib.hid hr; clear hr)
      go_ret
      exact HR.out
    · have hp : printS m = ([], checkS m) := by unfold printS; rw [if_neg hck]
      rw [hp]
      have he1 : (checkS m != 0) = true := by simp [hck]
      have he2 : (!(checkS m == 0)) = true := by simp [hck]
      simp only []
      generalize checkS m = ce at *
      clear hp
      go_wp2_with (go_at_call 6; refine (runs_law H2.out).mono ?_; rintro e wr ⟨rfl, hr⟩; have HR := Lib.hid hr; clear hr)
      go_ret
      exact HR.out
  · go_wp2_with (go_at_call 6; refine (runs_law H1.out).mono ?_; rintro e wr ⟨rfl, hr⟩; have HR := Lib.hid hr; clear hr)
    go_ret
    exact HR.out
end Go.Proofs.YtcbhldfipfcjaaaGreatDoor
