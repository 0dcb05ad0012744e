/- MendTexts: the walk. -/
import Derived.Test.YtcbhldfipfcjaaaGreatDoorUg
import Derived.Test.YtcbhldfipfcjaaaGreatDoorY10
import Derived.Test.YtcbhldfipfcjaaaGreatDoorVm
import Derived.Test.YtcbhldfipfcjaaaGreatDoorY9
import Derived.Test.YtcbhldfipfcjaaaGreatDoorVe
import Derived.Test.YtcbhldfipfcjaaaGreatDoorGr
import Derived.Test.YtcbhldfipfcjaaaGreatDoorRu

namespace Go.Proofs.YtcbhldfipfcjaaaGreatDoor
open Go Go.RowKit Go.Shelf
set_option maxRecDepth 100000

set_option maxHeartbeats 4000000 in
theorem mendTexts_calls (m : Wk) (sl cr : Value) (s : ByteArray) (w : World) (hsl : SlopesAt w w.heap.size sl m.slopes) (hcr : CraftsAt w w.heap.size cr m.crafts) (hv : Vars w) :
    Calls Tryz.prog 3 #[.agg #[sl, cr, .int .i64 m.years, .int .i64 m.visit, .int .i64 m.hands], .string s] w (LawPost w) := by
  obtain ⟨sA, sc, rfl, _, _⟩ := id hsl
  obtain ⟨cA, cc, rfl, _, _⟩ := id hcr
  obtain ⟨w0, hw0⟩ : ∃ w0, w0 = w.alloc (.cells #[.slice sA m.slopes.length sc, .slice cA m.crafts.length cc, .int .i64 m.years, .int .i64 m.visit, .int .i64 m.hands] 25) := ⟨_, rfl⟩
  have h0 := LawInv.start hsl hcr
  rw [← hw0] at h0
  have x5 := blk5 h0.box
  rw [hw0] at x5
  obtain ⟨x0, x1, x2, x3, x4⟩ := x5
  have HV := Lib.hid hv
  have H0 := Lib.hid h0
  have HW0 := Lib.hid hw0
  clear hv h0 hw0 hsl hcr
  go_enter Tryz.func3, Tryz.ntmps3
  go_wp2_with fail
  rw [← HW0.out]
  refine (great_calls m _ _ w0 H0.out.slopes H0.out.crafts).mono ?_
  rintro e w1 ⟨⟨g, rfl⟩, hb1⟩
  have H1 := Lib.hid (H0.out.later hb1)
  clear hb1 x0 x1 x2 x3 x4 H0 HW0
  cases g
  · by_cases hlong : (s.size : Int) > 2000
    · go_wp2_with (go_at_call 6; refine (runs_law H1.out).mono ?_; rintro e wr ⟨rfl, hr⟩; have HR := Lib.hid hr; clear hr)
      go_ret
      exact HR.out
    · obtain ⟨x0, x1, x2, x3, x4⟩ := blk5 H1.out.box
      have hsz : s.size ≤ 100000 := by omega
      go_wp2_with fail
      refine (print_calls m _ _ w1 H1.out.slopes H1.out.crafts (HV.out.below H1.out.below HV.out.big)).mono ?_
      rintro e w2 ⟨rfl, hb2⟩
      have H2 := Lib.hid (H1.out.later hb2)
      clear hb2 H1 x0 x1 x2 x3 x4
      obtain ⟨x0, x1, x2, x3, x4⟩ := blk5 H2.out.box
      go_wp2_with fail
      refine (rprint_calls m _ _ w2 H2.out.slopes H2.out.crafts).mono ?_
      rintro e w3 ⟨rfl, hb3⟩
      have H3 := Lib.hid (H2.out.later hb3)
      clear hb3 H2 x0 x1 x2 x3 x4
      obtain ⟨P, hP⟩ : ∃ P, P = printS m := ⟨_, rfl⟩
      rw [← hP]
      clear hP
      obtain ⟨pt, pe⟩ := P
      simp only []
      obtain ⟨p, hp⟩ : ∃ p : ByteArray, p = ⟨pt.toArray⟩ := ⟨_, rfl⟩
      rw [← hp]
      clear hp
      obtain ⟨Q, hQ⟩ : ∃ Q, Q = parseS s.data.toList := ⟨_, rfl⟩
      have HQ := Lib.hid hQ
      clear hQ
      go_wp2_with fail
      refine (parse_calls s w3 hsz (HV.out.below H3.out.below HV.out.big)).mono ?_
      rintro e w4 ⟨v, cr, rfl, hvs, hcs, hb4⟩
      rw [← HQ.out] at hvs hcs ⊢
      have H4 := Lib.hid (H3.out.later hb4)
      obtain ⟨vA, vc, rfl, _, _⟩ := id hvs
      obtain ⟨dA, dc, rfl, _, _⟩ := id hcs
      obtain ⟨w5, hw5⟩ : ∃ w5, w5 = w4.alloc (.cells #[.slice vA Q.1.slopes.length vc, .slice dA Q.1.crafts.length dc, .int .i64 Q.1.years, .int .i64 Q.1.visit, .int .i64 Q.1.hands] 25) := ⟨_, rfl⟩
      have hb5 : Below w4.heap.size w4 w5 := by rw [hw5]; exact below1 _ _
      have g5 : w5.heap[w4.heap.size]? = some (.cells #[.slice vA Q.1.slopes.length vc, .slice dA Q.1.crafts.length dc, .int .i64 Q.1.years, .int .i64 Q.1.visit, .int .i64 Q.1.hands] 25 (0, 0)) := by rw [hw5]; exact heap_alloc_self _ _
      have H5 := Lib.hid (H4.out.later hb5)
      have HB5 := Lib.hid (And.intro g5 (And.intro ((hvs.below hb5).mono hb5.size) ((hcs.below hb5).mono hb5.size)))
      have HW5 := Lib.hid hw5
      clear hvs hcs hb4 hb5 g5 hw5 H3 H4
      go_wp2_with fail
      rw [← HW5.out]
      refine (rparse_calls s w5 hsz).mono ?_
      rintro e w6 ⟨v2, cr2, rfl, hvs, hcs, hb6⟩
      rw [← HQ.out] at hvs hcs ⊢
      obtain ⟨uA, uc, rfl, _, _⟩ := id hvs
      obtain ⟨eA, ec, rfl, _, _⟩ := id hcs
      obtain ⟨w7, hw7⟩ : ∃ w7, w7 = w6.alloc (.cells #[.slice uA Q.1.slopes.length uc, .slice eA Q.1.crafts.length ec, .int .i64 Q.1.years, .int .i64 Q.1.visit, .int .i64 Q.1.hands] 25) := ⟨_, rfl⟩
      have hb7 : Below w6.heap.size w6 w7 := by rw [hw7]; exact below1 _ _
      have H7 := Lib.hid ((H5.out.later hb6).later hb7)
      have hg5 := blk_below hb6 HB5.out.1 (lt_blk HB5.out.1)
      have s1 := (((HB5.out.2.1.below hb6).mono hb6.size).below hb7).mono hb7.size
      have c1 := (((HB5.out.2.2.below hb6).mono hb6.size).below hb7).mono hb7.size
      have HS := Lib.hid (same_calls Q.1 _ _ _ _ w7 s1 c1 ((hvs.below hb7).mono hb7.size) ((hcs.below hb7).mono hb7.size))
      have HW7 := Lib.hid hw7
      obtain ⟨x0, x1, x2, x3, x4⟩ := blk5 hg5
      have a0 := fun ob => cell_alloc ob x0
      have a1 := fun ob => cell_alloc ob x1
      have a2 := fun ob => cell_alloc ob x2
      have a3 := fun ob => cell_alloc ob x3
      have a4 := fun ob => cell_alloc ob x4
      clear hb6 hb7 hg5 s1 c1 hw7 hvs hcs H5 HB5
      go_wp2_with fail
      rw [← HW7.out]
      refine HS.out.mono ?_
      rintro e w8 ⟨rfl, hb8⟩
      have H8 := Lib.hid (H7.out.later (hb8 : Below w7.heap.size w7 w8))
      clear hb8 HS H7
      go_wp2_with (go_at_call 6; refine (runs_law H8.out).mono ?_; rintro e wr ⟨rfl, hr⟩; have HR := Lib.hid hr; clear hr)
      go_ret
      exact HR.out
  · go_wp2_with (go_at_call 6; refine (runs_law H1.out).mono ?_; rintro e wr ⟨rfl, hr⟩; have HR := Lib.hid hr; clear hr)
    go_ret
    exact HR.out
end Go.Proofs.YtcbhldfipfcjaaaGreatDoor
