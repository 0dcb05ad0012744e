/- The specification's Costs. -/
import Derived.Test.YtccplobhfokcgaaRb
namespace Go.Proofs.Ytccplobhfokcgaa
open Go Go.RowKit Go.Shelf
set_option maxRecDepth 100000

set_option maxHeartbeats 2000000 in
theorem costs_calls (m : Wk) (sl cr : Value) (rA : Option Addr) (rc : Nat) (row : List Int) (w : World) (hm : m.Ok) (hrow : RowOk m row)
    (hsl : SlopesAt w w.heap.size sl m.slopes) (hcr : CraftsAt w w.heap.size cr m.crafts) (hr : RowC w w.heap.size rA (row.map (Value.int .i64))) :
    Calls Try.prog 36 #[.agg #[sl, cr, .int .i64 m.years, .int .i64 m.visit, .int .i64 m.hands], .slice rA row.length rc] w fun e w' => e = .returned (.int .i64 (costS m row)) ∧ Below w.heap.size w w' := by
  obtain ⟨A, c, rfl, hl, hss⟩ := hsl
  obtain ⟨CA, cc, rfl, hcl, hcs⟩ := hcr
  have HS := Lib.hid hss
  have HC := Lib.hid hcs
  have HR := Lib.hid hr
  clear hss hcs hr
  go_enter Try.func36, Try.ntmps36
  go_wp2_with fail
  go_loopw [5, 6, 7] (fun n a i wr => ∃ k : Nat, k ≤ row.length ∧ i = .int .i64 (k : Int) ∧ n = .int .i64 (costTo m row k) ∧ a = .bool ((row.take k).any fun x => decide (0 ≤ x)) ∧ Hid (Below w.heap.size w wr) ∧
    Hid (wr.heap[w.heap.size]? = some (.cells #[.slice A m.slopes.length c, .slice CA m.crafts.length cc, .int .i64 m.years, .int .i64 m.visit, .int .i64 m.hands] 25 (0, 0)))) (fun _ _ i _ => row.length - (intOf i).toNat)
  case atStart => exact ⟨0, Nat.zero_le _, rfl, rfl, rfl, Lib.hid (below1 _ _), Lib.hid (heap_alloc_self _ _)⟩
  case round =>
    obtain ⟨k, hk, rfl, rfl, rfl, hbe, hbx⟩ := hrel
    obtain ⟨Wr, rfl⟩ : ∃ Wr, Wr = wr := ⟨_, rfl⟩
    have hbx0 := hbx.out
    obtain ⟨w0, w1, w2, w3, w4⟩ := blk5 hbx0
    clear hbx0
    by_cases hlt : k < row.length
    · obtain ⟨b, o, rfl, hbk, hc⟩ := (HR.out.below hbe.out).at_ k (by simpa using hlt)
      simp only [List.getElem_map] at hc
      have hrl : row.length ≤ 4 := by have := hrow.len; have := hm.few; omega
      have hil : (k : Int) < (row.length : Int) := by omega
      have hi0 : (0 : Int) ≤ (k : Int) := by omega
      have hadd : IntKind.i64.wrap ((k : Int) + 1) = (k : Int) + 1 := IntWalk.i64_in _ (by omega)
      have hany : ((row.take (k + 1)).any fun x => decide (0 ≤ x)) = (((row.take k).any fun x => decide (0 ≤ x)) || decide (0 ≤ row[k])) := by
        rw [List.take_succ_eq_append_getElem hlt, List.any_append]; simp
      have hls : k < m.slopes.length := by have := hrow.len; omega
      have hco := costTo_succ m row k hlt hls
      have HA := Lib.hid hany
      have HCO := Lib.hid hco
      have hek := hrow.each row[k] (List.getElem_mem hlt)
      clear hany hco
      by_cases hp : 0 ≤ row[k]
      · obtain ⟨q, hq⟩ := Int.eq_ofNat_of_zero_le hp
        have hqc : q < m.crafts.length := by omega
        obtain ⟨cb, co, rfl, hcb, hcc⟩ := HC.out (by intro e; rw [e] at hqc; simp at hqc)
        obtain ⟨_, hpc, _⟩ := hcc q _ (List.getElem?_eq_getElem hqc)
        obtain ⟨sb, so, rfl, hsb, hsc⟩ := HS.out (by intro e; rw [e] at hls; simp at hls)
        obtain ⟨_, _, _, _, _, hsz, _⟩ := hsc k _ (List.getElem?_eq_getElem hls)
        have hpr : priceC m.crafts row[k] = m.crafts[q].price := by unfold priceC; rw [if_neg (by omega), hq, Int.toNat_natCast, List.getElem?_eq_getElem hqc]
        have hbd0 := costTo_bd hm row k (by rw [← hrow.len]; omega)
        have hbd1 := costTo_bd hm row (k + 1) (by omega)
        have h1 := HCO.out
        rw [hpr] at h1
        have hmul : IntKind.i64.wrap (m.crafts[q].price * m.slopes[k].size) = m.crafts[q].price * m.slopes[k].size := IntWalk.i64_in _ (by omega)
        have hadd2 : IntKind.i64.wrap (costTo m row k + m.crafts[q].price * m.slopes[k].size) = costTo m row (k + 1) := by rw [← h1]; exact IntWalk.i64_in _ (by omega)
        have h2 : ((row.take (k + 1)).any fun x => decide (0 ≤ x)) = true := by rw [HA.out]; simp [hp]
        have hQ : ∀ w4, Grows Wr w4 → _ := fun w4 hw4 => And.intro (blk5 (blk_below hw4 hbx.out (lt_blk hbx.out))) (And.intro ((hw4.cell (p := ⟨b, o + k, none⟩) (Nat.lt_of_lt_of_le hbk hbe.out.size)).trans hc)
          (And.intro (((hbe.out.trans (hw4.mono hbe.out.size)).cell (p := ⟨cb, co + q * 3 + 1, none⟩) hcb).trans hpc) (((hbe.out.trans (hw4.mono hbe.out.size)).cell (p := ⟨sb, so + k * 5 + 3, none⟩) hsb).trans hsz)))
        have hci : (q : Int) < (m.crafts.length : Int) := by omega
        have hsi : (k : Int) < (m.slopes.length : Int) := by omega
        have hq0 : (0 : Int) ≤ (q : Int) := by omega
        have H2 := Lib.hid h2
        clear h1 h2 hpr hbd0 hbd1 hcc hsc hpc hsz HCO HA
        generalize row[k] = r at *
        subst hq
        generalize m.crafts[q].price = pr at *
        generalize m.slopes[k].size = sz at *
        generalize hT : costTo m row (k + 1) = T1 at *
        generalize costTo m row k = T at *
        generalize ((row.take k).any fun x => decide (0 ≤ x)) = U at *
        have HT := Lib.hid hT
        have HQ := Lib.hid hQ
        clear hT hQ
        go_wp2_with fail
        refine wp_region_rg Grows (fun _ => .fn) (by kernel_rfl) (by kernel_rfl) Grows.refl growsT (fun _ => trivial) ?_
        iterate 19 (refine rg_step fun K hK => ?_; apply rg_fn rfl; (intro w4 hw; obtain ⟨⟨x0, x1, x2, x3, x4⟩, y1, y2, y3⟩ := HQ.out w4 hw.undrew; go_simp; try rfl); go_simp; (try with_reducible refine hK _ _ ?_); try clear hK K)
        refine rg_nil ?_
        intro w5 hw5 _
        replace hw5 := hw5.undrew
        have HB5 := Lib.hid (hbe.out.trans (hw5.mono hbe.out.size))
        have HX5 := Lib.hid (blk_below hw5 hbx.out (lt_blk hbx.out))
        clear hw5 HQ w0 w1 w2 w3 w4 hc
        go_wp2_with fail
        go_round
        case rel => exact ⟨k + 1, by omega, by go_num, by rw [HT.out], by rw [H2.out], HB5, HX5⟩
        case measure => simp [intOf]; omega
      · have hpr : priceC m.crafts row[k] = 0 := by unfold priceC; rw [if_pos (by omega)]
        have h1 : costTo m row (k + 1) = costTo m row k := by rw [HCO.out, hpr]; omega
        have h2 : ((row.take (k + 1)).any fun x => decide (0 ≤ x)) = ((row.take k).any fun x => decide (0 ≤ x)) := by rw [HA.out]; simp [hp]
        have H1 := Lib.hid h1
        have H2 := Lib.hid h2
        clear h1 h2 hpr
        generalize row[k] = r at *
        generalize hT : costTo m row k = T at *
        generalize hU : ((row.take k).any fun x => decide (0 ≤ x)) = U at *
        have hT' := Lib.hid hT
        have hU' := Lib.hid hU
        clear hT hU
        go_wp2_with fail
        exact ⟨⟨k + 1, by omega, by simp, by rw [H1.out], by rw [H2.out], hbe, hbx⟩, by simp [intOf]; omega⟩
    · have hin : k = row.length := by omega
      subst hin
      have hbd := costTo_bd hm row row.length (by rw [hrow.len]; exact Nat.le_refl _)
      have hrl : row.length ≤ 4 := by have := hrow.len; have := hm.few; omega
      have hvi := hm.visit
      have hadd : IntKind.i64.wrap (costTo m row row.length + m.visit) = costTo m row row.length + m.visit := IntWalk.i64_in _ (by omega)
      have hcs : costS m row = costTo m row row.length + if row.any (fun x => decide (0 ≤ x)) then m.visit else 0 := rfl
      have HCS := Lib.hid hcs
      have hnil : ¬ (row.length : Int) < (row.length : Int) := by omega
      clear hcs
      rw [List.take_length]
      generalize row.any (fun x => decide (0 ≤ x)) = U at *
      cases U
      · go_wp2_with fail
        go_ret
        exact ⟨ret_int (by show costTo m row row.length = _; rw [HCS.out]; simp), hbe.out⟩
      · go_wp2_with fail
        go_ret
        exact ⟨ret_int (by show costTo m row row.length + m.visit = _; rw [HCS.out]; simp), hbe.out⟩
end Go.Proofs.Ytccplobhfokcgaa
