/- Roofs: outlines that an edge parts. -/
import Derived.Test.YtnbnhcoaggpmaaaJh

namespace Go.Proofs.Ytnbnhcoaggpmaaa
open Go Go.RowKit Go.Shelf
set_option maxRecDepth 100000
attribute [local go_sem] Oper.semAt_some

theorem results_bool {fn : Func} {p : Tmp} {tmps : Array Value} {w : World} {b : Nat} {q : Bool} (h : fn.results = #[.cell p 4]) (hp : tmps.getD p undef = .pointer (some ⟨b, 0, none⟩)) (hg : w.heap[b]? = some (.cells #[.bool q] 4 (0, 0))) :
    (results fn tmps).run Try.prog w = .ok (.bool q) w := by
  have hp' : tmps[p]?.getD undef = .pointer (some ⟨b, 0, none⟩) := by simpa using hp
  have c1 : w.cell? ⟨b, 0, none⟩ = some (.bool q) := by rw [cell_blk hg]; rfl
  have e1 : (loadVar 4 ⟨b, 0, none⟩).run Try.prog w = .ok (.bool q) w := by
    have u := Try.isAgg4
    simp [loadVar, Sem.run_bind, u, go_sem, c1]
  simp [results, h, hp', asAddr, e1]
theorem parted1_calls (sb : Nat) (x0 y0 x1 y1 x y : Int) (w : World) (h : w.heap[sb]? = some (sideO x0 y0 x1 y1)) : Calls Try.prog 42 #[.agg #[.int .i64 x, .int .i64 y], .pointer (some ⟨sb, 0, none⟩)] w (BoolP w) := by
  have hs := lt_blk h
  have c0 : ∀ ob, (w.alloc ob).cell? ⟨sb, 0, none⟩ = some (.int .i64 x0) := fun ob => (cell_blk (blk_below (below1 w ob) h hs) 0).trans rfl
  have c1 : ∀ ob, (w.alloc ob).cell? ⟨sb, 1, none⟩ = some (.int .i64 y0) := fun ob => (cell_blk (blk_below (below1 w ob) h hs) 1).trans rfl
  have c2 : ∀ ob, (w.alloc ob).cell? ⟨sb, 2, none⟩ = some (.int .i64 x1) := fun ob => (cell_blk (blk_below (below1 w ob) h hs) 2).trans rfl
  have c3 : ∀ ob, (w.alloc ob).cell? ⟨sb, 3, none⟩ = some (.int .i64 y1) := fun ob => (cell_blk (blk_below (below1 w ob) h hs) 3).trans rfl
  clear h
  go_enter Try.func42, Try.ntmps42
  go_wp2_with fail
  refine (of_calls _ _ _ _ _ _ _).mono ?_
  rintro e w1 ⟨⟨n1, rfl⟩, hb1⟩
  have HB1 := Lib.hid ((below1 w _).trans (hb1.mono (by simp)))
  clear hb1
  go_wp2_with fail
  refine (up_calls _ w1).mono ?_
  rintro e w2 ⟨⟨q, rfl⟩, hb2⟩
  have HB2 := Lib.hid (HB1.out.trans (hb2.mono HB1.out.size))
  clear hb2
  go_wp2_with fail
  go_ret
  exact ⟨⟨q, rfl⟩, HB2.out⟩
/-- The blocks of parted. -/
def PdF (w : World) (A B : Option Addr) (n c m d : Nat) (W : World) : Prop :=
  W.heap[w.heap.size]? = some (.cells #[.slice B m d] 36 (0, 0)) ∧ (∃ q : Bool, W.heap[w.heap.size + 1]? = some (.cells #[.bool q] 4 (0, 0))) ∧ W.heap[w.heap.size + 2]? = some (.cells #[.slice A n c] 36 (0, 0))
theorem PdF.kept {w W W' : World} {A B : Option Addr} {n c m d : Nat} (h : PdF w A B n c m d W) (hk : ∀ j, j < w.heap.size + 3 → W'.heap[j]? = W.heap[j]?) : PdF w A B n c m d W' := by
  obtain ⟨h1, ⟨s, h2⟩, h3⟩ := h
  exact ⟨(hk _ (by omega)).trans h1, ⟨s, (hk _ (by omega)).trans h2⟩, (hk _ (by omega)).trans h3⟩
theorem FrK.setBool {w W W' : World} {A B : Option Addr} {n c m d lo : Nat} (hI : FrK w 3 (PdF w A B n c m d) W) (hb : Below W.heap.size W W') (hlo : lo = w.heap.size + 3) (hbig : lo + 2 ≤ W.heap.size) (q : Bool) :
    (∃ q' : Bool, W'.cell? ⟨w.heap.size + 1, 0, none⟩ = some (.bool q')) ∧ W'.frozen? ⟨w.heap.size + 1, 0, none⟩ = false ∧ KeptJ (fun j => j = lo ∨ j = lo + 1) W (W'.setCell ⟨w.heap.size + 1, 0, none⟩ (.bool q)) ∧ FrK w 3 (PdF w A B n c m d) (W'.setCell ⟨w.heap.size + 1, 0, none⟩ (.bool q)) := by
  have hbg := hI.big
  have ho : ∀ j, j ≠ w.heap.size + 1 → (W'.setCell ⟨w.heap.size + 1, 0, none⟩ (.bool q)).heap[j]? = W'.heap[j]? := fun j hj => Below.heap_setCell _ _ _ _ hj
  have hsz : (W'.setCell ⟨w.heap.size + 1, 0, none⟩ (.bool q)).heap.size = W'.heap.size := by simp [World.setCell]
  have hz := hb.size
  obtain ⟨h1, ⟨q1, h2⟩, h3⟩ := hI.own
  have h2' := blk_below hb h2 (lt_blk h2)
  refine ⟨⟨q1, (cell_blk h2' 0).trans rfl⟩, frozen_blk h2' 0, ⟨by omega, fun j hj => ?_⟩, ⟨(hI.below.trans (hb.mono hI.below.size)).setCell (p := ⟨w.heap.size + 1, 0, none⟩) (Nat.le_succ _) _, by omega, ?_⟩⟩
  · exact (ho j (by rcases hj with e | e <;> omega)).trans (hb.block j (by rcases hj with e | e <;> omega))
  · exact ⟨(ho _ (by omega)).trans (blk_below hb h1 (lt_blk h1)), ⟨q, (heap_set h2' 0 _).trans rfl⟩, (ho _ (by omega)).trans (blk_below hb h3 (lt_blk h3))⟩
set_option maxHeartbeats 4000000 in
theorem parted_calls (v u : Value) (ps qs : List (Int × Int)) (w : World) (h : AtsAt w w.heap.size v ps) (h2 : AtsAt w w.heap.size u qs) : Calls Try.prog 11 #[v, u] w (BoolP w) := by
  obtain ⟨A, c, rfl, _⟩ := id h
  obtain ⟨B, d, rfl, _⟩ := id h2
  refine (callsIn_wide (n := 10)).1 ?_
  have hFw : ∀ f, Fence.wide.fn f := fun _ => trivial
  have HA := Lib.hid (And.intro h h2)
  clear h h2
  refine callsIn_of_wp_marks Try.func11 rfl trivial ?_ rfl
  simp only [Try.ntmps11, List.size_toArray, List.length_cons, List.length_nil, Nat.reduceAdd, Nat.reduceSub, Array.replicate_succ, Array.replicate_zero, List.push_toArray, List.append_toArray, List.nil_append, List.cons_append]
  gi_wp2_with fail
  obtain ⟨W0, hW0⟩ : ∃ W0, W0 = (w.alloc (.cells #[.slice B qs.length d] 36)).alloc (.cells #[.bool false] 4) := ⟨_, rfl⟩
  rw [← hW0]
  have hb0 : Below w.heap.size w W0 := by rw [hW0]; exact two_allocs _ _ _
  have g0 : W0.heap[w.heap.size]? = some (.cells #[.slice B qs.length d] 36 (0, 0)) := by rw [hW0]; exact blk_below (below1 _ _) (heap_alloc_self _ _) (by simp)
  have g1 : W0.heap[w.heap.size + 1]? = some (.cells #[.bool false] 4 (0, 0)) := by rw [hW0]; exact heap_alloc_two _ _ _
  have hz : W0.heap.size = w.heap.size + 2 := by rw [hW0]; simp
  refine (callsIn_wide.2 (sides_calls A ps.length c W0)).mono ?_
  rintro e W1 ⟨rfl, hW1⟩
  have hb1 : Below W0.heap.size W0 W1 := by rw [hW1]; exact below1 _ _
  have g2 : W1.heap[w.heap.size + 2]? = some (.cells #[.slice A ps.length c] 36 (0, 0)) := by rw [hW1, ← hz]; exact heap_alloc_self _ _
  have hz1 : W1.heap.size = w.heap.size + 3 := by rw [hW1]; simp [hz]
  have hk : FrK w 3 (PdF w A B ps.length c qs.length d) W1 := ⟨hb0.trans (hb1.mono (by omega)), by omega, blk_below hb1 g0 (by omega), ⟨false, blk_below hb1 g1 (by omega)⟩, g2⟩
  have HK := Lib.hid (And.intro hk hz1)
  rw [hz]
  clear hW0 hb0 g0 g1 hW1 hb1 g2 hz1 hk hz
  gi_wp2_with fail
  have hlo := HK.out.2
  refine wpIn_rangeSides A ps.length c ps (w.heap.size + 2) w.heap.size (d := 6) rfl (FrK w 3 (PdF w A B ps.length c qs.length d)) (fun c' W => c' = .ret ∧ FrK w 3 (PdF w A B ps.length c qs.length d) W) ?hIa ?hI ?hIx ?h0 ?assign ?body ?done ?stop
  case hIa => exact fun W h => ⟨h.own.2.2, HA.out.1.below h.below, h.below.size⟩
  case hI => exact fun W W' h hb => h.bel hb (fun j hj => by omega) fun hF hk => hF.kept hk
  case hIx => exact fun c W W' h hb => ⟨h.1, h.2.bel hb (fun j hj => by omega) fun hF hk => hF.kept hk⟩
  case h0 => exact fun W hb hz => ⟨HK.out.1.below.trans (hb.mono (by omega)), by omega, HK.out.1.own.kept fun j hj => hb.block j (by omega)⟩
  case assign =>
    intro l i x0 y0 x1 y1 W K hK
    unfold sideG sideO at *
    gi_wp2_with fail
    simpa using hK
  case body =>
    intro l sb i x0 y0 x1 y1 W hI hsb hbig hloop hl
    have hsbl := lt_blk hsb
    obtain ⟨h1, _, _⟩ := id hI.own
    have b0 : W.cell? ⟨w.heap.size, 0, none⟩ = some (.slice B qs.length d) := (cell_blk h1 0).trans rfl
    have HCF := Lib.hid (containsFuncAt_calls 42 #[.pointer (some ⟨sb, 0, none⟩)] (fun args w => by go_simp) (.slice B qs.length d) qs W ((HA.out.2.below hI.below).mono hI.below.size) (fun W' p hW' => parted1_calls sb x0 y0 x1 y1 p.1 p.2 W' (blk_below hW' hsb hsbl)))
    have HI := Lib.hid hI
    clear hI h1 hsb hloop hl
    gi_wp2_with fail
    refine (CallsIn.inRound l (callsIn_wide.2 HCF.out)).mono ?_
    rintro e W2 ⟨⟨q, rfl⟩, hb2⟩
    have HB2 := Lib.hid hb2
    clear hb2 b0
    cases q
    · obtain ⟨⟨q1, k1⟩, f1, hfin⟩ := HI.out.setBool HB2.out hlo (by omega) true
      have HFIN := Lib.hid hfin
      clear hfin
      gi_wp2_with fail
      exact ⟨HFIN.out.1, rfl, HFIN.out.2⟩
    · gi_wp2_with fail
      exact ⟨⟨HB2.out.size, fun j hj => HB2.out.block j (by rcases hj with e | e <;> omega)⟩, HI.out.below.trans (HB2.out.mono HI.out.below.size), Nat.le_trans HI.out.big HB2.out.size, HI.out.own.kept fun j hj => HB2.out.block j (by have := HI.out.big; omega)⟩
  case done =>
    intro W hI hD
    obtain ⟨h1, ⟨q, h2⟩, h3⟩ := id hI.own
    have o1 : W.cell? ⟨w.heap.size + 1, 0, none⟩ = some (.bool q) := (cell_blk h2 0).trans rfl
    have f1 := frozen_blk h2 0
    have hset := (heap_set h2 0 (.bool false)).trans rfl
    have HS := Lib.hid (hset : (W.setCell ⟨w.heap.size + 1, 0, none⟩ (.bool false)).heap[w.heap.size + 1]? = some (.cells #[.bool false] 4 (0, 0)))
    have HI := Lib.hid hI
    have HD := Lib.hid hD
    have hd' : (W.setCell ⟨w.heap.size + 1, 0, none⟩ (.bool false)).heap[w.heap.size + 3]? = some (.deferred (some [])) := (Below.heap_setCell _ _ _ _ (by show w.heap.size + 3 ≠ w.heap.size + 1; omega)).trans (by rw [← HK.out.2]; exact hD)
    have hb' : Below w.heap.size w (W.setCell ⟨w.heap.size + 1, 0, none⟩ (.bool false)) := hI.below.setCell (p := ⟨w.heap.size + 1, 0, none⟩) (Nat.le_succ _) _
    have hz' : w.heap.size + 3 ≤ (W.setCell ⟨w.heap.size + 1, 0, none⟩ (.bool false)).heap.size := by simp [World.setCell]; exact hI.big
    have HE := Lib.hid (And.intro hd' (And.intro hb' hz'))
    clear hI hD h1 h2 h3 hset hd' hb' hz'
    gi_wp2_with fail
    refine bodyPostM_ret (b := w.heap.size + 3) (hi := w.heap.size + 4) ⟨w.heap.size + 3, by omega, by rw [HK.out.2], HE.out.1, Nat.le_refl _⟩ fun w' hw' => ?_
    exact ⟨_, results_bool (by rfl) (by rfl) (hw'.cells HS.out), ⟨false, rfl⟩, HE.out.2.1.trans (hw'.below (by omega) HE.out.2.2)⟩
  case stop =>
    rintro c' W ⟨rfl, hI⟩ hD
    obtain ⟨h1, ⟨q, h2⟩, h3⟩ := id hI.own
    have HS := Lib.hid h2
    have HI := Lib.hid hI
    have HD := Lib.hid hD
    clear hI hD h1 h2 h3
    gi_wp2_with fail
    refine bodyPostM_ret (b := w.heap.size + 3) (hi := w.heap.size + 4) ⟨w.heap.size + 3, by omega, by rw [HK.out.2], by rw [← HK.out.2]; exact HD.out, Nat.le_refl _⟩ fun w' hw' => ?_
    exact ⟨_, results_bool (by rfl) (by rfl) (hw'.cells HS.out), ⟨q, rfl⟩, HI.out.below.trans (hw'.below (by omega) HI.out.big)⟩
end Go.Proofs.Ytnbnhcoaggpmaaa
