/- value: what it costs at least from a state on, by the map of those known. -/
import Derived.Test.YtnbnhcoaggpmaaaY5

namespace Go.Proofs.Ytnbnhcoaggpmaaa
open Go Go.RowKit Go.Shelf
set_option maxRecDepth 100000
attribute [local go_sem] Oper.semAt_some

/-- What the calls of value find in memory. -/
structure Env (m : Wk) (T : List St) (n0 mb xb vb kb : Nat) (sA cA mA : Option Addr) (sc cn cc mc : Nat) (w : World) : Prop where
  slopes : SlopesAt w n0 (.slice sA m.slopes.length sc) m.slopes
  crafts : McAt w n0 (.slice mA m.crafts.length mc) m.crafts
  model : w.heap[mb]? = some (.cells #[.slice sA m.slopes.length sc, .slice cA cn cc, .int .i64 m.years, .int .i64 m.visit, .int .i64 m.hands, .slice mA m.crafts.length mc] 75 (0, 0))
  known : w.heap[xb]? = some (.cells #[.map (some kb)] 120 (0, 0))
  value : w.heap[vb]? = some (.cells #[.func (.func 55) #[] #[.pointer (some ⟨mb, 0, none⟩), .pointer (some ⟨xb, 0, none⟩), .pointer (some ⟨vb, 0, none⟩)]] 84 (0, 0))
  memo : ∃ L, Memo m T kb w L
  at0 : n0 ≤ kb
theorem Env.learnt {m : Wk} {T : List St} {n0 mb xb vb kb : Nat} {sA cA mA : Option Addr} {sc cn cc mc : Nat} {w w' : World} {y : Int} (h : Env m T n0 mb xb vb kb sA cA mA sc cn cc mc w) (hl : Learnt m T kb y w w') (hn : n0 ≤ w.heap.size) :
    Env m T n0 mb xb vb kb sA cA mA sc cn cc mc w' := by
  obtain ⟨L, hL⟩ := h.memo
  obtain ⟨es, clock, hk⟩ := hL.map.obj
  have hb : Below n0 w w' := hl.1.below hn (fun k e => by rw [e]; exact h.at0)
  have ne : ∀ {k : Nat} {cs : Array Value} {t : TypeId} {f : Nat × Nat}, w.heap[k]? = some (.cells cs t f) → ¬ k = kb := fun hc e => by rw [e, hk] at hc; simp at hc
  exact ⟨h.slopes.below hb, h.crafts.below hb, hl.1.heap h.model (ne h.model), hl.1.heap h.known (ne h.known), hl.1.heap h.value (ne h.value), (hl.2 L hL).imp fun _ h => h.1, h.at0⟩

theorem Learnt.later {m : Wk} {T : List St} {b : Nat} {y : Int} {S : Nat → Prop} {w A B : World} (h : Learnt m T b y w A) (hb : b < w.heap.size) (k : Bel S A B) (hS : ∀ j, S j → w.heap.size ≤ j) : Learnt m T b y w B :=
  ⟨⟨k.os.trans h.1.os, k.tape.trans h.1.tape, k.output.trans h.1.output, Nat.le_trans h.1.size k.size, fun j hj hn => (k.block j (Nat.lt_of_lt_of_le hj h.1.size) (fun e => by have := hS j e; omega)).trans (h.1.block j hj hn)⟩,
    fun L hL => by
      obtain ⟨L1, h1, h2⟩ := h.2 L hL
      exact ⟨L1, h1.kept (k.block b (Nat.lt_of_lt_of_le hb h.1.size) (fun e => by have := hS b e; omega)), h2⟩⟩
theorem Learnt.undrew {m : Wk} {T : List St} {b : Nat} {y : Int} {A B : World} (h : Learnt m T b y A.drew B) : Learnt m T b y A B :=
  ⟨⟨h.1.os, h.1.tape, h.1.output, h.1.size, h.1.block⟩, fun L hL => h.2 L (hL.kept rfl)⟩
theorem Learnt.blk {m : Wk} {T : List St} {b : Nat} {y : Int} {A B : World} (h : Learnt m T b y A B) (hm : ∃ es clock, A.heap[b]? = some (.map es clock)) {k : Nat} {cs : Array Value} {t : TypeId} {f : Nat × Nat} (hk : A.heap[k]? = some (.cells cs t f)) :
    B.heap[k]? = some (.cells cs t f) := by
  obtain ⟨es, clock, hb⟩ := hm
  exact h.1.heap hk (fun e => by rw [e, hb] at hk; simp at hk)

theorem RowC.learnt {m : Wk} {T : List St} {b : Nat} {y : Int} {A B : World} (h : Learnt m T b y A B) (hm : ∃ es clock, A.heap[b]? = some (.map es clock)) {n : Nat} {rA : Option Addr} {vs : List Value} (hr : RowC A n rA vs) (hn : n ≤ A.heap.size) : RowC B n rA vs := by
  obtain ⟨es, clock, hb⟩ := hm
  refine ⟨hr.1, fun hne => ?_⟩
  obtain ⟨k, o, e, hlt, hc⟩ := hr.2 hne
  refine ⟨k, o, e, hlt, fun j u hu => ?_⟩
  have h1 := hc j u hu
  have hk : ¬ k = b := fun e => by rw [e, World.cell?, hb] at h1; simp at h1
  rw [World.cell?] at h1 ⊢
  rw [h.1.block k (by omega) hk]; exact h1

set_option maxHeartbeats 1000000 in
theorem value_in (m : Wk) (hm : m.Ok) (T : List St) (hT : Shut m T) (n0 mb xb vb kb : Nat) (sA cA mA : Option Addr) (sc cn cc mc : Nat) :
    ∀ (n : Nat) (s : St) (w : World), (m.years - s.y).toNat = n → s ∈ T → n0 ≤ w.heap.size → Env m T n0 mb xb vb kb sA cA mA sc cn cc mc w →
      Calls Try.prog 55 #[stV s, .pointer (some ⟨mb, 0, none⟩), .pointer (some ⟨xb, 0, none⟩), .pointer (some ⟨vb, 0, none⟩)] w
        fun e w' => e = .returned (.int .i64 (valS m s)) ∧ Learnt m T kb s.y w w' := by
  intro n
  induction n using Nat.strongRecOn with
  | _ n IH =>
    intro s w hn hs hn0 henv
    refine (callsIn_wide (n := 10)).1 ?_
    have hFw : ∀ f, Fence.wide.fn f := fun _ => trivial
    have hso := hT.ok s hs
    obtain ⟨m0, m1, m2, m3, m4, m5⟩ := blk6 henv.model
    refine callsIn_of_wp_marks Try.func55 rfl trivial ?_ rfl
    simp only [Try.ntmps55, stV, List.size_toArray, List.length_cons, List.length_nil, Nat.reduceAdd, Nat.reduceSub, Array.replicate_succ, Array.replicate_zero, List.push_toArray, List.append_toArray, List.nil_append, List.cons_append]
    have hmb := lt_blk henv.model
    have hxb := lt_blk henv.known
    have hvb := lt_blk henv.value
    have k0 : w.cell? ⟨xb, 0, none⟩ = some (.map (some kb)) := by rw [cell_blk henv.known]; rfl
    have v0 : w.cell? ⟨vb, 0, none⟩ = some (.func (.func 55) #[] #[.pointer (some ⟨mb, 0, none⟩), .pointer (some ⟨xb, 0, none⟩), .pointer (some ⟨vb, 0, none⟩)]) := by rw [cell_blk henv.value]; rfl
    obtain ⟨L0, hL0⟩ := henv.memo
    have hkb := hL0.map.lt
    have hlk := (hL0.kept ((Below.heap_alloc w (.cells #[.int .i64 s.y, .int .i64 s.a, .int .i64 s.b, .int .i64 s.c, .int .i64 s.d] 79) kb hkb).trans rfl)).look s hso.wf
    simp only [stV] at hlk
    have hIH := Lib.hid IH
    have HENV := Lib.hid henv
    have HL0 := Lib.hid hL0
    clear IH henv hL0
    have hw1 : Below w.heap.size w (w.alloc (.cells #[.int .i64 s.y, .int .i64 s.a, .int .i64 s.b, .int .i64 s.c, .int .i64 s.d] 79)) := below1 _ _
    by_cases hy : m.years ≤ s.y
    · gi_wp2_with fail
      refine bodyPostM_ret (b := w.heap.size + 1) (hi := w.heap.size + 1) (ds := []) (Nat.le_refl _) fun w' hw' => ⟨.int .i64 (valS m s), ?_, rfl, Learnt.of_below ((below1 _ _).trans (hw'.below (by omega) (by simp))) hkb⟩
      rw [valS_end hy]
      simp [results, Try.results55, go_sem]
    · by_cases hin : s ∈ L0
      · simp only [hin, if_true, decide_true] at hlk
        gi_wp2_with fail
        refine bodyPostM_ret (b := w.heap.size + 1) (hi := w.heap.size + 1) (ds := []) (Nat.le_refl _) fun w' hw' => ⟨.int .i64 (valS m s), ?_, rfl, Learnt.of_below ((below1 _ _).trans (hw'.below (by omega) (by simp))) hkb⟩
        simp [results, Try.results55, go_sem]
      · simp only [hin, if_false, decide_false] at hlk
        gi_wp2_with fail
        obtain ⟨wl, hwl⟩ : ∃ wl, wl = (w.alloc (.cells #[.int .i64 s.y, .int .i64 s.a, .int .i64 s.b, .int .i64 s.c, .int .i64 s.d] 79)).alloc (.cells #[.int .i64 2000000000] 3) := ⟨_, rfl⟩
        have hbl : Below w.heap.size w wl := by rw [hwl]; exact (below1 _ _).alloc (by simp) _
        have hzl : wl.heap.size = w.heap.size + 2 := by rw [hwl]; simp
        have gS : wl.heap[w.heap.size]? = some (.cells #[.int .i64 s.y, .int .i64 s.a, .int .i64 s.b, .int .i64 s.c, .int .i64 s.d] 79 (0, 0)) := by
          rw [hwl]; exact (Below.heap_alloc _ _ _ (by simp)).trans (heap_alloc_self _ _)
        have gL : wl.heap[w.heap.size + 1]? = some (.cells #[.int .i64 (leastTo m s 0)] 3 (0, 0)) := by
          rw [hwl, leastTo_zero]; simpa using heap_alloc_self (w.alloc _) (.cells #[.int .i64 2000000000] 3)
        rw [← hwl]
        clear hwl hlk
        have hkm : ∃ es clock, w.heap[kb]? = some (.map es clock) := HL0.out.map.obj
        have hyl : s.y < m.years := by omega
        have hm5 : 1 ≤ m.slopes.length ∧ m.slopes.length ≤ 4 := ⟨hm.some, hm.few⟩
        have GS := Lib.hid gS
        have GL := Lib.hid gL
        have HKM := Lib.hid hkm
        clear gS gL hkm
        refine wpIn_rangeRows m hm5 hm.crafts sA cA mA sc cn cc mc rfl
          (fun _ k W => Learnt m T kb (s.y + 1) w W ∧ w.heap.size + 2 ≤ W.heap.size ∧ W.heap[w.heap.size]? = some (.cells #[.int .i64 s.y, .int .i64 s.a, .int .i64 s.b, .int .i64 s.c, .int .i64 s.d] 79 (0, 0)) ∧ W.heap[w.heap.size + 1]? = some (.cells #[.int .i64 (leastTo m s k)] 3 (0, 0)))
          (fun _ _ _ _ => False) ?_ (fun _ _ _ _ _ _ h _ => h) ?_ 9 ?assign ?body ?done (fun _ _ _ _ _ _ _ h _ => h.elim)
        case assign =>
          intro l rv W K hK
          gi_wp2_with fail
          simpa using hK
        · rintro B k W1 W2 hB ⟨h1, h2, h3, h4⟩ hbel
          exact ⟨h1.later hkb hbel (fun j hj => by have := hj.1; omega), Nat.le_trans h2 hbel.size, hbel.heap h3 (fun hj => by have := hj.1; omega), hbel.heap h4 (fun hj => by have := hj.1; omega)⟩
        · intro B W1 hB hBW hbel
          exact ⟨Learnt.of_below (hbl.trans (hbel.mono (by omega))) hkb, by have := hbel.size; omega, blk_below hbel GS.out (by omega), blk_below hbel GL.out (by omega)⟩
        case done =>
          rintro B W hB ⟨h1, h2, h3, h4⟩ hD
          rw [← valS_step hyl] at h4
          obtain ⟨L1, hL1, hnew⟩ := h1.2 L0 HL0.out
          have hnin : s ∉ L1 := fun h => (hnew s h).elim hin (fun h => by omega)
          obtain ⟨w9, hst, hL9, hb9⟩ := hL1.store hm hT hs hnin
          obtain ⟨es, clock, hkW⟩ := hL1.map.obj
          have h9 : Learnt m T kb s.y w w9 := ⟨h1.1.trans (hb9.mono fun _ _ e => e), fun L hL => by
            obtain ⟨L2, h5, h6⟩ := h1.2 L hL
            have hn2 : s ∉ L2 := fun h => hnin ((hL1.same h5 hT hs).2 h)
            obtain ⟨w8, hst8, hL8, _⟩ := h5.store hm hT hs hn2
            rw [hst] at hst8
            simp only [Result.ok.injEq, true_and] at hst8
            subst hst8
            exact ⟨s :: L2, hL8, fun t ht => by
              rcases List.mem_cons.1 ht with rfl | ht
              · exact .inr (Int.le_refl _)
              · exact (h6 t ht).imp id (fun h => by omega)⟩⟩
          simp only [stV] at hst
          have k1 : W.cell? ⟨xb, 0, none⟩ = some (.map (some kb)) := by rw [cell_blk (h1.blk HKM.out HENV.out.known)]; rfl
          obtain ⟨c0, c1, c2, c3, c4⟩ := blk5 h3
          have l0 : W.cell? ⟨w.heap.size + 1, 0, none⟩ = some (.int .i64 (valS m s)) := by rw [cell_blk h4]; rfl
          have l9 : w9.cell? ⟨w.heap.size + 1, 0, none⟩ = some (.int .i64 (valS m s)) := by rw [cell_blk (hb9.heap h4 (fun e => by omega))]; rfl
          have hD9 := hb9.heap hD (fun e => by omega)
          clear h3 h4 hkW hD
          gi_wp2_with fail
          refine bodyPostM_ret (b := wl.heap.size) (hi := wl.heap.size + 1) ⟨wl.heap.size, by omega, rfl, hD9, Nat.le_refl _⟩ fun w' hw' => ⟨.int .i64 (valS m s), ?_, rfl, ?_⟩
          · simp [results, Try.results55, go_sem]
          · refine h9.later hkb (S := fun k => wl.heap.size ≤ k) ⟨hw'.os, hw'.tape, hw'.output, by rw [hw'.size]; exact Nat.le_refl _, fun k _ hk => hw'.low k (by omega)⟩ (fun k hk => by omega)
        case body =>
          rintro l B k W rv row hB hBW hrow ⟨h1, h2, h3, h4⟩ ⟨rA, rc, rfl, hrc⟩
          have hrm : row ∈ rowsS m := List.mem_of_getElem? hrow
          have hro := (rowsS_mem hrm).1
          have hls := leastTo_succ (s := s) hrow
          have hE := HENV.out.learnt h1 hn0
          obtain ⟨c0, c1, c2, c3, c4⟩ := blk5 h3
          obtain ⟨q0, q1, q2, q3, q4, q5⟩ := blk6 hE.model
          have hstep := step_calls m s (.slice cA cn cc) _ _ rA rc row W hm hso hro (hE.slopes.mono (by omega)) (hE.crafts.mono (by omega)) (hrc.mono hBW)
          have HSTEP := Lib.hid hstep
          have HLS := Lib.hid hls
          have HE := Lib.hid hE
          have HRC := Lib.hid hrc
          have HROW := Lib.hid hrow
          clear hstep hls hE hrc hrow
          gi_wp2_with (gi_at_call 24; refine (CallsIn.inRound l (callsIn_wide.2 HSTEP.out)).mono ?_; rintro e w2 ⟨rfl, hb2⟩)
          · rename_i hk
            have hbw : Below W.heap.size W (w2.alloc (.cells #[.int .i64 (stepS m s row).y, .int .i64 (stepS m s row).a, .int .i64 (stepS m s row).b, .int .i64 (stepS m s row).c, .int .i64 (stepS m s row).d] 79)) := hb2.alloc hb2.size _
            have gB : (w2.alloc (.cells #[.int .i64 (stepS m s row).y, .int .i64 (stepS m s row).a, .int .i64 (stepS m s row).b, .int .i64 (stepS m s row).c, .int .i64 (stepS m s row).d] 79)).heap[w2.heap.size]? = some (.cells #[.int .i64 (stepS m s row).y, .int .i64 (stepS m s row).a, .int .i64 (stepS m s row).b, .int .i64 (stepS m s row).c, .int .i64 (stepS m s row).d] 79 (0, 0)) := heap_alloc_self _ _
            have hsz2 := hb2.size
            obtain ⟨W3, hW3⟩ : ∃ W3, W3 = w2.alloc (.cells #[.int .i64 (stepS m s row).y, .int .i64 (stepS m s row).a, .int .i64 (stepS m s row).b, .int .i64 (stepS m s row).c, .int .i64 (stepS m s row).d] 79) := ⟨_, rfl⟩
            rw [← hW3] at hbw gB ⊢
            clear hW3 hb2
            have hlW : Learnt m T kb (s.y + 1) W W3 := Learnt.of_below hbw (by omega)
            have gL3 := blk_below hbw h4 (by omega)
            have gS3 := blk_below hbw h3 (by omega)
            have hkm3 : ∃ es clock, W3.heap[kb]? = some (.map es clock) := by
              obtain ⟨L1, hL1, _⟩ := (h1.trans hlW).2 L0 HL0.out
              exact hL1.map.obj
            have hE3 := HE.out.learnt hlW (by omega)
            have hrc3 := HRC.out.learnt hlW (by
              obtain ⟨L1, hL1, _⟩ := h1.2 L0 HL0.out
              exact hL1.map.obj) hBW
            have hq : ∀ w4, Learnt m T kb (s.y + 1) W3 w4 → _ := fun w4 hw4 => And.intro (blk6 (hw4.blk hkm3 hE3.model)) (And.intro (blk5 (hw4.blk hkm3 gB)) (And.intro (show w4.cell? ⟨vb, 0, none⟩ = some (.func (.func 55) #[] #[.pointer (some ⟨mb, 0, none⟩), .pointer (some ⟨xb, 0, none⟩), .pointer (some ⟨vb, 0, none⟩)]) by rw [cell_blk (hw4.blk hkm3 hE3.value)]; rfl) (show w4.cell? ⟨w.heap.size + 1, 0, none⟩ = some (.int .i64 (leastTo m s k)) by rw [cell_blk (hw4.blk hkm3 gL3)]; rfl)))
            have hT2 : stepS m s row ∈ T := hT.next s hs hyl row hrm hk
            have hcb := costS_bd hm hro
            have hvb2 := valS_bd hm (stepS m s row)
            have hadd : IntKind.i64.wrap (costS m row + valS m (stepS m s row)) = costS m row + valS m (stepS m s row) := IntWalk.i64_in _ (by omega)
            have hy2 : (m.years - (stepS m s row).y).toNat < n := by rw [stepS_y]; omega
            have hsz3 := hbw.size
            have HQ := Lib.hid hq
            have HE3 := Lib.hid hE3
            have HT2 := Lib.hid hT2
            have HRC3 := Lib.hid hrc3
            have HADD := Lib.hid hadd
            have HKM3 := Lib.hid hkm3
            clear hq hE3 hT2 hrc3 hadd hkm3 c0 c1 c2 c3 c4 q0 q1 q2 q3 q4 q5 m0 m1 m2 m3 m4 m5 k0 v0
            refine wpIn_region_rg_tail 9 (Learnt m T kb (s.y + 1)) (fun | 3 => .ex (.int .i64 (costS m row)) | 6 => .ex (.int .i64 (valS m (stepS m s row))) | _ => .fn) (by kernel_rfl) (fun _ => trivial) (by kernel_rfl) (Learnt.refl _ _ _ _) (fun _ _ _ h k => h.trans k) (by intro i; split <;> trivial) ?_
            iterate 3 (refine rg_step fun K hK => ?_; apply rg_fn rfl; (intro w4 hw; obtain ⟨⟨q0, q1, q2, q3, q4, q5⟩, ⟨b0, b1, b2, b3, b4⟩, bv, bl⟩ := HQ.out _ hw.undrew; go_simp; try rfl); go_simp; (try with_reducible refine hK _ _ ?_); try clear hK K)
            refine rg_step fun K hK => ?_
            apply rg_call (.inr ⟨l, rfl⟩) rfl
            · intro w4 hw
              go_simp
              exact ⟨rfl, rfl⟩
            · intro w4 hw
              have hw' := hw.undrew
              have hE4 := HE3.out.learnt hw' (by omega)
              refine (cost_calls m _ (.slice cA cn cc) _ rA rc row w4 hm hro (hE4.slopes.mono (by have := hw'.1.size; omega)) (hE4.crafts.mono (by have := hw'.1.size; omega)) ((HRC3.out.learnt hw' HKM3.out (by omega)).mono (by have := hw'.1.size; omega))).mono ?_
              rintro e w5 ⟨he, hb⟩
              exact ⟨he, Learnt.of_below hb (by have := hw'.1.size; omega)⟩
            go_simp
            (try with_reducible refine hK _ _ ?_)
            try clear hK K
            iterate 2 (refine rg_step fun K hK => ?_; apply rg_fn rfl; (intro w4 hw; obtain ⟨⟨q0, q1, q2, q3, q4, q5⟩, ⟨b0, b1, b2, b3, b4⟩, bv, bl⟩ := HQ.out _ hw.undrew; go_simp; try rfl); go_simp; (try with_reducible refine hK _ _ ?_); try clear hK K)
            refine rg_step fun K hK => ?_
            apply rg_call (.inr ⟨l, rfl⟩) rfl
            · intro w4 hw
              go_simp
              exact ⟨rfl, rfl⟩
            · intro w4 hw
              have hw' := hw.undrew
              exact hIH.out _ hy2 (stepS m s row) w4 rfl HT2.out (by have := hw'.1.size; omega) (HE3.out.learnt hw' (by omega))
            go_simp
            (try with_reducible refine hK _ _ ?_)
            try clear hK K
            iterate 2 (refine rg_step fun K hK => ?_; apply rg_fn rfl; (intro w4 hw; have hadd := HADD.out; go_simp; try rfl); go_simp; (try with_reducible refine hK _ _ ?_); try clear hK K)
            refine rg_nil ?_
            intro w5 hw5 _
            replace hw5 := hw5.undrew
            have g5 := hw5.blk HKM3.out gL3
            have s5 := hw5.blk HKM3.out gS3
            have l5 : w5.cell? ⟨w.heap.size + 1, 0, none⟩ = some (.int .i64 (leastTo m s k)) := by rw [cell_blk g5]; rfl
            have f5 := frozen_blk g5 0
            have hs5 := hw5.1.size
            have H1 := Lib.hid h1
            have HLW := Lib.hid hlW
            have HW5 := Lib.hid hw5
            clear h1 hlW hw5
            simp only [List.drop_succ_cons, List.drop_zero]
            gi_wp2_with fail
            all_goals
              have hbB : Bel (fun j => j = kb ∨ j = w.heap.size + 1) W w5 := HLW.out.1.mono (fun _ _ e => .inl e) |>.trans (HW5.out.1.mono (fun _ _ e => .inl e))
              refine ⟨KeptMid.of_bel (hbB.setCell (p := ⟨w.heap.size + 1, 0, none⟩) (fun _ => .inr rfl) _) hBW (fun j hj hm => ?_), ((H1.out.trans HLW.out).trans HW5.out).later hkb ((Bel.refl (fun j => j = w.heap.size + 1) w5).setCell (p := ⟨w.heap.size + 1, 0, none⟩) (fun _ => rfl) _) (fun j hj => by omega), ?_, ?_, ?_⟩
              · have h1 := hm.1
                rcases hj with rfl | rfl
                · omega
                · omega
              · have := hs5; simp only [World.setCell, Array.size_modify]; omega
              · exact (Below.heap_setCell _ _ _ _ (by simp)).trans s5
              · rw [heap_set g5, HLS.out, if_pos hk]
                simp
                omega
          · rename_i hk
            have hk' : keptS m s row = false := by simpa using hk
            have hbw : Below W.heap.size W (w2.alloc (.cells #[.int .i64 (stepS m s row).y, .int .i64 (stepS m s row).a, .int .i64 (stepS m s row).b, .int .i64 (stepS m s row).c, .int .i64 (stepS m s row).d] 79)) := hb2.alloc hb2.size _
            refine ⟨KeptMid.of_bel (S := fun _ => False) ⟨hbw.os, hbw.tape, hbw.output, hbw.size, fun k hk _ => hbw.block k hk⟩ hBW (fun _ h => h.elim), h1.later hkb (Bel.of_below (S := fun _ => False) hbw) (fun _ h => h.elim), Nat.le_trans h2 hbw.size, blk_below hbw h3 (by omega), ?_⟩
            rw [HLS.out, hk']
            exact blk_below hbw h4 (by omega)
end Go.Proofs.Ytnbnhcoaggpmaaa
