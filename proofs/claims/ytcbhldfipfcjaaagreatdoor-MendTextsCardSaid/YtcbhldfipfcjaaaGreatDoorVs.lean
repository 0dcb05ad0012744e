/- Values. -/
import Derived.Test.YtcbhldfipfcjaaaGreatDoorWo

namespace Go.Proofs.YtcbhldfipfcjaaaGreatDoor
open Go Go.RowKit Go.Shelf
set_option maxRecDepth 100000
attribute [local go_sem] run_store_func

theorem infoWorth : (Tryz.prog.info? 110).map (fun i => (i.zero, i.size, i.bytes)) = some (some (.agg #[.int .i64 0, .slice none 0 0, .int .i64 0]), 3, 40) := by kernel_rfl
def ValuesPost (m : Wk) (w : World) (e : Ending) (w' : World) : Prop :=
  ∃ v, e = .returned (.tuple #[v, .int .i64 (valuesS m).2]) ∧ WorthsAt w' w'.heap.size v (valuesS m).1 ∧ Below w.heap.size w w'

/-- What a call of states leaves. -/
def StsD (m : Wk) (v : Value) (w : World) : Prop :=
  (2000 < (allS m (firstS m)).length ∧ v = .tuple #[.slice none 0 0, .bool false]) ∨
    ((allS m (firstS m)).length ≤ 2000 ∧ ∃ u L, v = .tuple #[u, .bool true] ∧ L.Perm (allS m (firstS m)) ∧ StsAt w w.heap.size u (sortL L))
theorem StsD.grows {m : Wk} {v : Value} {w w' : World} (h : Grows w w') : StsD m v w → StsD m v w' := by
  rintro (h1 | ⟨h1, u, L, h2, h3, h4⟩)
  · exact .inl h1
  · exact .inr ⟨h1, u, L, h2, h3, (h4.below h).mono (Below.size h)⟩
def pairV : { S : Value → Prop // ∃ u, S u } := ⟨fun v => ∃ A n c b, v = .tuple #[.slice A n c, .bool b], _, none, 0, 0, true, rfl⟩

/-- What the rounds of Values keep. -/
structure VsInv (m : Wk) (L : List St) (sA cA mA : Option Addr) (sc cc mc : Nat) (w W6 : World) (n0 B b5 mb xb vb kb j : Nat) (W : World) (v : Value) : Prop where
  since : Below n0 W6 W
  below : Below w.heap.size w W
  works : W.heap[w.heap.size]? = some (.cells #[.slice sA m.slopes.length sc, .slice cA m.crafts.length cc, .int .i64 m.years, .int .i64 m.visit, .int .i64 m.hands] 25 (0, 0))
  rows : OwnW W B v (worths m ((sortL L).take j))
  model : W.heap[b5]? = some (.cells #[.slice sA m.slopes.length sc, .slice cA m.crafts.length cc, .int .i64 m.years, .int .i64 m.visit, .int .i64 m.hands, .slice mA m.crafts.length mc] 90 (0, 0))
  env : Env m L n0 mb xb vb kb sA cA mA sc m.crafts.length cc mc W
  lt : EnvLt n0 mb xb vb kb B
  le : B ≤ W.heap.size
  p1 : w.heap.size < b5
  p2 : b5 < n0
theorem VsInv.kept {m : Wk} {L : List St} {sA cA mA : Option Addr} {sc cc mc : Nat} {w W6 : World} {n0 B b5 mb xb vb kb j : Nat} {W W' : World} {v : Value} (h : VsInv m L sA cA mA sc cc mc w W6 n0 B b5 mb xb vb kb j W v) (hb : Below B W W') {v' : Value} {j' : Nat} (hr : OwnW W' B v' (worths m ((sortL L).take j'))) :
    VsInv m L sA cA mA sc cc mc w W6 n0 B b5 mb xb vb kb j' W' v' where
  since := h.since.trans (hb.mono h.lt.n0)
  below := h.below.trans (hb.mono (by have := h.p1; have := h.p2; have := h.lt.n0; omega))
  works := blk_below hb h.works (by have := h.p1; have := h.p2; have := h.lt.n0; omega)
  rows := hr
  model := blk_below hb h.model (by have := h.p2; have := h.lt.n0; omega)
  env := h.env.below hb h.lt
  lt := h.lt
  le := Nat.le_trans h.le hb.size
  p1 := h.p1
  p2 := h.p2
theorem VsInv.learnt {m : Wk} {L : List St} {sA cA mA : Option Addr} {sc cc mc : Nat} {w W6 : World} {n0 B b5 mb xb vb kb j : Nat} {W W' : World} {v : Value} {y : Int} (h : VsInv m L sA cA mA sc cc mc w W6 n0 B b5 mb xb vb kb j W v) (hl : Learnt m L kb y W W') :
    VsInv m L sA cA mA sc cc mc w W6 n0 B b5 mb xb vb kb j W' v := by
  have hkm : ∃ es clock, W.heap[kb]? = some (.map es clock) := by obtain ⟨L0, hL0⟩ := h.env.memo; exact hL0.map.obj
  have hk0 := h.env.at0
  have hp1 := h.p1
  have hp2 := h.p2
  have hlt := h.lt.n0
  have hle := h.le
  exact { since := h.since.trans (hl.1.below (n := n0) (by omega) (fun k e => by omega))
          below := h.below.trans (hl.1.below (n := w.heap.size) (by omega) (fun k e => by omega))
          works := hl.blk hkm h.works
          rows := h.rows.kept fun k cs t hB hc => (hl.blk hkm hc).trans hc.symm
          model := hl.blk hkm h.model
          env := h.env.learnt hl (by omega)
          lt := h.lt
          le := Nat.le_trans hle hl.1.size
          p1 := hp1
          p2 := hp2 }

theorem own_learnt {m : Wk} {T : List St} {b : Nat} {y : Int} {A B : World} (h : Learnt m T b y A B) (hm : ∃ L0, Memo m T b A L0) {base e size n : Nat} {v : Value} {xs : List Value} (ho : A.ownsRow base e size v n xs) : B.ownsRow base e size v n xs := by
  obtain ⟨L0, hL0⟩ := hm
  refine own_kept ho fun k hk => ?_
  obtain ⟨cur, hc⟩ := own_type ho k hk
  exact (h.blk hL0.map.obj hc).trans hc.symm
def RowD (m : Wk) (T : List St) (kb base : Nat) (xs : List Int) (v : Value) (w : World) : Prop := w.ownsRow base 3 1 v xs.length (xs.map (Value.int .i64)) ∧ ∃ L0, Memo m T kb w L0
theorem RowD.learnt {m : Wk} {T : List St} {kb base : Nat} {xs : List Int} {v : Value} {y : Int} {A B : World} (h : Learnt m T kb y A B) (k : RowD m T kb base xs v A) : RowD m T kb base xs v B :=
  ⟨own_learnt h k.2 k.1, by obtain ⟨L0, hL0⟩ := k.2; exact (h.2 L0 hL0).imp fun _ h => h.1⟩
def aggCells : List Value → Array Value
  | [.agg cs] => cs
  | _ => #[]
def OneD (m : Wk) (T : List St) (kb : Nat) (t : TypeId) (l : List Value) (v : Value) (w : World) : Prop := (∃ b, v = .slice (some ⟨b, 0, none⟩) 1 1 ∧ w.heap[b]? = some (.cells (aggCells l) t (0, 0))) ∧ ∃ L0, Memo m T kb w L0
theorem OneD.learnt {m : Wk} {T : List St} {kb : Nat} {t : TypeId} {l : List Value} {v : Value} {y : Int} {A B : World} (h : Learnt m T kb y A B) (k : OneD m T kb t l v A) : OneD m T kb t l v B := by
  obtain ⟨⟨b, h1, h2⟩, L0, hL0⟩ := k
  exact ⟨⟨b, h1, h.blk hL0.map.obj h2⟩, (h.2 L0 hL0).imp fun _ h => h.1⟩

set_option maxHeartbeats 4000000 in
theorem values_of (m : Wk) (sl cr : Value) (w : World) (hsl : SlopesAt w w.heap.size sl m.slopes) (hcr : CraftsAt w w.heap.size cr m.crafts) :
    Calls Tryz.prog 17 #[.agg #[sl, cr, .int .i64 m.years, .int .i64 m.visit, .int .i64 m.hands]] w (ValuesPost m w) := by
  obtain ⟨w0, hw0⟩ : ∃ w0, w0 = w.alloc (.cells #[sl, cr, .int .i64 m.years, .int .i64 m.visit, .int .i64 m.hands] 25) := ⟨_, rfl⟩
  have z0 : w0.heap.size = w.heap.size + 1 := by rw [hw0]; simp
  have b0 : Below w.heap.size w w0 := by rw [hw0]; exact below1 _ _
  have g0 : w0.heap[w.heap.size]? = some (.cells #[sl, cr, .int .i64 m.years, .int .i64 m.visit, .int .i64 m.hands] 25 (0, 0)) := by rw [hw0]; exact heap_alloc_self _ _
  have hchk := check_calls m sl cr w0 ((hsl.below b0).mono (by omega)) ((hcr.below b0).mono (by omega))
  have HW0 := Lib.hid hw0
  have HCHK := Lib.hid hchk
  have HB0 := Lib.hid b0
  have HG := Lib.hid g0
  clear hw0 hchk b0 g0
  by_cases hc : checkS m = 0
  · have hm := checkS_ok hc
    obtain ⟨sA, sc, rfl, _, _⟩ := id hsl
    obtain ⟨cA, cc, rfl, _, _⟩ := id hcr
    have HSL := Lib.hid hsl
    have HCR := Lib.hid hcr
    have HCK := Lib.hid hc
    rw [hc] at HCHK
    clear hsl hcr hc
    go_enter Tryz.func17, Tryz.ntmps17
    go_wp2_with fail
    rw [← HW0.out]
    refine HCHK.out.mono ?_
    rintro e w1 ⟨rfl, hb1⟩
    have k0 := blk_below hb1 HG.out (by omega)
    obtain ⟨x0, x1, x2, x3, x4⟩ := blk5 k0
    have z1 := hb1.size
    have HB1 := Lib.hid (HB0.out.trans (hb1.mono (by omega)))
    have K := Lib.hid k0
    clear hb1 k0 HCHK HB0 HG HW0
    go_wp2_with fail
    refine (modelOf_calls m.crafts sA m.slopes.length sc (.slice cA m.crafts.length cc) m.years m.visit m.hands w1 hm.crafts ((HCR.out.below HB1.out).mono (by omega))).mono ?_
    rintro e w2 ⟨mc, rfl, hmc2, hb2⟩
    obtain ⟨mA, mcap, rfl, _⟩ := id hmc2
    clear x0 x1 x2 x3 x4
    go_wp2_with fail
    obtain ⟨w3, hw3⟩ : ∃ w3, w3 = w2.alloc (.cells #[.slice sA m.slopes.length sc, .slice cA m.crafts.length cc, .int .i64 m.years, .int .i64 m.visit, .int .i64 m.hands, .slice mA m.crafts.length mcap] 90) := ⟨_, rfl⟩
    rw [← hw3]
    have hb3 : Below w2.heap.size w2 w3 := by rw [hw3]; exact below1 _ _
    have m3 : w3.heap[w2.heap.size]? = some (.cells #[.slice sA m.slopes.length sc, .slice cA m.crafts.length cc, .int .i64 m.years, .int .i64 m.visit, .int .i64 m.hands, .slice mA m.crafts.length mcap] 90 (0, 0)) := by rw [hw3]; exact heap_alloc_self _ _
    have z2 := hb2.size
    have z3 : w3.heap.size = w2.heap.size + 1 := by rw [hw3]; simp
    have hb13 := hb2.trans (hb3.mono hb2.size)
    have HB3 := Lib.hid (HB1.out.trans (hb13.mono (by omega)))
    have K3 := Lib.hid (blk_below hb13 K.out (lt_blk K.out))
    have M3 := Lib.hid m3
    have MC3 := Lib.hid ((hmc2.below hb3).mono (show w2.heap.size ≤ w3.heap.size by omega))
    have hq : ∀ w4, Grows w3 w4 → _ := fun w4 hw4 => blk6 (blk_below hw4 M3.out (lt_blk M3.out))
    have HQ := Lib.hid hq
    clear hq m3 hmc2 hb2 hb3 hb13 hw3 K HB1
    refine wp_region_rg_tail 8 Grows (fun | 2 => .ex (stV (firstS m)) | 3 => .any pairV (fun _ v w4 => StsD m v w4) | _ => .fn) (by kernel_rfl) (by kernel_rfl) Grows.refl growsT
      (by intro i; split <;> first | trivial | exact (fun l v w1 w2 h => StsD.grows h)) ?_
    iterate 2 (refine rg_step fun K hK => ?_; apply rg_fn rfl; (intro w4 hw; obtain ⟨m0, m1, m2, m3, m4, m5⟩ := HQ.out w4 hw.undrew; go_simp; try rfl); go_simp; (try with_reducible refine hK _ _ ?_); try clear hK K)
    refine rg_step fun K hK => ?_
    apply rg_call (.inl rfl) rfl
    · intro w4 hw
      go_simp
      exact ⟨rfl, rfl⟩
    · intro w4 hw
      refine (first_calls m (.slice sA m.slopes.length sc) (.slice cA m.crafts.length cc) (.slice mA m.crafts.length mcap) m.years m.visit m.hands w4 hm.few (((HSL.out.below HB3.out).below (hw.undrew.mono (by omega))).mono (by have := hw.undrew.size; omega))).mono ?_
      rintro e w5 ⟨rfl, hb⟩
      exact ⟨rfl, hb⟩
    go_simp
    (try with_reducible refine hK _ _ ?_)
    try clear hK K
    refine rg_step fun K hK => ?_
    apply rg_call_any (.inl rfl) rfl
    · intro w4 hw
      go_simp
      exact ⟨rfl, rfl⟩
    · intro w4 hw
      refine (states_calls m hm (firstS m) (firstS_ok hm) (by show (0 : Int) ≤ m.years; exact hm.years.1) sA cA mA sc m.crafts.length cc mcap w4 (((HSL.out.below HB3.out).below (hw.undrew.mono (by omega))).mono (by have := hw.undrew.size; omega)) ((MC3.out.below hw.undrew).mono hw.undrew.size)).mono ?_
      rintro e w5 ⟨hb, ⟨hmany, rfl⟩ | ⟨hfew, lv, L, rfl, hperm, hown⟩⟩
      · exact ⟨_, rfl, hb, ⟨none, 0, 0, false, rfl⟩, .inl ⟨hmany, rfl⟩⟩
      · obtain ⟨A, n, c, rfl⟩ := own_slice hown
        exact ⟨_, rfl, hb, ⟨A, n, c, true, rfl⟩, .inr ⟨hfew, _, L, rfl, hperm, sts_own (by rw [sortL_length]; exact hown)⟩⟩
    rintro v9 ⟨lA, ln, lc, lb, rfl⟩
    go_simp
    (try with_reducible refine hK _ _ ?_)
    try clear hK K
    iterate 4 (refine rg_step fun K hK => ?_; apply rg_fn rfl; (intro w4 hw; go_simp; try rfl); go_simp; (try with_reducible refine hK _ _ ?_); try clear hK K)
    refine rg_nil ?_
    intro w6 hw6 hsts
    replace hw6 := hw6.undrew
    have z6 := hw6.size
    have HB6 := Lib.hid (HB3.out.trans (hw6.mono (by omega)))
    have K6 := Lib.hid (blk_below hw6 K3.out (lt_blk K3.out))
    have M6 := Lib.hid (blk_below hw6 M3.out (lt_blk M3.out))
    have MC6 := Lib.hid ((MC3.out.below hw6).mono hw6.size)
    clear HQ hw6 K3 M3 MC3 HB3
    simp only [List.drop_succ_cons, List.drop_zero]
    rcases hsts with ⟨hmany, he⟩ | ⟨hfew, u, L, he, hperm, hlist⟩
    · simp only [Value.tuple.injEq, Array.mk.injEq, List.cons.injEq, and_true, Value.slice.injEq, Value.bool.injEq] at he
      obtain ⟨⟨rfl, rfl, rfl⟩, rfl⟩ := he
      have hlt : valuesS m = ([], 3) := by unfold valuesS; rw [if_pos HCK.out, if_pos hmany]
      have HLT := Lib.hid hlt
      clear hlt hmany
      go_wp2_with fail
      go_ret2
      exact ⟨.slice none 0 0, by rw [HLT.out]; rfl, by rw [HLT.out]; exact WorthsAt.nil _ _, HB6.out⟩
    · obtain rfl : lb = true := by simp at he; exact he.2
      obtain rfl : u = .slice lA ln lc := by simp at he; exact he.symm
      have hlen : L.length ≤ 2000 := by rw [hperm.length_eq]; exact hfew
      have hT := allS_shut hm (firstS_ok hm) (show (firstS m).y ≤ m.years from hm.years.1) hperm hlen
      have hlt : valuesS m = (worths m (sortL L), 0) := by unfold valuesS; rw [if_pos HCK.out, if_neg (by omega), sortL_perm hperm]
      obtain ⟨lA, lc, e, hsts⟩ := hlist
      cases e
      have hlS := sortL_length L
      have HLT := Lib.hid hlt
      have HT := Lib.hid hT
      have HSTS := Lib.hid hsts
      have m6 := blk6 M6.out
      obtain ⟨m0, m1, m2, m3, m4, m5⟩ := m6
      clear hlt hT hsts hperm hfew he
      go_wp2_with fail
      refine (values_calls m L sA cA mA sc m.crafts.length cc mcap w6 ((HSL.out.below HB6.out).mono (by omega)) MC6.out).mono ?_
      rintro e w7 ⟨mb, xb, vb, kb, rfl, henv, hb7⟩
      unfold valueV
      have z7 := hb7.size
      have hlt7 := henv.lt hb7.size
      have h0 : VsInv m L sA cA mA sc cc mcap w w6 w6.heap.size w7.heap.size w2.heap.size mb xb vb kb 0 w7 (.slice none 0 0) :=
        ⟨hb7, HB6.out.trans (hb7.mono (by omega)), blk_below hb7 K6.out (lt_blk K6.out), OwnW.nil _ _, blk_below hb7 M6.out (lt_blk M6.out), henv, hlt7, Nat.le_refl _, by omega, by omega⟩
      have H0 := Lib.hid h0
      have HS7 := Lib.hid hb7
      clear henv hb7 hlt7 h0 m0 m1 m2 m3 m4 m5 K6 M6 MC6
      go_wp2_with fail
      go_loopw [9, 32] (fun v i wr => ∃ k : Nat, k ≤ (sortL L).length ∧ i = .int .i64 (k : Int) ∧ (∃ A n c, v = .slice A n c) ∧ Hid (VsInv m L sA cA mA sc cc mcap w w6 w6.heap.size w7.heap.size w2.heap.size mb xb vb kb k wr v)) (fun _ i _ => (sortL L).length - (intOf i).toNat)
      case atStart => exact ⟨0, Nat.zero_le _, rfl, ⟨none, 0, 0, rfl⟩, H0⟩
      case round =>
        obtain ⟨k, hk, rfl, ⟨A9, n9, c9, rfl⟩, HI⟩ := hrel
        by_cases hkl : k < (sortL L).length
        · obtain ⟨bl, rfl, hbl, hsc⟩ := HSTS.out (by intro e; rw [e] at hkl; simp at hkl)
          have hget : (sortL L)[k]? = some (sortL L)[k] := List.getElem?_eq_getElem hkl
          obtain ⟨q0, q1, q2, q3, q4⟩ := hsc k _ hget
          generalize hte : (sortL L)[k] = t at *
          have HGET := Lib.hid hget
          have htL : t ∈ L := sortL_mem.1 (List.mem_of_getElem? hget)
          have key : ∀ j, wr.cell? ⟨bl, j, none⟩ = w6.cell? ⟨bl, j, none⟩ := fun j => HI.out.since.cell (p := ⟨bl, j, none⟩) hbl
          have q0 := (key _).trans q0
          have q1 := (key _).trans q1
          have q2 := (key _).trans q2
          have q3 := (key _).trans q3
          have q4 := (key _).trans q4
          have hil : (k : Int) < (L.length : Int) := by omega
          have hil2 : (k : Int) < ((sortL L).length : Int) := by omega
          have hi0 : (0 : Int) ≤ (k : Int) := by omega
          have hadd : IntKind.i64.wrap ((k : Int) + 1) = (k : Int) + 1 := IntWalk.i64_in _ (by omega)
          obtain ⟨W1, hW1⟩ : ∃ W1, W1 = wr.alloc (.cells #[.int .i64 t.y, .int .i64 t.a, .int .i64 t.b, .int .i64 t.c, .int .i64 t.d] 95) := ⟨_, rfl⟩
          have zW : W1.heap.size = wr.heap.size + 1 := by rw [hW1]; simp
          have bW : Below wr.heap.size wr W1 := by rw [hW1]; exact below1 _ _
          have gW : W1.heap[wr.heap.size]? = some (.cells #[.int .i64 t.y, .int .i64 t.a, .int .i64 t.b, .int .i64 t.c, .int .i64 t.d] 95 (0, 0)) := by rw [hW1]; exact heap_alloc_self _ _
          have hI1 := HI.out.kept (bW.mono HI.out.le) (v' := .slice A9 n9 c9) (j' := k) (HI.out.rows.kept fun k cs t _ hc => bW.block k (lt_blk hc))
          have HI1 := Lib.hid hI1
          have HW1 := Lib.hid hW1
          have HG1 := Lib.hid gW
          clear hsc key hte hW1 gW bW hI1 hget
          have x5 := blk5 HI1.out.works
          have y5 := blk5 HG1.out
          rw [HW1.out] at x5 y5
          obtain ⟨x0, x1, x2, x3, x4⟩ := x5
          obtain ⟨y0, y1, y2, y3, y4⟩ := y5
          by_cases hyl : t.y < m.years
          · have hin := worths_in (m := m) HGET.out hyl
            have hdl : decide (t.y < m.years) = true := by simpa using hyl
            have HO := Lib.hid hin
            have hvb := valS_bd hm t
            have hso := HT.out.ok t htL
            clear hin
            go_wp2_with fail
            rw [← HW1.out]
            have hkm1 : ∃ L0, Memo m L kb W1 L0 := HI1.out.env.memo
            have hkm : ∃ es clock, W1.heap[kb]? = some (.map es clock) := by obtain ⟨L0, hL0⟩ := hkm1; exact hL0.map.obj
            have hq : ∀ w4, Learnt m L kb 0 W1 w4 → _ := fun w4 hw4 => And.intro (blk6 (hw4.blk hkm HI1.out.model)) (blk5 (hw4.blk hkm HG1.out))
            have hval := fun w5 (hw5 : Learnt m L kb 0 W1 w5) => value_in m hm L HT.out w6.heap.size mb xb vb kb sA cA mA sc m.crafts.length cc mcap _ t w5 rfl htL (by have := (HI1.out.learnt hw5).lt.n0; have := (HI1.out.learnt hw5).le; omega) (HI1.out.learnt hw5).env
            have hall := fun w5 => all_calls m t sA sc (.slice cA m.crafts.length cc) (.slice mA m.crafts.length mcap) m.years m.visit m.hands w5 hm.few
            have hys : (0 : Int) ≤ t.y := hso.year.1
            have HQ := Lib.hid hq
            have HVAL := Lib.hid hval
            have HALL := Lib.hid hall
            have HKM1 := Lib.hid hkm1
            have HKM := Lib.hid hkm
            clear hq hval hall hkm1 hkm x0 x1 x2 x3 x4 y0 y1 y2 y3 y4
            refine wp_region_rg_tail 11 (Learnt m L kb 0) (fun | 5 => .any sliceV (fun _ v w4 => RowD m L kb W1.heap.size (thicks m t) v w4) | 8 => .ex (.int .i64 (valS m t)) | 10 => .any anyV (fun l v w4 => OneD m L kb 110 l v w4) | _ => .fn) (by kernel_rfl) (by kernel_rfl) (Learnt.refl _ _ _ _) (fun _ _ _ h k => h.trans k)
              (by intro i; split <;> first | trivial | exact (fun l v w1 w2 h => RowD.learnt h) | exact (fun l v w1 w2 h => OneD.learnt h)) ?_
            iterate 5 (refine rg_step fun K hK => ?_; apply rg_fn rfl; (intro w4 hw; obtain ⟨⟨m0, m1, m2, m3, m4, m5⟩, ⟨y0, y1, y2, y3, y4⟩⟩ := HQ.out w4 hw.undrew; go_simp; try rfl); go_simp; (try with_reducible refine hK _ _ ?_); try clear hK K)
            refine rg_step fun K hK => ?_
            apply rg_call_any (.inl rfl) rfl
            · intro w4 hw
              go_simp
              exact ⟨rfl, rfl⟩
            · intro w4 hw
              refine (HALL.out w4).mono ?_
              rintro e w5 ⟨v', he, ho, hb⟩
              have hkb := (HI1.out.learnt hw.undrew).lt.kb
              have hle := (HI1.out.learnt hw.undrew).le
              have hz := hw.undrew.1.size
              have hlw : Learnt m L kb 0 w4 w5 := Learnt.of_below hb (by omega)
              exact ⟨v', he, hlw, own_slice ho, own_mono ho hz, ((hw.undrew.trans hlw).2 _ HKM1.out.choose_spec).imp fun _ h => h.1⟩
            rintro v9 ⟨A8, n8, c8, rfl⟩
            go_simp
            (try with_reducible refine hK _ _ ?_)
            try clear hK K
            iterate 2 (refine rg_step fun K hK => ?_; apply rg_fn rfl; (intro w4 hw; obtain ⟨⟨m0, m1, m2, m3, m4, m5⟩, ⟨y0, y1, y2, y3, y4⟩⟩ := HQ.out w4 hw.undrew; go_simp; try rfl); go_simp; (try with_reducible refine hK _ _ ?_); try clear hK K)
            refine rg_step fun K hK => ?_
            apply rg_call (.inl rfl) rfl
            · intro w4 hw
              go_simp
              exact ⟨rfl, rfl⟩
            · intro w4 hw
              refine (HVAL.out w4 hw.undrew).mono ?_
              rintro e w5 ⟨he, hb⟩
              exact ⟨he, hb.mono hys⟩
            go_simp
            (try with_reducible refine hK _ _ ?_)
            try clear hK K
            iterate 1 (refine rg_step fun K hK => ?_; apply rg_fn rfl; (intro w4 hw; go_simp; try rfl); go_simp; (try with_reducible refine hK _ _ ?_); try clear hK K)
            refine rg_step fun K hK => ?_
            apply rg_any rfl
            · intro w4 hw
              have hkb := (HI1.out.learnt hw.undrew).lt.kb
              have hle := (HI1.out.learnt hw.undrew).le
              have hlw : Learnt m L kb 0 w4 (w4.alloc (.cells #[.int .i64 t.y, .slice A8 n8 c8, .int .i64 (valS m t)] 110)) := Learnt.of_below (below1 _ _) (by omega)
              refine ⟨.slice (some ⟨w4.heap.size, 0, none⟩) 1 1, w4.alloc (.cells #[.int .i64 t.y, .slice A8 n8 c8, .int .i64 (valS m t)] 110), ?_, hlw, trivial, ⟨_, rfl, heap_alloc_self _ _⟩, ((hw.undrew.trans hlw).2 _ HKM1.out.choose_spec).imp fun _ h => h.1⟩
              go_simp
              try rfl
            rintro v10 _
            go_simp
            (try with_reducible refine hK _ _ ?_)
            try clear hK K
            refine rg_nil ?_
            intro w5 hw5 hD
            obtain ⟨⟨hrow, _⟩, ⟨⟨b, rfl, hblk⟩, _⟩⟩ := hD
            replace hblk : w5.heap[b]? = some (.cells #[.int .i64 t.y, .slice A8 n8 c8, .int .i64 (valS m t)] 110 (0, 0)) := hblk
            replace hw5 := hw5.undrew
            have hI5 := HI1.out.learnt hw5
            obtain ⟨us, hu0, hu1, hu2⟩ := hI5.rows
            have hle5 := hI5.le
            have HI5 := Lib.hid hI5
            have HU := Lib.hid (And.intro hu0 (And.intro hu1 hu2))
            have HROW := Lib.hid (own_mono (b' := w7.heap.size) hrow (by have := HI1.out.le; omega))
            have hwl := worths_le m ((sortL L).take k)
            have hwl2 : ((sortL L).take k).length ≤ 2000 := by rw [List.length_take]; omega
            have HWL := Lib.hid (And.intro hwl hwl2)
            clear HQ HVAL HALL hI5 hrow hw5 hwl hwl2
            obtain ⟨A4, n4, c4, e4⟩ := own_slice hu1
            cases e4
            simp only [List.drop_succ_cons, List.drop_zero]
            refine wpList_app2 w7.heap.size _ _ 47 110 (.agg #[.int .i64 0, .slice none 0 0, .int .i64 0]) 3 40 [.int .i64 t.y, .slice A8 n8 c8, .int .i64 (valS m t)] (by rfl) (by rfl) Tryz.underlying47 infoWorth rfl (by decide) (by decide) (.slice A9 n9 c9) _ _ (by rfl) b (by rfl) hblk rfl (by simp [Value.oneCell']) hu1 (by have := HWL.out; omega) hle5 ?_
            intro v11 w13 hown11 hg13 hat13 hb13
            obtain ⟨A11, n11, c11, rfl⟩ := own_slice hown11
            have hrows : OwnW w13 w7.heap.size (.slice A11 n11 c11) (worths m ((sortL L).take (k + 1))) := by
              rw [HO.out]
              exact OwnW.snoc HU.out.1 HU.out.2.1 HU.out.2.2 HROW.out hown11 hg13
            have HI13 := Lib.hid (HI5.out.kept hb13 hrows (j' := k + 1))
            clear hown11 hg13 hat13 hb13 hrows hu0 hu1 hu2 hblk
            go_wp2_with fail
            go_round
            case rel => exact ⟨k + 1, by omega, by go_num, ⟨_, _, _, rfl⟩, HI13⟩
            case measure => simp [intOf]; omega
          · have hout := worths_out (m := m) HGET.out hyl
            have hdl : decide (t.y < m.years) = false := by simpa using hyl
            have HO := Lib.hid hout
            clear hout
            go_wp2_with fail
            rw [← HW1.out]
            go_round
            case rel => exact ⟨k + 1, by omega, by go_num, ⟨_, _, _, rfl⟩, Lib.hid (HI1.out.kept (Below.refl _ _) (by rw [HO.out]; exact HI1.out.rows))⟩
            case measure => simp [intOf]; omega
        · obtain rfl : k = (sortL L).length := by omega
          have hil : ¬ ((sortL L).length : Int) < (L.length : Int) := by omega
          go_wp2_with fail
          go_ret2
          refine ⟨.slice A9 n9 c9, by rw [HLT.out]; rfl, ?_, HI.out.below⟩
          rw [HLT.out]
          have hr := HI.out.rows
          rw [List.take_length] at hr
          exact hr.worths (by have := worths_le m (sortL L); omega) (fun x hx => by
            unfold worths at hx
            obtain ⟨s, _, rfl⟩ := List.mem_map.1 hx
            show (thicks m s).length ≤ _
            rw [thicks_length]; have := hm.few; omega)
  · have hne : (checkS m != 0) = true := by simpa using hc
    have hne2 : (!(checkS m == 0)) = true := by simpa using hc
    have hlt : valuesS m = ([], checkS m) := by unfold valuesS; rw [if_neg hc]
    have HLT := Lib.hid hlt
    clear hlt hc
    go_enter Tryz.func17, Tryz.ntmps17
    go_wp2_with fail
    rw [← HW0.out]
    refine HCHK.out.mono ?_
    rintro e w1 ⟨rfl, hb1⟩
    have HB1 := Lib.hid (HB0.out.trans (hb1.mono (by omega)))
    clear hb1
    go_wp2_with fail
    go_ret2
    exact ⟨.slice none 0 0, by rw [HLT.out]; rfl, by rw [HLT.out]; exact WorthsAt.nil _ _, HB1.out⟩
end Go.Proofs.YtcbhldfipfcjaaaGreatDoor
