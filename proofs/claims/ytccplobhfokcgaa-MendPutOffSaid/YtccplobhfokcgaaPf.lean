/- MendPutOff: the walk. -/
import Derived.Test.YtccplobhfokcgaaLc
import Derived.Test.YtccplobhfokcgaaPn
import Derived.Test.YtccplobhfokcgaaOs
namespace Go.Proofs.Ytccplobhfokcgaa
open Go Go.RowKit Go.Shelf
set_option maxRecDepth 100000

/-- Two copies of a plan's first rows, side by side. -/
def Twice (w : World) (B : Nat) (v1 v2 : Value) (xss : List (List Int)) : Prop := ∃ S1 S2 : Nat → Prop, (∀ k, S1 k → ¬ S2 k) ∧ OwnS w B S1 v1 xss ∧ OwnS w B S2 v2 xss
/-- What one copy of a row makes. -/
structure RowCopy (wi : World) (row : List Int) (u : Value) (W : World) : Prop where
  below : Below wi.heap.size wi W
  own : W.ownsRow wi.heap.size 3 1 u row.length (row.map (Value.int .i64))

set_option maxHeartbeats 16000000 in
theorem mendPutOff_calls (m : Wk) (sl cr : Value) (year slope : Int) (w : World) (hsl : SlopesAt w w.heap.size sl m.slopes) (hcr : CraftsAt w w.heap.size cr m.crafts) :
    Calls Try.prog 13 #[.agg #[sl, cr, .int .i64 m.years, .int .i64 m.visit, .int .i64 m.hands], .int .i64 year, .int .i64 slope] w (LawPost w) := by
  obtain ⟨sA, sc, rfl, _, _⟩ := id hsl
  obtain ⟨cA, cc, rfl, _, _⟩ := id hcr
  obtain ⟨w0, hw0⟩ : ∃ w0, w0 = w.alloc (.cells #[.slice sA m.slopes.length sc, .slice cA m.crafts.length cc, .int .i64 m.years, .int .i64 m.visit, .int .i64 m.hands] 25) := ⟨_, rfl⟩
  have h0 := LawInv.start hsl hcr
  rw [← hw0] at h0
  have x5 := blk5 h0.box
  rw [hw0] at x5
  obtain ⟨x0, x1, x2, x3, x4⟩ := x5
  have H0 := Lib.hid h0
  have HW0 := Lib.hid hw0
  clear h0 hw0 hsl hcr
  go_enter Try.func13, Try.ntmps13
  go_wp2_with fail
  rw [← HW0.out]
  refine (great_calls m _ _ w0 H0.out.slopes H0.out.crafts).mono ?_
  rintro e w1 ⟨⟨g, rfl⟩, hb1⟩
  have H1 := Lib.hid (H0.out.later hb1)
  clear hb1 x0 x1 x2 x3 x4 H0 HW0
  cases g
  · obtain ⟨x0, x1, x2, x3, x4⟩ := blk5 H1.out.box
    go_wp2_with fail
    refine (cheap_calls m _ _ w1 H1.out.slopes H1.out.crafts).mono ?_
    rintro e w2 ⟨v2, rfl, hr2, hb2⟩
    have H2 := Lib.hid (H1.out.later hb2)
    clear hb2 H1 x0 x1 x2 x3 x4
    by_cases he : (cheapS m).2.2.2 = 0
    · cases hf : (cheapS m).2.2.1
      · generalize (cheapS m).2.2.2 = ce at *
        have he1 : (ce != 0) = false := by simp [he]
        have he2 : (!(ce == 0)) = false := by simp [he]
        clear he hf
        go_wp2_with (go_at_call 16; refine (runs_law H2.out).mono ?_; rintro e wr ⟨rfl, hr⟩; have HR := Lib.hid hr; clear hr)
        go_ret
        exact HR.out
      · obtain ⟨hck, hfew, hv, hch⟩ := cheapS_fine he hf
        have hput := putFacts hck hv
        rw [hch] at hr2
        simp only [] at hr2
        rw [hch]
        simp only []
        clear he hf hck hfew hv hch
        generalize planS m = P at *
        generalize valS m (firstS m) = V at *
        have HPUT := Lib.hid hput
        have hm := hput.ok
        have hpl1 : (P.length : Int) ≤ m.years := Int.le_of_eq hput.len
        have hpl2 : m.years ≤ (P.length : Int) := Int.le_of_eq hput.len.symm
        have hyb := hm.years
        have hbd := hm.few
        have hsome := hm.some
        have hvb := hput.val
        have hvis := hm.visit
        have HM := Lib.hid hm
        obtain ⟨pA, pc, rfl, _, hpr⟩ := id hr2
        have HPR := Lib.hid hpr
        have HR2 := Lib.hid hr2
        have hlt := late_calls m (.slice sA m.slopes.length sc) (.slice cA m.crafts.length cc) _ P year slope w2 H2.out.slopes H2.out.crafts hr2
        have HLT := Lib.hid hlt
        clear hput hpr hr2 hlt hm
        obtain ⟨x0, x1, x2, x3, x4⟩ := blk5 H2.out.box
        go_wp2_with fail
        refine HLT.out.mono ?_
        rintro e w3 ⟨rfl, hb3⟩
        have H3 := Lib.hid (H2.out.later hb3)
        have HB3 := Lib.hid hb3
        have z23 := hb3.size
        clear hb3 H2 x0 x1 x2 x3 x4 HLT
        obtain ⟨x0, x1, x2, x3, x4⟩ := blk5 H3.out.box
        by_cases hy0 : year < 0
        · rw [HPUT.out.bad year slope (.inl hy0)]
          simp only []
          go_wp2_with (go_at_call 16; refine (runs_law H3.out).mono ?_; rintro e wr ⟨rfl, hr⟩; have HR := Lib.hid hr; clear hr)
          go_ret
          exact HR.out
        · by_cases hy1 : year ≥ m.years
          · rw [HPUT.out.bad year slope (.inr (.inl hy1))]
            simp only []
            go_wp2_with (go_at_call 16; refine (runs_law H3.out).mono ?_; rintro e wr ⟨rfl, hr⟩; have HR := Lib.hid hr; clear hr)
            go_ret
            exact HR.out
          · by_cases hs0 : slope < 0
            · rw [HPUT.out.bad year slope (.inr (.inr (.inl hs0)))]
              simp only []
              go_wp2_with (go_at_call 16; refine (runs_law H3.out).mono ?_; rintro e wr ⟨rfl, hr⟩; have HR := Lib.hid hr; clear hr)
              go_ret
              exact HR.out
            · by_cases hs1 : slope ≥ (m.slopes.length : Int)
              · rw [HPUT.out.bad year slope (.inr (.inr (.inr (.inl hs1))))]
                simp only []
                go_wp2_with (go_at_call 16; refine (runs_law H3.out).mono ?_; rintro e wr ⟨rfl, hr⟩; have HR := Lib.hid hr; clear hr)
                go_ret
                exact HR.out
              · obtain ⟨yr, rfl⟩ := Int.eq_ofNat_of_zero_le (Int.not_lt.1 hy0)
                obtain ⟨s, rfl⟩ := Int.eq_ofNat_of_zero_le (Int.not_lt.1 hs0)
                have hyl : yr < P.length := by omega
                have hsl : s < m.slopes.length := by omega
                have hrl := HPUT.out.row yr hyl
                have hrs : s < P[yr].length := by rw [hrl]; exact hsl
                obtain ⟨pb, po, rfl, hpb, hpc⟩ := HPR.out (by intro e; rw [e] at hyl; simp at hyl)
                have hgY : P[yr]? = some P[yr] := List.getElem?_eq_getElem hyl
                obtain ⟨u1, hu1, rA, rc, rfl, hr1⟩ := hpc yr _ hgY
                obtain ⟨rb, ro, rfl, hrb, hrc⟩ := hr1.at_ s (by simpa using hrs)
                simp only [List.getElem_map] at hrc
                have hcv : P[yr][s] = cellP P yr s := by unfold cellP; rw [getD_lt hyl, getD_lt hrs]
                rw [hcv] at hrc
                have hk1 := (HB3.out.cell (p := ⟨pb, po + yr, none⟩) hpb).trans hu1
                have hk2 := (HB3.out.cell (p := ⟨rb, ro + s, none⟩) hrb).trans hrc
                have hyi : (yr : Int) < (P.length : Int) := by omega
                have hsi : (s : Int) < (P[yr].length : Int) := by omega
                have hyi0 : (0 : Int) ≤ (yr : Int) := by omega
                have hsi0 : (0 : Int) ≤ (s : Int) := by omega
                have HC := Lib.hid (And.intro hu1 hrc)
                have HPC := Lib.hid hpc
                clear hu1 hrc hr1 hpc hcv
                by_cases hneg : cellP P yr s < 0
                · rw [HPUT.out.bad yr s (.inr (.inr (.inr (.inr (by simpa using hneg)))))]
                  generalize cellP P yr s = cv at *
                  simp only []
                  go_wp2_with (go_at_call 16; refine (runs_law H3.out).mono ?_; rintro e wr ⟨rfl, hr⟩; have HR := Lib.hid hr; clear hr)
                  go_ret
                  exact HR.out
                · obtain ⟨n, hln, hyn, hnP, hgood⟩ := HPUT.out.good yr s hyl hsl hneg
                  rw [hln]
                  simp only []
                  have HGOOD := Lib.hid hgood
                  generalize hcv : cellP P yr s = cv at *
                  have HCV := Lib.hid hcv
                  have hn1 : ¬ (n : Int) < (yr : Int) := by omega
                  have hn2 : ¬ (n : Int) ≥ m.years := by omega
                  clear hgood hln hcv
                  go_wp2_with fail
                  clear x0 x1 x2 x3 x4 hk1 hk2
                  go_loopw [12, 13, 14] (fun v1 v2 c wr => ∃ j : Nat, j ≤ P.length ∧ c = .int .i64 (j : Int) ∧ (∃ A n c, v1 = .slice A n c) ∧ (∃ A n c, v2 = .slice A n c) ∧ Hid (Below w3.heap.size w3 wr) ∧ Hid (Twice wr w3.heap.size v1 v2 (P.take j))) (fun _ _ c _ => P.length - (intOf c).toNat)
                  case atStart => exact ⟨0, Nat.zero_le _, rfl, ⟨none, 0, 0, rfl⟩, ⟨none, 0, 0, rfl⟩, Lib.hid (Below.refl _ _), Lib.hid ⟨_, _, fun k h => h.elim, OwnS.nil _ _, OwnS.nil _ _⟩⟩
                  case round =>
                    obtain ⟨j, hj, rfl, ⟨A1, n1, c1, rfl⟩, ⟨A2, n2, c2, rfl⟩, HB, HT⟩ := hrel
                    obtain ⟨wi, rfl⟩ : ∃ wi, wi = wr := ⟨_, rfl⟩
                    have zi := HB.out.size
                    by_cases hjl : j < P.length
                    · have hji : (j : Int) < (P.length : Int) := by omega
                      have hj0 : (0 : Int) ≤ (j : Int) := by omega
                      have hjadd : IntKind.i64.wrap ((j : Int) + 1) = (j : Int) + 1 := IntWalk.i64_in _ (by omega)
                      have hgj : P[j]? = some P[j] := List.getElem?_eq_getElem hjl
                      obtain ⟨u3, hu3, rA3, rc3, rfl, hur3⟩ := HPC.out j _ hgj
                      have hts : P.take (j + 1) = P.take j ++ [P[j]] := List.take_succ_eq_append_getElem hjl
                      have hrl3 := HPUT.out.row j hjl
                      have hrl3a : 1 ≤ P[j].length := by omega
                      have hrl3b : P[j].length ≤ 4 := by omega
                      have hw2i : Below w2.heap.size w2 wi := HB3.out.trans (HB.out.mono z23)
                      have hjt : (P.take j).length = j := by rw [List.length_take]; omega
                      have hpcell : ∀ W, Below w2.heap.size w2 W → W.cell? ⟨pb, po + j, none⟩ = some (.slice rA3 P[j].length rc3) := fun W hW => (hW.cell (p := ⟨pb, po + j, none⟩) hpb).trans hu3
                      have hrowat := fun W (hW : Below w2.heap.size w2 W) => hur3.below hW
                      clear hrl3 hur3 hu3 hgj
                      generalize P[j] = row at *
                      obtain ⟨ad, rfl⟩ : ∃ ad, rA3 = some ad := by
                        obtain ⟨b, o, e, _⟩ := (hrowat w2 (Below.refl _ _)).at_ 0 (by simp; omega)
                        exact ⟨_, e⟩
                      have hnews : ∀ W, Below w2.heap.size w2 W → ∀ k u, (row.map (Value.int .i64))[k]? = some u → W.cell? (ad.add k) = some u := by
                        intro W hW k u hu
                        obtain ⟨b, o, e, _, hc⟩ := (hrowat W hW).2 (by intro e; simp [e] at hu)
                        cases e
                        rw [show (⟨b, o, none⟩ : Addr).add k = ⟨b, o + k, none⟩ by unfold Addr.add; split <;> simp_all]
                        exact hc k u hu
                      have HNEWS := Lib.hid hnews
                      have HPCELL := Lib.hid hpcell
                      have HTS := Lib.hid hts
                      have HW2I := Lib.hid hw2i
                      clear hnews hpcell hts hrowat
                      obtain ⟨S1, S2, hdis, ho1, ho2⟩ := HT.out
                      obtain ⟨vs1, bs1, a1, a2, a3, a4, a5, a6, a7⟩ := id ho1
                      have s2lt : ∀ k, S2 k → k < wi.heap.size := by obtain ⟨_, _, _, _, _, _, _, _, h7⟩ := id ho2; exact h7
                      have HA := Lib.hid (And.intro a2 (And.intro a3 (And.intro a4 (And.intro a5 (And.intro a6 a7)))))
                      have a1' := a1
                      rw [hjt] at a1'
                      have hown1 := fun W (hW : Below wi.heap.size wi W) => own_below a1' hW (fun k hk => (own_blk_lt a1' k hk).2)
                      have HOWN1 := Lib.hid hown1
                      have HA1 := Lib.hid a1
                      have HO2 := Lib.hid ho2
                      have HDIS := Lib.hid (And.intro hdis s2lt)
                      have hrow0 := HPCELL.out (wi.alloc (.cells #[] 3)) (hw2i.trans ((below1 _ _).mono hw2i.size))
                      obtain ⟨i0, hi, hz0, hz1, hz2⟩ := info_parts infoInt
                      have hspread : ∀ wj : World, ∀ v' W', W'.ownsRow wj.heap.size 3 1 v' (0 + row.length) ([] ++ row.map (Value.int .i64)) → (wj.alloc (.cells #[] 3)).grownBy W' (Value.ownBlock (.slice (some ⟨wj.heap.size, 0, none⟩) 0 0)) → RowCopy wj row v' W' := fun wj v' W' h1 h2 =>
                        ⟨(below1 wj (.cells #[] 3)).grown h2 (by simp) (fun k hk => by cases hk; exact Nat.le_refl _), by simpa using h1⟩
                      have HSPREAD := Lib.hid hspread
                      have hempty : ∀ wj : World, (wj.alloc (.cells #[] 3)).ownsRow wj.heap.size 3 1 (.slice (some ⟨wj.heap.size, 0, none⟩) 0 0) 0 [] := fun wj =>
                        ⟨rfl, .inr ⟨wj.heap.size, 0, #[], rfl, Nat.le_refl _, heap_alloc_self _ _, Nat.le_refl _, by simp [maxLen], rfl, rfl⟩⟩
                      have HEMPTY := Lib.hid hempty
                      have hnl : row ≠ [] := fun e => by rw [e] at hrl3a; simp at hrl3a
                      -- what stands behind the first append
                      have hmid : ∀ (w5 : World) (u5 v6 : Value) (w6 : World), RowCopy wi row u5 w5 → w6.ownsRow w3.heap.size 36 1 v6 (j + 1) (vs1 ++ [u5]) → (w5.alloc (.cells #[u5] 36)).grownBy w6 (Value.ownBlock (.slice A1 n1 c1)) →
                          (v6.ownBlock = Value.ownBlock (.slice A1 n1 c1) ∨ ∃ b, v6.ownBlock = some b ∧ (w5.alloc (.cells #[u5] 36)).heap.size ≤ b) → Below w3.heap.size (w5.alloc (.cells #[u5] 36)) w6 →
                          ∃ S1' : Nat → Prop, (∀ k, S2 k → ¬ S1' k) ∧ OwnS w6 w3.heap.size S1' v6 (P.take (j + 1)) ∧ OwnS w6 w3.heap.size S2 (.slice A2 n2 c2) (P.take j) ∧ Below w3.heap.size w3 w6 := fun w5 u5 v6 w6 hc5 hown6 hg6 hat6 hb6 => by
                        have hW5 : Below wi.heap.size wi (w5.alloc (.cells #[u5] 36)) := hc5.below.trans ((below1 _ _).mono hc5.below.size)
                        have hs1 := OwnS.snoc (W0 := wi) hnl hW5 a1 a2 a3 a4 a5 a6 a7 (own_below hc5.own (below1 w5 (.cells #[u5] 36)) (fun k hk => (own_blk_lt hc5.own k hk).2)) zi (by rw [hjt]; exact hown6) hg6 hat6
                        refine ⟨_, fun k h2 h1 => ?_, by rw [HTS.out]; exact hs1, OwnS.beside ho2 hW5 a5 hdis hg6, HB.out.trans ((hW5.mono zi).trans hb6)⟩
                        rcases h1 with h1 | h1
                        · exact hdis k h1 h2
                        · have := s2lt k h2; omega
                      have HMID := Lib.hid hmid
                      clear hspread hempty hdis ho1 ho2 a1 a2 a3 a4 a5 a6 a7 a1' hown1 hw2i hmid s2lt
                      go_wp2_with (first
                        | (at_builtin; (refine wpList_append_own _ rfl _ _ 36 rfl wi.heap.size 3 i0 (.int .i64 0) 1 8 Try.underlying36 hi hz0 hz1 hz2 rfl (by decide) _ 0 [] rfl (HEMPTY.out wi) ad row.length rc3 (row.map (Value.int .i64)) rfl (by simp) (HNEWS.out _ (HW2I.out.trans ((below1 _ _).mono HW2I.out.size))) (by simp [Value.oneCell']) (by simp only [maxLen]; omega) (by omega) (by simp) ?_); intro v5 w5 hown5 hg5 _; have HC5 := Lib.hid (HSPREAD.out wi v5 w5 hown5 hg5); clear hown5 hg5; obtain ⟨A5, n5, c5, rfl⟩ := own_slice HC5.out.own)
                        | (at_builtin; (refine wpList_app2 w3.heap.size _ _ 26 36 (.slice none 0 0) 1 24 [.slice A5 n5 c5] (by rfl) (by rfl) Try.underlying26 infoRow rfl (by decide) (by decide) (.slice A1 n1 c1) j vs1 (by rfl) w5.heap.size (by rfl) (heap_alloc_self _ _) rfl (by simp [Value.oneCell']) (HOWN1.out _ (HC5.out.below.trans ((below1 _ _).mono HC5.out.below.size))) (by omega) (by have := HC5.out.below.size; simp; omega) ?_); intro v6 w6 hown6 hg6 hat6 hb6; obtain ⟨A6, n6, c6, rfl⟩ := own_slice hown6; have HX6 := Lib.hid (HMID.out w5 _ _ w6 HC5.out hown6 hg6 hat6 hb6); clear hown6 hg6 hat6 hb6; obtain ⟨S1', hd6, hs61, hs62, hb36⟩ := HX6.out; obtain ⟨vs2, bs2, d1, d2, d3, d4, d5, d6, d7⟩ := id hs62; have d1' := d1; rw [hjt] at d1'; have hown2 := fun W (hW : Below w6.heap.size w6 W) => own_below d1' hW (fun k hk => (own_blk_lt d1' k hk).2); have HOWN2 := Lib.hid hown2; have hw26 : Below w2.heap.size w2 w6 := HB3.out.trans (hb36.mono z23); have HW26 := Lib.hid hw26; have hrow1 := HPCELL.out (w6.alloc (.cells #[] 3)) (hw26.trans ((below1 _ _).mono hw26.size)); have z36 := hb36.size; have HD6 := Lib.hid (And.intro hd6 (And.intro hs61 (And.intro d1 (And.intro d2 (And.intro d3 (And.intro d4 (And.intro d5 (And.intro d6 (And.intro d7 hb36))))))))); clear hd6 hs61 hs62 d1 d2 d3 d4 d5 d6 d7 d1' hown2 hw26 hb36 hrow0 HX6)
                        | (at_builtin; (refine wpList_append_own _ rfl _ _ 36 rfl w6.heap.size 3 i0 (.int .i64 0) 1 8 Try.underlying36 hi hz0 hz1 hz2 rfl (by decide) _ 0 [] rfl (HEMPTY.out w6) ad row.length rc3 (row.map (Value.int .i64)) rfl (by simp) (HNEWS.out _ (HW26.out.trans ((below1 _ _).mono HW26.out.size))) (by simp [Value.oneCell']) (by simp only [maxLen]; omega) (by omega) (by simp) ?_); intro v7 w7 hown7 hg7 _; have HC7 := Lib.hid (HSPREAD.out w6 v7 w7 hown7 hg7); clear hown7 hg7; obtain ⟨A7, n7, c7, rfl⟩ := own_slice HC7.out.own)
                        | (at_builtin; (refine wpList_app2 w3.heap.size _ _ 26 36 (.slice none 0 0) 1 24 [.slice A7 n7 c7] (by rfl) (by rfl) Try.underlying26 infoRow rfl (by decide) (by decide) (.slice A2 n2 c2) j vs2 (by rfl) w7.heap.size (by rfl) (heap_alloc_self _ _) rfl (by simp [Value.oneCell']) (HOWN2.out _ (HC7.out.below.trans ((below1 _ _).mono HC7.out.below.size))) (by omega) (by have := HC7.out.below.size; simp; omega) ?_); intro v8 w8 hown8 hg8 hat8 hb8; obtain ⟨A8, n8, c8, rfl⟩ := own_slice hown8; have HX8 := Lib.hid (And.intro hown8 (And.intro hg8 (And.intro hat8 hb8))); clear hown8 hg8 hat8 hb8 hrow1))
                      obtain ⟨hown8, hg8, hat8, hb8⟩ := HX8.out
                      obtain ⟨hd6, hs61, d1, d2, d3, d4, d5, d6, d7, hb36⟩ := HD6.out
                      have hW7 : Below w6.heap.size w6 (w7.alloc (.cells #[.slice A7 n7 c7] 36)) := HC7.out.below.trans ((below1 _ _).mono HC7.out.below.size)
                      have hs2 := OwnS.snoc (W0 := w6) hnl hW7 d1 d2 d3 d4 d5 d6 d7 (own_below HC7.out.own (below1 w7 (.cells #[.slice A7 n7 c7] 36)) (fun k hk => (own_blk_lt HC7.out.own k hk).2)) z36 (by rw [hjt]; exact hown8) hg8 hat8
                      have hs1 := OwnS.beside hs61 hW7 d5 hd6 hg8
                      have hlt1 : ∀ k, S1' k → k < w6.heap.size := by obtain ⟨_, _, _, _, _, _, _, _, h7⟩ := id hs61; exact h7
                      rw [← HTS.out] at hs2
                      have htw : Twice w8 w3.heap.size (.slice A6 n6 c6) (.slice A8 n8 c8) (P.take (j + 1)) := ⟨S1', _, fun k h1 h2 => by
                        rcases h2 with h2 | h2
                        · exact hd6 k h2 h1
                        · have := hlt1 k h1; omega, hs1, hs2⟩
                      have HTW := Lib.hid htw
                      have HB8 := Lib.hid (hb36.trans ((hW7.mono z36).trans hb8))
                      clear hown8 hg8 hat8 hb8 hd6 hs61 d1 d2 d3 d4 d5 d6 d7 hb36 hW7 hs2 hs1 hlt1 htw
                      go_round
                      case rel => exact ⟨j + 1, by omega, by go_num, ⟨_, _, _, rfl⟩, ⟨_, _, _, rfl⟩, HB8, HTW⟩
                      case measure => simp [intOf]; omega
                    · obtain rfl : j = P.length := by omega
                      have hji : ¬ ((P.length : Int) < (P.length : Int)) := by omega
                      obtain ⟨S1, S2, hdis, ho1, ho2⟩ := HT.out
                      rw [List.take_length] at ho1 ho2
                      have hod2 := ho2.toD
                      obtain ⟨kL, cL, bL, ccL, curL, eL, qL, fL, hBL, hhL, hcL, cbL, hcbL⟩ := hod2.one hgY
                      cases eL
                      obtain ⟨sL, _⟩ := ho2.row hgY rfl qL
                      have hcLs : wi.cell? ⟨kL, s, none⟩ = some (.int .i64 P[yr][s]) := by rw [cell_blk hhL]; exact hcL s _ (List.getElem?_eq_getElem hrs)
                      have hfLs := frozen_blk hhL s
                      have hodL := hod2.setAt hgY rfl qL hrs (-1)
                      have hkL : ∀ k, S1 k → k ≠ kL := fun k hk e => hdis k hk (by rw [e]; exact sL)
                      obtain ⟨w6, hw6⟩ : ∃ w6, w6 = wi.setCell ⟨kL, s, none⟩ (.int .i64 (-1)) := ⟨_, rfl⟩
                      have ho16 : OwnS w6 w3.heap.size S1 (.slice A1 n1 c1) P := by
                        rw [hw6]
                        exact ho1.kept (fun k hk => Below.heap_setCell _ _ _ _ (hkL k hk)) (by simp [World.setCell])
                      have hb6 : Below w3.heap.size w3 w6 := by rw [hw6]; exact HB.out.setCell (p := ⟨kL, s, none⟩) hBL _
                      rw [← hw6] at hodL
                      have hL6 := H3.out.later hb6
                      have hrl4 : ∀ xs ∈ P, xs.length ≤ 1000000 := fun xs hx => by
                        obtain ⟨i, hi⟩ := List.getElem?_of_mem hx
                        have hil := (List.getElem?_eq_some_iff.1 hi).1
                        have := HPUT.out.row i hil
                        rw [(List.getElem?_eq_some_iff.1 hi).2] at this
                        omega
                      have hrows6 := hodL.rows (by rw [List.length_set]; omega) (fun xs hx => by
                        rcases List.mem_or_eq_of_mem_set hx with h | h
                        · exact hrl4 xs h
                        · rw [h, List.length_set, hrl]; omega)
                      have hfl := follow_calls m (.slice sA m.slopes.length sc) (.slice cA m.crafts.length cc) _ (P.set yr (P[yr].set s (-1))) w6 hL6.slopes hL6.crafts hrows6
                      have hx5 := blk5 hL6.box
                      rw [hw6] at hx5
                      obtain ⟨x0, x1, x2, x3, x4⟩ := hx5
                      have HW6 := Lib.hid hw6
                      have HL6 := Lib.hid hL6
                      have HB6 := Lib.hid hb6
                      have HO16 := Lib.hid ho16
                      have HFL := Lib.hid hfl
                      have HRL4 := Lib.hid hrl4
                      have hpo := HPUT.out.out yr s hyl hsl
                      clear hdis ho1 ho2 hod2 fL hBL hhL hcL hcbL sL hodL hkL ho16 hb6 hL6 hrows6 hfl hw6 hrl4
                      generalize hpx : P[yr][s] = px at *
                      go_wp2_with fail
                      rw [← HW6.out]
                      refine HFL.out.mono ?_
                      rintro e w7 ⟨v7, rfl, _, hb7⟩
                      have HL7 := Lib.hid (HL6.out.later hb7)
                      have HB7 := Lib.hid (HB6.out.trans (hb7.mono HB6.out.size))
                      have HO17 := Lib.hid (HO16.out.below hb7)
                      clear hb7 x0 x1 x2 x3 x4 hcLs hfLs qL
                      obtain ⟨hpo1, hpo2⟩ := hpo
                      rw [hpo1]
                      clear hpo1
                      generalize (followS m (P.set yr (P[yr].set s (-1)))).2.2.1 = a7 at *
                      generalize (followS m (P.set yr (P[yr].set s (-1)))).2.1 = c7 at *
                      have hcases : ¬ a7 < 0 ∨ a7 < 0 ∧ ¬ c7 < V := by
                        by_cases h : a7 < 0
                        · exact .inr ⟨h, by have := hpo2 h; omega⟩
                        · exact .inl h
                      clear hpo2
                      by_cases hnyr : n = yr
                      · subst hnyr
                        have hq1 : ((n : Int) == (n : Int)) = true := by simp
                        rcases hcases with hc1 | ⟨hc1, hc2⟩
                        all_goals
                          go_wp2_with (go_at_call 16; refine (runs_law HL7.out).mono ?_; rintro e wr ⟨rfl, hr⟩; have HR := Lib.hid hr; clear hr)
                          go_ret
                          exact HR.out
                      · obtain ⟨g1, g2, g3, g4, g5⟩ := HGOOD.out hnyr
                        have hq1 : ((n : Int) == (yr : Int)) = false := by simp; omega
                        have HG := Lib.hid (And.intro g2 (And.intro g3 (And.intro g4 g5)))
                        have hrlN := HPUT.out.row n hnP
                        have hrsN : s < P[n].length := by rw [hrlN]; exact hsl
                        have hgN : P[n]? = some P[n] := List.getElem?_eq_getElem hnP
                        have hw27 : Below w2.heap.size w2 w7 := HB3.out.trans (HB7.out.mono z23)
                        obtain ⟨u4, hu4, rA4, rc4, rfl, hur4⟩ := HPC.out n _ hgN
                        obtain ⟨rb4, ro4, rfl, hrb4, hcell4⟩ := (hur4.below hw27).at_ s (by simpa using hrsN)
                        have hu4' := (hw27.cell (p := ⟨pb, po + n, none⟩) hpb).trans hu4
                        simp only [List.getElem_map] at hcell4
                        have hcl4 : P[n][s] = cellP P n s := by unfold cellP; rw [getD_lt hnP, getD_lt hrsN]
                        rw [hcl4] at hcell4
                        have hni : (n : Int) < (P.length : Int) := by omega
                        have hni0 : (0 : Int) ≤ (n : Int) := by omega
                        have hsiN : (s : Int) < (P[n].length : Int) := by omega
                        have hng : ¬ cellP P n s ≥ 0 := by omega
                        obtain ⟨hk1, hk2⟩ := HC.out
                        have hp1 := (hw27.cell (p := ⟨pb, po + yr, none⟩) hpb).trans hk1
                        have hp2 := (hw27.cell (p := ⟨rb, ro + s, none⟩) hrb).trans hk2
                        have z27 := hw27.size
                        have z37 := HB7.out.size
                        -- the copy that takes the two stores
                        have hod1 := HO17.out.toD
                        obtain ⟨kR, cR, b1, cc1, curR, e9, qR, fR, hBR, hhR, hcR, cb, hcb⟩ := hod1.one hgY
                        cases e9
                        obtain ⟨kN, cN, b', cc', curN, e9, qN, fN, hBN, hhN, hcN, _⟩ := hod1.one hgN
                        simp only [Value.slice.injEq, Option.some.injEq, Addr.mk.injEq, and_true, true_and] at e9
                        obtain ⟨rfl, rfl⟩ := e9
                        have hkne : kR ≠ kN := hod1.apart (fun e => hnyr e.symm) hgY hgN rfl qR qN
                        have hbR : b1 ≠ kR := fun e => by rw [e, hhR] at hcb; simp at hcb
                        have hbN : b1 ≠ kN := fun e => by rw [e, hhN] at hcb; simp at hcb
                        have hcR' : curR[s]? = some (.int .i64 P[yr][s]) := hcR s _ (List.getElem?_eq_getElem hrs)
                        have hcN' : curN[s]? = some (.int .i64 P[n][s]) := hcN s _ (List.getElem?_eq_getElem hrsN)
                        have hszR : s < curR.size := (Array.getElem?_eq_some_iff.1 hcR').1
                        have hq : ∀ w4, CellR kR (.cells curR 3 (0, 0)) (.cells (curR.setIfInBounds s (.int .i64 (-1))) 3 (0, 0)) w7 w4 → _ := fun w4 hw4 =>
                          And.intro (show w4.cell? ⟨b1, yr, none⟩ = some (.slice (some ⟨kR, 0, none⟩) P[yr].length cR) by rw [cell_blk (hw4.bel.heap hcb hbR), ← cell_blk hcb]; exact qR)
                            (And.intro (show w4.cell? ⟨b1, n, none⟩ = some (.slice (some ⟨kN, 0, none⟩) P[n].length cN) by rw [cell_blk (hw4.bel.heap hcb hbR), ← cell_blk hcb]; exact qN)
                              (And.intro (show w4.cell? ⟨pb, po + yr, none⟩ = some (.slice (some ⟨rb, ro, none⟩) P[yr].length rc) by rw [World.cell?_of_block (hw4.bel.block pb (by omega) (by omega))]; exact hp1)
                                (show w4.cell? ⟨rb, ro + s, none⟩ = some (.int .i64 cv) by rw [World.cell?_of_block (hw4.bel.block rb (by omega) (by omega))]; exact hp2)))
                        have hq2 : ∀ w4, CellR kR (.cells curR 3 (0, 0)) (.cells (curR.setIfInBounds s (.int .i64 (-1))) 3 (0, 0)) w7 w4 → (∃ old, w4.cell? ⟨kR, s, none⟩ = some old) ∧ w4.frozen? ⟨kR, s, none⟩ = false ∧ (w4.setCell ⟨kR, s, none⟩ (.int .i64 (-1))).heap[kR]? = some (.cells (curR.setIfInBounds s (.int .i64 (-1))) 3 (0, 0)) := fun w4 hw4 => by
                          rcases hw4.one hhR with h | h
                          · exact ⟨⟨_, by rw [cell_blk h]; exact hcR'⟩, frozen_blk h _, heap_set h _ _⟩
                          · refine ⟨⟨.int .i64 (-1), by rw [cell_blk h]; simp [hszR]⟩, frozen_blk h _, ?_⟩
                            rw [heap_set h]; simp
                        have HQ := Lib.hid hq
                        have HQ2 := Lib.hid hq2
                        have HD := Lib.hid (And.intro hod1 (And.intro hgY (And.intro hgN (And.intro qR qN))))
                        have HK2 := Lib.hid (And.intro hhR (And.intro hhN (And.intro hcN' hcb)))
                        have HU := Lib.hid (And.intro hu4 hk1)
                        clear hrl hrlN hq hq2 hod1 hgY hgN qR qN fR fN hhR hhN hcR hcN hcb hcR' hcN' hk1 hk2 hp1 hp2 hur4 hu4 hw27 g1 g2 g3 g4 g5 hcl4
                        generalize hcvN : cellP P n s = cvN at *
                        rcases hcases with hc1 | ⟨hc1, hc2⟩
                        all_goals
                          go_wp2_with fail
                          refine wp_region_rg_tail 19 (CellR kR (.cells curR 3 (0, 0)) (.cells (curR.setIfInBounds s (.int .i64 (-1))) 3 (0, 0))) (fun | 18 => .exw undef (fun w4 => w4.heap[kR]? = some (.cells (curR.setIfInBounds s (.int .i64 (-1))) 3 (0, 0))) | _ => .fn) (by kernel_rfl) (by kernel_rfl) (CellR.refl _ _ _) (fun _ _ _ h k => h.trans k)
                            (by intro i; split <;> first | trivial | exact (fun w1 w2 h => h.two)) ?_
                          iterate 18 (refine rg_step fun K hK => ?_; apply rg_fn rfl; (intro w4 hw; obtain ⟨qR, qN, qp, qc⟩ := HQ.out w4 hw.undrew; go_simp; try rfl); go_simp; (try with_reducible refine hK _ _ ?_); try clear hK K)
                          refine rg_step fun K hK => ?_
                          apply rg_exS rfl
                          · intro w4 hw
                            obtain ⟨⟨old, h1⟩, h2, h3⟩ := HQ2.out w4 hw.undrew
                            refine ⟨w4.setCell ⟨kR, s, none⟩ (.int .i64 (-1)), ?_, CellR.step, h3⟩
                            go_simp
                            try rfl
                          go_simp
                          (try with_reducible refine hK _ _ ?_)
                          try clear hK K
                          refine rg_nil ?_
                          intro w8 hw8 hset
                          replace hw8 := hw8.undrew
                          obtain ⟨hod, hgY, hgN, qR, qN⟩ := HD.out
                          obtain ⟨hhR, hhN, hcN', hcb⟩ := HK2.out
                          have hodR := hod.setAt hgY rfl qR hrs (-1)
                          have hb8 : Below (w7.setCell ⟨kR, s, none⟩ (.int .i64 (-1))).heap.size (w7.setCell ⟨kR, s, none⟩ (.int .i64 (-1))) w8 := by
                            have hz : (w7.setCell ⟨kR, s, none⟩ (.int .i64 (-1))).heap.size = w7.heap.size := by simp [World.setCell]
                            refine ⟨hw8.bel.os, hw8.bel.tape, hw8.bel.output, by rw [hz]; exact hw8.bel.size, fun k hk => ?_⟩
                            by_cases hkk : k = kR
                            · subst hkk
                              rw [hset, heap_set hhR]
                            · exact (hw8.bel.block k (by rw [hz] at hk; exact hk) hkk).trans (Below.heap_setCell _ _ _ _ hkk).symm
                          have hod8 := hodR.below hb8
                          have hgN8 : (P.set yr (P[yr].set s (-1)))[n]? = some P[n] := by rw [List.getElem?_set, if_neg (by omega)]; exact hgN
                          obtain ⟨q8R, q8N, _, _⟩ := HQ.out w8 hw8
                          have hod9 := hod8.setAt hgN8 (b := b1) (by rw [List.length_set]) q8N hrsN cv
                          have hmv : (P.set yr (P[yr].set s (-1))).set n (P[n].set s cv) = movedS P n yr s := by
                            unfold movedS
                            rw [HCV.out, getD_lt hnP, getD_lt hyl, List.set_comm _ _ (fun e => hnyr e.symm)]
                          rw [hmv] at hod9
                          have h8N := hw8.bel.heap hhN (Ne.symm hkne)
                          have f8N := frozen_blk h8N s
                          have c8N : w8.cell? ⟨kN, s, none⟩ = some (.int .i64 P[n][s]) := by rw [cell_blk h8N]; exact hcN'
                          obtain ⟨w9, hw9⟩ : ∃ w9, w9 = w8.setCell ⟨kN, s, none⟩ (.int .i64 cv) := ⟨_, rfl⟩
                          have hb9 : Below w3.heap.size w3 w9 := by
                            rw [hw9]
                            exact (HB7.out.trans (hw8.bel.below z37 (fun k hk => by omega))).setCell (p := ⟨kN, s, none⟩) hBN _
                          rw [← hw9] at hod9
                          have hL9 := H3.out.later hb9
                          have hrows9 : RowsAt w9 w9.heap.size (.slice (some ⟨b1, 0, none⟩) P.length c1) (movedS P n yr s) := hod9.rows (by rw [movedS_length]; omega) (movedS_rows (n := 1000000) HRL4.out _ _ _)
                          have hfl9 := follow_calls m (.slice sA m.slopes.length sc) (.slice cA m.crafts.length cc) _ (movedS P n yr s) w9 hL9.slopes hL9.crafts hrows9
                          have hx5 := blk5 hL9.box
                          rw [hw9] at hx5
                          obtain ⟨x0, x1, x2, x3, x4⟩ := hx5
                          have HW9 := Lib.hid hw9
                          have HL9 := Lib.hid hL9
                          have HFL9 := Lib.hid hfl9
                          clear hw8 hset hod hgY hgN qR qN hhR hhN hcN' hcb hodR hb8 hod8 hgN8 q8R q8N hmv h8N hw9 hb9 hod9 hL9 hrows9 hfl9 HD HK2 HQ HQ2
                          simp only [List.drop_succ_cons, List.drop_zero]
                          generalize P[n][s] = pnx at *
                          go_wp2_with fail
                          rw [← HW9.out]
                          refine HFL9.out.mono ?_
                          rintro e wa ⟨va, rfl, _, hba⟩
                          obtain ⟨g2, g3, g4, g5⟩ := HG.out
                          rw [g2, g3]
                          have HLa := Lib.hid (HL9.out.later hba)
                          clear hba x0 x1 x2 x3 x4 g2 g3 f8N c8N
                          obtain ⟨x0, x1, x2, x3, x4⟩ := blk5 HLa.out.box
                          generalize (followS m (movedS P n yr s)).2.1 = ca at *
                          have hva : IntKind.i64.wrap (V + m.visit) = V + m.visit := IntWalk.i64_in _ (by omega)
                          have hge : ca ≥ V := g4
                          go_wp2_with (go_at_call 16; refine (runs_law HLa.out).mono ?_; rintro e wr ⟨rfl, hr⟩; have HR := Lib.hid hr; clear hr)
                          go_ret
                          exact HR.out
    · generalize (cheapS m).2.2.2 = ce at *
      have he1 : (ce != 0) = true := by simpa using he
      have he2 : (!(ce == 0)) = true := by simpa using he
      clear he
      go_wp2_with (go_at_call 16; refine (runs_law H2.out).mono ?_; rintro e wr ⟨rfl, hr⟩; have HR := Lib.hid hr; clear hr)
      go_ret
      exact HR.out
  · go_wp2_with (go_at_call 16; refine (runs_law H1.out).mono ?_; rintro e wr ⟨rfl, hr⟩; have HR := Lib.hid hr; clear hr)
    go_ret
    exact HR.out
end Go.Proofs.Ytccplobhfokcgaa
