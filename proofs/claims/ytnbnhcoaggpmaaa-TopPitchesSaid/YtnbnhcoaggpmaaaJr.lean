/- TopPitches: from the two faces on. -/
import Derived.Test.YtnbnhcoaggpmaaaJp
import Derived.Test.YtnbnhcoaggpmaaaJq
import Derived.Test.YtnbnhcoaggpmaaaCh

namespace Go.Proofs.Ytnbnhcoaggpmaaa
open Go Go.RowKit Go.Shelf
set_option maxRecDepth 100000
attribute [local go_sem] Oper.semAt_some

def TrueP (w : World) (e : Ending) (w' : World) : Prop := e = .returned (.bool true) ∧ Below w.heap.size w w'
def seqTail : Code → Code
  | .seq _ b => b
  | c => c
theorem wp_opaque {P : Program} {Q : Exit → Act → World → Prop} {a : Act} {w : World} {c1 c2 c3 r : Code} (h : ∀ C : Code, C = r → (c1.seq (c2.seq (c3.seq C))).wp P Q a w) : (c1.seq (c2.seq (c3.seq r))).wp P Q a w := h r rfl
theorem wp_opaque1 {P : Program} {Q : Exit → Act → World → Prop} {a : Act} {w : World} {c1 r : Code} (h : ∀ C : Code, C = r → (c1.seq C).wp P Q a w) : (c1.seq r).wp P Q a w := h r rfl
/-- The frame once the two faces are there. -/
def frP (w : World) (F O : Option Addr) (n fc m oc i j b15 b16 thick need years : Nat) (lo hi : Int) (u : Nat → Value) : Act := { tmps := #[.agg #[.slice F n fc, .slice O m oc], .int .u8 (i : Int), .int .u8 (j : Int), .agg #[.int .i64 lo, .int .i64 hi], .int .u16 (thick : Int), .int .u16 (need : Int), .int .u8 (years : Int), .pointer (some ⟨w.heap.size, 0, none⟩), u 8, u 9, .pointer (some ⟨w.heap.size + 1, 0, none⟩), u 11, u 12, u 13, .bool false, .pointer (some ⟨b15, 0, none⟩), .pointer (some ⟨b16, 0, none⟩), u 17, u 18, u 19, u 20, u 21, u 22, u 23, u 24, u 25, u 26, u 27, u 28, u 29, u 30, u 31, u 32, u 33, u 34, u 35, u 36, u 37, u 38, u 39, u 40, u 41, u 42, u 43, u 44, u 45, u 46, u 47, u 48, u 49, u 50, u 51, u 52, u 53, u 54, u 55, u 56, u 57, u 58, u 59, u 60, u 61, u 62, u 63, u 64, u 65, u 66, u 67, u 68, u 69, u 70, u 71, u 72, u 73, u 74, u 75, u 76, u 77, u 78, u 79, u 80, u 81, u 82, u 83, u 84, u 85, u 86, u 87, u 88, u 89, u 90, u 91, u 92, u 93, u 94, u 95, u 96, u 97, u 98, u 99, u 100, u 101, u 102, u 103, u 104, u 105, u 106, u 107, u 108, u 109, u 110, u 111, u 112, u 113, u 114, u 115, u 116, u 117, u 118, u 119, u 120, u 121, u 122, u 123, u 124, u 125, u 126, u 127, u 128, u 129, u 130, u 131, u 132, u 133, u 134, u 135, u 136, u 137, u 138, u 139, u 140, u 141, u 142, u 143, u 144, u 145, u 146, u 147, u 148, u 149, u 150, u 151, u 152, u 153, u 154, u 155, u 156, u 157, u 158, u 159, u 160, u 161, u 162, u 163, u 164, u 165, u 166, u 167, u 168, u 169, u 170, u 171, u 172, u 173, u 174, u 175, u 176, u 177, u 178, u 179, u 180, u 181, u 182, u 183, u 184, u 185, u 186, u 187, u 188, u 189, u 190, u 191, u 192, u 193, u 194], defers := [] }
/-- What is known of the world then. -/
structure PitS (w : World) (b15 b16 : Nat) (x y : FaceS) (cx cy : Value) (lo hi : Int) (V : World) : Prop where
  below : Below w.heap.size w V
  clim : V.heap[w.heap.size + 1]? = some (.cells #[.int .i64 lo, .int .i64 hi] 29 (0, 0))
  bx : V.heap[b15]? = some (faceO x cx)
  by_ : V.heap[b16]? = some (faceO y cy)
  ne : b15 ≠ b16
  low : w.heap.size + 2 ≤ b15 ∧ w.heap.size + 2 ≤ b16
theorem PitS.later {w V W : World} {b15 b16 : Nat} {x y : FaceS} {cx cy : Value} {lo hi : Int} (h : PitS w b15 b16 x y cx cy lo hi V) (hb : Below V.heap.size V W) : PitS w b15 b16 x y cx cy lo hi W :=
  ⟨h.below.trans (hb.mono h.below.size), blk_below hb h.clim (lt_blk h.clim), blk_below hb h.bx (lt_blk h.bx), blk_below hb h.by_ (lt_blk h.by_), h.ne, h.low⟩
theorem PitS.cells {w V : World} {b15 b16 : Nat} {x y : FaceS} {cx cy : Value} {lo hi : Int} (h : PitS w b15 b16 x y cx cy lo hi V) : (V.cell? ⟨w.heap.size + 1, 0, none⟩ = some (.int .i64 lo) ∧ V.cell? ⟨w.heap.size + 1, 1, none⟩ = some (.int .i64 hi)) ∧
    (V.cell? ⟨b15, 4, none⟩ = some (.int .i64 x.rise) ∧ V.cell? ⟨b15, 5, none⟩ = some (.int .i64 x.run)) ∧ V.cell? ⟨b16, 4, none⟩ = some (.int .i64 y.rise) ∧ V.cell? ⟨b16, 5, none⟩ = some (.int .i64 y.run) :=
  ⟨⟨(cell_blk h.clim 0).trans rfl, (cell_blk h.clim 1).trans rfl⟩, ⟨(cell_blk h.bx 4).trans rfl, (cell_blk h.bx 5).trans rfl⟩, (cell_blk h.by_ 4).trans rfl, (cell_blk h.by_ 5).trans rfl⟩
/-- The works of both faces. -/
structure PitB (W3 : World) (T NM YR TA TB : Int) (V : World) : Prop where
  sa : SlopesAt V V.heap.size (.slice (some ⟨W3.heap.size + 2, 0, none⟩) 1 1) (oneW T NM TA YR).slopes
  cr : CraftsAt V V.heap.size (.slice (some ⟨W3.heap.size + 3, 0, none⟩) 2 2) (oneW T NM TA YR).crafts
  sb : SlopesAt V V.heap.size (.slice (some ⟨W3.heap.size + 7, 0, none⟩) 1 1) (oneW T NM TB YR).slopes
  ba : V.heap[W3.heap.size + 4]? = some (.cells #[.slice (some ⟨W3.heap.size + 2, 0, none⟩) 1 1, .slice (some ⟨W3.heap.size + 3, 0, none⟩) 2 2, .int .i64 YR, .int .i64 4, .int .i64 1] 49 (0, 0))
  bb : V.heap[W3.heap.size + 5]? = some (.cells #[.slice (some ⟨W3.heap.size + 7, 0, none⟩) 1 1, .slice (some ⟨W3.heap.size + 3, 0, none⟩) 2 2, .int .i64 YR, .int .i64 4, .int .i64 1] 49 (0, 0))
  below : Below W3.heap.size W3 V
theorem pit_boxes (W3 : World) (lb hb T NM YR TA TB : Int) : PitB W3 T NM YR TA TB (((((((((W3.alloc (.cells #[.int .i64 lb, .int .i64 hb] 27)).alloc (.cells #[.int .i64 TA] 3)).alloc (.cells #[.int .i64 T, .int .i64 NM, .int .i64 T, .int .i64 3, .slice (some ⟨W3.heap.size + 1, 0, none⟩) 1 1] 43)).alloc (.cells #[.int .i64 20, .int .i64 2, .bool false, .int .i64 0, .int .i64 5, .bool true] 46)).alloc (.cells #[.slice (some ⟨W3.heap.size + 2, 0, none⟩) 1 1, .slice (some ⟨W3.heap.size + 3, 0, none⟩) 2 2, .int .i64 YR, .int .i64 4, .int .i64 1] 49)).alloc (.cells #[.slice (some ⟨W3.heap.size + 7, 0, none⟩) 1 1, .slice (some ⟨W3.heap.size + 3, 0, none⟩) 2 2, .int .i64 YR, .int .i64 4, .int .i64 1] 49)).alloc (.cells #[.int .i64 TB] 3)).alloc (.cells #[.int .i64 T, .int .i64 NM, .int .i64 T, .int .i64 3, .slice (some ⟨W3.heap.size + 6, 0, none⟩) 1 1] 43))) := by
  obtain ⟨v1, h1⟩ : ∃ v, v = W3.alloc (.cells #[.int .i64 lb, .int .i64 hb] 27) := ⟨_, rfl⟩
  rw [← h1]
  obtain ⟨v2, h2⟩ : ∃ v, v = v1.alloc (.cells #[.int .i64 TA] 3) := ⟨_, rfl⟩
  rw [← h2]
  obtain ⟨v3, h3⟩ : ∃ v, v = v2.alloc (.cells #[.int .i64 T, .int .i64 NM, .int .i64 T, .int .i64 3, .slice (some ⟨W3.heap.size + 1, 0, none⟩) 1 1] 43) := ⟨_, rfl⟩
  rw [← h3]
  obtain ⟨v4, h4⟩ : ∃ v, v = v3.alloc (.cells #[.int .i64 20, .int .i64 2, .bool false, .int .i64 0, .int .i64 5, .bool true] 46) := ⟨_, rfl⟩
  rw [← h4]
  obtain ⟨v5, h5⟩ : ∃ v, v = v4.alloc (.cells #[.slice (some ⟨W3.heap.size + 2, 0, none⟩) 1 1, .slice (some ⟨W3.heap.size + 3, 0, none⟩) 2 2, .int .i64 YR, .int .i64 4, .int .i64 1] 49) := ⟨_, rfl⟩
  rw [← h5]
  obtain ⟨v6, h6⟩ : ∃ v, v = v5.alloc (.cells #[.slice (some ⟨W3.heap.size + 7, 0, none⟩) 1 1, .slice (some ⟨W3.heap.size + 3, 0, none⟩) 2 2, .int .i64 YR, .int .i64 4, .int .i64 1] 49) := ⟨_, rfl⟩
  rw [← h6]
  obtain ⟨v7, h7⟩ : ∃ v, v = v6.alloc (.cells #[.int .i64 TB] 3) := ⟨_, rfl⟩
  rw [← h7]
  obtain ⟨v8, h8⟩ : ∃ v, v = v7.alloc (.cells #[.int .i64 T, .int .i64 NM, .int .i64 T, .int .i64 3, .slice (some ⟨W3.heap.size + 6, 0, none⟩) 1 1] 43) := ⟨_, rfl⟩
  rw [← h8]
  have z1 : v1.heap.size = W3.heap.size + 1 := by rw [h1]; simp
  have b1 : Below W3.heap.size W3 v1 := by rw [h1]; exact below1 _ _
  have g1 : v1.heap[W3.heap.size]? = some (.cells #[.int .i64 lb, .int .i64 hb] 27 (0, 0)) := by rw [h1]; exact heap_alloc_self _ _
  have z2 : v2.heap.size = W3.heap.size + 2 := by rw [h2]; simp [z1]
  have b2 : Below v1.heap.size v1 v2 := by rw [h2]; exact below1 _ _
  have g2 : v2.heap[W3.heap.size + 1]? = some (.cells #[.int .i64 TA] 3 (0, 0)) := by rw [h2, ← z1]; exact heap_alloc_self _ _
  have z3 : v3.heap.size = W3.heap.size + 3 := by rw [h3]; simp [z2]
  have b3 : Below v2.heap.size v2 v3 := by rw [h3]; exact below1 _ _
  have g3 : v3.heap[W3.heap.size + 2]? = some (.cells #[.int .i64 T, .int .i64 NM, .int .i64 T, .int .i64 3, .slice (some ⟨W3.heap.size + 1, 0, none⟩) 1 1] 43 (0, 0)) := by rw [h3, ← z2]; exact heap_alloc_self _ _
  have z4 : v4.heap.size = W3.heap.size + 4 := by rw [h4]; simp [z3]
  have b4 : Below v3.heap.size v3 v4 := by rw [h4]; exact below1 _ _
  have g4 : v4.heap[W3.heap.size + 3]? = some (.cells #[.int .i64 20, .int .i64 2, .bool false, .int .i64 0, .int .i64 5, .bool true] 46 (0, 0)) := by rw [h4, ← z3]; exact heap_alloc_self _ _
  have z5 : v5.heap.size = W3.heap.size + 5 := by rw [h5]; simp [z4]
  have b5 : Below v4.heap.size v4 v5 := by rw [h5]; exact below1 _ _
  have g5 : v5.heap[W3.heap.size + 4]? = some (.cells #[.slice (some ⟨W3.heap.size + 2, 0, none⟩) 1 1, .slice (some ⟨W3.heap.size + 3, 0, none⟩) 2 2, .int .i64 YR, .int .i64 4, .int .i64 1] 49 (0, 0)) := by rw [h5, ← z4]; exact heap_alloc_self _ _
  have z6 : v6.heap.size = W3.heap.size + 6 := by rw [h6]; simp [z5]
  have b6 : Below v5.heap.size v5 v6 := by rw [h6]; exact below1 _ _
  have g6 : v6.heap[W3.heap.size + 5]? = some (.cells #[.slice (some ⟨W3.heap.size + 7, 0, none⟩) 1 1, .slice (some ⟨W3.heap.size + 3, 0, none⟩) 2 2, .int .i64 YR, .int .i64 4, .int .i64 1] 49 (0, 0)) := by rw [h6, ← z5]; exact heap_alloc_self _ _
  have z7 : v7.heap.size = W3.heap.size + 7 := by rw [h7]; simp [z6]
  have b7 : Below v6.heap.size v6 v7 := by rw [h7]; exact below1 _ _
  have g7 : v7.heap[W3.heap.size + 6]? = some (.cells #[.int .i64 TB] 3 (0, 0)) := by rw [h7, ← z6]; exact heap_alloc_self _ _
  have z8 : v8.heap.size = W3.heap.size + 8 := by rw [h8]; simp [z7]
  have b8 : Below v7.heap.size v7 v8 := by rw [h8]; exact below1 _ _
  have g8 : v8.heap[W3.heap.size + 7]? = some (.cells #[.int .i64 T, .int .i64 NM, .int .i64 T, .int .i64 3, .slice (some ⟨W3.heap.size + 6, 0, none⟩) 1 1] 43 (0, 0)) := by rw [h8, ← z7]; exact heap_alloc_self _ _
  have e1 := (blk_below b8 (blk_below b7 (blk_below b6 (blk_below b5 (blk_below b4 (blk_below b3 (blk_below b2 g1 (by omega)) (by omega)) (by omega)) (by omega)) (by omega)) (by omega)) (by omega))
  have e2 := (blk_below b8 (blk_below b7 (blk_below b6 (blk_below b5 (blk_below b4 (blk_below b3 g2 (by omega)) (by omega)) (by omega)) (by omega)) (by omega)) (by omega))
  have e3 := (blk_below b8 (blk_below b7 (blk_below b6 (blk_below b5 (blk_below b4 g3 (by omega)) (by omega)) (by omega)) (by omega)) (by omega))
  have e4 := (blk_below b8 (blk_below b7 (blk_below b6 (blk_below b5 g4 (by omega)) (by omega)) (by omega)) (by omega))
  have e5 := (blk_below b8 (blk_below b7 (blk_below b6 g5 (by omega)) (by omega)) (by omega))
  have e6 := (blk_below b8 (blk_below b7 g6 (by omega)) (by omega))
  have e7 := (blk_below b8 g7 (by omega))
  have e8 := g8
  have bb : Below W3.heap.size W3 v8 := b1.trans ((b2.mono (by omega)).trans ((b3.mono (by omega)).trans ((b4.mono (by omega)).trans ((b5.mono (by omega)).trans ((b6.mono (by omega)).trans ((b7.mono (by omega)).trans (b8.mono (by omega))))))))
  exact ⟨slopes1 e3 (ints1 e2), crafts2 e4, slopes1 e8 (ints1 e7), e5, e6, bb⟩
set_option maxHeartbeats 16000000 in
theorem rest2_wp {body : Code} (hbody : Func.body Try.f3 = some body) (w V : World) (F O : Option Addr) (n fc m oc i j b15 b16 thick need years : Nat) (lo hi : Int) (x y : FaceS) (cx cy : Value) (hS : PitS w b15 b16 x y cx cy lo hi V) (hx : RunOk x) (hy : RunOk y) (hxy : y.rise * x.run ≤ x.rise * y.run) (ht16 : thick ≤ 65535) (hn16 : need ≤ 65535) (hy8 : years ≤ 255)
    (a : Act) (ha : Fits (frP w F O n fc m oc i j b15 b16 thick need years lo hi) a) : Code.wp Try.prog (seqTail (seqTail (seqTail (seqTail body)))) (bodyPost Try.prog Try.f3 (TrueP w)) a V := by
  obtain ⟨u, rfl⟩ := ha.open_
  clear ha
  cases hbody
  simp only [seqTail, frP]
  have HS := Lib.hid hS
  obtain ⟨⟨a0, a1⟩, ⟨a2, a3⟩, a4, a5⟩ := hS.cells
  clear hS
  go_wp2_with fail
  clear a0 a1 a2 a3 a4 a5
  refine (rate_calls lo hi x.rise x.run 0 0 V).mono ?_
  rintro e W1 ⟨rfl, hb1⟩
  by_cases hc : 0 ≤ lo ∧ lo ≤ hi ∧ hi ≤ 10000
  · have hxo : rateOk lo hi x.rise x.run 0 0 := ⟨hc, hx.1, hx.2, ⟨by omega, by omega⟩, ⟨by omega, by omega⟩⟩
    have hyo : rateOk lo hi y.rise y.run 0 0 := ⟨hc, hy.1, hy.2, ⟨by omega, by omega⟩, ⟨by omega, by omega⟩⟩
    obtain ⟨la, ha, hra⟩ : ∃ la ha, rateS lo hi x.rise x.run 0 0 = (la, ha, 0) := ⟨_, _, by unfold rateS; rw [if_pos hxo]⟩
    obtain ⟨lb, hb, hrb⟩ : ∃ lb hb, rateS lo hi y.rise y.run 0 0 = (lb, hb, 0) := ⟨_, _, by unfold rateS; rw [if_pos hyo]⟩
    have h0a : 0 ≤ ha := by have := rate_nonneg hxo; rw [hra] at this; exact this
    have hab : ha ≤ hb := by have := rate_mono hxo hyo hxy; rw [hra, hrb] at this; exact this
    rw [hra]
    simp only []
    have HRB := Lib.hid hrb
    clear hra hrb hxo hyo hc
    obtain ⟨W2, hW2⟩ : ∃ W2, W2 = W1.alloc (.cells #[.int .i64 la, .int .i64 ha] 27) := ⟨_, rfl⟩
    have hg2 : W2.heap[W1.heap.size]? = some (.cells #[.int .i64 la, .int .i64 ha] 27 (0, 0)) := by rw [hW2]; exact heap_alloc_self _ _
    have hb2 : Below W1.heap.size W1 W2 := by rw [hW2]; exact below1 _ _
    have HS2 := Lib.hid (And.intro ((HS.out.later hb1).later hb2) hg2)
    obtain ⟨⟨a0, a1⟩, ⟨a2, a3⟩, a4, a5⟩ := HS2.out.1.cells
    rw [hW2] at a0 a1 a4 a5
    clear hb1 hb2 hg2
    go_wp2_with fail
    rw [← hW2]
    clear hW2 a0 a1 a2 a3 a4 a5
    refine (rate_calls lo hi y.rise y.run 0 0 W2).mono ?_
    rintro e W3 ⟨rfl, hb3⟩
    rw [HRB.out]
    simp only []
    obtain ⟨W4, hW4⟩ : ∃ W4, W4 = W3.alloc (.cells #[.int .i64 lb, .int .i64 hb] 27) := ⟨_, rfl⟩
    have hg4 : W4.heap[W3.heap.size]? = some (.cells #[.int .i64 lb, .int .i64 hb] 27 (0, 0)) := by rw [hW4]; exact heap_alloc_self _ _
    have hb4 : Below W3.heap.size W3 W4 := by rw [hW4]; exact below1 _ _
    have hz4 : W4.heap.size = W3.heap.size + 1 := by rw [hW4]; simp
    have hg24 := blk_below hb4 (blk_below hb3 HS2.out.2 (lt_blk HS2.out.2)) (Nat.lt_of_lt_of_le (lt_blk HS2.out.2) hb3.size)
    have HS4 := Lib.hid (And.intro ((HS2.out.1.later hb3).later hb4) (And.intro hg4 (And.intro hg24 hz4)))
    have hb4' : Below w.heap.size w W4 := HS4.out.1.below
    have hl1 : W1.heap.size < W4.heap.size := lt_blk hg24
    have hb3' := hb3
    clear hb3 hb4 hg4 hz4
    by_cases hbig : hb > 50000
    · go_wp2_with fail
      rw [← hW4]
      refine (spent_calls W4).mono ?_
      rintro e W5 ⟨rfl, hb5⟩
      have HB5 := Lib.hid (hb4'.trans (hb5.mono hb4'.size))
      clear hb5 hW4
      go_wp2_with fail
      go_ret
      exact ⟨rfl, HB5.out⟩
    · obtain ⟨T, hT⟩ : ∃ T : Nat, T = 1 + thick % 1000 := ⟨_, rfl⟩
      have hTe : Int.tmod (thick : Int) 1000 = ((thick % 1000 : Nat) : Int) := by rw [show (1000 : Int) = ((1000 : Nat) : Int) from rfl, ← Int.ofNat_tmod]
      have hT1 : 1 + ((thick % 1000 : Nat) : Int) = (T : Int) := by omega
      obtain ⟨Y, hY⟩ : ∃ Y : Nat, Y = years % 9 := ⟨_, rfl⟩
      have hYe : Int.tmod (years : Int) 9 = (Y : Int) := by rw [hY, show (9 : Int) = ((9 : Nat) : Int) from rfl, ← Int.ofNat_tmod]
      obtain ⟨TA, hTA⟩ : ∃ TA, Int.tdiv (ha + 99) 100 = TA := ⟨_, rfl⟩
      obtain ⟨TB, hTB⟩ : ∃ TB, Int.tdiv (hb + 99) 100 = TB := ⟨_, rfl⟩
      have hba := take_bound h0a (b := ha) (by omega)
      have hbb := take_bound (b := hb) (by omega) (by omega)
      have hmo := take_mono h0a hab
      rw [hTA] at hba hmo
      rw [hTB] at hbb hmo
      have hTr : 1 ≤ (T : Int) ∧ (T : Int) ≤ 1000 := by omega
      have hYr : (Y : Int) ≤ 8 := by omega
      have c0 : ∀ ob : Obj, True := fun _ => trivial
      obtain ⟨q0, q1⟩ : W4.cell? ⟨W1.heap.size, 0, none⟩ = some (.int .i64 la) ∧ W4.cell? ⟨W1.heap.size, 1, none⟩ = some (.int .i64 ha) := ⟨(cell_blk hg24 0).trans rfl, (cell_blk hg24 1).trans rfl⟩
      rw [hW4] at q1
      go_wp2_with fail
      simp only [Nat.add_assoc, Nat.reduceAdd]
      have hP := pit_boxes W3 lb hb (1 + (thick : Int) % 1000) (min (1 + (thick : Int) % 1000) (need : Int)) ((years : Int) % 9) TA TB
      obtain ⟨V9, hV9⟩ : ∃ V9, V9 = ((((((((W3.alloc (.cells #[.int .i64 lb, .int .i64 hb] 27)).alloc (.cells #[.int .i64 TA] 3)).alloc (.cells #[.int .i64 (1 + (thick : Int) % 1000), .int .i64 (min (1 + (thick : Int) % 1000) (need : Int)), .int .i64 (1 + (thick : Int) % 1000), .int .i64 3, .slice (some ⟨W3.heap.size + 1, 0, none⟩) 1 1] 43)).alloc (.cells #[.int .i64 20, .int .i64 2, .bool false, .int .i64 0, .int .i64 5, .bool true] 46)).alloc (.cells #[.slice (some ⟨W3.heap.size + 2, 0, none⟩) 1 1, .slice (some ⟨W3.heap.size + 3, 0, none⟩) 2 2, .int .i64 ((years : Int) % 9), .int .i64 4, .int .i64 1] 49)).alloc (.cells #[.slice (some ⟨W3.heap.size + 7, 0, none⟩) 1 1, .slice (some ⟨W3.heap.size + 3, 0, none⟩) 2 2, .int .i64 ((years : Int) % 9), .int .i64 4, .int .i64 1] 49)).alloc (.cells #[.int .i64 TB] 3)).alloc (.cells #[.int .i64 (1 + (thick : Int) % 1000), .int .i64 (min (1 + (thick : Int) % 1000) (need : Int)), .int .i64 (1 + (thick : Int) % 1000), .int .i64 3, .slice (some ⟨W3.heap.size + 6, 0, none⟩) 1 1] 43)) := ⟨_, rfl⟩
      rw [← hV9] at hP ⊢
      have hck : ∀ TX : Int, 0 ≤ TX ∧ TX ≤ 500 → checkS (oneW (1 + (thick : Int) % 1000) (min (1 + (thick : Int) % 1000) (need : Int)) TX ((years : Int) % 9)) = 0 := fun TX h => oneW_check ⟨by omega, by omega⟩ ⟨by omega, by omega⟩ h ⟨by omega, by omega⟩
      have hlaw := fun h1 h2 h3 => pitch_law (hck TA hba) (hck TB hbb) (oneW_easier hmo) h1 h2 h3
      have hea := cheap_err (hck TA hba)
      have heb := cheap_err (hck TB hbb)
      have hwV : Below w.heap.size w V9 := (HS2.out.1.later hb3').below.trans (hP.below.mono (HS2.out.1.later hb3').below.size)
      have HP := Lib.hid (And.intro hP hwV)
      clear hck hwV hV9 hW4 q0 q1 c0 hTe hT1 hYe hTA hTB hba hbb hmo hTr hYr hT hY
      have hca := cheap_calls (oneW (1 + (thick : Int) % 1000) (min (1 + (thick : Int) % 1000) (need : Int)) TA ((years : Int) % 9)) _ _ V9 hP.sa hP.cr
      have hcb := fun (W : World) (h : Below V9.heap.size V9 W) => cheap_calls (oneW (1 + (thick : Int) % 1000) (min (1 + (thick : Int) % 1000) (need : Int)) TB ((years : Int) % 9)) _ _ W ((HP.out.1.sb.below h).mono h.size) ((HP.out.1.cr.below h).mono h.size)
      unfold CheapPost at hca hcb
      obtain ⟨RA, hRA⟩ : ∃ r, cheapS (oneW (1 + (thick : Int) % 1000) (min (1 + (thick : Int) % 1000) (need : Int)) TA ((years : Int) % 9)) = r := ⟨_, rfl⟩
      obtain ⟨RB, hRB⟩ : ∃ r, cheapS (oneW (1 + (thick : Int) % 1000) (min (1 + (thick : Int) % 1000) (need : Int)) TB ((years : Int) % 9)) = r := ⟨_, rfl⟩
      rw [hRA] at hca hlaw hea
      rw [hRB] at hcb hlaw heb
      obtain ⟨pA, cA, fA, eA⟩ := RA
      obtain ⟨pB, cB, fB, eB⟩ := RB
      simp only [] at hca hcb hlaw hea heb
      have HCA := Lib.hid hca
      have HCB := Lib.hid hcb
      clear hca hcb hRA hRB hP
      refine HCA.out.mono ?_
      rintro e W5 ⟨v5, rfl, _, hb5⟩
      have hg5 := blk_below hb5 HP.out.1.bb (lt_blk HP.out.1.bb)
      obtain ⟨t0, t1, t2, t3, t4⟩ := blk5 hg5
      have HB5 := Lib.hid (hb5 : Below V9.heap.size V9 W5)
      clear hb5 hg5
      go_wp2_with fail
      refine (HCB.out W5 HB5.out).mono ?_
      rintro e W6 ⟨v6, rfl, _, hb6⟩
      have HB6 := Lib.hid (HP.out.2.trans ((HB5.out.trans (hb6.mono HB5.out.size)).mono HP.out.2.size))
      clear hb6 t0 t1 t2 t3 t4
      have hsp : Calls Try.prog 6 #[] W6 fun e W' => e = .returned (.bool true) ∧ Below w.heap.size w W' := (spent_calls W6).mono fun e W' hh => ⟨hh.1, HB6.out.trans (hh.2.mono HB6.out.size)⟩
      have HSP := Lib.hid hsp
      clear hsp
      rcases hea with rfl | rfl
      · rcases heb with rfl | rfl
        · have hl := hlaw rfl rfl
          clear hlaw
          cases fB
          · clear hl
            go_wp2_with fail
            refine HSP.out.mono ?_
            rintro e W7 ⟨rfl, hb7⟩
            have HB7 := Lib.hid hb7
            clear hb7
            go_wp2_with fail
            go_ret
            exact ⟨rfl, HB7.out⟩
          · obtain ⟨rfl, hle⟩ := hl rfl
            clear hl
            go_wp2_with fail
            refine HSP.out.mono ?_
            rintro e W7 ⟨rfl, hb7⟩
            have HB7 := Lib.hid hb7
            clear hb7
            go_wp2_with fail
            go_ret
            exact ⟨rfl, HB7.out⟩
        · clear hlaw
          go_wp2_with fail
          refine HSP.out.mono ?_
          rintro e W7 ⟨rfl, hb7⟩
          have HB7 := Lib.hid hb7
          clear hb7
          go_wp2_with fail
          go_ret
          exact ⟨rfl, HB7.out⟩
      · clear hlaw
        rcases heb with rfl | rfl
        · skip
          go_wp2_with fail
          refine HSP.out.mono ?_
          rintro e W7 ⟨rfl, hb7⟩
          have HB7 := Lib.hid hb7
          clear hb7
          go_wp2_with fail
          go_ret
          exact ⟨rfl, HB7.out⟩
        · skip
          go_wp2_with fail
          refine HSP.out.mono ?_
          rintro e W7 ⟨rfl, hb7⟩
          have HB7 := Lib.hid hb7
          clear hb7
          go_wp2_with fail
          go_ret
          exact ⟨rfl, HB7.out⟩
  · have hxo : rateS lo hi x.rise x.run 0 0 = (0, 0, 1) := by unfold rateS; rw [if_neg (fun h => hc h.1)]
    have hyo : rateS lo hi y.rise y.run 0 0 = (0, 0, 1) := by unfold rateS; rw [if_neg (fun h => hc h.1)]
    rw [hxo]
    simp only []
    have HRB := Lib.hid hyo
    clear hxo hyo hc
    obtain ⟨W2, hW2⟩ : ∃ W2, W2 = W1.alloc (.cells #[.int .i64 0, .int .i64 0] 27) := ⟨_, rfl⟩
    have hb2 : Below W1.heap.size W1 W2 := by rw [hW2]; exact below1 _ _
    have HS2 := Lib.hid ((HS.out.later hb1).later hb2)
    obtain ⟨⟨a0, a1⟩, ⟨a2, a3⟩, a4, a5⟩ := HS2.out.cells
    rw [hW2] at a0 a1 a4 a5
    clear hb1 hb2
    go_wp2_with fail
    rw [← hW2]
    clear hW2 a0 a1 a2 a3 a4 a5
    refine (rate_calls lo hi y.rise y.run 0 0 W2).mono ?_
    rintro e W3 ⟨rfl, hb3⟩
    rw [HRB.out]
    simp only []
    have HB3 := Lib.hid ((HS2.out.later hb3).below.trans ((below1 W3 (.cells #[.int .i64 0, .int .i64 0] 27)).mono (HS2.out.later hb3).below.size))
    clear hb3
    go_wp2_with fail
    refine (spent_calls _).mono ?_
    rintro e W5 ⟨rfl, hb5⟩
    have HB5 := Lib.hid (HB3.out.trans (hb5.mono HB3.out.size))
    clear hb5
    go_wp2_with fail
    go_ret
    exact ⟨rfl, HB5.out⟩
end Go.Proofs.Ytnbnhcoaggpmaaa
