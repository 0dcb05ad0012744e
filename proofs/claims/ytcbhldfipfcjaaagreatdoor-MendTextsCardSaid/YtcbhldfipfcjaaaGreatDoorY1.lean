/- What the rows of this seat need: the listed variables' contents and the world's shape. -/
import Derived.Test.YtcbhldfipfcjaaaGreatDoorMw
import Derived.Lib.AtoiAll
import Derived.Lib.Split
import Derived.Lib.ItoaNum
import Derived.Lib.SlTrimSet
import Derived.Lib.IndexLaws
import Derived.Test.YtcbhldfipfcjaaaGreatDoorProg
import Derived.Shelf.Strings.SlTrimAscii
import Derived.Shelf.Strings.Builder1
import Derived.Shelf.Small.Strs
import Derived.Shelf.LaysM
import Derived.Shelf.Strconv.Itoa3
import Derived.Shelf.LaysC
import Derived.Shelf.Strconv.AtoiAll
import Derived.Shelf.Strings.Prefix
import Derived.Shelf.Strings.Split
import Derived.Lib.AppendStr
import Derived.Lib.SmallJoins
import Derived.Test.YtcbhldfipfcjaaaGreatDoorRows
import Derived.WalkKit
import Derived.ProofKit
import Derived.OpenShut
import Derived.HandedShaped
import Derived.LaidMore
import Derived.Lay
import Derived.Shelf.Vars
import Derived.Lib.LaidTab
import Derived.Lib.LaidU8

/- Texts of works: what they are, in plain Lean. -/
namespace Go.Proofs.YtcbhldfipfcjaaaGreatDoor
open Go Go.RowKit Go.Shelf

/-- What stands between a byte; ahead of it what has been read of the first part. -/
def partsG (b : UInt8) : List UInt8 → List UInt8 → List (List UInt8)
  | cur, [] => [cur]
  | cur, c :: l => if c = b then cur :: partsG b [] l else partsG b (cur ++ [c]) l
theorem partsG_cons (b : UInt8) (cur : List UInt8) (c : UInt8) (l : List UInt8) : partsG b cur (c :: l) = if c = b then cur :: partsG b [] l else partsG b (cur ++ [c]) l := by
  simp only [partsG]
theorem partsG_ne (b : UInt8) : ∀ (l cur : List UInt8), partsG b cur l ≠ []
  | [], cur => by simp [partsG]
  | c :: l, cur => by
    unfold partsG
    split
    · simp
    · exact partsG_ne b l _
theorem partsG_none {b : UInt8} : ∀ {l : List UInt8} (cur : List UInt8), b ∉ l → partsG b cur l = [cur ++ l]
  | [], cur, _ => by simp [partsG]
  | c :: l, cur, h => by
    simp only [List.mem_cons, not_or] at h
    rw [partsG_cons, if_neg (fun e => h.1 e.symm), partsG_none _ h.2]
    simp
theorem partsG_hit {b : UInt8} : ∀ {x : List UInt8} (cur y : List UInt8), b ∉ x → partsG b cur (x ++ b :: y) = (cur ++ x) :: partsG b [] y
  | [], cur, y, _ => by simp [partsG]
  | c :: x, cur, y, h => by
    simp only [List.mem_cons, not_or] at h
    rw [List.cons_append, partsG_cons, if_neg (fun e => h.1 e.symm), partsG_hit _ _ h.2]
    simp
theorem partsG_noby {b : UInt8} : ∀ (l cur : List UInt8), b ∉ cur → ∀ p ∈ partsG b cur l, b ∉ p
  | [], cur, h, p, hp => by
    simp only [partsG, List.mem_singleton] at hp
    subst hp; exact h
  | c :: l, cur, h, p, hp => by
    unfold partsG at hp
    split at hp
    · rcases List.mem_cons.1 hp with e | e
      · subst e; exact h
      · exact partsG_noby l [] (by simp) p e
    · rename_i hc
      exact partsG_noby l _ (by simp only [List.mem_append, List.mem_singleton, not_or]; exact ⟨h, fun e => hc e.symm⟩) p hp
/-- The words of a line. -/
def wordsL (l : List UInt8) : List (List UInt8) := partsG 32 [] l
/-- The lines of a text. -/
def linesL (s : List UInt8) : List (List UInt8) := if (partsG 10 [] s).getLast? = some [] then (partsG 10 [] s).dropLast else partsG 10 [] s
theorem linesL_nil : linesL [] = [] := rfl
theorem linesL_none {x : List UInt8} (h : 10 ∉ x) (hne : x ≠ []) : linesL x = [x] := by
  unfold linesL
  rw [partsG_none _ h]
  simp [hne]
theorem linesL_hit {x : List UInt8} (y : List UInt8) (h : 10 ∉ x) : linesL (x ++ 10 :: y) = x :: linesL y := by
  unfold linesL
  rw [partsG_hit _ _ h]
  have hne := partsG_ne 10 y []
  rw [List.getLast?_cons_of_ne_nil hne]
  split
  · rw [List.dropLast_cons_of_ne_nil hne]; rfl
  · rfl
/-- At a place of the byte. -/
theorem split_at_byte {b : UInt8} : ∀ (l : List UInt8), (b ∉ l ∧ Lib.indexByte l b = -1) ∨ ∃ x y, l = x ++ b :: y ∧ b ∉ x ∧ Lib.indexByte l b = x.length
  | [] => .inl ⟨by simp, rfl⟩
  | c :: l => by
    by_cases hc : c = b
    · subst hc
      exact .inr ⟨[], l, rfl, by simp, by simp [Lib.indexByte]⟩
    · rcases split_at_byte (b := b) l with ⟨h1, h2⟩ | ⟨x, y, h1, h2, h3⟩
      · refine .inl ⟨by simp only [List.mem_cons, not_or]; exact ⟨fun e => hc e.symm, h1⟩, ?_⟩
        simp [Lib.indexByte, hc, h2]
      · refine .inr ⟨c :: x, y, by rw [h1]; rfl, by simp only [List.mem_cons, not_or]; exact ⟨fun e => hc e.symm, h2⟩, ?_⟩
        have hn : ¬ ((x.length : Int) = -1) := by omega
        simp [Lib.indexByte, hc, h3, hn]
theorem index_one (b : UInt8) : ∀ (l : List UInt8), Lib.index l [b] = Lib.indexByte l b
  | [] => rfl
  | c :: l => by
    unfold Lib.index Lib.indexByte
    rw [index_one b l]
    have : List.isPrefixOf [b] (c :: l) = (c == b) := by
      simp [List.isPrefixOf]
      exact Bool.beq_comm
    rw [this]
theorem split_one (b : UInt8) (n : Nat) : ∀ (l : List UInt8), l.length = n → Lib.split l [b] = partsG b [] l := by
  induction n using Nat.strongRecOn with
  | ind n ih =>
    intro l hl
    rcases split_at_byte (b := b) l with ⟨h1, h2⟩ | ⟨x, y, h1, h2, h3⟩
    · have hi : Lib.index l [b] = -1 := by rw [index_one]; exact h2
      unfold Lib.split
      rw [Lib.count_miss hi, partsG_none _ h1]
      rfl
    · have hi : Lib.index l [b] = (x.length : Nat) := by rw [index_one]; exact h3
      have hd : l.drop (x.length + 1) = y := by rw [h1]; simp
      have ht : l.take x.length = x := by rw [h1]; simp
      have hy := ih y.length (by rw [← hl, h1]; simp only [List.length_append, List.length_cons]; omega) y rfl
      unfold Lib.split at hy ⊢
      rw [Lib.count_hit (by simp) hi]
      simp only [List.length_singleton]
      rw [hd, Nat.add_comm 1, Lib.splitK]
      have hne : ¬ ((Lib.index l [b] == -1) = true) := by rw [hi]; simp
      rw [if_neg hne, hi]
      simp only [Int.toNat_natCast, Nat.add_zero, List.length_singleton]
      rw [hd, ht, hy, h1, partsG_hit _ _ h2]
      simp

/-- The digits' value. -/
def isDig (c : UInt8) : Bool := decide (48 ≤ c.toNat ∧ c.toNat ≤ 57)
def decV (acc : Nat) (l : List UInt8) : Nat := l.foldl (fun a c => a * 10 + (c.toNat - 48)) acc
theorem decV_nil (acc : Nat) : decV acc [] = acc := rfl
theorem decV_cons (acc : Nat) (c : UInt8) (l : List UInt8) : decV acc (c :: l) = decV (acc * 10 + (c.toNat - 48)) l := by
  unfold decV
  rw [List.foldl_cons]
theorem decV_lt (l : List UInt8) : ∀ (acc P : Nat), (∀ c ∈ l, isDig c = true) → acc < P → decV acc l < P * 10 ^ l.length := by
  induction l with
  | nil =>
    intro acc P _ h
    rw [decV_nil, List.length_nil, Nat.pow_zero, Nat.mul_one]
    exact h
  | cons c l ih =>
    intro acc P hd h
    have hc : 48 ≤ c.toNat ∧ c.toNat ≤ 57 := by have := hd c (by simp); simpa [isDig] using this
    have := ih (acc * 10 + (c.toNat - 48)) (P * 10) (fun x hx => hd x (by simp [hx])) (by omega)
    rw [decV_cons, List.length_cons, Nat.pow_succ, Nat.mul_comm (10 ^ l.length) 10, ← Nat.mul_assoc]
    exact this
/-- The whole number that a word is. -/
def magN (d : List UInt8) (neg : Bool) : Option Nat :=
  if d = [] ∨ 10 < d.length ∨ (d.head? = some 48 ∧ (1 < d.length ∨ neg = true)) then none
  else if d.all isDig then some (decV 0 d) else none
def numOf (w : List UInt8) : Option Int :=
  if w.head? = some 45 then Option.map (fun u : Nat => -(u : Int)) (magN (w.drop 1) true) else Option.map (fun u : Nat => (u : Int)) (magN w false)
theorem magN_lt {d : List UInt8} {neg : Bool} {u : Nat} (h : magN d neg = some u) : u < 10000000000 := by
  unfold magN at h
  split at h
  · cases h
  · rename_i hc
    split at h
    · rename_i ha
      simp only [Option.some.injEq] at h
      have hl : d.length ≤ 10 := by
        have := fun e => hc (.inr (.inl e))
        omega
      have h2 := decV_lt d 0 1 (fun c hcm => by rw [List.all_eq_true] at ha; exact ha c hcm) (by omega)
      have h3 : (10 : Nat) ^ d.length ≤ 10 ^ 10 := Nat.pow_le_pow_right (by omega) (by omega)
      rw [← h]
      have h5 : (10 : Nat) ^ 10 = 10000000000 := by decide
      rw [h5] at h3
      omega
    · cases h
theorem numOf_bound {w : List UInt8} {n : Int} (h : numOf w = some n) : -10000000000 < n ∧ n < 10000000000 := by
  unfold numOf at h
  split at h
  · obtain ⟨u, hu, rfl⟩ := Option.map_eq_some_iff.1 h
    have := magN_lt hu
    omega
  · obtain ⟨u, hu, rfl⟩ := Option.map_eq_some_iff.1 h
    have := magN_lt hu
    omega
theorem parseUint_digits : ∀ (l : List UInt8) (acc k : Nat), (∀ c ∈ l, isDig c = true) → acc < 10 ^ k → k + l.length ≤ 19 → Lib.parseUint10 acc l = .ok (decV acc l)
  | [], acc, k, _, _, _ => rfl
  | c :: l, acc, k, hd, ha, hl => by
    have hc : 48 ≤ c.toNat ∧ c.toNat ≤ 57 := by have := hd c (by simp); simpa [isDig] using this
    simp only [List.length_cons] at hl
    have hp : (10 : Nat) ^ k ≤ 10 ^ 18 := Nat.pow_le_pow_right (by omega) (by omega)
    have h18 : (10 : Nat) ^ 18 = 1000000000000000000 := by decide
    have ih := parseUint_digits l (acc * 10 + (c.toNat - 48)) (k + 1) (fun x hx => hd x (by simp [hx])) (by rw [Nat.pow_succ]; generalize 10 ^ k = p at *; omega) (by omega)
    rw [decV_cons]
    simp only [Lib.parseUint10]
    rw [if_pos hc, if_neg (by omega), if_neg (by omega)]
    exact ih
/-- What mend's number asks ahead of Atoi. -/
theorem trimS_digits (d : List UInt8) : Lib.trimS d [48, 49, 50, 51, 52, 53, 54, 55, 56, 57] = [] ↔ d.all isDig = true := by
  have hcs : ∀ c : UInt8, List.contains [48, 49, 50, 51, 52, 53, 54, 55, 56, 57] c = isDig c := by
    intro c
    have : ∀ n : Fin 256, List.contains ([48, 49, 50, 51, 52, 53, 54, 55, 56, 57] : List UInt8) (UInt8.ofNat n) = isDig (UInt8.ofNat n) := by decide +kernel
    have h := this ⟨c.toNat, c.toNat_lt⟩
    simpa using h
  have key : ∀ (l : List UInt8) (p : UInt8 → Bool), l.dropWhile p = [] ↔ l.all p = true := by
    intro l p
    induction l with
    | nil => simp
    | cons c l ih =>
      rw [List.dropWhile_cons]
      cases hp : p c
      · simp [hp]
      · simp [hp, ih]
  unfold Lib.trimS Lib.trimLeftS Lib.trimRightS
  have hf : (fun c => List.contains ([48, 49, 50, 51, 52, 53, 54, 55, 56, 57] : List UInt8) c) = isDig := funext hcs
  rw [hf]
  constructor
  · intro h
    rw [key] at h
    by_cases he : d.reverse.dropWhile isDig = []
    · rw [key] at he
      simpa using he
    · exfalso
      obtain ⟨c, l, hl⟩ := List.exists_cons_of_ne_nil he
      have hc : isDig c = false := by
        have := List.head?_dropWhile_not isDig d.reverse
        rw [hl] at this
        simpa using this
      rw [hl] at h
      simp [hc] at h
  · intro h
    have he : d.reverse.dropWhile isDig = [] := by rw [key]; simpa using h
    rw [he]
    rfl
theorem trimPrefix_minus (w : List UInt8) : Lib.trimPrefix w [45] = if w.head? = some 45 then w.drop 1 else w := by
  unfold Lib.trimPrefix Lib.hasPrefix
  cases w with
  | nil => rfl
  | cons c l =>
    have : List.isPrefixOf [45] (c :: l) = (c == 45) := by
      simp [List.isPrefixOf]
      exact Bool.beq_comm
    rw [this]
    by_cases h : c = 45
    · subst h; simp
    · simp [h]
/-- What mend's number tests ahead of Atoi, and what Atoi gives. -/
theorem number_none {w : List UInt8} (h : (Lib.trimPrefix w [45]).length < 1 ∨ 10 < (Lib.trimPrefix w [45]).length ∨ Lib.trimS (Lib.trimPrefix w [45]) [48, 49, 50, 51, 52, 53, 54, 55, 56, 57] ≠ [] ∨ ((Lib.trimPrefix w [45]).head? = some 48 ∧ w ≠ [48])) : numOf w = none := by
  rw [trimPrefix_minus] at h
  have key : ∀ (d : List UInt8) (neg : Bool), (d.length < 1 ∨ 10 < d.length ∨ Lib.trimS d [48, 49, 50, 51, 52, 53, 54, 55, 56, 57] ≠ [] ∨ (d.head? = some 48 ∧ (1 < d.length ∨ neg = true))) → magN d neg = none := by
    intro d neg h
    unfold magN
    by_cases hc : d = [] ∨ 10 < d.length ∨ (d.head? = some 48 ∧ (1 < d.length ∨ neg = true))
    · rw [if_pos hc]
    · rw [if_neg hc, if_neg]
      intro ha
      rcases h with h | h | h | h
      · exact hc (.inl (List.length_eq_zero_iff.1 (by omega)))
      · exact hc (.inr (.inl h))
      · exact h ((trimS_digits d).2 ha)
      · exact hc (.inr (.inr h))
  unfold numOf
  by_cases hm : w.head? = some 45
  · rw [if_pos hm] at h ⊢
    rw [key (w.drop 1) true]
    · rfl
    · rcases h with h | h | h | h
      · exact .inl h
      · exact .inr (.inl h)
      · exact .inr (.inr (.inl h))
      · exact .inr (.inr (.inr ⟨h.1, .inr rfl⟩))
  · rw [if_neg hm] at h ⊢
    rw [key w false]
    · rfl
    · rcases h with h | h | h | ⟨h, h2⟩
      · exact .inl h
      · exact .inr (.inl h)
      · exact .inr (.inr (.inl h))
      · refine .inr (.inr (.inr ⟨h, .inl ?_⟩))
        cases w with
        | nil => simp at h
        | cons c l =>
          have : c = 48 := by simpa using h
          subst this
          cases l with
          | nil => exact absurd rfl h2
          | cons x l => simp
theorem isDig_ne {c : UInt8} (h : isDig c = true) : c.toNat ≠ 43 ∧ c.toNat ≠ 45 := by
  have : 48 ≤ c.toNat ∧ c.toNat ≤ 57 := by simpa [isDig] using h
  omega
theorem number_some {w : List UInt8} (h1 : ¬ (Lib.trimPrefix w [45]).length < 1) (h2 : ¬ 10 < (Lib.trimPrefix w [45]).length) (h3 : Lib.trimS (Lib.trimPrefix w [45]) [48, 49, 50, 51, 52, 53, 54, 55, 56, 57] = []) (h4 : ¬ ((Lib.trimPrefix w [45]).head? = some 48 ∧ w ≠ [48])) :
    ∃ n, numOf w = some n ∧ Lib.atoiAll w = .ok n := by
  rw [trimPrefix_minus] at h1 h2 h3 h4
  have key : ∀ (d : List UInt8) (neg : Bool), ¬ d.length < 1 → ¬ 10 < d.length → Lib.trimS d [48, 49, 50, 51, 52, 53, 54, 55, 56, 57] = [] → ¬ (d.head? = some 48 ∧ (1 < d.length ∨ neg = true)) → magN d neg = some (decV 0 d) ∧ Lib.parseMag d = .ok (decV 0 d) := by
    intro d neg g1 g2 g3 g4
    have ha := (trimS_digits d).1 g3
    have hne : d ≠ [] := fun e => g1 (by rw [e]; simp)
    constructor
    · unfold magN
      rw [if_neg (fun h => h.elim hne (fun h => h.elim g2 g4)), if_pos ha]
    · unfold Lib.parseMag
      rw [if_neg hne]
      exact parseUint_digits d 0 1 (fun c hc => by rw [List.all_eq_true] at ha; exact ha c hc) (by omega) (by omega)
  unfold numOf Lib.atoiAll
  cases w with
  | nil => simp at h1
  | cons c l =>
    by_cases hm : (c :: l).head? = some 45
    · have hc : c = 45 := by simpa using hm
      rw [if_pos hm] at h1 h2 h3 h4 ⊢
      obtain ⟨k1, k2⟩ := key ((c :: l).drop 1) true h1 h2 h3 (fun h => h4 ⟨h.1, by rw [hc]; simp⟩)
      have hb := magN_lt k1
      refine ⟨-(decV 0 ((c :: l).drop 1) : Int), by rw [k1]; rfl, ?_⟩
      subst hc
      simp only [List.drop_succ_cons, List.drop_zero] at k2 hb ⊢
      have e45 : (45 : UInt8).toNat = 45 := rfl
      simp only [e45, or_true, if_true, k2]
      rw [if_neg (by simp), if_neg (by omega)]
    · rw [if_neg hm] at h1 h2 h3 h4 ⊢
      obtain ⟨k1, k2⟩ := key (c :: l) false h1 h2 h3 (fun h => h4 ⟨h.1, fun e => by rw [e] at h; simp at h⟩)
      have hb := magN_lt k1
      have hd := (trimS_digits (c :: l)).1 h3
      have hcd : isDig c = true := by rw [List.all_eq_true] at hd; exact hd c (by simp)
      obtain ⟨n1, n2⟩ := isDig_ne hcd
      refine ⟨(decV 0 (c :: l) : Int), by rw [k1]; rfl, ?_⟩
      simp only [n1, n2, or_false, if_false, k2]
      rw [if_neg (by omega), if_neg (by simp)]
/-- A line of a text. -/
def numsS (l : List Int) : List UInt8 := l.flatMap fun n => 32 :: Lib.itoa n
def rowS (head : List UInt8) (l : List Int) : List UInt8 := head ++ numsS l ++ [10]
theorem numsS_snoc (l : List Int) (n : Int) : numsS (l ++ [n]) = numsS l ++ 32 :: Lib.itoa n := by simp [numsS]
theorem itoa_len {n : Int} (h0 : 0 ≤ n) (h1 : n < 10000000000) : (Lib.itoa n).length ≤ 10 := by
  unfold Lib.itoa
  rw [if_neg (by omega), Lib.decDigits_length]
  have h2 : n.toNat < 10 ^ 10 := by
    have : (10 : Nat) ^ 10 = 10000000000 := by decide
    omega
  generalize n.toNat = u at h2
  have key : ∀ (k u : Nat), u < 10 ^ (k + 1) → Lib.nDigits u ≤ k + 1 := by
    intro k
    induction k with
    | zero => intro u h; rw [Lib.nDigits_small (by simpa using h)]; omega
    | succ k ih =>
      intro u h
      by_cases hu : u < 10
      · rw [Lib.nDigits_small hu]; omega
      · rw [Lib.nDigits_big hu]
        have := ih (u / 10) (by rw [Nat.pow_succ] at h; exact Nat.div_lt_of_lt_mul (by rw [Nat.mul_comm]; exact h))
        omega
  exact key 9 u h2
theorem numsS_len : ∀ {l : List Int}, (∀ n ∈ l, 0 ≤ n ∧ n < 10000000000) → (numsS l).length ≤ 11 * l.length
  | [], _ => by simp [numsS]
  | n :: l, h => by
    have h1 := h n (by simp)
    have h2 := itoa_len h1.1 h1.2
    have h3 := numsS_len (l := l) (fun x hx => h x (by simp [hx]))
    simp only [numsS, List.flatMap_cons, List.length_append, List.length_cons] at h3 ⊢
    omega
theorem rowS_len {head : List UInt8} {l : List Int} (h : ∀ n ∈ l, 0 ≤ n ∧ n < 10000000000) : (rowS head l).length ≤ head.length + 11 * l.length + 1 := by
  have := numsS_len h
  simp only [rowS, List.length_append, List.length_singleton]
  omega
def bWorks : List UInt8 := [119, 111, 114, 107, 115]
def bSlope : List UInt8 := [115, 108, 111, 112, 101]
def bStrip : List UInt8 := [115, 116, 114, 105, 112]
def bAdd : List UInt8 := [97, 100, 100]
def slopeN (x : Slope) : List Int := [x.now, x.need, x.full, x.size] ++ x.takes
def slopeRow (x : Slope) : List UInt8 := rowS bSlope (slopeN x)
def craftRow (c : Craft) : List UInt8 := if c.strip then rowS bStrip [c.price] else rowS bAdd [c.add, c.price]
/-- The text of works. -/
def headS (m : Wk) : List UInt8 := rowS bWorks [m.years, m.visit, m.hands]
def textS (m : Wk) : List UInt8 := headS m ++ m.slopes.flatMap slopeRow ++ m.crafts.flatMap craftRow
theorem slopeN_ok {x : Slope} (h : SlopeOk x) : ∀ n ∈ slopeN x, 0 ≤ n ∧ n < 10000000000 := by
  obtain ⟨h1, h2, h3, h4, h5, h6⟩ := h
  intro n hn
  simp only [slopeN, List.mem_append, List.mem_cons, List.not_mem_nil, or_false] at hn
  rcases hn with (rfl | rfl | rfl | rfl) | hn
  · omega
  · omega
  · omega
  · omega
  · have := h6 n hn
    omega
theorem slopeRow_len {x : Slope} (h : SlopeOk x) : (slopeRow x).length ≤ 182 := by
  have h1 := rowS_len (head := bSlope) (slopeN_ok h)
  have h2 := h.len
  have h3 : (slopeN x).length = 4 + x.takes.length := by simp [slopeN]; omega
  have h4 : bSlope.length = 5 := rfl
  unfold slopeRow
  omega
theorem craftN_ok {c : Craft} (h : CraftOk c) : (∀ n ∈ [c.price], 0 ≤ n ∧ n < 10000000000) ∧ ∀ n ∈ [c.add, c.price], 0 ≤ n ∧ n < 10000000000 := by
  obtain ⟨h1, h2, _⟩ := h
  refine ⟨fun n hn => ?_, fun n hn => ?_⟩
  · simp only [List.mem_singleton] at hn
    subst hn; omega
  · simp only [List.mem_cons, List.not_mem_nil, or_false] at hn
    rcases hn with rfl | rfl <;> omega
theorem craftRow_len {c : Craft} (h : CraftOk c) : (craftRow c).length ≤ 30 := by
  have h1 := rowS_len (head := bStrip) (craftN_ok h).1
  have h2 := rowS_len (head := bAdd) (craftN_ok h).2
  have h3 : bStrip.length = 5 := rfl
  have h4 : bAdd.length = 3 := rfl
  unfold craftRow
  simp only [List.length_cons, List.length_nil] at h1 h2
  split <;> omega
theorem headN_ok {m : Wk} (h : m.Ok) : ∀ n ∈ [m.years, m.visit, m.hands], 0 ≤ n ∧ n < 10000000000 := by
  obtain ⟨_, _, _, _, _, h6, h7, h8⟩ := h
  intro n hn
  simp only [List.mem_cons, List.not_mem_nil, or_false] at hn
  rcases hn with rfl | rfl | rfl <;> omega
theorem headS_len {m : Wk} (h : m.Ok) : (headS m).length ≤ 39 := by
  have h1 := rowS_len (head := bWorks) (headN_ok h)
  have h3 : bWorks.length = 5 := rfl
  unfold headS
  simp only [List.length_cons, List.length_nil] at h1
  omega
theorem flat_len {α : Type} {f : α → List UInt8} {c : Nat} : ∀ {l : List α}, (∀ x ∈ l, (f x).length ≤ c) → (l.flatMap f).length ≤ c * l.length
  | [], _ => by simp
  | x :: l, h => by
    have h1 := h x (by simp)
    have h2 := flat_len (f := f) (c := c) (l := l) (fun y hy => h y (by simp [hy]))
    simp only [List.flatMap_cons, List.length_append, List.length_cons, Nat.mul_succ]
    omega
theorem slopes_len {m : Wk} (h : m.Ok) (j : Nat) : ((m.slopes.take j).flatMap slopeRow).length ≤ 728 := by
  have h1 := flat_len (l := m.slopes.take j) (f := slopeRow) (c := 182) (fun x hx => slopeRow_len (h.slopes x (List.mem_of_mem_take hx)))
  have h2 : (m.slopes.take j).length ≤ 4 := by rw [List.length_take]; have := h.few; omega
  omega
theorem crafts_len {m : Wk} (h : m.Ok) (j : Nat) : ((m.crafts.take j).flatMap craftRow).length ≤ 120 := by
  have h1 := flat_len (l := m.crafts.take j) (f := craftRow) (c := 30) (fun x hx => craftRow_len (h.craft x (List.mem_of_mem_take hx)))
  have h2 : (m.crafts.take j).length ≤ 4 := by rw [List.length_take]; have := h.crafts; omega
  omega
theorem textS_len {m : Wk} (h : m.Ok) : (textS m).length ≤ 887 := by
  have h1 := headS_len h
  have h2 := slopes_len h m.slopes.length
  have h3 := crafts_len h m.crafts.length
  rw [List.take_length] at h2 h3
  simp only [textS, List.length_append]
  omega
end Go.Proofs.YtcbhldfipfcjaaaGreatDoor

/- The contracts of the library that the texts of works lean on, laid at this dump by the shelf's tools in plain words. -/
namespace Go.Proofs
open Go.Shelf
def Tryz.lays170_ren : Go.Shelf.Ren := ⟨fun | 170 => 25 | n => n, fun | 70 => 55 | 3 => 3 | 0 => 0 | 72 => 58 | 37 => 56 | 5 => 5 | n => n, fun | n => n⟩
theorem Tryz.lays170 : Go.Proofs.Lays.n170 Tryz.prog Tryz.lays170_ren := {
  mixed := by kernel_rfl
  f170 := Tryz.func25.trans (congrArg some (by kernel_rfl))
  t0 := Tryz.underlying0
  a0 := Tryz.isAgg0
  z0 := Tryz.sizeOf0
  v0 := Tryz.zeroValue0
  t3 := Tryz.underlying3
  a3 := Tryz.isAgg3
  z3 := Tryz.sizeOf3
  v3 := Tryz.zeroValue3
  t37 := Tryz.underlying56
  a37 := Tryz.isAgg56
  z37 := Tryz.sizeOf56
  v37 := Tryz.zeroValue56
  t70 := Tryz.underlying55
  a70 := Tryz.isAgg55
  z70 := Tryz.sizeOf55
  v70 := Tryz.zeroValue55
  t72 := Tryz.underlying58
  a72 := Tryz.isAgg58
  z72 := Tryz.sizeOf58
  v72 := Tryz.zeroValue58 }
open Go.RowKit in
theorem Tryz.Builder_Len (B b : Nat) (bs : List Value) (w : World) (h : Lib.IsBuilder 58 5 B b bs w) :
    Calls Tryz.prog 25 #[.pointer (some ⟨b, 0, none⟩)] w fun e w' => e = .returned (.int .i64 bs.length) ∧ w' = w := Any.Builder_Len Tryz.lays170 B b bs w h
def Tryz.lays169_ren : Go.Shelf.Ren := ⟨fun | 169 => 26 | n => n, fun | 70 => 55 | 9 => 9 | 0 => 0 | 72 => 58 | 37 => 56 | 127 => 113 | 3 => 3 | 5 => 5 | n => n, fun | n => n⟩
theorem Tryz.lays169 : Go.Proofs.Lays.n169 Tryz.prog Tryz.lays169_ren := {
  mixed := by kernel_rfl
  f169 := Tryz.func26.trans (congrArg some (by kernel_rfl))
  t0 := Tryz.underlying0
  a0 := Tryz.isAgg0
  z0 := Tryz.sizeOf0
  v0 := Tryz.zeroValue0
  t3 := Tryz.underlying3
  a3 := Tryz.isAgg3
  z3 := Tryz.sizeOf3
  v3 := Tryz.zeroValue3
  t9 := Tryz.underlying9
  a9 := Tryz.isAgg9
  z9 := Tryz.sizeOf9
  v9 := Tryz.zeroValue9
  t37 := Tryz.underlying56
  a37 := Tryz.isAgg56
  z37 := Tryz.sizeOf56
  v37 := Tryz.zeroValue56
  t70 := Tryz.underlying55
  a70 := Tryz.isAgg55
  z70 := Tryz.sizeOf55
  v70 := Tryz.zeroValue55
  t72 := Tryz.underlying58
  a72 := Tryz.isAgg58
  z72 := Tryz.sizeOf58
  v72 := Tryz.zeroValue58
  t127 := Tryz.underlying113
  a127 := Tryz.isAgg113
  z127 := Tryz.sizeOf113
  v127 := Tryz.zeroValue113 }
theorem Tryz.Builder_Extra_169 : Builder.Extra Tryz.prog Tryz.lays169_ren := {
  sizeBuilder := by kernel_rfl
  liesBuilder := by kernel_rfl
  t5 := Tryz.underlying5
  a5 := Tryz.isAgg5
  z5 := Tryz.sizeOf5
  v5 := Tryz.zeroValue5
  infoByte := by kernel_rfl
  cellsByte := by kernel_rfl
  sizeByte := by kernel_rfl
  neB5 := by decide }
open Go.RowKit in
theorem Tryz.Builder_String_any (B b : Nat) (l : List UInt8) (w : World) (h : Lib.IsBuilder 58 5 B b (Lib.byteCells l) w) (hBw : B ≤ w.heap.size) :
    Calls Tryz.prog 26 #[.pointer (some ⟨b, 0, none⟩)] w fun e w' => e = .returned (.string ⟨l.toArray⟩) ∧ Below B w w' := Any.Builder_String_any Tryz.lays169 Tryz.Builder_Extra_169 B b l w h hBw
def Tryz.laysM171_ren : Go.Shelf.Ren := ⟨fun | 171 => 23 | 243 => 52 | 246 => 73 | 283 => 94 | 284 => 95 | 285 => 96 | 286 => 97 | 129 => 122 | 317 => 125 | 318 => 126 | 319 => 127 | 320 => 128 | 337 => 143 | 338 => 144 | n => n, fun | 3 => 3 | 9 => 9 | 2 => 2 | 4 => 4 | 171 => 159 | 0 => 0 | 53 => 160 | 37 => 56 | 5 => 5 | 173 => 163 | 212 => 192 | 51 => 185 | 20 => 20 | 213 => 193 | 46 => 155 | 232 => 220 | 233 => 221 | n => n, fun | 17 => 0 | 18 => 6 | 19 => 7 | n => n⟩
theorem Tryz.laysM171 : Go.Proofs.LaysM.n171 Tryz.prog Tryz.laysM171_ren := {
  mixed := by kernel_rfl
  f129 := Tryz.func122.trans (congrArg some (by kernel_rfl))
  f171 := Tryz.func23.trans (congrArg some (by kernel_rfl))
  f243 := Tryz.func52.trans (congrArg some (by kernel_rfl))
  f246 := Tryz.func73.trans (congrArg some (by kernel_rfl))
  f283 := Tryz.func94.trans (congrArg some (by kernel_rfl))
  f284 := Tryz.func95.trans (congrArg some (by kernel_rfl))
  f285 := Tryz.func96.trans (congrArg some (by kernel_rfl))
  f286 := Tryz.func97.trans (congrArg some (by kernel_rfl))
  f317 := Tryz.func125.trans (congrArg some (by kernel_rfl))
  f318 := Tryz.func126.trans (congrArg some (by kernel_rfl))
  f319 := Tryz.func127.trans (congrArg some (by kernel_rfl))
  f320 := Tryz.func128.trans (congrArg some (by kernel_rfl))
  f337 := Tryz.func143.trans (congrArg some (by kernel_rfl))
  f338 := Tryz.func144.trans (congrArg some (by kernel_rfl))
  t0 := Tryz.underlying0
  a0 := Tryz.isAgg0
  z0 := Tryz.sizeOf0
  v0 := Tryz.zeroValue0
  t2 := Tryz.underlying2
  a2 := Tryz.isAgg2
  z2 := Tryz.sizeOf2
  v2 := Tryz.zeroValue2
  t3 := Tryz.underlying3
  a3 := Tryz.isAgg3
  z3 := Tryz.sizeOf3
  v3 := Tryz.zeroValue3
  t4 := Tryz.underlying4
  a4 := Tryz.isAgg4
  z4 := Tryz.sizeOf4
  v4 := Tryz.zeroValue4
  t5 := Tryz.underlying5
  a5 := Tryz.isAgg5
  z5 := Tryz.sizeOf5
  v5 := Tryz.zeroValue5
  t9 := Tryz.underlying9
  a9 := Tryz.isAgg9
  z9 := Tryz.sizeOf9
  v9 := Tryz.zeroValue9
  t20 := Tryz.underlying20
  a20 := Tryz.isAgg20
  z20 := Tryz.sizeOf20
  v20 := Tryz.zeroValue20
  t37 := Tryz.underlying56
  a37 := Tryz.isAgg56
  z37 := Tryz.sizeOf56
  v37 := Tryz.zeroValue56
  t46 := Tryz.underlying155
  a46 := Tryz.isAgg155
  z46 := Tryz.sizeOf155
  v46 := Tryz.zeroValue155
  t51 := Tryz.underlying185
  a51 := Tryz.isAgg185
  z51 := Tryz.sizeOf185
  v51 := Tryz.zeroValue185
  t53 := Tryz.underlying160
  a53 := Tryz.isAgg160
  z53 := Tryz.sizeOf160
  v53 := Tryz.zeroValue160
  t171 := Tryz.underlying159
  a171 := Tryz.isAgg159
  z171 := Tryz.sizeOf159
  v171 := Tryz.zeroValue159
  t173 := Tryz.underlying163
  a173 := Tryz.isAgg163
  z173 := Tryz.sizeOf163
  v173 := Tryz.zeroValue163
  t212 := Tryz.underlying192
  a212 := Tryz.isAgg192
  z212 := Tryz.sizeOf192
  v212 := Tryz.zeroValue192
  t213 := Tryz.underlying193
  a213 := Tryz.isAgg193
  z213 := Tryz.sizeOf193
  t232 := Tryz.underlying220
  a232 := Tryz.isAgg220
  z232 := Tryz.sizeOf220
  v232 := Tryz.zeroValue220
  t233 := Tryz.underlying221
  a233 := Tryz.isAgg221
  z233 := Tryz.sizeOf221
  v233 := Tryz.zeroValue221
  g17 := by kernel_rfl
  g18 := by kernel_rfl
  g19 := by kernel_rfl
  i0 := by kernel_rfl
  i2 := by kernel_rfl
  i3 := by kernel_rfl
  i4 := by kernel_rfl
  i5 := by kernel_rfl
  i9 := by kernel_rfl
  i20 := by kernel_rfl
  i37 := by kernel_rfl
  i46 := by kernel_rfl
  i51 := by kernel_rfl
  i53 := by kernel_rfl
  i171 := by kernel_rfl
  i173 := by kernel_rfl
  i212 := by kernel_rfl
  i232 := by kernel_rfl
  i233 := by kernel_rfl
  m17 := by kernel_rfl
  m18 := by kernel_rfl
  m19 := by kernel_rfl }
open Go.RowKit Go.Sort Go.Lib in
theorem Tryz.strconv_Itoa (n : Int) (h0 : -9223372036854775808 ≤ n) (h1 : n ≤ 9223372036854775807) (w : World) (htab : Lib.TabIs Tryz.prog w "internal/strconv.uint64pow10" .u64 Lib.pow10Tab) :
    Calls Tryz.prog 23 #[.int .i64 n] w fun e w' => e = .returned (.string ⟨(Lib.itoa n).toArray⟩) ∧ ∃ k os, w' = grow (w.drewN k) os := Any.strconv_Itoa Tryz.laysM171 n h0 h1 w htab
def Tryz.laysC172_ren : Go.Shelf.Ren := ⟨fun | 172 => 60 | 244 => 88 | 245 => 89 | 247 => 108 | 279 => 109 | 280 => 110 | 281 => 111 | 282 => 112 | 287 => 135 | 316 => 136 | 171 => 23 | 205 => 137 | 321 => 147 | 322 => 148 | 243 => 52 | 246 => 73 | 283 => 94 | 284 => 95 | 285 => 96 | 286 => 97 | 129 => 122 | 317 => 125 | 318 => 126 | 319 => 127 | 320 => 128 | 337 => 143 | 338 => 144 | n => n, fun | 9 => 9 | 3 => 3 | 75 => 60 | 76 => 61 | 4 => 4 | 5 => 5 | 167 => 171 | 37 => 56 | 0 => 0 | 85 => 172 | 2 => 2 | 168 => 174 | 53 => 160 | 175 => 195 | 46 => 155 | 210 => 199 | 127 => 113 | 145 => 216 | 143 => 214 | 21 => 21 | 171 => 159 | 173 => 163 | 212 => 192 | 51 => 185 | 20 => 20 | 213 => 193 | 232 => 220 | 233 => 221 | 80 => 69 | n => n, fun | 15 => 2 | 16 => 3 | 17 => 0 | 18 => 6 | 19 => 7 | n => n⟩
theorem Tryz.laysC172 : Go.Proofs.LaysC.n172 Tryz.prog Tryz.laysC172_ren := {
  mixed := by kernel_rfl
  f129 := Tryz.func122.trans (congrArg some (by kernel_rfl))
  f171 := Tryz.func23.trans (congrArg some (by kernel_rfl))
  f172 := Tryz.func60.trans (congrArg some (by kernel_rfl))
  f205 := Tryz.func137.trans (congrArg some (by kernel_rfl))
  f243 := Tryz.func52.trans (congrArg some (by kernel_rfl))
  f244 := Tryz.func88.trans (congrArg some (by kernel_rfl))
  f245 := Tryz.func89.trans (congrArg some (by kernel_rfl))
  f246 := Tryz.func73.trans (congrArg some (by kernel_rfl))
  f247 := Tryz.func108.trans (congrArg some (by kernel_rfl))
  f279 := Tryz.func109.trans (congrArg some (by kernel_rfl))
  f280 := Tryz.func110.trans (congrArg some (by kernel_rfl))
  f281 := Tryz.func111.trans (congrArg some (by kernel_rfl))
  f282 := Tryz.func112.trans (congrArg some (by kernel_rfl))
  f283 := Tryz.func94.trans (congrArg some (by kernel_rfl))
  f284 := Tryz.func95.trans (congrArg some (by kernel_rfl))
  f285 := Tryz.func96.trans (congrArg some (by kernel_rfl))
  f286 := Tryz.func97.trans (congrArg some (by kernel_rfl))
  f287 := Tryz.func135.trans (congrArg some (by kernel_rfl))
  f316 := Tryz.func136.trans (congrArg some (by kernel_rfl))
  f317 := Tryz.func125.trans (congrArg some (by kernel_rfl))
  f318 := Tryz.func126.trans (congrArg some (by kernel_rfl))
  f319 := Tryz.func127.trans (congrArg some (by kernel_rfl))
  f320 := Tryz.func128.trans (congrArg some (by kernel_rfl))
  f321 := Tryz.func147.trans (congrArg some (by kernel_rfl))
  f322 := Tryz.func148.trans (congrArg some (by kernel_rfl))
  f337 := Tryz.func143.trans (congrArg some (by kernel_rfl))
  f338 := Tryz.func144.trans (congrArg some (by kernel_rfl))
  t0 := Tryz.underlying0
  a0 := Tryz.isAgg0
  z0 := Tryz.sizeOf0
  v0 := Tryz.zeroValue0
  t2 := Tryz.underlying2
  a2 := Tryz.isAgg2
  z2 := Tryz.sizeOf2
  v2 := Tryz.zeroValue2
  t3 := Tryz.underlying3
  a3 := Tryz.isAgg3
  z3 := Tryz.sizeOf3
  v3 := Tryz.zeroValue3
  t4 := Tryz.underlying4
  a4 := Tryz.isAgg4
  z4 := Tryz.sizeOf4
  v4 := Tryz.zeroValue4
  t5 := Tryz.underlying5
  a5 := Tryz.isAgg5
  z5 := Tryz.sizeOf5
  v5 := Tryz.zeroValue5
  t9 := Tryz.underlying9
  a9 := Tryz.isAgg9
  z9 := Tryz.sizeOf9
  v9 := Tryz.zeroValue9
  t20 := Tryz.underlying20
  a20 := Tryz.isAgg20
  z20 := Tryz.sizeOf20
  v20 := Tryz.zeroValue20
  t21 := Tryz.underlying21
  a21 := Tryz.isAgg21
  z21 := Tryz.sizeOf21
  v21 := Tryz.zeroValue21
  t37 := Tryz.underlying56
  a37 := Tryz.isAgg56
  z37 := Tryz.sizeOf56
  v37 := Tryz.zeroValue56
  t46 := Tryz.underlying155
  a46 := Tryz.isAgg155
  z46 := Tryz.sizeOf155
  v46 := Tryz.zeroValue155
  t51 := Tryz.underlying185
  a51 := Tryz.isAgg185
  z51 := Tryz.sizeOf185
  v51 := Tryz.zeroValue185
  t53 := Tryz.underlying160
  a53 := Tryz.isAgg160
  z53 := Tryz.sizeOf160
  v53 := Tryz.zeroValue160
  t75 := Tryz.underlying60
  a75 := Tryz.isAgg60
  z75 := Tryz.sizeOf60
  v75 := Tryz.zeroValue60
  t76 := Tryz.underlying61
  a76 := Tryz.isAgg61
  z76 := Tryz.sizeOf61
  v76 := Tryz.zeroValue61
  t85 := Tryz.underlying172
  a85 := Tryz.isAgg172
  z85 := Tryz.sizeOf172
  v85 := Tryz.zeroValue172
  t127 := Tryz.underlying113
  a127 := Tryz.isAgg113
  z127 := Tryz.sizeOf113
  v127 := Tryz.zeroValue113
  t143 := Tryz.underlying214
  a143 := Tryz.isAgg214
  z143 := Tryz.sizeOf214
  v143 := Tryz.zeroValue214
  t145 := Tryz.underlying216
  a145 := Tryz.isAgg216
  z145 := Tryz.sizeOf216
  v145 := Tryz.zeroValue216
  t167 := Tryz.underlying171
  a167 := Tryz.isAgg171
  z167 := Tryz.sizeOf171
  v167 := Tryz.zeroValue171
  t168 := Tryz.underlying174
  a168 := Tryz.isAgg174
  z168 := Tryz.sizeOf174
  v168 := Tryz.zeroValue174
  t171 := Tryz.underlying159
  a171 := Tryz.isAgg159
  z171 := Tryz.sizeOf159
  v171 := Tryz.zeroValue159
  t173 := Tryz.underlying163
  a173 := Tryz.isAgg163
  z173 := Tryz.sizeOf163
  v173 := Tryz.zeroValue163
  t175 := Tryz.underlying195
  a175 := Tryz.isAgg195
  z175 := Tryz.sizeOf195
  v175 := Tryz.zeroValue195
  t210 := Tryz.underlying199
  a210 := Tryz.isAgg199
  z210 := Tryz.sizeOf199
  v210 := Tryz.zeroValue199
  t212 := Tryz.underlying192
  a212 := Tryz.isAgg192
  z212 := Tryz.sizeOf192
  v212 := Tryz.zeroValue192
  t213 := Tryz.underlying193
  a213 := Tryz.isAgg193
  z213 := Tryz.sizeOf193
  t232 := Tryz.underlying220
  a232 := Tryz.isAgg220
  z232 := Tryz.sizeOf220
  v232 := Tryz.zeroValue220
  t233 := Tryz.underlying221
  a233 := Tryz.isAgg221
  z233 := Tryz.sizeOf221
  v233 := Tryz.zeroValue221
  g15 := by kernel_rfl
  g16 := by kernel_rfl
  g17 := by kernel_rfl
  g18 := by kernel_rfl
  g19 := by kernel_rfl
  t80 := Tryz.underlying69
  a80 := Tryz.isAgg69
  z80 := Tryz.sizeOf69
  v80 := Tryz.zeroValue69
  i0 := by kernel_rfl
  i2 := by kernel_rfl
  i3 := by kernel_rfl
  i4 := by kernel_rfl
  i5 := by kernel_rfl
  i9 := by kernel_rfl
  i20 := by kernel_rfl
  i21 := by kernel_rfl
  i37 := by kernel_rfl
  i46 := by kernel_rfl
  i51 := by kernel_rfl
  i53 := by kernel_rfl
  i75 := by kernel_rfl
  i76 := by kernel_rfl
  i80 := by kernel_rfl
  i85 := by kernel_rfl
  i127 := by kernel_rfl
  i143 := by kernel_rfl
  i145 := by kernel_rfl
  i167 := by kernel_rfl
  i168 := by kernel_rfl
  i171 := by kernel_rfl
  i173 := by kernel_rfl
  i175 := by kernel_rfl
  i210 := by kernel_rfl
  i212 := by kernel_rfl
  i232 := by kernel_rfl
  i233 := by kernel_rfl
  m15 := by kernel_rfl
  m16 := by kernel_rfl
  m17 := by kernel_rfl
  m18 := by kernel_rfl
  m19 := by kernel_rfl
  c0 := by kernel_rfl
  c2 := by kernel_rfl
  c3 := by kernel_rfl
  c4 := by kernel_rfl
  c5 := by kernel_rfl
  c9 := by kernel_rfl
  c20 := by kernel_rfl
  c21 := by kernel_rfl
  c37 := by kernel_rfl
  c46 := by kernel_rfl
  c51 := by kernel_rfl
  c53 := by kernel_rfl
  c75 := by kernel_rfl
  c76 := by kernel_rfl
  c80 := by kernel_rfl
  c85 := by kernel_rfl
  c127 := by kernel_rfl
  c143 := by kernel_rfl
  c145 := by kernel_rfl
  c167 := by kernel_rfl
  c168 := by kernel_rfl
  c171 := by kernel_rfl
  c173 := by kernel_rfl
  c175 := by kernel_rfl
  c210 := by kernel_rfl
  c212 := by kernel_rfl
  c213 := by kernel_rfl
  c232 := by kernel_rfl
  c233 := by kernel_rfl }
open Go.RowKit in
theorem Tryz.strconv_Atoi_ok (s : ByteArray) (hmax : s.size ≤ 9223372036854775806) (v : Int) (h : Lib.atoiAll s.data.toList = .ok v) (w : World) :
    Calls Tryz.prog 60 #[.string s] w fun e w' => e = .returned (.tuple #[.int .i64 v, .nilIface]) ∧ (w' = w ∨ ∃ t, w' = Lib.bytesWorld w 5 t) := Any.strconv_Atoi_ok Tryz.laysC172 s hmax v h w
def Tryz.lays101_ren : Go.Shelf.Ren := ⟨fun | 101 => 58 | 208 => 80 | 206 => 104 | n => n, fun | 9 => 9 | 4 => 4 | 3 => 3 | n => n, fun | n => n⟩
theorem Tryz.lays101 : Go.Proofs.Lays.n101 Tryz.prog Tryz.lays101_ren := {
  mixed := by kernel_rfl
  f101 := Tryz.func58.trans (congrArg some (by kernel_rfl))
  f206 := Tryz.func104.trans (congrArg some (by kernel_rfl))
  f208 := Tryz.func80.trans (congrArg some (by kernel_rfl))
  t3 := Tryz.underlying3
  a3 := Tryz.isAgg3
  z3 := Tryz.sizeOf3
  v3 := Tryz.zeroValue3
  t4 := Tryz.underlying4
  a4 := Tryz.isAgg4
  z4 := Tryz.sizeOf4
  v4 := Tryz.zeroValue4
  t9 := Tryz.underlying9
  a9 := Tryz.isAgg9
  z9 := Tryz.sizeOf9
  v9 := Tryz.zeroValue9 }
open Go.RowKit Go.Lib in
theorem Tryz.strings_TrimPrefix (s p : ByteArray) (w : World) :
    Calls Tryz.prog 58 #[.string s, .string p] w fun e w' => e = .returned (.string ⟨(Lib.trimPrefix s.data.toList p.data.toList).toArray⟩) ∧ w' = w := Any.strings_TrimPrefix Tryz.lays101 s p w
def Tryz.lays102_ren : Go.Shelf.Ren := ⟨fun | 102 => 31 | 209 => 57 | 207 => 79 | n => n, fun | 9 => 9 | 4 => 4 | 3 => 3 | n => n, fun | n => n⟩
theorem Tryz.lays102 : Go.Proofs.Lays.n102 Tryz.prog Tryz.lays102_ren := {
  mixed := by kernel_rfl
  f102 := Tryz.func31.trans (congrArg some (by kernel_rfl))
  f207 := Tryz.func79.trans (congrArg some (by kernel_rfl))
  f209 := Tryz.func57.trans (congrArg some (by kernel_rfl))
  t3 := Tryz.underlying3
  a3 := Tryz.isAgg3
  z3 := Tryz.sizeOf3
  v3 := Tryz.zeroValue3
  t4 := Tryz.underlying4
  a4 := Tryz.isAgg4
  z4 := Tryz.sizeOf4
  v4 := Tryz.zeroValue4
  t9 := Tryz.underlying9
  a9 := Tryz.isAgg9
  z9 := Tryz.sizeOf9
  v9 := Tryz.zeroValue9 }
open Go.RowKit Go.Lib in
theorem Tryz.strings_TrimSuffix (s p : ByteArray) (w : World) (hs : s.size ≤ 9223372036854775807) :
    Calls Tryz.prog 31 #[.string s, .string p] w fun e w' => e = .returned (.string ⟨(Lib.trimSuffix s.data.toList p.data.toList).toArray⟩) ∧ w' = w := Any.strings_TrimSuffix Tryz.lays102 s p w hs
def Tryz.lays146_ren : Go.Shelf.Ren := ⟨fun | 146 => 30 | 221 => 56 | 268 => 76 | 138 => 77 | 143 => 78 | 195 => 100 | 197 => 101 | 218 => 102 | 219 => 103 | 260 => 129 | 217 => 75 | 225 => 130 | 224 => 131 | 267 => 132 | 266 => 99 | 314 => 145 | n => n, fun | 9 => 9 | 31 => 74 | 3 => 3 | 4 => 4 | 0 => 0 | 105 => 167 | 21 => 21 | 5 => 5 | 46 => 155 | 119 => 207 | 139 => 210 | 138 => 209 | 146 => 186 | 51 => 185 | n => n, fun | 1 => 1 | 3 => 4 | 4 => 5 | n => n⟩
theorem Tryz.lays146 : Go.Proofs.Lays.n146 Tryz.prog Tryz.lays146_ren := {
  mixed := by kernel_rfl
  f138 := Tryz.func77.trans (congrArg some (by kernel_rfl))
  f143 := Tryz.func78.trans (congrArg some (by kernel_rfl))
  f146 := Tryz.func30.trans (congrArg some (by kernel_rfl))
  f195 := Tryz.func100.trans (congrArg some (by kernel_rfl))
  f197 := Tryz.func101.trans (congrArg some (by kernel_rfl))
  f217 := Tryz.func75.trans (congrArg some (by kernel_rfl))
  f218 := Tryz.func102.trans (congrArg some (by kernel_rfl))
  f219 := Tryz.func103.trans (congrArg some (by kernel_rfl))
  f221 := Tryz.func56.trans (congrArg some (by kernel_rfl))
  f224 := Tryz.func131.trans (congrArg some (by kernel_rfl))
  f225 := Tryz.func130.trans (congrArg some (by kernel_rfl))
  f260 := Tryz.func129.trans (congrArg some (by kernel_rfl))
  f266 := Tryz.func99.trans (congrArg some (by kernel_rfl))
  f267 := Tryz.func132.trans (congrArg some (by kernel_rfl))
  f268 := Tryz.func76.trans (congrArg some (by kernel_rfl))
  f314 := Tryz.func145.trans (congrArg some (by kernel_rfl))
  t0 := Tryz.underlying0
  a0 := Tryz.isAgg0
  z0 := Tryz.sizeOf0
  v0 := Tryz.zeroValue0
  t3 := Tryz.underlying3
  a3 := Tryz.isAgg3
  z3 := Tryz.sizeOf3
  v3 := Tryz.zeroValue3
  t4 := Tryz.underlying4
  a4 := Tryz.isAgg4
  z4 := Tryz.sizeOf4
  v4 := Tryz.zeroValue4
  t5 := Tryz.underlying5
  a5 := Tryz.isAgg5
  z5 := Tryz.sizeOf5
  v5 := Tryz.zeroValue5
  t9 := Tryz.underlying9
  a9 := Tryz.isAgg9
  z9 := Tryz.sizeOf9
  v9 := Tryz.zeroValue9
  t21 := Tryz.underlying21
  a21 := Tryz.isAgg21
  z21 := Tryz.sizeOf21
  v21 := Tryz.zeroValue21
  t31 := Tryz.underlying74
  a31 := Tryz.isAgg74
  z31 := Tryz.sizeOf74
  v31 := Tryz.zeroValue74
  t46 := Tryz.underlying155
  a46 := Tryz.isAgg155
  z46 := Tryz.sizeOf155
  v46 := Tryz.zeroValue155
  t51 := Tryz.underlying185
  a51 := Tryz.isAgg185
  z51 := Tryz.sizeOf185
  v51 := Tryz.zeroValue185
  t105 := Tryz.underlying167
  a105 := Tryz.isAgg167
  z105 := Tryz.sizeOf167
  v105 := Tryz.zeroValue167
  t119 := Tryz.underlying207
  a119 := Tryz.isAgg207
  z119 := Tryz.sizeOf207
  t138 := Tryz.underlying209
  a138 := Tryz.isAgg209
  z138 := Tryz.sizeOf209
  v138 := Tryz.zeroValue209
  t139 := Tryz.underlying210
  a139 := Tryz.isAgg210
  z139 := Tryz.sizeOf210
  v139 := Tryz.zeroValue210
  t146 := Tryz.underlying186
  a146 := Tryz.isAgg186
  z146 := Tryz.sizeOf186
  v146 := Tryz.zeroValue186
  g1 := by kernel_rfl
  g3 := by kernel_rfl
  g4 := by kernel_rfl }
open Go.RowKit Go.Lib in
theorem Tryz.strings_Split (s sep : ByteArray) (m : Int) (w : World) (hs : s.size < 4294967281) (hm : w.cell? ⟨1, 0, none⟩ = some (.int .i64 m)) (h1 : 1 ≤ sep.size) :
    Calls Tryz.prog 30 #[.string s, .string sep] w fun e w' =>
      e = .returned (.slice (some ⟨w.heap.size, 0, none⟩) (Lib.countB s sep + 1) (Lib.countB s sep + 1)) ∧ w' = w.alloc (.cells ((Lib.splitB sep 0 (Lib.countB s sep) s).map Value.string).toArray 9) := Any.strings_Split Tryz.lays146 (by kernel_rfl) s sep m w hs hm h1
def Tryz.lays137_ren : Go.Shelf.Ren := ⟨fun | 137 => 55 | 217 => 75 | 266 => 99 | n => n, fun | 9 => 9 | 5 => 5 | 3 => 3 | n => n, fun | n => n⟩
theorem Tryz.lays137 : Go.Proofs.Lays.n137 Tryz.prog Tryz.lays137_ren := {
  mixed := by kernel_rfl
  f137 := Tryz.func55.trans (congrArg some (by kernel_rfl))
  f217 := Tryz.func75.trans (congrArg some (by kernel_rfl))
  f266 := Tryz.func99.trans (congrArg some (by kernel_rfl))
  t3 := Tryz.underlying3
  a3 := Tryz.isAgg3
  z3 := Tryz.sizeOf3
  v3 := Tryz.zeroValue3
  t5 := Tryz.underlying5
  a5 := Tryz.isAgg5
  z5 := Tryz.sizeOf5
  v5 := Tryz.zeroValue5
  t9 := Tryz.underlying9
  a9 := Tryz.isAgg9
  z9 := Tryz.sizeOf9
  v9 := Tryz.zeroValue9 }
open Go.RowKit in
theorem Tryz.strings_IndexByte (s : ByteArray) (c : Int) (w : World) :
    Calls Tryz.prog 55 #[.string s, .int .u8 c] w fun e w' => e = .returned (.int .i64 (Lib.indexByte s.data.toList c.toNat.toUInt8)) ∧ w' = w := Any.strings_IndexByte Tryz.lays137 s c w
def Tryz.lays160_ren : Go.Shelf.Ren := ⟨fun | 160 => 59 | 232 => 82 | 231 => 81 | 227 => 83 | 234 => 85 | 233 => 84 | 236 => 87 | 235 => 86 | 228 => 105 | 271 => 107 | 151 => 106 | 197 => 101 | 120 => 134 | 152 => 133 | 260 => 129 | 137 => 55 | 119 => 146 | 224 => 131 | 225 => 130 | 217 => 75 | 266 => 99 | n => n, fun | 9 => 9 | 4 => 4 | 3 => 3 | 5 => 5 | 117 => 145 | 116 => 144 | 0 => 0 | 124 => 148 | 21 => 21 | 105 => 167 | 46 => 155 | 119 => 207 | 139 => 210 | 138 => 209 | n => n, fun | 3 => 4 | 4 => 5 | n => n⟩
theorem Tryz.lays160 : Go.Proofs.Lays.n160 Tryz.prog Tryz.lays160_ren := {
  mixed := by kernel_rfl
  f119 := Tryz.func146.trans (congrArg some (by kernel_rfl))
  f120 := Tryz.func134.trans (congrArg some (by kernel_rfl))
  f137 := Tryz.func55.trans (congrArg some (by kernel_rfl))
  f151 := Tryz.func106.trans (congrArg some (by kernel_rfl))
  f152 := Tryz.func133.trans (congrArg some (by kernel_rfl))
  f160 := Tryz.func59.trans (congrArg some (by kernel_rfl))
  f197 := Tryz.func101.trans (congrArg some (by kernel_rfl))
  f217 := Tryz.func75.trans (congrArg some (by kernel_rfl))
  f224 := Tryz.func131.trans (congrArg some (by kernel_rfl))
  f225 := Tryz.func130.trans (congrArg some (by kernel_rfl))
  f227 := Tryz.func83.trans (congrArg some (by kernel_rfl))
  f228 := Tryz.func105.trans (congrArg some (by kernel_rfl))
  f231 := Tryz.func81.trans (congrArg some (by kernel_rfl))
  f232 := Tryz.func82.trans (congrArg some (by kernel_rfl))
  f233 := Tryz.func84.trans (congrArg some (by kernel_rfl))
  f234 := Tryz.func85.trans (congrArg some (by kernel_rfl))
  f235 := Tryz.func86.trans (congrArg some (by kernel_rfl))
  f236 := Tryz.func87.trans (congrArg some (by kernel_rfl))
  f260 := Tryz.func129.trans (congrArg some (by kernel_rfl))
  f266 := Tryz.func99.trans (congrArg some (by kernel_rfl))
  f271 := Tryz.func107.trans (congrArg some (by kernel_rfl))
  t0 := Tryz.underlying0
  a0 := Tryz.isAgg0
  z0 := Tryz.sizeOf0
  v0 := Tryz.zeroValue0
  t3 := Tryz.underlying3
  a3 := Tryz.isAgg3
  z3 := Tryz.sizeOf3
  v3 := Tryz.zeroValue3
  t4 := Tryz.underlying4
  a4 := Tryz.isAgg4
  z4 := Tryz.sizeOf4
  v4 := Tryz.zeroValue4
  t5 := Tryz.underlying5
  a5 := Tryz.isAgg5
  z5 := Tryz.sizeOf5
  v5 := Tryz.zeroValue5
  t9 := Tryz.underlying9
  a9 := Tryz.isAgg9
  z9 := Tryz.sizeOf9
  v9 := Tryz.zeroValue9
  t21 := Tryz.underlying21
  a21 := Tryz.isAgg21
  z21 := Tryz.sizeOf21
  v21 := Tryz.zeroValue21
  t46 := Tryz.underlying155
  a46 := Tryz.isAgg155
  z46 := Tryz.sizeOf155
  v46 := Tryz.zeroValue155
  t105 := Tryz.underlying167
  a105 := Tryz.isAgg167
  z105 := Tryz.sizeOf167
  v105 := Tryz.zeroValue167
  t116 := Tryz.underlying144
  a116 := Tryz.isAgg144
  z116 := Tryz.sizeOf144
  t117 := Tryz.underlying145
  a117 := Tryz.isAgg145
  z117 := Tryz.sizeOf145
  v117 := Tryz.zeroValue145
  t119 := Tryz.underlying207
  a119 := Tryz.isAgg207
  z119 := Tryz.sizeOf207
  t124 := Tryz.underlying148
  a124 := Tryz.isAgg148
  z124 := Tryz.sizeOf148
  v124 := Tryz.zeroValue148
  t138 := Tryz.underlying209
  a138 := Tryz.isAgg209
  z138 := Tryz.sizeOf209
  v138 := Tryz.zeroValue209
  t139 := Tryz.underlying210
  a139 := Tryz.isAgg210
  z139 := Tryz.sizeOf210
  v139 := Tryz.zeroValue210
  g3 := by kernel_rfl
  g4 := by kernel_rfl }
end Go.Proofs

/- Writing to a strings.Builder that the call has made. -/
namespace Go.Proofs.YtcbhldfipfcjaaaGreatDoor
open Go Go.RowKit Go.Shelf
set_option maxRecDepth 100000

theorem infoBuilder : (Tryz.prog.info? 58).map (·.size) = some 2 := by kernel_rfl
theorem liesBuilder : liesAt Tryz.prog Tryz.prog.depth 58 (2 / Tryz.prog.cellsOf 58) 0 58 1 = true := by kernel_rfl
/-- A builder of the call's own. -/
abbrev IsB (B b : Nat) (bs : List Value) (w : World) : Prop := Lib.IsBuilder 58 5 B b bs w
abbrev UsedB (B b : Nat) (bs : List Value) (w : World) : Prop := Lib.BuilderAt 58 5 B b (.pointer (some ⟨b, 0, none⟩)) bs w
/-- What writing to builder b leaves: whatever is no byte. -/
def Kept (b : Nat) (w w' : World) : Prop := ∀ k cs t f, k ≠ b → t ≠ 5 → w.heap[k]? = some (.cells cs t f) → w'.heap[k]? = some (.cells cs t f)
theorem Kept.refl (b : Nat) (w : World) : Kept b w w := fun _ _ _ _ _ _ h => h
theorem Kept.trans {b : Nat} {w1 w2 w3 : World} (h : Kept b w1 w2) (g : Kept b w2 w3) : Kept b w1 w3 := fun k cs t f hk ht e => g k cs t f hk ht (h k cs t f hk ht e)
theorem Kept.below {b : Nat} {w w' : World} (h : Below w.heap.size w w') : Kept b w w' := fun k cs t f _ _ e => blk_below h e (lt_blk e)
theorem Kept.setCell {b : Nat} (w : World) (i : Nat) (v : Value) : Kept b w (w.setCell ⟨b, i, none⟩ v) := fun k cs t f hk _ e => (Below.heap_setCell _ _ _ _ hk).trans e
theorem Kept.grown {b B n : Nat} {w w' : World} {v : Value} {xs : List Value} (hown : w.ownsRow B 5 1 v n xs) (hg : w.grownBy w' v.ownBlock) : Kept b w w' := fun k cs t f _ ht e => by
  rw [hg.block k (lt_blk e) (fun he => ?_)]
  · exact e
  · rcases hown.2 with ⟨hv, _⟩ | ⟨g, cap, cur, hv, _, hh, _⟩
    · rw [hv] at he; cases he
    · rw [hv] at he
      have : k = g := by injection he
      subst this
      rw [hh] at e
      simp at e
      exact ht e.2.1.symm
set_option maxHeartbeats 1000000 in
theorem bcheck_used (b : Nat) (w : World) (h0 : w.cell? ⟨b, 0, none⟩ = some (.pointer (some ⟨b, 0, none⟩))) :
    Calls Tryz.prog 51 #[.pointer (some ⟨b, 0, none⟩)] w fun e w' => e = .returned (.tuple #[]) ∧ w' = w := by
  obtain ⟨j, hj, _⟩ := Option.map_eq_some_iff.1 infoBuilder
  go_enter Tryz.func51, Tryz.ntmps51
  go_wp2
  rw [Lib.run_neq_ptr_same w _ Tryz.underlying55 hj]
  go_wp2
  go_end0
  exact ⟨rfl, rfl⟩
set_option maxHeartbeats 1000000 in
theorem bcheck_fresh (b : Nat) (w : World) (h0 : w.cell? ⟨b, 0, none⟩ = some (.pointer none)) (hsh : w.shape? b = some (58, 2)) (hfz : w.frozen? ⟨b, 0, none⟩ = false) :
    Calls Tryz.prog 51 #[.pointer (some ⟨b, 0, none⟩)] w fun e w' => e = .returned (.tuple #[]) ∧ w' = w.setCell ⟨b, 0, none⟩ (.pointer (some ⟨b, 0, none⟩)) := by
  obtain ⟨j, hj, hjs⟩ := Option.map_eq_some_iff.1 infoBuilder
  go_enter Tryz.func51, Tryz.ntmps51
  go_wp2
  rw [Lib.run_to_unsafe w ⟨b, 0, none⟩ Tryz.underlying55 Tryz.underlying136 hj (by rw [hjs]; decide) hsh (Nat.zero_lt_succ 1)]
  simp only [Result.andThen]
  rw [Oper.upon_value]
  go_wp2
  rw [run_callFunc_extern Tryz.func72 (by kernel_rfl) (by kernel_rfl) (by kernel_rfl) (e := Extern.AbiNoEscape.same) (by kernel_rfl)]
  rw [Lib.run_noEscape]
  simp only [Result.andThen]
  rw [Oper.upon_value]
  go_wp2
  rw [Lib.run_from_unsafe w ⟨b, 0, none⟩ Tryz.underlying136 Tryz.underlying55 hj hsh liesBuilder]
  simp only [Result.andThen]
  rw [Oper.upon_value]
  go_wp2
  go_end0
  exact ⟨rfl, rfl⟩
/-- What every writing method calls first. -/
theorem bcheck_calls (B b : Nat) (bs : List Value) (w : World) (h : IsB B b bs w) :
    Calls Tryz.prog 51 #[.pointer (some ⟨b, 0, none⟩)] w fun e w' => e = .returned (.tuple #[]) ∧ UsedB B b bs w' ∧ Below B w w' ∧ Kept b w w' := by
  rcases h with h | h
  · refine (bcheck_fresh b w h.cell0 h.shape h.frozen0).mono ?_
    rintro e w' ⟨rfl, rfl⟩
    exact ⟨rfl, h.used _, (Below.refl B w).setCell (p := ⟨b, 0, none⟩) h.1 _, Kept.setCell _ _ _⟩
  · refine (bcheck_used b w h.cell0).mono ?_
    rintro e w' ⟨rfl, rfl⟩
    exact ⟨rfl, h, Below.refl B _, Kept.refl _ _⟩
theorem infoByte : (Tryz.prog.info? 5).map (fun i => (i.zero, i.size, i.bytes)) = some (some (.int .u8 0), 1, 1) := by kernel_rfl
theorem neByte : 58 ≠ 5 := by decide
set_option maxHeartbeats 4000000 in
theorem writeByte_calls (B b : Nat) (bs : List Value) (c : Int) (w : World) (h : IsB B b bs w) (hlen : bs.length + 1 ≤ 140737488355328) (hBw : B ≤ w.heap.size) :
    Calls Tryz.prog 24 #[.pointer (some ⟨b, 0, none⟩), .int .u8 c] w fun e w' => e = .returned .nilIface ∧ UsedB B b (bs ++ [.int .u8 c]) w' ∧ Below B w w' ∧ Kept b w w' := by
  obtain ⟨i0, hi, hz0, hz1, hz2⟩ := info_parts infoByte
  go_enter Tryz.func24, Tryz.ntmps24
  go_wp2_with fail
  refine (bcheck_calls B b bs _ h).mono ?_
  rintro e w1 ⟨rfl, ⟨hB, v, hbk, hown, hne⟩, hb1, hk1⟩
  have hz := hb1.size
  have hlt := lt_blk hbk
  have c1 : w1.cell? ⟨b, 1, none⟩ = some v := by rw [cell_blk hbk]; rfl
  have HK := Lib.hid (And.intro hB (And.intro hbk (And.intro hown (And.intro hne (And.intro hb1 hk1)))))
  have hB1 : B ≤ w1.heap.size := by omega
  clear hbk hown hne hb1 hk1 h
  go_wp2_with (at_builtin; (refine wpList_append_own _ rfl _ _ 56 rfl B 5 i0 (.int .u8 0) 1 1 Tryz.underlying56 hi hz0 hz1 hz2 rfl (by decide) _ _ _ rfl (HK.out.2.2.1.alloc _) ⟨w1.heap.size, 0, none⟩ 1 1 [.int .u8 c] rfl rfl (cell_one_new w1 (.int .u8 c) 5) (by simp [Value.oneCell']) (by simp only [maxLen]; omega) (by omega) (by simp; omega) ?_); intro v2 w2 hown2 hg2 _; have hb2 : w2.heap[b]? = some (.cells #[.pointer (some ⟨b, 0, none⟩), v] 58 (0, 0)) := (hg2.block b (by simp; omega) (fun e => HK.out.2.2.2.1 e.symm)).trans ((Below.heap_alloc w1 _ _ (by omega)).trans HK.out.2.1); have d1 : w2.cell? ⟨b, 1, none⟩ = some v := (by rw [cell_blk hb2]; rfl); have f1 := frozen_blk hb2 1; obtain ⟨A2, n2, k2, rfl⟩ : ∃ A n k, v2 = .slice A n k := (by rcases hown2.2 with ⟨hv, _⟩ | ⟨g, cap, cur, hv, _⟩ <;> exact ⟨_, _, _, hv⟩); have HK2 := Lib.hid (And.intro hown2 (And.intro hg2 hb2)); clear hown2 hg2 hb2)
  obtain ⟨hB, hbk, hown, hne, hb1, hk1⟩ := HK.out
  obtain ⟨hown2, hg2, hb2⟩ := HK2.out
  have hf : UsedB B b (bs ++ [.int .u8 c]) (w2.setCell ⟨b, 1, none⟩ (.slice A2 n2 k2)) := Lib.BuilderAt.put (T := 58) (e := 5) hB hb2 (bs' := bs ++ [.int .u8 c]) (by simpa using hown2) neByte
  have hbe : Below B w (w2.setCell ⟨b, 1, none⟩ (.slice A2 n2 k2)) := ((hb1.alloc (by omega) _).grown hg2 (by simp; omega) (fun k hk => (hown.lt k hk).1)).setCell (p := ⟨b, 1, none⟩) hB _
  have hke : Kept b w (w2.setCell ⟨b, 1, none⟩ (.slice A2 n2 k2)) := (hk1.trans (Kept.below (below1 w1 (.cells #[.int .u8 c] 5)))).trans ((Kept.grown (hown.alloc _) hg2).trans (Kept.setCell _ _ _))
  have HF := Lib.hid (And.intro hf (And.intro hbe hke))
  clear hown hown2 hg2 hb2 hbk hne hb1 hf hbe hk1 hke
  go_wp2_with fail
  go_ret
  exact ⟨rfl, HF.out⟩
set_option maxHeartbeats 4000000 in
theorem writeString_calls (B b : Nat) (bs : List Value) (s : ByteArray) (w : World) (h : IsB B b bs w) (hlen : bs.length + s.size ≤ 140737488355328) (hBw : B ≤ w.heap.size) :
    Calls Tryz.prog 22 #[.pointer (some ⟨b, 0, none⟩), .string s] w fun e w' => e = .returned (.tuple #[.int .i64 s.size, .nilIface]) ∧ UsedB B b (bs ++ Lib.strCells s) w' ∧ Below B w w' ∧ Kept b w w' := by
  obtain ⟨i0, hi, hz0, hz1, hz2⟩ := info_parts infoByte
  go_enter Tryz.func22, Tryz.ntmps22
  go_wp2_with fail
  refine (bcheck_calls B b bs _ h).mono ?_
  rintro e w1 ⟨rfl, ⟨hB, v, hbk, hown, hne⟩, hb1, hk1⟩
  have hz := hb1.size
  have hlt := lt_blk hbk
  have c1 : w1.cell? ⟨b, 1, none⟩ = some v := by rw [cell_blk hbk]; rfl
  have HK := Lib.hid (And.intro hB (And.intro hbk (And.intro hown (And.intro hne (And.intro hb1 hk1)))))
  have hB1 : B ≤ w1.heap.size := by omega
  clear hbk hown hne hb1 hk1 h
  go_wp2_with (at_builtin; (refine Lib.wpList_append_own_string _ rfl _ _ 56 9 rfl B 5 i0 Tryz.underlying56 Tryz.underlying9 hi hz0 hz1 hz2 _ _ _ rfl HK.out.2.2.1 s rfl (by simp only [maxLen]; omega) (by omega) (by omega) ?_); intro v2 w2 hown2 hg2 _; have hb2 : w2.heap[b]? = some (.cells #[.pointer (some ⟨b, 0, none⟩), v] 58 (0, 0)) := (hg2.block b (by omega) (fun e => HK.out.2.2.2.1 e.symm)).trans HK.out.2.1; have d1 : w2.cell? ⟨b, 1, none⟩ = some v := (by rw [cell_blk hb2]; rfl); have f1 := frozen_blk hb2 1; obtain ⟨A2, n2, k2, rfl⟩ : ∃ A n k, v2 = .slice A n k := (by rcases hown2.2 with ⟨hv, _⟩ | ⟨g, cap, cur, hv, _⟩ <;> exact ⟨_, _, _, hv⟩); have HK2 := Lib.hid (And.intro hown2 (And.intro hg2 hb2)); clear hown2 hg2 hb2)
  obtain ⟨hB, hbk, hown, hne, hb1, hk1⟩ := HK.out
  obtain ⟨hown2, hg2, hb2⟩ := HK2.out
  have hf : UsedB B b (bs ++ Lib.strCells s) (w2.setCell ⟨b, 1, none⟩ (.slice A2 n2 k2)) := Lib.BuilderAt.put (T := 58) (e := 5) hB hb2 (bs' := bs ++ Lib.strCells s) (by simpa [Lib.strCells_length] using hown2) neByte
  have hbe : Below B w (w2.setCell ⟨b, 1, none⟩ (.slice A2 n2 k2)) := (hb1.grown hg2 (by omega) (fun k hk => (hown.lt k hk).1)).setCell (p := ⟨b, 1, none⟩) hB _
  have hke : Kept b w (w2.setCell ⟨b, 1, none⟩ (.slice A2 n2 k2)) := hk1.trans ((Kept.grown hown hg2).trans (Kept.setCell _ _ _))
  have HF := Lib.hid (And.intro hf (And.intro hbe hke))
  clear hown hown2 hg2 hb2 hbk hne hb1 hf hbe hk1 hke
  go_wp2_with fail
  go_ret2
  exact ⟨rfl, HF.out⟩
end Go.Proofs.YtcbhldfipfcjaaaGreatDoor

/- mend.Print's put: a line into the builder. -/
namespace Go.Proofs.YtcbhldfipfcjaaaGreatDoor
open Go Go.RowKit Go.Shelf
set_option maxRecDepth 100000

def tabName : String := "internal/strconv.uint64pow10"
theorem tabGlobal : Tryz.prog.globalNamed tabName = some 0 := by kernel_rfl
/-- What the library reads of its variables. -/
structure Vars (w : World) : Prop where
  tab : Lib.TabIs Tryz.prog w tabName .u64 Lib.pow10Tab
  len : ∃ m, w.cell? ⟨1, 0, none⟩ = some (.int .i64 m)
  big : 1 < w.heap.size
theorem Vars.below {w w' : World} {n0 : Nat} (h : Vars w) (hb : Below n0 w w') (hn : 1 < n0) : Vars w' := by
  obtain ⟨h1, ⟨m, h2⟩, h3⟩ := h
  refine ⟨?_, ⟨m, (hb.cell (p := ⟨1, 0, none⟩) hn).trans h2⟩, Nat.lt_of_lt_of_le h3 hb.size⟩
  unfold Lib.TabIs World.var? at h1 ⊢
  rw [tabGlobal] at h1 ⊢
  simp only [Option.bind_some] at h1 ⊢
  rw [hb.block 0 (by omega)]
  exact h1
theorem below_grow (w : World) (k : Nat) (os : Array Obj) : Below w.heap.size w (Go.Sort.grow (w.drewN k) os) := by
  refine ⟨rfl, rfl, rfl, ?_, fun j hj => ?_⟩
  · simp [Go.Sort.grow]
  · show ((w.drewN k).heap ++ os)[j]? = _
    rw [Array.getElem?_append_left (by exact hj)]
    rfl
theorem itoa_calls (n : Int) (h0 : -9223372036854775808 ≤ n) (h1 : n ≤ 9223372036854775807) (w : World) (hv : Vars w) :
    Calls Tryz.prog 23 #[.int .i64 n] w fun e w' => e = .returned (.string ⟨(Lib.itoa n).toArray⟩) ∧ Below w.heap.size w w' :=
  (Tryz.strconv_Itoa n h0 h1 w hv.tab).mono fun e w' ⟨he, k, os, hw⟩ => ⟨he, by rw [hw]; exact below_grow w k os⟩
theorem byteCells_append (a b : List UInt8) : Lib.byteCells (a ++ b) = Lib.byteCells a ++ Lib.byteCells b := List.map_append
theorem used_below {B b : Nat} {bs : List Value} {w w' : World} (h : UsedB B b bs w) (hb : Below w.heap.size w w') : UsedB B b bs w' := by
  obtain ⟨h1, v, h2, h3, h4⟩ := h
  exact ⟨h1, v, blk_below hb h2 (lt_blk h2), own_below h3 hb (fun k hk => (own_blk_lt h3 k hk).2), h4⟩
set_option maxHeartbeats 4000000 in
theorem putl_calls (B b : Nat) (bs : List UInt8) (head : ByteArray) (A : Option Addr) (c : Nat) (xs : List Int) (w : World) (h : IsB B b (Lib.byteCells bs) w) (hBw : B ≤ w.heap.size) (hB1 : 1 < B) (hv : Vars w)
    (hx : xs ≠ [] → ∃ (k : Nat) (cs : Array Value) (f : Nat × Nat), A = some ⟨k, 0, none⟩ ∧ k ≠ b ∧ w.heap[k]? = some (.cells cs 3 f) ∧ ∀ (j : Nat) (u : Value), (xs.map (Value.int .i64))[j]? = some u → cs[j]? = some u)
    (hxb : ∀ n ∈ xs, 0 ≤ n ∧ n < 10000000000) (hlen : bs.length + head.size + 11 * xs.length + 1 ≤ 1000000) :
    Calls Tryz.prog 21 #[.string head, .slice A xs.length c, .pointer (some ⟨b, 0, none⟩)] w fun e w' => e = .returned (.tuple #[]) ∧ UsedB B b (Lib.byteCells (bs ++ rowS head.data.toList xs)) w' ∧ Below B w w' ∧ Kept b w w' := by
  have HX := Lib.hid hx
  have HV := Lib.hid hv
  have HXB := Lib.hid hxb
  clear hx hv hxb
  go_enter Tryz.func21, Tryz.ntmps21
  go_wp2_with fail
  refine (writeString_calls B b _ head w h (by rw [Lib.byteCells_length]; omega) hBw).mono ?_
  rintro e w1 ⟨rfl, hu1, hb1, hk1⟩
  have HU1 : Hid (UsedB B b (Lib.byteCells (bs ++ head.data.toList ++ numsS (xs.take 0))) w1) := Lib.hid (by
    have : Lib.byteCells (bs ++ head.data.toList ++ numsS (xs.take 0)) = Lib.byteCells bs ++ Lib.strCells head := by
      rw [List.take_zero, show numsS [] = [] from rfl, List.append_nil, byteCells_append]
      rfl
    rw [this]; exact hu1)
  have HB1 := Lib.hid (And.intro hb1 hk1)
  clear hu1 hb1 hk1 h
  go_wp2_with fail
  go_loopw [11] (fun iv wr => ∃ i : Nat, i ≤ xs.length ∧ iv = .int .i64 (i : Int) ∧ Hid (UsedB B b (Lib.byteCells (bs ++ head.data.toList ++ numsS (xs.take i))) wr) ∧ Hid (Below B w wr ∧ Kept b w wr)) (fun iv _ => xs.length - (intOf iv).toNat)
  case atStart => exact ⟨0, Nat.zero_le _, rfl, HU1, HB1⟩
  case round =>
    obtain ⟨i, hi, rfl, HU, HB⟩ := hrel
    obtain ⟨wi, rfl⟩ : ∃ wi, wi = wr := ⟨_, rfl⟩
    by_cases hil : i < xs.length
    · have hii : (i : Int) < (xs.length : Int) := by omega
      have hi0 : (0 : Int) ≤ (i : Int) := by omega
      have hiadd : IntKind.i64.wrap ((i : Int) + 1) = (i : Int) + 1 := IntWalk.i64_in _ (by omega)
      obtain ⟨k, cs, f, rfl, hkb, hkw, hcs⟩ := HX.out (by intro e; rw [e] at hil; simp at hil)
      have hki := HB.out.2 k cs _ f hkb (by decide) hkw
      have hc : wi.cell? ⟨k, i, none⟩ = some (.int .i64 xs[i]) := by rw [cell_blk hki]; exact hcs i _ (by rw [List.getElem?_map, List.getElem?_eq_getElem hil]; rfl)
      have hxi := HXB.out _ (List.getElem_mem hil)
      have hts : xs.take (i + 1) = xs.take i ++ [xs[i]] := List.take_succ_eq_append_getElem hil
      have hnl : (numsS (xs.take i)).length ≤ 11 * i := by
        have := numsS_len (l := xs.take i) (fun n hn => HXB.out n (List.mem_of_mem_take hn))
        rw [List.length_take, Nat.min_eq_left hi] at this
        exact this
      have HTS := Lib.hid hts
      have hzB := HB.out.1.size
      clear hki hcs hkw hts
      generalize xs[i] = x at *
      go_wp2_with fail
      refine (itoa_calls x (by omega) (by omega) wi (HV.out.below HB.out.1 hB1)).mono ?_
      rintro e w2 ⟨rfl, hb2⟩
      have hz2 := hb2.size
      have hk2 : Kept b w w2 := HB.out.2.trans (Kept.below hb2)
      have hbB : b < wi.heap.size := HU.out.lt
      have hu2 : UsedB B b (Lib.byteCells (bs ++ head.data.toList ++ numsS (xs.take i))) w2 := used_below HU.out hb2
      have HK2 := Lib.hid (And.intro hk2 (And.intro (HB.out.1.trans (hb2.mono (Nat.le_trans hBw hzB))) hu2))
      have hxl := itoa_len hxi.1 hxi.2
      clear hb2 hk2 hu2
      have hsz : (⟨#[32]⟩ ++ ⟨(Lib.itoa x).toArray⟩ : ByteArray).size = 1 + (Lib.itoa x).length := by rw [ByteArray.size_append]; rfl
      have hdt : Lib.strCells (⟨#[32]⟩ ++ ⟨(Lib.itoa x).toArray⟩ : ByteArray) = Lib.byteCells (32 :: Lib.itoa x) := by
        unfold Lib.strCells Lib.byteCells
        rw [ByteArray.data_append]
        simp
      go_wp2_with fail
      refine (writeString_calls B b _ _ w2 (.inr HK2.out.2.2) (by rw [Lib.byteCells_length, List.length_append, List.length_append, hsz]; simp only [Array.length_toList]; have : head.data.size = head.size := rfl; omega) (by omega)).mono ?_
      rintro e w3 ⟨rfl, hu3, hb3, hk3⟩
      have HU3 : Hid (UsedB B b (Lib.byteCells (bs ++ head.data.toList ++ numsS (xs.take (i + 1)))) w3) := Lib.hid (by
        rw [HTS.out, numsS_snoc, ← List.append_assoc, byteCells_append]
        rw [hdt] at hu3
        exact hu3)
      have HB3 := Lib.hid (And.intro (HK2.out.2.1.trans hb3) (HK2.out.1.trans hk3))
      clear hu3 hb3 hk3
      go_wp2_with fail
      go_round
      case rel => exact ⟨i + 1, by omega, by go_num, HU3, HB3⟩
      case measure => simp [intOf]; omega
    · obtain rfl : i = xs.length := by omega
      have hii : ¬ ((xs.length : Int) < (xs.length : Int)) := by omega
      have hnl : (numsS xs).length ≤ 11 * xs.length := numsS_len HXB.out
      go_wp2_with fail
      refine (writeByte_calls B b _ 10 wi (.inr HU.out) (by rw [Lib.byteCells_length, List.length_append, List.length_append, List.take_length]; simp only [Array.length_toList]; have : head.data.size = head.size := rfl; omega) (by have := HB.out.1.size; omega)).mono ?_
      rintro e w3 ⟨rfl, hu3, hb3, hk3⟩
      have HF : Hid (UsedB B b (Lib.byteCells (bs ++ rowS head.data.toList xs)) w3 ∧ Below B w w3 ∧ Kept b w w3) := Lib.hid ⟨by
        rw [List.take_length] at hu3
        have e : bs ++ rowS head.data.toList xs = (bs ++ head.data.toList ++ numsS xs) ++ [10] := by simp [rowS]
        rw [e, byteCells_append]
        exact hu3, HB.out.1.trans hb3, HB.out.2.trans hk3⟩
      clear hu3 hb3 hk3
      go_wp2_with fail
      go_end0
      exact ⟨rfl, HF.out⟩
end Go.Proofs.YtcbhldfipfcjaaaGreatDoor

/- mend.number. -/
namespace Go.Proofs.YtcbhldfipfcjaaaGreatDoor
open Go Go.RowKit Go.Shelf
set_option maxRecDepth 100000

theorem infoAscii : (Tryz.prog.info? (Tryz.lays160_ren.t 116)).map (fun i => (i.zero, i.size)) = some (some (.agg (Array.replicate 256 (.bool false))), 256) := by kernel_rfl
theorem trim_calls (s : ByteArray) (w : World) (hs : s.size ≤ 1000000) : Calls Tryz.prog 59 #[.string s, .string ⟨#[48, 49, 50, 51, 52, 53, 54, 55, 56, 57]⟩] w fun e w' => e = .returned (.string ⟨(Lib.trimS s.data.toList [48, 49, 50, 51, 52, 53, 54, 55, 56, 57]).toArray⟩) ∧ Below w.heap.size w w' :=
  Any.strings_Trim_laid Tryz.lays160 infoAscii s ⟨#[48, 49, 50, 51, 52, 53, 54, 55, 56, 57]⟩ w (by omega) (by decide) (ascii_of_all (by decide))
theorem bytes_below (w : World) (t : ByteArray) : Below w.heap.size w (Lib.bytesWorld w 5 t) := Go.Joins.below_bytesWorld _ w _ t (Nat.le_refl _)
def numV (o : Option Int) : Int × Bool := match o with | some n => (n, true) | none => (0, false)
set_option maxHeartbeats 4000000 in
theorem number_calls (s : ByteArray) (w : World) (hs : s.size ≤ 1000000) :
    Calls Tryz.prog 32 #[.string s] w fun e w' => e = .returned (.tuple #[.int .i64 (numV (numOf s.data.toList)).1, .bool (numV (numOf s.data.toList)).2]) ∧ Below w.heap.size w w' := by
  go_enter Tryz.func32, Tryz.ntmps32
  go_wp2_with fail
  refine (Tryz.strings_TrimPrefix s ⟨#[45]⟩ w).mono ?_
  rintro e w1 ⟨rfl, rfl⟩
  obtain ⟨d, hd⟩ : ∃ d, d = Lib.trimPrefix s.data.toList [45] := ⟨_, rfl⟩
  have hd2 : Lib.trimPrefix s.data.toList (ByteArray.mk #[45]).data.toList = d := hd.symm
  rw [hd2]
  have HD := Lib.hid hd
  have hdl : d.length ≤ 1000000 := by
    rw [hd]
    unfold Lib.trimPrefix
    have h0 : s.data.toList.length = s.size := by simp
    split
    · rw [List.length_drop]; omega
    · omega
  clear hd hd2
  have hst := ByteArray.toList_eq s
  by_cases h1 : d.length < 1
  · have h1i : (d.length : Int) < 1 := by omega
    have hnone : numOf s.data.toList = none := number_none (.inl (by rw [← HD.out]; exact h1))
    have HN := Lib.hid hnone
    clear hnone
    go_wp2_with fail
    go_ret2
    exact ⟨by rw [HN.out]; rfl, Below.refl _ _⟩
  · have h1i : ¬ (d.length : Int) < 1 := by omega
    by_cases h2 : 10 < d.length
    · have h2i : (d.length : Int) > 10 := by omega
      have hnone : numOf s.data.toList = none := number_none (.inr (.inl (by rw [← HD.out]; exact h2)))
      have HN := Lib.hid hnone
      clear hnone
      go_wp2_with fail
      go_ret2
      exact ⟨by rw [HN.out]; rfl, Below.refl _ _⟩
    · have h2i : ¬ (d.length : Int) > 10 := by omega
      go_wp2_with fail
      refine (trim_calls ⟨d.toArray⟩ w1 (by simpa [ByteArray.size] using hdl)).mono ?_
      rintro e w2 ⟨rfl, hb2⟩
      have HB2 := Lib.hid hb2
      clear hb2
      by_cases h3 : Lib.trimS d [48, 49, 50, 51, 52, 53, 54, 55, 56, 57] = []
      · have h3' : Lib.trimS (ByteArray.mk d.toArray).data.toList [48, 49, 50, 51, 52, 53, 54, 55, 56, 57] = [] := by simpa using h3
        rw [h3']
        have hatoi : ¬ (d.head? = some 48 ∧ s.data.toList ≠ [48]) → ∃ n, numOf s.data.toList = some n ∧ Lib.atoiAll s.data.toList = .ok n := fun h4 => by
          have h1' := h1
          have h2' := h2
          rw [HD.out] at h1' h2' h3 h4
          exact number_some h1' h2' h3 h4
        have hnone : d.head? = some 48 ∧ s.data.toList ≠ [48] → numOf s.data.toList = none := fun h4 => number_none (.inr (.inr (.inr (by rw [← HD.out]; exact h4))))
        have HA := Lib.hid (And.intro hatoi hnone)
        have hfin : ∀ n, numOf s.data.toList = some n → Lib.atoiAll s.data.toList = .ok n → Calls Tryz.prog 60 #[.string s] w2 fun e w' => e = .returned (.tuple #[.int .i64 n, .nilIface]) ∧ Below w1.heap.size w1 w' := fun n h1 h2 => by
          refine (Tryz.strconv_Atoi_ok s (by omega) n h2 w2).mono ?_
          rintro e w' ⟨rfl, hw⟩
          refine ⟨rfl, ?_⟩
          rcases hw with rfl | ⟨t, rfl⟩
          · exact HB2.out
          · exact HB2.out.trans ((bytes_below w2 t).mono HB2.out.size)
        have HFIN := Lib.hid hfin
        clear h3 h3' hatoi hnone hfin
        obtain ⟨c, l, hcl⟩ : ∃ c l, d = c :: l := by
          cases d with
          | nil => simp at h1
          | cons c l => exact ⟨c, l, rfl⟩
        have hget : ∀ h : 0 < (ByteArray.mk d.toArray).size, (ByteArray.mk d.toArray)[0]'h = c := fun h => by
          subst hcl
          rfl
        have hhd : d.head? = some c := by rw [hcl]; rfl
        have HC : Hid ((c.toNat : Int) = 48 ↔ d.head? = some 48) := Lib.hid (by
          rw [hhd]
          constructor
          · intro h
            have : c = 48 := UInt8.toNat_inj.1 (by have : (48 : UInt8).toNat = 48 := rfl; omega)
            rw [this]
          · intro h
            have : c = 48 := by simpa using h
            rw [this]; rfl)
        clear hcl hhd
        by_cases hc : (c.toNat : Int) = 48
        · have hcb : ((c.toNat : Int) == 48) = true := by simp [hc]
          by_cases hw : s.data.toList = [48]
          · have hwb : (s.data.toList == [48]) = true := by simp [hw]
            obtain ⟨n, hn, ha⟩ := HA.out.1 (fun h => h.2 hw)
            have HF := Lib.hid (HFIN.out n hn ha)
            have HN := Lib.hid hn
            clear hn ha hw
            go_wp2_with fail
            refine HF.out.mono ?_
            rintro e w4 ⟨rfl, h4⟩
            have H4 := Lib.hid h4
            clear h4
            go_wp2_with fail
            go_region
            all_goals
              go_wp2_with fail
              go_ret2
              exact ⟨by rw [HN.out]; rfl, H4.out.drew⟩
          · have hwb : (s.data.toList == [48]) = false := by simp [hw]
            have HN := Lib.hid (HA.out.2 ⟨HC.out.1 hc, hw⟩)
            clear hw
            go_wp2_with fail
            go_ret2
            exact ⟨by rw [HN.out]; rfl, HB2.out⟩
        · have hcb : ((c.toNat : Int) == 48) = false := by simp [hc]
          obtain ⟨n, hn, ha⟩ := HA.out.1 (fun h => hc (HC.out.2 h.1))
          have HF := Lib.hid (HFIN.out n hn ha)
          have HN := Lib.hid hn
          clear hn ha
          go_wp2_with fail
          refine HF.out.mono ?_
          rintro e w4 ⟨rfl, h4⟩
          have H4 := Lib.hid h4
          clear h4
          go_wp2_with fail
          go_region
          all_goals
            go_wp2_with fail
            go_ret2
            exact ⟨by rw [HN.out]; rfl, H4.out.drew⟩
      · have hnone : numOf s.data.toList = none := number_none (.inr (.inr (.inl (by rw [← HD.out]; exact h3))))
        have HN := Lib.hid hnone
        have h3b : (Lib.trimS d [48, 49, 50, 51, 52, 53, 54, 55, 56, 57] == []) = false := by simp [h3]
        clear hnone
        go_wp2_with fail
        go_ret2
        exact ⟨by rw [HN.out]; rfl, HB2.out⟩
end Go.Proofs.YtcbhldfipfcjaaaGreatDoor

namespace Go.Proofs.YtcbhldfipfcjaaaGreatDoor
open Go Go.ChangeShapes Go.WideShapes Go.ChangeAt Go.RowKit

/-- The wrap that hands on both a condition of the row and the world's shape. -/
theorem returns_laid_shaped {H : Type} {enc : TypeId × Value → H} {a : Assume} {C : Checked} {os : Os} {f : FuncId} {fn : Func} {s : ChangeSpec} {conds : List PathCond} {apart fresh handsOn again : Bool} {X : World → Array Value → Prop}
    (hX : ∀ (w w' : World) (args : Array Value), w.heap = w'.heap → X w args → X w' args)
    (own : ownKnob C.prog.godebug = none) (started : os.Started) (noInit : C.prog.inits.idxOf? f = none) (hfn : C.prog.funcs[f]? = some fn)
    (witness : ∃ (w : World) (tape : Tape) (i : Input), w.os = os ∧ (w.forCall tape i).Shaped C.prog ∧ i.vars = [] ∧ Input.okWide C.prog (w.forCall tape i) .any w.heap.size f i ∧
      ((s.pre enc C.prog fn conds apart (w.forCall tape i).memory i.args ∧ X (w.forCall tape i).memory i.args) ∧ sizedMet enc C.prog fn (OpenSpec.ofChange s) apart (w.forCall tape i).memory i.args) ∧ a.holds C.prog (lone (Frame.enter C.prog f i.args .normal) [] (w.forCall tape i)))
    (contract : ∀ (W : World) (base : Nat) (args : Array Value) (ds gs : List (DataW H)) (before : List MemPlace),
      (∀ (j : Nat) t v, fn.params[j]? = some t → args[j]? = some v → Value.okWide C.prog W .any base t v) →
      DataW.Whole enc C.prog fn.params.toList s.vars apart W args.toList ds gs before →
      conds.all (PathCond.test C.prog ⟨fn.params.toList, ds, s.plain.varTypes C.prog, gs⟩) = true →
      X W args → W.ShapedOpen C.prog →
      Calls C.prog f args W fun e W' => ∃ v, e = .returned v ∧ s.post enc C.prog fn apart fresh handsOn again W args v W') :
    ReturnsInHanded a C os f .any (fun w args => (s.pre enc C.prog fn conds apart w args ∧ X w args) ∧ sizedMet enc C.prog fn (OpenSpec.ofChange s) apart w args) (s.post enc C.prog fn apart fresh handsOn again) := by
  refine returnsInHanded_of_calls own started noInit witness ?_
  intro w tape i _ hsh _ hok hpre _
  obtain ⟨_, _, _, fn', hfn', _, _, _, _, hval⟩ := hok
  have e : fn' = fn := Option.some.inj (hfn'.symm.trans hfn)
  subst e
  obtain ⟨⟨⟨ds, gs, before, hw, hc⟩, hx⟩, _⟩ := hpre
  have hw' := DataW.Whole.of_heap (w' := w.forCall tape i) (by rfl) hw
  refine (contract (w.forCall tape i) w.heap.size i.args ds gs before hval hw' hc (hX _ _ _ (by rfl) hx) hsh).mono fun e W' ⟨v, he, hp⟩ => ?_
  subst he
  exact ChangeSpec.post_blind hp

abbrev laidL : List (String × DataW Unit) := [("math/bits.deBruijn32tab", Rows.laid_math_bits_deBruijn32tab), ("math/bits.deBruijn64tab", Rows.laid_math_bits_deBruijn64tab), ("internal/strconv.uint64pow10", Rows.laid_internal_strconv_uint64pow10), ("unicode/utf8.acceptRanges", Rows.laid_unicode_utf8_acceptRanges), ("strconv.ErrRange", Rows.laid_strconv_ErrRange), ("strconv.ErrSyntax", Rows.laid_strconv_ErrSyntax), ("unicode/utf8.first", Rows.laid_unicode_utf8_first)]

theorem pow_data : (Rows.laid_internal_strconv_uint64pow10 : DataW Unit) = Lib.tabData .u64 Lib.pow10Tab := by kernel_rfl
theorem tab_type : (Tryz.prog.globals[0]?).map (·.type) = some 192 := by kernel_rfl
theorem tab_cells : Tryz.prog.cellsOf 192 = 20 := by kernel_rfl
theorem u64_cells : Tryz.prog.cellsOf 160 = 1 := by kernel_rfl
theorem vars_of {W : World} (hL : laidMetH Tryz.prog laidL W) (hsh : W.ShapedOpen Tryz.prog) : Vars W := by
  rw [MakeChecks.laidMetH_plain _ _ _ (by kernel_rfl)] at hL
  have hd := Lib.laidMet.reads hL (n := tabName) (d := Rows.laid_internal_strconv_uint64pow10) (.tail _ (.tail _ (.head _)))
  obtain ⟨m, hm⟩ := cell_of_shapedOpen_int (P := Tryz.prog) (g := 1) (t := 3) (zero := #[.int .i64 0]) hsh (of_decide_eq_true (by kernel_rfl)) (by kernel_rfl) rfl (by kernel_rfl) (by kernel_rfl) Tryz.underlying3
  refine ⟨?_, ⟨m, hm⟩, World.block_lt_of_cell? W _ hm⟩
  obtain ⟨g, t, cs, fuel, p, hg, ht, hv, hr⟩ := hd
  obtain rfl := Option.some.inj (tabGlobal.symm.trans hg)
  obtain rfl := Option.some.inj (tab_type.symm.trans ht)
  rw [pow_data] at hr
  unfold Lib.TabIs
  rw [hv, ← Lib.cells_of_tab Tryz.underlying192 Tryz.underlying160 u64_cells tab_cells hr]
/-- The listed variables lie so in a world. -/
theorem laid_met (os : Os) (args : Array Value) : laidMetH Tryz.prog laidL ((World.laidAll Tryz.prog os laidL).forCall (fun _ _ => 0) ⟨#[], args, []⟩).memory := by
  rw [MakeChecks.laidMetH_plain _ _ _ (by kernel_rfl)]
  exact laidMet_laidAll _ (by kernel_rfl) (by kernel_rfl)
end Go.Proofs.YtcbhldfipfcjaaaGreatDoor
