/- P0: small laws for plain terms: numbers that stay in their kind, elements, cuts.
  Q1: numbers in decimal: written, read. No program in this text.
  Q2: cells and values, as plain data. No program in this text.
  Q3: values, as plain data. No program in this text.
  Q4: right formulas, as plain data. No program in this text.
  Q5: the text of a right formula, as plain data. No program in this text.
  Q6: a reader of formulas, as plain data. No program in this text.
  Q7: what is typed, as plain data. No program in this text.
  Q8: macros and commands, as plain data. No program in this text. -/
import Derived.Test.YtmgeeanbecmkbaaGreatDoorDenH
import Derived.Test.YtmgeeanbecmkbaaGreatDoorSorts
import Derived.Lib.ItoaNum
import Derived.Lib.ParseIntB
import Derived.Test.YtmgeeanbecmkbaaGreatDoorPrim
namespace Go.Proofs.YtmgeeanbecmkbaaGreatDoor.Den
open Go

theorem w64 {x : Int} (h1 : -9223372036854775808 ≤ x) (h2 : x < 9223372036854775808) : IntKind.wrap .i64 x = x := by
  unfold IntKind.wrap
  simp only [show IntKind.signed .i64 = true from rfl, show IntKind.bits .i64 = 64 from rfl, Bool.true_and, decide_eq_true_eq, show (2 : Int) ^ 64 = 18446744073709551616 from rfl, show (2 : Int) ^ (64 - 1) = 9223372036854775808 from rfl]
  split <;> omega
theorem w64n {k : Nat} (h : k < 4611686018427387905) : IntKind.wrap .i64 ((k : Int) + 1) = ((k + 1 : Nat) : Int) := by
  rw [w64 (by omega) (by omega)]; rfl
theorem wu8 {x : Int} (h1 : 0 ≤ x) (h2 : x < 256) : IntKind.wrap .u8 x = x := by
  unfold IntKind.wrap
  simp only [show IntKind.signed .u8 = false from rfl, show IntKind.bits .u8 = 8 from rfl, Bool.false_and, show (2 : Int) ^ 8 = 256 from rfl]
  rw [if_neg (by simp)]
  omega

theorem bt {α : Type} {p : Prop} [Decidable p] {a b : α} (h : p) : (bif decide p then a else b) = a := by rw [decide_eq_true h]; rfl
theorem bf {α : Type} {p : Prop} [Decidable p] {a b : α} (h : ¬ p) : (bif decide p then a else b) = b := by rw [decide_eq_false h]; rfl
theorem bs {α β : Type} {a : α} {f : α → Option β} : (some a).bind f = f a := rfl

theorem idx_at {α Out : Type} {xs : List α} {i : Nat} (h : i < xs.length) {k : α → Option Out} : idxC xs (i : Int) k = k xs[i] := by
  unfold idxC
  rw [bt (by omega)]
  simp only [Int.toNat_natCast, List.getElem?_eq_getElem h]
theorem idx_get {α Out : Type} {xs : List α} {i : Nat} {e : α} (h : xs[i]? = some e) {k : α → Option Out} : idxC xs (i : Int) k = k e := by
  unfold idxC
  rw [bt (by omega)]
  simp only [Int.toNat_natCast, h]
theorem idx_head {α Out : Type} {x : α} {xs : List α} {k : α → Option Out} : idxC (x :: xs) (0 : Int) k = k x := rfl

theorem cut_at {Out : Type} {n a b : Nat} (h1 : a ≤ b) (h2 : b ≤ n) {k : Nat → Nat → Option Out} : cutC n (a : Int) (b : Int) k = k a b := by
  unfold cutC
  rw [decide_eq_true (by omega), decide_eq_true (by omega), decide_eq_true (by omega)]
  simp only [Bool.and_true, cond_true, Int.toNat_natCast]

theorem len_le {α : Type} (l : List α) : 0 ≤ (l.length : Int) := by omega

/-- A row behind its element. -/
theorem drop_at {α : Type} {xs : List α} {i : Nat} (h : i < xs.length) : xs.drop i = xs[i] :: xs.drop (i + 1) := List.drop_eq_getElem_cons h
theorem get_drop {α : Type} {xs r : List α} {i : Nat} {e : α} (h : xs.drop i = e :: r) : xs[i]? = some e ∧ xs.drop (i + 1) = r ∧ i < xs.length := by
  have hl : i < xs.length := by
    rcases Nat.lt_or_ge i xs.length with h' | h'
    · exact h'
    · rw [List.drop_eq_nil_of_le h'] at h; cases h
  rw [drop_at hl] at h
  injection h with h1 h2
  exact ⟨by rw [List.getElem?_eq_getElem hl, h1], h2, hl⟩
theorem drop_nil {α : Type} {xs : List α} {i : Nat} (h : xs.drop i = []) : xs.length ≤ i := by
  rcases Nat.lt_or_ge i xs.length with h' | h'
  · rw [drop_at h'] at h; cases h
  · exact h'

theorem u8_lt (c : UInt8) : c.toNat < 256 := c.toNat_lt
theorem u8_eq {c : UInt8} {n : Nat} (h : n < 256) : c.toNat = n ↔ c = UInt8.ofNat n := by
  constructor
  · intro e; rw [← e]; exact UInt8.ofNat_toNat.symm
  · intro e; rw [e]; simp [UInt8.toNat_ofNat']; omega
end Go.Proofs.YtmgeeanbecmkbaaGreatDoor.Den
namespace Go.Proofs.YtmgeeanbecmkbaaGreatDoor.Den
open Go

abbrev decN (n : Nat) : Bytes := Lib.decDigits n
abbrev dec (n : Int) : Bytes := Lib.itoa n

def dig (c : UInt8) : Bool := decide (48 ≤ c.toNat) && decide (c.toNat ≤ 57)
def numOf : Nat → Bytes → Nat
  | a, [] => a
  | a, c :: r => numOf (a * 10 + (c.toNat % 48)) r

theorem numOf_cons (a : Nat) (c : UInt8) (r : Bytes) : numOf a (c :: r) = numOf (a * 10 + (c.toNat % 48)) r := rfl

theorem numOf_app : ∀ (s t : Bytes) (a : Nat), numOf a (s ++ t) = numOf (numOf a s) t
  | [], _, _ => rfl
  | c :: r, t, a => by simp only [List.cons_append, numOf]; exact numOf_app r t _

theorem decN_small {n : Nat} (h : n < 10) : decN n = [UInt8.ofNat (48 + n)] := by unfold decN; rw [Lib.decDigits, dif_pos h]
theorem decN_big {n : Nat} (h : ¬ n < 10) : decN n = decN (n / 10) ++ [UInt8.ofNat (48 + n % 10)] := by
  show Lib.decDigits n = _
  rw [Lib.decDigits, dif_neg h]

theorem dig_ofNat {d : Nat} (h : d < 10) : dig (UInt8.ofNat (48 + d)) = true := by
  unfold dig
  have : (UInt8.ofNat (48 + d)).toNat = 48 + d := by simp [UInt8.toNat_ofNat']; omega
  rw [this, decide_eq_true (by omega), decide_eq_true (by omega)]; rfl
theorem toNat_ofNat {d : Nat} (h : d < 256) : (UInt8.ofNat d).toNat = d := by simp [UInt8.toNat_ofNat']; omega
theorem dig_iff {c : UInt8} : dig c = true ↔ 48 ≤ c.toNat ∧ c.toNat ≤ 57 := by
  unfold dig; rw [Bool.and_eq_true, decide_eq_true_eq, decide_eq_true_eq]
theorem dig_of {c : UInt8} (h : dig c = true) : c = UInt8.ofNat (48 + (c.toNat % 48)) := by
  have := dig_iff.1 h
  rw [show 48 + (c.toNat % 48) = c.toNat by omega]
  exact UInt8.ofNat_toNat.symm

theorem decN_ne (n : Nat) : decN n ≠ [] := by
  by_cases h : n < 10
  · rw [decN_small h]; simp
  · rw [decN_big h]; simp

theorem decN_num : ∀ (n : Nat), numOf 0 (decN n) = n ∧ (decN n).all dig = true ∧ ((decN n).head? = some 48 → n = 0) := by
  intro n
  induction n using Nat.strongRecOn with
  | _ n ih =>
    by_cases h : n < 10
    · rw [decN_small h]
      refine ⟨?_, ?_, ?_⟩
      · simp only [numOf]; rw [toNat_ofNat (by omega)]; omega
      · simp only [List.all_cons, List.all_nil, Bool.and_true]; exact dig_ofNat h
      · intro e
        simp only [List.head?_cons, Option.some.injEq] at e
        have := congrArg UInt8.toNat e
        rw [toNat_ofNat (by omega)] at this
        simp at this
        omega
    · obtain ⟨h1, h2, h3⟩ := ih (n / 10) (by omega)
      rw [decN_big h]
      refine ⟨?_, ?_, ?_⟩
      · rw [numOf_app, h1]
        simp only [numOf]; rw [toNat_ofNat (by omega)]; omega
      · rw [List.all_append, h2]
        simp only [List.all_cons, List.all_nil, Bool.and_true, Bool.true_and]
        exact dig_ofNat (by omega)
      · intro e
        have hne := decN_ne (n / 10)
        cases hd : decN (n / 10) with
        | nil => exact absurd hd hne
        | cons c r =>
          rw [hd] at e h3
          simp only [List.cons_append, List.head?_cons] at e h3
          have := h3 e
          omega

theorem numOf_pos : ∀ (s : Bytes), s.all dig = true → s ≠ [] → s.head? ≠ some 48 → 1 ≤ numOf 0 s := by
  intro s h1 h2 h3
  have mono : ∀ (s : Bytes) (a : Nat), 1 ≤ a → 1 ≤ numOf a s := by
    intro s
    induction s with
    | nil => intro a h; exact h
    | cons c r ih => intro a h; simp only [numOf]; exact ih _ (by omega)
  cases s with
  | nil => exact absurd rfl h2
  | cons c r =>
    simp only [numOf]
    refine mono r _ ?_
    rw [List.all_cons, Bool.and_eq_true] at h1
    have h4 := dig_iff.1 h1.1
    have : c.toNat ≠ 48 := fun e => h3 (by simp only [List.head?_cons]; congr 1; exact (u8_eq (by decide)).1 e)
    omega

/-- Digits without noughts ahead are a number's. -/
theorem decN_of : ∀ (k : Nat) (s : Bytes), s.length = k → s.all dig = true → s ≠ [] → (s.head? = some 48 → s.length = 1) → decN (numOf 0 s) = s := by
  intro k
  induction k with
  | zero => intro s h _ hne; exact absurd (List.length_eq_zero_iff.1 h) hne
  | succ k ih =>
    intro s hl ha hne hz
    rcases List.eq_nil_or_concat s with rfl | ⟨t, c, rfl⟩
    · exact absurd rfl hne
    · rw [List.concat_eq_append] at *
      rw [List.all_append, Bool.and_eq_true] at ha
      obtain ⟨ha, hc⟩ := ha
      simp only [List.all_cons, List.all_nil, Bool.and_true] at hc
      have hc' := dig_iff.1 hc
      rw [numOf_app]
      by_cases ht : t = []
      · subst ht
        simp only [numOf, List.nil_append, Nat.zero_mul, Nat.zero_add]
        rw [decN_small (by omega), ← dig_of hc]
      · have hz' : t.head? ≠ some 48 := by
          intro e
          cases t with
          | nil => exact ht rfl
          | cons d r =>
            simp only [List.head?_cons] at e
            have := hz (by simpa using e)
            simp at this
        have hp := numOf_pos t ha ht hz'
        simp only [List.length_append, List.length_cons, List.length_nil] at hl
        have := ih t (by omega) ha ht (fun e => absurd e hz')
        simp only [numOf]
        rw [decN_big (by omega)]
        rw [show (numOf 0 t * 10 + (c.toNat % 48)) / 10 = numOf 0 t by omega, show (numOf 0 t * 10 + (c.toNat % 48)) % 10 = c.toNat % 48 by omega, this, ← dig_of hc]

/-- A number of at most so many digits, without noughts ahead. -/
def readDec (s : Bytes) (most : Nat) : Option Nat :=
  if s ≠ [] ∧ s.length ≤ most ∧ (s.head? = some 48 → s.length = 1) ∧ s.all dig = true then some (numOf 0 s) else none

theorem readDec_iff {s : Bytes} {most n : Nat} : readDec s most = some n ↔ s = decN n ∧ s.length ≤ most := by
  unfold readDec
  constructor
  · intro h
    split at h
    · rename_i hc
      injection h with h
      subst h
      exact ⟨(decN_of _ s rfl hc.2.2.2 hc.1 hc.2.2.1).symm, hc.2.1⟩
    · cases h
  · rintro ⟨rfl, hl⟩
    obtain ⟨h1, h2, h3⟩ := decN_num n
    have hz : (decN n).head? = some 48 → (decN n).length = 1 := fun e => by rw [h3 e, decN_small (by decide)]; rfl
    rw [if_pos ⟨decN_ne n, hl, hz, h2⟩, h1]

theorem decN_inj {a b : Nat} (h : decN a = decN b) : a = b := by rw [← (decN_num a).1, ← (decN_num b).1, h]

theorem numOf_ge : ∀ (s : Bytes) (a : Nat), a * 10 ^ s.length ≤ numOf a s
  | [], a => by simp [numOf]
  | c :: r, a => by
    simp only [numOf, List.length_cons, Nat.pow_succ]
    refine Nat.le_trans ?_ (numOf_ge r _)
    rw [show a * (10 ^ r.length * 10) = a * 10 * 10 ^ r.length by rw [Nat.mul_comm (10 ^ r.length), Nat.mul_assoc]]
    exact Nat.mul_le_mul_right _ (by omega)

theorem numOf_lt : ∀ (s : Bytes) (a : Nat), s.all dig = true → numOf a s < (a + 1) * 10 ^ s.length
  | [], a, _ => by simp [numOf]
  | c :: r, a, h => by
    rw [List.all_cons, Bool.and_eq_true] at h
    have h1 := dig_iff.1 h.1
    simp only [numOf, List.length_cons, Nat.pow_succ]
    refine Nat.lt_of_lt_of_le (numOf_lt r _ h.2) ?_
    rw [show (a + 1) * (10 ^ r.length * 10) = (a + 1) * 10 * 10 ^ r.length by rw [Nat.mul_comm (10 ^ r.length), Nat.mul_assoc]]
    exact Nat.mul_le_mul_right _ (by omega)

/-- How many digits a number has. -/
theorem decN_len {n k : Nat} (h : n < 10 ^ k) (hk : 1 ≤ k) : (decN n).length ≤ k := by
  obtain ⟨h1, h2, h3⟩ := decN_num n
  cases hd : decN n with
  | nil => simp
  | cons c r =>
    rw [hd] at h1 h2 h3
    by_cases hc : c = 48
    · have h0 := h3 (by rw [hc]; rfl)
      subst h0
      have : decN 0 = [48] := by rw [decN_small (by decide)]; rfl
      rw [this] at hd
      injection hd with _ hd
      rw [← hd]; simpa using hk
    · have hp : 1 ≤ c.toNat % 48 := by
        rw [List.all_cons, Bool.and_eq_true] at h2
        have := dig_iff.1 h2.1
        have : c.toNat ≠ 48 := fun e => hc ((u8_eq (by decide)).1 e)
        omega
      have := numOf_ge r (0 * 10 + (c.toNat % 48))
      simp only [numOf] at h1
      rw [h1] at this
      have h5 : 10 ^ r.length ≤ n := by
        refine Nat.le_trans ?_ this
        exact Nat.le_mul_of_pos_left _ (by omega)
      simp only [List.length_cons]
      have : 10 ^ r.length < 10 ^ k := Nat.lt_of_le_of_lt h5 h
      have := (Nat.pow_lt_pow_iff_right (by decide : 1 < 10)).1 this
      omega

theorem numOf_noughts : ∀ (s : Bytes), numOf 0 (s.dropWhile (· == 48)) = numOf 0 s
  | [] => rfl
  | c :: r => by
    rw [List.dropWhile_cons]
    split
    · rename_i h
      have : c = 48 := by simpa using h
      subst this
      rw [numOf_noughts r]
      rfl
    · rfl

/-- What ParseInt makes of digits. -/
theorem parse_digits : ∀ (s : Bytes) (a : Nat), s.all dig = true → a < 18446744073709551616 →
    (numOf a s < 18446744073709551616 → Lib.parseUintM (2 ^ 64 - 1) a s = .ok (numOf a s)) ∧ (¬ numOf a s < 18446744073709551616 → Lib.parseUintM (2 ^ 64 - 1) a s = .range)
  | [], a, _, ha => ⟨fun _ => rfl, fun h => absurd ha h⟩
  | c :: r, a, h, ha => by
    rw [List.all_cons, Bool.and_eq_true] at h
    have h1 := dig_iff.1 h.1
    have he : c.toNat - 48 = c.toNat % 48 := by omega
    rw [Lib.parseUintM, if_pos ⟨h1.1, h1.2⟩, he, numOf_cons]
    have hge := numOf_ge r (a * 10 + (c.toNat % 48))
    have hp : 1 ≤ 10 ^ r.length := Nat.one_le_pow _ _ (by decide)
    have hge2 : a * 10 + (c.toNat % 48) ≤ numOf (a * 10 + (c.toNat % 48)) r := Nat.le_trans (Nat.le_mul_of_pos_right _ (by omega)) hge
    generalize hg : a * 10 + (c.toNat % 48) = b at *
    by_cases h2 : 1844674407370955162 ≤ a
    · rw [if_pos h2]
      exact ⟨fun h => by omega, fun _ => rfl⟩
    · rw [if_neg h2]
      by_cases h3 : 2 ^ 64 - 1 < b
      · rw [if_pos h3]
        exact ⟨fun h => by omega, fun _ => rfl⟩
      · rw [if_neg h3]
        exact parse_digits r _ h.2 (by omega)

/-- A number written in decimal is read as it was. -/
theorem parse_dec {n : Int} (h1 : -9223372036854775808 ≤ n) (h2 : n ≤ 9223372036854775807) : Lib.parseIntB 64 (dec n) = .ok n := by
  have key : ∀ (m : Nat), m < 18446744073709551616 → Lib.parseUintB 64 (decN m) = .ok m := by
    intro m hm
    obtain ⟨h1, h2, h3⟩ := decN_num m
    unfold Lib.parseUintB
    rw [if_neg (decN_ne m), (parse_digits (decN m) 0 h2 (by omega)).1 (by rw [h1]; exact hm), h1]
  have hd : ∀ (m : Nat) c r, decN m = c :: r → 48 ≤ c.toNat ∧ c.toNat ≤ 57 := by
    intro m c r e
    have := (decN_num m).2.1
    rw [e, List.all_cons, Bool.and_eq_true] at this
    exact dig_iff.1 this.1
  show Lib.parseIntB 64 (if n < 0 then 45 :: decN n.natAbs else decN n.toNat) = _
  by_cases hn : n < 0
  · rw [if_pos hn]
    unfold Lib.parseIntB
    simp only [show (45 : UInt8).toNat = 45 from rfl, or_true, if_true, key n.natAbs (by omega)]
    rw [if_neg (by simp), if_neg (by simp; omega)]
    congr 1; omega
  · rw [if_neg hn]
    have hk := key n.toNat (by omega)
    cases hc : decN n.toNat with
    | nil => exact absurd hc (decN_ne _)
    | cons c r =>
      have := hd _ _ _ hc
      rw [hc] at hk
      unfold Lib.parseIntB
      dsimp only
      rw [if_neg (by omega), hk]
      dsimp only
      rw [if_neg (by omega), if_neg (by omega), if_neg (by omega)]
      congr 1; omega

theorem dec_inj {a b : Int} (h1 : -9223372036854775808 ≤ a) (h2 : a ≤ 9223372036854775807) (h3 : -9223372036854775808 ≤ b) (h4 : b ≤ 9223372036854775807) (h : dec a = dec b) : a = b := by
  have := parse_dec h1 h2
  rw [h, parse_dec h3 h4] at this
  injection this with this
  exact this.symm

theorem dec_nat (n : Nat) : dec (n : Int) = decN n := by
  show (if (n : Int) < 0 then _ else decN (n : Int).toNat) = _
  rw [if_neg (by omega), Int.toNat_natCast]

theorem dec_neg {n : Nat} (h : 0 < n) : dec (-(n : Int)) = 45 :: decN n := by
  show (if -(n : Int) < 0 then 45 :: decN (-(n : Int)).natAbs else _) = _
  rw [if_pos (by omega)]
  congr 2; omega

end Go.Proofs.YtmgeeanbecmkbaaGreatDoor.Den
namespace Go.Proofs.YtmgeeanbecmkbaaGreatDoor.Den
open Go

def inB (n lo hi : Int) : Bool := decide (lo ≤ n) && decide (n ≤ hi)
theorem inB_iff {n lo hi : Int} : inB n lo hi = true ↔ lo ≤ n ∧ n ≤ hi := by unfold inB; rw [Bool.and_eq_true, decide_eq_true_eq, decide_eq_true_eq]
theorem inB_not {n lo hi : Int} : inB n lo hi = false ↔ ¬ (lo ≤ n ∧ n ≤ hi) := by rw [← inB_iff]; simp

def refOk (r : Ref) : Bool := inB r.1 1 52 && inB r.2.1 1 99
theorem refOk_iff {r : Ref} : refOk r = true ↔ 1 ≤ r.1 ∧ r.1 ≤ 52 ∧ 1 ≤ r.2.1 ∧ r.2.1 ≤ 99 := by
  unfold refOk; rw [Bool.and_eq_true, inB_iff, inB_iff]; constructor <;> (intro h; omega)

def areaOk (a : Area) : Bool := refOk a.1 && refOk a.2.1 && decide (a.1.1 ≤ a.2.1.1) && decide (a.1.2.1 ≤ a.2.1.2.1)

def colText (n : Int) : Bytes :=
  if inB n 1 52 = true then (if n ≤ 26 then [UInt8.ofNat (64 + n.toNat)] else [UInt8.ofNat (64 + (n.toNat - 1) / 26), UInt8.ofNat (65 + (n.toNat - 1) % 26)]) else []
def colFrom (s : Bytes) : Nat → Nat → Int
  | 0, _ => 0
  | k + 1, n => if colText (n : Int) = s then (n : Int) else colFrom s k (n + 1)
def readCol (s : Bytes) : Int := colFrom s 52 1

def upper (c : UInt8) : Bool := decide (65 ≤ c.toNat) && decide (c.toNat ≤ 90)

theorem colText_upper : ((List.range 52).all fun a => (colText ((a : Int) + 1)).all upper && !(colText ((a : Int) + 1)).isEmpty) = true := by kernel_rfl
theorem colText_inj0 : ((List.range 52).all fun a => (List.range 52).all fun b => (a == b) || !(colText ((a : Int) + 1) == colText ((b : Int) + 1))) = true := by kernel_rfl

theorem colText_up {n : Int} (h1 : 1 ≤ n) (h2 : n ≤ 52) : (colText n).all upper = true ∧ colText n ≠ [] := by
  have := List.all_eq_true.1 colText_upper (n.toNat - 1) (List.mem_range.2 (by omega))
  rw [show ((n.toNat - 1 : Nat) : Int) + 1 = n by omega, Bool.and_eq_true] at this
  exact ⟨this.1, fun e => by rw [e] at this; simp at this⟩
theorem colText_inj {a b : Int} (h1 : 1 ≤ a) (h2 : a ≤ 52) (h3 : 1 ≤ b) (h4 : b ≤ 52) (h : colText a = colText b) : a = b := by
  have := List.all_eq_true.1 (List.all_eq_true.1 colText_inj0 (a.toNat - 1) (List.mem_range.2 (by omega))) (b.toNat - 1) (List.mem_range.2 (by omega))
  rw [show ((a.toNat - 1 : Nat) : Int) + 1 = a by omega, show ((b.toNat - 1 : Nat) : Int) + 1 = b by omega, h] at this
  simp at this
  omega

theorem colFrom_some : ∀ {s : Bytes} {k n : Nat}, 1 ≤ n → n + k ≤ 53 → colFrom s k n ≠ 0 → colText (colFrom s k n) = s ∧ 1 ≤ colFrom s k n ∧ colFrom s k n ≤ 52
  | s, 0, n, _, _, h => absurd rfl h
  | s, k + 1, n, h1, h2, h => by
    unfold colFrom at h ⊢
    by_cases e : colText (n : Int) = s
    · rw [if_pos e]; exact ⟨e, by omega, by omega⟩
    · rw [if_neg e] at h ⊢; exact colFrom_some (by omega) (by omega) h
theorem colFrom_of : ∀ {s : Bytes} {k n m : Nat}, 1 ≤ n → n ≤ m → m < n + k → n + k ≤ 53 → colText (m : Int) = s → colFrom s k n = m
  | s, 0, n, m, _, _, _, _, _ => by omega
  | s, k + 1, n, m, h1, h2, h3, h4, h => by
    unfold colFrom
    by_cases e : colText (n : Int) = s
    · rw [if_pos e]; exact colText_inj (by omega) (by omega) (by omega) (by omega) (e.trans h.symm)
    · rw [if_neg e]
      have : n ≠ m := fun e2 => e (e2 ▸ h)
      exact colFrom_of (by omega) (by omega) (by omega) (by omega) h
theorem readCol_text {n : Int} (h1 : 1 ≤ n) (h2 : n ≤ 52) : readCol (colText n) = n := by
  have := colFrom_of (s := colText n) (k := 52) (n := 1) (m := n.toNat) (by omega) (by omega) (by omega) (by omega) (by rw [Int.toNat_of_nonneg (by omega)])
  rw [Int.toNat_of_nonneg (by omega)] at this
  exact this
theorem text_readCol {s : Bytes} (h : 1 ≤ readCol s) : colText (readCol s) = s ∧ readCol s ≤ 52 := by
  have := colFrom_some (s := s) (k := 52) (n := 1) (by omega) (by omega) (fun e => by unfold readCol at h; omega)
  exact ⟨this.1, this.2.2⟩

def placeText (p : Place) : Bytes :=
  if refOk p.1 = true then (if p.2.1 then [36] else []) ++ colText p.1.1 ++ (if p.2.2.1 then [36] else []) ++ dec p.1.2.1 else []

/-- A $ ahead. -/
def dollar (s : Bytes) : Bool := s.head? == some 36
def undollar (s : Bytes) : Bytes := if dollar s then s.tail else s

def readPlace (s : Bytes) : Option Place :=
  let s1 := undollar s
  let l := s1.takeWhile upper
  let s2 := s1.dropWhile upper
  match readDec (undollar s2) 2 with
  | none => none
  | some n => if refOk (readCol l, (n : Int), ()) = true then some ((readCol l, (n : Int), ()), dollar s, dollar s2, ()) else none

theorem takeWhile_app {p : UInt8 → Bool} : ∀ {a b : Bytes}, a.all p = true → (∀ c, b.head? = some c → p c = false) → (a ++ b).takeWhile p = a ∧ (a ++ b).dropWhile p = b
  | [], [], _, _ => ⟨rfl, rfl⟩
  | [], c :: r, _, h => by
    have := h c rfl
    simp only [List.nil_append, List.takeWhile_cons, List.dropWhile_cons, this]
    exact ⟨rfl, rfl⟩
  | c :: r, b, ha, h => by
    rw [List.all_cons, Bool.and_eq_true] at ha
    obtain ⟨h1, h2⟩ := takeWhile_app ha.2 h
    simp only [List.cons_append, List.takeWhile_cons, List.dropWhile_cons, ha.1, if_true]
    exact ⟨by rw [h1], h2⟩

theorem undollar_cons (s : Bytes) : dollar (36 :: s) = true ∧ undollar (36 :: s) = s := ⟨rfl, rfl⟩
theorem undollar_other {s : Bytes} (h : s.head? ≠ some 36) : dollar s = false ∧ undollar s = s := by
  have : dollar s = false := by unfold dollar; simpa using h
  exact ⟨this, by unfold undollar; rw [this]; rfl⟩
theorem undollar_if (b : Bool) {s : Bytes} (h : s.head? ≠ some 36) : dollar ((if b then [36] else []) ++ s) = b ∧ undollar ((if b then [36] else []) ++ s) = s := by
  cases b
  · exact undollar_other h
  · exact undollar_cons s
theorem undollar_eq (s : Bytes) : (if dollar s then [36] else []) ++ undollar s = s := by
  cases s with
  | nil => rfl
  | cons c r =>
    by_cases h : c = 36
    · subst h; rfl
    · have : (c :: r).head? ≠ some 36 := by simpa using h
      obtain ⟨h1, h2⟩ := undollar_other this
      rw [h1, h2]; rfl

theorem decN_head (n : Nat) : ∃ c r, decN n = c :: r ∧ dig c = true := by
  cases h : decN n with
  | nil => exact absurd h (decN_ne n)
  | cons c r =>
    refine ⟨c, r, rfl, ?_⟩
    have := (decN_num n).2.1
    rw [h, List.all_cons, Bool.and_eq_true] at this
    exact this.1

theorem readPlace_iff {s : Bytes} {p : Place} : readPlace s = some p ↔ refOk p.1 = true ∧ placeText p = s := by
  unfold readPlace
  dsimp only
  constructor
  · intro h
    split at h
    · cases h
    · rename_i n hn
      split at h
      · rename_i hr
        injection h with h
        subst h
        refine ⟨hr, ?_⟩
        have hr' := refOk_iff.1 hr
        dsimp only at hr'
        obtain ⟨t1, t2⟩ := text_readCol hr'.1
        obtain ⟨d1, d2⟩ := readDec_iff.1 hn
        unfold placeText
        dsimp only
        rw [if_pos hr, t1, dec_nat, ← d1, List.append_assoc, undollar_eq, List.append_assoc, List.takeWhile_append_dropWhile, undollar_eq]
      · cases h
  · rintro ⟨hr, rfl⟩
    have hr' := refOk_iff.1 hr
    obtain ⟨⟨c, r, u⟩, fc, fr, u2⟩ := p
    dsimp only at hr hr'
    obtain ⟨m, hm⟩ : ∃ m : Nat, r = m := ⟨r.toNat, by omega⟩
    subst hm
    unfold placeText
    dsimp only
    rw [if_pos hr, dec_nat]
    obtain ⟨d, t, e1, e2⟩ := decN_head m
    have hd := dig_iff.1 e2
    obtain ⟨c1, c2⟩ := colText_up hr'.1 hr'.2.1
    have up : ∀ c, upper c = true → c ≠ 36 := fun c h e => by subst e; cases h
    have hcol : ∀ (x : Bytes), (colText c ++ x).head? ≠ some 36 := by
      intro x
      cases hx : colText c with
      | nil => exact absurd hx c2
      | cons y z =>
        rw [hx, List.all_cons, Bool.and_eq_true] at c1
        simp only [List.cons_append, List.head?_cons, ne_eq, Option.some.injEq]
        exact up y c1.1
    have hdec : (decN m).head? ≠ some 36 := by
      rw [e1]; simp only [List.head?_cons, ne_eq, Option.some.injEq]
      intro e; subst e; simp at hd
    rw [List.append_assoc, List.append_assoc]
    obtain ⟨q1, q2⟩ := undollar_if fc (hcol ((if fr then [36] else []) ++ decN m))
    rw [q1, q2]
    obtain ⟨w1, w2⟩ := takeWhile_app (p := upper) c1 (b := (if fr then [36] else []) ++ decN m) (by
      intro x hx
      cases fr
      · simp only [Bool.false_eq_true, if_false, List.nil_append] at hx
        rw [e1] at hx
        simp only [List.head?_cons, Option.some.injEq] at hx
        subst hx
        unfold upper
        rw [decide_eq_false (by omega)]; rfl
      · simp only [if_true, List.cons_append, List.head?_cons, Option.some.injEq] at hx
        subst hx; rfl)
    rw [w1, w2]
    obtain ⟨q3, q4⟩ := undollar_if fr hdec
    rw [q3, q4, readDec_iff.2 ⟨rfl, decN_len (k := 2) (by omega) (by omega)⟩, readCol_text hr'.1 hr'.2.1]
    dsimp only
    rw [if_pos hr]

end Go.Proofs.YtmgeeanbecmkbaaGreatDoor.Den
namespace Go.Proofs.YtmgeeanbecmkbaaGreatDoor.Den
open Go
set_option linter.unusedSimpArgs false

def pr (c : UInt8) : Bool := decide (32 ≤ c.toNat) && decide (c.toNat ≤ 126)
theorem pr_iff {c : UInt8} : pr c = true ↔ 32 ≤ c.toNat ∧ c.toNat ≤ 126 := by unfold pr; rw [Bool.and_eq_true, decide_eq_true_eq, decide_eq_true_eq]
def plainB (s : Bytes) (most : Int) : Bool := s.all pr && decide ((s.length : Int) ≤ most)

def valueOk (v : Value) : Bool :=
  bif v.1 == 0 then v.2.1 == 0 && v.2.2.1 == [] else bif v.1 == 1 then inB v.2.1 (-1000000000000000) 1000000000000000 && v.2.2.1 == [] else bif v.1 == 2 then v.2.1 == 0 && plainB v.2.2.1 200 else
  bif v.1 == 3 then inB v.2.1 0 1 && v.2.2.1 == [] else bif v.1 == 4 then inB v.2.1 1 5 && v.2.2.1 == [] else false

def errNames : List Bytes := [[], [35, 68, 73, 86, 33], [35, 84, 89, 80, 69, 33], [35, 82, 69, 70, 33], [35, 79, 86, 69, 82, 33], [35, 67, 89, 67, 76, 69, 33]]
def errName (n : Int) : Bytes := (errNames[n.toNat]?).getD []
def bTRUE : Bytes := [84, 82, 85, 69]
def bFALSE : Bytes := [70, 65, 76, 83, 69]
def valueText (v : Value) : Bytes :=
  bif v.1 == 1 then dec v.2.1 else bif v.1 == 2 then 39 :: v.2.2.1 else bif v.1 == 3 then (bif v.2.1 == 1 then bTRUE else bFALSE) else bif v.1 == 4 then errName v.2.1 else []

def chk (v : Value) : Option Value := if valueOk v = true then some v else none
theorem chk_iff {v u : Value} : chk v = some u ↔ valueOk u = true ∧ u = v := by
  unfold chk
  constructor
  · intro h
    split at h
    · rename_i hv; injection h with h; subst h; exact ⟨hv, rfl⟩
    · cases h
  · rintro ⟨h, rfl⟩; rw [if_pos h]

/-- The last of the errors' numbers from n on whose name this is; x when there is none. -/
def errFrom (s : Bytes) : Nat → Nat → Int → Int
  | 0, _, x => x
  | k + 1, n, x => errFrom s k (n + 1) (if errName (n : Int) = s then (n : Int) else x)
def errNo (s : Bytes) : Int := errFrom s 5 1 0

def readValue (s : Bytes) : Option Value :=
  match s with
  | [] => some (0, 0, [], ())
  | c :: r =>
    if c = 39 then chk (2, 0, r, ()) else if s = bTRUE then some (3, 1, [], ()) else if s = bFALSE then some (3, 0, [], ()) else
    if c = 35 then chk (4, errNo s, [], ()) else
    if c = 45 then (match readDec r 16 with | none => none | some n => if n = 0 then none else chk (1, -(n : Int), [], ())) else
    match readDec s 16 with | none => none | some n => chk (1, (n : Int), [], ())

theorem errNo_name {n : Nat} (h1 : 1 ≤ n) (h2 : n ≤ 5) : errNo (errName (n : Int)) = n := by
  have key : ((List.range 5).all fun k => errNo (errName ((k + 1 : Nat) : Int)) == ((k + 1 : Nat) : Int)) = true := by kernel_rfl
  have := List.all_eq_true.1 key (n - 1) (List.mem_range.2 (by omega))
  rw [show n - 1 + 1 = n by omega] at this
  exact beq_iff_eq.1 this
theorem errFrom_ok : ∀ (s : Bytes) (k n : Nat) (x : Int), 1 ≤ n → n + k ≤ 6 → (x = 0 ∨ (1 ≤ x ∧ x ≤ 5 ∧ errName x = s)) → (errFrom s k n x = 0 ∨ (1 ≤ errFrom s k n x ∧ errFrom s k n x ≤ 5 ∧ errName (errFrom s k n x) = s))
  | _, 0, _, _, _, _, h => h
  | s, k + 1, n, x, h1, h2, h => by
    unfold errFrom
    refine errFrom_ok s k (n + 1) _ (by omega) (by omega) ?_
    split
    · rename_i e; exact .inr ⟨by omega, by omega, e⟩
    · exact h
theorem errNo_ok (s : Bytes) : errNo s = 0 ∨ (1 ≤ errNo s ∧ errNo s ≤ 5 ∧ errName (errNo s) = s) := errFrom_ok s 5 1 0 (by omega) (by omega) (.inl rfl)

theorem valueOk_int {n : Int} (h1 : -1000000000000000 ≤ n) (h2 : n ≤ 1000000000000000) : valueOk (1, n, [], ()) = true := by
  show (inB n (-1000000000000000) 1000000000000000 && true) = true
  rw [inB_iff.2 ⟨h1, h2⟩]; rfl
theorem int_valueOk {n : Int} (h : valueOk (1, n, [], ()) = true) : -1000000000000000 ≤ n ∧ n ≤ 1000000000000000 := by
  have h : (inB n (-1000000000000000) 1000000000000000 && true) = true := h
  rw [Bool.and_true] at h
  exact inB_iff.1 h

/-- A right value, by its kind. -/
theorem valueOk_cases {v : Value} (h : valueOk v = true) : v = (0, 0, [], ()) ∨ (∃ n, v = (1, n, [], ()) ∧ -1000000000000000 ≤ n ∧ n ≤ 1000000000000000) ∨ (∃ s, v = (2, 0, s, ()) ∧ plainB s 200 = true) ∨ v = (3, 0, [], ()) ∨ v = (3, 1, [], ()) ∨ ∃ n : Nat, v = (4, (n : Int), [], ()) ∧ 1 ≤ n ∧ n ≤ 5 := by
  obtain ⟨k, n, s, u⟩ := v
  unfold valueOk at h
  dsimp only at h
  by_cases h0 : k = 0
  · subst h0
    simp only [beq_self_eq_true, cond_true, Bool.and_eq_true, beq_iff_eq] at h
    exact .inl (by rw [h.1, h.2])
  · rw [beq_eq_false_iff_ne.2 h0, cond_false] at h
    by_cases h1 : k = 1
    · subst h1
      simp only [beq_self_eq_true, cond_true, Bool.and_eq_true, beq_iff_eq] at h
      have := inB_iff.1 h.1
      exact .inr (.inl ⟨n, by rw [h.2], this.1, this.2⟩)
    · rw [beq_eq_false_iff_ne.2 h1, cond_false] at h
      by_cases h2 : k = 2
      · subst h2
        simp only [beq_self_eq_true, cond_true, Bool.and_eq_true, beq_iff_eq] at h
        exact .inr (.inr (.inl ⟨s, by rw [h.1], h.2⟩))
      · rw [beq_eq_false_iff_ne.2 h2, cond_false] at h
        by_cases h3 : k = 3
        · subst h3
          simp only [beq_self_eq_true, cond_true, Bool.and_eq_true, beq_iff_eq] at h
          have := inB_iff.1 h.1
          by_cases hn : n = 0
          · subst hn; exact .inr (.inr (.inr (.inl (by rw [h.2]))))
          · have : n = 1 := by omega
            subst this; exact .inr (.inr (.inr (.inr (.inl (by rw [h.2])))))
        · rw [beq_eq_false_iff_ne.2 h3, cond_false] at h
          by_cases h4 : k = 4
          · subst h4
            simp only [beq_self_eq_true, cond_true, Bool.and_eq_true, beq_iff_eq] at h
            have := inB_iff.1 h.1
            refine .inr (.inr (.inr (.inr (.inr ⟨n.toNat, ?_, by omega, by omega⟩))))
            rw [h.2, Int.toNat_of_nonneg (by omega)]
          · rw [beq_eq_false_iff_ne.2 h4, cond_false] at h; cases h

theorem errName_cases {n : Nat} (h1 : 1 ≤ n) (h2 : n ≤ 5) : ∃ r, errName (n : Int) = 35 :: r ∧ errName (n : Int) ≠ bTRUE ∧ errName (n : Int) ≠ bFALSE := by
  have : n = 1 ∨ n = 2 ∨ n = 3 ∨ n = 4 ∨ n = 5 := by omega
  rcases this with rfl | rfl | rfl | rfl | rfl <;> exact ⟨_, rfl, by decide, by decide⟩

theorem readValue_iff {s : Bytes} {v : Value} : readValue s = some v ↔ valueOk v = true ∧ valueText v = s := by
  constructor
  · intro h
    unfold readValue at h
    cases s with
    | nil =>
      dsimp only at h
      injection h with h
      subst h
      exact ⟨rfl, rfl⟩
    | cons c r =>
      dsimp only at h
      split at h
      · rename_i hc
        obtain ⟨h1, h2⟩ := chk_iff.1 h
        subst h2
        exact ⟨h1, by rw [hc]; rfl⟩
      · split at h
        · rename_i hs
          injection h with h
          subst h
          exact ⟨rfl, hs.symm⟩
        · split at h
          · rename_i hs
            injection h with h
            subst h
            exact ⟨rfl, hs.symm⟩
          · split at h
            · obtain ⟨h1, h2⟩ := chk_iff.1 h
              subst h2
              refine ⟨h1, ?_⟩
              rcases errNo_ok (c :: r) with e | ⟨_, _, e⟩
              · rw [e] at h1; cases h1
              · exact e
            · split at h
              · rename_i hc
                split at h
                · cases h
                · rename_i n hn
                  split at h
                  · cases h
                  · rename_i h0
                    obtain ⟨h1, h2⟩ := chk_iff.1 h
                    subst h2
                    refine ⟨h1, ?_⟩
                    show dec (-(n : Int)) = _
                    rw [dec_neg (by omega), (readDec_iff.1 hn).1, hc]
              · split at h
                · cases h
                · rename_i n hn
                  obtain ⟨h1, h2⟩ := chk_iff.1 h
                  subst h2
                  refine ⟨h1, ?_⟩
                  show dec (n : Int) = _
                  rw [dec_nat]
                  exact (readDec_iff.1 hn).1.symm
  · rintro ⟨hv, rfl⟩
    rcases valueOk_cases hv with rfl | ⟨n, rfl, h1, h2⟩ | ⟨s, rfl, hs⟩ | rfl | rfl | ⟨n, rfl, h1, h2⟩
    · rfl
    · show readValue (dec n) = _
      by_cases hn : n < 0
      · obtain ⟨m, rfl⟩ : ∃ m : Nat, n = -(m : Int) := ⟨n.natAbs, by omega⟩
        rw [dec_neg (by omega)]
        unfold readValue
        dsimp only
        rw [if_neg (by decide), if_neg (by intro e; injection e with e; cases e), if_neg (by intro e; injection e with e; cases e), if_neg (by decide), if_pos rfl, readDec_iff.2 ⟨rfl, decN_len (Nat.lt_of_le_of_lt (show m ≤ 1000000000000000 by omega) (by decide)) (by decide)⟩]
        dsimp only
        rw [if_neg (by omega)]
        exact chk_iff.2 ⟨hv, rfl⟩
      · obtain ⟨m, rfl⟩ : ∃ m : Nat, n = (m : Int) := ⟨n.toNat, by omega⟩
        rw [dec_nat]
        obtain ⟨c, r, e1, e2⟩ := decN_head m
        have hd := dig_iff.1 e2
        have ne : ∀ k : UInt8, (k.toNat < 48 ∨ 57 < k.toNat) → c ≠ k := fun k hk e => by subst e; omega
        have hr := readDec_iff.2 ⟨rfl, decN_len (n := m) (k := 16) (Nat.lt_of_le_of_lt (show m ≤ 1000000000000000 by omega) (by decide)) (by decide)⟩
        unfold readValue
        rw [e1] at hr ⊢
        dsimp only
        rw [if_neg (ne 39 (by decide)), if_neg (by intro e; injection e with e; exact ne 84 (by decide) e), if_neg (by intro e; injection e with e; exact ne 70 (by decide) e), if_neg (ne 35 (by decide)), if_neg (ne 45 (by decide)), hr]
        exact chk_iff.2 ⟨hv, rfl⟩
    · show readValue (39 :: s) = _
      unfold readValue
      dsimp only
      rw [if_pos rfl]
      exact chk_iff.2 ⟨hv, rfl⟩
    · rfl
    · rfl
    · show readValue (errName (n : Int)) = _
      obtain ⟨r, e1, e2, e3⟩ := errName_cases h1 h2
      have e4 := errNo_name h1 h2
      unfold readValue
      rw [e1] at e2 e3 e4 ⊢
      dsimp only
      rw [if_neg (by decide), if_neg e2, if_neg e3, if_pos rfl, e4]
      exact chk_iff.2 ⟨hv, rfl⟩

theorem valueText_inj {u v : Value} (h1 : valueOk u = true) (h2 : valueOk v = true) (h : valueText u = valueText v) : u = v := by
  have := readValue_iff.2 ⟨h1, h⟩
  rw [readValue_iff.2 ⟨h2, rfl⟩] at this
  injection this with this
  exact this.symm

/-- What the reader tries is the value, if there is one. -/
def triedValue (s : Bytes) : Value :=
  if s.head? = some 39 then (2, 0, s.tail, ()) else if s = bFALSE then (3, 0, [], ()) else if s = bTRUE then (3, 1, [], ()) else
  if s.head? = some 35 then (if errNo s = 0 then (0, 0, [], ()) else (4, errNo s, [], ())) else if s = [] then (0, 0, [], ()) else (1, (parsed s).1, [], ())

theorem tried_of {s : Bytes} {v : Value} (hv : valueOk v = true) (ht : valueText v = s) (hp : ∀ n : Int, -9223372036854775808 ≤ n → n ≤ 9223372036854775807 → parsed (dec n) = (n, true)) : triedValue s = v := by
  subst ht
  rcases valueOk_cases hv with rfl | ⟨n, rfl, h1, h2⟩ | ⟨s, rfl, hs⟩ | rfl | rfl | ⟨n, rfl, h1, h2⟩
  · rfl
  · show triedValue (dec n) = _
    have hh : ∃ c r, dec n = c :: r ∧ (c = 45 ∨ dig c = true) := by
      by_cases hn : n < 0
      · obtain ⟨m, rfl⟩ : ∃ m : Nat, n = -(m : Int) := ⟨n.natAbs, by omega⟩
        exact ⟨_, _, dec_neg (by omega), .inl rfl⟩
      · obtain ⟨m, rfl⟩ : ∃ m : Nat, n = (m : Int) := ⟨n.toNat, by omega⟩
        rw [dec_nat]
        obtain ⟨c, r, e1, e2⟩ := decN_head m
        exact ⟨c, r, e1, .inr e2⟩
    obtain ⟨c, r, e, hc⟩ := hh
    have ne : ∀ k : UInt8, (k.toNat < 45 ∨ 57 < k.toNat ∨ k.toNat = 46 ∨ k.toNat = 47) → c ≠ k := by
      intro k hk e
      subst e
      rcases hc with rfl | hc
      · simp at hk
      · have := dig_iff.1 hc; omega
    have hpn := hp n (by omega) (by omega)
    unfold triedValue
    rw [e] at hpn ⊢
    rw [if_neg (by simpa using ne 39 (by decide)), if_neg (by intro e; injection e with e; exact ne 70 (by decide) e), if_neg (by intro e; injection e with e; exact ne 84 (by decide) e), if_neg (by simpa using ne 35 (by decide)), if_neg (by simp), hpn]
  · rfl
  · rfl
  · rfl
  · show triedValue (errName (n : Int)) = _
    obtain ⟨r, e1, e2, e3⟩ := errName_cases h1 h2
    have e4 := errNo_name h1 h2
    unfold triedValue
    rw [e1] at e2 e3 e4 ⊢
    rw [if_neg (by simp), if_neg e3, if_neg e2, if_pos (by simp), e4, if_neg (by omega)]

theorem tried_value (s : Bytes) (hp : ∀ n : Int, -9223372036854775808 ≤ n → n ≤ 9223372036854775807 → parsed (dec n) = (n, true)) : readValue s = if valueOk (triedValue s) = true ∧ valueText (triedValue s) = s then some (triedValue s) else none := by
  by_cases h : valueOk (triedValue s) = true ∧ valueText (triedValue s) = s
  · rw [if_pos h]; exact readValue_iff.2 h
  · rw [if_neg h]
    cases hr : readValue s with
    | none => rfl
    | some v =>
      exfalso
      obtain ⟨h1, h2⟩ := readValue_iff.1 hr
      rw [tried_of h1 h2 hp] at h
      exact h ⟨h1, h2⟩

end Go.Proofs.YtmgeeanbecmkbaaGreatDoor.Den
namespace Go.Proofs.YtmgeeanbecmkbaaGreatDoor.Den
open Go
set_option linter.unusedSimpArgs false


abbrev FNode.kind (x : FNode) : Int := x.1
abbrev FNode.kids (x : FNode) : List Int := x.2.2.2.2.2.1
def zP : Place := ((0, 0, ()), false, false, ())
def zV : Value := (0, 0, [], ())
def placeB (a b : Place) : Bool := ((a.1.1 == b.1.1) && ((a.1.2.1 == b.1.2.1) && true)) && ((a.2.1 == b.2.1) && ((a.2.2.1 == b.2.2.1) && true))
def valB (a b : Value) : Bool := (a.1 == b.1) && ((a.2.1 == b.2.1) && ((a.2.2.1 == b.2.2.1) && true))
theorem placeB_iff {a b : Place} : placeB a b = true ↔ a = b := by
  obtain ⟨⟨c, r, u⟩, f, g, v⟩ := a
  obtain ⟨⟨c', r', u'⟩, f', g', v'⟩ := b
  unfold placeB
  simp only [Bool.and_eq_true, beq_iff_eq, and_true]
  constructor
  · rintro ⟨⟨rfl, rfl⟩, rfl, rfl⟩; rfl
  · intro h; injection h with h1 h2; injection h1 with h3 h4; injection h4 with h4 _; injection h2 with h5 h6; injection h6 with h6 _; exact ⟨⟨h3, h4⟩, h5, h6⟩
theorem valB_iff {a b : Value} : valB a b = true ↔ a = b := by
  obtain ⟨k, n, s, u⟩ := a
  obtain ⟨k', n', s', u'⟩ := b
  unfold valB
  simp only [Bool.and_eq_true, beq_iff_eq, and_true]
  constructor
  · rintro ⟨rfl, rfl, rfl⟩; rfl
  · intro h; injection h with h1 h2; injection h2 with h2 h3; injection h3 with h3 _; exact ⟨h1, h2, h3⟩
theorem placeB_refl (a : Place) : placeB a a = true := placeB_iff.2 rfl
theorem valB_refl (a : Value) : valB a a = true := valB_iff.2 rfl

def argsOk (op : Int) (k : Int) : Bool :=
  bif op == 1 || op == 2 || op == 3 || op == 4 || op == 6 || op == 7 then inB k 1 10 else bif op == 5 then k == 2 || k == 3 else bif op == 8 || op == 9 || op == 10 then k == 1 else false

def nodeOk (x : FNode) : Bool :=
  bif x.1 == 1 then (x.2.1 == 0) && (placeB x.2.2.2.1 zP && (placeB x.2.2.2.2.1 zP && (((x.2.2.2.2.2.1.length : Int) == 0) && (valueOk x.2.2.1 && ((x.2.2.1.1 != 0) && ((x.2.2.1.1 != 1) || decide (x.2.2.1.2.1 ≥ 0)))))))
  else bif x.1 == 2 then (x.2.1 == 0) && (valB x.2.2.1 zV && (placeB x.2.2.2.2.1 zP && (((x.2.2.2.2.2.1.length : Int) == 0) && refOk x.2.2.2.1.1)))
  else bif x.1 == 3 then (x.2.1 == 0) && (valB x.2.2.1 zV && (((x.2.2.2.2.2.1.length : Int) == 0) && areaOk (x.2.2.2.1.1, x.2.2.2.2.1.1, ())))
  else bif x.1 == 4 then (x.2.1 == 0) && (valB x.2.2.1 zV && (placeB x.2.2.2.1 zP && (placeB x.2.2.2.2.1 zP && ((x.2.2.2.2.2.1.length : Int) == 1))))
  else bif x.1 == 5 then inB x.2.1 1 11 && (valB x.2.2.1 zV && (placeB x.2.2.2.1 zP && (placeB x.2.2.2.2.1 zP && ((x.2.2.2.2.2.1.length : Int) == 2))))
  else bif x.1 == 6 then argsOk x.2.1 (x.2.2.2.2.2.1.length : Int) && (valB x.2.2.1 zV && (placeB x.2.2.2.1 zP && placeB x.2.2.2.2.1 zP))
  else false

/-- The kids' trees, from the last one on, one ahead of the other; where the first begins, and how high the highest is. -/
def kidsT (rec : Nat → Option (Nat × Nat)) (f : List FNode) (x : FNode) : List Int → Nat → Nat → Option (Nat × Nat)
  | [], hi, h => some (hi, h)
  | k :: r, hi, h =>
    if k + 1 = (hi : Int) ∧ 0 ≤ k then
      match f[hi - 1]? with
      | none => none
      | some y => if y.1 = 3 ∧ x.1 ≠ 6 then none else
        match rec (hi - 1) with
        | none => none
        | some (lo, h1) => kidsT rec f x r lo (max h h1)
    else none
/-- The tree that ends at n: where it begins, and how high it is. -/
def tree (f : List FNode) : Nat → Nat → Option (Nat × Nat)
  | 0, _ => none
  | k + 1, n => match f[n]? with
    | none => none
    | some x => if nodeOk x = true then (match kidsT (tree f k) f x x.kids.reverse n 0 with
      | none => none
      | some (lo, h) => some (lo, h + 1)) else none

def formulaOk (f : List FNode) : Bool :=
  match f.getLast?, tree f f.length (f.length - 1) with
  | some x, some (lo, h) => decide (f.length ≤ 60) && decide (x.1 ≠ 3) && decide (lo = 0) && decide (h ≤ 12)
  | _, _ => false

theorem kidsT_congr {r1 r2 : Nat → Option (Nat × Nat)} {f : List FNode} {x : FNode} : ∀ {ks : List Int} {hi h : Nat}, (∀ n, n < hi → r1 n = r2 n ∧ ∀ p, r1 n = some p → p.1 ≤ n) → kidsT r1 f x ks hi h = kidsT r2 f x ks hi h
  | [], _, _, _ => rfl
  | k :: r, hi, h, hr => by
    unfold kidsT
    split
    · rename_i hk
      split
      · rfl
      · split
        · rfl
        · have := hr (hi - 1) (by omega)
          rw [← this.1]
          cases hq : r1 (hi - 1) with
          | none => rfl
          | some p =>
            dsimp only
            have hp := this.2 p hq
            exact kidsT_congr fun n hn => hr n (by omega)
    · rfl

theorem kidsT_le {rec : Nat → Option (Nat × Nat)} {f : List FNode} {x : FNode} : ∀ {ks : List Int} {hi h lo h2 : Nat}, (∀ n p, n < hi → rec n = some p → p.1 ≤ n) → kidsT rec f x ks hi h = some (lo, h2) → lo ≤ hi ∧ h ≤ h2
  | [], hi, h, lo, h2, _, e => by
    unfold kidsT at e
    injection e with e
    injection e with e1 e2
    omega
  | k :: r, hi, h, lo, h2, hr, e => by
    unfold kidsT at e
    split at e
    · rename_i hk
      split at e
      · cases e
      · split at e
        · cases e
        · split at e
          · cases e
          · rename_i q lo1 h1 hq
            have := hr _ _ (by omega) hq
            dsimp only at this
            have := kidsT_le (fun n p hn => hr n p (by omega)) e
            omega
    · cases e

theorem tree_le {f : List FNode} : ∀ {k n : Nat} {p : Nat × Nat}, tree f k n = some p → p.1 ≤ n ∧ 1 ≤ p.2 ∧ n < f.length
  | 0, _, _, h => by cases h
  | k + 1, n, p, h => by
    unfold tree at h
    split at h
    · cases h
    · rename_i x hx
      have hn : n < f.length := by
        rcases Nat.lt_or_ge n f.length with h | h
        · exact h
        · rw [List.getElem?_eq_none h] at hx; cases hx
      split at h
      · split at h
        · cases h
        · rename_i lo hh he
          injection h with h
          subst h
          have := kidsT_le (fun n p hn hr => (tree_le hr).1) he
          exact ⟨this.1, Nat.le_add_left .., hn⟩
      · cases h

/-- More rounds make no other tree. -/
theorem tree_fuel {f : List FNode} : ∀ {k n : Nat}, n < k → tree f k n = tree f (n + 1) n
  | 0, n, h => by omega
  | k + 1, n, h => by
    unfold tree
    split
    · rfl
    · rename_i x hx
      split
      · have := kidsT_congr (r1 := tree f k) (r2 := tree f n) (f := f) (x := x) (ks := x.kids.reverse) (hi := n) (h := 0) (fun m hm => ⟨by rw [tree_fuel (show m < k by omega), tree_fuel (show m < n by omega)], fun p hp => (tree_le hp).1⟩)
        rw [this]
      · rfl

abbrev treeAt (f : List FNode) (n : Nat) : Option (Nat × Nat) := tree f (n + 1) n
theorem treeAt_eq (f : List FNode) (n : Nat) : treeAt f n = match f[n]? with
    | none => none
    | some x => if nodeOk x = true then (match kidsT (treeAt f) f x x.kids.reverse n 0 with
      | none => none
      | some (lo, h) => some (lo, h + 1)) else none := by
  show tree f (n + 1) n = _
  unfold tree
  cases f[n]? with
  | none => rfl
  | some x =>
    dsimp only
    rw [kidsT_congr (r1 := tree f n) (r2 := treeAt f) (fun m hm => ⟨tree_fuel hm, fun p hp => (tree_le hp).1⟩)]

theorem formulaOk_iff {f : List FNode} : formulaOk f = true ↔ 1 ≤ f.length ∧ f.length ≤ 60 ∧ (∃ x, f[f.length - 1]? = some x ∧ x.1 ≠ 3) ∧ ∃ h, h ≤ 12 ∧ treeAt f (f.length - 1) = some (0, h) := by
  unfold formulaOk
  rw [List.getLast?_eq_getElem?]
  by_cases h0 : f.length = 0
  · have : f = [] := List.length_eq_zero_iff.1 h0
    subst this
    simp
  · rw [tree_fuel (show f.length - 1 < f.length by omega)]
    show (match f[f.length - 1]?, treeAt f (f.length - 1) with
      | some x, some (lo, h) => decide (f.length ≤ 60) && decide (x.1 ≠ 3) && decide (lo = 0) && decide (h ≤ 12)
      | _, _ => false) = true ↔ _
    cases hx : f[f.length - 1]? with
    | none => rw [List.getElem?_eq_none_iff] at hx; omega
    | some x =>
      cases ht : treeAt f (f.length - 1) with
      | none => simp
      | some p =>
        obtain ⟨lo, h⟩ := p
        simp only [Bool.and_eq_true, decide_eq_true_eq]
        constructor
        · rintro ⟨⟨⟨a, b⟩, c⟩, d⟩
          exact ⟨by omega, a, ⟨x, rfl, b⟩, h, d, by rw [c]⟩
        · rintro ⟨_, a, ⟨y, e, b⟩, h', d, e2⟩
          injection e with e
          injection e2 with e2
          injection e2 with e3 e4
          subst e
          exact ⟨⟨⟨a, b⟩, e3⟩, by omega⟩

/-- A node and its kids, as far as they can be seen alone. -/
def kidGood (f : List FNode) (x : FNode) (i : Nat) (k : Int) : Bool := decide (0 ≤ k) && decide (k + 1 ≤ (i : Int)) && !(((f[k.toNat]?).map (·.1) == some 3) && (x.1 != 6))
def nodeGood (f : List FNode) (i : Nat) (x : FNode) : Bool := nodeOk x && x.kids.all (kidGood f x i)

theorem kidsT_good {f : List FNode} {x : FNode} {i : Nat} : ∀ {ks : List Int} {hi h lo h2 : Nat}, hi ≤ i → kidsT (treeAt f) f x ks hi h = some (lo, h2) → (∀ m p, m < hi → treeAt f m = some p → ∀ j y, p.1 ≤ j → j ≤ m → f[j]? = some y → nodeGood f j y = true) →
    ks.all (kidGood f x i) = true ∧ ∀ j y, lo ≤ j → j < hi → f[j]? = some y → nodeGood f j y = true
  | [], hi, h, lo, h2, _, e, _ => by
    unfold kidsT at e
    injection e with e
    injection e with e1 e2
    exact ⟨rfl, fun j y h1 h2 => by omega⟩
  | k :: r, hi, h, lo, h2, hle, e, hr => by
    unfold kidsT at e
    split at e
    · rename_i hk
      split at e
      · cases e
      · rename_i y hy
        split at e
        · cases e
        · rename_i hn
          split at e
          · cases e
          · rename_i q lo1 h1 hq
            have hl := tree_le hq
            dsimp only at hl
            obtain ⟨g1, g2⟩ := kidsT_good (i := i) (by omega) e fun m p hm => hr m p (by omega)
            refine ⟨?_, fun j z a b c => ?_⟩
            · rw [List.all_cons, g1, Bool.and_true]
              unfold kidGood
              have : k.toNat = hi - 1 := by omega
              rw [decide_eq_true (show 0 ≤ k by omega), decide_eq_true (show k + 1 ≤ (i : Int) by omega), this, hy]
              simp only [Bool.true_and, Option.map_some, Bool.not_eq_true']
              by_cases h3 : y.1 = 3
              · have : x.1 = 6 := Decidable.byContradiction fun e => hn ⟨h3, e⟩
                rw [this]; simp
              · rw [show ((some y.1 : Option Int) == some 3) = false by simpa using h3]; rfl
            · by_cases hj : j < lo1
              · exact g2 j z a hj c
              · exact hr (hi - 1) _ (by omega) hq j z (by dsimp only; omega) (by omega) c
    · cases e

theorem tree_good {f : List FNode} : ∀ (n : Nat) {p : Nat × Nat}, treeAt f n = some p → ∀ j y, p.1 ≤ j → j ≤ n → f[j]? = some y → nodeGood f j y = true := by
  intro n
  induction n using Nat.strongRecOn with
  | _ n ih =>
    intro p h j y h1 h2 hy
    rw [treeAt_eq] at h
    split at h
    · cases h
    · rename_i x hx
      split at h
      · rename_i hok
        split at h
        · cases h
        · rename_i lo hh he
          injection h with h
          subst h
          obtain ⟨g1, g2⟩ := kidsT_good (i := n) (Nat.le_refl _) he fun m p hm hp => ih m hm hp
          by_cases hj : j = n
          · subst hj
            rw [hx] at hy
            injection hy with hy
            subst hy
            unfold nodeGood
            rw [hok, Bool.true_and, ← List.all_reverse]
            exact g1
          · exact g2 j y h1 (by omega) hy
      · cases h

def nodesB (f : List FNode) : Bool := f.zipIdx.all fun p => nodeGood f p.2 p.1
theorem nodesB_iff {f : List FNode} : nodesB f = true ↔ ∀ j y, f[j]? = some y → nodeGood f j y = true := by
  unfold nodesB
  rw [List.all_eq_true]
  constructor
  · intro h j y hy
    exact h (y, j) (List.mem_zipIdx_iff_getElem?.2 (by simpa using hy))
  · rintro h ⟨y, j⟩ hm
    exact h j y (by simpa using List.mem_zipIdx_iff_getElem?.1 hm)

def hOf (f : List FNode) (k : Int) : Nat := ((treeAt f k.toNat).map (·.2)).getD 0
def maxH (f : List FNode) (a : Nat) (l : List Int) : Nat := l.foldl (fun a k => max a (hOf f k)) a
theorem maxH_le {f : List FNode} : ∀ {l : List Int} {a b : Nat}, maxH f a l ≤ b ↔ a ≤ b ∧ ∀ k ∈ l, hOf f k ≤ b
  | [], a, b => by simp [maxH]
  | k :: r, a, b => by
    have := maxH_le (f := f) (l := r) (a := max a (hOf f k)) (b := b)
    unfold maxH at this ⊢
    rw [List.foldl_cons, this]
    simp only [List.mem_cons, forall_eq_or_imp]
    constructor
    · rintro ⟨h1, h2⟩; exact ⟨by omega, by omega, h2⟩
    · rintro ⟨h1, h2, h3⟩; exact ⟨by omega, h3⟩
theorem maxH_reverse (f : List FNode) (a : Nat) (l : List Int) : maxH f a l.reverse = maxH f a l := by
  refine Nat.le_antisymm ?_ ?_
  · rw [maxH_le]
    have := (maxH_le (f := f) (l := l) (a := a)).1 (Nat.le_refl _)
    exact ⟨this.1, fun k hk => this.2 k (List.mem_reverse.1 hk)⟩
  · rw [maxH_le]
    have := (maxH_le (f := f) (l := l.reverse) (a := a)).1 (Nat.le_refl _)
    exact ⟨this.1, fun k hk => this.2 k (List.mem_reverse.2 hk)⟩

theorem kidsT_max {f : List FNode} {x : FNode} : ∀ {ks : List Int} {hi h lo h2 : Nat}, kidsT (treeAt f) f x ks hi h = some (lo, h2) → h2 = maxH f h ks ∧ ∀ k ∈ ks, 0 ≤ k ∧ k.toNat < hi ∧ ∃ p, treeAt f k.toNat = some p
  | [], hi, h, lo, h2, e => by
    unfold kidsT at e
    injection e with e
    injection e with e1 e2
    exact ⟨e2.symm, by simp⟩
  | k :: r, hi, h, lo, h2, e => by
    unfold kidsT at e
    split at e
    · rename_i hk
      split at e
      · cases e
      · split at e
        · cases e
        · split at e
          · cases e
          · rename_i q lo1 h1 hq
            have hl := (tree_le hq).1
            dsimp only at hl
            obtain ⟨g1, g2⟩ := kidsT_max e
            have hkt : k.toNat = hi - 1 := by omega
            refine ⟨?_, fun j hj => ?_⟩
            · rw [g1]
              unfold maxH
              rw [List.foldl_cons]
              unfold hOf
              rw [hkt, hq]; rfl
            · rcases List.mem_cons.1 hj with rfl | hj
              · exact ⟨hk.2, by omega, _, by rw [hkt]; exact hq⟩
              · obtain ⟨a, b, c⟩ := g2 j hj
                exact ⟨a, by omega, c⟩
    · cases e

theorem tree_high {f : List FNode} {n : Nat} {p : Nat × Nat} (h : treeAt f n = some p) : ∃ x, f[n]? = some x ∧ nodeOk x = true ∧ p.2 = maxH f 0 x.kids + 1 ∧ (∀ k ∈ x.kids, 0 ≤ k ∧ k.toNat < n ∧ ∃ q, treeAt f k.toNat = some q) ∧ kidsT (treeAt f) f x x.kids.reverse n 0 = some (p.1, p.2 - 1) := by
  rw [treeAt_eq] at h
  split at h
  · cases h
  · rename_i x hx
    split at h
    · rename_i hok
      split at h
      · cases h
      · rename_i lo hh he
        injection h with h
        subst h
        obtain ⟨g1, g2⟩ := kidsT_max he
        rw [maxH_reverse] at g1
        exact ⟨x, hx, hok, by rw [g1], fun k hk => g2 k (List.mem_reverse.2 hk), he⟩
    · cases h

theorem tree_high_le {f : List FNode} : ∀ (n : Nat) {p : Nat × Nat}, treeAt f n = some p → p.2 ≤ n + 1 := by
  intro n
  induction n using Nat.strongRecOn with
  | _ n ih =>
    intro p h
    obtain ⟨x, hx, hok, h2, hk, _⟩ := tree_high h
    rw [h2]
    refine Nat.succ_le_succ (maxH_le.2 ⟨Nat.zero_le _, fun k hm => ?_⟩)
    obtain ⟨k0, k1, q, hq⟩ := hk k hm
    have := ih k.toNat k1 hq
    unfold hOf
    rw [hq]
    dsimp only [Option.map_some, Option.getD_some]
    omega

end Go.Proofs.YtmgeeanbecmkbaaGreatDoor.Den
namespace Go.Proofs.YtmgeeanbecmkbaaGreatDoor.Den
open Go
set_option linter.unusedSimpArgs false

def opNames : List Bytes := [[], [43], [45], [42], [47], [38], [61], [60, 62], [60], [60, 61], [62], [62, 61]]
def fnNames : List Bytes := [[], [83, 85, 77], [77, 73, 78], [77, 65, 88], [67, 79, 85, 78, 84], [73, 70], [65, 78, 68], [79, 82], [78, 79, 84], [65, 66, 83], [76, 69, 78]]
def opText (n : Int) : Bytes := (opNames[n.toNat]?).getD []
def fnText (n : Int) : Bytes := (fnNames[n.toNat]?).getD []
def binds (op : Int) : Int := if op = 3 ∨ op = 4 then 4 else if op = 1 ∨ op = 2 then 3 else if op = 5 then 2 else 1
def dq (c : UInt8) : Bytes := if c = 34 then [34, 34] else [c]
def quote (s : Bytes) : Bytes := [34] ++ s.flatMap dq ++ [34]

def textOf (rec : Int → Int → Bytes) (x : FNode) (least : Int) : Bytes :=
  if x.1 = 1 then (if x.2.2.1.1 = 2 then quote x.2.2.1.2.2.1 else valueText x.2.2.1)
  else if x.1 = 2 then placeText x.2.2.2.1
  else if x.1 = 3 then placeText x.2.2.2.1 ++ [58] ++ placeText x.2.2.2.2.1
  else if x.1 = 4 then [45] ++ rec (x.kids.headD 0) 5
  else if x.1 = 5 then
    let out := rec (x.kids.headD 0) (binds x.2.1) ++ opText x.2.1 ++ rec (x.kids.tail.headD 0) (binds x.2.1 + 1)
    if binds x.2.1 < least then [40] ++ out ++ [41] else out
  else fnText x.2.1 ++ [40] ++ Lib.join (x.kids.map fun k => rec k 1) [44] ++ [41]
def formText (f : List FNode) : Nat → Nat → Int → Bytes
  | 0, _, _ => []
  | k + 1, n, least => match f[n]? with
    | none => []
    | some x => textOf (fun k' l => formText f k k'.toNat l) x least
abbrev textAt (f : List FNode) (n : Nat) (least : Int) : Bytes := formText f (n + 1) n least

/-- What a right node has. -/
theorem nodeOk_cases {x : FNode} (h : nodeOk x = true) :
    (x.1 = 1 ∧ valueOk x.2.2.1 = true ∧ x.2.2.1.1 ≠ 0 ∧ x.kids = []) ∨ (x.1 = 2 ∧ refOk x.2.2.2.1.1 = true ∧ x.kids = []) ∨ (x.1 = 3 ∧ areaOk (x.2.2.2.1.1, x.2.2.2.2.1.1, ()) = true ∧ x.kids = []) ∨
    (x.1 = 4 ∧ x.kids.length = 1) ∨ (x.1 = 5 ∧ 1 ≤ x.2.1 ∧ x.2.1 ≤ 11 ∧ x.kids.length = 2) ∨ (x.1 = 6 ∧ 1 ≤ x.2.1 ∧ x.2.1 ≤ 10 ∧ argsOk x.2.1 (x.kids.length : Int) = true ∧ 1 ≤ x.kids.length ∧ x.kids.length ≤ 10) := by
  have nil : ((x.2.2.2.2.2.1.length : Int) == 0) = true → x.kids = [] := fun e => by
    rw [beq_iff_eq] at e
    exact List.length_eq_zero_iff.1 (by unfold FNode.kids; omega)
  unfold nodeOk at h
  by_cases h1 : x.1 = 1
  · rw [h1] at h
    simp only [beq_self_eq_true, cond_true, Bool.and_eq_true] at h
    obtain ⟨_, _, _, a, b, c, _⟩ := h
    exact .inl ⟨h1, b, by simpa using c, nil a⟩
  · rw [beq_eq_false_iff_ne.2 h1, cond_false] at h
    by_cases h2 : x.1 = 2
    · rw [h2] at h
      simp only [beq_self_eq_true, cond_true, Bool.and_eq_true] at h
      obtain ⟨_, _, _, a, b⟩ := h
      exact .inr (.inl ⟨h2, b, nil a⟩)
    · rw [beq_eq_false_iff_ne.2 h2, cond_false] at h
      by_cases h3 : x.1 = 3
      · rw [h3] at h
        simp only [beq_self_eq_true, cond_true, Bool.and_eq_true] at h
        obtain ⟨_, _, a, b⟩ := h
        exact .inr (.inr (.inl ⟨h3, b, nil a⟩))
      · rw [beq_eq_false_iff_ne.2 h3, cond_false] at h
        by_cases h4 : x.1 = 4
        · rw [h4] at h
          simp only [beq_self_eq_true, cond_true, Bool.and_eq_true] at h
          obtain ⟨_, _, _, _, a⟩ := h
          rw [beq_iff_eq] at a
          exact .inr (.inr (.inr (.inl ⟨h4, by unfold FNode.kids; omega⟩)))
        · rw [beq_eq_false_iff_ne.2 h4, cond_false] at h
          by_cases h5 : x.1 = 5
          · rw [h5] at h
            simp only [beq_self_eq_true, cond_true, Bool.and_eq_true] at h
            obtain ⟨i, _, _, _, a⟩ := h
            rw [beq_iff_eq] at a
            have := inB_iff.1 i
            exact .inr (.inr (.inr (.inr (.inl ⟨h5, this.1, this.2, by unfold FNode.kids; omega⟩))))
          · rw [beq_eq_false_iff_ne.2 h5, cond_false] at h
            by_cases h6 : x.1 = 6
            · rw [h6] at h
              simp only [beq_self_eq_true, cond_true, Bool.and_eq_true] at h
              obtain ⟨i, _⟩ := h
              refine .inr (.inr (.inr (.inr (.inr ?_))))
              have hi := i
              unfold argsOk at i
              have key : (1 ≤ x.2.1 ∧ x.2.1 ≤ 10) ∧ 1 ≤ (x.2.2.2.2.2.1.length : Int) ∧ (x.2.2.2.2.2.1.length : Int) ≤ 10 := by
                revert i
                generalize (x.2.2.2.2.2.1.length : Int) = k
                generalize x.2.1 = op
                intro i
                cases hq : (op == 1 || op == 2 || op == 3 || op == 4 || op == 6 || op == 7) <;> rw [hq] at i <;> simp only [cond_true, cond_false] at i
                · cases hq5 : op == 5 <;> rw [hq5] at i <;> simp only [cond_true, cond_false] at i
                  · cases hq8 : (op == 8 || op == 9 || op == 10) <;> rw [hq8] at i <;> simp only [cond_true, cond_false] at i
                    · cases i
                    · simp only [Bool.or_eq_true, beq_iff_eq] at hq8 i; omega
                  · simp only [Bool.or_eq_true, beq_iff_eq] at hq5 i; omega
                · simp only [Bool.or_eq_true, beq_iff_eq] at hq
                  have := inB_iff.1 i
                  omega
              exact ⟨h6, key.1.1, key.1.2, hi, by unfold FNode.kids; omega, by unfold FNode.kids; omega⟩
            · rw [beq_eq_false_iff_ne.2 h6, cond_false] at h; cases h

theorem textOf_1 {rec : Int → Int → Bytes} {x : FNode} {l : Int} (e : x.1 = 1) : textOf rec x l = if x.2.2.1.1 = 2 then quote x.2.2.1.2.2.1 else valueText x.2.2.1 := by
  unfold textOf; rw [if_pos e]
theorem textOf_2 {rec : Int → Int → Bytes} {x : FNode} {l : Int} (e : x.1 = 2) : textOf rec x l = placeText x.2.2.2.1 := by
  unfold textOf; rw [e]; rfl
theorem textOf_3 {rec : Int → Int → Bytes} {x : FNode} {l : Int} (e : x.1 = 3) : textOf rec x l = placeText x.2.2.2.1 ++ [58] ++ placeText x.2.2.2.2.1 := by
  unfold textOf; rw [e]; rfl
theorem textOf_4 {rec : Int → Int → Bytes} {x : FNode} {l : Int} (e : x.1 = 4) : textOf rec x l = [45] ++ rec (x.kids.headD 0) 5 := by
  unfold textOf; rw [e]; rfl
theorem textOf_5 {rec : Int → Int → Bytes} {x : FNode} {l : Int} (e : x.1 = 5) : textOf rec x l = if binds x.2.1 < l then [40] ++ (rec (x.kids.headD 0) (binds x.2.1) ++ opText x.2.1 ++ rec (x.kids.tail.headD 0) (binds x.2.1 + 1)) ++ [41] else rec (x.kids.headD 0) (binds x.2.1) ++ opText x.2.1 ++ rec (x.kids.tail.headD 0) (binds x.2.1 + 1) := by
  unfold textOf; rw [e]; rfl
theorem textOf_6 {rec : Int → Int → Bytes} {x : FNode} {l : Int} (e : x.1 = 6) : textOf rec x l = fnText x.2.1 ++ [40] ++ Lib.join (x.kids.map fun k => rec k 1) [44] ++ [41] := by
  unfold textOf; rw [e]; rfl

theorem textOf_congr {r1 r2 : Int → Int → Bytes} {x : FNode} (h : nodeOk x = true) (hr : ∀ k ∈ x.kids, ∀ l, r1 k l = r2 k l) (least : Int) : textOf r1 x least = textOf r2 x least := by
  rcases nodeOk_cases h with ⟨e, _⟩ | ⟨e, _⟩ | ⟨e, _⟩ | ⟨e, hk⟩ | ⟨e, _, _, hk⟩ | ⟨e, _⟩
  · rw [textOf_1 e, textOf_1 e]
  · rw [textOf_2 e, textOf_2 e]
  · rw [textOf_3 e, textOf_3 e]
  · rw [textOf_4 e, textOf_4 e]
    match x.kids, hk, hr with
    | [a], _, hr => rw [show ([a] : List Int).headD 0 = a from rfl, hr a (by simp)]
  · rw [textOf_5 e, textOf_5 e]
    match x.kids, hk, hr with
    | [a, b], _, hr =>
      rw [show ([a, b] : List Int).headD 0 = a from rfl, show ([a, b] : List Int).tail.headD 0 = b from rfl, hr a (by simp), hr b (by simp)]
  · rw [textOf_6 e, textOf_6 e]
    rw [List.map_congr_left (fun k hk => hr k hk 1)]

theorem text_fuel {f : List FNode} : ∀ (n k : Nat) {p : Nat × Nat}, treeAt f n = some p → n < k → ∀ l, formText f k n l = textAt f n l := by
  intro n
  induction n using Nat.strongRecOn with
  | _ n ih =>
    intro k p h hk l
    obtain ⟨x, hx, hok, _, hkid, _⟩ := tree_high h
    obtain ⟨j, rfl⟩ : ∃ j, k = j + 1 := ⟨k - 1, by omega⟩
    unfold textAt formText
    rw [hx]
    dsimp only
    refine textOf_congr hok (fun c hc l' => ?_) l
    obtain ⟨c0, c1, q, hq⟩ := hkid c hc
    rw [ih c.toNat c1 j hq (by omega) l', ih c.toNat c1 n hq (by omega) l']

theorem textAt_eq {f : List FNode} {n : Nat} {p : Nat × Nat} (h : treeAt f n = some p) {x : FNode} (hx : f[n]? = some x) (l : Int) : textAt f n l = textOf (fun k l => textAt f k.toNat l) x l := by
  obtain ⟨y, hy, hok, _, hkid, _⟩ := tree_high h
  rw [hx] at hy
  injection hy with hy
  subst hy
  show formText f (n + 1) n l = _
  unfold formText
  rw [hx]
  dsimp only
  refine textOf_congr hok (fun c hc l' => ?_) l
  obtain ⟨c0, c1, q, hq⟩ := hkid c hc
  exact text_fuel c.toNat n hq (by omega) l'

/-! How long it is. -/
theorem flatMap_dq_len : ∀ (s : Bytes), (s.flatMap dq).length ≤ 2 * s.length
  | [] => by simp
  | c :: r => by
    rw [List.flatMap_cons, List.length_append, List.length_cons]
    have := flatMap_dq_len r
    have h2 : (dq c).length ≤ 2 := by unfold dq; split <;> simp
    omega
theorem decN_len_le {n : Nat} (h : n < 10000000000000000000) : (decN n).length ≤ 19 := decN_len (k := 19) h (by decide)
theorem dec_len {n : Int} (h1 : -9223372036854775808 ≤ n) (h2 : n ≤ 9223372036854775807) : (dec n).length ≤ 20 := by
  by_cases hn : n < 0
  · obtain ⟨m, rfl⟩ : ∃ m : Nat, n = -(m : Int) := ⟨n.natAbs, by omega⟩
    rw [dec_neg (by omega), List.length_cons]
    have := decN_len_le (n := m) (by omega)
    omega
  · obtain ⟨m, rfl⟩ : ∃ m : Nat, n = (m : Int) := ⟨n.toNat, by omega⟩
    rw [dec_nat]
    have := decN_len_le (n := m) (by omega)
    omega
theorem errName_len (n : Int) : (errName n).length ≤ 7 := by
  unfold errName
  rcases Nat.lt_or_ge n.toNat 6 with h | h
  · have : n.toNat = 0 ∨ n.toNat = 1 ∨ n.toNat = 2 ∨ n.toNat = 3 ∨ n.toNat = 4 ∨ n.toNat = 5 := by omega
    rcases this with e | e | e | e | e | e <;> rw [e] <;> decide
  · rw [List.getElem?_eq_none (by simpa [errNames] using h)]; simp
theorem opText_len (n : Int) : (opText n).length ≤ 2 := by
  unfold opText
  rcases Nat.lt_or_ge n.toNat 12 with h | h
  · have key : ((List.range 12).all fun k => decide (((opNames[k]?).getD []).length ≤ 2)) = true := by kernel_rfl
    exact of_decide_eq_true (List.all_eq_true.1 key _ (List.mem_range.2 h))
  · rw [List.getElem?_eq_none (by simpa [opNames] using h)]; simp
theorem fnText_len (n : Int) : (fnText n).length ≤ 5 := by
  unfold fnText
  rcases Nat.lt_or_ge n.toNat 11 with h | h
  · have key : ((List.range 11).all fun k => decide (((fnNames[k]?).getD []).length ≤ 5)) = true := by kernel_rfl
    exact of_decide_eq_true (List.all_eq_true.1 key _ (List.mem_range.2 h))
  · rw [List.getElem?_eq_none (by simpa [fnNames] using h)]; simp
theorem colText_le (n : Int) : (colText n).length ≤ 2 := by
  unfold colText
  split
  · split <;> simp
  · simp
theorem placeText_len (p : Place) : (placeText p).length ≤ 30 := by
  unfold placeText
  split
  · rename_i h
    have := refOk_iff.1 h
    have h1 := colText_le p.1.1
    have h2 := dec_len (n := p.1.2.1) (by omega) (by omega)
    cases p.2.1 <;> cases p.2.2.1 <;> simp only [if_true, if_false, Bool.false_eq_true, List.length_append, List.length_cons, List.length_nil] <;> omega
  · simp
theorem plain_len {s : Bytes} {n : Int} (h : plainB s n = true) : (s.length : Int) ≤ n := by
  unfold plainB at h; rw [Bool.and_eq_true, decide_eq_true_eq] at h; exact h.2
theorem valueText_len {v : Value} (h : valueOk v = true) : (valueText v).length ≤ 201 := by
  rcases valueOk_cases h with rfl | ⟨n, rfl, h1, h2⟩ | ⟨s, rfl, hs⟩ | rfl | rfl | ⟨n, rfl, h1, h2⟩
  · exact Nat.zero_le _
  · have := dec_len (n := n) (by omega) (by omega)
    show (dec n).length ≤ 201
    omega
  · have := plain_len hs
    show (39 :: s).length ≤ 201
    rw [List.length_cons]; omega
  · decide
  · decide
  · have := errName_len (n : Int)
    show (errName (n : Int)).length ≤ 201
    omega

theorem joinTail_len (sep : Bytes) : ∀ (r : List Bytes), (Lib.joinTail sep r).length = (r.map fun t => sep.length + t.length).sum
  | [] => rfl
  | x :: r => by
    have := joinTail_len sep r
    unfold Lib.joinTail at this ⊢
    rw [List.map_cons, List.flatten_cons, List.length_append, this, List.length_append, List.map_cons, List.sum_cons]
theorem join_len (l : List Bytes) (c : UInt8) : (Lib.join l [c]).length ≤ (l.map fun t => 1 + t.length).sum := by
  cases l with
  | nil => simp [Lib.join_nil]
  | cons x r =>
    rw [Lib.join_cons, List.length_append, joinTail_len, List.map_cons, List.sum_cons]
    simp only [List.length_cons, List.length_nil, Nat.zero_add]
    omega

theorem kids_len {f : List FNode} {x : FNode} {l : Int} : ∀ {ks : List Int} {hi h lo h2 : Nat}, kidsT (treeAt f) f x ks hi h = some (lo, h2) → (∀ k ∈ ks, ∀ p, treeAt f k.toNat = some p → (textAt f k.toNat l).length + 1 ≤ 1000 * (k.toNat + 1 - p.1)) →
    lo ≤ hi ∧ (ks.map fun k => 1 + (textAt f k.toNat l).length).sum ≤ 1000 * (hi - lo)
  | [], hi, h, lo, h2, e, _ => by
    unfold kidsT at e
    injection e with e
    injection e with e1 e2
    exact ⟨by omega, by simp⟩
  | k :: r, hi, h, lo, h2, e, hr => by
    unfold kidsT at e
    split at e
    · rename_i hk
      split at e
      · cases e
      · split at e
        · cases e
        · split at e
          · cases e
          · rename_i q lo1 h1 hq
            have hl := (tree_le hq).1
            dsimp only at hl
            obtain ⟨g1, g2⟩ := kids_len e fun k' hk' => hr k' (List.mem_cons_of_mem _ hk')
            have hkt : k.toNat = hi - 1 := by omega
            have := hr k (List.mem_cons_self ..) _ (by rw [hkt]; exact hq)
            dsimp only at this
            rw [List.map_cons, List.sum_cons]
            exact ⟨by omega, by omega⟩
    · cases e

theorem sum_reverse (l : List Nat) : l.reverse.sum = l.sum := by
  induction l with
  | nil => rfl
  | cons a r ih => rw [List.reverse_cons, List.sum_append, ih, List.sum_cons, List.sum_cons, List.sum_nil]; omega

theorem text_len {f : List FNode} : ∀ (n : Nat) {p : Nat × Nat}, treeAt f n = some p → ∀ l, (textAt f n l).length + 1 ≤ 1000 * (n + 1 - p.1) := by
  intro n
  induction n using Nat.strongRecOn with
  | _ n ih =>
    intro p h l
    obtain ⟨x, hx, hok, _, hkid, hkt⟩ := tree_high h
    have hl := (tree_le h).1
    rw [textAt_eq h hx]
    have sums : ∀ l', (x.kids.map fun k => 1 + (textAt f k.toNat l').length).sum ≤ 1000 * (n - p.1) := by
      intro l'
      obtain ⟨_, g⟩ := kids_len (l := l') hkt fun k hk q hq => by
        obtain ⟨_, k1, _⟩ := hkid k (List.mem_reverse.1 hk)
        exact ih k.toNat k1 hq l'
      rw [List.map_reverse, sum_reverse] at g
      exact g
    rcases nodeOk_cases hok with ⟨e, hv, _, _⟩ | ⟨e, _⟩ | ⟨e, _⟩ | ⟨e, hk⟩ | ⟨e, _, _, hk⟩ | ⟨e, _⟩
    · rw [textOf_1 e]
      split
      · unfold quote
        have h1 := flatMap_dq_len x.2.2.1.2.2.1
        have h2 : x.2.2.1.2.2.1.length ≤ 200 := by
          rcases valueOk_cases hv with e | ⟨n, e, _⟩ | ⟨s, e, hs⟩ | e | e | ⟨n, e, _⟩ <;> rw [e]
          · exact Nat.zero_le _
          · exact Nat.zero_le _
          · have := plain_len hs; dsimp only; omega
          · exact Nat.zero_le _
          · exact Nat.zero_le _
          · exact Nat.zero_le _
        simp only [List.length_append, List.length_cons, List.length_nil]
        omega
      · have := valueText_len hv; omega
    · rw [textOf_2 e]
      have := placeText_len x.2.2.2.1; omega
    · rw [textOf_3 e]
      have h1 := placeText_len x.2.2.2.1
      have h2 := placeText_len x.2.2.2.2.1
      simp only [List.length_append, List.length_cons, List.length_nil]
      omega
    · rw [textOf_4 e]
      have := sums 5
      match x.kids, hk, this with
      | [a], _, this =>
        simp only [List.map_cons, List.map_nil, List.sum_cons, List.sum_nil, List.headD_cons, List.length_append, List.length_cons, List.length_nil] at this ⊢
        omega
    · rw [textOf_5 e]
      have s1 := sums (binds x.2.1)
      have s2 := sums (binds x.2.1 + 1)
      have h3 := opText_len x.2.1
      match hkk : x.kids, hk, hkid, hkt, s1, s2 with
      | [a, b], _, hkid, hkt, s1, s2 =>
        obtain ⟨a0, a1, qa, ha⟩ := hkid a (by simp)
        obtain ⟨b0, b1, qb, hb⟩ := hkid b (by simp)
        have la := ih a.toNat a1 ha (binds x.2.1)
        have lb := ih b.toNat b1 hb (binds x.2.1 + 1)
        have key : a.toNat + 1 - qa.1 + (b.toNat + 1 - qb.1) ≤ n - p.1 := by
          simp only [List.reverse_cons, List.reverse_nil, List.nil_append, List.cons_append] at hkt
          unfold kidsT at hkt
          split at hkt
          · rename_i c1
            split at hkt
            · cases hkt
            · split at hkt
              · cases hkt
              · rw [show n - 1 = b.toNat by omega, hb] at hkt
                dsimp only at hkt
                unfold kidsT at hkt
                split at hkt
                · rename_i c2
                  split at hkt
                  · cases hkt
                  · split at hkt
                    · cases hkt
                    · have lb2 := (tree_le hb).1
                      rw [show qb.1 - 1 = a.toNat by omega, ha] at hkt
                      dsimp only at hkt
                      unfold kidsT at hkt
                      injection hkt with hkt
                      injection hkt with hkt _
                      have la2 := (tree_le ha).1
                      omega
                · cases hkt
          · cases hkt
        dsimp only [List.headD_cons, List.tail_cons]
        split <;> simp only [List.length_append, List.length_cons, List.length_nil] <;> omega
    · rw [textOf_6 e]
      have s1 := sums 1
      have h3 := fnText_len x.2.1
      have h4 : (Lib.join (x.kids.map fun k => textAt f k.toNat 1) [44]).length ≤ (x.kids.map fun k => 1 + (textAt f k.toNat 1).length).sum := by
        have := join_len (x.kids.map fun k => textAt f k.toNat 1) 44
        rw [List.map_map] at this
        exact this
      simp only [List.length_append, List.length_cons, List.length_nil]
      omega

/-- The text of the whole; none when it is not right, or too long. -/
def formulaText (f : List FNode) : Bytes :=
  bif formulaOk f then (if (textAt f (f.length - 1) 1).length ≤ 200 then textAt f (f.length - 1) 1 else []) else []

theorem text_least {f : List FNode} {n : Nat} {p : Nat × Nat} (h : treeAt f n = some p) : textAt f n 0 = textAt f n 1 := by
  obtain ⟨x, hx, hok, _⟩ := tree_high h
  rw [textAt_eq h hx, textAt_eq h hx]
  unfold textOf
  have hb : 1 ≤ binds x.2.1 := by unfold binds; split <;> (try split) <;> (try split) <;> omega
  simp only [if_neg (show ¬ binds x.2.1 < 0 by omega), if_neg (show ¬ binds x.2.1 < 1 by omega)]

end Go.Proofs.YtmgeeanbecmkbaaGreatDoor.Den
namespace Go.Proofs.YtmgeeanbecmkbaaGreatDoor.Den
open Go
set_option linter.unusedSimpArgs false

def bl (s : Bytes) : Bytes := s.dropWhile (· == 32)
theorem bl_len : ∀ (s : Bytes), (bl s).length ≤ s.length
  | [] => Nat.le_refl _
  | c :: r => by
    unfold bl
    rw [List.dropWhile_cons]
    split
    · have := bl_len r; unfold bl at this; rw [List.length_cons]; omega
    · exact Nat.le_refl _
theorem bl_bl : ∀ (s : Bytes), bl (bl s) = bl s
  | [] => rfl
  | c :: r => by
    unfold bl
    rw [List.dropWhile_cons]
    split
    · exact bl_bl r
    · rename_i h; rw [List.dropWhile_cons, if_neg h]

def wordCh (c : UInt8) : Bool := upper c || dig c || c == 36
def wordOf (s : Bytes) : Bytes := s.takeWhile wordCh
def afterWord (s : Bytes) : Bytes := s.dropWhile wordCh
theorem word_len (s : Bytes) : (wordOf s).length + (afterWord s).length = s.length := by
  unfold wordOf afterWord
  rw [← List.length_append, List.takeWhile_append_dropWhile]

/-! Signs. -/
def signs : List Bytes := [[60, 62], [60, 61], [62, 61], [60], [62], [61], [38], [43], [45], [42], [47], [40], [41], [44], [58]]
def sgn (c : UInt8) (e1 e2 : Bool) : Bytes :=
  if c = 60 then (if e1 then [60, 62] else if e2 then [60, 61] else [60]) else if c = 62 then (if e2 then [62, 61] else [62]) else if c ∈ ([61, 38, 43, 45, 42, 47, 40, 41, 44, 58] : Bytes) then [c] else []
def signOf (s : Bytes) : Bytes := match s with | [] => [] | c :: r => sgn c (r.head? == some 62) (r.head? == some 61)
/-- Whether a text of one or two bytes begins a text, as far as the two signs behind tell. -/
def hp (c : UInt8) (e1 e2 : Bool) (p : Bytes) : Bool := match p with | [] => true | [a] => a == c | [a, b] => a == c && (if b = 62 then e1 else if b = 61 then e2 else false) | _ => false

theorem bytes_all {p : UInt8 → Bool} (h : ((List.range 256).all fun n => p (UInt8.ofNat n)) = true) (c : UInt8) : p c = true := by
  have := List.all_eq_true.1 h c.toNat (List.mem_range.2 c.toNat_lt)
  rw [UInt8.ofNat_toNat] at this
  exact this
theorem bools_all {p : Bool → Bool} (h : (p true && p false) = true) (b : Bool) : p b = true := by
  rw [Bool.and_eq_true] at h
  cases b
  · exact h.2
  · exact h.1
theorem hp_eq {c : UInt8} {r p : Bytes} (h : p ∈ signs) : Lib.hasPrefix (c :: r) p = hp c (r.head? == some 62) (r.head? == some 61) p := by
  have one : ∀ a : UInt8, Lib.hasPrefix (c :: r) [a] = (a == c) := fun a => by
    show (a == c && ([] : Bytes).isPrefixOf r) = _
    rw [List.isPrefixOf_nil_left, Bool.and_true]
  have two : ∀ a b : UInt8, Lib.hasPrefix (c :: r) [a, b] = (a == c && (r.head? == some b)) := fun a b => by
    show (a == c && ([b] : Bytes).isPrefixOf r) = _
    congr 1
    cases r with
    | nil => rfl
    | cons d r =>
      show (b == d && ([] : Bytes).isPrefixOf r) = _
      rw [List.isPrefixOf_nil_left, Bool.and_true, List.head?_cons]
      rw [Bool.eq_iff_iff, beq_iff_eq, beq_iff_eq]
      exact ⟨fun e => by rw [e], fun e => by injection e with e; exact e.symm⟩
  simp only [signs, List.mem_cons, List.not_mem_nil, or_false] at h
  rcases h with rfl | rfl | rfl | rfl | rfl | rfl | rfl | rfl | rfl | rfl | rfl | rfl | rfl | rfl | rfl <;> first | exact one _ | exact two _ _
theorem find_congr' {α : Type} {p q : α → Bool} : ∀ {l : List α}, (∀ x ∈ l, p x = q x) → l.find? p = l.find? q
  | [], _ => rfl
  | a :: l, h => by rw [List.find?_cons, List.find?_cons, h a (List.mem_cons_self ..), find_congr' fun x hx => h x (List.mem_cons_of_mem _ hx)]
def sgnB (c : UInt8) (e1 e2 : Bool) : Bool := (signs.find? (hp c e1 e2)).getD [] == sgn c e1 e2
def sgnAll (c : UInt8) : Bool := (sgnB c true true && sgnB c true false) && (sgnB c false true && sgnB c false false)
theorem sgnAll_v : ((List.range 256).all fun n => sgnAll (UInt8.ofNat n)) = true := by kernel_rfl
theorem sgn_find (c : UInt8) (e1 e2 : Bool) : (signs.find? (hp c e1 e2)).getD [] = sgn c e1 e2 := by
  have k1 := bytes_all (p := sgnAll) sgnAll_v c
  have k2 : sgnB c e1 e2 = true := by
    unfold sgnAll at k1
    simp only [Bool.and_eq_true] at k1
    obtain ⟨⟨a, b⟩, c', d⟩ := k1
    cases e1 <;> cases e2 <;> assumption
  exact beq_iff_eq.1 k2
/-- The first of the signs, the longest ones first, that begins a text. -/
theorem signOf_find (s : Bytes) : (signs.find? fun p => Lib.hasPrefix s p).getD [] = signOf s := by
  cases s with
  | nil => rfl
  | cons c r => rw [find_congr' fun p hp => hp_eq hp, sgn_find]; rfl
theorem signOf_prefix (s : Bytes) : Lib.hasPrefix s (signOf s) = true := by
  rw [← signOf_find]
  cases h : signs.find? fun p => Lib.hasPrefix s p with
  | none => cases s <;> rfl
  | some p => exact List.find?_some h
theorem signOf_len (s : Bytes) : (signOf s).length ≤ s.length := by
  have := signOf_prefix s
  unfold Lib.hasPrefix at this
  exact (List.isPrefixOf_iff_prefix.1 this).length_le
theorem signOf_nil : signOf [] = [] := rfl

/-- Which operation a sign is; nought when it is none. -/
def opOf (w : Bytes) : Int := (((List.range 11).find? fun k : Nat => opText ((k : Int) + 1) == w).map fun k => (k : Int) + 1).getD 0
theorem opOf_text {op : Int} (h1 : 1 ≤ op) (h2 : op ≤ 11) : opOf (opText op) = op := by
  have : op = 1 ∨ op = 2 ∨ op = 3 ∨ op = 4 ∨ op = 5 ∨ op = 6 ∨ op = 7 ∨ op = 8 ∨ op = 9 ∨ op = 10 ∨ op = 11 := by omega
  rcases this with rfl | rfl | rfl | rfl | rfl | rfl | rfl | rfl | rfl | rfl | rfl <;> rfl
theorem opOf_some {w : Bytes} : opOf w = 0 ∨ (1 ≤ opOf w ∧ opOf w ≤ 11 ∧ opText (opOf w) = w) := by
  unfold opOf
  cases h : (List.range 11).find? fun k : Nat => opText ((k : Int) + 1) == w with
  | none => exact .inl rfl
  | some k =>
    have h1 := List.find?_some h
    have h2 := List.mem_range.1 (List.mem_of_find?_eq_some h)
    exact .inr ⟨show (1 : Int) ≤ (k : Int) + 1 by omega, show (k : Int) + 1 ≤ _ by omega, beq_iff_eq.1 h1⟩
theorem opText_ne {op : Int} (h1 : 1 ≤ op) (h2 : op ≤ 11) : 1 ≤ (opText op).length := by
  have : op = 1 ∨ op = 2 ∨ op = 3 ∨ op = 4 ∨ op = 5 ∨ op = 6 ∨ op = 7 ∨ op = 8 ∨ op = 9 ∨ op = 10 ∨ op = 11 := by omega
  rcases this with rfl | rfl | rfl | rfl | rfl | rfl | rfl | rfl | rfl | rfl | rfl <;> decide
/-- Which function a name is; nought when it is none. -/
def fnNo (w : Bytes) : Int := (((List.range 10).find? fun k : Nat => fnText ((k : Int) + 1) == w).map fun k => (k : Int) + 1).getD 0
theorem fnNo_text {op : Int} (h1 : 1 ≤ op) (h2 : op ≤ 10) : fnNo (fnText op) = op := by
  have : op = 1 ∨ op = 2 ∨ op = 3 ∨ op = 4 ∨ op = 5 ∨ op = 6 ∨ op = 7 ∨ op = 8 ∨ op = 9 ∨ op = 10 := by omega
  rcases this with rfl | rfl | rfl | rfl | rfl | rfl | rfl | rfl | rfl | rfl <;> rfl
theorem fnNo_some {w : Bytes} : fnNo w = 0 ∨ (1 ≤ fnNo w ∧ fnNo w ≤ 10 ∧ fnText (fnNo w) = w) := by
  unfold fnNo
  cases h : (List.range 10).find? fun k : Nat => fnText ((k : Int) + 1) == w with
  | none => exact .inl rfl
  | some k =>
    have h1 := List.find?_some h
    have h2 := List.mem_range.1 (List.mem_of_find?_eq_some h)
    exact .inr ⟨show (1 : Int) ≤ (k : Int) + 1 by omega, show (k : Int) + 1 ≤ _ by omega, beq_iff_eq.1 h1⟩
theorem fnText_ne {op : Int} (h1 : 1 ≤ op) (h2 : op ≤ 10) : 1 ≤ (fnText op).length := by
  have : op = 1 ∨ op = 2 ∨ op = 3 ∨ op = 4 ∨ op = 5 ∨ op = 6 ∨ op = 7 ∨ op = 8 ∨ op = 9 ∨ op = 10 := by omega
  rcases this with rfl | rfl | rfl | rfl | rfl | rfl | rfl | rfl | rfl | rfl <;> decide

/-! The reader: what is left to read, and the nodes so far. -/
abbrev PSt := Bytes × List FNode
inductive Job
  | bin (least : Int)
  | un
abbrev Rec := Job → PSt → Option (Int × PSt)
def nConst (v : Value) : FNode := (1, 0, v, zP, zP, [], ())
def nCell (p : Place) : FNode := (2, 0, zV, p, zP, [], ())
def nArea (p q : Place) : FNode := (3, 0, zV, p, q, [], ())
def nNeg (k : Int) : FNode := (4, 0, zV, zP, zP, [k], ())
def nBin (op a b : Int) : FNode := (5, op, zV, zP, zP, [a, b], ())
def nCall (op : Int) (ks : List Int) : FNode := (6, op, zV, zP, zP, ks, ())
def putN (x : FNode) (st : PSt) : Option (Int × PSt) := if st.2.length < 60 then some ((st.2.length : Int), st.1, st.2 ++ [x]) else none

def quoted : Bytes → Option (Bytes × Bytes)
  | [] => none
  | [c] => if c = 34 then some ([], []) else none
  | c :: d :: r => if c = 34 then (if d = 34 then (quoted r).map fun p => (34 :: p.1, p.2) else some ([], d :: r)) else (quoted (d :: r)).map fun p => (c :: p.1, p.2)
def errAt (s : Bytes) : Option (Int × Bytes) := ((List.range 5).find? fun k : Nat => Lib.hasPrefix s (errName ((k : Int) + 1))).map fun k : Nat => ((k : Int) + 1, s.drop (errName ((k : Int) + 1)).length)

/-- Two places with a colon between; none when they are not there; nothing when the second one is not right. -/
def areaS (st : PSt) : Option (Option (Int × PSt)) :=
  match readPlace (wordOf (bl st.1)) with
  | none => none
  | some a =>
    if signOf (bl (afterWord (bl st.1))) = [58] then
      some (match readPlace (wordOf (bl ((bl (afterWord (bl st.1))).drop 1))) with
        | none => none
        | some b => putN (nArea a b) (afterWord (bl ((bl (afterWord (bl st.1))).drop 1)), st.2))
    else none
def argS (rec : Rec) (st : PSt) : Option (Int × PSt) := match areaS st with | some x => x | none => rec (.bin 1) st
def argsS (rec : Rec) : Nat → Int → List Int → PSt → Option (Int × PSt)
  | 0, _, _, _ => none
  | m + 1, op, ks, st => match argS rec st with
    | none => none
    | some (i, st1) =>
      if signOf (bl st1.1) = [44] then argsS rec m op (ks ++ [i]) ((bl st1.1).drop 1, st1.2)
      else if signOf (bl st1.1) = [41] then putN (nCall op (ks ++ [i])) ((bl st1.1).drop 1, st1.2) else none
def wordS (rec : Rec) (k : Nat) (s : Bytes) (ns : List FNode) : Option (Int × PSt) :=
  let w := wordOf s
  match readValue w with
  | some v => if v.1 = 1 ∨ v.1 = 3 then putN (nConst v) (afterWord s, ns) else none
  | none => match readPlace w with
    | some p => putN (nCell p) (afterWord s, ns)
    | none => if fnNo w = 0 then none else if signOf (bl (afterWord s)) = [40] then argsS rec k (fnNo w) [] ((bl (afterWord s)).drop 1, ns) else none
def parS (rec : Rec) (r : Bytes) (ns : List FNode) : Option (Int × PSt) :=
  match rec (.bin 1) (r, ns) with
  | none => none
  | some (i, st1) => if signOf (bl st1.1) = [41] then some (i, (bl st1.1).drop 1, st1.2) else none
def atomS (rec : Rec) (k : Nat) (s : Bytes) (ns : List FNode) : Option (Int × PSt) :=
  if s.head? = some 34 then (match quoted s.tail with
    | none => none
    | some (t, r) => putN (nConst (2, 0, t, ())) (r, ns))
  else if s.head? = some 35 then (match errAt s with
    | none => none
    | some (n, r) => putN (nConst (4, n, [], ())) (r, ns))
  else if s.head? = some 40 then parS rec s.tail ns
  else wordS rec k s ns
def unS (rec : Rec) (k : Nat) (st : PSt) : Option (Int × PSt) :=
  if (bl st.1).head? = some 45 then (match rec .un ((bl st.1).tail, st.2) with
    | none => none
    | some (i, st1) => putN (nNeg i) st1)
  else atomS rec k (bl st.1) st.2
/-- An operation and what stands behind it. -/
def opS (rec : Rec) (op left l : Int) (st : PSt) : Option (Int × PSt) :=
  match rec (.bin l) st with
  | none => none
  | some (i, st1) => putN (nBin op left i) st1
def loopS (rec : Rec) : Nat → Int → Int → PSt → Option (Int × PSt)
  | 0, _, _, _ => none
  | m + 1, least, left, st =>
    if opOf (signOf (bl st.1)) = 0 ∨ binds (opOf (signOf (bl st.1))) < least then some (left, bl st.1, st.2)
    else match opS rec (opOf (signOf (bl st.1))) left (binds (opOf (signOf (bl st.1))) + 1) ((bl st.1).drop (signOf (bl st.1)).length, st.2) with
      | none => none
      | some (i, st1) => loopS rec m least i st1
def ideal : Nat → Rec
  | 0 => fun _ _ => none
  | k + 1 => fun job st => match job with
    | .un => unS (ideal k) (k + 1) st
    | .bin least => match unS (ideal k) (k + 1) st with
      | none => none
      | some (i, st1) => loopS (ideal k) (k + 13) least i st1

/-! How a reading moves on: what is left is shorter, the nodes are more. -/
def small (x : FNode) : Prop := x.2.2.1.2.2.1.length ≤ 1000 ∧ x.kids.length ≤ 1000
structure Grow (st st1 : PSt) : Prop where
  short : st1.1.length + st1.2.length ≤ st.1.length + st.2.length
  less : st1.1.length ≤ st.1.length
  more : ∃ t, st1.2 = st.2 ++ t ∧ ∀ x ∈ t, small x
/-- .. by one byte, at least. -/
def Grow1 (a b : PSt) : Prop := Grow a b ∧ b.1.length + 1 ≤ a.1.length
theorem Grow.refl (a : PSt) : Grow a a := ⟨Nat.le_refl _, Nat.le_refl _, [], by simp, by simp⟩
theorem Grow.trans {a b c : PSt} (h : Grow a b) (g : Grow b c) : Grow a c := by
  obtain ⟨t, ht, h2⟩ := h.more
  obtain ⟨u, hu, h3⟩ := g.more
  refine ⟨Nat.le_trans g.short h.short, Nat.le_trans g.less h.less, t ++ u, by rw [hu, ht, List.append_assoc], fun x hx => ?_⟩
  rcases List.mem_append.1 hx with hx | hx
  · exact h2 x hx
  · exact h3 x hx
theorem Grow.rest {s r : Bytes} {ns : List FNode} (h : r.length ≤ s.length) : Grow (s, ns) (r, ns) := ⟨by simp only; omega, h, [], by simp, by simp⟩
theorem Grow.bl {a b : PSt} (h : Grow a b) (k : Nat) : Grow a ((bl b.1).drop k, b.2) := by
  refine h.trans ?_
  obtain ⟨s, ns⟩ := b
  refine Grow.rest ?_
  have := bl_len s
  rw [List.length_drop]
  dsimp only
  omega
theorem putN_grow {x : FNode} {a st st1 : PSt} {i : Int} (g : Grow a st) (hs : st.1.length + st.2.length + 1 ≤ a.1.length + a.2.length) (hl : st.1.length + 1 ≤ a.1.length) (hx : small x) (h : putN x st = some (i, st1)) : Grow1 a st1 := by
  unfold putN at h
  split at h
  · injection h with h
    injection h with _ h
    subst h
    obtain ⟨t, ht, h2⟩ := g.more
    refine ⟨⟨by simp only [List.length_append, List.length_cons, List.length_nil]; omega, by simp only; omega, t ++ [x], by simp only; rw [ht, List.append_assoc], fun y hy => ?_⟩, hl⟩
    rcases List.mem_append.1 hy with hy | hy
    · exact h2 y hy
    · rw [List.mem_singleton.1 hy]; exact hx
  · cases h
theorem quoted_len : ∀ {s t r : Bytes}, quoted s = some (t, r) → t.length + r.length + 1 ≤ s.length
  | [], t, r, h => by cases h
  | [c], t, r, h => by
    unfold quoted at h
    split at h
    · injection h with h; injection h with h1 h2; subst h1 h2; simp
    · cases h
  | c :: d :: l, t, r, h => by
    unfold quoted at h
    split at h
    · split at h
      · rw [Option.map_eq_some_iff] at h
        obtain ⟨⟨a, b⟩, h1, h2⟩ := h
        injection h2 with h2 h3
        subst h2 h3
        have := quoted_len h1
        simp only [List.length_cons]
        omega
      · injection h with h; injection h with h1 h2; subst h1 h2
        simp only [List.length_cons, List.length_nil]
        omega
    · rw [Option.map_eq_some_iff] at h
      obtain ⟨⟨a, b⟩, h1, h2⟩ := h
      injection h2 with h2 h3
      subst h2 h3
      have := quoted_len h1
      simp only [List.length_cons] at this ⊢
      omega
theorem errAt_len {s r : Bytes} {n : Int} (h : errAt s = some (n, r)) : 1 ≤ n ∧ n ≤ 5 ∧ r.length + 1 ≤ s.length := by
  unfold errAt at h
  rw [Option.map_eq_some_iff] at h
  obtain ⟨k, h1, h2⟩ := h
  injection h2 with h2 h3
  have hk := List.mem_range.1 (List.mem_of_find?_eq_some h1)
  have hp := List.find?_some h1
  unfold Lib.hasPrefix at hp
  have := (List.isPrefixOf_iff_prefix.1 hp).length_le
  obtain ⟨q, hq, _⟩ := errName_cases (n := k + 1) (by omega) (by omega)
  have hq' : errName ((k : Int) + 1) = 35 :: q := hq
  rw [hq'] at this h3
  simp only [List.length_cons] at this h3
  subst h2 h3
  rw [List.length_drop]
  exact ⟨by omega, by omega, by omega⟩
theorem small_const {v : Value} (h : v.2.2.1.length ≤ 1000) : small (nConst v) := ⟨h, Nat.zero_le _⟩
theorem readValue_nil : readValue [] = some (0, 0, [], ()) := rfl
theorem readPlace_nil : readPlace [] = none := by
  cases h : readPlace [] with
  | none => rfl
  | some p =>
    obtain ⟨h1, h2⟩ := readPlace_iff.1 h
    exfalso
    unfold placeText at h2
    rw [if_pos h1] at h2
    have := (colText_up (refOk_iff.1 h1).1 (refOk_iff.1 h1).2.1).2
    cases p.2.1 <;> cases p.2.2.1 <;> simp_all
theorem word_pos {w : Bytes} (h : w ≠ []) : 1 ≤ w.length := by
  cases w with
  | nil => exact absurd rfl h
  | cons c r => simp
theorem readValue_small {w : Bytes} {v : Value} (h : readValue w = some v) : v.2.2.1.length ≤ 200 := by
  rcases valueOk_cases (readValue_iff.1 h).1 with rfl | ⟨n, rfl, _⟩ | ⟨s, rfl, hs⟩ | rfl | rfl | ⟨n, rfl, _⟩
  · exact Nat.zero_le _
  · exact Nat.zero_le _
  · have := plain_len hs; dsimp only; omega
  · exact Nat.zero_le _
  · exact Nat.zero_le _
  · exact Nat.zero_le _


theorem areaS_grow {st st1 : PSt} {i : Int} (h : areaS st = some (some (i, st1))) : Grow1 st st1 := by
  obtain ⟨s, ns⟩ := st
  unfold areaS at h
  dsimp only at h
  split at h
  · cases h
  · rename_i a ha
    split at h
    · rename_i hc
      injection h with h
      split at h
      · cases h
      · rename_i b hb
        have w1 := word_len (bl s)
        have w2 := word_len (bl ((bl (afterWord (bl s))).drop 1))
        have b1 := bl_len s
        have b2 := bl_len (afterWord (bl s))
        have b3 := bl_len ((bl (afterWord (bl s))).drop 1)
        rw [List.length_drop] at b3
        have p1 : 1 ≤ (wordOf (bl s)).length := word_pos fun e => by rw [e, readPlace_nil] at ha; cases ha
        exact putN_grow (Grow.rest (by omega)) (by dsimp only; omega) (by dsimp only; omega) ⟨Nat.zero_le _, Nat.zero_le _⟩ h
    · cases h
theorem argS_grow {rec : Rec} (hR : ∀ job st i st1, st.1.length ≤ 400 → rec job st = some (i, st1) → Grow1 st st1) {st st1 : PSt} {i : Int} (hs : st.1.length ≤ 400) (h : argS rec st = some (i, st1)) : Grow1 st st1 := by
  unfold argS at h
  split at h
  · rename_i x hx
    subst h
    exact areaS_grow hx
  · exact hR _ _ _ _ hs h
theorem argsS_grow {rec : Rec} (hR : ∀ job st i st1, st.1.length ≤ 400 → rec job st = some (i, st1) → Grow1 st st1) : ∀ {m : Nat} {op : Int} {ks : List Int} {st st1 : PSt} {i : Int}, st.1.length ≤ 400 → ks.length + st.1.length ≤ 900 → argsS rec m op ks st = some (i, st1) → Grow1 st st1
  | 0, _, _, _, _, _, _, _, h => by cases h
  | m + 1, op, ks, st, st1, i, hs, hk, h => by
    unfold argsS at h
    split at h
    · cases h
    · rename_i j st2 he
      obtain ⟨g, g1⟩ := argS_grow hR hs he
      have b1 := bl_len st2.1
      split at h
      · rename_i hc
        have hl : 1 ≤ (bl st2.1).length := by
          cases hb : bl st2.1 with
          | nil => rw [hb] at hc; cases hc
          | cons c r => simp
        obtain ⟨h1, h2⟩ := argsS_grow hR (m := m) (by dsimp only; rw [List.length_drop]; omega) (by simp only [List.length_append, List.length_cons, List.length_nil, List.length_drop]; omega) h
        exact ⟨(g.bl 1).trans h1, by dsimp only at h2; rw [List.length_drop] at h2; omega⟩
      · split at h
        · rename_i hc
          have hl : 1 ≤ (bl st2.1).length := by
            cases hb : bl st2.1 with
            | nil => rw [hb] at hc; cases hc
            | cons c r => simp
          have := g.short
          exact putN_grow (g.bl 1) (by simp only [List.length_drop]; omega) (by simp only [List.length_drop]; omega) ⟨Nat.zero_le _, show (ks ++ [j]).length ≤ 1000 by simp only [List.length_append, List.length_cons, List.length_nil]; omega⟩ h
        · cases h
theorem wordS_grow {rec : Rec} (hR : ∀ job st i st1, st.1.length ≤ 400 → rec job st = some (i, st1) → Grow1 st st1) {k : Nat} {s : Bytes} {ns : List FNode} {st1 : PSt} {i : Int} (hs : s.length ≤ 400) (h : wordS rec k s ns = some (i, st1)) : Grow1 (s, ns) st1 := by
  unfold wordS at h
  have w1 := word_len s
  dsimp only at h
  split at h
  · rename_i v hv
    split at h
    · rename_i hk
      have p1 : 1 ≤ (wordOf s).length := word_pos fun e => by
        rw [e, readValue_nil] at hv; injection hv with hv; subst hv; simp at hk
      have := readValue_small hv
      exact putN_grow (Grow.rest (by omega)) (by dsimp only; omega) (by dsimp only; omega) (small_const (by omega)) h
    · cases h
  · split at h
    · rename_i p hp
      have p1 : 1 ≤ (wordOf s).length := word_pos fun e => by rw [e, readPlace_nil] at hp; cases hp
      exact putN_grow (Grow.rest (by omega)) (by dsimp only; omega) (by dsimp only; omega) ⟨Nat.zero_le _, Nat.zero_le _⟩ h
    · split at h
      · cases h
      · split at h
        · have b1 := bl_len (afterWord s)
          obtain ⟨h1, h2⟩ := argsS_grow hR (by dsimp only; rw [List.length_drop]; omega) (by simp only [List.length_nil, List.length_drop]; omega) h
          rename_i hf hc
          have hl : 1 ≤ (bl (afterWord s)).length := by
            cases hb : bl (afterWord s) with
            | nil => rw [hb] at hc; cases hc
            | cons c r => simp
          simp only [List.length_drop] at h2
          exact ⟨(Grow.rest (s := s) (by rw [List.length_drop]; omega)).trans h1, by dsimp only; omega⟩
        · cases h
theorem tail_len {s : Bytes} {c : UInt8} (h : s.head? = some c) : s.tail.length + 1 = s.length := by
  cases s with
  | nil => cases h
  | cons d r => rfl
theorem parS_grow {rec : Rec} (hR : ∀ job st i st1, st.1.length ≤ 400 → rec job st = some (i, st1) → Grow1 st st1) {s : Bytes} {ns : List FNode} {st1 : PSt} {i : Int} {c : UInt8} (hc : s.head? = some c) (hs : s.length ≤ 400) (h : parS rec s.tail ns = some (i, st1)) : Grow1 (s, ns) st1 := by
  unfold parS at h
  have hl := tail_len hc
  split at h
  · cases h
  · rename_i j st2 he
    obtain ⟨g, g1⟩ := hR _ _ _ _ (by dsimp only; omega) he
    split at h
    · injection h with h
      injection h with _ h
      subst h
      have b1 := bl_len st2.1
      dsimp only at g1
      exact ⟨(Grow.rest (s := s) (by omega)).trans (g.bl 1), by simp only [List.length_drop]; omega⟩
    · cases h
theorem atomS_grow {rec : Rec} (hR : ∀ job st i st1, st.1.length ≤ 400 → rec job st = some (i, st1) → Grow1 st st1) {k : Nat} {s : Bytes} {ns : List FNode} {st1 : PSt} {i : Int} (hs : s.length ≤ 400) (h : atomS rec k s ns = some (i, st1)) : Grow1 (s, ns) st1 := by
  unfold atomS at h
  split at h
  · rename_i hc
    have hl := tail_len hc
    split at h
    · cases h
    · rename_i t r hq
      have := quoted_len hq
      exact putN_grow (Grow.rest (by omega)) (by dsimp only; omega) (by dsimp only; omega) (small_const (by dsimp only; omega)) h
  · split at h
    · split at h
      · cases h
      · rename_i n r hq
        have := errAt_len hq
        exact putN_grow (Grow.rest (by omega)) (by dsimp only; omega) (by dsimp only; omega) (small_const (Nat.zero_le _)) h
    · split at h
      · rename_i hc
        exact parS_grow hR hc hs h
      · exact wordS_grow hR hs h
theorem unS_grow {rec : Rec} (hR : ∀ job st i st1, st.1.length ≤ 400 → rec job st = some (i, st1) → Grow1 st st1) {k : Nat} {st st1 : PSt} {i : Int} (hs : st.1.length ≤ 400) (h : unS rec k st = some (i, st1)) : Grow1 st st1 := by
  unfold unS at h
  have b1 := bl_len st.1
  obtain ⟨s, ns⟩ := st
  dsimp only at *
  split at h
  · rename_i hc
    have hl := tail_len hc
    split at h
    · cases h
    · rename_i j st2 he
      obtain ⟨g, g1⟩ := hR _ _ _ _ (by dsimp only; omega) he
      have := g.short
      dsimp only at this g1
      exact putN_grow ((Grow.rest (s := s) (by omega)).trans g) (by dsimp only; omega) (by dsimp only; omega) ⟨Nat.zero_le _, by show 1 ≤ 1000; omega⟩ h
  · obtain ⟨h1, h2⟩ := atomS_grow hR (by omega) h
    dsimp only at h2
    exact ⟨(Grow.rest (s := s) b1).trans h1, by dsimp only; omega⟩
theorem opS_grow {rec : Rec} (hR : ∀ job st i st1, st.1.length ≤ 400 → rec job st = some (i, st1) → Grow1 st st1) {op left l : Int} {st st1 : PSt} {i : Int} {s : Bytes} (hs : s.length ≤ 400) (h1 : st.1.length + 1 ≤ s.length) (h : opS rec op left l st = some (i, st1)) : Grow1 (s, st.2) st1 := by
  unfold opS at h
  split at h
  · cases h
  · rename_i j st2 he
    obtain ⟨g, g1⟩ := hR _ _ _ _ (by omega) he
    have := g.short
    obtain ⟨r, ns⟩ := st
    dsimp only at *
    exact putN_grow ((Grow.rest (s := s) (by omega)).trans g) (by dsimp only; omega) (by dsimp only; omega) ⟨Nat.zero_le _, by show 2 ≤ 1000; omega⟩ h
theorem op_drop {s : Bytes} (h : ¬ opOf (signOf s) = 0) : (s.drop (signOf s).length).length + 1 ≤ s.length := by
  rcases opOf_some (w := signOf s) with e | ⟨e1, e2, e3⟩
  · exact absurd e h
  · have := opText_ne e1 e2
    have := signOf_len s
    rw [e3] at *
    rw [List.length_drop]
    omega
theorem loopS_grow {rec : Rec} (hR : ∀ job st i st1, st.1.length ≤ 400 → rec job st = some (i, st1) → Grow1 st st1) : ∀ {m : Nat} {least left : Int} {st st1 : PSt} {i : Int}, st.1.length ≤ 400 → loopS rec m least left st = some (i, st1) → Grow st st1
  | 0, _, _, _, _, _, _, h => by cases h
  | m + 1, least, left, st, st1, i, hs, h => by
    unfold loopS at h
    have b1 := bl_len st.1
    split at h
    · injection h with h
      injection h with _ h
      subst h
      exact (Grow.refl st).bl 0
    · rename_i hn
      split at h
      · cases h
      · rename_i j st2 he
        have hd := op_drop (s := bl st.1) (fun e => hn (.inl e))
        obtain ⟨g, g1⟩ := opS_grow hR (s := bl st.1) (by omega) hd he
        refine Grow.trans ?_ (loopS_grow hR (m := m) (by dsimp only at g1; omega) h)
        exact (show Grow st (bl st.1, st.2) from (Grow.refl st).bl 0).trans g
theorem ideal_grow : ∀ (k : Nat) (job : Job) (st : PSt) (i : Int) (st1 : PSt), st.1.length ≤ 400 → ideal k job st = some (i, st1) → Grow1 st st1
  | 0, _, _, _, _, _, h => by cases h
  | k + 1, .un, st, i, st1, hs, h => unS_grow (ideal_grow k) hs h
  | k + 1, .bin least, st, i, st1, hs, h => by
    unfold ideal at h
    dsimp only at h
    split at h
    · cases h
    · rename_i j st2 he
      obtain ⟨g, g1⟩ := unS_grow (ideal_grow k) hs he
      have h2 := loopS_grow (ideal_grow k) (by omega) h
      exact ⟨g.trans h2, by have := h2.less; omega⟩

/-! Rows of operations of one level each. -/
def rowS (rec : Rec) : Nat → Int → Int → PSt → Option (Int × PSt)
  | 0, _, _, _ => none
  | m + 1, level, left, st =>
    if opOf (signOf (bl st.1)) = 0 ∨ binds (opOf (signOf (bl st.1))) ≠ level then some (left, bl st.1, st.2)
    else match opS rec (opOf (signOf (bl st.1))) left (level + 1) ((bl st.1).drop (signOf (bl st.1)).length, st.2) with
      | none => none
      | some (i, st1) => rowS rec m level i st1
/-- What ends a row of at least so much. -/
def Stopped (l : Int) (s : Bytes) : Prop := bl s = s ∧ (opOf (signOf s) = 0 ∨ binds (opOf (signOf s)) < l)
theorem loopS_stopped {rec : Rec} : ∀ {m : Nat} {l left : Int} {st st1 : PSt} {i : Int}, loopS rec m l left st = some (i, st1) → Stopped l st1.1
  | 0, _, _, _, _, _, h => by cases h
  | m + 1, l, left, st, st1, i, h => by
    unfold loopS at h
    split at h
    · rename_i hn
      injection h with h
      injection h with _ h
      subst h
      exact ⟨bl_bl _, hn⟩
    · split at h
      · cases h
      · exact loopS_stopped h
theorem ideal_stopped {k : Nat} {l : Int} {st st1 : PSt} {i : Int} (h : ideal k (.bin l) st = some (i, st1)) : Stopped l st1.1 := by
  cases k with
  | zero => cases h
  | succ k =>
    unfold ideal at h
    dsimp only at h
    split at h
    · cases h
    · exact loopS_stopped h
theorem putN_rest {x : FNode} {st st1 : PSt} {i : Int} (h : putN x st = some (i, st1)) : st1.1 = st.1 := by
  unfold putN at h
  split at h
  · injection h with h; injection h with _ h; subst h; rfl
  · cases h
theorem loopS_stop {rec : Rec} {m : Nat} {l left : Int} {st : PSt} (hm : 0 < m) (h : Stopped l (bl st.1)) : loopS rec m l left st = some (left, bl st.1, st.2) := by
  obtain ⟨m, rfl⟩ : ∃ n, m = n + 1 := ⟨m - 1, by omega⟩
  unfold loopS
  rw [if_pos h.2]
/-- A row of at least so much: the rows of more, then the row of just so much. -/
theorem loop_row {rec : Rec} (hR : ∀ job st i st1, st.1.length ≤ 400 → rec job st = some (i, st1) → Grow1 st st1) (hS : ∀ l st i st1, rec (.bin l) st = some (i, st1) → Stopped l st1.1) (l : Int) :
    ∀ (n : Nat) (m1 m2 m3 : Nat) (left : Int) (st : PSt), st.1.length ≤ 400 → st.1.length = n → n < m1 → n < m2 → n < m3 → loopS rec m1 l left st = (loopS rec m2 (l + 1) left st).bind fun p => rowS rec m3 l p.1 p.2 := by
  intro n
  induction n using Nat.strongRecOn with
  | _ n ih =>
    intro m1 m2 m3 left st hs hn h1 h2 h3
    obtain ⟨m1, rfl⟩ : ∃ n, m1 = n + 1 := ⟨m1 - 1, by omega⟩
    obtain ⟨m2, rfl⟩ : ∃ n, m2 = n + 1 := ⟨m2 - 1, by omega⟩
    obtain ⟨m3, rfl⟩ : ∃ n, m3 = n + 1 := ⟨m3 - 1, by omega⟩
    have b1 := bl_len st.1
    unfold loopS
    by_cases hop : opOf (signOf (bl st.1)) = 0
    · rw [if_pos (.inl hop), if_pos (.inl hop)]
      show _ = rowS rec (m3 + 1) l left (bl st.1, st.2)
      unfold rowS
      rw [bl_bl, if_pos (.inl hop)]
    · have hd := op_drop (s := bl st.1) hop
      by_cases hb : binds (opOf (signOf (bl st.1))) < l
      · rw [if_pos (.inr hb), if_pos (.inr (by omega))]
        show _ = rowS rec (m3 + 1) l left (bl st.1, st.2)
        unfold rowS
        rw [bl_bl, if_pos (.inr (by omega))]
      · rw [if_neg (fun e => e.elim hop hb)]
        by_cases hb2 : binds (opOf (signOf (bl st.1))) = l
        · rw [if_pos (.inr (by omega))]
          show _ = rowS rec (m3 + 1) l left (bl st.1, st.2)
          unfold rowS
          rw [bl_bl, if_neg (fun e => e.elim hop (fun e => e hb2)), hb2]
          dsimp only
          cases he : opS rec (opOf (signOf (bl st.1))) left (l + 1) ((bl st.1).drop (signOf (bl st.1)).length, st.2) with
          | none => rfl
          | some p =>
            obtain ⟨i, st1⟩ := p
            obtain ⟨g, g1⟩ := opS_grow hR (s := bl st.1) (by omega) hd he
            dsimp only at g1 ⊢
            rw [ih st1.1.length (by omega) m1 (st1.1.length + 1) m3 i st1 (by omega) rfl (by omega) (by omega) (by omega)]
            have hst : Stopped (l + 1) st1.1 := by
              unfold opS at he
              split at he
              · cases he
              · rename_i j st2 h2
                rw [putN_rest he]
                exact hS _ _ _ _ h2
            rw [loopS_stop (by omega) (by rw [hst.1]; exact hst)]
            show rowS rec m3 l i (bl st1.1, st1.2) = rowS rec m3 l i st1
            rw [hst.1]
        · rw [if_neg (fun e => e.elim hop (by omega))]
          cases he : opS rec (opOf (signOf (bl st.1))) left (binds (opOf (signOf (bl st.1))) + 1) ((bl st.1).drop (signOf (bl st.1)).length, st.2) with
          | none => rfl
          | some p =>
            obtain ⟨i, st1⟩ := p
            obtain ⟨g, g1⟩ := opS_grow hR (s := bl st.1) (by omega) hd he
            dsimp only at g1 ⊢
            exact ih st1.1.length (by omega) m1 m2 (m3 + 1) i st1 (by omega) rfl (by omega) (by omega) (by omega)

theorem ideal_small {k : Nat} {job : Job} {s : Bytes} {i : Int} {st1 : PSt} (hs : s.length ≤ 400) (h : ideal k job (s, []) = some (i, st1)) : st1.2.length ≤ s.length ∧ ∀ x ∈ st1.2, small x := by
  obtain ⟨g, _⟩ := ideal_grow _ _ _ _ _ hs h
  obtain ⟨t, ht, h2⟩ := g.more
  have := g.short
  simp only [List.length_nil, List.nil_append] at this ht
  exact ⟨by omega, by rw [ht]; exact h2⟩

/-- The formula of a text. -/
def readFormula (s : Bytes) : Option (List FNode) :=
  if plainB s 200 = true then (match ideal (s.length + 1) (.bin 1) (s, []) with
    | none => none
    | some (_, r, ns) => if bl r = [] ∧ formulaOk ns = true then some ns else none)
  else none

end Go.Proofs.YtmgeeanbecmkbaaGreatDoor.Den
namespace Go.Proofs.YtmgeeanbecmkbaaGreatDoor.Den
open Go
set_option linter.unusedSimpArgs false

def minus (s : Bytes) : Bool := s.head? == some 45
def unminus (s : Bytes) : Bytes := if minus s = true then s.tail else s
/-- The number that is typed: digits, perhaps with a minus ahead, within bounds. -/
def typedN (s : Bytes) : Option Int :=
  if unminus s ≠ [] ∧ (unminus s).all dig = true ∧ numOf 0 (unminus s) ≤ 1000000000000000 then some (if minus s = true then -(numOf 0 (unminus s) : Int) else (numOf 0 (unminus s) : Int)) else none

theorem typed_cases (s : Bytes) : (minus s = true ∧ s = 45 :: unminus s) ∨ (minus s = false ∧ unminus s = s ∧ ∀ c r, s = c :: r → c ≠ 45) := by
  unfold unminus minus
  cases s with
  | nil => exact .inr ⟨rfl, rfl, fun c r h => by cases h⟩
  | cons c r =>
    by_cases h : c = 45
    · subst h; exact .inl ⟨rfl, rfl⟩
    · have : ((c :: r : Bytes).head? == some 45) = false := by simpa using h
      rw [this]
      exact .inr ⟨rfl, rfl, fun d q e => by injection e with e _; rw [← e]; exact h⟩

theorem parseU_digits {t : Bytes} (h1 : t ≠ []) (h2 : t.all dig = true) : Lib.parseUintB 64 t = if numOf 0 t < 18446744073709551616 then .ok (numOf 0 t) else .range := by
  unfold Lib.parseUintB
  rw [if_neg h1]
  have := parse_digits t 0 h2 (by decide)
  split
  · rename_i h; exact this.1 h
  · rename_i h; exact this.2 h
theorem valueOk_n {n : Int} : valueOk (1, n, [], ()) = true ↔ -1000000000000000 ≤ n ∧ n ≤ 1000000000000000 := ⟨int_valueOk, fun h => valueOk_int h.1 h.2⟩

theorem typed_parsed (s : Bytes) : typedN s = if (parsed s).2 = true ∧ (unminus s ≠ [] ∧ (unminus s).all dig = true) ∧ valueOk (1, (parsed s).1, [], ()) = true then some (parsed s).1 else none := by
  unfold typedN
  by_cases hd : unminus s ≠ [] ∧ (unminus s).all dig = true
  · have hu := parseU_digits hd.1 hd.2
    have hp : Lib.parseIntB 64 s = (match (if numOf 0 (unminus s) < 18446744073709551616 then Lib.NumEnd.ok (numOf 0 (unminus s)) else .range) with
        | .syntax => .syntax
        | .range => .range
        | .ok u => if ¬ minus s = true ∧ 9223372036854775808 ≤ u then .range else if minus s = true ∧ 9223372036854775808 < u then .range else .ok (if minus s = true then -(u : Int) else u)) := by
      rw [← hu]
      rcases typed_cases s with ⟨h1, h2⟩ | ⟨h1, h2, h3⟩
      · rw [h1]
        conv => lhs; rw [h2]
        unfold Lib.parseIntB
        simp only [show (45 : UInt8).toNat = 45 from rfl, or_true, if_true]
        cases Lib.parseUintB 64 (unminus s) <;> rfl
      · rw [h1, h2]
        cases s with
        | nil => exact absurd h2 (by rw [h2] at hd; exact absurd rfl hd.1)
        | cons c r =>
          have hc := h3 c r rfl
          have hdg : dig c = true := by
            have := hd.2
            rw [h2, List.all_cons, Bool.and_eq_true] at this
            exact this.1
          have hdg := dig_iff.1 hdg
          unfold Lib.parseIntB
          dsimp only
          rw [if_neg (by omega)]
          match Lib.parseUintB 64 (c :: r) with
          | .ok u =>
            dsimp only
            have : ¬ c.toNat = 45 := by omega
            simp only [this, not_false_eq_true, true_and, false_and, if_false, Bool.false_eq_true]
          | .syntax => rfl
          | .range => rfl
    by_cases hn : numOf 0 (unminus s) ≤ 1000000000000000
    · rw [if_pos ⟨hd.1, hd.2, hn⟩]
      rw [if_pos (by omega)] at hp
      dsimp only at hp
      rw [if_neg (by omega), if_neg (by omega)] at hp
      have hpar : parsed s = ((if minus s = true then -(numOf 0 (unminus s) : Int) else (numOf 0 (unminus s) : Int)), true) := by unfold parsed; rw [hp]
      have hb : -1000000000000000 ≤ (if minus s = true then -(numOf 0 (unminus s) : Int) else (numOf 0 (unminus s) : Int)) ∧ (if minus s = true then -(numOf 0 (unminus s) : Int) else (numOf 0 (unminus s) : Int)) ≤ 1000000000000000 := by split <;> omega
      generalize (if minus s = true then -(numOf 0 (unminus s) : Int) else (numOf 0 (unminus s) : Int)) = v at *
      rw [hpar, if_pos ⟨rfl, hd, valueOk_n.2 hb⟩]
    · rw [if_neg (fun e => hn e.2.2), if_neg]
      rintro ⟨h1, _, h3⟩
      have h3 := valueOk_n.1 h3
      unfold parsed at h1 h3
      rw [hp] at h1 h3
      split at h1
      · rename_i v hv
        rw [hv] at h3
        dsimp only at h3
        split at hv
        · cases hv
        · cases hv
        · rename_i u hu
          split at hv
          · cases hv
          · split at hv
            · cases hv
            · injection hv with hv
              split at hu
              · injection hu with hu
                subst hu hv
                split at h3 <;> omega
              · cases hu
      · cases h1
      · cases h1
  · rw [if_neg (fun e => hd ⟨e.1, e.2.1⟩), if_neg (fun e => hd e.2.1)]

/-- Noughts ahead of a number. -/
def strip : Bytes → Bytes
  | [] => []
  | [c] => [c]
  | c :: d :: r => if c = 48 then strip (d :: r) else c :: d :: r
theorem strip_all : ∀ s : Bytes, (strip s).all dig = s.all dig
  | [] => rfl
  | [c] => rfl
  | c :: d :: r => by
    unfold strip
    split
    · rename_i h; rw [strip_all (d :: r), List.all_cons (a := c), h]; rfl
    · rfl
theorem strip_num : ∀ s : Bytes, numOf 0 (strip s) = numOf 0 s
  | [] => rfl
  | [c] => rfl
  | c :: d :: r => by
    unfold strip
    split
    · rename_i h; rw [strip_num (d :: r), h]; rfl
    · rfl
theorem strip_ne : ∀ {s : Bytes}, s ≠ [] → strip s ≠ []
  | [], h => h
  | [c], _ => by simp [strip]
  | c :: d :: r, _ => by
    unfold strip
    split
    · exact strip_ne (by simp)
    · simp
theorem strip_head : ∀ {s : Bytes}, (strip s).head? = some 48 → (strip s).length = 1
  | [], h => by cases h
  | [c], _ => rfl
  | c :: d :: r, h => by
    unfold strip at h ⊢
    split at h
    · rename_i hc
      rw [if_pos hc]
      exact strip_head h
    · rename_i hc
      simp at h
      exact absurd h hc
theorem strip_len : ∀ (s : Bytes), (strip s).length ≤ s.length
  | [] => Nat.le_refl _
  | [c] => Nat.le_refl _
  | c :: d :: r => by
    unfold strip
    split
    · have := strip_len (d :: r); rw [List.length_cons (a := c)]; omega
    · exact Nat.le_refl _
theorem read_strip {t : Bytes} (ht : t ≠ []) : readDec (strip t) 16 = if t.all dig = true ∧ (strip t).length ≤ 16 then some (numOf 0 t) else none := by
  split
  · rename_i h
    rw [readDec_iff]
    have := decN_of _ (strip t) rfl (by rw [strip_all]; exact h.1) (strip_ne ht) strip_head
    rw [strip_num] at this
    exact ⟨this.symm, h.2⟩
  · rename_i h
    cases hr : readDec (strip t) 16 with
    | none => rfl
    | some n =>
      obtain ⟨h1, h2⟩ := readDec_iff.1 hr
      refine absurd ⟨?_, h2⟩ h
      rw [← strip_all, h1]
      exact (decN_num n).2.1
theorem strip_big {t : Bytes} (ht : t ≠ []) (h1 : t.all dig = true) (h2 : ¬ (strip t).length ≤ 16) : 10000000000000000 ≤ numOf 0 t := by
  rw [← strip_num]
  cases hs : strip t with
  | nil => exact absurd hs (strip_ne ht)
  | cons c r =>
    rw [hs] at h2
    simp only [List.length_cons] at h2
    have hall : (strip t).all dig = true := by rw [strip_all]; exact h1
    rw [hs, List.all_cons, Bool.and_eq_true] at hall
    have hd := dig_iff.1 hall.1
    have h48 : c.toNat ≠ 48 := fun e => by
      have hc : c = 48 := (u8_eq (by decide)).1 e
      have := strip_head (s := t) (by rw [hs, hc]; rfl)
      rw [hs, List.length_cons] at this
      omega
    have := numOf_ge r (0 * 10 + (c.toNat % 48))
    rw [numOf_cons]
    refine Nat.le_trans ?_ this
    have h16 : 10 ^ 16 ≤ 10 ^ r.length := Nat.pow_le_pow_right (by decide) (by omega)
    refine Nat.le_trans ?_ (Nat.mul_le_mul (show 1 ≤ 0 * 10 + c.toNat % 48 by omega) h16)
    decide

/-- The source of what is typed. -/
def inputOf (text : Bytes) : Option Bytes :=
  if plainB text 200 = true then
    if text = [] then some []
    else if text.head? = some 61 then (match readFormula text.tail with
      | none => none
      | some f => if formulaText f = [] ∨ 200 ≤ (formulaText f).length then none else some (61 :: formulaText f))
    else match typedN text with
      | some n => some (dec n)
      | none => match readValue text with
        | some _ => some text
        | none => if text.length = 200 then none else some (39 :: text)
  else none

end Go.Proofs.YtmgeeanbecmkbaaGreatDoor.Den
namespace Go.Proofs.YtmgeeanbecmkbaaGreatDoor.Den
open Go
set_option linter.unusedSimpArgs false

def source (s : Bytes) : Bool := decide (inputOf s = some s)
def written (s : Bytes) : Bool := source (61 :: s)
def noRef (r : Ref) : Bool := (r.1 == 0) && ((r.2.1 == 0) && true)
def stmtOk (x : Stmt) (ahead behind : Int) : Bool :=
  bif x.1 == 1 then refOk x.2.1 && (written x.2.2.1 && (x.2.2.2.1 == 0))
  else bif x.1 == 2 then refOk x.2.1 && (source x.2.2.1 && (x.2.2.2.1 == 0))
  else bif x.1 == 3 then noRef x.2.1 && (written x.2.2.1 && inB x.2.2.2.1 1 behind)
  else bif x.1 == 4 then noRef x.2.1 && (written x.2.2.1 && inB x.2.2.2.1 1 ahead)
  else bif x.1 == 5 then noRef x.2.1 && (written x.2.2.1 && (x.2.2.2.1 == 0))
  else false
def stmtsOk (n : Nat) : Nat → List Stmt → Bool
  | _, [] => true
  | i, x :: r => stmtOk x (i : Int) ((n : Int) - 1 - (i : Int)) && stmtsOk n (i + 1) r
def macroOk (m : List Stmt) : Bool := decide (m.length ≤ 30) && stmtsOk m.length 0 m

def stmtWords : List Bytes := [[], [115, 101, 116], [112, 117, 116], [117, 110, 108, 101, 115, 115], [119, 104, 105, 108, 101], [97, 98, 111, 114, 116]]
def stmtWord (n : Int) : Bytes := (stmtWords[n.toNat]?).getD []
def stmtMid (x : Stmt) : Bytes :=
  if x.1 = 1 ∨ x.1 = 2 then placeText (x.2.1, false, false, ()) ++ [32] else if x.1 = 3 ∨ x.1 = 4 then dec x.2.2.2.1 ++ [32] else []
def stmtText (x : Stmt) : Bytes := stmtWord x.1 ++ [32] ++ stmtMid x ++ (x.2.2.1 ++ [10])
def macroText (m : List Stmt) : Bytes := m.flatMap stmtText

theorem inputOf_len {s t : Bytes} (h : inputOf s = some t) : s.length ≤ 200 := by
  unfold inputOf at h
  split at h
  · rename_i hp; have := plain_len hp; omega
  · cases h
theorem source_len {s : Bytes} (h : source s = true) : s.length ≤ 200 := inputOf_len (of_decide_eq_true h)
theorem written_len {s : Bytes} (h : written s = true) : s.length ≤ 199 := by
  have := source_len h
  rw [List.length_cons] at this
  omega
/-- What a right statement has. -/
theorem stmtOk_cases {x : Stmt} {a b : Int} (h : stmtOk x a b = true) : 1 ≤ x.1 ∧ x.1 ≤ 5 ∧ x.2.2.1.length ≤ 200 ∧ ((x.1 = 3 ∨ x.1 = 4) → 1 ≤ x.2.2.2.1 ∧ (x.2.2.2.1 ≤ a ∨ x.2.2.2.1 ≤ b)) := by
  unfold stmtOk at h
  by_cases h1 : x.1 = 1
  · rw [h1] at h ⊢
    simp only [beq_self_eq_true, cond_true, Bool.and_eq_true] at h
    have := written_len h.2.1
    exact ⟨by omega, by omega, by omega, fun e => by omega⟩
  · rw [beq_eq_false_iff_ne.2 h1, cond_false] at h
    by_cases h2 : x.1 = 2
    · rw [h2] at h ⊢
      simp only [beq_self_eq_true, cond_true, Bool.and_eq_true] at h
      have := source_len h.2.1
      exact ⟨by omega, by omega, by omega, fun e => by omega⟩
    · rw [beq_eq_false_iff_ne.2 h2, cond_false] at h
      by_cases h3 : x.1 = 3
      · rw [h3] at h ⊢
        simp only [beq_self_eq_true, cond_true, Bool.and_eq_true] at h
        have := written_len h.2.1
        have := inB_iff.1 h.2.2
        exact ⟨by omega, by omega, by omega, fun e => ⟨by omega, by omega⟩⟩
      · rw [beq_eq_false_iff_ne.2 h3, cond_false] at h
        by_cases h4 : x.1 = 4
        · rw [h4] at h ⊢
          simp only [beq_self_eq_true, cond_true, Bool.and_eq_true] at h
          have := written_len h.2.1
          have := inB_iff.1 h.2.2
          exact ⟨by omega, by omega, by omega, fun e => ⟨by omega, by omega⟩⟩
        · rw [beq_eq_false_iff_ne.2 h4, cond_false] at h
          by_cases h5 : x.1 = 5
          · rw [h5] at h ⊢
            simp only [beq_self_eq_true, cond_true, Bool.and_eq_true] at h
            have := written_len h.2.1
            exact ⟨by omega, by omega, by omega, fun e => by omega⟩
          · rw [beq_eq_false_iff_ne.2 h5, cond_false] at h; cases h

/-- Statements whose parts are short. -/
def stmtB (x : Stmt) : Prop := 1 ≤ x.1 ∧ x.1 ≤ 5 ∧ x.2.2.1.length ≤ 200 ∧ ((x.1 = 3 ∨ x.1 = 4) → 1 ≤ x.2.2.2.1 ∧ x.2.2.2.1 ≤ 30)
theorem stmtsOk_B {n : Nat} (hn : n ≤ 30) : ∀ {m : List Stmt} {i : Nat}, i + m.length ≤ n → stmtsOk n i m = true → ∀ x ∈ m, stmtB x
  | [], _, _, _, _, h => by cases h
  | y :: r, i, hi, h, x, hx => by
    unfold stmtsOk at h
    rw [Bool.and_eq_true] at h
    rw [List.length_cons] at hi
    rcases List.mem_cons.1 hx with rfl | hx
    · obtain ⟨a, b, c, d⟩ := stmtOk_cases h.1
      exact ⟨a, b, c, fun e => ⟨(d e).1, by have := (d e).2; omega⟩⟩
    · exact stmtsOk_B hn (i := i + 1) (by omega) h.2 x hx
theorem macroOk_B {m : List Stmt} (h : macroOk m = true) : m.length ≤ 30 ∧ ∀ x ∈ m, stmtB x := by
  unfold macroOk at h
  rw [Bool.and_eq_true, decide_eq_true_eq] at h
  exact ⟨h.1, stmtsOk_B h.1 (by omega) h.2⟩
theorem stmtWord_len (n : Int) : (stmtWord n).length ≤ 6 := by
  unfold stmtWord
  rcases Nat.lt_or_ge n.toNat 6 with h | h
  · have key : ((List.range 6).all fun k => decide (((stmtWords[k]?).getD []).length ≤ 6)) = true := by kernel_rfl
    exact of_decide_eq_true (List.all_eq_true.1 key _ (List.mem_range.2 h))
  · rw [List.getElem?_eq_none (by simpa [stmtWords] using h)]; simp
theorem stmtMid_len {x : Stmt} (h : stmtB x) : (stmtMid x).length ≤ 31 := by
  unfold stmtMid
  split
  · have := placeText_len (x.2.1, false, false, ())
    simp only [List.length_append, List.length_cons, List.length_nil]; omega
  · split
    · rename_i h3
      have hb := h.2.2.2 h3
      have := dec_len (n := x.2.2.2.1) (by omega) (by omega)
      simp only [List.length_append, List.length_cons, List.length_nil]; omega
    · simp
theorem stmtText_len {x : Stmt} (h : stmtB x) : (stmtText x).length ≤ 300 := by
  have h1 := stmtWord_len x.1
  have h2 := stmtMid_len h
  have h3 := h.2.2.1
  unfold stmtText
  simp only [List.length_append, List.length_cons, List.length_nil]; omega
theorem macroText_len : ∀ {m : List Stmt}, (∀ x ∈ m, stmtB x) → (macroText m).length ≤ 300 * m.length
  | [], _ => by simp [macroText]
  | x :: r, h => by
    have h1 := stmtText_len (h x (List.mem_cons_self ..))
    have h2 := macroText_len (m := r) fun y hy => h y (List.mem_cons_of_mem _ hy)
    unfold macroText at h2 ⊢
    rw [List.flatMap_cons, List.length_append, List.length_cons]
    omega

def low (c : UInt8) : Bool := decide (97 ≤ c.toNat) && decide (c.toNat ≤ 122)
def nameOk (s : Bytes) : Bool := decide (1 ≤ s.length) && (decide (s.length ≤ 12) && s.all low)
def cmdOk (c : Cmd) : Bool :=
  bif c.1 == 1 then nameOk c.2.1 && ((c.2.2.1 == []) && (inB c.2.2.2.1 1 1000000000 && macroOk c.2.2.2.2.1))
  else bif c.1 == 2 then nameOk c.2.1 && ((c.2.2.1 == []) && (inB c.2.2.2.1 1 1000000000 && ((c.2.2.2.2.1.length : Int) == 0)))
  else bif c.1 == 3 then nameOk c.2.1 && (nameOk c.2.2.1 && ((c.2.2.2.1 == 0) && ((c.2.2.2.2.1.length : Int) == 0)))
  else bif c.1 == 4 then (c.2.1 == []) && ((c.2.2.1 == []) && ((c.2.2.2.1 == 0) && ((c.2.2.2.2.1.length : Int) == 0)))
  else false
def cmdText (c : Cmd) : Bytes :=
  bif cmdOk c then
    (bif c.1 == 1 then [114, 117, 110, 32] ++ c.2.1 ++ [32] ++ dec c.2.2.2.1 ++ [10] ++ macroText c.2.2.2.2.1
    else bif c.1 == 2 then [98, 114, 97, 110, 99, 104, 32] ++ c.2.1 ++ [32] ++ dec c.2.2.2.1 ++ [10]
    else bif c.1 == 3 then [109, 101, 114, 103, 101, 32] ++ c.2.1 ++ [32] ++ c.2.2.1 ++ [10]
    else [115, 119, 101, 101, 112, 10])
  else []

end Go.Proofs.YtmgeeanbecmkbaaGreatDoor.Den
