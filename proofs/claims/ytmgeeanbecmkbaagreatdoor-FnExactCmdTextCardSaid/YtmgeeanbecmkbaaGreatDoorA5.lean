/- V9: formulas read by the program: the whole.
  V8: formulas read by the program.
  V7: the text of a formula, on both sides.
  V6: right formulas, as the program tells them: heights, the whole.
  V5: right formulas, as the program tells them.
  V4: values, read and written by the program.
  V3: places read by the program; values.
  V2: numbers and places, read and written by the program.
  V1: cells: what the program's functions answer. -/
import Derived.Test.YtmgeeanbecmkbaaGreatDoorA4
import Derived.Test.YtmgeeanbecmkbaaGreatDoorA3
import Derived.Lib.SplitLaws
namespace Go.Proofs.YtmgeeanbecmkbaaGreatDoor.Den
open Go

theorem spec_l1In_v (a b c : Int) : spec_l1In a b c = some (inB a b c, ()) := by
  refine spec_l1In.of 0 a b c _ ?_
  unfold spec_l1In.B inB
  by_cases h : b ≤ a
  · rw [bt (show a ≥ b from h), decide_eq_true h, Bool.true_and]
  · rw [bf (show ¬ a ≥ b from h), decide_eq_false h, Bool.false_and]
theorem impl_within_v (a b c : Int) : impl_within a b c = some (inB a b c, ()) := by
  refine impl_within.of 0 a b c _ ?_
  unfold impl_within.B inB
  by_cases h : b ≤ a
  · rw [bt (show a ≥ b from h), decide_eq_true h, Bool.true_and]
  · rw [bf (show ¬ a ≥ b from h), decide_eq_false h, Bool.false_and]

theorem spec_RefOk_v (r : Ref) : spec_RefOk r = some (refOk r, ()) := by
  refine spec_RefOk.of 0 r _ ?_
  unfold spec_RefOk.B refOk
  rw [spec_l1In_v, bs, spec_l1In_v, bs]
  cases inB r.1 1 52 <;> rfl
theorem impl_RefOk_v (r : Ref) : impl_RefOk r = some (refOk r, ()) := by
  refine impl_RefOk.of 0 r _ ?_
  unfold impl_RefOk.B refOk
  rw [impl_within_v, bs, impl_within_v, bs]
  cases inB r.1 1 52 <;> rfl

theorem spec_AreaOk_v (a : Area) : spec_AreaOk a = some (areaOk a, ()) := by
  refine spec_AreaOk.of 0 a _ ?_
  unfold spec_AreaOk.B areaOk
  rw [spec_RefOk_v, bs, spec_RefOk_v, bs]
  cases refOk a.1 <;> cases refOk a.2.1 <;> cases decide (a.1.1 ≤ a.2.1.1) <;> rfl
theorem impl_AreaOk_v (a : Area) : impl_AreaOk a = some (areaOk a, ()) := by
  refine impl_AreaOk.of 0 a _ ?_
  unfold impl_AreaOk.B areaOk
  rw [impl_RefOk_v, bs, impl_RefOk_v, bs]
  cases refOk a.1 <;> cases refOk a.2.1 <;> cases decide (a.1.1 ≤ a.2.1.1) <;> rfl



theorem impl_ColText_v (n : Int) : impl_ColText n = some (colText n, ()) := by
  refine impl_ColText.of 0 n _ ?_
  unfold impl_ColText.B colText
  rw [impl_within_v, bs]
  cases h : inB n 1 52
  · rfl
  · have hb := inB_iff.1 h
    rw [Bool.not_true, cond_false, if_pos rfl]
    by_cases h26 : n ≤ 26
    · rw [bt h26, if_pos h26, w64 (x := 65 + n) (by omega) (by omega), w64 (by omega) (by omega), wu8 (by omega) (by omega)]
      show some ([UInt8.ofNat (65 + n - 1).toNat], ()) = _
      rw [show (65 + n - 1).toNat = 64 + n.toNat by omega]
    · rw [bf h26, if_neg h26, w64 (x := n - 1) (by omega) (by omega), Int.tdiv_eq_ediv_of_nonneg (by omega), Int.tmod_eq_emod_of_nonneg (by omega)]
      rw [w64 (x := (n - 1) / 26) (by omega) (by omega), w64 (x := 65 + (n - 1) / 26) (by omega) (by omega), w64 (x := 65 + (n - 1) / 26 - 1) (by omega) (by omega), wu8 (by omega) (by omega), w64 (x := 65 + (n - 1) % 26) (by omega) (by omega), wu8 (by omega) (by omega)]
      show some ([UInt8.ofNat (65 + (n - 1) / 26 - 1).toNat, UInt8.ofNat (65 + (n - 1) % 26).toNat], ()) = _
      rw [show (65 + (n - 1) / 26 - 1).toNat = 64 + (n.toNat - 1) / 26 by omega, show (65 + (n - 1) % 26).toNat = 65 + (n.toNat - 1) % 26 by omega]

theorem spec_ColText_round {n : Int} {s : Bytes} {k m : Nat} (h1 : 1 ≤ n) (h2 : n ≤ 52) (hs : s.length ≤ 2) : spec_ColText.L0 k (m + 1) n s = spec_ColText.L0 k m ((n - 1) / 26) (UInt8.ofNat (65 + (n.toNat - 1) % 26) :: s) := by
  rw [spec_ColText.L0_eq, bt (by omega)]
  rw [w64 (x := n - 1) (by omega) (by omega), Int.tdiv_eq_ediv_of_nonneg (by omega), Int.tmod_eq_emod_of_nonneg (by omega)]
  rw [w64 (x := (n - 1) / 26) (by omega) (by omega), w64 (x := 65 + (n - 1) % 26) (by omega) (by omega), wu8 (by omega) (by omega)]
  rw [show ([65 + (n - 1) % 26] : List Int).map (fun n => UInt8.ofNat n.toNat) = [UInt8.ofNat (65 + (n - 1) % 26).toNat] from rfl, show (65 + (n - 1) % 26).toNat = 65 + (n.toNat - 1) % 26 by omega]
  rw [bt (by unfold scap; simp; omega)]
  rfl
theorem spec_ColText_v (n : Int) : spec_ColText n = some (colText n, ()) := by
  refine spec_ColText.of 3 n _ ?_
  unfold spec_ColText.B colText
  rw [spec_l1In_v, bs]
  cases h : inB n 1 52
  · rfl
  · have hb := inB_iff.1 h
    rw [Bool.not_true, cond_false, if_pos rfl]
    rw [spec_ColText_round hb.1 hb.2 (by simp)]
    by_cases h26 : n ≤ 26
    · rw [if_pos h26, spec_ColText.L0_eq, bf (by omega)]
      show some ([UInt8.ofNat (65 + (n.toNat - 1) % 26)], ()) = _
      rw [show 65 + (n.toNat - 1) % 26 = 64 + n.toNat by omega]
    · rw [if_neg h26, spec_ColText_round (by omega) (by omega) (by simp), spec_ColText.L0_eq, bf (by omega)]
      show some ([UInt8.ofNat (65 + (((n - 1) / 26).toNat - 1) % 26), UInt8.ofNat (65 + (n.toNat - 1) % 26)], ()) = _
      rw [show 65 + (((n - 1) / 26).toNat - 1) % 26 = 64 + (n.toNat - 1) / 26 by omega]

theorem impl_ReadCol_loop (k : Nat) (s : Bytes) : ∀ (m i : Nat), 1 ≤ i → i ≤ 53 → 53 - i < m → impl_ReadCol.L0 k m s (i : Int) = some (colFrom s (53 - i) i, ())
  | 0, i, _, _, h => by omega
  | m + 1, i, h1, h2, h3 => by
    rw [impl_ReadCol.L0_eq]
    by_cases h : i = 53
    · subst h; rfl
    · rw [bt (by omega), impl_ColText_v, bs]
      obtain ⟨j, hj⟩ : ∃ j, 53 - i = j + 1 := ⟨52 - i, by omega⟩
      rw [hj, colFrom]
      by_cases e : colText (i : Int) = s
      · rw [if_pos e, e, beq_self_eq_true]; rfl
      · rw [if_neg e, beq_eq_false_iff_ne.2 e, cond_false, w64n (by omega), impl_ReadCol_loop k s m (i + 1) (by omega) (by omega) (by omega), show 53 - (i + 1) = j by omega]
theorem impl_ReadCol_v (s : Bytes) : impl_ReadCol s = some (readCol s, ()) := impl_ReadCol.of 53 s _ (impl_ReadCol_loop 53 s 53 1 (by omega) (by omega) (by omega))
theorem spec_ReadCol_loop (k : Nat) (s : Bytes) : ∀ (m i : Nat), 1 ≤ i → i ≤ 53 → 53 - i < m → spec_ReadCol.L0 k m s (i : Int) = some (colFrom s (53 - i) i, ())
  | 0, i, _, _, h => by omega
  | m + 1, i, h1, h2, h3 => by
    rw [spec_ReadCol.L0_eq]
    by_cases h : i = 53
    · subst h; rfl
    · rw [bt (by omega), spec_ColText_v, bs]
      obtain ⟨j, hj⟩ : ∃ j, 53 - i = j + 1 := ⟨52 - i, by omega⟩
      rw [hj, colFrom]
      by_cases e : colText (i : Int) = s
      · rw [if_pos e, e, beq_self_eq_true]; rfl
      · rw [if_neg e, beq_eq_false_iff_ne.2 e, cond_false, w64n (by omega), spec_ReadCol_loop k s m (i + 1) (by omega) (by omega) (by omega), show 53 - (i + 1) = j by omega]
theorem spec_ReadCol_v (s : Bytes) : spec_ReadCol s = some (readCol s, ()) := spec_ReadCol.of 53 s _ (spec_ReadCol_loop 53 s 53 1 (by omega) (by omega) (by omega))

/-! Numbers in decimal. -/
theorem impl_decimal_v {n : Int} (h1 : -9223372036854775808 ≤ n) (h2 : n ≤ 9223372036854775807) : impl_decimal n = some (dec n, ()) := by
  refine impl_decimal.of 0 n _ ?_
  unfold impl_decimal.B
  rw [strconv_FormatInt.of n 10 (dec n, ()) (pFormatInt_eq h1 h2)]
  rfl

theorem spec_l1Dec_loop (k : Nat) : ∀ (m n : Nat) (s : Bytes), n < 9223372036854775808 → n ≤ 10 ^ m → s.length ≤ 1000 - (decN n).length → (decN n).length ≤ 1000 → spec_l1Dec.L0 k (m + 1) (n : Int) s = some (decN n ++ s, ())
  | 0, n, s, h0, h1, h2, h3 => by
    rw [spec_l1Dec.L0_eq, bf (by omega)]
    unfold spec_l1Dec.J0
    rw [w64 (by omega) (by omega), wu8 (by omega) (by omega)]
    rw [bt (by unfold scap; simp; omega)]
    rw [decN_small (by omega)]
    show some (UInt8.ofNat (48 + (n : Int)).toNat :: s, ()) = _
    rw [show (48 + (n : Int)).toNat = 48 + n by omega]; rfl
  | m + 1, n, s, h0, h1, h2, h3 => by
    rw [spec_l1Dec.L0_eq]
    by_cases h : n < 10
    · rw [bf (by omega)]
      unfold spec_l1Dec.J0
      rw [w64 (by omega) (by omega), wu8 (by omega) (by omega)]
      rw [bt (by unfold scap; simp; omega)]
      rw [decN_small (by omega)]
      show some (UInt8.ofNat (48 + (n : Int)).toNat :: s, ()) = _
      rw [show (48 + (n : Int)).toNat = 48 + n by omega]; rfl
    · rw [bt (by omega), Int.tdiv_eq_ediv_of_nonneg (by omega), Int.tmod_eq_emod_of_nonneg (by omega)]
      rw [w64 (x := 48 + (n : Int) % 10) (by omega) (by omega), wu8 (by omega) (by omega), w64 (x := (n : Int) / 10) (by omega) (by omega)]
      rw [bt (by unfold scap; simp; omega)]
      rw [decN_big h] at h2 h3 ⊢
      simp only [List.length_append, List.length_cons, List.length_nil] at h2 h3
      rw [show (n : Int) / 10 = ((n / 10 : Nat) : Int) by omega]
      rw [spec_l1Dec_loop k m (n / 10) _ (by omega) (by rw [Nat.pow_succ] at h1; omega) (by simp; omega) (by omega)]
      show some (decN (n / 10) ++ (UInt8.ofNat (48 + (n : Int) % 10).toNat :: s), ()) = _
      rw [show (48 + (n : Int) % 10).toNat = 48 + n % 10 by omega]
      simp
theorem dec_len20 {n : Nat} (h : n < 9223372036854775809) : (decN n).length ≤ 19 := decN_len (Nat.lt_of_lt_of_le h (by decide)) (by decide)
theorem spec_l1Dec_nat {n : Nat} (h : n < 9223372036854775808) : spec_l1Dec (n : Int) = some (decN n, ()) := by
  refine spec_l1Dec.of 20 (n : Int) _ ?_
  unfold spec_l1Dec.B
  rw [bf (by omega)]
  have hl := dec_len20 (n := n) (by omega)
  have := spec_l1Dec_loop 20 19 n [] h (Nat.le_trans (Nat.le_of_lt h) (by decide)) (by simp) (by omega)
  rw [List.append_nil] at this
  exact this
theorem spec_l1Dec_v {n : Int} (h1 : -9223372036854775808 < n) (h2 : n ≤ 9223372036854775807) : spec_l1Dec n = some (dec n, ()) := by
  by_cases h : n < 0
  · refine spec_l1Dec.of 0 n _ ?_
    unfold spec_l1Dec.B
    rw [bt h, w64 (by omega) (by omega)]
    obtain ⟨m, rfl⟩ : ∃ m : Nat, n = -(m : Int) := ⟨n.natAbs, by omega⟩
    rw [show (0 - -(m : Int)) = (m : Int) by omega, spec_l1Dec_nat (by omega), bs, dec_neg (by omega)]
    have hl := dec_len20 (n := m) (by omega)
    dsimp only
    rw [bt (by unfold scap; simp; omega)]
    rfl
  · obtain ⟨m, rfl⟩ : ∃ m : Nat, n = (m : Int) := ⟨n.toNat, by omega⟩
    rw [dec_nat]
    exact spec_l1Dec_nat (by omega)

end Go.Proofs.YtmgeeanbecmkbaaGreatDoor.Den
namespace Go.Proofs.YtmgeeanbecmkbaaGreatDoor.Den
open Go
set_option linter.unusedSimpArgs false

/-- A round of reading digits. -/
theorem spec_l1Int_loop (k : Nat) (s : Bytes) (hs : s.length ≤ 16) : ∀ (m i a : Nat) (r : Bytes), s.drop i = r → r.length < m → a < 10 ^ i → i ≤ 16 →
    spec_l1Int.L0 k m s (a : Int) (i : Int) = some (if r.all dig = true then (((numOf a r : Nat) : Int), true, ()) else (0, false, ()))
  | 0, i, a, r, _, h, _, _ => by omega
  | m + 1, i, a, [], h, _, _, _ => by
    have := drop_nil h
    rw [spec_l1Int.L0_eq, bf (by omega)]
    rfl
  | m + 1, i, a, c :: r, h, hm, ha, hi => by
    obtain ⟨h1, h2, h3⟩ := get_drop h
    rw [spec_l1Int.L0_eq, bt (by omega), idx_get h1]
    simp only [List.length_cons] at hm
    by_cases hc : dig c = true
    · have hd := dig_iff.1 hc
      rw [bf (by omega), idx_get h1, bf (by omega), idx_get h1]
      have h10 : 10 ^ i ≤ 10 ^ 15 := Nat.pow_le_pow_right (by decide) (by omega)
      have h15 : (10 : Nat) ^ 15 = 1000000000000000 := rfl
      rw [w64 (x := (a : Int) * 10) (by omega) (by omega), wu8 (by omega) (by omega), w64 (x := (c.toNat : Int) - 48) (by omega) (by omega), w64 (by omega) (by omega), w64n (by omega)]
      rw [show (a : Int) * 10 + ((c.toNat : Int) - 48) = ((a * 10 + c.toNat % 48 : Nat) : Int) by omega]
      rw [spec_l1Int_loop k s hs m (i + 1) _ r h2 (by omega) (by rw [Nat.pow_succ]; omega) (by omega), List.all_cons, hc, Bool.true_and, numOf_cons]
    · have hd : ¬ (48 ≤ c.toNat ∧ c.toNat ≤ 57) := fun e => hc (dig_iff.2 e)
      have hall : ¬ (List.all (c :: r) dig = true) := by rw [List.all_cons]; intro e; rw [Bool.and_eq_true] at e; exact hc e.1
      rw [if_neg hall]
      by_cases h48 : c.toNat < 48
      · rw [bt (by omega)]
      · rw [bf (by omega), idx_get h1, bt (by omega)]

theorem spec_l1Int_v {s : Bytes} {most : Nat} (hm : most ≤ 16) : spec_l1Int s (most : Int) = some (match readDec s most with | some n => ((n : Int), true, ()) | none => (0, false, ())) := by
  refine spec_l1Int.of (s.length + 1) s most _ ?_
  unfold spec_l1Int.B
  by_cases h0 : s = []
  · subst h0; rfl
  · have hl : 1 ≤ s.length := by
      cases s with
      | nil => exact absurd rfl h0
      | cons c r => simp
    rw [bf (by omega)]
    by_cases h1 : s.length ≤ most
    · rw [bf (by omega)]
      cases hs : s with
      | nil => exact absurd hs h0
      | cons c r =>
        rw [idx_head]
        have hloop := spec_l1Int_loop (s.length + 1) s (by omega) (s.length + 1) 0 0 s rfl (by omega) (by simp) (by omega)
        have hr : readDec s most = if (s.head? = some 48 → s.length = 1) ∧ s.all dig = true then some (numOf 0 s) else none := by
          unfold readDec
          by_cases h : (s.head? = some 48 → s.length = 1) ∧ s.all dig = true
          · rw [if_pos ⟨h0, h1, h⟩, if_pos h]
          · rw [if_neg (fun e => h e.2.2), if_neg h]
        rw [← hs, hr]
        have hc48 : s.head? = some 48 ↔ c.toNat = 48 := by
          rw [hs, List.head?_cons, Option.some.injEq]; exact (u8_eq (by decide)).symm
        have fin : spec_l1Int.L0 (s.length + 1) (s.length + 1) s (0 : Int) (0 : Int) = some (if s.all dig = true then (((numOf 0 s : Nat) : Int), true, ()) else (0, false, ())) := hloop
        by_cases hc : c.toNat = 48
        · rw [show (((c.toNat : Int) == 48) = true) by rw [hc]; rfl, cond_true]
          by_cases hl1 : s.length = 1
          · rw [bf (by omega), fin]
            by_cases ha : s.all dig = true
            · rw [if_pos ha, if_pos ⟨fun _ => hl1, ha⟩]
            · rw [if_neg ha, if_neg (fun e => ha e.2)]
          · rw [bt (by omega), if_neg (fun e => hl1 (e.1 (hc48.2 hc)))]
        · rw [show (((c.toNat : Int) == 48) = false) by rw [beq_eq_false_iff_ne]; omega, cond_false, fin]
          by_cases ha : s.all dig = true
          · rw [if_pos ha, if_pos ⟨fun e => absurd (hc48.1 e) hc, ha⟩]
          · rw [if_neg ha, if_neg (fun e => ha e.2)]
    · rw [bt (by omega)]
      have : readDec s most = none := by unfold readDec; rw [if_neg (fun e => h1 e.2.1)]
      rw [this]

theorem colText_len (n : Int) : (colText n).length ≤ 2 := by
  unfold colText
  split
  · split <;> simp
  · simp

theorem spec_PlaceText_v (p : Place) : spec_PlaceText p = some (placeText p, ()) := by
  refine spec_PlaceText.of 0 p _ ?_
  unfold spec_PlaceText.B placeText
  rw [spec_RefOk_v, bs]
  cases hr : refOk p.1
  · rfl
  · have hr' := refOk_iff.1 hr
    obtain ⟨m, hm⟩ : ∃ m : Nat, p.1.2.1 = m := ⟨p.1.2.1.toNat, by omega⟩
    have hl := colText_len p.1.1
    have hd := dec_len20 (n := m) (by omega)
    rw [Bool.not_true, cond_false, if_pos rfl, spec_ColText_v, bs]
    unfold spec_PlaceText.J0 spec_PlaceText.J1
    rw [hm, dec_nat, spec_l1Dec_nat (by omega)]
    cases p.2.1 <;> cases p.2.2.1
    · simp only [bs, cond_false, cond_true]
      rw [bt (by unfold scap; (try simp); omega)]
      simp
    · simp only [bs, cond_false, cond_true]
      rw [bt (by unfold scap; (try simp); omega), bt (by unfold scap; (try simp); omega)]
      simp
    · simp only [bs, cond_false, cond_true]
      rw [bt (by unfold scap; (try simp); omega), bt (by unfold scap; (try simp); omega)]
      simp
    · simp only [bs, cond_false, cond_true]
      rw [bt (by unfold scap; (try simp); omega), bt (by unfold scap; (try simp); omega), bt (by unfold scap; (try simp); omega)]
      simp

theorem impl_PlaceText_v (p : Place) : impl_PlaceText p = some (placeText p, ()) := by
  refine impl_PlaceText.of 0 p _ ?_
  unfold impl_PlaceText.B placeText
  rw [impl_RefOk_v, bs]
  cases hr : refOk p.1
  · rfl
  · have hr' := refOk_iff.1 hr
    have hl := colText_len p.1.1
    obtain ⟨m, hm⟩ : ∃ m : Nat, p.1.2.1 = m := ⟨p.1.2.1.toNat, by omega⟩
    have hd := dec_len20 (n := m) (by omega)
    rw [Bool.not_true, cond_false, if_pos rfl]
    unfold impl_PlaceText.J0 impl_PlaceText.J1
    rw [impl_ColText_v, impl_decimal_v (by omega) (by omega), hm, dec_nat]
    cases p.2.1 <;> cases p.2.2.1
    · simp only [bs, cond_false, cond_true]
      rw [bt (by unfold scap; (try simp); omega), bt (by unfold scap; (try simp); omega)]
      simp
    · simp only [bs, cond_false, cond_true]
      rw [bt (by unfold scap; (try simp); omega), bt (by unfold scap; (try simp); omega), bt (by unfold scap; (try simp); omega)]
      simp
    · simp only [bs, cond_false, cond_true]
      rw [bt (by unfold scap; (try simp); omega), bt (by unfold scap; (try simp); omega)]
      simp
    · simp only [bs, cond_false, cond_true]
      rw [bt (by unfold scap; (try simp); omega), bt (by unfold scap; (try simp); omega), bt (by unfold scap; (try simp); omega)]
      simp

/-- What the reading of a place answers. -/
def gotPlace (o : Option Place) : Place × Bool × Unit := match o with | some p => (p, true, ()) | none => (((0, 0, ()), false, false, ()), false, ())

theorem spec_ReadPlace_loop (k : Nat) (s : Bytes) (hs : s.length ≤ scap) (x2 : Ref) (x3 x4 : Bool) (x5 : Ref) (x6 x7 : Bool) : ∀ (m i : Nat) (r : Bytes), s.drop i = r → r.length < m →
    ∃ m', spec_ReadPlace.L0 k m s (i : Int) x2 x3 x4 x5 x6 x7 = spec_ReadPlace.J1 k m' s ((i + (r.takeWhile upper).length : Nat) : Int) x2 x3 x4 x5 x6 x7
  | 0, i, r, _, h => by omega
  | m + 1, i, [], h, _ => by
    have := drop_nil h
    refine ⟨m, ?_⟩
    rw [spec_ReadPlace.L0_eq, bf (by omega)]
    rfl
  | m + 1, i, c :: r, h, hm => by
    obtain ⟨h1, h2, h3⟩ := get_drop h
    simp only [List.length_cons] at hm
    rw [spec_ReadPlace.L0_eq, bt (by omega), idx_get h1]
    by_cases hc : upper c = true
    · have hd : 65 ≤ c.toNat ∧ c.toNat ≤ 90 := by unfold upper at hc; rw [Bool.and_eq_true, decide_eq_true_eq, decide_eq_true_eq] at hc; exact hc
      rw [bt (by omega), idx_get h1, bt (by omega), w64n (by unfold scap at hs; omega)]
      obtain ⟨m', e⟩ := spec_ReadPlace_loop k s hs x2 x3 x4 x5 x6 x7 m (i + 1) r h2 (by omega)
      refine ⟨m', ?_⟩
      rw [e, List.takeWhile_cons, if_pos hc, List.length_cons]
      congr 2; omega
    · have hd : ¬ (65 ≤ c.toNat ∧ c.toNat ≤ 90) := fun e => hc (by unfold upper; rw [decide_eq_true e.1, decide_eq_true e.2]; rfl)
      refine ⟨m, ?_⟩
      rw [List.takeWhile_cons, if_neg hc]
      by_cases h65 : 65 ≤ c.toNat
      · rw [bt (by omega), idx_get h1, bf (by omega)]; rfl
      · rw [bf (by omega)]; rfl

theorem takeWhile_take {p : UInt8 → Bool} : ∀ (s : Bytes), s.take (s.takeWhile p).length = s.takeWhile p ∧ s.drop (s.takeWhile p).length = s.dropWhile p ∧ (s.takeWhile p).length ≤ s.length
  | [] => ⟨rfl, rfl, Nat.le_refl _⟩
  | c :: r => by
    obtain ⟨h1, h2, h3⟩ := takeWhile_take (p := p) r
    rw [List.takeWhile_cons, List.dropWhile_cons]
    cases p c
    · exact ⟨rfl, rfl, Nat.zero_le _⟩
    · simp only [if_true, List.length_cons, List.take_succ_cons, List.drop_succ_cons]
      exact ⟨by rw [h1], h2, by omega⟩

theorem tail_drop (c : UInt8) (r : Bytes) : ((c :: r).take (c :: r).length).drop 1 = r := by simp

/-- What stands behind a $, by a cut. -/
theorem undollar_cut {Out : Type} {c : UInt8} {r : Bytes} {k : Nat → Nat → Option Out} : cutC (c :: r).length (1 : Int) ((c :: r).length : Int) k = k 1 (c :: r).length := cut_at (a := 1) (by simp) (Nat.le_refl _)

theorem spec_ReadPlace_end (k m : Nat) (t : Bytes) (x1 : Ref) (x2 x3 : Bool) (x4 : Ref) (x5 x6 : Bool) : spec_ReadPlace.J2 k m t x1 x2 x3 x4 x5 x6 = some (gotPlace (match readDec t 2 with
    | none => none
    | some n => if refOk (x1.1, (n : Int), ()) = true then some ((x1.1, (n : Int), ()), x2, x3, ()) else none)) := by
  unfold spec_ReadPlace.J2
  have := spec_l1Int_v (s := t) (most := 2) (by decide)
  rw [show ((2 : Nat) : Int) = 2 from rfl] at this
  rw [this, bs]
  cases readDec t 2 with
  | none => rfl
  | some n =>
    dsimp only
    rw [Bool.not_true, cond_false, spec_RefOk_v, bs]
    cases refOk (x1.1, (n : Int), ()) <;> rfl

theorem spec_ReadPlace_mid (k : Nat) (s : Bytes) (hs : s.length ≤ scap) (hk : s.length < k) (f : Bool) : spec_ReadPlace.J0 k s (0, 0, ()) f false (0, 0, ()) false false =
    some (gotPlace (match readDec (undollar (s.dropWhile upper)) 2 with
      | none => none
      | some n => if refOk (readCol (s.takeWhile upper), (n : Int), ()) = true then some ((readCol (s.takeWhile upper), (n : Int), ()), f, dollar (s.dropWhile upper), ()) else none)) := by
  unfold spec_ReadPlace.J0
  obtain ⟨m', e⟩ := spec_ReadPlace_loop k s hs (0, 0, ()) f false (0, 0, ()) false false k 0 s rfl hk
  obtain ⟨t1, t2, t3⟩ := takeWhile_take (p := upper) s
  rw [show ((0 : Nat) : Int) = 0 from rfl] at e
  rw [e, Nat.zero_add]
  unfold spec_ReadPlace.J1
  have h1 := cut_at (Out := Place × Bool × Unit) (n := s.length) (a := 0) (b := (s.takeWhile upper).length) (Nat.zero_le _) t3 (k := fun l6 h7 => (spec_ReadCol ((s.take h7).drop l6)).bind fun q8 => cutC s.length ((s.takeWhile upper).length : Int) (s.length : Int) fun l9 h10 => bif (decide ((((s.take h10).drop l9).length : Int) > (0 : Int))) then (idxC ((s.take h10).drop l9) (0 : Int) fun e11 => bif ((e11.toNat : Int) == (36 : Int)) then (cutC ((s.take h10).drop l9).length (1 : Int) (((s.take h10).drop l9).length : Int) fun l12 h13 => spec_ReadPlace.J2 k m' ((((s.take h10).drop l9).take h13).drop l12) (q8.1, (0 : Int), ()) f true (0, 0, ()) false false) else spec_ReadPlace.J2 k m' ((s.take h10).drop l9) (q8.1, (0 : Int), ()) f false (0, 0, ()) false false) else spec_ReadPlace.J2 k m' ((s.take h10).drop l9) (q8.1, (0 : Int), ()) f false (0, 0, ()) false false)
  refine h1.trans ?_
  rw [t1, List.drop_zero, spec_ReadCol_v, bs, cut_at t3 (Nat.le_refl _), List.take_length, t2]
  cases hd : s.dropWhile upper with
  | nil => rw [bf (by simp), spec_ReadPlace_end]; rfl
  | cons c r =>
    rw [bt (by simp), idx_head]
    by_cases hc : c = 36
    · subst hc
      rw [show (((36 : UInt8).toNat : Int) == 36) = true from rfl, cond_true, undollar_cut, tail_drop, spec_ReadPlace_end]; rfl
    · have hne : ((c.toNat : Int) == 36) = false := by
        rw [beq_eq_false_iff_ne]
        intro e2
        exact hc ((u8_eq (by decide)).1 (show c.toNat = 36 by omega))
      obtain ⟨d1, d2⟩ := undollar_other (s := c :: r) (by simpa using hc)
      rw [hne, cond_false, spec_ReadPlace_end, d1, d2]

theorem spec_ReadPlace_v {s : Bytes} (hs : s.length ≤ scap) : spec_ReadPlace s = some (gotPlace (readPlace s)) := by
  refine spec_ReadPlace.of (s.length + 1) s _ ?_
  unfold spec_ReadPlace.B readPlace
  dsimp only
  cases s with
  | nil => rw [bf (by simp), spec_ReadPlace_mid _ _ (by simp) (by simp)]; rfl
  | cons c r =>
    rw [bt (by simp), idx_head]
    by_cases hc : c = 36
    · subst hc
      simp only [List.length_cons] at hs
      rw [show (((36 : UInt8).toNat : Int) == 36) = true from rfl, cond_true, undollar_cut, tail_drop, spec_ReadPlace_mid _ _ (by omega) (by simp; omega)]; rfl
    · have hne : ((c.toNat : Int) == 36) = false := by
        rw [beq_eq_false_iff_ne]
        intro e2
        exact hc ((u8_eq (by decide)).1 (show c.toNat = 36 by omega))
      obtain ⟨d1, d2⟩ := undollar_other (s := c :: r) (by simpa using hc)
      rw [hne, cond_false, spec_ReadPlace_mid _ _ hs (by simp), d1, d2]
      rfl

end Go.Proofs.YtmgeeanbecmkbaaGreatDoor.Den
namespace Go.Proofs.YtmgeeanbecmkbaaGreatDoor.Den
open Go
set_option linter.unusedSimpArgs false

theorem upper_set0 : ((List.range 256).all fun n => (([65, 66, 67, 68, 69, 70, 71, 72, 73, 74, 75, 76, 77, 78, 79, 80, 81, 82, 83, 84, 85, 86, 87, 88, 89, 90] : List UInt8).contains (UInt8.ofNat n)) == upper (UInt8.ofNat n)) = true := by kernel_rfl
theorem upper_set (c : UInt8) : ([65, 66, 67, 68, 69, 70, 71, 72, 73, 74, 75, 76, 77, 78, 79, 80, 81, 82, 83, 84, 85, 86, 87, 88, 89, 90] : List UInt8).contains c = upper c := by
  have := List.all_eq_true.1 upper_set0 c.toNat (List.mem_range.2 c.toNat_lt)
  rw [UInt8.ofNat_toNat] at this
  exact beq_iff_eq.1 this
theorem trimLeft_upper (s : Bytes) : Lib.trimLeftS s [65, 66, 67, 68, 69, 70, 71, 72, 73, 74, 75, 76, 77, 78, 79, 80, 81, 82, 83, 84, 85, 86, 87, 88, 89, 90] = s.dropWhile upper := by
  unfold Lib.trimLeftS
  congr 1
  funext c
  exact upper_set c

theorem hasPrefix_one (s : Bytes) (c : UInt8) : Lib.hasPrefix s [c] = (s.head? == some c) := by
  cases s with
  | nil => rfl
  | cons d r =>
    show ([c] : List UInt8).isPrefixOf (d :: r) = _
    simp only [List.isPrefixOf, Bool.and_true, List.head?_cons]
    by_cases h : c = d
    · subst h; simp
    · rw [beq_eq_false_iff_ne.2 h, beq_eq_false_iff_ne.2 (fun e => h (by injection e with e; exact e.symm))]
theorem cut_dollar (s : Bytes) : Lib.hasPrefix s [36] = dollar s ∧ Lib.trimPrefix s [36] = undollar s := by
  have h := hasPrefix_one s 36
  refine ⟨h, ?_⟩
  unfold Lib.trimPrefix undollar
  rw [h]
  show (if dollar s = true then s.drop 1 else s) = _
  rw [List.drop_one]

theorem undollar_len (s : Bytes) : (undollar s).length ≤ s.length := by
  unfold undollar
  split
  · rw [List.length_tail]; omega
  · exact Nat.le_refl _
theorem span_len (s : Bytes) (p : UInt8 → Bool) : (s.takeWhile p).length + (s.dropWhile p).length = s.length := by
  rw [← List.length_append, List.takeWhile_append_dropWhile]

theorem parsed_dec {n : Int} (h1 : -9223372036854775808 ≤ n) (h2 : n ≤ 9223372036854775807) : parsed (dec n) = (n, true) := by
  unfold parsed; rw [parse_dec h1 h2]
theorem parsed_decN {n : Nat} (h : n < 9223372036854775808) : parsed (decN n) = ((n : Int), true) := by
  rw [← dec_nat]; exact parsed_dec (by omega) (by omega)

/-- What the reader tries is the place, if there is one. -/
def triedPlace (s : Bytes) : Place := ((readCol ((undollar s).takeWhile upper), (parsed (undollar ((undollar s).dropWhile upper))).1, ()), dollar s, dollar ((undollar s).dropWhile upper), ())

theorem tried_place (s : Bytes) : readPlace s = if refOk (triedPlace s).1 = true ∧ placeText (triedPlace s) = s then some (triedPlace s) else none := by
  by_cases h : refOk (triedPlace s).1 = true ∧ placeText (triedPlace s) = s
  · rw [if_pos h]
    exact readPlace_iff.2 h
  · rw [if_neg h]
    cases hp : readPlace s with
    | none => rfl
    | some p =>
      exfalso
      apply h
      have hp' := readPlace_iff.1 hp
      have e : p = triedPlace s := by
        unfold readPlace at hp
        dsimp only at hp
        split at hp
        · cases hp
        · rename_i n hn
          obtain ⟨d1, d2⟩ := readDec_iff.1 hn
          split at hp
          · rename_i hr
            injection hp with hp
            have hr := refOk_iff.1 hr
            dsimp only at hr
            unfold triedPlace
            rw [d1, parsed_decN (by omega)]
            exact hp.symm
          · cases hp
      rw [← e]
      exact hp'

theorem impl_ReadPlace_v {s : Bytes} (hs : s.length ≤ 281474976710656) : impl_ReadPlace s = some (gotPlace (readPlace s)) := by
  refine impl_ReadPlace.of 0 s _ ?_
  unfold impl_ReadPlace.B
  obtain ⟨c1, c2⟩ := cut_dollar s
  rw [strings_CutPrefix.of s [36] _ (pCutPrefix_eq _ _), bs, c1, c2]
  dsimp only
  rw [strings_TrimLeft.of (undollar s) _ _ (pTrimLeft_eq (by decide) (by decide)), bs, trimLeft_upper]
  have l1 := undollar_len s
  have l2 := span_len (undollar s) upper
  obtain ⟨t1, t2, t3⟩ := takeWhile_take (p := upper) (undollar s)
  dsimp only
  rw [w64 (by omega) (by omega)]
  rw [show ((undollar s).length : Int) - ((undollar s).dropWhile upper).length = (((undollar s).takeWhile upper).length : Nat) by omega]
  have h1 := fun k => cut_at (Out := Place × Bool × Unit) (n := (undollar s).length) (a := 0) (b := ((undollar s).takeWhile upper).length) (Nat.zero_le _) t3 (k := k)
  rw [show ((0 : Nat) : Int) = 0 from rfl] at h1
  rw [h1, t1, List.drop_zero, impl_ReadCol_v, bs, cut_at t3 (Nat.le_refl _), List.take_length, t2]
  obtain ⟨c3, c4⟩ := cut_dollar ((undollar s).dropWhile upper)
  have l3 := undollar_len ((undollar s).dropWhile upper)
  rw [strings_CutPrefix.of _ [36] _ (pCutPrefix_eq _ _), bs, c3, c4]
  dsimp only
  rw [strconv_ParseInt.of _ 10 64 _ (pParseInt_eq (by omega)), bs]
  dsimp only
  rw [tried_place]
  rw [impl_RefOk_v, bs]
  dsimp only
  show (bif !(refOk (triedPlace s).1) then _ else (impl_PlaceText (triedPlace s)).bind _) = _
  rw [impl_PlaceText_v, bs]
  dsimp only
  cases hr : refOk (triedPlace s).1
  · rw [if_neg (fun e => by cases e.1)]; rfl
  · rw [Bool.not_true, cond_false]
    by_cases ht : placeText (triedPlace s) = s
    · rw [if_pos ⟨rfl, ht⟩, ht, beq_self_eq_true]; rfl
    · rw [if_neg (fun e => ht e.2), beq_eq_false_iff_ne.2 ht]; rfl

end Go.Proofs.YtmgeeanbecmkbaaGreatDoor.Den
namespace Go.Proofs.YtmgeeanbecmkbaaGreatDoor.Den
open Go
set_option linter.unusedSimpArgs false

theorem spec_l2Plain_loop (k : Nat) (s : Bytes) (hs : s.length ≤ scap) : ∀ (m i : Nat) (r : Bytes), s.drop i = r → r.length < m → spec_l2Plain.L0 k m s (i : Int) = some (r.all pr && decide ((s.length : Int) ≤ 200), ())
  | 0, i, r, _, h => by omega
  | m + 1, i, [], h, _ => by
    have := drop_nil h
    rw [spec_l2Plain.L0_eq, bf (by omega)]
    rfl
  | m + 1, i, c :: r, h, hm => by
    obtain ⟨h1, h2, h3⟩ := get_drop h
    simp only [List.length_cons] at hm
    rw [spec_l2Plain.L0_eq, bt (by omega), idx_get h1, List.all_cons]
    by_cases hc : pr c = true
    · have hd := pr_iff.1 hc
      rw [bf (by omega), idx_get h1, bf (by omega), w64n (by unfold scap at hs; omega), spec_l2Plain_loop k s hs m (i + 1) r h2 (by omega), hc, Bool.true_and]
    · have hd : ¬ (32 ≤ c.toNat ∧ c.toNat ≤ 126) := fun e => hc (pr_iff.2 e)
      rw [Bool.not_eq_true] at hc
      rw [hc]
      by_cases h32 : c.toNat < 32
      · rw [bt (by omega)]; rfl
      · rw [bf (by omega), idx_get h1, bt (by omega)]; rfl
theorem spec_l2Plain_v {s : Bytes} (hs : s.length ≤ scap) : spec_l2Plain s = some (plainB s 200, ()) := spec_l2Plain.of (s.length + 1) s _ (spec_l2Plain_loop _ s hs (s.length + 1) 0 s rfl (by omega))

theorem impl_isText_loop (k : Nat) (s : Bytes) (most : Int) (hs : s.length ≤ scap) : ∀ (m i : Nat) (r : Bytes), s.drop i = r → r.length < m → impl_isText.L0 k m s most (s.length : Int) (i : Int) = some (r.all pr && decide ((s.length : Int) ≤ most), ())
  | 0, i, r, _, h => by omega
  | m + 1, i, [], h, _ => by
    have := drop_nil h
    rw [impl_isText.L0_eq, bf (by omega)]
    rfl
  | m + 1, i, c :: r, h, hm => by
    obtain ⟨h1, h2, h3⟩ := get_drop h
    simp only [List.length_cons] at hm
    rw [impl_isText.L0_eq, bt (by omega), idx_get h1, List.all_cons]
    by_cases hc : pr c = true
    · have hd := pr_iff.1 hc
      rw [bf (by omega), idx_get h1, bf (by omega), w64n (by unfold scap at hs; omega), impl_isText_loop k s most hs m (i + 1) r h2 (by omega), hc, Bool.true_and]
    · have hd : ¬ (32 ≤ c.toNat ∧ c.toNat ≤ 126) := fun e => hc (pr_iff.2 e)
      rw [Bool.not_eq_true] at hc
      rw [hc]
      by_cases h32 : c.toNat < 32
      · rw [bt (by omega)]; rfl
      · rw [bf (by omega), idx_get h1, bt (by omega)]; rfl
theorem impl_isText_v {s : Bytes} (most : Int) (hs : s.length ≤ scap) : impl_isText s most = some (plainB s most, ()) := impl_isText.of (s.length + 1) s most _ (impl_isText_loop _ s most hs (s.length + 1) 0 s rfl (by omega))

theorem spec_ValueOk_v {v : Value} (hs : v.2.2.1.length ≤ scap) : spec_ValueOk v = some (valueOk v, ()) := by
  refine spec_ValueOk.of 0 v _ ?_
  unfold spec_ValueOk.B valueOk
  rw [spec_l1In_v, spec_l2Plain_v hs, spec_l1In_v, spec_l1In_v]
  simp only [bs]
  cases v.1 == 0 <;> cases v.1 == 1 <;> cases v.1 == 2 <;> cases v.1 == 3 <;> cases v.1 == 4 <;> cases v.2.1 == 0 <;> cases inB v.2.1 (-1000000000000000) 1000000000000000 <;> cases inB v.2.1 0 1 <;> cases inB v.2.1 1 5 <;> rfl
theorem impl_ValueOk_v {v : Value} (hs : v.2.2.1.length ≤ scap) : impl_ValueOk v = some (valueOk v, ()) := by
  refine impl_ValueOk.of 0 v _ ?_
  unfold impl_ValueOk.B valueOk
  rw [impl_isText_v 200 hs, impl_within_v, impl_within_v, impl_within_v]
  simp only [bs]
  by_cases h2 : v.1 = 2
  · rw [h2]; cases v.2.1 == 0 <;> rfl
  · rw [beq_eq_false_iff_ne.2 h2]
    cases v.1 == 0 <;> cases v.1 == 1 <;> cases v.1 == 3 <;> cases v.1 == 4 <;> cases v.2.1 == 0 <;> cases inB v.2.1 (-1000000000000000) 1000000000000000 <;> cases inB v.2.1 0 1 <;> cases inB v.2.1 1 5 <;> cases v.2.2.1 == [] <;> rfl

theorem err_idx {Out : Type} {n : Nat} (h : n ≤ 5) {k : Bytes → Option Out} : idxC ([([] : List UInt8), ([35, 68, 73, 86, 33] : List UInt8), ([35, 84, 89, 80, 69, 33] : List UInt8), ([35, 82, 69, 70, 33] : List UInt8), ([35, 79, 86, 69, 82, 33] : List UInt8), ([35, 67, 89, 67, 76, 69, 33] : List UInt8)] : (List (List UInt8))) (n : Int) k = k (errName (n : Int)) := by
  have : n = 0 ∨ n = 1 ∨ n = 2 ∨ n = 3 ∨ n = 4 ∨ n = 5 := by omega
  rcases this with rfl | rfl | rfl | rfl | rfl | rfl <;> rfl
theorem spec_l2Name_v {n : Nat} (h : n ≤ 5) : spec_l2Name (n : Int) = some (errName (n : Int), ()) := spec_l2Name.of 0 n _ (by unfold spec_l2Name.B; rw [err_idx h])
theorem impl_errorText_v {n : Nat} (h : n ≤ 5) : impl_errorText (n : Int) = some (errName (n : Int), ()) := impl_errorText.of 0 n _ (by unfold impl_errorText.B; rw [err_idx h])
theorem spec_l2Bool_v (n : Int) : spec_l2Bool n = some (bif n == 1 then bTRUE else bFALSE, ()) := by
  refine spec_l2Bool.of 0 n _ ?_
  unfold spec_l2Bool.B
  cases n == 1 <;> rfl
theorem spec_l2Error_v (n : Int) : spec_l2Error n = some ((4, n, [], ()), ()) := spec_l2Error.of 0 n _ rfl
theorem impl_number_v (n : Int) : impl_number n = some ((1, n, [], ()), ()) := impl_number.of 0 n _ rfl
theorem impl_fault_v (n : Int) : impl_fault n = some ((4, n, [], ()), ()) := impl_fault.of 0 n _ rfl
theorem impl_truth_v (b : Bool) : impl_truth b = some ((3, (if b then 1 else 0), [], ()), ()) := by
  refine impl_truth.of 0 b _ ?_
  cases b <;> rfl

theorem plainB_len {s : Bytes} {n : Int} (h : plainB s n = true) : (s.length : Int) ≤ n := by
  unfold plainB at h; rw [Bool.and_eq_true, decide_eq_true_eq] at h; exact h.2
theorem valueOk_len {v : Value} (h : valueOk v = true) : v.2.2.1.length ≤ 200 := by
  rcases valueOk_cases h with rfl | ⟨n, rfl, _⟩ | ⟨s, rfl, hs⟩ | rfl | rfl | ⟨n, rfl, _⟩
  · exact Nat.zero_le _
  · exact Nat.zero_le _
  · have := plainB_len hs; dsimp only; omega
  · exact Nat.zero_le _
  · exact Nat.zero_le _
  · exact Nat.zero_le _

theorem spec_ValueText_v {v : Value} (hs : v.2.2.1.length ≤ scap) : spec_ValueText v = some (bif valueOk v then valueText v else [], ()) := by
  refine spec_ValueText.of 0 v _ ?_
  unfold spec_ValueText.B
  rw [spec_ValueOk_v hs, bs]
  cases h : valueOk v
  · rfl
  · clear hs
    rcases valueOk_cases h with rfl | ⟨n, rfl, h1, h2⟩ | ⟨s, rfl, hs⟩ | rfl | rfl | ⟨n, rfl, h1, h2⟩
    · rfl
    · show (spec_l1Dec n).bind _ = _
      rw [spec_l1Dec_v (by omega) (by omega)]; rfl
    · have := plainB_len hs
      show (bif decide (([39] : List UInt8).length + s.length ≤ scap) then _ else none) = _
      rw [bt (by unfold scap; simp; omega)]; rfl
    · show (spec_l2Bool 0).bind _ = _
      rw [spec_l2Bool_v]; rfl
    · show (spec_l2Bool 1).bind _ = _
      rw [spec_l2Bool_v]; rfl
    · show (spec_l2Name n).bind _ = _
      rw [spec_l2Name_v (by omega)]; rfl
theorem impl_valueText_v {v : Value} (h : valueOk v = true) : impl_valueText v = some (valueText v, ()) := by
  refine impl_valueText.of 0 v _ ?_
  unfold impl_valueText.B
  rcases valueOk_cases h with rfl | ⟨n, rfl, h1, h2⟩ | ⟨s, rfl, hs⟩ | rfl | rfl | ⟨n, rfl, h1, h2⟩
  · rfl
  · show (impl_decimal n).bind _ = _
    rw [impl_decimal_v (by omega) (by omega)]; rfl
  · have := plainB_len hs
    show (bif decide (([39] : List UInt8).length + s.length ≤ scap) then _ else none) = _
    rw [bt (by unfold scap; simp; omega)]; rfl
  · rfl
  · rfl
  · show (impl_errorText n).bind _ = _
    rw [impl_errorText_v (by omega)]; rfl

/-- What the reading of a value answers. -/
def gotValue (o : Option Value) : Value × Bool × Unit := match o with | some p => (p, true, ()) | none => ((0, 0, [], ()), false, ())

theorem spec_ReadValue_J0_v {k : Nat} {a b : Int} {s : Bytes} {c d : Int} {t : Bytes} (hs : s.length ≤ scap) : spec_ReadValue.J0 k a b s c d t = some (gotValue (chk (a, b, s, ()))) := by
  unfold spec_ReadValue.J0 chk
  rw [spec_ValueOk_v (v := (a, b, s, ())) hs, bs]
  cases valueOk (a, b, s, ()) <;> rfl

theorem spec_ReadValue_loop (k : Nat) (s : Bytes) (hs : s.length ≤ scap) (x5 x6 : Int) (x7 : Bytes) : ∀ (m j i : Nat) (x : Int), i + j = 6 → 1 ≤ i → j < m → spec_ReadValue.L0 k m s (i : Int) 4 x [] x5 x6 x7 = some (gotValue (chk (4, errFrom s j i x, [], ())))
  | 0, j, i, x, _, _, h => by omega
  | m + 1, 0, i, x, h, _, _ => by
    rw [spec_ReadValue.L0_eq, bf (by omega)]
    unfold spec_ReadValue.J3 chk errFrom
    rw [spec_ValueOk_v (v := (4, x, [], ())) (by unfold scap; simp), bs]
    cases valueOk (4, x, [], ()) <;> rfl
  | m + 1, j + 1, i, x, h, h1, hm => by
    rw [spec_ReadValue.L0_eq, bt (by omega), spec_l2Name_v (by omega), bs, w64n (by omega)]
    unfold errFrom
    by_cases e : errName (i : Int) = s
    · rw [if_pos e, e, beq_self_eq_true, cond_true, spec_ReadValue_loop k s hs x5 x6 x7 m j (i + 1) _ (by omega) (by omega) (by omega)]
    · rw [if_neg e, beq_eq_false_iff_ne.2 e, cond_false, spec_ReadValue_loop k s hs x5 x6 x7 m j (i + 1) _ (by omega) (by omega) (by omega)]

theorem readDec_bound {s : Bytes} {n : Nat} (h : readDec s 16 = some n) : n < 10000000000000000 := by
  unfold readDec at h
  split at h
  · rename_i hc
    injection h with h
    subst h
    have := numOf_lt s 0 hc.2.2.2
    have h2 : 10 ^ s.length ≤ 10 ^ 16 := Nat.pow_le_pow_right (by decide) hc.2.1
    have h3 : (10 : Nat) ^ 16 = 10000000000000000 := rfl
    omega
  · cases h

theorem spec_ReadValue_num {k : Nat} {s : Bytes} {neg : Bool} {a b : Int} {t : Bytes} {c d : Int} {u : Bytes} : spec_ReadValue.J2 k s neg a b t c d u = some (gotValue (match readDec s 16 with
    | none => none
    | some n => if neg = true then (if n = 0 then none else chk (1, -(n : Int), [], ())) else chk (1, (n : Int), [], ()))) := by
  unfold spec_ReadValue.J2
  have := spec_l1Int_v (s := s) (most := 16) (by decide)
  rw [show ((16 : Nat) : Int) = 16 from rfl] at this
  rw [this, bs]
  cases hr : readDec s 16 with
  | none => rfl
  | some n =>
    have hn := readDec_bound hr
    dsimp only
    rw [Bool.not_true, cond_false, w64 (by omega) (by omega), show (0 : Int) - n = -(n : Int) by omega, spec_ReadValue_J0_v (by unfold scap; simp), spec_ReadValue_J0_v (by unfold scap; simp)]
    cases neg
    · simp only [cond_false, Bool.false_eq_true, if_false]
    · simp only [cond_true, if_true]
      by_cases h0 : n = 0
      · rw [if_pos h0, h0]; rfl
      · rw [if_neg h0, show ((n : Int) == 0) = false by rw [beq_eq_false_iff_ne]; omega, cond_false]

theorem nat_beq {c : UInt8} {n : Nat} (hn : n < 256) : ((c.toNat : Int) == (n : Int)) = decide (c = UInt8.ofNat n) := by
  by_cases h : c = UInt8.ofNat n
  · rw [decide_eq_true h, (u8_eq hn).2 h, beq_self_eq_true]
  · rw [decide_eq_false h, beq_eq_false_iff_ne]
    intro e
    exact h ((u8_eq hn).1 (by omega))

theorem spec_ReadValue_v {s : Bytes} (hs : s.length ≤ scap) : spec_ReadValue s = some (gotValue (readValue s)) := by
  refine spec_ReadValue.of 6 s _ ?_
  unfold spec_ReadValue.B readValue
  cases s with
  | nil => rfl
  | cons c r =>
    simp only [List.length_cons] at hs
    dsimp only
    rw [show ((c :: r : Bytes) == []) = false from rfl, cond_false, idx_head, show ((c.toNat : Int) == 39) = decide (c = 39) from nat_beq (n := 39) (by decide)]
    by_cases h39 : c = 39
    · rw [if_pos h39, bt h39, undollar_cut, tail_drop, spec_ReadValue_J0_v (by omega)]
    · rw [if_neg h39, bf h39]
      unfold spec_ReadValue.J1
      by_cases hT : (c :: r : Bytes) = bTRUE
      · rw [if_pos hT, hT]
        rw [show ((bTRUE : Bytes) == [84, 82, 85, 69]) = true from rfl]
        simp only [cond_true]
        rw [spec_ReadValue_J0_v (by unfold scap; simp)]; rfl
      · rw [if_neg hT, show ((c :: r : Bytes) == [84, 82, 85, 69]) = false from beq_eq_false_iff_ne.2 hT]
        simp only [cond_false]
        by_cases hF : (c :: r : Bytes) = bFALSE
        · rw [if_pos hF, hF]
          rw [show ((bFALSE : Bytes) == [70, 65, 76, 83, 69]) = true from rfl]
          simp only [cond_true]
          rw [spec_ReadValue_J0_v (by unfold scap; simp)]; rfl
        · rw [if_neg hF, show ((c :: r : Bytes) == [70, 65, 76, 83, 69]) = false from beq_eq_false_iff_ne.2 hF]
          simp only [cond_false]
          rw [idx_head, show ((c.toNat : Int) == 35) = decide (c = 35) from nat_beq (n := 35) (by decide)]
          by_cases h35 : c = 35
          · rw [if_pos h35, bt h35]
            exact spec_ReadValue_loop 6 (c :: r) (by simpa using hs) 0 0 [] 6 5 1 0 rfl (by omega) (by omega)
          · rw [if_neg h35, bf h35, idx_head, show ((c.toNat : Int) == 45) = decide (c = 45) from nat_beq (n := 45) (by decide)]
            by_cases h45 : c = 45
            · rw [if_pos h45, bt h45, undollar_cut, tail_drop, spec_ReadValue_num, decide_eq_true h45]
              rfl
            · rw [if_neg h45, bf h45, spec_ReadValue_num, decide_eq_false h45]
              rfl

theorem impl_ReadValue_J0_v {k : Nat} {s : Bytes} {a b : Int} {t : Bytes} {c d : Int} {u : Bytes} (ht : t.length ≤ scap) : impl_ReadValue.J0 k s a b t c d u = some (gotValue (if valueOk (a, b, t, ()) = true ∧ valueText (a, b, t, ()) = s then some (a, b, t, ()) else none)) := by
  unfold impl_ReadValue.J0
  rw [impl_ValueOk_v (v := (a, b, t, ())) ht, bs]
  dsimp only
  cases hv : valueOk (a, b, t, ())
  · rw [if_neg (fun e => by cases e.1)]; rfl
  · rw [Bool.not_true, cond_false, impl_valueText_v hv, bs]
    dsimp only
    by_cases e : valueText (a, b, t, ()) = s
    · rw [if_pos ⟨rfl, e⟩, e, beq_self_eq_true]; rfl
    · rw [if_neg (fun x => e x.2), beq_eq_false_iff_ne.2 e]; rfl

theorem impl_ReadValue_loop (k : Nat) (s : Bytes) (x5 x6 : Int) (x7 : Bytes) : ∀ (m j i : Nat) (x : Int), i + j = 6 → 1 ≤ i → j < m →
    impl_ReadValue.L0 k m s (i : Int) (if x = 0 then 0 else 4) x [] x5 x6 x7 = some (gotValue (if valueOk (if errFrom s j i x = 0 then (0, 0, [], ()) else (4, errFrom s j i x, [], ())) = true ∧ valueText (if errFrom s j i x = 0 then (0, 0, [], ()) else (4, errFrom s j i x, [], ())) = s then some (if errFrom s j i x = 0 then (0, 0, [], ()) else (4, errFrom s j i x, [], ())) else none))
  | 0, j, i, x, _, _, h => by omega
  | m + 1, 0, i, x, h, _, _ => by
    rw [impl_ReadValue.L0_eq, bf (by omega)]
    have := impl_ReadValue_J0_v (k := k) (s := s) (a := if x = 0 then 0 else 4) (b := x) (t := []) (c := x5) (d := x6) (u := x7) (by unfold scap; simp)
    have e : ((if x = 0 then 0 else 4 : Int), x, ([] : Bytes), ()) = (if x = 0 then ((0 : Int), (0 : Int), ([] : Bytes), ()) else (4, x, [], ())) := by
      by_cases h : x = 0
      · rw [if_pos h, if_pos h, h]
      · rw [if_neg h, if_neg h]
    rw [e] at this
    exact this
  | m + 1, j + 1, i, x, h, h1, hm => by
    rw [impl_ReadValue.L0_eq, bt (by omega), impl_errorText_v (by omega), bs, w64n (by omega)]
    unfold errFrom
    by_cases e : errName (i : Int) = s
    · rw [if_pos e]
      have := impl_ReadValue_loop k s x5 x6 x7 m j (i + 1) (i : Int) (by omega) (by omega) (by omega)
      rw [if_neg (show ¬ (i : Int) = 0 by omega)] at this
      rw [e, beq_self_eq_true, cond_true, impl_fault_v, bs]
      exact this
    · rw [if_neg e, beq_eq_false_iff_ne.2 e, cond_false]
      exact impl_ReadValue_loop k s x5 x6 x7 m j (i + 1) x (by omega) (by omega) (by omega)

theorem cut_tick (s : Bytes) : Lib.hasPrefix s [39] = decide (s.head? = some 39) ∧ (s.head? = some 39 → Lib.trimPrefix s [39] = s.tail) := by
  have h := hasPrefix_one s 39
  refine ⟨by rw [h]; by_cases e : s.head? = some 39 <;> simp [e], fun e => ?_⟩
  unfold Lib.trimPrefix
  rw [h, e]
  simp

theorem impl_ReadValue_v {s : Bytes} (hs : s.length ≤ 281474976710656) : impl_ReadValue s = some (gotValue (readValue s)) := by
  refine impl_ReadValue.of 6 s _ ?_
  rw [tried_value s (fun n h1 h2 => parsed_dec h1 h2)]
  unfold impl_ReadValue.B triedValue
  obtain ⟨c1, c2⟩ := cut_tick s
  rw [strings_CutPrefix.of s [39] _ (pCutPrefix_eq _ _), bs, c1]
  dsimp only
  by_cases h39 : s.head? = some 39
  · rw [bt h39, c2 h39, impl_ReadValue_J0_v (by rw [List.length_tail]; unfold scap; omega)]
    simp only [if_pos h39]
  · rw [bf h39]
    simp only [if_neg h39]
    by_cases hF : s = bFALSE
    · rw [show (s == [70, 65, 76, 83, 69]) = true by rw [hF]; rfl, cond_true, impl_truth_v, bs]
      simp only [if_pos hF]
      rw [show (s == [84, 82, 85, 69]) = false by rw [hF]; rfl, impl_ReadValue_J0_v (by unfold scap; simp)]
      rfl
    · rw [show (s == [70, 65, 76, 83, 69]) = false from beq_eq_false_iff_ne.2 hF, cond_false]
      simp only [if_neg hF]
      by_cases hT : s = bTRUE
      · rw [show (s == [84, 82, 85, 69]) = true by rw [hT]; rfl, cond_true, impl_truth_v, bs]
        simp only [if_pos hT]
        rw [impl_ReadValue_J0_v (by unfold scap; simp)]
        rfl
      · rw [show (s == [84, 82, 85, 69]) = false from beq_eq_false_iff_ne.2 hT, cond_false]
        simp only [if_neg hT]
        rw [strings_HasPrefix.of s [35] _ (pHasPrefix_eq _ _), bs, hasPrefix_one]
        dsimp only
        by_cases h35 : s.head? = some 35
        · rw [h35, beq_self_eq_true, cond_true]
          simp only [if_true]
          exact impl_ReadValue_loop 6 s 0 0 [] 6 5 1 0 rfl (by omega) (by omega)
        · rw [beq_eq_false_iff_ne.2 h35, cond_false]
          simp only [if_neg h35]
          by_cases h0 : s = []
          · subst h0; exact impl_ReadValue_J0_v (k := 6) (c := 0) (d := 0) (u := []) (by unfold scap; simp)
          · rw [show (s == []) = false from beq_eq_false_iff_ne.2 h0, Bool.not_false, cond_true, strconv_ParseInt.of _ 10 64 _ (pParseInt_eq hs), bs]
            dsimp only
            rw [impl_number_v, bs]
            dsimp only
            simp only [if_neg h0]
            exact impl_ReadValue_J0_v (by unfold scap; simp)

end Go.Proofs.YtmgeeanbecmkbaaGreatDoor.Den
namespace Go.Proofs.YtmgeeanbecmkbaaGreatDoor.Den
open Go
set_option linter.unusedSimpArgs false

/-- Nodes whose texts and lists are no longer than the machine's. -/
def nodeS (x : FNode) : Prop := x.2.2.1.2.2.1.length ≤ scap ∧ x.kids.length ≤ scap

theorem ands {a x : Bool} {X : Option (Bool × Unit)} (h : X = some (x, ())) : (bif a then X else some (false, ())) = some (a && x, ()) := by
  cases a
  · rfl
  · exact h
theorem orb {a x : Bool} {X : Option (Bool × Unit)} (h : X = some (x, ())) : (bif a then some (true, ()) else X) = some (a || x, ()) := by
  cases a
  · exact h
  · rfl

theorem spec_l3Args_v (op k : Int) : spec_l3Args op k = some (argsOk op k, ()) := by
  refine spec_l3Args.of 0 op k _ ?_
  unfold spec_l3Args.B argsOk
  have J : ∀ b : Bool, spec_l3Args.J0 0 k op b = some (bif b then inB k 1 10 else bif op == 5 then k == 2 || k == 3 else bif op == 8 || op == 9 || op == 10 then k == 1 else false, ()) := by
    intro b
    unfold spec_l3Args.J0 inB
    cases b
    · simp only [cond_false]
      cases op == 5
      · cases op == 8 <;> cases op == 9 <;> cases op == 10 <;> rfl
      · cases k == 2 <;> rfl
    · simp only [cond_true]
      exact ands rfl
  rw [J, J]
  cases op == 1 <;> cases op == 2 <;> cases op == 3 <;> cases op == 4 <;> cases op == 6 <;> cases op == 7 <;> rfl

theorem spec_l3NodeOk_v {x : FNode} (hs : nodeS x) : spec_l3NodeOk x = some (nodeOk x, ()) := by
  refine spec_l3NodeOk.of 0 x _ ?_
  unfold spec_l3NodeOk.B nodeOk
  rw [spec_ValueOk_v hs.1, spec_l3Args_v, spec_RefOk_v, spec_AreaOk_v, spec_l1In_v]
  simp only [bs]
  cases x.1 == 1
  · cases x.1 == 2
    · cases x.1 == 3
      · cases x.1 == 4
        · cases x.1 == 5
          · cases x.1 == 6
            · rfl
            · exact ands (ands (ands rfl))
          · exact ands (ands (ands (ands rfl)))
        · exact ands (ands (ands (ands rfl)))
      · exact ands (ands (ands rfl))
    · exact ands (ands (ands (ands rfl)))
  · exact ands (ands (ands (ands (ands (ands (by
      cases hq : x.2.2.1.1 != 1
      · rfl
      · rfl))))))

theorem impl_area_v (x : FNode) : impl_FNode_area x = some ((bif x.1 == 2 then (x.2.2.2.1.1, x.2.2.2.1.1, ()) else (x.2.2.2.1.1, x.2.2.2.2.1.1, ())), ()) := by
  refine impl_FNode_area.of 0 x _ ?_
  unfold impl_FNode_area.B
  cases x.1 == 2 <;> rfl
theorem impl_isPlaced_v (x : FNode) : impl_FNode_isPlaced x = some ((bif x.1 == 2 then areaOk (x.2.2.2.1.1, x.2.2.2.1.1, ()) else bif x.1 == 3 then areaOk (x.2.2.2.1.1, x.2.2.2.2.1.1, ()) else true), ()) := by
  refine impl_FNode_isPlaced.of 0 x _ ?_
  unfold impl_FNode_isPlaced.B
  rw [impl_area_v, bs, impl_AreaOk_v, bs]
  by_cases h2 : x.1 = 2
  · rw [h2]; rfl
  · rw [show (x.1 != 2) = true by simpa using h2, beq_eq_false_iff_ne.2 h2]
    by_cases h3 : x.1 = 3
    · rw [h3]; rfl
    · rw [show (x.1 != 3) = true by simpa using h3, beq_eq_false_iff_ne.2 h3]; rfl

theorem impl_kidsOk_v {x : FNode} : impl_FNode_kidsOk x = some ((bif x.1 == 4 then (x.2.1 == 0) && ((x.2.2.2.2.2.1.length : Int) == 1) else bif x.1 == 5 then inB x.2.1 1 11 && ((x.2.2.2.2.2.1.length : Int) == 2) else bif x.1 == 6 then argsOk x.2.1 (x.2.2.2.2.2.1.length : Int) else (x.2.1 == 0) && ((x.2.2.2.2.2.1.length : Int) == 0)), ()) := by
  refine impl_FNode_kidsOk.of 0 x _ ?_
  unfold impl_FNode_kidsOk.B
  rw [impl_within_v, impl_within_v, impl_within_v, impl_within_v]
  simp only [bs]
  cases x.1 == 4
  · cases x.1 == 5
    · cases x.1 == 6
      · exact ands rfl
      · simp only [cond_false, cond_true]
        generalize (x.2.2.2.2.2.1.length : Int) = k
        unfold argsOk
        by_cases hi : 1 ≤ x.2.1 ∧ x.2.1 ≤ 10
        · rw [inB_iff.2 hi]
          have : x.2.1 = 1 ∨ x.2.1 = 2 ∨ x.2.1 = 3 ∨ x.2.1 = 4 ∨ x.2.1 = 5 ∨ x.2.1 = 6 ∨ x.2.1 = 7 ∨ x.2.1 = 8 ∨ x.2.1 = 9 ∨ x.2.1 = 10 := by omega
          rcases this with h | h | h | h | h | h | h | h | h | h <;> rw [h] <;> try rfl
          show some (inB k 2 3, ()) = some ((k == 2 || k == 3), ())
          congr 2
          rw [Bool.eq_iff_iff, inB_iff, Bool.or_eq_true, beq_iff_eq, beq_iff_eq]
          omega
        · rw [inB_not.2 hi]
          have n : ∀ j : Int, 1 ≤ j → j ≤ 10 → (x.2.1 == j) = false := fun j h1 h2 => beq_eq_false_iff_ne.2 (by omega)
          rw [n 1 (by omega) (by omega), n 2 (by omega) (by omega), n 3 (by omega) (by omega), n 4 (by omega) (by omega), n 5 (by omega) (by omega), n 6 (by omega) (by omega), n 7 (by omega) (by omega), n 8 (by omega) (by omega), n 9 (by omega) (by omega), n 10 (by omega) (by omega)]
          rfl
    · exact ands rfl
  · exact ands rfl

theorem areaOk_same (r : Ref) : areaOk (r, r, ()) = refOk r := by
  unfold areaOk
  dsimp only
  rw [decide_eq_true (Int.le_refl _), decide_eq_true (Int.le_refl _), Bool.and_true, Bool.and_true, Bool.and_self]

theorem impl_isOwn_end (k : Nat) (x : FNode) (v : Value) (a b : Place) (l : List Int) (p q : Int) : impl_FNode_isOwn.J0 k p q v a b l x.1 x.2.1 x.2.2.1 x.2.2.2.1 x.2.2.2.2.1 x.2.2.2.2.2.1 =
    some ((bif x.1 == 2 then areaOk (x.2.2.2.1.1, x.2.2.2.1.1, ()) else bif x.1 == 3 then areaOk (x.2.2.2.1.1, x.2.2.2.2.1.1, ()) else true) && ((bif x.1 == 4 then (x.2.1 == 0) && ((x.2.2.2.2.2.1.length : Int) == 1) else bif x.1 == 5 then inB x.2.1 1 11 && ((x.2.2.2.2.2.1.length : Int) == 2) else bif x.1 == 6 then argsOk x.2.1 (x.2.2.2.2.2.1.length : Int) else (x.2.1 == 0) && ((x.2.2.2.2.2.1.length : Int) == 0)) && (valB v x.2.2.1 && (placeB a x.2.2.2.1 && placeB b x.2.2.2.2.1))), ()) := by
  unfold impl_FNode_isOwn.J0
  rw [impl_isPlaced_v, bs, impl_kidsOk_v, bs]
  exact ands (ands (ands (ands rfl)))

theorem beq_comm' (a b : Place) : placeB a b = placeB b a := by
  rw [Bool.eq_iff_iff, placeB_iff, placeB_iff]; exact eq_comm
theorem valB_comm (a b : Value) : valB a b = valB b a := by
  rw [Bool.eq_iff_iff, valB_iff, valB_iff]; exact eq_comm

theorem impl_isOwn_v {x : FNode} (hs : nodeS x) : impl_FNode_isOwn x = some (nodeOk x, ()) := by
  refine impl_FNode_isOwn.of 0 x _ ?_
  unfold impl_FNode_isOwn.B nodeOk
  rw [impl_ValueOk_v hs.1, bs]
  simp only [impl_isOwn_end]
  by_cases h1 : x.1 = 1
  · rw [h1]
    simp only [show ((1 : Int) == 1) = true from rfl, show ((1 : Int) == 2) = false from rfl, show ((1 : Int) == 3) = false from rfl, show ((1 : Int) == 4) = false from rfl, show ((1 : Int) == 5) = false from rfl, show ((1 : Int) == 6) = false from rfl, cond_true, cond_false, Bool.true_and, valB_refl]
    rw [show placeB ((0, 0, ()), false, false, ()) x.2.2.2.1 = placeB x.2.2.2.1 zP from beq_comm' _ _, show placeB ((0, 0, ()), false, false, ()) x.2.2.2.2.1 = placeB x.2.2.2.2.1 zP from beq_comm' _ _]
    by_cases h0 : x.2.2.1.1 = 0
    · rw [h0]; cases valueOk x.2.2.1 <;> cases x.2.1 == 0 <;> cases placeB x.2.2.2.1 zP <;> cases placeB x.2.2.2.2.1 zP <;> cases (x.2.2.2.2.2.1.length : Int) == 0 <;> rfl
    · rw [beq_eq_false_iff_ne.2 h0, show (x.2.2.1.1 != 0) = true by simpa using h0]
      by_cases hv1 : x.2.2.1.1 = 1
      · rw [hv1]
        by_cases hn : x.2.2.1.2.1 < 0
        · rw [decide_eq_true hn, decide_eq_false (show ¬ x.2.2.1.2.1 ≥ 0 by omega)]
          cases valueOk x.2.2.1 <;> cases x.2.1 == 0 <;> cases placeB x.2.2.2.1 zP <;> cases placeB x.2.2.2.2.1 zP <;> cases (x.2.2.2.2.2.1.length : Int) == 0 <;> rfl
        · rw [decide_eq_false hn, decide_eq_true (show x.2.2.1.2.1 ≥ 0 by omega)]
          cases valueOk x.2.2.1 <;> cases x.2.1 == 0 <;> cases placeB x.2.2.2.1 zP <;> cases placeB x.2.2.2.2.1 zP <;> cases (x.2.2.2.2.2.1.length : Int) == 0 <;> rfl
      · rw [beq_eq_false_iff_ne.2 hv1, show (x.2.2.1.1 != 1) = true by simpa using hv1]
        cases valueOk x.2.2.1 <;> cases x.2.1 == 0 <;> cases placeB x.2.2.2.1 zP <;> cases placeB x.2.2.2.2.1 zP <;> cases (x.2.2.2.2.2.1.length : Int) == 0 <;> rfl
  · rw [beq_eq_false_iff_ne.2 h1]
    have e1 := beq_comm' ((0, 0, ()), false, false, ()) x.2.2.2.1
    have e2 := beq_comm' ((0, 0, ()), false, false, ()) x.2.2.2.2.1
    have e3 := valB_comm (0, 0, [], ()) x.2.2.1
    by_cases h2 : x.1 = 2
    · rw [h2]
      simp only [show ((2 : Int) == 2) = true from rfl, show ((2 : Int) == 3) = false from rfl, show ((2 : Int) == 4) = false from rfl, show ((2 : Int) == 5) = false from rfl, show ((2 : Int) == 6) = false from rfl, cond_true, cond_false, areaOk_same, placeB_refl, Bool.true_and]
      rw [e2, e3]
      show some (refOk x.2.2.2.1.1 && (((x.2.1 == 0) && ((x.2.2.2.2.2.1.length : Int) == 0)) && (valB x.2.2.1 zV && placeB x.2.2.2.2.1 zP)), ()) = _
      cases refOk x.2.2.2.1.1 <;> cases x.2.1 == 0 <;> cases valB x.2.2.1 zV <;> cases placeB x.2.2.2.2.1 zP <;> cases (x.2.2.2.2.2.1.length : Int) == 0 <;> rfl
    · rw [beq_eq_false_iff_ne.2 h2]
      by_cases h3 : x.1 = 3
      · rw [h3]
        simp only [show ((3 : Int) == 3) = true from rfl, show ((3 : Int) == 4) = false from rfl, show ((3 : Int) == 5) = false from rfl, show ((3 : Int) == 6) = false from rfl, cond_true, cond_false, placeB_refl, Bool.true_and, Bool.and_true]
        rw [e3]
        show some (areaOk (x.2.2.2.1.1, x.2.2.2.2.1.1, ()) && (((x.2.1 == 0) && ((x.2.2.2.2.2.1.length : Int) == 0)) && valB x.2.2.1 zV), ()) = _
        cases areaOk (x.2.2.2.1.1, x.2.2.2.2.1.1, ()) <;> cases x.2.1 == 0 <;> cases valB x.2.2.1 zV <;> cases (x.2.2.2.2.2.1.length : Int) == 0 <;> rfl
      · rw [beq_eq_false_iff_ne.2 h3]
        simp only [cond_false]
        rw [e1, e2, e3]
        by_cases h4 : x.1 = 4
        · rw [h4]
          show some (true && (((x.2.1 == 0) && ((x.2.2.2.2.2.1.length : Int) == 1)) && (valB x.2.2.1 zV && (placeB x.2.2.2.1 zP && placeB x.2.2.2.2.1 zP))), ()) = some ((x.2.1 == 0) && (valB x.2.2.1 zV && (placeB x.2.2.2.1 zP && (placeB x.2.2.2.2.1 zP && ((x.2.2.2.2.2.1.length : Int) == 1)))), ())
          cases x.2.1 == 0 <;> cases valB x.2.2.1 zV <;> cases placeB x.2.2.2.1 zP <;> cases placeB x.2.2.2.2.1 zP <;> cases (x.2.2.2.2.2.1.length : Int) == 1 <;> rfl
        · rw [beq_eq_false_iff_ne.2 h4]
          by_cases h5 : x.1 = 5
          · rw [h5]
            show some (true && ((inB x.2.1 1 11 && ((x.2.2.2.2.2.1.length : Int) == 2)) && (valB x.2.2.1 zV && (placeB x.2.2.2.1 zP && placeB x.2.2.2.2.1 zP))), ()) = some (inB x.2.1 1 11 && (valB x.2.2.1 zV && (placeB x.2.2.2.1 zP && (placeB x.2.2.2.2.1 zP && ((x.2.2.2.2.2.1.length : Int) == 2)))), ())
            cases inB x.2.1 1 11 <;> cases valB x.2.2.1 zV <;> cases placeB x.2.2.2.1 zP <;> cases placeB x.2.2.2.2.1 zP <;> cases (x.2.2.2.2.2.1.length : Int) == 2 <;> rfl
          · rw [beq_eq_false_iff_ne.2 h5]
            cases x.1 == 6
            · rfl
            · rfl

/-! The trees of the reference. -/
def loI (o : Option (Nat × Nat)) : Int := match o with | some p => (p.1 : Int) | none => -1

theorem spec_l3Tree_v (f : List FNode) (hf : f.length ≤ scap) (hk : ∀ (j : Nat) (x : FNode), f[j]? = some x → x.kids.length ≤ scap) (hg : nodesB f = true) : ∀ (n : Nat), n < f.length → spec_l3Tree f (n : Int) = some (loI (treeAt f n), ()) := by
  intro n
  induction n using Nat.strongRecOn with
  | _ n ih =>
    intro hn
    have hx := List.getElem?_eq_getElem hn
    obtain ⟨x, hxe⟩ : ∃ x, x = f[n] := ⟨_, rfl⟩
    rw [← hxe] at hx
    have hgood := nodesB_iff.1 hg n x hx
    unfold nodeGood at hgood
    rw [Bool.and_eq_true] at hgood
    have hkl := hk n x hx
    -- the kids, from the last one on
    have loop : ∀ (m i hi h : Nat), i ≤ x.kids.length → i < m → hi ≤ n → spec_l3Tree.L0 (x.kids.length + 1) m f (n : Int) ((hi : Int) - 1) ((i : Int) - 1) = some (loI (kidsT (treeAt f) f x (x.kids.take i).reverse hi h), ()) := by
      intro m
      induction m with
      | zero => intro i hi h _ hm; omega
      | succ m ihm =>
        intro i hi h hi1 hm hle
        rw [spec_l3Tree.L0_eq]
        cases i with
        | zero =>
          rw [bf (by omega)]
          unfold spec_l3Tree.J0
          rw [List.take_zero, List.reverse_nil]
          unfold kidsT loI
          unfold scap at hf
          rw [w64 (by omega) (by omega)]
          dsimp only
          rw [show (hi : Int) - 1 + 1 = hi by omega]
        | succ i =>
          have hil : i < x.kids.length := by omega
          rw [bt (by omega), List.take_succ_eq_append_getElem hil, List.reverse_append, List.reverse_cons, List.reverse_nil, List.nil_append, List.singleton_append]
          unfold kidsT
          by_cases h0 : hi = 0
          · subst h0
            rw [bt (by omega), if_neg (by omega)]; rfl
          · rw [bf (by omega), idx_get hx, show (((i + 1 : Nat) : Int) - 1) = (i : Int) by omega, idx_at hil]
            by_cases hke : x.kids[i] + 1 = (hi : Int)
            · rw [show (x.kids[i] != ((hi : Int) - 1)) = false by rw [bne_eq_false_iff_eq]; omega, cond_false, if_pos ⟨hke, by omega⟩]
              have hlt : hi - 1 < f.length := by omega
              have hkg := List.all_eq_true.1 hgood.2 _ (List.getElem_mem hil)
              unfold kidGood at hkg
              rw [show x.kids[i].toNat = hi - 1 by omega, List.getElem?_eq_getElem hlt] at hkg
              simp only [Bool.and_eq_true, Option.map_some, Bool.not_eq_true'] at hkg
              rw [List.getElem?_eq_getElem hlt]
              dsimp only
              rw [if_neg (by
                rintro ⟨e1, e2⟩
                have := hkg.2
                rw [e1] at this
                simp at this
                exact e2 this)]
              rw [show (hi : Int) - 1 = ((hi - 1 : Nat) : Int) by omega, ih (hi - 1) (by omega) hlt, bs]
              cases ht : treeAt f (hi - 1) with
              | none => rfl
              | some p =>
                obtain ⟨lo, h1⟩ := p
                have htl := tree_le ht
                dsimp only at htl
                unfold scap at hf hkl
                show (bif decide ((lo : Int) < 0) then _ else _) = _
                rw [bf (by omega)]
                dsimp only [loI]
                rw [w64 (by omega) (by omega), w64 (by omega) (by omega)]
                exact ihm i lo (max h h1) (by omega) (by omega) (by omega)
            · rw [show (x.kids[i] != ((hi : Int) - 1)) = true by rw [bne_iff_ne]; omega, cond_true, if_neg (fun e => hke e.1)]; rfl
    refine spec_l3Tree.of (x.kids.length + 1) f n _ ?_
    unfold spec_l3Tree.B
    rw [idx_get hx]
    have := loop (x.kids.length + 1) x.kids.length n 0 (Nat.le_refl _) (by omega) (Nat.le_refl _)
    unfold scap at hf hkl
    rw [w64 (by omega) (by omega), w64 (by unfold FNode.kids at hkl; omega) (by unfold FNode.kids at hkl; omega)]
    rw [List.take_length] at this
    refine this.trans ?_
    rw [treeAt_eq, hx]
    dsimp only
    rw [if_pos hgood.1]
    cases kidsT (treeAt f) f x x.kids.reverse n 0 with
    | none => rfl
    | some p => rfl

end Go.Proofs.YtmgeeanbecmkbaaGreatDoor.Den
namespace Go.Proofs.YtmgeeanbecmkbaaGreatDoor.Den
open Go
set_option linter.unusedSimpArgs false

/-- Formulas whose texts and lists are no longer than the machine's. -/
structure formS (f : List FNode) : Prop where
  len : f.length ≤ scap
  node : ∀ (j : Nat) (x : FNode), f[j]? = some x → nodeS x

theorem mxI_nat (a b : Nat) : mxI (a : Int) (b : Int) = ((max a b : Nat) : Int) := by
  unfold mxI
  split <;> omega

theorem spec_l3Deep_v {f : List FNode} (hf : formS f) : ∀ (n : Nat) {p : Nat × Nat}, treeAt f n = some p → spec_l3Deep f (n : Int) = some ((p.2 : Int), ()) := by
  intro n
  induction n using Nat.strongRecOn with
  | _ n ih =>
    intro p h
    have hn := (tree_le h).2.2
    obtain ⟨x, hx, hok, h2, hk, _⟩ := tree_high h
    have hkl := (hf.node n x hx).2
    have hfl := hf.len
    unfold scap at hkl hfl
    have loop : ∀ (m i : Nat) (r : List Int) (d : Nat), x.kids.drop i = r → r.length < m → maxH f d r ≤ n → spec_l3Deep.L0 (x.kids.length + 1) m f (n : Int) (d : Int) (i : Int) = some (((maxH f d r + 1 : Nat) : Int), ()) := by
      intro m
      induction m with
      | zero => intro i r d _ hm; omega
      | succ m ihm =>
        intro i r d hd hm hle
        rw [spec_l3Deep.L0_eq, idx_get hx]
        cases r with
        | nil =>
          have := drop_nil hd
          rw [bf (by unfold FNode.kids at this; omega)]
          unfold spec_l3Deep.J0
          have hd : maxH f d [] = d := rfl
          rw [hd] at hle ⊢
          rw [w64 (by omega) (by omega)]; rfl
        | cons k r =>
          obtain ⟨h1, h2, h3⟩ := get_drop hd
          simp only [List.length_cons] at hm
          have hmem : k ∈ x.kids := List.mem_of_getElem? h1
          obtain ⟨k0, k1, q, hq⟩ := hk k hmem
          rw [bt (by unfold FNode.kids at h3; omega), idx_get hx, idx_get h1]
          have := ih k.toNat k1 hq
          rw [Int.toNat_of_nonneg k0] at this
          rw [this, bs, w64n (by omega)]
          have hm2 : maxH f d (k :: r) = maxH f (max d q.2) r := by
            unfold maxH; rw [List.foldl_cons]; unfold hOf; rw [hq]; rfl
          rw [hm2] at hle ⊢
          dsimp only
          rw [mxI_nat]
          exact ihm (i + 1) r _ h2 (by omega) hle
    refine spec_l3Deep.of (x.kids.length + 1) f n _ ?_
    unfold spec_l3Deep.B
    have hp := tree_high_le n h
    have := loop (x.kids.length + 1) 0 x.kids 0 rfl (by omega) (by omega)
    rw [h2]
    exact this

/-! The reference's test of the whole. -/
theorem kidGood_iff {f : List FNode} {x : FNode} {i : Nat} {k : Int} (hi : i < f.length) : kidGood f x i k = true ↔ 0 ≤ k ∧ k ≤ (i : Int) - 1 ∧ ∀ y, f[k.toNat]? = some y → y.1 = 3 → x.1 = 6 := by
  unfold kidGood
  simp only [Bool.and_eq_true, decide_eq_true_eq, Bool.not_eq_true', Bool.and_eq_false_iff]
  constructor
  · rintro ⟨⟨h1, h2⟩, h3⟩
    refine ⟨h1, by omega, fun y hy h => ?_⟩
    rw [hy, Option.map_some, h] at h3
    rcases h3 with h3 | h3
    · simp at h3
    · simpa using h3
  · rintro ⟨h1, h2, h3⟩
    refine ⟨⟨h1, by omega⟩, ?_⟩
    have hlt : k.toNat < f.length := by omega
    rw [List.getElem?_eq_getElem hlt, Option.map_some]
    by_cases h : (f[k.toNat]).1 = 3
    · right
      rw [h3 _ (List.getElem?_eq_getElem hlt) h]; rfl
    · left
      simpa using h

theorem spec_FormulaOk_v {f : List FNode} (hf : formS f) : spec_FormulaOk f = some (formulaOk f, ()) := by
  have hfl := hf.len
  unfold scap at hfl
  by_cases h1 : 1 ≤ f.length
  · by_cases h60 : f.length ≤ 60
    · -- behind the loops
      have fin : nodesB f = true → ∀ (k m : Nat), spec_FormulaOk.J0 k m f = some (formulaOk f, ()) := by
        intro hg k m
        unfold spec_FormulaOk.J0
        rw [w64 (by omega) (by omega), show (f.length : Int) - 1 = ((f.length - 1 : Nat) : Int) by omega]
        rw [spec_l3Tree_v f hf.len (fun j x hx => (hf.node j x hx).2) hg (f.length - 1) (by omega), bs]
        have hroot := List.getElem?_eq_getElem (l := f) (i := f.length - 1) (by omega)
        rw [idx_get hroot]
        dsimp only
        have iff := formulaOk_iff (f := f)
        rw [hroot] at iff
        cases ht : treeAt f (f.length - 1) with
        | none =>
          have : formulaOk f = false := by
            rw [Bool.eq_false_iff]
            intro e
            obtain ⟨_, _, _, h, _, e2⟩ := iff.1 e
            rw [ht] at e2; cases e2
          rw [this]; rfl
        | some p =>
          obtain ⟨lo, h⟩ := p
          rw [spec_l3Deep_v hf _ ht, bs]
          dsimp only [loI]
          by_cases h0 : lo = 0
          · subst h0
            rw [show (((0 : Nat) : Int) == 0) = true from rfl, cond_true]
            by_cases h3 : (f[f.length - 1]).1 = 3
            · rw [show ((f[f.length - 1]).1 != 3) = false by rw [h3]; rfl, cond_false]
              have : formulaOk f = false := by
                rw [Bool.eq_false_iff]
                intro e
                obtain ⟨_, _, ⟨x, e1, e2⟩, _⟩ := iff.1 e
                injection e1 with e1
                rw [← e1] at e2
                exact e2 h3
              rw [this]
            · rw [show ((f[f.length - 1]).1 != 3) = true by simpa using h3, cond_true]
              congr 2
              rw [Bool.eq_iff_iff, decide_eq_true_eq, iff]
              constructor
              · intro h12
                exact ⟨h1, h60, ⟨_, rfl, h3⟩, h, by omega, ht⟩
              · rintro ⟨_, _, _, h', h'', e⟩
                rw [ht] at e
                injection e with e
                injection e with _ e
                omega
          · rw [show ((lo : Int) == 0) = false by rw [beq_eq_false_iff_ne]; omega, cond_false]
            have : formulaOk f = false := by
              rw [Bool.eq_false_iff]
              intro e
              obtain ⟨_, _, _, h', h'', e⟩ := iff.1 e
              rw [ht] at e
              injection e with e
              injection e with e _
              exact h0 e
            rw [this]
      have bad : nodesB f = false → formulaOk f = false := by
        intro hg
        rw [Bool.eq_false_iff]
        intro e
        obtain ⟨_, _, _, h, _, e2⟩ := formulaOk_iff.1 e
        have : nodesB f = true := nodesB_iff.2 fun j y hy => tree_good _ e2 j y (Nat.zero_le _) (by
          have : j < f.length := by
            rcases Nat.lt_or_ge j f.length with h | h
            · exact h
            · rw [List.getElem?_eq_none h] at hy; cases hy
          omega) hy
        rw [this] at hg; cases hg
      have res : ∀ b : Bool, (b = true → nodesB f = true → False) → (b = false → True) → True := fun _ _ _ => trivial
      have outer : ∀ (m i : Nat), i ≤ f.length → f.length - i < m → (∀ j y, j < i → f[j]? = some y → nodeGood f j y = true) → spec_FormulaOk.L0 (f.length + scap + 2) m f (i : Int) = some (formulaOk f, ()) := by
        intro m
        induction m with
        | zero => intro i _ hm; omega
        | succ m ihm =>
          intro i hi hm hpre
          rw [spec_FormulaOk.L0_eq]
          by_cases hlt : i < f.length
          · have hx := List.getElem?_eq_getElem hlt
            obtain ⟨x, hxe⟩ : ∃ x, x = f[i] := ⟨_, rfl⟩
            rw [← hxe] at hx
            have hns := hf.node i x hx
            rw [bt (by omega), idx_get hx, spec_l3NodeOk_v hns, bs]
            dsimp only
            have notall : nodeGood f i x = false → formulaOk f = false := fun h => bad (by
              rw [Bool.eq_false_iff]
              intro e
              rw [nodesB_iff.1 e i x hx] at h; cases h)
            cases hok : nodeOk x
            · have : formulaOk f = false := notall (by unfold nodeGood; rw [hok]; rfl)
              rw [this]; rfl
            · rw [Bool.not_true, cond_false]
              have hkl := hns.2
              have inner : ∀ (m2 j : Nat) (r : List Int), x.kids.drop j = r → r.length < m2 → (∀ k ∈ x.kids.take j, kidGood f x i k = true) → spec_FormulaOk.L1 (f.length + scap + 2) m m2 f (i : Int) (j : Int) = some (formulaOk f, ()) := by
                intro m2
                induction m2 with
                | zero => intro j r _ hm2; omega
                | succ m2 ihm2 =>
                  intro j r hr hm2 hpre2
                  rw [spec_FormulaOk.L1_eq, idx_get hx]
                  cases r with
                  | nil =>
                    have hj := drop_nil hr
                    rw [bf (by unfold FNode.kids at hj; omega)]
                    unfold spec_FormulaOk.J1
                    rw [w64n (by omega)]
                    refine ihm (i + 1) (by omega) (by omega) fun j' y hj' hy => ?_
                    by_cases e : j' = i
                    · subst e
                      rw [hx] at hy
                      injection hy with hy
                      subst hy
                      unfold nodeGood
                      rw [hok, Bool.true_and, List.all_eq_true]
                      rw [List.take_of_length_le hj] at hpre2
                      exact hpre2
                    · exact hpre j' y (by omega) hy
                  | cons k r =>
                    obtain ⟨g1, g2, g3⟩ := get_drop hr
                    simp only [List.length_cons] at hm2
                    unfold scap at hkl
                    rw [bt (by unfold FNode.kids at g3; omega), idx_get hx, idx_get g1, w64 (by omega) (by omega), spec_l1In_v, bs]
                    dsimp only
                    have notkid : kidGood f x i k = false → formulaOk f = false := fun h => notall (by
                      unfold nodeGood
                      rw [hok, Bool.true_and, Bool.eq_false_iff]
                      intro e
                      rw [List.all_eq_true.1 e k (List.mem_of_getElem? g1)] at h; cases h)
                    have iff := kidGood_iff (x := x) (k := k) hlt
                    have next : kidGood f x i k = true → spec_FormulaOk.L1 (f.length + scap + 2) m m2 f (i : Int) (IntKind.wrap .i64 ((j : Int) + 1)) = some (formulaOk f, ()) := by
                      intro hkg
                      rw [w64n (by omega)]
                      refine ihm2 (j + 1) r g2 (by omega) fun k' hk' => ?_
                      rw [List.take_succ_eq_append_getElem g3] at hk'
                      rcases List.mem_append.1 hk' with hk' | hk'
                      · exact hpre2 k' hk'
                      · simp only [List.mem_singleton] at hk'
                        rw [List.getElem?_eq_getElem g3] at g1
                        injection g1 with g1
                        rw [hk', g1]; exact hkg
                    by_cases hin : 0 ≤ k ∧ k ≤ (i : Int) - 1
                    · rw [inB_iff.2 hin, Bool.not_true, cond_false]
                      have hkl : k.toNat < f.length := by omega
                      have hy := List.getElem?_eq_getElem hkl
                      have := idx_get (Out := Bool × Unit) hy (k := fun e10 => bif (e10.1 == (3 : Int)) then (idxC f (i : Int) fun e11 => bif (e11.1 != (6 : Int)) then some (false, ()) else spec_FormulaOk.L1 (f.length + scap + 2) m m2 f (i : Int) (IntKind.wrap .i64 ((j : Int) + (1 : Int)))) else spec_FormulaOk.L1 (f.length + scap + 2) m m2 f (i : Int) (IntKind.wrap .i64 ((j : Int) + (1 : Int))))
                      rw [Int.toNat_of_nonneg hin.1] at this
                      refine this.trans ?_
                      by_cases h3 : (f[k.toNat]).1 = 3
                      · rw [h3, show ((3 : Int) == 3) = true from rfl, cond_true, idx_get hx]
                        by_cases h6 : x.1 = 6
                        · rw [show (x.1 != 6) = false by rw [h6]; rfl, cond_false]
                          exact next (iff.2 ⟨hin.1, hin.2, fun _ _ _ => h6⟩)
                        · rw [show (x.1 != 6) = true by simpa using h6, cond_true, notkid]
                          rw [Bool.eq_false_iff]
                          intro e
                          exact h6 ((iff.1 e).2.2 _ hy h3)
                      · rw [beq_eq_false_iff_ne.2 h3, cond_false]
                        exact next (iff.2 ⟨hin.1, hin.2, fun y e1 e2 => by rw [hy] at e1; injection e1 with e1; rw [← e1] at e2; exact absurd e2 h3⟩)
                    · rw [inB_not.2 hin, Bool.not_false, cond_true, notkid]
                      rw [Bool.eq_false_iff]
                      intro e
                      have := iff.1 e
                      exact hin ⟨this.1, this.2.1⟩
              exact inner (f.length + scap + 2) 0 x.kids rfl (by omega) (by simp)
          · rw [bf (by omega)]
            exact fin (nodesB_iff.2 fun j y hy => hpre j y (by
              have : j < f.length := by
                rcases Nat.lt_or_ge j f.length with h | h
                · exact h
                · rw [List.getElem?_eq_none h] at hy; cases hy
              omega) hy) _ _
      refine spec_FormulaOk.of (f.length + scap + 2) f _ ?_
      unfold spec_FormulaOk.B
      rw [bf (by omega), bf (by omega)]
      exact outer _ 0 (Nat.zero_le _) (by omega) (fun j y h => by omega)
    · refine spec_FormulaOk.of 0 f _ ?_
      unfold spec_FormulaOk.B
      rw [bf (by omega), bt (by omega)]
      have : formulaOk f = false := by
        rw [Bool.eq_false_iff]; intro e; exact h60 (formulaOk_iff.1 e).2.1
      rw [this]
  · refine spec_FormulaOk.of 0 f _ ?_
    unfold spec_FormulaOk.B
    rw [bt (by omega)]
    have : formulaOk f = false := by
      rw [Bool.eq_false_iff]; intro e; exact h1 (formulaOk_iff.1 e).1
    rw [this]

/-! The program's own way. -/
def fromI (o : Option (Nat × Nat)) (deep : Nat) : Int := match o with | some p => if deep + p.2 ≤ 12 then (p.1 : Int) else -1 | none => -1

theorem impl_from_v {f : List FNode} (hf : formS f) : ∀ (n : Nat), n < f.length → ∀ deep : Nat, deep ≤ 12 → impl_from f (n : Int) (deep : Int) = some (fromI (treeAt f n) deep, ()) := by
  have hfl := hf.len
  unfold scap at hfl
  intro n
  induction n using Nat.strongRecOn with
  | _ n ih =>
    intro hn deep hdeep
    have hx := List.getElem?_eq_getElem hn
    obtain ⟨x, hxe⟩ : ∃ x, x = f[n] := ⟨_, rfl⟩
    rw [← hxe] at hx
    have hns := hf.node n x hx
    have hkl := hns.2
    unfold scap at hkl
    by_cases h12 : deep = 12
    · refine impl_from.of 0 f n deep _ ?_
      unfold impl_from.B
      rw [bf (by omega), bt (by omega)]
      have : fromI (treeAt f n) deep = -1 := by
        unfold fromI
        cases ht : treeAt f n with
        | none => rfl
        | some p =>
          have := (tree_le ht).2.1
          dsimp only
          rw [if_neg (by omega)]
      rw [this]
    · have loop : ∀ (m i hi h : Nat), i ≤ x.kids.length → i < m → hi ≤ n → deep + (h + 1) ≤ 12 → impl_from.L0 (x.kids.length + 1) m f (n : Int) (deep : Int) (hi : Int) ((i : Int) - 1) =
          some (fromI ((kidsT (treeAt f) f x (x.kids.take i).reverse hi h).map fun p : Nat × Nat => (p.1, p.2 + 1)) deep, ()) := by
        intro m
        induction m with
        | zero => intro i hi h _ hm; omega
        | succ m ihm =>
          intro i hi h hi1 hm hle hdh
          rw [impl_from.L0_eq]
          cases i with
          | zero =>
            rw [bf (by omega), List.take_zero, List.reverse_nil]
            unfold impl_from.J0 kidsT fromI
            dsimp only [Option.map_some]
            rw [if_pos (by omega)]
          | succ i =>
            have hil : i < x.kids.length := by omega
            rw [bt (by omega), List.take_succ_eq_append_getElem hil, List.reverse_append, List.reverse_cons, List.reverse_nil, List.nil_append, List.singleton_append]
            unfold kidsT
            rw [idx_get hx, show (((i + 1 : Nat) : Int) - 1) = (i : Int) by omega, idx_at hil, w64 (by omega) (by omega)]
            by_cases hke : x.kids[i] + 1 = (hi : Int)
            · rw [show (x.kids[i] != ((hi : Int) - 1)) = false by rw [bne_eq_false_iff_eq]; omega, cond_false]
              by_cases h0 : hi = 0
              · subst h0
                rw [bt (by omega), if_neg (by omega)]; rfl
              · rw [bf (by omega), if_pos ⟨hke, by omega⟩]
                have hlt : hi - 1 < f.length := by omega
                have hy := List.getElem?_eq_getElem hlt
                rw [hy]
                dsimp only
                rw [show x.kids[i] = ((hi - 1 : Nat) : Int) by omega, idx_get hy, idx_get hx]
                have hrec := ih (hi - 1) (by omega) hlt (deep + 1) (by omega)
                rw [show ((deep + 1 : Nat) : Int) = (deep : Int) + 1 by omega] at hrec
                rw [w64 (x := (deep : Int) + 1) (by omega) (by omega), hrec]
                simp only [bs]
                have tail : (bif decide (fromI (treeAt f (hi - 1)) (deep + 1) < 0) then some ((-1 : Int), ()) else impl_from.L0 (x.kids.length + 1) m f (n : Int) (deep : Int) (fromI (treeAt f (hi - 1)) (deep + 1)) (IntKind.wrap .i64 ((i : Int) - 1))) =
                    some (fromI ((match treeAt f (hi - 1) with
                      | none => none
                      | some (lo, h1) => kidsT (treeAt f) f x (x.kids.take i).reverse lo (max h h1)).map fun p : Nat × Nat => (p.1, p.2 + 1)) deep, ()) := by
                  cases ht : treeAt f (hi - 1) with
                  | none => rfl
                  | some p =>
                    obtain ⟨lo, h1⟩ := p
                    have htl := tree_le ht
                    dsimp only at htl
                    by_cases hd1 : deep + 1 + h1 ≤ 12
                    · have e : fromI (some (lo, h1)) (deep + 1) = (lo : Int) := by unfold fromI; dsimp only; rw [if_pos hd1]
                      rw [e, bf (by omega), w64 (by omega) (by omega)]
                      exact ihm i lo (max h h1) (by omega) (by omega) (by omega) (by omega)
                    · have e : fromI (some (lo, h1)) (deep + 1) = -1 := by unfold fromI; dsimp only; rw [if_neg hd1]
                      rw [e, bt (by omega)]
                      dsimp only
                      cases hk : kidsT (treeAt f) f x (x.kids.take i).reverse lo (max h h1) with
                      | none => rfl
                      | some q =>
                        obtain ⟨lo2, h2⟩ := q
                        have := (kidsT_le (fun n p hn hr => (tree_le hr).1) hk).2
                        unfold fromI
                        dsimp only [Option.map_some]
                        rw [if_neg (by omega)]
                by_cases h3 : (f[hi - 1]).1 = 3
                · rw [h3, show ((3 : Int) == 3) = true from rfl, cond_true]
                  by_cases h6 : x.1 = 6
                  · rw [show (x.1 != 6) = false by rw [h6]; rfl, cond_false, if_neg (fun e => e.2 h6)]
                    exact tail
                  · rw [show (x.1 != 6) = true by simpa using h6, cond_true, if_pos ⟨rfl, h6⟩]; rfl
                · rw [beq_eq_false_iff_ne.2 h3, cond_false, if_neg (fun e => h3 e.1)]
                  exact tail
            · rw [show (x.kids[i] != ((hi : Int) - 1)) = true by rw [bne_iff_ne]; omega, cond_true, if_neg (fun e => hke e.1)]; rfl
      refine impl_from.of (x.kids.length + 1) f n deep _ ?_
      unfold impl_from.B
      rw [bf (by omega), bf (by omega), idx_get hx, impl_isOwn_v hns, bs]
      dsimp only
      rw [treeAt_eq, hx]
      dsimp only
      cases hok : nodeOk x
      · rw [if_neg (by simp)]; rfl
      · rw [Bool.not_true, cond_false, idx_get hx, if_pos rfl, w64 (by unfold FNode.kids at hkl; omega) (by unfold FNode.kids at hkl; omega)]
        have := loop (x.kids.length + 1) x.kids.length n 0 (Nat.le_refl _) (by omega) (Nat.le_refl _) (by omega)
        rw [List.take_length] at this
        refine this.trans ?_
        cases kidsT (treeAt f) f x x.kids.reverse n 0 with
        | none => rfl
        | some p => rfl

theorem impl_FormulaOk_v {f : List FNode} (hf : formS f) : impl_FormulaOk f = some (formulaOk f, ()) := by
  have hfl := hf.len
  unfold scap at hfl
  refine impl_FormulaOk.of 0 f _ ?_
  unfold impl_FormulaOk.B
  rw [impl_within_v, bs]
  dsimp only
  by_cases h : 1 ≤ f.length ∧ f.length ≤ 60
  · rw [inB_iff.2 ⟨by omega, by omega⟩, cond_true, w64 (by omega) (by omega), show (f.length : Int) - 1 = ((f.length - 1 : Nat) : Int) by omega]
    have hroot := List.getElem?_eq_getElem (l := f) (i := f.length - 1) (by omega)
    have iff := formulaOk_iff (f := f)
    rw [hroot] at iff
    rw [idx_get hroot]
    by_cases h3 : (f[f.length - 1]).1 = 3
    · rw [show ((f[f.length - 1]).1 != 3) = false by rw [h3]; rfl, cond_false]
      have : formulaOk f = false := by
        rw [Bool.eq_false_iff]
        intro e
        obtain ⟨_, _, ⟨x, e1, e2⟩, _⟩ := iff.1 e
        injection e1 with e1
        rw [← e1] at e2
        exact e2 h3
      rw [this]
    · rw [show ((f[f.length - 1]).1 != 3) = true by simpa using h3, cond_true]
      have := impl_from_v hf (f.length - 1) (by omega) 0 (by omega)
      rw [show ((0 : Nat) : Int) = 0 from rfl] at this
      rw [this, bs]
      dsimp only
      congr 2
      rw [Bool.eq_iff_iff, beq_iff_eq, iff]
      unfold fromI
      cases ht : treeAt f (f.length - 1) with
      | none => simp
      | some p =>
        obtain ⟨lo, hh⟩ := p
        dsimp only
        constructor
        · intro e
          split at e
          · exact ⟨h.1, h.2, ⟨_, rfl, h3⟩, hh, by omega, by rw [show lo = 0 by omega]⟩
          · omega
        · rintro ⟨_, _, _, h', h'', e⟩
          injection e with e
          injection e with e1 e2
          rw [if_pos (by omega)]; omega
  · have : formulaOk f = false := by
      rw [Bool.eq_false_iff]; intro e; have := formulaOk_iff.1 e; exact h ⟨this.1, this.2.1⟩
    rw [inB_not.2 (by omega), cond_false, this]

end Go.Proofs.YtmgeeanbecmkbaaGreatDoor.Den
namespace Go.Proofs.YtmgeeanbecmkbaaGreatDoor.Den
open Go
set_option linter.unusedSimpArgs false

theorem impl_binds_v (op : Int) : impl_binds op = some (binds op, ()) := by
  refine impl_binds.of 0 op _ ?_
  unfold impl_binds.B impl_binds.J0 impl_binds.J1 binds
  by_cases h3 : op = 3
  · subst h3; rfl
  by_cases h4 : op = 4
  · subst h4; rfl
  by_cases h1 : op = 1
  · subst h1; rfl
  by_cases h2 : op = 2
  · subst h2; rfl
  by_cases h5 : op = 5
  · subst h5; rfl
  rw [beq_eq_false_iff_ne.2 h3, beq_eq_false_iff_ne.2 h4, beq_eq_false_iff_ne.2 h1, beq_eq_false_iff_ne.2 h2, beq_eq_false_iff_ne.2 h5, if_neg (by omega), if_neg (by omega), if_neg h5]; rfl
theorem spec_l3Level_v {op : Int} (h1 : 1 ≤ op) : spec_l3Level op = some (binds op, ()) := by
  refine spec_l3Level.of 0 op _ ?_
  unfold spec_l3Level.B binds
  by_cases h6 : 6 ≤ op
  · rw [bt (by omega), if_neg (by omega), if_neg (by omega), if_neg (by omega)]
  · have : op = 1 ∨ op = 2 ∨ op = 3 ∨ op = 4 ∨ op = 5 := by omega
    rcases this with rfl | rfl | rfl | rfl | rfl <;> rfl

theorem op_idx {Out : Type} {op : Int} (h1 : 0 ≤ op) (h2 : op ≤ 11) {k : Bytes → Option Out} : idxC ([([] : List UInt8), ([43] : List UInt8), ([45] : List UInt8), ([42] : List UInt8), ([47] : List UInt8), ([38] : List UInt8), ([61] : List UInt8), ([60, 62] : List UInt8), ([60] : List UInt8), ([60, 61] : List UInt8), ([62] : List UInt8), ([62, 61] : List UInt8)] : (List (List UInt8))) op k = k (opText op) := by
  have : op = 0 ∨ op = 1 ∨ op = 2 ∨ op = 3 ∨ op = 4 ∨ op = 5 ∨ op = 6 ∨ op = 7 ∨ op = 8 ∨ op = 9 ∨ op = 10 ∨ op = 11 := by omega
  rcases this with rfl | rfl | rfl | rfl | rfl | rfl | rfl | rfl | rfl | rfl | rfl | rfl <;> rfl
theorem fn_idx {Out : Type} {op : Int} (h1 : 0 ≤ op) (h2 : op ≤ 10) {k : Bytes → Option Out} : idxC ([([] : List UInt8), ([83, 85, 77] : List UInt8), ([77, 73, 78] : List UInt8), ([77, 65, 88] : List UInt8), ([67, 79, 85, 78, 84] : List UInt8), ([73, 70] : List UInt8), ([65, 78, 68] : List UInt8), ([79, 82] : List UInt8), ([78, 79, 84] : List UInt8), ([65, 66, 83] : List UInt8), ([76, 69, 78] : List UInt8)] : (List (List UInt8))) op k = k (fnText op) := by
  have : op = 0 ∨ op = 1 ∨ op = 2 ∨ op = 3 ∨ op = 4 ∨ op = 5 ∨ op = 6 ∨ op = 7 ∨ op = 8 ∨ op = 9 ∨ op = 10 := by omega
  rcases this with rfl | rfl | rfl | rfl | rfl | rfl | rfl | rfl | rfl | rfl | rfl <;> rfl
theorem spec_l3Sign_v {op : Int} (h1 : 0 ≤ op) (h2 : op ≤ 11) : spec_l3Sign op = some (opText op, ()) := spec_l3Sign.of 0 op _ (by unfold spec_l3Sign.B; rw [op_idx h1 h2])
theorem impl_opText_v {op : Int} (h1 : 0 ≤ op) (h2 : op ≤ 11) : impl_opText op = some (opText op, ()) := impl_opText.of 0 op _ (by unfold impl_opText.B; rw [op_idx h1 h2])
theorem spec_l3Fn_v {op : Int} (h1 : 0 ≤ op) (h2 : op ≤ 10) : spec_l3Fn op = some (fnText op, ()) := spec_l3Fn.of 0 op _ (by unfold spec_l3Fn.B; rw [fn_idx h1 h2])
theorem impl_fnText_v {op : Int} (h1 : 0 ≤ op) (h2 : op ≤ 10) : impl_fnText op = some (fnText op, ()) := impl_fnText.of 0 op _ (by unfold impl_fnText.B; rw [fn_idx h1 h2])

/-! Quotes. -/
theorem index1 (c : UInt8) : ∀ s : Bytes, (c ∉ s ∧ Lib.index s [c] = -1) ∨ ∃ p q, s = p ++ c :: q ∧ c ∉ p ∧ Lib.index s [c] = (p.length : Int)
  | [] => .inl ⟨by simp, rfl⟩
  | b :: l => by
    rw [Lib.index_one]
    by_cases hb : b = c
    · subst hb
      exact .inr ⟨[], l, rfl, by simp, by unfold Lib.indexByte; rw [if_pos (by simp)]; rfl⟩
    · have hl := index1 c l
      rw [Lib.index_one] at hl
      unfold Lib.indexByte
      rw [if_neg (by simpa using hb)]
      rcases hl with ⟨h1, h2⟩ | ⟨p, q, h1, h2, h3⟩
      · exact .inl ⟨by simp only [List.mem_cons, not_or]; exact ⟨fun e => hb e.symm, h1⟩, by rw [h2]; rfl⟩
      · refine .inr ⟨b :: p, q, by rw [h1]; rfl, by simp only [List.mem_cons, not_or]; exact ⟨fun e => hb e.symm, h2⟩, ?_⟩
        rw [h3, if_neg (by simp), List.length_cons]; omega
theorem flatMap_dq_none : ∀ {p : Bytes}, (34 : UInt8) ∉ p → p.flatMap dq = p
  | [], _ => rfl
  | a :: r, h => by
    simp only [List.mem_cons, not_or] at h
    rw [List.flatMap_cons, flatMap_dq_none h.2]
    unfold dq
    rw [if_neg (fun e => h.1 e.symm)]; rfl
theorem replaceK_dq : ∀ (k : Nat) (s : Bytes), s.count 34 = k → Lib.replaceK [34] [34, 34] k s = s.flatMap dq
  | 0, s, h => (flatMap_dq_none (List.count_eq_zero.1 h)).symm
  | k + 1, s, h => by
    rcases index1 34 s with ⟨h1, _⟩ | ⟨p, q, h1, h2, h3⟩
    · rw [List.count_eq_zero.2 h1] at h; cases h
    · rw [Lib.replaceK_hit _ _ _ _ _ h3]
      subst h1
      rw [List.take_left, List.length_singleton, show (p ++ 34 :: q).drop (p.length + 1) = q by rw [← List.drop_drop, List.drop_left]; rfl, List.flatMap_append, flatMap_dq_none h2, List.flatMap_cons, replaceK_dq k q (by
        rw [List.count_append, List.count_eq_zero.2 h2, List.count_cons_self] at h; omega)]
      rw [List.append_assoc]; rfl
theorem replaceAll_dq (s : Bytes) : Lib.replaceAll s [34] [34, 34] = s.flatMap dq := by
  unfold Lib.replaceAll Lib.replace Lib.replaceNum
  rw [if_neg (by decide), if_pos (.inl (by decide)), Lib.count_one, replaceK_dq _ _ rfl]

theorem dq_len (c : UInt8) : (dq c).length ≤ 2 := by unfold dq; split <;> simp
theorem take_drop_one {s r : Bytes} {i : Nat} {c : UInt8} (h : s.drop i = c :: r) : (s.take (i + 1)).drop i = [c] := by
  rw [List.drop_take, h, show i + 1 - i = 1 by omega]; rfl
theorem spec_l3Quote_loop (k : Nat) (s : Bytes) (hs : s.length ≤ 1000) : ∀ (m i : Nat) (r o : Bytes), s.drop i = r → i ≤ s.length → r.length < m → o.length ≤ 1 + 2 * i → spec_l3Quote.L0 k m s o (i : Int) = some (o ++ r.flatMap dq ++ [34], ())
  | 0, i, r, _, _, _, h, _ => by omega
  | m + 1, i, [], o, h, _, _, ho => by
    have := drop_nil h
    rw [spec_l3Quote.L0_eq, bf (by omega)]
    unfold spec_l3Quote.J1
    rw [bt (by unfold scap; simp only [List.length_cons, List.length_nil]; omega)]
    simp
  | m + 1, i, c :: r, o, h, _, hm, ho => by
    obtain ⟨h1, h2, h3⟩ := get_drop h
    simp only [List.length_cons] at hm
    have next : ∀ o', o'.length ≤ 1 + 2 * i + 1 → spec_l3Quote.J0 k m s o' (i : Int) = some (o' ++ [c] ++ r.flatMap dq ++ [34], ()) := by
      intro o' ho'
      unfold spec_l3Quote.J0
      rw [w64n (by omega), cut_at (by omega) (by omega)]
      rw [take_drop_one h, bt (by unfold scap; simp only [List.length_cons, List.length_nil]; omega)]
      exact spec_l3Quote_loop k s hs m (i + 1) r (o' ++ [c]) h2 (by omega) (by omega) (by simp only [List.length_append, List.length_cons, List.length_nil]; omega)
    rw [spec_l3Quote.L0_eq, bt (by omega), idx_get h1, List.flatMap_cons]
    by_cases hc : c = 34
    · subst hc
      rw [show (((34 : UInt8).toNat : Int) == 34) = true from rfl, cond_true, bt (by unfold scap; simp only [List.length_cons, List.length_nil]; omega), next _ (by simp only [List.length_append, List.length_cons, List.length_nil]; omega)]
      simp [dq]
    · rw [show ((c.toNat : Int) == 34) = false by
        rw [beq_eq_false_iff_ne]; intro e; exact hc (by rw [← UInt8.toNat_inj]; exact Int.ofNat.inj e)]
      rw [cond_false, next _ (by omega)]
      simp [dq, hc]
theorem spec_l3Quote_v {s : Bytes} (hs : s.length ≤ 1000) : spec_l3Quote s = some (quote s, ()) := spec_l3Quote.of (s.length + 1) s _ (spec_l3Quote_loop _ s hs (s.length + 1) 0 s [34] rfl (by omega) (by omega) (by simp))


theorem binds_le (op : Int) : 1 ≤ binds op ∧ binds op ≤ 4 := by unfold binds; split <;> (try split) <;> (try split) <;> omega

/-- Texts within sixty nodes are far from the machine's limits. -/
theorem text_short {f : List FNode} {n : Nat} (hn : n < 60) {p : Nat × Nat} (h : treeAt f n = some p) (l : Int) : (textAt f n l).length ≤ 60000 := by
  have := text_len n h l
  omega
theorem valueOk_text {v : Value} (h : valueOk v = true) : v.2.2.1.length ≤ 200 := valueOk_len h

theorem spec_l3Text_v {f : List FNode} : ∀ (n : Nat) {p : Nat × Nat}, n < 60 → treeAt f n = some p → ∀ l : Int, spec_l3Text f (n : Int) l = some (textAt f n l, ()) := by
  intro n
  induction n using Nat.strongRecOn with
  | _ n ih =>
    intro p hn h l
    obtain ⟨x, hx, hok, _, hkid, hkt⟩ := tree_high h
    have hall := text_short hn h
    have kidv : ∀ k ∈ x.kids, ∀ l : Int, spec_l3Text f k l = some (textAt f k.toNat l, ()) ∧ (textAt f k.toNat l).length ≤ 60000 := by
      intro k hk l
      obtain ⟨k0, k1, q, hq⟩ := hkid k hk
      have := ih k.toNat k1 (by omega) hq l
      rw [Int.toNat_of_nonneg k0] at this
      exact ⟨this, text_short (by omega) hq l⟩
    refine spec_l3Text.of (x.kids.length + 1) f n l _ ?_
    unfold spec_l3Text.B
    rw [idx_get hx, textAt_eq h hx]
    rcases nodeOk_cases hok with ⟨e, hv, _, _⟩ | ⟨e, _⟩ | ⟨e, _⟩ | ⟨e, hk⟩ | ⟨e, o1, o2, hk⟩ | ⟨e, o1, o2, _, k1, k2⟩
    · rw [textOf_1 e, e]
      show (bif (x.2.2.1.1 == (2 : Int)) then _ else _) = _
      have hs := valueOk_text hv
      by_cases h2 : x.2.2.1.1 = 2
      · rw [if_pos h2, h2]
        show (spec_l3Quote x.2.2.1.2.2.1).bind _ = _
        rw [spec_l3Quote_v (by omega)]; rfl
      · rw [if_neg h2, beq_eq_false_iff_ne.2 h2, cond_false, spec_ValueText_v (by unfold scap; omega), hv]; rfl
    · rw [textOf_2 e, e]
      show (spec_PlaceText x.2.2.2.1).bind _ = _
      rw [spec_PlaceText_v]; rfl
    · rw [textOf_3 e, e]
      show (spec_PlaceText x.2.2.2.1).bind _ = _
      have h1 := placeText_len x.2.2.2.1
      have h2 := placeText_len x.2.2.2.2.1
      rw [spec_PlaceText_v, bs, bt (by unfold scap; simp only [List.length_cons, List.length_nil]; omega), spec_PlaceText_v, bs, bt (by unfold scap; simp only [List.length_append, List.length_cons, List.length_nil]; omega)]
    · rw [textOf_4 e, e]
      show (idxC x.kids 0 _) = _
      match hkk : x.kids, hk with
      | [a], _ =>
        obtain ⟨v1, v2⟩ := kidv a (by rw [hkk]; simp) 5
        rw [idx_head, v1, bs, bt (by unfold scap; simp only [List.length_cons, List.length_nil]; omega)]; rfl
    · have e5 := textOf_5 (rec := fun k l => textAt f k.toNat l) (l := l) e
      rw [e5, e]
      show ((spec_l3Level x.2.1).bind fun q9 => idxC x.kids 0 fun e10 => (spec_l3Text f e10 q9.1).bind fun q11 => (spec_l3Sign x.2.1).bind fun q12 => bif decide (q11.1.length + q12.1.length ≤ scap) then idxC x.kids (1 : Int) fun e13 => _ else none) = _
      have hb := binds_le x.2.1
      have ho := opText_len x.2.1
      match hkk : x.kids, hk with
      | [a, b], _ =>
        obtain ⟨a1, a2⟩ := kidv a (by rw [hkk]; simp) (binds x.2.1)
        obtain ⟨b1, b2⟩ := kidv b (by rw [hkk]; simp) (binds x.2.1 + 1)
        rw [spec_l3Level_v o1, bs, idx_head, a1, bs, spec_l3Sign_v (by omega) o2, bs, bt (by unfold scap; dsimp only; omega)]
        show (spec_l3Text f b (IntKind.wrap .i64 (binds x.2.1 + 1))).bind _ = _
        rw [w64 (by omega) (by omega), b1, bs, bt (by unfold scap; simp only [List.length_append]; omega)]
        show (bif decide (binds x.2.1 < l) then _ else _) = some (if binds x.2.1 < l then [40] ++ (textAt f a.toNat (binds x.2.1) ++ opText x.2.1 ++ textAt f b.toNat (binds x.2.1 + 1)) ++ [41] else textAt f a.toNat (binds x.2.1) ++ opText x.2.1 ++ textAt f b.toNat (binds x.2.1 + 1), ())
        by_cases hlt : binds x.2.1 < l
        · rw [bt hlt, if_pos hlt, bt (by unfold scap; simp only [List.length_append, List.length_cons, List.length_nil]; omega), bt (by unfold scap; simp only [List.length_append, List.length_cons, List.length_nil]; omega)]
        · rw [bf hlt, if_neg hlt]
    · rw [textOf_6 e, e]
      show ((spec_l3Fn x.2.1).bind _) = _
      have ho := fnText_len x.2.1
      rw [spec_l3Fn_v (by omega) o2, bs, bt (by unfold scap; simp only [List.length_cons, List.length_nil]; omega)]
      have loop : ∀ (m i : Nat) (r : List Int) (o : Bytes), x.kids.drop i = r → i ≤ x.kids.length → r.length < m → o.length ≤ 6 + 60001 * i → spec_l3Text.L0 (x.kids.length + 1) m f o (i : Int) x.1 x.2.1 x.2.2.1 x.2.2.2.1 x.2.2.2.2.1 x.kids =
          some (o ++ (if i = 0 then Lib.join (r.map fun k => textAt f k.toNat 0) [44] else Lib.joinTail [44] (r.map fun k => textAt f k.toNat 0)) ++ [41], ()) := by
        intro m
        induction m with
        | zero => intro i r o _ _ hm; omega
        | succ m ihm =>
          intro i r o hr hi hm ho
          rw [spec_l3Text.L0_eq]
          cases r with
          | nil =>
            have := drop_nil hr
            rw [bf (by omega)]
            unfold spec_l3Text.J1
            rw [bt (by unfold scap; simp only [List.length_cons, List.length_nil]; omega), if_neg (by omega)]
            simp [Lib.joinTail]
          | cons k r =>
            obtain ⟨g1, g2, g3⟩ := get_drop hr
            simp only [List.length_cons] at hm
            obtain ⟨v1, v2⟩ := kidv k (List.mem_of_getElem? g1) 0
            have next : ∀ o', o'.length ≤ 6 + 60001 * i + 1 → spec_l3Text.J0 (x.kids.length + 1) m f o' (i : Int) x.1 x.2.1 x.2.2.1 x.2.2.2.1 x.2.2.2.2.1 x.kids =
                some (o' ++ textAt f k.toNat 0 ++ Lib.joinTail [44] (r.map fun k => textAt f k.toNat 0) ++ [41], ()) := by
              intro o' ho'
              unfold spec_l3Text.J0
              rw [idx_get g1, v1, bs, bt (by unfold scap; dsimp only; omega), w64n (by omega)]
              have := ihm (i + 1) r (o' ++ textAt f k.toNat 0) g2 (by omega) (by omega) (by simp only [List.length_append]; omega)
              rw [if_neg (by omega)] at this
              exact this
            rw [bt (by omega)]
            by_cases h0 : i = 0
            · rw [if_pos h0, bf (by omega), next o (by omega), List.map_cons, Lib.join_cons, List.append_assoc o]
            · rw [if_neg h0, bt (by omega), bt (by unfold scap; simp only [List.length_cons, List.length_nil]; omega), next _ (by simp only [List.length_append, List.length_cons, List.length_nil]; omega)]
              simp [Lib.joinTail]
      have := loop (x.kids.length + 1) 0 x.kids (fnText x.2.1 ++ [40]) rfl (Nat.zero_le _) (by omega) (by simp only [List.length_append, List.length_cons, List.length_nil]; omega)
      rw [if_pos rfl] at this
      have same : (x.kids.map fun k => textAt f k.toNat 0) = x.kids.map fun k => textAt f k.toNat 1 := List.map_congr_left fun k hk => by
        obtain ⟨_, _, q, hq⟩ := hkid k hk
        exact text_least hq
      rw [same, e] at this
      exact this

theorem impl_formulaText_v {f : List FNode} : ∀ (n : Nat) {p : Nat × Nat}, n < 60 → treeAt f n = some p → ∀ l : Int, impl_formulaText f (n : Int) l = some (textAt f n l, ()) := by
  intro n
  induction n using Nat.strongRecOn with
  | _ n ih =>
    intro p hn h l
    obtain ⟨x, hx, hok, _, hkid, hkt⟩ := tree_high h
    have hall := text_short hn h
    have kidv : ∀ k ∈ x.kids, ∀ l : Int, impl_formulaText f k l = some (textAt f k.toNat l, ()) ∧ (textAt f k.toNat l).length ≤ 60000 := by
      intro k hk l
      obtain ⟨k0, k1, q, hq⟩ := hkid k hk
      have := ih k.toNat k1 (by omega) hq l
      rw [Int.toNat_of_nonneg k0] at this
      exact ⟨this, text_short (by omega) hq l⟩
    refine impl_formulaText.of (x.kids.length + 1) f n l _ ?_
    unfold impl_formulaText.B
    rw [idx_get hx, textAt_eq h hx]
    rcases nodeOk_cases hok with ⟨e, hv, _, _⟩ | ⟨e, _⟩ | ⟨e, _⟩ | ⟨e, hk⟩ | ⟨e, o1, o2, hk⟩ | ⟨e, o1, o2, _, k1, k2⟩
    · rw [textOf_1 e, e]
      show (bif (x.2.2.1.1 == (2 : Int)) then _ else _) = _
      have hs := valueOk_text hv
      by_cases h2 : x.2.2.1.1 = 2
      · rw [if_pos h2, h2]
        show (strings_ReplaceAll x.2.2.1.2.2.1 [34] [34, 34]).bind _ = _
        rw [strings_ReplaceAll.of _ _ _ _ (pReplaceAll_eq (by omega) (by simp) (by simp only [List.length_cons, List.length_nil]; omega)), bs, replaceAll_dq]
        have := flatMap_dq_len x.2.2.1.2.2.1
        rw [bt (by unfold scap; simp only [List.length_cons, List.length_nil]; omega), bt (by unfold scap; simp only [List.length_append, List.length_cons, List.length_nil]; omega)]
        rfl
      · rw [if_neg h2, beq_eq_false_iff_ne.2 h2, cond_false, impl_valueText_v hv]; rfl
    · rw [textOf_2 e, e]
      show (impl_PlaceText x.2.2.2.1).bind _ = _
      rw [impl_PlaceText_v]; rfl
    · rw [textOf_3 e, e]
      show (impl_PlaceText x.2.2.2.1).bind _ = _
      have h1 := placeText_len x.2.2.2.1
      have h2 := placeText_len x.2.2.2.2.1
      rw [impl_PlaceText_v, bs, bt (by unfold scap; simp only [List.length_cons, List.length_nil]; omega), impl_PlaceText_v, bs, bt (by unfold scap; simp only [List.length_append, List.length_cons, List.length_nil]; omega)]
    · rw [textOf_4 e, e]
      show (idxC x.kids 0 _) = _
      match hkk : x.kids, hk with
      | [a], _ =>
        obtain ⟨v1, v2⟩ := kidv a (by rw [hkk]; simp) 5
        rw [idx_head, v1, bs, bt (by unfold scap; simp only [List.length_cons, List.length_nil]; omega)]; rfl
    · have e5 := textOf_5 (rec := fun k l => textAt f k.toNat l) (l := l) e
      rw [e5, e]
      show ((impl_binds x.2.1).bind fun q9 => idxC x.kids 0 fun e10 => (impl_formulaText f e10 q9.1).bind fun q11 => (impl_opText x.2.1).bind fun q12 => bif decide (q11.1.length + q12.1.length ≤ scap) then idxC x.kids (1 : Int) fun e13 => _ else none) = _
      have hb := binds_le x.2.1
      have ho := opText_len x.2.1
      match hkk : x.kids, hk with
      | [a, b], _ =>
        obtain ⟨a1, a2⟩ := kidv a (by rw [hkk]; simp) (binds x.2.1)
        obtain ⟨b1, b2⟩ := kidv b (by rw [hkk]; simp) (binds x.2.1 + 1)
        rw [impl_binds_v, bs, idx_head, a1, bs, impl_opText_v (by omega) o2, bs, bt (by unfold scap; dsimp only; omega)]
        show (impl_formulaText f b (IntKind.wrap .i64 (binds x.2.1 + 1))).bind _ = _
        rw [w64 (by omega) (by omega), b1, bs, bt (by unfold scap; simp only [List.length_append]; omega)]
        show (bif decide (binds x.2.1 < l) then _ else _) = some (if binds x.2.1 < l then [40] ++ (textAt f a.toNat (binds x.2.1) ++ opText x.2.1 ++ textAt f b.toNat (binds x.2.1 + 1)) ++ [41] else textAt f a.toNat (binds x.2.1) ++ opText x.2.1 ++ textAt f b.toNat (binds x.2.1 + 1), ())
        by_cases hlt : binds x.2.1 < l
        · rw [bt hlt, if_pos hlt, bt (by unfold scap; simp only [List.length_append, List.length_cons, List.length_nil]; omega), bt (by unfold scap; simp only [List.length_append, List.length_cons, List.length_nil]; omega)]
        · rw [bf hlt, if_neg hlt]
    · rw [textOf_6 e, e]
      show impl_formulaText.L0 _ _ f [] x.kids (x.kids.length : Int) (0 : Int) 6 x.2.1 x.2.2.1 x.2.2.2.1 x.2.2.2.2.1 x.kids = _
      have ho := fnText_len x.2.1
      have loop : ∀ (m i : Nat) (r : List Int) (o : List Bytes), x.kids.drop i = r → o = (x.kids.take i).map (fun k => textAt f k.toNat 1) → i ≤ x.kids.length → r.length < m → impl_formulaText.L0 (x.kids.length + 1) m f o x.kids (x.kids.length : Int) (i : Int) 6 x.2.1 x.2.2.1 x.2.2.2.1 x.2.2.2.2.1 x.kids =
          some (fnText x.2.1 ++ [40] ++ Lib.join (x.kids.map fun k => textAt f k.toNat 1) [44] ++ [41], ()) := by
        intro m
        induction m with
        | zero => intro i r o _ _ _ hm; omega
        | succ m ihm =>
          intro i r o hr ho' hi hm
          rw [impl_formulaText.L0_eq]
          cases r with
          | nil =>
            have hl := drop_nil hr
            rw [List.take_of_length_le hl] at ho'
            subst ho'
            have hlen : (Lib.join (x.kids.map fun k => textAt f k.toNat 1) [44]).length ≤ 610000 := by
              have key : ∀ ks : List Int, (∀ k ∈ ks, (textAt f k.toNat 1).length ≤ 60000) → ((ks.map fun k => textAt f k.toNat 1).map fun t => 1 + t.length).sum ≤ 60001 * ks.length := by
                intro ks
                induction ks with
                | nil => intro _; simp
                | cons k r ihk =>
                  intro hk
                  have h1 := ihk fun k hk' => hk k (List.mem_cons_of_mem _ hk')
                  have h2 := hk k (List.mem_cons_self ..)
                  simp only [List.map_cons, List.sum_cons, List.length_cons]
                  omega
              have := join_len (x.kids.map fun k => textAt f k.toNat 1) 44
              have := key x.kids fun k hk => (kidv k hk 1).2
              omega
            rw [bf (by omega)]
            unfold impl_formulaText.J0
            rw [impl_fnText_v (by omega) o2, bs, bt (by unfold scap; simp only [List.length_cons, List.length_nil]; omega), strings_Join.of _ _ _ (pJoin_eq (by rw [List.length_map]; omega) (by omega)), bs,
              bt (by unfold scap; simp only [List.length_append, List.length_cons, List.length_nil]; omega), bt (by unfold scap; simp only [List.length_append, List.length_cons, List.length_nil]; omega)]
          | cons k r =>
            obtain ⟨g1, g2, g3⟩ := get_drop hr
            simp only [List.length_cons] at hm
            obtain ⟨v1, v2⟩ := kidv k (List.mem_of_getElem? g1) 1
            have hol : o.length = i := by rw [ho', List.length_map, List.length_take]; omega
            rw [bt (by omega), idx_get g1, v1, bs, bt (by unfold cap; simp only [List.length_cons, List.length_nil]; omega), w64n (by omega)]
            refine ihm (i + 1) r _ g2 ?_ (by omega) (by omega)
            rw [ho', List.take_add_one, g1, List.map_append]; rfl
      exact loop (x.kids.length + 1) 0 x.kids [] rfl rfl (Nat.zero_le _) (by omega)

theorem spec_FormulaText_v {f : List FNode} (hf : formS f) : spec_FormulaText f = some (formulaText f, ()) := by
  refine spec_FormulaText.of 0 f _ ?_
  unfold spec_FormulaText.B formulaText
  rw [spec_FormulaOk_v hf, bs]
  cases hok : formulaOk f
  · rfl
  · obtain ⟨h1, h2, _, hh, _, ht⟩ := formulaOk_iff.1 hok
    rw [Bool.not_true, cond_false, cond_true, w64 (by omega) (by omega), show (f.length : Int) - 1 = ((f.length - 1 : Nat) : Int) by omega, spec_l3Text_v _ (by omega) ht, bs, text_least ht]
    by_cases hl : (textAt f (f.length - 1) 1).length ≤ 200
    · rw [bf (by dsimp only; omega), if_pos hl]
    · rw [bt (by dsimp only; omega), if_neg hl]
theorem impl_FormulaText_v {f : List FNode} (hf : formS f) : impl_FormulaText f = some (formulaText f, ()) := by
  refine impl_FormulaText.of 0 f _ ?_
  unfold impl_FormulaText.B formulaText
  rw [impl_FormulaOk_v hf, bs]
  cases hok : formulaOk f
  · rfl
  · obtain ⟨h1, h2, _, hh, _, ht⟩ := formulaOk_iff.1 hok
    rw [Bool.not_true, cond_false, cond_true, w64 (by omega) (by omega), show (f.length : Int) - 1 = ((f.length - 1 : Nat) : Int) by omega, impl_formulaText_v _ (by omega) ht, bs]
    by_cases hl : (textAt f (f.length - 1) 1).length ≤ 200
    · rw [bf (by dsimp only; omega), if_pos hl]
    · rw [bt (by dsimp only; omega), if_neg hl]

end Go.Proofs.YtmgeeanbecmkbaaGreatDoor.Den
namespace Go.Proofs.YtmgeeanbecmkbaaGreatDoor.Den
open Go
set_option linter.unusedSimpArgs false

/-- What a step of the reader answers: the same as the plain reader; and where that has nothing, a reader that is bad. -/
def Ans (X : Option (Int × reader × Unit)) (o : Option (Int × PSt)) : Prop :=
  match o with
  | some (i, s, ns) => X = some (i, (s, ns, false, ()), ())
  | none => ∃ i s ns, X = some (i, (s, ns, true, ()), ())
theorem Ans.of {B X : Option (Int × reader × Unit)} {o : Option (Int × PSt)} (r : Runs B X) (h : Ans B o) : Ans X o := by
  cases o with
  | none => obtain ⟨i, s, ns, e⟩ := h; exact ⟨i, s, ns, r _ e⟩
  | some p => exact r _ h
theorem Ans.ret {X : Option (Int × reader × Unit)} {o : Option (Int × PSt)} (h : Ans X o) : Ans (X.bind fun q => some (q.1, q.2.1, ())) o := by
  cases o with
  | none => obtain ⟨i, s, ns, e⟩ := h; exact ⟨i, s, ns, by rw [e]; rfl⟩
  | some p => obtain ⟨i, s, ns⟩ := p; show (X.bind _) = _; rw [show X = _ from h]; rfl

theorem trimLeft_bl (s : Bytes) : Lib.trimLeftS s [32] = bl s := by
  unfold Lib.trimLeftS bl
  congr 1
  funext c
  show ([32] : Bytes).contains c = (c == 32)
  simp only [List.contains_cons, List.contains_nil, Bool.or_false]
theorem impl_blanks_v (s : Bytes) (ns : List FNode) (b : Bool) : impl_reader_blanks (s, ns, b, ()) = some ((bl s, ns, b, ()), ()) := by
  refine impl_reader_blanks.of 0 _ _ ?_
  unfold impl_reader_blanks.B
  rw [strings_TrimLeft.of _ _ _ (pTrimLeft_eq (by decide) (by decide)), bs, trimLeft_bl]
theorem impl_sign_loop (k : Nat) (l : List Bytes) (s : Bytes) (ns : List FNode) (b : Bool) (hl : l.length ≤ 100) : ∀ (m i : Nat) (r : List Bytes), l.drop i = r → r.length < m → impl_reader_sign.L0 k m l (l.length : Int) (i : Int) s ns b = some ((r.find? fun p => Lib.hasPrefix s p).getD [], (s, ns, b, ()), ())
  | 0, i, r, _, h => by omega
  | m + 1, i, [], h, _ => by
    have := drop_nil h
    rw [impl_reader_sign.L0_eq, bf (by omega)]; rfl
  | m + 1, i, c :: r, h, hm => by
    obtain ⟨h1, h2, h3⟩ := get_drop h
    simp only [List.length_cons] at hm
    rw [impl_reader_sign.L0_eq, bt (by omega), idx_get h1, strings_HasPrefix.of _ _ _ (pHasPrefix_eq s c), bs, List.find?_cons]
    dsimp only
    cases Lib.hasPrefix s c
    · rw [cond_false, w64n (by omega), impl_sign_loop k l s ns b hl m (i + 1) r h2 (by omega)]
    · rfl
theorem impl_sign_v (s : Bytes) (ns : List FNode) (b : Bool) : impl_reader_sign (s, ns, b, ()) = some (signOf (bl s), (bl s, ns, b, ()), ()) := by
  refine impl_reader_sign.of 16 _ _ ?_
  unfold impl_reader_sign.B
  rw [impl_blanks_v, bs, ← signOf_find]
  exact impl_sign_loop 16 signs (bl s) ns b (by decide) 16 0 signs rfl (by decide)
theorem drop_take_all (s : Bytes) (n : Nat) : (s.take s.length).drop n = s.drop n := by rw [List.take_length]
theorem impl_take_v (s : Bytes) (ns : List FNode) (b : Bool) (w : Bytes) : impl_reader_take (s, ns, b, ()) w = some (if signOf (bl s) = w then (true, ((bl s).drop w.length, ns, b, ()), ()) else (false, (bl s, ns, b, ()), ())) := by
  refine impl_reader_take.of 0 _ _ _ ?_
  unfold impl_reader_take.B
  rw [impl_sign_v, bs]
  dsimp only
  by_cases h : signOf (bl s) = w
  · rw [if_pos h, h]
    have := signOf_len (bl s)
    rw [h] at this
    rw [show (!(w == w)) = false by simp, cond_false, cut_at this (Nat.le_refl _), drop_take_all]
  · rw [if_neg h, beq_eq_false_iff_ne.2 h]; rfl
theorem impl_put_v (x : FNode) (s : Bytes) (ns : List FNode) : Ans (impl_reader_put (s, ns, false, ()) x) (putN x (s, ns)) := by
  unfold putN
  by_cases h : ns.length < 60
  · rw [if_pos h]
    refine impl_reader_put.of 0 _ _ _ ?_
    unfold impl_reader_put.B impl_reader_put.J0
    dsimp only
    rw [cond_false, decide_eq_false (show ¬ (ns.length : Int) ≥ 60 by omega), Bool.not_false, cond_true, bt (by unfold cap; simp only [List.length_cons, List.length_nil]; omega), List.length_append, List.length_cons, List.length_nil, w64 (by omega) (by omega)]
    rw [show (((ns.length + (0 + 1) : Nat) : Int) - 1) = (ns.length : Int) by omega]
  · rw [if_neg h]
    refine ⟨IntKind.wrap .i64 ((ns.length : Int) - 1), s, ns, impl_reader_put.of 0 _ _ _ ?_⟩
    unfold impl_reader_put.B impl_reader_put.J0
    dsimp only
    rw [cond_false, decide_eq_true (show (ns.length : Int) ≥ 60 by omega), Bool.not_true, cond_false]
theorem impl_put_bad (x : FNode) (s : Bytes) (ns : List FNode) : ∃ i, impl_reader_put (s, ns, true, ()) x = some (i, (s, ns, true, ()), ()) := by
  refine ⟨IntKind.wrap .i64 ((ns.length : Int) - 1), impl_reader_put.of 0 _ _ _ ?_⟩
  unfold impl_reader_put.B impl_reader_put.J0
  rfl
theorem Ans.bad {X : Option (Int × reader × Unit)} (i : Int) (s : Bytes) (ns : List FNode) (h : X = some (i, (s, ns, true, ()), ())) : Ans X none := ⟨i, s, ns, h⟩
theorem impl_constant_v (v : Value) (s : Bytes) (ns : List FNode) : Ans (impl_reader_constant (s, ns, false, ()) v) (putN (nConst v) (s, ns)) :=
  Ans.of (impl_reader_constant.of 0 _ _) (impl_put_v (nConst v) s ns).ret

theorem word_set0 : ((List.range 256).all fun n => (([65, 66, 67, 68, 69, 70, 71, 72, 73, 74, 75, 76, 77, 78, 79, 80, 81, 82, 83, 84, 85, 86, 87, 88, 89, 90, 48, 49, 50, 51, 52, 53, 54, 55, 56, 57, 36] : List UInt8).contains (UInt8.ofNat n)) == wordCh (UInt8.ofNat n)) = true := by kernel_rfl
theorem trimLeft_word (s : Bytes) : Lib.trimLeftS s [65, 66, 67, 68, 69, 70, 71, 72, 73, 74, 75, 76, 77, 78, 79, 80, 81, 82, 83, 84, 85, 86, 87, 88, 89, 90, 48, 49, 50, 51, 52, 53, 54, 55, 56, 57, 36] = afterWord s := by
  unfold Lib.trimLeftS afterWord
  congr 1
  funext c
  have := List.all_eq_true.1 word_set0 c.toNat (List.mem_range.2 c.toNat_lt)
  rw [UInt8.ofNat_toNat] at this
  exact beq_iff_eq.1 this
theorem impl_word_v {s : Bytes} (hs : s.length ≤ 400) (ns : List FNode) (b : Bool) : impl_reader_word (s, ns, b, ()) = some (wordOf (bl s), (afterWord (bl s), ns, b, ()), ()) := by
  refine impl_reader_word.of 0 _ _ ?_
  unfold impl_reader_word.B
  have h1 := word_len (bl s)
  have h2 := bl_len s
  obtain ⟨t1, t2, t3⟩ := takeWhile_take (p := wordCh) (bl s)
  rw [impl_blanks_v, bs]
  dsimp only
  rw [strings_TrimLeft.of _ _ _ (pTrimLeft_eq (by decide) (by decide)), bs, trimLeft_word]
  dsimp only
  rw [w64 (by omega) (by omega), show ((bl s).length : Int) - ((afterWord (bl s)).length : Int) = ((wordOf (bl s)).length : Int) by omega]
  have c1 := cut_at (Out := List UInt8 × reader × Unit) (n := (bl s).length) (a := 0) (b := (wordOf (bl s)).length) (Nat.zero_le _) (by omega) (k := fun l3 h4 => cutC (bl s).length ((wordOf (bl s)).length : Int) ((bl s).length : Int) fun l5 h6 => some ((((bl s).take h4).drop l3), ((((bl s).take h6).drop l5), ns, b, ()), ()))
  refine c1.trans ?_
  rw [cut_at (by omega) (Nat.le_refl _), List.drop_zero, drop_take_all]
  unfold wordOf afterWord
  rw [t1, t2]

/-! Quoted texts. -/
theorem quoted_cons {c : UInt8} (hc : c ≠ 34) (s : Bytes) : quoted (c :: s) = (quoted s).map fun p => (c :: p.1, p.2) := by
  cases s with
  | nil => unfold quoted; rw [if_neg hc]; rfl
  | cons d r => rw [quoted, if_neg hc]
theorem quoted_none : ∀ {s : Bytes}, (34 : UInt8) ∉ s → quoted s = none
  | [], _ => rfl
  | c :: r, h => by
    simp only [List.mem_cons, not_or] at h
    rw [quoted_cons (fun e => h.1 e.symm), quoted_none h.2]; rfl
theorem quoted_app : ∀ {p : Bytes}, (34 : UInt8) ∉ p → ∀ q, quoted (p ++ 34 :: q) = if q.head? = some 34 then (quoted q.tail).map (fun t => (p ++ 34 :: t.1, t.2)) else some (p, q)
  | [], _, q => by
    cases q with
    | nil => rfl
    | cons d r =>
      show quoted (34 :: d :: r) = _
      rw [quoted, if_pos rfl, List.head?_cons]
      by_cases hd : d = 34
      · rw [if_pos hd, if_pos (by rw [hd])]; rfl
      · rw [if_neg hd, if_neg (by simpa using hd)]
  | c :: p, h, q => by
    simp only [List.mem_cons, not_or] at h
    rw [List.cons_append, quoted_cons (fun e => h.1 e.symm), quoted_app h.2]
    split
    · rw [Option.map_map]; rfl
    · rfl
theorem impl_quoted_loop (k : Nat) (s : Bytes) (ns : List FNode) : ∀ (m : Nat) (o r : Bytes), r.length < m → o.length + r.length ≤ 1000 → Ans (impl_reader_quoted.L0 k m o r s ns false) (match quoted r with | none => none | some (t, q) => putN (nConst (2, 0, o ++ t, ())) (q, ns))
  | 0, _, _, h, _ => by omega
  | m + 1, o, r, hm, ho => by
    rw [impl_reader_quoted.L0_eq, strings_Cut.of _ _ _ (pCut_eq (by omega)), bs]
    dsimp only
    unfold Lib.cut
    rcases index1 34 r with ⟨h1, h2⟩ | ⟨p, q, h1, h2, h3⟩
    · rw [if_neg (by omega), quoted_none h1]
      exact Ans.bad _ _ _ rfl
    · subst h1
      rw [if_pos (by omega), h3, Int.toNat_natCast, List.take_left, List.length_singleton, show (p ++ 34 :: q).drop (p.length + 1) = q by rw [← List.drop_drop, List.drop_left]; rfl]
      simp only [List.length_append, List.length_cons] at ho hm
      dsimp only
      rw [Bool.not_true, cond_false, bt (by unfold scap; omega), strings_HasPrefix.of _ _ _ (pHasPrefix_eq q [34]), bs, hasPrefix_one, quoted_app h2]
      dsimp only
      by_cases hq : q.head? = some 34
      · obtain ⟨d, rfl⟩ : ∃ d, q = 34 :: d := by
          cases q with
          | nil => cases hq
          | cons c d => injection hq with hq; exact ⟨d, by rw [hq]⟩
        rw [show ((34 :: d : Bytes).head? == some 34) = true from rfl, Bool.not_true, cond_false, bt (by unfold scap; simp only [List.length_append, List.length_cons, List.length_nil]; omega), if_pos hq]
        have c1 := cut_at (Out := Int × reader × Unit) (n := (34 :: d : Bytes).length) (a := 1) (b := (34 :: d : Bytes).length) (by simp) (Nat.le_refl _) (k := fun l6 h7 => impl_reader_quoted.L0 k m ((o ++ p) ++ ([34] : List UInt8)) (((34 :: d : Bytes).take h7).drop l6) s ns false)
        rw [show ((1 : Nat) : Int) = 1 from rfl] at c1
        rw [c1, drop_take_all]
        simp only [List.length_cons] at ho hm
        have := impl_quoted_loop k s ns m ((o ++ p) ++ [34]) d (by omega) (by simp only [List.length_append, List.length_cons, List.length_nil]; omega)
        rw [show (34 :: d : Bytes).tail = d from rfl]
        show Ans (impl_reader_quoted.L0 k m (o ++ p ++ [34]) d s ns false) _
        cases hd : quoted d with
        | none => rw [hd] at this; exact this
        | some t =>
          rw [hd] at this
          show Ans _ (putN (nConst (2, 0, o ++ (p ++ 34 :: t.1), ())) (t.2, ns))
          rw [show o ++ (p ++ 34 :: t.1) = o ++ p ++ [34] ++ t.1 by simp]
          exact this
      · rw [if_neg hq, show (q.head? == some 34) = false by simpa using hq, Bool.not_false, cond_true]
        unfold impl_reader_quoted.J0
        exact (impl_constant_v _ _ _).ret
theorem impl_quoted_v {r : Bytes} (hr : r.length ≤ 400) (ns : List FNode) : Ans (impl_reader_quoted (34 :: r, ns, false, ())) (match quoted r with | none => none | some (t, q) => putN (nConst (2, 0, t, ())) (q, ns)) := by
  have := impl_quoted_loop (r.length + 1) (34 :: r) ns (r.length + 1) [] r (by omega) (by simp only [List.length_nil]; omega)
  have hB : impl_reader_quoted.B (r.length + 1) (34 :: r, ns, false, ()) = impl_reader_quoted.L0 (r.length + 1) (r.length + 1) [] r (34 :: r) ns false := by
    unfold impl_reader_quoted.B
    dsimp only
    have c1 := cut_at (Out := Int × reader × Unit) (n := (34 :: r : Bytes).length) (a := 1) (b := (34 :: r : Bytes).length) (by simp) (Nat.le_refl _) (k := fun l1 h2 => impl_reader_quoted.L0 (r.length + 1) (r.length + 1) ([] : List UInt8) (((34 :: r : Bytes).take h2).drop l1) (34 :: r) ns false)
    rw [show ((1 : Nat) : Int) = 1 from rfl] at c1
    rw [c1, drop_take_all]; rfl
  rw [← hB] at this
  simp only [List.nil_append] at this
  exact this.of (impl_reader_quoted.of _ _)

end Go.Proofs.YtmgeeanbecmkbaaGreatDoor.Den
namespace Go.Proofs.YtmgeeanbecmkbaaGreatDoor.Den
open Go
set_option linter.unusedSimpArgs false

theorem sign_one {c : UInt8} (hc : c ∈ ([40, 41, 44, 58, 45] : Bytes)) (s : Bytes) : signOf s = [c] ↔ s.head? = some c := by
  cases s with
  | nil => simp [signOf]
  | cons d r =>
    rw [List.head?_cons, Option.some_inj]
    show sgn d _ _ = [c] ↔ d = c
    have key : ∀ e1 e2 : Bool, sgn d e1 e2 = [c] ↔ d = c := by
      intro e1 e2
      simp only [List.mem_cons, List.not_mem_nil, or_false] at hc
      have hc60 : c ≠ 60 ∧ c ≠ 62 := by rcases hc with rfl | rfl | rfl | rfl | rfl <;> decide
      unfold sgn
      by_cases h60 : d = 60
      · rw [if_pos h60, h60]
        constructor
        · intro h; cases e1 <;> cases e2 <;> simp at h <;> exact absurd h.symm hc60.1
        · intro h; exact absurd h.symm hc60.1
      · rw [if_neg h60]
        by_cases h62 : d = 62
        · rw [if_pos h62, h62]
          constructor
          · intro h; cases e2 <;> simp at h; exact absurd h.symm hc60.2
          · intro h; exact absurd h.symm hc60.2
        · rw [if_neg h62]
          by_cases hm : d ∈ ([61, 38, 43, 45, 42, 47, 40, 41, 44, 58] : Bytes)
          · rw [if_pos hm]
            exact ⟨fun e => by injection e, fun e => by rw [e]⟩
          · rw [if_neg hm]
            constructor
            · intro e; cases e
            · rintro rfl
              exfalso
              apply hm
              rcases hc with rfl | rfl | rfl | rfl | rfl <;> decide
    exact key _ _

theorem sz200 {s : Bytes} (h : s.length ≤ 400) : s.length ≤ 281474976710656 := by omega

/-- What stands behind the first two bytes of an area. -/
theorem impl_areaHere_v {s : Bytes} (hs : s.length ≤ 400) (ns : List FNode) :
    match areaS (s, ns) with
    | none => ∃ x, impl_reader_areaHere (s, ns, false, ()) = some (x, false, (s, ns, false, ()), ())
    | some o => ∃ x r b, impl_reader_areaHere (s, ns, false, ()) = some (x, true, (r, ns, b, ()), ()) ∧ Ans (impl_reader_put (r, ns, b, ()) x) o := by
  have b1 := bl_len s
  have w1 := word_len (bl s)
  have w0 := word_len s
  have b2 := bl_len (afterWord (bl s))
  have hB : impl_reader_areaHere.B 0 (s, ns, false, ()) = (match readPlace (wordOf (bl s)) with
      | none => some (((0 : Int), (0 : Int), zV, zP, zP, [], ()), false, (s, ns, false, ()), ())
      | some a => if signOf (bl (afterWord (bl s))) = [58] then
          (match readPlace (wordOf (bl ((bl (afterWord (bl s))).drop 1))) with
          | none => some (nArea a ((0, 0, ()), false, false, ()), true, (afterWord (bl ((bl (afterWord (bl s))).drop 1)), ns, true, ()), ())
          | some b => some (nArea a b, true, (afterWord (bl ((bl (afterWord (bl s))).drop 1)), ns, false, ()), ()))
        else some (((0 : Int), (0 : Int), zV, zP, zP, [], ()), false, (s, ns, false, ()), ())) := by
    unfold impl_reader_areaHere.B
    dsimp only
    rw [impl_word_v hs, bs]
    dsimp only
    rw [impl_ReadPlace_v (sz200 (by omega)), bs]
    cases hp : readPlace (wordOf (bl s)) with
    | none => rfl
    | some a =>
      dsimp only [gotPlace]
      rw [cond_true, impl_take_v, bs]
      by_cases h58 : signOf (bl (afterWord (bl s))) = [58]
      · rw [if_pos h58, if_pos h58]
        dsimp only
        rw [Bool.not_true, cond_false, impl_word_v (by rw [List.length_drop]; omega), bs]
        simp only [List.length_cons, List.length_nil, Nat.zero_add]
        have w2 := word_len (bl ((bl (afterWord (bl s))).drop 1))
        have b3 := bl_len ((bl (afterWord (bl s))).drop 1)
        rw [List.length_drop] at b3
        rw [impl_ReadPlace_v (sz200 (by omega)), bs]
        cases readPlace (wordOf (bl ((bl (afterWord (bl s))).drop 1))) <;> rfl
      · rw [if_neg h58, if_neg h58]; rfl
  have hr := impl_reader_areaHere.of 0 (s, ns, false, ())
  unfold areaS
  dsimp only
  cases hp : readPlace (wordOf (bl s)) with
  | none => rw [hp] at hB; exact ⟨_, hr _ hB⟩
  | some a =>
    rw [hp] at hB
    dsimp only at hB ⊢
    by_cases h58 : signOf (bl (afterWord (bl s))) = [58]
    · rw [if_pos h58] at hB ⊢
      dsimp only
      cases hq : readPlace (wordOf (bl ((bl (afterWord (bl s))).drop 1))) with
      | none =>
        rw [hq] at hB
        refine ⟨_, _, _, hr _ hB, ?_⟩
        obtain ⟨i, e⟩ := impl_put_bad (nArea a ((0, 0, ()), false, false, ())) (afterWord (bl ((bl (afterWord (bl s))).drop 1))) ns
        exact ⟨i, _, _, e⟩
      | some b =>
        rw [hq] at hB
        exact ⟨_, _, _, hr _ hB, impl_put_v _ _ _⟩
    · rw [if_neg h58] at hB ⊢
      exact ⟨_, hr _ hB⟩

/-- The reader at shorter texts. -/
def BinOk (k : Nat) (B : Nat) : Prop := ∀ (s : Bytes) (ns : List FNode) (l : Int) (deep : Nat), s.length < k → s.length + deep ≤ B → 1 ≤ l → l ≤ 5 → Ans (impl_reader_binary (s, ns, false, ()) l deep) (ideal k (.bin l) (s, ns))

theorem ans_none {i : Int} {s : Bytes} {ns : List FNode} {X : Option (Int × reader × Unit)} (h : X = some (i, (s, ns, true, ()), ())) : Ans X none := ⟨i, s, ns, h⟩

theorem impl_call_loop {k : Nat} (hB : BinOk k 400) (n : Nat) (op : Int) (deep : Nat) (h1 : 1 ≤ op) (h2 : op ≤ 10) : ∀ (m : Nat) (ks : List Int) (s : Bytes) (ns : List FNode), s.length + 1 < m → s.length < k → s.length + (deep + 1) ≤ 400 → ks.length + s.length ≤ 900 → Ans (impl_reader_call.L0 n m op deep ks s ns false) (argsS (ideal k) m op ks (s, ns))
  | 0, _, _, _, h, _, _, _ => by omega
  | m + 1, ks, s, ns, hm, hk, hd, hks => by
    rw [impl_reader_call.L0_eq, Bool.not_false, cond_true]
    unfold argsS argS
    -- what follows an argument
    have rest : ∀ (o : Option (Int × PSt)) (X : Option (Int × reader × Unit)) (x : FNode), Ans X o → (∀ i st1, o = some (i, st1) → st1.1.length ≤ s.length) →
        Ans (X.bind fun q => bif decide (ks.length + ([q.1] : List Int).length ≤ cap) then impl_reader_call.J0 n m op deep (ks ++ ([q.1] : List Int)) x.1 x.2.1 x.2.2.1 x.2.2.2.1 x.2.2.2.2.1 x.2.2.2.2.2.1 q.2.1.1 q.2.1.2.1 q.2.1.2.2.1 else none)
          (match o with
            | none => none
            | some (i, st1) =>
              if signOf (bl st1.1) = [44] then argsS (ideal k) m op (ks ++ [i]) ((bl st1.1).drop 1, st1.2)
              else if signOf (bl st1.1) = [41] then putN (nCall op (ks ++ [i])) ((bl st1.1).drop 1, st1.2) else none) := by
      intro o X x hX hlen
      cases o with
      | none =>
        obtain ⟨i, s', ns', e⟩ := hX
        rw [e, bs, bt (by unfold cap; simp only [List.length_cons, List.length_nil]; omega)]
        unfold impl_reader_call.J0
        rw [impl_take_v, bs]
        by_cases h44 : signOf (bl s') = [44]
        · rw [if_pos h44]
          dsimp only
          rw [Bool.not_true, cond_false]
          cases m with
          | zero =>
            omega
          | succ m =>
            rw [impl_reader_call.L0_eq, Bool.not_true, cond_false]
            unfold impl_reader_call.J2
            obtain ⟨j, e⟩ := impl_put_bad (nCall op (ks ++ [i])) ((bl s').drop 1) ns'
            exact ans_none (by
              show (impl_reader_put ((bl s').drop 1, ns', true, ()) (nCall op (ks ++ [i]))).bind _ = _
              rw [e]; rfl)
        · rw [if_neg h44]
          dsimp only
          rw [Bool.not_false, cond_true, cond_true]
          unfold impl_reader_call.J1
          obtain ⟨j, e⟩ := impl_put_bad (nCall op (ks ++ [i])) (bl s') ns'
          exact ans_none (by
            show (impl_reader_put (bl s', ns', true, ()) (nCall op (ks ++ [i]))).bind _ = _
            rw [e]; rfl)
      | some p =>
        obtain ⟨i, s', ns'⟩ := p
        have hl := hlen _ _ rfl
        dsimp only at hl
        have b1 := bl_len s'
        rw [show X = _ from hX, bs, bt (by unfold cap; simp only [List.length_cons, List.length_nil]; omega)]
        unfold impl_reader_call.J0
        rw [impl_take_v, bs]
        dsimp only
        by_cases h44 : signOf (bl s') = [44]
        · rw [if_pos h44, if_pos h44]
          dsimp only
          rw [Bool.not_true, cond_false]
          have hp : 1 ≤ (bl s').length := by
            cases hb : bl s' with
            | nil => rw [hb] at h44; cases h44
            | cons c r => simp
          exact impl_call_loop hB n op deep h1 h2 m _ _ _ (by simp only [List.length_drop, List.length_cons, List.length_nil]; omega) (by simp only [List.length_drop, List.length_cons, List.length_nil]; omega) (by simp only [List.length_drop, List.length_cons, List.length_nil]; omega) (by simp only [List.length_append, List.length_drop, List.length_cons, List.length_nil]; omega)
        · rw [if_neg h44, if_neg h44]
          dsimp only
          rw [Bool.not_false, cond_true, cond_false, impl_take_v, bl_bl, bs]
          by_cases h41 : signOf (bl s') = [41]
          · rw [if_pos h41, if_pos h41]
            dsimp only
            rw [Bool.not_true]
            unfold impl_reader_call.J1
            exact (impl_put_v (nCall op (ks ++ [i])) _ _).ret
          · rw [if_neg h41, if_neg h41]
            dsimp only
            rw [Bool.not_false]
            unfold impl_reader_call.J1
            obtain ⟨j, e⟩ := impl_put_bad (nCall op (ks ++ [i])) (bl s') ns'
            exact ans_none (by
              show (impl_reader_put (bl s', ns', true, ()) (nCall op (ks ++ [i]))).bind _ = _
              rw [e]; rfl)
    have ha := impl_areaHere_v (s := s) (by omega) ns
    cases hA : areaS (s, ns) with
    | some o =>
      rw [hA] at ha
      obtain ⟨x, r, b, e1, e2⟩ := ha
      rw [e1, bs]
      dsimp only
      rw [cond_true]
      refine rest o _ x e2 fun i st1 ho => ?_
      have := (areaS_grow (i := i) (st1 := st1) (by rw [hA, ho])).1.less
      exact this
    | none =>
      rw [hA] at ha
      obtain ⟨x, e1⟩ := ha
      rw [e1, bs]
      dsimp only
      rw [cond_false, w64 (by omega) (by omega)]
      have hb := hB s ns 1 (deep + 1) hk (by omega) (by omega) (by omega)
      rw [show ((deep + 1 : Nat) : Int) = (deep : Int) + 1 by omega] at hb
      refine rest _ _ x hb fun i st1 ho => ?_
      exact (ideal_grow _ _ _ _ _ (by dsimp only; omega) ho).1.less

end Go.Proofs.YtmgeeanbecmkbaaGreatDoor.Den
