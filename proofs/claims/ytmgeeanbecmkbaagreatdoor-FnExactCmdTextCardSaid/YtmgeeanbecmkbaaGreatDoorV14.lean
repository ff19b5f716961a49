/- V14: what is typed, on both sides. -/
import Derived.Test.YtmgeeanbecmkbaaGreatDoorV13
import Derived.Test.YtmgeeanbecmkbaaGreatDoorA4
namespace Go.Proofs.YtmgeeanbecmkbaaGreatDoor.Den
open Go
set_option linter.unusedSimpArgs false

theorem dropWhile_all {p : UInt8 → Bool} : ∀ {s : Bytes}, s.dropWhile p = [] ↔ s.all p = true
  | [] => by simp
  | c :: r => by
    rw [List.dropWhile_cons, List.all_cons]
    cases p c with
    | true => simp only [if_true, Bool.true_and]; exact dropWhile_all
    | false => simp
theorem trimS_nil {s cs : Bytes} : Lib.trimS s cs = [] ↔ s.all (cs.contains ·) = true := by
  unfold Lib.trimS Lib.trimLeftS Lib.trimRightS
  rw [dropWhile_all]
  constructor
  · intro h
    rw [List.all_reverse] at h
    have : s.reverse.dropWhile (cs.contains ·) = [] := by
      cases hd : s.reverse.dropWhile (cs.contains ·) with
      | nil => rfl
      | cons c r =>
        rw [hd, List.all_cons, Bool.and_eq_true] at h
        have key : ∀ (l : Bytes) c r, l.dropWhile (cs.contains ·) = c :: r → cs.contains c = false := by
          intro l
          induction l with
          | nil => intro c r e; cases e
          | cons d l ih =>
            intro c r e
            rw [List.dropWhile_cons] at e
            split at e
            · exact ih c r e
            · rename_i hn; injection e with e _; rw [← e]; simpa using hn
        rw [key _ _ _ hd] at h; cases h.1
    rw [dropWhile_all, List.all_reverse] at this
    exact this
  · intro h
    have : s.reverse.dropWhile (cs.contains ·) = [] := by rw [dropWhile_all, List.all_reverse]; exact h
    rw [this]; rfl
theorem trim_eq {s cs : Bytes} : (Lib.trimS s cs == []) = s.all (cs.contains ·) := by
  rw [Bool.eq_iff_iff, beq_iff_eq, trimS_nil]

theorem dig_set0 : ((List.range 256).all fun n => (([48, 49, 50, 51, 52, 53, 54, 55, 56, 57] : List UInt8).contains (UInt8.ofNat n)) == dig (UInt8.ofNat n)) = true := by kernel_rfl
theorem dig_set (c : UInt8) : ([48, 49, 50, 51, 52, 53, 54, 55, 56, 57] : List UInt8).contains c = dig c := by
  have := List.all_eq_true.1 dig_set0 c.toNat (List.mem_range.2 c.toNat_lt)
  rw [UInt8.ofNat_toNat] at this
  exact beq_iff_eq.1 this
theorem unminus_trim (s : Bytes) : Lib.trimPrefix s [45] = unminus s := by
  unfold Lib.trimPrefix unminus minus
  rw [hasPrefix_one]
  cases s with
  | nil => rfl
  | cons c r => rfl
theorem unminus_len (s : Bytes) : (unminus s).length ≤ s.length := by
  unfold unminus
  split
  · rw [List.length_tail]; omega
  · exact Nat.le_refl _
theorem impl_isDigits_v {s : Bytes} (hs : s.length ≤ 1000) : impl_isDigits s = some (!(unminus s == []) && (unminus s).all dig, ()) := by
  refine impl_isDigits.of 0 _ _ ?_
  unfold impl_isDigits.B
  have := unminus_len s
  rw [strings_TrimPrefix.of _ _ _ (pTrimPrefix_eq _ _), bs, unminus_trim]
  dsimp only
  rw [strings_Trim.of _ _ _ (pTrim_eq (by unfold scap; omega) (by decide) (by decide)), bs, trim_eq, show (unminus s).all (fun c => ([48, 49, 50, 51, 52, 53, 54, 55, 56, 57] : List UInt8).contains c) = (unminus s).all dig by congr 1; funext c; exact dig_set c]
  cases unminus s == [] <;> rfl

theorem readFormula_small {s : Bytes} {f : List FNode} (h : readFormula s = some f) : formS f := by
  unfold readFormula at h
  split at h
  · rename_i hp
    have := plain_len hp
    split at h
    · cases h
    · rename_i i r ns ho
      split at h
      · injection h with h
        subst h
        obtain ⟨g1, g2⟩ := ideal_small (by omega) ho
        exact formS_of (by dsimp only at g1; omega) g2
      · cases h
  · cases h
theorem formulaText_len (f : List FNode) : (formulaText f).length ≤ 200 := by
  unfold formulaText
  cases formulaOk f
  · exact Nat.zero_le _
  · rw [cond_true]; split
    · assumption
    · exact Nat.zero_le _
theorem impl_sourceOf_v {f : List FNode} (hf : formS f) : impl_sourceOf f = some (61 :: formulaText f, decide (¬ formulaText f = [] ∧ (formulaText f).length < 200), ()) := by
  refine impl_sourceOf.of 0 _ _ ?_
  unfold impl_sourceOf.B
  have := formulaText_len f
  rw [impl_FormulaText_v hf, bs, bt (by unfold scap; simp only [List.length_cons, List.length_nil]; omega)]
  dsimp only
  by_cases h : formulaText f = []
  · rw [h]; rfl
  · rw [show (formulaText f == []) = false by simpa using h, Bool.not_false, cond_true]
    by_cases hl : (formulaText f).length < 200
    · rw [decide_eq_true (show ((formulaText f).length : Int) < 200 by omega), decide_eq_true ⟨h, hl⟩]; rfl
    · rw [decide_eq_false (show ¬ ((formulaText f).length : Int) < 200 by omega), decide_eq_false (fun e => hl e.2)]; rfl

def gotText (o : Option Bytes) : Bytes × Bool × Unit := match o with | some t => (t, true, ()) | none => ([], false, ())

theorem impl_InputOf_v {s : Bytes} (hs : s.length ≤ 281474976710656) : impl_InputOf s = some (gotText (inputOf s)) := by
  refine impl_InputOf.of 0 _ _ ?_
  unfold impl_InputOf.B inputOf
  rw [impl_isText_v 200 (by unfold scap; omega), bs]
  dsimp only
  cases hp : plainB s 200 with
  | false =>
    rw [if_neg (by simp), Bool.not_false, cond_true, show (s == []) = false by
      rw [beq_eq_false_iff_ne]; rintro rfl; cases hp]
    rfl
  | true =>
    have hl := plain_len hp
    rw [if_pos rfl, Bool.not_true, cond_false]
    by_cases he : s = []
    · subst he; rfl
    · rw [if_neg he, show (s == []) = false by simpa using he, cond_false, strings_CutPrefix.of _ _ _ (pCutPrefix_eq _ _), bs, hasHead]
      dsimp only
      by_cases h61 : s.head? = some 61
      · rw [if_pos h61, bt h61]
        have ht : Lib.trimPrefix s [61] = s.tail := by
          unfold Lib.trimPrefix
          rw [hasHead, decide_eq_true h61, if_pos rfl]
          exact List.drop_one
        rw [ht, impl_ReadFormula_v (by unfold scap; rw [List.length_tail]; omega), bs]
        cases hr : readFormula s.tail with
        | none =>
          dsimp only [gotFormula]
          rw [impl_sourceOf_v ⟨Nat.zero_le _, fun j x h => by cases h⟩, bs]
          rfl
        | some f =>
          dsimp only [gotFormula]
          rw [impl_sourceOf_v (readFormula_small hr), bs]
          dsimp only
          rw [Bool.not_true, cond_false]
          by_cases hf : formulaText f = [] ∨ 200 ≤ (formulaText f).length
          · rw [if_pos hf, decide_eq_false (fun e => hf.elim e.1 (by omega))]; rfl
          · rw [if_neg hf, decide_eq_true ⟨fun e => hf (.inl e), by omega⟩]; rfl
      · rw [if_neg h61, bf h61, strconv_ParseInt.of _ _ _ _ (pParseInt_eq (by omega)), bs, impl_isDigits_v (by omega)]
        dsimp only
        simp only [bs]
        have hT := typed_parsed s
        have tail : (impl_ReadValue s).bind (fun q12 => bif q12.2.1 then some (s, true, ()) else bif ((s.length : Int) == (200 : Int)) then some (([] : List UInt8), false, ()) else bif decide (([39] : List UInt8).length + s.length ≤ scap) then some ((([39] : List UInt8) ++ s), true, ()) else none) =
            some (gotText (match readValue s with
              | some _ => some s
              | none => if s.length = 200 then none else some (39 :: s))) := by
          rw [impl_ReadValue_v (by omega), bs]
          cases readValue s with
          | some v => rfl
          | none =>
            dsimp only [gotValue]
            by_cases h200 : s.length = 200
            · rw [if_pos h200, show ((s.length : Int) == 200) = true by rw [beq_iff_eq]; omega]; rfl
            · rw [if_neg h200, show ((s.length : Int) == 200) = false by rw [beq_eq_false_iff_ne]; omega, cond_false, cond_false, bt (by unfold scap; simp only [List.length_cons, List.length_nil]; omega)]; rfl
        cases hps : (parsed s).2 with
        | false =>
          rw [if_neg (fun e => by rw [hps] at e; cases e.1)] at hT
          rw [cond_false, hT]
          exact tail
        | true =>
          rw [cond_true]
          by_cases hd : unminus s ≠ [] ∧ (unminus s).all dig = true
          · rw [show (!(unminus s == []) && (unminus s).all dig) = true by rw [hd.2, show (unminus s == []) = false by simpa using hd.1]; rfl, cond_true, impl_number_v, bs]
            dsimp only
            rw [impl_ValueOk_v (Nat.zero_le _), bs]
            dsimp only
            cases hv : valueOk (1, (parsed s).1, [], ()) with
            | false =>
              rw [if_neg (fun e => by rw [hv] at e; cases e.2.2)] at hT
              rw [cond_false, hT]
              exact tail
            | true =>
              have hb := valueOk_n.1 hv
              rw [if_pos ⟨hps, hd, hv⟩] at hT
              rw [cond_true, impl_decimal_v (by omega) (by omega), hT]; rfl
          · rw [show (!(unminus s == []) && (unminus s).all dig) = false by
              cases h1 : unminus s == [] with
              | true => rfl
              | false =>
                cases h2 : (unminus s).all dig with
                | false => rfl
                | true => exact absurd ⟨by simpa using h1, h2⟩ hd, cond_false]
            rw [if_neg (fun e => hd e.2.1)] at hT
            rw [hT]
            exact tail

/-! The specification's numbers. -/
theorem spec_l5_loop (n : Nat) (b : Bool) (x2 x3 : Int) (x4 : Bytes) : ∀ (m : Nat) (t : Bytes), t.length < m → spec_l5Number.L0 n m t b x2 x3 x4 = spec_l5Number.J1 n (m - 1 - (t.length - (strip t).length)) (strip t) b x2 x3 x4
  | 0, t, h => by omega
  | m + 1, [], _ => by rw [spec_l5Number.L0_eq]; rfl
  | m + 1, [c], _ => by rw [spec_l5Number.L0_eq]; rfl
  | m + 1, c :: d :: r, h => by
    rw [spec_l5Number.L0_eq, bt (by simp only [List.length_cons]; omega), idx_head]
    unfold strip
    by_cases hc : c = 48
    · subst hc
      rw [show (((48 : UInt8).toNat : Int) == 48) = true from rfl, cond_true, if_pos rfl]
      have c1 := cut_at (Out := Value × Bool × Unit) (n := (48 :: d :: r : Bytes).length) (a := 1) (b := (48 :: d :: r : Bytes).length) (by simp) (Nat.le_refl _) (k := fun l5 h6 => spec_l5Number.L0 n m (((48 :: d :: r : Bytes).take h6).drop l5) b x2 x3 x4)
      rw [show ((1 : Nat) : Int) = 1 from rfl] at c1
      rw [c1, drop_take_all, show (48 :: d :: r : Bytes).drop 1 = d :: r from rfl]
      simp only [List.length_cons] at h
      rw [spec_l5_loop n b x2 x3 x4 m (d :: r) (by rw [List.length_cons]; omega)]
      have := strip_len (d :: r)
      simp only [List.length_cons] at this ⊢
      rw [show m - 1 - (r.length + 1 - (strip (d :: r)).length) = m + 1 - 1 - (r.length + 1 + 1 - (strip (d :: r)).length) by omega]
    · rw [show ((c.toNat : Int) == 48) = false by
        rw [beq_eq_false_iff_ne]; intro e; exact hc (by rw [← UInt8.toNat_inj]; exact Int.ofNat.inj e), cond_false, if_neg hc, Nat.sub_self]
      rfl
theorem readDec_lt {s : Bytes} {n : Nat} (h : readDec s 16 = some n) : n < 10000000000000000 := readDec_bound h
theorem spec_l5_end (n m : Nat) (t : Bytes) (ht : t ≠ []) (b : Bool) : ∃ v, spec_l5Number.J1 n m (strip t) b 0 0 [] = some (v, (decide (t.all dig = true ∧ numOf 0 t ≤ 1000000000000000)), ()) ∧ ((t.all dig = true ∧ numOf 0 t ≤ 1000000000000000) → v = (1, (if b = true then -(numOf 0 t : Int) else (numOf 0 t : Int)), [], ())) := by
  unfold spec_l5Number.J1 spec_l5Number.J2
  have h16 := spec_l1Int_v (s := strip t) (most := 16) (by omega)
  rw [show ((16 : Nat) : Int) = 16 from rfl] at h16
  rw [h16, bs, read_strip ht]
  by_cases h : t.all dig = true ∧ (strip t).length ≤ 16
  · have hlt := readDec_lt (show readDec (strip t) 16 = some (numOf 0 t) by rw [read_strip ht, if_pos h])
    rw [if_pos h]
    dsimp only
    cases b with
    | true =>
      rw [cond_true, cond_true, Int.zero_sub, w64 (by omega) (by omega), spec_ValueOk_v (Nat.zero_le _), bs]
      refine ⟨(1, -(numOf 0 t : Int), [], ()), ?_, fun _ => by rw [if_pos rfl]⟩
      congr 2
      rw [Prod.mk.injEq]
      refine ⟨?_, rfl⟩
      rw [Bool.eq_iff_iff, valueOk_n, decide_eq_true_eq]
      constructor
      · intro e; exact ⟨h.1, by omega⟩
      · intro e; omega
    | false =>
      rw [cond_false, cond_true, spec_ValueOk_v (Nat.zero_le _), bs]
      refine ⟨(1, (numOf 0 t : Int), [], ()), ?_, fun _ => by rw [if_neg (by simp)]⟩
      congr 2
      rw [Prod.mk.injEq]
      refine ⟨?_, rfl⟩
      rw [Bool.eq_iff_iff, valueOk_n, decide_eq_true_eq]
      constructor
      · intro e; exact ⟨h.1, by omega⟩
      · intro e; omega
  · rw [if_neg h]
    have hno : ¬ (t.all dig = true ∧ numOf 0 t ≤ 1000000000000000) := fun e => by
      have := strip_big ht e.1 (fun e2 => h ⟨e.1, e2⟩)
      omega
    rw [decide_eq_false hno]
    cases b with
    | true => exact ⟨_, rfl, fun e => absurd e hno⟩
    | false => exact ⟨_, rfl, fun e => absurd e hno⟩
theorem spec_l5Number_v {s : Bytes} (hs : s.length ≤ 1000) : ∃ v, spec_l5Number s = some (v, (typedN s).isSome, ()) ∧ ∀ n, typedN s = some n → v = (1, n, [], ()) := by
  have key : ∀ (b : Bool) (t : Bytes), t.length < s.length + 1 → ∃ v, spec_l5Number.J0 (s.length + 1) t b 0 0 [] = some (v, (decide (t ≠ [] ∧ t.all dig = true ∧ numOf 0 t ≤ 1000000000000000)), ()) ∧ ((t ≠ [] ∧ t.all dig = true ∧ numOf 0 t ≤ 1000000000000000) → v = (1, (if b = true then -(numOf 0 t : Int) else (numOf 0 t : Int)), [], ())) := by
    intro b t ht
    unfold spec_l5Number.J0
    by_cases he : t = []
    · subst he
      exact ⟨_, rfl, fun e => absurd rfl e.1⟩
    · rw [show (t == []) = false by simpa using he, cond_false, spec_l5_loop _ b 0 0 [] (s.length + 1) t ht]
      obtain ⟨v, h1, h2⟩ := spec_l5_end (s.length + 1) (s.length + 1 - 1 - (t.length - (strip t).length)) t he b
      refine ⟨v, ?_, fun e => h2 e.2⟩
      rw [h1]
      have hd : decide (t.all dig = true ∧ numOf 0 t ≤ 1000000000000000) = decide (t ≠ [] ∧ t.all dig = true ∧ numOf 0 t ≤ 1000000000000000) := by
        rw [Bool.eq_iff_iff, decide_eq_true_eq, decide_eq_true_eq]
        exact ⟨fun e => ⟨he, e⟩, fun e => e.2⟩
      rw [hd]
  have hB : spec_l5Number.B (s.length + 1) s = spec_l5Number.J0 (s.length + 1) (unminus s) (minus s) 0 0 [] := by
    unfold spec_l5Number.B
    rcases typed_cases s with ⟨h1, h2⟩ | ⟨h1, h2, h3⟩
    · rw [h1]
      generalize unminus s = u at *
      subst h2
      rw [bt (by simp only [List.length_cons]; omega), idx_head, show (((45 : UInt8).toNat : Int) == 45) = true from rfl, cond_true]
      have c1 := cut_at (Out := Value × Bool × Unit) (n := (45 :: u : Bytes).length) (a := 1) (b := (45 :: u : Bytes).length) (by simp) (Nat.le_refl _) (k := fun l2 h3 => spec_l5Number.J0 ((45 :: u : Bytes).length + 1) (((45 :: u : Bytes).take h3).drop l2) true (0 : Int) (0 : Int) ([] : List UInt8))
      rw [show ((1 : Nat) : Int) = 1 from rfl] at c1
      rw [c1, drop_take_all]; rfl
    · rw [h1, h2]
      cases s with
      | nil => rfl
      | cons c r =>
        rw [bt (by simp only [List.length_cons]; omega), idx_head, show ((c.toNat : Int) == 45) = false by
          rw [beq_eq_false_iff_ne]; intro e; exact h3 c r rfl (by rw [← UInt8.toNat_inj]; exact Int.ofNat.inj e), cond_false]
  have := unminus_len s
  obtain ⟨v, h1, h2⟩ := key (minus s) (unminus s) (by omega)
  rw [← hB] at h1
  refine ⟨v, ?_, fun n hn => ?_⟩
  · rw [spec_l5Number.of _ _ _ h1]
    unfold typedN
    by_cases h : unminus s ≠ [] ∧ (unminus s).all dig = true ∧ numOf 0 (unminus s) ≤ 1000000000000000
    · rw [if_pos h, decide_eq_true h]; rfl
    · rw [if_neg h, decide_eq_false h]; rfl
  · unfold typedN at hn
    split at hn
    · rename_i h
      injection hn with hn
      rw [h2 h, hn]
    · cases hn

theorem typedN_bound {s : Bytes} {n : Int} (h : typedN s = some n) : -1000000000000000 ≤ n ∧ n ≤ 1000000000000000 := by
  unfold typedN at h
  split at h
  · rename_i hh
    injection h with h
    rw [← h]
    split <;> omega
  · cases h
theorem spec_InputOf_v {s : Bytes} (hs : s.length ≤ scap) : spec_InputOf s = some (gotText (inputOf s)) := by
  refine spec_InputOf.of 0 _ _ ?_
  unfold spec_InputOf.B inputOf
  rw [spec_l2Plain_v hs, bs]
  dsimp only
  cases hp : plainB s 200 with
  | false => rfl
  | true =>
    have hl := plain_len hp
    rw [if_pos rfl, Bool.not_true, cond_false]
    cases s with
    | nil => rfl
    | cons c r =>
      rw [if_neg (by simp), show ((c :: r : Bytes) == []) = false from rfl, cond_false, idx_head, List.head?_cons, List.tail_cons]
      by_cases h61 : c = 61
      · subst h61
        rw [if_pos rfl, show (((61 : UInt8).toNat : Int) == 61) = true from rfl, cond_true]
        have c1 := cut_at (Out := List UInt8 × Bool × Unit) (n := (61 :: r : Bytes).length) (a := 1) (b := (61 :: r : Bytes).length) (by simp) (Nat.le_refl _) (k := fun l3 h4 => (spec_ReadFormula (((61 :: r : Bytes).take h4).drop l3)).bind fun q5 => (spec_FormulaText q5.1).bind fun q6 => bif (!q5.2.1) then some (([] : List UInt8), false, ()) else bif (q6.1 == ([] : List UInt8)) then some (([] : List UInt8), false, ()) else bif (decide ((IntKind.wrap .i64 ((q6.1.length : Int) + (1 : Int))) > (200 : Int))) then some (([] : List UInt8), false, ()) else bif decide (([61] : List UInt8).length + q6.1.length ≤ scap) then some ((([61] : List UInt8) ++ q6.1), true, ()) else none)
        rw [show ((1 : Nat) : Int) = 1 from rfl] at c1
        rw [c1, drop_take_all, show (61 :: r : Bytes).drop 1 = r from rfl]
        rw [spec_ReadFormula_v (by simp only [List.length_cons] at hs; omega), bs]
        cases hr : readFormula r with
        | none =>
          dsimp only [gotFormula]
          rw [spec_FormulaText_v ⟨Nat.zero_le _, fun j x h => by cases h⟩, bs]
          rfl
        | some f =>
          dsimp only [gotFormula]
          have := formulaText_len f
          rw [spec_FormulaText_v (readFormula_small hr), bs, Bool.not_true, cond_false]
          dsimp only
          by_cases he : formulaText f = []
          · rw [he]; rfl
          · rw [show (formulaText f == []) = false by simpa using he, cond_false, w64 (by omega) (by omega)]
            by_cases h200 : 200 ≤ (formulaText f).length
            · rw [bt (by omega), if_pos (.inr h200)]; rfl
            · rw [bf (by omega), if_neg (fun e => e.elim he h200), bt (by unfold scap; simp only [List.length_cons, List.length_nil]; omega)]; rfl
      · rw [if_neg (by simpa using h61), show ((c.toNat : Int) == 61) = false by
          rw [beq_eq_false_iff_ne]; intro e; exact h61 (by rw [← UInt8.toNat_inj]; exact Int.ofNat.inj e), cond_false]
        generalize c :: r = s at *
        obtain ⟨v, h1, h2⟩ := spec_l5Number_v (s := s) (by omega)
        rw [h1, bs]
        dsimp only
        cases ht : typedN s with
        | some n =>
          have hb := typedN_bound ht
          rw [h2 n ht]
          dsimp only [Option.isSome_some]
          rw [cond_true, spec_ValueText_v (Nat.zero_le _), valueOk_n.2 hb]; rfl
        | none =>
          dsimp only [Option.isSome_none]
          rw [cond_false, spec_ReadValue_v hs, bs]
          cases hv : readValue s with
          | some v =>
            obtain ⟨g1, g2⟩ := readValue_iff.1 hv
            dsimp only [gotValue]
            rw [Bool.not_true, cond_false]
            unfold spec_InputOf.J0
            have hvt : spec_ValueText (v.1, v.2.1, v.2.2.1, ()) = some (s, ()) := by
              have := spec_ValueText_v (v := v) (by unfold scap; have := valueOk_len g1; omega)
              rw [g1, cond_true, g2] at this
              exact this
            rw [hvt, bs]
            dsimp only
            rw [bf (by omega)]; rfl
          | none =>
            dsimp only [gotValue]
            rw [Bool.not_false, cond_true]
            unfold spec_InputOf.J0
            have hok : valueOk (2, 0, s, ()) = true := by
              show ((0 : Int) == 0 && plainB s 200) = true
              rw [hp]; rfl
            rw [spec_ValueText_v hs, hok, bs, cond_true]
            dsimp only
            show (bif decide (((39 :: s : Bytes).length : Int) > 200) then _ else _) = _
            by_cases h200 : s.length = 200
            · rw [if_pos h200, bt (by rw [List.length_cons]; omega)]; rfl
            · rw [if_neg h200, bf (by rw [List.length_cons]; omega)]; rfl

end Go.Proofs.YtmgeeanbecmkbaaGreatDoor.Den
