/- V16: texts of macros and commands, on both sides. -/
import Derived.Test.YtmgeeanbecmkbaaGreatDoorV15
namespace Go.Proofs.YtmgeeanbecmkbaaGreatDoor.Den
open Go
set_option linter.unusedSimpArgs false

theorem word_idx {Out : Type} {n : Int} (h1 : 0 ≤ n) (h2 : n ≤ 5) {k : Bytes → Option Out} : idxC ([([] : List UInt8), ([115, 101, 116] : List UInt8), ([112, 117, 116] : List UInt8), ([117, 110, 108, 101, 115, 115] : List UInt8), ([119, 104, 105, 108, 101] : List UInt8), ([97, 98, 111, 114, 116] : List UInt8)] : (List (List UInt8))) n k = k (stmtWord n) := by
  have : n = 0 ∨ n = 1 ∨ n = 2 ∨ n = 3 ∨ n = 4 ∨ n = 5 := by omega
  rcases this with rfl | rfl | rfl | rfl | rfl | rfl <;> rfl
theorem impl_stmtWord_v {n : Int} (h1 : 0 ≤ n) (h2 : n ≤ 5) : impl_stmtWord n = some (stmtWord n, ()) := impl_stmtWord.of 0 n _ (by unfold impl_stmtWord.B; rw [word_idx h1 h2])
theorem impl_refText_v (r : Ref) : impl_refText r = some (placeText (r, false, false, ()), ()) := impl_refText.of 0 r _ (by unfold impl_refText.B; rw [impl_PlaceText_v]; rfl)

theorem impl_macroText_loop (k : Nat) {m : List Stmt} (hl : m.length ≤ 30) (hB : ∀ x ∈ m, stmtB x) : ∀ (f i : Nat) (r : List Stmt) (q : Bool) (o : Bytes), m.drop i = r → i ≤ m.length → r.length < f → o.length ≤ 300 * i → impl_macroText.L0 k f m (m.length : Int) (i : Int) q (byteInts o) = some (o ++ macroText r, ())
  | 0, _, _, _, _, _, _, h, _ => by omega
  | f + 1, i, [], q, o, h, _, _, _ => by
    have := drop_nil h
    rw [impl_macroText.L0_eq, bf (by omega)]
    unfold impl_macroText.J3 macroText
    rw [strings_Builder_String.of _ _ (pString_eq (isBytes_of o)), bs, bytesOf_of, List.flatMap_nil, List.append_nil]
  | f + 1, i, x :: r, q, o, h, hi, hf, ho => by
    obtain ⟨h1, h2, h3⟩ := get_drop h
    have hb := hB x (List.mem_of_getElem? h1)
    have w1 := stmtWord_len x.1
    have w2 := stmtMid_len hb
    have w3 := hb.2.2.1
    simp only [List.length_cons] at hf
    have J1 : ∀ (p : Bool) (o' : Bytes), o' = o ++ (stmtWord x.1 ++ [32] ++ stmtMid x) → impl_macroText.J1 k f m (m.length : Int) (i : Int) x.1 x.2.1 x.2.2.1 x.2.2.2.1 p (byteInts o') = some (o ++ macroText (x :: r), ()) := by
      intro p o' e
      have hlen : o'.length ≤ 300 * i + 40 := by rw [e]; simp only [List.length_append, List.length_cons, List.length_nil]; omega
      unfold impl_macroText.J1
      rw [bt (by unfold scap; simp only [List.length_cons, List.length_nil]; omega), strings_Builder_WriteString.of _ _ _ (pWriteString_eq (isBytes_of o') (by rw [byteInts_len]; simp only [List.length_append, List.length_cons, List.length_nil]; omega)), bs]
      dsimp only
      rw [w64n (by omega), ← byteInts_app, impl_macroText_loop k hl hB f (i + 1) r false _ h2 (by omega) (by omega) (by simp only [List.length_append, List.length_cons, List.length_nil]; omega)]
      unfold macroText
      rw [List.flatMap_cons, e]
      unfold stmtText
      simp only [List.append_assoc]
    have hb1 := hb.1
    rw [impl_macroText.L0_eq, bt (by omega), idx_get h1, impl_stmtWord_v (by omega) hb.2.1, bs, bt (by unfold scap; simp only [List.length_cons, List.length_nil]; omega),
      strings_Builder_WriteString.of _ _ _ (pWriteString_eq (isBytes_of o) (by rw [byteInts_len]; simp only [List.length_append, List.length_cons, List.length_nil]; omega)), bs]
    dsimp only
    rw [← byteInts_app]
    have J0 : ∀ b : Bool, (b = true → x.1 = 1 ∨ x.1 = 2) → (b = false → ¬ (x.1 = 1 ∨ x.1 = 2)) → impl_macroText.J0 k f m (m.length : Int) (i : Int) x.1 b x.1 x.2.1 x.2.2.1 x.2.2.2.1 false (byteInts (o ++ (stmtWord x.1 ++ [32]))) = some (o ++ macroText (x :: r), ()) := by
      intro b hbt hbf
      unfold impl_macroText.J0
      cases b with
      | true =>
        have hm : stmtMid x = placeText (x.2.1, false, false, ()) ++ [32] := by unfold stmtMid; rw [if_pos (hbt rfl)]
        have hp := placeText_len (x.2.1, false, false, ())
        rw [cond_true, impl_refText_v, bs, bt (by unfold scap; simp only [List.length_cons, List.length_nil]; omega), strings_Builder_WriteString.of _ _ _ (pWriteString_eq (isBytes_of _) (by rw [byteInts_len]; simp only [List.length_append, List.length_cons, List.length_nil]; omega)), bs]
        dsimp only
        rw [← byteInts_app]
        exact J1 _ _ (by rw [hm]; simp only [List.append_assoc])
      | false =>
        have hno := hbf rfl
        have J2 : ∀ c : Bool, (c = true → x.1 = 3 ∨ x.1 = 4) → (c = false → ¬ (x.1 = 3 ∨ x.1 = 4)) → impl_macroText.J2 k f m (m.length : Int) (i : Int) c x.1 x.2.1 x.2.2.1 x.2.2.2.1 false (byteInts (o ++ (stmtWord x.1 ++ [32]))) = some (o ++ macroText (x :: r), ()) := by
          intro c hct hcf
          unfold impl_macroText.J2
          cases c with
          | true =>
            have hm : stmtMid x = dec x.2.2.2.1 ++ [32] := by unfold stmtMid; rw [if_neg hno, if_pos (hct rfl)]
            have hbd := hb.2.2.2 (hct rfl)
            have hdl := dec_len (n := x.2.2.2.1) (by omega) (by omega)
            rw [cond_true, impl_decimal_v (by omega) (by omega), bs, bt (by unfold scap; simp only [List.length_cons, List.length_nil]; omega), strings_Builder_WriteString.of _ _ _ (pWriteString_eq (isBytes_of _) (by rw [byteInts_len]; simp only [List.length_append, List.length_cons, List.length_nil]; omega)), bs]
            dsimp only
            rw [← byteInts_app]
            exact J1 _ _ (by rw [hm]; simp only [List.append_assoc])
          | false =>
            have hm : stmtMid x = [] := by unfold stmtMid; rw [if_neg hno, if_neg (hcf rfl)]
            rw [cond_false]
            exact J1 _ _ (by rw [hm]; simp only [List.append_nil])
        rw [cond_false]
        by_cases h3 : x.1 = 3
        · rw [show (x.1 == 3) = true by rw [h3]; rfl, cond_true]
          exact J2 true (fun _ => .inl h3) (fun e => by cases e)
        · rw [beq_eq_false_iff_ne.2 h3, cond_false]
          by_cases h4 : x.1 = 4
          · rw [show (x.1 == 4) = true by rw [h4]; rfl]
            exact J2 true (fun _ => .inr h4) (fun e => by cases e)
          · rw [beq_eq_false_iff_ne.2 h4]
            exact J2 false (fun e => by cases e) (fun _ e => e.elim h3 h4)
    by_cases h1' : x.1 = 1
    · rw [show (x.1 == 1) = true by rw [h1']; rfl, cond_true]
      exact J0 true (fun _ => .inl h1') (fun e => by cases e)
    · rw [beq_eq_false_iff_ne.2 h1', cond_false]
      by_cases h2' : x.1 = 2
      · rw [show (x.1 == 2) = true by rw [h2']; rfl]
        exact J0 true (fun _ => .inr h2') (fun e => by cases e)
      · rw [beq_eq_false_iff_ne.2 h2']
        exact J0 false (fun e => by cases e) (fun _ e => e.elim h1' h2')
theorem impl_macroText_v {m : List Stmt} (h : macroOk m = true) : impl_macroText m = some (macroText m, ()) := by
  obtain ⟨hl, hB⟩ := macroOk_B h
  exact impl_macroText.of (m.length + 1) _ _ (impl_macroText_loop _ hl hB (m.length + 1) 0 m true [] rfl (by omega) (by omega) (by simp))

theorem spec_MacroText_loop (k : Nat) {m : List Stmt} (hl : m.length ≤ 30) (hB : ∀ x ∈ m, stmtB x) : ∀ (f i : Nat) (r : List Stmt) (o : Bytes), m.drop i = r → i ≤ m.length → r.length < f → o.length ≤ 300 * i → spec_MacroText.L0 k f m o (i : Int) = some (o ++ macroText r, ())
  | 0, _, _, _, _, _, h, _ => by omega
  | f + 1, i, [], o, h, _, _, _ => by
    have := drop_nil h
    rw [spec_MacroText.L0_eq, bf (by omega)]
    unfold spec_MacroText.J0 macroText
    rw [List.flatMap_nil, List.append_nil]
  | f + 1, i, x :: r, o, h, hi, hf, ho => by
    obtain ⟨h1, h2, h3⟩ := get_drop h
    have hb := hB x (List.mem_of_getElem? h1)
    have w2 := stmtText_len hb
    have w3 := hb.2.2.1
    simp only [List.length_cons] at hf
    have next : spec_MacroText.L0 k f m (o ++ stmtText x) ((i + 1 : Nat) : Int) = some (o ++ macroText (x :: r), ()) := by
      rw [spec_MacroText_loop k hl hB f (i + 1) r _ h2 (by omega) (by omega) (by rw [List.length_append]; omega)]
      unfold macroText
      rw [List.flatMap_cons, List.append_assoc]
    have hp := placeText_len (x.2.1, false, false, ())
    rw [spec_MacroText.L0_eq, bt (by omega), idx_get h1, spec_PlaceText_v, bs, w64n (by omega)]
    have hx : x.1 = 1 ∨ x.1 = 2 ∨ x.1 = 3 ∨ x.1 = 4 ∨ x.1 = 5 := by have := hb.1; have := hb.2.1; omega
    rcases hx with e | e | e | e | e
    · have ht : stmtText x = [115, 101, 116] ++ [32] ++ (placeText (x.2.1, false, false, ()) ++ [32]) ++ (x.2.2.1 ++ [10]) := by unfold stmtText stmtMid; rw [if_pos (.inl e), e]; rfl
      rw [show (x.1 == 1) = true by rw [e]; rfl, cond_true]
      iterate 5 rw [bt (by unfold scap; simp only [List.length_append, List.length_cons, List.length_nil]; omega)]
      rw [← next, ht]
      simp only [List.append_assoc, List.cons_append, List.nil_append]
    · have ht : stmtText x = [112, 117, 116] ++ [32] ++ (placeText (x.2.1, false, false, ()) ++ [32]) ++ (x.2.2.1 ++ [10]) := by unfold stmtText stmtMid; rw [if_pos (.inr e), e]; rfl
      rw [show (x.1 == 1) = false by rw [e]; rfl, show (x.1 == 2) = true by rw [e]; rfl, cond_false, cond_true]
      iterate 5 rw [bt (by unfold scap; simp only [List.length_append, List.length_cons, List.length_nil]; omega)]
      rw [← next, ht]
      simp only [List.append_assoc, List.cons_append, List.nil_append]
    · have ht : stmtText x = [117, 110, 108, 101, 115, 115] ++ [32] ++ (dec x.2.2.2.1 ++ [32]) ++ (x.2.2.1 ++ [10]) := by unfold stmtText stmtMid; rw [if_neg (by omega), if_pos (.inl e), e]; rfl
      have hbd := hb.2.2.2 (.inl e)
      have hdl := dec_len (n := x.2.2.2.1) (by omega) (by omega)
      rw [show (x.1 == 1) = false by rw [e]; rfl, show (x.1 == 2) = false by rw [e]; rfl, show (x.1 == 3) = true by rw [e]; rfl, cond_false, cond_false, cond_true]
      rw [bt (by unfold scap; simp only [List.length_append, List.length_cons, List.length_nil]; omega), spec_l1Dec_v (by omega) (by omega), bs]
      iterate 4 rw [bt (by unfold scap; simp only [List.length_append, List.length_cons, List.length_nil]; omega)]
      rw [← next, ht]
      simp only [List.append_assoc, List.cons_append, List.nil_append]
    · have ht : stmtText x = [119, 104, 105, 108, 101] ++ [32] ++ (dec x.2.2.2.1 ++ [32]) ++ (x.2.2.1 ++ [10]) := by unfold stmtText stmtMid; rw [if_neg (by omega), if_pos (.inr e), e]; rfl
      have hbd := hb.2.2.2 (.inr e)
      have hdl := dec_len (n := x.2.2.2.1) (by omega) (by omega)
      rw [show (x.1 == 1) = false by rw [e]; rfl, show (x.1 == 2) = false by rw [e]; rfl, show (x.1 == 3) = false by rw [e]; rfl, show (x.1 == 4) = true by rw [e]; rfl, cond_false, cond_false, cond_false, cond_true]
      rw [bt (by unfold scap; simp only [List.length_append, List.length_cons, List.length_nil]; omega), spec_l1Dec_v (by omega) (by omega), bs]
      iterate 4 rw [bt (by unfold scap; simp only [List.length_append, List.length_cons, List.length_nil]; omega)]
      rw [← next, ht]
      simp only [List.append_assoc, List.cons_append, List.nil_append]
    · have ht : stmtText x = [97, 98, 111, 114, 116] ++ [32] ++ [] ++ (x.2.2.1 ++ [10]) := by unfold stmtText stmtMid; rw [if_neg (by omega), if_neg (by omega), e]; rfl
      rw [show (x.1 == 1) = false by rw [e]; rfl, show (x.1 == 2) = false by rw [e]; rfl, show (x.1 == 3) = false by rw [e]; rfl, show (x.1 == 4) = false by rw [e]; rfl, show (x.1 == 5) = true by rw [e]; rfl, cond_false, cond_false, cond_false, cond_false, cond_true]
      iterate 3 rw [bt (by unfold scap; simp only [List.length_append, List.length_cons, List.length_nil]; omega)]
      rw [← next, ht]
      simp only [List.append_assoc, List.cons_append, List.nil_append]
theorem spec_MacroText_v {m : List Stmt} (hm : macroS m) : spec_MacroText m = some (bif macroOk m then macroText m else [], ()) := by
  refine spec_MacroText.of (m.length + 1) _ _ ?_
  unfold spec_MacroText.B
  rw [spec_MacroOk_v hm, bs]
  cases h : macroOk m with
  | false => rfl
  | true =>
    obtain ⟨hl, hB⟩ := macroOk_B h
    rw [Bool.not_true, cond_false, cond_true, ← List.nil_append (macroText m)]
    exact spec_MacroText_loop _ hl hB (m.length + 1) 0 m [] rfl (by omega) (by omega) (by simp)

/-! Names. -/
theorem low_iff {c : UInt8} : low c = true ↔ 97 ≤ c.toNat ∧ c.toNat ≤ 122 := by unfold low; rw [Bool.and_eq_true, decide_eq_true_eq, decide_eq_true_eq]
theorem low_set0 : ((List.range 256).all fun n => (([97, 98, 99, 100, 101, 102, 103, 104, 105, 106, 107, 108, 109, 110, 111, 112, 113, 114, 115, 116, 117, 118, 119, 120, 121, 122] : List UInt8).contains (UInt8.ofNat n)) == low (UInt8.ofNat n)) = true := by kernel_rfl
theorem low_set (c : UInt8) : ([97, 98, 99, 100, 101, 102, 103, 104, 105, 106, 107, 108, 109, 110, 111, 112, 113, 114, 115, 116, 117, 118, 119, 120, 121, 122] : List UInt8).contains c = low c := by
  have := List.all_eq_true.1 low_set0 c.toNat (List.mem_range.2 c.toNat_lt)
  rw [UInt8.ofNat_toNat] at this
  exact beq_iff_eq.1 this
theorem impl_isName_v {s : Bytes} (hs : s.length ≤ scap) : impl_isName s = some (nameOk s, ()) := by
  refine impl_isName.of 0 _ _ ?_
  unfold impl_isName.B nameOk
  rw [strings_Trim.of _ _ _ (pTrim_eq hs (by decide) (by decide)), bs, trim_eq, show s.all (fun c => ([97, 98, 99, 100, 101, 102, 103, 104, 105, 106, 107, 108, 109, 110, 111, 112, 113, 114, 115, 116, 117, 118, 119, 120, 121, 122] : List UInt8).contains c) = s.all low by congr 1; funext c; exact low_set c]
  by_cases h1 : 1 ≤ s.length
  · rw [bt (by omega), decide_eq_true h1, Bool.true_and]
    by_cases h2 : s.length ≤ 12
    · rw [bt (by omega), decide_eq_true h2, Bool.true_and]
    · rw [bf (by omega), decide_eq_false h2, Bool.false_and]
  · rw [bf (by omega), decide_eq_false h1, Bool.false_and]
theorem spec_l10Name_loop (k : Nat) (s : Bytes) (hs : s.length ≤ 12) : ∀ (m i : Nat) (r : Bytes), s.drop i = r → r.length < m → spec_l10Name.L0 k m s (i : Int) = some (r.all low, ())
  | 0, i, r, _, h => by omega
  | m + 1, i, [], h, _ => by
    have := drop_nil h
    rw [spec_l10Name.L0_eq, bf (by omega)]
    rfl
  | m + 1, i, c :: r, h, hm => by
    obtain ⟨h1, h2, h3⟩ := get_drop h
    simp only [List.length_cons] at hm
    rw [spec_l10Name.L0_eq, bt (by omega), idx_get h1, List.all_cons]
    by_cases hc : low c = true
    · have hd := low_iff.1 hc
      rw [bf (by omega), idx_get h1, bf (by omega), w64n (by omega), spec_l10Name_loop k s hs m (i + 1) r h2 (by omega), hc, Bool.true_and]
    · have hd : ¬ (97 ≤ c.toNat ∧ c.toNat ≤ 122) := fun e => hc (low_iff.2 e)
      rw [Bool.not_eq_true] at hc
      rw [hc]
      by_cases h32 : c.toNat < 97
      · rw [bt (by omega)]; rfl
      · rw [bf (by omega), idx_get h1, bt (by omega)]; rfl
theorem spec_l10Name_v (s : Bytes) : spec_l10Name s = some (nameOk s, ()) := by
  refine spec_l10Name.of (s.length + 1) _ _ ?_
  unfold spec_l10Name.B nameOk
  by_cases h1 : 1 ≤ s.length
  · rw [bf (by omega), decide_eq_true h1, Bool.true_and]
    by_cases h2 : s.length ≤ 12
    · rw [bf (by omega), decide_eq_true h2, Bool.true_and]
      exact spec_l10Name_loop _ s h2 (s.length + 1) 0 s rfl (by omega)
    · rw [bt (by omega), decide_eq_false h2, Bool.false_and]
  · rw [bt (by omega), decide_eq_false h1, Bool.false_and]
theorem impl_isId_v (n : Int) : impl_isId n = some (inB n 1 1000000000, ()) := impl_isId.of 0 n _ (by unfold impl_isId.B; rw [impl_within_v]; rfl)

structure cmdS (c : Cmd) : Prop where
  name : c.2.1.length ≤ lim
  other : c.2.2.1.length ≤ lim
  stmts : macroS c.2.2.2.2.1

theorem impl_isCmd_v {c : Cmd} (h : cmdS c) : impl_isCmd c = some (cmdOk c, ()) := by
  have l1 : c.2.1.length ≤ scap := by have := h.name; unfold scap; unfold lim at this; omega
  have l2 : c.2.2.1.length ≤ scap := by have := h.other; unfold scap; unfold lim at this; omega
  refine impl_isCmd.of 0 _ _ ?_
  unfold impl_isCmd.B cmdOk
  rw [impl_isName_v l1, impl_isName_v l2, impl_isId_v, impl_MacroOk_v h.stmts]
  simp only [bs]
  cases c.1 == 1 with
  | true => rw [cond_true, cond_true]; cases nameOk c.2.1 <;> cases c.2.2.1 == [] <;> cases inB c.2.2.2.1 1 1000000000 <;> rfl
  | false =>
    rw [cond_false, cond_false]
    cases c.1 == 2 with
    | true => rw [cond_true, cond_true]; cases nameOk c.2.1 <;> cases c.2.2.1 == [] <;> cases inB c.2.2.2.1 1 1000000000 <;> rfl
    | false =>
      rw [cond_false, cond_false]
      cases c.1 == 3 with
      | true => rw [cond_true, cond_true]; cases nameOk c.2.1 <;> cases nameOk c.2.2.1 <;> cases c.2.2.2.1 == 0 <;> rfl
      | false =>
        rw [cond_false, cond_false]
        cases c.1 == 4 with
        | true => rw [cond_true, cond_true]; cases c.2.1 == [] <;> cases c.2.2.1 == [] <;> cases c.2.2.2.1 == 0 <;> rfl
        | false => rfl
theorem spec_l14CmdOk_v {c : Cmd} (h : cmdS c) : spec_l14CmdOk c = some (cmdOk c, ()) := by
  refine spec_l14CmdOk.of 0 _ _ ?_
  unfold spec_l14CmdOk.B cmdOk
  rw [spec_l10Name_v, spec_l10Name_v, spec_l1In_v, spec_MacroOk_v h.stmts]
  simp only [bs]
  cases c.1 == 1 with
  | true => rw [cond_true, cond_true]; cases nameOk c.2.1 <;> cases c.2.2.1 == [] <;> cases inB c.2.2.2.1 1 1000000000 <;> rfl
  | false =>
    rw [cond_false, cond_false]
    cases c.1 == 2 with
    | true => rw [cond_true, cond_true]; cases nameOk c.2.1 <;> cases c.2.2.1 == [] <;> cases inB c.2.2.2.1 1 1000000000 <;> rfl
    | false =>
      rw [cond_false, cond_false]
      cases c.1 == 3 with
      | true => rw [cond_true, cond_true]; cases nameOk c.2.1 <;> cases nameOk c.2.2.1 <;> cases c.2.2.2.1 == 0 <;> rfl
      | false =>
        rw [cond_false, cond_false]
        cases c.1 == 4 with
        | true => rw [cond_true, cond_true]; cases c.2.1 == [] <;> cases c.2.2.1 == [] <;> cases c.2.2.2.1 == 0 <;> rfl
        | false => rfl

end Go.Proofs.YtmgeeanbecmkbaaGreatDoor.Den
