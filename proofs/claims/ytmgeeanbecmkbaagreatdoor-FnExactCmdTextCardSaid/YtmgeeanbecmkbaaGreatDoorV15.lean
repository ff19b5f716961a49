/- V15: macros, on both sides. -/
import Derived.Test.YtmgeeanbecmkbaaGreatDoorV14
import Derived.Test.YtmgeeanbecmkbaaGreatDoorA4
namespace Go.Proofs.YtmgeeanbecmkbaaGreatDoor.Den
open Go
set_option linter.unusedSimpArgs false

def lim : Nat := 140737488355328
theorem inputOf_nil : inputOf [] = some [] := rfl
theorem impl_isSource_v {s : Bytes} (hs : s.length ≤ lim + 1) : impl_isSource s = some (!(s == []) && source s, ()) := by
  refine impl_isSource.of 0 _ _ ?_
  unfold impl_isSource.B source
  rw [impl_InputOf_v (by unfold lim at hs; omega), bs]
  cases h : inputOf s with
  | none =>
    rw [decide_eq_false (by simp), Bool.and_false]; rfl
  | some t =>
    dsimp only [gotText]
    rw [cond_true]
    cases he : s == [] with
    | true => rfl
    | false =>
      rw [Bool.not_false, cond_true, Bool.true_and]
      by_cases ht : t = s
      · rw [ht, decide_eq_true rfl, beq_self_eq_true]
      · rw [decide_eq_false (fun e => ht (by injection e)), beq_eq_false_iff_ne.2 ht]
theorem impl_isWritten_v {s : Bytes} (hs : s.length ≤ lim) : impl_isWritten s = some (written s, ()) := by
  refine impl_isWritten.of 0 _ _ ?_
  unfold impl_isWritten.B written
  rw [bt (by unfold scap; unfold lim at hs; simp only [List.length_cons, List.length_nil]; omega), show ([61] : Bytes) ++ s = 61 :: s from rfl, impl_isSource_v (by rw [List.length_cons]; omega), bs]
  rfl
theorem spec_l11Formula_v {s : Bytes} (hs : s.length ≤ lim) : spec_l11Formula s = some (written s, ()) := by
  refine spec_l11Formula.of 0 _ _ ?_
  unfold spec_l11Formula.B written source
  have hl : ([61] : List UInt8).length + s.length ≤ scap := by unfold scap; unfold lim at hs; simp only [List.length_cons, List.length_nil]; omega
  rw [bt hl, show ([61] : Bytes) ++ s = 61 :: s from rfl, spec_InputOf_v (by unfold scap; unfold lim at hs; rw [List.length_cons]; omega), bs]
  cases h : inputOf (61 :: s) with
  | none => rw [decide_eq_false (show ¬ (none : Option Bytes) = some (61 :: s) from fun e => by cases e)]; rfl
  | some t =>
    dsimp only [gotText]
    rw [cond_true, bt hl]
    by_cases ht : t = 61 :: s
    · rw [ht, decide_eq_true rfl, beq_self_eq_true]
    · rw [decide_eq_false (fun e => ht (by injection e)), beq_eq_false_iff_ne.2 ht]

theorem impl_isStmt_v {x : Stmt} (hs : x.2.2.1.length ≤ lim) (a b : Int) : impl_Stmt_isStmt x a b = some (stmtOk x a b, ()) := by
  refine impl_Stmt_isStmt.of 0 _ _ _ _ ?_
  unfold impl_Stmt_isStmt.B stmtOk noRef
  rw [impl_RefOk_v, impl_isWritten_v hs, impl_isSource_v (by omega), impl_within_v, impl_within_v]
  simp only [bs]
  have hsrc : x.2.2.1 = [] → source x.2.2.1 = true := fun e => by rw [e]; exact decide_eq_true inputOf_nil
  cases h1 : x.1 == 1 with
  | true => cases refOk x.2.1 <;> cases written x.2.2.1 <;> rfl
  | false =>
    cases h2 : x.1 == 2 with
    | true =>
      by_cases he : x.2.2.1 = []
      · rw [hsrc he, he]; cases refOk x.2.1 <;> rfl
      · rw [beq_eq_false_iff_ne.2 he]; cases refOk x.2.1 <;> cases source x.2.2.1 <;> rfl
    | false =>
      cases h3 : x.1 == 3 with
      | true => cases (x.2.1.1 == 0) && ((x.2.1.2.1 == 0) && true) <;> cases written x.2.2.1 <;> rfl
      | false =>
        cases h4 : x.1 == 4 with
        | true => cases (x.2.1.1 == 0) && ((x.2.1.2.1 == 0) && true) <;> cases written x.2.2.1 <;> rfl
        | false =>
          cases h5 : x.1 == 5 with
          | true => cases (x.2.1.1 == 0) && ((x.2.1.2.1 == 0) && true) <;> cases written x.2.2.1 <;> rfl
          | false => rfl

def macroS (m : List Stmt) : Prop := m.length ≤ lim ∧ ∀ x ∈ m, x.2.2.1.length ≤ lim

theorem stmtsOk_cons (n i : Nat) (x : Stmt) (r : List Stmt) : stmtsOk n i (x :: r) = (stmtOk x (i : Int) ((n : Int) - 1 - (i : Int)) && stmtsOk n (i + 1) r) := rfl
theorem impl_MacroOk_loop (k : Nat) {m : List Stmt} (hm : macroS m) : ∀ (f i : Nat) (r : List Stmt), m.drop i = r → r.length < f → impl_MacroOk.L0 k f m m (m.length : Int) (i : Int) = some (stmtsOk m.length i r && decide (m.length ≤ 30), ())
  | 0, _, _, _, h => by omega
  | f + 1, i, [], h, _ => by
    have := drop_nil h
    rw [impl_MacroOk.L0_eq, bf (by omega)]
    unfold impl_MacroOk.J0 stmtsOk
    rw [Bool.true_and, show decide ((m.length : Int) ≤ 30) = decide (m.length ≤ 30) by rw [decide_eq_decide]; omega]
  | f + 1, i, x :: r, h, hf => by
    obtain ⟨h1, h2, h3⟩ := get_drop h
    have hml := hm.1
    unfold lim at hml
    simp only [List.length_cons] at hf
    rw [impl_MacroOk.L0_eq, bt (by omega), idx_get h1, impl_isStmt_v (hm.2 x (List.mem_of_getElem? h1)), bs, w64 (x := (m.length : Int) - 1) (by omega) (by omega), w64 (by omega) (by omega), w64n (by omega), impl_MacroOk_loop k hm f (i + 1) r h2 (by omega)]
    rw [stmtsOk_cons]
    dsimp only
    cases stmtOk x (i : Int) ((m.length : Int) - 1 - (i : Int)) <;> rfl
theorem impl_MacroOk_v {m : List Stmt} (hm : macroS m) : impl_MacroOk m = some (macroOk m, ()) := by
  refine impl_MacroOk.of (m.length + 1) _ _ ?_
  unfold impl_MacroOk.B macroOk
  rw [Bool.and_comm]
  exact impl_MacroOk_loop _ hm (m.length + 1) 0 m rfl (by omega)

theorem spec_MacroOk_loop (k : Nat) {m : List Stmt} (hm : macroS m) : ∀ (f i : Nat) (r : List Stmt), m.drop i = r → r.length < f → spec_MacroOk.L0 k f m (i : Int) = some (stmtsOk m.length i r, ())
  | 0, _, _, _, h => by omega
  | f + 1, i, [], h, _ => by
    have := drop_nil h
    rw [spec_MacroOk.L0_eq, bf (by omega)]; rfl
  | f + 1, i, x :: r, h, hf => by
    obtain ⟨h1, h2, h3⟩ := get_drop h
    have hml := hm.1
    have htl := hm.2 x (List.mem_of_getElem? h1)
    unfold lim at hml
    simp only [List.length_cons] at hf
    rw [spec_MacroOk.L0_eq, bt (by omega), idx_get h1, w64 (x := (m.length : Int) - 1) (by omega) (by omega), w64 (x := (m.length : Int) - 1 - (i : Int)) (by omega) (by omega), w64n (by omega), spec_MacroOk_loop k hm f (i + 1) r h2 (by omega), spec_RefOk_v, spec_l11Formula_v htl, spec_InputOf_v (by unfold scap; unfold lim at htl; omega), spec_l1In_v, spec_l1In_v]
    simp only [bs]
    rw [stmtsOk_cons]
    generalize stmtsOk m.length (i + 1) r = rr
    unfold stmtOk noRef
    cases h1 : x.1 == 1 with
    | true => cases refOk x.2.1 <;> cases written x.2.2.1 <;> cases h0 : x.2.2.2.1 == 0 <;> (simp only [bne, h0, cond_true, cond_false, Bool.not_true, Bool.not_false, Bool.true_and, Bool.false_and])
    | false =>
      cases h2 : x.1 == 2 with
      | true =>
        have hgot : (gotText (inputOf x.2.2.1)).2.1 = true ∧ ((gotText (inputOf x.2.2.1)).1 == x.2.2.1) = true ↔ source x.2.2.1 = true := by
          unfold source
          rw [decide_eq_true_eq, beq_iff_eq]
          cases inputOf x.2.2.1 with
          | none => simp [gotText]
          | some t => simp [gotText]
        rw [cond_false, cond_true, cond_false, cond_true]
        cases refOk x.2.1 with
        | false => rfl
        | true =>
          cases h0 : x.2.2.2.1 == 0 with
          | false => simp only [bne, h0, cond_true, cond_false, Bool.not_true, Bool.not_false, Bool.true_and, Bool.false_and, Bool.and_false]
          | true =>
            simp only [bne, h0, cond_true, cond_false, Bool.not_true, Bool.not_false, Bool.true_and, Bool.false_and, Bool.and_true]
            cases hs : source x.2.2.1 with
            | true =>
              obtain ⟨e1, e2⟩ := hgot.2 hs
              rw [e1, e2]; rfl
            | false =>
              cases e1 : (gotText (inputOf x.2.2.1)).2.1 with
              | false => rfl
              | true =>
                cases e2 : (gotText (inputOf x.2.2.1)).1 == x.2.2.1 with
                | false => rfl
                | true => rw [hgot.1 ⟨e1, e2⟩] at hs; cases hs
      | false =>
        cases h3 : x.1 == 3 with
        | true => cases (x.2.1.1 == 0) && ((x.2.1.2.1 == 0) && true) <;> cases written x.2.2.1 <;> cases inB x.2.2.2.1 1 ((m.length : Int) - 1 - (i : Int)) <;> rfl
        | false =>
          cases h4 : x.1 == 4 with
          | true => cases (x.2.1.1 == 0) && ((x.2.1.2.1 == 0) && true) <;> cases written x.2.2.1 <;> cases inB x.2.2.2.1 1 (i : Int) <;> rfl
          | false =>
            cases h5 : x.1 == 5 with
            | true => cases (x.2.1.1 == 0) && ((x.2.1.2.1 == 0) && true) <;> cases written x.2.2.1 <;> cases h0 : x.2.2.2.1 == 0 <;> (simp only [bne, h0, cond_true, cond_false, Bool.not_true, Bool.not_false, Bool.true_and, Bool.false_and])
            | false => rfl
theorem spec_MacroOk_v {m : List Stmt} (hm : macroS m) : spec_MacroOk m = some (macroOk m, ()) := by
  refine spec_MacroOk.of (m.length + 1) _ _ ?_
  unfold spec_MacroOk.B macroOk
  by_cases h : m.length ≤ 30
  · rw [bf (by omega), decide_eq_true h, Bool.true_and]
    exact spec_MacroOk_loop _ hm (m.length + 1) 0 m rfl (by omega)
  · rw [bt (by omega), decide_eq_false h]; rfl

end Go.Proofs.YtmgeeanbecmkbaaGreatDoor.Den
