/- DenU: cuts, elements' addresses, lengths, sums and comparisons. -/
import Derived.Test.YtmgeeanbecmkbaaGreatDoorDenT
import Derived.Laws.BytesString
namespace Go.Proofs.YtmgeeanbecmkbaaGreatDoor.Den
open Go
set_option linter.unusedVariables false

section
variable {P : Program} {C : Cfg} {E : Entry C} {S : AS} {X : Ctx} {a : Act} {w : World}

theorem run_bound {v : Value} {q : IntKind} {i : Int} {y : Nat} {code : BoundsCode} (e : v = .int q i) (h0 : 0 ≤ i) (h1 : i ≤ (y : Int)) : (Instr.sliceBound v y code).run P w = .ok i.toNat w := by
  subst e
  simp only [Instr.sliceBound, Sem.run_bind, asIntOf, Sem.run_pure, Result.andThen_ok, if_pos (And.intro h0 h1)]

theorem boundsC_some {Out : Type} {n : Nat} {lo hi : Option Operand} {k : Nat → Nat → Option Out} {r : Out} (hs : Sim C E S X a w) (h : boundsC n (lo.map (opv C S 0)) (hi.map (opv C S 0)) k = some r) :
    ∃ l u, l ≤ u ∧ u ≤ n ∧ k l u = some r ∧ ∀ (sl : Bool) (c : Nat), n ≤ c → (Instr.sliceBounds sl n c (lo.map a.eval) (hi.map a.eval) none).run P w = .ok (l, u, c) w := by
  have fin : ∀ {l u : Int}, (bif decide (0 ≤ l) && decide (l ≤ u) && decide (u ≤ (n : Int)) then k l.toNat u.toNat else none) = some r → 0 ≤ l ∧ l ≤ u ∧ u ≤ (n : Int) ∧ k l.toNat u.toNat = some r := by
    intro l u h
    cases hd : (decide (0 ≤ l) && decide (l ≤ u) && decide (u ≤ (n : Int))) <;> rw [hd] at h <;> simp only [cond_true, cond_false] at h
    · cases h
    · simp at hd
      exact ⟨hd.1.1, hd.1.2, hd.2, h⟩
  unfold boundsC at h
  cases hi with
  | none =>
    cases lo with
    | none =>
      simp only [Option.map_none] at h
      obtain ⟨h1, h2, h3, h4⟩ := fin h
      refine ⟨0, n, Nat.zero_le _, Nat.le_refl _, by simpa using h4, fun sl c hc => ?_⟩
      simp [Instr.sliceBounds]
    | some x =>
      simp only [Option.map_none, Option.map_some] at h
      split at h
      · rename_i l hl
        obtain ⟨h1, h2, h3, h4⟩ := fin h
        obtain ⟨q, tg, hv⟩ := datInt_some hl
        have e := int_rep (hv ▸ opv_rep hs 0 x)
        refine ⟨l.toNat, n, by omega, Nat.le_refl _, by simpa using h4, fun sl c hc => ?_⟩
        simp only [Instr.sliceBounds, Option.map_none, Option.map_some, Sem.run_bind, Sem.run_pure, Result.andThen_ok, run_bound (P := P) (w := w) e h1 h2]
      · cases h
  | some y =>
    simp only [Option.map_some] at h
    split at h
    · rename_i u hu
      obtain ⟨q, tg, hv⟩ := datInt_some hu
      have e := int_rep (hv ▸ opv_rep hs 0 y)
      cases lo with
      | none =>
        simp only [Option.map_none] at h
        obtain ⟨h1, h2, h3, h4⟩ := fin h
        refine ⟨0, u.toNat, Nat.zero_le _, by omega, by simpa using h4, fun sl c hc => ?_⟩
        simp only [Instr.sliceBounds, Option.map_none, Option.map_some, Sem.run_bind, Sem.run_pure, Result.andThen_ok, run_bound (P := P) (w := w) (y := c) e (by omega) (by omega)]
      | some x =>
        simp only [Option.map_some] at h
        split at h
        · rename_i l hl
          obtain ⟨h1, h2, h3, h4⟩ := fin h
          obtain ⟨q', tg', hv'⟩ := datInt_some hl
          have e' := int_rep (hv' ▸ opv_rep hs 0 x)
          refine ⟨l.toNat, u.toNat, by omega, by omega, h4, fun sl c hc => ?_⟩
          simp only [Instr.sliceBounds, Option.map_some, Sem.run_bind, Sem.run_pure, Result.andThen_ok, run_bound (P := P) (w := w) (y := c) e (by omega) (by omega), run_bound (P := P) (w := w) (y := u.toNat) e' h1 (by omega)]
        · cases h
    · cases h

theorem slice_rep {e : TypeId} {u : Ty} {xs : List u.D} {tg : Tag} {c : Value} (h : RepV C X S w (.dat ⟨.slice e u, xs, tg⟩) c) :
    ∃ A cp, c = .slice A xs.length cp ∧ xs.length ≤ cp ∧ ∀ (i : Nat) (h : i < xs.length), ∃ g o c2, A = some ⟨g, o, none⟩ ∧ Reads X.R w u xs[i] c2 ∧
        ∀ j v, c2[j]? = some v → w.cell? ⟨g, o + (i * u.size + j), none⟩ = some v ∧ X.R g (o + (i * u.size + j)) := by
  obtain ⟨cs, ⟨h1, _⟩, h2⟩ := h
  obtain ⟨A, cp, rfl, hl, hi⟩ := h1
  have h2 : [Value.slice A xs.length cp] = [c] := h2
  exact ⟨A, cp, ((List.cons.injEq _ _ _ _).mp h2).1.symm, hl, hi⟩

theorem exec_slice {o : Oper} {t : TypeId} {x : Operand} {lo hi : Option Operand} (ho : o.op = .slice t x lo hi none) {c c' : Value} (e : a.eval x = c) (h : (Instr.sliceAt t c (lo.map a.eval) (hi.map a.eval) none).run P w = .ok c' w) : (execOp a.eval o).run P w = .ok (.value c') w := by
  unfold execOp; rw [ho]; dsimp only; rw [e]; simp only [Sem.run_bind, Option.map_none, h, Result.andThen_ok, Sem.run_pure]

theorem take_drop_get {α : Type} (xs : List α) (l u i : Nat) (h : i < ((xs.take u).drop l).length) : ∃ h', ((xs.take u).drop l)[i] = xs[l + i]'h' := by
  simp only [List.length_drop, List.length_take] at h
  refine ⟨by omega, ?_⟩
  simp

theorem op_slice {Out : Type} (hC : CfgOK P C) {o : Oper} {t : TypeId} {x : Operand} {lo hi mx : Option Operand} {k : AV → AS → Option Out} {r : Out} {env : Env C} (ho : o.op = .slice t x lo hi mx) (h : evalOp C env S o k = some r) (hs : Sim C E S X a w) :
    ∃ v S', k v S' = some r ∧ OpRes P C E o a w S' v := by
  have hr := opv_rep hs t x
  unfold evalOp at h; rw [ho] at h
  cases mx with
  | some m => cases h
  | none =>
  dsimp only at h
  split at h
  · rename_i s tg h1 h2
    rw [h2] at hr
    obtain ⟨l, u, p1, p2, h, p3⟩ := boundsC_some (P := P) hs h
    have hT : P.underlying t = some .string := (hC _ _ h1).desc
    refine ⟨_, S, h, OpRes.value (exec_slice ho (str_rep hr) (c' := .string ⟨((s.take u).drop l).toArray⟩) ?_) hs (rep_str _)⟩
    have hz : (⟨s.toArray⟩ : ByteArray).size = s.length := by simp [ByteArray.size]
    have p4 := p3 false s.length (Nat.le_refl _)
    simp only [Instr.sliceAt, Sem.run_bind, run_underlying hT, Result.andThen_ok, Instr.slice, Option.isSome_none, Bool.false_eq_true, if_false, Sem.run_pure, hz, p4]
    congr 2
    rw [ByteArray.extract_mk]
    congr 2
    rw [List.drop_take]
  · rename_i e u d h1 h2
    rw [h2] at hr
    split at h
    · rename_i xs hxs
      rw [castD_mk hxs] at hr
      obtain ⟨A, cp, e1, hl, hi'⟩ := slice_rep hr
      obtain ⟨l, v, p1, p2, h, p3⟩ := boundsC_some (P := P) hs h
      have hT := (hC _ _ h1).desc
      have p4 := p3 true cp hl
      have hrun : (Instr.sliceAt t (.slice A xs.length cp) (lo.map a.eval) (hi.map a.eval) none).run P w = .ok (.slice (if cp = l then A else A.map (·.add (l * u.size))) (v - l) (cp - l)) w := by
        simp only [Instr.sliceAt, Sem.run_bind, run_underlying hT.1, Result.andThen_ok, Instr.slice, Sem.run_pure, p4, sizeOf_run (hC _ _ hT.2.1)]
      have hlen : ((xs.take v).drop l).length = v - l := by simp only [List.length_drop, List.length_take]; omega
      refine ⟨_, S, h, OpRes.value (exec_slice ho e1 hrun) hs ⟨[_], ⟨⟨if cp = l then A else A.map (·.add (l * u.size)), cp - l, by rw [hlen], by rw [hlen]; omega, fun i hi => ?_⟩, trivial⟩, rfl⟩⟩
      obtain ⟨hb, hg⟩ := take_drop_get xs l v i hi
      obtain ⟨g, of, c2, q1, q2, q3⟩ := hi' (l + i) hb
      rw [hlen] at hi
      rw [if_neg (by omega), q1]
      refine ⟨g, of + l * u.size, c2, by simp [add_eq], by rw [hg]; exact q2, fun j y hj => ?_⟩
      have := q3 j y hj
      rw [Nat.add_mul, Nat.add_assoc, ← Nat.add_assoc of] at this
      exact this
    · cases h
  · cases h

theorem op_indexAddr {Out : Type} (hC : CfgOK P C) {o : Oper} {t : TypeId} {x ix : Operand} {k : AV → AS → Option Out} {r : Out} {env : Env C} (ho : o.op = .indexAddr t x ix) (h : evalOp C env S o k = some r) (hs : Sim C E S X a w) :
    ∃ v S', k v S' = some r ∧ OpRes P C E o a w S' v := by
  have hr := opv_rep hs t x
  have hi := opv_rep hs 0 ix
  have key : ∀ {e : TypeId} {u : Ty} {g of : Nat} {n cp : Nat} {q : IntKind} {i : Int}, C.ty t = some (.slice e u) → a.eval x = .slice (some ⟨g, of, none⟩) n cp → a.eval ix = .int q i → 0 ≤ i → i < (n : Int) →
      (execOp a.eval o).run P w = .ok (.value (.pointer (some ⟨g, of + i.toNat * u.size, none⟩))) w := by
    intro e u g of n cp q i hT e1 e2 h0 h1
    have hd := (hC _ _ hT).desc
    unfold execOp; rw [ho]; dsimp only; rw [e1, e2]
    simp only [Sem.run_bind, Instr.indexAt, asIntOf, Sem.run_pure, Result.andThen_ok, run_underlying hd.1, if_pos (And.intro h0 h1), sizeOf_run (hC _ _ hd.2.1), add_eq]
  unfold evalOp at h; rw [ho] at h; dsimp only at h
  split at h
  · rename_i e u d i h1 h2 h3
    rw [h2] at hr
    obtain ⟨q, tg, h3⟩ := datInt_some h3
    rw [h3] at hi
    split at h
    · rename_i xs hxs
      rw [castD_mk hxs] at hr
      obtain ⟨h0, y, hy, h⟩ := idxC_some h
      obtain ⟨A, cp, e1, hl, hi'⟩ := slice_rep hr
      have hlt : i.toNat < xs.length := by
        rcases Nat.lt_or_ge i.toNat xs.length with h | h
        · exact h
        · rw [List.getElem?_eq_none h] at hy; cases hy
      obtain ⟨g, of, c2, q1, q2, q3⟩ := hi' i.toNat hlt
      subst q1
      rw [List.getElem?_eq_getElem hlt] at hy; injection hy with hy; subst hy
      exact ⟨_, S, h, OpRes.value (key h1 e1 (int_rep hi) h0 (by omega)) hs ⟨g, of + i.toNat * u.size, c2, rfl, q2, fun j v hj => by
        have := q3 j v hj
        rwa [← Nat.add_assoc] at this⟩⟩
    · cases h
  · rename_i e u b i h1 h2 h3
    rw [h2] at hr
    obtain ⟨q, tg, h3⟩ := datInt_some h3
    rw [h3] at hi
    split at h
    · rename_i e' u' xs hb
      cases hd : (decide (e = e') && decide (u = u') && decide (0 ≤ i) && decide (i < (xs.length : Int))) <;> rw [hd] at h <;> simp only [cond_true, cond_false] at h
      · cases h
      · simp at hd
        obtain ⟨⟨⟨rfl, rfl⟩, h0⟩, hlt⟩ := hd
        obtain ⟨e2, t2, n2, p1, p2, p3⟩ := hr
        rw [hb] at p2; simp [Sh] at p2
        obtain ⟨rfl, rfl, rfl⟩ := p2
        have hk := key h1 p3 (int_rep hi) h0 hlt
        exact ⟨_, S, h, OpRes.value hk hs ⟨_, u, xs.length, 0, p1, by rw [hb]; rfl, by omega, offs_nil u, by simp⟩⟩
    · cases h
  · cases h

theorem lenC_run {t : TypeId} {v : AV} {c : Value} {Out : Type} {k : Int → Option Out} {r : Out} (hC : CfgOK P C) (hs : Sim C E S X a w) (hv : RepV C X S w v c) (ht : (∃ d, v = .dat d ∧ C.ty t = some d.t) ∨ ∃ b e u xs, v = .marr b ∧ S.box b = .arr e u xs ∧ C.ty t = some (.slice e u))
    (h : lenC S v k = some r) : ∃ n, k n = some r ∧ ∀ ty : TypeId, (Builtin.len_ #[t] ty #[c]).run P w = .ok (.int .i64 n) w := by
  unfold lenC at h
  split at h
  · rename_i s tg
    refine ⟨_, h, fun ty => ?_⟩
    rcases ht with ⟨d, hd, ht⟩ | ⟨b, e, u, xs, hd, _⟩
    · injection hd with hd; subst hd
      have e := str_rep hv
      subst e
      have hT : P.underlying t = some .string := (hC _ _ ht).desc
      rw [run_len_string w t ty _ hT]
      rfl
    · cases hd
  · rename_i e u xs tg
    refine ⟨_, h, fun ty => ?_⟩
    rcases ht with ⟨d, hd, ht⟩ | ⟨b, e, u, xs, hd, _⟩
    · injection hd with hd; subst hd
      obtain ⟨A, cp, e1, _⟩ := slice_rep hv
      subst e1
      simp [Builtin.len_, run_underlying (hC _ _ ht).desc.1, goInt]
    · cases hd
  · rename_i b
    split at h
    · rename_i e u xs hb
      refine ⟨_, h, fun ty => ?_⟩
      rcases ht with ⟨d, hd, ht⟩ | ⟨b', e', u', xs', hd, hb', ht⟩
      · cases hd
      · injection hd with hd; subst hd
        obtain ⟨e2, t2, n2, p1, p2, p3⟩ := hv
        rw [hb] at p2; simp [Sh] at p2
        obtain ⟨rfl, rfl, rfl⟩ := p2
        subst p3
        simp [Builtin.len_, run_underlying (hC _ _ ht).desc.1, goInt]
    · cases h
  · cases h

theorem intC_run {Out : Type} {op : BinOp} {q : IntKind} {x y : Int} {t : TypeId} {k : AV → Option Out} {r : Out} (h : intC op q x y k = some r) :
    ∃ v c, k v = some r ∧ (∀ X S w, RepV C X S w v c) ∧ (binOp op t (.int q x) (.int q y)).run P w = .ok c w := by
  unfold intC at h
  split at h
  · exact ⟨_, _, h, fun _ _ _ => rep_int _ _, by simp [binOp, Op.intArith]⟩
  · exact ⟨_, _, h, fun _ _ _ => rep_int _ _, by simp [binOp, Op.intArith]⟩
  · exact ⟨_, _, h, fun _ _ _ => rep_int _ _, by simp [binOp, Op.intArith]⟩
  · cases hb : (y == 0) <;> rw [hb] at h <;> simp only [cond_true, cond_false] at h
    · refine ⟨_, _, h, fun _ _ _ => rep_int _ _, ?_⟩
      have : y ≠ 0 := by simpa using hb
      simp [binOp, Op.intDiv, this]
    · cases h
  · cases hb : (y == 0) <;> rw [hb] at h <;> simp only [cond_true, cond_false] at h
    · refine ⟨_, _, h, fun _ _ _ => rep_int _ _, ?_⟩
      have : y ≠ 0 := by simpa using hb
      simp [binOp, Op.intDiv, this]
    · cases h
  · exact ⟨_, _, h, fun _ _ _ => rep_bool _, by simp [binOp, Op.intCmp]⟩
  · exact ⟨_, _, h, fun _ _ _ => rep_bool _, by simp [binOp, Op.intCmp]⟩
  · exact ⟨_, _, h, fun _ _ _ => rep_bool _, by simp [binOp, Op.intCmp]⟩
  · exact ⟨_, _, h, fun _ _ _ => rep_bool _, by simp [binOp, Op.intCmp]⟩
  · exact ⟨_, _, h, fun _ _ _ => rep_bool _, by simp [binOp, Op.intCmp]⟩
  · exact ⟨_, _, h, fun _ _ _ => rep_bool _, by simp [binOp, Op.intCmp]⟩
  · cases h

theorem strC_run {Out : Type} {op : BinOp} {x y : List UInt8} {t : TypeId} {k : AV → Option Out} {r : Out} (h : strC op x y k = some r) :
    ∃ v c, k v = some r ∧ (∀ X S w, RepV C X S w v c) ∧ (binOp op t (.string ⟨x.toArray⟩) (.string ⟨y.toArray⟩)).run P w = .ok c w := by
  have e1 : (⟨x.toArray⟩ : ByteArray).toList = x := by rw [ByteArray.toList_eq]
  have e2 : (⟨y.toArray⟩ : ByteArray).toList = y := by rw [ByteArray.toList_eq]
  unfold strC at h
  split at h
  · cases hb : decide (x.length + y.length ≤ scap) <;> rw [hb] at h <;> simp only [cond_true, cond_false] at h
    · cases h
    · have hb := of_decide_eq_true hb
      refine ⟨_, _, h, fun _ _ _ => rep_str _, ?_⟩
      have hz : ¬ ((((⟨x.toArray⟩ : ByteArray).size + (⟨y.toArray⟩ : ByteArray).size : Nat) : Int) > IntKind.i64.max) := by
        have : IntKind.i64.max = 9223372036854775807 := rfl
        rw [this]
        unfold scap at hb
        simp only [ByteArray.size, List.size_toArray]
        omega
      show (Op.stringOp .add _ _).run P w = _
      unfold Op.stringOp
      simp only [if_neg hz, Sem.run_pure]
      congr 2
  · exact ⟨_, _, h, fun _ _ _ => rep_bool _, by simp [binOp, Op.stringOp, e1, e2]⟩
  · exact ⟨_, _, h, fun _ _ _ => rep_bool _, by simp [binOp, Op.stringOp, e1, e2]⟩
  · exact ⟨_, _, h, fun _ _ _ => rep_bool _, by simp [binOp, Op.stringOp, e1, e2]⟩
  · exact ⟨_, _, h, fun _ _ _ => rep_bool _, by simp [binOp, Op.stringOp, e1, e2]⟩
  · exact ⟨_, _, h, fun _ _ _ => rep_bool _, by simp [binOp, Op.stringOp, e1, e2]⟩
  · exact ⟨_, _, h, fun _ _ _ => rep_bool _, by simp [binOp, Op.stringOp, e1, e2]⟩
  · cases h

end
end Go.Proofs.YtmgeeanbecmkbaaGreatDoor.Den
