/- DenV: comparisons of structs, tests, conversions, structs out of parts. -/
import Derived.Test.YtmgeeanbecmkbaaGreatDoorDenU
namespace Go.Proofs.YtmgeeanbecmkbaaGreatDoor.Den
open Go
set_option linter.unusedVariables false

section
variable {P : Program} {C : Cfg} {E : Entry C} {S : AS} {X : Ctx} {a : Act} {w : World}

theorem run_part {t : TypeId} {u : Ty} (hT : TyOK P C t u) {R : Nat → Nat → Prop} {W : World} {x : u.D} {c1 c2 c3 : List Value} (hr : Reads R W u x c2) :
    ∃ c, toVal u c2 c ∧ (part t (c1 ++ (c2 ++ c3)).toArray c1.length).run P w = .ok c w := by
  by_cases hs : u.isSt = true
  · refine ⟨.agg c2.toArray, by simp [toVal, hs], ?_⟩
    unfold part
    simp only [Sem.run_bind, isAgg_st hT, Result.andThen_ok, hs, if_true, sizeOf_run hT, Sem.run_pure]
    congr 2
    rw [← hr.size]
    apply Array.ext'
    simp
  · have hs' : u.isSt = false := by simpa using hs
    have h1 := hr.size
    rw [size_one hs'] at h1
    match c2, h1 with
    | [c], _ =>
      refine ⟨c, by simp [toVal, hs'], ?_⟩
      unfold part
      have : (c1 ++ ([c] ++ c3)).toArray[c1.length]? = some c := by simp
      simp only [Sem.run_bind, isAgg_st hT, Result.andThen_ok, hs', Bool.false_eq_true, if_false, this, Sem.run_pure]

/-- '==' at a kind, as the model goes about it, whatever the depth that is left (beyond the kind's own). -/
def Ty.depth : Ty → Nat
  | .pair a b => max (a.depth + 1) b.depth
  | _ => 1

theorem reads_st {R : Nat → Nat → Prop} {u : Ty} {x : u.D} {cs : List Value} {c : Value} (hs : u.isSt = true) (h : toVal u cs c) : c = .agg cs.toArray := by simpa [toVal, hs] using h

theorem eq_run (hC : CfgOK P C) : ∀ (u : Ty), (∀ (t : TypeId) (d : Nat) {R : Nat → Nat → Prop} {W : World} {x y : u.D} {c1 c2 : List Value} {v1 v2 : Value} {r : Bool}, u.depth ≤ d → C.ty t = some u → Reads R W u x c1 → Reads R W u y c2 → toVal u c1 v1 → toVal u c2 v2 → eqD u x y = some r → (Op.equalIn d t v1 v2).run P w = .ok r w) ∧
    (∀ (fs : List Field) (o d : Nat) {R : Nat → Nat → Prop} {W : World} {x y : u.D} {p1 p2 c1 c2 : List Value} {r : Bool}, u.depth ≤ d + 1 → FieldsOK C fs u o → p1.length = o → p2.length = o → Reads R W u x c1 → Reads R W u y c2 → eqD u x y = some r → (Op.eqFields d (p1 ++ c1).toArray (p2 ++ c2).toArray fs).run P w = .ok r w)
  | .int q => by
    refine ⟨?_, fun fs o d => by intros; rename_i h _ _ _ _ _; cases fs <;> exact h.elim⟩
    intro t d R W x y c1 c2 v1 v2 r hd ht h1 h2 hv1 hv2 he
    have hT := (hC _ _ ht).desc
    rw [show c1 = [_] from h1] at hv1
    rw [show c2 = [_] from h2] at hv2
    have hv1 : [Value.int q x] = [v1] := hv1
    have hv2 : [Value.int q y] = [v2] := hv2
    obtain rfl := ((List.cons.injEq _ _ _ _).mp hv1).1
    obtain rfl := ((List.cons.injEq _ _ _ _).mp hv2).1
    simp only [eqD, Option.some.injEq] at he; subst he
    cases d with
    | zero => simp [Ty.depth] at hd
    | succ d => simp [Op.equalIn, run_underlying hT]
  | .bool => by
    refine ⟨?_, fun fs o d => by intros; rename_i h _ _ _ _ _; cases fs <;> exact h.elim⟩
    intro t d R W x y c1 c2 v1 v2 r hd ht h1 h2 hv1 hv2 he
    have hT := (hC _ _ ht).desc
    rw [show c1 = [_] from h1] at hv1
    rw [show c2 = [_] from h2] at hv2
    have hv1 : [Value.bool x] = [v1] := hv1
    have hv2 : [Value.bool y] = [v2] := hv2
    obtain rfl := ((List.cons.injEq _ _ _ _).mp hv1).1
    obtain rfl := ((List.cons.injEq _ _ _ _).mp hv2).1
    simp only [eqD, Option.some.injEq] at he; subst he
    cases d with
    | zero => simp [Ty.depth] at hd
    | succ d => simp [Op.equalIn, run_underlying hT]
  | .str => by
    refine ⟨?_, fun fs o d => by intros; rename_i h _ _ _ _ _; cases fs <;> exact h.elim⟩
    intro t d R W x y c1 c2 v1 v2 r hd ht h1 h2 hv1 hv2 he
    have hT := (hC _ _ ht).desc
    rw [show c1 = [_] from h1] at hv1
    rw [show c2 = [_] from h2] at hv2
    have hv1 : [Value.string ⟨List.toArray x⟩] = [v1] := hv1
    have hv2 : [Value.string ⟨List.toArray y⟩] = [v2] := hv2
    obtain rfl := ((List.cons.injEq _ _ _ _).mp hv1).1
    obtain rfl := ((List.cons.injEq _ _ _ _).mp hv2).1
    simp only [eqD, Option.some.injEq] at he; subst he
    cases d with
    | zero => simp [Ty.depth] at hd
    | succ d =>
      simp only [Op.equalIn, Sem.run_bind, run_underlying hT, Result.andThen_ok, Sem.run_pure]
      rw [beq_toListBytes, ByteArray.toList_eq, ByteArray.toList_eq]
  | .err => ⟨fun t d => by intros; rename_i he; simp [eqD] at he, fun fs o d => by intros; rename_i h _ _ _ _ _; cases fs <;> exact h.elim⟩
  | .ptr => ⟨fun t d => by intros; rename_i he; simp [eqD] at he, fun fs o d => by intros; rename_i h _ _ _ _ _; cases fs <;> exact h.elim⟩
  | .slice _ _ => ⟨fun t d => by intros; rename_i he; simp [eqD] at he, fun fs o d => by intros; rename_i h _ _ _ _ _; cases fs <;> exact h.elim⟩
  | .unit => by
    have fld : ∀ (fs : List Field) (o d : Nat) {R : Nat → Nat → Prop} {W : World} {x y : Ty.unit.D} {p1 p2 c1 c2 : List Value} {r : Bool}, Ty.unit.depth ≤ d + 1 → FieldsOK C fs .unit o → p1.length = o → p2.length = o → Reads R W .unit x c1 → Reads R W .unit y c2 → eqD .unit x y = some r → (Op.eqFields d (p1 ++ c1).toArray (p2 ++ c2).toArray fs).run P w = .ok r w := by
      intro fs o d R W x y p1 p2 c1 c2 r hd hf _ _ _ _ he
      cases fs with
      | nil => simp only [eqD, Option.some.injEq] at he; subst he; rfl
      | cons f fs => exact hf.elim
    refine ⟨?_, fld⟩
    intro t d R W x y c1 c2 v1 v2 r hd ht h1 h2 hv1 hv2 he
    have hK := hC _ _ ht
    obtain ⟨fs, hT, hf⟩ := hK.desc
    obtain rfl := reads_st (R := R) (x := x) rfl hv1
    obtain rfl := reads_st (R := R) (x := y) rfl hv2
    have hT' : P.underlying t = some (.struct (P.fieldsOf t)) := by simp [Program.fieldsOf, hT]
    have hfs : P.fieldsOf t = fs := by simp [Program.fieldsOf, hT]
    cases d with
    | zero => simp [Ty.depth] at hd
    | succ d =>
      rw [run_equalIn_struct w d t _ _ hT' (hK.eqg rfl).2, hfs]
      exact fld fs.toList 0 d (p1 := []) (p2 := []) (by simp [Ty.depth]) hf rfl rfl h1 h2 he
  | .pair a b => by
    obtain ⟨iha, _⟩ := eq_run hC a
    obtain ⟨_, ihb⟩ := eq_run hC b
    have fld : ∀ (fs : List Field) (o d : Nat) {R : Nat → Nat → Prop} {W : World} {x y : (Ty.pair a b).D} {p1 p2 c1 c2 : List Value} {r : Bool}, (Ty.pair a b).depth ≤ d + 1 → FieldsOK C fs (.pair a b) o → p1.length = o → p2.length = o → Reads R W (.pair a b) x c1 → Reads R W (.pair a b) y c2 → eqD (.pair a b) x y = some r → (Op.eqFields d (p1 ++ c1).toArray (p2 ++ c2).toArray fs).run P w = .ok r w := by
      intro fs o d R W x y p1 p2 c1 c2 r hd hf hp1 hp2 h1 h2 he
      cases fs with
      | nil => exact hf.elim
      | cons f fs =>
        obtain ⟨hf1, hf2, hf3, hf4, hf5⟩ := hf
        obtain ⟨e1, e2, rfl, k1, k2⟩ := h1
        obtain ⟨g1, g2, rfl, l1, l2⟩ := h2
        simp only [eqD] at he
        split at he
        · rename_i pa pb ha hb
          injection he with he; subst he
          obtain ⟨v1, q1, q2⟩ := run_part (w := w) (hC _ _ hf2) (c1 := p1) (c3 := e2) k1
          obtain ⟨v2, q3, q4⟩ := run_part (w := w) (hC _ _ hf2) (c1 := p2) (c3 := g2) l1
          simp only [Ty.depth] at hd
          have i1 := iha f.type d (by omega) hf2 k1 l1 q1 q3 ha
          have i2 := ihb fs (o + a.size) d (p1 := p1 ++ e1) (p2 := p2 ++ g1) (by omega) hf5 (by simp [hp1, k1.size]) (by simp [hp2, l1.size]) k2 l2 hb
          rw [hp1, ← hf1] at q2
          rw [hp2, ← hf1] at q4
          simp only [Op.eqFields, if_pos hf3, Sem.run_bind, q2, q4, Result.andThen_ok, i1]
          cases pa
          · simp
          · simpa using i2
        · cases he
    refine ⟨?_, fld⟩
    intro t d R W x y c1 c2 v1 v2 r hd ht h1 h2 hv1 hv2 he
    have hK := hC _ _ ht
    obtain ⟨fs, hT, hf⟩ := hK.desc
    obtain rfl := reads_st (R := R) (x := x) rfl hv1
    obtain rfl := reads_st (R := R) (x := y) rfl hv2
    have hT' : P.underlying t = some (.struct (P.fieldsOf t)) := by simp [Program.fieldsOf, hT]
    have hfs : P.fieldsOf t = fs := by simp [Program.fieldsOf, hT]
    cases d with
    | zero => simp [Ty.depth] at hd
    | succ d =>
      rw [run_equalIn_struct w d t _ _ hT' (hK.eqg rfl).2, hfs]
      exact fld fs.toList 0 d (p1 := []) (p2 := []) hd hf rfl rfl h1 h2 he


theorem exec_bin {o : Oper} {op : BinOp} {t t' : TypeId} {x y : Operand} (ho : o.op = .binOp op t x y t') {c : Value} (hg : (eqGuard op t x y (a.eval x) (a.eval y)).run P w = .ok () w) (h : (binOp op t (a.eval x) (a.eval y)).run P w = .ok c w) :
    (execOp a.eval o).run P w = .ok (.value c) w := by
  unfold execOp; rw [ho]; dsimp only
  simp only [Sem.run_bind, hg, h, Result.andThen_ok, Sem.run_pure]

theorem guard_plain {op : BinOp} {t : TypeId} {x y : Operand} {c d : Value} (h : (∀ cs, c ≠ .agg cs) ∧ c ≠ .nilIface) : (eqGuard op t x y c d).run P w = .ok () w := by
  unfold eqGuard
  cases op <;> simp <;> (cases c <;> first | rfl | (exact absurd rfl (h.1 _)) | (exact absurd rfl h.2))

theorem guard_nil {op : BinOp} {t : TypeId} {x y : Operand} (h : (isK x || isK y) = true) : (eqGuard op t x y .nilIface .nilIface).run P w = .ok () w := by
  unfold eqGuard
  cases op <;> first
    | rfl
    | (cases x <;> cases y <;> first | rfl | (simp [isK] at h))

theorem toD_agg {v : AV} {p q : Ty} {x : (Ty.pair p q).D} {c : Value} (h : toD v (.pair p q) = some x) (hv : RepV C X S w v c) : ∃ cs, Reads X.R w (.pair p q) x cs ∧ c = .agg cs.toArray := by
  obtain ⟨cs, h1, h2⟩ := toD_rep h hv
  exact ⟨cs, h1, by simpa [toVal, Ty.isSt] using h2⟩

theorem op_bin {Out : Type} (hC : CfgOK P C) (hdep : ∀ t u, C.ty t = some u → u.depth ≤ 9999) {o : Oper} {op : BinOp} {t t' : TypeId} {x y : Operand} {k : AV → AS → Option Out} {r : Out} {env : Env C} (ho : o.op = .binOp op t x y t') (h : evalOp C env S o k = some r) (hs : Sim C E S X a w) :
    ∃ v S', k v S' = some r ∧ OpRes P C E o a w S' v := by
  have hx := opv_rep hs t x
  have hy := opv_rep hs t' y
  unfold evalOp at h; rw [ho] at h; dsimp only at h
  unfold binC at h
  split at h
  · rename_i q i tg q' j tg' h1 h2
    rw [h1] at hx; rw [h2] at hy
    cases hq : decide (q = q') <;> rw [hq] at h <;> simp only [cond_true, cond_false] at h
    · cases h
    · have hq := of_decide_eq_true hq; subst hq
      obtain ⟨v, c, p1, p2, p3⟩ := intC_run (P := P) (w := w) (t := t) h
      rw [← int_rep hx, ← int_rep hy] at p3
      refine ⟨v, S, p1, OpRes.value (exec_bin ho (guard_plain ?_) p3) hs (p2 _ _ _)⟩
      rw [int_rep hx]; exact ⟨fun _ e => (nomatch e), fun e => (nomatch e)⟩
  · rename_i s tg s' tg' h1 h2
    rw [h1] at hx; rw [h2] at hy
    obtain ⟨v, c, p1, p2, p3⟩ := strC_run (P := P) (w := w) (t := t) h
    rw [← str_rep hx, ← str_rep hy] at p3
    refine ⟨v, S, p1, OpRes.value (exec_bin ho (guard_plain ?_) p3) hs (p2 _ _ _)⟩
    rw [str_rep hx]; exact ⟨fun _ e => (nomatch e), fun e => (nomatch e)⟩
  · rename_i b tg b' tg' h1 h2
    rw [h1] at hx; rw [h2] at hy
    have ex := bool_rep hx
    have ey := bool_rep hy
    have hg : (eqGuard op t x y (a.eval x) (a.eval y)).run P w = .ok () w := guard_plain (by rw [ex]; exact ⟨fun _ e => (nomatch e), fun e => (nomatch e)⟩)
    have he : ∀ d : Nat, C.ty t = some .bool → (Op.equalIn (d + 1) t (.bool b) (.bool b')).run P w = .ok (b == b') w := fun d ht => by
      simp [Op.equalIn, run_underlying (show P.underlying t = some .bool from (hC _ _ ht).desc)]
    split at h
    · rename_i ht
      refine ⟨_, S, h, OpRes.value (c := .bool (b == b')) (exec_bin ho hg ?_) hs (rep_bool _)⟩
      rw [ex, ey]
      simp only [binOp, Sem.run_bind, Op.equal, Op.maxDepth, he 9999 ht, Result.andThen_ok, Sem.run_pure]
    · rename_i ht
      refine ⟨_, S, h, OpRes.value (c := .bool (!(b == b'))) (exec_bin ho hg ?_) hs (rep_bool _)⟩
      rw [ex, ey]
      simp only [binOp, Sem.run_bind, Op.equal, Op.maxDepth, he 9999 ht, Result.andThen_ok, Sem.run_pure]
    · cases h
  · rename_i b tg b' tg' h1 h2
    rw [h1] at hx; rw [h2] at hy
    have ex := err_rep hx
    have key : b' = true → (isK x || isK y) = true → C.ty t = some .err → ∀ n : Bool, (Op.equal t (a.eval x) (a.eval y)).run P w = .ok b w ∧ (eqGuard op t x y (a.eval x) (a.eval y)).run P w = .ok () w := by
      intro hb' hk ht n
      subst hb'
      have ey : a.eval y = .nilIface := by simpa using err_rep hy
      obtain ⟨ms, hT⟩ := (hC _ _ ht).desc
      cases b with
      | true =>
        have ex : a.eval x = .nilIface := by simpa using ex
        rw [ex, ey]
        have he : ∀ d : Nat, (Op.equalIn (d + 1) t .nilIface .nilIface).run P w = .ok true w := fun d => by simp only [Op.equalIn, Sem.run_bind, run_underlying hT, Result.andThen_ok, Sem.run_pure]
        refine ⟨he 9999, guard_nil hk⟩
      | false =>
        obtain ⟨u, v, ex⟩ : ∃ u v, a.eval x = .iface u v := by simpa using ex
        rw [ex, ey]
        have he : ∀ d : Nat, (Op.equalIn (d + 1) t (.iface u v) .nilIface).run P w = .ok false w := fun d => by simp only [Op.equalIn, Sem.run_bind, run_underlying hT, Result.andThen_ok, Sem.run_pure]
        exact ⟨he 9999, guard_plain ⟨fun _ e => (nomatch e), fun e => (nomatch e)⟩⟩
    have hbin : ∀ (e : Bool), (Op.equal t (a.eval x) (a.eval y)).run P w = .ok e w → a.eval y = .nilIface → (binOp .eql t (a.eval x) (a.eval y)).run P w = .ok (.bool e) w ∧ (binOp .neq t (a.eval x) (a.eval y)).run P w = .ok (.bool (!e)) w := by
      intro e he ey
      cases b with
      | true =>
        have ex : a.eval x = .nilIface := by simpa using ex
        rw [ex, ey] at he ⊢
        constructor <;> simp only [binOp, Sem.run_bind, he, Result.andThen_ok, Sem.run_pure]
      | false =>
        obtain ⟨u, v, ex⟩ : ∃ u v, a.eval x = .iface u v := by simpa using ex
        rw [ex, ey] at he ⊢
        constructor <;> simp only [binOp, Sem.run_bind, he, Result.andThen_ok, Sem.run_pure]
    split at h
    · rename_i ht
      cases hb : (b' && (isK x || isK y)) <;> rw [hb] at h <;> simp only [cond_true, cond_false] at h
      · cases h
      · simp only [Bool.and_eq_true] at hb
        obtain ⟨k1, k2⟩ := key hb.1 hb.2 ht true
        have ey : a.eval y = .nilIface := by have := err_rep hy; rw [hb.1] at this; simpa using this
        exact ⟨_, S, h, OpRes.value (exec_bin ho k2 (hbin b k1 ey).1) hs (rep_bool _)⟩
    · rename_i ht
      cases hb : (b' && (isK x || isK y)) <;> rw [hb] at h <;> simp only [cond_true, cond_false] at h
      · cases h
      · simp only [Bool.and_eq_true] at hb
        obtain ⟨k1, k2⟩ := key hb.1 hb.2 ht true
        have ey : a.eval y = .nilIface := by have := err_rep hy; rw [hb.1] at this; simpa using this
        exact ⟨_, S, h, OpRes.value (exec_bin ho k2 (hbin b k1 ey).2) hs (rep_bool _)⟩
    · cases h
  · split at h
    · rename_i p q ht
      split at h
      · rename_i u v hu hv
        obtain ⟨c1, r1, e1⟩ := toD_agg hu hx
        obtain ⟨c2, r2, e2⟩ := toD_agg hv hy
        have hK := hC _ _ ht
        have hg : (eqGuard op t x y (a.eval x) (a.eval y)).run P w = .ok () w := by
          rw [e1, e2]
          unfold eqGuard
          have := (hK.eqg rfl).1
          cases op <;> simp [this]
        have heq : ∀ {res : Bool}, eqD (.pair p q) u v = some res → (Op.equal t (a.eval x) (a.eval y)).run P w = .ok res w := by
          intro res he
          unfold Op.equal Op.maxDepth
          refine (eq_run hC (.pair p q)).1 t 10000 (by have := hdep _ _ ht; omega) ht r1 r2 ?_ ?_ he
          · simpa [toVal, Ty.isSt] using e1
          · simpa [toVal, Ty.isSt] using e2
        split at h
        · rename_i res he
          refine ⟨_, S, h, OpRes.value (c := .bool res) (exec_bin ho hg ?_) hs (rep_bool _)⟩
          have := heq he
          rw [e1, e2] at this ⊢
          simp only [binOp, Sem.run_bind, this, Result.andThen_ok, Sem.run_pure]
        · rename_i res he
          refine ⟨_, S, h, OpRes.value (c := .bool (!res)) (exec_bin ho hg ?_) hs (rep_bool _)⟩
          have := heq he
          rw [e1, e2] at this ⊢
          simp only [binOp, Sem.run_bind, this, Result.andThen_ok, Sem.run_pure]
        · cases h
      · cases h
    · cases h

theorem op_un {Out : Type} {o : Oper} {op : UnOp} {t : TypeId} {x : Operand} {k : AV → AS → Option Out} {r : Out} {env : Env C} (ho : o.op = .unOp op t x) (h : evalOp C env S o k = some r) (hs : Sim C E S X a w) :
    ∃ v S', k v S' = some r ∧ OpRes P C E o a w S' v := by
  have hx := opv_rep hs t x
  unfold evalOp at h; rw [ho] at h; dsimp only at h
  split at h
  · rename_i b tg h1
    rw [h1] at hx
    refine ⟨_, S, h, OpRes.value (c := .bool (!b)) ?_ hs (rep_bool _)⟩
    unfold execOp; rw [ho]; dsimp only; rw [bool_rep hx]; rfl
  · rename_i q n tg h1
    rw [h1] at hx
    refine ⟨_, S, h, OpRes.value (c := .int q (q.wrap (0 - n))) ?_ hs (rep_int _ _)⟩
    unfold execOp; rw [ho]; dsimp only; rw [int_rep hx]
    simp [Op.unary, Op.intArith]
  · cases h

theorem op_field {Out : Type} (hC : CfgOK P C) {o : Oper} {s : TypeId} {x : Operand} {f : Nat} {k : AV → AS → Option Out} {r : Out} {env : Env C} (ho : o.op = .field s x f) (h : evalOp C env S o k = some r) (hs : Sim C E S X a w) :
    ∃ v S', k v S' = some r ∧ OpRes P C E o a w S' v := by
  have hx := opv_rep hs s x
  unfold evalOp at h; rw [ho] at h; dsimp only at h
  split at h
  · rename_i t ht
    split at h
    · rename_i y hy
      split at h
      · rename_i d hd
        obtain ⟨cs, h1, h2⟩ := toD_rep hy hx
        obtain ⟨of, c1, c2, c3, rfl, p1, p2, p3, p4, p5⟩ := reads_fieldD hd h1
        obtain ⟨fs, f', d', q1, q2, q3, q4, q5, _⟩ := struct_of_field (hC _ _ ht) p3
        rw [p2] at q5; injection q5 with q5; injection q5 with _ q5; subst q5
        have hst : t.isSt = true := by cases t <;> first | rfl | (simp [fieldTy] at p3)
        have e : a.eval x = .agg (c1 ++ (c2 ++ c3)).toArray := by simpa [toVal, hst] using h2
        obtain ⟨c, r1, r2⟩ := run_part (w := w) (hC _ _ q4) (c1 := c1) (c3 := c3) p4
        refine ⟨_, S, h, OpRes.value (c := c) ?_ hs ⟨c2, ⟨p4, by simp [TagOk, p5]⟩, r1⟩⟩
        unfold execOp; rw [ho]; dsimp only; rw [e]
        rw [p1, ← q3] at r2
        simp only [Sem.run_bind, Instr.field, run_underlying q1, Result.andThen_ok, q2, asAgg, Sem.run_pure, r2]
      · cases h
    · cases h
  · cases h

theorem bytes_of_reads {R : Nat → Nat → Prop} {W : World} {xs : List Int} {A : Option Addr} {e : TypeId} (hA : ∀ (i : Nat) (h : i < xs.length), ∃ g o c2, A = some ⟨g, o, none⟩ ∧ Reads R W (.int .u8) xs[i] c2 ∧
        ∀ j v, c2[j]? = some v → W.cell? ⟨g, o + (i * (Ty.int .u8).size + j), none⟩ = some v ∧ R g (o + (i * (Ty.int .u8).size + j))) :
    xs = [] ∨ ∃ g o, A = some ⟨g, o, none⟩ ∧ ∀ j u, (xs.map (Value.int .u8))[j]? = some u → W.cell? ((⟨g, o, none⟩ : Addr).add j) = some u := by
  cases hx : xs with
  | nil => exact .inl rfl
  | cons y ys =>
    right
    obtain ⟨g, o, c2, hAo, _, _⟩ := hA 0 (by rw [hx]; simp)
    refine ⟨g, o, hAo, fun j u hu => ?_⟩
    rw [← hx] at hu
    have hj : j < xs.length := by
      rcases Nat.lt_or_ge j xs.length with h | h
      · exact h
      · rw [List.getElem?_eq_none (by simpa using h)] at hu; cases hu
    obtain ⟨g', o', c2', hAo', h1, h2⟩ := hA j hj
    rw [hAo] at hAo'; injection hAo' with hAo'; injection hAo' with e1 e2; subst e1 e2
    have h1 : c2' = [.int .u8 xs[j]] := h1
    subst h1
    have := (h2 0 _ rfl).1
    rw [add_eq]
    rw [List.getElem?_map, List.getElem?_eq_getElem hj] at hu
    simp only [Option.map_some] at hu
    rw [← hu]
    simpa [Ty.size] using this

theorem op_conv {Out : Type} (hC : CfgOK P C) {o : Oper} {src dst : TypeId} {x : Operand} {k : AV → AS → Option Out} {r : Out} {env : Env C} (ho : o.op = .convert src dst x) (h : evalOp C env S o k = some r) (hs : Sim C E S X a w) :
    ∃ v S', k v S' = some r ∧ OpRes P C E o a w S' v := by
  have hx := opv_rep hs src x
  have exec : ∀ {c : Value}, (convert src dst (a.eval x)).run P w = .ok c w → (execOp a.eval o).run P w = .ok (.value c) w := by
    intro c h
    unfold execOp; rw [ho]; dsimp only
    simp only [Sem.run_bind, h, Result.andThen_ok, Sem.run_pure]
  unfold evalOp at h; rw [ho] at h; dsimp only at h
  unfold convC at h
  split at h
  · rename_i q q' q2 n tg h1 h2 h3
    rw [h3] at hx
    have s1 : P.underlying src = some (.int q) := (hC _ _ h1).desc
    have s2 : P.underlying dst = some (.int q') := (hC _ _ h2).desc
    refine ⟨_, S, h, OpRes.value (exec (c := .int q' (q'.wrap n)) ?_) hs (rep_int _ _)⟩
    rw [int_rep hx]
    simp [convert, run_underlying s1, run_underlying s2, Conv.intToInt]
  · rename_i s tg h1 h2 h3
    rw [h3] at hx
    have s1 : P.underlying src = some .string := (hC _ _ h1).desc
    have s2 : P.underlying dst = some .string := (hC _ _ h2).desc
    refine ⟨_, S, h, OpRes.value (exec (c := a.eval x) ?_) hs hx⟩
    rw [str_rep hx]
    simp [convert, run_underlying s1, run_underlying s2]
  · rename_i e e' xs tg h1 h2 h3
    rw [h3] at hx
    cases he : decide (e = e') <;> rw [he] at h <;> simp only [cond_true, cond_false] at h
    · cases h
    · have he := of_decide_eq_true he; subst he
      obtain ⟨s1, s3, _⟩ := (hC _ _ h1).desc
      have s2 : P.underlying dst = some .string := (hC _ _ h2).desc
      have s3' : P.underlying e = some (.int .u8) := (hC _ _ s3).desc
      obtain ⟨A, cp, e1, hl, hi⟩ := slice_rep hx
      refine ⟨_, S, h, OpRes.value (exec (c := .string ⟨(xs.map fun n => UInt8.ofNat n.toNat).toArray⟩) ?_) hs (rep_str _)⟩
      rw [e1, run_convert_bytes_string w src dst e A _ cp s1 s3' s2]
      have hfold : ∀ (l : List Int) (b : List UInt8), (l.foldl (fun r n => r.push (UInt8.ofNat n.toNat)) (⟨b.toArray⟩ : ByteArray)) = ⟨(b ++ l.map fun n => UInt8.ofNat n.toNat).toArray⟩ := by
        intro l
        induction l with
        | nil => intro b; simp
        | cons n l ih =>
          intro b
          simp only [List.foldl_cons, List.map_cons]
          have : (⟨b.toArray⟩ : ByteArray).push (UInt8.ofNat n.toNat) = ⟨(b ++ [UInt8.ofNat n.toNat]).toArray⟩ := by
            apply ByteArray.ext
            simp [ByteArray.push]
          rw [this, ih]
          simp
      rcases bytes_of_reads (e := e) hi with rfl | ⟨g, of, rfl, hc⟩
      · cases A with
        | none => simp [Conv.bytesToString]; rfl
        | some ad =>
          rw [run_bytesToString w ad _ cp [] (by simp [loadCells, loadCellsFrom])]
          rfl
      · have hl2 : (loadCells ⟨g, of, none⟩ xs.length).run P w = .ok (xs.map (Value.int .u8)).toArray w := by
          have := run_loadCells_list (P := P) w ⟨g, of, none⟩ (xs.map (Value.int .u8)) hc
          simpa using this
        rw [run_bytesToString w _ _ cp xs hl2]
        have := hfold xs []
        simp only [List.nil_append] at this
        rw [← this]
        rfl
  · cases h

end
end Go.Proofs.YtmgeeanbecmkbaaGreatDoor.Den
