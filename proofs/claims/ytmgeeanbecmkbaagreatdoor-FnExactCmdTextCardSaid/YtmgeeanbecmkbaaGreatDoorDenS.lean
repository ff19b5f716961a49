/- DenS: one operation on plain data is what the model does: operations that make and write no memory. -/
import Derived.Test.YtmgeeanbecmkbaaGreatDoorDenL
namespace Go.Proofs.YtmgeeanbecmkbaaGreatDoor.Den
open Go
set_option linter.unusedVariables false

section
variable {P : Program} {C : Cfg} {E : Entry C} {S : AS} {X : Ctx} {a : Act} {w : World}

/-- What is to be shown of an operation. -/
def OpRes (P : Program) (C : Cfg) (E : Entry C) (o : Oper) (a : Act) (w : World) (S' : AS) (v : AV) : Prop :=
  ∀ Q, o.wp P a w (fun a' w' => ∃ X' c, a' = a.put o.dst c ∧ Sim C E S' X' a w' ∧ RepV C X' S' w' v c) Q

theorem OpRes.value {o : Oper} {S' : AS} {v : AV} {X' : Ctx} {c : Value} {w' : World} (h : (execOp a.eval o).run P w = .ok (.value c) w') (hs : Sim C E S' X' a w') (hv : RepV C X' S' w' v c) : OpRes P C E o a w S' v := by
  intro Q
  unfold Oper.wp
  rw [h]
  exact ⟨X', c, rfl, hs, hv⟩

theorem OpRes.skip {o : Oper} {S' : AS} {X' : Ctx} {w' : World} (h : (execOp a.eval o).run P w = .ok .skip w') (hs : Sim C E S' X' a w') : OpRes P C E o a w S' .bot := by
  intro Q
  unfold Oper.wp
  rw [h]
  exact ⟨X', undef, rfl, hs, trivial⟩

theorem const_rep (t : TypeId) (v : Value) : RepV C X S w (constAV C t v) v := by
  unfold constAV
  split
  · exact ⟨_, ⟨rfl, trivial⟩, rfl⟩
  · exact ⟨_, ⟨rfl, trivial⟩, rfl⟩
  · rename_i s
    exact ⟨_, ⟨rfl, trivial⟩, rfl⟩
  · split
    · exact ⟨[.slice none 0 0], ⟨⟨none, 0, rfl, Nat.le_refl _, fun i h => absurd h (Nat.not_lt_zero i)⟩, rfl⟩, rfl⟩
    · trivial
  · exact ⟨_, ⟨rfl, trivial⟩, rfl⟩
  · trivial

theorem opv_rep (h : Sim C E S X a w) (t : TypeId) (x : Operand) : RepV C X S w (opv C S t x) (a.eval x) := by
  cases x with
  | tmp d => exact h.tm d
  | const v => exact const_rep t v
  | func f => rfl
  | global g => trivial

theorem int_rep {q : IntKind} {n : Int} {tg : Tag} {c : Value} (h : RepV C X S w (.dat ⟨.int q, n, tg⟩) c) : c = .int q n := by
  obtain ⟨cs, ⟨h1, _⟩, h2⟩ := h
  have h1 : cs = [.int q n] := h1
  have h2 : cs = [c] := h2
  rw [h1] at h2
  exact ((List.cons.injEq _ _ _ _).mp h2).1.symm

theorem bool_rep {b : Bool} {tg : Tag} {c : Value} (h : RepV C X S w (.dat ⟨.bool, b, tg⟩) c) : c = .bool b := by
  obtain ⟨cs, ⟨h1, _⟩, h2⟩ := h
  have h1 : cs = [.bool b] := h1
  have h2 : cs = [c] := h2
  rw [h1] at h2
  exact ((List.cons.injEq _ _ _ _).mp h2).1.symm

theorem str_rep {s : List UInt8} {tg : Tag} {c : Value} (h : RepV C X S w (.dat ⟨.str, s, tg⟩) c) : c = .string ⟨s.toArray⟩ := by
  obtain ⟨cs, ⟨h1, _⟩, h2⟩ := h
  have h1 : cs = [.string ⟨s.toArray⟩] := h1
  have h2 : cs = [c] := h2
  rw [h1] at h2
  exact ((List.cons.injEq _ _ _ _).mp h2).1.symm

theorem err_rep {b : Bool} {tg : Tag} {c : Value} (h : RepV C X S w (.dat ⟨.err, b, tg⟩) c) : if b = true then c = .nilIface else ∃ u v, c = .iface u v := by
  obtain ⟨cs, ⟨h1, _⟩, h2⟩ := h
  have h2 : cs = [c] := h2
  subst h2
  cases b
  · obtain ⟨u, v, h1⟩ := (show ∃ u v, [c] = [Value.iface u v] from h1)
    exact ⟨u, v, ((List.cons.injEq _ _ _ _).mp h1).1⟩
  · have h1 : [c] = [Value.nilIface] := h1
    exact ((List.cons.injEq _ _ _ _).mp h1).1

theorem rep_int (q : IntKind) (n : Int) : RepV C X S w (.dat ⟨.int q, n, .ro⟩) (.int q n) := ⟨_, ⟨rfl, trivial⟩, rfl⟩
theorem rep_bool (b : Bool) : RepV C X S w (.dat ⟨.bool, b, .ro⟩) (.bool b) := ⟨_, ⟨rfl, trivial⟩, rfl⟩
theorem rep_str (s : List UInt8) : RepV C X S w (.dat ⟨.str, s, .ro⟩) (.string ⟨s.toArray⟩) := ⟨_, ⟨rfl, trivial⟩, rfl⟩

theorem castD_some {d : Dat} {t : Ty} {x : t.D} (h : castD d t = some x) : ∃ e : d.t = t, e ▸ d.x = x := by
  unfold castD at h
  split at h
  · rename_i e; exact ⟨e, by injection h⟩
  · cases h

theorem castD_mk {d : Dat} {t : Ty} {x : t.D} (h : castD d t = some x) : d = ⟨t, x, d.tag⟩ := by
  obtain ⟨e, hx⟩ := castD_some h
  obtain ⟨t', y, tg⟩ := d
  dsimp only at e hx ⊢
  subst e
  have hx : y = x := hx
  rw [hx]

theorem castD_reads {R : Nat → Nat → Prop} {d : Dat} {t : Ty} {x : t.D} {cs : List Value} (h : castD d t = some x) : Reads R w d.t d.x cs ↔ Reads R w t x cs := by
  rw [castD_mk h]

theorem pack_reads : ∀ {t : Ty} {fs : List Dat} {x : t.D} {cs : List Value}, pack t fs = some x → FsRep X S w fs cs → Reads X.R w t x cs ∧ t.isSt = true
  | .pair a b, d :: r, x, cs, h, hf => by
    unfold pack at h
    split at h
    · rename_i p q hp hq
      injection h with h; subst h
      obtain ⟨c1, c2, rfl, h1, h2⟩ := hf
      exact ⟨⟨c1, c2, rfl, (castD_reads hp).1 h1.1, (pack_reads hq h2).1⟩, rfl⟩
    · cases h
  | .unit, [], x, cs, _, hf => ⟨hf, rfl⟩
  | .pair _ _, [], _, _, h, _ => by simp [pack] at h
  | .unit, _ :: _, _, _, h, _ => by simp [pack] at h
  | .int _, l, _, _, h, _ => by cases l <;> simp [pack] at h
  | .bool, l, _, _, h, _ => by cases l <;> simp [pack] at h
  | .str, l, _, _, h, _ => by cases l <;> simp [pack] at h
  | .err, l, _, _, h, _ => by cases l <;> simp [pack] at h
  | .ptr, l, _, _, h, _ => by cases l <;> simp [pack] at h
  | .slice _ _, l, _, _, h, _ => by cases l <;> simp [pack] at h

/-- A value taken as a datum of a kind. -/
theorem toD_rep {v : AV} {t : Ty} {x : t.D} {c : Value} (h : toD v t = some x) (hv : RepV C X S w v c) : ∃ cs, Reads X.R w t x cs ∧ toVal t cs c := by
  cases v with
  | dat d =>
    obtain ⟨cs, h1, h2⟩ := hv
    have e := castD_mk (show castD d t = some x from h)
    rw [e] at h1 h2
    exact ⟨cs, h1.1, h2⟩
  | sv fs =>
    obtain ⟨cs, h1, h2⟩ := hv
    obtain ⟨p, q⟩ := pack_reads (show pack t fs = some x from h) h1
    exact ⟨cs, p, by simp [toVal, q, h2]⟩
  | _ => simp [toD] at h

theorem reads_fieldD : ∀ {t : Ty} {x : t.D} {cs : List Value} {k : Nat} {d : Dat} {R : Nat → Nat → Prop}, fieldD t x k = some d → Reads R w t x cs →
    ∃ o c1 c2 c3, cs = c1 ++ (c2 ++ c3) ∧ c1.length = o ∧ offs t [k] = some (d.t, o) ∧ fieldTy t k = some d.t ∧ Reads R w d.t d.x c2 ∧ d.tag = .ro
  | .pair a b, x, cs, 0, d, R, h, hr => by
    simp [fieldD] at h; subst h
    obtain ⟨c1, c2, rfl, h1, h2⟩ := hr
    exact ⟨0, [], c1, c2, rfl, rfl, by simp [offs, offs_nil], rfl, h1, rfl⟩
  | .pair a b, x, cs, k + 1, d, R, h, hr => by
    obtain ⟨c1, c2, rfl, h1, h2⟩ := hr
    obtain ⟨o, e1, e2, e3, rfl, p1, p2, p3, p4, p5⟩ := reads_fieldD (show fieldD b x.2 k = some d from h) h2
    exact ⟨a.size + o, c1 ++ e1, e2, e3, by simp, by simp [h1.size, p1], by simp [offs, p2], p3, p4, p5⟩
  | .int _, _, _, k, _, _, h, _ => by cases k <;> simp [fieldD] at h
  | .bool, _, _, k, _, _, h, _ => by cases k <;> simp [fieldD] at h
  | .str, _, _, k, _, _, h, _ => by cases k <;> simp [fieldD] at h
  | .err, _, _, k, _, _, h, _ => by cases k <;> simp [fieldD] at h
  | .ptr, _, _, k, _, _, h, _ => by cases k <;> simp [fieldD] at h
  | .unit, _, _, k, _, _, h, _ => by cases k <;> simp [fieldD] at h
  | .slice _ _, _, _, k, _, _, h, _ => by cases k <;> simp [fieldD] at h

theorem getElem?_mid {α : Type} (c1 c2 c3 : List α) (j : Nat) (u : α) (h : c2[j]? = some u) : (c1 ++ (c2 ++ c3))[c1.length + j]? = some u := by
  rw [List.getElem?_append_right (by omega)]
  simp only [Nat.add_sub_cancel_left]
  rw [List.getElem?_append_left (by
    rcases Nat.lt_or_ge j c2.length with hl | hl
    · exact hl
    · rw [List.getElem?_eq_none hl] at h; cases h)]
  exact h

theorem exec_move {o : Oper} {x : Operand} (h : o.op = .move x ∨ o.op = .assign x) : (execOp a.eval o).run P w = .ok (.value (a.eval x)) w := by
  unfold execOp; rcases h with h | h <;> rw [h] <;> rfl

theorem op_move {Out : Type} {o : Oper} {x : Operand} {k : AV → AS → Option Out} {r : Out} {env : Env C} (ho : o.op = .move x ∨ o.op = .assign x) (h : evalOp C env S o k = some r) (hs : Sim C E S X a w) :
    ∃ v S', k v S' = some r ∧ OpRes P C E o a w S' v := by
  refine ⟨opv C S o.type x, S, ?_, OpRes.value (exec_move ho) hs (opv_rep hs _ _)⟩
  unfold evalOp at h; rcases ho with ho | ho <;> rw [ho] at h <;> exact h

theorem pickC_some {Out : Type} {x : Bool} {va vb : AV} {k : AV → Option Out} {r : Out} (h : pickC x va vb k = some r) {ca cb : Value} (ha : RepV C X S w va ca) (hb : RepV C X S w vb cb) :
    ∃ v, k v = some r ∧ RepV C X S w v (if x = true then ca else cb) := by
  unfold pickC at h
  split at h
  · refine ⟨_, h, ?_⟩
    rw [bool_rep ha, bool_rep hb]
    cases x <;> exact rep_bool _
  · cases x
    · exact ⟨_, h, hb⟩
    · exact ⟨_, h, ha⟩

theorem op_pick {Out : Type} {o : Oper} {c x y : Operand} {k : AV → AS → Option Out} {r : Out} {env : Env C} (ho : o.op = .pick c x y) (h : evalOp C env S o k = some r) (hs : Sim C E S X a w) :
    ∃ v S', k v S' = some r ∧ OpRes P C E o a w S' v := by
  unfold evalOp at h; rw [ho] at h; dsimp only at h
  split at h
  · rename_i b tg hc
    obtain ⟨v, h1, h2⟩ := pickC_some h (opv_rep hs o.type x) (opv_rep hs o.type y)
    refine ⟨v, S, h1, OpRes.value (c := if b = true then a.eval x else a.eval y) ?_ hs h2⟩
    have e : a.eval c = .bool b := bool_rep (hc ▸ opv_rep hs o.type c)
    unfold execOp; rw [ho]; dsimp only
    simp [e, asBool]
  · cases h

theorem loc_ptr {v : AV} {c : Value} (h : RepV C X S w v c) (hv : (∃ t x, v = .cell t x) ∨ (∃ b p t, v = .loc b p t) ∨ ∃ b i p t, v = .eadr b i p t) : ∃ ad, c = .pointer (some ad) := by
  rcases hv with ⟨t, x, rfl⟩ | ⟨b, p, t, rfl⟩ | ⟨b, i, p, t, rfl⟩
  · obtain ⟨g, o, cs, h, _⟩ := h; exact ⟨_, h⟩
  · obtain ⟨T, t0, o, _, _, _, _, h⟩ := h; exact ⟨_, h⟩
  · obtain ⟨e, t0, n, o, _, _, _, _, h⟩ := h; exact ⟨_, h⟩

theorem op_nilCheck {Out : Type} {o : Oper} {x : Operand} {k : AV → AS → Option Out} {r : Out} {env : Env C} (ho : o.op = .nilCheck x) (h : evalOp C env S o k = some r) (hs : Sim C E S X a w) :
    ∃ v S', k v S' = some r ∧ OpRes P C E o a w S' v := by
  have hr := opv_rep hs o.type x
  unfold evalOp at h; rw [ho] at h; dsimp only at h
  have key : ∀ ad, a.eval x = .pointer (some ad) → (execOp a.eval o).run P w = .ok (.value (a.eval x)) w := by
    intro ad e
    unfold execOp; rw [ho]; dsimp only; rw [e]; rfl
  split at h
  · rename_i u y hv
    obtain ⟨ad, e⟩ := loc_ptr (hv ▸ hr) (.inl ⟨_, _, rfl⟩)
    exact ⟨_, S, h, OpRes.value (key ad e) hs (hv ▸ hr)⟩
  · rename_i b p u hv
    obtain ⟨ad, e⟩ := loc_ptr (hv ▸ hr) (.inr (.inl ⟨_, _, _, rfl⟩))
    exact ⟨_, S, h, OpRes.value (key ad e) hs (hv ▸ hr)⟩
  · rename_i b i p u hv
    obtain ⟨ad, e⟩ := loc_ptr (hv ▸ hr) (.inr (.inr ⟨_, _, _, _, rfl⟩))
    exact ⟨_, S, h, OpRes.value (key ad e) hs (hv ▸ hr)⟩
  · cases h

theorem offs_snoc : ∀ {t : Ty} {p : List Nat} {u v : Ty} {o d k : Nat}, offs t p = some (u, o) → offs u [k] = some (v, d) → offs t (p ++ [k]) = some (v, o + d)
  | t, [], u, v, o, d, k, h, h2 => by
    rw [offs_nil] at h; injection h with h; injection h with h3 h4; subst h3 h4; simpa using h2
  | .pair a b, 0 :: r, u, v, o, d, k, h, h2 => by
    simp only [offs] at h
    simp only [List.cons_append, offs]
    exact offs_snoc h h2
  | .pair a b, (j + 1) :: r, u, v, o, d, k, h, h2 => by
    simp only [offs] at h
    split at h
    · rename_i u' o' h'
      injection h with h; injection h with h3 h4; subst h3 h4
      have := offs_snoc h' h2
      simp only [List.cons_append, offs] at this ⊢
      rw [this]
      simp [Nat.add_assoc]
    · cases h
  | .int _, _ :: _, _, _, _, _, _, h, _ => by simp [offs] at h
  | .bool, _ :: _, _, _, _, _, _, h, _ => by simp [offs] at h
  | .str, _ :: _, _, _, _, _, _, h, _ => by simp [offs] at h
  | .err, _ :: _, _, _, _, _, _, h, _ => by simp [offs] at h
  | .ptr, _ :: _, _, _, _, _, _, h, _ => by simp [offs] at h
  | .unit, _ :: _, _, _, _, _, _, h, _ => by simp [offs] at h
  | .slice _ _, _ :: _, _, _, _, _, _, h, _ => by simp [offs] at h

theorem exec_fieldAddr {o : Oper} {s : TypeId} {x : Operand} {f : Nat} (ho : o.op = .fieldAddr s x f) {c c' : Value} (e : a.eval x = c) (h : (Instr.fieldAt s c f).run P w = .ok c' w) : (execOp a.eval o).run P w = .ok (.value c') w := by
  unfold execOp; rw [ho]; dsimp only; rw [e]; simp [h]

theorem op_fieldAddr {Out : Type} (hC : CfgOK P C) {o : Oper} {s : TypeId} {x : Operand} {f : Nat} {k : AV → AS → Option Out} {r : Out} {env : Env C} (ho : o.op = .fieldAddr s x f) (h : evalOp C env S o k = some r) (hs : Sim C E S X a w) :
    ∃ v S', k v S' = some r ∧ OpRes P C E o a w S' v := by
  have hr := opv_rep hs o.type x
  unfold evalOp at h; rw [ho] at h; dsimp only at h
  split at h
  · rename_i u y hv
    rw [hv] at hr
    cases ht : tyIs C s u <;> rw [ht] at h <;> simp only [cond_true, cond_false] at h
    · cases h
    · split at h
      · rename_i d hd
        obtain ⟨g, of, cs, e, hrd, hc⟩ := hr
        obtain ⟨o1, c1, c2, c3, rfl, p1, p2, p3, p4, p5⟩ := reads_fieldD hd hrd
        obtain ⟨d', q1, _, q2⟩ := run_fieldAt hC (w := w) (g := g) (o := of) (hC _ _ (tyIs_eq ht)) p3
        rw [p2] at q1; injection q1 with q1; injection q1 with _ q1; subst q1
        refine ⟨_, S, h, OpRes.value (exec_fieldAddr ho e q2) hs ⟨g, of + o1, c2, rfl, p4, fun j v hj => ?_⟩⟩
        have := hc (o1 + j) v (by rw [← p1]; exact getElem?_mid c1 c2 c3 j v hj)
        rwa [Nat.add_assoc]
      · cases h
  · rename_i b p u hv
    rw [hv] at hr
    cases ht : tyIs C s u <;> rw [ht] at h <;> simp only [cond_true, cond_false] at h
    · cases h
    · split at h
      · rename_i w' hw
        obtain ⟨T, t0, of, h1, h2, h3, h4, e⟩ := hr
        obtain ⟨d', q1, _, q2⟩ := run_fieldAt hC (w := w) (g := X.β b) (o := of) (hC _ _ (tyIs_eq ht)) hw
        exact ⟨_, S, h, OpRes.value (exec_fieldAddr ho e q2) hs ⟨T, t0, of + d', h1, h2, h3, offs_snoc h4 q1, rfl⟩⟩
      · cases h
  · rename_i b i p u hv
    rw [hv] at hr
    cases ht : tyIs C s u <;> rw [ht] at h <;> simp only [cond_true, cond_false] at h
    · cases h
    · split at h
      · rename_i w' hw
        obtain ⟨e', t0, n, of, h1, h2, h3, h4, e⟩ := hr
        obtain ⟨d', q1, _, q2⟩ := run_fieldAt hC (w := w) (g := X.β b) (o := i * t0.size + of) (hC _ _ (tyIs_eq ht)) hw
        exact ⟨_, S, h, OpRes.value (exec_fieldAddr ho e q2) hs ⟨e', t0, n, of + d', h1, h2, h3, offs_snoc h4 q1, by rw [Nat.add_assoc]⟩⟩
      · cases h
  · cases h

end
end Go.Proofs.YtmgeeanbecmkbaaGreatDoor.Den
