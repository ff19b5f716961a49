/- DenN2: an operation sees of the state its operands alone, or those and the memory. -/
import Derived.Test.YtmgeeanbecmkbaaGreatDoorDenN
namespace Go.Proofs.YtmgeeanbecmkbaaGreatDoor.Den
open Go
set_option linter.unusedVariables false

section
variable {Out : Type} {C : Cfg} {env : Env C}

/-- The operands are worth the same in both states. -/
def Alike (C : Cfg) (S T : AS) (o : Oper) : Prop := ∀ x ∈ o.op.operands, ∀ t, opv C S t x = opv C T t x

theorem alike_list {S T : AS} {ps : List (Nat × Operand)} (h : ∀ p ∈ ps, ∀ t, opv C S t p.2 = opv C T t p.2) (t : TypeId) :
    ps.map (fun p => (p.1, opv C S t p.2)) = ps.map fun p => (p.1, opv C T t p.2) :=
  List.map_congr_left fun p hp => by rw [h p hp]

theorem alike_list2 {S T : AS} {ps : List (Nat × Operand)} (h : ∀ p ∈ ps, ∀ t, opv C S t p.2 = opv C T t p.2) (t : TypeId) :
    ps.map (fun p => opv C S t p.2) = ps.map fun p => opv C T t p.2 :=
  List.map_congr_left fun p hp => by rw [h p hp]

theorem alike_list3 {S T : AS} {ps : List (TypeId × Operand)} (h : ∀ p ∈ ps, ∀ t, opv C S t p.2 = opv C T t p.2) :
    ps.map (fun p => opv C S p.1 p.2) = ps.map fun p => opv C T p.1 p.2 :=
  List.map_congr_left fun p hp => by rw [h p hp]

theorem alike_args {S T : AS} (hm : ∀ b, S.box b = T.box b) (ht : ∀ ow fs, tipIds S ow fs = tipIds T ow fs) : ∀ {ps : List Par} {xs : List (TypeId × Operand)}, (∀ p ∈ xs, ∀ t, opv C S t p.2 = opv C T t p.2) → argsC C S ps xs = argsC C T ps xs
  | [], [], _ => rfl
  | [], _ :: _, _ => rfl
  | _ :: _, [], _ => rfl
  | p :: ps, (ty, x) :: xs, h => by
    unfold argsC
    rw [alike_args hm ht (fun q hq => h q (List.mem_cons_of_mem _ hq)), h _ (List.mem_cons_self ..)]
    simp only [hm, ht]

theorem alike_args0 {S T : AS} : ∀ {ps : List Par} {xs : List (TypeId × Operand)}, ps.any (·.io) = false → (∀ p ∈ xs, ∀ t, opv C S t p.2 = opv C T t p.2) → argsC C S ps xs = argsC C T ps xs
  | [], [], _, _ => rfl
  | [], _ :: _, _, _ => rfl
  | _ :: _, [], _, _ => rfl
  | p :: ps, (ty, x) :: xs, hp, h => by
    rw [List.any_cons, Bool.or_eq_false_iff] at hp
    unfold argsC
    rw [alike_args0 hp.2 (fun q hq => h q (List.mem_cons_of_mem _ hq)), h _ (List.mem_cons_self ..), hp.1]
    rfl

theorem noio_ios : ∀ {ps : List Par}, ps.any (·.io) = false → iosOf ps = []
  | [], _ => rfl
  | p :: ps, h => by
    rw [List.any_cons, Bool.or_eq_false_iff] at h
    unfold iosOf
    rw [h.1, noio_ios h.2]; rfl

theorem noio_par : ∀ {ps : List Par}, ps.any (·.io) = false → ioPar ps = none
  | [], _ => rfl
  | p :: ps, h => by
    rw [List.any_cons, Bool.or_eq_false_iff] at h
    unfold ioPar
    rw [h.1, noio_par h.2]; rfl

theorem backIo_nil {S : AS} {ps : List Par} {ob : Option Nat} (hp : ioPar ps = none) : ∀ {ts : List Ty} (x : (pairs ts).D), ts = [] → backIo S ps ob ts x = match ob with
    | none => some S
    | some _ => none
  | [], _, _ => by unfold backIo; cases ob <;> simp only [hp]

theorem callC_pure {S : AS} {f : FuncId} {xs : List (TypeId × Operand)} {k : AV → AS → Option Out} (h : (C.sig f).ps.any (·.io) = false) : callC C env S f xs k = match argsC C S (C.sig f).ps xs with
    | none => none
    | some (as, ob) => (env f as).bind fun r => match ob with
      | none => k (resAV (resDats (C.sig f).rs (C.sig f).ios r)) S
      | some _ => none := by
  unfold callC
  cases argsC C S (C.sig f).ps xs with
  | none => rfl
  | some q =>
    obtain ⟨as, ob⟩ := q
    dsimp only
    congr 1
    funext r
    rw [backIo_nil (noio_par h) (ts := (C.sig f).ios) _ (noio_ios h)]
    cases ob <;> rfl

theorem part_mem {ps : Array (Nat × Operand)} {p : Nat × Operand} (hp : p ∈ ps.toList) : p.2 ∈ (ps.toList.map (·.2)).toArray := by
  simp only [List.mem_toArray]
  exact List.mem_map_of_mem hp

theorem zip_mem {S T : AS} {o : Oper} {c : Call} (ho : o.op = .call c) (h : Alike C S T o) : ∀ p ∈ c.argTypes.toList.zip c.args.toList, ∀ t, opv C S t p.2 = opv C T t p.2 := by
  intro p hp t
  refine h p.2 ?_ t
  rw [ho]
  show p.2 ∈ c.operands
  unfold Call.operands
  exact Array.mem_append.2 (.inr (by simpa using (List.of_mem_zip hp).2))

/-- What sees its operands alone. -/
theorem cong0 {S T : AS} {o : Oper} {k : AV → AS → Option Out} (hc : clsOp C T o = .quiet) (h : Alike C S T o) (hS : S.dr = true) (hT : T.dr = true) :
    evalOp C env S o k = evalOp C env T o fun v _ => k v S := by
  have m1 : ∀ {x : Operand} (t : TypeId), x ∈ o.op.operands → opv C S t x = opv C T t x := fun t hx => h _ hx t
  unfold evalOp
  unfold clsOp at hc
  cases ho : o.op with
  | move x => rw [ho] at m1; dsimp only; rw [m1 _ (by simp [Op.operands])]
  | assign x => rw [ho] at m1; dsimp only; rw [m1 _ (by simp [Op.operands])]
  | pick c x y => rw [ho] at m1; dsimp only; rw [m1 (x := c) _ (by simp [Op.operands]), m1 (x := x) _ (by simp [Op.operands]), m1 (x := y) _ (by simp [Op.operands])]
  | build t ps =>
    rw [ho] at m1; dsimp only
    rw [alike_list (S := S) (T := T) (fun p hp t => m1 t (part_mem hp))]
  | buildSlice t n ps =>
    rw [ho] at m1; dsimp only
    simp only [alike_list2 (S := S) (T := T) (ps := ps.toList) (fun p hp t => m1 t (part_mem hp)), hS, hT]
    rfl
  | load t x =>
    rw [ho] at m1 hc; dsimp only at hc ⊢; rw [m1 _ (by simp [Op.operands])]
    split at hc
    · rename_i u y hx; rw [hx]
    · cases hc
    · cases hc
    · cases hc
  | store t x y =>
    rw [ho] at hc; dsimp only at hc
    split at hc <;> cases hc
  | nilCheck x => rw [ho] at m1; dsimp only; rw [m1 _ (by simp [Op.operands])]
  | fieldAddr s x f => rw [ho] at m1; dsimp only; rw [m1 _ (by simp [Op.operands])]
  | field s x f => rw [ho] at m1; dsimp only; rw [m1 _ (by simp [Op.operands])]
  | indexAddr t x ix =>
    rw [ho] at m1 hc; dsimp only at hc ⊢; rw [m1 (x := x) _ (by simp [Op.operands]), m1 (x := ix) _ (by simp [Op.operands])]
    split at hc
    · cases hc
    · rename_i hx
      split
      · rfl
      · rename_i b _ _ h2 _
        exact absurd h2 (hx b)
      · rfl
  | index t x ix => rw [ho] at m1; dsimp only; rw [m1 (x := x) _ (by simp [Op.operands]), m1 (x := ix) _ (by simp [Op.operands])]
  | slice t x lo hi mx =>
    cases mx with
    | some _ => rfl
    | none =>
      rw [ho] at m1; dsimp only; rw [m1 (x := x) _ (by simp [Op.operands])]
      have e1 : lo.map (opv C S 0) = lo.map (opv C T 0) := by
        cases lo with
        | none => rfl
        | some y => simp only [Option.map_some]; rw [m1 _ (by simp [Op.operands])]
      have e2 : hi.map (opv C S 0) = hi.map (opv C T 0) := by
        cases hi with
        | none => rfl
        | some y => simp only [Option.map_some]; rw [m1 _ (by simp [Op.operands])]
      rw [e1, e2]
  | binOp op t x y t' => rw [ho] at m1; dsimp only; rw [m1 (x := x) _ (by simp [Op.operands]), m1 (x := y) _ (by simp [Op.operands])]
  | unOp op t x => rw [ho] at m1; dsimp only; rw [m1 _ (by simp [Op.operands])]
  | convert src dst x => rw [ho] at m1; dsimp only; rw [m1 _ (by simp [Op.operands])]
  | extract x i => rw [ho] at m1; dsimp only; rw [m1 _ (by simp [Op.operands])]
  | call c =>
    have hz := zip_mem ho h
    rw [ho] at hc; dsimp only at hc ⊢
    congr 1
    split at hc
    · rename_i hb
      rw [hb]; dsimp only
      unfold builtinC
      revert hz hc
      generalize c.argTypes.toList.zip c.args.toList = xs
      intro hz hc
      match xs, hz, hc with
      | [], _, _ => rfl
      | _ :: _ :: _, _, _ => rfl
      | [(t, x)], hz, hc =>
        dsimp only at hc ⊢
        rw [hz (t, x) (List.mem_cons_self ..) t]
        revert hc
        generalize opv C T t x = v
        intro hc
        cases v with
        | marr b => cases hc
        | dat d =>
          obtain ⟨dt, dx, dg⟩ := d
          cases dt <;> rfl
        | _ => rfl
    · rename_i hb
      rw [hb]; dsimp only
      unfold builtinC
      revert hz
      generalize c.argTypes.toList.zip c.args.toList = xs
      intro hz
      match xs, hz with
      | [], _ => rfl
      | (t, x) :: r, hz =>
        dsimp only
        rw [hz (t, x) (List.mem_cons_self ..) t, alike_list3 (fun p hp => hz p (List.mem_cons_of_mem _ hp))]
    · rename_i hb
      rw [hb]; dsimp only
      unfold builtinC
      revert hz
      generalize c.argTypes.toList.zip c.args.toList = xs
      intro hz
      match xs, hz with
      | [], _ => rfl
      | (t, x) :: r, hz =>
        dsimp only
        rw [hz (t, x) (List.mem_cons_self ..) t, alike_list3 (fun p hp => hz p (List.mem_cons_of_mem _ hp))]
    · rename_i f hb
      rw [hb]; dsimp only
      cases hio : (C.sig f).ps.any (·.io) with
      | true => rw [hio] at hc; cases hc
      | false =>
        congr 1
        rw [callC_pure hio, callC_pure hio, alike_args0 hio hz]
    · cases hc
  | _ => simp [ho] at hc

/-- What reads one variable. -/
theorem congR {S T : AS} {o : Oper} {b : Nat} {k : AV → AS → Option Out} (hc : clsOp C T o = .rd b) (h : Alike C S T o) (hb : S.box b = T.box b) :
    evalOp C env S o k = evalOp C env T o fun v _ => k v S := by
  have m1 : ∀ {x : Operand} (t : TypeId), x ∈ o.op.operands → opv C S t x = opv C T t x := fun t hx => h _ hx t
  unfold evalOp
  unfold clsOp at hc
  cases ho : o.op with
  | load t x =>
    rw [ho] at m1 hc; dsimp only at hc ⊢; rw [m1 _ (by simp [Op.operands])]
    split at hc
    · cases hc
    · rename_i b' p u hx
      injection hc with hc; subst hc
      rw [hx]; dsimp only; rw [hb]
    · rename_i b' i p u hx
      injection hc with hc; subst hc
      rw [hx]; dsimp only; rw [hb]
    · cases hc
  | store t x y =>
    rw [ho] at hc; dsimp only at hc
    split at hc <;> cases hc
  | indexAddr t x ix =>
    rw [ho] at m1 hc; dsimp only at hc ⊢; rw [m1 (x := x) _ (by simp [Op.operands]), m1 (x := ix) _ (by simp [Op.operands])]
    split at hc
    · rename_i b' hx
      injection hc with hc; subst hc
      rw [hx]
      split
      · rfl
      · rename_i _ e2 _
        injection e2 with e2; subst e2
        rw [hb]
      · rfl
    · cases hc
  | call c =>
    have hz := zip_mem ho h
    rw [ho] at hc; dsimp only at hc ⊢
    congr 1
    split at hc
    · rename_i hcal
      rw [hcal]; dsimp only
      unfold builtinC
      revert hz hc
      generalize c.argTypes.toList.zip c.args.toList = xs
      intro hz hc
      match xs, hz, hc with
      | [], _, hc => cases hc
      | _ :: _ :: _, _, hc => cases hc
      | [(t, x)], hz, hc =>
        dsimp only at hc ⊢
        rw [hz (t, x) (List.mem_cons_self ..) t]
        revert hc
        generalize opv C T t x = v
        intro hc
        cases v with
        | marr b' =>
          injection hc with hc; subst hc
          dsimp only
          unfold lenC
          dsimp only
          rw [hb]
        | _ => cases hc
    · cases hc
    · cases hc
    · rename_i f _
      cases hio : (C.sig f).ps.any (·.io) <;> rw [hio] at hc <;> cases hc
    · cases hc
  | _ => simp [ho] at hc

/-- What writes one variable. -/
theorem congW {S T T' : AS} {o : Oper} {b : Nat} {v : AV} (hc : clsOp C T o = .wr b) (h : Alike C S T o) (hb : S.box b = T.box b) (he : evalOp C env T o two = some (v, T')) :
    ∃ B, v = .bot ∧ T' = T.setBox b B ∧ T.box b ≠ .dead ∧ evalOp C env S o two = some (.bot, S.setBox b B) := by
  have m1 : ∀ {x : Operand} (t : TypeId), x ∈ o.op.operands → opv C S t x = opv C T t x := fun t hx => h _ hx t
  unfold evalOp at he ⊢
  unfold clsOp at hc
  cases ho : o.op with
  | store t x y =>
    rw [ho] at m1 hc he; dsimp only at hc he ⊢
    rw [m1 (x := x) _ (by simp [Op.operands]), m1 (x := y) _ (by simp [Op.operands])]
    split at hc
    · rename_i b' p u hx
      injection hc with hc; subst hc
      rw [hx] at he ⊢; dsimp only at he ⊢
      rw [hb]
      cases ht : tyIs C t u <;> rw [ht] at he <;> simp only [cond_true, cond_false] at he ⊢
      · cases he
      · cases hw : writeBox C (T.box b') p (opv C T t y) with
        | none => rw [hw] at he; cases he
        | some B =>
          rw [hw] at he; dsimp only at he ⊢
          injection he with he; injection he with he1 he2
          refine ⟨B, he1.symm, he2.symm, fun e => ?_, rfl⟩
          rw [e] at hw; cases p <;> cases hw
    · rename_i b' i p u hx
      injection hc with hc; subst hc
      rw [hx] at he ⊢; dsimp only at he ⊢
      rw [hb]
      cases ht : tyIs C t u <;> rw [ht] at he <;> simp only [cond_true, cond_false] at he ⊢
      · cases he
      · rw [writeArr_uni] at he ⊢
        cases hw : writeArr (T.box b') i p (opv C T t y) some with
        | none => rw [hw] at he; cases he
        | some B =>
          rw [hw] at he
          injection he with he; injection he with he1 he2
          refine ⟨B, he1.symm, he2.symm, fun e => ?_, rfl⟩
          rw [e] at hw; cases hw
    · cases hc
  | load t x =>
    rw [ho] at hc; dsimp only at hc
    split at hc <;> cases hc
  | indexAddr t x y =>
    rw [ho] at hc; dsimp only at hc
    split at hc <;> cases hc
  | call c =>
    rw [ho] at hc; dsimp only at hc
    split at hc
    · split at hc
      · split at hc <;> cases hc
      · cases hc
    · cases hc
    · cases hc
    · rename_i f _
      cases hio : (C.sig f).ps.any (·.io) <;> rw [hio] at hc <;> cases hc
    · cases hc
  | _ => simp [ho] at hc

theorem cls_alike {S T : AS} {o : Oper} (h : Alike C S T o) : clsOp C S o = clsOp C T o := by
  unfold clsOp
  cases ho : o.op with
  | load t x => dsimp only; rw [h x (by simp [ho, Op.operands])]
  | store t x y => dsimp only; rw [h x (by simp [ho, Op.operands])]
  | indexAddr t x y => dsimp only; rw [h x (by simp [ho, Op.operands])]
  | call c =>
    have hz := zip_mem ho h
    dsimp only
    split
    · rename_i hb
      revert hz
      generalize c.argTypes.toList.zip c.args.toList = xs
      intro hz
      match xs, hz with
      | [], _ => rfl
      | _ :: _ :: _, _ => rfl
      | [(t, x)], hz => dsimp only; rw [hz (t, x) (List.mem_cons_self ..) t]
    · rfl
    · rfl
    · rfl
    · rfl
  | _ => rfl

theorem backIo_vals {S : AS} {V : List (Nat × AV)} {ps : List Par} {ob : Option Nat} : ∀ {ts : List Ty} (x : (pairs ts).D), backIo { S with vals := V } ps ob ts x = (backIo S ps ob ts x).map fun S' => { S' with vals := V }
  | [], _ => by
    unfold backIo
    cases ob with
    | none => rfl
    | some b =>
      cases ioPar ps with
      | none => rfl
      | some p =>
        dsimp only
        cases p.kill
        · rfl
        · show (match S.box b with
            | .fld T fs => some _
            | _ => none) = _
          simp only [cond_true]
          cases S.box b <;> rfl
  | [t], z => by
    unfold backIo
    cases ob with
    | none => rfl
    | some b =>
      cases ioPar ps with
      | none => rfl
      | some p =>
        dsimp only
        show (match S.box b with
          | .fld T fs => some _
          | _ => none) = _
        cases S.box b <;> rfl
  | _ :: _ :: _, _ => rfl

/-- Two states with one memory. -/
theorem cong2 {S : AS} {V : List (Nat × AV)} {o : Oper} {k : AV → AS → Option Out} (h : Alike C { S with vals := V } S o) :
    evalOp C env { S with vals := V } o k = evalOp C env S o fun v S' => k v { S' with vals := V } := by
  have m1 : ∀ {x : Operand} (t : TypeId), x ∈ o.op.operands → opv C { S with vals := V } t x = opv C S t x := fun t hx => h _ hx t
  unfold evalOp
  cases ho : o.op with
  | move x => rw [ho] at m1; dsimp only; rw [m1 _ (by simp [Op.operands])]
  | assign x => rw [ho] at m1; dsimp only; rw [m1 _ (by simp [Op.operands])]
  | pick c x y => rw [ho] at m1; dsimp only; rw [m1 (x := c) _ (by simp [Op.operands]), m1 (x := x) _ (by simp [Op.operands]), m1 (x := y) _ (by simp [Op.operands])]
  | alloc e => rfl
  | box e x => rw [ho] at m1; dsimp only; rw [m1 _ (by simp [Op.operands])]; rfl
  | build t ps =>
    rw [ho] at m1; dsimp only
    rw [alike_list (T := S) (fun p hp t => m1 t (part_mem hp))]
  | buildSlice t n ps =>
    rw [ho] at m1; dsimp only
    simp only [alike_list2 (T := S) (ps := ps.toList) (fun p hp t => m1 t (part_mem hp))]
  | load t x => rw [ho] at m1; dsimp only; rw [m1 _ (by simp [Op.operands])]; rfl
  | store t x y => rw [ho] at m1; dsimp only; rw [m1 (x := x) _ (by simp [Op.operands]), m1 (x := y) _ (by simp [Op.operands])]; rfl
  | nilCheck x => rw [ho] at m1; dsimp only; rw [m1 _ (by simp [Op.operands])]
  | fieldAddr s x f => rw [ho] at m1; dsimp only; rw [m1 _ (by simp [Op.operands])]
  | field s x f => rw [ho] at m1; dsimp only; rw [m1 _ (by simp [Op.operands])]
  | indexAddr t x ix => rw [ho] at m1; dsimp only; rw [m1 (x := x) _ (by simp [Op.operands]), m1 (x := ix) _ (by simp [Op.operands])]; rfl
  | index t x ix => rw [ho] at m1; dsimp only; rw [m1 (x := x) _ (by simp [Op.operands]), m1 (x := ix) _ (by simp [Op.operands])]
  | slice t x lo hi mx =>
    cases mx with
    | some _ => rfl
    | none =>
      rw [ho] at m1; dsimp only; rw [m1 (x := x) _ (by simp [Op.operands])]
      have e1 : lo.map (opv C { S with vals := V } 0) = lo.map (opv C S 0) := by
        cases lo with
        | none => rfl
        | some y => simp only [Option.map_some]; rw [m1 _ (by simp [Op.operands])]
      have e2 : hi.map (opv C { S with vals := V } 0) = hi.map (opv C S 0) := by
        cases hi with
        | none => rfl
        | some y => simp only [Option.map_some]; rw [m1 _ (by simp [Op.operands])]
      rw [e1, e2]
  | binOp op t x y t' => rw [ho] at m1; dsimp only; rw [m1 (x := x) _ (by simp [Op.operands]), m1 (x := y) _ (by simp [Op.operands])]
  | unOp op t x => rw [ho] at m1; dsimp only; rw [m1 _ (by simp [Op.operands])]
  | convert src dst x => rw [ho] at m1; dsimp only; rw [m1 _ (by simp [Op.operands])]
  | extract x i => rw [ho] at m1; dsimp only; rw [m1 _ (by simp [Op.operands])]
  | makeSlice t x y => rw [ho] at m1; dsimp only; rw [m1 (x := x) _ (by simp [Op.operands]), m1 (x := y) _ (by simp [Op.operands])]; rfl
  | call c =>
    have hz := zip_mem ho h
    dsimp only
    congr 1
    split
    · rename_i b hb
      unfold builtinC
      revert hz
      generalize c.argTypes.toList.zip c.args.toList = xs
      intro hz
      cases b with
      | len =>
        match xs, hz with
        | [], _ => rfl
        | _ :: _ :: _, _ => rfl
        | [(t, x)], hz => dsimp only; rw [hz (t, x) (List.mem_cons_self ..) t]; rfl
      | append =>
        match xs, hz with
        | [], _ => rfl
        | [_], _ => rfl
        | _ :: _ :: _ :: _, _ => rfl
        | [(t, x), (t', y)], hz =>
          dsimp only
          rw [hz (t, x) (List.mem_cons_self ..) t, hz (t', y) (List.mem_cons_of_mem _ (List.mem_cons_self ..)) t']
          unfold appendC
          rfl
      | max =>
        match xs, hz with
        | [], _ => rfl
        | (t, x) :: r, hz => dsimp only; rw [hz (t, x) (List.mem_cons_self ..) t, alike_list3 (fun p hp => hz p (List.mem_cons_of_mem _ hp))]
      | min =>
        match xs, hz with
        | [], _ => rfl
        | (t, x) :: r, hz => dsimp only; rw [hz (t, x) (List.mem_cons_self ..) t, alike_list3 (fun p hp => hz p (List.mem_cons_of_mem _ hp))]
      | _ => rfl
    · rename_i f hb
      congr 1
      unfold callC
      rw [alike_args (S := { S with vals := V }) (T := S) (fun _ => rfl) (fun ow fs => ?_) hz]
      · split
        · rfl
        · rename_i as ob _
          congr 1
          funext r
          rw [backIo_vals]
          cases backIo S (C.sig f).ps ob (C.sig f).ios (restD (C.sig f).rs (C.sig f).ios r) <;> rfl
      · induction fs generalizing ow with
        | nil => rfl
        | cons d r ih => unfold tipIds; rw [ih]; rfl
    · rfl
  | _ => rfl

end
end Go.Proofs.YtmgeeanbecmkbaaGreatDoor.Den
