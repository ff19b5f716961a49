/- DenO: any operation; operations in the order of the text. -/
import Derived.Test.YtmgeeanbecmkbaaGreatDoorDenP
namespace Go.Proofs.YtmgeeanbecmkbaaGreatDoor.Den
open Go
set_option linter.unusedVariables false

/-- What the program's own text bears out: its kinds of types, and which functions have a body. -/
structure ProgOK (P : Program) (C : Cfg) : Prop where
  cfg : CfgOK P C
  dep : ∀ t u, C.ty t = some u → u.depth ≤ 9999
  siz : ∀ t u, C.ty t = some u → u.size ≤ 1024
  has : ∀ f, C.has f = true → ∃ fn, P.funcs[f]? = some fn ∧ fn.name ≠ "runtime.NumGoroutine" ∧ fn.body.isNone = false

section
variable {P : Program} {C : Cfg} {E : Entry C} {S S' : AS} {X X' : Ctx} {a : Act} {w w' : World}

theorem exec_call {o : Oper} {f : FuncId} {args : Array Operand} {tys : Array TypeId} (ho : o.op = .call { callee := .value (.func f), args := args, argTypes := tys }) {fn : Func} (h1 : P.funcs[f]? = some fn) (h2 : fn.name ≠ "runtime.NumGoroutine") (h3 : fn.body.isNone = false) :
    (execOp a.eval o).run P w = .ok (.enter f (args.map a.eval)) w := by
  unfold execOp; rw [ho]; dsimp only
  simp only [Sem.run_bind, resolve, Act.eval, Deferred.ofValue, Sem.run_pure, Result.andThen_ok, invoke, callFunc]
  simp [run_program, h1]
  rw [if_neg h2, if_neg (fun e => by rw [e] at h3; simp at h3)]

theorem res_rep {ts us : List Ty} {x : (pairs (ts ++ us)).D} {v : Value} (h : ResRep X.R w (resDats ts us x) v) : RepV C X S w (resAV (resDats ts us x)) v := by
  generalize resDats ts us x = l at h
  cases l with
  | nil => exact h
  | cons d r =>
    cases r with
    | nil =>
      obtain ⟨⟨cs, h1, h2⟩, h3⟩ := h
      exact ⟨cs, ⟨h1, by simp [TagOk, h3]⟩, h2⟩
    | cons e r => exact h

theorem op_call {Out : Type} (hP : ProgOK P C) {env : Env C} (henv : EnvOK P C env) {o : Oper} {f : FuncId} {args : Array Operand} {tys : Array TypeId} {k : AV → AS → Option Out} {r : Out} (ho : o.op = .call { callee := .value (.func f), args := args, argTypes := tys }) (hl : tys.size = args.size) (hf : C.has f = true)
    (h : callC C env S f (tys.toList.zip args.toList) k = some r) (hs : Sim C E S X a w) : ∃ v S', k v S' = some r ∧ OpRes P C E o a w S' v := by
  obtain ⟨fn, f1, f2, f3⟩ := hP.has f hf
  have hex := exec_call (a := a) (w := w) ho f1 f2 f3
  unfold callC at h
  split at h
  · cases h
  · rename_i as ob hargs
    cases he : env f as with
    | none => rw [he] at h; cases h
    | some res =>
      rw [he] at h
      simp only [Option.bind] at h
      split at h
      · rename_i S1 hS1
        obtain ⟨io, p1, p2⟩ := args_rep hP.cfg hs hargs
        have hvs : ((tys.toList.zip args.toList).map fun p => a.eval p.2).toArray = args.map a.eval := by
          have : (tys.toList.zip args.toList).map (fun p => a.eval p.2) = args.toList.map a.eval := by
            rw [show (fun p : TypeId × Operand => a.eval p.2) = a.eval ∘ Prod.snd from rfl, ← List.map_map, List.map_snd_zip (by simp [hl])]
          rw [this, ← Array.toList_map]
        have hnd : (resBlocks io).Nodup := by
          rcases p2 with ⟨_, rfl, _⟩ | ⟨b, p, fs, ks, y, _, _, _, hb, hbx, hks, hy, rfl⟩
          · simp [resBlocks]
          · have hb0 := hs.bx b hb
            rw [hbx] at hb0
            obtain ⟨t0, cs, q1, q2, q3, q4, q5, q6, q7⟩ := hb0
            obtain ⟨i1, i2, i3, i4, i5⟩ := hs_ids hs q4 hks
            refine List.nodup_cons.2 ⟨fun hm => ?_, i3⟩
            obtain ⟨k', m1, m2⟩ := i2 _ hm
            exact hs.ib k' b (i5 k' m1) hb (by rw [hbx]; exact fun e => (nomatch e)) m2
        have hgl : Glob C.G w (resBlocks io) := by
          intro q hq
          obtain ⟨o, g1, g2, g3⟩ := E.gl q hq
          have hlt := heap_lt g1
          refine ⟨o, (hs.fr.block _ hlt g3).trans g1, g2, fun hm => ?_⟩
          rcases p2 with ⟨_, rfl, _⟩ | ⟨b, p, fs, ks, y, _, _, _, hb, hbx, hks, hy, rfl⟩
          · simp [resBlocks] at hm
          · have hb0 := hs.bx b hb
            rw [hbx] at hb0
            obtain ⟨t0, cs, q1, q2, q3, q4, q5, q6, q7⟩ := hb0
            obtain ⟨i1, i2, i3, i4, i5⟩ := hs_ids hs q4 hks
            rcases List.mem_cons.1 hm with e | hm
            · rcases hs.wb b hb (by rw [hbx]; exact fun e => (nomatch e)) with h1 | h1
              · exact g3 (e ▸ h1)
              · omega
            · obtain ⟨k', m1, m2⟩ := i2 _ hm
              rcases hs.wi k' _ (i5 k' m1) m2 with h1 | h1
              · exact g3 h1
              · omega
        have hcall := henv f as res he ⟨fn, f1, f2, f3⟩ X.R w _ io p1 hnd hs.fr.lt hgl
        rw [hvs] at hcall
        refine ⟨_, S1, h, fun Q => ?_⟩
        unfold Oper.wp
        rw [hex]
        refine Calls.mono hcall fun e w' ⟨R', v, res', h1, h2, h3, h4⟩ => ?_
        subst h1
        rcases p2 with ⟨rfl, rfl, hio⟩ | ⟨b, p, fs, ks, y, rfl, hip, hio, hb, hbx, hks, hy, rfl⟩
        · have hS : S1 = S := by
            unfold backIo at hS1
            have : (C.sig f).ios = [] := hio
            split at hS1
            · injection hS1 with e; exact e.symm
            · rename_i he1 _; rw [this] at he1; cases he1
            · cases hS1
          subst hS
          obtain ⟨s1, L⟩ := hs.pureCall h2
          exact ⟨_, v, rfl, s1, res_rep h3⟩
        · cases hkl : p.kill
          rotate_left
          · have hio' : (C.sig f).ios = [] := by show iosOf _ = []; rw [hio, hkl]; rfl
            revert hS1 h3 h4
            generalize restD (C.sig f).rs (C.sig f).ios res = z
            generalize hrd : resDats (C.sig f).rs (C.sig f).ios res = rd
            revert z
            rw [hio']
            intro z h3 hS1 h4
            unfold backIo at hS1; dsimp only at hS1; rw [hip] at hS1; dsimp only at hS1; rw [hkl] at hS1; simp only [cond_true] at hS1; rw [hbx] at hS1; dsimp only at hS1
            injection hS1 with hS1
            obtain ⟨e1, e2⟩ := h4
            subst e1
            obtain ⟨X', x1, x2, x3⟩ := hs.killCall hb hbx hks h2 (e2 _ _ rfl)
            rw [← hS1]
            refine ⟨X', v, rfl, x2, ?_⟩
            rw [← hrd] at h3 ⊢
            rw [← x1] at h3
            exact res_rep h3
          have hio' : (C.sig f).ios = [p.t] := by show iosOf _ = _; rw [hio, hkl]; rfl
          revert hS1 h3 h4
          generalize restD (C.sig f).rs (C.sig f).ios res = z
          generalize hrd : resDats (C.sig f).rs (C.sig f).ios res = rd
          revert z
          rw [hio']
          intro z h3 hS1 h4
          unfold backIo at hS1; rw [hip] at hS1; dsimp only at hS1; rw [hbx] at hS1; dsimp only at hS1
          injection hS1 with hS1
          obtain ⟨p', g, hs0, hs', e1, _, e3, e4, e5⟩ := h4
          rw [hip] at e1; injection e1 with e1; subst e1
          injection e3 with e3; injection e3 with e3 _; subst e3
          obtain ⟨X', x1, x2, x3⟩ := hs.ioCall hb hbx hks hy h2 e4 e5
          rw [← hS1]
          refine ⟨X', v, rfl, x2, ?_⟩
          rw [← hrd] at h3 ⊢
          rw [← x1] at h3
          exact res_rep h3
      · cases h

theorem op_sound {Out : Type} (hP : ProgOK P C) {env : Env C} (henv : EnvOK P C env) {o : Oper} {k : AV → AS → Option Out} {r : Out} (h : evalOp C env S o k = some r) (hs : Sim C E S X a w) :
    ∃ v S', k v S' = some r ∧ OpRes P C E o a w S' v := by
  have hC := hP.cfg
  cases ho : o.op with
  | move x => exact op_move (.inl ho) h hs
  | assign x => exact op_move (.inr ho) h hs
  | pick c x y => exact op_pick ho h hs
  | alloc e => exact op_alloc hC ho h hs
  | box e x => exact op_box hC ho h hs
  | build t ps => exact op_build hC ho h hs
  | buildSlice t n ps => exact op_buildSlice hC hP.siz ho h hs
  | load t x => exact op_load hC ho h hs
  | store t x y => exact op_store hC ho h hs
  | nilCheck x => exact op_nilCheck ho h hs
  | fieldAddr s x f => exact op_fieldAddr hC ho h hs
  | field s x f => exact op_field hC ho h hs
  | indexAddr t x y => exact op_indexAddr hC ho h hs
  | index t x y => exact op_index hC ho h hs
  | slice t x lo hi mx => exact op_slice hC ho h hs
  | binOp op t x y t' => exact op_bin hC hP.dep ho h hs
  | unOp op t x => exact op_un ho h hs
  | convert src dst x => exact op_conv hC ho h hs
  | extract x i => exact op_extract ho h hs
  | makeSlice t l c => exact op_makeSlice hC ho h hs
  | call c =>
    obtain ⟨cal, args, tys⟩ := c
    unfold evalOp at h; rw [ho] at h; dsimp only at h
    cases hl : Nat.beq tys.size args.size <;> rw [hl] at h <;> simp only [cond_true, cond_false] at h
    · cases h
    · have hl := Nat.eq_of_beq_eq_true hl
      split at h
      · exact op_builtin hC ho hl h hs
      · rename_i f
        cases hf : C.has f <;> rw [hf] at h <;> simp only [cond_true, cond_false] at h
        · cases h
        · exact op_call hP henv ho hl hf h hs
      · cases h
  | _ => unfold evalOp at h; rw [ho] at h; cases h

theorem Sim.put (h : Sim C E S X a w) {d : Nat} {v : AV} {c : Value} (hd : d < S.n) (hv : RepV C X S w v c) : Sim C E (S.put d v) X (a.put (some d) c) w := by
  have L : Le S (S.put d v) X X w w := ⟨Keeps.refl _ _, Nat.le_refl _, fun _ _ => ⟨rfl, rfl⟩, Nat.le_refl _, fun _ _ => ⟨Nat.le_refl _, fun _ => ⟨rfl, rfl⟩⟩⟩
  refine { dfr := h.dfr, sz := ?_, tm := fun i => ?_, bx := fun b hb => ?_, idk := h.idk, bd := h.bd, ib := h.ib, ii := h.ii, wb := h.wb, wi := h.wi, ent := h.ent.le L, ck := h.ck.trans L.kp, fr := h.fr }
  · show (a.tmps.setIfInBounds d c).size = S.n
    rw [Array.size_setIfInBounds]; exact h.sz
  · rw [get_put]
    show RepV C X (S.put d v) w _ ((a.tmps.setIfInBounds d c).getD i undef)
    by_cases e : d = i
    · subst e
      rw [if_pos rfl]
      have : (a.tmps.setIfInBounds d c).getD d undef = c := by
        rw [← h.sz] at hd
        simp [Array.getD, hd]
      rw [this]; exact hv.le L
    · rw [if_neg e]
      have : (a.tmps.setIfInBounds d c).getD i undef = a.tmps.getD i undef := by
        simp only [Array.getD_eq_getD_getElem?, Array.getElem?_setIfInBounds, if_neg e]
      rw [this]; exact (h.tm i).le L
  · by_cases hdd : S.box b = .dead
    · show BoxRep C X _ w b (S.box b)
      rw [hdd]; trivial
    · exact (h.bx b hb).keep L rfl rfl (fun _ r => r)

theorem Sim.same (h : Sim C E S X a w) {d : Nat} {v : AV} (hv : RepV C X S w v (a.tmps.getD d undef)) : Sim C E (S.put d v) X a w := by
  have L : Le S (S.put d v) X X w w := ⟨Keeps.refl _ _, Nat.le_refl _, fun _ _ => ⟨rfl, rfl⟩, Nat.le_refl _, fun _ _ => ⟨Nat.le_refl _, fun _ => ⟨rfl, rfl⟩⟩⟩
  refine { dfr := h.dfr, sz := h.sz, tm := fun i => ?_, bx := fun b hb => ?_, idk := h.idk, bd := h.bd, ib := h.ib, ii := h.ii, wb := h.wb, wi := h.wi, ent := h.ent.le L, ck := h.ck.trans L.kp, fr := h.fr }
  · rw [get_put]
    by_cases e : d = i
    · subst e; rw [if_pos rfl]; exact hv.le L
    · rw [if_neg e]; exact (h.tm i).le L
  · by_cases hdd : S.box b = .dead
    · show BoxRep C X _ w b (S.box b)
      rw [hdd]; trivial
    · exact (h.bx b hb).keep L rfl rfl (fun _ r => r)

theorem putC_some {Out : Type} {dst : Option Nat} {v : AV} {K : AS → Option Out} {r : Out} {c : Value} (h : putC S dst v K = some r) (hs : Sim C E S X a w) (hv : RepV C X S w v c) :
    ∃ S', K S' = some r ∧ Sim C E S' X (a.put dst c) w ∧ S'.dr = S.dr := by
  unfold putC at h
  split at h
  · exact ⟨S, h, hs, rfl⟩
  · rename_i d
    cases hd : Nat.blt d S.n <;> rw [hd] at h <;> simp only [cond_true, cond_false] at h
    · cases h
    · exact ⟨_, h, hs.put (by have h2 := hd; simp [Nat.blt] at h2; omega) hv, rfl⟩

theorem step_sound {Out : Type} (hP : ProgOK P C) {env : Env C} (henv : EnvOK P C env) {o : Oper} {K : AS → Option Out} {r : Out} (h : stepC C env S o K = some r) (hs : Sim C E S X a w) {next : Act → World → Prop} {Q : Exit → Act → World → Prop}
    (hn : ∀ S' X' a' w', Sim C E S' X' a' w' → K S' = some r → next a' w') : o.wp P a w next Q := by
  obtain ⟨v, S1, h1, h2⟩ := op_sound hP henv h hs
  refine Oper.wp_mono (fun a' w' ⟨X', c, e, h3, h4⟩ => ?_) (h2 Q)
  subst e
  obtain ⟨S2, k1, k2, _⟩ := putC_some h1 h3 h4
  exact hn S2 X' _ _ k2 k1

theorem boolOf_some {v : AV} {b : Bool} {tg : Tag} (h : boolOf v = some (b, tg)) : v = .dat ⟨.bool, b, tg⟩ := by
  cases v <;> try (cases h)
  rename_i d
  obtain ⟨t, x, g⟩ := d
  cases t <;> first
    | (injection h with h; injection h with h1 h2; subst h1; subst h2; rfl)
    | (cases h)

theorem isUnd_eq {v : AV} (h : isUnd v = true) : v = .und := by
  cases v <;> first | rfl | (cases h)

theorem und_unwanted {ops : Array Oper} {o : Oper} {j d : Nat} {want : Bool} (hg : o.guard = some (j, want)) (hd : (ops[j]?).bind (·.dst) = some d) (hb : S.get d = .und) (hs : Sim C E S X a w) :
    Region.wanted o (yielded ops a.tmps) = false := by
  have e : a.tmps.getD d undef = undef := by
    have := hs.tm d
    rw [hb] at this; exact this
  unfold Region.wanted yielded
  rw [hg]
  simp only [hd, Option.bind_some]
  rw [Array.getD_eq_getD_getElem?] at e
  cases hx : a.tmps[d]? with
  | none => rfl
  | some y =>
    rw [hx] at e
    simp at e
    rw [e]; rfl

theorem guard_wanted {ops : Array Oper} {o : Oper} {j d : Nat} {want b : Bool} {tg : Tag} (hg : o.guard = some (j, want)) (hd : (ops[j]?).bind (·.dst) = some d) (hb : S.get d = .dat ⟨.bool, b, tg⟩) (hs : Sim C E S X a w) :
    Region.wanted o (yielded ops a.tmps) = (b == want) ∧ a.tmps.getD d undef = .bool b := by
  have e := bool_rep (hb ▸ hs.tm d)
  have hq : a.tmps[d]? = some (.bool b) := by
    rw [Array.getD_eq_getD_getElem?] at e
    cases hx : a.tmps[d]? with
    | none => rw [hx] at e; simp [undef] at e
    | some y => rw [hx] at e; simp at e; rw [e]
  refine ⟨?_, e⟩
  unfold Region.wanted yielded
  rw [hg]
  simp only [hd, Option.bind_some, hq]
  cases b <;> cases want <;> rfl

theorem ops_sound {Out : Type} (hP : ProgOK P C) {env : Env C} (henv : EnvOK P C env) {ops : Array Oper} {K : AS → Option Out} {r : Out} {Q : Exit → Act → World → Prop} :
    ∀ (os : List Oper) (i : Nat) (S : AS) (X : Ctx) (a : Act) (w : World), ops.toList.drop i = os → opsC C env ops os S K = some r → Sim C E S X a w →
      (∀ S' X' a' w', Sim C E S' X' a' w' → K S' = some r → Q .normal a' w') → wpOps P ops Q (List.range' i os.length) a w
  | [], i, S, X, a, w, _, h, hs, hQ => hQ S X a w hs h
  | o :: os, i, S, X, a, w, hd, h, hs, hQ => by
    have hget : ops[i]? = some o := by
      have : (ops.toList.drop i)[0]? = some o := by rw [hd]; rfl
      simpa using this
    have hrest : ops.toList.drop (i + 1) = os := by
      rw [← List.drop_drop, hd]; rfl
    simp only [List.length_cons, List.range'_succ, wpOps, hget]
    have recS := ops_sound (Q := Q) (K := K) (r := r) (ops := ops) hP henv os (i + 1)
    unfold opsC at h
    split at h
    · rename_i hg
      have hw : Region.wanted o (yielded ops a.tmps) = true := by unfold Region.wanted; rw [hg]
      rw [if_pos hw]
      exact .inl (step_sound hP henv h hs fun S' X' a' w' s1 s2 => recS S' X' a' w' hrest s2 s1 hQ)
    · rename_i j want hg
      split at h
      · rename_i d hdst
        split at h
        · rename_i b tg hb
          have hb := boolOf_some hb
          obtain ⟨g1, g2⟩ := guard_wanted hg hdst hb hs
          have go : ∀ S1, Sim C E S1 X a w → (b = want → stepC C env S1 o (fun S' => opsC C env ops os S' K) = some r) → (b ≠ want → putC S1 o.dst .und (fun S' => opsC C env ops os S' K) = some r) →
              (if Region.wanted o (yielded ops a.tmps) = true then o.wp P a w (wpOps P ops Q (List.range' (i + 1) os.length)) Q ∨ (o.asks P a w ∧ LetsOut Q) else wpOps P ops Q (List.range' (i + 1) os.length) (a.put o.dst undef) w) := by
            intro S1 hs1 y1 y2
            by_cases e : b = want
            · rw [if_pos (by rw [g1, e]; simp)]
              exact .inl (step_sound hP henv (y1 e) hs1 fun S' X' a' w' s1 s2 => recS S' X' a' w' hrest s2 s1 hQ)
            · rw [if_neg (by rw [g1]; simpa using e)]
              obtain ⟨S2, k1, k2, _⟩ := putC_some (c := undef) (y2 e) hs1 rfl
              exact recS S2 X _ w hrest k1 k2 hQ
          have hlit : Sim C E (S.put d (boolAV b)) X a w := hs.same (by rw [g2]; exact rep_bool b)
          refine go (S.put d (boolAV b)) hlit ?_ ?_
          · rintro rfl
            cases b
            · simpa using h
            · simpa using h
          · intro hne
            cases b <;> cases want
            · exact absurd rfl hne
            · simpa using h
            · simpa using h
            · exact absurd rfl hne
        · cases hu : isUnd (S.get d) <;> rw [hu] at h <;> simp only [cond_true, cond_false] at h
          · cases h
          · rw [if_neg (by rw [und_unwanted hg hdst (isUnd_eq hu) hs]; simp)]
            obtain ⟨S2, k1, k2, _⟩ := putC_some (c := undef) h hs rfl
            exact recS S2 X _ w hrest k1 k2 hQ
      · cases h

end
end Go.Proofs.YtmgeeanbecmkbaaGreatDoor.Den
