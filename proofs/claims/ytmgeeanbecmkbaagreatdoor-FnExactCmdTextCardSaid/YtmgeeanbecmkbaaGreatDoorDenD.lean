/- DenD: calls without a bound on their depth: what some depth answers, every greater one answers. -/
import Derived.Test.YtmgeeanbecmkbaaGreatDoorDenF
namespace Go.Proofs.YtmgeeanbecmkbaaGreatDoor.Den
open Go
set_option linter.unusedVariables false

/-- From some number on. -/
def Evt (p : Nat → Prop) : Prop := ∃ i, ∀ k, i ≤ k → p k

theorem Evt.all {p : Nat → Prop} (h : ∀ k, p k) : Evt p := ⟨0, fun k _ => h k⟩
theorem Evt.and {p q : Nat → Prop} (h : Evt p) (h2 : Evt q) : Evt fun k => p k ∧ q k := by
  obtain ⟨i, hi⟩ := h
  obtain ⟨j, hj⟩ := h2
  exact ⟨i + j, fun k hk => ⟨hi k (by omega), hj k (by omega)⟩⟩
theorem Evt.mono {p q : Nat → Prop} (h : Evt p) (f : ∀ k, p k → q k) : Evt q := by
  obtain ⟨i, hi⟩ := h
  exact ⟨i, fun k hk => f k (hi k hk)⟩

section
variable {C : Cfg} {env : Env C} {e : Nat → Env C} {Out : Type}

/-- An operation that is no call sees no function. -/
theorem op_noenv {env' : Env C} {S : AS} {o : Oper} {k : AV → AS → Option Out} (h : ∀ c, o.op ≠ .call c) : evalOp C env S o k = evalOp C env' S o k := by
  unfold evalOp
  cases ho : o.op with
  | call c => exact absurd ho (h c)
  | slice t x lo hi mx => cases mx <;> rfl
  | _ => rfl

theorem op_evt (he : ∀ f as r, env f as = some r → Evt fun k => e k f as = some r) {S T : AS} {o : Oper} {v : AV} (h : Ev C env S o v T) : Evt fun k => Ev C (e k) S o v T := by
  by_cases hc : ∃ c, o.op = .call c
  · obtain ⟨c, hc⟩ := hc
    unfold Ev at h ⊢
    unfold evalOp at h ⊢
    rw [hc] at h
    simp only [hc]
    dsimp only at h
    cases hl : Nat.beq c.argTypes.size c.args.size <;> rw [hl] at h <;> simp only [cond_true, cond_false] at h
    · cases h
    · simp only [cond_true]
      split at h
      · rename_i b hb
        exact Evt.all fun k => h
      · rename_i f hb
        cases hf : C.has f <;> rw [hf] at h <;> simp only [cond_true, cond_false] at h
        · cases h
        · unfold callC at h
          cases ha : argsC C S (C.sig f).ps (c.argTypes.toList.zip c.args.toList) with
          | none => rw [ha] at h; cases h
          | some q =>
            obtain ⟨as, ob⟩ := q
            rw [ha] at h
            dsimp only at h
            cases hr : env f as with
            | none => rw [hr] at h; cases h
            | some r =>
              rw [hr] at h
              refine (he f as r hr).mono fun k hk => ?_
              simp only [cond_true]
              unfold callC
              rw [ha]
              dsimp only
              rw [hk]
              exact h
      · cases h
  · have : ∀ c, o.op ≠ .call c := fun c h => hc ⟨c, h⟩
    exact Evt.all fun k => by unfold Ev at h ⊢; rw [op_noenv this (env' := env)]; exact h

variable {r : Out}

theorem put_evt {S : AS} {dst : Option Nat} {v : AV} {K : AS → Option Out} {K' : Nat → AS → Option Out} (h : putC S dst v K = some r) (hK : ∀ S', K S' = some r → Evt fun k => K' k S' = some r) : Evt fun k => putC S dst v (K' k) = some r := by
  unfold putC at h ⊢
  cases dst with
  | none => exact hK _ h
  | some d =>
    dsimp only at h ⊢
    cases hd : Nat.blt d S.n <;> rw [hd] at h <;> simp only [cond_true, cond_false] at h ⊢
    · cases h
    · exact hK _ h

theorem step_evt (he : ∀ f as r, env f as = some r → Evt fun k => e k f as = some r) {S : AS} {o : Oper} {K : AS → Option Out} {K' : Nat → AS → Option Out} (h : stepC C env S o K = some r) (hK : ∀ S', K S' = some r → Evt fun k => K' k S' = some r) :
    Evt fun k => stepC C (e k) S o (K' k) = some r := by
  obtain ⟨v, T, h1, h2⟩ := Ev.of h
  refine ((op_evt he h1).and (put_evt h2 hK)).mono fun k ⟨p, q⟩ => ?_
  unfold stepC
  rw [p.run]; exact q

theorem ops_evt (he : ∀ f as r, env f as = some r → Evt fun k => e k f as = some r) {ops : Array Oper} : ∀ {os : List Oper} {S : AS} {K : AS → Option Out} {K' : Nat → AS → Option Out}, opsC C env ops os S K = some r → (∀ S', K S' = some r → Evt fun k => K' k S' = some r) →
    Evt fun k => opsC C (e k) ops os S (K' k) = some r
  | [], S, K, K', h, hK => hK S h
  | o :: os, S, K, K', h, hK => by
    unfold opsC at h ⊢
    split at h
    · rename_i hg
      exact step_evt he h fun S' h' => ops_evt he h' hK
    · rename_i j w hg
      split at h
      · rename_i d hd
        split at h
        · rename_i b tg hb
          cases b <;> cases w <;> simp only [cond_true, cond_false] at h ⊢
          · exact step_evt he h fun S' h' => ops_evt he h' hK
          · exact put_evt h fun S' h' => ops_evt he h' hK
          · exact put_evt h fun S' h' => ops_evt he h' hK
          · exact step_evt he h fun S' h' => ops_evt he h' hK
        · cases hu : isUnd (S.get d) <;> rw [hu] at h <;> simp only [cond_true, cond_false] at h ⊢
          · cases h
          · exact put_evt h fun S' h' => ops_evt he h' hK
      · cases h

theorem opsD_evt (he : ∀ f as r, env f as = some r → Evt fun k => e k f as = some r) {ops : Array Oper} {rows : List Nat} : ∀ {os : List Oper} {i : Nat} {pr : List (Nat × Cls)} {S : AS} {K : AS → Option Out} {K' : Nat → AS → Option Out}, opsD C env ops rows os i pr S K = some r → (∀ S', K S' = some r → Evt fun k => K' k S' = some r) →
    Evt fun k => opsD C (e k) ops rows os i pr S (K' k) = some r
  | [], i, pr, S, K, K', h, hK => hK S h
  | o :: os, i, pr, S, K, K', h, hK => by
    have run : ∀ S, (match clsOp C S o with
          | .quiet => stepC C env S o fun S' => opsD C env ops rows os (i + 1) pr S' K
          | .rd b => bif ordered (rows.getD i 0) (.rd b) pr then stepC C env S o fun S' => opsD C env ops rows os (i + 1) ((i, .rd b) :: pr) S' K else none
          | .wr b => bif ordered (rows.getD i 0) (.wr b) pr then stepC C env S o fun S' => opsD C env ops rows os (i + 1) ((i, .wr b) :: pr) S' K else none
          | .all => bif ordered (rows.getD i 0) .all pr then stepC C env S o fun S' => opsD C env ops rows os (i + 1) ((i, .all) :: pr) S' K else none) = some r →
        Evt fun k => (match clsOp C S o with
          | .quiet => stepC C (e k) S o fun S' => opsD C (e k) ops rows os (i + 1) pr S' (K' k)
          | .rd b => bif ordered (rows.getD i 0) (.rd b) pr then stepC C (e k) S o fun S' => opsD C (e k) ops rows os (i + 1) ((i, .rd b) :: pr) S' (K' k) else none
          | .wr b => bif ordered (rows.getD i 0) (.wr b) pr then stepC C (e k) S o fun S' => opsD C (e k) ops rows os (i + 1) ((i, .wr b) :: pr) S' (K' k) else none
          | .all => bif ordered (rows.getD i 0) .all pr then stepC C (e k) S o fun S' => opsD C (e k) ops rows os (i + 1) ((i, .all) :: pr) S' (K' k) else none) = some r := by
      intro S h
      split at h
      · exact step_evt he h fun S' h' => opsD_evt he h' hK
      · rename_i b hc
        cases hb : ordered (rows.getD i 0) (.rd b) pr <;> rw [hb] at h <;> simp only [cond_true, cond_false] at h ⊢
        · cases h
        · exact step_evt he h fun S' h' => opsD_evt he h' hK
      · rename_i b hc
        cases hb : ordered (rows.getD i 0) (.wr b) pr <;> rw [hb] at h <;> simp only [cond_true, cond_false] at h ⊢
        · cases h
        · exact step_evt he h fun S' h' => opsD_evt he h' hK
      · cases hb : ordered (rows.getD i 0) .all pr <;> rw [hb] at h <;> simp only [cond_true, cond_false] at h ⊢
        · cases h
        · exact step_evt he h fun S' h' => opsD_evt he h' hK
    unfold opsD at h ⊢
    dsimp only at h ⊢
    split at h
    · rename_i hg
      exact run S h
    · rename_i j w hg
      split at h
      · rename_i d hd
        split at h
        · rename_i b tg hb
          cases b <;> cases w <;> simp only [cond_true, cond_false] at h ⊢
          · exact run _ h
          · exact put_evt h fun S' h' => opsD_evt he h' hK
          · exact put_evt h fun S' h' => opsD_evt he h' hK
          · exact run _ h
        · cases hu : isUnd (S.get d) <;> rw [hu] at h <;> simp only [cond_true, cond_false] at h ⊢
          · cases h
          · exact put_evt h fun S' h' => opsD_evt he h' hK
      · cases h

theorem region_evt (he : ∀ f as r, env f as = some r → Evt fun k => e k f as = some r) {ops : Array Oper} {draw : Bool} {S : AS} {K : AS → Option Out} {K' : Nat → AS → Option Out} (h : regionC C env ops draw S K = some r) (hK : ∀ S', K S' = some r → Evt fun k => K' k S' = some r) :
    Evt fun k => regionC C (e k) ops draw S (K' k) = some r := by
  unfold regionC at h ⊢
  cases draw <;> simp only [cond_true, cond_false] at h ⊢
  · exact ops_evt he h hK
  · cases hb : drawOk ops (befRows ops.toList []) <;> rw [hb] at h <;> simp only [cond_true, cond_false] at h ⊢
    · cases h
    · exact opsD_evt he h fun S' h' => hK _ h'

theorem den_evt (he : ∀ f as r, env f as = some r → Evt fun k => e k f as = some r) (keep : Nat → List Nat) (n : Nat) (N : Nat → Nat) (hN : Evt fun k => n ≤ N k) :
    ∀ (c : Code) (S : AS) (K : Ex → AS → Option Out) (K' : Nat → Ex → AS → Option Out), den C env keep n c S K = some r → (∀ ex S', K ex S' = some r → Evt fun k => K' k ex S' = some r) →
      Evt fun k => den C (e k) keep (N k) c S (K' k) = some r
  | .skip, S, K, K', h, hK => hK _ _ h
  | .region id ops draw, S, K, K', h, hK => region_evt (K' := fun k => K' k .normal) he h fun S' h' => hK _ _ h'
  | .seq x y, S, K, K', h, hK => by
    refine den_evt he keep n N hN x S _ (fun k ex S' => match ex with
      | .normal => den C (e k) keep (N k) y S' (K' k)
      | .exit i => K' k (.exit i) S'
      | .ret => K' k .ret S') h fun ex S' h' => ?_
    cases ex with
    | normal => exact den_evt he keep n N hN y S' K K' h' hK
    | exit i => exact hK _ _ h'
    | ret => exact hK _ _ h'
  | .cond c x y, S, K, K', h, hK => by
    unfold den at h ⊢
    split at h
    · rename_i b tg hb
      cases b <;> simp only [cond_true, cond_false] at h ⊢
      · exact den_evt he keep n N hN y _ K K' h hK
      · exact den_evt he keep n N hN x _ K K' h hK
    · cases h
  | .block id c, S, K, K', h, hK => by
    refine den_evt he keep n N hN c S _ (fun k ex S' => match ex with
      | .normal => K' k .normal S'
      | .exit i => bif Nat.beq i id then K' k .normal S' else K' k (.exit i) S'
      | .ret => K' k .ret S') h fun ex S' h' => ?_
    cases ex with
    | normal => exact hK _ _ h'
    | exit i =>
      dsimp only at h' ⊢
      cases hi : Nat.beq i id <;> rw [hi] at h' <;> simp only [cond_true, cond_false] at h' ⊢
      · exact hK _ _ h'
      · exact hK _ _ h'
    | ret => exact hK _ _ h'
  | .loop c, S, K, K', h, hK => by
    unfold den at h ⊢
    have round : ∀ (re : AS → AS) (m : Nat) (M : Nat → Nat) (T : AS), (Evt fun k => m ≤ M k) → loopC (fun S K => den C env keep n c S K) re m T K = some r →
        Evt fun k => loopC (fun S K => den C (e k) keep (N k) c S K) re (M k) T (K' k) = some r := by
      intro re m
      induction m with
      | zero => intro M T _ h; cases h
      | succ m ih =>
        intro M T hM h
        have hM1 : Evt fun k => m ≤ M k - 1 := hM.mono fun k hk => by omega
        have := den_evt he keep n N hN c T _ (fun k ex S' => match ex with
          | .normal => loopC (fun S K => den C (e k) keep (N k) c S K) re (M k - 1) (re S') (K' k)
          | .exit i => K' k (.exit i) S'
          | .ret => K' k .ret S') (show den C env keep n c T _ = some r from h) fun ex S' h' => (by
            cases ex with
            | normal => exact ih _ _ hM1 h'
            | exit i => exact hK _ _ h'
            | ret => exact hK _ _ h')
        refine (hM.and this).mono fun k ⟨h1, h2⟩ => ?_
        obtain ⟨q, hq⟩ : ∃ q, M k = q + 1 := ⟨M k - 1, by omega⟩
        rw [hq]
        rw [hq] at h2
        exact h2
    exact round _ n N _ hN h
  | .exit id, S, K, K', h, hK => hK _ _ h
  | .ret, S, K, K', h, hK => hK _ _ h
  | .rangeFunc .., S, K, K', h, hK => by unfold den at h; cases h
  | .scope .., S, K, K', h, hK => by unfold den at h; cases h
  | .label .., S, K, K', h, hK => by unfold den at h; cases h
  | .goto .., S, K, K', h, hK => by unfold den at h; cases h
  | .refuse .., S, K, K', h, hK => by unfold den at h; cases h

theorem body_evt (he : ∀ f as r, env f as = some r → Evt fun k => e k f as = some r) {n : Nat} {N : Nat → Nat} (hN : Evt fun k => n ≤ N k) {f : FuncId} {fn : Func} {as : List Arg} {r : (C.sig f).out.D} (h : bodyC C env n f fn as = some r) :
    Evt fun k => bodyC C (e k) (N k) f fn as = some r := by
  unfold bodyC at h ⊢
  split at h
  · rename_i c S hb hi
    cases hl : Nat.ble (C.sig f).ps.length fn.ntmps <;> rw [hl] at h <;> simp only [cond_true, cond_false] at h ⊢
    · cases h
    · exact den_evt he _ n N hN c S _ (fun _ ex S' => match ex with
        | .exit _ => none
        | .normal => outD C S' (owOf (C.sig f).ps) (C.sig f).ios fn.results.toList (C.sig f).rs
        | .ret => outD C S' (owOf (C.sig f).ps) (C.sig f).ios fn.results.toList (C.sig f).rs) h fun ex S' h' => Evt.all fun k => h'
  · cases h

/-- A function that is no walk asks others at most. -/
def PrimsEvt (pr : Prims C) : Prop := ∀ f p, pr f = some p → ∀ (env : Env C) (e : Nat → Env C), (∀ f as r, env f as = some r → Evt fun k => e k f as = some r) → ∀ as r, p env as = some r → Evt fun k => p (e k) as = some r

variable {P : Program} {pr : Prims C}

theorem callD_up (hp : PrimsEvt pr) : ∀ k f as r, callD C P pr k f as = some r → callD C P pr (k + 1) f as = some r
  | 0, f, as, r, h => by cases h
  | k + 1, f, as, r, h => by
    have up : ∀ f as r, callD C P pr k f as = some r → Evt fun _ : Nat => callD C P pr (k + 1) f as = some r := fun f as r h => Evt.all fun _ => callD_up hp k f as r h
    unfold callD at h ⊢
    split at h
    · rename_i p hpf
      obtain ⟨i, hi⟩ := hp f p hpf _ (fun _ => callD C P pr (k + 1)) up as r h
      exact hi i (Nat.le_refl _)
    · rename_i hpf
      split at h
      · rename_i fn hfn
        obtain ⟨i, hi⟩ := body_evt (e := fun _ => callD C P pr (k + 1)) (N := fun _ => k + 1) up (Evt.all fun _ => Nat.le_succ k) h
        exact hi i (Nat.le_refl _)
      · cases h

theorem callD_le (hp : PrimsEvt pr) {k k' : Nat} (hk : k ≤ k') {f : FuncId} {as : List Arg} {r : (C.sig f).out.D} (h : callD C P pr k f as = some r) : callD C P pr k' f as = some r := by
  induction hk with
  | refl => exact h
  | step _ ih => exact callD_up hp _ _ _ _ ih

open Classical in
/-- What a call comes to. -/
noncomputable def call (C : Cfg) (P : Program) (pr : Prims C) : Env C := fun f as => if h : ∃ r k, callD C P pr k f as = some r then some h.choose else none

theorem call_of (hp : PrimsEvt pr) {k : Nat} {f : FuncId} {as : List Arg} {r : (C.sig f).out.D} (h : callD C P pr k f as = some r) : call C P pr f as = some r := by
  have hex : ∃ r k, callD C P pr k f as = some r := ⟨r, k, h⟩
  unfold call
  rw [dif_pos hex]
  obtain ⟨k', hk'⟩ := hex.choose_spec
  have h1 := callD_le hp (Nat.le_max_left k k') h
  have h2 := callD_le hp (Nat.le_max_right k k') hk'
  rw [h1] at h2
  injection h2 with h2
  rw [← h2]

theorem call_ex {f : FuncId} {as : List Arg} {r : (C.sig f).out.D} (h : call C P pr f as = some r) : ∃ k, callD C P pr k f as = some r := by
  unfold call at h
  split at h
  · rename_i hex
    obtain ⟨k, hk⟩ := hex.choose_spec
    injection h with h
    exact ⟨k, h ▸ hk⟩
  · cases h

theorem call_evt (hp : PrimsEvt pr) (f : FuncId) (as : List Arg) (r : (C.sig f).out.D) (h : call C P pr f as = some r) : Evt fun k => callD C P pr k f as = some r := by
  obtain ⟨i, hi⟩ := call_ex h
  exact ⟨i, fun k hk => callD_le hp hk hi⟩

/-- A body's result, with the calls' results in it. -/
theorem call_body (hp : PrimsEvt pr) {n : Nat} {f : FuncId} {fn : Func} {as : List Arg} {r : (C.sig f).out.D} (hn : pr f = none) (hf : P.funcs[f]? = some fn) (h : bodyC C (call C P pr) n f fn as = some r) : call C P pr f as = some r := by
  obtain ⟨i, hi⟩ := body_evt (e := callD C P pr) (N := fun k => k) (call_evt hp) ⟨n, fun k hk => hk⟩ h
  refine call_of hp (k := i + 1) ?_
  unfold callD
  simp only [hn, hf]
  exact hi i (Nat.le_refl _)

theorem call_prim (hp : PrimsEvt pr) {f : FuncId} {p : Env C → List Arg → Option (C.sig f).out.D} {as : List Arg} {r : (C.sig f).out.D} (hn : pr f = some p) (h : p (call C P pr) as = some r) : call C P pr f as = some r := by
  obtain ⟨i, hi⟩ := hp f p hn _ (callD C P pr) (call_evt hp) as r h
  refine call_of hp (k := i + 1) ?_
  unfold callD
  simp only [hn]
  exact hi i (Nat.le_refl _)

/-- What a call comes to, it comes to in the model. -/
theorem call_sound (hP : ProgOK P C) (hmix : P.follows .mixedOrders = true) (hpr : PrimsOK P C pr) : EnvOK P C (call C P pr) := fun f as r h hf => by
  obtain ⟨k, hk⟩ := call_ex h
  exact callD_sound hP hmix hpr k f as r hk hf

end
end Go.Proofs.YtmgeeanbecmkbaaGreatDoor.Den
