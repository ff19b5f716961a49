/- DenG: bodies, calls. -/
import Derived.Test.YtmgeeanbecmkbaaGreatDoorDenK
namespace Go.Proofs.YtmgeeanbecmkbaaGreatDoor.Den
open Go
set_option linter.unusedVariables false

section
variable {P : Program} {C : Cfg} {E : Entry C} {S S' : AS} {X X' : Ctx} {a : Act} {w w' : World}

theorem FsTip.keeps {R R' : Nat → Nat → Prop} (k : Keeps R R' w w') : ∀ {l : List Dat} {cs : List Value} {ow : List Bool} {hs : Hds}, FsTip R w ow l cs hs → FsTip R' w' ow l cs hs
  | [], _, _, _, h => h
  | d :: r, cs, ow, hs, h => by
    obtain ⟨c1, c2, rfl, h1, h2⟩ := h
    refine ⟨c1, c2, rfl, h1.keeps k, ?_⟩
    split
    · rename_i ho
      rw [if_pos ho] at h2
      obtain ⟨e, u, v, h3, p1, p2, p3, p4⟩ := h2
      exact ⟨e, u, v, h3, p1, p2, p3, FsTip.keeps k p4⟩
    · rename_i ho
      rw [if_neg ho] at h2
      exact FsTip.keeps k h2

/-- The variable handed over, as the body leaves it. -/
theorem back_rep (hC : CfgOK P C) (hs : Sim C E S X a w) {p : Par} {g : Nat} (hio : E.io = some (g, p.T)) {x : p.t.D} {ks : List Nat} {T : TypeId} {fs : List Dat} (hbx : S.box 0 = .fld T fs) (hks : tipIds S p.ow fs = some ks) (hy : pack p.t fs = some x) :
    IoRep C (endR S X) w p.T p.ow p.t x g (hsOf X p.ow fs) ∧ (g :: blocksOf (hsOf X p.ow fs)).Nodup ∧ ∀ g' ∈ g :: blocksOf (hsOf X p.ow fs), E.W g' ∨ E.w0.heap.size ≤ g' := by
  obtain ⟨e1, e2, e3⟩ := hs.ent g p.T hio
  rw [hbx] at e3; simp [Sh] at e3
  subst e3
  have hb := hs.bx 0 e1
  rw [hbx] at hb
  obtain ⟨t, cs, q1, q2, q3, q4, q5, q6, q7⟩ := hb
  obtain ⟨y', hy'⟩ := pack_ok (hC _ _ q1) q2 q3
  have htt : p.t = t := pack_inj hy hy'
  rw [← htt] at q1 q2 q3 q7
  obtain ⟨i1, i2, i3, i4, i5⟩ := hs_ids hs q4 hks
  have hnd : S.box 0 ≠ .dead := by rw [hbx]; exact fun e => (nomatch e)
  have arr : ∀ b e t xs, b < S.nb → S.box b = .arr e t xs → X.β b ≠ g ∧ ∀ k, k < S.nid → (X.hd k).ownBlock ≠ some (X.β b) := by
    intro b e t xs hb he
    have hbd : S.box b ≠ .dead := by rw [he]; exact fun e => (nomatch e)
    refine ⟨fun h => ?_, fun k hk => hs.ib k b hk hb hbd⟩
    have := hs.bd b 0 hb e1 hbd hnd (by rw [e2, h])
    subst this
    rw [hbx] at he; cases he
  refine ⟨⟨q1, q2, ⟨cs, by rw [← e2]; exact q5, (fs_tip q4 hks hy).keeps (end_keeps w), by rw [← e2]; exact q7⟩, ?_, ?_⟩, ?_, ?_⟩
  · rintro o (r | ⟨b, e, t, xs, b1, b2, b3⟩)
    · rw [← e2] at r; exact q6 o r
    · exact (arr b e t xs b1 b2).1 b3
  · intro q hq
    obtain ⟨cells, z1, z2⟩ := i1 q hq
    refine ⟨cells, z1, fun g' hg' o => ⟨?_, fun h => .inl ((z2 g' hg' o).2 h)⟩⟩
    rintro (r | ⟨b, e, t, xs, b1, b2, b3⟩)
    · exact (z2 g' hg' o).1 r
    · obtain ⟨k, k1, k2⟩ := i2 g' (List.mem_filterMap.2 ⟨q, hq, hg'⟩)
      exact absurd (by rw [k2, b3]) ((arr b e t xs b1 b2).2 k (i5 k k1))
  · refine List.nodup_cons.2 ⟨fun hm => ?_, i3⟩
    obtain ⟨k, k1, k2⟩ := i2 g hm
    exact hs.ib k 0 (i5 k k1) e1 hnd (by rw [k2, e2])
  · intro g' hg'
    rcases List.mem_cons.1 hg' with rfl | hg'
    · rw [← e2]; exact hs.wb 0 e1 hnd
    · obtain ⟨k, k1, k2⟩ := i2 g' hg'
      exact hs.wi k g' (i5 k k1) k2

theorem args_len {R : Nat → Nat → Prop} : ∀ {ps : List Par} {as : List Arg} {vs : List Value} {io : Option (Nat × Hds)}, ArgsRep C R w ps as vs io → vs.length = ps.length
  | [], [], [], _, _ => rfl
  | p :: ps, .val t x :: as, v :: vs, io, h => by rw [List.length_cons, List.length_cons, args_len h.2.2]
  | p :: ps, .io t x :: as, v :: vs, io, h => by rw [List.length_cons, List.length_cons, args_len h.2.2.2]
  | p :: ps, .fn f :: as, v :: vs, io, h => by rw [List.length_cons, List.length_cons, args_len h.2.2]
  | [], _ :: _, _, _, h => by cases ‹List Value› <;> exact h.elim
  | [], [], _ :: _, _, h => h.elim
  | _ :: _, [], _, _, h => by cases ‹List Value› <;> exact h.elim
  | _ :: _, .val _ _ :: _, [], _, h => h.elim
  | _ :: _, .io _ _ :: _, [], _, h => h.elim
  | _ :: _, .fn _ :: _, [], _, h => h.elim

/-- Which variable is handed over. -/
theorem args_io {R : Nat → Nat → Prop} : ∀ {ps : List Par} {as : List Arg} {vs : List Value} {io : Option (Nat × Hds)}, ArgsRep C R w ps as vs io →
    (io = none ∧ iosOf ps = [] ∧ ioPar ps = none) ∨ ∃ g hs p, io = some (g, hs) ∧ iosOf ps = (bif p.kill then [] else [p.t]) ∧ ioPar ps = some p
  | [], [], [], io, h => .inl ⟨h, rfl, rfl⟩
  | p :: ps, .val t x :: as, v :: vs, io, h => by
    unfold iosOf ioPar; rw [h.1]; exact args_io h.2.2
  | p :: ps, .fn f :: as, v :: vs, io, h => by
    unfold iosOf ioPar; rw [h.1]; exact args_io h.2.2
  | p :: ps, .io t x :: as, v :: vs, io, h => by
    obtain ⟨h1, h2, ⟨g, hs, h3, h4, h5⟩, h6⟩ := h
    rcases args_io h6 with ⟨_, k2, k3⟩ | ⟨_, _, _, k1, _⟩
    · unfold iosOf ioPar; rw [h1]
      exact .inr ⟨g, hs, p, h4, by rw [k2]; cases p.kill <;> rfl, rfl⟩
    · cases k1
  | [], _ :: _, _, _, h => by cases ‹List Value› <;> exact h.elim
  | [], [], _ :: _, _, h => h.elim
  | _ :: _, [], _, _, h => by cases ‹List Value› <;> exact h.elim
  | _ :: _, .val _ _ :: _, [], _, h => h.elim
  | _ :: _, .io _ _ :: _, [], _, h => h.elim
  | _ :: _, .fn _ :: _, [], _, h => h.elim

theorem init_nokill : ∀ {ps : List Par} {as : List Arg} {i : Nat} {S S' : AS}, initC ps as i S = some S' → ∀ {p : Par}, ioPar ps = some p → p.kill = false
  | [], _, _, _, _, _, _, h => by cases h
  | q :: ps, [], _, _, _, h, _, _ => by unfold initC at h; cases h
  | q :: ps, .val u x :: as, i, S, S', h, p, hp => by
    unfold initC at h
    unfold ioPar at hp
    dsimp only at h
    cases hq : q.io <;> rw [hq] at h hp <;> simp only [cond_true, cond_false] at h hp
    · exact init_nokill h hp
    · cases h
  | q :: ps, .fn u :: as, i, S, S', h, p, hp => by
    unfold initC at h
    unfold ioPar at hp
    dsimp only at h
    cases hq : q.io <;> rw [hq] at h hp <;> simp only [cond_true, cond_false] at h hp
    · exact init_nokill h hp
    · cases h
  | q :: ps, .io u x :: as, i, S, S', h, p, hp => by
    unfold initC at h
    unfold ioPar at hp
    dsimp only at h
    cases hq : q.io <;> rw [hq] at h hp <;> simp only [cond_true, cond_false] at h hp
    · simp only [Bool.false_and, cond_false] at h; cases h
    · injection hp with hp
      subst hp
      cases hk : q.kill
      · rfl
      · rw [hk] at h; simp only [Bool.not_true, Bool.and_false, Bool.false_and, cond_false] at h; cases h

theorem body_sound (hP : ProgOK P C) (hmix : P.follows .mixedOrders = true) {env : Env C} (henv : EnvOK P C env) {n f : Nat} {fn : Func} {as : List Arg} {res : (C.sig f).out.D} (hf : P.funcs[f]? = some fn) (h : bodyC C env n f fn as = some res) : CallOK P C f as res := by
  intro R w vs io ha hnd hlt hgl
  unfold bodyC at h
  split at h
  · rename_i c S hb hi
    cases hle : Nat.ble (C.sig f).ps.length fn.ntmps <;> rw [hle] at h <;> simp only [cond_true, cond_false] at h
    · cases h
    · have hle := Nat.le_of_ble_eq_true hle
      have hlen := args_len ha
      refine calls_of_wp hf hb ?_
      obtain ⟨a, ha0⟩ : ∃ a : Act, a = { tmps := vs.toArray ++ Array.replicate (fn.ntmps - vs.toArray.size) undef, defers := [] } := ⟨_, rfl⟩
      rw [← ha0]
      have hsz : a.tmps.size = fn.ntmps := by rw [ha0]; simp; omega
      have hdf : a.defers = [] := by rw [ha0]
      have hvs : ∀ j v, vs[j]? = some v → a.tmps.getD (0 + j) undef = v := by
        intro j v hj
        have hjl : j < vs.length := by
          rcases Nat.lt_or_ge j vs.length with h | h
          · exact h
          · rw [List.getElem?_eq_none h] at hj; cases hj
        rw [ha0, Nat.zero_add, Array.getD_eq_getD_getElem?, Array.getElem?_append_left (by simpa using hjl)]
        simp [hj]
      -- the state at the beginning
      let S0 : AS := { n := fn.ntmps, vals := [], boxes := [], nb := 0, vers := [], nid := 0, dr := false }
      have start : ∀ (E : Entry C), E.w0 = w → E.R0 = R → E.io = none → ∀ X : Ctx, X.R = R → Sim C E S0 X a w := by
        intro E e1 e2 e3 X hR
        refine { dfr := hdf, sz := hsz, tm := fun d => trivial, bx := fun b hb => absurd hb (Nat.not_lt_zero _), idk := fun k hk => absurd hk (Nat.not_lt_zero _), bd := fun b b' hb => absurd hb (Nat.not_lt_zero _), ib := fun k b hk => absurd hk (Nat.not_lt_zero _), ii := fun k k' g hk => absurd hk (Nat.not_lt_zero _), wb := fun b hb => absurd hb (Nat.not_lt_zero _), wi := fun k g hk => absurd hk (Nat.not_lt_zero _), fr := ?_, ent := fun g T e => (by rw [e3] at e; cases e), ck := ?_ }
        · rw [hR]
          exact ⟨by rw [e1], by rw [e1], by rw [e1], by rw [e1]; exact Nat.le_refl _, fun g _ _ => by rw [e1], fun g o r => by rw [← e2]; exact r, fun g o r => .inl (by rw [e2]; exact r), hlt⟩
        · rw [hR, e2, e1]; exact Keeps.refl _ _
      let X0 : Ctx := { R := R, β := fun _ => 0, hd := fun _ => .slice none 0 0, inf := fun _ => (0, 0, 0) }
      -- what the body leaves
      have fin : ∀ (E : Entry C), E.w0 = w → E.R0 = R → (∀ g, E.W g ↔ g ∈ resBlocks io) → (∀ g hs, io = some (g, hs) → ∀ p, ioPar (C.sig f).ps = some p → E.io = some (g, p.T)) →
          ∀ S' X' a' w', Sim C E S' X' a' w' → outD C S' (owOf (C.sig f).ps) (C.sig f).ios fn.results.toList (C.sig f).rs = some res →
          a'.defers = [] ∧ ∃ v, (results fn a'.tmps).run P w' = .ok v w' ∧ ∃ R' v_1 res', Ending.returned v = .returned v_1 ∧ After R w (resBlocks io) R' w' res' ∧ ResRep R' w' (resDats (C.sig f).rs (C.sig f).ios res) v_1 ∧ IoBack C w R' w' (C.sig f).ps io (C.sig f).ios (restD (C.sig f).rs (C.sig f).ios res) res' := by
        intro E e1 e2 e3 e4 S' X' a' w' hs ho
        obtain ⟨vals, p1, p2, p3⟩ := outD_run hP.cfg hs ho
        obtain ⟨v, r1, r2⟩ := results_run p1 p2
        have after : ∀ res', res'.Nodup → (∀ g ∈ res', E.W g ∨ E.w0.heap.size ≤ g) → After R w (resBlocks io) (endR S' X') w' res' := by
          intro res' hn hr
          have hfr := hs.fr
          refine ⟨?_, ?_, ?_, by rw [hfr.os, e1], by rw [hfr.tape, e1], by rw [hfr.output, e1], by rw [← e1]; exact hfr.size, ?_, hn, ?_⟩
          · have := hs.ck.trans (end_keeps (S := S') (X := X') w')
            rw [e1, e2] at this; exact this
          · rintro g o (r | ⟨b, e, t, xs, b1, b2, b3⟩)
            · rcases hfr.new g o r with h | h | h
              · rw [e2] at h; exact .inl h
              · rw [e1] at h; exact .inr (.inl h)
              · exact .inr (.inr ((e3 g).1 h))
            · have hbd : S'.box b ≠ .dead := by rw [b2]; exact fun e => (nomatch e)
              rcases hs.wb b b1 hbd with h | h
              · rw [b3] at h; exact .inr (.inr ((e3 g).1 h))
              · rw [b3, e1] at h; exact .inr (.inl h)
          · rintro g o (r | ⟨b, e, t, xs, b1, b2, b3⟩)
            · exact hfr.lt g o r
            · have hbd : S'.box b ≠ .dead := by rw [b2]; exact fun e => (nomatch e)
              rw [← b3]; exact box_lt (hs.bx b b1) hbd
          · intro g hg hn
            have := hfr.block g (by rw [e1]; exact hg) (fun h => hn ((e3 g).1 h))
            rw [this, e1]
          · intro g hg
            rcases hr g hg with h | h
            · exact .inl ((e3 g).1 h)
            · rw [e1] at h; exact .inr h
        refine ⟨hs.dfr, v, r1, ?_⟩
        rcases args_io ha with ⟨k1, k2, k3⟩ | ⟨g, hs0, p, k1, k2, k3⟩
        · refine ⟨_, v, [], rfl, after [] List.nodup_nil (fun g hg => by cases hg), r2, ?_⟩
          revert p3
          generalize restD (C.sig f).rs (C.sig f).ios res = z
          revert z
          rw [show (C.sig f).ios = [] from k2]
          intro z _
          exact ⟨rfl, fun g hs e => by rw [k1] at e; cases e⟩
        · have hkl := init_nokill hi k3
          rw [hkl] at k2
          simp only [cond_false] at k2
          have hio := e4 g hs0 k1 p k3
          have how : owOf (C.sig f).ps = p.ow := by unfold owOf; rw [k3]
          rw [how] at p3
          have key : ∃ fs, ∃ x : p.t.D, iosD S' p.ow [p.t] = some (x, ()) ∧ S'.box 0 = .fld p.T fs ∧ ∃ ks, tipIds S' p.ow fs = some ks ∧ pack p.t fs = some x := by
            have hz : ∃ z, iosD S' p.ow [p.t] = some z := by
              revert p3
              generalize restD (C.sig f).rs (C.sig f).ios res = z
              revert z
              rw [show (C.sig f).ios = [p.t] from k2]
              exact fun z h => ⟨z, h⟩
            obtain ⟨z, hz⟩ := hz
            have hz0 := hz
            unfold iosD at hz
            dsimp only at hz
            split at hz
            · rename_i T fs hbx
              split at hz
              · rename_i ks x q1 q2
                injection hz with hz
                subst hz
                have := (hs.ent g p.T hio).2.2
                rw [hbx] at this; simp [Sh] at this
                subst this
                exact ⟨fs, x, hz0, hbx, ks, q1, q2⟩
              · cases hz
            · cases hz
          obtain ⟨fs, x, z1, z2, ks, z3, z4⟩ := key
          obtain ⟨b1, b2, b3⟩ := back_rep hP.cfg hs hio z2 z3 z4
          refine ⟨_, v, _, rfl, after _ b2 b3, r2, ?_⟩
          revert p3
          generalize restD (C.sig f).rs (C.sig f).ios res = z
          revert z
          rw [show (C.sig f).ios = [p.t] from k2]
          intro z hz
          rw [z1] at hz
          injection hz with hz
          subst hz
          exact ⟨p, g, hs0, _, k3, rfl, k1, b1, rfl⟩
      -- the walk
      have walk : ∀ (E : Entry C), E.w0 = w → E.R0 = R → (∀ g, E.W g ↔ g ∈ resBlocks io) → (∀ g hs, io = some (g, hs) → ∀ p, ioPar (C.sig f).ps = some p → E.io = some (g, p.T)) → ∀ X', Sim C E S X' a w →
          c.wp P (bodyPost P fn fun e w' => ∃ R' v res', e = .returned v ∧ After R w (resBlocks io) R' w' res' ∧ ResRep R' w' (resDats (C.sig f).rs (C.sig f).ios res) v ∧ IoBack C w R' w' (C.sig f).ps io (C.sig f).ios (restD (C.sig f).rs (C.sig f).ios res) res') a w := by
        intro E e1 e2 e3 e4 X' hs
        refine den_sound hP hmix henv _ n c S _ res X' a w _ h hs fun ex S' X2 a' w' s1 s2 => ?_
        cases ex with
        | normal => exact fin E e1 e2 e3 e4 S' X2 a' w' s1 s2
        | exit i => cases s2
        | ret => exact fin E e1 e2 e3 e4 S' X2 a' w' s1 s2
      cases hio : io with
      | none =>
        rw [hio] at ha
        let E : Entry C := { w0 := w, R0 := R, W := fun g => g ∈ resBlocks io, io := none, gl := hgl }
        have := init_pure (C := C) (X := X0) (start E rfl rfl rfl X0 rfl) hi ha hvs
        have hw := walk E rfl rfl (fun g => Iff.rfl) (fun g hs e => by rw [hio] at e; cases e) X0 this
        rw [hio] at hw; exact hw
      | some q =>
        obtain ⟨g, hs⟩ := q
        rw [hio] at ha
        let E : Entry C := { w0 := w, R0 := R, W := fun g => g ∈ resBlocks io, gl := hgl, io := (ioPar (C.sig f).ps).map fun p => (g, p.T) }
        obtain ⟨X', s1, s2⟩ := init_io (C := C) (E := E) (X := X0) (g := g) (hs := hs) (by rw [hio] at hnd; exact hnd) (fun k hk => by show k ∈ resBlocks io; rw [hio]; exact hk) hlt (fun q e => by show (ioPar (C.sig f).ps).map _ = _; rw [e]; rfl)
          (start { E with io := none } rfl rfl rfl X0 rfl) rfl rfl hi ha hvs
        have hw := walk E rfl rfl (fun g => Iff.rfl) (fun g' hs' e p hp => by
          rw [hio] at e; injection e with e; injection e with e _; subst e
          show (ioPar (C.sig f).ps).map _ = _
          rw [hp]; rfl) X' s1
        rw [hio] at hw; exact hw
  · cases h

/-- The functions that are no walk of a body. -/
def PrimsOK (P : Program) (C : Cfg) (pr : Prims C) : Prop := ∀ f p, pr f = some p → ∀ env, EnvOK P C env → ∀ as r, p env as = some r →
  (∃ fn, P.funcs[f]? = some fn ∧ fn.name ≠ "runtime.NumGoroutine" ∧ fn.body.isNone = false) → CallOK P C f as r

theorem callD_sound (hP : ProgOK P C) (hmix : P.follows .mixedOrders = true) {pr : Prims C} (hpr : PrimsOK P C pr) : ∀ k, EnvOK P C (callD C P pr k)
  | 0 => fun f as r h => by cases h
  | k + 1 => fun f as r h hf => by
    unfold callD at h
    split at h
    · rename_i p hp
      exact hpr f p hp _ (callD_sound hP hmix hpr k) as r h hf
    · obtain ⟨fn, f1, f2, f3⟩ := hf
      rw [f1] at h
      exact body_sound hP hmix (callD_sound hP hmix hpr k) f1 h

end
end Go.Proofs.YtmgeeanbecmkbaaGreatDoor.Den
