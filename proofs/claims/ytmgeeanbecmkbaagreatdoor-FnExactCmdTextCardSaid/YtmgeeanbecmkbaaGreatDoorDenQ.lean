/- DenQ: calls. -/
import Derived.Test.YtmgeeanbecmkbaaGreatDoorDenZ3
namespace Go.Proofs.YtmgeeanbecmkbaaGreatDoor.Den
open Go
set_option linter.unusedVariables false

abbrev Hds := List (Value × TypeId × Nat × Nat)

def hdOK (R : Nat → Nat → Prop) (w : World) (hs : Hds) : Prop := ∀ p ∈ hs, ∃ cells, w.ownsRow 0 p.2.1 p.2.2.1 p.1 p.2.2.2 cells ∧ ∀ g, p.1.ownBlock = some g → ∀ o, R g o ↔ o < p.2.2.2 * p.2.2.1

def FsTip (R : Nat → Nat → Prop) (w : World) : List Bool → List Dat → List Value → Hds → Prop
  | _, [], cs, hs => cs = [] ∧ hs = []
  | ow, d :: r, cs, hs => ∃ c1 c2, cs = c1 ++ c2 ∧ Reads R w d.t d.x c1 ∧
      (if hdB ow = true then ∃ e u v h2, d.t = .slice e u ∧ c1 = [v] ∧ hs = (v, e, u.size, d.len) :: h2 ∧ FsTip R w ow.tail r c2 h2
       else FsTip R w ow.tail r c2 hs)

def blocksOf (hs : Hds) : List Nat := hs.filterMap (·.1.ownBlock)

structure IoRep (C : Cfg) (R : Nat → Nat → Prop) (w : World) (T : TypeId) (ow : List Bool) (t : Ty) (x : t.D) (g : Nat) (hs : Hds) : Prop where
  ty : C.ty T = some t
  st : t.isSt = true
  rep : ∃ cs, w.heap[g]? = some (.cells cs.toArray T (0, 0)) ∧ FsTip R w ow (unpack t x) cs hs ∧ SelfC g t cs
  nr : ∀ o, ¬ R g o
  hd : hdOK R w hs

def ArgsRep (C : Cfg) (R : Nat → Nat → Prop) (w : World) : List Par → List Arg → List Value → Option (Nat × Hds) → Prop
  | [], [], [], io => io = none
  | p :: ps, .val t x :: as, v :: vs, io => p.io = false ∧ (∃ cs, Reads R w t x cs ∧ toVal t cs v) ∧ ArgsRep C R w ps as vs io
  | p :: ps, .io t x :: as, v :: vs, io => p.io = true ∧ t = p.t ∧ (∃ g hs, v = .pointer (some ⟨g, 0, none⟩) ∧ io = some (g, hs) ∧ IoRep C R w p.T p.ow t x g hs) ∧ ArgsRep C R w ps as vs none
  | p :: ps, .fn f :: as, v :: vs, io => p.io = false ∧ v = .func (.func f) #[] #[] ∧ ArgsRep C R w ps as vs io
  | _, _, _, _ => False

def resBlocks : Option (Nat × Hds) → List Nat
  | none => []
  | some (g, hs) => g :: blocksOf hs

def IoBack (C : Cfg) (w : World) (R' : Nat → Nat → Prop) (w' : World) (ps : List Par) (io : Option (Nat × Hds)) : (ts : List Ty) → (pairs ts).D → List Nat → Prop
  | [], _, res => res = [] ∧ ∀ g hs, io = some (g, hs) → w'.heap[g]? = w.heap[g]? ∧ ∀ o, ¬ R' g o
  | [t], x, res => ∃ p g hs0 hs, ioPar ps = some p ∧ t = p.t ∧ io = some (g, hs0) ∧ IoRep C R' w' p.T p.ow t x.1 g hs ∧ res = g :: blocksOf hs
  | _, _, _ => False

def ResRep (R : Nat → Nat → Prop) (w : World) : List Dat → Value → Prop
  | [d], v => (∃ cs, Reads R w d.t d.x cs ∧ toVal d.t cs v) ∧ d.tag = .ro
  | l, v => ∃ vs, v = .tuple vs.toArray ∧ TupRep R w l vs

/-- What a call leaves. -/
structure After (R : Nat → Nat → Prop) (w : World) (res : List Nat) (R' : Nat → Nat → Prop) (w' : World) (res' : List Nat) : Prop where
  kp : Keeps R R' w w'
  new : ∀ g o, R' g o → R g o ∨ w.heap.size ≤ g ∨ g ∈ res
  lt : ∀ g o, R' g o → g < w'.heap.size
  os : w'.os = w.os
  tape : w'.tape = w.tape
  output : w'.output = w.output
  size : w.heap.size ≤ w'.heap.size
  block : ∀ g, g < w.heap.size → g ∉ res → w'.heap[g]? = w.heap[g]?
  nd : res'.Nodup
  res : ∀ g ∈ res', g ∈ res ∨ w.heap.size ≤ g

/-- What the program's variables hold, and that nobody writes there. -/
def Glob (G : List (Nat × (Obj → Prop))) (w : World) (res : List Nat) : Prop := ∀ p ∈ G, ∃ b, w.heap[p.1]? = some b ∧ p.2 b ∧ p.1 ∉ res

def CallOK (P : Program) (C : Cfg) (f : FuncId) (as : List Arg) (r : (C.sig f).out.D) : Prop :=
  ∀ (R : Nat → Nat → Prop) (w : World) (vs : List Value) (io : Option (Nat × Hds)), ArgsRep C R w (C.sig f).ps as vs io → (resBlocks io).Nodup → (∀ g o, R g o → g < w.heap.size) → Glob C.G w (resBlocks io) →
    Calls P f vs.toArray w fun e w' => ∃ R' v res', e = .returned v ∧ After R w (resBlocks io) R' w' res' ∧
      ResRep R' w' (resDats (C.sig f).rs (C.sig f).ios r) v ∧ IoBack C w R' w' (C.sig f).ps io (C.sig f).ios (restD (C.sig f).rs (C.sig f).ios r) res'

def EnvOK (P : Program) (C : Cfg) (env : Env C) : Prop := ∀ f as r, env f as = some r → (∃ fn, P.funcs[f]? = some fn ∧ fn.name ≠ "runtime.NumGoroutine" ∧ fn.body.isNone = false) → CallOK P C f as r

section
variable {P : Program} {C : Cfg} {E : Entry C} {S S' : AS} {X X' : Ctx} {a : Act} {w w' : World}

def hsOf (X : Ctx) : List Bool → List Dat → Hds
  | _, [] => []
  | ow, d :: r => bif hdB ow then
      match d.t, d.tag with
      | .slice e u, .own k _ => (X.hd k, e, u.size, d.len) :: hsOf X ow.tail r
      | .slice e u, _ => (.slice none 0 0, e, u.size, 0) :: hsOf X ow.tail r
      | _, _ => hsOf X ow.tail r
    else hsOf X ow.tail r

theorem tipIds_cons {ow : List Bool} {d : Dat} {r : List Dat} {ks : List Nat} (h : tipIds S ow (d :: r) = some ks) :
    ∃ ks', tipIds S ow.tail r = some ks' ∧ ((hdB ow = false ∧ ks = ks') ∨ (hdB ow = true ∧ ∃ e u, d.t = .slice e u ∧ ((d.tag = .nil ∧ ks = ks') ∨ ∃ k v, d.tag = .own k v ∧ tip S (.own k v) = true ∧ k ∉ ks' ∧ ks = k :: ks'))) := by
  unfold tipIds at h
  split at h
  · cases h
  · rename_i ks' hks
    refine ⟨ks', hks, ?_⟩
    cases ho : hdB ow <;> rw [ho] at h <;> simp only [cond_true, cond_false] at h
    · injection h with h; exact .inl ⟨rfl, h.symm⟩
    · right
      refine ⟨rfl, ?_⟩
      split at h
      · rename_i e u hdt
        refine ⟨e, u, hdt, ?_⟩
        split at h
        · cases h
        · rename_i ht; injection h with h; exact .inl ⟨ht, h.symm⟩
        · rename_i k v ht
          cases hb : (tip S (.own k v) && !(ks'.any (Nat.beq k))) <;> rw [hb] at h <;> simp only [cond_true, cond_false] at h
          · cases h
          · injection h with h
            simp only [Bool.and_eq_true, Bool.not_eq_true'] at hb
            refine .inr ⟨k, v, ht, hb.1, fun hm => ?_, h.symm⟩
            have : ks'.any (Nat.beq k) = true := List.any_eq_true.2 ⟨k, hm, Nat.beq_refl k⟩
            rw [this] at hb; exact absurd hb.2 (by simp)
      · cases h

theorem fs_tip : ∀ {t : Ty} {fs : List Dat} {cs : List Value} {ow : List Bool} {ks : List Nat} {y : t.D}, FsRep X S w fs cs → tipIds S ow fs = some ks → pack t fs = some y → FsTip X.R w ow (unpack t y) cs (hsOf X ow fs)
  | .unit, [], cs, ow, ks, y, hf, _, _ => ⟨hf, rfl⟩
  | .pair a b, d :: r, cs, ow, ks, y, hf, ht, hp => by
    obtain ⟨c1, c2, rfl, h1, h2⟩ := hf
    simp only [pack] at hp
    split at hp
    · rename_i p q hpp hq
      injection hp with hp; subst hp
      obtain ⟨ks', k1, k2⟩ := tipIds_cons ht
      have ih := fs_tip (t := b) h2 k1 hq
      have ed := castD_mk hpp
      have hr : Reads X.R w a p c1 := (castD_reads hpp).1 h1.1
      refine ⟨c1, c2, rfl, hr, ?_⟩
      rcases k2 with ⟨k2, _⟩ | ⟨k2, e, u, hdt, k3⟩
      · rw [if_neg (by simp [k2])]
        unfold hsOf; rw [k2]; exact ih
      · rw [if_pos k2]
        have ha : a = .slice e u := by rw [ed] at hdt; exact hdt
        subst ha
        have htag := h1.2
        unfold TagOk at htag
        rcases k3 with ⟨k3, _⟩ | ⟨k, v, k3, k4, _, _⟩
        · rw [k3] at htag
          have htag : c1 = [.slice none 0 0] := htag
          have hl : Dat.len ⟨.slice e u, p, .ro⟩ = 0 := by
            rw [htag] at hr
            obtain ⟨A, c, e1, _⟩ := hr
            have e1 := ((List.cons.injEq _ _ _ _).mp e1).1
            injection e1 with _ e2 _
            exact e2.symm
          refine ⟨e, u, _, hsOf X ow.tail r, rfl, htag, ?_, ih⟩
          show hsOf X ow (d :: r) = _
          rw [hl]
          rw [ed]
          simp [hsOf, k2, k3]
        · rw [k3] at htag
          obtain ⟨t1, t2⟩ := tip_own k4
          obtain ⟨_, _, t3⟩ := htag
          obtain ⟨t4, e', u', t5, t6⟩ := t3 t2
          refine ⟨e, u, _, hsOf X ow.tail r, rfl, t4, ?_, ih⟩
          rw [ed]
          simp [hsOf, k2, k3, Dat.len]
    · cases hp
  | .pair _ _, [], _, _, _, _, _, _, h => by simp [pack] at h
  | .unit, _ :: _, _, _, _, _, _, _, h => by simp [pack] at h
  | .int _, l, _, _, _, _, _, _, h => by cases l <;> simp [pack] at h
  | .bool, l, _, _, _, _, _, _, h => by cases l <;> simp [pack] at h
  | .str, l, _, _, _, _, _, _, h => by cases l <;> simp [pack] at h
  | .err, l, _, _, _, _, _, _, h => by cases l <;> simp [pack] at h
  | .ptr, l, _, _, _, _, _, _, h => by cases l <;> simp [pack] at h
  | .slice _ _, l, _, _, _, _, _, _, h => by cases l <;> simp [pack] at h

/-- The heads that are handed over are rows of the call's own, each of an array that is named. -/
theorem hs_ids (hsim : Sim C E S X a w) : ∀ {fs : List Dat} {cs : List Value} {ow : List Bool} {ks : List Nat}, FsRep X S w fs cs → tipIds S ow fs = some ks →
    hdOK X.R w (hsOf X ow fs) ∧ (∀ g ∈ blocksOf (hsOf X ow fs), ∃ k ∈ ks, (X.hd k).ownBlock = some g) ∧ (blocksOf (hsOf X ow fs)).Nodup ∧ ks.Nodup ∧ (∀ k ∈ ks, k < S.nid)
  | [], cs, ow, ks, hf, ht => by
    simp [tipIds] at ht; subst ht
    exact ⟨fun p hp => by simp [hsOf] at hp, fun g hg => by simp [hsOf, blocksOf] at hg, by simp [hsOf, blocksOf], List.nodup_nil, fun k hk => by simp at hk⟩
  | d :: r, cs, ow, ks, hf, ht => by
    obtain ⟨c1, c2, rfl, h1, h2⟩ := hf
    obtain ⟨ks', k1, k2⟩ := tipIds_cons ht
    obtain ⟨i1, i2, i3, i4, i5⟩ := hs_ids hsim h2 k1
    rcases k2 with ⟨k2, rfl⟩ | ⟨k2, e, u, hdt, k3⟩
    · have e1 : hsOf X ow (d :: r) = hsOf X ow.tail r := by
        conv => lhs; unfold hsOf
        rw [k2]; rfl
      rw [e1]; exact ⟨i1, i2, i3, i4, i5⟩
    · rcases k3 with ⟨k3, rfl⟩ | ⟨k, v, k3, k4, k5, rfl⟩
      · have e1 : hsOf X ow (d :: r) = (.slice none 0 0, e, u.size, 0) :: hsOf X ow.tail r := by
          conv => lhs; unfold hsOf
          rw [k2, hdt, k3]; rfl
        rw [e1]
        refine ⟨fun p hp => ?_, ?_, ?_, i4, i5⟩
        · rcases List.mem_cons.1 hp with rfl | hp
          · exact ⟨[], World.ownsRow_nil w 0 e u.size, fun g hg => by cases hg⟩
          · exact i1 p hp
        · simpa [blocksOf, Value.ownBlock] using i2
        · simpa [blocksOf, Value.ownBlock] using i3
      · obtain ⟨t1, t2⟩ := tip_own k4
        have htag := h1.2
        unfold TagOk at htag
        rw [k3] at htag
        obtain ⟨_, _, t3⟩ := htag
        obtain ⟨t4, e', u', t5, t6⟩ := t3 t2
        rw [hdt] at t5; injection t5 with t7 t8; subst t7 t8
        have e1 : hsOf X ow (d :: r) = (X.hd k, e, u.size, d.len) :: hsOf X ow.tail r := by
          conv => lhs; unfold hsOf
          rw [k2, hdt, k3]; rfl
        rw [e1]
        obtain ⟨cells, q1, q2⟩ := hsim.idk k t1
        rw [t6] at q1 q2
        refine ⟨fun p hp => ?_, fun g hg => ?_, ?_, List.nodup_cons.2 ⟨k5, i4⟩, fun k' hk' => ?_⟩
        · rcases List.mem_cons.1 hp with rfl | hp
          · exact ⟨cells, q1, q2⟩
          · exact i1 p hp
        · simp only [blocksOf, List.filterMap_cons] at hg
          cases hob : (X.hd k).ownBlock with
          | none =>
            rw [hob] at hg
            obtain ⟨k', m1, m2⟩ := i2 g hg
            exact ⟨k', List.mem_cons_of_mem _ m1, m2⟩
          | some g' =>
            rw [hob] at hg
            rcases List.mem_cons.1 hg with rfl | hg
            · exact ⟨k, List.mem_cons_self, hob⟩
            · obtain ⟨k', m1, m2⟩ := i2 g hg
              exact ⟨k', List.mem_cons_of_mem _ m1, m2⟩
        · simp only [blocksOf, List.filterMap_cons]
          cases hob : (X.hd k).ownBlock with
          | none => exact i3
          | some g' =>
            refine List.nodup_cons.2 ⟨fun hm => ?_, i3⟩
            obtain ⟨k', m1, m2⟩ := i2 g' hm
            have := hsim.ii k k' g' t1 (i5 k' m1) hob m2
            exact k5 (this ▸ m1)
        · rcases List.mem_cons.1 hk' with rfl | hk'
          · exact t1
          · exact i5 k' hk'

theorem pack_inj : ∀ {t1 t2 : Ty} {fs : List Dat} {x : t1.D} {y : t2.D}, pack t1 fs = some x → pack t2 fs = some y → t1 = t2
  | .pair a b, .pair c d, e :: r, x, y, h, h2 => by
    simp only [pack] at h h2
    split at h
    · rename_i p q hp hq
      split at h2
      · rename_i p' q' hp' hq'
        obtain ⟨e1, _⟩ := castD_some hp
        obtain ⟨e2, _⟩ := castD_some hp'
        rw [← e1, ← e2, pack_inj hq hq']
      · cases h2
    · cases h
  | .unit, .unit, [], _, _, _, _ => rfl
  | .pair _ _, t2, [], _, _, h, _ => by simp [pack] at h
  | .unit, t2, _ :: _, _, _, h, _ => by simp [pack] at h
  | .pair _ _, .unit, _ :: _, _, _, _, h => by simp [pack] at h
  | .unit, .pair _ _, [], _, _, _, h => by simp [pack] at h
  | .int _, _, l, _, _, h, _ => by cases l <;> simp [pack] at h
  | .bool, _, l, _, _, h, _ => by cases l <;> simp [pack] at h
  | .str, _, l, _, _, h, _ => by cases l <;> simp [pack] at h
  | .err, _, l, _, _, h, _ => by cases l <;> simp [pack] at h
  | .ptr, _, l, _, _, h, _ => by cases l <;> simp [pack] at h
  | .slice _ _, _, l, _, _, h, _ => by cases l <;> simp [pack] at h
  | .pair _ _, .int _, l, _, _, _, h => by cases l <;> simp [pack] at h
  | .pair _ _, .bool, l, _, _, _, h => by cases l <;> simp [pack] at h
  | .pair _ _, .str, l, _, _, _, h => by cases l <;> simp [pack] at h
  | .pair _ _, .err, l, _, _, _, h => by cases l <;> simp [pack] at h
  | .pair _ _, .ptr, l, _, _, _, h => by cases l <;> simp [pack] at h
  | .pair _ _, .slice _ _, l, _, _, _, h => by cases l <;> simp [pack] at h
  | .unit, .int _, l, _, _, _, h => by cases l <;> simp [pack] at h
  | .unit, .bool, l, _, _, _, h => by cases l <;> simp [pack] at h
  | .unit, .str, l, _, _, _, h => by cases l <;> simp [pack] at h
  | .unit, .err, l, _, _, _, h => by cases l <;> simp [pack] at h
  | .unit, .ptr, l, _, _, _, h => by cases l <;> simp [pack] at h
  | .unit, .slice _ _, l, _, _, _, h => by cases l <;> simp [pack] at h

theorem args_rep (hC : CfgOK P C) (hs : Sim C E S X a w) : ∀ {ps : List Par} {xs : List (TypeId × Operand)} {as : List Arg} {ob : Option Nat}, argsC C S ps xs = some (as, ob) →
    ∃ io, ArgsRep C X.R w ps as (xs.map fun p => a.eval p.2) io ∧
      ((ob = none ∧ io = none ∧ iosOf ps = []) ∨ ∃ b p fs ks y, ob = some b ∧ ioPar ps = some p ∧ iosOf ps = (bif p.kill then [] else [p.t]) ∧ b < S.nb ∧ S.box b = .fld p.T fs ∧ tipIds S p.ow fs = some ks ∧ pack p.t fs = some y ∧ io = some (X.β b, hsOf X p.ow fs))
  | [], [], as, ob, h => by
    simp [argsC] at h
    obtain ⟨rfl, rfl⟩ := h
    exact ⟨none, rfl, .inl ⟨rfl, rfl, rfl⟩⟩
  | p :: ps, (ty, x) :: xs, as, ob, h => by
    unfold argsC at h
    split at h
    · cases h
    · rename_i as' ob' hrec
      obtain ⟨io, h1, h2⟩ := args_rep hC hs hrec
      cases hp : p.io <;> rw [hp] at h <;> simp only [cond_true, cond_false] at h
      · split at h
        · rename_i y hy
          simp only [Option.some.injEq, Prod.mk.injEq] at h
          obtain ⟨rfl, rfl⟩ := h
          refine ⟨io, ⟨hp, toD_rep hy (opv_rep hs ty x), h1⟩, ?_⟩
          have e1 : iosOf (p :: ps) = iosOf ps := by simp [iosOf, hp]
          have e2 : ioPar (p :: ps) = ioPar ps := by simp [ioPar, hp]
          rw [e1, e2]; exact h2
        · cases h
      · split at h
        · rename_i b t1 hv
          rcases h2 with ⟨_, rfl, h3⟩ | ⟨b', p', fs', ks', y', h3, _⟩
          · split at h
            · rename_i T' fs hb
              cases hT : Nat.beq T' p.T <;> rw [hT] at h <;> simp only [cond_true, cond_false] at h
              · cases h
              · have hT := Nat.eq_of_beq_eq_true hT; subst hT
                split at h
                · rename_i ks y hks hy
                  simp only [Option.some.injEq, Prod.mk.injEq] at h
                  obtain ⟨rfl, rfl⟩ := h
                  have hr := opv_rep hs ty x
                  rw [hv] at hr
                  obtain ⟨T, t0, of, r1, r2, r3, r4, r5⟩ := hr
                  rw [hb] at r2; simp [Sh] at r2
                  subst r2
                  have hbx := hs.bx b r1
                  rw [hb] at hbx
                  obtain ⟨t, cs, q1, q2, q3, q4, q5, q6, q7⟩ := hbx
                  have hof : of = 0 := by
                    rw [offs_nil] at r4; injection r4 with r4; injection r4 with _ r4; exact r4.symm
                  subst hof
                  obtain ⟨y', hy'⟩ := pack_ok (hC _ _ q1) q2 q3
                  have htt : p.t = t := pack_inj hy hy'
                  rw [← htt] at q1 q2 q3 q7
                  obtain ⟨i1, i2, i3, i4, i5⟩ := hs_ids hs q4 hks
                  refine ⟨some (X.β b, hsOf X p.ow fs), ⟨hp, rfl, ⟨X.β b, _, r5, rfl, ⟨q1, q2, ⟨cs, q5, fs_tip q4 hks hy, q7⟩, q6, i1⟩⟩, h1⟩, .inr ⟨b, p, fs, ks, y, rfl, by simp [ioPar, hp], (by cases hk : p.kill <;> simp [iosOf, hp, h3, hk]), r1, hb, hks, hy, rfl⟩⟩
                · cases h
            · cases h
          · cases h3
        · cases h
  | [], _ :: _, _, _, h => by simp [argsC] at h
  | _ :: _, [], _, _, h => by simp [argsC] at h

end
end Go.Proofs.YtmgeeanbecmkbaaGreatDoor.Den
