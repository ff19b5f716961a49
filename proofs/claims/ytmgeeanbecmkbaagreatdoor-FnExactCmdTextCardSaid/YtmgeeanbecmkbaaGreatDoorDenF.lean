/- DenF: that the program bears out the tables, as one test. -/
import Derived.Test.YtmgeeanbecmkbaaGreatDoorDenG
namespace Go.Proofs.YtmgeeanbecmkbaaGreatDoor.Den
open Go
set_option linter.unusedVariables false

def mkCfg (G : List (Nat × (Obj → Prop))) (tab : List (Nat × Ty)) (sigs : List (Nat × Sig)) (hints : List (Nat × List (Nat × List Nat))) (fns : List Nat) : Cfg :=
  { G := G, ty := look tab, sig := fun f => (look sigs f).getD ⟨[], []⟩, hint := fun f => (look hints f).getD [], has := fun f => fns.any (Nat.beq f) }

section
variable (P : Program) (C : Cfg)

def fieldsB : List Field → Ty → Nat → Bool
  | [], .unit, _ => true
  | f :: fs, .pair a b, o => Nat.beq f.offset o && (match C.ty f.type with | some u => decide (u = a) | none => false) && decide (f.name ≠ "_") && Nat.blt 0 a.size && fieldsB fs b (o + a.size)
  | _, _, _ => false

def descB (t : TypeId) : Ty → Bool
  | .int k => match P.underlying t with | some (.int q) => decide (q = k) | _ => false
  | .bool => match P.underlying t with | some .bool => true | _ => false
  | .str => match P.underlying t with | some .string => true | _ => false
  | .err => match P.underlying t with | some (.interface _) => true | _ => false
  | .ptr => match P.underlying t with | some (.pointer _) => true | _ => false
  | .unit => match P.underlying t with | some (.struct fs) => fieldsB C fs.toList .unit 0 | _ => false
  | .pair a b => match P.underlying t with | some (.struct fs) => fieldsB C fs.toList (.pair a b) 0 | _ => false
  | .slice e v => match P.underlying t with | some (.slice q) => Nat.beq q e && (match C.ty e with | some u => decide (u = v) | none => false) && Nat.blt 0 v.size | _ => false

def sameB : Value → Value → Bool
  | .int k n, .int q m => decide (k = q) && decide (n = m)
  | .bool a, .bool b => decide (a = b)
  | .string a, .string b => a.data.toList.isEmpty && b.data.toList.isEmpty
  | .nilIface, .nilIface => true
  | .pointer none, .pointer none => true
  | .slice none 0 0, .slice none 0 0 => true
  | _, _ => false

def sameL : List Value → List Value → Bool
  | [], [] => true
  | a :: r, b :: s => sameB a b && sameL r s
  | _, _ => false

def zeroB (u : Ty) (v : Value) : Bool := bif u.isSt then (match v with | .agg cs => sameL cs.toList (zeroCells u) | _ => false) else sameL [v] (zeroCells u)

def infoB (t : TypeId) (u : Ty) : Bool := match P.info? t with
  | some i => Nat.beq i.size u.size && (match i.zero with | some z => zeroB u z | none => false) && Nat.ble i.bytes 65536
  | none => false

def tyB (t : TypeId) (u : Ty) : Bool := descB P C t u && infoB P t u && (!u.isSt || (!(P.eqGuardType P.depth t) && !(P.stoodInHeld t))) && Nat.ble u.depth 9999 && Nat.ble u.size 1024

def tabB (tab : List (Nat × Ty)) : Bool := tab.all fun p => tyB P C p.1 p.2

def funB (f : Nat) : Bool := match P.funcs[f]? with
  | some fn => decide (fn.name ≠ "runtime.NumGoroutine") && !fn.body.isNone
  | none => false
end

section
variable {P : Program} {C : Cfg}

theorem fieldsB_ok : ∀ {fs : List Field} {u : Ty} {o : Nat}, fieldsB C fs u o = true → FieldsOK C fs u o
  | [], .unit, _, _ => trivial
  | f :: fs, .pair a b, o, h => by
    unfold fieldsB at h
    simp only [Bool.and_eq_true, decide_eq_true_eq] at h
    obtain ⟨⟨⟨⟨h1, h2⟩, h3⟩, h4⟩, h5⟩ := h
    refine ⟨Nat.eq_of_beq_eq_true h1, ?_, h3, by simp [Nat.blt] at h4; omega, fieldsB_ok h5⟩
    split at h2
    · rename_i u hu; rw [hu, of_decide_eq_true h2]
    · cases h2
  | [], .int _, _, h => by cases h
  | [], .bool, _, h => by cases h
  | [], .str, _, h => by cases h
  | [], .err, _, h => by cases h
  | [], .ptr, _, h => by cases h
  | [], .pair _ _, _, h => by cases h
  | [], .slice _ _, _, h => by cases h
  | _ :: _, .int _, _, h => by cases h
  | _ :: _, .bool, _, h => by cases h
  | _ :: _, .str, _, h => by cases h
  | _ :: _, .err, _, h => by cases h
  | _ :: _, .ptr, _, h => by cases h
  | _ :: _, .unit, _, h => by cases h
  | _ :: _, .slice _ _, _, h => by cases h

theorem descB_ok {t : TypeId} : ∀ {u : Ty}, descB P C t u = true → DescOK P C t u
  | .int k, h => by
    dsimp only [descB] at h
    split at h
    · rename_i q hq; show P.underlying t = _; rw [hq, of_decide_eq_true h]
    · cases h
  | .bool, h => by
    dsimp only [descB] at h
    split at h
    · rename_i hq; exact hq
    · cases h
  | .str, h => by
    dsimp only [descB] at h
    split at h
    · rename_i hq; exact hq
    · cases h
  | .err, h => by
    dsimp only [descB] at h
    split at h
    · rename_i ms hq; exact ⟨ms, hq⟩
    · cases h
  | .ptr, h => by
    dsimp only [descB] at h
    split at h
    · rename_i ms hq; exact ⟨ms, hq⟩
    · cases h
  | .unit, h => by
    dsimp only [descB] at h
    split at h
    · rename_i fs hq; exact ⟨fs, hq, fieldsB_ok h⟩
    · cases h
  | .pair a b, h => by
    dsimp only [descB] at h
    split at h
    · rename_i fs hq; exact ⟨fs, hq, fieldsB_ok h⟩
    · cases h
  | .slice e v, h => by
    dsimp only [descB] at h
    split at h
    · rename_i q hq
      simp only [Bool.and_eq_true] at h
      obtain ⟨⟨h1, h2⟩, h3⟩ := h
      have h1 := Nat.eq_of_beq_eq_true h1
      subst h1
      refine ⟨hq, ?_, by simp [Nat.blt] at h3; omega⟩
      split at h2
      · rename_i u hu; rw [hu, of_decide_eq_true h2]
      · cases h2
    · cases h

theorem sameB_eq : ∀ {a b : Value}, sameB a b = true → a = b := by
  intro a b h
  unfold sameB at h
  split at h
  · simp only [Bool.and_eq_true, decide_eq_true_eq] at h; rw [h.1, h.2]
  · simp only [decide_eq_true_eq] at h; rw [h]
  · simp only [Bool.and_eq_true, List.isEmpty_iff] at h
    rename_i x y
    obtain ⟨⟨x⟩⟩ := x
    obtain ⟨⟨y⟩⟩ := y
    simp at h
    rw [h.1, h.2]
  · rfl
  · rfl
  · rfl
  · cases h

theorem sameL_eq : ∀ {l m : List Value}, sameL l m = true → l = m
  | [], [], _ => rfl
  | a :: r, b :: s, h => by
    unfold sameL at h
    rw [Bool.and_eq_true] at h
    rw [sameB_eq h.1, sameL_eq h.2]
  | [], _ :: _, h => by cases h
  | _ :: _, [], h => by cases h

theorem zeroB_eq {u : Ty} {v : Value} (h : zeroB u v = true) : v = zeroVal u := by
  unfold zeroB at h
  unfold zeroVal
  cases hs : u.isSt <;> rw [hs] at h <;> simp only [cond_true, cond_false] at h
  · rw [if_neg (by simp)]
    have := sameL_eq h
    rw [← this]; rfl
  · rw [if_pos rfl]
    split at h
    · rename_i cs
      have := sameL_eq h
      rw [← this]
    · cases h

theorem tyB_ok {t : TypeId} {u : Ty} (h : tyB P C t u = true) : TyOK P C t u ∧ u.depth ≤ 9999 ∧ u.size ≤ 1024 := by
  unfold tyB at h
  simp only [Bool.and_eq_true] at h
  obtain ⟨⟨⟨⟨h1, h2⟩, h3⟩, h4⟩, h5⟩ := h
  refine ⟨⟨descB_ok h1, ?_, fun hs => ?_⟩, Nat.le_of_ble_eq_true h4, Nat.le_of_ble_eq_true h5⟩
  · unfold infoB at h2
    split at h2
    · rename_i i hi
      simp only [Bool.and_eq_true] at h2
      obtain ⟨⟨k1, k2⟩, k3⟩ := h2
      refine ⟨i, hi, Nat.eq_of_beq_eq_true k1, ?_, Nat.le_of_ble_eq_true k3⟩
      split at k2
      · rename_i z hz; rw [hz, zeroB_eq k2]
      · cases k2
    · cases h2
  · rw [hs] at h3
    simpa using h3

theorem look_mem {α : Type} : ∀ {l : List (Nat × α)} {k : Nat} {v : α}, look l k = some v → (k, v) ∈ l
  | (k', v') :: r, k, v, h => by
    rw [look_cons] at h
    by_cases e : k' = k
    · rw [if_pos e] at h; injection h with h; rw [e, h]; exact List.mem_cons_self ..
    · rw [if_neg e] at h; exact List.mem_cons_of_mem _ (look_mem h)
  | [], _, _, h => by cases h

/-- The tables hold. -/
theorem progOK {G : List (Nat × (Obj → Prop))} {tab : List (Nat × Ty)} {sigs : List (Nat × Sig)} {hints : List (Nat × List (Nat × List Nat))} {fns : List Nat}
    (h1 : tabB P (mkCfg G tab sigs hints fns) tab = true) (h2 : fns.all (funB P) = true) : ProgOK P (mkCfg G tab sigs hints fns) := by
  have key : ∀ t u, (mkCfg G tab sigs hints fns).ty t = some u → TyOK P (mkCfg G tab sigs hints fns) t u ∧ u.depth ≤ 9999 ∧ u.size ≤ 1024 := fun t u h => tyB_ok (List.all_eq_true.1 h1 _ (look_mem h))
  refine ⟨fun t u h => (key t u h).1, fun t u h => (key t u h).2.1, fun t u h => (key t u h).2.2, fun f hf => ?_⟩
  obtain ⟨g, m, e⟩ := List.any_eq_true.1 hf
  have := List.all_eq_true.1 h2 g m
  have e := Nat.eq_of_beq_eq_true e
  subst e
  unfold funB at this
  split at this
  · rename_i fn hfn
    simp only [Bool.and_eq_true, decide_eq_true_eq, Bool.not_eq_true'] at this
    exact ⟨fn, hfn, this.1, this.2⟩
  · cases this

end
end Go.Proofs.YtmgeeanbecmkbaaGreatDoor.Den
