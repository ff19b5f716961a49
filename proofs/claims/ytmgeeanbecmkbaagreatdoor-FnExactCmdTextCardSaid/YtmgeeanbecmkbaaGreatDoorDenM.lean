/- DenM: the operations of a region in whichever order they come up. -/
import Derived.Test.YtmgeeanbecmkbaaGreatDoorDenN2
namespace Go.Proofs.YtmgeeanbecmkbaaGreatDoor.Den
open Go
set_option linter.unusedVariables false

def AS.mem (S : AS) : AS := { S with vals := [] }

section
variable {Out : Type} {C : Cfg} {env : Env C}

theorem backIo_keep {S : AS} {ps : List Par} {ob : Option Nat} : ∀ {ts : List Ty} (x : (pairs ts).D), backIo S ps ob ts x = (backIo S ps ob ts x).map fun S' => { S' with n := S.n, vals := S.vals, dr := S.dr }
  | [], _ => by
    unfold backIo
    cases ob with
    | none => rfl
    | some b =>
      cases ioPar ps with
      | none => rfl
      | some p => dsimp only; cases p.kill <;> simp only [cond_true, cond_false] <;> first | rfl | (cases S.box b <;> rfl)
  | [t], z => by
    unfold backIo
    cases ob with
    | none => rfl
    | some b =>
      cases ioPar ps with
      | none => rfl
      | some p => dsimp only; cases S.box b <;> rfl
  | _ :: _ :: _, _ => rfl

/-- What an operation leaves alone. -/
theorem op_keep {S : AS} {o : Oper} {k : AV → AS → Option Out} : evalOp C env S o k = evalOp C env S o fun v S' => k v { S' with n := S.n, vals := S.vals, dr := S.dr } := by
  unfold evalOp
  cases o.op with
  | slice t x lo hi mx => cases mx <;> rfl
  | call c =>
    dsimp only
    congr 1
    split
    · rename_i b hb
      unfold builtinC
      generalize c.argTypes.toList.zip c.args.toList = xs
      cases b with
      | len =>
        match xs with
        | [] => rfl
        | _ :: _ :: _ => rfl
        | [(t, x)] => rfl
      | append =>
        match xs with
        | [] => rfl
        | [_] => rfl
        | _ :: _ :: _ :: _ => rfl
        | [(t, x), (t', y)] => rfl
      | max =>
        match xs with
        | [] => rfl
        | (t, x) :: r => rfl
      | min =>
        match xs with
        | [] => rfl
        | (t, x) :: r => rfl
      | _ => rfl
    · rename_i f hb
      congr 1
      unfold callC
      split
      · rfl
      · rename_i as ob _
        congr 1
        funext r
        rw [backIo_keep]
        cases backIo S (C.sig f).ps ob (C.sig f).ios (restD (C.sig f).rs (C.sig f).ios r) <;> rfl
    · rfl
  | _ => rfl

/-- The operation's value, and the state behind it. -/
def Ev (C : Cfg) (env : Env C) (S : AS) (o : Oper) (v : AV) (T : AS) : Prop := evalOp C env S o two = some (v, T)

theorem Ev.run {S T : AS} {o : Oper} {v : AV} (h : Ev C env S o v T) (k : AV → AS → Option Out) : evalOp C env S o k = k v T := by
  rw [op_uni, show evalOp C env S o two = some (v, T) from h]; rfl

theorem Ev.of {S : AS} {o : Oper} {k : AV → AS → Option Out} {r : Out} (h : evalOp C env S o k = some r) : ∃ v T, Ev C env S o v T ∧ k v T = some r := by
  rw [op_uni] at h
  cases he : evalOp C env S o two with
  | none => rw [he] at h; cases h
  | some p => rw [he] at h; exact ⟨p.1, p.2, he, h⟩

theorem Ev.keeps {S T : AS} {o : Oper} {v : AV} (h : Ev C env S o v T) : T.n = S.n ∧ T.vals = S.vals ∧ T.dr = S.dr := by
  have h2 : evalOp C env S o two = some (v, { T with n := S.n, vals := S.vals, dr := S.dr }) := by
    rw [op_keep, h.run]
  rw [show evalOp C env S o two = some (v, T) from h] at h2
  injection h2 with h2
  injection h2 with _ h2
  rw [h2]
  exact ⟨rfl, rfl, rfl⟩

theorem alike_refl (S : AS) (o : Oper) : Alike C S S o := fun _ _ _ => rfl

theorem Ev.quiet {S T : AS} {o : Oper} {v : AV} (h : Ev C env S o v T) (hc : clsOp C S o = .quiet) (hd : S.dr = true) : T = S := by
  have h2 : evalOp C env S o two = some (v, S) := by
    rw [cong0 hc (alike_refl S o) hd hd, h.run]
  rw [show evalOp C env S o two = some (v, T) from h] at h2
  injection h2 with h2
  injection h2

theorem Ev.reads {S T : AS} {o : Oper} {v : AV} {b : Nat} (h : Ev C env S o v T) (hc : clsOp C S o = .rd b) : T = S := by
  have h2 : evalOp C env S o two = some (v, S) := by
    rw [congR hc (alike_refl S o) rfl, h.run]
  rw [show evalOp C env S o two = some (v, T) from h] at h2
  injection h2 with h2
  injection h2

theorem Ev.writes {S T : AS} {o : Oper} {v : AV} {b : Nat} (h : Ev C env S o v T) (hc : clsOp C S o = .wr b) : ∃ B, v = .bot ∧ T = S.setBox b B ∧ S.box b ≠ .dead := by
  obtain ⟨B, h1, h2, h3, _⟩ := congW hc (alike_refl S o) rfl h
  exact ⟨B, h1, h2, h3⟩

theorem Ev.alike0 {S S' T : AS} {o : Oper} {v : AV} (h : Ev C env S o v T) (hc : clsOp C S o = .quiet) (ha : Alike C S' S o) (h1 : S'.dr = true) (h2 : S.dr = true) : Ev C env S' o v S' := by
  show evalOp C env S' o two = _
  rw [cong0 hc ha h1 h2, h.run]

theorem Ev.alikeR {S S' T : AS} {o : Oper} {v : AV} {b : Nat} (h : Ev C env S o v T) (hc : clsOp C S o = .rd b) (ha : Alike C S' S o) (hb : S'.box b = S.box b) : Ev C env S' o v S' := by
  show evalOp C env S' o two = _
  rw [congR hc ha hb, h.run]

theorem Ev.alikeW {S S' T : AS} {o : Oper} {v : AV} {b : Nat} {B : Box} (h : Ev C env S o v T) (hc : clsOp C S o = .wr b) (ha : Alike C S' S o) (hb : S'.box b = S.box b) (hT : T.mem = (S.setBox b B).mem) : Ev C env S' o v (S'.setBox b B) := by
  obtain ⟨B', h1, h2, h3, h4⟩ := congW hc ha hb h
  subst h1
  rw [h2] at hT
  have e : updL b B' S.boxes = updL b B S.boxes := congrArg AS.boxes hT
  have : B' = B := by
    have h5 := congrArg (fun l => look l b) e
    simp only [look_upd] at h5
    simpa using h5
  rw [← this]; exact h4

theorem mem_vals {S S' : AS} (h : S'.mem = S.mem) : S' = { S with vals := S'.vals } := by
  obtain ⟨n, vals, boxes, nb, vers, nid, dr⟩ := S
  obtain ⟨n', vals', boxes', nb', vers', nid', dr'⟩ := S'
  simp only [AS.mem, AS.mk.injEq] at h ⊢
  obtain ⟨a, _, b, c, d, e, f⟩ := h
  exact ⟨a, trivial, b, c, d, e, f⟩

theorem Ev.alike2 {S S' T : AS} {o : Oper} {v : AV} (h : Ev C env S o v T) (hm : S'.mem = S.mem) (ha : Alike C S' S o) : Ev C env S' o v { T with vals := S'.vals } := by
  show evalOp C env S' o two = _
  have e := mem_vals hm
  rw [e] at ha
  rw [e, cong2 ha, h.run]

theorem alike_of_get {S T : AS} {o : Oper} (h : ∀ d, Operand.tmp d ∈ o.op.operands → S.get d = T.get d) : Alike C S T o := by
  intro x hx t
  cases x with
  | tmp d => exact h d hx
  | const v => rfl
  | func f => rfl
  | global g => rfl

theorem looks_operand {ops : Array Oper} {o : Oper} {d : Nat} (h : Operand.tmp d ∈ o.op.operands) : d ∈ o.looksAt ops := by
  unfold Oper.looksAt
  refine List.mem_append.2 (.inl (List.mem_filterMap.2 ⟨.tmp d, by simpa using h, rfl⟩))

theorem looks_guard {ops : Array Oper} {o : Oper} {j d : Nat} {w : Bool} (h : o.guard = some (j, w)) (hd : (ops[j]?).bind (·.dst) = some d) : d ∈ o.looksAt ops := by
  unfold Oper.looksAt
  rw [h]
  refine List.mem_append.2 (.inr ?_)
  show d ∈ ((ops[j]?).bind (·.dst)).toList
  rw [hd]; simp

end

/-! Which come before which. -/
section
variable {ops : Array Oper}

theorem befRow_bit {rows : List Nat} {i : Nat} : ∀ {es : List Edge}, (befRow rows es).testBit i = true → ∃ e ∈ es, Region.binds .any e = true ∧ (e.on = i ∨ (rows.getD e.on 0).testBit i = true)
  | [], h => by simp [befRow] at h
  | e :: r, h => by
    unfold befRow at h
    cases hb : Region.binds .any e with
    | false =>
      rw [hb] at h
      obtain ⟨e', m, p, q⟩ := befRow_bit h
      exact ⟨e', List.mem_cons_of_mem _ m, p, q⟩
    | true =>
      rw [hb] at h
      simp only [cond_true, Nat.testBit_or, Bool.or_eq_true] at h
      rcases h with (h | h) | h
      · rw [Nat.testBit_two_pow] at h
        exact ⟨e, List.mem_cons_self .., hb, .inl (by simpa using h)⟩
      · exact ⟨e, List.mem_cons_self .., hb, .inr h⟩
      · obtain ⟨e', m, p, q⟩ := befRow_bit h
        exact ⟨e', List.mem_cons_of_mem _ m, p, q⟩

theorem befRows_pre : ∀ (l : List Oper) (rows : List Nat), ∃ t, befRows l rows = rows ++ t
  | [], rows => ⟨[], by simp [befRows]⟩
  | o :: r, rows => by
    obtain ⟨t, h⟩ := befRows_pre r (rows ++ [befRow rows o.after.toList])
    exact ⟨befRow rows o.after.toList :: t, by rw [befRows, h]; simp⟩

theorem befRows_at : ∀ (l : List Oper) (rows : List Nat) (j : Nat) (o : Oper), l[j]? = some o →
    (befRows l rows).getD (rows.length + j) 0 = befRow ((befRows l rows).take (rows.length + j)) o.after.toList
  | [], _, j, o, h => by simp at h
  | q :: r, rows, 0, o, h => by
    simp at h; subst h
    obtain ⟨t, ht⟩ := befRows_pre r (rows ++ [befRow rows q.after.toList])
    rw [befRows, ht]
    simp [List.getD_eq_getElem?_getD]
  | q :: r, rows, j + 1, o, h => by
    have := befRows_at r (rows ++ [befRow rows q.after.toList]) j o (by simpa using h)
    rw [befRows]
    rw [List.length_append, List.length_singleton] at this
    rw [show rows.length + (j + 1) = rows.length + 1 + j by omega]
    exact this

abbrev rowsOf (ops : Array Oper) : List Nat := befRows ops.toList []

/-- A set of numbers that holds, with each, those that come before it. -/
def Shut (ops : Array Oper) (D : Nat → Prop) : Prop := ∀ j o, D j → ops[j]? = some o → ∀ e ∈ o.after, Region.binds .any e = true → D e.on

def bitOf (ops : Array Oper) (j i : Nat) : Prop := ((rowsOf ops).getD j 0).testBit i = true

theorem rows_none {j : Nat} (h : ops.size ≤ j) : (rowsOf ops).getD j 0 = 0 := by
  have hl : ∀ (l : List Oper) (rows : List Nat), (befRows l rows).length = rows.length + l.length := by
    intro l
    induction l with
    | nil => intro rows; simp [befRows]
    | cons o r ih => intro rows; rw [befRows, ih]; simp; omega
  rw [List.getD_eq_getElem?_getD, List.getElem?_eq_none (by rw [hl]; simpa using h)]
  rfl

theorem Shut.bef {D : Nat → Prop} (h : Shut ops D) : ∀ (j i : Nat), D j → bitOf ops j i → D i := by
  intro j
  induction j using Nat.strongRecOn with
  | _ j ih =>
    intro i hj hb
    rcases Nat.lt_or_ge j ops.size with hlt | hge
    · have ho : ops[j]? = some ops[j] := Array.getElem?_eq_getElem hlt
      have hat := befRows_at ops.toList [] j ops[j] (by simp)
      unfold bitOf at hb
      rw [List.length_nil, Nat.zero_add] at hat
      rw [hat] at hb
      obtain ⟨e, m, p, q⟩ := befRow_bit hb
      have he := h j _ hj ho e (by simpa using m) p
      rcases q with q | q
      · exact q ▸ he
      · rcases Nat.lt_or_ge e.on j with hl | hl
        · refine ih e.on hl i he ?_
          unfold bitOf
          rw [List.getD_eq_getElem?_getD, List.getElem?_take, if_pos hl, ← List.getD_eq_getElem?_getD] at q
          exact q
        · rw [List.getD_eq_getElem?_getD, List.getElem?_take, if_neg (by omega)] at q
          simp at q
    · unfold bitOf at hb
      rw [rows_none hge] at hb
      simp at hb

theorem tmpsFrom_spec {row : Nat} {q : Oper} : ∀ {l : List Oper} {i : Nat}, tmpsFrom ops row q i l = true → ∀ k o, l[k]? = some o → shares ops o q = true → row.testBit (i + k) = true
  | [], i, _, k, o, h, _ => by simp at h
  | x :: r, i, h, k, o, hk, hs => by
    unfold tmpsFrom at h
    simp only [Bool.and_eq_true, Bool.or_eq_true, Bool.not_eq_true'] at h
    cases k with
    | zero =>
      simp at hk; subst hk
      rcases h.1 with h1 | h1
      · rw [hs] at h1; cases h1
      · exact h1
    | succ k =>
      have := tmpsFrom_spec h.2 k o (by simpa using hk) hs
      rw [show i + (k + 1) = i + 1 + k by omega]
      exact this

theorem drawFrom_spec {rows : List Nat} : ∀ {l : List Oper} {j : Nat}, drawFrom ops rows j l = true → ∀ k q, l[k]? = some q →
    (∀ e ∈ q.after, Region.binds .any e = true → e.on < j + k) ∧ ∀ i o, i < j + k → ops[i]? = some o → shares ops o q = true → (rows.getD (j + k) 0).testBit i = true
  | [], j, _, k, q, h => by simp at h
  | x :: r, j, h, k, q, hk => by
    unfold drawFrom at h
    simp only [Bool.and_eq_true] at h
    cases k with
    | zero =>
      simp at hk; subst hk
      refine ⟨fun e he hb => ?_, fun i o hi ho hs => ?_⟩
      · have := List.all_eq_true.1 h.1.1 e (by simpa using he)
        rw [hb] at this
        simp [Nat.blt] at this
        omega
      · have := tmpsFrom_spec h.1.2 i o (by rw [List.getElem?_take, if_pos (by omega)]; simpa using ho) hs
        rwa [Nat.zero_add] at this
    | succ k =>
      have := drawFrom_spec h.2 k q (by simpa using hk)
      rw [show j + (k + 1) = j + 1 + k by omega]
      exact this

theorem drawOk_spec (h : drawOk ops (rowsOf ops) = true) (j : Nat) (q : Oper) (hq : ops[j]? = some q) :
    (∀ e ∈ q.after, Region.binds .any e = true → e.on < j) ∧ ∀ i o, i < j → ops[i]? = some o → shares ops o q = true → bitOf ops j i := by
  have := drawFrom_spec h j q (by simpa using hq)
  rw [Nat.zero_add] at this
  exact this

theorem shares_dst {o q : Oper} {d : Nat} (h1 : o.dst = some d) (h2 : q.dst = some d) : shares ops o q = true := by
  unfold shares; rw [h1, h2]; simp

theorem shares_read {o q : Oper} {d : Nat} (h1 : o.dst = some d) (h2 : d ∈ q.looksAt ops) : shares ops o q = true := by
  unfold shares; rw [h1]
  have : (q.looksAt ops).any (Nat.beq d) = true := List.any_eq_true.2 ⟨d, h2, by simp⟩
  cases q.dst <;> simp [this]

theorem shares_read' {o q : Oper} {d : Nat} (h1 : q.dst = some d) (h2 : d ∈ o.looksAt ops) : shares ops o q = true := by
  unfold shares; rw [h1]
  have : (o.looksAt ops).any (Nat.beq d) = true := List.any_eq_true.2 ⟨d, h2, by simp⟩
  cases o.dst <;> simp [this]

end

/-! The text's own order, step by step. -/
section
variable {C : Cfg} {env : Env C} {ops : Array Oper}

structure TrOK (C : Cfg) (env : Env C) (ops : Array Oper) (Tr : Nat → AS) (V : Nat → AV) (W : Nat → Bool) (c : Nat → Cls) (B : Nat → Box) (i : Nat) (o : Oper) : Prop where
  dst : ∀ d, o.dst = some d → d < (Tr i).n
  n : (Tr (i + 1)).n = (Tr i).n
  dr : (Tr i).dr = true
  guard : match o.guard with
    | none => W i = true
    | some (j, want) => ∃ d, (ops[j]?).bind (·.dst) = some d ∧ ((∃ b tg, (Tr i).get d = .dat ⟨.bool, b, tg⟩ ∧ W i = (b == want)) ∨ ((Tr i).get d = .und ∧ W i = false))
  get : ∀ d, (Tr (i + 1)).get d = if o.dst = some d then V i else (Tr i).get d
  off : W i = false → V i = .und ∧ c i = .quiet
  on : W i = true → ∃ T', Ev C env (Tr i) o (V i) T' ∧ c i = clsOp C (Tr i) o ∧ (Tr (i + 1)).mem = T'.mem
  quiet : c i = .quiet → (Tr (i + 1)).mem = (Tr i).mem
  rd : ∀ b, c i = .rd b → (Tr (i + 1)).mem = (Tr i).mem
  wr : ∀ b, c i = .wr b → (Tr (i + 1)).mem = ((Tr i).setBox b (B i)).mem ∧ (Tr i).box b ≠ .dead

variable {Out : Type} {K : AS → Option Out} {r : Out}

theorem putC_of {S : AS} {dst : Option Nat} {v : AV} {K : AS → Option Out} (h : putC S dst v K = some r) : ∃ S', K S' = some r ∧ S'.mem = S.mem ∧ (∀ d, S'.get d = if dst = some d then v else S.get d) ∧ ∀ d, dst = some d → d < S.n := by
  unfold putC at h
  split at h
  · exact ⟨S, h, rfl, fun d => (by rw [if_neg (by simp)]), fun d e => (by cases e)⟩
  · rename_i d
    cases hd : Nat.blt d S.n <;> rw [hd] at h <;> simp only [cond_true, cond_false] at h
    · cases h
    · refine ⟨_, h, rfl, fun i => ?_, fun i e => ?_⟩
      · rw [get_put]
        by_cases e : d = i
        · subst e; rw [if_pos rfl, if_pos rfl]
        · rw [if_neg e, if_neg (by simpa using e)]
      · injection e with e; subst e
        simp [Nat.blt] at hd; omega

theorem ordered_spec {row : Nat} {c : Cls} {pr : List (Nat × Cls)} (h : ordered row c pr = true) : ∀ p ∈ pr, clash p.2 c = true → row.testBit p.1 = true := fun p hp hc => by
  have := List.all_eq_true.1 h p hp
  rw [hc] at this
  simpa using this

theorem dr_mem {S T : AS} (h : S.mem = T.mem) : S.dr = T.dr := (congrArg AS.dr h : S.mem.dr = T.mem.dr)
theorem n_mem {S T : AS} (h : S.mem = T.mem) : S.n = T.n := (congrArg AS.n h : S.mem.n = T.mem.n)
theorem box_mem {S T : AS} (h : S.mem = T.mem) (b : Nat) : S.box b = T.box b := by
  have : S.boxes = T.boxes := (congrArg AS.boxes h : S.mem.boxes = T.mem.boxes)
  unfold AS.box; rw [this]

def ext {α : Type} (i : Nat) (x : α) (f : Nat → α) (j : Nat) : α := if j = i then x else f j
theorem ext_eq {α : Type} {i : Nat} {x : α} {f : Nat → α} : ext i x f i = x := if_pos rfl
theorem ext_ne {α : Type} {i : Nat} {x : α} {f : Nat → α} {j : Nat} (h : j ≠ i) : ext i x f j = f j := if_neg h

/-- What is to be shown of the text's own order from operation i on. -/
def Traced (C : Cfg) (env : Env C) (ops : Array Oper) (K : AS → Option Out) (r : Out) (i len : Nat) (pr : List (Nat × Cls)) (S : AS) : Prop :=
  ∃ Tr V W c B, Tr i = S ∧ K (Tr (i + len)) = some r ∧ ∀ j, i ≤ j → j < i + len → (∃ o, ops[j]? = some o ∧ TrOK C env ops Tr V W c B j o) ∧
    (∀ p ∈ pr, clash p.2 (c j) = true → bitOf ops j p.1) ∧ ∀ j2, j < j2 → j2 < i + len → clash (c j) (c j2) = true → bitOf ops j2 j

theorem trace : ∀ (os : List Oper) (i : Nat) (pr : List (Nat × Cls)) (S : AS), ops.toList.drop i = os → opsD C env ops (rowsOf ops) os i pr S K = some r → S.dr = true → Traced C env ops K r i os.length pr S
  | [], i, pr, S, hd, h, hdr => ⟨fun _ => S, fun _ => .bot, fun _ => false, fun _ => .quiet, fun _ => .dead, rfl, h, fun j h1 h2 => absurd h2 (by simp; omega)⟩
  | o :: os, i, pr, S, hd, h, hdr => by
    have hget : ops[i]? = some o := by
      have : (ops.toList.drop i)[0]? = some o := by rw [hd]; rfl
      simpa using this
    have hrest : ops.toList.drop (i + 1) = os := by
      rw [← List.drop_drop, hd]; rfl
    -- one step more
    have more : ∀ (S1 : AS) (v : AV) (w : Bool) (ci : Cls) (Bi : Box) (pr' : List (Nat × Cls)), opsD C env ops (rowsOf ops) os (i + 1) pr' S1 K = some r → S1.n = S.n → S1.dr = true →
        (∀ d, o.dst = some d → d < S.n) →
        (match o.guard with
          | none => w = true
          | some (j, want) => ∃ d, (ops[j]?).bind (·.dst) = some d ∧ ((∃ b tg, S.get d = .dat ⟨.bool, b, tg⟩ ∧ w = (b == want)) ∨ (S.get d = .und ∧ w = false))) →
        (∀ d, S1.get d = if o.dst = some d then v else S.get d) →
        (w = false → v = .und ∧ ci = .quiet) → (w = true → ∃ T', Ev C env S o v T' ∧ ci = clsOp C S o ∧ S1.mem = T'.mem) → (ci = .quiet → S1.mem = S.mem) → (∀ b, ci = .rd b → S1.mem = S.mem) →
        (∀ b, ci = .wr b → S1.mem = (S.setBox b Bi).mem ∧ S.box b ≠ .dead) →
        (∀ p ∈ pr, clash p.2 ci = true → bitOf ops i p.1) → (∀ p ∈ pr, p ∈ pr') → (∀ c2, clash ci c2 = true → (i, ci) ∈ pr') → Traced C env ops K r i (o :: os).length pr S := by
      intro S1 v w ci Bi pr' h1 h2 h3 h4 h5 h6 h7 h8 h9 h9r h9w h10 h12 h14
      obtain ⟨Tr, V, W, c, B, t1, t2, t3⟩ := trace os (i + 1) pr' S1 hrest h1 h3
      refine ⟨ext i S Tr, ext i v V, ext i w W, ext i ci c, ext i Bi B, ext_eq, ?_, fun j j1 j2 => ?_⟩
      · rw [ext_ne (by simp), List.length_cons, show i + (os.length + 1) = i + 1 + os.length by omega]
        exact t2
      · rw [List.length_cons] at j2
        by_cases e : j = i
        · subst e
          have en : j + 1 ≠ j := by omega
          refine ⟨⟨o, hget, ?_⟩, ?_, fun j2 g1 g2 g3 => ?_⟩
          · constructor
            · rw [ext_eq]; exact h4
            · rw [ext_eq, ext_ne en, t1]; exact h2
            · rw [ext_eq]; exact hdr
            · rw [ext_eq, ext_eq]; exact h5
            · rw [ext_eq, ext_eq, ext_ne en, t1]; exact h6
            · rw [ext_eq, ext_eq, ext_eq]; exact h7
            · rw [ext_eq, ext_eq, ext_eq, ext_eq, ext_ne en, t1]; exact h8
            · rw [ext_eq, ext_eq, ext_ne en, t1]; exact h9
            · rw [ext_eq, ext_eq, ext_ne en, t1]; exact h9r
            · rw [ext_eq, ext_eq, ext_eq, ext_ne en, t1]; exact h9w
          · rw [ext_eq]; exact h10
          · rw [ext_eq, ext_ne (by omega)] at g3
            rw [List.length_cons] at g2
            obtain ⟨_, u1, _⟩ := t3 j2 (by omega) (by omega)
            exact u1 _ (h14 _ g3) g3
        · obtain ⟨⟨o', ho', tr⟩, u1, u3⟩ := t3 j (by omega) (by omega)
          refine ⟨⟨o', ho', ?_⟩, ?_, fun j2 g1 g2 g3 => ?_⟩
          · have e1 : j + 1 ≠ i := by omega
            obtain ⟨a1, a2, a3, a4, a5, a6, a7, a8, a9, a10⟩ := tr
            constructor
            · rw [ext_ne e]; exact a1
            · rw [ext_ne e, ext_ne e1]; exact a2
            · rw [ext_ne e]; exact a3
            · rw [ext_ne e, ext_ne e]; exact a4
            · rw [ext_ne e, ext_ne e, ext_ne e1]; exact a5
            · rw [ext_ne e, ext_ne e, ext_ne e]; exact a6
            · rw [ext_ne e, ext_ne e, ext_ne e, ext_ne e, ext_ne e1]; exact a7
            · rw [ext_ne e, ext_ne e, ext_ne e1]; exact a8
            · rw [ext_ne e, ext_ne e, ext_ne e1]; exact a9
            · rw [ext_ne e, ext_ne e, ext_ne e, ext_ne e1]; exact a10
          · rw [ext_ne e]; exact fun p hp hc => u1 p (h12 p hp) hc
          · rw [ext_ne e, ext_ne (by omega)] at g3
            rw [List.length_cons] at g2
            exact u3 j2 g1 (by omega) g3
    -- the operation is carried out, or is passed over
    have run : ∀ (S2 : AS) (w : Bool), S2.mem = S.mem → (∀ d, S2.get d = S.get d) → w = true →
        (match o.guard with
          | none => w = true
          | some (j, want) => ∃ d, (ops[j]?).bind (·.dst) = some d ∧ ((∃ b tg, S.get d = .dat ⟨.bool, b, tg⟩ ∧ w = (b == want)) ∨ (S.get d = .und ∧ w = false))) →
        (match clsOp C S2 o with
          | .quiet => stepC C env S2 o fun S' => opsD C env ops (rowsOf ops) os (i + 1) pr S' K
          | .rd b => bif ordered ((rowsOf ops).getD i 0) (.rd b) pr then stepC C env S2 o fun S' => opsD C env ops (rowsOf ops) os (i + 1) ((i, .rd b) :: pr) S' K else none
          | .wr b => bif ordered ((rowsOf ops).getD i 0) (.wr b) pr then stepC C env S2 o fun S' => opsD C env ops (rowsOf ops) os (i + 1) ((i, .wr b) :: pr) S' K else none
          | .all => bif ordered ((rowsOf ops).getD i 0) .all pr then stepC C env S2 o fun S' => opsD C env ops (rowsOf ops) os (i + 1) ((i, .all) :: pr) S' K else none) = some r →
        Traced C env ops K r i (o :: os).length pr S := by
      intro S2 w hm hg hw hgd hrun
      have hdr2 : S2.dr = true := (dr_mem hm).trans hdr
      have hal : Alike C S S2 o := alike_of_get fun d _ => (hg d).symm
      have hcls : clsOp C S o = clsOp C S2 o := cls_alike hal
      -- what a carried out operation gives
      have step : ∀ (pr' : List (Nat × Cls)), (stepC C env S2 o fun S' => opsD C env ops (rowsOf ops) os (i + 1) pr' S' K) = some r →
          ∃ S1 v T', opsD C env ops (rowsOf ops) os (i + 1) pr' S1 K = some r ∧ S1.n = S.n ∧ S1.dr = true ∧ (∀ d, o.dst = some d → d < S.n) ∧
            (∀ d, S1.get d = if o.dst = some d then v else S.get d) ∧ Ev C env S o v T' ∧ S1.mem = T'.mem := by
        intro pr' hs
        obtain ⟨v, T, e1, e2⟩ := Ev.of hs
        obtain ⟨k1, k2, k3⟩ := e1.keeps
        obtain ⟨S1, p1, p2, p3, p4⟩ := putC_of e2
        have hEv := e1.alike2 hm.symm hal
        refine ⟨S1, v, _, p1, ?_, ?_, ?_, ?_, hEv, ?_⟩
        · rw [n_mem p2, k1, n_mem hm]
        · rw [dr_mem p2, k3, hdr2]
        · intro d e; have := p4 d e; rw [k1, n_mem hm] at this; exact this
        · intro d
          rw [p3]
          split
          · rfl
          · rw [← hg d]; unfold AS.get; rw [k2]
        · rw [p2]; rfl
      have noneed : ∀ {α : Prop} (c : Cls), w = false → α := fun _ e => by rw [hw] at e; cases e
      split at hrun
      · rename_i hc
        obtain ⟨S1, v, T', q1, q2, q3, q4, q5, q6, q7⟩ := step _ hrun
        have hc' : clsOp C S o = .quiet := hcls.trans hc
        refine more S1 v w .quiet .dead pr q1 q2 q3 q4 hgd q5 (noneed .quiet) (fun _ => ⟨T', q6, hc'.symm, q7⟩) (fun _ => ?_) (fun b e => by cases e) (fun b e => by cases e) (fun p _ hcl => ?_) (fun _ h => h) (fun c2 e => by cases e)
        · rw [q7, q6.quiet hc' hdr]
        · obtain ⟨p1, p2⟩ := p
          cases p2 <;> cases hcl
      · rename_i b hc
        cases hb : ordered ((rowsOf ops).getD i 0) (.rd b) pr <;> rw [hb] at hrun <;> simp only [cond_true, cond_false] at hrun
        · cases hrun
        · obtain ⟨S1, v, T', q1, q2, q3, q4, q5, q6, q7⟩ := step _ hrun
          have hc' : clsOp C S o = .rd b := hcls.trans hc
          refine more S1 v w (.rd b) .dead _ q1 q2 q3 q4 hgd q5 (noneed .quiet) (fun _ => ⟨T', q6, hc'.symm, q7⟩) (fun e => by cases e) (fun b' e => ?_) (fun b e => by cases e) (ordered_spec hb) (fun _ h => List.mem_cons_of_mem _ h) (fun _ _ => List.mem_cons_self ..)
          rw [q7, q6.reads hc']
      · rename_i b hc
        cases hb : ordered ((rowsOf ops).getD i 0) (.wr b) pr <;> rw [hb] at hrun <;> simp only [cond_true, cond_false] at hrun
        · cases hrun
        · obtain ⟨S1, v, T', q1, q2, q3, q4, q5, q6, q7⟩ := step _ hrun
          have hc' : clsOp C S o = .wr b := hcls.trans hc
          obtain ⟨B, w1, w2, w3⟩ := q6.writes hc'
          refine more S1 v w (.wr b) B _ q1 q2 q3 q4 hgd q5 (noneed .quiet) (fun _ => ⟨T', q6, hc'.symm, q7⟩) (fun e => by cases e) (fun b' e => by cases e) (fun b' e => ?_) (ordered_spec hb) (fun _ h => List.mem_cons_of_mem _ h) (fun _ _ => List.mem_cons_self ..)
          injection e with e; subst e
          exact ⟨by rw [q7, w2], w3⟩
      · rename_i hc
        cases hb : ordered ((rowsOf ops).getD i 0) .all pr <;> rw [hb] at hrun <;> simp only [cond_true, cond_false] at hrun
        · cases hrun
        · obtain ⟨S1, v, T', q1, q2, q3, q4, q5, q6, q7⟩ := step _ hrun
          have hc' : clsOp C S o = .all := hcls.trans hc
          exact more S1 v w .all .dead _ q1 q2 q3 q4 hgd q5 (noneed .quiet) (fun _ => ⟨T', q6, hc'.symm, q7⟩) (fun e => by cases e) (fun b' e => by cases e) (fun b' e => by cases e) (ordered_spec hb) (fun _ h => List.mem_cons_of_mem _ h) (fun _ _ => List.mem_cons_self ..)
    have skip : ∀ (S2 : AS) (w : Bool), S2.mem = S.mem → (∀ d, S2.get d = S.get d) → w = false →
        (match o.guard with
          | none => w = true
          | some (j, want) => ∃ d, (ops[j]?).bind (·.dst) = some d ∧ ((∃ b tg, S.get d = .dat ⟨.bool, b, tg⟩ ∧ w = (b == want)) ∨ (S.get d = .und ∧ w = false))) →
        (putC S2 o.dst .und fun S' => opsD C env ops (rowsOf ops) os (i + 1) pr S' K) = some r → Traced C env ops K r i (o :: os).length pr S := by
      intro S2 w hm hg hw hgd hrun
      obtain ⟨S1, p1, p2, p3, p4⟩ := putC_of hrun
      refine more S1 .und w .quiet .dead pr p1 ?_ ?_ ?_ hgd ?_ (fun _ => ⟨rfl, rfl⟩) (fun e => by rw [hw] at e; cases e) (fun _ => p2.trans hm) (fun b e => by cases e) (fun b e => by cases e) (fun p _ hcl => ?_) (fun _ h => h) (fun c2 e => by cases e)
      · rw [n_mem p2, n_mem hm]
      · rw [dr_mem p2, dr_mem hm]; exact hdr
      · intro d e; have := p4 d e; rw [n_mem hm] at this; exact this
      · intro d; rw [p3, hg]
      · obtain ⟨p1, p2⟩ := p
        cases p2 <;> cases hcl
    unfold opsD at h
    dsimp only at h
    split at h
    · rename_i hgd
      exact run S true rfl (fun _ => rfl) rfl (by rw [hgd]) h
    · rename_i j want hgd
      split at h
      · rename_i d hdst
        split at h
        · rename_i b tg hb
          have hb := boolOf_some hb
          have same : ∀ b', b' = b → (S.put d (.dat ⟨.bool, b', tg⟩)).mem = S.mem ∧ ∀ d', (S.put d (.dat ⟨.bool, b', tg⟩)).get d' = S.get d' := by
            rintro b' rfl
            refine ⟨rfl, fun d' => ?_⟩
            rw [get_put]
            split
            · rename_i e; subst e; exact hb.symm
            · rfl
          have gd : ∀ w : Bool, w = (b == want) → (match o.guard with
              | none => w = true
              | some (j, want) => ∃ d, (ops[j]?).bind (·.dst) = some d ∧ ((∃ b tg, S.get d = .dat ⟨.bool, b, tg⟩ ∧ w = (b == want)) ∨ (S.get d = .und ∧ w = false))) := by
            intro w hw
            rw [hgd]
            exact ⟨d, hdst, .inl ⟨b, tg, hb, hw⟩⟩
          cases b <;> cases want <;> simp only [cond_true, cond_false] at h
          · exact run _ true (same false rfl).1 (same false rfl).2 rfl (gd _ rfl) h
          · exact skip _ false (same false rfl).1 (same false rfl).2 rfl (gd _ rfl) h
          · exact skip _ false (same true rfl).1 (same true rfl).2 rfl (gd _ rfl) h
          · exact run _ true (same true rfl).1 (same true rfl).2 rfl (gd _ rfl) h
        · cases hu : isUnd (S.get d) <;> rw [hu] at h <;> simp only [cond_true, cond_false] at h
          · cases h
          · exact skip S false rfl (fun _ => rfl) rfl (by rw [hgd]; exact ⟨d, hdst, .inr ⟨isUnd_eq hu, rfl⟩⟩) h
      · cases h

end
end Go.Proofs.YtmgeeanbecmkbaaGreatDoor.Den
