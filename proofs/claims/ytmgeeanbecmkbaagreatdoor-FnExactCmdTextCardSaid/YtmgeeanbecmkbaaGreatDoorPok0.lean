/- Pok0: what it takes that a function of the library is as it is said to be. -/
import Derived.Test.YtmgeeanbecmkbaaGreatDoorDenH
import Derived.Lib.AppendIntMem
import Derived.Lib.LaidTab
namespace Go.Proofs.YtmgeeanbecmkbaaGreatDoor.Den
open Go Go.RowKit Go.Proofs
set_option linter.unusedVariables false

/-- CallOK, of a function whose parameters and results are these. -/
def CallOKs (P : Program) (C : Cfg) (s : Sig) (f : FuncId) (as : List Arg) (r : s.out.D) : Prop :=
  ∀ (R : Nat → Nat → Prop) (w : World) (vs : List Value) (io : Option (Nat × Hds)), ArgsRep C R w s.ps as vs io → (resBlocks io).Nodup → (∀ g o, R g o → g < w.heap.size) → Glob C.G w (resBlocks io) →
    Calls P f vs.toArray w fun e w' => ∃ R' v res', e = .returned v ∧ After R w (resBlocks io) R' w' res' ∧
      ResRep R' w' (resDats s.rs s.ios r) v ∧ IoBack C w R' w' s.ps io s.ios (restD s.rs s.ios r) res'
theorem callOKs_ok {P : Program} {C : Cfg} {f : FuncId} {as : List Arg} {r : (C.sig f).out.D} (h : CallOKs P C (C.sig f) f as r) : CallOK P C f as r := h

variable {P : Program} {C : Cfg} {R : Nat → Nat → Prop} {w w' : World}

theorem after_below (hR : ∀ g o, R g o → g < w.heap.size) (h : Below w.heap.size w w') : After R w [] R w' [] where
  kp := ⟨fun _ _ h => h, fun g o r => World.cell?_of_block (h.block g (hR g o r))⟩
  new := fun g o r => .inl r
  lt := fun g o r => Nat.lt_of_lt_of_le (hR g o r) h.size
  os := h.os
  tape := h.tape
  output := h.output
  size := h.size
  block := fun g hg _ => h.block g hg
  nd := List.nodup_nil
  res := fun g hg => by cases hg

/-- A function that writes into nothing that it was handed. -/
theorem okPure {s : Sig} {f : FuncId} {as : List Arg} {r : s.out.D} (hio : s.ios = []) (hn : ∀ R w vs io, ArgsRep C R w s.ps as vs io → io = none)
    (h : ∀ R w vs, ArgsRep C R w s.ps as vs none → Glob C.G w [] → (∀ g o, R g o → g < w.heap.size) → Calls P f vs.toArray w fun e w' => ∃ v, e = .returned v ∧ Below w.heap.size w w' ∧ ResRep R w' (resDats s.rs s.ios r) v) : CallOKs P C s f as r := by
  intro R w vs io ha _ hlt hg
  have e := hn R w vs io ha
  subst e
  refine (h R w vs ha hg hlt).mono ?_
  rintro e w' ⟨v, rfl, hb, hr⟩
  refine ⟨R, v, [], rfl, after_below hlt hb, hr, ?_⟩
  generalize restD s.rs s.ios r = x
  revert x
  rw [hio]
  intro x
  exact ⟨rfl, fun g hs e => by cases e⟩

theorem str_val {s : List UInt8} {v : Value} (h : ∃ cs, Reads R w .str s cs ∧ toVal .str cs v) : v = .string ⟨s.toArray⟩ := by
  obtain ⟨cs, h1, h2⟩ := h
  have h1 : cs = [.string ⟨s.toArray⟩] := h1
  have h2 : cs = [v] := h2
  rw [h1] at h2
  injection h2 with h2 _
  exact h2.symm
theorem int_val {k : IntKind} {n : Int} {v : Value} (h : ∃ cs, Reads R w (.int k) n cs ∧ toVal (.int k) cs v) : v = .int k n := by
  obtain ⟨cs, h1, h2⟩ := h
  have h1 : cs = [.int k n] := h1
  have h2 : cs = [v] := h2
  rw [h1] at h2
  injection h2 with h2 _
  exact h2.symm
theorem res_str (s : List UInt8) : ∃ cs, Reads R w .str s cs ∧ toVal .str cs (.string ⟨s.toArray⟩) := ⟨[.string ⟨s.toArray⟩], rfl, rfl⟩
theorem res_bool (b : Bool) : ∃ cs, Reads R w .bool b cs ∧ toVal .bool cs (.bool b) := ⟨[.bool b], rfl, rfl⟩
theorem res_int (k : IntKind) (n : Int) : ∃ cs, Reads R w (.int k) n cs ∧ toVal (.int k) cs (.int k n) := ⟨[.int k n], rfl, rfl⟩
theorem res_nil : ∃ cs, Reads R w .err true cs ∧ toVal .err cs .nilIface := ⟨[.nilIface], rfl, rfl⟩
theorem res_err (u : TypeId) (x : Value) : ∃ cs, Reads R w .err false cs ∧ toVal .err cs (.iface u x) := ⟨[.iface u x], ⟨u, x, rfl⟩, rfl⟩

/-- Two texts, handed over. -/
theorem args_ss {p q : Par} {a b : List UInt8} {vs : List Value} {io : Option (Nat × Hds)} (h : ArgsRep C R w [p, q] [.val .str a, .val .str b] vs io) : vs = [.string ⟨a.toArray⟩, .string ⟨b.toArray⟩] ∧ io = none := by
  match vs, h with
  | [v1, v2], ⟨_, h1, _, h2, h3⟩ => exact ⟨by rw [str_val h1, str_val h2], h3⟩
  | [], h => exact h.elim
  | [_], ⟨_, _, h⟩ => exact h.elim
  | _ :: _ :: _ :: _, ⟨_, _, _, _, h⟩ => exact h.elim
theorem args_sss {p q q2 : Par} {a b c : List UInt8} {vs : List Value} {io : Option (Nat × Hds)} (h : ArgsRep C R w [p, q, q2] [.val .str a, .val .str b, .val .str c] vs io) : vs = [.string ⟨a.toArray⟩, .string ⟨b.toArray⟩, .string ⟨c.toArray⟩] ∧ io = none := by
  match vs, h with
  | [v1, v2, v3], ⟨_, h1, _, h2, _, h4, h3⟩ => exact ⟨by rw [str_val h1, str_val h2, str_val h4], h3⟩
  | [], h => exact h.elim
  | [_], ⟨_, _, h⟩ => exact h.elim
  | [_, _], ⟨_, _, _, _, h⟩ => exact h.elim
  | _ :: _ :: _ :: _ :: _, ⟨_, _, _, _, _, _, h⟩ => exact h.elim
theorem args_ii {p q : Par} {k : IntKind} {a b : Int} {vs : List Value} {io : Option (Nat × Hds)} (h : ArgsRep C R w [p, q] [.val (.int k) a, .val (.int k) b] vs io) : vs = [.int k a, .int k b] ∧ io = none := by
  match vs, h with
  | [v1, v2], ⟨_, h1, _, h2, h3⟩ => exact ⟨by rw [int_val h1, int_val h2], h3⟩
  | [], h => exact h.elim
  | [_], ⟨_, _, h⟩ => exact h.elim
  | _ :: _ :: _ :: _, ⟨_, _, _, _, h⟩ => exact h.elim
theorem args_sii {p q q2 : Par} {k : IntKind} {a : List UInt8} {b c : Int} {vs : List Value} {io : Option (Nat × Hds)} (h : ArgsRep C R w [p, q, q2] [.val .str a, .val (.int k) b, .val (.int k) c] vs io) : vs = [.string ⟨a.toArray⟩, .int k b, .int k c] ∧ io = none := by
  match vs, h with
  | [v1, v2, v3], ⟨_, h1, _, h2, _, h4, h3⟩ => exact ⟨by rw [str_val h1, int_val h2, int_val h4], h3⟩
  | [], h => exact h.elim
  | [_], ⟨_, _, h⟩ => exact h.elim
  | [_, _], ⟨_, _, _, _, h⟩ => exact h.elim
  | _ :: _ :: _ :: _ :: _, ⟨_, _, _, _, _, _, h⟩ => exact h.elim
theorem size_of (a : List UInt8) : (⟨a.toArray⟩ : ByteArray).size = a.length := by simp [ByteArray.size]
theorem glob_at {G : List (Nat × (Obj → Prop))} (h : Glob G w []) {p : Nat × (Obj → Prop)} (hp : p ∈ G) : ∃ b, w.heap[p.1]? = some b ∧ p.2 b := by
  obtain ⟨b, h1, h2, _⟩ := h p hp
  exact ⟨b, h1, h2⟩
theorem below_drewN (w : World) (n : Nat) : Below w.heap.size w (w.drewN n) := ⟨rfl, rfl, rfl, Nat.le_refl _, fun _ _ => rfl⟩

end Go.Proofs.YtmgeeanbecmkbaaGreatDoor.Den
