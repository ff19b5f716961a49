/- DenR: how plain data lie in the model's memory. Definitions, and what stays when memory grows. -/
import Derived.Test.YtmgeeanbecmkbaaGreatDoorDenC
namespace Go.Proofs.YtmgeeanbecmkbaaGreatDoor.Den
open Go

/-- The cells of a datum. R: the cells that nobody writes any more. -/
def Reads (R : Nat → Nat → Prop) (w : World) : (t : Ty) → t.D → List Value → Prop
  | .int k, n, cs => cs = [.int k n]
  | .bool, b, cs => cs = [.bool b]
  | .str, s, cs => cs = [.string ⟨s.toArray⟩]
  | .err, b, cs => if b = true then cs = [.nilIface] else ∃ u v, cs = [.iface u v]
  | .ptr, b, cs => if b = true then cs = [.pointer none] else ∃ p, cs = [.pointer p]
  | .unit, _, cs => cs = []
  | .pair a b, x, cs => ∃ c1 c2, cs = c1 ++ c2 ∧ Reads R w a x.1 c1 ∧ Reads R w b x.2 c2
  | .slice _ t, xs, cs => ∃ A c, cs = [.slice A xs.length c] ∧ xs.length ≤ c ∧
      ∀ (i : Nat) (h : i < xs.length), ∃ g o c2, A = some ⟨g, o, none⟩ ∧ Reads R w t xs[i] c2 ∧
        ∀ j u, c2[j]? = some u → w.cell? ⟨g, o + (i * t.size + j), none⟩ = some u ∧ R g (o + (i * t.size + j))

theorem Reads.size {R : Nat → Nat → Prop} {w : World} : ∀ {t : Ty} {x : t.D} {cs : List Value}, Reads R w t x cs → cs.length = t.size
  | .int _, _, _, h => by rw [show _ = [_] from h]; rfl
  | .bool, _, _, h => by rw [show _ = [_] from h]; rfl
  | .str, _, _, h => by rw [show _ = [_] from h]; rfl
  | .err, b, _, h => by
    cases b
    · obtain ⟨u, v, h⟩ := (show ∃ u v, _ = [Value.iface u v] from h); rw [h]; rfl
    · rw [show _ = [_] from h]; rfl
  | .ptr, b, _, h => by
    cases b
    · obtain ⟨u, h⟩ := (show ∃ u, _ = [Value.pointer u] from h); rw [h]; rfl
    · rw [show _ = [_] from h]; rfl
  | .unit, _, _, h => by rw [show _ = [] from h]; rfl
  | .pair a b, _, _, h => by
    obtain ⟨c1, c2, rfl, h1, h2⟩ := h
    rw [List.length_append, Reads.size h1, Reads.size h2]; rfl
  | .slice _ _, _, _, h => by
    obtain ⟨A, c, rfl, _⟩ := h; rfl

theorem Reads.one {R : Nat → Nat → Prop} {w : World} : ∀ {t : Ty} {x : t.D} {cs : List Value}, Reads R w t x cs → ∀ u ∈ cs, u.oneCell' = true
  | .int _, _, _, h, u, hu => by rw [show _ = [_] from h] at hu; simp at hu; subst hu; rfl
  | .bool, _, _, h, u, hu => by rw [show _ = [_] from h] at hu; simp at hu; subst hu; rfl
  | .str, _, _, h, u, hu => by rw [show _ = [_] from h] at hu; simp at hu; subst hu; rfl
  | .err, b, _, h, u, hu => by
    cases b
    · obtain ⟨p, v, h⟩ := (show ∃ u v, _ = [Value.iface u v] from h); rw [h] at hu; simp at hu; subst hu; rfl
    · rw [show _ = [_] from h] at hu; simp at hu; subst hu; rfl
  | .ptr, b, _, h, u, hu => by
    cases b
    · obtain ⟨p, h⟩ := (show ∃ u, _ = [Value.pointer u] from h); rw [h] at hu; simp at hu; subst hu; rfl
    · rw [show _ = [_] from h] at hu; simp at hu; subst hu; rfl
  | .unit, _, _, h, u, hu => by rw [show _ = [] from h] at hu; simp at hu
  | .pair a b, _, _, h, u, hu => by
    obtain ⟨c1, c2, rfl, h1, h2⟩ := h
    rcases List.mem_append.1 hu with h | h
    · exact Reads.one h1 u h
    · exact Reads.one h2 u h
  | .slice _ _, _, _, h, u, hu => by
    obtain ⟨A, c, rfl, _⟩ := h; simp at hu; subst hu; rfl

/-- What nobody writes any more reads as it did. -/
structure Keeps (R R' : Nat → Nat → Prop) (w w' : World) : Prop where
  sub : ∀ g o, R g o → R' g o
  cell : ∀ g o, R g o → w'.cell? ⟨g, o, none⟩ = w.cell? ⟨g, o, none⟩

theorem Keeps.refl (R : Nat → Nat → Prop) (w : World) : Keeps R R w w := ⟨fun _ _ h => h, fun _ _ _ => rfl⟩
theorem Keeps.trans {R R' R'' : Nat → Nat → Prop} {w w' w'' : World} (h : Keeps R R' w w') (k : Keeps R' R'' w' w'') : Keeps R R'' w w'' :=
  ⟨fun g o r => k.sub g o (h.sub g o r), fun g o r => (k.cell g o (h.sub g o r)).trans (h.cell g o r)⟩

theorem Reads.keeps {R R' : Nat → Nat → Prop} {w w' : World} (k : Keeps R R' w w') : ∀ {t : Ty} {x : t.D} {cs : List Value}, Reads R w t x cs → Reads R' w' t x cs
  | .int _, _, _, h => h
  | .bool, _, _, h => h
  | .str, _, _, h => h
  | .err, _, _, h => h
  | .ptr, _, _, h => h
  | .unit, _, _, h => h
  | .pair a b, _, _, h => by
    obtain ⟨c1, c2, rfl, h1, h2⟩ := h
    exact ⟨c1, c2, rfl, Reads.keeps k h1, Reads.keeps k h2⟩
  | .slice _ _, _, _, h => by
    obtain ⟨A, c, rfl, hl, h⟩ := h
    refine ⟨A, c, rfl, hl, fun i hi => ?_⟩
    obtain ⟨g, o, c2, hA, hr, hc⟩ := h i hi
    refine ⟨g, o, c2, hA, Reads.keeps k hr, fun j u hu => ?_⟩
    obtain ⟨h1, h2⟩ := hc j u hu
    exact ⟨(k.cell _ _ h2).trans h1, k.sub _ _ h2⟩

/-- The value of a datum whose cells are these. -/
def toVal (t : Ty) (cs : List Value) (v : Value) : Prop := if t.isSt = true then v = .agg cs.toArray else cs = [v]

/-- How blocks and arrays of the call's own are called in memory. -/
structure Ctx where
  R : Nat → Nat → Prop
  β : Nat → Nat
  hd : Nat → Value
  inf : Nat → TypeId × Nat × Nat

def Dat.len : Dat → Nat
  | ⟨.slice _ _, xs, _⟩ => xs.length
  | _ => 0

def TagOk (X : Ctx) (S : AS) (d : Dat) (cs : List Value) : Prop :=
  match d.tag with
  | .ro => True
  | .nil => cs = [.slice none 0 0]
  | .own k v => k < S.nid ∧ v ≤ S.ver k ∧ (S.ver k = v → cs = [X.hd k] ∧ ∃ e u, d.t = .slice e u ∧ X.inf k = (e, u.size, d.len))

def DatRep (X : Ctx) (S : AS) (w : World) (d : Dat) (cs : List Value) : Prop := Reads X.R w d.t d.x cs ∧ TagOk X S d cs

/-- Fields, one behind the other. -/
def FsRep (X : Ctx) (S : AS) (w : World) : List Dat → List Value → Prop
  | [], cs => cs = []
  | d :: r, cs => ∃ c1 c2, cs = c1 ++ c2 ∧ DatRep X S w d c1 ∧ FsRep X S w r c2

def Sh (x : Box) : Option (Bool × TypeId × Ty × Nat) :=
  match x with
  | .fld T _ => some (false, T, .unit, 0)
  | .leaf T _ => some (false, T, .unit, 0)
  | .arr e t xs => some (true, e, t, xs.length)
  | .dead => none

/-- Where a path leads in a datum of a kind, in cells. -/
def offs : Ty → List Nat → Option (Ty × Nat)
  | t, [] => some (t, 0)
  | .pair a b, j :: r => match j with
    | 0 => offs a r
    | j + 1 => match offs b (j :: r) with
      | some (u, o) => some (u, a.size + o)
      | none => none
  | _, _ :: _ => none

section
variable (C : Cfg) (X : Ctx) (S : AS) (w : World)

def TupRep (R : Nat → Nat → Prop) (w : World) : List Dat → List Value → Prop
  | [], vs => vs = []
  | d :: r, vs => ∃ v vs', vs = v :: vs' ∧ (∃ cs, Reads R w d.t d.x cs ∧ toVal d.t cs v) ∧ d.tag = .ro ∧ TupRep R w r vs'

def RepV : AV → Value → Prop
  | .bot, _ => True
  | .und, c => c = undef
  | .dat d, c => ∃ cs, DatRep X S w d cs ∧ toVal d.t cs c
  | .sv fs, c => ∃ cs, FsRep X S w fs cs ∧ c = .agg cs.toArray
  | .tup l, c => ∃ vs, c = .tuple vs.toArray ∧ TupRep X.R w l vs
  | .cell t x, c => ∃ g o cs, c = .pointer (some ⟨g, o, none⟩) ∧ Reads X.R w t x cs ∧ ∀ j u, cs[j]? = some u → w.cell? ⟨g, o + j, none⟩ = some u ∧ X.R g (o + j)
  | .loc b path t, c => ∃ T t0 o, b < S.nb ∧ Sh (S.box b) = some (false, T, .unit, 0) ∧ C.ty T = some t0 ∧ offs t0 path = some (t, o) ∧ c = .pointer (some ⟨X.β b, o, none⟩)
  | .marr b, c => ∃ e t n, b < S.nb ∧ Sh (S.box b) = some (true, e, t, n) ∧ c = .slice (some ⟨X.β b, 0, none⟩) n n
  | .eadr b i path t, c => ∃ e t0 n o, b < S.nb ∧ Sh (S.box b) = some (true, e, t0, n) ∧ i < n ∧ offs t0 path = some (t, o) ∧ c = .pointer (some ⟨X.β b, i * t0.size + o, none⟩)
  | .fn f, c => c = .func (.func f) #[] #[]

def ArrRep (R : Nat → Nat → Prop) (w : World) (t : Ty) : List t.D → List Value → Prop
  | [], cs => cs = []
  | x :: r, cs => ∃ c1 c2, cs = c1 ++ c2 ∧ Reads R w t x c1 ∧ ArrRep R w t r c2

def tysOf : Ty → List Ty
  | .pair a b => a :: tysOf b
  | _ => []

/-- A pointer at a variable's head is nil, or points to the variable itself. -/
def SelfC (g : Nat) : Ty → List Value → Prop
  | .pair .ptr _, c :: _ => c = .pointer none ∨ c = .pointer (some ⟨g, 0, none⟩)
  | _, _ => True

def BoxRep (b : Nat) : Box → Prop
  | .fld T fs => ∃ t cs, C.ty T = some t ∧ t.isSt = true ∧ fs.map (·.t) = tysOf t ∧ FsRep X S w fs cs ∧ w.heap[X.β b]? = some (.cells cs.toArray T (0, 0)) ∧ (∀ o, ¬ X.R (X.β b) o) ∧ SelfC (X.β b) t cs
  | .leaf T d => ∃ cs, C.ty T = some d.t ∧ d.t.isSt = false ∧ DatRep X S w d cs ∧ w.heap[X.β b]? = some (.cells cs.toArray T (0, 0)) ∧ ∀ o, ¬ X.R (X.β b) o
  | .arr e t xs => ∃ cs, C.ty e = some t ∧ ArrRep X.R w t xs cs ∧ w.heap[X.β b]? = some (.cells cs.toArray e (0, 0)) ∧ ∀ o, ¬ X.R (X.β b) o
  | .dead => True

def IdRep (k : Nat) : Prop :=
  ∃ cells, w.ownsRow 0 (X.inf k).1 (X.inf k).2.1 (X.hd k) (X.inf k).2.2 cells ∧ ∀ h, (X.hd k).ownBlock = some h → ∀ o, X.R h o ↔ o < (X.inf k).2.2 * (X.inf k).2.1
end

/-- Where a call began, and which blocks of then it may write. -/
structure Entry (C : Cfg) where
  w0 : World
  R0 : Nat → Nat → Prop
  W : Nat → Prop
  io : Option (Nat × TypeId)
  gl : ∀ p ∈ C.G, ∃ b, w0.heap[p.1]? = some b ∧ p.2 b ∧ ¬ W p.1

structure Frame' {C : Cfg} (E : Entry C) (R : Nat → Nat → Prop) (w : World) : Prop where
  os : w.os = E.w0.os
  tape : w.tape = E.w0.tape
  output : w.output = E.w0.output
  size : E.w0.heap.size ≤ w.heap.size
  block : ∀ g, g < E.w0.heap.size → ¬ E.W g → w.heap[g]? = E.w0.heap[g]?
  sub : ∀ g o, E.R0 g o → R g o
  new : ∀ g o, R g o → E.R0 g o ∨ E.w0.heap.size ≤ g ∨ E.W g
  lt : ∀ g o, R g o → g < w.heap.size

/-- The variable whose address was handed over is number 0. -/
def EntOK {C : Cfg} (E : Entry C) (S : AS) (X : Ctx) : Prop := ∀ g T, E.io = some (g, T) → 0 < S.nb ∧ X.β 0 = g ∧ Sh (S.box 0) = some (false, T, .unit, 0)

structure Sim (C : Cfg) (E : Entry C) (S : AS) (X : Ctx) (a : Act) (w : World) : Prop where
  dfr : a.defers = []
  sz : a.tmps.size = S.n
  tm : ∀ d, RepV C X S w (S.get d) (a.tmps.getD d undef)
  bx : ∀ b, b < S.nb → BoxRep C X S w b (S.box b)
  idk : ∀ k, k < S.nid → IdRep X w k
  bd : ∀ b b', b < S.nb → b' < S.nb → S.box b ≠ .dead → S.box b' ≠ .dead → X.β b = X.β b' → b = b'
  ib : ∀ k b, k < S.nid → b < S.nb → S.box b ≠ .dead → (X.hd k).ownBlock ≠ some (X.β b)
  ii : ∀ k k' h, k < S.nid → k' < S.nid → (X.hd k).ownBlock = some h → (X.hd k').ownBlock = some h → k = k'
  wb : ∀ b, b < S.nb → S.box b ≠ .dead → E.W (X.β b) ∨ E.w0.heap.size ≤ X.β b
  wi : ∀ k h, k < S.nid → (X.hd k).ownBlock = some h → E.W h ∨ E.w0.heap.size ≤ h
  fr : Frame' E X.R w
  ent : EntOK E S X
  ck : Keeps E.R0 X.R E.w0 w

/-- What a change of state, names and memory leaves of each value. -/
structure Le (S S' : AS) (X X' : Ctx) (w w' : World) : Prop where
  kp : Keeps X.R X'.R w w'
  nb : S.nb ≤ S'.nb
  sh : ∀ b, b < S.nb → Sh (S'.box b) = Sh (S.box b) ∧ X'.β b = X.β b
  nid : S.nid ≤ S'.nid
  vr : ∀ k, k < S.nid → S.ver k ≤ S'.ver k ∧ (S.ver k = S'.ver k → X'.hd k = X.hd k ∧ X'.inf k = X.inf k)

section
variable {C : Cfg} {S S' : AS} {X X' : Ctx} {w w' : World}

theorem EntOK.le (L : Le S S' X X' w w') {E : Entry C} (h : EntOK E S X) : EntOK E S' X' := fun g T e =>
  have ⟨a, b, c⟩ := h g T e
  ⟨Nat.lt_of_lt_of_le a L.nb, (L.sh 0 a).2.trans b, (L.sh 0 a).1.trans c⟩

theorem DatRep.le (L : Le S S' X X' w w') {d : Dat} {cs : List Value} (h : DatRep X S w d cs) : DatRep X' S' w' d cs := by
  refine ⟨h.1.keeps L.kp, ?_⟩
  have ht := h.2
  unfold TagOk at *
  cases hd : d.tag with
  | ro => trivial
  | nil => rw [hd] at ht; exact ht
  | own k v =>
    rw [hd] at ht
    obtain ⟨h1, h2, h3⟩ := ht
    obtain ⟨v1, v2⟩ := L.vr k h1
    refine ⟨Nat.lt_of_lt_of_le h1 L.nid, Nat.le_trans h2 v1, fun e => ?_⟩
    have e1 : S.ver k = v := by omega
    obtain ⟨p, q⟩ := v2 (by omega)
    rw [p, q]
    exact h3 e1

theorem FsRep.le (L : Le S S' X X' w w') : ∀ {fs : List Dat} {cs : List Value}, FsRep X S w fs cs → FsRep X' S' w' fs cs
  | [], _, h => h
  | _ :: _, _, h => by
    obtain ⟨c1, c2, rfl, h1, h2⟩ := h
    exact ⟨c1, c2, rfl, h1.le L, FsRep.le L h2⟩

theorem TupRep.le (L : Le S S' X X' w w') : ∀ {l : List Dat} {vs : List Value}, TupRep X.R w l vs → TupRep X'.R w' l vs
  | [], _, h => h
  | _ :: _, _, h => by
    obtain ⟨v, vs', rfl, ⟨cs, h1, h2⟩, h3, h4⟩ := h
    exact ⟨v, vs', rfl, ⟨cs, h1.keeps L.kp, h2⟩, h3, TupRep.le L h4⟩

theorem RepV.le (L : Le S S' X X' w w') {v : AV} {c : Value} (h : RepV C X S w v c) : RepV C X' S' w' v c := by
  cases v with
  | bot => trivial
  | und => exact h
  | dat d => obtain ⟨cs, h1, h2⟩ := h; exact ⟨cs, h1.le L, h2⟩
  | sv fs => obtain ⟨cs, h1, h2⟩ := h; exact ⟨cs, h1.le L, h2⟩
  | tup l => obtain ⟨vs, h1, h2⟩ := h; exact ⟨vs, h1, h2.le L⟩
  | cell t x =>
    obtain ⟨g, o, cs, h1, h2, h3⟩ := h
    exact ⟨g, o, cs, h1, h2.keeps L.kp, fun j u hu => ⟨(L.kp.cell _ _ (h3 j u hu).2).trans (h3 j u hu).1, L.kp.sub _ _ (h3 j u hu).2⟩⟩
  | loc b p t =>
    obtain ⟨T, t0, o, h1, h2, h3, h4, h5⟩ := h
    exact ⟨T, t0, o, Nat.lt_of_lt_of_le h1 L.nb, (L.sh b h1).1.trans h2, h3, h4, by rw [(L.sh b h1).2]; exact h5⟩
  | marr b =>
    obtain ⟨e, t, n, h1, h2, h3⟩ := h
    exact ⟨e, t, n, Nat.lt_of_lt_of_le h1 L.nb, (L.sh b h1).1.trans h2, by rw [(L.sh b h1).2]; exact h3⟩
  | eadr b i p t =>
    obtain ⟨e, t0, n, o, h1, h2, h3, h4, h5⟩ := h
    exact ⟨e, t0, n, o, Nat.lt_of_lt_of_le h1 L.nb, (L.sh b h1).1.trans h2, h3, h4, by rw [(L.sh b h1).2]; exact h5⟩
  | fn f => exact h

theorem ArrRep.le (L : Le S S' X X' w w') {t : Ty} : ∀ {xs : List t.D} {cs : List Value}, ArrRep X.R w t xs cs → ArrRep X'.R w' t xs cs
  | [], _, h => h
  | _ :: _, _, h => by
    obtain ⟨c1, c2, rfl, h1, h2⟩ := h
    exact ⟨c1, c2, rfl, h1.keeps L.kp, ArrRep.le L h2⟩

end

theorem Le.refl (S : AS) (X : Ctx) (w : World) : Le S S X X w w :=
  ⟨Keeps.refl _ _, Nat.le_refl _, fun _ _ => ⟨rfl, rfl⟩, Nat.le_refl _, fun _ _ => ⟨Nat.le_refl _, fun _ => ⟨rfl, rfl⟩⟩⟩

end Go.Proofs.YtmgeeanbecmkbaaGreatDoor.Den
