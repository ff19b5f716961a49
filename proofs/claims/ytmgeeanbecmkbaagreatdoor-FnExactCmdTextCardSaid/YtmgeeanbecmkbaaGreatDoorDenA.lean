/- DenA: an evaluator of the program's own code over plain data: ints, bools, strings as lists of bytes, structs as nested pairs, slices as lists. Definitions alone. -/
import Derived.WalkKit
import Derived.KernelRfl
namespace Go.Proofs.YtmgeeanbecmkbaaGreatDoor.Den
open Go

/-- The kinds of data. -/
inductive Ty where
  | int (k : IntKind) | bool | str | err | ptr | unit | pair (a b : Ty) | slice (e : TypeId) (t : Ty)
  deriving DecidableEq

/-- A datum of a kind. 'err', 'ptr': true says nil. -/
abbrev Ty.D : Ty → Type
  | .int _ => Int | .bool => Bool | .str => List UInt8 | .err => Bool | .ptr => Bool | .unit => Unit | .pair a b => a.D × b.D | .slice _ t => List t.D

/-- Cells. -/
def Ty.size : Ty → Nat
  | .int _ | .bool | .str | .err | .ptr | .slice _ _ => 1 | .unit => 0 | .pair a b => a.size + b.size

def Ty.isSt : Ty → Bool
  | .unit | .pair _ _ => true | _ => false

def Ty.zero : (t : Ty) → t.D
  | .int _ => (0 : Int) | .bool => false | .str => [] | .err => true | .ptr => true | .unit => () | .pair a b => (a.zero, b.zero) | .slice _ _ => []

/-- What a slice may do: 'ro': be read; 'nil': it is nil; 'own k v': it is the tip of the call's own array k, if v is that array's turn. -/
inductive Tag where
  | ro | nil | own (k v : Nat)

structure Dat where
  t : Ty
  x : t.D
  tag : Tag

def Tag.zeroOf : Ty → Tag
  | .slice _ _ => .nil | _ => .ro

def Dat.ro (t : Ty) (x : t.D) : Dat := ⟨t, x, .ro⟩

/-- A struct's fields. -/
def unpack : (t : Ty) → t.D → List Dat
  | .pair a b, x => ⟨a, x.1, .ro⟩ :: unpack b x.2
  | _, _ => []

def zeros : Ty → List Dat
  | .pair a b => ⟨a, a.zero, Tag.zeroOf a⟩ :: zeros b
  | _ => []

def castD (d : Dat) (t : Ty) : Option t.D := if h : d.t = t then some (h ▸ d.x) else none

def pack : (t : Ty) → List Dat → Option t.D
  | .pair a b, d :: r => match castD d a, pack b r with
    | some x, some y => some (x, y)
    | _, _ => none
  | .unit, [] => some ()
  | _, _ => none

/-- What a temporary holds. -/
inductive AV where
  | bot
  | und
  | dat (d : Dat)
  | sv (fs : List Dat)
  | tup (l : List Dat)
  | cell (t : Ty) (x : t.D)
  | loc (b : Nat) (path : List Nat) (t : Ty)
  | marr (b : Nat)
  | eadr (b : Nat) (i : Nat) (path : List Nat) (t : Ty)
  | fn (f : FuncId)

/-- Memory of the call's own: a variable (of a struct's or of another type), an array that is written by index. -/
inductive Box where
  | fld (T : TypeId) (fs : List Dat)
  | leaf (T : TypeId) (d : Dat)
  | arr (e : TypeId) (t : Ty) (xs : List t.D)
  | dead

structure AS where
  n : Nat
  vals : List (Nat × AV)
  boxes : List (Nat × Box)
  nb : Nat
  vers : List (Nat × Nat)
  nid : Nat
  dr : Bool

def look {α : Type} (l : List (Nat × α)) (d : Nat) : Option α :=
  match l with
  | [] => none
  | (k, v) :: r => bif Nat.beq k d then some v else look r d

def AS.get (S : AS) (d : Nat) : AV := (look S.vals d).getD .bot
def AS.box (S : AS) (b : Nat) : Box := (look S.boxes b).getD .dead
def AS.ver (S : AS) (k : Nat) : Nat := (look S.vers k).getD 0
def AS.put (S : AS) (d : Nat) (v : AV) : AS := { S with vals := (d, v) :: S.vals }
def updL (b : Nat) (x : Box) : List (Nat × Box) → List (Nat × Box)
  | [] => [(b, x)]
  | (k, y) :: r => bif Nat.beq k b then (b, x) :: r else (k, y) :: updL b x r

def AS.setBox (S : AS) (b : Nat) (x : Box) : AS := { S with boxes := updL b x S.boxes }
def AS.newBox (S : AS) (x : Box) : AS := { S with boxes := (S.nb, x) :: S.boxes, nb := S.nb + 1 }

/-- 'kill': what the variable's slices may grow into is given up, and nothing of it comes back. A parameter: 'io': it points to a variable of the struct type T (kind t), which comes back with the results; 'ow': which of its fields are slices that the callee may append to. -/
structure Par where
  io : Bool
  T : TypeId
  t : Ty
  ow : List Bool
  kill : Bool

structure Sig where
  ps : List Par
  rs : List Ty

def pairs : List Ty → Ty
  | [] => .unit
  | t :: r => .pair t (pairs r)

def iosOf : List Par → List Ty
  | [] => []
  | p :: r => bif p.io && !p.kill then p.t :: iosOf r else iosOf r

def Sig.ios (s : Sig) : List Ty := iosOf s.ps
def Sig.out (s : Sig) : Ty := pairs (s.rs ++ s.ios)

/-- An argument as it is handed over: a datum, or a variable's content (it comes back with the results). -/
inductive Arg where
  | val (t : Ty) (x : t.D)
  | io (t : Ty) (x : t.D)
  | fn (f : FuncId)

structure Cfg where
  G : List (Nat × (Obj → Prop))
  ty : TypeId → Option Ty
  sig : FuncId → Sig
  hint : FuncId → List (Nat × List Nat)
  has : FuncId → Bool

abbrev Env (C : Cfg) := (f : FuncId) → List Arg → Option (C.sig f).out.D

/-- Lists of at most so many elements are made. -/
def cap : Nat := 2147483648
def scap : Nat := 4611686018427387904

section
variable (C : Cfg)

def constAV (t : TypeId) : Value → AV
  | .int k n => .dat ⟨.int k, n, .ro⟩
  | .bool b => .dat ⟨.bool, b, .ro⟩
  | .string s => .dat ⟨.str, s.data.toList, .ro⟩
  | .slice none 0 0 => match C.ty t with
    | some (.slice e u) => .dat ⟨.slice e u, [], .nil⟩
    | _ => .bot
  | .nilIface => .dat ⟨.err, true, .ro⟩
  | _ => .bot

def opv (S : AS) (t : TypeId) : Operand → AV
  | .tmp d => S.get d
  | .const v => constAV C t v
  | .func f => .fn f
  | .global _ => .bot
end

/-- The datum of a value of a kind. -/
def toD (v : AV) (t : Ty) : Option t.D :=
  match v with
  | .dat d => castD d t
  | .sv fs => pack t fs
  | _ => none

/-- A struct's fields, as a variable of it holds them. -/
def toFs (t : Ty) : AV → Option (List Dat)
  | .dat d => match castD d t with
    | some x => some (unpack t x)
    | none => none
  | .sv fs => match pack t fs with
    | some _ => some fs
    | none => none
  | _ => none

def fieldTy : Ty → Nat → Option Ty
  | .pair a _, 0 => some a
  | .pair _ b, k + 1 => fieldTy b k
  | _, _ => none

def fieldD : (t : Ty) → t.D → Nat → Option Dat
  | .pair a _, x, 0 => some ⟨a, x.1, .ro⟩
  | .pair _ b, x, k + 1 => fieldD b x.2 k
  | _, _, _ => none

def subD : (d : Dat) → List Nat → Option Dat
  | d, [] => some d
  | d, j :: r => match fieldD d.t d.x j with
    | some d' => subD d' r
    | none => none

def setField : (t : Ty) → t.D → Nat → Dat → Option t.D
  | .pair a _, x, 0, d => match castD d a with
    | some y => some (y, x.2)
    | none => none
  | .pair _ b, x, k + 1, d => match setField b x.2 k d with
    | some y => some (x.1, y)
    | none => none
  | _, _, _, _ => none

def setSub : (d : Dat) → List Nat → Dat → Option Dat
  | d, [], v => match castD v d.t with
    | some x => some ⟨d.t, x, v.tag⟩
    | none => none
  | d, j :: r, v => match fieldD d.t d.x j with
    | some d' => match setSub d' r v with
      | some d2 => match setField d.t d.x j d2 with
        | some x => some ⟨d.t, x, .ro⟩
        | none => none
      | none => none
    | none => none

/-- A pointer at a struct's head is nil where the struct is handed on. -/
def okHead : List Dat → Bool
  | ⟨.ptr, x, _⟩ :: _ => x
  | _ => true

def okW (fs : List Dat) (j : Nat) : Bool := match fs, j with
  | ⟨.ptr, _, _⟩ :: _, 0 => false
  | _, _ => true

def nth : List Dat → Nat → Option Dat
  | [], _ => none
  | d :: _, 0 => some d
  | _ :: r, j + 1 => nth r j

def setNth : List Dat → Nat → Dat → List Dat
  | [], _, _ => []
  | _ :: r, 0, v => v :: r
  | d :: r, j + 1, v => d :: setNth r j v

def eqD : (t : Ty) → t.D → t.D → Option Bool
  | .int _, x, y => some (x == y)
  | .bool, x, y => some (x == y)
  | .str, x, y => some (x == y)
  | .unit, _, _ => some true
  | .pair a b, x, y => match eqD a x.1 y.1, eqD b x.2 y.2 with
    | some p, some q => some (p && q)
    | _, _ => none
  | _, _, _ => none

end Go.Proofs.YtmgeeanbecmkbaaGreatDoor.Den
