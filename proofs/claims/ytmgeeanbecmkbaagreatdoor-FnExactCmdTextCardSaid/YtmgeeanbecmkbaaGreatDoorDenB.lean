/- DenB: what one operation, a region, a body comes to, over plain data. Each takes what comes next as an argument, so that a test on data parts the whole. -/
import Derived.Test.YtmgeeanbecmkbaaGreatDoorDenA
namespace Go.Proofs.YtmgeeanbecmkbaaGreatDoor.Den
open Go

section
variable (C : Cfg) {Out : Type}

def tyIs (t : TypeId) (u : Ty) : Bool := match C.ty t with
  | some v => decide (v = u)
  | none => false

/-- An element of a list by Go's index. -/
def idxC {α : Type} (xs : List α) (i : Int) (k : α → Option Out) : Option Out :=
  bif decide (0 ≤ i) then (match xs[i.toNat]? with | some e => k e | none => none) else none

def datInt : AV → Option Int
  | .dat ⟨.int _, x, _⟩ => some x
  | _ => none

/-- The two bounds of a cut, in a row of n. -/
def boundsC (n : Nat) (lo hi : Option AV) (k : Nat → Nat → Option Out) : Option Out :=
  let withHi : Int → Option Out := fun h =>
    let withLo : Int → Option Out := fun l => bif decide (0 ≤ l) && decide (l ≤ h) && decide (h ≤ (n : Int)) then k l.toNat h.toNat else none
    match lo with
    | none => withLo 0
    | some v => match datInt v with
      | some l => withLo l
      | none => none
  match hi with
  | none => withHi (n : Int)
  | some v => match datInt v with
    | some h => withHi h
    | none => none

def intC (op : BinOp) (q : IntKind) (a b : Int) (k : AV → Option Out) : Option Out :=
  match op with
  | .add => k (.dat ⟨.int q, q.wrap (a + b), .ro⟩)
  | .sub => k (.dat ⟨.int q, q.wrap (a - b), .ro⟩)
  | .mul => k (.dat ⟨.int q, q.wrap (a * b), .ro⟩)
  | .quo => bif b == 0 then none else k (.dat ⟨.int q, q.wrap (a.tdiv b), .ro⟩)
  | .rem => bif b == 0 then none else k (.dat ⟨.int q, a.tmod b, .ro⟩)
  | .eql => k (.dat ⟨.bool, a == b, .ro⟩)
  | .neq => k (.dat ⟨.bool, a != b, .ro⟩)
  | .lss => k (.dat ⟨.bool, decide (a < b), .ro⟩)
  | .leq => k (.dat ⟨.bool, decide (a ≤ b), .ro⟩)
  | .gtr => k (.dat ⟨.bool, decide (a > b), .ro⟩)
  | .geq => k (.dat ⟨.bool, decide (a ≥ b), .ro⟩)
  | _ => none

def strC (op : BinOp) (a b : List UInt8) (k : AV → Option Out) : Option Out :=
  match op with
  | .add => bif decide (a.length + b.length ≤ scap) then k (.dat ⟨.str, a ++ b, .ro⟩) else none
  | .eql => k (.dat ⟨.bool, a == b, .ro⟩)
  | .neq => k (.dat ⟨.bool, !(a == b), .ro⟩)
  | .lss => k (.dat ⟨.bool, Op.bytesLess a b, .ro⟩)
  | .leq => k (.dat ⟨.bool, Op.bytesLess a b || a == b, .ro⟩)
  | .gtr => k (.dat ⟨.bool, !(Op.bytesLess a b || a == b), .ro⟩)
  | .geq => k (.dat ⟨.bool, !(Op.bytesLess a b), .ro⟩)
  | _ => none

def isK : Operand → Bool
  | .const _ => true
  | _ => false

def binC (op : BinOp) (t : TypeId) (kc : Bool) (va vb : AV) (k : AV → Option Out) : Option Out :=
  match va, vb with
  | .dat ⟨.int q, a, _⟩, .dat ⟨.int q', b, _⟩ => bif decide (q = q') then intC op q a b k else none
  | .dat ⟨.str, a, _⟩, .dat ⟨.str, b, _⟩ => strC op a b k
  | .dat ⟨.bool, a, _⟩, .dat ⟨.bool, b, _⟩ => match C.ty t, op with
    | some .bool, .eql => k (.dat ⟨.bool, a == b, .ro⟩)
    | some .bool, .neq => k (.dat ⟨.bool, !(a == b), .ro⟩)
    | _, _ => none
  | .dat ⟨.err, a, _⟩, .dat ⟨.err, b, _⟩ => match C.ty t, op with
    | some .err, .eql => bif b && kc then k (.dat ⟨.bool, a, .ro⟩) else none
    | some .err, .neq => bif b && kc then k (.dat ⟨.bool, !a, .ro⟩) else none
    | _, _ => none
  | va, vb => match C.ty t with
    | some (.pair x y) => match toD va (.pair x y), toD vb (.pair x y) with
      | some a, some b => match eqD (.pair x y) a b, op with
        | some r, .eql => k (.dat ⟨.bool, r, .ro⟩)
        | some r, .neq => k (.dat ⟨.bool, !r, .ro⟩)
        | _, _ => none
      | _, _ => none
    | _ => none

def pickC (x : Bool) (va vb : AV) (k : AV → Option Out) : Option Out :=
  match va, vb with
  | .dat ⟨.bool, p, _⟩, .dat ⟨.bool, q, _⟩ => k (.dat ⟨.bool, bif x then p else q, .ro⟩)
  | va, vb => bif x then k va else k vb

def asDat (t : Ty) : AV → Option Dat
  | .dat e => match castD e t with
    | some y => some ⟨t, y, e.tag⟩
    | none => none
  | .sv gs => match pack t gs with
    | some y => some ⟨t, y, .ro⟩
    | none => none
  | _ => none

/-- A struct out of its parts; the other fields are as they were. -/
def buildFs : List Dat → List (Nat × AV) → Option (List Dat)
  | fs, [] => some fs
  | fs, (j, v) :: r => match nth fs j with
    | none => none
    | some z => match asDat z.t v with
      | none => none
      | some d => buildFs (setNth fs j d) r

def elems (t : Ty) : List AV → Option (List t.D)
  | [] => some []
  | v :: r => match toD v t, elems t r with
    | some x, some xs => some (x :: xs)
    | _, _ => none

/-- A variable's content, where a path leads. -/
def readBox (x : Box) (path : List Nat) : Option AV :=
  match x, path with
  | .fld _ fs, [] => some (.sv fs)
  | .fld _ fs, j :: r => match nth fs j with
    | some d => match subD d r with
      | some d' => some (.dat d')
      | none => none
    | none => none
  | .leaf _ d, [] => some (.dat d)
  | _, _ => none

def writeBox (C : Cfg) (x : Box) (path : List Nat) (v : AV) : Option Box :=
  match x, path with
  | .fld T _, [] => match C.ty T with
    | some t => match toFs t v with
      | some fs => bif okHead fs then some (.fld T fs) else none
      | none => none
    | none => none
  | .fld T fs, j :: r => bif okW fs j then (match nth fs j with
    | some d => match subD d r with
      | some d' => match asDat d'.t v with
        | some e => match setSub d r e with
          | some d2 => some (.fld T (setNth fs j d2))
          | none => none
        | none => none
      | none => none
    | none => none) else none
  | .leaf T d, [] => match asDat d.t v with
    | some e => some (.leaf T e)
    | none => none
  | _, _ => none

def readArr (x : Box) (i : Nat) (path : List Nat) (k : AV → Option Out) : Option Out :=
  match x with
  | .arr _ t xs => match xs[i]? with
    | some e => match subD ⟨t, e, .ro⟩ path with
      | some d => k (.dat d)
      | none => none
    | none => none
  | _ => none

def writeArr (x : Box) (i : Nat) (path : List Nat) (v : AV) (k : Box → Option Out) : Option Out :=
  match x with
  | .arr e t xs => match path with
    | [] => match toD v t with
      | some y => k (.arr e t (xs.set i y))
      | none => none
    | path => match xs[i]?, v with
      | some z, .dat d => match setSub ⟨t, z, .ro⟩ path d with
        | some d2 => match castD d2 t with
          | some y => k (.arr e t (xs.set i y))
          | none => none
        | none => none
      | _, _ => none
  | _ => none

/-- Is the slice nil, or the tip of an array of the call's own? -/
def tip (S : AS) : Tag → Bool
  | .ro => false
  | .nil => true
  | .own k v => Nat.blt k S.nid && Nat.beq (S.ver k) v

def hdB : List Bool → Bool
  | [] => false
  | b :: _ => b

/-- The arrays whose tips the named fields are; none where one is no tip. -/
def tipIds (S : AS) : List Bool → List Dat → Option (List Nat)
  | _, [] => some []
  | ow, d :: r => match tipIds S ow.tail r with
    | none => none
    | some ks => bif hdB ow then
        match d.t with
        | .slice _ _ => match d.tag with
          | .ro => none
          | .nil => some ks
          | .own k v => bif tip S (.own k v) && !(ks.any (Nat.beq k)) then some (k :: ks) else none
        | _ => none
      else some ks

/-- The arguments of a call; one of them at most is a variable's address. -/
def argsC (S : AS) : List Par → List (TypeId × Operand) → Option (List Arg × Option Nat)
  | [], [] => some ([], none)
  | p :: ps, (ty, x) :: xs => match argsC S ps xs with
    | none => none
    | some (as, ob) => bif p.io then
        match opv C S ty x, ob with
        | .loc b [] _, none => match S.box b with
          | .fld T' fs => bif Nat.beq T' p.T then (match tipIds S p.ow fs, pack p.t fs with
            | some _, some y => some (.io p.t y :: as, some b)
            | _, _ => none) else none
          | _ => none
        | _, _ => none
      else match toD (opv C S ty x) p.t with
        | some y => some (.val p.t y :: as, ob)
        | none => none
  | _, _ => none

/-- Fields as they come back: each slice that may be appended to is the tip of a new array of the call's own. -/
def freshTags : List Bool → List Dat → Nat → List Dat
  | _, [], _ => []
  | ow, d :: r, k => bif hdB ow then ⟨d.t, d.x, .own k 0⟩ :: freshTags ow.tail r (k + 1) else ⟨d.t, d.x, .ro⟩ :: freshTags ow.tail r k

def countSl : List Bool → List Dat → Nat
  | _, [] => 0
  | ow, _ :: r => bif hdB ow then countSl ow.tail r + 1 else countSl ow.tail r

def freshVers : Nat → Nat → List (Nat × Nat)
  | _, 0 => []
  | k, n + 1 => (k, 0) :: freshVers (k + 1) n

/-- The arrays that were handed over are nobody's tip any more. -/
def killVers : List Bool → List Dat → List (Nat × Nat)
  | _, [] => []
  | ow, d :: r => bif hdB ow then
      match d.tag with
      | .own k v => (k, v + 1) :: killVers ow.tail r
      | _ => killVers ow.tail r
    else killVers ow.tail r

def ioPar : List Par → Option Par
  | [] => none
  | p :: r => bif p.io then some p else ioPar r

/-- The content of the variable whose address was handed over, put back. -/
def backIo (S : AS) (ps : List Par) (ob : Option Nat) : (ts : List Ty) → (pairs ts).D → Option AS
  | [], _ => match ob with
    | none => some S
    | some b => match ioPar ps with
      | some p => bif p.kill then (match S.box b with
        | .fld T fs => some { S with boxes := (b, .fld T (fs.map fun d => ⟨d.t, d.x, .ro⟩)) :: S.boxes, vers := killVers p.ow fs ++ S.vers }
        | _ => none) else none
      | none => none
  | [t], x => match ob, ioPar ps with
    | some b, some p => match S.box b with
      | .fld T fs =>
        let n := countSl p.ow (unpack t x.1)
        some { S with boxes := (b, .fld T (freshTags p.ow (unpack t x.1) S.nid)) :: S.boxes, vers := freshVers S.nid n ++ (killVers p.ow fs ++ S.vers), nid := S.nid + n }
      | _ => none
    | _, _ => none
  | _, _ => none

def resDats : (ts : List Ty) → (us : List Ty) → (pairs (ts ++ us)).D → List Dat
  | [], _, _ => []
  | t :: ts, us, x => ⟨t, x.1, .ro⟩ :: resDats ts us x.2

def restD : (ts : List Ty) → (us : List Ty) → (pairs (ts ++ us)).D → (pairs us).D
  | [], _, x => x
  | _ :: ts, us, x => restD ts us x.2

def resAV : List Dat → AV
  | [d] => .dat d
  | l => .tup l

variable (env : Env C)

def callC (S : AS) (f : FuncId) (xs : List (TypeId × Operand)) (k : AV → AS → Option Out) : Option Out :=
  match argsC C S (C.sig f).ps xs with
  | none => none
  | some (as, ob) => (env f as).bind fun r =>
    match backIo S (C.sig f).ps ob (C.sig f).ios (restD (C.sig f).rs (C.sig f).ios r) with
    | some S' => k (resAV (resDats (C.sig f).rs (C.sig f).ios r)) S'
    | none => none

def appendC (S : AS) (t : TypeId) (vs vx : AV) (k : AV → AS → Option Out) : Option Out :=
  match vs, C.ty t with
  | .dat ⟨.slice e u, xs, tg⟩, some (.slice e' u') => bif decide (e = e') && decide (u = u') then
      match toD vx (.slice e u) with
      | some ys => bif decide (xs.length + ys.length ≤ cap) then
          (match tg with
          | .nil => k (.dat ⟨.slice e u, xs ++ ys, .own S.nid 0⟩) { S with vers := (S.nid, 0) :: S.vers, nid := S.nid + 1 }
          | .own q v => bif tip S (.own q v) then k (.dat ⟨.slice e u, xs ++ ys, .own q (v + 1)⟩) { S with vers := (q, v + 1) :: S.vers } else none
          | .ro => none) else none
      | none => none
    else none
  | _, _ => none

def lenC (S : AS) : AV → (Int → Option Out) → Option Out
  | .dat ⟨.str, s, _⟩, k => k s.length
  | .dat ⟨.slice _ _, xs, _⟩, k => k xs.length
  | .marr b, k => match S.box b with
    | .arr _ _ xs => k xs.length
    | _ => none
  | _, _ => none

def foldInt (f : Int → Int → Int) (q : IntKind) : Int → List AV → Option Int
  | a, [] => some a
  | a, .dat ⟨.int q', b, _⟩ :: r => bif decide (q = q') then foldInt f q (f a b) r else none
  | _, _ => none

def mxI (a b : Int) : Int := if b > a then b else a
def mnI (a b : Int) : Int := if b < a then b else a

def builtinC (S : AS) (b : Builtin) (xs : List (TypeId × Operand)) (k : AV → AS → Option Out) : Option Out :=
  match b, xs with
  | .len, [(t, x)] => match opv C S t x with
    | .dat d => bif tyIs C t d.t then lenC S (.dat d) (fun n => k (.dat ⟨.int .i64, n, .ro⟩) S) else none
    | .marr b => match S.box b with
      | .arr e u _ => bif tyIs C t (.slice e u) then lenC S (.marr b) (fun n => k (.dat ⟨.int .i64, n, .ro⟩) S) else none
      | _ => none
    | _ => none
  | .append, [(t, x), (t', y)] => bif Nat.beq t t' then appendC C S t (opv C S t x) (opv C S t' y) k else none
  | .max, (t, x) :: r => match opv C S t x with
    | .dat ⟨.int q, a, _⟩ => match foldInt mxI q a (r.map fun p => opv C S p.1 p.2) with
      | some m => k (.dat ⟨.int q, m, .ro⟩) S
      | none => none
    | _ => none
  | .min, (t, x) :: r => match opv C S t x with
    | .dat ⟨.int q, a, _⟩ => match foldInt mnI q a (r.map fun p => opv C S p.1 p.2) with
      | some m => k (.dat ⟨.int q, m, .ro⟩) S
      | none => none
    | _ => none
  | _, _ => none

def convC (src dst : TypeId) (v : AV) (k : AV → Option Out) : Option Out :=
  match C.ty src, C.ty dst, v with
  | some (.int _), some (.int q), .dat ⟨.int _, n, _⟩ => k (.dat ⟨.int q, q.wrap n, .ro⟩)
  | some .str, some .str, .dat ⟨.str, s, tg⟩ => k (.dat ⟨.str, s, tg⟩)
  | some (.slice e (.int .u8)), some .str, .dat ⟨.slice e' (.int .u8), xs, _⟩ => bif decide (e = e') then k (.dat ⟨.str, xs.map fun n => UInt8.ofNat n.toNat, .ro⟩) else none
  | _, _, _ => none

def evalOp (S : AS) (o : Oper) (k : AV → AS → Option Out) : Option Out :=
  match o.op with
  | .move x | .assign x => k (opv C S o.type x) S
  | .pick c a b => match opv C S o.type c with
    | .dat ⟨.bool, x, _⟩ => pickC x (opv C S o.type a) (opv C S o.type b) (fun v => k v S)
    | _ => none
  | .alloc e => match C.ty e with
    | some t => bif t.isSt then k (.loc S.nb [] t) (S.newBox (.fld e (zeros t))) else k (.loc S.nb [] t) (S.newBox (.leaf e ⟨t, t.zero, Tag.zeroOf t⟩))
    | none => none
  | .box e x => match C.ty e with
    | some t => bif t.isSt then (match toFs t (opv C S e x) with
        | some fs => bif okHead fs then k (.loc S.nb [] t) (S.newBox (.fld e fs)) else none
        | none => none)
      else match opv C S e x with
        | .dat d => match castD d t with
          | some y => k (.loc S.nb [] t) (S.newBox (.leaf e ⟨t, y, d.tag⟩))
          | none => none
        | _ => none
    | none => none
  | .build t ps => match C.ty t with
    | some (.pair a b) => match buildFs (zeros (.pair a b)) (ps.toList.map fun p => (p.1, opv C S 0 p.2)) with
      | some fs => k (.sv fs) S
      | none => none
    | _ => none
  | .buildSlice t n ps => match C.ty t with
    | some (.slice e u) => bif Nat.beq ps.size n && Nat.blt n 1024 && (ps.toList.map (·.1)).zipIdx.all (fun p => Nat.beq p.1 p.2) then
        (match elems u (ps.toList.map fun p => opv C S e p.2) with
        | some xs => bif S.dr then k (.dat ⟨.slice e u, xs, .ro⟩) S else k (.dat ⟨.slice e u, xs, .own S.nid 0⟩) { S with vers := (S.nid, 0) :: S.vers, nid := S.nid + 1 }
        | none => none) else none
    | _ => none
  | .load t a => match opv C S t a with
    | .cell u x => bif tyIs C t u then k (.dat ⟨u, x, .ro⟩) S else none
    | .loc b path u => bif tyIs C t u then (match readBox (S.box b) path with
        | some v => k v S
        | none => none) else none
    | .eadr b i path u => bif tyIs C t u then readArr (S.box b) i path (fun v => k v S) else none
    | _ => none
  | .store t a x => match opv C S t a with
    | .loc b path u => bif tyIs C t u then (match writeBox C (S.box b) path (opv C S t x) with
        | some B => k .bot (S.setBox b B)
        | none => none) else none
    | .eadr b i path u => bif tyIs C t u then writeArr (S.box b) i path (opv C S t x) (fun B => k .bot (S.setBox b B)) else none
    | _ => none
  | .nilCheck x => match opv C S o.type x with
    | .cell u y => k (.cell u y) S
    | .loc b p u => k (.loc b p u) S
    | .eadr b i p u => k (.eadr b i p u) S
    | _ => none
  | .fieldAddr s x f => match opv C S o.type x with
    | .cell u y => bif tyIs C s u then (match fieldD u y f with
        | some d => k (.cell d.t d.x) S
        | none => none) else none
    | .loc b p u => bif tyIs C s u then (match fieldTy u f with
        | some w => k (.loc b (p ++ [f]) w) S
        | none => none) else none
    | .eadr b i p u => bif tyIs C s u then (match fieldTy u f with
        | some w => k (.eadr b i (p ++ [f]) w) S
        | none => none) else none
    | _ => none
  | .field s x f => match C.ty s with
    | some t => match toD (opv C S s x) t with
      | some y => match fieldD t y f with
        | some d => k (.dat d) S
        | none => none
      | none => none
    | none => none
  | .indexAddr t x ix => match C.ty t, opv C S t x, datInt (opv C S 0 ix) with
    | some (.slice e u), .dat d, some i => match castD d (.slice e u) with
      | some xs => idxC xs i (fun y => k (.cell u y) S)
      | none => none
    | some (.slice e u), .marr b, some i => match S.box b with
      | .arr e' u' xs => bif decide (e = e') && decide (u = u') && decide (0 ≤ i) && decide (i < (xs.length : Int)) then k (.eadr b i.toNat [] u) S else none
      | _ => none
    | _, _, _ => none
  | .index t x ix => match C.ty t, opv C S t x, datInt (opv C S 0 ix) with
    | some .str, .dat ⟨.str, s, _⟩, some i => idxC s i (fun c => k (.dat ⟨.int .u8, (c.toNat : Int), .ro⟩) S)
    | _, _, _ => none
  | .slice t x lo hi none => match C.ty t, opv C S t x with
    | some .str, .dat ⟨.str, s, _⟩ => boundsC s.length (lo.map (opv C S 0)) (hi.map (opv C S 0)) (fun l h => k (.dat ⟨.str, (s.take h).drop l, .ro⟩) S)
    | some (.slice e u), .dat d => match castD d (.slice e u) with
      | some xs => boundsC xs.length (lo.map (opv C S 0)) (hi.map (opv C S 0)) (fun l h => k (.dat ⟨.slice e u, (xs.take h).drop l, .ro⟩) S)
      | none => none
    | _, _ => none
  | .binOp op t x y t' => binC C op t (isK x || isK y) (opv C S t x) (opv C S t' y) (fun v => k v S)
  | .unOp op t x => match op, opv C S t x with
    | .not, .dat ⟨.bool, b, _⟩ => k (.dat ⟨.bool, !b, .ro⟩) S
    | .neg, .dat ⟨.int q, n, _⟩ => k (.dat ⟨.int q, q.wrap (0 - n), .ro⟩) S
    | _, _ => none
  | .convert src dst x => convC C src dst (opv C S src x) (fun v => k v S)
  | .extract x i => match opv C S o.type x with
    | .tup l => match nth l i with
      | some d => k (.dat d) S
      | none => none
    | _ => none
  | .makeSlice t l c => match C.ty t, datInt (opv C S 0 l), datInt (opv C S 0 c) with
    | some (.slice e u), some n, some m => bif decide (0 ≤ n) && decide (n ≤ (cap : Int)) && decide (n = m) then
        k (.marr S.nb) (S.newBox (.arr e u (List.replicate n.toNat u.zero))) else none
    | _, _, _ => none
  | .call c => bif Nat.beq c.argTypes.size c.args.size then match c.callee with
    | .builtin b => builtinC C S b (c.argTypes.toList.zip c.args.toList) k
    | .value (.func f) => bif C.has f then callC C env S f (c.argTypes.toList.zip c.args.toList) k else none
    | _ => none
    else none
  | _ => none

end
end Go.Proofs.YtmgeeanbecmkbaaGreatDoor.Den
