/- DenC: what a region, a body, a call comes to. -/
import Derived.Test.YtmgeeanbecmkbaaGreatDoorDenB
namespace Go.Proofs.YtmgeeanbecmkbaaGreatDoor.Den
open Go

inductive Ex where
  | normal | exit (id : Nat) | ret

section
variable (C : Cfg) {Out : Type} (env : Env C)

def putC (S : AS) (dst : Option Nat) (v : AV) (K : AS → Option Out) : Option Out :=
  match dst with
  | none => K S
  | some d => bif Nat.blt d S.n then K (S.put d v) else none

def stepC (S : AS) (o : Oper) (K : AS → Option Out) : Option Out := evalOp C env S o fun v S' => putC S' o.dst v K

def boolOf : AV → Option (Bool × Tag)
  | .dat d => match d with
    | ⟨.bool, b, tg⟩ => some (b, tg)
    | _ => none
  | _ => none

def isUnd : AV → Bool
  | .und => true
  | _ => false

def boolAV (b : Bool) : AV := .dat ⟨.bool, b, .ro⟩

def opsC (ops : Array Oper) : List Oper → AS → (AS → Option Out) → Option Out
  | [], S, K => K S
  | o :: r, S, K => match o.guard with
    | none => stepC C env S o fun S' => opsC ops r S' K
    | some (j, w) => match (ops[j]?).bind (·.dst) with
      | some d => match boolOf (S.get d) with
        | some (b, _) =>
          bif b then (bif w then stepC C env (S.put d (boolAV true)) o fun S' => opsC ops r S' K else putC (S.put d (boolAV true)) o.dst .und fun S' => opsC ops r S' K)
          else (bif w then putC (S.put d (boolAV false)) o.dst .und fun S' => opsC ops r S' K else stepC C env (S.put d (boolAV false)) o fun S' => opsC ops r S' K)
        | none => bif isUnd (S.get d) then putC S o.dst .und fun S' => opsC ops r S' K else none
      | none => none

/-- What an operation sees of the memory, and what it changes. -/
inductive Cls where
  | quiet | rd (b : Nat) | wr (b : Nat) | all

def clsOp (S : AS) (o : Oper) : Cls :=
  match o.op with
  | .move _ | .assign _ | .pick .. | .build .. | .buildSlice .. | .nilCheck _ | .fieldAddr .. | .field .. | .index .. | .slice .. | .binOp .. | .unOp .. | .convert .. | .extract .. => .quiet
  | .load t x => match opv C S t x with
    | .cell .. => .quiet
    | .loc b _ _ => .rd b
    | .eadr b _ _ _ => .rd b
    | _ => .all
  | .store t x _ => match opv C S t x with
    | .loc b _ _ => .wr b
    | .eadr b _ _ _ => .wr b
    | _ => .all
  | .indexAddr t x _ => match opv C S t x with
    | .marr b => .rd b
    | _ => .quiet
  | .call c => match c.callee with
    | .builtin .len => match c.argTypes.toList.zip c.args.toList with
      | [(t, x)] => match opv C S t x with
        | .marr b => .rd b
        | _ => .quiet
      | _ => .quiet
    | .builtin .max | .builtin .min => .quiet
    | .value (.func f) => bif (C.sig f).ps.any (·.io) then .all else .quiet
    | _ => .all
  | _ => .all

def clash : Cls → Cls → Bool
  | .quiet, _ => false
  | _, .quiet => false
  | .rd _, .rd _ => false
  | .rd b, .wr b' => Nat.beq b b'
  | .wr b, .rd b' => Nat.beq b b'
  | .wr b, .wr b' => Nat.beq b b'
  | _, _ => true

/-- Those that clash come before it. -/
def ordered (row : Nat) (c : Cls) (pr : List (Nat × Cls)) : Bool := pr.all fun p => !(clash p.2 c) || row.testBit p.1

/-- Which operations come before each, whatever the order. -/
def befRow (rows : List Nat) : List Edge → Nat
  | [] => 0
  | e :: r => bif Region.binds .any e then 2 ^ e.on ||| rows.getD e.on 0 ||| befRow rows r else befRow rows r

def befRows : List Oper → List Nat → List Nat
  | [], rows => rows
  | o :: r, rows => befRows r (rows ++ [befRow rows o.after.toList])

/-- Operations that touch one temporary have an order. -/
def shares (ops : Array Oper) (o q : Oper) : Bool :=
  match o.dst, q.dst with
  | some d, some e => Nat.beq d e || (q.looksAt ops).any (Nat.beq d) || (o.looksAt ops).any (Nat.beq e)
  | some d, none => (q.looksAt ops).any (Nat.beq d)
  | none, some e => (o.looksAt ops).any (Nat.beq e)
  | none, none => false

def tmpsFrom (ops : Array Oper) (row : Nat) (q : Oper) : Nat → List Oper → Bool
  | _, [] => true
  | i, o :: r => (!(shares ops o q) || row.testBit i) && tmpsFrom ops row q (i + 1) r

def drawFrom (ops : Array Oper) (rows : List Nat) : Nat → List Oper → Bool
  | _, [] => true
  | j, q :: r => q.after.toList.all (fun e => !(Region.binds .any e) || Nat.blt e.on j) && tmpsFrom ops (rows.getD j 0) q 0 (ops.toList.take j) && drawFrom ops rows (j + 1) r

def drawOk (ops : Array Oper) (rows : List Nat) : Bool := drawFrom ops rows 0 ops.toList

def opsD (ops : Array Oper) (rows : List Nat) : List Oper → Nat → List (Nat × Cls) → AS → (AS → Option Out) → Option Out
  | [], _, _, S, K => K S
  | o :: r, i, pr, S, K =>
    let run : AS → Option Out := fun S => match clsOp C S o with
      | .quiet => stepC C env S o fun S' => opsD ops rows r (i + 1) pr S' K
      | .rd b => bif ordered (rows.getD i 0) (.rd b) pr then stepC C env S o fun S' => opsD ops rows r (i + 1) ((i, .rd b) :: pr) S' K else none
      | .wr b => bif ordered (rows.getD i 0) (.wr b) pr then stepC C env S o fun S' => opsD ops rows r (i + 1) ((i, .wr b) :: pr) S' K else none
      | .all => bif ordered (rows.getD i 0) .all pr then stepC C env S o fun S' => opsD ops rows r (i + 1) ((i, .all) :: pr) S' K else none
    let skip : AS → Option Out := fun S => putC S o.dst .und fun S' => opsD ops rows r (i + 1) pr S' K
    match o.guard with
    | none => run S
    | some (j, w) => match (ops[j]?).bind (·.dst) with
      | some d => match boolOf (S.get d) with
        | some (b, tg) =>
          bif b then (bif w then run (S.put d (.dat ⟨.bool, true, tg⟩)) else skip (S.put d (.dat ⟨.bool, true, tg⟩)))
          else (bif w then skip (S.put d (.dat ⟨.bool, false, tg⟩)) else run (S.put d (.dat ⟨.bool, false, tg⟩)))
        | none => bif isUnd (S.get d) then skip S else none
      | none => none

def regionC (ops : Array Oper) (draw : Bool) (S : AS) (K : AS → Option Out) : Option Out :=
  bif draw then (bif drawOk ops (befRows ops.toList []) then opsD C env ops (befRows ops.toList []) ops.toList 0 [] { S with dr := true } (fun S' => K { S' with dr := false }) else none)
  else opsC C env ops ops.toList S K

def canonTag (S : AS) (t : Ty) (tg : Tag) (m : Nat) (seen : List Nat) : Tag × Nat × List Nat :=
  match t, tg with
  | .slice _ _, .nil => (.own m 0, m + 1, seen)
  | .slice _ _, .own q v => bif tip S (.own q v) && !(seen.any (Nat.beq q)) then (.own m 0, m + 1, q :: seen) else (.ro, m, seen)
  | _, _ => (.ro, m, seen)

def canonFs (S : AS) : List Dat → Nat → List Nat → List Dat × Nat × List Nat
  | [], m, seen => ([], m, seen)
  | d :: r, m, seen =>
    let c := canonTag S d.t d.tag m seen
    let q := canonFs S r c.2.1 c.2.2
    (⟨d.t, d.x, c.1⟩ :: q.1, q.2)

/-- Does a value name a variable that stays? -/
def okRef (S : AS) (nb : Nat) : AV → Bool
  | .loc b _ _ => Nat.blt b nb && Nat.blt b S.nb
  | .marr b => Nat.blt b nb && Nat.blt b S.nb
  | .eadr b _ _ _ => Nat.blt b nb && Nat.blt b S.nb
  | _ => true

def canonVals (S : AS) (nb : Nat) : List Nat → Nat → List Nat → List (Nat × AV) × Nat × List Nat
  | [], m, seen => ([], m, seen)
  | d :: r, m, seen => match S.get d with
    | .dat z =>
      let c := canonTag S z.t z.tag m seen
      let q := canonVals S nb r c.2.1 c.2.2
      ((d, .dat ⟨z.t, z.x, c.1⟩) :: q.1, q.2)
    | .sv fs =>
      let q := canonVals S nb r m seen
      ((d, .sv (fs.map fun z => ⟨z.t, z.x, .ro⟩)) :: q.1, q.2)
    | v =>
      let q := canonVals S nb r m seen
      ((d, bif okRef S nb v then v else .bot) :: q.1, q.2)

def canonBoxes (S : AS) : Nat → Nat → List Nat → List (Nat × Box) × Nat × List Nat
  | 0, m, seen => ([], m, seen)
  | b + 1, m, seen => match S.box b with
    | .fld T fs => bif Nat.blt b S.nb then
        let c := canonFs S fs m seen
        let q := canonBoxes S b c.2.1 c.2.2
        ((b, .fld T c.1) :: q.1, q.2)
      else
        let q := canonBoxes S b m seen
        ((b, .dead) :: q.1, q.2)
    | .leaf T d => bif Nat.blt b S.nb then
        let c := canonTag S d.t d.tag m seen
        let q := canonBoxes S b c.2.1 c.2.2
        ((b, .leaf T ⟨d.t, d.x, c.1⟩) :: q.1, q.2)
      else
        let q := canonBoxes S b m seen
        ((b, .dead) :: q.1, q.2)
    | x =>
      let q := canonBoxes S b m seen
      ((b, bif Nat.blt b S.nb then x else .dead) :: q.1, q.2)

/-- A loop's head: the named temporaries and the first nb variables stay, in one fixed form. -/
def canon (keep : List Nat) (nb : Nat) (S : AS) : AS :=
  let v := canonVals S nb keep 0 []
  let b := canonBoxes S nb v.2.1 v.2.2
  { n := S.n, vals := v.1, boxes := b.1, nb := nb, vers := freshVers 0 b.2.1, nid := b.2.1, dr := false }

def loopC (body : AS → (Ex → AS → Option Out) → Option Out) (re : AS → AS) : Nat → AS → (Ex → AS → Option Out) → Option Out
  | 0, _, _ => none
  | n + 1, S, K => body S fun ex S' => match ex with
    | .normal => loopC body re n (re S') K
    | .exit i => K (.exit i) S'
    | .ret => K .ret S'

def firstRegion : Code → Nat
  | .region id _ _ => id
  | .seq a _ => firstRegion a
  | .block _ c => firstRegion c
  | .scope c => firstRegion c
  | .loop c => firstRegion c
  | _ => 0

def litCond (S : AS) (c : Operand) (b : Bool) : AS := match c with
  | .tmp d => S.put d (boolAV b)
  | _ => S

def den (keep : Nat → List Nat) (n : Nat) : Code → AS → (Ex → AS → Option Out) → Option Out
  | .skip, S, K => K .normal S
  | .region _ ops draw, S, K => regionC C env ops draw S (K .normal)
  | .seq a b, S, K => den keep n a S fun ex S' => match ex with
    | .normal => den keep n b S' K
    | .exit i => K (.exit i) S'
    | .ret => K .ret S'
  | .cond c x y, S, K => match opv C S 0 c with
    | .dat ⟨.bool, b, _⟩ => bif b then den keep n x (litCond S c true) K else den keep n y (litCond S c false) K
    | _ => none
  | .block id c, S, K => den keep n c S fun ex S' => match ex with
    | .normal => K .normal S'
    | .exit i => bif Nat.beq i id then K .normal S' else K (.exit i) S'
    | .ret => K .ret S'
  | .loop c, S, K => loopC (fun S K => den keep n c S K) (canon (keep (firstRegion c)) S.nb) n (canon (keep (firstRegion c)) S.nb S) K
  | .exit id, S, K => K (.exit id) S
  | .ret, S, K => K .ret S
  | _, _, _ => none

/-- The arguments, as the body finds them. -/
def initC : List Par → List Arg → Nat → AS → Option AS
  | [], [], _, S => some S
  | p :: ps, a :: as, i, S => match a with
    | .val u x => bif p.io then none else initC ps as (i + 1) (S.put i (.dat ⟨u, x, .ro⟩))
    | .io u x => bif p.io && !p.kill && decide (u = p.t) && Nat.beq S.nb 0 then
        let c := countSl p.ow (unpack u x)
        initC ps as (i + 1) { (S.newBox (.fld p.T (freshTags p.ow (unpack u x) 0))).put i (.loc 0 [] u) with vers := freshVers 0 c, nid := c }
      else none
    | .fn f => bif p.io then none else initC ps as (i + 1) (S.put i (.fn f))
  | _, _, _, _ => none

def resD (S : AS) : ResultVar → (t : Ty) → Option t.D
  | .tmp d, t => match S.get d with
    | .marr b => match S.box b with
      | .arr e u xs => castD ⟨.slice e u, xs, .ro⟩ t
      | _ => none
    | v => toD v t
  | .cell a ty, t => match S.get a with
    | .loc b path u => bif tyIs C ty u then (match readBox (S.box b) path with
      | some v => toD v t
      | none => none) else none
    | _ => none

def iosD (S : AS) (ow : List Bool) : (ts : List Ty) → Option (pairs ts).D
  | [] => some ()
  | [t] => match S.box 0 with
    | .fld _ fs => match tipIds S ow fs, pack t fs with
      | some _, some x => some (x, ())
      | _, _ => none
    | _ => none
  | _ => none

def outD (S : AS) (ow : List Bool) (ios : List Ty) : List ResultVar → (rs : List Ty) → Option (pairs (rs ++ ios)).D
  | [], [] => iosD S ow ios
  | r :: rv, t :: ts => match resD C S r t, outD S ow ios rv ts with
    | some x, some y => some (x, y)
    | _, _ => none
  | _, _ => none

def owOf (ps : List Par) : List Bool := match ioPar ps with
  | some p => p.ow
  | none => []

def bodyC (n : Nat) (f : FuncId) (fn : Func) (as : List Arg) : Option (C.sig f).out.D :=
  match fn.body, initC (C.sig f).ps as 0 { n := fn.ntmps, vals := [], boxes := [], nb := 0, vers := [], nid := 0, dr := false } with
  | some c, some S => bif Nat.ble (C.sig f).ps.length fn.ntmps then den C env (fun r => (look (C.hint f) r).getD []) n c S fun ex S' => match ex with
      | .exit _ => none
      | .normal => outD C S' (owOf (C.sig f).ps) (C.sig f).ios fn.results.toList (C.sig f).rs
      | .ret => outD C S' (owOf (C.sig f).ps) (C.sig f).ios fn.results.toList (C.sig f).rs
    else none
  | _, _ => none

abbrev Prims := (f : FuncId) → Option (Env C → List Arg → Option (C.sig f).out.D)

def callD (P : Program) (pr : Prims C) : Nat → Env C
  | 0, _, _ => none
  | k + 1, f, as => match pr f with
    | some p => p (callD P pr k) as
    | none => match P.funcs[f]? with
      | some fn => bodyC C (callD P pr k) k f fn as
      | none => none

end
end Go.Proofs.YtmgeeanbecmkbaaGreatDoor.Den
