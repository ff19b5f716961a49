/- Prim: functions of Go's library, by what they answer. -/
import Derived.Test.YtmgeeanbecmkbaaGreatDoorDenH
import Derived.Lib.SlTrimSet
import Derived.Lib.Strings
import Derived.Lib.IndexMore
import Derived.Lib.Replace
import Derived.Lib.Join
import Derived.Lib.ItoaNum
import Derived.Lib.ParseIntB
namespace Go.Proofs.YtmgeeanbecmkbaaGreatDoor.Den
open Go

/-- What a variable of the library holds: a table, a number, an error. -/
def gTab (k : IntKind) (zs : List Int) (o : Obj) : Prop := ∃ t fz, o = .cells (zs.map fun z => Go.Value.int k z).toArray t fz
def gInt (o : Obj) : Prop := ∃ m t fz, o = .cells #[.int .i64 m] t fz
def gErr (o : Obj) : Prop := ∃ u v t fz, o = .cells #[.iface u v] t fz

def asciiB (l : List UInt8) : Bool := l.all fun b => decide (b.toNat < 128)

def pHasPrefix : List Arg → Option (Bool × Unit)
  | [.val .str s, .val .str p] => some (Lib.hasPrefix s p, ())
  | _ => none
def pTrimPrefix : List Arg → Option (List UInt8 × Unit)
  | [.val .str s, .val .str p] => some (Lib.trimPrefix s p, ())
  | _ => none
def pCutPrefix : List Arg → Option (List UInt8 × Bool × Unit)
  | [.val .str s, .val .str p] => some (Lib.trimPrefix s p, Lib.hasPrefix s p, ())
  | _ => none
def pTrim : List Arg → Option (List UInt8 × Unit)
  | [.val .str s, .val .str c] => bif decide (s.length ≤ scap) && decide (c.length < 4294967281) && asciiB c then some (Lib.trimS s c, ()) else none
  | _ => none
def pTrimLeft : List Arg → Option (List UInt8 × Unit)
  | [.val .str s, .val .str c] => bif decide (c.length < 4294967281) && asciiB c then some (Lib.trimLeftS s c, ()) else none
  | _ => none
def pCut : List Arg → Option (List UInt8 × List UInt8 × Bool × Unit)
  | [.val .str s, .val .str c] => bif decide (s.length < 4294967281) then some ((Lib.cut s c).1, (Lib.cut s c).2.1, (Lib.cut s c).2.2, ()) else none
  | _ => none
def pReplaceAll : List Arg → Option (List UInt8 × Unit)
  | [.val .str s, .val .str o, .val .str c] => bif decide (s.length < 4294967281) && decide (1 ≤ o.length) && decide (s.length + s.length * c.length ≤ 140737488355328) then some (Lib.replaceAll s o c, ()) else none
  | _ => none
def pJoin : List Arg → Option (List UInt8 × Unit)
  | [.val (.slice _ .str) xs, .val .str c] => bif decide (xs.length ≤ 140737488355328) && decide ((Lib.join xs c).length ≤ 140737488355328) then some (Lib.join xs c, ()) else none
  | _ => none
def pFormatInt : List Arg → Option (List UInt8 × Unit)
  | [.val (.int .i64) n, .val (.int .i64) b] => bif decide (b = 10) && decide (-9223372036854775808 ≤ n) && decide (n ≤ 9223372036854775807) then some (Lib.itoa n, ()) else none
  | _ => none
def parsed (s : List UInt8) : Int × Bool := match Lib.parseIntB 64 s with
  | .ok v => (v, true)
  | .syntax => (0, false)
  | .range => (Lib.intSat 64 s, false)
def pParseInt : List Arg → Option (Int × Bool × Unit)
  | [.val .str s, .val (.int .i64) b, .val (.int .i64) z] => bif decide (b = 10) && decide (z = 64) && decide (s.length ≤ 281474976710656) then some ((parsed s).1, (parsed s).2, ()) else none
  | _ => none

theorem pHasPrefix_eq (s p : List UInt8) : pHasPrefix [.val .str s, .val .str p] = some (Lib.hasPrefix s p, ()) := rfl
theorem pTrimPrefix_eq (s p : List UInt8) : pTrimPrefix [.val .str s, .val .str p] = some (Lib.trimPrefix s p, ()) := rfl
theorem pCutPrefix_eq (s p : List UInt8) : pCutPrefix [.val .str s, .val .str p] = some (Lib.trimPrefix s p, Lib.hasPrefix s p, ()) := rfl
theorem pTrim_eq {s c : List UInt8} (h1 : s.length ≤ scap) (h2 : c.length < 4294967281) (h3 : asciiB c = true) : pTrim [.val .str s, .val .str c] = some (Lib.trimS s c, ()) := by
  show (bif decide (s.length ≤ scap) && decide (c.length < 4294967281) && asciiB c then some (Lib.trimS s c, ()) else none) = _
  rw [decide_eq_true h1, decide_eq_true h2, h3]; rfl
theorem pTrimLeft_eq {s c : List UInt8} (h2 : c.length < 4294967281) (h3 : asciiB c = true) : pTrimLeft [.val .str s, .val .str c] = some (Lib.trimLeftS s c, ()) := by
  show (bif decide (c.length < 4294967281) && asciiB c then some (Lib.trimLeftS s c, ()) else none) = _
  rw [decide_eq_true h2, h3]; rfl
theorem pCut_eq {s c : List UInt8} (h : s.length < 4294967281) : pCut [.val .str s, .val .str c] = some ((Lib.cut s c).1, (Lib.cut s c).2.1, (Lib.cut s c).2.2, ()) := by
  show (bif decide (s.length < 4294967281) then _ else none) = _
  rw [decide_eq_true h]; rfl
theorem pReplaceAll_eq {s o c : List UInt8} (h1 : s.length < 4294967281) (h2 : 1 ≤ o.length) (h3 : s.length + s.length * c.length ≤ 140737488355328) : pReplaceAll [.val .str s, .val .str o, .val .str c] = some (Lib.replaceAll s o c, ()) := by
  show (bif decide (s.length < 4294967281) && decide (1 ≤ o.length) && decide (s.length + s.length * c.length ≤ 140737488355328) then some (Lib.replaceAll s o c, ()) else none) = _
  rw [decide_eq_true h1, decide_eq_true h2, decide_eq_true h3]; rfl
theorem pJoin_eq {e : TypeId} {xs : List (List UInt8)} {c : List UInt8} (h1 : xs.length ≤ 140737488355328) (h2 : (Lib.join xs c).length ≤ 140737488355328) : pJoin [.val (.slice e .str) xs, .val .str c] = some (Lib.join xs c, ()) := by
  show (bif decide (xs.length ≤ 140737488355328) && decide ((Lib.join xs c).length ≤ 140737488355328) then some (Lib.join xs c, ()) else none) = _
  rw [decide_eq_true h1, decide_eq_true h2]; rfl
theorem pFormatInt_eq {n : Int} (h1 : -9223372036854775808 ≤ n) (h2 : n ≤ 9223372036854775807) : pFormatInt [.val (.int .i64) n, .val (.int .i64) (10 : Int)] = some (Lib.itoa n, ()) := by
  show (bif decide ((10 : Int) = 10) && decide (-9223372036854775808 ≤ n) && decide (n ≤ 9223372036854775807) then some (Lib.itoa n, ()) else none) = _
  rw [decide_eq_true h1, decide_eq_true h2]; rfl
theorem pParseInt_eq {s : List UInt8} (h : s.length ≤ 281474976710656) : pParseInt [.val .str s, .val (.int .i64) (10 : Int), .val (.int .i64) (64 : Int)] = some ((parsed s).1, (parsed s).2, ()) := by
  show (bif decide ((10 : Int) = 10) && decide ((64 : Int) = 64) && decide (s.length ≤ 281474976710656) then some ((parsed s).1, (parsed s).2, ()) else none) = _
  rw [decide_eq_true h]; rfl

/-- Builders: a pointer, bytes. -/
def byteInts (s : List UInt8) : List Int := s.map fun c => (c.toNat : Int)
def bytesOf (l : List Int) : List UInt8 := l.map fun n => UInt8.ofNat n.toNat
def isBytes (l : List Int) : Bool := l.all fun n => decide (0 ≤ n) && decide (n < 256)
def pWriteString : List Arg → Option (Int × Bool × (Bool × List Int × Unit) × Unit)
  | [.io (.pair .ptr (.pair (.slice _ (.int .u8)) .unit)) x, .val .str s] => bif isBytes x.2.1 && decide (x.2.1.length + s.length ≤ 140737488355328) then some ((s.length : Int), true, (false, x.2.1 ++ byteInts s, ()), ()) else none
  | _ => none
def pString : List Arg → Option (List UInt8 × Unit)
  | [.io (.pair .ptr (.pair (.slice _ (.int .u8)) .unit)) x] => bif isBytes x.2.1 then some (bytesOf x.2.1, ()) else none
  | _ => none

theorem pWriteString_eq {e : TypeId} {q : Bool} {l : List Int} {s : List UInt8} (h1 : isBytes l = true) (h2 : l.length + s.length ≤ 140737488355328) : pWriteString [.io (.pair .ptr (.pair (.slice e (.int .u8)) .unit)) (q, l, ()), .val .str s] = some ((s.length : Int), true, (false, l ++ byteInts s, ()), ()) := by
  show (bif isBytes l && decide (l.length + s.length ≤ 140737488355328) then some ((s.length : Int), true, (false, l ++ byteInts s, ()), ()) else none) = _
  rw [h1, decide_eq_true h2]; rfl
theorem pString_eq {e : TypeId} {q : Bool} {l : List Int} (h1 : isBytes l = true) : pString [.io (.pair .ptr (.pair (.slice e (.int .u8)) .unit)) (q, l, ())] = some (bytesOf l, ()) := by
  show (bif isBytes l then some (bytesOf l, ()) else none) = _
  rw [h1]; rfl
theorem isBytes_of (s : List UInt8) : isBytes (byteInts s) = true := by
  unfold isBytes byteInts
  rw [List.all_map]
  refine List.all_eq_true.2 fun c _ => ?_
  simp only [Function.comp, Bool.and_eq_true, decide_eq_true_eq]
  have := c.toNat_lt
  omega
theorem bytesOf_of (s : List UInt8) : bytesOf (byteInts s) = s := by
  unfold bytesOf byteInts
  rw [List.map_map]
  conv => rhs; rw [← List.map_id s]
  refine List.map_congr_left fun c _ => ?_
  simp only [Function.comp, Int.toNat_natCast, id]
  exact UInt8.ofNat_toNat
theorem byteInts_app (s t : List UInt8) : byteInts (s ++ t) = byteInts s ++ byteInts t := List.map_append ..
theorem byteInts_len (s : List UInt8) : (byteInts s).length = s.length := List.length_map ..

end Go.Proofs.YtmgeeanbecmkbaaGreatDoor.Den
