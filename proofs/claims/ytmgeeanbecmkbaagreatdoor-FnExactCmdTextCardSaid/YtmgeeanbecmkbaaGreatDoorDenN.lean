/- DenN: what comes next makes no difference to an operation's own value. -/
import Derived.Test.YtmgeeanbecmkbaaGreatDoorDenO
namespace Go.Proofs.YtmgeeanbecmkbaaGreatDoor.Den
open Go
set_option linter.unusedVariables false

section
variable {Out : Type} {C : Cfg}

theorem cond_bnd {α β : Type} (c : Bool) (x y : Option α) (f : α → Option β) : (bif c then x else y).bind f = bif c then x.bind f else y.bind f := by
  cases c <;> rfl

theorem idx_uni {α : Type} {xs : List α} {i : Int} {k : α → Option Out} : idxC xs i k = (idxC xs i some).bind k := by
  unfold idxC
  rw [cond_bnd]
  cases xs[i.toNat]? <;> rfl

theorem int_uni {op : BinOp} {q : IntKind} {a b : Int} {k : AV → Option Out} : intC op q a b k = (intC op q a b some).bind k := by
  cases op <;> first | rfl | (simp only [intC, cond_bnd]; rfl)

theorem str_uni {op : BinOp} {a b : List UInt8} {k : AV → Option Out} : strC op a b k = (strC op a b some).bind k := by
  cases op <;> first | rfl | (simp only [strC, cond_bnd]; rfl)

theorem pick_uni {x : Bool} {va vb : AV} {k : AV → Option Out} : pickC x va vb k = (pickC x va vb some).bind k := by
  unfold pickC
  split
  · rfl
  · cases x <;> rfl

theorem bounds_uni {n : Nat} {lo hi : Option AV} {k : Nat → Nat → Option Out} : boundsC n lo hi k = (boundsC n lo hi (fun l h => some (l, h))).bind fun p => k p.1 p.2 := by
  unfold boundsC
  cases hi with
  | none => cases lo with
    | none => simp only [cond_bnd]; rfl
    | some v =>
      simp only
      cases datInt v with
      | none => rfl
      | some l => simp only [cond_bnd]; rfl
  | some h =>
    simp only
    cases datInt h with
    | none => rfl
    | some h => cases lo with
      | none => simp only [cond_bnd]; rfl
      | some v =>
        simp only
        cases datInt v with
        | none => rfl
        | some l => simp only [cond_bnd]; rfl

theorem readArr_uni {x : Box} {i : Nat} {path : List Nat} {k : AV → Option Out} : readArr x i path k = (readArr x i path some).bind k := by
  unfold readArr
  split
  · split
    · split <;> rfl
    · rfl
  · rfl

theorem writeArr_uni {x : Box} {i : Nat} {path : List Nat} {v : AV} {k : Box → Option Out} : writeArr x i path v k = (writeArr x i path v some).bind k := by
  unfold writeArr
  split
  · split
    · split <;> rfl
    · split
      · split
        · split <;> rfl
        · rfl
      · rfl
  · rfl

theorem conv_uni {src dst : TypeId} {v : AV} {k : AV → Option Out} : convC C src dst v k = (convC C src dst v some).bind k := by
  unfold convC
  split
  · rfl
  · rfl
  · rw [cond_bnd]; rfl
  · rfl

theorem bin_uni {op : BinOp} {t : TypeId} {kc : Bool} {va vb : AV} {k : AV → Option Out} : binC C op t kc va vb k = (binC C op t kc va vb some).bind k := by
  unfold binC
  split
  · rw [cond_bnd, int_uni]; rfl
  · exact str_uni
  · split <;> rfl
  · split
    · rw [cond_bnd]; rfl
    · rw [cond_bnd]; rfl
    · rfl
  · split
    · split
      · split <;> rfl
      · rfl
    · rfl

theorem len_uni {S : AS} {v : AV} {k : Int → Option Out} : lenC S v k = (lenC S v some).bind k := by
  unfold lenC
  split
  · rfl
  · rfl
  · split <;> rfl
  · rfl

abbrev two : AV → AS → Option (AV × AS) := fun v S => some (v, S)

theorem append_uni {S : AS} {t : TypeId} {vs vx : AV} {k : AV → AS → Option Out} : appendC C S t vs vx k = (appendC C S t vs vx two).bind fun p => k p.1 p.2 := by
  unfold appendC
  split
  · rw [cond_bnd]
    congr 1
    split
    · rw [cond_bnd]
      congr 1
      split
      · rfl
      · rw [cond_bnd]; rfl
      · rfl
    · rfl
  · rfl

theorem builtin_uni {S : AS} {b : Builtin} {xs : List (TypeId × Operand)} {k : AV → AS → Option Out} : builtinC C S b xs k = (builtinC C S b xs two).bind fun p => k p.1 p.2 := by
  unfold builtinC
  split
  · split
    · rw [cond_bnd, len_uni]
      congr 1
      rw [len_uni (k := fun n => two _ _)]
      cases lenC S _ some <;> rfl
    · split
      · rw [cond_bnd, len_uni]
        congr 1
        rw [len_uni (k := fun n => two _ _)]
        cases lenC S _ some <;> rfl
      · rfl
    · rfl
  · rw [cond_bnd, append_uni]; rfl
  · split
    · split <;> rfl
    · rfl
  · split
    · split <;> rfl
    · rfl
  · rfl

variable {env : Env C}

theorem call_uni {S : AS} {f : FuncId} {xs : List (TypeId × Operand)} {k : AV → AS → Option Out} : callC C env S f xs k = (callC C env S f xs two).bind fun p => k p.1 p.2 := by
  unfold callC
  split
  · rfl
  · cases env f _ with
    | none => rfl
    | some r =>
      simp only [Option.bind_some]
      split <;> rfl

theorem bind_two {α : Type} (x : Option α) (f : α → AV × AS) (k : AV → AS → Option Out) : ((x.bind fun y => some (f y)).bind fun p => k p.1 p.2) = x.bind fun y => k (f y).1 (f y).2 := by
  cases x <;> rfl

theorem op_uni {S : AS} {o : Oper} {k : AV → AS → Option Out} : evalOp C env S o k = (evalOp C env S o two).bind fun p => k p.1 p.2 := by
  unfold evalOp
  cases o.op with
  | pick c x y =>
    dsimp only
    split
    · rw [pick_uni, pick_uni (k := fun v => two v S)]
      cases pickC _ _ _ some <;> rfl
    · rfl
  | alloc e =>
    dsimp only
    split
    · rw [cond_bnd]; rfl
    · rfl
  | box e x =>
    dsimp only
    split
    · rw [cond_bnd]
      congr 1
      · split
        · rw [cond_bnd]; rfl
        · rfl
      · split
        · split <;> rfl
        · rfl
    · rfl
  | build t ps =>
    dsimp only
    split
    · split <;> rfl
    · rfl
  | buildSlice t n ps =>
    dsimp only
    split
    · rw [cond_bnd]
      congr 1
      split
      · rw [cond_bnd]; rfl
      · rfl
    · rfl
  | load t x =>
    dsimp only
    split
    · rw [cond_bnd]; rfl
    · rw [cond_bnd]
      congr 1
      split <;> rfl
    · rw [cond_bnd, readArr_uni]
      congr 1
      rw [readArr_uni (k := fun v => two v S)]
      cases readArr _ _ _ some <;> rfl
    · rfl
  | store t x y =>
    dsimp only
    split
    · rw [cond_bnd]
      congr 1
      split <;> rfl
    · rw [cond_bnd, writeArr_uni]
      congr 1
      rw [writeArr_uni (k := fun B => two .bot _)]
      cases writeArr _ _ _ _ some <;> rfl
    · rfl
  | nilCheck x => dsimp only; split <;> rfl
  | fieldAddr s x f =>
    dsimp only
    split
    · rw [cond_bnd]; congr 1; split <;> rfl
    · rw [cond_bnd]; congr 1; split <;> rfl
    · rw [cond_bnd]; congr 1; split <;> rfl
    · rfl
  | field s x f =>
    dsimp only
    split
    · split
      · split <;> rfl
      · rfl
    · rfl
  | indexAddr t x ix =>
    dsimp only
    split
    · split
      · rw [idx_uni, idx_uni (k := fun y => two _ _)]
        cases idxC _ _ some <;> rfl
      · rfl
    · split
      · rw [cond_bnd]; rfl
      · rfl
    · rfl
  | index t x ix =>
    dsimp only
    split
    · rw [idx_uni, idx_uni (k := fun y => two _ _)]
      cases idxC _ _ some <;> rfl
    · rfl
  | slice t x lo hi mx =>
    cases mx with
    | some _ => rfl
    | none =>
      dsimp only
      split
      · rw [bounds_uni, bounds_uni (k := fun _ _ => two _ _)]
        cases boundsC _ _ _ _ <;> rfl
      · split
        · rw [bounds_uni, bounds_uni (k := fun _ _ => two _ _)]
          cases boundsC _ _ _ _ <;> rfl
        · rfl
      · rfl
  | binOp op t x y t' =>
    dsimp only
    rw [bin_uni, bin_uni (k := fun v => two v S)]
    cases binC _ _ _ _ _ _ some <;> rfl
  | unOp op t x => dsimp only; split <;> rfl
  | convert src dst x =>
    dsimp only
    rw [conv_uni, conv_uni (k := fun v => two v S)]
    cases convC _ _ _ _ some <;> rfl
  | extract x i =>
    dsimp only
    split
    · split <;> rfl
    · rfl
  | makeSlice t l c =>
    dsimp only
    split
    · rw [cond_bnd]; rfl
    · rfl
  | call c =>
    dsimp only
    rw [cond_bnd]
    congr 1
    split
    · exact builtin_uni
    · rw [cond_bnd, call_uni]; rfl
    · rfl
  | _ => rfl

end
end Go.Proofs.YtmgeeanbecmkbaaGreatDoor.Den
