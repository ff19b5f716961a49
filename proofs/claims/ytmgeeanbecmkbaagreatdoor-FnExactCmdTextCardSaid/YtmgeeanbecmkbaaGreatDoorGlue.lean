/- Glue: from a row's condition to what the evaluator asks of the world; the evaluator's word on the program's law, as the row has it. -/
import Derived.Test.YtmgeeanbecmkbaaGreatDoorPok2
import Derived.Test.YtmgeeanbecmkbaaGreatDoorOpen
import Derived.Test.YtmgeeanbecmkbaaGreatDoorA3
import Derived.Test.YtmgeeanbecmkbaaGreatDoorRows
import Derived.ProofKit
import Derived.OpenShut
import Derived.LaidMore
import Derived.Lay
import Derived.Carry
import Derived.Shelf.Vars
import Derived.Lib.LaidU8
import Derived.Stop.Joined
namespace Go.Proofs.YtmgeeanbecmkbaaGreatDoor.Den
open Go Go.RowKit Go.Proofs Go.ChangeShapes Go.WideShapes Go.ChangeAt
set_option linter.unusedVariables false

theorem all_cons {α : Type} {p : α → Prop} {a : α} {l : List α} (h : p a) (hl : ∀ q ∈ l, p q) : ∀ q ∈ a :: l, p q := fun q hq => by
  rcases List.mem_cons.1 hq with rfl | hq
  · exact h
  · exact hl q hq
theorem all_nil {α : Type} {p : α → Prop} : ∀ q ∈ ([] : List α), p q := fun q hq => by cases hq

theorem prs_ok : PrimsOK Tryz.prog cfg prs := primsOf_ok prims
  (all_cons (Eq.mp (by kernel_rfl) (okFormatInt (T := 0) (U := 0)))
  (all_cons (Eq.mp (by kernel_rfl) (okWriteString (T := 9)))
  (all_cons (Eq.mp (by kernel_rfl) okString)
  (all_cons (Eq.mp (by kernel_rfl) (okTrim (T := 0) (U := 0)))
  (all_cons (Eq.mp (by kernel_rfl) (okCutPrefix (T := 0) (U := 0)))
  (all_cons (Eq.mp (by kernel_rfl) (okParseInt (T := 0) (U := 0) (V := 0)))
  (all_cons (Eq.mp (by kernel_rfl) (okTrimPrefix (T := 0) (U := 0)))
  (all_cons (Eq.mp (by kernel_rfl) (okHasPrefix (T := 0) (U := 0)))
  (all_cons (Eq.mp (by kernel_rfl) (okTrimLeft (T := 0) (U := 0)))
  (all_cons (Eq.mp (by kernel_rfl) (okReplaceAll (T := 0) (U := 0) (V := 0)))
  (all_cons (Eq.mp (by kernel_rfl) (okJoin (T := 0) (U := 0) (e := 9)))
  (all_cons (Eq.mp (by kernel_rfl) (okCut (T := 0) (U := 0))) all_nil))))))))))))

theorem env_ok : EnvOK Tryz.prog cfg ENV := call_sound prog_ok (by kernel_rfl) prs_ok

end Go.Proofs.YtmgeeanbecmkbaaGreatDoor.Den
