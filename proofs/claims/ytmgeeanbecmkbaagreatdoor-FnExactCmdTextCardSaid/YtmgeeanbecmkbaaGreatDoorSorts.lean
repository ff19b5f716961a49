/- Sorts: the program's structs as plain data, and bytes. -/
import Derived.WalkKit
namespace Go.Proofs.YtmgeeanbecmkbaaGreatDoor.Den
abbrev Bytes := List UInt8
abbrev Ref : Type := (Int × Int × Unit)
abbrev Place : Type := (Ref × Bool × Bool × Unit)
abbrev Area : Type := (Ref × Ref × Unit)
abbrev Value : Type := (Int × Int × List UInt8 × Unit)
abbrev FNode : Type := (Int × Int × Value × Place × Place × (List Int) × Unit)
abbrev Cell : Type := (Ref × List UInt8 × Unit)
abbrev CellValue : Type := (Ref × Value × Unit)
abbrev Edit : Type := (Int × Ref × List UInt8 × Area × Int × Int × Unit)
abbrev Change : Type := (Ref × List UInt8 × List UInt8 × Unit)
abbrev Version : Type := (Int × (List Int) × (List Cell) × Unit)
abbrev Branch : Type := (List UInt8 × Int × Unit)
abbrev Dag : Type := (Int × (List Version) × (List Branch) × Unit)
abbrev Stmt : Type := (Int × Ref × List UInt8 × Int × Unit)
abbrev File : Type := (List UInt8 × List UInt8 × Unit)
abbrev DOp : Type := (Int × List UInt8 × List UInt8 × List UInt8 × Unit)
abbrev Disk : Type := ((List File) × (List File) × (List DOp) × Unit)
abbrev Cmd : Type := (Int × List UInt8 × List UInt8 × Int × (List Stmt) × Unit)
abbrev Act : Type := (Int × Cmd × Bool × Int × (List Int) × Int × Unit)
abbrev reader : Type := (List UInt8 × (List FNode) × Bool × Unit)
abbrev l3Rd : Type := (List UInt8 × Int × Bool × (List FNode) × Unit)
end Go.Proofs.YtmgeeanbecmkbaaGreatDoor.Den
