import Derived.Test.YtojlffnlenldiaaDoorV8
import Derived.Test.YtojlffnlenldiaaDoorRows
import Derived.ProofKit
import Derived.Lay
import Derived.LaidOnce
import Derived.SevenTiedAt
namespace Go.Proofs.YtojlffnlenldiaaDoor
open Go.ChangeShapes Go.WideShapes Go.ChangeAt Go.RowKit
abbrev LAID := Rows.fnExactCallParseRow.laid
theorem door_met (os : Os) (args : Array Value) : laidMetH Tryd.prog LAID ((World.laidAll Tryd.prog os LAID).forCall (fun _ _ => 0) ⟨#[], args, []⟩).memory := by
  rw [MakeChecks.laidMetH_plain _ _ _ (by kernel_rfl)]
  exact laidMet_laidAll _ (by kernel_rfl) (by kernel_rfl)
end Go.Proofs.YtojlffnlenldiaaDoor
