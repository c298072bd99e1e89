/- The row of DeskTexts: a world that meets its condition, and what the condition gives the walk. -/
import Derived.Test.YtbldegmanbmpmaaGreatDoorE1
import Derived.Test.YtbldegmanbmpmaaGreatDoorRows
import Derived.ProofKit
import Derived.LaidMore
import Derived.LaidHandle
import Derived.LaidSub
import Derived.Lay
import Derived.Lib.LaidIn
import Derived.Lib.LaidU8
import Derived.OpenShut
import Derived.HandedShaped
import Derived.Handed
import Derived.Stop.Joined
namespace Go.Proofs.YtbldegmanbmpmaaGreatDoor
open Go.ChangeShapes Go.WideShapes Go.ChangeAt Go.RowKit
set_option maxRecDepth 100000
theorem own : ownKnob Tryz.prog.godebug = none := by kernel_rfl
/-- A world in which the program's own start-up has laid the listed variables, and the pinned table beside them. -/
noncomputable def wit (os : Os) : World := (World.doorLaid Tryz.prog 84 os).layVars Tryz.prog [("unicode/utf8.first", Rows.laid_unicode_utf8_first)]
theorem wit_os (os : Os) : (wit os).os = os := World.layVars_os _ _ _
theorem plain_met (os : Os) (args : Array Value) : laidMet Tryz.prog (Rows.deskTextsRow.laid.filter fun x => x.2.handleName?.isNone) ((wit os).forCall (fun _ _ => 0) ⟨#[], args, []⟩).memory := by
  refine laidMet.of_heap (w := wit os) (by simp [World.memory, World.forCall, Input.heap]) ?_
  refine laidMet_layVars (w0 := World.doorLaid Tryz.prog 84 os) ["unicode/utf8.first"] [0, 1, 3, 4, 5, 6, 7, 8, 9, 10, 11, 12, 13, 14, 15, 16] ?_ ?_ ?_ (LaidIn.of_run _ 8 ?_ ?_ ?_ ?_)
  · kernel_rfl
  · kernel_rfl
  · kernel_rfl
  · kernel_rfl
  · kernel_rfl
  · kernel_rfl
  · kernel_rfl
theorem wit_met (os : Os) (args : Array Value) : laidMetH Tryz.prog Rows.deskTextsRow.laid ((wit os).forCall (fun _ _ => 0) ⟨#[], args, []⟩).memory :=
  laidMetH_of_parts3 (fuel := 8) (plain_met os args) (by kernel_rfl) (by kernel_rfl)
end Go.Proofs.YtbldegmanbmpmaaGreatDoor
