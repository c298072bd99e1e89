/- The row of DeskTexts: its closed facts, one by one. -/
import Derived.Test.YtbldegmanbmpmaaGreatDoorRows
import Derived.ProofKit
namespace Go.Proofs.YtbldegmanbmpmaaGreatDoor
open Go Go.RowKit
set_option maxRecDepth 100000
set_option maxHeartbeats 8000000
theorem band {a b : Bool} (ha : a = true) (hb : b = true) : (a && b) = true := by rw [ha, hb]; rfl
theorem row_closed : joinedFacts Tryz.prog 3 Tryz.f3 Rows.deskTextsSpec Rows.deskTextsRow = true := by
  unfold joinedFacts
  repeat' (with_reducible refine band ?_ ?_)
  all_goals (as_aux_lemma => kernel_rfl)
theorem row_func : Tryz.prog.funcNamed Rows.deskTextsRow.func = some 3 := by kernel_rfl
theorem row_inst : Tryz.f3.isInstance Tryz.prog Rows.deskTextsRow.origin Rows.deskTextsRow.targs := of_decide_eq_true (by kernel_rfl)
theorem row_wrap : Tryz.f3.isWrapper Tryz.prog Rows.deskTextsRow.wrapper Rows.deskTextsRow.mainSum := by unfold Func.isWrapper; first | (rw [if_pos (by decide +kernel)]; kernel_rfl) | (rw [if_neg (by decide +kernel)]; exact ⟨rfl, rfl⟩)
end Go.Proofs.YtbldegmanbmpmaaGreatDoor
