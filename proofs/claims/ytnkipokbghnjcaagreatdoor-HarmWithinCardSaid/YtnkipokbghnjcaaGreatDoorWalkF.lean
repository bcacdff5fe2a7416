/-
  The row's closed facts, each by itself.
-/
import Derived.Test.YtnkipokbghnjcaaGreatDoorWalkE
import Derived.Test.YtnkipokbghnjcaaGreatDoorTie
import Derived.JoinedOf
import Derived.JoinedCond
/-! The row's closed facts, each by itself. -/
namespace Go.Proofs.YtnkipokbghnjcaaGreatDoor

theorem and_tt {a b : Bool} (ha : a = true) (hb : b = true) : (a && b) = true := by rw [ha, hb]; rfl

set_option maxRecDepth 100000 in
set_option maxHeartbeats 100000000 in
theorem rowFacts : joinedFacts Tryz.prog 3 Tryz.f3 (OpenSpec.ofChange Rows.harmWithinSpec).bare Rows.harmWithinRow = true := by
  unfold joinedFacts
  repeat' with_reducible apply and_tt
  all_goals (as_aux_lemma => kernel_rfl)
end Go.Proofs.YtnkipokbghnjcaaGreatDoor
