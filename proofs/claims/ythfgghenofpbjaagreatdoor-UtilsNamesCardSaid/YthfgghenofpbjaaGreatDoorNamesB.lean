/- The closed facts of UtilsNames' row; no condition. -/
import Derived.Test.YthfgghenofpbjaaGreatDoorCards
import Derived.KernelRfl
import Derived.WalkKit
import Derived.ProofKit
import Derived.Deep.DeepHandedRow
open Go
namespace Go.Proofs.YthfgghenofpbjaaGreatDoor.Names
theorem and_ok {a b : Bool} (h : a = true) (k : b = true) : (a && b) = true := by rw [h, k]; rfl
set_option maxHeartbeats 20000000 in
theorem facts : joinedFacts Tryz.prog 6 Tryz.f6 (OpenSpec.ofChange Rows.utilsNamesSpec).bare Rows.utilsNamesRow = true := by
  unfold joinedFacts
  repeat' (with_reducible refine and_ok ?_ ?_)
  all_goals (as_aux_lemma => kernel_rfl)
theorem named : Tryz.prog.funcNamed "cowrie/cowrielaw12.UtilsNames" = some 6 := by kernel_rfl
theorem inst : Tryz.f6.isInstance Tryz.prog Rows.utilsNamesRow.origin Rows.utilsNamesRow.targs := of_decide_eq_true (by kernel_rfl)
theorem wrap : Tryz.f6.isWrapper Tryz.prog Rows.utilsNamesRow.wrapper Rows.utilsNamesRow.mainSum := by
  unfold Func.isWrapper
  first
    | (rw [if_pos (by decide +kernel)]; kernel_rfl)
    | (rw [if_neg (by decide +kernel)]; exact ⟨rfl, rfl⟩)
end Go.Proofs.YthfgghenofpbjaaGreatDoor.Names
