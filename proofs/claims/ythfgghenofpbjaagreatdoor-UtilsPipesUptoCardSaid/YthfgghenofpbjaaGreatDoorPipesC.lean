/- The closed facts of UtilsPipes' second row; no condition. -/
import Derived.Test.YthfgghenofpbjaaGreatDoorCards
import Derived.KernelRfl
import Derived.WalkKit
import Derived.ProofKit
import Derived.Deep.DeepHandedRow
open Go
namespace Go.Proofs.YthfgghenofpbjaaGreatDoor.Pipes
theorem and_ok {a b : Bool} (h : a = true) (k : b = true) : (a && b) = true := by rw [h, k]; rfl
set_option maxHeartbeats 20000000 in
theorem facts : joinedFacts Tryz.prog 5 Tryz.f5 (Rows.OpenSpec.upto Rows.utilsPipesSpec).bare Rows.utilsPipesUptoRow = true := by
  unfold joinedFacts
  repeat' (with_reducible refine and_ok ?_ ?_)
  all_goals (as_aux_lemma => kernel_rfl)
theorem named : Tryz.prog.funcNamed "cowrie/cowrielaw12.UtilsPipes" = some 5 := by kernel_rfl
theorem inst : Tryz.f5.isInstance Tryz.prog Rows.utilsPipesUptoRow.origin Rows.utilsPipesUptoRow.targs := of_decide_eq_true (by kernel_rfl)
theorem wrap : Tryz.f5.isWrapper Tryz.prog Rows.utilsPipesUptoRow.wrapper Rows.utilsPipesUptoRow.mainSum := by
  unfold Func.isWrapper
  first
    | (rw [if_pos (by decide +kernel)]; kernel_rfl)
    | (rw [if_neg (by decide +kernel)]; exact ⟨rfl, rfl⟩)
end Go.Proofs.YthfgghenofpbjaaGreatDoor.Pipes
