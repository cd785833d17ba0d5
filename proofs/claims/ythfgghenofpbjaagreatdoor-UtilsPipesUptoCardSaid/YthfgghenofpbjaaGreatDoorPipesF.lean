/- cat tells its input; head and tail of as many lines as there are, too: UtilsPipes returns true at every text of bulk up to 1048576 and leaves it as it was; conditions: none beyond the card's own (the bulk; the package variables start as the text lays them). -/
import Derived.Test.YthfgghenofpbjaaGreatDoorPipesE
import Derived.Test.YthfgghenofpbjaaGreatDoorPipesC
import Derived.Test.YthfgghenofpbjaaGreatDoorCards
import Derived.Test.YthfgghenofpbjaaGreatDoorTie
import Derived.KernelRfl
import Derived.WalkKit
import Derived.ProofKit
import Derived.Deep.DeepHandedRow
open Go Go.Ev
namespace Go.Proofs.YthfgghenofpbjaaGreatDoor.Pipes
set_option maxRecDepth 100000 in
theorem said : Rows.UtilsPipesUptoSaid :=
  OpenClaim.holds_of_cond 5 Tryz.f5 rfl rfl rfl rfl rfl rfl rfl ⟨rfl, rfl, rfl, rfl, rfl⟩ rfl rfl rfl rfl rfl named Tryz.func5 facts inst wrap
    (fun os started H enc _ F => by rw [OpenClaim.pre_eq_preRow]; exact lifted os started H enc F)

/-- No parameter wants a stand-in; the program's own looks are off. -/
theorem plain (f : FuncId) (fn : Func) (hf : Tryz.pinned.checked.prog.funcNamed "cowrie/cowrielaw12.UtilsPipes" = some f) (hfn : Tryz.pinned.checked.prog.funcs[f]? = some fn) :
    true = Tryz.pinned.checked.prog.looks [] ∧ ∀ (j : Nat) t, fn.params[j]? = some t → Tryz.pinned.checked.prog.wantsStandIn t = false := by
  obtain rfl : f = 5 := Option.some.inj ((show Tryz.prog.funcNamed "cowrie/cowrielaw12.UtilsPipes" = some 5 by kernel_rfl).symm.trans hf) |>.symm
  obtain rfl : fn = Tryz.f5 := (Option.some.inj (Tryz.func5.symm.trans hfn)).symm
  refine ⟨by kernel_rfl, fun j t ht => ?_⟩
  rw [Tryz.params5] at ht
  obtain rfl : t = 9 := by simpa using Array.mem_of_getElem? ht
  exact (show Tryz.prog.wantsStandIn 9 = false by kernel_rfl)

theorem card : Rows.UtilsPipesUptoCardSaid :=
  Claim7.holds_tied_plain_at .later [] _ _ _ _ said (fun _ h => by cases h) (by kernel_rfl) (fun _ h => by cases h) utilsPipesUpto_row_tie rfl ⟨rfl, rfl⟩ (by kernel_rfl) rfl plain (by kernel_rfl)
#print axioms card
end Go.Proofs.YthfgghenofpbjaaGreatDoor.Pipes
