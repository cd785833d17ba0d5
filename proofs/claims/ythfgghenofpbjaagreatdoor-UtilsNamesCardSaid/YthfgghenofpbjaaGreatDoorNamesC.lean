/- Each name is known, and none of them with an octet more: UtilsNames returns true at every number and leaves it as it was; conditions: none beyond the card's own (the package variables start as the text lays them). -/
import Derived.Test.YthfgghenofpbjaaGreatDoorNamesA
import Derived.Test.YthfgghenofpbjaaGreatDoorNamesB
import Derived.Test.YthfgghenofpbjaaGreatDoorCards
import Derived.Test.YthfgghenofpbjaaGreatDoorTie
import Derived.KernelRfl
import Derived.WalkKit
import Derived.ProofKit
import Derived.OpenShut
import Derived.Deep.DeepHandedRow
import Derived.Deep.DeepWitnessRowRef
import Derived.Lib.LaidTab
import Derived.Lib.LaidIn
import Derived.Lib.LaidU8
import Derived.Stop.LaidErr
open Go Go.Ev
namespace Go.Proofs.YthfgghenofpbjaaGreatDoor.Names
open Go.ChangeShapes Go.WideShapes Go.ChangeAt Go.RowKit
/- The answers that are given are sound. -/
theorem mixed : Tryz.prog.follows .mixedOrders = true := by kernel_rfl
theorem flat : E1.Flat := by
  intro g cs h x hx
  unfold E1 at h
  simp only at h
  split at h
  · simp only [Option.some.injEq] at h
    subst h
    obtain ⟨z, _, rfl⟩ := List.mem_map.1 hx
    exact ⟨_, rfl⟩
  · simp at h
theorem forgets1 : E1.forgets = false := rfl
theorem given1 : GivenSound Tryz.prog E1 X1 := by
  obtain ⟨σ, h⟩ := saysTxts_eq names_k
  rw [evT_eq forgets1] at h
  exact given_saidNil given_none mixed flat given_none h rfl (by kernel_rfl)
theorem given2 : GivenSound Tryz.prog E1 X2 := by
  obtain ⟨σ, h⟩ := saysTrue_eq alive_k
  rw [evT_eq forgets1] at h
  exact given_saidNil given1 mixed flat given1 h rfl rfl

theorem own : ownKnob Tryz.prog.godebug = none := by kernel_rfl
theorem gTab : Tryz.prog.globalNamed "strings.asciiSpace" = some 0 := by kernel_rfl
theorem gTabType : (Tryz.prog.globals[0]?).map (·.type) = some 73 := by kernel_rfl
theorem cells73 : Tryz.prog.cellsOf 73 = 256 := by kernel_rfl
theorem cells5 : Tryz.prog.cellsOf 5 = 1 := by kernel_rfl
theorem tab_eq : (Rows.laid_strings_asciiSpace : DataW Unit) = Lib.tabData .u8 spaceTab := by kernel_rfl
theorem table {W : World} (h : laidMetH Tryz.prog Rows.utilsNamesRow.laid W) : Lib.TabIs Tryz.prog W "strings.asciiSpace" .u8 spaceTab := by
  have h1 : laidMet Tryz.prog Rows.utilsNamesRow.laid W := h
  have h2 : laidMet Tryz.prog [("strings.asciiSpace", Rows.laid_strings_asciiSpace), ("unicode/utf8.first", Rows.laid_unicode_utf8_first)] W := laidMet.tail (laidMet.tail h1)
  rw [tab_eq] at h2
  exact Lib.tabIs_of_head gTab gTabType Tryz.underlying73 Tryz.underlying5 cells5 cells73 h2
theorem globs {W : World} (h : laidMetH Tryz.prog Rows.utilsNamesRow.laid W) : GlobR (Ghost.start W) E1 := by
  intro g cs hg
  unfold E1 at hg
  simp only at hg
  split at hg
  · simp only [Option.some.injEq] at hg
    subst hg
    refine .iref _ _ (fun i => .int .u8 (spaceTab.getD i 0)) rfl (fun i hi => ?_) (fun i x hx => ?_)
    · have hi' : i < spaceTab.length := by simpa [asciiSpace] using hi
      have := (table h).cell gTab i hi'
      simp only [Nat.zero_add]
      exact Ghost.start_lam this rfl
    · have : asciiSpace[i]? = (spaceTab[i]?).map fun z => AVal.v (.int .u8 z) := by simp [asciiSpace]
      rw [this] at hx
      cases hz : spaceTab[i]? with
      | none => rw [hz] at hx; simp at hx
      | some z =>
        rw [hz] at hx
        simp only [Option.map_some, Option.some.injEq] at hx
        subst hx
        simp only [List.getD, hz, Option.getD_some]
        exact .v _
  · simp at hg

set_option maxRecDepth 100000 in
theorem contract (H : Type) (enc : TypeId × Value → H) (W : World) (base : Nat) (args : Array Value) (ds gs : List (DataW H)) (before : List MemPlace)
    (hval : ∀ (j : Nat) t v, Tryz.f6.params[j]? = some t → args[j]? = some v → Value.okWide Tryz.prog W .any base t v)
    (hW : DataW.Whole enc Tryz.prog Tryz.f6.params.toList Rows.utilsNamesSpec.vars false W args.toList ds gs before) (hL : laidMetH Tryz.prog Rows.utilsNamesRow.laid W) :
    Calls Tryz.prog 6 args W fun e W' => ∃ v, e = .returned v ∧ Rows.utilsNamesSpec.post enc Tryz.prog Tryz.f6 false true false false W args v W' := by
  have hW' := hW
  obtain ⟨p, q, hA0, hV, rfl, hfz, hnd⟩ := hW
  have hA : DataW.TrodAll enc Tryz.prog W 0 (fun _ => true) true Tryz.f6.params.toList args.toList ds p := hA0
  rw [Tryz.params6] at hA hval
  obtain ⟨v0, vs0, d0, ds0, p0, q0, hargs, rfl, rfl, h0, r0⟩ := trodAll_cons hA
  obtain ⟨rfl, rfl, rfl⟩ := trodAll_nil r0
  obtain rfl : args = #[v0] := by cases args; simp_all
  obtain ⟨rfl, rfl⟩ := trodVars_none hV
  obtain ⟨z, rfl, rfl, rfl, hwf⟩ := open_int Tryz.underlying3 (hval 0 3 v0 rfl rfl) h0
  clear hA0
  simp only [List.append_nil] at hW'
  obtain ⟨σ, hev⟩ := names_true z
  refine (calls_of_ev given2 mixed hev (W := W) (cargs := #[.int .i64 z]) (globs hL) (.cons (.v _) (.nil _))).mono fun e W' hh => ?_
  obtain ⟨G', v, rfl, _, hv, hk⟩ := hh
  cases hv
  exact ⟨_, rfl, post_of_kept (pa := []) (pv := []) hW' (fun _ _ _ => trodAll_cons_mk (shut_bool Tryz.underlying4 _) trodAll_mk0) (fun _ _ => trodAll_cons_mk (shut_int Tryz.underlying3 hwf) trodAll_mk0) (fun _ _ => rfl) rfl
    hk (ok_one (by kernel_rfl) rfl (okWide_bool_mk Tryz.underlying4 _))⟩

/-- A world for the witness: the settled one with two blocks more (the white spaces' ranges; their table), the four variables holding what their initialisers lay. -/
noncomputable def laidWorld (os : Os) : World :=
  let N := (World.settled Tryz.prog os).heap.size
  let w0 := World.holding Tryz.prog os ⟨#[.cells (Lib.whiteT.map fun (z : Nat) => Value.int .u16 (z : Int)).toArray 182, .cells #[.slice (some ⟨N, 0, none⟩) 7 7, .slice none 0 0, .int .i64 2] 179], #[], []⟩
  let put (h : Array Obj) (g : Nat) (cs : Array Value) : Array Obj := h.modify g fun
    | .cells _ t frozen => .cells cs t frozen
    | o => o
  let h1 := put w0.heap 0 (spaceTab.map fun z => Value.int .u8 z).toArray
  let h2 := put h1 3 (Lib.firstTab.map fun z => Value.int .u8 z).toArray
  let h3 := put h2 4 ((List.range 16).flatMap fun i => [Value.int .u8 (Lib.accLo i), Value.int .u8 (Lib.accHi i)]).toArray
  let h4 := put h3 1 #[.pointer (some ⟨N + 1, 0, none⟩)]
  { w0 with heap := h4 }
theorem laid_met (os : Os) (args : Array Value) : laidMet Tryz.prog Rows.utilsNamesRow.laid ((laidWorld os).forCall (fun _ _ => 0) ⟨#[], args, []⟩).memory :=
  laidMet_of_run' 10 (by kernel_rfl) (by kernel_rfl)
theorem witness_row (os : Os) {H : Type} (enc : TypeId × Value → H) :
    (OpenSpec.ofChange Rows.utilsNamesSpec).preRow enc Tryz.prog Tryz.f6 Rows.utilsNamesRow.domain false Rows.utilsNamesRow.laid ((laidWorld os).forCall (fun _ _ => 0) ⟨#[], #[.int .i64 0], []⟩).memory #[.int .i64 0] := by
  have hw : (DataW.whole enc Tryz.prog ((laidWorld os).forCall (fun _ _ => 0) ⟨#[], #[.int .i64 0], []⟩).memory Tryz.f6.params.toList Rows.utilsNamesSpec.vars false #[Value.int .i64 0].toList 8).map (fun x => (x.1, x.2.1)) =
      some ([.lit (.int .i64 0)], []) := by kernel_rfl
  obtain ⟨⟨x1, x2, x3⟩, hx, hx1⟩ := Option.map_eq_some_iff.1 hw
  simp only [Prod.mk.injEq] at hx1
  obtain ⟨rfl, rfl⟩ := hx1
  exact OpenSpec.preRow_of_cond 8 hx (by kernel_rfl) (fun k hk => by cases hk) (by kernel_rfl) (laid_met os _)

set_option maxRecDepth 100000 in
theorem lifted (os : Os) (started : os.Started) (H : Type) (enc : TypeId × Value → H) (F : Stop.Interp) :
    ReturnsInHanded {} Tryz.checked os 6 .any ((OpenSpec.ofChange Rows.utilsNamesSpec).preRow enc Tryz.prog Tryz.f6 Rows.utilsNamesRow.domain false Rows.utilsNamesRow.laid) (((OpenSpec.ofChange Rows.utilsNamesSpec).at F).post enc Tryz.prog Tryz.f6 false true false false) := by
  refine returnsInHanded_of_row (C := Tryz.checked) (s := OpenSpec.ofChange Rows.utilsNamesSpec) own started (by kernel_rfl) Tryz.func6
    (witness_row_atRef (enc := enc) (C := Tryz.checked) false (laidWorld os) #[.int .i64 0] rfl (by kernel_rfl) (by kernel_rfl) (by kernel_rfl) (witness_row os enc)) ?_
  intro W base args ds gs before hval hW _ _ _ hL _ _
  exact contract H enc W base args ds gs before hval hW hL

set_option maxRecDepth 100000 in
theorem said : Rows.UtilsNamesSaid :=
  OpenClaim.holds_of_cond 6 Tryz.f6 rfl rfl rfl rfl rfl rfl rfl ⟨rfl, rfl, rfl, rfl, rfl⟩ rfl rfl rfl rfl rfl named Tryz.func6 facts inst wrap
    (fun os started H enc _ F => by rw [OpenClaim.pre_eq_preRow]; exact lifted os started H enc F)

/-- No parameter wants a stand-in; the program's own looks are off. -/
theorem plain (f : FuncId) (fn : Func) (hf : Tryz.pinned.checked.prog.funcNamed "cowrie/cowrielaw12.UtilsNames" = some f) (hfn : Tryz.pinned.checked.prog.funcs[f]? = some fn) :
    true = Tryz.pinned.checked.prog.looks [] ∧ ∀ (j : Nat) t, fn.params[j]? = some t → Tryz.pinned.checked.prog.wantsStandIn t = false := by
  obtain rfl : f = 6 := Option.some.inj ((show Tryz.prog.funcNamed "cowrie/cowrielaw12.UtilsNames" = some 6 by kernel_rfl).symm.trans hf) |>.symm
  obtain rfl : fn = Tryz.f6 := (Option.some.inj (Tryz.func6.symm.trans hfn)).symm
  refine ⟨by kernel_rfl, fun j t ht => ?_⟩
  rw [Tryz.params6] at ht
  obtain rfl : t = 3 := by simpa using Array.mem_of_getElem? ht
  exact (show Tryz.prog.wantsStandIn 3 = false by kernel_rfl)

theorem card : Rows.UtilsNamesCardSaid :=
  Claim7.holds_tied_plain_at .later [] _ _ _ _ said (fun _ h => by cases h) (by kernel_rfl) (fun _ h => by cases h) utilsNames_row_tie rfl ⟨rfl, rfl⟩ (by kernel_rfl) rfl plain (by kernel_rfl)
#print axioms card
end Go.Proofs.YthfgghenofpbjaaGreatDoor.Names
