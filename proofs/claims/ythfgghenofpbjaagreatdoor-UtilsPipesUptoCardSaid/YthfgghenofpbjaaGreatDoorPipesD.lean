/- UtilsPipes says true of every text of bulk up to 1048576, in any world that holds its tables; conditions: those. -/
import Derived.Test.YthfgghenofpbjaaGreatDoorPipesA
import Derived.Test.YthfgghenofpbjaaGreatDoorPipesB
import Derived.Test.YthfgghenofpbjaaGreatDoorCards
import Derived.Test.YthfgghenofpbjaaGreatDoorTie
import Derived.KernelRfl
import Derived.WalkKit
import Derived.ProofKit
import Derived.OpenShut
import Derived.ChangeMaps5
import Derived.Deep.DeepHandedRow
import Derived.Deep.DeepWitnessRowRef
import Derived.Lib.LaidTab
import Derived.Lib.LaidIn
import Derived.Lib.LaidU8
import Derived.Stop.LaidErr
open Go Go.Ev
namespace Go.Proofs.YthfgghenofpbjaaGreatDoor.Pipes
open Go.ChangeShapes Go.WideShapes Go.ChangeAt Go.RowKit
open Go.ChangeMaps (open_string shut_string)

noncomputable def lastOf (s : ByteArray) : ByteArray := (pieces s).getD (Lib.countB s nl) ByteArray.empty
theorem last_of (s : ByteArray) : (pieces s)[Lib.countB s nl]? = some (lastOf s) := by
  have h : Lib.countB s nl < (pieces s).length := by rw [pieces_len]; omega
  unfold lastOf
  rw [List.getD, List.getElem?_eq_getElem h]; rfl
noncomputable def headOf (s : ByteArray) : ByteArray := part s 0 (atMost (many s (lastOf s)))
noncomputable def tailOf (s : ByteArray) : ByteArray := part s (many s (lastOf s) - atMost (many s (lastOf s))) (atMost (many s (lastOf s)))
theorem head_small {s : ByteArray} (h : s.size ≤ 65536) : headOf s = s := by
  obtain ⟨h1, h2⟩ := small_part s (lastOf s) (last_of s) h
  unfold headOf
  rw [h1, h2]
theorem tail_small {s : ByteArray} (h : s.size ≤ 65536) : tailOf s = s := by
  obtain ⟨h1, h2⟩ := small_part s (lastOf s) (last_of s) h
  unfold tailOf
  rw [h1, Nat.sub_self, h2]
theorem head_size (s : ByteArray) : decide (65536 < (headOf s).size) = decide (65536 < s.size) := by
  by_cases h : 65536 < s.size
  · have := great_part s (lastOf s) (last_of s) h 0 (.inl rfl)
    rw [decide_eq_true h]; exact decide_eq_true this
  · rw [head_small (by omega)]
theorem tail_size (s : ByteArray) : decide (65536 < (tailOf s).size) = decide (65536 < s.size) := by
  by_cases h : 65536 < s.size
  · have := great_part s (lastOf s) (last_of s) h _ (.inr rfl)
    rw [decide_eq_true h]; exact decide_eq_true this
  · rw [tail_small (by omega)]
noncomputable def parsOf (m : Int) (s : ByteArray) : Pars :=
  { m, s, h := headOf s, t := tailOf s, b := decide (65536 < s.size), hs := rfl, hh := head_size s, ht := tail_size s
    same := fun hb => by
      have h : ¬ 65536 < s.size := of_decide_eq_false hb
      exact ⟨head_small (by omega), tail_small (by omega)⟩ }

theorem kept_of_below {w w' : World} (h : Below w.heap.size w w') : Kept w w' := ⟨h.os, h.tape, h.output, h.size, fun k hk => h.block k hk⟩
theorem v_inv {G : Ghost} {x y : Value} (h : VR G (.v x) y) : y = x := by cases h; rfl
/-- Head and Tail, as the evaluator is told of them. -/
theorem given_ends {m : Int} {s : ByteArray} {f : FuncId} {i : Nat} {u : ByteArray} (hu : names6 s (headOf s) (tailOf s) i = .string u)
    (hc : ∀ w : World, w.cell? ⟨2, 0, none⟩ = some (.int .i64 m) → Calls Tryz.prog f #[.string s, .int .i64 999999] w fun e w' => e = .returned (.string u) ∧ Below w.heap.size w w')
    {X : Given} (hX : GivenSound Tryz.prog (E6 (parsOf m s)) X) : GivenSound Tryz.prog (E6 (parsOf m s)) (saidEnds f i X) := by
  intro k g hk args σ r hr G w cargs hW hG hv
  by_cases hkf : k = f
  · subst hkf
    have hg : g = endsOf i := by
      unfold saidEnds at hk
      rw [Nat.beq_refl] at hk
      simpa using hk.symm
    subst hg
    unfold endsOf at hr
    split at hr
    · rename_i n
      split at hr
      · rename_i hn
        simp only [beq_iff_eq] at hn
        subst hn
        simp only [Option.some.injEq] at hr
        subst hr
        have hsym : G.sym = names6 s (headOf s) (tailOf s) := hG.sym
        have hargs : cargs = #[.string s, .int .i64 999999] := by
          obtain ⟨hl, hvs⟩ := hv
          have h2 : cargs.size = 2 := by simpa using hl.symm
          have e0 : cargs.toList[0]? = some (.string s) := by
            have hlt : 0 < cargs.toList.length := by simp; omega
            have := hvs 0 _ _ rfl (List.getElem?_eq_getElem hlt)
            rw [List.getElem?_eq_getElem hlt]
            cases this with
            | sym _ _ h _ => rw [hsym] at h; exact congrArg some h
          have e1 : cargs.toList[1]? = some (.int .i64 999999) := by
            have hlt : 1 < cargs.toList.length := by simp; omega
            have := hvs 1 _ _ rfl (List.getElem?_eq_getElem hlt)
            rw [List.getElem?_eq_getElem hlt]
            exact congrArg some (v_inv this)
          apply Array.toList_inj.1
          apply List.ext_getElem?
          intro j
          match j with
          | 0 => exact e0
          | 1 => exact e1
          | j + 2 => rw [List.getElem?_eq_none (by simp; omega), List.getElem?_eq_none (by simp)]
        subst hargs
        have hm : w.cell? ⟨2, 0, none⟩ = some (.int .i64 m) := by
          have := hG.glob 2 [.v (.int .i64 m)] rfl
          cases this with
          | iref _ _ gf h1 h2 h3 =>
            have q1 := (hW.lam _ _ _ (h2 0 (by simp))).1
            have q2 := h3 0 _ rfl
            rw [v_inv q2] at q1
            simpa using q1
        refine (hc w hm).mono fun e w' hh => ?_
        obtain ⟨rfl, hB⟩ := hh
        refine ⟨G, .refl G, hW.kept (kept_of_below hB), ?_⟩
        exact .sym i _ (by rw [hsym, hu]) rfl
      · simp at hr
    · simp at hr
  · have e : saidEnds f i X k = X k := by
      unfold saidEnds
      have : Nat.beq k f = false := by
        cases hh : Nat.beq k f
        · rfl
        · exact absurd (Nat.eq_of_beq_eq_true hh) hkf
      rw [this]
    rw [e] at hk
    exact hX k g hk args σ r hr G w cargs hW hG hv

theorem mixed : Tryz.prog.follows .mixedOrders = true := by kernel_rfl
theorem flat (p : Pars) : (E6 p).Flat := by
  intro g cs h x hx
  unfold E6 at h
  simp only at h
  split at h
  · simp only [Option.some.injEq] at h
    subst h
    obtain ⟨z, _, rfl⟩ := List.mem_map.1 hx
    exact ⟨_, rfl⟩
  · simp only [Option.some.injEq] at h
    subst h
    simp only [List.mem_cons, List.mem_nil_iff, or_false] at hx
    exact ⟨_, hx⟩
  · simp at h
theorem forgets6 (p : Pars) : (E6 p).forgets = false := rfl
theorem given4 (m : Int) {s : ByteArray} (hs : s.size < 4294967281) : GivenSound Tryz.prog (E6 (parsOf m s)) X4 := by
  obtain ⟨σ, h⟩ := saysTxts_eq (names_k (parsOf m s))
  rw [evT_eq (forgets6 _)] at h
  have g1 : GivenSound Tryz.prog (E6 (parsOf m s)) X1 := given_saidNil given_none mixed (flat _) given_none h rfl (by kernel_rfl)
  obtain ⟨σ', h'⟩ := saysTrue_eq (alive_k (parsOf m s))
  rw [evT_eq (forgets6 _)] at h'
  have g2 : GivenSound Tryz.prog (E6 (parsOf m s)) X2 := given_saidNil g1 mixed (flat _) g1 h' rfl rfl
  have big : ∀ f a, (part s f a).size ≤ 140737488355328 := fun f a => by have := part_le s f a; omega
  exact given_ends (u := tailOf s) rfl (fun w hm => tail_walk s m w hs hm (lastOf s) (last_of s) (big _ _))
    (given_ends (u := headOf s) rfl (fun w hm => head_walk s m w hs hm (lastOf s) (last_of s) (big _ _)) g2)
theorem pipes_true (m : Int) (s : ByteArray) : ∃ σ, (ev Tryz.prog (E6 (parsOf m s)) X4 400).fn 5 [.sym 0] ⟨0, []⟩ none = some (.ret (.v (.bool true)), σ, none) := by
  have h : saysTrue ((evT Tryz.prog (E6 (parsOf m s)) X4 400).fn 5 [.sym 0] ⟨0, []⟩ none) = true := by
    cases hb : (parsOf m s).b
    · exact small_k _ hb
    · exact great_k _ hb
  obtain ⟨σ, h⟩ := saysTrue_eq h
  rw [evT_eq (forgets6 _)] at h
  exact ⟨σ, h⟩

theorem own : ownKnob Tryz.prog.godebug = none := by kernel_rfl
theorem gTab : Tryz.prog.globalNamed "strings.asciiSpace" = some 0 := by kernel_rfl
theorem gTabType : (Tryz.prog.globals[0]?).map (·.type) = some 73 := by kernel_rfl
theorem cells73 : Tryz.prog.cellsOf 73 = 256 := by kernel_rfl
theorem cells5 : Tryz.prog.cellsOf 5 = 1 := by kernel_rfl
theorem tab_eq : (Rows.laid_strings_asciiSpace : DataW Unit) = Lib.tabData .u8 spaceTab := by kernel_rfl
theorem table {W : World} (h : laidMetH Tryz.prog Rows.utilsPipesUptoRow.laid W) : Lib.TabIs Tryz.prog W "strings.asciiSpace" .u8 spaceTab := by
  have h1 : laidMet Tryz.prog Rows.utilsPipesUptoRow.laid W := h
  have h2 : laidMet Tryz.prog [("strings.asciiSpace", Rows.laid_strings_asciiSpace), ("unicode/utf8.first", Rows.laid_unicode_utf8_first)] W := laidMet.tail (laidMet.tail h1)
  rw [tab_eq] at h2
  exact Lib.tabIs_of_head gTab gTabType Tryz.underlying73 Tryz.underlying5 cells5 cells73 h2
theorem globs {W : World} (h : laidMetH Tryz.prog Rows.utilsPipesUptoRow.laid W) {m : Int} (hm : W.cell? ⟨2, 0, none⟩ = some (.int .i64 m)) (s : ByteArray) : GlobR (Ghost.start W (E6 (parsOf m s)).sym) (E6 (parsOf m s)) := by
  refine ⟨fun g cs hg => ?_, rfl⟩
  unfold E6 at hg
  simp only at hg
  split at hg
  · simp only [Option.some.injEq] at hg
    subst hg
    refine .iref _ _ (fun i => .int .u8 (spaceTab.getD i 0)) rfl (fun i hi => ?_) (fun i x hx => ?_)
    · have hi' : i < spaceTab.length := by simpa [asciiSpace] using hi
      have := (table h).cell gTab i hi'
      simp only [Nat.zero_add]
      exact Ghost.start_lam this rfl
    · have : asciiSpace[i]? = (spaceTab[i]?).map fun z => AVal.v (.int .u8 z) := by simp [asciiSpace]
      rw [this] at hx
      cases hz : spaceTab[i]? with
      | none => rw [hz] at hx; simp at hx
      | some z =>
        rw [hz] at hx
        simp only [Option.map_some, Option.some.injEq] at hx
        subst hx
        simp only [List.getD, hz, Option.getD_some]
        exact .v _
  · simp only [Option.some.injEq] at hg
    subst hg
    refine .iref _ _ (fun _ => .int .i64 m) rfl (fun i hi => ?_) (fun i x hx => ?_)
    · have : i = 0 := by simpa using hi
      subst this
      exact Ghost.start_lam hm rfl
    · cases i with
      | zero => simp at hx; subst hx; exact .v _
      | succ i => simp at hx
  · simp at hg

theorem short {H : Type} {s : ByteArray} (hk : Rows.uptoSmall H [.lit (.string s.data.toList)] = true) : s.size ≤ 1048576 := by
  have h : Rows.uptoBulkAll [DataW.lit (H := H) (.string s.data.toList)] ≤ 1048576 := of_decide_eq_true hk
  simp only [Rows.uptoBulkAll, Rows.uptoBulk] at h
  have e : s.size = s.data.toList.length := by obtain ⟨⟨_⟩⟩ := s; rfl
  omega
set_option maxRecDepth 100000 in
theorem contract (H : Type) (enc : TypeId × Value → H) (W : World) (base : Nat) (args : Array Value) (ds gs : List (DataW H)) (before : List MemPlace)
    (hval : ∀ (j : Nat) t v, Tryz.f5.params[j]? = some t → args[j]? = some v → Value.okWide Tryz.prog W .any base t v)
    (hW : DataW.Whole enc Tryz.prog Tryz.f5.params.toList Rows.utilsPipesSpec.vars false W args.toList ds gs before) (hk : Rows.uptoSmall H (ds ++ gs) = true)
    (hL : laidMetH Tryz.prog Rows.utilsPipesUptoRow.laid W) (hsh : W.ShapedOpen Tryz.prog) :
    Calls Tryz.prog 5 args W fun e W' => ∃ v, e = .returned v ∧ Rows.utilsPipesSpec.post enc Tryz.prog Tryz.f5 false true false false W args v W' := by
  have hW' := hW
  obtain ⟨p, q, hA0, hV, rfl, hfz, hnd⟩ := hW
  have hA : DataW.TrodAll enc Tryz.prog W 0 (fun _ => true) true Tryz.f5.params.toList args.toList ds p := hA0
  rw [Tryz.params5] at hA hval
  obtain ⟨v0, vs0, d0, ds0, p0, q0, hargs, rfl, rfl, h0, r0⟩ := trodAll_cons hA
  obtain ⟨rfl, rfl, rfl⟩ := trodAll_nil r0
  obtain rfl : args = #[v0] := by cases args; simp_all
  obtain ⟨rfl, rfl⟩ := trodVars_none hV
  obtain ⟨s, rfl, rfl, rfl, hmax⟩ := open_string Tryz.underlying9 (hval 0 9 v0 rfl rfl) h0
  clear hA0
  simp only [List.append_nil] at hW' hk
  have hs := short hk
  obtain ⟨m, hm⟩ : ∃ m, W.cell? ⟨2, 0, none⟩ = some (.int .i64 m) := Tryz.laysM138.s1_3 W hsh
  obtain ⟨σ, hev⟩ := pipes_true m s
  refine (calls_of_ev (given4 m (by omega)) mixed hev (W := W) (cargs := #[.string s]) (globs hL hm s) (.cons (.sym 0 _ rfl rfl) (.nil _))).mono fun e W' hh => ?_
  obtain ⟨G', v, rfl, _, hv, hkept⟩ := hh
  cases hv
  exact ⟨_, rfl, post_of_kept (pa := []) (pv := []) hW' (fun _ _ _ => trodAll_cons_mk (shut_bool Tryz.underlying4 _) trodAll_mk0) (fun _ _ => trodAll_cons_mk (shut_string Tryz.underlying9 hmax) trodAll_mk0) (fun _ _ => rfl) rfl
    hkept (ok_one (by kernel_rfl) rfl (okWide_bool_mk Tryz.underlying4 _))⟩

end Go.Proofs.YthfgghenofpbjaaGreatDoor.Pipes
