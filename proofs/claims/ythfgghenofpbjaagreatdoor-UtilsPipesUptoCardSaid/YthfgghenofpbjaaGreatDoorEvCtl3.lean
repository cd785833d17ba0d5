/- Calls and rounds, whole; no condition. -/
import Derived.Test.YthfgghenofpbjaaGreatDoorEvCtl2
namespace Go.Ev

section
variable {P : Program} {E : Env} {G : Ghost} {w : World} {C : Calls'} {f : FuncId}

/-- How a result variable is read. -/
def resSem (tmps : Array Value) : ResultVar → Sem Value
  | .tmp t => pure (tmps.getD t undef)
  | .cell a t => do loadVar t (← asAddr (tmps.getD a undef))
theorem results_eq (fn : Func) (tmps : Array Value) : results fn tmps = (do let vs ← fn.results.mapM (resSem tmps); pure (if h : vs.size = 1 then vs[0] else .tuple vs)) := by
  unfold results
  have : (fun r : ResultVar => match r with
    | .tmp t => (pure (tmps.getD t undef) : Sem Value)
    | .cell a t => do loadVar t (← asAddr (tmps.getD a undef))) = resSem tmps := by funext r; cases r <;> rfl
  rw [← this]
  rfl

theorem result_sound {σ : ASt} (hW : WR G σ w) {ts : List AVal} {tmps : Array Value} (ht : VRs G ts tmps.toList) {r : ResultVar} {x : AVal} (h : resultOf P σ ts r = some x) :
    ∃ v, (resSem tmps r).run P w = .ok v w ∧ VR G x v := by
  have getD : ∀ t, VR G (ts.getD t .junk) (tmps.getD t undef) := by
    intro t
    rw [List.getD]
    cases hq : ts[t]? with
    | none => exact .junk _
    | some y =>
      obtain ⟨d, h1, h2⟩ := ht.exists hq
      have : tmps.getD t undef = d := by rw [Array.getElem?_toList] at h1; simp [h1]
      rw [this]; exact h2
  cases r with
  | tmp t =>
    simp only [resultOf, Option.some.injEq] at h; subst h
    exact ⟨_, rfl, getD t⟩
  | cell a t =>
    simp only [resultOf] at h
    split at h
    · rename_i y σ1 hl
      simp only [Option.some.injEq] at h; subst h
      have h1 := load_sound (P := P) hW t (getD a) _ _ hl
      obtain ⟨w', G', v, hres, le, h2, h3⟩ := h1
      -- a load leaves memory alone
      have hσ : ∃ v, (Instr.loadAt t (tmps.getD a undef)).run P w = .ok v w ∧ VR G y v := by
        unfold evLoad at hl
        have ha := getD a
        split at hl
        · rename_i cs hcs
          rw [hcs] at ha
          cases hv : tmps.getD a undef <;> rw [hv] at ha <;> try (cases ha; done)
          rename_i p
          cases p with
          | none => cases ha
          | some p =>
            cases ha with
            | iref _ _ g q1 q2 q3 =>
              cases htv : takeVar P t cs with
              | none => rw [htv] at hl; simp at hl
              | some z =>
                rw [htv] at hl
                simp only [val1, Option.bind_some, Option.some.injEq, Prod.mk.injEq, ANext.val.injEq] at hl
                obtain ⟨rfl, rfl⟩ := hl
                obtain ⟨b, o, sp⟩ := p
                simp only at q1; subst q1
                obtain ⟨v, e1, e2⟩ := run_loadVar (P := P) (hW.lamCells q2 q3) htv
                exact ⟨v, by simpa [Instr.loadAt, Instr.sureAddr] using e1, e2⟩
        · rename_i id off hcs
          rw [hcs] at ha
          split at hl
          · rename_i e cs hg
            cases htv : takeVar P t (cs.drop off) with
            | none => rw [htv] at hl; simp at hl
            | some z =>
              rw [htv] at hl
              simp only [val1, Option.bind_some, Option.some.injEq, Prod.mk.injEq, ANext.val.injEq] at hl
              obtain ⟨rfl, rfl⟩ := hl
              obtain ⟨hp, _⟩ := ref_inv ha
              obtain ⟨v, e1, e2⟩ := run_loadVar (P := P) ((hW.objCells hg).drop off) htv
              exact ⟨v, by rw [hp]; simpa [Instr.loadAt, Instr.sureAddr] using e1, e2⟩
          · simp at hl
        · simp at hl
      obtain ⟨v, e1, e2⟩ := hσ
      refine ⟨v, ?_, e2⟩
      cases hv : tmps.getD a undef <;> rw [hv] at e1 <;> simp only [Instr.loadAt, Instr.sureAddr, Sem.run_bind, run_stuck, Result.andThen_halt] at e1 <;> (first | (cases e1; done) | skip)
      rename_i p
      cases p with
      | none => simp at e1
      | some p =>
        simp only [resSem]
        rw [hv]
        simpa [asAddr] using e1
    · simp at h

theorem results_list {σ : ASt} (hW : WR G σ w) {ts : List AVal} {tmps : Array Value} (ht : VRs G ts tmps.toList) : ∀ (rs : List ResultVar) (xs : List AVal), resultsOf P σ ts rs = some xs →
    ∃ vs : List Value, (rs.mapM (resSem tmps)).run P w = .ok vs w ∧ VRs G xs vs := by
  intro rs
  induction rs with
  | nil => intro xs h; simp only [resultsOf, Option.some.injEq] at h; subst h; exact ⟨[], rfl, .nil G⟩
  | cons r rs ih =>
    intro xs h
    simp only [resultsOf] at h
    cases hr : resultOf P σ ts r with
    | none => rw [hr] at h; simp at h
    | some x =>
      rw [hr] at h
      simp only [Option.bind_some] at h
      cases hrs : resultsOf P σ ts rs with
      | none => rw [hrs] at h; simp at h
      | some l =>
        rw [hrs] at h
        simp only [Option.map_some, Option.some.injEq] at h; subst h
        obtain ⟨v, e1, e2⟩ := result_sound hW ht hr
        obtain ⟨vs, e3, e4⟩ := ih l hrs
        refine ⟨v :: vs, ?_, .cons e2 e4⟩
        simp only [List.mapM_cons, Sem.run_bind, e1, Result.andThen_ok, e3]
        rfl

def oneOrTupleV : List Value → Value
  | [v] => v
  | l => .tuple l.toArray

theorem results_sound {σ : ASt} (hW : WR G σ w) {ts : List AVal} {tmps : Array Value} (ht : VRs G ts tmps.toList) {fn : Func} {xs : List AVal} (h : resultsOf P σ ts fn.results.toList = some xs) :
    ∃ vs : List Value, (results fn tmps).run P w = .ok (oneOrTupleV vs) w ∧ VRs G xs vs := by
  obtain ⟨vs, e1, e2⟩ := results_list (P := P) hW ht _ _ h
  refine ⟨vs, ?_, e2⟩
  rw [results_eq]
  simp only [Array.mapM_eq_mapM_toList, Sem.run_bind, Sem.run_map]
  rw [e1]
  simp only [Result.andThen_ok]
  cases vs with
  | nil => rfl
  | cons v vs => cases vs with
    | nil => rfl
    | cons v' vs => rfl

theorem oneOrTuple_rel {xs : List AVal} {vs : List Value} (h : VRs G xs vs) : VR G (oneOrTuple xs) (oneOrTupleV vs) := by
  cases xs with
  | nil => cases vs with
    | nil => exact (VRs.nil G).tuple
    | cons _ _ => simp [VRs] at h
  | cons x xs => cases vs with
    | nil => simp [VRs] at h
    | cons v vs => cases xs with
      | nil => cases vs with
        | nil => exact h.head
        | cons _ _ => have := h.1; simp at this
      | cons y ys => cases vs with
        | nil => have := h.1; simp at this
        | cons u us => exact h.tuple

theorem give_sound {σ : ASt} (hW : WR G σ w) {x : AVal} {v : Value} (h : VR G x v) : ∃ G', G.Le G' ∧ WR G' (giveOne σ x).2 w ∧ VR G' (giveOne σ x).1 v := by
  unfold giveOne
  split
  · rename_i k id off n cap
    split
    · rename_i e cs hg
      obtain ⟨a, c, rfl, h1, h2, h3, h4, t, N, h5, h6, h7⟩ := arr_inv h
      obtain ⟨t', N', b1, b2, b3, b4⟩ := hW.obj _ _ hg
      rw [h5] at b1; cases b1
      have hfree : ∀ j, (G.own id).2 ≤ j → G.lam (G.own id).1 j = none := hW.free _ _ hg
      have hcells : CellsR G w (G.own id).1 (G.own id).2 cs := b4
      obtain ⟨ds, d1, d2, d3, d4, _⟩ := run_loads (P := (default : Program)) hcells
      have hgrow := (hW.kill hg).grow (b := (G.own id).1) (o := (G.own id).2) (vs := ds) (hW.killed hg) (hW.base _ _ hg) hfree (hW.here _ _ hg) (fun i x hx => ⟨d4 i x hx, d3 x (List.mem_of_getElem? hx)⟩)
      have le1 : G.Le (G.grow (G.own id).1 (G.own id).2 ds) := Ghost.grow_le (hW.base _ _ hg) hfree
      split
      · rename_i hc
        obtain ⟨hn0, rfl, hn, rfl⟩ := hc
        have le2 := (G.grow (G.own id).1 (G.own id).2 ds).place_le (G.own id).1 ((G.own id).2 + ds.length)
        have hN : (G.own id).2 + ds.length ≤ N := by omega
        have had := hgrow.adopt (b := (G.own id).1) (o := (G.own id).2 + ds.length) (ob := .cells e []) (hW.killed hg) (hW.base _ _ hg) (hW.here _ _ hg) (fun j hj => Ghost.grow_lam_ge hj (hfree j (by omega))) (by
          refine ⟨t, N, ?_, ?_, ?_, by simp⟩
          · rw [Ghost.place_self]; exact h5
          · rw [Ghost.place_self]; simpa using hN
          · rw [Ghost.place_self]; intro o q1 q2; exact b3 o (by simp only at q1; omega) q2)
        refine ⟨_, le1.trans le2, had, ?_⟩
        have hnx : G.nxt = σ.next := hW.nxt
        obtain ⟨ab, ao, asp⟩ := a
        have ha := h4 (by omega)
        cases ha
        refine .list _ _ _ _ _ _ (fun j => ds.getD j undef) rfl hn.symm h2 (fun j hj => ?_) (fun j x hx => ?_) ⟨by show σ.next < G.nxt + 1; omega, fun _ => ⟨?_, t, N, h5, by simp only; omega⟩⟩
        · have hj' : j < ds.length := by omega
          rw [List.getD, List.getElem?_eq_getElem hj']
          simp only [Nat.add_zero]
          exact Ghost.grow_lam (List.getElem?_eq_getElem hj')
        · obtain ⟨d, q1, q2⟩ := d2.exists hx
          rw [List.getD, q1]
          exact q2.mono (le1.trans le2)
        · rw [← hnx]
          have := (G.grow (G.own id).1 (G.own id).2 ds).place_self (G.own id).1 ((G.own id).2 + ds.length)
          simp only at this ⊢
          rw [show G.nxt = (G.grow (G.own id).1 (G.own id).2 ds).nxt from rfl, this]
          congr 1; omega
      · split
        · rename_i hc
          obtain ⟨hn0, hle⟩ := hc
          refine ⟨_, le1, hgrow, ?_⟩
          have ha := h4 (by omega)
          cases ha
          refine .list _ _ _ _ _ _ (fun j => ds.getD (off + j) undef) rfl (by simp; omega) h2 (fun j hj => ?_) (fun j x hx => ?_) trivial
          · have hj' : off + j < ds.length := by simp at hj; omega
            rw [List.getD, List.getElem?_eq_getElem hj']
            simp only
            rw [Nat.add_assoc]
            exact Ghost.grow_lam (List.getElem?_eq_getElem hj')
          · rw [List.getElem?_take] at hx
            split at hx
            · rw [List.getElem?_drop] at hx
              obtain ⟨d, q1, q2⟩ := d2.exists hx
              rw [List.getD, q1]
              exact q2.mono le1
            · simp at hx
        · exact ⟨G, .refl G, hW, .junk _⟩
    · exact ⟨G, .refl G, hW, .junk _⟩
  · exact ⟨G, .refl G, hW, h⟩

theorem giveAll_sound : ∀ (xs : List AVal) (vs : List Value) {G : Ghost} {σ : ASt}, WR G σ w → VRs G xs vs → ∃ G', G.Le G' ∧ WR G' (giveAll σ xs).2 w ∧ VRs G' (giveAll σ xs).1 vs := by
  intro xs
  induction xs with
  | nil => intro vs G σ hW h; exact ⟨G, .refl G, hW, h⟩
  | cons x xs ih =>
    intro vs G σ hW h
    cases vs with
    | nil => simp [VRs] at h
    | cons v vs =>
      obtain ⟨G1, le1, h1, h2⟩ := give_sound hW h.head
      obtain ⟨G2, le2, h3, h4⟩ := ih vs h1 (h.tail.mono le1)
      exact ⟨G2, le1.trans le2, h3, .cons (h2.mono le2) h4⟩

theorem drop_all : ∀ (l : List PanicEntry), (∀ z ∈ l, z.goexit = false) → l.dropWhile (!·.goexit) = [] := by
  intro l
  induction l with
  | nil => intro _; rfl
  | cons a l ih =>
    intro h
    rw [List.dropWhile_cons, if_pos (by simp [h a (by simp)])]
    exact ih fun z hz => h z (by simp [hz])
theorem settle_rel {m : AMode} {u : FrameMode} (h : ModeR G m u) : ModeR G (settleA m) (settle u) := by
  cases m with
  | returning => cases u <;> first | exact h | exact h.elim
  | panicking xs =>
    cases u with
    | run => exact h.elim
    | returning => exact h.elim
    | panicking ys =>
      have hc : ChainR G xs ys := h
      cases xs with
      | nil =>
        have : ys = [] := List.eq_nil_of_length_eq_zero (by have := hc.1; simpa using this.symm)
        subst this; exact hc
      | cons x xs =>
        cases ys with
        | nil => have := hc.1; simp at this
        | cons y ys =>
          obtain ⟨v, r, rfl, e1, e2, e3⟩ := hc.2 0 x y rfl rfl
          obtain ⟨yv, yr, yg⟩ := y
          simp only at e2 e3
          subst e2; subst e3
          cases yr with
          | false => exact hc
          | true =>
            have hall : ys.dropWhile (!·.goexit) = [] := by
              refine drop_all ys ?_
              intro z hz
              obtain ⟨i, hi, rfl⟩ := List.getElem_of_mem hz
              have hi' : i < xs.length := by have := hc.1; simp at this; omega
              obtain ⟨_, _, _, _, _, e⟩ := hc.2 (i + 1) xs[i] ys[i] (by simp [hi']) (by simp [hi])
              exact e
            simp only [settleA, settle, hall]
            trivial
theorem raised_rel {m : AMode} {u : FrameMode} (h : ModeR G m u) {ch : List AEntry} {cch : List PanicEntry} (hc : ChainR G ch cch) : ModeR G (raisedA m ch) (raised u cch) := by
  cases m with
  | returning => cases u <;> first | exact hc | exact h.elim
  | panicking xs =>
    cases u with
    | run => exact h.elim
    | returning => exact h.elim
    | panicking ys => exact hc.append h

/-- The end of a frame: its deferred calls, its results. -/
theorem leave_sound (hC : FnSound P E C) {fn : Func} (_hf : P.funcs[f]? = some fn) {ts : List AVal} : ∀ (ds : List ADef) (m : AMode) (σ : ASt) {r : AEnd × ASt}, leave P E f C fn ts ds m σ = some r →
    ∀ {G : Ghost} {w : World}, WR G σ w → GlobR G E → ∀ (fr : Frame) (cs : List Frame), fr.fn = f → VRs G ts fr.tmps.toList → DefsR G ds fr.defers → ModeR G m fr.mode →
    ∃ ce w' fr' G', G.Le G' ∧ WR G' r.2 w' ∧ EndR G' r.1 ce ∧ Steps P (lone fr cs w) (lone fr' cs w') ∧ fr'.fn = f ∧ fr'.kind = fr.kind ∧ fr'.defers = [] ∧
      match ce with
      | .returned v => fr'.mode = .returning ∧ (results fn fr'.tmps).run P w' = .ok v w'
      | .panicked ch => fr'.mode = .panicking ch
      | .outgrown => False := by
  intro ds
  induction ds with
  | nil =>
    intro m σ r h G w hW hG fr cs hfn ht hds hm
    have hd : fr.defers = [] := List.eq_nil_of_length_eq_zero (by have := hds.1; simpa using this.symm)
    cases m with
    | returning =>
      simp only [leave] at h
      cases hr : resultsOf P σ ts fn.results.toList with
      | none => rw [hr] at h; simp at h
      | some l =>
        rw [hr] at h
        simp only [Option.bind_some] at h
        have hmode : fr.mode = .returning := by cases hq : fr.mode <;> rw [hq] at hm <;> first | rfl | exact hm.elim
        obtain ⟨vs, e1, e2⟩ := results_sound (P := P) hW ht hr
        split at h
        · simp only [Option.some.injEq] at h; subst h
          obtain ⟨G', le, h1, h2⟩ := giveAll_sound l vs hW e2
          exact ⟨.returned _, w, fr, G', le, h1, oneOrTuple_rel h2, .refl P _, hfn, rfl, hd, hmode, e1⟩
        · simp only [Option.some.injEq] at h; subst h
          exact ⟨.returned _, w, fr, G, .refl G, hW, oneOrTuple_rel e2, .refl P _, hfn, rfl, hd, hmode, e1⟩
    | panicking ch =>
      simp only [leave, Option.some.injEq] at h; subst h
      cases hq : fr.mode with
      | run => rw [hq] at hm; exact hm.elim
      | returning => rw [hq] at hm; exact hm.elim
      | panicking cch =>
        rw [hq] at hm
        exact ⟨.panicked cch, w, fr, G, .refl G, hW, hm, .refl P _, hfn, rfl, hd, hq⟩
  | cons d ds ih =>
    intro m σ r h G w hW hG fr cs hfn ht hds hm
    have hrun : fr.mode ≠ .run := by intro e; rw [e] at hm; cases m <;> exact hm.elim
    cases hdf : fr.defers with
    | nil => rw [hdf] at hds; simp [DefsR] at hds
    | cons cd cds =>
      rw [hdf] at hds
      have hd0 := hds.2 0 d cd rfl rfl
      have hdt : DefsR G ds cds := ⟨by have := hds.1; simpa using this, fun i a b h1 h2 => hds.2 (i + 1) a b (by simpa using h1) (by simpa using h2)⟩
      cases d with
      | mark id =>
        obtain ⟨rfl, hid⟩ := hd0
        simp only [leave] at h
        split at h
        · rename_i hg
          have hob := hW.obj _ _ hg
          have hb : w.heap[(G.own id).1]? = some (.deferred (some [])) := hob
          obtain ⟨n1, n2, n3⟩ := hW.noCells hb (by intro c e f h; cases h)
          have hset := hW.setObj hg (ob' := .marks true) (o := .deferred none) n1 n2 n3 (by intro c e f h; cases h) (by
            have := hW.here _ _ hg
            show (w.heap.setIfInBounds _ _)[_]? = _
            rw [Array.getElem?_setIfInBounds_self_of_lt this]; rfl)
          have htake : (Instr.takeDeferred (G.own id).1).run P w = .ok [] { w with heap := w.heap.setIfInBounds (G.own id).1 (.deferred none) } := by
            simp [Instr.takeDeferred, getObj, Sem.run, hb, Go.setObj]
          have hstep : step P (lone fr cs w) = .next (lone { fr with defers := cds } cs { w with heap := w.heap.setIfInBounds (G.own id).1 (.deferred none) }) := by
            refine step_lone_go ?_
            cases hq : fr.mode with
            | run => exact absurd hq hrun
            | returning => simp [stepG, unwind, hq, hdf, Sem.runT_eq, htake]
            | panicking ch => simp [stepG, unwind, hq, hdf, Sem.runT_eq, htake]
          obtain ⟨ce, w', fr', G', le, q1, q2, q3, q4, q5, q6, q7⟩ := ih m _ h hset hG { fr with defers := cds } cs hfn ht hdt hm
          exact ⟨ce, w', fr', G', le, q1, q2, .head hstep q3, q4, q5, q6, q7⟩
        · simp at h
      | call d =>
        obtain ⟨cap, htar, hny, hcap, hargs⟩ := hd0
        simp only [leave] at h
        split at h
        · rename_i g hg
          split at h
          · rename_i hbody
            have hinv : (invoke cd.target cd.args).run P w = .ok (.enter g (cd.args ++ cap)) w := by
              rw [htar, hg]; simp only [invoke]; exact callFunc_run hbody
            have h1 := step_defer (P := P) (cs := cs) hrun hdf htar hinv
            have hav : VRs G (d.args ++ d.captured) (cd.args ++ cap).toList := by simpa using hargs.append hcap
            cases hc : C.fn g (d.args ++ d.captured) σ (some m) with
            | none => rw [hc] at h; simp at h
            | some q =>
              obtain ⟨e1, σ1, m1⟩ := q
              rw [hc] at h
              have hcall := hC g _ _ (some m) _ hc G w (cd.args ++ cap) hW hG hav fr.mode hm
              obtain ⟨ce, fu', w1, frX, ⟨G1, u', hu', le1, hW1, hE1, hM1⟩, hsteps, hkX, hgo⟩ := hcall { fr with defers := cds } cs rfl
              simp only at hu'
              subst hu'
              cases e1 with
              | ret x =>
                simp only at h
                cases ce with
                | panicked _ => exact hE1.elim
                | outgrown => exact hE1.elim
                | returned v =>
                  have h2 := step_going_returned (c := { { fr with defers := cds } with mode := fu' }) (cs := cs) hkX hgo
                  obtain ⟨ce, w', fr', G', le, q1, q2, q3, q4, q5, q6, q7⟩ := ih _ _ h hW1 (hG.mono le1) { { { fr with defers := cds } with mode := fu' } with mode := settle fu' } cs hfn (ht.mono le1) (hdt.mono le1) (settle_rel hM1)
                  exact ⟨ce, w', fr', G', le1.trans le, q1, q2, .head h1 (Steps.trans hsteps (.head h2 q3)), q4, q5, q6, q7⟩
              | panic ch =>
                simp only at h
                cases ce with
                | returned _ => exact hE1.elim
                | outgrown => exact hE1.elim
                | panicked cch =>
                  have h2 := step_going_panicked (c := { { fr with defers := cds } with mode := fu' }) (cs := cs) hgo
                  obtain ⟨ce, w', fr', G', le, q1, q2, q3, q4, q5, q6, q7⟩ := ih _ _ h hW1 (hG.mono le1) { { { fr with defers := cds } with mode := fu' } with mode := raised fu' cch } cs hfn (ht.mono le1) (hdt.mono le1) (raised_rel hM1 hE1)
                  exact ⟨ce, w', fr', G', le1.trans le, q1, q2, .head h1 (Steps.trans hsteps (.head h2 q3)), q4, q5, q6, q7⟩
          · simp at h
        · simp at h

end
end Go.Ev
