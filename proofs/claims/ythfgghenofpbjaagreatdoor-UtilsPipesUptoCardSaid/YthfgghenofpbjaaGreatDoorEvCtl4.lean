/- THE EVALUATOR IS SOUND: what it answers, the model's call comes to; its condition: answers that are given are right. -/
import Derived.Test.YthfgghenofpbjaaGreatDoorEvCtl3
namespace Go.Ev

section
variable {P : Program} {E : Env} {G : Ghost} {w : World} {C : Calls'} {f : FuncId}

def HasFn (P : Program) (f : FuncId) (fn : Func) : Prop := P.funcs[f]? = some fn

theorem enter_eq {fn : Func} {c : Code} (hf : P.funcs[f]? = some fn) (hb : fn.body = some c) (args : Array Value) (kd : CallKind) :
    Frame.enter P f args kd = ({ (default : Frame) with fn := f, kind := kd } : Frame).atR { tmps := args ++ Array.replicate (fn.ntmps - args.size) undef, defers := [] } [.code c] := by
  simp only [Frame.enter, hf, Frame.atR, Option.bind_some, hb, Option.map_some, Option.getD_some]
  rfl

theorem tmps_rel {args : List AVal} {cargs : Array Value} (h : VRs G args cargs.toList) (n : Nat) : VRs G (args ++ List.replicate (n - args.length) unset) (cargs ++ Array.replicate (n - cargs.size) undef).toList := by
  have hl : args.length = cargs.size := by have := h.1; simpa using this
  rw [Array.toList_append, Array.toList_replicate, hl]
  refine h.append ⟨by simp, fun i a d h1 h2 => ?_⟩
  have e1 := List.mem_of_getElem? h1
  have e2 := List.mem_of_getElem? h2
  rw [(List.mem_replicate.1 e1).2, (List.mem_replicate.1 e2).2]
  exact .v undef

/-- A function's body, whole: up to the frame's last step. -/
theorem body_sound (hC : FnSound P E C) (hR : RoundSound P E C) (hm : P.follows .mixedOrders = true) (n : Nat) {args : List AVal} {σ : ASt} {md : Option AMode} {r : AEnd × ASt × Option AMode}
    (h : evBody P E f C n args σ md = some r) {cargs : Array Value} (hW : WR G σ w) (hG : GlobR G E) (hargs : VRs G args cargs.toList) (kd : CallKind) {cs : List Frame}
    (hX : Ctx G md ({ (default : Frame) with fn := f, kind := kd } : Frame) cs) :
    ∃ ce w' fr' G' cs', G.Le G' ∧ WR G' r.2.1 w' ∧ EndR G' r.1 ce ∧ Rest md cs cs' ∧ Ctx G' r.2.2 ({ (default : Frame) with fn := f, kind := kd } : Frame) cs' ∧ md.isSome = r.2.2.isSome ∧
      Steps P (lone (Frame.enter P f cargs kd) cs w) (lone fr' cs' w') ∧ fr'.fn = f ∧ fr'.kind = kd ∧ fr'.defers = [] ∧ (∃ fn, HasFn P f fn ∧
      match ce with
      | .returned v => fr'.mode = .returning ∧ (results fn fr'.tmps).run P w' = .ok v w'
      | .panicked ch => fr'.mode = .panicking ch
      | .outgrown => False) := by
  unfold evBody at h
  cases hf : P.funcs[f]? with
  | none => rw [hf] at h; simp at h
  | some fn =>
    rw [hf] at h
    simp only at h
    cases hb : fn.body with
    | none => rw [hb] at h; simp at h
    | some c =>
      rw [hb] at h
      simp only at h
      let b : Frame := { (default : Frame) with fn := f, kind := kd }
      let a : Act := { tmps := cargs ++ Array.replicate (fn.ntmps - cargs.size) undef, defers := [] }
      have hA : ActR G ⟨args ++ List.replicate (fn.ntmps - args.length) unset, [], σ, md⟩ a := ⟨tmps_rel hargs fn.ntmps, rfl, by simp⟩
      have hcode := fun {e : AExit} {st' : St} (he : evCode P E f C n false c 0 ⟨args ++ List.replicate (fn.ntmps - args.length) unset, [], σ, md⟩ = some (e, st')) =>
        code_sound hC hR hm n false c 0 he hW hG hA (b := b) (cs := cs) hX rfl rfl (k := [])
      have henter := enter_eq (P := P) hf hb cargs kd
      -- from the end of the code to the end of the frame
      have fin : ∀ (st : St) (m : AMode) (e : AEnd) (σ' : ASt), leave P E f C fn st.ts st.ds m st.σ = some (e, σ') → r = (e, σ', st.mode) →
          ∀ G1 a1 w1 cs1 fm todo, G.Le G1 → WR G1 st.σ w1 → ActR G1 st a1 → Ctx G1 st.mode b cs1 → Rest md cs cs1 → md.isSome = st.mode.isSome → ModeR G1 m fm →
          Steps P (lone (b.atR a [.code c]) cs w) (lone { b.atR a1 todo with mode := fm } cs1 w1) →
          ∃ ce w' fr' G' cs', G.Le G' ∧ WR G' r.2.1 w' ∧ EndR G' r.1 ce ∧ Rest md cs cs' ∧ Ctx G' r.2.2 b cs' ∧ md.isSome = r.2.2.isSome ∧
            Steps P (lone (Frame.enter P f cargs kd) cs w) (lone fr' cs' w') ∧ fr'.fn = f ∧ fr'.kind = kd ∧ fr'.defers = [] ∧ (∃ fn, HasFn P f fn ∧
            match ce with
            | .returned v => fr'.mode = .returning ∧ (results fn fr'.tmps).run P w' = .ok v w'
            | .panicked ch => fr'.mode = .panicking ch
            | .outgrown => False) := by
        intro st m e σ' hl hr G1 a1 w1 cs1 fm todo le hW1 hA1 hX1 hR1 hS1 hM1 hst
        subst hr
        obtain ⟨ce, w2, fr2, G2, le2, q1, q2, q3, q4, q5, q6, q7⟩ := leave_sound hC hf st.ds m st.σ hl hW1 (hG.mono le) { b.atR a1 todo with mode := fm } cs1 rfl hA1.ts hA1.ds hM1
        refine ⟨ce, w2, fr2, G2, cs1, le.trans le2, q1, q2, hR1, hX1.mono le2, hS1, ?_, q4, q5, q6, fn, hf, q7⟩
        rw [henter]
        exact hst.trans q3
      cases he : evCode P E f C n false c 0 ⟨args ++ List.replicate (fn.ntmps - args.length) unset, [], σ, md⟩ with
      | none => rw [he] at h; simp at h
      | some q =>
        obtain ⟨e, st⟩ := q
        rw [he] at h
        obtain ⟨G1, ce, a1, w1, cs1, le, hW1, hA1, hX1, hR1, hS1, hE1, harr⟩ := hcode he
        cases e with
        | exit id => simp at h
        | normal =>
          simp only at h
          cases hl : leave P E f C fn st.ts st.ds .returning st.σ with
          | none => rw [hl] at h; simp at h
          | some q =>
            obtain ⟨e, σ'⟩ := q
            rw [hl] at h
            simp only [Option.map_some, Option.some.injEq] at h
            cases ce <;> (first | exact hE1.elim | skip)
            have h1 : Steps P (lone (b.atR a [.code c]) cs w) (lone { b.atR a1 [] with mode := .returning } cs1 w1) := Steps.trans harr (.one (stepR_end rfl))
            exact fin st .returning e σ' hl h.symm G1 a1 w1 cs1 .returning [] le hW1 hA1 hX1 hR1 hS1 trivial h1
        | ret =>
          simp only at h
          cases hl : leave P E f C fn st.ts st.ds .returning st.σ with
          | none => rw [hl] at h; simp at h
          | some q =>
            obtain ⟨e, σ'⟩ := q
            rw [hl] at h
            simp only [Option.map_some, Option.some.injEq] at h
            cases ce <;> (first | exact hE1.elim | skip)
            obtain ⟨k', hst⟩ := harr
            have h1 : Steps P (lone (b.atR a [.code c]) cs w) (lone { b.atR a1 (.code .ret :: k') with mode := .returning } cs1 w1) := Steps.trans hst (.one (stepR_ret rfl))
            exact fin st .returning e σ' hl h.symm G1 a1 w1 cs1 .returning _ le hW1 hA1 hX1 hR1 hS1 trivial h1
        | panic ch =>
          simp only at h
          cases hl : leave P E f C fn st.ts st.ds (.panicking ch) st.σ with
          | none => rw [hl] at h; simp at h
          | some q =>
            obtain ⟨e, σ'⟩ := q
            rw [hl] at h
            simp only [Option.map_some, Option.some.injEq] at h
            cases ce <;> (first | exact hE1.elim | skip)
            rename_i cch
            obtain ⟨todo, hst⟩ := harr
            exact fin st (.panicking ch) e σ' hl h.symm G1 a1 w1 cs1 (.panicking cch) todo le hW1 hA1 hX1 hR1 hS1 hE1 hst

theorem fold_rel : ∀ (ps : List Tmp) (args : List AVal) (cargs : List Value) (ts : List AVal) (cts : Array Value), VRs G args cargs → VRs G ts cts.toList →
    VRs G ((ps.zip args).foldl (fun t x => setAt t x.1 x.2) ts) ((ps.zip cargs).foldl (fun t x => t.setIfInBounds x.1 x.2) cts).toList := by
  intro ps
  induction ps with
  | nil => intro args cargs ts cts _ h; simpa using h
  | cons p ps ih =>
    intro args cargs ts cts ha h
    cases args with
    | nil => cases cargs with
      | nil => simpa using h
      | cons _ _ => simp [VRs] at ha
    | cons x args => cases cargs with
      | nil => simp [VRs] at ha
      | cons v cargs =>
        simp only [List.zip_cons_cons, List.foldl_cons]
        exact ih _ _ _ _ ha.tail (put_rel h ha.head (some p))

theorem round_sound (hC : FnSound P E C) (hR : RoundSound P E C) (hm : P.follows .mixedOrders = true) (n : Nat) {l : Nat} {args : List AVal} {σ : ASt} {r : AEnd × ASt × Option AMode}
    (h : evRound P E C n l args σ = some r) {cargs : Array Value} (hW : WR G σ w) (hG : GlobR G E) (hargs : VRs G args cargs.toList) :
    ∃ fn tmps assign body, (Instr.yield (G.own l).1 cargs).run P w = .ok (.round (G.own l).1 fn tmps assign body) w ∧
      ∀ (c : Frame) (cs : List Frame), ∃ G' w', G.Le G' ∧ WR G' r.2.1 w' ∧
        match r.1 with
        | .ret x => ∃ v, VR G' x v ∧ Steps P (lone (Frame.round (G.own l).1 fn tmps assign body .normal) (c :: cs) w) (lone (c.finish v) cs w')
        | .panic ch => ∃ cch, ChainR G' ch cch ∧ Steps P (lone (Frame.round (G.own l).1 fn tmps assign body .normal) (c :: cs) w) (lone (c.raise cch) cs w') := by
  unfold evRound at h
  split at h
  · rename_i p g ts ps a b d hg
    split at h
    · rename_i hlen
      obtain ⟨hlen, hfn⟩ := hlen
      obtain ⟨fn, hfn⟩ := Option.isSome_iff_exists.1 hfn
      obtain ⟨cts, o1, o2, o3⟩ := hW.obj _ _ hg
      have hcl : cargs.size = ps.length := by have := hargs.1; simp at this; omega
      let tmps : Array Value := (ps.zip cargs.toList).foldl (fun t x => t.setIfInBounds x.1 x.2) cts
      have hy : (Instr.yield (G.own l).1 cargs).run P w = .ok (.round (G.own l).1 g tmps a b) w := by
        have hz : (ps.toArray.zip cargs).foldl (fun (t : Array Value) (x : Tmp × Value) => t.setIfInBounds x.1 x.2) cts = tmps := by
          rw [← Array.foldl_toList]
          simp [tmps]
        simp only [Instr.yield, Instr.getLoop, Sem.run_bind, getObj, Sem.run, o1, Result.andThen_ok, Sem.run_pure]
        rw [if_neg (by simp [hcl])]
        simp only [Sem.run_pure]
        congr 2
      refine ⟨g, tmps, a, b, hy, fun c cs => ?_⟩
      let bR : Frame := { (default : Frame) with fn := g, kind := .normal, roundOf := some (G.own l).1 }
      have hround : Frame.round (G.own l).1 g tmps a b .normal = bR.atR { tmps := tmps, defers := [] } [.code a, .beginRound, .code b] := rfl
      simp only at h
      cases he : evCode P E g C n true a (useOf b).reads ⟨(ps.zip args).foldl (fun t x => setAt t x.1 x.2) ts, [], σ, none⟩ with
      | none => rw [he] at h; simp at h
      | some q =>
        obtain ⟨e1, st1⟩ := q
        rw [he] at h
        have hA : ActR G ⟨(ps.zip args).foldl (fun t x => setAt t x.1 x.2) ts, [], σ, none⟩ { tmps := tmps, defers := [] } := ⟨fold_rel ps args cargs.toList ts cts hargs o2, rfl, by simp⟩
        obtain ⟨G1, ce1, a1, w1, cs1, le1, hW1, hA1, hX1, hR1, hS1, hE1, harr1⟩ := code_sound hC hR hm n true a _ he hW hG hA (b := bR) (cs := c :: cs) rfl rfl rfl (k := [.beginRound, .code b])
        cases e1 with
        | exit _ => simp at h
        | ret => simp at h
        | panic _ => simp at h
        | normal =>
          simp only at h
          cases ce1 <;> (first | exact hE1.elim | skip)
          have hmode1 : st1.mode = none := by cases hq : st1.mode <;> simp_all
          have hcs1 : cs1 = c :: cs := hR1
          subst hcs1
          split at h
          · rename_i p1 g1 ts1 ps1 a1' b1 d1 hg1 hds1
            have hd1 : a1.defers = [] := by
              have := hA1.ds.1
              rw [hds1] at this
              exact List.eq_nil_of_length_eq_zero (by simpa using this.symm)
            have hl1 : (G1.own l).1 = (G.own l).1 := by
              have := hW.lt _ _ hg
              rw [← hW.nxt] at this
              rw [le1.own _ this]
            obtain ⟨cts1, r1, r2, r3⟩ := hW1.obj _ _ hg1
            obtain ⟨n1, n2, n3⟩ := hW1.noCells r1 (by intro c e f h; cases h)
            let O1 : Obj := .loop ⟨.busy, p1, g1, cts1, ps1.toArray, a1', b1, (G1.own d1).1⟩
            have hset := hW1.setObj hg1 (ob' := .loop .busy p1 g1 ts1 ps1 a1' b1 d1) (o := O1) n1 n2 n3 (by intro c e f h; simp only [O1] at h; cases h) (by
              refine ⟨cts1, ?_, r2, r3⟩
              have := hW1.here _ _ hg1
              show (w1.heap.setIfInBounds _ _)[_]? = _
              rw [Array.getElem?_setIfInBounds_self_of_lt this])
            have hbegin : (Instr.beginRound (G.own l).1).run P w1 = .ok () { w1 with heap := w1.heap.setIfInBounds (G1.own l).1 O1 } := by
              rw [← hl1]
              simp only [Instr.beginRound, Instr.getLoop, Sem.run_bind, getObj, Sem.run, r1, Result.andThen_ok, Sem.run_pure]
              simp [Go.setObj, Sem.run, r1, O1]
            have s1 : Steps P (lone (bR.atR { tmps := tmps, defers := [] } [.code a, .beginRound, .code b]) (c :: cs) w) (lone (bR.atR a1 [.code b]) (c :: cs) { w1 with heap := w1.heap.setIfInBounds (G1.own l).1 O1 }) :=
              Steps.trans harr1 (.one (stepR_beginRound rfl hbegin))
            cases he2 : evCode P E g C n true b 0 ⟨st1.ts, [], st1.σ.set l (.loop .busy p1 g1 ts1 ps1 a1' b1 d1), none⟩ with
            | none => rw [he2] at h; simp at h
            | some q =>
              obtain ⟨e2, st2⟩ := q
              rw [he2] at h
              · have hA1' : ActR G1 ⟨st1.ts, [], st1.σ.set l (.loop .busy p1 g1 ts1 ps1 a1' b1 d1), none⟩ a1 := ⟨hA1.ts, by rw [hd1]; exact ⟨rfl, by simp⟩⟩
                obtain ⟨G2, ce2, a2, w2, cs2, le2, hW2, hA2, hX2, hR2, hS2, hE2, harr2⟩ := code_sound hC hR hm n true b _ he2 hset (hG.mono le1) hA1' (b := bR) (cs := c :: cs) rfl rfl rfl (k := [])
                have hcs2 : cs2 = c :: cs := hR2
                subst hcs2
                have hl2 : (G2.own l).1 = (G.own l).1 := by
                  have := hW1.lt _ _ hg1
                  rw [← hW1.nxt] at this
                  rw [le2.own _ this, hl1]
                have fin : ∀ (jump : Option Code), ((match st2.σ.get l, st2.ds with
                    | some (.loop _ _ g' ts' ps' a' b' d'), [] => some (AEnd.ret (.v (.bool jump.isNone)), st2.σ.set l (.loop (if jump.isNone then .ready else .done) jump g' ts' ps' a' b' d'), (none : Option AMode))
                    | _, _ => none) = some r) →
                    (∀ (v : Value) (w3 : World), (Instr.endRound (G.own l).1 jump).run P w2 = .ok v w3 → Steps P (lone (Frame.round (G.own l).1 g tmps a b .normal) (c :: cs) w) (lone (c.finish v) cs w3)) →
                    ∃ G' w', G.Le G' ∧ WR G' r.2.1 w' ∧ match r.1 with
                      | .ret x => ∃ v, VR G' x v ∧ Steps P (lone (Frame.round (G.own l).1 g tmps a b .normal) (c :: cs) w) (lone (c.finish v) cs w')
                      | .panic ch => ∃ cch, ChainR G' ch cch ∧ Steps P (lone (Frame.round (G.own l).1 g tmps a b .normal) (c :: cs) w) (lone (c.raise cch) cs w') := by
                  intro jump hr hst
                  split at hr
                  · rename_i s3 p3 g3 ts3 ps3 a3 b3 d3 hg3 hds3
                    simp only [Option.some.injEq] at hr; subst hr
                    obtain ⟨cts3, t1, t2, t3⟩ := hW2.obj _ _ hg3
                    obtain ⟨m1, m2, m3⟩ := hW2.noCells t1 (by intro c e f h; cases h)
                    let O3 : Obj := .loop ⟨if jump.isNone then .ready else .done, jump, g3, cts3, ps3.toArray, a3, b3, (G2.own d3).1⟩
                    have hset3 := hW2.setObj hg3 (ob' := .loop (if jump.isNone then .ready else .done) jump g3 ts3 ps3 a3 b3 d3) (o := O3) m1 m2 m3 (by intro c e f h; simp only [O3] at h; cases h) (by
                      refine ⟨cts3, ?_, t2, t3⟩
                      have := hW2.here _ _ hg3
                      show (w2.heap.setIfInBounds _ _)[_]? = _
                      rw [Array.getElem?_setIfInBounds_self_of_lt this])
                    refine ⟨G2, _, le1.trans le2, hset3, .bool jump.isNone, .v _, hst _ _ ?_⟩
                    rw [← hl2]
                    simp only [Instr.endRound, Instr.getLoop, Sem.run_bind, getObj, Sem.run, t1, Result.andThen_ok, Sem.run_pure]
                    simp [Go.setObj, Sem.run, t1, O3]
                  · simp at hr
                cases e2 with
                | panic ch =>
                  simp only at h
                  cases ce2 <;> (first | exact hE2.elim | skip)
                  rename_i cch
                  split at h
                  · rename_i hds
                    simp only [Option.some.injEq] at h; subst h
                    obtain ⟨todo, hst⟩ := harr2
                    have hd2 : a2.defers = [] := by
                      have := hA2.ds.1
                      rw [hds] at this
                      exact List.eq_nil_of_length_eq_zero (by simpa using this.symm)
                    refine ⟨G2, w2, le1.trans le2, hW2, cch, hE2, ?_⟩
                    rw [hround]
                    refine s1.trans (hst.trans (.one ?_))
                    exact step_leave_panicked ⟨rfl, hd2, fn, hfn⟩
                  · simp at h
                | normal =>
                  simp only at h
                  cases ce2 <;> (first | exact hE2.elim | skip)
                  refine fin none h fun v w3 hv => ?_
                  rw [hround]
                  exact s1.trans (Steps.trans harr2 (.one (stepR_round_end rfl rfl hv)))
                | ret =>
                  simp only at h
                  cases ce2 <;> (first | exact hE2.elim | skip)
                  refine fin (some .ret) h fun v w3 hv => ?_
                  obtain ⟨k', hst⟩ := harr2
                  rw [hround]
                  exact s1.trans (hst.trans (.one (stepR_round_ret rfl rfl hv)))
                | exit i =>
                  simp only at h
                  cases ce2 <;> (first | exact hE2.elim | skip)
                  rename_i j
                  have hij : i = j := hE2
                  subst hij
                  refine fin (some (.exit i)) h fun v w3 hv => ?_
                  obtain ⟨k', hk', hst⟩ := harr2
                  rw [hround]
                  exact s1.trans (hst.trans (.one (stepR_round_exit rfl rfl (by rw [hk']; rfl) hv)))
          · simp at h
    · simp at h
  · simp at h
end

/-- What is given of a function is right. -/
def GivenSound (P : Program) (E : Env) (X : FuncId → Option (List AVal → ASt → Option (AEnd × ASt))) : Prop :=
  ∀ f g, X f = some g → ∀ args σ r, g args σ = some r → ∀ G w (cargs : Array Value), WR G σ w → GlobR G E → VRs G args cargs.toList →
    Calls P f cargs w fun e w' => ∃ G', G.Le G' ∧ WR G' r.2 w' ∧ EndR G' r.1 e

theorem ev_sound {P : Program} {E : Env} {X : FuncId → Option (List AVal → ASt → Option (AEnd × ASt))} (hX : GivenSound P E X) (hm : P.follows .mixedOrders = true) :
    ∀ n, FnSound P E (ev P E X n) ∧ RoundSound P E (ev P E X n) := by
  intro n
  induction n with
  | zero => exact ⟨fun f args σ m r h => by simp [ev] at h, fun l args σ r h => by simp [ev] at h⟩
  | succ n ih =>
    obtain ⟨hC, hR⟩ := ih
    refine ⟨fun f args σ m r h G w cargs hW hG hargs => ?_, fun l args σ r h G w cargs hW hG hl hargs => ?_⟩
    · simp only [ev] at h
      cases hg : X f with
      | some g =>
        rw [hg] at h
        simp only at h
        cases m with
        | some u => simp at h
        | none =>
          simp only at h
          cases hr : g args σ with
          | none => rw [hr] at h; simp at h
          | some q =>
            rw [hr] at h
            simp only [Option.map_some, Option.some.injEq] at h; subst h
            exact hX f g hg args σ q hr G w cargs hW hG hargs
      | none =>
        rw [hg] at h
        simp only at h
        cases m with
        | none =>
          intro cs
          obtain ⟨ce, w', fr', G', cs', le, q1, q2, q3, q4, q5, q6, q7, q8, q9, fn, hf, q10⟩ := body_sound hC hR hm n h hW hG hargs .normal (cs := cs) rfl
          have : cs' = cs := q3
          subst this
          refine ⟨ce, w', fr', ⟨G', le, q1, q2⟩, ?_, q7, ?_⟩
          · cases ce with
            | returned v => exact q6
            | panicked ch => exact q6
            | outgrown => exact q10.elim
          · cases ce with
            | returned v => exact ⟨q10.1, q9, q8, fn, q7 ▸ hf, q10.2⟩
            | panicked ch => exact ⟨q10, q9, fn, q7 ▸ hf⟩
            | outgrown => trivial
        | some u =>
          intro fu hfu c cs hc
          obtain ⟨ce, w', fr', G', cs', le, q1, q2, q3, q4, q5, q6, q7, q8, q9, fn, hf, q10⟩ := body_sound hC hR hm n h hW hG hargs .deferred (cs := c :: cs) ⟨rfl, c, cs, rfl, by rw [hc]; exact hfu⟩
          obtain ⟨c1, r1, u1, e1, e2⟩ := q3
          cases e1
          subst e2
          cases hm' : r.2.2 with
          | none => rw [hm'] at q5; simp at q5
          | some u' =>
            rw [hm'] at q4
            obtain ⟨_, c2, r2, e3, hM⟩ := q4
            cases e3
            refine ⟨ce, u1, w', fr', ⟨G', u', rfl, le, q1, q2, hM⟩, ?_, q8, ?_⟩
            · cases ce with
              | returned v => exact q6
              | panicked ch => exact q6
              | outgrown => exact q10.elim
            · cases ce with
              | returned v => exact ⟨q10.1, q9, fn, q7 ▸ hf, q10.2⟩
              | panicked ch => exact ⟨q10, q9, fn, q7 ▸ hf⟩
              | outgrown => trivial
    · exact round_sound hC hR hm n h hW hG hargs

end Go.Ev
