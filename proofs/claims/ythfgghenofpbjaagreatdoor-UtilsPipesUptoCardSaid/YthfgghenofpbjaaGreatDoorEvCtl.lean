/- The relation for frames; one operation's steps; no condition. -/
import Derived.Test.YthfgghenofpbjaaGreatDoorEvOps14
import Derived.AtR
import Derived.RangeFuncIn
import Derived.Recover
namespace Go.Ev

def ChainR (G : Ghost) (xs : List AEntry) (ys : List PanicEntry) : Prop :=
  xs.length = ys.length ∧ ∀ (i : Nat) x y, xs[i]? = some x → ys[i]? = some y → ∃ v r, x = .mk v r ∧ VR G v y.v ∧ y.recovered = r ∧ y.goexit = false
def ModeR (G : Ghost) : AMode → FrameMode → Prop
  | .returning, .returning => True
  | .panicking xs, .panicking ys => ChainR G xs ys
  | _, _ => False
def EndR (G : Ghost) : AEnd → Ending → Prop
  | .ret x, .returned v => VR G x v
  | .panic xs, .panicked ys => ChainR G xs ys
  | _, _ => False
def ExitR (G : Ghost) : AExit → Exit → Prop
  | .normal, .normal => True
  | .exit i, .exit j => i = j
  | .ret, .ret => True
  | .panic xs, .panic ys => ChainR G xs ys
  | _, _ => False
def DefsR (G : Ghost) (xs : List ADef) (ys : List Deferred) : Prop :=
  xs.length = ys.length ∧ ∀ (i : Nat) x y, xs[i]? = some x → ys[i]? = some y → match x with
    | .call d => DefR G d y
    | .mark id => y = { target := .collected (G.own id).1, args := #[] } ∧ id < G.nxt
structure ActR (G : Ghost) (st : St) (a : Act) : Prop where
  ts : VRs G st.ts a.tmps.toList
  ds : DefsR G st.ds a.defers

theorem ChainR.mono {G G' : Ghost} (h : G.Le G') {xs : List AEntry} {ys : List PanicEntry} (r : ChainR G xs ys) : ChainR G' xs ys :=
  ⟨r.1, fun i x y h1 h2 => let ⟨v, q, e1, e2, e3⟩ := r.2 i x y h1 h2; ⟨v, q, e1, e2.mono h, e3⟩⟩
theorem ModeR.mono {G G' : Ghost} (h : G.Le G') {m : AMode} {u : FrameMode} (r : ModeR G m u) : ModeR G' m u := by
  cases m <;> cases u <;> first | exact r | (have r' : ChainR G _ _ := r; exact r'.mono h)
theorem DefR.mono {G G' : Ghost} (h : G.Le G') {d : ADefer} {c : Deferred} (r : DefR G d c) : DefR G' d c := by
  obtain ⟨cap, h1, h2, h3, h4⟩ := r
  exact ⟨cap, h1, h2, h3.mono h, h4.mono h⟩
theorem DefsR.mono {G G' : Ghost} (h : G.Le G') {xs : List ADef} {ys : List Deferred} (r : DefsR G xs ys) : DefsR G' xs ys := by
  refine ⟨r.1, fun i x y h1 h2 => ?_⟩
  have := r.2 i x y h1 h2
  cases x with
  | call d => exact DefR.mono h this
  | mark id =>
    obtain ⟨e1, e2⟩ := this
    exact ⟨by rw [h.own id e2]; exact e1, Nat.lt_of_lt_of_le e2 h.nxt⟩
theorem ActR.mono {G G' : Ghost} (h : G.Le G') {st : St} {a : Act} (r : ActR G st a) : ActR G' st a := ⟨r.ts.mono h, r.ds.mono h⟩
theorem DefsR.cons {G : Ghost} {xs : List ADef} {ys : List Deferred} {x : ADef} {y : Deferred} (h : match x with
    | .call d => DefR G d y
    | .mark id => y = { target := .collected (G.own id).1, args := #[] } ∧ id < G.nxt) (r : DefsR G xs ys) : DefsR G (x :: xs) (y :: ys) := by
  refine ⟨by simp [r.1], fun i a d h1 h2 => ?_⟩
  cases i with
  | zero => simp at h1 h2; subst h1; subst h2; exact h
  | succ i => exact r.2 i a d (by simpa using h1) (by simpa using h2)
theorem ChainR.one {G : Ghost} {x : AVal} {y : Value} (h : VR G x y) : ChainR G [.mk x false] [{ v := y, recovered := false }] := by
  refine ⟨rfl, fun i a d h1 h2 => ?_⟩
  cases i with
  | zero => simp at h1 h2; subst h1; subst h2; exact ⟨x, false, rfl, h, rfl, rfl⟩
  | succ i => simp at h1
theorem ChainR.append {G : Ghost} {xs xs' : List AEntry} {ys ys' : List PanicEntry} (h : ChainR G xs ys) (h' : ChainR G xs' ys') : ChainR G (xs ++ xs') (ys ++ ys') := by
  refine ⟨by simp [h.1, h'.1], fun i a d h1 h2 => ?_⟩
  by_cases hi : i < xs.length
  · rw [List.getElem?_append_left hi] at h1
    rw [List.getElem?_append_left (by rw [← h.1]; exact hi)] at h2
    exact h.2 i a d h1 h2
  · rw [List.getElem?_append_right (by omega)] at h1
    rw [List.getElem?_append_right (by rw [← h.1]; omega), ← h.1] at h2
    exact h'.2 _ a d h1 h2

theorem setAt_get : ∀ (l : List AVal) (n i : Nat) (x : AVal), (setAt l n x)[i]? = if i = n ∧ n < l.length then some x else l[i]? := by
  intro l
  induction l with
  | nil => intro n i x; simp [setAt]
  | cons y l ih =>
    intro n i x
    cases n with
    | zero =>
      cases i with
      | zero => simp [setAt]
      | succ i => simp [setAt]
    | succ n =>
      cases i with
      | zero => simp [setAt]
      | succ i => simp [setAt, ih]
theorem setAt_len : ∀ (l : List AVal) (n : Nat) (x : AVal), (setAt l n x).length = l.length := by
  intro l
  induction l with
  | nil => intro n x; simp [setAt]
  | cons y l ih => intro n x; cases n <;> simp [setAt, ih]
theorem put_rel {G : Ghost} {ts : List AVal} {cs : Array Value} {x : AVal} {y : Value} (h : VRs G ts cs.toList) (hx : VR G x y) (dst : Option Tmp) :
    VRs G (put ts dst x) (match dst with | some d => cs.setIfInBounds d y | none => cs).toList := by
  cases dst with
  | none => exact h
  | some d =>
    simp only [put]
    refine ⟨by rw [setAt_len, h.1]; simp, fun i a b h1 h2 => ?_⟩
    rw [setAt_get] at h1
    have hsz : ts.length = cs.size := by have := h.1; simpa using this
    rw [Array.getElem?_toList, Array.getElem?_setIfInBounds] at h2
    by_cases hd : i = d
    · subst hd
      by_cases hl : i < ts.length
      · rw [if_pos ⟨rfl, hl⟩] at h1
        simp only [Option.some.injEq] at h1; subst h1
        rw [if_pos rfl, if_pos (by omega)] at h2
        simp only [Option.some.injEq] at h2; subst h2
        exact hx
      · rw [if_neg (by omega)] at h1
        rw [List.getElem?_eq_none (by omega)] at h1
        simp at h1
    · rw [if_neg (by omega)] at h1
      rw [if_neg (fun e => hd e.symm)] at h2
      exact h.2 i a b h1 (by simpa using h2)
theorem act_put {G : Ghost} {st : St} {a : Act} {x : AVal} {y : Value} (h : ActR G st a) (hx : VR G x y) (dst : Option Tmp) (σ : ASt) (m : Option AMode) :
    ActR G { st with ts := put st.ts dst x, σ := σ, mode := m } (a.put dst y) := by
  have := put_rel h.ts hx dst
  cases dst with
  | none => exact ⟨this, h.ds⟩
  | some d => exact ⟨this, h.ds⟩

/-- The frame that unwinds, where the frame at work was deferred. -/
def Ctx (G : Ghost) (m : Option AMode) (b : Frame) (cs : List Frame) : Prop :=
  match m with
  | none => b.kind = .normal
  | some u => b.kind = .deferred ∧ ∃ c r, cs = c :: r ∧ ModeR G u c.mode
/-- Callers part in the first one's mode alone, and not at all below a normal call. -/
def Rest (m : Option AMode) (cs cs' : List Frame) : Prop :=
  match m with
  | none => cs' = cs
  | some _ => ∃ c r u, cs = c :: r ∧ cs' = { c with mode := u } :: r
theorem Ctx.mono {G G' : Ghost} (h : G.Le G') {m : Option AMode} {b : Frame} {cs : List Frame} (r : Ctx G m b cs) : Ctx G' m b cs := by
  cases m with
  | none => exact r
  | some u => obtain ⟨h1, c, r, e, h2⟩ := r; exact ⟨h1, c, r, e, h2.mono h⟩
theorem Rest.refl {G : Ghost} {m : Option AMode} {b : Frame} {cs : List Frame} (h : Ctx G m b cs) : Rest m cs cs := by
  cases m with
  | none => rfl
  | some u => obtain ⟨_, c, r, e, _⟩ := h; exact ⟨c, r, c.mode, e, e⟩
theorem Rest.trans {m m' : Option AMode} (hm : m.isSome = m'.isSome) {a b c : List Frame} (h : Rest m a b) (k : Rest m' b c) : Rest m a c := by
  cases m <;> cases m' <;> simp at hm
  · exact Eq.trans k h
  · obtain ⟨c1, r1, u1, e1, e2⟩ := h
    obtain ⟨c2, r2, u2, e3, e4⟩ := k
    rw [e2] at e3
    cases e3
    exact ⟨c1, r1, u2, e1, e4⟩

/-- What calls come to. -/
def FnSound (P : Program) (E : Env) (C : Calls') : Prop :=
  ∀ f args σ m r, C.fn f args σ m = some r → ∀ G w (cargs : Array Value), WR G σ w → GlobR G E → VRs G args cargs.toList →
    match m with
    | none => Calls P f cargs w fun e w' => ∃ G', G.Le G' ∧ WR G' r.2.1 w' ∧ EndR G' r.1 e
    | some u => ∀ fu, ModeR G u fu → CallsD P f cargs fu w fun e fu' w' => ∃ G' u', r.2.2 = some u' ∧ G.Le G' ∧ WR G' r.2.1 w' ∧ EndR G' r.1 e ∧ ModeR G' u' fu'

/-- What a round comes to: its frame's steps. -/
def RoundSound (P : Program) (E : Env) (C : Calls') : Prop :=
  ∀ l args σ r, C.round l args σ = some r → ∀ G w (cargs : Array Value), WR G σ w → GlobR G E → l < G.nxt → VRs G args cargs.toList →
    ∃ fn tmps assign body, (Instr.yield (G.own l).1 cargs).run P w = .ok (.round (G.own l).1 fn tmps assign body) w ∧
      ∀ (c : Frame) (cs : List Frame), ∃ G' w', G.Le G' ∧ WR G' r.2.1 w' ∧
        match r.1 with
        | .ret x => ∃ v, VR G' x v ∧ Steps P (lone (Frame.round (G.own l).1 fn tmps assign body .normal) (c :: cs) w) (lone (c.finish v) cs w')
        | .panic ch => ∃ cch, ChainR G' ch cch ∧ Steps P (lone (Frame.round (G.own l).1 fn tmps assign body .normal) (c :: cs) w) (lone (c.raise cch) cs w')

section
variable {P : Program} {E : Env} {G : Ghost} {w : World} {C : Calls'} {f : FuncId}

/-- How the run of an operation goes on, in memory. -/
def RunR (P : Program) (G : Ghost) (r : ORun) (m : Machine) (b : Frame) (k : List Item) (cs : List Frame) (md : Option AMode) : Prop :=
  match r with
  | .next st => ∃ G' a w' cs', G.Le G' ∧ WR G' st.σ w' ∧ ActR G' st a ∧ Ctx G' st.mode b cs' ∧ Rest md cs cs' ∧ md.isSome = st.mode.isSome ∧ Steps P m (lone (b.atR a k) cs' w')
  | .panic ch st => ∃ G' a w' cs' cch todo, G.Le G' ∧ WR G' st.σ w' ∧ ActR G' st a ∧ Ctx G' st.mode b cs' ∧ Rest md cs cs' ∧ md.isSome = st.mode.isSome ∧ ChainR G' ch cch ∧
      Steps P m (lone { b.atR a todo with mode := .panicking cch } cs' w')

theorem runOp_sound (hC : FnSound P E C) (hR : RoundSound P E C) {rd : Bool} {st : St} {o : Oper} {r : ORun} (h : runOp P E f C rd st o = some r) (hW : WR G st.σ w) (hG : GlobR G E)
    {a : Act} (hA : ActR G st a) {b : Frame} {cs : List Frame} (hX : Ctx G st.mode b cs) (hrd : b.roundOf.isSome = rd) {ops : Array Oper} {i : Nat} {rest : List Nat} {k : List Item}
    (ho : ops[i]? = some o) (hw : Region.wanted o (yielded ops a.tmps) = true) :
    RunR P G r (lone (b.atR a (.inRegion ops (i :: rest) :: k)) cs w) b (.inRegion ops rest :: k) cs st.mode := by
  have hρ := fun x => operand_sound (E := E) hG hA.ts x
  unfold runOp at h
  have hg := stepGR_op (P := P) (b := b) (a := a) (k := k) (cs := cs) (w := w) (rest := rest) ho hw
  have hfin : ∀ v, (b.atR a (.inRegion ops (i :: rest) :: k)).finish v = b.atR (a.put o.dst v) (.inRegion ops rest :: k) := by
    intro v; rw [Frame.finish_atR, ho]; rfl
  have hsem : (∀ c, o.op ≠ .defer c) → o.semAt b.roundOf a.eval = execOp a.eval o := fun hd => Oper.semAt_eq _ _ _ hd
  cases hev : evOp P E f st.σ st.ts o with
  | none => rw [hev] at h; simp at h
  | some res =>
    obtain ⟨n, σ1⟩ := res
    have hs := op_sound f hW hG.sym hρ o n σ1 hev
    rw [hev] at h
    have hnd : (∀ d, n ≠ .defer d) → ∀ c, o.op ≠ .defer c := by
      intro hn c hc
      unfold evOp at hev
      split at hev
      · rename_i q hq
        simp only [Option.some.injEq] at hev
        subst hev
        rw [show o = { o with op := .defer c } by cases o; simp at hc; rw [hc]] at hq
        simp only [evOp0] at hq
        unfold evDefer at hq
        split at hq
        · split at hq
          · simp only [Option.some.injEq, Prod.mk.injEq] at hq; exact hn _ hq.1.symm
          · simp at hq
        · simp at hq
      · cases hq : E.rule P o (o.op.operands.toList.map (evOperand E st.ts)) with
        | none => rw [hq] at hev; simp at hev
        | some y => exact (E.right P o _ y hq).2.1 c hc
    cases n with
    | val x =>
      simp only [Option.some.injEq] at h; subst h
      obtain ⟨w', G', y, hres, le, h1, h2⟩ := hs
      refine ⟨G', a.put o.dst y, w', cs, le, h1, act_put (hA.mono le) h2 _ _ _, hX.mono le, Rest.refl hX, rfl, .one (step_lone_go ?_)⟩
      rw [hg, hsem (hnd (by simp)), ← hfin]
      rcases hres with hres | ⟨hres, rfl⟩ <;> simp [stepG.apply, hres]
    | enter g args =>
      obtain ⟨cargs, hres, h1, h2⟩ := hs
      have henter : step P (lone (b.atR a (.inRegion ops (i :: rest) :: k)) cs w) =
          .next (lone (Frame.enter P g cargs .normal) (b.atR a (.inRegion ops (i :: rest) :: k) :: cs) w) :=
        step_lone_go (by rw [hg, hsem (hnd (by simp))]; simp [stepG.apply, hres, Frame.atR])
      simp only at h
      cases hc : C.fn g args σ1 none with
      | none => rw [hc] at h; simp at h
      | some q =>
        obtain ⟨e, σ2, m2⟩ := q
        rw [hc] at h
        obtain ⟨ce, w', fr, ⟨G', le, h3, h4⟩, hsteps, _, hleave⟩ := hC g args σ1 none _ hc G w cargs h1 hG h2 (b.atR a (.inRegion ops (i :: rest) :: k) :: cs)
        cases e with
        | ret x =>
          simp only [Option.some.injEq] at h; subst h
          cases ce with
          | returned v =>
            refine ⟨G', a.put o.dst v, w', cs, le, h3, act_put (hA.mono le) h4 _ _ _, hX.mono le, Rest.refl hX, rfl, .head henter (hsteps.trans (.one ?_))⟩
            rw [← hfin]; exact step_leave_returned hleave
          | panicked _ => exact h4.elim
          | outgrown => exact h4.elim
        | panic ch =>
          simp only [Option.some.injEq] at h; subst h
          cases ce with
          | returned v => exact h4.elim
          | panicked cch =>
            refine ⟨G', a, w', cs, cch, .inRegion ops (i :: rest) :: k, le, h3, ⟨hA.ts.mono le, hA.ds.mono le⟩, hX.mono le, Rest.refl hX, rfl, h4, .head henter (hsteps.trans (.one ?_))⟩
            rw [← Frame.raise_atR]; exact step_leave_panicked hleave
          | outgrown => exact h4.elim
    | round l args =>
      obtain ⟨cargs, hres, hl, h1, h2⟩ := hs
      simp only at h
      cases hc : C.round l args σ1 with
      | none => rw [hc] at h; simp at h
      | some q =>
        obtain ⟨e, σ2, m2⟩ := q
        rw [hc] at h
        obtain ⟨fn, tmps, assign, body, hy, hrun⟩ := hR l args σ1 _ hc G w cargs h1 hG hl h2
        obtain ⟨G', w', le, h3, hst⟩ := hrun (b.atR a (.inRegion ops (i :: rest) :: k)) cs
        rw [hy] at hres
        have henter : step P (lone (b.atR a (.inRegion ops (i :: rest) :: k)) cs w) =
            .next (lone (Frame.round (G.own l).1 fn tmps assign body .normal) (b.atR a (.inRegion ops (i :: rest) :: k) :: cs) w) :=
          step_lone_go (by rw [hg, hsem (hnd (by simp))]; simp [stepG.apply, hres, Frame.atR])
        cases e with
        | ret x =>
          simp only [Option.some.injEq] at h; subst h
          obtain ⟨v, h4, h5⟩ := hst
          rw [hfin] at h5
          exact ⟨G', a.put o.dst v, w', cs, le, h3, act_put (hA.mono le) h4 _ _ _, hX.mono le, Rest.refl hX, rfl, .head henter h5⟩
        | panic ch =>
          simp only [Option.some.injEq] at h; subst h
          obtain ⟨cch, h4, h5⟩ := hst
          exact ⟨G', a, w', cs, cch, .inRegion ops (i :: rest) :: k, le, h3, ⟨hA.ts.mono le, hA.ds.mono le⟩, hX.mono le, Rest.refl hX, rfl, h4, .head henter h5⟩
    | defer d =>
      simp only at h
      split at h
      · simp at h
      · rename_i hrd'
        simp only [Option.some.injEq] at h; subst h
        obtain ⟨cd, hres, h1, h2⟩ := hs
        have hro : b.roundOf = none := by cases hb : b.roundOf <;> simp_all
        have hse : o.semAt b.roundOf a.eval = execOp a.eval o := by rw [hro]; rfl
        refine ⟨G, { a with defers := cd :: a.defers }.put o.dst undef, w, cs, .refl G, h1, ?_, hX, Rest.refl hX, rfl, .one (step_lone_go ?_)⟩
        · have hA' : ActR G { st with ds := .call d :: st.ds } { a with defers := cd :: a.defers } := ⟨hA.ts, DefsR.cons h2 hA.ds⟩
          exact act_put hA' (.v undef) o.dst σ1 st.mode
        · have : ({ b.atR a (.inRegion ops (i :: rest) :: k) with defers := cd :: a.defers } : Frame).finish undef =
              b.atR ({ a with defers := cd :: a.defers }.put o.dst undef) (.inRegion ops rest :: k) := by
            have := Frame.finish_atR b { a with defers := cd :: a.defers } ops i rest k undef
            rw [ho] at this; exact this
          rw [hg, hse]; simp only [stepG.apply, Sem.runT_eq, hres, GStep.bare_after]
          exact congrArg (fun fr => GStep.go { frame := fr, callers := cs, status := .running, dying := none } w) this
    | panic x =>
      simp only [Option.some.injEq] at h; subst h
      obtain ⟨w', y, hres, h1, h2⟩ := hs
      refine ⟨G, a, w', cs, [{ v := y, recovered := false }], .inRegion ops (i :: rest) :: k, .refl G, h1, ⟨hA.ts, hA.ds⟩, hX, Rest.refl hX, rfl, ChainR.one h2, .one (step_lone_go ?_)⟩
      rw [hg, hsem (hnd (by simp)), ← Frame.raise_atR]; simp [stepG.apply, hres]
    | recover =>
      simp only at h
      split at h
      · simp at h
      · rename_i hrd'
        simp only [Option.some.injEq] at h; subst h
        obtain ⟨hres, h1⟩ := hs
        have hro : b.roundOf = none := by cases hb : b.roundOf <;> simp_all
        have hse : o.semAt b.roundOf a.eval = execOp a.eval o := by rw [hro]; rfl
        have stepTo : ∀ (v : Value) (cs' : List Frame), (match tryRecover (b.atR a (.inRegion ops (i :: rest) :: k)) cs with | some r => r | none => (.nilIface, cs)) = (v, cs') →
            Steps P (lone (b.atR a (.inRegion ops (i :: rest) :: k)) cs w) (lone (b.atR (a.put o.dst v) (.inRegion ops rest :: k)) cs' w) := by
          intro v cs' hv
          refine .one (step_lone_go ?_)
          rw [hg, hse, ← hfin]
          have hro' : (b.atR a (.inRegion ops (i :: rest) :: k)).roundOf = none := hro
          simp only [stepG.apply, Sem.runT_eq, hres, GStep.bare_after, hro']
          cases ht : tryRecover (b.atR a (.inRegion ops (i :: rest) :: k)) cs with
          | none => rw [ht] at hv; simp only [Prod.mk.injEq] at hv; obtain ⟨rfl, rfl⟩ := hv; rfl
          | some r => rw [ht] at hv; simp only at hv; subst hv; rfl
        cases hm : st.mode with
        | none =>
          rw [hm] at hX
          have hk : (b.atR a (.inRegion ops (i :: rest) :: k)).kind = .normal := hX
          have ht : tryRecover (b.atR a (.inRegion ops (i :: rest) :: k)) cs = none := by unfold tryRecover; rw [hk]
          have := stepTo .nilIface cs (by rw [ht])
          exact ⟨G, _, w, cs, .refl G, h1, act_put hA (.v .nilIface) o.dst σ1 none, hX, rfl, rfl, this⟩
        | some u =>
          rw [hm] at hX
          obtain ⟨hk, c, r, rfl, hcm⟩ := hX
          have hk' : (b.atR a (.inRegion ops (i :: rest) :: k)).kind = .deferred := hk
          have ht : tryRecover (b.atR a (.inRegion ops (i :: rest) :: k)) (c :: r) = recoverD (c :: r) := tryRecover_deferred hk' _
          have same : recoverD (c :: r) = none → recoverA (some u) = (.v .nilIface, some u) →
              RunR P G (.next { st with ts := put st.ts o.dst (recoverA (some u)).1, σ := σ1, mode := (recoverA (some u)).2 }) (lone (b.atR a (.inRegion ops (i :: rest) :: k)) (c :: r) w) b (.inRegion ops rest :: k) (c :: r) (some u) := by
            intro q1 q2
            rw [q2]
            have := stepTo .nilIface (c :: r) (by rw [ht, q1])
            exact ⟨G, _, w, c :: r, .refl G, h1, act_put hA (.v .nilIface) o.dst σ1 (some u), ⟨hk, c, r, rfl, hcm⟩, ⟨c, r, c.mode, rfl, rfl⟩, rfl, this⟩
          cases u with
          | returning =>
            refine same ?_ rfl
            cases hcmode : c.mode <;> rw [hcmode] at hcm <;> first | exact hcm.elim | simp [recoverD, hcmode]
          | panicking chain =>
            cases hcmode : c.mode with
            | run => rw [hcmode] at hcm; exact hcm.elim
            | returning => rw [hcmode] at hcm; exact hcm.elim
            | panicking ys =>
              rw [hcmode] at hcm
              have hch : ChainR G chain ys := hcm
              cases chain with
              | nil =>
                have : ys = [] := by have := hch.1; exact List.eq_nil_of_length_eq_zero (by simpa using this.symm)
                subst this
                exact same (by simp [recoverD, hcmode]) rfl
              | cons en older =>
                cases ys with
                | nil => have := hch.1; simp at this
                | cons y yo =>
                  obtain ⟨v, rc, rfl, e1, e2, e3⟩ := hch.2 0 en y rfl rfl
                  obtain ⟨yv, yr, yg⟩ := y
                  simp only at e1 e2 e3
                  subst e2; subst e3
                  cases yr with
                  | true => exact same (by simp [recoverD, hcmode]) rfl
                  | false =>
                    have hrec : recoverD (c :: r) = some (yv, { c with mode := .panicking ({ v := yv, recovered := true } :: yo) } :: r) := by simp [recoverD, hcmode]
                    have := stepTo yv _ (by rw [ht, hrec])
                    refine ⟨G, _, w, _, .refl G, h1, act_put hA e1 o.dst σ1 (some (.panicking (.mk v true :: older))), ⟨hk, _, r, rfl, ?_⟩, ⟨c, r, _, rfl, rfl⟩, rfl, this⟩
                    refine ⟨by have := hch.1; simpa using this, fun j a d q1 q2 => ?_⟩
                    cases j with
                    | zero => simp at q1 q2; subst q1; subst q2; exact ⟨v, true, rfl, e1, rfl, rfl⟩
                    | succ j => exact hch.2 (j + 1) a d (by simpa using q1) (by simpa using q2)

end
end Go.Ev
