/- Steps, code, bodies and calls for the kernel, in the way of continuations, over tables; no condition. -/
import Derived.Test.YthfgghenofpbjaaGreatDoorEvTab

namespace Go.Ev

abbrev KT (R : Type) := Tab → List ADef → ASt → Option AMode → R
noncomputable def onRet (r : Ret) (R : Type) (k : AVal → ASt → R) (d : R) : R :=
  @Option.rec _ (fun _ => R) d (fun p => @AEnd.rec (fun _ => R) (fun x => k x p.2.1) (fun _ => d) p.1) r
theorem onRet_spec (r : Ret) (R : Type) (k : AVal → ASt → R) (d : R) : (∃ x σ m, r = some (.ret x, σ, m) ∧ onRet r R k d = k x σ) ∨ onRet r R k d = d := by
  cases r with
  | none => exact .inr rfl
  | some p =>
    obtain ⟨e, σ, m⟩ := p
    cases e with
    | ret x => exact .inl ⟨x, σ, m, rfl, rfl⟩
    | panic ch => exact .inr rfl

def guardT (ops : Array Oper) (j : Nat) : Option Tmp := (ops[j]?).bind (·.dst)

/- From the list's way back to the table's. -/
noncomputable def backRun (L : Nat) (r : Option ORun) (R : Type) (kn : KT R) (kp : List AEntry → KT R) (d : R) : R :=
  match r with
  | some (.next st) => onB (Nat.beq (lenK st.ts) L) R (kn (fillT st.ts L (nat_lit 0) tab0) st.ds st.σ st.mode) d
  | some (.panic ch st) => onB (Nat.beq (lenK st.ts) L) R (kp ch (fillT st.ts L (nat_lit 0) tab0) st.ds st.σ st.mode) d
  | none => d
noncomputable def backRes (L : Nat) (r : Option (AExit × St)) (R : Type) (kn : KT R) (kx : AExit → KT R) (d : R) : R :=
  match r with
  | some (.normal, st) => onB (Nat.beq (lenK st.ts) L) R (kn (fillT st.ts L (nat_lit 0) tab0) st.ds st.σ st.mode) d
  | some (e, st) => onB (Nat.beq (lenK st.ts) L) R (kx e (fillT st.ts L (nat_lit 0) tab0) st.ds st.σ st.mode) d
  | none => d
def RunOk (L : Nat) (r : Option ORun) {R : Type} (kn : KT R) (kp : List AEntry → KT R) (d res : R) : Prop :=
  res = d ∨ (∃ st T, r = some (.next st) ∧ TR L T st.ts ∧ res = kn T st.ds st.σ st.mode) ∨ ∃ ch st T, r = some (.panic ch st) ∧ TR L T st.ts ∧ res = kp ch T st.ds st.σ st.mode
def ResOk (L : Nat) (r : Option (AExit × St)) {R : Type} (kn : KT R) (kx : AExit → KT R) (d res : R) : Prop :=
  res = d ∨ (∃ st T, r = some (.normal, st) ∧ TR L T st.ts ∧ res = kn T st.ds st.σ st.mode) ∨ ∃ x st T, r = some (x, st) ∧ x ≠ .normal ∧ TR L T st.ts ∧ res = kx x T st.ds st.σ st.mode
theorem backRun_ok {L : Nat} (hL : L ≤ 256) (r : Option ORun) {R : Type} (kn : KT R) (kp : List AEntry → KT R) (d : R) : RunOk L r kn kp d (backRun L r R kn kp d) := by
  cases r with
  | none => exact .inl rfl
  | some r =>
    cases r with
    | next st =>
      simp only [backRun]
      rcases onB_spec (Nat.beq (lenK st.ts) L) R (kn (fillT st.ts L (nat_lit 0) tab0) st.ds st.σ st.mode) d with ⟨h1, h⟩ | h
      · have h1 := Nat.eq_of_beq_eq_true h1
        rw [lenK_eq] at h1
        exact .inr (.inl ⟨st, _, rfl, ofListT hL st.ts h1, h⟩)
      · exact .inl h
    | panic ch st =>
      simp only [backRun]
      rcases onB_spec (Nat.beq (lenK st.ts) L) R (kp ch (fillT st.ts L (nat_lit 0) tab0) st.ds st.σ st.mode) d with ⟨h1, h⟩ | h
      · have h1 := Nat.eq_of_beq_eq_true h1
        rw [lenK_eq] at h1
        exact .inr (.inr ⟨ch, st, _, rfl, ofListT hL st.ts h1, h⟩)
      · exact .inl h
theorem backRes_ok {L : Nat} (hL : L ≤ 256) (r : Option (AExit × St)) {R : Type} (kn : KT R) (kx : AExit → KT R) (d : R) : ResOk L r kn kx d (backRes L r R kn kx d) := by
  cases r with
  | none => exact .inl rfl
  | some r =>
    obtain ⟨x, st⟩ := r
    by_cases hx : x = .normal
    · subst hx
      simp only [backRes]
      rcases onB_spec (Nat.beq (lenK st.ts) L) R (kn (fillT st.ts L (nat_lit 0) tab0) st.ds st.σ st.mode) d with ⟨h1, h⟩ | h
      · have h1 := Nat.eq_of_beq_eq_true h1
        rw [lenK_eq] at h1
        exact .inr (.inl ⟨st, _, rfl, ofListT hL st.ts h1, h⟩)
      · exact .inl h
    · have e : backRes L (some (x, st)) R kn kx d = onB (Nat.beq (lenK st.ts) L) R (kx x (fillT st.ts L (nat_lit 0) tab0) st.ds st.σ st.mode) d := by
        cases x <;> first | exact absurd rfl hx | rfl
      rw [e]
      rcases onB_spec (Nat.beq (lenK st.ts) L) R (kx x (fillT st.ts L (nat_lit 0) tab0) st.ds st.σ st.mode) d with ⟨h1, h⟩ | h
      · have h1 := Nat.eq_of_beq_eq_true h1
        rw [lenK_eq] at h1
        exact .inr (.inr ⟨x, st, _, rfl, hx, ofListT hL st.ts h1, h⟩)
      · exact .inl h

section
variable (P : Program) (E : Env) (f : FuncId) (C : Calls') (rd : Bool) (ops : Array Oper) (L : Nat)

/-- By the plain way: a value, or a call that returns. -/
def plainT (r : ORes) (R : Type) (k : AVal → ASt → R) (ke : FuncId → List AVal → ASt → R) (d : R) : R :=
  match r with
  | some (.val x, σ) => k x σ
  | some (.enter g as, σ) => ke g as σ
  | _ => d
theorem plainT_spec (r : ORes) (R : Type) (k : AVal → ASt → R) (ke : FuncId → List AVal → ASt → R) (d : R) : Fast3 r k ke d (plainT r R k ke d) := by
  unfold plainT
  split
  · exact .inr (.inl ⟨_, _, rfl, rfl⟩)
  · exact .inr (.inr ⟨_, _, _, rfl, rfl⟩)
  · exact .inl rfl
noncomputable def opT (o : Oper) (R : Type) (T : Tab) (ds : List ADef) (σ : ASt) (mode : Option AMode) (kn : KT R) (d : R) : R :=
  opF o.op R P E f σ (opndT E L T) (fun x σ' => kn (putT L T o.dst x) ds σ' mode) (fun g as σ' => onRet (C.fn g as σ' none) R (fun x σ'' => kn (putT L T o.dst x) ds σ'' mode) d)
    (plainT (evOpR P E f σ (opndT E L T) o) R (fun x σ' => kn (putT L T o.dst x) ds σ' mode) (fun g as σ' => onRet (C.fn g as σ' none) R (fun x σ'' => kn (putT L T o.dst x) ds σ'' mode) d) d)
noncomputable def stepT (o : Oper) (R : Type) (T : Tab) (ds : List ADef) (σ : ASt) (mode : Option AMode) (kn : KT R) (d : R) : R :=
  @Option.rec (Nat × Bool) (fun _ => R) (opT P E f C L o R T ds σ mode kn d)
    (fun p => onO (guardT ops p.1) R (fun t => onTF (getT L T t) R (fun b => @Bool.rec (fun _ => R) (kn (putT L T o.dst unset) ds σ mode) (opT P E f C L o R T ds σ mode kn d)
      (@Bool.rec (fun _ => Bool) (@Bool.rec (fun _ => Bool) true false p.2) p.2 b)) d) d) o.guard
theorem opT_ok {o : Oper} {R : Type} {T : Tab} {ts : List AVal} (hT : TR L T ts) {ds : List ADef} {σ : ASt} {mode : Option AMode} {kn : KT R} {kp : List AEntry → KT R} {d d0 : R}
    (hd : RunOk L (runOp P E f C rd ⟨ts, ds, σ, mode⟩ o) kn kp d0 d) : RunOk L (runOp P E f C rd ⟨ts, ds, σ, mode⟩ o) kn kp d0 (opT P E f C L o R T ds σ mode kn d) := by
  unfold opT
  generalize hsl : plainT _ R _ _ d = sl
  have h0 : Fast3 (evOp P E f σ ts o) (fun x σ' => kn (putT L T o.dst x) ds σ' mode) (fun g as σ' => onRet (C.fn g as σ' none) R (fun x σ'' => kn (putT L T o.dst x) ds σ'' mode) d) d sl := by
    rw [← hsl, hT.opnd E, evOpR_eq]
    exact plainT_spec _ _ _ _ _
  have three : ∀ {res : R}, Fast3 (evOp P E f σ ts o) (fun x σ' => kn (putT L T o.dst x) ds σ' mode) (fun g as σ' => onRet (C.fn g as σ' none) R (fun x σ'' => kn (putT L T o.dst x) ds σ'' mode) d) d res →
      RunOk L (runOp P E f C rd ⟨ts, ds, σ, mode⟩ o) kn kp d0 res := by
    intro res hres
    rcases hres with h | ⟨x, σ', h1, h⟩ | ⟨g, as, σ', h1, h⟩
    · rw [h]; exact hd
    · rw [h]
      refine .inr (.inl ⟨⟨put ts o.dst x, ds, σ', mode⟩, putT L T o.dst x, ?_, hT.put o.dst x, rfl⟩)
      simp only [runOp, h1]
    · rw [h]
      simp only
      clear h
      rcases onRet_spec (C.fn g as σ' none) R (fun x σ'' => kn (putT L T o.dst x) ds σ'' mode) d with ⟨x, σ'', m, h2, h⟩ | h
      · rw [h]
        refine .inr (.inl ⟨⟨put ts o.dst x, ds, σ'', mode⟩, putT L T o.dst x, ?_, hT.put o.dst x, rfl⟩)
        simp only [runOp, h1, h2]
      · rw [h]; exact hd
  rcases opF_spec P E f σ ts (opndT E L T) (hT.opnd E) o R (fun x σ' => kn (putT L T o.dst x) ds σ' mode) (fun g as σ' => onRet (C.fn g as σ' none) R (fun x σ'' => kn (putT L T o.dst x) ds σ'' mode) d) sl with h | h | h
  · rw [h]; exact three h0
  · exact three (.inr (.inl h))
  · exact three (.inr (.inr h))
theorem stepT_ok {o : Oper} {R : Type} {T : Tab} {ts : List AVal} (hT : TR L T ts) {ds : List ADef} {σ : ASt} {mode : Option AMode} {kn : KT R} {kp : List AEntry → KT R} {d d0 : R}
    (hd : RunOk L (runAt P E f C rd ops ⟨ts, ds, σ, mode⟩ o) kn kp d0 d) : RunOk L (runAt P E f C rd ops ⟨ts, ds, σ, mode⟩ o) kn kp d0 (stepT P E f C ops L o R T ds σ mode kn d) := by
  unfold stepT
  cases hg : o.guard with
  | none =>
    have h1 : runAt P E f C rd ops ⟨ts, ds, σ, mode⟩ o = runOp P E f C rd ⟨ts, ds, σ, mode⟩ o := by
      unfold runAt wantedA
      rw [hg]
    rw [h1] at hd ⊢
    exact opT_ok P E f C rd L hT hd
  | some p =>
    obtain ⟨j, want⟩ := p
    simp only
    generalize hA : (fun (t : Tmp) => _) = A
    rcases onO_spec (guardT ops j) R A d with ⟨t, ht, h⟩ | h
    · rw [h, ← hA]
      simp only
      clear h hA A
      generalize hA : (fun (b : Bool) => _) = A
      rcases onTF_spec (getT L T t) R A d with ⟨b, hb, h⟩ | h
      · rw [h, ← hA]
        simp only
        clear h hA A
        rw [hT.same] at hb
        have hw : wantedA ops ts o = some (b == want) := by
          unfold wantedA
          rw [hg]
          unfold guardT at ht
          simp only [ht, hb]
        have hbw : (@Bool.rec (fun _ => Bool) (@Bool.rec (fun _ => Bool) true false want) want b) = (b == want) := by cases b <;> cases want <;> rfl
        rw [hbw]
        cases hq : (b == want) with
        | true =>
          have h1 : runAt P E f C rd ops ⟨ts, ds, σ, mode⟩ o = runOp P E f C rd ⟨ts, ds, σ, mode⟩ o := by
            unfold runAt
            rw [hw, hq]
          rw [h1] at hd ⊢
          exact opT_ok P E f C rd L hT hd
        | false =>
          have h1 : runAt P E f C rd ops ⟨ts, ds, σ, mode⟩ o = some (.next ⟨put ts o.dst unset, ds, σ, mode⟩) := by
            unfold runAt
            rw [hw, hq]
          exact .inr (.inl ⟨_, _, h1, hT.put o.dst unset, rfl⟩)
      · rw [h]; exact hd
    · rw [h]; exact hd
end

abbrev SeqT := (R : Type) → Program → Env → FuncId → Calls' → Bool → Array Oper → Nat → Tab → List ADef → ASt → Option AMode → KT R → (List AEntry → KT R) → R → R
noncomputable def runSeqT (l : List Oper) : SeqT :=
  @List.rec Oper (fun _ => SeqT) (fun _ _ _ _ _ _ _ _ T ds σ mode kn _ _ => kn T ds σ mode)
    (fun o _ ih R P E f C rd ops L T ds σ mode kn kp e => stepT P E f C ops L o R T ds σ mode (fun T ds σ mode => ih R P E f C rd ops L T ds σ mode kn kp e)
      (backRun L (runAt P E f C rd ops ⟨listT L T L, ds, σ, mode⟩ o) R (fun T ds σ mode => ih R P E f C rd ops L T ds σ mode kn kp e) kp e)) l
theorem runSeqT_ok {R : Type} {P : Program} {E : Env} {f : FuncId} {C : Calls'} {rd : Bool} {ops : Array Oper} {L : Nat} {kn : KT R} {kp : List AEntry → KT R} {e : R} :
    ∀ (l : List Oper) {T : Tab} {ts : List AVal} (_ : TR L T ts) (ds : List ADef) (σ : ASt) (mode : Option AMode),
      RunOk L (runSeq P E f C rd ops l ⟨ts, ds, σ, mode⟩) kn kp e (runSeqT l R P E f C rd ops L T ds σ mode kn kp e)
  | [], T, ts, hT, ds, σ, mode => .inr (.inl ⟨⟨ts, ds, σ, mode⟩, T, rfl, hT, rfl⟩)
  | o :: l, T, ts, hT, ds, σ, mode => by
    show RunOk L _ kn kp e (stepT P E f C ops L o R T ds σ mode (fun T ds σ mode => runSeqT l R P E f C rd ops L T ds σ mode kn kp e)
      (backRun L (runAt P E f C rd ops ⟨listT L T L, ds, σ, mode⟩ o) R (fun T ds σ mode => runSeqT l R P E f C rd ops L T ds σ mode kn kp e) kp e))
    rw [hT.list]
    have h := stepT_ok P E f C rd ops L hT (backRun_ok hT.most (runAt P E f C rd ops ⟨ts, ds, σ, mode⟩ o) (fun T ds σ mode => runSeqT l R P E f C rd ops L T ds σ mode kn kp e) kp e)
    rcases h with h | ⟨st, T', h1, h2, h⟩ | ⟨ch, st, T', h1, h2, h⟩
    · exact .inl h
    · rw [h, runSeq, h1]
      exact runSeqT_ok l h2 st.ds st.σ st.mode
    · rw [h]
      refine .inr (.inr ⟨ch, st, T', ?_, h2, rfl⟩)
      rw [runSeq, h1]

abbrev CodeT := (R : Type) → Program → Env → FuncId → Calls' → Nat → Bool → Nat → Tab → List ADef → ASt → Option AMode → KT R → (AExit → KT R) → R → R
abbrev BodyT := Tab → List ADef → ASt → Option AMode → KT Ret → (AExit → KT Ret) → Ret → Ret
noncomputable def iterT (n : Nat) : (R : Type) → (Tab → List ADef → ASt → Option AMode → KT R → (AExit → KT R) → R → R) → Tab → List ADef → ASt → Option AMode → KT R → (AExit → KT R) → R → R :=
  @Nat.rec (fun _ => (R : Type) → (Tab → List ADef → ASt → Option AMode → KT R → (AExit → KT R) → R → R) → Tab → List ADef → ASt → Option AMode → KT R → (AExit → KT R) → R → R)
    (fun _ _ _ _ _ _ _ _ e => e)
    (fun _ ih R body T ds σ mode kn kx e => body T ds σ mode (fun T ds σ mode => ih R body T ds σ mode kn kx e) kx e) n
theorem forget0 : ∀ (l : List AVal) (i : Nat), forget 0 l i = l
  | [], _ => rfl
  | x :: l, i => by simp only [forget, Nat.zero_testBit, Bool.false_eq_true, if_false, forget0 l (i + 1)]
theorem iterT_ok {L : Nat} {R : Type} {body : Tab → List ADef → ASt → Option AMode → KT R → (AExit → KT R) → R → R} {body' : St → Option (AExit × St)}
    (hb : ∀ T ts ds σ mode kn kx e, TR L T ts → ResOk L (body' ⟨ts, ds, σ, mode⟩) kn kx e (body T ds σ mode kn kx e)) {kn : KT R} {kx : AExit → KT R} {e : R} :
    ∀ (n : Nat) {T : Tab} {ts : List AVal} (_ : TR L T ts) (ds : List ADef) (σ : ASt) (mode : Option AMode), ResOk L (iter body' 0 n ⟨ts, ds, σ, mode⟩) kn kx e (iterT n R body T ds σ mode kn kx e)
  | 0, _, _, _, _, _, _ => .inl rfl
  | n + 1, T, ts, hT, ds, σ, mode => by
    show ResOk L _ kn kx e (body T ds σ mode (fun T ds σ mode => iterT n R body T ds σ mode kn kx e) kx e)
    have hi : iter body' 0 (n + 1) ⟨ts, ds, σ, mode⟩ = (match body' ⟨ts, ds, σ, mode⟩ with | some (.normal, st') => iter body' 0 n st' | r => r) := by
      rw [iter]; simp only [forget0]
      rfl
    rw [hi]
    rcases hb T ts ds σ mode (fun T ds σ mode => iterT n R body T ds σ mode kn kx e) kx e hT with h | ⟨st, T', h1, h2, h⟩ | ⟨x, st, T', h1, hx, h2, h⟩
    · exact .inl h
    · rw [h, h1]
      exact iterT_ok hb n h2 st.ds st.σ st.mode
    · rw [h, h1]
      refine .inr (.inr ⟨x, st, T', ?_, hx, h2, rfl⟩)
      cases x <;> first | exact absurd rfl hx | rfl
noncomputable def onExit (x : AExit) (R : Type) (k : Nat → R) (d : R) : R := @AExit.rec (fun _ => R) d k d (fun _ => d) x

noncomputable def codeT (c : Code) : CodeT :=
  Code.rec (motive := fun _ => CodeT)
    (skip := fun _ _ _ _ _ _ _ _ T ds σ mode kn _ _ => kn T ds σ mode)
    (label := fun _ _ _ _ _ _ _ _ _ T ds σ mode kn _ _ => kn T ds σ mode)
    (region := fun i ops dr R P E f C n rd L T ds σ mode kn kx e => @Bool.rec (fun _ => R)
      (runSeqT ops.toList R P E f C rd ops L T ds σ mode kn (fun ch => kx (.panic ch)) e) (backRes L (evCode P E f C n rd (.region i ops true) 0 ⟨listT L T L, ds, σ, mode⟩) R kn kx e) dr)
    (seq := fun _ _ iha ihb R P E f C n rd L T ds σ mode kn kx e => iha R P E f C n rd L T ds σ mode (fun T ds σ mode => ihb R P E f C n rd L T ds σ mode kn kx e) kx e)
    (cond := fun c _ _ iha ihb R P E f C n rd L T ds σ mode kn kx e => onTF (opndT E L T c) R (fun b => @Bool.rec (fun _ => R) (ihb R P E f C n rd L T ds σ mode kn kx e) (iha R P E f C n rd L T ds σ mode kn kx e) b) e)
    (block := fun id _ ih R P E f C n rd L T ds σ mode kn kx e => ih R P E f C n rd L T ds σ mode kn
      (fun x T ds σ mode => onExit x R (fun i => @Bool.rec (fun _ => R) (kx x T ds σ mode) (kn T ds σ mode) (Nat.beq i id)) (kx x T ds σ mode)) e)
    (loop := fun _ ih R P E f C n rd L T ds σ mode kn kx e => iterT n R (fun T ds σ mode kn kx e => ih R P E f C n rd L T ds σ mode kn kx e) T ds σ mode kn kx e)
    (scope := fun _ ih R P E f C n rd L T ds σ mode kn kx e => ih R P E f C n rd L T ds σ mode kn kx e)
    (exit := fun id _ _ _ _ _ _ _ _ T ds σ mode _ kx _ => kx (.exit id) T ds σ mode)
    (ret := fun _ _ _ _ _ _ _ _ T ds σ mode _ kx _ => kx .ret T ds σ mode)
    (rangeFunc := fun g ps a b _ _ R P E f C n rd L T ds σ mode kn kx e => backRes L (evCode P E f C n rd (.rangeFunc g ps a b) 0 ⟨listT L T L, ds, σ, mode⟩) R kn kx e)
    (goto := fun _ _ _ _ _ _ _ _ _ _ _ _ _ _ _ e => e)
    (refuse := fun _ _ _ _ _ _ _ _ _ _ _ _ _ _ _ e => e) c
theorem codeT_ok {R : Type} {P : Program} {E : Env} (hE : E.forgets = false) {f : FuncId} {C : Calls'} {n : Nat} {rd : Bool} {L : Nat} : ∀ (c : Code) (out : Nat) {T : Tab} {ts : List AVal} (_ : TR L T ts) (ds : List ADef) (σ : ASt)
    (mode : Option AMode) (kn : KT R) (kx : AExit → KT R) (e : R), ResOk L (evCode P E f C n rd c out ⟨ts, ds, σ, mode⟩) kn kx e (codeT c R P E f C n rd L T ds σ mode kn kx e) := by
  intro c
  induction c with
  | skip => intro out T ts hT ds σ mode kn kx e; exact .inr (.inl ⟨_, T, rfl, hT, rfl⟩)
  | label l => intro out T ts hT ds σ mode kn kx e; exact .inr (.inl ⟨_, T, rfl, hT, rfl⟩)
  | region i ops dr =>
    intro out T ts hT ds σ mode kn kx e
    cases dr with
    | true =>
      show ResOk L _ kn kx e (backRes L (evCode P E f C n rd (.region i ops true) 0 ⟨listT L T L, ds, σ, mode⟩) R kn kx e)
      rw [hT.list]
      exact backRes_ok hT.most _ kn kx e
    | false =>
      show ResOk L _ kn kx e (runSeqT ops.toList R P E f C rd ops L T ds σ mode kn (fun ch => kx (.panic ch)) e)
      rw [evCode]
      rcases runSeqT_ok (P := P) (E := E) (f := f) (C := C) (rd := rd) (ops := ops) (kn := kn) (kp := fun ch => kx (.panic ch)) (e := e) ops.toList hT ds σ mode with h | ⟨st, T', h1, h2, h⟩ | ⟨ch, st, T', h1, h2, h⟩
      · exact .inl h
      · rw [h1, h]; exact .inr (.inl ⟨st, T', rfl, h2, rfl⟩)
      · rw [h1, h]; exact .inr (.inr ⟨.panic ch, st, T', rfl, by simp, h2, rfl⟩)
  | seq a b iha ihb =>
    intro out T ts hT ds σ mode kn kx e
    show ResOk L _ kn kx e (codeT a R P E f C n rd L T ds σ mode (fun T ds σ mode => codeT b R P E f C n rd L T ds σ mode kn kx e) kx e)
    rw [evCode]
    rcases iha (Nat.lor out (useOf b).reads) hT ds σ mode (fun T ds σ mode => codeT b R P E f C n rd L T ds σ mode kn kx e) kx e with h | ⟨st, T', h1, h2, h⟩ | ⟨x, st, T', h1, hx, h2, h⟩
    · exact .inl h
    · rw [h, h1]; exact ihb out h2 st.ds st.σ st.mode kn kx e
    · rw [h, h1]
      refine .inr (.inr ⟨x, st, T', ?_, hx, h2, rfl⟩)
      cases x <;> first | exact absurd rfl hx | rfl
  | cond c a b iha ihb =>
    intro out T ts hT ds σ mode kn kx e
    show ResOk L _ kn kx e (onTF (opndT E L T c) R (fun b' => @Bool.rec (fun _ => R) (codeT b R P E f C n rd L T ds σ mode kn kx e) (codeT a R P E f C n rd L T ds σ mode kn kx e) b') e)
    rw [evCode, hT.opnd E]
    cases hc : evOperand E ts c with
    | v y =>
      cases y with
      | bool t =>
        cases t
        · exact ihb out hT ds σ mode kn kx e
        · exact iha out hT ds σ mode kn kx e
      | _ => exact .inl rfl
    | _ => exact .inl rfl
  | block id c ih =>
    intro out T ts hT ds σ mode kn kx e
    show ResOk L _ kn kx e (codeT c R P E f C n rd L T ds σ mode kn _ e)
    rw [evCode]
    generalize hA : (fun (x : AExit) (T : Tab) (ds : List ADef) (σ : ASt) (mode : Option AMode) => _) = A
    rcases ih out hT ds σ mode kn A e with h | ⟨st, T', h1, h2, h⟩ | ⟨x, st, T', h1, hx, h2, h⟩
    · exact .inl h
    · rw [h, h1]; exact .inr (.inl ⟨st, T', rfl, h2, rfl⟩)
    · rw [h, h1, ← hA]
      clear h hA
      cases x with
      | normal => exact absurd rfl hx
      | exit i =>
        show ResOk L (if i = id then some (.normal, st) else some (.exit i, st)) kn kx e (@Bool.rec (fun _ => R) (kx (.exit i) T' st.ds st.σ st.mode) (kn T' st.ds st.σ st.mode) (Nat.beq i id))
        by_cases hi : i = id
        · subst hi
          rw [Nat.beq_refl, if_pos rfl]
          exact .inr (.inl ⟨st, T', rfl, h2, rfl⟩)
        · rw [if_neg hi]
          have : Nat.beq i id = false := by
            cases hh : Nat.beq i id
            · rfl
            · exact absurd (Nat.eq_of_beq_eq_true hh) hi
          rw [this]
          exact .inr (.inr ⟨_, st, T', rfl, hx, h2, rfl⟩)
      | ret => exact .inr (.inr ⟨_, st, T', rfl, hx, h2, rfl⟩)
      | panic ch => exact .inr (.inr ⟨_, st, T', rfl, hx, h2, rfl⟩)
  | loop c ih =>
    intro out T ts hT ds σ mode kn kx e
    show ResOk L _ kn kx e (iterT n R (fun T ds σ mode kn kx e => codeT c R P E f C n rd L T ds σ mode kn kx e) T ds σ mode kn kx e)
    rw [evCode]
    simp only [hE, Bool.false_eq_true, if_false]
    exact iterT_ok (fun T ts ds σ mode kn kx e hT => ih (Nat.lor out (useOf c).reads) hT ds σ mode kn kx e) n hT ds σ mode
  | scope c ih => intro out T ts hT ds σ mode kn kx e; rw [evCode]; exact ih out hT ds σ mode kn kx e
  | exit id => intro out T ts hT ds σ mode kn kx e; exact .inr (.inr ⟨_, _, T, rfl, by simp, hT, rfl⟩)
  | ret => intro out T ts hT ds σ mode kn kx e; exact .inr (.inr ⟨_, _, T, rfl, by simp, hT, rfl⟩)
  | rangeFunc g ps a b iha ihb =>
    intro out T ts hT ds σ mode kn kx e
    show ResOk L _ kn kx e (backRes L (evCode P E f C n rd (.rangeFunc g ps a b) 0 ⟨listT L T L, ds, σ, mode⟩) R kn kx e)
    rw [hT.list]
    exact backRes_ok hT.most _ kn kx e
  | goto l => intros; exact .inl rfl
  | refuse l => intros; exact .inl rfl

/- The end of a frame. -/
noncomputable def resT (l : List ResultVar) (L : Nat) (T : Tab) : Option (List AVal) :=
  @List.rec ResultVar (fun _ => Option (List AVal)) (some []) (fun r _ ih => @ResultVar.rec (fun _ => Option (List AVal)) (fun t => onO ih (Option (List AVal)) (fun q => some (getT L T t :: q)) none) (fun _ _ => none) r) l
theorem resT_eq {P : Program} {σ : ASt} {L : Nat} {T : Tab} {ts : List AVal} (hT : TR L T ts) : ∀ {l : List ResultVar} {q : List AVal}, resT l L T = some q → resultsOf P σ ts l = some q
  | [], q, h => h
  | r :: l, q, h => by
    cases r with
    | cell a t => have h : (none : Option (List AVal)) = some q := h; simp at h
    | tmp t =>
      have h : onO (resT l L T) (Option (List AVal)) (fun q => some (getT L T t :: q)) none = some q := h
      rcases onO_spec (resT l L T) (Option (List AVal)) (fun q => some (getT L T t :: q)) none with ⟨q', h1, h2⟩ | h2
      · rw [h2] at h
        simp only [Option.some.injEq] at h
        subst h
        simp only [resultsOf, resultOf, Option.bind_some, resT_eq hT h1, Option.map_some, hT.same]
      · rw [h2] at h; simp at h
noncomputable def oneK (l : List AVal) : AVal := @List.rec AVal (fun _ => AVal) (.tuple []) (fun x r _ => onNil r AVal x (.tuple (x :: r))) l
theorem oneK_eq (l : List AVal) : oneK l = oneOrTuple l := by
  cases l with
  | nil => rfl
  | cons x r => cases r <;> rfl
def noGive (E : Env) (f : FuncId) : Bool := !(E.give f)
noncomputable def leaveT (P : Program) (E : Env) (f : FuncId) (C : Calls') (fn : Func) (L : Nat) (T : Tab) (ds : List ADef) (σ : ASt) (mode : Option AMode) : Ret :=
  onNil ds Ret (onB (noGive E f) Ret (onO (resT fn.results.toList L T) Ret (fun l => some (.ret (oneK l), σ, mode)) ((leave P E f C fn (listT L T L) ds .returning σ).map fun (e, σ') => (e, σ', mode)))
    ((leave P E f C fn (listT L T L) ds .returning σ).map fun (e, σ') => (e, σ', mode))) ((leave P E f C fn (listT L T L) ds .returning σ).map fun (e, σ') => (e, σ', mode))
theorem leaveT_eq (P : Program) (E : Env) (f : FuncId) (C : Calls') (fn : Func) {L : Nat} {T : Tab} {ts : List AVal} (hT : TR L T ts) (ds : List ADef) (σ : ASt) (mode : Option AMode) :
    leaveT P E f C fn L T ds σ mode = (leave P E f C fn ts ds .returning σ).map fun (e, σ') => (e, σ', mode) := by
  unfold leaveT
  rw [hT.list]
  generalize hd : ((leave P E f C fn ts ds .returning σ).map fun (e, σ') => (e, σ', mode)) = d
  generalize hA : onB (noGive E f) Ret _ d = A
  rcases onNil_spec ds Ret A d with ⟨rfl, h⟩ | h
  · rw [h, ← hA]
    clear h hA
    rcases onB_spec (noGive E f) Ret (onO (resT fn.results.toList L T) Ret (fun l => some (.ret (oneK l), σ, mode)) d) d with ⟨hg, h⟩ | h
    · rw [h]
      rcases onO_spec (resT fn.results.toList L T) Ret (fun l => some (.ret (oneK l), σ, mode)) d with ⟨l, hl, h⟩ | h
      · rw [h, ← hd]
        have hg : E.give f = false := by simpa [noGive] using hg
        simp only [leave, resT_eq hT hl, Option.bind_some, hg, Bool.false_eq_true, if_false, Option.map_some, oneK_eq]
      · exact h
    · exact h
  · exact h
noncomputable def quickT (P : Program) (E : Env) (f : FuncId) (C : Calls') (n : Nat) (args : List AVal) (σ : ASt) (mode : Option AMode) : Ret :=
  onO (P.funcs[f]?) Ret (fun fn => onO fn.body Ret (fun c => onB (Nat.ble fn.ntmps (nat_lit 256)) Ret (onB (Nat.ble (lenK args) fn.ntmps) Ret
    (codeT c Ret P E f C n false fn.ntmps (fillT args fn.ntmps (nat_lit 0) tab0) [] σ mode
      (fun T ds σ mode => leaveT P E f C fn fn.ntmps T ds σ mode)
      (fun x T ds σ mode => @AExit.rec (fun _ => Ret) none (fun _ => none) (leaveT P E f C fn fn.ntmps T ds σ mode) (fun ch => (leave P E f C fn (listT fn.ntmps T fn.ntmps) ds (.panicking ch) σ).map fun (e, σ') => (e, σ', mode)) x) none)
    none) none) none) none
theorem quickT_ok {P : Program} {E : Env} (hE : E.forgets = false) (f : FuncId) (C : Calls') (n : Nat) (args : List AVal) (σ : ASt) (mode : Option AMode) {r : AEnd × ASt × Option AMode}
    (h : quickT P E f C n args σ mode = some r) : evBody P E f C n args σ mode = some r := by
  unfold quickT at h
  unfold evBody
  cases hf : P.funcs[f]? with
  | none => rw [hf] at h; exact h
  | some fn =>
    rw [hf] at h
    simp only
    replace h : onO fn.body Ret _ none = some r := h
    cases hb : fn.body with
    | none => rw [hb] at h; exact h
    | some c =>
      rw [hb] at h
      simp only
      replace h : onB (Nat.ble fn.ntmps (nat_lit 256)) Ret _ none = some r := h
      generalize hA : onB (Nat.ble (lenK args) fn.ntmps) Ret _ none = A at h
      rcases onB_spec (Nat.ble fn.ntmps (nat_lit 256)) Ret A none with ⟨h1, h2⟩ | h2
      · rw [h2, ← hA] at h
        clear h2 hA A
        generalize hA : codeT c Ret P E f C n false fn.ntmps (fillT args fn.ntmps (nat_lit 0) tab0) [] σ mode _ _ none = A at h
        rcases onB_spec (Nat.ble (lenK args) fn.ntmps) Ret A none with ⟨h3, h2⟩ | h2
        · rw [h2, ← hA] at h
          clear h2 hA A
          rw [lenK_eq] at h3
          have hT := initT (Nat.le_of_ble_eq_true h1) args (Nat.le_of_ble_eq_true h3)
          generalize hkx : (fun (x : AExit) (T : Tab) (ds : List ADef) (σ : ASt) (mode : Option AMode) => _) = kx at h
          rcases codeT_ok (P := P) (f := f) (C := C) (n := n) (rd := false) hE c 0 hT [] σ mode (fun T ds σ mode => leaveT P E f C fn fn.ntmps T ds σ mode) kx none with q | ⟨st, T', q1, q2, q⟩ | ⟨x, st, T', q1, qx, q2, q⟩
          · rw [q] at h; simp at h
          · rw [q] at h
            rw [q1]
            simp only [leaveT_eq P E f C fn q2] at h
            exact h
          · rw [q, ← hkx] at h
            rw [q1]
            cases x with
            | normal => exact absurd rfl qx
            | exit i => exact h
            | ret =>
              simp only [leaveT_eq P E f C fn q2] at h
              exact h
            | panic ch =>
              simp only [q2.list] at h
              exact h
        · rw [h2] at h; simp at h
      · rw [h2] at h; simp at h
noncomputable def evBodyT (P : Program) (E : Env) (f : FuncId) (C : Calls') (n : Nat) (args : List AVal) (σ : ASt) (mode : Option AMode) : Ret :=
  @Option.rec _ (fun _ => Ret) (evBody P E f C n args σ mode) (fun r => some r) (quickT P E f C n args σ mode)
theorem evBodyT_eq {P : Program} {E : Env} (hE : E.forgets = false) (f : FuncId) (C : Calls') (n : Nat) (args : List AVal) (σ : ASt) (mode : Option AMode) :
    evBodyT P E f C n args σ mode = evBody P E f C n args σ mode := by
  unfold evBodyT
  cases h : quickT P E f C n args σ mode with
  | none => rfl
  | some r => exact (quickT_ok hE f C n args σ mode h).symm

noncomputable def evT (P : Program) (E : Env) (X : Given) (n : Nat) : Calls' :=
  @Nat.rec (fun _ => Calls') ⟨fun _ _ _ _ => none, fun _ _ _ => none⟩
    (fun n ih =>
      { fn := fun f args σ m => @Option.rec _ (fun _ => Ret) (evBodyT P E f ih n args σ m) (fun g => @Option.rec AMode (fun _ => Ret) ((g args σ).map fun r => (r.1, r.2, none)) (fun _ => none) m) (X f),
        round := fun l args σ => evRound P E ih n l args σ }) n
theorem evT_eq {P : Program} {E : Env} (hE : E.forgets = false) (X : Given) : ∀ n, evT P E X n = ev P E X n
  | 0 => rfl
  | n + 1 => by
    have ih := evT_eq (P := P) hE X n
    show (Calls'.mk (fun f args σ m => @Option.rec _ (fun _ => Ret) (evBodyT P E f (evT P E X n) n args σ m) (fun g => @Option.rec AMode (fun _ => Ret) ((g args σ).map fun r => (r.1, r.2, none)) (fun _ => none) m) (X f))
      (fun l args σ => evRound P E (evT P E X n) n l args σ)) = _
    rw [ih, ev]
    congr 1
    funext f args σ m
    rw [evBodyT_eq hE]
    cases X f with
    | none => rfl
    | some g => cases m <;> rfl
end Go.Ev
