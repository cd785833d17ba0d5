/- What the kernel asks of an answer; no condition. -/
import Derived.Test.YthfgghenofpbjaaGreatDoorEvFast6
import Derived.Test.YthfgghenofpbjaaGreatDoorEvSaid
namespace Go.Ev

def txt (s : List UInt8) : AVal := .v (.string ⟨⟨s⟩⟩)
noncomputable def eqTxts (l : List (List UInt8)) : List AVal → Bool :=
  @List.rec (List UInt8) (fun _ => List AVal → Bool) (fun cs => onNil cs Bool true false)
    (fun s _ ih cs => @List.rec AVal (fun _ => Bool) false (fun x r _ => onS x Bool (fun b => onB (beqK b.data.toList s) Bool (ih r) false) false) cs) l
theorem eqTxts_eq : ∀ {l : List (List UInt8)} {cs : List AVal}, eqTxts l cs = true → cs = l.map txt
  | [], [], _ => rfl
  | [], _ :: _, h => by simp [eqTxts, onNil] at h
  | _ :: _, [], h => by simp [eqTxts] at h
  | s :: l, x :: cs, h => by
    have h : onS x Bool (fun b => onB (beqK b.data.toList s) Bool (eqTxts l cs) false) false = true := h
    rcases onS_spec x Bool (fun b => onB (beqK b.data.toList s) Bool (eqTxts l cs) false) false with ⟨b, rfl, h1⟩ | h1
    · rw [h1] at h
      rcases onB_spec (beqK b.data.toList s) Bool (eqTxts l cs) false with ⟨h2, h3⟩ | h3
      · rw [h3] at h
        rw [beqK_eq] at h2
        have h2 : b.data.toList = s := by simpa using h2
        rw [eqTxts_eq h, List.map_cons]
        congr 1
        obtain ⟨⟨b⟩⟩ := b
        simp only at h2
        rw [h2]; rfl
      · rw [h3] at h; simp at h
    · rw [h1] at h; simp at h

/-- A call says a list of texts, nobody's but the caller's. -/
noncomputable def saysTxts (l : List (List UInt8)) (r : Ret) : Bool :=
  onO r Bool (fun p => onO p.2.2 Bool (fun _ => false) (@AEnd.rec (fun _ => Bool) (fun x => onSl x Bool (fun k n cs tok => onB (Nat.beq k (nat_lit 1)) Bool (onB (Nat.beq n (lenK l)) Bool
    (onTok tok Bool false (fun _ => false) (eqTxts l cs)) false) false) (fun _ _ _ _ _ => false) false) (fun _ => false) p.1)) false
theorem saysTxts_eq {l : List (List UInt8)} {r : Ret} (h : saysTxts l r = true) : ∃ σ, r = some (.ret (.list 1 l.length (l.map txt) .no), σ, none) := by
  unfold saysTxts at h
  cases r with
  | none => simp [onO] at h
  | some p =>
    obtain ⟨e, σ, m⟩ := p
    cases m with
    | some m => simp [onO] at h
    | none =>
      cases e with
      | panic ch => simp [onO] at h
      | ret x =>
        cases x <;> (first | (simp [onO, onSl] at h; done) | skip)
        rename_i k n cs tok
        cases tok <;> (first | (simp [onO, onSl, onTok, onB] at h; done) | skip)
        · replace h : onB (Nat.beq k (nat_lit 1)) Bool (onB (Nat.beq n (lenK l)) Bool (eqTxts l cs) false) false = true := h
          rcases onB_spec (Nat.beq k (nat_lit 1)) Bool (onB (Nat.beq n (lenK l)) Bool (eqTxts l cs) false) false with ⟨h1, h2⟩ | h2
          · rw [h2] at h
            rcases onB_spec (Nat.beq n (lenK l)) Bool (eqTxts l cs) false with ⟨h3, h4⟩ | h4
            · rw [h4] at h
              have h1 : k = 1 := Nat.eq_of_beq_eq_true h1
              have h3 := Nat.eq_of_beq_eq_true h3
              rw [lenK_eq] at h3
              subst h1; subst h3
              rw [eqTxts_eq h]
              exact ⟨σ, rfl⟩
            · rw [h4] at h; simp at h
          · rw [h2] at h; simp at h
        · exfalso
          replace h : onB (Nat.beq k (nat_lit 1)) Bool (onB (Nat.beq n (lenK l)) Bool false false) false = true := h
          simp only [onB] at h
          revert h
          cases Nat.beq k 1 <;> cases Nat.beq n (lenK l) <;> simp
        · exfalso
          rename_i i
          replace h : onB (Nat.beq k (nat_lit 1)) Bool (onB (Nat.beq n (lenK l)) Bool false false) false = true := h
          simp only [onB] at h
          revert h
          cases Nat.beq k 1 <;> cases Nat.beq n (lenK l) <;> simp
/-- A call says true. -/
noncomputable def saysTrue (r : Ret) : Bool :=
  onO r Bool (fun p => onO p.2.2 Bool (fun _ => false) (@AEnd.rec (fun _ => Bool) (fun x => onTF x Bool (fun b => b) false) (fun _ => false) p.1)) false
theorem saysTrue_eq {r : Ret} (h : saysTrue r = true) : ∃ σ, r = some (.ret (.v (.bool true)), σ, none) := by
  unfold saysTrue at h
  cases r with
  | none => simp [onO] at h
  | some p =>
    obtain ⟨e, σ, m⟩ := p
    cases m with
    | some m => simp [onO] at h
    | none =>
      cases e with
      | panic ch => simp [onO] at h
      | ret x =>
        replace h : onTF x Bool (fun b => b) false = true := h
        rcases onTF_spec x Bool (fun b => b) false with ⟨b, rfl, h1⟩ | h1
        · rw [h1] at h; subst h; exact ⟨σ, rfl⟩
        · rw [h1] at h; simp at h

/-- What is asked of the arguments of a given answer, for the kernel. -/
noncomputable def noArgs (l : List AVal) : Bool := onNil l Bool true false
/-- A call without arguments says this; other calls are not answered. -/
noncomputable def saidNil (f : FuncId) (x : AVal) (X : Given) : Given := fun k =>
  @Bool.rec (fun _ => Option (List AVal → ASt → Option (AEnd × ASt))) (X k) (some fun as σ => onNil as (Option (AEnd × ASt)) (some (.ret x, σ)) none) (Nat.beq k f)
section
variable {P : Program} {E : Env} {X Y : Given}
theorem given_saidNil (hX : GivenSound P E X) (hm : P.follows .mixedOrders = true) (hE : E.Flat) {n : Nat} {f : FuncId} {x x' : AVal} {σ : ASt} (hY : GivenSound P E Y)
    (h : (ev P E X n).fn f [] ⟨0, []⟩ none = some (.ret x', σ, none)) (hx : calm x' = x) (hs : still x = true) : GivenSound P E (saidNil f x Y) := by
  have h0 := given_saidOf (more := fun _ _ => none) hX hm hE hY more_none h hx rfl hs
  intro k g hk
  by_cases hkf : k = f
  · subst hkf
    have hg : g = fun as σ => onNil as (Option (AEnd × ASt)) (some (.ret x, σ)) none := by
      unfold saidNil at hk
      rw [Nat.beq_refl] at hk
      simpa using hk.symm
    subst hg
    intro args σ₁ r hr
    refine h0 k (fun as σ => if aeqL as [] then some (.ret x, σ) else none) (by unfold saidOf; rw [if_pos rfl]) args σ₁ r ?_
    cases args with
    | nil => exact hr
    | cons a as => simp [onNil] at hr
  · have e : saidNil f x Y k = Y k := by
      unfold saidNil
      have : Nat.beq k f = false := by
        cases hh : Nat.beq k f
        · rfl
        · exact absurd (Nat.eq_of_beq_eq_true hh) hkf
      rw [this]
    rw [e] at hk
    exact hY k g hk
end

/- A body that is cut: its head by plain equations, its tail by tables. -/
def isN : Option (AExit × St) → Bool
  | some (.normal, _) => true
  | _ => false
def getSt : Option (AExit × St) → St
  | some (_, st) => st
  | none => ⟨[], [], ⟨0, []⟩, none⟩
theorem norm_of {o : Option (AExit × St)} (h : isN o = true) : o = some (.normal, getSt o) := by
  unfold isN at h
  split at h
  · rfl
  · simp at h
section
variable {P : Program} {E : Env} {f : FuncId} {C : Calls'}
theorem seq_of {n : Nat} {rd : Bool} {a b : Code} {out : Nat} {st : St} (h : isN (evCode P E f C n rd a (Nat.lor out (useOf b).reads) st) = true) :
    evCode P E f C n rd (.seq a b) out st = evCode P E f C n rd b out (getSt (evCode P E f C n rd a (Nat.lor out (useOf b).reads) st)) := by
  rw [evCode, norm_of h]; rfl
theorem ev_fn {X : Given} {n : Nat} {args : List AVal} {σ : ASt} {m : Option AMode} (h : X f = none) :
    (ev P E X (n + 1)).fn f args σ m = evBody P E f (ev P E X n) n args σ m := by
  simp [ev, h]
def afterBody (P : Program) (E : Env) (f : FuncId) (C : Calls') (fn : Func) (r : Option (AExit × St)) : Ret :=
  match r with
  | some (.normal, st) | some (.ret, st) => (leave P E f C fn st.ts st.ds .returning st.σ).map fun (e, σ') => (e, σ', st.mode)
  | some (.panic ch, st) => (leave P E f C fn st.ts st.ds (.panicking ch) st.σ).map fun (e, σ') => (e, σ', st.mode)
  | _ => none
theorem evBody_of {n : Nat} {args : List AVal} {σ : ASt} {m : Option AMode} {fn : Func} {c : Code} (hf : P.funcs[f]? = some fn) (hc : fn.body = some c) :
    evBody P E f C n args σ m = afterBody P E f C fn (evCode P E f C n false c 0 ⟨args ++ List.replicate (fn.ntmps - args.length) unset, [], σ, m⟩) := by
  unfold evBody
  rw [hf]; simp only [hc]; rfl
noncomputable def tailT (P : Program) (E : Env) (f : FuncId) (C : Calls') (n : Nat) (fn : Func) (L : Nat) (c : Code) (ts : List AVal) (σ : ASt) : Ret :=
  onB (Nat.ble L (nat_lit 256)) Ret (onB (Nat.beq (lenK ts) L) Ret (codeT c Ret P E f C n false L (fillT ts L (nat_lit 0) tab0) [] σ none
    (fun T ds σ mode => leaveT P E f C fn L T ds σ mode)
    (fun x T ds σ mode => @AExit.rec (fun _ => Ret) none (fun _ => none) (leaveT P E f C fn L T ds σ mode) (fun _ => none) x) none) none) none
theorem tailT_ok (hE : E.forgets = false) {n : Nat} {fn : Func} {L : Nat} {c : Code} {out : Nat} {ts : List AVal} {σ : ASt} {r : AEnd × ASt × Option AMode} (h : tailT P E f C n fn L c ts σ = some r) :
    afterBody P E f C fn (evCode P E f C n false c out ⟨ts, [], σ, none⟩) = some r := by
  unfold tailT at h
  generalize hA : onB (Nat.beq (lenK ts) L) Ret _ none = A at h
  rcases onB_spec (Nat.ble L (nat_lit 256)) Ret A none with ⟨h1, h2⟩ | h2
  · rw [h2, ← hA] at h
    clear h2 hA A
    generalize hA : codeT c Ret P E f C n false L (fillT ts L (nat_lit 0) tab0) [] σ none _ _ none = A at h
    rcases onB_spec (Nat.beq (lenK ts) L) Ret A none with ⟨h3, h2⟩ | h2
    · rw [h2, ← hA] at h
      clear h2 hA A
      have h3 := Nat.eq_of_beq_eq_true h3
      rw [lenK_eq] at h3
      have hT := ofListT (Nat.le_of_ble_eq_true h1) ts h3
      generalize hkx : (fun (x : AExit) (T : Tab) (ds : List ADef) (σ : ASt) (mode : Option AMode) => _) = kx at h
      rcases codeT_ok (P := P) (f := f) (C := C) (n := n) (rd := false) hE c out hT [] σ none (fun T ds σ mode => leaveT P E f C fn L T ds σ mode) kx none with q | ⟨st, T', q1, q2, q⟩ | ⟨x, st, T', q1, qx, q2, q⟩
      · rw [q] at h; simp at h
      · rw [q] at h
        rw [q1]
        simp only [leaveT_eq P E f C fn q2] at h
        exact h
      · rw [q, ← hkx] at h
        rw [q1]
        cases x with
        | normal => exact absurd rfl qx
        | exit i => exact h
        | ret =>
          simp only [leaveT_eq P E f C fn q2] at h
          exact h
        | panic ch => simp at h
    · rw [h2] at h; simp at h
  · rw [h2] at h; simp at h
end
end Go.Ev
