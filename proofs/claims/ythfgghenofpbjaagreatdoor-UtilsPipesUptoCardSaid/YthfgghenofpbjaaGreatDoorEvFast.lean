/- Operations for the kernel, in the way of continuations; no condition. -/
import Derived.Test.YthfgghenofpbjaaGreatDoorEvSel
namespace Go.Ev

/-- An operation's fast branch: it does not know, or it goes on with what the operation says. -/
def Fast (r : ORes) {R : Type} (k : AVal → ASt → R) (slow res : R) : Prop := res = slow ∨ ∃ x σ, r = some (.val x, σ) ∧ res = k x σ

/- Memory. -/
noncomputable def atK (m : List (List (List AObj))) (id : Nat) : AObj :=
  nthK .dead (nthK [] (nthK [] m (Nat.div id (nat_lit 256))) (Nat.mod (Nat.div id (nat_lit 16)) (nat_lit 16))) (Nat.mod id (nat_lit 16))
theorem atK_eq (m : List (List (List AObj))) (id : Nat) : atK m id = ASt.at m id := by
  simp only [atK, nthK_eq]; rfl
theorem atK_cells {σ : ASt} {id : Nat} {e : TypeId} {cs : List AVal} (h : atK σ.objs id = .cells e cs) : σ.get id = some (.cells e cs) := by
  rw [atK_eq] at h
  simp only [ASt.get, h]; rfl
noncomputable def putMK (m : List (List (List AObj))) (id : Nat) (o : AObj) : List (List (List AObj)) :=
  padK [] m (Nat.div id (nat_lit 256)) (padK [] (nthK [] m (Nat.div id (nat_lit 256))) (Nat.mod (Nat.div id (nat_lit 16)) (nat_lit 16))
    (padK .dead (nthK [] (nthK [] m (Nat.div id (nat_lit 256))) (Nat.mod (Nat.div id (nat_lit 16)) (nat_lit 16))) (Nat.mod id (nat_lit 16)) o))
theorem putMK_eq (m : List (List (List AObj))) (id : Nat) (o : AObj) : putMK m id o = ASt.put m id o := by
  simp only [putMK, nthK_eq, padK_eq]; rfl
noncomputable def memSet (σ : ASt) (id : Nat) (o : AObj) : ASt := ⟨σ.next, putMK σ.objs id o⟩
theorem memSet_eq (σ : ASt) (id : Nat) (o : AObj) : memSet σ id o = σ.set id o := by simp only [memSet, putMK_eq]; rfl
noncomputable def memPush (σ : ASt) (o : AObj) : ASt := ⟨Nat.succ σ.next, putMK σ.objs σ.next o⟩
theorem memPush_eq (σ : ASt) (o : AObj) : memPush σ o = σ.push o := by simp only [memPush, putMK_eq]; rfl
theorem memKill_eq (σ : ASt) (id : Nat) : memSet σ id .dead = σ.kill id := by simp only [memSet, putMK_eq]; rfl

/- Cells. -/
noncomputable def allOneK (l : List AVal) : Bool := @List.rec AVal (fun _ => Bool) true (fun x _ ih => onOne x Bool ih false) l
theorem allOneK_eq : ∀ l : List AVal, allOneK l = true → l.all AVal.one = true
  | [], _ => rfl
  | x :: l, h => by
    have h : onOne x Bool (allOneK l) false = true := h
    rcases onOne_spec x Bool (allOneK l) false with ⟨h1, h2⟩ | h2
    · rw [h2] at h; have := allOneK_eq l h; simp only [List.all_cons, h1, this, Bool.true_and]
    · rw [h2] at h; simp at h
noncomputable def cellsF (x : AVal) (R : Type) (k : List AVal → R) (d : R) : R := onOne x R (k [x]) (onAgg x R (fun new => onB (allOneK new) R (k new) d) d)
theorem cellsF_spec (x : AVal) (R : Type) (k : List AVal → R) (d : R) : (∃ cs, x.cells? = some cs ∧ cellsF x R k d = k cs) ∨ cellsF x R k d = d := by
  unfold cellsF
  rcases onOne_spec x R (k [x]) (onAgg x R (fun new => onB (allOneK new) R (k new) d) d) with ⟨h1, h2⟩ | h2
  · rw [h2]
    refine .inl ⟨[x], ?_, rfl⟩
    cases x <;> first | (simp [AVal.one] at h1; done) | (simp only [AVal.cells?, h1, if_true]; done)
  · rw [h2]
    rcases onAgg_spec x R (fun new => onB (allOneK new) R (k new) d) d with ⟨cs, rfl, h⟩ | h
    · rw [h]
      rcases onB_spec (allOneK cs) R (k cs) d with ⟨h1, h2⟩ | h2
      · exact .inl ⟨cs, by simp only [AVal.cells?, allOneK_eq cs h1, if_true], h2⟩
      · exact .inr h2
    · exact .inr h
def shapeT (P : Program) (t : TypeId) : Option (Option Nat) :=
  match P.underlying t, P.info? t with
  | some (.struct _), some i | some (.array _ _), some i => some (some i.size)
  | some _, some _ => some none
  | _, _ => none
noncomputable def takeF (P : Program) (t : TypeId) (cs : List AVal) (R : Type) (k : AVal → R) (d : R) : R :=
  onO (shapeT P t) R (fun s => onO s R (fun n => onO (firstK n cs) R (fun l => k (.agg l)) d) (onHead cs R k d)) d
theorem takeF_spec (P : Program) (t : TypeId) (cs : List AVal) (R : Type) (k : AVal → R) (d : R) : (∃ x, takeVar P t cs = some x ∧ takeF P t cs R k d = k x) ∨ takeF P t cs R k d = d := by
  unfold takeF
  rcases onO_spec (shapeT P t) R (fun s => onO s R (fun n => onO (firstK n cs) R (fun l => k (.agg l)) d) (onHead cs R k d)) d with ⟨s, hs, h⟩ | h
  · rw [h]
    cases s with
    | none =>
      rcases onHead_spec cs R k d with ⟨x, r, rfl, h⟩ | h
      · refine .inl ⟨x, ?_, h⟩
        unfold shapeT at hs
        unfold takeVar
        split at hs <;> simp_all
      · exact .inr h
    | some n =>
      rcases onO_spec (firstK n cs) R (fun l => k (.agg l)) d with ⟨l, hl, h⟩ | h
      · refine .inl ⟨.agg l, ?_, h⟩
        obtain ⟨h1, h2⟩ := firstK_eq _ _ _ hl
        unfold shapeT at hs
        unfold takeVar
        split at hs <;> simp_all
      · exact .inr h
  · exact .inr h
theorem splice_put {cs new q : List AVal} {off : Nat} (h : spliceK cs off new = some q) : putAt cs off new = some q := by
  obtain ⟨h1, h2⟩ := spliceK_eq _ _ _ _ h
  simp only [putAt, h1, if_true, h2]

/- Loads and stores. -/
noncomputable def loadF (P : Program) (σ : ASt) (t : TypeId) (a : AVal) (R : Type) (k : AVal → ASt → R) (d : R) : R :=
  onPtr a R (fun id off => onCells (atK σ.objs id) R (fun _ cs => takeF P t (dropK cs off) R (fun x => k x σ) d) d) (fun cs => takeF P t cs R (fun x => k x σ) d) d
theorem loadF_spec (P : Program) (σ : ASt) (t : TypeId) (a : AVal) (R : Type) (k : AVal → ASt → R) (d : R) : Fast (evLoad P σ t a) k d (loadF P σ t a R k d) := by
  unfold loadF
  rcases onPtr_spec a R (fun id off => onCells (atK σ.objs id) R (fun _ cs => takeF P t (dropK cs off) R (fun x => k x σ) d) d) (fun cs => takeF P t cs R (fun x => k x σ) d) d with ⟨id, off, rfl, h⟩ | ⟨cs, rfl, h⟩ | h
  · rw [h]
    rcases onCells_spec (atK σ.objs id) R (fun _ cs => takeF P t (dropK cs off) R (fun x => k x σ) d) d with ⟨e, cs, h1, h⟩ | h
    · rw [h]
      rcases takeF_spec P t (dropK cs off) R (fun x => k x σ) d with ⟨x, hx, h⟩ | h
      · refine .inr ⟨x, σ, ?_, h⟩
        simp only [evLoad, atK_cells h1]
        rw [← dropK_eq, hx]; rfl
      · exact .inl h
    · exact .inl h
  · rw [h]
    rcases takeF_spec P t cs R (fun x => k x σ) d with ⟨x, hx, h⟩ | h
    · refine .inr ⟨x, σ, ?_, h⟩
      simp only [evLoad, hx]; rfl
    · exact .inl h
  · exact .inl h
def sizeT (P : Program) (t : TypeId) : Option Nat := (P.info? t).map (·.size)
noncomputable def storeF (P : Program) (σ : ASt) (t : TypeId) (p x : AVal) (R : Type) (k : AVal → ASt → R) (d : R) : R :=
  onPtr p R (fun id off => onCells (atK σ.objs id) R (fun e cs => cellsF x R (fun new => onO (sizeT P t) R (fun n => onB (Nat.beq (lenK new) n) R
    (onO (spliceK cs off new) R (fun q => k .junk (memSet σ id (.cells e q))) d) d) d) d) d) (fun _ => d) d
theorem storeF_spec (P : Program) (σ : ASt) (t : TypeId) (p x : AVal) (R : Type) (k : AVal → ASt → R) (d : R) : Fast (evStore P σ t p x) k d (storeF P σ t p x R k d) := by
  unfold storeF
  rcases onPtr_spec p R (fun id off => onCells (atK σ.objs id) R (fun e cs => cellsF x R (fun new => onO (sizeT P t) R (fun n => onB (Nat.beq (lenK new) n) R
    (onO (spliceK cs off new) R (fun q => k .junk (memSet σ id (.cells e q))) d) d) d) d) d) (fun _ => d) d with ⟨id, off, rfl, h⟩ | ⟨cs, rfl, h⟩ | h
  · rw [h]
    rcases onCells_spec (atK σ.objs id) R (fun e cs => cellsF x R (fun new => onO (sizeT P t) R (fun n => onB (Nat.beq (lenK new) n) R
      (onO (spliceK cs off new) R (fun q => k .junk (memSet σ id (.cells e q))) d) d) d) d) d with ⟨e, cs, h1, h⟩ | h
    · rw [h]
      rcases cellsF_spec x R (fun new => onO (sizeT P t) R (fun n => onB (Nat.beq (lenK new) n) R (onO (spliceK cs off new) R (fun q => k .junk (memSet σ id (.cells e q))) d) d) d) d with ⟨new, hn, h⟩ | h
      · rw [h]
        rcases onO_spec (sizeT P t) R (fun n => onB (Nat.beq (lenK new) n) R (onO (spliceK cs off new) R (fun q => k .junk (memSet σ id (.cells e q))) d) d) d with ⟨n, hs, h⟩ | h
        · rw [h]
          rcases onB_spec (Nat.beq (lenK new) n) R (onO (spliceK cs off new) R (fun q => k .junk (memSet σ id (.cells e q))) d) d with ⟨hb, h⟩ | h
          · rw [h]
            rcases onO_spec (spliceK cs off new) R (fun q => k .junk (memSet σ id (.cells e q))) d with ⟨q, hq, h⟩ | h
            · refine .inr ⟨.junk, _, ?_, h⟩
              have hb := Nat.eq_of_beq_eq_true hb
              rw [lenK_eq] at hb
              unfold sizeT at hs
              cases hi : P.info? t with
              | none => rw [hi] at hs; simp at hs
              | some i =>
                rw [hi] at hs
                simp only [Option.map_some, Option.some.injEq] at hs
                simp only [evStore, hn, hi, hb, ← hs, if_true, atK_cells h1, splice_put hq, memSet_eq]; rfl
            · exact .inl h
          · exact .inl h
        · exact .inl h
      · exact .inl h
    · exact .inl h
  · exact .inl h
  · exact .inl h
end Go.Ev
