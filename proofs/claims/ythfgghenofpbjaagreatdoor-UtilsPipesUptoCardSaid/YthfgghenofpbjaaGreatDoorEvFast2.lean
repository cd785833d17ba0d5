/- Operations for the kernel, in the way of continuations: the others; no condition. -/
import Derived.Test.YthfgghenofpbjaaGreatDoorEvFast

namespace Go.Ev

def faT (P : Program) (s : TypeId) (j : Nat) : Option Nat :=
  match P.underlying s with
  | some (.struct fs) => (fs[j]?).bind fun f => (P.info? f.type).bind fun i => if i.size = 0 then none else some f.offset
  | _ => none
noncomputable def fieldAddrF (P : Program) (σ : ASt) (s : TypeId) (p : AVal) (j : Nat) (R : Type) (k : AVal → ASt → R) (d : R) : R :=
  onO (faT P s j) R (fun o => onPtr p R (fun id off => k (.ref id (Nat.add off o)) σ) (fun cs => k (.iref (dropK cs o)) σ) d) d
theorem fieldAddrF_spec (P : Program) (σ : ASt) (s : TypeId) (p : AVal) (j : Nat) (R : Type) (k : AVal → ASt → R) (d : R) : Fast (evFieldAddr P σ s p j) k d (fieldAddrF P σ s p j R k d) := by
  unfold fieldAddrF
  rcases onO_spec (faT P s j) R (fun o => onPtr p R (fun id off => k (.ref id (Nat.add off o)) σ) (fun cs => k (.iref (dropK cs o)) σ) d) d with ⟨o, ho, h⟩ | h
  · rw [h]
    unfold faT at ho
    split at ho
    · rename_i fs hfs
      cases hf : fs[j]? with
      | none => rw [hf] at ho; simp at ho
      | some f =>
        rw [hf] at ho
        simp only [Option.bind_some] at ho
        cases hi : P.info? f.type with
        | none => rw [hi] at ho; simp at ho
        | some i =>
          rw [hi] at ho
          simp only [Option.bind_some] at ho
          split at ho
          · simp at ho
          · rename_i hz
            simp only [Option.some.injEq] at ho
            subst ho
            rcases onPtr_spec p R (fun id off => k (.ref id (Nat.add off f.offset)) σ) (fun cs => k (.iref (dropK cs f.offset)) σ) d with ⟨id, off, rfl, h⟩ | ⟨cs, rfl, h⟩ | h
            · refine .inr ⟨_, σ, ?_, h⟩
              simp only [evFieldAddr, hfs, hf, hi, Option.bind_some, if_neg hz, val1]; rfl
            · refine .inr ⟨_, σ, ?_, h⟩
              simp only [evFieldAddr, hfs, hf, hi, Option.bind_some, if_neg hz, val1, dropK_eq]
            · exact .inl h
    · simp at ho
  · exact .inl h

def fieldT (P : Program) (s : TypeId) (j : Nat) : Option (Nat × TypeId) :=
  match P.underlying s with
  | some (.struct fs) => (fs[j]?).map fun f => (f.offset, f.type)
  | _ => none
noncomputable def fieldF (P : Program) (σ : ASt) (s : TypeId) (x : AVal) (j : Nat) (R : Type) (k : AVal → ASt → R) (d : R) : R :=
  onAgg x R (fun cs => onO (fieldT P s j) R (fun p => takeF P p.2 (dropK cs p.1) R (fun y => k y σ) d) d) d
theorem fieldF_spec (P : Program) (σ : ASt) (s : TypeId) (x : AVal) (j : Nat) (R : Type) (k : AVal → ASt → R) (d : R) : Fast (evField P σ s x j) k d (fieldF P σ s x j R k d) := by
  unfold fieldF
  rcases onAgg_spec x R (fun cs => onO (fieldT P s j) R (fun p => takeF P p.2 (dropK cs p.1) R (fun y => k y σ) d) d) d with ⟨cs, rfl, h⟩ | h
  · rw [h]
    rcases onO_spec (fieldT P s j) R (fun p => takeF P p.2 (dropK cs p.1) R (fun y => k y σ) d) d with ⟨p, hp, h⟩ | h
    · rw [h]
      rcases takeF_spec P p.2 (dropK cs p.1) R (fun y => k y σ) d with ⟨y, hy, h⟩ | h
      · refine .inr ⟨y, σ, ?_, h⟩
        unfold fieldT at hp
        split at hp
        · rename_i fs hfs
          cases hf : fs[j]? with
          | none => rw [hf] at hp; simp at hp
          | some f =>
            rw [hf] at hp
            simp only [Option.map_some, Option.some.injEq] at hp
            subst hp
            rw [dropK_eq] at hy
            simp only [evField, hfs, hf, Option.bind_some, hy, val1]
        · simp at hp
      · exact .inl h
    · exact .inl h
  · exact .inl h

def elemT (P : Program) (t : TypeId) : Option Nat := match P.underlying t with | some (.slice e) => (P.info? e).map (·.size) | _ => none
def arrT (P : Program) (t : TypeId) : Option (Nat × Nat) := match P.underlying t with | some (.array n e) => (P.info? e).map fun i => (n, i.size) | _ => none
theorem elemT_some {P : Program} {t : TypeId} {m : Nat} (h : elemT P t = some m) : ∃ e, P.underlying t = some (.slice e) ∧ (P.info? e).map (·.size) = some m := by
  unfold elemT at h
  split at h
  · rename_i e he; exact ⟨e, he, h⟩
  · simp at h
theorem arrT_some {P : Program} {t : TypeId} {p : Nat × Nat} (h : arrT P t = some p) : ∃ e i, P.underlying t = some (.array p.1 e) ∧ P.info? e = some i ∧ i.size = p.2 := by
  unfold arrT at h
  split at h
  · rename_i n e he
    cases hi : P.info? e with
    | none => rw [hi] at h; simp at h
    | some i => rw [hi] at h; simp only [Option.map_some, Option.some.injEq] at h; subst h; exact ⟨e, i, he, hi, rfl⟩
  · simp at h
noncomputable def indexAddrF (P : Program) (σ : ASt) (t : TypeId) (x ix : AVal) (R : Type) (k : AVal → ASt → R) (d : R) : R :=
  onN ix R (fun _ i => onSl x R
    (fun m n cs _ => onO (elemT P t) R (fun m' => onB (Nat.beq m' m) R (onB (Nat.ble (Nat.succ i) n) R (k (.iref (dropK cs (Nat.mul i m))) σ) d) d) d)
    (fun m id off n _ => onO (elemT P t) R (fun m' => onB (Nat.beq m' m) R (onB (Nat.ble (Nat.succ i) n) R (k (.ref id (Nat.add off (Nat.mul i m))) σ) d) d) d)
    (onO (arrT P t) R (fun p => onB (Nat.ble 2 p.1) R (onB (Nat.ble (Nat.succ i) p.1) R
      (onPtr x R (fun id off => k (.ref id (Nat.add off (Nat.mul i p.2))) σ) (fun cs => k (.iref (dropK cs (Nat.mul i p.2))) σ) d) d) d) d)) d
theorem indexAddrF_spec (P : Program) (σ : ASt) (t : TypeId) (x ix : AVal) (R : Type) (k : AVal → ASt → R) (d : R) : Fast (evIndexAddr P σ t x ix) k d (indexAddrF P σ t x ix R k d) := by
  unfold indexAddrF
  generalize hK : (fun (_ : IntKind) (i : Nat) => _) = K
  rcases onN_spec ix R K d with ⟨kd, i, rfl, h⟩ | h
  · rw [h, ← hK]
    clear h
    simp only
    generalize hA : (fun (m n : Nat) (cs : List AVal) (_ : Tok) => _) = A
    generalize hB : (fun (m id off n : Nat) (_ : Option Nat) => _) = B
    generalize hD : onO (arrT P t) R _ d = D
    rcases onSl_spec x R A B D with ⟨m, n, cs, tok, rfl, h⟩ | ⟨m, id, off, n, cap, rfl, h⟩ | h
    · rw [h, ← hA]
      simp only
      rcases onO_spec (elemT P t) R (fun m' => onB (Nat.beq m' m) R (onB (Nat.ble (Nat.succ i) n) R (k (.iref (dropK cs (Nat.mul i m))) σ) d) d) d with ⟨m', hm, h⟩ | h
      · rw [h]
        rcases onB_spec (Nat.beq m' m) R (onB (Nat.ble (Nat.succ i) n) R (k (.iref (dropK cs (Nat.mul i m))) σ) d) d with ⟨hb, h⟩ | h
        · rw [h]
          rcases onB_spec (Nat.ble (Nat.succ i) n) R (k (.iref (dropK cs (Nat.mul i m))) σ) d with ⟨hl, h⟩ | h
          · refine .inr ⟨_, σ, ?_, h⟩
            obtain ⟨e, h1, h2⟩ := elemT_some hm
            rw [Nat.eq_of_beq_eq_true hb] at h2
            have hl := Nat.le_of_ble_eq_true hl
            simp only [evIndexAddr, h1, h2, if_true, val1, dropK_eq]
            rw [if_pos ⟨Int.natCast_nonneg i, by simp only [Int.ofNat_eq_natCast]; omega⟩]
            rfl
          · exact .inl h
        · exact .inl h
      · exact .inl h
    · rw [h, ← hB]
      simp only
      rcases onO_spec (elemT P t) R (fun m' => onB (Nat.beq m' m) R (onB (Nat.ble (Nat.succ i) n) R (k (.ref id (Nat.add off (Nat.mul i m))) σ) d) d) d with ⟨m', hm, h⟩ | h
      · rw [h]
        rcases onB_spec (Nat.beq m' m) R (onB (Nat.ble (Nat.succ i) n) R (k (.ref id (Nat.add off (Nat.mul i m))) σ) d) d with ⟨hb, h⟩ | h
        · rw [h]
          rcases onB_spec (Nat.ble (Nat.succ i) n) R (k (.ref id (Nat.add off (Nat.mul i m))) σ) d with ⟨hl, h⟩ | h
          · refine .inr ⟨_, σ, ?_, h⟩
            obtain ⟨e, h1, h2⟩ := elemT_some hm
            rw [Nat.eq_of_beq_eq_true hb] at h2
            have hl := Nat.le_of_ble_eq_true hl
            simp only [evIndexAddr, h1, h2, if_true, val1]
            rw [if_pos ⟨Int.natCast_nonneg i, by simp only [Int.ofNat_eq_natCast]; omega⟩]
            rfl
          · exact .inl h
        · exact .inl h
      · exact .inl h
    · rw [h, ← hD]
      rcases onO_spec (arrT P t) R (fun p => onB (Nat.ble 2 p.1) R (onB (Nat.ble (Nat.succ i) p.1) R
        (onPtr x R (fun id off => k (.ref id (Nat.add off (Nat.mul i p.2))) σ) (fun cs => k (.iref (dropK cs (Nat.mul i p.2))) σ) d) d) d) d with ⟨p, hp, h⟩ | h
      · rw [h]
        rcases onB_spec (Nat.ble 2 p.1) R (onB (Nat.ble (Nat.succ i) p.1) R
          (onPtr x R (fun id off => k (.ref id (Nat.add off (Nat.mul i p.2))) σ) (fun cs => k (.iref (dropK cs (Nat.mul i p.2))) σ) d) d) d with ⟨h2, h⟩ | h
        · rw [h]
          rcases onB_spec (Nat.ble (Nat.succ i) p.1) R (onPtr x R (fun id off => k (.ref id (Nat.add off (Nat.mul i p.2))) σ) (fun cs => k (.iref (dropK cs (Nat.mul i p.2))) σ) d) d with ⟨hl, h⟩ | h
          · rw [h]
            obtain ⟨e, inf, q1, q2, q3⟩ := arrT_some hp
            have h2 := Nat.le_of_ble_eq_true h2
            have hl := Nat.le_of_ble_eq_true hl
            rcases onPtr_spec x R (fun id off => k (.ref id (Nat.add off (Nat.mul i p.2))) σ) (fun cs => k (.iref (dropK cs (Nat.mul i p.2))) σ) d with ⟨id, off, rfl, h⟩ | ⟨cs, rfl, h⟩ | h
            · refine .inr ⟨_, σ, ?_, h⟩
              simp only [evIndexAddr, q1, q2, Option.bind_some, val1]
              rw [if_pos ⟨by omega, Int.natCast_nonneg i, by simp only [Int.ofNat_eq_natCast]; omega⟩, q3]
              rfl
            · refine .inr ⟨_, σ, ?_, h⟩
              simp only [evIndexAddr, q1, q2, Option.bind_some, val1, dropK_eq]
              rw [if_pos ⟨by omega, Int.natCast_nonneg i, by simp only [Int.ofNat_eq_natCast]; omega⟩, q3]
              rfl
            · exact .inl h
          · exact .inl h
        · exact .inl h
      · exact .inl h
  · exact .inl h

def isStrT (P : Program) (t : TypeId) : Bool := match P.underlying t with | some .string => true | _ => false
theorem isStrT_eq {P : Program} {t : TypeId} (h : isStrT P t = true) : P.underlying t = some .string := by
  unfold isStrT at h
  split at h
  · assumption
  · simp at h
noncomputable def indexF (P : Program) (σ : ASt) (t : TypeId) (x ix : AVal) (R : Type) (k : AVal → ASt → R) (d : R) : R :=
  onN ix R (fun _ i => onS x R (fun s => onB (isStrT P t) R (onO (nthO s.data.toList i) R (fun b => k (.v (.int .u8 (.ofNat b.toNat))) σ) d) d) d) d
theorem indexF_spec (P : Program) (σ : ASt) (t : TypeId) (x ix : AVal) (R : Type) (k : AVal → ASt → R) (d : R) : Fast (evIndex P σ t x ix) k d (indexF P σ t x ix R k d) := by
  unfold indexF
  rcases onN_spec ix R (fun _ i => onS x R (fun s => onB (isStrT P t) R (onO (nthO s.data.toList i) R (fun b => k (.v (.int .u8 (.ofNat b.toNat))) σ) d) d) d) d with ⟨kd, i, rfl, h⟩ | h
  · rw [h]
    rcases onS_spec x R (fun s => onB (isStrT P t) R (onO (nthO s.data.toList i) R (fun b => k (.v (.int .u8 (.ofNat b.toNat))) σ) d) d) d with ⟨s, rfl, h⟩ | h
    · rw [h]
      rcases onB_spec (isStrT P t) R (onO (nthO s.data.toList i) R (fun b => k (.v (.int .u8 (.ofNat b.toNat))) σ) d) d with ⟨ht, h⟩ | h
      · rw [h]
        rcases onO_spec (nthO s.data.toList i) R (fun b => k (.v (.int .u8 (.ofNat b.toNat))) σ) d with ⟨b, hb, h⟩ | h
        · refine .inr ⟨_, σ, ?_, h⟩
          rw [nthO_eq] at hb
          simp only [evIndex, isStrT_eq ht]
          rw [if_pos (show (0 : Int) ≤ Int.ofNat i from Int.natCast_nonneg i)]
          show (match s.data.toList[i]? with | some b => val1 σ (.v (.int .u8 b.toNat)) | none => bounds P σ kd (Int.ofNat i) s.size) = _
          rw [hb]; rfl
        · exact .inl h
      · exact .inl h
    · exact .inl h
  · exact .inl h
noncomputable def extractF (σ : ASt) (x : AVal) (j : Nat) (R : Type) (k : AVal → ASt → R) (d : R) : R := onTuple x R (fun vs => onO (nthO vs j) R (fun y => k y σ) d) d
theorem extractF_spec (σ : ASt) (x : AVal) (j : Nat) (R : Type) (k : AVal → ASt → R) (d : R) : Fast (evExtract σ x j) k d (extractF σ x j R k d) := by
  unfold extractF
  rcases onTuple_spec x R (fun vs => onO (nthO vs j) R (fun y => k y σ) d) d with ⟨vs, rfl, h⟩ | h
  · rw [h]
    rcases onO_spec (nthO vs j) R (fun y => k y σ) d with ⟨y, hy, h⟩ | h
    · refine .inr ⟨y, σ, ?_, h⟩
      rw [nthO_eq] at hy
      simp only [evExtract, hy]; rfl
    · exact .inl h
  · exact .inl h
noncomputable def allocF (P : Program) (σ : ASt) (t : TypeId) (R : Type) (k : AVal → ASt → R) (d : R) : R := onO (zeroCells? P t) R (fun cs => k (.ref σ.next (nat_lit 0)) (memPush σ (.cells t cs))) d
theorem allocF_spec (P : Program) (σ : ASt) (t : TypeId) (R : Type) (k : AVal → ASt → R) (d : R) : Fast (evAlloc P σ t) k d (allocF P σ t R k d) := by
  unfold allocF
  rcases onO_spec (zeroCells? P t) R (fun cs => k (.ref σ.next (nat_lit 0)) (memPush σ (.cells t cs))) d with ⟨cs, hc, h⟩ | h
  · refine .inr ⟨_, _, ?_, h⟩
    simp only [evAlloc, hc, memPush_eq]; rfl
  · exact .inl h
noncomputable def boxF (σ : ASt) (t : TypeId) (x : AVal) (R : Type) (k : AVal → ASt → R) (d : R) : R := cellsF x R (fun cs => k (.ref σ.next (nat_lit 0)) (memPush σ (.cells t cs))) d
theorem boxF_spec (σ : ASt) (t : TypeId) (x : AVal) (R : Type) (k : AVal → ASt → R) (d : R) : Fast (evBox σ t x) k d (boxF σ t x R k d) := by
  unfold boxF
  rcases cellsF_spec x R (fun cs => k (.ref σ.next (nat_lit 0)) (memPush σ (.cells t cs))) d with ⟨cs, hc, h⟩ | h
  · refine .inr ⟨_, _, ?_, h⟩
    simp only [evBox, hc, memPush_eq]; rfl
  · exact .inl h
def concT (P : Program) (t : TypeId) : Bool := match P.underlying t with | some (.interface _) | none => false | some _ => true
noncomputable def makeIfaceF (P : Program) (σ : ASt) (t : TypeId) (x : AVal) (R : Type) (k : AVal → ASt → R) (d : R) : R := onB (concT P t) R (k (.iface t x) σ) d
theorem makeIfaceF_spec (P : Program) (σ : ASt) (t : TypeId) (x : AVal) (R : Type) (k : AVal → ASt → R) (d : R) : Fast (evMakeIface P σ t x) k d (makeIfaceF P σ t x R k d) := by
  unfold makeIfaceF
  rcases onB_spec (concT P t) R (k (.iface t x) σ) d with ⟨hc, h⟩ | h
  · refine .inr ⟨_, _, ?_, h⟩
    unfold concT at hc
    unfold evMakeIface
    split at hc <;> simp_all [val1]
  · exact .inl h
noncomputable def typeAssertF (P : Program) (σ : ASt) (x : AVal) (asserted : TypeId) (ok : Bool) (R : Type) (k : AVal → ASt → R) (d : R) : R :=
  onB (concT P asserted) R (onIface x R (fun t y => onB (Nat.beq t asserted) R (k (@Bool.rec (fun _ => AVal) y (.tuple [y, .v (.bool true)]) ok) σ) d) d) d
theorem typeAssertF_spec (P : Program) (σ : ASt) (x : AVal) (asserted : TypeId) (ok : Bool) (R : Type) (k : AVal → ASt → R) (d : R) : Fast (evTypeAssert P σ x asserted ok) k d (typeAssertF P σ x asserted ok R k d) := by
  unfold typeAssertF
  rcases onB_spec (concT P asserted) R (onIface x R (fun t y => onB (Nat.beq t asserted) R (k (@Bool.rec (fun _ => AVal) y (.tuple [y, .v (.bool true)]) ok) σ) d) d) d with ⟨hc, h⟩ | h
  · rw [h]
    rcases onIface_spec x R (fun t y => onB (Nat.beq t asserted) R (k (@Bool.rec (fun _ => AVal) y (.tuple [y, .v (.bool true)]) ok) σ) d) d with ⟨t, y, rfl, h⟩ | h
    · rw [h]
      rcases onB_spec (Nat.beq t asserted) R (k (@Bool.rec (fun _ => AVal) y (.tuple [y, .v (.bool true)]) ok) σ) d with ⟨hb, h⟩ | h
      · refine .inr ⟨_, _, ?_, h⟩
        have := Nat.eq_of_beq_eq_true hb
        subst this
        unfold concT at hc
        unfold evTypeAssert
        split at hc
        · simp at hc
        · simp at hc
        · rename_i q1 q2
          cases ok <;> simp only [q2] <;> (split <;> simp_all [val1])
      · exact .inl h
    · exact .inl h
  · exact .inl h
noncomputable def nilCheckF (σ : ASt) (x : AVal) (R : Type) (k : AVal → ASt → R) (d : R) : R :=
  onPtr x R (fun i o => k (.ref i o) σ) (fun cs => k (.iref cs) σ) (onIface x R (fun t y => k (.iface t y) σ) d)
theorem nilCheckF_spec (P : Program) (σ : ASt) (x : AVal) (R : Type) (k : AVal → ASt → R) (d : R) : Fast (evNilCheck P σ x) k d (nilCheckF σ x R k d) := by
  unfold nilCheckF
  rcases onPtr_spec x R (fun i o => k (.ref i o) σ) (fun cs => k (.iref cs) σ) (onIface x R (fun t y => k (.iface t y) σ) d) with ⟨id, off, rfl, h⟩ | ⟨cs, rfl, h⟩ | h
  · exact .inr ⟨_, σ, rfl, h⟩
  · exact .inr ⟨_, σ, rfl, h⟩
  · rw [h]
    rcases onIface_spec x R (fun t y => k (.iface t y) σ) d with ⟨t, y, rfl, h⟩ | h
    · exact .inr ⟨_, σ, rfl, h⟩
    · exact .inl h
end Go.Ev
