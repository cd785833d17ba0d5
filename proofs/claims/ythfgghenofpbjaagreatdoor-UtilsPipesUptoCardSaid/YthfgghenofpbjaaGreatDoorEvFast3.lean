/- Operations for the kernel, in the way of continuations: sums, texts, slices; no condition. -/
import Derived.Test.YthfgghenofpbjaaGreatDoorEvFast2
namespace Go.Ev

noncomputable def beqK (l : List UInt8) : List UInt8 → Bool :=
  @List.rec UInt8 (fun _ => List UInt8 → Bool) (fun r => onNil r Bool true false) (fun x _ ih r => @List.rec UInt8 (fun _ => Bool) false (fun y r' _ => onB (Nat.beq x.toNat y.toNat) Bool (ih r') false) r) l
theorem beqK_eq : ∀ l r : List UInt8, beqK l r = (l == r)
  | [], [] => rfl
  | [], _ :: _ => rfl
  | _ :: _, [] => rfl
  | x :: l, y :: r => by
    show onB (Nat.beq x.toNat y.toNat) Bool (beqK l r) false = _
    rw [beqK_eq l r]
    have : (x :: l == y :: r) = (x == y && l == r) := rfl
    rw [this]
    have hx : (x == y) = Nat.beq x.toNat y.toNat := by
      rw [Bool.eq_iff_iff]
      simp [UInt8.toNat_inj]
    rw [hx]
    cases Nat.beq x.toNat y.toNat <;> rfl

abbrev StrOp := ByteArray → ByteArray → Option Value
noncomputable def strOpK (op : BinOp) : StrOp :=
  BinOp.rec (motive := fun _ => StrOp)
    (add := fun a b => onB (Nat.ble (Nat.add (lenK a.data.toList) (lenK b.data.toList)) (nat_lit 1099511627776)) (Option Value) (some (.string ⟨⟨appK a.data.toList b.data.toList⟩⟩)) none)
    (sub := fun _ _ => none) (mul := fun _ _ => none) (quo := fun _ _ => none) (rem := fun _ _ => none) (and := fun _ _ => none) (or := fun _ _ => none) (xor := fun _ _ => none)
    (shl := fun _ _ => none) (shr := fun _ _ => none) (andNot := fun _ _ => none)
    (eql := fun a b => some (.bool (beqK a.data.toList b.data.toList))) (neq := fun a b => some (.bool (@Bool.rec (fun _ => Bool) true false (beqK a.data.toList b.data.toList)))) (lss := fun _ _ => none) (leq := fun _ _ => none)
    (gtr := fun _ _ => none) (geq := fun _ _ => none) op
theorem strOpK_sound {op : BinOp} {a b : ByteArray} {r : Value} (h : strOpK op a b = some r) : evStr op a b = some r := by
  cases op <;> (first | (simp [strOpK] at h; done) | skip)
  case add =>
    simp only [strOpK] at h
    rcases onB_spec (Nat.ble (Nat.add (lenK a.data.toList) (lenK b.data.toList)) (nat_lit 1099511627776)) (Option Value) (some (.string ⟨⟨appK a.data.toList b.data.toList⟩⟩)) none with ⟨h1, h2⟩ | h2
    · rw [h2] at h
      have h1 := Nat.le_of_ble_eq_true h1
      rw [lenK_eq, lenK_eq] at h1
      have h1 : a.data.toList.length + b.data.toList.length ≤ 1099511627776 := h1
      unfold evStr
      simp only
      rw [if_pos (Nat.le_trans h1 (by decide)), ← h, appK_eq]
    · rw [h2] at h; simp at h
  case eql =>
    simp only [strOpK, Option.some.injEq] at h
    subst h
    simp only [evStr, beqK_eq]
  case neq =>
    simp only [strOpK, Option.some.injEq] at h
    subst h
    simp only [evStr, beqK_eq]
    cases a.data.toList == b.data.toList <;> rfl

noncomputable def binF (σ : ASt) (op : BinOp) (x y : AVal) (R : Type) (k : AVal → ASt → R) (d : R) : R :=
  onN x R (fun kd a => onN y R (fun kd' b => onO (natOpK op kd kd' a b) R (fun r => k (.v r) σ) d) d) (onS x R (fun a => onS y R (fun b => onO (strOpK op a b) R (fun r => k (.v r) σ) d) d) d)
theorem binF_spec (P : Program) (σ : ASt) (op : BinOp) (t : TypeId) (x y : AVal) (gen : Unit → ORes) (R : Type) (k : AVal → ASt → R) (d : R) : Fast (evBin P σ op t x y gen) k d (binF σ op x y R k d) := by
  unfold binF
  rcases onN_spec x R (fun kd a => onN y R (fun kd' b => onO (natOpK op kd kd' a b) R (fun r => k (.v r) σ) d) d) (onS x R (fun a => onS y R (fun b => onO (strOpK op a b) R (fun r => k (.v r) σ) d) d) d) with ⟨kd, a, rfl, h⟩ | h
  · rw [h]
    rcases onN_spec y R (fun kd' b => onO (natOpK op kd kd' a b) R (fun r => k (.v r) σ) d) d with ⟨kd', b, rfl, h⟩ | h
    · rw [h]
      rcases onO_spec (natOpK op kd kd' a b) R (fun r => k (.v r) σ) d with ⟨r, hr, h⟩ | h
      · refine .inr ⟨_, _, ?_, h⟩
        obtain ⟨h1, h2⟩ := natOpK_sound (P := P) (t := t) hr
        simp only [evBin, h1, h2]; rfl
      · exact .inl h
    · exact .inl h
  · rw [h]
    rcases onS_spec x R (fun a => onS y R (fun b => onO (strOpK op a b) R (fun r => k (.v r) σ) d) d) d with ⟨a, rfl, h⟩ | h
    · rw [h]
      rcases onS_spec y R (fun b => onO (strOpK op a b) R (fun r => k (.v r) σ) d) d with ⟨b, rfl, h⟩ | h
      · rw [h]
        rcases onO_spec (strOpK op a b) R (fun r => k (.v r) σ) d with ⟨r, hr, h⟩ | h
        · refine .inr ⟨_, _, ?_, h⟩
          simp only [evBin, strOpK_sound hr]; rfl
        · exact .inl h
      · exact .inl h
    · exact .inl h

/- Whole numbers of another kind. -/
noncomputable def topK (kd : IntKind) : Nat :=
  IntKind.rec (motive := fun _ => Nat) (i8 := nat_lit 127) (i16 := nat_lit 32767) (i32 := nat_lit 2147483647) (i64 := nat_lit 9223372036854775807) (u8 := nat_lit 255) (u16 := nat_lit 65535) (u32 := nat_lit 4294967295) (u64 := nat_lit 18446744073709551615) kd
theorem wrap_of {kd : IntKind} {n : Nat} (h1 : (n : Int) < 2 ^ kd.bits) (h2 : kd.signed = true → (n : Int) < 2 ^ (kd.bits - 1)) : kd.wrap (Int.ofNat n) = Int.ofNat n := by
  unfold IntKind.wrap
  have e : (Int.ofNat n) % (2 ^ kd.bits : Int) = Int.ofNat n := Int.emod_eq_of_lt (Int.natCast_nonneg n) h1
  simp only [e]
  rw [if_neg]
  intro hc
  simp only [ge_iff_le, Bool.and_eq_true, decide_eq_true_eq] at hc
  exact absurd hc.2 (Int.not_le.2 (h2 hc.1))
theorem wrap_top {kd : IntKind} {n : Nat} (h : n ≤ topK kd) : kd.wrap (Int.ofNat n) = Int.ofNat n := by
  have q8 : (2 : Int) ^ 8 = 256 := by decide
  have q16 : (2 : Int) ^ 16 = 65536 := by decide
  have q32 : (2 : Int) ^ 32 = 4294967296 := by decide
  have q64 : (2 : Int) ^ 64 = 18446744073709551616 := by decide
  have p8 : (2 : Int) ^ 7 = 128 := by decide
  have p16 : (2 : Int) ^ 15 = 32768 := by decide
  have p32 : (2 : Int) ^ 31 = 2147483648 := by decide
  have p64 : (2 : Int) ^ 63 = 9223372036854775808 := by decide
  cases kd <;> simp only [topK] at h <;> refine wrap_of ?_ ?_ <;> simp only [IntKind.bits, IntKind.signed, q8, q16, q32, q64, p8, p16, p32, p64, Nat.reduceSub] <;> first | omega | (intro hc; first | omega | cases hc)
theorem pure1_bind {α β : Type} {P : Program} {s : Sem α} {f : α → Sem β} {a : α} (h : pure1 P s = some (.ok a)) : pure1 P (s.bind f) = pure1 P (f a) := by
  induction s with
  | pure b => simp only [pure1, Option.some.injEq, Except.ok.injEq] at h; subst h; rfl
  | program k ih => simp only [pure1] at h; simp only [Sem.bind, pure1]; exact ih P h
  | mark m k ih => simp only [pure1] at h; simp only [Sem.bind, pure1]; exact ih h
  | halt x => simp [pure1] at h
  | _ => simp [pure1] at h
def convT (P : Program) (s t : TypeId) : Option IntKind := match P.underlying s, P.underlying t with | some _, some (.int k) => some k | _, _ => none
noncomputable def convF (P : Program) (σ : ASt) (s t : TypeId) (x : AVal) (R : Type) (k : AVal → ASt → R) (d : R) : R :=
  onN x R (fun _ n => onO (convT P s t) R (fun kd => onB (Nat.ble n (topK kd)) R (k (.v (.int kd (.ofNat n))) σ) d) d) d
theorem convF_spec (P : Program) (E : Env) (fn : FuncId) (σ : ASt) (ρ : Operand → AVal) (s t : TypeId) (a : Operand) (o : Oper) (ho : o.op = .convert s t a) (R : Type) (k : AVal → ASt → R) (d : R) :
    Fast (evConvert P E fn σ s t (ρ a) (evGen P σ ρ o)) k d (convF P σ s t (ρ a) R k d) := by
  unfold convF
  generalize hx : ρ a = x
  rcases onN_spec x R (fun _ n => onO (convT P s t) R (fun kd => onB (Nat.ble n (topK kd)) R (k (.v (.int kd (.ofNat n))) σ) d) d) d with ⟨kd', n, rfl, h⟩ | h
  · rw [h]
    rcases onO_spec (convT P s t) R (fun kd => onB (Nat.ble n (topK kd)) R (k (.v (.int kd (.ofNat n))) σ) d) d with ⟨kd, hk, h⟩ | h
    · rw [h]
      rcases onB_spec (Nat.ble n (topK kd)) R (k (.v (.int kd (.ofNat n))) σ) d with ⟨hb, h⟩ | h
      · refine .inr ⟨_, σ, ?_, h⟩
        have hw := wrap_top (Nat.le_of_ble_eq_true hb)
        unfold convT at hk
        split at hk
        · rename_i u v hu hv
          simp only [Option.some.injEq] at hk
          subst hk
          have hgen : evGen P σ ρ o () = some (.val (.v (.int v (.ofNat n))), σ) := by
            unfold evGen
            rw [ho]
            simp only [Op.operands, List.all_cons, List.all_nil, hx, flat?, Option.isSome_some, Bool.and_true, if_true]
            simp only [execOp, ho]
            simp only [hx, Option.getD_some]
            have hc : pure1 P (Go.convert s t (.int kd' (.ofNat n))) = some (.ok (.int v (.ofNat n))) := by
              unfold Go.convert
              simp only [Go.underlying, Go.program, bind, Sem.bind, pure, pure1, hu, hv, Conv.intToInt, hw]
            show ofNext σ (pure1 P (Sem.bind (Go.convert s t (.int kd' (.ofNat n))) fun y => Sem.pure (Next.value y))) = _
            rw [pure1_bind hc]
            rfl
          unfold evConvert
          simp only [hu, hv]
          exact hgen
        · simp at hk
      · exact .inl h
    · exact .inl h
  · exact .inl h

/- Not. -/
noncomputable def notF (σ : ASt) (op : UnOp) (x : AVal) (R : Type) (k : AVal → ASt → R) (d : R) : R :=
  UnOp.rec (motive := fun _ => R) (neg := d) (xor := d) (not := onTF x R (fun b => k (.v (.bool (@Bool.rec (fun _ => Bool) true false b))) σ) d) (plus := d) op
theorem notF_spec (P : Program) (σ : ASt) (ρ : Operand → AVal) (op : UnOp) (t : TypeId) (a : Operand) (o : Oper) (ho : o.op = .unOp op t a) (R : Type) (k : AVal → ASt → R) (d : R) :
    Fast (evGen P σ ρ o ()) k d (notF σ op (ρ a) R k d) := by
  unfold notF
  cases op <;> (first | exact .inl rfl | skip)
  simp only
  generalize hx : ρ a = x
  rcases onTF_spec x R (fun b => k (.v (.bool (@Bool.rec (fun _ => Bool) true false b))) σ) d with ⟨b, rfl, h⟩ | h
  · refine .inr ⟨_, σ, ?_, h⟩
    unfold evGen
    rw [ho]
    simp only [Op.operands, List.all_cons, List.all_nil, hx, flat?, Option.isSome_some, Bool.and_true, if_true]
    simp only [execOp, ho]
    simp only [hx, Option.getD_some]
    cases b <;> rfl
  · exact .inl h

/- Slices of texts and of lists. -/
noncomputable def boundK (y : Nat) (b : Option AVal) (dflt : Nat) : Option Nat := @Option.rec AVal (fun _ => Option Nat) (some dflt) (fun x => onN x (Option Nat) (fun _ n => onB (Nat.ble n y) (Option Nat) (some n) none) none) b
theorem boundK_eq {y : Nat} {b : Option AVal} {dflt n : Nat} (h : boundK y b dflt = some n) : bound y b dflt = some n := by
  cases b with
  | none => exact h
  | some x =>
    have h : onN x (Option Nat) (fun _ n => onB (Nat.ble n y) (Option Nat) (some n) none) none = some n := h
    rcases onN_spec x (Option Nat) (fun _ n => onB (Nat.ble n y) (Option Nat) (some n) none) none with ⟨kd, m, rfl, h1⟩ | h1
    · rw [h1] at h
      rcases onB_spec (Nat.ble m y) (Option Nat) (some m) none with ⟨h2, h3⟩ | h3
      · rw [h3] at h
        simp only [Option.some.injEq] at h; subst h
        simp only [bound]
        rw [if_pos ⟨Int.natCast_nonneg m, by have := Nat.le_of_ble_eq_true h2; simp only [Int.ofNat_eq_natCast]; omega⟩]
        rfl
      · rw [h3] at h; simp at h
    · rw [h1] at h; simp at h
noncomputable def sliceF (P : Program) (σ : ASt) (t : TypeId) (x : AVal) (lo hi mx : Option AVal) (R : Type) (k : AVal → ASt → R) (d : R) : R :=
  onO mx R (fun _ => d) (onS x R
    (fun s => onB (isStrT P t) R (onO (boundK (lenK s.data.toList) hi (lenK s.data.toList)) R (fun h => onO (boundK h lo (nat_lit 0)) R
      (fun l => k (.v (.string ⟨⟨takeK (dropK s.data.toList l) (Nat.sub h l)⟩⟩)) σ) d) d) d)
    (onSl x R
      (fun m n cs tok => onO (elemT P t) R (fun m' => onB (Nat.beq m' m) R (onB (Nat.ble (nat_lit 1) m) R (onO (boundK n hi n) R (fun h => onO (boundK h lo (nat_lit 0)) R
        (fun l => k (.list m (Nat.sub h l) (takeK (dropK cs (Nat.mul l m)) (Nat.mul (Nat.sub h l) m)) (@Bool.rec (fun _ => Tok) .no tok (Nat.beq h n))) σ) d) d) d) d) d)
      (fun _ _ _ _ _ => d) d))
theorem sliceF_spec (P : Program) (σ : ASt) (t : TypeId) (x : AVal) (lo hi mx : Option AVal) (R : Type) (k : AVal → ASt → R) (d : R) : Fast (evSlice P σ t x lo hi mx) k d (sliceF P σ t x lo hi mx R k d) := by
  unfold sliceF
  cases mx with
  | some m => exact .inl rfl
  | none =>
    show Fast _ k d (onS x R _ _)
    generalize hA : (fun (s : ByteArray) => _) = A
    generalize hD : onSl x R _ _ d = D
    rcases onS_spec x R A D with ⟨s, rfl, h⟩ | h
    · rw [h, ← hA]
      simp only
      clear h hA hD
      rcases onB_spec (isStrT P t) R (onO (boundK (lenK s.data.toList) hi (lenK s.data.toList)) R (fun h => onO (boundK h lo (nat_lit 0)) R
        (fun l => k (.v (.string ⟨⟨takeK (dropK s.data.toList l) (Nat.sub h l)⟩⟩)) σ) d) d) d with ⟨ht, h⟩ | h
      · rw [h]
        rcases onO_spec (boundK (lenK s.data.toList) hi (lenK s.data.toList)) R (fun h => onO (boundK h lo (nat_lit 0)) R
          (fun l => k (.v (.string ⟨⟨takeK (dropK s.data.toList l) (Nat.sub h l)⟩⟩)) σ) d) d with ⟨y, hy, h⟩ | h
        · rw [h]
          rcases onO_spec (boundK y lo (nat_lit 0)) R (fun l => k (.v (.string ⟨⟨takeK (dropK s.data.toList l) (Nat.sub y l)⟩⟩)) σ) d with ⟨l, hl, h⟩ | h
          · refine .inr ⟨_, σ, ?_, h⟩
            have hy := boundK_eq hy
            have hl := boundK_eq hl
            have hsz : ∀ s : ByteArray, s.size = s.data.toList.length := fun ⟨⟨_⟩⟩ => rfl
            rw [lenK_eq, ← hsz s] at hy
            simp only [evSlice, isStrT_eq ht, Option.isSome_none, Bool.false_eq_true, if_false, hy]
            have hl : bound y lo 0 = some l := hl
            simp only [hl, sub, val1, takeK_eq, dropK_eq]; rfl
          · exact .inl h
        · exact .inl h
      · exact .inl h
    · rw [h, ← hD]
      clear h hA hD
      generalize hA : (fun (m n : Nat) (cs : List AVal) (tok : Tok) => _) = A
      rcases onSl_spec x R A (fun _ _ _ _ _ => d) d with ⟨m, n, cs, tok, rfl, h⟩ | ⟨m, id, off, n, cap, rfl, h⟩ | h
      · rw [h, ← hA]
        simp only
        clear h hA
        generalize hA : (fun (m' : Nat) => _) = A
        rcases onO_spec (elemT P t) R A d with ⟨m', hm, h⟩ | h
        · rw [h, ← hA]
          simp only
          clear h hA
          generalize hA : onB (Nat.ble (nat_lit 1) m) R _ d = A
          rcases onB_spec (Nat.beq m' m) R A d with ⟨hb, h⟩ | h
          · rw [h, ← hA]
            clear h hA
            generalize hA : onO (boundK n hi n) R _ d = A
            rcases onB_spec (Nat.ble (nat_lit 1) m) R A d with ⟨hp, h⟩ | h
            · rw [h, ← hA]
              clear h hA
              generalize hA : (fun (h : Nat) => _) = A
              rcases onO_spec (boundK n hi n) R A d with ⟨y, hy, h⟩ | h
              · rw [h, ← hA]
                simp only
                clear h hA
                generalize hA : (fun (l : Nat) => _) = A
                rcases onO_spec (boundK y lo (nat_lit 0)) R A d with ⟨l, hl, h⟩ | h
                · rw [h, ← hA]
                  refine .inr ⟨_, σ, ?_, rfl⟩
                  obtain ⟨e, h1, h2⟩ := elemT_some hm
                  have hy := boundK_eq hy
                  have hl : bound y lo 0 = some l := boundK_eq hl
                  rw [Nat.eq_of_beq_eq_true hb] at h2
                  have hp : 0 < m := Nat.le_of_ble_eq_true hp
                  simp only [evSlice, h1, h2, hy, hl, true_and, if_pos hp, val1, cutList, takeK_eq, dropK_eq]
                  congr 4
                  by_cases hq : y = n
                  · subst hq; simp
                  · rw [if_neg hq]
                    have : Nat.beq y n = false := by
                      cases hh : Nat.beq y n
                      · rfl
                      · exact absurd (Nat.eq_of_beq_eq_true hh) hq
                    rw [this]
                · exact .inl h
              · exact .inl h
            · exact .inl h
          · exact .inl h
        · exact .inl h
      · exact .inl h
      · exact .inl h
end Go.Ev
