/- Sums and comparisons of small natural numbers, for the kernel; no condition. -/
import Derived.Test.YthfgghenofpbjaaGreatDoorEvRun
namespace Go.Ev

def sameK : IntKind → IntKind → Bool
  | .i64, .i64 => true
  | .u8, .u8 => true
  | _, _ => false
def is64 : IntKind → Bool
  | .i64 => true
  | _ => false
theorem sameK_eq {k k' : IntKind} (h : sameK k k' = true) : k = k' := by cases k <;> cases k' <;> simp [sameK] at h <;> rfl
theorem is64_eq {k : IntKind} (h : is64 k = true) : k = .i64 := by cases k <;> simp [is64] at h; rfl

abbrev NatOp := IntKind → IntKind → Nat → Nat → Option Value
def cmpK (f : Nat → Nat → Bool) : NatOp := fun k k' a b => match sameK k k' with | true => some (.bool (f a b)) | false => none
/-- Bits of small numbers of one kind. -/
def bitK (f : Nat → Nat → Nat) : NatOp := fun k k' a b => match sameK k k' && Nat.ble a 255 && Nat.ble b 255 with | true => some (.int k (.ofNat (f a b))) | false => none
noncomputable def natOpK (op : BinOp) : NatOp :=
  BinOp.rec (motive := fun _ => NatOp)
    (add := fun k k' a b => match is64 k && is64 k' && Nat.ble (Nat.add a b) 9223372036854775807 with | true => some (.int .i64 (.ofNat (Nat.add a b))) | false => none)
    (sub := fun k k' a b => match is64 k && is64 k' && Nat.ble b a && Nat.ble a 9223372036854775807 with | true => some (.int .i64 (.ofNat (Nat.sub a b))) | false => none)
    (mul := fun _ _ _ _ => none) (quo := fun _ _ _ _ => none) (rem := fun _ _ _ _ => none) (and := bitK Nat.land) (or := bitK Nat.lor) (xor := bitK Nat.xor)
    (shl := fun _ _ _ _ => none) (shr := fun _ _ _ _ => none) (andNot := fun _ _ _ _ => none)
    (eql := cmpK fun a b => Nat.beq a b) (neq := cmpK fun a b => !Nat.beq a b) (lss := cmpK fun a b => Nat.ble (Nat.succ a) b) (leq := cmpK fun a b => Nat.ble a b)
    (gtr := cmpK fun a b => Nat.ble (Nat.succ b) a) (geq := cmpK fun a b => Nat.ble b a) op

theorem wrap_small {n : Nat} (h : n ≤ 9223372036854775807) : IntKind.wrap .i64 (Int.ofNat n) = Int.ofNat n := by
  unfold IntKind.wrap
  have hb : (2 ^ IntKind.i64.bits : Int) = 18446744073709551616 := by decide
  have hb' : (2 ^ (IntKind.i64.bits - 1) : Int) = 9223372036854775808 := by decide
  simp only [hb, hb', Int.ofNat_eq_natCast]
  have : (n : Int) % 18446744073709551616 = n := Int.emod_eq_of_lt (by omega) (by omega)
  rw [this, if_neg]
  simp; intro; omega

theorem cmpK_some {f : Nat → Nat → Bool} {k k' : IntKind} {a b : Nat} {r : Value} (h : cmpK f k k' a b = some r) : k = k' ∧ r = .bool (f a b) := by
  unfold cmpK at h
  split at h
  · rename_i hs; exact ⟨sameK_eq hs, by simpa using h.symm⟩
  · simp at h

theorem wrap_byte {n : Nat} (h : n ≤ 255) : IntKind.wrap .u8 (Int.ofNat n) = Int.ofNat n := by
  unfold IntKind.wrap
  have hb : (2 ^ IntKind.u8.bits : Int) = 256 := by decide
  simp only [hb, Int.ofNat_eq_natCast]
  have : (n : Int) % 256 = n := Int.emod_eq_of_lt (by omega) (by omega)
  rw [this]; rfl
theorem bitK_some {f : Nat → Nat → Nat} {k k' : IntKind} {a b : Nat} {r : Value} (h : bitK f k k' a b = some r) :
    k = k' ∧ (k = .i64 ∨ k = .u8) ∧ a ≤ 255 ∧ b ≤ 255 ∧ r = .int k (.ofNat (f a b)) := by
  unfold bitK at h
  split at h
  · rename_i hs
    simp only [Bool.and_eq_true] at hs
    refine ⟨sameK_eq hs.1.1, ?_, Nat.le_of_ble_eq_true hs.1.2, Nat.le_of_ble_eq_true hs.2, by simpa using h.symm⟩
    have := hs.1.1
    cases k <;> simp [sameK] at this <;> simp
  · simp at h
theorem bits_val {k : IntKind} (hk : k = .i64 ∨ k = .u8) {a b n : Nat} {v : BitVec k.bits} (hv : v.toNat = n) (hn : n ≤ 255) (_ha : a ≤ 255) (_hb : b ≤ 255) : k.wrap (v.toNat : Int) = Int.ofNat n := by
  rw [hv]
  rcases hk with rfl | rfl
  · exact wrap_small (by omega)
  · exact wrap_byte hn
theorem ofInt_nat {w n : Nat} (h : n ≤ 255) (hw : 8 ≤ w) : (BitVec.ofInt w (Int.ofNat n)).toNat = n := by
  have e : 2 ^ 8 ≤ 2 ^ w := Nat.pow_le_pow_right (by decide) hw
  have : n < 2 ^ w := by omega
  show (BitVec.ofInt w (n : Int)).toNat = n
  rw [BitVec.ofInt_natCast, BitVec.toNat_ofNat, Nat.mod_eq_of_lt this]
theorem natOpK_sound {P : Program} {op : BinOp} {t : TypeId} {k k' : IntKind} {a b : Nat} {r : Value} (h : natOpK op k k' a b = some r) :
    pure1 P (Go.binOp op t (.int k (.ofNat a)) (.int k' (.ofNat b))) = some (.ok r) ∧ ofValue r = .v r := by
  cases op <;> (first | (simp [natOpK] at h; done) | skip)
  case add =>
    simp only [natOpK] at h
    split at h
    · rename_i hc
      simp only [Bool.and_eq_true] at hc
      obtain ⟨⟨h1, h2⟩, h3⟩ := hc
      rw [is64_eq h1, is64_eq h2]
      simp only [Option.some.injEq] at h; subst h
      refine ⟨?_, rfl⟩
      have hw := wrap_small (n := a + b) (Nat.le_of_ble_eq_true h3)
      show pure1 P (Op.intArith .add .i64 (.ofNat a) (.ofNat b)) = _
      simp only [Op.intArith]
      rw [show (Int.ofNat a + Int.ofNat b) = Int.ofNat (a + b) from rfl, hw]
      rfl
    · simp at h
  case sub =>
    simp only [natOpK] at h
    split at h
    · rename_i hc
      simp only [Bool.and_eq_true] at hc
      obtain ⟨⟨⟨h1, h2⟩, h3⟩, h4⟩ := hc
      rw [is64_eq h1, is64_eq h2]
      simp only [Option.some.injEq] at h; subst h
      refine ⟨?_, rfl⟩
      have h3' := Nat.le_of_ble_eq_true h3
      have hw := wrap_small (n := a - b) (by have := Nat.le_of_ble_eq_true h4; omega)
      show pure1 P (Op.intArith .sub .i64 (.ofNat a) (.ofNat b)) = _
      simp only [Op.intArith]
      rw [show (Int.ofNat a - Int.ofNat b) = Int.ofNat (a - b) by simp only [Int.ofNat_eq_natCast]; omega, hw]
      rfl
    · simp at h
  case and =>
    obtain ⟨rfl, hk, ha, hb, rfl⟩ := bitK_some h
    refine ⟨?_, rfl⟩
    have h8 : 8 ≤ k.bits := by rcases hk with rfl | rfl <;> decide
    have hv := bits_val hk (v := BitVec.ofInt k.bits (Int.ofNat a) &&& BitVec.ofInt k.bits (Int.ofNat b)) (n := Nat.land a b) (by rw [BitVec.toNat_and, ofInt_nat ha h8, ofInt_nat hb h8]; rfl)
      (Nat.le_of_lt_succ (Nat.and_lt_two_pow (n := 8) a (by omega))) ha hb
    simp only [Go.binOp, ne_eq, not_true_eq_false, if_false, Op.intBits, hv]; rfl
  case or =>
    obtain ⟨rfl, hk, ha, hb, rfl⟩ := bitK_some h
    refine ⟨?_, rfl⟩
    have h8 : 8 ≤ k.bits := by rcases hk with rfl | rfl <;> decide
    have hv := bits_val hk (v := BitVec.ofInt k.bits (Int.ofNat a) ||| BitVec.ofInt k.bits (Int.ofNat b)) (n := Nat.lor a b) (by rw [BitVec.toNat_or, ofInt_nat ha h8, ofInt_nat hb h8]; rfl)
      (Nat.le_of_lt_succ (Nat.or_lt_two_pow (n := 8) (by omega) (by omega))) ha hb
    simp only [Go.binOp, ne_eq, not_true_eq_false, if_false, Op.intBits, hv]; rfl
  case xor =>
    obtain ⟨rfl, hk, ha, hb, rfl⟩ := bitK_some h
    refine ⟨?_, rfl⟩
    have h8 : 8 ≤ k.bits := by rcases hk with rfl | rfl <;> decide
    have hv := bits_val hk (v := BitVec.ofInt k.bits (Int.ofNat a) ^^^ BitVec.ofInt k.bits (Int.ofNat b)) (n := Nat.xor a b) (by rw [BitVec.toNat_xor, ofInt_nat ha h8, ofInt_nat hb h8]; rfl)
      (Nat.le_of_lt_succ (Nat.xor_lt_two_pow (n := 8) (by omega) (by omega))) ha hb
    simp only [Go.binOp, ne_eq, not_true_eq_false, if_false, Op.intBits, hv]; rfl
  all_goals
    simp only [natOpK] at h
    obtain ⟨rfl, rfl⟩ := cmpK_some h
    refine ⟨?_, rfl⟩
    simp only [Go.binOp, ne_eq, not_true_eq_false, if_false, Op.intCmp]
    refine (congrArg (fun z => some (Except.ok (Value.bool z))) ?_ : _)
    first
      | (rw [Bool.eq_iff_iff]; simp; done)
      | (rw [Bool.eq_iff_iff]; simp [Nat.succ_le_iff]; done)
      | (have hb : (a.beq b = false) ↔ ¬ a = b := by rw [← Nat.beq_eq]; cases a.beq b <;> simp
         rw [Bool.eq_iff_iff]; simp [hb]; omega)

noncomputable def binK (P : Program) (σ : ASt) (op : BinOp) (t : TypeId) (x y : AVal) (gen : Unit → ORes) : ORes :=
  match x, y with
  | .v (.int k (.ofNat a)), .v (.int k' (.ofNat b)) => match natOpK op k k' a b with
    | some r => val1 σ (.v r)
    | none => evBin P σ op t x y gen
  | _, _ => evBin P σ op t x y gen
theorem binK_eq (P : Program) (σ : ASt) (op : BinOp) (t : TypeId) (x y : AVal) (gen : Unit → ORes) : binK P σ op t x y gen = evBin P σ op t x y gen := by
  unfold binK
  split
  · rename_i k a k' b
    split
    · rename_i r h
      obtain ⟨h1, h2⟩ := natOpK_sound (P := P) (t := t) h
      unfold evBin
      simp only [h1, h2]
    · rfl
  · rfl
end Go.Ev
