/- What UtilsNames does at every number, by the evaluator: it says true; no condition. -/
import Derived.Test.YthfgghenofpbjaaGreatDoorEvAsk
import Derived.Test.YthfgghenofpbjaaGreatDoorProg
import Derived.KernelRfl
open Go Go.Ev
namespace Go.Proofs.YthfgghenofpbjaaGreatDoor.Names
def spaceTab : List Int := (List.range 256).map fun i => if (9 ≤ i && i ≤ 13) || i == 32 then 1 else 0
noncomputable def asciiSpace : List AVal := spaceTab.map fun z => .v (.int .u8 z)
noncomputable def E1 : Env := { glob := fun g => match g with | 0 => some asciiSpace | _ => none, keeps := fun _ => false, give := fun f => Nat.beq f 15, forgets := false }
def nameTexts : List (List UInt8) := [[58], [116, 114, 117, 101], [102, 97, 108, 115, 101], [101, 99, 104, 111], [112, 114, 105, 110, 116, 102], [116, 101, 115, 116], [91], [99, 97, 116], [104, 101, 97, 100], [116, 97, 105, 108], [119, 99], [115, 111, 114, 116], [116, 114], [117, 110, 105, 113], [99, 117, 116], [114, 101, 118], [114, 109], [109, 107, 100, 105, 114], [116, 111, 117, 99, 104], [115, 101, 113], [98, 97, 115, 101, 110, 97, 109, 101], [100, 105, 114, 110, 97, 109, 101], [101, 120, 112, 114]]
noncomputable def X0 : Given := fun _ => none
theorem names_k : saysTxts nameTexts ((evT Tryz.prog E1 X0 400).fn 15 [] ⟨0, []⟩ none) = true := by kernel_rfl
noncomputable def nameList : AVal := .list 1 23 (nameTexts.map txt) .no
noncomputable def X1 : Given := saidNil 15 nameList X0
theorem alive_k : saysTrue ((evT Tryz.prog E1 X1 400).fn 8 [] ⟨0, []⟩ none) = true := by kernel_rfl
noncomputable def X2 : Given := saidNil 8 (.v (.bool true)) X1

noncomputable def C1 : Calls' := evT Tryz.prog E1 X2 399
def cut5 : Code → Code × Code × Code × Code × Code
  | .seq r0 (.seq rc (.seq r3 (.seq r4 rest))) => (r0, rc, r3, r4, rest)
  | c => (c, .skip, .skip, .skip, .skip)
noncomputable def st0 (z : Int) : St := ⟨[.v (.int .i64 z)] ++ List.replicate 30 unset, [], ⟨0, []⟩, none⟩
noncomputable def c0 : Code := (cut5 (Tryz.f6.body.getD .skip)).1
noncomputable def c1 : Code := (cut5 (Tryz.f6.body.getD .skip)).2.1
noncomputable def c2 : Code := (cut5 (Tryz.f6.body.getD .skip)).2.2.1
noncomputable def c3 : Code := (cut5 (Tryz.f6.body.getD .skip)).2.2.2.1
noncomputable def c4 : Code := (cut5 (Tryz.f6.body.getD .skip)).2.2.2.2
noncomputable def b6 : Code := .seq c0 (.seq c1 (.seq c2 (.seq c3 c4)))
theorem b6_eq : Tryz.f6.body = some b6 := by kernel_rfl
noncomputable def go (c : Code) (out : Nat) (st : St) : Option (AExit × St) := evCode Tryz.prog E1 6 C1 399 false c out st
noncomputable def s1 (z : Int) : St := getSt (go c0 (Nat.lor 0 (useOf (.seq c1 (.seq c2 (.seq c3 c4)))).reads) (st0 z))
noncomputable def s2 (z : Int) : St := getSt (go c1 (Nat.lor 0 (useOf (.seq c2 (.seq c3 c4))).reads) (s1 z))
noncomputable def s3 (z : Int) : St := getSt (go c2 (Nat.lor 0 (useOf (.seq c3 c4)).reads) (s2 z))
noncomputable def s4 (z : Int) : St := getSt (go c3 (Nat.lor 0 (useOf c4).reads) (s3 z))
theorem n1 (z : Int) : isN (go c0 (Nat.lor 0 (useOf (.seq c1 (.seq c2 (.seq c3 c4)))).reads) (st0 z)) = true := by kernel_rfl
theorem n2 (z : Int) : isN (go c1 (Nat.lor 0 (useOf (.seq c2 (.seq c3 c4))).reads) (s1 z)) = true := by kernel_rfl
theorem n3 (z : Int) : isN (go c2 (Nat.lor 0 (useOf (.seq c3 c4)).reads) (s2 z)) = true := by kernel_rfl
theorem n4 (z : Int) : isN (go c3 (Nat.lor 0 (useOf c4).reads) (s3 z)) = true := by kernel_rfl
theorem head (z : Int) : go b6 0 (st0 z) = go c4 0 (s4 z) :=
  (seq_of (n1 z)).trans ((seq_of (n2 z)).trans ((seq_of (n3 z)).trans (seq_of (n4 z))))
noncomputable def idx (z : Int) : Int := (IntKind.wrap .i64 (Int.tmod z 23 + 23)).tmod 23
noncomputable def at4 (z i : Int) : St := { s4 z with ts := .v (.int .i64 i) :: (s4 z).ts.tail }
theorem s4_eq (z : Int) : s4 z = at4 z (idx z) := by kernel_rfl
theorem idx_range (z : Int) : ∃ k : Nat, k < 23 ∧ idx z = Int.ofNat k := by
  have h1 : -23 < z.tmod 23 := by have := Int.lt_tmod_of_pos z (b := 23) (by decide); exact this
  have h2 : z.tmod 23 < 23 := Int.tmod_lt_of_pos z (by decide)
  have hw : IntKind.wrap .i64 (z.tmod 23 + 23) = z.tmod 23 + 23 := by
    generalize z.tmod 23 = y at *
    unfold IntKind.wrap
    have hb : (2 ^ IntKind.i64.bits : Int) = 18446744073709551616 := by decide
    have hb' : (2 ^ (IntKind.i64.bits - 1) : Int) = 9223372036854775808 := by decide
    simp only [hb, hb']
    have : (y + 23) % 18446744073709551616 = y + 23 := Int.emod_eq_of_lt (by omega) (by omega)
    rw [this]
    rw [if_neg]
    simp; intro; omega
  unfold idx
  rw [hw]
  generalize z.tmod 23 = y at *
  have h0 : 0 ≤ (y + 23).tmod 23 := Int.tmod_nonneg _ (by omega)
  have h3 : (y + 23).tmod 23 < 23 := Int.tmod_lt_of_pos _ (by decide)
  exact ⟨((y + 23).tmod 23).toNat, by omega, by simp [Int.ofNat_eq_natCast]; omega⟩


noncomputable def allBelow (p : Nat → Bool) (n : Nat) : Bool := @Nat.rec (fun _ => Bool) true (fun k ih => onB (p k) Bool ih false) n
theorem allBelow_eq {p : Nat → Bool} : ∀ {n : Nat}, allBelow p n = true → ∀ k, k < n → p k = true
  | 0, _, k, h => absurd h (Nat.not_lt_zero k)
  | n + 1, h, k, hk => by
    have h : onB (p n) Bool (allBelow p n) false = true := h
    rcases onB_spec (p n) Bool (allBelow p n) false with ⟨h1, h2⟩ | h2
    · rw [h2] at h
      by_cases e : k = n
      · subst e; exact h1
      · exact allBelow_eq h k (by omega)
    · rw [h2] at h; simp at h
theorem at4_eq (z i : Int) : at4 z i = ⟨.v (.int .i64 i) :: (s4 z).ts.tail, [], (s4 z).σ, none⟩ := by kernel_rfl
theorem each (z : Int) : allBelow (fun k => saysTrue (tailT Tryz.prog E1 6 C1 399 Tryz.f6 31 c4 (.v (.int .i64 (Int.ofNat k)) :: (s4 z).ts.tail) (s4 z).σ)) 23 = true := by kernel_rfl
theorem names_true (z : Int) : ∃ σ, (ev Tryz.prog E1 X2 400).fn 6 [.v (.int .i64 z)] ⟨0, []⟩ none = some (.ret (.v (.bool true)), σ, none) := by
  rw [ev_fn (by kernel_rfl), evBody_of Tryz.func6 b6_eq]
  show ∃ σ, afterBody Tryz.prog E1 6 (ev Tryz.prog E1 X2 399) Tryz.f6 (evCode Tryz.prog E1 6 (ev Tryz.prog E1 X2 399) 399 false b6 0 (st0 z)) = _
  rw [← evT_eq (show E1.forgets = false from rfl) X2 399]
  show ∃ σ, afterBody Tryz.prog E1 6 C1 Tryz.f6 (go b6 0 (st0 z)) = _
  rw [head, s4_eq]
  obtain ⟨k, hk, e⟩ := idx_range z
  rw [e, at4_eq]
  obtain ⟨σ, hr⟩ := saysTrue_eq (allBelow_eq (each z) k hk)
  exact ⟨σ, tailT_ok rfl hr⟩

end Go.Proofs.YthfgghenofpbjaaGreatDoor.Names
