/- What UtilsPipes does at a small and at a great text, by the evaluator: it says true; conditions: what Head and Tail say of the text (the structure Pars). -/
import Derived.Test.YthfgghenofpbjaaGreatDoorEvAsk
import Derived.Test.YthfgghenofpbjaaGreatDoorProg
import Derived.KernelRfl
open Go Go.Ev
namespace Go.Proofs.YthfgghenofpbjaaGreatDoor.Pipes
def spaceTab : List Int := (List.range 256).map fun i => if (9 ≤ i && i ≤ 13) || i == 32 then 1 else 0
noncomputable def asciiSpace : List AVal := spaceTab.map fun z => .v (.int .u8 z)

/-- Three texts and their lengths. -/
def names6 (s h t : ByteArray) : Nat → Value
  | 0 => .string s
  | 1 => .int .i64 s.size
  | 2 => .string h
  | 3 => .int .i64 h.size
  | 4 => .string t
  | 5 => .int .i64 t.size
  | _ => .bool false
def isText (i : Nat) : Bool := i == 0 || i == 2 || i == 4
def isLen (i : Nat) : Bool := i == 1 || i == 3 || i == 5
/-- What is said of them: their lengths; whether these are above 65536; where they are not, that the texts are one. -/
def rule6 (b : Bool) (P : Program) (o : Oper) (vs : List AVal) : Option AVal :=
  match vs with
  | [.sym i] =>
    match o.op with
    | .call c =>
      match c.callee, c.argTypes[0]? with
      | .builtin .len, some t => if isStrT P t && isText i then some (.sym (i + 1)) else none
      | _, _ => none
    | _ => none
  | [.sym i, .v (.int .i64 n)] =>
    match o.op with
    | .binOp .gtr _ _ _ _ => if isLen i && n == 65536 then some (.v (.bool b)) else none
    | _ => none
  | [.sym i, .sym j] =>
    match o.op with
    | .binOp .eql _ _ _ _ => if isText i && isText j && !b then some (.v (.bool true)) else none
    | _ => none
  | _ => none

theorem isText_cases {i : Nat} (h : isText i = true) : i = 0 ∨ i = 2 ∨ i = 4 := by
  unfold isText at h
  simp only [Bool.or_eq_true, beq_iff_eq] at h
  omega
theorem isLen_cases {i : Nat} (h : isLen i = true) : i = 1 ∨ i = 3 ∨ i = 5 := by
  unfold isLen at h
  simp only [Bool.or_eq_true, beq_iff_eq] at h
  omega
theorem two_of_map {o : Oper} {ρ : Operand → AVal} {op : BinOp} {t u : TypeId} {x y : Operand} (ho : o.op = .binOp op t x y u) {a b : AVal} (h : o.op.operands.toList.map ρ = [a, b]) : ρ x = a ∧ ρ y = b := by
  rw [ho] at h
  simpa [Op.operands] using h

/-- The rules are right where the three texts are alike. -/
theorem right6 {s h t : ByteArray} {b : Bool} (hs : decide (65536 < s.size) = b) (hh : decide (65536 < h.size) = b) (ht : decide (65536 < t.size) = b) (hsame : b = false → h = s ∧ t = s)
    (P : Program) (o : Oper) (ρ : Operand → AVal) (r : AVal) (hr : rule6 b P o (o.op.operands.toList.map ρ) = some r) :
    (∀ cs b, o.op ≠ .select cs b) ∧ (∀ c, o.op ≠ .defer c) ∧ (∀ x ∈ o.op.operands.toList, (symv? (names6 s h t) (ρ x)).isSome = true) ∧
      ∃ v, (∀ w : World, (execOp (fun x => (symv? (names6 s h t) (ρ x)).getD undef) o).run P w = .ok (.value v) w) ∧ symv? (names6 s h t) r = some v := by
  obtain ⟨dst, op, ty, pos, after, guard⟩ := o
  unfold rule6 at hr
  simp only at hr
  split at hr
  · rename_i i hmap
    split at hr
    · rename_i c
      split at hr
      · rename_i t' hc hat
        split at hr
        · rename_i hcond
          simp only [Bool.and_eq_true] at hcond
          simp only [Option.some.injEq] at hr
          subst hr
          obtain ⟨callee, args, tys⟩ := c
          simp only at hc hat
          subst hc
          have hargs : args.toList.map ρ = [.sym i] := by simpa [Op.operands, Call.operands] using hmap
          obtain ⟨x, hx, hρ⟩ : ∃ x, args.toList = [x] ∧ ρ x = .sym i := by
            cases hl : args.toList with
            | nil => rw [hl] at hargs; simp at hargs
            | cons x r =>
              rw [hl] at hargs
              simp only [List.map_cons, List.cons.injEq, List.map_eq_nil_iff] at hargs
              exact ⟨x, by rw [hargs.2], hargs.1⟩
          have hargs2 : args = #[x] := by rw [← Array.toArray_toList (xs := args), hx]
          subst hargs2
          have hu := isStrT_eq hcond.1
          refine ⟨by simp, by simp, fun y hy => ?_, ?_⟩
          · simp [Op.operands, Call.operands] at hy
            subst hy
            rw [hρ]; rfl
          · have len : ∀ a : ByteArray, names6 s h t i = .string a → ∀ w : World, (execOp (fun x => (symv? (names6 s h t) (ρ x)).getD undef) ⟨dst, .call ⟨.builtin .len, #[x], tys⟩, ty, pos, after, guard⟩).run P w = .ok (.value (.int .i64 a.size)) w := by
              intro a ha w
              simp [execOp, resolve, invoke, Go.builtin, hρ, symv?, ha, Builtin.len_, hat, r_underlying hu, goInt]
            rcases isText_cases hcond.2 with rfl | rfl | rfl
            · exact ⟨_, len s rfl, rfl⟩
            · exact ⟨_, len h rfl, rfl⟩
            · exact ⟨_, len t rfl, rfl⟩
        · simp at hr
      · simp at hr
    · simp at hr
  · rename_i i n hmap
    split at hr
    · rename_i t' x y u
      split at hr
      · rename_i hcond
        simp only [Bool.and_eq_true, beq_iff_eq] at hcond
        obtain ⟨hi, rfl⟩ := hcond
        simp only [Option.some.injEq] at hr
        subst hr
        obtain ⟨hx, hy⟩ : ρ x = .sym i ∧ ρ y = .v (.int .i64 65536) := by simpa [Op.operands] using hmap
        refine ⟨by simp, by simp, fun z hz => ?_, .bool b, fun w => ?_, rfl⟩
        · simp [Op.operands] at hz
          rcases hz with rfl | rfl
          · rw [hx]; rfl
          · rw [hy]; rfl
        · have gt : ∀ a : ByteArray, names6 s h t i = .int .i64 a.size → decide (65536 < a.size) = b → (execOp (fun x => (symv? (names6 s h t) (ρ x)).getD undef) ⟨dst, .binOp .gtr t' x y u, ty, pos, after, guard⟩).run P w = .ok (.value (.bool b)) w := by
            intro a ha hb
            simp only [execOp, hx, hy, symv?, ha, Option.getD_some]
            rw [Sem.run_bind, Sem.run_bind, eqGuard_int]
            simp only [Result.andThen_ok]
            have : Go.binOp .gtr t' (.int .i64 a.size) (.int .i64 65536) = pure (.bool (decide ((65536 : Int) < a.size))) := by
              simp [Go.binOp, Op.intCmp]
            rw [this]
            have e : decide ((65536 : Int) < a.size) = b := by
              rw [← hb]
              congr 1
              simp only [eq_iff_iff]
              omega
            rw [e]; rfl
          rcases isLen_cases hi with rfl | rfl | rfl
          · exact gt s rfl hs
          · exact gt h rfl hh
          · exact gt t rfl ht
      · simp at hr
    · simp at hr
  · rename_i i j hmap
    split at hr
    · rename_i t' x y u
      split at hr
      · rename_i hcond
        simp only [Bool.and_eq_true, Bool.not_eq_true'] at hcond
        obtain ⟨⟨hi, hj⟩, hb⟩ := hcond
        simp only [Option.some.injEq] at hr
        subst hr
        obtain ⟨e1, e2⟩ := hsame hb
        obtain ⟨hx, hy⟩ : ρ x = .sym i ∧ ρ y = .sym j := by simpa [Op.operands] using hmap
        have hn : ∀ k, isText k = true → names6 s h t k = .string s := by
          intro k hk
          rcases isText_cases hk with rfl | rfl | rfl
          · rfl
          · rw [e1]; rfl
          · rw [e2]; rfl
        refine ⟨by simp, by simp, fun z hz => ?_, .bool true, fun w => ?_, rfl⟩
        · simp [Op.operands] at hz
          rcases hz with rfl | rfl
          · rw [hx]; rfl
          · rw [hy]; rfl
        · simp only [execOp, hx, hy, symv?, hn i hi, hn j hj, Option.getD_some]
          rw [Sem.run_bind, Sem.run_bind, eqGuard_str]
          simp only [Result.andThen_ok]
          have : Go.binOp .eql t' (.string s) (.string s) = pure (.bool true) := by
            simp [Go.binOp, Op.stringOp]
          rw [this]; rfl
      · simp at hr
    · simp at hr
  · simp at hr

/-- The three texts, the cell that holds some number, and whether they are great. -/
structure Pars where
  m : Int
  s : ByteArray
  h : ByteArray
  t : ByteArray
  b : Bool
  hs : decide (65536 < s.size) = b
  hh : decide (65536 < h.size) = b
  ht : decide (65536 < t.size) = b
  same : b = false → h = s ∧ t = s
noncomputable def E6 (p : Pars) : Env :=
  { glob := fun g => match g with | 0 => some asciiSpace | 2 => some [.v (.int .i64 p.m)] | _ => none
    give := fun f => Nat.beq f 15
    forgets := false
    sym := names6 p.s p.h p.t
    rule := rule6 p.b
    right := right6 p.hs p.hh p.ht p.same
    ones := fun i => by unfold names6; split <;> rfl }
def nameTexts : List (List UInt8) := [[58], [116, 114, 117, 101], [102, 97, 108, 115, 101], [101, 99, 104, 111], [112, 114, 105, 110, 116, 102], [116, 101, 115, 116], [91], [99, 97, 116], [104, 101, 97, 100], [116, 97, 105, 108], [119, 99], [115, 111, 114, 116], [116, 114], [117, 110, 105, 113], [99, 117, 116], [114, 101, 118], [114, 109], [109, 107, 100, 105, 114], [116, 111, 117, 99, 104], [115, 101, 113], [98, 97, 115, 101, 110, 97, 109, 101], [100, 105, 114, 110, 97, 109, 101], [101, 120, 112, 114]]

noncomputable def X0 : Given := fun _ => none
theorem names_k (p : Pars) : saysTxts nameTexts ((evT Tryz.prog (E6 p) X0 400).fn 15 [] ⟨0, []⟩ none) = true := by kernel_rfl
noncomputable def nameList : AVal := .list 1 23 (nameTexts.map txt) .no
noncomputable def X1 : Given := saidNil 15 nameList X0
theorem alive_k (p : Pars) : saysTrue ((evT Tryz.prog (E6 p) X1 400).fn 8 [] ⟨0, []⟩ none) = true := by kernel_rfl
noncomputable def X2 : Given := saidNil 8 (.v (.bool true)) X1
/-- Head or Tail of the text: one of the other two. -/
def endsOf (i : Nat) : List AVal → ASt → Option (AEnd × ASt)
  | [.sym 0, .v (.int .i64 n)], σ => if n == 999999 then some (.ret (.sym i), σ) else none
  | _, _ => none
noncomputable def saidEnds (f : FuncId) (i : Nat) (X : Given) : Given := fun k => @Bool.rec (fun _ => Option (List AVal → ASt → Option (AEnd × ASt))) (X k) (some (endsOf i)) (Nat.beq k f)
noncomputable def X4 : Given := saidEnds 49 4 (saidEnds 48 2 X2)
theorem small_k (p : Pars) (hb : p.b = false) : saysTrue ((evT Tryz.prog (E6 p) X4 400).fn 5 [.sym 0] ⟨0, []⟩ none) = true := by
  obtain ⟨m, s, h, t, b, h1, h2, h3, h4⟩ := p
  simp only at hb
  subst hb
  kernel_rfl
theorem great_k (p : Pars) (hb : p.b = true) : saysTrue ((evT Tryz.prog (E6 p) X4 400).fn 5 [.sym 0] ⟨0, []⟩ none) = true := by
  obtain ⟨m, s, h, t, b, h1, h2, h3, h4⟩ := p
  simp only at hb
  subst hb
  kernel_rfl
end Go.Proofs.YthfgghenofpbjaaGreatDoor.Pipes
