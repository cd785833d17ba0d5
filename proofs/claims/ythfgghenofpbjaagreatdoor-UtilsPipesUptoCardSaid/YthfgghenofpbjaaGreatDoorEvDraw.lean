/- Equality of values; operations that leave memory alone; what an operation hangs on; no condition. -/
import Derived.Test.YthfgghenofpbjaaGreatDoorEvRun
import Derived.Orders
namespace Go.Ev

mutual
theorem veq_eq : ∀ (x y : Value), veq x y = true → x = y
  | .bool a, y, h => by cases y <;> simp [veq] at h; rw [h]
  | .int j a, y, h => by cases y <;> simp [veq] at h; rw [h.1, h.2]
  | .float j a, y, h => by cases y <;> simp [veq] at h; rw [h.1, h.2]
  | .complex j a b, y, h => by cases y <;> simp [veq] at h; rw [h.1.1, h.1.2, h.2]
  | .string a, y, h => by
    cases y <;> simp [veq] at h
    rename_i b
    cases a with | mk a => cases b with | mk b => cases a; cases b; simp at h; rw [h]
  | .pointer a, y, h => by cases y <;> simp [veq] at h; rw [h]
  | .slice a n c, y, h => by cases y <;> simp [veq] at h; rw [h.1.1, h.1.2, h.2]
  | .map a, y, h => by cases y <;> simp [veq] at h; rw [h]
  | .chan a, y, h => by cases y <;> simp [veq] at h; rw [h]
  | .func f a b, y, h => by
    cases y <;> simp [veq] at h
    rw [h.1.1, veqA_eq _ _ h.1.2, veqA_eq _ _ h.2]
  | .nilFunc, y, h => by cases y <;> simp [veq] at h; rfl
  | .iface t x, y, h => by
    cases y <;> simp [veq] at h
    rw [h.1, veq_eq _ _ h.2]
  | .nilIface, y, h => by cases y <;> simp [veq] at h; rfl
  | .agg a, y, h => by
    cases y <;> simp [veq] at h
    rw [veqA_eq _ _ h]
  | .tuple a, y, h => by
    cases y <;> simp [veq] at h
    rw [veqA_eq _ _ h]
theorem veqA_eq : ∀ (a b : Array Value), veqA a b = true → a = b
  | ⟨a⟩, ⟨b⟩, h => by simp only [veqA] at h; rw [veqL_eq a b h]
theorem veqL_eq : ∀ (a b : List Value), veqL a b = true → a = b
  | [], b, h => by cases b <;> simp [veqL] at h; rfl
  | x :: a, b, h => by
    cases b <;> simp [veqL] at h
    rw [veq_eq _ _ h.1, veqL_eq a _ h.2]
end
mutual
theorem aeq_eq : ∀ (x y : AVal), aeq x y = true → x = y
  | .junk, y, h => by cases y <;> simp [aeq] at h; rfl
  | .v x, y, h => by cases y <;> simp [aeq] at h; rw [veq_eq _ _ h]
  | .agg a, y, h => by cases y <;> simp [aeq] at h; rw [aeqL_eq _ _ h]
  | .tuple a, y, h => by cases y <;> simp [aeq] at h; rw [aeqL_eq _ _ h]
  | .list k n a s, y, h => by cases y <;> simp [aeq] at h; rw [h.1.1.1, h.1.1.2, h.1.2, aeqL_eq _ _ h.2]
  | .arr k i o n c, y, h => by cases y <;> simp [aeq] at h; rw [h.1.1.1.1, h.1.1.1.2, h.1.1.2, h.1.2, h.2]
  | .ref i o, y, h => by cases y <;> simp [aeq] at h; rw [h.1, h.2]
  | .iref a, y, h => by cases y <;> simp [aeq] at h; rw [aeqL_eq _ _ h]
  | .func f a b, y, h => by cases y <;> simp [aeq] at h; rw [h.1.1, aeqL_eq _ _ h.1.2, aeqL_eq _ _ h.2]
  | .yield i, y, h => by cases y <;> simp [aeq] at h; rw [h]
  | .iface t x, y, h => by cases y <;> simp [aeq] at h; rw [h.1, aeq_eq _ _ h.2]
  | .sym i, y, h => by cases y <;> simp [aeq] at h; rw [h]
  | .map i, y, h => by cases y <;> simp [aeq] at h; rw [h]
theorem aeqL_eq : ∀ (a b : List AVal), aeqL a b = true → a = b
  | [], b, h => by cases b <;> simp [aeqL] at h; rfl
  | x :: a, b, h => by
    cases b <;> simp [aeqL] at h
    rw [aeq_eq _ _ h.1, aeqL_eq a _ h.2]
end

/-- Memory is as it was. -/
def SameS (σ : ASt) (r : ORes) : Prop := ∀ n σ', r = some (n, σ') → σ' = σ
theorem SameS.none {σ : ASt} : SameS σ none := by intro n σ' h; simp at h
theorem SameS.some {σ : ASt} {n : ANext} : SameS σ (some (n, σ)) := by intro n σ' h; simp only [Option.some.injEq, Prod.mk.injEq] at h; exact h.2.symm
theorem SameS.val1 {σ : ASt} {x : AVal} : SameS σ (val1 σ x) := SameS.some
theorem SameS.bind {σ : ASt} {α : Type} {o : Option α} {f : α → ORes} (h : ∀ a, SameS σ (f a)) : SameS σ (o.bind f) := by
  cases o with
  | none => exact .none
  | some a => exact h a
theorem SameS.ite {σ : ASt} {c : Prop} [Decidable c] {x y : ORes} (hx : SameS σ x) (hy : SameS σ y) : SameS σ (if c then x else y) := by split <;> assumption

section
variable {P : Program} {E : Env} {fn : FuncId} {σ : ASt}

theorem bounds_same {k : IntKind} {x : Int} {n : Nat} : SameS σ (bounds P σ k x n) := by
  unfold bounds
  repeat' (first | exact SameS.none | exact SameS.some | refine SameS.ite ?_ ?_)
theorem len_same {t : TypeId} {x : AVal} : SameS σ (evLen P σ t x) := by
  unfold evLen
  repeat' (first | exact SameS.none | exact SameS.val1 | exact SameS.some | split)
theorem gen_same {ρ : Operand → AVal} {o : Oper} {u : Unit} : SameS σ (evGen P σ ρ o u) := by
  unfold evGen ofNext
  repeat' (first | exact SameS.none | exact SameS.val1 | exact SameS.some | refine SameS.ite ?_ ?_ | split)

theorem quiet0_same {ts : List AVal} {o : Oper} (h : isLoud P (E.keeps fn) o.op = false) : SameS σ (evOp0 P E fn σ ts o) := by
  obtain ⟨dst, op, ty, pos, after, guard⟩ := o
  simp only at h
  unfold evOp0
  cases op <;> simp only <;> (first | (simp [isLoud] at h; done) | skip)
  case move => exact .val1
  case assign => exact .val1
  case pick => repeat' (first | exact SameS.none | exact SameS.val1 | split)
  case build => unfold evBuild; repeat' (first | exact SameS.none | exact SameS.val1 | refine SameS.bind fun _ => ?_ | split)
  case buildSlice =>
    have hk : E.keeps fn = false := h
    unfold evBuildSlice
    rw [hk]
    repeat' (first | exact SameS.none | exact SameS.val1 | refine SameS.bind fun _ => ?_ | contradiction | split)
  case load => unfold evLoad; repeat' (first | exact SameS.none | exact SameS.val1 | refine SameS.bind fun _ => ?_ | split)
  case nilCheck => unfold evNilCheck; repeat' (first | exact SameS.none | exact SameS.val1 | exact SameS.some | split)
  case binOp =>
    unfold evBin
    repeat' (first | exact SameS.none | exact SameS.val1 | exact SameS.some | exact gen_same | refine SameS.bind fun _ => ?_ | split)
  case unOp => exact gen_same
  case convert s d x =>
    unfold evConvert
    have hd : ∀ e, P.underlying d ≠ some (.slice e) := by
      intro e he
      simp [isLoud, he] at h
    split
    · rename_i e _ _ _ he
      exact absurd (by assumption) (hd _)
    · repeat' (first | exact SameS.none | exact SameS.val1 | exact SameS.some | exact gen_same | refine SameS.bind fun _ => ?_ | split)
    · exact gen_same
  case makeInterface => unfold evMakeIface; repeat' (first | exact SameS.none | exact SameS.val1 | split)
  case makeFunc => repeat' (first | exact SameS.none | exact SameS.val1 | split)
  case slice => unfold evSlice; repeat' (first | exact SameS.none | exact SameS.val1 | refine SameS.bind fun _ => ?_ | split)
  case fieldAddr => unfold evFieldAddr; repeat' (first | exact SameS.none | exact SameS.val1 | refine SameS.bind fun _ => ?_ | split)
  case field => unfold evField; repeat' (first | exact SameS.none | exact SameS.val1 | refine SameS.bind fun _ => ?_ | split)
  case indexAddr => unfold evIndexAddr; repeat' (first | exact SameS.none | exact SameS.val1 | exact bounds_same | refine SameS.bind fun _ => ?_ | split)
  case index => unfold evIndex; repeat' (first | exact SameS.none | exact SameS.val1 | exact bounds_same | refine SameS.bind fun _ => ?_ | split)
  case lookup => unfold evLookup; repeat' (first | exact SameS.none | exact SameS.val1 | refine SameS.bind fun _ => ?_ | split)
  case typeAssert => unfold evTypeAssert; simp only; repeat' (first | exact SameS.none | exact SameS.val1 | refine SameS.bind fun _ => ?_ | split)
  case extract => unfold evExtract; repeat' (first | exact SameS.none | exact SameS.val1 | refine SameS.bind fun _ => ?_ | split)
  case call c =>
    obtain ⟨callee, args, ats⟩ := c
    cases callee <;> (first | (simp [isLoud] at h; done) | skip)
    rename_i b
    unfold evCall
    simp only
    unfold evBuiltin
    cases b <;> (first | (simp [isLoud] at h; done) | skip)
    all_goals
      split <;> (first | (rename_i hb _; cases hb; done) | (rename_i hb; cases hb; done) | skip)
      all_goals first
        | exact gen_same
        | (refine SameS.bind fun t => ?_
           split
           · rename_i r hr; rw [← hr]; exact len_same
           · exact gen_same)
        | skip

theorem quiet_same {ts : List AVal} {o : Oper} (h : isLoud P (E.keeps fn) o.op = false) : SameS σ (evOp P E fn σ ts o) := by
  unfold evOp
  split
  · rename_i r hr
    have := quiet0_same (P := P) (E := E) (fn := fn) (σ := σ) (ts := ts) h
    rw [hr] at this
    exact this
  · exact SameS.bind fun _ => .val1

theorem evOp0_congr {ts ts' : List AVal} {o : Oper} (h : ∀ x ∈ o.op.operands, evOperand E ts x = evOperand E ts' x) : evOp0 P E fn σ ts o = evOp0 P E fn σ ts' o := by
  by_cases hs' : ∃ cs b, o.op = .select cs b
  · obtain ⟨cs, b, hs⟩ := hs'
    unfold evOp0
    simp only [hs]
  · have hs : ∀ cs b, o.op ≠ .select cs b := fun cs b hq => hs' ⟨cs, b, hq⟩
    clear hs'
    have hgen : evGen P σ (evOperand E ts) o = evGen P σ (evOperand E ts') o := by
      funext u
      unfold evGen
      have h1 : (o.op.operands.toList.all fun x => (flat? (evOperand E ts x)).isSome) = (o.op.operands.toList.all fun x => (flat? (evOperand E ts' x)).isSome) := by
        rw [Bool.eq_iff_iff]; simp only [List.all_eq_true]
        exact ⟨fun q x hx => by rw [← h x (by simpa using hx)]; exact q x hx, fun q x hx => by rw [h x (by simpa using hx)]; exact q x hx⟩
      rw [h1, execOp_congr o hs (ρ := fun x => (flat? (evOperand E ts x)).getD undef) (ρ' := fun x => (flat? (evOperand E ts' x)).getD undef) fun x hx => by simp only [h x hx]]
    obtain ⟨dst, op, type, pos, after, guard⟩ := o
    unfold evOp0
    simp only [hgen]
    clear hgen hs
    generalize evOperand E ts = ρ at h ⊢
    generalize evOperand E ts' = ρ' at h ⊢
    have hl : ∀ l : List Operand, (∀ x ∈ l, ρ x = ρ' x) → l.map ρ = l.map ρ' := fun l hl => List.map_congr_left hl
    have pairs : ∀ ps : List (Nat × Operand), (∀ x ∈ ps.map (·.2), ρ x = ρ' x) → (ps.map fun (i, x) => (i, ρ x)) = (ps.map fun (i, x) => (i, ρ' x)) := fun ps hp =>
      List.map_congr_left fun p hm => by
        obtain ⟨i, x⟩ := p
        simp only [hp x (List.mem_map.2 ⟨(i, x), hm, rfl⟩)]
    have calls : ∀ c : Call, (∀ x ∈ c.operands, ρ x = ρ' x) → ∀ gen, evCall P E fn σ ρ c gen = evCall P E fn σ ρ' c gen := by
      intro c hc gen
      unfold evCall
      simp only [hl c.args.toList fun x hx => hc x (by simp only [Call.operands, Array.mem_append]; exact .inr (by simpa using hx))]
      cases hq : c.callee with
      | value f => simp only [hc f (by simp [Call.operands, hq])]
      | invoke r m => simp only [hc r (by simp [Call.operands, hq])]
      | builtin b => rfl
    cases op <;> simp only [Op.operands] at h <;> simp only
    case call c => exact calls c h _
    case build t ps => rw [pairs ps.toList fun x hx => h x (by simpa using hx)]
    case buildSlice t n ps => rw [pairs ps.toList fun x hx => h x (by simpa using hx)]
    case makeFunc g first captured =>
      rw [hl first.toList fun x hx => h x (by simp at hx; simp [hx]), hl captured.toList fun x hx => h x (by simp at hx; simp [hx])]
    case defer c =>
      unfold evDefer
      simp only [hl c.args.toList fun x hx => h x (by simp only [Call.operands, Array.mem_append]; exact .inr (by simpa using hx))]
      cases hq : c.callee with
      | value f => simp only [h f (by simp [Call.operands, hq])]
      | invoke r m => rfl
      | builtin b => rfl
    case makeMap t r => cases r <;> simp_all
    case slice t x lo hi mx => cases lo <;> cases hi <;> cases mx <;> simp_all
    all_goals (first | rfl | (simp_all; done))

theorem evOp_congr {ts ts' : List AVal} {o : Oper} (h : ∀ x ∈ o.op.operands, evOperand E ts x = evOperand E ts' x) : evOp P E fn σ ts o = evOp P E fn σ ts' o := by
  unfold evOp
  rw [evOp0_congr h, List.map_congr_left fun x hx => h x (by simpa using hx)]
end
end Go.Ev
