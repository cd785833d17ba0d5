/- Operators on all values; len; conversions of bytes; no condition. -/
import Derived.Test.YthfgghenofpbjaaGreatDoorEvOps6
namespace Go.Ev

section
variable {P : Program} {E : Env} {G : Ghost} {σ : ASt} {w : World}

theorem eqGuard_run {op : BinOp} {t : TypeId} {ox oy : Operand} {a b : Value} (h : (∀ x y, a = .agg x → b = .agg y → False) ∧ ¬ (a = .nilIface ∧ b = .nilIface)) :
    (eqGuard op t ox oy a b).run P w = .ok () w := by
  unfold eqGuard
  cases op <;> simp only [Sem.run_ite, Sem.run_pure] <;> try rfl
  all_goals
    simp only [Bool.not_true, Bool.false_eq_true, if_false]
    split
    · exact absurd ⟨rfl, rfl⟩ h.2
    · rename_i x y; exact (h.1 x y rfl rfl).elim
    · rfl

theorem eqGuard_str {op : BinOp} {t : TypeId} {ox oy : Operand} {a b : ByteArray} : (eqGuard op t ox oy (.string a) (.string b)).run P w = .ok () w :=
  eqGuard_run (by constructor <;> simp)
theorem eqGuard_int {op : BinOp} {t : TypeId} {ox oy : Operand} {k l : IntKind} {a b : Int} : (eqGuard op t ox oy (.int k a) (.int l b)).run P w = .ok () w :=
  eqGuard_run (by constructor <;> simp)
theorem eqGuard_ptr {op : BinOp} {t : TypeId} {ox oy : Operand} {a b : Option Addr} : (eqGuard op t ox oy (.pointer a) (.pointer b)).run P w = .ok () w :=
  eqGuard_run (by constructor <;> simp)
theorem depth_succ : ∃ n, Op.maxDepth = n + 1 := ⟨9999, rfl⟩

theorem equal_nil {d : TypeDesc} {t : TypeId} {x y : AVal} {a b : Value} (hx : VR G x a) (hy : VR G y b) (hu : P.underlying t = some d) (h1 : nilType d x = true) (h2 : nilFits d y = true) :
    (Op.equal t a b).run P w = .ok false w ∧ (Op.equal t b a).run P w = .ok false w := by
  unfold Op.equal
  obtain ⟨dp, hdp⟩ := depth_succ
  rw [hdp]
  simp only [Op.equalIn, Sem.run_bind, r_underlying hu, Result.andThen_ok]
  cases d <;> cases x <;> (first | (exfalso; simp [nilType] at h1; done) | skip) <;> cases y <;> (first | (exfalso; simp [nilFits] at h2; done) | skip)
  all_goals
    rename_i v
    cases v <;> (first | (exfalso; simp [nilFits] at h2; done) | skip)
  all_goals first
    | (cases hy; cases hx; exact ⟨rfl, rfl⟩)
    | (rename_i p; cases p <;> (first | (exfalso; simp [nilFits] at h2; done) | (cases hy; cases hx; exact ⟨rfl, rfl⟩)))
    | (rename_i p _ _; cases p <;> (first | (exfalso; simp [nilFits] at h2; done) | (cases hy; cases hx; exact ⟨rfl, rfl⟩)))

theorem bin_sound (hW : WR G σ w) (op : BinOp) (t : TypeId) (ox oy : Operand) {x y : AVal} {a b : Value} (hx : VR G x a) (hy : VR G y b) {gen : Unit → ORes}
    (hgen : ValSound G P w (gen ()) (do eqGuard op t ox oy a b; Go.binOp op t a b)) : ValSound G P w (evBin P σ op t x y gen) (do eqGuard op t ox oy a b; Go.binOp op t a b) := by
  unfold evBin
  split
  · rename_i s s'
    cases hx; cases hy
    refine .bind fun r hr => ?_
    refine .val1 hW (y := r) ?_ (.v r)
    rw [Sem.run_bind, eqGuard_str, Result.andThen_ok]
    have : Go.binOp op t (.string s) (.string s') = Op.stringOp op s s' := by cases op <;> rfl
    rw [this]; exact str_run hr
  · rename_i k n k' n'
    cases hx; cases hy
    split
    · rename_i r hr
      refine .val1 hW (y := r) ?_ (ofValue_sound r)
      rw [Sem.run_bind, eqGuard_int, Result.andThen_ok, pure1_run hr]; rfl
    · rename_i r hr
      refine .panic (y := r) ?_ hW (ofValue_sound r)
      rw [Sem.run_bind, eqGuard_int, Result.andThen_ok, pure1_run hr]; rfl
    · exact .none
  · rename_i i o j o'
    obtain ⟨rfl, _⟩ := ref_inv hx
    obtain ⟨rfl, _⟩ := ref_inv hy
    have key : ∀ (e : TypeId) (inf : TypeInfo), P.underlying t = some (.pointer e) → P.info? e = some inf → inf.size ≠ 0 → i = j →
        (Op.equal t (.pointer (some ⟨(G.own i).1, (G.own i).2 + o, none⟩)) (.pointer (some ⟨(G.own j).1, (G.own j).2 + o', none⟩))).run P w = .ok (o == o') w := by
      intro e inf hu hi hs hij
      subst hij
      unfold Op.equal
      obtain ⟨dp, hdp⟩ := depth_succ
      rw [hdp]
      simp only [Op.equalIn, Sem.run_bind, r_underlying hu, Result.andThen_ok, r_size hi, Sem.run_ite]
      rw [if_pos (by simpa using hs)]
      simp only [sameAddr, beq_self_eq_true, if_true, Sem.run_pure]
      congr 1
      rw [Bool.eq_iff_iff]
      simp
    split
    · rename_i e hu
      refine .bind fun inf hi => ?_
      split
      · rename_i hc
        refine .val1 hW (y := .bool (o == o')) ?_ (.v _)
        rw [Sem.run_bind, eqGuard_ptr, Result.andThen_ok]
        simp [Go.binOp, key e inf hu hi hc.1 hc.2]
      · exact .none
    · rename_i e hu
      refine .bind fun inf hi => ?_
      split
      · rename_i hc
        refine .val1 hW (y := .bool (!(o == o'))) ?_ (.v _)
        rw [Sem.run_bind, eqGuard_ptr, Result.andThen_ok]
        simp [Go.binOp, key e inf hu hi hc.1 hc.2]
      · exact .none
    · exact .none
  · have guard1 : ∀ {x y : AVal} {a b : Value}, VR G x a → VR G y b → notNil x = true → ((∀ u v, a = .agg u → b = .agg v → False) ∧ ¬ (a = .nilIface ∧ b = .nilIface)) ∧
        ((∀ u v, b = .agg u → a = .agg v → False) ∧ ¬ (b = .nilIface ∧ a = .nilIface)) := by
      intro x y a b hx hy hn
      cases hx <;> simp [notNil] at hn <;> simp
    split
    · rename_i hn
      simp only [Bool.and_eq_true] at hn
      obtain ⟨g1, _⟩ := guard1 hx hy hn.1
      split
      · rename_i d hu
        split
        · rename_i hf
          simp only [Bool.and_eq_true] at hf
          obtain ⟨q1, _⟩ := equal_nil (w := w) hx hy hu hf.1 hf.2
          split
          · refine .val1 hW (y := .bool false) ?_ (.v _)
            rw [Sem.run_bind, eqGuard_run g1, Result.andThen_ok]
            have : Go.binOp .eql t a b = (do pure (.bool (← Op.equal t a b))) := by
              cases hx <;> simp [notNil] at hn <;> rfl
            rw [this]; simp [q1]
          · refine .val1 hW (y := .bool true) ?_ (.v _)
            rw [Sem.run_bind, eqGuard_run g1, Result.andThen_ok]
            have : Go.binOp .neq t a b = (do pure (.bool (!(← Op.equal t a b)))) := by
              cases hx <;> simp [notNil] at hn <;> rfl
            rw [this]; simp [q1]
          · exact .none
        · exact .none
      · exact .none
    · split
      · rename_i hn
        simp only [Bool.and_eq_true] at hn
        obtain ⟨_, g1⟩ := guard1 hy hx hn.2
        split
        · rename_i d hu
          split
          · rename_i hf
            simp only [Bool.and_eq_true] at hf
            obtain ⟨_, q1⟩ := equal_nil (w := w) hy hx hu hf.1 hf.2
            split
            · refine .val1 hW (y := .bool false) ?_ (.v _)
              rw [Sem.run_bind, eqGuard_run g1, Result.andThen_ok]
              have : Go.binOp .eql t a b = (do pure (.bool (← Op.equal t a b))) := by
                cases hy <;> (first | (exfalso; simp [notNil] at hn; done) | skip) <;> cases hx <;> (first | (exfalso; simp [isNil] at hn; done) | skip) <;> cases a <;> (first | (exfalso; simp [isNil] at hn; done) | rfl)
              rw [this]; simp [q1]
            · refine .val1 hW (y := .bool true) ?_ (.v _)
              rw [Sem.run_bind, eqGuard_run g1, Result.andThen_ok]
              have : Go.binOp .neq t a b = (do pure (.bool (!(← Op.equal t a b)))) := by
                cases hy <;> (first | (exfalso; simp [notNil] at hn; done) | skip) <;> cases hx <;> (first | (exfalso; simp [isNil] at hn; done) | skip) <;> cases a <;> (first | (exfalso; simp [isNil] at hn; done) | rfl)
              rw [this]; simp [q1]
            · exact .none
          · exact .none
        · exact .none
      · exact hgen

end
end Go.Ev
