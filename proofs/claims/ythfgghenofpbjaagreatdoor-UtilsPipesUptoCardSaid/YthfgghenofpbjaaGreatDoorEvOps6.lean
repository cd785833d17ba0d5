/- make, nil checks, assertions, operators; no condition. -/
import Derived.Test.YthfgghenofpbjaaGreatDoorEvOps5
import Derived.Laws.Strings
namespace Go.Ev

theorem wrap64_in {n : Int} (h1 : -9223372036854775808 ≤ n) (h2 : n < 9223372036854775808) : IntKind.i64.wrap n = n := by
  simp only [IntKind.wrap, IntKind.bits, IntKind.signed]
  simp
  omega

def toRes {α : Type} (w : World) : Except Halt α → Result α
  | .ok a => .ok a w
  | .error e => .halt e w
theorem pure1_run {α : Type} {P : Program} {s : Sem α} {r : Except Halt α} (h : pure1 P s = some r) (w : World) : s.run P w = toRes w r := by
  induction s with
  | pure a => simp only [pure1, Option.some.injEq] at h; subst h; rfl
  | program k ih => exact ih P h
  | mark m k ih => exact ih h
  | halt e => simp only [pure1, Option.some.injEq] at h; subst h; rfl
  | _ => simp [pure1] at h

section
variable {P : Program} {E : Env} {G : Ghost} {σ : ASt} {w : World}

theorem makeSlice_sound (hW : WR G σ w) (t : TypeId) {l c : AVal} {l' c' : Value} (hl : VR G l l') (hc : VR G c c') : ValSound G P w (evMakeSlice P σ t l c) (Instr.makeSlice t l' c') := by
  unfold evMakeSlice
  split
  · rename_i e k l k' c hu
    cases hl; cases hc
    split
    · rename_i i zs hi hz
      split
      · rename_i hb
        obtain ⟨hs, hzl, h0, hlc, hby, hcm⟩ := hb
        obtain ⟨i', z, hi', hzz, hv, hone⟩ := zeroCells_sound (G := G) hz
        rw [hi] at hi'; cases hi'
        obtain ⟨hr, hro⟩ := rep_sound hv hone (by omega) c.toNat (c.toNat * i.size) (by rw [hzl])
        obtain ⟨G', le, h1, ho, hn, hb, _⟩ := hW.make [] ((Array.range (c.toNat * i.size)).map (z.cells[· % z.cells.size]!)).toList [] e e (by simp) hr hro
        simp only [List.nil_append, List.append_nil, Array.toArray_toList] at h1
        have wl : IntKind.i64.wrap l = l := wrap64_in (by omega) (by omega)
        have wc : IntKind.i64.wrap c = c := wrap64_in (by omega) (by omega)
        have hrun : (Instr.makeSlice t (.int k l) (.int k' c)).run P w =
            .ok (.slice (some ⟨w.heap.size, 0, none⟩) l.toNat c.toNat) { w with heap := w.heap.push (.cells ((Array.range (c.toNat * i.size)).map (z.cells[· % z.cells.size]!)) e) } := by
          have hfalse : (c < 0 || decide ((i.bytes : Int) * c > 2 ^ 48) || decide (l < 0) || decide (l > c)) = false := by
            have e1 : ¬ c < 0 := by omega
            have e2 : ¬ (i.bytes : Int) * c > 2 ^ 48 := by omega
            have e3 : ¬ l < 0 := by omega
            have e4 : ¬ l > c := by omega
            simp [e1, e3, e4]; omega
          simp only [Instr.makeSlice, Sem.run_bind, r_underlying hu, Result.andThen_ok, asInt, asIntOf_run, Sem.run_pure, r_info hi, wl, wc]
          rw [if_neg (by rw [hfalse]; simp)]
          simp only [Sem.run_bind, run_askRoom, Result.andThen_ok, r_size hi]
          by_cases h0 : c.toNat * i.size = 0
          · simp only [h0]
            rw [range0]
            have : ∀ f : Nat → Value, (Array.range 0).map f = #[] := range0
            simp [newRow, this]
          · simp [h0, newRow, r_zero hi hzz]
        refine .val hrun le h1 (.arr _ _ _ _ _ _ _ hn (by omega) (by simp) (fun _ => by rw [ho]; rfl) ⟨e, _, by rw [ho]; exact hb, ?_, by simp⟩)
        rw [ho]; simp
      · exact .none
    · exact .none
  · exact .none

theorem nilCheck_sound (hW : WR G σ w) {x : AVal} {y : Value} (hx : VR G x y) {ox : Operand} {ρ : Operand → Value} (hρ : ρ ox = y) {d : Option Tmp} {ty : TypeId} {pos : String} {af : Array Edge} {gd : Option (Nat × Bool)} :
    ∀ n σ', evNilCheck P σ x = some (n, σ') → OpSound P G σ' w n ((execOp ρ ⟨d, .nilCheck ox, ty, pos, af, gd⟩).run P w) := by
  intro n σ' h
  unfold evNilCheck at h
  simp only [execOp, hρ]
  split at h
  · cases hx
    simp only [Option.some.injEq, Prod.mk.injEq] at h; obtain ⟨rfl, rfl⟩ := h
    exact ⟨w, _, nilDeref_run, hW, .iface _ _ _ (.v _)⟩
  · cases hx
    simp only [Option.some.injEq, Prod.mk.injEq] at h; obtain ⟨rfl, rfl⟩ := h
    exact ⟨w, _, nilDeref_run, hW, .iface _ _ _ (.v _)⟩
  · cases hx
    simp only [Option.some.injEq, Prod.mk.injEq] at h; obtain ⟨rfl, rfl⟩ := h
    exact ⟨w, _, nilDeref_run, hW, .iface _ _ _ (.v _)⟩
  · obtain ⟨rfl, _⟩ := ref_inv hx
    simp only [val1, Option.some.injEq, Prod.mk.injEq] at h; obtain ⟨rfl, rfl⟩ := h
    exact .same hW hx
  · obtain ⟨b, o, rfl⟩ := iref_inv hx
    simp only [val1, Option.some.injEq, Prod.mk.injEq] at h; obtain ⟨rfl, rfl⟩ := h
    exact .same hW hx
  · have hx' := hx
    cases hx
    simp only [val1, Option.some.injEq, Prod.mk.injEq] at h; obtain ⟨rfl, rfl⟩ := h
    exact .same hW hx'
  · have hx' := hx
    cases hx
    simp only [val1, Option.some.injEq, Prod.mk.injEq] at h; obtain ⟨rfl, rfl⟩ := h
    exact .same hW hx'
  · simp at h

theorem typeAssert_sound (hW : WR G σ w) {x : AVal} {y : Value} (hx : VR G x y) (xt asserted : TypeId) (ok : Bool) :
    ValSound G P w (evTypeAssert P σ x asserted ok) (Instr.typeAssert y xt asserted ok) := by
  have holds : ∀ (a : AVal) (b : Value) (s : Sem Value), VR G a b → s.run P w = .ok (if ok then .tuple #[b, .bool true] else b) w → ValSound G P w (val1 σ (if ok then .tuple [a, .v (.bool true)] else a)) s := by
    intro a b s hab hs
    cases ok with
    | true => exact .val1 hW hs (VRs.cons hab (.cons (.v _) (.nil G))).tuple
    | false => exact .val1 hW hs hab
  have fails : ∀ (s : Sem Value), (∀ i z, P.info? asserted = some i → i.zero = some z → ok = true → s.run P w = .ok (.tuple #[z, .bool false]) w) →
      ValSound G P w (if ok then (P.info? asserted).bind fun i => i.zero.bind fun z => val1 σ (.tuple [ofValue z, .v (.bool false)]) else none) s := by
    intro s hs
    split
    · rename_i hok
      refine .bind fun i hi => .bind fun z hz => ?_
      exact .val1 hW (hs i z hi hz hok) (VRs.cons (ofValue_sound z) (.cons (.v _) (.nil G))).tuple
    · exact .none
  unfold evTypeAssert
  simp only
  split
  · rename_i ms hu
    cases hx
    refine fails _ fun i z hi hz hok => ?_
    subst hok
    simp [Instr.typeAssert, r_underlying hu, r_zero hi hz]
  · rename_i want t a hu
    cases hx with
    | iface _ _ b hb =>
      refine .bind fun inf hinf => ?_
      split
      · rename_i hm
        refine holds _ (.iface t b) _ (.iface t a b hb) ?_
        simp [Instr.typeAssert, r_underlying hu, r_info hinf, hm]
      · rename_i m hm
        refine fails _ fun i z hi hz hok => ?_
        subst hok
        simp [Instr.typeAssert, r_underlying hu, r_info hinf, hm, r_zero hi hz]
  · rename_i d hn hu
    cases hx
    refine fails _ fun i z hi hz hok => ?_
    subst hok
    simp only [Instr.typeAssert, Sem.run_bind, r_underlying hu, Result.andThen_ok]
    cases d <;> simp [r_zero hi hz]
  · rename_i d t a hn hu
    cases hx with
    | iface _ _ b hb =>
      split
      · rename_i ht
        refine holds a b _ hb ?_
        simp only [Instr.typeAssert, Sem.run_bind, r_underlying hu, Result.andThen_ok]
        cases d <;> first | exact absurd rfl (hn _) | simp [ht]
      · rename_i ht
        refine fails _ fun i z hi hz hok => ?_
        subst hok
        simp only [Instr.typeAssert, Sem.run_bind, r_underlying hu, Result.andThen_ok]
        cases d <;> first | exact absurd rfl (hn _) | simp [ht, r_zero hi hz]
  · exact .none

theorem str_run {op : BinOp} {a b : ByteArray} {r : Value} (h : evStr op a b = some r) : (Op.stringOp op a b).run P w = .ok r w := by
  have e1 : a.toList = a.data.toList := ByteArray.toList_eq a
  have e2 : b.toList = b.data.toList := ByteArray.toList_eq b
  unfold evStr at h
  simp only at h
  unfold Op.stringOp
  simp only [e1, e2]
  split at h
  · split at h
    · rename_i hl
      simp only [Option.some.injEq] at h; subst h
      have hs : ¬ (((a.size + b.size : Nat) : Int) > IntKind.i64.max) := by
        have e3 : a.size = a.data.toList.length := rfl
        have e4 : b.size = b.data.toList.length := rfl
        rw [e3, e4]
        simp only [IntKind.max, IntKind.signed, IntKind.bits]
        simp only [if_true]
        omega
      simp only [hs, if_false]
      show Result.ok _ _ = _
      congr 2
    · simp at h
  all_goals first
    | (simp only [Option.some.injEq] at h; subst h; rfl)
    | simp at h

theorem flat_sound {x : AVal} {y c : Value} (hx : VR G x c) (h : flat? x = some y) : c = y := by
  have lists : ∀ (cs : List AVal) (l : List Value) (ds : List Value), scals? cs = some l → VRs G cs ds → ds = l := by
    intro cs
    induction cs with
    | nil => intro l ds h hv; simp only [scals?, Option.some.injEq] at h; subst h; have := hv.1; simpa using this.symm
    | cons c cs ih =>
      intro l ds h hv
      cases ds with
      | nil => have := hv.1; simp at this
      | cons d ds =>
        cases c <;> simp only [scals?] at h <;> try (simp at h; done)
        rename_i x
        cases hr : scals? cs with
        | none => rw [hr] at h; simp at h
        | some r =>
          rw [hr] at h
          simp only [Option.map_some, Option.some.injEq] at h; subst h
          have := hv.head
          cases this
          rw [ih r ds hr hv.tail]
  have agg : ∀ (cs : List AVal) (c y : Value), VR G (.agg cs) c → ((scals? cs).map fun l => Value.agg l.toArray) = some y → c = y := by
    intro cs c y hx h
    obtain ⟨ds, rfl, hv⟩ := agg_list hx
    cases hr : scals? cs with
    | none => rw [hr] at h; simp at h
    | some r =>
      rw [hr] at h
      simp only [Option.map_some, Option.some.injEq] at h; subst h
      rw [← lists _ _ _ hr hv]
  unfold flat? at h
  split at h
  · cases hx; simpa using h
  · exact agg _ _ _ hx h
  · rename_i cs
    cases hx with
    | tuple _ ds h1 h2 =>
      cases hr : scals? cs with
      | none => rw [hr] at h; simp at h
      | some r =>
        rw [hr] at h
        simp only [Option.map_some, Option.some.injEq] at h; subst h
        rw [← lists cs r ds.toList hr ⟨by simpa using h1, fun i a d e1 e2 => h2 i a d e1 (by simpa using e2)⟩]
  · cases hx with
    | iface t _ y hy => cases hy; simpa using h
  · rename_i t cs
    cases hx with
    | iface t _ y hy =>
      cases hr : (scals? cs).map fun l => Value.agg l.toArray with
      | none =>
        cases hs : scals? cs with
        | none => rw [hs] at h; simp at h
        | some r => rw [hs] at hr; simp at hr
      | some r =>
        have := agg cs y r hy hr
        subst this
        cases hs : scals? cs with
        | none => rw [hs] at h; simp at h
        | some l => rw [hs] at h hr; simp at h hr; rw [← h, hr]
  · cases hx with
    | func _ _ _ fs gs h0 h1 h2 h3 h4 =>
      simp only [List.length_nil] at h1 h2
      have e1 : fs = #[] := by simpa using h1.symm
      have e2 : gs = #[] := by simpa using h2.symm
      subst e1; subst e2
      simpa using h
  · simp at h

/-- An operation by the model's own code. -/
theorem gen_sound (hW : WR G σ w) {ρ : Operand → AVal} {ρ' : Operand → Value} (hρ : ∀ x, VR G (ρ x) (ρ' x)) (o : Oper) (hs : ∀ cs b, o.op ≠ .select cs b) (u : Unit) :
    ∀ n σ', evGen P σ ρ o u = some (n, σ') → OpSound P G σ' w n ((execOp ρ' o).run P w) := by
  intro n σ' h
  unfold evGen at h
  split at h
  · rename_i hall
    rw [List.all_eq_true] at hall
    have heq : execOp ρ' o = execOp (fun x => (flat? (ρ x)).getD undef) o := by
      refine execOp_congr o hs fun x hx => ?_
      have := hall x (by simpa using hx)
      obtain ⟨y, hy⟩ := Option.isSome_iff_exists.1 this
      rw [hy]
      exact flat_sound (hρ x) hy
    rw [heq]
    unfold ofNext at h
    split at h
    · rename_i x hx
      simp only [val1, Option.some.injEq, Prod.mk.injEq] at h; obtain ⟨rfl, rfl⟩ := h
      rw [pure1_run hx]
      exact OpSound.same hW (ofValue_sound x)
    · rename_i x hx
      simp only [Option.some.injEq, Prod.mk.injEq] at h; obtain ⟨rfl, rfl⟩ := h
      rw [pure1_run hx]
      exact ⟨w, x, rfl, hW, ofValue_sound x⟩
    · simp at h
  · simp at h

end
end Go.Ev
