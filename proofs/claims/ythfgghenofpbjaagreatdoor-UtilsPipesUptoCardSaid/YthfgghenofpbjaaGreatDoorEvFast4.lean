/- Operations for the kernel, in the way of continuations: what is built, append, calls; no condition. -/
import Derived.Test.YthfgghenofpbjaaGreatDoorEvFast3
namespace Go.Ev

abbrev Place := Nat → Option (Nat × Nat)
noncomputable def fillK (ps : List (Nat × Operand)) : Place → (Operand → AVal) → List AVal → Option (List AVal) :=
  @List.rec (Nat × Operand) (fun _ => Place → (Operand → AVal) → List AVal → Option (List AVal)) (fun _ _ cs => some cs)
    (fun p _ ih place ρ cs => onO (place p.1) (Option (List AVal)) (fun q => cellsF (ρ p.2) (Option (List AVal)) (fun new => onB (Nat.beq (lenK new) q.2) (Option (List AVal))
      (onO (spliceK cs q.1 new) (Option (List AVal)) (fun cs' => ih place ρ cs') none) none) none) none) ps
theorem fillK_eq {place : Place} {ρ : Operand → AVal} : ∀ {ps : List (Nat × Operand)} {cs q : List AVal}, fillK ps place ρ cs = some q →
    fillA place cs (ps.map fun (i, x) => (i, ρ x)) = some q
  | [], cs, q, h => h
  | (i, x) :: ps, cs, q, h => by
    have h : onO (place i) (Option (List AVal)) (fun q => cellsF (ρ x) (Option (List AVal)) (fun new => onB (Nat.beq (lenK new) q.2) (Option (List AVal))
      (onO (spliceK cs q.1 new) (Option (List AVal)) (fun cs' => fillK ps place ρ cs') none) none) none) none = some q := h
    rcases onO_spec (place i) (Option (List AVal)) (fun q => cellsF (ρ x) (Option (List AVal)) (fun new => onB (Nat.beq (lenK new) q.2) (Option (List AVal))
      (onO (spliceK cs q.1 new) (Option (List AVal)) (fun cs' => fillK ps place ρ cs') none) none) none) none with ⟨⟨off, size⟩, h1, h2⟩ | h2
    · rw [h2] at h
      rcases cellsF_spec (ρ x) (Option (List AVal)) (fun new => onB (Nat.beq (lenK new) size) (Option (List AVal))
        (onO (spliceK cs off new) (Option (List AVal)) (fun cs' => fillK ps place ρ cs') none) none) none with ⟨new, h3, h4⟩ | h4
      · rw [h4] at h
        rcases onB_spec (Nat.beq (lenK new) size) (Option (List AVal)) (onO (spliceK cs off new) (Option (List AVal)) (fun cs' => fillK ps place ρ cs') none) none with ⟨h5, h6⟩ | h6
        · rw [h6] at h
          rcases onO_spec (spliceK cs off new) (Option (List AVal)) (fun cs' => fillK ps place ρ cs') none with ⟨cs', h7, h8⟩ | h8
          · rw [h8] at h
            have h5 := Nat.eq_of_beq_eq_true h5
            rw [lenK_eq] at h5
            simp only [List.map_cons, fillA, h1, h3, h5, if_true, splice_put h7, Option.bind_some]
            exact fillK_eq h
          · rw [h8] at h; simp at h
        · rw [h6] at h; simp at h
      · rw [h4] at h; simp at h
    · rw [h2] at h; simp at h

def noKeep (E : Env) (fn : FuncId) : Bool := !(E.keeps fn)
theorem noKeep_eq {E : Env} {fn : FuncId} (h : noKeep E fn = true) : E.keeps fn = false := by simpa [noKeep] using h
def bsT (P : Program) (t : TypeId) (len : Nat) : Option (Nat × List AVal) :=
  match P.underlying t with
  | some (.slice e) =>
    match P.info? e, zeroCells? P e with
    | some i, some zs => if 0 < i.size ∧ zs.length = i.size ∧ len * i.size ≤ 2 ^ 24 then some (i.size, rep zs len) else none
    | _, _ => none
  | _ => none
noncomputable def buildSliceF (P : Program) (E : Env) (fn : FuncId) (σ : ASt) (t : TypeId) (len : Nat) (ps : List (Nat × Operand)) (ρ : Operand → AVal) (R : Type) (k : AVal → ASt → R) (d : R) : R :=
  onB (noKeep E fn) R (onO (bsT P t len) R (fun i => onO (fillK ps (fun j => some (Nat.mul j i.1, i.1)) ρ i.2) R (fun cs => k (.list i.1 len cs .full) σ) d) d) d
theorem buildSliceF_spec (P : Program) (E : Env) (fn : FuncId) (σ : ASt) (t : TypeId) (len : Nat) (ps : List (Nat × Operand)) (ρ : Operand → AVal) (R : Type) (k : AVal → ASt → R) (d : R) :
    Fast (evBuildSlice P E fn σ t len (ps.map fun (i, x) => (i, ρ x))) k d (buildSliceF P E fn σ t len ps ρ R k d) := by
  unfold buildSliceF
  rcases onB_spec (noKeep E fn) R (onO (bsT P t len) R (fun i => onO (fillK ps (fun j => some (Nat.mul j i.1, i.1)) ρ i.2) R (fun cs => k (.list i.1 len cs .full) σ) d) d) d with ⟨hn, h⟩ | h
  · rw [h]
    rcases onO_spec (bsT P t len) R (fun i => onO (fillK ps (fun j => some (Nat.mul j i.1, i.1)) ρ i.2) R (fun cs => k (.list i.1 len cs .full) σ) d) d with ⟨i, hi, h⟩ | h
    · rw [h]
      rcases onO_spec (fillK ps (fun j => some (Nat.mul j i.1, i.1)) ρ i.2) R (fun cs => k (.list i.1 len cs .full) σ) d with ⟨cs, hc, h⟩ | h
      · refine .inr ⟨_, σ, ?_, h⟩
        have hc := fillK_eq hc
        unfold bsT at hi
        split at hi
        · rename_i e he
          split at hi
          · rename_i inf zs q1 q2
            split at hi
            · rename_i hcond
              simp only [Option.some.injEq] at hi
              subst hi
              unfold evBuildSlice
              simp only [he, q1, q2, if_pos hcond]
              have hc : fillA (fun j => some (j * inf.size, inf.size)) (rep zs len) (ps.map fun (i, x) => (i, ρ x)) = some cs := hc
              rw [hc]
              simp only [Option.bind_some, noKeep_eq hn, val1]; rfl
            · simp at hi
          · simp at hi
        · simp at hi
      · exact .inl h
    · exact .inl h
  · exact .inl h
def plT (P : Program) (t : TypeId) : Option (List (Nat × Nat) × List AVal) :=
  match zeroCells? P t, P.underlying t with
  | some zs, some (.struct fs) => (fieldPlaces P fs.toList).map fun pl => (pl, zs)
  | _, _ => none
noncomputable def buildF (P : Program) (σ : ASt) (t : TypeId) (ps : List (Nat × Operand)) (ρ : Operand → AVal) (R : Type) (k : AVal → ASt → R) (d : R) : R :=
  onO (plT P t) R (fun i => onO (fillK ps (nthO i.1) ρ i.2) R (fun cs => k (.agg cs) σ) d) d
theorem buildF_spec (P : Program) (σ : ASt) (t : TypeId) (ps : List (Nat × Operand)) (ρ : Operand → AVal) (R : Type) (k : AVal → ASt → R) (d : R) :
    Fast (evBuild P σ t (ps.map fun (i, x) => (i, ρ x))) k d (buildF P σ t ps ρ R k d) := by
  unfold buildF
  rcases onO_spec (plT P t) R (fun i => onO (fillK ps (nthO i.1) ρ i.2) R (fun cs => k (.agg cs) σ) d) d with ⟨i, hi, h⟩ | h
  · rw [h]
    rcases onO_spec (fillK ps (nthO i.1) ρ i.2) R (fun cs => k (.agg cs) σ) d with ⟨cs, hc, h⟩ | h
    · refine .inr ⟨_, σ, ?_, h⟩
      have hc := fillK_eq hc
      unfold plT at hi
      split at hi
      · rename_i zs fs hz hu
        cases hp : fieldPlaces P fs.toList with
        | none => rw [hp] at hi; simp at hi
        | some pl =>
          rw [hp] at hi
          simp only [Option.map_some, Option.some.injEq] at hi
          subst hi
          have e : (fun (j : Nat) => pl[j]?) = nthO pl := funext fun j => (nthO_eq pl j).symm
          unfold evBuild
          simp only [hz, hu, Option.bind_some, hp]
          rw [e, hc]; rfl
      · simp at hi
    · exact .inl h
  · exact .inl h

/- append. -/
def appT (P : Program) (tys : Array TypeId) : Option (Nat × TypeId × Nat) :=
  match tys[0]?, tys[1]? with
  | some st, some xt =>
    match P.underlying st, P.underlying xt with
    | some (.slice e), some xd =>
      if isIntType xd then none else
      match P.info? e with
      | some i => if 0 < i.size ∧ i.zero.isSome ∧ (i.zero.map (·.cells.size)) = some i.size then some (i.size, e, i.bytes) else none
      | none => none
    | _, _ => none
  | _, _ => none
noncomputable def onTok (t : Tok) : (R : Type) → R → (Nat → R) → R → R := @Tok.rec (fun _ => (R : Type) → R → (Nat → R) → R → R) (fun _ _ _ d => d) (fun _ k _ _ => k) (fun i _ _ k _ => k i) t
noncomputable def onNilSl (x : Value) : (R : Type) → R → R → R :=
  @Value.rec (fun _ => (R : Type) → R → R → R) (fun _ => PUnit.{2}) (fun _ => PUnit.{2}) (fun _ _ _ d => d) (fun _ _ _ _ d => d) (fun _ _ _ _ d => d) (fun _ _ _ _ _ d => d)
    (fun _ _ _ d => d) (fun _ _ _ d => d) (fun a n c _ k d => @Option.rec Addr (fun _ => _) (onB (Nat.beq n (nat_lit 0)) _ (onB (Nat.beq c (nat_lit 0)) _ k d) d) (fun _ => d) a) (fun _ _ _ d => d) (fun _ _ _ d => d) (fun _ _ _ _ _ _ _ d => d) (fun _ _ d => d) (fun _ _ _ _ _ d => d) (fun _ _ d => d)
    (fun _ _ _ _ d => d) (fun _ _ _ _ d => d) (fun _ _ => ⟨⟩) ⟨⟩ (fun _ _ _ _ => ⟨⟩) x
theorem onNilSl_spec (x : Value) (R : Type) (k d : R) : (x = .slice none 0 0 ∧ onNilSl x R k d = k) ∨ onNilSl x R k d = d := by
  cases x with
  | slice a n c =>
    cases a with
    | some a => exact .inr rfl
    | none =>
      show _ ∨ onB (Nat.beq n (nat_lit 0)) R (onB (Nat.beq c (nat_lit 0)) R k d) d = d
      rcases onB_spec (Nat.beq n (nat_lit 0)) R (onB (Nat.beq c (nat_lit 0)) R k d) d with ⟨h1, h2⟩ | h2
      · rcases onB_spec (Nat.beq c (nat_lit 0)) R k d with ⟨h3, h4⟩ | h4
        · refine .inl ⟨?_, h2.trans h4⟩
          rw [Nat.eq_of_beq_eq_true h1, Nat.eq_of_beq_eq_true h3]
        · exact .inr (h2.trans h4)
      · exact .inr h2
  | _ => exact .inr rfl
noncomputable def growF (i : Nat × TypeId × Nat) (σ : ASt) (n m : Nat) (cs new : List AVal) (tok : Tok) (R : Type) (k : AVal → ASt → R) (d : R) : R :=
  onB (Nat.ble (Nat.add n m) (nat_lit 1099511627776)) R (onB (Nat.ble (Nat.mul (Nat.mul i.2.2 (Nat.add n m)) (nat_lit 2)) (nat_lit 281474976710656)) R
    (onTok tok R (k (.list i.1 (Nat.add n m) (appK cs new) (.live σ.next)) (memPush σ (.cells i.2.1 [])))
      (fun id => onCells (atK σ.objs id) R (fun _ l => onNil l R (k (.list i.1 (Nat.add n m) (appK cs new) (.live σ.next)) (memPush (memSet σ id .dead) (.cells i.2.1 []))) d) d) d) d) d
noncomputable def appendF (P : Program) (E : Env) (fn : FuncId) (σ : ASt) (tys : Array TypeId) (s x : AVal) (R : Type) (k : AVal → ASt → R) (d : R) : R :=
  onB (noKeep E fn) R (onO (appT P tys) R (fun i => onSl x R (fun kx m new _ => onB (Nat.beq kx i.1) R (onB (Nat.beq (lenK new) (Nat.mul m i.1)) R (onB (Nat.ble (nat_lit 1) m) R
    (onSl s R (fun ks n cs tok => onB (Nat.beq ks i.1) R (onB (Nat.beq (lenK cs) (Nat.mul n i.1)) R (growF i σ n m cs new tok R k d) d) d) (fun _ _ _ _ _ => d)
      (onV s R (fun y => onNilSl y R (growF i σ (nat_lit 0) m [] new .full R k d) d) d)) d) d) d) (fun _ _ _ _ _ => d) d) d) d
theorem appT_some {P : Program} {tys : Array TypeId} {i : Nat × TypeId × Nat} (h : appT P tys = some i) :
    ∃ st xt xd inf, tys[0]? = some st ∧ tys[1]? = some xt ∧ P.underlying st = some (.slice i.2.1) ∧ P.underlying xt = some xd ∧ isIntType xd = false ∧ P.info? i.2.1 = some inf ∧
      (0 < inf.size ∧ inf.zero.isSome ∧ (inf.zero.map (·.cells.size)) = some inf.size) ∧ inf.size = i.1 ∧ inf.bytes = i.2.2 := by
  unfold appT at h
  split at h
  · rename_i st xt h1 h2
    split at h
    · rename_i e xd h3 h4
      split at h
      · simp at h
      · rename_i h5
        split at h
        · rename_i inf h6
          split at h
          · rename_i h7
            simp only [Option.some.injEq] at h
            subst h
            exact ⟨st, xt, xd, inf, h1, h2, h3, h4, by simpa using h5, h6, h7, rfl, rfl⟩
          · simp at h
        · simp at h
    · simp at h
  · simp at h
theorem appendF_spec (P : Program) (E : Env) (fn : FuncId) (σ : ASt) (tys : Array TypeId) (s x : AVal) (R : Type) (k : AVal → ASt → R) (d : R) :
    Fast (evAppend P E fn σ tys s x) k d (appendF P E fn σ tys s x R k d) := by
  unfold appendF
  generalize hA : onO (appT P tys) R _ d = A
  rcases onB_spec (noKeep E fn) R A d with ⟨hn, h⟩ | h
  · rw [h, ← hA]
    clear h hA A
    generalize hA : (fun (i : Nat × TypeId × Nat) => _) = A
    rcases onO_spec (appT P tys) R A d with ⟨i, hi, h⟩ | h
    · rw [h, ← hA]
      simp only
      clear h hA A
      obtain ⟨st, xt, xd, inf, a1, a2, a3, a4, a5, a6, a7, a8, a9⟩ := appT_some hi
      generalize hA : (fun (kx m : Nat) (new : List AVal) (_ : Tok) => _) = A
      rcases onSl_spec x R A (fun _ _ _ _ _ => d) d with ⟨kx, m, new, tx, rfl, h⟩ | ⟨_, _, _, _, _, rfl, h⟩ | h
      · rw [h, ← hA]
        simp only
        clear h hA A
        generalize hA : onB (Nat.beq (lenK new) (Nat.mul m i.1)) R _ d = A
        rcases onB_spec (Nat.beq kx i.1) R A d with ⟨b1, h⟩ | h
        · rw [h, ← hA]
          clear h hA A
          generalize hA : onB (Nat.ble (nat_lit 1) m) R _ d = A
          rcases onB_spec (Nat.beq (lenK new) (Nat.mul m i.1)) R A d with ⟨b2, h⟩ | h
          · rw [h, ← hA]
            clear h hA A
            generalize hA : onSl s R _ _ _ = A
            rcases onB_spec (Nat.ble (nat_lit 1) m) R A d with ⟨b3, h⟩ | h
            · rw [h, ← hA]
              clear h hA A
              have b1 := Nat.eq_of_beq_eq_true b1
              have b2 := Nat.eq_of_beq_eq_true b2
              rw [lenK_eq] at b2
              have b2 : new.length = m * i.1 := b2
              have b3 : 1 ≤ m := Nat.le_of_ble_eq_true b3
              have hsrc : srcCells σ i.1 (.list kx m new tx) = some (m, new) := by
                simp only [srcCells]
                rw [if_pos ⟨b1, b2⟩]
              have hm0 : ¬ m = 0 := by omega
              have head : ∀ s, evAppend P E fn σ tys s (.list kx m new tx) = evAppend P E fn σ tys s (.list kx m new tx) := fun _ => rfl
              generalize hA : (fun (ks n : Nat) (cs : List AVal) (tok : Tok) => _) = A
              generalize hD : onV s R _ d = D
              rcases onSl_spec s R A (fun _ _ _ _ _ => d) D with ⟨ks, n, cs, tok, rfl, h⟩ | ⟨_, _, _, _, _, rfl, h⟩ | h
              · rw [h, ← hA]
                simp only
                clear h hA hD A
                generalize hA : onB (Nat.beq (lenK cs) (Nat.mul n i.1)) R _ d = A
                rcases onB_spec (Nat.beq ks i.1) R A d with ⟨c1, h⟩ | h
                · rw [h, ← hA]
                  clear h hA A
                  generalize hA : growF i σ n m cs new tok R k d = A
                  rcases onB_spec (Nat.beq (lenK cs) (Nat.mul n i.1)) R A d with ⟨c2, h⟩ | h
                  · rw [h, ← hA]
                    clear h hA A
                    have c1 := Nat.eq_of_beq_eq_true c1
                    have c2 := Nat.eq_of_beq_eq_true c2
                    rw [lenK_eq] at c2
                    have c2 : cs.length = n * i.1 := c2
                    unfold growF
                    generalize hA : onB (Nat.ble (Nat.mul (Nat.mul i.2.2 (Nat.add n m)) (nat_lit 2)) (nat_lit 281474976710656)) R _ d = A
                    rcases onB_spec (Nat.ble (Nat.add n m) (nat_lit 1099511627776)) R A d with ⟨c3, h⟩ | h
                    · rw [h, ← hA]
                      clear h hA A
                      generalize hA : onTok tok R _ _ d = A
                      rcases onB_spec (Nat.ble (Nat.mul (Nat.mul i.2.2 (Nat.add n m)) (nat_lit 2)) (nat_lit 281474976710656)) R A d with ⟨c4, h⟩ | h
                      · rw [h, ← hA]
                        clear h hA A
                        have c3 : n + m ≤ most := Nat.le_of_ble_eq_true c3
                        have c4 : i.2.2 * (n + m) * 2 ≤ 2 ^ 48 := Nat.le_of_ble_eq_true c4
                        have hcond : ks = inf.size ∧ cs.length = n * inf.size ∧ n + m ≤ most ∧ inf.bytes * (n + m) * 2 ≤ 2 ^ 48 := ⟨by rw [a8]; exact c1, by rw [a8]; exact c2, c3, by rw [a9]; exact c4⟩
                        cases tok with
                        | no => exact .inl rfl
                        | full =>
                          refine .inr ⟨_, _, ?_, rfl⟩
                          simp only [evAppend, a1, a2, a3, a4, a5, a6, if_pos a7, Bool.false_eq_true, if_false]
                          rw [a8] at hcond ⊢
                          simp only [hsrc, if_pos hcond, hm0, if_false, noKeep_eq hn, Bool.false_eq_true, appK_eq, memPush_eq]; rfl
                        | live id =>
                          show Fast _ k d (onCells (atK σ.objs id) R _ d)
                          generalize hA : (fun (e : TypeId) (l : List AVal) => _) = A
                          rcases onCells_spec (atK σ.objs id) R A d with ⟨e, l, c5, h⟩ | h
                          · rw [h, ← hA]
                            simp only
                            clear h hA A
                            generalize hA : k _ _ = A
                            rcases onNil_spec l R A d with ⟨rfl, h⟩ | h
                            · rw [h, ← hA]
                              refine .inr ⟨_, _, ?_, rfl⟩
                              simp only [evAppend, a1, a2, a3, a4, a5, a6, if_pos a7, Bool.false_eq_true, if_false]
                              rw [a8] at hcond ⊢
                              simp only [hsrc, if_pos hcond, hm0, if_false, atK_cells c5, noKeep_eq hn, Bool.false_eq_true, appK_eq, memPush_eq, memKill_eq]; rfl
                            · exact .inl h
                          · exact .inl h
                      · exact .inl h
                    · exact .inl h
                  · exact .inl h
                · exact .inl h
              · exact .inl h
              · rw [h, ← hD]
                clear h hA hD A
                generalize hA : (fun (y : Value) => _) = A
                rcases onV_spec s R A d with ⟨y, rfl, h⟩ | h
                · rw [h, ← hA]
                  simp only
                  clear h hA A
                  generalize hA : growF i σ (nat_lit 0) m [] new .full R k d = A
                  rcases onNilSl_spec y R A d with ⟨rfl, h⟩ | h
                  · rw [h, ← hA]
                    clear h hA A
                    unfold growF
                    generalize hA : onB (Nat.ble (Nat.mul (Nat.mul i.2.2 (Nat.add (nat_lit 0) m)) (nat_lit 2)) (nat_lit 281474976710656)) R _ d = A
                    rcases onB_spec (Nat.ble (Nat.add (nat_lit 0) m) (nat_lit 1099511627776)) R A d with ⟨c3, h⟩ | h
                    · rw [h, ← hA]
                      clear h hA A
                      generalize hA : onTok .full R _ _ d = A
                      rcases onB_spec (Nat.ble (Nat.mul (Nat.mul i.2.2 (Nat.add (nat_lit 0) m)) (nat_lit 2)) (nat_lit 281474976710656)) R A d with ⟨c4, h⟩ | h
                      · rw [h, ← hA]
                        have c3 : 0 + m ≤ most := Nat.le_of_ble_eq_true c3
                        have c4 : i.2.2 * (0 + m) * 2 ≤ 2 ^ 48 := Nat.le_of_ble_eq_true c4
                        rw [Nat.zero_add] at c3 c4
                        refine .inr ⟨_, _, ?_, rfl⟩
                        have hz : Nat.add (nat_lit 0) m = m := Nat.zero_add m
                        simp only [evAppend, a1, a2, a3, a4, a5, a6, if_pos a7, Bool.false_eq_true, if_false]
                        rw [a8, a9]
                        simp only [hsrc, c3, c4, true_and, if_true, hm0, if_false, noKeep_eq hn, Bool.false_eq_true, hz, memPush_eq]; rfl
                      · exact .inl h
                    · exact .inl h
                  · exact .inl h
                · exact .inl h
            · exact .inl h
          · exact .inl h
        · exact .inl h
      · exact .inl h
      · exact .inl h
    · exact .inl h
  · exact .inl h
end Go.Ev
