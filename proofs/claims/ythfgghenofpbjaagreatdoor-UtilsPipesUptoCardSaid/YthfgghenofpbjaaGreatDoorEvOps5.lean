/- Values that are put together; literals of slices; make; no condition. -/
import Derived.Test.YthfgghenofpbjaaGreatDoorEvOps4
namespace Go.Ev

theorem range0 {α : Type} (f : Nat → α) : (Array.range 0).map f = #[] := by apply Array.ext'; simp
theorem foldl_set (off : Nat) : ∀ (l : List Value) (j : Nat) (cs : Array Value) (i : Nat), off + j + l.length ≤ cs.size →
    ((l.zipIdx j).foldl (fun cs (x : Value × Nat) => cs.setIfInBounds (off + x.2) x.1) cs)[i]? = if off + j ≤ i ∧ i < off + j + l.length then l[i - (off + j)]? else cs[i]? := by
  intro l
  induction l with
  | nil => intro j cs i _; simp; intro h1 h2; omega
  | cons v l ih =>
    intro j cs i h
    simp only [List.zipIdx_cons, List.foldl_cons, List.length_cons] at h ⊢
    rw [ih (j + 1) _ i (by simp; omega)]
    by_cases h1 : off + (j + 1) ≤ i ∧ i < off + (j + 1) + l.length
    · rw [if_pos h1, if_pos (by omega), show i - (off + j) = (i - (off + (j + 1))) + 1 by omega, List.getElem?_cons_succ]
    · rw [if_neg h1]
      by_cases h2 : i = off + j
      · subst h2
        rw [if_pos (by omega), Nat.sub_self, List.getElem?_cons_zero]
        simp [show off + j < cs.size by omega]
      · rw [if_neg (by omega)]
        simp [Ne.symm h2]
theorem foldl_set_size (off : Nat) : ∀ (l : List (Value × Nat)) (cs : Array Value), (l.foldl (fun cs (x : Value × Nat) => cs.setIfInBounds (off + x.2) x.1) cs).size = cs.size := by
  intro l
  induction l with
  | nil => intro cs; rfl
  | cons v l ih => intro cs; rw [List.foldl_cons, ih]; simp

/-- Parts: numbers and values. -/
def PartsR (G : Ghost) (xs : List (Nat × AVal)) (ys : List (Nat × Value)) : Prop :=
  xs.length = ys.length ∧ ∀ (i : Nat) a d, xs[i]? = some a → ys[i]? = some d → a.1 = d.1 ∧ VR G a.2 d.2

section
variable {P : Program} {E : Env} {G : Ghost} {σ : ASt} {w : World}

theorem fill_sound {place : Nat → Option (Nat × Nat)} : ∀ (xs : List (Nat × AVal)) (ys : List (Nat × Value)) (cs cs' : List AVal) (ds : Array Value), PartsR G xs ys → VRs G cs ds.toList →
    (∀ d ∈ ds.toList, one d = true) → fillA place cs xs = some cs' → ∃ ds', Instr.fill place ds ys = some ds' ∧ VRs G cs' ds'.toList ∧ ∀ d ∈ ds'.toList, one d = true := by
  intro xs
  induction xs with
  | nil =>
    intro ys cs cs' ds hp hv h1 h
    cases ys with
    | nil => simp only [fillA, Option.some.injEq] at h; subst h; exact ⟨ds, rfl, hv, h1⟩
    | cons _ _ => simp [PartsR] at hp
  | cons a xs ih =>
    intro ys cs cs' ds hp hv h1 h
    cases ys with
    | nil => simp [PartsR] at hp
    | cons b ys =>
      obtain ⟨i, x⟩ := a
      obtain ⟨i', y⟩ := b
      obtain ⟨rfl, hxy⟩ := hp.2 0 (i, x) (i', y) rfl rfl
      simp only at hxy
      have hp' : PartsR G xs ys := ⟨by have := hp.1; simpa using this, fun j a d e1 e2 => hp.2 (j + 1) a d (by simpa using e1) (by simpa using e2)⟩
      simp only [fillA] at h
      split at h
      · rename_i off size new hpl hc
        split at h
        · rename_i hn
          cases hpa : putAt cs off new with
          | none => rw [hpa] at h; simp at h
          | some cs1 =>
            rw [hpa] at h
            simp only [Option.bind_some] at h
            obtain ⟨hl, hle, hget⟩ := putAt_get hpa
            obtain ⟨hvn, hon⟩ := cells_sound hxy hc
            have hsz : y.cells.size = size := by have := hvn.1; simp at this; omega
            have hds : cs.length = ds.size := by have := hv.1; simpa using this
            let ds1 := (y.cells.toList.zipIdx 0).foldl (fun cs (x : Value × Nat) => cs.setIfInBounds (off + x.2) x.1) ds
            have hget1 : ∀ j, ds1[j]? = if off ≤ j ∧ j < off + y.cells.size then y.cells[j - off]? else ds[j]? := by
              intro j
              have := foldl_set off y.cells.toList 0 ds j (by simp; omega)
              simpa using this
            have hv1 : VRs G cs1 ds1.toList := by
              refine ⟨?_, fun j a d e1 e2 => ?_⟩
              · have : ds1.size = ds.size := foldl_set_size off _ ds
                simp; omega
              · rw [Array.getElem?_toList, hget1] at e2
                rw [hget] at e1
                split at e1
                · rename_i hj
                  rw [if_pos (by omega)] at e2
                  exact hvn.2 _ a d e1 (by simpa using e2)
                · rename_i hj
                  rw [if_neg (by omega)] at e2
                  exact hv.2 _ a d e1 (by simpa using e2)
            have ho1 : ∀ d ∈ ds1.toList, one d = true := by
              intro d hd
              obtain ⟨j, hj, rfl⟩ := List.getElem_of_mem hd
              have e := hget1 j
              rw [← Array.getElem?_toList, List.getElem?_eq_getElem hj] at e
              split at e
              · exact hon _ (by simpa using Array.mem_of_getElem? e.symm)
              · exact h1 _ (by simpa using Array.mem_of_getElem? e.symm)
            obtain ⟨ds', e1, e2, e3⟩ := ih ys cs1 cs' ds1 hp' hv1 ho1 h
            refine ⟨ds', ?_, e2, e3⟩
            have hz : y.cells.zipIdx.foldl (fun cs x => cs.setIfInBounds (off + x.2) x.1) ds = ds1 := by
              rw [← Array.foldl_toList]; simp [ds1]
            simp only [Instr.fill, hpl]
            rw [if_neg (by simp [hsz]; omega)]
            have hz' : (Array.foldl (fun cs x => match x with | (c, j) => cs.setIfInBounds (off + j) c) ds y.cells.zipIdx) = ds1 := hz
            rw [hz']
            exact e1
        · simp at h
      · simp at h

theorem places_run (w : World) : ∀ (fs : List Field) (pl : List (Nat × Nat)), fieldPlaces P fs = some pl → (fs.mapM fun f => Prod.mk f.offset <$> Go.sizeOf f.type).run P w = .ok pl w := by
  intro fs
  induction fs with
  | nil => intro pl h; simp only [fieldPlaces, Option.some.injEq] at h; subst h; rfl
  | cons f fs ih =>
    intro pl h
    simp only [fieldPlaces] at h
    cases hi : P.info? f.type with
    | none => rw [hi] at h; simp at h
    | some i =>
      rw [hi] at h
      simp only [Option.bind_some] at h
      cases hr : fieldPlaces P fs with
      | none => rw [hr] at h; simp at h
      | some r =>
        rw [hr] at h
        simp only [Option.map_some, Option.some.injEq] at h; subst h
        simp [List.mapM_cons, r_size hi, ih r hr]

theorem build_sound (hW : WR G σ w) (t : TypeId) {xs : List (Nat × AVal)} {ys : Array (Nat × Value)} (hp : PartsR G xs ys.toList) : ValSound G P w (evBuild P σ t xs) (Instr.build t ys) := by
  unfold evBuild
  refine .bind fun zs hz => ?_
  obtain ⟨i, z, hi, hzz, hv, hone⟩ := zeroCells_sound (G := G) hz
  split
  · rename_i fs hu
    refine .bind fun pl hpl => .bind fun cs hcs => ?_
    obtain ⟨ds', e1, e2, _⟩ := fill_sound _ _ _ _ _ hp hv hone hcs
    refine .val1 hW (y := .agg ds') ?_ (by have := e2.agg; simpa using this)
    simp [Instr.build, r_zero hi hzz, r_underlying hu, Array.mapM_eq_mapM_toList, places_run w _ _ hpl, e1]
  · rename_i n e hu
    refine .bind fun inf hinf => .bind fun cs hcs => ?_
    obtain ⟨ds', e1, e2, _⟩ := fill_sound _ _ _ _ _ hp hv hone hcs
    refine .val1 hW (y := .agg ds') ?_ (by have := e2.agg; simpa using this)
    simp [Instr.build, r_zero hi hzz, r_underlying hu, r_size hinf, e1]
  · exact .none

theorem rep_length (zs : List AVal) : ∀ n, (rep zs n).length = n * zs.length := by
  intro n
  induction n with
  | zero => simp [rep]
  | succ n ih => simp [rep, ih, Nat.succ_mul, Nat.add_comm]
theorem rep_get (zs : List AVal) (_hz : 0 < zs.length) : ∀ n i, i < n * zs.length → (rep zs n)[i]? = zs[i % zs.length]? := by
  intro n
  induction n with
  | zero => intro i hi; omega
  | succ n ih =>
    intro i hi
    rw [Nat.succ_mul] at hi
    simp only [rep]
    by_cases h : i < zs.length
    · rw [List.getElem?_append_left h, Nat.mod_eq_of_lt h]
    · rw [List.getElem?_append_right (by omega), ih _ (by omega), ← Nat.mod_eq_sub_mod (by omega)]
theorem rep_sound {zs : List AVal} {z : Array Value} (h : VRs G zs z.toList) (hone : ∀ d ∈ z.toList, one d = true) (hz : 0 < zs.length) (n m : Nat) (hm : m = n * zs.length) :
    VRs G (rep zs n) ((Array.range m).map (z[· % z.size]!)).toList ∧ ∀ d ∈ ((Array.range m).map (z[· % z.size]!)).toList, one d = true := by
  have hl : zs.length = z.size := by have := h.1; simpa using this
  have key : ∀ i, i < m → ((Array.range m).map (z[· % z.size]!)).toList[i]? = z.toList[i % zs.length]? := by
    intro i hi
    have : i % z.size < z.size := Nat.mod_lt _ (by omega)
    simp [hi, hl, this]
  refine ⟨⟨by simp [rep_length, hm], fun i a d e1 e2 => ?_⟩, fun d hd => ?_⟩
  · have hi : i < m := by have := (List.getElem?_eq_some_iff.1 e1).1; rw [rep_length] at this; omega
    rw [key i hi] at e2
    rw [rep_get zs hz n i (by omega)] at e1
    exact h.2 _ a d e1 e2
  · obtain ⟨i, hi, rfl⟩ := List.getElem_of_mem hd
    have e := key i (by simpa using hi)
    rw [List.getElem?_eq_getElem hi] at e
    exact hone _ (List.mem_of_getElem? e.symm)

theorem buildSlice_sound (fn : FuncId) (hW : WR G σ w) (t : TypeId) (len : Nat) {xs : List (Nat × AVal)} {ys : Array (Nat × Value)} (hp : PartsR G xs ys.toList) :
    ValSound G P w (evBuildSlice P E fn σ t len xs) (Instr.buildSlice t len ys) := by
  unfold evBuildSlice
  split
  · rename_i e hu
    split
    · rename_i i zs hi hz
      split
      · rename_i hc
        obtain ⟨hs, hzl, hlim⟩ := hc
        refine .bind fun cs hcs => ?_
        obtain ⟨i', z, hi', hzz, hv, hone⟩ := zeroCells_sound (G := G) hz
        rw [hi] at hi'; cases hi'
        obtain ⟨hr, hro⟩ := rep_sound hv hone (by omega) len (len * i.size) (by rw [hzl])
        obtain ⟨ds', e1, e2, e3⟩ := fill_sound _ _ _ _ _ hp hr hro hcs
        have hrun : (Instr.buildSlice t len ys).run P w = .ok (.slice (some ⟨w.heap.size, 0, none⟩) len len) { w with heap := w.heap.push (.cells ds' e) } := by
          simp only [Instr.buildSlice, Sem.run_bind, r_underlying hu, Result.andThen_ok, r_size hi]
          rw [if_neg (by omega)]
          simp only [Sem.run_ite, Sem.run_bind, Sem.run_pure, r_zero hi hzz, Result.andThen_ok]
          by_cases h0 : len * i.size = 0
          · have hlen : len = 0 := by
              rcases Nat.mul_eq_zero.1 h0 with h | h
              · exact h
              · omega
            subst hlen
            simp only [h0, if_true]
            have e1' := e1
            simp only [Nat.zero_mul] at e1' ⊢
            rw [range0] at e1' ⊢
            simp [e1', newRow]
          · simp [h0, e1, newRow]
        have hlen : cs.length = len * i.size := by
          have h1 := (show cs.length = ds'.toList.length from e2.1)
          have : ∀ (xs : List (Nat × AVal)) (cs cs' : List AVal), fillA (fun j => some (j * i.size, i.size)) cs xs = some cs' → cs'.length = cs.length := by
            intro xs
            induction xs with
            | nil => intro cs cs' h; simp only [fillA, Option.some.injEq] at h; rw [h]
            | cons a xs ih =>
              intro cs cs' h
              obtain ⟨j, x⟩ := a
              simp only [fillA] at h
              split at h
              · split at h
                · rename_i off size new _ _ _
                  cases hpa : putAt cs off new with
                  | none => rw [hpa] at h; simp at h
                  | some c1 =>
                    rw [hpa] at h
                    simp only [Option.bind_some] at h
                    rw [ih _ _ h, (putAt_get hpa).1]
                · simp at h
              · simp at h
          rw [this _ _ _ hcs, rep_length, hzl]
        split
        · obtain ⟨G', le, h1, ho, hn, hb, _⟩ := hW.make [] ds'.toList [] e e (by simp) e2 e3
          simp only [List.nil_append, List.append_nil, Array.toArray_toList] at h1
          refine .val hrun le h1 (.arr _ _ _ _ _ _ _ hn (Nat.le_refl _) (by simp) (fun _ => by rw [ho]; rfl) ⟨e, _, by rw [ho]; exact hb, ?_, by simp⟩)
          have := e2.1
          rw [ho]; simp at this ⊢; omega
        · obtain ⟨G', le, h1, hl⟩ := hW.makeFixed ds'.toList e e3
          simp only [Array.toArray_toList] at h1
          refine .val hrun le h1 (.list _ _ _ _ _ _ (fun j => ds'.toList.getD j undef) rfl hlen (Nat.le_refl _) (fun j hj => ?_) (fun j x hx => ?_) rfl)
          · have hj' : j < ds'.toList.length := by rw [← e2.1]; exact hj
            rw [List.getD, List.getElem?_eq_getElem hj']
            have := hl j ds'.toList[j] (List.getElem?_eq_getElem hj')
            rw [Nat.zero_add]
            exact this
          · obtain ⟨d, q1, q2⟩ := e2.exists hx
            rw [List.getD, q1]
            exact q2.mono le
      · exact .none
    · exact .none
  · exact .none

end
end Go.Ev
