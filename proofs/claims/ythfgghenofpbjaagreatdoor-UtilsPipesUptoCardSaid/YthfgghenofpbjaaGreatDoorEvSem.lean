/- How the model's small operations run, under the relation; no condition. -/
import Derived.Test.YthfgghenofpbjaaGreatDoorEvMem
import Derived.Laws.Sem
namespace Go.Ev

theorem r_underlying {P : Program} {t : TypeId} {d : TypeDesc} (h : P.underlying t = some d) (w : World) : (underlying t).run P w = .ok d w := by
  simp [underlying, h]
theorem r_info {P : Program} {t : TypeId} {i : TypeInfo} (h : P.info? t = some i) (w : World) : (typeInfo t).run P w = .ok i w := by
  simp [typeInfo, h]
theorem r_size {P : Program} {t : TypeId} {i : TypeInfo} (h : P.info? t = some i) (w : World) : (sizeOf t).run P w = .ok i.size w := by
  simp [Go.sizeOf, r_info h]
theorem r_zero {P : Program} {t : TypeId} {i : TypeInfo} {z : Value} (h : P.info? t = some i) (hz : i.zero = some z) (w : World) : (zeroValue t).run P w = .ok z w := by
  simp [zeroValue, r_info h, hz]

theorem add_mk (b o n : Nat) : (⟨b, o, none⟩ : Addr).add n = ⟨b, o + n, none⟩ := by
  unfold Addr.add
  by_cases h : n = 0
  · subst h; rfl
  · rw [if_neg h]

/-- Cells in memory that read as a list. -/
def CellsR (G : Ghost) (w : World) (b o : Nat) (cs : List AVal) : Prop :=
  ∀ (i : Nat) x, cs[i]? = some x → ∃ d, w.cell? ⟨b, o + i, none⟩ = some d ∧ one d = true ∧ VR G x d

theorem CellsR.drop {G : Ghost} {w : World} {b o : Nat} {cs : List AVal} (h : CellsR G w b o cs) (n : Nat) : CellsR G w b (o + n) (cs.drop n) := by
  intro i x hx
  rw [List.getElem?_drop] at hx
  obtain ⟨d, h1, h2⟩ := h _ _ hx
  exact ⟨d, by rw [show o + n + i = o + (n + i) by omega]; exact h1, h2⟩
theorem CellsR.take {G : Ghost} {w : World} {b o : Nat} {cs : List AVal} (h : CellsR G w b o cs) (n : Nat) : CellsR G w b o (cs.take n) := by
  intro i x hx
  rw [List.getElem?_take] at hx
  split at hx
  · exact h i x hx
  · simp at hx
theorem CellsR.tail {G : Ghost} {w : World} {b o : Nat} {c : AVal} {cs : List AVal} (h : CellsR G w b o (c :: cs)) : CellsR G w b (o + 1) cs := by
  intro i x hx
  have := h (i + 1) x (by simpa using hx)
  rwa [show o + (i + 1) = o + 1 + i by omega] at this

theorem WR.lamCells {G : Ghost} {σ : ASt} {w : World} (h : WR G σ w) {b o : Nat} {cs : List AVal} {g : Nat → Value}
    (hl : ∀ i, i < cs.length → G.lam b (o + i) = some (g i)) (hv : ∀ (i : Nat) x, cs[i]? = some x → VR G x (g i)) : CellsR G w b o cs := by
  intro i x hx
  have := h.lam _ _ _ (hl i (List.getElem?_eq_some_iff.1 hx).1)
  exact ⟨g i, this.1, this.2, hv i x hx⟩
theorem WR.objCells {G : Ghost} {σ : ASt} {w : World} (h : WR G σ w) {id : Nat} {e : TypeId} {cs : List AVal} (hg : σ.get id = some (.cells e cs)) :
    CellsR G w (G.own id).1 (G.own id).2 cs := by
  obtain ⟨_, _, _, _, _, h4⟩ := h.obj _ _ hg
  exact h4

theorem loadFrom {G : Ghost} {P : Program} {w : World} {b o : Nat} : ∀ (cs : List AVal) (j : Nat) (acc : Array Value), CellsR G w b (o + j) cs →
    ∃ ds : List Value, ds.length = cs.length ∧ VRs G cs ds ∧ (∀ d ∈ ds, one d = true) ∧ (∀ (i : Nat) d, ds[i]? = some d → w.cell? ⟨b, o + j + i, none⟩ = some d) ∧
      (loadCellsFrom ⟨b, o, none⟩ j cs.length acc).run P w = .ok (acc ++ ds.toArray) w := by
  intro cs
  induction cs with
  | nil => intro j acc _; exact ⟨[], rfl, .nil G, by simp, by simp, by simp [loadCellsFrom]⟩
  | cons c cs ih =>
    intro j acc h
    obtain ⟨d, h1, h2, h3⟩ := h 0 c rfl
    obtain ⟨ds, e1, e2, e3, e4, e5⟩ := ih (j + 1) (acc.push d) (by have := h.tail; rwa [Nat.add_assoc] at this)
    refine ⟨d :: ds, by simp [e1], .cons h3 e2, by simpa [h2] using e3, ?_, ?_⟩
    · intro i x hx
      cases i with
      | zero => simp at hx; subst hx; exact h1
      | succ i => rw [show o + j + (i + 1) = o + (j + 1) + i by omega]; exact e4 i x (by simpa using hx)
    · simp only [loadCellsFrom, List.length_cons, Sem.run_bind, run_load, add_mk]
      simp only [Nat.add_zero] at h1
      rw [h1]
      simp only [Result.andThen_ok]
      rw [e5]; simp

theorem run_loads {G : Ghost} {P : Program} {w : World} {b o : Nat} {cs : List AVal} (h : CellsR G w b o cs) :
    ∃ ds : List Value, ds.length = cs.length ∧ VRs G cs ds ∧ (∀ d ∈ ds, one d = true) ∧ (∀ (i : Nat) d, ds[i]? = some d → w.cell? ⟨b, o + i, none⟩ = some d) ∧
      (loadCells ⟨b, o, none⟩ cs.length).run P w = .ok ds.toArray w := by
  obtain ⟨ds, h1, h2, h3, h4, h5⟩ := loadFrom (P := P) cs 0 #[] (by simpa using h)
  exact ⟨ds, h1, h2, h3, h4, by simpa [loadCells] using h5⟩

theorem VRs.agg {G : Ghost} {cs : List AVal} {ds : List Value} (h : VRs G cs ds) : VR G (.agg cs) (.agg ds.toArray) :=
  .agg cs ds.toArray (by simpa using h.1) fun i a d h1 h2 => h.2 i a d h1 (by simpa using h2)
theorem VRs.tuple {G : Ghost} {cs : List AVal} {ds : List Value} (h : VRs G cs ds) : VR G (.tuple cs) (.tuple ds.toArray) :=
  .tuple cs ds.toArray (by simpa using h.1) fun i a d h1 h2 => h.2 i a d h1 (by simpa using h2)

/-- A variable read. -/
theorem run_loadVar {G : Ghost} {P : Program} {w : World} {b o : Nat} {cs : List AVal} {t : TypeId} {x : AVal} (h : CellsR G w b o cs) (hx : takeVar P t cs = some x) :
    ∃ y, (loadVar t ⟨b, o, none⟩).run P w = .ok y w ∧ VR G x y := by
  have single : ∀ (d : TypeDesc), P.underlying t = some d → (match d with | .struct _ | .array _ _ => False | _ => True) → cs.head? = some x → ∃ y, (loadVar t ⟨b, o, none⟩).run P w = .ok y w ∧ VR G x y := by
    intro d hd hn hc
    cases cs with
    | nil => simp at hc
    | cons c cs =>
      simp at hc; subst hc
      obtain ⟨v, h1, _, h3⟩ := h 0 c rfl
      refine ⟨v, ?_, h3⟩
      simp only [Nat.add_zero] at h1
      have hag : (isAgg t).run P w = .ok false w := by
        simp only [isAgg, Sem.run_bind, r_underlying hd, Result.andThen_ok]
        cases d <;> first | rfl | (exact hn.elim)
      simp only [loadVar, Sem.run_bind, hag, Result.andThen_ok, Bool.false_eq_true, if_false, run_load, h1]
  have many : ∀ (d : TypeDesc) (i : TypeInfo), P.underlying t = some d → P.info? t = some i → (match d with | .struct _ | .array _ _ => True | _ => False) → i.size ≤ cs.length → x = .agg (cs.take i.size) →
      ∃ y, (loadVar t ⟨b, o, none⟩).run P w = .ok y w ∧ VR G x y := by
    intro d i hd hi hn hc hx
    obtain ⟨ds, e1, e2, _, _, e5⟩ := run_loads (P := P) (h.take i.size)
    rw [List.length_take, Nat.min_eq_left hc] at e5
    refine ⟨.agg ds.toArray, ?_, by rw [hx]; exact e2.agg⟩
    have hag : (isAgg t).run P w = .ok true w := by
      simp only [isAgg, Sem.run_bind, r_underlying hd, Result.andThen_ok]
      cases d <;> first | rfl | (exact hn.elim)
    simp only [loadVar, Sem.run_bind, hag, Result.andThen_ok, if_true, r_size hi, e5]
    rfl
  unfold takeVar at hx
  split at hx
  · rename_i i h1 h2
    split at hx
    · rename_i hc; exact many _ i h1 h2 trivial hc (by simpa using hx.symm)
    · simp at hx
  · rename_i i h1 h2
    split at hx
    · rename_i hc; exact many _ i h1 h2 trivial hc (by simpa using hx.symm)
    · simp at hx
  · rename_i d i hs ha h1 h2
    refine single d h1 ?_ hx
    cases d <;> first | trivial | skip
    · exact (ha _ _ rfl).elim
    · exact (hs _ rfl).elim
  · simp at hx

/-- Memory behind stores into one block. -/
structure Stored (w w' : World) (b o : Nat) (vs : List Value) : Prop where
  other : ∀ k, k ≠ b → w'.heap[k]? = w.heap[k]?
  size : w'.heap.size = w.heap.size
  os : w'.os = w.os
  tape : w'.tape = w.tape
  output : w'.output = w.output
  shape : w'.shape? b = w.shape? b
  frozen : ∀ j, w'.frozen? ⟨b, j, none⟩ = w.frozen? ⟨b, j, none⟩
  at_ : ∀ (i : Nat) v, vs[i]? = some v → w'.cell? ⟨b, o + i, none⟩ = some v
  off : ∀ j, j < o ∨ o + vs.length ≤ j → w'.cell? ⟨b, j, none⟩ = w.cell? ⟨b, j, none⟩

theorem setCell_other (w : World) (b o : Nat) (v : Value) {k : Nat} (h : k ≠ b) : (w.setCell ⟨b, o, none⟩ v).heap[k]? = w.heap[k]? := by
  simp only [World.setCell, Array.getElem?_modify]
  rw [if_neg (fun e => h e.symm)]
theorem setCell_self (w : World) (b o : Nat) (v : Value) {c : Array Value} {e : TypeId} {fr : Nat × Nat} (h : w.heap[b]? = some (.cells c e fr)) :
    (w.setCell ⟨b, o, none⟩ v).heap[b]? = some (.cells (c.setIfInBounds o v) e fr) := by
  simp only [World.setCell, Array.getElem?_modify, if_pos, h]
  simp

theorem run_stores {P : Program} {b o : Nat} : ∀ (vs : List Value) (j : Nat) (w : World), (∀ v ∈ vs, one v = true) →
    (∀ i, i < vs.length → (w.cell? ⟨b, o + j + i, none⟩).isSome = true ∧ w.frozen? ⟨b, o + j + i, none⟩ = false) →
    ∃ w', (storeCells ⟨b, o, none⟩ vs j).run P w = .ok () w' ∧ Stored w w' b (o + j) vs := by
  intro vs
  induction vs with
  | nil => intro j w _ _; exact ⟨w, rfl, ⟨fun _ _ => rfl, rfl, rfl, rfl, rfl, rfl, fun _ => rfl, by simp, fun _ _ => rfl⟩⟩
  | cons v vs ih =>
    intro j w hone hc
    obtain ⟨h1, h2⟩ := hc 0 (by simp)
    simp only [Nat.add_zero] at h1 h2
    obtain ⟨u, hu⟩ := Option.isSome_iff_exists.1 h1
    obtain ⟨c, e, fr, hb, hco⟩ := block_of_cell hu
    have hself := setCell_self w b (o + j) v hb
    have hlt : o + j < c.size := (Array.getElem?_eq_some_iff.1 hco).1
    have hcell : ∀ k, (w.setCell ⟨b, o + j, none⟩ v).cell? ⟨b, k, none⟩ = if k = o + j then some v else w.cell? ⟨b, k, none⟩ := by
      intro k
      simp only [World.cell?, hself, hb]
      by_cases hk : k = o + j
      · subst hk; simp [hlt]
      · simp [hk, Ne.symm hk]
    have hfr : ∀ k, (w.setCell ⟨b, o + j, none⟩ v).frozen? ⟨b, k, none⟩ = w.frozen? ⟨b, k, none⟩ := by
      intro k; simp only [World.frozen?, hself, hb]
    have hsh : (w.setCell ⟨b, o + j, none⟩ v).shape? b = w.shape? b := by simp [World.shape?, hself, hb]
    obtain ⟨w', hrun, hs⟩ := ih (j + 1) (w.setCell ⟨b, o + j, none⟩ v) (fun x hx => hone x (by simp [hx])) (fun i hi => by
      have := hc (i + 1) (by simp; omega)
      rw [show o + j + (i + 1) = o + (j + 1) + i by omega] at this
      rw [hcell, hfr, if_neg (by omega)]
      exact this)
    refine ⟨w', ?_, ?_⟩
    · simp only [storeCells, Sem.run_bind, add_mk]
      rw [run_store P w _ v _ (by have := hone v (by simp); cases v <;> simp_all [one, Value.oneCell']), hu]
      simp only [h2, Bool.false_eq_true, if_false, Result.andThen_ok]
      exact hrun
    · exact { other := fun k hk => (hs.other k hk).trans (setCell_other w b _ v hk)
              size := hs.size.trans (by simp [World.setCell]), os := hs.os, tape := hs.tape, output := hs.output
              shape := hs.shape.trans hsh, frozen := fun k => (hs.frozen k).trans (hfr k)
              at_ := fun i x hx => by
                cases i with
                | zero =>
                  simp at hx; subst hx
                  rw [hs.off _ (by omega), hcell, if_pos (by omega)]
                | succ i =>
                  have := hs.at_ i x (by simpa using hx)
                  rwa [show o + (j + 1) + i = o + j + (i + 1) by omega] at this
              off := fun k hk => by
                simp only [List.length_cons] at hk
                rw [hs.off k (by omega), hcell, if_neg (by omega)] }

end Go.Ev
