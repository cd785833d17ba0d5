/- Each operation of the evaluator is the model's; no condition. -/
import Derived.Test.YthfgghenofpbjaaGreatDoorEvSem
namespace Go.Ev

/-- A deferred call. -/
def DefR (G : Ghost) (d : ADefer) (c : Deferred) : Prop :=
  ∃ cap : Array Value, c.target = .fn d.fn cap ∧ (∀ l, d.fn ≠ .yield l) ∧ VRs G d.captured cap.toList ∧ VRs G d.args c.args.toList

/-- What the model's operation comes to, where the evaluator says 'n'. -/
def OpSound (P : Program) (G : Ghost) (σ' : ASt) (w : World) (n : ANext) (res : Result Next) : Prop :=
  match n with
  | .val x => ∃ w' G' y, (res = .ok (.value y) w' ∨ (res = .ok .skip w' ∧ y = undef)) ∧ G.Le G' ∧ WR G' σ' w' ∧ VR G' x y
  | .enter f args => ∃ cargs : Array Value, res = .ok (.enter f cargs) w ∧ WR G σ' w ∧ VRs G args cargs.toList
  | .round l args => ∃ cargs : Array Value, res = (Instr.yield (G.own l).1 cargs).run P w ∧ l < G.nxt ∧ WR G σ' w ∧ VRs G args cargs.toList
  | .defer d => ∃ cd, res = .ok (.defer cd) w ∧ WR G σ' w ∧ DefR G d cd
  | .panic x => ∃ w' y, res = .halt (.panic y) w' ∧ WR G σ' w' ∧ VR G x y
  | .recover => res = .ok .recover w ∧ WR G σ' w

/-- The value of an operation that leaves memory alone. -/
theorem OpSound.same {P : Program} {G : Ghost} {σ : ASt} {w : World} {x : AVal} {y : Value} (hW : WR G σ w) (h : VR G x y) : OpSound P G σ w (.val x) (.ok (.value y) w) :=
  ⟨w, G, y, .inl rfl, .refl G, hW, h⟩

/-- A sound value. -/
def ValSound (G : Ghost) (P : Program) (w : World) (r : ORes) (s : Sem Value) : Prop :=
  ∀ n σ', r = some (n, σ') → OpSound P G σ' w n ((do let x ← s; pure (Next.value x) : Sem Next).run P w)

theorem ValSound.val1 {G : Ghost} {P : Program} {w : World} {σ : ASt} {x : AVal} {s : Sem Value} {y : Value} (hW : WR G σ w) (hs : s.run P w = .ok y w) (h : VR G x y) :
    ValSound G P w (val1 σ x) s := by
  intro n σ' e
  simp only [Ev.val1, Option.some.injEq, Prod.mk.injEq] at e
  obtain ⟨rfl, rfl⟩ := e
  simp only [Sem.run_bind, hs, Result.andThen_ok, Sem.run_pure]
  exact .same hW h
theorem ValSound.none {G : Ghost} {P : Program} {w : World} {s : Sem Value} : ValSound G P w none s := by
  intro n σ' e; simp at e
theorem ValSound.bind {G : Ghost} {P : Program} {w : World} {α : Type} {o : Option α} {f : α → ORes} {s : Sem Value} (h : ∀ a, o = some a → ValSound G P w (f a) s) :
    ValSound G P w (o.bind f) s := by
  cases o with
  | none => exact .none
  | some a => exact h a rfl
theorem ValSound.val {G G' : Ghost} {P : Program} {w w' : World} {σ' : ASt} {x : AVal} {s : Sem Value} {y : Value} (hs : s.run P w = .ok y w') (le : G.Le G') (hW : WR G' σ' w') (h : VR G' x y) :
    ValSound G P w (some (.val x, σ')) s := by
  intro n σ'' e
  simp only [Option.some.injEq, Prod.mk.injEq] at e
  obtain ⟨rfl, rfl⟩ := e
  simp only [Sem.run_bind, hs, Result.andThen_ok, Sem.run_pure]
  exact ⟨w', G', y, .inl rfl, le, hW, h⟩
theorem ValSound.panic {G : Ghost} {P : Program} {w w' : World} {σ' : ASt} {x : AVal} {s : Sem Value} {y : Value} (hs : s.run P w = .halt (.panic y) w') (hW : WR G σ' w') (h : VR G x y) :
    ValSound G P w (some (.panic x, σ')) s := by
  intro n σ'' e
  simp only [Option.some.injEq, Prod.mk.injEq] at e
  obtain ⟨rfl, rfl⟩ := e
  simp only [Sem.run_bind, hs, Result.andThen_halt]
  exact ⟨w', y, rfl, hW, h⟩

section
variable {P : Program} {E : Env} {G : Ghost} {σ : ASt} {w : World}

theorem load_sound (hW : WR G σ w) (t : TypeId) {p : AVal} {a : Value} (ha : VR G p a) : ValSound G P w (evLoad P σ t p) (Instr.loadAt t a) := by
  unfold evLoad
  split
  · rename_i cs
    cases ha with
    | iref cs a g h1 h2 h3 =>
      refine .bind fun x hx => ?_
      obtain ⟨b, o, sp⟩ := a
      simp only at h1; subst h1
      obtain ⟨y, e1, e2⟩ := run_loadVar (P := P) (hW.lamCells h2 h3) hx
      exact .val1 hW (by simpa [Instr.loadAt, Instr.sureAddr] using e1) e2
  · rename_i id off
    cases ha with
    | ref _ _ a h1 h2 =>
      subst h2
      split
      · rename_i e cs hg
        refine .bind fun x hx => ?_
        obtain ⟨y, e1, e2⟩ := run_loadVar (P := P) ((hW.objCells hg).drop off) hx
        exact .val1 hW (by simpa [Instr.loadAt, Instr.sureAddr] using e1) e2
      · exact .none
  · exact .none

theorem ones {cs : List AVal} {ds : List Value} (h : VRs G cs ds) (h1 : cs.all AVal.one = true) : ∀ d ∈ ds, one d = true := by
  intro d hd
  obtain ⟨i, hi, rfl⟩ := List.getElem_of_mem hd
  have hi' : i < cs.length := by rw [h.1]; exact hi
  exact one_of_cell (h.2 i cs[i] ds[i] (by simp [hi']) (by simp [hi])) (by rw [List.all_eq_true] at h1; exact h1 _ (List.getElem_mem hi'))

/-- The cells that a value fills. -/
theorem cells_sound {x : AVal} {y : Value} {cs : List AVal} (h : VR G x y) (hc : x.cells? = some cs) : VRs G cs y.cells.toList ∧ ∀ d ∈ y.cells.toList, one d = true := by
  have single : x.one = true → cs = [x] → (∀ zs, y ≠ .agg zs) → VRs G cs y.cells.toList ∧ ∀ d ∈ y.cells.toList, one d = true := by
    intro h1 h2 h3
    have : y.cells = #[y] := by cases y <;> first | rfl | exact absurd rfl (h3 _)
    rw [this, h2]
    exact ⟨.cons h (.nil G), by simpa using one_of_cell h h1⟩
  unfold AVal.cells? at hc
  split at hc
  · rename_i l
    split at hc
    · rename_i ho
      simp only [Option.some.injEq] at hc; subst hc
      cases h with
      | agg _ ds h1 h2 =>
        have hr : VRs G l ds.toList := ⟨by simpa using h1, fun i a d e1 e2 => h2 i a d e1 (by simpa using e2)⟩
        exact ⟨hr, ones hr ho⟩
    · simp at hc
  · split at hc
    · rename_i hn h1
      simp only [Option.some.injEq] at hc
      refine single h1 hc.symm ?_
      rintro zs rfl
      have := one_of_cell h h1
      simp [one] at this
    · simp at hc

theorem putAt_get {cs new cs' : List AVal} {off : Nat} (h : putAt cs off new = some cs') : cs'.length = cs.length ∧ off + new.length ≤ cs.length ∧
    ∀ i, cs'[i]? = if off ≤ i ∧ i < off + new.length then new[i - off]? else cs[i]? := by
  unfold putAt at h
  split at h
  · rename_i hl
    simp only [Option.some.injEq] at h; subst h
    refine ⟨by simp; omega, hl, fun i => ?_⟩
    by_cases h1 : i < off
    · rw [if_neg (by omega), List.getElem?_append_left (by simp; omega), List.getElem?_take, if_pos h1]
    · rw [List.getElem?_append_right (by simp; omega)]
      have hm : min off cs.length = off := by omega
      simp only [List.length_take, hm]
      by_cases h2 : i < off + new.length
      · rw [if_pos ⟨by omega, h2⟩, List.getElem?_append_left (by omega)]
      · rw [if_neg (by omega), List.getElem?_append_right (by omega), List.getElem?_drop]
        congr 1; omega
  · simp at h

theorem Stored.cellsR {w' : World} {b o : Nat} {cs new cs' : List AVal} {vs : List Value} {off : Nat} (hs : Stored w w' b (o + off) vs) (hc : CellsR G w b o cs) (hv : VRs G new vs)
    (hone : ∀ v ∈ vs, one v = true) (hp : putAt cs off new = some cs') : CellsR G w' b o cs' := by
  obtain ⟨_, _, hget⟩ := putAt_get hp
  intro i x hx
  rw [hget] at hx
  split at hx
  · rename_i hi
    obtain ⟨d, e1, e2⟩ := hv.exists hx
    have := hs.at_ _ _ e1
    rw [show o + off + (i - off) = o + i by omega] at this
    exact ⟨d, this, hone d (List.mem_of_getElem? e1), e2⟩
  · rename_i hi
    obtain ⟨d, e1, e2⟩ := hc i x hx
    exact ⟨d, by rw [hs.off _ (by rw [← hv.1]; omega)]; exact e1, e2⟩

/-- Stores into an object: it holds other cells. -/
theorem WR.stored {w' : World} (hW : WR G σ w) {id : Nat} {e : TypeId} {cs cs' new : List AVal} {off : Nat} {vs : List Value} (hg : σ.get id = some (.cells e cs))
    (hs : Stored w w' (G.own id).1 ((G.own id).2 + off) vs) (hv : VRs G new vs) (hone : ∀ v ∈ vs, one v = true) (hp : putAt cs off new = some cs') : WR G (σ.set id (.cells e cs')) w' := by
  have hob := hW.obj _ _ hg
  obtain ⟨t, N, h1, h2, h3, h4⟩ := hob
  obtain ⟨hl, _, _⟩ := putAt_get hp
  refine hW.reset hg ((hW.kill hg).touch (hW.killed hg) (hW.base _ _ hg) hs.other hs.size hs.os hs.tape hs.output hs.shape ?_) (by rw [hs.size]; exact Nat.le_refl _) ?_
  · intro o x hx
    refine hs.off o (.inl ?_)
    rcases Nat.lt_or_ge o ((G.own id).2) with hlt | hge
    · omega
    · rw [hW.free _ _ hg o hge] at hx; simp at hx
  · exact ⟨t, N, h1, by rw [hl]; exact h2, fun o ho hN => by rw [hs.frozen]; exact h3 o ho hN, hs.cellsR h4 hv hone hp⟩

/-- The places of an object may be written. -/
theorem WR.writable (hW : WR G σ w) {id : Nat} {e : TypeId} {cs : List AVal} (hg : σ.get id = some (.cells e cs)) {j : Nat} {t : TypeId} {N : Nat} (hb : G.bsz (G.own id).1 = some (t, N))
    (hj : (G.own id).2 ≤ j) (hN : j < N) : (w.cell? ⟨(G.own id).1, j, none⟩).isSome = true ∧ w.frozen? ⟨(G.own id).1, j, none⟩ = false := by
  obtain ⟨t', N', h1, h2, h3, h4⟩ := hW.obj _ _ hg
  rw [hb] at h1; cases h1
  refine ⟨?_, h3 j hj hN⟩
  have := hW.bsz _ _ _ hb
  simp only [World.shape?] at this
  simp only [World.cell?]
  split at this
  · rename_i c e' fr hh
    simp only [Option.some.injEq, Prod.mk.injEq] at this
    simp [this.2, hN]
  · simp at this

theorem store_sound (hW : WR G σ w) (t : TypeId) {p x : AVal} {a y : Value} (ha : VR G p a) (hx : VR G x y) :
    ∀ n σ', evStore P σ t p x = some (n, σ') → OpSound P G σ' w n ((do Instr.storeAt t a y; pure Next.skip : Sem Next).run P w) := by
  intro n σ' h
  unfold evStore at h
  split at h
  · rename_i id off new inf hc hi
    split at h
    · rename_i hn
      split at h
      · rename_i e cs hg
        cases hp : putAt cs off new with
        | none => rw [hp] at h; simp at h
        | some cs' =>
          rw [hp] at h
          simp only [Option.bind_some, Option.some.injEq, Prod.mk.injEq] at h
          obtain ⟨rfl, rfl⟩ := h
          cases ha with
          | ref _ _ a h1 h2 =>
            subst h2
            obtain ⟨hv, hone⟩ := cells_sound hx hc
            obtain ⟨hl, hle, _⟩ := putAt_get hp
            have hob := hW.obj _ _ hg
            obtain ⟨t', N, hb, h2, _, _⟩ := hob
            obtain ⟨w', hrun, hs⟩ := run_stores (P := P) (b := (G.own id).1) (o := (G.own id).2 + off) y.cells.toList 0 w hone (fun i hi => hW.writable hg hb (by omega) (by
              rw [← hv.1] at hi; omega))
            have hsize : y.cells.size = inf.size := by rw [← hn, hv.1]; simp
            refine ⟨w', G, undef, .inr ⟨?_, rfl⟩, .refl G, hW.stored hg (by simpa using hs) hv hone hp, .junk _⟩
            simp only [Sem.run_bind, Instr.storeAt, Instr.sureAddr, storeVar, Sem.run_pure, Result.andThen_ok, r_size hi, hsize, ne_eq, not_true_eq_false, if_false, hrun]
      · simp at h
    · simp at h
  · simp at h

end
end Go.Ev
