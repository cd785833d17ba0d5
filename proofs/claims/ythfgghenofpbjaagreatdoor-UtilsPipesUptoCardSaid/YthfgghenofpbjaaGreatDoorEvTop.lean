/- From the evaluator's word to a call in any world; what a law's statement asks of the world behind; no condition. -/
import Derived.Test.YthfgghenofpbjaaGreatDoorEvCtl4
import Derived.ChangeSame
namespace Go.Ev

/-- A world ahead of a call: every cell in it is one that the call never writes. -/
def Ghost.start (W : World) (s : Nat → Value) : Ghost :=
  { lam := fun b o => match W.cell? ⟨b, o, none⟩ with | some x => if one x then some x else none | none => none
    own := fun _ => (0, 0), bsz := fun _ => none, nxt := 0, base := W.heap.size, w0 := W, sym := s }

theorem Ghost.start_lam {W : World} {s : Nat → Value} {b o : Nat} {x : Value} (h : W.cell? ⟨b, o, none⟩ = some x) (h1 : one x = true) : (Ghost.start W s).lam b o = some x := by
  simp [Ghost.start, h, h1]

theorem WR.start (W : World) (s : Nat → Value) : WR (Ghost.start W s) ⟨0, []⟩ W := by
  have hno : ∀ id ob, (⟨0, []⟩ : ASt).get id = some ob → False := by intro id ob h; rw [get_start] at h; cases h
  refine { nxt := rfl, lam := fun b o x h => ?_, bsz := fun b e N h => by simp [Ghost.start] at h, obj := fun id ob h => (hno id ob h).elim, lt := fun id ob h => (hno id ob h).elim,
           here := fun id ob h => (hno id ob h).elim, sep := fun id ob id' ob' h => (hno id ob h).elim, free := fun id ob h => (hno id ob h).elim, base := fun id ob h => (hno id ob h).elim,
           os := rfl, tape := rfl, output := rfl, size := Nat.le_refl _, bs := Nat.le_refl _, block := fun _ _ => rfl, fresh := fun b hb => ⟨rfl, fun o => ?_⟩ }
  · simp only [Ghost.start] at h
    split at h
    · rename_i y hy
      split at h
      · rename_i h1; simp only [Option.some.injEq] at h; subst h; exact ⟨hy, h1⟩
      · simp at h
    · simp at h
  · have hb' : W.heap.size ≤ b := hb
    have : W.cell? ⟨b, o, none⟩ = none := by
      simp only [World.cell?]
      rw [Array.getElem?_eq_none hb']
    simp [Ghost.start, this]

/-- What was there is as it was. -/
structure Kept (W w : World) : Prop where
  os : w.os = W.os
  tape : w.tape = W.tape
  output : w.output = W.output
  size : W.heap.size ≤ w.heap.size
  block : ∀ k, k < W.heap.size → w.heap[k]? = W.heap[k]?

theorem Kept.keptBut {W w : World} (h : Kept W w) (may : MemPlace → Prop) : W.keptBut w may := by
  refine ⟨h.os, h.output, fun i hi => ?_⟩
  rw [h.block i hi]
  split
  · rename_i c t fr c' t' fr' h1 h2
    rw [h1] at h2; cases h2
    exact ⟨rfl, rfl, rfl, fun _ _ => rfl⟩
  · rename_i es c es' c' h1 h2
    rw [h1] at h2; cases h2
    exact .inr ⟨rfl, rfl⟩
  · rfl
theorem Kept.frozen {W w : World} (h : Kept W w) (a : Addr) (ha : a.block < W.heap.size) : w.frozen? a = W.frozen? a := by
  simp only [World.frozen?, h.block _ ha]
theorem Kept.cell {W w : World} (h : Kept W w) (b o : Nat) (ha : b < W.heap.size) : w.cell? ⟨b, o, none⟩ = W.cell? ⟨b, o, none⟩ := by
  simp only [World.cell?, h.block _ ha]

theorem WR.kept {G : Ghost} {σ : ASt} {w w' : World} (h : WR G σ w) (k : Kept w w') : WR G σ w' := by
  have lt_of : ∀ (k : Nat) (x : Obj), w.heap[k]? = some x → k < w.heap.size := fun k x e => (Array.getElem?_eq_some_iff.1 e).1
  exact {
    nxt := h.nxt
    lam := fun b o x e => by
      obtain ⟨c, t, fr, h1, _⟩ := block_of_cell (h.lam b o x e).1
      rw [k.cell b o (lt_of _ _ h1)]; exact h.lam b o x e
    bsz := fun b e N q => by
      have : b < w.heap.size := by
        rcases Nat.lt_or_ge b w.heap.size with h1 | h1
        · exact h1
        · rw [(h.fresh b h1).1] at q; simp at q
      rw [shape_of_block (k.block b this)]; exact h.bsz b e N q
    obj := fun id ob e => (h.obj id ob e).of_block (.refl G) (by rw [h.nxt]; exact h.lt id ob e) (k.block _ (h.here id ob e))
    lt := h.lt
    here := fun id ob e => Nat.lt_of_lt_of_le (h.here id ob e) k.size
    sep := h.sep, free := h.free, base := h.base, os := k.os.trans h.os, tape := k.tape.trans h.tape, output := k.output.trans h.output
    size := Nat.le_trans h.size k.size
    bs := Nat.le_trans h.bs k.size
    block := fun j hj => (k.block j (Nat.lt_of_lt_of_le hj h.bs)).trans (h.block j hj)
    fresh := fun b q => h.fresh b (Nat.le_trans k.size q) }

/-- Tables of plain numbers. -/
def Env.Flat (E : Env) : Prop := ∀ g cs, E.glob g = some cs → ∀ x ∈ cs, ∃ v, x = .v v
theorem GlobR.start {G : Ghost} {E : Env} {σ : ASt} {w : World} (hG : GlobR G E) (hE : E.Flat) (hW : WR G σ w) : GlobR (Ghost.start w E.sym) E := by
  refine ⟨fun g cs h => ?_, rfl⟩
  have := hG.glob g cs h
  cases this with
  | iref _ _ gf h1 h2 h3 =>
    refine .iref cs _ gf h1 (fun i hi => ?_) (fun i x hx => ?_)
    · obtain ⟨q1, q2⟩ := hW.lam _ _ _ (h2 i hi)
      exact Ghost.start_lam q1 q2
    · obtain ⟨v, rfl⟩ := hE g cs h x (List.mem_of_getElem? hx)
      have := h3 i _ hx
      cases this; exact .v _

section
variable {P : Program} {E : Env} {X : FuncId → Option (List AVal → ASt → Option (AEnd × ASt))}

theorem given_none : GivenSound P E (fun _ => none) := by intro f g h; simp at h

theorem calls_of_ev (hX : GivenSound P E X) (hm : P.follows .mixedOrders = true) {n : Nat} {f : FuncId} {args : List AVal} {x : AVal} {σ : ASt}
    (h : (ev P E X n).fn f args ⟨0, []⟩ none = some (.ret x, σ, none)) {W : World} {cargs : Array Value} (hG : GlobR (Ghost.start W E.sym) E) (ha : VRs (Ghost.start W E.sym) args cargs.toList) :
    Calls P f cargs W fun e w' => ∃ G' v, e = .returned v ∧ (Ghost.start W E.sym).Le G' ∧ VR G' x v ∧ Kept W w' := by
  have := (ev_sound hX hm n).1 f args ⟨0, []⟩ none _ h (Ghost.start W E.sym) W cargs (WR.start W E.sym) hG ha
  simp only at this
  refine this.mono fun e w' hh => ?_
  obtain ⟨G', le, hW, hE⟩ := hh
  cases e with
  | returned v =>
    refine ⟨G', v, rfl, le, hE, hW.os.trans (by rw [le.w0]; rfl), hW.tape.trans (by rw [le.w0]; rfl), hW.output.trans (by rw [le.w0]; rfl), ?_, fun k hk => ?_⟩
    · have := hW.size; rw [le.w0] at this; exact this
    · have := hW.block k (by rw [le.base]; exact hk); rw [le.w0] at this; exact this
  | _ => exact hE.elim

/-- A call without arguments that says one plain value, as a given summary: nothing that is held parts. -/
def said (f : FuncId) (x : Value) (X : FuncId → Option (List AVal → ASt → Option (AEnd × ASt))) : FuncId → Option (List AVal → ASt → Option (AEnd × ASt)) := fun k =>
  if k = f then some (fun as σ => match as with | [] => some (.ret (.v x), σ) | _ => none) else X k
theorem given_said (hX : GivenSound P E X) (hm : P.follows .mixedOrders = true) (hE : E.Flat) {n : Nat} {f : FuncId} {x : Value} {σ : ASt}
    (h : (ev P E X n).fn f [] ⟨0, []⟩ none = some (.ret (.v x), σ, none)) : GivenSound P E (said f x X) := by
  intro k g hk args σ₁ r hr G w cargs hW hG ha
  unfold said at hk
  split at hk
  · rename_i hkf
    subst hkf
    simp only [Option.some.injEq] at hk
    subst hk
    cases args with
    | cons a as => simp at hr
    | nil =>
      simp only [Option.some.injEq] at hr
      subst hr
      refine (calls_of_ev hX hm h (hG.start hE hW) (cargs := cargs) ⟨ha.1, fun i a d q => by simp at q⟩).mono fun e w' hh => ?_
      obtain ⟨G', v, rfl, _, hv, hk⟩ := hh
      refine ⟨G, .refl G, hW.kept hk, ?_⟩
      cases hv
      exact .v _
  · exact hX k g hk args σ₁ r hr G w cargs hW hG ha
end

section
open Go.ChangeShapes Go.WideShapes
variable {H : Type} {enc : TypeId × Value → H} {P : Program}

/-- The statement's word on the world behind, where all that was there is as it was. -/
theorem post_of_kept {f : Func} {s : ChangeSpec} {apart fresh handsOn again : Bool} {W W' : World} {args : Array Value} {v : Value} {ds gs : List (DataW H)} {before pa pv : List MemPlace}
    (hW : DataW.Whole enc P f.params.toList s.vars apart W args.toList ds gs before)
    (hres : ∀ (b : Nat) (sp : Nat → Bool) (hd : Bool), DataW.TrodAll enc P W' b sp hd f.resultTypes.toList (v.resultList f.resultTypes.size) (s.fn H (ds ++ gs)).results [])
    (hargs : ∀ sp : Nat → Bool, (∀ p ∈ before, sp p.block = true) → DataW.TrodAll enc P W' 0 sp true f.params.toList args.toList (s.fn H (ds ++ gs)).args pa)
    (hvars : ∀ sp : Nat → Bool, (∀ p ∈ before, sp p.block = true) → DataW.TrodVars enc P W' sp s.vars (s.fn H (ds ++ gs)).vars pv)
    (hps : before = pa ++ pv) (hk : Kept W W')
    (hok : ∀ (j : Nat) (t : TypeId) (r : Value), f.resultTypes[j]? = some t → (v.resultList f.resultTypes.size)[j]? = some r → Value.okWide P W' .any 0 t r) :
    s.post enc P f apart fresh handsOn again W args v W' := by
  have hold : ∀ p ∈ before, (fun b => decide (b < W.heap.size)) p.block = true := fun p hp => by simpa using hW.lt p hp
  have hlt := hW.lt
  refine ⟨ds, gs, before, [], pa, pv, hW, hres _ _ _, hargs _ hold, hvars _ hold, World.keptBut_mono (fun p hp => ⟨hp, ?_⟩) (hk.keptBut (· ∈ before)), fun _ => ?_⟩
  · rw [hps, List.mem_append] at hp
    exact Or.inr hp
  · obtain ⟨_, _, _, _, _, hz, hn⟩ := hW
    refine ⟨hok, _, _, ([] ++ pa) ++ pv, ⟨[] ++ pa, pv, trodAll_append (hargs _ (fun _ _ => rfl)) (hres _ _ _), hvars _ (fun _ _ => rfl), rfl, ?_, ?_⟩, ?_⟩
    · intro b off hp
      have hb : MemPlace.cell b off ∈ before := by rw [hps]; simpa using hp
      rw [hk.frozen _ (hlt _ hb)]
      exact hz b off hb
    · intro ha
      have := hn ha
      rw [hps] at this
      simpa using this
    · intro p hp _
      rw [hps]
      simpa using hp
end
end Go.Ev
