/- Calls that say a value that leads to nothing written: as given summaries; no condition. -/
import Derived.Test.YthfgghenofpbjaaGreatDoorEvTop
namespace Go.Ev

/- Does a value lead to nothing that may be written? -/
mutual
def still : AVal → Bool
  | .junk | .v _ | .sym _ => true
  | .agg cs | .tuple cs | .iref cs => stillL cs
  | .list _ _ cs .no | .list _ _ cs .full => stillL cs
  | .func _ a b => stillL a && stillL b
  | .iface _ x => still x
  | _ => false
def stillL : List AVal → Bool
  | [] => true
  | x :: r => still x && stillL r
end
theorem stillL_get : ∀ {cs : List AVal} (_ : stillL cs = true) {i : Nat} {x : AVal} (_ : cs[i]? = some x), still x = true
  | [], _, i, x, h => by simp at h
  | y :: r, hs, 0, x, h => by
    simp only [stillL, Bool.and_eq_true] at hs
    simp at h; subst h; exact hs.1
  | y :: r, hs, i + 1, x, h => by
    simp only [stillL, Bool.and_eq_true] at hs
    exact stillL_get hs.2 (by simpa using h)

theorem VR.still {G G' : Ghost} (hy : G'.sym = G.sym) (hl : ∀ b o x, G.lam b o = some x → G'.lam b o = some x) {x : AVal} {y : Value} (r : VR G x y) : still x = true → VR G' x y := by
  induction r with
  | junk x => exact fun _ => .junk x
  | v x => exact fun _ => .v x
  | agg cs ds h _ ih => exact fun hs => .agg cs ds h fun i a d h1 h2 => ih i a d h1 h2 (stillL_get (by simpa [Ev.still] using hs) h1)
  | tuple cs ds h _ ih => exact fun hs => .tuple cs ds h fun i a d h1 h2 => ih i a d h1 h2 (stillL_get (by simpa [Ev.still] using hs) h1)
  | list k n cs tok a cap g h1 h2 h3 h4 _ h6 ih =>
    intro hs
    cases tok with
    | live id => simp [Ev.still] at hs
    | no => exact .list k n cs .no a cap g h1 h2 h3 (fun i hi => hl _ _ _ (h4 i hi)) (fun i x hx => ih i x hx (stillL_get (by simpa [Ev.still] using hs) hx)) trivial
    | full => exact .list k n cs .full a cap g h1 h2 h3 (fun i hi => hl _ _ _ (h4 i hi)) (fun i x hx => ih i x hx (stillL_get (by simpa [Ev.still] using hs) hx)) h6
  | arr k id off n cap a c h1 h3 h4 h2 h5 => intro hs; simp [Ev.still] at hs
  | ref id off a h1 h2 => intro hs; simp [Ev.still] at hs
  | iref cs a g h1 h2 _ ih => exact fun hs => .iref cs a g h1 (fun i hi => hl _ _ _ (h2 i hi)) fun i x hx => ih i x hx (stillL_get (by simpa [Ev.still] using hs) hx)
  | func fn first captured fs gs h0 h1 h2 _ _ ih1 ih2 =>
    intro hs
    simp only [Ev.still, Bool.and_eq_true] at hs
    exact .func fn first captured fs gs h0 h1 h2 (fun i a d q1 q2 => ih1 i a d q1 q2 (stillL_get hs.1 q1)) (fun i a d q1 q2 => ih2 i a d q1 q2 (stillL_get hs.2 q1))
  | yield id b h1 h2 => intro hs; simp [Ev.still] at hs
  | iface t x y _ ih => exact fun hs => .iface t x y (ih (by simpa [Ev.still] using hs))
  | map id b h1 h2 => intro hs; simp [Ev.still] at hs
  | sym i x h1 h2 => exact fun _ => .sym i x (h1.trans (by rw [hy])) h2
theorem VRs.still {G G' : Ghost} (hy : G'.sym = G.sym) (hl : ∀ b o x, G.lam b o = some x → G'.lam b o = some x) {xs : List AVal} {ys : List Value} (r : VRs G xs ys) (hs : stillL xs = true) : VRs G' xs ys :=
  ⟨r.1, fun i a d h1 h2 => (r.2 i a d h1 h2).still hy hl (stillL_get hs h1)⟩

/-- A list whose spare places nobody asks for. -/
def calm : AVal → AVal
  | .list k n cs (.live _) => .list k n cs .no
  | x => x
theorem VR.calm {G : Ghost} {x : AVal} {y : Value} (r : VR G x y) : VR G (calm x) y := by
  unfold Ev.calm
  split
  · cases r with
    | list k n cs tok a cap g h1 h2 h3 h4 h5 h6 => exact .list _ _ _ .no a cap g h1 h2 h3 h4 h5 trivial
  · exact r

/-- The ghost of a call within a call: what is never written stays so, all else is put by. -/
def Ghost.within (G : Ghost) (w : World) : Ghost := { lam := G.lam, own := fun _ => (0, 0), bsz := fun _ => none, nxt := 0, base := w.heap.size, w0 := w, sym := G.sym }
theorem WR.within {G : Ghost} {σ : ASt} {w : World} (h : WR G σ w) : WR (G.within w) ⟨0, []⟩ w := by
  have hno : ∀ id ob, (⟨0, []⟩ : ASt).get id = some ob → False := by intro id ob h; rw [get_start] at h; cases h
  exact { nxt := rfl, lam := h.lam, bsz := fun b e N h => by simp [Ghost.within] at h, obj := fun id ob h => (hno id ob h).elim, lt := fun id ob h => (hno id ob h).elim,
          here := fun id ob h => (hno id ob h).elim, sep := fun id ob id' ob' h => (hno id ob h).elim, free := fun id ob h => (hno id ob h).elim, base := fun id ob h => (hno id ob h).elim,
          os := rfl, tape := rfl, output := rfl, size := Nat.le_refl _, bs := Nat.le_refl _, block := fun _ _ => rfl, fresh := fun b hb => ⟨rfl, (h.fresh b hb).2⟩ }

/-- Behind the call: what it made and nobody writes is known, all else as it was. -/
def Ghost.behind (G G' : Ghost) : Ghost := { G with lam := G'.lam }
theorem Ghost.behind_le {G G' : Ghost} {w : World} (hb : G.base ≤ w.heap.size) (le : (G.within w).Le G') : G.Le (G.behind G') :=
  { lam := le.lam, own := fun _ _ => rfl, bsz := fun _ _ h => h, nxt := Nat.le_refl _, base := rfl, w0 := rfl, sym := rfl
    old := fun b hb' o => le.old b (Nat.lt_of_lt_of_le hb' hb) o }
theorem WR.behind {G G' : Ghost} {σ σ' : ASt} {w w' : World} (h : WR G σ w) (le : (G.within w).Le G') (h' : WR G' σ' w') : WR (G.behind G') σ w' := by
  have hle := Ghost.behind_le h.bs le
  have hbase : G'.base = w.heap.size := le.base
  have hw0 : G'.w0 = w := le.w0
  have hblk : ∀ k, k < w.heap.size → w'.heap[k]? = w.heap[k]? := fun k hk => by
    have := h'.block k (by rw [hbase]; exact hk)
    rw [hw0] at this; exact this
  have hsz : w.heap.size ≤ w'.heap.size := by have := h'.size; rw [hw0] at this; exact this
  have hos : w'.os = w.os := by rw [h'.os, hw0]
  have htape : w'.tape = w.tape := by rw [h'.tape, hw0]
  have hout : w'.output = w.output := by rw [h'.output, hw0]
  exact {
    nxt := h.nxt
    lam := h'.lam
    bsz := fun b e N q => by
      have : b < w.heap.size := by
        rcases Nat.lt_or_ge b w.heap.size with h1 | h1
        · exact h1
        · have q' : G.bsz b = some (e, N) := q
          rw [(h.fresh b h1).1] at q'; simp at q'
      rw [shape_of_block (hblk b this)]; exact h.bsz b e N q
    obj := fun id ob e => (h.obj id ob e).of_block hle (by rw [h.nxt]; exact h.lt id ob e) (hblk _ (h.here id ob e))
    lt := h.lt
    here := fun id ob e => Nat.lt_of_lt_of_le (h.here id ob e) hsz
    sep := h.sep
    free := fun id ob e o ho => by
      have := le.old (G.own id).1 (h.here id ob e) o
      show G'.lam (G.own id).1 o = none
      rw [this]; exact h.free id ob e o ho
    base := h.base
    os := hos.trans h.os, tape := htape.trans h.tape, output := hout.trans h.output
    size := Nat.le_trans h.size hsz
    bs := Nat.le_trans h.bs hsz
    block := fun j hj => (hblk j (Nat.lt_of_lt_of_le hj h.bs)).trans (h.block j hj)
    fresh := fun b q => ⟨(h.fresh b (Nat.le_trans hsz q)).1, (h'.fresh b q).2⟩ }
theorem GlobR.within {G : Ghost} {E : Env} (hG : GlobR G E) (hE : E.Flat) (w : World) : GlobR (G.within w) E := by
  refine ⟨fun g cs h => ?_, hG.sym⟩
  have hs : stillL cs = true := by
    have h1 := hE g cs h
    clear hG h
    induction cs with
    | nil => rfl
    | cons x r ih =>
      obtain ⟨v, rfl⟩ := h1 x (by simp)
      simp only [stillL, Ev.still, Bool.true_and]
      exact ih fun x hx => h1 x (by simp [hx])
  exact VR.still (G := G) (G' := G.within w) rfl (fun _ _ _ q => q) (hG.glob g cs h) (by simpa [Ev.still] using hs)

section
variable {P : Program} {E : Env} {X : FuncId → Option (List AVal → ASt → Option (AEnd × ASt))}

/-- A call with these arguments says this; with others it is asked of 'more'. -/
def saidOf (f : FuncId) (args : List AVal) (x : AVal) (more : List AVal → ASt → Option (AEnd × ASt)) (X : Given) : Given := fun k =>
  if k = f then some (fun as σ => if aeqL as args then some (.ret x, σ) else more as σ) else X k

/-- One function's answers are sound. -/
def MoreSound (P : Program) (E : Env) (k : FuncId) (g : List AVal → ASt → Option (AEnd × ASt)) : Prop :=
  ∀ args σ r, g args σ = some r → ∀ (G : Ghost) (w : World) (cargs : Array Value), WR G σ w → GlobR G E → VRs G args cargs.toList →
    Calls P k cargs w fun e w' => ∃ G', G.Le G' ∧ WR G' r.2 w' ∧ EndR G' r.1 e
theorem more_none {k : FuncId} : MoreSound P E k (fun _ _ => none) := by intro args σ r h; simp at h
/-- What the evaluator itself says. -/
def evMore (P : Program) (E : Env) (X : Given) (n : Nat) (f : FuncId) : List AVal → ASt → Option (AEnd × ASt) := fun args σ =>
  match (ev P E X n).fn f args σ none with
  | some (r, σ', none) => some (r, σ')
  | _ => none
theorem more_ev (hX : GivenSound P E X) (hm : P.follows .mixedOrders = true) {n : Nat} {f : FuncId} : MoreSound P E f (evMore P E X n f) := by
  intro args σ r h G w cargs hW hG ha
  unfold evMore at h
  split at h
  · rename_i e σ' hh
    simp only [Option.some.injEq] at h
    subst h
    exact (ev_sound hX hm n).1 f args σ none _ hh G w cargs hW hG ha
  · simp at h

theorem given_saidOf (hX : GivenSound P E X) (hm : P.follows .mixedOrders = true) (hE : E.Flat) {n : Nat} {f : FuncId} {args : List AVal} {x x' : AVal} {σ : ASt}
    {more : List AVal → ASt → Option (AEnd × ASt)} {Y : Given} (hY : GivenSound P E Y) (hmore : MoreSound P E f more)
    (h : (ev P E X n).fn f args ⟨0, []⟩ none = some (.ret x', σ, none)) (hx : calm x' = x) (ha : stillL args = true) (hs : still x = true) : GivenSound P E (saidOf f args x more Y) := by
  intro k g hk as σ₁ r hr G w cargs hW hG hv
  unfold saidOf at hk
  split at hk
  · rename_i hkf
    subst hkf
    simp only [Option.some.injEq] at hk
    subst hk
    simp only at hr
    split at hr
    · rename_i hq
      have := aeqL_eq _ _ hq
      subst this
      simp only [Option.some.injEq] at hr
      subst hr
      have hs1 := (ev_sound hX hm n).1 k as ⟨0, []⟩ none _ h (G.within w) w cargs hW.within (hG.within hE w) (VRs.still (G := G) (G' := G.within w) rfl (fun _ _ _ q => q) hv ha)
      refine hs1.mono fun e w' hh => ?_
      obtain ⟨G', le, hW', hE'⟩ := hh
      refine ⟨G.behind G', Ghost.behind_le hW.bs le, hW.behind le hW', ?_⟩
      cases e with
      | returned v =>
        subst hx
        exact VR.still (G := G') (G' := G.behind G') le.sym.symm (fun _ _ _ q => q) (VR.calm hE') hs
      | _ => exact hE'.elim
    · exact hmore as σ₁ r hr G w cargs hW hG hv
  · exact hY k g hk as σ₁ r hr G w cargs hW hG hv
end
end Go.Ev
