/- Steps of memory under the relation; no condition. -/
import Derived.Test.YthfgghenofpbjaaGreatDoorEvRel
namespace Go.Ev

def NotOwned (G : Ghost) (σ : ASt) (b : Nat) : Prop := ∀ id ob, σ.get id = some ob → (G.own id).1 ≠ b

theorem WR.congr {G : Ghost} {σ σ' : ASt} {w : World} (h : WR G σ w) (hn : σ'.next = σ.next) (hg : ∀ j q, σ'.get j = some q → σ.get j = some q) : WR G σ' w :=
  { nxt := h.nxt.trans hn.symm, lam := h.lam, bsz := h.bsz, obj := fun id ob e => h.obj id ob (hg _ _ e), lt := fun id ob e => by rw [hn]; exact h.lt id ob (hg _ _ e),
    here := fun id ob e => h.here id ob (hg _ _ e), sep := fun id ob id' ob' e e' => h.sep id ob id' ob' (hg _ _ e) (hg _ _ e'),
    free := fun id ob e => h.free id ob (hg _ _ e), base := fun id ob e => h.base id ob (hg _ _ e),
    os := h.os, tape := h.tape, output := h.output, size := h.size, bs := h.bs, block := h.block, fresh := h.fresh }

theorem WR.kill {G : Ghost} {σ : ASt} {w : World} (h : WR G σ w) {id : Nat} {ob : AObj} (hid : σ.get id = some ob) : WR G (σ.kill id) w :=
  h.congr rfl fun _ _ e => (get_kill hid e).2
theorem WR.killed {G : Ghost} {σ : ASt} {w : World} (h : WR G σ w) {id : Nat} {ob : AObj} (hid : σ.get id = some ob) : NotOwned G (σ.kill id) (G.own id).1 :=
  fun _ _ hj e => (get_kill hid hj).1 (h.sep _ _ _ _ (get_kill hid hj).2 hid e)

/-- A world that parts in nothing that is held. -/
theorem WR.world {G : Ghost} {σ : ASt} {w w' : World} (h : WR G σ w) (hh : w'.heap = w.heap) (ho : w'.os = w.os) (ht : w'.tape = w.tape) (hu : w'.output = w.output) : WR G σ w' := by
  have hb : ∀ b : Nat, w'.heap[b]? = w.heap[b]? := fun b => by rw [hh]
  exact { nxt := h.nxt, lam := fun b o x e => by rw [cell_of_block (hb b)]; exact h.lam b o x e, bsz := fun b e N q => by rw [shape_of_block (hb b)]; exact h.bsz b e N q,
          obj := fun id ob e => (h.obj id ob e).of_block (.refl G) (by rw [h.nxt]; exact h.lt id ob e) (hb _), lt := h.lt, here := fun id ob e => by rw [hh]; exact h.here id ob e,
          sep := h.sep, free := h.free, base := h.base, os := ho.trans h.os, tape := ht.trans h.tape, output := hu.trans h.output, size := by rw [hh]; exact h.size,
          bs := by rw [hh]; exact h.bs, block := fun k hk => (hb k).trans (h.block k hk), fresh := fun b q => h.fresh b (by rw [hh] at q; exact q) }
theorem WR.drawn {G : Ghost} {σ : ASt} {w : World} (h : WR G σ w) (n : Nat) : WR G σ { w with drawn := n } := h.world rfl rfl rfl rfl

/-- Memory parts at one block that nobody owns, and at cells that nobody leans on. -/
theorem WR.touch {G : Ghost} {σ : ASt} {w w' : World} (h : WR G σ w) {b : Nat} (hb : NotOwned G σ b) (hbase : G.base ≤ b)
    (other : ∀ k, k ≠ b → w'.heap[k]? = w.heap[k]?) (size : w'.heap.size = w.heap.size) (ho : w'.os = w.os) (ht : w'.tape = w.tape) (hu : w'.output = w.output)
    (shape : w'.shape? b = w.shape? b) (cells : ∀ o x, G.lam b o = some x → w'.cell? ⟨b, o, none⟩ = w.cell? ⟨b, o, none⟩) : WR G σ w' :=
  { nxt := h.nxt
    lam := fun k o x e => by
      by_cases hk : k = b
      · subst hk; rw [cells o x e]; exact h.lam k o x e
      · rw [cell_of_block (other k hk)]; exact h.lam k o x e
    bsz := fun k e N q => by
      by_cases hk : k = b
      · subst hk; rw [shape]; exact h.bsz k e N q
      · rw [shape_of_block (other k hk)]; exact h.bsz k e N q
    obj := fun id ob e => (h.obj id ob e).of_block (.refl G) (by rw [h.nxt]; exact h.lt id ob e) (other _ (hb id ob e))
    lt := h.lt
    here := fun id ob e => by rw [size]; exact h.here id ob e
    sep := h.sep, free := h.free, base := h.base, os := ho.trans h.os, tape := ht.trans h.tape, output := hu.trans h.output
    size := by rw [size]; exact h.size
    bs := by rw [size]; exact h.bs
    block := fun k hk => (other k (by omega)).trans (h.block k hk)
    fresh := fun k q => h.fresh k (by rw [size] at q; exact q) }

/-- More cells that are never written again. -/
def Ghost.grow (G : Ghost) (b o : Nat) (vs : List Value) : Ghost :=
  { G with lam := fun k j => if k = b ∧ o ≤ j ∧ j < o + vs.length then vs[j - o]? else G.lam k j }
theorem Ghost.grow_le {G : Ghost} {b o : Nat} {vs : List Value} (hb : G.base ≤ b) (hf : ∀ j, o ≤ j → G.lam b j = none) : G.Le (G.grow b o vs) :=
  { lam := fun k j x e => by
      simp only [Ghost.grow]
      split
      · rename_i hc; obtain ⟨rfl, h1, _⟩ := hc; rw [hf j h1] at e; simp at e
      · exact e
    own := fun _ _ => rfl, bsz := fun _ _ e => e, nxt := Nat.le_refl _, base := rfl, w0 := rfl, sym := rfl
    old := fun k hk j => by simp only [Ghost.grow]; rw [if_neg (by rintro ⟨hc, _⟩; omega)] }
theorem Ghost.grow_lam {G : Ghost} {b o : Nat} {vs : List Value} {i : Nat} {x : Value} (h : vs[i]? = some x) : (G.grow b o vs).lam b (o + i) = some x := by
  have hi := (List.getElem?_eq_some_iff.1 h).1
  simp only [Ghost.grow]
  rw [if_pos (by refine ⟨?_, by omega, by omega⟩; trivial), show o + i - o = i by omega, h]
theorem Ghost.grow_lam_ge {G : Ghost} {b o : Nat} {vs : List Value} {j : Nat} (hj : o + vs.length ≤ j) (hf : G.lam b j = none) : (G.grow b o vs).lam b j = none := by
  simp only [Ghost.grow]
  rw [if_neg (by omega), hf]
theorem WR.grow {G : Ghost} {σ : ASt} {w : World} (h : WR G σ w) {b o : Nat} {vs : List Value} (hb : NotOwned G σ b) (hbase : G.base ≤ b) (hf : ∀ j, o ≤ j → G.lam b j = none)
    (hsz : b < w.heap.size) (cells : ∀ i x, vs[i]? = some x → w.cell? ⟨b, o + i, none⟩ = some x ∧ one x = true) : WR (G.grow b o vs) σ w := by
  have le := Ghost.grow_le (vs := vs) hbase hf
  exact {
    nxt := h.nxt
    lam := fun k j x e => by
      simp only [Ghost.grow] at e
      split at e
      · rename_i hc
        obtain ⟨rfl, h1, h2⟩ := hc
        have := cells (j - o) x e
        rwa [show o + (j - o) = j by omega] at this
      · exact h.lam k j x e
    bsz := h.bsz
    obj := fun id ob e => (h.obj id ob e).of_block le (by rw [h.nxt]; exact h.lt id ob e) rfl
    lt := h.lt, here := h.here, sep := h.sep
    free := fun id ob e j hj => by
      simp only [Ghost.grow]
      rw [if_neg (by rintro ⟨hc, _⟩; exact hb id ob e hc)]
      exact h.free id ob e j hj
    base := h.base, os := h.os, tape := h.tape, output := h.output, size := h.size, bs := h.bs, block := h.block
    fresh := fun k q => ⟨(h.fresh k q).1, fun j => by
      simp only [Ghost.grow]
      rw [if_neg (by rintro ⟨hc, _⟩; omega)]
      exact (h.fresh k q).2 j⟩ }

/-- An object's place. -/
def Ghost.place (G : Ghost) (b o : Nat) : Ghost := { G with own := fun i => if i = G.nxt then (b, o) else G.own i, nxt := G.nxt + 1 }
theorem Ghost.place_le (G : Ghost) (b o : Nat) : G.Le (G.place b o) :=
  { lam := fun _ _ _ e => e, own := fun i hi => by simp only [Ghost.place]; rw [if_neg (by omega)], bsz := fun _ _ e => e, nxt := by simp [Ghost.place], base := rfl, old := fun _ _ _ => rfl, w0 := rfl, sym := rfl }
theorem Ghost.place_self (G : Ghost) (b o : Nat) : (G.place b o).own G.nxt = (b, o) := by simp [Ghost.place]
theorem WR.adopt {G : Ghost} {σ : ASt} {w : World} (h : WR G σ w) {b o : Nat} (hb : NotOwned G σ b) (hbase : G.base ≤ b) (hsz : b < w.heap.size) (hf : ∀ j, o ≤ j → G.lam b j = none)
    {ob : AObj} (hob : ObjR (G.place b o) w G.nxt ob) : WR (G.place b o) (σ.push ob) w := by
  have le := G.place_le b o
  have hget : ∀ id q, (σ.push ob).get id = some q → (id = G.nxt ∧ q = ob) ∨ (id < G.nxt ∧ σ.get id = some q ∧ (G.place b o).own id = G.own id) := by
    intro id q e
    rw [get_push] at e
    split at e
    · rename_i hi; exact .inl ⟨by rw [h.nxt]; exact hi, (alive_some e).1⟩
    · have hl := h.lt id q e
      rw [← h.nxt] at hl
      exact .inr ⟨hl, e, le.own id hl⟩
  exact {
    nxt := by show G.nxt + 1 = σ.next + 1; rw [h.nxt]
    lam := h.lam, bsz := h.bsz
    obj := fun id q e => by
      rcases hget id q e with ⟨rfl, rfl⟩ | ⟨hl, e, _⟩
      · exact hob
      · exact (h.obj id q e).of_block le hl rfl
    lt := fun id q e => by
      show id < σ.next + 1
      rw [← h.nxt]
      rcases hget id q e with ⟨rfl, _⟩ | ⟨hl, _⟩ <;> omega
    here := fun id q e => by
      rcases hget id q e with ⟨rfl, _⟩ | ⟨hl, e, ho⟩
      · rw [G.place_self]; exact hsz
      · rw [ho]; exact h.here id q e
    sep := fun id q id' q' e e' hs => by
      rcases hget id q e with ⟨rfl, _⟩ | ⟨hl, e, ho⟩ <;> rcases hget id' q' e' with ⟨rfl, _⟩ | ⟨hl', e', ho'⟩
      · rfl
      · rw [G.place_self, ho'] at hs; exact absurd hs.symm (hb id' q' e')
      · rw [G.place_self, ho] at hs; exact absurd hs (hb id q e)
      · rw [ho, ho'] at hs; exact h.sep id q id' q' e e' hs
    free := fun id q e j hj => by
      rcases hget id q e with ⟨rfl, _⟩ | ⟨hl, e, ho⟩
      · rw [G.place_self] at hj ⊢; exact hf j hj
      · rw [ho] at hj ⊢; exact h.free id q e j hj
    base := fun id q e => by
      rcases hget id q e with ⟨rfl, _⟩ | ⟨hl, e, ho⟩
      · rw [G.place_self]; exact hbase
      · rw [ho]; exact h.base id q e
    os := h.os, tape := h.tape, output := h.output, size := h.size, bs := h.bs, block := h.block, fresh := h.fresh }

/-- An object takes another form at its place. -/
theorem WR.reset {G : Ghost} {σ : ASt} {w w' : World} (h : WR G σ w) {id : Nat} {ob ob' : AObj} (hid : σ.get id = some ob) (k : WR G (σ.kill id) w') (hsz : w.heap.size ≤ w'.heap.size)
    (hob : ObjR G w' id ob') : WR G (σ.set id ob') w' := by
  have hget : ∀ j q, (σ.set id ob').get j = some q → (j = id ∧ q = ob') ∨ (j ≠ id ∧ (σ.kill id).get j = some q ∧ σ.get j = some q) := by
    intro j q e
    rcases get_set hid e with ⟨h1, e2⟩ | ⟨hj, e2⟩
    · exact .inl ⟨h1, (alive_some e2).1⟩
    · exact .inr ⟨hj, (get_set_ne (o := .dead) hj).trans e2, e2⟩
  exact {
    nxt := k.nxt, lam := k.lam, bsz := k.bsz
    obj := fun j q e => by
      rcases hget j q e with ⟨rfl, rfl⟩ | ⟨_, e, _⟩
      · exact hob
      · exact k.obj j q e
    lt := fun j q e => by
      rcases hget j q e with ⟨rfl, rfl⟩ | ⟨_, e, _⟩
      · exact h.lt j ob hid
      · exact k.lt j q e
    here := fun j q e => by
      rcases hget j q e with ⟨rfl, rfl⟩ | ⟨_, e, _⟩
      · exact Nat.lt_of_lt_of_le (h.here j ob hid) hsz
      · exact k.here j q e
    sep := fun j q j' q' e e' hs => by
      rcases hget j q e with ⟨rfl, rfl⟩ | ⟨hj, e, e2⟩ <;> rcases hget j' q' e' with ⟨rfl, rfl⟩ | ⟨hj', e', e2'⟩
      · rfl
      · exact absurd (h.sep j ob j' q' hid e2' hs) (Ne.symm hj')
      · exact absurd (h.sep j q j' ob e2 hid hs) hj
      · exact k.sep j q j' q' e e' hs
    free := fun j q e => by
      rcases hget j q e with ⟨rfl, rfl⟩ | ⟨_, e, _⟩
      · exact h.free j ob hid
      · exact k.free j q e
    base := fun j q e => by
      rcases hget j q e with ⟨rfl, rfl⟩ | ⟨_, e, _⟩
      · exact h.base j ob hid
      · exact k.base j q e
    os := k.os, tape := k.tape, output := k.output, size := k.size, bs := k.bs, block := k.block, fresh := k.fresh }

/-- A new block. -/
def Ghost.block (G : Ghost) (b : Nat) (e : TypeId) (N : Nat) : Ghost := { G with bsz := fun k => if k = b then some (e, N) else G.bsz k }
theorem World.push_block (w : World) (o : Obj) (k : Nat) (h : k ≠ w.heap.size) : ({ w with heap := w.heap.push o } : World).heap[k]? = w.heap[k]? := by
  show (w.heap.push o)[k]? = _
  rw [Array.getElem?_push, if_neg h]
theorem World.push_self (w : World) (o : Obj) : ({ w with heap := w.heap.push o } : World).heap[w.heap.size]? = some o := by
  show (w.heap.push o)[w.heap.size]? = _
  rw [Array.getElem?_push, if_pos rfl]
theorem WR.push {G : Ghost} {σ : ASt} {w : World} (h : WR G σ w) (o : Obj) : WR G σ { w with heap := w.heap.push o } := by
  have hb : ∀ k, k < w.heap.size → ({ w with heap := w.heap.push o } : World).heap[k]? = w.heap[k]? := fun k hk => World.push_block w o k (by omega)
  have hsz : ({ w with heap := w.heap.push o } : World).heap.size = w.heap.size + 1 := by simp
  have lt_of : ∀ (k : Nat) (x : Obj), w.heap[k]? = some x → k < w.heap.size := fun k x e => (Array.getElem?_eq_some_iff.1 e).1
  exact {
    nxt := h.nxt
    lam := fun b j x e => by
      obtain ⟨c, t, fr, h1, _⟩ := block_of_cell (h.lam b j x e).1
      rw [cell_of_block (hb b (lt_of _ _ h1))]
      exact h.lam b j x e
    bsz := fun b e N q => by
      have : b < w.heap.size := by
        rcases Nat.lt_or_ge b w.heap.size with h1 | h1
        · exact h1
        · rw [(h.fresh b h1).1] at q; simp at q
      rw [shape_of_block (hb b this)]; exact h.bsz b e N q
    obj := fun id ob e => (h.obj id ob e).of_block (.refl G) (by rw [h.nxt]; exact h.lt id ob e) (hb _ (h.here id ob e))
    lt := h.lt
    here := fun id ob e => by rw [hsz]; exact Nat.lt_succ_of_lt (h.here id ob e)
    sep := h.sep, free := h.free, base := h.base, os := h.os, tape := h.tape, output := h.output
    size := by rw [hsz]; exact Nat.le_succ_of_le h.size
    bs := by rw [hsz]; exact Nat.le_succ_of_le h.bs
    block := fun k hk => (hb k (Nat.lt_of_lt_of_le hk h.bs)).trans (h.block k hk)
    fresh := fun b q => h.fresh b (by rw [hsz] at q; omega) }
theorem WR.sized {G : Ghost} {σ : ASt} {w : World} (h : WR G σ w) {b : Nat} {e : TypeId} {N : Nat} (hs : w.shape? b = some (e, N)) (hn : G.bsz b = none) :
    WR (G.block b e N) σ w ∧ G.Le (G.block b e N) := by
  have le : G.Le (G.block b e N) :=
    { lam := fun _ _ _ e => e, own := fun _ _ => rfl, nxt := Nat.le_refl _, base := rfl, old := fun _ _ _ => rfl, w0 := rfl, sym := rfl
      bsz := fun k s q => by simp only [Ghost.block]; split; · (rename_i hk; subst hk; rw [hn] at q; simp at q)
                             · exact q }
  have hb : b < w.heap.size := by
    simp only [World.shape?] at hs
    split at hs
    · rename_i c t fr h1; exact (Array.getElem?_eq_some_iff.1 h1).1
    · simp at hs
  refine ⟨{ nxt := h.nxt, lam := h.lam, obj := fun id ob e => (h.obj id ob e).of_block le (by rw [h.nxt]; exact h.lt id ob e) rfl, lt := h.lt, here := h.here, sep := h.sep,
            free := h.free, base := h.base, os := h.os, tape := h.tape, output := h.output, size := h.size, bs := h.bs, block := h.block,
            bsz := fun k t M q => ?_, fresh := fun k q => ⟨?_, (h.fresh k q).2⟩ }, le⟩
  · simp only [Ghost.block] at q
    split at q
    · rename_i hk; subst hk; cases q; exact hs
    · exact h.bsz k t M q
  · simp only [Ghost.block]; rw [if_neg (by omega)]; exact (h.fresh k q).1

/-- A new block of cells, its first ones never written again, the others an object. -/
theorem WR.newBlock {G : Ghost} {σ : ASt} {w : World} (h : WR G σ w) (vs : List Value) (more : List Value) (e : TypeId)
    (hone : ∀ (i : Nat) x, vs[i]? = some x → one x = true) (fr : Nat × Nat := (0, 0)) :
    let w' : World := { w with heap := w.heap.push (.cells (vs ++ more).toArray e fr) }
    ∃ G', G.Le G' ∧ WR G' σ w' ∧ NotOwned G' σ w.heap.size ∧ (∀ (i : Nat) x, vs[i]? = some x → G'.lam w.heap.size i = some x) ∧ (∀ j, vs.length ≤ j → G'.lam w.heap.size j = none) ∧
      G'.bsz w.heap.size = some (e, (vs ++ more).length) ∧ G'.nxt = G.nxt := by
  intro w'
  have hs : w'.shape? w.heap.size = some (e, (vs ++ more).length) := by
    simp only [World.shape?, w']; simp
  obtain ⟨h2, le2⟩ := (h.push (.cells (vs ++ more).toArray e fr)).sized hs (h.fresh _ (Nat.le_refl _)).1
  have hno : NotOwned (G.block w.heap.size e (vs ++ more).length) σ w.heap.size := fun id ob q => Nat.ne_of_lt (h.here id ob q)
  have hf : ∀ j, 0 ≤ j → (G.block w.heap.size e (vs ++ more).length).lam w.heap.size j = none := fun j _ => (h.fresh _ (Nat.le_refl _)).2 j
  refine ⟨(G.block w.heap.size e (vs ++ more).length).grow w.heap.size 0 vs, le2.trans (Ghost.grow_le h.bs hf), h2.grow hno h.bs hf (by simp) ?_, hno, ?_, ?_, ?_, rfl⟩
  · intro i x hx
    refine ⟨?_, hone i x hx⟩
    have hi := (List.getElem?_eq_some_iff.1 hx).1
    simp only [World.cell?]
    simp [List.getElem?_append_left hi, hx]
  · intro i x hx
    have := Ghost.grow_lam (G := G.block w.heap.size e (vs ++ more).length) (b := w.heap.size) (o := 0) hx
    rwa [Nat.zero_add] at this
  · intro j hj
    exact Ghost.grow_lam_ge (by omega) (hf j (Nat.zero_le _))
  · simp [Ghost.grow, Ghost.block]

end Go.Ev
