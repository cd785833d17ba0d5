/- The relation between the evaluator's values and the model's: definitions, and what holds of them; no condition. -/
import Derived.Test.YthfgghenofpbjaaGreatDoorEvRun
namespace Go.Ev

/-- The value of one cell? -/
def one : Value → Bool
  | .agg _ | .tuple _ => false
  | _ => true

/-- What the relation leans on: cells that are never written again; where each object lies; the sizes of some blocks; the call's first block and its world. -/
structure Ghost where
  lam : Nat → Nat → Option Value
  own : Nat → Nat × Nat
  bsz : Nat → Option (TypeId × Nat)
  nxt : Nat
  base : Nat
  w0 : World
  sym : Nat → Value

structure Ghost.Le (G G' : Ghost) : Prop where
  lam : ∀ b o x, G.lam b o = some x → G'.lam b o = some x
  own : ∀ i, i < G.nxt → G'.own i = G.own i
  bsz : ∀ b s, G.bsz b = some s → G'.bsz b = some s
  nxt : G.nxt ≤ G'.nxt
  base : G'.base = G.base
  old : ∀ b, b < G.base → ∀ o, G'.lam b o = G.lam b o
  w0 : G'.w0 = G.w0
  sym : G'.sym = G.sym

theorem Ghost.Le.refl (G : Ghost) : G.Le G := ⟨fun _ _ _ h => h, fun _ _ => rfl, fun _ _ h => h, Nat.le_refl _, rfl, fun _ _ _ => rfl, rfl, rfl⟩
theorem Ghost.Le.trans {A B C : Ghost} (h : A.Le B) (k : B.Le C) : A.Le C :=
  ⟨fun b o x e => k.lam b o x (h.lam b o x e), fun i hi => (k.own i (Nat.lt_of_lt_of_le hi h.nxt)).trans (h.own i hi),
   fun b s e => k.bsz b s (h.bsz b s e), Nat.le_trans h.nxt k.nxt, k.base.trans h.base,
   fun b hb o => (k.old b (by rw [h.base]; exact hb) o).trans (h.old b hb o), k.w0.trans h.w0, k.sym.trans h.sym⟩

def TokR (G : Ghost) (tok : Tok) (k n cap : Nat) (a : Addr) : Prop :=
  match tok with
  | .no => True
  | .full => cap = n
  | .live id => id < G.nxt ∧ (n < cap → G.own id = (a.block, a.off + n * k) ∧ ∃ e N, G.bsz a.block = some (e, N) ∧ a.off + cap * k ≤ N)

inductive VR (G : Ghost) : AVal → Value → Prop
  | junk (x : Value) : VR G .junk x
  | v (x : Value) : VR G (.v x) x
  | agg (cs : List AVal) (ds : Array Value) : cs.length = ds.size → (∀ (i : Nat) a d, cs[i]? = some a → ds[i]? = some d → VR G a d) → VR G (.agg cs) (.agg ds)
  | tuple (cs : List AVal) (ds : Array Value) : cs.length = ds.size → (∀ (i : Nat) a d, cs[i]? = some a → ds[i]? = some d → VR G a d) → VR G (.tuple cs) (.tuple ds)
  | list (k n : Nat) (cs : List AVal) (tok : Tok) (a : Addr) (cap : Nat) (g : Nat → Value) : a.spot = none → cs.length = n * k → n ≤ cap →
      (∀ i, i < cs.length → G.lam a.block (a.off + i) = some (g i)) → (∀ (i : Nat) x, cs[i]? = some x → VR G x (g i)) → TokR G tok k n cap a →
      VR G (.list k n cs tok) (.slice (some a) n cap)
  | arr (k id off n : Nat) (cap : Option Nat) (a : Addr) (c : Nat) : id < G.nxt → n ≤ c → (∀ c', cap = some c' → c = c') →
      (0 < c → a = ⟨(G.own id).1, (G.own id).2 + off, none⟩) →
      (∃ e N, G.bsz (G.own id).1 = some (e, N) ∧ (G.own id).2 + off + c * k ≤ N ∧ (cap = none → (G.own id).2 + off + c * k = N)) → VR G (.arr k id off n cap) (.slice (some a) n c)
  | ref (id off : Nat) (a : Addr) : id < G.nxt → a = ⟨(G.own id).1, (G.own id).2 + off, none⟩ → VR G (.ref id off) (.pointer (some a))
  | iref (cs : List AVal) (a : Addr) (g : Nat → Value) : a.spot = none → (∀ i, i < cs.length → G.lam a.block (a.off + i) = some (g i)) →
      (∀ (i : Nat) x, cs[i]? = some x → VR G x (g i)) → VR G (.iref cs) (.pointer (some a))
  | func (fn : Fn) (first captured : List AVal) (fs gs : Array Value) : (∀ l, fn ≠ .yield l) → first.length = fs.size → captured.length = gs.size →
      (∀ (i : Nat) a d, first[i]? = some a → fs[i]? = some d → VR G a d) → (∀ (i : Nat) a d, captured[i]? = some a → gs[i]? = some d → VR G a d) →
      VR G (.func fn first captured) (.func fn fs gs)
  | yield (id b : Nat) : id < G.nxt → b = (G.own id).1 → VR G (.yield id) (.func (.yield b) #[] #[])
  | iface (t : TypeId) (x : AVal) (y : Value) : VR G x y → VR G (.iface t x) (.iface t y)
  | map (id b : Nat) : id < G.nxt → b = (G.own id).1 → VR G (.map id) (.map (some b))
  | sym (i : Nat) (x : Value) : x = G.sym i → (AVal.v x).one = true → VR G (.sym i) x

/-- Lists of values, one by one. -/
def VRs (G : Ghost) (xs : List AVal) (ys : List Value) : Prop := xs.length = ys.length ∧ ∀ (i : Nat) a d, xs[i]? = some a → ys[i]? = some d → VR G a d

theorem TokR.mono {G G' : Ghost} (h : G.Le G') {tok : Tok} {k n cap : Nat} {a : Addr} (t : TokR G tok k n cap a) : TokR G' tok k n cap a := by
  cases tok with
  | no => trivial
  | full => exact t
  | live id =>
    obtain ⟨h1, h2⟩ := t
    refine ⟨Nat.lt_of_lt_of_le h1 h.nxt, fun hn => ?_⟩
    obtain ⟨h3, e, N, h4, h5⟩ := h2 hn
    exact ⟨(h.own id h1).trans h3, e, N, h.bsz _ _ h4, h5⟩

theorem VR.mono {G G' : Ghost} (h : G.Le G') {x : AVal} {y : Value} (r : VR G x y) : VR G' x y := by
  induction r with
  | junk x => exact .junk x
  | v x => exact .v x
  | agg cs ds hl _ ih => exact .agg cs ds hl ih
  | tuple cs ds hl _ ih => exact .tuple cs ds hl ih
  | list k n cs tok a cap g h1 h2 h3 h4 _ h6 ih => exact .list k n cs tok a cap g h1 h2 h3 (fun i hi => h.lam _ _ _ (h4 i hi)) ih (h6.mono h)
  | arr k id off n cap a c h1 h3 h4 h2 h5 =>
    have ho := h.own id h1
    obtain ⟨e, N, h5, h6, h7⟩ := h5
    exact .arr k id off n cap a c (Nat.lt_of_lt_of_le h1 h.nxt) h3 h4 (fun hc => by rw [ho]; exact h2 hc) ⟨e, N, by rw [ho]; exact h.bsz _ _ h5, by rw [ho]; exact h6, by rw [ho]; exact h7⟩
  | ref id off a h1 h2 => exact .ref id off a (Nat.lt_of_lt_of_le h1 h.nxt) (by rw [h.own id h1]; exact h2)
  | iref cs a g h1 h2 _ ih => exact .iref cs a g h1 (fun i hi => h.lam _ _ _ (h2 i hi)) ih
  | func fn first captured fs gs h0 h1 h2 _ _ ih1 ih2 => exact .func fn first captured fs gs h0 h1 h2 ih1 ih2
  | yield id b h1 h2 => exact .yield id b (Nat.lt_of_lt_of_le h1 h.nxt) (by rw [h.own id h1]; exact h2)
  | iface t x y _ ih => exact .iface t x y ih
  | map id b h1 h2 => exact .map id b (Nat.lt_of_lt_of_le h1 h.nxt) (by rw [h.own id h1]; exact h2)
  | sym i x h1 h2 => exact .sym i x (h1.trans (by rw [h.sym])) h2

theorem VRs.mono {G G' : Ghost} (h : G.Le G') {xs : List AVal} {ys : List Value} (r : VRs G xs ys) : VRs G' xs ys :=
  ⟨r.1, fun i a d h1 h2 => (r.2 i a d h1 h2).mono h⟩
theorem VRs.nil (G : Ghost) : VRs G [] [] := ⟨rfl, fun i a d h => by simp at h⟩
theorem VRs.cons {G : Ghost} {x : AVal} {y : Value} {xs : List AVal} {ys : List Value} (h : VR G x y) (r : VRs G xs ys) : VRs G (x :: xs) (y :: ys) := by
  refine ⟨by simp [r.1], fun i a d h1 h2 => ?_⟩
  cases i with
  | zero => simp at h1 h2; subst h1; subst h2; exact h
  | succ i => simp at h1 h2; exact r.2 i a d h1 h2
theorem VRs.append {G : Ghost} {xs xs' : List AVal} {ys ys' : List Value} (h : VRs G xs ys) (h' : VRs G xs' ys') : VRs G (xs ++ xs') (ys ++ ys') := by
  induction xs generalizing ys with
  | nil => cases ys with
    | nil => exact h'
    | cons y ys => simp [VRs] at h
  | cons x xs ih => cases ys with
    | nil => simp [VRs] at h
    | cons y ys =>
      refine VRs.cons (h.2 0 x y rfl rfl) (ih ⟨by have := h.1; simpa using this, fun i a d h1 h2 => h.2 (i + 1) a d (by simpa using h1) (by simpa using h2)⟩)
theorem VRs.head {G : Ghost} {x : AVal} {y : Value} {xs : List AVal} {ys : List Value} (h : VRs G (x :: xs) (y :: ys)) : VR G x y := h.2 0 x y rfl rfl
theorem VRs.tail {G : Ghost} {x : AVal} {y : Value} {xs : List AVal} {ys : List Value} (h : VRs G (x :: xs) (y :: ys)) : VRs G xs ys :=
  ⟨by have := h.1; simpa using this, fun i a d h1 h2 => h.2 (i + 1) a d (by simpa using h1) (by simpa using h2)⟩
theorem VRs.take {G : Ghost} {xs : List AVal} {ys : List Value} (h : VRs G xs ys) (n : Nat) : VRs G (xs.take n) (ys.take n) := by
  refine ⟨by simp [h.1], fun i a d h1 h2 => ?_⟩
  rw [List.getElem?_take] at h1 h2
  split at h1
  · rename_i hi; rw [if_pos hi] at h2; exact h.2 i a d h1 h2
  · simp at h1
theorem VRs.drop {G : Ghost} {xs : List AVal} {ys : List Value} (h : VRs G xs ys) (n : Nat) : VRs G (xs.drop n) (ys.drop n) := by
  refine ⟨by simp [h.1], fun i a d h1 h2 => ?_⟩
  rw [List.getElem?_drop] at h1 h2
  exact h.2 _ a d h1 h2
theorem VRs.exists {G : Ghost} {xs : List AVal} {ys : List Value} (h : VRs G xs ys) {i : Nat} {a : AVal} (ha : xs[i]? = some a) : ∃ d, ys[i]? = some d ∧ VR G a d := by
  have hi : i < ys.length := by rw [← h.1]; exact (List.getElem?_eq_some_iff.1 ha).1
  exact ⟨ys[i], by simp [hi], h.2 i a _ ha (by simp [hi])⟩

/-- What an object is in memory. -/
def ObjR (G : Ghost) (w : World) (id : Nat) : AObj → Prop
  | .cells _ cs => ∃ e N, G.bsz (G.own id).1 = some (e, N) ∧ (G.own id).2 + cs.length ≤ N ∧
      (∀ o, (G.own id).2 ≤ o → o < N → w.frozen? ⟨(G.own id).1, o, none⟩ = false) ∧
      ∀ (i : Nat) x, cs[i]? = some x → ∃ d, w.cell? ⟨(G.own id).1, (G.own id).2 + i, none⟩ = some d ∧ one d = true ∧ VR G x d
  | .strIter s pos => w.heap[(G.own id).1]? = some (.stringIter s pos) ∧ (G.own id).2 = 0
  | .map es clock => ∃ ces : Array MapEntry, w.heap[(G.own id).1]? = some (.map ces clock) ∧ es.length = ces.size ∧
      ∀ (i : Nat) e c, es[i]? = some e → ces[i]? = some c → c.key = e.1 ∧ VR G e.2.1 c.val ∧ c.born = e.2.2
  | .loop st pd fn ts ps a b d => ∃ cts : Array Value, w.heap[(G.own id).1]? = some (.loop ⟨st, pd, fn, cts, ps.toArray, a, b, (G.own d).1⟩) ∧ VRs G ts cts.toList ∧ d < G.nxt
  | .marks t => w.heap[(G.own id).1]? = some (.deferred (if t then none else some []))
  | .dead => True

/-- Memory: the evaluator's and the model's. -/
structure WR (G : Ghost) (σ : ASt) (w : World) : Prop where
  nxt : G.nxt = σ.next
  lam : ∀ b o x, G.lam b o = some x → w.cell? ⟨b, o, none⟩ = some x ∧ one x = true
  bsz : ∀ b e N, G.bsz b = some (e, N) → w.shape? b = some (e, N)
  obj : ∀ id ob, σ.get id = some ob → ObjR G w id ob
  lt : ∀ id ob, σ.get id = some ob → id < σ.next
  here : ∀ id ob, σ.get id = some ob → (G.own id).1 < w.heap.size
  sep : ∀ id ob id' ob', σ.get id = some ob → σ.get id' = some ob' → (G.own id).1 = (G.own id').1 → id = id'
  free : ∀ id ob, σ.get id = some ob → ∀ o, (G.own id).2 ≤ o → G.lam (G.own id).1 o = none
  base : ∀ id ob, σ.get id = some ob → G.base ≤ (G.own id).1
  os : w.os = G.w0.os
  tape : w.tape = G.w0.tape
  output : w.output = G.w0.output
  size : G.w0.heap.size ≤ w.heap.size
  bs : G.base ≤ w.heap.size
  block : ∀ k, k < G.base → w.heap[k]? = G.w0.heap[k]?
  fresh : ∀ b, w.heap.size ≤ b → G.bsz b = none ∧ ∀ o, G.lam b o = none

theorem one_of_v {d : Value} (h : (AVal.v d).one = true) : one d = true := by cases d <;> simp_all [AVal.one, one]
theorem one_of_cell {G : Ghost} {x : AVal} {d : Value} (h : VR G x d) (h1 : x.one = true) : one d = true := by
  cases h <;> first | rfl | (simp [AVal.one] at h1; done) | (exact one_of_v h1) | (exact one_of_v (by assumption))

/- Memory's ways of reading hang on its blocks alone. -/
theorem cell_of_block {w w' : World} {b : Nat} (h : w'.heap[b]? = w.heap[b]?) (o : Nat) : w'.cell? ⟨b, o, none⟩ = w.cell? ⟨b, o, none⟩ := by
  simp only [World.cell?, h]
theorem shape_of_block {w w' : World} {b : Nat} (h : w'.heap[b]? = w.heap[b]?) : w'.shape? b = w.shape? b := by
  simp only [World.shape?, h]
theorem frozen_of_block {w w' : World} {b : Nat} (h : w'.heap[b]? = w.heap[b]?) (o : Nat) : w'.frozen? ⟨b, o, none⟩ = w.frozen? ⟨b, o, none⟩ := by
  simp only [World.frozen?, h]
theorem block_of_cell {w : World} {b o : Nat} {x : Value} (h : w.cell? ⟨b, o, none⟩ = some x) : ∃ c e fr, w.heap[b]? = some (.cells c e fr) ∧ c[o]? = some x := by
  simp only [World.cell?] at h
  split at h
  · rename_i c e fr hb; exact ⟨c, e, fr, hb, by simpa using h⟩
  · simp at h

theorem ObjR.of_block {G G' : Ghost} (hG : G.Le G') {w w' : World} {id : Nat} (hid : id < G.nxt) (h : w'.heap[(G.own id).1]? = w.heap[(G.own id).1]?) {ob : AObj}
    (r : ObjR G w id ob) : ObjR G' w' id ob := by
  have ho := hG.own id hid
  cases ob with
  | cells e cs =>
    obtain ⟨e, N, h1, h2, h3, h4⟩ := r
    refine ⟨e, N, by rw [ho]; exact hG.bsz _ _ h1, by rw [ho]; exact h2, fun o h5 h6 => ?_, fun i x hx => ?_⟩
    · rw [ho] at h5 ⊢; rw [frozen_of_block h]; exact h3 o h5 h6
    · obtain ⟨d, h7, h8, h9⟩ := h4 i x hx
      exact ⟨d, by rw [ho, cell_of_block h]; exact h7, h8, h9.mono hG⟩
  | strIter s pos => exact ⟨by rw [ho, h]; exact r.1, by rw [ho]; exact r.2⟩
  | map es clock =>
    obtain ⟨ces, h1, h2, h3⟩ := r
    exact ⟨ces, by rw [ho, h]; exact h1, h2, fun i e c h4 h5 => let ⟨a, b, c⟩ := h3 i e c h4 h5; ⟨a, b.mono hG, c⟩⟩
  | loop st pd fn ts ps a b d =>
    obtain ⟨cts, h1, h2, h3⟩ := r
    exact ⟨cts, by rw [ho, h, hG.own d h3]; exact h1, h2.mono hG, Nat.lt_of_lt_of_le h3 hG.nxt⟩
  | marks t => show w'.heap[(G'.own id).1]? = _; rw [ho, h]; exact r
  | dead => trivial

theorem padSet_getD {α : Type} (d : α) : ∀ (l : List α) (n : Nat) (x : α) (j : Nat), (padSet d l n x).getD j d = if j = n then x else l.getD j d
  | [], 0, x, 0 => by simp [padSet]
  | [], 0, x, j + 1 => by simp [padSet]
  | [], n + 1, x, 0 => by simp [padSet]
  | [], n + 1, x, j + 1 => by
    have := padSet_getD d [] n x j
    simp only [padSet, List.getD_cons_succ, this, Nat.add_right_cancel_iff]
    simp
  | y :: r, 0, x, 0 => by simp [padSet]
  | y :: r, 0, x, j + 1 => by simp [padSet]
  | y :: r, n + 1, x, 0 => by simp [padSet]
  | y :: r, n + 1, x, j + 1 => by
    have := padSet_getD d r n x j
    simp only [padSet, List.getD_cons_succ, this, Nat.add_right_cancel_iff]
theorem at_put (m : List (List (List AObj))) (id : Nat) (o : AObj) (j : Nat) : ASt.at (ASt.put m id o) j = if j = id then o else ASt.at m j := by
  simp only [ASt.at, ASt.put, padSet_getD]
  by_cases h1 : j / 256 = id / 256
  · rw [if_pos h1, padSet_getD]
    by_cases h2 : j / 16 % 16 = id / 16 % 16
    · rw [if_pos h2, padSet_getD]
      by_cases h3 : j % 16 = id % 16
      · have : j = id := by omega
        rw [if_pos h3, if_pos this]
      · rw [if_neg h3, if_neg (fun e => h3 (by rw [e])), h1, h2]
    · rw [if_neg h2, if_neg (fun e => h2 (by rw [e])), h1]
  · rw [if_neg h1, if_neg (fun e => h1 (by rw [e]))]
theorem get_push (σ : ASt) (o : AObj) (id : Nat) : (σ.push o).get id = if id = σ.next then o.alive else σ.get id := by
  simp only [ASt.push, ASt.get, at_put]
  split <;> rfl
theorem get_push_ne {σ : ASt} {o : AObj} {id : Nat} (h : id < σ.next) : (σ.push o).get id = σ.get id := by
  rw [get_push, if_neg (by omega)]
theorem get_set_ne {σ : ASt} {o : AObj} {id j : Nat} (h : j ≠ id) : (σ.set id o).get j = σ.get j := by
  simp only [ASt.set, ASt.get, at_put, if_neg h]
theorem get_set_self {σ : ASt} {o ob : AObj} {id : Nat} (_h : σ.get id = some ob) : (σ.set id o).get id = o.alive := by
  simp only [ASt.set, ASt.get, at_put, if_pos]
theorem get_start (id : Nat) : (⟨0, []⟩ : ASt).get id = none := rfl
theorem get_set {σ : ASt} {o ob : AObj} {id j : Nat} {q : AObj} (h : σ.get id = some ob) (hj : (σ.set id o).get j = some q) : (j = id ∧ o.alive = some q) ∨ (j ≠ id ∧ σ.get j = some q) := by
  by_cases e : j = id
  · subst e; rw [get_set_self h] at hj; exact .inl ⟨rfl, hj⟩
  · rw [get_set_ne e] at hj; exact .inr ⟨e, hj⟩
theorem alive_some {o q : AObj} (h : o.alive = some q) : q = o ∧ o ≠ .dead := by
  cases o <;> simp only [AObj.alive] at h <;> first | (cases h; done) | (cases h; exact ⟨rfl, by simp⟩)
theorem get_kill {σ : ASt} {ob : AObj} {id j : Nat} {q : AObj} (h : σ.get id = some ob) (hj : (σ.kill id).get j = some q) : j ≠ id ∧ σ.get j = some q := by
  rcases get_set (o := .dead) h hj with ⟨_, h2⟩ | h2
  · simp [AObj.alive] at h2
  · exact h2

end Go.Ev
