/- The record of a region that draws, and what every other order finds; no condition. -/
import Derived.Test.YthfgghenofpbjaaGreatDoorEvDraw
namespace Go.Ev

section
variable (P : Program) (E : Env) (f : FuncId) (C : Calls') (ops : Array Oper)

def RecOk (r : Rec) : Prop :=
  (r.skip = true ∧ r.loud = false ∧ wantedA ops r.ts r.o = some false ∧ r.σ' = r.σ ∧ r.x = unset) ∨
  (r.skip = false ∧ r.loud = true ∧ wantedA ops r.ts r.o = some true ∧ loudVal P E f C r.σ r.ts r.o = some (r.x, r.σ')) ∨
  (r.skip = false ∧ r.loud = false ∧ wantedA ops r.ts r.o = some true ∧ isLoud P (E.keeps f) r.o.op = false ∧ (∃ s, evOp P E f r.σ r.ts r.o = some (.val r.x, s)) ∧ r.σ' = r.σ)

def Facts (ancs : List Nat) (l : List Oper) (j : Nat) (ts : List AVal) (σ : ASt) (tr : List Rec) (ts' : List AVal) (σ' : ASt) : Prop :=
  tr.length = l.length ∧ (∀ i r, tr[i]? = some r → l[i]? = some r.o ∧ r.j = j + i ∧ r.anc = ancs.getD (j + i) 0 ∧ RecOk P E f C ops r) ∧
  ∃ (T : Nat → List AVal) (S : Nat → ASt), T 0 = ts ∧ S 0 = σ ∧ T l.length = ts' ∧ S l.length = σ' ∧
    ∀ i r, tr[i]? = some r → r.ts = T i ∧ r.σ = S i ∧ T (i + 1) = put r.ts r.o.dst r.x ∧ S (i + 1) = r.σ'
end

section
variable {P : Program} {E : Env} {f : FuncId} {C : Calls'} {ops : Array Oper}

theorem Facts.cons {ancs : List Nat} {l : List Oper} {j : Nat} {tr : List Rec} {ts' : List AVal} {σ' : ASt} {r : Rec} (hj : r.j = j) (ha : r.anc = ancs.getD j 0) (hr : RecOk P E f C ops r)
    (h : Facts P E f C ops ancs l (j + 1) (put r.ts r.o.dst r.x) r.σ' tr ts' σ') : Facts P E f C ops ancs (r.o :: l) j r.ts r.σ (r :: tr) ts' σ' := by
  obtain ⟨h1, h2, T, S, t0, s0, tn, sn, h3⟩ := h
  refine ⟨by simp [h1], ?_, (fun | 0 => r.ts | n + 1 => T n), (fun | 0 => r.σ | n + 1 => S n), rfl, rfl, by simpa using tn, by simpa using sn, ?_⟩
  · intro i r' hi
    cases i with
    | zero => simp at hi; subst hi; exact ⟨rfl, by simpa using hj, by simpa using ha, hr⟩
    | succ i =>
      obtain ⟨a, b, c, d⟩ := h2 i r' (by simpa using hi)
      exact ⟨by simpa using a, by omega, by rw [c]; congr 1; omega, d⟩
  · intro i r' hi
    cases i with
    | zero => simp at hi; subst hi; exact ⟨rfl, rfl, t0, s0⟩
    | succ i => exact h3 i r' (by simpa using hi)

theorem draw_facts {ancs : List Nat} : ∀ (l : List Oper) (j : Nat) (ts : List AVal) (σ : ASt) (tr : List Rec) (ts' : List AVal) (σ' : ASt),
    runDraw P E f C ops ancs l j ts σ = some (tr, ts', σ') → Facts P E f C ops ancs l j ts σ tr ts' σ' := by
  intro l
  induction l with
  | nil =>
    intro j ts σ tr ts' σ' h
    simp only [runDraw, Option.some.injEq, Prod.mk.injEq] at h
    obtain ⟨h1, h2, h3⟩ := h
    subst h1; subst h2; subst h3
    exact ⟨rfl, fun i r hi => by simp at hi, fun _ => ts, fun _ => σ, rfl, rfl, rfl, rfl, fun i r hi => by simp at hi⟩
  | cons o l ih =>
    intro j ts σ tr ts' σ' h
    rw [runDraw.eq_def] at h
    simp only at h
    cases hw : wantedA ops ts o with
    | none => rw [hw] at h; simp at h
    | some b =>
      rw [hw] at h
      cases b with
      | false =>
        simp only [Option.map_eq_some_iff, Prod.exists, Prod.mk.injEq] at h
        obtain ⟨tr0, t1, s1, h0, e1, e2, e3⟩ := h
        subst e1; subst e2; subst e3
        exact Facts.cons (r := ⟨j, o, ancs.getD j 0, true, false, ts, σ, σ, unset⟩) rfl rfl (.inl ⟨rfl, rfl, hw, rfl, rfl⟩) (ih _ _ _ _ _ _ h0)
      | true =>
        simp only at h
        split at h
        · split at h
          · rename_i x s hx
            simp only [Option.map_eq_some_iff, Prod.exists, Prod.mk.injEq] at h
            obtain ⟨tr0, t1, s1, h0, e1, e2, e3⟩ := h
            subst e1; subst e2; subst e3
            exact Facts.cons (r := ⟨j, o, ancs.getD j 0, false, true, ts, σ, s, x⟩) rfl rfl (.inr (.inl ⟨rfl, rfl, hw, hx⟩)) (ih _ _ _ _ _ _ h0)
          · simp at h
        · rename_i hl
          split at h
          · rename_i x s hx
            simp only [Option.map_eq_some_iff, Prod.exists, Prod.mk.injEq] at h
            obtain ⟨tr0, t1, s1, h0, e1, e2, e3⟩ := h
            subst e1; subst e2; subst e3
            exact Facts.cons (r := ⟨j, o, ancs.getD j 0, false, false, ts, σ, σ, x⟩) rfl rfl (.inr (.inr ⟨rfl, rfl, hw, by simpa using hl, ⟨s, hx⟩, rfl⟩)) (ih _ _ _ _ _ _ h0)
          · simp at h

theorem pairsOk_get : ∀ {l : List Rec}, pairsOk P E f ops l = true → ∀ {i j : Nat} {a b : Rec}, i < j → l[i]? = some a → l[j]? = some b → pairOk P E f ops a b = true := by
  intro l
  induction l with
  | nil => intro _ i j a b _ ha; simp at ha
  | cons r l ih =>
    intro h i j a b hij ha hb
    simp only [pairsOk, Bool.and_eq_true, List.all_eq_true] at h
    cases j with
    | zero => omega
    | succ j =>
      have hb' : l[j]? = some b := by simpa using hb
      cases i with
      | zero =>
        simp at ha; subst ha
        exact h.1 _ (List.mem_of_getElem? hb')
      | succ i => exact ih h.2 (i := i) (j := j) (by omega) (by simpa using ha) hb'

theorem bitsOf_spec {acc : List Nat} {i : Nat} : ∀ (l : List Edge) (s : Nat), Nat.testBit (l.foldl (fun s e => if Region.binds .any e then (s ||| 2 ^ e.on) ||| acc.getD e.on 0 else s) s) i = true →
    Nat.testBit s i = true ∨ ∃ e ∈ l, Region.binds .any e = true ∧ (i = e.on ∨ Nat.testBit (acc.getD e.on 0) i = true) := by
  intro l
  induction l with
  | nil => intro s h; exact .inl h
  | cons e l ih =>
    intro s h
    rw [List.foldl_cons] at h
    rcases ih _ h with h1 | ⟨e', he', hb, hh⟩
    · by_cases hb : Region.binds .any e = true
      · rw [if_pos hb, Nat.testBit_or, Nat.testBit_or] at h1
        simp only [Bool.or_eq_true] at h1
        rcases h1 with (h1 | h1) | h1
        · exact .inl h1
        · rw [Nat.testBit_two_pow] at h1
          exact .inr ⟨e, List.mem_cons_self, hb, .inl (by have := h1; simp at this; omega)⟩
        · exact .inr ⟨e, List.mem_cons_self, hb, .inr h1⟩
      · rw [if_neg hb] at h1; exact .inl h1
    · exact .inr ⟨e', List.mem_cons_of_mem _ he', hb, hh⟩

theorem ancs_spec : ∀ (l : List Oper) (acc : List Nat), ∃ B, ancsFrom l acc = acc ++ B ∧ B.length = l.length ∧ ∀ i o, l[i]? = some o → B[i]? = some (bitsOf o (acc ++ B.take i)) := by
  intro l
  induction l with
  | nil => intro acc; exact ⟨[], by simp [ancsFrom], rfl, fun i o h => by simp at h⟩
  | cons o l ih =>
    intro acc
    obtain ⟨B, h1, h2, h3⟩ := ih (acc ++ [bitsOf o acc])
    refine ⟨bitsOf o acc :: B, by rw [ancsFrom, h1]; simp, by simp [h2], ?_⟩
    intro i o' hi
    cases i with
    | zero => simp at hi; subst hi; simp
    | succ i =>
      have := h3 i o' (by simpa using hi)
      simpa using this

theorem anc_closed {L : Nat → Prop} (hcl : ∀ i o, ops[i]? = some o → L i → ∀ e ∈ o.after, Region.binds .any e = true → L e.on) : ∀ (j : Nat) (o : Oper), ops[j]? = some o →
    (∀ e ∈ o.after, Region.binds .any e = true → L e.on) → ∀ i, Nat.testBit ((ancsFrom ops.toList []).getD j 0) i = true → L i := by
  obtain ⟨B, h1, h2, h3⟩ := ancs_spec ops.toList []
  rw [List.nil_append] at h1
  rw [h1]
  intro j
  induction j using Nat.strongRecOn with
  | _ j ih =>
    intro o ho he i hi
    have hB := h3 j o (by simpa using ho)
    rw [List.getD, hB, Option.getD_some, List.nil_append] at hi
    unfold bitsOf at hi
    rcases bitsOf_spec _ _ hi with h | ⟨e, hm, hb, hh⟩
    · simp at h
    · have hLe := he e (by simpa using hm) hb
      rcases hh with hh | hh
      · rw [hh]; exact hLe
      · by_cases hlt : e.on < j
        · rw [List.getD, List.getElem?_take, if_pos hlt] at hh
          have hj : j < ops.size := (Array.getElem?_eq_some_iff.1 ho).1
          have hon : ops[e.on]? = some (ops[e.on]'(by omega)) := Array.getElem?_eq_getElem _
          exact ih e.on hlt _ hon (hcl _ _ hon hLe) i hh
        · rw [List.getD, List.getElem?_take, if_neg hlt] at hh
          simp at hh
end

/-! Temporaries after some of the operations, in the order of the text. -/
theorem setAt_length : ∀ (l : List AVal) (n : Nat) (x : AVal), (setAt l n x).length = l.length
  | [], _, _ => rfl
  | _ :: _, 0, _ => rfl
  | _ :: l, n + 1, x => by simp [setAt, setAt_length l n x]
theorem put_length {l : List AVal} {d : Option Tmp} {x : AVal} : (put l d x).length = l.length := by
  cases d with
  | none => rfl
  | some d => exact setAt_length l d x
theorem setAt_ne : ∀ (l : List AVal) (n t : Nat) (x : AVal), n ≠ t → (setAt l n x).getD t .junk = l.getD t .junk
  | [], _, _, _, _ => rfl
  | _ :: _, 0, 0, _, h => absurd rfl h
  | _ :: _, 0, t + 1, _, _ => by simp [setAt]
  | _ :: _, n + 1, 0, _, _ => by simp [setAt]
  | _ :: l, n + 1, t + 1, x, h => by
    have := setAt_ne l n t x (by omega)
    simpa [setAt] using this
theorem setAt_same : ∀ (l l' : List AVal) (n : Nat) (x : AVal), l.length = l'.length → (setAt l n x).getD n .junk = (setAt l' n x).getD n .junk
  | [], [], _, _, _ => rfl
  | [], _ :: _, _, _, h => by simp at h
  | _ :: _, [], _, _, h => by simp at h
  | _ :: _, _ :: _, 0, _, _ => by simp [setAt]
  | _ :: l, _ :: l', n + 1, x, h => by
    have := setAt_same l l' n x (by simpa using h)
    simpa [setAt] using this
theorem setAt_comm : ∀ (l : List AVal) (n m : Nat) (x y : AVal), n ≠ m → setAt (setAt l n x) m y = setAt (setAt l m y) n x
  | [], _, _, _, _, _ => rfl
  | _ :: _, 0, 0, _, _, h => absurd rfl h
  | _ :: _, 0, _ + 1, _, _, _ => rfl
  | _ :: _, _ + 1, 0, _, _, _ => rfl
  | _ :: l, n + 1, m + 1, x, y, h => by simp only [setAt]; rw [setAt_comm l n m x y (by omega)]
theorem put_comm {l : List AVal} {d e : Option Tmp} {x y : AVal} (h : ∀ t, d = some t → e ≠ some t) : put (put l d x) e y = put (put l e y) d x := by
  cases d with
  | none => rfl
  | some d =>
    cases e with
    | none => rfl
    | some e => exact setAt_comm l d e x y (fun hq => h d rfl (by rw [hq]))
theorem put_ne {l : List AVal} {d : Option Tmp} {t : Nat} {x : AVal} (h : d ≠ some t) : (put l d x).getD t .junk = l.getD t .junk := by
  cases d with
  | none => rfl
  | some d => exact setAt_ne l d t x (fun hq => h (by rw [hq]))

section
variable (D : Nat → Option Tmp) (V : Nat → AVal)
def tsOn (S : Nat → Bool) (ts : List AVal) : Nat → List AVal
  | 0 => ts
  | n + 1 => if S n then put (tsOn S ts n) (D n) (V n) else tsOn S ts n
end
section
variable {D : Nat → Option Tmp} {V : Nat → AVal} {S S' : Nat → Bool} {ts : List AVal}
theorem tsOn_length : ∀ n, (tsOn D V S ts n).length = ts.length
  | 0 => rfl
  | n + 1 => by simp only [tsOn]; split <;> simp [put_length, tsOn_length n]
theorem tsOn_congr : ∀ n, (∀ i, i < n → S i = S' i) → tsOn D V S ts n = tsOn D V S' ts n
  | 0, _ => rfl
  | n + 1, h => by simp only [tsOn]; rw [h n (by omega), tsOn_congr n fun i hi => h i (by omega)]
theorem tsOn_stop {j : Nat} : ∀ n, j ≤ n → (∀ i, j ≤ i → S i = false) → tsOn D V S ts n = tsOn D V S ts j
  | 0, h, _ => by rw [show j = 0 by omega]
  | n + 1, h, hS => by
    by_cases hj : j = n + 1
    · rw [hj]
    · simp only [tsOn]
      rw [hS n (by omega), tsOn_stop n (by omega) hS]
      simp
theorem tsOn_at {t : Nat} : ∀ n, (∀ i, i < n → D i = some t → S i = S' i) → (tsOn D V S ts n).getD t .junk = (tsOn D V S' ts n).getD t .junk
  | 0, _ => rfl
  | n + 1, h => by
    have ih := tsOn_at n fun i hi => h i (by omega)
    simp only [tsOn]
    by_cases hd : D n = some t
    · rw [h n (by omega) hd]
      split
      · rw [hd]; exact setAt_same _ _ _ _ (by rw [tsOn_length, tsOn_length])
      · exact ih
    · split <;> split <;> (try simp only [put_ne hd]) <;> exact ih
theorem tsOn_more {j : Nat} (hS : S j = false) : ∀ n, j < n → (∀ i, j < i → i < n → S i = true → ∀ d, D j = some d → D i ≠ some d) →
    tsOn D V (fun i => S i || i == j) ts n = put (tsOn D V S ts n) (D j) (V j)
  | 0, h, _ => by omega
  | n + 1, h, hc => by
    simp only [tsOn]
    by_cases hj : j = n
    · subst hj
      simp only [beq_self_eq_true, Bool.or_true, if_true, hS]
      rw [tsOn_congr (S := fun i => S i || i == j) (S' := S) j fun i hi => by
        have : (i == j) = false := by rw [beq_eq_false_iff_ne]; omega
        simp [this]]
      simp
    · have ih := tsOn_more hS n (by omega) fun i h1 h2 => hc i h1 (by omega)
      rw [ih]
      by_cases hs : S n = true
      · rw [if_pos hs, if_pos (by simp [hs])]
        exact put_comm fun d hd => hc n (by omega) (by omega) hs d hd
      · have hnj : ¬ n = j := fun h => hj h.symm
        rw [if_neg hs, if_neg (by simp [hs, hnj])]
end
end Go.Ev
