/- A region that draws: whatever order it draws, each operation finds what it found in the order of the text; no condition. -/
import Derived.Test.YthfgghenofpbjaaGreatDoorEvDraw2
namespace Go.Ev

theorem mem_namesOf_dst {ops : Array Oper} {o : Oper} {t : Tmp} (h : o.dst = some t) : t ∈ namesOf ops o := by simp [namesOf, h]
theorem mem_namesOf_operand {ops : Array Oper} {o : Oper} {t : Tmp} (h : .tmp t ∈ o.op.operands) : t ∈ namesOf ops o := by
  unfold namesOf
  refine List.mem_append.2 (.inr (List.mem_append.2 (.inr ?_)))
  exact List.mem_filterMap.2 ⟨.tmp t, by simpa using h, rfl⟩
theorem mem_namesOf_guard {ops : Array Oper} {o : Oper} {t j : Nat} {b : Bool} (h : o.guard = some (j, b)) (ht : (ops[j]?).bind (·.dst) = some t) : t ∈ namesOf ops o := by
  simp [namesOf, h, ht]

theorem apartB_spec {ops : Array Oper} {x y : Oper} (h : apartB ops x y = true) : (∀ t, x.dst = some t → t ∉ namesOf ops y) ∧ (∀ t, y.dst = some t → t ∉ namesOf ops x) := by
  unfold apartB at h
  simp only [Bool.and_eq_true] at h
  refine ⟨fun t ht hm => ?_, fun t ht hm => ?_⟩
  · have := h.1; rw [ht] at this; simp [hm] at this
  · have := h.2; rw [ht] at this; simp [hm] at this

section
variable {P : Program} {E : Env} {f : FuncId} {C : Calls'} {ops : Array Oper}

theorem wanted_congr {ts ts' : List AVal} {o : Oper} (h : ∀ t ∈ namesOf ops o, ts.getD t .junk = ts'.getD t .junk) : wantedA ops ts o = wantedA ops ts' o := by
  unfold wantedA
  cases hg : o.guard with
  | none => rfl
  | some p =>
    obtain ⟨j, b⟩ := p
    simp only
    cases hd : (ops[j]?).bind (·.dst) with
    | none => rfl
    | some d => simp only [h d (mem_namesOf_guard hg hd)]

theorem evOp_names {σ : ASt} {ts ts' : List AVal} {o : Oper} (h : ∀ t ∈ namesOf ops o, ts.getD t .junk = ts'.getD t .junk) : evOp P E f σ ts o = evOp P E f σ ts' o :=
  evOp_congr fun x hx => by
    cases x with
    | tmp t => exact h t (mem_namesOf_operand hx)
    | _ => rfl

/-- All that is known of a record that passed. -/
structure Plan (P : Program) (E : Env) (f : FuncId) (C : Calls') (ops : Array Oper) (tr : List Rec) (ts : List AVal) (T : Nat → List AVal) (S : Nat → ASt) : Prop where
  len : tr.length = ops.size
  t0 : T 0 = ts
  rec_ : ∀ (i : Nat) (r : Rec), tr[i]? = some r → ops[i]? = some r.o ∧ r.j = i ∧ r.anc = (ancsFrom ops.toList []).getD i 0 ∧ RecOk P E f C ops r
  step : ∀ (i : Nat) (r : Rec), tr[i]? = some r → r.ts = T i ∧ r.σ = S i ∧ T (i + 1) = put r.ts r.o.dst r.x ∧ S (i + 1) = r.σ'
  back : ∀ (i : Nat) (r : Rec), tr[i]? = some r → ∀ e ∈ r.o.after, Region.binds .any e = true → e.on < i
  pair : ∀ (i j : Nat) (a b : Rec), i < j → tr[i]? = some a → tr[j]? = some b → pairOk P E f ops a b = true

def dOf (tr : List Rec) (i : Nat) : Option Tmp := (tr[i]?).bind (·.o.dst)
def vOf (tr : List Rec) (i : Nat) : AVal := ((tr[i]?).map (·.x)).getD unset

variable {tr : List Rec} {ts : List AVal} {T : Nat → List AVal} {S : Nat → ASt}

theorem Plan.at (h : Plan P E f C ops tr ts T S) {i : Nat} (hi : i < ops.size) : ∃ r, tr[i]? = some r := ⟨tr[i]'(by rw [h.len]; exact hi), List.getElem?_eq_getElem _⟩

theorem Plan.T_eq (h : Plan P E f C ops tr ts T S) : ∀ j, j ≤ ops.size → T j = tsOn (dOf tr) (vOf tr) (fun _ => true) ts j
  | 0, _ => h.t0
  | j + 1, hj => by
    obtain ⟨r, hr⟩ := h.at (i := j) (by omega)
    obtain ⟨h1, _, h3, _⟩ := h.step j r hr
    rw [h3, h1, h.T_eq j (by omega)]
    simp [tsOn, dOf, vOf, hr]

theorem Plan.quiet_S (h : Plan P E f C ops tr ts T S) {i : Nat} {r : Rec} (hr : tr[i]? = some r) (hl : r.loud = false) : S (i + 1) = S i := by
  obtain ⟨_, h2, _, h4⟩ := h.step i r hr
  obtain ⟨_, _, _, hk⟩ := h.rec_ i r hr
  rw [h4, ← h2]
  rcases hk with ⟨_, _, _, e, _⟩ | ⟨_, hk, _⟩ | ⟨_, _, _, _, _, e⟩
  · exact e
  · rw [hl] at hk; simp at hk
  · exact e

/-- From a place up to one behind it: memory is the same, or the first loud one between found it as it is at the place. -/
theorem Plan.first_loud (h : Plan P E f C ops tr ts T S) : ∀ (n c : Nat), c + n ≤ ops.size → S c = S (c + n) ∨ ∃ q r, c ≤ q ∧ q < c + n ∧ tr[q]? = some r ∧ r.loud = true ∧ S q = S c
  | 0, c, _ => .inl rfl
  | n + 1, c, hn => by
    obtain ⟨r, hr⟩ := h.at (i := c) (by omega)
    cases hl : r.loud with
    | true => exact .inr ⟨c, r, Nat.le_refl _, by omega, hr, hl, rfl⟩
    | false =>
      have hs := h.quiet_S hr hl
      rcases h.first_loud n (c + 1) (by omega) with e | ⟨q, r', h1, h2, h3, h4, h5⟩
      · exact .inl (by rw [← hs, e]; congr 1; omega)
      · exact .inr ⟨q, r', by omega, by omega, h3, h4, by rw [h5, hs]⟩
theorem Plan.last_loud (h : Plan P E f C ops tr ts T S) (j : Nat) : ∀ n, j + n ≤ ops.size → S j = S (j + n) ∨ ∃ q r, j ≤ q ∧ q < j + n ∧ tr[q]? = some r ∧ r.loud = true ∧ S (q + 1) = S (j + n)
  | 0, _ => .inl rfl
  | n + 1, hn => by
    obtain ⟨r, hr⟩ := h.at (i := j + n) (by omega)
    cases hl : r.loud with
    | true => exact .inr ⟨j + n, r, by omega, by omega, hr, hl, rfl⟩
    | false =>
      have hs := h.quiet_S hr hl
      rcases h.last_loud j n (by omega) with e | ⟨q, r', h1, h2, h3, h4, h5⟩
      · exact .inl (by rw [e, ← hs]; rfl)
      · exact .inr ⟨q, r', h1, by omega, h3, h4, by rw [h5, ← hs]; rfl⟩

/-- What stands after some of the operations are done. -/
structure Inv (ops : Array Oper) (tr : List Rec) (ts : List AVal) (S : Nat → ASt) (L : Nat → Bool) (st : St) : Prop where
  ts_ : st.ts = tsOn (dOf tr) (vOf tr) L ts ops.size
  cut : ∃ c, c ≤ ops.size ∧ st.σ = S c ∧ ∀ i r, tr[i]? = some r → r.loud = true → (L i = true ↔ i < c)
  closed : ∀ i o, ops[i]? = some o → L i = true → ∀ e ∈ o.after, Region.binds .any e = true → L e.on = true
  small : ∀ i, L i = true → i < ops.size

theorem Inv.next (h : Plan P E f C ops tr ts T S) {L : Nat → Bool} {st : St} (hI : Inv ops tr ts S L st) {j : Nat} {r : Rec} (hr : tr[j]? = some r) (hj : L j = false)
    (he : ∀ e ∈ r.o.after, Region.binds .any e = true → L e.on = true) (rd : Bool) :
    ∃ σ', runAt P E f C rd ops st r.o = some (.next { st with ts := put st.ts r.o.dst r.x, σ := σ' }) ∧
      Inv ops tr ts S (fun i => L i || i == j) { st with ts := put st.ts r.o.dst r.x, σ := σ' } := by
  obtain ⟨ho, hrj, hra, hok⟩ := h.rec_ j r hr
  obtain ⟨s1, s2, s3, s4⟩ := h.step j r hr
  have hjn : j < ops.size := (Array.getElem?_eq_some_iff.1 ho).1
  obtain ⟨c, hc, hσ, hlouds⟩ := hI.cut
  -- all that are ahead of j are done
  have hanc : ∀ i, Nat.testBit r.anc i = true → L i = true := by
    rw [hra]; exact anc_closed (L := fun i => L i = true) hI.closed j r.o ho he
  -- whoever is done has all that are ahead of it done
  have hanc' : ∀ i q, tr[i]? = some q → L i = true → ∀ k, Nat.testBit q.anc k = true → L k = true := by
    intro i q hq hLi
    obtain ⟨ho', _, ha', _⟩ := h.rec_ i q hq
    rw [ha']
    exact anc_closed (L := fun i => L i = true) hI.closed i q.o ho' (hI.closed i q.o ho' hLi)
  -- those ahead in the text that are not done are apart; so are those behind in the text that are done
  have hfore : ∀ i q, i < j → tr[i]? = some q → L i = false → pairOk P E f ops q r = true ∧ Nat.testBit r.anc q.j = false := by
    intro i q hij hq hL
    refine ⟨h.pair i j q r hij hq hr, ?_⟩
    rw [(h.rec_ i q hq).2.1]
    cases hb : Nat.testBit r.anc i with
    | false => rfl
    | true => rw [hanc i hb] at hL; simp at hL
  have hback : ∀ i q, j < i → tr[i]? = some q → L i = true → pairOk P E f ops r q = true ∧ Nat.testBit q.anc r.j = false := by
    intro i q hij hq hL
    refine ⟨h.pair j i r q hij hr hq, ?_⟩
    rw [hrj]
    cases hb : Nat.testBit q.anc j with
    | false => rfl
    | true => rw [hanc' i q hq hL j hb] at hj; simp at hj
  have fore_apart : ∀ i q, i < j → tr[i]? = some q → L i = false → apartB ops q.o r.o = true := by
    intro i q hij hq hL
    obtain ⟨hp, hn⟩ := hfore i q hij hq hL
    unfold pairOk at hp
    rw [hn] at hp
    simp only [Bool.false_or, Bool.and_eq_true] at hp
    exact hp.1
  have back_apart : ∀ i q, j < i → tr[i]? = some q → L i = true → apartB ops r.o q.o = true := by
    intro i q hij hq hL
    obtain ⟨hp, hn⟩ := hback i q hij hq hL
    unfold pairOk at hp
    rw [hn] at hp
    simp only [Bool.false_or, Bool.and_eq_true] at hp
    exact hp.1
  -- so j finds its names as in the text's order
  have hnames : ∀ t ∈ namesOf ops r.o, st.ts.getD t .junk = r.ts.getD t .junk := by
    intro t ht
    rw [s1, h.T_eq j (by omega), hI.ts_, ← tsOn_congr (S := fun i => decide (i < j)) j fun i hi => by simp [hi],
      ← tsOn_stop (S := fun i => decide (i < j)) ops.size (by omega) fun i hi => by simp; omega]
    refine tsOn_at _ fun i hi hd => ?_
    obtain ⟨q, hq⟩ := h.at hi
    have hdq : q.o.dst = some t := by simpa [dOf, hq] using hd
    by_cases hij : i < j
    · simp only [hij, decide_true]
      cases hL : L i with
      | true => rfl
      | false => exact absurd ht ((apartB_spec (fore_apart i q hij hq hL)).1 t hdq)
    · simp only [hij, decide_false]
      by_cases hij' : i = j
      · rw [hij']; exact hj
      · cases hL : L i with
        | false => rfl
        | true => exact absurd ht ((apartB_spec (back_apart i q (by omega) hq hL)).2 t hdq)
  have hwant : wantedA ops st.ts r.o = wantedA ops r.ts r.o := wanted_congr hnames
  have hev : ∀ σ, evOp P E f σ st.ts r.o = evOp P E f σ r.ts r.o := fun σ => evOp_names hnames
  -- what stands afterwards
  have hfin : ∀ σ', (∃ c, c ≤ ops.size ∧ σ' = S c ∧ ∀ i q, tr[i]? = some q → q.loud = true → ((L i || i == j) = true ↔ i < c)) →
      Inv ops tr ts S (fun i => L i || i == j) { st with ts := put st.ts r.o.dst r.x, σ := σ' } := by
    intro σ' hcut
    refine ⟨?_, hcut, ?_, ?_⟩
    · show put st.ts r.o.dst r.x = _
      rw [tsOn_more hj ops.size hjn, hI.ts_]
      · simp [dOf, vOf, hr]
      · intro i hij hi hL d hd hd'
        obtain ⟨q, hq⟩ := h.at hi
        have h1 : r.o.dst = some d := by simpa [dOf, hr] using hd
        have h2 : q.o.dst = some d := by simpa [dOf, hq] using hd'
        exact (apartB_spec (back_apart i q hij hq hL)).2 d h2 (mem_namesOf_dst h1)
    · intro i o hio hL e hm hb
      simp only [Bool.or_eq_true, beq_iff_eq] at hL ⊢
      rcases hL with hL | hL
      · exact .inl (hI.closed i o hio hL e hm hb)
      · subst hL
        rw [ho] at hio; simp only [Option.some.injEq] at hio; subst hio
        exact .inl (he e hm hb)
    · intro i hL
      simp only [Bool.or_eq_true, beq_iff_eq] at hL
      rcases hL with hL | hL
      · exact hI.small i hL
      · omega
  -- where j is not loud, the cut stays
  have hstay : r.loud = false → ∃ c', c' ≤ ops.size ∧ st.σ = S c' ∧ ∀ i q, tr[i]? = some q → q.loud = true → ((L i || i == j) = true ↔ i < c') := by
    intro hl
    refine ⟨c, hc, hσ, fun i q hq hql => ?_⟩
    rw [← hlouds i q hq hql]
    simp only [Bool.or_eq_true, beq_iff_eq]
    refine ⟨fun hx => hx.elim id fun hx => ?_, .inl⟩
    subst hx; rw [hr] at hq; simp only [Option.some.injEq] at hq; subst hq; rw [hl] at hql; simp at hql
  rcases hok with ⟨k1, k2, k3, k4, k5⟩ | ⟨k1, k2, k3, k4⟩ | ⟨k1, k2, k3, k4, ⟨s, k5⟩, k6⟩
  · -- skipped
    refine ⟨st.σ, ?_, hfin _ (hstay k2)⟩
    unfold runAt
    rw [hwant, k3, k5]
  · -- loud: all loud ones ahead of it in the text are done, and none behind
    have hcut : ∀ i q, tr[i]? = some q → q.loud = true → (L i = true ↔ i < j) := by
      intro i q hq hql
      constructor
      · intro hL
        rcases Nat.lt_trichotomy i j with hlt | heq | hgt
        · exact hlt
        · rw [heq, hj] at hL; simp at hL
        · obtain ⟨hp, hn⟩ := hback i q hgt hq hL
          unfold pairOk at hp
          rw [hn, k2, hql] at hp
          simp at hp
      · intro hlt
        cases hL : L i with
        | true => rfl
        | false =>
          obtain ⟨hp, hn⟩ := hfore i q hlt hq hL
          unfold pairOk at hp
          rw [hn, k2, hql] at hp
          simp at hp
    have hSj : st.σ = r.σ := by
      rw [hσ, s2]
      rcases Nat.le_total c j with hcj | hcj
      · obtain ⟨n, rfl⟩ := Nat.exists_eq_add_of_le hcj
        rcases h.first_loud n c (by omega) with e | ⟨q, rq, h1, h2, h3, h4, _⟩
        · exact e
        · have := (hlouds q rq h3 h4).1 ((hcut q rq h3 h4).2 h2); omega
      · obtain ⟨n, rfl⟩ := Nat.exists_eq_add_of_le hcj
        rcases h.last_loud j n (by omega) with e | ⟨q, rq, h1, h2, h3, h4, _⟩
        · exact e.symm
        · have := (hcut q rq h3 h4).1 ((hlouds q rq h3 h4).2 h2); omega
    refine ⟨r.σ', ?_, hfin _ ⟨j + 1, by omega, s4.symm, fun i q hq hql => ?_⟩⟩
    · unfold runAt
      rw [hwant, k3]
      simp only
      unfold runOp
      rw [hev, hSj]
      unfold loudVal at k4
      split at k4
      · rename_i x σ1 hx
        simp only [Option.some.injEq, Prod.mk.injEq] at k4
        rw [hx, k4.1, k4.2]
      · rename_i g args σ1 hx
        split at k4
        · rename_i x σ2 m hy
          simp only [Option.some.injEq, Prod.mk.injEq] at k4
          rw [hx]; simp only; rw [hy, k4.1, k4.2]
        · simp at k4
      · simp at k4
    · simp only [Bool.or_eq_true, beq_iff_eq]
      rw [hcut i q hq hql]; omega
  · -- quiet
    refine ⟨st.σ, ?_, hfin _ (hstay k2)⟩
    have hval : ∃ s', evOp P E f st.σ r.ts r.o = some (.val r.x, s') := by
      have ofOk : ∀ σ, quietOk P E f σ r.ts r.o r.x = true → ∃ s', evOp P E f σ r.ts r.o = some (.val r.x, s') := by
        intro σ hq
        unfold quietOk at hq
        split at hq
        · rename_i y s' hy
          exact ⟨s', by rw [hy, aeq_eq _ _ hq]⟩
        · simp at hq
      rw [hσ]
      rcases Nat.le_total c j with hcj | hcj
      · obtain ⟨n, rfl⟩ := Nat.exists_eq_add_of_le hcj
        rcases h.first_loud n c (by omega) with e | ⟨q, rq, h1, h2, h3, h4, h5⟩
        · rw [e, ← s2]; exact ⟨s, k5⟩
        · have hL : L q = false := by
            cases hL : L q with
            | false => rfl
            | true => have := (hlouds q rq h3 h4).1 hL; omega
          obtain ⟨hp, hn⟩ := hfore q rq h2 h3 hL
          unfold pairOk at hp
          rw [hn, h4, k2] at hp
          simp only [Bool.false_or, Bool.and_eq_true, k1] at hp
          rw [← h5, ← (h.step q rq h3).2.1]
          exact ofOk _ hp.2
      · obtain ⟨n, rfl⟩ := Nat.exists_eq_add_of_le hcj
        rcases h.last_loud j n (by omega) with e | ⟨q, rq, h1, h2, h3, h4, h5⟩
        · rw [← e, ← s2]; exact ⟨s, k5⟩
        · have hL : L q = true := (hlouds q rq h3 h4).2 h2
          have hqj : j < q := by
            rcases Nat.lt_or_eq_of_le h1 with h1 | h1
            · exact h1
            · subst h1; rw [hr] at h3; simp only [Option.some.injEq] at h3; subst h3; rw [k2] at h4; simp at h4
          obtain ⟨hp, hn⟩ := hback q rq hqj h3 hL
          unfold pairOk at hp
          rw [hn, h4, k2] at hp
          simp only [Bool.false_or, Bool.and_eq_true, k1] at hp
          rw [← h5, (h.step q rq h3).2.2.2]
          exact ofOk _ hp.2
    obtain ⟨s', hval⟩ := hval
    have hs' : s' = st.σ := quiet_same k4 _ _ hval
    subst hs'
    unfold runAt
    rw [hwant, k3]
    simp only
    unfold runOp
    rw [hev, hval]
end
end Go.Ev
