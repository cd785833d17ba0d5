/- Regions in the text's order; code; no condition. -/
import Derived.Test.YthfgghenofpbjaaGreatDoorEvCtl
import Derived.Test.YthfgghenofpbjaaGreatDoorEvDraw3
namespace Go.Ev

section
variable {P : Program} {E : Env} {G : Ghost} {w : World} {C : Calls'} {f : FuncId}

theorem wanted_sound {ops : Array Oper} {ts : List AVal} {tmps : Array Value} {o : Oper} {t : Bool} (h : wantedA ops ts o = some t) (hv : VRs G ts tmps.toList) : Region.wanted o (yielded ops tmps) = t := by
  unfold wantedA at h
  unfold Region.wanted
  split at h
  · rename_i hg; rw [hg]; simpa using h
  · rename_i j want hg
    rw [hg]
    simp only
    split at h
    · simp at h
    · rename_i d hd
      have key : ∀ x, ts.getD d .junk = x → x ≠ .junk → ∃ v, tmps[d]? = some v ∧ VR G x v := by
        intro x hx hn
        rw [List.getD] at hx
        cases hq : ts[d]? with
        | none => rw [hq] at hx; exact absurd hx.symm hn
        | some y =>
          rw [hq] at hx
          simp only [Option.getD_some] at hx; subst hx
          obtain ⟨v, h1, h2⟩ := hv.exists hq
          exact ⟨v, by simpa using h1, h2⟩
      split at h
      · rename_i b hb
        obtain ⟨v, h1, h2⟩ := key _ hb (by simp)
        cases h2
        simp only [yielded, hd, Option.bind_some, h1]
        simpa using h
      · rename_i hb
        obtain ⟨v, h1, h2⟩ := key _ hb (by simp)
        cases h2
        simp only [yielded, hd, Option.bind_some, h1]
        simpa using h
      · simp at h

theorem runAt_sound (hC : FnSound P E C) (hR : RoundSound P E C) {rd : Bool} {st : St} {o : Oper} {r : ORun} {ops : Array Oper} (h : runAt P E f C rd ops st o = some r) (hW : WR G st.σ w) (hG : GlobR G E)
    {a : Act} (hA : ActR G st a) {b : Frame} {cs : List Frame} (hX : Ctx G st.mode b cs) (hrd : b.roundOf.isSome = rd) {i : Nat} {rest : List Nat} {k : List Item} (ho : ops[i]? = some o) :
    RunR P G r (lone (b.atR a (.inRegion ops (i :: rest) :: k)) cs w) b (.inRegion ops rest :: k) cs st.mode := by
  unfold runAt at h
  split at h
  · rename_i hw
    exact runOp_sound hC hR h hW hG hA hX hrd ho (wanted_sound hw hA.ts)
  · rename_i hw
    simp only [Option.some.injEq] at h; subst h
    have hw' := wanted_sound hw hA.ts
    have hs := stepR_op_skip (P := P) (b := b) (a := a) (k := k) (cs := cs) (w := w) (ops := ops) (i := i) (rest := rest) (by simp [ho, hw'])
    simp only [ho, Option.bind_some] at hs
    exact ⟨G, a.put o.dst undef, w, cs, .refl G, hW, act_put hA (.v undef) o.dst st.σ st.mode, hX, Rest.refl hX, rfl, .one hs⟩
  · simp at h

theorem RunR.next_trans {st : St} {m : Machine} {b : Frame} {k k' : List Item} {cs : List Frame} {md : Option AMode} {r : ORun}
    (h : RunR P G (.next st) m b k cs md)
    (hk : ∀ G' a w' cs', G.Le G' → WR G' st.σ w' → ActR G' st a → Ctx G' st.mode b cs' → RunR P G' r (lone (b.atR a k) cs' w') b k' cs' st.mode) : RunR P G r m b k' cs md := by
  obtain ⟨G1, a1, w1, cs1, le1, h1, h2, h3, h4, h5, h6⟩ := h
  have := hk G1 a1 w1 cs1 le1 h1 h2 h3
  cases r with
  | next st' =>
    obtain ⟨G2, a2, w2, cs2, le2, q1, q2, q3, q4, q5, q6⟩ := this
    exact ⟨G2, a2, w2, cs2, le1.trans le2, q1, q2, q3, h4.trans h5 q4, h5.trans q5, h6.trans q6⟩
  | panic ch st' =>
    obtain ⟨G2, a2, w2, cs2, cch, todo, le2, q1, q2, q3, q4, q5, q6, q7⟩ := this
    exact ⟨G2, a2, w2, cs2, cch, todo, le1.trans le2, q1, q2, q3, h4.trans h5 q4, h5.trans q5, q6, h6.trans q7⟩

theorem runSeq_sound (hC : FnSound P E C) (hR : RoundSound P E C) {rd : Bool} {ops : Array Oper} : ∀ (l : List Oper) (j : Nat) {G : Ghost} {w : World} {st : St} {r : ORun}, (∀ i o, l[i]? = some o → ops[j + i]? = some o) →
    runSeq P E f C rd ops l st = some r → WR G st.σ w → GlobR G E → ∀ {a : Act}, ActR G st a → ∀ {b : Frame} {cs : List Frame}, Ctx G st.mode b cs → b.roundOf.isSome = rd → ∀ {k : List Item},
    RunR P G r (lone (b.atR a (.inRegion ops (List.range' j l.length) :: k)) cs w) b k cs st.mode := by
  intro l
  induction l with
  | nil =>
    intro j G w st r _ h hW hG a hA b cs hX hrd k
    simp only [runSeq, Option.some.injEq] at h; subst h
    exact ⟨G, a, w, cs, .refl G, hW, hA, hX, Rest.refl hX, rfl, .one stepR_region_end⟩
  | cons o l ih =>
    intro j G w st r hl h hW hG a hA b cs hX hrd k
    simp only [runSeq] at h
    have ho : ops[j]? = some o := hl 0 o rfl
    rw [List.length_cons, List.range'_succ]
    cases hr : runAt P E f C rd ops st o with
    | none => rw [hr] at h; simp at h
    | some r1 =>
      rw [hr] at h
      have h1 := runAt_sound hC hR hr hW hG hA hX hrd (rest := List.range' (j + 1) l.length) (k := k) ho
      cases r1 with
      | next st1 =>
        simp only at h
        refine h1.next_trans fun G' a' w' cs' le hW' hA' hX' => ?_
        exact ih (j + 1) (fun i o' hi => by have := hl (i + 1) o' (by simpa using hi); rwa [show j + 1 + i = j + (i + 1) by omega]) h hW' (hG.mono le) hA' hX' hrd
      | panic ch st1 =>
        simp only [Option.some.injEq] at h; subst h
        exact h1

def cnt (L : Nat → Bool) : Nat → Nat
  | 0 => 0
  | n + 1 => cnt L n + if L n then 0 else 1
theorem cnt_zero {L : Nat → Bool} : ∀ n, cnt L n = 0 → ∀ i, i < n → L i = true
  | 0, _, i, hi => by omega
  | n + 1, h, i, hi => by
    simp only [cnt] at h
    cases hL : L n with
    | false => rw [hL] at h; simp at h
    | true =>
      by_cases hin : i = n
      · rw [hin]; exact hL
      · exact cnt_zero n (by omega) i (by omega)
theorem cnt_congr {L L' : Nat → Bool} : ∀ n, (∀ i, i < n → L i = L' i) → cnt L n = cnt L' n
  | 0, _ => rfl
  | n + 1, h => by simp only [cnt]; rw [cnt_congr n fun i hi => h i (by omega), h n (by omega)]
theorem cnt_more {L : Nat → Bool} {j : Nat} (hj : L j = false) : ∀ n, j < n → cnt (fun i => L i || i == j) n + 1 = cnt L n
  | 0, h => by omega
  | n + 1, h => by
    simp only [cnt]
    by_cases hjn : n = j
    · subst hjn
      rw [cnt_congr (L := fun i => L i || i == n) (L' := L) n fun i hi => by
        have : (i == n) = false := by rw [beq_eq_false_iff_ne]; omega
        simp [this]]
      simp [hj]
    · have ih := cnt_more hj n (by omega)
      have : (n == j) = false := by rw [beq_eq_false_iff_ne]; exact hjn
      simp only [this, Bool.or_false]
      omega

theorem Inv.done {ops : Array Oper} {tr : List Rec} {ts : List AVal} {T : Nat → List AVal} {S : Nat → ASt} (h : Plan P E f C ops tr ts T S) {L : Nat → Bool} {st : St} (hI : Inv ops tr ts S L st)
    (hall : ∀ i, i < ops.size → L i = true) : st = { st with ts := T ops.size, σ := S ops.size } := by
  have h1 : st.ts = T ops.size := by
    rw [hI.ts_, h.T_eq _ (Nat.le_refl _)]; exact tsOn_congr _ fun i hi => hall i hi
  have h2 : st.σ = S ops.size := by
    obtain ⟨c, hc, hσ, hl⟩ := hI.cut
    obtain ⟨n, hn⟩ := Nat.exists_eq_add_of_le hc
    rcases h.first_loud n c (by omega) with e | ⟨q, r, q1, q2, q3, q4, _⟩
    · rw [hσ, e, hn]
    · have := (hl q r q3 q4).1 (hall q (by omega)); omega
  cases st
  simp only at h1 h2
  subst h1; subst h2; rfl

theorem drawn_sound (hC : FnSound P E C) (hR : RoundSound P E C) {rd : Bool} {ops : Array Oper} {tr : List Rec} {ts : List AVal} {T : Nat → List AVal} {S : Nat → ASt} (h : Plan P E f C ops tr ts T S) :
    ∀ (fuel t : Nat) (listed : Array Bool) {G : Ghost} {w : World} {st : St}, listed.size = ops.size → Inv ops tr ts S (fun i => listed.getD i false) st → cnt (fun i => listed.getD i false) ops.size ≤ fuel →
    WR G st.σ w → GlobR G E → ∀ {a : Act}, ActR G st a → ∀ {b : Frame} {cs : List Frame}, Ctx G st.mode b cs → b.roundOf.isSome = rd → ∀ {k : List Item},
    RunR P G (.next { st with ts := T ops.size, σ := S ops.size }) (lone (b.atR a (.inRegion ops (Region.linearise.go .any ops fuel t listed []) :: k)) cs w) b k cs st.mode := by
  intro fuel
  have stop : ∀ (listed : Array Bool) {G : Ghost} {w : World} {st : St}, Inv ops tr ts S (fun i => listed.getD i false) st → (∀ i, i < ops.size → listed.getD i false = true) →
    WR G st.σ w → ∀ {a : Act}, ActR G st a → ∀ {b : Frame} {cs : List Frame}, Ctx G st.mode b cs → ∀ {k : List Item},
    RunR P G (.next { st with ts := T ops.size, σ := S ops.size }) (lone (b.atR a (.inRegion ops [] :: k)) cs w) b k cs st.mode := by
    intro listed G w st hI hall hW a hA b cs hX k
    rw [← hI.done h hall]
    exact ⟨G, a, w, cs, .refl G, hW, hA, hX, Rest.refl hX, rfl, .one stepR_region_end⟩
  induction fuel with
  | zero =>
    intro t listed G w st _ hI hcnt hW hG a hA b cs hX hrd k
    simp only [Region.linearise.go, List.reverse_nil]
    exact stop listed hI (cnt_zero _ (by omega)) hW hA hX
  | succ fuel ih =>
    intro t listed G w st hsz hI hcnt hW hG a hA b cs hX hrd k
    simp only [Region.linearise.go]
    change RunR P G _ (lone (b.atR a (.inRegion ops (match (Region.ready .any ops listed)[t % (Region.ready .any ops listed).length]? with
      | some i => Region.linearise.go .any ops fuel (t / (Region.ready .any ops listed).length) (listed.setIfInBounds i true) [i]
      | none => [].reverse) :: k)) cs w) b k cs st.mode
    cases hi : (Region.ready .any ops listed)[t % (Region.ready .any ops listed).length]? with
    | none =>
      have hnil : Region.ready .any ops listed = [] := by
        cases hr : Region.ready .any ops listed with
        | nil => rfl
        | cons x xs =>
          rw [hr] at hi
          have hlt : t % (x :: xs).length < (x :: xs).length := Nat.mod_lt _ (by simp)
          simp at hi
          simp at hlt
          omega
      have hall : ∀ i, i < ops.size → listed.getD i false = true := by
        intro i
        induction i using Nat.strongRecOn with
        | _ i ihi =>
          intro hlt
          cases hL : listed.getD i false with
          | true => rfl
          | false =>
            obtain ⟨r, hr⟩ := h.at hlt
            have ho := (h.rec_ i r hr).1
            have hm : i ∈ Region.ready .any ops listed := mem_ready.2 ⟨by
              have hli : i < listed.size := by omega
              simp [hli] at hL ⊢; exact hL, r.o, ho, fun e he hb => by
              have := h.back i r hr e he hb
              exact ihi e.on this (by omega)⟩
            rw [hnil] at hm; simp at hm
      exact stop listed hI hall hW hA hX
    | some i =>
      obtain ⟨hn, o, ho, he⟩ := mem_ready.1 (List.mem_of_getElem? hi)
      have hlt : i < ops.size := (Array.getElem?_eq_some_iff.1 ho).1
      obtain ⟨r, hr⟩ := h.at hlt
      have ho' := (h.rec_ i r hr).1
      rw [ho] at ho'; simp only [Option.some.injEq] at ho'; subst ho'
      have hli : i < listed.size := by omega
      have hn' : listed.getD i false = false := by simp [hli] at hn ⊢; exact hn
      obtain ⟨σ', hrun, hI'⟩ := hI.next h hr hn' he rd
      simp only []
      rw [linearise_go_acc, List.reverse_singleton, List.singleton_append]
      have hs := runAt_sound hC hR hrun hW hG hA hX hrd (rest := Region.linearise.go .any ops fuel (t / (Region.ready .any ops listed).length) (listed.setIfInBounds i true) []) (k := k) ho
      have hL : (fun x => (listed.setIfInBounds i true).getD x false) = fun x => listed.getD x false || x == i := by
        funext x
        by_cases hx : i = x
        · subst hx; simp [hli]
        · rw [getD_set_ne false hx]
          have : (x == i) = false := by rw [beq_eq_false_iff_ne]; exact fun q => hx q.symm
          rw [this, Bool.or_false]
      refine hs.next_trans fun G' a' w' cs' le hW' hA' hX' => ?_
      have := ih (t / (Region.ready .any ops listed).length) (listed.setIfInBounds i true) (by simpa using hsz) (by rw [hL]; exact hI')
        (by rw [hL]; have := cnt_more (L := fun x => listed.getD x false) hn' ops.size hlt; omega) hW' (hG.mono le) hA' hX' hrd (k := k)
      exact this

theorem runDraw_sound (hC : FnSound P E C) (hR : RoundSound P E C) (_hm : P.follows .mixedOrders = true) {rd : Bool} {ops : Array Oper} {st : St} {r : ORun}
    (h : runRegion P E f C ops st = some r) (hW : WR G st.σ w) (hG : GlobR G E) {a : Act} (hA : ActR G st a) {b : Frame} {cs : List Frame} (hX : Ctx G st.mode b cs)
    (hrd : b.roundOf.isSome = rd) {k : List Item} (t : Nat) :
    RunR P G r (lone (b.atR a (.inRegion ops (Region.schedule true ops t) :: k)) cs w) b k cs st.mode := by
  unfold runRegion at h
  split at h
  · rename_i tr ts' σ' hd
    split at h
    · rename_i hok
      simp only [Option.some.injEq] at h; subst h
      simp only [Bool.and_eq_true, List.all_eq_true] at hok
      obtain ⟨f1, f2, T, S, t0, s0, tn, sn, f3⟩ := draw_facts _ _ _ _ _ _ _ hd
      have hp : Plan P E f C ops tr st.ts T S := by
        refine ⟨by simpa using f1, t0, fun i r hr => ?_, f3, fun i r hr e he hb => ?_, fun i j a b hij ha hb => pairsOk_get hok.2 hij ha hb⟩
        · obtain ⟨a1, a2, a3, a4⟩ := f2 i r hr
          exact ⟨by simpa using a1, by omega, by rw [a3, Nat.zero_add], a4⟩
        · have hb' := hok.1 r (List.mem_of_getElem? hr)
          unfold backOk at hb'
          rw [List.all_eq_true] at hb'
          have := hb' e (by simpa using he)
          rw [hb] at this
          have hj := (f2 i r hr).2.1
          simp at this; omega
      have hsz : ops.toList.length = ops.size := by simp
      rw [hsz] at tn sn
      rw [← tn, ← sn]
      simp only [Region.schedule, Bool.true_or, if_true, Region.linearise]
      have hrep : ∀ i, (Array.replicate ops.size false).getD i false = false := by
        intro i
        by_cases hi : i < ops.size <;> simp [hi]
      refine drawn_sound hC hR hp ops.size t (Array.replicate ops.size false) (by simp) ⟨?_, ⟨0, by omega, s0.symm, ?_⟩, ?_, ?_⟩ ?_ hW hG hA hX hrd
      · have := tsOn_stop (D := dOf tr) (V := vOf tr) (ts := st.ts) (S := fun i => (Array.replicate ops.size false).getD i false) ops.size (Nat.zero_le _) fun i _ => hrep i
        rw [this]; rfl
      · intro i r _ _; simp only [hrep]; simp
      · intro i o _ hL; simp only [hrep] at hL; simp at hL
      · intro i hL; simp only [hrep] at hL; simp at hL
      · have : ∀ n, cnt (fun i => (Array.replicate ops.size false).getD i false) n ≤ n := by
          intro n
          induction n with
          | zero => simp [cnt]
          | succ n ih => simp only [cnt]; split <;> omega
        exact this _
    · simp at h
  · simp at h

/-- Where code has come to: a jump stands ahead of what it leaves. -/
def Arr (P : Program) (m : Machine) (b : Frame) (k : List Item) (cs : List Frame) : Exit → Act → World → Prop
  | .normal, a, w => Steps P m (lone (b.atR a k) cs w)
  | .exit id, a, w => ∃ k', exitTo id k' = exitTo id k ∧ Steps P m (lone (b.atR a (.code (.exit id) :: k')) cs w)
  | .ret, a, w => ∃ k', Steps P m (lone (b.atR a (.code .ret :: k')) cs w)
  | .panic ch, a, w => ∃ todo, Steps P m (lone { b.atR a todo with mode := .panicking ch } cs w)
  | _, _, _ => False
theorem Arr.of_steps {m m' : Machine} {b : Frame} {k : List Item} {cs : List Frame} {e : Exit} {a : Act} {w : World} (h : Steps P m m') (q : Arr P m' b k cs e a w) : Arr P m b k cs e a w := by
  cases e with
  | normal => exact h.trans q
  | exit id => obtain ⟨k', e1, e2⟩ := q; exact ⟨k', e1, h.trans e2⟩
  | ret => obtain ⟨k', e1⟩ := q; exact ⟨k', h.trans e1⟩
  | panic ch => obtain ⟨k', e1⟩ := q; exact ⟨k', h.trans e1⟩
  | goto l => exact q
  | outgrown => exact q

/-- What code comes to. -/
def CodeR (P : Program) (G : Ghost) (e : AExit) (st' : St) (m : Machine) (b : Frame) (k : List Item) (cs : List Frame) (md : Option AMode) : Prop :=
  ∃ G' ce a' w' cs', G.Le G' ∧ WR G' st'.σ w' ∧ ActR G' st' a' ∧ Ctx G' st'.mode b cs' ∧ Rest md cs cs' ∧ md.isSome = st'.mode.isSome ∧ ExitR G' e ce ∧ Arr P m b k cs' ce a' w'

theorem CodeR.of_run {r : ORun} {e : AExit} {st' : St} (hr : ofRun (some r) = some (e, st')) {m : Machine} {b : Frame} {k : List Item} {cs : List Frame} {md : Option AMode} (h : RunR P G r m b k cs md) :
    CodeR P G e st' m b k cs md := by
  cases r with
  | next st =>
    simp only [ofRun, Option.some.injEq, Prod.mk.injEq] at hr; obtain ⟨rfl, rfl⟩ := hr
    obtain ⟨G2, a2, w2, cs2, le2, q1, q2, q3, q4, q5, q6⟩ := h
    exact ⟨G2, .normal, a2, w2, cs2, le2, q1, q2, q3, q4, q5, trivial, q6⟩
  | panic ch st =>
    simp only [ofRun, Option.some.injEq, Prod.mk.injEq] at hr; obtain ⟨rfl, rfl⟩ := hr
    obtain ⟨G2, a2, w2, cs2, cch, todo, le2, q1, q2, q3, q4, q5, q6, q7⟩ := h
    exact ⟨G2, .panic cch, a2, w2, cs2, le2, q1, q2, q3, q4, q5, q6, todo, q7⟩

theorem CodeR.of_steps {e : AExit} {st' : St} {m m' : Machine} {b : Frame} {k : List Item} {cs : List Frame} {md : Option AMode} (hs : Steps P m m') (h : CodeR P G e st' m' b k cs md) : CodeR P G e st' m b k cs md := by
  obtain ⟨G2, ce, a2, w2, cs2, le2, q1, q2, q3, q4, q5, q6, q7⟩ := h
  exact ⟨G2, ce, a2, w2, cs2, le2, q1, q2, q3, q4, q5, q6, q7.of_steps hs⟩

/-- On from where a piece of code ended normally. -/
theorem CodeR.then {st1 : St} {e : AExit} {st' : St} {m : Machine} {b : Frame} {k k' : List Item} {cs : List Frame} {md : Option AMode} (h : CodeR P G .normal st1 m b k cs md)
    (hk : ∀ G' a w' cs', G.Le G' → WR G' st1.σ w' → ActR G' st1 a → Ctx G' st1.mode b cs' → CodeR P G' e st' (lone (b.atR a k) cs' w') b k' cs' st1.mode) : CodeR P G e st' m b k' cs md := by
  obtain ⟨G1, ce, a1, w1, cs1, le1, h1, h2, h3, h4, h5, h6, h7⟩ := h
  cases ce <;> (first | exact h6.elim | skip)
  obtain ⟨G2, ce, a2, w2, cs2, le2, q1, q2, q3, q4, q5, q6, q7⟩ := hk G1 a1 w1 cs1 le1 h1 h2 h3
  exact ⟨G2, ce, a2, w2, cs2, le1.trans le2, q1, q2, q3, h4.trans h5 q4, h5.trans q5, q6, q7.of_steps h7⟩

/-- A jump passes what is no target. -/
theorem CodeR.pass {e : AExit} {st' : St} {m : Machine} {b : Frame} {x : Item} {k : List Item} {cs : List Frame} {md : Option AMode} (hx : ∀ id, exitTo id (x :: k) = exitTo id k) (he : e ≠ .normal)
    (h : CodeR P G e st' m b (x :: k) cs md) : CodeR P G e st' m b k cs md := by
  obtain ⟨G2, ce, a2, w2, cs2, le2, q1, q2, q3, q4, q5, q6, q7⟩ := h
  refine ⟨G2, ce, a2, w2, cs2, le2, q1, q2, q3, q4, q5, q6, ?_⟩
  cases ce with
  | normal => cases e <;> first | exact absurd rfl he | exact q6.elim
  | exit id => obtain ⟨k', e1, e2⟩ := q7; exact ⟨k', e1.trans (hx id), e2⟩
  | ret => exact q7
  | panic ch => exact q7
  | goto l => exact q7
  | outgrown => exact q7

theorem forget_rel (kill : Nat) : ∀ (ts : List AVal) (vs : List Value) (i : Nat), VRs G ts vs → VRs G (forget kill ts i) vs := by
  intro ts
  induction ts with
  | nil => intro vs i h; exact h
  | cons t ts ih =>
    intro vs i h
    cases vs with
    | nil => have := h.1; simp at this
    | cons v vs =>
      simp only [forget]
      refine .cons ?_ (ih vs (i + 1) h.tail)
      split
      · exact .junk _
      · exact h.head

/-- A loop's rounds. -/
theorem iter_sound {body : St → Option (AExit × St)} {c : Code} {kill : Nat} {b : Frame} {k : List Item} (_hG : GlobR G E)
    (hb : ∀ {G : Ghost} {w : World} {st : St} {e : AExit} {st' : St} {a : Act} {cs : List Frame}, body st = some (e, st') → WR G st.σ w → GlobR G E → ActR G st a → Ctx G st.mode b cs →
      CodeR P G e st' (lone (b.atR a (.code c :: .inLoop c :: k)) cs w) b (.inLoop c :: k) cs st.mode) :
    ∀ (n : Nat) {st : St} {e : AExit} {st' : St}, iter body kill n st = some (e, st') → ∀ {G' : Ghost} {w : World}, WR G' st.σ w → GlobR G' E → ∀ {a : Act}, ActR G' st a → ∀ {cs : List Frame}, Ctx G' st.mode b cs →
      CodeR P G' e st' (lone (b.atR a (.code c :: .inLoop c :: k)) cs w) b k cs st.mode := by
  intro n
  induction n with
  | zero => intro st e st' h; simp [iter] at h
  | succ n ih =>
    intro st e st' h G' w hW hG' a hA cs hX
    simp only [iter] at h
    have hA' : ActR G' { st with ts := forget kill st.ts 0 } a := ⟨forget_rel kill _ _ 0 hA.ts, hA.ds⟩
    cases hr : body { st with ts := forget kill st.ts 0 } with
    | none => rw [hr] at h; simp at h
    | some q =>
      obtain ⟨e1, st1⟩ := q
      rw [hr] at h
      have h1 := hb hr hW hG' hA' hX
      cases e1 with
      | normal =>
        simp only at h
        refine h1.then fun G2 a2 w2 cs2 le2 hW2 hA2 hX2 => ?_
        exact (ih h hW2 (hG'.mono le2) hA2 hX2).of_steps (.one stepR_inLoop)
      | exit id => simp only [Option.some.injEq, Prod.mk.injEq] at h; obtain ⟨rfl, rfl⟩ := h; exact h1.pass (fun _ => rfl) (by simp)
      | ret => simp only [Option.some.injEq, Prod.mk.injEq] at h; obtain ⟨rfl, rfl⟩ := h; exact h1.pass (fun _ => rfl) (by simp)
      | panic ch => simp only [Option.some.injEq, Prod.mk.injEq] at h; obtain ⟨rfl, rfl⟩ := h; exact h1.pass (fun _ => rfl) (by simp)

theorem code_sound (hC : FnSound P E C) (hR : RoundSound P E C) (hm : P.follows .mixedOrders = true) (n : Nat) (rd : Bool) : ∀ (c : Code) (out : Nat) {G : Ghost} {w : World} {st : St} {e : AExit} {st' : St},
    evCode P E f C n rd c out st = some (e, st') → WR G st.σ w → GlobR G E → ∀ {a : Act}, ActR G st a → ∀ {b : Frame} {cs : List Frame}, Ctx G st.mode b cs → b.roundOf.isSome = rd → b.fn = f → ∀ {k : List Item},
    CodeR P G e st' (lone (b.atR a (.code c :: k)) cs w) b k cs st.mode := by
  intro c
  induction c with
  | skip =>
    intro out G w st e st' h hW hG a hA b cs hX hrd hf k
    simp only [evCode, Option.some.injEq, Prod.mk.injEq] at h; obtain ⟨rfl, rfl⟩ := h
    exact ⟨G, .normal, a, w, cs, .refl G, hW, hA, hX, Rest.refl hX, rfl, trivial, .one stepR_skip⟩
  | label l =>
    intro out G w st e st' h hW hG a hA b cs hX hrd hf k
    simp only [evCode, Option.some.injEq, Prod.mk.injEq] at h; obtain ⟨rfl, rfl⟩ := h
    exact ⟨G, .normal, a, w, cs, .refl G, hW, hA, hX, Rest.refl hX, rfl, trivial, .one stepR_label⟩
  | region id ops draw =>
    intro out G w st e st' h hW hG a hA b cs hX hrd hf k
    cases draw with
    | false =>
      simp only [evCode] at h
      cases hr : runSeq P E f C rd ops ops.toList st with
      | none => rw [hr] at h; simp [ofRun] at h
      | some r =>
        rw [hr] at h
        have := runSeq_sound hC hR ops.toList 0 (fun i o ho => by simpa using ho) hr hW hG hA hX hrd (k := k)
        rw [← List.range_eq_range', Array.length_toList] at this
        exact (CodeR.of_run h this).of_steps (.one stepR_region)
    | true =>
      simp only [evCode] at h
      cases hr : runRegion P E f C ops st with
      | none => rw [hr] at h; simp [ofRun] at h
      | some r =>
        rw [hr] at h
        have hs := stepR_region_draw (P := P) (b := b) (a := a) (k := k) (cs := cs) (w := w) (ops := ops) (id := id)
        rw [hm] at hs
        exact (CodeR.of_run h (runDraw_sound hC hR hm hr (hW.drawn (w.drawn + 1)) hG hA hX hrd (k := k) _)).of_steps (.one hs)
  | seq x y ihx ihy =>
    intro out G w st e st' h hW hG a hA b cs hX hrd hf k
    simp only [evCode] at h
    cases hr : evCode P E f C n rd x (Nat.lor out (useOf y).reads) st with
    | none => rw [hr] at h; simp at h
    | some q =>
      obtain ⟨e1, st1⟩ := q
      rw [hr] at h
      have h1 := ihx _ hr hW hG hA hX hrd hf (k := .code y :: k)
      cases e1 with
      | normal =>
        simp only at h
        refine CodeR.of_steps (.one stepR_seq) (h1.then fun G2 a2 w2 cs2 le2 hW2 hA2 hX2 => ?_)
        exact ihy _ h hW2 (hG.mono le2) hA2 hX2 hrd hf
      | exit id => simp only [Option.some.injEq, Prod.mk.injEq] at h; obtain ⟨rfl, rfl⟩ := h; exact CodeR.of_steps (.one stepR_seq) (h1.pass (fun _ => rfl) (by simp))
      | ret => simp only [Option.some.injEq, Prod.mk.injEq] at h; obtain ⟨rfl, rfl⟩ := h; exact CodeR.of_steps (.one stepR_seq) (h1.pass (fun _ => rfl) (by simp))
      | panic ch => simp only [Option.some.injEq, Prod.mk.injEq] at h; obtain ⟨rfl, rfl⟩ := h; exact CodeR.of_steps (.one stepR_seq) (h1.pass (fun _ => rfl) (by simp))
  | cond c x y ihx ihy =>
    intro out G w st e st' h hW hG a hA b cs hX hrd hf k
    simp only [evCode] at h
    have hc := operand_sound (E := E) hG hA.ts c
    split at h
    · rename_i hv
      rw [hv] at hc
      have hb : a.eval c = .bool true := by cases hq : a.eval c <;> rw [hq] at hc <;> cases hc <;> rfl
      exact CodeR.of_steps (.one (stepR_cond hb)) (ihx _ h hW hG hA hX hrd hf)
    · rename_i hv
      rw [hv] at hc
      have hb : a.eval c = .bool false := by cases hq : a.eval c <;> rw [hq] at hc <;> cases hc <;> rfl
      exact CodeR.of_steps (.one (stepR_cond hb)) (ihy _ h hW hG hA hX hrd hf)
    · simp at h
  | block id c ih =>
    intro out G w st e st' h hW hG a hA b cs hX hrd hf k
    simp only [evCode] at h
    cases hr : evCode P E f C n rd c out st with
    | none => rw [hr] at h; simp at h
    | some q =>
      obtain ⟨e1, st1⟩ := q
      rw [hr] at h
      have h1 := ih _ hr hW hG hA hX hrd hf (k := .inBlock id :: k)
      refine CodeR.of_steps (.one stepR_block) ?_
      cases e1 with
      | normal =>
        simp only [Option.some.injEq, Prod.mk.injEq] at h; obtain ⟨rfl, rfl⟩ := h
        refine h1.then fun G2 a2 w2 cs2 le2 hW2 hA2 hX2 => ?_
        exact ⟨G2, .normal, a2, w2, cs2, .refl G2, hW2, hA2, hX2, Rest.refl hX2, rfl, trivial, .one stepR_inBlock⟩
      | exit i =>
        simp only at h
        obtain ⟨G2, ce, a2, w2, cs2, le2, q1, q2, q3, q4, q5, q6, q7⟩ := h1
        cases ce with
        | exit j =>
          have hij : i = j := q6
          subst hij
          obtain ⟨k', z1, z2⟩ := q7
          split at h
          · rename_i hid
            simp only [Option.some.injEq, Prod.mk.injEq] at h; obtain ⟨rfl, rfl⟩ := h
            subst hid
            have : exitTo i k' = some k := by rw [z1]; simp [exitTo]
            exact ⟨G2, .normal, a2, w2, cs2, le2, q1, q2, q3, q4, q5, trivial, z2.trans (.one (stepR_exit this))⟩
          · rename_i hid
            simp only [Option.some.injEq, Prod.mk.injEq] at h; obtain ⟨rfl, rfl⟩ := h
            have hne : (id == i) = false := by simp; exact fun e => hid e.symm
            exact ⟨G2, .exit i, a2, w2, cs2, le2, q1, q2, q3, q4, q5, rfl, k', by rw [z1]; simp [exitTo, hne], z2⟩
        | normal => exact q6.elim
        | ret => exact q6.elim
        | panic ch => exact q6.elim
        | goto l => exact q6.elim
        | outgrown => exact q6.elim
      | ret =>
        simp only [Option.some.injEq, Prod.mk.injEq] at h; obtain ⟨rfl, rfl⟩ := h
        obtain ⟨G2, ce, a2, w2, cs2, le2, q1, q2, q3, q4, q5, q6, q7⟩ := h1
        cases ce <;> (first | exact q6.elim | skip)
        exact ⟨G2, .ret, a2, w2, cs2, le2, q1, q2, q3, q4, q5, q6, q7⟩
      | panic ch =>
        simp only [Option.some.injEq, Prod.mk.injEq] at h; obtain ⟨rfl, rfl⟩ := h
        obtain ⟨G2, ce, a2, w2, cs2, le2, q1, q2, q3, q4, q5, q6, q7⟩ := h1
        cases ce <;> (first | exact q6.elim | skip)
        exact ⟨G2, _, a2, w2, cs2, le2, q1, q2, q3, q4, q5, q6, q7⟩
  | loop c ih =>
    intro out G w st e st' h hW hG a hA b cs hX hrd hf k
    simp only [evCode] at h
    refine CodeR.of_steps (.one stepR_loop) ?_
    exact iter_sound (E := E) (P := P) (c := c) (b := b) (k := k) hG (fun hr hW' hG' hA' hX' => ih _ hr hW' hG' hA' hX' hrd hf) n h hW hG hA hX
  | scope c ih =>
    intro out G w st e st' h hW hG a hA b cs hX hrd hf k
    simp only [evCode] at h
    have s1 : step P (lone (b.atR a (.code (.scope c) :: k)) cs w) = .next (lone (b.atR a (.code c :: .inScope c :: k)) cs w) := step_lone_go (by simp [stepG, stepG.exec, Frame.atR])
    have h1 := ih _ h hW hG hA hX hrd hf (k := .inScope c :: k)
    refine CodeR.of_steps (.one s1) ?_
    by_cases he : e = .normal
    · subst he
      refine h1.then fun G2 a2 w2 cs2 le2 hW2 hA2 hX2 => ?_
      exact ⟨G2, .normal, a2, w2, cs2, .refl G2, hW2, hA2, hX2, Rest.refl hX2, rfl, trivial, .one (step_lone_go (by simp [stepG, stepG.exec, Frame.atR]))⟩
    · exact h1.pass (fun _ => rfl) he
  | exit id =>
    intro out G w st e st' h hW hG a hA b cs hX hrd hf k
    simp only [evCode, Option.some.injEq, Prod.mk.injEq] at h; obtain ⟨rfl, rfl⟩ := h
    exact ⟨G, .exit id, a, w, cs, .refl G, hW, hA, hX, Rest.refl hX, rfl, rfl, k, rfl, .refl P _⟩
  | ret =>
    intro out G w st e st' h hW hG a hA b cs hX hrd hf k
    simp only [evCode, Option.some.injEq, Prod.mk.injEq] at h; obtain ⟨rfl, rfl⟩ := h
    exact ⟨G, .ret, a, w, cs, .refl G, hW, hA, hX, Rest.refl hX, rfl, trivial, k, .refl P _⟩
  | rangeFunc g params assign body _ _ =>
    intro out G w st e st' h hW hG a hA b cs hX hrd hf k
    have hgv := operand_sound (E := E) hG hA.ts g
    simp only [evCode] at h
    split at h
    · simp at h
    · rename_i hrd0
      have hro : b.roundOf = none := by cases hb : b.roundOf <;> simp_all
      split at h
      · rename_i hh first captured hv
        split at h
        · rename_i hbody
          rw [hv] at hgv
          cases hfv : a.eval g <;> rw [hfv] at hgv <;> try (cases hgv; done)
          rename_i fnv fs gs
          have hfirst : VRs G first fs.toList ∧ VRs G captured gs.toList ∧ fnv = .func hh := by
            cases hgv with
            | func _ _ _ _ _ h0 h1 h2 h3 h4 => exact ⟨⟨by simpa using h1, fun i a d e1 e2 => h3 i a d e1 (by simpa using e2)⟩, ⟨by simpa using h2, fun i a d e1 e2 => h4 i a d e1 (by simpa using e2)⟩, rfl⟩
          obtain ⟨z1, z2, rfl⟩ := hfirst
          -- the two records
          obtain ⟨G1, le1, hW1, ho1, hn1⟩ := hW.newObj (.deferred (some [])) (ob := .marks false) (by
            show ({ w with heap := w.heap.push (.deferred (some [])) } : World).heap[((G.place w.heap.size 0).own G.nxt).1]? = _
            rw [G.place_self]; simp)
          let w1 : World := { w with heap := w.heap.push (.deferred (some [])) }
          have hdl : (G1.own st.σ.next).1 = w.heap.size := by rw [ho1]
          let L : Obj := .loop ⟨.ready, none, f, a.tmps, params, assign, body, w.heap.size⟩
          obtain ⟨G2, le2, hW2, ho2, hn2⟩ := hW1.newObj L (ob := .loop .ready none f st.ts params.toList assign body st.σ.next) (by
            refine ⟨a.tmps, ?_, hA.ts.mono (le1.trans (G1.place_le _ _)), ?_⟩
            · rw [G1.place_self]
              have : ((G1.place w1.heap.size 0).own st.σ.next).1 = w.heap.size := by rw [(G1.place_le _ _).own _ hn1]; exact hdl
              rw [this]
              refine (World.push_self w1 L).trans ?_
              simp only [L, Array.toArray_toList]
            · show st.σ.next < G1.nxt + 1; omega)
          let l := (st.σ.push (.marks false)).next
          have hl1 : (G2.own l).1 = w1.heap.size := by rw [ho2]
          have hmk : (G2.own st.σ.next).1 = w.heap.size := by rw [le2.own _ hn1]; exact hdl
          have le := le1.trans le2
          let mark : List Deferred := [{ target := .collected w.heap.size, args := #[] }]
          let w2 : World := { w1 with heap := w1.heap.push L }
          have hent : (Instr.enterLoop b.fn a.tmps params assign body b.roundOf).run P w = .ok (w1.heap.size, mark) w2 := by
            rw [hro, hf]
            simp only [Instr.enterLoop, Sem.run_bind, run_newObj, Result.andThen_ok, Sem.run_pure]
            rfl
          let yv : Value := .func (.yield w1.heap.size) #[] #[]
          have hres : (resolve a.eval (rangeCall g w1.heap.size) 0).run P w2 = .ok { target := .fn (.func hh) gs, args := fs ++ #[yv] } w2 := by
            have hmap : (#[Operand.const yv].map a.eval) = #[yv] := by simp [Act.eval]
            simp only [resolve, hfv, Deferred.ofValue, Sem.run_pure]
            rw [hmap]
          have hinv : (invoke (.fn (.func hh) gs) (fs ++ #[yv])).run P w2 = .ok (.enter hh (fs ++ #[yv] ++ gs)) w2 := by
            simp only [invoke]; exact callFunc_run hbody
          have hstep := stepR_rangeFunc (P := P) (k := k) (cs := cs) hent hres hinv
          have hA2 : ActR G2 { st with ds := .mark st.σ.next :: st.ds } { a with defers := mark ++ a.defers } :=
            ⟨hA.ts.mono le, DefsR.cons ⟨by rw [hmk], Nat.lt_of_lt_of_le hn1 le2.nxt⟩ (hA.ds.mono le)⟩
          have hargs : VRs G2 (first ++ [.yield l] ++ captured) (fs ++ #[yv] ++ gs).toList := by
            have := ((z1.mono le).append (VRs.cons (VR.yield l w1.heap.size hn2 hl1.symm) (.nil G2))).append (z2.mono le)
            simpa using this
          cases hc : C.fn hh (first ++ [.yield l] ++ captured) ((st.σ.push (.marks false)).push (.loop .ready none f st.ts params.toList assign body st.σ.next)) none with
          | none => simp only [l] at hc; rw [hc] at h; simp at h
          | some q =>
            obtain ⟨e3, σ3, m3⟩ := q
            simp only [l] at hc
            rw [hc] at h
            have hcall := hC hh _ _ none _ hc G2 w2 (fs ++ #[yv] ++ gs) hW2 (hG.mono le) hargs
            obtain ⟨ce, w3, fr, ⟨G3, le3, hW3, hE3⟩, hsteps, _, hleave⟩ := hcall (b.atR { a with defers := mark ++ a.defers } (.inRangeFunc w1.heap.size :: k) :: cs)
            have hA3 : ActR G3 { st with ds := .mark st.σ.next :: st.ds } { a with defers := mark ++ a.defers } := hA2.mono le3
            have hX3 : Ctx G3 st.mode b cs := hX.mono (le.trans le3)
            cases e3 with
            | panic ch =>
              simp only [Option.some.injEq, Prod.mk.injEq] at h; obtain ⟨rfl, rfl⟩ := h
              cases ce with
              | returned v => exact hE3.elim
              | outgrown => exact hE3.elim
              | panicked cch =>
                refine ⟨G3, .panic cch, _, w3, cs, le.trans le3, hW3, ⟨hA3.ts, hA3.ds⟩, hX3, Rest.refl hX, rfl, hE3, .inRangeFunc w1.heap.size :: k, .head hstep (hsteps.trans (.one ?_))⟩
                rw [← Frame.raise_atR]; exact step_leave_panicked hleave
            | ret x =>
              simp only at h
              cases ce with
              | panicked _ => exact hE3.elim
              | outgrown => exact hE3.elim
              | returned v =>
                split at h
                · rename_i s p g' ts' ps' a' b' d' hg3
                  split at h
                  · simp at h
                  · rename_i hbusy
                    have hob := hW3.obj _ _ hg3
                    obtain ⟨cts, q1, q2, q3⟩ := hob
                    have hown3 : (G3.own l).1 = w1.heap.size := by rw [le3.own _ hn2]; exact hl1
                    have hown3' : (G3.own (st.σ.push (.marks false)).next).1 = w1.heap.size := hown3
                    obtain ⟨n1, n2, n3⟩ := hW3.noCells q1 (by intro c e f h; cases h)
                    have hset := hW3.setObj hg3 (ob' := .loop .exhausted p g' ts' ps' a' b' d') (o := .loop ⟨.exhausted, p, g', cts, ps'.toArray, a', b', (G3.own d').1⟩) n1 n2 n3 (by intro c e f h; cases h) (by
                      refine ⟨cts, ?_, q2, q3⟩
                      have := hW3.here _ _ hg3
                      show (w3.heap.setIfInBounds _ _)[_]? = _
                      rw [Array.getElem?_setIfInBounds_self_of_lt this])
                    have hend : (Instr.endLoop w1.heap.size).run P w3 = .ok p { w3 with heap := w3.heap.setIfInBounds w1.heap.size (.loop ⟨.exhausted, p, g', cts, ps'.toArray, a', b', (G3.own d').1⟩) } := by
                      rw [hown3'] at q1
                      simp only [Instr.endLoop, Instr.getLoop, Sem.run_bind, getObj, Sem.run, q1, Result.andThen_ok]
                      simp [hbusy, Go.setObj, Sem.run, q1]
                    rw [hown3'] at hset
                    have h4 := stepR_endRangeFunc (b := b) (a := { a with defers := mark ++ a.defers }) (k := k) (cs := cs) hend
                    have hlast : step P (lone fr (b.atR { a with defers := mark ++ a.defers } (.inRangeFunc w1.heap.size :: k) :: cs) w3) = .next (lone (b.atR { a with defers := mark ++ a.defers } (.endRangeFunc w1.heap.size :: k)) cs w3) := by
                      have := step_leave_returned (cs := cs) (c := b.atR { a with defers := mark ++ a.defers } (.inRangeFunc w1.heap.size :: k)) hleave
                      rwa [finish_atR_inRangeFunc] at this
                    have hall : Steps P (lone (b.atR a (.code (.rangeFunc g params assign body) :: k)) cs w)
                        (lone (b.atR { a with defers := mark ++ a.defers } ((p.map Item.code).toList ++ k)) cs { w3 with heap := w3.heap.setIfInBounds w1.heap.size (.loop ⟨.exhausted, p, g', cts, ps'.toArray, a', b', (G3.own d').1⟩) }) :=
                      .head hstep (hsteps.trans (.head hlast (.one h4)))
                    split at h
                    · simp only [Option.some.injEq, Prod.mk.injEq] at h; obtain ⟨rfl, rfl⟩ := h
                      exact ⟨G3, .normal, _, _, cs, le.trans le3, hset, ⟨hA3.ts, hA3.ds⟩, hX3, Rest.refl hX, rfl, trivial, hall⟩
                    · simp only [Option.some.injEq, Prod.mk.injEq] at h; obtain ⟨rfl, rfl⟩ := h
                      exact ⟨G3, .ret, _, _, cs, le.trans le3, hset, ⟨hA3.ts, hA3.ds⟩, hX3, Rest.refl hX, rfl, trivial, k, hall⟩
                    · rename_i id
                      simp only [Option.some.injEq, Prod.mk.injEq] at h; obtain ⟨rfl, rfl⟩ := h
                      exact ⟨G3, .exit id, _, _, cs, le.trans le3, hset, ⟨hA3.ts, hA3.ds⟩, hX3, Rest.refl hX, rfl, rfl, k, rfl, hall⟩
                    · simp at h
                · simp at h
        · simp at h
      · simp at h
  | goto l => intro out G w st e st' h; simp [evCode] at h
  | refuse s => intro out G w st e st' h; simp [evCode] at h

end
end Go.Ev
