/- Maps, ranges over texts, calls; no condition. -/
import Derived.Test.YthfgghenofpbjaaGreatDoorEvOps11
namespace Go.Ev

theorem beq_bytes (a b : ByteArray) : (a == b) = (a.data.toList == b.data.toList) := by
  cases a with | mk a => cases b with | mk b =>
  cases a with | mk a => cases b with | mk b =>
  rw [Bool.eq_iff_iff]
  change (Array.mk a == Array.mk b) = true ↔ (a == b) = true
  simp

section
variable {P : Program} {E : Env} {G : Ghost} {σ : ASt} {w : World}

theorem depth_key : ∃ n : Nat, (10000 : Nat) = n + 1 := ⟨9999, rfl⟩

theorem checkKey_run {e : Bool} {kt : TypeId} {kd : TypeDesc} {key : Value} (hu : P.underlying kt = some kd) (hp : plainKey kd key = true) : (Instr.checkKey e 10000 kt key).run P w = .ok () w := by
  obtain ⟨n, hn⟩ := depth_key
  rw [hn]
  simp only [Instr.checkKey, Sem.run_bind, r_underlying hu, Result.andThen_ok]
  cases kd <;> (first | (exfalso; simp [plainKey] at hp; done) | skip) <;> cases key <;> (first | (exfalso; simp [plainKey] at hp; done) | rfl)

/-- The entries of a map. -/
def EntR (G : Ghost) (es : List (Value × AVal × Nat)) (cs : List MapEntry) : Prop :=
  es.length = cs.length ∧ ∀ (i : Nat) e c, es[i]? = some e → cs[i]? = some c → c.key = e.1 ∧ VR G e.2.1 c.val ∧ c.born = e.2.2
theorem EntR.tail {e : Value × AVal × Nat} {c : MapEntry} {es : List (Value × AVal × Nat)} {cs : List MapEntry} (h : EntR G (e :: es) (c :: cs)) : EntR G es cs :=
  ⟨by have := h.1; simpa using this, fun i a d h1 h2 => h.2 (i + 1) a d (by simpa using h1) (by simpa using h2)⟩

theorem same_key {kd : TypeDesc} {key k : Value} {b : Bool} (hp : plainKey kd key = true) (h : keyEq key k = some b) : Instr.sameNow kd key k = some b := by
  cases kd <;> (first | (exfalso; simp [plainKey] at hp; done) | skip) <;> cases key <;> (first | (exfalso; simp [plainKey] at hp; done) | skip) <;> cases k <;> simp only [keyEq] at h <;> (first | (simp at h; done) | skip)
  · simp only [Instr.sameNow]; exact h
  · simp only [Instr.sameNow, beq_bytes]; exact h

theorem find_run {kd : TypeDesc} {key : Value} (hp : plainKey kd key = true) : ∀ (es : List (Value × AVal × Nat)) (cs : List MapEntry) (i : Nat) (r : Option (Nat × AVal)), EntR G es cs → findKey key es i = some r →
    match r with
    | none => Instr.findNow kd key cs i = some none
    | some (j, x) => ∃ y, Instr.findNow kd key cs i = some (some (j, y)) ∧ VR G x y ∧ i ≤ j ∧ ∃ e, es[j - i]? = some e ∧ e.2.1 = x ∧ keyEq key e.1 = some true := by
  intro es
  induction es with
  | nil =>
    intro cs i r h hf
    simp only [findKey, Option.some.injEq] at hf; subst hf
    cases cs with
    | nil => rfl
    | cons c cs => have := h.1; simp at this
  | cons e es ih =>
    intro cs i r h hf
    cases cs with
    | nil => have := h.1; simp at this
    | cons c cs =>
      obtain ⟨k, x, b⟩ := e
      obtain ⟨h1, h2, h3⟩ := h.2 0 _ c rfl rfl
      simp only at h1 h2 h3
      simp only [findKey] at hf
      cases hk : keyEq key k with
      | none => rw [hk] at hf; simp at hf
      | some t =>
        rw [hk] at hf
        have hs := same_key hp hk
        rw [← h1] at hs
        cases t with
        | true =>
          simp only [Option.some.injEq] at hf; subst hf
          exact ⟨c.val, by simp [Instr.findNow, hs], h2, Nat.le_refl _, _, by rw [Nat.sub_self]; rfl, rfl, hk⟩
        | false =>
          simp only at hf
          have := ih cs (i + 1) r h.tail hf
          cases r with
          | none => simp only at this ⊢; simp [Instr.findNow, hs, this]
          | some r =>
            obtain ⟨j, x'⟩ := r
            simp only at this ⊢
            obtain ⟨y, q1, q2, q3, e', q4, q5, q6⟩ := this
            exact ⟨y, by simp [Instr.findNow, hs, q1], q2, by omega, e', by rw [show j - i = (j - (i + 1)) + 1 by omega]; simpa using q4, q5, q6⟩

theorem findKey_run {kt : TypeId} {kd : TypeDesc} {key : Value} {cs : List MapEntry} {r : Option (Nat × Value)} (hu : P.underlying kt = some kd) (h : Instr.findNow kd key cs 0 = some r) :
    (Instr.findKey kt key cs).run P w = .ok r w := by
  simp [Instr.findKey, r_underlying hu, h]

theorem lookup_sound (hW : WR G σ w) (t : TypeId) (ok : Bool) {m ix : AVal} {m' ix' : Value} (hm : VR G m m') (hi : VR G ix ix') : ValSound G P w (evLookup P σ t m ix ok) (Instr.lookup t m' ix' ok) := by
  unfold evLookup
  split
  · rename_i kt et es clk key hu he
    cases hi
    split
    · rename_i kd hk
      split
      · rename_i hp
        have hes : ∃ ces : Array MapEntry, EntR G es ces.toList ∧ (Instr.lookup t m' ix' ok).run P w = (do
            Instr.checkKey ces.isEmpty 10000 kt ix'
            let (v, o) ← match ← Instr.findKey kt ix' ces.toList with
              | some (_, v) => pure (v, true)
              | none => pure (← zeroValue et, false)
            pure (if ok then .tuple #[v, .bool o] else v) : Sem Value).run P w := by
          unfold evMap1 at he
          split at he
          · rename_i id
            cases hm with
            | map _ b h1 h2 =>
              subst h2
              split at he
              · rename_i es' c' hg
                simp only [Option.some.injEq, Prod.mk.injEq] at he; obtain ⟨rfl, rfl⟩ := he
                obtain ⟨ces, q1, q2, q3⟩ := hW.obj _ _ hg
                refine ⟨ces, ⟨by simpa using q2, fun i a d e1 e2 => q3 i a d e1 (by simpa using e2)⟩, ?_⟩
                simp only [Instr.lookup, Sem.run_bind, r_underlying hu, Result.andThen_ok, getObj, Sem.run, q1]
                rfl
              · simp at he
          · simp only [Option.some.injEq, Prod.mk.injEq] at he; obtain ⟨rfl, rfl⟩ := he
            cases hm
            refine ⟨#[], ⟨rfl, by simp⟩, ?_⟩
            simp only [Instr.lookup, Sem.run_bind, r_underlying hu, Result.andThen_ok, Sem.run_pure]
            rfl
          · simp at he
        obtain ⟨ces, hE, hbase⟩ := hes
        split
        · rename_i j x hf
          have := find_run (G := G) hp es ces.toList 0 _ hE hf
          simp only at this
          obtain ⟨y, q1, q2, _⟩ := this
          cases ok with
          | true =>
            refine .val1 hW (y := .tuple #[y, .bool true]) ?_ (VRs.cons q2 (.cons (.v _) (.nil G))).tuple
            rw [hbase]; simp [checkKey_run hk hp, findKey_run hk q1]
          | false =>
            refine .val1 hW (y := y) ?_ q2
            rw [hbase]; simp [checkKey_run hk hp, findKey_run hk q1]
        · rename_i hf
          have := find_run (G := G) hp es ces.toList 0 _ hE hf
          simp only at this
          refine .bind fun inf hinf => .bind fun z hz => ?_
          cases ok with
          | true =>
            refine .val1 hW (y := .tuple #[z, .bool false]) ?_ (VRs.cons (ofValue_sound z) (.cons (.v _) (.nil G))).tuple
            rw [hbase]; simp [checkKey_run hk hp, findKey_run hk this, r_zero hinf hz]
          | false =>
            refine .val1 hW (y := z) ?_ (ofValue_sound z)
            rw [hbase]; simp [checkKey_run hk hp, findKey_run hk this, r_zero hinf hz]
        · exact .none
      · exact .none
    · exact .none
  · exact .none

end
end Go.Ev
