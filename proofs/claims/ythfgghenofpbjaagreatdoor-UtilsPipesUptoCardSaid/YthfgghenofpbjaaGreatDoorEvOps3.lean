/- Indexes, slices, literals; no condition. -/
import Derived.Test.YthfgghenofpbjaaGreatDoorEvOps2
namespace Go.Ev

section
variable {P : Program} {E : Env} {G : Ghost} {σ : ASt} {w : World}

theorem bounds_run {α : Type} {k : IntKind} {x : Int} {len : Nat} {n : ANext} {σ' : ASt} (hW : WR G σ w) (h : bounds P σ k x len = some (n, σ')) :
    ∃ v w' y, n = .panic v ∧ WR G σ' w' ∧ VR G v y ∧ (boundsPanic k x len .index : Sem α).run P w = .halt (.panic y) w' := by
  unfold bounds at h
  split at h
  · rename_i hc
    obtain ⟨rfl, hx⟩ := hc
    simp only [Option.some.injEq, Prod.mk.injEq] at h
    obtain ⟨rfl, rfl⟩ := h
    have hf : (IntKind.i64 != IntKind.u64 && decide (0 ≤ x) && decide (x ≤ 31)) = false := by
      rw [Bool.eq_false_iff]
      intro e
      simp only [Bool.and_eq_true, decide_eq_true_eq] at e
      exact hx ⟨e.1.2, e.2⟩
    refine ⟨_, w, .iface P.rt.boundsError (.agg #[.int .i64 (IntKind.i64.wrap x), .int .i64 len, .bool true, .int .u8 0]), rfl, hW, .iface _ _ _ ?_, ?_⟩
    · exact (VRs.vs [Value.int .i64 (IntKind.i64.wrap x), .int .i64 len, .bool true, .int .u8 0]).agg
    · simp only [boundsPanic, hf, Bool.false_eq_true, if_false]
      simp [runtimePanic, BoundsCode.toNat]
  · split at h
    · rename_i hn hk
      subst hk
      simp only [Option.some.injEq, Prod.mk.injEq] at h
      obtain ⟨rfl, rfl⟩ := h
      have ht : (IntKind.i64 != IntKind.u64 && decide (0 ≤ x) && decide (x ≤ 31)) = true := by
        simp only [true_and, Decidable.not_not] at hn
        simp [hn.1, hn.2]
      refine ⟨.junk, { w with drawn := w.drawn + 1 }, .iface P.rt.boundsError (.agg #[.int .i64 (IntKind.i64.wrap x), .int .i64 len,
        .bool (Question.cut (.extern "runtime.boundsError.signed" 2) (w.tape w.drawn (.extern "runtime.boundsError.signed" 2)) == 1), .int .u8 0]), rfl, hW.drawn _, .junk _, ?_⟩
      simp only [boundsPanic, ht, if_true]
      simp [runtimePanic, BoundsCode.toNat, Question.forced]
    · simp at h

theorem bounds_sound {k : IntKind} {x : Int} {len : Nat} {s : Sem Value} (hW : WR G σ w) (hs : s.run P w = (boundsPanic k x len .index : Sem Value).run P w) : ValSound G P w (bounds P σ k x len) s := by
  intro n σ' h
  obtain ⟨v, w', y, rfl, h1, h2, h3⟩ := bounds_run (α := Value) hW h
  simp only [Sem.run_bind, hs, h3, Result.andThen_halt]
  exact ⟨w', y, rfl, h1, h2⟩

theorem asIntOf_run (k : IntKind) (i : Int) : (asIntOf (.int k i)).run P w = .ok (k, i) w := rfl

theorem mul_lt_bound {i n k : Nat} (h : i < n) : i * k + k ≤ n * k := by
  have := Nat.mul_le_mul_right k (Nat.succ_le_of_lt h)
  rwa [Nat.succ_mul] at this

theorem list_iref {k n : Nat} {cs : List AVal} {tok : Tok} {a : Addr} {cap : Nat} (h : VR G (.list k n cs tok) (.slice (some a) n cap)) : VR G (.iref cs) (.pointer (some a)) := by
  cases h with
  | list _ _ _ _ _ _ g h1 h2 h3 h4 h5 h6 => exact .iref _ _ g h1 h4 h5
theorem list_inv {k n : Nat} {cs : List AVal} {tok : Tok} {y : Value} (h : VR G (.list k n cs tok) y) :
    ∃ b o cap, y = .slice (some ⟨b, o, none⟩) n cap ∧ cs.length = n * k ∧ n ≤ cap ∧ TokR G tok k n cap ⟨b, o, none⟩ ∧ VR G (.iref cs) (.pointer (some ⟨b, o, none⟩)) := by
  cases h with
  | list _ _ _ _ a cap g h1 h2 h3 h4 h5 h6 =>
    obtain ⟨b, o, sp⟩ := a
    simp only at h1; subst h1
    exact ⟨b, o, cap, rfl, h2, h3, h6, .iref _ _ g rfl h4 h5⟩
theorem arr_inv {k id off n : Nat} {cap : Option Nat} {y : Value} (h : VR G (.arr k id off n cap) y) :
    ∃ a c, y = .slice (some a) n c ∧ id < G.nxt ∧ n ≤ c ∧ (∀ c', cap = some c' → c = c') ∧
      (0 < c → a = ⟨(G.own id).1, (G.own id).2 + off, none⟩) ∧
      ∃ e N, G.bsz (G.own id).1 = some (e, N) ∧ (G.own id).2 + off + c * k ≤ N ∧ (cap = none → (G.own id).2 + off + c * k = N) := by
  cases h with
  | arr _ _ _ _ _ a c h1 h3 h4 h5 h6 => exact ⟨a, c, rfl, h1, h3, h4, h5, h6⟩
theorem ref_inv {id off : Nat} {y : Value} (h : VR G (.ref id off) y) : y = .pointer (some ⟨(G.own id).1, (G.own id).2 + off, none⟩) ∧ id < G.nxt := by
  cases h with
  | ref _ _ a h1 h2 => subst h2; exact ⟨rfl, h1⟩
theorem iref_inv {cs : List AVal} {y : Value} (h : VR G (.iref cs) y) : ∃ b o, y = .pointer (some ⟨b, o, none⟩) := by
  cases h with
  | iref _ a g h1 h2 h3 => obtain ⟨b, o, sp⟩ := a; simp only at h1; subst h1; exact ⟨b, o, rfl⟩

theorem size_map {e : TypeId} {k : Nat} (h : (P.info? e).map (·.size) = some k) : ∃ i, P.info? e = some i ∧ i.size = k := by
  cases hi : P.info? e with
  | none => rw [hi] at h; simp at h
  | some i => rw [hi] at h; exact ⟨i, rfl, by simpa using h⟩

theorem indexAddr_sound (hW : WR G σ w) (t : TypeId) {x ix : AVal} {y iy : Value} (hx : VR G x y) (hi : VR G ix iy) : ValSound G P w (evIndexAddr P σ t x ix) (Instr.indexAt t y iy) := by
  unfold evIndexAddr
  split
  · rename_i k i
    cases hi
    split
    · rename_i e k' n cs tok hu
      split
      · rename_i hk
        obtain ⟨inf, hinf, hsz⟩ := size_map hk
        obtain ⟨b, o, cap, rfl, h2, _, _, hir⟩ := list_inv hx
        split
        · rename_i hb
          refine .val1 hW (y := .pointer (some ⟨b, o + i.toNat * k', none⟩)) ?_ (iref_drop _ hir)
          simp [Instr.indexAt, asIntOf_run, r_underlying hu, r_size hinf, hb.1, hb.2, hsz, add_mk]
        · rename_i hb
          refine bounds_sound hW ?_
          simp [Instr.indexAt, asIntOf_run, r_underlying hu, hb]
      · exact .none
    · rename_i e k' id off n cap hu
      split
      · rename_i hk
        obtain ⟨inf, hinf, hsz⟩ := size_map hk
        obtain ⟨a, c, rfl, h1, hc, _, ha, _⟩ := arr_inv hx
        split
        · rename_i hb
          obtain rfl := ha (by omega)
          refine .val1 hW (y := .pointer (some ⟨(G.own id).1, (G.own id).2 + (off + i.toNat * k'), none⟩)) ?_ (.ref _ _ _ h1 rfl)
          simp [Instr.indexAt, asIntOf_run, r_underlying hu, r_size hinf, hb.1, hb.2, hsz, add_mk, Nat.add_assoc]
        · rename_i hb
          refine bounds_sound hW ?_
          simp [Instr.indexAt, asIntOf_run, r_underlying hu, hb]
      · exact .none
    · rename_i e n c hu
      cases hx
      split
      · rename_i hn
        subst hn
        refine bounds_sound hW ?_
        simp [Instr.indexAt, asIntOf_run, r_underlying hu]
      · exact .none
    · rename_i n e id off hu
      obtain ⟨rfl, h1⟩ := ref_inv hx
      refine .bind fun inf hinf => ?_
      split
      · rename_i hb
        refine .val1 hW (y := .pointer (some ⟨(G.own id).1, (G.own id).2 + (off + i.toNat * inf.size), none⟩)) ?_ (.ref _ _ _ h1 rfl)
        simp [Instr.indexAt, asIntOf_run, r_underlying hu, r_size hinf, hb.2.1, hb.2.2, Instr.sureAddr, add_mk, Nat.add_assoc]
      · exact .none
    · rename_i n e cs hu
      obtain ⟨b, o, rfl⟩ := iref_inv hx
      refine .bind fun inf hinf => ?_
      split
      · rename_i hb
        refine .val1 hW (y := .pointer (some ⟨b, o + i.toNat * inf.size, none⟩)) ?_ (iref_drop _ hx)
        simp [Instr.indexAt, asIntOf_run, r_underlying hu, r_size hinf, hb.2.1, hb.2.2, Instr.sureAddr, add_mk]
      · exact .none
    · exact .none
  · exact .none

theorem index_sound (hW : WR G σ w) (t : TypeId) {x ix : AVal} {y iy : Value} (hx : VR G x y) (hi : VR G ix iy) : ValSound G P w (evIndex P σ t x ix) (Instr.index t y iy) := by
  unfold evIndex
  split
  · rename_i k i s hu
    cases hi; cases hx
    have hget : s[i.toNat]? = s.data.toList[i.toNat]? := by
      simp only [getElem?_def]
      rfl
    split
    · rename_i h0
      split
      · rename_i b hb
        refine .val1 hW (y := .int .u8 b.toNat) ?_ (.v _)
        rw [← hget] at hb
        simp [Instr.index, asIntOf_run, r_underlying hu, h0, hb]
      · rename_i hb
        refine bounds_sound hW ?_
        rw [← hget] at hb
        simp [Instr.index, asIntOf_run, r_underlying hu, h0, hb]
    · rename_i h0
      refine bounds_sound hW ?_
      simp [Instr.index, asIntOf_run, r_underlying hu, h0]
  · rename_i k i cs n e hu
    cases hi
    obtain ⟨ds, rfl, hv⟩ := agg_list hx
    refine .bind fun inf hinf => ?_
    split
    · rename_i hb
      refine .bind fun a ha => ?_
      obtain ⟨v, h1, h2⟩ := part_sound (w := w) hv ha
      refine .val1 hW ?_ h2
      simp [Instr.index, asIntOf_run, r_underlying hu, hb.1, hb.2, r_size hinf, h1]
    · exact .none
  · exact .none

end
end Go.Ev
