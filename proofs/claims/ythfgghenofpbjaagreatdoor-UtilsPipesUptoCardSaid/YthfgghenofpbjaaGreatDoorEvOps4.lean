/- Slice expressions, literals, make; no condition. -/
import Derived.Test.YthfgghenofpbjaaGreatDoorEvOps3
namespace Go.Ev

theorem sub_eq (s : ByteArray) (l h : Nat) : s.extract l h = sub s l h := by
  have : (s.extract l h).data = (sub s l h).data := by
    rw [ByteArray.data_extract]
    apply Array.ext'
    simp [sub]
  cases hx : s.extract l h; cases hy : sub s l h
  rw [hx, hy] at this; simp at this; rw [this]

section
variable {P : Program} {E : Env} {G : Ghost} {σ : ASt} {w : World}

/-- An optional bound. -/
def OptR (G : Ghost) (x : Option AVal) (y : Option Value) : Prop :=
  match x, y with
  | none, none => True
  | some a, some b => VR G a b
  | _, _ => False

theorem bound_some {y h d : Nat} {x : AVal} {v : Value} (hx : VR G x v) (h1 : bound y (some x) d = some h) : (h ≤ y) ∧ ∀ (code : BoundsCode), (Instr.sliceBound v y code).run P w = .ok h w := by
  unfold bound at h1
  split at h1
  · simp at *
  · rename_i k i he
    simp only [Option.some.injEq] at he; subst he
    cases hx
    split at h1
    · rename_i hb
      simp only [Option.some.injEq] at h1; subst h1
      exact ⟨by omega, fun code => by simp [Instr.sliceBound, asIntOf_run, hb.1, hb.2]⟩
    · simp at h1
  · simp at h1

/-- Bounds without a third one: the high one against the room, the low one against the high one. -/
theorem bounds2 {isSlice : Bool} {len cap l h : Nat} {lo hi : Option AVal} {lo' hi' : Option Value} (hlo : OptR G lo lo') (hhi : OptR G hi hi')
    (h1 : bound cap hi len = some h) (h2 : bound h lo 0 = some l) :
    (Instr.sliceBounds isSlice len cap lo' hi' none).run P w = .ok (l, h, cap) w := by
  cases hi with
  | none =>
    cases hi' with
    | some _ => exact hhi.elim
    | none =>
      simp [bound] at h1; subst h1
      cases lo with
      | none => cases lo' with
        | some _ => exact hlo.elim
        | none => simp [bound] at h2; subst h2; simp [Instr.sliceBounds]
      | some x => cases lo' with
        | none => exact hlo.elim
        | some v => obtain ⟨_, e⟩ := bound_some (P := P) (w := w) hlo h2; simp [Instr.sliceBounds, e]
  | some x =>
    cases hi' with
    | none => exact hhi.elim
    | some v =>
      obtain ⟨_, e1⟩ := bound_some (P := P) (w := w) hhi h1
      cases lo with
      | none => cases lo' with
        | some _ => exact hlo.elim
        | none => simp [bound] at h2; subst h2; simp [Instr.sliceBounds, e1]
      | some x => cases lo' with
        | none => exact hlo.elim
        | some v => obtain ⟨_, e⟩ := bound_some (P := P) (w := w) hlo h2; simp [Instr.sliceBounds, e, e1]

theorem bound_at {y y' h d d' : Nat} {x : AVal} (h1 : bound y (some x) d = some h) (hy : h ≤ y') : bound y' (some x) d' = some h := by
  unfold bound at h1 ⊢
  split at h1
  · simp at *
  · rename_i k i he
    simp only [Option.some.injEq] at he; subst he
    split at h1
    · rename_i hb
      simp only [Option.some.injEq] at h1
      simp only
      rw [if_pos (by omega), h1]
    · simp at h1
  · simp at h1

theorem bound_zero {x : Option AVal} (h : bound 0 x 1 = some 0) : ∃ k, x = some (.v (.int k 0)) := by
  cases x with
  | none => simp [bound] at h
  | some x =>
    cases x <;> simp only [bound] at h <;> try (simp at h; done)
    rename_i v
    cases v <;> simp only at h <;> try (simp at h; done)
    rename_i k i
    split at h
    · rename_i hb
      have : i = 0 := by omega
      subst this
      exact ⟨k, rfl⟩
    · simp at h

theorem bounds3 {len cap l h : Nat} {lo : Option AVal} {lo' hi' : Option Value} {x : AVal} {k : IntKind} {i : Int} (hlo : OptR G lo lo') (hhi : OptR G (some x) hi')
    (h1 : bound len (some x) len = some h) (h2 : bound h lo 0 = some l) (hm : (h : Int) ≤ i) (hc : i ≤ cap) :
    (Instr.sliceBounds true len cap lo' hi' (some (.int k i))).run P w = .ok (l, h, i.toNat) w := by
  have hi0 : (Instr.sliceBound (.int k i) cap .slice3Acap).run P w = .ok i.toNat w := by
    simp [Instr.sliceBound, asIntOf_run, hc, show (0 : Int) ≤ i by omega]
  cases hi' with
  | none => exact hhi.elim
  | some v =>
    obtain ⟨_, e1⟩ := bound_some (P := P) (w := w) hhi (bound_at (y' := i.toNat) (d' := 0) h1 (by omega))
    cases lo with
    | none => cases lo' with
      | some _ => exact hlo.elim
      | none => simp [bound] at h2; subst h2; simp [Instr.sliceBounds, e1, hi0]
    | some x => cases lo' with
      | none => exact hlo.elim
      | some v => obtain ⟨_, e⟩ := bound_some (P := P) (w := w) hlo h2; simp [Instr.sliceBounds, e, e1, hi0]

theorem bound_le {y h d : Nat} {x : Option AVal} (hd : d ≤ y) (h1 : bound y x d = some h) : h ≤ y := by
  unfold bound at h1
  split at h1
  · simp at h1; omega
  · split at h1
    · simp at h1; omega
    · simp at h1
  · simp at h1

/-- A bound against a smaller room is one against a greater room. -/
theorem bound_wide {y y' h d : Nat} {x : Option AVal} (hy : y ≤ y') (h1 : bound y x d = some h) : bound y' x d = some h := by
  unfold bound at h1 ⊢
  split at h1
  · exact h1
  · split at h1
    · rename_i hb; rw [if_pos (by omega)]; exact h1
    · simp at h1
  · simp at h1

theorem cut_sound {k n l h c : Nat} {cs : List AVal} {tok : Tok} {b o o' cap : Nat} (hx : VR G (.list k n cs tok) (.slice (some ⟨b, o, none⟩) n cap)) (hl : l ≤ h) (hh : h ≤ n) (hc : h ≤ c + l)
    (ho : 0 < c → o' = o + l * k) {tok' : Tok} (ht : TokR G tok' k (h - l) c ⟨b, o', none⟩) :
    VR G (.list k (h - l) ((cs.drop (l * k)).take ((h - l) * k)) tok') (.slice (some ⟨b, o', none⟩) (h - l) c) := by
  cases hx with
  | list _ _ _ _ _ _ g h1 h2 h3 h4 h5 h6 =>
    have hm : l * k + (h - l) * k ≤ n * k := by
      rw [← Nat.add_mul]; exact Nat.mul_le_mul_right k (by omega)
    have hlen : ((cs.drop (l * k)).take ((h - l) * k)).length = (h - l) * k := by simp; omega
    refine .list _ _ _ _ _ _ (fun i => g (l * k + i)) rfl hlen (by omega) (fun i hi => ?_) (fun i x hx => ?_) ht
    · have h0 : 0 < c := by
        rcases Nat.eq_zero_or_pos c with e | e
        · have : h - l = 0 := by omega
          rw [hlen, this, Nat.zero_mul] at hi; omega
        · exact e
      rw [ho h0]
      have := h4 (l * k + i) (by simp at hi; omega)
      simpa [Nat.add_assoc] using this
    · rw [List.getElem?_take] at hx
      split at hx
      · rw [List.getElem?_drop] at hx; exact h5 _ x hx
      · simp at hx
theorem optR_none {x : Option AVal} {y : Option Value} (h : OptR G x y) (hx : x.isNone = true) : y = none := by
  cases x with
  | none => cases y with
    | none => rfl
    | some _ => exact h.elim
  | some _ => simp at hx

theorem tok_cut {k n h l cap b o o' : Nat} {tok : Tok} (t : TokR G tok k n cap ⟨b, o, none⟩) (hl : l ≤ h) (hh : h ≤ n) (hn : n ≤ cap) (ho : 0 < cap - l → o' = o + l * k) :
    TokR G (if h = n then tok else .no) k (h - l) (cap - l) ⟨b, o', none⟩ := by
  split
  · rename_i he
    subst he
    cases tok with
    | no => trivial
    | full => show cap - l = h - l; have : cap = h := t; omega
    | live id =>
      refine ⟨t.1, fun hlt => ?_⟩
      obtain ⟨h1, e, N, h2, h3⟩ := t.2 (by omega)
      have := ho (by omega); subst this
      have e1 : l * k + (h - l) * k = h * k := by rw [← Nat.add_mul]; congr 1; omega
      have e2 : l * k + (cap - l) * k = cap * k := by rw [← Nat.add_mul]; congr 1; omega
      simp only at h1 h3 ⊢
      exact ⟨by rw [h1]; congr 1; omega, e, N, h2, by omega⟩
  · trivial

/-- Where a slice expression begins. -/
def cutOff (m l o k : Nat) : Nat := if m = l then o else o + l * k
theorem addr_if {m l b o k : Nat} : (if m = l then some (⟨b, o, none⟩ : Addr) else (some (⟨b, o, none⟩ : Addr)).map (·.add (l * k))) = some ⟨b, cutOff m l o k, none⟩ := by
  unfold cutOff
  split
  · rfl
  · simp [add_mk]
theorem cutOff_pos {m l o k : Nat} (h : 0 < m - l) : cutOff m l o k = o + l * k := by
  unfold cutOff; rw [if_neg (by omega)]

theorem slice_sound (hW : WR G σ w) (t : TypeId) {x : AVal} {y : Value} {lo hi mx : Option AVal} {lo' hi' mx' : Option Value} (hx : VR G x y) (hlo : OptR G lo lo') (hhi : OptR G hi hi') (hmx : OptR G mx mx') :
    ValSound G P w (evSlice P σ t x lo hi mx) (Instr.sliceAt t y lo' hi' mx') := by
  unfold evSlice
  split
  · rename_i s hu
    cases hx
    split
    · exact .none
    · rename_i hm
      have hm' : mx.isNone = true := by cases mx <;> simp_all
      have := optR_none hmx hm'; subst this
      split
      · rename_i h e1
        split
        · rename_i l e2
          refine .val1 hW (y := .string (sub s l h)) ?_ (.v _)
          rw [← sub_eq]
          simp [Instr.sliceAt, r_underlying hu, Instr.slice, bounds2 hlo hhi e1 e2]
        · exact .none
      · exact .none
  · rename_i e k n cs tok hu
    split
    · rename_i hk
      obtain ⟨inf, hinf, hsz⟩ := size_map hk.1
      obtain ⟨b, o, cap, rfl, h2, h3, h4, hir⟩ := list_inv hx
      split
      · rename_i h e1
        have hhn := bound_le (Nat.le_refl n) e1
        split
        · rename_i l e2
          have hlh := bound_le (Nat.zero_le h) e2
          split
          · have := optR_none hmx rfl; subst this
            refine .val1 hW (y := .slice (some ⟨b, cutOff cap l o k, none⟩) (h - l) (cap - l)) ?_ (cut_sound hx hlh hhn (by omega) cutOff_pos (tok_cut h4 hlh hhn h3 cutOff_pos))
            have hb := bounds2 (P := P) (w := w) (isSlice := true) hlo hhi (bound_wide h3 e1) e2
            simp only [Instr.sliceAt, Sem.run_bind, r_underlying hu, Result.andThen_ok, Instr.slice, hb, r_size hinf, hsz]
            rw [addr_if]; rfl
          · rename_i km m
            cases mx' with
            | none => exact hmx.elim
            | some mv =>
              cases hmx
              have key : ∀ (hm : hi.isSome ∧ (h : Int) ≤ m ∧ m ≤ n), (Instr.sliceAt t (.slice (some ⟨b, o, none⟩) n cap) lo' hi' (some (.int km m))).run P w =
                  .ok (.slice (some ⟨b, cutOff m.toNat l o k, none⟩) (h - l) (m.toNat - l)) w := by
                intro hm
                obtain ⟨hs, hm⟩ := hm
                obtain ⟨hx', rfl⟩ := Option.isSome_iff_exists.1 hs
                have hb := bounds3 (P := P) (w := w) (k := km) (cap := cap) hlo hhi e1 e2 hm.1 (by omega)
                simp only [Instr.sliceAt, Sem.run_bind, r_underlying hu, Result.andThen_ok, Instr.slice, hb, r_size hinf, hsz]
                rw [addr_if]; rfl
              split
              · rename_i hm
                split
                · rename_i hmh
                  exact .val1 hW (key hm) (cut_sound hx hlh hhn (by omega) cutOff_pos (tok' := if h = n then .full else .no) (by split <;> first | trivial | (show _ = _; omega)))
                · exact .val1 hW (key hm) (cut_sound hx hlh hhn (by omega) cutOff_pos (tok' := if h = n then .no else .no) (by split <;> trivial))
              · exact .none
          · exact .none
        · exact .none
      · exact .none
    · exact .none
  · rename_i e k id off n cap hu
    split
    · rename_i hk
      obtain ⟨inf, hinf, hsz⟩ := size_map hk.1
      have := optR_none hmx hk.2.2; subst this
      obtain ⟨⟨ab, ao, asp⟩, c, rfl, h1, h2, h3, hpl, e', N, h4, h5, h6⟩ := arr_inv hx
      have hcap : cap.getD n ≤ c := by
        cases cap with
        | none => simpa using h2
        | some c' => have := h3 c' rfl; simp; omega
      split
      · rename_i h e1
        have hhn : h ≤ c := by
          have := bound_le (x := hi) (d := n) (y := cap.getD n) (h := h) (by
            cases cap with
            | none => simp
            | some c' => have := h3 c' rfl; simp; omega) e1
          omega
        split
        · rename_i l e2
          have hlh := bound_le (Nat.zero_le h) e2
          have e3 : l * k + (c - l) * k = c * k := by rw [← Nat.add_mul]; congr 1; omega
          refine .val1 hW (y := .slice (if c = l then some ⟨ab, ao, asp⟩ else (some (⟨ab, ao, asp⟩ : Addr)).map (·.add (l * k))) (h - l) (c - l)) ?_ ?_
          rotate_left
          · have hcap' : ∀ c', cap.map (· - l) = some c' → c - l = c' := fun c' hc => by
              cases cap with
              | none => simp at hc
              | some c'' => simp at hc; have := h3 c'' rfl; omega
            have hsz : ∃ e N, G.bsz (G.own id).1 = some (e, N) ∧ (G.own id).2 + (off + l * k) + (c - l) * k ≤ N ∧ (cap.map (· - l) = none → (G.own id).2 + (off + l * k) + (c - l) * k = N) :=
              ⟨e', N, h4, by omega, fun hn => by have := h6 (by cases cap <;> simp_all); omega⟩
            by_cases hcl : c = l
            · rw [if_pos hcl]
              exact .arr _ _ _ _ _ _ _ h1 (by omega) hcap' (fun h0 => by omega) hsz
            · rw [if_neg hcl]
              have h7 := hpl (by omega)
              cases h7
              simp only [Option.map_some, add_mk]
              exact .arr _ _ _ _ _ _ _ h1 (by omega) hcap' (fun h0 => by simp [Nat.add_assoc]) hsz
          have hb := bounds2 (P := P) (w := w) (isSlice := true) hlo hhi (bound_wide hcap e1) e2
          simp only [Instr.sliceAt, Sem.run_bind, r_underlying hu, Result.andThen_ok, Instr.slice, hb, r_size hinf, hsz]
          rfl
        · exact .none
      · exact .none
    · exact .none
  · rename_i e n c hu
    cases hx
    split
    · rename_i hn
      obtain ⟨rfl, rfl, hinf, hm⟩ := hn
      obtain ⟨inf, hinf⟩ := Option.isSome_iff_exists.1 hinf
      split
      · rename_i h l e1 e2
        have hh : h = 0 := by have := bound_le (Nat.le_refl 0) e1; omega
        have hl : l = 0 := by have := bound_le (Nat.le_refl 0) e2; omega
        subst hh; subst hl
        rcases hm with hm | hm
        · have := optR_none hmx hm; subst this
          refine .val1 hW ?_ (.v _)
          have hb := bounds2 (P := P) (w := w) (isSlice := true) hlo hhi e1 e2
          simp only [Instr.sliceAt, Sem.run_bind, r_underlying hu, Result.andThen_ok, Instr.slice, hb, r_size hinf]
          rfl
        · obtain ⟨hs, hm⟩ := hm
          obtain ⟨hx', rfl⟩ := Option.isSome_iff_exists.1 hs
          obtain ⟨k, rfl⟩ := bound_zero hm
          cases mx' with
          | none => exact hmx.elim
          | some mv =>
            cases hmx
            refine .val1 hW ?_ (.v _)
            have hb := bounds3 (P := P) (w := w) (k := k) (i := 0) (cap := 0) hlo hhi e1 e2 (by omega) (by omega)
            simp only [Instr.sliceAt, Sem.run_bind, r_underlying hu, Result.andThen_ok, Instr.slice, hb, r_size hinf]
            rfl
      · exact .none
    · exact .none
  · rename_i n e id off hu
    obtain ⟨rfl, h1⟩ := ref_inv hx
    split
    · rename_i inf hinf
      split
      · rename_i hk
        have := optR_none hmx hk.2; subst this
        split
        · rename_i h e1
          have hhn := bound_le (Nat.le_refl n) e1
          split
          · rename_i l e2
            have hlh := bound_le (Nat.zero_le h) e2
            have hb := bounds2 (P := P) (w := w) (isSlice := false) hlo hhi e1 e2
            split
            · rename_i e' cs hg
              split
              · rename_i hlen
                obtain ⟨e2', N, h5, h6, _, _⟩ := hW.obj _ _ hg
                have e3 : l * inf.size + (n - l) * inf.size = n * inf.size := by rw [← Nat.add_mul]; congr 1; omega
                refine .val1 hW (y := .slice (some (if n = l then ⟨(G.own id).1, (G.own id).2 + off, none⟩ else (⟨(G.own id).1, (G.own id).2 + off, none⟩ : Addr).add (l * inf.size))) (h - l) (n - l)) ?_
                  (.arr _ _ _ _ _ _ _ h1 (by omega) (fun c' hc => by simp at hc; omega) (fun h0 => ?_) ⟨e2', N, h5, by omega, by simp⟩)
                · simp only [Instr.sliceAt, Sem.run_bind, r_underlying hu, Result.andThen_ok, Instr.sureAddr, Sem.run_pure, hb, r_size hinf]
                · rw [if_neg (by omega), add_mk]
                  simp [Nat.add_assoc]
              · exact .none
            · exact .none
          · exact .none
        · exact .none
      · exact .none
    · exact .none
  · exact .none

end
end Go.Ev
