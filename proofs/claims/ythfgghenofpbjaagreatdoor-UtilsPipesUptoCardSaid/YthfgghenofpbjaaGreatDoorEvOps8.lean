/- len, copy, append, conversions of bytes; no condition. -/
import Derived.Test.YthfgghenofpbjaaGreatDoorEvOps7
namespace Go.Ev

section
variable {P : Program} {E : Env} {G : Ghost} {σ : ASt} {w : World}

theorem size_len (s : ByteArray) : s.size = s.data.toList.length := rfl

theorem len_sound (hW : WR G σ w) (t : TypeId) (ats : Array TypeId) (ty : TypeId) (hat : ats[0]? = some t) {x : AVal} {y : Value} (hx : VR G x y) :
    ∀ r, evLen P σ t x = some r → ValSound G P w (some r) (Builtin.len_ ats ty #[y]) := by
  intro r hr
  unfold evLen at hr
  have fin : ∀ (z : AVal) (v : Value), val1 σ z = some r → (Builtin.len_ ats ty #[y]).run P w = .ok v w → VR G z v → ValSound G P w (some r) (Builtin.len_ ats ty #[y]) := by
    intro z v h1 h2 h3; rw [← h1]; exact .val1 hW h2 h3
  split at hr
  · rename_i s
    cases hx
    split at hr
    · rename_i hm
      cases hu : P.underlying t with
      | none => simp [hu] at hm
      | some d =>
        cases d <;> simp [hu] at hm
        exact fin _ (.int .i64 s.size) hr (by simp [Builtin.len_, hat, r_underlying hu, goInt]) (by rw [size_len]; exact .v _)
    · simp at hr
  · rename_i k n cs tok
    obtain ⟨b, o, cap, rfl, _⟩ := list_inv hx
    split at hr
    · rename_i hm
      cases hu : P.underlying t with
      | none => simp [hu] at hm
      | some d =>
        cases d <;> simp [hu] at hm
        exact fin _ (.int .i64 n) hr (by simp [Builtin.len_, hat, r_underlying hu, goInt]) (.v _)
    · simp at hr
  · rename_i k id off n cap
    obtain ⟨a, c, rfl, _⟩ := arr_inv hx
    split at hr
    · rename_i hm
      cases hu : P.underlying t with
      | none => simp [hu] at hm
      | some d =>
        cases d <;> simp [hu] at hm
        exact fin _ (.int .i64 n) hr (by simp [Builtin.len_, hat, r_underlying hu, goInt]) (.v _)
    · simp at hr
  · rename_i n c
    cases hx
    split at hr
    · rename_i hm
      cases hu : P.underlying t with
      | none => simp [hu] at hm
      | some d =>
        cases d <;> simp [hu] at hm
        exact fin _ (.int .i64 n) hr (by simp [Builtin.len_, hat, r_underlying hu, goInt]) (.v _)
    · simp at hr
  · rename_i id
    cases hx with
    | map _ b h1 h2 =>
      subst h2
      split at hr
      · rename_i kt et es c hu hg
        obtain ⟨ces, q1, q2, q3⟩ := hW.obj _ _ hg
        refine fin _ (.int .i64 es.length) hr ?_ (.v _)
        simp [Builtin.len_, hat, r_underlying hu, goInt, getObj, Sem.run, q1, q2]
      · simp at hr
  · simp at hr

/-- Where cells that are appended or copied come from. -/
theorem src_sound (hW : WR G σ w) {k m : Nat} {x : AVal} {y : Value} {new : List AVal} (hx : VR G x y) (h : srcCells σ k x = some (m, new)) :
    (Builtin.lenOf y).run P w = .ok m w ∧ new.length = m * k ∧
    ∀ n, n ≤ m → ∃ ds : List Value, VRs G (new.take (n * k)) ds ∧ (∀ d ∈ ds, one d = true) ∧ (Builtin.firstCells k n y).run P w = .ok ds.toArray w := by
  unfold srcCells at h
  have rows : ∀ (cs : List AVal) (b o n : Nat), CellsR G w b o cs → n * k ≤ cs.length →
      ∃ ds : List Value, VRs G (cs.take (n * k)) ds ∧ (∀ d ∈ ds, one d = true) ∧ (loadCells ⟨b, o, none⟩ (n * k)).run P w = .ok ds.toArray w := by
    intro cs b o n hc hn
    obtain ⟨ds, e1, e2, e3, _, e5⟩ := run_loads (P := P) (hc.take (n * k))
    rw [List.length_take, Nat.min_eq_left hn] at e5
    exact ⟨ds, e2, e3, e5⟩
  split at h
  · rename_i k' n0 cs tok
    split at h
    · rename_i hc
      obtain ⟨rfl, hl⟩ := hc
      simp only [Option.some.injEq, Prod.mk.injEq] at h; obtain ⟨rfl, rfl⟩ := h
      cases hx with
      | list _ _ _ _ a cap g h1 h2 h3 h4 h5 h6 =>
        obtain ⟨b, o, sp⟩ := a
        simp only at h1; subst h1
        exact ⟨rfl, hl, fun n hn => rows cs b o n (hW.lamCells h4 h5) (by rw [hl]; exact Nat.mul_le_mul_right _ hn)⟩
    · simp at h
  · rename_i k' id off n0 cap
    split at h
    · rename_i hk
      subst hk
      split at h
      · rename_i e cs hg
        split at h
        · rename_i hl
          simp only [Option.some.injEq, Prod.mk.injEq] at h; obtain ⟨rfl, rfl⟩ := h
          obtain ⟨a, c, rfl, h1, h2, h3, h4, _⟩ := arr_inv hx
          refine ⟨rfl, by simp; omega, fun n hn => ?_⟩
          have hle : n * k' ≤ n0 * k' := Nat.mul_le_mul_right _ hn
          by_cases hc : 0 < c
          · have := h4 hc; subst this
            have := rows ((cs.drop off).take (n0 * k')) _ _ n (((hW.objCells hg).drop off).take (n0 * k')) (by simp; omega)
            exact this
          · have hn0 : n = 0 := by omega
            subst hn0
            exact ⟨[], by rw [Nat.zero_mul, List.take_zero]; exact .nil G, by simp, by simp [Builtin.firstCells, loadCells, loadCellsFrom]⟩
        · simp at h
      · simp at h
    · simp at h
  · rename_i n0 c
    split at h
    · rename_i hn
      subst hn
      simp only [Option.some.injEq, Prod.mk.injEq] at h; obtain ⟨rfl, rfl⟩ := h
      cases hx
      exact ⟨rfl, by simp, fun n hn => ⟨[], by simpa using VRs.nil G, by simp, by simp [Builtin.firstCells]⟩⟩
    · simp at h
  · rename_i s
    split at h
    · rename_i hk
      subst hk
      simp only [Option.some.injEq, Prod.mk.injEq] at h; obtain ⟨rfl, rfl⟩ := h
      cases hx
      refine ⟨rfl, by rw [List.length_map, size_len, Nat.mul_one], fun n hn => ⟨(s.data.toList.take n).map (fun b => .int .u8 b.toNat), ?_, ?_, ?_⟩⟩
      · have := VRs.vs (G := G) ((s.data.toList.take n).map (fun b => Value.int .u8 b.toNat))
        simpa [List.map_take, List.map_map, Function.comp_def] using this
      · intro d hd
        simp only [List.mem_map] at hd
        obtain ⟨b, _, rfl⟩ := hd
        rfl
      · simp only [Builtin.firstCells, Sem.run_pure]
        congr 1
        apply Array.ext'
        rw [Array.toList_map, ByteArray.data_extract]
        simp
    · simp at h
  · simp at h

theorem copy_sound (hW : WR G σ w) (ats : Array TypeId) (ty : TypeId) {d x : AVal} {d' x' : Value} (hd : VR G d d') (hx : VR G x x') :
    ValSound G P w (evCopy P σ ats d x) (Builtin.copy_ ats ty #[d', x']) := by
  unfold evCopy
  split
  · rename_i dt hat
    split
    · rename_i e hu
      split
      · rename_i i hi
        split
        · rename_i hs
          split
          · rename_i k id off n cap m new hsrc
            split
            · rename_i hk
              subst hk
              split
              · rename_i e' cs hg
                cases hp : putAt cs off (new.take (min m n * i.size)) with
                | none => exact .none
                | some cs' =>
                  simp only [Option.bind_some]
                  obtain ⟨hl, hnl, hf⟩ := src_sound (P := P) hW hx hsrc
                  obtain ⟨ds, e1, e2, e3⟩ := hf (min m n) (Nat.min_le_left _ _)
                  obtain ⟨a, c, rfl, h1, h2, h3, h4, _⟩ := arr_inv hd
                  obtain ⟨hpl, hple, _⟩ := putAt_get hp
                  obtain ⟨t', N, hb, h2', _, _⟩ := hW.obj _ _ hg
                  have hst : ∃ w', (storeCells a ds).run P w = .ok () w' ∧ WR G (σ.set id (.cells e' cs')) w' := by
                    by_cases hc : 0 < c
                    · have := h4 hc; subst this
                      obtain ⟨w', r1, r2⟩ := run_stores (P := P) (b := (G.own id).1) (o := (G.own id).2 + off) ds 0 w e2 (fun j hj => hW.writable hg hb (by omega) (by
                        rw [← e1.1] at hj; omega))
                      exact ⟨w', r1, hW.stored hg (by simpa using r2) e1 e2 hp⟩
                    · have hn0 : n = 0 := by omega
                      subst hn0
                      have hds : ds = [] := by have := e1.1; simp at this; exact List.eq_nil_of_length_eq_zero (by omega)
                      subst hds
                      refine ⟨w, rfl, ?_⟩
                      have hcs : cs' = cs := by
                        simp [putAt] at hp
                        exact hp.2.symm
                      rw [hcs]
                      exact hW.reset hg (hW.kill hg) (Nat.le_refl _) (hW.obj _ _ hg)
                  obtain ⟨w', r1, r2⟩ := hst
                  refine .val (y := .int .i64 (min m n : Nat)) ?_ (.refl G) r2 (.v _)
                  have hmin : Nat.min m n = min m n := rfl
                  simp [Builtin.copy_, hat, r_underlying hu, hl, r_size hi, hmin, e3, r1, goInt]
              · exact .none
            · exact .none
          · rename_i n c m new hsrc
            cases hd
            split
            · rename_i hn
              subst hn
              obtain ⟨hl, hnl, hf⟩ := src_sound (P := P) hW hx hsrc
              obtain ⟨ds, e1, e2, e3⟩ := hf 0 (Nat.zero_le _)
              refine .val1 hW (y := .int .i64 0) ?_ (.v _)
              simp [Builtin.copy_, hat, r_underlying hu, hl, r_size hi, e3, goInt]
            · exact .none
          · exact .none
        · exact .none
      · exact .none
    · exact .none
  · exact .none

end
end Go.Ev
