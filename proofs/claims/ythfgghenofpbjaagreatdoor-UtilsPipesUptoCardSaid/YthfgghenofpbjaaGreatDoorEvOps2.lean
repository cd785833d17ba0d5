/- More operations: what makes memory, addresses, parts; no condition. -/
import Derived.Test.YthfgghenofpbjaaGreatDoorEvOps
namespace Go.Ev

section
variable {P : Program} {E : Env} {G : Ghost} {σ : ASt} {w : World}

theorem VRs.vs (l : List Value) : VRs G (l.map .v) l :=
  ⟨by simp, fun i a d h1 h2 => by simp only [List.getElem?_map, h2, Option.map_some, Option.some.injEq] at h1; subst h1; exact .v d⟩

theorem ofValue_sound (v : Value) : VR G (ofValue v) v := by
  unfold ofValue
  split
  · rename_i cs; exact (VRs.vs cs.toList).agg
  · rename_i cs; exact (VRs.vs cs.toList).tuple
  · rename_i t cs; exact .iface t _ _ (VRs.vs cs.toList).agg
  · rename_i t x _; exact .iface t _ _ (.v x)
  · rename_i f a b
    split
    · rename_i h
      have ha : a = #[] := by simpa using h.1
      have hb : b = #[] := by simpa using h.2
      subst ha; subst hb
      exact .func _ [] [] #[] #[] (fun l e => by cases e) rfl rfl (by simp) (by simp)
    · exact .v _
  · exact .v _

/-- A new block: its first cells never written again, an object behind them, others behind that. -/
theorem WR.make (hW : WR G σ w) (pre vs rest : List Value) {cs : List AVal} (e : TypeId) (e' : TypeId) (hp : ∀ v ∈ pre, one v = true) (hv : VRs G cs vs) (hone : ∀ v ∈ vs, one v = true)
    (fr : Nat × Nat := (0, 0)) (hfr : ∀ o, o < (pre ++ (vs ++ rest)).length → ¬ (fr.1 ≤ o ∧ o < fr.2) := by intro o _; simp) :
    ∃ G', G.Le G' ∧ WR G' (σ.push (.cells e cs)) { w with heap := w.heap.push (.cells (pre ++ (vs ++ rest)).toArray e' fr) } ∧ G'.own σ.next = (w.heap.size, pre.length) ∧ σ.next < G'.nxt ∧
      G'.bsz w.heap.size = some (e', (pre ++ (vs ++ rest)).length) ∧ (∀ (i : Nat) x, pre[i]? = some x → G'.lam w.heap.size i = some x) := by
  obtain ⟨G1, le1, h1, hno, hl, hf, hb, hn⟩ := hW.newBlock pre (vs ++ rest) e' (fun i x hx => hp x (List.mem_of_getElem? hx)) fr
  have le2 := G1.place_le w.heap.size pre.length
  have hnx : G1.nxt = σ.next := hn.trans hW.nxt
  refine ⟨G1.place w.heap.size pre.length, le1.trans le2, h1.adopt hno ?_ (by simp) hf ?_, ?_, ?_, hb, hl⟩
  · rw [le1.base]; exact hW.bs
  · refine ⟨e', (pre ++ (vs ++ rest)).length, ?_, ?_, ?_, ?_⟩
    · rw [G1.place_self]; exact hb
    · rw [G1.place_self]; simp only [List.length_append]; have := hv.1; omega
    · rw [G1.place_self]
      intro o _ ho
      have := hfr o ho
      simp only [World.frozen?]
      simp
      omega
    · rw [G1.place_self]
      intro i x hx
      obtain ⟨d, e1, e2⟩ := hv.exists hx
      refine ⟨d, ?_, hone d (List.mem_of_getElem? e1), e2.mono (le1.trans le2)⟩
      have hi := (List.getElem?_eq_some_iff.1 e1).1
      simp only [World.cell?]
      simp only [Array.getElem?_push_size, Option.isSome_none, Bool.false_eq_true, if_false, List.getElem?_toArray]
      rw [List.getElem?_append_right (by omega), show pre.length + i - pre.length = i by omega, List.getElem?_append_left hi, e1]
  · rw [← hnx]; exact G1.place_self _ _
  · show σ.next < G1.nxt + 1; omega

/-- A new block that is never written again. -/
theorem WR.makeFixed (hW : WR G σ w) (vs : List Value) (e : TypeId) (hone : ∀ v ∈ vs, one v = true) :
    ∃ G', G.Le G' ∧ WR G' σ { w with heap := w.heap.push (.cells vs.toArray e) } ∧ (∀ (i : Nat) x, vs[i]? = some x → G'.lam w.heap.size i = some x) := by
  obtain ⟨G1, le1, h1, _, hl, _, _, _⟩ := hW.newBlock vs [] e (fun i x hx => hone x (List.mem_of_getElem? hx))
  simp only [List.append_nil] at h1
  exact ⟨G1, le1, h1, hl⟩

theorem zeroCells_sound {t : TypeId} {cs : List AVal} (h : zeroCells? P t = some cs) : ∃ i z, P.info? t = some i ∧ i.zero = some z ∧ VRs G cs z.cells.toList ∧ ∀ d ∈ z.cells.toList, one d = true := by
  unfold zeroCells? at h
  cases hi : P.info? t with
  | none => rw [hi] at h; simp at h
  | some i =>
    rw [hi] at h
    simp only [Option.bind_some] at h
    cases hz : i.zero with
    | none => rw [hz] at h; simp at h
    | some z =>
      rw [hz] at h
      simp only [Option.bind_some] at h
      exact ⟨i, z, rfl, hz, cells_sound (ofValue_sound z) h⟩

theorem newVar_sound (hW : WR G σ w) (t : TypeId) {y : Value} {cs : List AVal} (hv : VRs G cs y.cells.toList) (hone : ∀ d ∈ y.cells.toList, one d = true) {s : Sem Value}
    (hs : s.run P w = .ok (.pointer (some ⟨w.heap.size, 0, none⟩)) { w with heap := w.heap.push (.cells y.cells t) }) :
    ValSound G P w (some (.val (.ref σ.next 0), σ.push (.cells t cs))) s := by
  obtain ⟨G', le, h1, ho, hn, _, _⟩ := hW.make [] y.cells.toList [] t t (by simp) hv hone
  simp only [List.nil_append, List.append_nil] at h1
  exact .val hs le h1 (.ref _ _ _ hn (by rw [ho]; rfl))

theorem alloc_sound (hW : WR G σ w) (t : TypeId) : ValSound G P w (evAlloc P σ t) (Instr.alloc t true (.tuple #[])) := by
  unfold evAlloc
  refine .bind fun cs hcs => ?_
  obtain ⟨i, z, hi, hz, hv, hone⟩ := zeroCells_sound (G := G) hcs
  exact newVar_sound hW t hv hone (by simp [Instr.alloc, r_zero hi hz, newVar, newRow])

theorem box_sound (hW : WR G σ w) (t : TypeId) {x : AVal} {y : Value} (hx : VR G x y) : ValSound G P w (evBox σ t x) (Instr.box t y) := by
  unfold evBox
  refine .bind fun cs hcs => ?_
  obtain ⟨hv, hone⟩ := cells_sound hx hcs
  exact newVar_sound hW t hv hone (by simp [Instr.box, newVar, newRow])

theorem nilDeref_run {α : Type} : (runtimePanic .nilDeref : Sem α).run P w = .halt (.panic (.iface P.rt.errorString (strVal "invalid memory address or nil pointer dereference"))) w := by
  simp [runtimePanic]

theorem extract_sound (hW : WR G σ w) (j : Nat) {x : AVal} {y : Value} (hx : VR G x y) : ValSound G P w (evExtract σ x j) (Instr.extract y j) := by
  unfold evExtract
  split
  · cases hx with
    | tuple vs ds h1 h2 =>
      refine .bind fun a ha => ?_
      have hj : j < ds.size := by rw [← h1]; exact (List.getElem?_eq_some_iff.1 ha).1
      exact .val1 hW (by simp [Instr.extract, hj]) (h2 j a ds[j] ha (by simp [hj]))
  · exact .none

theorem part_sound {t : TypeId} {cs : List AVal} {ds : Array Value} {off : Nat} {x : AVal} (h : VRs G cs ds.toList) (hx : takeVar P t (cs.drop off) = some x) :
    ∃ y, (part t ds off).run P w = .ok y w ∧ VR G x y := by
  have h' := h.drop off
  have single : ∀ (d : TypeDesc), P.underlying t = some d → (match d with | .struct _ | .array _ _ => False | _ => True) → (cs.drop off).head? = some x → ∃ y, (part t ds off).run P w = .ok y w ∧ VR G x y := by
    intro d hd hn hc
    rw [List.head?_eq_getElem?] at hc
    obtain ⟨v, h1, h3⟩ := h'.exists hc
    refine ⟨v, ?_, h3⟩
    have hag : (isAgg t).run P w = .ok false w := by
      simp only [isAgg, Sem.run_bind, r_underlying hd, Result.andThen_ok]
      cases d <;> first | rfl | (exact hn.elim)
    rw [List.getElem?_drop] at h1
    simp only [Nat.add_zero, Array.getElem?_toList] at h1
    simp only [part, Sem.run_bind, hag, Result.andThen_ok, Bool.false_eq_true, if_false, h1]
    rfl
  have many : ∀ (d : TypeDesc) (i : TypeInfo), P.underlying t = some d → P.info? t = some i → (match d with | .struct _ | .array _ _ => True | _ => False) → x = .agg ((cs.drop off).take i.size) →
      ∃ y, (part t ds off).run P w = .ok y w ∧ VR G x y := by
    intro d i hd hi hn hx
    have hag : (isAgg t).run P w = .ok true w := by
      simp only [isAgg, Sem.run_bind, r_underlying hd, Result.andThen_ok]
      cases d <;> first | rfl | (exact hn.elim)
    refine ⟨.agg (ds.extract off (off + i.size)), ?_, ?_⟩
    · simp only [part, Sem.run_bind, hag, Result.andThen_ok, if_true, r_size hi]
      rfl
    · rw [hx]
      have := (h'.take i.size).agg
      have e : ((ds.toList.drop off).take i.size).toArray = ds.extract off (off + i.size) := by
        apply Array.ext'; simp
      rwa [e] at this
  unfold takeVar at hx
  split at hx
  · rename_i i h1 h2
    split at hx
    · exact many _ i h1 h2 trivial (by simpa using hx.symm)
    · simp at hx
  · rename_i i h1 h2
    split at hx
    · exact many _ i h1 h2 trivial (by simpa using hx.symm)
    · simp at hx
  · rename_i d i hs ha h1 h2
    refine single d h1 ?_ hx
    cases d <;> first | trivial | skip
    · exact (ha _ _ rfl).elim
    · exact (hs _ rfl).elim
  · simp at hx

theorem agg_list {cs : List AVal} {y : Value} (h : VR G (.agg cs) y) : ∃ ds : Array Value, y = .agg ds ∧ VRs G cs ds.toList := by
  cases h with
  | agg _ ds h1 h2 => exact ⟨ds, rfl, by simpa using h1, fun i a d e1 e2 => h2 i a d e1 (by simpa using e2)⟩

theorem field_sound (hW : WR G σ w) (s : TypeId) (j : Nat) {x : AVal} {y : Value} (hx : VR G x y) : ValSound G P w (evField P σ s x j) (Instr.field s y j) := by
  unfold evField
  split
  · rename_i fs cs hu
    obtain ⟨ds, rfl, hv⟩ := agg_list hx
    refine .bind fun f hf => .bind fun a ha => ?_
    obtain ⟨v, h1, h2⟩ := part_sound (w := w) hv ha
    exact .val1 hW (by simp [Instr.field, r_underlying hu, hf, asAgg, h1]) h2
  · exact .none

theorem fieldPlace_run {f : Field} {i : TypeInfo} (hi : P.info? f.type = some i) (hz : i.size ≠ 0) (b o : Nat) :
    (fieldPlace ⟨b, o, none⟩ f).run P w = .ok ⟨b, o + f.offset, none⟩ w := by
  simp [fieldPlace, r_size hi, hz, add_mk]

theorem iref_drop {cs : List AVal} {b o : Nat} (n : Nat) (h : VR G (.iref cs) (.pointer (some ⟨b, o, none⟩))) : VR G (.iref (cs.drop n)) (.pointer (some ⟨b, o + n, none⟩)) := by
  cases h with
  | iref _ _ g h1 h2 h3 =>
    refine .iref _ _ (fun i => g (n + i)) rfl (fun i hi => ?_) fun i x hx => ?_
    · have := h2 (n + i) (by simp at hi; omega)
      simpa [Nat.add_assoc] using this
    · rw [List.getElem?_drop] at hx; exact h3 _ x hx

theorem fieldAddr_sound (hW : WR G σ w) (s : TypeId) (j : Nat) {p : AVal} {a : Value} (ha : VR G p a) : ValSound G P w (evFieldAddr P σ s p j) (Instr.fieldAt s a j) := by
  unfold evFieldAddr
  split
  · rename_i fs hu
    refine .bind fun f hf => .bind fun i hi => ?_
    split
    · exact .none
    · rename_i hz
      split
      · rename_i id off
        cases ha with
        | ref _ _ a h1 h2 =>
          subst h2
          exact .val1 hW (by simp [Instr.fieldAt, r_underlying hu, hf, Instr.sureAddr, fieldPlace_run hi hz]; rfl) (.ref _ _ _ h1 (by simp [Nat.add_assoc]))
      · rename_i cs
        cases ha with
        | iref _ a g h1 h2 h3 =>
          obtain ⟨b, o, sp⟩ := a
          simp only at h1; subst h1
          exact .val1 hW (by simp [Instr.fieldAt, r_underlying hu, hf, Instr.sureAddr, fieldPlace_run hi hz]) (iref_drop _ (.iref _ _ g rfl h2 h3))
      · exact .none
  · exact .none

theorem makeIface_sound (hW : WR G σ w) (t : TypeId) {x : AVal} {y : Value} (hx : VR G x y) : ValSound G P w (evMakeIface P σ t x) (Instr.makeInterface t y) := by
  unfold evMakeIface
  split
  · exact .none
  · exact .none
  · rename_i d hn hd
    refine .val1 hW ?_ (.iface t x y hx)
    simp only [Instr.makeInterface, Sem.run_bind, r_underlying hd, Result.andThen_ok]
    cases d <;> first | rfl | exact absurd hd (hn _)

end
end Go.Ev
