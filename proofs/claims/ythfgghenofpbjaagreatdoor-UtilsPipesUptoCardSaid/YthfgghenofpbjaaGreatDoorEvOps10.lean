/- append; no condition. -/
import Derived.Test.YthfgghenofpbjaaGreatDoorEvOps9
namespace Go.Ev

section
variable {P : Program} {E : Env} {G : Ghost} {σ : ASt} {w : World}

theorem take_all {cs : List AVal} {n k : Nat} (h : cs.length = n * k) : cs.take (n * k) = cs := by rw [← h, List.take_length]

/-- Stores into the spare places of a row: they are never written again. -/
theorem WR.spent {w' : World} (hW : WR G σ w) {id : Nat} {e : TypeId} {cs : List AVal} {_new : List AVal} {vs : List Value} (e' : TypeId) (hg : σ.get id = some (.cells e cs))
    (hs : Stored w w' (G.own id).1 (G.own id).2 vs) (hone : ∀ v ∈ vs, one v = true) {N : Nat} {t : TypeId} (hb : G.bsz (G.own id).1 = some (t, N)) (hN : (G.own id).2 + vs.length ≤ N) :
    ∃ G', G.Le G' ∧ WR G' ((σ.kill id).push (.cells e' [])) w' ∧ G'.own σ.next = ((G.own id).1, (G.own id).2 + vs.length) ∧ σ.next < G'.nxt ∧
      (∀ (i : Nat) x, vs[i]? = some x → G'.lam (G.own id).1 ((G.own id).2 + i) = some x) ∧ G'.bsz (G.own id).1 = some (t, N) := by
  have h1 : WR G (σ.kill id) w' := by
    refine (hW.kill hg).touch (hW.killed hg) (hW.base _ _ hg) hs.other hs.size hs.os hs.tape hs.output hs.shape fun o x hx => hs.off o (.inl ?_)
    rcases Nat.lt_or_ge o ((G.own id).2) with h | h
    · exact h
    · rw [hW.free _ _ hg o h] at hx; simp at hx
  have hfree : ∀ j, (G.own id).2 ≤ j → G.lam (G.own id).1 j = none := hW.free _ _ hg
  have hsz : (G.own id).1 < w'.heap.size := by rw [hs.size]; exact hW.here _ _ hg
  have h2 : WR (G.grow (G.own id).1 (G.own id).2 vs) (σ.kill id) w' := h1.grow (hW.killed hg) (hW.base _ _ hg) hfree hsz (fun i x hx => ⟨hs.at_ i x hx, hone x (List.mem_of_getElem? hx)⟩)
  have le1 : G.Le (G.grow (G.own id).1 (G.own id).2 vs) := Ghost.grow_le (hW.base _ _ hg) hfree
  have le2 := (G.grow (G.own id).1 (G.own id).2 vs).place_le (G.own id).1 ((G.own id).2 + vs.length)
  obtain ⟨t', N', b1, _, b3, _⟩ := hW.obj _ _ hg
  rw [hb] at b1; cases b1
  refine ⟨_, le1.trans le2, h2.adopt (b := (G.own id).1) (o := (G.own id).2 + vs.length) (hW.killed hg) (hW.base _ _ hg) hsz (fun j hj => Ghost.grow_lam_ge hj (hfree j (by omega))) ?_, ?_, ?_, fun i x hx => Ghost.grow_lam hx, hb⟩
  · refine ⟨t, N, ?_, ?_, ?_, by simp⟩
    · rw [Ghost.place_self]; exact hb
    · rw [Ghost.place_self]; simpa using hN
    · rw [Ghost.place_self]
      intro o h3 h4
      rw [hs.frozen]
      exact b3 o (by simp only at h3; omega) h4
  · rw [← hW.nxt]; exact Ghost.place_self _ _ _
  · show σ.next < G.nxt + 1; rw [hW.nxt]; omega

theorem append_sound (fn : FuncId) (hW : WR G σ w) (ats : Array TypeId) (ty : TypeId) {s x : AVal} {s' x' : Value} (hs : VR G s s') (hx : VR G x x') :
    ValSound G P w (evAppend P E fn σ ats s x) (Builtin.append_ ats ty #[s', x']) := by
  unfold evAppend
  split
  · rename_i st xt h0 h1
    split
    · rename_i e xd hu hxu
      split
      · exact .none
      · rename_i hxd
        have hxd : isIntType xd = false := by simpa using hxd
        split
        · rename_i i hi
          split
          · rename_i hz
            obtain ⟨hk, hzs, hzc⟩ := hz
            obtain ⟨z, hz⟩ := Option.isSome_iff_exists.1 hzs
            have hzc : z.cells.size = i.size := by rw [hz] at hzc; simpa using hzc
            split
            · rename_i m new hsrc
              obtain ⟨hl, hnl, hf⟩ := src_sound (P := P) hW hx hsrc
              have hWd := hW.drawn (w.drawn + 1)
              obtain ⟨_, _, hfd⟩ := src_sound (P := P) hWd hx hsrc
              obtain ⟨ds, f1, f2, f3⟩ := hf m (Nat.le_refl m)
              obtain ⟨dd, g1, g2, g3⟩ := hfd m (Nat.le_refl m)
              rw [take_all hnl] at f1 g1
              have zero : m = 0 → ds = [] := by
                intro h; subst h
                have := f1.1
                exact List.eq_nil_of_length_eq_zero (by omega)
              simp only
              split
              · rename_i n0 c0
                cases hs
                split
                · rename_i hc
                  obtain ⟨rfl, rfl, hmost⟩ := hc
                  split
                  · rename_i hm
                    have hds := zero hm
                    subst hm; subst hds
                    exact .val1 hW (append_room h0 h1 hu hxu hxd hi (base := none) hl f3 (Nat.le_refl _) rfl) (.v _)
                  · rename_i hm
                    split
                    · rename_i hby
                      obtain ⟨r, rest, hr, hrun⟩ := append_grow (ty := ty) h0 h1 hu hxu hxd hi hz hzc (base := none) (n := 0) (m := m) (c := 0) (old := []) hl (by omega) (by omega) (by rw [Nat.zero_add]; omega)
                        (by simp [Builtin.firstCells]) g3
                      simp only [Nat.zero_add] at hrun
                      split
                      · have := grown_arr (P := P) (n := 0) (cs := []) (old := []) hW hW rfl (.nil G) g1 (by simp) g2 (by simp) hnl hr (s := Builtin.append_ ats ty #[.slice none 0 0, x']) (e := e) (by simpa using hrun)
                        simpa using this
                      · have := grown_list (P := P) (n := 0) (cs := []) (old := []) hW hk (.nil G) g1 (by simp) g2 (by simp) hnl hr (s := Builtin.append_ ats ty #[.slice none 0 0, x']) (e := e) (by simpa using hrun)
                        simpa using this
                    · exact .none
                · exact .none
              · rename_i k' n cs tok
                split
                · rename_i hc
                  obtain ⟨rfl, hlen, hmost, hby⟩ := hc
                  obtain ⟨b, o, cap, rfl, h2, h3, h4, hir⟩ := list_inv hs
                  split
                  · rename_i hm
                    have hds := zero hm
                    subst hm; subst hds
                    exact .val1 hW (append_room h0 h1 hu hxu hxd hi (base := some ⟨b, o, none⟩) hl f3 (by omega) rfl) hs
                  · rename_i hm
                    have hgrow : ¬ n + m ≤ cap → ∃ old r rest, VRs G cs old ∧ (∀ d ∈ old, one d = true) ∧ rest.length = r * i.size ∧ (Builtin.append_ ats ty #[.slice (some ⟨b, o, none⟩) n cap, x']).run P w =
                        .ok (.slice (some ⟨w.heap.size, 0, none⟩) (n + m) (n + m + r)) { w with drawn := w.drawn + 1, heap := w.heap.push (.cells (old ++ (dd ++ rest)).toArray e) } := by
                      intro hroom
                      have hsl : srcCells σ i.size (.list i.size n cs tok) = some (n, cs) := by simp [srcCells, hlen]
                      obtain ⟨_, _, hfo⟩ := src_sound (P := P) hWd hs hsl
                      obtain ⟨old, p1, p2, p3⟩ := hfo n (Nat.le_refl n)
                      rw [take_all hlen] at p1
                      obtain ⟨r, rest, hr, hrun⟩ := append_grow (ty := ty) h0 h1 hu hxu hxd hi hz hzc (base := some ⟨b, o, none⟩) hl hroom hmost hby p3 g3
                      exact ⟨old, r, rest, p1, p2, hr, hrun⟩
                    split
                    · exact .none
                    · have hcap : cap = n := h4
                      obtain ⟨old, r, rest, p1, p2, hr, hrun⟩ := hgrow (by omega)
                      split
                      · exact grown_arr hW hW rfl p1 g1 p2 g2 hlen hnl hr hrun
                      · exact grown_list hW hk p1 g1 p2 g2 hlen hnl hr hrun
                    · rename_i oid
                      split
                      · rename_i e' hg
                        split
                        · exact .none
                        · by_cases hroom : n + m ≤ cap
                          · obtain ⟨hid, hown⟩ := h4
                            have hnc : n < cap := Nat.lt_of_lt_of_le (Nat.lt_add_of_pos_right (Nat.pos_of_ne_zero hm)) hroom
                            obtain ⟨ho, t, N, hb, hN⟩ := hown hnc
                            clear hown
                            simp only at ho hb hN
                            have hb1 : (G.own oid).1 = b := by rw [ho]
                            have ho1 : (G.own oid).2 = o + n * i.size := by rw [ho]
                            have hmul : o + n * i.size + m * i.size ≤ N := by
                              have := Nat.mul_le_mul_right i.size hroom
                              rw [Nat.add_mul] at this
                              omega
                            have hdl : ds.length = m * i.size := by rw [← f1.1, hnl]
                            obtain ⟨w', r1, r2⟩ := run_stores (P := P) (b := (G.own oid).1) (o := (G.own oid).2) ds 0 w f2 (fun j hj => hW.writable hg (by rw [hb1]; exact hb) (by omega) (by omega))
                            obtain ⟨G', le, q1, q2, q3, q4, q5⟩ := hW.spent (_new := new) e hg (by simpa using r2) f2 (by rw [hb1]; exact hb) (by omega)
                            rw [hb1] at q4 q5 q2
                            rw [ho1] at q4 q2
                            refine .val (y := .slice (some ⟨b, o, none⟩) (n + m) cap) (append_room h0 h1 hu hxu hxd hi (base := some ⟨b, o, none⟩) hl f3 hroom (by simpa [add_mk, hb1, ho1] using r1)) le q1 ?_
                            cases hs with
                            | list _ _ _ _ _ _ g a1 a2 a3 a4 a5 a6 =>
                              have hall := (VRs.append (xs := cs) (ys := (List.range cs.length).map g) ⟨by simp, fun j a d e1 e2 => by
                                have hj := (List.getElem?_eq_some_iff.1 e1).1
                                simp [hj] at e2; subst e2; exact a5 j a e1⟩ f1)
                              refine .list _ _ _ _ _ _ (fun j => ((List.range cs.length).map g ++ ds).getD j undef) rfl (by rw [List.length_append, hlen, hnl, Nat.add_mul]) hroom (fun j hj => ?_) (fun j x hx => ?_) ⟨q3, fun _ => ⟨?_, t, N, q5, hN⟩⟩
                              · simp only
                                by_cases hjc : j < cs.length
                                · rw [List.getD, List.getElem?_append_left (by simpa using hjc)]
                                  simp only [List.getElem?_map, List.getElem?_range hjc, Option.map_some, Option.getD_some]
                                  exact le.lam _ _ _ (a4 j hjc)
                                · have hj2 : j - cs.length < ds.length := by rw [List.length_append] at hj; rw [← f1.1]; omega
                                  rw [List.getD, List.getElem?_append_right (by simp; omega)]
                                  simp only [List.length_map, List.length_range]
                                  rw [List.getElem?_eq_getElem hj2]
                                  have := q4 (j - cs.length) _ (List.getElem?_eq_getElem hj2)
                                  rw [show o + n * i.size + (j - cs.length) = o + j by omega] at this
                                  exact this
                              · obtain ⟨d, z1, z2⟩ := hall.exists hx
                                rw [List.getD, z1]
                                exact z2.mono le
                              · rw [q2, hdl, Nat.add_mul]; simp only; congr 1; omega
                          · obtain ⟨old, r, rest, p1, p2, hr, hrun⟩ := hgrow hroom
                            have := grown_list (hW.kill hg) hk p1 g1 p2 g2 hlen hnl hr hrun
                            exact this
                      · exact .none
                · exact .none
              · rename_i k' oid off n cap
                split
                · rename_i hc
                  obtain ⟨rfl, hmost, hby⟩ := hc
                  split
                  · rename_i e' cs hg
                    split
                    · rename_i hle
                      obtain ⟨a, c, rfl, h2, h3, h4, h5, t, N, h6, h7, h8⟩ := arr_inv hs
                      obtain ⟨t', N', b1, b2, b3, b4⟩ := hW.obj _ _ hg
                      rw [h6] at b1; cases b1
                      have hdl : ds.length = m * i.size := by rw [← f1.1, hnl]
                      split
                      · rename_i hm
                        have hds := zero hm
                        subst hm; subst hds
                        exact .val1 hW (append_room h0 h1 hu hxu hxd hi (base := some a) hl f3 (by omega) rfl) hs
                      · rename_i hm
                        have inplace : ∀ cs', n + m ≤ c → putAt cs (off + n * i.size) new = some cs' →
                            ValSound G P w (some (.val (.arr i.size oid off (n + m) cap), σ.set oid (.cells e' cs'))) (Builtin.append_ ats ty #[.slice (some a) n c, x']) := by
                          intro cs' hroom hp
                          have := h5 (by omega); subst this
                          obtain ⟨_, hple, _⟩ := putAt_get hp
                          obtain ⟨w', r1, r2⟩ := run_stores (P := P) (b := (G.own oid).1) (o := (G.own oid).2 + (off + n * i.size)) ds 0 w f2 (fun j hj => hW.writable hg h6 (by omega) (by omega))
                          refine .val (append_room h0 h1 hu hxu hxd hi (base := some _) hl f3 hroom (by simpa [add_mk, Nat.add_assoc] using r1)) (.refl G) (hW.stored hg (by simpa using r2) f1 f2 hp) ?_
                          exact .arr _ _ _ _ _ _ _ h2 hroom h4 h5 ⟨t, N, h6, h7, h8⟩
                        have hsl : srcCells σ i.size (.arr i.size oid off n cap) = some (n, (cs.drop off).take (n * i.size)) := by simp [srcCells, hg, hle]
                        have hgrow : ¬ n + m ≤ c → ∃ old r rest, VRs G ((cs.drop off).take (n * i.size)) old ∧ (∀ d ∈ old, one d = true) ∧ rest.length = r * i.size ∧ (Builtin.append_ ats ty #[.slice (some a) n c, x']).run P w =
                            .ok (.slice (some ⟨w.heap.size, 0, none⟩) (n + m) (n + m + r)) { w with drawn := w.drawn + 1, heap := w.heap.push (.cells (old ++ (dd ++ rest)).toArray e) } := by
                          intro hroom
                          obtain ⟨_, hnl', hfo⟩ := src_sound (P := P) hWd hs hsl
                          obtain ⟨old, p1, p2, p3⟩ := hfo n (Nat.le_refl n)
                          rw [take_all hnl'] at p1
                          obtain ⟨r, rest, hr, hrun⟩ := append_grow (ty := ty) h0 h1 hu hxu hxd hi hz hzc (base := some a) hl hroom hmost hby p3 g3
                          exact ⟨old, r, rest, p1, p2, hr, hrun⟩
                        have hlen : ((cs.drop off).take (n * i.size)).length = n * i.size := by simp; omega
                        split
                        · rename_i c0
                          have hc0 : c = c0 := h4 c0 rfl
                          subst hc0
                          split
                          · rename_i hroom
                            cases hp : putAt cs (off + n * i.size) new with
                            | none => exact .none
                            | some cs' => exact inplace cs' hroom hp
                          · rename_i hroom
                            obtain ⟨old, r, rest, p1, p2, hr, hrun⟩ := hgrow hroom
                            split
                            · exact grown_arr hW hW rfl p1 g1 p2 g2 hlen hnl hr hrun
                            · exact grown_list hW hk p1 g1 p2 g2 hlen hnl hr hrun
                        · have hN := h8 rfl
                          split
                          · rename_i hcl
                            have hroom : n + m ≤ c := by
                              have h9 : (n + m) * i.size ≤ c * i.size := by omega
                              exact Nat.le_of_mul_le_mul_right h9 hk
                            cases hp : putAt cs (off + n * i.size) new with
                            | none => exact .none
                            | some cs' => exact inplace cs' hroom hp
                          · split
                            · rename_i hkeep
                              obtain ⟨_, rfl⟩ := hkeep
                              simp only [List.drop_zero] at hgrow hlen
                              by_cases hroom : n + m ≤ c
                              · have := h5 (by omega); subst this
                                have hmul : (n + m) * i.size ≤ c * i.size := Nat.mul_le_mul_right _ hroom
                                rw [Nat.add_mul] at hmul
                                obtain ⟨w', r1, r2⟩ := run_stores (P := P) (b := (G.own oid).1) (o := (G.own oid).2 + n * i.size) ds 0 w f2 (fun j hj => hW.writable hg h6 (by omega) (by omega))
                                have r2 : Stored w w' (G.own oid).1 ((G.own oid).2 + n * i.size) ds := by simpa using r2
                                have hfree : ∀ j, (G.own oid).2 ≤ j → G.lam (G.own oid).1 j = none := hW.free _ _ hg
                                have q1 : WR G (σ.kill oid) w' := by
                                  refine (hW.kill hg).touch (hW.killed hg) (hW.base _ _ hg) r2.other r2.size r2.os r2.tape r2.output r2.shape fun o x hx => r2.off o (.inl ?_)
                                  rcases Nat.lt_or_ge o ((G.own oid).2) with h | h
                                  · omega
                                  · rw [hfree o h] at hx; simp at hx
                                have le := G.place_le (G.own oid).1 (G.own oid).2
                                have hnx := hW.nxt
                                have q2 := q1.adopt (b := (G.own oid).1) (o := (G.own oid).2) (ob := .cells e (cs.take (n * i.size) ++ new)) (hW.killed hg) (hW.base _ _ hg) (by rw [r2.size]; exact hW.here _ _ hg) hfree (by
                                  refine ⟨t, N, by rw [Ghost.place_self]; exact h6, ?_, ?_, ?_⟩
                                  · rw [Ghost.place_self]
                                    simp only [List.length_append, hlen, hnl]
                                    omega
                                  · rw [Ghost.place_self]
                                    intro o z1 z2
                                    rw [r2.frozen]; exact b3 o z1 z2
                                  · rw [Ghost.place_self]
                                    intro j x hx
                                    by_cases hj : j < n * i.size
                                    · rw [List.getElem?_append_left (by rw [hlen]; exact hj), List.getElem?_take, if_pos hj] at hx
                                      obtain ⟨d, z1, z2, z3⟩ := b4 j x hx
                                      exact ⟨d, by rw [r2.off _ (.inl (by omega))]; exact z1, z2, z3.mono le⟩
                                    · rw [List.getElem?_append_right (by rw [hlen]; omega), hlen] at hx
                                      obtain ⟨d, z1, z2⟩ := f1.exists hx
                                      have z3 := r2.at_ _ _ z1
                                      rw [show (G.own oid).2 + n * i.size + (j - n * i.size) = (G.own oid).2 + j by omega] at z3
                                      exact ⟨d, z3, f2 d (List.mem_of_getElem? z1), z2.mono le⟩)
                                refine .val (append_room h0 h1 hu hxu hxd hi (base := some _) hl f3 hroom (by simpa [add_mk, Nat.add_assoc] using r1)) le q2 ?_
                                have hpl : (G.place (G.own oid).1 (G.own oid).2).own σ.next = ((G.own oid).1, (G.own oid).2) := by rw [← hnx]; exact G.place_self _ _
                                exact .arr _ _ _ _ _ _ _ (by show σ.next < G.nxt + 1; omega) hroom (by simp) (fun _ => by rw [hpl]) ⟨t, N, by rw [hpl]; exact h6, by rw [hpl]; omega, fun _ => by rw [hpl]; omega⟩
                              · obtain ⟨old, r, rest, p1, p2, hr, hrun⟩ := hgrow hroom
                                exact grown_arr hW (hW.kill hg) rfl p1 g1 p2 g2 hlen hnl hr hrun
                            · exact .none
                    · exact .none
                  · exact .none
                · exact .none
              · exact .none
            · exact .none
          · exact .none
        · exact .none
    · exact .none
  · exact .none

end
end Go.Ev
