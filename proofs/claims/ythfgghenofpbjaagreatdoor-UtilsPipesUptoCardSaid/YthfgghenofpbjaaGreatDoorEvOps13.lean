/- Stores into maps; ranges over texts; calls; all operations in one; no condition. -/
import Derived.Test.YthfgghenofpbjaaGreatDoorEvOps12
namespace Go.Ev

section
variable {P : Program} {E : Env} {G : Ghost} {σ : ASt} {w : World}

theorem bits_same {k k' : Value} (h : keyEq k k' = some true) : Instr.sameBits 10000 k' k = true := by
  cases k <;> cases k' <;> simp only [keyEq] at h <;> (first | (simp at h; done) | skip)
  · split at h
    · rename_i e; subst e; simp only [Option.some.injEq] at h; simp at h; subst h; simp [Instr.sameBits]
    · simp at h
  · simp only [Option.some.injEq] at h
    rw [← beq_bytes] at h
    simp only [Instr.sameBits]
    rw [beq_bytes] at h ⊢
    rw [beq_iff_eq] at h ⊢
    exact h.symm

theorem WR.setObj (hW : WR G σ w) {id : Nat} {ob ob' : AObj} (hg : σ.get id = some ob) {o : Obj} (hshape : w.shape? (G.own id).1 = none) (_hbsz : G.bsz (G.own id).1 = none)
    (hlam : ∀ j, G.lam (G.own id).1 j = none) (hno : ∀ c e f, o ≠ .cells c e f)
    (hob : ObjR G { w with heap := w.heap.setIfInBounds (G.own id).1 o } id ob') : WR G (σ.set id ob') { w with heap := w.heap.setIfInBounds (G.own id).1 o } := by
  refine hW.reset hg ((hW.kill hg).touch (b := (G.own id).1) (hW.killed hg) (hW.base _ _ hg) ?_ ?_ rfl rfl rfl ?_ ?_) (by simp) hob
  · intro k hk
    show (w.heap.setIfInBounds (G.own id).1 o)[k]? = _
    rw [Array.getElem?_setIfInBounds, if_neg (fun e => hk e.symm)]
  · simp
  · rw [hshape]
    have := hW.here _ _ hg
    simp only [World.shape?]
    simp only [Array.getElem?_setIfInBounds_self_of_lt this]
    cases o <;> first | rfl | exact absurd rfl (hno _ _ _)
  · intro j x hx; rw [hlam j] at hx; simp at hx

theorem WR.noCells (hW : WR G σ w) {b : Nat} {o : Obj} (hb : w.heap[b]? = some o) (hno : ∀ c e f, o ≠ .cells c e f) : w.shape? b = none ∧ G.bsz b = none ∧ ∀ j, G.lam b j = none := by
  have h1 : w.shape? b = none := by
    simp only [World.shape?, hb]
    cases o <;> first | rfl | exact absurd rfl (hno _ _ _)
  refine ⟨h1, ?_, fun j => ?_⟩
  · cases h : G.bsz b with
    | none => rfl
    | some s =>
      obtain ⟨e, N⟩ := s
      have := hW.bsz _ _ _ h
      rw [h1] at this; simp at this
  · cases h : G.lam b j with
    | none => rfl
    | some x =>
      obtain ⟨c, e, f, h2, _⟩ := block_of_cell (hW.lam _ _ _ h).1
      rw [hb] at h2; cases h2
      exact absurd rfl (hno _ _ _)

/-- A new object that is no row of cells. -/
theorem WR.newObj (hW : WR G σ w) (o : Obj) {ob : AObj} (hob : ObjR ((G.place w.heap.size 0)) { w with heap := w.heap.push o } G.nxt ob) :
    ∃ G', G.Le G' ∧ WR G' (σ.push ob) { w with heap := w.heap.push o } ∧ G'.own σ.next = (w.heap.size, 0) ∧ σ.next < G'.nxt := by
  have hp := hW.push o
  refine ⟨G.place w.heap.size 0, G.place_le _ _, hp.adopt (fun id ob e => Nat.ne_of_lt (hW.here id ob e)) hW.bs (by simp) (fun j _ => (hW.fresh _ (Nat.le_refl _)).2 j) hob, ?_, ?_⟩
  · rw [← hW.nxt]; exact G.place_self _ _
  · show σ.next < G.nxt + 1; rw [hW.nxt]; omega

theorem range_sound (hW : WR G σ w) (t : TypeId) {x : AVal} {y : Value} (hx : VR G x y) : ValSound G P w (evRange P σ t x) (Instr.range t y) := by
  unfold evRange
  split
  · rename_i s hu
    cases hx
    obtain ⟨G', le, h1, ho, hn⟩ := hW.newObj (.stringIter s 0) (ob := .strIter s 0) (by
      refine ⟨?_, ?_⟩
      · rw [G.place_self]; simp
      · rw [G.place_self])
    refine .val (y := .pointer (some ⟨w.heap.size, 0, none⟩)) ?_ le h1 (.ref _ _ _ hn (by rw [ho]))
    simp [Instr.range, r_underlying hu]
  · exact .none

theorem next_sound (hW : WR G σ w) (b : Bool) (ty : TypeId) {x : AVal} {y : Value} (hx : VR G x y) : ValSound G P w (evNext σ x b) (Instr.next y b ty) := by
  unfold evNext
  split
  · rename_i id
    obtain ⟨rfl, h1⟩ := ref_inv hx
    split
    · rename_i s pos hg
      obtain ⟨q1, q2⟩ := hW.obj _ _ hg
      have hget : (getObj (G.own id).1).run P w = .ok (.stringIter s pos) w := by simp [getObj, Sem.run, q1]
      split
      · rename_i hlt
        obtain ⟨n1, n2, n3⟩ := hW.noCells q1 (by intro c e f h; cases h)
        have hset := hW.setObj hg (ob' := .strIter s (pos + (Utf8.decode s pos).2)) (o := .stringIter s (pos + (Utf8.decode s pos).2)) n1 n2 n3 (by intro c e f h; cases h) (by
          refine ⟨?_, q2⟩
          have := hW.here _ _ hg
          show (w.heap.setIfInBounds _ _)[_]? = _
          rw [Array.getElem?_setIfInBounds_self_of_lt this])
        refine .val (y := .tuple #[.bool true, .int .i64 pos, .int .i32 (Utf8.decode s pos).1]) ?_ (.refl G) hset (VRs.vs [Value.bool true, .int .i64 pos, .int .i32 (Utf8.decode s pos).1]).tuple
        rw [q2]
        simp only [Instr.next, Sem.run_bind, hget, Result.andThen_ok]
        rw [if_pos hlt]
        simp [Go.setObj, Sem.run, q1, goInt]
      · rename_i hlt
        refine .val1 hW (y := .tuple #[.bool false]) ?_ (VRs.vs [Value.bool false]).tuple
        rw [q2]
        simp only [Instr.next, Sem.run_bind, hget, Result.andThen_ok]
        rw [if_neg hlt]
        rfl
    · exact .none
  · exact .none

theorem makeMap_sound (hW : WR G σ w) (t : TypeId) {r : Option AVal} {r' : Option Value} (hr : OptR G r r') :
    ValSound G P w (if r.all (fun x => match x with | .v (.int _ _) => true | _ => false) then
      (match P.underlying t with | some (.map _ _) => some (.val (.map σ.next), σ.push (.map [] 0)) | _ => none) else none) (Instr.makeMap t r') := by
  split
  · rename_i hall
    split
    · rename_i kt et hu
      obtain ⟨G', le, h1, ho, hn⟩ := hW.newObj (.map #[] 0) (ob := .map [] 0) (by
        refine ⟨#[], ?_, rfl, by simp⟩
        rw [G.place_self]; simp)
      refine .val (y := .map (some w.heap.size)) ?_ le h1 (.map _ _ hn (by rw [ho]))
      cases r with
      | none => cases r' with
        | none => simp [Instr.makeMap]
        | some _ => exact hr.elim
      | some x => cases r' with
        | none => exact hr.elim
        | some v =>
          simp only [Option.all_some] at hall
          split at hall
          · cases hr
            simp [Instr.makeMap, r_underlying hu, asInt, asIntOf_run]
          · simp at hall
    · exact .none
  · exact .none

theorem putKey_get (x : AVal) : ∀ (es : List (Value × AVal × Nat)) (i j : Nat), (putKey i x es)[j]? = if j = i then (es[j]?).map (fun e => (e.1, x, e.2.2)) else es[j]? := by
  intro es
  induction es with
  | nil => intro i j; simp [putKey]
  | cons e es ih =>
    intro i j
    obtain ⟨k, y, b⟩ := e
    cases i with
    | zero =>
      simp only [putKey]
      cases j with
      | zero => simp
      | succ j => simp
    | succ i =>
      simp only [putKey]
      cases j with
      | zero => simp
      | succ j => simp [ih]
theorem putKey_len (x : AVal) : ∀ (es : List (Value × AVal × Nat)) (i : Nat), (putKey i x es).length = es.length := by
  intro es
  induction es with
  | nil => intro i; simp [putKey]
  | cons e es ih => intro i; obtain ⟨k, y, b⟩ := e; cases i <;> simp [putKey, ih]

theorem mapUpdate_sound (hW : WR G σ w) (t : TypeId) {m ix x : AVal} {m' ix' x' : Value} (hm : VR G m m') (hi : VR G ix ix') (hx : VR G x x') :
    ∀ n σ', evMapUpdate P σ t m ix x = some (n, σ') → OpSound P G σ' w n ((do Instr.mapUpdate t m' ix' x'; pure Next.skip : Sem Next).run P w) := by
  intro n σ' h
  unfold evMapUpdate at h
  split at h
  · rename_i kt et id key hu
    cases hi
    split at h
    · rename_i kd es c hk hg
      cases hm with
      | map _ b h1 h2 =>
        subst h2
        split at h
        · rename_i hp
          obtain ⟨ces, q1, q2, q3⟩ := hW.obj _ _ hg
          have hE : EntR G es ces.toList := ⟨by simpa using q2, fun i a d e1 e2 => q3 i a d e1 (by simpa using e2)⟩
          have hget : (getObj (G.own id).1).run P w = .ok (.map ces c) w := by simp [getObj, Sem.run, q1]
          obtain ⟨n1, n2, n3⟩ := hW.noCells q1 (by intro c e f h; cases h)
          have hhere := hW.here _ _ hg
          have fin : ∀ (es' : List (Value × AVal × Nat)) (ces' : Array MapEntry) (c' : Nat), EntR G es' ces'.toList → WR G (σ.set id (.map es' c')) { w with heap := w.heap.setIfInBounds (G.own id).1 (.map ces' c') } := by
            intro es' ces' c' hE'
            refine hW.setObj hg n1 n2 n3 (by intro c e f h; cases h) ⟨ces', ?_, by have := hE'.1; simpa using this, fun i a d e1 e2 => hE'.2 i a d e1 (by simpa using e2)⟩
            show (w.heap.setIfInBounds _ _)[_]? = _
            rw [Array.getElem?_setIfInBounds_self_of_lt hhere]
          split at h
          · rename_i i y hf
            simp only [Option.some.injEq, Prod.mk.injEq] at h; obtain ⟨rfl, rfl⟩ := h
            have := find_run (G := G) hp es ces.toList 0 _ hE hf
            simp only at this
            obtain ⟨z, r1, r2, _, e, r4, r5, r6⟩ := this
            rw [Nat.sub_zero] at r4
            have hci : i < ces.size := by have := (List.getElem?_eq_some_iff.1 r4).1; omega
            have hck := (q3 i e ces[i] r4 (by simp [hci])).1
            refine ⟨_, G, undef, .inr ⟨?_, rfl⟩, .refl G, fin (putKey i x es) (ces.modify i fun en => { en with key := ix', val := x' }) c ?_, .junk _⟩
            · have hks : (Instr.keyThatStays (((ces[i]?).map (·.key)).getD ix') ix').run P w = .ok ix' w := by
                simp only [Array.getElem?_eq_getElem hci, Option.map_some, Option.getD_some, hck]
                simp [Instr.keyThatStays, bits_same r6]
              simp only [Instr.mapUpdate, Sem.run_bind, r_underlying hu, Result.andThen_ok, hget, checkKey_run hk hp, findKey_run hk r1, hks]
              simp [Go.setObj, Sem.run, q1]
            · refine ⟨by rw [putKey_len]; simpa using q2, fun j a d e1 e2 => ?_⟩
              rw [putKey_get] at e1
              rw [Array.getElem?_toList, Array.getElem?_modify] at e2
              by_cases hj : j = i
              · subst hj
                rw [if_pos rfl] at e1 e2
                rw [r4] at e1
                rw [Array.getElem?_eq_getElem hci] at e2
                simp only [Option.map_some, Option.some.injEq] at e1 e2
                subst e1; subst e2
                obtain ⟨s1, s2, s3⟩ := q3 j e ces[j] r4 (by simp [hci])
                refine ⟨?_, hx, s3⟩
                simp only
                have : keyEq ix' e.1 = some true := r6
                revert this
                cases ix' <;> cases he : e.1 <;> simp only [keyEq] <;> (first | (intro h; simp at h; done) | skip)
                · split
                  · rename_i e'; subst e'; intro h; simp at h; rw [h]
                  · intro h; simp at h
                · intro h
                  simp only [Option.some.injEq] at h
                  rw [← beq_bytes] at h
                  rw [beq_bytes, beq_iff_eq] at h
                  rename_i a b
                  cases a with | mk a => cases b with | mk b => cases a; cases b; simp at h; rw [h]
              · rw [if_neg hj] at e1
                rw [if_neg (fun e => hj e.symm)] at e2
                exact q3 j a d e1 e2
          · rename_i hf
            simp only [Option.some.injEq, Prod.mk.injEq] at h; obtain ⟨rfl, rfl⟩ := h
            have := find_run (G := G) hp es ces.toList 0 _ hE hf
            simp only at this
            refine ⟨_, G, undef, .inr ⟨?_, rfl⟩, .refl G, fin (es ++ [(ix', x, c)]) (ces.push { key := ix', val := x', born := c }) (c + 1) ?_, .junk _⟩
            · simp only [Instr.mapUpdate, Sem.run_bind, r_underlying hu, Result.andThen_ok, hget, checkKey_run hk hp, findKey_run hk this]
              simp [Go.setObj, Sem.run, q1]
            · refine ⟨by simp [q2], fun j a d e1 e2 => ?_⟩
              rw [Array.getElem?_toList, Array.getElem?_push] at e2
              by_cases hj : j = ces.size
              · subst hj
                rw [if_pos rfl] at e2
                rw [List.getElem?_append_right (by omega), q2, Nat.sub_self] at e1
                simp at e1 e2
                subst e1; subst e2
                exact ⟨rfl, hx, rfl⟩
              · rw [if_neg hj] at e2
                have hjl : j < ces.size := (Array.getElem?_eq_some_iff.1 e2).1
                rw [List.getElem?_append_left (by omega)] at e1
                exact q3 j a d e1 e2
          · simp at h
        · simp at h
    · simp at h
  · simp at h

end
end Go.Ev
