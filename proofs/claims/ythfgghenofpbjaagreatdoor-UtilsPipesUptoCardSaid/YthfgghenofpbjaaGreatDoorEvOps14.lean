/- Calls; all operations in one; no condition. -/
import Derived.Test.YthfgghenofpbjaaGreatDoorEvOps13
namespace Go.Ev

section
variable {P : Program} {E : Env} {G : Ghost} {σ : ASt} {w : World}

theorem arr_head (x : Value) (xs : Array Value) : (#[x] ++ xs)[0]? = some x := by
  rw [Array.getElem?_append_left (by simp)]; rfl
theorem arr_tail (x : Value) (xs : Array Value) : (#[x] ++ xs).extract 1 (#[x] ++ xs).size = xs := by
  apply Array.ext'; simp

theorem callFunc_run {f : FuncId} {args : Array Value} (h : hasBody P f = some true) : (callFunc f args).run P w = .ok (.enter f args) w := by
  unfold hasBody at h
  cases hf : P.funcs[f]? with
  | none => rw [hf] at h; simp at h
  | some fn =>
    rw [hf] at h
    simp only [Option.bind_some] at h
    split at h
    · simp at h
    · rename_i hn
      simp only [Option.some.injEq] at h
      have hb : fn.body.isNone = false := by cases hbo : fn.body <;> simp_all
      simp only [callFunc, Sem.run_bind, run_program, Result.andThen_ok, hf]
      rw [if_neg hn, if_neg (by simp [hb])]
      rfl

theorem method_run {t : TypeId} {x : AVal} {v : Value} {name : String} {g : FuncId} {r : AVal} (hx : VR G x v) (h : evMethod P σ t x name = some (g, r)) :
    ∃ rv, (Go.method (P.types.size + Made.depth) t v name).run P w = .ok (g, rv) w ∧ VR G r rv := by
  unfold evMethod at h
  cases hi : P.info? t with
  | none => rw [hi] at h; simp at h
  | some i =>
    rw [hi] at h
    simp only [Option.bind_some] at h
    cases hm : i.methods.find? (·.name == name) with
    | none => rw [hm] at h; simp at h
    | some m =>
      rw [hm] at h
      simp only [Option.bind_some] at h
      split at h
      · rename_i hp
        have hpath : m.path = #[] := by simpa using hp
        have hfuel : ∃ n, P.types.size + Made.depth = n + 1 := ⟨P.types.size + 99, rfl⟩
        obtain ⟨n, hn⟩ := hfuel
        rw [hn]
        split at h
        · rename_i f el hf hu
          simp only [Option.some.injEq, Prod.mk.injEq] at h; obtain ⟨rfl, rfl⟩ := h
          refine ⟨v, ?_, hx⟩
          simp only [Go.method, Sem.run_bind, r_info hi, Result.andThen_ok, hm, hpath]
          simp [Go.follow, hf, Go.receiverAt, r_underlying hu, Go.Place.get]
        · simp at h
        · rename_i f d hn' hf hu
          simp only [Option.some.injEq, Prod.mk.injEq] at h; obtain ⟨rfl, rfl⟩ := h
          refine ⟨v, ?_, hx⟩
          simp only [Go.method, Sem.run_bind, r_info hi, Result.andThen_ok, hm, hpath]
          simp only [Go.follow, Sem.run_pure, Result.andThen_ok, hf, Sem.run_bind, Go.receiverAt, r_underlying hu]
          cases d <;> first | rfl | exact absurd rfl (hn' _)
        · simp at h
      · simp at h

theorem enter_sound (hW : WR G σ w) {f : FuncId} {args : List AVal} {cargs : Array Value} (hargs : VRs G args cargs.toList) {gen : Unit → ORes} {res : Result Next}
    (hgen : ∀ n σ', gen () = some (n, σ') → OpSound P G σ' w n res) (hres : hasBody P f = some true → res = .ok (.enter f cargs) w) :
    ∀ n σ', evEnter P σ f args gen = some (n, σ') → OpSound P G σ' w n res := by
  intro n σ' h
  unfold evEnter at h
  split at h
  · rename_i hb
    simp only [Option.some.injEq, Prod.mk.injEq] at h; obtain ⟨rfl, rfl⟩ := h
    exact ⟨cargs, hres hb, hW, hargs⟩
  · exact hgen n σ' h

theorem map_rel {ρ : Operand → AVal} {ρ' : Operand → Value} (hρ : ∀ x, VR G (ρ x) (ρ' x)) (l : List Operand) : VRs G (l.map ρ) (l.map ρ') := by
  induction l with
  | nil => exact .nil G
  | cons x l ih => exact .cons (hρ x) ih

theorem call_sound (fn : FuncId) (hW : WR G σ w) {ρ : Operand → AVal} {ρ' : Operand → Value} (hρ : ∀ x, VR G (ρ x) (ρ' x)) (c : Call) (ty : TypeId) {gen : Unit → ORes}
    (hgen : ∀ n σ', gen () = some (n, σ') → OpSound P G σ' w n ((do let d ← resolve ρ' c ty; invoke d.target d.args : Sem Next).run P w)) :
    ∀ n σ', evCall P E fn σ ρ c gen = some (n, σ') → OpSound P G σ' w n ((do let d ← resolve ρ' c ty; invoke d.target d.args : Sem Next).run P w) := by
  intro n σ' h
  obtain ⟨callee, cargs, ats⟩ := c
  have hargs := map_rel hρ cargs.toList
  unfold evCall at h
  simp only at h
  cases callee with
  | builtin b =>
    simp only at h
    have hred : ∀ (s : Sem Next), (∀ cs, invoke (.builtin b ats ty cs) (cargs.map ρ') = s) →
        (do let d ← resolve ρ' ⟨.builtin b, cargs, ats⟩ ty; invoke d.target d.args : Sem Next).run P w = s.run P w := by
      intro s hs
      simp only [resolve, Sem.run_bind, Sem.run_pure, Result.andThen_ok, hs]
    unfold evBuiltin at h
    split at h
    · rename_i s x he
      have hlist : ∃ s' x', cargs.map ρ' = #[s', x'] ∧ VR G s s' ∧ VR G x x' := by
        rw [he] at hargs
        cases hl : cargs.toList.map ρ' with
        | nil => rw [hl] at hargs; simp [VRs] at hargs
        | cons a l => rw [hl] at hargs; cases l with
          | nil => simp [VRs] at hargs
          | cons b l => cases l with
            | nil => exact ⟨a, b, by apply Array.ext'; simpa using hl, hargs.head, hargs.tail.head⟩
            | cons _ _ => simp [VRs] at hargs
      obtain ⟨s', x', hl, h1, h2⟩ := hlist
      have hr := hred (do let x ← Builtin.append_ ats ty #[s', x']; pure (.value x)) (fun cs => by rw [hl]; rfl)
      rw [hr]
      exact append_sound fn hW ats ty h1 h2 n σ' h
    · rename_i x he
      have hlist : ∃ x', cargs.map ρ' = #[x'] ∧ VR G x x' := by
        rw [he] at hargs
        cases hl : cargs.toList.map ρ' with
        | nil => rw [hl] at hargs; simp [VRs] at hargs
        | cons a l => rw [hl] at hargs; cases l with
          | nil => exact ⟨a, by apply Array.ext'; simpa using hl, hargs.head⟩
          | cons _ _ => simp [VRs] at hargs
      obtain ⟨x', hl, h1⟩ := hlist
      cases hat : ats[0]? with
      | none => rw [hat] at h; simp at h
      | some t =>
        rw [hat] at h
        simp only [Option.bind_some] at h
        split at h
        · rename_i r hlen
          have hr := hred (do let x ← Builtin.len_ ats ty #[x']; pure (.value x)) (fun cs => by rw [hl]; rfl)
          rw [hr]
          exact len_sound hW t ats ty hat h1 r hlen n σ' h
        · exact hgen n σ' h
    · rename_i d x he
      have hlist : ∃ s' x', cargs.map ρ' = #[s', x'] ∧ VR G d s' ∧ VR G x x' := by
        rw [he] at hargs
        cases hl : cargs.toList.map ρ' with
        | nil => rw [hl] at hargs; simp [VRs] at hargs
        | cons a l => rw [hl] at hargs; cases l with
          | nil => simp [VRs] at hargs
          | cons b l => cases l with
            | nil => exact ⟨a, b, by apply Array.ext'; simpa using hl, hargs.head, hargs.tail.head⟩
            | cons _ _ => simp [VRs] at hargs
      obtain ⟨s', x', hl, h1, h2⟩ := hlist
      have hr := hred (do let x ← Builtin.copy_ ats ty #[s', x']; pure (.value x)) (fun cs => by rw [hl]; rfl)
      rw [hr]
      exact copy_sound hW ats ty h1 h2 n σ' h
    · simp only [Option.some.injEq, Prod.mk.injEq] at h; obtain ⟨rfl, rfl⟩ := h
      have hr := hred (pure .recover) (fun cs => rfl)
      rw [hr]
      exact ⟨rfl, hW⟩
    · rename_i x he
      have hlist : ∃ x', cargs.map ρ' = #[x'] ∧ VR G x x' := by
        rw [he] at hargs
        cases hl : cargs.toList.map ρ' with
        | nil => rw [hl] at hargs; simp [VRs] at hargs
        | cons a l => rw [hl] at hargs; cases l with
          | nil => exact ⟨a, by apply Array.ext'; simpa using hl, hargs.head⟩
          | cons _ _ => simp [VRs] at hargs
      obtain ⟨x', hl, h1⟩ := hlist
      split at h
      · rename_i t y
        simp only [Option.some.injEq, Prod.mk.injEq] at h; obtain ⟨rfl, rfl⟩ := h
        cases h1 with
        | iface _ _ v hv =>
          have hr := hred (do let x ← Instr.panic (.iface t v); pure (.value x)) (fun cs => by rw [hl]; rfl)
          rw [hr]
          refine ⟨w, .iface t v, ?_, hW, .iface t y v hv⟩
          simp [Instr.panic]
      · exact hgen n σ' h
    · exact hgen n σ' h
  | value f =>
    simp only at h
    have hf := hρ f
    split at h
    · rename_i g first captured hv
      rw [hv] at hf
      cases hfv : ρ' f <;> rw [hfv] at hf <;> try (cases hf; done)
      rename_i fnv fs gs
      have hfirst : VRs G first fs.toList ∧ VRs G captured gs.toList ∧ fnv = .func g := by
        cases hf with
        | func _ _ _ _ _ h0 h1 h2 h3 h4 => exact ⟨⟨by simpa using h1, fun i a d e1 e2 => h3 i a d e1 (by simpa using e2)⟩, ⟨by simpa using h2, fun i a d e1 e2 => h4 i a d e1 (by simpa using e2)⟩, rfl⟩
      obtain ⟨q1, q2, rfl⟩ := hfirst
      refine enter_sound hW (cargs := fs ++ cargs.map ρ' ++ gs) ?_ hgen (fun hb => ?_) n σ' h
      · have := (q1.append hargs).append q2
        simpa using this
      · simp only [resolve, Sem.run_bind, hfv, Deferred.ofValue, Sem.run_pure, Result.andThen_ok, invoke]
        exact callFunc_run hb
    · rename_i name t x captured hv
      rw [hv] at hf
      cases hfv : ρ' f <;> rw [hfv] at hf <;> try (cases hf; done)
      rename_i fnv fs gs
      have hfirst : VRs G [.iface t x] fs.toList ∧ fnv = .method name := by
        cases hf with
        | func _ _ _ _ _ h0 h1 h2 h3 h4 => exact ⟨⟨by simpa using h1, fun i a d e1 e2 => h3 i a d e1 (by simpa using e2)⟩, rfl⟩
      obtain ⟨q1, rfl⟩ := hfirst
      have hfs : ∃ v, fs = #[.iface t v] ∧ VR G x v := by
        cases hl : fs.toList with
        | nil => rw [hl] at q1; simp [VRs] at q1
        | cons a l => rw [hl] at q1; cases l with
          | nil =>
            have := q1.head
            cases this with
            | iface _ _ v hv => exact ⟨v, by apply Array.ext'; simpa using hl, hv⟩
          | cons _ _ => simp [VRs] at q1
      obtain ⟨v, rfl, hv'⟩ := hfs
      cases hm : evMethod P σ t x name with
      | none => rw [hm] at h; simp at h
      | some gr =>
        obtain ⟨g, r⟩ := gr
        rw [hm] at h
        simp only [Option.bind_some] at h
        obtain ⟨rv, m1, m2⟩ := method_run (P := P) (w := w) hv' hm
        refine enter_sound hW (cargs := #[rv] ++ cargs.map ρ') ?_ hgen (fun hb => ?_) n σ' h
        · have := VRs.cons m2 hargs
          simpa using this
        · simp only [resolve, Sem.run_bind, hfv, Deferred.ofValue, Sem.run_pure, Result.andThen_ok, invoke]
          have h0 : (#[Value.iface t v] ++ cargs.map ρ')[0]? = some (.iface t v) := arr_head _ _
          have h1 : (#[Value.iface t v] ++ cargs.map ρ').extract 1 (#[Value.iface t v] ++ cargs.map ρ').size = cargs.map ρ' := arr_tail _ _
          simp only [h0, h1, callMethod, Sem.run_bind, run_program, Result.andThen_ok, m1]
          exact callFunc_run hb
    · rename_i l hv
      rw [hv] at hf
      simp only [Option.some.injEq, Prod.mk.injEq] at h; obtain ⟨rfl, rfl⟩ := h
      cases hfv : ρ' f <;> rw [hfv] at hf <;> try (cases hf; done)
      rename_i fnv fs gs
      have hb : fnv = .yield (G.own l).1 ∧ fs = #[] ∧ gs = #[] ∧ l < G.nxt := by
        cases hf with
        | yield _ b h1 h2 => subst h2; exact ⟨rfl, rfl, rfl, h1⟩
      obtain ⟨rfl, rfl, rfl, hl⟩ := hb
      refine ⟨cargs.map ρ', ?_, hl, hW, by simpa using hargs⟩
      simp only [resolve, Sem.run_bind, hfv, Deferred.ofValue, Sem.run_pure, Result.andThen_ok, invoke]
      congr 1
      simp
    · rename_i hv
      rw [hv] at hf
      simp only [Option.some.injEq, Prod.mk.injEq] at h; obtain ⟨rfl, rfl⟩ := h
      cases hfv : ρ' f <;> rw [hfv] at hf <;> try (cases hf; done)
      refine ⟨w, _, ?_, hW, .iface _ _ _ (.v _)⟩
      simp only [resolve, Sem.run_bind, hfv, Deferred.ofValue, Sem.run_pure, Result.andThen_ok, invoke]
      exact nilDeref_run
    · simp at h
  | invoke recv name =>
    simp only at h
    have hf := hρ recv
    split at h
    · rename_i t x hv
      rw [hv] at hf
      cases hfv : ρ' recv <;> rw [hfv] at hf <;> try (cases hf; done)
      rename_i t' v
      have ht : t' = t ∧ VR G x v := by cases hf with | iface _ _ _ hv => exact ⟨rfl, hv⟩
      obtain ⟨rfl, hv'⟩ := ht
      cases hm : evMethod P σ t' x name with
      | none => rw [hm] at h; simp at h
      | some gr =>
        obtain ⟨g, r⟩ := gr
        rw [hm] at h
        simp only [Option.bind_some] at h
        obtain ⟨rv, m1, m2⟩ := method_run (P := P) (w := w) hv' hm
        refine enter_sound hW (cargs := #[rv] ++ cargs.map ρ') ?_ hgen (fun hb => ?_) n σ' h
        · have := VRs.cons m2 hargs
          simpa using this
        · simp only [resolve, Sem.run_bind, hfv, Sem.run_pure, Result.andThen_ok, invoke]
          have h0 : (#[Value.iface t' v] ++ cargs.map ρ')[0]? = some (.iface t' v) := arr_head _ _
          have h1 : (#[Value.iface t' v] ++ cargs.map ρ').extract 1 (#[Value.iface t' v] ++ cargs.map ρ').size = cargs.map ρ' := arr_tail _ _
          simp only [h0, h1, callMethod, Sem.run_bind, run_program, Result.andThen_ok, m1]
          exact callFunc_run hb
    · rename_i hv
      rw [hv] at hf
      simp only [Option.some.injEq, Prod.mk.injEq] at h; obtain ⟨rfl, rfl⟩ := h
      cases hfv : ρ' recv <;> rw [hfv] at hf <;> try (cases hf; done)
      refine ⟨w, _, ?_, hW, .iface _ _ _ (.v _)⟩
      simp only [resolve, Sem.run_bind, hfv, Sem.run_pure, Result.andThen_ok, invoke]
      have h0 : (#[Value.nilIface] ++ cargs.map ρ')[0]? = some .nilIface := arr_head _ _
      simp only [h0, callMethod]
      exact nilDeref_run
    · simp at h

theorem defer_sound (hW : WR G σ w) {ρ : Operand → AVal} {ρ' : Operand → Value} (hρ : ∀ x, VR G (ρ x) (ρ' x)) (c : Call) (ty : TypeId) :
    ∀ n σ', evDefer σ ρ c = some (n, σ') → OpSound P G σ' w n ((do pure (Next.defer (← resolve ρ' c ty)) : Sem Next).run P w) := by
  intro n σ' h
  obtain ⟨callee, cargs, ats⟩ := c
  have hargs := map_rel hρ cargs.toList
  unfold evDefer at h
  simp only at h
  cases callee with
  | builtin b => simp at h
  | invoke recv name => simp at h
  | value f =>
    simp only at h
    have hf := hρ f
    split at h
    · rename_i fnv first captured hv
      rw [hv] at hf
      simp only [Option.some.injEq, Prod.mk.injEq] at h; obtain ⟨rfl, rfl⟩ := h
      cases hfv : ρ' f <;> rw [hfv] at hf <;> try (cases hf; done)
      rename_i fnv' fs gs
      cases hf with
      | func _ _ _ _ _ h0 h1 h2 h3 h4 =>
        refine ⟨{ target := .fn fnv gs, args := fs ++ cargs.map ρ' }, ?_, hW, gs, rfl, h0, ⟨by simpa using h2, fun i a d e1 e2 => h4 i a d e1 (by simpa using e2)⟩, ?_⟩
        · simp only [resolve, Sem.run_bind, hfv, Deferred.ofValue, Sem.run_pure, Result.andThen_ok]
        · have q1 : VRs G first fs.toList := ⟨by simpa using h1, fun i a d e1 e2 => h3 i a d e1 (by simpa using e2)⟩
          have := q1.append hargs
          simpa using this
    · simp at h

theorem parts_rel {ρ : Operand → AVal} {ρ' : Operand → Value} (hρ : ∀ x, VR G (ρ x) (ρ' x)) (ps : Array (Nat × Operand)) :
    PartsR G (ps.toList.map fun (i, x) => (i, ρ x)) (ps.map fun (i, x) => (i, ρ' x)).toList := by
  refine ⟨by simp, fun i a d e1 e2 => ?_⟩
  simp only [List.getElem?_map, Array.toList_map] at e1 e2
  cases hp : ps.toList[i]? with
  | none => rw [hp] at e1; simp at e1
  | some q =>
    rw [hp] at e1 e2
    simp only [Option.map_some, Option.some.injEq] at e1 e2
    subst e1; subst e2
    exact ⟨rfl, hρ _⟩

theorem opt_rel {ρ : Operand → AVal} {ρ' : Operand → Value} (hρ : ∀ x, VR G (ρ x) (ρ' x)) (o : Option Operand) : OptR G (o.map ρ) (o.map ρ') := by
  cases o with
  | none => trivial
  | some x => exact hρ x

/-- What the evaluator is told of package-level variables holds. -/
structure GlobR (G : Ghost) (E : Env) : Prop where
  glob : ∀ g cs, E.glob g = some cs → VR G (.iref cs) (.pointer (some ⟨g, 0, none⟩))
  sym : G.sym = E.sym
theorem GlobR.mono {G G' : Ghost} (h : G.Le G') (r : GlobR G E) : GlobR G' E := ⟨fun g cs e => (r.glob g cs e).mono h, h.sym.trans r.sym⟩

theorem operand_sound (hG : GlobR G E) {ts : List AVal} {a : Act} (ht : VRs G ts a.tmps.toList) (x : Operand) : VR G (evOperand E ts x) (a.eval x) := by
  cases x with
  | tmp t =>
    simp only [evOperand, Act.eval]
    rw [List.getD]
    cases h : ts[t]? with
    | none => exact .junk _
    | some y =>
      obtain ⟨d, h1, h2⟩ := ht.exists h
      have : a.tmps.getD t undef = d := by
        rw [Array.getElem?_toList] at h1
        simp [h1]
      rw [this]
      exact h2
  | const v => exact ofValue_sound v
  | global g =>
    simp only [evOperand, Act.eval]
    split
    · rename_i cs h; exact hG.glob g cs h
    · exact .junk _
  | func f => exact .func _ [] [] #[] #[] (fun l e => by cases e) rfl rfl (by simp) (by simp)

/-- All operations. -/
theorem op0_sound (fn : FuncId) (hW : WR G σ w) {ts : List AVal} {ρ' : Operand → Value} (hρ : ∀ x, VR G (evOperand E ts x) (ρ' x)) (o : Oper) :
    ∀ n σ', evOp0 P E fn σ ts o = some (n, σ') → OpSound P G σ' w n ((execOp ρ' o).run P w) := by
  intro n σ' h
  have hgen : ∀ (_ : ∀ cs b, o.op ≠ .select cs b) (u : Unit) n σ', evGen P σ (evOperand E ts) o u = some (n, σ') → OpSound P G σ' w n ((execOp ρ' o).run P w) := fun hs u => gen_sound hW hρ o hs u
  obtain ⟨dst, op, ty, pos, after, guard⟩ := o
  unfold evOp0 at h
  simp only at h
  cases op with
  | move x => simp only [val1, Option.some.injEq, Prod.mk.injEq] at h; obtain ⟨rfl, rfl⟩ := h; exact .same hW (hρ x)
  | assign x => simp only [val1, Option.some.injEq, Prod.mk.injEq] at h; obtain ⟨rfl, rfl⟩ := h; exact .same hW (hρ x)
  | pick c a b =>
    simp only at h
    split at h
    · rename_i t hc
      simp only [val1, Option.some.injEq, Prod.mk.injEq] at h; obtain ⟨rfl, rfl⟩ := h
      have h1 := hρ c
      rw [hc] at h1
      cases hv : ρ' c <;> rw [hv] at h1 <;> (first | (cases h1; done) | skip)
      rename_i t'
      have ht : t' = t := by cases h1; rfl
      subst ht
      cases t' <;> simp [execOp, hv, asBool] <;> exact .same hW (hρ _)
    · simp at h
  | alloc t => exact alloc_sound hW t n σ' h
  | box t x => exact box_sound hW t (hρ x) n σ' h
  | build t ps => exact build_sound hW t (parts_rel hρ ps) n σ' h
  | buildSlice t len ps => exact buildSlice_sound fn hW t len (parts_rel hρ ps) n σ' h
  | load t a => exact load_sound hW t (hρ a) n σ' h
  | store t a x => exact store_sound hW t (hρ a) (hρ x) n σ' h
  | nilCheck x => exact nilCheck_sound hW (hρ x) rfl n σ' h
  | binOp op t x y yt =>
    exact bin_sound hW op t x y (hρ x) (hρ y) (hgen (by simp) ()) n σ' h
  | unOp op t x => exact hgen (by simp) () n σ' h
  | convert s d x => exact convert_sound fn hW s d (hρ x) (hgen (by simp) ()) n σ' h
  | makeInterface t x => exact makeIface_sound hW t (hρ x) n σ' h
  | makeFunc f first captured =>
    simp only at h
    split at h
    · simp at h
    · rename_i hn
      simp only [val1, Option.some.injEq, Prod.mk.injEq] at h; obtain ⟨rfl, rfl⟩ := h
      have q1 := map_rel hρ first.toList
      have q2 := map_rel hρ captured.toList
      refine .same (y := .func f (first.map ρ') (captured.map ρ')) hW (.func _ _ _ _ _ (fun l e => hn l e) (by simp) (by simp) (fun i a d e1 e2 => q1.2 i a d e1 (by simpa using e2)) (fun i a d e1 e2 => q2.2 i a d e1 (by simpa using e2)))
  | makeMap t r => exact makeMap_sound hW t (opt_rel hρ r) n σ' h
  | makeSlice t l c => exact makeSlice_sound hW t (hρ l) (hρ c) n σ' h
  | slice t x lo hi mx => exact slice_sound hW t (hρ x) (opt_rel hρ lo) (opt_rel hρ hi) (opt_rel hρ mx) n σ' h
  | fieldAddr s x f => exact fieldAddr_sound hW s f (hρ x) n σ' h
  | field s x f => exact field_sound hW s f (hρ x) n σ' h
  | indexAddr t x ix => exact indexAddr_sound hW t (hρ x) (hρ ix) n σ' h
  | index t x ix => exact index_sound hW t (hρ x) (hρ ix) n σ' h
  | lookup t x ix ok => exact lookup_sound hW t ok (hρ x) (hρ ix) n σ' h
  | mapUpdate t m k x => exact mapUpdate_sound hW t (hρ m) (hρ k) (hρ x) n σ' h
  | insert t m k x => exact mapUpdate_sound hW t (hρ m) (hρ k) (hρ x) n σ' h
  | range t x => exact range_sound hW t (hρ x) n σ' h
  | next it s => exact next_sound hW s ty (hρ it) n σ' h
  | typeAssert x xt t ok => exact typeAssert_sound hW (hρ x) xt t ok n σ' h
  | extract t j => exact extract_sound hW j (hρ t) n σ' h
  | call c => exact call_sound fn hW hρ c ty (hgen (by simp) ()) n σ' h
  | defer c => exact defer_sound hW hρ c ty n σ' h
  | panic x =>
    simp only at h
    split at h
    · rename_i t y hx
      simp only [Option.some.injEq, Prod.mk.injEq] at h; obtain ⟨rfl, rfl⟩ := h
      have h1 := hρ x
      rw [hx] at h1
      cases hv : ρ' x <;> rw [hv] at h1 <;> (first | (cases h1; done) | skip)
      rename_i t' v
      have ht : t' = t ∧ VR G y v := by cases h1 with | iface _ _ _ q => exact ⟨rfl, q⟩
      obtain ⟨rfl, hv'⟩ := ht
      refine ⟨w, .iface t' v, ?_, hW, .iface t' y v hv'⟩
      simp [execOp, hv, Instr.panic]
    · simp at h
  | _ => simp at h


theorem symv_sound {x : AVal} {y v : Value} (hs : G.sym = E.sym) (h : VR G x y) (e : symv? E.sym x = some v) : y = v := by
  cases h <;> simp [symv?] at e
  · exact e
  · rename_i i h1 h2
    rw [h1, hs]; exact e
/-- What a rule says is so. -/
theorem rule_sound (hW : WR G σ w) (hs : G.sym = E.sym) {ρ : Operand → AVal} {ρ' : Operand → Value} (hρ : ∀ x, VR G (ρ x) (ρ' x)) (o : Oper) {r : AVal} (h : E.rule P o (o.op.operands.toList.map ρ) = some r) :
    OpSound P G σ w (.val r) ((execOp ρ' o).run P w) := by
  obtain ⟨h1, _, h2, v, h3, h4⟩ := E.right P o ρ r h
  have heq : execOp ρ' o = execOp (fun x => (symv? E.sym (ρ x)).getD undef) o := by
    refine execOp_congr o h1 fun x hx => ?_
    have := h2 x (by simpa using hx)
    obtain ⟨y, hy⟩ := Option.isSome_iff_exists.1 this
    rw [hy]
    exact symv_sound hs (hρ x) hy
  rw [heq, h3 w]
  refine OpSound.same hW ?_
  cases r <;> simp [symv?] at h4
  · subst h4; exact .v _
  · rename_i i
    subst h4
    exact .sym i _ (by rw [hs]) (E.ones i)
theorem op_sound (fn : FuncId) (hW : WR G σ w) (hs : G.sym = E.sym) {ts : List AVal} {ρ' : Operand → Value} (hρ : ∀ x, VR G (evOperand E ts x) (ρ' x)) (o : Oper) :
    ∀ n σ', evOp P E fn σ ts o = some (n, σ') → OpSound P G σ' w n ((execOp ρ' o).run P w) := by
  intro n σ' h
  unfold evOp at h
  split at h
  · rename_i r hr
    simp only [Option.some.injEq] at h
    subst h
    exact op0_sound fn hW hρ o n σ' hr
  · cases hr : E.rule P o (o.op.operands.toList.map (evOperand E ts)) with
    | none => rw [hr] at h; simp at h
    | some r =>
      rw [hr] at h
      simp only [Option.bind_some, val1, Option.some.injEq, Prod.mk.injEq] at h
      obtain ⟨rfl, rfl⟩ := h
      exact rule_sound hW hs hρ o hr
end
end Go.Ev
