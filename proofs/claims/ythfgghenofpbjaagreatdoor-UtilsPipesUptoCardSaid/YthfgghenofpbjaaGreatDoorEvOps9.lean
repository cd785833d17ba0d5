/- append and conversions to bytes; no condition. -/
import Derived.Test.YthfgghenofpbjaaGreatDoorEvOps8
namespace Go.Ev

theorem cap_le (need old : Nat) (h : old < need) : Builtin.nextslicecap need old ≤ 2 * need := by
  unfold Builtin.nextslicecap
  split
  · omega
  · split
    · omega
    · have : ∀ r c, c ≤ 2 * need → 256 ≤ need → (Builtin.growBy need r c) ≤ 2 * need := by
        intro r
        induction r with
        | zero => intro c hc _; exact hc
        | succ r ih =>
          intro c hc hn
          simp only [Builtin.growBy]
          split
          · exact hc
          · exact ih _ (by omega) hn
      exact this 4 old (by omega) (by omega)

section
variable {P : Program} {E : Env} {G : Ghost} {σ : ASt} {w : World}

theorem zeroCells_size (zs : Array Value) (n : Nat) : (Builtin.zeroCells zs n).size = n * zs.size := by simp [Builtin.zeroCells]

/-- An append that finds room. -/
theorem append_room {ats : Array TypeId} {ty st xt e : TypeId} {i : TypeInfo} {xd : TypeDesc} (h0 : ats[0]? = some st) (h1 : ats[1]? = some xt) (hu : P.underlying st = some (.slice e))
    (hx : P.underlying xt = some xd) (hxd : isIntType xd = false) (hi : P.info? e = some i) {base : Option Addr} {n m c : Nat} {y : Value} {ds : List Value}
    (hl : (Builtin.lenOf y).run P w = .ok m w) (hf : (Builtin.firstCells i.size m y).run P w = .ok ds.toArray w) (hroom : n + m ≤ c) {w' : World}
    (hst : match base with | some a => (storeCells (a.add (n * i.size)) ds).run P w = .ok () w' | none => w' = w) :
    (Builtin.append_ ats ty #[.slice base n c, y]).run P w = .ok (.slice base (n + m) c) w' := by
  simp only [Builtin.append_, h0, h1]
  simp only [List.getElem?_toArray, List.getElem?_cons_zero, List.getElem?_cons_succ]
  simp only [Sem.run_bind, r_underlying hu, Result.andThen_ok, r_size hi, r_underlying hx, Sem.run_pure]
  rw [if_neg (by cases xd <;> simp_all [isIntType])]
  simp only [Sem.run_bind, hl, Result.andThen_ok, Sem.run_ite]
  rw [if_pos hroom]
  rw [if_pos (by cases xd <;> simp_all [isIntType])]
  simp only [hf, Result.andThen_ok]
  cases base with
  | none => simp only at hst; subst hst; rfl
  | some a => simp only at hst; simp [hst]

/-- An append that makes a new row. -/
theorem append_grow {ats : Array TypeId} {ty st xt e : TypeId} {i : TypeInfo} {z : Value} {xd : TypeDesc} (h0 : ats[0]? = some st) (h1 : ats[1]? = some xt) (hu : P.underlying st = some (.slice e))
    (hx : P.underlying xt = some xd) (hxd : isIntType xd = false) (hi : P.info? e = some i) (hz : i.zero = some z) (hzs : z.cells.size = i.size)
    {base : Option Addr} {n m c : Nat} {y : Value} {old ds : List Value} (hl : (Builtin.lenOf y).run P w = .ok m w) (hroom : ¬ n + m ≤ c) (hmost : n + m ≤ most) (hby : i.bytes * (n + m) * 2 ≤ 2 ^ 48)
    (ho : (Builtin.firstCells i.size n (.slice base n c)).run P { w with drawn := w.drawn + 1 } = .ok old.toArray { w with drawn := w.drawn + 1 })
    (hf : (Builtin.firstCells i.size m y).run P { w with drawn := w.drawn + 1 } = .ok ds.toArray { w with drawn := w.drawn + 1 }) :
    ∃ r rest, rest.length = r * i.size ∧ (Builtin.append_ ats ty #[.slice base n c, y]).run P w =
      .ok (.slice (some ⟨w.heap.size, 0, none⟩) (n + m) (n + m + r)) { w with drawn := w.drawn + 1, heap := w.heap.push (.cells (old ++ (ds ++ rest)).toArray e) } := by
  let newCap := (Question.appendCap (n + m) c e).cut (w.tape w.drawn (.appendCap (n + m) c e))
  have hcap : n + m ≤ newCap := by simp only [newCap, Question.cut]; omega
  refine ⟨newCap - (n + m), (Builtin.zeroCells z.cells (newCap - (n + m))).toList, by simp [zeroCells_size, hzs], ?_⟩
  have hn1 : ¬ (((n + m : Nat) : Int) > IntKind.i64.max ∧ (False ∨ i.bytes = 0)) := by
    rintro ⟨h, _⟩
    simp only [IntKind.max, IntKind.signed, IntKind.bits, if_true] at h
    unfold most at hmost
    omega
  have hn2 : ¬ (Builtin.nextslicecap (n + m) c * i.bytes > 2 ^ 48) := by
    have := Nat.mul_le_mul_right i.bytes (cap_le (n + m) c (by omega))
    have e1 : 2 * (n + m) * i.bytes = i.bytes * (n + m) * 2 := by
      rw [Nat.mul_comm (2 * (n + m)), ← Nat.mul_assoc, Nat.mul_comm i.bytes 2, Nat.mul_assoc, Nat.mul_comm 2]
    omega
  simp only [Builtin.append_, h0, h1]
  simp only [List.getElem?_toArray, List.getElem?_cons_zero, List.getElem?_cons_succ]
  simp only [Sem.run_bind, r_underlying hu, Result.andThen_ok, r_size hi, r_underlying hx, Sem.run_pure]
  rw [if_neg (by cases xd <;> simp_all [isIntType])]
  simp only [Sem.run_bind, hl, Result.andThen_ok, Sem.run_ite]
  rw [if_neg hroom]
  simp only [r_info hi, Result.andThen_ok]
  have hn3 : ¬ (((n + m : Nat) : Int) > IntKind.i64.max) := by
    intro h
    simp only [IntKind.max, IntKind.signed, IntKind.bits, if_true] at h
    unfold most at hmost
    omega
  rw [if_neg (fun h => hn3 h.1), if_neg hn2]
  simp only [run_choose]
  rw [if_neg (by simp [Question.forced])]
  simp only [Result.andThen_ok, run_askRoom]
  rw [ho]
  simp only [Result.andThen_ok]
  rw [if_pos (by cases xd <;> simp_all [isIntType]), hf]
  simp only [Result.andThen_ok, r_zero hi hz, newRow, Sem.run_bind, run_newObj, Sem.run_pure]
  have e1 : n + m + (newCap - (n + m)) = newCap := by omega
  rw [e1]
  congr 4
  simp only [newCap]
  apply Array.ext'
  simp


/-- The row that an append makes, its old cells and the new ones never written again. -/
theorem grown_list (hW : WR G σ w) {e : TypeId} {k n m r : Nat} {cs new : List AVal} {old ds rest : List Value} (_hk : 0 < k) (h1 : VRs G cs old) (h2 : VRs G new ds) (o1 : ∀ d ∈ old, one d = true) (o2 : ∀ d ∈ ds, one d = true)
    (hl1 : cs.length = n * k) (hl2 : new.length = m * k) (hr : rest.length = r * k) {s : Sem Value}
    (hs : s.run P w = .ok (.slice (some ⟨w.heap.size, 0, none⟩) (n + m) (n + m + r)) { w with drawn := w.drawn + 1, heap := w.heap.push (.cells (old ++ (ds ++ rest)).toArray e) }) :
    ValSound G P w (some (.val (.list k (n + m) (cs ++ new) (.live σ.next)), σ.push (.cells e []))) s := by
  have hv := h1.append h2
  obtain ⟨G', le, h3, ho, hn, hb, hl⟩ := (hW.drawn (w.drawn + 1)).make (old ++ ds) [] rest (cs := []) e e (by
    intro d hd; rcases List.mem_append.1 hd with h | h
    · exact o1 d h
    · exact o2 d h) (.nil G) (by simp)
  simp only [List.nil_append, List.append_assoc] at h3 hb
  have hlen : (old ++ ds).length = (n + m) * k := by rw [← hv.1, List.length_append, hl1, hl2, Nat.add_mul]
  refine .val hs le h3 (.list _ _ _ _ _ _ (fun j => (old ++ ds).getD j undef) rfl (by rw [hv.1, hlen]) (by omega) (fun j hj => ?_) (fun j x hx => ?_) ⟨hn, fun _ => ⟨?_, e, _, hb, ?_⟩⟩)
  · have hj' : j < (old ++ ds).length := by rw [← hv.1]; exact hj
    rw [List.getD, List.getElem?_eq_getElem hj', Nat.zero_add]
    exact hl j _ (List.getElem?_eq_getElem hj')
  · obtain ⟨d, q1, q2⟩ := hv.exists hx
    rw [List.getD, q1]
    exact q2.mono le
  · rw [ho, hlen]; simp
  · simp only [List.length_append] at hlen ⊢
    rw [Nat.add_mul]
    omega

/-- The row that an append makes, an object. -/
theorem grown_arr (_hW : WR G σ w) {σ₀ : ASt} (hσ : WR G σ₀ w) (hnx : σ₀.next = σ.next) {e : TypeId} {k n m r : Nat} {cs new : List AVal} {old ds rest : List Value} (h1 : VRs G cs old) (h2 : VRs G new ds) (o1 : ∀ d ∈ old, one d = true) (o2 : ∀ d ∈ ds, one d = true)
    (hl1 : cs.length = n * k) (hl2 : new.length = m * k) (hr : rest.length = r * k) {s : Sem Value}
    (hs : s.run P w = .ok (.slice (some ⟨w.heap.size, 0, none⟩) (n + m) (n + m + r)) { w with drawn := w.drawn + 1, heap := w.heap.push (.cells (old ++ (ds ++ rest)).toArray e) }) :
    ValSound G P w (some (.val (.arr k σ.next 0 (n + m) none), σ₀.push (.cells e (cs ++ new)))) s := by
  have hv := h1.append h2
  obtain ⟨G', le, h3, ho, hn, hb, hl⟩ := (hσ.drawn (w.drawn + 1)).make [] (old ++ ds) rest e e (by simp) hv (by
    intro d hd; rcases List.mem_append.1 hd with h | h
    · exact o1 d h
    · exact o2 d h)
  simp only [List.nil_append, List.append_assoc, List.length_nil] at h3 hb ho
  rw [hnx] at ho hn
  have hlen : (old ++ ds).length = (n + m) * k := by rw [← hv.1, List.length_append, hl1, hl2, Nat.add_mul]
  have hN : (old ++ (ds ++ rest)).length = (n + m + r) * k := by
    simp only [List.length_append] at hlen ⊢
    rw [Nat.add_mul]; omega
  exact .val hs le h3 (.arr _ _ _ _ _ _ _ hn (by omega) (by simp) (fun _ => by rw [ho]) ⟨e, _, by rw [ho]; exact hb, by rw [ho, hN]; simp, fun _ => by rw [ho, hN]; simp⟩)

end
end Go.Ev
