/- Conversions of texts and bytes; maps; ranges over texts; no condition. -/
import Derived.Test.YthfgghenofpbjaaGreatDoorEvOps10
import Derived.Laws.BytesString
namespace Go.Ev

theorem modify_push {α : Type} (a : Array α) (x : α) (f : α → α) : (a.push x).modify a.size f = a.push (f x) := by
  apply Array.ext_getElem?
  intro i
  rw [Array.getElem?_modify, Array.getElem?_push, Array.getElem?_push]
  by_cases h : i = a.size
  · subst h; simp
  · rw [if_neg (fun e => h e.symm), if_neg h, if_neg h]

section
variable {P : Program} {E : Env} {G : Ghost} {σ : ASt} {w : World}

theorem bytes_inv : ∀ (cs : List AVal) (l : List UInt8) (ds : List Value), bytesOf cs = some l → VRs G cs ds → ∃ ns : List Int, ds = ns.map (Value.int .u8) ∧ l = ns.map fun n => UInt8.ofNat n.toNat := by
  intro cs
  induction cs with
  | nil => intro l ds h hv; simp only [bytesOf, Option.some.injEq] at h; subst h; exact ⟨[], by have := hv.1; simpa using this.symm, rfl⟩
  | cons c cs ih =>
    intro l ds h hv
    cases ds with
    | nil => have := hv.1; simp at this
    | cons d ds =>
      unfold bytesOf at h
      split at h
      · rename_i heq; cases heq
      · rename_i n r heq
        cases heq
        cases hr : bytesOf cs with
        | none => rw [hr] at h; simp at h
        | some r =>
          rw [hr] at h
          simp only [Option.map_some, Option.some.injEq] at h; subst h
          obtain ⟨ns, rfl, rfl⟩ := ih r ds hr hv.tail
          have := hv.head
          cases this
          exact ⟨n :: ns, rfl, rfl⟩
      · simp at h

theorem foldl_bytes : ∀ (ns : List Int) (s : ByteArray), ns.foldl (fun r n => r.push (UInt8.ofNat n.toNat)) s = ⟨⟨s.data.toList ++ ns.map fun n => UInt8.ofNat n.toNat⟩⟩ := by
  intro ns
  induction ns with
  | nil => intro s; simp
  | cons n ns ih =>
    intro s
    rw [List.foldl_cons, ih]
    simp [ByteArray.push]

theorem convert_sound (fn : FuncId) (hW : WR G σ w) (src dst : TypeId) {x : AVal} {y : Value} (hx : VR G x y) {gen : Unit → ORes}
    (hgen : ValSound G P w (gen ()) (Go.convert src dst y)) : ValSound G P w (evConvert P E fn σ src dst x gen) (Go.convert src dst y) := by
  unfold evConvert
  split
  · rename_i sd e s hsrc hdst
    cases hx
    split
    · rename_i i hu8 hi
      split
      · rename_i hc
        obtain ⟨hsz, hmost⟩ := hc
        let n := s.data.toList.length
        let cap := (Question.appendCap s.size 0 e).cut (w.tape w.drawn (.appendCap s.size 0 e))
        have hcap : n ≤ cap := by simp only [cap, Question.cut, n, size_len]; omega
        let vs : List Value := s.data.toList.map fun b => .int .u8 b.toNat
        let rest : List Value := List.replicate (cap - n) (.int .u8 0)
        have hvs : vs.length = n := by simp [vs, n]
        have hN : (vs ++ rest).length = cap := by rw [List.length_append, hvs]; simp only [rest, List.length_replicate]; omega
        have hrun : (Go.convert src dst (.string s)).run P w = .ok (.slice (some ⟨w.heap.size, 0, none⟩) n cap) { w with drawn := w.drawn + 1, heap := w.heap.push (.cells (vs ++ rest).toArray e (cap, cap + 1)) } := by
          have h1 : (Go.convert src dst (.string s)).run P w = (Conv.stringToBytes e s).run P w := by
            simp only [Go.convert, Sem.run_bind, r_underlying hsrc, r_underlying hdst, Result.andThen_ok]
            cases sd <;> simp [r_underlying hu8]
          rw [h1]
          simp only [Conv.stringToBytes, Sem.run_bind, run_choose]
          rw [if_neg (by simp [Question.forced])]
          simp only [Result.andThen_ok]
          have harr : (Array.map (fun b : UInt8 => Value.int .u8 b.toNat) s.data ++ Array.replicate (cap - s.size) (.int .u8 0)) = (vs ++ rest).toArray := by
            apply Array.ext'
            simp only [Array.toList_append, Array.toList_map, Array.toList_replicate]
            rfl
          have hcc : (Question.appendCap s.size 0 e).cut (w.tape w.drawn (.appendCap s.size 0 e)) = cap := rfl
          rw [hcc]
          simp only [newRow, Sem.run_bind, run_newObj, Result.andThen_ok, Sem.run_pure, markStringish, run_shape]
          rw [harr]
          have hsh : World.shape? { w with drawn := w.drawn + 1, heap := w.heap.push (.cells (vs ++ rest).toArray e) } w.heap.size = some (e, cap) := by
            simp only [World.shape?, Array.getElem?_push_size]
            simp only [List.size_toArray, hN]
          have hsh' : World.shape? { heap := w.heap.push (.cells (vs ++ rest).toArray e), tape := w.tape, drawn := w.drawn + 1, os := w.os, output := w.output } w.heap.size = some (e, cap) := hsh
          rw [hsh']
          simp only [run_freeze, Result.andThen_ok]
          simp only [World.freeze, modify_push]
          rfl
        split
        · obtain ⟨G', le, h1, ho, hn, hb, _⟩ := (hW.drawn (w.drawn + 1)).make [] vs rest (cs := s.data.toList.map fun b => .v (.int .u8 b.toNat)) e e (by simp)
            (by have := VRs.vs (G := G) vs; simpa [vs, List.map_map, Function.comp_def] using this) (by intro d hd; simp only [vs, List.mem_map] at hd; obtain ⟨b, _, rfl⟩ := hd; rfl)
            (cap, cap + 1) (by simp only [List.nil_append, hN]; intro o h; omega)
          simp only [List.nil_append, List.length_nil] at h1 hb ho
          rw [hN] at hb
          exact .val hrun le h1 (.arr _ _ _ _ _ _ _ hn hcap (by simp) (fun _ => by rw [ho]) ⟨e, cap, by rw [ho]; exact hb, by rw [ho]; simp, fun _ => by rw [ho]; simp⟩)
        · obtain ⟨G', le, h1, ho, hn, hb, hl⟩ := (hW.drawn (w.drawn + 1)).make vs [] rest (cs := []) e e (by intro d hd; simp only [vs, List.mem_map] at hd; obtain ⟨b, _, rfl⟩ := hd; rfl) (.nil G) (by simp)
            (cap, cap + 1) (by simp only [List.nil_append, hN]; intro o h; omega)
          simp only [List.nil_append] at h1 hb
          rw [hN] at hb
          refine .val hrun le h1 (.list _ _ _ _ _ _ (fun j => vs.getD j undef) rfl (by simp) hcap (fun j hj => ?_) (fun j x hx => ?_) ⟨hn, fun _ => ⟨by rw [ho, hvs]; simp [n], e, cap, hb, by simp⟩⟩)
          · have hj' : j < vs.length := by simpa [vs] using hj
            rw [List.getD, List.getElem?_eq_getElem hj', Nat.zero_add]
            exact hl j _ (List.getElem?_eq_getElem hj')
          · have hj' : j < vs.length := by have := (List.getElem?_eq_some_iff.1 hx).1; simpa [vs] using this
            rw [List.getD, List.getElem?_eq_getElem hj']
            simp only [List.getElem?_map] at hx
            have hj2 : j < s.data.toList.length := by simpa [vs] using hj'
            rw [List.getElem?_eq_getElem hj2] at hx
            simp only [Option.map_some, Option.some.injEq] at hx
            subst hx
            simp only [vs, List.getElem_map, Option.getD_some]
            exact .v _
      · exact .none
    · exact .none
  · rename_i hsrc hdst
    split
    · rename_i hu8
      cases hx
      refine .val1 hW (y := .string .empty) ?_ (.v _)
      rw [run_convert_bytes_string w src dst _ _ _ _ hsrc hu8 hdst]
      simp [Conv.bytesToString]
    all_goals first
      | (rename_i hu8
         split
         · rename_i m cs hs
           refine .bind fun l hl => ?_
           obtain ⟨_, hcl, hf⟩ := src_sound (P := P) hW hx hs
           obtain ⟨ds, q1, q2, q3⟩ := hf m (Nat.le_refl m)
           rw [take_all hcl] at q1
           obtain ⟨ns, rfl, rfl⟩ := bytes_inv _ _ _ hl q1
           refine .val1 hW (y := .string ⟨⟨ns.map fun n => UInt8.ofNat n.toNat⟩⟩) ?_ (.v _)
           have hy : ∃ a cap, y = .slice (some a) m cap := by
             first
               | (obtain ⟨b, o, cap, rfl, _⟩ := list_inv hx
                  simp only [srcCells] at hs
                  split at hs
                  · simp only [Option.some.injEq, Prod.mk.injEq] at hs; obtain ⟨rfl, _⟩ := hs; exact ⟨_, _, rfl⟩
                  · simp at hs)
               | (obtain ⟨a, c, rfl, _⟩ := arr_inv hx
                  simp only [srcCells] at hs
                  split at hs
                  · split at hs
                    · split at hs
                      · simp only [Option.some.injEq, Prod.mk.injEq] at hs; obtain ⟨rfl, _⟩ := hs; exact ⟨_, _, rfl⟩
                      · simp at hs
                    · simp at hs
                  · simp at hs)
           obtain ⟨a, cap, rfl⟩ := hy
           rw [run_convert_bytes_string w src dst _ _ _ _ hsrc hu8 hdst]
           have q4 : (loadCells a m).run P w = .ok (ns.map (Value.int .u8)).toArray w := by simpa [Builtin.firstCells] using q3
           rw [run_bytesToString w a m cap ns q4, foldl_bytes]
           rfl
         · exact .none)
      | exact .none
  · exact hgen

end
end Go.Ev
