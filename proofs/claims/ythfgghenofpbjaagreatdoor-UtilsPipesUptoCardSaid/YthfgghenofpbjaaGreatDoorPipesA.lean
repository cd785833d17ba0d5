/- Head and Tail of 999999 lines, by the library's contracts: of a text up to 65536 octets the text itself, of a greater one a greater one; condition: a text below 4294967281 octets. -/
import Derived.Test.YthfgghenofpbjaaGreatDoorShelf
import Derived.WalkKit
import Derived.ProofKit
import Derived.Lib.SplitLaws
import Derived.Lib.Join
import Derived.WideShapes
open Go Go.RowKit Go.Lib
namespace Go.Proofs.YthfgghenofpbjaaGreatDoor.Pipes
theorem splitK_cat : ∀ (k : Nat) (l : List UInt8), (splitK [10] 1 k l).flatten = l
  | 0, l => by simp [splitK]
  | k + 1, l => by
    rw [splitK]
    split
    · simp
    · rw [List.flatten_cons, splitK_cat k]
      exact List.take_append_drop _ l
theorem splitK_ne (k : Nat) (l : List UInt8) : splitK [10] 1 k l ≠ [] := by
  cases k with
  | zero => simp [splitK]
  | succ k => rw [splitK]; split <;> simp
theorem splitK_full : ∀ (k : Nat) (l : List UInt8), ∀ x ∈ (splitK [10] 1 k l).dropLast, x ≠ []
  | 0, l => by simp [splitK]
  | k + 1, l => by
    rw [splitK]
    split
    · simp
    · rename_i h
      rw [List.dropLast_cons_of_ne_nil (splitK_ne k _)]
      intro x hx
      rcases List.mem_cons.1 hx with rfl | hx
      · intro h0
        cases l with
        | nil => exact h (by decide)
        | cons b l => simp at h0
      · exact splitK_full k _ x hx
theorem join_flat (xs : List (List UInt8)) : join xs [] = xs.flatten := by
  cases xs with
  | nil => rfl
  | cons x r => rw [join_cons]; simp [joinTail]
theorem flat_le : ∀ (xs : List (List UInt8)), (∀ x ∈ xs, x ≠ []) → xs.length ≤ xs.flatten.length
  | [], _ => Nat.le_refl _
  | x :: r, h => by
    have h1 : 1 ≤ x.length := by
      have := h x (by simp)
      cases x with
      | nil => exact absurd rfl this
      | cons _ _ => simp
    have := flat_le r fun y hy => h y (by simp [hy])
    simp only [List.flatten_cons, List.length_append, List.length_cons]; omega
theorem mid_le (xs : List (List UInt8)) (f a : Nat) : (((xs.drop f).take a).flatten).length ≤ xs.flatten.length := by
  have e : xs = xs.take f ++ ((xs.drop f).take a ++ (xs.drop f).drop a) := by rw [List.take_append_drop, List.take_append_drop]
  have h := congrArg (fun l => (List.flatten l).length) e
  simp only [List.flatten_append, List.length_append] at h
  omega
def nl : ByteArray := ⟨#[10]⟩
/-- A text's lines, each with its newline; behind the last newline what is left. -/
def pieces (s : ByteArray) : List ByteArray := splitB nl 1 (countB s nl) s
theorem nl_size : nl.size = 1 := rfl
theorem pieces_len (s : ByteArray) : (pieces s).length = countB s nl + 1 := splitB_all nl (by decide) 1 _ s rfl

set_option maxHeartbeats 2000000 in
theorem splitAfter (s : ByteArray) (m : Int) (w : World) (hs : s.size < 4294967281) (hm : w.cell? ⟨2, 0, none⟩ = some (.int .i64 m)) :
    Calls Tryz.prog 168 #[.string s, .string nl] w fun e w' =>
      e = .returned (.slice (some ⟨w.heap.size, 0, none⟩) (countB s nl + 1) (countB s nl + 1)) ∧ w' = w.alloc (.cells ((pieces s).map Value.string).toArray 9) := by
  have hle := countB_le nl (by decide) s.size s (Nat.le_refl _)
  have hlen := splitB_all nl (by decide) 1 _ s rfl
  have c := Tryz.strings_genSplit s nl 1 (-1) (countB s nl + 1) m w hs hm (by decide) (by decide) (by decide) (by decide) (by rw [if_pos (by decide)]; omega)
  rw [Nat.add_sub_cancel, hlen] at c
  have e2 : cellsOf (splitB nl 1 (countB s nl) s) (countB s nl + 1) = ((splitB nl 1 (countB s nl) s).map Value.string).toArray := by rw [← hlen]; exact cellsOf_full _
  rw [e2] at c
  go_enter Tryz.func168, Tryz.ntmps168
  go_wp2_with (go_at_call 227; refine c.mono ?_; rintro e w' ⟨rfl, hw⟩; rw [hw])
  go_ret
  exact ⟨rfl, rfl⟩

/-- How many lines there are. -/
def many (s last : ByteArray) : Nat := if last.toList.isEmpty then countB s nl else countB s nl + 1
set_option maxHeartbeats 2000000 in
theorem lines_walk (s : ByteArray) (m : Int) (w : World) (hs : s.size < 4294967281) (hm : w.cell? ⟨2, 0, none⟩ = some (.int .i64 m)) (last : ByteArray) (hlast : (pieces s)[countB s nl]? = some last) :
    Calls Tryz.prog 100 #[.string s] w fun e w' =>
      e = .returned (.slice (some ⟨w.heap.size, 0, none⟩) (many s last) (countB s nl + 1)) ∧ w' = w.alloc (.cells ((pieces s).map Value.string).toArray 9) := by
  have hle := countB_le nl (by decide) s.size s (Nat.le_refl _)
  have c := splitAfter s m w hs hm
  have hcell : (w.alloc (.cells ((pieces s).map Value.string).toArray 9)).cell? ⟨w.heap.size, countB s nl, none⟩ = some (.string last) := by
    simp only [World.cell?, World.alloc, Array.getElem?_push_size]
    rw [List.getElem?_toArray, List.getElem?_map, hlast]; rfl
  go_enter Tryz.func100, Tryz.ntmps100
  go_wp2_with (go_at_call 168; refine c.mono ?_; rintro e w' ⟨rfl, hw⟩; subst hw)
  all_goals rename_i hq
  · go_ret; exact ⟨by rw [many, if_pos hq]; rfl, rfl⟩
  · go_ret; exact ⟨by rw [many, if_neg (by rw [hq]; decide)]; rfl, rfl⟩

theorem piece_cells (s : ByteArray) (w : World) (from_ a : Nat) (j : Nat) (x : ByteArray) (h : (((pieces s).drop from_).take a)[j]? = some x) :
    (w.alloc (.cells ((pieces s).map Value.string).toArray 9)).cell? ⟨w.heap.size, from_ + j, none⟩ = some (.string x) := by
  rw [List.getElem?_take] at h
  split at h
  · rw [List.getElem?_drop] at h
    simp only [World.cell?, World.alloc, Array.getElem?_push_size]
    rw [List.getElem?_toArray, List.getElem?_map, h]; rfl
  · simp at h
/-- The most that is asked for. -/
def atMost (k : Nat) : Nat := min 999999 k
/-- Some of a text's lines, put together. -/
def part (s : ByteArray) (from_ a : Nat) : ByteArray := ⟨(join ((((pieces s).drop from_).take a).map (·.data.toList)) []).toArray⟩
theorem part_call (s : ByteArray) (w : World) (from_ a c : Nat) (hfrom : from_ + a ≤ countB s nl + 1) (hc : a ≤ c) (hs : s.size < 4294967281) (hj : (part s from_ a).size ≤ 140737488355328) :
    Calls Tryz.prog 101 #[.slice (some ⟨w.heap.size, from_, none⟩) a c, .string ⟨#[]⟩] (w.alloc (.cells ((pieces s).map Value.string).toArray 9)) fun e w' =>
      e = .returned (.string (part s from_ a)) ∧ Below w.heap.size w w' := by
  have hle := countB_le nl (by decide) s.size s (Nat.le_refl _)
  have hxl : (((pieces s).drop from_).take a).length = a := by rw [List.length_take, List.length_drop, pieces_len]; omega
  have hj' : (join ((((pieces s).drop from_).take a).map (·.data.toList)) []).length ≤ 140737488355328 := hj
  have j := Tryz.strings_Join w.heap.size from_ c (((pieces s).drop from_).take a) ⟨#[]⟩ (w.alloc (.cells ((pieces s).map Value.string).toArray 9))
    (fun i x hx => piece_cells s w from_ a i x hx) (by simp only [World.alloc, Array.size_push]; omega) (by omega) (by omega) hj'
  rw [hxl] at j
  exact j.mono fun e w' ⟨he, hB⟩ => ⟨he, ((Below.refl w.heap.size w).alloc (Nat.le_refl _) _).trans (hB.mono (by simp only [World.alloc, Array.size_push]; omega))⟩
set_option maxHeartbeats 4000000 in
theorem head_walk (s : ByteArray) (m : Int) (w : World) (hs : s.size < 4294967281) (hm : w.cell? ⟨2, 0, none⟩ = some (.int .i64 m)) (last : ByteArray) (hlast : (pieces s)[countB s nl]? = some last)
    (hj : (part s 0 (atMost (many s last))).size ≤ 140737488355328) :
    Calls Tryz.prog 48 #[.string s, .int .i64 999999] w fun e w' => e = .returned (.string (part s 0 (atMost (many s last)))) ∧ Below w.heap.size w w' := by
  have hle := countB_le nl (by decide) s.size s (Nat.le_refl _)
  have c := lines_walk s m w hs hm last hlast
  have hmany : many s last ≤ countB s nl + 1 := by unfold many; split <;> omega
  generalize hk : many s last = k at *
  have jj : ∀ n, n = atMost k → Calls Tryz.prog 101 #[.slice (some ⟨w.heap.size, 0, none⟩) n (countB s nl + 1), .string ⟨#[]⟩] (w.alloc (.cells ((pieces s).map Value.string).toArray 9)) fun e w' =>
      e = .returned (.string (part s 0 (atMost k))) ∧ Below w.heap.size w w' := fun n hn => by
    subst hn
    exact part_call s w 0 (atMost k) (countB s nl + 1) (by unfold atMost; omega) (by unfold atMost; omega) hs hj
  go_enter Tryz.func48, Tryz.ntmps48
  go_wp2_with (first
    | (go_at_call 100; refine c.mono ?_; rintro e w' ⟨rfl, hw⟩; subst hw)
    | (go_at_call 101; refine (jj _ (by unfold atMost; omega)).mono ?_; rintro e w' ⟨rfl, hB⟩))
  go_ret
  exact ⟨rfl, hB⟩
set_option maxHeartbeats 4000000 in
theorem tail_walk (s : ByteArray) (m : Int) (w : World) (hs : s.size < 4294967281) (hm : w.cell? ⟨2, 0, none⟩ = some (.int .i64 m)) (last : ByteArray) (hlast : (pieces s)[countB s nl]? = some last)
    (hj : (part s (many s last - atMost (many s last)) (atMost (many s last))).size ≤ 140737488355328) :
    Calls Tryz.prog 49 #[.string s, .int .i64 999999] w fun e w' => e = .returned (.string (part s (many s last - atMost (many s last)) (atMost (many s last)))) ∧ Below w.heap.size w w' := by
  have hle := countB_le nl (by decide) s.size s (Nat.le_refl _)
  have c := lines_walk s m w hs hm last hlast
  have hmany : many s last ≤ countB s nl + 1 := by unfold many; split <;> omega
  generalize hk : many s last = k at *
  have jj : ∀ f n c, f = k - atMost k → n = atMost k → n ≤ c → Calls Tryz.prog 101 #[.slice (some ⟨w.heap.size, f, none⟩) n c, .string ⟨#[]⟩] (w.alloc (.cells ((pieces s).map Value.string).toArray 9)) fun e w' =>
      e = .returned (.string (part s (k - atMost k) (atMost k))) ∧ Below w.heap.size w w' := fun f n c hf hn hc => by
    subst hn; subst hf
    exact part_call s w (k - atMost k) (atMost k) c (by unfold atMost; omega) hc hs hj
  go_enter Tryz.func49, Tryz.ntmps49
  go_wp2_with (first
    | (go_at_call 100; refine c.mono ?_; rintro e w' ⟨rfl, hw⟩; subst hw)
    | (go_at_call 101; go_loud (refine (jj _ _ _ (by unfold atMost; omega) (by unfold atMost; omega) (by omega)).mono ?_; rintro e w' ⟨rfl, hB⟩)))
  go_ret
  exact ⟨rfl, hB⟩

/- What Head and Tail of so many lines say. -/
theorem pieces_data (s : ByteArray) : (pieces s).map (·.data.toList) = splitK [10] 1 (countB s nl) s.data.toList := splitB_data nl 1 _ s
theorem part_data (s : ByteArray) (f a : Nat) : (part s f a).data.toList = (((splitK [10] 1 (countB s nl) s.data.toList).drop f).take a).flatten := by
  rw [← pieces_data, ← List.map_drop, ← List.map_take, ← join_flat]
  simp [part]
theorem part_le (s : ByteArray) (f a : Nat) : (part s f a).size ≤ s.size := by
  have h1 : ∀ b : ByteArray, b.size = b.data.toList.length := fun ⟨⟨_⟩⟩ => rfl
  rw [h1, h1, part_data]
  have := mid_le (splitK [10] 1 (countB s nl) s.data.toList) f a
  rwa [splitK_cat] at this
theorem lines_full (s last : ByteArray) (hlast : (pieces s)[countB s nl]? = some last) :
    ((splitK [10] 1 (countB s nl) s.data.toList).take (many s last)).flatten = s.data.toList ∧ (∀ x ∈ (splitK [10] 1 (countB s nl) s.data.toList).take (many s last), x ≠ []) ∧
      many s last ≤ (splitK [10] 1 (countB s nl) s.data.toList).length := by
  have hlen : (splitK [10] 1 (countB s nl) s.data.toList).length = countB s nl + 1 := by rw [← pieces_data, List.length_map, pieces_len]
  have hl : (splitK [10] 1 (countB s nl) s.data.toList)[countB s nl]? = some last.data.toList := by rw [← pieces_data, List.getElem?_map, hlast]; rfl
  have hfull := splitK_full (countB s nl) s.data.toList
  have hcat := splitK_cat (countB s nl) s.data.toList
  generalize splitK [10] 1 (countB s nl) s.data.toList = L at *
  have hsplit : L = L.dropLast ++ [last.data.toList] := by
    have hne : L ≠ [] := by intro h; rw [h] at hlen; simp at hlen
    have : L.getLast hne = last.data.toList := by
      rw [List.getLast_eq_getElem]
      have := (List.getElem?_eq_some_iff.1 hl).2
      simpa [hlen] using this
    rw [← this]
    exact (List.dropLast_concat_getLast hne).symm
  have hdl : L.dropLast.length = countB s nl := by rw [List.length_dropLast, hlen]; omega
  have hdt : L.take (countB s nl) = L.dropLast := by rw [List.dropLast_eq_take, hlen]; rfl
  unfold many
  split
  · rename_i he
    have he' : last.data.toList = [] := by
      have : last.toList = last.data.toList := ByteArray.toList_eq last
      rw [this] at he
      simpa using he
    rw [hdt]
    refine ⟨?_, hfull, by omega⟩
    rw [← hcat]
    conv => rhs; rw [hsplit, he']
    simp
  · rename_i he
    have hn : last.data.toList ≠ [] := by
      intro h0
      have : last.toList = last.data.toList := ByteArray.toList_eq last
      rw [this, h0] at he
      exact he rfl
    rw [show countB s nl + 1 = L.length from hlen.symm, List.take_length]
    refine ⟨hcat, fun x hx => ?_, Nat.le_refl _⟩
    rw [hsplit] at hx
    rcases List.mem_append.1 hx with hx | hx
    · exact hfull x hx
    · simp at hx; subst hx; exact hn
theorem small_part (s last : ByteArray) (hlast : (pieces s)[countB s nl]? = some last) (h : s.size ≤ 65536) : atMost (many s last) = many s last ∧ part s 0 (many s last) = s := by
  have h1 : ∀ b : ByteArray, b.size = b.data.toList.length := fun ⟨⟨_⟩⟩ => rfl
  obtain ⟨a1, a2, a3⟩ := lines_full s last hlast
  have h2 := flat_le _ a2
  rw [a1, List.length_take, ← h1] at h2
  refine ⟨by unfold atMost; omega, WideShapes.bytes_inj ?_⟩
  rw [part_data, List.drop_zero, a1]
theorem great_part (s last : ByteArray) (hlast : (pieces s)[countB s nl]? = some last) (h : 65536 < s.size) (f : Nat) (hf : f = 0 ∨ f = many s last - atMost (many s last)) :
    65536 < (part s f (atMost (many s last))).size := by
  have h1 : ∀ b : ByteArray, b.size = b.data.toList.length := fun ⟨⟨_⟩⟩ => rfl
  obtain ⟨a1, a2, a3⟩ := lines_full s last hlast
  rw [h1, part_data]
  rw [h1, ← a1] at h
  generalize hL : splitK [10] 1 (countB s nl) s.data.toList = L at *
  generalize hk : many s last = k at *
  by_cases hm : k ≤ 999999
  · have e : atMost k = k := by unfold atMost; omega
    have ef : f = 0 := by rcases hf with rfl | rfl <;> omega
    rw [e, ef, List.drop_zero]; exact h
  · have e : atMost k = 999999 := by unfold atMost; omega
    rw [e] at hf ⊢
    have e2 : (L.drop f).take 999999 = ((L.take k).drop f).take 999999 := by
      rw [List.drop_take, List.take_take]
      congr 1
      omega
    rw [e2]
    have h3 := flat_le (((L.take k).drop f).take 999999) (fun x hx => a2 x (List.mem_of_mem_drop (List.mem_of_mem_take hx)))
    rw [List.length_take, List.length_drop, List.length_take] at h3
    omega
end Go.Proofs.YthfgghenofpbjaaGreatDoor.Pipes
