/- Temporaries as a table of 16 rows of 16, for the kernel; no condition. -/
import Derived.Test.YthfgghenofpbjaaGreatDoorEvFast5
namespace Go.Ev

inductive D16 where
  | d0 | d1 | d2 | d3 | d4 | d5 | d6 | d7 | d8 | d9 | d10 | d11 | d12 | d13 | d14 | d15

structure N16 (α : Type) where
  c0 : α
  c1 : α
  c2 : α
  c3 : α
  c4 : α
  c5 : α
  c6 : α
  c7 : α
  c8 : α
  c9 : α
  c10 : α
  c11 : α
  c12 : α
  c13 : α
  c14 : α
  c15 : α

noncomputable def N16.sel {α : Type} (d : D16) : N16 α → α := @D16.rec (fun _ => N16 α → α)
  (fun x => x.c0) (fun x => x.c1) (fun x => x.c2) (fun x => x.c3) (fun x => x.c4) (fun x => x.c5) (fun x => x.c6) (fun x => x.c7) (fun x => x.c8) (fun x => x.c9) (fun x => x.c10) (fun x => x.c11) (fun x => x.c12) (fun x => x.c13) (fun x => x.c14) (fun x => x.c15) d

noncomputable def N16.upd {α : Type} (d : D16) : N16 α → α → N16 α := @D16.rec (fun _ => N16 α → α → N16 α)
  (fun x v => @N16.rec α (fun _ => N16 α) (fun _ c1 c2 c3 c4 c5 c6 c7 c8 c9 c10 c11 c12 c13 c14 c15 => ⟨v, c1, c2, c3, c4, c5, c6, c7, c8, c9, c10, c11, c12, c13, c14, c15⟩) x)
  (fun x v => @N16.rec α (fun _ => N16 α) (fun c0 _ c2 c3 c4 c5 c6 c7 c8 c9 c10 c11 c12 c13 c14 c15 => ⟨c0, v, c2, c3, c4, c5, c6, c7, c8, c9, c10, c11, c12, c13, c14, c15⟩) x)
  (fun x v => @N16.rec α (fun _ => N16 α) (fun c0 c1 _ c3 c4 c5 c6 c7 c8 c9 c10 c11 c12 c13 c14 c15 => ⟨c0, c1, v, c3, c4, c5, c6, c7, c8, c9, c10, c11, c12, c13, c14, c15⟩) x)
  (fun x v => @N16.rec α (fun _ => N16 α) (fun c0 c1 c2 _ c4 c5 c6 c7 c8 c9 c10 c11 c12 c13 c14 c15 => ⟨c0, c1, c2, v, c4, c5, c6, c7, c8, c9, c10, c11, c12, c13, c14, c15⟩) x)
  (fun x v => @N16.rec α (fun _ => N16 α) (fun c0 c1 c2 c3 _ c5 c6 c7 c8 c9 c10 c11 c12 c13 c14 c15 => ⟨c0, c1, c2, c3, v, c5, c6, c7, c8, c9, c10, c11, c12, c13, c14, c15⟩) x)
  (fun x v => @N16.rec α (fun _ => N16 α) (fun c0 c1 c2 c3 c4 _ c6 c7 c8 c9 c10 c11 c12 c13 c14 c15 => ⟨c0, c1, c2, c3, c4, v, c6, c7, c8, c9, c10, c11, c12, c13, c14, c15⟩) x)
  (fun x v => @N16.rec α (fun _ => N16 α) (fun c0 c1 c2 c3 c4 c5 _ c7 c8 c9 c10 c11 c12 c13 c14 c15 => ⟨c0, c1, c2, c3, c4, c5, v, c7, c8, c9, c10, c11, c12, c13, c14, c15⟩) x)
  (fun x v => @N16.rec α (fun _ => N16 α) (fun c0 c1 c2 c3 c4 c5 c6 _ c8 c9 c10 c11 c12 c13 c14 c15 => ⟨c0, c1, c2, c3, c4, c5, c6, v, c8, c9, c10, c11, c12, c13, c14, c15⟩) x)
  (fun x v => @N16.rec α (fun _ => N16 α) (fun c0 c1 c2 c3 c4 c5 c6 c7 _ c9 c10 c11 c12 c13 c14 c15 => ⟨c0, c1, c2, c3, c4, c5, c6, c7, v, c9, c10, c11, c12, c13, c14, c15⟩) x)
  (fun x v => @N16.rec α (fun _ => N16 α) (fun c0 c1 c2 c3 c4 c5 c6 c7 c8 _ c10 c11 c12 c13 c14 c15 => ⟨c0, c1, c2, c3, c4, c5, c6, c7, c8, v, c10, c11, c12, c13, c14, c15⟩) x)
  (fun x v => @N16.rec α (fun _ => N16 α) (fun c0 c1 c2 c3 c4 c5 c6 c7 c8 c9 _ c11 c12 c13 c14 c15 => ⟨c0, c1, c2, c3, c4, c5, c6, c7, c8, c9, v, c11, c12, c13, c14, c15⟩) x)
  (fun x v => @N16.rec α (fun _ => N16 α) (fun c0 c1 c2 c3 c4 c5 c6 c7 c8 c9 c10 _ c12 c13 c14 c15 => ⟨c0, c1, c2, c3, c4, c5, c6, c7, c8, c9, c10, v, c12, c13, c14, c15⟩) x)
  (fun x v => @N16.rec α (fun _ => N16 α) (fun c0 c1 c2 c3 c4 c5 c6 c7 c8 c9 c10 c11 _ c13 c14 c15 => ⟨c0, c1, c2, c3, c4, c5, c6, c7, c8, c9, c10, c11, v, c13, c14, c15⟩) x)
  (fun x v => @N16.rec α (fun _ => N16 α) (fun c0 c1 c2 c3 c4 c5 c6 c7 c8 c9 c10 c11 c12 _ c14 c15 => ⟨c0, c1, c2, c3, c4, c5, c6, c7, c8, c9, c10, c11, c12, v, c14, c15⟩) x)
  (fun x v => @N16.rec α (fun _ => N16 α) (fun c0 c1 c2 c3 c4 c5 c6 c7 c8 c9 c10 c11 c12 c13 _ c15 => ⟨c0, c1, c2, c3, c4, c5, c6, c7, c8, c9, c10, c11, c12, c13, v, c15⟩) x)
  (fun x v => @N16.rec α (fun _ => N16 α) (fun c0 c1 c2 c3 c4 c5 c6 c7 c8 c9 c10 c11 c12 c13 c14 _ => ⟨c0, c1, c2, c3, c4, c5, c6, c7, c8, c9, c10, c11, c12, c13, c14, v⟩) x) d

theorem N16.sel_upd {α : Type} (d : D16) (x : N16 α) (v : α) : N16.sel d (N16.upd d x v) = v := by
  cases x; cases d <;> rfl
theorem N16.sel_ne {α : Type} {d e : D16} (h : d ≠ e) (x : N16 α) (v : α) : N16.sel d (N16.upd e x v) = N16.sel d x := by
  cases x; cases d <;> cases e <;> first | rfl | exact absurd rfl h
noncomputable def N16.all {α : Type} (v : α) : N16 α := ⟨v, v, v, v, v, v, v, v, v, v, v, v, v, v, v, v⟩
theorem N16.sel_all {α : Type} (d : D16) (v : α) : N16.sel d (N16.all v) = v := by cases d <;> rfl
def d16 : Nat → D16
  | 0 => .d0
  | 1 => .d1
  | 2 => .d2
  | 3 => .d3
  | 4 => .d4
  | 5 => .d5
  | 6 => .d6
  | 7 => .d7
  | 8 => .d8
  | 9 => .d9
  | 10 => .d10
  | 11 => .d11
  | 12 => .d12
  | 13 => .d13
  | 14 => .d14
  | _ => .d15

def D16.n : D16 → Nat
  | .d0 => 0
  | .d1 => 1
  | .d2 => 2
  | .d3 => 3
  | .d4 => 4
  | .d5 => 5
  | .d6 => 6
  | .d7 => 7
  | .d8 => 8
  | .d9 => 9
  | .d10 => 10
  | .d11 => 11
  | .d12 => 12
  | .d13 => 13
  | .d14 => 14
  | .d15 => 15

theorem d16_n {i : Nat} (h : i < 16) : (d16 i).n = i := by
  rcases i with _ | _ | _ | _ | _ | _ | _ | _ | _ | _ | _ | _ | _ | _ | _ | _ | i <;> first | rfl | omega
theorem d16_inj {i j : Nat} (hi : i < 16) (hj : j < 16) (h : d16 i = d16 j) : i = j := by rw [← d16_n hi, ← d16_n hj, h]

abbrev Tab := N16 (N16 AVal)
/-- Where a temporary lies. -/
def idxT (L n : Nat) : Option (D16 × D16) := if n < L ∧ L ≤ 256 then some (d16 (n / 16), d16 (n % 16)) else none
noncomputable def getT (L : Nat) (T : Tab) (n : Nat) : AVal := onO (idxT L n) AVal (fun p => N16.sel p.2 (N16.sel p.1 T)) .junk
noncomputable def setT (L : Nat) (T : Tab) (n : Nat) (x : AVal) : Tab := onO (idxT L n) Tab (fun p => N16.upd p.1 T (N16.upd p.2 (N16.sel p.1 T) x)) T
theorem idxT_some {L n : Nat} {p : D16 × D16} (h : idxT L n = some p) : n < L ∧ L ≤ 256 ∧ p = (d16 (n / 16), d16 (n % 16)) := by
  unfold idxT at h
  split at h
  · rename_i hc; simp only [Option.some.injEq] at h; exact ⟨hc.1, hc.2, h.symm⟩
  · simp at h
theorem getT_set {L n m : Nat} {T : Tab} {x : AVal} (hL : L ≤ 256) (hn : n < L) : getT L (setT L T n x) m = if m = n then x else getT L T m := by
  have h1 : idxT L n = some (d16 (n / 16), d16 (n % 16)) := by unfold idxT; rw [if_pos ⟨hn, hL⟩]
  unfold getT setT
  rw [h1]
  by_cases hm : m < L
  · have h2 : idxT L m = some (d16 (m / 16), d16 (m % 16)) := by unfold idxT; rw [if_pos ⟨hm, hL⟩]
    rw [h2]
    show N16.sel (d16 (m % 16)) (N16.sel (d16 (m / 16)) (N16.upd (d16 (n / 16)) T (N16.upd (d16 (n % 16)) (N16.sel (d16 (n / 16)) T) x))) = if m = n then x else N16.sel (d16 (m % 16)) (N16.sel (d16 (m / 16)) T)
    by_cases h3 : m / 16 = n / 16
    · rw [h3, N16.sel_upd]
      by_cases h4 : m % 16 = n % 16
      · rw [h4, N16.sel_upd, if_pos (by omega)]
      · rw [N16.sel_ne (fun e => h4 (d16_inj (by omega) (by omega) e)), if_neg (fun e => h4 (by rw [e]))]
    · rw [N16.sel_ne (fun e => h3 (d16_inj (by omega) (by omega) e)), if_neg (fun e => h3 (by rw [e]))]
  · have h2 : idxT L m = none := by unfold idxT; rw [if_neg (fun e => hm e.1)]
    rw [h2, if_neg (by omega)]
    rfl
theorem setAt_len : ∀ (l : List AVal) (n : Nat) (x : AVal), (setAt l n x).length = l.length
  | [], _, _ => rfl
  | _ :: _, 0, _ => rfl
  | y :: l, n + 1, x => by simp only [setAt, List.length_cons, setAt_len l n x]
theorem setAt_getD : ∀ (l : List AVal) (n : Nat) (x : AVal) (m : Nat), n < l.length → (setAt l n x).getD m .junk = if m = n then x else l.getD m .junk
  | [], _, _, _, h => by simp at h
  | _ :: _, 0, _, 0, _ => by simp [setAt]
  | _ :: _, 0, _, m + 1, _ => by simp [setAt]
  | y :: l, n + 1, x, 0, _ => by simp [setAt]
  | y :: l, n + 1, x, m + 1, h => by
    have := setAt_getD l n x m (by simpa using h)
    simp only [setAt, List.getD_cons_succ, this, Nat.add_right_cancel_iff]
theorem setAt_ge : ∀ (l : List AVal) (n : Nat) (x : AVal), l.length ≤ n → setAt l n x = l
  | [], _, _, _ => rfl
  | _ :: _, 0, _, h => by simp at h
  | y :: l, n + 1, x, h => by simp only [setAt, setAt_ge l n x (by simpa using h)]

/-- The table and the list say the same. -/
structure TR (L : Nat) (T : Tab) (ts : List AVal) : Prop where
  most : L ≤ 256
  len : ts.length = L
  same : ∀ n, getT L T n = ts.getD n .junk
theorem TR.set {L : Nat} {T : Tab} {ts : List AVal} (h : TR L T ts) (n : Nat) (x : AVal) : TR L (setT L T n x) (setAt ts n x) := by
  refine ⟨h.most, by rw [setAt_len, h.len], fun m => ?_⟩
  by_cases hn : n < L
  · rw [getT_set h.most hn, setAt_getD _ _ _ _ (by rw [h.len]; exact hn), h.same]
  · have : setT L T n x = T := by
      unfold setT idxT
      rw [if_neg (fun e => hn e.1)]; rfl
    rw [this, setAt_ge _ _ _ (by rw [h.len]; omega), h.same]
noncomputable def putT (L : Nat) (T : Tab) (dst : Option Tmp) (x : AVal) : Tab := onO dst Tab (fun d => setT L T d x) T
theorem TR.put {L : Nat} {T : Tab} {ts : List AVal} (h : TR L T ts) (dst : Option Tmp) (x : AVal) : TR L (putT L T dst x) (put ts dst x) := by
  cases dst with
  | none => exact h
  | some d => exact h.set d x
noncomputable def opndT (E : Env) (L : Nat) (T : Tab) (x : Operand) : AVal :=
  @Operand.rec (fun _ => Env → Nat → Tab → AVal) (fun t => fun _ L T => getT L T t) (fun v => fun _ _ _ => ofValue v)
    (fun g => fun E _ _ => match E.glob g with | some cs => .iref cs | none => .junk) (fun f => fun _ _ _ => .func (.func f) [] []) x E L T
theorem TR.opnd {L : Nat} {T : Tab} {ts : List AVal} (h : TR L T ts) (E : Env) : opndT E L T = evOperand E ts := by
  funext x
  cases x with
  | tmp t => exact h.same t
  | _ => rfl

/- From a list, and back. -/
noncomputable def fillT (l : List AVal) : Nat → Nat → Tab → Tab := @List.rec AVal (fun _ => Nat → Nat → Tab → Tab) (fun _ _ T => T) (fun x _ ih L i T => ih L (Nat.succ i) (setT L T i x)) l
noncomputable def tab0 : Tab := N16.all (N16.all unset)
theorem getD_append_right' {l r : List AVal} {m : Nat} (h : l.length ≤ m) : (l ++ r).getD m .junk = r.getD (m - l.length) .junk := by
  simp only [List.getD, List.getElem?_append_right h]
theorem setAt_mid (pre : List AVal) (y : AVal) (post : List AVal) (x : AVal) : setAt (pre ++ y :: post) pre.length x = pre ++ x :: post := by
  induction pre with
  | nil => rfl
  | cons z pre ih => simp only [List.cons_append, List.length_cons, setAt, ih]
theorem fillT_TR {L : Nat} : ∀ (l pre post : List AVal) (T : Tab), TR L T (pre ++ (l.map (fun _ => unset) ++ post)) → TR L (fillT l L pre.length T) (pre ++ (l ++ post))
  | [], pre, post, T, h => h
  | x :: l, pre, post, T, h => by
    have h1 := h.set pre.length x
    rw [List.map_cons, List.cons_append, setAt_mid] at h1
    have := fillT_TR l (pre ++ [x]) post (setT L T pre.length x) (by simpa using h1)
    show TR L (fillT l L (Nat.succ pre.length) (setT L T pre.length x)) _
    simpa using this
theorem tab0_TR {L : Nat} (hL : L ≤ 256) : TR L tab0 (List.replicate L unset) := by
  refine ⟨hL, by simp, fun n => ?_⟩
  unfold getT idxT
  by_cases hn : n < L
  · rw [if_pos ⟨hn, hL⟩]
    show N16.sel _ (N16.sel _ (N16.all (N16.all unset))) = _
    rw [N16.sel_all, N16.sel_all]
    simp [List.getD, hn]
  · rw [if_neg (fun e => hn e.1)]
    simp [List.getD, hn, onO]
theorem initT {L : Nat} (hL : L ≤ 256) (args : List AVal) (h : args.length ≤ L) : TR L (fillT args L (nat_lit 0) tab0) (args ++ List.replicate (L - args.length) unset) := by
  have h0 := tab0_TR hL
  have e : List.replicate L unset = [] ++ (args.map (fun _ => unset) ++ List.replicate (L - args.length) unset) := by
    have : args.map (fun _ => unset) = List.replicate args.length unset := List.map_const' ..
    rw [this, List.nil_append, List.replicate_append_replicate]
    congr 1; omega
  rw [e] at h0
  exact fillT_TR args [] _ tab0 h0
theorem ofListT {L : Nat} (hL : L ≤ 256) (l : List AVal) (h : l.length = L) : TR L (fillT l L (nat_lit 0) tab0) l := by
  have := initT hL l (by omega)
  rw [show L - l.length = 0 by omega] at this
  simpa using this
noncomputable def listT (L : Nat) (T : Tab) (k : Nat) : List AVal := @Nat.rec (fun _ => Nat → List AVal) (fun _ => []) (fun _ ih i => getT L T i :: ih (Nat.succ i)) k (nat_lit 0)
theorem TR.list {L : Nat} {T : Tab} {ts : List AVal} (h : TR L T ts) : listT L T L = ts := by
  have gen : ∀ (k i : Nat) (r : List AVal), r.length = k → (∀ n, getT L T (i + n) = r.getD n .junk) →
      @Nat.rec (fun _ => Nat → List AVal) (fun _ => []) (fun _ ih i => getT L T i :: ih (Nat.succ i)) k i = r := by
    intro k
    induction k with
    | zero => intro i r hr _; cases r with
      | nil => rfl
      | cons _ _ => simp at hr
    | succ k ih =>
      intro i r hr hs
      cases r with
      | nil => simp at hr
      | cons y r =>
        have h0 := hs 0
        simp only [Nat.add_zero, List.getD_cons_zero] at h0
        show getT L T i :: _ = _
        rw [h0]
        congr 1
        refine ih (i + 1) r (by simpa using hr) fun n => ?_
        have := hs (n + 1)
        rw [show i + 1 + n = i + (n + 1) by omega, this]
        simp
  exact gen L 0 ts h.len fun n => by rw [Nat.zero_add]; exact h.same n
end Go.Ev
