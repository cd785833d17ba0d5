/- Ways to look at a value by bare recursors with closed branches, for the kernel; no condition. -/
import Derived.Test.YthfgghenofpbjaaGreatDoorEvKNat
namespace Go.Ev

abbrev Sel (A : Type) : Type 1 := (R : Type) → (A → R) → R → R

noncomputable def onB (b : Bool) (R : Type) (k d : R) : R := @Bool.rec (fun _ => R) d k b
theorem onB_spec (b : Bool) (R : Type) (k d : R) : (b = true ∧ onB b R k d = k) ∨ onB b R k d = d := by cases b; exact .inr rfl; exact .inl ⟨rfl, rfl⟩
noncomputable def onO {A : Type} (o : Option A) (R : Type) (k : A → R) (d : R) : R := @Option.rec A (fun _ => R) d k o
theorem onO_spec {A : Type} (o : Option A) (R : Type) (k : A → R) (d : R) : (∃ a, o = some a ∧ onO o R k d = k a) ∨ onO o R k d = d := by
  cases o; exact .inr rfl; exact .inl ⟨_, rfl, rfl⟩

noncomputable def onV (x : AVal) : Sel Value :=
  @AVal.rec (fun _ => Sel Value) (fun _ => PUnit.{2}) (fun _ _ d => d) (fun y _ k _ => k y) (fun _ _ _ _ d => d) (fun _ _ _ _ d => d) (fun _ _ _ _ _ _ _ d => d) (fun _ _ _ _ _ _ _ d => d)
    (fun _ _ _ _ d => d) (fun _ _ _ _ d => d) (fun _ _ _ _ _ _ _ d => d) (fun _ _ _ d => d) (fun _ _ _ _ _ d => d) (fun _ _ _ d => d) (fun _ _ _ d => d) ⟨⟩ (fun _ _ _ _ => ⟨⟩) x
theorem onV_spec (x : AVal) (R : Type) (k : Value → R) (d : R) : (∃ y, x = .v y ∧ onV x R k d = k y) ∨ onV x R k d = d := by
  cases x <;> first | exact .inl ⟨_, rfl, rfl⟩ | exact .inr rfl
noncomputable def onInt (x : Value) : (R : Type) → (IntKind → Int → R) → R → R :=
  @Value.rec (fun _ => (R : Type) → (IntKind → Int → R) → R → R) (fun _ => PUnit.{2}) (fun _ => PUnit.{2}) (fun _ _ _ d => d) (fun kd n _ k _ => k kd n) (fun _ _ _ _ d => d) (fun _ _ _ _ _ d => d)
    (fun _ _ _ d => d) (fun _ _ _ d => d) (fun _ _ _ _ _ d => d) (fun _ _ _ d => d) (fun _ _ _ d => d) (fun _ _ _ _ _ _ _ d => d) (fun _ _ d => d) (fun _ _ _ _ _ d => d) (fun _ _ d => d)
    (fun _ _ _ _ d => d) (fun _ _ _ _ d => d) (fun _ _ => ⟨⟩) ⟨⟩ (fun _ _ _ _ => ⟨⟩) x
theorem onInt_spec (x : Value) (R : Type) (k : IntKind → Int → R) (d : R) : (∃ kd n, x = .int kd n ∧ onInt x R k d = k kd n) ∨ onInt x R k d = d := by
  cases x <;> first | exact .inl ⟨_, _, rfl, rfl⟩ | exact .inr rfl
noncomputable def onStr (x : Value) : Sel ByteArray :=
  @Value.rec (fun _ => Sel ByteArray) (fun _ => PUnit.{2}) (fun _ => PUnit.{2}) (fun _ _ _ d => d) (fun _ _ _ _ d => d) (fun _ _ _ _ d => d) (fun _ _ _ _ _ d => d)
    (fun s _ k _ => k s) (fun _ _ _ d => d) (fun _ _ _ _ _ d => d) (fun _ _ _ d => d) (fun _ _ _ d => d) (fun _ _ _ _ _ _ _ d => d) (fun _ _ d => d) (fun _ _ _ _ _ d => d) (fun _ _ d => d)
    (fun _ _ _ _ d => d) (fun _ _ _ _ d => d) (fun _ _ => ⟨⟩) ⟨⟩ (fun _ _ _ _ => ⟨⟩) x
theorem onStr_spec (x : Value) (R : Type) (k : ByteArray → R) (d : R) : (∃ s, x = .string s ∧ onStr x R k d = k s) ∨ onStr x R k d = d := by
  cases x <;> first | exact .inl ⟨_, rfl, rfl⟩ | exact .inr rfl
noncomputable def onBool (x : Value) : Sel Bool :=
  @Value.rec (fun _ => Sel Bool) (fun _ => PUnit.{2}) (fun _ => PUnit.{2}) (fun b _ k _ => k b) (fun _ _ _ _ d => d) (fun _ _ _ _ d => d) (fun _ _ _ _ _ d => d)
    (fun _ _ _ d => d) (fun _ _ _ d => d) (fun _ _ _ _ _ d => d) (fun _ _ _ d => d) (fun _ _ _ d => d) (fun _ _ _ _ _ _ _ d => d) (fun _ _ d => d) (fun _ _ _ _ _ d => d) (fun _ _ d => d)
    (fun _ _ _ _ d => d) (fun _ _ _ _ d => d) (fun _ _ => ⟨⟩) ⟨⟩ (fun _ _ _ _ => ⟨⟩) x
theorem onBool_spec (x : Value) (R : Type) (k : Bool → R) (d : R) : (∃ b, x = .bool b ∧ onBool x R k d = k b) ∨ onBool x R k d = d := by
  cases x <;> first | exact .inl ⟨_, rfl, rfl⟩ | exact .inr rfl
/-- No slice, map or aggregate of the model's: one cell, and no nil slice. -/
noncomputable def onOneV (x : Value) : (R : Type) → R → R → R :=
  @Value.rec (fun _ => (R : Type) → R → R → R) (fun _ => PUnit.{2}) (fun _ => PUnit.{2}) (fun _ _ k _ => k) (fun _ _ _ k _ => k) (fun _ _ _ k _ => k) (fun _ _ _ _ k _ => k)
    (fun _ _ k _ => k) (fun _ _ k _ => k) (fun _ _ _ _ k _ => k) (fun _ _ k _ => k) (fun _ _ k _ => k) (fun _ _ _ _ _ _ k _ => k) (fun _ k _ => k) (fun _ _ _ _ k _ => k) (fun _ k _ => k)
    (fun _ _ _ _ d => d) (fun _ _ _ _ d => d) (fun _ _ => ⟨⟩) ⟨⟩ (fun _ _ _ _ => ⟨⟩) x
/-- The value of one cell? -/
noncomputable def onOne (x : AVal) : (R : Type) → R → R → R :=
  @AVal.rec (fun _ => (R : Type) → R → R → R) (fun _ => PUnit.{2}) (fun _ _ d => d) (fun y R k d => onOneV y R k d) (fun _ _ _ _ d => d) (fun _ _ _ _ d => d) (fun _ _ _ _ _ _ k _ => k) (fun _ _ _ _ _ _ k _ => k)
    (fun _ _ _ k _ => k) (fun _ _ _ k _ => k) (fun _ _ _ _ _ _ k _ => k) (fun _ _ k _ => k) (fun _ _ _ _ k _ => k) (fun _ _ k _ => k) (fun _ _ k _ => k) ⟨⟩ (fun _ _ _ _ => ⟨⟩) x
theorem onOne_spec (x : AVal) (R : Type) (k d : R) : (x.one = true ∧ onOne x R k d = k) ∨ onOne x R k d = d := by
  cases x with
  | v y => cases y <;> first | exact .inr rfl | exact .inl ⟨rfl, rfl⟩
  | _ => first | exact .inr rfl | exact .inl ⟨rfl, rfl⟩
noncomputable def onPtr (x : AVal) : (R : Type) → (Nat → Nat → R) → (List AVal → R) → R → R :=
  @AVal.rec (fun _ => (R : Type) → (Nat → Nat → R) → (List AVal → R) → R → R) (fun _ => PUnit.{2}) (fun _ _ _ d => d) (fun _ _ _ _ d => d) (fun _ _ _ _ _ d => d) (fun _ _ _ _ _ d => d) (fun _ _ _ _ _ _ _ _ d => d)
    (fun _ _ _ _ _ _ _ _ d => d) (fun i o _ k _ _ => k i o) (fun cs _ _ _ k _ => k cs) (fun _ _ _ _ _ _ _ _ d => d) (fun _ _ _ _ d => d) (fun _ _ _ _ _ _ d => d) (fun _ _ _ _ d => d) (fun _ _ _ _ d => d) ⟨⟩ (fun _ _ _ _ => ⟨⟩) x
theorem onPtr_spec (x : AVal) (R : Type) (k : Nat → Nat → R) (k' : List AVal → R) (d : R) :
    (∃ i o, x = .ref i o ∧ onPtr x R k k' d = k i o) ∨ (∃ cs, x = .iref cs ∧ onPtr x R k k' d = k' cs) ∨ onPtr x R k k' d = d := by
  cases x <;> first | exact .inl ⟨_, _, rfl, rfl⟩ | exact .inr (.inl ⟨_, rfl, rfl⟩) | exact .inr (.inr rfl)
noncomputable def onAgg (x : AVal) : Sel (List AVal) :=
  @AVal.rec (fun _ => Sel (List AVal)) (fun _ => PUnit.{2}) (fun _ _ d => d) (fun _ _ _ d => d) (fun cs _ _ k _ => k cs) (fun _ _ _ _ d => d) (fun _ _ _ _ _ _ _ d => d) (fun _ _ _ _ _ _ _ d => d)
    (fun _ _ _ _ d => d) (fun _ _ _ _ d => d) (fun _ _ _ _ _ _ _ d => d) (fun _ _ _ d => d) (fun _ _ _ _ _ d => d) (fun _ _ _ d => d) (fun _ _ _ d => d) ⟨⟩ (fun _ _ _ _ => ⟨⟩) x
theorem onAgg_spec (x : AVal) (R : Type) (k : List AVal → R) (d : R) : (∃ y, x = .agg y ∧ onAgg x R k d = k y) ∨ onAgg x R k d = d := by
  cases x <;> first | exact .inl ⟨_, rfl, rfl⟩ | exact .inr rfl
noncomputable def onTuple (x : AVal) : Sel (List AVal) :=
  @AVal.rec (fun _ => Sel (List AVal)) (fun _ => PUnit.{2}) (fun _ _ d => d) (fun _ _ _ d => d) (fun _ _ _ _ d => d) (fun cs _ _ k _ => k cs) (fun _ _ _ _ _ _ _ d => d) (fun _ _ _ _ _ _ _ d => d)
    (fun _ _ _ _ d => d) (fun _ _ _ _ d => d) (fun _ _ _ _ _ _ _ d => d) (fun _ _ _ d => d) (fun _ _ _ _ _ d => d) (fun _ _ _ d => d) (fun _ _ _ d => d) ⟨⟩ (fun _ _ _ _ => ⟨⟩) x
theorem onTuple_spec (x : AVal) (R : Type) (k : List AVal → R) (d : R) : (∃ y, x = .tuple y ∧ onTuple x R k d = k y) ∨ onTuple x R k d = d := by
  cases x <;> first | exact .inl ⟨_, rfl, rfl⟩ | exact .inr rfl
abbrev SelSl : Type 1 := (R : Type) → (Nat → Nat → List AVal → Tok → R) → (Nat → Nat → Nat → Nat → Option Nat → R) → R → R
noncomputable def onSl (x : AVal) : SelSl :=
  @AVal.rec (fun _ => SelSl) (fun _ => PUnit.{2}) (fun _ _ _ d => d) (fun _ _ _ _ d => d) (fun _ _ _ _ _ d => d) (fun _ _ _ _ _ d => d) (fun a b c e _ _ k _ _ => k a b c e)
    (fun a b c e f _ _ k _ => k a b c e f) (fun _ _ _ _ _ d => d) (fun _ _ _ _ _ d => d) (fun _ _ _ _ _ _ _ _ d => d) (fun _ _ _ _ d => d) (fun _ _ _ _ _ _ d => d) (fun _ _ _ _ d => d) (fun _ _ _ _ d => d) ⟨⟩ (fun _ _ _ _ => ⟨⟩) x
theorem onSl_spec (x : AVal) (R : Type) (k : Nat → Nat → List AVal → Tok → R) (k' : Nat → Nat → Nat → Nat → Option Nat → R) (d : R) :
    (∃ a b c e, x = .list a b c e ∧ onSl x R k k' d = k a b c e) ∨ (∃ a b c e f, x = .arr a b c e f ∧ onSl x R k k' d = k' a b c e f) ∨ onSl x R k k' d = d := by
  cases x <;> first | exact .inl ⟨_, _, _, _, rfl, rfl⟩ | exact .inr (.inl ⟨_, _, _, _, _, rfl, rfl⟩) | exact .inr (.inr rfl)
noncomputable def onFunc (x : AVal) : (R : Type) → (Fn → List AVal → List AVal → R) → R → R :=
  @AVal.rec (fun _ => (R : Type) → (Fn → List AVal → List AVal → R) → R → R) (fun _ => PUnit.{2}) (fun _ _ d => d) (fun _ _ _ d => d) (fun _ _ _ _ d => d) (fun _ _ _ _ d => d) (fun _ _ _ _ _ _ _ d => d) (fun _ _ _ _ _ _ _ d => d)
    (fun _ _ _ _ d => d) (fun _ _ _ _ d => d) (fun f a b _ _ _ k _ => k f a b) (fun _ _ _ d => d) (fun _ _ _ _ _ d => d) (fun _ _ _ d => d) (fun _ _ _ d => d) ⟨⟩ (fun _ _ _ _ => ⟨⟩) x
theorem onFunc_spec (x : AVal) (R : Type) (k : Fn → List AVal → List AVal → R) (d : R) : (∃ f a b, x = .func f a b ∧ onFunc x R k d = k f a b) ∨ onFunc x R k d = d := by
  cases x <;> first | exact .inl ⟨_, _, _, rfl, rfl⟩ | exact .inr rfl
noncomputable def onIface (x : AVal) : (R : Type) → (TypeId → AVal → R) → R → R :=
  @AVal.rec (fun _ => (R : Type) → (TypeId → AVal → R) → R → R) (fun _ => PUnit.{2}) (fun _ _ d => d) (fun _ _ _ d => d) (fun _ _ _ _ d => d) (fun _ _ _ _ d => d) (fun _ _ _ _ _ _ _ d => d) (fun _ _ _ _ _ _ _ d => d)
    (fun _ _ _ _ d => d) (fun _ _ _ _ d => d) (fun _ _ _ _ _ _ _ d => d) (fun _ _ _ d => d) (fun t y _ _ k _ => k t y) (fun _ _ _ d => d) (fun _ _ _ d => d) ⟨⟩ (fun _ _ _ _ => ⟨⟩) x
theorem onIface_spec (x : AVal) (R : Type) (k : TypeId → AVal → R) (d : R) : (∃ t y, x = .iface t y ∧ onIface x R k d = k t y) ∨ onIface x R k d = d := by
  cases x <;> first | exact .inl ⟨_, _, rfl, rfl⟩ | exact .inr rfl
noncomputable def onNat (i : Int) : Sel Nat := @Int.rec (fun _ => Sel Nat) (fun n _ k _ => k n) (fun _ _ _ d => d) i
theorem onNat_spec (i : Int) (R : Type) (k : Nat → R) (d : R) : (∃ n, i = .ofNat n ∧ onNat i R k d = k n) ∨ onNat i R k d = d := by
  cases i; exact .inl ⟨_, rfl, rfl⟩; exact .inr rfl
noncomputable def onCells (x : AObj) : (R : Type) → (TypeId → List AVal → R) → R → R :=
  @AObj.rec (fun _ => (R : Type) → (TypeId → List AVal → R) → R → R) (fun e cs _ k _ => k e cs) (fun _ _ _ _ d => d) (fun _ _ _ _ d => d) (fun _ _ _ _ _ _ _ _ _ _ d => d) (fun _ _ _ d => d) (fun _ _ d => d) x
theorem onCells_spec (x : AObj) (R : Type) (k : TypeId → List AVal → R) (d : R) : (∃ e cs, x = .cells e cs ∧ onCells x R k d = k e cs) ∨ onCells x R k d = d := by
  cases x <;> first | exact .inl ⟨_, _, rfl, rfl⟩ | exact .inr rfl

/- Numbers. -/
noncomputable def onN (x : AVal) (R : Type) (k : IntKind → Nat → R) (d : R) : R := onV x R (fun y => onInt y R (fun kd i => onNat i R (k kd) d) d) d
theorem onN_spec (x : AVal) (R : Type) (k : IntKind → Nat → R) (d : R) : (∃ kd n, x = .v (.int kd (.ofNat n)) ∧ onN x R k d = k kd n) ∨ onN x R k d = d := by
  unfold onN
  rcases onV_spec x R (fun y => onInt y R (fun kd i => onNat i R (k kd) d) d) d with ⟨y, rfl, h⟩ | h
  · rw [h]
    rcases onInt_spec y R (fun kd i => onNat i R (k kd) d) d with ⟨kd, i, rfl, h⟩ | h
    · rw [h]
      rcases onNat_spec i R (k kd) d with ⟨n, rfl, h⟩ | h
      · exact .inl ⟨kd, n, rfl, h⟩
      · exact .inr h
    · exact .inr h
  · exact .inr h
noncomputable def onS (x : AVal) (R : Type) (k : ByteArray → R) (d : R) : R := onV x R (fun y => onStr y R k d) d
theorem onS_spec (x : AVal) (R : Type) (k : ByteArray → R) (d : R) : (∃ s, x = .v (.string s) ∧ onS x R k d = k s) ∨ onS x R k d = d := by
  unfold onS
  rcases onV_spec x R (fun y => onStr y R k d) d with ⟨y, rfl, h⟩ | h
  · rw [h]
    rcases onStr_spec y R k d with ⟨s, rfl, h⟩ | h
    · exact .inl ⟨s, rfl, h⟩
    · exact .inr h
  · exact .inr h
noncomputable def onTF (x : AVal) (R : Type) (k : Bool → R) (d : R) : R := onV x R (fun y => onBool y R k d) d
theorem onTF_spec (x : AVal) (R : Type) (k : Bool → R) (d : R) : (∃ s, x = .v (.bool s) ∧ onTF x R k d = k s) ∨ onTF x R k d = d := by
  unfold onTF
  rcases onV_spec x R (fun y => onBool y R k d) d with ⟨y, rfl, h⟩ | h
  · rw [h]
    rcases onBool_spec y R k d with ⟨s, rfl, h⟩ | h
    · exact .inl ⟨s, rfl, h⟩
    · exact .inr h
  · exact .inr h

/- Rows. -/
noncomputable def onHead {α : Type} (l : List α) : Sel α := @List.rec α (fun _ => Sel α) (fun _ _ d => d) (fun x _ _ _ k _ => k x) l
theorem onHead_spec {α : Type} (l : List α) (R : Type) (k : α → R) (d : R) : (∃ x r, l = x :: r ∧ onHead l R k d = k x) ∨ onHead l R k d = d := by
  cases l; exact .inr rfl; exact .inl ⟨_, _, rfl, rfl⟩
noncomputable def onNil {α : Type} (l : List α) (R : Type) (k d : R) : R := @List.rec α (fun _ => R) k (fun _ _ _ => d) l
theorem onNil_spec {α : Type} (l : List α) (R : Type) (k d : R) : (l = [] ∧ onNil l R k d = k) ∨ onNil l R k d = d := by
  cases l; exact .inl ⟨rfl, rfl⟩; exact .inr rfl
noncomputable def nthO {α : Type} (l : List α) : Nat → Option α := @List.rec α (fun _ => Nat → Option α) (fun _ => none) (fun x _ ih n => @Nat.rec (fun _ => Option α) (some x) (fun m _ => ih m) n) l
theorem nthO_eq {α : Type} : ∀ (l : List α) (n : Nat), nthO l n = l[n]?
  | [], n => by simp [nthO]
  | _ :: _, 0 => rfl
  | x :: l, n + 1 => by
    show nthO l n = _
    rw [nthO_eq l n]; simp
noncomputable def nthK {α : Type} (d : α) (l : List α) : Nat → α := @List.rec α (fun _ => Nat → α) (fun _ => d) (fun x _ ih n => @Nat.rec (fun _ => α) x (fun m _ => ih m) n) l
theorem nthK_eq {α : Type} (d : α) : ∀ (l : List α) (n : Nat), nthK d l n = l.getD n d
  | [], _ => rfl
  | _ :: _, 0 => rfl
  | x :: l, n + 1 => by
    show nthK d l n = _
    rw [nthK_eq d l n]; simp
noncomputable def padK {α : Type} (d : α) (l : List α) : Nat → α → List α :=
  @List.rec α (fun _ => Nat → α → List α) (fun n x => @Nat.rec (fun _ => List α) [x] (fun _ ih => d :: ih) n) (fun y r ih n x => @Nat.rec (fun _ => List α) (x :: r) (fun m _ => y :: ih m x) n) l
theorem padK_eq {α : Type} (d : α) : ∀ (l : List α) (n : Nat) (x : α), padK d l n x = padSet d l n x
  | [], 0, _ => rfl
  | [], n + 1, x => by
    show d :: padK d [] n x = _
    rw [padK_eq d [] n x]; rfl
  | _ :: _, 0, _ => rfl
  | y :: l, n + 1, x => by
    show y :: padK d l n x = _
    rw [padK_eq d l n x]; rfl
noncomputable def dropK {α : Type} (l : List α) : Nat → List α := @List.rec α (fun _ => Nat → List α) (fun _ => []) (fun x r ih n => @Nat.rec (fun _ => List α) (x :: r) (fun m _ => ih m) n) l
theorem dropK_eq {α : Type} : ∀ (l : List α) (n : Nat), dropK l n = l.drop n
  | [], n => by simp [dropK]
  | _ :: _, 0 => rfl
  | x :: l, n + 1 => by show dropK l n = _; rw [dropK_eq l n]; rfl
noncomputable def takeK {α : Type} (l : List α) : Nat → List α := @List.rec α (fun _ => Nat → List α) (fun _ => []) (fun x _ ih n => @Nat.rec (fun _ => List α) [] (fun m _ => x :: ih m) n) l
theorem takeK_eq {α : Type} : ∀ (l : List α) (n : Nat), takeK l n = l.take n
  | [], n => by simp [takeK]
  | _ :: _, 0 => rfl
  | x :: l, n + 1 => by show x :: takeK l n = _; rw [takeK_eq l n]; rfl
noncomputable def lenK {α : Type} (l : List α) : Nat := @List.rec α (fun _ => Nat) 0 (fun _ _ ih => Nat.succ ih) l
theorem lenK_eq {α : Type} : ∀ l : List α, lenK l = l.length
  | [] => rfl
  | _ :: l => by show Nat.succ (lenK l) = _; rw [lenK_eq l]; rfl
noncomputable def appK {α : Type} (l r : List α) : List α := @List.rec α (fun _ => List α → List α) (fun r => r) (fun x _ ih r => x :: ih r) l r
theorem appK_eq {α : Type} (r : List α) : ∀ l : List α, appK l r = l ++ r
  | [] => rfl
  | x :: l => by show x :: appK l r = _; rw [appK_eq r l]; rfl
noncomputable def mapK {α β : Type} (f : α → β) (l : List α) : List β := @List.rec α (fun _ => List β) [] (fun x _ ih => f x :: ih) l
theorem mapK_eq {α β : Type} (f : α → β) : ∀ l : List α, mapK f l = l.map f
  | [] => rfl
  | x :: l => by show f x :: mapK f l = _; rw [mapK_eq f l]; rfl
noncomputable def repK {α : Type} (x : α) (n : Nat) : List α := @Nat.rec (fun _ => List α) [] (fun _ ih => x :: ih) n
theorem repK_eq {α : Type} (x : α) : ∀ n, repK x n = List.replicate n x
  | 0 => rfl
  | n + 1 => by show x :: repK x n = _; rw [repK_eq x n]; rfl
/-- The first ones, if there are so many. -/
noncomputable def firstK {α : Type} (n : Nat) : List α → Option (List α) :=
  @Nat.rec (fun _ => List α → Option (List α)) (fun _ => some []) (fun _ ih l => @List.rec α (fun _ => Option (List α)) none (fun x r _ => onO (ih r) (Option (List α)) (fun q => some (x :: q)) none) l) n
theorem firstK_eq {α : Type} : ∀ (n : Nat) (l q : List α), firstK n l = some q → n ≤ l.length ∧ q = l.take n
  | 0, l, q, h => by
    have h : some [] = some q := h
    simp at h; subst h; simp
  | n + 1, [], q, h => by simp [firstK] at h
  | n + 1, x :: l, q, h => by
    have h : onO (firstK n l) (Option (List α)) (fun q => some (x :: q)) none = some q := h
    rcases onO_spec (firstK n l) (Option (List α)) (fun q => some (x :: q)) none with ⟨q', h1, h2⟩ | h2
    · rw [h2] at h
      simp only [Option.some.injEq] at h
      subst h
      obtain ⟨h3, rfl⟩ := firstK_eq n l q' h1
      exact ⟨by simpa using h3, by simp⟩
    · rw [h2] at h; simp at h
/-- New cells over the first ones, if there are so many. -/
noncomputable def overK {α : Type} (new : List α) : List α → Option (List α) :=
  @List.rec α (fun _ => List α → Option (List α)) (fun l => some l) (fun x _ ih l => @List.rec α (fun _ => Option (List α)) none (fun _ r _ => onO (ih r) (Option (List α)) (fun q => some (x :: q)) none) l) new
theorem overK_eq {α : Type} : ∀ (new l q : List α), overK new l = some q → new.length ≤ l.length ∧ q = new ++ l.drop new.length
  | [], l, q, h => by
    have h : some l = some q := h
    simp at h; subst h; simp
  | x :: new, [], q, h => by simp [overK] at h
  | x :: new, y :: l, q, h => by
    have h : onO (overK new l) (Option (List α)) (fun q => some (x :: q)) none = some q := h
    rcases onO_spec (overK new l) (Option (List α)) (fun q => some (x :: q)) none with ⟨q', h1, h2⟩ | h2
    · rw [h2] at h
      simp only [Option.some.injEq] at h
      subst h
      obtain ⟨h3, rfl⟩ := overK_eq new l q' h1
      exact ⟨by simpa using h3, by simp⟩
    · rw [h2] at h; simp at h
noncomputable def spliceK {α : Type} (l : List α) : Nat → List α → Option (List α) :=
  @List.rec α (fun _ => Nat → List α → Option (List α)) (fun n new => @Nat.rec (fun _ => Option (List α)) (overK new []) (fun _ _ => none) n)
    (fun x r ih n new => @Nat.rec (fun _ => Option (List α)) (overK new (x :: r)) (fun m _ => onO (ih m new) (Option (List α)) (fun q => some (x :: q)) none) n) l
theorem spliceK_eq {α : Type} : ∀ (l : List α) (n : Nat) (new q : List α), spliceK l n new = some q → n + new.length ≤ l.length ∧ q = l.take n ++ (new ++ l.drop (n + new.length))
  | [], 0, new, q, h => by
    obtain ⟨h1, rfl⟩ := overK_eq new [] q h
    simpa using h1
  | [], n + 1, new, q, h => by simp [spliceK] at h
  | x :: r, 0, new, q, h => by
    obtain ⟨h1, rfl⟩ := overK_eq new (x :: r) q h
    refine ⟨by simpa using h1, by simp⟩
  | x :: r, n + 1, new, q, h => by
    have h : onO (spliceK r n new) (Option (List α)) (fun q => some (x :: q)) none = some q := h
    rcases onO_spec (spliceK r n new) (Option (List α)) (fun q => some (x :: q)) none with ⟨q', h1, h2⟩ | h2
    · rw [h2] at h
      simp only [Option.some.injEq] at h
      subst h
      obtain ⟨h3, rfl⟩ := spliceK_eq r n new q' h1
      refine ⟨by simp; omega, ?_⟩
      rw [show n + 1 + new.length = (n + new.length) + 1 by omega]
      simp
    · rw [h2] at h; simp at h
end Go.Ev
