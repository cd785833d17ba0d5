/- Operations, code, bodies and calls for the kernel, in the way of continuations; no condition. -/
import Derived.Test.YthfgghenofpbjaaGreatDoorEvFast4

namespace Go.Ev

inductive CK where
  | fn (g : FuncId)
  | val (t : Tmp)
  | len (x : Operand) (t : TypeId)
  | app (s x : Operand)
  | other
def calleeT (c : Call) : CK :=
  match c.callee, c.args.toList with
  | .value (.func g), _ => .fn g
  | .value (.tmp t), _ => .val t
  | .builtin .len, [x] => (match c.argTypes[0]? with | some t => .len x t | none => .other)
  | .builtin .append, [s, x] => .app s x
  | _, _ => .other
def bodyT (P : Program) (g : FuncId) : Bool := match hasBody P g with | some true => true | _ => false
theorem bodyT_eq {P : Program} {g : FuncId} (h : bodyT P g = true) : hasBody P g = some true := by
  unfold bodyT at h
  split at h
  · assumption
  · simp at h
def isSlT (P : Program) (t : TypeId) : Bool := match P.underlying t with | some (.slice _) => true | _ => false
theorem isSlT_eq {P : Program} {t : TypeId} (h : isSlT P t = true) : ∃ e, P.underlying t = some (.slice e) := by
  unfold isSlT at h
  split at h
  · exact ⟨_, by assumption⟩
  · simp at h
noncomputable def lenF (P : Program) (σ : ASt) (t : TypeId) (x : AVal) (R : Type) (k : AVal → ASt → R) (d : R) : R :=
  onS x R (fun s => onB (isStrT P t) R (k (.v (.int .i64 (.ofNat (lenK s.data.toList)))) σ) d)
    (onB (isSlT P t) R (onSl x R (fun _ n _ _ => k (.v (.int .i64 (.ofNat n))) σ) (fun _ _ _ n _ => k (.v (.int .i64 (.ofNat n))) σ)
      (onV x R (fun y => onNilSl y R (k (.v (.int .i64 (.ofNat (nat_lit 0)))) σ) d) d)) d)
theorem lenF_spec (P : Program) (σ : ASt) (t : TypeId) (x : AVal) (R : Type) (k : AVal → ASt → R) (d : R) : Fast (evLen P σ t x) k d (lenF P σ t x R k d) := by
  unfold lenF
  generalize hA : (fun (s : ByteArray) => _) = A
  generalize hD : onB (isSlT P t) R _ d = D
  rcases onS_spec x R A D with ⟨s, rfl, h⟩ | h
  · rw [h, ← hA]
    clear h hA hD
    rcases onB_spec (isStrT P t) R (k (.v (.int .i64 (.ofNat (lenK s.data.toList)))) σ) d with ⟨ht, h⟩ | h
    · refine .inr ⟨_, σ, ?_, h⟩
      simp only [evLen, isStrT_eq ht, lenK_eq]; rfl
    · exact .inl h
  · rw [h, ← hD]
    clear h hA hD
    generalize hA : onSl x R _ _ _ = A
    rcases onB_spec (isSlT P t) R A d with ⟨ht, h⟩ | h
    · rw [h, ← hA]
      clear h hA
      obtain ⟨e, he⟩ := isSlT_eq ht
      generalize hA : onV x R _ d = A
      rcases onSl_spec x R (fun _ n _ _ => k (.v (.int .i64 (.ofNat n))) σ) (fun _ _ _ n _ => k (.v (.int .i64 (.ofNat n))) σ) A with ⟨_, n, _, _, rfl, h⟩ | ⟨_, _, _, n, _, rfl, h⟩ | h
      · refine .inr ⟨_, σ, ?_, h⟩
        simp only [evLen, he]; rfl
      · refine .inr ⟨_, σ, ?_, h⟩
        simp only [evLen, he]; rfl
      · rw [h, ← hA]
        clear h hA
        rcases onV_spec x R (fun y => onNilSl y R (k (.v (.int .i64 (.ofNat (nat_lit 0)))) σ) d) d with ⟨y, rfl, h⟩ | h
        · rw [h]
          rcases onNilSl_spec y R (k (.v (.int .i64 (.ofNat (nat_lit 0)))) σ) d with ⟨rfl, h⟩ | h
          · refine .inr ⟨_, σ, ?_, h⟩
            simp only [evLen, he]; rfl
          · exact .inl h
        · exact .inl h
    · exact .inl h

/-- It does not know, it goes on with a value, or it enters a function. -/
def Fast3 (r : ORes) {R : Type} (k : AVal → ASt → R) (ke : FuncId → List AVal → ASt → R) (slow res : R) : Prop :=
  res = slow ∨ (∃ x σ, r = some (.val x, σ) ∧ res = k x σ) ∨ ∃ g as σ, r = some (.enter g as, σ) ∧ res = ke g as σ
theorem Fast.three {r : ORes} {R : Type} {k : AVal → ASt → R} {ke : FuncId → List AVal → ASt → R} {slow res : R} (h : Fast r k slow res) : Fast3 r k ke slow res := h.imp id .inl

abbrev CallK := (R : Type) → Call → Program → Env → FuncId → ASt → (Operand → AVal) → (AVal → ASt → R) → (FuncId → List AVal → ASt → R) → R → R
noncomputable def callF (c : Call) : CallK :=
  @CK.rec (fun _ => CallK)
    (fun g R c P _ _ σ ρ _ ke d => onB (bodyT P g) R (ke g (mapK ρ c.args.toList) σ) d)
    (fun t R c P _ _ σ ρ _ ke d => onFunc (ρ (.tmp t)) R (fun f a b => @Fn.rec (fun _ => R) (fun g => onB (bodyT P g) R (ke g (appK (appK a (mapK ρ c.args.toList)) b) σ) d) (fun _ => d) (fun _ _ => d) (fun _ _ _ _ => d) (fun _ => d) f) d)
    (fun x t R _ P _ _ σ ρ k _ d => lenF P σ t (ρ x) R k d)
    (fun s x R c P E fn σ ρ k _ d => appendF P E fn σ c.argTypes (ρ s) (ρ x) R k d)
    (fun _ _ _ _ _ _ _ _ _ d => d) (calleeT c)
theorem callF_spec (P : Program) (E : Env) (fn : FuncId) (σ : ASt) (ρ : Operand → AVal) (hρ : ∀ g, ρ (.func g) = .func (.func g) [] []) (c : Call) (gen : Unit → ORes) (R : Type) (k : AVal → ASt → R) (ke : FuncId → List AVal → ASt → R) (d : R) :
    Fast3 (evCall P E fn σ ρ c gen) k ke d (callF c R c P E fn σ ρ k ke d) := by
  obtain ⟨callee, args, tys⟩ := c
  unfold callF
  unfold calleeT
  simp only
  split
  · rename_i g
    show Fast3 _ k ke d (onB (bodyT P g) R (ke g (mapK ρ args.toList) σ) d)
    rcases onB_spec (bodyT P g) R (ke g (mapK ρ args.toList) σ) d with ⟨hb, h⟩ | h
    · refine .inr (.inr ⟨g, _, σ, ?_, h⟩)
      simp only [evCall, evEnter, bodyT_eq hb, mapK_eq, hρ]
      simp
    · exact .inl h
  · rename_i t
    show Fast3 _ k ke d (onFunc (ρ (.tmp t)) R _ d)
    generalize hA : (fun (f : Fn) (a b : List AVal) => _) = A
    rcases onFunc_spec (ρ (.tmp t)) R A d with ⟨f, a, b, hf, h⟩ | h
    · rw [h, ← hA]
      simp only
      clear h hA
      cases f with
      | func g =>
        show Fast3 _ k ke d (onB (bodyT P g) R (ke g (appK (appK a (mapK ρ args.toList)) b) σ) d)
        rcases onB_spec (bodyT P g) R (ke g (appK (appK a (mapK ρ args.toList)) b) σ) d with ⟨hb, h⟩ | h
        · refine .inr (.inr ⟨g, _, σ, ?_, h⟩)
          simp only [evCall, hf, evEnter, bodyT_eq hb, mapK_eq, appK_eq]
        · exact .inl h
      | _ => exact .inl rfl
    · exact .inl h
  · rename_i x hargs
    split
    · rename_i t ht
      refine Fast.three ?_
      show Fast _ k d (lenF P σ t (ρ x) R k d)
      rcases lenF_spec P σ t (ρ x) R k d with h | ⟨y, σ', h1, h2⟩
      · exact .inl h
      · refine .inr ⟨y, σ', ?_, h2⟩
        simp only [evCall, evBuiltin, hargs, List.map_cons, List.map_nil, ht, Option.bind_some, h1]
    · exact .inl rfl
  · rename_i s x hargs
    refine Fast.three ?_
    show Fast _ k d (appendF P E fn σ tys (ρ s) (ρ x) R k d)
    rcases appendF_spec P E fn σ tys (ρ s) (ρ x) R k d with h | ⟨y, σ', h1, h2⟩
    · exact .inl h
    · refine .inr ⟨y, σ', ?_, h2⟩
      simp only [evCall, evBuiltin, hargs, List.map_cons, List.map_nil, h1]
  · exact .inl rfl

abbrev OpF := (R : Type) → Program → Env → FuncId → ASt → (Operand → AVal) → (AVal → ASt → R) → (FuncId → List AVal → ASt → R) → R → R
noncomputable def opF (op : Op) : OpF :=
  @Op.rec (fun _ => OpF)
    (fun x => fun _ _ _ _ σ ρ k _ _ => k (ρ x) σ)
    (fun x => fun _ _ _ _ σ ρ k _ _ => k (ρ x) σ)
    (fun c a b => fun R _ _ _ σ ρ k _ d => onTF (ρ c) R (fun t => @Bool.rec (fun _ => R) (k (ρ b) σ) (k (ρ a) σ) t) d)
    (fun t => fun R P _ _ σ _ k _ d => allocF P σ t R k d)
    (fun t x => fun R _ _ _ σ ρ k _ d => boxF σ t (ρ x) R k d)
    (fun t ps => fun R P _ _ σ ρ k _ d => buildF P σ t ps.toList ρ R k d)
    (fun t len ps => fun R P E fn σ ρ k _ d => buildSliceF P E fn σ t len ps.toList ρ R k d)
    (fun _ _ _ _ => fun _ _ _ _ _ _ _ _ d => d)
    (fun t a => fun R P _ _ σ ρ k _ d => loadF P σ t (ρ a) R k d)
    (fun t a x => fun R P _ _ σ ρ k _ d => storeF P σ t (ρ a) (ρ x) R k d)
    (fun _ => fun _ _ _ _ _ _ _ _ d => d)
    (fun _ => fun _ _ _ _ _ _ _ _ d => d)
    (fun x => fun R _ _ _ σ ρ k _ d => nilCheckF σ (ρ x) R k d)
    (fun op _ x y _ => fun R _ _ _ σ ρ k _ d => binF σ op (ρ x) (ρ y) R k d)
    (fun op _ x => fun R _ _ _ σ ρ k _ d => notF σ op (ρ x) R k d)
    (fun s t x => fun R P _ _ σ ρ k _ d => convF P σ s t (ρ x) R k d)
    (fun _ _ => fun _ _ _ _ _ _ _ _ d => d)
    (fun t x => fun R P _ _ σ ρ k _ d => makeIfaceF P σ t (ρ x) R k d)
    (fun _ _ _ => fun _ _ _ _ _ _ _ _ d => d)
    (fun _ _ => fun _ _ _ _ _ _ _ _ d => d)
    (fun _ _ => fun _ _ _ _ _ _ _ _ d => d)
    (fun _ _ _ => fun _ _ _ _ _ _ _ _ d => d)
    (fun t x lo hi mx => fun R P _ _ σ ρ k _ d => sliceF P σ t (ρ x) (lo.map ρ) (hi.map ρ) (mx.map ρ) R k d)
    (fun s x f => fun R P _ _ σ ρ k _ d => fieldAddrF P σ s (ρ x) f R k d)
    (fun s x f => fun R P _ _ σ ρ k _ d => fieldF P σ s (ρ x) f R k d)
    (fun t x ix => fun R P _ _ σ ρ k _ d => indexAddrF P σ t (ρ x) (ρ ix) R k d)
    (fun t x ix => fun R P _ _ σ ρ k _ d => indexF P σ t (ρ x) (ρ ix) R k d)
    (fun _ _ _ _ => fun _ _ _ _ _ _ _ _ d => d)
    (fun _ _ _ _ => fun _ _ _ _ _ _ _ _ d => d)
    (fun _ _ _ => fun _ _ _ _ _ _ _ _ d => d)
    (fun _ _ _ _ => fun _ _ _ _ _ _ _ _ d => d)
    (fun _ _ => fun _ _ _ _ _ _ _ _ d => d)
    (fun _ _ => fun _ _ _ _ _ _ _ _ d => d)
    (fun _ => fun _ _ _ _ _ _ _ _ d => d)
    (fun x _ asserted ok => fun R P _ _ σ ρ k _ d => typeAssertF P σ (ρ x) asserted ok R k d)
    (fun t j => fun R _ _ _ σ ρ k _ d => extractF σ (ρ t) j R k d)
    (fun c => fun R P E fn σ ρ k ke d => callF c R c P E fn σ ρ k ke d)
    (fun _ => fun _ _ _ _ _ _ _ _ d => d)
    (fun _ => fun _ _ _ _ _ _ _ _ d => d)
    (fun _ => fun _ _ _ _ _ _ _ _ d => d)
    (fun _ _ => fun _ _ _ _ _ _ _ _ d => d)
    (fun _ _ _ => fun _ _ _ _ _ _ _ _ d => d)
    (fun _ _ => fun _ _ _ _ _ _ _ _ d => d)
    op
theorem opF0_spec (P : Program) (E : Env) (fn : FuncId) (σ : ASt) (ts : List AVal) (ρ : Operand → AVal) (h : ρ = evOperand E ts) (o : Oper) (R : Type) (k : AVal → ASt → R) (ke : FuncId → List AVal → ASt → R) (d : R) :
    Fast3 (evOp0 P E fn σ ts o) k ke d (opF o.op R P E fn σ ρ k ke d) := by
  subst h
  obtain ⟨dst, op, type, pos, after, guard⟩ := o
  cases op <;> simp only [opF] <;> (first | exact .inl rfl | skip)
  case move x => exact .inr (.inl ⟨_, _, rfl, rfl⟩)
  case assign x => exact .inr (.inl ⟨_, _, rfl, rfl⟩)
  case pick c a b =>
    rcases onTF_spec (evOperand E ts c) R (fun t => @Bool.rec (fun _ => R) (k (evOperand E ts b) σ) (k (evOperand E ts a) σ) t) d with ⟨s, hs, h⟩ | h
    · refine .inr (.inl ⟨if s then evOperand E ts a else evOperand E ts b, σ, ?_, ?_⟩)
      · simp only [evOp0, hs]; rfl
      · rw [h]; cases s <;> rfl
    · exact .inl h
  case alloc t => exact (allocF_spec P σ t R k d).three
  case box t x => exact (boxF_spec σ t _ R k d).three
  case build t ps => exact (buildF_spec P σ t ps.toList (evOperand E ts) R k d).three
  case buildSlice t len ps => exact (buildSliceF_spec P E fn σ t len ps.toList (evOperand E ts) R k d).three
  case load t a => exact (loadF_spec P σ t _ R k d).three
  case store t a x => exact (storeF_spec P σ t _ _ R k d).three
  case nilCheck x => exact (nilCheckF_spec P σ _ R k d).three
  case binOp op t x y yt => exact (binF_spec P σ op t _ _ _ R k d).three
  case unOp op t x => exact (notF_spec P σ (evOperand E ts) op t x _ rfl R k d).three
  case convert s t x => exact (convF_spec P E fn σ (evOperand E ts) s t x _ rfl R k d).three
  case makeInterface t x => exact (makeIfaceF_spec P σ t _ R k d).three
  case slice t x lo hi mx => exact (sliceF_spec P σ t _ _ _ _ R k d).three
  case fieldAddr s x f => exact (fieldAddrF_spec P σ s _ f R k d).three
  case field s x f => exact (fieldF_spec P σ s _ f R k d).three
  case indexAddr t x ix => exact (indexAddrF_spec P σ t _ _ R k d).three
  case index t x ix => exact (indexF_spec P σ t _ _ R k d).three
  case typeAssert x t asserted ok => exact (typeAssertF_spec P σ _ asserted ok R k d).three
  case extract t j => exact (extractF_spec σ _ j R k d).three
  case call c => exact callF_spec P E fn σ (evOperand E ts) (fun _ => rfl) c _ R k ke d
theorem opF_spec (P : Program) (E : Env) (fn : FuncId) (σ : ASt) (ts : List AVal) (ρ : Operand → AVal) (h : ρ = evOperand E ts) (o : Oper) (R : Type) (k : AVal → ASt → R) (ke : FuncId → List AVal → ASt → R) (d : R) :
    Fast3 (evOp P E fn σ ts o) k ke d (opF o.op R P E fn σ ρ k ke d) := by
  rcases opF0_spec P E fn σ ts ρ h o R k ke d with q | ⟨x, σ', h1, q⟩ | ⟨g, as, σ', h1, q⟩
  · exact .inl q
  · exact .inr (.inl ⟨x, σ', by unfold evOp; rw [h1], q⟩)
  · exact .inr (.inr ⟨g, as, σ', by unfold evOp; rw [h1], q⟩)

/-- An operation, its operands looked up by ρ. -/
def evOpR0 (P : Program) (E : Env) (fn : FuncId) (σ : ASt) (ρ : Operand → AVal) (o : Oper) : ORes :=
  let gen := evGen P σ ρ o
  match o.op with
  | .move x | .assign x => val1 σ (ρ x)
  | .pick c a b => match ρ c with | .v (.bool t) => val1 σ (if t then ρ a else ρ b) | _ => none
  | .alloc t => evAlloc P σ t
  | .box t x => evBox σ t (ρ x)
  | .build t ps => evBuild P σ t (ps.toList.map fun (i, x) => (i, ρ x))
  | .buildSlice t len ps => evBuildSlice P E fn σ t len (ps.toList.map fun (i, x) => (i, ρ x))
  | .load t a => evLoad P σ t (ρ a)
  | .store t a x => evStore P σ t (ρ a) (ρ x)
  | .nilCheck x => evNilCheck P σ (ρ x)
  | .binOp op t x y _ => evBin P σ op t (ρ x) (ρ y) gen
  | .convert s d x => evConvert P E fn σ s d (ρ x) gen
  | .makeInterface t x => evMakeIface P σ t (ρ x)
  | .makeFunc fn first captured => match fn with
    | .yield _ => none
    | fn => val1 σ (.func fn (first.toList.map ρ) (captured.toList.map ρ))
  | .makeMap t r => if (r.map ρ).all (fun x => match x with | .v (.int _ _) => true | _ => false) then
      (match P.underlying t with | some (.map _ _) => some (.val (.map σ.next), σ.push (.map [] 0)) | _ => none) else none
  | .makeSlice t l c => evMakeSlice P σ t (ρ l) (ρ c)
  | .slice t x lo hi mx => evSlice P σ t (ρ x) (lo.map ρ) (hi.map ρ) (mx.map ρ)
  | .fieldAddr s x f => evFieldAddr P σ s (ρ x) f
  | .field s x f => evField P σ s (ρ x) f
  | .indexAddr t x ix => evIndexAddr P σ t (ρ x) (ρ ix)
  | .index t x ix => evIndex P σ t (ρ x) (ρ ix)
  | .lookup t x ix ok => evLookup P σ t (ρ x) (ρ ix) ok
  | .mapUpdate t m k x | .insert t m k x => evMapUpdate P σ t (ρ m) (ρ k) (ρ x)
  | .range t x => evRange P σ t (ρ x)
  | .next it s => evNext σ (ρ it) s
  | .typeAssert x _ asserted ok => evTypeAssert P σ (ρ x) asserted ok
  | .extract t j => evExtract σ (ρ t) j
  | .call c => evCall P E fn σ ρ c gen
  | .defer c => evDefer σ ρ c
  | .panic x => match ρ x with | .iface t y => some (.panic (.iface t y), σ) | _ => none
  | .unOp _ _ _ => gen ()
  | _ => none
noncomputable def evOpR (P : Program) (E : Env) (fn : FuncId) (σ : ASt) (ρ : Operand → AVal) (o : Oper) : ORes :=
  match evOpR0 P E fn σ ρ o with
  | some r => some r
  | none => (E.rule P o (mapK ρ o.op.operands.toList)).bind (val1 σ)
theorem evOpR_eq (P : Program) (E : Env) (fn : FuncId) (σ : ASt) (ts : List AVal) (o : Oper) : evOpR P E fn σ (evOperand E ts) o = evOp P E fn σ ts o := by
  unfold evOpR
  rw [mapK_eq]
  rfl
end Go.Ev
