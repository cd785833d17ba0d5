/- The evaluator's values and state: definitions alone; no condition. -/
import Derived.Orders
import Derived.Defers
namespace Go.Ev

/-- How a slice may grow: 'no': nothing is known of its spare places; 'full': it has none; 'live i': object i owns them. -/
inductive Tok where
  | no
  | full
  | live (id : Nat)
  deriving DecidableEq

/-- An abstract value. 'list': a slice of n elements of k cells each, over cells that are never written again; 'arr': a slice into an object;
'ref': a pointer into an object; 'iref': a pointer to cells that are never written again. -/
inductive AVal where
  | junk
  | v (x : Value)
  | agg (cs : List AVal)
  | tuple (vs : List AVal)
  | list (k n : Nat) (cs : List AVal) (tok : Tok)
  | arr (k id off n : Nat) (cap : Option Nat)
  | ref (id off : Nat)
  | iref (cs : List AVal)
  | func (fn : Fn) (first captured : List AVal)
  | yield (id : Nat)
  | iface (t : TypeId) (x : AVal)
  | map (id : Nat)
  | sym (i : Nat)
  deriving Inhabited

/-- An abstract object. 'cells e cs': the cells of a block from a place on (there may be further ones). -/
inductive AObj where
  | cells (elem : TypeId) (cs : List AVal)
  | strIter (s : ByteArray) (pos : Nat)
  | map (es : List (Value × AVal × Nat)) (clock : Nat)
  | loop (state : LoopState) (pending : Option Code) (fn : FuncId) (tmps : List AVal) (params : List Tmp) (assign body : Code) (defers : Nat)
  | marks (taken : Bool)
  | dead

structure ASt where
  next : Nat
  objs : List (List (List AObj))

def AObj.alive : AObj → Option AObj
  | .dead => none
  | o => some o
/-- A row with a thing at a place, whatever was there. -/
def padSet {α : Type} (d : α) : List α → Nat → α → List α
  | [], 0, x => [x]
  | [], n + 1, x => d :: padSet d [] n x
  | _ :: r, 0, x => x :: r
  | y :: r, n + 1, x => y :: padSet d r n x
def ASt.at (m : List (List (List AObj))) (id : Nat) : AObj := ((m.getD (id / 256) []).getD (id / 16 % 16) []).getD (id % 16) .dead
def ASt.put (m : List (List (List AObj))) (id : Nat) (o : AObj) : List (List (List AObj)) :=
  padSet [] m (id / 256) (padSet [] (m.getD (id / 256) []) (id / 16 % 16) (padSet .dead ((m.getD (id / 256) []).getD (id / 16 % 16) []) (id % 16) o))
def ASt.get (σ : ASt) (id : Nat) : Option AObj := (ASt.at σ.objs id).alive
def ASt.set (σ : ASt) (id : Nat) (o : AObj) : ASt := ⟨σ.next, ASt.put σ.objs id o⟩
def ASt.kill (σ : ASt) (id : Nat) : ASt := ⟨σ.next, ASt.put σ.objs id .dead⟩
def ASt.push (σ : ASt) (o : AObj) : ASt := ⟨σ.next + 1, ASt.put σ.objs σ.next o⟩

/-- The value of one cell? -/
def AVal.one : AVal → Bool
  | .junk | .agg _ | .tuple _ => false
  | .v (.agg _) | .v (.tuple _) => false
  | _ => true

/-- The cells that a value fills. -/
def AVal.cells? : AVal → Option (List AVal)
  | .agg cs => if cs.all AVal.one then some cs else none
  | x => if x.one then some [x] else none

/-- The value itself, where nothing in it leads to memory. -/
def scal? : AVal → Option Value
  | .v x => some x
  | _ => none
def scals? : List AVal → Option (List Value)
  | [] => some []
  | .v x :: r => (scals? r).map (x :: ·)
  | _ :: _ => none
def flat? : AVal → Option Value
  | .v x => some x
  | .agg cs => (scals? cs).map fun l => .agg l.toArray
  | .tuple cs => (scals? cs).map fun l => .tuple l.toArray
  | .iface t (.v x) => some (.iface t x)
  | .iface t (.agg cs) => (scals? cs).map fun l => .iface t (.agg l.toArray)
  | .func (.func g) [] [] => some (.func (.func g) #[] #[])
  | _ => none

/-- A concrete value that leads nowhere, as an abstract one. -/
def ofValue : Value → AVal
  | .agg cs => .agg (cs.toList.map .v)
  | .tuple cs => .tuple (cs.toList.map .v)
  | .iface t (.agg cs) => .iface t (.agg (cs.toList.map .v))
  | .iface t x => .iface t (.v x)
  | .func (.func f) first captured => if first.size = 0 ∧ captured.size = 0 then .func (.func f) [] [] else .v (.func (.func f) first captured)
  | x => .v x

/-- The code of an operation that asks nothing of memory. -/
def pure1 {α : Type} (p : Program) : Sem α → Option (Except Halt α)
  | .pure a => some (.ok a)
  | .program k => pure1 p (k p)
  | .mark _ k => pure1 p k
  | .halt h => some (.error h)
  | _ => none

inductive AEntry where
  | mk (v : AVal) (recovered : Bool)

inductive AMode where
  | returning
  | panicking (chain : List AEntry)

structure ADefer where
  fn : Fn
  captured : List AVal
  args : List AVal

inductive ADef where
  | call (d : ADefer)
  | mark (id : Nat)

inductive ANext where
  | val (x : AVal)
  | enter (f : FuncId) (args : List AVal)
  | round (l : Nat) (args : List AVal)
  | defer (d : ADefer)
  | panic (x : AVal)
  | recover

/-- The value of one that leads nowhere, or that has a name. -/
def symv? (sym : Nat → Value) : AVal → Option Value
  | .v x => some x
  | .sym i => some (sym i)
  | _ => none

/-- What the evaluator is told beside the program: what package-level variables hold; hints; values that have names, and what operations say of them. -/
structure Env where
  glob : Nat → Option (List AVal) := fun _ => none
  /-- functions whose slices made by append or a literal stay objects that may be written -/
  keeps : FuncId → Bool := fun _ => false
  /-- functions whose result, a slice of an object, is given away: never written again -/
  give : FuncId → Bool := fun _ => false
  /-- are temporaries that are written anew forgotten at a loop's head? -/
  forgets : Bool := true
  sym : Nat → Value := fun _ => .bool false
  rule : Program → Oper → List AVal → Option AVal := fun _ _ _ => none
  right : ∀ (P : Program) (o : Oper) (ρ : Operand → AVal) (r : AVal), rule P o (o.op.operands.toList.map ρ) = some r → (∀ cs b, o.op ≠ .select cs b) ∧ (∀ c, o.op ≠ .defer c) ∧
    (∀ x ∈ o.op.operands.toList, (symv? sym (ρ x)).isSome = true) ∧ ∃ v, (∀ w : World, (execOp (fun x => (symv? sym (ρ x)).getD undef) o).run P w = .ok (.value v) w) ∧ symv? sym r = some v := by
      intro P o ρ r h; simp at h
  ones : ∀ i, (AVal.v (sym i)).one = true := by intro i; rfl

abbrev ORes := Option (ANext × ASt)

def evOperand (E : Env) (ts : List AVal) : Operand → AVal
  | .tmp t => ts.getD t .junk
  | .const v => ofValue v
  | .global g => match E.glob g with | some cs => .iref cs | none => .junk
  | .func f => .func (.func f) [] []

section ops
variable (P : Program) (E : Env) (fn : FuncId)

/-- The cells of a variable at a place in a row of cells, as a value. -/
def takeVar (t : TypeId) (cs : List AVal) : Option AVal :=
  match P.underlying t, P.info? t with
  | some (.struct _), some i | some (.array _ _), some i => if i.size ≤ cs.length then some (.agg (cs.take i.size)) else none
  | some _, some _ => cs.head?
  | _, _ => none

def putAt (cs : List AVal) (off : Nat) (new : List AVal) : Option (List AVal) :=
  if off + new.length ≤ cs.length then some (cs.take off ++ (new ++ cs.drop (off + new.length))) else none

def val1 (σ : ASt) (x : AVal) : ORes := some (.val x, σ)

def evLoad (σ : ASt) (t : TypeId) : AVal → ORes
  | .iref cs => (takeVar P t cs).bind (val1 σ)
  | .ref id off => match σ.get id with
    | some (.cells _ cs) => (takeVar P t (cs.drop off)).bind (val1 σ)
    | _ => none
  | _ => none

def evStore (σ : ASt) (t : TypeId) (p x : AVal) : ORes :=
  match p, x.cells?, P.info? t with
  | .ref id off, some new, some i =>
    if new.length = i.size then
      match σ.get id with
      | some (.cells e cs) => (putAt cs off new).bind fun cs' => some (.val .junk, σ.set id (.cells e cs'))
      | _ => none
    else none
  | _, _, _ => none

def zeroCells? (t : TypeId) : Option (List AVal) :=
  (P.info? t).bind fun i => i.zero.bind fun z => (ofValue z).cells?

def evAlloc (σ : ASt) (t : TypeId) : ORes :=
  (zeroCells? P t).bind fun cs => some (.val (.ref σ.next 0), σ.push (.cells t cs))

def evBox (σ : ASt) (t : TypeId) (x : AVal) : ORes :=
  x.cells?.bind fun cs => some (.val (.ref σ.next 0), σ.push (.cells t cs))

def fillA (place : Nat → Option (Nat × Nat)) (cs : List AVal) : List (Nat × AVal) → Option (List AVal)
  | [] => some cs
  | (i, x) :: r =>
    match place i, x.cells? with
    | some (off, size), some new => if new.length = size then (putAt cs off new).bind fun cs' => fillA place cs' r else none
    | _, _ => none

def fieldPlaces : List Field → Option (List (Nat × Nat))
  | [] => some []
  | f :: r => (P.info? f.type).bind fun i => (fieldPlaces r).map ((f.offset, i.size) :: ·)

def evBuild (σ : ASt) (t : TypeId) (parts : List (Nat × AVal)) : ORes :=
  (zeroCells? P t).bind fun zs =>
  match P.underlying t with
  | some (.struct fs) => (fieldPlaces P fs.toList).bind fun pl => (fillA (pl[·]?) zs parts).bind fun cs => val1 σ (.agg cs)
  | some (.array _ e) => (P.info? e).bind fun i => (fillA (fun j => some (j * i.size, i.size)) zs parts).bind fun cs => val1 σ (.agg cs)
  | _ => none

def rep (zs : List AVal) : Nat → List AVal
  | 0 => []
  | n + 1 => zs ++ rep zs n

def evBuildSlice (σ : ASt) (t : TypeId) (len : Nat) (parts : List (Nat × AVal)) : ORes :=
  match P.underlying t with
  | some (.slice e) =>
    match P.info? e, zeroCells? P e with
    | some i, some zs =>
      if 0 < i.size ∧ zs.length = i.size ∧ len * i.size ≤ 2 ^ 24 then
        (fillA (fun j => some (j * i.size, i.size)) (rep zs len) parts).bind fun cs =>
          if E.keeps fn then some (.val (.arr i.size σ.next 0 len (some len)), σ.push (.cells e cs))
          else val1 σ (.list i.size len cs .full)
      else none
    | _, _ => none
  | _ => none

/-- make([]T, l, c) -/
def evMakeSlice (σ : ASt) (t : TypeId) (l c : AVal) : ORes :=
  match P.underlying t, l, c with
  | some (.slice e), .v (.int _ l), .v (.int _ c) =>
    match P.info? e, zeroCells? P e with
    | some i, some zs =>
      if 0 < i.size ∧ zs.length = i.size ∧ 0 ≤ l ∧ l ≤ c ∧ i.bytes * c ≤ 2 ^ 47 ∧ c ≤ 2 ^ 47 then
        some (.val (.arr i.size σ.next 0 l.toNat (some c.toNat)), σ.push (.cells e (rep zs c.toNat)))
      else none
    | _, _ => none
  | _, _, _ => none

def evNilCheck (σ : ASt) : AVal → ORes
  | .v (.pointer none) | .v .nilIface | .v .nilFunc => some (.panic (.iface P.rt.errorString (.v (strVal "invalid memory address or nil pointer dereference"))), σ)
  | .ref i o => val1 σ (.ref i o)
  | .iref cs => val1 σ (.iref cs)
  | .func (.func f) a b => val1 σ (.func (.func f) a b)
  | .iface t x => val1 σ (.iface t x)
  | _ => none

def evFieldAddr (σ : ASt) (s : TypeId) (p : AVal) (j : Nat) : ORes :=
  match P.underlying s with
  | some (.struct fs) => (fs[j]?).bind fun f => (P.info? f.type).bind fun i =>
    if i.size = 0 then none else
    match p with
    | .ref id off => val1 σ (.ref id (off + f.offset))
    | .iref cs => val1 σ (.iref (cs.drop f.offset))
    | _ => none
  | _ => none

def evField (σ : ASt) (s : TypeId) (x : AVal) (j : Nat) : ORes :=
  match P.underlying s, x with
  | some (.struct fs), .agg cs => (fs[j]?).bind fun f => (takeVar P f.type (cs.drop f.offset)).bind (val1 σ)
  | _, _ => none

/-- An index out of range. -/
def bounds (σ : ASt) (k : IntKind) (x : Int) (len : Nat) : ORes :=
  if k = .i64 ∧ ¬ (0 ≤ x ∧ x ≤ 31) then some (.panic (.iface P.rt.boundsError (.agg [.v (.int .i64 (IntKind.i64.wrap x)), .v (.int .i64 len), .v (.bool true), .v (.int .u8 0)])), σ)
  else if k = .i64 then some (.panic .junk, σ)
  else none

def evIndexAddr (σ : ASt) (t : TypeId) (x ix : AVal) : ORes :=
  match ix with
  | .v (.int k i) =>
    match P.underlying t, x with
    | some (.slice e), .list k' n cs _ =>
      if (P.info? e).map (·.size) = some k' then
        if 0 ≤ i ∧ i < n then val1 σ (.iref (cs.drop (i.toNat * k'))) else bounds P σ k i n
      else none
    | some (.slice e), .arr k' id off n _ =>
      if (P.info? e).map (·.size) = some k' then
        if 0 ≤ i ∧ i < n then val1 σ (.ref id (off + i.toNat * k')) else bounds P σ k i n
      else none
    | some (.slice _), .v (.slice none n _) => if n = 0 then bounds P σ k i 0 else none
    | some (.array n e), .ref id off =>
      (P.info? e).bind fun inf => if 1 < n ∧ 0 ≤ i ∧ i < n then val1 σ (.ref id (off + i.toNat * inf.size)) else none
    | some (.array n e), .iref cs =>
      (P.info? e).bind fun inf => if 1 < n ∧ 0 ≤ i ∧ i < n then val1 σ (.iref (cs.drop (i.toNat * inf.size))) else none
    | _, _ => none
  | _ => none

def byteAt : List UInt8 → Nat → Option UInt8
  | [], _ => none
  | b :: _, 0 => some b
  | _ :: r, n + 1 => byteAt r n

def evIndex (σ : ASt) (t : TypeId) (x ix : AVal) : ORes :=
  match ix, x, P.underlying t with
  | .v (.int k i), .v (.string s), some .string =>
    if 0 ≤ i then
      match s.data.toList[i.toNat]? with
      | some b => val1 σ (.v (.int .u8 b.toNat))
      | none => bounds P σ k i s.size
    else bounds P σ k i s.size
  | .v (.int _ i), .agg cs, some (.array n e) =>
    (P.info? e).bind fun inf => if 0 ≤ i ∧ i < n then (takeVar P e (cs.drop (i.toNat * inf.size))).bind (val1 σ) else none
  | _, _, _ => none

/-- A bound of a slice expression: none: it is not within. -/
def bound (y : Nat) : Option AVal → (dflt : Nat) → Option Nat
  | none, d => some d
  | some (.v (.int _ i)), _ => if 0 ≤ i ∧ i ≤ y then some i.toNat else none
  | _, _ => none

def sub (s : ByteArray) (l h : Nat) : ByteArray := ⟨⟨(s.data.toList.drop l).take (h - l)⟩⟩

def cutList (k n : Nat) (cs : List AVal) (tok : Tok) (l h : Nat) : AVal :=
  .list k (h - l) ((cs.drop (l * k)).take ((h - l) * k)) (if h = n then tok else .no)

/-- x[lo:hi:mx]. What is out of bounds is not evaluated. -/
def evSlice (σ : ASt) (t : TypeId) (x : AVal) (lo hi mx : Option AVal) : ORes :=
  match P.underlying t, x with
  | some .string, .v (.string s) =>
    if mx.isSome then none else
    match bound s.size hi s.size with
    | some h => match bound h lo 0 with
      | some l => val1 σ (.v (.string (sub s l h)))
      | none => none
    | none => none
  | some (.slice e), .list k n cs tok =>
    if (P.info? e).map (·.size) = some k ∧ 0 < k then
      match bound n hi n with
      | some h => match bound h lo 0 with
        | some l =>
          match mx with
          | none => val1 σ (cutList k n cs tok l h)
          | some (.v (.int _ m)) => if hi.isSome ∧ h ≤ m ∧ m ≤ n then (if m = h then val1 σ (cutList k n cs .full l h) else val1 σ (cutList k n cs .no l h)) else none
          | _ => none
        | none => none
      | none => none
    else none
  | some (.slice e), .arr k id off n cap =>
    if (P.info? e).map (·.size) = some k ∧ 0 < k ∧ mx.isNone then
      match bound (cap.getD n) hi n with
      | some h => match bound h lo 0 with
        | some l => val1 σ (.arr k id (off + l * k) (h - l) (cap.map (· - l)))
        | none => none
      | none => none
    else none
  | some (.slice e), .v (.slice none n c) =>
    if n = 0 ∧ c = 0 ∧ (P.info? e).isSome ∧ (mx.isNone ∨ hi.isSome ∧ bound 0 mx 1 = some 0) then
      match bound 0 hi 0, bound 0 lo 0 with
      | some _, some _ => val1 σ (.v (.slice none 0 0))
      | _, _ => none
    else none
  | some (.array n e), .ref id off =>
    match P.info? e with
    | some i =>
      if 0 < i.size ∧ mx.isNone then
        match bound n hi n with
        | some h => match bound h lo 0 with
          | some l => match σ.get id with
            | some (.cells _ cs) => if off + n * i.size ≤ cs.length then val1 σ (.arr i.size id (off + l * i.size) (h - l) (some (n - l))) else none
            | _ => none
          | none => none
        | none => none
      else none
    | none => none
  | _, _ => none

def evMakeIface (σ : ASt) (t : TypeId) (x : AVal) : ORes :=
  match P.underlying t with
  | some (.interface _) | none => none
  | some _ => val1 σ (.iface t x)

def evTypeAssert (σ : ASt) (x : AVal) (asserted : TypeId) (ok : Bool) : ORes :=
  let fails : ORes := if ok then (P.info? asserted).bind fun i => i.zero.bind fun z => val1 σ (.tuple [ofValue z, .v (.bool false)]) else none
  let holds (y : AVal) : ORes := val1 σ (if ok then .tuple [y, .v (.bool true)] else y)
  match P.underlying asserted, x with
  | some (.interface _), .v .nilIface => fails
  | some (.interface want), .iface t y =>
    (P.info? t).bind fun i => match Instr.missingMethod want i.methods with
      | none => holds (.iface t y)
      | some _ => fails
  | some _, .v .nilIface => fails
  | some _, .iface t y => if t = asserted then holds y else fails
  | _, _ => none

def evExtract (σ : ASt) (x : AVal) (j : Nat) : ORes :=
  match x with
  | .tuple vs => (vs[j]?).bind (val1 σ)
  | _ => none

/-- Two texts by an operator. -/
def evStr (op : BinOp) (a b : ByteArray) : Option Value :=
  let x := a.data.toList
  let y := b.data.toList
  match op with
  | .add => if x.length + y.length ≤ 2 ^ 62 then some (.string ⟨⟨x ++ y⟩⟩) else none
  | .eql => some (.bool (x == y))
  | .neq => some (.bool (!(x == y)))
  | .lss => some (.bool (Op.bytesLess x y))
  | .leq => some (.bool (Op.bytesLess x y || x == y))
  | .gtr => some (.bool (!(Op.bytesLess x y || x == y)))
  | .geq => some (.bool (!(Op.bytesLess x y)))
  | _ => none

/-- Is a value one that is no nil? -/
def notNil : AVal → Bool
  | .list .. | .arr .. | .ref .. | .iref .. | .func .. | .yield _ | .iface .. | .map _ => true
  | _ => false
def isNil : AVal → Bool
  | .v (.pointer none) | .v (.slice none _ _) | .v (.map none) | .v .nilFunc | .v .nilIface => true
  | _ => false
/-- May a type be compared with nil so? -/
def nilType : TypeDesc → AVal → Bool
  | .pointer _, .ref .. | .pointer _, .iref _ | .slice _, .list .. | .slice _, .arr .. | .func .., .func .. | .func .., .yield _ | .interface _, .iface .. | .map .., .map _ => true
  | _, _ => false
def nilFits : TypeDesc → AVal → Bool
  | .pointer _, .v (.pointer none) | .slice _, .v (.slice none _ _) | .func .., .v .nilFunc | .interface _, .v .nilIface | .map .., .v (.map none) => true
  | _, _ => false

def ofNext (σ : ASt) : Option (Except Halt Next) → ORes
  | some (.ok (.value x)) => val1 σ (ofValue x)
  | some (.error (.panic x)) => some (.panic (ofValue x), σ)
  | _ => none

def evBin (σ : ASt) (op : BinOp) (t : TypeId) (x y : AVal) (gen : Unit → ORes) : ORes :=
  match x, y with
  | .v (.string a), .v (.string b) => (evStr op a b).bind fun r => val1 σ (.v r)
  | .v (.int k a), .v (.int k' b) =>
    match pure1 P (Go.binOp op t (.int k a) (.int k' b)) with
    | some (.ok r) => val1 σ (ofValue r)
    | some (.error (.panic r)) => some (.panic (ofValue r), σ)
    | _ => none
  | .ref i o, .ref j o' =>
    match P.underlying t, op with
    | some (.pointer e), .eql => (P.info? e).bind fun inf => if inf.size ≠ 0 ∧ (i = j) then val1 σ (.v (.bool (o == o'))) else none
    | some (.pointer e), .neq => (P.info? e).bind fun inf => if inf.size ≠ 0 ∧ (i = j) then val1 σ (.v (.bool (!(o == o')))) else none
    | _, _ => none
  | _, _ =>
    if notNil x && isNil y then
      match P.underlying t with
      | some d => if nilType d x && nilFits d y then (match op with | .eql => val1 σ (.v (.bool false)) | .neq => val1 σ (.v (.bool true)) | _ => none) else none
      | none => none
    else if isNil x && notNil y then
      match P.underlying t with
      | some d => if nilType d y && nilFits d x then (match op with | .eql => val1 σ (.v (.bool false)) | .neq => val1 σ (.v (.bool true)) | _ => none) else none
      | none => none
    else gen ()

/-- What memory gives of a text or of a slice that is appended. -/
def srcCells (σ : ASt) (k : Nat) : AVal → Option (Nat × List AVal)
  | .list k' n cs _ => if k' = k ∧ cs.length = n * k then some (n, cs) else none
  | .arr k' id off n _ => if k' = k then match σ.get id with
      | some (.cells _ cs) => if off + n * k ≤ cs.length then some (n, (cs.drop off).take (n * k)) else none
      | _ => none else none
  | .v (.slice none n _) => if n = 0 then some (0, []) else none
  | .v (.string s) => if k = 1 then some (s.size, s.data.toList.map fun b => .v (.int .u8 b.toNat)) else none
  | _ => none

def most : Nat := 2 ^ 40

def isIntType : TypeDesc → Bool
  | .int _ => true
  | _ => false

/-- append(s, x...) -/
def evAppend (σ : ASt) (argTypes : Array TypeId) (s x : AVal) : ORes :=
  match argTypes[0]?, argTypes[1]? with
  | some st, some xt =>
    match P.underlying st, P.underlying xt with
    | some (.slice e), some xd =>
      if isIntType xd then none else
      match P.info? e with
      | some i =>
        if 0 < i.size ∧ i.zero.isSome ∧ (i.zero.map (·.cells.size)) = some i.size then
          match srcCells σ i.size x with
          | some (m, new) =>
            let k := i.size
            match s with
            | .v (.slice none n0 c0) =>
              if n0 = 0 ∧ c0 = 0 ∧ m ≤ most then
                if m = 0 then val1 σ (.v (.slice none 0 0))
                else if i.bytes * m * 2 ≤ 2 ^ 48 then
                  if E.keeps fn then some (.val (.arr k σ.next 0 m none), σ.push (.cells e new))
                  else some (.val (.list k m new (.live σ.next)), σ.push (.cells e []))
                else none
              else none
            | .list k' n cs tok =>
              if k' = k ∧ cs.length = n * k ∧ n + m ≤ most ∧ i.bytes * (n + m) * 2 ≤ 2 ^ 48 then
                if m = 0 then val1 σ (.list k n cs tok)
                else match tok with
                  | .no => none
                  | .full =>
                    if E.keeps fn then some (.val (.arr k σ.next 0 (n + m) none), σ.push (.cells e (cs ++ new)))
                    else some (.val (.list k (n + m) (cs ++ new) (.live σ.next)), σ.push (.cells e []))
                  | .live id =>
                    match σ.get id with
                    | some (.cells _ []) =>
                      if E.keeps fn then none
                      else some (.val (.list k (n + m) (cs ++ new) (.live σ.next)), (σ.kill id).push (.cells e []))
                    | _ => none
              else none
            | .arr k' id off n cap =>
              if k' = k ∧ n + m ≤ most ∧ i.bytes * (n + m) * 2 ≤ 2 ^ 48 then
                match σ.get id with
                | some (.cells e' cs) =>
                  if off + n * k ≤ cs.length then
                    if m = 0 then val1 σ (.arr k id off n cap)
                    else match cap with
                      | some c =>
                        if n + m ≤ c then
                          (putAt cs (off + n * k) new).bind fun cs' => some (.val (.arr k id off (n + m) cap), σ.set id (.cells e' cs'))
                        else if E.keeps fn then some (.val (.arr k σ.next 0 (n + m) none), σ.push (.cells e ((cs.drop off).take (n * k) ++ new)))
                        else some (.val (.list k (n + m) ((cs.drop off).take (n * k) ++ new) (.live σ.next)), σ.push (.cells e []))
                      | none =>
                        if off + (n + m) * k ≤ cs.length then
                          (putAt cs (off + n * k) new).bind fun cs' => some (.val (.arr k id off (n + m) none), σ.set id (.cells e' cs'))
                        else if E.keeps fn ∧ off = 0 then some (.val (.arr k σ.next 0 (n + m) none), (σ.kill id).push (.cells e (cs.take (n * k) ++ new)))
                        else none
                  else none
                | _ => none
              else none
            | _ => none
          | none => none
        else none
      | none => none
    | _, _ => none
  | _, _ => none

def evLen (σ : ASt) (t : TypeId) : AVal → ORes
  | .v (.string s) => if P.underlying t matches some .string then val1 σ (.v (.int .i64 s.data.toList.length)) else none
  | .list _ n _ _ => if P.underlying t matches some (.slice _) then val1 σ (.v (.int .i64 n)) else none
  | .arr _ _ _ n _ => if P.underlying t matches some (.slice _) then val1 σ (.v (.int .i64 n)) else none
  | .v (.slice none n _c) => if P.underlying t matches some (.slice _) then val1 σ (.v (.int .i64 n)) else none
  | .map id => match P.underlying t, σ.get id with
    | some (.map _ _), some (.map es _) => val1 σ (.v (.int .i64 es.length))
    | _, _ => none
  | _ => none

/-- copy(dst, src): into an object. -/
def evCopy (σ : ASt) (argTypes : Array TypeId) (d x : AVal) : ORes :=
  match argTypes[0]? with
  | some dt => match P.underlying dt with
    | some (.slice e) => match P.info? e with
      | some i =>
        if 0 < i.size then
          match d, srcCells σ i.size x with
          | .arr k id off n _, some (m, new) =>
            if k = i.size then
              match σ.get id with
              | some (.cells e' cs) =>
                (putAt cs off (new.take (min m n * k))).bind fun cs' => some (.val (.v (.int .i64 (min m n : Nat))), σ.set id (.cells e' cs'))
              | _ => none
            else none
          | .v (.slice none n _), some (_, _) => if n = 0 then val1 σ (.v (.int .i64 0)) else none
          | _, _ => none
        else none
      | none => none
    | _ => none
  | none => none

def bytesOf : List AVal → Option (List UInt8)
  | [] => some []
  | .v (.int .u8 n) :: r => (bytesOf r).map (UInt8.ofNat n.toNat :: ·)
  | _ :: _ => none

def evConvert (σ : ASt) (src dst : TypeId) (x : AVal) (gen : Unit → ORes) : ORes :=
  match P.underlying src, P.underlying dst, x with
  | some _, some (.slice e), .v (.string s) =>
    match P.underlying e, P.info? e with
    | some (.int .u8), some i =>
      if i.size = 1 ∧ s.data.toList.length ≤ most then
        let cs : List AVal := s.data.toList.map fun b => .v (.int .u8 b.toNat)
        if E.keeps fn then some (.val (.arr 1 σ.next 0 s.data.toList.length none), σ.push (.cells e cs))
        else some (.val (.list 1 s.data.toList.length cs (.live σ.next)), σ.push (.cells e []))
      else none
    | _, _ => none
  | some (.slice e), some .string, x =>
    match P.underlying e, x with
    | some (.int .u8), .v (.slice none _ _) => val1 σ (.v (.string .empty))
    | some (.int .u8), .list _ _ _ _ | some (.int .u8), .arr _ _ _ _ _ =>
      match srcCells σ 1 x with
      | some (_, cs) => (bytesOf cs).bind fun l => val1 σ (.v (.string ⟨⟨l⟩⟩))
      | none => none
    | _, _ => none
  | _, _, _ => gen ()

def evMap1 (σ : ASt) (o : AVal) : Option (List (Value × AVal × Nat) × Nat) :=
  match o with
  | .map id => match σ.get id with | some (.map es c) => some (es, c) | _ => none
  | .v (.map none) => some ([], 0)
  | _ => none

def keyEq : Value → Value → Option Bool
  | .string a, .string b => some (a.data.toList == b.data.toList)
  | .int k a, .int k' b => if k = k' then some (a == b) else none
  | _, _ => none
def findKey (key : Value) : List (Value × AVal × Nat) → Nat → Option (Option (Nat × AVal))
  | [], _ => some none
  | (k, x, _) :: r, i => match keyEq key k with
    | some true => some (some (i, x))
    | some false => findKey key r (i + 1)
    | none => none
def plainKey : TypeDesc → Value → Bool
  | .string, .string _ => true
  | .int _, .int _ _ => true
  | _, _ => false

def evLookup (σ : ASt) (t : TypeId) (m ix : AVal) (ok : Bool) : ORes :=
  match P.underlying t, evMap1 σ m, ix with
  | some (.map kt et), some (es, _), .v key =>
    match P.underlying kt with
    | some kd =>
      if plainKey kd key then
        match findKey key es 0 with
        | some (some (_, x)) => val1 σ (if ok then .tuple [x, .v (.bool true)] else x)
        | some none => (P.info? et).bind fun i => i.zero.bind fun z => val1 σ (if ok then .tuple [ofValue z, .v (.bool false)] else ofValue z)
        | none => none
      else none
    | none => none
  | _, _, _ => none

def putKey (i : Nat) (x : AVal) : List (Value × AVal × Nat) → List (Value × AVal × Nat)
  | [] => []
  | (k, y, b) :: r => match i with
    | 0 => (k, x, b) :: r
    | j + 1 => (k, y, b) :: putKey j x r

def evMapUpdate (σ : ASt) (t : TypeId) (m ix x : AVal) : ORes :=
  match P.underlying t, m, ix with
  | some (.map kt _), .map id, .v key =>
    match P.underlying kt, σ.get id with
    | some kd, some (.map es c) =>
      if plainKey kd key then
        match findKey key es 0 with
        | some (some (i, _)) => some (.val .junk, σ.set id (.map (putKey i x es) c))
        | some none => some (.val .junk, σ.set id (.map (es ++ [(key, x, c)]) (c + 1)))
        | none => none
      else none
    | _, _ => none
  | _, _, _ => none

def evRange (σ : ASt) (t : TypeId) (x : AVal) : ORes :=
  match P.underlying t, x with
  | some .string, .v (.string s) => some (.val (.ref σ.next 0), σ.push (.strIter s 0))
  | _, _ => none

def evNext (σ : ASt) (it : AVal) (isString : Bool) : ORes :=
  match it with
  | .ref id 0 => match σ.get id, isString with
    | some (.strIter s pos), true =>
      if pos < s.size then
        let d := Utf8.decode s pos
        some (.val (.tuple [.v (.bool true), .v (.int .i64 pos), .v (.int .i32 d.1)]), σ.set id (.strIter s (pos + d.2)))
      else val1 σ (.tuple [.v (.bool false)])
    | _, _ => none
  | _ => none

/-- A deferred or called function value. -/
def evTarget : AVal → Option (Fn × List AVal × List AVal)
  | .func fn first captured => some (fn, first, captured)
  | _ => none

def hasBody (f : FuncId) : Option Bool := (P.funcs[f]?).bind fun fn => if fn.name == "runtime.NumGoroutine" then none else some fn.body.isSome

/-- The method of a dynamic type: its function, and whether it takes the pointer as it stands. -/
def evMethod (_σ : ASt) (t : TypeId) (x : AVal) (name : String) : Option (FuncId × AVal) :=
  (P.info? t).bind fun i => (i.methods.find? (·.name == name)).bind fun m =>
    if m.path.size = 0 then
      match m.func, P.underlying t with
      | some (f, true), some (.pointer _) => some (f, x)
      | some (_f, false), some (.pointer _) => none
      | some (f, false), some _ => some (f, x)
      | _, _ => none
    else none

def evEnter (σ : ASt) (f : FuncId) (args : List AVal) (gen : Unit → ORes) : ORes :=
  match hasBody P f with
  | some true => some (.enter f args, σ)
  | _ => gen ()

def evBuiltin (σ : ASt) (b : Builtin) (argTypes : Array TypeId) (args : List AVal) (gen : Unit → ORes) : ORes :=
  match b, args with
  | .append, [s, x] => evAppend P E fn σ argTypes s x
  | .len, [x] => (argTypes[0]?).bind fun t => match evLen P σ t x with | some r => some r | none => gen ()
  | .copy, [d, x] => evCopy P σ argTypes d x
  | .recover, _ => some (.recover, σ)
  | .panic, [x] => match x with | .iface t y => some (.panic (.iface t y), σ) | _ => gen ()
  | _, _ => gen ()

def evCall (σ : ASt) (ρ : Operand → AVal) (c : Call) (gen : Unit → ORes) : ORes :=
  let args := c.args.toList.map ρ
  match c.callee with
  | .builtin b => evBuiltin P E fn σ b c.argTypes args gen
  | .value f => match ρ f with
    | .func (.func g) first captured => evEnter P σ g (first ++ args ++ captured) gen
    | .func (.method name) [.iface t x] _ => (evMethod P σ t x name).bind fun (g, r) => evEnter P σ g (r :: args) gen
    | .yield l => some (.round l args, σ)
    | .v .nilFunc => some (.panic (.iface P.rt.errorString (.v (strVal "invalid memory address or nil pointer dereference"))), σ)
    | _ => none
  | .invoke recv name => match ρ recv with
    | .iface t x => (evMethod P σ t x name).bind fun (g, r) => evEnter P σ g (r :: args) gen
    | .v .nilIface => some (.panic (.iface P.rt.errorString (.v (strVal "invalid memory address or nil pointer dereference"))), σ)
    | _ => none

def evDefer (σ : ASt) (ρ : Operand → AVal) (c : Call) : ORes :=
  match c.callee with
  | .value f => match ρ f with
    | .func fn first captured => some (.defer ⟨fn, captured, first ++ c.args.toList.map ρ⟩, σ)
    | _ => none
  | _ => none

/-- An operation all whose operands lead nowhere: by the model's own code. -/
def evGen (σ : ASt) (ρ : Operand → AVal) (o : Oper) (_ : Unit) : ORes :=
  if o.op.operands.toList.all fun x => (flat? (ρ x)).isSome then
    ofNext σ (pure1 P (execOp (fun x => (flat? (ρ x)).getD undef) o))
  else none

def evOp0 (σ : ASt) (ts : List AVal) (o : Oper) : ORes :=
  let ρ := evOperand E ts
  let gen := evGen P σ ρ o
  match o.op with
  | .move x | .assign x => val1 σ (ρ x)
  | .pick c a b => match ρ c with | .v (.bool t) => val1 σ (if t then ρ a else ρ b) | _ => none
  | .alloc t => evAlloc P σ t
  | .box t x => evBox σ t (ρ x)
  | .build t ps => evBuild P σ t (ps.toList.map fun (i, x) => (i, ρ x))
  | .buildSlice t len ps => evBuildSlice P E fn σ t len (ps.toList.map fun (i, x) => (i, ρ x))
  | .load t a => evLoad P σ t (ρ a)
  | .store t a x => evStore P σ t (ρ a) (ρ x)
  | .nilCheck x => evNilCheck P σ (ρ x)
  | .binOp op t x y _ => evBin P σ op t (ρ x) (ρ y) gen
  | .convert s d x => evConvert P E fn σ s d (ρ x) gen
  | .makeInterface t x => evMakeIface P σ t (ρ x)
  | .makeFunc fn first captured => match fn with
    | .yield _ => none
    | fn => val1 σ (.func fn (first.toList.map ρ) (captured.toList.map ρ))
  | .makeMap t r => if (r.map ρ).all (fun x => match x with | .v (.int _ _) => true | _ => false) then
      (match P.underlying t with | some (.map _ _) => some (.val (.map σ.next), σ.push (.map [] 0)) | _ => none) else none
  | .makeSlice t l c => evMakeSlice P σ t (ρ l) (ρ c)
  | .slice t x lo hi mx => evSlice P σ t (ρ x) (lo.map ρ) (hi.map ρ) (mx.map ρ)
  | .fieldAddr s x f => evFieldAddr P σ s (ρ x) f
  | .field s x f => evField P σ s (ρ x) f
  | .indexAddr t x ix => evIndexAddr P σ t (ρ x) (ρ ix)
  | .index t x ix => evIndex P σ t (ρ x) (ρ ix)
  | .lookup t x ix ok => evLookup P σ t (ρ x) (ρ ix) ok
  | .mapUpdate t m k x | .insert t m k x => evMapUpdate P σ t (ρ m) (ρ k) (ρ x)
  | .range t x => evRange P σ t (ρ x)
  | .next it s => evNext σ (ρ it) s
  | .typeAssert x _ asserted ok => evTypeAssert P σ (ρ x) asserted ok
  | .extract t j => evExtract σ (ρ t) j
  | .call c => evCall P E fn σ ρ c gen
  | .defer c => evDefer σ ρ c
  | .panic x => match ρ x with | .iface t y => some (.panic (.iface t y), σ) | _ => none
  | .unOp _ _ _ => gen ()
  | _ => none
/-- An operation; where it says nothing, what the rules say. -/
def evOp (σ : ASt) (ts : List AVal) (o : Oper) : ORes :=
  match evOp0 P E fn σ ts o with
  | some r => some r
  | none => (E.rule P o (o.op.operands.toList.map (evOperand E ts))).bind (val1 σ)
end ops
end Go.Ev
