/- The evaluator of code, regions and calls: definitions alone; no condition. -/
import Derived.Test.YthfgghenofpbjaaGreatDoorEvCore
namespace Go.Ev

/- Are two abstract values one? -/
mutual
def veq : Value → Value → Bool
  | .bool a, .bool b => a == b
  | .int j a, .int k b => decide (j = k) && decide (a = b)
  | .float j a, .float k b => decide (j = k) && decide (a = b)
  | .complex j a b, .complex k c d => decide (j = k) && decide (a = c) && decide (b = d)
  | .string a, .string b => decide (a.data.toList = b.data.toList)
  | .pointer a, .pointer b => decide (a = b)
  | .slice a n c, .slice b m d => decide (a = b) && decide (n = m) && decide (c = d)
  | .map a, .map b => decide (a = b)
  | .chan a, .chan b => decide (a = b)
  | .func f a b, .func g c d => decide (f = g) && veqA a c && veqA b d
  | .nilFunc, .nilFunc => true
  | .iface t x, .iface u y => decide (t = u) && veq x y
  | .nilIface, .nilIface => true
  | .agg a, .agg b => veqA a b
  | .tuple a, .tuple b => veqA a b
  | _, _ => false
def veqA : Array Value → Array Value → Bool
  | ⟨a⟩, ⟨b⟩ => veqL a b
def veqL : List Value → List Value → Bool
  | [], [] => true
  | x :: a, y :: b => veq x y && veqL a b
  | _, _ => false
end
mutual
def aeq : AVal → AVal → Bool
  | .junk, .junk => true
  | .v x, .v y => veq x y
  | .agg a, .agg b => aeqL a b
  | .tuple a, .tuple b => aeqL a b
  | .list k n a s, .list l m b t => decide (k = l) && decide (n = m) && decide (s = t) && aeqL a b
  | .arr k i o n c, .arr l j p m d => decide (k = l) && decide (i = j) && decide (o = p) && decide (n = m) && decide (c = d)
  | .ref i o, .ref j p => decide (i = j) && decide (o = p)
  | .iref a, .iref b => aeqL a b
  | .func f a b, .func g c d => decide (f = g) && aeqL a c && aeqL b d
  | .yield i, .yield j => decide (i = j)
  | .iface t x, .iface u y => decide (t = u) && aeq x y
  | .map i, .map j => decide (i = j)
  | .sym i, .sym j => decide (i = j)
  | _, _ => false
def aeqL : List AVal → List AVal → Bool
  | [], [] => true
  | x :: a, y :: b => aeq x y && aeqL a b
  | _, _ => false
end

/-- The state of a frame: its temporaries, its deferred calls, memory, and the mode of the frame that a deferred call unwinds. -/
structure St where
  ts : List AVal
  ds : List ADef
  σ : ASt
  mode : Option AMode

inductive AExit where
  | normal
  | exit (id : Nat)
  | ret
  | panic (chain : List AEntry)

inductive AEnd where
  | ret (x : AVal)
  | panic (chain : List AEntry)

/-- What a call comes to: its end, memory, and the mode of the frame that it was deferred in. -/
abbrev Ret := Option (AEnd × ASt × Option AMode)

/-- How calls and rounds of a range over a function are answered. -/
structure Calls' where
  fn : FuncId → List AVal → ASt → Option AMode → Ret
  round : Nat → List AVal → ASt → Ret

def setAt : List AVal → Nat → AVal → List AVal
  | [], _, _ => []
  | _ :: r, 0, x => x :: r
  | y :: r, n + 1, x => y :: setAt r n x

def put (ts : List AVal) (dst : Option Tmp) (x : AVal) : List AVal :=
  match dst with
  | some d => setAt ts d x
  | none => ts

def unset : AVal := .v undef

/-- Is an operation wanted: its guard's answer. -/
def wantedA (ops : Array Oper) (ts : List AVal) (o : Oper) : Option Bool :=
  match o.guard with
  | none => some true
  | some (j, want) =>
    match (ops[j]?).bind (·.dst) with
    | none => none
    | some d => match ts.getD d .junk with
      | .v (.bool b) => some (b == want)
      | .v (.tuple _) => some false
      | _ => none

/-- How the execution of some operations of a region went on. -/
inductive ORun where
  | next (st : St)
  | panic (chain : List AEntry) (st : St)

def recoverA : Option AMode → AVal × Option AMode
  | some (.panicking (.mk x false :: older)) => (x, some (.panicking (.mk x true :: older)))
  | m => (.v .nilIface, m)

section
variable (P : Program) (E : Env) (f : FuncId) (C : Calls')

/-- One operation, wanted ('rd': within a round of a range over a function). -/
def runOp (rd : Bool) (st : St) (o : Oper) : Option ORun :=
  match evOp P E f st.σ st.ts o with
  | some (.val x, σ) => some (.next { st with ts := put st.ts o.dst x, σ })
  | some (.enter g args, σ) =>
    match C.fn g args σ none with
    | some (.ret x, σ', _) => some (.next { st with ts := put st.ts o.dst x, σ := σ' })
    | some (.panic ch, σ', _) => some (.panic ch { st with σ := σ' })
    | none => none
  | some (.round l args, σ) =>
    match C.round l args σ with
    | some (.ret x, σ', _) => some (.next { st with ts := put st.ts o.dst x, σ := σ' })
    | some (.panic ch, σ', _) => some (.panic ch { st with σ := σ' })
    | none => none
  | some (.defer d, σ) => if rd then none else some (.next { st with ts := put st.ts o.dst unset, ds := .call d :: st.ds, σ })
  | some (.panic x, σ) => some (.panic [.mk x false] { st with σ })
  | some (.recover, σ) =>
    if rd then none else
    let r := recoverA st.mode
    some (.next { st with ts := put st.ts o.dst r.1, σ, mode := r.2 })
  | none => none

/-- The operation at a place, or nothing where its guard says no. -/
def runAt (rd : Bool) (ops : Array Oper) (st : St) (o : Oper) : Option ORun :=
  match wantedA ops st.ts o with
  | some true => runOp P E f C rd st o
  | some false => some (.next { st with ts := put st.ts o.dst unset })
  | none => none

/-- All of them in the order of the text. -/
def runSeq (rd : Bool) (ops : Array Oper) : List Oper → St → Option ORun
  | [], st => some (.next st)
  | o :: r, st => match runAt P E f C rd ops st o with
    | some (.next st') => runSeq rd ops r st'
    | x => x

/-- May an operation write, make memory, call or end the region? -/
def isLoud (P : Program) (keeps : Bool) (o : Op) : Bool :=
  match o with
  | .move _ | .assign _ | .pick .. | .build .. | .load .. | .nilCheck _ | .binOp .. | .unOp .. | .makeInterface .. | .makeFunc .. | .slice .. | .fieldAddr .. | .field ..
  | .indexAddr .. | .index .. | .lookup .. | .typeAssert .. | .extract .. => false
  | .convert _ dst _ => (match P.underlying dst with | some (.slice _) => true | _ => false)
  | .buildSlice .. => keeps
  | .call c => match c.callee with
    | .builtin b => match b with
      | .len | .min | .max | .cap => false
      | _ => true
    | _ => true
  | _ => true
/-- One operation of a region that draws, that may write: a value, or a call that returns. -/
def loudVal (σ : ASt) (ts : List AVal) (o : Oper) : Option (AVal × ASt) :=
  match evOp P E f σ ts o with
  | some (.val x, σ') => some (x, σ')
  | some (.enter g args, σ') =>
    match C.fn g args σ' none with
    | some (.ret x, σ'', _) => some (x, σ'')
    | _ => none
  | _ => none
/-- One that leaves memory alone: does it say x in this memory? -/
def quietOk (σ : ASt) (ts : List AVal) (o : Oper) (x : AVal) : Bool :=
  match evOp P E f σ ts o with
  | some (.val y, _) => aeq y x
  | _ => false

/-- The temporaries that an operation names: its own, its guard's, its operands'. -/
def namesOf (ops : Array Oper) (o : Oper) : List Tmp :=
  o.dst.toList ++ ((match o.guard with | some (j, _) => ((ops[j]?).bind (·.dst)).toList | none => []) ++ o.op.operands.toList.filterMap fun | .tmp t => some t | _ => none)
/-- The operations ahead of one, as bits. -/
def bitsOf (o : Oper) (acc : List Nat) : Nat :=
  o.after.toList.foldl (fun s e => if Region.binds .any e then (s ||| 2 ^ e.on) ||| acc.getD e.on 0 else s) 0
def ancsFrom : List Oper → List Nat → List Nat
  | [], acc => acc
  | o :: r, acc => ancsFrom r (acc ++ [bitsOf o acc])
def apartB (ops : Array Oper) (x y : Oper) : Bool :=
  (match x.dst with | some d => !(namesOf ops y).contains d | none => true) && (match y.dst with | some d => !(namesOf ops x).contains d | none => true)

/-- What an operation of a region that draws has done in the order of the text: skipped, loud or quiet; what was ahead of it; what it said, and memory behind it. -/
structure Rec where
  j : Nat
  o : Oper
  anc : Nat
  skip : Bool
  loud : Bool
  ts : List AVal
  σ : ASt
  σ' : ASt
  x : AVal

def runDraw (ops : Array Oper) (ancs : List Nat) : List Oper → Nat → List AVal → ASt → Option (List Rec × List AVal × ASt)
  | [], _, ts, σ => some ([], ts, σ)
  | o :: r, j, ts, σ =>
    match wantedA ops ts o with
    | none => none
    | some false => (runDraw ops ancs r (j + 1) (put ts o.dst unset) σ).map fun (l, e) => (⟨j, o, ancs.getD j 0, true, false, ts, σ, σ, unset⟩ :: l, e)
    | some true =>
      if isLoud P (E.keeps f) o.op then
        match loudVal P E f C σ ts o with
        | some (x, σ') => (runDraw ops ancs r (j + 1) (put ts o.dst x) σ').map fun (l, e) => (⟨j, o, ancs.getD j 0, false, true, ts, σ, σ', x⟩ :: l, e)
        | none => none
      else
        match evOp P E f σ ts o with
        | some (.val x, _) => (runDraw ops ancs r (j + 1) (put ts o.dst x) σ).map fun (l, e) => (⟨j, o, ancs.getD j 0, false, false, ts, σ, σ, x⟩ :: l, e)
        | _ => none

/-- Two of them, the first ahead in the text: ordered, or nothing to one another. -/
def pairOk (ops : Array Oper) (a b : Rec) : Bool :=
  Nat.testBit b.anc a.j || (apartB ops a.o b.o &&
    match a.loud, b.loud with
    | true, true => false
    | true, false => b.skip || quietOk P E f a.σ b.ts b.o b.x
    | false, true => a.skip || quietOk P E f b.σ' a.ts a.o a.x
    | false, false => true)
def pairsOk (ops : Array Oper) : List Rec → Bool
  | [] => true
  | a :: r => r.all (pairOk P E f ops a) && pairsOk ops r
def backOk (r : Rec) : Bool := r.o.after.toList.all fun e => !Region.binds .any e || decide (e.on < r.j)

def runRegion (ops : Array Oper) (st : St) : Option ORun :=
  match runDraw P E f C ops (ancsFrom ops.toList []) ops.toList 0 st.ts st.σ with
  | some (l, ts, σ) => if l.all backOk && pairsOk P E f ops l then some (.next { st with ts, σ }) else none
  | none => none

/- Which temporaries a piece of code reads ahead of writing them (bits), which it writes, and which it surely writes on its way to the end. -/
def opReads (o : Oper) : Nat := o.op.operands.toList.foldl (fun s x => match x with | .tmp t => Nat.lor s (2 ^ t) | _ => s) 0
def without (a b : Nat) : Nat := Nat.xor a (Nat.land a b)
structure Use where
  reads : Nat
  all : Nat
  sure : Nat
def useOps (ops : Array Oper) : List Oper → Use → Use
  | [], u => u
  | o :: r, u =>
    let g := match o.guard with | some (j, _) => (match (ops[j]?).bind (·.dst) with | some d => 2 ^ d | none => 0) | none => 0
    let rd := without (Nat.lor (opReads o) g) u.sure
    let w := match o.dst with | some d => 2 ^ d | none => 0
    useOps ops r ⟨Nat.lor u.reads rd, Nat.lor u.all w, Nat.lor u.sure w⟩
def useOf : Code → Use
  | .region _ ops _ => useOps ops ops.toList ⟨0, 0, 0⟩
  | .seq a b =>
    let x := useOf a
    let y := useOf b
    ⟨Nat.lor x.reads (without y.reads x.sure), Nat.lor x.all y.all, Nat.lor x.sure y.sure⟩
  | .cond c a b =>
    let x := useOf a
    let y := useOf b
    let r := match c with | .tmp t => 2 ^ t | _ => 0
    ⟨Nat.lor r (Nat.lor x.reads y.reads), Nat.lor x.all y.all, Nat.land x.sure y.sure⟩
  | .block _ c => let x := useOf c; ⟨x.reads, x.all, 0⟩
  | .loop c => let x := useOf c; ⟨x.reads, x.all, 0⟩
  | .scope c => let x := useOf c; ⟨x.reads, x.all, 0⟩
  | .rangeFunc f ps a b =>
    let x := useOf a
    let y := useOf b
    let r := match f with | .tmp t => 2 ^ t | _ => 0
    ⟨Nat.lor r (without (Nat.lor x.reads (without y.reads x.sure)) (ps.toList.foldl (fun s p => Nat.lor s (2 ^ p)) 0)), Nat.lor x.all y.all, 0⟩
  | _ => ⟨0, 0, 0⟩

/-- Temporaries that a loop's round writes ahead of reading, and that nothing behind it reads, are forgotten at its head. -/
def forget (kill : Nat) : List AVal → Nat → List AVal
  | [], _ => []
  | x :: r, i => (if Nat.testBit kill i then .junk else x) :: forget kill r (i + 1)

def iter (body : St → Option (AExit × St)) (kill : Nat) : Nat → St → Option (AExit × St)
  | 0, _ => none
  | n + 1, st => match body { st with ts := forget kill st.ts 0 } with
    | some (.normal, st') => iter body kill n st'
    | r => r

def ofRun : Option ORun → Option (AExit × St)
  | some (.next st) => some (.normal, st)
  | some (.panic ch st) => some (.panic ch, st)
  | none => none

/-- Code. 'out': what is read behind it (bits); 'n': rounds of a loop at most. -/
def evCode (n : Nat) (inRound : Bool) : Code → Nat → St → Option (AExit × St)
  | .skip, _, st | .label _, _, st => some (.normal, st)
  | .region _ ops false, _, st => ofRun (runSeq P E f C inRound ops ops.toList st)
  | .region _ ops true, _, st => ofRun (runRegion P E f C ops st)
  | .seq a b, out, st =>
    let u := useOf b
    match evCode n inRound a (Nat.lor out u.reads) st with
    | some (.normal, st') => evCode n inRound b out st'
    | r => r
  | .cond c a b, out, st => match evOperand E st.ts c with
    | .v (.bool true) => evCode n inRound a out st
    | .v (.bool false) => evCode n inRound b out st
    | _ => none
  | .block id c, out, st => match evCode n inRound c out st with
    | some (.exit i, st') => if i = id then some (.normal, st') else some (.exit i, st')
    | r => r
  | .loop c, out, st =>
    let u := useOf c
    iter (evCode n inRound c (Nat.lor out u.reads)) (if E.forgets then without u.all (Nat.lor out u.reads) else 0) n st
  | .scope c, out, st => evCode n inRound c out st
  | .exit id, _, st => some (.exit id, st)
  | .ret, _, st => some (.ret, st)
  | .rangeFunc g params assign body, _, st =>
    if inRound then none else
    match evOperand E st.ts g with
    | .func (.func h) first captured =>
      if hasBody P h = some true then
        let mk := st.σ.next
        let σ₁ := st.σ.push (.marks false)
        let l := σ₁.next
        let σ₂ := σ₁.push (.loop .ready none f st.ts params.toList assign body mk)
        match C.fn h (first ++ [.yield l] ++ captured) σ₂ none with
        | some (.ret _, σ₃, _) =>
          match σ₃.get l with
          | some (.loop s p g' ts' ps' a' b' d') =>
            if s = .busy then none else
            let st' : St := { st with ds := .mark mk :: st.ds, σ := σ₃.set l (.loop .exhausted p g' ts' ps' a' b' d') }
            match p with
            | none => some (.normal, st')
            | some .ret => some (.ret, st')
            | some (.exit id) => some (.exit id, st')
            | some _ => none
          | _ => none
        | some (.panic ch, σ₃, _) => some (.panic ch, { st with ds := .mark mk :: st.ds, σ := σ₃ })
        | none => none
      else none
    | _ => none
  | .goto _, _, _ | .refuse _, _, _ => none

def resultOf (σ : ASt) (ts : List AVal) : ResultVar → Option AVal
  | .tmp t => some (ts.getD t .junk)
  | .cell a t => match evLoad P σ t (ts.getD a .junk) with
    | some (.val x, _) => some x
    | _ => none
def resultsOf (σ : ASt) (ts : List AVal) : List ResultVar → Option (List AVal)
  | [] => some []
  | r :: rest => (resultOf P σ ts r).bind fun x => (resultsOf σ ts rest).map (x :: ·)
def oneOrTuple : List AVal → AVal
  | [x] => x
  | l => .tuple l

def settleA : AMode → AMode
  | .panicking (.mk _ true :: _) => .returning
  | m => m
def raisedA : AMode → List AEntry → AMode
  | .panicking old, ch => .panicking (ch ++ old)
  | .returning, ch => .panicking ch

/-- A slice of an object that is given away becomes one that is never written again. -/
def giveOne (σ : ASt) : AVal → AVal × ASt
  | .arr k id off n cap => match σ.get id with
    | some (.cells e cs) =>
      if 0 < n ∧ off = 0 ∧ n * k = cs.length ∧ cap = none then (.list k n cs (.live σ.next), (σ.kill id).push (.cells e []))
      else if 0 < n ∧ off + n * k ≤ cs.length then (.list k n ((cs.drop off).take (n * k)) .no, σ.kill id)
      else (.junk, σ)
    | _ => (.junk, σ)
  | x => (x, σ)
def giveAll (σ : ASt) : List AVal → List AVal × ASt
  | [] => ([], σ)
  | x :: r => let (y, σ₁) := giveOne σ x; let (ys, σ₂) := giveAll σ₁ r; (y :: ys, σ₂)

/-- What a frame does as it ends: its deferred calls, the last first; then its results. -/
def leave (fn : Func) (ts : List AVal) : List ADef → AMode → ASt → Option (AEnd × ASt)
  | [], .returning, σ => (resultsOf P σ ts fn.results.toList).bind fun l =>
    if E.give f then (let r := giveAll σ l; some (.ret (oneOrTuple r.1), r.2)) else some (.ret (oneOrTuple l), σ)
  | [], .panicking ch, σ => some (.panic ch, σ)
  | .mark id :: ds, m, σ => match σ.get id with
    | some (.marks false) => leave fn ts ds m (σ.set id (.marks true))
    | _ => none
  | .call d :: ds, m, σ =>
    match d.fn with
    | .func g =>
      if hasBody P g = some true then
        match C.fn g (d.args ++ d.captured) σ (some m) with
        | some (.ret _, σ', some m') => leave fn ts ds (settleA m') σ'
        | some (.panic ch, σ', some m') => leave fn ts ds (raisedA m' ch) σ'
        | _ => none
      else none
    | _ => none

def evBody (n : Nat) (args : List AVal) (σ : ASt) (mode : Option AMode) : Ret :=
  match P.funcs[f]? with
  | some fn =>
    match fn.body with
    | some c =>
      match evCode P E f C n false c 0 ⟨args ++ List.replicate (fn.ntmps - args.length) unset, [], σ, mode⟩ with
      | some (.normal, st) | some (.ret, st) => (leave P E f C fn st.ts st.ds .returning st.σ).map fun (e, σ') => (e, σ', st.mode)
      | some (.panic ch, st) => (leave P E f C fn st.ts st.ds (.panicking ch) st.σ).map fun (e, σ') => (e, σ', st.mode)
      | _ => none
    | none => none
  | none => none

/-- A round of a range over a function. -/
def evRound (n : Nat) (l : Nat) (args : List AVal) (σ : ASt) : Ret :=
  match σ.get l with
  | some (.loop .ready _p g ts ps a b _d) =>
    if args.length = ps.length ∧ (P.funcs[g]?).isSome then
      let ts₀ := (ps.zip args).foldl (fun t x => setAt t x.1 x.2) ts
      match evCode P E g C n true a (useOf b).reads ⟨ts₀, [], σ, none⟩ with
      | some (.normal, st) =>
        match st.σ.get l, st.ds with
        | some (.loop .ready p g' ts' ps' a' b' d'), [] =>
          match evCode P E g C n true b 0 ⟨st.ts, [], st.σ.set l (.loop .busy p g' ts' ps' a' b' d'), none⟩ with
          | some (.panic ch, st') => match st'.ds with
            | [] => some (.panic ch, st'.σ, none)
            | _ => none
          | some (e, st') =>
            let jump : Option Code := match e with | .exit i => some (.exit i) | .ret => some .ret | _ => none
            match st'.σ.get l, st'.ds with
            | some (.loop _ _ g' ts' ps' a' b' d'), [] =>
              some (.ret (.v (.bool jump.isNone)), st'.σ.set l (.loop (if jump.isNone then .ready else .done) jump g' ts' ps' a' b' d'), none)
            | _, _ => none
          | none => none
        | _, _ => none
      | _ => none
    else none
  | _ => none
end

/-- Answers that are given. -/
abbrev Given := FuncId → Option (List AVal → ASt → Option (AEnd × ASt))
/-- A call of a function; a round: by at most n calls within each other. 'X': answers that are given. -/
def ev (P : Program) (E : Env) (X : FuncId → Option (List AVal → ASt → Option (AEnd × ASt))) : Nat → Calls'
  | 0 => ⟨fun _ _ _ _ => none, fun _ _ _ => none⟩
  | n + 1 =>
    { fn := fun f args σ m => match X f with
        | some g => match m with
          | none => (g args σ).map fun r => (r.1, r.2, none)
          | some _ => none
        | none => evBody P E f (ev P E X n) n args σ m,
      round := fun l args σ => evRound P E (ev P E X n) n l args σ }
end Go.Ev
