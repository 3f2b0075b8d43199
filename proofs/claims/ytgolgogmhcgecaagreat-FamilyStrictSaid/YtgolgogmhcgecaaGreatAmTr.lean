/- The translator from the model's code to the abstract machine's, a plain function: it answers none where an operation is not served. -/
import Derived.Test.YtgolgogmhcgecaaGreatAmCore
import GoSem.Core.CheckCode
set_option linter.unusedVariables false
namespace Go.Am

mutual
def trV : Value → Option AV
  | .bool b => some (.bool b)
  | .int k n => some (.int k n)
  | .string s => some (.str (s.data.toList.map UInt8.toNat))
  | .pointer none => some .nilPtr
  | .slice none 0 0 => some .nilSlice
  | .map none => some .nilMap
  | .nilFunc => some .nilFunc
  | .agg ⟨cs⟩ => match trVs cs with
    | some l => some (.agg l)
    | none => none
  | .tuple ⟨cs⟩ => match trVs cs with
    | some l => some (.tuple l)
    | none => none
  | _ => none
def trVs : List Value → Option (List AV)
  | [] => some []
  | v :: vs => match trV v with
    | some x => match trVs vs with
      | some l => some (x :: l)
      | none => none
    | none => none
end

def trX : Operand → Option AX
  | .tmp t => some (.t t)
  | .const v => (trV v).map .c
  | .func f => some (.c (.func f []))
  | .global _ => none

def trXs : List Operand → Option (List AX)
  | [] => some []
  | x :: xs => match trX x, trXs xs with
    | some y, some l => some (y :: l)
    | _, _ => none
def trXo : Option Operand → Option (Option AX)
  | none => some none
  | some x => (trX x).map some

variable (P : Program)

/-- A type's zero value, its cells. -/
def zeroOf (t : TypeId) : Option (List AV) :=
  match P.info? t with
  | some i => match i.zero with
    | some z => (trV z).map AV.cells
    | none => none
  | none => none
def zeroVal (t : TypeId) : Option AV :=
  match P.info? t with
  | some i => match i.zero with
    | some z => trV z
    | none => none
  | none => none
def sizeA (t : TypeId) : Option Nat := (P.info? t).map (·.size)
def bytesA (t : TypeId) : Option Nat := (P.info? t).map (·.bytes)
def aggA (t : TypeId) : Option Bool :=
  match P.underlying t with
  | some (.struct _) => some true
  | some (.array _ _) => some true
  | some _ => some false
  | none => none

def kindOf (t : TypeId) : Option Nat :=
  match P.underlying t with
  | some (.int _) => some 0
  | some .string => some 1
  | some .bool => some 2
  | _ => none
/-- The kinds of the cells of fields that are all plain, or arrays of plain elements, one behind the other. -/
noncomputable def flatKinds : List Field → Nat → Option (List Nat)
  | [], _ => some []
  | f :: fs, i => if f.name ≠ "_" ∧ f.offset = i then match kindOf P f.type with
      | some k => match flatKinds fs (i + 1) with
        | some l => some (k :: l)
        | none => none
      | none => match P.underlying f.type with
        | some (.array m e) => match kindOf P e, sizeA P e, sizeA P f.type with
          | some k, some 1, some s => if s = m then match flatKinds fs (i + m) with
              | some l => some (repN [k] m ++ l)
              | none => none else none
          | _, _, _ => none
        | _ => none
    else none

noncomputable def eqkOf (t : TypeId) : Option EqK :=
  match P.underlying t with
  | some (.int _) => some .int
  | some .string => some .str
  | some .bool => some .bool
  | some (.pointer _) => some .ptr
  | some (.slice _) => some .slice
  | some (.map _ _) => some .map
  | some (.func _ _ _) => some .func
  | some (.struct fs) => match flatKinds P fs.toList 0 with
    | some ks => if P.eqGuardType P.depth t = false ∧ P.stoodInHeld t = false then some (.flat ks) else none
    | none => none
  | _ => none

def partsStruct (fs : Array Field) : List (Nat × Operand) → Option (List (Nat × Nat × AX))
  | [] => some []
  | (i, x) :: ps => match fs[i]? with
    | some f => match sizeA P f.type, trX x, partsStruct fs ps with
      | some n, some y, some l => some ((f.offset, n, y) :: l)
      | _, _, _ => none
    | none => none
def partsArr (es : Nat) : List (Nat × Operand) → Option (List (Nat × Nat × AX))
  | [] => some []
  | (i, x) :: ps => match trX x, partsArr es ps with
    | some y, some l => some ((i * es, es, y) :: l)
    | _, _ => none

def u8Of (t : TypeId) : Bool :=
  match P.underlying t with
  | some (.int .u8) => true
  | _ => false

noncomputable def trOp (o : Op) : Option FOp :=
  match o with
  | .move x => (trX x).map fMove
  | .assign x => (trX x).map fMove
  | .pick c a b => match trX c, trX a, trX b with
    | some c, some a, some b => some (fPick c a b)
    | _, _, _ => none
  | .alloc t => (zeroOf P t).map fAlloc
  | .box _ x => (trX x).map fBox
  | .build t ps => match P.underlying t with
    | some (.struct fs) => match zeroOf P t, partsStruct P fs ps.toList with
      | some z, some l => if fs.toList.all (fun f => (sizeA P f.type).isSome) = true then some (fBuild z l) else none
      | _, _ => none
    | some (.array _ e) => match sizeA P e with
      | some es => match zeroOf P t, partsArr es ps.toList with
        | some z, some l => some (fBuild z l)
        | _, _ => none
      | none => none
    | _ => none
  | .buildSlice t len ps => match P.underlying t with
    | some (.slice e) => match sizeA P e, zeroOf P e with
      | some es, some z => match partsArr es ps.toList with
        | some l => if len * es ≤ 2 ^ 24 ∧ z.length = es ∧ 0 < es then some (fBuildSlice len (repN z len) l) else none
        | none => none
      | _, _ => none
    | _ => none
  | .load t x => match aggA P t, sizeA P t, trX x with
    | some true, some n, some x => some (fLoadN x n)
    | some false, some _, some x => some (fLoad1 x)
    | _, _, _ => none
  | .store t a v => match sizeA P t, trX a, trX v with
    | some n, some a, some v => some (fStore a v n)
    | _, _, _ => none
  | .nilCheck x => (trX x).map fNilCheck
  | .binOp op t x y _ => match eqkOf P t, trX x, trX y with
    | some k, some x, some y => some (fBin op k x y)
    | _, _, _ => none
  | .unOp .not _ x => (trX x).map fNot
  | .unOp .neg _ x => (trX x).map fNeg
  | .convert src dst x => match P.underlying src, P.underlying dst, trX x with
    | some (.int _), some (.int k), some x => some (fConvI k x)
    | some .string, some (.slice e), some x => if u8Of P e then some (fConvSB x) else none
    | some (.slice e), some .string, some x => if u8Of P e then some (fConvBS x) else none
    | _, _, _ => none
  | .makeFunc (.func f) first caps => if first.size = 0 then (trXs caps.toList).map (fMkFunc f) else none
  | .makeMap _ none => some fMakeMap
  | .makeSlice t l c => match P.underlying t with
    | some (.slice e) => match sizeA P e, bytesA P e, zeroOf P e, trX l, trX c with
      | some es, some b, some z, some l, some c => if z.length = es ∧ 0 < es ∧ 0 < b then some (fMakeSlice es b z l c) else none
      | _, _, _, _, _ => none
    | _ => none
  | .slice t x lo hi mx => match trX x, trXo lo, trXo hi, trXo mx with
    | some x, some lo, some hi, some mx => match P.underlying t with
      | some .string => if mx.isNone then some (fSliceStr x lo hi) else none
      | some (.slice e) => match sizeA P e with
        | some es => if (0 < es) ∧ (mx.isNone ∨ hi.isSome) then some (fSliceSl es x lo hi mx) else none
        | none => none
      | some (.array n e) => match sizeA P e with
        | some es => if 0 < es ∧ mx.isNone then some (fSliceArr n es x lo hi) else none
        | none => none
      | _ => none
    | _, _, _, _ => none
  | .fieldAddr t x i => match P.underlying t with
    | some (.struct fs) => match fs[i]? with
      | some f => match sizeA P f.type, trX x with
        | some n, some x => if n = 0 then none else some (fFieldAddr f.offset x)
        | _, _ => none
      | none => none
    | _ => none
  | .field t x i => match P.underlying t with
    | some (.struct fs) => match fs[i]? with
      | some f => match aggA P f.type, sizeA P f.type, trX x with
        | some true, some n, some x => some (fFieldN f.offset n x)
        | some false, _, some x => some (fField1 f.offset x)
        | _, _, _ => none
      | none => none
    | _ => none
  | .indexAddr t x i => match trX x, trX i with
    | some x, some i => match P.underlying t with
      | some (.slice e) => match sizeA P e with
        | some es => some (fIndexAddr es x i)
        | none => none
      | some (.array n e) => match sizeA P e with
        | some es => some (fIndexArr n es x i)
        | none => none
      | _ => none
    | _, _ => none
  | .index t x i => match trX x, trX i with
    | some x, some i => match P.underlying t with
      | some .string => some (fIndexStr x i)
      | some (.array n e) => match aggA P e, sizeA P e with
        | some false, some 1 => some (fIndexAgg1 n x i)
        | _, _ => none
      | _ => none
    | _, _ => none
  | .lookup t x i ok => match P.underlying t with
    | some (.map k e) => match P.underlying k, zeroVal P e, trX x, trX i with
      | some .string, some z, some x, some i => some (fLookup true z ok x i)
      | some (.int _), some z, some x, some i => some (fLookup false z ok x i)
      | _, _, _, _ => none
    | _ => none
  | .mapUpdate t m k v => match P.underlying t with
    | some (.map kt _) => match P.underlying kt, trX m, trX k, trX v with
      | some .string, some m, some k, some v => some (fMapUpdate true m k v)
      | some (.int _), some m, some k, some v => some (fMapUpdate false m k v)
      | _, _, _, _ => none
    | _ => none
  | .extract x i => (trX x).map (fExtract · i)
  | .call c => match trXs c.args.toList with
    | some args => match c.callee with
      | .value (.func f) => match P.funcs[f]? with
        | some F => if F.body.isSome && F.name != "runtime.NumGoroutine" then some (fCall f args) else none
        | none => none
      | .value x => (trX x).map (fCallV · args)
      | .builtin .len => match args, c.argTypes[0]? with
        | [x], some t => match P.underlying t with
          | some .string => some (fLenStr x)
          | some (.slice _) => some (fLenSl x)
          | some (.map _ _) => some (fLenMap x)
          | _ => none
        | _, _ => none
      | .builtin .cap => match args, c.argTypes[0]? with
        | [x], some t => match P.underlying t with
          | some (.slice _) => some (fCapSl x)
          | _ => none
        | _, _ => none
      | .builtin .append => match args, c.argTypes[0]?, c.argTypes[1]? with
        | [x, y], some t, some u => match P.underlying t with
          | some (.slice e) => match sizeA P e, bytesA P e, zeroOf P e with
            | some es, some b, some z => if z.length = es ∧ 0 < es ∧ 0 < b then match P.underlying u with
                | some (.slice _) => some (fAppend es b x y)
                | some .string => if es = 1 ∧ b = 1 then some (fAppendStr x y) else none
                | some (.int _) => some (fAppendZeros es b z x y)
                | _ => none else none
            | _, _, _ => none
          | _ => none
        | _, _, _ => none
      | .builtin .max => some (fMax args)
      | .builtin .min => some (fMin args)
      | .builtin .copy => match args, c.argTypes[0]?, c.argTypes[1]? with
        | [x, y], some t, some u => match P.underlying t, P.underlying u with
          | some (.slice e), some (.slice _) => match sizeA P e with
            | some es => some (fCopy es x y)
            | none => none
          | _, _ => none
        | _, _, _ => none
      | _ => none
    | none => none
  | _ => none

noncomputable def opOr : Option FOp → FOp
  | some f => f
  | none => fBad
noncomputable def xBad : FO := fun _ _ _ => none

def guardTmp (ops : Array Oper) (j : Nat) : Option Nat :=
  match ops[j]? with
  | some o => o.dst
  | none => none

noncomputable def trOper (N : Nat) (ops : Array Oper) (x : Oper) : FO :=
  match x.dst, x.guard with
  | some d, none => if d < N then o d (opOr (trOp P x.op)) else xBad
  | none, none => n (opOr (trOp P x.op))
  | some d, some (j, w) => match guardTmp ops j with
    | some t => if d < N then g d (opOr (trOp P x.op)) t w else xBad
    | none => xBad
  | none, some (j, w) => match guardTmp ops j with
    | some t => h (opOr (trOp P x.op)) t w
    | none => xBad

/-! ### Regions that draw -/
def isPlainLen (c : Go.Call) : Bool :=
  match c.argTypes[0]? with
  | some t => match P.underlying t with
    | some .string => true
    | some (.slice _) => true
    | _ => false
  | none => false
def dk (o : Op) : DK :=
  match o with
  | .move _ | .assign _ | .pick .. | .build .. | .nilCheck _ | .binOp .. | .unOp .. | .makeFunc .. | .fieldAddr .. | .field .. | .indexAddr .. | .index .. | .extract .. => .pure
  | .convert src dst _ => match P.underlying src, P.underlying dst with
    | some (.int _), some (.int _) => .pure
    | some .string, some (.slice _) => .alloc
    | _, _ => .wr
  | .slice _ _ _ _ _ => .pure
  | .alloc _ | .box .. | .buildSlice .. | .makeMap .. | .makeSlice .. => .alloc
  | .load t x => match aggA P t, sizeA P t, trX x with
    | some true, some n, some x => .rdN x n
    | some false, some _, some x => .rd1 x
    | _, _, _ => .wr
  | .call c => match c.callee with
    | .builtin .len => if isPlainLen P c then .pure else .wr
    | .builtin .max => .pure
    | .builtin .min => .pure
    | .builtin .cap => .pure
    | _ => .wr
  | _ => .wr
def bindsAny (e : Edge) : Bool :=
  match e.ground with
  | .textOnly _ => false
  | .gcOnly _ => false
  | _ => true
/-- All that each operation hangs on, as a number's bits. -/
def closures : List Oper → List Nat → List Nat
  | [], acc => acc
  | o :: os, acc => closures os (acc ++ [(o.after.toList.filter bindsAny).foldl (fun s e => s ||| (2 ^ e.on) ||| acc.getD e.on 0) 0])
def isPR : DK → Bool
  | .pure => true
  | .rd1 _ => true
  | .rdN _ _ => true
  | _ => false
def isWr : DK → Bool
  | .wr => true
  | _ => false
def orderGo (ks : List DK) (clo : List Nat) : Nat → List Nat → Nat → List Nat → List Nat
  | 0, _, _, acc => acc.reverse
  | n + 1, rem, done, acc =>
    let ready (i : Nat) : Bool := (clo.getD i 0) &&& done == clo.getD i 0
    let c (i : Nat) : DK := ks.getD i .wr
    let pick : Option Nat :=
      match rem.find? (fun i => ready i && isPR (c i)) with
      | some i => some i
      | none =>
        match rem.find? (fun i => isWr (c i) && rem.all fun j => j == i || !isWr (c j) || !(clo.getD i 0).testBit j) with
        | some w => if ready w then some w else rem.find? (fun i => ready i && (clo.getD w 0).testBit i)
        | none => rem.find? ready
    match pick with
    | some i => orderGo ks clo n (rem.filter (· != i)) (done ||| 2 ^ i) (i :: acc)
    | none => acc.reverse
noncomputable def trG (ops : Array Oper) (x : Oper) : FOp :=
  match x.guard with
  | none => opOr (trOp P x.op)
  | some (j, w) => match guardTmp ops j with
    | some t => gF (opOr (trOp P x.op)) t w
    | none => fBad
def dstOk (N : Nat) (x : Oper) : Bool :=
  match x.dst with
  | some d => Nat.blt d N
  | none => true
noncomputable def drawOp (N : Nat) (ops : Array Oper) (clo : List Nat) (i : Nat) : DOp :=
  match ops.toList[i]? with
  | some x => bif dstOk N x then ⟨i, dk P x.op, clo.getD i 0, x.dst, x.looksAt ops, trG P ops x⟩ else ⟨i, .wr, clo.getD i 0, none, [], fBad⟩
  | none => ⟨i, .wr, clo.getD i 0, none, [], fBad⟩
def drawClo (ops : Array Oper) : List Nat := closures ops.toList []
def drawOrder (ops : Array Oper) : List Nat := orderGo (ops.toList.map fun o => dk P o.op) (drawClo ops) ops.toList.length (List.range ops.toList.length) 0 []
noncomputable def drawOps (N : Nat) (ops : Array Oper) : List DOp := (drawOrder P ops).map (drawOp P N ops (drawClo ops))

/-- In this order each operation comes behind all that it hangs on in this mode. -/
def topoGo (md : Region.Mode) (ops : Array Oper) : List Nat → List Nat → Bool
  | [], _ => true
  | i :: l, done => (match ops.toList[i]? with
    | some o => o.after.toList.all fun e => !Region.binds md e || done.contains e.on
    | none => false) && topoGo md ops l (i :: done)
def topoFind (md : Region.Mode) (ops : Array Oper) : Nat → List Nat → List Nat → List Nat
  | 0, _, done => done.reverse
  | n + 1, rem, done => match rem.find? fun i => (match ops.toList[i]? with
      | some o => o.after.toList.all fun e => !Region.binds md e || done.contains e.on
      | none => false) with
    | some i => topoFind md ops n (rem.filter (· != i)) (i :: done)
    | none => done.reverse
def allIn (n : Nat) (l : List Nat) : Bool := (List.range n).all fun i => l.contains i
def modeOk (md : Region.Mode) (ops : Array Oper) (l : List Nat) : Bool := allIn ops.toList.length l && topoGo md ops l []
def nodupB : List Nat → Bool
  | [] => true
  | i :: l => !l.contains i && nodupB l
def cloOk (ops : Array Oper) (clo : List Nat) : Bool :=
  (List.range ops.toList.length).all fun i => match ops.toList[i]? with
    | some o => (List.range ops.toList.length).all fun j => !bitOf (clo.getD i 0) j || o.after.toList.any fun e => bindsAny e && (e.on == j || bitOf (clo.getD e.on 0) j)
    | none => false
def tsApart (y x : DOp) : Bool :=
  (match y.dst with
    | some d => !x.ts.contains d && !(x.dst == some d)
    | none => true) &&
  (match x.dst with
    | some d => !y.ts.contains d
    | none => true)
/-- May the second, which comes later in our order, go ahead of the first? -/
def kindsOk : DK → DK → Bool
  | .wr, .wr => false
  | .alloc, .wr => false
  | _, _ => true
def pairsOk : List DOp → Bool
  | [] => true
  | y :: l => (l.all fun x => bitOf x.clo y.i || (tsApart y x && kindsOk y.k x.k)) && pairsOk l
def departsB (ops : Array Oper) : Bool := ops.toList.any fun o => o.after.toList.any fun e => !Region.binds .any e
noncomputable def drawOk (N : Nat) (ops : Array Oper) : Bool :=
  let l := drawOps P N ops
  nodupB (drawOrder P ops) && (l.length == ops.toList.length) && cloOk ops (drawClo ops) && pairsOk l && modeOk .any ops (drawOrder P ops) &&
  (!departsB ops || (modeOk .text ops (topoFind .text ops ops.toList.length (List.range ops.toList.length) []) && modeOk .gc ops (topoFind .gc ops ops.toList.length (List.range ops.toList.length) [])))

noncomputable def trCode (N : Nat) (c : Code) : FC :=
  match c with
  | .skip => cSkip
  | .region _ ops false => cReg (ops.toList.map (trOper P N ops))
  | .region _ ops true => if drawOk P N ops = true then cDraw (drawOps P N ops) else cBad
  | .seq a b => cSeq (trCode N a) (trCode N b)
  | .cond x a b => match trX x with
    | some x => cCond x (trCode N a) (trCode N b)
    | none => cBad
  | .block id c => cBlock id (trCode N c)
  | .loop c => cLoop (trCode N c)
  | .exit id => cExit id
  | .ret => cRet
  | _ => cBad
def trRes : List ResultVar → Option (List ARes)
  | [] => some []
  | .tmp t :: rs => (trRes rs).map (.tmp t :: ·)
  | .cell a t :: rs => match aggA P t, sizeA P t, trRes rs with
    | some true, some n, some l => some (.cellN a n :: l)
    | some false, some _, some l => some (.cell1 a :: l)
    | _, _, _ => none
noncomputable def trFn (F : Func) : Option FFn :=
  match F.body, trRes P F.results.toList with
  | some c, some rs => if F.name = "runtime.NumGoroutine" then none else some ⟨rs, trCode P F.ntmps c⟩
  | _, _ => none

end Go.Am
