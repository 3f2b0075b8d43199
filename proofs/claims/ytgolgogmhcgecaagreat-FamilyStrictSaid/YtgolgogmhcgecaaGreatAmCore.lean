/- An abstract machine for the model's code: values whose blocks bear numbers of their own, a heap of such blocks, and an evaluator that answers or fails. -/
import Derived.Orders
namespace Go.Am
set_option linter.unusedVariables false

/-! ### Finite maps -/
inductive Tr (α : Type) where
  | leaf
  | node (v : Option α) (l r : Tr α)

noncomputable def Tr.get {α : Type} (t : Tr α) : Nat → Option α :=
  Tr.rec (motive := fun _ => Nat → Option α) (fun _ => none)
    (fun v _ _ gl gr i => Nat.rec (motive := fun _ => Option α) v
      (fun n _ => Bool.rec (motive := fun _ => Option α) (gr (Nat.div n 2)) (gl (Nat.div n 2)) (Nat.beq (Nat.mod n 2) 0)) i) t
noncomputable def Tr.single {α : Type} (x : Option α) (f : Nat) : Nat → Tr α :=
  Nat.rec (motive := fun _ => Nat → Tr α) (fun _ => .leaf)
    (fun _ ih i => Nat.rec (motive := fun _ => Tr α) (.node x .leaf .leaf)
      (fun n _ => Bool.rec (motive := fun _ => Tr α) (.node none .leaf (ih (Nat.div n 2))) (.node none (ih (Nat.div n 2)) .leaf) (Nat.beq (Nat.mod n 2) 0)) i) f
noncomputable def Tr.put {α : Type} (x : Option α) (t : Tr α) : Nat → Tr α :=
  Tr.rec (motive := fun _ => Nat → Tr α) (fun i => Tr.single x (Nat.succ i) i)
    (fun v l r pl pr i => Nat.rec (motive := fun _ => Tr α) (.node x l r)
      (fun n _ => Bool.rec (motive := fun _ => Tr α) (.node v l (pr (Nat.div n 2))) (.node v (pl (Nat.div n 2)) r) (Nat.beq (Nat.mod n 2) 0)) i) t

theorem Tr.get_leaf {α : Type} (i : Nat) : (Tr.leaf : Tr α).get i = none := rfl
theorem Tr.get_zero {α : Type} (v : Option α) (l r : Tr α) : (Tr.node v l r).get 0 = v := rfl
theorem Tr.get_succ {α : Type} (v : Option α) (l r : Tr α) (n : Nat) : (Tr.node v l r).get (n + 1) = bif Nat.beq (n % 2) 0 then l.get (n / 2) else r.get (n / 2) := by
  show Bool.rec (motive := fun _ => Option α) (r.get (n / 2)) (l.get (n / 2)) (Nat.beq (n % 2) 0) = _
  cases Nat.beq (n % 2) 0 <;> rfl
theorem Tr.single_zero {α : Type} (x : Option α) (f : Nat) : Tr.single x (f + 1) 0 = .node x .leaf .leaf := rfl
theorem Tr.single_succ {α : Type} (x : Option α) (f n : Nat) : Tr.single x (f + 1) (n + 1) = bif Nat.beq (n % 2) 0 then .node none (Tr.single x f (n / 2)) .leaf else .node none .leaf (Tr.single x f (n / 2)) := by
  show Bool.rec (motive := fun _ => Tr α) (.node none .leaf (Tr.single x f (n / 2))) (.node none (Tr.single x f (n / 2)) .leaf) (Nat.beq (n % 2) 0) = _
  cases Nat.beq (n % 2) 0 <;> rfl
theorem Tr.put_leaf {α : Type} (x : Option α) (i : Nat) : (Tr.leaf : Tr α).put x i = Tr.single x (i + 1) i := rfl
theorem Tr.put_zero {α : Type} (x v : Option α) (l r : Tr α) : (Tr.node v l r).put x 0 = .node x l r := rfl
theorem Tr.put_succ {α : Type} (x v : Option α) (l r : Tr α) (n : Nat) : (Tr.node v l r).put x (n + 1) = bif Nat.beq (n % 2) 0 then .node v (l.put x (n / 2)) r else .node v l (r.put x (n / 2)) := by
  show Bool.rec (motive := fun _ => Tr α) (.node v l (r.put x (n / 2))) (.node v (l.put x (n / 2)) r) (Nat.beq (n % 2) 0) = _
  cases Nat.beq (n % 2) 0 <;> rfl

/-! ### Values -/
inductive Cap where
  | ex (c : Nat)
  | full (es : Nat)

inductive AV where
  | bool (b : Bool)
  | int (k : IntKind) (n : Int)
  | str (s : List Nat)
  | ptr (o off : Nat)
  | nilPtr
  | slice (o off len : Nat) (cap : Cap)
  | nilSlice
  | map (o : Nat)
  | nilMap
  | func (f : Nat) (caps : List AV)
  | nilFunc
  | emptySl
  | agg (cs : List AV)
  | tuple (vs : List AV)
  | res (k : IntKind) (m r : Nat)

def AV.undef : AV := .tuple []
def AV.cells : AV → List AV
  | .agg cs => cs
  | v => [v]
/-- The value of one cell. -/
def AV.one : AV → Bool
  | .agg _ => false
  | .tuple _ => false
  | _ => true

inductive AObj where
  | cells (cs : List AV) (ro : Bool)
  | map (es : List (AV × AV))

structure St where
  heap : Tr AObj
  next : Nat

/-! ### Code -/
inductive AX where
  | t (t : Nat)
  | c (v : AV)

inductive EqK where
  | int | str | bool
  | ptr | slice | map | func
  | flat (ks : List Nat)

inductive ARes where
  | tmp (t : Nat)
  | cell1 (t : Nat)
  | cellN (t n : Nat)

/-! ### Numbers -/
def kEq : IntKind → IntKind → Bool
  | .i64, .i64 => true | .u8, .u8 => true | .u64, .u64 => true | .u32, .u32 => true | .i32, .i32 => true
  | .i8, .i8 => true | .i16, .i16 => true | .u16, .u16 => true
  | _, _ => false
def kMax : IntKind → Nat
  | .i8 => 127 | .i16 => 32767 | .i32 => 2147483647 | .i64 => 9223372036854775807
  | .u8 => 255 | .u16 => 65535 | .u32 => 4294967295 | .u64 => 18446744073709551615
def kSigned : IntKind → Bool
  | .i8 | .i16 | .i32 | .i64 => true
  | _ => false
def kBits : IntKind → Nat
  | .i8 | .u8 => 8 | .i16 | .u16 => 16 | .i32 | .u32 => 32 | .i64 | .u64 => 64
def inRange (k : IntKind) : Int → Bool
  | .ofNat m => Nat.ble m (kMax k)
  | .negSucc m => bif kSigned k then Nat.ble m (kMax k) else false
def wr (k : IntKind) (n : Int) : Int := bif inRange k n then n else k.wrap n
def iLe : Int → Int → Bool
  | .ofNat a, .ofNat b => Nat.ble a b
  | .negSucc _, .ofNat _ => true
  | .ofNat _, .negSucc _ => false
  | .negSucc a, .negSucc b => Nat.ble b a
def iEq : Int → Int → Bool
  | .ofNat a, .ofNat b => Nat.beq a b
  | .negSucc a, .negSucc b => Nat.beq a b
  | _, _ => false
def bNot : Bool → Bool
  | true => false
  | false => true

def intBin (op : BinOp) (k : IntKind) (a b : Int) : Option AV :=
  match op with
  | .add => some (.int k (wr k (a + b)))
  | .sub => some (.int k (wr k (a - b)))
  | .mul => some (.int k (wr k (a * b)))
  | .quo => bif iEq b 0 then none else some (.int k (wr k (a.tdiv b)))
  | .rem => bif iEq b 0 then none else some (.int k (a.tmod b))
  | .eql => some (.bool (iEq a b))
  | .neq => some (.bool (bNot (iEq a b)))
  | .lss => some (.bool (bNot (iLe b a)))
  | .leq => some (.bool (iLe a b))
  | .gtr => some (.bool (bNot (iLe a b)))
  | .geq => some (.bool (iLe b a))
  | .and => match a, b with
    | .ofNat x, .ofNat y => bif Nat.ble x (kMax k) then bif Nat.ble y (kMax k) then some (.int k (.ofNat (Nat.land x y))) else none else none
    | _, _ => none
  | .xor => match a, b with
    | .ofNat x, .ofNat y => bif Nat.ble x (kMax k) then bif Nat.ble y (kMax k) then some (.int k (.ofNat (Nat.xor x y))) else none else none
    | _, _ => none
  | _ => none

def shift (op : BinOp) (k : IntKind) (a b : Int) : Option AV :=
  match op, b with
  | .shl, .ofNat n => some (.int k (wr k (a * (.ofNat (2 ^ (Nat.min n (kBits k)))))))
  | .shr, .ofNat n => some (.int k (a.fdiv (.ofNat (2 ^ (Nat.min n (kBits k))))))
  | _, _ => none

noncomputable def lenL {α : Type} (l : List α) : Nat := List.rec (motive := fun _ => Nat) 0 (fun _ _ n => Nat.succ n) l
noncomputable def appL {α : Type} (l m : List α) : List α := List.rec (motive := fun _ => List α) m (fun a _ r => a :: r) l

/-! ### Strings -/
noncomputable def sEq (a : List Nat) : List Nat → Bool :=
  List.rec (motive := fun _ => List Nat → Bool) (fun y => List.rec (motive := fun _ => Bool) true (fun _ _ _ => false) y)
    (fun a _ ih y => List.rec (motive := fun _ => Bool) false (fun b y _ => Bool.rec (motive := fun _ => Bool) false (ih y) (Nat.beq a b)) y) a
noncomputable def sLt (a : List Nat) : List Nat → Bool :=
  List.rec (motive := fun _ => List Nat → Bool) (fun y => List.rec (motive := fun _ => Bool) false (fun _ _ _ => true) y)
    (fun a _ ih y => List.rec (motive := fun _ => Bool) false (fun b y _ => Bool.rec (motive := fun _ => Bool) (Bool.rec (motive := fun _ => Bool) false (ih y) (Nat.beq a b)) true (Nat.blt a b)) y) a
noncomputable def strBin (op : BinOp) (a b : List Nat) : Option AV :=
  match op with
  | .add => bif Nat.ble (lenL a + lenL b) 9223372036854775807 then some (.str (appL a b)) else none
  | .eql => some (.bool (sEq a b))
  | .neq => some (.bool (bNot (sEq a b)))
  | .lss => some (.bool (sLt a b))
  | .leq => some (.bool (bNot (sLt b a)))
  | .gtr => some (.bool (sLt b a))
  | .geq => some (.bool (bNot (sLt a b)))
  | _ => none

def bBeq : Bool → Bool → Bool
  | true, b => b
  | false, b => bNot b

def andO : Option Bool → Option Bool → Option Bool
  | some a, some b => some (bif a then b else false)
  | _, _ => none
/-- Two cells of a plain kind (0: a number, 1: a string, 2: a bool): equal? -/
noncomputable def cellEq : Nat → AV → AV → Option Bool
  | 0, .int k a, .int k' b => bif kEq k k' then some (iEq a b) else none
  | 1, .str a, .str b => some (sEq a b)
  | 2, .bool a, .bool b => some (bBeq a b)
  | _, _, _ => none
noncomputable def cellsEq (ks : List Nat) : List AV → List AV → Option Bool :=
  List.rec (motive := fun _ => List AV → List AV → Option Bool) (fun x y => match x, y with
      | [], [] => some true
      | _, _ => none)
    (fun k _ ih x y => match x, y with
      | a :: x, b :: y => andO (cellEq k a b) (ih x y)
      | _, _ => none) ks

/-- Is it nil (one of both is the literal)? -/
noncomputable def nilEq (k : EqK) (a b : AV) : Option Bool :=
  match k, a, b with
  | .ptr, .nilPtr, .nilPtr => some true
  | .ptr, .nilPtr, .ptr _ _ => some false
  | .ptr, .ptr _ _, .nilPtr => some false
  | .slice, .nilSlice, .nilSlice => some true
  | .slice, .nilSlice, .slice _ _ _ _ => some false
  | .slice, .slice _ _ _ _, .nilSlice => some false
  | .map, .nilMap, .nilMap => some true
  | .map, .nilMap, .map _ => some false
  | .map, .map _, .nilMap => some false
  | .func, .nilFunc, .nilFunc => some true
  | .func, .nilFunc, .func _ _ => some false
  | .func, .func _ _, .nilFunc => some false
  | .bool, .bool a, .bool b => some (bBeq a b)
  | .flat ks, .agg a, .agg b => cellsEq ks a b
  | _, _, _ => none

noncomputable def evalBin (op : BinOp) (k : EqK) (x y : AV) : Option AV :=
  match x, y with
  | .int j a, .int j' b => match op with
    | .shl => shift .shl j a b
    | .shr => shift .shr j a b
    | op => bif kEq j j' then intBin op j a b else none
  | .str a, .str b => strBin op a b
  | x, y => match op with
    | .eql => (nilEq k x y).map .bool
    | .neq => (nilEq k x y).map fun b => .bool (bNot b)
    | _ => none

/-! ### Cells -/
def consO (c : AV) : Option (List AV) → Option (List AV)
  | some l => some (c :: l)
  | none => none
noncomputable def takeN (cs : List AV) : Nat → Option (List AV) :=
  List.rec (motive := fun _ => Nat → Option (List AV)) (fun n => Nat.rec (motive := fun _ => Option (List AV)) (some []) (fun _ _ => none) n)
    (fun c _ ih n => Nat.rec (motive := fun _ => Option (List AV)) (some []) (fun n _ => consO c (ih n)) n) cs
noncomputable def rdN (cs : List AV) : Nat → Nat → Option (List AV) :=
  List.rec (motive := fun _ => Nat → Nat → Option (List AV)) (fun o n => Nat.rec (motive := fun _ => Option (List AV)) (takeN [] n) (fun _ _ => none) o)
    (fun c cs ih o n => Nat.rec (motive := fun _ => Option (List AV)) (takeN (c :: cs) n) (fun o _ => ih o n) o) cs
noncomputable def rd1 (cs : List AV) : Nat → Option AV :=
  List.rec (motive := fun _ => Nat → Option AV) (fun _ => none)
    (fun c _ ih o => Nat.rec (motive := fun _ => Option AV) (some c) (fun o _ => ih o) o) cs
/-- Written over from there on, all within. -/
noncomputable def overN (vs : List AV) : List AV → Option (List AV) :=
  List.rec (motive := fun _ => List AV → Option (List AV)) (fun cs => some cs)
    (fun v _ ih cs => List.rec (motive := fun _ => Option (List AV)) none (fun _ cs _ => consO v (ih cs)) cs) vs
noncomputable def wrN (cs : List AV) : Nat → List AV → Option (List AV) :=
  List.rec (motive := fun _ => Nat → List AV → Option (List AV)) (fun o vs => Nat.rec (motive := fun _ => Option (List AV)) (overN vs []) (fun _ _ => none) o)
    (fun c cs ih o vs => Nat.rec (motive := fun _ => Option (List AV)) (overN vs (c :: cs)) (fun o _ => consO c (ih o vs)) o) cs
noncomputable def nth (cs : List Nat) : Nat → Option Nat :=
  List.rec (motive := fun _ => Nat → Option Nat) (fun _ => none)
    (fun c _ ih o => Nat.rec (motive := fun _ => Option Nat) (some c) (fun o _ => ih o) o) cs
noncomputable def allOne (vs : List AV) : Bool :=
  List.rec (motive := fun _ => Bool) true (fun v _ ih => Bool.rec (motive := fun _ => Bool) false ih v.one) vs

noncomputable def St.load (s : St) (o off n : Nat) : Option (List AV) :=
  match s.heap.get o with
  | some (.cells cs _) => rdN cs off n
  | _ => none
noncomputable def St.load1 (s : St) (o off : Nat) : Option AV :=
  match s.heap.get o with
  | some (.cells cs _) => rd1 cs off
  | _ => none
noncomputable def St.store (s : St) (o off : Nat) (vs : List AV) : Option St :=
  match s.heap.get o with
  | some (.cells cs false) => match wrN cs off vs with
    | some cs' => some ⟨s.heap.put (some (.cells cs' false)) o, s.next⟩
    | none => none
  | _ => none
noncomputable def St.new (s : St) (x : AObj) : Nat × St := (s.next, ⟨s.heap.put (some x) s.next, s.next + 1⟩)

/-! ### Operands -/
noncomputable def evX (e : Tr AV) : AX → Option AV
  | .t t => e.get t
  | .c v => some v
noncomputable def evXs (e : Tr AV) (l : List AX) : Option (List AV) :=
  List.rec (motive := fun _ => Option (List AV)) (some []) (fun x _ ih => match evX e x with
    | some v => consO v ih
    | none => none) l
def natOf : AV → Option Nat
  | .int _ (.ofNat n) => some n
  | _ => none
/-- A bound of a cut, none: the default. -/
noncomputable def bound (e : Tr AV) (d : Nat) : Option AX → Option Nat
  | none => some d
  | some x => match evX e x with
    | some v => natOf v
    | none => none

noncomputable def fills (e : Tr AV) (cs : List AV) (ps : List (Nat × Nat × AX)) : Option (List AV) :=
  List.rec (motive := fun _ => List AV → Option (List AV)) (fun cs => some cs) (fun p _ ih cs => match p with
    | (off, n, x) => match evX e x with
      | some v => bif Nat.beq (lenL v.cells) n then match wrN cs off v.cells with
        | some cs' => ih cs'
        | none => none else none
      | none => none) ps cs

def byteOf : AV → Option Nat
  | .int .u8 (.ofNat n) => bif Nat.ble n 255 then some n else none
  | _ => none
noncomputable def byteNums (l : List AV) : Option (List Nat) :=
  List.rec (motive := fun _ => Option (List Nat)) (some []) (fun c _ ih => match byteOf c with
    | some n => match ih with
      | some l => some (n :: l)
      | none => none
    | none => none) l
noncomputable def numBytes (l : List Nat) : List AV :=
  List.rec (motive := fun _ => List AV) [] (fun b _ ih => .int .u8 (.ofNat b) :: ih) l

noncomputable def repN {α : Type} (l : List α) (n : Nat) : List α :=
  Nat.rec (motive := fun _ => List α) [] (fun _ ih => appL l ih) n

/-! ### Maps -/
noncomputable def keyEq : AV → AV → Option Bool
  | .str a, .str b => some (sEq a b)
  | .int k a, .int k' b => bif kEq k k' then some (iEq a b) else none
  | _, _ => none
/-- Is it a key of its kind (true: a string, false: a number)? -/
def isKey : Bool → AV → Bool
  | true, .str _ => true
  | false, .int _ _ => true
  | _, _ => false
/-- What stands at a key; none: kinds that are not told here. -/
noncomputable def findK (k : AV) (es : List (AV × AV)) : Option (Option AV) :=
  List.rec (motive := fun _ => Option (Option AV)) (some none) (fun e _ ih => match keyEq k e.1 with
    | some b => bif b then some (some e.2) else ih
    | none => none) es
noncomputable def putK (k x : AV) (es : List (AV × AV)) : Option (List (AV × AV)) :=
  List.rec (motive := fun _ => Option (List (AV × AV))) (some [(k, x)]) (fun e es ih => match keyEq k e.1 with
    | some b => bif b then some ((k, x) :: es) else match ih with
      | some l => some (e :: l)
      | none => none
    | none => none) es

/-! ### Slices -/
/-- 'x[l:h]' of a slice that begins at off, es cells an element; L: the cells of its block that are known. -/
def lmax (a b : Nat) : Nat := bif Nat.ble a b then b else a
def cutSl (es o off len : Nat) (cap : Cap) (L : Nat) (l : Nat) (h : Nat) (mx : Option Nat) : Option AV :=
  bif Nat.ble l h then
    match cap, mx with
    | .ex c, none => bif Nat.ble h c then some (.slice o (bif Nat.beq c l then off else off + l * es) (h - l) (.ex (c - l))) else none
    | .ex c, some m => bif Nat.ble h m then bif Nat.ble m c then some (.slice o (bif Nat.beq m l then off else off + l * es) (h - l) (.ex (m - l))) else none else none
    | .full es', none => bif Nat.beq es es' then
        bif Nat.ble (off + h * es) (lmax L (off + len * es)) then bif Nat.blt (off + l * es) (lmax L (off + len * es)) then some (.slice o (off + l * es) (h - l) (.full es)) else bif Nat.beq l 0 then some (.slice o off h (.full es)) else some .emptySl else none else none
    | .full es', some m => bif Nat.beq es es' then
        bif Nat.ble (off + m * es) (lmax L (off + len * es)) then bif Nat.ble h m then some (.slice o (bif Nat.beq m l then off else off + l * es) (h - l) (.ex (m - l))) else none else none else none
  else none

/-- How far a block is known. -/
noncomputable def St.known (s : St) (o : Nat) : Nat :=
  match s.heap.get o with
  | some (.cells cs false) => lenL cs
  | _ => 0

/-- 'append' of the cells vs (n elements, es cells each) to a slice. bytes: of an element. -/
noncomputable def appendTo (s : St) (es bytes : Nat) (x : AV) (n : Nat) (vs : List AV) : Option (AV × St) :=
  match x with
  | .nilSlice => match n with
    | 0 => some (.nilSlice, s)
    | _ => bif Nat.ble ((2 * n) * bytes) 140737488355328 then
        match s.new (.cells vs false) with
        | (o', s') => some (.slice o' 0 n (.full es), s') else none
  | .slice o off len cap =>
    match s.heap.get o with
    | some (.cells cs ro) =>
      match cap with
      | .ex c =>
        bif Nat.ble (len + n) c then
          match n with
          | 0 => some (.slice o off len (.ex c), s)
          | _ => match s.store o (off + len * es) vs with
            | some s' => some (.slice o off (len + n) (.ex c), s')
            | none => none
        else bif Nat.ble ((2 * (len + n) + 2 * c) * bytes) 140737488355328 then
          match rdN cs off (len * es) with
          | some old => match s.new (.cells (appL old vs) false) with
            | (o', s') => some (.slice o' 0 (len + n) (.full es), s')
          | none => none else none
      | .full es' =>
        bif Nat.beq es es' then
          bif ro then none else
          bif Nat.ble (off + (len + n) * es) (lenL cs) then
            match n with
            | 0 => some (.slice o off len (.full es), s)
            | _ => match s.store o (off + len * es) vs with
              | some s' => some (.slice o off (len + n) (.full es), s')
              | none => none
          else bif Nat.beq (off + len * es) (lenL cs) then
            bif Nat.beq off 0 then
            bif Nat.ble ((4 * (len + n)) * bytes) 140737488355328 then
              match s.new (.cells (appL cs vs) false) with
              | (o', s') => some (.slice o' 0 (len + n) (.full es), ⟨s'.heap.put none o, s'.next⟩) else none else none
          else none
        else none
    | _ => none
  | _ => none

/-! ### Operations -/
abbrev Call := Nat → List AV → St → Option (AV × St)

def maxOf : AV → List AV → Option AV
  | x, [] => some x
  | .int k a, .int k' b :: l => bif kEq k k' then bif iLe b a then maxOf (.int k a) l else maxOf (.int k b) l else none
  | _, _ => none
def minOf : AV → List AV → Option AV
  | x, [] => some x
  | .int k a, .int k' b :: l => bif kEq k k' then bif iLe a b then minOf (.int k a) l else minOf (.int k b) l else none
  | _, _ => none

/-- What is given as an answer, the state as it was. -/
def ans (s : St) : Option AV → Option (AV × St)
  | some v => some (v, s)
  | none => none

noncomputable def fMove (x : AX) (call : Call) (e : Tr AV) (s : St) : Option (AV × St) := ans s (evX e x)
noncomputable def fPick (c : AX) (a : AX) (b : AX) (call : Call) (e : Tr AV) (s : St) : Option (AV × St) := match evX e c with
    | some (.bool true) => ans s (evX e a)
    | some (.bool false) => ans s (evX e b)
    | _ => none
noncomputable def fAlloc (zs : List AV) (call : Call) (e : Tr AV) (s : St) : Option (AV × St) := match s.new (.cells zs false) with
    | (o, s') => some (.ptr o 0, s')
noncomputable def fBox (x : AX) (call : Call) (e : Tr AV) (s : St) : Option (AV × St) := match evX e x with
    | some v => match s.new (.cells v.cells false) with
      | (o, s') => some (.ptr o 0, s')
    | none => none
noncomputable def fBuild (zs : List AV) (ps : List (Nat × Nat × AX)) (call : Call) (e : Tr AV) (s : St) : Option (AV × St) := match fills e zs ps with
    | some cs => some (.agg cs, s)
    | none => none
noncomputable def fBuildSlice (len : Nat) (zs : List AV) (ps : List (Nat × Nat × AX)) (call : Call) (e : Tr AV) (s : St) : Option (AV × St) := match fills e zs ps with
    | some cs => match s.new (.cells cs false) with
      | (o, s') => some (.slice o 0 len (.ex len), s')
    | none => none
noncomputable def fLoad1 (x : AX) (call : Call) (e : Tr AV) (s : St) : Option (AV × St) := match evX e x with
    | some (.ptr o off) => ans s (s.load1 o off)
    | _ => none
noncomputable def fLoadN (x : AX) (n : Nat) (call : Call) (e : Tr AV) (s : St) : Option (AV × St) := match evX e x with
    | some (.ptr o off) => match s.load o off n with
      | some cs => some (.agg cs, s)
      | none => none
    | _ => none
noncomputable def fStore (x : AX) (v : AX) (n : Nat) (call : Call) (e : Tr AV) (s : St) : Option (AV × St) := match evX e x, evX e v with
    | some (.ptr o off), some v => match v.cells with
      | vs => bif Nat.beq (lenL vs) n then bif allOne vs then match s.store o off vs with
        | some s' => some (.undef, s')
        | none => none else none else none
    | _, _ => none
noncomputable def fNilCheck (x : AX) (call : Call) (e : Tr AV) (s : St) : Option (AV × St) := match evX e x with
    | some (.ptr o off) => some (.ptr o off, s)
    | some (.func f caps) => some (.func f caps, s)
    | _ => none
/-- A byte of which the remainder is known, divided. -/
def resBin (op : BinOp) (j : IntKind) (m r : Nat) (b : AV) : Option AV :=
  match op, b with
  | .rem, .int j' (.ofNat d) => bif kEq j j' then bif Nat.beq d 0 then none else bif Nat.beq (Nat.mod m d) 0 then some (.int j (.ofNat (Nat.mod r d))) else none else none
  | _, _ => none
noncomputable def fBin (op : BinOp) (k : EqK) (x : AX) (y : AX) (call : Call) (e : Tr AV) (s : St) : Option (AV × St) := match evX e x, evX e y with
    | some (.res j m r), some b => ans s (resBin op j m r b)
    | some a, some b => ans s (evalBin op k a b)
    | _, _ => none
noncomputable def fNot (x : AX) (call : Call) (e : Tr AV) (s : St) : Option (AV × St) := match evX e x with
    | some (.bool b) => some (.bool (bNot b), s)
    | _ => none
noncomputable def fNeg (x : AX) (call : Call) (e : Tr AV) (s : St) : Option (AV × St) := match evX e x with
    | some (.int k n) => some (.int k (wr k (0 - n)), s)
    | _ => none
noncomputable def fConvI (k : IntKind) (x : AX) (call : Call) (e : Tr AV) (s : St) : Option (AV × St) := match evX e x with
    | some (.int _ n) => some (.int k (wr k n), s)
    | some (.res _ m r) => bif Nat.ble 255 (kMax k) then some (.res k m r, s) else none
    | _ => none
noncomputable def fConvSB (x : AX) (call : Call) (e : Tr AV) (s : St) : Option (AV × St) := match evX e x with
    | some (.str b) => bif Nat.ble (lenL b) 1099511627776 then match s.new (.cells (numBytes b) false) with
      | (o, s') => some (.slice o 0 (lenL b) (.full 1), s') else none
    | _ => none
noncomputable def fConvBS (x : AX) (call : Call) (e : Tr AV) (s : St) : Option (AV × St) := match evX e x with
    | some .nilSlice => some (.str [], s)
    | some (.slice o off len _) => match s.load o off len with
      | some cs => match byteNums cs with
        | some b => some (.str b, s)
        | none => none
      | none => none
    | _ => none
noncomputable def fMkFunc (f : Nat) (caps : List AX) (call : Call) (e : Tr AV) (s : St) : Option (AV × St) := match evXs e caps with
    | some vs => some (.func f vs, s)
    | none => none
noncomputable def fMakeMap (call : Call) (e : Tr AV) (s : St) : Option (AV × St) := match s.new (.map []) with
    | (o, s') => some (.map o, s')
noncomputable def fMakeSlice (es : Nat) (bytes : Nat) (zs : List AV) (l : AX) (c : AX) (call : Call) (e : Tr AV) (s : St) : Option (AV × St) := match evX e l, evX e c with
    | some l, some c => match natOf l, natOf c with
      | some l, some c => bif Nat.ble l c then bif Nat.ble (c * bytes) 140737488355328 then
          match s.new (.cells (repN zs c) false) with
          | (o, s') => some (.slice o 0 l (.ex c), s') else none else none
      | _, _ => none
    | _, _ => none
noncomputable def fSliceStr (x : AX) (lo : Option AX) (hi : Option AX) (call : Call) (e : Tr AV) (s : St) : Option (AV × St) := match evX e x with
    | some (.str b) => match bound e 0 lo, bound e (lenL b) hi with
      | some l, some h => bif Nat.ble l h then bif Nat.ble h (lenL b) then some (.str ((b.take h).drop l), s) else none else none
      | _, _ => none
    | _ => none
noncomputable def fSliceSl (es : Nat) (x : AX) (lo : Option AX) (hi : Option AX) (mx : Option AX) (call : Call) (e : Tr AV) (s : St) : Option (AV × St) := match evX e x with
    | some .nilSlice => match bound e 0 lo, bound e 0 hi, bound e 0 mx with
      | some 0, some 0, some 0 => some (.nilSlice, s)
      | _, _, _ => none
    | some (.slice o off len cap) => match bound e 0 lo, bound e len hi with
      | some l, some h => match mx with
        | none => ans s (cutSl es o off len cap (s.known o) l h none)
        | some m => match bound e 0 (some m) with
          | some m => ans s (cutSl es o off len cap (s.known o) l h (some m))
          | none => none
      | _, _ => none
    | _ => none
noncomputable def fSliceArr (n : Nat) (es : Nat) (x : AX) (lo : Option AX) (hi : Option AX) (call : Call) (e : Tr AV) (s : St) : Option (AV × St) := match evX e x with
    | some (.ptr o off) => match bound e 0 lo, bound e n hi with
      | some l, some h => bif Nat.ble l h then bif Nat.ble h n then
          some (.slice o (bif Nat.beq n l then off else off + l * es) (h - l) (.ex (n - l)), s) else none else none
      | _, _ => none
    | _ => none
noncomputable def fFieldAddr (k : Nat) (x : AX) (call : Call) (e : Tr AV) (s : St) : Option (AV × St) := match evX e x with
    | some (.ptr o off) => some (.ptr o (off + k), s)
    | _ => none
noncomputable def fField1 (k : Nat) (x : AX) (call : Call) (e : Tr AV) (s : St) : Option (AV × St) := match evX e x with
    | some (.agg cs) => ans s (rd1 cs k)
    | _ => none
noncomputable def fFieldN (k : Nat) (n : Nat) (x : AX) (call : Call) (e : Tr AV) (s : St) : Option (AV × St) := match evX e x with
    | some (.agg cs) => match rdN cs k n with
      | some l => some (.agg l, s)
      | none => none
    | _ => none
noncomputable def fIndexAddr (es : Nat) (x : AX) (i : AX) (call : Call) (e : Tr AV) (s : St) : Option (AV × St) := match evX e x, evX e i with
    | some (.slice o off len _), some i => match natOf i with
      | some i => bif Nat.blt i len then some (.ptr o (off + i * es), s) else none
      | none => none
    | _, _ => none
noncomputable def fIndexArr (n : Nat) (es : Nat) (x : AX) (i : AX) (call : Call) (e : Tr AV) (s : St) : Option (AV × St) := match evX e x, evX e i with
    | some (.ptr o off), some i => match natOf i with
      | some i => bif Nat.blt i n then some (.ptr o (off + i * es), s) else none
      | none => none
    | _, _ => none
noncomputable def fIndexStr (x : AX) (i : AX) (call : Call) (e : Tr AV) (s : St) : Option (AV × St) := match evX e x, evX e i with
    | some (.str b), some i => match natOf i with
      | some i => match nth b i with
        | some c => some (.int .u8 (.ofNat c), s)
        | none => none
      | none => none
    | _, _ => none
noncomputable def fIndexAgg1 (n : Nat) (x : AX) (i : AX) (call : Call) (e : Tr AV) (s : St) : Option (AV × St) := match evX e x, evX e i with
    | some (.agg cs), some i => match natOf i with
      | some i => bif Nat.blt i n then ans s (rd1 cs i) else none
      | none => none
    | _, _ => none
noncomputable def fLookup (kd : Bool) (zero : AV) (ok : Bool) (x : AX) (i : AX) (call : Call) (e : Tr AV) (s : St) : Option (AV × St) := match evX e x, evX e i with
    | some m, some k => match (match m with
        | .nilMap => bif isKey kd k then some none else none
        | .map o => match s.heap.get o with
          | some (.map es) => bif isKey kd k then findK k es else none
          | _ => none
        | _ => none : Option (Option AV)) with
      | some (some v) => some ((bif ok then .tuple [v, .bool true] else v), s)
      | some none => some ((bif ok then .tuple [zero, .bool false] else zero), s)
      | none => none
    | _, _ => none
noncomputable def fMapUpdate (kd : Bool) (m : AX) (k : AX) (v : AX) (call : Call) (e : Tr AV) (s : St) : Option (AV × St) := match evX e m, evX e k, evX e v with
    | some (.map o), some k, some v => match s.heap.get o with
      | some (.map es) => bif isKey kd k then match putK k v es with
        | some es' => some (.undef, ⟨s.heap.put (some (.map es')) o, s.next⟩)
        | none => none else none
      | _ => none
    | _, _, _ => none
noncomputable def fExtract (x : AX) (i : Nat) (call : Call) (e : Tr AV) (s : St) : Option (AV × St) := match evX e x with
    | some (.tuple vs) => ans s (rd1 vs i)
    | _ => none
noncomputable def fCall (f : Nat) (args : List AX) (call : Call) (e : Tr AV) (s : St) : Option (AV × St) := match evXs e args with
    | some vs => call f vs s
    | none => none
noncomputable def fCallV (x : AX) (args : List AX) (call : Call) (e : Tr AV) (s : St) : Option (AV × St) := match evX e x, evXs e args with
    | some (.func f caps), some vs => call f (appL vs caps) s
    | _, _ => none
noncomputable def fLenStr (x : AX) (call : Call) (e : Tr AV) (s : St) : Option (AV × St) := match evX e x with
    | some (.str b) => some (.int .i64 (.ofNat (lenL b)), s)
    | _ => none
noncomputable def fLenSl (x : AX) (call : Call) (e : Tr AV) (s : St) : Option (AV × St) := match evX e x with
    | some .nilSlice => some (.int .i64 (.ofNat 0), s)
    | some (.slice _ _ len _) => some (.int .i64 (.ofNat len), s)
    | some .emptySl => some (.int .i64 (.ofNat 0), s)
    | _ => none
noncomputable def fLenMap (x : AX) (call : Call) (e : Tr AV) (s : St) : Option (AV × St) := match evX e x with
    | some .nilMap => some (.int .i64 (.ofNat 0), s)
    | some (.map o) => match s.heap.get o with
      | some (.map es) => some (.int .i64 (.ofNat (lenL es)), s)
      | _ => none
    | _ => none
noncomputable def fAppend (es : Nat) (bytes : Nat) (x : AX) (y : AX) (call : Call) (e : Tr AV) (s : St) : Option (AV × St) := match evX e x, evX e y with
    | some a, some .nilSlice => appendTo s es bytes a 0 []
    | some a, some (.slice o off len _) => match s.load o off (len * es) with
      | some vs => bif allOne vs then appendTo s es bytes a len vs else none
      | none => none
    | _, _ => none
noncomputable def fAppendStr (x : AX) (y : AX) (call : Call) (e : Tr AV) (s : St) : Option (AV × St) := match evX e x, evX e y with
    | some a, some (.str b) => appendTo s 1 1 a (lenL b) (numBytes b)
    | _, _ => none
noncomputable def fAppendZeros (es : Nat) (bytes : Nat) (zs : List AV) (x : AX) (n : AX) (call : Call) (e : Tr AV) (s : St) : Option (AV × St) := match evX e x, evX e n with
    | some a, some n => match natOf n with
      | some n => bif allOne zs then bif Nat.ble (n * bytes) 140737488355328 then appendTo s es bytes a n (repN zs n) else none else none
      | none => none
    | _, _ => none
noncomputable def fMax (xs : List AX) (call : Call) (e : Tr AV) (s : St) : Option (AV × St) := match evXs e xs with
    | some (x :: l) => ans s (maxOf x l)
    | _ => none
noncomputable def fMin (xs : List AX) (call : Call) (e : Tr AV) (s : St) : Option (AV × St) := match evXs e xs with
    | some (x :: l) => ans s (minOf x l)
    | _ => none
noncomputable def fCopy (es : Nat) (x : AX) (y : AX) (call : Call) (e : Tr AV) (s : St) : Option (AV × St) := match evX e x, evX e y with
    | some .nilSlice, some .nilSlice => some (.int .i64 (.ofNat 0), s)
    | some .nilSlice, some (.slice _ _ _ _) => some (.int .i64 (.ofNat 0), s)
    | some (.slice _ _ _ _), some .nilSlice => some (.int .i64 (.ofNat 0), s)
    | some (.slice o off len _), some (.slice o' off' len' _) => match Nat.min len' len with
      | n => match s.load o' off' (n * es) with
        | some vs => bif allOne vs then match s.store o off vs with
          | some s' => some (.int .i64 (.ofNat n), s')
          | none => none else none
        | none => none
    | _, _ => none
noncomputable def fCopyStr (x : AX) (y : AX) (call : Call) (e : Tr AV) (s : St) : Option (AV × St) := none
noncomputable def fCapSl (x : AX) (call : Call) (e : Tr AV) (s : St) : Option (AV × St) := match evX e x with
    | some .nilSlice => some (.int .i64 (.ofNat 0), s)
    | some (.slice _ _ _ (.ex c)) => some (.int .i64 (.ofNat c), s)
    | _ => none
noncomputable def fBad (call : Call) (e : Tr AV) (s : St) : Option (AV × St) := none

/-! ### Regions -/
abbrev FOp := Call → Tr AV → St → Option (AV × St)
abbrev FO := Call → Tr AV → St → Option (Tr AV × St)
noncomputable def putT (e : Tr AV) : Option Nat → AV → Tr AV
  | some d, v => e.put (some v) d
  | none, _ => e
/-- Is an operation wanted? none: it can't be told. -/
noncomputable def wantedA (e : Tr AV) (t : Nat) (want : Bool) : Option Bool :=
  match e.get t with
  | some (.bool b) => some (bBeq b want)
  | some (.tuple []) => some false
  | _ => none
noncomputable def o (d : Nat) (f : FOp) (call : Call) (e : Tr AV) (s : St) : Option (Tr AV × St) := match f call e s with
  | some (v, s') => some (e.put (some v) d, s')
  | none => none
noncomputable def n (f : FOp) (call : Call) (e : Tr AV) (s : St) : Option (Tr AV × St) := match f call e s with
  | some (_, s') => some (e, s')
  | none => none
noncomputable def g (d : Nat) (f : FOp) (t : Nat) (w : Bool) (call : Call) (e : Tr AV) (s : St) : Option (Tr AV × St) := match wantedA e t w with
  | some true => o d f call e s
  | some false => some (e.put (some .undef) d, s)
  | none => none
noncomputable def h (f : FOp) (t : Nat) (w : Bool) (call : Call) (e : Tr AV) (s : St) : Option (Tr AV × St) := match wantedA e t w with
  | some true => n f call e s
  | some false => some (e, s)
  | none => none
noncomputable def opsF (l : List FO) (call : Call) : Tr AV → St → Option (Tr AV × St) :=
  List.rec (motive := fun _ => Tr AV → St → Option (Tr AV × St)) (fun e s => some (e, s)) (fun o _ ih e s => match o call e s with
    | some (e', s') => ih e' s'
    | none => none) l

/-! ### Regions that draw their order -/
/-- A guarded operation that answers even when it is not wanted. -/
noncomputable def gF (f : FOp) (t : Nat) (w : Bool) (call : Call) (e : Tr AV) (s : St) : Option (AV × St) := match wantedA e t w with
  | some true => f call e s
  | some false => some (.undef, s)
  | none => none
/-- What an operation of such a region is: it looks at no memory; it loads; it makes one block; anything else. -/
inductive DK where
  | pure
  | rd1 (x : AX)
  | rdN (x : AX) (n : Nat)
  | alloc
  | wr
/-- An operation of such a region: its number, its kind, what it hangs on (a bit each), where its value goes, what it looks at, what it does. -/
structure DOp where
  i : Nat
  k : DK
  clo : Nat
  dst : Option Nat
  ts : List Nat
  f : FOp
/-- Two cells alike (values of one cell alone; functions are not told). -/
noncomputable def cellSame : AV → AV → Bool
  | .bool a, .bool b => bBeq a b
  | .int k a, .int k' b => bif kEq k k' then iEq a b else false
  | .ptr o f, .ptr o' f' => bif Nat.beq o o' then Nat.beq f f' else false
  | .nilPtr, .nilPtr => true
  | .slice o f l (.ex c), .slice o' f' l' (.ex c') => bif Nat.beq o o' then bif Nat.beq f f' then bif Nat.beq l l' then Nat.beq c c' else false else false else false
  | .slice o f l (.full c), .slice o' f' l' (.full c') => bif Nat.beq o o' then bif Nat.beq f f' then bif Nat.beq l l' then Nat.beq c c' else false else false else false
  | .nilSlice, .nilSlice => true
  | .map o, .map o' => Nat.beq o o'
  | .nilMap, .nilMap => true
  | .nilFunc, .nilFunc => true
  | .str x, .str y => sEq x y
  | _, _ => false
noncomputable def allSame (p : AV → AV → Bool) (a : List AV) : List AV → Bool :=
  List.rec (motive := fun _ => List AV → Bool) (fun y => List.rec (motive := fun _ => Bool) true (fun _ _ _ => false) y)
    (fun a _ ih y => List.rec (motive := fun _ => Bool) false (fun b y _ => Bool.rec (motive := fun _ => Bool) false (ih y) (p a b)) y) a
noncomputable def valSame (a b : AV) : Bool :=
  match a, b with
  | .func f x, .func f' y => bif Nat.beq f f' then allSame cellSame x y else false
  | a, b => cellSame a b
def bitOf (m i : Nat) : Bool := Nat.beq (Nat.land (Nat.shiftRight m i) 1) 1
/-- What was loaded: by whom, from where, what. -/
abbrev Note := Nat × Nat × Nat × List AV
noncomputable def stillThere (s : St) (o off : Nat) (vs : List AV) : Bool :=
  match s.load o off (lenL vs) with
  | some us => allSame valSame vs us
  | none => false
/-- Is all that was loaded by an operation on which this one does not hang as it was? -/
noncomputable def recsOk (clo : Nat) (s : St) (l : List Note) : Bool :=
  List.rec (motive := fun _ => Bool) true (fun r _ ih => bif bitOf clo r.1 then ih else bif stillThere s r.2.1 r.2.2.1 r.2.2.2 then ih else false) l
/-- What a load loads. -/
noncomputable def tgt (k : DK) (e : Tr AV) (s : St) : Option (Nat × Nat × List AV) :=
  match k with
  | .rd1 x => match evX e x with
    | some (.ptr o off) => match s.load o off 1 with
      | some vs => some (o, off, vs)
      | none => none
    | _ => none
  | .rdN x n => match evX e x with
    | some (.ptr o off) => match s.load o off n with
      | some vs => some (o, off, vs)
      | none => none
    | _ => none
  | _ => none
/-- Was what is loaded made behind all that the load does not hang on? -/
noncomputable def wsOk (clo o m : Nat) (l : List (Nat × Nat)) : Bool :=
  List.rec (motive := fun _ => Bool) true (fun r _ ih => bif bitOf clo r.1 then ih else bif Nat.ble r.2 o then bif Nat.blt o m then ih else false else false) l
/-- What an operation may look at. -/
noncomputable def restr (e : Tr AV) (ts : List Nat) : Tr AV :=
  List.rec (motive := fun _ => Tr AV) .leaf (fun t _ ih => match e.get t with
    | some v => ih.put (some v) t
    | none => ih) ts
/-- One operation of a region that draws. -/
noncomputable def stepD (d : DOp) (call : Call) (e : Tr AV) (s : St) (rs : List Note) (ws : List (Nat × Nat)) : Option (Tr AV × St × List Note × List (Nat × Nat)) :=
  match d.k with
  | .wr => match d.f call (restr e d.ts) s with
    | some (v, s') => bif recsOk d.clo s' rs then some (putT e d.dst v, s', rs, (d.i, s'.next) :: ws) else none
    | none => none
  | .alloc => match d.f call (restr e d.ts) ⟨.leaf, s.next⟩ with
    | some (v, s') => match s'.heap.get s.next with
      | some x => bif Nat.beq s'.next (Nat.succ s.next) then some (putT e d.dst v, ⟨s.heap.put (some x) s.next, s'.next⟩, rs, (d.i, s'.next) :: ws) else none
      | none => bif Nat.beq s'.next s.next then some (putT e d.dst v, s, rs, ws) else none
    | none => none
  | .pure => match d.f call (restr e d.ts) ⟨.leaf, s.next⟩ with
    | some (v, s') => bif Nat.beq s'.next s.next then some (putT e d.dst v, s, rs, ws) else none
    | none => none
  | k => match restr e d.ts with
    | e1 => match d.f call e1 s with
      | some (v, _) => match tgt k e1 s with
        | some (o, off, vs) => bif wsOk d.clo o s.next ws then some (putT e d.dst v, s, (d.i, o, off, vs) :: rs, ws) else none
        | none => some (putT e d.dst v, s, rs, ws)
      | none => none
noncomputable def drawF (l : List DOp) (call : Call) : Tr AV → St → List Note → List (Nat × Nat) → Option (Tr AV × St) :=
  List.rec (motive := fun _ => Tr AV → St → List Note → List (Nat × Nat) → Option (Tr AV × St)) (fun e s _ _ => some (e, s)) (fun d _ ih e s rs ws => match stepD d call e s rs ws with
    | some (e', s', rs', ws') => ih e' s' rs' ws'
    | none => none) l

/-! ### Code -/
inductive CR where
  | norm (e : Tr AV) (s : St)
  | exit (id : Nat) (e : Tr AV) (s : St)
  | ret (e : Tr AV) (s : St)
abbrev FC := Call → Tr AV → St → Option CR
noncomputable def cSkip : FC := fun _ e s => some (.norm e s)
noncomputable def cReg (l : List (Call → Tr AV → St → Option (Tr AV × St))) (call : Call) (e : Tr AV) (s : St) : Option CR := match opsF l call e s with
  | some (e', s') => some (.norm e' s')
  | none => none
noncomputable def cDraw (l : List DOp) (call : Call) (e : Tr AV) (s : St) : Option CR := match drawF l call e s [] [] with
  | some (e', s') => some (.norm e' s')
  | none => none
noncomputable def cSeq (a b : FC) (call : Call) (e : Tr AV) (s : St) : Option CR := match a call e s with
  | some c => match c with
    | .norm e' s' => b call e' s'
    | .exit i e' s' => some (.exit i e' s')
    | .ret e' s' => some (.ret e' s')
  | none => none
noncomputable def cCond (x : AX) (a b : FC) (call : Call) (e : Tr AV) (s : St) : Option CR := match evX e x with
  | some v => match v with
    | .bool t => match t with
      | true => a call e s
      | false => b call e s
    | _ => none
  | none => none
noncomputable def cBlock (i : Nat) (c : FC) (call : Call) (e : Tr AV) (s : St) : Option CR := match c call e s with
  | some c => match c with
    | .norm e' s' => some (.norm e' s')
    | .exit j e' s' => bif Nat.beq j i then some (.norm e' s') else some (.exit j e' s')
    | .ret e' s' => some (.ret e' s')
  | none => none
noncomputable def loopF (f : Tr AV → St → Option CR) (n : Nat) : Tr AV → St → Option CR :=
  Nat.rec (motive := fun _ => Tr AV → St → Option CR) (fun _ _ => none) (fun _ ih e s => match f e s with
    | some c => match c with
      | .norm e' s' => ih e' s'
      | .exit i e' s' => some (.exit i e' s')
      | .ret e' s' => some (.ret e' s')
    | none => none) n
noncomputable def cLoop (c : FC) (call : Call) (e : Tr AV) (s : St) : Option CR := loopF (c call) 100000 e s
noncomputable def cExit (i : Nat) : FC := fun _ e s => some (.exit i e s)
noncomputable def cRet : FC := fun _ e s => some (.ret e s)
noncomputable def cBad : FC := fun _ _ _ => none
structure FFn where
  results : List ARes
  body : FC
noncomputable def evRes (e : Tr AV) (s : St) (l : List ARes) : Option (List AV) :=
  List.rec (motive := fun _ => Option (List AV)) (some []) (fun r _ ih => match (match r with
      | .tmp t => e.get t
      | .cell1 t => match e.get t with
        | some (.ptr o off) => s.load1 o off
        | _ => none
      | .cellN t n => match e.get t with
        | some (.ptr o off) => match s.load o off n with
          | some cs => some (.agg cs)
          | none => none
        | _ => none : Option AV) with
    | some v => consO v ih
    | none => none) l
def pack : List AV → AV
  | [v] => v
  | vs => .tuple vs
noncomputable def argsEnv (l : List AV) : Nat → Tr AV → Tr AV :=
  List.rec (motive := fun _ => Nat → Tr AV → Tr AV) (fun _ e => e) (fun v _ ih i e => ih (Nat.succ i) (e.put (some v) i)) l
noncomputable def finF (rs : List ARes) : Option CR → Option (AV × St)
  | some c => match c with
    | .norm e s => match evRes e s rs with
      | some vs => some (pack vs, s)
      | none => none
    | .ret e s => match evRes e s rs with
      | some vs => some (pack vs, s)
      | none => none
    | .exit _ _ _ => none
  | none => none
noncomputable def runF (F : Option FFn) (call : Call) (args : List AV) (s : St) : Option (AV × St) := match F with
  | some F => finF F.results (F.body call (argsEnv args 0 .leaf) s)
  | none => none
noncomputable def evF (tab : Tr FFn) (n : Nat) : Call :=
  Nat.rec (motive := fun _ => Call) (fun _ _ _ => none) (fun _ ih f args s => runF (tab.get f) ih args s) n
end Go.Am
