/- Each operation of the abstract machine is borne by the model's: numbers, strings, addresses, cuts, maps. -/
import Derived.Test.YtgolgogmhcgecaaGreatAmOps
import Derived.Laws.StructEq
import Derived.Laws.BytesString
import Derived.ChangeKeysEq
namespace Go.Am
set_option linter.unusedVariables false
set_option linter.unusedSimpArgs false

section
variable {P : Program} {F : Fr} {w0 w : World} {ρ : Rho} {a : Act} {e : Tr AV}

/-! ### Numbers and strings -/
theorem iLe_eq (x y : Int) : iLe x y = decide (x ≤ y) := by
  cases x with
  | ofNat a => cases y with
    | ofNat b => 
      show Nat.ble a b = _
      by_cases h : a ≤ b
      · rw [Nat.ble_eq_true_of_le h]; symm; simpa using h
      · have : Nat.ble a b = false := by rw [Bool.eq_false_iff]; intro q; exact h (Nat.le_of_ble_eq_true q)
        rw [this]; symm; simpa using h
    | negSucc b => show false = _; symm; simp; omega
  | negSucc a => cases y with
    | ofNat b => show true = _; symm; simp; omega
    | negSucc b =>
      show Nat.ble b a = _
      by_cases h : b ≤ a
      · rw [Nat.ble_eq_true_of_le h]; symm; simp; omega
      · have : Nat.ble b a = false := by rw [Bool.eq_false_iff]; intro q; exact h (Nat.le_of_ble_eq_true q)
        rw [this]; symm; simp; omega
theorem iEq_eq (x y : Int) : iEq x y = decide (x = y) := by
  cases x with
  | ofNat a => cases y with
    | ofNat b =>
      show Nat.beq a b = _
      by_cases h : a = b
      · subst h; simp
      · have : Nat.beq a b = false := by rw [Bool.eq_false_iff]; intro q; exact h (Nat.eq_of_beq_eq_true q)
        rw [this]; symm; simp; omega
    | negSucc b => rfl
  | negSucc a => cases y with
    | ofNat b => rfl
    | negSucc b =>
      show Nat.beq a b = _
      by_cases h : a = b
      · subst h; simp
      · have : Nat.beq a b = false := by rw [Bool.eq_false_iff]; intro q; exact h (Nat.eq_of_beq_eq_true q)
        rw [this]; symm; simp; omega
theorem bNot_eq (b : Bool) : bNot b = !b := by cases b <;> rfl
theorem bBeq_eq (a b : Bool) : bBeq a b = (a == b) := by cases a <;> cases b <;> rfl
theorem kEq_eq {j k : IntKind} (h : kEq j k = true) : j = k := by cases j <;> cases k <;> first | rfl | simp [kEq] at h

theorem sEq_nil : sEq [] [] = true := rfl
theorem sEq_nil_cons (b : Nat) (y : List Nat) : sEq [] (b :: y) = false := rfl
theorem sEq_cons_nil (a : Nat) (x : List Nat) : sEq (a :: x) [] = false := rfl
theorem sEq_cons (a b : Nat) (x y : List Nat) : sEq (a :: x) (b :: y) = (decide (a = b) && sEq x y) := by
  show Bool.rec (motive := fun _ => Bool) false (sEq x y) (Nat.beq a b) = _
  by_cases h : a = b
  · subst h; simp
  · have : Nat.beq a b = false := by rw [Bool.eq_false_iff]; intro q; exact h (Nat.eq_of_beq_eq_true q)
    rw [this]; simp [h]
theorem sEq_eq (x y : List Nat) : sEq x y = decide (x = y) := by
  induction x generalizing y with
  | nil => cases y with
    | nil => simp [sEq_nil]
    | cons b y => simp [sEq_nil_cons]
  | cons a x ih => cases y with
    | nil => simp [sEq_cons_nil]
    | cons b y => rw [sEq_cons, ih]; simp
theorem sLt_nil_nil : sLt [] [] = false := rfl
theorem sLt_nil_cons (b : Nat) (y : List Nat) : sLt [] (b :: y) = true := rfl
theorem sLt_cons_nil (a : Nat) (x : List Nat) : sLt (a :: x) [] = false := rfl
theorem sLt_cons (a b : Nat) (x y : List Nat) : sLt (a :: x) (b :: y) = (decide (a < b) || (decide (a = b) && sLt x y)) := by
  show Bool.rec (motive := fun _ => Bool) (Bool.rec (motive := fun _ => Bool) false (sLt x y) (Nat.beq a b)) true (Nat.blt a b) = _
  by_cases h : a < b
  · have : Nat.blt a b = true := Nat.ble_eq_true_of_le (Nat.succ_le_of_lt h)
    rw [this]; simp [h]
  · have : Nat.blt a b = false := by rw [Bool.eq_false_iff]; intro q; exact h (Nat.lt_of_succ_le (Nat.le_of_ble_eq_true q))
    rw [this]
    by_cases h' : a = b
    · subst h'; simp
    · have : Nat.beq a b = false := by rw [Bool.eq_false_iff]; intro q; exact h' (Nat.eq_of_beq_eq_true q)
      rw [this]; simp [h, h']

theorem strOf_toList (s : List Nat) : (strOf s).toList = s.map UInt8.ofNat := by rw [ByteArray.toList_eq]; simp [strOf]
theorem strOf_size (s : List Nat) : (strOf s).size = s.length := by simp [strOf, ByteArray.size]
theorem small_cons {a : Nat} {s : List Nat} (h : small (a :: s)) : a < 256 ∧ small s := ⟨h a (by simp), fun x hx => h x (by simp [hx])⟩
theorem ofNat_inj {a b : Nat} (ha : a < 256) (hb : b < 256) : (UInt8.ofNat a = UInt8.ofNat b) ↔ a = b := by
  constructor
  · intro h
    have := congrArg UInt8.toNat h
    simpa [UInt8.toNat_ofNat', Nat.mod_eq_of_lt ha, Nat.mod_eq_of_lt hb] using this
  · rintro rfl; rfl
theorem map_inj {x y : List Nat} (hx : small x) (hy : small y) : (x.map UInt8.ofNat = y.map UInt8.ofNat) ↔ x = y := by
  induction x generalizing y with
  | nil => cases y <;> simp
  | cons a x ih => cases y with
    | nil => simp
    | cons b y =>
      obtain ⟨h1, h2⟩ := small_cons hx
      obtain ⟨h3, h4⟩ := small_cons hy
      simp [ofNat_inj h1 h3, ih h2 h4]
theorem str_eq {x y : List Nat} (hx : small x) (hy : small y) : ((strOf x).toList == (strOf y).toList) = sEq x y := by
  rw [strOf_toList, strOf_toList, sEq_eq]
  by_cases h : x = y
  · subst h; simp
  · have : ¬ x.map UInt8.ofNat = y.map UInt8.ofNat := fun q => h ((map_inj hx hy).1 q)
    simp [h, this]
theorem str_eq' {x y : List Nat} (hx : small x) (hy : small y) : (strOf x == strOf y) = sEq x y := by rw [beq_toListBytes, str_eq hx hy]
theorem str_lt {x y : List Nat} (hx : small x) (hy : small y) : Op.bytesLess (strOf x).toList (strOf y).toList = sLt x y := by
  rw [strOf_toList, strOf_toList]
  induction x generalizing y with
  | nil => cases y <;> simp [Op.bytesLess, sLt_nil_nil, sLt_nil_cons]
  | cons a x ih => cases y with
    | nil => simp [Op.bytesLess, sLt_cons_nil]
    | cons b y =>
      obtain ⟨h1, h2⟩ := small_cons hx
      obtain ⟨h3, h4⟩ := small_cons hy
      simp only [List.map_cons, Op.bytesLess]
      rw [ih h2 h4, sLt_cons]
      have e1 : (UInt8.ofNat a < UInt8.ofNat b) ↔ a < b := by
        rw [UInt8.lt_iff_toNat_lt]; simp [UInt8.toNat_ofNat', Nat.mod_eq_of_lt h1, Nat.mod_eq_of_lt h3]
      have e2 := ofNat_inj h1 h3
      by_cases h : a < b <;> by_cases h' : a = b <;> simp [e1, e2, h, h']
theorem sLt_asymm : ∀ {x y : List Nat}, (sLt x y || sEq x y) = !sLt y x
  | [], [] => rfl
  | [], b :: y => by simp [sLt_nil_cons, sLt_cons_nil]
  | a :: x, [] => by simp [sLt_nil_cons, sLt_cons_nil, sEq_cons_nil]
  | a :: x, b :: y => by
    have ih := @sLt_asymm x y
    rw [sLt_cons, sLt_cons, sEq_cons]
    by_cases h : a < b
    · have h1 : ¬ b < a := by omega
      have h2 : ¬ b = a := by omega
      simp [h, h1, h2]
    · by_cases h' : a = b
      · subst h'; simpa using ih
      · have h1 : b < a := by omega
        simp [h, h', h1]
theorem strOf_append (x y : List Nat) : strOf x ++ strOf y = strOf (x ++ y) := by
  apply ByteArray.ext
  simp [strOf]

theorem eqGuard_plain (op : BinOp) (t : TypeId) (x y : Operand) (u v : Value) (h1 : ∀ c, u ≠ .agg c) (h2 : u ≠ .nilIface) : (eqGuard op t x y u v).run P w = .ok () w := by
  unfold eqGuard
  cases op <;> cases u <;> first | rfl | exact absurd rfl (h1 _) | exact absurd rfl h2

theorem land_in (k : IntKind) {x y : Nat} (hx : x ≤ kMax k) (hy : y ≤ kMax k) : (k.wrap ((BitVec.ofInt k.bits (x : Int)) &&& (BitVec.ofInt k.bits (y : Int))).toNat) = ((x &&& y : Nat) : Int) := by
  have hxb : x < 2 ^ k.bits := by cases k <;> simp [kMax, IntKind.bits] at hx ⊢ <;> omega
  have hyb : y < 2 ^ k.bits := by cases k <;> simp [kMax, IntKind.bits] at hy ⊢ <;> omega
  have e : ((BitVec.ofInt k.bits (x : Int)) &&& (BitVec.ofInt k.bits (y : Int))).toNat = x &&& y := by
    rw [BitVec.toNat_and, BitVec.ofInt_natCast, BitVec.ofInt_natCast, BitVec.toNat_ofNat, BitVec.toNat_ofNat, Nat.mod_eq_of_lt hxb, Nat.mod_eq_of_lt hyb]
  rw [e]
  apply wrap_in
  show Nat.ble (x &&& y) (kMax k) = true
  exact Nat.ble_eq_true_of_le (Nat.le_trans Nat.and_le_left hx)
theorem xor_le {x y m : Nat} (hx : x < 2 ^ m) (hy : y < 2 ^ m) : x ^^^ y < 2 ^ m := Nat.xor_lt_two_pow hx hy
theorem xor_in (k : IntKind) {x y : Nat} (hx : x ≤ kMax k) (hy : y ≤ kMax k) : (k.wrap ((BitVec.ofInt k.bits (x : Int)) ^^^ (BitVec.ofInt k.bits (y : Int))).toNat) = ((x ^^^ y : Nat) : Int) := by
  have hxb : x < 2 ^ k.bits := by cases k <;> simp [kMax, IntKind.bits] at hx ⊢ <;> omega
  have hyb : y < 2 ^ k.bits := by cases k <;> simp [kMax, IntKind.bits] at hy ⊢ <;> omega
  have e : ((BitVec.ofInt k.bits (x : Int)) ^^^ (BitVec.ofInt k.bits (y : Int))).toNat = x ^^^ y := by
    rw [BitVec.toNat_xor, BitVec.ofInt_natCast, BitVec.ofInt_natCast, BitVec.toNat_ofNat, BitVec.toNat_ofNat, Nat.mod_eq_of_lt hxb, Nat.mod_eq_of_lt hyb]
  rw [e]
  apply wrap_in
  show Nat.ble (x ^^^ y) (kMax k) = true
  apply Nat.ble_eq_true_of_le
  cases k <;> simp only [kMax] at hx hy ⊢
  · have := xor_le (m := 7) (x := x) (y := y) (by omega) (by omega); omega
  · have := xor_le (m := 15) (x := x) (y := y) (by omega) (by omega); omega
  · have := xor_le (m := 31) (x := x) (y := y) (by omega) (by omega); omega
  · have := xor_le (m := 63) (x := x) (y := y) (by omega) (by omega); omega
  · have := xor_le (m := 8) (x := x) (y := y) (by omega) (by omega); omega
  · have := xor_le (m := 16) (x := x) (y := y) (by omega) (by omega); omega
  · have := xor_le (m := 32) (x := x) (y := y) (by omega) (by omega); omega
  · have := xor_le (m := 64) (x := x) (y := y) (by omega) (by omega); omega

theorem intBin_run {op : BinOp} {k : IntKind} {x y : Int} {v : AV} (h : intBin op k x y = some v) (hs : op ≠ .shl) (hs' : op ≠ .shr) (t : TypeId) :
    ∃ cv, (binOp op t (.int k x) (.int k y)).run P w = .ok cv w ∧ ∀ ρ, Rep ρ v cv := by
  cases op <;> simp only [intBin] at h
  case add => injection h with h; subst h; exact ⟨.int k (k.wrap (x + y)), by simp [binOp, Op.intArith], fun ρ => by simp only [Rep, wr_eq]⟩
  case sub => injection h with h; subst h; exact ⟨.int k (k.wrap (x - y)), by simp [binOp, Op.intArith], fun ρ => by simp only [Rep, wr_eq]⟩
  case mul => injection h with h; subst h; exact ⟨.int k (k.wrap (x * y)), by simp [binOp, Op.intArith], fun ρ => by simp only [Rep, wr_eq]⟩
  case quo =>
    cases h0 : iEq y 0 with
    | true => rw [h0] at h; cases h
    | false =>
      rw [h0] at h; injection h with h; subst h
      have : ¬ y = 0 := by rw [iEq_eq] at h0; simpa using h0
      exact ⟨.int k (k.wrap (x.tdiv y)), by simp [binOp, Op.intDiv, this], fun ρ => by simp only [Rep, wr_eq]⟩
  case rem =>
    cases h0 : iEq y 0 with
    | true => rw [h0] at h; cases h
    | false =>
      rw [h0] at h; injection h with h; subst h
      have : ¬ y = 0 := by rw [iEq_eq] at h0; simpa using h0
      exact ⟨.int k (x.tmod y), by simp [binOp, Op.intDiv, this], fun ρ => by simp only [Rep]⟩
  case eql => injection h with h; subst h; exact ⟨.bool (x == y), by simp [binOp, Op.intCmp], fun ρ => by simp only [Rep, iEq_eq]; congr 1 <;> (by_cases q : x = y <;> simp [q])⟩
  case neq => injection h with h; subst h; exact ⟨.bool (x != y), by simp [binOp, Op.intCmp], fun ρ => by simp only [Rep, iEq_eq, bNot_eq]; congr 1 <;> (by_cases q : x = y <;> simp [q])⟩
  case lss => injection h with h; subst h; exact ⟨.bool (x < y), by simp [binOp, Op.intCmp], fun ρ => by simp only [Rep, iLe_eq, bNot_eq]; congr 1 <;> (by_cases q : x < y <;> simp [q] <;> try omega)⟩
  case leq => injection h with h; subst h; exact ⟨.bool (x ≤ y), by simp [binOp, Op.intCmp], fun ρ => by simp only [Rep, iLe_eq]⟩
  case gtr => injection h with h; subst h; exact ⟨.bool (x > y), by simp [binOp, Op.intCmp], fun ρ => by simp only [Rep, iLe_eq, bNot_eq]; congr 1 <;> (by_cases q : y < x <;> simp [q] <;> try omega)⟩
  case geq => injection h with h; subst h; exact ⟨.bool (x ≥ y), by simp [binOp, Op.intCmp], fun ρ => by simp only [Rep, iLe_eq]⟩
  case and =>
    split at h
    · next a b =>
      cases h1 : Nat.ble a (kMax k) with
      | false => rw [h1] at h; cases h
      | true => cases h2 : Nat.ble b (kMax k) with
        | false => rw [h1, h2] at h; cases h
        | true =>
          rw [h1, h2] at h; injection h with h; subst h
          refine ⟨.int k ((a &&& b : Nat) : Int), ?_, fun ρ => by simp only [Rep]; rfl⟩
          have := land_in k (Nat.le_of_ble_eq_true h1) (Nat.le_of_ble_eq_true h2)
          simp only [binOp, Op.intBits]
          simp
          exact this
    · cases h
  case xor =>
    split at h
    · next a b =>
      cases h1 : Nat.ble a (kMax k) with
      | false => rw [h1] at h; cases h
      | true => cases h2 : Nat.ble b (kMax k) with
        | false => rw [h1, h2] at h; cases h
        | true =>
          rw [h1, h2] at h; injection h with h; subst h
          refine ⟨.int k ((a ^^^ b : Nat) : Int), ?_, fun ρ => by simp only [Rep]; rfl⟩
          have := xor_in k (Nat.le_of_ble_eq_true h1) (Nat.le_of_ble_eq_true h2)
          simp only [binOp, Op.intBits]
          simp
          exact this
    · cases h
  all_goals simp at h

theorem kBits_eq (k : IntKind) : kBits k = k.bits := by cases k <;> rfl
theorem shift_run {op : BinOp} {k j : IntKind} {x y : Int} {v : AV} (h : shift op k x y = some v) (t : TypeId) :
    ∃ cv, (binOp op t (.int k x) (.int j y)).run P w = .ok cv w ∧ ∀ ρ, Rep ρ v cv := by
  unfold shift at h
  split at h
  · next n =>
    injection h with h; subst h
    refine ⟨.int k (k.wrap (x * 2 ^ (min n k.bits))), ?_, fun ρ => by simp only [Rep, wr_eq, kBits_eq]; rw [show (Int.ofNat (2 ^ (Nat.min n k.bits))) = ((2 ^ (min n k.bits) : Nat) : Int) from rfl, Int.natCast_pow]; rfl⟩
    simp [binOp, Op.shift]
    intro q
    omega
  · next n =>
    injection h with h; subst h
    refine ⟨.int k (x.fdiv (2 ^ (min n k.bits))), ?_, fun ρ => by simp only [Rep, kBits_eq]; rw [show (Int.ofNat (2 ^ (Nat.min n k.bits))) = ((2 ^ (min n k.bits) : Nat) : Int) from rfl, Int.natCast_pow]; rfl⟩
    simp [binOp, Op.shift]
    intro q
    omega
  · cases h

theorem strBin_run {op : BinOp} {x y : List Nat} {v : AV} (hx : small x) (hy : small y) (h : strBin op x y = some v) (t : TypeId) :
    ∃ cv, (binOp op t (.string (strOf x)) (.string (strOf y))).run P w = .ok cv w ∧ ∀ ρ, Rep ρ v cv := by
  cases op <;> simp only [strBin] at h
  case add =>
    cases h0 : Nat.ble (lenL x + lenL y) 9223372036854775807 with
    | false => rw [h0] at h; cases h
    | true =>
      rw [h0] at h; injection h with h; subst h
      have hl := Nat.le_of_ble_eq_true h0
      rw [lenL_eq, lenL_eq] at hl
      refine ⟨.string (strOf (x ++ y)), ?_, fun ρ => by simp only [Rep, appL_eq]; exact ⟨trivial, fun z hz => (List.mem_append.1 hz).elim (hx z) (hy z)⟩⟩
      have : ¬ (((strOf x).size + (strOf y).size : Nat) : Int) > IntKind.i64.max := by rw [strOf_size, strOf_size]; simp [IntKind.max, IntKind.signed, IntKind.bits]; omega
      simp only [binOp, Op.stringOp]
      rw [if_neg this, strOf_append]
      rfl
  case eql => injection h with h; subst h; exact ⟨.bool (sEq x y), by simp only [binOp, Op.stringOp, str_eq hx hy]; rfl, fun ρ => by simp only [Rep]⟩
  case neq => injection h with h; subst h; exact ⟨.bool (!sEq x y), by simp only [binOp, Op.stringOp, str_eq hx hy]; rfl, fun ρ => by simp only [Rep, bNot_eq]⟩
  case lss => injection h with h; subst h; exact ⟨.bool (sLt x y), by simp only [binOp, Op.stringOp, str_lt hx hy]; rfl, fun ρ => by simp only [Rep]⟩
  case leq => injection h with h; subst h; exact ⟨.bool (sLt x y || sEq x y), by simp only [binOp, Op.stringOp, str_lt hx hy, str_eq hx hy]; rfl, fun ρ => by simp only [Rep, bNot_eq, sLt_asymm]⟩
  case gtr => injection h with h; subst h; exact ⟨.bool (!(sLt x y || sEq x y)), by simp only [binOp, Op.stringOp, str_lt hx hy, str_eq hx hy]; rfl, fun ρ => by simp only [Rep, sLt_asymm, Bool.not_not]⟩
  case geq => injection h with h; subst h; exact ⟨.bool (!sLt x y), by simp only [binOp, Op.stringOp, str_lt hx hy]; rfl, fun ρ => by simp only [Rep, bNot_eq]⟩
  all_goals simp at h

/-! ### Equality -/
theorem run_part1 {t : TypeId} (ht : aggA P t = some false) {cs : Array Value} {i : Nat} {v : Value} (h : cs[i]? = some v) : (part t cs i).run P w = .ok v w := by
  simp [part, agg_run ht, h]
theorem run_partN {t : TypeId} {k : Nat} (ht : aggA P t = some true) (hk : sizeA P t = some k) {cs : Array Value} {i : Nat} : (part t cs i).run P w = .ok (.agg (cs.extract i (i + k))) w := by
  simp [part, agg_run ht, size_run hk]

theorem bin_of_equal {t : TypeId} {cu cv : Value} {r : Bool} (hg : ∀ op x y, (eqGuard op t x y cu cv).run P w = .ok () w) (h1 : ∀ k n, cu ≠ .int k n) (h2 : ∀ k n, cu ≠ .float k n) (h3 : ∀ k n m, cu ≠ .complex k n m) (h4 : ∀ s, cu ≠ .string s)
    (h : (Op.equal t cu cv).run P w = .ok r w) (x y : Operand) :
    (do eqGuard .eql t x y cu cv; binOp .eql t cu cv : Sem Value).run P w = .ok (.bool r) w ∧ (do eqGuard .neq t x y cu cv; binOp .neq t cu cv : Sem Value).run P w = .ok (.bool !r) w := by
  have e1 : binOp .eql t cu cv = (do pure (.bool (← Op.equal t cu cv))) := by
    cases cu <;> first | rfl | exact absurd rfl (h1 _ _) | exact absurd rfl (h2 _ _) | exact absurd rfl (h3 _ _ _) | exact absurd rfl (h4 _)
  have e2 : binOp .neq t cu cv = (do pure (.bool (!(← Op.equal t cu cv)))) := by
    cases cu <;> first | rfl | exact absurd rfl (h1 _ _) | exact absurd rfl (h2 _ _) | exact absurd rfl (h3 _ _ _) | exact absurd rfl (h4 _)
  rw [e1, e2]
  simp [hg, h]

theorem eqIn_run {t : TypeId} {cu cv : Value} {r : Bool} (h : ∀ d, (Op.equalIn (d + 1) t cu cv).run P w = .ok r w) : (Op.equal t cu cv).run P w = .ok r w := h 9999

/-- Nothing but nil on one side. -/
theorem nil_run {k : EqK} {t : TypeId} (hk : eqkOf P t = some k) (hflat : ∀ n, k ≠ .flat n) {u v : AV} {r : Bool} (h : nilEq k u v = some r) {cu cv : Value} (hu : Rep ρ u cu) (hv : Rep ρ v cv) (x y : Operand) :
    (do eqGuard .eql t x y cu cv; binOp .eql t cu cv : Sem Value).run P w = .ok (.bool r) w ∧ (do eqGuard .neq t x y cu cv; binOp .neq t cu cv : Sem Value).run P w = .ok (.bool !r) w := by
  unfold eqkOf at hk
  split at hk
  · injection hk with hk; subst hk; cases u <;> cases v <;> simp only [nilEq] at h <;> cases h
  · injection hk with hk; subst hk; cases u <;> cases v <;> simp only [nilEq] at h <;> cases h
  · next hu' =>
    injection hk with hk; subst hk; cases u <;> cases v <;> simp only [nilEq] at h <;> (try (cases h; done))
    injection h with h; subst h
    simp only [Rep] at hu hv
    subst hu hv
    refine bin_of_equal (fun op x y => eqGuard_plain op t x y _ _ (by simp) (by simp)) (by simp) (by simp) (by simp) (by simp) ?_ x y
    rw [bBeq_eq]
    exact run_equalIn_bool' w 9999 t _ _ hu'
  · next el hu' =>
    injection hk with hk; subst hk; cases u <;> cases v <;> simp only [nilEq] at h <;> (try (cases h; done))
    all_goals
      injection h with h; subst h
      simp only [Rep] at hu hv
      first
        | subst hu hv
        | (obtain ⟨l, _, rfl⟩ := hu; subst hv)
        | (obtain ⟨l, _, rfl⟩ := hv; subst hu)
      refine bin_of_equal (fun op x y => eqGuard_plain op t x y _ _ (by simp) (by simp)) (by simp) (by simp) (by simp) (by simp) ?_ x y
      refine eqIn_run fun d => ?_
      simp only [Op.equalIn, Sem.run_bind, run_underlying hu', Result.andThen_ok]
      rfl
  · next el hu' =>
    injection hk with hk; subst hk; cases u <;> cases v <;> simp only [nilEq] at h <;> (try (cases h; done))
    all_goals
      injection h with h; subst h
      simp only [Rep] at hu hv
      first
        | subst hu hv
        | (obtain ⟨l, c, _, rfl, _⟩ := hu; subst hv)
        | (obtain ⟨l, c, _, rfl, _⟩ := hv; subst hu)
      refine bin_of_equal (fun op x y => eqGuard_plain op t x y _ _ (by simp) (by simp)) (by simp) (by simp) (by simp) (by simp) ?_ x y
      refine eqIn_run fun d => ?_
      simp only [Op.equalIn, Sem.run_bind, run_underlying hu', Result.andThen_ok]
      rfl
  · next el hu' =>
    injection hk with hk; subst hk; cases u <;> cases v <;> simp only [nilEq] at h <;> (try (cases h; done))
    all_goals
      injection h with h; subst h
      simp only [Rep] at hu hv
      first
        | subst hu hv
        | (obtain ⟨l, _, rfl⟩ := hu; subst hv)
        | (obtain ⟨l, _, rfl⟩ := hv; subst hu)
      refine bin_of_equal (fun op x y => eqGuard_plain op t x y _ _ (by simp) (by simp)) (by simp) (by simp) (by simp) (by simp) ?_ x y
      refine eqIn_run fun d => ?_
      simp only [Op.equalIn, Sem.run_bind, run_underlying hu', Result.andThen_ok]
      rfl
  · next ps rs vr hu' =>
    injection hk with hk; subst hk; cases u <;> cases v <;> simp only [nilEq] at h <;> (try (cases h; done))
    all_goals
      injection h with h; subst h
      simp only [Rep] at hu hv
      first
        | subst hu hv
        | (obtain ⟨l, rfl, _⟩ := hu; subst hv)
        | (obtain ⟨l, rfl, _⟩ := hv; subst hu)
      refine bin_of_equal (fun op x y => eqGuard_plain op t x y _ _ (by simp) (by simp)) (by simp) (by simp) (by simp) (by simp) ?_ x y
      refine eqIn_run fun d => ?_
      simp only [Op.equalIn, Sem.run_bind, run_underlying hu', Result.andThen_ok]
      rfl
  · next fs hu' =>
    split at hk
    · split at hk
      · injection hk with hk; exact absurd hk.symm (hflat _)
      · cases hk
    · cases hk
  · cases hk

/-! Structs whose cells are plain. -/
theorem andO_some {p q : Option Bool} {r : Bool} (h : andO p q = some r) : ∃ a b, p = some a ∧ q = some b ∧ r = (a && b) := by
  unfold andO at h
  split at h
  · next a b => injection h with h; exact ⟨a, b, rfl, rfl, by rw [← h]; cases a <;> rfl⟩
  · cases h

theorem kind_agg {t : TypeId} {k : Nat} (h : kindOf P t = some k) : aggA P t = some false := by
  unfold kindOf at h
  unfold aggA
  split at h <;> first | (next hu => simp [hu]) | cases h
theorem kind_sure {t : TypeId} {k : Nat} (h : kindOf P t = some k) : k = 0 ∧ (∃ j, P.underlying t = some (.int j)) ∨ k = 1 ∧ P.underlying t = some .string ∨ k = 2 ∧ P.underlying t = some .bool := by
  unfold kindOf at h
  split at h
  · next j hu => injection h with h; exact .inl ⟨h.symm, j, hu⟩
  · next hu => injection h with h; exact .inr (.inl ⟨h.symm, hu⟩)
  · next hu => injection h with h; exact .inr (.inr ⟨h.symm, hu⟩)
  · cases h

/-- A cell of a plain kind against another. -/
theorem cell_run {f : TypeId} {k : Nat} (hk : kindOf P f = some k) {u v : AV} {r : Bool} (h : cellEq k u v = some r) {cu cv : Value} (hu : Rep ρ u cu) (hv : Rep ρ v cv) (d : Nat) :
    (Op.equalIn (d + 1) f cu cv).run P w = .ok r w := by
  rcases kind_sure hk with ⟨rfl, j, hj⟩ | ⟨rfl, hj⟩ | ⟨rfl, hj⟩
  · cases u <;> simp only [cellEq] at h <;> (try (cases h; done))
    cases v <;> simp only [cellEq] at h <;> (try (cases h; done))
    next k1 m1 k2 m2 =>
    cases hq : kEq k1 k2 with
    | false => rw [hq] at h; cases h
    | true =>
      rw [hq] at h; injection h with h; subst h
      have := kEq_eq hq; subst this
      simp only [Rep] at hu hv
      subst hu hv
      rw [run_equalIn_int w d f k1 j m1 m2 hj, iEq_eq]
      congr 1 <;> (by_cases q : m1 = m2 <;> simp [q])
  · cases u <;> simp only [cellEq] at h <;> (try (cases h; done))
    cases v <;> simp only [cellEq] at h <;> (try (cases h; done))
    next x y =>
    injection h with h; subst h
    simp only [Rep] at hu hv
    obtain ⟨rfl, h1⟩ := hu
    obtain ⟨rfl, h2⟩ := hv
    rw [run_equalIn_string w d f _ _ hj, str_eq h1 h2]
  · cases u <;> simp only [cellEq] at h <;> (try (cases h; done))
    cases v <;> simp only [cellEq] at h <;> (try (cases h; done))
    next x y =>
    injection h with h; subst h
    simp only [Rep] at hu hv
    subst hu hv
    rw [run_equalIn_bool' w d f _ _ hj, bBeq_eq]

theorem cellsEq_nil {x y : List AV} {r : Bool} (h : cellsEq [] x y = some r) : r = true := by
  cases x <;> cases y <;> simp [cellsEq] at h
  exact h
theorem cellsEq_cons {k : Nat} {ks : List Nat} {x y : List AV} {r : Bool} (h : cellsEq (k :: ks) x y = some r) : ∃ a b x' y' p q, x = a :: x' ∧ y = b :: y' ∧ cellEq k a b = some p ∧ cellsEq ks x' y' = some q ∧ r = (p && q) := by
  cases x with
  | nil => exact absurd (show (none : Option Bool) = some r from h) (by simp)
  | cons a x => cases y with
    | nil => exact absurd (show (none : Option Bool) = some r from h) (by simp)
    | cons b y =>
      obtain ⟨p, q, h1, h2, h3⟩ := andO_some (show andO (cellEq k a b) (cellsEq ks x y) = some r from h)
      exact ⟨a, b, x, y, p, q, rfl, rfl, h1, h2, h3⟩

def At (ρ : Rho) (xs : List AV) (X : Array Value) (i : Nat) : Prop := ∀ (q : Nat) u, xs[q]? = some u → ∃ v, X[i + q]? = some v ∧ Rep ρ u v
theorem At.head {u : AV} {xs : List AV} {X : Array Value} {i : Nat} (h : At ρ (u :: xs) X i) : (∃ v, X[i]? = some v ∧ Rep ρ u v) ∧ At ρ xs X (i + 1) :=
  ⟨by simpa using h 0 u rfl, fun q u' hq => by
    obtain ⟨v, h1, h2⟩ := h (q + 1) u' (by simpa using hq)
    exact ⟨v, by rw [show i + 1 + q = i + (q + 1) from by omega]; exact h1, h2⟩⟩

theorem items_run {el : TypeId} {k : Nat} (hk : kindOf P el = some k) (d : Nat) : ∀ (m j : Nat) (ks : List Nat) (xs ys : List AV) (X Y : Array Value) (r : Bool),
    cellsEq (repN [k] m ++ ks) xs ys = some r → At ρ (xs.take m) X j → At ρ (ys.take m) Y j →
    ∃ p q, (Op.eqItems (d + 1) el 1 X Y (List.range' j m)).run P w = .ok p w ∧ cellsEq ks (xs.drop m) (ys.drop m) = some q ∧ r = (p && q)
  | 0, j, ks, xs, ys, X, Y, r, h, _, _ => ⟨true, r, by simp [Op.eqItems], by simpa [repN_zero] using h, by simp⟩
  | m + 1, j, ks, xs, ys, X, Y, r, h, hx, hy => by
    rw [repN_succ] at h
    obtain ⟨a, b, x', y', p, q, rfl, rfl, h1, h2, rfl⟩ := cellsEq_cons h
    rw [List.take_succ_cons] at hx hy
    obtain ⟨⟨u, hu, ru⟩, hx'⟩ := hx.head
    obtain ⟨⟨v, hv, rv⟩, hy'⟩ := hy.head
    obtain ⟨p', q', h3, h4, rfl⟩ := items_run hk d m (j + 1) ks x' y' X Y q h2 hx' hy'
    have e1 : (part el X (j * 1)).run P w = .ok u w := by rw [Nat.mul_one]; exact run_part1 (kind_agg hk) hu
    have e2 : (part el Y (j * 1)).run P w = .ok v w := by rw [Nat.mul_one]; exact run_part1 (kind_agg hk) hv
    have e3 := cell_run (w := w) hk h1 ru rv d
    refine ⟨(p && p'), q', ?_, by simpa using h4, by cases p <;> rfl⟩
    rw [List.range'_succ]
    simp only [Op.eqItems, Sem.run_bind, e1, e2, e3, Result.andThen_ok]
    cases p with
    | false => simp
    | true => simpa using h3

theorem fields_run (d : Nat) : ∀ (fs : List Field) (i : Nat) (ks : List Nat) (xs ys : List AV) (X Y : Array Value) (r : Bool), flatKinds P fs i = some ks → cellsEq ks xs ys = some r → At ρ xs X i → At ρ ys Y i →
    (Op.eqFields (d + 2) X Y fs).run P w = .ok r w
  | [], i, ks, xs, ys, X, Y, r, hf, h, _, _ => by
    simp [flatKinds] at hf; subst hf
    rw [cellsEq_nil h]
    rfl
  | f :: fs, i, ks, xs, ys, X, Y, r, hf, h, hx, hy => by
    simp only [flatKinds] at hf
    split at hf
    · next hn =>
      obtain ⟨hn1, hn2⟩ := hn
      split at hf
      · next k hk =>
        split at hf
        · next l hl =>
          injection hf with hf; subst hf
          obtain ⟨a, b, x', y', p, q, rfl, rfl, h1, h2, rfl⟩ := cellsEq_cons h
          obtain ⟨⟨u, hu, ru⟩, hx'⟩ := hx.head
          obtain ⟨⟨v, hv, rv⟩, hy'⟩ := hy.head
          have ih := fields_run d fs (i + 1) l x' y' X Y q hl h2 hx' hy'
          have e1 : (part f.type X f.offset).run P w = .ok u w := by rw [hn2]; exact run_part1 (kind_agg hk) hu
          have e2 : (part f.type Y f.offset).run P w = .ok v w := by rw [hn2]; exact run_part1 (kind_agg hk) hv
          have e3 := cell_run (w := w) hk h1 ru rv (d + 1)
          simp only [Op.eqFields, if_pos hn1, Sem.run_bind, e1, e2, e3, Result.andThen_ok]
          cases p with
          | false => simp
          | true => simpa using ih
        · cases hf
      · split at hf
        · next m el hu =>
          split at hf
          · next k s hk hs1 hs2 =>
            split at hf
            · next hsm =>
              split at hf
              · next l hl =>
                injection hf with hf; subst hf; subst hsm
                have hag : aggA P f.type = some true := by simp [aggA, hu]
                have hXt : At ρ (xs.take s) (X.extract i (i + s)) 0 := fun q u' hq => by
                  have hqs : q < s := by
                    rcases Nat.lt_or_ge q s with z | z
                    · exact z
                    · rw [List.getElem?_take, if_neg (by omega)] at hq; cases hq
                  rw [List.getElem?_take, if_pos hqs] at hq
                  obtain ⟨v, h1, h2⟩ := hx q u' hq
                  refine ⟨v, ?_, h2⟩
                  rw [Nat.zero_add, Array.getElem?_extract, if_pos (by have := (Array.getElem?_eq_some_iff.1 h1).1; omega)]
                  exact h1
                have hYt : At ρ (ys.take s) (Y.extract i (i + s)) 0 := fun q u' hq => by
                  have hqs : q < s := by
                    rcases Nat.lt_or_ge q s with z | z
                    · exact z
                    · rw [List.getElem?_take, if_neg (by omega)] at hq; cases hq
                  rw [List.getElem?_take, if_pos hqs] at hq
                  obtain ⟨v, h1, h2⟩ := hy q u' hq
                  refine ⟨v, ?_, h2⟩
                  rw [Nat.zero_add, Array.getElem?_extract, if_pos (by have := (Array.getElem?_eq_some_iff.1 h1).1; omega)]
                  exact h1
                obtain ⟨p, q, h3, h4, rfl⟩ := items_run (w := w) hk d s 0 l xs ys _ _ r h hXt hYt
                have ih := fields_run d fs (i + s) l (xs.drop s) (ys.drop s) X Y q hl h4
                  (fun z u' hz => by
                    rw [List.getElem?_drop] at hz
                    obtain ⟨v, h1, h2⟩ := hx _ u' hz
                    exact ⟨v, by rw [Nat.add_assoc]; exact h1, h2⟩)
                  (fun z u' hz => by
                    rw [List.getElem?_drop] at hz
                    obtain ⟨v, h1, h2⟩ := hy _ u' hz
                    exact ⟨v, by rw [Nat.add_assoc]; exact h1, h2⟩)
                have e1 : (part f.type X f.offset).run P w = .ok (.agg (X.extract i (i + s))) w := by rw [hn2]; exact run_partN hag hs2
                have e2 : (part f.type Y f.offset).run P w = .ok (.agg (Y.extract i (i + s))) w := by rw [hn2]; exact run_partN hag hs2
                unfold sizeA at hs1
                simp only [Option.map_eq_some_iff] at hs1
                obtain ⟨ei, hei, hes⟩ := hs1
                have e3 : (Op.equalIn (d + 1 + 1) f.type (.agg (X.extract i (i + s))) (.agg (Y.extract i (i + s)))).run P w = .ok p w := by
                  rw [run_equalIn_array w (d + 1) _ _ hu hei, show P.cellsOf el = 1 from by simp [Program.cellsOf, hei, hes], List.range_eq_range']
                  exact h3
                simp only [Op.eqFields, if_pos hn1, Sem.run_bind, e1, e2, e3, Result.andThen_ok]
                cases p with
                | false => simp
                | true => simpa using ih
              · cases hf
            · cases hf
          · cases hf
        · cases hf
    · cases hf

theorem flat_run {ks : List Nat} {t : TypeId} (hk : eqkOf P t = some (.flat ks)) {x y : List AV} {r : Bool} (h : cellsEq ks x y = some r) {cx cy : List Value} (hx : RepL ρ x cx) (hy : RepL ρ y cy) (p q : Operand) :
    (do eqGuard .eql t p q (.agg ⟨cx⟩) (.agg ⟨cy⟩); binOp .eql t (.agg ⟨cx⟩) (.agg ⟨cy⟩) : Sem Value).run P w = .ok (.bool r) w ∧ (do eqGuard .neq t p q (.agg ⟨cx⟩) (.agg ⟨cy⟩); binOp .neq t (.agg ⟨cx⟩) (.agg ⟨cy⟩) : Sem Value).run P w = .ok (.bool !r) w := by
  unfold eqkOf at hk
  split at hk <;> (try (injection hk with hk; cases hk; done)) <;> (try (cases hk; done))
  next fs hu =>
  split at hk
  · next ks' hks =>
    split at hk
    · next hg =>
      injection hk with hk; injection hk with hk; subst hk
      have hfs : P.fieldsOf t = fs := by simp [Program.fieldsOf, hu]
      refine bin_of_equal (fun op x y => run_eqGuard_agg w op t x y _ _ hg.1) (by simp) (by simp) (by simp) (by simp) ?_ p q
      have := fields_run (P := P) (ρ := ρ) (w := w) 9997 fs.toList 0 ks' x y ⟨cx⟩ ⟨cy⟩ r hks h
        (fun q u hq => by obtain ⟨v, h1, h2⟩ := hx.get hq; exact ⟨v, by simpa using h1, h2⟩)
        (fun q u hq => by obtain ⟨v, h1, h2⟩ := hy.get hq; exact ⟨v, by simpa using h1, h2⟩)
      have e := run_equalIn_struct (P := P) w 9999 t ⟨cx⟩ ⟨cy⟩ (by rw [hfs]; exact hu) hg.2
      rw [hfs] at e
      exact e.trans this
    · cases hk
  · cases hk

theorem run_v {s : Sem Value} {cv : Value} {w w' : World} (h : s.run P w = .ok cv w') : (do pure (Next.value (← s)) : Sem Next).run P w = .ok (.value cv) w' := by simp [h]

/-! ### The operation -/
theorem ok_bin {op : BinOp} {k : EqK} {t yt : TypeId} {x y : Operand} {x' y' : AX} (hk : eqkOf P t = some k) (hx : trX x = some x') (hy : trX y = some y') : OpOk P (fBin op k x' y') (.binOp op t x y yt) := by
  intro call e s v s' h
  unfold fBin at h
  split at h
  · next j m r u2 h1 h2 =>
    obtain ⟨h3, rfl⟩ := ans_some h
    refine ⟨Nat.le_refl _, fun F w0 ρ w a he hs hf o ho => ?_⟩
    have r1 := he.x hx h1
    have r2 := he.x hy h2
    unfold resBin at h3
    split at h3
    · next j' d =>
      cases q1 : kEq j j' with
      | false => rw [q1] at h3; cases h3
      | true =>
      cases q2 : Nat.beq d 0 with
      | true => rw [q1, q2] at h3; cases h3
      | false =>
      cases q3 : Nat.beq (Nat.mod m d) 0 with
      | false => rw [q1, q2, q3] at h3; cases h3
      | true =>
      rw [q1, q2, q3] at h3
      simp only [cond_true, cond_false, Option.some.injEq] at h3
      have := kEq_eq q1; subst this
      have hd : d ≠ 0 := Nat.ne_of_beq_eq_false q2
      have hdv : d ∣ m := Nat.dvd_of_mod_eq_zero (Nat.eq_of_beq_eq_true q3)
      simp only [Rep] at r1 r2
      obtain ⟨n, r1, hn, hm⟩ := r1
      have hnd : n % d = r % d := by rw [← hm, Nat.mod_mod_of_dvd n hdv]
      have hi : intBin .rem j (.ofNat n) (.ofNat d) = some (.int j (.ofNat (n % d))) := by
        unfold intBin
        have : iEq (.ofNat d) 0 = false := by
          show Nat.beq d 0 = false
          exact q2
        rw [this]; rfl
      have hg := eqGuard_plain (P := P) (w := w) .rem t x y (.int j (.ofNat n)) (.int j (.ofNat d)) (by simp) (by simp)
      obtain ⟨cv, h4, h5⟩ := intBin_run (P := P) (w := w) hi (by simp) (by simp) t
      refine res_here hs (v := v) (cv := cv) (by rw [← h3]; have := h5 ρ; rw [hnd] at this; exact this) ?_
      unfold execOp
      rw [ho]
      have key : ∀ (z1 z2 : Int), (eqGuard .rem t x y (.int j z1) (.int j z2)).run P w = .ok () w → (binOp .rem t (.int j z1) (.int j z2)).run P w = .ok cv w →
          (do eqGuard .rem t x y (.int j z1) (.int j z2); binOp .rem t (.int j z1) (.int j z2) : Sem Value).run P w = .ok cv w := fun z1 z2 g1 g2 => by simp [g1, g2]
      exact run_v (by rw [r1, r2]; exact key _ _ hg h4)
    · cases h3
  · next u1 u2 hne h1 h2 =>
    clear hne
    obtain ⟨h3, rfl⟩ := ans_some h
    refine ⟨Nat.le_refl _, fun F w0 ρ w a he hs hf o ho => ?_⟩
    have r1 := he.x hx h1
    have r2 := he.x hy h2
    suffices ∃ cv, (do eqGuard op t x y (a.eval x) (a.eval y); binOp op t (a.eval x) (a.eval y) : Sem Value).run P w = .ok cv w ∧ Rep ρ v cv by
      obtain ⟨cv, h4, h5⟩ := this
      refine res_here hs h5 ?_
      unfold execOp
      rw [ho]
      exact run_v h4
    unfold evalBin at h3
    split at h3
    · next j a1 j' a2 =>
      simp only [Rep] at r1 r2
      rw [r1, r2]
      have hg := eqGuard_plain (P := P) (w := w) op t x y (.int j a1) (.int j' a2) (by simp) (by simp)
      split at h3
      · obtain ⟨cv, h4, h5⟩ := shift_run (P := P) (w := w) (j := j') h3 t
        exact ⟨cv, by simp [hg, h4], h5 ρ⟩
      · obtain ⟨cv, h4, h5⟩ := shift_run (P := P) (w := w) (j := j') h3 t
        exact ⟨cv, by simp [hg, h4], h5 ρ⟩
      · next n1 n2 =>
        cases hq : kEq j j' with
        | false => rw [hq] at h3; cases h3
        | true =>
          rw [hq] at h3
          have := kEq_eq hq; subst this
          obtain ⟨cv, h4, h5⟩ := intBin_run (P := P) (w := w) h3 n1 n2 t
          exact ⟨cv, by simp [hg, h4], h5 ρ⟩
    · next a1 a2 =>
      simp only [Rep] at r1 r2
      obtain ⟨r1, s1⟩ := r1
      obtain ⟨r2, s2⟩ := r2
      rw [r1, r2]
      have hg := eqGuard_plain (P := P) (w := w) op t x y (.string (strOf a1)) (.string (strOf a2)) (by simp) (by simp)
      obtain ⟨cv, h4, h5⟩ := strBin_run (P := P) (w := w) s1 s2 h3 t
      exact ⟨cv, by simp [hg, h4], h5 ρ⟩
    · next n1 n2 =>
      by_cases hfl : ∃ ks, k = .flat ks
      · obtain ⟨ks, rfl⟩ := hfl
        have key : ∀ r, nilEq (.flat ks) u1 u2 = some r → ∃ cx cy, a.eval x = .agg ⟨cx⟩ ∧ a.eval y = .agg ⟨cy⟩ ∧
            (do eqGuard .eql t x y (.agg ⟨cx⟩) (.agg ⟨cy⟩); binOp .eql t (.agg ⟨cx⟩) (.agg ⟨cy⟩) : Sem Value).run P w = .ok (.bool r) w ∧ (do eqGuard .neq t x y (.agg ⟨cx⟩) (.agg ⟨cy⟩); binOp .neq t (.agg ⟨cx⟩) (.agg ⟨cy⟩) : Sem Value).run P w = .ok (.bool !r) w := by
          intro r hr
          cases u1 <;> cases u2 <;> simp only [nilEq] at hr <;> (try (cases hr; done))
          simp only [Rep] at r1 r2
          obtain ⟨cx, e1, q1⟩ := r1
          obtain ⟨cy, e2, q2⟩ := r2
          exact ⟨cx, cy, e1, e2, flat_run hk hr q1 q2 x y⟩
        split at h3
        · simp only [Option.map_eq_some_iff] at h3
          obtain ⟨r, hr, rfl⟩ := h3
          obtain ⟨cx, cy, e1, e2, q1, _⟩ := key r hr
          exact ⟨_, by rw [e1, e2]; exact q1, by simp only [Rep]⟩
        · simp only [Option.map_eq_some_iff] at h3
          obtain ⟨r, hr, rfl⟩ := h3
          obtain ⟨cx, cy, e1, e2, _, q2⟩ := key r hr
          exact ⟨_, by rw [e1, e2]; exact q2, by simp only [Rep, bNot_eq]⟩
        · cases h3
      · have hfl' : ∀ n, k ≠ .flat n := fun n q => hfl ⟨n, q⟩
        split at h3
        · simp only [Option.map_eq_some_iff] at h3
          obtain ⟨r, hr, rfl⟩ := h3
          exact ⟨_, (nil_run hk hfl' hr r1 r2 x y).1, by simp only [Rep]⟩
        · simp only [Option.map_eq_some_iff] at h3
          obtain ⟨r, hr, rfl⟩ := h3
          exact ⟨_, (nil_run hk hfl' hr r1 r2 x y).2, by simp only [Rep, bNot_eq]⟩
        · cases h3
  · cases h
end
end Go.Am
