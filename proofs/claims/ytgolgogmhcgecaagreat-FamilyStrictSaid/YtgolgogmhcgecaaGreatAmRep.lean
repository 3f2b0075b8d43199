/- What an abstract value and an abstract heap say of the model's values and worlds. -/
import Derived.Test.YtgolgogmhcgecaaGreatAmCore
import Derived.Laws.Sem
import Derived.Laws.Cells
namespace Go.Am
set_option linter.unusedVariables false
set_option linter.unusedSimpArgs false

/-! ### Maps -/
theorem Tr.get_single {α : Type} (x : Option α) : ∀ (f i j : Nat), i < f → (Tr.single x f i).get j = if j = i then x else none
  | 0, i, j, h => by omega
  | f + 1, 0, j, h => by
    rw [Tr.single_zero]
    cases j with
    | zero => simp [Tr.get_zero]
    | succ j => rw [Tr.get_succ]; cases Nat.beq (j % 2) 0 <;> simp [Tr.get_leaf]
  | f + 1, i + 1, j, h => by
    rw [Tr.single_succ]
    have hi : i / 2 < f := by omega
    cases j with
    | zero => cases Nat.beq (i % 2) 0 <;> simp [Tr.get_zero]
    | succ j =>
      have ih := Tr.get_single x f (i / 2) (j / 2) hi
      by_cases h1 : i % 2 = 0 <;> by_cases h2 : j % 2 = 0
      · have e1 : Nat.beq (i % 2) 0 = true := by simp [h1]
        have e2 : Nat.beq (j % 2) 0 = true := by simp [h2]
        rw [e1, cond_true, Tr.get_succ, e2, cond_true, ih]
        by_cases hj : j = i
        · subst hj; simp
        · rw [if_neg (by omega), if_neg (by omega)]
      · have e1 : Nat.beq (i % 2) 0 = true := by simp [h1]
        have e2 : Nat.beq (j % 2) 0 = false := by rw [Bool.eq_false_iff]; intro hh; exact h2 (Nat.eq_of_beq_eq_true hh)
        rw [e1, cond_true, Tr.get_succ, e2, cond_false, Tr.get_leaf, if_neg (by omega)]
      · have e1 : Nat.beq (i % 2) 0 = false := by rw [Bool.eq_false_iff]; intro hh; exact h1 (Nat.eq_of_beq_eq_true hh)
        have e2 : Nat.beq (j % 2) 0 = true := by simp [h2]
        rw [e1, cond_false, Tr.get_succ, e2, cond_true, Tr.get_leaf, if_neg (by omega)]
      · have e1 : Nat.beq (i % 2) 0 = false := by rw [Bool.eq_false_iff]; intro hh; exact h1 (Nat.eq_of_beq_eq_true hh)
        have e2 : Nat.beq (j % 2) 0 = false := by rw [Bool.eq_false_iff]; intro hh; exact h2 (Nat.eq_of_beq_eq_true hh)
        rw [e1, cond_false, Tr.get_succ, e2, cond_false, ih]
        by_cases hj : j = i
        · subst hj; simp
        · rw [if_neg (by omega), if_neg (by omega)]

theorem Tr.get_put {α : Type} (x : Option α) : ∀ (t : Tr α) (i j : Nat), (t.put x i).get j = if j = i then x else t.get j
  | .leaf, i, j => by rw [Tr.put_leaf, Tr.get_single x (i + 1) i j (by omega), Tr.get_leaf]
  | .node v l r, 0, j => by
    rw [Tr.put_zero]
    cases j with
    | zero => simp [Tr.get_zero]
    | succ j => rw [Tr.get_succ, Tr.get_succ]; simp
  | .node v l r, i + 1, j => by
    rw [Tr.put_succ]
    cases j with
    | zero => cases Nat.beq (i % 2) 0 <;> simp [Tr.get_zero]
    | succ j =>
      have ihl := Tr.get_put x l (i / 2) (j / 2)
      have ihr := Tr.get_put x r (i / 2) (j / 2)
      by_cases h1 : i % 2 = 0 <;> by_cases h2 : j % 2 = 0
      · have e1 : Nat.beq (i % 2) 0 = true := by simp [h1]
        have e2 : Nat.beq (j % 2) 0 = true := by simp [h2]
        rw [e1, cond_true, Tr.get_succ, Tr.get_succ, e2, cond_true, cond_true, ihl]
        by_cases hj : j = i
        · subst hj; simp
        · rw [if_neg (by omega), if_neg (by omega)]
      · have e1 : Nat.beq (i % 2) 0 = true := by simp [h1]
        have e2 : Nat.beq (j % 2) 0 = false := by rw [Bool.eq_false_iff]; intro hh; exact h2 (Nat.eq_of_beq_eq_true hh)
        rw [e1, cond_true, Tr.get_succ, Tr.get_succ, e2, cond_false, cond_false, if_neg (by omega)]
      · have e1 : Nat.beq (i % 2) 0 = false := by rw [Bool.eq_false_iff]; intro hh; exact h1 (Nat.eq_of_beq_eq_true hh)
        have e2 : Nat.beq (j % 2) 0 = true := by simp [h2]
        rw [e1, cond_false, Tr.get_succ, Tr.get_succ, e2, cond_true, cond_true, if_neg (by omega)]
      · have e1 : Nat.beq (i % 2) 0 = false := by rw [Bool.eq_false_iff]; intro hh; exact h1 (Nat.eq_of_beq_eq_true hh)
        have e2 : Nat.beq (j % 2) 0 = false := by rw [Bool.eq_false_iff]; intro hh; exact h2 (Nat.eq_of_beq_eq_true hh)
        rw [e1, cond_false, Tr.get_succ, Tr.get_succ, e2, cond_false, cond_false, ihr]
        by_cases hj : j = i
        · subst hj; simp
        · rw [if_neg (by omega), if_neg (by omega)]

def upd {α : Type} (h : Nat → Option α) (o : Nat) (x : Option α) : Nat → Option α := fun j => if j = o then x else h j
theorem Tr.put_get {α : Type} (x : Option α) (t : Tr α) (i : Nat) : (t.put x i).get = upd t.get i x := funext (Tr.get_put x t i)

/-! ### Lists -/
theorem lenL_eq {α : Type} (l : List α) : lenL l = l.length := by
  induction l with
  | nil => rfl
  | cons a l ih => show Nat.succ (lenL l) = _; rw [ih]; rfl
theorem appL_eq {α : Type} (l m : List α) : appL l m = l ++ m := by
  induction l with
  | nil => rfl
  | cons a l ih => show a :: appL l m = _; rw [ih]; rfl
theorem repN_zero {α : Type} (l : List α) : repN l 0 = [] := rfl
theorem repN_succ {α : Type} (l : List α) (n : Nat) : repN l (n + 1) = l ++ repN l n := appL_eq _ _

theorem rd1_nil (o : Nat) : rd1 [] o = none := rfl
theorem rd1_eq (cs : List AV) : ∀ o, rd1 cs o = cs[o]? := by
  induction cs with
  | nil => intro o; rfl
  | cons c cs ih => intro o; cases o with
    | zero => rfl
    | succ o => show rd1 cs o = _; rw [ih]; simp
theorem nth_eq (cs : List Nat) : ∀ o, nth cs o = cs[o]? := by
  induction cs with
  | nil => intro o; rfl
  | cons c cs ih => intro o; cases o with
    | zero => rfl
    | succ o => show nth cs o = _; rw [ih]; simp
theorem consO_some {c : AV} {x : Option (List AV)} {l : List AV} (h : consO c x = some l) : ∃ l', x = some l' ∧ l = c :: l' := by
  cases x with
  | none => simp [consO] at h
  | some l' => simp [consO] at h; exact ⟨l', rfl, h.symm⟩
theorem takeN_some (cs : List AV) : ∀ (n : Nat) (l : List AV), takeN cs n = some l → n ≤ cs.length ∧ l = cs.take n := by
  induction cs with
  | nil => intro n l h; cases n with
    | zero => have : some [] = some l := h; simp at this; subst this; simp
    | succ n => exact absurd (show (none : Option (List AV)) = some l from h) (by simp)
  | cons c cs ih => intro n l h; cases n with
    | zero => have : some [] = some l := h; simp at this; subst this; simp
    | succ n =>
      obtain ⟨l', h1, rfl⟩ := consO_some (show consO c (takeN cs n) = some l from h)
      obtain ⟨a, b⟩ := ih n l' h1
      subst b
      exact ⟨by simp; omega, by simp⟩
theorem rdN_some (cs : List AV) : ∀ (o n : Nat) (l : List AV), rdN cs o n = some l → o + n ≤ cs.length ∧ l = (cs.drop o).take n := by
  induction cs with
  | nil => intro o n l h; cases o with
    | zero => obtain ⟨a, b⟩ := takeN_some [] n l (show takeN [] n = some l from h); exact ⟨by simpa using a, by simpa using b⟩
    | succ o => exact absurd (show (none : Option (List AV)) = some l from h) (by simp)
  | cons c cs ih => intro o n l h; cases o with
    | zero => obtain ⟨a, b⟩ := takeN_some (c :: cs) n l (show takeN (c :: cs) n = some l from h); exact ⟨by simpa using a, by simpa using b⟩
    | succ o =>
      obtain ⟨a, b⟩ := ih o n l (show rdN cs o n = some l from h)
      exact ⟨by simp; omega, by simpa using b⟩
theorem overN_some (vs : List AV) : ∀ (cs l : List AV), overN vs cs = some l → vs.length ≤ cs.length ∧ l = vs ++ cs.drop vs.length := by
  induction vs with
  | nil => intro cs l h; have : some cs = some l := h; simp at this; subst this; simp
  | cons v vs ih => intro cs l h; cases cs with
    | nil => exact absurd (show (none : Option (List AV)) = some l from h) (by simp)
    | cons c cs =>
      obtain ⟨l', h1, rfl⟩ := consO_some (show consO v (overN vs cs) = some l from h)
      obtain ⟨a, b⟩ := ih cs l' h1
      subst b
      exact ⟨by simp; omega, by simp⟩
theorem wrN_some (cs : List AV) : ∀ (o : Nat) (vs l : List AV), wrN cs o vs = some l → o + vs.length ≤ cs.length ∧ l = cs.take o ++ (vs ++ cs.drop (o + vs.length)) := by
  induction cs with
  | nil => intro o vs l h; cases o with
    | zero => obtain ⟨a, b⟩ := overN_some vs [] l (show overN vs [] = some l from h); exact ⟨by simpa using a, by simpa using b⟩
    | succ o => exact absurd (show (none : Option (List AV)) = some l from h) (by simp)
  | cons c cs ih => intro o vs l h; cases o with
    | zero => obtain ⟨a, b⟩ := overN_some vs (c :: cs) l (show overN vs (c :: cs) = some l from h); exact ⟨by simpa using a, by simpa using b⟩
    | succ o =>
      obtain ⟨l', h1, rfl⟩ := consO_some (show consO c (wrN cs o vs) = some l from h)
      obtain ⟨a, b⟩ := ih o vs l' h1
      subst b
      exact ⟨by simp; omega, by simp [show o + 1 + vs.length = (o + vs.length) + 1 from by omega]⟩
theorem allOne_mem {vs : List AV} (h : allOne vs = true) : ∀ v ∈ vs, v.one = true := by
  induction vs with
  | nil => intro v hv; cases hv
  | cons a vs ih =>
    have h' : Bool.rec (motive := fun _ => Bool) false (allOne vs) a.one = true := h
    cases ha : a.one with
    | false => rw [ha] at h'; cases h'
    | true =>
      rw [ha] at h'
      intro v hv
      rcases List.mem_cons.1 hv with rfl | hv
      · exact ha
      · exact ih h' v hv

/-! ### Values -/
structure Loc where
  b : Nat
  base : Nat
  sz : Nat
abbrev Rho := Nat → Option Loc

def capOk (l : Loc) (off : Nat) : Cap → Nat → Prop
  | .ex c, c' => c' = c
  | .full es, c' => l.base = 0 ∧ off + c' * es = l.sz

def strOf (s : List Nat) : ByteArray := ⟨(s.map UInt8.ofNat).toArray⟩
def small (s : List Nat) : Prop := ∀ x ∈ s, x < 256

mutual
def Rep (ρ : Rho) : AV → Value → Prop
  | .bool b, v => v = .bool b
  | .int k n, v => v = .int k n
  | .str s, v => v = .string (strOf s) ∧ small s
  | .ptr o off, v => ∃ l, ρ o = some l ∧ v = .pointer (some ⟨l.b, l.base + off, none⟩)
  | .nilPtr, v => v = .pointer none
  | .slice o off len cap, v => ∃ l c, ρ o = some l ∧ v = .slice (some ⟨l.b, l.base + off, none⟩) len c ∧ len ≤ c ∧ capOk l off cap c
  | .nilSlice, v => v = .slice none 0 0
  | .map o, v => ∃ l, ρ o = some l ∧ v = .map (some l.b)
  | .nilMap, v => v = .map none
  | .func f caps, v => ∃ cv, v = .func (.func f) #[] ⟨cv⟩ ∧ RepL ρ caps cv
  | .nilFunc, v => v = .nilFunc
  | .emptySl, v => ∃ p c, v = .slice (some p) 0 c
  | .agg cs, v => ∃ cv, v = .agg ⟨cv⟩ ∧ RepL ρ cs cv
  | .tuple vs, v => ∃ cv, v = .tuple ⟨cv⟩ ∧ RepL ρ vs cv
  | .res k m r, v => ∃ n : Nat, v = .int k (.ofNat n) ∧ n ≤ 255 ∧ n % m = r
def RepL (ρ : Rho) : List AV → List Value → Prop
  | [], vs => vs = []
  | a :: as, vs => ∃ v r, vs = v :: r ∧ Rep ρ a v ∧ RepL ρ as r
end

def Sub (ρ ρ' : Rho) : Prop := ∀ o l, ρ o = some l → ρ' o = some l
theorem Sub.refl (ρ : Rho) : Sub ρ ρ := fun _ _ h => h
theorem Sub.trans {ρ ρ' ρ'' : Rho} (h : Sub ρ ρ') (h' : Sub ρ' ρ'') : Sub ρ ρ'' := fun o l x => h' o l (h o l x)

mutual
theorem Rep.mono {ρ ρ' : Rho} (h : Sub ρ ρ') : ∀ (a : AV) (v : Value), Rep ρ a v → Rep ρ' a v
  | .bool _, _, hr => hr
  | .int _ _, _, hr => hr
  | .str _, _, hr => hr
  | .ptr _ _, _, hr => by
    simp only [Rep] at hr ⊢
    obtain ⟨l, h1, h2⟩ := hr
    exact ⟨l, h _ _ h1, h2⟩
  | .nilPtr, _, hr => hr
  | .slice _ _ _ _, _, hr => by
    simp only [Rep] at hr ⊢
    obtain ⟨l, c, h1, h2⟩ := hr
    exact ⟨l, c, h _ _ h1, h2⟩
  | .nilSlice, _, hr => hr
  | .map _, _, hr => by
    simp only [Rep] at hr ⊢
    obtain ⟨l, h1, h2⟩ := hr
    exact ⟨l, h _ _ h1, h2⟩
  | .nilMap, _, hr => hr
  | .func f caps, _, hr => by
    simp only [Rep] at hr ⊢
    obtain ⟨cv, h1, h2⟩ := hr
    exact ⟨cv, h1, RepL.mono h caps cv h2⟩
  | .nilFunc, _, hr => hr
  | .emptySl, _, hr => hr
  | .res _ _ _, _, hr => hr
  | .agg cs, _, hr => by
    simp only [Rep] at hr ⊢
    obtain ⟨cv, h1, h2⟩ := hr
    exact ⟨cv, h1, RepL.mono h cs cv h2⟩
  | .tuple cs, _, hr => by
    simp only [Rep] at hr ⊢
    obtain ⟨cv, h1, h2⟩ := hr
    exact ⟨cv, h1, RepL.mono h cs cv h2⟩
theorem RepL.mono {ρ ρ' : Rho} (h : Sub ρ ρ') : ∀ (a : List AV) (v : List Value), RepL ρ a v → RepL ρ' a v
  | [], _, hr => hr
  | a :: as, _, hr => by
    simp only [RepL] at hr ⊢
    obtain ⟨v, r, h1, h2, h3⟩ := hr
    exact ⟨v, r, h1, Rep.mono h a v h2, RepL.mono h as r h3⟩
end

theorem RepL.length {ρ : Rho} : ∀ {as : List AV} {vs : List Value}, RepL ρ as vs → vs.length = as.length
  | [], _, h => by simp only [RepL] at h; subst h; rfl
  | a :: as, _, h => by
    simp only [RepL] at h
    obtain ⟨v, r, rfl, _, h3⟩ := h
    simp [RepL.length h3]
theorem RepL.nil (ρ : Rho) : RepL ρ [] [] := by simp only [RepL]
theorem RepL.cons {ρ : Rho} {a : AV} {v : Value} {as : List AV} {vs : List Value} (h : Rep ρ a v) (h' : RepL ρ as vs) : RepL ρ (a :: as) (v :: vs) := by
  simp only [RepL]; exact ⟨v, vs, rfl, h, h'⟩
theorem RepL.get {ρ : Rho} : ∀ {as : List AV} {vs : List Value}, RepL ρ as vs → ∀ {i : Nat} {a : AV}, as[i]? = some a → ∃ v, vs[i]? = some v ∧ Rep ρ a v
  | [], _, h, i, a, ha => by simp at ha
  | b :: as, _, h, i, a, ha => by
    simp only [RepL] at h
    obtain ⟨v, r, rfl, h2, h3⟩ := h
    cases i with
    | zero => simp at ha; subst ha; exact ⟨v, rfl, h2⟩
    | succ i =>
      obtain ⟨v', h4, h5⟩ := RepL.get h3 (i := i) (a := a) (by simpa using ha)
      exact ⟨v', by simpa using h4, h5⟩
theorem RepL.of_get {ρ : Rho} : ∀ {as : List AV} {vs : List Value}, vs.length = as.length → (∀ (i : Nat) a, as[i]? = some a → ∃ v, vs[i]? = some v ∧ Rep ρ a v) → RepL ρ as vs
  | [], vs, hl, h => by simp only [RepL]; exact List.eq_nil_of_length_eq_zero (by simpa using hl)
  | a :: as, [], hl, h => by simp at hl
  | a :: as, v :: vs, hl, h => by
    obtain ⟨v', h1, h2⟩ := h 0 a rfl
    simp at h1; subst h1
    exact RepL.cons h2 (RepL.of_get (by simpa using hl) fun i b hb => by
      obtain ⟨u, h3, h4⟩ := h (i + 1) b (by simpa using hb)
      exact ⟨u, by simpa using h3, h4⟩)
theorem RepL.append {ρ : Rho} : ∀ {as bs : List AV} {vs us : List Value}, RepL ρ as vs → RepL ρ bs us → RepL ρ (as ++ bs) (vs ++ us)
  | [], bs, _, us, h, h' => by simp only [RepL] at h; subst h; exact h'
  | a :: as, bs, _, us, h, h' => by
    simp only [RepL] at h
    obtain ⟨v, r, rfl, h2, h3⟩ := h
    exact RepL.cons h2 (RepL.append h3 h')
theorem RepL.take {ρ : Rho} : ∀ {as : List AV} {vs : List Value} (n : Nat), RepL ρ as vs → RepL ρ (as.take n) (vs.take n)
  | [], _, n, h => by simp only [RepL] at h; subst h; simpa using RepL.nil ρ
  | a :: as, _, 0, h => by simpa using RepL.nil ρ
  | a :: as, _, n + 1, h => by
    simp only [RepL] at h
    obtain ⟨v, r, rfl, h2, h3⟩ := h
    exact RepL.cons h2 (RepL.take n h3)
theorem RepL.drop {ρ : Rho} : ∀ {as : List AV} {vs : List Value} (n : Nat), RepL ρ as vs → RepL ρ (as.drop n) (vs.drop n)
  | [], _, n, h => by simp only [RepL] at h; subst h; simpa using RepL.nil ρ
  | a :: as, _, 0, h => by simpa using h
  | a :: as, _, n + 1, h => by
    simp only [RepL] at h
    obtain ⟨v, r, rfl, h2, h3⟩ := h
    simpa using RepL.drop n h3
theorem RepL.repN {ρ : Rho} {as : List AV} {vs : List Value} (h : RepL ρ as vs) : ∀ n, ∃ us, RepL ρ (repN as n) us ∧ us.length = n * vs.length ∧ ∀ i, i < n * vs.length → us[i]? = vs[i % vs.length]?
  | 0 => ⟨[], RepL.nil ρ, by simp, by intro i hi; simp at hi⟩
  | n + 1 => by
    obtain ⟨us, h1, h2, h3⟩ := RepL.repN h n
    refine ⟨vs ++ us, by rw [repN_succ]; exact RepL.append h h1, by simp [h2, Nat.succ_mul, Nat.add_comm], fun i hi => ?_⟩
    by_cases hl : i < vs.length
    · rw [List.getElem?_append_left hl, Nat.mod_eq_of_lt hl]
    · rw [List.getElem?_append_right (by omega), h3 _ (by rw [Nat.succ_mul] at hi; omega)]
      congr 1
      rw [Nat.mod_eq_sub_mod (show i ≥ vs.length by omega)]

/-- The cells of a value. -/
theorem Rep.cells {ρ : Rho} {a : AV} {v : Value} (h : Rep ρ a v) : RepL ρ a.cells v.cells.toList := by
  cases a <;> simp only [AV.cells] <;> try (simp only [Rep] at h)
  case agg cs => obtain ⟨cv, rfl, h⟩ := h; simpa [Value.cells] using h
  case bool b => subst h; exact RepL.cons (by simp only [Rep]) (RepL.nil ρ)
  case int k n => subst h; exact RepL.cons (by simp only [Rep]) (RepL.nil ρ)
  case str s => obtain ⟨rfl, h⟩ := h; exact RepL.cons (by simp only [Rep]; exact ⟨trivial, h⟩) (RepL.nil ρ)
  case ptr o off => obtain ⟨l, h1, rfl⟩ := h; exact RepL.cons (by simp only [Rep]; exact ⟨l, h1, rfl⟩) (RepL.nil ρ)
  case nilPtr => subst h; exact RepL.cons (by simp only [Rep]) (RepL.nil ρ)
  case slice o off len cap => obtain ⟨l, c, h1, rfl, h2⟩ := h; exact RepL.cons (by simp only [Rep]; exact ⟨l, c, h1, rfl, h2⟩) (RepL.nil ρ)
  case nilSlice => subst h; exact RepL.cons (by simp only [Rep]) (RepL.nil ρ)
  case map o => obtain ⟨l, h1, rfl⟩ := h; exact RepL.cons (by simp only [Rep]; exact ⟨l, h1, rfl⟩) (RepL.nil ρ)
  case nilMap => subst h; exact RepL.cons (by simp only [Rep]) (RepL.nil ρ)
  case func f caps => obtain ⟨cv, rfl, h⟩ := h; exact RepL.cons (by simp only [Rep]; exact ⟨cv, rfl, h⟩) (RepL.nil ρ)
  case nilFunc => subst h; exact RepL.cons (by simp only [Rep]) (RepL.nil ρ)
  case emptySl => obtain ⟨p, c, rfl⟩ := h; exact RepL.cons (by simp only [Rep]; exact ⟨p, c, rfl⟩) (RepL.nil ρ)
  case tuple vs => obtain ⟨cv, rfl, h⟩ := h; exact RepL.cons (by simp only [Rep]; exact ⟨cv, rfl, h⟩) (RepL.nil ρ)
  case res k m r => obtain ⟨n, rfl, h⟩ := h; exact RepL.cons (by simp only [Rep]; exact ⟨n, rfl, h⟩) (RepL.nil ρ)

/-- A value of one cell is none of several. -/
theorem Rep.one {ρ : Rho} {a : AV} {v : Value} (h : Rep ρ a v) (h1 : a.one = true) : (∀ c, v ≠ .agg c) ∧ ∀ c, v ≠ .tuple c := by
  cases a <;> simp [AV.one] at h1 <;> simp only [Rep] at h
  case str s => obtain ⟨rfl, _⟩ := h; simp
  case ptr o off => obtain ⟨l, _, rfl⟩ := h; simp
  case slice o off len cap => obtain ⟨l, c, _, rfl, _⟩ := h; simp
  case map o => obtain ⟨l, _, rfl⟩ := h; simp
  case func f caps => obtain ⟨cv, rfl, _⟩ := h; simp
  case emptySl => obtain ⟨p, c, rfl⟩ := h; simp
  case res k m r => obtain ⟨n, rfl, _⟩ := h; simp
  all_goals subst h; simp

/-! ### Heaps and worlds -/
abbrev Heap := Nat → Option AObj
def AObj.ro : AObj → Bool
  | .cells _ r => r
  | .map _ => false

def RepEs (ρ : Rho) : List (AV × AV) → List MapEntry → Prop
  | [], es => es = []
  | p :: ps, es => ∃ e r, es = e :: r ∧ Rep ρ p.1 e.key ∧ Rep ρ p.2 e.val ∧ RepEs ρ ps r

theorem RepEs.mono {ρ ρ' : Rho} (h : Sub ρ ρ') : ∀ {ps : List (AV × AV)} {es : List MapEntry}, RepEs ρ ps es → RepEs ρ' ps es
  | [], _, hr => hr
  | p :: ps, _, hr => by
    obtain ⟨e, r, h1, h2, h3, h4⟩ := hr
    exact ⟨e, r, h1, Rep.mono h _ _ h2, Rep.mono h _ _ h3, RepEs.mono h h4⟩

/-- The stamps of a map's entries: each its own, all from before now. -/
def Born (es : List MapEntry) (clock : Nat) : Prop := (∀ e ∈ es, e.born < clock) ∧ (es.map (·.born)).Nodup
theorem Born.nil : Born [] 0 := ⟨fun e h => by (cases h), List.nodup_nil⟩
theorem Born.push {es : List MapEntry} {clock : Nat} (h : Born es clock) (k v : Value) : Born (es ++ [⟨k, v, clock⟩]) (clock + 1) := by
  refine ⟨fun e he => ?_, ?_⟩
  · rcases List.mem_append.1 he with he | he
    · have := h.1 e he; omega
    · rw [List.mem_singleton] at he; subst he; exact Nat.lt_succ_self _
  · rw [List.map_append, List.nodup_append]
    refine ⟨h.2, by simp, fun a ha b hb => ?_⟩
    obtain ⟨e, he, rfl⟩ := List.mem_map.1 ha
    have := h.1 e he
    simp only [List.map_cons, List.map_nil, List.mem_singleton] at hb
    subst hb
    omega
theorem born_modify (k v : Value) : ∀ (es : List MapEntry) (j : Nat), (es.modify j fun e => { e with key := k, val := v }).map (·.born) = es.map (·.born)
  | [], j => by simp
  | e :: es, 0 => by simp
  | e :: es, j + 1 => by simp only [List.modify_succ_cons, List.map_cons]; rw [born_modify k v es j]
theorem Born.modify {es : List MapEntry} {clock : Nat} (h : Born es clock) (j : Nat) (k v : Value) : Born (es.modify j fun e => { e with key := k, val := v }) clock := by
  refine ⟨fun e he => ?_, by rw [born_modify]; exact h.2⟩
  have : e.born ∈ (es.modify j fun e => { e with key := k, val := v }).map (·.born) := List.mem_map.2 ⟨e, he, rfl⟩
  rw [born_modify] at this
  obtain ⟨e', he', q⟩ := List.mem_map.1 this
  have := h.1 e' he'
  omega

def ObjRep (ρ : Rho) (l : Loc) (x : Option Obj) : AObj → Prop
  | .cells cs true => ∃ c t fr, x = some (.cells c t fr) ∧ ∀ (i : Nat) a, cs[i]? = some a → ∃ v, c[l.base + i]? = some v ∧ Rep ρ a v
  | .cells cs false => l.base = 0 ∧ ∃ c t fr, x = some (.cells c t fr) ∧ c.size = l.sz ∧ cs.length ≤ l.sz ∧
      (∀ (i : Nat) a, cs[i]? = some a → ∃ v, c[i]? = some v ∧ Rep ρ a v) ∧ ∀ i, i < l.sz → ¬ (fr.1 ≤ i ∧ i < fr.2)
  | .map ps => ∃ es clock, x = some (.map es clock) ∧ RepEs ρ ps es.toList ∧ Born es.toList clock

theorem ObjRep.mono {ρ ρ' : Rho} (h : Sub ρ ρ') {l : Loc} {x : Option Obj} : ∀ {y : AObj}, ObjRep ρ l x y → ObjRep ρ' l x y
  | .cells cs true, hr => by
    obtain ⟨c, t, fr, h1, h2⟩ := hr
    exact ⟨c, t, fr, h1, fun i a ha => let ⟨v, h3, h4⟩ := h2 i a ha; ⟨v, h3, Rep.mono h _ _ h4⟩⟩
  | .cells cs false, hr => by
    obtain ⟨hb, c, t, fr, h1, h5, h6, h2, h7⟩ := hr
    exact ⟨hb, c, t, fr, h1, h5, h6, fun i a ha => let ⟨v, h3, h4⟩ := h2 i a ha; ⟨v, h3, Rep.mono h _ _ h4⟩, h7⟩
  | .map ps, hr => by
    obtain ⟨es, cl, h1, h2, h3⟩ := hr
    exact ⟨es, cl, h1, RepEs.mono h h2, h3⟩

/-- Blocks that stay as they were (k); those that no object of the heap lies in, too (p). -/
structure Fr where
  k : Nat → Prop
  p : Nat → Prop
/-- A world that bears an abstract heap, and leaves what F names as it was in w0. -/
structure Sat (F : Fr) (w0 : World) (ρ : Rho) (h : Heap) (w : World) : Prop where
  objs : ∀ o x, h o = some x → ∃ l, ρ o = some l ∧ ObjRep ρ l w.heap[l.b]? x
  inj : ∀ o o' x x' l l', h o = some x → h o' = some x' → o ≠ o' → ρ o = some l → ρ o' = some l' → l.b = l'.b → x.ro = true ∧ x'.ro = true
  low : ∀ o l, ρ o = some l → l.b < w.heap.size
  keep : ∀ b, F.k b → b < w.heap.size ∧ w.heap[b]? = w0.heap[b]?
  off : ∀ o x l, h o = some x → x.ro = false → ρ o = some l → ¬ F.k l.b
  plow : ∀ b, F.p b → b < w.heap.size
  priv : ∀ o x l, h o = some x → ρ o = some l → ¬ F.p l.b
  os : w.os = w0.os
  tape : w.tape = w0.tape
  output : w.output = w0.output
  size : w0.heap.size ≤ w.heap.size

/-- New names lie between n and m. -/
structure Ext (ρ ρ' : Rho) (n m : Nat) : Prop where
  sub : Sub ρ ρ'
  new : ∀ o l, ρ' o = some l → ρ o = some l ∨ (n ≤ o ∧ o < m)
def Fresh (ρ : Rho) (n m : Nat) : Prop := ∀ o, n ≤ o → o < m → ρ o = none

theorem Ext.refl (ρ : Rho) (n m : Nat) : Ext ρ ρ n m := ⟨Sub.refl ρ, fun _ _ h => .inl h⟩
theorem Ext.trans {ρ ρ' ρ'' : Rho} {n m k : Nat} (h : Ext ρ ρ' n m) (h' : Ext ρ' ρ'' m k) (a : n ≤ m) (b : m ≤ k) : Ext ρ ρ'' n k :=
  ⟨h.sub.trans h'.sub, fun o l x => by
    rcases h'.new o l x with y | y
    · rcases h.new o l y with z | z
      · exact .inl z
      · exact .inr ⟨z.1, by omega⟩
    · exact .inr ⟨by omega, y.2⟩⟩
theorem Fresh.left {ρ : Rho} {n m k : Nat} (h : Fresh ρ n k) (b : m ≤ k) : Fresh ρ n m := fun o h1 h2 => h o h1 (by omega)
theorem Fresh.right {ρ ρ' : Rho} {n m k : Nat} (h : Fresh ρ n k) (a : n ≤ m) (e : Ext ρ ρ' n m) : Fresh ρ' m k := fun o h1 h2 => by
  cases hx : ρ' o with
  | none => rfl
  | some l =>
    rcases e.new o l hx with y | y
    · rw [h o (by omega) h2] at y; cases y
    · omega

end Go.Am
