/- Sorting strings: the abstract machine's insertion sort is the library's order. -/
import Derived.Test.YtgolgogmhcgecaaGreatAmNames
namespace Go.Am
set_option linter.unusedVariables false
set_option linter.unusedSimpArgs false

noncomputable def insS (x : List Nat) : List (List Nat) → List (List Nat)
  | [] => [x]
  | y :: ys => if sLt x y = true then x :: y :: ys else y :: insS x ys
noncomputable def sortS : List (List Nat) → List (List Nat)
  | [] => []
  | x :: l => insS x (sortS l)
theorem insK_eq (x : List Nat) : ∀ l : List (List Nat), insK (.str x) (l.map AV.str) = (insS x l).map AV.str
  | [] => rfl
  | y :: l => by
    have h1 : insK (.str x) ((y :: l).map AV.str) = bif sLt x y then .str x :: .str y :: l.map AV.str else .str y :: insK (.str x) (l.map AV.str) := rfl
    have h2 : insS x (y :: l) = if sLt x y = true then x :: y :: l else y :: insS x l := rfl
    rw [h1, insK_eq x l, h2]
    cases h : sLt x y <;> simp
theorem sortK_eq : ∀ l : List (List Nat), sortK (l.map AV.str) = (sortS l).map AV.str
  | [] => rfl
  | x :: l => by
    have h1 : sortK ((x :: l).map AV.str) = insK (.str x) (sortK (l.map AV.str)) := rfl
    rw [h1, sortK_eq l, insK_eq]; rfl
theorem insS_perm (x : List Nat) : ∀ l, (insS x l).Perm (x :: l)
  | [] => List.Perm.refl _
  | y :: l => by
    unfold insS
    split
    · exact List.Perm.refl _
    · exact ((insS_perm x l).cons y).trans (List.Perm.swap x y l)
theorem sortS_perm : ∀ l, (sortS l).Perm l
  | [] => List.Perm.refl _
  | x :: l => (insS_perm x _).trans ((sortS_perm l).cons x)

theorem sLt_irrefl : ∀ x, sLt x x = false
  | [] => rfl
  | a :: x => by rw [sLt_cons, sLt_irrefl x]; simp
theorem sLt_trans : ∀ {x y z : List Nat}, sLt x y = true → sLt y z = true → sLt x z = true
  | [], [], z, h, _ => by cases h
  | [], b :: y, [], _, h => by cases h
  | [], b :: y, c :: z, _, _ => rfl
  | a :: x, [], z, h, _ => by cases h
  | a :: x, b :: y, [], _, h => by cases h
  | a :: x, b :: y, c :: z, h, h' => by
    rw [sLt_cons] at h h' ⊢
    simp only [Bool.or_eq_true, Bool.and_eq_true, decide_eq_true_eq] at h h' ⊢
    rcases h with h | ⟨rfl, h⟩ <;> rcases h' with h' | ⟨rfl, h'⟩
    · left; omega
    · left; exact h
    · left; exact h'
    · right; exact ⟨rfl, sLt_trans h h'⟩
theorem sLt_tri : ∀ (x y : List Nat), sLt x y = true ∨ x = y ∨ sLt y x = true
  | [], [] => .inr (.inl rfl)
  | [], b :: y => .inl rfl
  | a :: x, [] => .inr (.inr rfl)
  | a :: x, b :: y => by
    rw [sLt_cons, sLt_cons]
    simp only [Bool.or_eq_true, Bool.and_eq_true, decide_eq_true_eq]
    rcases Nat.lt_trichotomy a b with h | rfl | h
    · exact .inl (.inl h)
    · rcases sLt_tri x y with h | rfl | h
      · exact .inl (.inr ⟨rfl, h⟩)
      · exact .inr (.inl rfl)
      · exact .inr (.inr (.inr ⟨rfl, h⟩))
    · exact .inr (.inr (.inl h))
def leS (x y : List Nat) : Prop := sLt y x = false
theorem leS_trans {x y z : List Nat} (h : leS x y) (h' : leS y z) : leS x z := by
  unfold leS at *
  cases hz : sLt z x with
  | false => rfl
  | true =>
    rcases sLt_tri x y with q | rfl | q
    · rw [sLt_trans hz q] at h'; cases h'
    · rw [hz] at h'; cases h'
    · rw [q] at h; cases h
theorem leS_anti {x y : List Nat} (h : leS x y) (h' : leS y x) : x = y := by
  unfold leS at *
  rcases sLt_tri x y with q | q | q
  · rw [q] at h'; cases h'
  · exact q
  · rw [q] at h; cases h
theorem leS_of_lt {x y : List Nat} (h : sLt x y = true) : leS x y := by
  unfold leS
  cases q : sLt y x with
  | false => rfl
  | true => rw [← sLt_irrefl x, sLt_trans h q]
theorem insS_sorted (x : List Nat) : ∀ l : List (List Nat), l.Pairwise leS → (insS x l).Pairwise leS
  | [], _ => by unfold insS; exact List.pairwise_singleton _ _
  | y :: l, h => by
    unfold insS
    rw [List.pairwise_cons] at h
    split
    · next q =>
      rw [List.pairwise_cons]
      refine ⟨fun z hz => ?_, List.pairwise_cons.2 h⟩
      rcases List.mem_cons.1 hz with rfl | hz
      · exact leS_of_lt q
      · exact leS_trans (leS_of_lt q) (h.1 z hz)
    · next q =>
      rw [List.pairwise_cons]
      refine ⟨fun z hz => ?_, insS_sorted x l h.2⟩
      rcases List.mem_cons.1 ((insS_perm x l).mem_iff.1 hz) with rfl | hz
      · exact Bool.eq_false_iff.2 q
      · exact h.1 z hz
theorem sortS_sorted : ∀ l, (sortS l).Pairwise leS
  | [] => List.Pairwise.nil
  | x :: l => insS_sorted x _ (sortS_sorted l)

/-- A string's bytes as numbers. -/
def nums (x : List UInt8) : List Nat := x.map UInt8.toNat
theorem lt_nums : ∀ (x y : List UInt8), x < y ↔ sLt (nums x) (nums y) = true
  | [], [] => by simp [nums, sLt_nil_nil]
  | [], b :: y => by simp [nums, sLt_nil_cons]
  | a :: x, [] => by simp [nums, sLt_cons_nil]
  | a :: x, b :: y => by
    have ih := lt_nums x y
    show _ ↔ sLt (a.toNat :: nums x) (b.toNat :: nums y) = true
    rw [sLt_cons, List.cons_lt_cons_iff, ih]
    simp only [Bool.or_eq_true, Bool.and_eq_true, decide_eq_true_eq, UInt8.lt_iff_toNat_lt, UInt8.toNat_inj]
theorem le_nums (x y : List UInt8) : decide (x ≤ y) = true ↔ leS (nums x) (nums y) := by
  rw [decide_eq_true_eq]
  unfold leS
  rw [← Bool.not_eq_true, ← lt_nums]
  exact Iff.rfl
theorem merge_sorted (ss : List (List UInt8)) : ((ss.mergeSort fun x y => decide (x ≤ y)).map nums).Pairwise leS := by
  rw [List.pairwise_map]
  have := List.pairwise_mergeSort (le := fun x y : List UInt8 => decide (x ≤ y)) (fun a b c h1 h2 => (le_nums _ _).2 (leS_trans ((le_nums _ _).1 h1) ((le_nums _ _).1 h2))) (fun a b => by
    rw [Bool.or_eq_true, le_nums, le_nums]
    unfold leS
    rcases sLt_tri (nums a) (nums b) with q | q | q
    · exact .inl (leS_of_lt q)
    · rw [q]; exact .inl (sLt_irrefl _)
    · exact .inr (leS_of_lt q)) ss
  exact this.imp fun h => (le_nums _ _).1 h
theorem sort_eq (ss : List (List UInt8)) (l : List (List Nat)) (h : (ss.map nums).Perm l) : (ss.mergeSort fun x y => decide (x ≤ y)).map nums = sortS l :=
  List.Perm.eq_of_pairwise (le := leS) (fun a b _ _ => leS_anti) (merge_sorted ss) (sortS_sorted l) ((((List.mergeSort_perm ss _).map nums).trans h).trans (sortS_perm l).symm)
end Go.Am
