/- The loop that collects a map's keys: one round's appending. -/
import Derived.Test.YtgolgogmhcgecaaGreatAmSort
namespace Go.Am
set_option linter.unusedVariables false
set_option linter.unusedSimpArgs false

/-- The round's operations behind 'entry'. -/
noncomputable def roundF : List FO := [o 16 (fMove (.t 4)), o 17 (fMove (.t 5)), o 18 (fBuildSlice 1 [(.str [])] [(0, (1, (.t 17)))]), o 19 (fAppend 1 16 (.t 16) (.t 18)), o 4 (fMove (.t 19))]

theorem build_one {call : Call} {e : Tr AV} {s : St} {k : List Nat} (h : e.get 17 = some (.str k)) : fBuildSlice 1 [(.str [])] [(0, (1, (.t 17)))] call e s = some (.slice s.next 0 1 (.ex 1), ⟨s.heap.put (some (.cells [.str k] false)) s.next, s.next + 1⟩) := by
  have h1 : fills e [.str []] [(0, (1, (.t 17)))] = match evX e (.t 17) with
      | some v => bif Nat.beq (lenL v.cells) 1 then match wrN [.str []] 0 v.cells with
        | some cs' => some cs'
        | none => none else none
      | none => none := rfl
  have h2 : evX e (.t 17) = e.get 17 := rfl
  unfold fBuildSlice
  rw [h1, h2, h]
  rfl
theorem append_nil {call : Call} {e : Tr AV} {s : St} {k : List Nat} {id : Nat} (h1 : e.get 16 = some .nilSlice) (h2 : e.get 18 = some (.slice id 0 1 (.ex 1))) (h3 : s.heap.get id = some (.cells [.str k] false)) :
    fAppend 1 16 (.t 16) (.t 18) call e s = some (.slice s.next 0 1 (.full 1), ⟨s.heap.put (some (.cells [.str k] false)) s.next, s.next + 1⟩) := by
  have e1 : evX e (.t 16) = e.get 16 := rfl
  have e2 : evX e (.t 18) = e.get 18 := rfl
  have hl : s.load id 0 (1 * 1) = some [.str k] := by
    unfold St.load
    rw [h3]; rfl
  unfold fAppend
  rw [e1, e2, h1, h2]
  simp only [hl]
  rfl
theorem append_full {call : Call} {e : Tr AV} {s : St} {k : List Nat} {id id' m : Nat} {cs : List AV} (h1 : e.get 16 = some (.slice id 0 m (.full 1))) (h2 : e.get 18 = some (.slice id' 0 1 (.ex 1))) (h3 : s.heap.get id' = some (.cells [.str k] false))
    (h4 : s.heap.get id = some (.cells cs false)) (hm : cs.length = m) (hb : m ≤ 1000) :
    fAppend 1 16 (.t 16) (.t 18) call e s = some (.slice s.next 0 (m + 1) (.full 1), ⟨(s.heap.put (some (.cells (cs ++ [.str k]) false)) s.next).put none id, s.next + 1⟩) := by
  have e1 : evX e (.t 16) = e.get 16 := rfl
  have e2 : evX e (.t 18) = e.get 18 := rfl
  have hl : s.load id' 0 (1 * 1) = some [.str k] := by
    unfold St.load
    rw [h3]; rfl
  unfold fAppend
  rw [e1, e2, h1, h2]
  simp only [hl]
  have ha : allOne [AV.str k] = true := rfl
  rw [ha, cond_true]
  unfold appendTo
  simp only [h4, lenL_eq, hm, cond_false]
  have q0 : Nat.beq 1 1 = true := rfl
  have q1 : Nat.ble (0 + (m + 1) * 1) m = false := by
    rw [Bool.eq_false_iff]; intro z
    have := Nat.le_of_ble_eq_true z
    omega
  have q2 : Nat.beq (0 + m * 1) m = true := by rw [Nat.zero_add, Nat.mul_one]; exact Nat.beq_refl m
  have q3 : Nat.beq 0 0 = true := rfl
  have q4 : Nat.ble (4 * (m + 1) * 16) 140737488355328 = true := Nat.ble_eq_true_of_le (by omega)
  rw [q0, cond_true, q1, cond_false, q2, cond_true, q3, cond_true, q4, cond_true]
  simp only [St.new, appL_eq]

/-- A round from nothing. -/
theorem round_nil {call : Call} {e : Tr AV} {s : St} {k : List Nat} (h4 : e.get 4 = some .nilSlice) (h5 : e.get 5 = some (.str k)) :
    ∃ e' s', opsF roundF call e s = some (e', s') ∧ s'.next = s.next + 2 ∧ e'.get 4 = some (.slice (s.next + 1) 0 1 (.full 1)) ∧ s'.heap.get (s.next + 1) = some (.cells [.str k] false) ∧ e'.get 11 = e.get 11 := by
  have f1 : ∀ (e : Tr AV) (t : Nat), evX e (.t t) = e.get t := fun e t => rfl
  unfold roundF
  simp only [opsF_cons, opsF_nil, o, fMove, f1, ans, h4, h5, Tr.get_put]
  simp only [show (5 : Nat) = 16 ↔ False by decide, if_false, h5]
  rw [build_one (k := k) (by rw [Tr.get_put, if_pos rfl])]
  simp only []
  rw [append_nil (k := k) (id := s.next) (by simp [Tr.get_put]) (by simp [Tr.get_put]) (by simp [Tr.get_put])]
  simp only [f1, Tr.get_put, if_pos]
  exact ⟨_, _, rfl, rfl, by simp [Tr.get_put], by simp [Tr.get_put], by simp [Tr.get_put]⟩
/-- A round more. -/
theorem round_full {call : Call} {e : Tr AV} {s : St} {k : List Nat} {id m : Nat} {cs : List AV} (h4 : e.get 4 = some (.slice id 0 m (.full 1))) (h5 : e.get 5 = some (.str k)) (hc : s.heap.get id = some (.cells cs false)) (hm : cs.length = m) (hb : m ≤ 1000) (hid : id < s.next) :
    ∃ e' s', opsF roundF call e s = some (e', s') ∧ s'.next = s.next + 2 ∧ e'.get 4 = some (.slice (s.next + 1) 0 (m + 1) (.full 1)) ∧ s'.heap.get (s.next + 1) = some (.cells (cs ++ [.str k]) false) ∧ e'.get 11 = e.get 11 := by
  have f1 : ∀ (e : Tr AV) (t : Nat), evX e (.t t) = e.get t := fun e t => rfl
  unfold roundF
  simp only [opsF_cons, opsF_nil, o, fMove, f1, ans, h4, h5, Tr.get_put]
  simp only [show (5 : Nat) = 16 ↔ False by decide, if_false, h5]
  rw [build_one (k := k) (by rw [Tr.get_put, if_pos rfl])]
  simp only []
  rw [append_full (k := k) (id := id) (id' := s.next) (m := m) (cs := cs) (by simp [Tr.get_put]) (by simp [Tr.get_put]) (by simp [Tr.get_put]) (by rw [Tr.get_put, if_neg (by omega)]; exact hc) hm hb]
  simp only [f1, Tr.get_put, if_pos]
  refine ⟨_, _, rfl, rfl, by simp [Tr.get_put], ?_, by simp [Tr.get_put]⟩
  have : s.next + 1 ≠ id := by omega
  simp [Tr.get_put, this]
end Go.Am
