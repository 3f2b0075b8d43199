/- The loop that collects a map's keys, in the model. -/
import Derived.Test.YtgolgogmhcgecaaGreatAmNames5
namespace Go.Am
set_option linter.unusedVariables false
set_option linter.unusedSimpArgs false

section
variable {P : Program}
open Go.ChangeMaps (setBlock)

/-- The keys of entries, as strings. -/
def KeysAre (l : List MapEntry) (keys : List (List Nat)) : Prop := l.map (·.key) = keys.map (fun k => Value.string (strOf k)) ∧ ∀ k ∈ keys, small k
/-- How the loop stands. -/
structure LInv (es : Array MapEntry) (clock bm r sz : Nat) (df : List Deferred) (w1 : World) (taken : List MapEntry) (a : Act) (w : World) : Prop where
  t11 : a.tmps[11]? = some (.pointer (some ⟨r, 0, none⟩))
  sz : a.tmps.size = sz
  df : a.defers = df
  it : w.heap[r]? = some (.mapIter (some bm) clock (taken.map (·.born)).toArray clock)
  map : w.heap[bm]? = some (.map es clock)
  tk : Taken es.toList taken
  list : ∃ v keys, a.tmps[4]? = some v ∧ LS w1.heap.size w keys v ∧ KeysAre taken keys
  keep : ∀ b, b < w1.heap.size → b ≠ r → w.heap[b]? = w1.heap[b]?
  size : w1.heap.size ≤ w.heap.size
  os : w.os = w1.os
  tape : w.tape = w1.tape
  output : w.output = w1.output

def sig (x : Oper) : Op × Option Nat × Option (Nat × Bool) := (x.op, x.dst, x.guard)
theorem sig_get {ops : Array Oper} {l : List (Op × Option Nat × Option (Nat × Bool))} (h : ops.toList.map sig = l) {i : Nat} {y : Op × Option Nat × Option (Nat × Bool)} (hy : l[i]? = some y) : ∃ x, ops.toList[i]? = some x ∧ x.op = y.1 ∧ x.dst = y.2.1 ∧ x.guard = y.2.2 := by
  rw [← h, List.getElem?_map, Option.map_eq_some_iff] at hy
  obtain ⟨x, hx, rfl⟩ := hy
  exact ⟨x, hx, rfl, rfl, rfl⟩

theorem put_tmp {a : Act} {d : Nat} {v : Value} (hd : d < a.tmps.size) : (a.put (some d) v).tmps[d]? = some v := by
  simp only [Act.put]; rw [Array.getElem?_setIfInBounds_self_of_lt hd]
theorem put_ne {a : Act} {d t : Nat} {v : Value} (h : d ≠ t) : (a.put (some d) v).tmps[t]? = a.tmps[t]? := by
  simp only [Act.put]; rw [Array.getElem?_setIfInBounds_ne h]
theorem eval_tmp {a : Act} {t : Nat} {v : Value} (h : a.tmps[t]? = some v) : a.eval (.tmp t) = v := by
  simp [Act.eval, h]

/-- 'next' and its first part. -/
theorem next_wp {id : Nat} {ops : Array Oper} (h5 : ops.toList.map sig = [(.next (.tmp 11) false, some 12, none), (.extract (.tmp 12) 0, some 13, none)]) {es : Array MapEntry} {clock bm r sz : Nat} {df : List Deferred} {w1 : World} {taken : List MapEntry} {a : Act} {w : World}
    (hI : LInv es clock bm r sz df w1 taken a w) (hB : Born es.toList clock) (hsz : 23 ≤ sz) (hr : r < w1.heap.size) (hbm : bm ≠ r) {Q : Exit → Act → World → Prop}
    (h0 : ∀ a', a'.tmps[13]? = some (.bool false) → LInv es clock bm r sz df w1 taken a' w → taken.Perm es.toList → Q .normal a' w)
    (h1 : ∀ e a' w', e ∈ es.toList → a'.tmps[13]? = some (.bool true) → a'.tmps[11]? = some (.pointer (some ⟨r, 0, none⟩)) → a'.tmps[4]? = a.tmps[4]? → a'.tmps.size = sz → a'.defers = df → Taken es.toList (taken ++ [e]) →
      w'.heap[r]? = some (.mapIter (some bm) clock ((taken ++ [e]).map (·.born)).toArray clock) → w'.heap.size = w.heap.size → (∀ b, b ≠ r → w'.heap[b]? = w.heap[b]?) → w'.os = w.os → w'.tape = w.tape → w'.output = w.output → Q .normal a' w') :
    (Code.region id ops false).wp P Q a w := by
  have hlen : ops.size = 2 := by have := congrArg List.length h5; simpa using this
  obtain ⟨x, hx, e1, e2, e3⟩ := sig_get h5 (i := 0) rfl
  obtain ⟨y, hy, f1, f2, f3⟩ := sig_get h5 (i := 1) rfl
  refine wp_region ?_
  rw [hlen]
  show wpOps P ops Q [0, 1] a w
  refine wpOps_at hx e3 ?_
  have hs := hI.sz
  have r12 : ∀ (v : Value), (a.put (some 12) v).tmps.size = sz := fun v => by simp [Act.put, hs]
  rcases run_next_at (P := P) w x.type r bm clock clock (taken.map (·.born)).toArray es clock hI.it hI.map hB.1 (Nat.le_refl _) with ⟨n0, n1⟩ | ⟨e, he, w2, n2, n1⟩
  · refine wp_value (v := .tuple #[.bool false]) (w' := w) (by simp [execOp, e1, eval_tmp hI.t11, n1]) ?_
    rw [e2]
    refine wpOps_at hy f3 (wp_value (v := .bool false) (w' := w) ?_ ?_)
    · simp [execOp, f1, eval_tmp (put_tmp (a := a) (d := 12) (v := .tuple #[.bool false]) (by omega)), Instr.extract]
    · rw [f2]
      refine h0 _ (put_tmp (by rw [r12]; omega)) ⟨?_, by simp [Act.put, hs], hI.df, hI.it, hI.map, hI.tk, ?_, hI.keep, hI.size, hI.os, hI.tape, hI.output⟩ (hI.tk.all hB.2 n0)
      · rw [put_ne (by decide), put_ne (by decide)]; exact hI.t11
      · obtain ⟨v, keys, q1, q2⟩ := hI.list
        exact ⟨v, keys, by rw [put_ne (by decide), put_ne (by decide)]; exact q1, q2⟩
  · refine wp_value (v := .tuple #[.bool true, e.key, e.val]) (w' := setBlock w2 r (.mapIter (some bm) clock ((taken.map (·.born)).toArray.push e.born) clock)) (by simp [execOp, e1, eval_tmp hI.t11, n1]) ?_
    rw [e2]
    refine wpOps_at hy f3 (wp_value (v := .bool true) (w' := setBlock w2 r (.mapIter (some bm) clock ((taken.map (·.born)).toArray.push e.born) clock)) ?_ ?_)
    · simp [execOp, f1, eval_tmp (put_tmp (a := a) (d := 12) (v := .tuple #[.bool true, e.key, e.val]) (by omega)), Instr.extract]
    · rw [f2]
      have hw2 : w2.heap = w.heap := by rcases n2 with rfl | rfl <;> rfl
      have hrl : r < w.heap.size := Nat.lt_of_lt_of_le hr hI.size
      have hmem : e ∈ es.toList := by
        unfold leftOf at he
        simp only [Array.toList_filter, List.mem_filter] at he
        exact he.1
      refine h1 e _ _ hmem (put_tmp (by rw [r12]; omega)) ?_ ?_ (by simp [Act.put, hs]) hI.df (hI.tk.snoc he) ?_ ?_ ?_ ?_ ?_ ?_
      · rw [put_ne (by decide), put_ne (by decide)]; exact hI.t11
      · rw [put_ne (by decide), put_ne (by decide)]
      · show (w2.heap.setIfInBounds r _)[r]? = _
        rw [hw2, Array.getElem?_setIfInBounds_self_of_lt hrl]
        simp
      · show (w2.heap.setIfInBounds r _).size = _
        rw [hw2]; simp
      · intro b hb
        show (w2.heap.setIfInBounds r _)[b]? = _
        rw [hw2, Array.getElem?_setIfInBounds_ne (fun q => hb q.symm)]
      · show w2.os = _
        rcases n2 with rfl | rfl <;> rfl
      · show w2.tape = _
        rcases n2 with rfl | rfl <;> rfl
      · show w2.output = _
        rcases n2 with rfl | rfl <;> rfl
end
end Go.Am
