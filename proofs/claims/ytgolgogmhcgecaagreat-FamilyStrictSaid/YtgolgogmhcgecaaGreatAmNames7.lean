/- The loop that collects a map's keys, whole. -/
import Derived.Test.YtgolgogmhcgecaaGreatAmNames6
import Derived.LoopN
namespace Go.Am
set_option linter.unusedVariables false
set_option linter.unusedSimpArgs false

section
variable {P : Program}

theorem entry_wp {id : Nat} {ops : Array Oper} (h6 : ops.toList.map sig = [(.entry (.tmp 11), some 14, none), (.extract (.tmp 14) 0, some 15, none), (.assign (.tmp 15), some 5, none)]) {es : Array MapEntry} {clock bm r sz : Nat} {taken : List MapEntry} {e : MapEntry} {a : Act} {w : World}
    (t11 : a.tmps[11]? = some (.pointer (some ⟨r, 0, none⟩))) (hs : a.tmps.size = sz) (hsz : 23 ≤ sz) (hit : w.heap[r]? = some (.mapIter (some bm) clock ((taken ++ [e]).map (·.born)).toArray clock)) (hmap : w.heap[bm]? = some (.map es clock))
    (he : e ∈ es.toList) (hn : (es.toList.map (·.born)).Nodup) {Q : Exit → Act → World → Prop}
    (hQ : ∀ a', a'.tmps[5]? = some e.key → a'.tmps[11]? = a.tmps[11]? → a'.tmps[4]? = a.tmps[4]? → a'.tmps.size = sz → a'.defers = a.defers → Q .normal a' w) : (Code.region id ops false).wp P Q a w := by
  have hlen : ops.size = 3 := by have := congrArg List.length h6; simpa using this
  obtain ⟨x, hx, e1, e2, e3⟩ := sig_get h6 (i := 0) rfl
  obtain ⟨y, hy, f1, f2, f3⟩ := sig_get h6 (i := 1) rfl
  obtain ⟨z, hz, g1, g2, g3⟩ := sig_get h6 (i := 2) rfl
  refine wp_region ?_
  rw [hlen]
  show wpOps P ops Q [0, 1, 2] a w
  have hrun := run_entry_at (P := P) w r bm clock (taken.map (·.born)).toArray es clock e (by rw [hit]; simp) hmap he hn
  refine wpOps_at hx e3 (wp_value (v := .tuple #[e.key, e.val]) (w' := w) (by simp [execOp, e1, eval_tmp t11, hrun]) ?_)
  rw [e2]
  refine wpOps_at hy f3 (wp_value (v := e.key) (w' := w) ?_ ?_)
  · simp [execOp, f1, eval_tmp (put_tmp (a := a) (d := 14) (v := .tuple #[e.key, e.val]) (by omega)), Instr.extract]
  · rw [f2]
    refine wpOps_at hz g3 (wp_value (v := e.key) (w' := w) ?_ ?_)
    · have : ((a.put (some 14) (.tuple #[e.key, e.val])).put (some 15) e.key).tmps[15]? = some e.key := put_tmp (by simp [Act.put]; omega)
      simp [execOp, g1, eval_tmp this]
    · rw [g2]
      refine hQ _ (put_tmp (by simp [Act.put]; omega)) ?_ ?_ (by simp [Act.put, hs]) rfl
      · rw [put_ne (by decide), put_ne (by decide), put_ne (by decide)]
      · rw [put_ne (by decide), put_ne (by decide), put_ne (by decide)]

theorem nodup_le : ∀ {l m : List Nat}, l.Nodup → (∀ x ∈ l, x ∈ m) → l.length ≤ m.length
  | [], m, _, _ => Nat.zero_le _
  | a :: l, m, h, hm => by
    rw [List.nodup_cons] at h
    have h1 : l.length ≤ (m.erase a).length := nodup_le h.2 fun x hx => by
      have hne : x ≠ a := by rintro rfl; exact h.1 hx
      exact (List.mem_erase_of_ne hne).2 (hm x (List.mem_cons_of_mem _ hx))
    have h2 := hm a (List.mem_cons_self ..)
    have h3 := List.length_erase_of_mem h2
    have h4 : 0 < m.length := List.length_pos_of_mem h2
    simp only [List.length_cons]
    omega

/-- The loop. -/
theorem loop_wp {i5 i6 i7 b0 b1 N sz : Nat} {ops5 ops6 ops7 : Array Oper} (h5 : ops5.toList.map sig = [(.next (.tmp 11) false, some 12, none), (.extract (.tmp 12) 0, some 13, none)])
    (h6 : ops6.toList.map sig = [(.entry (.tmp 11), some 14, none), (.extract (.tmp 14) 0, some 15, none), (.assign (.tmp 15), some 5, none)]) (h7 : ops7.toList.map (trOper P N ops7) = roundF) (hN : N ≤ sz) (hsz : 23 ≤ sz)
    {es : Array MapEntry} {clock bm r : Nat} {df : List Deferred} {w1 : World} (hB : Born es.toList clock) (hr : r < w1.heap.size) (hbm : bm < w1.heap.size) (hbr : bm ≠ r) (hlen : es.size ≤ 1000) (hkeys : ∃ ks, KeysAre es.toList ks)
    {Q : Exit → Act → World → Prop} (hQ : ∀ a w taken, LInv es clock bm r sz df w1 taken a w → taken.Perm es.toList → Q (.exit b0) a w) {taken : List MapEntry} {a : Act} {w : World} (hI : LInv es clock bm r sz df w1 taken a w) :
    (Code.loop (.seq (.region i5 ops5 false) (.seq (.cond (.tmp 13) .skip (.exit b0)) (.block b1 (.seq (.region i6 ops6 false) (.region i7 ops7 false)))))).wp P Q a w := by
  obtain ⟨ks, hks⟩ := hkeys
  have hlt : ∀ {l : List MapEntry}, Taken es.toList l → l.length ≤ es.size := fun {l} h => by
    have h1 := h.nodup
    have h2 : ∀ b ∈ l.map (·.born), b ∈ es.toList.map (·.born) := fun b hb => by
      obtain ⟨e, he, rfl⟩ := List.mem_map.1 hb
      exact List.mem_map.2 ⟨e, h.mem e he, rfl⟩
    have := nodup_le h1 h2
    simpa using this
  refine wp_loop (fun a w => ∃ taken, LInv es clock bm r sz df w1 taken a w) (fun _ w => match w.heap[r]? with
    | some (.mapIter _ _ seen _) => es.size - seen.size
    | _ => 0) ⟨taken, hI⟩ ?_
  rintro a w ⟨tk, hI⟩
  refine wp_seq (next_wp h5 hI hB hsz hr hbr (fun a' q1 q2 q3 => ?_) fun e a' w' q1 q2 q3 q4 q5 q6 q7 q8 q9 q10 q11 q12 q13 => ?_)
  · refine wp_seq (wp_cond_false (eval_tmp q1) (wp_exit ?_))
    exact hQ a' w tk q2 q3
  · refine wp_seq (wp_cond_true (eval_tmp q2) (wp_skip (wp_block (wp_seq ?_))))
    have hmap' : w'.heap[bm]? = some (.map es clock) := by rw [q10 bm hbr]; exact hI.map
    refine entry_wp h6 q3 q5 hsz q8 hmap' q1 hB.2 fun a2 p1 p2 p3 p4 p5 => ?_
    obtain ⟨v, keys, l1, l2, l3⟩ := hI.list
    obtain ⟨ke, k1, k2⟩ : ∃ k, e.key = .string (strOf k) ∧ small k := by
      have : e.key ∈ es.toList.map (·.key) := List.mem_map.2 ⟨e, q1, rfl⟩
      rw [hks.1] at this
      obtain ⟨k, hk, hk2⟩ := List.mem_map.1 this
      exact ⟨k, hk2.symm, hks.2 k hk⟩
    have hlen2 : keys.length = tk.length := by have := congrArg List.length l3.1; simpa using this.symm
    have hle := hlt q7
    rw [List.length_append] at hle
    simp only [List.length_cons, List.length_nil] at hle
    have fin : ∀ a3 w3, RoundQ w1.heap.size r (keys ++ [ke]) a2 w' a3 w3 → LInv es clock bm r sz df w1 (tk ++ [e]) a3 w3 := by
      intro a3 w3 ⟨m1, m2, m3, m4, m5, m6, m7, m8, m9⟩
      obtain ⟨v3, m1, m1'⟩ := m1
      refine ⟨m2, m3.trans p4, m4.trans (p5.trans q6), by rw [m5 r hr]; exact q8, by rw [m5 bm hbm]; exact hmap', q7, ⟨v3, keys ++ [ke], m1, m1', ?_, fun k hk => ?_⟩, fun b hb hbr => ?_, by have := hI.size; omega, m7.trans (q11.trans hI.os), m8.trans (q12.trans hI.tape), m9.trans (q13.trans hI.output)⟩
      · rw [List.map_append, List.map_append, l3.1]; simp [k1]
      · rcases List.mem_append.1 hk with hk | hk
        · exact l3.2 k hk
        · rw [List.mem_singleton] at hk; subst hk; exact k2
      · rw [m5 b hb, q10 b hbr]; exact hI.keep b hb hbr
    have done : ∀ a3 w3, RoundQ w1.heap.size r (keys ++ [ke]) a2 w' a3 w3 → (∃ taken, LInv es clock bm r sz df w1 taken a3 w3) ∧ (match w3.heap[r]? with
    | some (.mapIter _ _ seen _) => es.size - seen.size
    | _ => 0) < (match w.heap[r]? with
    | some (.mapIter _ _ seen _) => es.size - seen.size
    | _ => 0) := by
      intro a3 w3 hq
      have h3 := fin a3 w3 hq
      refine ⟨⟨_, h3⟩, ?_⟩
      rw [h3.it, hI.it]
      simp only [List.size_toArray, List.length_map, List.length_append, List.length_cons, List.length_nil]
      omega
    have t5 : a2.tmps[5]? = some (.string (strOf ke)) := by rw [p1, k1]
    have t11 : a2.tmps[11]? = some (.pointer (some ⟨r, 0, none⟩)) := by rw [p2]; exact q3
    have t4 : a2.tmps[4]? = some v := by rw [p3, q4]; exact l1
    have hsz' : w1.heap.size ≤ w'.heap.size := by rw [q9]; exact hI.size
    rcases l2 with ⟨rfl, rfl⟩ | ⟨lc, n1, n2, n3, n4, _⟩
    · exact round_wp_nil h7 (by omega) k2 t4 t5 t11 (by omega) hsz' fun a3 w3 hq => done a3 w3 hq
    · refine round_wp_full h7 (by omega) k2 t4 n1 ?_ n3 (by rw [q9]; exact n4) (by omega) t5 t11 hr hsz' fun a3 w3 hq => done a3 w3 hq
      rw [q10 lc.b (by omega)]; exact n2
end
end Go.Am
