/- What follows behind the call in term.Names: borne. -/
import Derived.Test.YtgolgogmhcgecaaGreatAmNames9
namespace Go.Am
set_option linter.unusedVariables false
set_option linter.unusedSimpArgs false

section
variable {P : Program}

/-- What the pieces of that code are. -/
structure FinCode (P : Program) (N : Nat) (f : FuncId) (ops4 ops5 ops6 ops7 ops8 ops9 : Array Oper) : Prop where
  h4 : ∃ t k e, ops4.toList.map sig = [(.move (.tmp 3), some 10, none), (.range t (.tmp 10), some 11, none)] ∧ P.underlying t = some (.map k e)
  h5 : ops5.toList.map sig = [(.next (.tmp 11) false, some 12, none), (.extract (.tmp 12) 0, some 13, none)]
  h6 : ops6.toList.map sig = [(.entry (.tmp 11), some 14, none), (.extract (.tmp 14) 0, some 15, none), (.assign (.tmp 15), some 5, none)]
  h7 : ops7.toList.map (trOper P N ops7) = roundF
  h8 : ∃ ts, ops8.toList.map sig = [(.move (.tmp 4), some 20, none), (.call { callee := .value (.func f), args := #[.tmp 20], argTypes := ts }, some 21, none)]
  h9 : ops9.toList.map sig = [(.move (.tmp 4), some 22, none), (.assign (.tmp 22), some 2, none)]
  hN : 23 ≤ N
  sort : SortOk P f

theorem two_wp {id : Nat} {ops : Array Oper} {o1 o2 : Op} {d1 d2 : Nat} (hs : ops.toList.map sig = [(o1, some d1, none), (o2, some d2, none)]) {a : Act} {w w1 w2 : World} {v1 v2 : Value}
    (r1 : ∀ x : Oper, x.op = o1 → (execOp a.eval x).run P w = .ok (.value v1) w1) (r2 : ∀ x : Oper, x.op = o2 → (execOp (a.put (some d1) v1).eval x).run P w1 = .ok (.value v2) w2)
    {Q : Exit → Act → World → Prop} (hQ : Q .normal ((a.put (some d1) v1).put (some d2) v2) w2) : (Code.region id ops false).wp P Q a w := by
  have hlen : ops.size = 2 := by have := congrArg List.length hs; simpa using this
  obtain ⟨x, hx, e1, e2, e3⟩ := sig_get hs (i := 0) rfl
  obtain ⟨y, hy, f1, f2, f3⟩ := sig_get hs (i := 1) rfl
  refine wp_region ?_
  rw [hlen]
  show wpOps P ops Q [0, 1] a w
  refine wpOps_at hx e3 (wp_value (r1 x e1) ?_)
  rw [e2]
  refine wpOps_at hy f3 (wp_value (r2 y f1) ?_)
  rw [f2]
  exact hQ

theorem move_run {a : Act} {t : Nat} {v : Value} (h : a.tmps[t]? = some v) (w : World) : ∀ x : Oper, x.op = .move (.tmp t) → (execOp a.eval x).run P w = .ok (.value v) w := fun x hx => by
  simp [execOp, hx, eval_tmp h]

theorem assign_run {a : Act} {t : Nat} {v : Value} (h : a.tmps[t]? = some v) (w : World) : ∀ x : Oper, x.op = .assign (.tmp t) → (execOp a.eval x).run P w = .ok (.value v) w := fun x hx => by
  simp [execOp, hx, eval_tmp h]

theorem keysOf_length : ∀ es : List (AV × AV), (keysOf es).length = es.length
  | [] => rfl
  | p :: l => by show (p.1 :: keysOf l).length = _; simp [keysOf_length l]

theorem finish_sound {N i4 i5 i6 i7 i8 i9 b0 b1 : Nat} {f : FuncId} {ops4 ops5 ops6 ops7 ops8 ops9 : Array Oper} (hc : FinCode P N f ops4 ops5 ops6 ops7 ops8 ops9) :
    FcSound P N finishF (.seq (.seq (.region i4 ops4 false) (.block b0 (.loop (.seq (.region i5 ops5 false) (.seq (.cond (.tmp 13) .skip (.exit b0)) (.block b1 (.seq (.region i6 ops6 false) (.region i7 ops7 false))))))))
      (.seq (.region i8 ops8 false) (.seq (.region i9 ops9 false) .ret))) := by
  intro call hcall e s r h
  -- what finishF answers
  have hF : ∃ o es ks, e.get 3 = some (.map o) ∧ e.get 4 = some .nilSlice ∧ s.heap.get o = some (.map es) ∧ es.length ≤ 1000 ∧ keysOf es = ks.map AV.str ∧
      ((sortS ks = [] ∧ r = .ret (Tr.put (some .nilSlice) .leaf 2) s) ∨ (sortS ks ≠ [] ∧ r = .ret (Tr.put (some (.slice s.next 0 ks.length (.full 1))) .leaf 2) ⟨s.heap.put (some (.cells ((sortS ks).map AV.str) false)) s.next, s.next + 1⟩)) := by
    unfold finishF at h
    split at h
    · next o g3 g4 =>
      split at h
      · next es ges =>
        cases q1 : Nat.ble (lenL es) 1000 with
        | false => rw [q1] at h; cases h
        | true =>
        rw [q1, cond_true] at h
        cases q2 : allStr es with
        | false => rw [q2] at h; cases h
        | true =>
        rw [q2, cond_true] at h
        obtain ⟨ks, hks⟩ := keys_of q2
        refine ⟨o, es, ks, g3, g4, ges, by rw [← lenL_eq]; exact Nat.le_of_ble_eq_true q1, hks, ?_⟩
        rw [hks, sortK_eq] at h
        cases hs : sortS ks with
        | nil =>
          rw [hs] at h
          simp only [List.map_nil, Option.some.injEq] at h
          exact .inl ⟨rfl, h.symm⟩
        | cons k l =>
          rw [hs] at h
          simp only [List.map_cons, St.new, Option.some.injEq] at h
          refine .inr ⟨by simp, ?_⟩
          rw [← h, lenL_eq]
          have : ks.length = (AV.str k :: l.map AV.str).length := by
            have := sortS_length ks
            rw [hs] at this
            simpa using this.symm
          rw [this]; rfl
      · cases h
    · cases h
  obtain ⟨o, es, ks, g3, g4, ges, hle, hks, hr⟩ := hF
  have hnext : s.next ≤ r.next := by
    rcases hr with ⟨_, rfl⟩ | ⟨_, rfl⟩
    · exact Nat.le_refl _
    · exact Nat.le_succ _
  refine ⟨hnext, fun F w0 ρ w a he hN hs hfr Q hQ => ?_⟩
  -- the map
  obtain ⟨v3, t3, r3⟩ := he 3 _ g3
  simp only [Rep] at r3
  obtain ⟨lm, hlm, rfl⟩ := r3
  obtain ⟨v4, t4, r4⟩ := he 4 _ g4
  simp only [Rep] at r4
  subst r4
  obtain ⟨lm', hlm', mes, clock, hmes, hes, hB⟩ := hs.objs o _ ges
  have : lm' = lm := by rw [hlm] at hlm'; injection hlm' with q; exact q.symm
  subst this
  have hkeys : KeysAre mes.toList ks := keysAre_of hes hks
  have hmlen : mes.size ≤ 1000 := by
    have := congrArg List.length hkeys.1
    have h2 := keysOf_length es
    rw [hks] at h2
    simp at this h2
    omega
  have hlow := hs.low o lm' hlm
  -- the range
  obtain ⟨t, kt, et, h4, hu⟩ := hc.h4
  have hsz : 23 ≤ a.tmps.size := by have := hc.hN; omega
  refine wp_seq (wp_seq (two_wp h4 (v2 := .pointer (some ⟨w.heap.size, 0, none⟩)) (w2 := w.alloc (.mapIter (some lm'.b) clock #[] clock)) (move_run t3 w) (fun x hx => ?_) ?_))
  · have : (a.put (some 10) (.map (some lm'.b))).eval (.tmp 10) = .map (some lm'.b) := eval_tmp (put_tmp (by omega))
    simp only [execOp, hx, this]
    have := run_range_map (P := P) w t kt et lm'.b mes clock hu hmes
    simpa using congrArg (fun z => Result.andThen z fun v w => .ok (Next.value v) w) this
  have hI : LInv mes clock lm'.b w.heap.size a.tmps.size a.defers (w.alloc (.mapIter (some lm'.b) clock #[] clock)) []
      ((a.put (some 10) (.map (some lm'.b))).put (some 11) (.pointer (some ⟨w.heap.size, 0, none⟩))) (w.alloc (.mapIter (some lm'.b) clock #[] clock)) := by
    refine ⟨put_tmp (by simp [Act.put]; omega), by simp [Act.put], rfl, ?_, ?_, Taken.nil _, ⟨.slice none 0 0, [], ?_, .inl ⟨rfl, rfl⟩, rfl, fun k hk => by cases hk⟩, fun _ _ _ => rfl, Nat.le_refl _, rfl, rfl, rfl⟩
    · show (w.heap.push _)[w.heap.size]? = _; simp
    · show (w.heap.push _)[lm'.b]? = _; rw [push_old _ _ hlow]; exact hmes
    · rw [put_ne (by decide), put_ne (by decide)]; exact t4
  refine wp_block (loop_wp hc.h5 hc.h6 hc.h7 hN hsz hB (by show w.heap.size < (w.heap.push _).size; simp) (by show lm'.b < (w.heap.push _).size; simp; omega) (by omega) hmlen ⟨ks, hkeys⟩ (fun a2 w2 taken hI2 hp => ?_) hI)
  simp only [Exit.inBlock, if_true]
  show (Code.seq _ _).wp P Q a2 w2
  -- the sort
  obtain ⟨v, keys, l1, l2, l3⟩ := hI2.list
  have hperm : keys.Perm ks := keysAre_perm l3 hkeys hp
  have hsorted : sortS keys = sortS ks := by
    refine List.Perm.eq_of_pairwise (le := leS) (fun a b _ _ => leS_anti) (sortS_sorted _) (sortS_sorted _) ?_
    exact (sortS_perm keys).trans (hperm.trans (sortS_perm ks).symm)
  have hklen : keys.length ≤ 1000 := by
    have h1 := hperm.length_eq
    have h2 := congrArg List.length hkeys.1
    simp at h2
    omega
  obtain ⟨ts, h8⟩ := hc.h8
  have hsz2 := hI2.sz
  have hgoal : ∀ w3, LS (w.alloc (.mapIter (some lm'.b) clock #[] clock)).heap.size w3 (sortS keys) v → (∀ b, b < (w.alloc (.mapIter (some lm'.b) clock #[] clock)).heap.size → w3.heap[b]? = w2.heap[b]?) → w2.heap.size ≤ w3.heap.size → w3.os = w2.os → w3.tape = w2.tape → w3.output = w2.output →
      ∀ a3 : Act, a3.tmps[4]? = some v → a3.tmps.size = a.tmps.size → a3.defers = a.defers → (Code.seq (.region i9 ops9 false) .ret).wp P Q a3 w3 := by
    intro w3 z1 z2 z3 z4 z5 z6 a3 z7 z8 z9
    refine wp_seq (two_wp hc.h9 (move_run z7 w3) (assign_run (put_tmp (by omega)) w3) (wp_ret ?_))
    have hsz1 : (w.alloc (.mapIter (some lm'.b) clock #[] clock)).heap.size = w.heap.size + 1 := by show (w.heap.push _).size = _; simp
    have hk : ∀ b, b < w.heap.size → w3.heap[b]? = w.heap[b]? := fun b hb => by
      rw [z2 b (by omega), hI2.keep b (by omega) (by omega)]
      show (w.heap.push _)[b]? = _; rw [push_old _ _ hb]
    have hw : w.heap.size ≤ w3.heap.size := by have := hI2.size; omega
    have ho : w3.os = w.os := z4.trans hI2.os
    have ht : w3.tape = w.tape := z5.trans hI2.tape
    have hp' : w3.output = w.output := z6.trans hI2.output
    have t2 : ((a3.put (some 22) v).put (some 2) v).tmps[2]? = some v := put_tmp (by simp [Act.put]; omega)
    have esz : ((a3.put (some 22) v).put (some 2) v).tmps.size = a.tmps.size := by simp [Act.put, z8]
    have edf : ((a3.put (some 22) v).put (some 2) v).defers = a.defers := z9
    have henv : ∀ (ρ' : Rho) (u : AV), Rep ρ' u v → EnvRep ρ' (Tr.put (some u) .leaf 2) ((a3.put (some 22) v).put (some 2) v).tmps := fun ρ' u hu t x hx => by
      rw [Tr.get_put] at hx
      split at hx
      · next e2 => subst e2; injection hx with hx; subst hx; exact ⟨v, t2, hu⟩
      · cases hx
    rw [hsorted] at z1
    rcases z1 with ⟨n1, rfl⟩ | ⟨lc, n1, n2, n3, n4, n5⟩
    · rcases hr with ⟨_, rfl⟩ | ⟨hne, rfl⟩
      · exact hQ ρ _ w3 (Ext.refl _ _ _) (henv ρ .nilSlice (by simp only [Rep])) esz edf (hs.kept hk hw ho ht hp')
      · exact absurd n1 hne
    · rcases hr with ⟨hnil, rfl⟩ | ⟨hne, rfl⟩
      · exact absurd hnil n5
      · have hn : ρ s.next = none := hfr s.next (Nat.le_refl _) (Nat.lt_succ_self _)
        refine hQ (upd ρ s.next (some lc)) _ w3 (Ext.upd hn lc) (henv _ _ ?_) esz edf ?_
        · simp only [Rep, sortS_length] at n1 ⊢
          obtain ⟨l, c, q1, q2⟩ := n1
          have : l = lc := by simp only [rhoL, if_pos] at q1; injection q1 with q1; exact q1.symm
          subst this
          exact ⟨l, c, upd_same _ _ _, q2⟩
        · show Sat F w0 _ (s.heap.put _ s.next).get w3
          rw [Tr.put_get]
          exact hs.place hk hw ho ht hp' hn (by omega) n4 (strs_rep n2)
  have hlen8 : ops8.size = 2 := by have := congrArg List.length h8; simpa using this
  obtain ⟨x, hx, e1, e2, e3⟩ := sig_get h8 (i := 0) rfl
  obtain ⟨y, hy, f1, f2, f3⟩ := sig_get h8 (i := 1) rfl
  refine wp_seq (wp_region ?_)
  rw [hlen8]
  show wpOps P ops8 _ [0, 1] a2 w2
  refine wpOps_at hx e3 (wp_value (move_run l1 w2 x e1) ?_)
  rw [e2]
  refine wpOps_at hy f3 ?_
  unfold Oper.wp
  have hev : (a2.put (some 20) v).eval (.tmp 20) = v := eval_tmp (put_tmp (by omega))
  have hrun : (execOp (a2.put (some 20) v).eval y).run P w2 = .ok (.enter f #[v]) w2 := by
    have h0 := callFunc_run hc.sort.call #[v] w2
    have h1 : (#[Operand.tmp 20] : Array Operand).map (a2.put (some 20) v).eval = #[v] := by
      simp only [List.map_toArray, List.map_cons, List.map_nil, hev]
    have h2 : (a2.put (some 20) v).eval (.func f) = .func (.func f) #[] #[] := rfl
    simp only [execOp, f1, resolve, h1, h2, Deferred.ofValue, Sem.run_bind, Sem.run_pure, Result.andThen_ok, invoke]
    simpa using h0
  rw [hrun]
  refine upon_calls (R := fun cv w' => LS (w.alloc (.mapIter (some lm'.b) clock #[] clock)).heap.size w' (sortS keys) v ∧ (∀ b, b < (w.alloc (.mapIter (some lm'.b) clock #[] clock)).heap.size → w'.heap[b]? = w2.heap[b]?) ∧ w2.heap.size ≤ w'.heap.size ∧ w'.os = w2.os ∧ w'.tape = w2.tape ∧ w'.output = w2.output)
    ((l2.sorted hc.sort hklen).mono fun e w' ⟨q1, q2⟩ => ⟨_, q1, q2⟩) fun cv w3 ⟨q1, q2, q3, q4, q5, q6⟩ => ?_
  rw [f2]
  refine hgoal w3 q1 q2 q3 q4 q5 q6 _ ?_ (by simp [Act.put, hsz2]) hI2.df
  rw [put_ne (by decide), put_ne (by decide)]
  exact l1
end
end Go.Am
