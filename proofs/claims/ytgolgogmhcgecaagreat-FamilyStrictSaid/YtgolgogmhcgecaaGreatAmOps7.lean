/- Each operation of the abstract machine is borne by the model's: append of a string and of made rows, copy; and all of them together. -/
import Derived.Test.YtgolgogmhcgecaaGreatAmOps6
namespace Go.Am
set_option linter.unusedVariables false
set_option linter.unusedSimpArgs false

section
variable {P : Program} {F : Fr} {w0 w : World} {ρ : Rho} {a : Act} {e : Tr AV}

theorem numBytes_rep {b : List Nat} (h : small b) : RepL ρ (numBytes b) (b.map fun (c : Nat) => Value.int .u8 (c : Int)) :=
  RepL.of_get (by rw [numBytes_length]; simp) fun i u hu => by
    rw [numBytes_get] at hu
    simp only [Option.map_eq_some_iff] at hu
    obtain ⟨c, hc, rfl⟩ := hu
    exact ⟨.int .u8 (c : Int), by simp [hc], by simp only [Rep]; rfl⟩

theorem ok_appendStr {t u el : TypeId} {z : List AV} {x y : Operand} {x' y' : AX} {ts : Array TypeId} {args : Array Operand} (hu : P.underlying t = some (.slice el)) (he1 : sizeA P el = some 1) (hby : bytesA P el = some 1) (hz : zeroOf P el = some z) (hzl : z.length = 1)
    (hv : P.underlying u = some .string) (ha : args = #[x, y]) (ht0 : ts[0]? = some t) (ht1 : ts[1]? = some u) (hx : trX x = some x') (hy : trX y = some y') : OpOk P (fAppendStr x' y') (.call { callee := .builtin .append, args := args, argTypes := ts }) := by
  subst ha
  intro call e s v s' h
  unfold fAppendStr at h
  split at h
  · next a1 b h1 h2 =>
    rw [lenL_eq] at h
    refine ⟨by rcases appendTo_next h with q | q <;> omega, fun F w0 ρ w a he hs hf o ho => ?_⟩
    have r := he.x hy h2
    simp only [Rep] at r
    obtain ⟨r, hsm⟩ := r
    have g1 := numBytes_rep (ρ := ρ) hsm
    have g2 : ∀ v ∈ (b.map fun (c : Nat) => Value.int .u8 (c : Int)), (∀ x, v ≠ .agg x) ∧ ∀ x, v ≠ .tuple x := fun v hv => by
      obtain ⟨c, _, rfl⟩ := List.mem_map.1 hv
      simp
    obtain ⟨base, sLen, sCap, hcx, hrun⟩ := append_run (P := P) h (by omega) (by omega) hby hz hzl (by rw [numBytes_length]; omega) hs hf (he.x hx h1) g1 g2
    have g4 : ∀ w' : World, w'.heap = w.heap → (Builtin.firstCells 1 b.length (.string (strOf b))).run P w' = .ok ⟨b.map fun (c : Nat) => Value.int .u8 (c : Int)⟩ w' := fun w' _ => by
      have e1 : ((strOf b).extract 0 b.length).data.map (fun x => Value.int .u8 (x.toNat : Int)) = ⟨b.map fun (c : Nat) => Value.int .u8 (c : Int)⟩ := by
        rw [strOf_extract]
        simp only [List.drop_zero, List.take_length, strOf]
        apply Array.ext'
        simp only [Array.toList_map, List.map_map]
        apply List.map_congr_left
        intro c hc
        have := hsm c hc
        simp
        omega
      simp only [Builtin.firstCells, e1]
      rfl
    obtain ⟨ρ', cv, w', e1, e2, e3, e4⟩ := hrun false (.string (strOf b)) (Builtin.firstCells 1 b.length (.string (strOf b))) g4
    refine ⟨ρ', cv, w', e1, e2, e3, .inl ?_⟩
    have e5 : (Builtin.append_ ts o.type #[a.eval x, a.eval y]).run P w = .ok cv w' := by
      rw [← e4]
      simp only [Builtin.append_, ht0, ht1, hcx, r]
      simp only [List.getElem?_toArray, List.getElem?_cons_zero, List.getElem?_cons_succ]
      simp only [Sem.run_bind, run_underlying hu, run_underlying hv, Result.andThen_ok, size_run he1, Builtin.lenOf, Sem.run_pure, strOf_size]
      simp only [appSem, hcx]
      rfl
    simp [execOp, ho, resolve, invoke, builtin, e5]
  · cases h

theorem allOne_repN {z : List AV} (h : allOne z = true) : ∀ n, allOne (repN z n) = true := by
  have app : ∀ (a b : List AV), allOne a = true → allOne b = true → allOne (a ++ b) = true := fun a b ha hb => by
    induction a with
    | nil => exact hb
    | cons x a ih =>
      have hx := allOne_mem ha x (by simp)
      have ha' : allOne a = true := by
        have : Bool.rec (motive := fun _ => Bool) false (allOne a) x.one = true := ha
        rw [hx] at this; exact this
      show Bool.rec (motive := fun _ => Bool) false (allOne (a ++ b)) x.one = true
      rw [hx]; exact ih ha'
  intro n
  induction n with
  | zero => rfl
  | succ n ih => rw [repN_succ]; exact app _ _ h ih

theorem zeroCells_toList {z : List AV} {zc : Array Value} (hz : RepL ρ z zc.toList) (n : Nat) : RepL ρ (repN z n) (Builtin.zeroCells zc n).toList := by
  obtain ⟨us, h1, h2, h3⟩ := hz.repN n
  have : (Builtin.zeroCells zc n).toList = us := by
    apply List.ext_getElem?
    intro i
    simp at h2 h3
    by_cases hi : i < n * zc.size
    · have h0 : 0 < zc.size := by
        rcases Nat.eq_zero_or_pos zc.size with q | q
        · rw [q] at hi; simp at hi
        · exact q
      have hm : i % zc.size < zc.size := Nat.mod_lt _ h0
      rw [h3 i hi]
      simp [Builtin.zeroCells, hi, hm]
    · rw [List.getElem?_eq_none (by simp [Builtin.zeroCells]; omega), List.getElem?_eq_none (by omega)]
  rw [this]
  exact h1

theorem repN_length {z : List AV} (n : Nat) : (repN z n).length = n * z.length := by
  induction n with
  | zero => simp [repN_zero]
  | succ n ih => rw [repN_succ, List.length_append, ih, Nat.succ_mul, Nat.add_comm]

theorem ok_appendZeros {t u el : TypeId} {es bytes : Nat} {z : List AV} {x y : Operand} {x' y' : AX} {ts : Array TypeId} {args : Array Operand} (hu : P.underlying t = some (.slice el)) (he1 : sizeA P el = some es) (hby : bytesA P el = some bytes) (hz : zeroOf P el = some z) (hzl : z.length = es) (h0 : 0 < es) (hb0 : 0 < bytes)
    {ku : IntKind} (hv : P.underlying u = some (.int ku)) (ha : args = #[x, y]) (ht0 : ts[0]? = some t) (ht1 : ts[1]? = some u) (hx : trX x = some x') (hy : trX y = some y') : OpOk P (fAppendZeros es bytes z x' y') (.call { callee := .builtin .append, args := args, argTypes := ts }) := by
  subst ha
  intro call e s v s' h
  unfold fAppendZeros at h
  split at h
  · next a1 nv h1 h2 =>
    split at h
    · next n hn =>
      cases q : allOne z with
      | false => rw [q] at h; cases h
      | true =>
        rw [q, cond_true] at h
        cases q9 : Nat.ble (n * bytes) 140737488355328 with
        | false => rw [q9] at h; cases h
        | true =>
        rw [q9, cond_true] at h
        have hnb := Nat.le_of_ble_eq_true q9
        have hn1 : n ≤ 140737488355328 := Nat.le_trans (Nat.le_mul_of_pos_right _ hb0) hnb
        refine ⟨by rcases appendTo_next h with q | q <;> omega, fun F w0 ρ w a he hs hf o ho => ?_⟩
        obtain ⟨zv, hzrun, hzr⟩ := zero_rep hz
        have hzs : zv.cells.size = es := by have := (hzr ρ).length; rw [Array.length_toList] at this; omega
        have g1 := zeroCells_toList (hzr ρ) n
        obtain ⟨base, sLen, sCap, hcx, hrun⟩ := append_run (P := P) h h0 hb0 hby hz hzl (by rw [repN_length, hzl]) hs hf (he.x hx h1) g1 (g1.ones (allOne_repN q n))
        obtain ⟨k, hk⟩ := natOf_some hn (he.x hy h2)
        have g4 : ∀ w' : World, w'.heap = w.heap → (if n * es = 0 then pure #[] else do pure (Builtin.zeroCells (← zeroValue el).cells n) : Sem (Array Value)).run P w' = .ok ⟨(Builtin.zeroCells zv.cells n).toList⟩ w' := fun w' _ => by
          by_cases q2 : n * es = 0
          · rw [if_pos q2]
            have : n = 0 := by
              rcases Nat.eq_zero_or_pos n with z | z
              · exact z
              · have := Nat.mul_pos z h0; omega
            subst this
            simp [Builtin.zeroCells]
          · rw [if_neg q2]
            simp [hzrun]
        obtain ⟨ρ', cv, w', e1, e2, e3, e4⟩ := hrun true (a.eval y) _ g4
        refine ⟨ρ', cv, w', e1, e2, e3, .inl ?_⟩
        have hw1 : IntKind.i64.wrap (n : Int) = (n : Int) := wrap_small (by omega)
        obtain ⟨ti, hti1, hti2⟩ : ∃ i, (∀ w : World, (typeInfo el).run P w = .ok i w) ∧ i.bytes = bytes := by
          unfold bytesA at hby
          simp only [Option.map_eq_some_iff] at hby
          obtain ⟨i, hi, hib⟩ := hby
          exact ⟨i, fun w => by simp [typeInfo, hi], hib⟩
        have c1 : ¬ ((n : Int) < 0) := by omega
        have c2 : ¬ ((n : Int) * (ti.bytes : Int) > 2 ^ 48) := by
          rw [hti2, ← Int.natCast_mul]
          have : ((n * bytes : Nat) : Int) ≤ ((140737488355328 : Nat) : Int) := Int.ofNat_le.2 hnb
          omega
        have e5 : (Builtin.append_ ts o.type #[a.eval x, a.eval y]).run P w = .ok cv w' := by
          rw [← e4]
          simp only [Builtin.append_, ht0, ht1, hcx, hk]
          simp only [List.getElem?_toArray, List.getElem?_cons_zero, List.getElem?_cons_succ]
          simp only [Sem.run_bind, run_underlying hu, run_underlying hv, Result.andThen_ok, size_run he1, Sem.run_pure]
          simp only [if_true, Sem.run_bind, asInt, asIntOf, Sem.run_pure, Result.andThen_ok, hw1, if_neg c1, hti1, if_neg c2, Int.toNat_natCast]
          simp only [appSem, hcx, hk]
          rfl
        simp [execOp, ho, resolve, invoke, builtin, e5]
    · cases h
  · cases h

theorem ok_copy {t u el el' : TypeId} {es : Nat} {x y : Operand} {x' y' : AX} {ts : Array TypeId} {args : Array Operand} (hu : P.underlying t = some (.slice el)) (he1 : sizeA P el = some es)
    (ha : args = #[x, y]) (ht0 : ts[0]? = some t) (hx : trX x = some x') (hy : trX y = some y') : OpOk P (fCopy es x' y') (.call { callee := .builtin .copy, args := args, argTypes := ts }) := by
  subst ha
  intro call e s v s' h
  unfold fCopy at h
  split at h
  · next h1 h2 =>
    simp only [Option.some.injEq, Prod.mk.injEq] at h
    obtain ⟨rfl, rfl⟩ := h
    refine ⟨Nat.le_refl _, fun F w0 ρ w a he hs hf o ho => ?_⟩
    have r1 := he.x hx h1
    have r2 := he.x hy h2
    simp only [Rep] at r1 r2
    refine res_here (cv := .int .i64 0) hs (by simp only [Rep]; rfl) ?_
    simp [execOp, ho, resolve, invoke, builtin, Builtin.copy_, ht0, r1, r2, run_underlying hu, Builtin.lenOf, size_run he1, Builtin.firstCells, goInt]
  · next o' off len cap h1 h2 =>
    simp only [Option.some.injEq, Prod.mk.injEq] at h
    obtain ⟨rfl, rfl⟩ := h
    refine ⟨Nat.le_refl _, fun F w0 ρ w a he hs hf o ho => ?_⟩
    have r1 := he.x hx h1
    have r2 := he.x hy h2
    simp only [Rep] at r1 r2
    obtain ⟨l, c, _, r2, _⟩ := r2
    refine res_here (cv := .int .i64 0) hs (by simp only [Rep]; rfl) ?_
    simp [execOp, ho, resolve, invoke, builtin, Builtin.copy_, ht0, r1, r2, run_underlying hu, Builtin.lenOf, size_run he1, Builtin.firstCells, goInt, loadCells, loadCellsFrom]
  · next o' off len cap h1 h2 =>
    simp only [Option.some.injEq, Prod.mk.injEq] at h
    obtain ⟨rfl, rfl⟩ := h
    refine ⟨Nat.le_refl _, fun F w0 ρ w a he hs hf o ho => ?_⟩
    have r1 := he.x hx h1
    have r2 := he.x hy h2
    simp only [Rep] at r1 r2
    obtain ⟨l, c, _, r1, _⟩ := r1
    refine res_here (cv := .int .i64 0) hs (by simp only [Rep]; rfl) ?_
    simp [execOp, ho, resolve, invoke, builtin, Builtin.copy_, ht0, r1, r2, run_underlying hu, Builtin.lenOf, size_run he1, Builtin.firstCells, goInt, storeCells]
  · next o1 off len cap o2 off' len' cap' h1 h2 =>
    simp only [] at h
    split at h
    · next vs hld =>
      cases q : allOne vs with
      | false => rw [q] at h; cases h
      | true =>
        rw [q, cond_true] at h
        split at h
        · next s1 hst =>
          simp only [Option.some.injEq, Prod.mk.injEq] at h
          obtain ⟨rfl, rfl⟩ := h
          obtain ⟨cs, cs', g1, g2, g3, g4⟩ := store_some hst
          refine ⟨by omega, fun F w0 ρ w a he hs hf o ho => ?_⟩
          have r1 := he.x hx h1
          have r2 := he.x hy h2
          simp only [Rep] at r1 r2
          obtain ⟨l1, c1, hl1, r1, _⟩ := r1
          obtain ⟨l2, c2, hl2, r2, _⟩ := r2
          obtain ⟨cs2, ro, g5, g6⟩ := load_some hld
          obtain ⟨us, e1, e2, e3, e4⟩ := hs.cells (P := P) g5 hl2 g6
          obtain ⟨hb0, w', e5, e6⟩ := hs.store (P := P) g1 hl1 g2 e1 (e1.ones q)
          refine ⟨ρ, .int .i64 ((Nat.min len' len : Nat) : Int), w', by rw [g4]; exact Ext.refl _ _ _, by simp only [Rep]; rfl, by rw [g3]; exact e6, .inl ?_⟩
          have e7 : (storeCells ⟨l1.b, l1.base + off, none⟩ us).run P w = .ok () w' := by rw [hb0, Nat.zero_add]; exact e5
          have e8 : (Builtin.copy_ ts o.type #[a.eval x, a.eval y]).run P w = .ok (.int .i64 ((Nat.min len' len : Nat) : Int)) w' := by
            simp only [Builtin.copy_, ht0, r1, r2]
            simp only [List.getElem?_toArray, List.getElem?_cons_zero, List.getElem?_cons_succ]
            simp only [Sem.run_bind, run_underlying hu, Result.andThen_ok, Builtin.lenOf, Sem.run_pure, size_run he1, Builtin.firstCells, e3, e7, goInt]
          simp [execOp, ho, resolve, invoke, builtin, e8]
        · cases h
    · cases h
  · cases h
end
end Go.Am
