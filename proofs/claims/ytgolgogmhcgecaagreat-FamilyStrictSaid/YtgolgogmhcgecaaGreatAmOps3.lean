/- Each operation of the abstract machine is borne by the model's: parts, addresses, lengths, cuts, extremes, made values. -/
import Derived.Test.YtgolgogmhcgecaaGreatAmOps2
namespace Go.Am
set_option linter.unusedVariables false
set_option linter.unusedSimpArgs false

inductive All2 {α β : Type} (R : α → β → Prop) : List α → List β → Prop where
  | nil : All2 R [] []
  | cons {a b x y} (h : R a b) (t : All2 R x y) : All2 R (a :: x) (b :: y)

section
variable {P : Program} {F : Fr} {w0 w : World} {ρ : Rho} {a : Act} {e : Tr AV}

theorem natOf_some {v : AV} {n : Nat} (h : natOf v = some n) {cv : Value} (hr : Rep ρ v cv) : ∃ k, cv = .int k (n : Int) := by
  unfold natOf at h
  split at h
  · next k m => injection h with h; subst h; simp only [Rep] at hr; exact ⟨k, hr⟩
  · cases h

theorem res_val {n : Nat} {h : Heap} {v : AV} {cv : Value} {s : Sem Value} (hs : Sat F w0 ρ h w) (hr : Rep ρ v cv) (h1 : s.run P w = .ok cv w) :
    Res P F w0 ρ n n h v ((do pure (Next.value (← s)) : Sem Next).run P w) := res_here hs hr (run_v h1)

/-! ### Addresses and parts -/
theorem ok_fieldAddr {t : TypeId} {x : Operand} {x' : AX} {i : Nat} {fs : Array Field} {f : Field} {k : Nat} (hu : P.underlying t = some (.struct fs)) (hf : fs[i]? = some f) (hk : sizeA P f.type = some k) (h0 : k ≠ 0) (hx : trX x = some x') :
    OpOk P (fFieldAddr f.offset x') (.fieldAddr t x i) := by
  intro call e s v s' h
  unfold fFieldAddr at h
  split at h
  · next o' off h1 =>
    simp only [Option.some.injEq, Prod.mk.injEq] at h
    obtain ⟨rfl, rfl⟩ := h
    refine ⟨Nat.le_refl _, fun F w0 ρ w a he hs hfr o ho => ?_⟩
    have hb := he.x hx h1
    simp only [Rep] at hb
    obtain ⟨l, hl, hb⟩ := hb
    have hsz := size_run hk w
    refine res_here (cv := .pointer (some ⟨l.b, l.base + (off + f.offset), none⟩)) hs (by simp only [Rep]; exact ⟨l, hl, rfl⟩) ?_
    simp [execOp, ho, hb, Instr.fieldAt, run_underlying hu, hf, Instr.sureAddr, fieldPlace, hsz, h0, addr_add, Nat.add_assoc]
  · cases h

theorem ok_field1 {t : TypeId} {x : Operand} {x' : AX} {i : Nat} {fs : Array Field} {f : Field} (hu : P.underlying t = some (.struct fs)) (hf : fs[i]? = some f) (hk : aggA P f.type = some false) (hx : trX x = some x') :
    OpOk P (fField1 f.offset x') (.field t x i) := by
  intro call e s v s' h
  unfold fField1 at h
  split at h
  · next cs h1 =>
    obtain ⟨h2, rfl⟩ := ans_some h
    refine ⟨Nat.le_refl _, fun F w0 ρ w a he hs hfr o ho => ?_⟩
    have hb := he.x hx h1
    simp only [Rep] at hb
    obtain ⟨cv, hb, hr⟩ := hb
    rw [rd1_eq] at h2
    obtain ⟨u, h3, h4⟩ := hr.get h2
    refine res_here hs h4 ?_
    have := run_part1 (P := P) (w := w) hk (cs := ⟨cv⟩) (i := f.offset) (v := u) (by simpa using h3)
    simp [execOp, ho, hb, Instr.field, run_underlying hu, hf, asAgg, this]
  · cases h

theorem extract_rep {cv : List Value} {as : List AV} (hr : RepL ρ as cv) {i k : Nat} {l : List AV} (h : rdN as i k = some l) : Rep ρ (.agg l) (.agg ((⟨cv⟩ : Array Value).extract i (i + k))) := by
  obtain ⟨h1, rfl⟩ := rdN_some as i k l h
  simp only [Rep]
  refine ⟨(cv.drop i).take k, ?_, (hr.drop i).take k⟩
  congr 1
  apply Array.ext'
  simp [List.extract_eq_take_drop]

theorem ok_fieldN {t : TypeId} {x : Operand} {x' : AX} {i : Nat} {fs : Array Field} {f : Field} {k : Nat} (hu : P.underlying t = some (.struct fs)) (hf : fs[i]? = some f) (hk : aggA P f.type = some true) (hk' : sizeA P f.type = some k) (hx : trX x = some x') :
    OpOk P (fFieldN f.offset k x') (.field t x i) := by
  intro call e s v s' h
  unfold fFieldN at h
  split at h
  · next cs h1 =>
    split at h
    · next l h2 =>
      simp only [Option.some.injEq, Prod.mk.injEq] at h
      obtain ⟨rfl, rfl⟩ := h
      refine ⟨Nat.le_refl _, fun F w0 ρ w a he hs hfr o ho => ?_⟩
      have hb := he.x hx h1
      simp only [Rep] at hb
      obtain ⟨cv, hb, hr⟩ := hb
      refine res_here hs (extract_rep hr h2) ?_
      have := run_partN (P := P) (w := w) hk hk' (cs := ⟨cv⟩) (i := f.offset)
      simp [execOp, ho, hb, Instr.field, run_underlying hu, hf, asAgg, this]
    · cases h
  · cases h

theorem ok_indexAddr {t el : TypeId} {x i : Operand} {x' i' : AX} {es : Nat} (hu : P.underlying t = some (.slice el)) (hs1 : sizeA P el = some es) (hx : trX x = some x') (hi : trX i = some i') : OpOk P (fIndexAddr es x' i') (.indexAddr t x i) := by
  intro call e s v s' h
  unfold fIndexAddr at h
  split at h
  · next o' off len cap j h1 h2 =>
    split at h
    · next m h3 =>
      cases hb : Nat.blt m len with
      | false => rw [hb] at h; cases h
      | true =>
        rw [hb] at h
        simp only [cond_true, Option.some.injEq, Prod.mk.injEq] at h
        obtain ⟨rfl, rfl⟩ := h
        have hlt : m < len := Nat.lt_of_succ_le (Nat.le_of_ble_eq_true hb)
        refine ⟨Nat.le_refl _, fun F w0 ρ w a he hs hfr o ho => ?_⟩
        have r1 := he.x hx h1
        have r2 := he.x hi h2
        simp only [Rep] at r1
        obtain ⟨l, c, hl, r1, _⟩ := r1
        obtain ⟨k, r2⟩ := natOf_some h3 r2
        have hsz := size_run hs1 w
        refine res_here (cv := .pointer (some ⟨l.b, l.base + (off + m * es), none⟩)) hs (by simp only [Rep]; exact ⟨l, hl, rfl⟩) ?_
        simp [execOp, ho, r1, r2, Instr.indexAt, asIntOf, run_underlying hu, hlt, hsz, addr_add, Nat.add_assoc]
    · cases h
  · cases h

theorem ok_indexArr {t el : TypeId} {n : Nat} {x i : Operand} {x' i' : AX} {es : Nat} (hu : P.underlying t = some (.array n el)) (hs1 : sizeA P el = some es) (hx : trX x = some x') (hi : trX i = some i') : OpOk P (fIndexArr n es x' i') (.indexAddr t x i) := by
  intro call e s v s' h
  unfold fIndexArr at h
  split at h
  · next o' off j h1 h2 =>
    split at h
    · next m h3 =>
      cases hb : Nat.blt m n with
      | false => rw [hb] at h; cases h
      | true =>
        rw [hb] at h
        simp only [cond_true, Option.some.injEq, Prod.mk.injEq] at h
        obtain ⟨rfl, rfl⟩ := h
        have hlt : m < n := Nat.lt_of_succ_le (Nat.le_of_ble_eq_true hb)
        refine ⟨Nat.le_refl _, fun F w0 ρ w a he hs hfr o ho => ?_⟩
        have r1 := he.x hx h1
        have r2 := he.x hi h2
        simp only [Rep] at r1
        obtain ⟨l, hl, r1⟩ := r1
        obtain ⟨k, r2⟩ := natOf_some h3 r2
        have hsz := size_run hs1 w
        refine res_here (cv := .pointer (some ⟨l.b, l.base + (off + m * es), none⟩)) hs (by simp only [Rep]; exact ⟨l, hl, rfl⟩) ?_
        simp [execOp, ho, r1, r2, Instr.indexAt, asIntOf, run_underlying hu, hlt, hsz, addr_add, Instr.sureAddr, Nat.add_assoc]
    · cases h
  · cases h

theorem ok_indexStr {t : TypeId} {x i : Operand} {x' i' : AX} (hu : P.underlying t = some .string) (hx : trX x = some x') (hi : trX i = some i') : OpOk P (fIndexStr x' i') (.index t x i) := by
  intro call e s v s' h
  unfold fIndexStr at h
  split at h
  · next b j h1 h2 =>
    split at h
    · next m h3 =>
      split at h
      · next c h4 =>
        simp only [Option.some.injEq, Prod.mk.injEq] at h
        obtain ⟨rfl, rfl⟩ := h
        refine ⟨Nat.le_refl _, fun F w0 ρ w a he hs hfr o ho => ?_⟩
        have r1 := he.x hx h1
        have r2 := he.x hi h2
        simp only [Rep] at r1
        obtain ⟨r1, hsm⟩ := r1
        obtain ⟨k, r2⟩ := natOf_some h3 r2
        rw [nth_eq] at h4
        have hm : m < b.length := (List.getElem?_eq_some_iff.1 h4).1
        have hc : b[m] = c := (List.getElem?_eq_some_iff.1 h4).2
        have hcs : c < 256 := hsm c (by rw [← hc]; exact List.getElem_mem _)
        have hget : (strOf b)[m]? = some (UInt8.ofNat c) := by
          have : m < (strOf b).size := by rw [strOf_size]; exact hm
          rw [getElem?_pos (strOf b) m this]
          congr 1
          show (strOf b).data[m] = _
          simp [strOf, hc]
        refine res_here (cv := .int .u8 (c : Int)) hs (by simp only [Rep]; rfl) ?_
        simp [execOp, ho, r1, r2, Instr.index, asIntOf, run_underlying hu, hget]
        omega
      · cases h
    · cases h
  · cases h

theorem ok_indexAgg1 {t el : TypeId} {n : Nat} {x i : Operand} {x' i' : AX} (hu : P.underlying t = some (.array n el)) (hg : aggA P el = some false) (hs1 : sizeA P el = some 1) (hx : trX x = some x') (hi : trX i = some i') : OpOk P (fIndexAgg1 n x' i') (.index t x i) := by
  intro call e s v s' h
  unfold fIndexAgg1 at h
  split at h
  · next cs j h1 h2 =>
    split at h
    · next m h3 =>
      cases hb : Nat.blt m n with
      | false => rw [hb] at h; cases h
      | true =>
        rw [hb, cond_true] at h
        obtain ⟨h4, rfl⟩ := ans_some h
        have hlt : m < n := Nat.lt_of_succ_le (Nat.le_of_ble_eq_true hb)
        refine ⟨Nat.le_refl _, fun F w0 ρ w a he hs hfr o ho => ?_⟩
        have r1 := he.x hx h1
        have r2 := he.x hi h2
        simp only [Rep] at r1
        obtain ⟨cv, r1, hr⟩ := r1
        obtain ⟨k, r2⟩ := natOf_some h3 r2
        rw [rd1_eq] at h4
        obtain ⟨u, h5, h6⟩ := hr.get h4
        have hsz := size_run hs1 w
        have hp := run_part1 (P := P) (w := w) hg (cs := ⟨cv⟩) (i := m) (v := u) (by simpa using h5)
        refine res_here hs h6 ?_
        simp [execOp, ho, r1, r2, Instr.index, asIntOf, run_underlying hu, hlt, hsz, hp]
    · cases h
  · cases h

/-! ### Lengths -/
theorem ok_lenStr {t ty : TypeId} {x : Operand} {x' : AX} (hu : P.underlying t = some .string) (hx : trX x = some x') {args : Array Operand} {ts : Array TypeId} (ha : args = #[x]) (ht : ts[0]? = some t) : OpOk P (fLenStr x') (.call { callee := .builtin .len, args := args, argTypes := ts }) := by
  subst ha
  intro call e s v s' h
  unfold fLenStr at h
  split at h
  · next b h1 =>
    simp only [Option.some.injEq, Prod.mk.injEq] at h
    obtain ⟨rfl, rfl⟩ := h
    refine ⟨Nat.le_refl _, fun F w0 ρ w a he hs hfr o ho => ?_⟩
    have r1 := he.x hx h1
    simp only [Rep] at r1
    refine res_here (cv := .int .i64 (b.length : Int)) hs (by simp only [Rep, lenL_eq]; rfl) ?_
    simp [execOp, ho, resolve, invoke, builtin, Builtin.len_, ht, run_underlying hu, r1.1, goInt, strOf_size]
  · cases h

theorem ok_lenSl {t el : TypeId} {x : Operand} {x' : AX} (hu : P.underlying t = some (.slice el)) (hx : trX x = some x') {args : Array Operand} {ts : Array TypeId} (ha : args = #[x]) (ht : ts[0]? = some t) : OpOk P (fLenSl x') (.call { callee := .builtin .len, args := args, argTypes := ts }) := by
  subst ha
  intro call e s v s' h
  unfold fLenSl at h
  split at h
  · next h1 =>
    simp only [Option.some.injEq, Prod.mk.injEq] at h
    obtain ⟨rfl, rfl⟩ := h
    refine ⟨Nat.le_refl _, fun F w0 ρ w a he hs hfr o ho => ?_⟩
    have r1 := he.x hx h1
    simp only [Rep] at r1
    refine res_here (cv := .int .i64 0) hs (by simp only [Rep]; rfl) ?_
    simp [execOp, ho, resolve, invoke, builtin, Builtin.len_, ht, run_underlying hu, r1, goInt]
  · next o' off len cap h1 =>
    simp only [Option.some.injEq, Prod.mk.injEq] at h
    obtain ⟨rfl, rfl⟩ := h
    refine ⟨Nat.le_refl _, fun F w0 ρ w a he hs hfr o ho => ?_⟩
    have r1 := he.x hx h1
    simp only [Rep] at r1
    obtain ⟨l, c, _, r1, _⟩ := r1
    refine res_here (cv := .int .i64 (len : Int)) hs (by simp only [Rep]; rfl) ?_
    simp [execOp, ho, resolve, invoke, builtin, Builtin.len_, ht, run_underlying hu, r1, goInt]
  · next h1 =>
    simp only [Option.some.injEq, Prod.mk.injEq] at h
    obtain ⟨rfl, rfl⟩ := h
    refine ⟨Nat.le_refl _, fun F w0 ρ w a he hs hfr o ho => ?_⟩
    have r1 := he.x hx h1
    simp only [Rep] at r1
    obtain ⟨p, c, r1⟩ := r1
    refine res_here (cv := .int .i64 0) hs (by simp only [Rep]; rfl) ?_
    simp [execOp, ho, resolve, invoke, builtin, Builtin.len_, ht, run_underlying hu, r1, goInt]
  · cases h

theorem ok_capSl {t el : TypeId} {x : Operand} {x' : AX} (hu : P.underlying t = some (.slice el)) (hx : trX x = some x') {args : Array Operand} {ts : Array TypeId} (ha : args = #[x]) (ht : ts[0]? = some t) : OpOk P (fCapSl x') (.call { callee := .builtin .cap, args := args, argTypes := ts }) := by
  subst ha
  intro call e s v s' h
  unfold fCapSl at h
  split at h
  · next h1 =>
    simp only [Option.some.injEq, Prod.mk.injEq] at h
    obtain ⟨rfl, rfl⟩ := h
    refine ⟨Nat.le_refl _, fun F w0 ρ w a he hs hfr o ho => ?_⟩
    have r1 := he.x hx h1
    simp only [Rep] at r1
    refine res_here (cv := .int .i64 0) hs (by simp only [Rep]; rfl) ?_
    simp [execOp, ho, resolve, invoke, builtin, Builtin.cap_, ht, run_underlying hu, r1, goInt]
  · next o' off len c h1 =>
    simp only [Option.some.injEq, Prod.mk.injEq] at h
    obtain ⟨rfl, rfl⟩ := h
    refine ⟨Nat.le_refl _, fun F w0 ρ w a he hs hfr o ho => ?_⟩
    have r1 := he.x hx h1
    simp only [Rep, capOk] at r1
    obtain ⟨l, c', _, r1, _, rfl⟩ := r1
    refine res_here (cv := .int .i64 (c' : Int)) hs (by simp only [Rep]; rfl) ?_
    simp [execOp, ho, resolve, invoke, builtin, Builtin.cap_, ht, run_underlying hu, r1, goInt]
  · cases h

theorem RepEs.length {ps : List (AV × AV)} : ∀ {es : List MapEntry}, RepEs ρ ps es → es.length = ps.length := by
  induction ps with
  | nil => intro es h; have : es = [] := h; subst this; rfl
  | cons p ps ih => intro es h; obtain ⟨x, r, rfl, _, _, h4⟩ := h; simp [ih h4]

theorem Sat.map {h : Heap} (hs : Sat F w0 ρ h w) {o : Nat} {es : List (AV × AV)} (ho : h o = some (.map es)) {l : Loc} (hl : ρ o = some l) : ∃ ents clock, w.heap[l.b]? = some (.map ents clock) ∧ RepEs ρ es ents.toList ∧ Born ents.toList clock := by
  obtain ⟨l', h1, h2⟩ := hs.objs o _ ho
  rw [hl] at h1
  injection h1 with h1
  subst h1
  exact h2

theorem run_getObj {r : Nat} {es : Array MapEntry} {cl : Nat} (h : w.heap[r]? = some (.map es cl)) : (getObj r).run P w = .ok (.map es cl) w := by
  simp [getObj, Sem.run, h]

theorem ok_lenMap {t kt et : TypeId} {x : Operand} {x' : AX} (hu : P.underlying t = some (.map kt et)) (hx : trX x = some x') {args : Array Operand} {ts : Array TypeId} (ha : args = #[x]) (ht : ts[0]? = some t) : OpOk P (fLenMap x') (.call { callee := .builtin .len, args := args, argTypes := ts }) := by
  subst ha
  intro call e s v s' h
  unfold fLenMap at h
  split at h
  · next h1 =>
    simp only [Option.some.injEq, Prod.mk.injEq] at h
    obtain ⟨rfl, rfl⟩ := h
    refine ⟨Nat.le_refl _, fun F w0 ρ w a he hs hfr o ho => ?_⟩
    have r1 := he.x hx h1
    simp only [Rep] at r1
    refine res_here (cv := .int .i64 0) hs (by simp only [Rep]; rfl) ?_
    simp [execOp, ho, resolve, invoke, builtin, Builtin.len_, ht, run_underlying hu, r1, goInt]
  · next o' h1 =>
    split at h
    · next es h2 =>
      simp only [Option.some.injEq, Prod.mk.injEq] at h
      obtain ⟨rfl, rfl⟩ := h
      refine ⟨Nat.le_refl _, fun F w0 ρ w a he hs hfr o ho => ?_⟩
      have r1 := he.x hx h1
      simp only [Rep] at r1
      obtain ⟨l, hl, r1⟩ := r1
      obtain ⟨ents, cl, h3, h4, _⟩ := hs.map h2 hl
      have := h4.length
      simp at this
      refine res_here (cv := .int .i64 (ents.size : Int)) hs (by simp only [Rep, lenL_eq, this]; rfl) ?_
      simp [execOp, ho, resolve, invoke, builtin, Builtin.len_, ht, run_underlying hu, r1, goInt, run_getObj h3]
    · cases h
  · cases h

/-! ### Extremes -/
theorem foldl_max {k : IntKind} : ∀ (l : List AV) (x : AV) (cs : List Value) (cx : Value) (v : AV), maxOf x l = some v → Rep ρ x cx → RepL ρ l cs → ∃ cv, (cs.foldlM Builtin.max2 cx).run P w = .ok cv w ∧ Rep ρ v cv
  | [], x, cs, cx, v, h, hx, hl => by
    simp only [RepL] at hl; subst hl
    simp [maxOf] at h; subst h
    exact ⟨cx, rfl, hx⟩
  | y :: l, x, cs, cx, v, h, hx, hl => by
    simp only [RepL] at hl
    obtain ⟨cy, cs, rfl, hy, hl⟩ := hl
    cases x <;> cases y <;> simp only [maxOf] at h <;> (try (cases h; done))
    next k1 m1 k2 m2 =>
    cases hq : kEq k1 k2 with
    | false => rw [hq] at h; cases h
    | true =>
      rw [hq, cond_true] at h
      have := kEq_eq hq; subst this
      simp only [Rep] at hx hy
      subst hx hy
      rw [List.foldlM_cons, Sem.run_bind]
      have e : (Builtin.max2 (.int k1 m1) (.int k1 m2)).run P w = .ok (.int k1 (if m2 > m1 then m2 else m1)) w := rfl
      rw [e, Result.andThen_ok, iLe_eq] at *
      by_cases hc : m2 ≤ m1
      · rw [show decide (m2 ≤ m1) = true from by simpa using hc, cond_true] at h
        rw [if_neg (by omega)]
        exact foldl_max (k := k) l _ cs _ v h (by simp only [Rep]) hl
      · rw [show decide (m2 ≤ m1) = false from by simpa using hc, cond_false] at h
        rw [if_pos (by omega)]
        exact foldl_max (k := k) l _ cs _ v h (by simp only [Rep]) hl
theorem foldl_min {k : IntKind} : ∀ (l : List AV) (x : AV) (cs : List Value) (cx : Value) (v : AV), minOf x l = some v → Rep ρ x cx → RepL ρ l cs → ∃ cv, (cs.foldlM Builtin.min2 cx).run P w = .ok cv w ∧ Rep ρ v cv
  | [], x, cs, cx, v, h, hx, hl => by
    simp only [RepL] at hl; subst hl
    simp [minOf] at h; subst h
    exact ⟨cx, rfl, hx⟩
  | y :: l, x, cs, cx, v, h, hx, hl => by
    simp only [RepL] at hl
    obtain ⟨cy, cs, rfl, hy, hl⟩ := hl
    cases x <;> cases y <;> simp only [minOf] at h <;> (try (cases h; done))
    next k1 m1 k2 m2 =>
    cases hq : kEq k1 k2 with
    | false => rw [hq] at h; cases h
    | true =>
      rw [hq, cond_true] at h
      have := kEq_eq hq; subst this
      simp only [Rep] at hx hy
      subst hx hy
      rw [List.foldlM_cons, Sem.run_bind]
      have e : (Builtin.min2 (.int k1 m1) (.int k1 m2)).run P w = .ok (.int k1 (if m2 < m1 then m2 else m1)) w := rfl
      rw [e, Result.andThen_ok, iLe_eq] at *
      by_cases hc : m1 ≤ m2
      · rw [show decide (m1 ≤ m2) = true from by simpa using hc, cond_true] at h
        rw [if_neg (by omega)]
        exact foldl_min (k := k) l _ cs _ v h (by simp only [Rep]) hl
      · rw [show decide (m1 ≤ m2) = false from by simpa using hc, cond_false] at h
        rw [if_pos (by omega)]
        exact foldl_min (k := k) l _ cs _ v h (by simp only [Rep]) hl

theorem ok_max {args : Array Operand} {ys : List AX} {ts : Array TypeId} (hx : trXs args.toList = some ys) : OpOk P (fMax ys) (.call { callee := .builtin .max, args := args, argTypes := ts }) := by
  intro call e s v s' h
  unfold fMax at h
  split at h
  · next x l h1 =>
    obtain ⟨h2, rfl⟩ := ans_some h
    refine ⟨Nat.le_refl _, fun F w0 ρ w a he hs hfr o ho => ?_⟩
    have r1 := he.xs hx h1
    simp only [RepL] at r1
    obtain ⟨cx, cs, hcs, r1, r2⟩ := r1
    obtain ⟨cv, h3, h4⟩ := foldl_max (P := P) (w := w) (k := .i64) l x cs cx v h2 r1 r2
    refine res_here hs h4 ?_
    have : (Builtin.max_ ts o.type (args.map a.eval)).run P w = .ok cv w := by
      unfold Builtin.max_
      rw [Array.toList_map, hcs]
      exact h3
    simp [execOp, ho, resolve, invoke, builtin, this]
  · cases h
theorem ok_min {args : Array Operand} {ys : List AX} {ts : Array TypeId} (hx : trXs args.toList = some ys) : OpOk P (fMin ys) (.call { callee := .builtin .min, args := args, argTypes := ts }) := by
  intro call e s v s' h
  unfold fMin at h
  split at h
  · next x l h1 =>
    obtain ⟨h2, rfl⟩ := ans_some h
    refine ⟨Nat.le_refl _, fun F w0 ρ w a he hs hfr o ho => ?_⟩
    have r1 := he.xs hx h1
    simp only [RepL] at r1
    obtain ⟨cx, cs, hcs, r1, r2⟩ := r1
    obtain ⟨cv, h3, h4⟩ := foldl_min (P := P) (w := w) (k := .i64) l x cs cx v h2 r1 r2
    refine res_here hs h4 ?_
    have : (Builtin.min_ ts o.type (args.map a.eval)).run P w = .ok cv w := by
      unfold Builtin.min_
      rw [Array.toList_map, hcs]
      exact h3
    simp [execOp, ho, resolve, invoke, builtin, this]
  · cases h

/-! ### Made values -/
theorem setRange (vs : List Value) : ∀ (off j : Nat) (cs : Array Value), off + j + vs.length ≤ cs.size → (vs.zipIdx j).foldl (fun cs (p : Value × Nat) => cs.setIfInBounds (off + p.2) p.1) cs = overA cs (off + j) vs := by
  induction vs with
  | nil => intro off j cs h; simp [overA_nil]
  | cons v vs ih =>
    intro off j cs h
    simp only [List.length_cons] at h
    rw [List.zipIdx_cons, List.foldl_cons, ih off (j + 1) _ (by simp; omega)]
    rw [show off + (j + 1) = off + j + 1 from by omega]
    exact overA_cons (by omega)

theorem over_rep {cs cs' vs : List AV} {c : Array Value} {us : List Value} {k : Nat} (h : wrN cs k vs = some cs') (hc : RepL ρ cs c.toList) (hv : RepL ρ vs us) : RepL ρ cs' (overA c k us).toList ∧ k + us.length ≤ c.size := by
  obtain ⟨h1, rfl⟩ := wrN_some cs k vs cs' h
  have l1 := hc.length
  have l2 := hv.length
  simp at l1
  refine ⟨?_, by omega⟩
  simp only [overA]
  rw [l2]
  exact (hc.take k).append (hv.append (hc.drop _))

theorem fills_nil (cs : List AV) : fills e cs [] = some cs := rfl
theorem fills_cons (cs : List AV) (off n : Nat) (x : AX) (ps : List (Nat × Nat × AX)) : fills e cs ((off, n, x) :: ps) = match evX e x with
      | some v => bif Nat.beq (lenL v.cells) n then match wrN cs off v.cells with
        | some cs' => fills e cs' ps
        | none => none else none
      | none => none := rfl

theorem fill_run (he : EnvRep ρ e a.tmps) {place : Nat → Option (Nat × Nat)} : ∀ (ps : List (Nat × Operand)) (qs : List (Nat × Nat × AX)) (cs cs' : List AV) (c : Array Value),
    All2 (fun p q => ∃ y, trX p.2 = some y ∧ q.2.2 = y ∧ place p.1 = some (q.1, q.2.1)) ps qs → fills e cs qs = some cs' → RepL ρ cs c.toList →
    ∃ c', Instr.fill place c (ps.map fun p => (p.1, a.eval p.2)) = some c' ∧ RepL ρ cs' c'.toList ∧ c'.size = c.size
  | [], _, cs, cs', c, hf, h, hc => by
    cases hf
    rw [fills_nil] at h; injection h with h; subst h
    exact ⟨c, rfl, hc, rfl⟩
  | (i, x) :: ps, _, cs, cs', c, hf, h, hc => by
    cases hf with
    | cons h1 h2 =>
      next q qs =>
      obtain ⟨off, k, y⟩ := q
      obtain ⟨y', hy, rfl, hp⟩ := h1
      simp only at hp
      rw [fills_cons] at h
      split at h
      · next v hv =>
        cases hb : Nat.beq (lenL v.cells) k with
        | false => rw [hb] at h; cases h
        | true =>
          rw [hb, cond_true] at h
          split at h
          · next cs1 hw =>
            have hr := (he.x hy hv).cells
            have hk := Nat.eq_of_beq_eq_true hb
            rw [lenL_eq] at hk
            have hlen := hr.length
            simp at hlen
            obtain ⟨hov, hle⟩ := over_rep hw hc hr
            simp at hle
            obtain ⟨c', h3, h4, h5⟩ := fill_run he ps qs cs1 cs' _ h2 h hov
            refine ⟨c', ?_, h4, by rw [h5, overA_size (by simpa using hle)]⟩
            simp only [List.map_cons, Instr.fill, hp]
            rw [if_neg (by simp; omega)]
            have e1 : (a.eval x).cells.zipIdx.foldl (fun cs (p : Value × Nat) => cs.setIfInBounds (off + p.2) p.1) c = overA c off (a.eval x).cells.toList := by
              rw [← Array.foldl_toList, Array.toList_zipIdx]
              have := setRange (a.eval x).cells.toList off 0 c (by simpa using hle)
              simpa using this
            rw [e1]
            exact h3
          · cases h
      · cases h

theorem parts_struct {fs : Array Field} : ∀ {ps : List (Nat × Operand)} {qs : List (Nat × Nat × AX)}, partsStruct P fs ps = some qs →
    All2 (fun p q => ∃ y, trX p.2 = some y ∧ q.2.2 = y ∧ ∃ f, fs[p.1]? = some f ∧ sizeA P f.type = some q.2.1 ∧ f.offset = q.1) ps qs
  | [], qs, h => by simp [partsStruct] at h; subst h; exact .nil
  | (i, x) :: ps, qs, h => by
    simp only [partsStruct] at h
    split at h
    · next f hf =>
      split at h
      · next n y l hn hy hl => injection h with h; subst h; exact .cons ⟨y, hy, rfl, f, hf, hn, rfl⟩ (parts_struct hl)
      · cases h
    · cases h
theorem parts_arr {es : Nat} : ∀ {ps : List (Nat × Operand)} {qs : List (Nat × Nat × AX)}, partsArr es ps = some qs →
    All2 (fun p q => ∃ y, trX p.2 = some y ∧ q.2.2 = y ∧ (some (p.1 * es, es) : Option (Nat × Nat)) = some (q.1, q.2.1)) ps qs
  | [], qs, h => by simp [partsArr] at h; subst h; exact .nil
  | (i, x) :: ps, qs, h => by
    simp only [partsArr] at h
    split at h
    · next y l hy hl => injection h with h; subst h; exact .cons ⟨y, hy, rfl, rfl⟩ (parts_arr hl)
    · cases h

theorem ok_buildArr {t el : TypeId} {n es : Nat} {ps : Array (Nat × Operand)} {z : List AV} {l : List (Nat × Nat × AX)} (hu : P.underlying t = some (.array n el)) (he1 : sizeA P el = some es) (hz : zeroOf P t = some z) (hl : partsArr es ps.toList = some l) :
    OpOk P (fBuild z l) (.build t ps) := by
  intro call e s v s' h
  unfold fBuild at h
  split at h
  · next cs h1 =>
    simp only [Option.some.injEq, Prod.mk.injEq] at h
    obtain ⟨rfl, rfl⟩ := h
    refine ⟨Nat.le_refl _, fun F w0 ρ w a he hs hfr o ho => ?_⟩
    obtain ⟨zv, hrun, hr⟩ := zero_rep hz
    obtain ⟨c', h2, h3, _⟩ := fill_run he (place := fun i => some (i * es, es)) ps.toList l z cs zv.cells (parts_arr hl) h1 (hr ρ)
    refine res_here (cv := .agg c') hs (by simp only [Rep]; exact ⟨c'.toList, rfl, h3⟩) ?_
    have hsz := size_run he1 w
    have e1 : (ps.map fun x => (x.1, a.eval x.2)).toList = ps.toList.map fun p => (p.1, a.eval p.2) := by simp
    simp only [execOp, ho]
    refine run_v ?_
    simp only [Instr.build, Sem.run_bind, hrun, Result.andThen_ok, run_underlying hu, hsz]
    rw [show (ps.map fun (i, x) => (i, a.eval x)).toList = ps.toList.map fun p => (p.1, a.eval p.2) from by simp]
    rw [h2]
    rfl
  · cases h

theorem places_run {fs : List Field} (w : World) (hall : ∀ f ∈ fs, ∃ k, sizeA P f.type = some k) : (fs.mapM fun f => do pure (f.offset, ← sizeOf f.type) : Sem (List (Nat × Nat))).run P w = .ok (fs.map fun f => (f.offset, (sizeA P f.type).getD 0)) w := by
  induction fs with
  | nil => rfl
  | cons f fs ih =>
    obtain ⟨k, hk⟩ := hall f (by simp)
    have := ih fun g hg => hall g (by simp [hg])
    rw [List.mapM_cons]
    simp only [Sem.run_bind, size_run hk, Result.andThen_ok, this, Sem.run_pure, List.map_cons, hk, Option.getD_some]

theorem ok_buildStruct {t : TypeId} {fs : Array Field} {ps : Array (Nat × Operand)} {z : List AV} {l : List (Nat × Nat × AX)} (hu : P.underlying t = some (.struct fs)) (hall : ∀ f ∈ fs.toList, ∃ k, sizeA P f.type = some k) (hz : zeroOf P t = some z) (hl : partsStruct P fs ps.toList = some l) :
    OpOk P (fBuild z l) (.build t ps) := by
  intro call e s v s' h
  unfold fBuild at h
  split at h
  · next cs h1 =>
    simp only [Option.some.injEq, Prod.mk.injEq] at h
    obtain ⟨rfl, rfl⟩ := h
    refine ⟨Nat.le_refl _, fun F w0 ρ w a he hs hfr o ho => ?_⟩
    obtain ⟨zv, hrun, hr⟩ := zero_rep hz
    have hpl : All2 (fun (p : Nat × Operand) (q : Nat × Nat × AX) => ∃ y, trX p.2 = some y ∧ q.2.2 = y ∧ ((fs.toList.map fun f => (f.offset, (sizeA P f.type).getD 0)).toArray[p.1]? : Option (Nat × Nat)) = some (q.1, q.2.1)) ps.toList l := by
      have gen : ∀ (x : List (Nat × Operand)) (y : List (Nat × Nat × AX)), All2 (fun p q => ∃ y, trX p.2 = some y ∧ q.2.2 = y ∧ ∃ f, fs[p.1]? = some f ∧ sizeA P f.type = some q.2.1 ∧ f.offset = q.1) x y →
          All2 (fun (p : Nat × Operand) (q : Nat × Nat × AX) => ∃ y, trX p.2 = some y ∧ q.2.2 = y ∧ ((fs.toList.map fun f => (f.offset, (sizeA P f.type).getD 0)).toArray[p.1]? : Option (Nat × Nat)) = some (q.1, q.2.1)) x y := by
        intro x y hxy
        induction hxy with
        | nil => exact .nil
        | cons h1 _ ih =>
          obtain ⟨y, h3, h4, f, h5, h6, h7⟩ := h1
          exact .cons ⟨y, h3, h4, by simp [h5, h6, h7]⟩ ih
      exact gen _ _ (parts_struct hl)
    obtain ⟨c', h2, h3, _⟩ := fill_run he (place := fun i => (fs.toList.map fun f => (f.offset, (sizeA P f.type).getD 0)).toArray[i]?) ps.toList l z cs zv.cells hpl h1 (hr ρ)
    refine res_here (cv := .agg c') hs (by simp only [Rep]; exact ⟨c'.toList, rfl, h3⟩) ?_
    have hpr := places_run (P := P) w hall
    simp only [execOp, ho]
    refine run_v ?_
    have hm : (fs.mapM fun f => do pure (f.offset, ← sizeOf f.type) : Sem (Array (Nat × Nat))).run P w = .ok (fs.toList.map fun f => (f.offset, (sizeA P f.type).getD 0)).toArray w := by
      rw [Array.mapM_eq_mapM_toList]
      simp only [Sem.run_map, hpr, Result.andThen_ok]
    simp only [Instr.build, Sem.run_bind, hrun, Result.andThen_ok, run_underlying hu, hm]
    rw [show (ps.map fun (i, x) => (i, a.eval x)).toList = ps.toList.map fun p => (p.1, a.eval p.2) from by simp]
    rw [h2]
    rfl
  · cases h
end
end Go.Am
