/- Each operation of the abstract machine is borne by the model's: cuts of slices, maps, append, copy. -/
import Derived.Test.YtgolgogmhcgecaaGreatAmOps4
namespace Go.Am
set_option linter.unusedVariables false
set_option linter.unusedSimpArgs false

section
variable {P : Program} {F : Fr} {w0 w : World} {ρ : Rho} {a : Act} {e : Tr AV}

theorem ok_sliceSl {t el : TypeId} {es : Nat} {x : Operand} {lo hi mx : Option Operand} {x' : AX} {lo' hi' mx' : Option AX} (hu : P.underlying t = some (.slice el)) (he1 : sizeA P el = some es) (h0 : 0 < es) (hmx : mx = none ∨ hi.isSome = true)
    (hx : trX x = some x') (hlo : trXo lo = some lo') (hhi : trXo hi = some hi') (hm : trXo mx = some mx') : OpOk P (fSliceSl es x' lo' hi' mx') (.slice t x lo hi mx) := by
  intro call e s v s' h
  unfold fSliceSl at h
  split at h
  · next h1 =>
    split at h
    · next h2 h3 h4 =>
      simp only [Option.some.injEq, Prod.mk.injEq] at h
      obtain ⟨rfl, rfl⟩ := h
      refine ⟨Nat.le_refl _, fun F w0 ρ w a he hs hfr o ho => ?_⟩
      have r1 := he.x hx h1
      simp only [Rep] at r1
      have b1 := bound_map he hlo h2
      have b2 := bound_map he hhi h3
      have b3 := bound_map he hm h4
      refine res_here (cv := .slice none 0 0) hs (by simp only [Rep]) ?_
      simp only [execOp, ho, r1]
      refine run_v ?_
      have hb : (Instr.sliceBounds true 0 0 (lo.map a.eval) (hi.map a.eval) (mx.map a.eval)).run P w = .ok (0, 0, 0) w := by
        rcases b3 with ⟨e3, _⟩ | ⟨k3, e3⟩
        · rw [e3]
          exact bounds_run b1 b2 (Nat.le_refl _) (Nat.le_refl _)
        · rw [e3]
          refine bounds3_run b1 ?_ (Nat.le_refl _) (Nat.le_refl _) (Nat.le_refl _)
          rcases b2 with ⟨e2, _⟩ | ⟨k2, e2⟩
          · rcases hmx with rfl | hmx
            · cases e3
            · cases hi with
              | none => cases hmx
              | some y => cases e2
          · exact ⟨k2, e2⟩
      simp [Instr.sliceAt, run_underlying hu, Instr.slice, hb, size_run he1]
    · cases h
  · next o' off len cap h1 =>
    split at h
    · next l hh h2 h3 =>
      split at h
      · next hmn =>
        obtain ⟨h4, rfl⟩ := ans_some h
        have hmx0 : mx = none := by
          cases mx with
          | none => rfl
          | some y => simp only [trXo, Option.map_eq_some_iff] at hm; obtain ⟨z, _, hz⟩ := hm; cases hz
        subst hmx0
        refine ⟨Nat.le_refl _, fun F w0 ρ w a he hs hfr o ho => ?_⟩
        have r1 := he.x hx h1
        simp only [Rep] at r1
        obtain ⟨lc, c, hl, r1, hlenc, hcap⟩ := r1
        obtain ⟨c1, c2, c3, c4⟩ := cut_rep h4 h0 hl hcap hlenc (hs.known hl)
        simp only [Option.getD_none] at c2 c3 c4
        have hb := bounds_run (P := P) (w := w) (isS := true) (len := len) (cap := c) (bound_map he hlo h2) (bound_map he hhi h3) c1 c2
        refine res_here hs c4 ?_
        simp only [execOp, ho, r1]
        refine run_v ?_
        simp only [Instr.sliceAt, Sem.run_bind, run_underlying hu, Result.andThen_ok, Instr.slice, Option.map_none, hb, size_run he1, Sem.run_pure]
        congr 2
        by_cases q : c = l
        · rw [if_pos q, if_pos q]
        · rw [if_neg q, if_neg q]
          simp only [Option.map_some, addr_add, Nat.add_assoc]
      · next m hmn =>
        split at h
        · next mn h5 =>
          obtain ⟨h4, rfl⟩ := ans_some h
          refine ⟨Nat.le_refl _, fun F w0 ρ w a he hs hfr o ho => ?_⟩
          have r1 := he.x hx h1
          simp only [Rep] at r1
          obtain ⟨lc, c, hl, r1, hlenc, hcap⟩ := r1
          obtain ⟨c1, c2, c3, c4⟩ := cut_rep h4 h0 hl hcap hlenc (hs.known hl)
          simp only [Option.getD_some] at c2 c3 c4
          have b3 := bound_map (d := 0) he hm h5
          have b2 := bound_map he hhi h3
          have hmk : ∃ k, mx.map a.eval = some (.int k (mn : Int)) := by
            rcases b3 with ⟨e3, _⟩ | q
            · cases mx with
              | none => simp [trXo] at hm
              | some y => cases e3
            · exact q
          obtain ⟨km, hmk⟩ := hmk
          have hhk : ∃ k, hi.map a.eval = some (.int k (hh : Int)) := by
            rcases b2 with ⟨e2, _⟩ | q
            · rcases hmx with rfl | hmx
              · cases hmk
              · cases hi with
                | none => cases hmx
                | some y => cases e2
            · exact q
          have hb := bounds3_run (P := P) (w := w) (isS := true) (len := len) (cap := c) (km := km) (bound_map he hlo h2) hhk c1 c2 c3
          refine res_here hs c4 ?_
          simp only [execOp, ho, r1, hmk]
          refine run_v ?_
          simp only [Instr.sliceAt, Sem.run_bind, run_underlying hu, Result.andThen_ok, Instr.slice, hb, size_run he1, Sem.run_pure]
          congr 2
          by_cases q : mn = l
          · rw [if_pos q, if_pos q]
          · rw [if_neg q, if_neg q]
            simp only [Option.map_some, addr_add, Nat.add_assoc]
        · cases h
    · cases h
  · cases h

theorem ok_sliceArr {t el : TypeId} {n es : Nat} {x : Operand} {lo hi : Option Operand} {x' : AX} {lo' hi' : Option AX} (hu : P.underlying t = some (.array n el)) (he1 : sizeA P el = some es)
    (hx : trX x = some x') (hlo : trXo lo = some lo') (hhi : trXo hi = some hi') : OpOk P (fSliceArr n es x' lo' hi') (.slice t x lo hi none) := by
  intro call e s v s' h
  unfold fSliceArr at h
  split at h
  · next o' off h1 =>
    split at h
    · next l hh h2 h3 =>
      cases q1 : Nat.ble l hh with
      | false => rw [q1] at h; cases h
      | true => cases q2 : Nat.ble hh n with
        | false => rw [q1, q2] at h; cases h
        | true =>
          rw [q1, q2] at h
          simp only [cond_true, Option.some.injEq, Prod.mk.injEq] at h
          obtain ⟨rfl, rfl⟩ := h
          have a1 := Nat.le_of_ble_eq_true q1
          have a2 := Nat.le_of_ble_eq_true q2
          refine ⟨Nat.le_refl _, fun F w0 ρ w a he hs hfr o ho => ?_⟩
          have r1 := he.x hx h1
          simp only [Rep] at r1
          obtain ⟨lc, hl, r1⟩ := r1
          have hb := bounds_run (P := P) (w := w) (isS := false) (len := n) (cap := n) (bound_map he hlo h2) (bound_map he hhi h3) a1 a2
          refine res_here (cv := .slice (some (if n = l then ⟨lc.b, lc.base + off, none⟩ else ⟨lc.b, lc.base + (off + l * es), none⟩)) (hh - l) (n - l)) hs ?_ ?_
          · simp only [Rep, capOk]
            refine ⟨lc, n - l, hl, ?_, by omega, rfl⟩
            by_cases q : n = l
            · subst q; simp
            · have : Nat.beq n l = false := by rw [Bool.eq_false_iff]; intro z; exact q (Nat.eq_of_beq_eq_true z)
              rw [this, if_neg q]; rfl
          · simp only [execOp, ho, r1, Option.map_none]
            refine run_v ?_
            simp only [Instr.sliceAt, Sem.run_bind, run_underlying hu, Result.andThen_ok, Instr.sureAddr, hb, size_run he1, Sem.run_pure]
            congr 3
            by_cases q : n = l
            · rw [if_pos q, if_pos q]
            · rw [if_neg q, if_neg q, addr_add, Nat.add_assoc]
    · cases h
  · cases h

/-! ### Maps -/
def kdOk (kd : Bool) (d : TypeDesc) : Prop := if kd = true then d = .string else ∃ j, d = .int j
theorem findK_nil (k : AV) : findK k [] = some none := rfl
theorem findK_cons (k : AV) (p : AV × AV) (es : List (AV × AV)) : findK k (p :: es) = match keyEq k p.1 with
    | some b => bif b then some (some p.2) else findK k es
    | none => none := rfl
theorem same_run {kd : Bool} {d : TypeDesc} (hd : kdOk kd d) {k j : AV} (hk : isKey kd k = true) {b : Bool} (h : keyEq k j = some b) {ck cj : Value} (rk : Rep ρ k ck) (rj : Rep ρ j cj) : Instr.sameNow d ck cj = some b ∧ (b = true → ∀ n, Instr.sameBits n cj ck = true) := by
  cases kd with
  | true =>
    simp [kdOk] at hd; subst hd
    cases k <;> simp only [isKey] at hk <;> (try (cases hk; done))
    cases j <;> simp only [keyEq] at h <;> (try (cases h; done))
    next x y =>
    injection h with h; subst h
    simp only [Rep] at rk rj
    obtain ⟨rfl, h1⟩ := rk
    obtain ⟨rfl, h2⟩ := rj
    refine ⟨by simp only [Instr.sameNow, str_eq' h1 h2], fun q n => ?_⟩
    rw [sEq_eq] at q
    have : x = y := by simpa using q
    subst this
    have e : (strOf x == strOf x) = true := by rw [str_eq' h1 h1, sEq_eq]; simp
    cases n <;> simp only [Instr.sameBits, e]
  | false =>
    simp [kdOk] at hd; obtain ⟨jk, rfl⟩ := hd
    cases k <;> simp only [isKey] at hk <;> (try (cases hk; done))
    cases j <;> simp only [keyEq] at h <;> (try (cases h; done))
    next k1 m1 k2 m2 =>
    cases q : kEq k1 k2 with
    | false => rw [q] at h; cases h
    | true =>
      rw [q] at h; injection h with h; subst h
      have := kEq_eq q; subst this
      simp only [Rep] at rk rj
      subst rk rj
      refine ⟨by simp only [Instr.sameNow, iEq_eq, if_true]; congr 1 <;> (by_cases q : m1 = m2 <;> simp [q]), fun q n => ?_⟩
      rw [iEq_eq] at q
      have : m1 = m2 := by simpa using q
      subst this
      cases n <;> simp [Instr.sameBits]

theorem find_run {kd : Bool} {d : TypeDesc} (hd : kdOk kd d) {k : AV} (hk : isKey kd k = true) {ck : Value} (rk : Rep ρ k ck) : ∀ (es : List (AV × AV)) (ents : List MapEntry) (i : Nat) (r : Option AV), findK k es = some r → RepEs ρ es ents →
    (r = none ∧ Instr.findNow d ck ents i = some none) ∨ ∃ v j cv, r = some v ∧ Instr.findNow d ck ents i = some (some (i + j, cv)) ∧ Rep ρ v cv ∧ ∃ en, ents[j]? = some en ∧ ∀ n, Instr.sameBits n en.key ck = true
  | [], ents, i, r, h, hr => by
    have : ents = [] := hr
    subst this
    rw [findK_nil] at h
    injection h with h
    exact .inl ⟨h.symm, rfl⟩
  | p :: es, ents, i, r, h, hr => by
    obtain ⟨en, rest, rfl, h1, h2, h3⟩ := hr
    rw [findK_cons] at h
    split at h
    · next b hb =>
      obtain ⟨h4, h5⟩ := same_run hd hk hb rk h1
      cases b with
      | true =>
        simp only [cond_true, Option.some.injEq] at h
        subst h
        exact .inr ⟨p.2, 0, en.val, rfl, by simp only [Instr.findNow, h4]; rfl, h2, en, rfl, h5 rfl⟩
      | false =>
        rw [cond_false] at h
        rcases find_run hd hk rk es rest (i + 1) r h h3 with ⟨q1, q2⟩ | ⟨v, j, cv, q1, q2, q3, en', q4, q5⟩
        · exact .inl ⟨q1, by simp only [Instr.findNow, h4, q2]⟩
        · exact .inr ⟨v, j + 1, cv, q1, by simp only [Instr.findNow, h4, q2]; congr 3; omega, q3, en', by simpa using q4, q5⟩
    · cases h

theorem checkKey_run {kt : TypeId} {kd : Bool} {d : TypeDesc} (hu : P.underlying kt = some d) (hd : kdOk kd d) (em : Bool) (n : Nat) (ck : Value) : (Instr.checkKey em (n + 1) kt ck).run P w = .ok () w := by
  cases kd with
  | true =>
    simp [kdOk] at hd; subst hd
    simp only [Instr.checkKey, Sem.run_bind, run_underlying hu, Result.andThen_ok]
    cases ck <;> rfl
  | false =>
    simp [kdOk] at hd; obtain ⟨j, rfl⟩ := hd
    simp only [Instr.checkKey, Sem.run_bind, run_underlying hu, Result.andThen_ok]
    cases ck <;> rfl

theorem ok_lookup {t kt et : TypeId} {d : TypeDesc} {kd ok : Bool} {z : AV} {x i : Operand} {x' i' : AX} (hu : P.underlying t = some (.map kt et)) (hku : P.underlying kt = some d) (hd : kdOk kd d) (hz : zeroVal P et = some z) (hx : trX x = some x') (hi : trX i = some i') :
    OpOk P (fLookup kd z ok x' i') (.lookup t x i ok) := by
  intro call e s v s' h
  unfold fLookup at h
  split at h
  · next m k h1 h2 =>
    obtain ⟨zv, hrun, hzr⟩ := zeroVal_rep hz
    have fin : ∀ (F : Fr) (w0 : World) (ρ : Rho) (w : World) (a : Act), EnvRep ρ e a.tmps → Sat F w0 ρ s.heap.get w → ∀ (es : List (AV × AV)) (ents : Array MapEntry) (r : Option AV), RepEs ρ es ents.toList → isKey kd k = true → findK k es = some r →
        (a.eval x = .map none ∧ ents = #[] ∨ ∃ b cl, a.eval x = .map (some b) ∧ w.heap[b]? = some (.map ents cl)) →
        ∃ cv, (Instr.lookup t (a.eval x) (a.eval i) ok).run P w = .ok cv w ∧ Rep ρ (match r with
          | some v => (bif ok then .tuple [v, .bool true] else v)
          | none => (bif ok then .tuple [z, .bool false] else z)) cv := by
      intro F w0 ρ w a he hs es ents r hes hk hf hm
      have rk := he.x hi h2
      have hck := fun em => checkKey_run (w := w) hku hd em 9999 (a.eval i)
      have hkeyrun : ∀ r', Instr.findNow d (a.eval i) ents.toList 0 = some r' → (Instr.findKey kt (a.eval i) ents.toList).run P w = .ok r' w := fun r' hr' => by
        simp only [Instr.findKey, Sem.run_bind, run_underlying hku, Result.andThen_ok, hr']
        rfl
      rcases find_run hd hk rk es ents.toList 0 r hf hes with ⟨rfl, q2⟩ | ⟨v', j, cv, rfl, q2, q3, _⟩
      · refine ⟨if ok then .tuple #[zv, .bool false] else zv, ?_, ?_⟩
        · rcases hm with ⟨e1, rfl⟩ | ⟨b, cl, e1, e2⟩
          · simp only [Instr.lookup, Sem.run_bind, run_underlying hu, Result.andThen_ok, e1, hck, hkeyrun _ q2, hrun, Sem.run_pure]
          · simp only [Instr.lookup, Sem.run_bind, run_underlying hu, Result.andThen_ok, e1, run_getObj e2, hck, hkeyrun _ q2, hrun, Sem.run_pure]
        · cases ok
          · exact hzr ρ
          · simp only [cond_true, if_true, Rep]
            exact ⟨[zv, .bool false], rfl, RepL.cons (hzr ρ) (RepL.cons (by simp only [Rep]) (RepL.nil ρ))⟩
      · refine ⟨if ok then .tuple #[cv, .bool true] else cv, ?_, ?_⟩
        · rcases hm with ⟨e1, rfl⟩ | ⟨b, cl, e1, e2⟩
          · simp only [Instr.lookup, Sem.run_bind, run_underlying hu, Result.andThen_ok, e1, hck, hkeyrun _ q2, Sem.run_pure]
          · simp only [Instr.lookup, Sem.run_bind, run_underlying hu, Result.andThen_ok, e1, run_getObj e2, hck, hkeyrun _ q2, Sem.run_pure]
        · cases ok
          · exact q3
          · simp only [cond_true, if_true, Rep]
            exact ⟨[cv, .bool true], rfl, RepL.cons q3 (RepL.cons (by simp only [Rep]) (RepL.nil ρ))⟩
    have fin2 : ∀ (F : Fr) (w0 : World) (ρ : Rho) (w : World) (a : Act), EnvRep ρ e a.tmps → Sat F w0 ρ s.heap.get w → ∀ r, (match m with
        | .nilMap => bif isKey kd k then some none else none
        | .map o => match s.heap.get o with
          | some (.map es) => bif isKey kd k then findK k es else none
          | _ => none
        | _ => none : Option (Option AV)) = some r → ∃ cv, (Instr.lookup t (a.eval x) (a.eval i) ok).run P w = .ok cv w ∧ Rep ρ (match r with
          | some v => (bif ok then .tuple [v, .bool true] else v)
          | none => (bif ok then .tuple [z, .bool false] else z)) cv := by
      intro F w0 ρ w a he hs r hr
      have rm := he.x hx h1
      cases m <;> simp only [] at hr <;> (try (cases hr; done))
      next o' =>
        split at hr
        · next es hes =>
          cases q : isKey kd k with
          | false => rw [q] at hr; cases hr
          | true =>
            rw [q, cond_true] at hr
            simp only [Rep] at rm
            obtain ⟨l, hl, rm⟩ := rm
            obtain ⟨ents, cl, g1, g2, _⟩ := hs.map hes hl
            exact fin F w0 ρ w a he hs es ents r g2 q hr (.inr ⟨_, cl, rm, g1⟩)
        · cases hr
      next =>
        cases q : isKey kd k with
        | false => rw [q] at hr; cases hr
        | true =>
          rw [q, cond_true] at hr
          injection hr with hr; subst hr
          simp only [Rep] at rm
          exact fin F w0 ρ w a he hs [] #[] none rfl q rfl (.inl ⟨rm, rfl⟩)
    split at h
    · next v' hv =>
      simp only [Option.some.injEq, Prod.mk.injEq] at h
      obtain ⟨rfl, rfl⟩ := h
      refine ⟨Nat.le_refl _, fun F w0 ρ w a he hs hfr o ho => ?_⟩
      obtain ⟨cv, g1, g2⟩ := fin2 F w0 ρ w a he hs _ hv
      refine res_here hs g2 ?_
      simp only [execOp, ho]
      exact run_v g1
    · next hv =>
      simp only [Option.some.injEq, Prod.mk.injEq] at h
      obtain ⟨rfl, rfl⟩ := h
      refine ⟨Nat.le_refl _, fun F w0 ρ w a he hs hfr o ho => ?_⟩
      obtain ⟨cv, g1, g2⟩ := fin2 F w0 ρ w a he hs _ hv
      refine res_here hs g2 ?_
      simp only [execOp, ho]
      exact run_v g1
    · cases h
  · cases h

theorem putK_nil (k x : AV) : putK k x [] = some [(k, x)] := rfl
theorem putK_cons (k x : AV) (p : AV × AV) (es : List (AV × AV)) : putK k x (p :: es) = match keyEq k p.1 with
    | some b => bif b then some ((k, x) :: es) else match putK k x es with
      | some l => some (p :: l)
      | none => none
    | none => none := rfl
theorem put_run {kd : Bool} {d : TypeDesc} (hd : kdOk kd d) {k x : AV} (hk : isKey kd k = true) {ck cx : Value} (rk : Rep ρ k ck) (rx : Rep ρ x cx) : ∀ (es es' : List (AV × AV)) (ents : List MapEntry) (i : Nat), putK k x es = some es' → RepEs ρ es ents →
    (Instr.findNow d ck ents i = some none ∧ ∀ b, RepEs ρ es' (ents ++ [⟨ck, cx, b⟩])) ∨
    ∃ j cv, Instr.findNow d ck ents i = some (some (i + j, cv)) ∧ (∃ en, ents[j]? = some en ∧ ∀ n, Instr.sameBits n en.key ck = true) ∧ RepEs ρ es' (ents.modify j fun e => { e with key := ck, val := cx })
  | [], es', ents, i, h, hr => by
    have : ents = [] := hr
    subst this
    rw [putK_nil] at h
    injection h with h
    subst h
    exact .inl ⟨rfl, fun b => ⟨⟨ck, cx, b⟩, [], rfl, rk, rx, rfl⟩⟩
  | p :: es, es', ents, i, h, hr => by
    obtain ⟨en, rest, rfl, h1, h2, h3⟩ := hr
    rw [putK_cons] at h
    split at h
    · next b hb =>
      obtain ⟨h4, h5⟩ := same_run hd hk hb rk h1
      cases b with
      | true =>
        simp only [cond_true, Option.some.injEq] at h
        subst h
        exact .inr ⟨0, en.val, by simp only [Instr.findNow, h4]; rfl, ⟨en, rfl, h5 rfl⟩, ⟨_, rest, rfl, rk, rx, h3⟩⟩
      | false =>
        rw [cond_false] at h
        split at h
        · next l hl =>
          injection h with h; subst h
          rcases put_run hd hk rk rx es l rest (i + 1) hl h3 with ⟨q1, q2⟩ | ⟨j, cv, q1, ⟨en', q2, q3⟩, q4⟩
          · exact .inl ⟨by simp only [Instr.findNow, h4, q1], fun b => ⟨en, _, rfl, h1, h2, q2 b⟩⟩
          · exact .inr ⟨j + 1, cv, by simp only [Instr.findNow, h4, q1]; congr 3; omega, ⟨en', by simpa using q2, q3⟩, ⟨en, _, rfl, h1, h2, q4⟩⟩
        · cases h
    · cases h

theorem ok_mapUpdate {t kt et : TypeId} {d : TypeDesc} {kd : Bool} {m k x : Operand} {m' k' x' : AX} (hu : P.underlying t = some (.map kt et)) (hku : P.underlying kt = some d) (hd : kdOk kd d) (hm : trX m = some m') (hk : trX k = some k') (hx : trX x = some x') :
    OpOk P (fMapUpdate kd m' k' x') (.mapUpdate t m k x) := by
  intro call e s v s' h
  unfold fMapUpdate at h
  split at h
  · next o' kv xv h1 h2 h3 =>
    split at h
    · next es hes =>
      cases q : isKey kd kv with
      | false => rw [q] at h; cases h
      | true =>
        rw [q, cond_true] at h
        split at h
        · next es' hput =>
          simp only [Option.some.injEq, Prod.mk.injEq] at h
          obtain ⟨rfl, rfl⟩ := h
          refine ⟨Nat.le_refl _, fun F w0 ρ w a he hs hfr o ho => ?_⟩
          have rm := he.x hm h1
          have rk := he.x hk h2
          have rx := he.x hx h3
          simp only [Rep] at rm
          obtain ⟨l, hl, rm⟩ := rm
          obtain ⟨ents, cl, g1, g2, g3⟩ := hs.map hes hl
          have hck := checkKey_run (w := w) hku hd false 9999 (a.eval k)
          have hkeyrun : ∀ r', Instr.findNow d (a.eval k) ents.toList 0 = some r' → (Instr.findKey kt (a.eval k) ents.toList).run P w = .ok r' w := fun r' hr' => by
            simp only [Instr.findKey, Sem.run_bind, run_underlying hku, Result.andThen_ok, hr']
            rfl
          have hset : ∀ x, (setObj l.b x).run P w = .ok () { w with heap := w.heap.setIfInBounds l.b x } := fun x => by simp [setObj, Sem.run, g1]
          rcases put_run hd q rk rx es es' ents.toList 0 hput g2 with ⟨q1, q2⟩ | ⟨j, cv, q1, ⟨en, q2, q3⟩, q4⟩
          · refine ⟨ρ, undef, _, Ext.refl _ _ _, by simp only [AV.undef, Rep]; exact ⟨[], rfl, RepL.nil ρ⟩, by
              have := hs.write (x' := .map es') (y := .map (ents.push { key := a.eval k, val := a.eval x, born := cl }) (cl + 1)) hes rfl hl rfl ⟨_, _, rfl, by simpa using q2 cl, by simpa using g3.push (a.eval k) (a.eval x)⟩
              simpa only [Tr.put_get] using this, .inr ⟨?_, rfl⟩⟩
            simp [execOp, ho, rm, Instr.mapUpdate, run_underlying hu, run_getObj g1, hck, hkeyrun _ q1, hset]
          · refine ⟨ρ, undef, _, Ext.refl _ _ _, by simp only [AV.undef, Rep]; exact ⟨[], rfl, RepL.nil ρ⟩, by
              have := hs.write (x' := .map es') (y := .map (ents.modify j fun e => { e with key := a.eval k, val := a.eval x }) cl) hes rfl hl rfl ⟨_, _, rfl, by simpa using q4, by simpa using g3.modify j (a.eval k) (a.eval x)⟩
              simpa only [Tr.put_get] using this, .inr ⟨?_, rfl⟩⟩
            have hen : ents[j]? = some en := by simpa using q2
            have hst : (Instr.keyThatStays (((ents[0 + j]?).map (·.key)).getD (a.eval k)) (a.eval k)).run P w = .ok (a.eval k) w := by
              rw [Nat.zero_add, hen]
              simp only [Option.map_some, Option.getD_some, Instr.keyThatStays, q3]
              rfl
            simp only [execOp, ho, rm]
            simp only [Instr.mapUpdate, Sem.run_bind, run_underlying hu, run_getObj g1, hck, hkeyrun _ q1, Result.andThen_ok, hst, hset, Sem.run_pure]
            rw [Nat.zero_add]
        · cases h
    · cases h
  · cases h
end
end Go.Am
