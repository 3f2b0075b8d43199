/- Whatever the translator makes of an operation is borne by the model's. -/
import Derived.Test.YtgolgogmhcgecaaGreatAmOps7
namespace Go.Am
set_option linter.unusedVariables false
set_option linter.unusedSimpArgs false

def Callable (P : Program) (f : FuncId) : Prop := ∃ G, P.funcs[f]? = some G ∧ G.body.isSome = true ∧ G.name ≠ "runtime.NumGoroutine"

/-- A call that is borne. -/
def CallOk (P : Program) (call : Call) : Prop :=
  ∀ f vs s v s', call f vs s = some (v, s') → s.next ≤ s'.next ∧ Callable P f ∧
    ∀ (F : Fr) (w0 : World) (ρ : Rho) (w : World) (cvs : List Value), RepL ρ vs cvs → Sat F w0 ρ s.heap.get w → Fresh ρ s.next s'.next →
      Calls P f ⟨cvs⟩ w fun e w' => ∃ ρ' cv, e = .returned cv ∧ Ext ρ ρ' s.next s'.next ∧ Rep ρ' v cv ∧ Sat F w0 ρ' s'.heap.get w'

def OpSound (P : Program) (f : FOp) (op : Op) : Prop :=
  ∀ call, CallOk P call → ∀ e s v s', f call e s = some (v, s') → s.next ≤ s'.next ∧
    ∀ (F : Fr) (w0 : World) (ρ : Rho) (w : World) (a : Act), EnvRep ρ e a.tmps → Sat F w0 ρ s.heap.get w → Fresh ρ s.next s'.next →
    ∀ (o : Oper) (K : Act → World → Prop) (Q : Exit → Act → World → Prop), o.op = op →
      (∀ ρ' cv w', Ext ρ ρ' s.next s'.next → Rep ρ' v cv → Sat F w0 ρ' s'.heap.get w' → K (a.put o.dst cv) w') → o.wp P a w K Q

section
variable {P : Program}

theorem OpOk.sound {f : FOp} {op : Op} (h : OpOk P f op) : OpSound P f op := by
  intro call _ e s v s' hf
  obtain ⟨h1, h2⟩ := h call e s v s' hf
  refine ⟨h1, fun F w0 ρ w a he hs hfr o K Q ho hK => ?_⟩
  obtain ⟨ρ', cv, w', g1, g2, g3, g4⟩ := h2 F w0 ρ w a he hs hfr o ho
  unfold Oper.wp
  rcases g4 with g4 | ⟨g4, rfl⟩
  · rw [g4]; exact hK ρ' cv w' g1 g2 g3
  · rw [g4]; exact hK ρ' undef w' g1 g2 g3

theorem callFunc_run {f : FuncId} (h : Callable P f) (args : Array Value) (w : World) : (callFunc f args).run P w = .ok (.enter f args) w := by
  obtain ⟨G, h1, h2, h3⟩ := h
  unfold callFunc
  simp only [Sem.run_bind, run_program, Result.andThen_ok, h1]
  have h4 : (G.name == "runtime.NumGoroutine") = false := by simpa using h3
  rw [h4]
  have h5 : G.body.isNone = false := by
    cases hb : G.body with
    | none => rw [hb] at h2; cases h2
    | some c => rfl
  rw [h5]
  rfl

theorem upon_calls {o : Oper} {a : Act} {K : Act → World → Prop} {Q : Exit → Act → World → Prop} {f : FuncId} {args : Array Value} {w : World} {R : Value → World → Prop}
    (hc : Calls P f args w fun e w' => ∃ cv, e = .returned cv ∧ R cv w') (hK : ∀ cv w', R cv w' → K (a.put o.dst cv) w') : o.upon P a K Q (.ok (.enter f args) w) := by
  rw [Oper.upon_enter]
  refine hc.mono fun e w' ⟨cv, he, hr⟩ => ?_
  subst he
  exact hK cv w' hr

theorem sound_call {f : FuncId} {args : Array Operand} {ys : List AX} {ts : Array TypeId} (hx : trXs args.toList = some ys) : OpSound P (fCall f ys) (.call { callee := .value (.func f), args := args, argTypes := ts }) := by
  intro call hcall e s v s' h
  unfold fCall at h
  split at h
  · next vs h1 =>
    obtain ⟨g1, g2, g3⟩ := hcall f vs s v s' h
    refine ⟨g1, fun F w0 ρ w a he hs hfr o K Q ho hK => ?_⟩
    have hr := he.xs hx h1
    have hc := g3 F w0 ρ w _ hr hs hfr
    unfold Oper.wp
    have e1 : (execOp a.eval o).run P w = .ok (.enter f ⟨args.toList.map a.eval⟩) w := by
      have e2 : (⟨args.toList.map a.eval⟩ : Array Value) = args.map a.eval := by rw [← Array.toList_map]
      rw [e2]
      simp only [execOp, ho, resolve, Deferred.ofValue, Act.eval, Sem.run_bind, Sem.run_pure, Result.andThen_ok, invoke]
      simpa using callFunc_run g2 (args.map a.eval) w
    rw [e1]
    exact upon_calls (R := fun cv w' => ∃ ρ', Ext ρ ρ' s.next s'.next ∧ Rep ρ' v cv ∧ Sat F w0 ρ' s'.heap.get w') (hc.mono fun e w' ⟨ρ', cv, q1, q2⟩ => ⟨cv, q1, ρ', q2⟩) fun cv w' ⟨ρ', q1, q2, q3⟩ => hK ρ' cv w' q1 q2 q3
  · cases h

theorem sound_callV {x : Operand} {x' : AX} {args : Array Operand} {ys : List AX} {ts : Array TypeId} (hf : trX x = some x') (hx : trXs args.toList = some ys) : OpSound P (fCallV x' ys) (.call { callee := .value x, args := args, argTypes := ts }) := by
  intro call hcall e s v s' h
  unfold fCallV at h
  split at h
  · next f caps vs h0 h1 =>
    rw [appL_eq] at h
    obtain ⟨g1, g2, g3⟩ := hcall f (vs ++ caps) s v s' h
    refine ⟨g1, fun F w0 ρ w a he hs hfr o K Q ho hK => ?_⟩
    have hr := he.xs hx h1
    have hv := he.x hf h0
    simp only [Rep] at hv
    obtain ⟨cv, hv, hcaps⟩ := hv
    have hc := g3 F w0 ρ w _ (hr.append hcaps) hs hfr
    unfold Oper.wp
    have e1 : (execOp a.eval o).run P w = .ok (.enter f ⟨args.toList.map a.eval ++ cv⟩) w := by
      have e2 : (⟨args.toList.map a.eval ++ cv⟩ : Array Value) = args.map a.eval ++ (⟨cv⟩ : Array Value) := by
        apply Array.ext'
        simp
      rw [e2]
      simp only [execOp, ho, resolve, hv, Deferred.ofValue, Sem.run_bind, Sem.run_pure, Result.andThen_ok, invoke]
      simpa using callFunc_run g2 (args.map a.eval ++ (⟨cv⟩ : Array Value)) w
    rw [e1]
    exact upon_calls (R := fun cv w' => ∃ ρ', Ext ρ ρ' s.next s'.next ∧ Rep ρ' v cv ∧ Sat F w0 ρ' s'.heap.get w') (hc.mono fun e w' ⟨ρ', cv, q1, q2⟩ => ⟨cv, q1, ρ', q2⟩) fun cv w' ⟨ρ', q1, q2, q3⟩ => hK ρ' cv w' q1 q2 q3
  · cases h

theorem args1 {args : Array Operand} {x : AX} (h : trXs args.toList = some [x]) : ∃ y, args = #[y] ∧ trX y = some x := by
  obtain ⟨l⟩ := args
  cases l with
  | nil => simp [trXs] at h
  | cons y l =>
    simp only [trXs] at h
    split at h
    · next a b h1 h2 =>
      simp only [Option.some.injEq, List.cons.injEq] at h
      obtain ⟨rfl, rfl⟩ := h
      cases l with
      | nil => exact ⟨y, rfl, h1⟩
      | cons z l =>
        simp only [trXs] at h2
        split at h2 <;> simp at h2
    · cases h
theorem args2 {args : Array Operand} {x x2 : AX} (h : trXs args.toList = some [x, x2]) : ∃ y y2, args = #[y, y2] ∧ trX y = some x ∧ trX y2 = some x2 := by
  obtain ⟨l⟩ := args
  cases l with
  | nil => simp [trXs] at h
  | cons y l =>
    simp only [trXs] at h
    split at h
    · next a b h1 h2 =>
      simp only [Option.some.injEq, List.cons.injEq] at h
      obtain ⟨rfl, rfl⟩ := h
      obtain ⟨z, hz, hz2⟩ := args1 (args := ⟨l⟩) h2
      have : l = [z] := by simpa using congrArg Array.toList hz
      subst this
      exact ⟨y, z, rfl, h1, hz2⟩
    · cases h

theorem fBad_sound (op : Op) : OpSound P fBad op := fun call _ e s v s' h => by simp [fBad] at h

theorem trXo_none {m : Option Operand} {m' : Option AX} (h : trXo m = some m') (hn : m'.isNone = true) : m = none := by
  cases m with
  | none => rfl
  | some x => simp only [trXo, Option.map_eq_some_iff] at h; obtain ⟨z, _, rfl⟩ := h; simp at hn
theorem trXo_some {m : Option Operand} {m' : Option AX} (h : trXo m = some m') (hn : m'.isSome = true) : m.isSome = true := by
  cases m with
  | none => simp [trXo] at h; subst h; simp at hn
  | some x => rfl

theorem trOp_sound (op : Op) (f : FOp) (h : trOp P op = some f) : OpSound P f op := by
  unfold trOp at h
  split at h
  · simp only [Option.map_eq_some_iff] at h; obtain ⟨x', hx, rfl⟩ := h; exact (ok_move hx _ (.inl rfl)).sound
  · simp only [Option.map_eq_some_iff] at h; obtain ⟨x', hx, rfl⟩ := h; exact (ok_move hx _ (.inr rfl)).sound
  · -- pick
    split at h
    · next hc hx hy => injection h with h; subst h; exact (ok_pick hc hx hy).sound
    · cases h
  · simp only [Option.map_eq_some_iff] at h; obtain ⟨z, hz, rfl⟩ := h; exact (ok_alloc hz).sound
  · simp only [Option.map_eq_some_iff] at h; obtain ⟨x', hx, rfl⟩ := h; exact (ok_box hx _).sound
  · -- build
    split at h
    · next fs hu =>
      split at h
      · next hz hl => 
        split at h
        · next hall =>
          injection h with h; subst h
          refine (ok_buildStruct hu (fun f hf => ?_) hz hl).sound
          exact Option.isSome_iff_exists.1 (List.all_eq_true.1 hall f hf)
        · cases h
      · cases h
    · next n el hu =>
      split at h
      · next hes =>
        split at h
        · next hz hl => injection h with h; subst h; exact (ok_buildArr hu hes hz hl).sound
        · cases h
      · cases h
    · cases h
  · -- buildSlice
    split at h
    · next el hu =>
      split at h
      · next hes hz =>
        split at h
        · next l hl =>
          split at h
          · next hc => injection h with h; subst h; exact (ok_buildSlice hu hes hz hl hc.1 hc.2.1 hc.2.2).sound
          · cases h
        · cases h
      · cases h
    · cases h
  · -- load
    split at h
    · next ha hk hx => injection h with h; subst h; exact (ok_loadN hx ha hk).sound
    · next ha hk hx => injection h with h; subst h; exact (ok_load1 hx ha).sound
    · cases h
  · -- store
    split at h
    · next hk hx hy => injection h with h; subst h; exact (ok_store hx hy hk).sound
    · cases h
  · simp only [Option.map_eq_some_iff] at h; obtain ⟨x', hx, rfl⟩ := h; exact (ok_nilCheck hx).sound
  · -- binOp
    split at h
    · next hk hx hy => injection h with h; subst h; exact (ok_bin hk hx hy).sound
    · cases h
  · simp only [Option.map_eq_some_iff] at h; obtain ⟨x', hx, rfl⟩ := h; exact (ok_not hx _).sound
  · simp only [Option.map_eq_some_iff] at h; obtain ⟨x', hx, rfl⟩ := h; exact (ok_neg hx _).sound
  · -- convert
    split at h
    · next hs hd hx => injection h with h; subst h; exact (ok_convI hx hs hd).sound
    · next el _ hs hd hx =>
      split at h
      · next h8 =>
        injection h with h; subst h
        have h8' : P.underlying el = some (.int .u8) := by
          unfold u8Of at h8; split at h8
          · assumption
          · cases h8
        exact (ok_convSB hs hd h8' hx).sound
      · cases h
    · next el _ hs hd hx =>
      split at h
      · next h8 =>
        injection h with h; subst h
        have h8' : P.underlying el = some (.int .u8) := by
          unfold u8Of at h8; split at h8
          · assumption
          · cases h8
        exact (ok_convBS hs h8' hd hx).sound
      · cases h
    · cases h
  · -- makeFunc
    split at h
    · next h0 => simp only [Option.map_eq_some_iff] at h; obtain ⟨x', hx, rfl⟩ := h; exact (ok_mkFunc h0 hx).sound
    · cases h
  · injection h with h; subst h; exact (ok_makeMap _).sound
  · -- makeSlice
    split at h
    · next el hu =>
      split at h
      · next hes hb hz hl hc =>
        split at h
        · next hcc => injection h with h; subst h; exact (ok_makeSlice hu hes hb hz hl hc hcc.1 hcc.2.1 hcc.2.2).sound
        · cases h
      · cases h
    · cases h
  · -- slice
    split at h
    · next x' lo' hi' mx' hx hlo hhi hmx =>
      split at h
      · next hu =>
        split at h
        · next hm =>
          injection h with h; subst h
          have hmn := trXo_none hmx hm
          subst hmn
          exact (ok_sliceStr hu hx hlo hhi).sound
        · cases h
      · next el hu =>
        split at h
        · next es hes =>
          split at h
          · next hc =>
            injection h with h; subst h
            refine (ok_sliceSl hu hes hc.1 ?_ hx hlo hhi hmx).sound
            rcases hc.2 with q | q
            · exact .inl (trXo_none hmx q)
            · exact .inr (trXo_some hhi q)
          · cases h
        · cases h
      · next n el hu =>
        split at h
        · next es hes =>
          split at h
          · next hc =>
            injection h with h; subst h
            have hmn := trXo_none hmx hc.2
            subst hmn
            exact (ok_sliceArr hu hes hx hlo hhi).sound
          · cases h
        · cases h
      · cases h
    · cases h
  · -- fieldAddr
    split at h
    · next fs hu =>
      split at h
      · next f hf =>
        split at h
        · next k x' hk hx =>
          split at h
          · cases h
          · next h0 => injection h with h; subst h; exact (ok_fieldAddr hu hf hk h0 hx).sound
        · cases h
      · cases h
    · cases h
  · -- field
    split at h
    · next fs hu =>
      split at h
      · next f hf =>
        split at h
        · next ha hk hx => injection h with h; subst h; exact (ok_fieldN hu hf ha hk hx).sound
        · next ha hx => injection h with h; subst h; exact (ok_field1 hu hf ha hx).sound
        · cases h
      · cases h
    · cases h
  · -- indexAddr
    split at h
    · next x' i' hx hi =>
      split at h
      · next el hu =>
        split at h
        · next es hes => injection h with h; subst h; exact (ok_indexAddr hu hes hx hi).sound
        · cases h
      · next n el hu =>
        split at h
        · next es hes => injection h with h; subst h; exact (ok_indexArr hu hes hx hi).sound
        · cases h
      · cases h
    · cases h
  · -- index
    split at h
    · next x' i' hx hi =>
      split at h
      · next hu => injection h with h; subst h; exact (ok_indexStr hu hx hi).sound
      · next n el hu =>
        split at h
        · next ha hs => injection h with h; subst h; exact (ok_indexAgg1 hu ha hs hx hi).sound
        · cases h
      · cases h
    · cases h
  · -- lookup
    split at h
    · next kt et hu =>
      split at h
      · next hk hz hx hi => injection h with h; subst h; exact (ok_lookup (kd := true) hu hk rfl hz hx hi).sound
      · next hk hz hx hi => injection h with h; subst h; exact (ok_lookup (kd := false) hu hk ⟨_, rfl⟩ hz hx hi).sound
      · cases h
    · cases h
  · -- mapUpdate
    split at h
    · next kt et hu =>
      split at h
      · next hk hm hkk hv => injection h with h; subst h; exact (ok_mapUpdate (kd := true) hu hk rfl hm hkk hv).sound
      · next hk hm hkk hv => injection h with h; subst h; exact (ok_mapUpdate (kd := false) hu hk ⟨_, rfl⟩ hm hkk hv).sound
      · cases h
    · cases h
  · simp only [Option.map_eq_some_iff] at h; obtain ⟨x', hx, rfl⟩ := h; exact (ok_extract hx _).sound
  · -- call
    next c =>
    obtain ⟨callee, args, ts⟩ := c
    simp only [] at h
    split at h
    · next ys hx =>
      split at h
      · next f0 =>
        split at h
        · next G hG =>
          split at h
          · injection h with h; subst h; exact sound_call hx
          · cases h
        · cases h
      · next x hne => simp only [Option.map_eq_some_iff] at h; obtain ⟨x', hx', rfl⟩ := h; exact sound_callV hx' hx
      · -- len
        split at h
        · next x t hts =>
          obtain ⟨y, rfl, hy⟩ := args1 hx
          split at h
          · next hu => injection h with h; subst h; exact (ok_lenStr (ty := 0) hu hy rfl hts).sound
          · next hu => injection h with h; subst h; exact (ok_lenSl hu hy rfl hts).sound
          · next hu => injection h with h; subst h; exact (ok_lenMap hu hy rfl hts).sound
          · cases h
        · cases h
      · -- cap
        split at h
        · next x t hts =>
          obtain ⟨y, rfl, hy⟩ := args1 hx
          split at h
          · next hu => injection h with h; subst h; exact (ok_capSl hu hy rfl hts).sound
          · cases h
        · cases h
      · -- append
        split at h
        · next x x2 t u hts htu =>
          obtain ⟨y, y2, rfl, hy, hy2⟩ := args2 hx
          split at h
          · next el hu =>
            split at h
            · next es b z hes hb hz =>
              split at h
              · next hc =>
                split at h
                · next hv => injection h with h; subst h; exact (ok_append (ty := 0) hu hes hb hz hc.1 hc.2.1 hc.2.2 hv rfl hts htu hy hy2).sound
                · next hv =>
                  split at h
                  · next h1 =>
                    injection h with h; subst h
                    obtain ⟨rfl, rfl⟩ := h1
                    exact (ok_appendStr hu hes hb hz hc.1 hv rfl hts htu hy hy2).sound
                  · cases h
                · next hv => injection h with h; subst h; exact (ok_appendZeros hu hes hb hz hc.1 hc.2.1 hc.2.2 hv rfl hts htu hy hy2).sound
                · cases h
              · cases h
            · cases h
          · cases h
        · cases h
      · injection h with h; subst h; exact (ok_max hx).sound
      · injection h with h; subst h; exact (ok_min hx).sound
      · -- copy
        split at h
        · next x x2 t u hts htu =>
          obtain ⟨y, y2, rfl, hy, hy2⟩ := args2 hx
          split at h
          · next hu hv =>
            split at h
            · next es hes => injection h with h; subst h; exact (ok_copy (el' := 0) (u := u) hu hes rfl hts hy hy2).sound
            · cases h
          · cases h
        · cases h
      · cases h
    · cases h
  · cases h

theorem opOr_sound (op : Op) : OpSound P (opOr (trOp P op)) op := by
  cases h : trOp P op with
  | none => exact fBad_sound op
  | some f => exact trOp_sound op f h
end
end Go.Am
