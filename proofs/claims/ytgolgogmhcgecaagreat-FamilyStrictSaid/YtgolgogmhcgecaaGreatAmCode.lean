/- Regions, code and functions: what the abstract machine comes to, the model comes to. -/
import Derived.Test.YtgolgogmhcgecaaGreatAmSound
import Derived.LoopN
namespace Go.Am
set_option linter.unusedVariables false
set_option linter.unusedSimpArgs false

section
variable {P : Program}

/-! ### One operation of a region -/
theorem EnvRep.put {ρ : Rho} {e : Tr AV} {tmps : Array Value} (h : EnvRep ρ e tmps) {d : Nat} (hd : d < tmps.size) {v : AV} {cv : Value} (hv : Rep ρ v cv) : EnvRep ρ (e.put (some v) d) (tmps.setIfInBounds d cv) := fun t a ht => by
  rw [Tr.get_put] at ht
  by_cases e1 : t = d
  · subst e1
    rw [if_pos rfl] at ht
    injection ht with ht; subst ht
    exact ⟨cv, by rw [Array.getElem?_setIfInBounds_self_of_lt hd], hv⟩
  · rw [if_neg e1] at ht
    obtain ⟨u, h1, h2⟩ := h t a ht
    exact ⟨u, by rw [Array.getElem?_setIfInBounds_ne (fun q => e1 q.symm)]; exact h1, h2⟩
theorem EnvRep.mono {ρ ρ' : Rho} {e : Tr AV} {tmps : Array Value} (h : EnvRep ρ e tmps) (hs : Sub ρ ρ') : EnvRep ρ' e tmps := fun t a ht => let ⟨u, h1, h2⟩ := h t a ht; ⟨u, h1, h2.mono hs⟩

/-- A step of a region that is borne. -/
def FoSound (P : Program) (N : Nat) (ops : Array Oper) (i : Nat) (f : FO) : Prop :=
  ∀ call, CallOk P call → ∀ e s e' s', f call e s = some (e', s') → s.next ≤ s'.next ∧
    ∀ (F : Fr) (w0 : World) (ρ : Rho) (w : World) (a : Act), EnvRep ρ e a.tmps → N ≤ a.tmps.size → Sat F w0 ρ s.heap.get w → Fresh ρ s.next s'.next →
    ∀ (K : Act → World → Prop) (Q : Exit → Act → World → Prop), (∀ ρ' a' w', Ext ρ ρ' s.next s'.next → EnvRep ρ' e' a'.tmps → a'.tmps.size = a.tmps.size → a'.defers = a.defers → Sat F w0 ρ' s'.heap.get w' → K a' w') → wpOp P ops Q i K a w

theorem wanted_run {ρ : Rho} {e : Tr AV} {a : Act} (he : EnvRep ρ e a.tmps) {ops : Array Oper} {j t : Nat} (hg : guardTmp ops j = some t) {want b : Bool} (h : wantedA e t want = some b) {x : Oper} (hx : x.guard = some (j, want)) : Region.wanted x (yielded ops a.tmps) = b := by
  have hd : (ops[j]?).bind (·.dst) = some t := by
    unfold guardTmp at hg
    split at hg
    · next o ho => simp [ho, hg]
    · cases hg
  unfold wantedA at h
  simp only [Region.wanted, hx, yielded, hd, Option.bind_some]
  split at h
  · next c hc =>
    injection h with h; subst h
    obtain ⟨u, h1, h2⟩ := he t _ hc
    simp only [Rep] at h2
    subst h2
    simp only [h1, bBeq_eq]
    cases c <;> cases want <;> rfl
  · next hc =>
    injection h with h; subst h
    obtain ⟨u, h1, h2⟩ := he t _ hc
    simp only [Rep, RepL] at h2
    obtain ⟨cv, h2, rfl⟩ := h2
    subst h2
    simp only [h1]
    cases want <;> rfl
  · cases h

theorem undef_rep (ρ : Rho) : Rep ρ AV.undef undef := by simp only [AV.undef, Rep]; exact ⟨[], rfl, RepL.nil ρ⟩

theorem xBad_sound {N : Nat} {ops : Array Oper} {i : Nat} : FoSound P N ops i xBad := fun call _ e s e' s' h => by simp [xBad] at h

theorem o_sound {N d : Nat} {ops : Array Oper} {i : Nat} {x : Oper} (hi : ops[i]? = some x) (hd : x.dst = some d) (hw : ∀ a : Act, Region.wanted x (yielded ops a.tmps) = true ∨ True) (hN : d < N) {f : FOp} (hf : OpSound P f x.op) :
    ∀ call, CallOk P call → ∀ e s e' s', o d f call e s = some (e', s') → s.next ≤ s'.next ∧
    ∀ (F : Fr) (w0 : World) (ρ : Rho) (w : World) (a : Act), EnvRep ρ e a.tmps → N ≤ a.tmps.size → Sat F w0 ρ s.heap.get w → Fresh ρ s.next s'.next → Region.wanted x (yielded ops a.tmps) = true →
    ∀ (K : Act → World → Prop) (Q : Exit → Act → World → Prop), (∀ ρ' a' w', Ext ρ ρ' s.next s'.next → EnvRep ρ' e' a'.tmps → a'.tmps.size = a.tmps.size → a'.defers = a.defers → Sat F w0 ρ' s'.heap.get w' → K a' w') → wpOp P ops Q i K a w := by
  intro call hcall e s e' s' h
  unfold o at h
  split at h
  · next v s1 hv =>
    simp only [Option.some.injEq, Prod.mk.injEq] at h
    obtain ⟨rfl, rfl⟩ := h
    obtain ⟨g1, g2⟩ := hf call hcall e s v _ hv
    refine ⟨g1, fun F w0 ρ w a he hsz hs hfr hwant K Q hK => ?_⟩
    unfold wpOp
    simp only [hi, hwant, if_true]
    refine .inl (g2 F w0 ρ w a he hs hfr x K Q rfl fun ρ' cv w' q1 q2 q3 => ?_)
    rw [hd]
    exact hK ρ' _ w' q1 ((he.mono q1.sub).put (Nat.lt_of_lt_of_le hN hsz) q2) (by simp [Act.put]) rfl q3
  · cases h
theorem n_sound {N : Nat} {ops : Array Oper} {i : Nat} {x : Oper} (hi : ops[i]? = some x) (hd : x.dst = none) {f : FOp} (hf : OpSound P f x.op) :
    ∀ call, CallOk P call → ∀ e s e' s', n f call e s = some (e', s') → s.next ≤ s'.next ∧
    ∀ (F : Fr) (w0 : World) (ρ : Rho) (w : World) (a : Act), EnvRep ρ e a.tmps → N ≤ a.tmps.size → Sat F w0 ρ s.heap.get w → Fresh ρ s.next s'.next → Region.wanted x (yielded ops a.tmps) = true →
    ∀ (K : Act → World → Prop) (Q : Exit → Act → World → Prop), (∀ ρ' a' w', Ext ρ ρ' s.next s'.next → EnvRep ρ' e' a'.tmps → a'.tmps.size = a.tmps.size → a'.defers = a.defers → Sat F w0 ρ' s'.heap.get w' → K a' w') → wpOp P ops Q i K a w := by
  intro call hcall e s e' s' h
  unfold n at h
  split at h
  · next v s1 hv =>
    simp only [Option.some.injEq, Prod.mk.injEq] at h
    obtain ⟨rfl, rfl⟩ := h
    obtain ⟨g1, g2⟩ := hf call hcall e s v _ hv
    refine ⟨g1, fun F w0 ρ w a he hsz hs hfr hwant K Q hK => ?_⟩
    unfold wpOp
    simp only [hi, hwant, if_true]
    refine .inl (g2 F w0 ρ w a he hs hfr x K Q rfl fun ρ' cv w' q1 q2 q3 => ?_)
    rw [hd]
    exact hK ρ' _ w' q1 (he.mono q1.sub) rfl rfl q3
  · cases h

theorem trOper_sound {N : Nat} {ops : Array Oper} {i : Nat} {x : Oper} (hi : ops[i]? = some x) : FoSound P N ops i (trOper P N ops x) := by
  unfold trOper
  split
  · next d hd hg =>
    split
    · next hN =>
      intro call hcall e s e' s' h
      obtain ⟨g1, g2⟩ := o_sound hi hd (fun _ => .inr trivial) hN (opOr_sound x.op) call hcall e s e' s' h
      exact ⟨g1, fun F w0 ρ w a he hsz hs hfr K Q hK => g2 F w0 ρ w a he hsz hs hfr (by simp [Region.wanted, hg]) K Q hK⟩
    · exact xBad_sound
  · next hd hg =>
    intro call hcall e s e' s' h
    obtain ⟨g1, g2⟩ := n_sound (N := N) hi hd (opOr_sound x.op) call hcall e s e' s' h
    exact ⟨g1, fun F w0 ρ w a he hsz hs hfr K Q hK => g2 F w0 ρ w a he hsz hs hfr (by simp [Region.wanted, hg]) K Q hK⟩
  · next d j want hd hg =>
    split
    · next t ht =>
      split
      · next hN =>
        intro call hcall e s e' s' h
        unfold g at h
        split at h
        · next hw =>
          obtain ⟨g1, g2⟩ := o_sound hi hd (fun _ => .inr trivial) hN (opOr_sound x.op) call hcall e s e' s' h
          exact ⟨g1, fun F w0 ρ w a he hsz hs hfr K Q hK => g2 F w0 ρ w a he hsz hs hfr (wanted_run he ht hw hg) K Q hK⟩
        · next hw =>
          simp only [Option.some.injEq, Prod.mk.injEq] at h
          obtain ⟨rfl, rfl⟩ := h
          refine ⟨Nat.le_refl _, fun F w0 ρ w a he hsz hs hfr K Q hK => ?_⟩
          unfold wpOp
          simp only [hi, wanted_run he ht hw hg]
          rw [hd]
          exact hK ρ _ w (Ext.refl _ _ _) (he.put (Nat.lt_of_lt_of_le hN hsz) (undef_rep ρ)) (by simp [Act.put]) rfl hs
        · cases h
      · exact xBad_sound
    · exact xBad_sound
  · next j want hd hg =>
    split
    · next t ht =>
      intro call hcall e s e' s' h
      unfold Am.h at h
      split at h
      · next hw =>
        obtain ⟨g1, g2⟩ := n_sound (N := N) hi hd (opOr_sound x.op) call hcall e s e' s' h
        exact ⟨g1, fun F w0 ρ w a he hsz hs hfr K Q hK => g2 F w0 ρ w a he hsz hs hfr (wanted_run he ht hw hg) K Q hK⟩
      · next hw =>
        simp only [Option.some.injEq, Prod.mk.injEq] at h
        obtain ⟨rfl, rfl⟩ := h
        refine ⟨Nat.le_refl _, fun F w0 ρ w a he hsz hs hfr K Q hK => ?_⟩
        unfold wpOp
        simp only [hi, wanted_run he ht hw hg]
        rw [hd]
        exact hK ρ _ w (Ext.refl _ _ _) he rfl rfl hs
      · cases h
    · exact xBad_sound

/-! ### A region in the text's order -/
theorem opsF_nil (call : Call) (e : Tr AV) (s : St) : opsF [] call e s = some (e, s) := rfl
theorem opsF_cons (x : FO) (l : List FO) (call : Call) (e : Tr AV) (s : St) : opsF (x :: l) call e s = match x call e s with
    | some (e', s') => opsF l call e' s'
    | none => none := rfl

theorem ops_sound {N : Nat} {ops : Array Oper} {Q : Exit → Act → World → Prop} {call : Call} (hcall : CallOk P call) : ∀ (m k : Nat) (e : Tr AV) (s : St) (e' : Tr AV) (s' : St), ops.size = k + m → opsF ((ops.toList.drop k).map (trOper P N ops)) call e s = some (e', s') →
    s.next ≤ s'.next ∧ ∀ (F : Fr) (w0 : World) (ρ : Rho) (w : World) (a : Act), EnvRep ρ e a.tmps → N ≤ a.tmps.size → Sat F w0 ρ s.heap.get w → Fresh ρ s.next s'.next →
      (∀ ρ' a' w', Ext ρ ρ' s.next s'.next → EnvRep ρ' e' a'.tmps → a'.tmps.size = a.tmps.size → a'.defers = a.defers → Sat F w0 ρ' s'.heap.get w' → Q .normal a' w') → wpOps P ops Q (List.range' k m) a w
  | 0, k, e, s, e', s', hk, h => by
    rw [List.drop_eq_nil_of_le (by simp; omega), List.map_nil, opsF_nil] at h
    simp only [Option.some.injEq, Prod.mk.injEq] at h
    obtain ⟨rfl, rfl⟩ := h
    refine ⟨Nat.le_refl _, fun F w0 ρ w a he hsz hs hfr hK => ?_⟩
    simp only [List.range'_zero, wpOps]
    exact hK ρ a w (Ext.refl _ _ _) he rfl rfl hs
  | m + 1, k, e, s, e', s', hk, h => by
    have hlt : k < ops.toList.length := by simp; omega
    have hlt' : k < ops.size := by omega
    rw [List.drop_eq_getElem_cons hlt, List.map_cons, opsF_cons] at h
    split at h
    · next e1 s1 h1 =>
      have hi : ops[k]? = some (ops.toList[k]) := by rw [Array.getElem?_eq_getElem hlt']; simp
      obtain ⟨g1, g2⟩ := trOper_sound (P := P) (N := N) hi call hcall e s e1 s1 h1
      obtain ⟨g3, g4⟩ := ops_sound hcall m (k + 1) e1 s1 e' s' (by omega) h
      refine ⟨by omega, fun F w0 ρ w a he hsz hs hfr hK => ?_⟩
      rw [List.range'_succ, wpOps_cons]
      refine g2 F w0 ρ w a he hsz hs (hfr.left g3) _ Q fun ρ1 a1 w1 q1 q2 q3 q4 q5 => ?_
      refine g4 F w0 ρ1 w1 a1 q2 (by omega) q5 (hfr.right g1 q1) fun ρ2 a2 w2 r1 r2 r3 r4 r5 => ?_
      exact hK ρ2 a2 w2 (q1.trans r1 g1 g3) r2 (by omega) (by rw [r4, q4]) r5
    · cases h

/-! ### Code -/
/-- What code comes to. -/
def CRp (F : Fr) (w0 : World) (ρ : Rho) (n : Nat) (a : Act) (c : CR) (Q : Exit → Act → World → Prop) : Prop :=
  match c with
  | .norm e s => ∀ ρ' a' w', Ext ρ ρ' n s.next → EnvRep ρ' e a'.tmps → a'.tmps.size = a.tmps.size → a'.defers = a.defers → Sat F w0 ρ' s.heap.get w' → Q .normal a' w'
  | .exit id e s => ∀ ρ' a' w', Ext ρ ρ' n s.next → EnvRep ρ' e a'.tmps → a'.tmps.size = a.tmps.size → a'.defers = a.defers → Sat F w0 ρ' s.heap.get w' → Q (.exit id) a' w'
  | .ret e s => ∀ ρ' a' w', Ext ρ ρ' n s.next → EnvRep ρ' e a'.tmps → a'.tmps.size = a.tmps.size → a'.defers = a.defers → Sat F w0 ρ' s.heap.get w' → Q .ret a' w'
def CR.next : CR → Nat
  | .norm _ s => s.next
  | .exit _ _ s => s.next
  | .ret _ s => s.next
def FcSound (P : Program) (N : Nat) (f : FC) (c : Code) : Prop :=
  ∀ call, CallOk P call → ∀ e s r, f call e s = some r → s.next ≤ r.next ∧
    ∀ (F : Fr) (w0 : World) (ρ : Rho) (w : World) (a : Act), EnvRep ρ e a.tmps → N ≤ a.tmps.size → Sat F w0 ρ s.heap.get w → Fresh ρ s.next r.next →
    ∀ Q, CRp F w0 ρ s.next a r Q → c.wp P Q a w

theorem CRp.weak {F : Fr} {w0 : World} {ρ ρ1 : Rho} {n m : Nat} {a a1 : Act} {c : CR} {Q : Exit → Act → World → Prop} (h : CRp F w0 ρ n a c Q) (hx : Ext ρ ρ1 n m) (hn : n ≤ m) (hm : m ≤ c.next) (hs : a1.tmps.size = a.tmps.size) (hd : a1.defers = a.defers) : CRp F w0 ρ1 m a1 c Q := by
  cases c <;> exact fun ρ' a' w' q1 q2 q3 q4 q5 => h ρ' a' w' (hx.trans q1 hn hm) q2 (by omega) (by rw [q4, hd]) q5

theorem sound_bad {N : Nat} {c : Code} : FcSound P N cBad c := fun call _ e s r h => by simp [cBad] at h

theorem sound_skip {N : Nat} : FcSound P N cSkip .skip := fun call _ e s r h => by
  simp only [cSkip, Option.some.injEq] at h
  subst h
  exact ⟨Nat.le_refl _, fun F w0 ρ w a he hsz hs hf Q hQ => wp_skip (hQ ρ a w (Ext.refl _ _ _) he rfl rfl hs)⟩
theorem sound_exit {N id : Nat} : FcSound P N (cExit id) (.exit id) := fun call _ e s r h => by
  simp only [cExit, Option.some.injEq] at h
  subst h
  exact ⟨Nat.le_refl _, fun F w0 ρ w a he hsz hs hf Q hQ => wp_exit (hQ ρ a w (Ext.refl _ _ _) he rfl rfl hs)⟩
theorem sound_ret {N : Nat} : FcSound P N cRet .ret := fun call _ e s r h => by
  simp only [cRet, Option.some.injEq] at h
  subst h
  exact ⟨Nat.le_refl _, fun F w0 ρ w a he hsz hs hf Q hQ => wp_ret (hQ ρ a w (Ext.refl _ _ _) he rfl rfl hs)⟩
theorem sound_reg {N id : Nat} {ops : Array Oper} : FcSound P N (cReg (ops.toList.map (trOper P N ops))) (.region id ops false) := fun call hcall e s r h => by
  unfold cReg at h
  split at h
  · next e' s' h1 =>
    simp only [Option.some.injEq] at h
    subst h
    have h2 : opsF ((ops.toList.drop 0).map (trOper P N ops)) call e s = some (e', s') := h1
    obtain ⟨g1, _⟩ := ops_sound (P := P) (Q := fun _ _ _ => True) hcall ops.size 0 e s e' s' (by omega) h2
    refine ⟨g1, fun F w0 ρ w a he hsz hs hf Q hQ => ?_⟩
    obtain ⟨_, g2⟩ := ops_sound (P := P) (Q := Q) hcall ops.size 0 e s e' s' (by omega) h2
    refine wp_region ?_
    rw [List.range_eq_range']
    exact g2 F w0 ρ w a he hsz hs hf hQ
  · cases h
theorem sound_seq {N : Nat} {f g : FC} {c d : Code} (hf : FcSound P N f c) (hg : FcSound P N g d) : FcSound P N (cSeq f g) (.seq c d) := fun call hcall e s r h => by
  unfold cSeq at h
  split at h
  · next x hx =>
    obtain ⟨g1, g2⟩ := hf call hcall e s _ hx
    split at h
    · next e' s' =>
      obtain ⟨g3, g4⟩ := hg call hcall e' s' r h
      have g1' : s.next ≤ s'.next := g1
      refine ⟨Nat.le_trans g1 g3, fun F w0 ρ w a he hsz hs hfr Q hQ => wp_seq ?_⟩
      refine g2 F w0 ρ w a he hsz hs (hfr.left g3) _ fun ρ1 a1 w1 q1 q2 q3 q4 q5 => ?_
      exact g4 F w0 ρ1 w1 a1 q2 (by omega) q5 (hfr.right g1' q1) Q (hQ.weak q1 g1' g3 q3 q4)
    · next i e' s' =>
      simp only [Option.some.injEq] at h; subst h
      exact ⟨g1, fun F w0 ρ w a he hsz hs hfr Q hQ => wp_seq (g2 F w0 ρ w a he hsz hs hfr _ hQ)⟩
    · next e' s' =>
      simp only [Option.some.injEq] at h; subst h
      exact ⟨g1, fun F w0 ρ w a he hsz hs hfr Q hQ => wp_seq (g2 F w0 ρ w a he hsz hs hfr _ hQ)⟩
  · cases h
theorem sound_cond {N : Nat} {x : Operand} {y : AX} {f g : FC} {c d : Code} (hx : trX x = some y) (hf : FcSound P N f c) (hg : FcSound P N g d) : FcSound P N (cCond y f g) (.cond x c d) := fun call hcall e s r h => by
  unfold cCond at h
  split at h
  · next v hv =>
    split at h
    · next t =>
      split at h
      · obtain ⟨g1, g2⟩ := hf call hcall e s r h
        refine ⟨g1, fun F w0 ρ w a he hsz hs hfr Q hQ => wp_cond (t := true) ?_ (g2 F w0 ρ w a he hsz hs hfr Q hQ)⟩
        have := he.x hx hv
        simpa only [Rep] using this
      · obtain ⟨g1, g2⟩ := hg call hcall e s r h
        refine ⟨g1, fun F w0 ρ w a he hsz hs hfr Q hQ => wp_cond (t := false) ?_ (g2 F w0 ρ w a he hsz hs hfr Q hQ)⟩
        have := he.x hx hv
        simpa only [Rep] using this
    · cases h
  · cases h
theorem sound_block {N id : Nat} {f : FC} {c : Code} (hf : FcSound P N f c) : FcSound P N (cBlock id f) (.block id c) := fun call hcall e s r h => by
  unfold cBlock at h
  split at h
  · next x hx =>
    obtain ⟨g1, g2⟩ := hf call hcall e s _ hx
    split at h
    · next e' s' =>
      simp only [Option.some.injEq] at h; subst h
      exact ⟨g1, fun F w0 ρ w a he hsz hs hfr Q hQ => wp_block (g2 F w0 ρ w a he hsz hs hfr _ hQ)⟩
    · next j e' s' =>
      cases hj : Nat.beq j id with
      | true =>
        simp only [hj, cond_true, Option.some.injEq] at h; subst h
        refine ⟨g1, fun F w0 ρ w a he hsz hs hfr Q hQ => wp_block (g2 F w0 ρ w a he hsz hs hfr _ fun ρ' a' w' q1 q2 q3 q4 q5 => ?_)⟩
        simp only [Exit.inBlock, Nat.eq_of_beq_eq_true hj, if_true]
        exact hQ ρ' a' w' q1 q2 q3 q4 q5
      | false =>
        simp only [hj, cond_false, Option.some.injEq] at h; subst h
        refine ⟨g1, fun F w0 ρ w a he hsz hs hfr Q hQ => wp_block (g2 F w0 ρ w a he hsz hs hfr _ fun ρ' a' w' q1 q2 q3 q4 q5 => ?_)⟩
        simp only [Exit.inBlock, Nat.ne_of_beq_eq_false hj, if_false]
        exact hQ ρ' a' w' q1 q2 q3 q4 q5
    · next e' s' =>
      simp only [Option.some.injEq] at h; subst h
      exact ⟨g1, fun F w0 ρ w a he hsz hs hfr Q hQ => wp_block (g2 F w0 ρ w a he hsz hs hfr _ hQ)⟩
  · cases h
theorem loopF_succ (f : Tr AV → St → Option CR) (n : Nat) (e : Tr AV) (s : St) : loopF f (n + 1) e s = match f e s with
    | some c => match c with
      | .norm e' s' => loopF f n e' s'
      | .exit i e' s' => some (.exit i e' s')
      | .ret e' s' => some (.ret e' s')
    | none => none := rfl
theorem sound_rounds {N : Nat} {f : FC} {c : Code} (hf : FcSound P N f c) {call : Call} (hcall : CallOk P call) : ∀ (m : Nat) (e : Tr AV) (s : St) (r : CR), loopF (f call) m e s = some r → s.next ≤ r.next ∧
    ∀ (F : Fr) (w0 : World) (ρ : Rho) (w : World) (a : Act), EnvRep ρ e a.tmps → N ≤ a.tmps.size → Sat F w0 ρ s.heap.get w → Fresh ρ s.next r.next →
    ∀ Q, CRp F w0 ρ s.next a r Q → Code.rounds P c Q m a w
  | 0, e, s, r, h => by cases h
  | m + 1, e, s, r, h => by
    rw [loopF_succ] at h
    split at h
    · next x hx =>
      obtain ⟨g1, g2⟩ := hf call hcall e s _ hx
      split at h
      · next e' s' =>
        obtain ⟨g3, g4⟩ := sound_rounds hf hcall m e' s' r h
        have g1' : s.next ≤ s'.next := g1
        refine ⟨Nat.le_trans g1 g3, fun F w0 ρ w a he hsz hs hfr Q hQ => ?_⟩
        rw [rounds_succ]
        refine g2 F w0 ρ w a he hsz hs (hfr.left g3) _ fun ρ1 a1 w1 q1 q2 q3 q4 q5 => ?_
        exact g4 F w0 ρ1 w1 a1 q2 (by omega) q5 (hfr.right g1' q1) Q (hQ.weak q1 g1' g3 q3 q4)
      · next i e' s' =>
        simp only [Option.some.injEq] at h; subst h
        exact ⟨g1, fun F w0 ρ w a he hsz hs hfr Q hQ => g2 F w0 ρ w a he hsz hs hfr _ hQ⟩
      · next e' s' =>
        simp only [Option.some.injEq] at h; subst h
        exact ⟨g1, fun F w0 ρ w a he hsz hs hfr Q hQ => g2 F w0 ρ w a he hsz hs hfr _ hQ⟩
    · cases h
theorem sound_loop {N : Nat} {f : FC} {c : Code} (hf : FcSound P N f c) : FcSound P N (cLoop f) (.loop c) := fun call hcall e s r h => by
  obtain ⟨g1, g2⟩ := sound_rounds hf hcall 100000 e s r h
  exact ⟨g1, fun F w0 ρ w a he hsz hs hfr Q hQ => wp_loop_rounds 100000 (g2 F w0 ρ w a he hsz hs hfr Q hQ)⟩

/-! ### A function -/
theorem evRes_nil (e : Tr AV) (s : St) : evRes e s [] = some [] := rfl
theorem args_get : ∀ (l : List AV) (i : Nat) (e : Tr AV) (j : Nat), (argsEnv l i e).get j = if i ≤ j ∧ j < i + l.length then l[j - i]? else e.get j
  | [], i, e, j => by
    simp only [List.length_nil, Nat.add_zero]
    rw [if_neg (by omega)]; rfl
  | v :: l, i, e, j => by
    have h1 : argsEnv (v :: l) i e = argsEnv l (i + 1) (e.put (some v) i) := rfl
    rw [h1, args_get l, Tr.get_put]
    simp only [List.length_cons]
    by_cases c1 : i + 1 ≤ j ∧ j < i + 1 + l.length
    · rw [if_pos c1, if_pos (by omega)]
      have : j - i = (j - (i + 1)) + 1 := by omega
      rw [this, List.getElem?_cons_succ]
    · rw [if_neg c1]
      by_cases c2 : j = i
      · subst c2
        rw [if_pos rfl, if_pos (by omega)]
        simp
      · rw [if_neg c2, if_neg (by omega)]
theorem args_rep {ρ : Rho} {l : List AV} {cvs : List Value} (h : RepL ρ l cvs) (xs : Array Value) : EnvRep ρ (argsEnv l 0 .leaf) ((⟨cvs⟩ : Array Value) ++ xs) := fun t v ht => by
  rw [args_get] at ht
  split at ht
  · next hlt =>
    obtain ⟨u, h1, h2⟩ := h.get ht
    refine ⟨u, ?_, h2⟩
    have hl := h.length
    simp only [Nat.sub_zero] at h1
    have h3 : (⟨cvs⟩ : Array Value)[t]? = some u := by simpa using h1
    rw [Array.getElem?_append_left (by simp; omega)]
    exact h3
  · cases ht

theorem getD_rep {ρ : Rho} {e : Tr AV} {tmps : Array Value} (he : EnvRep ρ e tmps) {t : Nat} {v : AV} (h : e.get t = some v) : Rep ρ v (tmps.getD t undef) := by
  obtain ⟨u, h1, h2⟩ := he t v h
  have : tmps.getD t undef = u := by
    rw [Array.getD_eq_getD_getElem?, h1]; rfl
  rw [this]; exact h2

/-- One result. -/
noncomputable def resOf (e : Tr AV) (s : St) (r : ARes) : Option AV := match r with
      | .tmp t => e.get t
      | .cell1 t => match e.get t with
        | some (.ptr o off) => s.load1 o off
        | _ => none
      | .cellN t n => match e.get t with
        | some (.ptr o off) => match s.load o off n with
          | some cs => some (.agg cs)
          | none => none
        | _ => none
theorem evRes_cons (e : Tr AV) (s : St) (r : ARes) (l : List ARes) : evRes e s (r :: l) = match resOf e s r with
    | some v => consO v (evRes e s l)
    | none => none := rfl

def resM (tmps : Array Value) : ResultVar → Sem Value
    | .tmp t => pure (tmps.getD t undef)
    | .cell a t => do loadVar t (← asAddr (tmps.getD a undef))

theorem res_run {F : Fr} {w0 : World} {ρ : Rho} {e : Tr AV} {s : St} {tmps : Array Value} {w : World} (he : EnvRep ρ e tmps) (hs : Sat F w0 ρ s.heap.get w) : ∀ {rs : List ResultVar} {as : List ARes} {vs : List AV}, trRes P rs = some as → evRes e s as = some vs →
    ∃ cvs, (rs.mapM (resM tmps)).run P w = .ok cvs w ∧ RepL ρ vs cvs
  | [], as, vs, h1, h2 => by
    simp only [trRes, Option.some.injEq] at h1
    subst h1
    rw [evRes_nil] at h2
    simp only [Option.some.injEq] at h2
    subst h2
    exact ⟨[], by simp, RepL.nil ρ⟩
  | r :: rs, as, vs, h1, h2 => by
    have key : ∀ (x : ARes) (l : List ARes), trRes P rs = some l → evRes e s (x :: l) = some vs → (∀ v, resOf e s x = some v → ∃ cv, (resM tmps r).run P w = .ok cv w ∧ Rep ρ v cv) → ∃ cvs, ((r :: rs).mapM (resM tmps)).run P w = .ok cvs w ∧ RepL ρ vs cvs := by
      intro x l hl hev hx
      rw [evRes_cons] at hev
      split at hev
      · next v hv =>
        obtain ⟨l', g1, rfl⟩ := consO_some hev
        obtain ⟨cvs, g2, g3⟩ := res_run he hs hl g1
        obtain ⟨cv, g4, g5⟩ := hx v hv
        exact ⟨cv :: cvs, by simp [g4, g2], RepL.cons g5 g3⟩
      · cases hev
    cases r with
    | tmp t =>
      simp only [trRes, Option.map_eq_some_iff] at h1
      obtain ⟨l, hl, rfl⟩ := h1
      refine key _ l hl h2 fun v hv => ⟨tmps.getD t undef, by simp [resM], getD_rep he hv⟩
    | cell a t =>
      simp only [trRes] at h1
      split at h1
      · next k l hagg hsz hl =>
        simp only [Option.some.injEq] at h1; subst h1
        refine key _ l hl h2 fun v hv => ?_
        simp only [resOf] at hv
        split at hv
        · next o off ho =>
          split at hv
          · next cs hcs =>
            simp only [Option.some.injEq] at hv; subst hv
            have hb := getD_rep he ho
            simp only [Rep] at hb
            obtain ⟨lc, hlc, hb⟩ := hb
            obtain ⟨cs', ro, h3, h4⟩ := load_some hcs
            obtain ⟨us, h5, _, h6, _⟩ := hs.cells (P := P) h3 hlc h4
            refine ⟨.agg ⟨us⟩, ?_, by simp only [Rep]; exact ⟨us, rfl, h5⟩⟩
            simp [resM, hb, asAddr, loadVar, agg_run hagg, size_run hsz, h6]
          · cases hv
        · cases hv
      · next l hagg hsz hl =>
        simp only [Option.some.injEq] at h1; subst h1
        refine key _ l hl h2 fun v hv => ?_
        simp only [resOf] at hv
        split at hv
        · next o off ho =>
          have hb := getD_rep he ho
          simp only [Rep] at hb
          obtain ⟨lc, hlc, hb⟩ := hb
          obtain ⟨cs', ro, h3, h4⟩ := load1_some hv
          obtain ⟨u, h5, h6⟩ := hs.cell h3 hlc h4
          refine ⟨u, ?_, h6⟩
          simp [resM, hb, asAddr, loadVar, agg_run hagg, h5]
        · cases hv
      · cases h1

theorem results_run {fn : Func} {F : Fr} {w0 : World} {ρ : Rho} {e : Tr AV} {s : St} {tmps : Array Value} {w : World} (he : EnvRep ρ e tmps) (hs : Sat F w0 ρ s.heap.get w) {as : List ARes} {vs : List AV} (h1 : trRes P fn.results.toList = some as) (h2 : evRes e s as = some vs) :
    ∃ cv, (results fn tmps).run P w = .ok cv w ∧ Rep ρ (pack vs) cv := by
  obtain ⟨cvs, g1, g2⟩ := res_run (P := P) he hs h1 h2
  have hm : (fn.results.mapM (resM tmps)).run P w = .ok ⟨cvs⟩ w := by
    rw [Array.mapM_eq_mapM_toList]
    simp [g1]
  refine ⟨if h : (⟨cvs⟩ : Array Value).size = 1 then (⟨cvs⟩ : Array Value)[0] else .tuple ⟨cvs⟩, ?_, ?_⟩
  · have h0 : results fn tmps = (fn.results.mapM (resM tmps) >>= fun vs => pure (if h : vs.size = 1 then vs[0] else .tuple vs)) := by
      unfold results
      congr 1
    rw [h0]
    simp [hm]
  · have hl := g2.length
    cases vs with
    | nil =>
      cases cvs with
      | nil => simp only [pack, Rep]; exact ⟨[], by simp, RepL.nil ρ⟩
      | cons _ _ => simp at hl
    | cons v vs =>
      cases cvs with
      | nil => simp at hl
      | cons c cvs =>
        cases vs with
        | nil =>
          cases cvs with
          | nil =>
            simp only [RepL] at g2
            obtain ⟨v', r', q1, q2, rfl⟩ := g2
            injection q1 with q1 _; subst q1
            simpa [pack] using q2
          | cons _ _ => simp at hl
        | cons v' vs =>
          cases cvs with
          | nil => simp at hl
          | cons c' cvs =>
            simp only [pack, Rep]
            exact ⟨_, by simp, g2⟩

/-- A function of the table that is borne: what it answers, the program's does. -/
def FnSound (P : Program) (f : FuncId) (F : FFn) : Prop :=
  ∀ call, CallOk P call → ∀ vs s v s', runF (some F) call vs s = some (v, s') → s.next ≤ s'.next ∧ Callable P f ∧
    ∀ (W : Fr) (w0 : World) (ρ : Rho) (w : World) (cvs : List Value), RepL ρ vs cvs → Sat W w0 ρ s.heap.get w → Fresh ρ s.next s'.next →
      Calls P f ⟨cvs⟩ w fun e w' => ∃ ρ' cv, e = .returned cv ∧ Ext ρ ρ' s.next s'.next ∧ Rep ρ' v cv ∧ Sat W w0 ρ' s'.heap.get w'

/-- What the regions that draw their order must meet. -/
def DrawSound (P : Program) : Prop := ∀ N id ops, drawOk P N ops = true → FcSound P N (cDraw (drawOps P N ops)) (.region id ops true)

theorem trCode_sound (hD : DrawSound P) (N : Nat) : ∀ c : Code, FcSound P N (trCode P N c) c
  | .skip => sound_skip
  | .region id ops false => by unfold trCode; exact sound_reg
  | .region id ops true => by
    unfold trCode
    split
    · next h => exact hD N id ops h
    · exact sound_bad
  | .seq a b => by unfold trCode; exact sound_seq (trCode_sound hD N a) (trCode_sound hD N b)
  | .cond x a b => by
    unfold trCode
    split
    · next y hy => exact sound_cond hy (trCode_sound hD N a) (trCode_sound hD N b)
    · exact sound_bad
  | .block id c => by unfold trCode; exact sound_block (trCode_sound hD N c)
  | .loop c => by unfold trCode; exact sound_loop (trCode_sound hD N c)
  | .exit id => by unfold trCode; exact sound_exit
  | .ret => by unfold trCode; exact sound_ret
  | .goto l => by unfold trCode; exact sound_bad
  | .label l => by unfold trCode; exact sound_bad
  | .rangeFunc .. => by unfold trCode; exact sound_bad
  | .scope _ => by unfold trCode; exact sound_bad
  | .refuse w => sound_bad

theorem fn_sound {f : FuncId} {G : Func} {F : FFn} {c : Code} (hG : P.funcs[f]? = some G) (hc : G.body = some c) (hrs : trRes P G.results.toList = some F.results) (hn : G.name ≠ "runtime.NumGoroutine") (hF : FcSound P G.ntmps F.body c) : FnSound P f F := by
  intro call hcall vs s v s' h
  have hcb : Callable P f := ⟨G, hG, by rw [hc]; rfl, hn⟩
  simp only [runF, finF] at h
  split at h
  · next r hr =>
    obtain ⟨g1, g2⟩ := hF call hcall _ s r hr
    have key : ∀ (e' : Tr AV) (s1 : St), r.next = s1.next → (match evRes e' s1 F.results with
        | some vs => some (pack vs, s1)
        | none => none) = some (v, s') →
        (∀ (W : Fr) (w0 : World) (ρ : Rho) (a : Act) (Q : Exit → Act → World → Prop), (∀ ρ' a' w', Ext ρ ρ' s.next s'.next → EnvRep ρ' e' a'.tmps → a'.tmps.size = a.tmps.size → a'.defers = a.defers → Sat W w0 ρ' s1.heap.get w' → Q .normal a' w' ∧ Q .ret a' w') → CRp W w0 ρ s.next a r Q) →
        s.next ≤ s'.next ∧ Callable P f ∧ ∀ (W : Fr) (w0 : World) (ρ : Rho) (w : World) (cvs : List Value), RepL ρ vs cvs → Sat W w0 ρ s.heap.get w → Fresh ρ s.next s'.next →
  Calls P f ⟨cvs⟩ w fun e w' => ∃ ρ' cv, e = .returned cv ∧ Ext ρ ρ' s.next s'.next ∧ Rep ρ' v cv ∧ Sat W w0 ρ' s'.heap.get w' := by
      intro e' s1 hnx hev hC
      split at hev
      · next us hus =>
        simp only [Option.some.injEq, Prod.mk.injEq] at hev
        obtain ⟨rfl, rfl⟩ := hev
        refine ⟨by omega, hcb, fun W w0 ρ w cvs hv hs hfr => ?_⟩
        refine calls_of_wp hG hc (g2 W w0 ρ w _ (args_rep hv _) ?_ hs (by rw [hnx]; exact hfr) _ (hC W w0 ρ _ _ fun ρ' a' w' q1 q2 q3 q4 q5 => ?_))
        · simp only [Array.size_append, Array.size_replicate]; omega
        · obtain ⟨cv, r1, r2⟩ := results_run (fn := G) (P := P) q2 q5 hrs hus
          exact ⟨⟨q4, cv, r1, ρ', cv, rfl, q1, r2, q5⟩, ⟨q4, cv, r1, ρ', cv, rfl, q1, r2, q5⟩⟩
      · cases hev
    split at h
    · next e' s1 =>
      refine key e' s1 rfl h fun W w0 ρ a Q hQ ρ' a' w' q1 q2 q3 q4 q5 => ?_
      refine (hQ ρ' a' w' ?_ q2 q3 q4 q5).1
      split at h
      · simp only [Option.some.injEq, Prod.mk.injEq] at h; obtain ⟨_, rfl⟩ := h; exact q1
      · cases h
    · next e' s1 =>
      refine key e' s1 rfl h fun W w0 ρ a Q hQ ρ' a' w' q1 q2 q3 q4 q5 => ?_
      refine (hQ ρ' a' w' ?_ q2 q3 q4 q5).2
      split at h
      · simp only [Option.some.injEq, Prod.mk.injEq] at h; obtain ⟨_, rfl⟩ := h; exact q1
      · cases h
    · cases h
  · cases h

theorem trFn_sound (hD : DrawSound P) {f : FuncId} {G : Func} {F : FFn} (hG : P.funcs[f]? = some G) (hF : trFn P G = some F) : FnSound P f F := by
  unfold trFn at hF
  split at hF
  · next c rs hc hrs =>
    split at hF
    · cases hF
    · next hn =>
      simp only [Option.some.injEq] at hF
      subst hF
      exact fn_sound hG hc hrs hn (trCode_sound hD G.ntmps c)
  · cases hF

/-- A table that is borne. -/
def TabOk (P : Program) (tab : Tr FFn) : Prop := ∀ f F, tab.get f = some F → FnSound P f F
theorem evF_zero (tab : Tr FFn) (f : Nat) (vs : List AV) (s : St) : evF tab 0 f vs s = none := rfl
theorem evF_succ (tab : Tr FFn) (n f : Nat) (vs : List AV) (s : St) : evF tab (n + 1) f vs s = runF (tab.get f) (evF tab n) vs s := rfl
theorem evF_ok {tab : Tr FFn} (h : TabOk P tab) : ∀ n, CallOk P (evF tab n)
  | 0, f, vs, s, v, s', hv => by rw [evF_zero] at hv; cases hv
  | n + 1, f, vs, s, v, s', hv => by
    rw [evF_succ] at hv
    cases hF : tab.get f with
    | none => rw [hF] at hv; cases hv
    | some F => rw [hF] at hv; exact h f F hF _ (evF_ok h n) vs s v s' hv
end
end Go.Am
