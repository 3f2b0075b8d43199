/- Regions that draw their order: each step's own part of the heap, and which steps may change places. -/
import Derived.Test.YtgolgogmhcgecaaGreatAmFrame
namespace Go.Am
set_option linter.unusedVariables false
set_option linter.unusedSimpArgs false

section
variable {P : Program} {ops : Array Oper}

/-! ### One operation, guarded -/
def GSound (P : Program) (ops : Array Oper) (i : Nat) (dst : Option Nat) (f : FOp) : Prop :=
  ∀ call, CallOk P call → ∀ e s v s', f call e s = some (v, s') → s.next ≤ s'.next ∧
    ∀ (F : Fr) (w0 : World) (ρ : Rho) (w : World) (a : Act), EnvRep ρ e a.tmps → Sat F w0 ρ s.heap.get w → Fresh ρ s.next s'.next →
    ∀ (K : Act → World → Prop) (Q : Exit → Act → World → Prop), (∀ ρ' cv w', Ext ρ ρ' s.next s'.next → Rep ρ' v cv → Sat F w0 ρ' s'.heap.get w' → K (a.put dst cv) w') → wpOp P ops Q i K a w

theorem gsound_bad (i : Nat) (dst : Option Nat) : GSound P ops i dst fBad := fun call _ e s v s' h => by simp [fBad] at h

theorem gsound_of {i : Nat} {x : Oper} (hi : ops[i]? = some x) {f : FOp} (hf : OpSound P f x.op) (hg : x.guard = none) : GSound P ops i x.dst f := by
  intro call hcall e s v s' h
  obtain ⟨g1, g2⟩ := hf call hcall e s v s' h
  refine ⟨g1, fun F w0 ρ w a he hs hfr K Q hK => ?_⟩
  unfold wpOp
  have hw : Region.wanted x (yielded ops a.tmps) = true := by simp [Region.wanted, hg]
  simp only [hi, hw, if_true]
  exact .inl (g2 F w0 ρ w a he hs hfr x K Q rfl hK)
theorem gsound_guard {i : Nat} {x : Oper} (hi : ops[i]? = some x) {f : FOp} (hf : OpSound P f x.op) {j t : Nat} {w : Bool} (hg : x.guard = some (j, w)) (ht : guardTmp ops j = some t) : GSound P ops i x.dst (gF f t w) := by
  intro call hcall e s v s' h
  unfold gF at h
  split at h
  · next hw =>
    obtain ⟨g1, g2⟩ := hf call hcall e s v s' h
    refine ⟨g1, fun F w0 ρ w a he hs hfr K Q hK => ?_⟩
    unfold wpOp
    simp only [hi, wanted_run he ht hw hg, if_true]
    exact .inl (g2 F w0 ρ w a he hs hfr x K Q rfl hK)
  · next hw =>
    simp only [Option.some.injEq, Prod.mk.injEq] at h
    obtain ⟨rfl, rfl⟩ := h
    refine ⟨Nat.le_refl _, fun F w0 ρ w a he hs hfr K Q hK => ?_⟩
    unfold wpOp
    simp only [hi, wanted_run he ht hw hg]
    exact hK ρ _ w (Ext.refl _ _ _) (undef_rep ρ) hs
  · cases h
theorem trG_sound {i : Nat} {x : Oper} (hi : ops[i]? = some x) : GSound P ops i x.dst (trG P ops x) := by
  unfold trG
  split
  · next hg => exact gsound_of hi (opOr_sound x.op) hg
  · next j w hg =>
    split
    · next t ht => exact gsound_guard hi (opOr_sound x.op) hg ht
    · exact gsound_bad _ _

theorem wpOp_exists {i : Nat} {K : Act → World → Prop} {a : Act} {w : World} (h : wpOp P ops (fun _ _ _ => False) i K a w) : ∃ a' w', K a' w' := by
  unfold wpOp at h
  split at h
  · exact ⟨_, _, h⟩
  · next o ho =>
    split at h
    · rcases h with h | ⟨_, _, _, h⟩
      · unfold Oper.wp at h
        generalize (execOp a.eval o).run P w = r at h
        cases r with
        | ok n w' =>
          cases n with
          | value v => exact ⟨_, _, h⟩
          | skip => exact ⟨_, _, h⟩
          | defer d => exact ⟨_, _, h⟩
          | enter f args =>
            obtain ⟨e, w', fr, hR, _⟩ := h []
            cases e with
            | returned v => exact ⟨_, _, hR⟩
            | panicked c => exact hR.elim
            | outgrown => obtain ⟨_, _, hR⟩ := hR; exact hR.elim
          | row row args =>
            obtain ⟨v, w', hR, _⟩ := h default []
            exact ⟨_, _, hR⟩
          | _ => exact h.elim
        | halt x w' => cases x <;> exact h.elim
      · exact h.elim
    · exact ⟨_, _, h⟩

/-! ### Steps -/
inductive RK where
  | pure
  | rd (o off : Nat) (vs : List AV)
  | alloc (x : AObj)
  | wr (s s' : Heap)
structure SD where
  i : Nat
  dst : Option Nat
  e : Tr AV
  n : Nat
  m : Nat
  v : AV
  k : RK
def hasAt (h : Heap) (o off : Nat) (vs : List AV) : Prop := ∃ cs ro, h o = some (.cells cs ro) ∧ rdN cs off vs.length = some vs
def RK.pre (k : RK) (h : Heap) : Prop := match k with
  | .pure => True
  | .rd o off vs => hasAt h o off vs
  | .alloc _ => True
  | .wr s _ => ∀ o y, s o = some y → h o = some y
def SD.pre (x : SD) (env : Nat → Option AV) (h : Heap) : Prop := (∀ t v, x.e.get t = some v → env t = some v) ∧ x.k.pre h
def SD.env (x : SD) (env : Nat → Option AV) : Nat → Option AV := match x.dst with
  | some d => upd env d (some x.v)
  | none => env
def SD.heap (x : SD) (h : Heap) : Heap := match x.k with
  | .pure => h
  | .rd _ _ _ => h
  | .alloc y => upd h x.n (some y)
  | .wr s s' => fun o => match s o with
    | some _ => s' o
    | none => match s' o with
      | some y => some y
      | none => h o
def EnvRepF (ρ : Rho) (env : Nat → Option AV) (tmps : Array Value) : Prop := ∀ (t : Nat) v, env t = some v → ∃ u, tmps[t]? = some u ∧ Rep ρ v u
theorem EnvRepF.mono {ρ ρ' : Rho} {env : Nat → Option AV} {tmps : Array Value} (h : EnvRepF ρ env tmps) (hs : Sub ρ ρ') : EnvRepF ρ' env tmps := fun t a ht => let ⟨u, h1, h2⟩ := h t a ht; ⟨u, h1, h2.mono hs⟩

def SDSound (P : Program) (ops : Array Oper) (N : Nat) (x : SD) : Prop :=
  x.n ≤ x.m ∧ ∀ (F : Fr) (w0 : World) (ρ : Rho) (w : World) (a : Act) (env : Nat → Option AV) (h : Heap), EnvRepF ρ env a.tmps → N ≤ a.tmps.size → x.pre env h → Sat F w0 ρ h w → Fresh ρ x.n x.m →
    ∀ (K : Act → World → Prop) (Q : Exit → Act → World → Prop), (∀ ρ' a' w', Ext ρ ρ' x.n x.m → EnvRepF ρ' (x.env env) a'.tmps → a'.tmps.size = a.tmps.size → a'.defers = a.defers → Sat F w0 ρ' (x.heap h) w' → K a' w') → wpOp P ops Q x.i K a w

theorem SD.put {x : SD} {N : Nat} (hN : ∀ d, x.dst = some d → d < N) {ρ ρ' : Rho} {a : Act} {env : Nat → Option AV} (he : EnvRepF ρ env a.tmps) (hsz : N ≤ a.tmps.size) (hs : Sub ρ ρ') {cv : Value} (hv : Rep ρ' x.v cv) :
    EnvRepF ρ' (x.env env) (a.put x.dst cv).tmps ∧ (a.put x.dst cv).tmps.size = a.tmps.size ∧ (a.put x.dst cv).defers = a.defers := by
  unfold SD.env
  cases hd : x.dst with
  | none => exact ⟨he.mono hs, rfl, rfl⟩
  | some d =>
    refine ⟨fun t v ht => ?_, by simp [Act.put], rfl⟩
    have hlt : d < a.tmps.size := Nat.lt_of_lt_of_le (hN d hd) hsz
    by_cases e1 : t = d
    · subst e1
      simp only [upd_same] at ht
      injection ht with ht; subst ht
      exact ⟨cv, by simp only [Act.put]; rw [Array.getElem?_setIfInBounds_self_of_lt hlt], hv⟩
    · simp only [upd_ne _ _ e1] at ht
      obtain ⟨u, h1, h2⟩ := he t v ht
      exact ⟨u, by simp only [Act.put]; rw [Array.getElem?_setIfInBounds_ne (fun q => e1 q.symm)]; exact h1, h2.mono hs⟩

theorem sd_pure {N i n : Nat} {dst : Option Nat} {f : FOp} (hf : GSound P ops i dst f) (hN : ∀ d, dst = some d → d < N) {call : Call} (hcall : CallOk P call) {e : Tr AV} {v : AV} {h' : Tr AObj}
    (hr : f call e ⟨.leaf, n⟩ = some (v, ⟨h', n⟩)) : SDSound P ops N ⟨i, dst, e, n, n, v, .pure⟩ := by
  obtain ⟨g1, g2⟩ := hf call hcall e _ v _ hr
  refine ⟨Nat.le_refl _, fun F w0 ρ w a env h he hsz hp hs hfr K Q hK => ?_⟩
  refine g2 (Fr.all w) w ρ w a (fun t v ht => he t v (hp.1 t v ht)) hs.emptied hfr K Q fun ρ' cv w' q1 q2 q3 => ?_
  obtain ⟨r1, r2, r3⟩ := SD.put (x := ⟨i, dst, e, n, n, v, .pure⟩) hN he hsz q1.sub q2
  exact hK ρ' _ w' q1 r1 r2 r3 (hs.back q1.sub q3)

theorem sd_rd {N i n o off : Nat} {dst : Option Nat} {f : FOp} (hf : GSound P ops i dst f) (hN : ∀ d, dst = some d → d < N) {call : Call} (hcall : CallOk P call) {e : Tr AV} {v : AV} {vs : List AV}
    (hr : ∀ s : St, s.load o off vs.length = some vs → f call e s = some (v, s)) : SDSound P ops N ⟨i, dst, e, n, n, v, .rd o off vs⟩ := by
  refine ⟨Nat.le_refl _, fun F w0 ρ w a env h he hsz hp hs hfr K Q hK => ?_⟩
  obtain ⟨hp1, cs, ro, hp2, hp3⟩ := hp
  have hg : (Tr.put (some (AObj.cells cs true)) .leaf o).get = upd (fun _ => none) o (some (.cells cs true)) := by
    rw [Tr.put_get]; rfl
  have hl : (⟨Tr.put (some (AObj.cells cs true)) .leaf o, n⟩ : St).load o off vs.length = some vs := by
    unfold St.load
    simp only [hg, upd_same]
    exact hp3
  obtain ⟨g1, g2⟩ := hf call hcall e _ v _ (hr ⟨Tr.put (some (AObj.cells cs true)) .leaf o, n⟩ hl)
  refine g2 (Fr.all w) w ρ w a (fun t v ht => he t v (hp1 t v ht)) (by rw [hg]; exact hs.froze hp2) hfr K Q fun ρ' cv w' q1 q2 q3 => ?_
  obtain ⟨r1, r2, r3⟩ := SD.put (x := ⟨i, dst, e, n, n, v, .rd o off vs⟩) hN he hsz q1.sub q2
  exact hK ρ' _ w' q1 r1 r2 r3 (hs.back q1.sub q3)

theorem sd_alloc {N i n : Nat} {dst : Option Nat} {f : FOp} (hf : GSound P ops i dst f) (hN : ∀ d, dst = some d → d < N) {call : Call} (hcall : CallOk P call) {e : Tr AV} {v : AV} {h' : Tr AObj} {x : AObj}
    (hr : f call e ⟨.leaf, n⟩ = some (v, ⟨h', n + 1⟩)) (hx : h'.get n = some x) : SDSound P ops N ⟨i, dst, e, n, n + 1, v, .alloc x⟩ := by
  obtain ⟨g1, g2⟩ := hf call hcall e _ v _ hr
  refine ⟨Nat.le_succ _, fun F w0 ρ w a env h he hsz hp hs hfr K Q hK => ?_⟩
  have hpart := hs.part (g := fun _ => none) (fun o x h => by cases h)
  refine g2 _ w ρ w a (fun t v ht => he t v (hp.1 t v ht)) hpart hfr K Q fun ρ' cv w' q1 q2 q3 => ?_
  obtain ⟨r1, r2, r3⟩ := SD.put (x := ⟨i, dst, e, n, n + 1, v, .alloc x⟩) hN he hsz q1.sub q2
  refine hK ρ' _ w' q1 r1 r2 r3 (hs.join (g := fun _ => none) (fun o x h => by cases h) q1.sub q3 fun o y hy => ?_)
  simp only [SD.heap] at hy
  by_cases e1 : o = n
  · subst e1; rw [upd_same] at hy; exact .inl (hx.trans hy)
  · rw [upd_ne _ _ e1] at hy; exact .inr ⟨hy, rfl⟩

theorem sd_wr {N i : Nat} {dst : Option Nat} {f : FOp} (hf : GSound P ops i dst f) (hN : ∀ d, dst = some d → d < N) {call : Call} (hcall : CallOk P call) {e : Tr AV} {v : AV} {s s' : St}
    (hr : f call e s = some (v, s')) : SDSound P ops N ⟨i, dst, e, s.next, s'.next, v, .wr s.heap.get s'.heap.get⟩ := by
  obtain ⟨g1, g2⟩ := hf call hcall e _ v _ hr
  refine ⟨g1, fun F w0 ρ w a env h he hsz hp hs hfr K Q hK => ?_⟩
  have hpart := hs.part (g := s.heap.get) hp.2
  refine g2 _ w ρ w a (fun t v ht => he t v (hp.1 t v ht)) hpart hfr K Q fun ρ' cv w' q1 q2 q3 => ?_
  obtain ⟨r1, r2, r3⟩ := SD.put (x := ⟨i, dst, e, s.next, s'.next, v, .wr s.heap.get s'.heap.get⟩) hN he hsz q1.sub q2
  refine hK ρ' _ w' q1 r1 r2 r3 (hs.join (g := s.heap.get) hp.2 q1.sub q3 fun o y hy => ?_)
  simp only [SD.heap] at hy
  split at hy
  · exact .inl hy
  · next hn =>
    split at hy
    · next z hz => exact .inl (hz.trans hy)
    · exact .inr ⟨hy, hn⟩

/-! ### A list of steps; two that change places -/
def Runs (envF : Nat → Option AV) (hF : Heap) : List SD → (Nat → Option AV) → Heap → Prop
  | [], env, h => env = envF ∧ h = hF
  | x :: l, env, h => x.pre env h ∧ Runs envF hF l (x.env env) (x.heap h)

def commK (y x : SD) : Prop := match y.k, x.k with
  | .rd o _ _, .alloc _ => o ≠ x.n
  | .rd o off vs, .wr _ s' => hasAt s' o off vs
  | .alloc _, .alloc _ => y.n ≠ x.n
  | .wr s s', .alloc _ => s x.n = none ∧ s' x.n = none
  | .wr s s', .rd o _ _ => s o = none ∧ s' o = none
  | .wr _ _, .wr _ _ => False
  | .alloc _, .rd o _ _ => o ≠ y.n
  | .alloc _, .wr _ _ => False
  | _, _ => True
/-- The second may go ahead of the first. -/
structure Comm (y x : SD) : Prop where
  d1 : ∀ d, y.dst = some d → x.e.get d = none ∧ x.dst ≠ some d
  d2 : ∀ d, x.dst = some d → y.e.get d = none
  k : commK y x

theorem pre_back {y x : SD} (c : Comm y x) {env : Nat → Option AV} {h : Heap} (hp : x.pre (y.env env) (y.heap h)) : x.pre env h := by
  refine ⟨fun t v ht => ?_, ?_⟩
  · have := hp.1 t v ht
    unfold SD.env at this
    cases hd : y.dst with
    | some d =>
      rw [hd] at this
      by_cases e : t = d
      · subst e; rw [(c.d1 _ hd).1] at ht; cases ht
      · exact (upd_ne _ _ e).symm.trans this
    | none => rw [hd] at this; exact this
  · have h1 := hp.2
    have h2 := c.k
    unfold SD.heap at h1
    unfold commK at h2
    cases hy : y.k <;> cases hx : x.k <;> simp only [hy, hx] at h1 h2 <;> first | exact h1 | exact h2.elim | trivial | skip
    · obtain ⟨cs, ro, g1, g2⟩ := h1
      exact ⟨cs, ro, (upd_ne _ _ h2).symm.trans g1, g2⟩
    · obtain ⟨cs, ro, g1, g2⟩ := h1
      simp only [h2.1, h2.2] at g1
      exact ⟨cs, ro, g1, g2⟩

theorem pre_fore {y x : SD} (c : Comm y x) {env : Nat → Option AV} {h : Heap} (hp : y.pre env h) : y.pre (x.env env) (x.heap h) := by
  refine ⟨fun t v ht => ?_, ?_⟩
  · have := hp.1 t v ht
    unfold SD.env
    cases hd : x.dst with
    | some d =>
      by_cases e : t = d
      · subst e; rw [c.d2 _ hd] at ht; cases ht
      · exact (upd_ne _ _ e).trans this
    | none => exact this
  · have h1 := hp.2
    have h2 := c.k
    unfold SD.heap
    unfold commK at h2
    cases hy : y.k with
    | pure => trivial
    | alloc z => trivial
    | rd o off vs =>
      rw [hy] at h1 h2
      cases hx : x.k with
      | pure => exact h1
      | rd _ _ _ => exact h1
      | alloc z =>
        rw [hx] at h2
        obtain ⟨cs, ro, g1, g2⟩ := h1
        exact ⟨cs, ro, (upd_ne _ _ h2).trans g1, g2⟩
      | wr s s' =>
        rw [hx] at h2
        obtain ⟨cs, ro, g1, g2⟩ := h2
        refine ⟨cs, ro, ?_, g2⟩
        show (match s o with
          | some _ => s' o
          | none => match s' o with
            | some y => some y
            | none => h o) = _
        cases s o <;> simp only [g1]
    | wr s s' =>
      rw [hy] at h1 h2
      cases hx : x.k with
      | pure => exact h1
      | rd _ _ _ => exact h1
      | alloc z =>
        rw [hx] at h2
        intro o u ho
        have hne : o ≠ x.n := by rintro rfl; rw [h2.1] at ho; cases ho
        show upd h x.n (some z) o = _
        rw [upd_ne _ _ hne]; exact h1 o u ho
      | wr _ _ => rw [hx] at h2; exact h2.elim

theorem upd_comm {α : Type} (f : Nat → Option α) {n m : Nat} (x y : Option α) (hne : n ≠ m) : upd (upd f n x) m y = upd (upd f m y) n x := by
  funext k
  by_cases e : k = n
  · subst e; rw [upd_same, upd_ne _ _ hne, upd_same]
  · rw [upd_ne _ _ e]
    by_cases e' : k = m
    · subst e'; rw [upd_same, upd_same]
    · rw [upd_ne _ _ e', upd_ne _ _ e', upd_ne _ _ e]

theorem env_comm {y x : SD} (c : Comm y x) (env : Nat → Option AV) : x.env (y.env env) = y.env (x.env env) := by
  unfold SD.env
  cases hy : y.dst with
  | none => rfl
  | some d =>
    cases hx : x.dst with
    | none => rfl
    | some d' =>
      have := (c.d1 d hy).2
      rw [hx] at this
      exact upd_comm env _ _ (fun q => this (by rw [q]))

theorem heap_comm {y x : SD} (c : Comm y x) (h : Heap) : x.heap (y.heap h) = y.heap (x.heap h) := by
  have h2 := c.k
  unfold commK at h2
  unfold SD.heap
  cases hy : y.k <;> cases hx : x.k <;> simp only [hy, hx] at h2 ⊢ <;> first | exact h2.elim | rfl | skip
  · exact upd_comm h _ _ h2
  · next s s' z =>
    funext o
    by_cases e : o = x.n
    · subst e
      rw [upd_same]
      simp only [h2.1, h2.2, upd_same]
    · rw [upd_ne _ _ e]
      cases s o with
      | some _ => rfl
      | none => cases s' o with
        | some _ => rfl
        | none => exact (upd_ne _ _ e).symm

variable {envF : Nat → Option AV} {hF : Heap}

theorem runs_swap {y x : SD} (c : Comm y x) {l : List SD} {env : Nat → Option AV} {h : Heap} (hr : Runs envF hF (y :: x :: l) env h) : Runs envF hF (x :: y :: l) env h := by
  obtain ⟨h1, h2, h3⟩ := hr
  refine ⟨pre_back c h2, pre_fore c h1, ?_⟩
  rw [env_comm c, heap_comm c] at h3
  exact h3

theorem runs_bubble {x : SD} {v : List SD} : ∀ (u : List SD) {env : Nat → Option AV} {h : Heap}, (∀ y ∈ u, Comm y x) → Runs envF hF (u ++ x :: v) env h → Runs envF hF (x :: (u ++ v)) env h
  | [], env, h, _, hr => hr
  | y :: u, env, h, hc, hr => by
    obtain ⟨h1, h2⟩ := hr
    have := runs_bubble u (fun z hz => hc z (List.mem_cons_of_mem _ hz)) h2
    exact runs_swap (hc y (List.mem_cons_self ..)) ⟨h1, this⟩
end
end Go.Am
