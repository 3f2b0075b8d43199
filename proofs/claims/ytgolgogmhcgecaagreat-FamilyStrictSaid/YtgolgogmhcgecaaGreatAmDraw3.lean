/- The abstract machine's run of a region that draws, as a list of steps; the region borne. -/
import Derived.Test.YtgolgogmhcgecaaGreatAmDraw2
namespace Go.Am
set_option linter.unusedVariables false
set_option linter.unusedSimpArgs false

section
variable {P : Program} {ops : Array Oper}

/-! ### Loads -/
/-- A load that is guarded or not: either it looks at nothing, or what it loads is noted. -/
def RdOk (k : DK) (f : FOp) : Prop := ∀ (call : Call) (e : Tr AV) (s : St) (v : AV) (s' : St), f call e s = some (v, s') →
  (∀ s2, f call e s2 = some (v, s2)) ∨ ∃ o off vs, tgt k e s = some (o, off, vs) ∧ s.load o off vs.length = some vs ∧ ∀ s2 : St, s2.load o off vs.length = some vs → f call e s2 = some (v, s2)
def DK.isRd : DK → Bool
  | .rd1 _ => true
  | .rdN _ _ => true
  | _ => false

theorem rdN_one {cs : List AV} {o : Nat} {v : AV} : rdN cs o 1 = some [v] ↔ cs[o]? = some v := by
  induction cs generalizing o with
  | nil => simp [rdN, takeN]; cases o <;> simp [takeN]
  | cons c cs ih =>
    cases o with
    | zero =>
      have h1 : rdN (c :: cs) 0 1 = some [c] := by cases cs <;> rfl
      rw [h1]; simp
    | succ o => simpa [rdN] using ih
theorem load_one {s : St} {o off : Nat} {v : AV} : s.load o off 1 = some [v] ↔ s.load1 o off = some v := by
  unfold St.load St.load1
  cases s.heap.get o with
  | none => simp
  | some x =>
    cases x with
    | map _ => simp
    | cells cs ro => simp only []; rw [rdN_one, rd1_eq]

theorem rdOk_1 (x : AX) : RdOk (.rd1 x) (fLoad1 x) := by
  intro call e s v s' h
  unfold fLoad1 at h
  split at h
  · next o off h1 =>
    obtain ⟨h2, rfl⟩ := ans_some h
    refine .inr ⟨o, off, [v], ?_, load_one.2 h2, fun s2 h3 => ?_⟩
    · unfold tgt; simp only [h1, load_one.2 h2]
    · unfold fLoad1; simp only [h1, load_one.1 h3, ans]
  · cases h
theorem load_len {s : St} {o off n : Nat} {vs : List AV} (h : s.load o off n = some vs) : vs.length = n := by
  obtain ⟨cs, ro, _, h2⟩ := load_some h
  obtain ⟨h3, h4⟩ := rdN_some cs off n vs h2
  rw [h4]; simp; omega
theorem rdOk_N (x : AX) (n : Nat) : RdOk (.rdN x n) (fLoadN x n) := by
  intro call e s v s' h
  unfold fLoadN at h
  split at h
  · next o off h1 =>
    split at h
    · next vs h2 =>
      simp only [Option.some.injEq, Prod.mk.injEq] at h
      obtain ⟨rfl, rfl⟩ := h
      have hl := load_len h2
      refine .inr ⟨o, off, vs, ?_, by rw [hl]; exact h2, fun s2 h3 => ?_⟩
      · unfold tgt; simp only [h1, h2]
      · rw [hl] at h3; unfold fLoadN; simp only [h1, h3]
    · cases h
  · cases h
theorem rdOk_g {k : DK} {f : FOp} (h : RdOk k f) (t : Nat) (w : Bool) : RdOk k (gF f t w) := by
  intro call e s v s' hf
  unfold gF at hf
  split at hf
  · next hw =>
    rcases h call e s v s' hf with h1 | ⟨o, off, vs, h1, h2, h3⟩
    · exact .inl fun s2 => by unfold gF; rw [hw]; exact h1 s2
    · exact .inr ⟨o, off, vs, h1, h2, fun s2 h4 => by unfold gF; rw [hw]; exact h3 s2 h4⟩
  · next hw =>
    simp only [Option.some.injEq, Prod.mk.injEq] at hf
    obtain ⟨rfl, rfl⟩ := hf
    exact .inl fun s2 => by unfold gF; rw [hw]
  · cases hf
theorem rdOk_bad (k : DK) : RdOk k fBad := fun call e s v s' h => by simp [fBad] at h

theorem rdOk_dk {o : Op} (h : (dk P o).isRd = true) : RdOk (dk P o) (opOr (trOp P o)) := by
  cases o
  case load t x =>
    simp only [dk] at h ⊢
    split at h
    · next n y h1 h2 h3 => simp only [trOp, h1, h2, h3, opOr]; exact rdOk_N y n
    · next n y h1 h2 h3 => simp only [trOp, h1, h2, h3, opOr]; exact rdOk_1 y
    · cases h
  all_goals
    exfalso
    revert h
    simp only [dk]
    repeat' split
    all_goals simp [DK.isRd]
theorem rdOk_trG {x : Oper} (h : (dk P x.op).isRd = true) : RdOk (dk P x.op) (trG P ops x) := by
  unfold trG
  split
  · exact rdOk_dk h
  · split
    · exact rdOk_g (rdOk_dk h) _ _
    · exact rdOk_bad _

/-! ### What is alike -/
theorem bBeq_true {a b : Bool} (h : bBeq a b = true) : a = b := by rw [bBeq_eq] at h; exact eq_of_beq h
theorem cellSame_eq {a b : AV} (h : cellSame a b = true) : a = b := by
  unfold cellSame at h
  split at h
  · rw [bBeq_true h]
  · next k a k' b =>
    cases hk : kEq k k' with
    | true => rw [hk, cond_true, iEq_eq, decide_eq_true_eq] at h; rw [kEq_eq hk, h]
    | false => rw [hk] at h; cases h
  · next o f o' f' =>
    cases h1 : Nat.beq o o' with
    | true => rw [h1, cond_true] at h; rw [Nat.eq_of_beq_eq_true h1, Nat.eq_of_beq_eq_true h]
    | false => rw [h1] at h; cases h
  · rfl
  · next o f l c o' f' l' c' =>
    cases h1 : Nat.beq o o' with
    | false => rw [h1] at h; cases h
    | true =>
      cases h2 : Nat.beq f f' with
      | false => rw [h1, h2] at h; cases h
      | true =>
        cases h3 : Nat.beq l l' with
        | false => rw [h1, h2, h3] at h; cases h
        | true =>
          rw [h1, h2, h3] at h
          rw [Nat.eq_of_beq_eq_true h1, Nat.eq_of_beq_eq_true h2, Nat.eq_of_beq_eq_true h3, Nat.eq_of_beq_eq_true h]
  · next o f l c o' f' l' c' =>
    cases h1 : Nat.beq o o' with
    | false => rw [h1] at h; cases h
    | true =>
      cases h2 : Nat.beq f f' with
      | false => rw [h1, h2] at h; cases h
      | true =>
        cases h3 : Nat.beq l l' with
        | false => rw [h1, h2, h3] at h; cases h
        | true =>
          rw [h1, h2, h3] at h
          rw [Nat.eq_of_beq_eq_true h1, Nat.eq_of_beq_eq_true h2, Nat.eq_of_beq_eq_true h3, Nat.eq_of_beq_eq_true h]
  · rfl
  · rw [Nat.eq_of_beq_eq_true h]
  · rfl
  · rfl
  · rw [sEq_eq, decide_eq_true_eq] at h; rw [h]
  · cases h
theorem allSame_eq {p : AV → AV → Bool} (hp : ∀ a b, p a b = true → a = b) : ∀ {x y : List AV}, allSame p x y = true → x = y
  | [], [], _ => rfl
  | [], _ :: _, h => by cases h
  | _ :: _, [], h => by cases h
  | a :: x, b :: y, h => by
    have h1 : allSame p (a :: x) (b :: y) = Bool.rec (motive := fun _ => Bool) false (allSame p x y) (p a b) := rfl
    rw [h1] at h
    cases h2 : p a b with
    | false => rw [h2] at h; cases h
    | true => rw [h2] at h; rw [hp a b h2, allSame_eq hp h]
theorem valSame_eq {a b : AV} (h : valSame a b = true) : a = b := by
  unfold valSame at h
  split at h
  · next f x f' y =>
    cases h1 : Nat.beq f f' with
    | true => rw [h1, cond_true] at h; rw [Nat.eq_of_beq_eq_true h1, allSame_eq (fun a b => cellSame_eq) h]
    | false => rw [h1] at h; cases h
  · exact cellSame_eq h
theorem still_has {s : St} {o off : Nat} {vs : List AV} (h : stillThere s o off vs = true) : hasAt s.heap.get o off vs := by
  unfold stillThere at h
  split at h
  · next us hu =>
    rw [allSame_eq (fun a b => valSame_eq) h]
    rw [lenL_eq] at hu
    have hl := load_len hu
    obtain ⟨cs, ro, g1, g2⟩ := load_some hu
    exact ⟨cs, ro, g1, by rw [hl]; exact g2⟩
  · cases h
theorem recs_has {clo : Nat} {s : St} : ∀ {rs : List Note}, recsOk clo s rs = true → ∀ r ∈ rs, bitOf clo r.1 = false → hasAt s.heap.get r.2.1 r.2.2.1 r.2.2.2
  | [], _, r, hr, _ => by cases hr
  | q :: rs, h, r, hr, hb => by
    have h1 : recsOk clo s (q :: rs) = bif bitOf clo q.1 then recsOk clo s rs else bif stillThere s q.2.1 q.2.2.1 q.2.2.2 then recsOk clo s rs else false := rfl
    rw [h1] at h
    cases h2 : bitOf clo q.1 with
    | true =>
      rw [h2, cond_true] at h
      rcases List.mem_cons.1 hr with rfl | hr
      · rw [hb] at h2; cases h2
      · exact recs_has h r hr hb
    | false =>
      rw [h2, cond_false] at h
      cases h3 : stillThere s q.2.1 q.2.2.1 q.2.2.2 with
      | false => rw [h3] at h; cases h
      | true =>
        rw [h3, cond_true] at h
        rcases List.mem_cons.1 hr with rfl | hr
        · exact still_has h3
        · exact recs_has h r hr hb

/-! ### A step -/
theorem restr_cons (e : Tr AV) (t : Nat) (ts : List Nat) : restr e (t :: ts) = match e.get t with
    | some v => (restr e ts).put (some v) t
    | none => restr e ts := rfl
theorem restr_sub {e : Tr AV} : ∀ {ts : List Nat} {t : Nat} {v : AV}, (restr e ts).get t = some v → e.get t = some v ∧ t ∈ ts
  | [], t, v, h => by cases h
  | u :: ts, t, v, h => by
    rw [restr_cons] at h
    split at h
    · next z hz =>
      rw [Tr.get_put] at h
      by_cases e1 : t = u
      · subst e1; rw [if_pos rfl] at h; injection h with h; subst h; exact ⟨hz, List.mem_cons_self ..⟩
      · rw [if_neg e1] at h
        obtain ⟨g1, g2⟩ := restr_sub h
        exact ⟨g1, List.mem_cons_of_mem _ g2⟩
    · obtain ⟨g1, g2⟩ := restr_sub h
      exact ⟨g1, List.mem_cons_of_mem _ g2⟩
theorem putT_get (e : Tr AV) (dst : Option Nat) (v : AV) (x : SD) (hd : x.dst = dst) (hv : x.v = v) : (putT e dst v).get = x.env e.get := by
  unfold SD.env putT
  cases dst with
  | none => rw [hd]
  | some d => rw [hd, hv]; exact Tr.put_get _ _ _

def KRel (k : DK) (r : RK) : Prop := match r with
  | .pure => True
  | .rd _ _ _ => k.isRd = true
  | .alloc _ => k = .alloc
  | .wr _ _ => k = .wr
/-- What ties a step to its operation. -/
structure Tie (d : DOp) (x : SD) : Prop where
  i : x.i = d.i
  dst : x.dst = d.dst
  ts : ∀ t v, x.e.get t = some v → t ∈ d.ts
  k : KRel d.k x.k
  m : ∀ y, x.k = .alloc y → x.m = x.n + 1
structure DOk (P : Program) (ops : Array Oper) (N : Nat) (d : DOp) : Prop where
  g : GSound P ops d.i d.dst d.f
  r : d.k.isRd = true → RdOk d.k d.f
  N : ∀ t, d.dst = some t → t < N

theorem ws_has {clo o m : Nat} : ∀ {ws : List (Nat × Nat)}, wsOk clo o m ws = true → ∀ r ∈ ws, bitOf clo r.1 = false → r.2 ≤ o ∧ o < m
  | [], _, r, hr, _ => by cases hr
  | q :: ws, h, r, hr, hb => by
    have h1 : wsOk clo o m (q :: ws) = bif bitOf clo q.1 then wsOk clo o m ws else bif Nat.ble q.2 o then bif Nat.blt o m then wsOk clo o m ws else false else false := rfl
    rw [h1] at h
    cases h2 : bitOf clo q.1 with
    | true =>
      rw [h2, cond_true] at h
      rcases List.mem_cons.1 hr with rfl | hr
      · rw [hb] at h2; cases h2
      · exact ws_has h r hr hb
    | false =>
      rw [h2, cond_false] at h
      cases h3 : Nat.ble q.2 o with
      | false => rw [h3] at h; cases h
      | true =>
        rw [h3, cond_true] at h
        cases h4 : Nat.blt o m with
        | false => rw [h4] at h; cases h
        | true =>
          rw [h4, cond_true] at h
          rcases List.mem_cons.1 hr with rfl | hr
          · exact ⟨Nat.le_of_ble_eq_true h3, Nat.lt_of_succ_le (Nat.le_of_ble_eq_true h4)⟩
          · exact ws_has h r hr hb

theorem step_sd {N : Nat} {d : DOp} (hd : DOk P ops N d) {call : Call} (hcall : CallOk P call) {e : Tr AV} {s : St} {rs : List Note} {ws : List (Nat × Nat)} {e' : Tr AV} {s' : St} {rs' : List Note} {ws' : List (Nat × Nat)} (h : stepD d call e s rs ws = some (e', s', rs', ws')) :
    ∃ x : SD, Tie d x ∧ SDSound P ops N x ∧ x.n = s.next ∧ x.m = s'.next ∧ x.pre e.get s.heap.get ∧ e'.get = x.env e.get ∧ s'.heap.get = x.heap s.heap.get ∧
      (∀ r ∈ rs, r ∈ rs') ∧ (∀ o off vs, x.k = .rd o off vs → (d.i, o, off, vs) ∈ rs') ∧ (∀ h1 h2, x.k = .wr h1 h2 → ∀ r ∈ rs, bitOf d.clo r.1 = false → hasAt h2 r.2.1 r.2.2.1 r.2.2.2) ∧
      (∀ r ∈ ws, r ∈ ws') ∧ (∀ y, x.k = .alloc y → (d.i, s'.next) ∈ ws') ∧ (∀ h1 h2, x.k = .wr h1 h2 → (d.i, s'.next) ∈ ws') ∧ (∀ o off vs, x.k = .rd o off vs → ∀ r ∈ ws, bitOf d.clo r.1 = false → r.2 ≤ o ∧ o < x.n) := by
  have hsub : ∀ t v, (restr e d.ts).get t = some v → e.get t = some v := fun t v ht => (restr_sub ht).1
  have hts : ∀ t v, (restr e d.ts).get t = some v → t ∈ d.ts := fun t v ht => (restr_sub ht).2
  unfold stepD at h
  split at h
  · next hk =>
    split at h
    · next v s1 hf =>
      cases hr : recsOk d.clo s1 rs with
      | false => rw [hr] at h; cases h
      | true =>
        rw [hr, cond_true] at h
        simp only [Option.some.injEq, Prod.mk.injEq] at h
        obtain ⟨rfl, rfl, rfl, rfl⟩ := h
        refine ⟨⟨d.i, d.dst, restr e d.ts, s.next, s1.next, v, .wr s.heap.get s1.heap.get⟩, ⟨rfl, rfl, hts, hk, fun y hy => (by cases hy)⟩, sd_wr hd.g hd.N hcall hf, rfl, rfl, ⟨hsub, fun o y hy => hy⟩, putT_get _ _ _ _ rfl rfl, ?_, fun r hr => hr, fun o off vs hx => (by cases hx), fun h1 h2 hx r hr2 hb => ?_, fun r hr => List.mem_cons_of_mem _ hr, fun y hy => (by cases hy), fun h1 h2 hx => List.mem_cons_self .., fun o off vs hx => (by cases hx)⟩
        · funext o
          simp only [SD.heap]
          cases hs : s.heap.get o with
          | some _ => rfl
          | none => cases hs1 : s1.heap.get o <;> rfl
        · injection hx with _ hx; subst hx; exact recs_has hr r hr2 hb
    · cases h
  · next hk =>
    split at h
    · next v s1 hf =>
      split at h
      · next y hy =>
        cases hn : Nat.beq s1.next (Nat.succ s.next) with
        | false => rw [hn] at h; cases h
        | true =>
          rw [hn, cond_true] at h
          simp only [Option.some.injEq, Prod.mk.injEq] at h
          obtain ⟨rfl, rfl, rfl, rfl⟩ := h
          have hn' := Nat.eq_of_beq_eq_true hn
          obtain ⟨h1, n1⟩ := s1
          simp only at hn' hy
          subst hn'
          exact ⟨⟨d.i, d.dst, restr e d.ts, s.next, s.next + 1, v, .alloc y⟩, ⟨rfl, rfl, hts, hk, fun y hy => rfl⟩, sd_alloc hd.g hd.N hcall hf hy, rfl, rfl, ⟨hsub, trivial⟩, putT_get _ _ _ _ rfl rfl, Tr.put_get _ _ _, fun r hr => hr, fun o off vs hx => (by cases hx), fun h1 h2 hx => (by cases hx), fun r hr => List.mem_cons_of_mem _ hr, fun y hy => List.mem_cons_self .., fun h1 h2 hx => (by cases hx), fun o off vs hx => (by cases hx)⟩
      · cases hn : Nat.beq s1.next s.next with
        | false => rw [hn] at h; cases h
        | true =>
          rw [hn, cond_true] at h
          simp only [Option.some.injEq, Prod.mk.injEq] at h
          obtain ⟨rfl, rfl, rfl, rfl⟩ := h
          have hn' := Nat.eq_of_beq_eq_true hn
          obtain ⟨h1, n1⟩ := s1
          simp only at hn'
          subst hn'
          exact ⟨⟨d.i, d.dst, restr e d.ts, s.next, s.next, v, .pure⟩, ⟨rfl, rfl, hts, trivial, fun y hy => (by cases hy)⟩, sd_pure hd.g hd.N hcall hf, rfl, rfl, ⟨hsub, trivial⟩, putT_get _ _ _ _ rfl rfl, rfl, fun r hr => hr, fun o off vs hx => (by cases hx), fun h1 h2 hx => (by cases hx), fun r hr => hr, fun y hy => (by cases hy), fun h1 h2 hx => (by cases hx), fun o off vs hx => (by cases hx)⟩
    · cases h
  · next hk =>
    split at h
    · next v s1 hf =>
      cases hn : Nat.beq s1.next s.next with
      | false => rw [hn] at h; cases h
      | true =>
        rw [hn, cond_true] at h
        simp only [Option.some.injEq, Prod.mk.injEq] at h
        obtain ⟨rfl, rfl, rfl, rfl⟩ := h
        have hn' := Nat.eq_of_beq_eq_true hn
        obtain ⟨h1, n1⟩ := s1
        simp only at hn'
        subst hn'
        exact ⟨⟨d.i, d.dst, restr e d.ts, s.next, s.next, v, .pure⟩, ⟨rfl, rfl, hts, trivial, fun y hy => (by cases hy)⟩, sd_pure hd.g hd.N hcall hf, rfl, rfl, ⟨hsub, trivial⟩, putT_get _ _ _ _ rfl rfl, rfl, fun r hr => hr, fun o off vs hx => (by cases hx), fun h1 h2 hx => (by cases hx), fun r hr => hr, fun y hy => (by cases hy), fun h1 h2 hx => (by cases hx), fun o off vs hx => (by cases hx)⟩
    · cases h
  · next hk1 hk2 hk3 =>
    have hrd : d.k.isRd = true := by
      cases hk : d.k with
      | wr => exact absurd hk hk1
      | alloc => exact absurd hk hk2
      | pure => exact absurd hk hk3
      | rd1 _ => rfl
      | rdN _ _ => rfl
    simp only [] at h
    split at h
    · next v s1 hf =>
      rcases hd.r hrd call _ s v s1 hf with h1 | ⟨o, off, vs, h1, h2, h3⟩
      · have hpure : ∀ (rs' : List Note) (ws' : List (Nat × Nat)), (∀ r ∈ rs, r ∈ rs') → (∀ r ∈ ws, r ∈ ws') → e' = putT e d.dst v → s' = s → ∃ x : SD, Tie d x ∧ SDSound P ops N x ∧ x.n = s.next ∧ x.m = s'.next ∧ x.pre e.get s.heap.get ∧ e'.get = x.env e.get ∧ s'.heap.get = x.heap s.heap.get ∧
      (∀ r ∈ rs, r ∈ rs') ∧ (∀ o off vs, x.k = .rd o off vs → (d.i, o, off, vs) ∈ rs') ∧ (∀ h1 h2, x.k = .wr h1 h2 → ∀ r ∈ rs, bitOf d.clo r.1 = false → hasAt h2 r.2.1 r.2.2.1 r.2.2.2) ∧
      (∀ r ∈ ws, r ∈ ws') ∧ (∀ y, x.k = .alloc y → (d.i, s'.next) ∈ ws') ∧ (∀ h1 h2, x.k = .wr h1 h2 → (d.i, s'.next) ∈ ws') ∧ (∀ o off vs, x.k = .rd o off vs → ∀ r ∈ ws, bitOf d.clo r.1 = false → r.2 ≤ o ∧ o < x.n) := by
          rintro rs' ws' hm1 hm2 rfl rfl
          exact ⟨⟨d.i, d.dst, restr e d.ts, s'.next, s'.next, v, .pure⟩, ⟨rfl, rfl, hts, trivial, fun y hy => (by cases hy)⟩, sd_pure hd.g hd.N hcall (h1 ⟨.leaf, s'.next⟩), rfl, rfl, ⟨hsub, trivial⟩, putT_get _ _ _ _ rfl rfl, rfl, hm1, fun o off vs hx => (by cases hx), fun h1 h2 hx => (by cases hx), hm2, fun y hy => (by cases hy), fun h1 h2 hx => (by cases hx), fun o off vs hx => (by cases hx)⟩
        split at h
        · next o off vs hq =>
          cases hw : wsOk d.clo o s.next ws with
          | false => rw [hw] at h; cases h
          | true =>
            rw [hw, cond_true] at h
            simp only [Option.some.injEq, Prod.mk.injEq] at h
            obtain ⟨e1, e2, rfl, rfl⟩ := h
            exact hpure _ _ (fun r hr => List.mem_cons_of_mem _ hr) (fun r hr => hr) e1.symm e2.symm
        · simp only [Option.some.injEq, Prod.mk.injEq] at h
          obtain ⟨e1, e2, rfl, rfl⟩ := h
          exact hpure _ _ (fun r hr => hr) (fun r hr => hr) e1.symm e2.symm
      · rw [h1] at h
        simp only [] at h
        cases hw : wsOk d.clo o s.next ws with
        | false => rw [hw] at h; cases h
        | true =>
          rw [hw, cond_true] at h
          simp only [Option.some.injEq, Prod.mk.injEq] at h
          obtain ⟨rfl, rfl, rfl, rfl⟩ := h
          refine ⟨⟨d.i, d.dst, restr e d.ts, s.next, s.next, v, .rd o off vs⟩, ⟨rfl, rfl, hts, hrd, fun y hy => (by cases hy)⟩, sd_rd hd.g hd.N hcall h3, rfl, rfl, ⟨hsub, ?_⟩, putT_get _ _ _ _ rfl rfl, rfl, fun r hr => List.mem_cons_of_mem _ hr, fun o off vs hx => ?_, fun h1 h2 hx => (by cases hx), fun r hr => hr, fun y hy => (by cases hy), fun h1 h2 hx => (by cases hx), fun o off vs hx r hr hb => ?_⟩
          · obtain ⟨cs, ro, g1, g2⟩ := load_some h2
            exact ⟨cs, ro, g1, g2⟩
          · injection hx with e1 e2 e3; subst e1; subst e2; subst e3
            exact List.mem_cons_self ..
          · injection hx with e1 e2 e3; subst e1; subst e2; subst e3
            exact ws_has hw r hr hb
    · cases h
end
end Go.Am
