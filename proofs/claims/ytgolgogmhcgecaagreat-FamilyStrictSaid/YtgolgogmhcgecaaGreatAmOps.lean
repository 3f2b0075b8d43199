/- Each operation of the abstract machine is borne by the model's: the first ones. -/
import Derived.Test.YtgolgogmhcgecaaGreatAmTr
import Derived.Test.YtgolgogmhcgecaaGreatAmWorld
import Derived.Laws.Tables
import Derived.Laws.Slices
import Derived.Laws.BytesArg
import Derived.Lib.ConvBytes
namespace Go.Am
set_option linter.unusedVariables false
set_option linter.unusedSimpArgs false

def EnvRep (ρ : Rho) (e : Tr AV) (tmps : Array Value) : Prop := ∀ (t : Nat) a, e.get t = some a → ∃ v, tmps[t]? = some v ∧ Rep ρ a v

mutual
theorem trV_rep (ρ : Rho) : ∀ (v : Value) (a : AV), trV v = some a → Rep ρ a v
  | .bool b, a, h => by simp [trV] at h; subst h; simp only [Rep]
  | .int k n, a, h => by simp [trV] at h; subst h; simp only [Rep]
  | .string s, a, h => by
    simp [trV] at h
    subst h
    simp only [Rep]
    refine ⟨?_, fun x hx => ?_⟩
    · unfold strOf
      rw [List.map_map]
      have : (UInt8.ofNat ∘ UInt8.toNat) = id := by funext x; simp
      rw [this, List.map_id]
    · obtain ⟨y, _, rfl⟩ := List.mem_map.1 hx
      exact y.toNat_lt
  | .pointer none, a, h => by simp [trV] at h; subst h; simp only [Rep]
  | .pointer (some _), a, h => by simp [trV] at h
  | .slice none 0 0, a, h => by simp [trV] at h; subst h; simp only [Rep]
  | .slice none 0 (_ + 1), a, h => by simp [trV] at h
  | .slice none (_ + 1) _, a, h => by simp [trV] at h
  | .slice (some _) _ _, a, h => by simp [trV] at h
  | .map none, a, h => by simp [trV] at h; subst h; simp only [Rep]
  | .map (some _), a, h => by simp [trV] at h
  | .nilFunc, a, h => by simp [trV] at h; subst h; simp only [Rep]
  | .agg ⟨cs⟩, a, h => by
    simp only [trV] at h
    split at h
    · next l hl => injection h with h; subst h; simp only [Rep]; exact ⟨cs, rfl, trVs_rep ρ cs l hl⟩
    · cases h
  | .tuple ⟨cs⟩, a, h => by
    simp only [trV] at h
    split at h
    · next l hl => injection h with h; subst h; simp only [Rep]; exact ⟨cs, rfl, trVs_rep ρ cs l hl⟩
    · cases h
  | .float _ _, a, h => by simp [trV] at h
  | .complex _ _ _, a, h => by simp [trV] at h
  | .chan _, a, h => by simp [trV] at h
  | .func _ _ _, a, h => by simp [trV] at h
  | .iface _ _, a, h => by simp [trV] at h
  | .nilIface, a, h => by simp [trV] at h
theorem trVs_rep (ρ : Rho) : ∀ (vs : List Value) (as : List AV), trVs vs = some as → RepL ρ as vs
  | [], as, h => by simp [trVs] at h; subst h; exact RepL.nil ρ
  | v :: vs, as, h => by
    simp only [trVs] at h
    split at h
    · next x hx =>
      split at h
      · next l hl => injection h with h; subst h; exact RepL.cons (trV_rep ρ v x hx) (trVs_rep ρ vs l hl)
      · cases h
    · cases h
end

section
variable {P : Program} {F : Fr} {w0 w : World} {ρ : Rho} {a : Act} {e : Tr AV}

theorem EnvRep.x (he : EnvRep ρ e a.tmps) {x : Operand} {y : AX} {v : AV} (hx : trX x = some y) (hv : evX e y = some v) : Rep ρ v (a.eval x) := by
  cases x with
  | tmp t =>
    simp [trX] at hx; subst hx
    obtain ⟨u, h1, h2⟩ := he t v hv
    simpa [Act.eval, Array.getD_eq_getD_getElem?, h1] using h2
  | const c =>
    simp only [trX, Option.map_eq_some_iff] at hx
    obtain ⟨b, hb, rfl⟩ := hx
    simp [evX] at hv; subst hv
    exact trV_rep ρ c b hb
  | global g => simp [trX] at hx
  | func f =>
    simp [trX] at hx; subst hx
    simp [evX] at hv; subst hv
    simp only [Rep, Act.eval]
    exact ⟨[], rfl, RepL.nil ρ⟩

theorem evXs_nil : evXs e [] = some [] := rfl
theorem evXs_cons (x : AX) (l : List AX) : evXs e (x :: l) = match evX e x with | some v => consO v (evXs e l) | none => none := rfl
theorem EnvRep.xs (he : EnvRep ρ e a.tmps) : ∀ {xs : List Operand} {ys : List AX} {vs : List AV}, trXs xs = some ys → evXs e ys = some vs → RepL ρ vs (xs.map a.eval)
  | [], ys, vs, hx, hv => by
    simp [trXs] at hx; subst hx
    rw [evXs_nil] at hv; injection hv with hv; subst hv
    exact RepL.nil ρ
  | x :: xs, ys, vs, hx, hv => by
    simp only [trXs] at hx
    split at hx
    · next y l hy hl =>
      injection hx with hx; subst hx
      rw [evXs_cons] at hv
      split at hv
      · next v hv1 =>
        obtain ⟨vs', h1, rfl⟩ := consO_some hv
        exact RepL.cons (he.x hy hv1) (EnvRep.xs he hl h1)
      · cases hv
    · cases hx

/-- What an operation comes to. -/
def Res (P : Program) (F : Fr) (w0 : World) (ρ : Rho) (n n' : Nat) (h' : Heap) (v : AV) (r : Result Next) : Prop :=
  ∃ ρ' cv w', Ext ρ ρ' n n' ∧ Rep ρ' v cv ∧ Sat F w0 ρ' h' w' ∧ (r = .ok (.value cv) w' ∨ (r = .ok .skip w' ∧ cv = undef))

/-- An operation that calls nothing. -/
def OpOk (P : Program) (f : FOp) (op : Op) : Prop :=
  ∀ call e s v s', f call e s = some (v, s') → s.next ≤ s'.next ∧ ∀ (F : Fr) (w0 : World) (ρ : Rho) (w : World) (a : Act), EnvRep ρ e a.tmps → Sat F w0 ρ s.heap.get w → Fresh ρ s.next s'.next →
    ∀ o : Oper, o.op = op → Res P F w0 ρ s.next s'.next s'.heap.get v ((execOp a.eval o).run P w)

theorem res_here {n : Nat} {h : Heap} {v : AV} {cv : Value} {r : Result Next} (hs : Sat F w0 ρ h w) (hr : Rep ρ v cv) (h1 : r = .ok (.value cv) w) : Res P F w0 ρ n n h v r :=
  ⟨ρ, cv, w, Ext.refl ρ n n, hr, hs, .inl h1⟩

theorem ans_some {s s' : St} {x : Option AV} {v : AV} (h : ans s x = some (v, s')) : x = some v ∧ s' = s := by
  cases x with
  | none => simp [ans] at h
  | some a => simp [ans] at h; exact ⟨by rw [h.1], h.2.symm⟩

theorem ok_move {x : Operand} {y : AX} (hx : trX x = some y) (op : Op) (hop : op = .move x ∨ op = .assign x) : OpOk P (fMove y) op := by
  intro call e s v s' h
  obtain ⟨h1, rfl⟩ := ans_some h
  refine ⟨Nat.le_refl _, fun F w0 ρ w a he hs hf o ho => ?_⟩
  refine res_here hs (he.x hx h1) ?_
  rcases hop with rfl | rfl <;> simp [execOp, ho]

theorem ok_pick {c x y : Operand} {c' x' y' : AX} (hc : trX c = some c') (hx : trX x = some x') (hy : trX y = some y') : OpOk P (fPick c' x' y') (.pick c x y) := by
  intro call e s v s' h
  unfold fPick at h
  split at h
  · next h1 =>
    obtain ⟨h2, rfl⟩ := ans_some h
    refine ⟨Nat.le_refl _, fun F w0 ρ w a he hs hf o ho => res_here hs (he.x hx h2) ?_⟩
    have hb := he.x hc h1
    simp only [Rep] at hb
    simp [execOp, ho, hb, asBool]
  · next h1 =>
    obtain ⟨h2, rfl⟩ := ans_some h
    refine ⟨Nat.le_refl _, fun F w0 ρ w a he hs hf o ho => res_here hs (he.x hy h2) ?_⟩
    have hb := he.x hc h1
    simp only [Rep] at hb
    simp [execOp, ho, hb, asBool]
  · cases h

theorem ok_not {x : Operand} {y : AX} (hx : trX x = some y) (t : TypeId) : OpOk P (fNot y) (.unOp .not t x) := by
  intro call e s v s' h
  unfold fNot at h
  split at h
  · next b h1 =>
    simp only [Option.some.injEq, Prod.mk.injEq] at h
    obtain ⟨rfl, rfl⟩ := h
    refine ⟨Nat.le_refl _, fun F w0 ρ w a he hs hf o ho => res_here (cv := .bool !b) hs (by simp only [Rep]; cases b <;> rfl) ?_⟩
    have hb := he.x hx h1
    simp only [Rep] at hb
    simp [execOp, ho, hb, Op.unary]
  · cases h

theorem kMax_eq (k : IntKind) : (kMax k : Int) = k.max := by cases k <;> rfl
theorem wrap_in {k : IntKind} {n : Int} (h : inRange k n = true) : k.wrap n = n := by
  cases n with
  | ofNat m =>
    simp only [inRange] at h
    have h' : m ≤ kMax k := Nat.le_of_ble_eq_true h
    cases k <;> simp only [kMax] at h' <;> simp only [IntKind.wrap, IntKind.bits, IntKind.signed] <;> simp <;> omega
  | negSucc m =>
    simp only [inRange] at h
    cases hk : kSigned k with
    | false => rw [hk] at h; cases h
    | true =>
      rw [hk] at h
      have h' : m ≤ kMax k := Nat.le_of_ble_eq_true h
      cases k <;> simp [kSigned] at hk <;> simp only [kMax] at h' <;> simp only [IntKind.wrap, IntKind.bits, IntKind.signed] <;> simp <;> omega
theorem wr_eq (k : IntKind) (n : Int) : wr k n = k.wrap n := by
  unfold wr
  cases h : inRange k n with
  | true => simp [wrap_in h]
  | false => rfl

theorem ok_neg {x : Operand} {y : AX} (hx : trX x = some y) (t : TypeId) : OpOk P (fNeg y) (.unOp .neg t x) := by
  intro call e s v s' h
  unfold fNeg at h
  split at h
  · next k m h1 =>
    simp only [Option.some.injEq, Prod.mk.injEq] at h
    obtain ⟨rfl, rfl⟩ := h
    refine ⟨Nat.le_refl _, fun F w0 ρ w a he hs hf o ho => res_here (cv := .int k (k.wrap (0 - m))) hs (by simp only [Rep, wr_eq]) ?_⟩
    have hb := he.x hx h1
    simp only [Rep] at hb
    simp [execOp, ho, hb, Op.unary, Op.intArith]
  · cases h

theorem ok_convI {x : Operand} {y : AX} (hx : trX x = some y) {src dst : TypeId} {j k : IntKind} (hs : P.underlying src = some (.int j)) (hd : P.underlying dst = some (.int k)) : OpOk P (fConvI k y) (.convert src dst x) := by
  intro call e s v s' h
  unfold fConvI at h
  split at h
  · next k0 m h1 =>
    simp only [Option.some.injEq, Prod.mk.injEq] at h
    obtain ⟨rfl, rfl⟩ := h
    refine ⟨Nat.le_refl _, fun F w0 ρ w a he hs' hf o ho => res_here (cv := .int k (k.wrap m)) hs' (by simp only [Rep, wr_eq]) ?_⟩
    have hb := he.x hx h1
    simp only [Rep] at hb
    simp [execOp, ho, hb, convert, run_underlying hs, run_underlying hd, Conv.intToInt]
  · next k0 m r h1 =>
    cases hk : Nat.ble 255 (kMax k) with
    | false => rw [hk] at h; cases h
    | true =>
    rw [hk, cond_true] at h
    simp only [Option.some.injEq, Prod.mk.injEq] at h
    obtain ⟨rfl, rfl⟩ := h
    refine ⟨Nat.le_refl _, fun F w0 ρ w a he hs' hf o ho => ?_⟩
    have hb := he.x hx h1
    simp only [Rep] at hb
    obtain ⟨n, hb, hn, hm⟩ := hb
    have hw : k.wrap (.ofNat n) = .ofNat n := wrap_in (Nat.ble_eq_true_of_le (Nat.le_trans hn (Nat.le_of_ble_eq_true hk)))
    refine res_here (cv := .int k (.ofNat n)) hs' (by simp only [Rep]; exact ⟨n, rfl, hn, hm⟩) ?_
    simp only [execOp, ho, hb, convert, Sem.run_bind, run_underlying hs, run_underlying hd, Result.andThen_ok, Conv.intToInt, Sem.run_pure, hw]
  · cases h

theorem ok_nilCheck {x : Operand} {y : AX} (hx : trX x = some y) : OpOk P (fNilCheck y) (.nilCheck x) := by
  intro call e s v s' h
  unfold fNilCheck at h
  split at h
  · next k m h1 =>
    simp only [Option.some.injEq, Prod.mk.injEq] at h
    obtain ⟨rfl, rfl⟩ := h
    refine ⟨Nat.le_refl _, fun F w0 ρ w a he hs' hf o ho => ?_⟩
    have hb := he.x hx h1
    refine res_here hs' hb ?_
    simp only [Rep] at hb
    obtain ⟨l, _, hb⟩ := hb
    simp [execOp, ho, hb]
  · next k m h1 =>
    simp only [Option.some.injEq, Prod.mk.injEq] at h
    obtain ⟨rfl, rfl⟩ := h
    refine ⟨Nat.le_refl _, fun F w0 ρ w a he hs' hf o ho => ?_⟩
    have hb := he.x hx h1
    refine res_here hs' hb ?_
    simp only [Rep] at hb
    obtain ⟨l, hb, _⟩ := hb
    simp [execOp, ho, hb]
  · cases h

theorem ok_mkFunc {f : FuncId} {first caps : Array Operand} {ys : List AX} (h0 : first.size = 0) (hx : trXs caps.toList = some ys) : OpOk P (fMkFunc f ys) (.makeFunc (.func f) first caps) := by
  intro call e s v s' h
  unfold fMkFunc at h
  split at h
  · next vs h1 =>
    simp only [Option.some.injEq, Prod.mk.injEq] at h
    obtain ⟨rfl, rfl⟩ := h
    refine ⟨Nat.le_refl _, fun F w0 ρ w a he hs' hf o ho => ?_⟩
    have hb := he.xs hx h1
    refine res_here (cv := .func (.func f) #[] ⟨caps.toList.map a.eval⟩) hs' (by simp only [Rep]; exact ⟨_, rfl, hb⟩) ?_
    have : first = #[] := Array.eq_empty_of_size_eq_zero h0
    simp [execOp, ho, Instr.makeFunc, this]
    rw [← Array.toList_map]
  · cases h

theorem ok_extract {x : Operand} {y : AX} (hx : trX x = some y) (i : Nat) : OpOk P (fExtract y i) (.extract x i) := by
  intro call e s v s' h
  unfold fExtract at h
  split at h
  · next vs h1 =>
    obtain ⟨h2, rfl⟩ := ans_some h
    refine ⟨Nat.le_refl _, fun F w0 ρ w a he hs' hf o ho => ?_⟩
    have hb := he.x hx h1
    simp only [Rep] at hb
    obtain ⟨cv, hb, hr⟩ := hb
    rw [rd1_eq] at h2
    obtain ⟨u, h3, h4⟩ := hr.get h2
    refine res_here hs' h4 ?_
    simp [execOp, ho, hb, Instr.extract, h3]
  · cases h

/-! ### New blocks -/
theorem zero_rep {t : TypeId} {zs : List AV} (h : zeroOf P t = some zs) : ∃ z, (∀ w, (zeroValue t).run P w = .ok z w) ∧ ∀ ρ, RepL ρ zs z.cells.toList := by
  unfold zeroOf at h
  split at h
  · next i hi =>
    split at h
    · next z hz =>
      simp only [Option.map_eq_some_iff] at h
      obtain ⟨b, hb, rfl⟩ := h
      exact ⟨z, fun w => by simp [zeroValue, typeInfo, hi, hz], fun ρ => (trV_rep ρ z b hb).cells⟩
    · cases h
  · cases h
theorem zeroVal_rep {t : TypeId} {z : AV} (h : zeroVal P t = some z) : ∃ v, (∀ w, (zeroValue t).run P w = .ok v w) ∧ ∀ ρ, Rep ρ z v := by
  unfold zeroVal at h
  split at h
  · next i hi =>
    split at h
    · next v hz => exact ⟨v, fun w => by simp [zeroValue, typeInfo, hi, hz], fun ρ => trV_rep ρ v z h⟩
    · cases h
  · cases h

/-- A row of new cells. -/
theorem Sat.newCells {h : Heap} (hs : Sat F w0 ρ h w) {m : Nat} (hm : ρ m = none) {cs : List AV} {c : Array Value} (hc : RepL ρ cs c.toList) (t : TypeId) :
    Ext ρ (upd ρ m (some ⟨w.heap.size, 0, c.size⟩)) m (m + 1) ∧
    Sat F w0 (upd ρ m (some ⟨w.heap.size, 0, c.size⟩)) (upd h m (some (.cells cs false))) { w with heap := w.heap.push (.cells c t (0, 0)) } := by
  have hx := Ext.upd (ρ := ρ) hm ⟨w.heap.size, 0, c.size⟩
  refine ⟨hx, hs.push hm rfl ⟨rfl, c, t, (0, 0), rfl, rfl, ?_, fun i b hb => ?_, fun i hi hh => by simp at hh⟩⟩
  · have := hc.length; simp at this; simp [this]
  · obtain ⟨v, h1, h2⟩ := hc.get hb
    exact ⟨v, by simpa using h1, h2.mono hx.sub⟩

theorem St.new_heap (s : St) (x : AObj) : (s.new x).2.heap.get = upd s.heap.get s.next (some x) := Tr.put_get _ _ _

theorem ok_alloc {t : TypeId} {zs : List AV} (hz : zeroOf P t = some zs) : OpOk P (fAlloc zs) (.alloc t) := by
  intro call e s v s' h
  simp only [fAlloc, St.new, Option.some.injEq, Prod.mk.injEq] at h
  obtain ⟨rfl, rfl⟩ := h
  refine ⟨Nat.le_succ _, fun F w0 ρ w a he hs hf o ho => ?_⟩
  obtain ⟨z, hrun, hr⟩ := zero_rep hz
  obtain ⟨hx, hs'⟩ := hs.newCells (hf s.next (Nat.le_refl _) (Nat.lt_succ_self _)) (hr ρ) t
  refine ⟨_, .pointer (some ⟨w.heap.size, 0, none⟩), _, hx, ?_, by simpa only [Tr.put_get] using hs', .inl ?_⟩
  · simp only [Rep]; exact ⟨_, upd_same _ _ _, by simp⟩
  · simp [execOp, ho, Instr.alloc, hrun, newVar, newRow]

theorem ok_box {x : Operand} {y : AX} (hx : trX x = some y) (t : TypeId) : OpOk P (fBox y) (.box t x) := by
  intro call e s v s' h
  unfold fBox at h
  split at h
  · next b h1 =>
    simp only [St.new, Option.some.injEq, Prod.mk.injEq] at h
    obtain ⟨rfl, rfl⟩ := h
    refine ⟨Nat.le_succ _, fun F w0 ρ w a he hs hf o ho => ?_⟩
    have hb := (he.x hx h1).cells
    obtain ⟨hx, hs'⟩ := hs.newCells (hf s.next (Nat.le_refl _) (Nat.lt_succ_self _)) hb t
    refine ⟨_, .pointer (some ⟨w.heap.size, 0, none⟩), _, hx, ?_, by simpa only [Tr.put_get] using hs', .inl ?_⟩
    · simp only [Rep]; exact ⟨_, upd_same _ _ _, by simp⟩
    · simp [execOp, ho, Instr.box, newVar, newRow]
  · cases h

theorem ok_makeMap (t : TypeId) : OpOk P fMakeMap (.makeMap t none) := by
  intro call e s v s' h
  simp only [fMakeMap, St.new, Option.some.injEq, Prod.mk.injEq] at h
  obtain ⟨rfl, rfl⟩ := h
  refine ⟨Nat.le_succ _, fun F w0 ρ w a he hs hf o ho => ?_⟩
  have hn := hf s.next (Nat.le_refl _) (Nat.lt_succ_self _)
  refine ⟨upd ρ s.next (some ⟨w.heap.size, 0, 0⟩), .map (some w.heap.size), _, Ext.upd hn _, ?_, by
    have := hs.push (sz := 0) hn (x := .map []) (y := .map #[] 0) rfl ⟨#[], 0, rfl, rfl, Born.nil⟩
    simpa only [Tr.put_get] using this, .inl ?_⟩
  · simp only [Rep]; exact ⟨_, upd_same _ _ _, rfl⟩
  · simp [execOp, ho, Instr.makeMap]

/-! ### Loads and stores -/
theorem agg_run {t : TypeId} {b : Bool} (h : aggA P t = some b) (w : World) : (isAgg t).run P w = .ok b w := by
  unfold aggA at h
  split at h
  · next fs hu => injection h with h; subst h; simp [isAgg, run_underlying hu]
  · next k el hu => injection h with h; subst h; simp [isAgg, run_underlying hu]
  · next d h1 h2 hu =>
    injection h with h; subst h
    simp only [isAgg, Sem.run_bind, run_underlying hu, Result.andThen_ok]
    cases d <;> first | rfl | exact absurd hu (h1 _) | exact absurd hu (h2 _ _)
  · cases h
theorem size_run {t : TypeId} {k : Nat} (h : sizeA P t = some k) (w : World) : (sizeOf t).run P w = .ok k w := by
  unfold sizeA at h
  simp only [Option.map_eq_some_iff] at h
  obtain ⟨i, hi, rfl⟩ := h
  simp [sizeOf, typeInfo, hi]

theorem load1_some {s : St} {o off : Nat} {v : AV} (h : s.load1 o off = some v) : ∃ cs ro, s.heap.get o = some (.cells cs ro) ∧ cs[off]? = some v := by
  unfold St.load1 at h
  split at h
  · next cs ro hc => exact ⟨cs, ro, hc, by rw [← rd1_eq]; exact h⟩
  · cases h
theorem load_some {s : St} {o off k : Nat} {vs : List AV} (h : s.load o off k = some vs) : ∃ cs ro, s.heap.get o = some (.cells cs ro) ∧ rdN cs off k = some vs := by
  unfold St.load at h
  split at h
  · next cs ro hc => exact ⟨cs, ro, hc, h⟩
  · cases h
theorem store_some {s s' : St} {o off : Nat} {vs : List AV} (h : s.store o off vs = some s') : ∃ cs cs', s.heap.get o = some (.cells cs false) ∧ wrN cs off vs = some cs' ∧ s'.heap.get = upd s.heap.get o (some (.cells cs' false)) ∧ s'.next = s.next := by
  unfold St.store at h
  split at h
  · next cs hc =>
    split at h
    · next cs' hw => injection h with h; subst h; exact ⟨cs, cs', hc, hw, Tr.put_get _ _ _, rfl⟩
    · cases h
  · cases h

theorem ok_load1 {x : Operand} {y : AX} {t : TypeId} (hx : trX x = some y) (ht : aggA P t = some false) : OpOk P (fLoad1 y) (.load t x) := by
  intro call e s v s' h
  unfold fLoad1 at h
  split at h
  · next o' off h1 =>
    obtain ⟨h2, rfl⟩ := ans_some h
    refine ⟨Nat.le_refl _, fun F w0 ρ w a he hs' hf o ho => ?_⟩
    have hb := he.x hx h1
    simp only [Rep] at hb
    obtain ⟨l, hl, hb⟩ := hb
    obtain ⟨cs, ro, h3, h4⟩ := load1_some h2
    obtain ⟨u, h5, h6⟩ := hs'.cell h3 hl h4
    refine res_here hs' h6 ?_
    simp [execOp, ho, hb, Instr.loadAt, Instr.sureAddr, loadVar, agg_run ht, h5]
  · cases h
theorem ok_loadN {x : Operand} {y : AX} {t : TypeId} {k : Nat} (hx : trX x = some y) (ht : aggA P t = some true) (hk : sizeA P t = some k) : OpOk P (fLoadN y k) (.load t x) := by
  intro call e s v s' h
  unfold fLoadN at h
  split at h
  · next o' off h1 =>
    split at h
    · next cs h2 =>
      simp only [Option.some.injEq, Prod.mk.injEq] at h
      obtain ⟨rfl, rfl⟩ := h
      refine ⟨Nat.le_refl _, fun F w0 ρ w a he hs' hf o ho => ?_⟩
      have hb := he.x hx h1
      simp only [Rep] at hb
      obtain ⟨l, hl, hb⟩ := hb
      obtain ⟨cs', ro, h3, h4⟩ := load_some h2
      obtain ⟨vs, h5, _, h6, _⟩ := hs'.cells (P := P) h3 hl h4
      refine res_here (cv := .agg ⟨vs⟩) hs' (by simp only [Rep]; exact ⟨vs, rfl, h5⟩) ?_
      simp [execOp, ho, hb, Instr.loadAt, Instr.sureAddr, loadVar, agg_run ht, size_run hk, h6]
    · cases h
  · cases h

theorem RepL.ones {as : List AV} {vs : List Value} (h : RepL ρ as vs) (h1 : allOne as = true) : ∀ v ∈ vs, (∀ x, v ≠ .agg x) ∧ ∀ x, v ≠ .tuple x := by
  intro v hv
  obtain ⟨i, hi, rfl⟩ := List.mem_iff_getElem.1 hv
  have hl := h.length
  obtain ⟨u, h2, h3⟩ := h.get (i := i) (List.getElem?_eq_getElem (by omega))
  rw [List.getElem?_eq_getElem hi] at h2
  injection h2 with h2
  rw [h2]
  exact h3.one (allOne_mem h1 _ (List.getElem_mem _))

theorem ok_store {x y : Operand} {x' y' : AX} {t : TypeId} {k : Nat} (hx : trX x = some x') (hy : trX y = some y') (hk : sizeA P t = some k) : OpOk P (fStore x' y' k) (.store t x y) := by
  intro call e s v s' h
  unfold fStore at h
  split at h
  · next o' off u h1 h2 =>
    simp only [] at h
    cases hb1 : Nat.beq (lenL u.cells) k with
    | false => rw [hb1] at h; cases h
    | true =>
      rw [hb1, cond_true] at h
      cases hb2 : allOne u.cells with
      | false => rw [hb2] at h; cases h
      | true =>
        rw [hb2, cond_true] at h
        split at h
        · next s1 h3 =>
          simp only [Option.some.injEq, Prod.mk.injEq] at h
          obtain ⟨rfl, rfl⟩ := h
          obtain ⟨cs, cs', h4, h5, h6, h7⟩ := store_some h3
          refine ⟨by omega, fun F w0 ρ w a he hs' hf o ho => ?_⟩
          have hb := he.x hx h1
          simp only [Rep] at hb
          obtain ⟨l, hl, hb⟩ := hb
          have hu := (he.x hy h2).cells
          obtain ⟨hb0, w', hrun, hsat⟩ := hs'.store (P := P) h4 hl h5 hu (hu.ones hb2)
          have hk' := Nat.eq_of_beq_eq_true hb1
          rw [lenL_eq] at hk'
          have hsz : (a.eval y).cells.size = k := by have := hu.length; simp at this; rw [this, hk']
          rw [h6]
          refine ⟨ρ, undef, w', by rw [h7]; exact Ext.refl _ _ _, by simp only [AV.undef, Rep]; exact ⟨[], rfl, RepL.nil ρ⟩, hsat, .inr ⟨?_, rfl⟩⟩
          simp [execOp, ho, hb, Instr.storeAt, Instr.sureAddr, storeVar, size_run hk, hsz, hb0, hrun]
        · cases h
  · cases h
end
end Go.Am
