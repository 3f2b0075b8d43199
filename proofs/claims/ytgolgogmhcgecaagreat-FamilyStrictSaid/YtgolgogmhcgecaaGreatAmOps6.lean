/- Each operation of the abstract machine is borne by the model's: append, copy. -/
import Derived.Test.YtgolgogmhcgecaaGreatAmOps5
namespace Go.Am
set_option linter.unusedVariables false
set_option linter.unusedSimpArgs false

section
variable {P : Program} {F : Fr} {w0 w : World} {ρ : Rho} {a : Act} {e : Tr AV}

/-- A block goes by another name. -/
theorem Sat.rename {h : Heap} (hs : Sat F w0 ρ h w) {o m : Nat} {x : AObj} {l : Loc} (ho : h o = some x) (hl : ρ o = some l) (hm : ρ m = none) (hro : x.ro = false) :
    Ext ρ (upd ρ m (some l)) m (m + 1) ∧ Sat F w0 (upd ρ m (some l)) (upd (upd h m (some x)) o none) w := by
  have hx := Ext.upd (ρ := ρ) hm l
  have hne : o ≠ m := by rintro rfl; rw [hm] at hl; cases hl
  refine ⟨hx, ?_⟩
  have get : ∀ {p y}, upd (upd h m (some x)) o none p = some y → p ≠ o ∧ (p = m ∧ y = x ∨ p ≠ m ∧ h p = some y) := fun {p y} hp => by
    by_cases e1 : p = o
    · subst e1; rw [upd_same] at hp; cases hp
    · rw [upd_ne _ _ e1] at hp
      by_cases e2 : p = m
      · subst e2; rw [upd_same] at hp; injection hp with hp; exact ⟨e1, .inl ⟨rfl, hp.symm⟩⟩
      · rw [upd_ne _ _ e2] at hp; exact ⟨e1, .inr ⟨e2, hp⟩⟩
  constructor
  · intro p y hp
    obtain ⟨e1, ⟨rfl, rfl⟩ | ⟨e2, hp⟩⟩ := get hp
    · obtain ⟨l', h1, h2⟩ := hs.objs o _ ho
      rw [hl] at h1; injection h1 with h1; subst h1
      exact ⟨l, upd_same _ _ _, h2.mono hx.sub⟩
    · obtain ⟨l', h1, h2⟩ := hs.objs p y hp
      exact ⟨l', by rw [upd_ne _ _ e2]; exact h1, h2.mono hx.sub⟩
  · intro p q y z l1 l2 hp hq hpq h1 h2 hb
    obtain ⟨e1, hp'⟩ := get hp
    obtain ⟨e2, hq'⟩ := get hq
    rcases hp' with ⟨rfl, rfl⟩ | ⟨e3, hp'⟩ <;> rcases hq' with ⟨rfl, rfl⟩ | ⟨e4, hq'⟩
    · exact absurd rfl hpq
    · rw [upd_same] at h1; injection h1 with h1; subst h1
      rw [upd_ne _ _ e4] at h2
      have := (hs.inj o q _ z l l2 ho hq' (fun r => e2 r.symm) hl h2 hb).1
      rw [hro] at this; cases this
    · rw [upd_same] at h2; injection h2 with h2; subst h2
      rw [upd_ne _ _ e3] at h1
      have := (hs.inj p o y _ l1 l hp' ho e1 h1 hl hb).2
      rw [hro] at this; cases this
    · rw [upd_ne _ _ e3] at h1
      rw [upd_ne _ _ e4] at h2
      exact hs.inj p q y z l1 l2 hp' hq' hpq h1 h2 hb
  · intro p l' hp
    by_cases e1 : p = m
    · subst e1; rw [upd_same] at hp; injection hp with hp; subst hp; exact hs.low o l hl
    · rw [upd_ne _ _ e1] at hp; exact hs.low p l' hp
  · exact hs.keep
  · intro p y l' hp hr h1
    obtain ⟨e1, ⟨rfl, rfl⟩ | ⟨e2, hp⟩⟩ := get hp
    · rw [upd_same] at h1; injection h1 with h1; subst h1
      exact hs.off o _ l ho hro hl
    · rw [upd_ne _ _ e2] at h1
      exact hs.off p y l' hp hr h1
  · exact hs.plow
  · intro p y l' hp h1
    obtain ⟨e1, ⟨rfl, rfl⟩ | ⟨e2, hp⟩⟩ := get hp
    · rw [upd_same] at h1; injection h1 with h1; subst h1
      exact hs.priv o _ l ho hl
    · rw [upd_ne _ _ e2] at h1
      exact hs.priv p y l' hp h1
  · exact hs.os
  · exact hs.tape
  · exact hs.output
  · exact hs.size

/-- Cells laid behind those that are known, in a block with room. -/
theorem Sat.extend {h : Heap} (hs : Sat F w0 ρ h w) {o : Nat} {cs as : List AV} (ho : h o = some (.cells cs false)) {l : Loc} (hl : ρ o = some l) {vs : List Value} (hr : RepL ρ as vs)
    (h1 : ∀ v ∈ vs, (∀ x, v ≠ .agg x) ∧ ∀ x, v ≠ .tuple x) (hsz : cs.length + as.length ≤ l.sz) :
    ∃ w', (storeCells ⟨l.b, cs.length, none⟩ vs).run P w = .ok () w' ∧ Sat F w0 ρ (upd h o (some (.cells (cs ++ as) false))) w' := by
  obtain ⟨l', hl', hx⟩ := hs.objs o _ ho
  rw [hl] at hl'; injection hl' with hl'; subst hl'
  obtain ⟨hb0, c, t, fr, h3, h4, h5, h6, h7⟩ := hx
  have hlen := hr.length
  have hrun := run_storeCells_over (P := P) l.b cs.length t fr vs 0 c w h3 (by omega) (by rw [h4]; exact h7) h1
  refine ⟨_, hrun, hs.write ho rfl hl rfl ⟨hb0, _, t, fr, rfl, by rw [overA_size (by omega)]; exact h4, by simp; omega, fun j u hu => ?_, h7⟩⟩
  rw [overA_get (by omega)]
  simp only [Nat.add_zero]
  by_cases a1 : j < cs.length
  · rw [List.getElem?_append_left a1] at hu
    rw [if_pos a1]
    exact h6 j u hu
  · rw [List.getElem?_append_right (by omega)] at hu
    have hj : j - cs.length < as.length := (List.getElem?_eq_some_iff.1 hu).1
    rw [if_neg a1, if_pos (by omega)]
    exact hr.get hu

theorem growBy_le (n : Nat) : ∀ (r c : Nat), c ≤ n → 256 ≤ n → Builtin.growBy n r c ≤ 2 * n
  | 0, c, h, h2 => by simp only [Builtin.growBy]; omega
  | r + 1, c, h, h2 => by
    simp only [Builtin.growBy]
    by_cases q : c ≥ n
    · rw [if_pos q]; omega
    · rw [if_neg q]
      by_cases q2 : c + (c + 768) / 4 ≤ n
      · exact growBy_le n r _ q2 h2
      · cases r with
        | zero => simp only [Builtin.growBy]; omega
        | succ r => simp only [Builtin.growBy]; rw [if_pos (by omega)]; omega
theorem cap_le (n c : Nat) (h : c < n) : Builtin.nextslicecap n c ≤ 2 * n := by
  unfold Builtin.nextslicecap
  split
  · omega
  · split
    · omega
    · exact growBy_le n 4 c (by omega) (by omega)

/-- The body of the model's append, behind its arguments. -/
def appSem (es n : Nat) (el : TypeId) (zeros : Bool) (base : Option Addr) (sLen sCap : Nat) (cx x' : Value) (appended : Sem (Array Value)) : Sem Value := do
  let need := sLen + n
  if need ≤ sCap then
    let new ← appended
    if let some a := base then storeCells (a.add (sLen * es)) new.toList
    pure (.slice base need sCap)
  else
    if (need : Int) > IntKind.i64.max ∧ (zeros ∨ (← typeInfo el).bytes = 0) then runtimePanic (.error "growslice: len out of range")
    if Builtin.nextslicecap need sCap * (← typeInfo el).bytes > 2 ^ 48 then (if zeros then runtimePanic (.error "growslice: len out of range") else do
      if !(← Builtin.mayShare es sLen n base x') then mark .noRoom
      unsupported (.resourceLimit "append: a slice or a string whose bytes no memory bears"))
    let newCap ← choose (.appendCap need sCap el)
    askRoom (newCap * (← typeInfo el).bytes)
    let old ← Builtin.firstCells es sLen cx
    let new ← appended
    let rest := Builtin.zeroCells (← zeroValue el).cells (newCap - need)
    pure (.slice (some (← newRow el (old ++ new ++ rest))) need newCap)

theorem i64max : IntKind.i64.max = 9223372036854775807 := rfl

/-- An append that makes a new row. -/
theorem grow_run {m es bytes n : Nat} {as vs : List AV} {old news : List Value} (h0 : 0 < es) (hb0 : 0 < bytes) {el : TypeId} {z : List AV} (hby : bytesA P el = some bytes) (hz : zeroOf P el = some z) (hzl : z.length = es)
    {base : Option Addr} {sLen sCap : Nat} {cx x' : Value} {zeros : Bool} {appended : Sem (Array Value)} {h' : Heap} (hlt : sCap < sLen + n) (hbd : (2 * (sLen + n)) * bytes ≤ 140737488355328)
    (hn : RepL ρ vs news) (hvl : vs.length = n * es) (happ : ∀ w' : World, w'.heap = w.heap → appended.run P w' = .ok ⟨news⟩ w') (has : RepL ρ as old) (hol : as.length = sLen * es) (hfc : ∀ w' : World, w'.heap = w.heap → (Builtin.firstCells es sLen cx).run P w' = .ok ⟨old⟩ w')
    (hm : ρ m = none) (hsat : Sat F w0 ρ h' w) :
    ∃ ρ' cv w', Ext ρ ρ' m (m + 1) ∧ Rep ρ' (.slice m 0 (sLen + n) (.full es)) cv ∧ Sat F w0 ρ' (upd h' m (some (.cells (as ++ vs) false))) w' ∧ (appSem es n el zeros base sLen sCap cx x' appended).run P w = .ok cv w' := by
  have hti : ∃ i, (∀ w : World, (typeInfo el).run P w = .ok i w) ∧ i.bytes = bytes := by
    unfold bytesA at hby
    simp only [Option.map_eq_some_iff] at hby
    obtain ⟨i, hi, hib⟩ := hby
    exact ⟨i, fun w => by simp [typeInfo, hi], hib⟩
  obtain ⟨ti, hti1, hti2⟩ := hti
  obtain ⟨zv, hzrun, hzr⟩ := zero_rep hz
  have hzs : zv.cells.size = es := by have := (hzr ρ).length; rw [Array.length_toList] at this; omega
  have hnl := hn.length
  have hal := has.length
  obtain ⟨N, hN, hNge⟩ : ∃ N, (Question.appendCap (sLen + n) sCap el).cut (w.tape w.drawn (.appendCap (sLen + n) sCap el)) = N ∧ sLen + n ≤ N := ⟨_, rfl, by simp only [Question.cut]; exact Nat.le_add_right _ _⟩
  have hneed : sLen + n ≤ 140737488355328 := by
    have : (sLen + n) * 1 ≤ (2 * (sLen + n)) * bytes := Nat.mul_le_mul (by omega) hb0
    omega
  have hcap := cap_le (sLen + n) sCap hlt
  have hcapb : Builtin.nextslicecap (sLen + n) sCap * bytes ≤ 140737488355328 := Nat.le_trans (Nat.mul_le_mul_right _ hcap) hbd
  let c : Array Value := (⟨old⟩ : Array Value) ++ ⟨news⟩ ++ Builtin.zeroCells zv.cells (N - (sLen + n))
  have hzc : (Builtin.zeroCells zv.cells (N - (sLen + n))).size = (N - (sLen + n)) * es := by simp [Builtin.zeroCells, hzs]
  have hcs : c.size = N * es := by
    simp only [c, Array.size_append, hzc]
    have e1 : (⟨old⟩ : Array Value).size = sLen * es := by show old.length = _; omega
    have e2 : (⟨news⟩ : Array Value).size = n * es := by show news.length = _; omega
    rw [e1, e2, ← Nat.add_mul, ← Nat.add_mul]
    congr 1
    omega
  have hle : (as ++ vs).length ≤ N * es := by
    rw [List.length_append, hol, hvl, ← Nat.add_mul]
    exact Nat.mul_le_mul_right _ hNge
  have hrep := has.append hn
  have hx := Ext.upd (ρ := ρ) hm ⟨w.heap.size, 0, N * es⟩
  have hs2 := (hsat.drawn (w.drawn + 1)).push (sz := N * es) hm (x := .cells (as ++ vs) false) (y := .cells c el (0, 0)) rfl
    ⟨rfl, c, el, (0, 0), rfl, hcs, hle, fun i u hu => by
      obtain ⟨v, g1, g2⟩ := hrep.get hu
      refine ⟨v, ?_, g2.mono hx.sub⟩
      have hi : i < (old ++ news).length := (List.getElem?_eq_some_iff.1 g1).1
      show ((⟨old⟩ : Array Value) ++ ⟨news⟩ ++ Builtin.zeroCells zv.cells (N - (sLen + n)))[i]? = some v
      rw [Array.getElem?_append_left (by simp at hi ⊢; exact hi)]
      simpa using g1, fun i hi hh => by simp at hh⟩
  refine ⟨_, .slice (some ⟨w.heap.size, 0, none⟩) (sLen + n) N, _, hx, ?_, hs2, ?_⟩
  · simp only [Rep, capOk]
    exact ⟨⟨w.heap.size, 0, N * es⟩, N, upd_same _ _ _, by simp, hNge, rfl, by simp⟩
  · unfold appSem
    simp only []
    rw [if_neg (by omega)]
    have g1 : ¬ (((sLen + n : Nat) : Int) > IntKind.i64.max ∧ (zeros = true ∨ ti.bytes = 0)) := by rw [i64max]; omega
    have g2 : ¬ (Builtin.nextslicecap (sLen + n) sCap * ti.bytes > 2 ^ 48) := by rw [hti2]; omega
    simp only [Sem.run_bind, hti1, Result.andThen_ok, if_neg g1, if_neg g2, Sem.run_pure, run_choose, Question.forced, hN, run_askRoom, hfc _ rfl, happ _ rfl, hzrun, newRow, run_newObj]
    have f1 := hfc w.drew rfl
    have f2 := happ w.drew rfl
    simp [hN, f1, f2, c]
    rfl

theorem firstCells_nil (es : Nat) (w' : World) : (Builtin.firstCells es 0 (.slice none 0 0)).run P w' = .ok #[] w' := rfl

/-- What an append comes to. -/
def AppRes (P : Program) (F : Fr) (w0 : World) (ρ : Rho) (s s' : St) (v : AV) (es n : Nat) (el : TypeId) (cx : Value) (w : World) (news : List Value) : Prop :=
  ∃ base sLen sCap, cx = .slice base sLen sCap ∧ ∀ (zeros : Bool) (x' : Value) (appended : Sem (Array Value)), (∀ w' : World, w'.heap = w.heap → appended.run P w' = .ok ⟨news⟩ w') →
    ∃ ρ' cv w', Ext ρ ρ' s.next s'.next ∧ Rep ρ' v cv ∧ Sat F w0 ρ' s'.heap.get w' ∧ (appSem es n el zeros base sLen sCap cx x' appended).run P w = .ok cv w'

/-- In place. -/
theorem place_run {es n sLen sCap : Nat} {el : TypeId} {zeros : Bool} {base : Option Addr} {cx x' : Value} {appended : Sem (Array Value)} {news : List Value} {w' : World} (hle : sLen + n ≤ sCap) (happ : appended.run P w = .ok ⟨news⟩ w)
    (hst : (match base with | some a => storeCells (a.add (sLen * es)) news | none => pure () : Sem Unit).run P w = .ok () w') : (appSem es n el zeros base sLen sCap cx x' appended).run P w = .ok (.slice base (sLen + n) sCap) w' := by
  unfold appSem
  simp only []
  rw [if_pos hle]
  simp only [Sem.run_bind, happ, Result.andThen_ok]
  cases base with
  | none => simp at hst; subst hst; simp
  | some ad => simp only [] at hst; simp [hst]

theorem appendTo_next {s s' : St} {es bytes n : Nat} {x v : AV} {vs : List AV} (h : appendTo s es bytes x n vs = some (v, s')) : s'.next = s.next ∨ s'.next = s.next + 1 := by
  unfold appendTo at h
  split at h
  · split at h
    · simp only [Option.some.injEq, Prod.mk.injEq] at h; exact .inl (by rw [h.2])
    · cases q : Nat.ble (2 * n * bytes) 140737488355328 with
      | false => rw [q] at h; cases h
      | true => rw [q] at h; simp only [cond_true, St.new, Option.some.injEq, Prod.mk.injEq] at h; exact .inr (by rw [← h.2])
  · split at h
    · next cs ro hc =>
      split at h
      · next c =>
        cases q : Nat.ble (_ + n) c with
        | true =>
          rw [q, cond_true] at h
          split at h
          · simp only [Option.some.injEq, Prod.mk.injEq] at h; exact .inl (by rw [h.2])
          · split at h
            · next s1 h1 => simp only [Option.some.injEq, Prod.mk.injEq] at h; obtain ⟨_, _, _, _, _, g⟩ := store_some h1; exact .inl (by rw [← h.2, g])
            · cases h
        | false =>
          rw [q, cond_false] at h
          cases q2 : Nat.ble ((2 * (_ + n) + 2 * c) * bytes) 140737488355328 with
          | false => rw [q2] at h; cases h
          | true =>
            rw [q2, cond_true] at h
            split at h
            · simp only [St.new, Option.some.injEq, Prod.mk.injEq] at h; exact .inr (by rw [← h.2])
            · cases h
      · next es' =>
        cases q : Nat.beq es es' with
        | false => rw [q] at h; cases h
        | true =>
          rw [q, cond_true] at h
          cases ro with
          | true => cases h
          | false =>
          rw [cond_false] at h
          cases q1 : Nat.ble (_ + (_ + n) * es) (lenL cs) with
          | true =>
            rw [q1, cond_true] at h
            split at h
            · simp only [Option.some.injEq, Prod.mk.injEq] at h; exact .inl (by rw [h.2])
            · split at h
              · next s1 h1 => simp only [Option.some.injEq, Prod.mk.injEq] at h; obtain ⟨_, _, _, _, _, g⟩ := store_some h1; exact .inl (by rw [← h.2, g])
              · cases h
          | false =>
            rw [q1, cond_false] at h
            cases q2 : Nat.beq (_ + _ * es) (lenL cs) with
            | false => rw [q2] at h; cases h
            | true =>
              rw [q2, cond_true] at h
              · cases q3 : Nat.beq _ 0 with
                | false => rw [q3] at h; cases h
                | true =>
                  rw [q3, cond_true] at h
                  cases q4 : Nat.ble (4 * (_ + n) * bytes) 140737488355328 with
                  | false => rw [q4] at h; cases h
                  | true => rw [q4] at h; simp only [cond_true, St.new, Option.some.injEq, Prod.mk.injEq] at h; exact .inr (by rw [← h.2])
    · cases h
  · cases h

theorem append_run {s s' : St} {es bytes n : Nat} {x v : AV} {vs : List AV} (h : appendTo s es bytes x n vs = some (v, s')) (h0 : 0 < es) (hb0 : 0 < bytes) {el : TypeId} {z : List AV} (hby : bytesA P el = some bytes) (hz : zeroOf P el = some z) (hzl : z.length = es)
    (hvl : vs.length = n * es) (hs : Sat F w0 ρ s.heap.get w) (hf : Fresh ρ s.next s'.next) {cx : Value} (hx : Rep ρ x cx) {news : List Value} (hn : RepL ρ vs news) (h1 : ∀ v ∈ news, (∀ x, v ≠ .agg x) ∧ ∀ x, v ≠ .tuple x) :
    AppRes P F w0 ρ s s' v es n el cx w news := by
  have hnl := hn.length
  unfold appendTo at h
  split at h
  · -- nil
    simp only [Rep] at hx
    subst hx
    split at h
    · simp only [Option.some.injEq, Prod.mk.injEq] at h
      obtain ⟨rfl, rfl⟩ := h
      refine ⟨none, 0, 0, rfl, fun zeros x' appended happ => ⟨ρ, .slice none 0 0, w, Ext.refl _ _ _, by simp only [Rep], hs, place_run (by omega) (happ w rfl) rfl⟩⟩
    · next hne =>
      cases q : Nat.ble (2 * n * bytes) 140737488355328 with
      | false => rw [q] at h; cases h
      | true =>
        rw [q] at h
        simp only [cond_true, St.new, Option.some.injEq, Prod.mk.injEq] at h
        obtain ⟨rfl, rfl⟩ := h
        have hbd := Nat.le_of_ble_eq_true q
        have hn0 : 0 < n := Nat.pos_of_ne_zero (fun z => hne z)
        refine ⟨none, 0, 0, rfl, fun zeros x' appended happ => ?_⟩
        obtain ⟨ρ', cv, w', g1, g2, g3, g4⟩ := grow_run (P := P) (as := []) (old := []) (sLen := 0) (sCap := 0) (cx := .slice none 0 0) (x' := x') (zeros := zeros) (base := none) h0 hb0 hby hz hzl (by omega) (by simpa using hbd) hn hvl happ (RepL.nil ρ) (by simp) (fun w' _ => firstCells_nil es w') (hf s.next (Nat.le_refl _) (Nat.lt_succ_self _)) hs
        exact ⟨ρ', cv, w', g1, by simpa using g2, by simpa only [Tr.put_get, List.nil_append] using g3, g4⟩
  · -- a slice
    next o' off len cap =>
    simp only [Rep] at hx
    obtain ⟨l, c0, hl, rfl, hlenc, hcap⟩ := hx
    split at h
    · next cs ro hc =>
      split at h
      · next c =>
        simp only [capOk] at hcap
        have hcc : c = c0 := hcap.symm
        subst hcc
        cases q : Nat.ble (len + n) c with
        | true =>
          rw [q, cond_true] at h
          have hle := Nat.le_of_ble_eq_true q
          split at h
          · simp only [Option.some.injEq, Prod.mk.injEq] at h
            obtain ⟨rfl, rfl⟩ := h
            have : news = [] := List.eq_nil_of_length_eq_zero (by omega)
            subst this
            refine ⟨_, _, _, rfl, fun zeros x' appended happ => ⟨ρ, _, w, Ext.refl _ _ _, by simp only [Rep, capOk]; exact ⟨l, c, hl, rfl, hle, rfl⟩, hs, place_run hle (happ w rfl) rfl⟩⟩
          · split at h
            · next s1 hst =>
              simp only [Option.some.injEq, Prod.mk.injEq] at h
              obtain ⟨rfl, rfl⟩ := h
              obtain ⟨cs2, cs', g1, g2, g3, g4⟩ := store_some hst
              obtain ⟨hb0', w', g5, g6⟩ := hs.store (P := P) g1 hl g2 hn h1
              refine ⟨_, _, _, rfl, fun zeros x' appended happ => ⟨ρ, _, w', by rw [g4]; exact Ext.refl _ _ _, by simp only [Rep, capOk]; exact ⟨l, c, hl, rfl, hle, rfl⟩, by rw [g3]; exact g6, place_run hle (happ w rfl) ?_⟩⟩
              simp only [addr_add, hb0', Nat.zero_add]
              exact g5
            · cases h
        | false =>
          rw [q, cond_false] at h
          have hgt : c < len + n := by
            rcases Nat.lt_or_ge c (len + n) with z | z
            · exact z
            · rw [Nat.ble_eq_true_of_le z] at q; cases q
          cases q2 : Nat.ble ((2 * (len + n) + 2 * c) * bytes) 140737488355328 with
          | false => rw [q2] at h; cases h
          | true =>
            rw [q2, cond_true] at h
            have hbd := Nat.le_of_ble_eq_true q2
            split at h
            · next old hold =>
              simp only [St.new, Option.some.injEq, Prod.mk.injEq] at h
              obtain ⟨rfl, rfl⟩ := h
              obtain ⟨ovs, g1, g2, g3, g4⟩ := hs.cells (P := P) hc hl hold
              have hol := (rdN_some cs off (len * es) old hold)
              have holl : old.length = len * es := by rw [← g1.length]; exact g2
              refine ⟨_, _, _, rfl, fun zeros x' appended happ => ?_⟩
              obtain ⟨ρ', cv, w', e1, e2, e3, e4⟩ := grow_run (P := P) (as := old) (old := ovs) (sLen := len) (sCap := c) (cx := .slice (some ⟨l.b, l.base + off, none⟩) len c) (x' := x') (zeros := zeros) (base := some ⟨l.b, l.base + off, none⟩) h0 hb0 hby hz hzl hgt
                (Nat.le_trans (Nat.mul_le_mul_right _ (by omega)) hbd) hn hvl happ g1 holl (fun w' hw' => by
                  simp only [Builtin.firstCells]
                  have hs' : ∀ j v, ovs[j]? = some v → w'.cell? (Addr.add ⟨l.b, l.base + off, none⟩ j) = some v := fun j v hj => by
                    rw [addr_add]
                    have := g4 j v hj
                    simp only [World.cell?, hw'] at this ⊢
                    exact this
                  have := run_loadCells_list (P := P) w' ⟨l.b, l.base + off, none⟩ ovs hs'
                  rw [g2] at this
                  exact this) (hf s.next (Nat.le_refl _) (Nat.lt_succ_self _)) hs
              exact ⟨ρ', cv, w', e1, e2, by simpa only [Tr.put_get, appL_eq] using e3, e4⟩
            · cases h
      · next es' =>
        simp only [capOk] at hcap
        obtain ⟨hbase, hcap⟩ := hcap
        cases q : Nat.beq es es' with
        | false => rw [q] at h; cases h
        | true =>
          have := Nat.eq_of_beq_eq_true q; subst this
          rw [q, cond_true] at h
          cases ro with
          | true => cases h
          | false =>
          rw [cond_false] at h
          have hksz : cs.length ≤ l.sz := by
            obtain ⟨l', e1, e2⟩ := hs.objs o' _ hc
            rw [hl] at e1; injection e1 with e1; subst e1
            obtain ⟨_, _, _, _, _, _, e3, _⟩ := e2
            exact e3
          cases q1 : Nat.ble (off + (len + n) * es) (lenL cs) with
          | true =>
            rw [q1, cond_true] at h
            have hk := Nat.le_of_ble_eq_true q1
            rw [lenL_eq] at hk
            split at h
            · simp only [Option.some.injEq, Prod.mk.injEq] at h
              obtain ⟨rfl, rfl⟩ := h
              have : news = [] := List.eq_nil_of_length_eq_zero (by omega)
              subst this
              refine ⟨_, _, _, rfl, fun zeros x' appended happ => ?_⟩
              have hlc : len + 0 ≤ c0 := by
                have : (len + 0) * es ≤ c0 * es := by omega
                exact Nat.le_of_mul_le_mul_right this h0
              exact ⟨ρ, _, w, Ext.refl _ _ _, by simp only [Rep, capOk]; exact ⟨l, c0, hl, rfl, hlc, hbase, hcap⟩, hs, place_run hlc (happ w rfl) rfl⟩
            · next hne =>
              split at h
              · next s1 hst =>
                simp only [Option.some.injEq, Prod.mk.injEq] at h
                obtain ⟨rfl, rfl⟩ := h
                obtain ⟨cs2, cs', g1, g2, g3, g4⟩ := store_some hst
                obtain ⟨hb0', w', g5, g6⟩ := hs.store (P := P) g1 hl g2 hn h1
                have hle : len + n ≤ c0 := by
                  rw [hc] at g1
                  injection g1 with g1; injection g1 with g1 g1'
                  subst g1
                  have : (len + n) * es ≤ c0 * es := by omega
                  exact Nat.le_of_mul_le_mul_right this h0
                refine ⟨_, _, _, rfl, fun zeros x' appended happ => ⟨ρ, _, w', by rw [g4]; exact Ext.refl _ _ _, by simp only [Rep, capOk]; exact ⟨l, c0, hl, rfl, hle, hbase, hcap⟩, by rw [g3]; exact g6, place_run hle (happ w rfl) ?_⟩⟩
                simp only [addr_add, hb0', Nat.zero_add]
                exact g5
              · cases h
          | false =>
            rw [q1, cond_false] at h
            cases q2 : Nat.beq (off + len * es) (lenL cs) with
            | false => rw [q2] at h; cases h
            | true =>
              rw [q2, cond_true] at h
              have hfr := Nat.eq_of_beq_eq_true q2
              rw [lenL_eq] at hfr
              · cases q3 : Nat.beq off 0 with
                | false => rw [q3] at h; cases h
                | true =>
                  rw [q3, cond_true] at h
                  have := Nat.eq_of_beq_eq_true q3; subst this
                  cases q4 : Nat.ble (4 * (len + n) * bytes) 140737488355328 with
                  | false => rw [q4] at h; cases h
                  | true =>
                    rw [q4] at h
                    simp only [cond_true, St.new, Option.some.injEq, Prod.mk.injEq] at h
                    obtain ⟨rfl, rfl⟩ := h
                    have hbd := Nat.le_of_ble_eq_true q4
                    have hm := hf s.next (Nat.le_refl _) (Nat.lt_succ_self _)
                    have hne : o' ≠ s.next := by rintro rfl; rw [hm] at hl; cases hl
                    refine ⟨_, _, _, rfl, fun zeros x' appended happ => ?_⟩
                    by_cases hin : len + n ≤ c0
                    · -- in place
                      have hsz : cs.length + vs.length ≤ l.sz := by
                        have : (len + n) * es ≤ c0 * es := Nat.mul_le_mul_right _ hin
                        rw [Nat.add_mul] at this
                        omega
                      obtain ⟨w', g1, g2⟩ := hs.extend (P := P) hc hl hn h1 hsz
                      obtain ⟨g3, g4⟩ := g2.rename (o := o') (m := s.next) (upd_same _ _ _) hl hm rfl
                      refine ⟨_, _, w', g3, ?_, ?_, place_run hin (happ w rfl) ?_⟩
                      · simp only [Rep, capOk]
                        exact ⟨l, c0, upd_same _ _ _, rfl, hin, hbase, hcap⟩
                      · have : upd (upd (upd s.heap.get o' (some (.cells (cs ++ vs) false))) s.next (some (.cells (cs ++ vs) false))) o' none = upd (upd s.heap.get s.next (some (.cells (appL cs vs) false))) o' none := by
                          funext j
                          rw [appL_eq]
                          by_cases e1 : j = o'
                          · subst e1; rw [upd_same, upd_same]
                          · rw [upd_ne _ _ e1, upd_ne _ _ e1]
                            by_cases e2 : j = s.next
                            · subst e2; rw [upd_same, upd_same]
                            · rw [upd_ne _ _ e2, upd_ne _ _ e2, upd_ne _ _ e1]
                        simp only [Tr.put_get]
                        rw [← this]
                        exact g4
                      · simp only [addr_add, hbase, Nat.zero_add]
                        rw [show len * es = cs.length from by omega]
                        exact g1
                    · -- a new row
                      have hold : rdN cs 0 (len * es) = some cs := by
                        have gen : ∀ (cs : List AV), takeN cs cs.length = some cs := fun cs => by
                          induction cs with
                          | nil => rfl
                          | cons a cs ih => show consO a (takeN cs cs.length) = _; rw [ih]; rfl
                        have e : len * es = cs.length := by omega
                        rw [e]
                        cases cs with
                        | nil => rfl
                        | cons b cs => exact gen (b :: cs)
                      obtain ⟨ovs, g1, g2, g3, g4⟩ := hs.cells (P := P) hc hl hold
                      obtain ⟨ρ', cv, w', e1, e2, e3, e4⟩ := grow_run (P := P) (as := cs) (old := ovs) (sLen := len) (sCap := c0) (cx := .slice (some ⟨l.b, l.base + 0, none⟩) len c0) (x' := x') (zeros := zeros) (base := some ⟨l.b, l.base + 0, none⟩) h0 hb0 hby hz hzl (by omega)
                        (Nat.le_trans (Nat.mul_le_mul_right _ (by omega)) hbd) hn hvl happ g1 (by omega) (fun w' hw' => by
                          simp only [Builtin.firstCells]
                          have hs' : ∀ j v, ovs[j]? = some v → w'.cell? (Addr.add ⟨l.b, l.base + 0, none⟩ j) = some v := fun j v hj => by
                            rw [addr_add]
                            have := g4 j v hj
                            simp only [World.cell?, hw'] at this ⊢
                            exact this
                          have := run_loadCells_list (P := P) w' ⟨l.b, l.base + 0, none⟩ ovs hs'
                          rw [g2] at this
                          exact this) hm hs
                      refine ⟨ρ', cv, w', e1, e2, ?_, e4⟩
                      simp only [Tr.put_get, appL_eq]
                      exact e3.sub fun j y hj => by
                        by_cases e5 : j = o'
                        · subst e5; rw [upd_same] at hj; cases hj
                        · rw [upd_ne _ _ e5] at hj; exact hj
    · cases h
  · cases h

theorem numOf_zeros {u : TypeId} (b : Bool) (hu : ∃ d, P.underlying u = some d ∧ ((∃ k, d = .int k) ↔ b = true)) (w : World) : (do pure ((← underlying u) matches .int _) : Sem Bool).run P w = .ok b w := by
  obtain ⟨d, hd, hb⟩ := hu
  simp only [Sem.run_bind, run_underlying hd, Result.andThen_ok]
  cases b with
  | true => obtain ⟨k, rfl⟩ := hb.2 rfl; rfl
  | false =>
    cases d <;> first | rfl | exact absurd (hb.1 ⟨_, rfl⟩) (by simp)

theorem ok_append {t u el el' ty : TypeId} {es bytes : Nat} {z : List AV} {x y : Operand} {x' y' : AX} {ts : Array TypeId} {args : Array Operand} (hu : P.underlying t = some (.slice el)) (he1 : sizeA P el = some es) (hby : bytesA P el = some bytes) (hz : zeroOf P el = some z) (hzl : z.length = es) (h0 : 0 < es) (hb0 : 0 < bytes)
    (hv : P.underlying u = some (.slice el')) (ha : args = #[x, y]) (ht0 : ts[0]? = some t) (ht1 : ts[1]? = some u) (hx : trX x = some x') (hy : trX y = some y') : OpOk P (fAppend es bytes x' y') (.call { callee := .builtin .append, args := args, argTypes := ts }) := by
  subst ha
  intro call e s v s' h
  have key : ∀ (a1 : AV) (n : Nat) (vs : List AV), appendTo s es bytes a1 n vs = some (v, s') → vs.length = n * es → evX e x' = some a1 → (∀ (F : Fr) (w0 : World) (ρ : Rho) (w : World) (a : Act), EnvRep ρ e a.tmps → Sat F w0 ρ s.heap.get w → Fresh ρ s.next s'.next →
      ∃ news, RepL ρ vs news ∧ (∀ v ∈ news, (∀ x, v ≠ .agg x) ∧ ∀ x, v ≠ .tuple x) ∧ (∃ b c, a.eval y = .slice b n c) ∧ ∀ w' : World, w'.heap = w.heap → (Builtin.firstCells es n (a.eval y)).run P w' = .ok ⟨news⟩ w') →
      s.next ≤ s'.next ∧ ∀ (F : Fr) (w0 : World) (ρ : Rho) (w : World) (a : Act), EnvRep ρ e a.tmps → Sat F w0 ρ s.heap.get w → Fresh ρ s.next s'.next →
      ∀ o : Oper, o.op = .call { callee := .builtin .append, args := #[x, y], argTypes := ts } → Res P F w0 ρ s.next s'.next s'.heap.get v ((execOp a.eval o).run P w) := by
    intro a1 n vs happ hvl h1 hsrc
    refine ⟨by rcases appendTo_next happ with q | q <;> omega, fun F w0 ρ w a he hs hf o ho => ?_⟩
    obtain ⟨news, g1, g2, ⟨yb, yc, g3⟩, g4⟩ := hsrc F w0 ρ w a he hs hf
    obtain ⟨base, sLen, sCap, hcx, hrun⟩ := append_run (P := P) happ h0 hb0 hby hz hzl hvl hs hf (he.x hx h1) g1 g2
    obtain ⟨ρ', cv, w', e1, e2, e3, e4⟩ := hrun false (a.eval y) (Builtin.firstCells es n (a.eval y)) g4
    refine ⟨ρ', cv, w', e1, e2, e3, .inl ?_⟩
    have e5 : (Builtin.append_ ts o.type #[a.eval x, a.eval y]).run P w = .ok cv w' := by
      rw [← e4]
      simp only [Builtin.append_, ht0, ht1, hcx, g3]
      simp only [List.getElem?_toArray, List.getElem?_cons_zero, List.getElem?_cons_succ]
      simp only [Sem.run_bind, run_underlying hu, run_underlying hv, Result.andThen_ok, size_run he1, Builtin.lenOf, Sem.run_pure]
      simp only [appSem, hcx, g3]
      rfl
    simp [execOp, ho, resolve, invoke, builtin, e5]
  unfold fAppend at h
  split at h
  · next a1 h1 h2 =>
    refine key a1 0 [] h (by simp) h1 fun F w0 ρ w a he hs hf => ?_
    have r := he.x hy h2
    simp only [Rep] at r
    exact ⟨[], RepL.nil ρ, by simp, ⟨none, 0, r⟩, fun w' _ => by rw [r]; exact firstCells_nil es w'⟩
  · next a1 o' off len cap h1 h2 =>
    split at h
    · next vs hld =>
      cases q : allOne vs with
      | false => rw [q] at h; cases h
      | true =>
        rw [q, cond_true] at h
        obtain ⟨cs, ro, g1, g2⟩ := load_some hld
        obtain ⟨g3, g4⟩ := rdN_some cs off (len * es) vs g2
        refine key a1 len vs h (by rw [g4]; simp; omega) h1 fun F w0 ρ w a he hs hf => ?_
        have r := he.x hy h2
        simp only [Rep] at r
        obtain ⟨l, c, hl, r, _⟩ := r
        obtain ⟨us, e1, e2, e3, e4⟩ := hs.cells (P := P) g1 hl g2
        refine ⟨us, e1, e1.ones q, ⟨_, _, r⟩, fun w' hw' => ?_⟩
        rw [r]
        simp only [Builtin.firstCells]
        have := run_loadCells_list (P := P) w' ⟨l.b, l.base + off, none⟩ us (fun j v hj => by
          rw [addr_add]
          have := e4 j v hj
          simp only [World.cell?, hw'] at this ⊢
          exact this)
        rw [e2] at this
        exact this
    · cases h
  · cases h
end
end Go.Am
