/- Joined: AmOps6 AmOps7 AmSound AmCode AmFrame AmDraw AmDraw2 AmDraw3 AmDraw4 AmNames AmSum. -/
import Derived.Test.YtgolgogmhcgecaaGreatAmA
import Derived.LoopN
namespace Go.Am
set_option linter.unusedVariables false
set_option linter.unusedSimpArgs false

section
variable {P : Program} {F : Fr} {w0 w : World} {ρ : Rho} {a : Act} {e : Tr AV}

/-- A block goes by another name. -/
theorem Sat.rename {h : Heap} (hs : Sat F w0 ρ h w) {o m : Nat} {x : AObj} {l : Loc} (ho : h o = some x) (hl : ρ o = some l) (hm : ρ m = none) (hro : x.ro = false) :
    Ext ρ (upd ρ m (some l)) m (m + 1) ∧ Sat F w0 (upd ρ m (some l)) (upd (upd h m (some x)) o none) w := by
  have hx := Ext.upd (ρ := ρ) hm l
  have hne : o ≠ m := by rintro rfl; rw [hm] at hl; cases hl
  refine ⟨hx, ?_⟩
  have get : ∀ {p y}, upd (upd h m (some x)) o none p = some y → p ≠ o ∧ (p = m ∧ y = x ∨ p ≠ m ∧ h p = some y) := fun {p y} hp => by
    by_cases e1 : p = o
    · subst e1; rw [upd_same] at hp; cases hp
    · rw [upd_ne _ _ e1] at hp
      by_cases e2 : p = m
      · subst e2; rw [upd_same] at hp; injection hp with hp; exact ⟨e1, .inl ⟨rfl, hp.symm⟩⟩
      · rw [upd_ne _ _ e2] at hp; exact ⟨e1, .inr ⟨e2, hp⟩⟩
  constructor
  · intro p y hp
    obtain ⟨e1, ⟨rfl, rfl⟩ | ⟨e2, hp⟩⟩ := get hp
    · obtain ⟨l', h1, h2⟩ := hs.objs o _ ho
      rw [hl] at h1; injection h1 with h1; subst h1
      exact ⟨l, upd_same _ _ _, h2.mono hx.sub⟩
    · obtain ⟨l', h1, h2⟩ := hs.objs p y hp
      exact ⟨l', by rw [upd_ne _ _ e2]; exact h1, h2.mono hx.sub⟩
  · intro p q y z l1 l2 hp hq hpq h1 h2 hb
    obtain ⟨e1, hp'⟩ := get hp
    obtain ⟨e2, hq'⟩ := get hq
    rcases hp' with ⟨rfl, rfl⟩ | ⟨e3, hp'⟩ <;> rcases hq' with ⟨rfl, rfl⟩ | ⟨e4, hq'⟩
    · exact absurd rfl hpq
    · rw [upd_same] at h1; injection h1 with h1; subst h1
      rw [upd_ne _ _ e4] at h2
      have := (hs.inj o q _ z l l2 ho hq' (fun r => e2 r.symm) hl h2 hb).1
      rw [hro] at this; cases this
    · rw [upd_same] at h2; injection h2 with h2; subst h2
      rw [upd_ne _ _ e3] at h1
      have := (hs.inj p o y _ l1 l hp' ho e1 h1 hl hb).2
      rw [hro] at this; cases this
    · rw [upd_ne _ _ e3] at h1
      rw [upd_ne _ _ e4] at h2
      exact hs.inj p q y z l1 l2 hp' hq' hpq h1 h2 hb
  · intro p l' hp
    by_cases e1 : p = m
    · subst e1; rw [upd_same] at hp; injection hp with hp; subst hp; exact hs.low o l hl
    · rw [upd_ne _ _ e1] at hp; exact hs.low p l' hp
  · exact hs.keep
  · intro p y l' hp hr h1
    obtain ⟨e1, ⟨rfl, rfl⟩ | ⟨e2, hp⟩⟩ := get hp
    · rw [upd_same] at h1; injection h1 with h1; subst h1
      exact hs.off o _ l ho hro hl
    · rw [upd_ne _ _ e2] at h1
      exact hs.off p y l' hp hr h1
  · exact hs.plow
  · intro p y l' hp h1
    obtain ⟨e1, ⟨rfl, rfl⟩ | ⟨e2, hp⟩⟩ := get hp
    · rw [upd_same] at h1; injection h1 with h1; subst h1
      exact hs.priv o _ l ho hl
    · rw [upd_ne _ _ e2] at h1
      exact hs.priv p y l' hp h1
  · exact hs.os
  · exact hs.tape
  · exact hs.output
  · exact hs.size

/-- Cells laid behind those that are known, in a block with room. -/
theorem Sat.extend {h : Heap} (hs : Sat F w0 ρ h w) {o : Nat} {cs as : List AV} (ho : h o = some (.cells cs false)) {l : Loc} (hl : ρ o = some l) {vs : List Value} (hr : RepL ρ as vs)
    (h1 : ∀ v ∈ vs, (∀ x, v ≠ .agg x) ∧ ∀ x, v ≠ .tuple x) (hsz : cs.length + as.length ≤ l.sz) :
    ∃ w', (storeCells ⟨l.b, cs.length, none⟩ vs).run P w = .ok () w' ∧ Sat F w0 ρ (upd h o (some (.cells (cs ++ as) false))) w' := by
  obtain ⟨l', hl', hx⟩ := hs.objs o _ ho
  rw [hl] at hl'; injection hl' with hl'; subst hl'
  obtain ⟨hb0, c, t, fr, h3, h4, h5, h6, h7⟩ := hx
  have hlen := hr.length
  have hrun := run_storeCells_over (P := P) l.b cs.length t fr vs 0 c w h3 (by omega) (by rw [h4]; exact h7) h1
  refine ⟨_, hrun, hs.write ho rfl hl rfl ⟨hb0, _, t, fr, rfl, by rw [overA_size (by omega)]; exact h4, by simp; omega, fun j u hu => ?_, h7⟩⟩
  rw [overA_get (by omega)]
  simp only [Nat.add_zero]
  by_cases a1 : j < cs.length
  · rw [List.getElem?_append_left a1] at hu
    rw [if_pos a1]
    exact h6 j u hu
  · rw [List.getElem?_append_right (by omega)] at hu
    have hj : j - cs.length < as.length := (List.getElem?_eq_some_iff.1 hu).1
    rw [if_neg a1, if_pos (by omega)]
    exact hr.get hu

theorem growBy_le (n : Nat) : ∀ (r c : Nat), c ≤ n → 256 ≤ n → Builtin.growBy n r c ≤ 2 * n
  | 0, c, h, h2 => by simp only [Builtin.growBy]; omega
  | r + 1, c, h, h2 => by
    simp only [Builtin.growBy]
    by_cases q : c ≥ n
    · rw [if_pos q]; omega
    · rw [if_neg q]
      by_cases q2 : c + (c + 768) / 4 ≤ n
      · exact growBy_le n r _ q2 h2
      · cases r with
        | zero => simp only [Builtin.growBy]; omega
        | succ r => simp only [Builtin.growBy]; rw [if_pos (by omega)]; omega
theorem cap_le (n c : Nat) (h : c < n) : Builtin.nextslicecap n c ≤ 2 * n := by
  unfold Builtin.nextslicecap
  split
  · omega
  · split
    · omega
    · exact growBy_le n 4 c (by omega) (by omega)

/-- The body of the model's append, behind its arguments. -/
def appSem (es n : Nat) (el : TypeId) (zeros : Bool) (base : Option Addr) (sLen sCap : Nat) (cx x' : Value) (appended : Sem (Array Value)) : Sem Value := do
  let need := sLen + n
  if need ≤ sCap then
    let new ← appended
    if let some a := base then storeCells (a.add (sLen * es)) new.toList
    pure (.slice base need sCap)
  else
    if (need : Int) > IntKind.i64.max ∧ (zeros ∨ (← typeInfo el).bytes = 0) then runtimePanic (.error "growslice: len out of range")
    if Builtin.nextslicecap need sCap * (← typeInfo el).bytes > 2 ^ 48 then (if zeros then runtimePanic (.error "growslice: len out of range") else do
      if !(← Builtin.mayShare es sLen n base x') then mark .noRoom
      unsupported (.resourceLimit "append: a slice or a string whose bytes no memory bears"))
    let newCap ← choose (.appendCap need sCap el)
    askRoom (newCap * (← typeInfo el).bytes)
    let old ← Builtin.firstCells es sLen cx
    let new ← appended
    let rest := Builtin.zeroCells (← zeroValue el).cells (newCap - need)
    pure (.slice (some (← newRow el (old ++ new ++ rest))) need newCap)

theorem i64max : IntKind.i64.max = 9223372036854775807 := rfl

/-- An append that makes a new row. -/
theorem grow_run {m es bytes n : Nat} {as vs : List AV} {old news : List Value} (h0 : 0 < es) (hb0 : 0 < bytes) {el : TypeId} {z : List AV} (hby : bytesA P el = some bytes) (hz : zeroOf P el = some z) (hzl : z.length = es)
    {base : Option Addr} {sLen sCap : Nat} {cx x' : Value} {zeros : Bool} {appended : Sem (Array Value)} {h' : Heap} (hlt : sCap < sLen + n) (hbd : (2 * (sLen + n)) * bytes ≤ 140737488355328)
    (hn : RepL ρ vs news) (hvl : vs.length = n * es) (happ : ∀ w' : World, w'.heap = w.heap → appended.run P w' = .ok ⟨news⟩ w') (has : RepL ρ as old) (hol : as.length = sLen * es) (hfc : ∀ w' : World, w'.heap = w.heap → (Builtin.firstCells es sLen cx).run P w' = .ok ⟨old⟩ w')
    (hm : ρ m = none) (hsat : Sat F w0 ρ h' w) :
    ∃ ρ' cv w', Ext ρ ρ' m (m + 1) ∧ Rep ρ' (.slice m 0 (sLen + n) (.full es)) cv ∧ Sat F w0 ρ' (upd h' m (some (.cells (as ++ vs) false))) w' ∧ (appSem es n el zeros base sLen sCap cx x' appended).run P w = .ok cv w' := by
  have hti : ∃ i, (∀ w : World, (typeInfo el).run P w = .ok i w) ∧ i.bytes = bytes := by
    unfold bytesA at hby
    simp only [Option.map_eq_some_iff] at hby
    obtain ⟨i, hi, hib⟩ := hby
    exact ⟨i, fun w => by simp [typeInfo, hi], hib⟩
  obtain ⟨ti, hti1, hti2⟩ := hti
  obtain ⟨zv, hzrun, hzr⟩ := zero_rep hz
  have hzs : zv.cells.size = es := by have := (hzr ρ).length; rw [Array.length_toList] at this; omega
  have hnl := hn.length
  have hal := has.length
  obtain ⟨N, hN, hNge⟩ : ∃ N, (Question.appendCap (sLen + n) sCap el).cut (w.tape w.drawn (.appendCap (sLen + n) sCap el)) = N ∧ sLen + n ≤ N := ⟨_, rfl, by simp only [Question.cut]; exact Nat.le_add_right _ _⟩
  have hneed : sLen + n ≤ 140737488355328 := by
    have : (sLen + n) * 1 ≤ (2 * (sLen + n)) * bytes := Nat.mul_le_mul (by omega) hb0
    omega
  have hcap := cap_le (sLen + n) sCap hlt
  have hcapb : Builtin.nextslicecap (sLen + n) sCap * bytes ≤ 140737488355328 := Nat.le_trans (Nat.mul_le_mul_right _ hcap) hbd
  let c : Array Value := (⟨old⟩ : Array Value) ++ ⟨news⟩ ++ Builtin.zeroCells zv.cells (N - (sLen + n))
  have hzc : (Builtin.zeroCells zv.cells (N - (sLen + n))).size = (N - (sLen + n)) * es := by simp [Builtin.zeroCells, hzs]
  have hcs : c.size = N * es := by
    simp only [c, Array.size_append, hzc]
    have e1 : (⟨old⟩ : Array Value).size = sLen * es := by show old.length = _; omega
    have e2 : (⟨news⟩ : Array Value).size = n * es := by show news.length = _; omega
    rw [e1, e2, ← Nat.add_mul, ← Nat.add_mul]
    congr 1
    omega
  have hle : (as ++ vs).length ≤ N * es := by
    rw [List.length_append, hol, hvl, ← Nat.add_mul]
    exact Nat.mul_le_mul_right _ hNge
  have hrep := has.append hn
  have hx := Ext.upd (ρ := ρ) hm ⟨w.heap.size, 0, N * es⟩
  have hs2 := (hsat.drawn (w.drawn + 1)).push (sz := N * es) hm (x := .cells (as ++ vs) false) (y := .cells c el (0, 0)) rfl
    ⟨rfl, c, el, (0, 0), rfl, hcs, hle, fun i u hu => by
      obtain ⟨v, g1, g2⟩ := hrep.get hu
      refine ⟨v, ?_, g2.mono hx.sub⟩
      have hi : i < (old ++ news).length := (List.getElem?_eq_some_iff.1 g1).1
      show ((⟨old⟩ : Array Value) ++ ⟨news⟩ ++ Builtin.zeroCells zv.cells (N - (sLen + n)))[i]? = some v
      rw [Array.getElem?_append_left (by simp at hi ⊢; exact hi)]
      simpa using g1, fun i hi hh => by simp at hh⟩
  refine ⟨_, .slice (some ⟨w.heap.size, 0, none⟩) (sLen + n) N, _, hx, ?_, hs2, ?_⟩
  · simp only [Rep, capOk]
    exact ⟨⟨w.heap.size, 0, N * es⟩, N, upd_same _ _ _, by simp, hNge, rfl, by simp⟩
  · unfold appSem
    simp only []
    rw [if_neg (by omega)]
    have g1 : ¬ (((sLen + n : Nat) : Int) > IntKind.i64.max ∧ (zeros = true ∨ ti.bytes = 0)) := by rw [i64max]; omega
    have g2 : ¬ (Builtin.nextslicecap (sLen + n) sCap * ti.bytes > 2 ^ 48) := by rw [hti2]; omega
    simp only [Sem.run_bind, hti1, Result.andThen_ok, if_neg g1, if_neg g2, Sem.run_pure, run_choose, Question.forced, hN, run_askRoom, hfc _ rfl, happ _ rfl, hzrun, newRow, run_newObj]
    have f1 := hfc w.drew rfl
    have f2 := happ w.drew rfl
    simp [hN, f1, f2, c]
    rfl

theorem firstCells_nil (es : Nat) (w' : World) : (Builtin.firstCells es 0 (.slice none 0 0)).run P w' = .ok #[] w' := rfl

/-- What an append comes to. -/
def AppRes (P : Program) (F : Fr) (w0 : World) (ρ : Rho) (s s' : St) (v : AV) (es n : Nat) (el : TypeId) (cx : Value) (w : World) (news : List Value) : Prop :=
  ∃ base sLen sCap, cx = .slice base sLen sCap ∧ ∀ (zeros : Bool) (x' : Value) (appended : Sem (Array Value)), (∀ w' : World, w'.heap = w.heap → appended.run P w' = .ok ⟨news⟩ w') →
    ∃ ρ' cv w', Ext ρ ρ' s.next s'.next ∧ Rep ρ' v cv ∧ Sat F w0 ρ' s'.heap.get w' ∧ (appSem es n el zeros base sLen sCap cx x' appended).run P w = .ok cv w'

/-- In place. -/
theorem place_run {es n sLen sCap : Nat} {el : TypeId} {zeros : Bool} {base : Option Addr} {cx x' : Value} {appended : Sem (Array Value)} {news : List Value} {w' : World} (hle : sLen + n ≤ sCap) (happ : appended.run P w = .ok ⟨news⟩ w)
    (hst : (match base with | some a => storeCells (a.add (sLen * es)) news | none => pure () : Sem Unit).run P w = .ok () w') : (appSem es n el zeros base sLen sCap cx x' appended).run P w = .ok (.slice base (sLen + n) sCap) w' := by
  unfold appSem
  simp only []
  rw [if_pos hle]
  simp only [Sem.run_bind, happ, Result.andThen_ok]
  cases base with
  | none => simp at hst; subst hst; simp
  | some ad => simp only [] at hst; simp [hst]

theorem appendTo_next {s s' : St} {es bytes n : Nat} {x v : AV} {vs : List AV} (h : appendTo s es bytes x n vs = some (v, s')) : s'.next = s.next ∨ s'.next = s.next + 1 := by
  unfold appendTo at h
  split at h
  · split at h
    · simp only [Option.some.injEq, Prod.mk.injEq] at h; exact .inl (by rw [h.2])
    · cases q : Nat.ble (2 * n * bytes) 140737488355328 with
      | false => rw [q] at h; cases h
      | true => rw [q] at h; simp only [cond_true, St.new, Option.some.injEq, Prod.mk.injEq] at h; exact .inr (by rw [← h.2])
  · split at h
    · next cs ro hc =>
      split at h
      · next c =>
        cases q : Nat.ble (_ + n) c with
        | true =>
          rw [q, cond_true] at h
          split at h
          · simp only [Option.some.injEq, Prod.mk.injEq] at h; exact .inl (by rw [h.2])
          · split at h
            · next s1 h1 => simp only [Option.some.injEq, Prod.mk.injEq] at h; obtain ⟨_, _, _, _, _, g⟩ := store_some h1; exact .inl (by rw [← h.2, g])
            · cases h
        | false =>
          rw [q, cond_false] at h
          cases q2 : Nat.ble ((2 * (_ + n) + 2 * c) * bytes) 140737488355328 with
          | false => rw [q2] at h; cases h
          | true =>
            rw [q2, cond_true] at h
            split at h
            · simp only [St.new, Option.some.injEq, Prod.mk.injEq] at h; exact .inr (by rw [← h.2])
            · cases h
      · next es' =>
        cases q : Nat.beq es es' with
        | false => rw [q] at h; cases h
        | true =>
          rw [q, cond_true] at h
          cases ro with
          | true => cases h
          | false =>
          rw [cond_false] at h
          cases q1 : Nat.ble (_ + (_ + n) * es) (lenL cs) with
          | true =>
            rw [q1, cond_true] at h
            split at h
            · simp only [Option.some.injEq, Prod.mk.injEq] at h; exact .inl (by rw [h.2])
            · split at h
              · next s1 h1 => simp only [Option.some.injEq, Prod.mk.injEq] at h; obtain ⟨_, _, _, _, _, g⟩ := store_some h1; exact .inl (by rw [← h.2, g])
              · cases h
          | false =>
            rw [q1, cond_false] at h
            cases q2 : Nat.beq (_ + _ * es) (lenL cs) with
            | false => rw [q2] at h; cases h
            | true =>
              rw [q2, cond_true] at h
              · cases q3 : Nat.beq _ 0 with
                | false => rw [q3] at h; cases h
                | true =>
                  rw [q3, cond_true] at h
                  cases q4 : Nat.ble (4 * (_ + n) * bytes) 140737488355328 with
                  | false => rw [q4] at h; cases h
                  | true => rw [q4] at h; simp only [cond_true, St.new, Option.some.injEq, Prod.mk.injEq] at h; exact .inr (by rw [← h.2])
    · cases h
  · cases h

theorem append_run {s s' : St} {es bytes n : Nat} {x v : AV} {vs : List AV} (h : appendTo s es bytes x n vs = some (v, s')) (h0 : 0 < es) (hb0 : 0 < bytes) {el : TypeId} {z : List AV} (hby : bytesA P el = some bytes) (hz : zeroOf P el = some z) (hzl : z.length = es)
    (hvl : vs.length = n * es) (hs : Sat F w0 ρ s.heap.get w) (hf : Fresh ρ s.next s'.next) {cx : Value} (hx : Rep ρ x cx) {news : List Value} (hn : RepL ρ vs news) (h1 : ∀ v ∈ news, (∀ x, v ≠ .agg x) ∧ ∀ x, v ≠ .tuple x) :
    AppRes P F w0 ρ s s' v es n el cx w news := by
  have hnl := hn.length
  unfold appendTo at h
  split at h
  · -- nil
    simp only [Rep] at hx
    subst hx
    split at h
    · simp only [Option.some.injEq, Prod.mk.injEq] at h
      obtain ⟨rfl, rfl⟩ := h
      refine ⟨none, 0, 0, rfl, fun zeros x' appended happ => ⟨ρ, .slice none 0 0, w, Ext.refl _ _ _, by simp only [Rep], hs, place_run (by omega) (happ w rfl) rfl⟩⟩
    · next hne =>
      cases q : Nat.ble (2 * n * bytes) 140737488355328 with
      | false => rw [q] at h; cases h
      | true =>
        rw [q] at h
        simp only [cond_true, St.new, Option.some.injEq, Prod.mk.injEq] at h
        obtain ⟨rfl, rfl⟩ := h
        have hbd := Nat.le_of_ble_eq_true q
        have hn0 : 0 < n := Nat.pos_of_ne_zero (fun z => hne z)
        refine ⟨none, 0, 0, rfl, fun zeros x' appended happ => ?_⟩
        obtain ⟨ρ', cv, w', g1, g2, g3, g4⟩ := grow_run (P := P) (as := []) (old := []) (sLen := 0) (sCap := 0) (cx := .slice none 0 0) (x' := x') (zeros := zeros) (base := none) h0 hb0 hby hz hzl (by omega) (by simpa using hbd) hn hvl happ (RepL.nil ρ) (by simp) (fun w' _ => firstCells_nil es w') (hf s.next (Nat.le_refl _) (Nat.lt_succ_self _)) hs
        exact ⟨ρ', cv, w', g1, by simpa using g2, by simpa only [Tr.put_get, List.nil_append] using g3, g4⟩
  · -- a slice
    next o' off len cap =>
    simp only [Rep] at hx
    obtain ⟨l, c0, hl, rfl, hlenc, hcap⟩ := hx
    split at h
    · next cs ro hc =>
      split at h
      · next c =>
        simp only [capOk] at hcap
        have hcc : c = c0 := hcap.symm
        subst hcc
        cases q : Nat.ble (len + n) c with
        | true =>
          rw [q, cond_true] at h
          have hle := Nat.le_of_ble_eq_true q
          split at h
          · simp only [Option.some.injEq, Prod.mk.injEq] at h
            obtain ⟨rfl, rfl⟩ := h
            have : news = [] := List.eq_nil_of_length_eq_zero (by omega)
            subst this
            refine ⟨_, _, _, rfl, fun zeros x' appended happ => ⟨ρ, _, w, Ext.refl _ _ _, by simp only [Rep, capOk]; exact ⟨l, c, hl, rfl, hle, rfl⟩, hs, place_run hle (happ w rfl) rfl⟩⟩
          · split at h
            · next s1 hst =>
              simp only [Option.some.injEq, Prod.mk.injEq] at h
              obtain ⟨rfl, rfl⟩ := h
              obtain ⟨cs2, cs', g1, g2, g3, g4⟩ := store_some hst
              obtain ⟨hb0', w', g5, g6⟩ := hs.store (P := P) g1 hl g2 hn h1
              refine ⟨_, _, _, rfl, fun zeros x' appended happ => ⟨ρ, _, w', by rw [g4]; exact Ext.refl _ _ _, by simp only [Rep, capOk]; exact ⟨l, c, hl, rfl, hle, rfl⟩, by rw [g3]; exact g6, place_run hle (happ w rfl) ?_⟩⟩
              simp only [addr_add, hb0', Nat.zero_add]
              exact g5
            · cases h
        | false =>
          rw [q, cond_false] at h
          have hgt : c < len + n := by
            rcases Nat.lt_or_ge c (len + n) with z | z
            · exact z
            · rw [Nat.ble_eq_true_of_le z] at q; cases q
          cases q2 : Nat.ble ((2 * (len + n) + 2 * c) * bytes) 140737488355328 with
          | false => rw [q2] at h; cases h
          | true =>
            rw [q2, cond_true] at h
            have hbd := Nat.le_of_ble_eq_true q2
            split at h
            · next old hold =>
              simp only [St.new, Option.some.injEq, Prod.mk.injEq] at h
              obtain ⟨rfl, rfl⟩ := h
              obtain ⟨ovs, g1, g2, g3, g4⟩ := hs.cells (P := P) hc hl hold
              have hol := (rdN_some cs off (len * es) old hold)
              have holl : old.length = len * es := by rw [← g1.length]; exact g2
              refine ⟨_, _, _, rfl, fun zeros x' appended happ => ?_⟩
              obtain ⟨ρ', cv, w', e1, e2, e3, e4⟩ := grow_run (P := P) (as := old) (old := ovs) (sLen := len) (sCap := c) (cx := .slice (some ⟨l.b, l.base + off, none⟩) len c) (x' := x') (zeros := zeros) (base := some ⟨l.b, l.base + off, none⟩) h0 hb0 hby hz hzl hgt
                (Nat.le_trans (Nat.mul_le_mul_right _ (by omega)) hbd) hn hvl happ g1 holl (fun w' hw' => by
                  simp only [Builtin.firstCells]
                  have hs' : ∀ j v, ovs[j]? = some v → w'.cell? (Addr.add ⟨l.b, l.base + off, none⟩ j) = some v := fun j v hj => by
                    rw [addr_add]
                    have := g4 j v hj
                    simp only [World.cell?, hw'] at this ⊢
                    exact this
                  have := run_loadCells_list (P := P) w' ⟨l.b, l.base + off, none⟩ ovs hs'
                  rw [g2] at this
                  exact this) (hf s.next (Nat.le_refl _) (Nat.lt_succ_self _)) hs
              exact ⟨ρ', cv, w', e1, e2, by simpa only [Tr.put_get, appL_eq] using e3, e4⟩
            · cases h
      · next es' =>
        simp only [capOk] at hcap
        obtain ⟨hbase, hcap⟩ := hcap
        cases q : Nat.beq es es' with
        | false => rw [q] at h; cases h
        | true =>
          have := Nat.eq_of_beq_eq_true q; subst this
          rw [q, cond_true] at h
          cases ro with
          | true => cases h
          | false =>
          rw [cond_false] at h
          have hksz : cs.length ≤ l.sz := by
            obtain ⟨l', e1, e2⟩ := hs.objs o' _ hc
            rw [hl] at e1; injection e1 with e1; subst e1
            obtain ⟨_, _, _, _, _, _, e3, _⟩ := e2
            exact e3
          cases q1 : Nat.ble (off + (len + n) * es) (lenL cs) with
          | true =>
            rw [q1, cond_true] at h
            have hk := Nat.le_of_ble_eq_true q1
            rw [lenL_eq] at hk
            split at h
            · simp only [Option.some.injEq, Prod.mk.injEq] at h
              obtain ⟨rfl, rfl⟩ := h
              have : news = [] := List.eq_nil_of_length_eq_zero (by omega)
              subst this
              refine ⟨_, _, _, rfl, fun zeros x' appended happ => ?_⟩
              have hlc : len + 0 ≤ c0 := by
                have : (len + 0) * es ≤ c0 * es := by omega
                exact Nat.le_of_mul_le_mul_right this h0
              exact ⟨ρ, _, w, Ext.refl _ _ _, by simp only [Rep, capOk]; exact ⟨l, c0, hl, rfl, hlc, hbase, hcap⟩, hs, place_run hlc (happ w rfl) rfl⟩
            · next hne =>
              split at h
              · next s1 hst =>
                simp only [Option.some.injEq, Prod.mk.injEq] at h
                obtain ⟨rfl, rfl⟩ := h
                obtain ⟨cs2, cs', g1, g2, g3, g4⟩ := store_some hst
                obtain ⟨hb0', w', g5, g6⟩ := hs.store (P := P) g1 hl g2 hn h1
                have hle : len + n ≤ c0 := by
                  rw [hc] at g1
                  injection g1 with g1; injection g1 with g1 g1'
                  subst g1
                  have : (len + n) * es ≤ c0 * es := by omega
                  exact Nat.le_of_mul_le_mul_right this h0
                refine ⟨_, _, _, rfl, fun zeros x' appended happ => ⟨ρ, _, w', by rw [g4]; exact Ext.refl _ _ _, by simp only [Rep, capOk]; exact ⟨l, c0, hl, rfl, hle, hbase, hcap⟩, by rw [g3]; exact g6, place_run hle (happ w rfl) ?_⟩⟩
                simp only [addr_add, hb0', Nat.zero_add]
                exact g5
              · cases h
          | false =>
            rw [q1, cond_false] at h
            cases q2 : Nat.beq (off + len * es) (lenL cs) with
            | false => rw [q2] at h; cases h
            | true =>
              rw [q2, cond_true] at h
              have hfr := Nat.eq_of_beq_eq_true q2
              rw [lenL_eq] at hfr
              · cases q3 : Nat.beq off 0 with
                | false => rw [q3] at h; cases h
                | true =>
                  rw [q3, cond_true] at h
                  have := Nat.eq_of_beq_eq_true q3; subst this
                  cases q4 : Nat.ble (4 * (len + n) * bytes) 140737488355328 with
                  | false => rw [q4] at h; cases h
                  | true =>
                    rw [q4] at h
                    simp only [cond_true, St.new, Option.some.injEq, Prod.mk.injEq] at h
                    obtain ⟨rfl, rfl⟩ := h
                    have hbd := Nat.le_of_ble_eq_true q4
                    have hm := hf s.next (Nat.le_refl _) (Nat.lt_succ_self _)
                    have hne : o' ≠ s.next := by rintro rfl; rw [hm] at hl; cases hl
                    refine ⟨_, _, _, rfl, fun zeros x' appended happ => ?_⟩
                    by_cases hin : len + n ≤ c0
                    · -- in place
                      have hsz : cs.length + vs.length ≤ l.sz := by
                        have : (len + n) * es ≤ c0 * es := Nat.mul_le_mul_right _ hin
                        rw [Nat.add_mul] at this
                        omega
                      obtain ⟨w', g1, g2⟩ := hs.extend (P := P) hc hl hn h1 hsz
                      obtain ⟨g3, g4⟩ := g2.rename (o := o') (m := s.next) (upd_same _ _ _) hl hm rfl
                      refine ⟨_, _, w', g3, ?_, ?_, place_run hin (happ w rfl) ?_⟩
                      · simp only [Rep, capOk]
                        exact ⟨l, c0, upd_same _ _ _, rfl, hin, hbase, hcap⟩
                      · have : upd (upd (upd s.heap.get o' (some (.cells (cs ++ vs) false))) s.next (some (.cells (cs ++ vs) false))) o' none = upd (upd s.heap.get s.next (some (.cells (appL cs vs) false))) o' none := by
                          funext j
                          rw [appL_eq]
                          by_cases e1 : j = o'
                          · subst e1; rw [upd_same, upd_same]
                          · rw [upd_ne _ _ e1, upd_ne _ _ e1]
                            by_cases e2 : j = s.next
                            · subst e2; rw [upd_same, upd_same]
                            · rw [upd_ne _ _ e2, upd_ne _ _ e2, upd_ne _ _ e1]
                        simp only [Tr.put_get]
                        rw [← this]
                        exact g4
                      · simp only [addr_add, hbase, Nat.zero_add]
                        rw [show len * es = cs.length from by omega]
                        exact g1
                    · -- a new row
                      have hold : rdN cs 0 (len * es) = some cs := by
                        have gen : ∀ (cs : List AV), takeN cs cs.length = some cs := fun cs => by
                          induction cs with
                          | nil => rfl
                          | cons a cs ih => show consO a (takeN cs cs.length) = _; rw [ih]; rfl
                        have e : len * es = cs.length := by omega
                        rw [e]
                        cases cs with
                        | nil => rfl
                        | cons b cs => exact gen (b :: cs)
                      obtain ⟨ovs, g1, g2, g3, g4⟩ := hs.cells (P := P) hc hl hold
                      obtain ⟨ρ', cv, w', e1, e2, e3, e4⟩ := grow_run (P := P) (as := cs) (old := ovs) (sLen := len) (sCap := c0) (cx := .slice (some ⟨l.b, l.base + 0, none⟩) len c0) (x' := x') (zeros := zeros) (base := some ⟨l.b, l.base + 0, none⟩) h0 hb0 hby hz hzl (by omega)
                        (Nat.le_trans (Nat.mul_le_mul_right _ (by omega)) hbd) hn hvl happ g1 (by omega) (fun w' hw' => by
                          simp only [Builtin.firstCells]
                          have hs' : ∀ j v, ovs[j]? = some v → w'.cell? (Addr.add ⟨l.b, l.base + 0, none⟩ j) = some v := fun j v hj => by
                            rw [addr_add]
                            have := g4 j v hj
                            simp only [World.cell?, hw'] at this ⊢
                            exact this
                          have := run_loadCells_list (P := P) w' ⟨l.b, l.base + 0, none⟩ ovs hs'
                          rw [g2] at this
                          exact this) hm hs
                      refine ⟨ρ', cv, w', e1, e2, ?_, e4⟩
                      simp only [Tr.put_get, appL_eq]
                      exact e3.sub fun j y hj => by
                        by_cases e5 : j = o'
                        · subst e5; rw [upd_same] at hj; cases hj
                        · rw [upd_ne _ _ e5] at hj; exact hj
    · cases h
  · cases h

theorem numOf_zeros {u : TypeId} (b : Bool) (hu : ∃ d, P.underlying u = some d ∧ ((∃ k, d = .int k) ↔ b = true)) (w : World) : (do pure ((← underlying u) matches .int _) : Sem Bool).run P w = .ok b w := by
  obtain ⟨d, hd, hb⟩ := hu
  simp only [Sem.run_bind, run_underlying hd, Result.andThen_ok]
  cases b with
  | true => obtain ⟨k, rfl⟩ := hb.2 rfl; rfl
  | false =>
    cases d <;> first | rfl | exact absurd (hb.1 ⟨_, rfl⟩) (by simp)

theorem ok_append {t u el el' ty : TypeId} {es bytes : Nat} {z : List AV} {x y : Operand} {x' y' : AX} {ts : Array TypeId} {args : Array Operand} (hu : P.underlying t = some (.slice el)) (he1 : sizeA P el = some es) (hby : bytesA P el = some bytes) (hz : zeroOf P el = some z) (hzl : z.length = es) (h0 : 0 < es) (hb0 : 0 < bytes)
    (hv : P.underlying u = some (.slice el')) (ha : args = #[x, y]) (ht0 : ts[0]? = some t) (ht1 : ts[1]? = some u) (hx : trX x = some x') (hy : trX y = some y') : OpOk P (fAppend es bytes x' y') (.call { callee := .builtin .append, args := args, argTypes := ts }) := by
  subst ha
  intro call e s v s' h
  have key : ∀ (a1 : AV) (n : Nat) (vs : List AV), appendTo s es bytes a1 n vs = some (v, s') → vs.length = n * es → evX e x' = some a1 → (∀ (F : Fr) (w0 : World) (ρ : Rho) (w : World) (a : Act), EnvRep ρ e a.tmps → Sat F w0 ρ s.heap.get w → Fresh ρ s.next s'.next →
      ∃ news, RepL ρ vs news ∧ (∀ v ∈ news, (∀ x, v ≠ .agg x) ∧ ∀ x, v ≠ .tuple x) ∧ (∃ b c, a.eval y = .slice b n c) ∧ ∀ w' : World, w'.heap = w.heap → (Builtin.firstCells es n (a.eval y)).run P w' = .ok ⟨news⟩ w') →
      s.next ≤ s'.next ∧ ∀ (F : Fr) (w0 : World) (ρ : Rho) (w : World) (a : Act), EnvRep ρ e a.tmps → Sat F w0 ρ s.heap.get w → Fresh ρ s.next s'.next →
      ∀ o : Oper, o.op = .call { callee := .builtin .append, args := #[x, y], argTypes := ts } → Res P F w0 ρ s.next s'.next s'.heap.get v ((execOp a.eval o).run P w) := by
    intro a1 n vs happ hvl h1 hsrc
    refine ⟨by rcases appendTo_next happ with q | q <;> omega, fun F w0 ρ w a he hs hf o ho => ?_⟩
    obtain ⟨news, g1, g2, ⟨yb, yc, g3⟩, g4⟩ := hsrc F w0 ρ w a he hs hf
    obtain ⟨base, sLen, sCap, hcx, hrun⟩ := append_run (P := P) happ h0 hb0 hby hz hzl hvl hs hf (he.x hx h1) g1 g2
    obtain ⟨ρ', cv, w', e1, e2, e3, e4⟩ := hrun false (a.eval y) (Builtin.firstCells es n (a.eval y)) g4
    refine ⟨ρ', cv, w', e1, e2, e3, .inl ?_⟩
    have e5 : (Builtin.append_ ts o.type #[a.eval x, a.eval y]).run P w = .ok cv w' := by
      rw [← e4]
      simp only [Builtin.append_, ht0, ht1, hcx, g3]
      simp only [List.getElem?_toArray, List.getElem?_cons_zero, List.getElem?_cons_succ]
      simp only [Sem.run_bind, run_underlying hu, run_underlying hv, Result.andThen_ok, size_run he1, Builtin.lenOf, Sem.run_pure]
      simp only [appSem, hcx, g3]
      rfl
    simp [execOp, ho, resolve, invoke, builtin, e5]
  unfold fAppend at h
  split at h
  · next a1 h1 h2 =>
    refine key a1 0 [] h (by simp) h1 fun F w0 ρ w a he hs hf => ?_
    have r := he.x hy h2
    simp only [Rep] at r
    exact ⟨[], RepL.nil ρ, by simp, ⟨none, 0, r⟩, fun w' _ => by rw [r]; exact firstCells_nil es w'⟩
  · next a1 o' off len cap h1 h2 =>
    split at h
    · next vs hld =>
      cases q : allOne vs with
      | false => rw [q] at h; cases h
      | true =>
        rw [q, cond_true] at h
        obtain ⟨cs, ro, g1, g2⟩ := load_some hld
        obtain ⟨g3, g4⟩ := rdN_some cs off (len * es) vs g2
        refine key a1 len vs h (by rw [g4]; simp; omega) h1 fun F w0 ρ w a he hs hf => ?_
        have r := he.x hy h2
        simp only [Rep] at r
        obtain ⟨l, c, hl, r, _⟩ := r
        obtain ⟨us, e1, e2, e3, e4⟩ := hs.cells (P := P) g1 hl g2
        refine ⟨us, e1, e1.ones q, ⟨_, _, r⟩, fun w' hw' => ?_⟩
        rw [r]
        simp only [Builtin.firstCells]
        have := run_loadCells_list (P := P) w' ⟨l.b, l.base + off, none⟩ us (fun j v hj => by
          rw [addr_add]
          have := e4 j v hj
          simp only [World.cell?, hw'] at this ⊢
          exact this)
        rw [e2] at this
        exact this
    · cases h
  · cases h
end
end Go.Am
namespace Go.Am
set_option linter.unusedVariables false
set_option linter.unusedSimpArgs false

section
variable {P : Program} {F : Fr} {w0 w : World} {ρ : Rho} {a : Act} {e : Tr AV}

theorem numBytes_rep {b : List Nat} (h : small b) : RepL ρ (numBytes b) (b.map fun (c : Nat) => Value.int .u8 (c : Int)) :=
  RepL.of_get (by rw [numBytes_length]; simp) fun i u hu => by
    rw [numBytes_get] at hu
    simp only [Option.map_eq_some_iff] at hu
    obtain ⟨c, hc, rfl⟩ := hu
    exact ⟨.int .u8 (c : Int), by simp [hc], by simp only [Rep]; rfl⟩

theorem ok_appendStr {t u el : TypeId} {z : List AV} {x y : Operand} {x' y' : AX} {ts : Array TypeId} {args : Array Operand} (hu : P.underlying t = some (.slice el)) (he1 : sizeA P el = some 1) (hby : bytesA P el = some 1) (hz : zeroOf P el = some z) (hzl : z.length = 1)
    (hv : P.underlying u = some .string) (ha : args = #[x, y]) (ht0 : ts[0]? = some t) (ht1 : ts[1]? = some u) (hx : trX x = some x') (hy : trX y = some y') : OpOk P (fAppendStr x' y') (.call { callee := .builtin .append, args := args, argTypes := ts }) := by
  subst ha
  intro call e s v s' h
  unfold fAppendStr at h
  split at h
  · next a1 b h1 h2 =>
    rw [lenL_eq] at h
    refine ⟨by rcases appendTo_next h with q | q <;> omega, fun F w0 ρ w a he hs hf o ho => ?_⟩
    have r := he.x hy h2
    simp only [Rep] at r
    obtain ⟨r, hsm⟩ := r
    have g1 := numBytes_rep (ρ := ρ) hsm
    have g2 : ∀ v ∈ (b.map fun (c : Nat) => Value.int .u8 (c : Int)), (∀ x, v ≠ .agg x) ∧ ∀ x, v ≠ .tuple x := fun v hv => by
      obtain ⟨c, _, rfl⟩ := List.mem_map.1 hv
      simp
    obtain ⟨base, sLen, sCap, hcx, hrun⟩ := append_run (P := P) h (by omega) (by omega) hby hz hzl (by rw [numBytes_length]; omega) hs hf (he.x hx h1) g1 g2
    have g4 : ∀ w' : World, w'.heap = w.heap → (Builtin.firstCells 1 b.length (.string (strOf b))).run P w' = .ok ⟨b.map fun (c : Nat) => Value.int .u8 (c : Int)⟩ w' := fun w' _ => by
      have e1 : ((strOf b).extract 0 b.length).data.map (fun x => Value.int .u8 (x.toNat : Int)) = ⟨b.map fun (c : Nat) => Value.int .u8 (c : Int)⟩ := by
        rw [strOf_extract]
        simp only [List.drop_zero, List.take_length, strOf]
        apply Array.ext'
        simp only [Array.toList_map, List.map_map]
        apply List.map_congr_left
        intro c hc
        have := hsm c hc
        simp
        omega
      simp only [Builtin.firstCells, e1]
      rfl
    obtain ⟨ρ', cv, w', e1, e2, e3, e4⟩ := hrun false (.string (strOf b)) (Builtin.firstCells 1 b.length (.string (strOf b))) g4
    refine ⟨ρ', cv, w', e1, e2, e3, .inl ?_⟩
    have e5 : (Builtin.append_ ts o.type #[a.eval x, a.eval y]).run P w = .ok cv w' := by
      rw [← e4]
      simp only [Builtin.append_, ht0, ht1, hcx, r]
      simp only [List.getElem?_toArray, List.getElem?_cons_zero, List.getElem?_cons_succ]
      simp only [Sem.run_bind, run_underlying hu, run_underlying hv, Result.andThen_ok, size_run he1, Builtin.lenOf, Sem.run_pure, strOf_size]
      simp only [appSem, hcx]
      rfl
    simp [execOp, ho, resolve, invoke, builtin, e5]
  · cases h

theorem allOne_repN {z : List AV} (h : allOne z = true) : ∀ n, allOne (repN z n) = true := by
  have app : ∀ (a b : List AV), allOne a = true → allOne b = true → allOne (a ++ b) = true := fun a b ha hb => by
    induction a with
    | nil => exact hb
    | cons x a ih =>
      have hx := allOne_mem ha x (by simp)
      have ha' : allOne a = true := by
        have : Bool.rec (motive := fun _ => Bool) false (allOne a) x.one = true := ha
        rw [hx] at this; exact this
      show Bool.rec (motive := fun _ => Bool) false (allOne (a ++ b)) x.one = true
      rw [hx]; exact ih ha'
  intro n
  induction n with
  | zero => rfl
  | succ n ih => rw [repN_succ]; exact app _ _ h ih

theorem zeroCells_toList {z : List AV} {zc : Array Value} (hz : RepL ρ z zc.toList) (n : Nat) : RepL ρ (repN z n) (Builtin.zeroCells zc n).toList := by
  obtain ⟨us, h1, h2, h3⟩ := hz.repN n
  have : (Builtin.zeroCells zc n).toList = us := by
    apply List.ext_getElem?
    intro i
    simp at h2 h3
    by_cases hi : i < n * zc.size
    · have h0 : 0 < zc.size := by
        rcases Nat.eq_zero_or_pos zc.size with q | q
        · rw [q] at hi; simp at hi
        · exact q
      have hm : i % zc.size < zc.size := Nat.mod_lt _ h0
      rw [h3 i hi]
      simp [Builtin.zeroCells, hi, hm]
    · rw [List.getElem?_eq_none (by simp [Builtin.zeroCells]; omega), List.getElem?_eq_none (by omega)]
  rw [this]
  exact h1

theorem repN_length {z : List AV} (n : Nat) : (repN z n).length = n * z.length := by
  induction n with
  | zero => simp [repN_zero]
  | succ n ih => rw [repN_succ, List.length_append, ih, Nat.succ_mul, Nat.add_comm]

theorem ok_appendZeros {t u el : TypeId} {es bytes : Nat} {z : List AV} {x y : Operand} {x' y' : AX} {ts : Array TypeId} {args : Array Operand} (hu : P.underlying t = some (.slice el)) (he1 : sizeA P el = some es) (hby : bytesA P el = some bytes) (hz : zeroOf P el = some z) (hzl : z.length = es) (h0 : 0 < es) (hb0 : 0 < bytes)
    {ku : IntKind} (hv : P.underlying u = some (.int ku)) (ha : args = #[x, y]) (ht0 : ts[0]? = some t) (ht1 : ts[1]? = some u) (hx : trX x = some x') (hy : trX y = some y') : OpOk P (fAppendZeros es bytes z x' y') (.call { callee := .builtin .append, args := args, argTypes := ts }) := by
  subst ha
  intro call e s v s' h
  unfold fAppendZeros at h
  split at h
  · next a1 nv h1 h2 =>
    split at h
    · next n hn =>
      cases q : allOne z with
      | false => rw [q] at h; cases h
      | true =>
        rw [q, cond_true] at h
        cases q9 : Nat.ble (n * bytes) 140737488355328 with
        | false => rw [q9] at h; cases h
        | true =>
        rw [q9, cond_true] at h
        have hnb := Nat.le_of_ble_eq_true q9
        have hn1 : n ≤ 140737488355328 := Nat.le_trans (Nat.le_mul_of_pos_right _ hb0) hnb
        refine ⟨by rcases appendTo_next h with q | q <;> omega, fun F w0 ρ w a he hs hf o ho => ?_⟩
        obtain ⟨zv, hzrun, hzr⟩ := zero_rep hz
        have hzs : zv.cells.size = es := by have := (hzr ρ).length; rw [Array.length_toList] at this; omega
        have g1 := zeroCells_toList (hzr ρ) n
        obtain ⟨base, sLen, sCap, hcx, hrun⟩ := append_run (P := P) h h0 hb0 hby hz hzl (by rw [repN_length, hzl]) hs hf (he.x hx h1) g1 (g1.ones (allOne_repN q n))
        obtain ⟨k, hk⟩ := natOf_some hn (he.x hy h2)
        have g4 : ∀ w' : World, w'.heap = w.heap → (if n * es = 0 then pure #[] else do pure (Builtin.zeroCells (← zeroValue el).cells n) : Sem (Array Value)).run P w' = .ok ⟨(Builtin.zeroCells zv.cells n).toList⟩ w' := fun w' _ => by
          by_cases q2 : n * es = 0
          · rw [if_pos q2]
            have : n = 0 := by
              rcases Nat.eq_zero_or_pos n with z | z
              · exact z
              · have := Nat.mul_pos z h0; omega
            subst this
            simp [Builtin.zeroCells]
          · rw [if_neg q2]
            simp [hzrun]
        obtain ⟨ρ', cv, w', e1, e2, e3, e4⟩ := hrun true (a.eval y) _ g4
        refine ⟨ρ', cv, w', e1, e2, e3, .inl ?_⟩
        have hw1 : IntKind.i64.wrap (n : Int) = (n : Int) := wrap_small (by omega)
        obtain ⟨ti, hti1, hti2⟩ : ∃ i, (∀ w : World, (typeInfo el).run P w = .ok i w) ∧ i.bytes = bytes := by
          unfold bytesA at hby
          simp only [Option.map_eq_some_iff] at hby
          obtain ⟨i, hi, hib⟩ := hby
          exact ⟨i, fun w => by simp [typeInfo, hi], hib⟩
        have c1 : ¬ ((n : Int) < 0) := by omega
        have c2 : ¬ ((n : Int) * (ti.bytes : Int) > 2 ^ 48) := by
          rw [hti2, ← Int.natCast_mul]
          have : ((n * bytes : Nat) : Int) ≤ ((140737488355328 : Nat) : Int) := Int.ofNat_le.2 hnb
          omega
        have e5 : (Builtin.append_ ts o.type #[a.eval x, a.eval y]).run P w = .ok cv w' := by
          rw [← e4]
          simp only [Builtin.append_, ht0, ht1, hcx, hk]
          simp only [List.getElem?_toArray, List.getElem?_cons_zero, List.getElem?_cons_succ]
          simp only [Sem.run_bind, run_underlying hu, run_underlying hv, Result.andThen_ok, size_run he1, Sem.run_pure]
          simp only [if_true, Sem.run_bind, asInt, asIntOf, Sem.run_pure, Result.andThen_ok, hw1, if_neg c1, hti1, if_neg c2, Int.toNat_natCast]
          simp only [appSem, hcx, hk]
          rfl
        simp [execOp, ho, resolve, invoke, builtin, e5]
    · cases h
  · cases h

theorem ok_copy {t u el el' : TypeId} {es : Nat} {x y : Operand} {x' y' : AX} {ts : Array TypeId} {args : Array Operand} (hu : P.underlying t = some (.slice el)) (he1 : sizeA P el = some es)
    (ha : args = #[x, y]) (ht0 : ts[0]? = some t) (hx : trX x = some x') (hy : trX y = some y') : OpOk P (fCopy es x' y') (.call { callee := .builtin .copy, args := args, argTypes := ts }) := by
  subst ha
  intro call e s v s' h
  unfold fCopy at h
  split at h
  · next h1 h2 =>
    simp only [Option.some.injEq, Prod.mk.injEq] at h
    obtain ⟨rfl, rfl⟩ := h
    refine ⟨Nat.le_refl _, fun F w0 ρ w a he hs hf o ho => ?_⟩
    have r1 := he.x hx h1
    have r2 := he.x hy h2
    simp only [Rep] at r1 r2
    refine res_here (cv := .int .i64 0) hs (by simp only [Rep]; rfl) ?_
    simp [execOp, ho, resolve, invoke, builtin, Builtin.copy_, ht0, r1, r2, run_underlying hu, Builtin.lenOf, size_run he1, Builtin.firstCells, goInt]
  · next o' off len cap h1 h2 =>
    simp only [Option.some.injEq, Prod.mk.injEq] at h
    obtain ⟨rfl, rfl⟩ := h
    refine ⟨Nat.le_refl _, fun F w0 ρ w a he hs hf o ho => ?_⟩
    have r1 := he.x hx h1
    have r2 := he.x hy h2
    simp only [Rep] at r1 r2
    obtain ⟨l, c, _, r2, _⟩ := r2
    refine res_here (cv := .int .i64 0) hs (by simp only [Rep]; rfl) ?_
    simp [execOp, ho, resolve, invoke, builtin, Builtin.copy_, ht0, r1, r2, run_underlying hu, Builtin.lenOf, size_run he1, Builtin.firstCells, goInt, loadCells, loadCellsFrom]
  · next o' off len cap h1 h2 =>
    simp only [Option.some.injEq, Prod.mk.injEq] at h
    obtain ⟨rfl, rfl⟩ := h
    refine ⟨Nat.le_refl _, fun F w0 ρ w a he hs hf o ho => ?_⟩
    have r1 := he.x hx h1
    have r2 := he.x hy h2
    simp only [Rep] at r1 r2
    obtain ⟨l, c, _, r1, _⟩ := r1
    refine res_here (cv := .int .i64 0) hs (by simp only [Rep]; rfl) ?_
    simp [execOp, ho, resolve, invoke, builtin, Builtin.copy_, ht0, r1, r2, run_underlying hu, Builtin.lenOf, size_run he1, Builtin.firstCells, goInt, storeCells]
  · next o1 off len cap o2 off' len' cap' h1 h2 =>
    simp only [] at h
    split at h
    · next vs hld =>
      cases q : allOne vs with
      | false => rw [q] at h; cases h
      | true =>
        rw [q, cond_true] at h
        split at h
        · next s1 hst =>
          simp only [Option.some.injEq, Prod.mk.injEq] at h
          obtain ⟨rfl, rfl⟩ := h
          obtain ⟨cs, cs', g1, g2, g3, g4⟩ := store_some hst
          refine ⟨by omega, fun F w0 ρ w a he hs hf o ho => ?_⟩
          have r1 := he.x hx h1
          have r2 := he.x hy h2
          simp only [Rep] at r1 r2
          obtain ⟨l1, c1, hl1, r1, _⟩ := r1
          obtain ⟨l2, c2, hl2, r2, _⟩ := r2
          obtain ⟨cs2, ro, g5, g6⟩ := load_some hld
          obtain ⟨us, e1, e2, e3, e4⟩ := hs.cells (P := P) g5 hl2 g6
          obtain ⟨hb0, w', e5, e6⟩ := hs.store (P := P) g1 hl1 g2 e1 (e1.ones q)
          refine ⟨ρ, .int .i64 ((Nat.min len' len : Nat) : Int), w', by rw [g4]; exact Ext.refl _ _ _, by simp only [Rep]; rfl, by rw [g3]; exact e6, .inl ?_⟩
          have e7 : (storeCells ⟨l1.b, l1.base + off, none⟩ us).run P w = .ok () w' := by rw [hb0, Nat.zero_add]; exact e5
          have e8 : (Builtin.copy_ ts o.type #[a.eval x, a.eval y]).run P w = .ok (.int .i64 ((Nat.min len' len : Nat) : Int)) w' := by
            simp only [Builtin.copy_, ht0, r1, r2]
            simp only [List.getElem?_toArray, List.getElem?_cons_zero, List.getElem?_cons_succ]
            simp only [Sem.run_bind, run_underlying hu, Result.andThen_ok, Builtin.lenOf, Sem.run_pure, size_run he1, Builtin.firstCells, e3, e7, goInt]
          simp [execOp, ho, resolve, invoke, builtin, e8]
        · cases h
    · cases h
  · cases h
end
end Go.Am
namespace Go.Am
set_option linter.unusedVariables false
set_option linter.unusedSimpArgs false

def Callable (P : Program) (f : FuncId) : Prop := ∃ G, P.funcs[f]? = some G ∧ G.body.isSome = true ∧ G.name ≠ "runtime.NumGoroutine"

/-- A call that is borne. -/
def CallOk (P : Program) (call : Call) : Prop :=
  ∀ f vs s v s', call f vs s = some (v, s') → s.next ≤ s'.next ∧ Callable P f ∧
    ∀ (F : Fr) (w0 : World) (ρ : Rho) (w : World) (cvs : List Value), RepL ρ vs cvs → Sat F w0 ρ s.heap.get w → Fresh ρ s.next s'.next →
      Calls P f ⟨cvs⟩ w fun e w' => ∃ ρ' cv, e = .returned cv ∧ Ext ρ ρ' s.next s'.next ∧ Rep ρ' v cv ∧ Sat F w0 ρ' s'.heap.get w'

def OpSound (P : Program) (f : FOp) (op : Op) : Prop :=
  ∀ call, CallOk P call → ∀ e s v s', f call e s = some (v, s') → s.next ≤ s'.next ∧
    ∀ (F : Fr) (w0 : World) (ρ : Rho) (w : World) (a : Act), EnvRep ρ e a.tmps → Sat F w0 ρ s.heap.get w → Fresh ρ s.next s'.next →
    ∀ (o : Oper) (K : Act → World → Prop) (Q : Exit → Act → World → Prop), o.op = op →
      (∀ ρ' cv w', Ext ρ ρ' s.next s'.next → Rep ρ' v cv → Sat F w0 ρ' s'.heap.get w' → K (a.put o.dst cv) w') → o.wp P a w K Q

section
variable {P : Program}

theorem OpOk.sound {f : FOp} {op : Op} (h : OpOk P f op) : OpSound P f op := by
  intro call _ e s v s' hf
  obtain ⟨h1, h2⟩ := h call e s v s' hf
  refine ⟨h1, fun F w0 ρ w a he hs hfr o K Q ho hK => ?_⟩
  obtain ⟨ρ', cv, w', g1, g2, g3, g4⟩ := h2 F w0 ρ w a he hs hfr o ho
  unfold Oper.wp
  rcases g4 with g4 | ⟨g4, rfl⟩
  · rw [g4]; exact hK ρ' cv w' g1 g2 g3
  · rw [g4]; exact hK ρ' undef w' g1 g2 g3

theorem callFunc_run {f : FuncId} (h : Callable P f) (args : Array Value) (w : World) : (callFunc f args).run P w = .ok (.enter f args) w := by
  obtain ⟨G, h1, h2, h3⟩ := h
  unfold callFunc
  simp only [Sem.run_bind, run_program, Result.andThen_ok, h1]
  have h4 : (G.name == "runtime.NumGoroutine") = false := by simpa using h3
  rw [h4]
  have h5 : G.body.isNone = false := by
    cases hb : G.body with
    | none => rw [hb] at h2; cases h2
    | some c => rfl
  rw [h5]
  rfl

theorem upon_calls {o : Oper} {a : Act} {K : Act → World → Prop} {Q : Exit → Act → World → Prop} {f : FuncId} {args : Array Value} {w : World} {R : Value → World → Prop}
    (hc : Calls P f args w fun e w' => ∃ cv, e = .returned cv ∧ R cv w') (hK : ∀ cv w', R cv w' → K (a.put o.dst cv) w') : o.upon P a K Q (.ok (.enter f args) w) := by
  rw [Oper.upon_enter]
  refine hc.mono fun e w' ⟨cv, he, hr⟩ => ?_
  subst he
  exact hK cv w' hr

theorem sound_call {f : FuncId} {args : Array Operand} {ys : List AX} {ts : Array TypeId} (hx : trXs args.toList = some ys) : OpSound P (fCall f ys) (.call { callee := .value (.func f), args := args, argTypes := ts }) := by
  intro call hcall e s v s' h
  unfold fCall at h
  split at h
  · next vs h1 =>
    obtain ⟨g1, g2, g3⟩ := hcall f vs s v s' h
    refine ⟨g1, fun F w0 ρ w a he hs hfr o K Q ho hK => ?_⟩
    have hr := he.xs hx h1
    have hc := g3 F w0 ρ w _ hr hs hfr
    unfold Oper.wp
    have e1 : (execOp a.eval o).run P w = .ok (.enter f ⟨args.toList.map a.eval⟩) w := by
      have e2 : (⟨args.toList.map a.eval⟩ : Array Value) = args.map a.eval := by rw [← Array.toList_map]
      rw [e2]
      simp only [execOp, ho, resolve, Deferred.ofValue, Act.eval, Sem.run_bind, Sem.run_pure, Result.andThen_ok, invoke]
      simpa using callFunc_run g2 (args.map a.eval) w
    rw [e1]
    exact upon_calls (R := fun cv w' => ∃ ρ', Ext ρ ρ' s.next s'.next ∧ Rep ρ' v cv ∧ Sat F w0 ρ' s'.heap.get w') (hc.mono fun e w' ⟨ρ', cv, q1, q2⟩ => ⟨cv, q1, ρ', q2⟩) fun cv w' ⟨ρ', q1, q2, q3⟩ => hK ρ' cv w' q1 q2 q3
  · cases h

theorem sound_callV {x : Operand} {x' : AX} {args : Array Operand} {ys : List AX} {ts : Array TypeId} (hf : trX x = some x') (hx : trXs args.toList = some ys) : OpSound P (fCallV x' ys) (.call { callee := .value x, args := args, argTypes := ts }) := by
  intro call hcall e s v s' h
  unfold fCallV at h
  split at h
  · next f caps vs h0 h1 =>
    rw [appL_eq] at h
    obtain ⟨g1, g2, g3⟩ := hcall f (vs ++ caps) s v s' h
    refine ⟨g1, fun F w0 ρ w a he hs hfr o K Q ho hK => ?_⟩
    have hr := he.xs hx h1
    have hv := he.x hf h0
    simp only [Rep] at hv
    obtain ⟨cv, hv, hcaps⟩ := hv
    have hc := g3 F w0 ρ w _ (hr.append hcaps) hs hfr
    unfold Oper.wp
    have e1 : (execOp a.eval o).run P w = .ok (.enter f ⟨args.toList.map a.eval ++ cv⟩) w := by
      have e2 : (⟨args.toList.map a.eval ++ cv⟩ : Array Value) = args.map a.eval ++ (⟨cv⟩ : Array Value) := by
        apply Array.ext'
        simp
      rw [e2]
      simp only [execOp, ho, resolve, hv, Deferred.ofValue, Sem.run_bind, Sem.run_pure, Result.andThen_ok, invoke]
      simpa using callFunc_run g2 (args.map a.eval ++ (⟨cv⟩ : Array Value)) w
    rw [e1]
    exact upon_calls (R := fun cv w' => ∃ ρ', Ext ρ ρ' s.next s'.next ∧ Rep ρ' v cv ∧ Sat F w0 ρ' s'.heap.get w') (hc.mono fun e w' ⟨ρ', cv, q1, q2⟩ => ⟨cv, q1, ρ', q2⟩) fun cv w' ⟨ρ', q1, q2, q3⟩ => hK ρ' cv w' q1 q2 q3
  · cases h

theorem args1 {args : Array Operand} {x : AX} (h : trXs args.toList = some [x]) : ∃ y, args = #[y] ∧ trX y = some x := by
  obtain ⟨l⟩ := args
  cases l with
  | nil => simp [trXs] at h
  | cons y l =>
    simp only [trXs] at h
    split at h
    · next a b h1 h2 =>
      simp only [Option.some.injEq, List.cons.injEq] at h
      obtain ⟨rfl, rfl⟩ := h
      cases l with
      | nil => exact ⟨y, rfl, h1⟩
      | cons z l =>
        simp only [trXs] at h2
        split at h2 <;> simp at h2
    · cases h
theorem args2 {args : Array Operand} {x x2 : AX} (h : trXs args.toList = some [x, x2]) : ∃ y y2, args = #[y, y2] ∧ trX y = some x ∧ trX y2 = some x2 := by
  obtain ⟨l⟩ := args
  cases l with
  | nil => simp [trXs] at h
  | cons y l =>
    simp only [trXs] at h
    split at h
    · next a b h1 h2 =>
      simp only [Option.some.injEq, List.cons.injEq] at h
      obtain ⟨rfl, rfl⟩ := h
      obtain ⟨z, hz, hz2⟩ := args1 (args := ⟨l⟩) h2
      have : l = [z] := by simpa using congrArg Array.toList hz
      subst this
      exact ⟨y, z, rfl, h1, hz2⟩
    · cases h

theorem fBad_sound (op : Op) : OpSound P fBad op := fun call _ e s v s' h => by simp [fBad] at h

theorem trXo_none {m : Option Operand} {m' : Option AX} (h : trXo m = some m') (hn : m'.isNone = true) : m = none := by
  cases m with
  | none => rfl
  | some x => simp only [trXo, Option.map_eq_some_iff] at h; obtain ⟨z, _, rfl⟩ := h; simp at hn
theorem trXo_some {m : Option Operand} {m' : Option AX} (h : trXo m = some m') (hn : m'.isSome = true) : m.isSome = true := by
  cases m with
  | none => simp [trXo] at h; subst h; simp at hn
  | some x => rfl

theorem trOp_sound (op : Op) (f : FOp) (h : trOp P op = some f) : OpSound P f op := by
  unfold trOp at h
  split at h
  · simp only [Option.map_eq_some_iff] at h; obtain ⟨x', hx, rfl⟩ := h; exact (ok_move hx _ (.inl rfl)).sound
  · simp only [Option.map_eq_some_iff] at h; obtain ⟨x', hx, rfl⟩ := h; exact (ok_move hx _ (.inr rfl)).sound
  · -- pick
    split at h
    · next hc hx hy => injection h with h; subst h; exact (ok_pick hc hx hy).sound
    · cases h
  · simp only [Option.map_eq_some_iff] at h; obtain ⟨z, hz, rfl⟩ := h; exact (ok_alloc hz).sound
  · simp only [Option.map_eq_some_iff] at h; obtain ⟨x', hx, rfl⟩ := h; exact (ok_box hx _).sound
  · -- build
    split at h
    · next fs hu =>
      split at h
      · next hz hl => 
        split at h
        · next hall =>
          injection h with h; subst h
          refine (ok_buildStruct hu (fun f hf => ?_) hz hl).sound
          exact Option.isSome_iff_exists.1 (List.all_eq_true.1 hall f hf)
        · cases h
      · cases h
    · next n el hu =>
      split at h
      · next hes =>
        split at h
        · next hz hl => injection h with h; subst h; exact (ok_buildArr hu hes hz hl).sound
        · cases h
      · cases h
    · cases h
  · -- buildSlice
    split at h
    · next el hu =>
      split at h
      · next hes hz =>
        split at h
        · next l hl =>
          split at h
          · next hc => injection h with h; subst h; exact (ok_buildSlice hu hes hz hl hc.1 hc.2.1 hc.2.2).sound
          · cases h
        · cases h
      · cases h
    · cases h
  · -- load
    split at h
    · next ha hk hx => injection h with h; subst h; exact (ok_loadN hx ha hk).sound
    · next ha hk hx => injection h with h; subst h; exact (ok_load1 hx ha).sound
    · cases h
  · -- store
    split at h
    · next hk hx hy => injection h with h; subst h; exact (ok_store hx hy hk).sound
    · cases h
  · simp only [Option.map_eq_some_iff] at h; obtain ⟨x', hx, rfl⟩ := h; exact (ok_nilCheck hx).sound
  · -- binOp
    split at h
    · next hk hx hy => injection h with h; subst h; exact (ok_bin hk hx hy).sound
    · cases h
  · simp only [Option.map_eq_some_iff] at h; obtain ⟨x', hx, rfl⟩ := h; exact (ok_not hx _).sound
  · simp only [Option.map_eq_some_iff] at h; obtain ⟨x', hx, rfl⟩ := h; exact (ok_neg hx _).sound
  · -- convert
    split at h
    · next hs hd hx => injection h with h; subst h; exact (ok_convI hx hs hd).sound
    · next el _ hs hd hx =>
      split at h
      · next h8 =>
        injection h with h; subst h
        have h8' : P.underlying el = some (.int .u8) := by
          unfold u8Of at h8; split at h8
          · assumption
          · cases h8
        exact (ok_convSB hs hd h8' hx).sound
      · cases h
    · next el _ hs hd hx =>
      split at h
      · next h8 =>
        injection h with h; subst h
        have h8' : P.underlying el = some (.int .u8) := by
          unfold u8Of at h8; split at h8
          · assumption
          · cases h8
        exact (ok_convBS hs h8' hd hx).sound
      · cases h
    · cases h
  · -- makeFunc
    split at h
    · next h0 => simp only [Option.map_eq_some_iff] at h; obtain ⟨x', hx, rfl⟩ := h; exact (ok_mkFunc h0 hx).sound
    · cases h
  · injection h with h; subst h; exact (ok_makeMap _).sound
  · -- makeSlice
    split at h
    · next el hu =>
      split at h
      · next hes hb hz hl hc =>
        split at h
        · next hcc => injection h with h; subst h; exact (ok_makeSlice hu hes hb hz hl hc hcc.1 hcc.2.1 hcc.2.2).sound
        · cases h
      · cases h
    · cases h
  · -- slice
    split at h
    · next x' lo' hi' mx' hx hlo hhi hmx =>
      split at h
      · next hu =>
        split at h
        · next hm =>
          injection h with h; subst h
          have hmn := trXo_none hmx hm
          subst hmn
          exact (ok_sliceStr hu hx hlo hhi).sound
        · cases h
      · next el hu =>
        split at h
        · next es hes =>
          split at h
          · next hc =>
            injection h with h; subst h
            refine (ok_sliceSl hu hes hc.1 ?_ hx hlo hhi hmx).sound
            rcases hc.2 with q | q
            · exact .inl (trXo_none hmx q)
            · exact .inr (trXo_some hhi q)
          · cases h
        · cases h
      · next n el hu =>
        split at h
        · next es hes =>
          split at h
          · next hc =>
            injection h with h; subst h
            have hmn := trXo_none hmx hc.2
            subst hmn
            exact (ok_sliceArr hu hes hx hlo hhi).sound
          · cases h
        · cases h
      · cases h
    · cases h
  · -- fieldAddr
    split at h
    · next fs hu =>
      split at h
      · next f hf =>
        split at h
        · next k x' hk hx =>
          split at h
          · cases h
          · next h0 => injection h with h; subst h; exact (ok_fieldAddr hu hf hk h0 hx).sound
        · cases h
      · cases h
    · cases h
  · -- field
    split at h
    · next fs hu =>
      split at h
      · next f hf =>
        split at h
        · next ha hk hx => injection h with h; subst h; exact (ok_fieldN hu hf ha hk hx).sound
        · next ha hx => injection h with h; subst h; exact (ok_field1 hu hf ha hx).sound
        · cases h
      · cases h
    · cases h
  · -- indexAddr
    split at h
    · next x' i' hx hi =>
      split at h
      · next el hu =>
        split at h
        · next es hes => injection h with h; subst h; exact (ok_indexAddr hu hes hx hi).sound
        · cases h
      · next n el hu =>
        split at h
        · next es hes => injection h with h; subst h; exact (ok_indexArr hu hes hx hi).sound
        · cases h
      · cases h
    · cases h
  · -- index
    split at h
    · next x' i' hx hi =>
      split at h
      · next hu => injection h with h; subst h; exact (ok_indexStr hu hx hi).sound
      · next n el hu =>
        split at h
        · next ha hs => injection h with h; subst h; exact (ok_indexAgg1 hu ha hs hx hi).sound
        · cases h
      · cases h
    · cases h
  · -- lookup
    split at h
    · next kt et hu =>
      split at h
      · next hk hz hx hi => injection h with h; subst h; exact (ok_lookup (kd := true) hu hk rfl hz hx hi).sound
      · next hk hz hx hi => injection h with h; subst h; exact (ok_lookup (kd := false) hu hk ⟨_, rfl⟩ hz hx hi).sound
      · cases h
    · cases h
  · -- mapUpdate
    split at h
    · next kt et hu =>
      split at h
      · next hk hm hkk hv => injection h with h; subst h; exact (ok_mapUpdate (kd := true) hu hk rfl hm hkk hv).sound
      · next hk hm hkk hv => injection h with h; subst h; exact (ok_mapUpdate (kd := false) hu hk ⟨_, rfl⟩ hm hkk hv).sound
      · cases h
    · cases h
  · simp only [Option.map_eq_some_iff] at h; obtain ⟨x', hx, rfl⟩ := h; exact (ok_extract hx _).sound
  · -- call
    next c =>
    obtain ⟨callee, args, ts⟩ := c
    simp only [] at h
    split at h
    · next ys hx =>
      split at h
      · next f0 =>
        split at h
        · next G hG =>
          split at h
          · injection h with h; subst h; exact sound_call hx
          · cases h
        · cases h
      · next x hne => simp only [Option.map_eq_some_iff] at h; obtain ⟨x', hx', rfl⟩ := h; exact sound_callV hx' hx
      · -- len
        split at h
        · next x t hts =>
          obtain ⟨y, rfl, hy⟩ := args1 hx
          split at h
          · next hu => injection h with h; subst h; exact (ok_lenStr (ty := 0) hu hy rfl hts).sound
          · next hu => injection h with h; subst h; exact (ok_lenSl hu hy rfl hts).sound
          · next hu => injection h with h; subst h; exact (ok_lenMap hu hy rfl hts).sound
          · cases h
        · cases h
      · -- cap
        split at h
        · next x t hts =>
          obtain ⟨y, rfl, hy⟩ := args1 hx
          split at h
          · next hu => injection h with h; subst h; exact (ok_capSl hu hy rfl hts).sound
          · cases h
        · cases h
      · -- append
        split at h
        · next x x2 t u hts htu =>
          obtain ⟨y, y2, rfl, hy, hy2⟩ := args2 hx
          split at h
          · next el hu =>
            split at h
            · next es b z hes hb hz =>
              split at h
              · next hc =>
                split at h
                · next hv => injection h with h; subst h; exact (ok_append (ty := 0) hu hes hb hz hc.1 hc.2.1 hc.2.2 hv rfl hts htu hy hy2).sound
                · next hv =>
                  split at h
                  · next h1 =>
                    injection h with h; subst h
                    obtain ⟨rfl, rfl⟩ := h1
                    exact (ok_appendStr hu hes hb hz hc.1 hv rfl hts htu hy hy2).sound
                  · cases h
                · next hv => injection h with h; subst h; exact (ok_appendZeros hu hes hb hz hc.1 hc.2.1 hc.2.2 hv rfl hts htu hy hy2).sound
                · cases h
              · cases h
            · cases h
          · cases h
        · cases h
      · injection h with h; subst h; exact (ok_max hx).sound
      · injection h with h; subst h; exact (ok_min hx).sound
      · -- copy
        split at h
        · next x x2 t u hts htu =>
          obtain ⟨y, y2, rfl, hy, hy2⟩ := args2 hx
          split at h
          · next hu hv =>
            split at h
            · next es hes => injection h with h; subst h; exact (ok_copy (el' := 0) (u := u) hu hes rfl hts hy hy2).sound
            · cases h
          · cases h
        · cases h
      · cases h
    · cases h
  · cases h

theorem opOr_sound (op : Op) : OpSound P (opOr (trOp P op)) op := by
  cases h : trOp P op with
  | none => exact fBad_sound op
  | some f => exact trOp_sound op f h
end
end Go.Am
namespace Go.Am
set_option linter.unusedVariables false
set_option linter.unusedSimpArgs false

section
variable {P : Program}

/-! ### One operation of a region -/
theorem EnvRep.put {ρ : Rho} {e : Tr AV} {tmps : Array Value} (h : EnvRep ρ e tmps) {d : Nat} (hd : d < tmps.size) {v : AV} {cv : Value} (hv : Rep ρ v cv) : EnvRep ρ (e.put (some v) d) (tmps.setIfInBounds d cv) := fun t a ht => by
  rw [Tr.get_put] at ht
  by_cases e1 : t = d
  · subst e1
    rw [if_pos rfl] at ht
    injection ht with ht; subst ht
    exact ⟨cv, by rw [Array.getElem?_setIfInBounds_self_of_lt hd], hv⟩
  · rw [if_neg e1] at ht
    obtain ⟨u, h1, h2⟩ := h t a ht
    exact ⟨u, by rw [Array.getElem?_setIfInBounds_ne (fun q => e1 q.symm)]; exact h1, h2⟩
theorem EnvRep.mono {ρ ρ' : Rho} {e : Tr AV} {tmps : Array Value} (h : EnvRep ρ e tmps) (hs : Sub ρ ρ') : EnvRep ρ' e tmps := fun t a ht => let ⟨u, h1, h2⟩ := h t a ht; ⟨u, h1, h2.mono hs⟩

/-- A step of a region that is borne. -/
def FoSound (P : Program) (N : Nat) (ops : Array Oper) (i : Nat) (f : FO) : Prop :=
  ∀ call, CallOk P call → ∀ e s e' s', f call e s = some (e', s') → s.next ≤ s'.next ∧
    ∀ (F : Fr) (w0 : World) (ρ : Rho) (w : World) (a : Act), EnvRep ρ e a.tmps → N ≤ a.tmps.size → Sat F w0 ρ s.heap.get w → Fresh ρ s.next s'.next →
    ∀ (K : Act → World → Prop) (Q : Exit → Act → World → Prop), (∀ ρ' a' w', Ext ρ ρ' s.next s'.next → EnvRep ρ' e' a'.tmps → a'.tmps.size = a.tmps.size → a'.defers = a.defers → Sat F w0 ρ' s'.heap.get w' → K a' w') → wpOp P ops Q i K a w

theorem wanted_run {ρ : Rho} {e : Tr AV} {a : Act} (he : EnvRep ρ e a.tmps) {ops : Array Oper} {j t : Nat} (hg : guardTmp ops j = some t) {want b : Bool} (h : wantedA e t want = some b) {x : Oper} (hx : x.guard = some (j, want)) : Region.wanted x (yielded ops a.tmps) = b := by
  have hd : (ops[j]?).bind (·.dst) = some t := by
    unfold guardTmp at hg
    split at hg
    · next o ho => simp [ho, hg]
    · cases hg
  unfold wantedA at h
  simp only [Region.wanted, hx, yielded, hd, Option.bind_some]
  split at h
  · next c hc =>
    injection h with h; subst h
    obtain ⟨u, h1, h2⟩ := he t _ hc
    simp only [Rep] at h2
    subst h2
    simp only [h1, bBeq_eq]
    cases c <;> cases want <;> rfl
  · next hc =>
    injection h with h; subst h
    obtain ⟨u, h1, h2⟩ := he t _ hc
    simp only [Rep, RepL] at h2
    obtain ⟨cv, h2, rfl⟩ := h2
    subst h2
    simp only [h1]
    cases want <;> rfl
  · cases h

theorem undef_rep (ρ : Rho) : Rep ρ AV.undef undef := by simp only [AV.undef, Rep]; exact ⟨[], rfl, RepL.nil ρ⟩

theorem xBad_sound {N : Nat} {ops : Array Oper} {i : Nat} : FoSound P N ops i xBad := fun call _ e s e' s' h => by simp [xBad] at h

theorem o_sound {N d : Nat} {ops : Array Oper} {i : Nat} {x : Oper} (hi : ops[i]? = some x) (hd : x.dst = some d) (hw : ∀ a : Act, Region.wanted x (yielded ops a.tmps) = true ∨ True) (hN : d < N) {f : FOp} (hf : OpSound P f x.op) :
    ∀ call, CallOk P call → ∀ e s e' s', o d f call e s = some (e', s') → s.next ≤ s'.next ∧
    ∀ (F : Fr) (w0 : World) (ρ : Rho) (w : World) (a : Act), EnvRep ρ e a.tmps → N ≤ a.tmps.size → Sat F w0 ρ s.heap.get w → Fresh ρ s.next s'.next → Region.wanted x (yielded ops a.tmps) = true →
    ∀ (K : Act → World → Prop) (Q : Exit → Act → World → Prop), (∀ ρ' a' w', Ext ρ ρ' s.next s'.next → EnvRep ρ' e' a'.tmps → a'.tmps.size = a.tmps.size → a'.defers = a.defers → Sat F w0 ρ' s'.heap.get w' → K a' w') → wpOp P ops Q i K a w := by
  intro call hcall e s e' s' h
  unfold o at h
  split at h
  · next v s1 hv =>
    simp only [Option.some.injEq, Prod.mk.injEq] at h
    obtain ⟨rfl, rfl⟩ := h
    obtain ⟨g1, g2⟩ := hf call hcall e s v _ hv
    refine ⟨g1, fun F w0 ρ w a he hsz hs hfr hwant K Q hK => ?_⟩
    unfold wpOp
    simp only [hi, hwant, if_true]
    refine .inl (g2 F w0 ρ w a he hs hfr x K Q rfl fun ρ' cv w' q1 q2 q3 => ?_)
    rw [hd]
    exact hK ρ' _ w' q1 ((he.mono q1.sub).put (Nat.lt_of_lt_of_le hN hsz) q2) (by simp [Act.put]) rfl q3
  · cases h
theorem n_sound {N : Nat} {ops : Array Oper} {i : Nat} {x : Oper} (hi : ops[i]? = some x) (hd : x.dst = none) {f : FOp} (hf : OpSound P f x.op) :
    ∀ call, CallOk P call → ∀ e s e' s', n f call e s = some (e', s') → s.next ≤ s'.next ∧
    ∀ (F : Fr) (w0 : World) (ρ : Rho) (w : World) (a : Act), EnvRep ρ e a.tmps → N ≤ a.tmps.size → Sat F w0 ρ s.heap.get w → Fresh ρ s.next s'.next → Region.wanted x (yielded ops a.tmps) = true →
    ∀ (K : Act → World → Prop) (Q : Exit → Act → World → Prop), (∀ ρ' a' w', Ext ρ ρ' s.next s'.next → EnvRep ρ' e' a'.tmps → a'.tmps.size = a.tmps.size → a'.defers = a.defers → Sat F w0 ρ' s'.heap.get w' → K a' w') → wpOp P ops Q i K a w := by
  intro call hcall e s e' s' h
  unfold n at h
  split at h
  · next v s1 hv =>
    simp only [Option.some.injEq, Prod.mk.injEq] at h
    obtain ⟨rfl, rfl⟩ := h
    obtain ⟨g1, g2⟩ := hf call hcall e s v _ hv
    refine ⟨g1, fun F w0 ρ w a he hsz hs hfr hwant K Q hK => ?_⟩
    unfold wpOp
    simp only [hi, hwant, if_true]
    refine .inl (g2 F w0 ρ w a he hs hfr x K Q rfl fun ρ' cv w' q1 q2 q3 => ?_)
    rw [hd]
    exact hK ρ' _ w' q1 (he.mono q1.sub) rfl rfl q3
  · cases h

theorem trOper_sound {N : Nat} {ops : Array Oper} {i : Nat} {x : Oper} (hi : ops[i]? = some x) : FoSound P N ops i (trOper P N ops x) := by
  unfold trOper
  split
  · next d hd hg =>
    split
    · next hN =>
      intro call hcall e s e' s' h
      obtain ⟨g1, g2⟩ := o_sound hi hd (fun _ => .inr trivial) hN (opOr_sound x.op) call hcall e s e' s' h
      exact ⟨g1, fun F w0 ρ w a he hsz hs hfr K Q hK => g2 F w0 ρ w a he hsz hs hfr (by simp [Region.wanted, hg]) K Q hK⟩
    · exact xBad_sound
  · next hd hg =>
    intro call hcall e s e' s' h
    obtain ⟨g1, g2⟩ := n_sound (N := N) hi hd (opOr_sound x.op) call hcall e s e' s' h
    exact ⟨g1, fun F w0 ρ w a he hsz hs hfr K Q hK => g2 F w0 ρ w a he hsz hs hfr (by simp [Region.wanted, hg]) K Q hK⟩
  · next d j want hd hg =>
    split
    · next t ht =>
      split
      · next hN =>
        intro call hcall e s e' s' h
        unfold g at h
        split at h
        · next hw =>
          obtain ⟨g1, g2⟩ := o_sound hi hd (fun _ => .inr trivial) hN (opOr_sound x.op) call hcall e s e' s' h
          exact ⟨g1, fun F w0 ρ w a he hsz hs hfr K Q hK => g2 F w0 ρ w a he hsz hs hfr (wanted_run he ht hw hg) K Q hK⟩
        · next hw =>
          simp only [Option.some.injEq, Prod.mk.injEq] at h
          obtain ⟨rfl, rfl⟩ := h
          refine ⟨Nat.le_refl _, fun F w0 ρ w a he hsz hs hfr K Q hK => ?_⟩
          unfold wpOp
          simp only [hi, wanted_run he ht hw hg]
          rw [hd]
          exact hK ρ _ w (Ext.refl _ _ _) (he.put (Nat.lt_of_lt_of_le hN hsz) (undef_rep ρ)) (by simp [Act.put]) rfl hs
        · cases h
      · exact xBad_sound
    · exact xBad_sound
  · next j want hd hg =>
    split
    · next t ht =>
      intro call hcall e s e' s' h
      unfold Am.h at h
      split at h
      · next hw =>
        obtain ⟨g1, g2⟩ := n_sound (N := N) hi hd (opOr_sound x.op) call hcall e s e' s' h
        exact ⟨g1, fun F w0 ρ w a he hsz hs hfr K Q hK => g2 F w0 ρ w a he hsz hs hfr (wanted_run he ht hw hg) K Q hK⟩
      · next hw =>
        simp only [Option.some.injEq, Prod.mk.injEq] at h
        obtain ⟨rfl, rfl⟩ := h
        refine ⟨Nat.le_refl _, fun F w0 ρ w a he hsz hs hfr K Q hK => ?_⟩
        unfold wpOp
        simp only [hi, wanted_run he ht hw hg]
        rw [hd]
        exact hK ρ _ w (Ext.refl _ _ _) he rfl rfl hs
      · cases h
    · exact xBad_sound

/-! ### A region in the text's order -/
theorem opsF_nil (call : Call) (e : Tr AV) (s : St) : opsF [] call e s = some (e, s) := rfl
theorem opsF_cons (x : FO) (l : List FO) (call : Call) (e : Tr AV) (s : St) : opsF (x :: l) call e s = match x call e s with
    | some (e', s') => opsF l call e' s'
    | none => none := rfl

theorem ops_sound {N : Nat} {ops : Array Oper} {Q : Exit → Act → World → Prop} {call : Call} (hcall : CallOk P call) : ∀ (m k : Nat) (e : Tr AV) (s : St) (e' : Tr AV) (s' : St), ops.size = k + m → opsF ((ops.toList.drop k).map (trOper P N ops)) call e s = some (e', s') →
    s.next ≤ s'.next ∧ ∀ (F : Fr) (w0 : World) (ρ : Rho) (w : World) (a : Act), EnvRep ρ e a.tmps → N ≤ a.tmps.size → Sat F w0 ρ s.heap.get w → Fresh ρ s.next s'.next →
      (∀ ρ' a' w', Ext ρ ρ' s.next s'.next → EnvRep ρ' e' a'.tmps → a'.tmps.size = a.tmps.size → a'.defers = a.defers → Sat F w0 ρ' s'.heap.get w' → Q .normal a' w') → wpOps P ops Q (List.range' k m) a w
  | 0, k, e, s, e', s', hk, h => by
    rw [List.drop_eq_nil_of_le (by simp; omega), List.map_nil, opsF_nil] at h
    simp only [Option.some.injEq, Prod.mk.injEq] at h
    obtain ⟨rfl, rfl⟩ := h
    refine ⟨Nat.le_refl _, fun F w0 ρ w a he hsz hs hfr hK => ?_⟩
    simp only [List.range'_zero, wpOps]
    exact hK ρ a w (Ext.refl _ _ _) he rfl rfl hs
  | m + 1, k, e, s, e', s', hk, h => by
    have hlt : k < ops.toList.length := by simp; omega
    have hlt' : k < ops.size := by omega
    rw [List.drop_eq_getElem_cons hlt, List.map_cons, opsF_cons] at h
    split at h
    · next e1 s1 h1 =>
      have hi : ops[k]? = some (ops.toList[k]) := by rw [Array.getElem?_eq_getElem hlt']; simp
      obtain ⟨g1, g2⟩ := trOper_sound (P := P) (N := N) hi call hcall e s e1 s1 h1
      obtain ⟨g3, g4⟩ := ops_sound hcall m (k + 1) e1 s1 e' s' (by omega) h
      refine ⟨by omega, fun F w0 ρ w a he hsz hs hfr hK => ?_⟩
      rw [List.range'_succ, wpOps_cons]
      refine g2 F w0 ρ w a he hsz hs (hfr.left g3) _ Q fun ρ1 a1 w1 q1 q2 q3 q4 q5 => ?_
      refine g4 F w0 ρ1 w1 a1 q2 (by omega) q5 (hfr.right g1 q1) fun ρ2 a2 w2 r1 r2 r3 r4 r5 => ?_
      exact hK ρ2 a2 w2 (q1.trans r1 g1 g3) r2 (by omega) (by rw [r4, q4]) r5
    · cases h

/-! ### Code -/
/-- What code comes to. -/
def CRp (F : Fr) (w0 : World) (ρ : Rho) (n : Nat) (a : Act) (c : CR) (Q : Exit → Act → World → Prop) : Prop :=
  match c with
  | .norm e s => ∀ ρ' a' w', Ext ρ ρ' n s.next → EnvRep ρ' e a'.tmps → a'.tmps.size = a.tmps.size → a'.defers = a.defers → Sat F w0 ρ' s.heap.get w' → Q .normal a' w'
  | .exit id e s => ∀ ρ' a' w', Ext ρ ρ' n s.next → EnvRep ρ' e a'.tmps → a'.tmps.size = a.tmps.size → a'.defers = a.defers → Sat F w0 ρ' s.heap.get w' → Q (.exit id) a' w'
  | .ret e s => ∀ ρ' a' w', Ext ρ ρ' n s.next → EnvRep ρ' e a'.tmps → a'.tmps.size = a.tmps.size → a'.defers = a.defers → Sat F w0 ρ' s.heap.get w' → Q .ret a' w'
def CR.next : CR → Nat
  | .norm _ s => s.next
  | .exit _ _ s => s.next
  | .ret _ s => s.next
def FcSound (P : Program) (N : Nat) (f : FC) (c : Code) : Prop :=
  ∀ call, CallOk P call → ∀ e s r, f call e s = some r → s.next ≤ r.next ∧
    ∀ (F : Fr) (w0 : World) (ρ : Rho) (w : World) (a : Act), EnvRep ρ e a.tmps → N ≤ a.tmps.size → Sat F w0 ρ s.heap.get w → Fresh ρ s.next r.next →
    ∀ Q, CRp F w0 ρ s.next a r Q → c.wp P Q a w

theorem CRp.weak {F : Fr} {w0 : World} {ρ ρ1 : Rho} {n m : Nat} {a a1 : Act} {c : CR} {Q : Exit → Act → World → Prop} (h : CRp F w0 ρ n a c Q) (hx : Ext ρ ρ1 n m) (hn : n ≤ m) (hm : m ≤ c.next) (hs : a1.tmps.size = a.tmps.size) (hd : a1.defers = a.defers) : CRp F w0 ρ1 m a1 c Q := by
  cases c <;> exact fun ρ' a' w' q1 q2 q3 q4 q5 => h ρ' a' w' (hx.trans q1 hn hm) q2 (by omega) (by rw [q4, hd]) q5

theorem sound_bad {N : Nat} {c : Code} : FcSound P N cBad c := fun call _ e s r h => by simp [cBad] at h

theorem sound_skip {N : Nat} : FcSound P N cSkip .skip := fun call _ e s r h => by
  simp only [cSkip, Option.some.injEq] at h
  subst h
  exact ⟨Nat.le_refl _, fun F w0 ρ w a he hsz hs hf Q hQ => wp_skip (hQ ρ a w (Ext.refl _ _ _) he rfl rfl hs)⟩
theorem sound_exit {N id : Nat} : FcSound P N (cExit id) (.exit id) := fun call _ e s r h => by
  simp only [cExit, Option.some.injEq] at h
  subst h
  exact ⟨Nat.le_refl _, fun F w0 ρ w a he hsz hs hf Q hQ => wp_exit (hQ ρ a w (Ext.refl _ _ _) he rfl rfl hs)⟩
theorem sound_ret {N : Nat} : FcSound P N cRet .ret := fun call _ e s r h => by
  simp only [cRet, Option.some.injEq] at h
  subst h
  exact ⟨Nat.le_refl _, fun F w0 ρ w a he hsz hs hf Q hQ => wp_ret (hQ ρ a w (Ext.refl _ _ _) he rfl rfl hs)⟩
theorem sound_reg {N id : Nat} {ops : Array Oper} : FcSound P N (cReg (ops.toList.map (trOper P N ops))) (.region id ops false) := fun call hcall e s r h => by
  unfold cReg at h
  split at h
  · next e' s' h1 =>
    simp only [Option.some.injEq] at h
    subst h
    have h2 : opsF ((ops.toList.drop 0).map (trOper P N ops)) call e s = some (e', s') := h1
    obtain ⟨g1, _⟩ := ops_sound (P := P) (Q := fun _ _ _ => True) hcall ops.size 0 e s e' s' (by omega) h2
    refine ⟨g1, fun F w0 ρ w a he hsz hs hf Q hQ => ?_⟩
    obtain ⟨_, g2⟩ := ops_sound (P := P) (Q := Q) hcall ops.size 0 e s e' s' (by omega) h2
    refine wp_region ?_
    rw [List.range_eq_range']
    exact g2 F w0 ρ w a he hsz hs hf hQ
  · cases h
theorem sound_seq {N : Nat} {f g : FC} {c d : Code} (hf : FcSound P N f c) (hg : FcSound P N g d) : FcSound P N (cSeq f g) (.seq c d) := fun call hcall e s r h => by
  unfold cSeq at h
  split at h
  · next x hx =>
    obtain ⟨g1, g2⟩ := hf call hcall e s _ hx
    split at h
    · next e' s' =>
      obtain ⟨g3, g4⟩ := hg call hcall e' s' r h
      have g1' : s.next ≤ s'.next := g1
      refine ⟨Nat.le_trans g1 g3, fun F w0 ρ w a he hsz hs hfr Q hQ => wp_seq ?_⟩
      refine g2 F w0 ρ w a he hsz hs (hfr.left g3) _ fun ρ1 a1 w1 q1 q2 q3 q4 q5 => ?_
      exact g4 F w0 ρ1 w1 a1 q2 (by omega) q5 (hfr.right g1' q1) Q (hQ.weak q1 g1' g3 q3 q4)
    · next i e' s' =>
      simp only [Option.some.injEq] at h; subst h
      exact ⟨g1, fun F w0 ρ w a he hsz hs hfr Q hQ => wp_seq (g2 F w0 ρ w a he hsz hs hfr _ hQ)⟩
    · next e' s' =>
      simp only [Option.some.injEq] at h; subst h
      exact ⟨g1, fun F w0 ρ w a he hsz hs hfr Q hQ => wp_seq (g2 F w0 ρ w a he hsz hs hfr _ hQ)⟩
  · cases h
theorem sound_cond {N : Nat} {x : Operand} {y : AX} {f g : FC} {c d : Code} (hx : trX x = some y) (hf : FcSound P N f c) (hg : FcSound P N g d) : FcSound P N (cCond y f g) (.cond x c d) := fun call hcall e s r h => by
  unfold cCond at h
  split at h
  · next v hv =>
    split at h
    · next t =>
      split at h
      · obtain ⟨g1, g2⟩ := hf call hcall e s r h
        refine ⟨g1, fun F w0 ρ w a he hsz hs hfr Q hQ => wp_cond (t := true) ?_ (g2 F w0 ρ w a he hsz hs hfr Q hQ)⟩
        have := he.x hx hv
        simpa only [Rep] using this
      · obtain ⟨g1, g2⟩ := hg call hcall e s r h
        refine ⟨g1, fun F w0 ρ w a he hsz hs hfr Q hQ => wp_cond (t := false) ?_ (g2 F w0 ρ w a he hsz hs hfr Q hQ)⟩
        have := he.x hx hv
        simpa only [Rep] using this
    · cases h
  · cases h
theorem sound_block {N id : Nat} {f : FC} {c : Code} (hf : FcSound P N f c) : FcSound P N (cBlock id f) (.block id c) := fun call hcall e s r h => by
  unfold cBlock at h
  split at h
  · next x hx =>
    obtain ⟨g1, g2⟩ := hf call hcall e s _ hx
    split at h
    · next e' s' =>
      simp only [Option.some.injEq] at h; subst h
      exact ⟨g1, fun F w0 ρ w a he hsz hs hfr Q hQ => wp_block (g2 F w0 ρ w a he hsz hs hfr _ hQ)⟩
    · next j e' s' =>
      cases hj : Nat.beq j id with
      | true =>
        simp only [hj, cond_true, Option.some.injEq] at h; subst h
        refine ⟨g1, fun F w0 ρ w a he hsz hs hfr Q hQ => wp_block (g2 F w0 ρ w a he hsz hs hfr _ fun ρ' a' w' q1 q2 q3 q4 q5 => ?_)⟩
        simp only [Exit.inBlock, Nat.eq_of_beq_eq_true hj, if_true]
        exact hQ ρ' a' w' q1 q2 q3 q4 q5
      | false =>
        simp only [hj, cond_false, Option.some.injEq] at h; subst h
        refine ⟨g1, fun F w0 ρ w a he hsz hs hfr Q hQ => wp_block (g2 F w0 ρ w a he hsz hs hfr _ fun ρ' a' w' q1 q2 q3 q4 q5 => ?_)⟩
        simp only [Exit.inBlock, Nat.ne_of_beq_eq_false hj, if_false]
        exact hQ ρ' a' w' q1 q2 q3 q4 q5
    · next e' s' =>
      simp only [Option.some.injEq] at h; subst h
      exact ⟨g1, fun F w0 ρ w a he hsz hs hfr Q hQ => wp_block (g2 F w0 ρ w a he hsz hs hfr _ hQ)⟩
  · cases h
theorem loopF_succ (f : Tr AV → St → Option CR) (n : Nat) (e : Tr AV) (s : St) : loopF f (n + 1) e s = match f e s with
    | some c => match c with
      | .norm e' s' => loopF f n e' s'
      | .exit i e' s' => some (.exit i e' s')
      | .ret e' s' => some (.ret e' s')
    | none => none := rfl
theorem sound_rounds {N : Nat} {f : FC} {c : Code} (hf : FcSound P N f c) {call : Call} (hcall : CallOk P call) : ∀ (m : Nat) (e : Tr AV) (s : St) (r : CR), loopF (f call) m e s = some r → s.next ≤ r.next ∧
    ∀ (F : Fr) (w0 : World) (ρ : Rho) (w : World) (a : Act), EnvRep ρ e a.tmps → N ≤ a.tmps.size → Sat F w0 ρ s.heap.get w → Fresh ρ s.next r.next →
    ∀ Q, CRp F w0 ρ s.next a r Q → Code.rounds P c Q m a w
  | 0, e, s, r, h => by cases h
  | m + 1, e, s, r, h => by
    rw [loopF_succ] at h
    split at h
    · next x hx =>
      obtain ⟨g1, g2⟩ := hf call hcall e s _ hx
      split at h
      · next e' s' =>
        obtain ⟨g3, g4⟩ := sound_rounds hf hcall m e' s' r h
        have g1' : s.next ≤ s'.next := g1
        refine ⟨Nat.le_trans g1 g3, fun F w0 ρ w a he hsz hs hfr Q hQ => ?_⟩
        rw [rounds_succ]
        refine g2 F w0 ρ w a he hsz hs (hfr.left g3) _ fun ρ1 a1 w1 q1 q2 q3 q4 q5 => ?_
        exact g4 F w0 ρ1 w1 a1 q2 (by omega) q5 (hfr.right g1' q1) Q (hQ.weak q1 g1' g3 q3 q4)
      · next i e' s' =>
        simp only [Option.some.injEq] at h; subst h
        exact ⟨g1, fun F w0 ρ w a he hsz hs hfr Q hQ => g2 F w0 ρ w a he hsz hs hfr _ hQ⟩
      · next e' s' =>
        simp only [Option.some.injEq] at h; subst h
        exact ⟨g1, fun F w0 ρ w a he hsz hs hfr Q hQ => g2 F w0 ρ w a he hsz hs hfr _ hQ⟩
    · cases h
theorem sound_loop {N : Nat} {f : FC} {c : Code} (hf : FcSound P N f c) : FcSound P N (cLoop f) (.loop c) := fun call hcall e s r h => by
  obtain ⟨g1, g2⟩ := sound_rounds hf hcall 100000 e s r h
  exact ⟨g1, fun F w0 ρ w a he hsz hs hfr Q hQ => wp_loop_rounds 100000 (g2 F w0 ρ w a he hsz hs hfr Q hQ)⟩

/-! ### A function -/
theorem evRes_nil (e : Tr AV) (s : St) : evRes e s [] = some [] := rfl
theorem args_get : ∀ (l : List AV) (i : Nat) (e : Tr AV) (j : Nat), (argsEnv l i e).get j = if i ≤ j ∧ j < i + l.length then l[j - i]? else e.get j
  | [], i, e, j => by
    simp only [List.length_nil, Nat.add_zero]
    rw [if_neg (by omega)]; rfl
  | v :: l, i, e, j => by
    have h1 : argsEnv (v :: l) i e = argsEnv l (i + 1) (e.put (some v) i) := rfl
    rw [h1, args_get l, Tr.get_put]
    simp only [List.length_cons]
    by_cases c1 : i + 1 ≤ j ∧ j < i + 1 + l.length
    · rw [if_pos c1, if_pos (by omega)]
      have : j - i = (j - (i + 1)) + 1 := by omega
      rw [this, List.getElem?_cons_succ]
    · rw [if_neg c1]
      by_cases c2 : j = i
      · subst c2
        rw [if_pos rfl, if_pos (by omega)]
        simp
      · rw [if_neg c2, if_neg (by omega)]
theorem args_rep {ρ : Rho} {l : List AV} {cvs : List Value} (h : RepL ρ l cvs) (xs : Array Value) : EnvRep ρ (argsEnv l 0 .leaf) ((⟨cvs⟩ : Array Value) ++ xs) := fun t v ht => by
  rw [args_get] at ht
  split at ht
  · next hlt =>
    obtain ⟨u, h1, h2⟩ := h.get ht
    refine ⟨u, ?_, h2⟩
    have hl := h.length
    simp only [Nat.sub_zero] at h1
    have h3 : (⟨cvs⟩ : Array Value)[t]? = some u := by simpa using h1
    rw [Array.getElem?_append_left (by simp; omega)]
    exact h3
  · cases ht

theorem getD_rep {ρ : Rho} {e : Tr AV} {tmps : Array Value} (he : EnvRep ρ e tmps) {t : Nat} {v : AV} (h : e.get t = some v) : Rep ρ v (tmps.getD t undef) := by
  obtain ⟨u, h1, h2⟩ := he t v h
  have : tmps.getD t undef = u := by
    rw [Array.getD_eq_getD_getElem?, h1]; rfl
  rw [this]; exact h2

/-- One result. -/
noncomputable def resOf (e : Tr AV) (s : St) (r : ARes) : Option AV := match r with
      | .tmp t => e.get t
      | .cell1 t => match e.get t with
        | some (.ptr o off) => s.load1 o off
        | _ => none
      | .cellN t n => match e.get t with
        | some (.ptr o off) => match s.load o off n with
          | some cs => some (.agg cs)
          | none => none
        | _ => none
theorem evRes_cons (e : Tr AV) (s : St) (r : ARes) (l : List ARes) : evRes e s (r :: l) = match resOf e s r with
    | some v => consO v (evRes e s l)
    | none => none := rfl

def resM (tmps : Array Value) : ResultVar → Sem Value
    | .tmp t => pure (tmps.getD t undef)
    | .cell a t => do loadVar t (← asAddr (tmps.getD a undef))

theorem res_run {F : Fr} {w0 : World} {ρ : Rho} {e : Tr AV} {s : St} {tmps : Array Value} {w : World} (he : EnvRep ρ e tmps) (hs : Sat F w0 ρ s.heap.get w) : ∀ {rs : List ResultVar} {as : List ARes} {vs : List AV}, trRes P rs = some as → evRes e s as = some vs →
    ∃ cvs, (rs.mapM (resM tmps)).run P w = .ok cvs w ∧ RepL ρ vs cvs
  | [], as, vs, h1, h2 => by
    simp only [trRes, Option.some.injEq] at h1
    subst h1
    rw [evRes_nil] at h2
    simp only [Option.some.injEq] at h2
    subst h2
    exact ⟨[], by simp, RepL.nil ρ⟩
  | r :: rs, as, vs, h1, h2 => by
    have key : ∀ (x : ARes) (l : List ARes), trRes P rs = some l → evRes e s (x :: l) = some vs → (∀ v, resOf e s x = some v → ∃ cv, (resM tmps r).run P w = .ok cv w ∧ Rep ρ v cv) → ∃ cvs, ((r :: rs).mapM (resM tmps)).run P w = .ok cvs w ∧ RepL ρ vs cvs := by
      intro x l hl hev hx
      rw [evRes_cons] at hev
      split at hev
      · next v hv =>
        obtain ⟨l', g1, rfl⟩ := consO_some hev
        obtain ⟨cvs, g2, g3⟩ := res_run he hs hl g1
        obtain ⟨cv, g4, g5⟩ := hx v hv
        exact ⟨cv :: cvs, by simp [g4, g2], RepL.cons g5 g3⟩
      · cases hev
    cases r with
    | tmp t =>
      simp only [trRes, Option.map_eq_some_iff] at h1
      obtain ⟨l, hl, rfl⟩ := h1
      refine key _ l hl h2 fun v hv => ⟨tmps.getD t undef, by simp [resM], getD_rep he hv⟩
    | cell a t =>
      simp only [trRes] at h1
      split at h1
      · next k l hagg hsz hl =>
        simp only [Option.some.injEq] at h1; subst h1
        refine key _ l hl h2 fun v hv => ?_
        simp only [resOf] at hv
        split at hv
        · next o off ho =>
          split at hv
          · next cs hcs =>
            simp only [Option.some.injEq] at hv; subst hv
            have hb := getD_rep he ho
            simp only [Rep] at hb
            obtain ⟨lc, hlc, hb⟩ := hb
            obtain ⟨cs', ro, h3, h4⟩ := load_some hcs
            obtain ⟨us, h5, _, h6, _⟩ := hs.cells (P := P) h3 hlc h4
            refine ⟨.agg ⟨us⟩, ?_, by simp only [Rep]; exact ⟨us, rfl, h5⟩⟩
            simp [resM, hb, asAddr, loadVar, agg_run hagg, size_run hsz, h6]
          · cases hv
        · cases hv
      · next l hagg hsz hl =>
        simp only [Option.some.injEq] at h1; subst h1
        refine key _ l hl h2 fun v hv => ?_
        simp only [resOf] at hv
        split at hv
        · next o off ho =>
          have hb := getD_rep he ho
          simp only [Rep] at hb
          obtain ⟨lc, hlc, hb⟩ := hb
          obtain ⟨cs', ro, h3, h4⟩ := load1_some hv
          obtain ⟨u, h5, h6⟩ := hs.cell h3 hlc h4
          refine ⟨u, ?_, h6⟩
          simp [resM, hb, asAddr, loadVar, agg_run hagg, h5]
        · cases hv
      · cases h1

theorem results_run {fn : Func} {F : Fr} {w0 : World} {ρ : Rho} {e : Tr AV} {s : St} {tmps : Array Value} {w : World} (he : EnvRep ρ e tmps) (hs : Sat F w0 ρ s.heap.get w) {as : List ARes} {vs : List AV} (h1 : trRes P fn.results.toList = some as) (h2 : evRes e s as = some vs) :
    ∃ cv, (results fn tmps).run P w = .ok cv w ∧ Rep ρ (pack vs) cv := by
  obtain ⟨cvs, g1, g2⟩ := res_run (P := P) he hs h1 h2
  have hm : (fn.results.mapM (resM tmps)).run P w = .ok ⟨cvs⟩ w := by
    rw [Array.mapM_eq_mapM_toList]
    simp [g1]
  refine ⟨if h : (⟨cvs⟩ : Array Value).size = 1 then (⟨cvs⟩ : Array Value)[0] else .tuple ⟨cvs⟩, ?_, ?_⟩
  · have h0 : results fn tmps = (fn.results.mapM (resM tmps) >>= fun vs => pure (if h : vs.size = 1 then vs[0] else .tuple vs)) := by
      unfold results
      congr 1
    rw [h0]
    simp [hm]
  · have hl := g2.length
    cases vs with
    | nil =>
      cases cvs with
      | nil => simp only [pack, Rep]; exact ⟨[], by simp, RepL.nil ρ⟩
      | cons _ _ => simp at hl
    | cons v vs =>
      cases cvs with
      | nil => simp at hl
      | cons c cvs =>
        cases vs with
        | nil =>
          cases cvs with
          | nil =>
            simp only [RepL] at g2
            obtain ⟨v', r', q1, q2, rfl⟩ := g2
            injection q1 with q1 _; subst q1
            simpa [pack] using q2
          | cons _ _ => simp at hl
        | cons v' vs =>
          cases cvs with
          | nil => simp at hl
          | cons c' cvs =>
            simp only [pack, Rep]
            exact ⟨_, by simp, g2⟩

/-- A function of the table that is borne: what it answers, the program's does. -/
def FnSound (P : Program) (f : FuncId) (F : FFn) : Prop :=
  ∀ call, CallOk P call → ∀ vs s v s', runF (some F) call vs s = some (v, s') → s.next ≤ s'.next ∧ Callable P f ∧
    ∀ (W : Fr) (w0 : World) (ρ : Rho) (w : World) (cvs : List Value), RepL ρ vs cvs → Sat W w0 ρ s.heap.get w → Fresh ρ s.next s'.next →
      Calls P f ⟨cvs⟩ w fun e w' => ∃ ρ' cv, e = .returned cv ∧ Ext ρ ρ' s.next s'.next ∧ Rep ρ' v cv ∧ Sat W w0 ρ' s'.heap.get w'

/-- What the regions that draw their order must meet. -/
def DrawSound (P : Program) : Prop := ∀ N id ops, drawOk P N ops = true → FcSound P N (cDraw (drawOps P N ops)) (.region id ops true)

theorem trCode_sound (hD : DrawSound P) (N : Nat) : ∀ c : Code, FcSound P N (trCode P N c) c
  | .skip => sound_skip
  | .region id ops false => by unfold trCode; exact sound_reg
  | .region id ops true => by
    unfold trCode
    split
    · next h => exact hD N id ops h
    · exact sound_bad
  | .seq a b => by unfold trCode; exact sound_seq (trCode_sound hD N a) (trCode_sound hD N b)
  | .cond x a b => by
    unfold trCode
    split
    · next y hy => exact sound_cond hy (trCode_sound hD N a) (trCode_sound hD N b)
    · exact sound_bad
  | .block id c => by unfold trCode; exact sound_block (trCode_sound hD N c)
  | .loop c => by unfold trCode; exact sound_loop (trCode_sound hD N c)
  | .exit id => by unfold trCode; exact sound_exit
  | .ret => by unfold trCode; exact sound_ret
  | .goto l => by unfold trCode; exact sound_bad
  | .label l => by unfold trCode; exact sound_bad
  | .rangeFunc .. => by unfold trCode; exact sound_bad
  | .scope _ => by unfold trCode; exact sound_bad
  | .refuse w => sound_bad

theorem fn_sound {f : FuncId} {G : Func} {F : FFn} {c : Code} (hG : P.funcs[f]? = some G) (hc : G.body = some c) (hrs : trRes P G.results.toList = some F.results) (hn : G.name ≠ "runtime.NumGoroutine") (hF : FcSound P G.ntmps F.body c) : FnSound P f F := by
  intro call hcall vs s v s' h
  have hcb : Callable P f := ⟨G, hG, by rw [hc]; rfl, hn⟩
  simp only [runF, finF] at h
  split at h
  · next r hr =>
    obtain ⟨g1, g2⟩ := hF call hcall _ s r hr
    have key : ∀ (e' : Tr AV) (s1 : St), r.next = s1.next → (match evRes e' s1 F.results with
        | some vs => some (pack vs, s1)
        | none => none) = some (v, s') →
        (∀ (W : Fr) (w0 : World) (ρ : Rho) (a : Act) (Q : Exit → Act → World → Prop), (∀ ρ' a' w', Ext ρ ρ' s.next s'.next → EnvRep ρ' e' a'.tmps → a'.tmps.size = a.tmps.size → a'.defers = a.defers → Sat W w0 ρ' s1.heap.get w' → Q .normal a' w' ∧ Q .ret a' w') → CRp W w0 ρ s.next a r Q) →
        s.next ≤ s'.next ∧ Callable P f ∧ ∀ (W : Fr) (w0 : World) (ρ : Rho) (w : World) (cvs : List Value), RepL ρ vs cvs → Sat W w0 ρ s.heap.get w → Fresh ρ s.next s'.next →
  Calls P f ⟨cvs⟩ w fun e w' => ∃ ρ' cv, e = .returned cv ∧ Ext ρ ρ' s.next s'.next ∧ Rep ρ' v cv ∧ Sat W w0 ρ' s'.heap.get w' := by
      intro e' s1 hnx hev hC
      split at hev
      · next us hus =>
        simp only [Option.some.injEq, Prod.mk.injEq] at hev
        obtain ⟨rfl, rfl⟩ := hev
        refine ⟨by omega, hcb, fun W w0 ρ w cvs hv hs hfr => ?_⟩
        refine calls_of_wp hG hc (g2 W w0 ρ w _ (args_rep hv _) ?_ hs (by rw [hnx]; exact hfr) _ (hC W w0 ρ _ _ fun ρ' a' w' q1 q2 q3 q4 q5 => ?_))
        · simp only [Array.size_append, Array.size_replicate]; omega
        · obtain ⟨cv, r1, r2⟩ := results_run (fn := G) (P := P) q2 q5 hrs hus
          exact ⟨⟨q4, cv, r1, ρ', cv, rfl, q1, r2, q5⟩, ⟨q4, cv, r1, ρ', cv, rfl, q1, r2, q5⟩⟩
      · cases hev
    split at h
    · next e' s1 =>
      refine key e' s1 rfl h fun W w0 ρ a Q hQ ρ' a' w' q1 q2 q3 q4 q5 => ?_
      refine (hQ ρ' a' w' ?_ q2 q3 q4 q5).1
      split at h
      · simp only [Option.some.injEq, Prod.mk.injEq] at h; obtain ⟨_, rfl⟩ := h; exact q1
      · cases h
    · next e' s1 =>
      refine key e' s1 rfl h fun W w0 ρ a Q hQ ρ' a' w' q1 q2 q3 q4 q5 => ?_
      refine (hQ ρ' a' w' ?_ q2 q3 q4 q5).2
      split at h
      · simp only [Option.some.injEq, Prod.mk.injEq] at h; obtain ⟨_, rfl⟩ := h; exact q1
      · cases h
    · cases h
  · cases h

theorem trFn_sound (hD : DrawSound P) {f : FuncId} {G : Func} {F : FFn} (hG : P.funcs[f]? = some G) (hF : trFn P G = some F) : FnSound P f F := by
  unfold trFn at hF
  split at hF
  · next c rs hc hrs =>
    split at hF
    · cases hF
    · next hn =>
      simp only [Option.some.injEq] at hF
      subst hF
      exact fn_sound hG hc hrs hn (trCode_sound hD G.ntmps c)
  · cases hF

/-- A table that is borne. -/
def TabOk (P : Program) (tab : Tr FFn) : Prop := ∀ f F, tab.get f = some F → FnSound P f F
theorem evF_zero (tab : Tr FFn) (f : Nat) (vs : List AV) (s : St) : evF tab 0 f vs s = none := rfl
theorem evF_succ (tab : Tr FFn) (n f : Nat) (vs : List AV) (s : St) : evF tab (n + 1) f vs s = runF (tab.get f) (evF tab n) vs s := rfl
theorem evF_ok {tab : Tr FFn} (h : TabOk P tab) : ∀ n, CallOk P (evF tab n)
  | 0, f, vs, s, v, s', hv => by rw [evF_zero] at hv; cases hv
  | n + 1, f, vs, s, v, s', hv => by
    rw [evF_succ] at hv
    cases hF : tab.get f with
    | none => rw [hF] at hv; cases hv
    | some F => rw [hF] at hv; exact h f F hF _ (evF_ok h n) vs s v s' hv
end
end Go.Am
namespace Go.Am
set_option linter.unusedVariables false
set_option linter.unusedSimpArgs false

section
variable {F : Fr} {w0 w : World} {ρ : Rho} {h : Heap}

/-- The frame of a part of a heap: the rest's blocks are kept; those that may be written are private. -/
def Fr.rest (F : Fr) (ρ : Rho) (h g : Heap) : Fr where
  k b := F.k b ∨ ∃ o x l, h o = some x ∧ g o = none ∧ ρ o = some l ∧ l.b = b
  p b := F.p b ∨ ∃ o x l, h o = some x ∧ g o = none ∧ x.ro = false ∧ ρ o = some l ∧ l.b = b

theorem Sat.part (s : Sat F w0 ρ h w) {g : Heap} (hg : ∀ o x, g o = some x → h o = some x) : Sat (F.rest ρ h g) w ρ g w where
  objs o x hx := s.objs o x (hg o x hx)
  inj o o' x x' l l' a b := s.inj o o' x x' l l' (hg _ _ a) (hg _ _ b)
  low := s.low
  keep b hb := ⟨by
    rcases hb with hb | ⟨o, x, l, h1, h2, h3, rfl⟩
    · exact (s.keep b hb).1
    · exact s.low o l h3, rfl⟩
  off o x l h1 h2 h3 hb := by
    rcases hb with hb | ⟨o', x', l', g1, g2, g3, g4⟩
    · exact s.off o x l (hg _ _ h1) h2 h3 hb
    · have hne : o ≠ o' := by rintro rfl; rw [h1] at g2; cases g2
      have := (s.inj o o' x x' l l' (hg _ _ h1) g1 hne h3 g3 g4.symm).1
      rw [h2] at this; cases this
  plow b hb := by
    rcases hb with hb | ⟨o, x, l, h1, h2, h3, h4, rfl⟩
    · exact s.plow b hb
    · exact s.low o l h4
  priv o x l h1 h3 hb := by
    rcases hb with hb | ⟨o', x', l', g1, g2, g5, g3, g4⟩
    · exact s.priv o x l (hg _ _ h1) h3 hb
    · have hne : o ≠ o' := by rintro rfl; rw [h1] at g2; cases g2
      have := (s.inj o o' x x' l l' (hg _ _ h1) g1 hne h3 g3 g4.symm).2
      rw [g5] at this; cases this
  os := rfl
  tape := rfl
  output := rfl
  size := Nat.le_refl _

theorem Sat.join (s : Sat F w0 ρ h w) {g g' k : Heap} (hg : ∀ o x, g o = some x → h o = some x) {ρ' : Rho} {w' : World} (hs : Sub ρ ρ') (s' : Sat (F.rest ρ h g) w ρ' g' w')
    (hk : ∀ o x, k o = some x → g' o = some x ∨ (h o = some x ∧ g o = none)) : Sat F w0 ρ' k w' where
  objs o x hx := by
    rcases hk o x hx with h1 | ⟨h1, h2⟩
    · exact s'.objs o x h1
    · obtain ⟨l, h3, h4⟩ := s.objs o x h1
      refine ⟨l, hs _ _ h3, ?_⟩
      rw [(s'.keep l.b (.inr ⟨o, x, l, h1, h2, h3, rfl⟩)).2]
      exact h4.mono hs
  inj o o' x x' l l' a b hne hl hl' hb := by
    have old : ∀ {o x l}, h o = some x → ρ' o = some l → ρ o = some l := fun {o x l} h1 h2 => by
      obtain ⟨l0, h3, _⟩ := s.objs o x h1
      have := hs _ _ h3
      rw [h2] at this; injection this with this; rw [this]; exact h3
    have mix : ∀ {o o' x x' l l'}, g' o = some x → h o' = some x' → g o' = none → ρ' o = some l → ρ' o' = some l' → l.b = l'.b → x.ro = true ∧ x'.ro = true := by
      intro o o' x x' l l' a1 b1 b2 hl hl' hb
      have hl0 := old b1 hl'
      constructor
      · cases hr : x.ro with
        | true => rfl
        | false => exact absurd (.inr ⟨o', x', l', b1, b2, hl0, hb.symm⟩) (s'.off o x l a1 hr hl)
      · cases hr : x'.ro with
        | true => rfl
        | false => exact absurd (.inr ⟨o', x', l', b1, b2, hr, hl0, hb.symm⟩) (s'.priv o x l a1 hl)
    rcases hk o x a with a1 | ⟨a1, a2⟩ <;> rcases hk o' x' b with b1 | ⟨b1, b2⟩
    · exact s'.inj o o' x x' l l' a1 b1 hne hl hl' hb
    · exact mix a1 b1 b2 hl hl' hb
    · exact (mix b1 a1 a2 hl' hl hb.symm).symm
    · exact s.inj o o' x x' l l' a1 b1 hne (old a1 hl) (old b1 hl') hb
  low := s'.low
  keep b hb := by
    obtain ⟨h1, h2⟩ := s'.keep b (.inl hb)
    exact ⟨h1, h2.trans (s.keep b hb).2⟩
  off o x l a hr hl hb := by
    rcases hk o x a with a1 | ⟨a1, a2⟩
    · exact s'.off o x l a1 hr hl (.inl hb)
    · obtain ⟨l0, h3, _⟩ := s.objs o x a1
      have := hs _ _ h3
      rw [hl] at this; injection this with this; subst this
      exact s.off o x l a1 hr h3 hb
  plow b hb := s'.plow b (.inl hb)
  priv o x l a hl hb := by
    rcases hk o x a with a1 | ⟨a1, a2⟩
    · exact s'.priv o x l a1 hl (.inl hb)
    · obtain ⟨l0, h3, _⟩ := s.objs o x a1
      have := hs _ _ h3
      rw [hl] at this; injection this with this; subst this
      exact s.priv o x l a1 h3 hb
  os := s'.os.trans s.os
  tape := s'.tape.trans s.tape
  output := s'.output.trans s.output
  size := Nat.le_trans s.size s'.size

/-- The frame of a load: all blocks are kept. -/
def Fr.all (w : World) : Fr where
  k b := b < w.heap.size
  p _ := False

/-- An object that is no more to be written. -/
theorem Sat.froze (s : Sat F w0 ρ h w) {o : Nat} {cs : List AV} {ro : Bool} (ho : h o = some (.cells cs ro)) : Sat (Fr.all w) w ρ (upd (fun _ => none) o (some (.cells cs true))) w where
  objs p x hx := by
    by_cases e : p = o
    · subst e
      rw [upd_same] at hx; injection hx with hx; subst hx
      obtain ⟨l, h1, h2⟩ := s.objs p _ ho
      refine ⟨l, h1, ?_⟩
      cases ro with
      | true => exact h2
      | false =>
        obtain ⟨hb, c, t, fr, g1, g2, g3, g4, _⟩ := h2
        exact ⟨c, t, fr, g1, fun i a ha => by rw [hb, Nat.zero_add]; exact g4 i a ha⟩
    · rw [upd_ne _ _ e] at hx; cases hx
  inj p p' x x' l l' a b hne := by
    by_cases e : p = o
    · by_cases e' : p' = o
      · exact absurd (e.trans e'.symm) hne
      · rw [upd_ne _ _ e'] at b; cases b
    · rw [upd_ne _ _ e] at a; cases a
  low := s.low
  keep b hb := ⟨hb, rfl⟩
  off p x l a hr := by
    by_cases e : p = o
    · subst e
      rw [upd_same] at a; injection a with a; subst a
      cases hr
    · rw [upd_ne _ _ e] at a; cases a
  plow b hb := hb.elim
  priv o x l a hl hb := hb
  os := rfl
  tape := rfl
  output := rfl
  size := Nat.le_refl _

theorem Sat.emptied (s : Sat F w0 ρ h w) : Sat (Fr.all w) w ρ (fun _ => none) w where
  objs p x hx := by cases hx
  inj p p' x x' l l' a := by cases a
  low := s.low
  keep b hb := ⟨hb, rfl⟩
  off p x l a := by cases a
  plow b hb := hb.elim
  priv o x l a hl hb := hb
  os := rfl
  tape := rfl
  output := rfl
  size := Nat.le_refl _

/-- After a load all is as it was. -/
theorem Sat.back (s : Sat F w0 ρ h w) {g : Heap} {ρ' : Rho} {w' : World} (hs : Sub ρ ρ') (s' : Sat (Fr.all w) w ρ' g w') : Sat F w0 ρ' h w' where
  objs o x hx := by
    obtain ⟨l, h1, h2⟩ := s.objs o x hx
    refine ⟨l, hs _ _ h1, ?_⟩
    rw [(s'.keep l.b (s.low o l h1)).2]
    exact h2.mono hs
  inj o o' x x' l l' a b hne hl hl' hb := by
    have old : ∀ {o x l}, h o = some x → ρ' o = some l → ρ o = some l := fun {o x l} h1 h2 => by
      obtain ⟨l0, h3, _⟩ := s.objs o x h1
      have := hs _ _ h3
      rw [h2] at this; injection this with this; rw [this]; exact h3
    exact s.inj o o' x x' l l' a b hne (old a hl) (old b hl') hb
  low := s'.low
  keep b hb := by
    obtain ⟨h1, h2⟩ := s.keep b hb
    obtain ⟨h3, h4⟩ := s'.keep b h1
    exact ⟨h3, h4.trans h2⟩
  off o x l a hr hl hb := by
    obtain ⟨l0, h3, _⟩ := s.objs o x a
    have := hs _ _ h3
    rw [hl] at this; injection this with this; subst this
    exact s.off o x l a hr h3 hb
  plow b hb := Nat.lt_of_lt_of_le (s.plow b hb) s'.size
  priv o x l a hl hb := by
    obtain ⟨l0, h3, _⟩ := s.objs o x a
    have := hs _ _ h3
    rw [hl] at this; injection this with this; subst this
    exact s.priv o x l a h3 hb
  os := s'.os.trans s.os
  tape := s'.tape.trans s.tape
  output := s'.output.trans s.output
  size := Nat.le_trans s.size s'.size
end
end Go.Am
namespace Go.Am
set_option linter.unusedVariables false
set_option linter.unusedSimpArgs false

section
variable {P : Program} {ops : Array Oper}

/-! ### One operation, guarded -/
def GSound (P : Program) (ops : Array Oper) (i : Nat) (dst : Option Nat) (f : FOp) : Prop :=
  ∀ call, CallOk P call → ∀ e s v s', f call e s = some (v, s') → s.next ≤ s'.next ∧
    ∀ (F : Fr) (w0 : World) (ρ : Rho) (w : World) (a : Act), EnvRep ρ e a.tmps → Sat F w0 ρ s.heap.get w → Fresh ρ s.next s'.next →
    ∀ (K : Act → World → Prop) (Q : Exit → Act → World → Prop), (∀ ρ' cv w', Ext ρ ρ' s.next s'.next → Rep ρ' v cv → Sat F w0 ρ' s'.heap.get w' → K (a.put dst cv) w') → wpOp P ops Q i K a w

theorem gsound_bad (i : Nat) (dst : Option Nat) : GSound P ops i dst fBad := fun call _ e s v s' h => by simp [fBad] at h

theorem gsound_of {i : Nat} {x : Oper} (hi : ops[i]? = some x) {f : FOp} (hf : OpSound P f x.op) (hg : x.guard = none) : GSound P ops i x.dst f := by
  intro call hcall e s v s' h
  obtain ⟨g1, g2⟩ := hf call hcall e s v s' h
  refine ⟨g1, fun F w0 ρ w a he hs hfr K Q hK => ?_⟩
  unfold wpOp
  have hw : Region.wanted x (yielded ops a.tmps) = true := by simp [Region.wanted, hg]
  simp only [hi, hw, if_true]
  exact .inl (g2 F w0 ρ w a he hs hfr x K Q rfl hK)
theorem gsound_guard {i : Nat} {x : Oper} (hi : ops[i]? = some x) {f : FOp} (hf : OpSound P f x.op) {j t : Nat} {w : Bool} (hg : x.guard = some (j, w)) (ht : guardTmp ops j = some t) : GSound P ops i x.dst (gF f t w) := by
  intro call hcall e s v s' h
  unfold gF at h
  split at h
  · next hw =>
    obtain ⟨g1, g2⟩ := hf call hcall e s v s' h
    refine ⟨g1, fun F w0 ρ w a he hs hfr K Q hK => ?_⟩
    unfold wpOp
    simp only [hi, wanted_run he ht hw hg, if_true]
    exact .inl (g2 F w0 ρ w a he hs hfr x K Q rfl hK)
  · next hw =>
    simp only [Option.some.injEq, Prod.mk.injEq] at h
    obtain ⟨rfl, rfl⟩ := h
    refine ⟨Nat.le_refl _, fun F w0 ρ w a he hs hfr K Q hK => ?_⟩
    unfold wpOp
    simp only [hi, wanted_run he ht hw hg]
    exact hK ρ _ w (Ext.refl _ _ _) (undef_rep ρ) hs
  · cases h
theorem trG_sound {i : Nat} {x : Oper} (hi : ops[i]? = some x) : GSound P ops i x.dst (trG P ops x) := by
  unfold trG
  split
  · next hg => exact gsound_of hi (opOr_sound x.op) hg
  · next j w hg =>
    split
    · next t ht => exact gsound_guard hi (opOr_sound x.op) hg ht
    · exact gsound_bad _ _

theorem wpOp_exists {i : Nat} {K : Act → World → Prop} {a : Act} {w : World} (h : wpOp P ops (fun _ _ _ => False) i K a w) : ∃ a' w', K a' w' := by
  unfold wpOp at h
  split at h
  · exact ⟨_, _, h⟩
  · next o ho =>
    split at h
    · rcases h with h | ⟨_, _, _, h⟩
      · unfold Oper.wp at h
        generalize (execOp a.eval o).run P w = r at h
        cases r with
        | ok n w' =>
          cases n with
          | value v => exact ⟨_, _, h⟩
          | skip => exact ⟨_, _, h⟩
          | defer d => exact ⟨_, _, h⟩
          | enter f args =>
            obtain ⟨e, w', fr, hR, _⟩ := h []
            cases e with
            | returned v => exact ⟨_, _, hR⟩
            | panicked c => exact hR.elim
            | outgrown => obtain ⟨_, _, hR⟩ := hR; exact hR.elim
          | row row args =>
            obtain ⟨v, w', hR, _⟩ := h default []
            exact ⟨_, _, hR⟩
          | _ => exact h.elim
        | halt x w' => cases x <;> exact h.elim
      · exact h.elim
    · exact ⟨_, _, h⟩

/-! ### Steps -/
inductive RK where
  | pure
  | rd (o off : Nat) (vs : List AV)
  | alloc (x : AObj)
  | wr (s s' : Heap)
structure SD where
  i : Nat
  dst : Option Nat
  e : Tr AV
  n : Nat
  m : Nat
  v : AV
  k : RK
def hasAt (h : Heap) (o off : Nat) (vs : List AV) : Prop := ∃ cs ro, h o = some (.cells cs ro) ∧ rdN cs off vs.length = some vs
def RK.pre (k : RK) (h : Heap) : Prop := match k with
  | .pure => True
  | .rd o off vs => hasAt h o off vs
  | .alloc _ => True
  | .wr s _ => ∀ o y, s o = some y → h o = some y
def SD.pre (x : SD) (env : Nat → Option AV) (h : Heap) : Prop := (∀ t v, x.e.get t = some v → env t = some v) ∧ x.k.pre h
def SD.env (x : SD) (env : Nat → Option AV) : Nat → Option AV := match x.dst with
  | some d => upd env d (some x.v)
  | none => env
def SD.heap (x : SD) (h : Heap) : Heap := match x.k with
  | .pure => h
  | .rd _ _ _ => h
  | .alloc y => upd h x.n (some y)
  | .wr s s' => fun o => match s o with
    | some _ => s' o
    | none => match s' o with
      | some y => some y
      | none => h o
def EnvRepF (ρ : Rho) (env : Nat → Option AV) (tmps : Array Value) : Prop := ∀ (t : Nat) v, env t = some v → ∃ u, tmps[t]? = some u ∧ Rep ρ v u
theorem EnvRepF.mono {ρ ρ' : Rho} {env : Nat → Option AV} {tmps : Array Value} (h : EnvRepF ρ env tmps) (hs : Sub ρ ρ') : EnvRepF ρ' env tmps := fun t a ht => let ⟨u, h1, h2⟩ := h t a ht; ⟨u, h1, h2.mono hs⟩

def SDSound (P : Program) (ops : Array Oper) (N : Nat) (x : SD) : Prop :=
  x.n ≤ x.m ∧ ∀ (F : Fr) (w0 : World) (ρ : Rho) (w : World) (a : Act) (env : Nat → Option AV) (h : Heap), EnvRepF ρ env a.tmps → N ≤ a.tmps.size → x.pre env h → Sat F w0 ρ h w → Fresh ρ x.n x.m →
    ∀ (K : Act → World → Prop) (Q : Exit → Act → World → Prop), (∀ ρ' a' w', Ext ρ ρ' x.n x.m → EnvRepF ρ' (x.env env) a'.tmps → a'.tmps.size = a.tmps.size → a'.defers = a.defers → Sat F w0 ρ' (x.heap h) w' → K a' w') → wpOp P ops Q x.i K a w

theorem SD.put {x : SD} {N : Nat} (hN : ∀ d, x.dst = some d → d < N) {ρ ρ' : Rho} {a : Act} {env : Nat → Option AV} (he : EnvRepF ρ env a.tmps) (hsz : N ≤ a.tmps.size) (hs : Sub ρ ρ') {cv : Value} (hv : Rep ρ' x.v cv) :
    EnvRepF ρ' (x.env env) (a.put x.dst cv).tmps ∧ (a.put x.dst cv).tmps.size = a.tmps.size ∧ (a.put x.dst cv).defers = a.defers := by
  unfold SD.env
  cases hd : x.dst with
  | none => exact ⟨he.mono hs, rfl, rfl⟩
  | some d =>
    refine ⟨fun t v ht => ?_, by simp [Act.put], rfl⟩
    have hlt : d < a.tmps.size := Nat.lt_of_lt_of_le (hN d hd) hsz
    by_cases e1 : t = d
    · subst e1
      simp only [upd_same] at ht
      injection ht with ht; subst ht
      exact ⟨cv, by simp only [Act.put]; rw [Array.getElem?_setIfInBounds_self_of_lt hlt], hv⟩
    · simp only [upd_ne _ _ e1] at ht
      obtain ⟨u, h1, h2⟩ := he t v ht
      exact ⟨u, by simp only [Act.put]; rw [Array.getElem?_setIfInBounds_ne (fun q => e1 q.symm)]; exact h1, h2.mono hs⟩

theorem sd_pure {N i n : Nat} {dst : Option Nat} {f : FOp} (hf : GSound P ops i dst f) (hN : ∀ d, dst = some d → d < N) {call : Call} (hcall : CallOk P call) {e : Tr AV} {v : AV} {h' : Tr AObj}
    (hr : f call e ⟨.leaf, n⟩ = some (v, ⟨h', n⟩)) : SDSound P ops N ⟨i, dst, e, n, n, v, .pure⟩ := by
  obtain ⟨g1, g2⟩ := hf call hcall e _ v _ hr
  refine ⟨Nat.le_refl _, fun F w0 ρ w a env h he hsz hp hs hfr K Q hK => ?_⟩
  refine g2 (Fr.all w) w ρ w a (fun t v ht => he t v (hp.1 t v ht)) hs.emptied hfr K Q fun ρ' cv w' q1 q2 q3 => ?_
  obtain ⟨r1, r2, r3⟩ := SD.put (x := ⟨i, dst, e, n, n, v, .pure⟩) hN he hsz q1.sub q2
  exact hK ρ' _ w' q1 r1 r2 r3 (hs.back q1.sub q3)

theorem sd_rd {N i n o off : Nat} {dst : Option Nat} {f : FOp} (hf : GSound P ops i dst f) (hN : ∀ d, dst = some d → d < N) {call : Call} (hcall : CallOk P call) {e : Tr AV} {v : AV} {vs : List AV}
    (hr : ∀ s : St, s.load o off vs.length = some vs → f call e s = some (v, s)) : SDSound P ops N ⟨i, dst, e, n, n, v, .rd o off vs⟩ := by
  refine ⟨Nat.le_refl _, fun F w0 ρ w a env h he hsz hp hs hfr K Q hK => ?_⟩
  obtain ⟨hp1, cs, ro, hp2, hp3⟩ := hp
  have hg : (Tr.put (some (AObj.cells cs true)) .leaf o).get = upd (fun _ => none) o (some (.cells cs true)) := by
    rw [Tr.put_get]; rfl
  have hl : (⟨Tr.put (some (AObj.cells cs true)) .leaf o, n⟩ : St).load o off vs.length = some vs := by
    unfold St.load
    simp only [hg, upd_same]
    exact hp3
  obtain ⟨g1, g2⟩ := hf call hcall e _ v _ (hr ⟨Tr.put (some (AObj.cells cs true)) .leaf o, n⟩ hl)
  refine g2 (Fr.all w) w ρ w a (fun t v ht => he t v (hp1 t v ht)) (by rw [hg]; exact hs.froze hp2) hfr K Q fun ρ' cv w' q1 q2 q3 => ?_
  obtain ⟨r1, r2, r3⟩ := SD.put (x := ⟨i, dst, e, n, n, v, .rd o off vs⟩) hN he hsz q1.sub q2
  exact hK ρ' _ w' q1 r1 r2 r3 (hs.back q1.sub q3)

theorem sd_alloc {N i n : Nat} {dst : Option Nat} {f : FOp} (hf : GSound P ops i dst f) (hN : ∀ d, dst = some d → d < N) {call : Call} (hcall : CallOk P call) {e : Tr AV} {v : AV} {h' : Tr AObj} {x : AObj}
    (hr : f call e ⟨.leaf, n⟩ = some (v, ⟨h', n + 1⟩)) (hx : h'.get n = some x) : SDSound P ops N ⟨i, dst, e, n, n + 1, v, .alloc x⟩ := by
  obtain ⟨g1, g2⟩ := hf call hcall e _ v _ hr
  refine ⟨Nat.le_succ _, fun F w0 ρ w a env h he hsz hp hs hfr K Q hK => ?_⟩
  have hpart := hs.part (g := fun _ => none) (fun o x h => by cases h)
  refine g2 _ w ρ w a (fun t v ht => he t v (hp.1 t v ht)) hpart hfr K Q fun ρ' cv w' q1 q2 q3 => ?_
  obtain ⟨r1, r2, r3⟩ := SD.put (x := ⟨i, dst, e, n, n + 1, v, .alloc x⟩) hN he hsz q1.sub q2
  refine hK ρ' _ w' q1 r1 r2 r3 (hs.join (g := fun _ => none) (fun o x h => by cases h) q1.sub q3 fun o y hy => ?_)
  simp only [SD.heap] at hy
  by_cases e1 : o = n
  · subst e1; rw [upd_same] at hy; exact .inl (hx.trans hy)
  · rw [upd_ne _ _ e1] at hy; exact .inr ⟨hy, rfl⟩

theorem sd_wr {N i : Nat} {dst : Option Nat} {f : FOp} (hf : GSound P ops i dst f) (hN : ∀ d, dst = some d → d < N) {call : Call} (hcall : CallOk P call) {e : Tr AV} {v : AV} {s s' : St}
    (hr : f call e s = some (v, s')) : SDSound P ops N ⟨i, dst, e, s.next, s'.next, v, .wr s.heap.get s'.heap.get⟩ := by
  obtain ⟨g1, g2⟩ := hf call hcall e _ v _ hr
  refine ⟨g1, fun F w0 ρ w a env h he hsz hp hs hfr K Q hK => ?_⟩
  have hpart := hs.part (g := s.heap.get) hp.2
  refine g2 _ w ρ w a (fun t v ht => he t v (hp.1 t v ht)) hpart hfr K Q fun ρ' cv w' q1 q2 q3 => ?_
  obtain ⟨r1, r2, r3⟩ := SD.put (x := ⟨i, dst, e, s.next, s'.next, v, .wr s.heap.get s'.heap.get⟩) hN he hsz q1.sub q2
  refine hK ρ' _ w' q1 r1 r2 r3 (hs.join (g := s.heap.get) hp.2 q1.sub q3 fun o y hy => ?_)
  simp only [SD.heap] at hy
  split at hy
  · exact .inl hy
  · next hn =>
    split at hy
    · next z hz => exact .inl (hz.trans hy)
    · exact .inr ⟨hy, hn⟩

/-! ### A list of steps; two that change places -/
def Runs (envF : Nat → Option AV) (hF : Heap) : List SD → (Nat → Option AV) → Heap → Prop
  | [], env, h => env = envF ∧ h = hF
  | x :: l, env, h => x.pre env h ∧ Runs envF hF l (x.env env) (x.heap h)

def commK (y x : SD) : Prop := match y.k, x.k with
  | .rd o _ _, .alloc _ => o ≠ x.n
  | .rd o off vs, .wr _ s' => hasAt s' o off vs
  | .alloc _, .alloc _ => y.n ≠ x.n
  | .wr s s', .alloc _ => s x.n = none ∧ s' x.n = none
  | .wr s s', .rd o _ _ => s o = none ∧ s' o = none
  | .wr _ _, .wr _ _ => False
  | .alloc _, .rd o _ _ => o ≠ y.n
  | .alloc _, .wr _ _ => False
  | _, _ => True
/-- The second may go ahead of the first. -/
structure Comm (y x : SD) : Prop where
  d1 : ∀ d, y.dst = some d → x.e.get d = none ∧ x.dst ≠ some d
  d2 : ∀ d, x.dst = some d → y.e.get d = none
  k : commK y x

theorem pre_back {y x : SD} (c : Comm y x) {env : Nat → Option AV} {h : Heap} (hp : x.pre (y.env env) (y.heap h)) : x.pre env h := by
  refine ⟨fun t v ht => ?_, ?_⟩
  · have := hp.1 t v ht
    unfold SD.env at this
    cases hd : y.dst with
    | some d =>
      rw [hd] at this
      by_cases e : t = d
      · subst e; rw [(c.d1 _ hd).1] at ht; cases ht
      · exact (upd_ne _ _ e).symm.trans this
    | none => rw [hd] at this; exact this
  · have h1 := hp.2
    have h2 := c.k
    unfold SD.heap at h1
    unfold commK at h2
    cases hy : y.k <;> cases hx : x.k <;> simp only [hy, hx] at h1 h2 <;> first | exact h1 | exact h2.elim | trivial | skip
    · obtain ⟨cs, ro, g1, g2⟩ := h1
      exact ⟨cs, ro, (upd_ne _ _ h2).symm.trans g1, g2⟩
    · obtain ⟨cs, ro, g1, g2⟩ := h1
      simp only [h2.1, h2.2] at g1
      exact ⟨cs, ro, g1, g2⟩

theorem pre_fore {y x : SD} (c : Comm y x) {env : Nat → Option AV} {h : Heap} (hp : y.pre env h) : y.pre (x.env env) (x.heap h) := by
  refine ⟨fun t v ht => ?_, ?_⟩
  · have := hp.1 t v ht
    unfold SD.env
    cases hd : x.dst with
    | some d =>
      by_cases e : t = d
      · subst e; rw [c.d2 _ hd] at ht; cases ht
      · exact (upd_ne _ _ e).trans this
    | none => exact this
  · have h1 := hp.2
    have h2 := c.k
    unfold SD.heap
    unfold commK at h2
    cases hy : y.k with
    | pure => trivial
    | alloc z => trivial
    | rd o off vs =>
      rw [hy] at h1 h2
      cases hx : x.k with
      | pure => exact h1
      | rd _ _ _ => exact h1
      | alloc z =>
        rw [hx] at h2
        obtain ⟨cs, ro, g1, g2⟩ := h1
        exact ⟨cs, ro, (upd_ne _ _ h2).trans g1, g2⟩
      | wr s s' =>
        rw [hx] at h2
        obtain ⟨cs, ro, g1, g2⟩ := h2
        refine ⟨cs, ro, ?_, g2⟩
        show (match s o with
          | some _ => s' o
          | none => match s' o with
            | some y => some y
            | none => h o) = _
        cases s o <;> simp only [g1]
    | wr s s' =>
      rw [hy] at h1 h2
      cases hx : x.k with
      | pure => exact h1
      | rd _ _ _ => exact h1
      | alloc z =>
        rw [hx] at h2
        intro o u ho
        have hne : o ≠ x.n := by rintro rfl; rw [h2.1] at ho; cases ho
        show upd h x.n (some z) o = _
        rw [upd_ne _ _ hne]; exact h1 o u ho
      | wr _ _ => rw [hx] at h2; exact h2.elim

theorem upd_comm {α : Type} (f : Nat → Option α) {n m : Nat} (x y : Option α) (hne : n ≠ m) : upd (upd f n x) m y = upd (upd f m y) n x := by
  funext k
  by_cases e : k = n
  · subst e; rw [upd_same, upd_ne _ _ hne, upd_same]
  · rw [upd_ne _ _ e]
    by_cases e' : k = m
    · subst e'; rw [upd_same, upd_same]
    · rw [upd_ne _ _ e', upd_ne _ _ e', upd_ne _ _ e]

theorem env_comm {y x : SD} (c : Comm y x) (env : Nat → Option AV) : x.env (y.env env) = y.env (x.env env) := by
  unfold SD.env
  cases hy : y.dst with
  | none => rfl
  | some d =>
    cases hx : x.dst with
    | none => rfl
    | some d' =>
      have := (c.d1 d hy).2
      rw [hx] at this
      exact upd_comm env _ _ (fun q => this (by rw [q]))

theorem heap_comm {y x : SD} (c : Comm y x) (h : Heap) : x.heap (y.heap h) = y.heap (x.heap h) := by
  have h2 := c.k
  unfold commK at h2
  unfold SD.heap
  cases hy : y.k <;> cases hx : x.k <;> simp only [hy, hx] at h2 ⊢ <;> first | exact h2.elim | rfl | skip
  · exact upd_comm h _ _ h2
  · next s s' z =>
    funext o
    by_cases e : o = x.n
    · subst e
      rw [upd_same]
      simp only [h2.1, h2.2, upd_same]
    · rw [upd_ne _ _ e]
      cases s o with
      | some _ => rfl
      | none => cases s' o with
        | some _ => rfl
        | none => exact (upd_ne _ _ e).symm

variable {envF : Nat → Option AV} {hF : Heap}

theorem runs_swap {y x : SD} (c : Comm y x) {l : List SD} {env : Nat → Option AV} {h : Heap} (hr : Runs envF hF (y :: x :: l) env h) : Runs envF hF (x :: y :: l) env h := by
  obtain ⟨h1, h2, h3⟩ := hr
  refine ⟨pre_back c h2, pre_fore c h1, ?_⟩
  rw [env_comm c, heap_comm c] at h3
  exact h3

theorem runs_bubble {x : SD} {v : List SD} : ∀ (u : List SD) {env : Nat → Option AV} {h : Heap}, (∀ y ∈ u, Comm y x) → Runs envF hF (u ++ x :: v) env h → Runs envF hF (x :: (u ++ v)) env h
  | [], env, h, _, hr => hr
  | y :: u, env, h, hc, hr => by
    obtain ⟨h1, h2⟩ := hr
    have := runs_bubble u (fun z hz => hc z (List.mem_cons_of_mem _ hz)) h2
    exact runs_swap (hc y (List.mem_cons_self ..)) ⟨h1, this⟩
end
end Go.Am
namespace Go.Am
set_option linter.unusedVariables false
set_option linter.unusedSimpArgs false

section
variable {P : Program} {ops : Array Oper}

/-! ### What is ready -/
theorem topo_ready {md : Region.Mode} {listed : Array Bool} (hsz : listed.size = ops.size) : ∀ (l done : List Nat), topoGo md ops l done = true → (∀ j ∈ done, listed.getD j false = true) → (∃ i ∈ l, listed.getD i true = false) → Region.ready md ops listed ≠ []
  | [], _, _, _, ⟨_, h, _⟩ => by cases h
  | i :: l, done, ht, hd, hex => by
    simp only [topoGo, Bool.and_eq_true] at ht
    obtain ⟨h1, h2⟩ := ht
    cases hi : listed.getD i true with
    | false =>
      have : i ∈ Region.ready md ops listed := by
        rw [mem_ready]
        refine ⟨hi, ?_⟩
        split at h1
        · next o ho =>
          refine ⟨o, by rw [← Array.getElem?_toList]; exact ho, fun e he hb => ?_⟩
          rw [List.all_eq_true] at h1
          have := h1 e (by simpa using he)
          simp only [hb, Bool.not_true, Bool.false_or, List.contains_iff_mem] at this
          exact hd _ this
        · cases h1
      intro h0
      rw [h0] at this; cases this
    | true =>
      refine topo_ready hsz l (i :: done) h2 (fun j hj => ?_) ?_
      · rcases List.mem_cons.1 hj with rfl | hj
        · have hlt : j < ops.toList.length := by
            split at h1
            · next o ho => exact (List.getElem?_eq_some_iff.1 ho).1
            · cases h1
          have hlt' : j < listed.size := by rw [hsz]; simpa using hlt
          simp only [Array.getD_eq_getD_getElem?, Array.getElem?_eq_getElem hlt', Option.getD_some] at hi ⊢
          exact hi
        · exact hd j hj
      · obtain ⟨k, hk, hk2⟩ := hex
        rcases List.mem_cons.1 hk with rfl | hk
        · rw [hi] at hk2; cases hk2
        · exact ⟨k, hk, hk2⟩

theorem mode_ready {md : Region.Mode} {l : List Nat} (hm : modeOk md ops l = true) {listed : Array Bool} (hsz : listed.size = ops.size) (h : Region.ready md ops listed = []) : ∀ i, i < ops.size → listed.getD i true = true := by
  intro i hi
  simp only [modeOk, Bool.and_eq_true, allIn, List.all_eq_true, List.mem_range, List.contains_iff_mem] at hm
  cases hl : listed.getD i true with
  | true => rfl
  | false => exact absurd h (topo_ready hsz l [] hm.2 (fun j hj => by cases hj) ⟨i, hm.1 i (by simpa using hi), hl⟩)

theorem binds_of_any {md : Region.Mode} {e : Edge} (h : bindsAny e = true) : Region.binds md e = true := by
  unfold bindsAny at h
  unfold Region.binds
  cases hg : e.ground <;> simp [hg] at h ⊢

variable {envF : Nat → Option AV} {hF : Heap}

theorem pairwise_pair {α : Type} {R : α → α → Prop} {u v : List α} {x : α} (h : List.Pairwise R (u ++ x :: v)) : (∀ y ∈ u, R y x) ∧ (∀ y ∈ v, R x y) ∧ List.Pairwise R (u ++ v) := by
  rw [List.pairwise_append] at h
  obtain ⟨h1, h2, h3⟩ := h
  rw [List.pairwise_cons] at h2
  refine ⟨fun y hy => h3 y hy x (List.mem_cons_self ..), h2.1, ?_⟩
  rw [List.pairwise_append]
  exact ⟨h1, h2.2, fun a ha b hb => h3 a ha b (List.mem_cons_of_mem _ hb)⟩

/-- All that an operation hangs on comes ahead of it: no such operation is left when it is ready. -/
def Closed (ops : Array Oper) (clo : List Nat) (listed : Array Bool) : Prop :=
  ∀ i j, listed.getD i false = true → j < ops.size → bitOf (clo.getD i 0) j = true → listed.getD j false = true
theorem ready_closed {md : Region.Mode} {clo : List Nat} (hc : cloOk ops clo = true) {listed : Array Bool} (hl : Closed ops clo listed) {i : Nat} (hi : i ∈ Region.ready md ops listed) : ∀ j, j < ops.size → bitOf (clo.getD i 0) j = true → listed.getD j false = true := by
  intro j hj hb
  obtain ⟨h0, o, ho, hall⟩ := mem_ready.1 hi
  have hlt : i < ops.size := (Array.getElem?_eq_some_iff.1 ho).1
  simp only [cloOk, List.all_eq_true, List.mem_range] at hc
  have h1 := hc i (by simpa using hlt)
  have ho' : ops.toList[i]? = some o := by rw [Array.getElem?_toList]; exact ho
  rw [ho'] at h1
  simp only [List.all_eq_true, List.mem_range, Bool.or_eq_true, Bool.not_eq_true'] at h1
  rcases h1 j (by simpa using hj) with h2 | h2
  · rw [hb] at h2; cases h2
  · rw [List.any_eq_true] at h2
    obtain ⟨e, he, h3⟩ := h2
    simp only [Bool.and_eq_true, Bool.or_eq_true, beq_iff_eq] at h3
    have h4 := hall e (by simpa using he) (binds_of_any h3.1)
    rcases h3.2 with h5 | h5
    · rw [← h5]; exact h4
    · exact hl e.on j h4 hj h5

/-- The orders of one mode. -/
theorem any_sound {md : Region.Mode} {N lo hi : Nat} {clo ord : List Nat} (hc : cloOk ops clo = true) (hm : modeOk md ops ord = true) {Q : Exit → Act → World → Prop} {F : Fr} {w0 : World} {ρ0 : Rho} {sz : Nat} {df : List Deferred}
    (hQ : ∀ ρ' a' w', Ext ρ0 ρ' lo hi → EnvRepF ρ' envF a'.tmps → a'.tmps.size = sz → a'.defers = df → Sat F w0 ρ' hF w' → Q .normal a' w') :
    ∀ (m : Nat) (L : List SD) (listed : Array Bool) (env : Nat → Option AV) (h : Heap) (ρ : Rho) (a : Act) (w : World), L.length = m → listed.size = ops.size → (L.map (·.i)).Nodup →
      (∀ i, i < ops.size → (listed.getD i true = false ↔ i ∈ L.map (·.i))) → (∀ x ∈ L, x.i < ops.size) → Closed ops clo listed →
      L.Pairwise (fun y x => bitOf (clo.getD x.i 0) y.i = false → Comm y x) → (∀ x ∈ L, SDSound P ops N x ∧ lo ≤ x.n ∧ x.m ≤ hi) → L.Pairwise (fun y x => y.m ≤ x.n) → (∀ x ∈ L, Fresh ρ x.n x.m) → Ext ρ0 ρ lo hi →
      Runs envF hF L env h → EnvRepF ρ env a.tmps → N ≤ sz → a.tmps.size = sz → a.defers = df → Sat F w0 ρ h w → wpAny P md ops Q m listed a w := by
  intro m
  induction m with
  | zero =>
    intro L listed env h ρ a w hlen hsz hnd hiff hlt hcl hpw hss hiv hfr hext hr he hN hasz hdf hs
    have hL : L = [] := List.eq_nil_of_length_eq_zero hlen
    subst hL
    obtain ⟨rfl, rfl⟩ := hr
    refine ⟨?_, hQ ρ a w hext he hasz hdf hs⟩
    rw [List.eq_nil_iff_forall_not_mem]
    intro i hi
    obtain ⟨h0, o, ho, _⟩ := mem_ready.1 hi
    have := (hiff i (Array.getElem?_eq_some_iff.1 ho).1).1 h0
    simp at this
  | succ m ih =>
    intro L listed env h ρ a w hlen hsz hnd hiff hlt hcl hpw hss hiv hfr hext hr he hN hasz hdf hs
    constructor
    · intro h0
      exfalso
      cases L with
      | nil => simp at hlen
      | cons x l =>
        have h1 := mode_ready hm hsz h0 x.i (hlt x (List.mem_cons_self ..))
        have h2 := (hiff x.i (hlt x (List.mem_cons_self ..))).2 (by simp)
        rw [h1] at h2; cases h2
    · intro i hi
      obtain ⟨h0, o, ho, _⟩ := mem_ready.1 hi
      have hin := (hiff i (Array.getElem?_eq_some_iff.1 ho).1).1 h0
      obtain ⟨x, hx, rfl⟩ := List.mem_map.1 hin
      obtain ⟨u, v, rfl⟩ := List.append_of_mem hx
      obtain ⟨p1, p2, p3⟩ := pairwise_pair hpw
      obtain ⟨v1, v2, v3⟩ := pairwise_pair hiv
      have hrc := ready_closed hc hcl hi
      have hun : ∀ y ∈ u ++ x :: v, listed.getD y.i false = false := fun y hy => by
        have h1 := (hiff y.i (hlt y hy)).2 (List.mem_map.2 ⟨y, hy, rfl⟩)
        have hl : y.i < listed.size := by rw [hsz]; exact hlt y hy
        simp only [Array.getD_eq_getD_getElem?, Array.getElem?_eq_getElem hl, Option.getD_some] at h1 ⊢
        exact h1
      have hcomm : ∀ y ∈ u, Comm y x := fun y hy => by
        refine p1 y hy ?_
        cases hb : bitOf (clo.getD x.i 0) y.i with
        | false => rfl
        | true =>
          have hym : y ∈ u ++ x :: v := List.mem_append_left _ hy
          have h1 := hrc y.i (hlt y hym) hb
          rw [hun y hym] at h1; cases h1
      obtain ⟨r1, r2⟩ := runs_bubble u hcomm hr
      obtain ⟨⟨g1, g2⟩, g3, g4⟩ := hss x hx
      have hxl : x.i < listed.size := by rw [hsz]; exact hlt x hx
      refine g2 F w0 ρ w a env h he (by omega) r1 hs (hfr x hx) _ Q fun ρ' a' w' q1 q2 q3 q4 q5 => ?_
      have hnd' : (((u ++ v).map (·.i)).Nodup) ∧ x.i ∉ (u ++ v).map (·.i) := by
        rw [List.map_append, List.map_cons, List.nodup_append] at hnd
        obtain ⟨n1, n2, n3⟩ := hnd
        rw [List.nodup_cons] at n2
        refine ⟨?_, ?_⟩
        · rw [List.map_append, List.nodup_append]
          exact ⟨n1, n2.2, fun a ha b hb => n3 a ha b (List.mem_cons_of_mem _ hb)⟩
        · rw [List.map_append, List.mem_append]
          rintro (hu | hv)
          · exact n3 _ hu _ (List.mem_cons_self ..) rfl
          · exact n2.1 hv
      have hsub : ∀ y ∈ u ++ v, y ∈ u ++ x :: v := fun y hy => by
        rcases List.mem_append.1 hy with hy | hy
        · exact List.mem_append_left _ hy
        · exact List.mem_append_right _ (List.mem_cons_of_mem _ hy)
      refine ih (u ++ v) (listed.setIfInBounds x.i true) (x.env env) (x.heap h) ρ' a' w' ?_ (by simpa using hsz) hnd'.1 (fun k hk => ?_) (fun y hy => hlt y (hsub y hy)) ?_ p3 (fun y hy => hss y (hsub y hy)) v3 ?_ ?_ r2 q2 hN (q3.trans hasz) (q4.trans hdf) q5
      · simp only [List.length_append, List.length_cons] at hlen ⊢; omega
      · by_cases e : x.i = k
        · subst e
          constructor
          · intro hk2; simp [hxl] at hk2
          · intro hk2; exact absurd hk2 hnd'.2
        · rw [getD_set_ne true e, hiff k hk]
          simp only [List.map_append, List.map_cons, List.mem_append, List.mem_cons]
          constructor
          · rintro (h1 | h1 | h1)
            · exact .inl h1
            · exact absurd h1.symm e
            · exact .inr h1
          · rintro (h1 | h1)
            · exact .inl h1
            · exact .inr (.inr h1)
      · intro k j hk hj hb
        by_cases e : x.i = k
        · subst e
          exact getD_set_true (hrc j hj hb)
        · rw [getD_set_ne false e] at hk
          exact getD_set_true (hcl k j hk hj hb)
      · intro y hy o h1 h2
        cases hx' : ρ' o with
        | none => rfl
        | some l =>
          rcases q1.new o l hx' with h3 | h3
          · rw [hfr y (hsub y hy) o h1 h2] at h3; cases h3
          · rcases List.mem_append.1 hy with hy | hy
            · have := v1 y hy; omega
            · have := v2 y hy; omega
      · refine ⟨hext.sub.trans q1.sub, fun o l h1 => ?_⟩
        rcases q1.new o l h1 with h2 | h2
        · exact hext.new o l h2
        · exact .inr ⟨by omega, by omega⟩
end
end Go.Am
namespace Go.Am
set_option linter.unusedVariables false
set_option linter.unusedSimpArgs false

section
variable {P : Program} {ops : Array Oper}

/-! ### Loads -/
/-- A load that is guarded or not: either it looks at nothing, or what it loads is noted. -/
def RdOk (k : DK) (f : FOp) : Prop := ∀ (call : Call) (e : Tr AV) (s : St) (v : AV) (s' : St), f call e s = some (v, s') →
  (∀ s2, f call e s2 = some (v, s2)) ∨ ∃ o off vs, tgt k e s = some (o, off, vs) ∧ s.load o off vs.length = some vs ∧ ∀ s2 : St, s2.load o off vs.length = some vs → f call e s2 = some (v, s2)
def DK.isRd : DK → Bool
  | .rd1 _ => true
  | .rdN _ _ => true
  | _ => false

theorem rdN_one {cs : List AV} {o : Nat} {v : AV} : rdN cs o 1 = some [v] ↔ cs[o]? = some v := by
  induction cs generalizing o with
  | nil => simp [rdN, takeN]; cases o <;> simp [takeN]
  | cons c cs ih =>
    cases o with
    | zero =>
      have h1 : rdN (c :: cs) 0 1 = some [c] := by cases cs <;> rfl
      rw [h1]; simp
    | succ o => simpa [rdN] using ih
theorem load_one {s : St} {o off : Nat} {v : AV} : s.load o off 1 = some [v] ↔ s.load1 o off = some v := by
  unfold St.load St.load1
  cases s.heap.get o with
  | none => simp
  | some x =>
    cases x with
    | map _ => simp
    | cells cs ro => simp only []; rw [rdN_one, rd1_eq]

theorem rdOk_1 (x : AX) : RdOk (.rd1 x) (fLoad1 x) := by
  intro call e s v s' h
  unfold fLoad1 at h
  split at h
  · next o off h1 =>
    obtain ⟨h2, rfl⟩ := ans_some h
    refine .inr ⟨o, off, [v], ?_, load_one.2 h2, fun s2 h3 => ?_⟩
    · unfold tgt; simp only [h1, load_one.2 h2]
    · unfold fLoad1; simp only [h1, load_one.1 h3, ans]
  · cases h
theorem load_len {s : St} {o off n : Nat} {vs : List AV} (h : s.load o off n = some vs) : vs.length = n := by
  obtain ⟨cs, ro, _, h2⟩ := load_some h
  obtain ⟨h3, h4⟩ := rdN_some cs off n vs h2
  rw [h4]; simp; omega
theorem rdOk_N (x : AX) (n : Nat) : RdOk (.rdN x n) (fLoadN x n) := by
  intro call e s v s' h
  unfold fLoadN at h
  split at h
  · next o off h1 =>
    split at h
    · next vs h2 =>
      simp only [Option.some.injEq, Prod.mk.injEq] at h
      obtain ⟨rfl, rfl⟩ := h
      have hl := load_len h2
      refine .inr ⟨o, off, vs, ?_, by rw [hl]; exact h2, fun s2 h3 => ?_⟩
      · unfold tgt; simp only [h1, h2]
      · rw [hl] at h3; unfold fLoadN; simp only [h1, h3]
    · cases h
  · cases h
theorem rdOk_g {k : DK} {f : FOp} (h : RdOk k f) (t : Nat) (w : Bool) : RdOk k (gF f t w) := by
  intro call e s v s' hf
  unfold gF at hf
  split at hf
  · next hw =>
    rcases h call e s v s' hf with h1 | ⟨o, off, vs, h1, h2, h3⟩
    · exact .inl fun s2 => by unfold gF; rw [hw]; exact h1 s2
    · exact .inr ⟨o, off, vs, h1, h2, fun s2 h4 => by unfold gF; rw [hw]; exact h3 s2 h4⟩
  · next hw =>
    simp only [Option.some.injEq, Prod.mk.injEq] at hf
    obtain ⟨rfl, rfl⟩ := hf
    exact .inl fun s2 => by unfold gF; rw [hw]
  · cases hf
theorem rdOk_bad (k : DK) : RdOk k fBad := fun call e s v s' h => by simp [fBad] at h

theorem rdOk_dk {o : Op} (h : (dk P o).isRd = true) : RdOk (dk P o) (opOr (trOp P o)) := by
  cases o
  case load t x =>
    simp only [dk] at h ⊢
    split at h
    · next n y h1 h2 h3 => simp only [trOp, h1, h2, h3, opOr]; exact rdOk_N y n
    · next n y h1 h2 h3 => simp only [trOp, h1, h2, h3, opOr]; exact rdOk_1 y
    · cases h
  all_goals
    exfalso
    revert h
    simp only [dk]
    repeat' split
    all_goals simp [DK.isRd]
theorem rdOk_trG {x : Oper} (h : (dk P x.op).isRd = true) : RdOk (dk P x.op) (trG P ops x) := by
  unfold trG
  split
  · exact rdOk_dk h
  · split
    · exact rdOk_g (rdOk_dk h) _ _
    · exact rdOk_bad _

/-! ### What is alike -/
theorem bBeq_true {a b : Bool} (h : bBeq a b = true) : a = b := by rw [bBeq_eq] at h; exact eq_of_beq h
theorem cellSame_eq {a b : AV} (h : cellSame a b = true) : a = b := by
  unfold cellSame at h
  split at h
  · rw [bBeq_true h]
  · next k a k' b =>
    cases hk : kEq k k' with
    | true => rw [hk, cond_true, iEq_eq, decide_eq_true_eq] at h; rw [kEq_eq hk, h]
    | false => rw [hk] at h; cases h
  · next o f o' f' =>
    cases h1 : Nat.beq o o' with
    | true => rw [h1, cond_true] at h; rw [Nat.eq_of_beq_eq_true h1, Nat.eq_of_beq_eq_true h]
    | false => rw [h1] at h; cases h
  · rfl
  · next o f l c o' f' l' c' =>
    cases h1 : Nat.beq o o' with
    | false => rw [h1] at h; cases h
    | true =>
      cases h2 : Nat.beq f f' with
      | false => rw [h1, h2] at h; cases h
      | true =>
        cases h3 : Nat.beq l l' with
        | false => rw [h1, h2, h3] at h; cases h
        | true =>
          rw [h1, h2, h3] at h
          rw [Nat.eq_of_beq_eq_true h1, Nat.eq_of_beq_eq_true h2, Nat.eq_of_beq_eq_true h3, Nat.eq_of_beq_eq_true h]
  · next o f l c o' f' l' c' =>
    cases h1 : Nat.beq o o' with
    | false => rw [h1] at h; cases h
    | true =>
      cases h2 : Nat.beq f f' with
      | false => rw [h1, h2] at h; cases h
      | true =>
        cases h3 : Nat.beq l l' with
        | false => rw [h1, h2, h3] at h; cases h
        | true =>
          rw [h1, h2, h3] at h
          rw [Nat.eq_of_beq_eq_true h1, Nat.eq_of_beq_eq_true h2, Nat.eq_of_beq_eq_true h3, Nat.eq_of_beq_eq_true h]
  · rfl
  · rw [Nat.eq_of_beq_eq_true h]
  · rfl
  · rfl
  · rw [sEq_eq, decide_eq_true_eq] at h; rw [h]
  · cases h
theorem allSame_eq {p : AV → AV → Bool} (hp : ∀ a b, p a b = true → a = b) : ∀ {x y : List AV}, allSame p x y = true → x = y
  | [], [], _ => rfl
  | [], _ :: _, h => by cases h
  | _ :: _, [], h => by cases h
  | a :: x, b :: y, h => by
    have h1 : allSame p (a :: x) (b :: y) = Bool.rec (motive := fun _ => Bool) false (allSame p x y) (p a b) := rfl
    rw [h1] at h
    cases h2 : p a b with
    | false => rw [h2] at h; cases h
    | true => rw [h2] at h; rw [hp a b h2, allSame_eq hp h]
theorem valSame_eq {a b : AV} (h : valSame a b = true) : a = b := by
  unfold valSame at h
  split at h
  · next f x f' y =>
    cases h1 : Nat.beq f f' with
    | true => rw [h1, cond_true] at h; rw [Nat.eq_of_beq_eq_true h1, allSame_eq (fun a b => cellSame_eq) h]
    | false => rw [h1] at h; cases h
  · exact cellSame_eq h
theorem still_has {s : St} {o off : Nat} {vs : List AV} (h : stillThere s o off vs = true) : hasAt s.heap.get o off vs := by
  unfold stillThere at h
  split at h
  · next us hu =>
    rw [allSame_eq (fun a b => valSame_eq) h]
    rw [lenL_eq] at hu
    have hl := load_len hu
    obtain ⟨cs, ro, g1, g2⟩ := load_some hu
    exact ⟨cs, ro, g1, by rw [hl]; exact g2⟩
  · cases h
theorem recs_has {clo : Nat} {s : St} : ∀ {rs : List Note}, recsOk clo s rs = true → ∀ r ∈ rs, bitOf clo r.1 = false → hasAt s.heap.get r.2.1 r.2.2.1 r.2.2.2
  | [], _, r, hr, _ => by cases hr
  | q :: rs, h, r, hr, hb => by
    have h1 : recsOk clo s (q :: rs) = bif bitOf clo q.1 then recsOk clo s rs else bif stillThere s q.2.1 q.2.2.1 q.2.2.2 then recsOk clo s rs else false := rfl
    rw [h1] at h
    cases h2 : bitOf clo q.1 with
    | true =>
      rw [h2, cond_true] at h
      rcases List.mem_cons.1 hr with rfl | hr
      · rw [hb] at h2; cases h2
      · exact recs_has h r hr hb
    | false =>
      rw [h2, cond_false] at h
      cases h3 : stillThere s q.2.1 q.2.2.1 q.2.2.2 with
      | false => rw [h3] at h; cases h
      | true =>
        rw [h3, cond_true] at h
        rcases List.mem_cons.1 hr with rfl | hr
        · exact still_has h3
        · exact recs_has h r hr hb

/-! ### A step -/
theorem restr_cons (e : Tr AV) (t : Nat) (ts : List Nat) : restr e (t :: ts) = match e.get t with
    | some v => (restr e ts).put (some v) t
    | none => restr e ts := rfl
theorem restr_sub {e : Tr AV} : ∀ {ts : List Nat} {t : Nat} {v : AV}, (restr e ts).get t = some v → e.get t = some v ∧ t ∈ ts
  | [], t, v, h => by cases h
  | u :: ts, t, v, h => by
    rw [restr_cons] at h
    split at h
    · next z hz =>
      rw [Tr.get_put] at h
      by_cases e1 : t = u
      · subst e1; rw [if_pos rfl] at h; injection h with h; subst h; exact ⟨hz, List.mem_cons_self ..⟩
      · rw [if_neg e1] at h
        obtain ⟨g1, g2⟩ := restr_sub h
        exact ⟨g1, List.mem_cons_of_mem _ g2⟩
    · obtain ⟨g1, g2⟩ := restr_sub h
      exact ⟨g1, List.mem_cons_of_mem _ g2⟩
theorem putT_get (e : Tr AV) (dst : Option Nat) (v : AV) (x : SD) (hd : x.dst = dst) (hv : x.v = v) : (putT e dst v).get = x.env e.get := by
  unfold SD.env putT
  cases dst with
  | none => rw [hd]
  | some d => rw [hd, hv]; exact Tr.put_get _ _ _

def KRel (k : DK) (r : RK) : Prop := match r with
  | .pure => True
  | .rd _ _ _ => k.isRd = true
  | .alloc _ => k = .alloc
  | .wr _ _ => k = .wr
/-- What ties a step to its operation. -/
structure Tie (d : DOp) (x : SD) : Prop where
  i : x.i = d.i
  dst : x.dst = d.dst
  ts : ∀ t v, x.e.get t = some v → t ∈ d.ts
  k : KRel d.k x.k
  m : ∀ y, x.k = .alloc y → x.m = x.n + 1
structure DOk (P : Program) (ops : Array Oper) (N : Nat) (d : DOp) : Prop where
  g : GSound P ops d.i d.dst d.f
  r : d.k.isRd = true → RdOk d.k d.f
  N : ∀ t, d.dst = some t → t < N

theorem ws_has {clo o m : Nat} : ∀ {ws : List (Nat × Nat)}, wsOk clo o m ws = true → ∀ r ∈ ws, bitOf clo r.1 = false → r.2 ≤ o ∧ o < m
  | [], _, r, hr, _ => by cases hr
  | q :: ws, h, r, hr, hb => by
    have h1 : wsOk clo o m (q :: ws) = bif bitOf clo q.1 then wsOk clo o m ws else bif Nat.ble q.2 o then bif Nat.blt o m then wsOk clo o m ws else false else false := rfl
    rw [h1] at h
    cases h2 : bitOf clo q.1 with
    | true =>
      rw [h2, cond_true] at h
      rcases List.mem_cons.1 hr with rfl | hr
      · rw [hb] at h2; cases h2
      · exact ws_has h r hr hb
    | false =>
      rw [h2, cond_false] at h
      cases h3 : Nat.ble q.2 o with
      | false => rw [h3] at h; cases h
      | true =>
        rw [h3, cond_true] at h
        cases h4 : Nat.blt o m with
        | false => rw [h4] at h; cases h
        | true =>
          rw [h4, cond_true] at h
          rcases List.mem_cons.1 hr with rfl | hr
          · exact ⟨Nat.le_of_ble_eq_true h3, Nat.lt_of_succ_le (Nat.le_of_ble_eq_true h4)⟩
          · exact ws_has h r hr hb

theorem step_sd {N : Nat} {d : DOp} (hd : DOk P ops N d) {call : Call} (hcall : CallOk P call) {e : Tr AV} {s : St} {rs : List Note} {ws : List (Nat × Nat)} {e' : Tr AV} {s' : St} {rs' : List Note} {ws' : List (Nat × Nat)} (h : stepD d call e s rs ws = some (e', s', rs', ws')) :
    ∃ x : SD, Tie d x ∧ SDSound P ops N x ∧ x.n = s.next ∧ x.m = s'.next ∧ x.pre e.get s.heap.get ∧ e'.get = x.env e.get ∧ s'.heap.get = x.heap s.heap.get ∧
      (∀ r ∈ rs, r ∈ rs') ∧ (∀ o off vs, x.k = .rd o off vs → (d.i, o, off, vs) ∈ rs') ∧ (∀ h1 h2, x.k = .wr h1 h2 → ∀ r ∈ rs, bitOf d.clo r.1 = false → hasAt h2 r.2.1 r.2.2.1 r.2.2.2) ∧
      (∀ r ∈ ws, r ∈ ws') ∧ (∀ y, x.k = .alloc y → (d.i, s'.next) ∈ ws') ∧ (∀ h1 h2, x.k = .wr h1 h2 → (d.i, s'.next) ∈ ws') ∧ (∀ o off vs, x.k = .rd o off vs → ∀ r ∈ ws, bitOf d.clo r.1 = false → r.2 ≤ o ∧ o < x.n) := by
  have hsub : ∀ t v, (restr e d.ts).get t = some v → e.get t = some v := fun t v ht => (restr_sub ht).1
  have hts : ∀ t v, (restr e d.ts).get t = some v → t ∈ d.ts := fun t v ht => (restr_sub ht).2
  unfold stepD at h
  split at h
  · next hk =>
    split at h
    · next v s1 hf =>
      cases hr : recsOk d.clo s1 rs with
      | false => rw [hr] at h; cases h
      | true =>
        rw [hr, cond_true] at h
        simp only [Option.some.injEq, Prod.mk.injEq] at h
        obtain ⟨rfl, rfl, rfl, rfl⟩ := h
        refine ⟨⟨d.i, d.dst, restr e d.ts, s.next, s1.next, v, .wr s.heap.get s1.heap.get⟩, ⟨rfl, rfl, hts, hk, fun y hy => (by cases hy)⟩, sd_wr hd.g hd.N hcall hf, rfl, rfl, ⟨hsub, fun o y hy => hy⟩, putT_get _ _ _ _ rfl rfl, ?_, fun r hr => hr, fun o off vs hx => (by cases hx), fun h1 h2 hx r hr2 hb => ?_, fun r hr => List.mem_cons_of_mem _ hr, fun y hy => (by cases hy), fun h1 h2 hx => List.mem_cons_self .., fun o off vs hx => (by cases hx)⟩
        · funext o
          simp only [SD.heap]
          cases hs : s.heap.get o with
          | some _ => rfl
          | none => cases hs1 : s1.heap.get o <;> rfl
        · injection hx with _ hx; subst hx; exact recs_has hr r hr2 hb
    · cases h
  · next hk =>
    split at h
    · next v s1 hf =>
      split at h
      · next y hy =>
        cases hn : Nat.beq s1.next (Nat.succ s.next) with
        | false => rw [hn] at h; cases h
        | true =>
          rw [hn, cond_true] at h
          simp only [Option.some.injEq, Prod.mk.injEq] at h
          obtain ⟨rfl, rfl, rfl, rfl⟩ := h
          have hn' := Nat.eq_of_beq_eq_true hn
          obtain ⟨h1, n1⟩ := s1
          simp only at hn' hy
          subst hn'
          exact ⟨⟨d.i, d.dst, restr e d.ts, s.next, s.next + 1, v, .alloc y⟩, ⟨rfl, rfl, hts, hk, fun y hy => rfl⟩, sd_alloc hd.g hd.N hcall hf hy, rfl, rfl, ⟨hsub, trivial⟩, putT_get _ _ _ _ rfl rfl, Tr.put_get _ _ _, fun r hr => hr, fun o off vs hx => (by cases hx), fun h1 h2 hx => (by cases hx), fun r hr => List.mem_cons_of_mem _ hr, fun y hy => List.mem_cons_self .., fun h1 h2 hx => (by cases hx), fun o off vs hx => (by cases hx)⟩
      · cases hn : Nat.beq s1.next s.next with
        | false => rw [hn] at h; cases h
        | true =>
          rw [hn, cond_true] at h
          simp only [Option.some.injEq, Prod.mk.injEq] at h
          obtain ⟨rfl, rfl, rfl, rfl⟩ := h
          have hn' := Nat.eq_of_beq_eq_true hn
          obtain ⟨h1, n1⟩ := s1
          simp only at hn'
          subst hn'
          exact ⟨⟨d.i, d.dst, restr e d.ts, s.next, s.next, v, .pure⟩, ⟨rfl, rfl, hts, trivial, fun y hy => (by cases hy)⟩, sd_pure hd.g hd.N hcall hf, rfl, rfl, ⟨hsub, trivial⟩, putT_get _ _ _ _ rfl rfl, rfl, fun r hr => hr, fun o off vs hx => (by cases hx), fun h1 h2 hx => (by cases hx), fun r hr => hr, fun y hy => (by cases hy), fun h1 h2 hx => (by cases hx), fun o off vs hx => (by cases hx)⟩
    · cases h
  · next hk =>
    split at h
    · next v s1 hf =>
      cases hn : Nat.beq s1.next s.next with
      | false => rw [hn] at h; cases h
      | true =>
        rw [hn, cond_true] at h
        simp only [Option.some.injEq, Prod.mk.injEq] at h
        obtain ⟨rfl, rfl, rfl, rfl⟩ := h
        have hn' := Nat.eq_of_beq_eq_true hn
        obtain ⟨h1, n1⟩ := s1
        simp only at hn'
        subst hn'
        exact ⟨⟨d.i, d.dst, restr e d.ts, s.next, s.next, v, .pure⟩, ⟨rfl, rfl, hts, trivial, fun y hy => (by cases hy)⟩, sd_pure hd.g hd.N hcall hf, rfl, rfl, ⟨hsub, trivial⟩, putT_get _ _ _ _ rfl rfl, rfl, fun r hr => hr, fun o off vs hx => (by cases hx), fun h1 h2 hx => (by cases hx), fun r hr => hr, fun y hy => (by cases hy), fun h1 h2 hx => (by cases hx), fun o off vs hx => (by cases hx)⟩
    · cases h
  · next hk1 hk2 hk3 =>
    have hrd : d.k.isRd = true := by
      cases hk : d.k with
      | wr => exact absurd hk hk1
      | alloc => exact absurd hk hk2
      | pure => exact absurd hk hk3
      | rd1 _ => rfl
      | rdN _ _ => rfl
    simp only [] at h
    split at h
    · next v s1 hf =>
      rcases hd.r hrd call _ s v s1 hf with h1 | ⟨o, off, vs, h1, h2, h3⟩
      · have hpure : ∀ (rs' : List Note) (ws' : List (Nat × Nat)), (∀ r ∈ rs, r ∈ rs') → (∀ r ∈ ws, r ∈ ws') → e' = putT e d.dst v → s' = s → ∃ x : SD, Tie d x ∧ SDSound P ops N x ∧ x.n = s.next ∧ x.m = s'.next ∧ x.pre e.get s.heap.get ∧ e'.get = x.env e.get ∧ s'.heap.get = x.heap s.heap.get ∧
      (∀ r ∈ rs, r ∈ rs') ∧ (∀ o off vs, x.k = .rd o off vs → (d.i, o, off, vs) ∈ rs') ∧ (∀ h1 h2, x.k = .wr h1 h2 → ∀ r ∈ rs, bitOf d.clo r.1 = false → hasAt h2 r.2.1 r.2.2.1 r.2.2.2) ∧
      (∀ r ∈ ws, r ∈ ws') ∧ (∀ y, x.k = .alloc y → (d.i, s'.next) ∈ ws') ∧ (∀ h1 h2, x.k = .wr h1 h2 → (d.i, s'.next) ∈ ws') ∧ (∀ o off vs, x.k = .rd o off vs → ∀ r ∈ ws, bitOf d.clo r.1 = false → r.2 ≤ o ∧ o < x.n) := by
          rintro rs' ws' hm1 hm2 rfl rfl
          exact ⟨⟨d.i, d.dst, restr e d.ts, s'.next, s'.next, v, .pure⟩, ⟨rfl, rfl, hts, trivial, fun y hy => (by cases hy)⟩, sd_pure hd.g hd.N hcall (h1 ⟨.leaf, s'.next⟩), rfl, rfl, ⟨hsub, trivial⟩, putT_get _ _ _ _ rfl rfl, rfl, hm1, fun o off vs hx => (by cases hx), fun h1 h2 hx => (by cases hx), hm2, fun y hy => (by cases hy), fun h1 h2 hx => (by cases hx), fun o off vs hx => (by cases hx)⟩
        split at h
        · next o off vs hq =>
          cases hw : wsOk d.clo o s.next ws with
          | false => rw [hw] at h; cases h
          | true =>
            rw [hw, cond_true] at h
            simp only [Option.some.injEq, Prod.mk.injEq] at h
            obtain ⟨e1, e2, rfl, rfl⟩ := h
            exact hpure _ _ (fun r hr => List.mem_cons_of_mem _ hr) (fun r hr => hr) e1.symm e2.symm
        · simp only [Option.some.injEq, Prod.mk.injEq] at h
          obtain ⟨e1, e2, rfl, rfl⟩ := h
          exact hpure _ _ (fun r hr => hr) (fun r hr => hr) e1.symm e2.symm
      · rw [h1] at h
        simp only [] at h
        cases hw : wsOk d.clo o s.next ws with
        | false => rw [hw] at h; cases h
        | true =>
          rw [hw, cond_true] at h
          simp only [Option.some.injEq, Prod.mk.injEq] at h
          obtain ⟨rfl, rfl, rfl, rfl⟩ := h
          refine ⟨⟨d.i, d.dst, restr e d.ts, s.next, s.next, v, .rd o off vs⟩, ⟨rfl, rfl, hts, hrd, fun y hy => (by cases hy)⟩, sd_rd hd.g hd.N hcall h3, rfl, rfl, ⟨hsub, ?_⟩, putT_get _ _ _ _ rfl rfl, rfl, fun r hr => List.mem_cons_of_mem _ hr, fun o off vs hx => ?_, fun h1 h2 hx => (by cases hx), fun r hr => hr, fun y hy => (by cases hy), fun h1 h2 hx => (by cases hx), fun o off vs hx r hr hb => ?_⟩
          · obtain ⟨cs, ro, g1, g2⟩ := load_some h2
            exact ⟨cs, ro, g1, g2⟩
          · injection hx with e1 e2 e3; subst e1; subst e2; subst e3
            exact List.mem_cons_self ..
          · injection hx with e1 e2 e3; subst e1; subst e2; subst e3
            exact ws_has hw r hr hb
    · cases h
end
end Go.Am
namespace Go.Am
set_option linter.unusedVariables false
set_option linter.unusedSimpArgs false

section
variable {P : Program} {ops : Array Oper}

theorem drawF_nil (call : Call) (e : Tr AV) (s : St) (rs : List Note) (ws : List (Nat × Nat)) : drawF [] call e s rs ws = some (e, s) := rfl
theorem drawF_cons (d : DOp) (l : List DOp) (call : Call) (e : Tr AV) (s : St) (rs : List Note) (ws : List (Nat × Nat)) : drawF (d :: l) call e s rs ws = match stepD d call e s rs ws with
    | some (e', s', rs', ws') => drawF l call e' s' rs' ws'
    | none => none := rfl

theorem draw_run {N : Nat} {clo : List Nat} {call : Call} (hcall : CallOk P call) : ∀ (l : List DOp) (e : Tr AV) (s : St) (rs : List Note) (ws : List (Nat × Nat)) (e' : Tr AV) (s' : St), drawF l call e s rs ws = some (e', s') → (∀ d ∈ l, DOk P ops N d ∧ d.clo = clo.getD d.i 0) → pairsOk l = true →
    ∃ L : List SD, L.map (·.i) = l.map (·.i) ∧ s.next ≤ s'.next ∧ Runs e'.get s'.heap.get L e.get s.heap.get ∧ (∀ x ∈ L, (∃ d ∈ l, Tie d x) ∧ SDSound P ops N x ∧ s.next ≤ x.n ∧ x.m ≤ s'.next) ∧ L.Pairwise (fun y x => y.m ≤ x.n) ∧
      (∀ r ∈ rs, ∀ x ∈ L, ∀ h1 h2, x.k = .wr h1 h2 → bitOf (clo.getD x.i 0) r.1 = false → hasAt h2 r.2.1 r.2.2.1 r.2.2.2) ∧
      (∀ r ∈ ws, ∀ x ∈ L, ∀ o off vs, x.k = .rd o off vs → bitOf (clo.getD x.i 0) r.1 = false → r.2 ≤ o ∧ o < x.n) ∧
      ∀ (F : Fr) (w0 : World) (ρ : Rho) (w : World) (a : Act), EnvRepF ρ e.get a.tmps → N ≤ a.tmps.size → Sat F w0 ρ s.heap.get w → Fresh ρ s.next s'.next → L.Pairwise (fun y x => bitOf (clo.getD x.i 0) y.i = false → Comm y x)
  | [], e, s, rs, ws, e', s', h, hd, hp => by
    rw [drawF_nil] at h
    simp only [Option.some.injEq, Prod.mk.injEq] at h
    obtain ⟨rfl, rfl⟩ := h
    exact ⟨[], rfl, Nat.le_refl _, ⟨rfl, rfl⟩, fun x hx => (by cases hx), List.Pairwise.nil, fun r _ x hx => (by cases hx), fun r _ x hx => (by cases hx), fun _ _ _ _ _ _ _ _ _ => List.Pairwise.nil⟩
  | d :: l, e, s, rs, ws, e', s', h, hd, hp => by
    rw [drawF_cons] at h
    split at h
    · next e1 s1 rs1 ws1 h1 =>
      obtain ⟨hdo, hdc⟩ := hd d (List.mem_cons_self ..)
      obtain ⟨x, t, g1, g2, g3, g4, g5, g6, g7, g8, g9, g10, g11, g12, g13⟩ := step_sd hdo hcall h1
      simp only [pairsOk, Bool.and_eq_true, List.all_eq_true] at hp
      obtain ⟨L, i1, i2, i3, i4, i5, i6, i8, i7⟩ := draw_run hcall l e1 s1 rs1 ws1 e' s' h (fun d' hd' => hd d' (List.mem_cons_of_mem _ hd')) hp.2
      have hle : s.next ≤ s1.next := by have := g1.1; omega
      refine ⟨x :: L, ?_, by omega, ⟨g4, ?_⟩, ?_, ?_, ?_, ?_, ?_⟩
      · rw [List.map_cons, List.map_cons, i1, t.i]
      · rw [← g5, ← g6]; exact i3
      · intro z hz
        rcases List.mem_cons.1 hz with rfl | hz
        · exact ⟨⟨d, List.mem_cons_self .., t⟩, g1, by omega, by omega⟩
        · obtain ⟨⟨d', j1, j2⟩, j3, j4, j5⟩ := i4 z hz
          exact ⟨⟨d', List.mem_cons_of_mem _ j1, j2⟩, j3, by omega, j5⟩
      · rw [List.pairwise_cons]
        exact ⟨fun z hz => by have := (i4 z hz).2.2.1; omega, i5⟩
      · intro r hr z hz h1' h2' hk hb
        rcases List.mem_cons.1 hz with rfl | hz
        · refine g9 h1' h2' hk r hr ?_
          rw [hdc, ← t.i]; exact hb
        · exact i6 r (g7 r hr) z hz h1' h2' hk hb
      · intro r hr z hz o off vs hk hb
        rcases List.mem_cons.1 hz with rfl | hz
        · refine g13 o off vs hk r hr ?_
          rw [hdc, ← t.i]; exact hb
        · exact i8 r (g10 r hr) z hz o off vs hk hb
      · intro F w0 ρ w a he hN hs hf
        have hfx : Fresh ρ x.n x.m := fun o q1 q2 => hf o (by omega) (by omega)
        obtain ⟨a1, w1, ρ1, e1', k1, k2, k3⟩ := wpOp_exists (g1.2 F w0 ρ w a e.get s.heap.get he hN g4 hs hfx (fun a' w' => ∃ ρ', Ext ρ ρ' x.n x.m ∧ EnvRepF ρ' (x.env e.get) a'.tmps ∧ a'.tmps.size = a.tmps.size ∧ Sat F w0 ρ' (x.heap s.heap.get) w') (fun _ _ _ => False) fun ρ' a' w' q1 q2 q3 q4 q5 => ⟨ρ', q1, q2, q3, q5⟩)
        rw [← g5] at k1
        rw [← g6] at k3
        have hf1 : Fresh ρ1 s1.next s'.next := fun o q1 q2 => by
          cases hx : ρ1 o with
          | none => rfl
          | some lc =>
            rcases e1'.new o lc hx with y | y
            · rw [hf o (by omega) q2] at y; cases y
            · omega
        rw [List.pairwise_cons]
        refine ⟨fun z hz hb => ?_, i7 F w0 ρ1 w1 a1 k1 (by omega) k3 hf1⟩
        obtain ⟨⟨d', j1, j2⟩, j3, j4, j5⟩ := i4 z hz
        have hp1 := hp.1 d' j1
        have hb' : bitOf d'.clo d.i = false := by rw [(hd d' (List.mem_cons_of_mem _ j1)).2, ← j2.i, ← t.i]; exact hb
        rw [hb', Bool.false_or, Bool.and_eq_true] at hp1
        obtain ⟨ha, hk⟩ := hp1
        simp only [tsApart, Bool.and_eq_true] at ha
        have hold : ∀ o, s.next ≤ o → o < s'.next → s.heap.get o = none := fun o q1 q2 => by
          cases ho : s.heap.get o with
          | none => rfl
          | some y =>
            obtain ⟨lc, hl, _⟩ := hs.objs o y ho
            rw [hf o q1 q2] at hl; cases hl
        have hnew : ∀ o, s1.next ≤ o → o < s'.next → s1.heap.get o = none := fun o q1 q2 => by
          cases ho : s1.heap.get o with
          | none => rfl
          | some y =>
            obtain ⟨lc, hl, _⟩ := k3.objs o y ho
            rw [hf1 o q1 q2] at hl; cases hl
        have hwr : ∀ o, s1.next ≤ o → o < s'.next → ∀ h1' h2', x.k = .wr h1' h2' → h1' o = none ∧ h2' o = none := by
          intro o q1 q2 h1' h2' hxk
          have hpre := g4.2
          rw [hxk] at hpre
          constructor
          · cases ho : h1' o with
            | none => rfl
            | some u =>
              have := hpre o u ho
              rw [hold o (by omega) (by omega)] at this; cases this
          · cases ho : h2' o with
            | none => rfl
            | some u =>
              have hn := hnew o (by omega) (by omega)
              rw [g6] at hn
              unfold SD.heap at hn
              rw [hxk] at hn
              simp only [ho] at hn
              cases hh : h1' o <;> rw [hh] at hn <;> cases hn
        refine ⟨fun dd hdd => ?_, fun dd hdd => ?_, ?_⟩
        · have ha1 := ha.1
          rw [← t.dst, hdd] at ha1
          simp only [Bool.and_eq_true, Bool.not_eq_true', beq_eq_false_iff_ne] at ha1
          refine ⟨?_, by rw [j2.dst]; exact ha1.2⟩
          cases hv : z.e.get dd with
          | none => rfl
          | some v =>
            have := j2.ts dd v hv
            rw [← List.contains_iff_mem, ha1.1] at this; cases this
        · have ha2 := ha.2
          rw [← j2.dst, hdd] at ha2
          simp only [Bool.not_eq_true'] at ha2
          cases hv : x.e.get dd with
          | none => rfl
          | some v =>
            have := t.ts dd v hv
            rw [← List.contains_iff_mem, ha2] at this; cases this
        · have hkx := t.k
          have hkz := j2.k
          unfold commK
          cases hxk : x.k with
          | pure => trivial
          | rd o off vs =>
            cases hzk : z.k with
            | pure => trivial
            | rd _ _ _ => trivial
            | alloc y =>
              have hm := j2.m y hzk
              have hpre := g4.2
              rw [hxk] at hpre
              obtain ⟨cs, ro, q1, _⟩ := hpre
              show o ≠ z.n
              rintro rfl
              rw [hold z.n (by omega) (by omega)] at q1; cases q1
            | wr h1' h2' => exact i6 _ (g8 o off vs hxk) z hz h1' h2' hzk (by rw [← t.i]; exact hb)
          | alloc y =>
            rw [hxk] at hkx
            cases hzk : z.k with
            | pure => trivial
            | rd o off vs =>
              obtain ⟨q1, q2⟩ := i8 _ (g11 y hxk) z hz o off vs hzk (by rw [← t.i]; exact hb)
              have hm := t.m y hxk
              show o ≠ x.n
              simp only at q1
              omega
            | alloc y' =>
              have := t.m y hxk
              show x.n ≠ z.n
              omega
            | wr _ _ =>
              rw [hzk] at hkz
              have e1 : d.k = .alloc := hkx
              have e2 : d'.k = .wr := hkz
              rw [e1, e2] at hk
              cases hk
          | wr h1' h2' =>
            rw [hxk] at hkx
            cases hzk : z.k with
            | pure => trivial
            | rd o off vs =>
              obtain ⟨q1, q2⟩ := i8 _ (g12 h1' h2' hxk) z hz o off vs hzk (by rw [← t.i]; exact hb)
              have q3 := j3.1
              simp only at q1
              exact hwr o (by omega) (by omega) h1' h2' hxk
            | wr _ _ =>
              rw [hzk] at hkz
              have e1 : d.k = .wr := hkx
              have e2 : d'.k = .wr := hkz
              rw [e1, e2] at hk
              cases hk
            | alloc y =>
              have hm := j2.m y hzk
              exact hwr z.n (by omega) (by omega) h1' h2' hxk
    · cases h

theorem topo_lt {md : Region.Mode} : ∀ (l done : List Nat), topoGo md ops l done = true → ∀ i ∈ l, i < ops.size
  | [], _, _, _, h => by cases h
  | i :: l, done, ht, j, hj => by
    simp only [topoGo, Bool.and_eq_true] at ht
    rcases List.mem_cons.1 hj with rfl | hj
    · have h1 := ht.1
      split at h1
      · next o ho => simpa using (List.getElem?_eq_some_iff.1 ho).1
      · cases h1
    · exact topo_lt l (i :: done) ht.2 j hj
theorem nodup_of : ∀ {l : List Nat}, nodupB l = true → l.Nodup
  | [], _ => List.nodup_nil
  | i :: l, h => by
    simp only [nodupB, Bool.and_eq_true, Bool.not_eq_true'] at h
    rw [List.nodup_cons]
    refine ⟨fun hm => ?_, nodup_of h.2⟩
    rw [← List.contains_iff_mem, h.1] at hm; cases hm

theorem drawOp_i (N : Nat) (clo : List Nat) (i : Nat) : (drawOp P N ops clo i).i = i ∧ (drawOp P N ops clo i).clo = clo.getD i 0 := by
  unfold drawOp
  split
  · next x hx => cases dstOk N x <;> exact ⟨rfl, rfl⟩
  · exact ⟨rfl, rfl⟩
theorem drawOp_ok (N : Nat) (clo : List Nat) (i : Nat) : DOk P ops N (drawOp P N ops clo i) := by
  have bad : DOk P ops N ⟨i, .wr, clo.getD i 0, none, [], fBad⟩ := ⟨gsound_bad _ _, fun h => (by cases h), fun t ht => (by cases ht)⟩
  unfold drawOp
  split
  · next x hx =>
    have hi : ops[i]? = some x := by rw [← Array.getElem?_toList]; exact hx
    cases hd : dstOk N x with
    | false => exact bad
    | true =>
      refine ⟨trG_sound hi, fun h => rdOk_trG h, fun t ht => ?_⟩
      have ht' : x.dst = some t := ht
      unfold dstOk at hd
      rw [ht'] at hd
      exact Nat.lt_of_succ_le (Nat.le_of_ble_eq_true hd)
  · exact bad

theorem departs_eq (ops : Array Oper) : departsB ops = Region.departs ops := by
  unfold departsB Region.departs
  simp only [← Array.any_toList]

theorem draw_sound : DrawSound P := by
  intro N id ops hok call hcall e s r h
  unfold cDraw at h
  split at h
  · next e' s' hrun =>
    simp only [Option.some.injEq] at h
    subst h
    unfold drawOk at hok
    simp only [Bool.and_eq_true, beq_iff_eq, Bool.or_eq_true, Bool.not_eq_true'] at hok
    obtain ⟨⟨⟨⟨⟨o1, o2⟩, o3⟩, o4⟩, o5⟩, o6⟩ := hok
    have hidx : (drawOps P N ops).map (·.i) = drawOrder P ops := by
      unfold drawOps
      rw [List.map_map]
      conv => rhs; rw [← List.map_id (drawOrder P ops)]
      exact List.map_congr_left fun i _ => (drawOp_i N _ i).1
    have hds : ∀ d ∈ drawOps P N ops, DOk P ops N d ∧ d.clo = (drawClo ops).getD d.i 0 := fun d hd => by
      unfold drawOps at hd
      obtain ⟨i, _, rfl⟩ := List.mem_map.1 hd
      exact ⟨drawOp_ok N _ i, by rw [(drawOp_i N _ i).2, (drawOp_i N _ i).1]⟩
    obtain ⟨L, i1, i2, i3, i4, i5, i6, _, i7⟩ := draw_run (N := N) (clo := drawClo ops) hcall (drawOps P N ops) e s [] [] e' s' hrun hds o4
    refine ⟨i2, fun F w0 ρ w a he hsz hs hfr Q hQ => wp_region_draw fun t => ?_⟩
    have hpw := i7 F w0 ρ w a he hsz hs hfr
    rw [hidx] at i1
    have hlen : L.length = ops.size := by
      rw [← List.length_map (f := (·.i)), i1, ← hidx, List.length_map, o2]; simp
    have key : ∀ (md : Region.Mode) (ord : List Nat) (t : Nat), modeOk md ops ord = true → wpOps P ops Q (Region.linearise md ops t) a { w with drawn := w.drawn + 1 } := by
      intro md ord t hm
      refine wpAny_sound ops.size t _ a _ ?_
      refine any_sound (N := N) (lo := s.next) (hi := s'.next) (sz := a.tmps.size) (df := a.defers) o3 hm (F := F) (w0 := w0) (ρ0 := ρ) (envF := e'.get) (hF := s'.heap.get) (fun ρ' a' w' q1 q2 q3 q4 q5 => hQ ρ' a' w' q1 q2 q3 q4 q5) ops.size L _ e.get s.heap.get ρ a _ hlen (by simp) (by rw [i1]; exact nodup_of o1) (fun i hi => ?_) (fun x hx => ?_) (fun i j hi => ?_) hpw (fun x hx => (i4 x hx).2) i5 (fun x hx o q1 q2 => ?_) (Ext.refl _ _ _) i3 he hsz rfl rfl (hs.drawn _)
      · rw [i1]
        have o5' := o5
        simp only [modeOk, Bool.and_eq_true, allIn, List.all_eq_true, List.mem_range, List.contains_iff_mem] at o5'
        constructor
        · intro _; exact o5'.1 i (by simpa using hi)
        · intro _; simp [hi]
      · have o5' := o5
        simp only [modeOk, Bool.and_eq_true] at o5'
        refine topo_lt _ _ o5'.2 x.i ?_
        rw [← i1]; exact List.mem_map.2 ⟨x, hx, rfl⟩
      · by_cases hlt : i < ops.size
        · simp [hlt] at hi
        · simp [hlt] at hi
      · obtain ⟨_, _, q3, q4⟩ := i4 x hx
        exact hfr o (by omega) (by show o < s'.next; omega)
    unfold Region.schedule
    split
    · exact key _ _ _ o5
    · next hm =>
      have hdep : departsB ops = true := by
        rw [departs_eq]
        cases hq : Region.departs ops with
        | true => rfl
        | false => rw [hq] at hm; simp at hm
      rcases o6 with o6 | o6
      · rw [hdep] at o6; cases o6
      · split
        · exact key _ _ _ o6.1
        · exact key _ _ _ o6.2
  · cases h

theorem trFn_ok {f : FuncId} {G : Func} {F : FFn} (hG : P.funcs[f]? = some G) (hF : trFn P G = some F) : FnSound P f F := trFn_sound draw_sound hG hF
end
end Go.Am
namespace Go.Am
set_option linter.unusedVariables false

noncomputable def insK (x : AV) (l : List AV) : List AV :=
  List.rec (motive := fun _ => List AV) [x] (fun y ys ih => match x, y with
    | .str a, .str b => bif sLt a b then x :: y :: ys else y :: ih
    | _, _ => y :: ih) l
noncomputable def sortK (l : List AV) : List AV := List.rec (motive := fun _ => List AV) [] (fun x _ ih => insK x ih) l
noncomputable def keysOf (l : List (AV × AV)) : List AV := List.rec (motive := fun _ => List AV) [] (fun p _ ih => p.1 :: ih) l
noncomputable def allStr (l : List (AV × AV)) : Bool := List.rec (motive := fun _ => Bool) true (fun p _ ih => match p.1 with
  | .str _ => ih
  | _ => false) l
/-- What follows behind the call: the keys that were collected, sorted, in a block of their own. -/
noncomputable def finishF : FC := fun _ e s => match e.get 3, e.get 4 with
  | some (.map o), some .nilSlice => match s.heap.get o with
    | some (.map es) => bif Nat.ble (lenL es) 1000 then bif allStr es then match sortK (keysOf es) with
        | [] => some (.ret (Tr.put (some .nilSlice) .leaf 2) s)
        | k :: ks => match s.new (.cells (k :: ks) false) with
          | (o', s') => some (.ret (Tr.put (some (.slice o' 0 (lenL (k :: ks)) (.full 1))) .leaf 2) s') else none else none
    | _ => none
  | _, _ => none
end Go.Am
namespace Go.Am
set_option linter.unusedVariables false
set_option linter.unusedSimpArgs false
set_option linter.unusedSectionVars false

/-! ### Objects under other names -/
mutual
def ren (r : Nat → Nat) : AV → AV
  | .ptr o off => .ptr (r o) off
  | .slice o off len cap => .slice (r o) off len cap
  | .map o => .map (r o)
  | .func f caps => .func f (renL r caps)
  | .agg cs => .agg (renL r cs)
  | .tuple cs => .tuple (renL r cs)
  | .bool b => .bool b
  | .int k n => .int k n
  | .str s => .str s
  | .nilPtr => .nilPtr
  | .nilSlice => .nilSlice
  | .nilMap => .nilMap
  | .nilFunc => .nilFunc
  | .emptySl => .emptySl
  | .res k m r => .res k m r
def renL (r : Nat → Nat) : List AV → List AV
  | [] => []
  | a :: l => ren r a :: renL r l
end
def renE (r : Nat → Nat) : List (AV × AV) → List (AV × AV)
  | [] => []
  | p :: l => (ren r p.1, ren r p.2) :: renE r l
def renO (r : Nat → Nat) : AObj → AObj
  | .cells cs ro => .cells (renL r cs) ro
  | .map es => .map (renE r es)

section
variable {ρ ρ2 : Rho} {r r2 : Nat → Nat} (hr : ∀ i l, ρ (r i) = some l → ρ2 (r2 i) = some l)
include hr
mutual
theorem Rep.ren : ∀ (a : AV) (v : Value), Rep ρ (ren r a) v → Rep ρ2 (Go.Am.ren r2 a) v
  | .ptr o off, v, h => by
    simp only [Go.Am.ren, Rep] at h ⊢
    obtain ⟨l, h1, h2⟩ := h
    exact ⟨l, hr _ _ h1, h2⟩
  | .slice o off len cap, v, h => by
    simp only [Go.Am.ren, Rep] at h ⊢
    obtain ⟨l, c, h1, h2⟩ := h
    exact ⟨l, c, hr _ _ h1, h2⟩
  | .map o, v, h => by
    simp only [Go.Am.ren, Rep] at h ⊢
    obtain ⟨l, h1, h2⟩ := h
    exact ⟨l, hr _ _ h1, h2⟩
  | .func f caps, v, h => by
    simp only [Go.Am.ren, Rep] at h ⊢
    obtain ⟨cv, h1, h2⟩ := h
    exact ⟨cv, h1, RepL.ren caps cv h2⟩
  | .agg cs, v, h => by
    simp only [Go.Am.ren, Rep] at h ⊢
    obtain ⟨cv, h1, h2⟩ := h
    exact ⟨cv, h1, RepL.ren cs cv h2⟩
  | .tuple cs, v, h => by
    simp only [Go.Am.ren, Rep] at h ⊢
    obtain ⟨cv, h1, h2⟩ := h
    exact ⟨cv, h1, RepL.ren cs cv h2⟩
  | .bool b, v, h => by simpa only [Go.Am.ren, Rep] using h
  | .int k n, v, h => by simpa only [Go.Am.ren, Rep] using h
  | .str s, v, h => by simpa only [Go.Am.ren, Rep] using h
  | .nilPtr, v, h => by simpa only [Go.Am.ren, Rep] using h
  | .nilSlice, v, h => by simpa only [Go.Am.ren, Rep] using h
  | .nilMap, v, h => by simpa only [Go.Am.ren, Rep] using h
  | .nilFunc, v, h => by simpa only [Go.Am.ren, Rep] using h
  | .emptySl, v, h => by simpa only [Go.Am.ren, Rep] using h
  | .res _ _ _, v, h => by simpa only [Go.Am.ren, Rep] using h
theorem RepL.ren : ∀ (a : List AV) (v : List Value), RepL ρ (renL r a) v → RepL ρ2 (renL r2 a) v
  | [], v, h => by simpa only [renL, RepL] using h
  | a :: l, v, h => by
    simp only [renL, RepL] at h ⊢
    obtain ⟨x, y, h1, h2, h3⟩ := h
    exact ⟨x, y, h1, Rep.ren a x h2, RepL.ren l y h3⟩
end
theorem RepEs.ren : ∀ {es : List (AV × AV)} {ms : List MapEntry}, RepEs ρ (renE r es) ms → RepEs ρ2 (renE r2 es) ms
  | [], ms, h => h
  | p :: es, ms, h => by
    obtain ⟨e, y, h1, h2, h3, h4⟩ := h
    exact ⟨e, y, h1, Rep.ren hr _ _ h2, Rep.ren hr _ _ h3, RepEs.ren h4⟩
theorem renL_get {r : Nat → Nat} : ∀ (cs : List AV) (i : Nat), (renL r cs)[i]? = cs[i]?.map (Go.Am.ren r)
  | [], i => by simp [renL]
  | c :: cs, 0 => by simp [renL]
  | c :: cs, i + 1 => by simp only [renL, List.getElem?_cons_succ]; exact renL_get cs i
theorem renL_length {r : Nat → Nat} : ∀ (cs : List AV), (renL r cs).length = cs.length
  | [] => rfl
  | c :: cs => by simp [renL, renL_length cs]
theorem ObjRep.ren {l : Loc} {x : Option Obj} : ∀ {y : AObj}, ObjRep ρ l x (renO r y) → ObjRep ρ2 l x (renO r2 y)
  | .cells cs true, h => by
    obtain ⟨c, t, fr, h1, h2⟩ := h
    refine ⟨c, t, fr, h1, fun i a ha => ?_⟩
    rw [renL_get hr, Option.map_eq_some_iff] at ha
    obtain ⟨z, hz, rfl⟩ := ha
    obtain ⟨v, h3, h4⟩ := h2 i (Go.Am.ren r z) (by rw [renL_get hr, hz]; rfl)
    exact ⟨v, h3, Rep.ren hr _ _ h4⟩
  | .cells cs false, h => by
    obtain ⟨hb, c, t, fr, h1, h5, h6, h2, h7⟩ := h
    refine ⟨hb, c, t, fr, h1, h5, by rw [renL_length hr] at h6 ⊢; exact h6, fun i a ha => ?_, h7⟩
    rw [renL_get hr, Option.map_eq_some_iff] at ha
    obtain ⟨z, hz, rfl⟩ := ha
    obtain ⟨v, h3, h4⟩ := h2 i (Go.Am.ren r z) (by rw [renL_get hr, hz]; rfl)
    exact ⟨v, h3, Rep.ren hr _ _ h4⟩
  | .map ps, h => by
    obtain ⟨es, cl, h1, h2, h3⟩ := h
    exact ⟨es, cl, h1, RepEs.ren hr h2, h3⟩
end

/-! ### The summary -/
noncomputable def pairSame (a b : AV × AV) : Bool := bif valSame a.1 b.1 then valSame a.2 b.2 else false
noncomputable def pairsSame (a : List (AV × AV)) : List (AV × AV) → Bool :=
  List.rec (motive := fun _ => List (AV × AV) → Bool) (fun y => List.rec (motive := fun _ => Bool) true (fun _ _ _ => false) y)
    (fun a _ ih y => List.rec (motive := fun _ => Bool) false (fun b y _ => Bool.rec (motive := fun _ => Bool) false (ih y) (pairSame a b)) y) a
theorem pairsSame_eq : ∀ {x y : List (AV × AV)}, pairsSame x y = true → x = y
  | [], [], _ => rfl
  | [], _ :: _, h => by cases h
  | _ :: _, [], h => by cases h
  | a :: x, b :: y, h => by
    have h1 : pairsSame (a :: x) (b :: y) = Bool.rec (motive := fun _ => Bool) false (pairsSame x y) (pairSame a b) := rfl
    rw [h1] at h
    cases h2 : pairSame a b with
    | false => rw [h2] at h; cases h
    | true =>
      rw [h2] at h
      unfold pairSame at h2
      cases h3 : valSame a.1 b.1 with
      | false => rw [h3] at h2; cases h2
      | true =>
        rw [h3, cond_true] at h2
        rw [pairsSame_eq h, Prod.ext (valSame_eq h3) (valSame_eq h2)]
noncomputable def objSame : AObj → AObj → Bool
  | .cells cs ro, .cells cs' ro' => bif bBeq ro ro' then allSame valSame cs cs' else false
  | .map es, .map es' => pairsSame es es'
  | _, _ => false
theorem objSame_eq {x y : AObj} (h : objSame x y = true) : x = y := by
  unfold objSame at h
  split at h
  · next cs ro cs' ro' =>
    cases h1 : bBeq ro ro' with
    | false => rw [h1] at h; cases h
    | true => rw [h1, cond_true] at h; rw [bBeq_true h1, allSame_eq (fun a b => valSame_eq) h]
  · rw [pairsSame_eq h]
  · cases h
noncomputable def at0 (ids : List Nat) (i : Nat) : Nat := match nth ids i with
  | some x => x
  | none => 0
/-- Are these the objects of those names? -/
noncomputable def objsOk (ids : List Nat) (h : Tr AObj) (l : List Nat) : List AObj → Bool :=
  List.rec (motive := fun _ => List AObj → Bool) (fun y => List.rec (motive := fun _ => Bool) true (fun _ _ _ => false) y)
    (fun i _ ih y => List.rec (motive := fun _ => Bool) false (fun x y _ => match h.get i with
      | some z => bif objSame z (renO (at0 ids) x) then ih y else false
      | none => false) y) l
theorem objsOk_get {ids : List Nat} {h : Tr AObj} : ∀ {l : List Nat} {os : List AObj}, objsOk ids h l os = true → l.length = os.length ∧ ∀ (k : Nat) x, os[k]? = some x → ∃ i, l[k]? = some i ∧ h.get i = some (renO (at0 ids) x)
  | [], [], _ => ⟨rfl, fun k x hx => by simp at hx⟩
  | [], _ :: _, hh => by cases hh
  | _ :: _, [], hh => by cases hh
  | i :: l, x :: os, hh => by
    have h1 : objsOk ids h (i :: l) (x :: os) = match h.get i with
      | some z => bif objSame z (renO (at0 ids) x) then objsOk ids h l os else false
      | none => false := rfl
    rw [h1] at hh
    split at hh
    · next z hz =>
      cases h2 : objSame z (renO (at0 ids) x) with
      | false => rw [h2] at hh; cases hh
      | true =>
        rw [h2, cond_true] at hh
        obtain ⟨g1, g2⟩ := objsOk_get hh
        refine ⟨by simp [g1], fun k y hy => ?_⟩
        cases k with
        | zero =>
          simp only [List.getElem?_cons_zero, Option.some.injEq] at hy
          subst hy
          exact ⟨i, rfl, by rw [hz, objSame_eq h2]⟩
        | succ k => exact g2 k y hy
    · cases hh
noncomputable def allRw (os : List AObj) : Bool := List.rec (motive := fun _ => Bool) true (fun x _ ih => Bool.rec (motive := fun _ => Bool) ih false x.ro) os
theorem allRw_mem : ∀ {os : List AObj}, allRw os = true → ∀ x ∈ os, x.ro = false
  | [], _, x, hx => by cases hx
  | y :: os, h, x, hx => by
    have h1 : allRw (y :: os) = Bool.rec (motive := fun _ => Bool) (allRw os) false y.ro := rfl
    rw [h1] at h
    cases h2 : y.ro with
    | true => rw [h2] at h; cases h
    | false =>
      rw [h2] at h
      rcases List.mem_cons.1 hx with rfl | hx
      · exact h2
      · exact allRw_mem h x hx
/-- What a run's answer must be. -/
noncomputable def sumChk (v : AV) (os : List AObj) (ids : List Nat) : Option (AV × St) → Bool
  | some (u, s) => bif valSame u (ren (at0 ids) v) then bif objsOk ids s.heap ids os then bif allRw os then nodupB ids else false else false else false
  | none => false
noncomputable def addO (os : List AObj) (b : Nat) : Nat → Tr AObj → Tr AObj :=
  List.rec (motive := fun _ => Nat → Tr AObj → Tr AObj) (fun _ t => t) (fun x _ ih i t => ih (Nat.succ i) (t.put (some (renO (fun k => b + k) x)) i)) os
theorem addO_get (b : Nat) : ∀ (os : List AObj) (i : Nat) (t : Tr AObj) (j : Nat), (addO os b i t).get j = if i ≤ j ∧ j < i + os.length then os[j - i]?.map (renO fun k => b + k) else t.get j
  | [], i, t, j => by
    simp only [List.length_nil, Nat.add_zero]
    rw [if_neg (by omega)]; rfl
  | x :: os, i, t, j => by
    have h1 : addO (x :: os) b i t = addO os b (i + 1) (t.put (some (renO (fun k => b + k) x)) i) := rfl
    rw [h1, addO_get b os, Tr.get_put]
    simp only [List.length_cons]
    by_cases c1 : i + 1 ≤ j ∧ j < i + 1 + os.length
    · rw [if_pos c1, if_pos (by omega)]
      have : j - i = (j - (i + 1)) + 1 := by omega
      rw [this, List.getElem?_cons_succ]
    · rw [if_neg c1]
      by_cases c2 : j = i
      · subst c2
        rw [if_pos rfl, if_pos (by omega)]
        simp
      · rw [if_neg c2, if_neg (by omega)]
noncomputable def sumF (v : AV) (os : List AObj) : FFn := ⟨[.tmp 0], fun _ e s => match e with
  | .leaf => some (.ret (Tr.put (some (ren (fun k => s.next + k) v)) .leaf 0) ⟨addO os s.next s.next s.heap, s.next + lenL os⟩)
  | _ => none⟩

theorem Sat.blank (w : World) : Sat (Fr.all w) w (fun _ => none) (fun _ => none) w where
  objs p x hx := by cases hx
  inj p p' x x' l l' a := by cases a
  low o l h := by cases h
  keep b hb := ⟨hb, rfl⟩
  off p x l a := by cases a
  plow b hb := hb.elim
  priv o x l a hl hb := hb
  os := rfl
  tape := rfl
  output := rfl
  size := Nat.le_refl _

theorem renO_ro (r : Nat → Nat) (x : AObj) : (renO r x).ro = x.ro := by cases x <;> rfl

section
variable {P : Program}
theorem sum_sound {tab : Tr FFn} (hT : TabOk P tab) {n f : Nat} {v : AV} {os : List AObj} {ids : List Nat} (h : sumChk v os ids (evF tab n f [] ⟨.leaf, 1⟩) = true) : FnSound P f (sumF v os) := by
  intro call _ vs s u s1 hrun
  unfold sumChk at h
  split at h
  · next u0 s0 hev =>
    cases k1 : valSame u0 (ren (at0 ids) v) with
    | false => rw [k1] at h; cases h
    | true =>
    rw [k1, cond_true] at h
    cases k2 : objsOk ids s0.heap ids os with
    | false => rw [k2] at h; cases h
    | true =>
    rw [k2, cond_true] at h
    cases k3 : allRw os with
    | false => rw [k3] at h; cases h
    | true =>
    rw [k3, cond_true] at h
    have hu := valSame_eq k1
    obtain ⟨o1, o2⟩ := objsOk_get k2
    have hro := allRw_mem k3
    have hnd := nodup_of h
    obtain ⟨g1, g2, g3⟩ := evF_ok hT n f [] ⟨.leaf, 1⟩ u0 s0 hev
    have hvs : vs = [] ∧ u = ren (fun k => s.next + k) v ∧ s1 = ⟨addO os s.next s.next s.heap, s.next + os.length⟩ := by
      cases vs with
      | nil =>
        have e1 : runF (some (sumF v os)) call [] s = some (ren (fun k => s.next + k) v, ⟨addO os s.next s.next s.heap, s.next + lenL os⟩) := by
          simp only [runF, sumF, finF, argsEnv, evRes_cons, resOf, Tr.get_put, if_pos, evRes_nil, consO, pack]
        rw [e1] at hrun
        simp only [Option.some.injEq, Prod.mk.injEq] at hrun
        rw [lenL_eq] at hrun
        exact ⟨rfl, hrun.1.symm, hrun.2.symm⟩
      | cons a l =>
        exfalso
        have hg : (argsEnv (a :: l) 0 .leaf).get 0 = some a := by rw [args_get]; simp
        simp only [runF, sumF] at hrun
        generalize argsEnv (a :: l) 0 .leaf = e at hg hrun
        cases e with
        | leaf => cases hg
        | node x y z => simp [finF] at hrun
    obtain ⟨rfl, rfl, rfl⟩ := hvs
    refine ⟨by simp, g2, fun W w0 ρ w cvs hcv hs hfr => ?_⟩
    have hc := g3 (Fr.all w) w (fun _ => none) w cvs hcv (Sat.blank w) (fun o _ _ => rfl)
    refine hc.mono fun e w' ⟨ρ', cv, q1, q2, q3, q4⟩ => ?_
    subst q1
    simp only at hfr
    let ρ2 : Rho := fun o => if s.next ≤ o ∧ o < s.next + os.length then ρ' (at0 ids (o - s.next)) else ρ o
    have z0 : ρ' 0 = none := by
      cases hz : ρ' 0 with
      | none => rfl
      | some l =>
        rcases q2.new 0 l hz with y | y
        · cases y
        · simp at y
    have hren : ∀ i l, ρ' (at0 ids i) = some l → ρ2 (s.next + i) = some l := by
      intro i l hl
      by_cases hi : i < os.length
      · show (if _ then _ else _) = _
        rw [if_pos (by omega)]
        have : s.next + i - s.next = i := by omega
        rw [this]; exact hl
      · have : at0 ids i = 0 := by
          unfold at0
          rw [nth_eq, List.getElem?_eq_none (by omega)]
        rw [this, z0] at hl; cases hl
    have hsub : Sub ρ ρ2 := fun o l hl => by
      show (if _ then _ else _) = _
      by_cases c : s.next ≤ o ∧ o < s.next + os.length
      · rw [hfr o c.1 c.2] at hl; cases hl
      · rw [if_neg c]; exact hl
    have hget : ∀ o x, (addO os s.next s.next s.heap).get o = some x → (s.heap.get o = some x ∧ ρ2 o = ρ o) ∨ ∃ i y, o = s.next + i ∧ os[i]? = some y ∧ x = renO (fun k => s.next + k) y ∧ ∃ j, ids[i]? = some j ∧ s0.heap.get j = some (renO (at0 ids) y) ∧ ρ2 o = ρ' j := by
      intro o x hx
      rw [addO_get] at hx
      by_cases c : s.next ≤ o ∧ o < s.next + os.length
      · rw [if_pos c, Option.map_eq_some_iff] at hx
        obtain ⟨y, hy, rfl⟩ := hx
        obtain ⟨j, hj, hj2⟩ := o2 _ y hy
        refine .inr ⟨o - s.next, y, by omega, hy, rfl, j, hj, hj2, ?_⟩
        show (if _ then _ else _) = _
        rw [if_pos c]
        unfold at0
        rw [nth_eq, hj]
      · rw [if_neg c] at hx
        exact .inl ⟨hx, if_neg c⟩
    have hnew : ∀ j x l, s0.heap.get j = some x → x.ro = false → ρ' j = some l → w.heap.size ≤ l.b := by
      intro j x l h1 h2 h3
      rcases Nat.lt_or_ge l.b w.heap.size with z | z
      · exact absurd z (q4.off j x l h1 h2 h3)
      · exact z
    refine ⟨ρ2, cv, rfl, ⟨hsub, fun o l hl => ?_⟩, ?_, ?_⟩
    · by_cases c : s.next ≤ o ∧ o < s.next + os.length
      · exact .inr c
      · have : ρ2 o = ρ o := if_neg c
        rw [this] at hl; exact .inl hl
    · rw [hu] at q3
      exact Rep.ren hren v cv q3
    · refine ⟨?_, ?_, ?_, ?_, ?_, ?_, ?_, q4.os.trans hs.os, q4.tape.trans hs.tape, q4.output.trans hs.output, Nat.le_trans hs.size q4.size⟩
      · intro o x hx
        rcases hget o x hx with ⟨h1, h2⟩ | ⟨i, y, rfl, h1, rfl, j, h2, h3, h4⟩
        · obtain ⟨l, h3, h4⟩ := hs.objs o x h1
          refine ⟨l, by rw [h2]; exact h3, ?_⟩
          rw [(q4.keep l.b (hs.low o l h3)).2]
          exact h4.mono hsub
        · obtain ⟨l, h5, h6⟩ := q4.objs j _ h3
          exact ⟨l, by rw [h4]; exact h5, ObjRep.ren hren h6⟩
      · intro o o' x x' l l' a b hne hl hl' hb
        rcases hget o x a with ⟨h1, h2⟩ | ⟨i, y, rfl, h1, rfl, j, h2, h3, h4⟩ <;> rcases hget o' x' b with ⟨h1', h2'⟩ | ⟨i', y', rfl, h1', rfl, j', h2', h3', h4'⟩
        · rw [h2] at hl; rw [h2'] at hl'
          exact hs.inj o o' x x' l l' h1 h1' hne hl hl' hb
        · exfalso
          rw [h2] at hl; rw [h4'] at hl'
          have e1 := hs.low o l hl
          have e2 := hnew j' _ l' h3' (by rw [renO_ro]; exact hro y' (List.mem_of_getElem? h1')) hl'
          omega
        · exfalso
          rw [h4] at hl; rw [h2'] at hl'
          have e1 := hs.low o' l' hl'
          have e2 := hnew j _ l h3 (by rw [renO_ro]; exact hro y (List.mem_of_getElem? h1)) hl
          omega
        · rw [h4] at hl; rw [h4'] at hl'
          have hjj : j ≠ j' := by
            rintro rfl
            have hi : i = i' := by
              have l1 : i < ids.length := (List.getElem?_eq_some_iff.1 h2).1
              have l2 : i' < ids.length := (List.getElem?_eq_some_iff.1 h2').1
              exact (List.getElem?_inj l1 hnd).1 (h2.trans h2'.symm)
            exact hne (by rw [hi])
          have := q4.inj j j' _ _ l l' h3 h3' hjj hl hl' hb
          simpa only [renO_ro] using this
      · intro o l hl
        by_cases c : s.next ≤ o ∧ o < s.next + os.length
        · have : ρ2 o = ρ' (at0 ids (o - s.next)) := if_pos c
          rw [this] at hl
          exact q4.low _ l hl
        · have : ρ2 o = ρ o := if_neg c
          rw [this] at hl
          exact Nat.lt_of_lt_of_le (hs.low o l hl) q4.size
      · intro b hb
        obtain ⟨h1, h2⟩ := hs.keep b hb
        obtain ⟨h3, h4⟩ := q4.keep b h1
        exact ⟨h3, h4.trans h2⟩
      · intro o x l a hr hl hb
        rcases hget o x a with ⟨h1, h2⟩ | ⟨i, y, rfl, h1, rfl, j, h2, h3, h4⟩
        · rw [h2] at hl; exact hs.off o x l h1 hr hl hb
        · rw [h4] at hl
          have e2 := hnew j _ l h3 (by rw [renO_ro] at hr ⊢; exact hr) hl
          have := (hs.keep _ hb).1
          omega
      · intro b hb
        exact Nat.lt_of_lt_of_le (hs.plow b hb) q4.size
      · intro o x l a hl hb
        rcases hget o x a with ⟨h1, h2⟩ | ⟨i, y, rfl, h1, rfl, j, h2, h3, h4⟩
        · rw [h2] at hl; exact hs.priv o x l h1 hl hb
        · rw [h4] at hl
          have e2 := hnew j _ l h3 (by rw [renO_ro]; exact hro y (List.mem_of_getElem? h1)) hl
          have := hs.plow _ hb
          omega
  · cases h
end
end Go.Am

namespace Go.Am
section
variable {P : Program}
/-! ### Tables -/
theorem tabOk_leaf : TabOk P (.leaf : Tr FFn) := fun f F h => by cases h
theorem tabOk_put {t : Tr FFn} {f : FuncId} {F : FFn} (h : FnSound P f F) (ht : TabOk P t) : TabOk P (t.put (some F) f) := fun g G hg => by
  rw [Tr.get_put] at hg
  by_cases e : g = f
  · subst e
    rw [if_pos rfl] at hg
    injection hg with hg
    subst hg
    exact h
  · rw [if_neg e] at hg
    exact ht g G hg
end
end Go.Am
