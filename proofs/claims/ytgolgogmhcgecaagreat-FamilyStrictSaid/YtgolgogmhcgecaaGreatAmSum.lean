/- A function without arguments, run once: what it answers, and the objects that it makes, moved to wherever they are wanted. -/
import Derived.Test.YtgolgogmhcgecaaGreatAmNames
namespace Go.Am
set_option linter.unusedVariables false
set_option linter.unusedSimpArgs false
set_option linter.unusedSectionVars false

/-! ### Objects under other names -/
mutual
def ren (r : Nat → Nat) : AV → AV
  | .ptr o off => .ptr (r o) off
  | .slice o off len cap => .slice (r o) off len cap
  | .map o => .map (r o)
  | .func f caps => .func f (renL r caps)
  | .agg cs => .agg (renL r cs)
  | .tuple cs => .tuple (renL r cs)
  | .bool b => .bool b
  | .int k n => .int k n
  | .str s => .str s
  | .nilPtr => .nilPtr
  | .nilSlice => .nilSlice
  | .nilMap => .nilMap
  | .nilFunc => .nilFunc
  | .emptySl => .emptySl
  | .res k m r => .res k m r
def renL (r : Nat → Nat) : List AV → List AV
  | [] => []
  | a :: l => ren r a :: renL r l
end
def renE (r : Nat → Nat) : List (AV × AV) → List (AV × AV)
  | [] => []
  | p :: l => (ren r p.1, ren r p.2) :: renE r l
def renO (r : Nat → Nat) : AObj → AObj
  | .cells cs ro => .cells (renL r cs) ro
  | .map es => .map (renE r es)

section
variable {ρ ρ2 : Rho} {r r2 : Nat → Nat} (hr : ∀ i l, ρ (r i) = some l → ρ2 (r2 i) = some l)
include hr
mutual
theorem Rep.ren : ∀ (a : AV) (v : Value), Rep ρ (ren r a) v → Rep ρ2 (Go.Am.ren r2 a) v
  | .ptr o off, v, h => by
    simp only [Go.Am.ren, Rep] at h ⊢
    obtain ⟨l, h1, h2⟩ := h
    exact ⟨l, hr _ _ h1, h2⟩
  | .slice o off len cap, v, h => by
    simp only [Go.Am.ren, Rep] at h ⊢
    obtain ⟨l, c, h1, h2⟩ := h
    exact ⟨l, c, hr _ _ h1, h2⟩
  | .map o, v, h => by
    simp only [Go.Am.ren, Rep] at h ⊢
    obtain ⟨l, h1, h2⟩ := h
    exact ⟨l, hr _ _ h1, h2⟩
  | .func f caps, v, h => by
    simp only [Go.Am.ren, Rep] at h ⊢
    obtain ⟨cv, h1, h2⟩ := h
    exact ⟨cv, h1, RepL.ren caps cv h2⟩
  | .agg cs, v, h => by
    simp only [Go.Am.ren, Rep] at h ⊢
    obtain ⟨cv, h1, h2⟩ := h
    exact ⟨cv, h1, RepL.ren cs cv h2⟩
  | .tuple cs, v, h => by
    simp only [Go.Am.ren, Rep] at h ⊢
    obtain ⟨cv, h1, h2⟩ := h
    exact ⟨cv, h1, RepL.ren cs cv h2⟩
  | .bool b, v, h => by simpa only [Go.Am.ren, Rep] using h
  | .int k n, v, h => by simpa only [Go.Am.ren, Rep] using h
  | .str s, v, h => by simpa only [Go.Am.ren, Rep] using h
  | .nilPtr, v, h => by simpa only [Go.Am.ren, Rep] using h
  | .nilSlice, v, h => by simpa only [Go.Am.ren, Rep] using h
  | .nilMap, v, h => by simpa only [Go.Am.ren, Rep] using h
  | .nilFunc, v, h => by simpa only [Go.Am.ren, Rep] using h
  | .emptySl, v, h => by simpa only [Go.Am.ren, Rep] using h
  | .res _ _ _, v, h => by simpa only [Go.Am.ren, Rep] using h
theorem RepL.ren : ∀ (a : List AV) (v : List Value), RepL ρ (renL r a) v → RepL ρ2 (renL r2 a) v
  | [], v, h => by simpa only [renL, RepL] using h
  | a :: l, v, h => by
    simp only [renL, RepL] at h ⊢
    obtain ⟨x, y, h1, h2, h3⟩ := h
    exact ⟨x, y, h1, Rep.ren a x h2, RepL.ren l y h3⟩
end
theorem RepEs.ren : ∀ {es : List (AV × AV)} {ms : List MapEntry}, RepEs ρ (renE r es) ms → RepEs ρ2 (renE r2 es) ms
  | [], ms, h => h
  | p :: es, ms, h => by
    obtain ⟨e, y, h1, h2, h3, h4⟩ := h
    exact ⟨e, y, h1, Rep.ren hr _ _ h2, Rep.ren hr _ _ h3, RepEs.ren h4⟩
theorem renL_get {r : Nat → Nat} : ∀ (cs : List AV) (i : Nat), (renL r cs)[i]? = cs[i]?.map (Go.Am.ren r)
  | [], i => by simp [renL]
  | c :: cs, 0 => by simp [renL]
  | c :: cs, i + 1 => by simp only [renL, List.getElem?_cons_succ]; exact renL_get cs i
theorem renL_length {r : Nat → Nat} : ∀ (cs : List AV), (renL r cs).length = cs.length
  | [] => rfl
  | c :: cs => by simp [renL, renL_length cs]
theorem ObjRep.ren {l : Loc} {x : Option Obj} : ∀ {y : AObj}, ObjRep ρ l x (renO r y) → ObjRep ρ2 l x (renO r2 y)
  | .cells cs true, h => by
    obtain ⟨c, t, fr, h1, h2⟩ := h
    refine ⟨c, t, fr, h1, fun i a ha => ?_⟩
    rw [renL_get hr, Option.map_eq_some_iff] at ha
    obtain ⟨z, hz, rfl⟩ := ha
    obtain ⟨v, h3, h4⟩ := h2 i (Go.Am.ren r z) (by rw [renL_get hr, hz]; rfl)
    exact ⟨v, h3, Rep.ren hr _ _ h4⟩
  | .cells cs false, h => by
    obtain ⟨hb, c, t, fr, h1, h5, h6, h2, h7⟩ := h
    refine ⟨hb, c, t, fr, h1, h5, by rw [renL_length hr] at h6 ⊢; exact h6, fun i a ha => ?_, h7⟩
    rw [renL_get hr, Option.map_eq_some_iff] at ha
    obtain ⟨z, hz, rfl⟩ := ha
    obtain ⟨v, h3, h4⟩ := h2 i (Go.Am.ren r z) (by rw [renL_get hr, hz]; rfl)
    exact ⟨v, h3, Rep.ren hr _ _ h4⟩
  | .map ps, h => by
    obtain ⟨es, cl, h1, h2, h3⟩ := h
    exact ⟨es, cl, h1, RepEs.ren hr h2, h3⟩
end

/-! ### The summary -/
noncomputable def pairSame (a b : AV × AV) : Bool := bif valSame a.1 b.1 then valSame a.2 b.2 else false
noncomputable def pairsSame (a : List (AV × AV)) : List (AV × AV) → Bool :=
  List.rec (motive := fun _ => List (AV × AV) → Bool) (fun y => List.rec (motive := fun _ => Bool) true (fun _ _ _ => false) y)
    (fun a _ ih y => List.rec (motive := fun _ => Bool) false (fun b y _ => Bool.rec (motive := fun _ => Bool) false (ih y) (pairSame a b)) y) a
theorem pairsSame_eq : ∀ {x y : List (AV × AV)}, pairsSame x y = true → x = y
  | [], [], _ => rfl
  | [], _ :: _, h => by cases h
  | _ :: _, [], h => by cases h
  | a :: x, b :: y, h => by
    have h1 : pairsSame (a :: x) (b :: y) = Bool.rec (motive := fun _ => Bool) false (pairsSame x y) (pairSame a b) := rfl
    rw [h1] at h
    cases h2 : pairSame a b with
    | false => rw [h2] at h; cases h
    | true =>
      rw [h2] at h
      unfold pairSame at h2
      cases h3 : valSame a.1 b.1 with
      | false => rw [h3] at h2; cases h2
      | true =>
        rw [h3, cond_true] at h2
        rw [pairsSame_eq h, Prod.ext (valSame_eq h3) (valSame_eq h2)]
noncomputable def objSame : AObj → AObj → Bool
  | .cells cs ro, .cells cs' ro' => bif bBeq ro ro' then allSame valSame cs cs' else false
  | .map es, .map es' => pairsSame es es'
  | _, _ => false
theorem objSame_eq {x y : AObj} (h : objSame x y = true) : x = y := by
  unfold objSame at h
  split at h
  · next cs ro cs' ro' =>
    cases h1 : bBeq ro ro' with
    | false => rw [h1] at h; cases h
    | true => rw [h1, cond_true] at h; rw [bBeq_true h1, allSame_eq (fun a b => valSame_eq) h]
  · rw [pairsSame_eq h]
  · cases h
noncomputable def at0 (ids : List Nat) (i : Nat) : Nat := match nth ids i with
  | some x => x
  | none => 0
/-- Are these the objects of those names? -/
noncomputable def objsOk (ids : List Nat) (h : Tr AObj) (l : List Nat) : List AObj → Bool :=
  List.rec (motive := fun _ => List AObj → Bool) (fun y => List.rec (motive := fun _ => Bool) true (fun _ _ _ => false) y)
    (fun i _ ih y => List.rec (motive := fun _ => Bool) false (fun x y _ => match h.get i with
      | some z => bif objSame z (renO (at0 ids) x) then ih y else false
      | none => false) y) l
theorem objsOk_get {ids : List Nat} {h : Tr AObj} : ∀ {l : List Nat} {os : List AObj}, objsOk ids h l os = true → l.length = os.length ∧ ∀ (k : Nat) x, os[k]? = some x → ∃ i, l[k]? = some i ∧ h.get i = some (renO (at0 ids) x)
  | [], [], _ => ⟨rfl, fun k x hx => by simp at hx⟩
  | [], _ :: _, hh => by cases hh
  | _ :: _, [], hh => by cases hh
  | i :: l, x :: os, hh => by
    have h1 : objsOk ids h (i :: l) (x :: os) = match h.get i with
      | some z => bif objSame z (renO (at0 ids) x) then objsOk ids h l os else false
      | none => false := rfl
    rw [h1] at hh
    split at hh
    · next z hz =>
      cases h2 : objSame z (renO (at0 ids) x) with
      | false => rw [h2] at hh; cases hh
      | true =>
        rw [h2, cond_true] at hh
        obtain ⟨g1, g2⟩ := objsOk_get hh
        refine ⟨by simp [g1], fun k y hy => ?_⟩
        cases k with
        | zero =>
          simp only [List.getElem?_cons_zero, Option.some.injEq] at hy
          subst hy
          exact ⟨i, rfl, by rw [hz, objSame_eq h2]⟩
        | succ k => exact g2 k y hy
    · cases hh
noncomputable def allRw (os : List AObj) : Bool := List.rec (motive := fun _ => Bool) true (fun x _ ih => Bool.rec (motive := fun _ => Bool) ih false x.ro) os
theorem allRw_mem : ∀ {os : List AObj}, allRw os = true → ∀ x ∈ os, x.ro = false
  | [], _, x, hx => by cases hx
  | y :: os, h, x, hx => by
    have h1 : allRw (y :: os) = Bool.rec (motive := fun _ => Bool) (allRw os) false y.ro := rfl
    rw [h1] at h
    cases h2 : y.ro with
    | true => rw [h2] at h; cases h
    | false =>
      rw [h2] at h
      rcases List.mem_cons.1 hx with rfl | hx
      · exact h2
      · exact allRw_mem h x hx
/-- What a run's answer must be. -/
noncomputable def sumChk (v : AV) (os : List AObj) (ids : List Nat) : Option (AV × St) → Bool
  | some (u, s) => bif valSame u (ren (at0 ids) v) then bif objsOk ids s.heap ids os then bif allRw os then nodupB ids else false else false else false
  | none => false
noncomputable def addO (os : List AObj) (b : Nat) : Nat → Tr AObj → Tr AObj :=
  List.rec (motive := fun _ => Nat → Tr AObj → Tr AObj) (fun _ t => t) (fun x _ ih i t => ih (Nat.succ i) (t.put (some (renO (fun k => b + k) x)) i)) os
theorem addO_get (b : Nat) : ∀ (os : List AObj) (i : Nat) (t : Tr AObj) (j : Nat), (addO os b i t).get j = if i ≤ j ∧ j < i + os.length then os[j - i]?.map (renO fun k => b + k) else t.get j
  | [], i, t, j => by
    simp only [List.length_nil, Nat.add_zero]
    rw [if_neg (by omega)]; rfl
  | x :: os, i, t, j => by
    have h1 : addO (x :: os) b i t = addO os b (i + 1) (t.put (some (renO (fun k => b + k) x)) i) := rfl
    rw [h1, addO_get b os, Tr.get_put]
    simp only [List.length_cons]
    by_cases c1 : i + 1 ≤ j ∧ j < i + 1 + os.length
    · rw [if_pos c1, if_pos (by omega)]
      have : j - i = (j - (i + 1)) + 1 := by omega
      rw [this, List.getElem?_cons_succ]
    · rw [if_neg c1]
      by_cases c2 : j = i
      · subst c2
        rw [if_pos rfl, if_pos (by omega)]
        simp
      · rw [if_neg c2, if_neg (by omega)]
noncomputable def sumF (v : AV) (os : List AObj) : FFn := ⟨[.tmp 0], fun _ e s => match e with
  | .leaf => some (.ret (Tr.put (some (ren (fun k => s.next + k) v)) .leaf 0) ⟨addO os s.next s.next s.heap, s.next + lenL os⟩)
  | _ => none⟩

theorem Sat.blank (w : World) : Sat (Fr.all w) w (fun _ => none) (fun _ => none) w where
  objs p x hx := by cases hx
  inj p p' x x' l l' a := by cases a
  low o l h := by cases h
  keep b hb := ⟨hb, rfl⟩
  off p x l a := by cases a
  plow b hb := hb.elim
  priv o x l a hl hb := hb
  os := rfl
  tape := rfl
  output := rfl
  size := Nat.le_refl _

theorem renO_ro (r : Nat → Nat) (x : AObj) : (renO r x).ro = x.ro := by cases x <;> rfl

section
variable {P : Program}
theorem sum_sound {tab : Tr FFn} (hT : TabOk P tab) {n f : Nat} {v : AV} {os : List AObj} {ids : List Nat} (h : sumChk v os ids (evF tab n f [] ⟨.leaf, 1⟩) = true) : FnSound P f (sumF v os) := by
  intro call _ vs s u s1 hrun
  unfold sumChk at h
  split at h
  · next u0 s0 hev =>
    cases k1 : valSame u0 (ren (at0 ids) v) with
    | false => rw [k1] at h; cases h
    | true =>
    rw [k1, cond_true] at h
    cases k2 : objsOk ids s0.heap ids os with
    | false => rw [k2] at h; cases h
    | true =>
    rw [k2, cond_true] at h
    cases k3 : allRw os with
    | false => rw [k3] at h; cases h
    | true =>
    rw [k3, cond_true] at h
    have hu := valSame_eq k1
    obtain ⟨o1, o2⟩ := objsOk_get k2
    have hro := allRw_mem k3
    have hnd := nodup_of h
    obtain ⟨g1, g2, g3⟩ := evF_ok hT n f [] ⟨.leaf, 1⟩ u0 s0 hev
    have hvs : vs = [] ∧ u = ren (fun k => s.next + k) v ∧ s1 = ⟨addO os s.next s.next s.heap, s.next + os.length⟩ := by
      cases vs with
      | nil =>
        have e1 : runF (some (sumF v os)) call [] s = some (ren (fun k => s.next + k) v, ⟨addO os s.next s.next s.heap, s.next + lenL os⟩) := by
          simp only [runF, sumF, finF, argsEnv, evRes_cons, resOf, Tr.get_put, if_pos, evRes_nil, consO, pack]
        rw [e1] at hrun
        simp only [Option.some.injEq, Prod.mk.injEq] at hrun
        rw [lenL_eq] at hrun
        exact ⟨rfl, hrun.1.symm, hrun.2.symm⟩
      | cons a l =>
        exfalso
        have hg : (argsEnv (a :: l) 0 .leaf).get 0 = some a := by rw [args_get]; simp
        simp only [runF, sumF] at hrun
        generalize argsEnv (a :: l) 0 .leaf = e at hg hrun
        cases e with
        | leaf => cases hg
        | node x y z => simp [finF] at hrun
    obtain ⟨rfl, rfl, rfl⟩ := hvs
    refine ⟨by simp, g2, fun W w0 ρ w cvs hcv hs hfr => ?_⟩
    have hc := g3 (Fr.all w) w (fun _ => none) w cvs hcv (Sat.blank w) (fun o _ _ => rfl)
    refine hc.mono fun e w' ⟨ρ', cv, q1, q2, q3, q4⟩ => ?_
    subst q1
    simp only at hfr
    let ρ2 : Rho := fun o => if s.next ≤ o ∧ o < s.next + os.length then ρ' (at0 ids (o - s.next)) else ρ o
    have z0 : ρ' 0 = none := by
      cases hz : ρ' 0 with
      | none => rfl
      | some l =>
        rcases q2.new 0 l hz with y | y
        · cases y
        · simp at y
    have hren : ∀ i l, ρ' (at0 ids i) = some l → ρ2 (s.next + i) = some l := by
      intro i l hl
      by_cases hi : i < os.length
      · show (if _ then _ else _) = _
        rw [if_pos (by omega)]
        have : s.next + i - s.next = i := by omega
        rw [this]; exact hl
      · have : at0 ids i = 0 := by
          unfold at0
          rw [nth_eq, List.getElem?_eq_none (by omega)]
        rw [this, z0] at hl; cases hl
    have hsub : Sub ρ ρ2 := fun o l hl => by
      show (if _ then _ else _) = _
      by_cases c : s.next ≤ o ∧ o < s.next + os.length
      · rw [hfr o c.1 c.2] at hl; cases hl
      · rw [if_neg c]; exact hl
    have hget : ∀ o x, (addO os s.next s.next s.heap).get o = some x → (s.heap.get o = some x ∧ ρ2 o = ρ o) ∨ ∃ i y, o = s.next + i ∧ os[i]? = some y ∧ x = renO (fun k => s.next + k) y ∧ ∃ j, ids[i]? = some j ∧ s0.heap.get j = some (renO (at0 ids) y) ∧ ρ2 o = ρ' j := by
      intro o x hx
      rw [addO_get] at hx
      by_cases c : s.next ≤ o ∧ o < s.next + os.length
      · rw [if_pos c, Option.map_eq_some_iff] at hx
        obtain ⟨y, hy, rfl⟩ := hx
        obtain ⟨j, hj, hj2⟩ := o2 _ y hy
        refine .inr ⟨o - s.next, y, by omega, hy, rfl, j, hj, hj2, ?_⟩
        show (if _ then _ else _) = _
        rw [if_pos c]
        unfold at0
        rw [nth_eq, hj]
      · rw [if_neg c] at hx
        exact .inl ⟨hx, if_neg c⟩
    have hnew : ∀ j x l, s0.heap.get j = some x → x.ro = false → ρ' j = some l → w.heap.size ≤ l.b := by
      intro j x l h1 h2 h3
      rcases Nat.lt_or_ge l.b w.heap.size with z | z
      · exact absurd z (q4.off j x l h1 h2 h3)
      · exact z
    refine ⟨ρ2, cv, rfl, ⟨hsub, fun o l hl => ?_⟩, ?_, ?_⟩
    · by_cases c : s.next ≤ o ∧ o < s.next + os.length
      · exact .inr c
      · have : ρ2 o = ρ o := if_neg c
        rw [this] at hl; exact .inl hl
    · rw [hu] at q3
      exact Rep.ren hren v cv q3
    · refine ⟨?_, ?_, ?_, ?_, ?_, ?_, ?_, q4.os.trans hs.os, q4.tape.trans hs.tape, q4.output.trans hs.output, Nat.le_trans hs.size q4.size⟩
      · intro o x hx
        rcases hget o x hx with ⟨h1, h2⟩ | ⟨i, y, rfl, h1, rfl, j, h2, h3, h4⟩
        · obtain ⟨l, h3, h4⟩ := hs.objs o x h1
          refine ⟨l, by rw [h2]; exact h3, ?_⟩
          rw [(q4.keep l.b (hs.low o l h3)).2]
          exact h4.mono hsub
        · obtain ⟨l, h5, h6⟩ := q4.objs j _ h3
          exact ⟨l, by rw [h4]; exact h5, ObjRep.ren hren h6⟩
      · intro o o' x x' l l' a b hne hl hl' hb
        rcases hget o x a with ⟨h1, h2⟩ | ⟨i, y, rfl, h1, rfl, j, h2, h3, h4⟩ <;> rcases hget o' x' b with ⟨h1', h2'⟩ | ⟨i', y', rfl, h1', rfl, j', h2', h3', h4'⟩
        · rw [h2] at hl; rw [h2'] at hl'
          exact hs.inj o o' x x' l l' h1 h1' hne hl hl' hb
        · exfalso
          rw [h2] at hl; rw [h4'] at hl'
          have e1 := hs.low o l hl
          have e2 := hnew j' _ l' h3' (by rw [renO_ro]; exact hro y' (List.mem_of_getElem? h1')) hl'
          omega
        · exfalso
          rw [h4] at hl; rw [h2'] at hl'
          have e1 := hs.low o' l' hl'
          have e2 := hnew j _ l h3 (by rw [renO_ro]; exact hro y (List.mem_of_getElem? h1)) hl
          omega
        · rw [h4] at hl; rw [h4'] at hl'
          have hjj : j ≠ j' := by
            rintro rfl
            have hi : i = i' := by
              have l1 : i < ids.length := (List.getElem?_eq_some_iff.1 h2).1
              have l2 : i' < ids.length := (List.getElem?_eq_some_iff.1 h2').1
              exact (List.getElem?_inj l1 hnd).1 (h2.trans h2'.symm)
            exact hne (by rw [hi])
          have := q4.inj j j' _ _ l l' h3 h3' hjj hl hl' hb
          simpa only [renO_ro] using this
      · intro o l hl
        by_cases c : s.next ≤ o ∧ o < s.next + os.length
        · have : ρ2 o = ρ' (at0 ids (o - s.next)) := if_pos c
          rw [this] at hl
          exact q4.low _ l hl
        · have : ρ2 o = ρ o := if_neg c
          rw [this] at hl
          exact Nat.lt_of_lt_of_le (hs.low o l hl) q4.size
      · intro b hb
        obtain ⟨h1, h2⟩ := hs.keep b hb
        obtain ⟨h3, h4⟩ := q4.keep b h1
        exact ⟨h3, h4.trans h2⟩
      · intro o x l a hr hl hb
        rcases hget o x a with ⟨h1, h2⟩ | ⟨i, y, rfl, h1, rfl, j, h2, h3, h4⟩
        · rw [h2] at hl; exact hs.off o x l h1 hr hl hb
        · rw [h4] at hl
          have e2 := hnew j _ l h3 (by rw [renO_ro] at hr ⊢; exact hr) hl
          have := (hs.keep _ hb).1
          omega
      · intro b hb
        exact Nat.lt_of_lt_of_le (hs.plow b hb) q4.size
      · intro o x l a hl hb
        rcases hget o x a with ⟨h1, h2⟩ | ⟨i, y, rfl, h1, rfl, j, h2, h3, h4⟩
        · rw [h2] at hl; exact hs.priv o x l h1 hl hb
        · rw [h4] at hl
          have e2 := hnew j _ l h3 (by rw [renO_ro]; exact hro y (List.mem_of_getElem? h1)) hl
          have := hs.plow _ hb
          omega
  · cases h
end
end Go.Am

namespace Go.Am
section
variable {P : Program}
/-! ### Tables -/
theorem tabOk_leaf : TabOk P (.leaf : Tr FFn) := fun f F h => by cases h
theorem tabOk_put {t : Tr FFn} {f : FuncId} {F : FFn} (h : FnSound P f F) (ht : TabOk P t) : TabOk P (t.put (some F) f) := fun g G hg => by
  rw [Tr.get_put] at hg
  by_cases e : g = f
  · subst e
    rw [if_pos rfl] at hg
    injection hg with hg
    subst hg
    exact h
  · rw [if_neg e] at hg
    exact ht g G hg
end
end Go.Am
