/- What becomes of a world that bears an abstract heap: a draw, a new block, cells that are read, cells that are written. -/
import Derived.Test.YtgolgogmhcgecaaGreatAmRep
namespace Go.Am
set_option linter.unusedVariables false
set_option linter.unusedSimpArgs false

section
variable {F : Fr} {w0 w : World} {ρ : Rho} {h : Heap}

theorem Sat.same {w' : World} (s : Sat F w0 ρ h w) (hh : w'.heap = w.heap) (ho : w'.os = w.os) (ht : w'.tape = w.tape) (hp : w'.output = w.output) : Sat F w0 ρ h w' where
  objs := by rw [hh]; exact s.objs
  inj := s.inj
  low := by rw [hh]; exact s.low
  keep := by rw [hh]; exact s.keep
  off := s.off
  plow := by rw [hh]; exact s.plow
  priv := s.priv
  os := ho.trans s.os
  tape := ht.trans s.tape
  output := hp.trans s.output
  size := by rw [hh]; exact s.size
theorem Sat.drawn (s : Sat F w0 ρ h w) (n : Nat) : Sat F w0 ρ h { w with drawn := n } := s.same rfl rfl rfl rfl

/-- A smaller heap. -/
theorem Sat.sub {h' : Heap} (s : Sat F w0 ρ h w) (hh : ∀ o x, h' o = some x → h o = some x) : Sat F w0 ρ h' w where
  objs o x hx := s.objs o x (hh o x hx)
  inj o o' x x' l l' a b := s.inj o o' x x' l l' (hh _ _ a) (hh _ _ b)
  low := s.low
  keep := s.keep
  off o x l a := s.off o x l (hh _ _ a)
  plow := s.plow
  priv o x l a := s.priv o x l (hh _ _ a)
  os := s.os
  tape := s.tape
  output := s.output
  size := s.size

theorem upd_same {α : Type} (f : Nat → Option α) (n : Nat) (x : Option α) : upd f n x n = x := by simp [upd]
theorem upd_ne {α : Type} (f : Nat → Option α) {n m : Nat} (x : Option α) (hne : m ≠ n) : upd f n x m = f m := by simp [upd, hne]

theorem Ext.upd {n : Nat} (hn : ρ n = none) (l : Loc) : Ext ρ (upd ρ n (some l)) n (n + 1) :=
  ⟨fun o l' ho => by
    rw [upd_ne _ _ (by rintro rfl; rw [hn] at ho; cases ho)]; exact ho,
   fun o l' ho => by
    by_cases e : o = n
    · exact .inr (by omega)
    · rw [upd_ne _ _ e] at ho; exact .inl ho⟩

theorem push_old (w : World) (x : Obj) {b : Nat} (hb : b < w.heap.size) : (w.heap.push x)[b]? = w.heap[b]? := by
  rw [Array.getElem?_push, if_neg (by omega)]
theorem push_new (w : World) (x : Obj) : (w.heap.push x)[w.heap.size]? = some x := by simp

/-- A new block. -/
theorem Sat.push (s : Sat F w0 ρ h w) {n : Nat} (hn : ρ n = none) {x : AObj} {y : Obj} {sz : Nat} (hx : x.ro = false)
    (hr : ObjRep (upd ρ n (some ⟨w.heap.size, 0, sz⟩)) ⟨w.heap.size, 0, sz⟩ (some y) x) :
    Sat F w0 (upd ρ n (some ⟨w.heap.size, 0, sz⟩)) (upd h n (some x)) { w with heap := w.heap.push y } where
  objs o z hz := by
    by_cases e : o = n
    · subst e
      rw [upd_same] at hz
      injection hz with hz
      subst hz
      exact ⟨_, upd_same _ _ _, by simpa using hr⟩
    · rw [upd_ne _ _ e] at hz
      obtain ⟨l, h1, h2⟩ := s.objs o z hz
      refine ⟨l, by rw [upd_ne _ _ e]; exact h1, ?_⟩
      show ObjRep _ l (w.heap.push y)[l.b]? z
      rw [push_old w y (s.low o l h1)]
      exact h2.mono (Ext.upd hn _).sub
  inj o o' z z' l l' hz hz' hne hl hl' hb := by
    by_cases e : o = n
    · subst e
      have e' : o' ≠ o := fun q => hne q.symm
      rw [upd_same] at hl
      injection hl with hl
      subst hl
      rw [upd_ne _ _ e'] at hl'
      have := s.low o' l' hl'
      exact absurd hb (by simp; omega)
    · by_cases e' : o' = n
      · subst e'
        rw [upd_same] at hl'
        injection hl' with hl'
        subst hl'
        rw [upd_ne _ _ e] at hl
        have := s.low o l hl
        exact absurd hb (by simp; omega)
      · rw [upd_ne _ _ e] at hz hl
        rw [upd_ne _ _ e'] at hz' hl'
        exact s.inj o o' z z' l l' hz hz' hne hl hl' hb
  low o l hl := by
    show l.b < (w.heap.push y).size
    rw [Array.size_push]
    by_cases e : o = n
    · subst e
      rw [upd_same] at hl
      injection hl with hl
      subst hl
      exact Nat.lt_succ_self _
    · rw [upd_ne _ _ e] at hl
      exact Nat.lt_succ_of_lt (s.low o l hl)
  keep b hb := by
    obtain ⟨h1, h2⟩ := s.keep b hb
    exact ⟨by show b < (w.heap.push y).size; rw [Array.size_push]; omega, by show (w.heap.push y)[b]? = _; rw [push_old w y h1]; exact h2⟩
  off o z l hz hr hl := by
    by_cases e : o = n
    · subst e
      rw [upd_same] at hl
      injection hl with hl
      subst hl
      exact fun q => absurd (s.keep _ q).1 (by simp)
    · rw [upd_ne _ _ e] at hz hl
      exact s.off o z l hz hr hl
  plow b hb := by show b < (w.heap.push y).size; rw [Array.size_push]; have := s.plow b hb; omega
  priv o z l hz hl := by
    by_cases e : o = n
    · subst e
      rw [upd_same] at hl
      injection hl with hl
      subst hl
      exact fun q => absurd (s.plow _ q) (by simp)
    · rw [upd_ne _ _ e] at hz hl
      exact s.priv o z l hz hl
  os := s.os
  tape := s.tape
  output := s.output
  size := by show _ ≤ (w.heap.push y).size; rw [Array.size_push]; have := s.size; omega

/-- A block of the heap's is written: another object is there. -/
theorem Sat.write (s : Sat F w0 ρ h w) {o : Nat} {x x' : AObj} {l : Loc} {y : Obj} (ho : h o = some x) (hro : x.ro = false) (hl : ρ o = some l) (hx' : x'.ro = false)
    (hr : ObjRep ρ l (some y) x') : Sat F w0 ρ (upd h o (some x')) { w with heap := w.heap.setIfInBounds l.b y } where
  objs p z hz := by
    by_cases e : p = o
    · subst e
      rw [upd_same] at hz
      injection hz with hz
      subst hz
      refine ⟨l, hl, ?_⟩
      show ObjRep ρ l (w.heap.setIfInBounds l.b y)[l.b]? x'
      rw [Array.getElem?_setIfInBounds_self_of_lt (s.low _ l hl)]
      exact hr
    · rw [upd_ne _ _ e] at hz
      obtain ⟨l', h1, h2⟩ := s.objs p z hz
      refine ⟨l', h1, ?_⟩
      show ObjRep ρ l' (w.heap.setIfInBounds l.b y)[l'.b]? z
      by_cases hb : l.b = l'.b
      · have := (s.inj o p x z l l' ho hz (fun q => e q.symm) hl h1 hb).1
        rw [hro] at this
        cases this
      · rw [Array.getElem?_setIfInBounds_ne hb]
        exact h2
  inj p q z z' l1 l2 hz hz' hne h1 h2 hb := by
    by_cases e : p = o
    · subst e
      have e' : q ≠ p := fun r => hne r.symm
      rw [upd_ne _ _ e'] at hz'
      rw [hl] at h1
      injection h1 with h1
      subst h1
      have := (s.inj p q x z' l l2 ho hz' hne hl h2 hb).1
      rw [hro] at this
      cases this
    · rw [upd_ne _ _ e] at hz
      by_cases e' : q = o
      · subst e'
        rw [hl] at h2
        injection h2 with h2
        subst h2
        have := (s.inj p q z x l1 l hz ho hne h1 hl hb).2
        rw [hro] at this
        cases this
      · rw [upd_ne _ _ e'] at hz'
        exact s.inj p q z z' l1 l2 hz hz' hne h1 h2 hb
  low p l' h1 := by show l'.b < (w.heap.setIfInBounds l.b y).size; rw [Array.size_setIfInBounds]; exact s.low p l' h1
  keep b hb := by
    obtain ⟨h1, h2⟩ := s.keep b hb
    refine ⟨by show b < (w.heap.setIfInBounds l.b y).size; rw [Array.size_setIfInBounds]; exact h1, ?_⟩
    show (w.heap.setIfInBounds l.b y)[b]? = _
    rw [Array.getElem?_setIfInBounds_ne (by rintro rfl; exact s.off o x l ho hro hl hb)]
    exact h2
  off p z l' hz hr' h1 := by
    by_cases e : p = o
    · subst e
      rw [hl] at h1
      injection h1 with h1
      subst h1
      exact s.off p x l ho hro hl
    · rw [upd_ne _ _ e] at hz
      exact s.off p z l' hz hr' h1
  plow b hb := by show b < (w.heap.setIfInBounds l.b y).size; rw [Array.size_setIfInBounds]; exact s.plow b hb
  priv p z l' hz h1 := by
    by_cases e : p = o
    · subst e
      rw [hl] at h1
      injection h1 with h1
      subst h1
      exact s.priv p x l ho hl
    · rw [upd_ne _ _ e] at hz
      exact s.priv p z l' hz h1
  os := s.os
  tape := s.tape
  output := s.output
  size := by show _ ≤ (w.heap.setIfInBounds l.b y).size; rw [Array.size_setIfInBounds]; exact s.size

/-- A cell that is read. -/
theorem Sat.cell (s : Sat F w0 ρ h w) {o : Nat} {cs : List AV} {ro : Bool} (ho : h o = some (.cells cs ro)) {l : Loc} (hl : ρ o = some l) {i : Nat} {a : AV} (ha : cs[i]? = some a) :
    ∃ v, w.cell? ⟨l.b, l.base + i, none⟩ = some v ∧ Rep ρ a v := by
  obtain ⟨l', h1, h2⟩ := s.objs o _ ho
  rw [hl] at h1
  injection h1 with h1
  subst h1
  cases ro with
  | true =>
    obtain ⟨c, t, fr, h3, h4⟩ := h2
    obtain ⟨v, h5, h6⟩ := h4 i a ha
    exact ⟨v, by simp [World.cell?, h3, h5], h6⟩
  | false =>
    obtain ⟨hb, c, t, fr, h3, _, _, h4, _⟩ := h2
    obtain ⟨v, h5, h6⟩ := h4 i a ha
    exact ⟨v, by simp [World.cell?, h3, hb, h5], h6⟩
end

theorem addr_add (b o i : Nat) : (⟨b, o, none⟩ : Addr).add i = ⟨b, o + i, none⟩ := by
  unfold Addr.add
  split
  · next h => subst h; rfl
  · rfl

section
variable {F : Fr} {w0 w : World} {ρ : Rho} {h : Heap} {P : Program}

/-- Cells that are read. -/
theorem Sat.cells (s : Sat F w0 ρ h w) {o : Nat} {cs : List AV} {ro : Bool} (ho : h o = some (.cells cs ro)) {l : Loc} (hl : ρ o = some l) {i n : Nat} {as : List AV} (ha : rdN cs i n = some as) :
    ∃ vs, RepL ρ as vs ∧ vs.length = n ∧ (loadCells ⟨l.b, l.base + i, none⟩ n).run P w = .ok ⟨vs⟩ w ∧ ∀ j v, vs[j]? = some v → w.cell? ⟨l.b, l.base + i + j, none⟩ = some v := by
  obtain ⟨h1, rfl⟩ := rdN_some cs i n as ha
  have hex : ∀ j, j < n → ∃ v, w.cell? ⟨l.b, l.base + i + j, none⟩ = some v ∧ ∀ a, cs[i + j]? = some a → Rep ρ a v := fun j hj => by
    have hlt : i + j < cs.length := by omega
    obtain ⟨v, h2, h3⟩ := s.cell ho hl (i := i + j) (a := cs[i + j]) (List.getElem?_eq_getElem hlt)
    exact ⟨v, by rw [Nat.add_assoc]; exact h2, fun a ha => by rw [List.getElem?_eq_getElem hlt] at ha; injection ha with ha; subst ha; exact h3⟩
  let f : Nat → Value := fun j => (w.cell? ⟨l.b, l.base + i + j, none⟩).getD default
  have hf : ∀ j, j < n → w.cell? ⟨l.b, l.base + i + j, none⟩ = some (f j) := fun j hj => by
    obtain ⟨v, h2, _⟩ := hex j hj
    simp [f, h2]
  refine ⟨(List.range n).map f, ?_, by simp, ?_, ?_⟩
  · refine RepL.of_get (by simp; omega) fun j a hj => ?_
    have hjn : j < n := by
      rcases Nat.lt_or_ge j n with h | h
      · exact h
      · rw [List.getElem?_take, if_neg (by omega)] at hj; cases hj
    rw [List.getElem?_take_of_lt hjn, List.getElem?_drop] at hj
    obtain ⟨v, h2, h3⟩ := hex j hjn
    refine ⟨f j, by simp [hjn], ?_⟩
    have : f j = v := by simp [f, h2]
    rw [this]
    exact h3 a hj
  · have := run_loadCells (P := P) w ⟨l.b, l.base + i, none⟩ n f (fun j hj => by rw [addr_add]; exact hf j hj)
    rw [this]
  · intro j v hj
    have hjn : j < n := by
      rcases Nat.lt_or_ge j n with h | h
      · exact h
      · rw [List.getElem?_eq_none (by simpa using h)] at hj; cases hj
    rw [hf j hjn]
    simp [hjn] at hj
    rw [hj]

/-- Cells written over, in a block of cells without marks where they stand. -/
def overA (c : Array Value) (k : Nat) (vs : List Value) : Array Value := (c.toList.take k ++ (vs ++ c.toList.drop (k + vs.length))).toArray
theorem overA_size {c : Array Value} {k : Nat} {vs : List Value} (hl : k + vs.length ≤ c.size) : (overA c k vs).size = c.size := by simp [overA]; omega
theorem overA_nil (c : Array Value) (k : Nat) : overA c k [] = c := by simp [overA]
theorem overA_get {c : Array Value} {k : Nat} {vs : List Value} (hl : k + vs.length ≤ c.size) (i : Nat) :
    (overA c k vs)[i]? = if i < k then c[i]? else if i < k + vs.length then vs[i - k]? else c[i]? := by
  have e : (overA c k vs)[i]? = (c.toList.take k ++ (vs ++ c.toList.drop (k + vs.length)))[i]? := by simp [overA]
  rw [e]
  by_cases h1 : i < k
  · rw [if_pos h1, List.getElem?_append_left (by simp; omega), List.getElem?_take_of_lt h1]; simp
  · rw [if_neg h1, List.getElem?_append_right (by simp; omega)]
    have : (c.toList.take k).length = k := by simp; omega
    rw [this]
    by_cases h2 : i < k + vs.length
    · rw [if_pos h2, List.getElem?_append_left (by omega)]
    · rw [if_neg h2, List.getElem?_append_right (by omega), List.getElem?_drop, show k + vs.length + (i - k - vs.length) = i from by omega]; simp
theorem overA_cons {c : Array Value} {k : Nat} {v : Value} {vs : List Value} (hl : k + (vs.length + 1) ≤ c.size) : overA (c.setIfInBounds k v) (k + 1) vs = overA c k (v :: vs) := by
  apply Array.ext'
  apply List.ext_getElem?
  intro i
  have h1 := overA_get (c := c.setIfInBounds k v) (k := k + 1) (vs := vs) (by simp; omega) i
  have h2 := overA_get (c := c) (k := k) (vs := v :: vs) (by simp; omega) i
  rw [← Array.getElem?_toList] at h1 h2
  simp only [Array.getElem?_toList] at h1 h2 ⊢
  rw [h1, h2]
  by_cases a : i < k
  · rw [if_pos (by omega), if_pos a, Array.getElem?_setIfInBounds_ne (by omega)]
  · by_cases b : i = k
    · subst b
      rw [if_pos (by omega), if_neg (by omega), if_pos (by simp), Array.getElem?_setIfInBounds_self_of_lt (by omega)]
      simp
    · rw [if_neg (by omega), if_neg a]
      by_cases d : i < k + 1 + vs.length
      · rw [if_pos d, if_pos (by simp; omega), show i - k = (i - (k + 1)) + 1 from by omega]; simp
      · rw [if_neg d, if_neg (by simp; omega), Array.getElem?_setIfInBounds_ne (by omega)]

theorem run_storeCells_over (b o : Nat) (t : TypeId) (fr : Nat × Nat) : ∀ (vs : List Value) (i : Nat) (c : Array Value) (w : World), w.heap[b]? = some (.cells c t fr) → o + i + vs.length ≤ c.size →
    (∀ j, j < c.size → ¬ (fr.1 ≤ j ∧ j < fr.2)) → (∀ v ∈ vs, (∀ x, v ≠ .agg x) ∧ ∀ x, v ≠ .tuple x) →
    (storeCells ⟨b, o, none⟩ vs i).run P w = .ok () { w with heap := w.heap.setIfInBounds b (.cells (overA c (o + i) vs) t fr) }
  | [], i, c, w, hb, hl, hf, h1 => by
    have hlt : b < w.heap.size := (Array.getElem?_eq_some_iff.1 hb).1
    have : w.heap.setIfInBounds b (.cells (overA c (o + i) []) t fr) = w.heap := by
      rw [overA_nil]
      apply Array.ext_getElem?
      intro j
      by_cases e : b = j
      · subst e; rw [Array.getElem?_setIfInBounds_self_of_lt hlt, hb]
      · rw [Array.getElem?_setIfInBounds_ne e]
    rw [this]
    rfl
  | v :: vs, i, c, w, hb, hl, hf, h1 => by
    have hlt : b < w.heap.size := (Array.getElem?_eq_some_iff.1 hb).1
    simp only [List.length_cons] at hl
    have hi : o + i < c.size := by omega
    obtain ⟨ha, ht⟩ := h1 v (by simp)
    have hone : v.oneCell' = true := by
      cases v <;> first | rfl | exact absurd rfl (ha _) | exact absurd rfl (ht _)
    have hcell : w.cell? ⟨b, o + i, none⟩ = some c[o + i] := by simp [World.cell?, hb, hi]
    have hfz : w.frozen? ⟨b, o + i, none⟩ = false := by
      have := hf (o + i) hi
      simp only [World.frozen?, hb]
      simpa using this
    have hst : (store ((⟨b, o, none⟩ : Addr).add i) v).run P w = .ok () { w with heap := w.heap.setIfInBounds b (.cells (c.setIfInBounds (o + i) v) t fr) } := by
      rw [addr_add, run_store P w _ v _ hone, hcell]
      simp only [hfz]
      have : w.setCell ⟨b, o + i, none⟩ v = { w with heap := w.heap.setIfInBounds b (.cells (c.setIfInBounds (o + i) v) t fr) } := by
        unfold World.setCell
        congr 1
        apply Array.ext_getElem?
        intro j
        by_cases e : b = j
        · subst e
          rw [Array.getElem?_setIfInBounds_self_of_lt hlt, Array.getElem?_modify, hb]
          simp
        · rw [Array.getElem?_setIfInBounds_ne e, Array.getElem?_modify]
          simp [e]
      rw [this]
      rfl
    have ih := run_storeCells_over b o t fr vs (i + 1) (c.setIfInBounds (o + i) v) { w with heap := w.heap.setIfInBounds b (.cells (c.setIfInBounds (o + i) v) t fr) }
      (by show (w.heap.setIfInBounds b _)[b]? = _; rw [Array.getElem?_setIfInBounds_self_of_lt hlt]) (by simp; omega) (by simpa using hf) (fun u hu => h1 u (by simp [hu]))
    simp only [storeCells, Sem.run_bind, hst, Result.andThen, ih]
    rw [show o + (i + 1) = o + i + 1 from by omega, overA_cons (by omega)]
    simp

/-- Cells that are written. -/
theorem Sat.store (s : Sat F w0 ρ h w) {o : Nat} {cs cs' : List AV} (ho : h o = some (.cells cs false)) {l : Loc} (hl : ρ o = some l) {i : Nat} {as : List AV} {vs : List Value} (hw : wrN cs i as = some cs')
    (hr : RepL ρ as vs) (h1 : ∀ v ∈ vs, (∀ x, v ≠ .agg x) ∧ ∀ x, v ≠ .tuple x) :
    l.base = 0 ∧ ∃ w', (storeCells ⟨l.b, i, none⟩ vs).run P w = .ok () w' ∧ Sat F w0 ρ (upd h o (some (.cells cs' false))) w' := by
  obtain ⟨hle, rfl⟩ := wrN_some cs i as cs' hw
  obtain ⟨l', hl', hx⟩ := s.objs o _ ho
  rw [hl] at hl'
  injection hl' with hl'
  subst hl'
  obtain ⟨hb0, c, t, fr, h3, h4, h5, h6, h7⟩ := hx
  have hlen := hr.length
  have hrun := run_storeCells_over (P := P) l.b i t fr vs 0 c w h3 (by omega) (by rw [h4]; exact h7) h1
  refine ⟨hb0, _, hrun, s.write ho rfl hl rfl ⟨hb0, _, t, fr, rfl, ?_, ?_, ?_, h7⟩⟩
  · rw [overA_size (by omega)]; exact h4
  · simp; omega
  · intro j a ha
    rw [overA_get (by omega)]
    simp only [Nat.add_zero]
    by_cases a1 : j < i
    · rw [List.getElem?_append_left (by simp; omega), List.getElem?_take_of_lt a1] at ha
      rw [if_pos a1]
      exact h6 j a ha
    · rw [List.getElem?_append_right (by simp; omega)] at ha
      have : (cs.take i).length = i := by simp; omega
      rw [this] at ha
      rw [if_neg a1]
      by_cases a2 : j < i + vs.length
      · rw [List.getElem?_append_left (by omega)] at ha
        rw [if_pos a2]
        exact hr.get ha
      · rw [List.getElem?_append_right (by omega), List.getElem?_drop, show i + as.length + (j - i - as.length) = j from by omega] at ha
        rw [if_neg a2]
        exact h6 j a ha
end
end Go.Am
