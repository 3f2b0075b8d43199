/- A round's appending in the model. -/
import Derived.Test.YtgolgogmhcgecaaGreatAmNames4
import Derived.Test.YtgolgogmhcgecaaGreatAmSum
namespace Go.Am
set_option linter.unusedVariables false
set_option linter.unusedSimpArgs false

section
variable {P : Program}
/-- What a round's appending leaves. -/
def RoundQ (n0 r : Nat) (keys : List (List Nat)) (a : Act) (w : World) (a' : Act) (w' : World) : Prop :=
  (∃ v', a'.tmps[4]? = some v' ∧ LS n0 w' keys v') ∧ a'.tmps[11]? = some (.pointer (some ⟨r, 0, none⟩)) ∧ a'.tmps.size = a.tmps.size ∧ a'.defers = a.defers ∧ (∀ b, b < n0 → w'.heap[b]? = w.heap[b]?) ∧ w.heap.size ≤ w'.heap.size ∧ w'.os = w.os ∧ w'.tape = w.tape ∧ w'.output = w.output

theorem strs_rep {ρ ρ2 : Rho} {l : Loc} {x : Option Obj} {ks : List (List Nat)} (h : ObjRep ρ l x (.cells (ks.map AV.str) false)) : ObjRep ρ2 l x (.cells (ks.map AV.str) false) := by
  obtain ⟨hb, c, t, fr, h1, h5, h6, h2, h7⟩ := h
  refine ⟨hb, c, t, fr, h1, h5, h6, fun i a ha => ?_, h7⟩
  obtain ⟨v, h3, h4⟩ := h2 i a ha
  rw [List.getElem?_map, Option.map_eq_some_iff] at ha
  obtain ⟨k, _, rfl⟩ := ha
  exact ⟨v, h3, by simpa only [Rep] using h4⟩
theorem round_wp_nil {N id n0 r : Nat} {ops : Array Oper} (h7 : ops.toList.map (trOper P N ops) = roundF) {a : Act} {w : World} (hN : N ≤ a.tmps.size) {k : List Nat} (hk : small k)
    (t4 : a.tmps[4]? = some (.slice none 0 0)) (t5 : a.tmps[5]? = some (.string (strOf k))) (t11 : a.tmps[11]? = some (.pointer (some ⟨r, 0, none⟩))) (hr : r < w.heap.size) (hn0 : n0 ≤ w.heap.size)
    {Q : Exit → Act → World → Prop} (hQ : ∀ a' w', RoundQ n0 r [k] a w a' w' → Q .normal a' w') : (Code.region id ops false).wp P Q a w := by
  let e : Tr AV := ((Tr.put (some AV.nilSlice) .leaf 4).put (some (.str k)) 5).put (some (.ptr 7 0)) 11
  have hg : ∀ t, e.get t = if t = 11 then some (.ptr 7 0) else if t = 5 then some (.str k) else if t = 4 then some .nilSlice else none := fun t => by
    simp only [e, Tr.get_put]; rfl
  let ρ : Rho := fun x => if x = 7 then some ⟨r, 0, 0⟩ else none
  have he : EnvRep ρ e a.tmps := fun t v ht => by
    rw [hg] at ht
    split at ht
    · next h => subst h; injection ht with ht; subst ht; exact ⟨_, t11, by simp only [Rep]; exact ⟨⟨r, 0, 0⟩, rfl, rfl⟩⟩
    · split at ht
      · next h => subst h; injection ht with ht; subst ht; exact ⟨_, t5, by simp only [Rep]; exact ⟨trivial, hk⟩⟩
      · split at ht
        · next h => subst h; injection ht with ht; subst ht; exact ⟨_, t4, by simp only [Rep]⟩
        · cases ht
  have hs : Sat (Fr.all w) w ρ (⟨.leaf, 8⟩ : St).heap.get w := by
    have h0 := Sat.blank w
    refine ⟨fun _ _ h => (by cases h), fun _ _ _ _ _ _ h => (by cases h), fun o l hl => ?_, h0.keep, fun _ _ _ h => (by cases h), h0.plow, fun _ _ _ h => (by cases h), rfl, rfl, rfl, Nat.le_refl _⟩
    simp only [ρ] at hl
    split at hl
    · injection hl with hl; subst hl; exact hr
    · cases hl
  obtain ⟨e', s', hrun, hn, h4, hc, h11⟩ := round_nil (call := fun _ _ _ => none) (e := e) (s := ⟨.leaf, 8⟩) (k := k) (by rw [hg]; rfl) (by rw [hg]; rfl)
  have hfr : Fresh ρ 8 s'.next := fun o h1 h2 => by
    show (if _ then _ else _) = _
    rw [if_neg (by omega)]
  refine region_run h7 noCall hrun he hN hs hfr fun ρ' a' w' q1 q2 q3 q4 q5 => hQ a' w' ?_
  obtain ⟨v4, u1, u2⟩ := q2 4 _ h4
  obtain ⟨lc, l1, l2⟩ := q5.objs _ _ hc
  have hnew : w.heap.size ≤ lc.b := by
    rcases Nat.lt_or_ge lc.b w.heap.size with z | z
    · exact absurd z (q5.off _ _ lc hc rfl l1)
    · exact z
  refine ⟨⟨v4, u1, .inr ⟨lc, ?_, ?_, by omega, q5.low _ _ l1, by simp⟩⟩, ?_, q3, q4, fun b hb => (q5.keep b (by show b < _; omega)).2, q5.size, q5.os, q5.tape, q5.output⟩
  · simp only [Rep] at u2 ⊢
    obtain ⟨l, c, g1, g2⟩ := u2
    have : l = lc := by rw [l1] at g1; injection g1 with g1; exact g1.symm
    subst this
    exact ⟨l, c, rfl, g2⟩
  · exact strs_rep l2
  · obtain ⟨v, p1, p2⟩ := q2 11 (.ptr 7 0) (by rw [h11, hg]; rfl)
    simp only [Rep] at p2
    obtain ⟨l, g1, rfl⟩ := p2
    have g2 := q1.sub 7 ⟨r, 0, 0⟩ rfl
    rw [g1] at g2; injection g2 with g2; subst g2
    exact p1

theorem round_wp_full {N id n0 r : Nat} {ops : Array Oper} (h7 : ops.toList.map (trOper P N ops) = roundF) {a : Act} {w : World} (hN : N ≤ a.tmps.size) {k : List Nat} (hk : small k) {keys : List (List Nat)} {v : Value} {lc : Loc}
    (t4 : a.tmps[4]? = some v) (hv : Rep (rhoL lc) (.slice 0 0 keys.length (.full 1)) v) (hob : ObjRep (rhoL lc) lc w.heap[lc.b]? (.cells (keys.map AV.str) false)) (hlo : n0 ≤ lc.b) (hhi : lc.b < w.heap.size) (hlen : keys.length ≤ 1000)
    (t5 : a.tmps[5]? = some (.string (strOf k))) (t11 : a.tmps[11]? = some (.pointer (some ⟨r, 0, none⟩))) (hr : r < n0) (hn0 : n0 ≤ w.heap.size)
    {Q : Exit → Act → World → Prop} (hQ : ∀ a' w', RoundQ n0 r (keys ++ [k]) a w a' w' → Q .normal a' w') : (Code.region id ops false).wp P Q a w := by
  let e : Tr AV := ((Tr.put (some (AV.slice 0 0 keys.length (.full 1))) .leaf 4).put (some (.str k)) 5).put (some (.ptr 7 0)) 11
  have hg : ∀ t, e.get t = if t = 11 then some (.ptr 7 0) else if t = 5 then some (.str k) else if t = 4 then some (.slice 0 0 keys.length (.full 1)) else none := fun t => by
    simp only [e, Tr.get_put]; rfl
  let ρ : Rho := fun x => if x = 7 then some ⟨r, 0, 0⟩ else if x = 0 then some lc else none
  have hsub : Sub (rhoL lc) ρ := fun o l hl => by
    unfold rhoL at hl
    split at hl
    · next h => subst h; injection hl with hl; subst hl; rfl
    · cases hl
  have he : EnvRep ρ e a.tmps := fun t x ht => by
    rw [hg] at ht
    split at ht
    · next h => subst h; injection ht with ht; subst ht; exact ⟨_, t11, by simp only [Rep]; exact ⟨⟨r, 0, 0⟩, rfl, rfl⟩⟩
    · split at ht
      · next h => subst h; injection ht with ht; subst ht; exact ⟨_, t5, by simp only [Rep]; exact ⟨trivial, hk⟩⟩
      · split at ht
        · next h => subst h; injection ht with ht; subst ht; exact ⟨_, t4, hv.mono hsub⟩
        · cases ht
  let s : St := ⟨Tr.put (some (.cells (keys.map AV.str) false)) .leaf 0, 8⟩
  have hsg : s.heap.get = upd (fun _ => none) 0 (some (.cells (keys.map AV.str) false)) := by
    simp only [s]; rw [Tr.put_get]; rfl
  have hs : Sat (Fr.but w lc.b) w ρ s.heap.get w := by
    rw [hsg]
    have key : ∀ o x, upd (fun _ => none) 0 (some (AObj.cells (keys.map AV.str) false)) o = some x → o = 0 ∧ x = .cells (keys.map AV.str) false := fun o x h => by
      by_cases z : o = 0
      · subst z; rw [upd_same] at h; injection h with h; exact ⟨rfl, h.symm⟩
      · rw [upd_ne _ _ z] at h; cases h
    refine ⟨fun o x h => ?_, fun o o' x x' l l' h h' hne => ?_, fun o l hl => ?_, fun b hb => ⟨hb.1, rfl⟩, fun o x l h _ hl hb => ?_, fun b hb => hb.1, fun o x l h hl hb => ?_, rfl, rfl, rfl, Nat.le_refl _⟩
    · obtain ⟨rfl, rfl⟩ := key o x h
      exact ⟨lc, rfl, hob.mono hsub⟩
    · exact absurd ((key o x h).1.trans (key o' x' h').1.symm) hne
    · simp only [ρ] at hl
      split at hl
      · injection hl with hl; subst hl; show r < _; omega
      · split at hl
        · injection hl with hl; subst hl; exact hhi
        · cases hl
    · obtain ⟨rfl, rfl⟩ := key o x h
      injection hl with hl; subst hl; exact hb.2 rfl
    · obtain ⟨rfl, rfl⟩ := key o x h
      injection hl with hl; subst hl; exact hb.2 rfl
  obtain ⟨e', s', hrun, hn, h4, hc, h11⟩ := round_full (call := fun _ _ _ => none) (e := e) (s := s) (k := k) (id := 0) (m := keys.length) (cs := keys.map AV.str) (by rw [hg]; rfl) (by rw [hg]; rfl) (by rw [hsg, upd_same]) (by simp) hlen (by show 0 < 8; omega)
  have hfr : Fresh ρ s.next s'.next := fun o h1 h2 => by
    have h1' : 8 ≤ o := h1
    show (if _ then _ else _) = _
    rw [if_neg (by omega), if_neg (by omega)]
  refine region_run h7 noCall hrun he hN hs hfr fun ρ' a' w' q1 q2 q3 q4 q5 => hQ a' w' ?_
  obtain ⟨v4, u1, u2⟩ := q2 4 _ h4
  obtain ⟨lc', l1, l2⟩ := q5.objs _ _ hc
  have hnew : n0 ≤ lc'.b := by
    rcases Nat.lt_or_ge lc'.b n0 with z | z
    · exact absurd ⟨by omega, by omega⟩ (q5.off _ _ lc' hc rfl l1)
    · exact z
  refine ⟨⟨v4, u1, .inr ⟨lc', ?_, ?_, hnew, q5.low _ _ l1, by simp⟩⟩, ?_, q3, q4, fun b hb => (q5.keep b ⟨by omega, by omega⟩).2, q5.size, q5.os, q5.tape, q5.output⟩
  · simp only [Rep] at u2 ⊢
    obtain ⟨l, c, g1, g2⟩ := u2
    have : l = lc' := by rw [l1] at g1; injection g1 with g1; exact g1.symm
    subst this
    exact ⟨l, c, rfl, by simpa using g2⟩
  · have : (keys ++ [k]).map AV.str = keys.map AV.str ++ [AV.str k] := by simp
    rw [← this] at l2
    exact strs_rep l2
  · obtain ⟨v, p1, p2⟩ := q2 11 (.ptr 7 0) (by rw [h11, hg]; rfl)
    simp only [Rep] at p2
    obtain ⟨l, g1, rfl⟩ := p2
    have g2 := q1.sub 7 ⟨r, 0, 0⟩ rfl
    rw [g1] at g2; injection g2 with g2; subst g2
    exact p1
end
end Go.Am
