/- Every order that the model may draw comes to what our order comes to. -/
import Derived.Test.YtgolgogmhcgecaaGreatAmDraw
namespace Go.Am
set_option linter.unusedVariables false
set_option linter.unusedSimpArgs false

section
variable {P : Program} {ops : Array Oper}

/-! ### What is ready -/
theorem topo_ready {md : Region.Mode} {listed : Array Bool} (hsz : listed.size = ops.size) : ∀ (l done : List Nat), topoGo md ops l done = true → (∀ j ∈ done, listed.getD j false = true) → (∃ i ∈ l, listed.getD i true = false) → Region.ready md ops listed ≠ []
  | [], _, _, _, ⟨_, h, _⟩ => by cases h
  | i :: l, done, ht, hd, hex => by
    simp only [topoGo, Bool.and_eq_true] at ht
    obtain ⟨h1, h2⟩ := ht
    cases hi : listed.getD i true with
    | false =>
      have : i ∈ Region.ready md ops listed := by
        rw [mem_ready]
        refine ⟨hi, ?_⟩
        split at h1
        · next o ho =>
          refine ⟨o, by rw [← Array.getElem?_toList]; exact ho, fun e he hb => ?_⟩
          rw [List.all_eq_true] at h1
          have := h1 e (by simpa using he)
          simp only [hb, Bool.not_true, Bool.false_or, List.contains_iff_mem] at this
          exact hd _ this
        · cases h1
      intro h0
      rw [h0] at this; cases this
    | true =>
      refine topo_ready hsz l (i :: done) h2 (fun j hj => ?_) ?_
      · rcases List.mem_cons.1 hj with rfl | hj
        · have hlt : j < ops.toList.length := by
            split at h1
            · next o ho => exact (List.getElem?_eq_some_iff.1 ho).1
            · cases h1
          have hlt' : j < listed.size := by rw [hsz]; simpa using hlt
          simp only [Array.getD_eq_getD_getElem?, Array.getElem?_eq_getElem hlt', Option.getD_some] at hi ⊢
          exact hi
        · exact hd j hj
      · obtain ⟨k, hk, hk2⟩ := hex
        rcases List.mem_cons.1 hk with rfl | hk
        · rw [hi] at hk2; cases hk2
        · exact ⟨k, hk, hk2⟩

theorem mode_ready {md : Region.Mode} {l : List Nat} (hm : modeOk md ops l = true) {listed : Array Bool} (hsz : listed.size = ops.size) (h : Region.ready md ops listed = []) : ∀ i, i < ops.size → listed.getD i true = true := by
  intro i hi
  simp only [modeOk, Bool.and_eq_true, allIn, List.all_eq_true, List.mem_range, List.contains_iff_mem] at hm
  cases hl : listed.getD i true with
  | true => rfl
  | false => exact absurd h (topo_ready hsz l [] hm.2 (fun j hj => by cases hj) ⟨i, hm.1 i (by simpa using hi), hl⟩)

theorem binds_of_any {md : Region.Mode} {e : Edge} (h : bindsAny e = true) : Region.binds md e = true := by
  unfold bindsAny at h
  unfold Region.binds
  cases hg : e.ground <;> simp [hg] at h ⊢

variable {envF : Nat → Option AV} {hF : Heap}

theorem pairwise_pair {α : Type} {R : α → α → Prop} {u v : List α} {x : α} (h : List.Pairwise R (u ++ x :: v)) : (∀ y ∈ u, R y x) ∧ (∀ y ∈ v, R x y) ∧ List.Pairwise R (u ++ v) := by
  rw [List.pairwise_append] at h
  obtain ⟨h1, h2, h3⟩ := h
  rw [List.pairwise_cons] at h2
  refine ⟨fun y hy => h3 y hy x (List.mem_cons_self ..), h2.1, ?_⟩
  rw [List.pairwise_append]
  exact ⟨h1, h2.2, fun a ha b hb => h3 a ha b (List.mem_cons_of_mem _ hb)⟩

/-- All that an operation hangs on comes ahead of it: no such operation is left when it is ready. -/
def Closed (ops : Array Oper) (clo : List Nat) (listed : Array Bool) : Prop :=
  ∀ i j, listed.getD i false = true → j < ops.size → bitOf (clo.getD i 0) j = true → listed.getD j false = true
theorem ready_closed {md : Region.Mode} {clo : List Nat} (hc : cloOk ops clo = true) {listed : Array Bool} (hl : Closed ops clo listed) {i : Nat} (hi : i ∈ Region.ready md ops listed) : ∀ j, j < ops.size → bitOf (clo.getD i 0) j = true → listed.getD j false = true := by
  intro j hj hb
  obtain ⟨h0, o, ho, hall⟩ := mem_ready.1 hi
  have hlt : i < ops.size := (Array.getElem?_eq_some_iff.1 ho).1
  simp only [cloOk, List.all_eq_true, List.mem_range] at hc
  have h1 := hc i (by simpa using hlt)
  have ho' : ops.toList[i]? = some o := by rw [Array.getElem?_toList]; exact ho
  rw [ho'] at h1
  simp only [List.all_eq_true, List.mem_range, Bool.or_eq_true, Bool.not_eq_true'] at h1
  rcases h1 j (by simpa using hj) with h2 | h2
  · rw [hb] at h2; cases h2
  · rw [List.any_eq_true] at h2
    obtain ⟨e, he, h3⟩ := h2
    simp only [Bool.and_eq_true, Bool.or_eq_true, beq_iff_eq] at h3
    have h4 := hall e (by simpa using he) (binds_of_any h3.1)
    rcases h3.2 with h5 | h5
    · rw [← h5]; exact h4
    · exact hl e.on j h4 hj h5

/-- The orders of one mode. -/
theorem any_sound {md : Region.Mode} {N lo hi : Nat} {clo ord : List Nat} (hc : cloOk ops clo = true) (hm : modeOk md ops ord = true) {Q : Exit → Act → World → Prop} {F : Fr} {w0 : World} {ρ0 : Rho} {sz : Nat} {df : List Deferred}
    (hQ : ∀ ρ' a' w', Ext ρ0 ρ' lo hi → EnvRepF ρ' envF a'.tmps → a'.tmps.size = sz → a'.defers = df → Sat F w0 ρ' hF w' → Q .normal a' w') :
    ∀ (m : Nat) (L : List SD) (listed : Array Bool) (env : Nat → Option AV) (h : Heap) (ρ : Rho) (a : Act) (w : World), L.length = m → listed.size = ops.size → (L.map (·.i)).Nodup →
      (∀ i, i < ops.size → (listed.getD i true = false ↔ i ∈ L.map (·.i))) → (∀ x ∈ L, x.i < ops.size) → Closed ops clo listed →
      L.Pairwise (fun y x => bitOf (clo.getD x.i 0) y.i = false → Comm y x) → (∀ x ∈ L, SDSound P ops N x ∧ lo ≤ x.n ∧ x.m ≤ hi) → L.Pairwise (fun y x => y.m ≤ x.n) → (∀ x ∈ L, Fresh ρ x.n x.m) → Ext ρ0 ρ lo hi →
      Runs envF hF L env h → EnvRepF ρ env a.tmps → N ≤ sz → a.tmps.size = sz → a.defers = df → Sat F w0 ρ h w → wpAny P md ops Q m listed a w := by
  intro m
  induction m with
  | zero =>
    intro L listed env h ρ a w hlen hsz hnd hiff hlt hcl hpw hss hiv hfr hext hr he hN hasz hdf hs
    have hL : L = [] := List.eq_nil_of_length_eq_zero hlen
    subst hL
    obtain ⟨rfl, rfl⟩ := hr
    refine ⟨?_, hQ ρ a w hext he hasz hdf hs⟩
    rw [List.eq_nil_iff_forall_not_mem]
    intro i hi
    obtain ⟨h0, o, ho, _⟩ := mem_ready.1 hi
    have := (hiff i (Array.getElem?_eq_some_iff.1 ho).1).1 h0
    simp at this
  | succ m ih =>
    intro L listed env h ρ a w hlen hsz hnd hiff hlt hcl hpw hss hiv hfr hext hr he hN hasz hdf hs
    constructor
    · intro h0
      exfalso
      cases L with
      | nil => simp at hlen
      | cons x l =>
        have h1 := mode_ready hm hsz h0 x.i (hlt x (List.mem_cons_self ..))
        have h2 := (hiff x.i (hlt x (List.mem_cons_self ..))).2 (by simp)
        rw [h1] at h2; cases h2
    · intro i hi
      obtain ⟨h0, o, ho, _⟩ := mem_ready.1 hi
      have hin := (hiff i (Array.getElem?_eq_some_iff.1 ho).1).1 h0
      obtain ⟨x, hx, rfl⟩ := List.mem_map.1 hin
      obtain ⟨u, v, rfl⟩ := List.append_of_mem hx
      obtain ⟨p1, p2, p3⟩ := pairwise_pair hpw
      obtain ⟨v1, v2, v3⟩ := pairwise_pair hiv
      have hrc := ready_closed hc hcl hi
      have hun : ∀ y ∈ u ++ x :: v, listed.getD y.i false = false := fun y hy => by
        have h1 := (hiff y.i (hlt y hy)).2 (List.mem_map.2 ⟨y, hy, rfl⟩)
        have hl : y.i < listed.size := by rw [hsz]; exact hlt y hy
        simp only [Array.getD_eq_getD_getElem?, Array.getElem?_eq_getElem hl, Option.getD_some] at h1 ⊢
        exact h1
      have hcomm : ∀ y ∈ u, Comm y x := fun y hy => by
        refine p1 y hy ?_
        cases hb : bitOf (clo.getD x.i 0) y.i with
        | false => rfl
        | true =>
          have hym : y ∈ u ++ x :: v := List.mem_append_left _ hy
          have h1 := hrc y.i (hlt y hym) hb
          rw [hun y hym] at h1; cases h1
      obtain ⟨r1, r2⟩ := runs_bubble u hcomm hr
      obtain ⟨⟨g1, g2⟩, g3, g4⟩ := hss x hx
      have hxl : x.i < listed.size := by rw [hsz]; exact hlt x hx
      refine g2 F w0 ρ w a env h he (by omega) r1 hs (hfr x hx) _ Q fun ρ' a' w' q1 q2 q3 q4 q5 => ?_
      have hnd' : (((u ++ v).map (·.i)).Nodup) ∧ x.i ∉ (u ++ v).map (·.i) := by
        rw [List.map_append, List.map_cons, List.nodup_append] at hnd
        obtain ⟨n1, n2, n3⟩ := hnd
        rw [List.nodup_cons] at n2
        refine ⟨?_, ?_⟩
        · rw [List.map_append, List.nodup_append]
          exact ⟨n1, n2.2, fun a ha b hb => n3 a ha b (List.mem_cons_of_mem _ hb)⟩
        · rw [List.map_append, List.mem_append]
          rintro (hu | hv)
          · exact n3 _ hu _ (List.mem_cons_self ..) rfl
          · exact n2.1 hv
      have hsub : ∀ y ∈ u ++ v, y ∈ u ++ x :: v := fun y hy => by
        rcases List.mem_append.1 hy with hy | hy
        · exact List.mem_append_left _ hy
        · exact List.mem_append_right _ (List.mem_cons_of_mem _ hy)
      refine ih (u ++ v) (listed.setIfInBounds x.i true) (x.env env) (x.heap h) ρ' a' w' ?_ (by simpa using hsz) hnd'.1 (fun k hk => ?_) (fun y hy => hlt y (hsub y hy)) ?_ p3 (fun y hy => hss y (hsub y hy)) v3 ?_ ?_ r2 q2 hN (q3.trans hasz) (q4.trans hdf) q5
      · simp only [List.length_append, List.length_cons] at hlen ⊢; omega
      · by_cases e : x.i = k
        · subst e
          constructor
          · intro hk2; simp [hxl] at hk2
          · intro hk2; exact absurd hk2 hnd'.2
        · rw [getD_set_ne true e, hiff k hk]
          simp only [List.map_append, List.map_cons, List.mem_append, List.mem_cons]
          constructor
          · rintro (h1 | h1 | h1)
            · exact .inl h1
            · exact absurd h1.symm e
            · exact .inr h1
          · rintro (h1 | h1)
            · exact .inl h1
            · exact .inr (.inr h1)
      · intro k j hk hj hb
        by_cases e : x.i = k
        · subst e
          exact getD_set_true (hrc j hj hb)
        · rw [getD_set_ne false e] at hk
          exact getD_set_true (hcl k j hk hj hb)
      · intro y hy o h1 h2
        cases hx' : ρ' o with
        | none => rfl
        | some l =>
          rcases q1.new o l hx' with h3 | h3
          · rw [hfr y (hsub y hy) o h1 h2] at h3; cases h3
          · rcases List.mem_append.1 hy with hy | hy
            · have := v1 y hy; omega
            · have := v2 y hy; omega
      · refine ⟨hext.sub.trans q1.sub, fun o l h1 => ?_⟩
        rcases q1.new o l h1 with h2 | h2
        · exact hext.new o l h2
        · exact .inr ⟨by omega, by omega⟩
end
end Go.Am
