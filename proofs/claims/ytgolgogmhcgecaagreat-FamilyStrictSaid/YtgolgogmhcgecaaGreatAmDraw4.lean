/- A region that draws its order is borne. -/
import Derived.Test.YtgolgogmhcgecaaGreatAmDraw3
namespace Go.Am
set_option linter.unusedVariables false
set_option linter.unusedSimpArgs false

section
variable {P : Program} {ops : Array Oper}

theorem drawF_nil (call : Call) (e : Tr AV) (s : St) (rs : List Note) (ws : List (Nat × Nat)) : drawF [] call e s rs ws = some (e, s) := rfl
theorem drawF_cons (d : DOp) (l : List DOp) (call : Call) (e : Tr AV) (s : St) (rs : List Note) (ws : List (Nat × Nat)) : drawF (d :: l) call e s rs ws = match stepD d call e s rs ws with
    | some (e', s', rs', ws') => drawF l call e' s' rs' ws'
    | none => none := rfl

theorem draw_run {N : Nat} {clo : List Nat} {call : Call} (hcall : CallOk P call) : ∀ (l : List DOp) (e : Tr AV) (s : St) (rs : List Note) (ws : List (Nat × Nat)) (e' : Tr AV) (s' : St), drawF l call e s rs ws = some (e', s') → (∀ d ∈ l, DOk P ops N d ∧ d.clo = clo.getD d.i 0) → pairsOk l = true →
    ∃ L : List SD, L.map (·.i) = l.map (·.i) ∧ s.next ≤ s'.next ∧ Runs e'.get s'.heap.get L e.get s.heap.get ∧ (∀ x ∈ L, (∃ d ∈ l, Tie d x) ∧ SDSound P ops N x ∧ s.next ≤ x.n ∧ x.m ≤ s'.next) ∧ L.Pairwise (fun y x => y.m ≤ x.n) ∧
      (∀ r ∈ rs, ∀ x ∈ L, ∀ h1 h2, x.k = .wr h1 h2 → bitOf (clo.getD x.i 0) r.1 = false → hasAt h2 r.2.1 r.2.2.1 r.2.2.2) ∧
      (∀ r ∈ ws, ∀ x ∈ L, ∀ o off vs, x.k = .rd o off vs → bitOf (clo.getD x.i 0) r.1 = false → r.2 ≤ o ∧ o < x.n) ∧
      ∀ (F : Fr) (w0 : World) (ρ : Rho) (w : World) (a : Act), EnvRepF ρ e.get a.tmps → N ≤ a.tmps.size → Sat F w0 ρ s.heap.get w → Fresh ρ s.next s'.next → L.Pairwise (fun y x => bitOf (clo.getD x.i 0) y.i = false → Comm y x)
  | [], e, s, rs, ws, e', s', h, hd, hp => by
    rw [drawF_nil] at h
    simp only [Option.some.injEq, Prod.mk.injEq] at h
    obtain ⟨rfl, rfl⟩ := h
    exact ⟨[], rfl, Nat.le_refl _, ⟨rfl, rfl⟩, fun x hx => (by cases hx), List.Pairwise.nil, fun r _ x hx => (by cases hx), fun r _ x hx => (by cases hx), fun _ _ _ _ _ _ _ _ _ => List.Pairwise.nil⟩
  | d :: l, e, s, rs, ws, e', s', h, hd, hp => by
    rw [drawF_cons] at h
    split at h
    · next e1 s1 rs1 ws1 h1 =>
      obtain ⟨hdo, hdc⟩ := hd d (List.mem_cons_self ..)
      obtain ⟨x, t, g1, g2, g3, g4, g5, g6, g7, g8, g9, g10, g11, g12, g13⟩ := step_sd hdo hcall h1
      simp only [pairsOk, Bool.and_eq_true, List.all_eq_true] at hp
      obtain ⟨L, i1, i2, i3, i4, i5, i6, i8, i7⟩ := draw_run hcall l e1 s1 rs1 ws1 e' s' h (fun d' hd' => hd d' (List.mem_cons_of_mem _ hd')) hp.2
      have hle : s.next ≤ s1.next := by have := g1.1; omega
      refine ⟨x :: L, ?_, by omega, ⟨g4, ?_⟩, ?_, ?_, ?_, ?_, ?_⟩
      · rw [List.map_cons, List.map_cons, i1, t.i]
      · rw [← g5, ← g6]; exact i3
      · intro z hz
        rcases List.mem_cons.1 hz with rfl | hz
        · exact ⟨⟨d, List.mem_cons_self .., t⟩, g1, by omega, by omega⟩
        · obtain ⟨⟨d', j1, j2⟩, j3, j4, j5⟩ := i4 z hz
          exact ⟨⟨d', List.mem_cons_of_mem _ j1, j2⟩, j3, by omega, j5⟩
      · rw [List.pairwise_cons]
        exact ⟨fun z hz => by have := (i4 z hz).2.2.1; omega, i5⟩
      · intro r hr z hz h1' h2' hk hb
        rcases List.mem_cons.1 hz with rfl | hz
        · refine g9 h1' h2' hk r hr ?_
          rw [hdc, ← t.i]; exact hb
        · exact i6 r (g7 r hr) z hz h1' h2' hk hb
      · intro r hr z hz o off vs hk hb
        rcases List.mem_cons.1 hz with rfl | hz
        · refine g13 o off vs hk r hr ?_
          rw [hdc, ← t.i]; exact hb
        · exact i8 r (g10 r hr) z hz o off vs hk hb
      · intro F w0 ρ w a he hN hs hf
        have hfx : Fresh ρ x.n x.m := fun o q1 q2 => hf o (by omega) (by omega)
        obtain ⟨a1, w1, ρ1, e1', k1, k2, k3⟩ := wpOp_exists (g1.2 F w0 ρ w a e.get s.heap.get he hN g4 hs hfx (fun a' w' => ∃ ρ', Ext ρ ρ' x.n x.m ∧ EnvRepF ρ' (x.env e.get) a'.tmps ∧ a'.tmps.size = a.tmps.size ∧ Sat F w0 ρ' (x.heap s.heap.get) w') (fun _ _ _ => False) fun ρ' a' w' q1 q2 q3 q4 q5 => ⟨ρ', q1, q2, q3, q5⟩)
        rw [← g5] at k1
        rw [← g6] at k3
        have hf1 : Fresh ρ1 s1.next s'.next := fun o q1 q2 => by
          cases hx : ρ1 o with
          | none => rfl
          | some lc =>
            rcases e1'.new o lc hx with y | y
            · rw [hf o (by omega) q2] at y; cases y
            · omega
        rw [List.pairwise_cons]
        refine ⟨fun z hz hb => ?_, i7 F w0 ρ1 w1 a1 k1 (by omega) k3 hf1⟩
        obtain ⟨⟨d', j1, j2⟩, j3, j4, j5⟩ := i4 z hz
        have hp1 := hp.1 d' j1
        have hb' : bitOf d'.clo d.i = false := by rw [(hd d' (List.mem_cons_of_mem _ j1)).2, ← j2.i, ← t.i]; exact hb
        rw [hb', Bool.false_or, Bool.and_eq_true] at hp1
        obtain ⟨ha, hk⟩ := hp1
        simp only [tsApart, Bool.and_eq_true] at ha
        have hold : ∀ o, s.next ≤ o → o < s'.next → s.heap.get o = none := fun o q1 q2 => by
          cases ho : s.heap.get o with
          | none => rfl
          | some y =>
            obtain ⟨lc, hl, _⟩ := hs.objs o y ho
            rw [hf o q1 q2] at hl; cases hl
        have hnew : ∀ o, s1.next ≤ o → o < s'.next → s1.heap.get o = none := fun o q1 q2 => by
          cases ho : s1.heap.get o with
          | none => rfl
          | some y =>
            obtain ⟨lc, hl, _⟩ := k3.objs o y ho
            rw [hf1 o q1 q2] at hl; cases hl
        have hwr : ∀ o, s1.next ≤ o → o < s'.next → ∀ h1' h2', x.k = .wr h1' h2' → h1' o = none ∧ h2' o = none := by
          intro o q1 q2 h1' h2' hxk
          have hpre := g4.2
          rw [hxk] at hpre
          constructor
          · cases ho : h1' o with
            | none => rfl
            | some u =>
              have := hpre o u ho
              rw [hold o (by omega) (by omega)] at this; cases this
          · cases ho : h2' o with
            | none => rfl
            | some u =>
              have hn := hnew o (by omega) (by omega)
              rw [g6] at hn
              unfold SD.heap at hn
              rw [hxk] at hn
              simp only [ho] at hn
              cases hh : h1' o <;> rw [hh] at hn <;> cases hn
        refine ⟨fun dd hdd => ?_, fun dd hdd => ?_, ?_⟩
        · have ha1 := ha.1
          rw [← t.dst, hdd] at ha1
          simp only [Bool.and_eq_true, Bool.not_eq_true', beq_eq_false_iff_ne] at ha1
          refine ⟨?_, by rw [j2.dst]; exact ha1.2⟩
          cases hv : z.e.get dd with
          | none => rfl
          | some v =>
            have := j2.ts dd v hv
            rw [← List.contains_iff_mem, ha1.1] at this; cases this
        · have ha2 := ha.2
          rw [← j2.dst, hdd] at ha2
          simp only [Bool.not_eq_true'] at ha2
          cases hv : x.e.get dd with
          | none => rfl
          | some v =>
            have := t.ts dd v hv
            rw [← List.contains_iff_mem, ha2] at this; cases this
        · have hkx := t.k
          have hkz := j2.k
          unfold commK
          cases hxk : x.k with
          | pure => trivial
          | rd o off vs =>
            cases hzk : z.k with
            | pure => trivial
            | rd _ _ _ => trivial
            | alloc y =>
              have hm := j2.m y hzk
              have hpre := g4.2
              rw [hxk] at hpre
              obtain ⟨cs, ro, q1, _⟩ := hpre
              show o ≠ z.n
              rintro rfl
              rw [hold z.n (by omega) (by omega)] at q1; cases q1
            | wr h1' h2' => exact i6 _ (g8 o off vs hxk) z hz h1' h2' hzk (by rw [← t.i]; exact hb)
          | alloc y =>
            rw [hxk] at hkx
            cases hzk : z.k with
            | pure => trivial
            | rd o off vs =>
              obtain ⟨q1, q2⟩ := i8 _ (g11 y hxk) z hz o off vs hzk (by rw [← t.i]; exact hb)
              have hm := t.m y hxk
              show o ≠ x.n
              simp only at q1
              omega
            | alloc y' =>
              have := t.m y hxk
              show x.n ≠ z.n
              omega
            | wr _ _ =>
              rw [hzk] at hkz
              have e1 : d.k = .alloc := hkx
              have e2 : d'.k = .wr := hkz
              rw [e1, e2] at hk
              cases hk
          | wr h1' h2' =>
            rw [hxk] at hkx
            cases hzk : z.k with
            | pure => trivial
            | rd o off vs =>
              obtain ⟨q1, q2⟩ := i8 _ (g12 h1' h2' hxk) z hz o off vs hzk (by rw [← t.i]; exact hb)
              have q3 := j3.1
              simp only at q1
              exact hwr o (by omega) (by omega) h1' h2' hxk
            | wr _ _ =>
              rw [hzk] at hkz
              have e1 : d.k = .wr := hkx
              have e2 : d'.k = .wr := hkz
              rw [e1, e2] at hk
              cases hk
            | alloc y =>
              have hm := j2.m y hzk
              exact hwr z.n (by omega) (by omega) h1' h2' hxk
    · cases h

theorem topo_lt {md : Region.Mode} : ∀ (l done : List Nat), topoGo md ops l done = true → ∀ i ∈ l, i < ops.size
  | [], _, _, _, h => by cases h
  | i :: l, done, ht, j, hj => by
    simp only [topoGo, Bool.and_eq_true] at ht
    rcases List.mem_cons.1 hj with rfl | hj
    · have h1 := ht.1
      split at h1
      · next o ho => simpa using (List.getElem?_eq_some_iff.1 ho).1
      · cases h1
    · exact topo_lt l (i :: done) ht.2 j hj
theorem nodup_of : ∀ {l : List Nat}, nodupB l = true → l.Nodup
  | [], _ => List.nodup_nil
  | i :: l, h => by
    simp only [nodupB, Bool.and_eq_true, Bool.not_eq_true'] at h
    rw [List.nodup_cons]
    refine ⟨fun hm => ?_, nodup_of h.2⟩
    rw [← List.contains_iff_mem, h.1] at hm; cases hm

theorem drawOp_i (N : Nat) (clo : List Nat) (i : Nat) : (drawOp P N ops clo i).i = i ∧ (drawOp P N ops clo i).clo = clo.getD i 0 := by
  unfold drawOp
  split
  · next x hx => cases dstOk N x <;> exact ⟨rfl, rfl⟩
  · exact ⟨rfl, rfl⟩
theorem drawOp_ok (N : Nat) (clo : List Nat) (i : Nat) : DOk P ops N (drawOp P N ops clo i) := by
  have bad : DOk P ops N ⟨i, .wr, clo.getD i 0, none, [], fBad⟩ := ⟨gsound_bad _ _, fun h => (by cases h), fun t ht => (by cases ht)⟩
  unfold drawOp
  split
  · next x hx =>
    have hi : ops[i]? = some x := by rw [← Array.getElem?_toList]; exact hx
    cases hd : dstOk N x with
    | false => exact bad
    | true =>
      refine ⟨trG_sound hi, fun h => rdOk_trG h, fun t ht => ?_⟩
      have ht' : x.dst = some t := ht
      unfold dstOk at hd
      rw [ht'] at hd
      exact Nat.lt_of_succ_le (Nat.le_of_ble_eq_true hd)
  · exact bad

theorem departs_eq (ops : Array Oper) : departsB ops = Region.departs ops := by
  unfold departsB Region.departs
  simp only [← Array.any_toList]

theorem draw_sound : DrawSound P := by
  intro N id ops hok call hcall e s r h
  unfold cDraw at h
  split at h
  · next e' s' hrun =>
    simp only [Option.some.injEq] at h
    subst h
    unfold drawOk at hok
    simp only [Bool.and_eq_true, beq_iff_eq, Bool.or_eq_true, Bool.not_eq_true'] at hok
    obtain ⟨⟨⟨⟨⟨o1, o2⟩, o3⟩, o4⟩, o5⟩, o6⟩ := hok
    have hidx : (drawOps P N ops).map (·.i) = drawOrder P ops := by
      unfold drawOps
      rw [List.map_map]
      conv => rhs; rw [← List.map_id (drawOrder P ops)]
      exact List.map_congr_left fun i _ => (drawOp_i N _ i).1
    have hds : ∀ d ∈ drawOps P N ops, DOk P ops N d ∧ d.clo = (drawClo ops).getD d.i 0 := fun d hd => by
      unfold drawOps at hd
      obtain ⟨i, _, rfl⟩ := List.mem_map.1 hd
      exact ⟨drawOp_ok N _ i, by rw [(drawOp_i N _ i).2, (drawOp_i N _ i).1]⟩
    obtain ⟨L, i1, i2, i3, i4, i5, i6, _, i7⟩ := draw_run (N := N) (clo := drawClo ops) hcall (drawOps P N ops) e s [] [] e' s' hrun hds o4
    refine ⟨i2, fun F w0 ρ w a he hsz hs hfr Q hQ => wp_region_draw fun t => ?_⟩
    have hpw := i7 F w0 ρ w a he hsz hs hfr
    rw [hidx] at i1
    have hlen : L.length = ops.size := by
      rw [← List.length_map (f := (·.i)), i1, ← hidx, List.length_map, o2]; simp
    have key : ∀ (md : Region.Mode) (ord : List Nat) (t : Nat), modeOk md ops ord = true → wpOps P ops Q (Region.linearise md ops t) a { w with drawn := w.drawn + 1 } := by
      intro md ord t hm
      refine wpAny_sound ops.size t _ a _ ?_
      refine any_sound (N := N) (lo := s.next) (hi := s'.next) (sz := a.tmps.size) (df := a.defers) o3 hm (F := F) (w0 := w0) (ρ0 := ρ) (envF := e'.get) (hF := s'.heap.get) (fun ρ' a' w' q1 q2 q3 q4 q5 => hQ ρ' a' w' q1 q2 q3 q4 q5) ops.size L _ e.get s.heap.get ρ a _ hlen (by simp) (by rw [i1]; exact nodup_of o1) (fun i hi => ?_) (fun x hx => ?_) (fun i j hi => ?_) hpw (fun x hx => (i4 x hx).2) i5 (fun x hx o q1 q2 => ?_) (Ext.refl _ _ _) i3 he hsz rfl rfl (hs.drawn _)
      · rw [i1]
        have o5' := o5
        simp only [modeOk, Bool.and_eq_true, allIn, List.all_eq_true, List.mem_range, List.contains_iff_mem] at o5'
        constructor
        · intro _; exact o5'.1 i (by simpa using hi)
        · intro _; simp [hi]
      · have o5' := o5
        simp only [modeOk, Bool.and_eq_true] at o5'
        refine topo_lt _ _ o5'.2 x.i ?_
        rw [← i1]; exact List.mem_map.2 ⟨x, hx, rfl⟩
      · by_cases hlt : i < ops.size
        · simp [hlt] at hi
        · simp [hlt] at hi
      · obtain ⟨_, _, q3, q4⟩ := i4 x hx
        exact hfr o (by omega) (by show o < s'.next; omega)
    unfold Region.schedule
    split
    · exact key _ _ _ o5
    · next hm =>
      have hdep : departsB ops = true := by
        rw [departs_eq]
        cases hq : Region.departs ops with
        | true => rfl
        | false => rw [hq] at hm; simp at hm
      rcases o6 with o6 | o6
      · rw [hdep] at o6; cases o6
      · split
        · exact key _ _ _ o6.1
        · exact key _ _ _ o6.2
  · cases h

theorem trFn_ok {f : FuncId} {G : Func} {F : FFn} (hG : P.funcs[f]? = some G) (hF : trFn P G = some F) : FnSound P f F := trFn_sound draw_sound hG hF
end
end Go.Am
