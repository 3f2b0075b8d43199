/- Each operation of the abstract machine is borne by the model's: rows that are made, cuts, strings and bytes, maps. -/
import Derived.Test.YtgolgogmhcgecaaGreatAmOps3
import Derived.MapKept
import Derived.Laws.IdiomStrings
namespace Go.Am
set_option linter.unusedVariables false
set_option linter.unusedSimpArgs false

section
variable {P : Program} {F : Fr} {w0 w : World} {ρ : Rho} {a : Act} {e : Tr AV}

/-! ### Rows -/
theorem zeros_rep {z : List AV} {zc : Array Value} (hz : RepL ρ z zc.toList) (h0 : 0 < zc.size) (n : Nat) : RepL ρ (repN z n) ((Array.range (n * zc.size)).map (zc[· % zc.size]!)).toList := by
  obtain ⟨us, h1, h2, h3⟩ := hz.repN n
  have : ((Array.range (n * zc.size)).map (zc[· % zc.size]!)).toList = us := by
    apply List.ext_getElem?
    intro i
    simp at h2 h3
    by_cases hi : i < n * zc.size
    · have hm : i % zc.size < zc.size := Nat.mod_lt _ h0
      rw [h3 i hi]
      simp [hi, hm]
    · rw [List.getElem?_eq_none (by simp; omega), List.getElem?_eq_none (by omega)]
  rw [this]
  exact h1

theorem ok_buildSlice {t el : TypeId} {len es : Nat} {ps : Array (Nat × Operand)} {z : List AV} {l : List (Nat × Nat × AX)} (hu : P.underlying t = some (.slice el)) (he1 : sizeA P el = some es) (hz : zeroOf P el = some z) (hl : partsArr es ps.toList = some l)
    (h24 : len * es ≤ 2 ^ 24) (hzl : z.length = es) (h0 : 0 < es) : OpOk P (fBuildSlice len (repN z len) l) (.buildSlice t len ps) := by
  intro call e s v s' h
  unfold fBuildSlice at h
  split at h
  · next cs h1 =>
    simp only [St.new, Option.some.injEq, Prod.mk.injEq] at h
    obtain ⟨rfl, rfl⟩ := h
    refine ⟨Nat.le_succ _, fun F w0 ρ w a he hs hfr o ho => ?_⟩
    obtain ⟨zv, hrun, hr⟩ := zero_rep hz
    have hzs : zv.cells.size = es := by have := (hr ρ).length; rw [Array.length_toList] at this; omega
    have hrow := zeros_rep (hr ρ) (by omega) len
    obtain ⟨c', h2, h3, h4⟩ := fill_run he (place := fun i => some (i * es, es)) ps.toList l _ cs _ (parts_arr hl) h1 hrow
    obtain ⟨hx, hs'⟩ := hs.newCells (hfr s.next (Nat.le_refl _) (Nat.lt_succ_self _)) h3 el
    refine ⟨_, .slice (some ⟨w.heap.size, 0, none⟩) len len, _, hx, ?_, by simpa only [Tr.put_get] using hs', .inl ?_⟩
    · simp only [Rep, capOk]; exact ⟨_, len, upd_same _ _ _, by simp, Nat.le_refl _, rfl⟩
    · have hsz := size_run he1 w
      simp only [execOp, ho]
      refine run_v ?_
      simp only [Instr.buildSlice, Sem.run_bind, run_underlying hu, Result.andThen_ok, hsz]
      rw [if_neg (by omega)]
      rw [show (ps.map fun (i, x) => (i, a.eval x)).toList = ps.toList.map fun p => (p.1, a.eval p.2) from by simp]
      by_cases q : len * es = 0
      · have hsame : ((Array.range (len * es)).map fun x => (#[] : Array Value)[x % (#[] : Array Value).size]!) = (Array.range (len * zv.cells.size)).map (zv.cells[· % zv.cells.size]!) := by rw [hzs, q]; simp
        rw [if_pos q]
        simp only [Sem.run_bind, Sem.run_pure, Result.andThen_ok, hsame, h2]
        simp [newRow]
      · have hsame : ((Array.range (len * es)).map fun x => zv.cells[x % zv.cells.size]!) = (Array.range (len * zv.cells.size)).map (zv.cells[· % zv.cells.size]!) := by rw [hzs]
        rw [if_neg q]
        simp only [Sem.run_bind, Sem.run_pure, Result.andThen_ok, hrun, hsame, h2]
        simp [newRow]
  · cases h

theorem wrap_small {n : Nat} (h : n ≤ 9223372036854775807) : IntKind.i64.wrap (n : Int) = (n : Int) := by
  simp only [IntKind.wrap, IntKind.bits, IntKind.signed]
  simp
  omega

theorem ok_makeSlice {t el : TypeId} {es bytes : Nat} {z : List AV} {l c : Operand} {l' c' : AX} (hu : P.underlying t = some (.slice el)) (he1 : sizeA P el = some es) (hb : bytesA P el = some bytes) (hz : zeroOf P el = some z) (hl : trX l = some l') (hc : trX c = some c')
    (hzl : z.length = es) (h0 : 0 < es) (hb0 : 0 < bytes) : OpOk P (fMakeSlice es bytes z l' c') (.makeSlice t l c) := by
  intro call e s v s' h
  unfold fMakeSlice at h
  split at h
  · next lv cv h1 h2 =>
    split at h
    · next ln cn h3 h4 =>
      cases q1 : Nat.ble ln cn with
      | false => rw [q1] at h; cases h
      | true => cases q2 : Nat.ble (cn * bytes) 140737488355328 with
        | false => rw [q1, q2] at h; cases h
        | true =>
          rw [q1, q2] at h
          simp only [cond_true, St.new, Option.some.injEq, Prod.mk.injEq] at h
          obtain ⟨rfl, rfl⟩ := h
          have hle := Nat.le_of_ble_eq_true q1
          have hbd := Nat.le_of_ble_eq_true q2
          have hcn : cn ≤ 140737488355328 := Nat.le_trans (Nat.le_mul_of_pos_right _ hb0) hbd
          refine ⟨Nat.le_succ _, fun F w0 ρ w a he hs hfr o ho => ?_⟩
          obtain ⟨k1, r1⟩ := natOf_some h3 (he.x hl h1)
          obtain ⟨k2, r2⟩ := natOf_some h4 (he.x hc h2)
          obtain ⟨zv, hrun, hr⟩ := zero_rep hz
          have hzs : zv.cells.size = es := by have := (hr ρ).length; rw [Array.length_toList] at this; omega
          have hrow := zeros_rep (hr ρ) (by omega) cn
          obtain ⟨hx, hs'⟩ := hs.newCells (hfr s.next (Nat.le_refl _) (Nat.lt_succ_self _)) hrow el
          refine ⟨_, .slice (some ⟨w.heap.size, 0, none⟩) ln cn, _, hx, ?_, by simpa only [Tr.put_get] using hs', .inl ?_⟩
          · simp only [Rep, capOk]; exact ⟨_, cn, upd_same _ _ _, by simp, by omega, rfl⟩
          · have hsz := size_run he1 w
            have hti : ∃ i, (typeInfo el).run P w = .ok i w ∧ i.bytes = bytes := by
              unfold bytesA at hb
              simp only [Option.map_eq_some_iff] at hb
              obtain ⟨i, hi, hib⟩ := hb
              exact ⟨i, by simp [typeInfo, hi], hib⟩
            obtain ⟨i, hi1, hi2⟩ := hti
            have w1 : IntKind.i64.wrap (ln : Int) = (ln : Int) := wrap_small (by omega)
            have w2 : IntKind.i64.wrap (cn : Int) = (cn : Int) := wrap_small (by omega)
            simp only [execOp, ho, r1, r2]
            refine run_v ?_
            simp only [Instr.makeSlice, Sem.run_bind, run_underlying hu, Result.andThen_ok, asInt, asIntOf, Sem.run_pure, hi1, hi2, w1, w2]
            have c1 : (decide ((cn : Int) < 0) || decide ((bytes : Int) * (cn : Int) > 2 ^ 48)) = false := by
              simp
              have : ((cn * bytes : Nat) : Int) ≤ ((140737488355328 : Nat) : Int) := Int.ofNat_le.2 hbd
              rw [Nat.mul_comm, Int.natCast_mul] at this
              omega
            have c2 : ((decide ((cn : Int) < 0) || decide ((bytes : Int) * (cn : Int) > 2 ^ 48)) = true ∨ (ln : Int) < 0 ∨ (ln : Int) > (cn : Int)) = False := by
              rw [c1]; simp; omega
            simp only [c1, Bool.false_or, Bool.or_eq_true, decide_eq_true_eq]
            rw [if_neg (by omega)]
            simp only [Sem.run_bind, Sem.run_pure, run_askRoom, Result.andThen_ok, Int.toNat_natCast, hsz]
            by_cases q : cn * es = 0
            · have hsame : ((Array.range (cn * es)).map fun x => (#[] : Array Value)[x % (#[] : Array Value).size]!) = (Array.range (cn * zv.cells.size)).map (zv.cells[· % zv.cells.size]!) := by rw [hzs, q]; simp
              rw [if_pos q]
              simp only [Sem.run_bind, Sem.run_pure, Result.andThen_ok, hsame]
              simp [newRow]
            · have hsame : ((Array.range (cn * es)).map fun x => zv.cells[x % zv.cells.size]!) = (Array.range (cn * zv.cells.size)).map (zv.cells[· % zv.cells.size]!) := by rw [hzs]
              rw [if_neg q]
              simp only [Sem.run_bind, Sem.run_pure, Result.andThen_ok, hrun, hsame]
              simp [newRow]
    · cases h
  · cases h

/-! ### Bytes and strings -/
theorem numBytes_get : ∀ (b : List Nat) (i : Nat), (numBytes b)[i]? = (b[i]?).map fun c => .int .u8 (.ofNat c)
  | [], i => by simp [show numBytes [] = [] from rfl]
  | c :: b, i => by
    rw [show numBytes (c :: b) = .int .u8 (.ofNat c) :: numBytes b from rfl]
    cases i with
    | zero => simp
    | succ i => simpa using numBytes_get b i
theorem numBytes_length (b : List Nat) : (numBytes b).length = b.length := by
  induction b with
  | nil => rfl
  | cons c b ih => rw [show numBytes (c :: b) = .int .u8 (.ofNat c) :: numBytes b from rfl]; simp [ih]

theorem ok_convSB {src dst el : TypeId} {x : Operand} {x' : AX} (hs1 : P.underlying src = some .string) (hd : P.underlying dst = some (.slice el)) (he1 : P.underlying el = some (.int .u8)) (hx : trX x = some x') : OpOk P (fConvSB x') (.convert src dst x) := by
  intro call e s v s' h
  unfold fConvSB at h
  split at h
  · next b h1 =>
    cases hb : Nat.ble (lenL b) 1099511627776 with
    | false => rw [hb] at h; cases h
    | true =>
      rw [hb] at h
      simp only [cond_true, St.new, Option.some.injEq, Prod.mk.injEq] at h
      obtain ⟨rfl, rfl⟩ := h
      have hbl := Nat.le_of_ble_eq_true hb
      rw [lenL_eq] at hbl
      refine ⟨Nat.le_succ _, fun F w0 ρ w a he hs hfr o ho => ?_⟩
      have r1 := he.x hx h1
      simp only [Rep] at r1
      obtain ⟨r1, hsm⟩ := r1
      have hn := hfr s.next (Nat.le_refl _) (Nat.lt_succ_self _)
      have hrun := Lib.run_convert_string_bytes (P := P) w src dst el (strOf b) hs1 hd he1
      have hcap : (strOf b).size ≤ grownCap w (strOf b).size 0 el := by
        simp only [grownCap, Question.cut]
        exact Nat.le_add_right _ _
      have hcs : (Lib.bytesCells w el (strOf b)).size = grownCap w (strOf b).size 0 el := by
        simp only [Lib.bytesCells, Array.size_append, Array.size_map, Array.size_replicate]
        have : (strOf b).data.size = (strOf b).size := rfl
        omega
      have hsat := (hs.drawn (w.drawn + 1)).push (sz := grownCap w (strOf b).size 0 el) hn (x := .cells (numBytes b) false)
        (y := .cells (Lib.bytesCells w el (strOf b)) el ((Lib.bytesCells w el (strOf b)).size, (Lib.bytesCells w el (strOf b)).size + 1)) rfl
        ⟨rfl, _, el, _, rfl, hcs, by rw [numBytes_length, ← strOf_size b]; exact hcap, fun i u hu => by
          rw [numBytes_get] at hu
          simp only [Option.map_eq_some_iff] at hu
          obtain ⟨c, hc, rfl⟩ := hu
          have hi : i < b.length := (List.getElem?_eq_some_iff.1 hc).1
          refine ⟨.int .u8 (c : Int), ?_, by simp only [Rep]; rfl⟩
          have hc' : b[i] = c := (List.getElem?_eq_some_iff.1 hc).2
          have hcs : c < 256 := hsm c (by rw [← hc']; exact List.getElem_mem _)
          simp only [Lib.bytesCells]
          rw [Array.getElem?_append_left (by simp [strOf]; exact hi)]
          simp [strOf, hi, hc']
          omega,
        fun i hi hh => by have hi' : i < grownCap w (strOf b).size 0 el := hi; simp only [hcs] at hh; omega⟩
      refine ⟨_, .slice (some ⟨w.heap.size, 0, none⟩) (strOf b).size (grownCap w (strOf b).size 0 el), Lib.bytesWorld w el (strOf b), Ext.upd hn ⟨w.heap.size, 0, grownCap w (strOf b).size 0 el⟩, ?_, ?_, .inl ?_⟩
      · simp only [Rep, capOk, lenL_eq, strOf_size]
        exact ⟨_, grownCap w b.length 0 el, upd_same _ _ _, by simp, by rw [← strOf_size b]; exact hcap, rfl, by simp⟩
      · simp only [Tr.put_get]
        refine hsat.same ?_ rfl rfl rfl
        apply Array.ext_getElem?
        intro j
        rcases Nat.lt_trichotomy j w.heap.size with q | q | q
        · rw [Lib.bytesWorld_at_old w el _ j q]
          show _ = (w.heap.push _)[j]?
          rw [push_old w _ q]
        · subst q
          rw [Lib.bytesWorld_at_new]
          show _ = (w.heap.push _)[w.heap.size]?
          simp
        · rw [Array.getElem?_eq_none (by rw [Lib.bytesWorld_size]; omega)]
          symm
          exact Array.getElem?_eq_none (by show (w.heap.push _).size ≤ j; rw [Array.size_push]; omega)
      · simp only [execOp, ho, r1]
        exact run_v hrun
  · cases h

theorem byteNums_nil : byteNums [] = some [] := rfl
theorem byteNums_cons (c : AV) (cs : List AV) : byteNums (c :: cs) = match byteOf c with
    | some n => match byteNums cs with
      | some l => some (n :: l)
      | none => none
    | none => none := rfl
theorem byteOf_some {c : AV} {n : Nat} (h : byteOf c = some n) : c = .int .u8 (n : Int) ∧ n < 256 := by
  unfold byteOf at h
  split at h
  · next m =>
    cases hb : Nat.ble m 255 with
    | false => rw [hb] at h; cases h
    | true =>
      rw [hb] at h; injection h with h; subst h
      have := Nat.le_of_ble_eq_true hb
      exact ⟨rfl, by omega⟩
  · cases h
theorem byteNums_some : ∀ {cs : List AV} {b : List Nat} {vs : List Value}, byteNums cs = some b → RepL ρ cs vs → vs = (b.map fun n => ((UInt8.ofNat n).toNat : Int)).map (Value.int .u8) ∧ small b
  | [], b, vs, h, hr => by
    rw [byteNums_nil] at h; injection h with h; subst h
    simp only [RepL] at hr; subst hr
    exact ⟨rfl, fun x hx => by cases hx⟩
  | c :: cs, b, vs, h, hr => by
    rw [byteNums_cons] at h
    split at h
    · next n hn =>
      split at h
      · next l hl =>
        injection h with h; subst h
        obtain ⟨rfl, hlt⟩ := byteOf_some hn
        simp only [RepL] at hr
        obtain ⟨v, r, rfl, h1, h2⟩ := hr
        obtain ⟨rfl, h3⟩ := byteNums_some hl h2
        simp only [Rep] at h1
        subst h1
        refine ⟨?_, fun x hx => ?_⟩
        · simp only [List.map_cons]
          congr 2
          simp
          omega
        · rcases List.mem_cons.1 hx with rfl | hx
          · exact hlt
          · exact h3 x hx
      · cases h
    · cases h

theorem ok_convBS {src dst el : TypeId} {x : Operand} {x' : AX} (hs1 : P.underlying src = some (.slice el)) (he1 : P.underlying el = some (.int .u8)) (hd : P.underlying dst = some .string) (hx : trX x = some x') : OpOk P (fConvBS x') (.convert src dst x) := by
  intro call e s v s' h
  unfold fConvBS at h
  split at h
  · next h1 =>
    simp only [Option.some.injEq, Prod.mk.injEq] at h
    obtain ⟨rfl, rfl⟩ := h
    refine ⟨Nat.le_refl _, fun F w0 ρ w a he hs hfr o ho => ?_⟩
    have r1 := he.x hx h1
    simp only [Rep] at r1
    refine res_here (cv := .string .empty) hs (by simp only [Rep]; exact ⟨rfl, fun x hx => by cases hx⟩) ?_
    simp [execOp, ho, r1, convert, run_underlying hs1, run_underlying hd, run_underlying he1, Conv.bytesToString]
  · next o' off len cap h1 =>
    split at h
    · next cs h2 =>
      split at h
      · next b h3 =>
        simp only [Option.some.injEq, Prod.mk.injEq] at h
        obtain ⟨rfl, rfl⟩ := h
        refine ⟨Nat.le_refl _, fun F w0 ρ w a he hs hfr o ho => ?_⟩
        have r1 := he.x hx h1
        simp only [Rep] at r1
        obtain ⟨l, c, hl, r1, _⟩ := r1
        obtain ⟨cs', ro, h4, h5⟩ := load_some h2
        obtain ⟨vs, h6, _, h7, _⟩ := hs.cells (P := P) h4 hl h5
        obtain ⟨rfl, hsm⟩ := byteNums_some h3 h6
        refine res_here (cv := .string (strOf b)) hs (by simp only [Rep]; exact ⟨trivial, hsm⟩) ?_
        have := run_bytesToString (P := P) w ⟨l.b, l.base + off, none⟩ len c (b.map fun n => ((UInt8.ofNat n).toNat : Int)) h7
        have e2 : (b.map fun n => ((UInt8.ofNat n).toNat : Int)) = (b.map UInt8.ofNat).map fun (x : UInt8) => (x.toNat : Int) := by rw [List.map_map]; rfl
        rw [e2, foldl_push_byteCells] at this
        have e3 : (⟨ByteArray.empty.data ++ (b.map UInt8.ofNat).toArray⟩ : ByteArray) = strOf b := by
          have : ByteArray.empty.data = #[] := rfl
          rw [this]
          simp [strOf]
        rw [e3] at this
        simp only [execOp, ho, r1]
        refine run_v ?_
        simp only [convert, Sem.run_bind, run_underlying hs1, run_underlying hd, run_underlying he1, Result.andThen_ok]
        exact this
      · cases h
    · cases h
  · cases h

/-! ### Cuts -/
/-- What a bound is. -/
theorem bound_run (he : EnvRep ρ e a.tmps) {x : Option Operand} {x' : Option AX} (hx : trXo x = some x') {d l : Nat} (h : bound e d x' = some l) : (x = none ∧ l = d) ∨ ∃ y k, x = some y ∧ a.eval y = .int k (l : Int) := by
  cases x with
  | none =>
    simp [trXo] at hx; subst hx
    simp [bound] at h
    exact .inl ⟨rfl, h.symm⟩
  | some y =>
    simp only [trXo, Option.map_eq_some_iff] at hx
    obtain ⟨z, hz, rfl⟩ := hx
    simp only [bound] at h
    split at h
    · next v hv =>
      obtain ⟨k, hk⟩ := natOf_some h (he.x hz hv)
      exact .inr ⟨y, k, rfl, hk⟩
    · cases h

theorem sliceBound_run {k : IntKind} {i y : Nat} (h : i ≤ y) (c : BoundsCode) : (Instr.sliceBound (.int k (i : Int)) y c).run P w = .ok i w := by
  simp [Instr.sliceBound, asIntOf, h]

theorem bounds_run {isS : Bool} {len cap l h : Nat} {lo hi : Option Value} (h1 : lo = none ∧ l = 0 ∨ ∃ k, lo = some (.int k (l : Int))) (h2 : hi = none ∧ h = len ∨ ∃ k, hi = some (.int k (h : Int))) (hl : l ≤ h) (hh : h ≤ cap) :
    (Instr.sliceBounds isS len cap lo hi none).run P w = .ok (l, h, cap) w := by
  rcases h1 with ⟨rfl, rfl⟩ | ⟨k1, rfl⟩ <;> rcases h2 with ⟨rfl, rfl⟩ | ⟨k2, rfl⟩ <;> simp [Instr.sliceBounds, sliceBound_run hl, sliceBound_run hh]
theorem bounds3_run {isS : Bool} {len cap l h m : Nat} {lo hi : Option Value} {km : IntKind} (h1 : lo = none ∧ l = 0 ∨ ∃ k, lo = some (.int k (l : Int))) (h2 : ∃ k, hi = some (.int k (h : Int))) (hl : l ≤ h) (hh : h ≤ m) (hm : m ≤ cap) :
    (Instr.sliceBounds isS len cap lo hi (some (.int km (m : Int)))).run P w = .ok (l, h, m) w := by
  obtain ⟨k2, rfl⟩ := h2
  rcases h1 with ⟨rfl, rfl⟩ | ⟨k1, rfl⟩ <;> simp [Instr.sliceBounds, sliceBound_run hl, sliceBound_run hh, sliceBound_run hm]

theorem bound_map (he : EnvRep ρ e a.tmps) {x : Option Operand} {x' : Option AX} (hx : trXo x = some x') {d l : Nat} (h : bound e d x' = some l) : x.map a.eval = none ∧ l = d ∨ ∃ k, x.map a.eval = some (.int k (l : Int)) := by
  rcases bound_run he hx h with ⟨rfl, rfl⟩ | ⟨y, k, rfl, hk⟩
  · exact .inl ⟨rfl, rfl⟩
  · exact .inr ⟨k, by simp [hk]⟩

theorem strOf_extract (b : List Nat) (l h : Nat) : (strOf b).extract l h = strOf ((b.take h).drop l) := by
  apply ByteArray.ext
  simp only [ByteArray.data_extract, strOf]
  apply Array.ext'
  simp [List.extract_eq_take_drop, List.map_take, List.map_drop, List.take_drop]
  by_cases q : l ≤ h
  · rw [show l + (h - l) = h from by omega]
  · rw [List.drop_eq_nil_of_le (by simp; omega), List.drop_eq_nil_of_le (by simp; omega)]

theorem ok_sliceStr {t : TypeId} {x : Operand} {lo hi : Option Operand} {x' : AX} {lo' hi' : Option AX} (hu : P.underlying t = some .string) (hx : trX x = some x') (hlo : trXo lo = some lo') (hhi : trXo hi = some hi') : OpOk P (fSliceStr x' lo' hi') (.slice t x lo hi none) := by
  intro call e s v s' h
  unfold fSliceStr at h
  split at h
  · next b h1 =>
    split at h
    · next l hh h2 h3 =>
      cases q1 : Nat.ble l hh with
      | false => rw [q1] at h; cases h
      | true => cases q2 : Nat.ble hh (lenL b) with
        | false => rw [q1, q2] at h; cases h
        | true =>
          rw [q1, q2] at h
          simp only [cond_true, Option.some.injEq, Prod.mk.injEq] at h
          obtain ⟨rfl, rfl⟩ := h
          have a1 := Nat.le_of_ble_eq_true q1
          have a2 := Nat.le_of_ble_eq_true q2
          rw [lenL_eq] at a2 h3
          refine ⟨Nat.le_refl _, fun F w0 ρ w a he hs hfr o ho => ?_⟩
          have r1 := he.x hx h1
          simp only [Rep] at r1
          obtain ⟨r1, hsm⟩ := r1
          have hb := bounds_run (P := P) (w := w) (isS := false) (len := b.length) (cap := b.length) (bound_map he hlo h2) (bound_map he hhi h3) a1 a2
          refine res_here (cv := .string (strOf ((b.take hh).drop l))) hs (by simp only [Rep]; exact ⟨trivial, fun x hx => hsm x (List.mem_of_mem_take (List.mem_of_mem_drop hx))⟩) ?_
          simp only [execOp, ho, r1]
          refine run_v ?_
          simp [Instr.sliceAt, run_underlying hu, Instr.slice, strOf_size, hb, strOf_extract]
    · cases h
  · cases h

theorem lmax_le {a b c : Nat} (h : a ≤ c) (h' : b ≤ c) : lmax a b ≤ c := by
  unfold lmax
  cases Nat.ble a b <;> assumption
theorem cut_rep {es o' off len : Nat} {cap : Cap} {L l h : Nat} {mx : Option Nat} {v : AV} (hc : cutSl es o' off len cap L l h mx = some v) (hes : 0 < es) {lc : Loc} (hl : ρ o' = some lc) {c : Nat} (hcap : capOk lc off cap c) (hlen : len ≤ c) (hL : L ≤ lc.sz) :
    l ≤ h ∧ h ≤ mx.getD c ∧ mx.getD c ≤ c ∧ Rep ρ v (.slice (if mx.getD c = l then some ⟨lc.b, lc.base + off, none⟩ else some ⟨lc.b, lc.base + (off + l * es), none⟩) (h - l) (mx.getD c - l)) := by
  unfold cutSl at hc
  cases q1 : Nat.ble l h with
  | false => rw [q1] at hc; cases hc
  | true =>
    rw [q1, cond_true] at hc
    have a1 := Nat.le_of_ble_eq_true q1
    refine ⟨a1, ?_⟩
    split at hc
    · next c0 =>
      simp only [capOk] at hcap
      subst hcap
      simp only [Option.getD_none]
      cases q2 : Nat.ble h c with
      | false => rw [q2] at hc; cases hc
      | true =>
        rw [q2] at hc; simp only [cond_true, Option.some.injEq] at hc; subst hc
        refine ⟨Nat.le_of_ble_eq_true q2, Nat.le_refl _, ?_⟩
        simp only [Rep, capOk]
        have hc1 := Nat.le_of_ble_eq_true q2
        refine ⟨lc, c - l, hl, ?_, by omega, rfl⟩
        by_cases q3 : c = l
        · subst q3; simp
        · have : Nat.beq c l = false := by rw [Bool.eq_false_iff]; intro z; exact q3 (Nat.eq_of_beq_eq_true z)
          rw [this, if_neg q3]; rfl
    · next c0 m =>
      simp only [capOk] at hcap
      subst hcap
      simp only [Option.getD_some]
      cases q2 : Nat.ble h m with
      | false => rw [q2] at hc; cases hc
      | true => cases q3 : Nat.ble m c with
        | false => rw [q2, q3] at hc; cases hc
        | true =>
          rw [q2, q3] at hc; simp only [cond_true, Option.some.injEq] at hc; subst hc
          refine ⟨Nat.le_of_ble_eq_true q2, Nat.le_of_ble_eq_true q3, ?_⟩
          simp only [Rep, capOk]
          have hc1 := Nat.le_of_ble_eq_true q2
          refine ⟨lc, m - l, hl, ?_, by omega, rfl⟩
          by_cases q4 : m = l
          · subst q4; simp
          · have : Nat.beq m l = false := by rw [Bool.eq_false_iff]; intro z; exact q4 (Nat.eq_of_beq_eq_true z)
            rw [this, if_neg q4]; rfl
    · next es' =>
      obtain ⟨hb0, hcap⟩ := hcap
      simp only [Option.getD_none]
      cases q2 : Nat.beq es es' with
      | false => rw [q2] at hc; cases hc
      | true =>
        have := Nat.eq_of_beq_eq_true q2; subst this
        rw [q2, cond_true] at hc
        have hL := lmax_le hL (show off + len * es ≤ lc.sz by have := Nat.mul_le_mul_right es hlen; omega)
        generalize lmax L (off + len * es) = L at hc hL
        cases q3 : Nat.ble (off + h * es) L with
        | false => rw [q3] at hc; cases hc
        | true =>
          rw [q3, cond_true] at hc
          have a3 := Nat.le_of_ble_eq_true q3
          have hhc : h ≤ c := by
            have : off + h * es ≤ off + c * es := by omega
            exact Nat.le_of_mul_le_mul_right (by omega) hes
          cases q4 : Nat.blt (off + l * es) L with
          | true =>
            rw [q4, cond_true] at hc
            injection hc with hc; subst hc
            have a4 : off + l * es < L := Nat.lt_of_succ_le (Nat.le_of_ble_eq_true q4)
            have hlc : l < c := by
              have : off + l * es < off + c * es := by omega
              exact Nat.lt_of_mul_lt_mul_right (a := es) (by omega)
            refine ⟨hhc, Nat.le_refl _, ?_⟩
            rw [if_neg (by omega)]
            simp only [Rep, capOk]
            refine ⟨lc, c - l, hl, rfl, by omega, hb0, ?_⟩
            rw [Nat.sub_mul]
            have : l * es ≤ c * es := Nat.mul_le_mul_right _ (by omega)
            omega
          | false =>
            rw [q4, cond_false] at hc
            cases q5 : Nat.beq l 0 with
            | false =>
              rw [q5] at hc; simp only [cond_false, Option.some.injEq] at hc; subst hc
              have a4 : L ≤ off + l * es := by
                rcases Nat.lt_or_ge (off + l * es) L with z | z
                · rw [show Nat.blt (off + l * es) L = true from Nat.ble_eq_true_of_le z] at q4; cases q4
                · exact z
              have a5 : h ≤ l := by
                have : h * es ≤ l * es := by omega
                exact Nat.le_of_mul_le_mul_right this hes
              have a6 : h - l = 0 := by omega
              refine ⟨hhc, Nat.le_refl _, ?_⟩
              rw [a6]
              simp only [Rep]
              by_cases z : c = l
              · rw [if_pos z]; exact ⟨_, _, rfl⟩
              · rw [if_neg z]; exact ⟨_, _, rfl⟩
            | true =>
              rw [q5] at hc; simp only [cond_true, Option.some.injEq] at hc; subst hc
              have := Nat.eq_of_beq_eq_true q5; subst this
              refine ⟨hhc, Nat.le_refl _, ?_⟩
              simp only [Rep, capOk]
              refine ⟨lc, c, hl, by simp, hhc, hb0, by omega⟩
    · next es' m =>
      obtain ⟨hb0, hcap⟩ := hcap
      simp only [Option.getD_some]
      cases q2 : Nat.beq es es' with
      | false => rw [q2] at hc; cases hc
      | true =>
        have := Nat.eq_of_beq_eq_true q2; subst this
        rw [q2, cond_true] at hc
        have hL := lmax_le hL (show off + len * es ≤ lc.sz by have := Nat.mul_le_mul_right es hlen; omega)
        generalize lmax L (off + len * es) = L at hc hL
        cases q3 : Nat.ble (off + m * es) L with
        | false => rw [q3] at hc; cases hc
        | true =>
          rw [q3, cond_true] at hc
          have a3 := Nat.le_of_ble_eq_true q3
          have hhc : m ≤ c := by
            have : off + m * es ≤ off + c * es := by omega
            exact Nat.le_of_mul_le_mul_right (by omega) hes
          cases q4 : Nat.ble h m with
          | false => rw [q4] at hc; cases hc
          | true =>
            rw [q4] at hc; simp only [cond_true, Option.some.injEq] at hc; subst hc
            refine ⟨Nat.le_of_ble_eq_true q4, hhc, ?_⟩
            simp only [Rep, capOk]
            have hc1 := Nat.le_of_ble_eq_true q4
            refine ⟨lc, m - l, hl, ?_, by omega, rfl⟩
            by_cases q5 : m = l
            · subst q5; simp
            · have : Nat.beq m l = false := by rw [Bool.eq_false_iff]; intro z; exact q5 (Nat.eq_of_beq_eq_true z)
              rw [this, if_neg q5]; rfl

theorem Sat.known {s : St} (hs : Sat F w0 ρ s.heap.get w) {o : Nat} {l : Loc} (hl : ρ o = some l) : s.known o ≤ l.sz := by
  unfold St.known
  split
  · next cs hc =>
    obtain ⟨l', h1, h2⟩ := hs.objs o _ hc
    rw [hl] at h1; injection h1 with h1; subst h1
    obtain ⟨hb, c, t, fr, _, _, h3, _⟩ := h2
    rw [lenL_eq]
    exact h3
  · exact Nat.zero_le _
end
end Go.Am
