/- term.Names, whole: out of the pieces of its code. -/
import Derived.Test.YtgolgogmhcgecaaGreatAmNames10
namespace Go.Am
set_option linter.unusedVariables false
set_option linter.unusedSimpArgs false

structure NmParts where
  i0 : Nat
  i1 : Nat
  i2 : Nat
  i3 : Nat
  i4 : Nat
  i5 : Nat
  i6 : Nat
  i7 : Nat
  i8 : Nat
  i9 : Nat
  b0 : Nat
  b1 : Nat
  o0 : Array Oper
  o1 : Array Oper
  o2 : Array Oper
  o3 : Array Oper
  o4 : Array Oper
  o5 : Array Oper
  o6 : Array Oper
  o7 : Array Oper
  o8 : Array Oper
  o9 : Array Oper
def nmCode (p : NmParts) : Code :=
  .seq (.region p.i0 p.o0 false) (.seq (.region p.i1 p.o1 false) (.seq (.region p.i2 p.o2 false) (.seq (.region p.i3 p.o3 false)
    (.seq (.seq (.region p.i4 p.o4 false) (.block p.b0 (.loop (.seq (.region p.i5 p.o5 false) (.seq (.cond (.tmp 13) .skip (.exit p.b0)) (.block p.b1 (.seq (.region p.i6 p.o6 false) (.region p.i7 p.o7 false))))))))
      (.seq (.region p.i8 p.o8 false) (.seq (.region p.i9 p.o9 false) .ret))))))
def nmNone : NmParts := ⟨0, 0, 0, 0, 0, 0, 0, 0, 0, 0, 0, 0, #[], #[], #[], #[], #[], #[], #[], #[], #[], #[]⟩
def nmParts : Option Code → NmParts
  | some (.seq (.region i0 o0 _) (.seq (.region i1 o1 _) (.seq (.region i2 o2 _) (.seq (.region i3 o3 _)
    (.seq (.seq (.region i4 o4 _) (.block b0 (.loop (.seq (.region i5 o5 _) (.seq _ (.block b1 (.seq (.region i6 o6 _) (.region i7 o7 _))))))))
      (.seq (.region i8 o8 _) (.seq (.region i9 o9 _) _))))))) => ⟨i0, i1, i2, i3, i4, i5, i6, i7, i8, i9, b0, b1, o0, o1, o2, o3, o4, o5, o6, o7, o8, o9⟩
  | _ => nmNone
def rangeT (ops : Array Oper) : TypeId := match ops.toList.map sig with
  | [_, (.range t _, _, _)] => t
  | _ => 0
def callTs (ops : Array Oper) : Array TypeId := match ops.toList.map sig with
  | [_, (.call c, _, _)] => c.argTypes
  | _ => #[]
def isMapB (P : Program) (t : TypeId) : Bool := match P.underlying t with
  | some (.map _ _) => true
  | _ => false

theorem names_sound {P : Program} {f srt nms : FuncId} {G : Func} {p : NmParts} (hG : P.funcs[f]? = some G) (hb : G.body = some (nmCode p)) (hrs : trRes P G.results.toList = some [.tmp 2]) (hn : G.name ≠ "runtime.NumGoroutine")
    {F0 F1 F2 F3 : List FO} (h0 : p.o0.toList.map (trOper P G.ntmps p.o0) = F0) (h1 : p.o1.toList.map (trOper P G.ntmps p.o1) = F1) (h2 : p.o2.toList.map (trOper P G.ntmps p.o2) = F2) (h3 : p.o3.toList.map (trOper P G.ntmps p.o3) = F3)
    (h4 : p.o4.toList.map sig = [(.move (.tmp 3), some 10, none), (.range (rangeT p.o4) (.tmp 10), some 11, none)]) (hm : isMapB P (rangeT p.o4) = true)
    (h5 : p.o5.toList.map sig = [(.next (.tmp 11) false, some 12, none), (.extract (.tmp 12) 0, some 13, none)])
    (h6 : p.o6.toList.map sig = [(.entry (.tmp 11), some 14, none), (.extract (.tmp 14) 0, some 15, none), (.assign (.tmp 15), some 5, none)])
    (h7 : p.o7.toList.map (trOper P G.ntmps p.o7) = roundF)
    (h8 : p.o8.toList.map sig = [(.move (.tmp 4), some 20, none), (.call { callee := .value (.func srt), args := #[.tmp 20], argTypes := callTs p.o8 }, some 21, none)])
    (h9 : p.o9.toList.map sig = [(.move (.tmp 4), some 22, none), (.assign (.tmp 22), some 2, none)]) (hN : Nat.ble 23 G.ntmps = true) (hs : SortOk P srt) :
    FnSound P f ⟨[.tmp 2], cSeq (cReg F0) (cSeq (cReg F1) (cSeq (cReg F2) (cSeq (cReg F3) finishF)))⟩ := by
  subst h0 h1 h2 h3
  refine fn_sound hG hb hrs hn ?_
  refine sound_seq sound_reg (sound_seq sound_reg (sound_seq sound_reg (sound_seq sound_reg ?_)))
  have hm' : ∃ k e, P.underlying (rangeT p.o4) = some (.map k e) := by
    unfold isMapB at hm
    split at hm
    · next k e hk => exact ⟨k, e, hk⟩
    · cases hm
  obtain ⟨k, e, hke⟩ := hm'
  exact finish_sound (f := srt) ⟨⟨_, k, e, h4, hke⟩, h5, h6, h7, ⟨_, h8⟩, h9, Nat.le_of_ble_eq_true hN, hs⟩
end Go.Am
