/- Joined: AmGsData3 AmSort AmNames2 AmNames3 AmNames4 AmNames5 AmNames6 AmNames7 AmNames8 AmNames9 AmNames10 AmNames11 AmMem AmMem2 AmLaw. -/
import Derived.Test.YtgolgogmhcgecaaGreatAmD
import Derived.Test.YtgolgogmhcgecaaGreatAmB
import Derived.Maps.RangeRun
import Derived.LoopN
import Derived.Sort.Grow
import Derived.Sort.EncStr
import Derived.ChangeSame
set_option linter.unusedVariables false
namespace Go.Am.Gs
noncomputable def c190 : FFn := ⟨[.cellN 6 5, .tmp 7], (cSeq (cReg [o 5 (fBox (.t 2)), o 6 (fAlloc [(I 0), (I 0), (.str []), .nilSlice, .nilSlice]), o 7 (fMove (.c (I 0)))])
 (cSeq (cReg [o 12 (fMove (.t 0)), o 13 (fMove (.t 1)), o 14 (fFieldAddr 4 (.t 5)), o 15 (fLoad1 (.t 14)), o 16 (fIndexAddr 5 (.t 15) (.c (I 0))), o 17 (fLoadN (.t 16) 5), o 18 (fCall 84 [(.t 12), (.t 13), (.t 17)]), o 11 (fMove (.t 18)), o 19 (fExtract (.t 11) 0), o 20 (fExtract (.t 11) 1), o 8 (fAlloc [(I 0), (I 0), .nilSlice]), n (fStore (.t 8) (.t 19) 3), o 9 (fMove (.t 20))])
 (cSeq (cSeq (cReg [o 21 (fMove (.t 9)), o 22 (fBin .neq .int (.t 21) (.c (I 0)))])
 (cCond (.t 22) (cSeq (cReg [o 23 (fBuild [(I 0), (I 0), (.str []), .nilSlice, .nilSlice] []), o 24 (fMove (.t 9)), n (fStore (.t 6) (.t 23) 5), o 7 (fMove (.t 24))])
 cRet) cSkip))
 (cSeq (cDraw [⟨0, .pure, 0, (some 26), [0], (fMove (.t 0))⟩, ⟨1, .pure, 0, (some 27), [1], (fMove (.t 1))⟩, ⟨2, .pure, 0, (some 28), [5], (fFieldAddr 4 (.t 5))⟩, ⟨3, (.rd1 (.t 28)), 4, (some 29), [28], (fLoad1 (.t 28))⟩, ⟨4, .pure, 12, (some 30), [29], (fIndexAddr 5 (.t 29) (.c (I 0)))⟩, ⟨5, (.rdN (.t 30) 5), 28, (some 31), [30], (fLoadN (.t 30) 5)⟩, ⟨7, .pure, 0, (some 33), [5], (fFieldAddr 4 (.t 5))⟩, ⟨8, (.rd1 (.t 33)), 128, (some 34), [33], (fLoad1 (.t 33))⟩, ⟨9, .pure, 384, (some 35), [34], (fIndexAddr 5 (.t 34) (.c (I 1)))⟩, ⟨10, (.rdN (.t 35) 5), 896, (some 36), [35], (fLoadN (.t 35) 5)⟩, ⟨6, .wr, 62, (some 32), [27, 31], (fCall 150 [(.t 27), (.t 31)])⟩, ⟨11, .wr, 2047, (some 37), [26, 32, 36], (fCall 84 [(.t 26), (.t 32), (.t 36)])⟩, ⟨12, .pure, 4095, (some 25), [37], (fMove (.t 37))⟩, ⟨13, .pure, 8191, (some 38), [25], (fExtract (.t 25) 0)⟩, ⟨14, .pure, 8191, (some 39), [25], (fExtract (.t 25) 1)⟩, ⟨15, .alloc, 0, (some 10), [], (fAlloc [(I 0), (I 0), .nilSlice])⟩, ⟨16, .wr, 49151, none, [10, 38], (fStore (.t 10) (.t 38) 3)⟩, ⟨17, .pure, 131071, (some 9), [39], (fMove (.t 39))⟩])
 (cSeq (cSeq (cReg [o 40 (fMove (.t 9)), o 41 (fBin .neq .int (.t 40) (.c (I 0)))])
 (cCond (.t 41) (cSeq (cReg [o 42 (fBuild [(I 0), (I 0), (.str []), .nilSlice, .nilSlice] []), o 43 (fMove (.t 9)), n (fStore (.t 6) (.t 42) 5), o 7 (fMove (.t 43))])
 cRet) cSkip))
 (cSeq (cReg [o 44 (fLoadN (.t 8) 3), o 45 (fLoadN (.t 10) 3), o 46 (fBuildSlice 2 [(I 0), (I 0), .nilSlice, (I 0), (I 0), .nilSlice] [(0, (3, (.t 44))), (3, (3, (.t 45)))]), o 47 (fBuild [(I 0), (I 0), .nilSlice] [(0, (1, (.c (I 3)))), (2, (1, (.t 46)))]), o 48 (fCall 186 [(.t 47)]), n (fStore (.t 6) (.t 48) 5), o 7 (fMove (.c (I 0)))])
 cRet))))))⟩
noncomputable def c191 : FFn := ⟨[.cellN 6 5, .tmp 7], (cSeq (cReg [o 5 (fBox (.t 2)), o 6 (fAlloc [(I 0), (I 0), (.str []), .nilSlice, .nilSlice]), o 7 (fMove (.c (I 0)))])
 (cSeq (cSeq (cReg [o 15 (fMove (.t 0)), o 16 (fMove (.t 1)), o 17 (fFieldAddr 4 (.t 5)), o 18 (fLoad1 (.t 17)), o 19 (fIndexAddr 5 (.t 18) (.c (I 0))), o 20 (fLoadN (.t 19) 5), o 21 (fCall 84 [(.t 15), (.t 16), (.t 20)]), o 14 (fMove (.t 21)), o 22 (fExtract (.t 14) 0), o 23 (fExtract (.t 14) 1), o 8 (fAlloc [(I 0), (I 0), .nilSlice]), n (fStore (.t 8) (.t 22) 3), o 9 (fMove (.t 23))])
 (cSeq (cReg [o 24 (fMove (.t 9)), o 25 (fBin .neq .int (.t 24) (.c (I 0)))])
 (cCond (.t 25) (cSeq (cReg [o 26 (fBuild [(I 0), (I 0), (.str []), .nilSlice, .nilSlice] []), o 27 (fMove (.t 9)), n (fStore (.t 6) (.t 26) 5), o 7 (fMove (.t 27))])
 cRet) cSkip)))
 (cSeq (cSeq (cDraw [⟨0, .pure, 0, (some 28), [0], (fMove (.t 0))⟩, ⟨1, .pure, 0, (some 29), [1], (fMove (.t 1))⟩, ⟨2, .pure, 0, (some 30), [5], (fFieldAddr 4 (.t 5))⟩, ⟨3, (.rd1 (.t 30)), 4, (some 31), [30], (fLoad1 (.t 30))⟩, ⟨4, .pure, 12, (some 32), [31], (fIndexAddr 5 (.t 31) (.c (I 1)))⟩, ⟨5, (.rdN (.t 32) 5), 28, (some 33), [32], (fLoadN (.t 32) 5)⟩, ⟨6, .pure, 0, (some 34), [5], (fFieldAddr 4 (.t 5))⟩, ⟨7, (.rd1 (.t 34)), 64, (some 35), [34], (fLoad1 (.t 34))⟩, ⟨8, .pure, 192, (some 36), [35], (fIndexAddr 5 (.t 35) (.c (I 0)))⟩, ⟨9, (.rdN (.t 36) 5), 448, (some 37), [36], (fLoadN (.t 36) 5)⟩, ⟨10, .wr, 1023, (some 38), [28, 29, 33, 37], (fCall 215 [(.t 28), (.t 29), (.t 33), (.t 37)])⟩, ⟨11, .pure, 2047, (some 10), [38], (fMove (.t 38))⟩])
 (cSeq (cReg [o 39 (fMove (.t 10)), o 40 (fBin .neq .int (.t 39) (.c (I 0)))])
 (cCond (.t 40) (cSeq (cReg [o 41 (fBuild [(I 0), (I 0), (.str []), .nilSlice, .nilSlice] []), o 42 (fMove (.t 10)), n (fStore (.t 6) (.t 41) 5), o 7 (fMove (.t 42))])
 cRet) cSkip)))
 (cSeq (cDraw [⟨0, .pure, 0, (some 44), [0], (fMove (.t 0))⟩, ⟨1, .pure, 1, (some 45), [44], (fNilCheck (.t 44))⟩, ⟨2, .pure, 3, (some 46), [45], (fFieldAddr 0 (.t 45))⟩, ⟨3, (.rd1 (.t 46)), 7, (some 47), [46], (fLoad1 (.t 46))⟩, ⟨4, .pure, 0, (some 48), [5], (fFieldAddr 4 (.t 5))⟩, ⟨5, (.rd1 (.t 48)), 16, (some 49), [48], (fLoad1 (.t 48))⟩, ⟨6, .pure, 48, (some 50), [49], (fIndexAddr 5 (.t 49) (.c (I 2)))⟩, ⟨7, (.rdN (.t 50) 5), 112, (some 51), [50], (fLoadN (.t 50) 5)⟩, ⟨8, .pure, 0, (some 52), [5], (fFieldAddr 4 (.t 5))⟩, ⟨9, (.rd1 (.t 52)), 256, (some 53), [52], (fLoad1 (.t 52))⟩, ⟨10, .pure, 768, (some 54), [53], (fIndexAddr 5 (.t 53) (.c (I 1)))⟩, ⟨11, (.rdN (.t 54) 5), 1792, (some 55), [54], (fLoadN (.t 54) 5)⟩, ⟨12, .wr, 4095, (some 56), [47, 51, 55], (fCall 216 [(.t 47), (.t 51), (.t 55), (.c .nilSlice)])⟩, ⟨13, .pure, 8191, (some 43), [56], (fMove (.t 56))⟩, ⟨14, .pure, 16383, (some 57), [43], (fExtract (.t 43) 0)⟩, ⟨15, .pure, 16383, (some 58), [43], (fExtract (.t 43) 1)⟩, ⟨16, .pure, 16383, (some 59), [43], (fExtract (.t 43) 2)⟩, ⟨17, .alloc, 0, (some 11), [], (fAlloc [(I 0), (I 0), (.str []), .nilSlice, .nilSlice])⟩, ⟨18, .wr, 163839, none, [11, 57], (fStore (.t 11) (.t 57) 5)⟩, ⟨19, .pure, 458751, (some 12), [58], (fMove (.t 58))⟩, ⟨20, .pure, 1048575, (some 13), [59], (fMove (.t 59))⟩])
 (cSeq (cSeq (cReg [o 60 (fMove (.t 13)), o 61 (fBin .neq .int (.t 60) (.c (I 0)))])
 (cCond (.t 61) (cSeq (cReg [o 62 (fBuild [(I 0), (I 0), (.str []), .nilSlice, .nilSlice] []), o 63 (fMove (.t 13)), n (fStore (.t 6) (.t 62) 5), o 7 (fMove (.t 63))])
 cRet) cSkip))
 (cSeq (cReg [o 64 (fMove (.t 0)), o 65 (fMove (.t 1)), o 66 (fLoadN (.t 11) 5), o 67 (fCall 120 [(.t 64), (.t 65), (.t 66)]), o 68 (fExtract (.t 67) 0), o 69 (fExtract (.t 67) 1), n (fStore (.t 6) (.t 68) 5), o 7 (fMove (.t 69))])
 cRet))))))⟩
noncomputable def c192 : FFn := ⟨[.tmp 4], (cSeq (cReg [o 2 (fBox (.t 0)), o 4 (fMove (.c (I 0)))])
 (cSeq (cReg [o 5 (fAlloc [(I 0)]), n (fStore (.t 5) (.c (I 0)) 1)])
 (cSeq (cReg [o 6 (fLoadN (.t 2) 5), o 7 (fMove (.t 1)), o 8 (fMax [(.t 7), (.c (I 0))]), o 9 (fCall 218 [(.t 6), (.t 5), (.t 8)])])
 (cSeq (cReg [o 10 (fLoad1 (.t 5)), o 4 (fMove (.t 10))])
 cRet))))⟩
noncomputable def c193 : FFn := ⟨[.tmp 2], (cSeq (cReg [o 1 (fBox (.t 0)), o 2 (fMove (.c (.bool false)))])
 (cSeq (cSeq (cReg [o 8 (fFieldAddr 3 (.t 1)), o 9 (fLoad1 (.t 8)), o 10 (fLenSl (.t 9)), o 11 (fMove (.c (I 0)))])
 (cBlock 0 (cLoop (cSeq (cReg [o 12 (fBin .lss .int (.t 11) (.t 10))])
 (cSeq (cCond (.t 12) cSkip (cExit 0))
 (cSeq (cBlock 1 (cSeq (cReg [o 13 (fIndexAddr 3 (.t 9) (.t 11)), o 14 (fLoadN (.t 13) 3), o 4 (fAlloc [(I 0), (I 0), .nilSlice]), n (fStore (.t 4) (.t 14) 3)])
 (cSeq (cReg [o 5 (fAlloc [(I 0)]), n (fStore (.t 5) (.c (I 0)) 1)])
 (cSeq (cReg [o 15 (fLoadN (.t 4) 3), o 16 (fCall 219 [(.t 15), (.c (I 1)), (.t 5)]), o 17 (fNot (.t 16))])
 (cCond (.t 17) (cSeq (cReg [o 2 (fMove (.c (.bool false)))])
 cRet) cSkip)))))
 (cReg [o 18 (fBin .add .int (.t 11) (.c (I 1))), o 11 (fMove (.t 18))])))))))
 (cSeq (cSeq (cReg [o 19 (fFieldAddr 4 (.t 1)), o 20 (fLoad1 (.t 19)), o 21 (fLenSl (.t 20)), o 22 (fMove (.c (I 0)))])
 (cBlock 2 (cLoop (cSeq (cReg [o 23 (fBin .lss .int (.t 22) (.t 21))])
 (cSeq (cCond (.t 23) cSkip (cExit 2))
 (cSeq (cBlock 3 (cSeq (cReg [o 24 (fIndexAddr 5 (.t 20) (.t 22)), o 25 (fLoadN (.t 24) 5), o 7 (fAlloc [(I 0), (I 0), (.str []), .nilSlice, .nilSlice]), n (fStore (.t 7) (.t 25) 5)])
 (cSeq (cReg [o 26 (fLoadN (.t 7) 5), o 27 (fCall 193 [(.t 26)]), o 28 (fNot (.t 27))])
 (cCond (.t 28) (cSeq (cReg [o 2 (fMove (.c (.bool false)))])
 cRet) cSkip))))
 (cReg [o 29 (fBin .add .int (.t 22) (.c (I 1))), o 22 (fMove (.t 29))])))))))
 (cSeq (cReg [o 2 (fMove (.c (.bool true)))])
 cRet))))⟩
noncomputable def c194 : FFn := ⟨[.cellN 8 5, .tmp 9, .tmp 10], (cSeq (cReg [o 5 (fBox (.t 1)), o 6 (fBox (.t 2)), o 8 (fAlloc [(I 0), (I 0), (.str []), .nilSlice, .nilSlice]), o 9 (fMove (.c (.bool false))), o 10 (fMove (.c (I 0)))])
 (cSeq (cSeq (cReg [o 12 (fMove (.t 0)), o 13 (fCall 151 [(.t 12)]), o 11 (fMove (.t 13))])
 (cSeq (cReg [o 14 (fMove (.t 11)), o 15 (fBin .neq .int (.t 14) (.c (I 0)))])
 (cCond (.t 15) (cSeq (cReg [o 16 (fBuild [(I 0), (I 0), (.str []), .nilSlice, .nilSlice] []), o 17 (fMove (.t 11)), n (fStore (.t 8) (.t 16) 5), o 9 (fMove (.c (.bool false))), o 10 (fMove (.t 17))])
 cRet) cSkip)))
 (cSeq (cReg [o 18 (fMove (.t 0)), o 19 (fLoadN (.t 5) 5), o 20 (fLoadN (.t 6) 5), o 21 (fMove (.t 3)), o 22 (fCall 216 [(.t 18), (.t 19), (.t 20), (.t 21)]), o 23 (fExtract (.t 22) 0), o 24 (fExtract (.t 22) 1), o 25 (fExtract (.t 22) 2), n (fStore (.t 8) (.t 23) 5), o 9 (fMove (.t 24)), o 10 (fMove (.t 25))])
 cRet)))⟩
noncomputable def c195 : FFn := ⟨[.tmp 4], (cSeq (cReg [o 4 (fMove (.c .nilPtr))])
 (cSeq (cSeq (cReg [o 6 (fMove (.t 0)), o 7 (fMove (.t 1)), o 8 (fCall 51 [(.t 6), (.t 7)]), o 5 (fMove (.t 8))])
 (cSeq (cReg [o 9 (fMove (.t 5)), o 10 (fBin .neq .ptr (.t 9) (.c .nilPtr)), o 11 (fMove (.t 10)), g 12 (fMove (.t 0)) 11 true, g 13 (fNilCheck (.t 12)) 11 true, g 14 (fFieldAddr 3 (.t 13)) 11 true, g 15 (fLoad1 (.t 14)) 11 true, g 16 (fMove (.t 1)) 11 true, g 17 (fLookup true (I 0) false (.t 15) (.t 16)) 11 true, g 18 (fBin .eql .int (.t 17) (.c (I 0))) 11 true, o 19 (fPick (.t 11) (.t 18) (.c (.bool false)))])
 (cCond (.t 19) (cSeq (cReg [o 20 (fMove (.t 5)), o 4 (fMove (.t 20))])
 cRet) cSkip)))
 (cSeq (cReg [o 4 (fMove (.c .nilPtr))])
 cRet)))⟩
noncomputable def c196 : FFn := ⟨[.cellN 4 5, .tmp 5, .tmp 6], (cSeq (cReg [o 3 (fBox (.t 1)), o 4 (fAlloc [(I 0), (I 0), (.str []), .nilSlice, .nilSlice]), o 5 (fMove (.c (.bool false))), o 6 (fMove (.c (I 0)))])
 (cSeq (cSeq (cDraw [⟨0, .pure, 0, (some 8), [0], (fMove (.t 0))⟩, ⟨1, .pure, 1, (some 9), [8], (fNilCheck (.t 8))⟩, ⟨2, .pure, 3, (some 10), [9], (fFieldAddr 1 (.t 9))⟩, ⟨3, (.rdN (.t 10) 2), 7, (some 11), [10], (fLoadN (.t 10) 2)⟩, ⟨4, (.rdN (.t 3) 5), 0, (some 12), [3], (fLoadN (.t 3) 5)⟩, ⟨5, .wr, 31, (some 13), [11, 12], (fCall 153 [(.t 11), (.t 12)])⟩, ⟨6, .pure, 63, (some 7), [13], (fMove (.t 13))⟩])
 (cSeq (cReg [o 14 (fMove (.t 7)), o 15 (fBin .neq .int (.t 14) (.c (I 0)))])
 (cCond (.t 15) (cSeq (cReg [o 16 (fBuild [(I 0), (I 0), (.str []), .nilSlice, .nilSlice] []), o 17 (fMove (.t 7)), n (fStore (.t 4) (.t 16) 5), o 5 (fMove (.c (.bool false))), o 6 (fMove (.t 17))])
 cRet) cSkip)))
 (cSeq (cReg [o 18 (fLoadN (.t 3) 5), n (fStore (.t 4) (.t 18) 5), o 5 (fMove (.c (.bool true))), o 6 (fMove (.c (I 0)))])
 cRet)))⟩
noncomputable def c197 : FFn := ⟨[.cellN 4 5], (cSeq (cReg [o 2 (fBox (.t 0)), o 4 (fAlloc [(I 0), (I 0), (.str []), .nilSlice, .nilSlice])])
 (cSeq (cSeq (cReg [o 7 (fMove (.t 1)), o 8 (fLenSl (.t 7)), o 9 (fMove (.c (I 0)))])
 (cBlock 0 (cLoop (cSeq (cReg [o 10 (fBin .lss .int (.t 9) (.t 8))])
 (cSeq (cCond (.t 10) cSkip (cExit 0))
 (cSeq (cBlock 1 (cSeq (cReg [o 11 (fIndexAddr 5 (.t 7) (.t 9)), o 12 (fLoadN (.t 11) 5), o 6 (fAlloc [(I 0), (I 0), (.str []), .nilSlice, .nilSlice]), n (fStore (.t 6) (.t 12) 5)])
 (cReg [o 13 (fLoadN (.t 2) 5), o 14 (fLoadN (.t 6) 5), o 15 (fBuildSlice 2 [(I 0), (I 0), (.str []), .nilSlice, .nilSlice, (I 0), (I 0), (.str []), .nilSlice, .nilSlice] [(0, (5, (.t 13))), (5, (5, (.t 14)))]), o 16 (fBuild [(I 0), (I 0), (.str []), .nilSlice, .nilSlice] [(0, (1, (.c (I 3)))), (4, (1, (.t 15)))]), n (fStore (.t 2) (.t 16) 5)])))
 (cReg [o 17 (fBin .add .int (.t 9) (.c (I 1))), o 9 (fMove (.t 17))])))))))
 (cSeq (cReg [o 18 (fLoadN (.t 2) 5), n (fStore (.t 4) (.t 18) 5)])
 cRet)))⟩
noncomputable def c198 : FFn := ⟨[.cellN 4 5], (cSeq (cReg [o 2 (fBox (.t 0)), o 4 (fAlloc [(I 0), (I 0), (.str []), .nilSlice, .nilSlice])])
 (cSeq (cSeq (cReg [o 11 (fMove (.t 1)), o 12 (fLenSl (.t 11)), o 13 (fBin .eql .int (.t 12) (.c (I 0)))])
 (cCond (.t 13) (cSeq (cReg [o 14 (fLoadN (.t 2) 5), n (fStore (.t 4) (.t 14) 5)])
 cRet) cSkip))
 (cSeq (cSeq (cReg [o 15 (fFieldAddr 3 (.t 2)), o 16 (fLoad1 (.t 15)), o 17 (fLenSl (.t 16)), o 18 (fBin .gtr .int (.t 17) (.c (I 0)))])
 (cCond (.t 18) (cSeq (cReg [o 19 (fFieldAddr 3 (.t 2)), o 20 (fLoad1 (.t 19)), o 21 (fLenSl (.t 20)), o 22 (fMakeSlice 3 40 [(I 0), (I 0), .nilSlice] (.c (I 0)) (.t 21)), o 5 (fMove (.t 22))])
 (cSeq (cSeq (cReg [o 23 (fFieldAddr 3 (.t 2)), o 24 (fLoad1 (.t 23)), o 25 (fLenSl (.t 24)), o 26 (fMove (.c (I 0)))])
 (cBlock 0 (cLoop (cSeq (cReg [o 27 (fBin .lss .int (.t 26) (.t 25))])
 (cSeq (cCond (.t 27) cSkip (cExit 0))
 (cSeq (cBlock 1 (cSeq (cReg [o 28 (fIndexAddr 3 (.t 24) (.t 26)), o 29 (fLoadN (.t 28) 3), o 7 (fAlloc [(I 0), (I 0), .nilSlice]), n (fStore (.t 7) (.t 29) 3)])
 (cReg [o 30 (fMove (.t 5)), o 31 (fLoadN (.t 7) 3), o 32 (fMove (.t 1)), o 33 (fCall 36 [(.t 31), (.t 32)]), o 34 (fBuildSlice 1 [(I 0), (I 0), .nilSlice] [(0, (3, (.t 33)))]), o 35 (fAppend 3 40 (.t 30) (.t 34)), o 5 (fMove (.t 35))])))
 (cReg [o 36 (fBin .add .int (.t 26) (.c (I 1))), o 26 (fMove (.t 36))])))))))
 (cReg [o 37 (fMove (.t 5)), o 38 (fFieldAddr 3 (.t 2)), n (fStore (.t 38) (.t 37) 1)]))) cSkip))
 (cSeq (cSeq (cReg [o 39 (fFieldAddr 4 (.t 2)), o 40 (fLoad1 (.t 39)), o 41 (fLenSl (.t 40)), o 42 (fBin .gtr .int (.t 41) (.c (I 0)))])
 (cCond (.t 42) (cSeq (cReg [o 43 (fFieldAddr 4 (.t 2)), o 44 (fLoad1 (.t 43)), o 45 (fLenSl (.t 44)), o 46 (fMakeSlice 5 80 [(I 0), (I 0), (.str []), .nilSlice, .nilSlice] (.c (I 0)) (.t 45)), o 8 (fMove (.t 46))])
 (cSeq (cSeq (cReg [o 47 (fFieldAddr 4 (.t 2)), o 48 (fLoad1 (.t 47)), o 49 (fLenSl (.t 48)), o 50 (fMove (.c (I 0)))])
 (cBlock 2 (cLoop (cSeq (cReg [o 51 (fBin .lss .int (.t 50) (.t 49))])
 (cSeq (cCond (.t 51) cSkip (cExit 2))
 (cSeq (cBlock 3 (cSeq (cReg [o 52 (fIndexAddr 5 (.t 48) (.t 50)), o 53 (fLoadN (.t 52) 5), o 10 (fAlloc [(I 0), (I 0), (.str []), .nilSlice, .nilSlice]), n (fStore (.t 10) (.t 53) 5)])
 (cReg [o 54 (fMove (.t 8)), o 55 (fLoadN (.t 10) 5), o 56 (fMove (.t 1)), o 57 (fCall 198 [(.t 55), (.t 56)]), o 58 (fBuildSlice 1 [(I 0), (I 0), (.str []), .nilSlice, .nilSlice] [(0, (5, (.t 57)))]), o 59 (fAppend 5 80 (.t 54) (.t 58)), o 8 (fMove (.t 59))])))
 (cReg [o 60 (fBin .add .int (.t 50) (.c (I 1))), o 50 (fMove (.t 60))])))))))
 (cReg [o 61 (fMove (.t 8)), o 62 (fFieldAddr 4 (.t 2)), n (fStore (.t 62) (.t 61) 1)]))) cSkip))
 (cSeq (cReg [o 63 (fLoadN (.t 2) 5), n (fStore (.t 4) (.t 63) 5)])
 cRet)))))⟩
noncomputable def c199 : FFn := ⟨[.cellN 4 5, .tmp 5, .tmp 6], (cSeq (cReg [o 3 (fBox (.t 1)), o 4 (fAlloc [(I 0), (I 0), (.str []), .nilSlice, .nilSlice]), o 5 (fMove (.c (.bool false))), o 6 (fMove (.c (I 0)))])
 (cSeq (cDraw [⟨0, .pure, 0, (some 15), [0], (fMove (.t 0))⟩, ⟨1, .pure, 1, (some 16), [15], (fNilCheck (.t 15))⟩, ⟨2, .pure, 3, (some 17), [16], (fFieldAddr 0 (.t 16))⟩, ⟨3, (.rd1 (.t 17)), 7, (some 18), [17], (fLoad1 (.t 17))⟩, ⟨4, (.rdN (.t 3) 5), 0, (some 19), [3], (fLoadN (.t 3) 5)⟩, ⟨5, .wr, 31, (some 20), [18, 19], (fCall 220 [(.t 18), (.t 19)])⟩, ⟨6, .pure, 63, (some 14), [20], (fMove (.t 20))⟩, ⟨7, .pure, 127, (some 21), [14], (fExtract (.t 14) 0)⟩, ⟨8, .pure, 127, (some 22), [14], (fExtract (.t 14) 1)⟩, ⟨9, .alloc, 0, (some 7), [], (fAlloc [(I 0), (I 0), (.str []), .nilSlice, .nilSlice, .nilSlice, .nilPtr, (I 0), (I 0)])⟩, ⟨10, .wr, 767, none, [7, 21], (fStore (.t 7) (.t 21) 9)⟩, ⟨11, .pure, 2047, (some 8), [22], (fMove (.t 22))⟩])
 (cSeq (cSeq (cReg [o 23 (fMove (.t 8)), o 24 (fNot (.t 23))])
 (cCond (.t 24) (cSeq (cReg [o 25 (fLoadN (.t 3) 5), n (fStore (.t 4) (.t 25) 5), o 5 (fMove (.c (.bool false))), o 6 (fMove (.c (I 0)))])
 cRet) cSkip))
 (cSeq (cReg [o 27 (fMove (.t 0)), o 28 (fFieldAddr 5 (.t 7)), o 29 (fLoad1 (.t 28)), o 30 (fFieldAddr 8 (.t 7)), o 31 (fLoad1 (.t 30)), o 32 (fIndexAddr 5 (.t 29) (.t 31)), o 33 (fLoadN (.t 32) 5), o 34 (fCall 121 [(.t 27), (.t 33)]), o 26 (fMove (.t 34)), o 35 (fExtract (.t 26) 0), o 36 (fExtract (.t 26) 1), o 9 (fAlloc [(I 0), (I 0), (.str []), .nilSlice, .nilSlice]), n (fStore (.t 9) (.t 35) 5), o 10 (fMove (.t 36))])
 (cSeq (cSeq (cReg [o 37 (fMove (.t 10)), o 38 (fBin .neq .int (.t 37) (.c (I 0)))])
 (cCond (.t 38) (cSeq (cReg [o 39 (fBuild [(I 0), (I 0), (.str []), .nilSlice, .nilSlice] []), o 40 (fMove (.t 10)), n (fStore (.t 4) (.t 39) 5), o 5 (fMove (.c (.bool false))), o 6 (fMove (.t 40))])
 cRet) cSkip))
 (cSeq (cReg [o 42 (fLoadN (.t 7) 9), o 43 (fLoadN (.t 9) 5), o 44 (fCall 221 [(.t 42), (.t 43)]), o 41 (fMove (.t 44)), o 45 (fExtract (.t 41) 0), o 46 (fExtract (.t 41) 1), o 11 (fAlloc [(I 0), (I 0), (.str []), .nilSlice, .nilSlice]), n (fStore (.t 11) (.t 45) 5), o 12 (fMove (.t 46))])
 (cSeq (cSeq (cReg [o 47 (fMove (.t 12)), o 48 (fNot (.t 47))])
 (cCond (.t 48) (cSeq (cReg [o 49 (fLoadN (.t 3) 5), n (fStore (.t 4) (.t 49) 5), o 5 (fMove (.c (.bool false))), o 6 (fMove (.c (I 0)))])
 cRet) cSkip))
 (cSeq (cSeq (cReg [o 50 (fMove (.t 0)), o 51 (fCall 151 [(.t 50)]), o 13 (fMove (.t 51))])
 (cSeq (cReg [o 52 (fMove (.t 13)), o 53 (fBin .neq .int (.t 52) (.c (I 0)))])
 (cCond (.t 53) (cSeq (cReg [o 54 (fBuild [(I 0), (I 0), (.str []), .nilSlice, .nilSlice] []), o 55 (fMove (.t 13)), n (fStore (.t 4) (.t 54) 5), o 5 (fMove (.c (.bool false))), o 6 (fMove (.t 55))])
 cRet) cSkip)))
 (cSeq (cReg [o 56 (fMove (.t 0)), o 57 (fLoadN (.t 11) 5), o 58 (fCall 196 [(.t 56), (.t 57)]), o 59 (fExtract (.t 58) 0), o 60 (fExtract (.t 58) 1), o 61 (fExtract (.t 58) 2), n (fStore (.t 4) (.t 59) 5), o 5 (fMove (.t 60)), o 6 (fMove (.t 61))])
 cRet)))))))))⟩
noncomputable def c200 : FFn := ⟨[.tmp 2], (cSeq (cReg [o 2 (fMove (.c (I 0)))])
 (cSeq (cSeq (cReg [o 3 (fMove (.t 0))])
 (cBlock 0 (cSeq (cSeq (cReg [o 5 (fBin .eql .int (.t 3) (.c (I 0))), o 4 (fMove (.t 5))])
 (cCond (.t 4) cSkip (cSeq (cReg [o 6 (fBin .eql .int (.t 3) (.c (I 1))), o 4 (fMove (.t 6))])
 (cCond (.t 4) cSkip (cReg [o 7 (fBin .eql .int (.t 3) (.c (I 2))), o 4 (fMove (.t 7))])))))
 (cCond (.t 4) (cSeq (cReg [o 2 (fMove (.c (I 0)))])
 cRet) (cSeq (cSeq (cReg [o 9 (fBin .eql .int (.t 3) (.c (I 3))), o 8 (fMove (.t 9))])
 (cCond (.t 8) cSkip (cSeq (cReg [o 10 (fBin .eql .int (.t 3) (.c (I 4))), o 8 (fMove (.t 10))])
 (cCond (.t 8) cSkip (cReg [o 11 (fBin .eql .int (.t 3) (.c (I 5))), o 8 (fMove (.t 11))])))))
 (cCond (.t 8) (cSeq (cReg [o 2 (fMove (.c (I 2)))])
 cRet) (cSeq (cReg [o 13 (fBin .eql .int (.t 3) (.c (I 6))), o 12 (fMove (.t 13))])
 (cCond (.t 12) (cSeq (cReg [o 2 (fMove (.c (I 3)))])
 cRet) cSkip))))))))
 (cSeq (cReg [o 2 (fMove (.c (.int .i64 (.negSucc 0))))])
 cRet)))⟩
noncomputable def c201 : FFn := ⟨[], (cSeq (cReg [o 10 (fMove (.t 1)), o 8 (fMove (.t 10))])
 (cBlock 0 (cLoop (cBlock 1 (cSeq (cReg [o 11 (fMove (.t 8)), o 12 (fBin .mul .int (.c (I 2)) (.t 11)), o 13 (fBin .add .int (.t 12) (.c (I 1))), o 9 (fMove (.t 13))])
 (cSeq (cSeq (cReg [o 14 (fMove (.t 9)), o 15 (fMove (.t 2)), o 16 (fBin .geq .int (.t 14) (.t 15))])
 (cCond (.t 16) (cExit 0) cSkip))
 (cSeq (cSeq (cDraw [⟨0, .pure, 0, (some 17), [9], (fMove (.t 9))⟩, ⟨1, .pure, 1, (some 18), [17], (fBin .add .int (.t 17) (.c (I 1)))⟩, ⟨2, .pure, 0, (some 19), [2], (fMove (.t 2))⟩, ⟨3, .pure, 7, (some 20), [18, 19], (fBin .lss .int (.t 18) (.t 19))⟩, ⟨4, .pure, 15, (some 21), [20], (fMove (.t 20))⟩, ⟨5, .pure, 31, (some 22), [0, 21], (gF (fMove (.t 0)) 21 true)⟩, ⟨6, .pure, 31, (some 23), [3, 21], (gF (fMove (.t 3)) 21 true)⟩, ⟨7, .pure, 31, (some 24), [9, 21], (gF (fMove (.t 9)) 21 true)⟩, ⟨8, .pure, 223, (some 25), [23, 24, 21], (gF (fBin .add .int (.t 23) (.t 24)) 21 true)⟩, ⟨9, .pure, 511, (some 26), [22, 25, 21], (gF (fIndexAddr 1 (.t 22) (.t 25)) 21 true)⟩, ⟨10, (.rd1 (.t 26)), 1023, (some 27), [26, 21], (gF (fLoad1 (.t 26)) 21 true)⟩, ⟨11, .pure, 31, (some 28), [0, 21], (gF (fMove (.t 0)) 21 true)⟩, ⟨12, .pure, 31, (some 29), [3, 21], (gF (fMove (.t 3)) 21 true)⟩, ⟨13, .pure, 31, (some 30), [9, 21], (gF (fMove (.t 9)) 21 true)⟩, ⟨14, .pure, 12319, (some 31), [29, 30, 21], (gF (fBin .add .int (.t 29) (.t 30)) 21 true)⟩, ⟨15, .pure, 28703, (some 32), [31, 21], (gF (fBin .add .int (.t 31) (.c (I 1))) 21 true)⟩, ⟨16, .pure, 63519, (some 33), [28, 32, 21], (gF (fIndexAddr 1 (.t 28) (.t 32)) 21 true)⟩, ⟨17, (.rd1 (.t 33)), 129055, (some 34), [33, 21], (gF (fLoad1 (.t 33)) 21 true)⟩, ⟨18, .wr, 262143, (some 35), [27, 34, 21], (gF (fCall 136 [(.t 27), (.t 34)]) 21 true)⟩, ⟨19, .pure, 524287, (some 36), [21, 35], (fPick (.t 21) (.t 35) (.c (.bool false)))⟩])
 (cCond (.t 36) (cReg [o 37 (fMove (.t 9)), o 38 (fBin .add .int (.t 37) (.c (I 1))), o 9 (fMove (.t 38))]) cSkip))
 (cSeq (cSeq (cDraw [⟨0, .pure, 0, (some 39), [0], (fMove (.t 0))⟩, ⟨1, .pure, 0, (some 40), [3], (fMove (.t 3))⟩, ⟨2, .pure, 0, (some 41), [8], (fMove (.t 8))⟩, ⟨3, .pure, 6, (some 42), [40, 41], (fBin .add .int (.t 40) (.t 41))⟩, ⟨4, .pure, 15, (some 43), [39, 42], (fIndexAddr 1 (.t 39) (.t 42))⟩, ⟨5, (.rd1 (.t 43)), 31, (some 44), [43], (fLoad1 (.t 43))⟩, ⟨6, .pure, 0, (some 45), [0], (fMove (.t 0))⟩, ⟨7, .pure, 0, (some 46), [3], (fMove (.t 3))⟩, ⟨8, .pure, 0, (some 47), [9], (fMove (.t 9))⟩, ⟨9, .pure, 384, (some 48), [46, 47], (fBin .add .int (.t 46) (.t 47))⟩, ⟨10, .pure, 960, (some 49), [45, 48], (fIndexAddr 1 (.t 45) (.t 48))⟩, ⟨11, (.rd1 (.t 49)), 1984, (some 50), [49], (fLoad1 (.t 49))⟩, ⟨12, .wr, 4095, (some 51), [44, 50], (fCall 136 [(.t 44), (.t 50)])⟩, ⟨13, .pure, 8191, (some 52), [51], (fNot (.t 51))⟩])
 (cCond (.t 52) cRet cSkip))
 (cSeq (cDraw [⟨0, .pure, 0, (some 53), [0], (fMove (.t 0))⟩, ⟨1, .pure, 0, (some 54), [3], (fMove (.t 3))⟩, ⟨2, .pure, 0, (some 55), [8], (fMove (.t 8))⟩, ⟨3, .pure, 6, (some 56), [54, 55], (fBin .add .int (.t 54) (.t 55))⟩, ⟨4, .pure, 0, (some 57), [0], (fMove (.t 0))⟩, ⟨5, .pure, 0, (some 58), [3], (fMove (.t 3))⟩, ⟨6, .pure, 0, (some 59), [9], (fMove (.t 9))⟩, ⟨7, .pure, 96, (some 60), [58, 59], (fBin .add .int (.t 58) (.t 59))⟩, ⟨8, .pure, 0, (some 61), [0], (fMove (.t 0))⟩, ⟨9, .pure, 0, (some 62), [3], (fMove (.t 3))⟩, ⟨10, .pure, 0, (some 63), [9], (fMove (.t 9))⟩, ⟨11, .pure, 1536, (some 64), [62, 63], (fBin .add .int (.t 62) (.t 63))⟩, ⟨12, .pure, 3840, (some 65), [61, 64], (fIndexAddr 1 (.t 61) (.t 64))⟩, ⟨13, (.rd1 (.t 65)), 7936, (some 66), [65], (fLoad1 (.t 65))⟩, ⟨14, .pure, 0, (some 67), [0], (fMove (.t 0))⟩, ⟨15, .pure, 0, (some 68), [3], (fMove (.t 3))⟩, ⟨16, .pure, 0, (some 69), [8], (fMove (.t 8))⟩, ⟨17, .pure, 98304, (some 70), [68, 69], (fBin .add .int (.t 68) (.t 69))⟩, ⟨18, .pure, 245760, (some 71), [67, 70], (fIndexAddr 1 (.t 67) (.t 70))⟩, ⟨19, (.rd1 (.t 71)), 507904, (some 72), [71], (fLoad1 (.t 71))⟩, ⟨20, .pure, 1048335, (some 73), [53, 56], (fIndexAddr 1 (.t 53) (.t 56))⟩, ⟨21, .wr, 2096911, none, [73, 66], (fStore (.t 73) (.t 66) 1)⟩, ⟨22, .pure, 4194303, (some 74), [57, 60], (fIndexAddr 1 (.t 57) (.t 60))⟩, ⟨23, .wr, 8388607, none, [74, 72], (fStore (.t 74) (.t 72) 1)⟩])
 (cReg [o 75 (fMove (.t 9)), o 8 (fMove (.t 75))]))))))))))⟩
noncomputable def c202 : FFn := ⟨[.tmp 2], (cSeq (cReg [o 2 (fMove (.c (.int .u64 (.ofNat 0))))])
 (cSeq (cReg [o 3 (fMove (.t 0)), o 4 (fConvI .u64 (.t 3)), o 5 (fCall 133 [(.t 4)]), o 6 (fBin .shl .int (.c (.int .u64 (.ofNat 1))) (.t 5)), o 2 (fMove (.t 6))])
 cRet))⟩
noncomputable def c203 : FFn := ⟨[.tmp 2], (cSeq (cReg [o 2 (fMove (.c (.int .u64 (.ofNat 0))))])
 (cSeq (cDraw [⟨0, .pure, 0, (some 3), [0], (fMove (.t 0))⟩, ⟨1, .pure, 1, (some 4), [3], (fNilCheck (.t 3))⟩, ⟨2, (.rd1 (.t 4)), 3, (some 5), [4], (fLoad1 (.t 4))⟩, ⟨3, .pure, 0, (some 6), [0], (fMove (.t 0))⟩, ⟨4, .pure, 8, (some 7), [6], (fNilCheck (.t 6))⟩, ⟨5, (.rd1 (.t 7)), 24, (some 8), [7], (fLoad1 (.t 7))⟩, ⟨6, .pure, 56, (some 9), [8], (fBin .shl .int (.t 8) (.c (.int .u64 (.ofNat 13))))⟩, ⟨7, .pure, 127, (some 10), [5, 9], (fBin .xor .int (.t 5) (.t 9))⟩, ⟨8, .pure, 255, (some 11), [3], (fNilCheck (.t 3))⟩, ⟨9, .wr, 511, none, [11, 10], (fStore (.t 11) (.t 10) 1)⟩])
 (cSeq (cDraw [⟨0, .pure, 0, (some 12), [0], (fMove (.t 0))⟩, ⟨1, .pure, 1, (some 13), [12], (fNilCheck (.t 12))⟩, ⟨2, (.rd1 (.t 13)), 3, (some 14), [13], (fLoad1 (.t 13))⟩, ⟨3, .pure, 0, (some 15), [0], (fMove (.t 0))⟩, ⟨4, .pure, 8, (some 16), [15], (fNilCheck (.t 15))⟩, ⟨5, (.rd1 (.t 16)), 24, (some 17), [16], (fLoad1 (.t 16))⟩, ⟨6, .pure, 56, (some 18), [17], (fBin .shr .int (.t 17) (.c (.int .u64 (.ofNat 7))))⟩, ⟨7, .pure, 127, (some 19), [14, 18], (fBin .xor .int (.t 14) (.t 18))⟩, ⟨8, .pure, 255, (some 20), [12], (fNilCheck (.t 12))⟩, ⟨9, .wr, 511, none, [20, 19], (fStore (.t 20) (.t 19) 1)⟩])
 (cSeq (cDraw [⟨0, .pure, 0, (some 21), [0], (fMove (.t 0))⟩, ⟨1, .pure, 1, (some 22), [21], (fNilCheck (.t 21))⟩, ⟨2, (.rd1 (.t 22)), 3, (some 23), [22], (fLoad1 (.t 22))⟩, ⟨3, .pure, 0, (some 24), [0], (fMove (.t 0))⟩, ⟨4, .pure, 8, (some 25), [24], (fNilCheck (.t 24))⟩, ⟨5, (.rd1 (.t 25)), 24, (some 26), [25], (fLoad1 (.t 25))⟩, ⟨6, .pure, 56, (some 27), [26], (fBin .shl .int (.t 26) (.c (.int .u64 (.ofNat 17))))⟩, ⟨7, .pure, 127, (some 28), [23, 27], (fBin .xor .int (.t 23) (.t 27))⟩, ⟨8, .pure, 255, (some 29), [21], (fNilCheck (.t 21))⟩, ⟨9, .wr, 511, none, [29, 28], (fStore (.t 29) (.t 28) 1)⟩])
 (cSeq (cReg [o 30 (fMove (.t 0)), o 31 (fNilCheck (.t 30)), o 32 (fLoad1 (.t 31)), o 2 (fMove (.t 32))])
 cRet)))))⟩
noncomputable def c204 : FFn := ⟨[.tmp 6], (cSeq (cReg [o 6 (fMove (.c (I 0)))])
 (cSeq (cReg [o 7 (fMove (.t 0)), o 8 (fMove (.t 1)), o 9 (fBin .sub .int (.t 8) (.c (I 1))), o 10 (fMove (.t 1)), o 11 (fMove (.t 1)), o 12 (fBin .add .int (.t 11) (.c (I 1))), o 13 (fMove (.t 2)), o 14 (fCall 205 [(.t 7), (.t 9), (.t 10), (.t 12), (.t 13)]), o 6 (fMove (.t 14))])
 cRet))⟩
noncomputable def c205 : FFn := ⟨[.tmp 10], (cSeq (cReg [o 10 (fMove (.c (I 0)))])
 (cSeq (cReg [o 12 (fMove (.t 0)), o 13 (fMove (.t 1)), o 14 (fMove (.t 2)), o 15 (fMove (.t 4)), o 16 (fCall 222 [(.t 12), (.t 13), (.t 14), (.t 15)]), o 11 (fMove (.t 16)), o 17 (fExtract (.t 11) 0), o 18 (fExtract (.t 11) 1), o 1 (fMove (.t 17)), o 2 (fMove (.t 18))])
 (cSeq (cReg [o 20 (fMove (.t 0)), o 21 (fMove (.t 2)), o 22 (fMove (.t 3)), o 23 (fMove (.t 4)), o 24 (fCall 222 [(.t 20), (.t 21), (.t 22), (.t 23)]), o 19 (fMove (.t 24)), o 25 (fExtract (.t 19) 0), o 26 (fExtract (.t 19) 1), o 2 (fMove (.t 25)), o 3 (fMove (.t 26))])
 (cSeq (cReg [o 28 (fMove (.t 0)), o 29 (fMove (.t 1)), o 30 (fMove (.t 2)), o 31 (fMove (.t 4)), o 32 (fCall 222 [(.t 28), (.t 29), (.t 30), (.t 31)]), o 27 (fMove (.t 32)), o 33 (fExtract (.t 27) 0), o 34 (fExtract (.t 27) 1), o 1 (fMove (.t 33)), o 2 (fMove (.t 34))])
 (cSeq (cReg [o 35 (fMove (.t 2)), o 10 (fMove (.t 35))])
 cRet)))))⟩
noncomputable def c206 : FFn := ⟨[.cellN 6 5], (cSeq (cReg [o 3 (fBox (.t 0)), o 4 (fBox (.t 1)), o 6 (fAlloc [(I 0), (I 0), (.str []), .nilSlice, .nilSlice])])
 (cSeq (cSeq (cReg [o 9 (fFieldAddr 0 (.t 3)), o 10 (fLoad1 (.t 9)), o 11 (fBin .eql .int (.t 10) (.c (I 0)))])
 (cCond (.t 11) (cBlock 0 (cSeq (cReg [o 13 (fFieldAddr 1 (.t 3)), o 14 (fLoad1 (.t 13)), o 15 (fMove (.t 2)), o 16 (fBin .eql .int (.t 14) (.t 15)), o 12 (fMove (.t 16))])
 (cCond (.t 12) (cSeq (cReg [o 17 (fLoadN (.t 4) 5), o 18 (fMove (.t 2)), o 19 (fCall 31 [(.t 17), (.t 18), (.c (I 0))]), n (fStore (.t 6) (.t 19) 5)])
 cRet) (cSeq (cReg [o 21 (fFieldAddr 1 (.t 3)), o 22 (fLoad1 (.t 21)), o 23 (fMove (.t 2)), o 24 (fBin .gtr .int (.t 22) (.t 23)), o 20 (fMove (.t 24))])
 (cCond (.t 20) (cSeq (cReg [o 25 (fFieldAddr 1 (.t 3)), o 26 (fLoad1 (.t 25)), o 27 (fBin .sub .int (.t 26) (.c (I 1))), o 28 (fBuild [(I 0), (I 0), (.str []), .nilSlice, .nilSlice] [(1, (1, (.t 27)))]), n (fStore (.t 6) (.t 28) 5)])
 cRet) cSkip))))) cSkip))
 (cSeq (cReg [o 29 (fLoadN (.t 3) 5), o 30 (fCall 27 [(.t 29)]), o 7 (fAlloc [(I 0), (I 0), (.str []), .nilSlice, .nilSlice]), n (fStore (.t 7) (.t 30) 5)])
 (cSeq (cSeq (cReg [o 8 (fMove (.c (I 0)))])
 (cBlock 1 (cLoop (cSeq (cSeq (cReg [o 31 (fMove (.t 8)), o 32 (fFieldAddr 4 (.t 3)), o 33 (fLoad1 (.t 32)), o 34 (fLenSl (.t 33)), o 35 (fBin .lss .int (.t 31) (.t 34))])
 (cCond (.t 35) cSkip (cExit 1)))
 (cSeq (cBlock 2 (cDraw [⟨0, .pure, 0, (some 38), [7], (fFieldAddr 4 (.t 7))⟩, ⟨1, (.rd1 (.t 38)), 1, (some 39), [38], (fLoad1 (.t 38))⟩, ⟨2, .pure, 0, (some 40), [3], (fFieldAddr 4 (.t 3))⟩, ⟨3, (.rd1 (.t 40)), 4, (some 41), [40], (fLoad1 (.t 40))⟩, ⟨4, .pure, 0, (some 42), [8], (fMove (.t 8))⟩, ⟨5, .pure, 28, (some 43), [41, 42], (fIndexAddr 5 (.t 41) (.t 42))⟩, ⟨6, (.rdN (.t 43) 5), 60, (some 44), [43], (fLoadN (.t 43) 5)⟩, ⟨7, (.rdN (.t 4) 5), 0, (some 45), [4], (fLoadN (.t 4) 5)⟩, ⟨8, .pure, 0, (some 46), [2], (fMove (.t 2))⟩, ⟨9, .pure, 0, (some 47), [3], (fFieldAddr 0 (.t 3))⟩, ⟨10, (.rd1 (.t 47)), 512, (some 48), [47], (fLoad1 (.t 47))⟩, ⟨11, .pure, 0, (some 49), [8], (fMove (.t 8))⟩, ⟨12, .wr, 3584, (some 50), [48, 49], (fCall 93 [(.t 48), (.t 49)])⟩, ⟨13, .pure, 7936, (some 51), [46, 50], (fBin .add .int (.t 46) (.t 50))⟩, ⟨14, .wr, 16380, (some 52), [44, 45, 51], (fCall 206 [(.t 44), (.t 45), (.t 51)])⟩, ⟨15, .alloc, 32764, (some 53), [52], (fBuildSlice 1 [(I 0), (I 0), (.str []), .nilSlice, .nilSlice] [(0, (5, (.t 52)))])⟩, ⟨16, .wr, 65535, (some 54), [39, 53], (fAppend 5 80 (.t 39) (.t 53))⟩, ⟨17, .pure, 131071, (some 55), [7], (fFieldAddr 4 (.t 7))⟩, ⟨18, .wr, 262143, none, [55, 54], (fStore (.t 55) (.t 54) 1)⟩]))
 (cReg [o 36 (fMove (.t 8)), o 37 (fBin .add .int (.t 36) (.c (I 1))), o 8 (fMove (.t 37))]))))))
 (cSeq (cReg [o 56 (fLoadN (.t 7) 5), n (fStore (.t 6) (.t 56) 5)])
 cRet)))))⟩
noncomputable def c207 : FFn := ⟨[.cellN 2 5], (cSeq (cReg [o 2 (fAlloc [(I 0), (I 0), (.str []), .nilSlice, .nilSlice])])
 (cSeq (cReg [o 3 (fMove (.t 0)), o 4 (fBuild [(I 0), (I 0), (.str []), .nilSlice, .nilSlice] [(1, (1, (.t 3)))]), n (fStore (.t 2) (.t 4) 5)])
 cRet))⟩
noncomputable def c208 : FFn := ⟨[.tmp 4], (cSeq (cReg [o 2 (fBox (.t 0)), o 3 (fBox (.t 1)), o 4 (fMove (.c (.bool false)))])
 (cSeq (cSeq (cReg [o 6 (fFieldAddr 0 (.t 2)), o 7 (fLoad1 (.t 6)), o 8 (fFieldAddr 0 (.t 3)), o 9 (fLoad1 (.t 8)), o 10 (fBin .neq .int (.t 7) (.t 9)), o 11 (fMove (.t 10)), g 12 (fFieldAddr 1 (.t 2)) 11 false, g 13 (fLoad1 (.t 12)) 11 false, g 14 (fFieldAddr 1 (.t 3)) 11 false, g 15 (fLoad1 (.t 14)) 11 false, g 16 (fBin .neq .int (.t 13) (.t 15)) 11 false, o 17 (fPick (.t 11) (.c (.bool true)) (.t 16)), o 18 (fMove (.t 17)), g 19 (fFieldAddr 2 (.t 2)) 18 false, g 20 (fLoad1 (.t 19)) 18 false, g 21 (fLenSl (.t 20)) 18 false, g 22 (fFieldAddr 2 (.t 3)) 18 false, g 23 (fLoad1 (.t 22)) 18 false, g 24 (fLenSl (.t 23)) 18 false, g 25 (fBin .neq .int (.t 21) (.t 24)) 18 false, o 26 (fPick (.t 18) (.c (.bool true)) (.t 25))])
 (cCond (.t 26) (cSeq (cReg [o 4 (fMove (.c (.bool false)))])
 cRet) cSkip))
 (cSeq (cSeq (cReg [o 5 (fMove (.c (I 0)))])
 (cBlock 0 (cLoop (cSeq (cSeq (cReg [o 27 (fMove (.t 5)), o 28 (fFieldAddr 2 (.t 2)), o 29 (fLoad1 (.t 28)), o 30 (fLenSl (.t 29)), o 31 (fBin .lss .int (.t 27) (.t 30))])
 (cCond (.t 31) cSkip (cExit 0)))
 (cSeq (cBlock 1 (cSeq (cDraw [⟨0, .pure, 0, (some 34), [2], (fFieldAddr 2 (.t 2))⟩, ⟨1, (.rd1 (.t 34)), 1, (some 35), [34], (fLoad1 (.t 34))⟩, ⟨2, .pure, 0, (some 36), [5], (fMove (.t 5))⟩, ⟨3, .pure, 7, (some 37), [35, 36], (fIndexAddr 3 (.t 35) (.t 36))⟩, ⟨4, (.rdN (.t 37) 3), 15, (some 38), [37], (fLoadN (.t 37) 3)⟩, ⟨5, .pure, 0, (some 39), [3], (fFieldAddr 2 (.t 3))⟩, ⟨6, (.rd1 (.t 39)), 32, (some 40), [39], (fLoad1 (.t 39))⟩, ⟨7, .pure, 0, (some 41), [5], (fMove (.t 5))⟩, ⟨8, .pure, 224, (some 42), [40, 41], (fIndexAddr 3 (.t 40) (.t 41))⟩, ⟨9, (.rdN (.t 42) 3), 480, (some 43), [42], (fLoadN (.t 42) 3)⟩, ⟨10, .wr, 1023, (some 44), [38, 43], (fCall 208 [(.t 38), (.t 43)])⟩, ⟨11, .pure, 2047, (some 45), [44], (fNot (.t 44))⟩])
 (cCond (.t 45) (cSeq (cReg [o 4 (fMove (.c (.bool false)))])
 cRet) cSkip)))
 (cReg [o 32 (fMove (.t 5)), o 33 (fBin .add .int (.t 32) (.c (I 1))), o 5 (fMove (.t 33))]))))))
 (cSeq (cReg [o 4 (fMove (.c (.bool true)))])
 cRet))))⟩
noncomputable def c209 : FFn := ⟨[.tmp 4, .tmp 5], (cSeq (cReg [o 2 (fBox (.t 0)), o 4 (fMove (.c (I 0))), o 5 (fMove (.c (.bool false)))])
 (cSeq (cReg [o 9 (fMove (.t 1)), o 10 (fBin .sub .int (.t 9) (.c (I 1))), o 1 (fMove (.t 10))])
 (cSeq (cSeq (cReg [o 11 (fMove (.t 1)), o 12 (fBin .lss .int (.t 11) (.c (I 0))), o 13 (fMove (.t 12)), g 14 (fLoadN (.t 2) 5) 13 false, g 15 (fCall 223 [(.t 14)]) 13 false, g 16 (fNot (.t 15)) 13 false, o 17 (fPick (.t 13) (.c (.bool true)) (.t 16))])
 (cCond (.t 17) (cSeq (cReg [o 4 (fMove (.c (.int .i64 (.negSucc 0)))), o 5 (fMove (.c (.bool false)))])
 cRet) cSkip))
 (cSeq (cSeq (cReg [o 6 (fMove (.c (I 0)))])
 (cBlock 0 (cLoop (cSeq (cSeq (cReg [o 18 (fMove (.t 6)), o 19 (fFieldAddr 4 (.t 2)), o 20 (fLoad1 (.t 19)), o 21 (fLenSl (.t 20)), o 22 (fBin .lss .int (.t 18) (.t 21))])
 (cCond (.t 22) cSkip (cExit 0)))
 (cSeq (cBlock 1 (cSeq (cReg [o 26 (fFieldAddr 4 (.t 2)), o 27 (fLoad1 (.t 26)), o 28 (fMove (.t 6)), o 29 (fIndexAddr 5 (.t 27) (.t 28)), o 30 (fLoadN (.t 29) 5), o 31 (fMove (.t 1)), o 32 (fCall 209 [(.t 30), (.t 31)]), o 25 (fMove (.t 32)), o 33 (fExtract (.t 25) 0), o 34 (fExtract (.t 25) 1), o 7 (fMove (.t 33)), o 8 (fMove (.t 34))])
 (cSeq (cSeq (cReg [o 35 (fMove (.t 8)), o 36 (fNot (.t 35))])
 (cCond (.t 36) (cSeq (cReg [o 4 (fMove (.c (.int .i64 (.negSucc 0)))), o 5 (fMove (.c (.bool false)))])
 cRet) cSkip))
 (cReg [o 37 (fMove (.t 7)), o 1 (fMove (.t 37))]))))
 (cReg [o 23 (fMove (.t 6)), o 24 (fBin .add .int (.t 23) (.c (I 1))), o 6 (fMove (.t 24))]))))))
 (cSeq (cReg [o 38 (fMove (.t 1)), o 4 (fMove (.t 38)), o 5 (fMove (.c (.bool true)))])
 cRet)))))⟩
noncomputable def c210 : FFn := ⟨[.tmp 4], (cSeq (cReg [o 2 (fBox (.t 0)), o 4 (fMove (.c (I 0)))])
 (cSeq (cReg [o 7 (fMove (.t 1)), o 8 (fMax [(.t 7), (.c (I 0))]), o 1 (fMove (.t 8))])
 (cSeq (cReg [o 5 (fMove (.c (I 1)))])
 (cSeq (cSeq (cReg [o 6 (fMove (.c (I 0)))])
 (cBlock 0 (cLoop (cSeq (cSeq (cReg [o 9 (fMove (.t 6)), o 10 (fFieldAddr 4 (.t 2)), o 11 (fLoad1 (.t 10)), o 12 (fLenSl (.t 11)), o 13 (fBin .lss .int (.t 9) (.t 12)), o 14 (fMove (.t 13)), g 15 (fMove (.t 5)) 14 true, g 16 (fMove (.t 1)) 14 true, g 17 (fBin .leq .int (.t 15) (.t 16)) 14 true, o 18 (fPick (.t 14) (.t 17) (.c (.bool false)))])
 (cCond (.t 18) cSkip (cExit 0)))
 (cSeq (cBlock 1 (cReg [o 21 (fMove (.t 5)), o 22 (fFieldAddr 4 (.t 2)), o 23 (fLoad1 (.t 22)), o 24 (fMove (.t 6)), o 25 (fIndexAddr 5 (.t 23) (.t 24)), o 26 (fLoadN (.t 25) 5), o 27 (fMove (.t 1)), o 28 (fMove (.t 5)), o 29 (fBin .sub .int (.t 27) (.t 28)), o 30 (fCall 210 [(.t 26), (.t 29)]), o 31 (fBin .add .int (.t 21) (.t 30)), o 5 (fMove (.t 31))]))
 (cReg [o 19 (fMove (.t 6)), o 20 (fBin .add .int (.t 19) (.c (I 1))), o 6 (fMove (.t 20))]))))))
 (cSeq (cSeq (cReg [o 32 (fMove (.t 5)), o 33 (fMove (.t 1)), o 34 (fBin .gtr .int (.t 32) (.t 33))])
 (cCond (.t 34) (cSeq (cReg [o 35 (fMove (.t 1)), o 36 (fBin .add .int (.t 35) (.c (I 1))), o 4 (fMove (.t 36))])
 cRet) cSkip))
 (cSeq (cReg [o 37 (fMove (.t 5)), o 4 (fMove (.t 37))])
 cRet))))))⟩
noncomputable def c211 : FFn := ⟨[.tmp 4], (cSeq (cReg [o 2 (fBox (.t 0)), o 4 (fMove (.c (I 0)))])
 (cSeq (cReg [o 7 (fMove (.t 1)), o 8 (fMax [(.t 7), (.c (I 0))]), o 1 (fMove (.t 8))])
 (cSeq (cSeq (cReg [o 9 (fMove (.t 1)), o 10 (fBin .eql .int (.t 9) (.c (I 0)))])
 (cCond (.t 10) (cSeq (cReg [o 4 (fMove (.c (I 1)))])
 cRet) cSkip))
 (cSeq (cReg [o 5 (fMove (.c (I 0)))])
 (cSeq (cSeq (cReg [o 6 (fMove (.c (I 0)))])
 (cBlock 0 (cLoop (cSeq (cSeq (cReg [o 11 (fMove (.t 6)), o 12 (fFieldAddr 4 (.t 2)), o 13 (fLoad1 (.t 12)), o 14 (fLenSl (.t 13)), o 15 (fBin .lss .int (.t 11) (.t 14))])
 (cCond (.t 15) cSkip (cExit 0)))
 (cSeq (cBlock 1 (cReg [o 18 (fMove (.t 5)), o 19 (fFieldAddr 4 (.t 2)), o 20 (fLoad1 (.t 19)), o 21 (fMove (.t 6)), o 22 (fIndexAddr 5 (.t 20) (.t 21)), o 23 (fLoadN (.t 22) 5), o 24 (fMove (.t 1)), o 25 (fBin .sub .int (.t 24) (.c (I 1))), o 26 (fCall 211 [(.t 23), (.t 25)]), o 27 (fMax [(.t 18), (.t 26)]), o 5 (fMove (.t 27))]))
 (cReg [o 16 (fMove (.t 6)), o 17 (fBin .add .int (.t 16) (.c (I 1))), o 6 (fMove (.t 17))]))))))
 (cSeq (cReg [o 28 (fMove (.t 5)), o 29 (fBin .add .int (.t 28) (.c (I 1))), o 4 (fMove (.t 29))])
 cRet))))))⟩
noncomputable def c212 : FFn := ⟨[.tmp 6], (cSeq (cReg [o 3 (fBox (.t 0)), o 6 (fMove (.c (I 0)))])
 (cSeq (cSeq (cReg [o 11 (fFieldAddr 0 (.t 3)), o 12 (fLoad1 (.t 11)), o 13 (fBin .eql .int (.t 12) (.c (I 0))), o 14 (fMove (.t 13)), g 15 (fFieldAddr 1 (.t 3)) 14 true, g 16 (fLoad1 (.t 15)) 14 true, g 17 (fMove (.t 1)) 14 true, g 18 (fBin .geq .int (.t 16) (.t 17)) 14 true, o 19 (fPick (.t 14) (.t 18) (.c (.bool false)))])
 (cCond (.t 19) (cSeq (cReg [o 6 (fMove (.c (I 8)))])
 cRet) cSkip))
 (cSeq (cSeq (cReg [o 20 (fFieldAddr 3 (.t 3)), o 21 (fLoad1 (.t 20)), o 22 (fLenSl (.t 21)), o 23 (fBin .gtr .int (.t 22) (.c (I 4)))])
 (cCond (.t 23) (cSeq (cReg [o 6 (fMove (.c (I 7)))])
 cRet) cSkip))
 (cSeq (cSeq (cReg [o 7 (fMove (.c (I 0)))])
 (cBlock 0 (cLoop (cSeq (cSeq (cReg [o 24 (fMove (.t 7)), o 25 (fFieldAddr 3 (.t 3)), o 26 (fLoad1 (.t 25)), o 27 (fLenSl (.t 26)), o 28 (fBin .lss .int (.t 24) (.t 27))])
 (cCond (.t 28) cSkip (cExit 0)))
 (cSeq (cBlock 1 (cSeq (cReg [o 31 (fFieldAddr 3 (.t 3)), o 32 (fLoad1 (.t 31)), o 33 (fMove (.t 7)), o 34 (fIndexAddr 3 (.t 32) (.t 33)), o 35 (fLoadN (.t 34) 3), o 36 (fMove (.t 2)), o 37 (fCall 224 [(.t 35), (.t 36)]), o 38 (fNot (.t 37))])
 (cCond (.t 38) (cSeq (cReg [o 6 (fMove (.c (I 7)))])
 cRet) cSkip)))
 (cReg [o 29 (fMove (.t 7)), o 30 (fBin .add .int (.t 29) (.c (I 1))), o 7 (fMove (.t 30))]))))))
 (cSeq (cSeq (cReg [o 39 (fFieldAddr 0 (.t 3)), o 40 (fLoad1 (.t 39)), o 41 (fBin .eql .int (.t 40) (.c (I 2))), o 42 (fMove (.t 41)), g 43 (fFieldAddr 2 (.t 3)) 42 true, g 44 (fLoad1 (.t 43)) 42 true, g 45 (fBin .eql .str (.t 44) (.c (.str []))) 42 true, g 46 (fMove (.t 45)) 42 true, g 47 (fFieldAddr 2 (.t 3)) 46 false, g 48 (fLoad1 (.t 47)) 46 false, g 49 (fLenStr (.t 48)) 46 false, g 50 (fBin .gtr .int (.t 49) (.c (I 24))) 46 false, g 51 (fPick (.t 46) (.c (.bool true)) (.t 50)) 42 true, o 52 (fPick (.t 42) (.t 51) (.c (.bool false)))])
 (cCond (.t 52) (cSeq (cReg [o 6 (fMove (.c (I 9)))])
 cRet) cSkip))
 (cSeq (cSeq (cReg [o 8 (fMove (.c (I 0)))])
 (cBlock 2 (cLoop (cSeq (cSeq (cReg [o 53 (fMove (.t 8)), o 54 (fFieldAddr 4 (.t 3)), o 55 (fLoad1 (.t 54)), o 56 (fLenSl (.t 55)), o 57 (fBin .lss .int (.t 53) (.t 56))])
 (cCond (.t 57) cSkip (cExit 2)))
 (cSeq (cBlock 3 (cSeq (cReg [o 60 (fMove (.t 1)), o 9 (fMove (.t 60))])
 (cSeq (cSeq (cReg [o 61 (fMove (.t 9)), o 62 (fBin .leq .int (.t 61) (.c (I 1073741824)))])
 (cCond (.t 62) (cReg [o 63 (fMove (.t 9)), o 64 (fFieldAddr 0 (.t 3)), o 65 (fLoad1 (.t 64)), o 66 (fMove (.t 8)), o 67 (fCall 93 [(.t 65), (.t 66)]), o 68 (fBin .add .int (.t 63) (.t 67)), o 9 (fMove (.t 68))]) cSkip))
 (cSeq (cReg [o 69 (fFieldAddr 4 (.t 3)), o 70 (fLoad1 (.t 69)), o 71 (fMove (.t 8)), o 72 (fIndexAddr 5 (.t 70) (.t 71)), o 73 (fLoadN (.t 72) 5), o 74 (fMove (.t 9)), o 75 (fMove (.t 2)), o 76 (fCall 212 [(.t 73), (.t 74), (.t 75)]), o 10 (fMove (.t 76))])
 (cSeq (cReg [o 77 (fMove (.t 10)), o 78 (fBin .neq .int (.t 77) (.c (I 0)))])
 (cCond (.t 78) (cSeq (cReg [o 79 (fMove (.t 10)), o 6 (fMove (.t 79))])
 cRet) cSkip))))))
 (cReg [o 58 (fMove (.t 8)), o 59 (fBin .add .int (.t 58) (.c (I 1))), o 8 (fMove (.t 59))]))))))
 (cSeq (cReg [o 6 (fMove (.c (I 0)))])
 cRet)))))))⟩
noncomputable def c213 : FFn := ⟨[.tmp 4], (cSeq (cReg [o 2 (fBox (.t 0)), o 4 (fMove (.c .nilSlice))])
 (cSeq (cSeq (cReg [o 6 (fFieldAddr 0 (.t 2)), o 7 (fLoad1 (.t 6)), o 8 (fBin .eql .int (.t 7) (.c (I 2)))])
 (cCond (.t 8) (cReg [o 9 (fMove (.t 1)), o 10 (fFieldAddr 2 (.t 2)), o 11 (fLoad1 (.t 10)), o 12 (fCall 225 [(.t 9), (.t 11)]), o 1 (fMove (.t 12))]) cSkip))
 (cSeq (cSeq (cReg [o 5 (fMove (.c (I 0)))])
 (cBlock 0 (cLoop (cSeq (cSeq (cReg [o 13 (fMove (.t 5)), o 14 (fFieldAddr 4 (.t 2)), o 15 (fLoad1 (.t 14)), o 16 (fLenSl (.t 15)), o 17 (fBin .lss .int (.t 13) (.t 16))])
 (cCond (.t 17) cSkip (cExit 0)))
 (cSeq (cBlock 1 (cReg [o 20 (fFieldAddr 4 (.t 2)), o 21 (fLoad1 (.t 20)), o 22 (fMove (.t 5)), o 23 (fIndexAddr 5 (.t 21) (.t 22)), o 24 (fLoadN (.t 23) 5), o 25 (fMove (.t 1)), o 26 (fCall 213 [(.t 24), (.t 25)]), o 1 (fMove (.t 26))]))
 (cReg [o 18 (fMove (.t 5)), o 19 (fBin .add .int (.t 18) (.c (I 1))), o 5 (fMove (.t 19))]))))))
 (cSeq (cReg [o 27 (fMove (.t 1)), o 4 (fMove (.t 27))])
 cRet))))⟩
noncomputable def c214 : FFn := ⟨[.cellN 6 5], (cSeq (cReg [o 3 (fBox (.t 0)), o 4 (fBox (.t 1)), o 5 (fBox (.t 2)), o 6 (fAlloc [(I 0), (I 0), (.str []), .nilSlice, .nilSlice])])
 (cSeq (cSeq (cReg [o 9 (fLoad1 (.t 4)), o 10 (fBin .eql .int (.t 9) (.c (I 0)))])
 (cCond (.t 10) (cSeq (cReg [o 11 (fLoadN (.t 3) 5), n (fStore (.t 6) (.t 11) 5)])
 cRet) cSkip))
 (cSeq (cReg [o 13 (fLoadN (.t 3) 5), o 14 (fMkFunc 227 [(.t 5), (.t 4)]), o 15 (fCall 226 [(.t 13), (.c (I 0)), (.t 14)]), o 12 (fMove (.t 15)), o 16 (fExtract (.t 12) 0), o 17 (fExtract (.t 12) 1), o 7 (fAlloc [(I 0), (I 0), (.str []), .nilSlice, .nilSlice]), n (fStore (.t 7) (.t 16) 5), o 8 (fMove (.t 17))])
 (cSeq (cReg [o 18 (fLoadN (.t 7) 5), n (fStore (.t 6) (.t 18) 5)])
 cRet))))⟩
noncomputable def c215 : FFn := ⟨[.tmp 8], (cSeq (cReg [o 6 (fBox (.t 2)), o 7 (fBox (.t 3)), o 8 (fMove (.c (I 0)))])
 (cSeq (cReg [o 13 (fMove (.t 0)), o 14 (fMove (.t 1)), o 15 (fLoadN (.t 6) 5), o 16 (fCall 120 [(.t 13), (.t 14), (.t 15)]), o 12 (fMove (.t 16)), o 17 (fExtract (.t 12) 0), o 18 (fExtract (.t 12) 1), o 9 (fAlloc [(I 0), (I 0), (.str []), .nilSlice, .nilSlice]), n (fStore (.t 9) (.t 17) 5), o 10 (fMove (.t 18))])
 (cSeq (cSeq (cReg [o 19 (fMove (.t 10)), o 20 (fBin .neq .int (.t 19) (.c (I 0)))])
 (cCond (.t 20) (cSeq (cReg [o 21 (fMove (.t 10)), o 8 (fMove (.t 21))])
 cRet) cSkip))
 (cSeq (cDraw [⟨0, .pure, 0, (some 23), [0], (fMove (.t 0))⟩, ⟨1, .pure, 1, (some 24), [23], (fNilCheck (.t 23))⟩, ⟨2, .pure, 3, (some 25), [24], (fFieldAddr 0 (.t 24))⟩, ⟨3, (.rd1 (.t 25)), 7, (some 26), [25], (fLoad1 (.t 25))⟩, ⟨4, (.rdN (.t 9) 5), 0, (some 27), [9], (fLoadN (.t 9) 5)⟩, ⟨5, (.rdN (.t 7) 5), 0, (some 28), [7], (fLoadN (.t 7) 5)⟩, ⟨6, .wr, 63, (some 29), [26, 27, 28], (fCall 228 [(.t 26), (.t 27), (.t 28)])⟩, ⟨7, .pure, 127, (some 22), [29], (fMove (.t 29))⟩, ⟨8, .pure, 255, (some 30), [22], (fExtract (.t 22) 0)⟩, ⟨9, .pure, 255, (some 31), [22], (fExtract (.t 22) 1)⟩, ⟨10, .pure, 511, (some 11), [30], (fMove (.t 30))⟩, ⟨11, .pure, 2047, (some 10), [31], (fMove (.t 31))⟩])
 (cSeq (cBlock 0 (cSeq (cReg [o 33 (fMove (.t 10)), o 34 (fBin .neq .int (.t 33) (.c (I 0))), o 32 (fMove (.t 34))])
 (cCond (.t 32) (cSeq (cReg [o 35 (fMove (.t 10)), o 8 (fMove (.t 35))])
 cRet) (cSeq (cReg [o 37 (fMove (.t 11)), o 38 (fNot (.t 37)), o 36 (fMove (.t 38))])
 (cCond (.t 36) (cSeq (cReg [o 8 (fMove (.c (I 15)))])
 cRet) cSkip)))))
 (cSeq (cReg [o 8 (fMove (.c (I 0)))])
 cRet))))))⟩
noncomputable def c216 : FFn := ⟨[.cellN 8 5, .tmp 9, .tmp 10], (cSeq (cReg [o 5 (fBox (.t 1)), o 6 (fBox (.t 2)), o 8 (fAlloc [(I 0), (I 0), (.str []), .nilSlice, .nilSlice]), o 9 (fMove (.c (.bool false))), o 10 (fMove (.c (I 0)))])
 (cSeq (cReg [o 14 (fMove (.t 0)), o 15 (fNilCheck (.t 14)), o 16 (fFieldAddr 1 (.t 15)), o 17 (fFieldAddr 1 (.t 16)), o 18 (fLoad1 (.t 17)), o 19 (fMax [(.t 18), (.c (I 0))]), o 11 (fMove (.t 19))])
 (cSeq (cReg [o 12 (fAlloc [(I 0)]), o 13 (fAlloc [(I 0)]), n (fStore (.t 12) (.c (I 0)) 1), n (fStore (.t 13) (.c (I 0)) 1)])
 (cSeq (cReg [o 20 (fLoadN (.t 5) 5), o 21 (fMove (.t 11)), o 22 (fCall 229 [(.t 20), (.c (I 0)), (.t 12), (.t 13), (.t 21)])])
 (cSeq (cSeq (cDraw [⟨0, (.rd1 (.t 12)), 0, (some 23), [12], (fLoad1 (.t 12))⟩, ⟨1, .pure, 0, (some 24), [11], (fMove (.t 11))⟩, ⟨2, .pure, 3, (some 25), [23, 24], (fBin .gtr .int (.t 23) (.t 24))⟩, ⟨3, .pure, 7, (some 26), [25], (fMove (.t 25))⟩, ⟨4, (.rd1 (.t 12)), 15, (some 27), [12, 26], (gF (fLoad1 (.t 12)) 26 false)⟩, ⟨5, (.rd1 (.t 13)), 15, (some 28), [13, 26], (gF (fLoad1 (.t 13)) 26 false)⟩, ⟨6, (.rdN (.t 6) 5), 15, (some 29), [6, 26], (gF (fLoadN (.t 6) 5) 26 false)⟩, ⟨7, .pure, 15, (some 30), [11, 26], (gF (fMove (.t 11)) 26 false)⟩, ⟨12, .pure, 15, (some 35), [11, 26], (gF (fMove (.t 11)) 26 false)⟩, ⟨8, .wr, 207, (some 31), [29, 30, 26], (gF (fCall 192 [(.t 29), (.t 30)]) 26 false)⟩, ⟨9, .pure, 463, (some 32), [31, 26], (gF (fBin .sub .int (.t 31) (.c (I 1))) 26 false)⟩, ⟨10, .pure, 1007, (some 33), [28, 32, 26], (gF (fBin .mul .int (.t 28) (.t 32)) 26 false)⟩, ⟨11, .pure, 2047, (some 34), [27, 33, 26], (gF (fBin .add .int (.t 27) (.t 33)) 26 false)⟩, ⟨13, .pure, 8191, (some 36), [34, 35, 26], (gF (fBin .gtr .int (.t 34) (.t 35)) 26 false)⟩, ⟨14, .pure, 16383, (some 37), [26, 36], (fPick (.t 26) (.c (.bool true)) (.t 36))⟩])
 (cCond (.t 37) (cSeq (cReg [o 38 (fBuild [(I 0), (I 0), (.str []), .nilSlice, .nilSlice] []), n (fStore (.t 8) (.t 38) 5), o 9 (fMove (.c (.bool false))), o 10 (fMove (.c (I 12)))])
 cRet) cSkip))
 (cSeq (cReg [o 39 (fMove (.t 0)), o 40 (fLoadN (.t 5) 5), o 41 (fLoadN (.t 6) 5), o 42 (fCall 230 [(.t 40), (.t 41)]), o 43 (fMove (.t 3)), o 44 (fCall 197 [(.t 42), (.t 43)]), o 45 (fCall 196 [(.t 39), (.t 44)]), o 46 (fExtract (.t 45) 0), o 47 (fExtract (.t 45) 1), o 48 (fExtract (.t 45) 2), n (fStore (.t 8) (.t 46) 5), o 9 (fMove (.t 47)), o 10 (fMove (.t 48))])
 cRet))))))⟩
noncomputable def c217 : FFn := ⟨[.cellN 6 5], (cSeq (cReg [o 4 (fBox (.t 1)), o 5 (fBox (.t 2)), o 6 (fAlloc [(I 0), (I 0), (.str []), .nilSlice, .nilSlice])])
 (cSeq (cReg [o 7 (fMove (.t 0)), o 8 (fLoadN (.t 4) 5), o 9 (fLoadN (.t 5) 5), o 10 (fBuildSlice 2 [(I 0), (I 0), (.str []), .nilSlice, .nilSlice, (I 0), (I 0), (.str []), .nilSlice, .nilSlice] [(0, (5, (.t 8))), (5, (5, (.t 9)))]), o 11 (fBuild [(I 0), (I 0), (.str []), .nilSlice, .nilSlice] [(0, (1, (.t 7))), (4, (1, (.t 10)))]), n (fStore (.t 6) (.t 11) 5)])
 cRet))⟩
noncomputable def c218 : FFn := ⟨[], (cSeq (cReg [o 3 (fBox (.t 0))])
 (cSeq (cSeq (cReg [o 8 (fMove (.t 1)), o 9 (fNilCheck (.t 8)), o 10 (fLoad1 (.t 9)), o 11 (fBin .add .int (.t 10) (.c (I 1))), o 12 (fNilCheck (.t 8)), n (fStore (.t 12) (.t 11) 1)])
 (cSeq (cReg [o 13 (fMove (.t 1)), o 14 (fNilCheck (.t 13)), o 15 (fLoad1 (.t 14)), o 16 (fMove (.t 2)), o 17 (fBin .gtr .int (.t 15) (.t 16))])
 (cCond (.t 17) cRet cSkip)))
 (cSeq (cReg [o 18 (fFieldAddr 4 (.t 3)), o 19 (fLoad1 (.t 18)), o 20 (fLenSl (.t 19)), o 21 (fMove (.c (I 0)))])
 (cBlock 0 (cLoop (cSeq (cReg [o 22 (fBin .lss .int (.t 21) (.t 20))])
 (cSeq (cCond (.t 22) cSkip (cExit 0))
 (cSeq (cBlock 1 (cSeq (cReg [o 23 (fIndexAddr 5 (.t 19) (.t 21)), o 24 (fLoadN (.t 23) 5), o 7 (fAlloc [(I 0), (I 0), (.str []), .nilSlice, .nilSlice]), n (fStore (.t 7) (.t 24) 5)])
 (cSeq (cReg [o 25 (fLoadN (.t 7) 5), o 26 (fMove (.t 1)), o 27 (fMove (.t 2)), o 28 (fCall 218 [(.t 25), (.t 26), (.t 27)])])
 (cSeq (cReg [o 29 (fMove (.t 1)), o 30 (fNilCheck (.t 29)), o 31 (fLoad1 (.t 30)), o 32 (fMove (.t 2)), o 33 (fBin .gtr .int (.t 31) (.t 32))])
 (cCond (.t 33) cRet cSkip)))))
 (cReg [o 34 (fBin .add .int (.t 21) (.c (I 1))), o 21 (fMove (.t 34))])))))))))⟩
noncomputable def c219 : FFn := ⟨[.tmp 6], (cSeq (cReg [o 3 (fBox (.t 0)), o 6 (fMove (.c (.bool false)))])
 (cSeq (cSeq (cReg [o 9 (fMove (.t 2)), o 10 (fNilCheck (.t 9)), o 11 (fLoad1 (.t 10)), o 12 (fBin .add .int (.t 11) (.c (I 1))), o 13 (fNilCheck (.t 9)), n (fStore (.t 13) (.t 12) 1)])
 (cSeq (cReg [o 14 (fMove (.t 1)), o 15 (fBin .gtr .int (.t 14) (.c (I 32))), o 16 (fMove (.t 15)), g 17 (fMove (.t 2)) 16 false, g 18 (fNilCheck (.t 17)) 16 false, g 19 (fLoad1 (.t 18)) 16 false, g 20 (fBin .gtr .int (.t 19) (.c (I 64))) 16 false, o 21 (fPick (.t 16) (.c (.bool true)) (.t 20))])
 (cCond (.t 21) (cSeq (cReg [o 6 (fMove (.c (.bool false)))])
 cRet) cSkip)))
 (cSeq (cSeq (cReg [o 22 (fFieldAddr 2 (.t 3)), o 23 (fLoad1 (.t 22)), o 24 (fLenSl (.t 23)), o 25 (fMove (.c (I 0)))])
 (cBlock 0 (cLoop (cSeq (cReg [o 26 (fBin .lss .int (.t 25) (.t 24))])
 (cSeq (cCond (.t 26) cSkip (cExit 0))
 (cSeq (cBlock 1 (cSeq (cReg [o 27 (fIndexAddr 3 (.t 23) (.t 25)), o 28 (fLoadN (.t 27) 3), o 8 (fAlloc [(I 0), (I 0), .nilSlice]), n (fStore (.t 8) (.t 28) 3)])
 (cSeq (cReg [o 29 (fLoadN (.t 8) 3), o 30 (fMove (.t 1)), o 31 (fBin .add .int (.t 30) (.c (I 1))), o 32 (fMove (.t 2)), o 33 (fCall 219 [(.t 29), (.t 31), (.t 32)]), o 34 (fNot (.t 33))])
 (cCond (.t 34) (cSeq (cReg [o 6 (fMove (.c (.bool false)))])
 cRet) cSkip))))
 (cReg [o 35 (fBin .add .int (.t 25) (.c (I 1))), o 25 (fMove (.t 35))])))))))
 (cSeq (cReg [o 6 (fMove (.c (.bool true)))])
 cRet))))⟩
noncomputable def c220 : FFn := ⟨[.cellN 4 9, .tmp 5], (cSeq (cReg [o 3 (fBox (.t 1)), o 4 (fAlloc [(I 0), (I 0), (.str []), .nilSlice, .nilSlice, .nilSlice, .nilPtr, (I 0), (I 0)]), o 5 (fMove (.c (.bool false)))])
 (cSeq (cReg [o 9 (fBuild [(I 0), (I 0), (.str []), .nilSlice, .nilSlice, .nilSlice, .nilPtr, (I 0), (I 0)] []), o 6 (fAlloc [(I 0), (I 0), (.str []), .nilSlice, .nilSlice, .nilSlice, .nilPtr, (I 0), (I 0)]), n (fStore (.t 6) (.t 9) 9)])
 (cSeq (cReg [o 11 (fLoadN (.t 3) 5), o 12 (fCall 113 [(.t 11)]), o 10 (fMove (.t 12)), o 13 (fExtract (.t 10) 0), o 14 (fExtract (.t 10) 1), o 15 (fFieldAddr 0 (.t 6)), n (fStore (.t 15) (.t 13) 5), o 16 (fFieldAddr 5 (.t 6)), n (fStore (.t 16) (.t 14) 1)])
 (cSeq (cReg [o 17 (fMove (.t 0)), o 18 (fFieldAddr 0 (.t 6)), o 19 (fFieldAddr 2 (.t 18)), o 20 (fLoad1 (.t 19)), o 21 (fCall 195 [(.t 17), (.t 20)]), o 7 (fMove (.t 21))])
 (cSeq (cSeq (cDraw [⟨0, .pure, 0, (some 22), [6], (fFieldAddr 0 (.t 6))⟩, ⟨1, .pure, 1, (some 23), [22], (fFieldAddr 0 (.t 22))⟩, ⟨2, (.rd1 (.t 23)), 3, (some 24), [23], (fLoad1 (.t 23))⟩, ⟨3, .pure, 7, (some 25), [24], (fBin .neq .int (.t 24) (.c (I 2)))⟩, ⟨4, .pure, 15, (some 26), [25], (fMove (.t 25))⟩, ⟨5, .pure, 31, (some 27), [7, 26], (gF (fMove (.t 7)) 26 false)⟩, ⟨6, .pure, 63, (some 28), [27, 26], (gF (fBin .eql .ptr (.t 27) (.c .nilPtr)) 26 false)⟩, ⟨7, .pure, 127, (some 29), [26, 28], (fPick (.t 26) (.c (.bool true)) (.t 28))⟩, ⟨8, .pure, 255, (some 30), [29], (fMove (.t 29))⟩, ⟨9, .pure, 511, (some 31), [7, 30], (gF (fMove (.t 7)) 30 false)⟩, ⟨10, .pure, 1023, (some 32), [31, 30], (gF (fNilCheck (.t 31)) 30 false)⟩, ⟨11, .pure, 2047, (some 33), [32, 30], (gF (fFieldAddr 0 (.t 32)) 30 false)⟩, ⟨12, (.rd1 (.t 33)), 4095, (some 34), [33, 30], (gF (fLoad1 (.t 33)) 30 false)⟩, ⟨13, .pure, 8191, (some 35), [34, 30], (gF (fBin .neq .int (.t 34) (.c (I 5))) 30 false)⟩, ⟨14, .pure, 16383, (some 36), [30, 35], (fPick (.t 30) (.c (.bool true)) (.t 35))⟩, ⟨15, .pure, 32767, (some 37), [36], (fMove (.t 36))⟩, ⟨16, .pure, 65535, (some 38), [6, 37], (gF (fFieldAddr 0 (.t 6)) 37 false)⟩, ⟨17, .pure, 131071, (some 39), [38, 37], (gF (fFieldAddr 3 (.t 38)) 37 false)⟩, ⟨18, (.rd1 (.t 39)), 262143, (some 40), [39, 37], (gF (fLoad1 (.t 39)) 37 false)⟩, ⟨19, .pure, 524287, (some 41), [40, 37], (gF (fLenSl (.t 40)) 37 false)⟩, ⟨20, .pure, 65535, (some 42), [7, 37], (gF (fMove (.t 7)) 37 false)⟩, ⟨21, .pure, 1114111, (some 43), [42, 37], (gF (fNilCheck (.t 42)) 37 false)⟩, ⟨22, .pure, 3211263, (some 44), [43, 37], (gF (fFieldAddr 1 (.t 43)) 37 false)⟩, ⟨23, (.rd1 (.t 44)), 7405567, (some 45), [44, 37], (gF (fLoad1 (.t 44)) 37 false)⟩, ⟨24, .pure, 16777215, (some 46), [41, 45, 37], (gF (fBin .neq .int (.t 41) (.t 45)) 37 false)⟩, ⟨25, .pure, 33554431, (some 47), [37, 46], (fPick (.t 37) (.c (.bool true)) (.t 46))⟩])
 (cCond (.t 47) (cSeq (cReg [o 48 (fBuild [(I 0), (I 0), (.str []), .nilSlice, .nilSlice, .nilSlice, .nilPtr, (I 0), (I 0)] []), n (fStore (.t 4) (.t 48) 9), o 5 (fMove (.c (.bool false)))])
 cRet) cSkip))
 (cSeq (cReg [o 49 (fMove (.t 0)), o 50 (fMove (.t 7)), o 51 (fNilCheck (.t 50)), o 52 (fFieldAddr 4 (.t 51)), o 53 (fLoad1 (.t 52)), o 54 (fCall 195 [(.t 49), (.t 53)]), o 55 (fFieldAddr 6 (.t 6)), n (fStore (.t 55) (.t 54) 1)])
 (cSeq (cSeq (cReg [o 56 (fFieldAddr 6 (.t 6)), o 57 (fLoad1 (.t 56)), o 58 (fBin .eql .ptr (.t 57) (.c .nilPtr)), o 59 (fMove (.t 58)), g 60 (fFieldAddr 6 (.t 6)) 59 false, g 61 (fLoad1 (.t 60)) 59 false, g 62 (fNilCheck (.t 61)) 59 false, g 63 (fFieldAddr 0 (.t 62)) 59 false, g 64 (fLoad1 (.t 63)) 59 false, g 65 (fBin .neq .int (.t 64) (.c (I 3))) 59 false, o 66 (fPick (.t 59) (.c (.bool true)) (.t 65))])
 (cCond (.t 66) (cSeq (cReg [o 67 (fBuild [(I 0), (I 0), (.str []), .nilSlice, .nilSlice, .nilSlice, .nilPtr, (I 0), (I 0)] []), n (fStore (.t 4) (.t 67) 9), o 5 (fMove (.c (.bool false)))])
 cRet) cSkip))
 (cSeq (cReg [o 68 (fFieldAddr 6 (.t 6)), o 69 (fLoad1 (.t 68)), o 70 (fNilCheck (.t 69)), o 71 (fFieldAddr 2 (.t 70)), o 72 (fLoad1 (.t 71)), o 73 (fFieldAddr 7 (.t 6)), n (fStore (.t 73) (.t 72) 1)])
 (cSeq (cDraw [⟨0, .pure, 0, (some 74), [6], (fFieldAddr 6 (.t 6))⟩, ⟨1, (.rd1 (.t 74)), 1, (some 75), [74], (fLoad1 (.t 74))⟩, ⟨2, .pure, 3, (some 76), [75], (fNilCheck (.t 75))⟩, ⟨3, .pure, 7, (some 77), [76], (fFieldAddr 5 (.t 76))⟩, ⟨4, (.rdN (.t 77) 5), 15, (some 78), [77], (fLoadN (.t 77) 5)⟩, ⟨6, .pure, 0, (some 80), [6], (fFieldAddr 7 (.t 6))⟩, ⟨7, (.rd1 (.t 80)), 64, (some 81), [80], (fLoad1 (.t 80))⟩, ⟨5, .wr, 31, (some 79), [78], (fCall 231 [(.t 78)])⟩, ⟨8, .pure, 255, (some 82), [79, 81], (fBin .sub .int (.t 79) (.t 81))⟩, ⟨9, .pure, 511, (some 8), [82], (fMove (.t 82))⟩])
 (cSeq (cDraw [⟨0, .pure, 0, (some 83), [6], (fFieldAddr 7 (.t 6))⟩, ⟨1, (.rd1 (.t 83)), 1, (some 84), [83], (fLoad1 (.t 83))⟩, ⟨2, .pure, 3, (some 85), [84], (fBin .add .int (.t 84) (.c (I 1)))⟩, ⟨3, .pure, 0, (some 86), [6], (fFieldAddr 6 (.t 6))⟩, ⟨4, (.rd1 (.t 86)), 8, (some 87), [86], (fLoad1 (.t 86))⟩, ⟨5, .pure, 24, (some 88), [87], (fNilCheck (.t 87))⟩, ⟨6, .pure, 56, (some 89), [88], (fFieldAddr 15 (.t 88))⟩, ⟨7, (.rd1 (.t 89)), 120, (some 90), [89], (fLoad1 (.t 89))⟩, ⟨8, .pure, 248, (some 91), [90], (fLenSl (.t 90))⟩, ⟨9, .pure, 511, (some 92), [85, 91], (fBin .add .int (.t 85) (.t 91))⟩, ⟨10, .pure, 0, (some 93), [8], (fMove (.t 8))⟩, ⟨11, .pure, 2047, (some 94), [92, 93], (fBin .add .int (.t 92) (.t 93))⟩, ⟨12, .pure, 4095, (some 95), [6], (fFieldAddr 8 (.t 6))⟩, ⟨13, .wr, 8191, none, [95, 94], (fStore (.t 95) (.t 94) 1)⟩])
 (cSeq (cSeq (cReg [o 96 (fFieldAddr 7 (.t 6)), o 97 (fLoad1 (.t 96)), o 98 (fBin .lss .int (.t 97) (.c (I 0))), o 99 (fMove (.t 98)), g 100 (fMove (.t 8)) 99 false, g 101 (fBin .lss .int (.t 100) (.c (I 0))) 99 false, o 102 (fPick (.t 99) (.c (.bool true)) (.t 101)), o 103 (fMove (.t 102)), g 104 (fFieldAddr 8 (.t 6)) 103 false, g 105 (fLoad1 (.t 104)) 103 false, g 106 (fFieldAddr 5 (.t 6)) 103 false, g 107 (fLoad1 (.t 106)) 103 false, g 108 (fLenSl (.t 107)) 103 false, g 109 (fBin .geq .int (.t 105) (.t 108)) 103 false, o 110 (fPick (.t 103) (.c (.bool true)) (.t 109))])
 (cCond (.t 110) (cSeq (cReg [o 111 (fBuild [(I 0), (I 0), (.str []), .nilSlice, .nilSlice, .nilSlice, .nilPtr, (I 0), (I 0)] []), n (fStore (.t 4) (.t 111) 9), o 5 (fMove (.c (.bool false)))])
 cRet) cSkip))
 (cSeq (cReg [o 112 (fLoadN (.t 6) 9), n (fStore (.t 4) (.t 112) 9), o 5 (fMove (.c (.bool true)))])
 cRet))))))))))))⟩
noncomputable def c221 : FFn := ⟨[.cellN 4 5, .tmp 5], (cSeq (cReg [o 2 (fBox (.t 0)), o 3 (fBox (.t 1)), o 4 (fAlloc [(I 0), (I 0), (.str []), .nilSlice, .nilSlice]), o 5 (fMove (.c (.bool false)))])
 (cSeq (cReg [o 19 (fLoadN (.t 3) 5), o 20 (fCall 113 [(.t 19)]), o 18 (fMove (.t 20)), o 21 (fExtract (.t 18) 0), o 22 (fExtract (.t 18) 1), o 6 (fAlloc [(I 0), (I 0), (.str []), .nilSlice, .nilSlice]), n (fStore (.t 6) (.t 21) 5), o 7 (fMove (.t 22))])
 (cSeq (cReg [o 8 (fMove (.c (.int .i64 (.negSucc 0))))])
 (cSeq (cSeq (cReg [o 23 (fFieldAddr 0 (.t 6)), o 24 (fLoad1 (.t 23)), o 25 (fBin .eql .int (.t 24) (.c (I 2)))])
 (cCond (.t 25) (cReg [o 26 (fFieldAddr 6 (.t 2)), o 27 (fLoad1 (.t 26)), o 28 (fNilCheck (.t 27)), o 29 (fFieldAddr 15 (.t 28)), o 30 (fLoad1 (.t 29)), o 31 (fMkFunc 233 [(.t 6)]), o 32 (fCall 232 [(.t 30), (.t 31)]), o 8 (fMove (.t 32))]) cSkip))
 (cSeq (cSeq (cReg [o 33 (fMove (.t 8)), o 34 (fBin .lss .int (.t 33) (.c (I 0)))])
 (cCond (.t 34) (cSeq (cReg [o 35 (fBuild [(I 0), (I 0), (.str []), .nilSlice, .nilSlice] []), n (fStore (.t 4) (.t 35) 5), o 5 (fMove (.c (.bool false)))])
 cRet) cSkip))
 (cSeq (cReg [o 36 (fFieldAddr 6 (.t 2)), o 37 (fLoad1 (.t 36)), o 38 (fNilCheck (.t 37)), o 39 (fFieldAddr 15 (.t 38)), o 40 (fLoad1 (.t 39)), o 41 (fMove (.t 8)), o 42 (fIndexAddr 6 (.t 40) (.t 41)), o 43 (fFieldAddr 1 (.t 42)), o 44 (fLoadN (.t 43) 5), o 9 (fAlloc [(I 0), (I 0), (.str []), .nilSlice, .nilSlice]), n (fStore (.t 9) (.t 44) 5)])
 (cSeq (cSeq (cDraw [⟨0, .pure, 0, (some 45), [7], (fMove (.t 7))⟩, ⟨1, .pure, 1, (some 46), [45], (fLenSl (.t 45))⟩, ⟨2, .pure, 0, (some 47), [2], (fFieldAddr 7 (.t 2))⟩, ⟨3, (.rd1 (.t 47)), 4, (some 48), [47], (fLoad1 (.t 47))⟩, ⟨4, (.rdN (.t 9) 5), 0, (some 49), [9], (fLoadN (.t 9) 5)⟩, ⟨6, .pure, 0, (some 51), [2], (fFieldAddr 7 (.t 2))⟩, ⟨7, (.rd1 (.t 51)), 64, (some 52), [51], (fLoad1 (.t 51))⟩, ⟨5, .wr, 16, (some 50), [49], (fCall 231 [(.t 49)])⟩, ⟨8, .pure, 240, (some 53), [50, 52], (fBin .sub .int (.t 50) (.t 52))⟩, ⟨9, .pure, 496, (some 54), [53], (fMax [(.t 53), (.c (I 0))])⟩, ⟨10, .pure, 1020, (some 55), [48, 54], (fBin .add .int (.t 48) (.t 54))⟩, ⟨11, .pure, 2047, (some 56), [46, 55], (fBin .neq .int (.t 46) (.t 55))⟩])
 (cCond (.t 56) (cSeq (cReg [o 57 (fBuild [(I 0), (I 0), (.str []), .nilSlice, .nilSlice] []), n (fStore (.t 4) (.t 57) 5), o 5 (fMove (.c (.bool false)))])
 cRet) cSkip))
 (cSeq (cReg [o 58 (fMove (.t 7)), o 59 (fFieldAddr 7 (.t 2)), o 60 (fLoad1 (.t 59)), o 61 (fSliceSl 5 (.t 58) (some (.t 60)) none none), o 10 (fMove (.t 61))])
 (cSeq (cReg [o 62 (fFieldAddr 5 (.t 2)), o 63 (fLoad1 (.t 62)), o 64 (fFieldAddr 7 (.t 2)), o 65 (fLoad1 (.t 64)), o 66 (fBin .add .int (.t 65) (.c (I 1))), o 67 (fMove (.t 8)), o 68 (fBin .add .int (.t 66) (.t 67)), o 69 (fIndexAddr 5 (.t 63) (.t 68)), o 70 (fLoadN (.t 69) 5), o 71 (fMove (.t 10)), o 72 (fCall 197 [(.t 70), (.t 71)]), o 11 (fAlloc [(I 0), (I 0), (.str []), .nilSlice, .nilSlice]), n (fStore (.t 11) (.t 72) 5)])
 (cSeq (cReg [o 73 (fFieldAddr 5 (.t 2)), o 74 (fLoad1 (.t 73)), o 75 (fFieldAddr 7 (.t 2)), o 76 (fLoad1 (.t 75)), o 77 (fSliceSl 5 (.t 74) none (some (.t 76)) none), o 78 (fCall 234 [(.t 77)]), o 12 (fMove (.t 78))])
 (cSeq (cSeq (cReg [o 79 (fFieldAddr 7 (.t 2)), o 80 (fLoad1 (.t 79)), o 81 (fMove (.c (I 0)))])
 (cBlock 0 (cLoop (cSeq (cReg [o 82 (fBin .lss .int (.t 81) (.t 80))])
 (cSeq (cCond (.t 82) cSkip (cExit 0))
 (cSeq (cBlock 1 (cSeq (cReg [o 83 (fMove (.t 10)), o 84 (fLenSl (.t 83)), o 85 (fBin .gtr .int (.t 84) (.c (I 0)))])
 (cCond (.t 85) (cReg [o 86 (fFieldAddr 4 (.t 9)), o 87 (fLoad1 (.t 86)), o 88 (fIndexAddr 5 (.t 87) (.c (I 1))), o 89 (fLoadN (.t 88) 5), n (fStore (.t 9) (.t 89) 5)]) cSkip)))
 (cReg [o 90 (fBin .add .int (.t 81) (.c (I 1))), o 81 (fMove (.t 90))])))))))
 (cSeq (cSeq (cReg [o 91 (fMove (.t 10)), o 92 (fLenSl (.t 91)), o 93 (fMove (.c (I 0)))])
 (cBlock 2 (cLoop (cSeq (cReg [o 94 (fBin .lss .int (.t 93) (.t 92))])
 (cSeq (cCond (.t 94) cSkip (cExit 2))
 (cSeq (cBlock 3 (cSeq (cReg [o 95 (fIndexAddr 5 (.t 91) (.t 93)), o 96 (fLoadN (.t 95) 5), o 14 (fAlloc [(I 0), (I 0), (.str []), .nilSlice, .nilSlice]), n (fStore (.t 14) (.t 96) 5)])
 (cSeq (cSeq (cReg [o 98 (fFieldAddr 4 (.t 9)), o 99 (fLoad1 (.t 98)), o 100 (fIndexAddr 5 (.t 99) (.c (I 0))), o 101 (fLoadN (.t 100) 5), o 102 (fCall 235 [(.t 101)]), o 103 (fCall 113 [(.t 102)]), o 97 (fMove (.t 103)), o 104 (fExtract (.t 97) 0), o 105 (fExtract (.t 97) 1), o 15 (fAlloc [(I 0), (I 0), (.str []), .nilSlice, .nilSlice]), n (fStore (.t 15) (.t 104) 5), o 16 (fMove (.t 105))])
 (cSeq (cDraw [⟨0, .pure, 0, (some 106), [15], (fFieldAddr 0 (.t 15))⟩, ⟨1, (.rd1 (.t 106)), 1, (some 107), [106], (fLoad1 (.t 106))⟩, ⟨2, .pure, 3, (some 108), [107], (fBin .eql .int (.t 107) (.c (I 2)))⟩, ⟨3, .pure, 7, (some 109), [108], (fMove (.t 108))⟩, ⟨4, .pure, 15, (some 110), [15, 109], (gF (fFieldAddr 2 (.t 15)) 109 true)⟩, ⟨5, (.rd1 (.t 110)), 31, (some 111), [110, 109], (gF (fLoad1 (.t 110)) 109 true)⟩, ⟨6, .pure, 15, (some 112), [2, 109], (gF (fFieldAddr 6 (.t 2)) 109 true)⟩, ⟨7, (.rd1 (.t 112)), 79, (some 113), [112, 109], (gF (fLoad1 (.t 112)) 109 true)⟩, ⟨8, .pure, 207, (some 114), [113, 109], (gF (fNilCheck (.t 113)) 109 true)⟩, ⟨9, .pure, 463, (some 115), [114, 109], (gF (fFieldAddr 3 (.t 114)) 109 true)⟩, ⟨10, (.rd1 (.t 115)), 975, (some 116), [115, 109], (gF (fLoad1 (.t 115)) 109 true)⟩, ⟨11, .pure, 2047, (some 117), [111, 116, 109], (gF (fBin .eql .str (.t 111) (.t 116)) 109 true)⟩, ⟨12, .pure, 4095, (some 118), [109, 117], (fPick (.t 109) (.t 117) (.c (.bool false)))⟩])
 (cCond (.t 118) (cSeq (cDraw [⟨0, .pure, 0, (some 119), [9], (fFieldAddr 4 (.t 9))⟩, ⟨1, (.rd1 (.t 119)), 1, (some 120), [119], (fLoad1 (.t 119))⟩, ⟨2, .pure, 3, (some 121), [120], (fIndexAddr 5 (.t 120) (.c (I 0)))⟩, ⟨3, (.rdN (.t 121) 5), 7, (some 122), [121], (fLoadN (.t 121) 5)⟩, ⟨4, .pure, 0, (some 123), [2], (fFieldAddr 0 (.t 2))⟩, ⟨5, .pure, 16, (some 124), [123], (fFieldAddr 3 (.t 123))⟩, ⟨6, (.rd1 (.t 124)), 48, (some 125), [124], (fLoad1 (.t 124))⟩, ⟨8, .pure, 0, (some 127), [12], (fMove (.t 12))⟩, ⟨7, .wr, 127, (some 126), [122, 125], (fCall 198 [(.t 122), (.t 125)])⟩, ⟨9, .wr, 511, (some 128), [126, 127], (fCall 236 [(.t 126), (.t 127)])⟩, ⟨10, .alloc, 0, (some 17), [], (fAlloc [(I 0), (I 0), (.str []), .nilSlice, .nilSlice])⟩, ⟨11, .wr, 2047, none, [17, 128], (fStore (.t 17) (.t 128) 5)⟩])
 (cDraw [⟨0, (.rdN (.t 11) 5), 0, (some 129), [11], (fLoadN (.t 11) 5)⟩, ⟨1, (.rdN (.t 2) 9), 0, (some 130), [2], (fLoadN (.t 2) 9)⟩, ⟨2, (.rdN (.t 17) 5), 0, (some 131), [17], (fLoadN (.t 17) 5)⟩, ⟨3, (.rdN (.t 14) 5), 0, (some 132), [14], (fLoadN (.t 14) 5)⟩, ⟨4, .wr, 14, (some 133), [130, 131, 132], (fCall 237 [(.t 130), (.t 131), (.t 132)])⟩, ⟨5, .alloc, 30, (some 134), [133], (fBuildSlice 1 [(I 0), (I 0), (.str []), .nilSlice, .nilSlice] [(0, (5, (.t 133)))])⟩, ⟨6, .wr, 63, (some 135), [129, 134], (fCall 197 [(.t 129), (.t 134)])⟩, ⟨7, .wr, 127, none, [11, 135], (fStore (.t 11) (.t 135) 5)⟩])) cSkip)))
 (cDraw [⟨0, .pure, 0, (some 136), [12], (fMove (.t 12))⟩, ⟨1, (.rdN (.t 14) 5), 0, (some 137), [14], (fLoadN (.t 14) 5)⟩, ⟨4, .pure, 0, (some 140), [9], (fFieldAddr 4 (.t 9))⟩, ⟨5, (.rd1 (.t 140)), 16, (some 141), [140], (fLoad1 (.t 140))⟩, ⟨6, .pure, 48, (some 142), [141], (fIndexAddr 5 (.t 141) (.c (I 1)))⟩, ⟨7, (.rdN (.t 142) 5), 112, (some 143), [142], (fLoadN (.t 142) 5)⟩, ⟨2, .alloc, 2, (some 138), [137], (fBuildSlice 1 [(I 0), (I 0), (.str []), .nilSlice, .nilSlice] [(0, (5, (.t 137)))])⟩, ⟨3, .wr, 7, (some 139), [136, 138], (fAppend 5 80 (.t 136) (.t 138))⟩, ⟨8, .pure, 15, (some 12), [139], (fMove (.t 139))⟩, ⟨9, .wr, 511, none, [9, 143], (fStore (.t 9) (.t 143) 5)⟩]))))
 (cReg [o 144 (fBin .add .int (.t 93) (.c (I 1))), o 93 (fMove (.t 144))])))))))
 (cSeq (cDraw [⟨0, (.rdN (.t 11) 5), 0, (some 145), [11], (fLoadN (.t 11) 5)⟩, ⟨1, .pure, 0, (some 146), [2], (fFieldAddr 5 (.t 2))⟩, ⟨2, (.rd1 (.t 146)), 2, (some 147), [146], (fLoad1 (.t 146))⟩, ⟨3, .pure, 0, (some 148), [2], (fFieldAddr 8 (.t 2))⟩, ⟨4, (.rd1 (.t 148)), 8, (some 149), [148], (fLoad1 (.t 148))⟩, ⟨5, .pure, 24, (some 150), [149], (fBin .add .int (.t 149) (.c (I 1)))⟩, ⟨6, .pure, 62, (some 151), [147, 150], (fSliceSl 5 (.t 147) (some (.t 150)) none none)⟩, ⟨7, .wr, 127, (some 152), [145, 151], (fCall 197 [(.t 145), (.t 151)])⟩, ⟨8, .wr, 255, none, [4, 152], (fStore (.t 4) (.t 152) 5)⟩, ⟨9, .pure, 511, (some 5), [], (fMove (.c (.bool true)))⟩])
 cRet)))))))))))))⟩
noncomputable def c222 : FFn := ⟨[.tmp 8, .tmp 9], (cSeq (cReg [o 8 (fMove (.c (I 0))), o 9 (fMove (.c (I 0)))])
 (cSeq (cSeq (cDraw [⟨0, .pure, 0, (some 10), [0], (fMove (.t 0))⟩, ⟨1, .pure, 0, (some 11), [2], (fMove (.t 2))⟩, ⟨2, .pure, 3, (some 12), [10, 11], (fIndexAddr 1 (.t 10) (.t 11))⟩, ⟨3, (.rd1 (.t 12)), 7, (some 13), [12], (fLoad1 (.t 12))⟩, ⟨4, .pure, 0, (some 14), [0], (fMove (.t 0))⟩, ⟨5, .pure, 0, (some 15), [1], (fMove (.t 1))⟩, ⟨6, .pure, 48, (some 16), [14, 15], (fIndexAddr 1 (.t 14) (.t 15))⟩, ⟨7, (.rd1 (.t 16)), 112, (some 17), [16], (fLoad1 (.t 16))⟩, ⟨8, .wr, 255, (some 18), [13, 17], (fCall 136 [(.t 13), (.t 17)])⟩])
 (cCond (.t 18) (cSeq (cReg [o 19 (fMove (.t 3)), o 20 (fNilCheck (.t 19)), o 21 (fLoad1 (.t 20)), o 22 (fBin .add .int (.t 21) (.c (I 1))), o 23 (fNilCheck (.t 19)), n (fStore (.t 23) (.t 22) 1)])
 (cSeq (cReg [o 24 (fMove (.t 2)), o 25 (fMove (.t 1)), o 8 (fMove (.t 24)), o 9 (fMove (.t 25))])
 cRet)) cSkip))
 (cSeq (cReg [o 26 (fMove (.t 1)), o 27 (fMove (.t 2)), o 8 (fMove (.t 26)), o 9 (fMove (.t 27))])
 cRet)))⟩
noncomputable def c223 : FFn := ⟨[.tmp 2], (cSeq (cReg [o 1 (fBox (.t 0)), o 2 (fMove (.c (.bool false)))])
 (cSeq (cSeq (cDraw [⟨0, .pure, 0, (some 3), [1], (fFieldAddr 0 (.t 1))⟩, ⟨1, (.rd1 (.t 3)), 1, (some 4), [3], (fLoad1 (.t 3))⟩, ⟨3, .pure, 0, (some 6), [1], (fFieldAddr 4 (.t 1))⟩, ⟨4, (.rd1 (.t 6)), 8, (some 7), [6], (fLoad1 (.t 6))⟩, ⟨5, .pure, 24, (some 8), [7], (fLenSl (.t 7))⟩, ⟨2, .wr, 3, (some 5), [4], (fCall 238 [(.t 4)])⟩, ⟨6, .pure, 63, (some 9), [5, 8], (fBin .neq .int (.t 5) (.t 8))⟩, ⟨7, .pure, 127, (some 10), [9], (fMove (.t 9))⟩, ⟨8, .pure, 255, (some 11), [1, 10], (gF (fFieldAddr 0 (.t 1)) 10 false)⟩, ⟨9, (.rd1 (.t 11)), 511, (some 12), [11, 10], (gF (fLoad1 (.t 11)) 10 false)⟩, ⟨10, .pure, 1023, (some 13), [12, 10], (gF (fBin .neq .int (.t 12) (.c (I 0))) 10 false)⟩, ⟨11, .pure, 2047, (some 14), [13, 10], (gF (fMove (.t 13)) 10 false)⟩, ⟨12, .pure, 4095, (some 15), [1, 14], (gF (fFieldAddr 1 (.t 1)) 14 true)⟩, ⟨13, (.rd1 (.t 15)), 8191, (some 16), [15, 14], (gF (fLoad1 (.t 15)) 14 true)⟩, ⟨14, .pure, 16383, (some 17), [16, 14], (gF (fBin .neq .int (.t 16) (.c (I 0))) 14 true)⟩, ⟨15, .pure, 32767, (some 18), [14, 17, 10], (gF (fPick (.t 14) (.t 17) (.c (.bool false))) 10 false)⟩, ⟨16, .pure, 65535, (some 19), [10, 18], (fPick (.t 10) (.c (.bool true)) (.t 18))⟩, ⟨17, .pure, 131071, (some 20), [19], (fMove (.t 19))⟩, ⟨18, .pure, 262143, (some 21), [1, 20], (gF (fFieldAddr 1 (.t 1)) 20 false)⟩, ⟨19, (.rd1 (.t 21)), 524287, (some 22), [21, 20], (gF (fLoad1 (.t 21)) 20 false)⟩, ⟨20, .pure, 1048575, (some 23), [22, 20], (gF (fBin .lss .int (.t 22) (.c (I 0))) 20 false)⟩, ⟨21, .pure, 2097151, (some 24), [20, 23], (fPick (.t 20) (.c (.bool true)) (.t 23))⟩, ⟨22, .pure, 4194303, (some 25), [24], (fMove (.t 24))⟩, ⟨23, .pure, 8388607, (some 26), [1, 25], (gF (fFieldAddr 1 (.t 1)) 25 false)⟩, ⟨24, (.rd1 (.t 26)), 16777215, (some 27), [26, 25], (gF (fLoad1 (.t 26)) 25 false)⟩, ⟨25, .pure, 33554431, (some 28), [27, 25], (gF (fBin .gtr .int (.t 27) (.c (I 1073741824))) 25 false)⟩, ⟨26, .pure, 67108863, (some 29), [25, 28], (fPick (.t 25) (.c (.bool true)) (.t 28))⟩, ⟨27, .pure, 134217727, (some 30), [29], (fMove (.t 29))⟩, ⟨28, .pure, 268435455, (some 31), [1, 30], (gF (fFieldAddr 0 (.t 1)) 30 false)⟩, ⟨29, (.rd1 (.t 31)), 536870911, (some 32), [31, 30], (gF (fLoad1 (.t 31)) 30 false)⟩, ⟨30, .pure, 1073741823, (some 33), [32, 30], (gF (fBin .neq .int (.t 32) (.c (I 2))) 30 false)⟩, ⟨31, .pure, 2147483647, (some 34), [33, 30], (gF (fMove (.t 33)) 30 false)⟩, ⟨32, .pure, 4294967295, (some 35), [1, 34], (gF (fFieldAddr 2 (.t 1)) 34 true)⟩, ⟨33, (.rd1 (.t 35)), 8589934591, (some 36), [35, 34], (gF (fLoad1 (.t 35)) 34 true)⟩, ⟨34, .pure, 17179869183, (some 37), [36, 34], (gF (fBin .neq .str (.t 36) (.c (.str []))) 34 true)⟩, ⟨35, .pure, 34359738367, (some 38), [34, 37, 30], (gF (fPick (.t 34) (.t 37) (.c (.bool false))) 30 false)⟩, ⟨36, .pure, 68719476735, (some 39), [30, 38], (fPick (.t 30) (.c (.bool true)) (.t 38))⟩])
 (cCond (.t 39) (cSeq (cReg [o 2 (fMove (.c (.bool false)))])
 cRet) cSkip))
 (cSeq (cReg [o 40 (fFieldAddr 0 (.t 1)), o 41 (fLoad1 (.t 40)), o 42 (fBin .eql .int (.t 41) (.c (I 2))), o 43 (fMove (.t 42)), g 44 (fFieldAddr 0 (.t 1)) 43 false, g 45 (fLoad1 (.t 44)) 43 false, g 46 (fBin .eql .int (.t 45) (.c (I 1))) 43 false, g 47 (fMove (.t 46)) 43 false, g 48 (fFieldAddr 3 (.t 1)) 47 true, g 49 (fLoad1 (.t 48)) 47 true, g 50 (fLenSl (.t 49)) 47 true, g 51 (fBin .eql .int (.t 50) (.c (I 1))) 47 true, g 52 (fPick (.t 47) (.t 51) (.c (.bool false))) 43 false, o 53 (fPick (.t 43) (.c (.bool true)) (.t 52)), o 54 (fMove (.t 53)), g 55 (fFieldAddr 0 (.t 1)) 54 false, g 56 (fLoad1 (.t 55)) 54 false, g 57 (fBin .neq .int (.t 56) (.c (I 1))) 54 false, g 58 (fMove (.t 57)) 54 false, g 59 (fFieldAddr 3 (.t 1)) 58 true, g 60 (fLoad1 (.t 59)) 58 true, g 61 (fLenSl (.t 60)) 58 true, g 62 (fBin .eql .int (.t 61) (.c (I 0))) 58 true, g 63 (fPick (.t 58) (.t 62) (.c (.bool false))) 54 false, o 64 (fPick (.t 54) (.c (.bool true)) (.t 63)), o 2 (fMove (.t 64))])
 cRet)))⟩
noncomputable def c224 : FFn := ⟨[.tmp 4], (cSeq (cReg [o 2 (fBox (.t 0)), o 4 (fMove (.c (.bool false)))])
 (cSeq (cReg [o 5 (fLoadN (.t 2) 3), o 6 (fCall 239 [(.t 5), (.c (I 64))]), o 7 (fBin .leq .int (.t 6) (.c (I 64))), o 8 (fMove (.t 7)), g 9 (fLoadN (.t 2) 3) 8 true, g 10 (fMove (.t 1)) 8 true, g 11 (fMax [(.t 10), (.c (I 0))]) 8 true, g 12 (fMin [(.t 11), (.c (I 4))]) 8 true, g 13 (fCall 240 [(.t 9), (.t 12), (.c (I 1))]) 8 true, o 14 (fPick (.t 8) (.t 13) (.c (.bool false))), o 4 (fMove (.t 14))])
 cRet))⟩
noncomputable def c225 : FFn := ⟨[.tmp 4], (cSeq (cReg [o 4 (fMove (.c .nilSlice))])
 (cSeq (cReg [o 5 (fMove (.c (I 0)))])
 (cSeq (cBlock 0 (cLoop (cSeq (cSeq (cReg [o 6 (fMove (.t 5)), o 7 (fMove (.t 0)), o 8 (fLenSl (.t 7)), o 9 (fBin .lss .int (.t 6) (.t 8)), o 10 (fMove (.t 9)), g 11 (fMove (.t 0)) 10 true, g 12 (fMove (.t 5)) 10 true, g 13 (fIndexAddr 1 (.t 11) (.t 12)) 10 true, g 14 (fLoad1 (.t 13)) 10 true, g 15 (fMove (.t 1)) 10 true, g 16 (fBin .lss .str (.t 14) (.t 15)) 10 true, o 17 (fPick (.t 10) (.t 16) (.c (.bool false)))])
 (cCond (.t 17) cSkip (cExit 0)))
 (cBlock 1 (cReg [o 18 (fMove (.t 5)), o 19 (fBin .add .int (.t 18) (.c (I 1))), o 5 (fMove (.t 19))])))))
 (cSeq (cSeq (cReg [o 20 (fMove (.t 5)), o 21 (fMove (.t 0)), o 22 (fLenSl (.t 21)), o 23 (fBin .lss .int (.t 20) (.t 22)), o 24 (fMove (.t 23)), g 25 (fMove (.t 0)) 24 true, g 26 (fMove (.t 5)) 24 true, g 27 (fIndexAddr 1 (.t 25) (.t 26)) 24 true, g 28 (fLoad1 (.t 27)) 24 true, g 29 (fMove (.t 1)) 24 true, g 30 (fBin .eql .str (.t 28) (.t 29)) 24 true, o 31 (fPick (.t 24) (.t 30) (.c (.bool false)))])
 (cCond (.t 31) (cSeq (cReg [o 32 (fMove (.t 0)), o 4 (fMove (.t 32))])
 cRet) cSkip))
 (cSeq (cDraw [⟨1, .pure, 0, (some 34), [0], (fMove (.t 0))⟩, ⟨2, .pure, 0, (some 35), [5], (fMove (.t 5))⟩, ⟨3, .pure, 6, (some 36), [34, 35], (fSliceSl 1 (.t 34) none (some (.t 35)) none)⟩, ⟨5, .pure, 0, (some 38), [1], (fMove (.t 1))⟩, ⟨8, .pure, 0, (some 41), [0], (fMove (.t 0))⟩, ⟨9, .pure, 0, (some 42), [5], (fMove (.t 5))⟩, ⟨10, .pure, 768, (some 43), [41, 42], (fSliceSl 1 (.t 41) (some (.t 42)) none none)⟩, ⟨0, .alloc, 0, (some 33), [], (fBuildSlice 0 [] [])⟩, ⟨4, .wr, 15, (some 37), [33, 36], (fAppend 1 16 (.t 33) (.t 36))⟩, ⟨6, .alloc, 32, (some 39), [38], (fBuildSlice 1 [(.str [])] [(0, (1, (.t 38)))])⟩, ⟨7, .wr, 127, (some 40), [37, 39], (fAppend 1 16 (.t 37) (.t 39))⟩, ⟨11, .wr, 2047, (some 44), [40, 43], (fAppend 1 16 (.t 40) (.t 43))⟩, ⟨12, .pure, 4095, (some 4), [44], (fMove (.t 44))⟩])
 cRet)))))⟩
noncomputable def c226 : FFn := ⟨[.cellN 6 5, .tmp 7], (cSeq (cReg [o 3 (fBox (.t 0)), o 6 (fAlloc [(I 0), (I 0), (.str []), .nilSlice, .nilSlice]), o 7 (fMove (.c (.bool false)))])
 (cSeq (cSeq (cReg [o 13 (fFieldAddr 0 (.t 3)), o 14 (fLoad1 (.t 13)), o 15 (fBin .eql .int (.t 14) (.c (I 0)))])
 (cCond (.t 15) (cSeq (cReg [o 16 (fMove (.t 2)), o 17 (fLoadN (.t 3) 5), o 18 (fMove (.t 1)), o 19 (fCallV (.t 16) [(.t 17), (.t 18)]), o 20 (fExtract (.t 19) 0), o 21 (fExtract (.t 19) 1), n (fStore (.t 6) (.t 20) 5), o 7 (fMove (.t 21))])
 cRet) cSkip))
 (cSeq (cReg [o 8 (fMove (.c .nilSlice))])
 (cSeq (cSeq (cReg [o 22 (fFieldAddr 4 (.t 3)), o 23 (fLoad1 (.t 22)), o 24 (fLenSl (.t 23)), o 25 (fMove (.c (I 0)))])
 (cBlock 0 (cLoop (cSeq (cReg [o 26 (fBin .lss .int (.t 25) (.t 24))])
 (cSeq (cCond (.t 26) cSkip (cExit 0))
 (cSeq (cBlock 1 (cSeq (cReg [o 27 (fMove (.t 25)), o 28 (fIndexAddr 5 (.t 23) (.t 25)), o 29 (fLoadN (.t 28) 5), o 10 (fAlloc [(I 0), (I 0), (.str []), .nilSlice, .nilSlice]), o 9 (fMove (.t 27)), n (fStore (.t 10) (.t 29) 5)])
 (cSeq (cDraw [⟨0, (.rdN (.t 10) 5), 0, (some 31), [10], (fLoadN (.t 10) 5)⟩, ⟨1, .pure, 0, (some 32), [1], (fMove (.t 1))⟩, ⟨2, .pure, 0, (some 33), [3], (fFieldAddr 0 (.t 3))⟩, ⟨3, (.rd1 (.t 33)), 4, (some 34), [33], (fLoad1 (.t 33))⟩, ⟨4, .pure, 0, (some 35), [9], (fMove (.t 9))⟩, ⟨7, .pure, 0, (some 38), [2], (fMove (.t 2))⟩, ⟨5, .wr, 28, (some 36), [34, 35], (fCall 241 [(.t 34), (.t 35)])⟩, ⟨6, .pure, 62, (some 37), [32, 36], (fBin .add .int (.t 32) (.t 36))⟩, ⟨8, .wr, 255, (some 39), [31, 37, 38], (fCall 226 [(.t 31), (.t 37), (.t 38)])⟩, ⟨9, .pure, 511, (some 30), [39], (fMove (.t 39))⟩, ⟨10, .pure, 1023, (some 40), [30], (fExtract (.t 30) 0)⟩, ⟨11, .pure, 1023, (some 41), [30], (fExtract (.t 30) 1)⟩, ⟨12, .alloc, 0, (some 11), [], (fAlloc [(I 0), (I 0), (.str []), .nilSlice, .nilSlice])⟩, ⟨13, .wr, 6143, none, [11, 40], (fStore (.t 11) (.t 40) 5)⟩, ⟨14, .pure, 16383, (some 12), [41], (fMove (.t 41))⟩])
 (cSeq (cSeq (cReg [o 42 (fMove (.t 12)), o 43 (fMove (.t 42)), g 44 (fMove (.t 8)) 43 true, g 45 (fBin .eql .slice (.t 44) (.c .nilSlice)) 43 true, o 46 (fPick (.t 43) (.t 45) (.c (.bool false)))])
 (cCond (.t 46) (cDraw [⟨0, .pure, 0, (some 47), [3], (fFieldAddr 4 (.t 3))⟩, ⟨1, (.rd1 (.t 47)), 1, (some 48), [47], (fLoad1 (.t 47))⟩, ⟨2, .pure, 3, (some 49), [48], (fLenSl (.t 48))⟩, ⟨4, .pure, 0, (some 51), [3], (fFieldAddr 4 (.t 3))⟩, ⟨5, (.rd1 (.t 51)), 16, (some 52), [51], (fLoad1 (.t 51))⟩, ⟨6, .pure, 0, (some 53), [9], (fMove (.t 9))⟩, ⟨7, .pure, 112, (some 54), [52, 53], (fSliceSl 5 (.t 52) none (some (.t 53)) none)⟩, ⟨3, .alloc, 7, (some 50), [49], (fMakeSlice 5 80 [(I 0), (I 0), (.str []), .nilSlice, .nilSlice] (.c (I 0)) (.t 49))⟩, ⟨8, .wr, 255, (some 55), [50, 54], (fAppend 5 80 (.t 50) (.t 54))⟩, ⟨9, .pure, 511, (some 8), [55], (fMove (.t 55))⟩]) cSkip))
 (cSeq (cReg [o 56 (fMove (.t 8)), o 57 (fBin .neq .slice (.t 56) (.c .nilSlice))])
 (cCond (.t 57) (cReg [o 58 (fMove (.t 8)), o 59 (fLoadN (.t 11) 5), o 60 (fBuildSlice 1 [(I 0), (I 0), (.str []), .nilSlice, .nilSlice] [(0, (5, (.t 59)))]), o 61 (fAppend 5 80 (.t 58) (.t 60)), o 8 (fMove (.t 61))]) cSkip))))))
 (cReg [o 62 (fBin .add .int (.t 25) (.c (I 1))), o 25 (fMove (.t 62))])))))))
 (cSeq (cSeq (cReg [o 63 (fMove (.t 8)), o 64 (fBin .eql .slice (.t 63) (.c .nilSlice))])
 (cCond (.t 64) (cSeq (cReg [o 65 (fLoadN (.t 3) 5), n (fStore (.t 6) (.t 65) 5), o 7 (fMove (.c (.bool false)))])
 cRet) cSkip))
 (cSeq (cReg [o 66 (fMove (.t 8)), o 67 (fFieldAddr 4 (.t 3)), n (fStore (.t 67) (.t 66) 1)])
 (cSeq (cReg [o 68 (fLoadN (.t 3) 5), n (fStore (.t 6) (.t 68) 5), o 7 (fMove (.c (.bool true)))])
 cRet)))))))⟩
noncomputable def c227 : FFn := ⟨[.cellN 6 5, .tmp 7], (cSeq (cReg [o 4 (fBox (.t 0)), o 6 (fAlloc [(I 0), (I 0), (.str []), .nilSlice, .nilSlice]), o 7 (fMove (.c (.bool false)))])
 (cSeq (cSeq (cReg [o 8 (fFieldAddr 1 (.t 4)), o 9 (fLoad1 (.t 8)), o 10 (fMove (.t 1)), o 11 (fBin .sub .int (.t 9) (.t 10)), o 12 (fLoad1 (.t 2)), o 13 (fBin .lss .int (.t 11) (.t 12))])
 (cCond (.t 13) (cSeq (cReg [o 14 (fLoadN (.t 4) 5), n (fStore (.t 6) (.t 14) 5), o 7 (fMove (.c (.bool false)))])
 cRet) cSkip))
 (cSeq (cReg [o 15 (fFieldAddr 1 (.t 4)), o 16 (fLoad1 (.t 15)), o 17 (fLoad1 (.t 3)), o 18 (fBin .add .int (.t 16) (.t 17)), o 19 (fFieldAddr 1 (.t 4)), n (fStore (.t 19) (.t 18) 1)])
 (cSeq (cReg [o 20 (fLoadN (.t 4) 5), n (fStore (.t 6) (.t 20) 5), o 7 (fMove (.c (.bool true)))])
 cRet))))⟩
noncomputable def c228 : FFn := ⟨[.tmp 6, .tmp 7], (cSeq (cReg [o 4 (fBox (.t 1)), o 5 (fBox (.t 2)), o 6 (fMove (.c (.bool false))), o 7 (fMove (.c (I 0)))])
 (cSeq (cSeq (cReg [o 18 (fMove (.t 0)), o 19 (fCall 151 [(.t 18)]), o 8 (fMove (.t 19))])
 (cSeq (cReg [o 20 (fMove (.t 8)), o 21 (fBin .neq .int (.t 20) (.c (I 0)))])
 (cCond (.t 21) (cSeq (cReg [o 22 (fMove (.t 8)), o 6 (fMove (.c (.bool false))), o 7 (fMove (.t 22))])
 cRet) cSkip)))
 (cSeq (cSeq (cReg [o 23 (fLoadN (.t 4) 5), o 24 (fLoadN (.t 5) 5), o 25 (fCall 242 [(.t 23), (.t 24)])])
 (cCond (.t 25) (cSeq (cReg [o 6 (fMove (.c (.bool true))), o 7 (fMove (.c (I 0)))])
 cRet) cSkip))
 (cSeq (cReg [o 27 (fMove (.t 0)), o 28 (fLoadN (.t 4) 5), o 29 (fCall 121 [(.t 27), (.t 28)]), o 26 (fMove (.t 29)), o 30 (fExtract (.t 26) 0), o 31 (fExtract (.t 26) 1), o 9 (fAlloc [(I 0), (I 0), (.str []), .nilSlice, .nilSlice]), n (fStore (.t 9) (.t 30) 5), o 10 (fMove (.t 31))])
 (cSeq (cSeq (cReg [o 32 (fMove (.t 10)), o 33 (fBin .neq .int (.t 32) (.c (I 0)))])
 (cCond (.t 33) (cSeq (cReg [o 34 (fMove (.t 10)), o 6 (fMove (.c (.bool false))), o 7 (fMove (.t 34))])
 cRet) cSkip))
 (cSeq (cReg [o 36 (fMove (.t 0)), o 37 (fLoadN (.t 5) 5), o 38 (fCall 121 [(.t 36), (.t 37)]), o 35 (fMove (.t 38)), o 39 (fExtract (.t 35) 0), o 40 (fExtract (.t 35) 1), o 11 (fAlloc [(I 0), (I 0), (.str []), .nilSlice, .nilSlice]), n (fStore (.t 11) (.t 39) 5), o 10 (fMove (.t 40))])
 (cSeq (cSeq (cReg [o 41 (fMove (.t 10)), o 42 (fBin .neq .int (.t 41) (.c (I 0)))])
 (cCond (.t 42) (cSeq (cReg [o 43 (fMove (.t 10)), o 6 (fMove (.c (.bool false))), o 7 (fMove (.t 43))])
 cRet) cSkip))
 (cSeq (cDraw [⟨0, .pure, 0, (some 44), [9], (fFieldAddr 0 (.t 9))⟩, ⟨1, (.rd1 (.t 44)), 1, (some 45), [44], (fLoad1 (.t 44))⟩, ⟨2, .pure, 3, (some 46), [45], (fBin .eql .int (.t 45) (.c (I 4)))⟩, ⟨3, .pure, 0, (some 47), [11], (fFieldAddr 0 (.t 11))⟩, ⟨4, (.rd1 (.t 47)), 8, (some 48), [47], (fLoad1 (.t 47))⟩, ⟨5, .pure, 24, (some 49), [48], (fBin .eql .int (.t 48) (.c (I 4)))⟩, ⟨6, .pure, 7, (some 12), [46], (fMove (.t 46))⟩, ⟨7, .pure, 127, (some 13), [49], (fMove (.t 49))⟩])
 (cSeq (cBlock 0 (cSeq (cReg [o 51 (fLoadN (.t 9) 5), o 52 (fLoadN (.t 11) 5), o 53 (fCall 242 [(.t 51), (.t 52)]), o 50 (fMove (.t 53))])
 (cCond (.t 50) (cSeq (cReg [o 6 (fMove (.c (.bool true))), o 7 (fMove (.c (I 0)))])
 cRet) (cSeq (cSeq (cReg [o 55 (fMove (.t 12)), o 56 (fMove (.t 55)), g 57 (fMove (.t 13)) 56 true, o 58 (fPick (.t 56) (.t 57) (.c (.bool false))), o 54 (fMove (.t 58))])
 (cCond (.t 54) cSkip (cReg [o 59 (fFieldAddr 0 (.t 9)), o 60 (fLoad1 (.t 59)), o 61 (fBin .eql .int (.t 60) (.c (I 5))), o 62 (fMove (.t 61)), g 63 (fFieldAddr 0 (.t 11)) 62 true, g 64 (fLoad1 (.t 63)) 62 true, g 65 (fBin .eql .int (.t 64) (.c (I 5))) 62 true, o 66 (fPick (.t 62) (.t 65) (.c (.bool false))), o 54 (fMove (.t 66))])))
 (cCond (.t 54) (cSeq (cReg [o 67 (fMove (.t 0)), o 68 (fFieldAddr 4 (.t 9)), o 69 (fLoad1 (.t 68)), o 70 (fFieldAddr 4 (.t 11)), o 71 (fLoad1 (.t 70)), o 72 (fCall 243 [(.t 67), (.t 69), (.t 71)]), o 73 (fExtract (.t 72) 0), o 74 (fExtract (.t 72) 1), o 6 (fMove (.t 73)), o 7 (fMove (.t 74))])
 cRet) (cSeq (cReg [o 76 (fMove (.t 12)), o 75 (fMove (.t 76))])
 (cCond (.t 75) (cSeq (cDraw [⟨0, .pure, 0, (some 77), [0], (fMove (.t 0))⟩, ⟨1, .pure, 0, (some 78), [9], (fFieldAddr 4 (.t 9))⟩, ⟨2, (.rd1 (.t 78)), 2, (some 79), [78], (fLoad1 (.t 78))⟩, ⟨3, .pure, 6, (some 80), [79], (fIndexAddr 5 (.t 79) (.c (I 1)))⟩, ⟨4, (.rdN (.t 80) 5), 14, (some 81), [80], (fLoadN (.t 80) 5)⟩, ⟨5, (.rdN (.t 11) 5), 0, (some 82), [11], (fLoadN (.t 11) 5)⟩, ⟨6, .wr, 32, (some 83), [82], (fCall 244 [(.t 82)])⟩, ⟨7, .wr, 127, (some 84), [77, 81, 83], (fCall 228 [(.t 77), (.t 81), (.t 83)])⟩, ⟨8, .pure, 255, (some 85), [84], (fExtract (.t 84) 0)⟩, ⟨9, .pure, 255, (some 86), [84], (fExtract (.t 84) 1)⟩, ⟨10, .pure, 1023, (some 6), [85], (fMove (.t 85))⟩, ⟨11, .pure, 2047, (some 7), [86], (fMove (.t 86))⟩])
 cRet) (cSeq (cReg [o 88 (fMove (.t 13)), o 87 (fMove (.t 88))])
 (cCond (.t 87) (cSeq (cDraw [⟨0, .pure, 0, (some 89), [0], (fMove (.t 0))⟩, ⟨1, (.rdN (.t 9) 5), 0, (some 90), [9], (fLoadN (.t 9) 5)⟩, ⟨3, .pure, 0, (some 92), [11], (fFieldAddr 4 (.t 11))⟩, ⟨4, (.rd1 (.t 92)), 8, (some 93), [92], (fLoad1 (.t 92))⟩, ⟨5, .pure, 24, (some 94), [93], (fIndexAddr 5 (.t 93) (.c (I 1)))⟩, ⟨6, (.rdN (.t 94) 5), 56, (some 95), [94], (fLoadN (.t 94) 5)⟩, ⟨2, .wr, 2, (some 91), [90], (fCall 244 [(.t 90)])⟩, ⟨7, .wr, 127, (some 96), [89, 91, 95], (fCall 228 [(.t 89), (.t 91), (.t 95)])⟩, ⟨8, .pure, 255, (some 97), [96], (fExtract (.t 96) 0)⟩, ⟨9, .pure, 255, (some 98), [96], (fExtract (.t 96) 1)⟩, ⟨10, .pure, 1023, (some 6), [97], (fMove (.t 97))⟩, ⟨11, .pure, 2047, (some 7), [98], (fMove (.t 98))⟩])
 cRet) cSkip)))))))))
 (cSeq (cReg [o 100 (fLoadN (.t 9) 5), o 101 (fCall 113 [(.t 100)]), o 99 (fMove (.t 101)), o 102 (fExtract (.t 99) 0), o 103 (fExtract (.t 99) 1), o 14 (fAlloc [(I 0), (I 0), (.str []), .nilSlice, .nilSlice]), n (fStore (.t 14) (.t 102) 5), o 15 (fMove (.t 103))])
 (cSeq (cReg [o 105 (fLoadN (.t 11) 5), o 106 (fCall 113 [(.t 105)]), o 104 (fMove (.t 106)), o 107 (fExtract (.t 104) 0), o 108 (fExtract (.t 104) 1), o 16 (fAlloc [(I 0), (I 0), (.str []), .nilSlice, .nilSlice]), n (fStore (.t 16) (.t 107) 5), o 17 (fMove (.t 108))])
 (cSeq (cSeq (cReg [o 109 (fMove (.t 15)), o 110 (fLenSl (.t 109)), o 111 (fBin .eql .int (.t 110) (.c (I 0))), o 112 (fMove (.t 111)), g 113 (fMove (.t 15)) 112 false, g 114 (fLenSl (.t 113)) 112 false, g 115 (fMove (.t 17)) 112 false, g 116 (fLenSl (.t 115)) 112 false, g 117 (fBin .neq .int (.t 114) (.t 116)) 112 false, o 118 (fPick (.t 112) (.c (.bool true)) (.t 117)), o 119 (fMove (.t 118)), g 120 (fFieldAddr 0 (.t 14)) 119 false, g 121 (fLoad1 (.t 120)) 119 false, g 122 (fBin .neq .int (.t 121) (.c (I 0))) 119 false, g 123 (fMove (.t 122)) 119 false, g 124 (fFieldAddr 0 (.t 14)) 123 true, g 125 (fLoad1 (.t 124)) 123 true, g 126 (fBin .neq .int (.t 125) (.c (I 2))) 123 true, g 127 (fPick (.t 123) (.t 126) (.c (.bool false))) 119 false, o 128 (fPick (.t 119) (.c (.bool true)) (.t 127)), o 129 (fMove (.t 128)), g 130 (fLoadN (.t 14) 5) 129 false, g 131 (fLoadN (.t 16) 5) 129 false, g 132 (fCall 242 [(.t 130), (.t 131)]) 129 false, g 133 (fNot (.t 132)) 129 false, o 134 (fPick (.t 129) (.c (.bool true)) (.t 133))])
 (cCond (.t 134) (cSeq (cReg [o 6 (fMove (.c (.bool false))), o 7 (fMove (.c (I 0)))])
 cRet) cSkip))
 (cSeq (cReg [o 135 (fMove (.t 0)), o 136 (fMove (.t 15)), o 137 (fMove (.t 17)), o 138 (fCall 243 [(.t 135), (.t 136), (.t 137)]), o 139 (fExtract (.t 138) 0), o 140 (fExtract (.t 138) 1), o 6 (fMove (.t 139)), o 7 (fMove (.t 140))])
 cRet)))))))))))))⟩
noncomputable def c229 : FFn := ⟨[], (cSeq (cReg [o 5 (fBox (.t 0))])
 (cSeq (cSeq (cReg [o 12 (fMove (.t 2)), o 13 (fNilCheck (.t 12)), o 14 (fLoad1 (.t 13)), o 15 (fBin .add .int (.t 14) (.c (I 1))), o 16 (fNilCheck (.t 12)), n (fStore (.t 16) (.t 15) 1)])
 (cSeq (cReg [o 17 (fMove (.t 2)), o 18 (fNilCheck (.t 17)), o 19 (fLoad1 (.t 18)), o 20 (fMove (.t 4)), o 21 (fBin .gtr .int (.t 19) (.t 20))])
 (cCond (.t 21) cRet cSkip)))
 (cSeq (cSeq (cReg [o 22 (fFieldAddr 0 (.t 5)), o 23 (fLoad1 (.t 22)), o 24 (fBin .eql .int (.t 23) (.c (I 0))), o 25 (fMove (.t 24)), g 26 (fFieldAddr 1 (.t 5)) 25 true, g 27 (fLoad1 (.t 26)) 25 true, g 28 (fMove (.t 1)) 25 true, g 29 (fBin .eql .int (.t 27) (.t 28)) 25 true, o 30 (fPick (.t 25) (.t 29) (.c (.bool false)))])
 (cCond (.t 30) (cReg [o 31 (fMove (.t 3)), o 32 (fNilCheck (.t 31)), o 33 (fLoad1 (.t 32)), o 34 (fBin .add .int (.t 33) (.c (I 1))), o 35 (fNilCheck (.t 31)), n (fStore (.t 35) (.t 34) 1)]) cSkip))
 (cSeq (cReg [o 36 (fFieldAddr 4 (.t 5)), o 37 (fLoad1 (.t 36)), o 38 (fLenSl (.t 37)), o 39 (fMove (.c (I 0)))])
 (cBlock 0 (cLoop (cSeq (cReg [o 40 (fBin .lss .int (.t 39) (.t 38))])
 (cSeq (cCond (.t 40) cSkip (cExit 0))
 (cSeq (cBlock 1 (cSeq (cReg [o 41 (fMove (.t 39)), o 42 (fIndexAddr 5 (.t 37) (.t 39)), o 43 (fLoadN (.t 42) 5), o 11 (fAlloc [(I 0), (I 0), (.str []), .nilSlice, .nilSlice]), o 10 (fMove (.t 41)), n (fStore (.t 11) (.t 43) 5)])
 (cSeq (cDraw [⟨0, (.rdN (.t 11) 5), 0, (some 44), [11], (fLoadN (.t 11) 5)⟩, ⟨1, .pure, 0, (some 45), [1], (fMove (.t 1))⟩, ⟨2, .pure, 0, (some 46), [5], (fFieldAddr 0 (.t 5))⟩, ⟨3, (.rd1 (.t 46)), 4, (some 47), [46], (fLoad1 (.t 46))⟩, ⟨4, .pure, 0, (some 48), [10], (fMove (.t 10))⟩, ⟨7, .pure, 0, (some 51), [2], (fMove (.t 2))⟩, ⟨8, .pure, 0, (some 52), [3], (fMove (.t 3))⟩, ⟨9, .pure, 0, (some 53), [4], (fMove (.t 4))⟩, ⟨5, .wr, 28, (some 49), [47, 48], (fCall 241 [(.t 47), (.t 48)])⟩, ⟨6, .pure, 62, (some 50), [45, 49], (fBin .add .int (.t 45) (.t 49))⟩, ⟨10, .wr, 1023, (some 54), [44, 50, 51, 52, 53], (fCall 229 [(.t 44), (.t 50), (.t 51), (.t 52), (.t 53)])⟩])
 (cSeq (cReg [o 55 (fMove (.t 2)), o 56 (fNilCheck (.t 55)), o 57 (fLoad1 (.t 56)), o 58 (fMove (.t 4)), o 59 (fBin .gtr .int (.t 57) (.t 58))])
 (cCond (.t 59) cRet cSkip)))))
 (cReg [o 60 (fBin .add .int (.t 39) (.c (I 1))), o 39 (fMove (.t 60))]))))))))))⟩
noncomputable def c230 : FFn := ⟨[.cellN 4 5], (cSeq (cReg [o 2 (fBox (.t 0)), o 3 (fBox (.t 1)), o 4 (fAlloc [(I 0), (I 0), (.str []), .nilSlice, .nilSlice])])
 (cSeq (cReg [o 5 (fLoadN (.t 2) 5), o 6 (fLoadN (.t 3) 5), o 7 (fBuildSlice 1 [(I 0), (I 0), (.str []), .nilSlice, .nilSlice] [(0, (5, (.t 6)))]), o 8 (fCall 236 [(.t 5), (.t 7)]), n (fStore (.t 4) (.t 8) 5)])
 cRet))⟩
noncomputable def c231 : FFn := ⟨[.tmp 2], (cSeq (cReg [o 1 (fBox (.t 0)), o 2 (fMove (.c (I 0)))])
 (cSeq (cReg [o 3 (fMove (.c (I 0)))])
 (cSeq (cBlock 0 (cLoop (cSeq (cSeq (cReg [o 4 (fFieldAddr 0 (.t 1)), o 5 (fLoad1 (.t 4)), o 6 (fBin .eql .int (.t 5) (.c (I 5))), o 7 (fMove (.t 6)), g 8 (fFieldAddr 4 (.t 1)) 7 true, g 9 (fLoad1 (.t 8)) 7 true, g 10 (fLenSl (.t 9)) 7 true, g 11 (fBin .eql .int (.t 10) (.c (I 2))) 7 true, o 12 (fPick (.t 7) (.t 11) (.c (.bool false)))])
 (cCond (.t 12) cSkip (cExit 0)))
 (cBlock 1 (cSeq (cReg [o 13 (fFieldAddr 4 (.t 1)), o 14 (fLoad1 (.t 13)), o 15 (fIndexAddr 5 (.t 14) (.c (I 1))), o 16 (fLoadN (.t 15) 5), n (fStore (.t 1) (.t 16) 5)])
 (cReg [o 17 (fMove (.t 3)), o 18 (fBin .add .int (.t 17) (.c (I 1))), o 3 (fMove (.t 18))]))))))
 (cSeq (cReg [o 19 (fMove (.t 3)), o 2 (fMove (.t 19))])
 cRet))))⟩
noncomputable def c232 : FFn := ⟨[.tmp 4], (cSeq (cReg [o 4 (fMove (.c (I 0)))])
 (cSeq (cSeq (cReg [o 6 (fMove (.t 0)), o 7 (fLenSl (.t 6)), o 8 (fMove (.c (I 0)))])
 (cBlock 0 (cLoop (cSeq (cReg [o 9 (fBin .lss .int (.t 8) (.t 7))])
 (cSeq (cCond (.t 9) cSkip (cExit 0))
 (cSeq (cBlock 1 (cSeq (cReg [o 10 (fMove (.t 8)), o 5 (fMove (.t 10))])
 (cSeq (cReg [o 11 (fMove (.t 1)), o 12 (fMove (.t 0)), o 13 (fMove (.t 5)), o 14 (fIndexAddr 6 (.t 12) (.t 13)), o 15 (fLoadN (.t 14) 6), o 16 (fCallV (.t 11) [(.t 15)])])
 (cCond (.t 16) (cSeq (cReg [o 17 (fMove (.t 5)), o 4 (fMove (.t 17))])
 cRet) cSkip))))
 (cReg [o 18 (fBin .add .int (.t 8) (.c (I 1))), o 8 (fMove (.t 18))])))))))
 (cSeq (cReg [o 4 (fMove (.c (.int .i64 (.negSucc 0))))])
 cRet)))⟩
noncomputable def c233 : FFn := ⟨[.tmp 3], (cSeq (cReg [o 2 (fBox (.t 0)), o 3 (fMove (.c (.bool false)))])
 (cSeq (cReg [o 4 (fFieldAddr 0 (.t 2)), o 5 (fLoad1 (.t 4)), o 6 (fFieldAddr 2 (.t 1)), o 7 (fLoad1 (.t 6)), o 8 (fBin .eql .str (.t 5) (.t 7)), o 3 (fMove (.t 8))])
 cRet))⟩
noncomputable def c234 : FFn := ⟨[.tmp 2], (cSeq (cReg [o 2 (fMove (.c .nilSlice))])
 (cSeq (cSeq (cReg [o 3 (fMove (.t 0)), o 4 (fBin .eql .slice (.t 3) (.c .nilSlice))])
 (cCond (.t 4) (cSeq (cReg [o 2 (fMove (.c .nilSlice))])
 cRet) cSkip))
 (cSeq (cReg [o 5 (fBuildSlice 0 [] []), o 6 (fMove (.t 0)), o 7 (fAppend 5 80 (.t 5) (.t 6)), o 2 (fMove (.t 7))])
 cRet)))⟩
noncomputable def c235 : FFn := ⟨[.cellN 2 5], (cSeq (cReg [o 1 (fBox (.t 0)), o 2 (fAlloc [(I 0), (I 0), (.str []), .nilSlice, .nilSlice])])
 (cSeq (cBlock 0 (cLoop (cSeq (cSeq (cReg [o 3 (fFieldAddr 0 (.t 1)), o 4 (fLoad1 (.t 3)), o 5 (fBin .eql .int (.t 4) (.c (I 5))), o 6 (fMove (.t 5)), g 7 (fFieldAddr 4 (.t 1)) 6 true, g 8 (fLoad1 (.t 7)) 6 true, g 9 (fLenSl (.t 8)) 6 true, g 10 (fBin .eql .int (.t 9) (.c (I 2))) 6 true, o 11 (fPick (.t 6) (.t 10) (.c (.bool false)))])
 (cCond (.t 11) cSkip (cExit 0)))
 (cBlock 1 (cReg [o 12 (fFieldAddr 4 (.t 1)), o 13 (fLoad1 (.t 12)), o 14 (fIndexAddr 5 (.t 13) (.c (I 1))), o 15 (fLoadN (.t 14) 5), n (fStore (.t 1) (.t 15) 5)])))))
 (cSeq (cReg [o 16 (fLoadN (.t 1) 5), n (fStore (.t 2) (.t 16) 5)])
 cRet)))⟩
noncomputable def c236 : FFn := ⟨[.cellN 4 5], (cSeq (cReg [o 2 (fBox (.t 0)), o 3 (fBox (.t 1)), o 4 (fAlloc [(I 0), (I 0), (.str []), .nilSlice, .nilSlice])])
 (cSeq (cReg [o 8 (fLoad1 (.t 3)), o 9 (fLenSl (.t 8)), o 5 (fAlloc [(I 0)]), n (fStore (.t 5) (.t 9) 1)])
 (cSeq (cSeq (cReg [o 10 (fLoad1 (.t 5)), o 11 (fBin .eql .int (.t 10) (.c (I 0)))])
 (cCond (.t 11) (cSeq (cReg [o 12 (fLoadN (.t 2) 5), n (fStore (.t 4) (.t 12) 5)])
 cRet) cSkip))
 (cSeq (cReg [o 14 (fLoadN (.t 2) 5), o 15 (fMkFunc 245 [(.t 5), (.t 3)]), o 16 (fCall 226 [(.t 14), (.c (I 0)), (.t 15)]), o 13 (fMove (.t 16)), o 17 (fExtract (.t 13) 0), o 18 (fExtract (.t 13) 1), o 6 (fAlloc [(I 0), (I 0), (.str []), .nilSlice, .nilSlice]), n (fStore (.t 6) (.t 17) 5), o 7 (fMove (.t 18))])
 (cSeq (cReg [o 19 (fLoadN (.t 6) 5), n (fStore (.t 4) (.t 19) 5)])
 cRet)))))⟩
noncomputable def c237 : FFn := ⟨[.cellN 6 5], (cSeq (cReg [o 3 (fBox (.t 0)), o 4 (fBox (.t 1)), o 5 (fBox (.t 2)), o 6 (fAlloc [(I 0), (I 0), (.str []), .nilSlice, .nilSlice])])
 (cSeq (cReg [o 7 (fMove (.c .nilSlice))])
 (cSeq (cBlock 0 (cLoop (cSeq (cSeq (cReg [o 17 (fFieldAddr 0 (.t 4)), o 18 (fLoad1 (.t 17)), o 19 (fBin .eql .int (.t 18) (.c (I 5)))])
 (cCond (.t 19) cSkip (cExit 0)))
 (cBlock 1 (cSeq (cReg [o 20 (fMove (.t 7)), o 21 (fFieldAddr 4 (.t 4)), o 22 (fLoad1 (.t 21)), o 23 (fIndexAddr 5 (.t 22) (.c (I 0))), o 24 (fLoadN (.t 23) 5), o 25 (fBuildSlice 1 [(I 0), (I 0), (.str []), .nilSlice, .nilSlice] [(0, (5, (.t 24)))]), o 26 (fAppend 5 80 (.t 20) (.t 25)), o 7 (fMove (.t 26))])
 (cReg [o 27 (fFieldAddr 4 (.t 4)), o 28 (fLoad1 (.t 27)), o 29 (fIndexAddr 5 (.t 28) (.c (I 1))), o 30 (fLoadN (.t 29) 5), n (fStore (.t 4) (.t 30) 5)]))))))
 (cSeq (cReg [o 31 (fMove (.t 7)), o 32 (fLenSl (.t 31)), o 8 (fAlloc [(I 0)]), n (fStore (.t 8) (.t 32) 1)])
 (cSeq (cReg [o 33 (fMkFunc 246 [(.t 8)]), o 9 (fMove (.t 33))])
 (cSeq (cReg [o 35 (fLoadN (.t 4) 5), o 36 (fCall 113 [(.t 35)]), o 34 (fMove (.t 36)), o 37 (fExtract (.t 34) 0), o 38 (fExtract (.t 34) 1), o 10 (fAlloc [(I 0), (I 0), (.str []), .nilSlice, .nilSlice]), n (fStore (.t 10) (.t 37) 5), o 11 (fMove (.t 38))])
 (cSeq (cDraw [⟨0, .pure, 0, (some 39), [3], (fFieldAddr 0 (.t 3))⟩, ⟨1, (.rdN (.t 39) 5), 1, (some 40), [39], (fLoadN (.t 39) 5)⟩, ⟨2, .pure, 0, (some 41), [9], (fMove (.t 9))⟩, ⟨3, .pure, 0, (some 42), [3], (fFieldAddr 5 (.t 3))⟩, ⟨4, (.rd1 (.t 42)), 8, (some 43), [42], (fLoad1 (.t 42))⟩, ⟨5, .pure, 0, (some 44), [3], (fFieldAddr 7 (.t 3))⟩, ⟨6, (.rd1 (.t 44)), 32, (some 45), [44], (fLoad1 (.t 44))⟩, ⟨7, .pure, 96, (some 46), [45], (fBin .add .int (.t 45) (.c (I 1)))⟩, ⟨8, .pure, 0, (some 47), [3], (fFieldAddr 6 (.t 3))⟩, ⟨9, (.rd1 (.t 47)), 256, (some 48), [47], (fLoad1 (.t 47))⟩, ⟨10, .pure, 768, (some 49), [48], (fNilCheck (.t 48))⟩, ⟨11, .pure, 1792, (some 50), [49], (fFieldAddr 15 (.t 49))⟩, ⟨12, (.rd1 (.t 50)), 3840, (some 51), [50], (fLoad1 (.t 50))⟩, ⟨13, .pure, 7936, (some 52), [51], (fLenSl (.t 51))⟩, ⟨14, .pure, 16352, (some 53), [46, 52], (fBin .add .int (.t 46) (.t 52))⟩, ⟨15, .pure, 32760, (some 54), [43, 53], (fSliceSl 5 (.t 43) none (some (.t 53)) none)⟩, ⟨16, .wr, 65532, (some 55), [41, 54], (fCallV (.t 41) [(.t 54)])⟩, ⟨17, .wr, 131071, (some 56), [40, 55], (fCall 197 [(.t 40), (.t 55)])⟩, ⟨18, .alloc, 0, (some 12), [], (fAlloc [(I 0), (I 0), (.str []), .nilSlice, .nilSlice])⟩, ⟨19, .wr, 524287, none, [12, 56], (fStore (.t 12) (.t 56) 5)⟩])
 (cSeq (cDraw [⟨0, (.rdN (.t 12) 5), 0, (some 57), [12], (fLoadN (.t 12) 5)⟩, ⟨1, .pure, 0, (some 58), [11], (fMove (.t 11))⟩, ⟨2, .pure, 0, (some 59), [3], (fFieldAddr 7 (.t 3))⟩, ⟨3, (.rd1 (.t 59)), 4, (some 60), [59], (fLoad1 (.t 59))⟩, ⟨4, .pure, 0, (some 61), [11], (fMove (.t 11))⟩, ⟨5, .pure, 16, (some 62), [61], (fLenSl (.t 61))⟩, ⟨6, .pure, 60, (some 63), [60, 62], (fMin [(.t 60), (.t 62)])⟩, ⟨7, .pure, 126, (some 64), [58, 63], (fSliceSl 5 (.t 58) (some (.t 63)) none none)⟩, ⟨8, .wr, 255, (some 65), [57, 64], (fCall 197 [(.t 57), (.t 64)])⟩, ⟨9, .wr, 511, none, [12, 65], (fStore (.t 12) (.t 65) 5)⟩])
 (cSeq (cReg [o 66 (fLoadN (.t 5) 5), o 67 (fLoad1 (.t 8)), o 68 (fCall 214 [(.t 66), (.t 67), (.c (I 0))]), o 13 (fAlloc [(I 0), (I 0), (.str []), .nilSlice, .nilSlice]), n (fStore (.t 13) (.t 68) 5)])
 (cSeq (cSeq (cReg [o 69 (fLoad1 (.t 8)), o 70 (fMove (.c (I 0)))])
 (cBlock 2 (cLoop (cSeq (cReg [o 71 (fBin .lss .int (.t 70) (.t 69))])
 (cSeq (cCond (.t 71) cSkip (cExit 2))
 (cSeq (cBlock 3 (cSeq (cReg [o 72 (fMove (.t 70)), o 14 (fMove (.t 72))])
 (cDraw [⟨0, (.rdN (.t 13) 5), 0, (some 73), [13], (fLoadN (.t 13) 5)⟩, ⟨1, (.rd1 (.t 8)), 0, (some 74), [8], (fLoad1 (.t 8))⟩, ⟨2, .pure, 2, (some 75), [74], (fBin .sub .int (.t 74) (.c (I 1)))⟩, ⟨3, .pure, 0, (some 76), [14], (fMove (.t 14))⟩, ⟨4, .pure, 14, (some 77), [75, 76], (fBin .sub .int (.t 75) (.t 76))⟩, ⟨5, .wr, 30, (some 78), [77], (fCall 247 [(.t 77)])⟩, ⟨6, .alloc, 62, (some 79), [78], (fBuildSlice 1 [(I 0), (I 0), (.str []), .nilSlice, .nilSlice] [(0, (5, (.t 78)))])⟩, ⟨7, .wr, 127, (some 80), [73, 79], (fCall 197 [(.t 73), (.t 79)])⟩, ⟨8, .wr, 255, none, [13, 80], (fStore (.t 13) (.t 80) 5)⟩])))
 (cReg [o 81 (fBin .add .int (.t 70) (.c (I 1))), o 70 (fMove (.t 81))])))))))
 (cSeq (cReg [o 82 (fLoadN (.t 12) 5), o 83 (fLoadN (.t 13) 5), o 84 (fBuildSlice 1 [(I 0), (I 0), (.str []), .nilSlice, .nilSlice] [(0, (5, (.t 83)))]), o 85 (fCall 197 [(.t 82), (.t 84)]), n (fStore (.t 12) (.t 85) 5)])
 (cSeq (cSeq (cReg [o 86 (fMove (.t 7)), o 87 (fCall 248 [(.t 86)])])
 (cBlock 4 cBad))
 (cSeq (cReg [o 93 (fLoadN (.t 12) 5), n (fStore (.t 6) (.t 93) 5)])
 cRet)))))))))))))⟩
noncomputable def c238 : FFn := ⟨[.tmp 2], (cSeq (cReg [o 2 (fMove (.c (I 0)))])
 (cSeq (cSeq (cReg [o 3 (fMove (.t 0))])
 (cBlock 0 (cSeq (cSeq (cReg [o 5 (fBin .eql .int (.t 3) (.c (I 0))), o 4 (fMove (.t 5))])
 (cCond (.t 4) cSkip (cSeq (cReg [o 6 (fBin .eql .int (.t 3) (.c (I 1))), o 4 (fMove (.t 6))])
 (cCond (.t 4) cSkip (cReg [o 7 (fBin .eql .int (.t 3) (.c (I 2))), o 4 (fMove (.t 7))])))))
 (cCond (.t 4) (cSeq (cReg [o 2 (fMove (.c (I 0)))])
 cRet) (cSeq (cSeq (cReg [o 9 (fBin .eql .int (.t 3) (.c (I 3))), o 8 (fMove (.t 9))])
 (cCond (.t 8) cSkip (cSeq (cReg [o 10 (fBin .eql .int (.t 3) (.c (I 4))), o 8 (fMove (.t 10))])
 (cCond (.t 8) cSkip (cReg [o 11 (fBin .eql .int (.t 3) (.c (I 5))), o 8 (fMove (.t 11))])))))
 (cCond (.t 8) (cSeq (cReg [o 2 (fMove (.c (I 2)))])
 cRet) (cSeq (cReg [o 13 (fBin .eql .int (.t 3) (.c (I 6))), o 12 (fMove (.t 13))])
 (cCond (.t 12) (cSeq (cReg [o 2 (fMove (.c (I 3)))])
 cRet) cSkip))))))))
 (cSeq (cReg [o 2 (fMove (.c (.int .i64 (.negSucc 0))))])
 cRet)))⟩
noncomputable def c239 : FFn := ⟨[.tmp 4], (cSeq (cReg [o 2 (fBox (.t 0)), o 4 (fMove (.c (I 0)))])
 (cSeq (cReg [o 5 (fMove (.c (I 1)))])
 (cSeq (cSeq (cReg [o 6 (fMove (.c (I 0)))])
 (cBlock 0 (cLoop (cSeq (cSeq (cReg [o 7 (fMove (.t 6)), o 8 (fFieldAddr 2 (.t 2)), o 9 (fLoad1 (.t 8)), o 10 (fLenSl (.t 9)), o 11 (fBin .lss .int (.t 7) (.t 10)), o 12 (fMove (.t 11)), g 13 (fMove (.t 5)) 12 true, g 14 (fMove (.t 1)) 12 true, g 15 (fBin .leq .int (.t 13) (.t 14)) 12 true, o 16 (fPick (.t 12) (.t 15) (.c (.bool false)))])
 (cCond (.t 16) cSkip (cExit 0)))
 (cSeq (cBlock 1 (cReg [o 19 (fMove (.t 5)), o 20 (fFieldAddr 2 (.t 2)), o 21 (fLoad1 (.t 20)), o 22 (fMove (.t 6)), o 23 (fIndexAddr 3 (.t 21) (.t 22)), o 24 (fLoadN (.t 23) 3), o 25 (fMove (.t 1)), o 26 (fMove (.t 5)), o 27 (fBin .sub .int (.t 25) (.t 26)), o 28 (fCall 239 [(.t 24), (.t 27)]), o 29 (fBin .add .int (.t 19) (.t 28)), o 5 (fMove (.t 29))]))
 (cReg [o 17 (fMove (.t 6)), o 18 (fBin .add .int (.t 17) (.c (I 1))), o 6 (fMove (.t 18))]))))))
 (cSeq (cReg [o 30 (fMove (.t 5)), o 31 (fMove (.t 1)), o 32 (fBin .add .int (.t 31) (.c (I 1))), o 33 (fMin [(.t 30), (.t 32)]), o 4 (fMove (.t 33))])
 cRet))))⟩
noncomputable def c240 : FFn := ⟨[.tmp 6], (cSeq (cReg [o 3 (fBox (.t 0)), o 6 (fMove (.c (.bool false)))])
 (cSeq (cSeq (cDraw [⟨0, .pure, 0, (some 8), [2], (fMove (.t 2))⟩, ⟨1, .pure, 1, (some 9), [8], (fBin .gtr .int (.t 8) (.c (I 32)))⟩, ⟨2, .pure, 3, (some 10), [9], (fMove (.t 9))⟩, ⟨3, .pure, 7, (some 11), [3, 10], (gF (fFieldAddr 0 (.t 3)) 10 false)⟩, ⟨4, (.rd1 (.t 11)), 15, (some 12), [11, 10], (gF (fLoad1 (.t 11)) 10 false)⟩, ⟨6, .pure, 7, (some 14), [3, 10], (gF (fFieldAddr 2 (.t 3)) 10 false)⟩, ⟨7, (.rd1 (.t 14)), 71, (some 15), [14, 10], (gF (fLoad1 (.t 14)) 10 false)⟩, ⟨8, .pure, 199, (some 16), [15, 10], (gF (fLenSl (.t 15)) 10 false)⟩, ⟨5, .wr, 31, (some 13), [12, 10], (gF (fCall 249 [(.t 12)]) 10 false)⟩, ⟨9, .pure, 511, (some 17), [13, 16, 10], (gF (fBin .neq .int (.t 13) (.t 16)) 10 false)⟩, ⟨10, .pure, 1023, (some 18), [10, 17], (fPick (.t 10) (.c (.bool true)) (.t 17))⟩])
 (cCond (.t 18) (cSeq (cReg [o 6 (fMove (.c (.bool false)))])
 cRet) cSkip))
 (cSeq (cSeq (cReg [o 19 (fFieldAddr 0 (.t 3)), o 20 (fLoad1 (.t 19)), o 21 (fBin .eql .int (.t 20) (.c (I 4))), o 22 (fMove (.t 21)), g 23 (fFieldAddr 1 (.t 3)) 22 true, g 24 (fLoad1 (.t 23)) 22 true, g 25 (fBin .lss .int (.t 24) (.c (I 0))) 22 true, g 26 (fMove (.t 25)) 22 true, g 27 (fFieldAddr 1 (.t 3)) 26 false, g 28 (fLoad1 (.t 27)) 26 false, g 29 (fMove (.t 1)) 26 false, g 30 (fBin .geq .int (.t 28) (.t 29)) 26 false, g 31 (fPick (.t 26) (.c (.bool true)) (.t 30)) 22 true, o 32 (fPick (.t 22) (.t 31) (.c (.bool false))), o 33 (fMove (.t 32)), g 34 (fFieldAddr 0 (.t 3)) 33 false, g 35 (fLoad1 (.t 34)) 33 false, g 36 (fBin .neq .int (.t 35) (.c (I 4))) 33 false, g 37 (fMove (.t 36)) 33 false, g 38 (fFieldAddr 1 (.t 3)) 37 true, g 39 (fLoad1 (.t 38)) 37 true, g 40 (fBin .neq .int (.t 39) (.c (I 0))) 37 true, g 41 (fPick (.t 37) (.t 40) (.c (.bool false))) 33 false, o 42 (fPick (.t 33) (.c (.bool true)) (.t 41))])
 (cCond (.t 42) (cSeq (cReg [o 6 (fMove (.c (.bool false)))])
 cRet) cSkip))
 (cSeq (cSeq (cReg [o 7 (fMove (.c (I 0)))])
 (cBlock 0 (cLoop (cSeq (cSeq (cReg [o 43 (fMove (.t 7)), o 44 (fFieldAddr 2 (.t 3)), o 45 (fLoad1 (.t 44)), o 46 (fLenSl (.t 45)), o 47 (fBin .lss .int (.t 43) (.t 46))])
 (cCond (.t 47) cSkip (cExit 0)))
 (cSeq (cBlock 1 (cSeq (cReg [o 50 (fFieldAddr 2 (.t 3)), o 51 (fLoad1 (.t 50)), o 52 (fMove (.t 7)), o 53 (fIndexAddr 3 (.t 51) (.t 52)), o 54 (fLoadN (.t 53) 3), o 55 (fMove (.t 1)), o 56 (fMove (.t 2)), o 57 (fBin .add .int (.t 56) (.c (I 1))), o 58 (fCall 240 [(.t 54), (.t 55), (.t 57)]), o 59 (fNot (.t 58))])
 (cCond (.t 59) (cSeq (cReg [o 6 (fMove (.c (.bool false)))])
 cRet) cSkip)))
 (cReg [o 48 (fMove (.t 7)), o 49 (fBin .add .int (.t 48) (.c (I 1))), o 7 (fMove (.t 49))]))))))
 (cSeq (cReg [o 6 (fMove (.c (.bool true)))])
 cRet)))))⟩
noncomputable def c241 : FFn := ⟨[.tmp 4], (cSeq (cReg [o 4 (fMove (.c (I 0)))])
 (cSeq (cSeq (cReg [o 5 (fMove (.t 0)), o 6 (fBin .eql .int (.t 5) (.c (I 4))), o 7 (fMove (.t 6)), g 8 (fMove (.t 0)) 7 false, g 9 (fBin .eql .int (.t 8) (.c (I 5))) 7 false, o 10 (fPick (.t 7) (.c (.bool true)) (.t 9)), o 11 (fMove (.t 10)), g 12 (fMove (.t 1)) 11 true, g 13 (fBin .eql .int (.t 12) (.c (I 1))) 11 true, o 14 (fPick (.t 11) (.t 13) (.c (.bool false))), o 15 (fMove (.t 14)), g 16 (fMove (.t 0)) 15 false, g 17 (fBin .eql .int (.t 16) (.c (I 6))) 15 false, g 18 (fMove (.t 17)) 15 false, g 19 (fMove (.t 1)) 18 true, g 20 (fBin .eql .int (.t 19) (.c (I 2))) 18 true, g 21 (fPick (.t 18) (.t 20) (.c (.bool false))) 15 false, o 22 (fPick (.t 15) (.c (.bool true)) (.t 21))])
 (cCond (.t 22) (cSeq (cReg [o 4 (fMove (.c (I 1)))])
 cRet) cSkip))
 (cSeq (cReg [o 4 (fMove (.c (I 0)))])
 cRet)))⟩
noncomputable def c242 : FFn := ⟨[.tmp 4], (cSeq (cReg [o 2 (fBox (.t 0)), o 3 (fBox (.t 1)), o 4 (fMove (.c (.bool false)))])
 (cSeq (cReg [o 5 (fFieldAddr 0 (.t 2)), o 6 (fLoad1 (.t 5)), o 7 (fFieldAddr 0 (.t 3)), o 8 (fLoad1 (.t 7)), o 9 (fBin .eql .int (.t 6) (.t 8)), o 10 (fMove (.t 9)), g 11 (fFieldAddr 1 (.t 2)) 10 true, g 12 (fLoad1 (.t 11)) 10 true, g 13 (fFieldAddr 1 (.t 3)) 10 true, g 14 (fLoad1 (.t 13)) 10 true, g 15 (fBin .eql .int (.t 12) (.t 14)) 10 true, o 16 (fPick (.t 10) (.t 15) (.c (.bool false))), o 17 (fMove (.t 16)), g 18 (fFieldAddr 2 (.t 2)) 17 true, g 19 (fLoad1 (.t 18)) 17 true, g 20 (fFieldAddr 2 (.t 3)) 17 true, g 21 (fLoad1 (.t 20)) 17 true, g 22 (fBin .eql .str (.t 19) (.t 21)) 17 true, o 23 (fPick (.t 17) (.t 22) (.c (.bool false))), o 24 (fMove (.t 23)), g 25 (fFieldAddr 3 (.t 2)) 24 true, g 26 (fLoad1 (.t 25)) 24 true, g 27 (fFieldAddr 3 (.t 3)) 24 true, g 28 (fLoad1 (.t 27)) 24 true, g 29 (fCall 102 [(.t 26), (.t 28), (.c (.func 86 []))]) 24 true, o 30 (fPick (.t 24) (.t 29) (.c (.bool false))), o 31 (fMove (.t 30)), g 32 (fFieldAddr 4 (.t 2)) 31 true, g 33 (fLoad1 (.t 32)) 31 true, g 34 (fFieldAddr 4 (.t 3)) 31 true, g 35 (fLoad1 (.t 34)) 31 true, g 36 (fCall 74 [(.t 33), (.t 35), (.c (.func 242 []))]) 31 true, o 37 (fPick (.t 31) (.t 36) (.c (.bool false))), o 4 (fMove (.t 37))])
 cRet))⟩
noncomputable def c243 : FFn := ⟨[.tmp 6, .tmp 7], (cSeq (cReg [o 6 (fMove (.c (.bool false))), o 7 (fMove (.c (I 0)))])
 (cSeq (cSeq (cReg [o 11 (fMove (.t 1)), o 12 (fLenSl (.t 11)), o 13 (fMove (.c (I 0)))])
 (cBlock 0 (cLoop (cSeq (cReg [o 14 (fBin .lss .int (.t 13) (.t 12))])
 (cSeq (cCond (.t 14) cSkip (cExit 0))
 (cSeq (cBlock 1 (cSeq (cReg [o 15 (fMove (.t 13)), o 8 (fMove (.t 15))])
 (cSeq (cDraw [⟨0, .pure, 0, (some 17), [0], (fMove (.t 0))⟩, ⟨1, .pure, 0, (some 18), [1], (fMove (.t 1))⟩, ⟨2, .pure, 0, (some 19), [8], (fMove (.t 8))⟩, ⟨3, .pure, 6, (some 20), [18, 19], (fIndexAddr 5 (.t 18) (.t 19))⟩, ⟨4, (.rdN (.t 20) 5), 14, (some 21), [20], (fLoadN (.t 20) 5)⟩, ⟨5, .pure, 0, (some 22), [2], (fMove (.t 2))⟩, ⟨6, .pure, 0, (some 23), [8], (fMove (.t 8))⟩, ⟨7, .pure, 96, (some 24), [22, 23], (fIndexAddr 5 (.t 22) (.t 23))⟩, ⟨8, (.rdN (.t 24) 5), 224, (some 25), [24], (fLoadN (.t 24) 5)⟩, ⟨9, .wr, 511, (some 26), [17, 21, 25], (fCall 228 [(.t 17), (.t 21), (.t 25)])⟩, ⟨10, .pure, 1023, (some 16), [26], (fMove (.t 26))⟩, ⟨11, .pure, 2047, (some 27), [16], (fExtract (.t 16) 0)⟩, ⟨12, .pure, 2047, (some 28), [16], (fExtract (.t 16) 1)⟩, ⟨13, .pure, 4095, (some 9), [27], (fMove (.t 27))⟩, ⟨14, .pure, 16383, (some 10), [28], (fMove (.t 28))⟩])
 (cSeq (cReg [o 29 (fMove (.t 9)), o 30 (fNot (.t 29)), o 31 (fMove (.t 30)), g 32 (fMove (.t 10)) 31 false, g 33 (fBin .neq .int (.t 32) (.c (I 0))) 31 false, o 34 (fPick (.t 31) (.c (.bool true)) (.t 33))])
 (cCond (.t 34) (cSeq (cReg [o 35 (fMove (.t 10)), o 6 (fMove (.c (.bool false))), o 7 (fMove (.t 35))])
 cRet) cSkip)))))
 (cReg [o 36 (fBin .add .int (.t 13) (.c (I 1))), o 13 (fMove (.t 36))])))))))
 (cSeq (cReg [o 6 (fMove (.c (.bool true))), o 7 (fMove (.c (I 0)))])
 cRet)))⟩
noncomputable def c244 : FFn := ⟨[.cellN 2 5], (cSeq (cReg [o 1 (fBox (.t 0)), o 2 (fAlloc [(I 0), (I 0), (.str []), .nilSlice, .nilSlice])])
 (cSeq (cReg [o 3 (fLoadN (.t 1) 5), o 4 (fCall 214 [(.t 3), (.c (I 1)), (.c (I 0))]), o 5 (fCall 247 [(.c (I 0))]), o 6 (fBuildSlice 1 [(I 0), (I 0), (.str []), .nilSlice, .nilSlice] [(0, (5, (.t 5)))]), o 7 (fCall 197 [(.t 4), (.t 6)]), n (fStore (.t 2) (.t 7) 5)])
 cRet))⟩
noncomputable def c245 : FFn := ⟨[.cellN 6 5, .tmp 7], (cSeq (cReg [o 4 (fBox (.t 0)), o 6 (fAlloc [(I 0), (I 0), (.str []), .nilSlice, .nilSlice]), o 7 (fMove (.c (.bool false)))])
 (cSeq (cReg [o 9 (fFieldAddr 1 (.t 4)), o 10 (fLoad1 (.t 9)), o 11 (fMove (.t 1)), o 12 (fBin .sub .int (.t 10) (.t 11)), o 8 (fMove (.t 12))])
 (cSeq (cBlock 0 (cSeq (cReg [o 14 (fMove (.t 8)), o 15 (fBin .lss .int (.t 14) (.c (I 0))), o 13 (fMove (.t 15))])
 (cCond (.t 13) (cSeq (cReg [o 16 (fLoadN (.t 4) 5), n (fStore (.t 6) (.t 16) 5), o 7 (fMove (.c (.bool false)))])
 cRet) (cSeq (cReg [o 18 (fMove (.t 8)), o 19 (fLoad1 (.t 2)), o 20 (fBin .lss .int (.t 18) (.t 19)), o 17 (fMove (.t 20))])
 (cCond (.t 17) (cSeq (cReg [o 21 (fLoad1 (.t 3)), o 22 (fLoad1 (.t 2)), o 23 (fBin .sub .int (.t 22) (.c (I 1))), o 24 (fMove (.t 8)), o 25 (fBin .sub .int (.t 23) (.t 24)), o 26 (fIndexAddr 5 (.t 21) (.t 25)), o 27 (fLoadN (.t 26) 5), o 28 (fMove (.t 1)), o 29 (fCall 214 [(.t 27), (.t 28), (.c (I 0))]), n (fStore (.t 6) (.t 29) 5), o 7 (fMove (.c (.bool true)))])
 cRet) cSkip)))))
 (cSeq (cReg [o 30 (fFieldAddr 1 (.t 4)), o 31 (fLoad1 (.t 30)), o 32 (fLoad1 (.t 2)), o 33 (fBin .sub .int (.t 31) (.t 32)), o 34 (fFieldAddr 1 (.t 4)), n (fStore (.t 34) (.t 33) 1)])
 (cSeq (cReg [o 35 (fLoadN (.t 4) 5), n (fStore (.t 6) (.t 35) 5), o 7 (fMove (.c (.bool true)))])
 cRet)))))⟩
noncomputable def c246 : FFn := ⟨[.tmp 3], (cSeq (cReg [o 3 (fMove (.c .nilSlice))])
 (cSeq (cReg [o 4 (fMove (.c .nilSlice))])
 (cSeq (cSeq (cReg [o 7 (fMove (.t 0)), o 8 (fLenSl (.t 7)), o 9 (fMove (.c (I 0)))])
 (cBlock 0 (cLoop (cSeq (cReg [o 10 (fBin .lss .int (.t 9) (.t 8))])
 (cSeq (cCond (.t 10) cSkip (cExit 0))
 (cSeq (cBlock 1 (cSeq (cReg [o 11 (fIndexAddr 5 (.t 7) (.t 9)), o 12 (fLoadN (.t 11) 5), o 6 (fAlloc [(I 0), (I 0), (.str []), .nilSlice, .nilSlice]), n (fStore (.t 6) (.t 12) 5)])
 (cReg [o 13 (fMove (.t 4)), o 14 (fLoadN (.t 6) 5), o 15 (fLoad1 (.t 1)), o 16 (fCall 214 [(.t 14), (.t 15), (.c (I 0))]), o 17 (fBuildSlice 1 [(I 0), (I 0), (.str []), .nilSlice, .nilSlice] [(0, (5, (.t 16)))]), o 18 (fAppend 5 80 (.t 13) (.t 17)), o 4 (fMove (.t 18))])))
 (cReg [o 19 (fBin .add .int (.t 9) (.c (I 1))), o 9 (fMove (.t 19))])))))))
 (cSeq (cReg [o 20 (fMove (.t 4)), o 3 (fMove (.t 20))])
 cRet))))⟩
noncomputable def c247 : FFn := ⟨[.cellN 2 5], (cSeq (cReg [o 2 (fAlloc [(I 0), (I 0), (.str []), .nilSlice, .nilSlice])])
 (cSeq (cReg [o 3 (fMove (.t 0)), o 4 (fBuild [(I 0), (I 0), (.str []), .nilSlice, .nilSlice] [(0, (1, (.c (I 0)))), (1, (1, (.t 3)))]), n (fStore (.t 2) (.t 4) 5)])
 cRet))⟩
noncomputable def c248 : FFn := ⟨[.tmp 2], (cSeq (cReg [o 1 (fBox (.t 0)), o 2 (fMove (.c .nilFunc))])
 (cSeq (cReg [o 3 (fMkFunc 250 [(.t 1)]), o 2 (fMove (.t 3))])
 cRet))⟩
noncomputable def c249 : FFn := ⟨[.tmp 2], (cSeq (cReg [o 2 (fMove (.c (I 0)))])
 (cSeq (cSeq (cReg [o 3 (fMove (.t 0))])
 (cBlock 0 (cSeq (cSeq (cReg [o 5 (fBin .eql .int (.t 3) (.c (I 0))), o 4 (fMove (.t 5))])
 (cCond (.t 4) cSkip (cReg [o 6 (fBin .eql .int (.t 3) (.c (I 4))), o 4 (fMove (.t 6))])))
 (cCond (.t 4) (cSeq (cReg [o 2 (fMove (.c (I 0)))])
 cRet) (cSeq (cReg [o 8 (fBin .eql .int (.t 3) (.c (I 1))), o 7 (fMove (.t 8))])
 (cCond (.t 7) (cSeq (cReg [o 2 (fMove (.c (I 1)))])
 cRet) (cSeq (cSeq (cReg [o 10 (fBin .eql .int (.t 3) (.c (I 2))), o 9 (fMove (.t 10))])
 (cCond (.t 9) cSkip (cReg [o 11 (fBin .eql .int (.t 3) (.c (I 3))), o 9 (fMove (.t 11))])))
 (cCond (.t 9) (cSeq (cReg [o 2 (fMove (.c (I 2)))])
 cRet) cSkip))))))))
 (cSeq (cReg [o 2 (fMove (.c (.int .i64 (.negSucc 0))))])
 cRet)))⟩
noncomputable def c250 : FFn := ⟨[], (cSeq (cReg [o 4 (fLoad1 (.t 1)), o 5 (fLenSl (.t 4)), o 6 (fBin .sub .int (.t 5) (.c (I 1))), o 3 (fMove (.t 6))])
 (cBlock 0 (cLoop (cSeq (cSeq (cReg [o 7 (fMove (.t 3)), o 8 (fBin .geq .int (.t 7) (.c (I 0)))])
 (cCond (.t 8) cSkip (cExit 0)))
 (cSeq (cBlock 1 (cSeq (cReg [o 11 (fMove (.t 0)), o 12 (fMove (.t 3)), o 13 (fLoad1 (.t 1)), o 14 (fMove (.t 3)), o 15 (fIndexAddr 5 (.t 13) (.t 14)), o 16 (fLoadN (.t 15) 5), o 17 (fCallV (.t 11) [(.t 12), (.t 16)]), o 18 (fNot (.t 17))])
 (cCond (.t 18) cRet cSkip)))
 (cReg [o 9 (fMove (.t 3)), o 10 (fBin .sub .int (.t 9) (.c (I 1))), o 3 (fMove (.t 10))]))))))⟩
noncomputable def nF0 : List FO := [o 1 (fBox (.t 0)), o 2 (fMove (.c .nilSlice))]
noncomputable def nF1 : List FO := [o 6 (fMakeMap), o 3 (fMove (.t 6))]
noncomputable def nF2 : List FO := [o 7 (fLoadN (.t 1) 5), o 8 (fMove (.t 3)), o 9 (fCall 111 [(.t 7), (.t 8)])]
noncomputable def nF3 : List FO := [o 4 (fMove (.c .nilSlice))]
noncomputable def c72 : FFn := ⟨[.tmp 2], cSeq (cReg nF0) (cSeq (cReg nF1) (cSeq (cReg nF2) (cSeq (cReg nF3) finishF)))⟩
end Go.Am.Gs
namespace Go.Am
set_option linter.unusedVariables false
set_option linter.unusedSimpArgs false

noncomputable def insS (x : List Nat) : List (List Nat) → List (List Nat)
  | [] => [x]
  | y :: ys => if sLt x y = true then x :: y :: ys else y :: insS x ys
noncomputable def sortS : List (List Nat) → List (List Nat)
  | [] => []
  | x :: l => insS x (sortS l)
theorem insK_eq (x : List Nat) : ∀ l : List (List Nat), insK (.str x) (l.map AV.str) = (insS x l).map AV.str
  | [] => rfl
  | y :: l => by
    have h1 : insK (.str x) ((y :: l).map AV.str) = bif sLt x y then .str x :: .str y :: l.map AV.str else .str y :: insK (.str x) (l.map AV.str) := rfl
    have h2 : insS x (y :: l) = if sLt x y = true then x :: y :: l else y :: insS x l := rfl
    rw [h1, insK_eq x l, h2]
    cases h : sLt x y <;> simp
theorem sortK_eq : ∀ l : List (List Nat), sortK (l.map AV.str) = (sortS l).map AV.str
  | [] => rfl
  | x :: l => by
    have h1 : sortK ((x :: l).map AV.str) = insK (.str x) (sortK (l.map AV.str)) := rfl
    rw [h1, sortK_eq l, insK_eq]; rfl
theorem insS_perm (x : List Nat) : ∀ l, (insS x l).Perm (x :: l)
  | [] => List.Perm.refl _
  | y :: l => by
    unfold insS
    split
    · exact List.Perm.refl _
    · exact ((insS_perm x l).cons y).trans (List.Perm.swap x y l)
theorem sortS_perm : ∀ l, (sortS l).Perm l
  | [] => List.Perm.refl _
  | x :: l => (insS_perm x _).trans ((sortS_perm l).cons x)

theorem sLt_irrefl : ∀ x, sLt x x = false
  | [] => rfl
  | a :: x => by rw [sLt_cons, sLt_irrefl x]; simp
theorem sLt_trans : ∀ {x y z : List Nat}, sLt x y = true → sLt y z = true → sLt x z = true
  | [], [], z, h, _ => by cases h
  | [], b :: y, [], _, h => by cases h
  | [], b :: y, c :: z, _, _ => rfl
  | a :: x, [], z, h, _ => by cases h
  | a :: x, b :: y, [], _, h => by cases h
  | a :: x, b :: y, c :: z, h, h' => by
    rw [sLt_cons] at h h' ⊢
    simp only [Bool.or_eq_true, Bool.and_eq_true, decide_eq_true_eq] at h h' ⊢
    rcases h with h | ⟨rfl, h⟩ <;> rcases h' with h' | ⟨rfl, h'⟩
    · left; omega
    · left; exact h
    · left; exact h'
    · right; exact ⟨rfl, sLt_trans h h'⟩
theorem sLt_tri : ∀ (x y : List Nat), sLt x y = true ∨ x = y ∨ sLt y x = true
  | [], [] => .inr (.inl rfl)
  | [], b :: y => .inl rfl
  | a :: x, [] => .inr (.inr rfl)
  | a :: x, b :: y => by
    rw [sLt_cons, sLt_cons]
    simp only [Bool.or_eq_true, Bool.and_eq_true, decide_eq_true_eq]
    rcases Nat.lt_trichotomy a b with h | rfl | h
    · exact .inl (.inl h)
    · rcases sLt_tri x y with h | rfl | h
      · exact .inl (.inr ⟨rfl, h⟩)
      · exact .inr (.inl rfl)
      · exact .inr (.inr (.inr ⟨rfl, h⟩))
    · exact .inr (.inr (.inl h))
def leS (x y : List Nat) : Prop := sLt y x = false
theorem leS_trans {x y z : List Nat} (h : leS x y) (h' : leS y z) : leS x z := by
  unfold leS at *
  cases hz : sLt z x with
  | false => rfl
  | true =>
    rcases sLt_tri x y with q | rfl | q
    · rw [sLt_trans hz q] at h'; cases h'
    · rw [hz] at h'; cases h'
    · rw [q] at h; cases h
theorem leS_anti {x y : List Nat} (h : leS x y) (h' : leS y x) : x = y := by
  unfold leS at *
  rcases sLt_tri x y with q | q | q
  · rw [q] at h'; cases h'
  · exact q
  · rw [q] at h; cases h
theorem leS_of_lt {x y : List Nat} (h : sLt x y = true) : leS x y := by
  unfold leS
  cases q : sLt y x with
  | false => rfl
  | true => rw [← sLt_irrefl x, sLt_trans h q]
theorem insS_sorted (x : List Nat) : ∀ l : List (List Nat), l.Pairwise leS → (insS x l).Pairwise leS
  | [], _ => by unfold insS; exact List.pairwise_singleton _ _
  | y :: l, h => by
    unfold insS
    rw [List.pairwise_cons] at h
    split
    · next q =>
      rw [List.pairwise_cons]
      refine ⟨fun z hz => ?_, List.pairwise_cons.2 h⟩
      rcases List.mem_cons.1 hz with rfl | hz
      · exact leS_of_lt q
      · exact leS_trans (leS_of_lt q) (h.1 z hz)
    · next q =>
      rw [List.pairwise_cons]
      refine ⟨fun z hz => ?_, insS_sorted x l h.2⟩
      rcases List.mem_cons.1 ((insS_perm x l).mem_iff.1 hz) with rfl | hz
      · exact Bool.eq_false_iff.2 q
      · exact h.1 z hz
theorem sortS_sorted : ∀ l, (sortS l).Pairwise leS
  | [] => List.Pairwise.nil
  | x :: l => insS_sorted x _ (sortS_sorted l)

/-- A string's bytes as numbers. -/
def nums (x : List UInt8) : List Nat := x.map UInt8.toNat
theorem lt_nums : ∀ (x y : List UInt8), x < y ↔ sLt (nums x) (nums y) = true
  | [], [] => by simp [nums, sLt_nil_nil]
  | [], b :: y => by simp [nums, sLt_nil_cons]
  | a :: x, [] => by simp [nums, sLt_cons_nil]
  | a :: x, b :: y => by
    have ih := lt_nums x y
    show _ ↔ sLt (a.toNat :: nums x) (b.toNat :: nums y) = true
    rw [sLt_cons, List.cons_lt_cons_iff, ih]
    simp only [Bool.or_eq_true, Bool.and_eq_true, decide_eq_true_eq, UInt8.lt_iff_toNat_lt, UInt8.toNat_inj]
theorem le_nums (x y : List UInt8) : decide (x ≤ y) = true ↔ leS (nums x) (nums y) := by
  rw [decide_eq_true_eq]
  unfold leS
  rw [← Bool.not_eq_true, ← lt_nums]
  exact Iff.rfl
theorem merge_sorted (ss : List (List UInt8)) : ((ss.mergeSort fun x y => decide (x ≤ y)).map nums).Pairwise leS := by
  rw [List.pairwise_map]
  have := List.pairwise_mergeSort (le := fun x y : List UInt8 => decide (x ≤ y)) (fun a b c h1 h2 => (le_nums _ _).2 (leS_trans ((le_nums _ _).1 h1) ((le_nums _ _).1 h2))) (fun a b => by
    rw [Bool.or_eq_true, le_nums, le_nums]
    unfold leS
    rcases sLt_tri (nums a) (nums b) with q | q | q
    · exact .inl (leS_of_lt q)
    · rw [q]; exact .inl (sLt_irrefl _)
    · exact .inr (leS_of_lt q)) ss
  exact this.imp fun h => (le_nums _ _).1 h
theorem sort_eq (ss : List (List UInt8)) (l : List (List Nat)) (h : (ss.map nums).Perm l) : (ss.mergeSort fun x y => decide (x ≤ y)).map nums = sortS l :=
  List.Perm.eq_of_pairwise (le := leS) (fun a b _ _ => leS_anti) (merge_sorted ss) (sortS_sorted l) ((((List.mergeSort_perm ss _).map nums).trans h).trans (sortS_perm l).symm)
end Go.Am
namespace Go.Am
set_option linter.unusedVariables false
set_option linter.unusedSimpArgs false

/-- The round's operations behind 'entry'. -/
noncomputable def roundF : List FO := [o 16 (fMove (.t 4)), o 17 (fMove (.t 5)), o 18 (fBuildSlice 1 [(.str [])] [(0, (1, (.t 17)))]), o 19 (fAppend 1 16 (.t 16) (.t 18)), o 4 (fMove (.t 19))]

theorem build_one {call : Call} {e : Tr AV} {s : St} {k : List Nat} (h : e.get 17 = some (.str k)) : fBuildSlice 1 [(.str [])] [(0, (1, (.t 17)))] call e s = some (.slice s.next 0 1 (.ex 1), ⟨s.heap.put (some (.cells [.str k] false)) s.next, s.next + 1⟩) := by
  have h1 : fills e [.str []] [(0, (1, (.t 17)))] = match evX e (.t 17) with
      | some v => bif Nat.beq (lenL v.cells) 1 then match wrN [.str []] 0 v.cells with
        | some cs' => some cs'
        | none => none else none
      | none => none := rfl
  have h2 : evX e (.t 17) = e.get 17 := rfl
  unfold fBuildSlice
  rw [h1, h2, h]
  rfl
theorem append_nil {call : Call} {e : Tr AV} {s : St} {k : List Nat} {id : Nat} (h1 : e.get 16 = some .nilSlice) (h2 : e.get 18 = some (.slice id 0 1 (.ex 1))) (h3 : s.heap.get id = some (.cells [.str k] false)) :
    fAppend 1 16 (.t 16) (.t 18) call e s = some (.slice s.next 0 1 (.full 1), ⟨s.heap.put (some (.cells [.str k] false)) s.next, s.next + 1⟩) := by
  have e1 : evX e (.t 16) = e.get 16 := rfl
  have e2 : evX e (.t 18) = e.get 18 := rfl
  have hl : s.load id 0 (1 * 1) = some [.str k] := by
    unfold St.load
    rw [h3]; rfl
  unfold fAppend
  rw [e1, e2, h1, h2]
  simp only [hl]
  rfl
theorem append_full {call : Call} {e : Tr AV} {s : St} {k : List Nat} {id id' m : Nat} {cs : List AV} (h1 : e.get 16 = some (.slice id 0 m (.full 1))) (h2 : e.get 18 = some (.slice id' 0 1 (.ex 1))) (h3 : s.heap.get id' = some (.cells [.str k] false))
    (h4 : s.heap.get id = some (.cells cs false)) (hm : cs.length = m) (hb : m ≤ 1000) :
    fAppend 1 16 (.t 16) (.t 18) call e s = some (.slice s.next 0 (m + 1) (.full 1), ⟨(s.heap.put (some (.cells (cs ++ [.str k]) false)) s.next).put none id, s.next + 1⟩) := by
  have e1 : evX e (.t 16) = e.get 16 := rfl
  have e2 : evX e (.t 18) = e.get 18 := rfl
  have hl : s.load id' 0 (1 * 1) = some [.str k] := by
    unfold St.load
    rw [h3]; rfl
  unfold fAppend
  rw [e1, e2, h1, h2]
  simp only [hl]
  have ha : allOne [AV.str k] = true := rfl
  rw [ha, cond_true]
  unfold appendTo
  simp only [h4, lenL_eq, hm, cond_false]
  have q0 : Nat.beq 1 1 = true := rfl
  have q1 : Nat.ble (0 + (m + 1) * 1) m = false := by
    rw [Bool.eq_false_iff]; intro z
    have := Nat.le_of_ble_eq_true z
    omega
  have q2 : Nat.beq (0 + m * 1) m = true := by rw [Nat.zero_add, Nat.mul_one]; exact Nat.beq_refl m
  have q3 : Nat.beq 0 0 = true := rfl
  have q4 : Nat.ble (4 * (m + 1) * 16) 140737488355328 = true := Nat.ble_eq_true_of_le (by omega)
  rw [q0, cond_true, q1, cond_false, q2, cond_true, q3, cond_true, q4, cond_true]
  simp only [St.new, appL_eq]

/-- A round from nothing. -/
theorem round_nil {call : Call} {e : Tr AV} {s : St} {k : List Nat} (h4 : e.get 4 = some .nilSlice) (h5 : e.get 5 = some (.str k)) :
    ∃ e' s', opsF roundF call e s = some (e', s') ∧ s'.next = s.next + 2 ∧ e'.get 4 = some (.slice (s.next + 1) 0 1 (.full 1)) ∧ s'.heap.get (s.next + 1) = some (.cells [.str k] false) ∧ e'.get 11 = e.get 11 := by
  have f1 : ∀ (e : Tr AV) (t : Nat), evX e (.t t) = e.get t := fun e t => rfl
  unfold roundF
  simp only [opsF_cons, opsF_nil, o, fMove, f1, ans, h4, h5, Tr.get_put]
  simp only [show (5 : Nat) = 16 ↔ False by decide, if_false, h5]
  rw [build_one (k := k) (by rw [Tr.get_put, if_pos rfl])]
  simp only []
  rw [append_nil (k := k) (id := s.next) (by simp [Tr.get_put]) (by simp [Tr.get_put]) (by simp [Tr.get_put])]
  simp only [f1, Tr.get_put, if_pos]
  exact ⟨_, _, rfl, rfl, by simp [Tr.get_put], by simp [Tr.get_put], by simp [Tr.get_put]⟩
/-- A round more. -/
theorem round_full {call : Call} {e : Tr AV} {s : St} {k : List Nat} {id m : Nat} {cs : List AV} (h4 : e.get 4 = some (.slice id 0 m (.full 1))) (h5 : e.get 5 = some (.str k)) (hc : s.heap.get id = some (.cells cs false)) (hm : cs.length = m) (hb : m ≤ 1000) (hid : id < s.next) :
    ∃ e' s', opsF roundF call e s = some (e', s') ∧ s'.next = s.next + 2 ∧ e'.get 4 = some (.slice (s.next + 1) 0 (m + 1) (.full 1)) ∧ s'.heap.get (s.next + 1) = some (.cells (cs ++ [.str k]) false) ∧ e'.get 11 = e.get 11 := by
  have f1 : ∀ (e : Tr AV) (t : Nat), evX e (.t t) = e.get t := fun e t => rfl
  unfold roundF
  simp only [opsF_cons, opsF_nil, o, fMove, f1, ans, h4, h5, Tr.get_put]
  simp only [show (5 : Nat) = 16 ↔ False by decide, if_false, h5]
  rw [build_one (k := k) (by rw [Tr.get_put, if_pos rfl])]
  simp only []
  rw [append_full (k := k) (id := id) (id' := s.next) (m := m) (cs := cs) (by simp [Tr.get_put]) (by simp [Tr.get_put]) (by simp [Tr.get_put]) (by rw [Tr.get_put, if_neg (by omega)]; exact hc) hm hb]
  simp only [f1, Tr.get_put, if_pos]
  refine ⟨_, _, rfl, rfl, by simp [Tr.get_put], ?_, by simp [Tr.get_put]⟩
  have : s.next + 1 ≠ id := by omega
  simp [Tr.get_put, this]
end Go.Am
namespace Go.Am
set_option linter.unusedVariables false
set_option linter.unusedSimpArgs false

/-! ### What was taken -/
structure Taken (es taken : List MapEntry) : Prop where
  mem : ∀ e ∈ taken, e ∈ es
  nodup : (taken.map (·.born)).Nodup
theorem Taken.nil (es : List MapEntry) : Taken es [] := ⟨fun e h => (by cases h), List.nodup_nil⟩
theorem Taken.snoc {es : Array MapEntry} {taken : List MapEntry} (h : Taken es.toList taken) {e : MapEntry} (he : e ∈ (leftOf es (taken.map (·.born)).toArray).toList) : Taken es.toList (taken ++ [e]) := by
  unfold leftOf at he
  simp only [Array.toList_filter, List.mem_filter, Bool.not_eq_true', List.contains_toArray] at he
  refine ⟨fun x hx => ?_, ?_⟩
  · rcases List.mem_append.1 hx with hx | hx
    · exact h.mem x hx
    · rw [List.mem_singleton] at hx; subst hx; exact he.1
  · rw [List.map_append, List.nodup_append]
    refine ⟨h.nodup, by simp, fun a ha b hb => ?_⟩
    simp only [List.map_cons, List.map_nil, List.mem_singleton] at hb
    subst hb
    rintro rfl
    have := he.2
    rw [← Bool.not_eq_true, List.contains_iff_mem] at this
    exact this ha
theorem nodup_of_map {α β : Type} {f : α → β} {l : List α} (h : (l.map f).Nodup) : l.Nodup := by
  unfold List.Nodup at *
  rw [List.pairwise_map] at h
  exact h.imp fun hne e => hne (by rw [e])
theorem born_inj : ∀ {l : List MapEntry}, (l.map (·.born)).Nodup → ∀ {a b : MapEntry}, a ∈ l → b ∈ l → a.born = b.born → a = b
  | [], _, _, _, h, _, _ => by cases h
  | x :: l, hn, a, b, ha, hb, he => by
    rw [List.map_cons, List.nodup_cons] at hn
    rcases List.mem_cons.1 ha with h1 | h1 <;> rcases List.mem_cons.1 hb with h2 | h2
    · rw [h1, h2]
    · rw [h1] at he
      exact absurd (List.mem_map.2 ⟨b, h2, he.symm⟩ : _ ∈ l.map (·.born)) hn.1
    · rw [h2] at he
      exact absurd (List.mem_map.2 ⟨a, h1, he⟩ : _ ∈ l.map (·.born)) hn.1
    · exact born_inj hn.2 h1 h2 he
theorem Taken.all {es : Array MapEntry} {taken : List MapEntry} (h : Taken es.toList taken) (hn : (es.toList.map (·.born)).Nodup) (h0 : (leftOf es (taken.map (·.born)).toArray).size = 0) : taken.Perm es.toList := by
  rw [List.perm_ext_iff_of_nodup (nodup_of_map h.nodup) (nodup_of_map hn)]
  intro e
  refine ⟨h.mem e, fun he => ?_⟩
  have h1 : leftOf es (taken.map (·.born)).toArray = #[] := Array.eq_empty_of_size_eq_zero h0
  have h2 : e ∉ (leftOf es (taken.map (·.born)).toArray).toList := by rw [h1]; simp
  unfold leftOf at h2
  simp only [Array.toList_filter, List.mem_filter, Bool.not_eq_true', List.contains_toArray, not_and] at h2
  have h3 := h2 he
  rw [Bool.not_eq_false, List.contains_iff_mem] at h3
  obtain ⟨e', he', hb⟩ := List.mem_map.1 h3
  rw [← born_inj hn (h.mem e' he') he hb]
  exact he'

section
variable {P : Program}

/-- An operation without a guard, ahead of others. -/
theorem wpOps_at {ops : Array Oper} {Q : Exit → Act → World → Prop} {i : Nat} {rest : List Nat} {a : Act} {w : World} {x : Oper} (hi : ops.toList[i]? = some x) (hg : x.guard = none) (h : x.wp P a w (wpOps P ops Q rest) Q) : wpOps P ops Q (i :: rest) a w := by
  have hi' : ops[i]? = some x := by rw [← Array.getElem?_toList]; exact hi
  simp only [wpOps, hi']
  have : Region.wanted x (yielded ops a.tmps) = true := by simp [Region.wanted, hg]
  rw [this, if_pos rfl]
  exact .inl h
theorem wp_value {x : Oper} {a : Act} {w w' : World} {K : Act → World → Prop} {Q : Exit → Act → World → Prop} {v : Value} (h : (execOp a.eval x).run P w = .ok (.value v) w') (hK : K (a.put x.dst v) w') : x.wp P a w K Q := by
  unfold Oper.wp
  rw [h]
  exact hK
end
end Go.Am
namespace Go.Am
set_option linter.unusedVariables false
set_option linter.unusedSimpArgs false

section
variable {P : Program}

def rhoL (lc : Loc) : Rho := fun x => if x = 0 then some lc else none
/-- The list so far: nothing, or a block of its own behind n0. -/
def LS (n0 : Nat) (w : World) (keys : List (List Nat)) (v : Value) : Prop :=
  (keys = [] ∧ v = .slice none 0 0) ∨ ∃ lc, Rep (rhoL lc) (.slice 0 0 keys.length (.full 1)) v ∧ ObjRep (rhoL lc) lc w.heap[lc.b]? (.cells (keys.map AV.str) false) ∧ n0 ≤ lc.b ∧ lc.b < w.heap.size ∧ keys ≠ []

/-- All blocks but one are kept. -/
def Fr.but (w : World) (b : Nat) : Fr where
  k x := x < w.heap.size ∧ x ≠ b
  p x := x < w.heap.size ∧ x ≠ b

theorem region_run {N id : Nat} {ops : Array Oper} {F : List FO} (h7 : ops.toList.map (trOper P N ops) = F) {call : Call} (hcall : CallOk P call) {e : Tr AV} {s : St} {e' : Tr AV} {s' : St} (h : opsF F call e s = some (e', s'))
    {W : Fr} {w0 w : World} {ρ : Rho} {a : Act} (he : EnvRep ρ e a.tmps) (hN : N ≤ a.tmps.size) (hs : Sat W w0 ρ s.heap.get w) (hf : Fresh ρ s.next s'.next) {Q : Exit → Act → World → Prop}
    (hQ : ∀ ρ' a' w', Ext ρ ρ' s.next s'.next → EnvRep ρ' e' a'.tmps → a'.tmps.size = a.tmps.size → a'.defers = a.defers → Sat W w0 ρ' s'.heap.get w' → Q .normal a' w') : (Code.region id ops false).wp P Q a w := by
  refine wp_region ?_
  rw [List.range_eq_range']
  have h2 : opsF ((ops.toList.drop 0).map (trOper P N ops)) call e s = some (e', s') := by rw [List.drop_zero, h7]; exact h
  exact (ops_sound (P := P) (Q := Q) hcall ops.size 0 e s e' s' (by omega) h2).2 W w0 ρ w a he hN hs hf hQ
theorem noCall : CallOk P (fun _ _ _ => none) := fun f vs s v s' h => by cases h
end
end Go.Am
namespace Go.Am
set_option linter.unusedVariables false
set_option linter.unusedSimpArgs false

section
variable {P : Program}
/-- What a round's appending leaves. -/
def RoundQ (n0 r : Nat) (keys : List (List Nat)) (a : Act) (w : World) (a' : Act) (w' : World) : Prop :=
  (∃ v', a'.tmps[4]? = some v' ∧ LS n0 w' keys v') ∧ a'.tmps[11]? = some (.pointer (some ⟨r, 0, none⟩)) ∧ a'.tmps.size = a.tmps.size ∧ a'.defers = a.defers ∧ (∀ b, b < n0 → w'.heap[b]? = w.heap[b]?) ∧ w.heap.size ≤ w'.heap.size ∧ w'.os = w.os ∧ w'.tape = w.tape ∧ w'.output = w.output

theorem strs_rep {ρ ρ2 : Rho} {l : Loc} {x : Option Obj} {ks : List (List Nat)} (h : ObjRep ρ l x (.cells (ks.map AV.str) false)) : ObjRep ρ2 l x (.cells (ks.map AV.str) false) := by
  obtain ⟨hb, c, t, fr, h1, h5, h6, h2, h7⟩ := h
  refine ⟨hb, c, t, fr, h1, h5, h6, fun i a ha => ?_, h7⟩
  obtain ⟨v, h3, h4⟩ := h2 i a ha
  rw [List.getElem?_map, Option.map_eq_some_iff] at ha
  obtain ⟨k, _, rfl⟩ := ha
  exact ⟨v, h3, by simpa only [Rep] using h4⟩
theorem round_wp_nil {N id n0 r : Nat} {ops : Array Oper} (h7 : ops.toList.map (trOper P N ops) = roundF) {a : Act} {w : World} (hN : N ≤ a.tmps.size) {k : List Nat} (hk : small k)
    (t4 : a.tmps[4]? = some (.slice none 0 0)) (t5 : a.tmps[5]? = some (.string (strOf k))) (t11 : a.tmps[11]? = some (.pointer (some ⟨r, 0, none⟩))) (hr : r < w.heap.size) (hn0 : n0 ≤ w.heap.size)
    {Q : Exit → Act → World → Prop} (hQ : ∀ a' w', RoundQ n0 r [k] a w a' w' → Q .normal a' w') : (Code.region id ops false).wp P Q a w := by
  let e : Tr AV := ((Tr.put (some AV.nilSlice) .leaf 4).put (some (.str k)) 5).put (some (.ptr 7 0)) 11
  have hg : ∀ t, e.get t = if t = 11 then some (.ptr 7 0) else if t = 5 then some (.str k) else if t = 4 then some .nilSlice else none := fun t => by
    simp only [e, Tr.get_put]; rfl
  let ρ : Rho := fun x => if x = 7 then some ⟨r, 0, 0⟩ else none
  have he : EnvRep ρ e a.tmps := fun t v ht => by
    rw [hg] at ht
    split at ht
    · next h => subst h; injection ht with ht; subst ht; exact ⟨_, t11, by simp only [Rep]; exact ⟨⟨r, 0, 0⟩, rfl, rfl⟩⟩
    · split at ht
      · next h => subst h; injection ht with ht; subst ht; exact ⟨_, t5, by simp only [Rep]; exact ⟨trivial, hk⟩⟩
      · split at ht
        · next h => subst h; injection ht with ht; subst ht; exact ⟨_, t4, by simp only [Rep]⟩
        · cases ht
  have hs : Sat (Fr.all w) w ρ (⟨.leaf, 8⟩ : St).heap.get w := by
    have h0 := Sat.blank w
    refine ⟨fun _ _ h => (by cases h), fun _ _ _ _ _ _ h => (by cases h), fun o l hl => ?_, h0.keep, fun _ _ _ h => (by cases h), h0.plow, fun _ _ _ h => (by cases h), rfl, rfl, rfl, Nat.le_refl _⟩
    simp only [ρ] at hl
    split at hl
    · injection hl with hl; subst hl; exact hr
    · cases hl
  obtain ⟨e', s', hrun, hn, h4, hc, h11⟩ := round_nil (call := fun _ _ _ => none) (e := e) (s := ⟨.leaf, 8⟩) (k := k) (by rw [hg]; rfl) (by rw [hg]; rfl)
  have hfr : Fresh ρ 8 s'.next := fun o h1 h2 => by
    show (if _ then _ else _) = _
    rw [if_neg (by omega)]
  refine region_run h7 noCall hrun he hN hs hfr fun ρ' a' w' q1 q2 q3 q4 q5 => hQ a' w' ?_
  obtain ⟨v4, u1, u2⟩ := q2 4 _ h4
  obtain ⟨lc, l1, l2⟩ := q5.objs _ _ hc
  have hnew : w.heap.size ≤ lc.b := by
    rcases Nat.lt_or_ge lc.b w.heap.size with z | z
    · exact absurd z (q5.off _ _ lc hc rfl l1)
    · exact z
  refine ⟨⟨v4, u1, .inr ⟨lc, ?_, ?_, by omega, q5.low _ _ l1, by simp⟩⟩, ?_, q3, q4, fun b hb => (q5.keep b (by show b < _; omega)).2, q5.size, q5.os, q5.tape, q5.output⟩
  · simp only [Rep] at u2 ⊢
    obtain ⟨l, c, g1, g2⟩ := u2
    have : l = lc := by rw [l1] at g1; injection g1 with g1; exact g1.symm
    subst this
    exact ⟨l, c, rfl, g2⟩
  · exact strs_rep l2
  · obtain ⟨v, p1, p2⟩ := q2 11 (.ptr 7 0) (by rw [h11, hg]; rfl)
    simp only [Rep] at p2
    obtain ⟨l, g1, rfl⟩ := p2
    have g2 := q1.sub 7 ⟨r, 0, 0⟩ rfl
    rw [g1] at g2; injection g2 with g2; subst g2
    exact p1

theorem round_wp_full {N id n0 r : Nat} {ops : Array Oper} (h7 : ops.toList.map (trOper P N ops) = roundF) {a : Act} {w : World} (hN : N ≤ a.tmps.size) {k : List Nat} (hk : small k) {keys : List (List Nat)} {v : Value} {lc : Loc}
    (t4 : a.tmps[4]? = some v) (hv : Rep (rhoL lc) (.slice 0 0 keys.length (.full 1)) v) (hob : ObjRep (rhoL lc) lc w.heap[lc.b]? (.cells (keys.map AV.str) false)) (hlo : n0 ≤ lc.b) (hhi : lc.b < w.heap.size) (hlen : keys.length ≤ 1000)
    (t5 : a.tmps[5]? = some (.string (strOf k))) (t11 : a.tmps[11]? = some (.pointer (some ⟨r, 0, none⟩))) (hr : r < n0) (hn0 : n0 ≤ w.heap.size)
    {Q : Exit → Act → World → Prop} (hQ : ∀ a' w', RoundQ n0 r (keys ++ [k]) a w a' w' → Q .normal a' w') : (Code.region id ops false).wp P Q a w := by
  let e : Tr AV := ((Tr.put (some (AV.slice 0 0 keys.length (.full 1))) .leaf 4).put (some (.str k)) 5).put (some (.ptr 7 0)) 11
  have hg : ∀ t, e.get t = if t = 11 then some (.ptr 7 0) else if t = 5 then some (.str k) else if t = 4 then some (.slice 0 0 keys.length (.full 1)) else none := fun t => by
    simp only [e, Tr.get_put]; rfl
  let ρ : Rho := fun x => if x = 7 then some ⟨r, 0, 0⟩ else if x = 0 then some lc else none
  have hsub : Sub (rhoL lc) ρ := fun o l hl => by
    unfold rhoL at hl
    split at hl
    · next h => subst h; injection hl with hl; subst hl; rfl
    · cases hl
  have he : EnvRep ρ e a.tmps := fun t x ht => by
    rw [hg] at ht
    split at ht
    · next h => subst h; injection ht with ht; subst ht; exact ⟨_, t11, by simp only [Rep]; exact ⟨⟨r, 0, 0⟩, rfl, rfl⟩⟩
    · split at ht
      · next h => subst h; injection ht with ht; subst ht; exact ⟨_, t5, by simp only [Rep]; exact ⟨trivial, hk⟩⟩
      · split at ht
        · next h => subst h; injection ht with ht; subst ht; exact ⟨_, t4, hv.mono hsub⟩
        · cases ht
  let s : St := ⟨Tr.put (some (.cells (keys.map AV.str) false)) .leaf 0, 8⟩
  have hsg : s.heap.get = upd (fun _ => none) 0 (some (.cells (keys.map AV.str) false)) := by
    simp only [s]; rw [Tr.put_get]; rfl
  have hs : Sat (Fr.but w lc.b) w ρ s.heap.get w := by
    rw [hsg]
    have key : ∀ o x, upd (fun _ => none) 0 (some (AObj.cells (keys.map AV.str) false)) o = some x → o = 0 ∧ x = .cells (keys.map AV.str) false := fun o x h => by
      by_cases z : o = 0
      · subst z; rw [upd_same] at h; injection h with h; exact ⟨rfl, h.symm⟩
      · rw [upd_ne _ _ z] at h; cases h
    refine ⟨fun o x h => ?_, fun o o' x x' l l' h h' hne => ?_, fun o l hl => ?_, fun b hb => ⟨hb.1, rfl⟩, fun o x l h _ hl hb => ?_, fun b hb => hb.1, fun o x l h hl hb => ?_, rfl, rfl, rfl, Nat.le_refl _⟩
    · obtain ⟨rfl, rfl⟩ := key o x h
      exact ⟨lc, rfl, hob.mono hsub⟩
    · exact absurd ((key o x h).1.trans (key o' x' h').1.symm) hne
    · simp only [ρ] at hl
      split at hl
      · injection hl with hl; subst hl; show r < _; omega
      · split at hl
        · injection hl with hl; subst hl; exact hhi
        · cases hl
    · obtain ⟨rfl, rfl⟩ := key o x h
      injection hl with hl; subst hl; exact hb.2 rfl
    · obtain ⟨rfl, rfl⟩ := key o x h
      injection hl with hl; subst hl; exact hb.2 rfl
  obtain ⟨e', s', hrun, hn, h4, hc, h11⟩ := round_full (call := fun _ _ _ => none) (e := e) (s := s) (k := k) (id := 0) (m := keys.length) (cs := keys.map AV.str) (by rw [hg]; rfl) (by rw [hg]; rfl) (by rw [hsg, upd_same]) (by simp) hlen (by show 0 < 8; omega)
  have hfr : Fresh ρ s.next s'.next := fun o h1 h2 => by
    have h1' : 8 ≤ o := h1
    show (if _ then _ else _) = _
    rw [if_neg (by omega), if_neg (by omega)]
  refine region_run h7 noCall hrun he hN hs hfr fun ρ' a' w' q1 q2 q3 q4 q5 => hQ a' w' ?_
  obtain ⟨v4, u1, u2⟩ := q2 4 _ h4
  obtain ⟨lc', l1, l2⟩ := q5.objs _ _ hc
  have hnew : n0 ≤ lc'.b := by
    rcases Nat.lt_or_ge lc'.b n0 with z | z
    · exact absurd ⟨by omega, by omega⟩ (q5.off _ _ lc' hc rfl l1)
    · exact z
  refine ⟨⟨v4, u1, .inr ⟨lc', ?_, ?_, hnew, q5.low _ _ l1, by simp⟩⟩, ?_, q3, q4, fun b hb => (q5.keep b ⟨by omega, by omega⟩).2, q5.size, q5.os, q5.tape, q5.output⟩
  · simp only [Rep] at u2 ⊢
    obtain ⟨l, c, g1, g2⟩ := u2
    have : l = lc' := by rw [l1] at g1; injection g1 with g1; exact g1.symm
    subst this
    exact ⟨l, c, rfl, by simpa using g2⟩
  · have : (keys ++ [k]).map AV.str = keys.map AV.str ++ [AV.str k] := by simp
    rw [← this] at l2
    exact strs_rep l2
  · obtain ⟨v, p1, p2⟩ := q2 11 (.ptr 7 0) (by rw [h11, hg]; rfl)
    simp only [Rep] at p2
    obtain ⟨l, g1, rfl⟩ := p2
    have g2 := q1.sub 7 ⟨r, 0, 0⟩ rfl
    rw [g1] at g2; injection g2 with g2; subst g2
    exact p1
end
end Go.Am
namespace Go.Am
set_option linter.unusedVariables false
set_option linter.unusedSimpArgs false

section
variable {P : Program}
open Go.ChangeMaps (setBlock)

/-- The keys of entries, as strings. -/
def KeysAre (l : List MapEntry) (keys : List (List Nat)) : Prop := l.map (·.key) = keys.map (fun k => Value.string (strOf k)) ∧ ∀ k ∈ keys, small k
/-- How the loop stands. -/
structure LInv (es : Array MapEntry) (clock bm r sz : Nat) (df : List Deferred) (w1 : World) (taken : List MapEntry) (a : Act) (w : World) : Prop where
  t11 : a.tmps[11]? = some (.pointer (some ⟨r, 0, none⟩))
  sz : a.tmps.size = sz
  df : a.defers = df
  it : w.heap[r]? = some (.mapIter (some bm) clock (taken.map (·.born)).toArray clock)
  map : w.heap[bm]? = some (.map es clock)
  tk : Taken es.toList taken
  list : ∃ v keys, a.tmps[4]? = some v ∧ LS w1.heap.size w keys v ∧ KeysAre taken keys
  keep : ∀ b, b < w1.heap.size → b ≠ r → w.heap[b]? = w1.heap[b]?
  size : w1.heap.size ≤ w.heap.size
  os : w.os = w1.os
  tape : w.tape = w1.tape
  output : w.output = w1.output

def sig (x : Oper) : Op × Option Nat × Option (Nat × Bool) := (x.op, x.dst, x.guard)
theorem sig_get {ops : Array Oper} {l : List (Op × Option Nat × Option (Nat × Bool))} (h : ops.toList.map sig = l) {i : Nat} {y : Op × Option Nat × Option (Nat × Bool)} (hy : l[i]? = some y) : ∃ x, ops.toList[i]? = some x ∧ x.op = y.1 ∧ x.dst = y.2.1 ∧ x.guard = y.2.2 := by
  rw [← h, List.getElem?_map, Option.map_eq_some_iff] at hy
  obtain ⟨x, hx, rfl⟩ := hy
  exact ⟨x, hx, rfl, rfl, rfl⟩

theorem put_tmp {a : Act} {d : Nat} {v : Value} (hd : d < a.tmps.size) : (a.put (some d) v).tmps[d]? = some v := by
  simp only [Act.put]; rw [Array.getElem?_setIfInBounds_self_of_lt hd]
theorem put_ne {a : Act} {d t : Nat} {v : Value} (h : d ≠ t) : (a.put (some d) v).tmps[t]? = a.tmps[t]? := by
  simp only [Act.put]; rw [Array.getElem?_setIfInBounds_ne h]
theorem eval_tmp {a : Act} {t : Nat} {v : Value} (h : a.tmps[t]? = some v) : a.eval (.tmp t) = v := by
  simp [Act.eval, h]

/-- 'next' and its first part. -/
theorem next_wp {id : Nat} {ops : Array Oper} (h5 : ops.toList.map sig = [(.next (.tmp 11) false, some 12, none), (.extract (.tmp 12) 0, some 13, none)]) {es : Array MapEntry} {clock bm r sz : Nat} {df : List Deferred} {w1 : World} {taken : List MapEntry} {a : Act} {w : World}
    (hI : LInv es clock bm r sz df w1 taken a w) (hB : Born es.toList clock) (hsz : 23 ≤ sz) (hr : r < w1.heap.size) (hbm : bm ≠ r) {Q : Exit → Act → World → Prop}
    (h0 : ∀ a', a'.tmps[13]? = some (.bool false) → LInv es clock bm r sz df w1 taken a' w → taken.Perm es.toList → Q .normal a' w)
    (h1 : ∀ e a' w', e ∈ es.toList → a'.tmps[13]? = some (.bool true) → a'.tmps[11]? = some (.pointer (some ⟨r, 0, none⟩)) → a'.tmps[4]? = a.tmps[4]? → a'.tmps.size = sz → a'.defers = df → Taken es.toList (taken ++ [e]) →
      w'.heap[r]? = some (.mapIter (some bm) clock ((taken ++ [e]).map (·.born)).toArray clock) → w'.heap.size = w.heap.size → (∀ b, b ≠ r → w'.heap[b]? = w.heap[b]?) → w'.os = w.os → w'.tape = w.tape → w'.output = w.output → Q .normal a' w') :
    (Code.region id ops false).wp P Q a w := by
  have hlen : ops.size = 2 := by have := congrArg List.length h5; simpa using this
  obtain ⟨x, hx, e1, e2, e3⟩ := sig_get h5 (i := 0) rfl
  obtain ⟨y, hy, f1, f2, f3⟩ := sig_get h5 (i := 1) rfl
  refine wp_region ?_
  rw [hlen]
  show wpOps P ops Q [0, 1] a w
  refine wpOps_at hx e3 ?_
  have hs := hI.sz
  have r12 : ∀ (v : Value), (a.put (some 12) v).tmps.size = sz := fun v => by simp [Act.put, hs]
  rcases run_next_at (P := P) w x.type r bm clock clock (taken.map (·.born)).toArray es clock hI.it hI.map hB.1 (Nat.le_refl _) with ⟨n0, n1⟩ | ⟨e, he, w2, n2, n1⟩
  · refine wp_value (v := .tuple #[.bool false]) (w' := w) (by simp [execOp, e1, eval_tmp hI.t11, n1]) ?_
    rw [e2]
    refine wpOps_at hy f3 (wp_value (v := .bool false) (w' := w) ?_ ?_)
    · simp [execOp, f1, eval_tmp (put_tmp (a := a) (d := 12) (v := .tuple #[.bool false]) (by omega)), Instr.extract]
    · rw [f2]
      refine h0 _ (put_tmp (by rw [r12]; omega)) ⟨?_, by simp [Act.put, hs], hI.df, hI.it, hI.map, hI.tk, ?_, hI.keep, hI.size, hI.os, hI.tape, hI.output⟩ (hI.tk.all hB.2 n0)
      · rw [put_ne (by decide), put_ne (by decide)]; exact hI.t11
      · obtain ⟨v, keys, q1, q2⟩ := hI.list
        exact ⟨v, keys, by rw [put_ne (by decide), put_ne (by decide)]; exact q1, q2⟩
  · refine wp_value (v := .tuple #[.bool true, e.key, e.val]) (w' := setBlock w2 r (.mapIter (some bm) clock ((taken.map (·.born)).toArray.push e.born) clock)) (by simp [execOp, e1, eval_tmp hI.t11, n1]) ?_
    rw [e2]
    refine wpOps_at hy f3 (wp_value (v := .bool true) (w' := setBlock w2 r (.mapIter (some bm) clock ((taken.map (·.born)).toArray.push e.born) clock)) ?_ ?_)
    · simp [execOp, f1, eval_tmp (put_tmp (a := a) (d := 12) (v := .tuple #[.bool true, e.key, e.val]) (by omega)), Instr.extract]
    · rw [f2]
      have hw2 : w2.heap = w.heap := by rcases n2 with rfl | rfl <;> rfl
      have hrl : r < w.heap.size := Nat.lt_of_lt_of_le hr hI.size
      have hmem : e ∈ es.toList := by
        unfold leftOf at he
        simp only [Array.toList_filter, List.mem_filter] at he
        exact he.1
      refine h1 e _ _ hmem (put_tmp (by rw [r12]; omega)) ?_ ?_ (by simp [Act.put, hs]) hI.df (hI.tk.snoc he) ?_ ?_ ?_ ?_ ?_ ?_
      · rw [put_ne (by decide), put_ne (by decide)]; exact hI.t11
      · rw [put_ne (by decide), put_ne (by decide)]
      · show (w2.heap.setIfInBounds r _)[r]? = _
        rw [hw2, Array.getElem?_setIfInBounds_self_of_lt hrl]
        simp
      · show (w2.heap.setIfInBounds r _).size = _
        rw [hw2]; simp
      · intro b hb
        show (w2.heap.setIfInBounds r _)[b]? = _
        rw [hw2, Array.getElem?_setIfInBounds_ne (fun q => hb q.symm)]
      · show w2.os = _
        rcases n2 with rfl | rfl <;> rfl
      · show w2.tape = _
        rcases n2 with rfl | rfl <;> rfl
      · show w2.output = _
        rcases n2 with rfl | rfl <;> rfl
end
end Go.Am
namespace Go.Am
set_option linter.unusedVariables false
set_option linter.unusedSimpArgs false

section
variable {P : Program}

theorem entry_wp {id : Nat} {ops : Array Oper} (h6 : ops.toList.map sig = [(.entry (.tmp 11), some 14, none), (.extract (.tmp 14) 0, some 15, none), (.assign (.tmp 15), some 5, none)]) {es : Array MapEntry} {clock bm r sz : Nat} {taken : List MapEntry} {e : MapEntry} {a : Act} {w : World}
    (t11 : a.tmps[11]? = some (.pointer (some ⟨r, 0, none⟩))) (hs : a.tmps.size = sz) (hsz : 23 ≤ sz) (hit : w.heap[r]? = some (.mapIter (some bm) clock ((taken ++ [e]).map (·.born)).toArray clock)) (hmap : w.heap[bm]? = some (.map es clock))
    (he : e ∈ es.toList) (hn : (es.toList.map (·.born)).Nodup) {Q : Exit → Act → World → Prop}
    (hQ : ∀ a', a'.tmps[5]? = some e.key → a'.tmps[11]? = a.tmps[11]? → a'.tmps[4]? = a.tmps[4]? → a'.tmps.size = sz → a'.defers = a.defers → Q .normal a' w) : (Code.region id ops false).wp P Q a w := by
  have hlen : ops.size = 3 := by have := congrArg List.length h6; simpa using this
  obtain ⟨x, hx, e1, e2, e3⟩ := sig_get h6 (i := 0) rfl
  obtain ⟨y, hy, f1, f2, f3⟩ := sig_get h6 (i := 1) rfl
  obtain ⟨z, hz, g1, g2, g3⟩ := sig_get h6 (i := 2) rfl
  refine wp_region ?_
  rw [hlen]
  show wpOps P ops Q [0, 1, 2] a w
  have hrun := run_entry_at (P := P) w r bm clock (taken.map (·.born)).toArray es clock e (by rw [hit]; simp) hmap he hn
  refine wpOps_at hx e3 (wp_value (v := .tuple #[e.key, e.val]) (w' := w) (by simp [execOp, e1, eval_tmp t11, hrun]) ?_)
  rw [e2]
  refine wpOps_at hy f3 (wp_value (v := e.key) (w' := w) ?_ ?_)
  · simp [execOp, f1, eval_tmp (put_tmp (a := a) (d := 14) (v := .tuple #[e.key, e.val]) (by omega)), Instr.extract]
  · rw [f2]
    refine wpOps_at hz g3 (wp_value (v := e.key) (w' := w) ?_ ?_)
    · have : ((a.put (some 14) (.tuple #[e.key, e.val])).put (some 15) e.key).tmps[15]? = some e.key := put_tmp (by simp [Act.put]; omega)
      simp [execOp, g1, eval_tmp this]
    · rw [g2]
      refine hQ _ (put_tmp (by simp [Act.put]; omega)) ?_ ?_ (by simp [Act.put, hs]) rfl
      · rw [put_ne (by decide), put_ne (by decide), put_ne (by decide)]
      · rw [put_ne (by decide), put_ne (by decide), put_ne (by decide)]

theorem nodup_le : ∀ {l m : List Nat}, l.Nodup → (∀ x ∈ l, x ∈ m) → l.length ≤ m.length
  | [], m, _, _ => Nat.zero_le _
  | a :: l, m, h, hm => by
    rw [List.nodup_cons] at h
    have h1 : l.length ≤ (m.erase a).length := nodup_le h.2 fun x hx => by
      have hne : x ≠ a := by rintro rfl; exact h.1 hx
      exact (List.mem_erase_of_ne hne).2 (hm x (List.mem_cons_of_mem _ hx))
    have h2 := hm a (List.mem_cons_self ..)
    have h3 := List.length_erase_of_mem h2
    have h4 : 0 < m.length := List.length_pos_of_mem h2
    simp only [List.length_cons]
    omega

/-- The loop. -/
theorem loop_wp {i5 i6 i7 b0 b1 N sz : Nat} {ops5 ops6 ops7 : Array Oper} (h5 : ops5.toList.map sig = [(.next (.tmp 11) false, some 12, none), (.extract (.tmp 12) 0, some 13, none)])
    (h6 : ops6.toList.map sig = [(.entry (.tmp 11), some 14, none), (.extract (.tmp 14) 0, some 15, none), (.assign (.tmp 15), some 5, none)]) (h7 : ops7.toList.map (trOper P N ops7) = roundF) (hN : N ≤ sz) (hsz : 23 ≤ sz)
    {es : Array MapEntry} {clock bm r : Nat} {df : List Deferred} {w1 : World} (hB : Born es.toList clock) (hr : r < w1.heap.size) (hbm : bm < w1.heap.size) (hbr : bm ≠ r) (hlen : es.size ≤ 1000) (hkeys : ∃ ks, KeysAre es.toList ks)
    {Q : Exit → Act → World → Prop} (hQ : ∀ a w taken, LInv es clock bm r sz df w1 taken a w → taken.Perm es.toList → Q (.exit b0) a w) {taken : List MapEntry} {a : Act} {w : World} (hI : LInv es clock bm r sz df w1 taken a w) :
    (Code.loop (.seq (.region i5 ops5 false) (.seq (.cond (.tmp 13) .skip (.exit b0)) (.block b1 (.seq (.region i6 ops6 false) (.region i7 ops7 false)))))).wp P Q a w := by
  obtain ⟨ks, hks⟩ := hkeys
  have hlt : ∀ {l : List MapEntry}, Taken es.toList l → l.length ≤ es.size := fun {l} h => by
    have h1 := h.nodup
    have h2 : ∀ b ∈ l.map (·.born), b ∈ es.toList.map (·.born) := fun b hb => by
      obtain ⟨e, he, rfl⟩ := List.mem_map.1 hb
      exact List.mem_map.2 ⟨e, h.mem e he, rfl⟩
    have := nodup_le h1 h2
    simpa using this
  refine wp_loop (fun a w => ∃ taken, LInv es clock bm r sz df w1 taken a w) (fun _ w => match w.heap[r]? with
    | some (.mapIter _ _ seen _) => es.size - seen.size
    | _ => 0) ⟨taken, hI⟩ ?_
  rintro a w ⟨tk, hI⟩
  refine wp_seq (next_wp h5 hI hB hsz hr hbr (fun a' q1 q2 q3 => ?_) fun e a' w' q1 q2 q3 q4 q5 q6 q7 q8 q9 q10 q11 q12 q13 => ?_)
  · refine wp_seq (wp_cond_false (eval_tmp q1) (wp_exit ?_))
    exact hQ a' w tk q2 q3
  · refine wp_seq (wp_cond_true (eval_tmp q2) (wp_skip (wp_block (wp_seq ?_))))
    have hmap' : w'.heap[bm]? = some (.map es clock) := by rw [q10 bm hbr]; exact hI.map
    refine entry_wp h6 q3 q5 hsz q8 hmap' q1 hB.2 fun a2 p1 p2 p3 p4 p5 => ?_
    obtain ⟨v, keys, l1, l2, l3⟩ := hI.list
    obtain ⟨ke, k1, k2⟩ : ∃ k, e.key = .string (strOf k) ∧ small k := by
      have : e.key ∈ es.toList.map (·.key) := List.mem_map.2 ⟨e, q1, rfl⟩
      rw [hks.1] at this
      obtain ⟨k, hk, hk2⟩ := List.mem_map.1 this
      exact ⟨k, hk2.symm, hks.2 k hk⟩
    have hlen2 : keys.length = tk.length := by have := congrArg List.length l3.1; simpa using this.symm
    have hle := hlt q7
    rw [List.length_append] at hle
    simp only [List.length_cons, List.length_nil] at hle
    have fin : ∀ a3 w3, RoundQ w1.heap.size r (keys ++ [ke]) a2 w' a3 w3 → LInv es clock bm r sz df w1 (tk ++ [e]) a3 w3 := by
      intro a3 w3 ⟨m1, m2, m3, m4, m5, m6, m7, m8, m9⟩
      obtain ⟨v3, m1, m1'⟩ := m1
      refine ⟨m2, m3.trans p4, m4.trans (p5.trans q6), by rw [m5 r hr]; exact q8, by rw [m5 bm hbm]; exact hmap', q7, ⟨v3, keys ++ [ke], m1, m1', ?_, fun k hk => ?_⟩, fun b hb hbr => ?_, by have := hI.size; omega, m7.trans (q11.trans hI.os), m8.trans (q12.trans hI.tape), m9.trans (q13.trans hI.output)⟩
      · rw [List.map_append, List.map_append, l3.1]; simp [k1]
      · rcases List.mem_append.1 hk with hk | hk
        · exact l3.2 k hk
        · rw [List.mem_singleton] at hk; subst hk; exact k2
      · rw [m5 b hb, q10 b hbr]; exact hI.keep b hb hbr
    have done : ∀ a3 w3, RoundQ w1.heap.size r (keys ++ [ke]) a2 w' a3 w3 → (∃ taken, LInv es clock bm r sz df w1 taken a3 w3) ∧ (match w3.heap[r]? with
    | some (.mapIter _ _ seen _) => es.size - seen.size
    | _ => 0) < (match w.heap[r]? with
    | some (.mapIter _ _ seen _) => es.size - seen.size
    | _ => 0) := by
      intro a3 w3 hq
      have h3 := fin a3 w3 hq
      refine ⟨⟨_, h3⟩, ?_⟩
      rw [h3.it, hI.it]
      simp only [List.size_toArray, List.length_map, List.length_append, List.length_cons, List.length_nil]
      omega
    have t5 : a2.tmps[5]? = some (.string (strOf ke)) := by rw [p1, k1]
    have t11 : a2.tmps[11]? = some (.pointer (some ⟨r, 0, none⟩)) := by rw [p2]; exact q3
    have t4 : a2.tmps[4]? = some v := by rw [p3, q4]; exact l1
    have hsz' : w1.heap.size ≤ w'.heap.size := by rw [q9]; exact hI.size
    rcases l2 with ⟨rfl, rfl⟩ | ⟨lc, n1, n2, n3, n4, _⟩
    · exact round_wp_nil h7 (by omega) k2 t4 t5 t11 (by omega) hsz' fun a3 w3 hq => done a3 w3 hq
    · refine round_wp_full h7 (by omega) k2 t4 n1 ?_ n3 (by rw [q9]; exact n4) (by omega) t5 t11 hr hsz' fun a3 w3 hq => done a3 w3 hq
      rw [q10 lc.b (by omega)]; exact n2
end
end Go.Am
namespace Go.Am
set_option linter.unusedVariables false
set_option linter.unusedSimpArgs false

section
variable {P : Program} {F : Fr} {w0 w w' : World} {ρ : Rho} {h : Heap}

/-- A world that keeps all blocks that were. -/
theorem Sat.kept (s : Sat F w0 ρ h w) (hk : ∀ b, b < w.heap.size → w'.heap[b]? = w.heap[b]?) (hsz : w.heap.size ≤ w'.heap.size) (ho : w'.os = w.os) (ht : w'.tape = w.tape) (hp : w'.output = w.output) : Sat F w0 ρ h w' where
  objs o z hz := by
    obtain ⟨l, h1, h2⟩ := s.objs o z hz
    exact ⟨l, h1, by rw [hk _ (s.low o l h1)]; exact h2⟩
  inj := s.inj
  low o l hl := Nat.lt_of_lt_of_le (s.low o l hl) hsz
  keep b hb := by
    obtain ⟨h1, h2⟩ := s.keep b hb
    exact ⟨Nat.lt_of_lt_of_le h1 hsz, (hk b h1).trans h2⟩
  off := s.off
  plow b hb := Nat.lt_of_lt_of_le (s.plow b hb) hsz
  priv := s.priv
  os := ho.trans s.os
  tape := ht.trans s.tape
  output := hp.trans s.output
  size := Nat.le_trans s.size hsz
/-- And a new block besides. -/
theorem Sat.place (s : Sat F w0 ρ h w) (hk : ∀ b, b < w.heap.size → w'.heap[b]? = w.heap[b]?) (hsz : w.heap.size ≤ w'.heap.size) (hos : w'.os = w.os) (ht : w'.tape = w.tape) (hp : w'.output = w.output)
    {n : Nat} (hn : ρ n = none) {x : AObj} {lc : Loc} (hlo : w.heap.size ≤ lc.b) (hhi : lc.b < w'.heap.size) (hr : ObjRep (upd ρ n (some lc)) lc w'.heap[lc.b]? x) : Sat F w0 (upd ρ n (some lc)) (upd h n (some x)) w' where
  objs o z hz := by
    by_cases e : o = n
    · subst e
      rw [upd_same] at hz
      injection hz with hz
      subst hz
      exact ⟨_, upd_same _ _ _, hr⟩
    · rw [upd_ne _ _ e] at hz
      obtain ⟨l, h1, h2⟩ := s.objs o z hz
      refine ⟨l, by rw [upd_ne _ _ e]; exact h1, ?_⟩
      rw [hk _ (s.low o l h1)]
      exact h2.mono (Ext.upd hn _).sub
  inj o o' z z' l l' hz hz' hne hl hl' hb := by
    by_cases e : o = n
    · subst e
      have e' : o' ≠ o := fun q => hne q.symm
      rw [upd_same] at hl
      injection hl with hl
      subst hl
      rw [upd_ne _ _ e'] at hl'
      have := s.low o' l' hl'
      exact absurd hb (by omega)
    · by_cases e' : o' = n
      · subst e'
        rw [upd_same] at hl'
        injection hl' with hl'
        subst hl'
        rw [upd_ne _ _ e] at hl
        have := s.low o l hl
        exact absurd hb (by omega)
      · rw [upd_ne _ _ e] at hz hl
        rw [upd_ne _ _ e'] at hz' hl'
        exact s.inj o o' z z' l l' hz hz' hne hl hl' hb
  low o l hl := by
    by_cases e : o = n
    · subst e
      rw [upd_same] at hl
      injection hl with hl
      subst hl
      exact hhi
    · rw [upd_ne _ _ e] at hl
      exact Nat.lt_of_lt_of_le (s.low o l hl) hsz
  keep b hb := by
    obtain ⟨h1, h2⟩ := s.keep b hb
    exact ⟨Nat.lt_of_lt_of_le h1 hsz, (hk b h1).trans h2⟩
  off o z l hz hr hl := by
    by_cases e : o = n
    · subst e
      rw [upd_same] at hl
      injection hl with hl
      subst hl
      exact fun q => by have := (s.keep _ q).1; omega
    · rw [upd_ne _ _ e] at hz hl
      exact s.off o z l hz hr hl
  plow b hb := Nat.lt_of_lt_of_le (s.plow b hb) hsz
  priv o z l hz hl := by
    by_cases e : o = n
    · subst e
      rw [upd_same] at hl
      injection hl with hl
      subst hl
      exact fun q => by have := s.plow _ q; omega
    · rw [upd_ne _ _ e] at hz hl
      exact s.priv o z l hz hl
  os := hos.trans s.os
  tape := ht.trans s.tape
  output := hp.trans s.output
  size := Nat.le_trans s.size hsz
end

/-! ### Keys -/
theorem keys_of : ∀ {es : List (AV × AV)}, allStr es = true → ∃ ks : List (List Nat), keysOf es = ks.map AV.str
  | [], _ => ⟨[], rfl⟩
  | p :: es, h => by
    have h1 : allStr (p :: es) = match p.1 with
      | .str _ => allStr es
      | _ => false := rfl
    rw [h1] at h
    split at h
    · next k hk =>
      obtain ⟨ks, hks⟩ := keys_of h
      refine ⟨k :: ks, ?_⟩
      have h2 : keysOf (p :: es) = p.1 :: keysOf es := rfl
      rw [h2, hk, hks]; rfl
    · cases h
theorem keysAre_of {ρ : Rho} : ∀ {es : List (AV × AV)} {ms : List MapEntry} {ks : List (List Nat)}, RepEs ρ es ms → keysOf es = ks.map AV.str → KeysAre ms ks
  | [], ms, ks, h, hk => by
    have h1 : ms = [] := h
    subst h1
    have h2 : ([] : List AV) = ks.map AV.str := hk
    have : ks = [] := by simpa using h2.symm
    subst this
    exact ⟨rfl, fun k hk => by cases hk⟩
  | p :: es, ms, ks, h, hk => by
    obtain ⟨e, r, rfl, h2, h3, h4⟩ := h
    have h1 : p.1 :: keysOf es = ks.map AV.str := hk
    cases ks with
    | nil => simp at h1
    | cons k ks =>
      simp only [List.map_cons, List.cons.injEq] at h1
      obtain ⟨g1, g2⟩ := keysAre_of h4 h1.2
      rw [h1.1] at h2
      simp only [Rep] at h2
      refine ⟨?_, fun x hx => ?_⟩
      · simp only [List.map_cons, h2.1, g1]
      · rcases List.mem_cons.1 hx with rfl | hx
        · exact h2.2
        · exact g2 x hx
theorem strOf_inj {a b : List Nat} (ha : small a) (hb : small b) (h : strOf a = strOf b) : a = b := by
  unfold strOf at h
  simp only [ByteArray.mk.injEq, Array.mk.injEq, List.toArray_inj] at h
  have h2 := congrArg (fun l => l.map UInt8.toNat) h
  simp only [List.map_map] at h2
  have key : ∀ l : List Nat, small l → l.map (UInt8.toNat ∘ UInt8.ofNat) = l := fun l hl => by
    conv => rhs; rw [← List.map_id l]
    refine List.map_congr_left fun x hx => ?_
    simp [Nat.mod_eq_of_lt (hl x hx)]
  rw [key a ha, key b hb] at h2
  exact h2
theorem keysAre_perm {ms ms' : List MapEntry} {ks ks' : List (List Nat)} (h : KeysAre ms ks) (h' : KeysAre ms' ks') (hp : ms.Perm ms') : ks.Perm ks' := by
  have h1 : (ms.map (·.key)).Perm (ms'.map (·.key)) := hp.map _
  rw [h.1, h'.1] at h1
  -- turn back
  have key : ∀ (l : List (List Nat)), (∀ k ∈ l, small k) → l = (l.map fun k => Value.string (strOf k)).map fun v => match v with
      | .string s => s.data.toList.map UInt8.toNat
      | _ => [] := fun l hl => by
    rw [List.map_map]
    conv => lhs; rw [← List.map_id l]
    refine List.map_congr_left fun x hx => ?_
    simp only [id_eq, Function.comp_apply, strOf, List.map_map]
    conv => lhs; rw [← List.map_id x]
    refine List.map_congr_left fun y hy => ?_
    simp [Nat.mod_eq_of_lt (hl x hx y hy)]
  rw [key ks h.2, key ks' h'.2]
  exact h1.map _
end Go.Am
namespace Go.Am
set_option linter.unusedVariables false
set_option linter.unusedSimpArgs false

section
variable {P : Program}
open Go.Sort Go.Proofs

/-- The library's sort of strings, as the shelf tells it. -/
structure SortOk (P : Program) (f : FuncId) : Prop where
  call : Callable P f
  some : ∀ (blk off cap : Nat) (ss : List (List UInt8)) (w : World), Holds encStr w blk off ss.toArray → blk < w.heap.size → ss.length < 4611686018427387904 →
    Calls P f #[.slice (some ⟨blk, off, none⟩) ss.length cap] w fun e w' => e = .returned (.tuple #[]) ∧ ∃ n os, w' = grow (putRow encStr (Sort.ahead w n) blk off (ss.mergeSort fun x y => decide (x ≤ y)).toArray) os
  none : ∀ (p : Option Addr) (cap : Nat) (w : World), Calls P f #[.slice p 0 cap] w fun e w' => e = .returned (.tuple #[]) ∧ w' = w

def bytesOf (k : List Nat) : List UInt8 := k.map UInt8.ofNat
theorem nums_bytes {k : List Nat} (h : small k) : nums (bytesOf k) = k := by
  unfold nums bytesOf
  rw [List.map_map]
  conv => rhs; rw [← List.map_id k]
  refine List.map_congr_left fun x hx => ?_
  simp [Nat.mod_eq_of_lt (h x hx)]
theorem bytes_nums (l : List UInt8) : bytesOf (nums l) = l := by
  unfold nums bytesOf
  rw [List.map_map]
  conv => rhs; rw [← List.map_id l]
  refine List.map_congr_left fun x hx => ?_
  simp
theorem enc_bytes (k : List Nat) : encStr (bytesOf k) = .string (strOf k) := rfl
theorem nums_small (l : List UInt8) : small (nums l) := fun x hx => by
  unfold nums at hx
  obtain ⟨b, _, rfl⟩ := List.mem_map.1 hx
  exact b.toNat_lt
theorem sortS_length (l : List (List Nat)) : (sortS l).length = l.length := (sortS_perm l).length_eq

/-- The list, sorted. -/
theorem LS.sorted {n0 : Nat} {w : World} {keys : List (List Nat)} {v : Value} (h : LS n0 w keys v) {f : FuncId} (hf : SortOk P f) (hlen : keys.length ≤ 1000) :
    Calls P f #[v] w fun e w' => e = .returned (.tuple #[]) ∧ LS n0 w' (sortS keys) v ∧ (∀ b, b < n0 → w'.heap[b]? = w.heap[b]?) ∧ w.heap.size ≤ w'.heap.size ∧ w'.os = w.os ∧ w'.tape = w.tape ∧ w'.output = w.output := by
  rcases h with ⟨rfl, rfl⟩ | ⟨lc, h1, h2, h3, h4, hne⟩
  · refine (hf.none none 0 w).mono fun e w' ⟨q1, q2⟩ => ?_
    subst q2
    exact ⟨q1, .inl ⟨rfl, rfl⟩, fun _ _ => rfl, Nat.le_refl _, rfl, rfl, rfl⟩
  · obtain ⟨hb, c, t, fr, g1, g5, g6, g2, g7⟩ := h2
    simp only [Rep] at h1
    obtain ⟨l, cp, e1, rfl, e2, e3⟩ := h1
    have el : l = lc := by simp only [rhoL, if_pos] at e1; injection e1 with e1; exact e1.symm
    subst el
    have hsm : ∀ k ∈ keys, small k := fun k hk => by
      obtain ⟨i, hi⟩ := List.mem_iff_getElem?.1 hk
      obtain ⟨u, q1, q2⟩ := g2 i (.str k) (by rw [List.getElem?_map, hi]; rfl)
      simp only [Rep] at q2
      exact q2.2
    have hcell : ∀ (i : Nat) k, keys[i]? = some k → c[i]? = some (.string (strOf k)) := fun i k hi => by
      obtain ⟨u, q1, q2⟩ := g2 i (.str k) (by rw [List.getElem?_map, hi]; rfl)
      simp only [Rep] at q2
      rw [q1, q2.1]
    have hH : Holds encStr w l.b 0 (keys.map bytesOf).toArray := fun j hj => by
      have hj' : j < keys.length := by simpa using hj
      have hk : keys[j]? = some keys[j] := List.getElem?_eq_getElem hj'
      have hk2 : (keys.map bytesOf).toArray[j]! = bytesOf keys[j] := by
        rw [getElem!_pos _ j hj]; simp
      rw [hk2, enc_bytes]
      refine ⟨?_, ?_⟩
      · simp only [World.cell?, g1, Option.isSome_none, Bool.false_eq_true, if_false, Nat.zero_add]
        exact hcell j _ hk
      · have := g7 j (by simp at g6; omega)
        simp only [World.frozen?, g1, Nat.zero_add]
        simpa using this
    have hbase : l.base + 0 = 0 := by omega
    rw [hbase]
    have hl2 : keys.length = (keys.map bytesOf).length := by simp
    rw [hl2]
    refine (hf.some l.b 0 cp (keys.map bytesOf) w hH h4 (by simp; omega)).mono fun e w' ⟨q1, n, os, q2⟩ => ?_
    have hms : ((keys.map bytesOf).mergeSort fun x y => decide (x ≤ y)).map nums = sortS keys := by
      refine sort_eq _ _ ?_
      rw [List.map_map]
      have : keys.map (nums ∘ bytesOf) = keys := by
        conv => rhs; rw [← List.map_id keys]
        exact List.map_congr_left fun k hk => nums_bytes (hsm k hk)
      rw [this]
    generalize ((keys.map bytesOf).mergeSort fun x y => decide (x ≤ y)) = ms at q2 hms
    have hml : ms.length = keys.length := by
      have := congrArg List.length hms
      rw [sortS_length] at this
      simpa using this
    have hold : ∀ b, b < w.heap.size → w'.heap[b]? = if b = l.b then some (.cells (putCells encStr 0 ms.toArray c) t fr) else w.heap[b]? := by
      intro b hb
      rw [q2, heap_grow_old _ _ (by simpa [putRow, mapBlock, Sort.ahead] using hb)]
      show (w.heap.modify l.b _)[b]? = _
      rw [Array.getElem?_modify]
      by_cases e : b = l.b
      · subst e; rw [if_pos rfl, if_pos rfl, g1]; rfl
      · rw [if_neg (fun q => e q.symm), if_neg e]
    have hsz : w.heap.size ≤ w'.heap.size := by
      rw [q2]
      simp [grow, putRow, mapBlock, Sort.ahead]
    refine ⟨q1, .inr ⟨l, ?_, ?_, h3, by omega, fun z => hne (List.eq_nil_of_length_eq_zero (by rw [← sortS_length, z]; rfl))⟩, fun b hb => ?_, hsz, by rw [q2]; rfl, by rw [q2]; rfl, by rw [q2]; rfl⟩
    · simp only [Rep]
      refine ⟨l, cp, e1, ?_, by rw [sortS_length]; exact e2, e3⟩
      rw [sortS_length, hbase]; simp
    · rw [hold l.b h4, if_pos rfl]
      refine ⟨hb, _, t, fr, rfl, by simpa [putCells] using g5, by simpa [sortS_length] using g6, fun i a ha => ?_, g7⟩
      rw [← hms, List.map_map, List.getElem?_map, Option.map_eq_some_iff] at ha
      obtain ⟨k, hk, rfl⟩ := ha
      have hi : i < ms.length := (List.getElem?_eq_some_iff.1 hk).1
      have hic : i < c.size := by rw [g5]; simp at g6; omega
      refine ⟨encStr k, ?_, ?_⟩
      · simp only [putCells, Array.getElem?_mapIdx, Array.getElem?_eq_getElem hic, Option.map_some, Nat.zero_le, true_and, Nat.zero_add, Nat.sub_zero, List.size_toArray]
        rw [if_pos hi]
        have hmi : ms.toArray[i]! = k := by
          rw [getElem!_pos _ i (by simpa using hi)]
          simp only [List.getElem_toArray]
          rw [List.getElem?_eq_getElem hi] at hk
          injection hk
        rw [hmi]
      · simp only [Function.comp_apply, Rep]
        refine ⟨?_, nums_small k⟩
        rw [← enc_bytes, bytes_nums]
    · rw [hold b (by omega), if_neg (by omega)]
end
end Go.Am
namespace Go.Am
set_option linter.unusedVariables false
set_option linter.unusedSimpArgs false

section
variable {P : Program}

/-- What the pieces of that code are. -/
structure FinCode (P : Program) (N : Nat) (f : FuncId) (ops4 ops5 ops6 ops7 ops8 ops9 : Array Oper) : Prop where
  h4 : ∃ t k e, ops4.toList.map sig = [(.move (.tmp 3), some 10, none), (.range t (.tmp 10), some 11, none)] ∧ P.underlying t = some (.map k e)
  h5 : ops5.toList.map sig = [(.next (.tmp 11) false, some 12, none), (.extract (.tmp 12) 0, some 13, none)]
  h6 : ops6.toList.map sig = [(.entry (.tmp 11), some 14, none), (.extract (.tmp 14) 0, some 15, none), (.assign (.tmp 15), some 5, none)]
  h7 : ops7.toList.map (trOper P N ops7) = roundF
  h8 : ∃ ts, ops8.toList.map sig = [(.move (.tmp 4), some 20, none), (.call { callee := .value (.func f), args := #[.tmp 20], argTypes := ts }, some 21, none)]
  h9 : ops9.toList.map sig = [(.move (.tmp 4), some 22, none), (.assign (.tmp 22), some 2, none)]
  hN : 23 ≤ N
  sort : SortOk P f

theorem two_wp {id : Nat} {ops : Array Oper} {o1 o2 : Op} {d1 d2 : Nat} (hs : ops.toList.map sig = [(o1, some d1, none), (o2, some d2, none)]) {a : Act} {w w1 w2 : World} {v1 v2 : Value}
    (r1 : ∀ x : Oper, x.op = o1 → (execOp a.eval x).run P w = .ok (.value v1) w1) (r2 : ∀ x : Oper, x.op = o2 → (execOp (a.put (some d1) v1).eval x).run P w1 = .ok (.value v2) w2)
    {Q : Exit → Act → World → Prop} (hQ : Q .normal ((a.put (some d1) v1).put (some d2) v2) w2) : (Code.region id ops false).wp P Q a w := by
  have hlen : ops.size = 2 := by have := congrArg List.length hs; simpa using this
  obtain ⟨x, hx, e1, e2, e3⟩ := sig_get hs (i := 0) rfl
  obtain ⟨y, hy, f1, f2, f3⟩ := sig_get hs (i := 1) rfl
  refine wp_region ?_
  rw [hlen]
  show wpOps P ops Q [0, 1] a w
  refine wpOps_at hx e3 (wp_value (r1 x e1) ?_)
  rw [e2]
  refine wpOps_at hy f3 (wp_value (r2 y f1) ?_)
  rw [f2]
  exact hQ

theorem move_run {a : Act} {t : Nat} {v : Value} (h : a.tmps[t]? = some v) (w : World) : ∀ x : Oper, x.op = .move (.tmp t) → (execOp a.eval x).run P w = .ok (.value v) w := fun x hx => by
  simp [execOp, hx, eval_tmp h]

theorem assign_run {a : Act} {t : Nat} {v : Value} (h : a.tmps[t]? = some v) (w : World) : ∀ x : Oper, x.op = .assign (.tmp t) → (execOp a.eval x).run P w = .ok (.value v) w := fun x hx => by
  simp [execOp, hx, eval_tmp h]

theorem keysOf_length : ∀ es : List (AV × AV), (keysOf es).length = es.length
  | [] => rfl
  | p :: l => by show (p.1 :: keysOf l).length = _; simp [keysOf_length l]

theorem finish_sound {N i4 i5 i6 i7 i8 i9 b0 b1 : Nat} {f : FuncId} {ops4 ops5 ops6 ops7 ops8 ops9 : Array Oper} (hc : FinCode P N f ops4 ops5 ops6 ops7 ops8 ops9) :
    FcSound P N finishF (.seq (.seq (.region i4 ops4 false) (.block b0 (.loop (.seq (.region i5 ops5 false) (.seq (.cond (.tmp 13) .skip (.exit b0)) (.block b1 (.seq (.region i6 ops6 false) (.region i7 ops7 false))))))))
      (.seq (.region i8 ops8 false) (.seq (.region i9 ops9 false) .ret))) := by
  intro call hcall e s r h
  -- what finishF answers
  have hF : ∃ o es ks, e.get 3 = some (.map o) ∧ e.get 4 = some .nilSlice ∧ s.heap.get o = some (.map es) ∧ es.length ≤ 1000 ∧ keysOf es = ks.map AV.str ∧
      ((sortS ks = [] ∧ r = .ret (Tr.put (some .nilSlice) .leaf 2) s) ∨ (sortS ks ≠ [] ∧ r = .ret (Tr.put (some (.slice s.next 0 ks.length (.full 1))) .leaf 2) ⟨s.heap.put (some (.cells ((sortS ks).map AV.str) false)) s.next, s.next + 1⟩)) := by
    unfold finishF at h
    split at h
    · next o g3 g4 =>
      split at h
      · next es ges =>
        cases q1 : Nat.ble (lenL es) 1000 with
        | false => rw [q1] at h; cases h
        | true =>
        rw [q1, cond_true] at h
        cases q2 : allStr es with
        | false => rw [q2] at h; cases h
        | true =>
        rw [q2, cond_true] at h
        obtain ⟨ks, hks⟩ := keys_of q2
        refine ⟨o, es, ks, g3, g4, ges, by rw [← lenL_eq]; exact Nat.le_of_ble_eq_true q1, hks, ?_⟩
        rw [hks, sortK_eq] at h
        cases hs : sortS ks with
        | nil =>
          rw [hs] at h
          simp only [List.map_nil, Option.some.injEq] at h
          exact .inl ⟨rfl, h.symm⟩
        | cons k l =>
          rw [hs] at h
          simp only [List.map_cons, St.new, Option.some.injEq] at h
          refine .inr ⟨by simp, ?_⟩
          rw [← h, lenL_eq]
          have : ks.length = (AV.str k :: l.map AV.str).length := by
            have := sortS_length ks
            rw [hs] at this
            simpa using this.symm
          rw [this]; rfl
      · cases h
    · cases h
  obtain ⟨o, es, ks, g3, g4, ges, hle, hks, hr⟩ := hF
  have hnext : s.next ≤ r.next := by
    rcases hr with ⟨_, rfl⟩ | ⟨_, rfl⟩
    · exact Nat.le_refl _
    · exact Nat.le_succ _
  refine ⟨hnext, fun F w0 ρ w a he hN hs hfr Q hQ => ?_⟩
  -- the map
  obtain ⟨v3, t3, r3⟩ := he 3 _ g3
  simp only [Rep] at r3
  obtain ⟨lm, hlm, rfl⟩ := r3
  obtain ⟨v4, t4, r4⟩ := he 4 _ g4
  simp only [Rep] at r4
  subst r4
  obtain ⟨lm', hlm', mes, clock, hmes, hes, hB⟩ := hs.objs o _ ges
  have : lm' = lm := by rw [hlm] at hlm'; injection hlm' with q; exact q.symm
  subst this
  have hkeys : KeysAre mes.toList ks := keysAre_of hes hks
  have hmlen : mes.size ≤ 1000 := by
    have := congrArg List.length hkeys.1
    have h2 := keysOf_length es
    rw [hks] at h2
    simp at this h2
    omega
  have hlow := hs.low o lm' hlm
  -- the range
  obtain ⟨t, kt, et, h4, hu⟩ := hc.h4
  have hsz : 23 ≤ a.tmps.size := by have := hc.hN; omega
  refine wp_seq (wp_seq (two_wp h4 (v2 := .pointer (some ⟨w.heap.size, 0, none⟩)) (w2 := w.alloc (.mapIter (some lm'.b) clock #[] clock)) (move_run t3 w) (fun x hx => ?_) ?_))
  · have : (a.put (some 10) (.map (some lm'.b))).eval (.tmp 10) = .map (some lm'.b) := eval_tmp (put_tmp (by omega))
    simp only [execOp, hx, this]
    have := run_range_map (P := P) w t kt et lm'.b mes clock hu hmes
    simpa using congrArg (fun z => Result.andThen z fun v w => .ok (Next.value v) w) this
  have hI : LInv mes clock lm'.b w.heap.size a.tmps.size a.defers (w.alloc (.mapIter (some lm'.b) clock #[] clock)) []
      ((a.put (some 10) (.map (some lm'.b))).put (some 11) (.pointer (some ⟨w.heap.size, 0, none⟩))) (w.alloc (.mapIter (some lm'.b) clock #[] clock)) := by
    refine ⟨put_tmp (by simp [Act.put]; omega), by simp [Act.put], rfl, ?_, ?_, Taken.nil _, ⟨.slice none 0 0, [], ?_, .inl ⟨rfl, rfl⟩, rfl, fun k hk => by cases hk⟩, fun _ _ _ => rfl, Nat.le_refl _, rfl, rfl, rfl⟩
    · show (w.heap.push _)[w.heap.size]? = _; simp
    · show (w.heap.push _)[lm'.b]? = _; rw [push_old _ _ hlow]; exact hmes
    · rw [put_ne (by decide), put_ne (by decide)]; exact t4
  refine wp_block (loop_wp hc.h5 hc.h6 hc.h7 hN hsz hB (by show w.heap.size < (w.heap.push _).size; simp) (by show lm'.b < (w.heap.push _).size; simp; omega) (by omega) hmlen ⟨ks, hkeys⟩ (fun a2 w2 taken hI2 hp => ?_) hI)
  simp only [Exit.inBlock, if_true]
  show (Code.seq _ _).wp P Q a2 w2
  -- the sort
  obtain ⟨v, keys, l1, l2, l3⟩ := hI2.list
  have hperm : keys.Perm ks := keysAre_perm l3 hkeys hp
  have hsorted : sortS keys = sortS ks := by
    refine List.Perm.eq_of_pairwise (le := leS) (fun a b _ _ => leS_anti) (sortS_sorted _) (sortS_sorted _) ?_
    exact (sortS_perm keys).trans (hperm.trans (sortS_perm ks).symm)
  have hklen : keys.length ≤ 1000 := by
    have h1 := hperm.length_eq
    have h2 := congrArg List.length hkeys.1
    simp at h2
    omega
  obtain ⟨ts, h8⟩ := hc.h8
  have hsz2 := hI2.sz
  have hgoal : ∀ w3, LS (w.alloc (.mapIter (some lm'.b) clock #[] clock)).heap.size w3 (sortS keys) v → (∀ b, b < (w.alloc (.mapIter (some lm'.b) clock #[] clock)).heap.size → w3.heap[b]? = w2.heap[b]?) → w2.heap.size ≤ w3.heap.size → w3.os = w2.os → w3.tape = w2.tape → w3.output = w2.output →
      ∀ a3 : Act, a3.tmps[4]? = some v → a3.tmps.size = a.tmps.size → a3.defers = a.defers → (Code.seq (.region i9 ops9 false) .ret).wp P Q a3 w3 := by
    intro w3 z1 z2 z3 z4 z5 z6 a3 z7 z8 z9
    refine wp_seq (two_wp hc.h9 (move_run z7 w3) (assign_run (put_tmp (by omega)) w3) (wp_ret ?_))
    have hsz1 : (w.alloc (.mapIter (some lm'.b) clock #[] clock)).heap.size = w.heap.size + 1 := by show (w.heap.push _).size = _; simp
    have hk : ∀ b, b < w.heap.size → w3.heap[b]? = w.heap[b]? := fun b hb => by
      rw [z2 b (by omega), hI2.keep b (by omega) (by omega)]
      show (w.heap.push _)[b]? = _; rw [push_old _ _ hb]
    have hw : w.heap.size ≤ w3.heap.size := by have := hI2.size; omega
    have ho : w3.os = w.os := z4.trans hI2.os
    have ht : w3.tape = w.tape := z5.trans hI2.tape
    have hp' : w3.output = w.output := z6.trans hI2.output
    have t2 : ((a3.put (some 22) v).put (some 2) v).tmps[2]? = some v := put_tmp (by simp [Act.put]; omega)
    have esz : ((a3.put (some 22) v).put (some 2) v).tmps.size = a.tmps.size := by simp [Act.put, z8]
    have edf : ((a3.put (some 22) v).put (some 2) v).defers = a.defers := z9
    have henv : ∀ (ρ' : Rho) (u : AV), Rep ρ' u v → EnvRep ρ' (Tr.put (some u) .leaf 2) ((a3.put (some 22) v).put (some 2) v).tmps := fun ρ' u hu t x hx => by
      rw [Tr.get_put] at hx
      split at hx
      · next e2 => subst e2; injection hx with hx; subst hx; exact ⟨v, t2, hu⟩
      · cases hx
    rw [hsorted] at z1
    rcases z1 with ⟨n1, rfl⟩ | ⟨lc, n1, n2, n3, n4, n5⟩
    · rcases hr with ⟨_, rfl⟩ | ⟨hne, rfl⟩
      · exact hQ ρ _ w3 (Ext.refl _ _ _) (henv ρ .nilSlice (by simp only [Rep])) esz edf (hs.kept hk hw ho ht hp')
      · exact absurd n1 hne
    · rcases hr with ⟨hnil, rfl⟩ | ⟨hne, rfl⟩
      · exact absurd hnil n5
      · have hn : ρ s.next = none := hfr s.next (Nat.le_refl _) (Nat.lt_succ_self _)
        refine hQ (upd ρ s.next (some lc)) _ w3 (Ext.upd hn lc) (henv _ _ ?_) esz edf ?_
        · simp only [Rep, sortS_length] at n1 ⊢
          obtain ⟨l, c, q1, q2⟩ := n1
          have : l = lc := by simp only [rhoL, if_pos] at q1; injection q1 with q1; exact q1.symm
          subst this
          exact ⟨l, c, upd_same _ _ _, q2⟩
        · show Sat F w0 _ (s.heap.put _ s.next).get w3
          rw [Tr.put_get]
          exact hs.place hk hw ho ht hp' hn (by omega) n4 (strs_rep n2)
  have hlen8 : ops8.size = 2 := by have := congrArg List.length h8; simpa using this
  obtain ⟨x, hx, e1, e2, e3⟩ := sig_get h8 (i := 0) rfl
  obtain ⟨y, hy, f1, f2, f3⟩ := sig_get h8 (i := 1) rfl
  refine wp_seq (wp_region ?_)
  rw [hlen8]
  show wpOps P ops8 _ [0, 1] a2 w2
  refine wpOps_at hx e3 (wp_value (move_run l1 w2 x e1) ?_)
  rw [e2]
  refine wpOps_at hy f3 ?_
  unfold Oper.wp
  have hev : (a2.put (some 20) v).eval (.tmp 20) = v := eval_tmp (put_tmp (by omega))
  have hrun : (execOp (a2.put (some 20) v).eval y).run P w2 = .ok (.enter f #[v]) w2 := by
    have h0 := callFunc_run hc.sort.call #[v] w2
    have h1 : (#[Operand.tmp 20] : Array Operand).map (a2.put (some 20) v).eval = #[v] := by
      simp only [List.map_toArray, List.map_cons, List.map_nil, hev]
    have h2 : (a2.put (some 20) v).eval (.func f) = .func (.func f) #[] #[] := rfl
    simp only [execOp, f1, resolve, h1, h2, Deferred.ofValue, Sem.run_bind, Sem.run_pure, Result.andThen_ok, invoke]
    simpa using h0
  rw [hrun]
  refine upon_calls (R := fun cv w' => LS (w.alloc (.mapIter (some lm'.b) clock #[] clock)).heap.size w' (sortS keys) v ∧ (∀ b, b < (w.alloc (.mapIter (some lm'.b) clock #[] clock)).heap.size → w'.heap[b]? = w2.heap[b]?) ∧ w2.heap.size ≤ w'.heap.size ∧ w'.os = w2.os ∧ w'.tape = w2.tape ∧ w'.output = w2.output)
    ((l2.sorted hc.sort hklen).mono fun e w' ⟨q1, q2⟩ => ⟨_, q1, q2⟩) fun cv w3 ⟨q1, q2, q3, q4, q5, q6⟩ => ?_
  rw [f2]
  refine hgoal w3 q1 q2 q3 q4 q5 q6 _ ?_ (by simp [Act.put, hsz2]) hI2.df
  rw [put_ne (by decide), put_ne (by decide)]
  exact l1
end
end Go.Am
namespace Go.Am
set_option linter.unusedVariables false
set_option linter.unusedSimpArgs false

structure NmParts where
  i0 : Nat
  i1 : Nat
  i2 : Nat
  i3 : Nat
  i4 : Nat
  i5 : Nat
  i6 : Nat
  i7 : Nat
  i8 : Nat
  i9 : Nat
  b0 : Nat
  b1 : Nat
  o0 : Array Oper
  o1 : Array Oper
  o2 : Array Oper
  o3 : Array Oper
  o4 : Array Oper
  o5 : Array Oper
  o6 : Array Oper
  o7 : Array Oper
  o8 : Array Oper
  o9 : Array Oper
def nmCode (p : NmParts) : Code :=
  .seq (.region p.i0 p.o0 false) (.seq (.region p.i1 p.o1 false) (.seq (.region p.i2 p.o2 false) (.seq (.region p.i3 p.o3 false)
    (.seq (.seq (.region p.i4 p.o4 false) (.block p.b0 (.loop (.seq (.region p.i5 p.o5 false) (.seq (.cond (.tmp 13) .skip (.exit p.b0)) (.block p.b1 (.seq (.region p.i6 p.o6 false) (.region p.i7 p.o7 false))))))))
      (.seq (.region p.i8 p.o8 false) (.seq (.region p.i9 p.o9 false) .ret))))))
def nmNone : NmParts := ⟨0, 0, 0, 0, 0, 0, 0, 0, 0, 0, 0, 0, #[], #[], #[], #[], #[], #[], #[], #[], #[], #[]⟩
def nmParts : Option Code → NmParts
  | some (.seq (.region i0 o0 _) (.seq (.region i1 o1 _) (.seq (.region i2 o2 _) (.seq (.region i3 o3 _)
    (.seq (.seq (.region i4 o4 _) (.block b0 (.loop (.seq (.region i5 o5 _) (.seq _ (.block b1 (.seq (.region i6 o6 _) (.region i7 o7 _))))))))
      (.seq (.region i8 o8 _) (.seq (.region i9 o9 _) _))))))) => ⟨i0, i1, i2, i3, i4, i5, i6, i7, i8, i9, b0, b1, o0, o1, o2, o3, o4, o5, o6, o7, o8, o9⟩
  | _ => nmNone
def rangeT (ops : Array Oper) : TypeId := match ops.toList.map sig with
  | [_, (.range t _, _, _)] => t
  | _ => 0
def callTs (ops : Array Oper) : Array TypeId := match ops.toList.map sig with
  | [_, (.call c, _, _)] => c.argTypes
  | _ => #[]
def isMapB (P : Program) (t : TypeId) : Bool := match P.underlying t with
  | some (.map _ _) => true
  | _ => false

theorem names_sound {P : Program} {f srt nms : FuncId} {G : Func} {p : NmParts} (hG : P.funcs[f]? = some G) (hb : G.body = some (nmCode p)) (hrs : trRes P G.results.toList = some [.tmp 2]) (hn : G.name ≠ "runtime.NumGoroutine")
    {F0 F1 F2 F3 : List FO} (h0 : p.o0.toList.map (trOper P G.ntmps p.o0) = F0) (h1 : p.o1.toList.map (trOper P G.ntmps p.o1) = F1) (h2 : p.o2.toList.map (trOper P G.ntmps p.o2) = F2) (h3 : p.o3.toList.map (trOper P G.ntmps p.o3) = F3)
    (h4 : p.o4.toList.map sig = [(.move (.tmp 3), some 10, none), (.range (rangeT p.o4) (.tmp 10), some 11, none)]) (hm : isMapB P (rangeT p.o4) = true)
    (h5 : p.o5.toList.map sig = [(.next (.tmp 11) false, some 12, none), (.extract (.tmp 12) 0, some 13, none)])
    (h6 : p.o6.toList.map sig = [(.entry (.tmp 11), some 14, none), (.extract (.tmp 14) 0, some 15, none), (.assign (.tmp 15), some 5, none)])
    (h7 : p.o7.toList.map (trOper P G.ntmps p.o7) = roundF)
    (h8 : p.o8.toList.map sig = [(.move (.tmp 4), some 20, none), (.call { callee := .value (.func srt), args := #[.tmp 20], argTypes := callTs p.o8 }, some 21, none)])
    (h9 : p.o9.toList.map sig = [(.move (.tmp 4), some 22, none), (.assign (.tmp 22), some 2, none)]) (hN : Nat.ble 23 G.ntmps = true) (hs : SortOk P srt) :
    FnSound P f ⟨[.tmp 2], cSeq (cReg F0) (cSeq (cReg F1) (cSeq (cReg F2) (cSeq (cReg F3) finishF)))⟩ := by
  subst h0 h1 h2 h3
  refine fn_sound hG hb hrs hn ?_
  refine sound_seq sound_reg (sound_seq sound_reg (sound_seq sound_reg (sound_seq sound_reg ?_)))
  have hm' : ∃ k e, P.underlying (rangeT p.o4) = some (.map k e) := by
    unfold isMapB at hm
    split at hm
    · next k e hk => exact ⟨k, e, hk⟩
    · cases hm
  obtain ⟨k, e, hke⟩ := hm'
  exact finish_sound (f := srt) ⟨⟨_, k, e, h4, hke⟩, h5, h6, h7, ⟨_, h8⟩, h9, Nat.le_of_ble_eq_true hN, hs⟩
end Go.Am
namespace Go.Am
set_option linter.unusedVariables false
set_option linter.unusedSimpArgs false
set_option linter.unusedSectionVars false

/-! ### A heap's objects under other names -/
section
variable {F : Fr} {w0 w : World} {ρ ρ2 : Rho} {h g : Heap}
theorem Sat.renamed (s : Sat F w0 ρ h w) {os : List (Option AObj)} {r1 r2 : Nat → Nat} (hh : ∀ i x, os[i]? = some (some x) → h (r1 i) = some (renO r1 x)) (inj1 : ∀ i j, i < os.length → j < os.length → r1 i = r1 j → i = j)
    (hr : ∀ i l, ρ (r1 i) = some l → ρ2 (r2 i) = some l) (low : ∀ o l, ρ2 o = some l → l.b < w.heap.size) (hg : ∀ o x, g o = some x → ∃ i y, o = r2 i ∧ os[i]? = some (some y) ∧ x = renO r2 y) : Sat F w0 ρ2 g w where
  objs o x hx := by
    obtain ⟨i, y, rfl, hy, rfl⟩ := hg o x hx
    obtain ⟨l, h1, h2⟩ := s.objs _ _ (hh i y hy)
    exact ⟨l, hr i l h1, ObjRep.ren hr h2⟩
  inj o o' x x' l l' a b hne hl hl' hb := by
    obtain ⟨i, y, rfl, hy, rfl⟩ := hg o x a
    obtain ⟨i', y', rfl, hy', rfl⟩ := hg o' x' b
    obtain ⟨m, m1, _⟩ := s.objs _ _ (hh i y hy)
    obtain ⟨m', m1', _⟩ := s.objs _ _ (hh i' y' hy')
    have e1 := hr i m m1
    have e2 := hr i' m' m1'
    rw [hl] at e1; injection e1 with e1; subst e1
    rw [hl'] at e2; injection e2 with e2; subst e2
    have hii : i ≠ i' := fun q => hne (by rw [q])
    have hlt : i < os.length := (List.getElem?_eq_some_iff.1 hy).1
    have hlt' : i' < os.length := (List.getElem?_eq_some_iff.1 hy').1
    have := s.inj _ _ _ _ _ _ (hh i y hy) (hh i' y' hy') (fun q => hii (inj1 i i' hlt hlt' q)) m1 m1' hb
    simpa only [renO_ro] using this
  low := low
  keep := s.keep
  off o x l a hro hl hb := by
    obtain ⟨i, y, rfl, hy, rfl⟩ := hg o x a
    obtain ⟨m, m1, _⟩ := s.objs _ _ (hh i y hy)
    have e1 := hr i m m1
    rw [hl] at e1; injection e1 with e1; subst e1
    exact s.off _ _ _ (hh i y hy) (by rw [renO_ro] at hro ⊢; exact hro) m1 hb
  plow := s.plow
  priv o x l a hl hb := by
    obtain ⟨i, y, rfl, hy, rfl⟩ := hg o x a
    obtain ⟨m, m1, _⟩ := s.objs _ _ (hh i y hy)
    have e1 := hr i m m1
    rw [hl] at e1; injection e1 with e1; subst e1
    exact s.priv _ _ _ (hh i y hy) m1 hb
  os := s.os
  tape := s.tape
  output := s.output
  size := s.size
end

/-! ### What is looked for -/
structure Memo where
  pas : List AV
  pos : List AObj
  v : AV
  ros : List (Option AObj)

def idOf : AV → Option Nat
  | .ptr o _ => some o
  | .slice o _ _ _ => some o
  | .map o => some o
  | _ => none
/-- One name for another, if it fits what is known. -/
noncomputable def bindI (i j : Nat) (σ : Tr Nat) : Option (Tr Nat) := match σ.get i with
  | some k => bif Nat.beq k j then some σ else none
  | none => some (σ.put (some j) i)
noncomputable def mCell (p a : AV) (σ : Tr Nat) : Option (Tr Nat) := match idOf p with
  | some i => match idOf a with
    | some j => bindI i j σ
    | none => none
  | none => bif cellSame p a then some σ else none
noncomputable def mList (f : AV → AV → Tr Nat → Option (Tr Nat)) (ps : List AV) : List AV → Tr Nat → Option (Tr Nat) :=
  List.rec (motive := fun _ => List AV → Tr Nat → Option (Tr Nat)) (fun y σ => List.rec (motive := fun _ => Option (Tr Nat)) (some σ) (fun _ _ _ => none) y)
    (fun p _ ih y σ => List.rec (motive := fun _ => Option (Tr Nat)) none (fun a y _ => match f p a σ with
      | some σ' => ih y σ'
      | none => none) y) ps
noncomputable def mVal (p a : AV) (σ : Tr Nat) : Option (Tr Nat) := match p, a with
  | .agg cs, .agg cs' => mList mCell cs cs' σ
  | .func f cs, .func f' cs' => bif Nat.beq f f' then mList mCell cs cs' σ else none
  | p, a => mCell p a σ
noncomputable def mPairs (ps : List (AV × AV)) : List (AV × AV) → Tr Nat → Option (Tr Nat) :=
  List.rec (motive := fun _ => List (AV × AV) → Tr Nat → Option (Tr Nat)) (fun y σ => List.rec (motive := fun _ => Option (Tr Nat)) (some σ) (fun _ _ _ => none) y)
    (fun p _ ih y σ => List.rec (motive := fun _ => Option (Tr Nat)) none (fun a y _ => match mVal p.1 a.1 σ with
      | some σ' => match mVal p.2 a.2 σ' with
        | some σ' => ih y σ'
        | none => none
      | none => none) y) ps
noncomputable def mObj (p a : AObj) (σ : Tr Nat) : Option (Tr Nat) := match p, a with
  | .cells cs _, .cells cs' _ => mList mVal cs cs' σ
  | .map es, .map es' => mPairs es es' σ
  | _, _ => none
noncomputable def mObjs (h : Tr AObj) (ps : List AObj) : Nat → Tr Nat → Option (Tr Nat) :=
  List.rec (motive := fun _ => Nat → Tr Nat → Option (Tr Nat)) (fun _ σ => some σ) (fun p _ ih i σ => match σ.get i with
    | some j => match h.get j with
      | some x => match mObj p x σ with
        | some σ' => ih (Nat.succ i) σ'
        | none => none
      | none => none
    | none => none) ps

/-! ### The check -/
/-- The names: those of the objects that were met, then new ones. -/
noncomputable def nameR (σ : Tr Nat) (m nx k i : Nat) : Nat := bif Nat.blt i m then (match σ.get i with
    | some j => j
    | none => nx + k) else bif Nat.blt i (m + k) then nx + (i - m) else nx + k
noncomputable def v1Same (a b : AV) : Bool := match a, b with
  | .agg x, .agg y => allSame valSame x y
  | a, b => valSame a b
noncomputable def v2Same (a b : AV) : Bool := match a, b with
  | .tuple x, .tuple y => allSame v1Same x y
  | a, b => v1Same a b
theorem v1Same_eq {a b : AV} (h : v1Same a b = true) : a = b := by
  unfold v1Same at h
  split at h
  · rw [allSame_eq (fun a b => valSame_eq) h]
  · exact valSame_eq h
theorem v2Same_eq {a b : AV} (h : v2Same a b = true) : a = b := by
  unfold v2Same at h
  split at h
  · rw [allSame_eq (fun a b => v1Same_eq) h]
  · exact v1Same_eq h
/-- Are these objects there, under these names? -/
noncomputable def objsAt (r : Nat → Nat) (h : Tr AObj) (os : List (Option AObj)) : Nat → Bool :=
  List.rec (motive := fun _ => Nat → Bool) (fun _ => true) (fun x _ ih i => match x with
    | some x => match h.get (r i) with
      | some z => bif objSame z (renO r x) then ih (Nat.succ i) else false
      | none => false
    | none => ih (Nat.succ i)) os
theorem objsAt_get {r : Nat → Nat} {h : Tr AObj} : ∀ {os : List (Option AObj)} {i : Nat}, objsAt r h os i = true → ∀ (k : Nat) x, os[k]? = some (some x) → h.get (r (i + k)) = some (renO r x)
  | [], i, _, k, x, hx => by simp at hx
  | none :: os, i, hh, k, x, hx => by
    have hh' : objsAt r h os (i + 1) = true := hh
    cases k with
    | zero => simp at hx
    | succ k =>
      have := objsAt_get hh' k x (by simpa using hx)
      rw [show i + (k + 1) = i + 1 + k by omega]; exact this
  | some y :: os, i, hh, k, x, hx => by
    have h1 : objsAt r h (some y :: os) i = match h.get (r i) with
      | some z => bif objSame z (renO r y) then objsAt r h os (i + 1) else false
      | none => false := rfl
    rw [h1] at hh
    split at hh
    · next z hz =>
      cases h2 : objSame z (renO r y) with
      | false => rw [h2] at hh; cases hh
      | true =>
        rw [h2, cond_true] at hh
        cases k with
        | zero =>
          simp only [List.getElem?_cons_zero, Option.some.injEq] at hx
          subst hx
          rw [Nat.add_zero, hz, objSame_eq h2]
        | succ k =>
          have := objsAt_get hh k x (by simpa using hx)
          rw [show i + (k + 1) = i + 1 + k by omega]; exact this
    · cases hh
/-- Names, turned round. -/
noncomputable def invT (r : Nat → Nat) (n : Nat) : Tr Nat := Nat.rec (motive := fun _ => Tr Nat) .leaf (fun i t => t.put (some i) (r i)) n
noncomputable def invOk (r : Nat → Nat) (t : Tr Nat) (n : Nat) : Bool := Nat.rec (motive := fun _ => Bool) true (fun i ih => match t.get (r i) with
  | some j => bif Nat.beq j i then ih else false
  | none => false) n
theorem invOk_get {r : Nat → Nat} {t : Tr Nat} : ∀ {n : Nat}, invOk r t n = true → ∀ i, i < n → t.get (r i) = some i
  | 0, _, i, hi => by omega
  | n + 1, h, i, hi => by
    have h1 : invOk r t (n + 1) = match t.get (r n) with
  | some j => bif Nat.beq j n then invOk r t n else false
  | none => false := rfl
    rw [h1] at h
    split at h
    · next j hj =>
      cases h2 : Nat.beq j n with
      | false => rw [h2] at h; cases h
      | true =>
        rw [h2, cond_true] at h
        by_cases e : i = n
        · subst e; rw [hj, Nat.eq_of_beq_eq_true h2]
        · exact invOk_get h i (by omega)
    · cases h
theorem invOk_inj {r : Nat → Nat} {t : Tr Nat} {n : Nat} (h : invOk r t n = true) : ∀ i j, i < n → j < n → r i = r j → i = j := fun i j hi hj e => by
  have h1 := invOk_get h i hi
  have h2 := invOk_get h j hj
  rw [e, h2] at h1
  injection h1 with h1; exact h1.symm

/-- What was, with these objects under these names. -/
def renOO (r : Nat → Nat) : Option AObj → Option AObj
  | some x => some (renO r x)
  | none => none
theorem renOO_eq (r : Nat → Nat) (x : Option AObj) : renOO r x = x.map (renO r) := by cases x <;> rfl
noncomputable def addR (r : Nat → Nat) (os : List (Option AObj)) : Nat → Tr AObj → Tr AObj :=
  List.rec (motive := fun _ => Nat → Tr AObj → Tr AObj) (fun _ t => t) (fun x _ ih i t => ih (Nat.succ i) (t.put (renOO r x) (r i))) os
theorem addR_get {r : Nat → Nat} : ∀ (os : List (Option AObj)) (i : Nat) (t : Tr AObj) (o : Nat),
    (∃ k y, os[k]? = some y ∧ o = r (i + k) ∧ (addR r os i t).get o = y.map (renO r)) ∨ ((∀ k, k < os.length → o ≠ r (i + k)) ∧ (addR r os i t).get o = t.get o)
  | [], i, t, o => .inr ⟨fun k hk => by simp at hk, rfl⟩
  | x :: os, i, t, o => by
    have h1 : addR r (x :: os) i t = addR r os (i + 1) (t.put (renOO r x) (r i)) := rfl
    rw [h1, renOO_eq]
    rcases addR_get os (i + 1) (t.put (x.map (renO r)) (r i)) o with ⟨k, y, q1, q2, q3⟩ | ⟨q1, q2⟩
    · exact .inl ⟨k + 1, y, by simpa using q1, by rw [q2, show i + (k + 1) = i + 1 + k by omega], q3⟩
    · rw [Tr.get_put] at q2
      by_cases e : o = r i
      · rw [if_pos e] at q2
        exact .inl ⟨0, x, rfl, by rw [Nat.add_zero]; exact e, q2⟩
      · rw [if_neg e] at q2
        refine .inr ⟨fun k hk => ?_, q2⟩
        cases k with
        | zero => rw [Nat.add_zero]; exact e
        | succ k =>
          rw [show i + (k + 1) = i + 1 + k by omega]
          exact q1 k (by simpa using hk)

/-! ### The function -/
noncomputable def somes (l : List AObj) : List (Option AObj) := List.rec (motive := fun _ => List (Option AObj)) [] (fun x _ ih => some x :: ih) l
theorem somes_eq (l : List AObj) : somes l = l.map some := by
  induction l with
  | nil => rfl
  | cons a l ih => show some a :: somes l = _; rw [ih]; rfl
/-- The first n arguments. -/
noncomputable def argsOf (e : Tr AV) (n : Nat) : Option (List AV) := Nat.rec (motive := fun _ => List AV → Option (List AV)) (fun l => some l) (fun i ih l => match e.get i with
  | some v => ih (v :: l)
  | none => none) n []
noncomputable def memTry (M : Memo) (args : List AV) (s : St) : Option (AV × St) := match mList mVal M.pas args .leaf with
  | some σ => match mObjs s.heap M.pos 0 σ with
    | some σ => match lenL M.pos, lenL M.ros with
      | m, n => match nameR σ m s.next (n - m) with
        | r => bif allSame v1Same args (renL r M.pas) then bif objsAt r s.heap (somes M.pos) 0 then bif invOk r (invT r m) m then
            some (ren r M.v, ⟨addR r M.ros 0 s.heap, s.next + (n - m) + 1⟩) else none else none else none
    | none => none
  | none => none
noncomputable def memF (M : Memo) (F : FFn) : FFn := ⟨[.tmp 0], fun call e s => match argsOf e (lenL M.pas) with
  | some args => match e.get (lenL M.pas) with
    | none => match memTry M args s with
      | some (v, s') => some (.ret (Tr.put (some v) .leaf 0) s')
      | none => match finF F.results (F.body call e s) with
        | some (v, s') => some (.ret (Tr.put (some v) .leaf 0) s')
        | none => none
    | some _ => none
  | none => none⟩

/-! ### The run -/
/-- The names in the run. -/
noncomputable def ridR (rid : Tr Nat) (n i : Nat) : Nat := bif Nat.blt i n then (match rid.get i with
  | some j => j
  | none => 0) else 0
noncomputable def idsOk (r : Nat → Nat) (m : Nat) : Bool := Nat.rec (motive := fun _ => Bool) true (fun i ih => bif Nat.beq (r i) (Nat.succ i) then ih else false) m
theorem idsOk_get {r : Nat → Nat} : ∀ {m : Nat}, idsOk r m = true → ∀ i, i < m → r i = i + 1
  | 0, _, i, hi => by omega
  | m + 1, h, i, hi => by
    have h1 : idsOk r (m + 1) = bif Nat.beq (r m) (m + 1) then idsOk r m else false := rfl
    rw [h1] at h
    cases h2 : Nat.beq (r m) (m + 1) with
    | false => rw [h2] at h; cases h
    | true =>
      rw [h2, cond_true] at h
      by_cases e : i = m
      · subst e; exact Nat.eq_of_beq_eq_true h2
      · exact idsOk_get h i (by omega)
noncomputable def listT (l : List Nat) : Nat → Tr Nat → Tr Nat := List.rec (motive := fun _ => Nat → Tr Nat → Tr Nat) (fun _ t => t) (fun x _ ih i t => ih (Nat.succ i) (t.put (some x) i)) l
noncomputable def memChk (M : Memo) (rid : List Nat) : Option (AV × St) → Bool
  | some (u, s) => match lenL M.pos, lenL M.ros with
    | m, n => match ridR (listT rid 0 .leaf) n with
      | r => bif v2Same u (ren r M.v) then bif objsAt r s.heap M.ros 0 then bif idsOk r m then bif Nat.ble m n then invOk r (invT r n) n else false else false else false else false
  | none => false
noncomputable def memRun (tab : Tr FFn) (n f : Nat) (M : Memo) : Option (AV × St) := evF tab n f (renL Nat.succ M.pas) ⟨addR Nat.succ (somes M.pos) 0 .leaf, lenL M.pos + 1⟩
end Go.Am
namespace Go.Am
set_option linter.unusedVariables false
set_option linter.unusedSimpArgs false

theorem argsGo {e : Tr AV} : ∀ {n : Nat} {l args : List AV}, Nat.rec (motive := fun _ => List AV → Option (List AV)) (fun l => some l) (fun i ih l => match e.get i with
  | some v => ih (v :: l)
  | none => none) n l = some args → ∃ p, args = p ++ l ∧ p.length = n ∧ ∀ i, i < n → e.get i = p[i]?
  | 0, l, args, h => by
    have h' : some l = some args := h
    injection h' with h'
    exact ⟨[], by simp [h'], rfl, fun i hi => by omega⟩
  | n + 1, l, args, h => by
    have h' : (match e.get n with
      | some v => Nat.rec (motive := fun _ => List AV → Option (List AV)) (fun l => some l) (fun i ih l => match e.get i with
        | some v => ih (v :: l)
        | none => none) n (v :: l)
      | none => none) = some args := h
    split at h'
    · next v hv =>
      obtain ⟨p, q1, q2, q3⟩ := argsGo h'
      refine ⟨p ++ [v], by simp [q1], by simp [q2], fun i hi => ?_⟩
      by_cases e1 : i = n
      · subst e1
        rw [List.getElem?_append_right (by omega), q2]
        simpa using hv
      · rw [List.getElem?_append_left (by omega)]
        exact q3 i (by omega)
    · cases h'
theorem argsOf_eq {vs args : List AV} {n : Nat} (h : argsOf (argsEnv vs 0 .leaf) n = some args) (hn : (argsEnv vs 0 .leaf).get n = none) : args = vs := by
  obtain ⟨p, q1, q2, q3⟩ := argsGo (show Nat.rec (motive := fun _ => List AV → Option (List AV)) (fun l => some l) (fun i ih l => match (argsEnv vs 0 .leaf).get i with
  | some v => ih (v :: l)
  | none => none) n [] = some args from h)
  rw [List.append_nil] at q1
  subst q1
  have hg : ∀ i, (argsEnv vs 0 .leaf).get i = vs[i]? := fun i => by
    rw [args_get]
    by_cases c : i < vs.length
    · rw [if_pos (by omega)]; simp
    · rw [if_neg (by omega), List.getElem?_eq_none (by omega)]; rfl
  rw [hg] at hn
  have hle : vs.length ≤ n := by simpa using hn
  apply List.ext_getElem?
  intro i
  by_cases c : i < n
  · rw [← q3 i c, hg]
  · rw [List.getElem?_eq_none (by omega), List.getElem?_eq_none (by omega)]

section
variable {P : Program}

theorem memTry_some {M : Memo} {args : List AV} {s s1 : St} {v : AV} (h : memTry M args s = some (v, s1)) : ∃ (r : Nat → Nat), args = renL r M.pas ∧ (∀ (i : Nat) x, M.pos[i]? = some x → s.heap.get (r i) = some (renO r x)) ∧
    (∀ i j, i < M.pos.length → j < M.pos.length → r i = r j → i = j) ∧ (∀ i, M.pos.length ≤ i → i < M.ros.length → r i = s.next + (i - M.pos.length)) ∧ (∀ i, M.pos.length ≤ i → M.ros.length ≤ i → r i = s.next + (M.ros.length - M.pos.length)) ∧
    v = ren r M.v ∧ s1 = ⟨addR r M.ros 0 s.heap, s.next + (M.ros.length - M.pos.length) + 1⟩ := by
  unfold memTry at h
  split at h
  · split at h
    · next σ0 _ σ _ =>
      simp only [lenL_eq] at h
      generalize hr : nameR σ M.pos.length s.next (M.ros.length - M.pos.length) = r at h
      cases h1 : allSame v1Same args (renL r M.pas) with
      | false => rw [h1] at h; cases h
      | true =>
      rw [h1, cond_true] at h
      cases h2 : objsAt r s.heap (somes M.pos) 0 with
      | false => rw [h2] at h; cases h
      | true =>
      rw [h2, cond_true] at h
      cases h3 : invOk r (invT r M.pos.length) M.pos.length with
      | false => rw [h3] at h; cases h
      | true =>
      rw [h3, cond_true] at h
      simp only [Option.some.injEq, Prod.mk.injEq] at h
      refine ⟨r, allSame_eq (fun a b => v1Same_eq) h1, fun i x hx => ?_, invOk_inj h3, fun i hi hi2 => ?_, fun i hi hi2 => ?_, h.1.symm, h.2.symm⟩
      · have := objsAt_get h2 i x (by rw [somes_eq, List.getElem?_map, hx]; rfl)
        rwa [Nat.zero_add] at this
      · rw [← hr]
        unfold nameR
        have e1 : Nat.blt i M.pos.length = false := by rw [Bool.eq_false_iff]; intro q; have := Nat.le_of_ble_eq_true (show Nat.ble (i + 1) M.pos.length = true from q); omega
        have e2 : Nat.blt i (M.pos.length + (M.ros.length - M.pos.length)) = true := Nat.ble_eq_true_of_le (by omega)
        rw [e1, cond_false, e2, cond_true]
      · rw [← hr]
        unfold nameR
        have e1 : Nat.blt i M.pos.length = false := by rw [Bool.eq_false_iff]; intro q; have := Nat.le_of_ble_eq_true (show Nat.ble (i + 1) M.pos.length = true from q); omega
        have e2 : Nat.blt i (M.pos.length + (M.ros.length - M.pos.length)) = false := by rw [Bool.eq_false_iff]; intro q; have := Nat.le_of_ble_eq_true (show Nat.ble (i + 1) _ = true from q); omega
        rw [e1, cond_false, e2, cond_false]
    · cases h
  · cases h

theorem memChk_some {M : Memo} {rid : List Nat} {x : Option (AV × St)} (h : memChk M rid x = true) : ∃ (r : Nat → Nat) (s : St), x = some (ren r M.v, s) ∧ (∀ (i : Nat) y, M.ros[i]? = some (some y) → s.heap.get (r i) = some (renO r y)) ∧
    (∀ i, i < M.pos.length → r i = i + 1) ∧ M.pos.length ≤ M.ros.length ∧ (∀ i j, i < M.ros.length → j < M.ros.length → r i = r j → i = j) ∧ (∀ i, M.ros.length ≤ i → r i = 0) := by
  unfold memChk at h
  split at h
  · next u s =>
    simp only [lenL_eq] at h
    generalize hr : ridR (listT rid 0 .leaf) M.ros.length = r at h
    cases h1 : v2Same u (ren r M.v) with
    | false => rw [h1] at h; cases h
    | true =>
    rw [h1, cond_true] at h
    cases h2 : objsAt r s.heap M.ros 0 with
    | false => rw [h2] at h; cases h
    | true =>
    rw [h2, cond_true] at h
    cases h3 : idsOk r M.pos.length with
    | false => rw [h3] at h; cases h
    | true =>
    rw [h3, cond_true] at h
    cases h4 : Nat.ble M.pos.length M.ros.length with
    | false => rw [h4] at h; cases h
    | true =>
    rw [h4, cond_true] at h
    refine ⟨r, s, by rw [v2Same_eq h1], fun i y hy => ?_, idsOk_get h3, Nat.le_of_ble_eq_true h4, invOk_inj h, fun i hi => ?_⟩
    · have := objsAt_get h2 i y hy
      rwa [Nat.zero_add] at this
    · rw [← hr]
      unfold ridR
      have e1 : Nat.blt i M.ros.length = false := by rw [Bool.eq_false_iff]; intro q; have := Nat.le_of_ble_eq_true (show Nat.ble (i + 1) M.ros.length = true from q); omega
      rw [e1, cond_false]
  · cases h

open Classical in
theorem mem_sound {tab : Tr FFn} (hT : TabOk P tab) {n f : Nat} {M : Memo} {rid : List Nat} {F : FFn} (hM : memChk M rid (memRun tab n f M) = true) (hF : FnSound P f F) : FnSound P f (memF M F) := by
  intro call hcall vs s v s1 hrun
  simp only [runF, memF] at hrun
  generalize he : argsEnv vs 0 .leaf = e at hrun
  split at hrun
  case h_2 => simp [finF] at hrun
  next args hargs =>
  split at hrun
  case h_2 => simp [finF] at hrun
  next hnone =>
  have hav : args = vs := by subst he; exact argsOf_eq hargs hnone
  subst hav
  split at hrun
  case h_2 =>
    split at hrun
    · next v' s' hv' =>
      have e1 : runF (some F) call args s = some (v', s') := by simp only [runF, he]; exact hv'
      have e2 : v' = v ∧ s' = s1 := by
        simp only [finF, evRes_cons, resOf, Tr.get_put, if_pos, evRes_nil, consO, pack, Option.some.injEq, Prod.mk.injEq] at hrun
        exact hrun
      obtain ⟨rfl, rfl⟩ := e2
      exact hF call hcall args s v' s' e1
    · simp [finF] at hrun
  next v' s' hv' =>
  have e2 : v' = v ∧ s' = s1 := by
    simp only [finF, evRes_cons, resOf, Tr.get_put, if_pos, evRes_nil, consO, pack, Option.some.injEq, Prod.mk.injEq] at hrun
    exact hrun
  obtain ⟨rfl, rfl⟩ := e2
  clear hrun
  obtain ⟨r, a1, a2, a3, a4, a5, a6, a7⟩ := memTry_some hv'
  obtain ⟨r1, s0, b0, b1, b2, b3, b4, b5⟩ := memChk_some hM
  unfold memRun at b0
  rw [lenL_eq] at b0
  obtain ⟨g1, g2, g3⟩ := evF_ok hT n f _ _ _ _ b0
  subst a6
  subst a7
  have hk : M.pos.length + (M.ros.length - M.pos.length) = M.ros.length := by omega
  generalize hkk : M.ros.length - M.pos.length = k at *
  refine ⟨by show s.next ≤ s.next + k + 1; omega, g2, fun W w0 ρ w cvs hcv hs hfr => ?_⟩
  have hfr' : ∀ o, s.next ≤ o → o < s.next + k + 1 → ρ o = none := hfr
  let ρ1 : Rho := fun o => match o with
    | 0 => none
    | i + 1 => ρ (r i)
  have hin : ∀ i l, ρ (r i) = some l → ρ1 (Nat.succ i) = some l := fun i l hl => hl
  rw [a1] at hcv
  have hcv1 : RepL ρ1 (renL Nat.succ M.pas) cvs := RepL.ren hin _ _ hcv
  let ga : Heap := fun o => if ∃ i, i < M.pos.length ∧ r i = o then s.heap.get o else none
  have hga : ∀ o x, ga o = some x → s.heap.get o = some x := fun o x hx => by
    simp only [ga] at hx
    split at hx
    · exact hx
    · cases hx
  have sp := hs.part hga
  have hsl : (somes M.pos).length = M.pos.length := by rw [somes_eq]; simp
  have sr : Sat (W.rest ρ s.heap.get ga) w ρ1 (addR Nat.succ (somes M.pos) 0 .leaf).get w := by
    refine sp.renamed (os := somes M.pos) (r1 := r) (r2 := Nat.succ) (fun i x hx => ?_) (by rw [hsl]; exact a3) hin (fun o l hl => ?_) (fun o x hx => ?_)
    · rw [somes_eq, List.getElem?_map, Option.map_eq_some_iff] at hx
      obtain ⟨y, hy, hyx⟩ := hx
      injection hyx with hyx; subst hyx
      have hlt : i < M.pos.length := (List.getElem?_eq_some_iff.1 hy).1
      simp only [ga]
      rw [if_pos ⟨i, hlt, rfl⟩]
      exact a2 i _ hy
    · cases o with
      | zero => cases hl
      | succ i => exact hs.low _ _ hl
    · rcases addR_get (r := Nat.succ) (somes M.pos) 0 .leaf o with ⟨j, y, q1, q2, q3⟩ | ⟨_, q2⟩
      · rw [q3, Option.map_eq_some_iff] at hx
        obtain ⟨z, hz, rfl⟩ := hx
        subst hz
        exact ⟨j, z, by rw [q2, Nat.zero_add], q1, rfl⟩
      · rw [q2, Tr.get_leaf] at hx; cases hx
  have hge : ∀ i, M.pos.length ≤ i → s.next ≤ r i ∧ r i < s.next + k + 1 := fun i hi => by
    by_cases c : i < M.ros.length
    · rw [a4 i hi c]; omega
    · rw [a5 i hi (by omega)]; omega
  have fr1 : Fresh ρ1 (M.pos.length + 1) s0.next := fun o h1 h2 => by
    cases o with
    | zero => omega
    | succ i =>
      obtain ⟨q1, q2⟩ := hge i (by omega)
      exact hfr' _ q1 q2
  refine (g3 (W.rest ρ s.heap.get ga) w ρ1 w cvs hcv1 sr fr1).mono fun e' w' ⟨ρ', cv, q1, q2, q3, q4⟩ => ?_
  let ρ2 : Rho := fun o => if s.next ≤ o ∧ o < s.next + k then ρ' (r1 (M.pos.length + (o - s.next))) else ρ o
  have sub : Sub ρ ρ2 := fun o l hl => by
    show (if _ then _ else _) = _
    by_cases c : s.next ≤ o ∧ o < s.next + k
    · rw [hfr' o c.1 (by omega)] at hl; cases hl
    · rw [if_neg c]; exact hl
  have hout : ∀ i l, ρ' (r1 i) = some l → ρ2 (r i) = some l := fun i l hl => by
    by_cases c : i < M.pos.length
    · rw [b2 i c] at hl
      rcases q2.new _ _ hl with z | z
      · exact sub _ _ z
      · have z1 : M.pos.length + 1 ≤ i + 1 := z.1
        omega
    · by_cases c2 : i < M.ros.length
      · rw [a4 i (by omega) c2]
        show (if _ then _ else _) = _
        rw [if_pos (by omega)]
        have : M.pos.length + (s.next + (i - M.pos.length) - s.next) = i := by omega
        rw [this]; exact hl
      · rw [b5 i (by omega)] at hl
        rcases q2.new _ _ hl with z | z
        · cases z
        · have z1 : M.pos.length + 1 ≤ 0 := z.1
          omega
  refine ⟨ρ2, cv, q1, ⟨sub, fun o l hl => ?_⟩, Rep.ren hout _ _ q3, ?_⟩
  · by_cases c : s.next ≤ o ∧ o < s.next + k
    · exact .inr ⟨c.1, by show o < s.next + k + 1; omega⟩
    · have : ρ2 o = ρ o := if_neg c
      rw [this] at hl; exact .inl hl
  · let gb : Heap := fun o => if ∃ i, i < M.ros.length ∧ r i = o then (addR r M.ros 0 s.heap).get o else none
    have sb : Sat (W.rest ρ s.heap.get ga) w ρ2 gb w' := by
      refine q4.renamed (os := M.ros) (r1 := r1) (r2 := r) (fun i x hx => b1 i x hx) b4 hout (fun o l hl => ?_) (fun o x hx => ?_)
      · by_cases c : s.next ≤ o ∧ o < s.next + k
        · have : ρ2 o = ρ' (r1 (M.pos.length + (o - s.next))) := if_pos c
          rw [this] at hl
          exact q4.low _ _ hl
        · have : ρ2 o = ρ o := if_neg c
          rw [this] at hl
          exact Nat.lt_of_lt_of_le (hs.low _ _ hl) q4.size
      · simp only [gb] at hx
        split at hx
        · next hex =>
          rcases addR_get (r := r) M.ros 0 s.heap o with ⟨j, y, z1, z2, z3⟩ | ⟨z1, _⟩
          · rw [z3, Option.map_eq_some_iff] at hx
            obtain ⟨y', hy', rfl⟩ := hx
            subst hy'
            exact ⟨j, y', by rw [z2, Nat.zero_add], z1, rfl⟩
          · obtain ⟨i, hi, hi2⟩ := hex
            exact absurd (by rw [Nat.zero_add]; exact hi2.symm) (z1 i hi)
        · cases hx
    refine hs.join hga sub sb fun o x hx => ?_
    have hx' : (addR r M.ros 0 s.heap).get o = some x := hx
    rcases addR_get (r := r) M.ros 0 s.heap o with ⟨j, y, z1, z2, z3⟩ | ⟨z1, z2⟩
    · refine .inl ?_
      have hj : j < M.ros.length := (List.getElem?_eq_some_iff.1 z1).1
      simp only [gb]
      rw [if_pos ⟨j, hj, by rw [z2, Nat.zero_add]⟩]
      exact hx'
    · rw [z2] at hx'
      refine .inr ⟨hx', ?_⟩
      simp only [ga]
      rw [if_neg]
      rintro ⟨i, hi, hi2⟩
      exact z1 i (by omega) (by rw [Nat.zero_add]; exact hi2.symm)
end
end Go.Am
namespace Go.Am
set_option linter.unusedVariables false
section
variable {P : Program}

/-- A byte whose remainder is known. -/
theorem rep_res {ρ : Rho} {a : Int} (h : (Lit.int .u8 a).wf = true) (m : Nat) : Rep ρ (.res .u8 m (a.toNat % m)) (.int .u8 a) := by
  simp only [Rep]
  have h1 : 0 ≤ a ∧ a ≤ 255 := by
    have h2 : IntKind.u8.min ≤ a ∧ a ≤ IntKind.u8.max := by simpa [Lit.wf] using h
    exact h2
  refine ⟨a.toNat, ?_, by omega, rfl⟩
  have : (Int.ofNat a.toNat) = a := by show (a.toNat : Int) = a; omega
  rw [this]

theorem rep_at {ρ : Rho} {a : Int} (h : (Lit.int .u8 a).wf = true) {m r : Nat} (hr : a.toNat % m = r) : Rep ρ (.res .u8 m r) (.int .u8 a) := hr ▸ rep_res h m
theorem rep_nil {ρ : Rho} : RepL ρ [] [] := RepL.nil ρ

theorem kept_of {w w' : World} (h : ∀ b, b < w.heap.size → w'.heap[b]? = w.heap[b]?) (ho : w'.os = w.os) (hp : w'.output = w.output) : w.keptBut w' (fun _ => False) := by
  refine ⟨ho, hp, fun i hi => ?_⟩
  rw [h i hi]
  cases w.heap[i]? with
  | none => rfl
  | some o => cases o with
    | cells c t fr => exact ⟨rfl, rfl, rfl, fun _ _ => rfl⟩
    | map es cl => exact .inr ⟨rfl, rfl⟩
    | _ => rfl

theorem law_calls {tab : Tr FFn} (hT : TabOk P tab) {n f : Nat} {vs : List AV} {cvs : List Value} {s' : St} (h : evF tab n f vs ⟨.leaf, 1⟩ = some (.bool true, s')) (hr : RepL (fun _ => none) vs cvs) (w : World) :
    Calls P f ⟨cvs⟩ w fun e w' => e = .returned (.bool true) ∧ w.keptBut w' (fun _ => False) := by
  obtain ⟨_, _, g⟩ := evF_ok hT n f vs ⟨.leaf, 1⟩ _ _ h
  refine (g (Fr.all w) w (fun _ => none) w cvs hr (Sat.blank w) (fun _ _ _ => rfl)).mono fun e w' ⟨ρ', cv, q1, q2, q3, q4⟩ => ?_
  simp only [Rep] at q3
  subst q3
  exact ⟨q1, kept_of (fun b hb => (q4.keep b hb).2) q4.os q4.output⟩

/-- What a run must answer: true. -/
noncomputable def isTrue : Option (AV × St) → Bool
  | some (.bool true, _) => true
  | _ => false
theorem isTrue_some {r : Option (AV × St)} (h : isTrue r = true) : ∃ s', r = some (.bool true, s') := by
  unfold isTrue at h
  split at h
  · exact ⟨_, rfl⟩
  · cases h

theorem post_calm {H : Type} {enc : TypeId × Value → H} {f : Func} {s : ChangeSpec} {apart fresh handsOn : Bool} {W W' : World} {args : Array Value} {v : Value} {ds gs : List (DataW H)} {before pa pv : List MemPlace}
    (hW : DataW.Whole enc P f.params.toList s.vars apart W args.toList ds gs before)
    (hres : ∀ (b : Nat) (sp : Nat → Bool) (hd : Bool), DataW.TrodAll enc P W' b sp hd f.resultTypes.toList (v.resultList f.resultTypes.size) (s.fn H (ds ++ gs)).results [])
    (hargs : ∀ sp : Nat → Bool, (∀ p ∈ before, sp p.block = true) → DataW.TrodAll enc P W' 0 sp true f.params.toList args.toList (s.fn H (ds ++ gs)).args pa)
    (hvars : ∀ sp : Nat → Bool, (∀ p ∈ before, sp p.block = true) → DataW.TrodVars enc P W' sp s.vars (s.fn H (ds ++ gs)).vars pv)
    (hps : before = pa ++ pv) (hk : W.keptBut W' (fun _ => False)) : s.post enc P f apart fresh handsOn false W args v W' := by
  have hold : ∀ p ∈ before, (fun b => decide (b < W.heap.size)) p.block = true := fun p hp => by simpa using hW.lt p hp
  exact ⟨ds, gs, before, [], pa, pv, hW, hres _ _ _, hargs _ hold, hvars _ hold, World.keptBut_mono (fun p hp => hp.elim) hk, fun h => by cases h⟩
end
end Go.Am
