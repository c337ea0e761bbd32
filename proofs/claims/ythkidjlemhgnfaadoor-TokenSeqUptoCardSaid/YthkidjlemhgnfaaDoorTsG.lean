/-
  THE FUNCTIONS that the law reaches, in the machine's form, and that they are the loaded ones.
-/
import Derived.Test.YthkidjlemhgnfaaDoorTsF
import Derived.Test.YthkidjlemhgnfaaDoorChecked
import Derived.KernelRfl
set_option linter.unusedVariables false
set_option linter.unusedSimpArgs false
set_option linter.unusedSectionVars false
section
namespace AI.Tok
open Go AI Go.Proofs

noncomputable abbrev P : Program := Tryd.prog
def rf3_a0 : LoopAnn := ⟨[3, 4, 5, 6, 8, 9], [], [], [4]⟩
@[simp] theorem rf3_a0_keep : rf3_a0.keep = [3, 4, 5, 6, 8, 9] := rfl
@[simp] theorem rf3_a0_opn : rf3_a0.opn = [] := rfl
@[simp] theorem rf3_a0_grow : rf3_a0.grow = [] := rfl
@[simp] theorem rf3_a0_outs : rf3_a0.outs = [4] := rfl
def rf3_b0 : RCode :=
  (.seq (.seq (.region [⟨.load 30 false 1 (.t 9), none⟩,
   ⟨.bin 31 0 .lss (.t 30) (.k (.pv (.int .i64 2))), none⟩])
  (.cond (.t 31) .skip (.exit 0)))
  (.seq (.block 1 (.seq (.region [⟨.alloc 10 3 [.pv (.int .i64 0)], none⟩,
   ⟨.store 1 (.t 10) (.k (.pv (.int .i64 0))), none⟩])
  (.seq (.seq (.region [⟨.mov 34 (.t 8), none⟩,
   ⟨.bin 35 4 .eql (.t 34) (.k (.nilf)), none⟩])
  (.cond (.t 35) (.seq (.region [⟨.store 1 (.t 4) (.k (.pv (.bool false))), none⟩])
  .ret) .skip))
  (.seq (.seq (.region [⟨.mov 36 (.t 8), none⟩])
  (.block 2 (.rng (.t 36) [37, 38] (.seq (.region [⟨.alloc 11 27 [.pv (.int .i64 0), .pv (.int .i64 0), .pv (.int .i64 0), .pv (.str [])], none⟩,
   ⟨.store 4 (.t 11) (.t 37), none⟩])
  (.region [⟨.mov 12 (.t 38), none⟩])) (.block 3 (.seq (.seq (.draw [⟨.load 39 false 1 (.t 10), none⟩,
   ⟨.load 40 false 1 (.t 5), none⟩,
   ⟨.len 41 false (.t 40), none⟩,
   ⟨.bin 42 0 .geq (.t 39) (.t 41), none⟩,
   ⟨.mov 43 (.t 42), none⟩,
   ⟨.load 44 true 4 (.t 11), some (43, false)⟩,
   ⟨.load 45 false 1 (.t 5), some (43, false)⟩,
   ⟨.load 46 false 1 (.t 10), some (43, false)⟩,
   ⟨.idxA 47 4 (.t 45) (.t 46), some (43, false)⟩,
   ⟨.load 48 true 4 (.t 47), some (43, false)⟩,
   ⟨.call (some 49) 6 [(.frzR 4, (.t 44)), (.frzR 4, (.t 48))], some (43, false)⟩,
   ⟨.un 50 .not (.t 49), some (43, false)⟩,
   ⟨.pick 51 (.t 43) (.k (.pv (.bool true))) (.t 50), none⟩] [0, 0, 2, 7, 15, 31, 31, 31, 223, 479, 1023, 2047, 4095])
  (.cond (.t 51) (.seq (.region [⟨.store 1 (.t 4) (.k (.pv (.bool false))), none⟩])
  .ret) .skip))
  (.seq (.seq (.region [⟨.load 52 false 1 (.t 10), none⟩,
   ⟨.load 53 false 1 (.t 5), none⟩,
   ⟨.len 54 false (.t 53), none⟩,
   ⟨.bin 55 0 .sub (.t 54) (.k (.pv (.int .i64 1))), none⟩,
   ⟨.bin 56 0 .eql (.t 52) (.t 55), none⟩,
   ⟨.mov 57 (.t 56), none⟩,
   ⟨.load 58 false 1 (.t 6), some (57, true)⟩,
   ⟨.bin 59 0 .neq (.t 58) (.k (.pv (.int .i64 0))), some (57, true)⟩,
   ⟨.pick 60 (.t 57) (.t 59) (.k (.pv (.bool false))), none⟩,
   ⟨.mov 61 (.t 12), none⟩,
   ⟨.bin 62 0 .neq (.t 61) (.k (.pv (.int .i64 0))), none⟩,
   ⟨.bin 63 1 .neq (.t 60) (.t 62), none⟩,
   ⟨.mov 64 (.t 63), none⟩,
   ⟨.mov 65 (.t 12), some (64, false)⟩,
   ⟨.bin 66 0 .neq (.t 65) (.k (.pv (.int .i64 0))), some (64, false)⟩,
   ⟨.mov 67 (.t 66), some (64, false)⟩,
   ⟨.mov 68 (.t 12), some (67, true)⟩,
   ⟨.load 69 false 1 (.t 6), some (67, true)⟩,
   ⟨.bin 70 0 .neq (.t 68) (.t 69), some (67, true)⟩,
   ⟨.pick 71 (.t 67) (.t 70) (.k (.pv (.bool false))), some (64, false)⟩,
   ⟨.pick 72 (.t 64) (.k (.pv (.bool true))) (.t 71), none⟩])
  (.cond (.t 72) (.seq (.region [⟨.store 1 (.t 4) (.k (.pv (.bool false))), none⟩])
  .ret) .skip))
  (.seq (.region [⟨.load 73 false 1 (.t 10), none⟩,
   ⟨.bin 74 0 .add (.t 73) (.k (.pv (.int .i64 1))), none⟩,
   ⟨.store 1 (.t 10) (.t 74), none⟩])
  (.seq (.region [⟨.load 75 false 1 (.t 9), none⟩,
   ⟨.bin 76 0 .eql (.t 75) (.k (.pv (.int .i64 0))), none⟩,
   ⟨.mov 77 (.t 76), none⟩,
   ⟨.load 78 false 1 (.t 10), some (77, true)⟩,
   ⟨.load 79 false 1 (.t 3), some (77, true)⟩,
   ⟨.bin 80 0 .eql (.t 78) (.t 79), some (77, true)⟩,
   ⟨.pick 81 (.t 77) (.t 80) (.k (.pv (.bool false))), none⟩])
  (.cond (.t 81) (.exit 2) .skip)))))))))
  (.seq (.region [⟨.load 82 false 1 (.t 10), none⟩,
   ⟨.load 83 false 1 (.t 5), none⟩,
   ⟨.len 84 false (.t 83), none⟩,
   ⟨.bin 85 0 .neq (.t 82) (.t 84), none⟩,
   ⟨.mov 86 (.t 85), none⟩,
   ⟨.load 87 false 1 (.t 9), some (86, true)⟩,
   ⟨.bin 88 0 .eql (.t 87) (.k (.pv (.int .i64 0))), some (86, true)⟩,
   ⟨.mov 89 (.t 88), some (86, true)⟩,
   ⟨.load 90 false 1 (.t 10), some (89, true)⟩,
   ⟨.load 91 false 1 (.t 3), some (89, true)⟩,
   ⟨.bin 92 0 .eql (.t 90) (.t 91), some (89, true)⟩,
   ⟨.pick 93 (.t 89) (.t 92) (.k (.pv (.bool false))), some (86, true)⟩,
   ⟨.un 94 .not (.t 93), some (86, true)⟩,
   ⟨.pick 95 (.t 86) (.t 94) (.k (.pv (.bool false))), none⟩])
  (.cond (.t 95) (.seq (.region [⟨.store 1 (.t 4) (.k (.pv (.bool false))), none⟩])
  .ret) .skip))))))
  (.seq (.seq (.region [⟨.load 96 false 1 (.t 9), none⟩])
  (.region [⟨.alloc 9 3 [.pv (.int .i64 0)], none⟩,
   ⟨.store 1 (.t 9) (.t 96), none⟩]))
  (.region [⟨.load 32 false 1 (.t 9), none⟩,
   ⟨.bin 33 0 .add (.t 32) (.k (.pv (.int .i64 1))), none⟩,
   ⟨.store 1 (.t 9) (.t 33), none⟩]))))
def rf3 : RFn := ⟨98, [⟨true, 4, false, 1, true⟩],
  (.seq (.region [⟨.box 3 1 (.t 1), none⟩,
   ⟨.alloc 4 4 [.pv (.bool false)], none⟩])
  (.seq (.region [⟨.mov 14 (.t 0), none⟩,
   ⟨.call (some 15) 4 [(.own, (.t 14))], none⟩,
   ⟨.mov 13 (.t 15), none⟩,
   ⟨.extract 16 (.t 13) 0, none⟩,
   ⟨.extract 17 (.t 13) 1, none⟩,
   ⟨.extract 18 (.t 13) 2, none⟩,
   ⟨.alloc 5 22 [.nils], none⟩,
   ⟨.alloc 6 23 [.pv (.int .i64 0)], none⟩,
   ⟨.store 1 (.t 5) (.t 16), none⟩,
   ⟨.store 1 (.t 6) (.t 17), none⟩,
   ⟨.mov 7 (.t 18), none⟩])
  (.seq (.seq (.region [⟨.load 19 false 1 (.t 6), none⟩,
   ⟨.bin 20 0 .neq (.t 19) (.k (.pv (.int .i64 0))), none⟩])
  (.cond (.t 20) (.region [⟨.load 21 false 1 (.t 5), none⟩,
   ⟨.mov 22 (.t 7), none⟩,
   ⟨.build 23 [.pv (.int .i64 0), .pv (.int .i64 0), .pv (.int .i64 0), .pv (.str [])] [(1, 1, (.t 22))], none⟩,
   ⟨.mksl 24 4 [(.t 23)], none⟩,
   ⟨.app 25 4 40 27 false (.t 21) (.t 24), none⟩,
   ⟨.store 1 (.t 5) (.t 25), none⟩]) .skip))
  (.seq (.region [⟨.mov 26 (.t 0), none⟩,
   ⟨.call (some 27) 5 [(.own, (.t 26))], none⟩,
   ⟨.mov 8 (.t 27), none⟩])
  (.seq (.seq (.region [⟨.mov 28 (.t 8), none⟩,
   ⟨.bin 29 4 .eql (.t 28) (.k (.nilf)), none⟩])
  (.cond (.t 29) (.seq (.region [⟨.store 1 (.t 4) (.k (.pv (.bool false))), none⟩])
  .ret) .skip))
  (.seq (.seq (.region [⟨.alloc 9 3 [.pv (.int .i64 0)], none⟩,
   ⟨.store 1 (.t 9) (.k (.pv (.int .i64 0))), none⟩])
  (.block 0 (.loop rf3_a0 rf3_b0)))
  (.seq (.region [⟨.call (some 97) 7 [], none⟩,
   ⟨.store 1 (.t 4) (.t 97), none⟩])
  .ret)))))))⟩
def rf4_a0 : LoopAnn := ⟨[0, 5, 6], [], [], [2, 3, 4, 5]⟩
@[simp] theorem rf4_a0_keep : rf4_a0.keep = [0, 5, 6] := rfl
@[simp] theorem rf4_a0_opn : rf4_a0.opn = [] := rfl
@[simp] theorem rf4_a0_grow : rf4_a0.grow = [] := rfl
@[simp] theorem rf4_a0_outs : rf4_a0.outs = [2, 3, 4, 5] := rfl
def rf4_b0 : RCode :=
  (.seq (.seq (.region [⟨.mov 10 (.t 6), none⟩,
   ⟨.mov 11 (.t 0), none⟩,
   ⟨.len 12 true (.t 11), none⟩,
   ⟨.bin 13 0 .lss (.t 10) (.t 12), none⟩])
  (.cond (.t 13) .skip (.exit 0)))
  (.block 1 (.seq (.seq (.region [⟨.mov 14 (.t 0), none⟩,
   ⟨.mov 15 (.t 6), none⟩,
   ⟨.idx 16 (.t 14) (.t 15), none⟩,
   ⟨.call (some 17) 8 [(.own, (.t 16))], none⟩])
  (.cond (.t 17) (.seq (.region [⟨.mov 18 (.t 6), none⟩,
   ⟨.bin 19 0 .add (.t 18) (.k (.pv (.int .i64 1))), none⟩,
   ⟨.mov 6 (.t 19), none⟩])
  (.exit 1)) .skip))
  (.seq (.region [⟨.mov 21 (.t 0), none⟩,
   ⟨.mov 22 (.t 6), none⟩,
   ⟨.call (some 23) 9 [(.own, (.t 21)), (.own, (.t 22))], none⟩,
   ⟨.mov 20 (.t 23), none⟩,
   ⟨.extract 24 (.t 20) 0, none⟩,
   ⟨.extract 25 (.t 20) 1, none⟩,
   ⟨.extract 26 (.t 20) 2, none⟩,
   ⟨.alloc 7 27 [.pv (.int .i64 0), .pv (.int .i64 0), .pv (.int .i64 0), .pv (.str [])], none⟩,
   ⟨.store 4 (.t 7) (.t 24), none⟩,
   ⟨.mov 8 (.t 25), none⟩,
   ⟨.mov 9 (.t 26), none⟩])
  (.seq (.seq (.region [⟨.mov 27 (.t 8), none⟩,
   ⟨.bin 28 0 .neq (.t 27) (.k (.pv (.int .i64 0))), none⟩])
  (.cond (.t 28) (.seq (.region [⟨.mov 29 (.t 5), none⟩,
   ⟨.mov 30 (.t 8), none⟩,
   ⟨.mov 31 (.t 9), none⟩,
   ⟨.mov 2 (.t 29), none⟩,
   ⟨.mov 3 (.t 30), none⟩,
   ⟨.mov 4 (.t 31), none⟩])
  .ret) .skip))
  (.seq (.region [⟨.mov 32 (.t 5), none⟩,
   ⟨.load 33 true 4 (.t 7), none⟩,
   ⟨.mksl 34 4 [(.t 33)], none⟩,
   ⟨.app 35 4 40 27 false (.t 32) (.t 34), none⟩,
   ⟨.mov 5 (.t 35), none⟩])
  (.region [⟨.fieldA 36 (.t 7) 2, none⟩,
   ⟨.load 37 false 1 (.t 36), none⟩,
   ⟨.mov 6 (.t 37), none⟩])))))))
def rf4 : RFn := ⟨39, [⟨false, 2, false, 1, false⟩, ⟨false, 3, false, 1, false⟩, ⟨false, 4, false, 1, false⟩],
  (.seq (.region [⟨.mov 2 (.k (.nils)), none⟩,
   ⟨.mov 3 (.k (.pv (.int .i64 0))), none⟩,
   ⟨.mov 4 (.k (.pv (.int .i64 0))), none⟩])
  (.seq (.region [⟨.mov 5 (.k (.nils)), none⟩])
  (.seq (.seq (.region [⟨.mov 6 (.k (.pv (.int .i64 0))), none⟩])
  (.block 0 (.loop rf4_a0 rf4_b0)))
  (.seq (.region [⟨.mov 38 (.t 5), none⟩,
   ⟨.mov 2 (.t 38), none⟩,
   ⟨.mov 3 (.k (.pv (.int .i64 0))), none⟩,
   ⟨.mov 4 (.k (.pv (.int .i64 0))), none⟩])
  .ret))))⟩
def rf5 : RFn := ⟨4, [⟨false, 2, false, 1, false⟩],
  (.seq (.region [⟨.box 1 1 (.t 0), none⟩,
   ⟨.mov 2 (.k (.nilf)), none⟩])
  (.seq (.region [⟨.clo 3 10 [] [(.t 1)], none⟩,
   ⟨.mov 2 (.t 3), none⟩])
  .ret))⟩
def rf6 : RFn := ⟨31, [⟨false, 4, false, 1, true⟩],
  (.seq (.region [⟨.box 2 4 (.t 0), none⟩,
   ⟨.box 3 4 (.t 1), none⟩,
   ⟨.mov 4 (.k (.pv (.bool false))), none⟩])
  (.seq (.seq (.region [⟨.fieldA 5 (.t 2) 0, none⟩,
   ⟨.load 6 false 1 (.t 5), none⟩,
   ⟨.fieldA 7 (.t 3) 0, none⟩,
   ⟨.load 8 false 1 (.t 7), none⟩,
   ⟨.bin 9 0 .neq (.t 6) (.t 8), none⟩,
   ⟨.mov 10 (.t 9), none⟩,
   ⟨.fieldA 11 (.t 2) 1, some (10, false)⟩,
   ⟨.load 12 false 1 (.t 11), some (10, false)⟩,
   ⟨.fieldA 13 (.t 3) 1, some (10, false)⟩,
   ⟨.load 14 false 1 (.t 13), some (10, false)⟩,
   ⟨.bin 15 0 .neq (.t 12) (.t 14), some (10, false)⟩,
   ⟨.pick 16 (.t 10) (.k (.pv (.bool true))) (.t 15), none⟩,
   ⟨.mov 17 (.t 16), none⟩,
   ⟨.fieldA 18 (.t 2) 2, some (17, false)⟩,
   ⟨.load 19 false 1 (.t 18), some (17, false)⟩,
   ⟨.fieldA 20 (.t 3) 2, some (17, false)⟩,
   ⟨.load 21 false 1 (.t 20), some (17, false)⟩,
   ⟨.bin 22 0 .neq (.t 19) (.t 21), some (17, false)⟩,
   ⟨.pick 23 (.t 17) (.k (.pv (.bool true))) (.t 22), none⟩,
   ⟨.mov 24 (.t 23), none⟩,
   ⟨.fieldA 25 (.t 2) 3, some (24, false)⟩,
   ⟨.load 26 false 1 (.t 25), some (24, false)⟩,
   ⟨.fieldA 27 (.t 3) 3, some (24, false)⟩,
   ⟨.load 28 false 1 (.t 27), some (24, false)⟩,
   ⟨.bin 29 0 .neq (.t 26) (.t 28), some (24, false)⟩,
   ⟨.pick 30 (.t 24) (.k (.pv (.bool true))) (.t 29), none⟩])
  (.cond (.t 30) (.seq (.region [⟨.mov 4 (.k (.pv (.bool false))), none⟩])
  .ret) .skip))
  (.seq (.region [⟨.mov 4 (.k (.pv (.bool true))), none⟩])
  .ret)))⟩
def rf7 : RFn := ⟨34, [⟨false, 0, false, 1, true⟩],
  (.seq (.region [⟨.mov 0 (.k (.pv (.bool false))), none⟩])
  (.seq (.region [⟨.call (some 5) 13 [(.own, (.k (.pv (.str [123, 34, 97, 34, 58, 32, 91, 49, 44, 32, 45, 48, 44, 32, 110, 117, 108, 108, 93, 125]))))], none⟩,
   ⟨.mov 4 (.t 5), none⟩,
   ⟨.extract 6 (.t 4) 0, none⟩,
   ⟨.extract 7 (.t 4) 1, none⟩,
   ⟨.extract 8 (.t 4) 2, none⟩,
   ⟨.mov 1 (.t 6), none⟩,
   ⟨.mov 2 (.t 7), none⟩,
   ⟨.mov 3 (.t 8), none⟩])
  (.seq (.seq (.region [⟨.mov 9 (.t 1), none⟩,
   ⟨.call (some 10) 15 [], none⟩,
   ⟨.call (some 11) 14 [(.frz, (.t 9)), (.frz, (.t 10))], none⟩,
   ⟨.un 12 .not (.t 11), none⟩,
   ⟨.mov 13 (.t 12), none⟩,
   ⟨.mov 14 (.t 2), some (13, false)⟩,
   ⟨.bin 15 0 .neq (.t 14) (.k (.pv (.int .i64 0))), some (13, false)⟩,
   ⟨.pick 16 (.t 13) (.k (.pv (.bool true))) (.t 15), none⟩,
   ⟨.mov 17 (.t 16), none⟩,
   ⟨.mov 18 (.t 3), some (17, false)⟩,
   ⟨.bin 19 0 .neq (.t 18) (.k (.pv (.int .i64 0))), some (17, false)⟩,
   ⟨.pick 20 (.t 17) (.k (.pv (.bool true))) (.t 19), none⟩])
  (.cond (.t 20) (.seq (.region [⟨.mov 0 (.k (.pv (.bool false))), none⟩])
  .ret) .skip))
  (.seq (.region [⟨.call (some 21) 16 [(.own, (.k (.pv (.str [116, 114, 117, 101, 102, 97, 108, 115, 101])))), (.own, (.k (.pv (.int .i64 41)))), (.own, (.k (.pv (.int .i64 0))))], none⟩,
   ⟨.mov 22 (.t 21), none⟩,
   ⟨.call (some 23) 16 [(.own, (.k (.pv (.str [91, 49, 46, 53, 93])))), (.own, (.k (.pv (.int .i64 42)))), (.own, (.k (.pv (.int .i64 1))))], some (22, true)⟩,
   ⟨.pick 24 (.t 22) (.t 23) (.k (.pv (.bool false))), none⟩,
   ⟨.mov 25 (.t 24), none⟩,
   ⟨.call (some 26) 16 [(.own, (.k (.pv (.str [49, 50, 45, 51])))), (.own, (.k (.pv (.int .i64 42)))), (.own, (.k (.pv (.int .i64 0))))], some (25, true)⟩,
   ⟨.pick 27 (.t 25) (.t 26) (.k (.pv (.bool false))), none⟩,
   ⟨.mov 28 (.t 27), none⟩,
   ⟨.call (some 29) 16 [(.own, (.k (.pv (.str [39, 97, 39])))), (.own, (.k (.pv (.int .i64 40)))), (.own, (.k (.pv (.int .i64 0))))], some (28, true)⟩,
   ⟨.pick 30 (.t 28) (.t 29) (.k (.pv (.bool false))), none⟩,
   ⟨.mov 31 (.t 30), none⟩,
   ⟨.call (some 32) 16 [(.own, (.k (.pv (.str [43, 49])))), (.own, (.k (.pv (.int .i64 40)))), (.own, (.k (.pv (.int .i64 0))))], some (31, true)⟩,
   ⟨.pick 33 (.t 31) (.t 32) (.k (.pv (.bool false))), none⟩,
   ⟨.mov 0 (.t 33), none⟩])
  .ret))))⟩
def rf8 : RFn := ⟨17, [⟨false, 2, false, 1, true⟩],
  (.seq (.region [⟨.mov 2 (.k (.pv (.bool false))), none⟩])
  (.seq (.region [⟨.mov 3 (.t 0), none⟩,
   ⟨.bin 4 0 .eql (.t 3) (.k (.pv (.int .u8 32))), none⟩,
   ⟨.mov 5 (.t 4), none⟩,
   ⟨.mov 6 (.t 0), some (5, false)⟩,
   ⟨.bin 7 0 .eql (.t 6) (.k (.pv (.int .u8 9))), some (5, false)⟩,
   ⟨.pick 8 (.t 5) (.k (.pv (.bool true))) (.t 7), none⟩,
   ⟨.mov 9 (.t 8), none⟩,
   ⟨.mov 10 (.t 0), some (9, false)⟩,
   ⟨.bin 11 0 .eql (.t 10) (.k (.pv (.int .u8 10))), some (9, false)⟩,
   ⟨.pick 12 (.t 9) (.k (.pv (.bool true))) (.t 11), none⟩,
   ⟨.mov 13 (.t 12), none⟩,
   ⟨.mov 14 (.t 0), some (13, false)⟩,
   ⟨.bin 15 0 .eql (.t 14) (.k (.pv (.int .u8 13))), some (13, false)⟩,
   ⟨.pick 16 (.t 13) (.k (.pv (.bool true))) (.t 15), none⟩,
   ⟨.mov 2 (.t 16), none⟩])
  .ret))⟩
def rf9 : RFn := ⟨90, [⟨true, 4, true, 4, true⟩, ⟨false, 5, false, 1, true⟩, ⟨false, 6, false, 1, true⟩],
  (.seq (.region [⟨.alloc 4 27 [.pv (.int .i64 0), .pv (.int .i64 0), .pv (.int .i64 0), .pv (.str [])], none⟩,
   ⟨.mov 5 (.k (.pv (.int .i64 0))), none⟩,
   ⟨.mov 6 (.k (.pv (.int .i64 0))), none⟩])
  (.seq (.region [⟨.mov 15 (.t 0), none⟩,
   ⟨.mov 16 (.t 1), none⟩,
   ⟨.idx 17 (.t 15) (.t 16), none⟩,
   ⟨.mov 7 (.t 17), none⟩])
  (.seq (.seq (.region [⟨.mov 18 (.t 7), none⟩,
   ⟨.call (some 19) 17 [(.own, (.t 18))], none⟩,
   ⟨.bin 20 0 .gtr (.t 19) (.k (.pv (.int .i64 0))), none⟩])
  (.cond (.t 20) (.seq (.region [⟨.mov 21 (.t 7), none⟩,
   ⟨.call (some 22) 17 [(.own, (.t 21))], none⟩,
   ⟨.mov 23 (.t 1), none⟩,
   ⟨.mov 24 (.t 1), none⟩,
   ⟨.bin 25 0 .add (.t 24) (.k (.pv (.int .i64 1))), none⟩,
   ⟨.build 26 [.pv (.int .i64 0), .pv (.int .i64 0), .pv (.int .i64 0), .pv (.str [])] [(0, 1, (.t 22)), (1, 1, (.t 23)), (2, 1, (.t 25))], none⟩,
   ⟨.store 4 (.t 4) (.t 26), none⟩,
   ⟨.mov 5 (.k (.pv (.int .i64 0))), none⟩,
   ⟨.mov 6 (.k (.pv (.int .i64 0))), none⟩])
  .ret) .skip))
  (.seq (.seq (.region [⟨.mov 27 (.t 7), none⟩,
   ⟨.bin 28 0 .eql (.t 27) (.k (.pv (.int .u8 34))), none⟩])
  (.cond (.t 28) (.seq (.region [⟨.mov 30 (.t 0), none⟩,
   ⟨.mov 31 (.t 1), none⟩,
   ⟨.call (some 32) 18 [(.own, (.t 30)), (.own, (.t 31))], none⟩,
   ⟨.mov 29 (.t 32), none⟩,
   ⟨.extract 33 (.t 29) 0, none⟩,
   ⟨.extract 34 (.t 29) 1, none⟩,
   ⟨.extract 35 (.t 29) 2, none⟩,
   ⟨.mov 8 (.t 33), none⟩,
   ⟨.mov 9 (.t 34), none⟩,
   ⟨.mov 10 (.t 35), none⟩])
  (.seq (.seq (.region [⟨.mov 36 (.t 10), none⟩,
   ⟨.bin 37 0 .neq (.t 36) (.k (.pv (.int .i64 0))), none⟩])
  (.cond (.t 37) (.seq (.region [⟨.build 38 [.pv (.int .i64 0), .pv (.int .i64 0), .pv (.int .i64 0), .pv (.str [])] [], none⟩,
   ⟨.mov 39 (.t 10), none⟩,
   ⟨.mov 40 (.t 9), none⟩,
   ⟨.store 4 (.t 4) (.t 38), none⟩,
   ⟨.mov 5 (.t 39), none⟩,
   ⟨.mov 6 (.t 40), none⟩])
  .ret) .skip))
  (.seq (.region [⟨.mov 41 (.t 1), none⟩,
   ⟨.mov 42 (.t 9), none⟩,
   ⟨.mov 43 (.t 8), none⟩,
   ⟨.build 44 [.pv (.int .i64 0), .pv (.int .i64 0), .pv (.int .i64 0), .pv (.str [])] [(0, 1, (.k (.pv (.int .i64 11)))), (1, 1, (.t 41)), (2, 1, (.t 42)), (3, 1, (.t 43))], none⟩,
   ⟨.store 4 (.t 4) (.t 44), none⟩,
   ⟨.mov 5 (.k (.pv (.int .i64 0))), none⟩,
   ⟨.mov 6 (.k (.pv (.int .i64 0))), none⟩])
  .ret))) .skip))
  (.seq (.seq (.region [⟨.mov 45 (.t 7), none⟩,
   ⟨.call (some 46) 19 [(.own, (.t 45))], none⟩])
  (.cond (.t 46) (.seq (.region [⟨.mov 47 (.t 0), none⟩,
   ⟨.mov 48 (.t 1), none⟩,
   ⟨.call (some 49) 20 [(.own, (.t 47)), (.own, (.t 48))], none⟩,
   ⟨.mov 11 (.t 49), none⟩])
  (.seq (.region [⟨.mov 50 (.t 0), none⟩,
   ⟨.mov 51 (.t 1), none⟩,
   ⟨.mov 52 (.t 11), none⟩,
   ⟨.sub 53 true 1 (.t 50) (some (.t 51)) (some (.t 52)), none⟩,
   ⟨.call (some 54) 21 [(.own, (.t 53))], none⟩,
   ⟨.mov 12 (.t 54), none⟩])
  (.seq (.seq (.region [⟨.mov 55 (.t 12), none⟩,
   ⟨.bin 56 0 .eql (.t 55) (.k (.pv (.int .i64 0))), none⟩])
  (.cond (.t 56) (.seq (.region [⟨.build 57 [.pv (.int .i64 0), .pv (.int .i64 0), .pv (.int .i64 0), .pv (.str [])] [], none⟩,
   ⟨.mov 58 (.t 1), none⟩,
   ⟨.store 4 (.t 4) (.t 57), none⟩,
   ⟨.mov 5 (.k (.pv (.int .i64 41))), none⟩,
   ⟨.mov 6 (.t 58), none⟩])
  .ret) .skip))
  (.seq (.region [⟨.mov 59 (.t 12), none⟩,
   ⟨.mov 60 (.t 1), none⟩,
   ⟨.mov 61 (.t 11), none⟩,
   ⟨.build 62 [.pv (.int .i64 0), .pv (.int .i64 0), .pv (.int .i64 0), .pv (.str [])] [(0, 1, (.t 59)), (1, 1, (.t 60)), (2, 1, (.t 61))], none⟩,
   ⟨.store 4 (.t 4) (.t 62), none⟩,
   ⟨.mov 5 (.k (.pv (.int .i64 0))), none⟩,
   ⟨.mov 6 (.k (.pv (.int .i64 0))), none⟩])
  .ret)))) .skip))
  (.seq (.seq (.region [⟨.mov 63 (.t 7), none⟩,
   ⟨.call (some 64) 22 [(.own, (.t 63))], none⟩,
   ⟨.un 65 .not (.t 64), none⟩,
   ⟨.mov 66 (.t 65), none⟩,
   ⟨.mov 67 (.t 7), some (66, true)⟩,
   ⟨.bin 68 0 .neq (.t 67) (.k (.pv (.int .u8 45))), some (66, true)⟩,
   ⟨.pick 69 (.t 66) (.t 68) (.k (.pv (.bool false))), none⟩])
  (.cond (.t 69) (.seq (.region [⟨.build 70 [.pv (.int .i64 0), .pv (.int .i64 0), .pv (.int .i64 0), .pv (.str [])] [], none⟩,
   ⟨.mov 71 (.t 1), none⟩,
   ⟨.store 4 (.t 4) (.t 70), none⟩,
   ⟨.mov 5 (.k (.pv (.int .i64 40))), none⟩,
   ⟨.mov 6 (.t 71), none⟩])
  .ret) .skip))
  (.seq (.region [⟨.mov 72 (.t 0), none⟩,
   ⟨.mov 73 (.t 1), none⟩,
   ⟨.call (some 74) 23 [(.own, (.t 72)), (.own, (.t 73))], none⟩,
   ⟨.mov 13 (.t 74), none⟩])
  (.seq (.region [⟨.mov 75 (.t 0), none⟩,
   ⟨.mov 76 (.t 1), none⟩,
   ⟨.mov 77 (.t 13), none⟩,
   ⟨.sub 78 true 1 (.t 75) (some (.t 76)) (some (.t 77)), none⟩,
   ⟨.mov 14 (.t 78), none⟩])
  (.seq (.seq (.region [⟨.mov 79 (.t 14), none⟩,
   ⟨.bin 80 0 .eql (.t 79) (.k (.pv (.str [45, 48]))), none⟩])
  (.cond (.t 80) (.region [⟨.mov 14 (.k (.pv (.str [48]))), none⟩]) .skip))
  (.seq (.seq (.region [⟨.mov 81 (.t 14), none⟩,
   ⟨.call (some 82) 24 [(.own, (.t 81))], none⟩,
   ⟨.un 83 .not (.t 82), none⟩])
  (.cond (.t 83) (.seq (.region [⟨.build 84 [.pv (.int .i64 0), .pv (.int .i64 0), .pv (.int .i64 0), .pv (.str [])] [], none⟩,
   ⟨.mov 85 (.t 1), none⟩,
   ⟨.store 4 (.t 4) (.t 84), none⟩,
   ⟨.mov 5 (.k (.pv (.int .i64 42))), none⟩,
   ⟨.mov 6 (.t 85), none⟩])
  .ret) .skip))
  (.seq (.region [⟨.mov 86 (.t 1), none⟩,
   ⟨.mov 87 (.t 13), none⟩,
   ⟨.mov 88 (.t 14), none⟩,
   ⟨.build 89 [.pv (.int .i64 0), .pv (.int .i64 0), .pv (.int .i64 0), .pv (.str [])] [(0, 1, (.k (.pv (.int .i64 10)))), (1, 1, (.t 86)), (2, 1, (.t 87)), (3, 1, (.t 88))], none⟩,
   ⟨.store 4 (.t 4) (.t 89), none⟩,
   ⟨.mov 5 (.k (.pv (.int .i64 0))), none⟩,
   ⟨.mov 6 (.k (.pv (.int .i64 0))), none⟩])
  .ret)))))))))))⟩
def rf10_a0 : LoopAnn := ⟨[0, 1, 3, 4], [], [], []⟩
@[simp] theorem rf10_a0_keep : rf10_a0.keep = [0, 1, 3, 4] := rfl
@[simp] theorem rf10_a0_opn : rf10_a0.opn = [] := rfl
@[simp] theorem rf10_a0_grow : rf10_a0.grow = [] := rfl
@[simp] theorem rf10_a0_outs : rf10_a0.outs = [] := rfl
def rf10_b0 : RCode :=
  (.seq (.seq (.draw [⟨.mov 11 (.t 3), none⟩,
   ⟨.nilck 12 (.t 11), none⟩,
   ⟨.fieldA 13 (.t 12) 1, none⟩,
   ⟨.load 14 false 1 (.t 13), none⟩,
   ⟨.load 15 false 1 (.t 1), none⟩,
   ⟨.len 16 true (.t 15), none⟩,
   ⟨.bin 17 0 .lss (.t 14) (.t 16), none⟩] [0, 1, 3, 7, 0, 16, 63])
  (.cond (.t 17) .skip (.exit 0)))
  (.block 1 (.seq (.seq (.draw [⟨.load 18 false 1 (.t 1), none⟩,
   ⟨.mov 19 (.t 3), none⟩,
   ⟨.nilck 20 (.t 19), none⟩,
   ⟨.fieldA 21 (.t 20) 1, none⟩,
   ⟨.load 22 false 1 (.t 21), none⟩,
   ⟨.idx 23 (.t 18) (.t 22), none⟩] [0, 0, 2, 6, 14, 31])
  (.block 2 (.seq (.seq (.region [⟨.bin 25 0 .eql (.t 23) (.k (.pv (.int .u8 32))), none⟩,
   ⟨.mov 24 (.t 25), none⟩])
  (.cond (.t 24) .skip (.seq (.region [⟨.bin 26 0 .eql (.t 23) (.k (.pv (.int .u8 9))), none⟩,
   ⟨.mov 24 (.t 26), none⟩])
  (.cond (.t 24) .skip (.seq (.region [⟨.bin 27 0 .eql (.t 23) (.k (.pv (.int .u8 10))), none⟩,
   ⟨.mov 24 (.t 27), none⟩])
  (.cond (.t 24) .skip (.region [⟨.bin 28 0 .eql (.t 23) (.k (.pv (.int .u8 13))), none⟩,
   ⟨.mov 24 (.t 28), none⟩])))))))
  (.cond (.t 24) (.seq (.region [⟨.mov 29 (.t 3), none⟩,
   ⟨.nilck 30 (.t 29), none⟩,
   ⟨.fieldA 31 (.t 30) 1, none⟩,
   ⟨.load 32 false 1 (.t 31), none⟩,
   ⟨.bin 33 0 .add (.t 32) (.k (.pv (.int .i64 1))), none⟩,
   ⟨.nilck 34 (.t 29), none⟩,
   ⟨.fieldA 35 (.t 34) 1, none⟩,
   ⟨.store 1 (.t 35) (.t 33), none⟩])
  (.exit 1)) .skip))))
  (.seq (.draw [⟨.load 37 false 1 (.t 1), none⟩,
   ⟨.mov 38 (.t 3), none⟩,
   ⟨.nilck 39 (.t 38), none⟩,
   ⟨.fieldA 40 (.t 39) 1, none⟩,
   ⟨.load 41 false 1 (.t 40), none⟩,
   ⟨.idx 42 (.t 37) (.t 41), none⟩,
   ⟨.call (some 43) 12 [(.own, (.t 42))], none⟩,
   ⟨.idxP 44 1 5 (.t 4) (.t 43), none⟩,
   ⟨.load 45 false 1 (.t 44), none⟩,
   ⟨.mov 46 (.t 3), none⟩,
   ⟨.callv (some 47) (.t 45) [(.own, (.t 46))], none⟩,
   ⟨.mov 36 (.t 47), none⟩,
   ⟨.extract 48 (.t 36) 0, none⟩,
   ⟨.extract 49 (.t 36) 1, none⟩,
   ⟨.alloc 5 27 [.pv (.int .i64 0), .pv (.int .i64 0), .pv (.int .i64 0), .pv (.str [])], none⟩,
   ⟨.store 4 (.t 5) (.t 48), none⟩,
   ⟨.mov 6 (.t 49), none⟩] [0, 0, 2, 6, 14, 31, 63, 127, 255, 0, 1023, 2047, 4095, 4095, 0, 24575, 65535])
  (.seq (.seq (.region [⟨.mov 50 (.t 6), none⟩,
   ⟨.bin 51 0 .neq (.t 50) (.k (.pv (.int .i64 0))), none⟩])
  (.cond (.t 51) (.seq (.region [⟨.mov 52 (.t 0), none⟩,
   ⟨.mov 53 (.t 3), none⟩,
   ⟨.nilck 54 (.t 53), none⟩,
   ⟨.fieldA 55 (.t 54) 2, none⟩,
   ⟨.load 56 false 1 (.t 55), none⟩,
   ⟨.build 57 [.pv (.int .i64 0), .pv (.int .i64 0), .pv (.int .i64 0), .pv (.str [])] [(1, 1, (.t 56))], none⟩,
   ⟨.mov 58 (.t 6), none⟩,
   ⟨.callv (some 59) (.t 52) [(.frzR 4, (.t 57)), (.own, (.t 58))], none⟩])
  .ret) .skip))
  (.seq (.seq (.region [⟨.mov 60 (.t 0), none⟩,
   ⟨.load 61 true 4 (.t 5), none⟩,
   ⟨.callv (some 62) (.t 60) [(.frzR 4, (.t 61)), (.own, (.k (.pv (.int .i64 0))))], none⟩,
   ⟨.un 63 .not (.t 62), none⟩])
  (.cond (.t 63) .ret .skip))
  (.region [⟨.mov 64 (.t 3), none⟩,
   ⟨.fieldA 65 (.t 5) 2, none⟩,
   ⟨.load 66 false 1 (.t 65), none⟩,
   ⟨.nilck 67 (.t 64), none⟩,
   ⟨.fieldA 68 (.t 67) 1, none⟩,
   ⟨.store 1 (.t 68) (.t 66), none⟩])))))))
def rf10 : RFn := ⟨69, [],
  (.seq (.region [⟨.load 7 false 1 (.t 1), none⟩,
   ⟨.build 8 [.pv (.str []), .pv (.int .i64 0), .pv (.int .i64 0)] [(0, 1, (.t 7))], none⟩,
   ⟨.box 9 3 (.t 8), none⟩,
   ⟨.mov 3 (.t 9), none⟩])
  (.seq (.region [⟨.call (some 10) 11 [], none⟩,
   ⟨.alloc 4 42 [.nilf, .nilf, .nilf, .nilf, .nilf], none⟩,
   ⟨.store 5 (.t 4) (.t 10), none⟩])
  (.seq .skip
  (.block 0 (.loop rf10_a0 rf10_b0)))))⟩
def rf11 : RFn := ⟨2, [⟨true, 0, true, 5, false⟩],
  (.seq (.region [⟨.alloc 0 42 [.nilf, .nilf, .nilf, .nilf, .nilf], none⟩])
  (.seq (.region [⟨.build 1 [.nilf, .nilf, .nilf, .nilf, .nilf] [(0, 1, (.k (.clo 25 [] []))), (1, 1, (.k (.clo 26 [] []))), (2, 1, (.k (.clo 27 [] []))), (3, 1, (.k (.clo 28 [] []))), (4, 1, (.k (.clo 29 [] [])))], none⟩,
   ⟨.store 5 (.t 0) (.t 1), none⟩])
  .ret))⟩
def rf12 : RFn := ⟨20, [⟨false, 2, false, 1, true⟩],
  (.seq (.region [⟨.mov 2 (.k (.pv (.int .i64 0))), none⟩])
  (.seq (.block 0 (.seq (.region [⟨.mov 4 (.t 0), none⟩,
   ⟨.call (some 5) 30 [(.own, (.k (.pv (.str [123, 125, 91, 93, 58, 44])))), (.own, (.t 4))], none⟩,
   ⟨.bin 6 0 .geq (.t 5) (.k (.pv (.int .i64 0))), none⟩,
   ⟨.mov 3 (.t 6), none⟩])
  (.cond (.t 3) (.seq (.region [⟨.mov 2 (.k (.pv (.int .i64 1))), none⟩])
  .ret) (.seq (.region [⟨.mov 8 (.t 0), none⟩,
   ⟨.call (some 9) 31 [(.own, (.t 8))], none⟩,
   ⟨.mov 7 (.t 9), none⟩])
  (.cond (.t 7) (.seq (.region [⟨.mov 2 (.k (.pv (.int .i64 2))), none⟩])
  .ret) (.seq (.region [⟨.mov 11 (.t 0), none⟩,
   ⟨.call (some 12) 32 [(.own, (.t 11))], none⟩,
   ⟨.mov 13 (.t 12), none⟩,
   ⟨.mov 14 (.t 0), some (13, false)⟩,
   ⟨.bin 15 0 .eql (.t 14) (.k (.pv (.int .u8 45))), some (13, false)⟩,
   ⟨.pick 16 (.t 13) (.k (.pv (.bool true))) (.t 15), none⟩,
   ⟨.mov 10 (.t 16), none⟩])
  (.cond (.t 10) (.seq (.region [⟨.mov 2 (.k (.pv (.int .i64 3))), none⟩])
  .ret) (.seq (.region [⟨.mov 18 (.t 0), none⟩,
   ⟨.bin 19 0 .eql (.t 18) (.k (.pv (.int .u8 34))), none⟩,
   ⟨.mov 17 (.t 19), none⟩])
  (.cond (.t 17) (.seq (.region [⟨.mov 2 (.k (.pv (.int .i64 4))), none⟩])
  .ret) .skip)))))))))
  (.seq (.region [⟨.mov 2 (.k (.pv (.int .i64 0))), none⟩])
  .ret)))⟩
def rf13 : RFn := ⟨22, [⟨true, 2, false, 1, true⟩, ⟨true, 3, false, 1, true⟩, ⟨true, 4, false, 1, true⟩],
  (.seq (.region [⟨.alloc 2 22 [.nils], none⟩,
   ⟨.alloc 3 23 [.pv (.int .i64 0)], none⟩,
   ⟨.alloc 4 3 [.pv (.int .i64 0)], none⟩])
  (.seq (.region [⟨.alloc 5 22 [.nils], none⟩])
  (.seq (.seq (.region [⟨.mov 8 (.t 0), none⟩,
   ⟨.call (some 9) 5 [(.own, (.t 8))], none⟩])
  (.block 0 (.rng (.t 9) [10, 11] (.seq (.region [⟨.alloc 6 27 [.pv (.int .i64 0), .pv (.int .i64 0), .pv (.int .i64 0), .pv (.str [])], none⟩,
   ⟨.store 4 (.t 6) (.t 10), none⟩])
  (.region [⟨.mov 7 (.t 11), none⟩])) (.block 1 (.seq (.seq (.region [⟨.mov 12 (.t 7), none⟩,
   ⟨.bin 13 0 .neq (.t 12) (.k (.pv (.int .i64 0))), none⟩])
  (.cond (.t 13) (.seq (.draw [⟨.mov 14 (.t 7), none⟩,
   ⟨.fieldA 15 (.t 6) 1, none⟩,
   ⟨.load 16 false 1 (.t 15), none⟩,
   ⟨.store 1 (.t 2) (.k (.nils)), none⟩,
   ⟨.store 1 (.t 3) (.t 14), none⟩,
   ⟨.store 1 (.t 4) (.t 16), none⟩] [0, 0, 2, 0, 9, 31])
  .ret) .skip))
  (.region [⟨.load 17 false 1 (.t 5), none⟩,
   ⟨.load 18 true 4 (.t 6), none⟩,
   ⟨.mksl 19 4 [(.t 18)], none⟩,
   ⟨.app 20 4 40 27 false (.t 17) (.t 19), none⟩,
   ⟨.store 1 (.t 5) (.t 20), none⟩]))))))
  (.seq (.region [⟨.load 21 false 1 (.t 5), none⟩,
   ⟨.store 1 (.t 2) (.t 21), none⟩,
   ⟨.store 1 (.t 3) (.k (.pv (.int .i64 0))), none⟩,
   ⟨.store 1 (.t 4) (.k (.pv (.int .i64 0))), none⟩])
  .ret))))⟩
def rf14_a0 : LoopAnn := ⟨[0, 1, 5], [], [], [4]⟩
@[simp] theorem rf14_a0_keep : rf14_a0.keep = [0, 1, 5] := rfl
@[simp] theorem rf14_a0_opn : rf14_a0.opn = [] := rfl
@[simp] theorem rf14_a0_grow : rf14_a0.grow = [] := rfl
@[simp] theorem rf14_a0_outs : rf14_a0.outs = [4] := rfl
def rf14_b0 : RCode :=
  (.seq (.seq (.region [⟨.mov 11 (.t 5), none⟩,
   ⟨.mov 12 (.t 0), none⟩,
   ⟨.len 13 false (.t 12), none⟩,
   ⟨.bin 14 0 .lss (.t 11) (.t 13), none⟩])
  (.cond (.t 14) .skip (.exit 0)))
  (.seq (.block 1 (.seq (.draw [⟨.mov 17 (.t 0), none⟩,
   ⟨.mov 18 (.t 5), none⟩,
   ⟨.idxA 19 4 (.t 17) (.t 18), none⟩,
   ⟨.load 20 true 4 (.t 19), none⟩,
   ⟨.mov 21 (.t 1), none⟩,
   ⟨.mov 22 (.t 5), none⟩,
   ⟨.idxA 23 4 (.t 21) (.t 22), none⟩,
   ⟨.load 24 true 4 (.t 23), none⟩,
   ⟨.call (some 25) 6 [(.frzR 4, (.t 20)), (.frzR 4, (.t 24))], none⟩,
   ⟨.un 26 .not (.t 25), none⟩] [0, 0, 3, 7, 0, 0, 48, 112, 255, 511])
  (.cond (.t 26) (.seq (.region [⟨.mov 4 (.k (.pv (.bool false))), none⟩])
  .ret) .skip)))
  (.region [⟨.mov 15 (.t 5), none⟩,
   ⟨.bin 16 0 .add (.t 15) (.k (.pv (.int .i64 1))), none⟩,
   ⟨.mov 5 (.t 16), none⟩])))
def rf14 : RFn := ⟨27, [⟨false, 4, false, 1, true⟩],
  (.seq (.region [⟨.mov 4 (.k (.pv (.bool false))), none⟩])
  (.seq (.seq (.region [⟨.mov 6 (.t 0), none⟩,
   ⟨.len 7 false (.t 6), none⟩,
   ⟨.mov 8 (.t 1), none⟩,
   ⟨.len 9 false (.t 8), none⟩,
   ⟨.bin 10 0 .neq (.t 7) (.t 9), none⟩])
  (.cond (.t 10) (.seq (.region [⟨.mov 4 (.k (.pv (.bool false))), none⟩])
  .ret) .skip))
  (.seq (.seq (.region [⟨.mov 5 (.k (.pv (.int .i64 0))), none⟩])
  (.block 0 (.loop rf14_a0 rf14_b0)))
  (.seq (.region [⟨.mov 4 (.k (.pv (.bool true))), none⟩])
  .ret))))⟩
def rf15 : RFn := ⟨13, [⟨false, 0, false, 1, true⟩],
  (.seq (.region [⟨.mov 0 (.k (.nils)), none⟩])
  (.seq (.region [⟨.build 1 [.pv (.int .i64 0), .pv (.int .i64 0), .pv (.int .i64 0), .pv (.str [])] [(0, 1, (.k (.pv (.int .i64 1)))), (1, 1, (.k (.pv (.int .i64 0)))), (2, 1, (.k (.pv (.int .i64 1))))], none⟩,
   ⟨.build 2 [.pv (.int .i64 0), .pv (.int .i64 0), .pv (.int .i64 0), .pv (.str [])] [(0, 1, (.k (.pv (.int .i64 11)))), (1, 1, (.k (.pv (.int .i64 1)))), (2, 1, (.k (.pv (.int .i64 4)))), (3, 1, (.k (.pv (.str [97]))))], none⟩,
   ⟨.build 3 [.pv (.int .i64 0), .pv (.int .i64 0), .pv (.int .i64 0), .pv (.str [])] [(0, 1, (.k (.pv (.int .i64 5)))), (1, 1, (.k (.pv (.int .i64 4)))), (2, 1, (.k (.pv (.int .i64 5))))], none⟩,
   ⟨.build 4 [.pv (.int .i64 0), .pv (.int .i64 0), .pv (.int .i64 0), .pv (.str [])] [(0, 1, (.k (.pv (.int .i64 3)))), (1, 1, (.k (.pv (.int .i64 6)))), (2, 1, (.k (.pv (.int .i64 7))))], none⟩,
   ⟨.build 5 [.pv (.int .i64 0), .pv (.int .i64 0), .pv (.int .i64 0), .pv (.str [])] [(0, 1, (.k (.pv (.int .i64 10)))), (1, 1, (.k (.pv (.int .i64 7)))), (2, 1, (.k (.pv (.int .i64 8)))), (3, 1, (.k (.pv (.str [49]))))], none⟩,
   ⟨.build 6 [.pv (.int .i64 0), .pv (.int .i64 0), .pv (.int .i64 0), .pv (.str [])] [(0, 1, (.k (.pv (.int .i64 6)))), (1, 1, (.k (.pv (.int .i64 8)))), (2, 1, (.k (.pv (.int .i64 9))))], none⟩,
   ⟨.build 7 [.pv (.int .i64 0), .pv (.int .i64 0), .pv (.int .i64 0), .pv (.str [])] [(0, 1, (.k (.pv (.int .i64 10)))), (1, 1, (.k (.pv (.int .i64 10)))), (2, 1, (.k (.pv (.int .i64 12)))), (3, 1, (.k (.pv (.str [48]))))], none⟩,
   ⟨.build 8 [.pv (.int .i64 0), .pv (.int .i64 0), .pv (.int .i64 0), .pv (.str [])] [(0, 1, (.k (.pv (.int .i64 6)))), (1, 1, (.k (.pv (.int .i64 12)))), (2, 1, (.k (.pv (.int .i64 13))))], none⟩,
   ⟨.build 9 [.pv (.int .i64 0), .pv (.int .i64 0), .pv (.int .i64 0), .pv (.str [])] [(0, 1, (.k (.pv (.int .i64 7)))), (1, 1, (.k (.pv (.int .i64 14)))), (2, 1, (.k (.pv (.int .i64 18))))], none⟩,
   ⟨.build 10 [.pv (.int .i64 0), .pv (.int .i64 0), .pv (.int .i64 0), .pv (.str [])] [(0, 1, (.k (.pv (.int .i64 4)))), (1, 1, (.k (.pv (.int .i64 18)))), (2, 1, (.k (.pv (.int .i64 19))))], none⟩,
   ⟨.build 11 [.pv (.int .i64 0), .pv (.int .i64 0), .pv (.int .i64 0), .pv (.str [])] [(0, 1, (.k (.pv (.int .i64 2)))), (1, 1, (.k (.pv (.int .i64 19)))), (2, 1, (.k (.pv (.int .i64 20))))], none⟩,
   ⟨.mksl 12 4 [(.t 1), (.t 2), (.t 3), (.t 4), (.t 5), (.t 6), (.t 7), (.t 8), (.t 9), (.t 10), (.t 11)], none⟩,
   ⟨.mov 0 (.t 12), none⟩])
  .ret))⟩
def rf16 : RFn := ⟨29, [⟨false, 6, false, 1, true⟩],
  (.seq (.region [⟨.mov 6 (.k (.pv (.bool false))), none⟩])
  (.seq (.region [⟨.mov 11 (.t 0), none⟩,
   ⟨.call (some 12) 13 [(.own, (.t 11))], none⟩,
   ⟨.mov 10 (.t 12), none⟩,
   ⟨.extract 13 (.t 10) 0, none⟩,
   ⟨.extract 14 (.t 10) 1, none⟩,
   ⟨.extract 15 (.t 10) 2, none⟩,
   ⟨.mov 7 (.t 13), none⟩,
   ⟨.mov 8 (.t 14), none⟩,
   ⟨.mov 9 (.t 15), none⟩])
  (.seq (.region [⟨.mov 16 (.t 7), none⟩,
   ⟨.len 17 false (.t 16), none⟩,
   ⟨.bin 18 0 .eql (.t 17) (.k (.pv (.int .i64 0))), none⟩,
   ⟨.mov 19 (.t 18), none⟩,
   ⟨.mov 20 (.t 8), some (19, true)⟩,
   ⟨.mov 21 (.t 1), some (19, true)⟩,
   ⟨.bin 22 0 .eql (.t 20) (.t 21), some (19, true)⟩,
   ⟨.pick 23 (.t 19) (.t 22) (.k (.pv (.bool false))), none⟩,
   ⟨.mov 24 (.t 23), none⟩,
   ⟨.mov 25 (.t 9), some (24, true)⟩,
   ⟨.mov 26 (.t 2), some (24, true)⟩,
   ⟨.bin 27 0 .eql (.t 25) (.t 26), some (24, true)⟩,
   ⟨.pick 28 (.t 24) (.t 27) (.k (.pv (.bool false))), none⟩,
   ⟨.mov 6 (.t 28), none⟩])
  .ret)))⟩
def rf17 : RFn := ⟨16, [⟨false, 2, false, 1, true⟩],
  (.seq (.region [⟨.mov 2 (.k (.pv (.int .i64 0))), none⟩])
  (.seq (.seq (.region [⟨.mov 3 (.t 0), none⟩])
  (.block 0 (.seq (.region [⟨.bin 5 0 .eql (.t 3) (.k (.pv (.int .u8 123))), none⟩,
   ⟨.mov 4 (.t 5), none⟩])
  (.cond (.t 4) (.seq (.region [⟨.mov 2 (.k (.pv (.int .i64 1))), none⟩])
  .ret) (.seq (.region [⟨.bin 7 0 .eql (.t 3) (.k (.pv (.int .u8 125))), none⟩,
   ⟨.mov 6 (.t 7), none⟩])
  (.cond (.t 6) (.seq (.region [⟨.mov 2 (.k (.pv (.int .i64 2))), none⟩])
  .ret) (.seq (.region [⟨.bin 9 0 .eql (.t 3) (.k (.pv (.int .u8 91))), none⟩,
   ⟨.mov 8 (.t 9), none⟩])
  (.cond (.t 8) (.seq (.region [⟨.mov 2 (.k (.pv (.int .i64 3))), none⟩])
  .ret) (.seq (.region [⟨.bin 11 0 .eql (.t 3) (.k (.pv (.int .u8 93))), none⟩,
   ⟨.mov 10 (.t 11), none⟩])
  (.cond (.t 10) (.seq (.region [⟨.mov 2 (.k (.pv (.int .i64 4))), none⟩])
  .ret) (.seq (.region [⟨.bin 13 0 .eql (.t 3) (.k (.pv (.int .u8 58))), none⟩,
   ⟨.mov 12 (.t 13), none⟩])
  (.cond (.t 12) (.seq (.region [⟨.mov 2 (.k (.pv (.int .i64 5))), none⟩])
  .ret) (.seq (.region [⟨.bin 15 0 .eql (.t 3) (.k (.pv (.int .u8 44))), none⟩,
   ⟨.mov 14 (.t 15), none⟩])
  (.cond (.t 14) (.seq (.region [⟨.mov 2 (.k (.pv (.int .i64 6))), none⟩])
  .ret) .skip))))))))))))))
  (.seq (.region [⟨.mov 2 (.k (.pv (.int .i64 0))), none⟩])
  .ret)))⟩
def rf18_a0 : LoopAnn := ⟨[0, 1, 7], [], [], [0, 4, 5, 6]⟩
@[simp] theorem rf18_a0_keep : rf18_a0.keep = [0, 1, 7] := rfl
@[simp] theorem rf18_a0_opn : rf18_a0.opn = [] := rfl
@[simp] theorem rf18_a0_grow : rf18_a0.grow = [] := rfl
@[simp] theorem rf18_a0_outs : rf18_a0.outs = [0, 4, 5, 6] := rfl
def rf18_b0 : RCode :=
  (.seq (.seq (.region [⟨.mov 28 (.t 1), none⟩,
   ⟨.mov 29 (.t 0), none⟩,
   ⟨.len 30 true (.t 29), none⟩,
   ⟨.bin 31 0 .lss (.t 28) (.t 30), none⟩])
  (.cond (.t 31) .skip (.exit 0)))
  (.block 1 (.seq (.region [⟨.mov 32 (.t 0), none⟩,
   ⟨.mov 33 (.t 1), none⟩,
   ⟨.call (some 34) 33 [(.own, (.t 32)), (.own, (.t 33))], none⟩,
   ⟨.alloc 8 58 [.pv (.int .i64 0), .pv (.int .i64 0), .pv (.int .i64 0), .pv (.bool false)], none⟩,
   ⟨.store 4 (.t 8) (.t 34), none⟩])
  (.seq (.seq (.region [⟨.fieldA 35 (.t 8) 2, none⟩,
   ⟨.load 36 false 1 (.t 35), none⟩,
   ⟨.bin 37 0 .eql (.t 36) (.k (.pv (.int .i64 34))), none⟩])
  (.cond (.t 37) (.seq (.draw [⟨.mov 38 (.t 7), none⟩,
   ⟨.call (some 39) 34 [(.own, (.t 38))], none⟩,
   ⟨.fieldA 40 (.t 8) 1, none⟩,
   ⟨.load 41 false 1 (.t 40), none⟩,
   ⟨.mov 4 (.t 39), none⟩,
   ⟨.mov 5 (.t 41), none⟩,
   ⟨.mov 6 (.k (.pv (.int .i64 0))), none⟩] [0, 1, 0, 4, 3, 31, 63])
  .ret) .skip))
  (.seq (.seq (.region [⟨.fieldA 42 (.t 8) 2, none⟩,
   ⟨.load 43 false 1 (.t 42), none⟩,
   ⟨.bin 44 0 .lss (.t 43) (.k (.pv (.int .i64 32))), none⟩])
  (.cond (.t 44) (.seq (.region [⟨.mov 45 (.t 1), none⟩,
   ⟨.mov 4 (.k (.pv (.str []))), none⟩,
   ⟨.mov 5 (.t 45), none⟩,
   ⟨.mov 6 (.k (.pv (.int .i64 22))), none⟩])
  .ret) .skip))
  (.seq (.seq (.region [⟨.fieldA 46 (.t 8) 3, none⟩,
   ⟨.load 47 false 1 (.t 46), none⟩])
  (.cond (.t 47) (.seq (.region [⟨.mov 48 (.t 1), none⟩,
   ⟨.mov 4 (.k (.pv (.str []))), none⟩,
   ⟨.mov 5 (.t 48), none⟩,
   ⟨.mov 6 (.k (.pv (.int .i64 20))), none⟩])
  .ret) .skip))
  (.seq (.seq (.region [⟨.fieldA 49 (.t 8) 2, none⟩,
   ⟨.load 50 false 1 (.t 49), none⟩,
   ⟨.bin 51 0 .neq (.t 50) (.k (.pv (.int .i64 92))), none⟩])
  (.cond (.t 51) (.seq (.region [⟨.mov 52 (.t 7), none⟩,
   ⟨.fieldA 53 (.t 8) 2, none⟩,
   ⟨.load 54 false 1 (.t 53), none⟩,
   ⟨.mksl 55 1 [(.t 54)], none⟩,
   ⟨.app 56 1 8 3 false (.t 52) (.t 55), none⟩,
   ⟨.mov 7 (.t 56), none⟩])
  (.seq (.region [⟨.fieldA 57 (.t 8) 1, none⟩,
   ⟨.load 58 false 1 (.t 57), none⟩,
   ⟨.mov 1 (.t 58), none⟩])
  (.exit 1))) .skip))
  (.seq (.region [⟨.mov 60 (.t 0), none⟩,
   ⟨.mov 61 (.t 1), none⟩,
   ⟨.call (some 62) 35 [(.own, (.t 60)), (.own, (.t 61))], none⟩,
   ⟨.mov 59 (.t 62), none⟩,
   ⟨.extract 63 (.t 59) 0, none⟩,
   ⟨.extract 64 (.t 59) 1, none⟩,
   ⟨.extract 65 (.t 59) 2, none⟩,
   ⟨.mov 9 (.t 63), none⟩,
   ⟨.mov 10 (.t 64), none⟩,
   ⟨.mov 11 (.t 65), none⟩])
  (.seq (.seq (.region [⟨.mov 66 (.t 11), none⟩,
   ⟨.bin 67 0 .neq (.t 66) (.k (.pv (.int .i64 0))), none⟩])
  (.cond (.t 67) (.seq (.region [⟨.mov 68 (.t 1), none⟩,
   ⟨.mov 69 (.t 11), none⟩,
   ⟨.mov 4 (.k (.pv (.str []))), none⟩,
   ⟨.mov 5 (.t 68), none⟩,
   ⟨.mov 6 (.t 69), none⟩])
  .ret) .skip))
  (.seq (.region [⟨.mov 70 (.t 7), none⟩,
   ⟨.mov 71 (.t 9), none⟩,
   ⟨.mksl 72 1 [(.t 71)], none⟩,
   ⟨.app 73 1 8 3 false (.t 70) (.t 72), none⟩,
   ⟨.mov 7 (.t 73), none⟩])
  (.region [⟨.mov 74 (.t 10), none⟩,
   ⟨.mov 1 (.t 74), none⟩])))))))))))
def rf18 : RFn := ⟨77, [⟨false, 4, false, 1, true⟩, ⟨false, 5, false, 1, true⟩, ⟨false, 6, false, 1, true⟩],
  (.seq (.region [⟨.mov 4 (.k (.pv (.str []))), none⟩,
   ⟨.mov 5 (.k (.pv (.int .i64 0))), none⟩,
   ⟨.mov 6 (.k (.pv (.int .i64 0))), none⟩])
  (.seq (.seq (.region [⟨.mov 12 (.t 1), none⟩,
   ⟨.bin 13 0 .lss (.t 12) (.k (.pv (.int .i64 0))), none⟩,
   ⟨.mov 14 (.t 13), none⟩,
   ⟨.mov 15 (.t 1), some (14, false)⟩,
   ⟨.mov 16 (.t 0), some (14, false)⟩,
   ⟨.len 17 true (.t 16), some (14, false)⟩,
   ⟨.bin 18 0 .geq (.t 15) (.t 17), some (14, false)⟩,
   ⟨.pick 19 (.t 14) (.k (.pv (.bool true))) (.t 18), none⟩])
  (.cond (.t 19) (.seq (.region [⟨.mov 4 (.k (.pv (.str []))), none⟩,
   ⟨.mov 5 (.k (.pv (.int .i64 0))), none⟩,
   ⟨.mov 6 (.k (.pv (.int .i64 2))), none⟩])
  .ret) .skip))
  (.seq (.seq (.region [⟨.mov 20 (.t 0), none⟩,
   ⟨.mov 21 (.t 1), none⟩,
   ⟨.idx 22 (.t 20) (.t 21), none⟩,
   ⟨.bin 23 0 .neq (.t 22) (.k (.pv (.int .u8 34))), none⟩])
  (.cond (.t 23) (.seq (.region [⟨.mov 24 (.t 1), none⟩,
   ⟨.mov 4 (.k (.pv (.str []))), none⟩,
   ⟨.mov 5 (.t 24), none⟩,
   ⟨.mov 6 (.k (.pv (.int .i64 21))), none⟩])
  .ret) .skip))
  (.seq (.region [⟨.mksl 25 1 [], none⟩,
   ⟨.mov 7 (.t 25), none⟩])
  (.seq (.region [⟨.mov 26 (.t 1), none⟩,
   ⟨.bin 27 0 .add (.t 26) (.k (.pv (.int .i64 1))), none⟩,
   ⟨.mov 1 (.t 27), none⟩])
  (.seq (.block 0 (.loop rf18_a0 rf18_b0))
  (.seq (.region [⟨.mov 75 (.t 0), none⟩,
   ⟨.len 76 true (.t 75), none⟩,
   ⟨.mov 4 (.k (.pv (.str []))), none⟩,
   ⟨.mov 5 (.t 76), none⟩,
   ⟨.mov 6 (.k (.pv (.int .i64 21))), none⟩])
  .ret)))))))⟩
def rf19 : RFn := ⟨21, [⟨false, 2, false, 1, true⟩],
  (.seq (.region [⟨.mov 2 (.k (.pv (.bool false))), none⟩])
  (.seq (.region [⟨.mov 3 (.t 0), none⟩,
   ⟨.bin 4 0 .geq (.t 3) (.k (.pv (.int .u8 97))), none⟩,
   ⟨.mov 5 (.t 4), none⟩,
   ⟨.mov 6 (.t 0), some (5, true)⟩,
   ⟨.bin 7 0 .leq (.t 6) (.k (.pv (.int .u8 122))), some (5, true)⟩,
   ⟨.pick 8 (.t 5) (.t 7) (.k (.pv (.bool false))), none⟩,
   ⟨.mov 9 (.t 8), none⟩,
   ⟨.mov 10 (.t 0), some (9, false)⟩,
   ⟨.bin 11 0 .geq (.t 10) (.k (.pv (.int .u8 65))), some (9, false)⟩,
   ⟨.mov 12 (.t 11), some (9, false)⟩,
   ⟨.mov 13 (.t 0), some (12, true)⟩,
   ⟨.bin 14 0 .leq (.t 13) (.k (.pv (.int .u8 90))), some (12, true)⟩,
   ⟨.pick 15 (.t 12) (.t 14) (.k (.pv (.bool false))), some (9, false)⟩,
   ⟨.pick 16 (.t 9) (.k (.pv (.bool true))) (.t 15), none⟩,
   ⟨.mov 17 (.t 16), none⟩,
   ⟨.mov 18 (.t 0), some (17, false)⟩,
   ⟨.bin 19 0 .eql (.t 18) (.k (.pv (.int .u8 95))), some (17, false)⟩,
   ⟨.pick 20 (.t 17) (.k (.pv (.bool true))) (.t 19), none⟩,
   ⟨.mov 2 (.t 20), none⟩])
  .ret))⟩
def rf20_a0 : LoopAnn := ⟨[0, 1], [], [], [1]⟩
@[simp] theorem rf20_a0_keep : rf20_a0.keep = [0, 1] := rfl
@[simp] theorem rf20_a0_opn : rf20_a0.opn = [] := rfl
@[simp] theorem rf20_a0_grow : rf20_a0.grow = [] := rfl
@[simp] theorem rf20_a0_outs : rf20_a0.outs = [1] := rfl
def rf20_b0 : RCode :=
  (.seq (.seq (.region [⟨.mov 5 (.t 1), none⟩,
   ⟨.mov 6 (.t 0), none⟩,
   ⟨.len 7 true (.t 6), none⟩,
   ⟨.bin 8 0 .lss (.t 5) (.t 7), none⟩,
   ⟨.mov 9 (.t 8), none⟩,
   ⟨.mov 10 (.t 0), some (9, true)⟩,
   ⟨.mov 11 (.t 1), some (9, true)⟩,
   ⟨.idx 12 (.t 10) (.t 11), some (9, true)⟩,
   ⟨.call (some 13) 19 [(.own, (.t 12))], some (9, true)⟩,
   ⟨.mov 14 (.t 13), some (9, true)⟩,
   ⟨.mov 15 (.t 0), some (14, false)⟩,
   ⟨.mov 16 (.t 1), some (14, false)⟩,
   ⟨.idx 17 (.t 15) (.t 16), some (14, false)⟩,
   ⟨.call (some 18) 22 [(.own, (.t 17))], some (14, false)⟩,
   ⟨.pick 19 (.t 14) (.k (.pv (.bool true))) (.t 18), some (9, true)⟩,
   ⟨.pick 20 (.t 9) (.t 19) (.k (.pv (.bool false))), none⟩])
  (.cond (.t 20) .skip (.exit 0)))
  (.block 1 (.region [⟨.mov 21 (.t 1), none⟩,
   ⟨.bin 22 0 .add (.t 21) (.k (.pv (.int .i64 1))), none⟩,
   ⟨.mov 1 (.t 22), none⟩])))
def rf20 : RFn := ⟨24, [⟨false, 4, false, 1, true⟩],
  (.seq (.region [⟨.mov 4 (.k (.pv (.int .i64 0))), none⟩])
  (.seq (.block 0 (.loop rf20_a0 rf20_b0))
  (.seq (.region [⟨.mov 23 (.t 1), none⟩,
   ⟨.mov 4 (.t 23), none⟩])
  .ret)))⟩
def rf21 : RFn := ⟨10, [⟨false, 2, false, 1, true⟩],
  (.seq (.region [⟨.mov 2 (.k (.pv (.int .i64 0))), none⟩])
  (.seq (.seq (.region [⟨.mov 3 (.t 0), none⟩])
  (.block 0 (.seq (.region [⟨.bin 5 0 .eql (.t 3) (.k (.pv (.str [110, 117, 108, 108]))), none⟩,
   ⟨.mov 4 (.t 5), none⟩])
  (.cond (.t 4) (.seq (.region [⟨.mov 2 (.k (.pv (.int .i64 7))), none⟩])
  .ret) (.seq (.region [⟨.bin 7 0 .eql (.t 3) (.k (.pv (.str [102, 97, 108, 115, 101]))), none⟩,
   ⟨.mov 6 (.t 7), none⟩])
  (.cond (.t 6) (.seq (.region [⟨.mov 2 (.k (.pv (.int .i64 8))), none⟩])
  .ret) (.seq (.region [⟨.bin 9 0 .eql (.t 3) (.k (.pv (.str [116, 114, 117, 101]))), none⟩,
   ⟨.mov 8 (.t 9), none⟩])
  (.cond (.t 8) (.seq (.region [⟨.mov 2 (.k (.pv (.int .i64 9))), none⟩])
  .ret) .skip))))))))
  (.seq (.region [⟨.mov 2 (.k (.pv (.int .i64 0))), none⟩])
  .ret)))⟩
def rf22 : RFn := ⟨9, [⟨false, 2, false, 1, true⟩],
  (.seq (.region [⟨.mov 2 (.k (.pv (.bool false))), none⟩])
  (.seq (.region [⟨.mov 3 (.t 0), none⟩,
   ⟨.bin 4 0 .geq (.t 3) (.k (.pv (.int .u8 48))), none⟩,
   ⟨.mov 5 (.t 4), none⟩,
   ⟨.mov 6 (.t 0), some (5, true)⟩,
   ⟨.bin 7 0 .leq (.t 6) (.k (.pv (.int .u8 57))), some (5, true)⟩,
   ⟨.pick 8 (.t 5) (.t 7) (.k (.pv (.bool false))), none⟩,
   ⟨.mov 2 (.t 8), none⟩])
  .ret))⟩
def rf23_a0 : LoopAnn := ⟨[0, 1], [], [], [1]⟩
@[simp] theorem rf23_a0_keep : rf23_a0.keep = [0, 1] := rfl
@[simp] theorem rf23_a0_opn : rf23_a0.opn = [] := rfl
@[simp] theorem rf23_a0_grow : rf23_a0.grow = [] := rfl
@[simp] theorem rf23_a0_outs : rf23_a0.outs = [1] := rfl
def rf23_b0 : RCode :=
  (.seq (.seq (.region [⟨.mov 5 (.t 1), none⟩,
   ⟨.mov 6 (.t 0), none⟩,
   ⟨.len 7 true (.t 6), none⟩,
   ⟨.bin 8 0 .lss (.t 5) (.t 7), none⟩,
   ⟨.mov 9 (.t 8), none⟩,
   ⟨.mov 10 (.t 0), some (9, true)⟩,
   ⟨.mov 11 (.t 1), some (9, true)⟩,
   ⟨.idx 12 (.t 10) (.t 11), some (9, true)⟩,
   ⟨.call (some 13) 19 [(.own, (.t 12))], some (9, true)⟩,
   ⟨.mov 14 (.t 13), some (9, true)⟩,
   ⟨.mov 15 (.t 0), some (14, false)⟩,
   ⟨.mov 16 (.t 1), some (14, false)⟩,
   ⟨.idx 17 (.t 15) (.t 16), some (14, false)⟩,
   ⟨.call (some 18) 22 [(.own, (.t 17))], some (14, false)⟩,
   ⟨.pick 19 (.t 14) (.k (.pv (.bool true))) (.t 18), some (9, true)⟩,
   ⟨.mov 20 (.t 19), some (9, true)⟩,
   ⟨.mov 21 (.t 0), some (20, false)⟩,
   ⟨.mov 22 (.t 1), some (20, false)⟩,
   ⟨.idx 23 (.t 21) (.t 22), some (20, false)⟩,
   ⟨.bin 24 0 .eql (.t 23) (.k (.pv (.int .u8 43))), some (20, false)⟩,
   ⟨.pick 25 (.t 20) (.k (.pv (.bool true))) (.t 24), some (9, true)⟩,
   ⟨.mov 26 (.t 25), some (9, true)⟩,
   ⟨.mov 27 (.t 0), some (26, false)⟩,
   ⟨.mov 28 (.t 1), some (26, false)⟩,
   ⟨.idx 29 (.t 27) (.t 28), some (26, false)⟩,
   ⟨.bin 30 0 .eql (.t 29) (.k (.pv (.int .u8 45))), some (26, false)⟩,
   ⟨.pick 31 (.t 26) (.k (.pv (.bool true))) (.t 30), some (9, true)⟩,
   ⟨.mov 32 (.t 31), some (9, true)⟩,
   ⟨.mov 33 (.t 0), some (32, false)⟩,
   ⟨.mov 34 (.t 1), some (32, false)⟩,
   ⟨.idx 35 (.t 33) (.t 34), some (32, false)⟩,
   ⟨.bin 36 0 .eql (.t 35) (.k (.pv (.int .u8 46))), some (32, false)⟩,
   ⟨.pick 37 (.t 32) (.k (.pv (.bool true))) (.t 36), some (9, true)⟩,
   ⟨.pick 38 (.t 9) (.t 37) (.k (.pv (.bool false))), none⟩])
  (.cond (.t 38) .skip (.exit 0)))
  (.block 1 (.region [⟨.mov 39 (.t 1), none⟩,
   ⟨.bin 40 0 .add (.t 39) (.k (.pv (.int .i64 1))), none⟩,
   ⟨.mov 1 (.t 40), none⟩])))
def rf23 : RFn := ⟨42, [⟨false, 4, false, 1, true⟩],
  (.seq (.region [⟨.mov 4 (.k (.pv (.int .i64 0))), none⟩])
  (.seq (.block 0 (.loop rf23_a0 rf23_b0))
  (.seq (.region [⟨.mov 41 (.t 1), none⟩,
   ⟨.mov 4 (.t 41), none⟩])
  .ret)))⟩
def rf24_a0 : LoopAnn := ⟨[0, 3, 4], [], [], [0, 2, 3]⟩
@[simp] theorem rf24_a0_keep : rf24_a0.keep = [0, 3, 4] := rfl
@[simp] theorem rf24_a0_opn : rf24_a0.opn = [] := rfl
@[simp] theorem rf24_a0_grow : rf24_a0.grow = [] := rfl
@[simp] theorem rf24_a0_outs : rf24_a0.outs = [0, 2, 3] := rfl
def rf24_b0 : RCode :=
  (.seq (.seq (.region [⟨.mov 18 (.t 4), none⟩,
   ⟨.mov 19 (.t 0), none⟩,
   ⟨.len 20 true (.t 19), none⟩,
   ⟨.bin 21 0 .lss (.t 18) (.t 20), none⟩])
  (.cond (.t 21) .skip (.exit 0)))
  (.seq (.block 1 (.seq (.region [⟨.mov 24 (.t 0), none⟩,
   ⟨.mov 25 (.t 4), none⟩,
   ⟨.idx 26 (.t 24) (.t 25), none⟩,
   ⟨.bin 27 0 .lss (.t 26) (.k (.pv (.int .u8 48))), none⟩,
   ⟨.mov 28 (.t 27), none⟩,
   ⟨.mov 29 (.t 0), some (28, false)⟩,
   ⟨.mov 30 (.t 4), some (28, false)⟩,
   ⟨.idx 31 (.t 29) (.t 30), some (28, false)⟩,
   ⟨.bin 32 0 .gtr (.t 31) (.k (.pv (.int .u8 57))), some (28, false)⟩,
   ⟨.pick 33 (.t 28) (.k (.pv (.bool true))) (.t 32), none⟩])
  (.cond (.t 33) (.seq (.region [⟨.mov 2 (.k (.pv (.bool false))), none⟩])
  .ret) .skip)))
  (.region [⟨.mov 22 (.t 4), none⟩,
   ⟨.bin 23 0 .add (.t 22) (.k (.pv (.int .i64 1))), none⟩,
   ⟨.mov 4 (.t 23), none⟩])))
def rf24 : RFn := ⟨42, [⟨false, 2, false, 1, true⟩],
  (.seq (.region [⟨.mov 2 (.k (.pv (.bool false))), none⟩])
  (.seq (.region [⟨.mov 3 (.k (.pv (.int .i64 0))), none⟩])
  (.seq (.seq (.region [⟨.mov 5 (.t 0), none⟩,
   ⟨.len 6 true (.t 5), none⟩,
   ⟨.bin 7 0 .gtr (.t 6) (.k (.pv (.int .i64 0))), none⟩,
   ⟨.mov 8 (.t 7), none⟩,
   ⟨.mov 9 (.t 0), some (8, true)⟩,
   ⟨.idx 10 (.t 9) (.k (.pv (.int .i64 0))), some (8, true)⟩,
   ⟨.bin 11 0 .eql (.t 10) (.k (.pv (.int .u8 45))), some (8, true)⟩,
   ⟨.pick 12 (.t 8) (.t 11) (.k (.pv (.bool false))), none⟩])
  (.cond (.t 12) (.region [⟨.mov 3 (.k (.pv (.int .i64 1))), none⟩]) .skip))
  (.seq (.seq (.region [⟨.mov 13 (.t 3), none⟩,
   ⟨.mov 14 (.t 0), none⟩,
   ⟨.len 15 true (.t 14), none⟩,
   ⟨.bin 16 0 .eql (.t 13) (.t 15), none⟩])
  (.cond (.t 16) (.seq (.region [⟨.mov 2 (.k (.pv (.bool false))), none⟩])
  .ret) .skip))
  (.seq (.seq (.region [⟨.mov 17 (.t 3), none⟩,
   ⟨.mov 4 (.t 17), none⟩])
  (.block 0 (.loop rf24_a0 rf24_b0)))
  (.seq (.region [⟨.mov 34 (.t 0), none⟩,
   ⟨.mov 35 (.t 3), none⟩,
   ⟨.idx 36 (.t 34) (.t 35), none⟩,
   ⟨.bin 37 0 .neq (.t 36) (.k (.pv (.int .u8 48))), none⟩,
   ⟨.mov 38 (.t 37), none⟩,
   ⟨.mov 39 (.t 0), some (38, false)⟩,
   ⟨.bin 40 0 .eql (.t 39) (.k (.pv (.str [48]))), some (38, false)⟩,
   ⟨.pick 41 (.t 38) (.k (.pv (.bool true))) (.t 40), none⟩,
   ⟨.mov 2 (.t 41), none⟩])
  .ret))))))⟩
def rf25 : RFn := ⟨12, [⟨true, 2, true, 4, true⟩, ⟨false, 3, false, 1, true⟩],
  (.seq (.region [⟨.alloc 2 27 [.pv (.int .i64 0), .pv (.int .i64 0), .pv (.int .i64 0), .pv (.str [])], none⟩,
   ⟨.mov 3 (.k (.pv (.int .i64 0))), none⟩])
  (.seq (.region [⟨.mov 4 (.t 0), none⟩,
   ⟨.mov 5 (.t 0), none⟩,
   ⟨.nilck 6 (.t 5), none⟩,
   ⟨.fieldA 7 (.t 6) 1, none⟩,
   ⟨.load 8 false 1 (.t 7), none⟩,
   ⟨.nilck 9 (.t 4), none⟩,
   ⟨.fieldA 10 (.t 9) 2, none⟩,
   ⟨.store 1 (.t 10) (.t 8), none⟩])
  (.seq (.region [⟨.build 11 [.pv (.int .i64 0), .pv (.int .i64 0), .pv (.int .i64 0), .pv (.str [])] [], none⟩,
   ⟨.store 4 (.t 2) (.t 11), none⟩,
   ⟨.mov 3 (.k (.pv (.int .i64 40))), none⟩])
  .ret)))⟩
def rf26 : RFn := ⟨25, [⟨true, 2, true, 4, true⟩, ⟨false, 3, false, 1, true⟩],
  (.seq (.region [⟨.alloc 2 27 [.pv (.int .i64 0), .pv (.int .i64 0), .pv (.int .i64 0), .pv (.str [])], none⟩,
   ⟨.mov 3 (.k (.pv (.int .i64 0))), none⟩])
  (.seq (.draw [⟨.mov 4 (.t 0), none⟩,
   ⟨.nilck 5 (.t 4), none⟩,
   ⟨.fieldA 6 (.t 5) 0, none⟩,
   ⟨.load 7 false 1 (.t 6), none⟩,
   ⟨.mov 8 (.t 0), none⟩,
   ⟨.nilck 9 (.t 8), none⟩,
   ⟨.fieldA 10 (.t 9) 1, none⟩,
   ⟨.load 11 false 1 (.t 10), none⟩,
   ⟨.idx 12 (.t 7) (.t 11), none⟩,
   ⟨.call (some 13) 30 [(.own, (.k (.pv (.str [123, 125, 91, 93, 58, 44])))), (.own, (.t 12))], none⟩,
   ⟨.bin 14 0 .add (.t 13) (.k (.pv (.int .i64 1))), none⟩,
   ⟨.mov 15 (.t 0), none⟩,
   ⟨.nilck 16 (.t 15), none⟩,
   ⟨.fieldA 17 (.t 16) 1, none⟩,
   ⟨.load 18 false 1 (.t 17), none⟩,
   ⟨.mov 19 (.t 0), none⟩,
   ⟨.nilck 20 (.t 19), none⟩,
   ⟨.fieldA 21 (.t 20) 1, none⟩,
   ⟨.load 22 false 1 (.t 21), none⟩,
   ⟨.bin 23 0 .add (.t 22) (.k (.pv (.int .i64 1))), none⟩,
   ⟨.build 24 [.pv (.int .i64 0), .pv (.int .i64 0), .pv (.int .i64 0), .pv (.str [])] [(0, 1, (.t 14)), (1, 1, (.t 18)), (2, 1, (.t 23))], none⟩,
   ⟨.store 4 (.t 2) (.t 24), none⟩,
   ⟨.mov 3 (.k (.pv (.int .i64 0))), none⟩] [0, 1, 3, 7, 0, 16, 48, 112, 255, 511, 1023, 0, 2048, 6144, 14336, 0, 32768, 98304, 229376, 491520, 1048575, 2097151, 4194303])
  .ret))⟩
def rf27 : RFn := ⟨39, [⟨true, 2, true, 4, true⟩, ⟨false, 3, false, 1, true⟩],
  (.seq (.region [⟨.alloc 2 27 [.pv (.int .i64 0), .pv (.int .i64 0), .pv (.int .i64 0), .pv (.str [])], none⟩,
   ⟨.mov 3 (.k (.pv (.int .i64 0))), none⟩])
  (.seq (.draw [⟨.mov 5 (.t 0), none⟩,
   ⟨.nilck 6 (.t 5), none⟩,
   ⟨.fieldA 7 (.t 6) 1, none⟩,
   ⟨.load 8 false 1 (.t 7), none⟩,
   ⟨.mov 9 (.t 0), none⟩,
   ⟨.call (some 10) 36 [(.lendP, (.t 9)), (.own, (.k (.pv (.str []))))], none⟩,
   ⟨.build 11 [.pv (.int .i64 0), .pv (.int .i64 0), .pv (.int .i64 0), .pv (.str [])] [(1, 1, (.t 8)), (2, 1, (.t 10))], none⟩,
   ⟨.alloc 4 27 [.pv (.int .i64 0), .pv (.int .i64 0), .pv (.int .i64 0), .pv (.str [])], none⟩,
   ⟨.store 4 (.t 4) (.t 11), none⟩] [0, 1, 3, 7, 0, 16, 63, 0, 255])
  (.seq (.seq (.draw [⟨.mov 12 (.t 0), none⟩,
   ⟨.nilck 13 (.t 12), none⟩,
   ⟨.fieldA 14 (.t 13) 0, none⟩,
   ⟨.load 15 false 1 (.t 14), none⟩,
   ⟨.fieldA 16 (.t 4) 1, none⟩,
   ⟨.load 17 false 1 (.t 16), none⟩,
   ⟨.fieldA 18 (.t 4) 2, none⟩,
   ⟨.load 19 false 1 (.t 18), none⟩,
   ⟨.sub 20 true 1 (.t 15) (some (.t 17)) (some (.t 19)), none⟩] [0, 1, 3, 7, 0, 16, 0, 64, 255])
  (.block 0 (.seq (.region [⟨.bin 30 0 .eql (.t 20) (.k (.pv (.str [110, 117, 108, 108]))), none⟩,
   ⟨.mov 29 (.t 30), none⟩])
  (.cond (.t 29) (.region [⟨.fieldA 31 (.t 4) 0, none⟩,
   ⟨.store 1 (.t 31) (.k (.pv (.int .i64 7))), none⟩]) (.seq (.region [⟨.bin 33 0 .eql (.t 20) (.k (.pv (.str [102, 97, 108, 115, 101]))), none⟩,
   ⟨.mov 32 (.t 33), none⟩])
  (.cond (.t 32) (.region [⟨.fieldA 34 (.t 4) 0, none⟩,
   ⟨.store 1 (.t 34) (.k (.pv (.int .i64 8))), none⟩]) (.seq (.region [⟨.bin 36 0 .eql (.t 20) (.k (.pv (.str [116, 114, 117, 101]))), none⟩,
   ⟨.mov 35 (.t 36), none⟩])
  (.cond (.t 35) (.region [⟨.fieldA 37 (.t 4) 0, none⟩,
   ⟨.store 1 (.t 37) (.k (.pv (.int .i64 9))), none⟩]) (.seq (.region [⟨.mov 21 (.t 0), none⟩,
   ⟨.mov 22 (.t 0), none⟩,
   ⟨.nilck 23 (.t 22), none⟩,
   ⟨.fieldA 24 (.t 23) 1, none⟩,
   ⟨.load 25 false 1 (.t 24), none⟩,
   ⟨.nilck 26 (.t 21), none⟩,
   ⟨.fieldA 27 (.t 26) 2, none⟩,
   ⟨.store 1 (.t 27) (.t 25), none⟩])
  (.seq (.region [⟨.build 28 [.pv (.int .i64 0), .pv (.int .i64 0), .pv (.int .i64 0), .pv (.str [])] [], none⟩,
   ⟨.store 4 (.t 2) (.t 28), none⟩,
   ⟨.mov 3 (.k (.pv (.int .i64 41))), none⟩])
  .ret))))))))))
  (.seq (.region [⟨.load 38 true 4 (.t 4), none⟩,
   ⟨.store 4 (.t 2) (.t 38), none⟩,
   ⟨.mov 3 (.k (.pv (.int .i64 0))), none⟩])
  .ret))))⟩
def rf28 : RFn := ⟨39, [⟨true, 2, true, 4, true⟩, ⟨false, 3, false, 1, true⟩],
  (.seq (.region [⟨.alloc 2 27 [.pv (.int .i64 0), .pv (.int .i64 0), .pv (.int .i64 0), .pv (.str [])], none⟩,
   ⟨.mov 3 (.k (.pv (.int .i64 0))), none⟩])
  (.seq (.draw [⟨.mov 5 (.t 0), none⟩,
   ⟨.nilck 6 (.t 5), none⟩,
   ⟨.fieldA 7 (.t 6) 1, none⟩,
   ⟨.load 8 false 1 (.t 7), none⟩,
   ⟨.mov 9 (.t 0), none⟩,
   ⟨.call (some 10) 36 [(.lendP, (.t 9)), (.own, (.k (.pv (.str [43, 45, 46]))))], none⟩,
   ⟨.build 11 [.pv (.int .i64 0), .pv (.int .i64 0), .pv (.int .i64 0), .pv (.str [])] [(0, 1, (.k (.pv (.int .i64 10)))), (1, 1, (.t 8)), (2, 1, (.t 10))], none⟩,
   ⟨.alloc 4 27 [.pv (.int .i64 0), .pv (.int .i64 0), .pv (.int .i64 0), .pv (.str [])], none⟩,
   ⟨.store 4 (.t 4) (.t 11), none⟩] [0, 1, 3, 7, 0, 16, 63, 0, 255])
  (.seq (.draw [⟨.mov 12 (.t 0), none⟩,
   ⟨.nilck 13 (.t 12), none⟩,
   ⟨.fieldA 14 (.t 13) 0, none⟩,
   ⟨.load 15 false 1 (.t 14), none⟩,
   ⟨.fieldA 16 (.t 4) 1, none⟩,
   ⟨.load 17 false 1 (.t 16), none⟩,
   ⟨.fieldA 18 (.t 4) 2, none⟩,
   ⟨.load 19 false 1 (.t 18), none⟩,
   ⟨.sub 20 true 1 (.t 15) (some (.t 17)) (some (.t 19)), none⟩,
   ⟨.fieldA 21 (.t 4) 3, none⟩,
   ⟨.store 1 (.t 21) (.t 20), none⟩] [0, 1, 3, 7, 0, 16, 0, 64, 255, 511, 1023])
  (.seq (.seq (.region [⟨.fieldA 22 (.t 4) 3, none⟩,
   ⟨.load 23 false 1 (.t 22), none⟩,
   ⟨.bin 24 0 .eql (.t 23) (.k (.pv (.str [45, 48]))), none⟩])
  (.cond (.t 24) (.region [⟨.fieldA 25 (.t 4) 3, none⟩,
   ⟨.store 1 (.t 25) (.k (.pv (.str [48]))), none⟩]) .skip))
  (.seq (.seq (.region [⟨.fieldA 26 (.t 4) 3, none⟩,
   ⟨.load 27 false 1 (.t 26), none⟩,
   ⟨.call (some 28) 37 [(.own, (.t 27))], none⟩,
   ⟨.un 29 .not (.t 28), none⟩])
  (.cond (.t 29) (.seq (.region [⟨.mov 30 (.t 0), none⟩,
   ⟨.mov 31 (.t 0), none⟩,
   ⟨.nilck 32 (.t 31), none⟩,
   ⟨.fieldA 33 (.t 32) 1, none⟩,
   ⟨.load 34 false 1 (.t 33), none⟩,
   ⟨.nilck 35 (.t 30), none⟩,
   ⟨.fieldA 36 (.t 35) 2, none⟩,
   ⟨.store 1 (.t 36) (.t 34), none⟩])
  (.seq (.region [⟨.build 37 [.pv (.int .i64 0), .pv (.int .i64 0), .pv (.int .i64 0), .pv (.str [])] [], none⟩,
   ⟨.store 4 (.t 2) (.t 37), none⟩,
   ⟨.mov 3 (.k (.pv (.int .i64 42))), none⟩])
  .ret)) .skip))
  (.seq (.region [⟨.load 38 true 4 (.t 4), none⟩,
   ⟨.store 4 (.t 2) (.t 38), none⟩,
   ⟨.mov 3 (.k (.pv (.int .i64 0))), none⟩])
  .ret))))))⟩
def rf29 : RFn := ⟨35, [⟨true, 2, true, 4, true⟩, ⟨false, 3, false, 1, true⟩],
  (.seq (.region [⟨.alloc 2 27 [.pv (.int .i64 0), .pv (.int .i64 0), .pv (.int .i64 0), .pv (.str [])], none⟩,
   ⟨.mov 3 (.k (.pv (.int .i64 0))), none⟩])
  (.seq (.draw [⟨.mov 8 (.t 0), none⟩,
   ⟨.nilck 9 (.t 8), none⟩,
   ⟨.fieldA 10 (.t 9) 0, none⟩,
   ⟨.load 11 false 1 (.t 10), none⟩,
   ⟨.mov 12 (.t 0), none⟩,
   ⟨.nilck 13 (.t 12), none⟩,
   ⟨.fieldA 14 (.t 13) 1, none⟩,
   ⟨.load 15 false 1 (.t 14), none⟩,
   ⟨.call (some 16) 38 [(.own, (.t 11)), (.own, (.t 15))], none⟩,
   ⟨.mov 7 (.t 16), none⟩,
   ⟨.extract 17 (.t 7) 0, none⟩,
   ⟨.extract 18 (.t 7) 1, none⟩,
   ⟨.extract 19 (.t 7) 2, none⟩,
   ⟨.mov 4 (.t 17), none⟩,
   ⟨.mov 5 (.t 18), none⟩,
   ⟨.mov 6 (.t 19), none⟩] [0, 1, 3, 7, 0, 16, 48, 112, 255, 511, 1023, 1023, 1023, 2047, 12287, 32767])
  (.seq (.seq (.region [⟨.mov 20 (.t 6), none⟩,
   ⟨.bin 21 0 .neq (.t 20) (.k (.pv (.int .i64 0))), none⟩])
  (.cond (.t 21) (.seq (.region [⟨.mov 22 (.t 0), none⟩,
   ⟨.mov 23 (.t 5), none⟩,
   ⟨.nilck 24 (.t 22), none⟩,
   ⟨.fieldA 25 (.t 24) 2, none⟩,
   ⟨.store 1 (.t 25) (.t 23), none⟩])
  (.seq (.region [⟨.build 26 [.pv (.int .i64 0), .pv (.int .i64 0), .pv (.int .i64 0), .pv (.str [])] [], none⟩,
   ⟨.mov 27 (.t 6), none⟩,
   ⟨.store 4 (.t 2) (.t 26), none⟩,
   ⟨.mov 3 (.t 27), none⟩])
  .ret)) .skip))
  (.seq (.region [⟨.mov 28 (.t 0), none⟩,
   ⟨.nilck 29 (.t 28), none⟩,
   ⟨.fieldA 30 (.t 29) 1, none⟩,
   ⟨.load 31 false 1 (.t 30), none⟩,
   ⟨.mov 32 (.t 5), none⟩,
   ⟨.mov 33 (.t 4), none⟩,
   ⟨.build 34 [.pv (.int .i64 0), .pv (.int .i64 0), .pv (.int .i64 0), .pv (.str [])] [(0, 1, (.k (.pv (.int .i64 11)))), (1, 1, (.t 31)), (2, 1, (.t 32)), (3, 1, (.t 33))], none⟩,
   ⟨.store 4 (.t 2) (.t 34), none⟩,
   ⟨.mov 3 (.k (.pv (.int .i64 0))), none⟩])
  .ret))))⟩
def rf30 : RFn := ⟨8, [⟨false, 4, false, 1, true⟩],
  (.seq (.region [⟨.mov 4 (.k (.pv (.int .i64 0))), none⟩])
  (.seq (.region [⟨.mov 5 (.t 0), none⟩,
   ⟨.mov 6 (.t 1), none⟩,
   ⟨.call (some 7) 39 [(.own, (.t 5)), (.own, (.t 6))], none⟩,
   ⟨.mov 4 (.t 7), none⟩])
  .ret))⟩
def rf31 : RFn := ⟨21, [⟨false, 2, false, 1, true⟩],
  (.seq (.region [⟨.mov 2 (.k (.pv (.bool false))), none⟩])
  (.seq (.region [⟨.mov 3 (.t 0), none⟩,
   ⟨.bin 4 0 .geq (.t 3) (.k (.pv (.int .u8 97))), none⟩,
   ⟨.mov 5 (.t 4), none⟩,
   ⟨.mov 6 (.t 0), some (5, true)⟩,
   ⟨.bin 7 0 .leq (.t 6) (.k (.pv (.int .u8 122))), some (5, true)⟩,
   ⟨.pick 8 (.t 5) (.t 7) (.k (.pv (.bool false))), none⟩,
   ⟨.mov 9 (.t 8), none⟩,
   ⟨.mov 10 (.t 0), some (9, false)⟩,
   ⟨.bin 11 0 .geq (.t 10) (.k (.pv (.int .u8 65))), some (9, false)⟩,
   ⟨.mov 12 (.t 11), some (9, false)⟩,
   ⟨.mov 13 (.t 0), some (12, true)⟩,
   ⟨.bin 14 0 .leq (.t 13) (.k (.pv (.int .u8 90))), some (12, true)⟩,
   ⟨.pick 15 (.t 12) (.t 14) (.k (.pv (.bool false))), some (9, false)⟩,
   ⟨.pick 16 (.t 9) (.k (.pv (.bool true))) (.t 15), none⟩,
   ⟨.mov 17 (.t 16), none⟩,
   ⟨.mov 18 (.t 0), some (17, false)⟩,
   ⟨.bin 19 0 .eql (.t 18) (.k (.pv (.int .u8 95))), some (17, false)⟩,
   ⟨.pick 20 (.t 17) (.k (.pv (.bool true))) (.t 19), none⟩,
   ⟨.mov 2 (.t 20), none⟩])
  .ret))⟩
def rf32 : RFn := ⟨9, [⟨false, 2, false, 1, true⟩],
  (.seq (.region [⟨.mov 2 (.k (.pv (.bool false))), none⟩])
  (.seq (.region [⟨.mov 3 (.t 0), none⟩,
   ⟨.bin 4 0 .geq (.t 3) (.k (.pv (.int .u8 48))), none⟩,
   ⟨.mov 5 (.t 4), none⟩,
   ⟨.mov 6 (.t 0), some (5, true)⟩,
   ⟨.bin 7 0 .leq (.t 6) (.k (.pv (.int .u8 57))), some (5, true)⟩,
   ⟨.pick 8 (.t 5) (.t 7) (.k (.pv (.bool false))), none⟩,
   ⟨.mov 2 (.t 8), none⟩])
  .ret))⟩
def rf33_a0 : LoopAnn := ⟨[0, 1, 4, 5], [], [], [1, 4]⟩
@[simp] theorem rf33_a0_keep : rf33_a0.keep = [0, 1, 4, 5] := rfl
@[simp] theorem rf33_a0_opn : rf33_a0.opn = [] := rfl
@[simp] theorem rf33_a0_grow : rf33_a0.grow = [] := rfl
@[simp] theorem rf33_a0_outs : rf33_a0.outs = [1, 4] := rfl
def rf33_b0 : RCode :=
  (.seq (.seq (.region [⟨.mov 7 (.t 5), none⟩,
   ⟨.bin 8 0 .leq (.t 7) (.k (.pv (.int .i64 4))), none⟩,
   ⟨.mov 9 (.t 8), none⟩,
   ⟨.mov 10 (.t 1), some (9, true)⟩,
   ⟨.mov 11 (.t 5), some (9, true)⟩,
   ⟨.bin 12 0 .add (.t 10) (.t 11), some (9, true)⟩,
   ⟨.mov 13 (.t 0), some (9, true)⟩,
   ⟨.len 14 true (.t 13), some (9, true)⟩,
   ⟨.bin 15 0 .leq (.t 12) (.t 14), some (9, true)⟩,
   ⟨.pick 16 (.t 9) (.t 15) (.k (.pv (.bool false))), none⟩])
  (.cond (.t 16) .skip (.exit 0)))
  (.seq (.block 1 (.seq (.region [⟨.mov 19 (.t 0), none⟩,
   ⟨.mov 20 (.t 1), none⟩,
   ⟨.mov 21 (.t 5), none⟩,
   ⟨.call (some 22) 40 [(.own, (.t 19)), (.own, (.t 20)), (.own, (.t 21))], none⟩,
   ⟨.mov 6 (.t 22), none⟩])
  (.seq (.region [⟨.mov 23 (.t 6), none⟩,
   ⟨.bin 24 0 .geq (.t 23) (.k (.pv (.int .i64 0))), none⟩,
   ⟨.mov 25 (.t 24), none⟩,
   ⟨.mov 26 (.t 0), some (25, true)⟩,
   ⟨.mov 27 (.t 1), some (25, true)⟩,
   ⟨.mov 28 (.t 6), some (25, true)⟩,
   ⟨.call (some 29) 42 [(.own, (.t 28))], some (25, true)⟩,
   ⟨.call (some 30) 41 [(.own, (.t 26)), (.own, (.t 27)), (.frz, (.t 29))], some (25, true)⟩,
   ⟨.pick 31 (.t 25) (.t 30) (.k (.pv (.bool false))), none⟩])
  (.cond (.t 31) (.seq (.region [⟨.mov 32 (.t 1), none⟩,
   ⟨.mov 33 (.t 1), none⟩,
   ⟨.mov 34 (.t 5), none⟩,
   ⟨.bin 35 0 .add (.t 33) (.t 34), none⟩,
   ⟨.mov 36 (.t 6), none⟩,
   ⟨.build 37 [.pv (.int .i64 0), .pv (.int .i64 0), .pv (.int .i64 0), .pv (.bool false)] [(0, 1, (.t 32)), (1, 1, (.t 35)), (2, 1, (.t 36)), (3, 1, (.k (.pv (.bool false))))], none⟩,
   ⟨.store 4 (.t 4) (.t 37), none⟩])
  .ret) .skip))))
  (.region [⟨.mov 17 (.t 5), none⟩,
   ⟨.bin 18 0 .add (.t 17) (.k (.pv (.int .i64 1))), none⟩,
   ⟨.mov 5 (.t 18), none⟩])))
def rf33 : RFn := ⟨42, [⟨true, 4, true, 4, true⟩],
  (.seq (.region [⟨.alloc 4 58 [.pv (.int .i64 0), .pv (.int .i64 0), .pv (.int .i64 0), .pv (.bool false)], none⟩])
  (.seq (.seq (.region [⟨.mov 5 (.k (.pv (.int .i64 1))), none⟩])
  (.block 0 (.loop rf33_a0 rf33_b0)))
  (.seq (.region [⟨.mov 38 (.t 1), none⟩,
   ⟨.mov 39 (.t 1), none⟩,
   ⟨.bin 40 0 .add (.t 39) (.k (.pv (.int .i64 1))), none⟩,
   ⟨.build 41 [.pv (.int .i64 0), .pv (.int .i64 0), .pv (.int .i64 0), .pv (.bool false)] [(0, 1, (.t 38)), (1, 1, (.t 40)), (2, 1, (.k (.pv (.int .i64 65533)))), (3, 1, (.k (.pv (.bool true))))], none⟩,
   ⟨.store 4 (.t 4) (.t 41), none⟩])
  .ret)))⟩
def rf34_a0 : LoopAnn := ⟨[0, 3, 4], [], [], [3]⟩
@[simp] theorem rf34_a0_keep : rf34_a0.keep = [0, 3, 4] := rfl
@[simp] theorem rf34_a0_opn : rf34_a0.opn = [] := rfl
@[simp] theorem rf34_a0_grow : rf34_a0.grow = [] := rfl
@[simp] theorem rf34_a0_outs : rf34_a0.outs = [3] := rfl
def rf34_b0 : RCode :=
  (.seq (.seq (.region [⟨.mov 7 (.t 4), none⟩,
   ⟨.mov 8 (.t 0), none⟩,
   ⟨.len 9 false (.t 8), none⟩,
   ⟨.bin 10 0 .lss (.t 7) (.t 9), none⟩])
  (.cond (.t 10) .skip (.exit 0)))
  (.seq (.block 1 (.seq (.region [⟨.mov 13 (.t 0), none⟩,
   ⟨.mov 14 (.t 4), none⟩,
   ⟨.idxA 15 1 (.t 13) (.t 14), none⟩,
   ⟨.load 16 false 1 (.t 15), none⟩,
   ⟨.call (some 17) 42 [(.own, (.t 16))], none⟩,
   ⟨.mov 5 (.t 17), none⟩])
  (.region [⟨.mov 18 (.t 3), none⟩,
   ⟨.mov 19 (.t 5), none⟩,
   ⟨.app 20 1 1 5 false (.t 18) (.t 19), none⟩,
   ⟨.mov 3 (.t 20), none⟩])))
  (.region [⟨.mov 11 (.t 4), none⟩,
   ⟨.bin 12 0 .add (.t 11) (.k (.pv (.int .i64 1))), none⟩,
   ⟨.mov 4 (.t 12), none⟩])))
def rf34 : RFn := ⟨23, [⟨false, 2, false, 1, true⟩],
  (.seq (.region [⟨.mov 2 (.k (.pv (.str []))), none⟩])
  (.seq (.region [⟨.mksl 6 1 [], none⟩,
   ⟨.mov 3 (.t 6), none⟩])
  (.seq (.seq (.region [⟨.mov 4 (.k (.pv (.int .i64 0))), none⟩])
  (.block 0 (.loop rf34_a0 rf34_b0)))
  (.seq (.region [⟨.mov 21 (.t 3), none⟩,
   ⟨.b2s 22 (.t 21), none⟩,
   ⟨.mov 2 (.t 22), none⟩])
  .ret))))⟩
def rf35 : RFn := ⟨82, [⟨false, 4, false, 1, true⟩, ⟨false, 5, false, 1, true⟩, ⟨false, 6, false, 1, true⟩],
  (.seq (.region [⟨.mov 4 (.k (.pv (.int .i64 0))), none⟩,
   ⟨.mov 5 (.k (.pv (.int .i64 0))), none⟩,
   ⟨.mov 6 (.k (.pv (.int .i64 0))), none⟩])
  (.seq (.seq (.region [⟨.mov 9 (.t 1), none⟩,
   ⟨.bin 10 0 .lss (.t 9) (.k (.pv (.int .i64 0))), none⟩,
   ⟨.mov 11 (.t 10), none⟩,
   ⟨.mov 12 (.t 1), some (11, false)⟩,
   ⟨.mov 13 (.t 0), some (11, false)⟩,
   ⟨.len 14 true (.t 13), some (11, false)⟩,
   ⟨.bin 15 0 .geq (.t 12) (.t 14), some (11, false)⟩,
   ⟨.pick 16 (.t 11) (.k (.pv (.bool true))) (.t 15), none⟩])
  (.cond (.t 16) (.seq (.region [⟨.mov 4 (.k (.pv (.int .i64 0))), none⟩,
   ⟨.mov 5 (.k (.pv (.int .i64 0))), none⟩,
   ⟨.mov 6 (.k (.pv (.int .i64 2))), none⟩])
  .ret) .skip))
  (.seq (.region [⟨.mov 17 (.t 0), none⟩,
   ⟨.mov 18 (.t 1), none⟩,
   ⟨.call (some 19) 43 [(.own, (.t 17)), (.own, (.t 18))], none⟩,
   ⟨.mov 7 (.t 19), none⟩])
  (.seq (.seq (.region [⟨.mov 20 (.t 7), none⟩,
   ⟨.bin 21 0 .lss (.t 20) (.k (.pv (.int .i64 0))), none⟩])
  (.cond (.t 21) (.seq (.seq (.region [⟨.mov 22 (.t 0), none⟩,
   ⟨.mov 23 (.t 1), none⟩,
   ⟨.idx 24 (.t 22) (.t 23), none⟩,
   ⟨.bin 25 0 .eql (.t 24) (.k (.pv (.int .u8 92))), none⟩,
   ⟨.mov 26 (.t 25), none⟩,
   ⟨.mov 27 (.t 1), some (26, true)⟩,
   ⟨.bin 28 0 .add (.t 27) (.k (.pv (.int .i64 1))), some (26, true)⟩,
   ⟨.mov 29 (.t 0), some (26, true)⟩,
   ⟨.len 30 true (.t 29), some (26, true)⟩,
   ⟨.bin 31 0 .lss (.t 28) (.t 30), some (26, true)⟩,
   ⟨.pick 32 (.t 26) (.t 31) (.k (.pv (.bool false))), none⟩,
   ⟨.mov 33 (.t 32), none⟩,
   ⟨.mov 34 (.t 0), some (33, true)⟩,
   ⟨.mov 35 (.t 1), some (33, true)⟩,
   ⟨.bin 36 0 .add (.t 35) (.k (.pv (.int .i64 1))), some (33, true)⟩,
   ⟨.idx 37 (.t 34) (.t 36), some (33, true)⟩,
   ⟨.call (some 38) 44 [(.own, (.t 37))], some (33, true)⟩,
   ⟨.bin 39 0 .geq (.t 38) (.k (.pv (.int .i64 0))), some (33, true)⟩,
   ⟨.pick 40 (.t 33) (.t 39) (.k (.pv (.bool false))), none⟩])
  (.cond (.t 40) (.seq (.region [⟨.mov 41 (.t 0), none⟩,
   ⟨.mov 42 (.t 1), none⟩,
   ⟨.bin 43 0 .add (.t 42) (.k (.pv (.int .i64 1))), none⟩,
   ⟨.idx 44 (.t 41) (.t 43), none⟩,
   ⟨.call (some 45) 44 [(.own, (.t 44))], none⟩,
   ⟨.mov 46 (.t 1), none⟩,
   ⟨.bin 47 0 .add (.t 46) (.k (.pv (.int .i64 2))), none⟩,
   ⟨.mov 4 (.t 45), none⟩,
   ⟨.mov 5 (.t 47), none⟩,
   ⟨.mov 6 (.k (.pv (.int .i64 0))), none⟩])
  .ret) .skip))
  (.seq (.region [⟨.mov 48 (.t 1), none⟩,
   ⟨.mov 4 (.k (.pv (.int .i64 0))), none⟩,
   ⟨.mov 5 (.t 48), none⟩,
   ⟨.mov 6 (.k (.pv (.int .i64 23))), none⟩])
  .ret)) .skip))
  (.seq (.seq (.region [⟨.mov 49 (.t 7), none⟩,
   ⟨.bin 50 0 .lss (.t 49) (.k (.pv (.int .i64 55296))), none⟩,
   ⟨.mov 51 (.t 50), none⟩,
   ⟨.mov 52 (.t 7), some (51, false)⟩,
   ⟨.bin 53 0 .gtr (.t 52) (.k (.pv (.int .i64 57343))), some (51, false)⟩,
   ⟨.pick 54 (.t 51) (.k (.pv (.bool true))) (.t 53), none⟩])
  (.cond (.t 54) (.seq (.region [⟨.mov 55 (.t 7), none⟩,
   ⟨.mov 56 (.t 1), none⟩,
   ⟨.bin 57 0 .add (.t 56) (.k (.pv (.int .i64 6))), none⟩,
   ⟨.mov 4 (.t 55), none⟩,
   ⟨.mov 5 (.t 57), none⟩,
   ⟨.mov 6 (.k (.pv (.int .i64 0))), none⟩])
  .ret) .skip))
  (.seq (.region [⟨.mov 58 (.t 0), none⟩,
   ⟨.mov 59 (.t 1), none⟩,
   ⟨.bin 60 0 .add (.t 59) (.k (.pv (.int .i64 6))), none⟩,
   ⟨.call (some 61) 43 [(.own, (.t 58)), (.own, (.t 60))], none⟩,
   ⟨.mov 8 (.t 61), none⟩])
  (.seq (.seq (.region [⟨.mov 62 (.t 7), none⟩,
   ⟨.bin 63 0 .geq (.t 62) (.k (.pv (.int .i64 56320))), none⟩,
   ⟨.mov 64 (.t 63), none⟩,
   ⟨.mov 65 (.t 8), some (64, false)⟩,
   ⟨.bin 66 0 .lss (.t 65) (.k (.pv (.int .i64 56320))), some (64, false)⟩,
   ⟨.pick 67 (.t 64) (.k (.pv (.bool true))) (.t 66), none⟩,
   ⟨.mov 68 (.t 67), none⟩,
   ⟨.mov 69 (.t 8), some (68, false)⟩,
   ⟨.bin 70 0 .gtr (.t 69) (.k (.pv (.int .i64 57343))), some (68, false)⟩,
   ⟨.pick 71 (.t 68) (.k (.pv (.bool true))) (.t 70), none⟩])
  (.cond (.t 71) (.seq (.region [⟨.mov 72 (.t 1), none⟩,
   ⟨.mov 4 (.k (.pv (.int .i64 0))), none⟩,
   ⟨.mov 5 (.t 72), none⟩,
   ⟨.mov 6 (.k (.pv (.int .i64 24))), none⟩])
  .ret) .skip))
  (.seq (.region [⟨.mov 73 (.t 7), none⟩,
   ⟨.bin 74 0 .sub (.t 73) (.k (.pv (.int .i64 55296))), none⟩,
   ⟨.bin 75 0 .mul (.t 74) (.k (.pv (.int .i64 1024))), none⟩,
   ⟨.bin 76 0 .add (.k (.pv (.int .i64 65536))) (.t 75), none⟩,
   ⟨.mov 77 (.t 8), none⟩,
   ⟨.bin 78 0 .add (.t 76) (.t 77), none⟩,
   ⟨.bin 79 0 .sub (.t 78) (.k (.pv (.int .i64 56320))), none⟩,
   ⟨.mov 80 (.t 1), none⟩,
   ⟨.bin 81 0 .add (.t 80) (.k (.pv (.int .i64 12))), none⟩,
   ⟨.mov 4 (.t 79), none⟩,
   ⟨.mov 5 (.t 81), none⟩,
   ⟨.mov 6 (.k (.pv (.int .i64 0))), none⟩])
  .ret))))))))⟩
def rf36_a0 : LoopAnn := ⟨[0, 1, 5], [], [], [5]⟩
@[simp] theorem rf36_a0_keep : rf36_a0.keep = [0, 1, 5] := rfl
@[simp] theorem rf36_a0_opn : rf36_a0.opn = [] := rfl
@[simp] theorem rf36_a0_grow : rf36_a0.grow = [] := rfl
@[simp] theorem rf36_a0_outs : rf36_a0.outs = [5] := rfl
def rf36_b0 : RCode :=
  (.seq (.seq (.region [⟨.mov 10 (.t 5), none⟩,
   ⟨.mov 11 (.t 0), none⟩,
   ⟨.nilck 12 (.t 11), none⟩,
   ⟨.fieldA 13 (.t 12) 0, none⟩,
   ⟨.load 14 false 1 (.t 13), none⟩,
   ⟨.len 15 true (.t 14), none⟩,
   ⟨.bin 16 0 .lss (.t 10) (.t 15), none⟩,
   ⟨.mov 17 (.t 16), none⟩,
   ⟨.mov 18 (.t 0), some (17, true)⟩,
   ⟨.nilck 19 (.t 18), some (17, true)⟩,
   ⟨.fieldA 20 (.t 19) 0, some (17, true)⟩,
   ⟨.load 21 false 1 (.t 20), some (17, true)⟩,
   ⟨.mov 22 (.t 5), some (17, true)⟩,
   ⟨.idx 23 (.t 21) (.t 22), some (17, true)⟩,
   ⟨.call (some 24) 31 [(.own, (.t 23))], some (17, true)⟩,
   ⟨.mov 25 (.t 24), some (17, true)⟩,
   ⟨.mov 26 (.t 0), some (25, false)⟩,
   ⟨.nilck 27 (.t 26), some (25, false)⟩,
   ⟨.fieldA 28 (.t 27) 0, some (25, false)⟩,
   ⟨.load 29 false 1 (.t 28), some (25, false)⟩,
   ⟨.mov 30 (.t 5), some (25, false)⟩,
   ⟨.idx 31 (.t 29) (.t 30), some (25, false)⟩,
   ⟨.call (some 32) 32 [(.own, (.t 31))], some (25, false)⟩,
   ⟨.pick 33 (.t 25) (.k (.pv (.bool true))) (.t 32), some (17, true)⟩,
   ⟨.mov 34 (.t 33), some (17, true)⟩,
   ⟨.mov 35 (.t 1), some (34, false)⟩,
   ⟨.mov 36 (.t 0), some (34, false)⟩,
   ⟨.nilck 37 (.t 36), some (34, false)⟩,
   ⟨.fieldA 38 (.t 37) 0, some (34, false)⟩,
   ⟨.load 39 false 1 (.t 38), some (34, false)⟩,
   ⟨.mov 40 (.t 5), some (34, false)⟩,
   ⟨.idx 41 (.t 39) (.t 40), some (34, false)⟩,
   ⟨.call (some 42) 30 [(.own, (.t 35)), (.own, (.t 41))], some (34, false)⟩,
   ⟨.bin 43 0 .geq (.t 42) (.k (.pv (.int .i64 0))), some (34, false)⟩,
   ⟨.pick 44 (.t 34) (.k (.pv (.bool true))) (.t 43), some (17, true)⟩,
   ⟨.pick 45 (.t 17) (.t 44) (.k (.pv (.bool false))), none⟩])
  (.cond (.t 45) .skip (.exit 0)))
  (.block 1 (.region [⟨.mov 46 (.t 5), none⟩,
   ⟨.bin 47 0 .add (.t 46) (.k (.pv (.int .i64 1))), none⟩,
   ⟨.mov 5 (.t 47), none⟩])))
def rf36 : RFn := ⟨49, [⟨false, 4, false, 1, true⟩],
  (.seq (.region [⟨.mov 4 (.k (.pv (.int .i64 0))), none⟩])
  (.seq (.region [⟨.mov 6 (.t 0), none⟩,
   ⟨.nilck 7 (.t 6), none⟩,
   ⟨.fieldA 8 (.t 7) 1, none⟩,
   ⟨.load 9 false 1 (.t 8), none⟩,
   ⟨.mov 5 (.t 9), none⟩])
  (.seq (.block 0 (.loop rf36_a0 rf36_b0))
  (.seq (.region [⟨.mov 48 (.t 5), none⟩,
   ⟨.mov 4 (.t 48), none⟩])
  .ret))))⟩
def rf37_a0 : LoopAnn := ⟨[0, 23, 24], [], [], [2]⟩
@[simp] theorem rf37_a0_keep : rf37_a0.keep = [0, 23, 24] := rfl
@[simp] theorem rf37_a0_opn : rf37_a0.opn = [] := rfl
@[simp] theorem rf37_a0_grow : rf37_a0.grow = [] := rfl
@[simp] theorem rf37_a0_outs : rf37_a0.outs = [2] := rfl
def rf37_b0 : RCode :=
  (.seq (.region [⟨.bin 25 0 .lss (.t 24) (.t 23), none⟩])
  (.seq (.cond (.t 25) .skip (.exit 0))
  (.seq (.block 1 (.seq (.region [⟨.mov 26 (.t 24), none⟩,
   ⟨.mov 3 (.t 26), none⟩])
  (.seq (.region [⟨.mov 27 (.t 0), none⟩,
   ⟨.mov 28 (.t 3), none⟩,
   ⟨.idx 29 (.t 27) (.t 28), none⟩,
   ⟨.bin 30 0 .lss (.t 29) (.k (.pv (.int .u8 48))), none⟩,
   ⟨.mov 31 (.t 30), none⟩,
   ⟨.mov 32 (.t 0), some (31, false)⟩,
   ⟨.mov 33 (.t 3), some (31, false)⟩,
   ⟨.idx 34 (.t 32) (.t 33), some (31, false)⟩,
   ⟨.bin 35 0 .gtr (.t 34) (.k (.pv (.int .u8 57))), some (31, false)⟩,
   ⟨.pick 36 (.t 31) (.k (.pv (.bool true))) (.t 35), none⟩])
  (.cond (.t 36) (.seq (.region [⟨.mov 2 (.k (.pv (.bool false))), none⟩])
  .ret) .skip))))
  (.region [⟨.bin 37 0 .add (.t 24) (.k (.pv (.int .i64 1))), none⟩,
   ⟨.mov 24 (.t 37), none⟩]))))
def rf37 : RFn := ⟨38, [⟨false, 2, false, 1, true⟩],
  (.seq (.region [⟨.mov 2 (.k (.pv (.bool false))), none⟩])
  (.seq (.seq (.region [⟨.mov 4 (.t 0), none⟩,
   ⟨.bin 5 0 .eql (.t 4) (.k (.pv (.str [48]))), none⟩])
  (.cond (.t 5) (.seq (.region [⟨.mov 2 (.k (.pv (.bool true))), none⟩])
  .ret) .skip))
  (.seq (.seq (.region [⟨.mov 6 (.t 0), none⟩,
   ⟨.bin 7 0 .neq (.t 6) (.k (.pv (.str []))), none⟩,
   ⟨.mov 8 (.t 7), none⟩,
   ⟨.mov 9 (.t 0), some (8, true)⟩,
   ⟨.idx 10 (.t 9) (.k (.pv (.int .i64 0))), some (8, true)⟩,
   ⟨.bin 11 0 .eql (.t 10) (.k (.pv (.int .u8 45))), some (8, true)⟩,
   ⟨.pick 12 (.t 8) (.t 11) (.k (.pv (.bool false))), none⟩])
  (.cond (.t 12) (.region [⟨.mov 13 (.t 0), none⟩,
   ⟨.sub 14 true 1 (.t 13) (some (.k (.pv (.int .i64 1)))) none, none⟩,
   ⟨.mov 0 (.t 14), none⟩]) .skip))
  (.seq (.seq (.region [⟨.mov 15 (.t 0), none⟩,
   ⟨.bin 16 0 .eql (.t 15) (.k (.pv (.str []))), none⟩,
   ⟨.mov 17 (.t 16), none⟩,
   ⟨.mov 18 (.t 0), some (17, false)⟩,
   ⟨.idx 19 (.t 18) (.k (.pv (.int .i64 0))), some (17, false)⟩,
   ⟨.bin 20 0 .eql (.t 19) (.k (.pv (.int .u8 48))), some (17, false)⟩,
   ⟨.pick 21 (.t 17) (.k (.pv (.bool true))) (.t 20), none⟩])
  (.cond (.t 21) (.seq (.region [⟨.mov 2 (.k (.pv (.bool false))), none⟩])
  .ret) .skip))
  (.seq (.seq (.region [⟨.mov 22 (.t 0), none⟩,
   ⟨.len 23 true (.t 22), none⟩,
   ⟨.mov 24 (.k (.pv (.int .i64 0))), none⟩])
  (.block 0 (.loop rf37_a0 rf37_b0)))
  (.seq (.region [⟨.mov 2 (.k (.pv (.bool true))), none⟩])
  .ret))))))⟩
def rf38_a0 : LoopAnn := ⟨[0, 1, 7], [], [], [0, 4, 5, 6]⟩
@[simp] theorem rf38_a0_keep : rf38_a0.keep = [0, 1, 7] := rfl
@[simp] theorem rf38_a0_opn : rf38_a0.opn = [] := rfl
@[simp] theorem rf38_a0_grow : rf38_a0.grow = [] := rfl
@[simp] theorem rf38_a0_outs : rf38_a0.outs = [0, 4, 5, 6] := rfl
def rf38_b0 : RCode :=
  (.seq (.seq (.region [⟨.mov 31 (.t 1), none⟩,
   ⟨.mov 32 (.t 0), none⟩,
   ⟨.len 33 true (.t 32), none⟩,
   ⟨.bin 34 0 .lss (.t 31) (.t 33), none⟩])
  (.cond (.t 34) .skip (.exit 1)))
  (.block 2 (.seq (.region [⟨.mov 36 (.t 0), none⟩,
   ⟨.mov 37 (.t 1), none⟩,
   ⟨.sub 38 true 1 (.t 36) (some (.t 37)) none, none⟩,
   ⟨.call (some 39) 45 [(.own, (.t 38))], none⟩,
   ⟨.mov 35 (.t 39), none⟩,
   ⟨.extract 40 (.t 35) 0, none⟩,
   ⟨.extract 41 (.t 35) 1, none⟩,
   ⟨.mov 8 (.t 40), none⟩,
   ⟨.mov 9 (.t 41), none⟩])
  (.seq (.block 3 (.seq (.region [⟨.mov 43 (.t 8), none⟩,
   ⟨.bin 44 0 .eql (.t 43) (.k (.pv (.int .i32 34))), none⟩,
   ⟨.mov 42 (.t 44), none⟩])
  (.cond (.t 42) (.seq (.region [⟨.call (some 45) 46 [(.own, (.t 7))], none⟩,
   ⟨.mov 46 (.t 1), none⟩,
   ⟨.bin 47 0 .add (.t 46) (.k (.pv (.int .i64 1))), none⟩,
   ⟨.mov 4 (.t 45), none⟩,
   ⟨.mov 5 (.t 47), none⟩,
   ⟨.mov 6 (.k (.pv (.int .i64 0))), none⟩])
  .ret) (.seq (.region [⟨.mov 49 (.t 8), none⟩,
   ⟨.bin 50 0 .lss (.t 49) (.k (.pv (.int .i32 32))), none⟩,
   ⟨.mov 48 (.t 50), none⟩])
  (.cond (.t 48) (.seq (.region [⟨.mov 51 (.t 1), none⟩,
   ⟨.mov 4 (.k (.pv (.str []))), none⟩,
   ⟨.mov 5 (.t 51), none⟩,
   ⟨.mov 6 (.k (.pv (.int .i64 22))), none⟩])
  .ret) (.seq (.region [⟨.mov 53 (.t 8), none⟩,
   ⟨.bin 54 0 .eql (.t 53) (.k (.pv (.int .i32 65533))), none⟩,
   ⟨.mov 55 (.t 54), none⟩,
   ⟨.mov 56 (.t 9), some (55, true)⟩,
   ⟨.bin 57 0 .eql (.t 56) (.k (.pv (.int .i64 1))), some (55, true)⟩,
   ⟨.pick 58 (.t 55) (.t 57) (.k (.pv (.bool false))), none⟩,
   ⟨.mov 52 (.t 58), none⟩])
  (.cond (.t 52) (.seq (.region [⟨.mov 59 (.t 1), none⟩,
   ⟨.mov 4 (.k (.pv (.str []))), none⟩,
   ⟨.mov 5 (.t 59), none⟩,
   ⟨.mov 6 (.k (.pv (.int .i64 20))), none⟩])
  .ret) (.seq (.region [⟨.mov 61 (.t 8), none⟩,
   ⟨.bin 62 0 .eql (.t 61) (.k (.pv (.int .i32 92))), none⟩,
   ⟨.mov 60 (.t 62), none⟩])
  (.cond (.t 60) (.seq (.region [⟨.mov 64 (.t 0), none⟩,
   ⟨.mov 65 (.t 1), none⟩,
   ⟨.call (some 66) 47 [(.own, (.t 64)), (.own, (.t 65))], none⟩,
   ⟨.mov 63 (.t 66), none⟩,
   ⟨.extract 67 (.t 63) 0, none⟩,
   ⟨.extract 68 (.t 63) 1, none⟩,
   ⟨.extract 69 (.t 63) 2, none⟩,
   ⟨.mov 10 (.t 67), none⟩,
   ⟨.mov 11 (.t 68), none⟩,
   ⟨.mov 12 (.t 69), none⟩])
  (.seq (.seq (.region [⟨.mov 70 (.t 12), none⟩,
   ⟨.bin 71 0 .neq (.t 70) (.k (.pv (.int .i64 0))), none⟩])
  (.cond (.t 71) (.seq (.region [⟨.mov 72 (.t 1), none⟩,
   ⟨.mov 73 (.t 12), none⟩,
   ⟨.mov 4 (.k (.pv (.str []))), none⟩,
   ⟨.mov 5 (.t 72), none⟩,
   ⟨.mov 6 (.t 73), none⟩])
  .ret) .skip))
  (.region [⟨.mov 74 (.t 10), none⟩,
   ⟨.mov 75 (.t 11), none⟩,
   ⟨.mov 76 (.t 1), none⟩,
   ⟨.bin 77 0 .sub (.t 75) (.t 76), none⟩,
   ⟨.mov 8 (.t 74), none⟩,
   ⟨.mov 9 (.t 77), none⟩]))) .skip)))))))))
  (.seq (.region [⟨.mov 78 (.t 8), none⟩,
   ⟨.call (some 79) 48 [(.own, (.t 7)), (.own, (.t 78))], none⟩])
  (.region [⟨.mov 80 (.t 1), none⟩,
   ⟨.mov 81 (.t 9), none⟩,
   ⟨.bin 82 0 .add (.t 80) (.t 81), none⟩,
   ⟨.mov 1 (.t 82), none⟩]))))))
def rf38 : RFn := ⟨85, [⟨false, 4, false, 1, true⟩, ⟨false, 5, false, 1, true⟩, ⟨false, 6, false, 1, true⟩],
  (.seq (.region [⟨.mov 4 (.k (.pv (.str []))), none⟩,
   ⟨.mov 5 (.k (.pv (.int .i64 0))), none⟩,
   ⟨.mov 6 (.k (.pv (.int .i64 0))), none⟩])
  (.seq (.block 0 (.seq (.region [⟨.mov 14 (.t 1), none⟩,
   ⟨.bin 15 0 .lss (.t 14) (.k (.pv (.int .i64 0))), none⟩,
   ⟨.mov 16 (.t 15), none⟩,
   ⟨.mov 17 (.t 1), some (16, false)⟩,
   ⟨.mov 18 (.t 0), some (16, false)⟩,
   ⟨.len 19 true (.t 18), some (16, false)⟩,
   ⟨.bin 20 0 .geq (.t 17) (.t 19), some (16, false)⟩,
   ⟨.pick 21 (.t 16) (.k (.pv (.bool true))) (.t 20), none⟩,
   ⟨.mov 13 (.t 21), none⟩])
  (.cond (.t 13) (.seq (.region [⟨.mov 4 (.k (.pv (.str []))), none⟩,
   ⟨.mov 5 (.k (.pv (.int .i64 0))), none⟩,
   ⟨.mov 6 (.k (.pv (.int .i64 2))), none⟩])
  .ret) (.seq (.region [⟨.mov 23 (.t 0), none⟩,
   ⟨.mov 24 (.t 1), none⟩,
   ⟨.idx 25 (.t 23) (.t 24), none⟩,
   ⟨.bin 26 0 .neq (.t 25) (.k (.pv (.int .u8 34))), none⟩,
   ⟨.mov 22 (.t 26), none⟩])
  (.cond (.t 22) (.seq (.region [⟨.mov 27 (.t 1), none⟩,
   ⟨.mov 4 (.k (.pv (.str []))), none⟩,
   ⟨.mov 5 (.t 27), none⟩,
   ⟨.mov 6 (.k (.pv (.int .i64 21))), none⟩])
  .ret) .skip)))))
  (.seq (.region [⟨.build 28 [.pv .nilp, .nils] [], none⟩,
   ⟨.alloc 7 71 [.pv .nilp, .nils], none⟩,
   ⟨.store 2 (.t 7) (.t 28), none⟩])
  (.seq (.seq (.region [⟨.mov 29 (.t 1), none⟩,
   ⟨.bin 30 0 .add (.t 29) (.k (.pv (.int .i64 1))), none⟩,
   ⟨.mov 1 (.t 30), none⟩])
  (.block 1 (.loop rf38_a0 rf38_b0)))
  (.seq (.region [⟨.mov 83 (.t 0), none⟩,
   ⟨.len 84 true (.t 83), none⟩,
   ⟨.mov 4 (.k (.pv (.str []))), none⟩,
   ⟨.mov 5 (.t 84), none⟩,
   ⟨.mov 6 (.k (.pv (.int .i64 21))), none⟩])
  .ret)))))⟩
def rf39 : RFn := ⟨8, [⟨false, 4, false, 1, true⟩],
  (.seq (.region [⟨.mov 4 (.k (.pv (.int .i64 0))), none⟩])
  (.seq (.region [⟨.mov 5 (.t 0), none⟩,
   ⟨.mov 6 (.t 1), none⟩,
   ⟨.call (some 7) 49 [(.own, (.t 5)), (.own, (.t 6))], none⟩,
   ⟨.mov 4 (.t 7), none⟩])
  .ret))⟩
def rf40_a0 : LoopAnn := ⟨[0, 1, 2, 7, 8], [], [], [2, 6, 7]⟩
@[simp] theorem rf40_a0_keep : rf40_a0.keep = [0, 1, 2, 7, 8] := rfl
@[simp] theorem rf40_a0_opn : rf40_a0.opn = [] := rfl
@[simp] theorem rf40_a0_grow : rf40_a0.grow = [] := rfl
@[simp] theorem rf40_a0_outs : rf40_a0.outs = [2, 6, 7] := rfl
def rf40_b0 : RCode :=
  (.seq (.seq (.region [⟨.mov 28 (.t 8), none⟩,
   ⟨.mov 29 (.t 2), none⟩,
   ⟨.bin 30 0 .lss (.t 28) (.t 29), none⟩])
  (.cond (.t 30) .skip (.exit 0)))
  (.seq (.block 1 (.seq (.region [⟨.mov 33 (.t 0), none⟩,
   ⟨.mov 34 (.t 1), none⟩,
   ⟨.mov 35 (.t 8), none⟩,
   ⟨.bin 36 0 .add (.t 34) (.t 35), none⟩,
   ⟨.idx 37 (.t 33) (.t 36), none⟩,
   ⟨.conv 38 .i64 (.t 37), none⟩,
   ⟨.mov 9 (.t 38), none⟩])
  (.seq (.seq (.region [⟨.mov 39 (.t 9), none⟩,
   ⟨.bin 40 0 .lss (.t 39) (.k (.pv (.int .i64 128))), none⟩,
   ⟨.mov 41 (.t 40), none⟩,
   ⟨.mov 42 (.t 9), some (41, false)⟩,
   ⟨.bin 43 0 .gtr (.t 42) (.k (.pv (.int .i64 191))), some (41, false)⟩,
   ⟨.pick 44 (.t 41) (.k (.pv (.bool true))) (.t 43), none⟩])
  (.cond (.t 44) (.seq (.region [⟨.mov 6 (.k (.pv (.int .i64 (-1)))), none⟩])
  .ret) .skip))
  (.region [⟨.mov 45 (.t 7), none⟩,
   ⟨.bin 46 0 .mul (.k (.pv (.int .i64 64))) (.t 45), none⟩,
   ⟨.mov 47 (.t 9), none⟩,
   ⟨.bin 48 0 .add (.t 46) (.t 47), none⟩,
   ⟨.bin 49 0 .sub (.t 48) (.k (.pv (.int .i64 128))), none⟩,
   ⟨.mov 7 (.t 49), none⟩]))))
  (.region [⟨.mov 31 (.t 8), none⟩,
   ⟨.bin 32 0 .add (.t 31) (.k (.pv (.int .i64 1))), none⟩,
   ⟨.mov 8 (.t 32), none⟩])))
def rf40 : RFn := ⟨60, [⟨false, 6, false, 1, true⟩],
  (.seq (.region [⟨.mov 6 (.k (.pv (.int .i64 0))), none⟩])
  (.seq (.region [⟨.mov 10 (.t 0), none⟩,
   ⟨.mov 11 (.t 1), none⟩,
   ⟨.idx 12 (.t 10) (.t 11), none⟩,
   ⟨.conv 13 .i64 (.t 12), none⟩,
   ⟨.mov 7 (.t 13), none⟩])
  (.seq (.seq (.region [⟨.mov 14 (.t 2), none⟩,
   ⟨.bin 15 0 .eql (.t 14) (.k (.pv (.int .i64 2))), none⟩])
  (.cond (.t 15) (.region [⟨.mov 16 (.t 7), none⟩,
   ⟨.bin 17 0 .sub (.t 16) (.k (.pv (.int .i64 192))), none⟩,
   ⟨.mov 7 (.t 17), none⟩]) .skip))
  (.seq (.seq (.region [⟨.mov 18 (.t 2), none⟩,
   ⟨.bin 19 0 .eql (.t 18) (.k (.pv (.int .i64 3))), none⟩])
  (.cond (.t 19) (.region [⟨.mov 20 (.t 7), none⟩,
   ⟨.bin 21 0 .sub (.t 20) (.k (.pv (.int .i64 224))), none⟩,
   ⟨.mov 7 (.t 21), none⟩]) .skip))
  (.seq (.seq (.region [⟨.mov 22 (.t 2), none⟩,
   ⟨.bin 23 0 .eql (.t 22) (.k (.pv (.int .i64 4))), none⟩])
  (.cond (.t 23) (.region [⟨.mov 24 (.t 7), none⟩,
   ⟨.bin 25 0 .sub (.t 24) (.k (.pv (.int .i64 240))), none⟩,
   ⟨.mov 7 (.t 25), none⟩]) .skip))
  (.seq (.seq (.region [⟨.mov 26 (.t 7), none⟩,
   ⟨.bin 27 0 .lss (.t 26) (.k (.pv (.int .i64 0))), none⟩])
  (.cond (.t 27) (.seq (.region [⟨.mov 6 (.k (.pv (.int .i64 (-1)))), none⟩])
  .ret) .skip))
  (.seq (.seq (.region [⟨.mov 8 (.k (.pv (.int .i64 1))), none⟩])
  (.block 0 (.loop rf40_a0 rf40_b0)))
  (.seq (.seq (.region [⟨.mov 50 (.t 7), none⟩,
   ⟨.call (some 51) 50 [(.own, (.t 50))], none⟩,
   ⟨.un 52 .not (.t 51), none⟩,
   ⟨.mov 53 (.t 52), none⟩,
   ⟨.mov 54 (.t 7), some (53, false)⟩,
   ⟨.call (some 55) 51 [(.own, (.t 54))], some (53, false)⟩,
   ⟨.mov 56 (.t 2), some (53, false)⟩,
   ⟨.bin 57 0 .neq (.t 55) (.t 56), some (53, false)⟩,
   ⟨.pick 58 (.t 53) (.k (.pv (.bool true))) (.t 57), none⟩])
  (.cond (.t 58) (.seq (.region [⟨.mov 6 (.k (.pv (.int .i64 (-1)))), none⟩])
  .ret) .skip))
  (.seq (.region [⟨.mov 59 (.t 7), none⟩,
   ⟨.mov 6 (.t 59), none⟩])
  .ret)))))))))⟩
def rf41_a0 : LoopAnn := ⟨[0, 1, 2, 7], [], [], [6]⟩
@[simp] theorem rf41_a0_keep : rf41_a0.keep = [0, 1, 2, 7] := rfl
@[simp] theorem rf41_a0_opn : rf41_a0.opn = [] := rfl
@[simp] theorem rf41_a0_grow : rf41_a0.grow = [] := rfl
@[simp] theorem rf41_a0_outs : rf41_a0.outs = [6] := rfl
def rf41_b0 : RCode :=
  (.seq (.seq (.region [⟨.mov 15 (.t 7), none⟩,
   ⟨.mov 16 (.t 2), none⟩,
   ⟨.len 17 false (.t 16), none⟩,
   ⟨.bin 18 0 .lss (.t 15) (.t 17), none⟩])
  (.cond (.t 18) .skip (.exit 0)))
  (.seq (.block 1 (.seq (.draw [⟨.mov 21 (.t 0), none⟩,
   ⟨.mov 22 (.t 1), none⟩,
   ⟨.mov 23 (.t 7), none⟩,
   ⟨.bin 24 0 .add (.t 22) (.t 23), none⟩,
   ⟨.idx 25 (.t 21) (.t 24), none⟩,
   ⟨.mov 26 (.t 2), none⟩,
   ⟨.mov 27 (.t 7), none⟩,
   ⟨.idxA 28 1 (.t 26) (.t 27), none⟩,
   ⟨.load 29 false 1 (.t 28), none⟩,
   ⟨.bin 30 0 .neq (.t 25) (.t 29), none⟩] [0, 0, 0, 6, 15, 0, 0, 96, 224, 511])
  (.cond (.t 30) (.seq (.region [⟨.mov 6 (.k (.pv (.bool false))), none⟩])
  .ret) .skip)))
  (.region [⟨.mov 19 (.t 7), none⟩,
   ⟨.bin 20 0 .add (.t 19) (.k (.pv (.int .i64 1))), none⟩,
   ⟨.mov 7 (.t 20), none⟩])))
def rf41 : RFn := ⟨31, [⟨false, 6, false, 1, true⟩],
  (.seq (.region [⟨.mov 6 (.k (.pv (.bool false))), none⟩])
  (.seq (.seq (.region [⟨.mov 8 (.t 1), none⟩,
   ⟨.mov 9 (.t 2), none⟩,
   ⟨.len 10 false (.t 9), none⟩,
   ⟨.bin 11 0 .add (.t 8) (.t 10), none⟩,
   ⟨.mov 12 (.t 0), none⟩,
   ⟨.len 13 true (.t 12), none⟩,
   ⟨.bin 14 0 .gtr (.t 11) (.t 13), none⟩])
  (.cond (.t 14) (.seq (.region [⟨.mov 6 (.k (.pv (.bool false))), none⟩])
  .ret) .skip))
  (.seq (.seq (.region [⟨.mov 7 (.k (.pv (.int .i64 0))), none⟩])
  (.block 0 (.loop rf41_a0 rf41_b0)))
  (.seq (.region [⟨.mov 6 (.k (.pv (.bool true))), none⟩])
  .ret))))⟩
def rf42_a0 : LoopAnn := ⟨[0, 3, 4, 5], [], [], [0, 3, 4]⟩
@[simp] theorem rf42_a0_keep : rf42_a0.keep = [0, 3, 4, 5] := rfl
@[simp] theorem rf42_a0_opn : rf42_a0.opn = [] := rfl
@[simp] theorem rf42_a0_grow : rf42_a0.grow = [] := rfl
@[simp] theorem rf42_a0_outs : rf42_a0.outs = [0, 3, 4] := rfl
def rf42_b0 : RCode :=
  (.seq (.seq (.region [⟨.mov 21 (.t 5), none⟩,
   ⟨.bin 22 0 .gtr (.t 21) (.k (.pv (.int .i64 0))), none⟩])
  (.cond (.t 22) .skip (.exit 0)))
  (.seq (.block 1 (.seq (.region [⟨.mov 25 (.t 4), none⟩,
   ⟨.mov 26 (.t 5), none⟩,
   ⟨.mov 27 (.t 0), none⟩,
   ⟨.bin 28 0 .rem (.t 27) (.k (.pv (.int .i64 64))), none⟩,
   ⟨.bin 29 0 .add (.k (.pv (.int .i64 128))) (.t 28), none⟩,
   ⟨.conv 30 .u8 (.t 29), none⟩,
   ⟨.idxA 31 1 (.t 25) (.t 26), none⟩,
   ⟨.store 1 (.t 31) (.t 30), none⟩])
  (.region [⟨.mov 32 (.t 0), none⟩,
   ⟨.bin 33 0 .quo (.t 32) (.k (.pv (.int .i64 64))), none⟩,
   ⟨.mov 0 (.t 33), none⟩])))
  (.region [⟨.mov 23 (.t 5), none⟩,
   ⟨.bin 24 0 .sub (.t 23) (.k (.pv (.int .i64 1))), none⟩,
   ⟨.mov 5 (.t 24), none⟩])))
def rf42 : RFn := ⟨45, [⟨false, 2, false, 1, true⟩],
  (.seq (.region [⟨.mov 2 (.k (.nils)), none⟩])
  (.seq (.seq (.region [⟨.mov 7 (.t 0), none⟩,
   ⟨.call (some 8) 50 [(.own, (.t 7))], none⟩,
   ⟨.un 9 .not (.t 8), none⟩])
  (.cond (.t 9) (.region [⟨.mov 0 (.k (.pv (.int .i64 65533))), none⟩]) .skip))
  (.seq (.region [⟨.mov 10 (.t 0), none⟩,
   ⟨.call (some 11) 51 [(.own, (.t 10))], none⟩,
   ⟨.mov 3 (.t 11), none⟩])
  (.seq (.seq (.region [⟨.mov 12 (.t 3), none⟩,
   ⟨.bin 13 0 .eql (.t 12) (.k (.pv (.int .i64 1))), none⟩])
  (.cond (.t 13) (.seq (.region [⟨.mov 14 (.t 0), none⟩,
   ⟨.conv 15 .u8 (.t 14), none⟩,
   ⟨.mksl 16 1 [(.t 15)], none⟩,
   ⟨.mov 2 (.t 16), none⟩])
  .ret) .skip))
  (.seq (.region [⟨.mov 17 (.t 3), none⟩,
   ⟨.mk 18 1 [.int .u8 0] (.t 17), none⟩,
   ⟨.mov 4 (.t 18), none⟩])
  (.seq (.seq (.region [⟨.mov 19 (.t 3), none⟩,
   ⟨.bin 20 0 .sub (.t 19) (.k (.pv (.int .i64 1))), none⟩,
   ⟨.mov 5 (.t 20), none⟩])
  (.block 0 (.loop rf42_a0 rf42_b0)))
  (.seq (.region [⟨.mov 6 (.k (.pv (.int .i64 192))), none⟩])
  (.seq (.seq (.region [⟨.mov 34 (.t 3), none⟩,
   ⟨.bin 35 0 .eql (.t 34) (.k (.pv (.int .i64 3))), none⟩])
  (.cond (.t 35) (.region [⟨.mov 6 (.k (.pv (.int .i64 224))), none⟩]) .skip))
  (.seq (.seq (.region [⟨.mov 36 (.t 3), none⟩,
   ⟨.bin 37 0 .eql (.t 36) (.k (.pv (.int .i64 4))), none⟩])
  (.cond (.t 37) (.region [⟨.mov 6 (.k (.pv (.int .i64 240))), none⟩]) .skip))
  (.seq (.region [⟨.mov 38 (.t 4), none⟩,
   ⟨.mov 39 (.t 6), none⟩,
   ⟨.mov 40 (.t 0), none⟩,
   ⟨.bin 41 0 .add (.t 39) (.t 40), none⟩,
   ⟨.conv 42 .u8 (.t 41), none⟩,
   ⟨.idxA 43 1 (.t 38) (.k (.pv (.int .i64 0))), none⟩,
   ⟨.store 1 (.t 43) (.t 42), none⟩])
  (.seq (.region [⟨.mov 44 (.t 4), none⟩,
   ⟨.mov 2 (.t 44), none⟩])
  .ret)))))))))))⟩
def rf43_a0 : LoopAnn := ⟨[0, 1, 5, 6], [], [], [4, 5]⟩
@[simp] theorem rf43_a0_keep : rf43_a0.keep = [0, 1, 5, 6] := rfl
@[simp] theorem rf43_a0_opn : rf43_a0.opn = [] := rfl
@[simp] theorem rf43_a0_grow : rf43_a0.grow = [] := rfl
@[simp] theorem rf43_a0_outs : rf43_a0.outs = [4, 5] := rfl
def rf43_b0 : RCode :=
  (.seq (.seq (.region [⟨.mov 26 (.t 6), none⟩,
   ⟨.bin 27 0 .lss (.t 26) (.k (.pv (.int .i64 6))), none⟩])
  (.cond (.t 27) .skip (.exit 0)))
  (.seq (.block 1 (.seq (.region [⟨.mov 30 (.t 0), none⟩,
   ⟨.mov 31 (.t 1), none⟩,
   ⟨.mov 32 (.t 6), none⟩,
   ⟨.bin 33 0 .add (.t 31) (.t 32), none⟩,
   ⟨.idx 34 (.t 30) (.t 33), none⟩,
   ⟨.call (some 35) 52 [(.own, (.t 34))], none⟩,
   ⟨.mov 7 (.t 35), none⟩])
  (.seq (.seq (.region [⟨.mov 36 (.t 7), none⟩,
   ⟨.bin 37 0 .lss (.t 36) (.k (.pv (.int .i64 0))), none⟩])
  (.cond (.t 37) (.seq (.region [⟨.mov 4 (.k (.pv (.int .i64 (-1)))), none⟩])
  .ret) .skip))
  (.region [⟨.mov 38 (.t 5), none⟩,
   ⟨.bin 39 0 .mul (.k (.pv (.int .i64 16))) (.t 38), none⟩,
   ⟨.mov 40 (.t 7), none⟩,
   ⟨.bin 41 0 .add (.t 39) (.t 40), none⟩,
   ⟨.mov 5 (.t 41), none⟩]))))
  (.region [⟨.mov 28 (.t 6), none⟩,
   ⟨.bin 29 0 .add (.t 28) (.k (.pv (.int .i64 1))), none⟩,
   ⟨.mov 6 (.t 29), none⟩])))
def rf43 : RFn := ⟨43, [⟨false, 4, false, 1, true⟩],
  (.seq (.region [⟨.mov 4 (.k (.pv (.int .i64 0))), none⟩])
  (.seq (.seq (.region [⟨.mov 8 (.t 1), none⟩,
   ⟨.bin 9 0 .add (.t 8) (.k (.pv (.int .i64 6))), none⟩,
   ⟨.mov 10 (.t 0), none⟩,
   ⟨.len 11 true (.t 10), none⟩,
   ⟨.bin 12 0 .gtr (.t 9) (.t 11), none⟩,
   ⟨.mov 13 (.t 12), none⟩,
   ⟨.mov 14 (.t 0), some (13, false)⟩,
   ⟨.mov 15 (.t 1), some (13, false)⟩,
   ⟨.idx 16 (.t 14) (.t 15), some (13, false)⟩,
   ⟨.bin 17 0 .neq (.t 16) (.k (.pv (.int .u8 92))), some (13, false)⟩,
   ⟨.pick 18 (.t 13) (.k (.pv (.bool true))) (.t 17), none⟩,
   ⟨.mov 19 (.t 18), none⟩,
   ⟨.mov 20 (.t 0), some (19, false)⟩,
   ⟨.mov 21 (.t 1), some (19, false)⟩,
   ⟨.bin 22 0 .add (.t 21) (.k (.pv (.int .i64 1))), some (19, false)⟩,
   ⟨.idx 23 (.t 20) (.t 22), some (19, false)⟩,
   ⟨.bin 24 0 .neq (.t 23) (.k (.pv (.int .u8 117))), some (19, false)⟩,
   ⟨.pick 25 (.t 19) (.k (.pv (.bool true))) (.t 24), none⟩])
  (.cond (.t 25) (.seq (.region [⟨.mov 4 (.k (.pv (.int .i64 (-1)))), none⟩])
  .ret) .skip))
  (.seq (.region [⟨.mov 5 (.k (.pv (.int .i64 0))), none⟩])
  (.seq (.seq (.region [⟨.mov 6 (.k (.pv (.int .i64 2))), none⟩])
  (.block 0 (.loop rf43_a0 rf43_b0)))
  (.seq (.region [⟨.mov 42 (.t 5), none⟩,
   ⟨.mov 4 (.t 42), none⟩])
  .ret)))))⟩
def rf44_a0 : LoopAnn := ⟨[0, 3], [], [], [2]⟩
@[simp] theorem rf44_a0_keep : rf44_a0.keep = [0, 3] := rfl
@[simp] theorem rf44_a0_opn : rf44_a0.opn = [] := rfl
@[simp] theorem rf44_a0_grow : rf44_a0.grow = [] := rfl
@[simp] theorem rf44_a0_outs : rf44_a0.outs = [2] := rfl
def rf44_b0 : RCode :=
  (.seq (.seq (.region [⟨.mov 6 (.t 3), none⟩,
   ⟨.bin 7 0 .lss (.t 6) (.k (.pv (.int .i64 128))), none⟩])
  (.cond (.t 7) .skip (.exit 0)))
  (.seq (.block 1 (.seq (.region [⟨.mov 10 (.t 3), none⟩,
   ⟨.call (some 11) 53 [(.own, (.t 10))], none⟩,
   ⟨.mov 12 (.t 0), none⟩,
   ⟨.bin 13 0 .eql (.t 11) (.t 12), none⟩,
   ⟨.mov 14 (.t 13), none⟩,
   ⟨.mov 15 (.t 0), some (14, true)⟩,
   ⟨.bin 16 0 .neq (.t 15) (.k (.pv (.int .u8 0))), some (14, true)⟩,
   ⟨.pick 17 (.t 14) (.t 16) (.k (.pv (.bool false))), none⟩])
  (.cond (.t 17) (.seq (.region [⟨.mov 18 (.t 3), none⟩,
   ⟨.mov 2 (.t 18), none⟩])
  .ret) .skip)))
  (.region [⟨.mov 8 (.t 3), none⟩,
   ⟨.bin 9 0 .add (.t 8) (.k (.pv (.int .i64 1))), none⟩,
   ⟨.mov 3 (.t 9), none⟩])))
def rf44 : RFn := ⟨19, [⟨false, 2, false, 1, true⟩],
  (.seq (.region [⟨.mov 2 (.k (.pv (.int .i64 0))), none⟩])
  (.seq (.seq (.region [⟨.mov 4 (.t 0), none⟩,
   ⟨.bin 5 0 .eql (.t 4) (.k (.pv (.int .u8 47))), none⟩])
  (.cond (.t 5) (.seq (.region [⟨.mov 2 (.k (.pv (.int .i64 47))), none⟩])
  .ret) .skip))
  (.seq (.seq (.region [⟨.mov 3 (.k (.pv (.int .i64 0))), none⟩])
  (.block 0 (.loop rf44_a0 rf44_b0)))
  (.seq (.region [⟨.mov 2 (.k (.pv (.int .i64 (-1)))), none⟩])
  .ret))))⟩
def rf45 : RFn := ⟨19, [⟨false, 2, false, 1, true⟩, ⟨false, 3, false, 1, true⟩],
  (.seq (.region [⟨.mov 2 (.k (.pv (.int .i32 0))), none⟩,
   ⟨.mov 3 (.k (.pv (.int .i64 0))), none⟩])
  (.seq (.seq (.region [⟨.mov 4 (.t 0), none⟩,
   ⟨.bin 5 0 .neq (.t 4) (.k (.pv (.str []))), none⟩,
   ⟨.mov 6 (.t 5), none⟩,
   ⟨.mov 7 (.t 0), some (6, true)⟩,
   ⟨.idx 8 (.t 7) (.k (.pv (.int .i64 0))), some (6, true)⟩,
   ⟨.bin 9 0 .lss (.t 8) (.k (.pv (.int .u8 128))), some (6, true)⟩,
   ⟨.pick 10 (.t 6) (.t 9) (.k (.pv (.bool false))), none⟩])
  (.cond (.t 10) (.seq (.region [⟨.mov 11 (.t 0), none⟩,
   ⟨.idx 12 (.t 11) (.k (.pv (.int .i64 0))), none⟩,
   ⟨.conv 13 .i32 (.t 12), none⟩,
   ⟨.mov 2 (.t 13), none⟩,
   ⟨.mov 3 (.k (.pv (.int .i64 1))), none⟩])
  .ret) (.region [⟨.mov 15 (.t 0), none⟩,
   ⟨.call (some 16) 54 [(.own, (.t 15))], none⟩,
   ⟨.mov 14 (.t 16), none⟩,
   ⟨.extract 17 (.t 14) 0, none⟩,
   ⟨.extract 18 (.t 14) 1, none⟩,
   ⟨.mov 2 (.t 17), none⟩,
   ⟨.mov 3 (.t 18), none⟩])))
  .ret))⟩
def rf47 : RFn := ⟨77, [⟨false, 4, false, 1, true⟩, ⟨false, 5, false, 1, true⟩, ⟨false, 6, false, 1, true⟩],
  (.seq (.region [⟨.mov 4 (.k (.pv (.int .i32 0))), none⟩,
   ⟨.mov 5 (.k (.pv (.int .i64 0))), none⟩,
   ⟨.mov 6 (.k (.pv (.int .i64 0))), none⟩])
  (.seq (.seq (.region [⟨.mov 9 (.t 1), none⟩,
   ⟨.bin 10 0 .lss (.t 9) (.k (.pv (.int .i64 0))), none⟩,
   ⟨.mov 11 (.t 10), none⟩,
   ⟨.mov 12 (.t 1), some (11, false)⟩,
   ⟨.mov 13 (.t 0), some (11, false)⟩,
   ⟨.len 14 true (.t 13), some (11, false)⟩,
   ⟨.bin 15 0 .geq (.t 12) (.t 14), some (11, false)⟩,
   ⟨.pick 16 (.t 11) (.k (.pv (.bool true))) (.t 15), none⟩])
  (.cond (.t 16) (.seq (.region [⟨.mov 4 (.k (.pv (.int .i32 0))), none⟩,
   ⟨.mov 5 (.k (.pv (.int .i64 0))), none⟩,
   ⟨.mov 6 (.k (.pv (.int .i64 2))), none⟩])
  .ret) .skip))
  (.seq (.region [⟨.mov 17 (.t 0), none⟩,
   ⟨.mov 18 (.t 1), none⟩,
   ⟨.sub 19 true 1 (.t 17) (some (.t 18)) none, none⟩,
   ⟨.mov 0 (.t 19), none⟩])
  (.seq (.region [⟨.mov 20 (.t 0), none⟩,
   ⟨.call (some 21) 55 [(.own, (.t 20))], none⟩,
   ⟨.mov 7 (.t 21), none⟩])
  (.seq (.block 0 (.seq (.region [⟨.mov 23 (.t 7), none⟩,
   ⟨.bin 24 0 .lss (.t 23) (.k (.pv (.int .i32 0))), none⟩,
   ⟨.mov 25 (.t 24), none⟩,
   ⟨.mov 26 (.t 0), some (25, true)⟩,
   ⟨.len 27 true (.t 26), some (25, true)⟩,
   ⟨.bin 28 0 .lss (.t 27) (.k (.pv (.int .i64 2))), some (25, true)⟩,
   ⟨.mov 29 (.t 28), some (25, true)⟩,
   ⟨.mov 30 (.t 0), some (29, false)⟩,
   ⟨.idx 31 (.t 30) (.k (.pv (.int .i64 0))), some (29, false)⟩,
   ⟨.bin 32 0 .neq (.t 31) (.k (.pv (.int .u8 92))), some (29, false)⟩,
   ⟨.pick 33 (.t 29) (.k (.pv (.bool true))) (.t 32), some (25, true)⟩,
   ⟨.mov 34 (.t 33), some (25, true)⟩,
   ⟨.mov 35 (.t 0), some (34, false)⟩,
   ⟨.idx 36 (.t 35) (.k (.pv (.int .i64 1))), some (34, false)⟩,
   ⟨.call (some 37) 56 [(.own, (.t 36))], some (34, false)⟩,
   ⟨.bin 38 0 .lss (.t 37) (.k (.pv (.int .i32 0))), some (34, false)⟩,
   ⟨.pick 39 (.t 34) (.k (.pv (.bool true))) (.t 38), some (25, true)⟩,
   ⟨.pick 40 (.t 25) (.t 39) (.k (.pv (.bool false))), none⟩,
   ⟨.mov 22 (.t 40), none⟩])
  (.cond (.t 22) (.seq (.region [⟨.mov 41 (.t 1), none⟩,
   ⟨.mov 4 (.k (.pv (.int .i32 0))), none⟩,
   ⟨.mov 5 (.t 41), none⟩,
   ⟨.mov 6 (.k (.pv (.int .i64 23))), none⟩])
  .ret) (.seq (.region [⟨.mov 43 (.t 7), none⟩,
   ⟨.bin 44 0 .lss (.t 43) (.k (.pv (.int .i32 0))), none⟩,
   ⟨.mov 42 (.t 44), none⟩])
  (.cond (.t 42) (.seq (.region [⟨.mov 45 (.t 0), none⟩,
   ⟨.idx 46 (.t 45) (.k (.pv (.int .i64 1))), none⟩,
   ⟨.call (some 47) 56 [(.own, (.t 46))], none⟩,
   ⟨.mov 48 (.t 1), none⟩,
   ⟨.bin 49 0 .add (.t 48) (.k (.pv (.int .i64 2))), none⟩,
   ⟨.mov 4 (.t 47), none⟩,
   ⟨.mov 5 (.t 49), none⟩,
   ⟨.mov 6 (.k (.pv (.int .i64 0))), none⟩])
  .ret) (.seq (.region [⟨.mov 51 (.t 7), none⟩,
   ⟨.call (some 52) 57 [(.own, (.t 51))], none⟩,
   ⟨.mov 50 (.t 52), none⟩])
  (.cond (.t 50) (.seq (.region [⟨.mov 53 (.t 1), none⟩,
   ⟨.mov 4 (.k (.pv (.int .i32 0))), none⟩,
   ⟨.mov 5 (.t 53), none⟩,
   ⟨.mov 6 (.k (.pv (.int .i64 24))), none⟩])
  .ret) (.seq (.region [⟨.mov 55 (.t 7), none⟩,
   ⟨.call (some 56) 58 [(.own, (.t 55))], none⟩,
   ⟨.un 57 .not (.t 56), none⟩,
   ⟨.mov 54 (.t 57), none⟩])
  (.cond (.t 54) (.seq (.region [⟨.mov 58 (.t 7), none⟩,
   ⟨.mov 59 (.t 1), none⟩,
   ⟨.bin 60 0 .add (.t 59) (.k (.pv (.int .i64 6))), none⟩,
   ⟨.mov 4 (.t 58), none⟩,
   ⟨.mov 5 (.t 60), none⟩,
   ⟨.mov 6 (.k (.pv (.int .i64 0))), none⟩])
  .ret) .skip)))))))))
  (.seq (.region [⟨.mov 61 (.t 0), none⟩,
   ⟨.sub 62 true 1 (.t 61) (some (.k (.pv (.int .i64 6)))) none, none⟩,
   ⟨.call (some 63) 55 [(.own, (.t 62))], none⟩,
   ⟨.mov 8 (.t 63), none⟩])
  (.seq (.seq (.region [⟨.mov 64 (.t 8), none⟩,
   ⟨.call (some 65) 57 [(.own, (.t 64))], none⟩,
   ⟨.un 66 .not (.t 65), none⟩])
  (.cond (.t 66) (.seq (.region [⟨.mov 67 (.t 1), none⟩,
   ⟨.mov 4 (.k (.pv (.int .i32 0))), none⟩,
   ⟨.mov 5 (.t 67), none⟩,
   ⟨.mov 6 (.k (.pv (.int .i64 24))), none⟩])
  .ret) .skip))
  (.seq (.region [⟨.mov 68 (.t 7), none⟩,
   ⟨.bin 69 0 .sub (.t 68) (.k (.pv (.int .i32 55296))), none⟩,
   ⟨.bin 70 0 .shl (.t 69) (.k (.pv (.int .u64 10))), none⟩,
   ⟨.bin 71 0 .add (.k (.pv (.int .i32 65536))) (.t 70), none⟩,
   ⟨.mov 72 (.t 8), none⟩,
   ⟨.bin 73 0 .sub (.t 72) (.k (.pv (.int .i32 56320))), none⟩,
   ⟨.bin 74 0 .add (.t 71) (.t 73), none⟩,
   ⟨.mov 75 (.t 1), none⟩,
   ⟨.bin 76 0 .add (.t 75) (.k (.pv (.int .i64 12))), none⟩,
   ⟨.mov 4 (.t 74), none⟩,
   ⟨.mov 5 (.t 76), none⟩,
   ⟨.mov 6 (.k (.pv (.int .i64 0))), none⟩])
  .ret))))))))⟩
def rf48 : RFn := ⟨30, [⟨false, 4, false, 1, true⟩, ⟨false, 5, false, 1, false⟩],
  (.seq (.region [⟨.mov 4 (.k (.pv (.int .i64 0))), none⟩,
   ⟨.mov 5 (.k (.pv .nili)), none⟩])
  (.seq (.region [⟨.mov 7 (.t 0), none⟩,
   ⟨.call (some 8) 59 [(.own, (.t 7))], none⟩])
  (.seq (.region [⟨.mov 9 (.t 0), none⟩,
   ⟨.nilck 10 (.t 9), none⟩,
   ⟨.fieldA 11 (.t 10) 1, none⟩,
   ⟨.load 12 false 1 (.t 11), none⟩,
   ⟨.len 13 false (.t 12), none⟩,
   ⟨.mov 6 (.t 13), none⟩])
  (.seq (.region [⟨.mov 14 (.t 0), none⟩,
   ⟨.mov 15 (.t 0), none⟩,
   ⟨.nilck 16 (.t 15), none⟩,
   ⟨.fieldA 17 (.t 16) 1, none⟩,
   ⟨.load 18 false 1 (.t 17), none⟩,
   ⟨.mov 19 (.t 1), none⟩,
   ⟨.call (some 20) 60 [(.own, (.t 18)), (.own, (.t 19))], none⟩,
   ⟨.nilck 21 (.t 14), none⟩,
   ⟨.fieldA 22 (.t 21) 1, none⟩,
   ⟨.store 1 (.t 22) (.t 20), none⟩])
  (.seq (.region [⟨.mov 23 (.t 0), none⟩,
   ⟨.nilck 24 (.t 23), none⟩,
   ⟨.fieldA 25 (.t 24) 1, none⟩,
   ⟨.load 26 false 1 (.t 25), none⟩,
   ⟨.len 27 false (.t 26), none⟩,
   ⟨.mov 28 (.t 6), none⟩,
   ⟨.bin 29 0 .sub (.t 27) (.t 28), none⟩,
   ⟨.mov 4 (.t 29), none⟩,
   ⟨.mov 5 (.k (.pv .nili)), none⟩])
  .ret)))))⟩
def rf50 : RFn := ⟨17, [⟨false, 2, false, 1, true⟩],
  (.seq (.region [⟨.mov 2 (.k (.pv (.bool false))), none⟩])
  (.seq (.region [⟨.mov 3 (.t 0), none⟩,
   ⟨.bin 4 0 .geq (.t 3) (.k (.pv (.int .i64 0))), none⟩,
   ⟨.mov 5 (.t 4), none⟩,
   ⟨.mov 6 (.t 0), some (5, true)⟩,
   ⟨.bin 7 0 .leq (.t 6) (.k (.pv (.int .i64 1114111))), some (5, true)⟩,
   ⟨.pick 8 (.t 5) (.t 7) (.k (.pv (.bool false))), none⟩,
   ⟨.mov 9 (.t 8), none⟩,
   ⟨.mov 10 (.t 0), some (9, true)⟩,
   ⟨.bin 11 0 .lss (.t 10) (.k (.pv (.int .i64 55296))), some (9, true)⟩,
   ⟨.mov 12 (.t 11), some (9, true)⟩,
   ⟨.mov 13 (.t 0), some (12, false)⟩,
   ⟨.bin 14 0 .gtr (.t 13) (.k (.pv (.int .i64 57343))), some (12, false)⟩,
   ⟨.pick 15 (.t 12) (.k (.pv (.bool true))) (.t 14), some (9, true)⟩,
   ⟨.pick 16 (.t 9) (.t 15) (.k (.pv (.bool false))), none⟩,
   ⟨.mov 2 (.t 16), none⟩])
  .ret))⟩
def rf51 : RFn := ⟨9, [⟨false, 2, false, 1, true⟩],
  (.seq (.region [⟨.mov 2 (.k (.pv (.int .i64 0))), none⟩])
  (.seq (.seq (.region [⟨.mov 3 (.t 0), none⟩,
   ⟨.bin 4 0 .lss (.t 3) (.k (.pv (.int .i64 128))), none⟩])
  (.cond (.t 4) (.seq (.region [⟨.mov 2 (.k (.pv (.int .i64 1))), none⟩])
  .ret) .skip))
  (.seq (.seq (.region [⟨.mov 5 (.t 0), none⟩,
   ⟨.bin 6 0 .lss (.t 5) (.k (.pv (.int .i64 2048))), none⟩])
  (.cond (.t 6) (.seq (.region [⟨.mov 2 (.k (.pv (.int .i64 2))), none⟩])
  .ret) .skip))
  (.seq (.seq (.region [⟨.mov 7 (.t 0), none⟩,
   ⟨.bin 8 0 .lss (.t 7) (.k (.pv (.int .i64 65536))), none⟩])
  (.cond (.t 8) (.seq (.region [⟨.mov 2 (.k (.pv (.int .i64 3))), none⟩])
  .ret) .skip))
  (.seq (.region [⟨.mov 2 (.k (.pv (.int .i64 4))), none⟩])
  .ret)))))⟩
def rf52 : RFn := ⟨32, [⟨false, 2, false, 1, true⟩],
  (.seq (.region [⟨.mov 2 (.k (.pv (.int .i64 0))), none⟩])
  (.seq (.seq (.region [⟨.mov 3 (.t 0), none⟩,
   ⟨.bin 4 0 .geq (.t 3) (.k (.pv (.int .u8 48))), none⟩,
   ⟨.mov 5 (.t 4), none⟩,
   ⟨.mov 6 (.t 0), some (5, true)⟩,
   ⟨.bin 7 0 .leq (.t 6) (.k (.pv (.int .u8 57))), some (5, true)⟩,
   ⟨.pick 8 (.t 5) (.t 7) (.k (.pv (.bool false))), none⟩])
  (.cond (.t 8) (.seq (.region [⟨.mov 9 (.t 0), none⟩,
   ⟨.conv 10 .i64 (.t 9), none⟩,
   ⟨.bin 11 0 .sub (.t 10) (.k (.pv (.int .i64 48))), none⟩,
   ⟨.mov 2 (.t 11), none⟩])
  .ret) .skip))
  (.seq (.seq (.region [⟨.mov 12 (.t 0), none⟩,
   ⟨.bin 13 0 .geq (.t 12) (.k (.pv (.int .u8 97))), none⟩,
   ⟨.mov 14 (.t 13), none⟩,
   ⟨.mov 15 (.t 0), some (14, true)⟩,
   ⟨.bin 16 0 .leq (.t 15) (.k (.pv (.int .u8 102))), some (14, true)⟩,
   ⟨.pick 17 (.t 14) (.t 16) (.k (.pv (.bool false))), none⟩])
  (.cond (.t 17) (.seq (.region [⟨.mov 18 (.t 0), none⟩,
   ⟨.conv 19 .i64 (.t 18), none⟩,
   ⟨.bin 20 0 .sub (.t 19) (.k (.pv (.int .i64 97))), none⟩,
   ⟨.bin 21 0 .add (.t 20) (.k (.pv (.int .i64 10))), none⟩,
   ⟨.mov 2 (.t 21), none⟩])
  .ret) .skip))
  (.seq (.seq (.region [⟨.mov 22 (.t 0), none⟩,
   ⟨.bin 23 0 .geq (.t 22) (.k (.pv (.int .u8 65))), none⟩,
   ⟨.mov 24 (.t 23), none⟩,
   ⟨.mov 25 (.t 0), some (24, true)⟩,
   ⟨.bin 26 0 .leq (.t 25) (.k (.pv (.int .u8 70))), some (24, true)⟩,
   ⟨.pick 27 (.t 24) (.t 26) (.k (.pv (.bool false))), none⟩])
  (.cond (.t 27) (.seq (.region [⟨.mov 28 (.t 0), none⟩,
   ⟨.conv 29 .i64 (.t 28), none⟩,
   ⟨.bin 30 0 .sub (.t 29) (.k (.pv (.int .i64 65))), none⟩,
   ⟨.bin 31 0 .add (.t 30) (.k (.pv (.int .i64 10))), none⟩,
   ⟨.mov 2 (.t 31), none⟩])
  .ret) .skip))
  (.seq (.region [⟨.mov 2 (.k (.pv (.int .i64 (-1)))), none⟩])
  .ret)))))⟩
def rf53 : RFn := ⟨18, [⟨false, 2, false, 1, true⟩],
  (.seq (.region [⟨.mov 2 (.k (.pv (.int .u8 0))), none⟩])
  (.seq (.seq (.region [⟨.mov 3 (.t 0), none⟩])
  (.block 0 (.seq (.region [⟨.bin 5 0 .eql (.t 3) (.k (.pv (.int .i64 34))), none⟩,
   ⟨.mov 4 (.t 5), none⟩])
  (.cond (.t 4) (.seq (.region [⟨.mov 2 (.k (.pv (.int .u8 34))), none⟩])
  .ret) (.seq (.region [⟨.bin 7 0 .eql (.t 3) (.k (.pv (.int .i64 92))), none⟩,
   ⟨.mov 6 (.t 7), none⟩])
  (.cond (.t 6) (.seq (.region [⟨.mov 2 (.k (.pv (.int .u8 92))), none⟩])
  .ret) (.seq (.region [⟨.bin 9 0 .eql (.t 3) (.k (.pv (.int .i64 8))), none⟩,
   ⟨.mov 8 (.t 9), none⟩])
  (.cond (.t 8) (.seq (.region [⟨.mov 2 (.k (.pv (.int .u8 98))), none⟩])
  .ret) (.seq (.region [⟨.bin 11 0 .eql (.t 3) (.k (.pv (.int .i64 12))), none⟩,
   ⟨.mov 10 (.t 11), none⟩])
  (.cond (.t 10) (.seq (.region [⟨.mov 2 (.k (.pv (.int .u8 102))), none⟩])
  .ret) (.seq (.region [⟨.bin 13 0 .eql (.t 3) (.k (.pv (.int .i64 10))), none⟩,
   ⟨.mov 12 (.t 13), none⟩])
  (.cond (.t 12) (.seq (.region [⟨.mov 2 (.k (.pv (.int .u8 110))), none⟩])
  .ret) (.seq (.region [⟨.bin 15 0 .eql (.t 3) (.k (.pv (.int .i64 13))), none⟩,
   ⟨.mov 14 (.t 15), none⟩])
  (.cond (.t 14) (.seq (.region [⟨.mov 2 (.k (.pv (.int .u8 114))), none⟩])
  .ret) (.seq (.region [⟨.bin 17 0 .eql (.t 3) (.k (.pv (.int .i64 9))), none⟩,
   ⟨.mov 16 (.t 17), none⟩])
  (.cond (.t 16) (.seq (.region [⟨.mov 2 (.k (.pv (.int .u8 116))), none⟩])
  .ret) .skip))))))))))))))))
  (.seq (.region [⟨.mov 2 (.k (.pv (.int .u8 0))), none⟩])
  .ret)))⟩
def rf54 : RFn := ⟨117, [⟨false, 2, false, 1, true⟩, ⟨false, 3, false, 1, true⟩],
  (.seq (.region [⟨.mov 2 (.k (.pv (.int .i32 0))), none⟩,
   ⟨.mov 3 (.k (.pv (.int .i64 0))), none⟩])
  (.seq (.region [⟨.mov 13 (.t 0), none⟩,
   ⟨.len 14 true (.t 13), none⟩,
   ⟨.mov 4 (.t 14), none⟩])
  (.seq (.seq (.region [⟨.mov 15 (.t 4), none⟩,
   ⟨.bin 16 0 .lss (.t 15) (.k (.pv (.int .i64 1))), none⟩])
  (.cond (.t 16) (.seq (.region [⟨.mov 2 (.k (.pv (.int .i32 65533))), none⟩,
   ⟨.mov 3 (.k (.pv (.int .i64 0))), none⟩])
  .ret) .skip))
  (.seq (.region [⟨.mov 17 (.t 0), none⟩,
   ⟨.idx 18 (.t 17) (.k (.pv (.int .i64 0))), none⟩,
   ⟨.mov 5 (.t 18), none⟩])
  (.seq (.region [⟨.mov 19 (.t 5), none⟩,
   ⟨.idxP 20 1 256 (.g 1) (.t 19), none⟩,
   ⟨.load 21 false 1 (.t 20), none⟩,
   ⟨.mov 6 (.t 21), none⟩])
  (.seq (.seq (.region [⟨.mov 22 (.t 6), none⟩,
   ⟨.bin 23 0 .geq (.t 22) (.k (.pv (.int .u8 240))), none⟩])
  (.cond (.t 23) (.seq (.region [⟨.mov 24 (.t 6), none⟩,
   ⟨.conv 25 .i32 (.t 24), none⟩,
   ⟨.bin 26 0 .shl (.t 25) (.k (.pv (.int .u64 31))), none⟩,
   ⟨.bin 27 0 .shr (.t 26) (.k (.pv (.int .u64 31))), none⟩,
   ⟨.mov 7 (.t 27), none⟩])
  (.seq (.region [⟨.mov 28 (.t 0), none⟩,
   ⟨.idx 29 (.t 28) (.k (.pv (.int .i64 0))), none⟩,
   ⟨.conv 30 .i32 (.t 29), none⟩,
   ⟨.mov 31 (.t 7), none⟩,
   ⟨.bin 32 0 .andNot (.t 30) (.t 31), none⟩,
   ⟨.mov 33 (.t 7), none⟩,
   ⟨.bin 34 0 .and (.k (.pv (.int .i32 65533))) (.t 33), none⟩,
   ⟨.bin 35 0 .or (.t 32) (.t 34), none⟩,
   ⟨.mov 2 (.t 35), none⟩,
   ⟨.mov 3 (.k (.pv (.int .i64 1))), none⟩])
  .ret)) .skip))
  (.seq (.region [⟨.mov 36 (.t 6), none⟩,
   ⟨.bin 37 0 .and (.t 36) (.k (.pv (.int .u8 7))), none⟩,
   ⟨.conv 38 .i64 (.t 37), none⟩,
   ⟨.mov 8 (.t 38), none⟩])
  (.seq (.region [⟨.mov 39 (.t 6), none⟩,
   ⟨.bin 40 0 .shr (.t 39) (.k (.pv (.int .u64 4))), none⟩,
   ⟨.idxP 41 2 16 (.g 2) (.t 40), none⟩,
   ⟨.load 42 true 2 (.t 41), none⟩,
   ⟨.alloc 9 92 [.pv (.int .u8 0), .pv (.int .u8 0)], none⟩,
   ⟨.store 2 (.t 9) (.t 42), none⟩])
  (.seq (.seq (.region [⟨.mov 43 (.t 4), none⟩,
   ⟨.mov 44 (.t 8), none⟩,
   ⟨.bin 45 0 .lss (.t 43) (.t 44), none⟩])
  (.cond (.t 45) (.seq (.region [⟨.mov 2 (.k (.pv (.int .i32 65533))), none⟩,
   ⟨.mov 3 (.k (.pv (.int .i64 1))), none⟩])
  .ret) .skip))
  (.seq (.region [⟨.mov 46 (.t 0), none⟩,
   ⟨.idx 47 (.t 46) (.k (.pv (.int .i64 1))), none⟩,
   ⟨.mov 10 (.t 47), none⟩])
  (.seq (.seq (.region [⟨.mov 48 (.t 10), none⟩,
   ⟨.fieldA 49 (.t 9) 0, none⟩,
   ⟨.load 50 false 1 (.t 49), none⟩,
   ⟨.bin 51 0 .lss (.t 48) (.t 50), none⟩,
   ⟨.mov 52 (.t 51), none⟩,
   ⟨.fieldA 53 (.t 9) 1, some (52, false)⟩,
   ⟨.load 54 false 1 (.t 53), some (52, false)⟩,
   ⟨.mov 55 (.t 10), some (52, false)⟩,
   ⟨.bin 56 0 .lss (.t 54) (.t 55), some (52, false)⟩,
   ⟨.pick 57 (.t 52) (.k (.pv (.bool true))) (.t 56), none⟩])
  (.cond (.t 57) (.seq (.region [⟨.mov 2 (.k (.pv (.int .i32 65533))), none⟩,
   ⟨.mov 3 (.k (.pv (.int .i64 1))), none⟩])
  .ret) .skip))
  (.seq (.seq (.region [⟨.mov 58 (.t 8), none⟩,
   ⟨.bin 59 0 .leq (.t 58) (.k (.pv (.int .i64 2))), none⟩])
  (.cond (.t 59) (.seq (.region [⟨.mov 60 (.t 5), none⟩,
   ⟨.bin 61 0 .and (.t 60) (.k (.pv (.int .u8 31))), none⟩,
   ⟨.conv 62 .i32 (.t 61), none⟩,
   ⟨.bin 63 0 .shl (.t 62) (.k (.pv (.int .u64 6))), none⟩,
   ⟨.mov 64 (.t 10), none⟩,
   ⟨.bin 65 0 .and (.t 64) (.k (.pv (.int .u8 63))), none⟩,
   ⟨.conv 66 .i32 (.t 65), none⟩,
   ⟨.bin 67 0 .or (.t 63) (.t 66), none⟩,
   ⟨.mov 2 (.t 67), none⟩,
   ⟨.mov 3 (.k (.pv (.int .i64 2))), none⟩])
  .ret) .skip))
  (.seq (.region [⟨.mov 68 (.t 0), none⟩,
   ⟨.idx 69 (.t 68) (.k (.pv (.int .i64 2))), none⟩,
   ⟨.mov 11 (.t 69), none⟩])
  (.seq (.seq (.region [⟨.mov 70 (.t 11), none⟩,
   ⟨.bin 71 0 .lss (.t 70) (.k (.pv (.int .u8 128))), none⟩,
   ⟨.mov 72 (.t 71), none⟩,
   ⟨.mov 73 (.t 11), some (72, false)⟩,
   ⟨.bin 74 0 .lss (.k (.pv (.int .u8 191))) (.t 73), some (72, false)⟩,
   ⟨.pick 75 (.t 72) (.k (.pv (.bool true))) (.t 74), none⟩])
  (.cond (.t 75) (.seq (.region [⟨.mov 2 (.k (.pv (.int .i32 65533))), none⟩,
   ⟨.mov 3 (.k (.pv (.int .i64 1))), none⟩])
  .ret) .skip))
  (.seq (.seq (.region [⟨.mov 76 (.t 8), none⟩,
   ⟨.bin 77 0 .leq (.t 76) (.k (.pv (.int .i64 3))), none⟩])
  (.cond (.t 77) (.seq (.region [⟨.mov 78 (.t 5), none⟩,
   ⟨.bin 79 0 .and (.t 78) (.k (.pv (.int .u8 15))), none⟩,
   ⟨.conv 80 .i32 (.t 79), none⟩,
   ⟨.bin 81 0 .shl (.t 80) (.k (.pv (.int .u64 12))), none⟩,
   ⟨.mov 82 (.t 10), none⟩,
   ⟨.bin 83 0 .and (.t 82) (.k (.pv (.int .u8 63))), none⟩,
   ⟨.conv 84 .i32 (.t 83), none⟩,
   ⟨.bin 85 0 .shl (.t 84) (.k (.pv (.int .u64 6))), none⟩,
   ⟨.bin 86 0 .or (.t 81) (.t 85), none⟩,
   ⟨.mov 87 (.t 11), none⟩,
   ⟨.bin 88 0 .and (.t 87) (.k (.pv (.int .u8 63))), none⟩,
   ⟨.conv 89 .i32 (.t 88), none⟩,
   ⟨.bin 90 0 .or (.t 86) (.t 89), none⟩,
   ⟨.mov 2 (.t 90), none⟩,
   ⟨.mov 3 (.k (.pv (.int .i64 3))), none⟩])
  .ret) .skip))
  (.seq (.region [⟨.mov 91 (.t 0), none⟩,
   ⟨.idx 92 (.t 91) (.k (.pv (.int .i64 3))), none⟩,
   ⟨.mov 12 (.t 92), none⟩])
  (.seq (.seq (.region [⟨.mov 93 (.t 12), none⟩,
   ⟨.bin 94 0 .lss (.t 93) (.k (.pv (.int .u8 128))), none⟩,
   ⟨.mov 95 (.t 94), none⟩,
   ⟨.mov 96 (.t 12), some (95, false)⟩,
   ⟨.bin 97 0 .lss (.k (.pv (.int .u8 191))) (.t 96), some (95, false)⟩,
   ⟨.pick 98 (.t 95) (.k (.pv (.bool true))) (.t 97), none⟩])
  (.cond (.t 98) (.seq (.region [⟨.mov 2 (.k (.pv (.int .i32 65533))), none⟩,
   ⟨.mov 3 (.k (.pv (.int .i64 1))), none⟩])
  .ret) .skip))
  (.seq (.region [⟨.mov 99 (.t 5), none⟩,
   ⟨.bin 100 0 .and (.t 99) (.k (.pv (.int .u8 7))), none⟩,
   ⟨.conv 101 .i32 (.t 100), none⟩,
   ⟨.bin 102 0 .shl (.t 101) (.k (.pv (.int .u64 18))), none⟩,
   ⟨.mov 103 (.t 10), none⟩,
   ⟨.bin 104 0 .and (.t 103) (.k (.pv (.int .u8 63))), none⟩,
   ⟨.conv 105 .i32 (.t 104), none⟩,
   ⟨.bin 106 0 .shl (.t 105) (.k (.pv (.int .u64 12))), none⟩,
   ⟨.bin 107 0 .or (.t 102) (.t 106), none⟩,
   ⟨.mov 108 (.t 11), none⟩,
   ⟨.bin 109 0 .and (.t 108) (.k (.pv (.int .u8 63))), none⟩,
   ⟨.conv 110 .i32 (.t 109), none⟩,
   ⟨.bin 111 0 .shl (.t 110) (.k (.pv (.int .u64 6))), none⟩,
   ⟨.bin 112 0 .or (.t 107) (.t 111), none⟩,
   ⟨.mov 113 (.t 12), none⟩,
   ⟨.bin 114 0 .and (.t 113) (.k (.pv (.int .u8 63))), none⟩,
   ⟨.conv 115 .i32 (.t 114), none⟩,
   ⟨.bin 116 0 .or (.t 112) (.t 115), none⟩,
   ⟨.mov 2 (.t 116), none⟩,
   ⟨.mov 3 (.k (.pv (.int .i64 4))), none⟩])
  .ret))))))))))))))))))⟩
def rf55_a0 : LoopAnn := ⟨[3, 23, 24], [], [], [2, 3]⟩
@[simp] theorem rf55_a0_keep : rf55_a0.keep = [3, 23, 24] := rfl
@[simp] theorem rf55_a0_opn : rf55_a0.opn = [] := rfl
@[simp] theorem rf55_a0_grow : rf55_a0.grow = [] := rfl
@[simp] theorem rf55_a0_outs : rf55_a0.outs = [2, 3] := rfl
def rf55_b0 : RCode :=
  (.seq (.region [⟨.bin 25 0 .lss (.t 24) (.k (.pv (.int .i64 4))), none⟩])
  (.seq (.cond (.t 25) .skip (.exit 0))
  (.seq (.block 1 (.seq (.region [⟨.idxV 26 1 4 (.t 23) (.t 24), none⟩,
   ⟨.mov 5 (.t 26), none⟩])
  (.seq (.seq (.region [⟨.mov 27 (.t 5), none⟩,
   ⟨.call (some 28) 61 [(.own, (.t 27))], none⟩,
   ⟨.bin 29 0 .lss (.t 28) (.k (.pv (.int .i32 0))), none⟩])
  (.cond (.t 29) (.seq (.region [⟨.mov 2 (.k (.pv (.int .i32 (-1)))), none⟩])
  .ret) .skip))
  (.region [⟨.mov 30 (.t 3), none⟩,
   ⟨.bin 31 0 .shl (.t 30) (.k (.pv (.int .u64 4))), none⟩,
   ⟨.mov 32 (.t 5), none⟩,
   ⟨.call (some 33) 61 [(.own, (.t 32))], none⟩,
   ⟨.bin 34 0 .or (.t 31) (.t 33), none⟩,
   ⟨.mov 3 (.t 34), none⟩]))))
  (.region [⟨.bin 35 0 .add (.t 24) (.k (.pv (.int .i64 1))), none⟩,
   ⟨.mov 24 (.t 35), none⟩]))))
def rf55 : RFn := ⟨37, [⟨false, 2, false, 1, true⟩],
  (.seq (.region [⟨.mov 2 (.k (.pv (.int .i32 0))), none⟩])
  (.seq (.seq (.region [⟨.mov 6 (.t 0), none⟩,
   ⟨.len 7 true (.t 6), none⟩,
   ⟨.bin 8 0 .lss (.t 7) (.k (.pv (.int .i64 6))), none⟩,
   ⟨.mov 9 (.t 8), none⟩,
   ⟨.mov 10 (.t 0), some (9, false)⟩,
   ⟨.idx 11 (.t 10) (.k (.pv (.int .i64 0))), some (9, false)⟩,
   ⟨.bin 12 0 .neq (.t 11) (.k (.pv (.int .u8 92))), some (9, false)⟩,
   ⟨.pick 13 (.t 9) (.k (.pv (.bool true))) (.t 12), none⟩,
   ⟨.mov 14 (.t 13), none⟩,
   ⟨.mov 15 (.t 0), some (14, false)⟩,
   ⟨.idx 16 (.t 15) (.k (.pv (.int .i64 1))), some (14, false)⟩,
   ⟨.bin 17 0 .neq (.t 16) (.k (.pv (.int .u8 117))), some (14, false)⟩,
   ⟨.pick 18 (.t 14) (.k (.pv (.bool true))) (.t 17), none⟩])
  (.cond (.t 18) (.seq (.region [⟨.mov 2 (.k (.pv (.int .i32 (-1)))), none⟩])
  .ret) .skip))
  (.seq (.region [⟨.mov 3 (.k (.pv (.int .i32 0))), none⟩])
  (.seq (.seq (.region [⟨.mov 19 (.t 0), none⟩,
   ⟨.sub 20 true 1 (.t 19) (some (.k (.pv (.int .i64 2)))) (some (.k (.pv (.int .i64 6)))), none⟩,
   ⟨.s2b 21 (.t 20), none⟩,
   ⟨.s2ap 22 4 (.t 21), none⟩,
   ⟨.load 23 true 4 (.t 22), none⟩,
   ⟨.mov 24 (.k (.pv (.int .i64 0))), none⟩])
  (.block 0 (.loop rf55_a0 rf55_b0)))
  (.seq (.region [⟨.mov 36 (.t 3), none⟩,
   ⟨.mov 2 (.t 36), none⟩])
  .ret)))))⟩
def rf56 : RFn := ⟨21, [⟨false, 2, false, 1, true⟩],
  (.seq (.region [⟨.mov 2 (.k (.pv (.int .i32 0))), none⟩])
  (.seq (.seq (.region [⟨.mov 3 (.t 0), none⟩])
  (.block 0 (.seq (.block 7 (.block 6 (.seq (.block 5 (.seq (.block 4 (.seq (.block 3 (.seq (.block 2 (.seq (.block 1 (.seq (.seq (.seq (.region [⟨.bin 5 0 .eql (.t 3) (.k (.pv (.int .u8 98))), none⟩,
   ⟨.mov 4 (.t 5), none⟩])
  (.cond (.t 4) (.exit 1) .skip))
  (.seq (.seq (.region [⟨.bin 7 0 .eql (.t 3) (.k (.pv (.int .u8 102))), none⟩,
   ⟨.mov 6 (.t 7), none⟩])
  (.cond (.t 6) (.exit 2) .skip))
  (.seq (.seq (.region [⟨.bin 9 0 .eql (.t 3) (.k (.pv (.int .u8 110))), none⟩,
   ⟨.mov 8 (.t 9), none⟩])
  (.cond (.t 8) (.exit 3) .skip))
  (.seq (.seq (.region [⟨.bin 11 0 .eql (.t 3) (.k (.pv (.int .u8 114))), none⟩,
   ⟨.mov 10 (.t 11), none⟩])
  (.cond (.t 10) (.exit 4) .skip))
  (.seq (.seq (.region [⟨.bin 13 0 .eql (.t 3) (.k (.pv (.int .u8 116))), none⟩,
   ⟨.mov 12 (.t 13), none⟩])
  (.cond (.t 12) (.exit 5) .skip))
  (.seq (.seq (.region [⟨.bin 15 0 .eql (.t 3) (.k (.pv (.int .u8 34))), none⟩,
   ⟨.mov 14 (.t 15), none⟩])
  (.cond (.t 14) (.exit 6) .skip))
  (.seq (.seq (.region [⟨.bin 17 0 .eql (.t 3) (.k (.pv (.int .u8 92))), none⟩,
   ⟨.mov 16 (.t 17), none⟩])
  (.cond (.t 16) .skip (.region [⟨.bin 18 0 .eql (.t 3) (.k (.pv (.int .u8 47))), none⟩,
   ⟨.mov 16 (.t 18), none⟩])))
  (.cond (.t 16) (.exit 7) .skip))))))))
  (.exit 0)))
  (.seq (.seq (.region [⟨.mov 2 (.k (.pv (.int .i32 8))), none⟩])
  .ret)
  (.exit 0))))
  (.seq (.seq (.region [⟨.mov 2 (.k (.pv (.int .i32 12))), none⟩])
  .ret)
  (.exit 0))))
  (.seq (.seq (.region [⟨.mov 2 (.k (.pv (.int .i32 10))), none⟩])
  .ret)
  (.exit 0))))
  (.seq (.seq (.region [⟨.mov 2 (.k (.pv (.int .i32 13))), none⟩])
  .ret)
  (.exit 0))))
  (.seq (.seq (.region [⟨.mov 2 (.k (.pv (.int .i32 9))), none⟩])
  .ret)
  (.exit 0)))))
  (.seq (.seq (.region [⟨.mov 19 (.t 0), none⟩,
   ⟨.conv 20 .i32 (.t 19), none⟩,
   ⟨.mov 2 (.t 20), none⟩])
  .ret)
  (.exit 0)))))
  (.seq (.region [⟨.mov 2 (.k (.pv (.int .i32 (-1)))), none⟩])
  .ret)))⟩
def rf57 : RFn := ⟨9, [⟨false, 2, false, 1, true⟩],
  (.seq (.region [⟨.mov 2 (.k (.pv (.bool false))), none⟩])
  (.seq (.region [⟨.mov 3 (.t 0), none⟩,
   ⟨.bin 4 0 .geq (.t 3) (.k (.pv (.int .i32 56320))), none⟩,
   ⟨.mov 5 (.t 4), none⟩,
   ⟨.mov 6 (.t 0), some (5, true)⟩,
   ⟨.bin 7 0 .leq (.t 6) (.k (.pv (.int .i32 57343))), some (5, true)⟩,
   ⟨.pick 8 (.t 5) (.t 7) (.k (.pv (.bool false))), none⟩,
   ⟨.mov 2 (.t 8), none⟩])
  .ret))⟩
def rf58 : RFn := ⟨9, [⟨false, 2, false, 1, true⟩],
  (.seq (.region [⟨.mov 2 (.k (.pv (.bool false))), none⟩])
  (.seq (.region [⟨.mov 3 (.t 0), none⟩,
   ⟨.bin 4 0 .geq (.t 3) (.k (.pv (.int .i32 55296))), none⟩,
   ⟨.mov 5 (.t 4), none⟩,
   ⟨.mov 6 (.t 0), some (5, true)⟩,
   ⟨.bin 7 0 .leq (.t 6) (.k (.pv (.int .i32 56319))), some (5, true)⟩,
   ⟨.pick 8 (.t 5) (.t 7) (.k (.pv (.bool false))), none⟩,
   ⟨.mov 2 (.t 8), none⟩])
  .ret))⟩
def rf60 : RFn := ⟨16, [⟨false, 4, false, 1, false⟩],
  (.seq (.region [⟨.mov 4 (.k (.nils)), none⟩])
  (.seq (.seq (.region [⟨.mov 5 (.t 1), none⟩,
   ⟨.conv 6 .u32 (.t 5), none⟩,
   ⟨.bin 7 0 .leq (.t 6) (.k (.pv (.int .u32 127))), none⟩])
  (.cond (.t 7) (.seq (.region [⟨.mov 8 (.t 0), none⟩,
   ⟨.mov 9 (.t 1), none⟩,
   ⟨.conv 10 .u8 (.t 9), none⟩,
   ⟨.mksl 11 1 [(.t 10)], none⟩,
   ⟨.app 12 1 1 5 false (.t 8) (.t 11), none⟩,
   ⟨.mov 4 (.t 12), none⟩])
  .ret) .skip))
  (.seq (.region [⟨.mov 13 (.t 0), none⟩,
   ⟨.mov 14 (.t 1), none⟩,
   ⟨.call (some 15) 63 [(.own, (.t 13)), (.own, (.t 14))], none⟩,
   ⟨.mov 4 (.t 15), none⟩])
  .ret)))⟩
def rf61 : RFn := ⟨35, [⟨false, 2, false, 1, true⟩],
  (.seq (.region [⟨.mov 2 (.k (.pv (.int .i32 0))), none⟩])
  (.seq (.block 0 (.seq (.region [⟨.mov 4 (.t 0), none⟩,
   ⟨.bin 5 0 .geq (.t 4) (.k (.pv (.int .u8 48))), none⟩,
   ⟨.mov 6 (.t 5), none⟩,
   ⟨.mov 7 (.t 0), some (6, true)⟩,
   ⟨.bin 8 0 .leq (.t 7) (.k (.pv (.int .u8 57))), some (6, true)⟩,
   ⟨.pick 9 (.t 6) (.t 8) (.k (.pv (.bool false))), none⟩,
   ⟨.mov 3 (.t 9), none⟩])
  (.cond (.t 3) (.seq (.region [⟨.mov 10 (.t 0), none⟩,
   ⟨.bin 11 0 .sub (.t 10) (.k (.pv (.int .u8 48))), none⟩,
   ⟨.conv 12 .i32 (.t 11), none⟩,
   ⟨.mov 2 (.t 12), none⟩])
  .ret) (.seq (.region [⟨.mov 14 (.t 0), none⟩,
   ⟨.bin 15 0 .geq (.t 14) (.k (.pv (.int .u8 97))), none⟩,
   ⟨.mov 16 (.t 15), none⟩,
   ⟨.mov 17 (.t 0), some (16, true)⟩,
   ⟨.bin 18 0 .leq (.t 17) (.k (.pv (.int .u8 102))), some (16, true)⟩,
   ⟨.pick 19 (.t 16) (.t 18) (.k (.pv (.bool false))), none⟩,
   ⟨.mov 13 (.t 19), none⟩])
  (.cond (.t 13) (.seq (.region [⟨.mov 20 (.t 0), none⟩,
   ⟨.bin 21 0 .sub (.t 20) (.k (.pv (.int .u8 97))), none⟩,
   ⟨.conv 22 .i32 (.t 21), none⟩,
   ⟨.bin 23 0 .add (.t 22) (.k (.pv (.int .i32 10))), none⟩,
   ⟨.mov 2 (.t 23), none⟩])
  .ret) (.seq (.region [⟨.mov 25 (.t 0), none⟩,
   ⟨.bin 26 0 .geq (.t 25) (.k (.pv (.int .u8 65))), none⟩,
   ⟨.mov 27 (.t 26), none⟩,
   ⟨.mov 28 (.t 0), some (27, true)⟩,
   ⟨.bin 29 0 .leq (.t 28) (.k (.pv (.int .u8 70))), some (27, true)⟩,
   ⟨.pick 30 (.t 27) (.t 29) (.k (.pv (.bool false))), none⟩,
   ⟨.mov 24 (.t 30), none⟩])
  (.cond (.t 24) (.seq (.region [⟨.mov 31 (.t 0), none⟩,
   ⟨.bin 32 0 .sub (.t 31) (.k (.pv (.int .u8 65))), none⟩,
   ⟨.conv 33 .i32 (.t 32), none⟩,
   ⟨.bin 34 0 .add (.t 33) (.k (.pv (.int .i32 10))), none⟩,
   ⟨.mov 2 (.t 34), none⟩])
  .ret) .skip)))))))
  (.seq (.region [⟨.mov 2 (.k (.pv (.int .i32 (-1)))), none⟩])
  .ret)))⟩
def rf63 : RFn := ⟨78, [⟨false, 4, false, 1, false⟩],
  (.seq (.region [⟨.mov 4 (.k (.nils)), none⟩])
  (.seq (.region [⟨.mov 6 (.t 1), none⟩,
   ⟨.conv 7 .u32 (.t 6), none⟩,
   ⟨.mov 5 (.t 7), none⟩])
  (.block 0 (.seq (.region [⟨.mov 12 (.t 5), none⟩,
   ⟨.bin 13 0 .leq (.t 12) (.k (.pv (.int .u32 2047))), none⟩,
   ⟨.mov 11 (.t 13), none⟩])
  (.cond (.t 11) (.seq (.region [⟨.mov 14 (.t 0), none⟩,
   ⟨.mov 15 (.t 1), none⟩,
   ⟨.bin 16 0 .shr (.t 15) (.k (.pv (.int .u64 6))), none⟩,
   ⟨.conv 17 .u8 (.t 16), none⟩,
   ⟨.bin 18 0 .or (.k (.pv (.int .u8 192))) (.t 17), none⟩,
   ⟨.mov 19 (.t 1), none⟩,
   ⟨.conv 20 .u8 (.t 19), none⟩,
   ⟨.bin 21 0 .and (.t 20) (.k (.pv (.int .u8 63))), none⟩,
   ⟨.bin 22 0 .or (.k (.pv (.int .u8 128))) (.t 21), none⟩,
   ⟨.mksl 23 1 [(.t 18), (.t 22)], none⟩,
   ⟨.app 24 1 1 5 false (.t 14) (.t 23), none⟩,
   ⟨.mov 4 (.t 24), none⟩])
  .ret) (.seq (.seq (.region [⟨.mov 26 (.t 5), none⟩,
   ⟨.bin 27 0 .lss (.t 26) (.k (.pv (.int .u32 55296))), none⟩,
   ⟨.mov 25 (.t 27), none⟩])
  (.cond (.t 25) .skip (.region [⟨.mov 28 (.t 5), none⟩,
   ⟨.bin 29 0 .lss (.k (.pv (.int .u32 57343))) (.t 28), none⟩,
   ⟨.mov 30 (.t 29), none⟩,
   ⟨.mov 31 (.t 5), some (30, true)⟩,
   ⟨.bin 32 0 .leq (.t 31) (.k (.pv (.int .u32 65535))), some (30, true)⟩,
   ⟨.pick 33 (.t 30) (.t 32) (.k (.pv (.bool false))), none⟩,
   ⟨.mov 25 (.t 33), none⟩])))
  (.cond (.t 25) (.seq (.region [⟨.mov 34 (.t 0), none⟩,
   ⟨.mov 35 (.t 1), none⟩,
   ⟨.bin 36 0 .shr (.t 35) (.k (.pv (.int .u64 12))), none⟩,
   ⟨.conv 37 .u8 (.t 36), none⟩,
   ⟨.bin 38 0 .or (.k (.pv (.int .u8 224))) (.t 37), none⟩,
   ⟨.mov 39 (.t 1), none⟩,
   ⟨.bin 40 0 .shr (.t 39) (.k (.pv (.int .u64 6))), none⟩,
   ⟨.conv 41 .u8 (.t 40), none⟩,
   ⟨.bin 42 0 .and (.t 41) (.k (.pv (.int .u8 63))), none⟩,
   ⟨.bin 43 0 .or (.k (.pv (.int .u8 128))) (.t 42), none⟩,
   ⟨.mov 44 (.t 1), none⟩,
   ⟨.conv 45 .u8 (.t 44), none⟩,
   ⟨.bin 46 0 .and (.t 45) (.k (.pv (.int .u8 63))), none⟩,
   ⟨.bin 47 0 .or (.k (.pv (.int .u8 128))) (.t 46), none⟩,
   ⟨.mksl 48 1 [(.t 38), (.t 43), (.t 47)], none⟩,
   ⟨.app 49 1 1 5 false (.t 34) (.t 48), none⟩,
   ⟨.mov 4 (.t 49), none⟩])
  .ret) (.seq (.region [⟨.mov 51 (.t 5), none⟩,
   ⟨.bin 52 0 .gtr (.t 51) (.k (.pv (.int .u32 65535))), none⟩,
   ⟨.mov 53 (.t 52), none⟩,
   ⟨.mov 54 (.t 5), some (53, true)⟩,
   ⟨.bin 55 0 .leq (.t 54) (.k (.pv (.int .u32 1114111))), some (53, true)⟩,
   ⟨.pick 56 (.t 53) (.t 55) (.k (.pv (.bool false))), none⟩,
   ⟨.mov 50 (.t 56), none⟩])
  (.cond (.t 50) (.seq (.region [⟨.mov 57 (.t 0), none⟩,
   ⟨.mov 58 (.t 1), none⟩,
   ⟨.bin 59 0 .shr (.t 58) (.k (.pv (.int .u64 18))), none⟩,
   ⟨.conv 60 .u8 (.t 59), none⟩,
   ⟨.bin 61 0 .or (.k (.pv (.int .u8 240))) (.t 60), none⟩,
   ⟨.mov 62 (.t 1), none⟩,
   ⟨.bin 63 0 .shr (.t 62) (.k (.pv (.int .u64 12))), none⟩,
   ⟨.conv 64 .u8 (.t 63), none⟩,
   ⟨.bin 65 0 .and (.t 64) (.k (.pv (.int .u8 63))), none⟩,
   ⟨.bin 66 0 .or (.k (.pv (.int .u8 128))) (.t 65), none⟩,
   ⟨.mov 67 (.t 1), none⟩,
   ⟨.bin 68 0 .shr (.t 67) (.k (.pv (.int .u64 6))), none⟩,
   ⟨.conv 69 .u8 (.t 68), none⟩,
   ⟨.bin 70 0 .and (.t 69) (.k (.pv (.int .u8 63))), none⟩,
   ⟨.bin 71 0 .or (.k (.pv (.int .u8 128))) (.t 70), none⟩,
   ⟨.mov 72 (.t 1), none⟩,
   ⟨.conv 73 .u8 (.t 72), none⟩,
   ⟨.bin 74 0 .and (.t 73) (.k (.pv (.int .u8 63))), none⟩,
   ⟨.bin 75 0 .or (.k (.pv (.int .u8 128))) (.t 74), none⟩,
   ⟨.mksl 76 1 [(.t 61), (.t 66), (.t 71), (.t 75)], none⟩,
   ⟨.app 77 1 1 5 false (.t 57) (.t 76), none⟩,
   ⟨.mov 4 (.t 77), none⟩])
  .ret) (.seq (.region [⟨.mov 8 (.t 0), none⟩,
   ⟨.mksl 9 1 [(.k (.pv (.int .u8 239))), (.k (.pv (.int .u8 191))), (.k (.pv (.int .u8 189)))], none⟩,
   ⟨.app 10 1 1 5 false (.t 8) (.t 9), none⟩,
   ⟨.mov 4 (.t 10), none⟩])
  .ret))))))))))⟩

def tabL : List (Nat × RFn) := [(3, rf3), (4, rf4), (5, rf5), (6, rf6), (7, rf7), (8, rf8), (9, rf9), (10, rf10), (11, rf11), (12, rf12), (13, rf13), (14, rf14), (15, rf15), (16, rf16), (17, rf17), (18, rf18), (19, rf19), (20, rf20), (21, rf21), (22, rf22), (23, rf23), (24, rf24), (25, rf25), (26, rf26), (27, rf27), (28, rf28), (29, rf29), (30, rf30), (31, rf31), (32, rf32), (33, rf33), (34, rf34), (35, rf35), (36, rf36), (37, rf37), (38, rf38), (39, rf39), (40, rf40), (41, rf41), (42, rf42), (43, rf43), (44, rf44), (45, rf45), (47, rf47), (48, rf48), (50, rf50), (51, rf51), (52, rf52), (53, rf53), (54, rf54), (55, rf55), (56, rf56), (57, rf57), (58, rf58), (60, rf60), (61, rf61), (63, rf63)]
def tab (f : Nat) : Option RFn := match f with
  | 3 => some rf3
  | 4 => some rf4
  | 5 => some rf5
  | 6 => some rf6
  | 7 => some rf7
  | 8 => some rf8
  | 9 => some rf9
  | 10 => some rf10
  | 11 => some rf11
  | 12 => some rf12
  | 13 => some rf13
  | 14 => some rf14
  | 15 => some rf15
  | 16 => some rf16
  | 17 => some rf17
  | 18 => some rf18
  | 19 => some rf19
  | 20 => some rf20
  | 21 => some rf21
  | 22 => some rf22
  | 23 => some rf23
  | 24 => some rf24
  | 25 => some rf25
  | 26 => some rf26
  | 27 => some rf27
  | 28 => some rf28
  | 29 => some rf29
  | 30 => some rf30
  | 31 => some rf31
  | 32 => some rf32
  | 33 => some rf33
  | 34 => some rf34
  | 35 => some rf35
  | 36 => some rf36
  | 37 => some rf37
  | 38 => some rf38
  | 39 => some rf39
  | 40 => some rf40
  | 41 => some rf41
  | 42 => some rf42
  | 43 => some rf43
  | 44 => some rf44
  | 45 => some rf45
  | 47 => some rf47
  | 48 => some rf48
  | 50 => some rf50
  | 51 => some rf51
  | 52 => some rf52
  | 53 => some rf53
  | 54 => some rf54
  | 55 => some rf55
  | 56 => some rf56
  | 57 => some rf57
  | 58 => some rf58
  | 60 => some rf60
  | 61 => some rf61
  | 63 => some rf63
  | _ => none

theorem tab_mem : ∀ f fn, tab f = some fn → (f, fn) ∈ tabL := by
  intro f fn h
  unfold tab at h
  split at h <;> first | (cases h; simp [tabL]; done) | cases h

theorem mixed : P.follows .mixedOrders = true := by kernel_rfl
theorem tabL_ok : (tabL.all fun p => plainFn P p.1 && ckFn P p.1 p.2) = true := by kernel_rfl
theorem tab_ok (f : Nat) (fn : RFn) (h : tab f = some fn) : plainFn P f = true ∧ ckFn P f fn = true := by
  have := List.all_eq_true.1 tabL_ok _ (tab_mem f fn h)
  simpa using this
end AI.Tok
end
