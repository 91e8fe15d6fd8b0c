/- Part 4 of the proof. -/
import Derived.Test.YtgmphfmoonbfpaaP3
import Derived.KernelRfl
set_option linter.unusedVariables false
set_option linter.unusedSimpArgs false
set_option maxRecDepth 10000
namespace Go.Proofs.YtgmphfmoonbfpaaMv
open Go
def i5_o0 : List II := [⟨(some 4), none, .mv (.k (.bool false))⟩]
def i5_r0 : IR := .seq (.reg i5_o0) (.keep [0, 1] [5, 9, 11, 13, 15, 18])
def i5_o1 : List II := [⟨(some 20), none, .call 7 []⟩,
    ⟨(some 21), none, .un .not (.t 20)⟩,
    ⟨(some 22), none, .mv (.t 21)⟩,
    ⟨(some 23), (some (22, false)), .mv (.t 0)⟩,
    ⟨(some 24), (some (22, false)), .call 15 [(.t 23)]⟩,
    ⟨(some 25), (some (22, false)), .un .not (.t 24)⟩,
    ⟨(some 26), none, .pick (.t 22) (.k (.bool true)) (.t 25)⟩,
    ⟨(some 27), none, .mv (.t 26)⟩,
    ⟨(some 28), (some (27, false)), .mv (.t 1)⟩,
    ⟨(some 29), (some (27, false)), .call 8 [(.t 28)]⟩,
    ⟨(some 30), (some (27, false)), .un .not (.t 29)⟩,
    ⟨(some 31), none, .pick (.t 27) (.k (.bool true)) (.t 30)⟩]
def i5_r1 : IR := .seq (.reg i5_o1) (.keep [0, 1, 31] [5, 9, 11, 13, 15, 18])
def i5_o2 : List II := [⟨(some 32), none, .call 7 []⟩,
      ⟨(some 4), none, .mv (.t 32)⟩]
def i5_r2 : IR := .seq (.reg i5_o2) (.keep [4] [5, 9, 11, 13, 15, 18])
def i5_o3 : List II := [⟨(some 33), none, .mv (.t 0)⟩,
    ⟨(some 34), none, .call 16 [(.t 33)]⟩,
    ⟨(some 5), none, .alloc [.d (.sl false []), .d (.sl false []), .d (.sl false [])]⟩,
    ⟨none, none, .st 3 (.t 5) (.t 34)⟩]
def i5_r3 : IR := .seq (.reg i5_o3) (.keep [0, 1, 5] [5, 9, 11, 13, 15, 18])
def i5_o4 : List II := [⟨(some 6), none, .mv (.k (.int .i64 0))⟩,
    ⟨(some 7), none, .mv (.k (.int .i64 0))⟩]
def i5_r4 : IR := .seq (.reg i5_o4) (.keep [0, 1, 5, 6, 7] [5, 9, 11, 13, 15, 18])
def i5_o5 : List II := [⟨(some 35), none, .mv (.t 0)⟩,
    ⟨(some 36), none, .len 0 (.t 35)⟩,
    ⟨(some 37), none, .mv (.k (.int .i64 0))⟩]
def i5_r5 : IR := .seq (.reg i5_o5) (.keep [1, 5, 6, 7, 35, 36, 37] [5, 9, 11, 13, 15, 18])
def i5_o6 : List II := [⟨(some 38), none, .bin .lss (.t 37) (.t 36)⟩]
def i5_r6 : IR := .seq (.reg i5_o6) (.keep [1, 5, 6, 7, 35, 36, 37, 38] [5, 9, 11, 13, 15, 18])
def i5_o7 : List II := [⟨(some 39), none, .ia 3 (.t 35) (.t 37)⟩,
      ⟨(some 40), none, .ldn 3 (.t 39)⟩,
      ⟨(some 9), none, .alloc [.d (.sl false []), .d (.sl false []), .d (.sl false [])]⟩,
      ⟨none, none, .st 3 (.t 9) (.t 40)⟩]
def i5_r7 : IR := .seq (.reg i5_o7) (.keep [1, 5, 6, 7, 9, 35, 36, 37] [5, 9, 11, 13, 15, 18])
def i5_o8 : List II := [⟨(some 41), none, .fa 0 (.t 9)⟩,
      ⟨(some 42), none, .ld1 (.t 41)⟩,
      ⟨(some 43), none, .len 0 (.t 42)⟩,
      ⟨(some 44), none, .mv (.k (.int .i64 0))⟩]
def i5_r8 : IR := .seq (.reg i5_o8) (.keep [1, 5, 6, 7, 35, 36, 37, 42, 43, 44] [5, 9, 11, 13, 15, 18])
def i5_o9 : List II := [⟨(some 45), none, .bin .lss (.t 44) (.t 43)⟩]
def i5_r9 : IR := .seq (.reg i5_o9) (.keep [1, 5, 6, 7, 35, 36, 37, 42, 43, 44, 45] [5, 9, 11, 13, 15, 18])
def i5_o10 : List II := [⟨(some 46), none, .ia 4 (.t 42) (.t 44)⟩,
      ⟨(some 47), none, .ldn 4 (.t 46)⟩,
      ⟨(some 11), none, .alloc [.d (.str []), .d (.int .i64 0), .d (.int .i64 0), .d (.sl false [])]⟩,
      ⟨none, none, .st 4 (.t 11) (.t 47)⟩]
def i5_r10 : IR := .seq (.reg i5_o10) (.keep [1, 5, 6, 7, 11, 35, 36, 37, 42, 43, 44] [5, 9, 11, 13, 15, 18])
def i5_o11 : List II := [⟨(some 48), none, .mv (.t 6)⟩,
      ⟨(some 49), none, .fa 3 (.t 11)⟩,
      ⟨(some 50), none, .ld1 (.t 49)⟩,
      ⟨(some 51), none, .len 0 (.t 50)⟩,
      ⟨(some 52), none, .bin .add (.t 48) (.t 51)⟩,
      ⟨(some 6), none, .mv (.t 52)⟩]
def i5_r11 : IR := .seq (.reg i5_o11) (.keep [1, 5, 6, 7, 35, 36, 37, 42, 43, 44] [5, 9, 11, 13, 15, 18])
def i5_o12 : List II := [⟨(some 53), none, .bin .add (.t 44) (.k (.int .i64 1))⟩,
    ⟨(some 44), none, .mv (.t 53)⟩]
def i5_r12 : IR := .seq (.reg i5_o12) (.keep [1, 5, 6, 7, 35, 36, 37, 42, 43, 44] [5, 9, 11, 13, 15, 18])
def i5_l2 : IR := (.seq i5_r9
  (.seq (.cond (.t 45) .skip
    (.exit 2))
  (.seq (.block 3 (.seq i5_r10
    i5_r11))
  i5_r12)))
def i5_o13 : List II := [⟨(some 54), none, .bin .add (.t 37) (.k (.int .i64 1))⟩,
    ⟨(some 37), none, .mv (.t 54)⟩]
def i5_r13 : IR := .seq (.reg i5_o13) (.keep [1, 5, 6, 7, 35, 36, 37] [5, 9, 11, 13, 15, 18])
def i5_l0 : IR := (.seq i5_r6
  (.seq (.cond (.t 38) .skip
    (.exit 0))
  (.seq (.block 1 (.seq i5_r7
    (.seq i5_r8
    (.block 2 (.loop i5_l2)))))
  i5_r13)))
def i5_o14 : List II := [⟨(some 55), none, .fa 0 (.t 5)⟩,
    ⟨(some 56), none, .ld1 (.t 55)⟩,
    ⟨(some 57), none, .len 0 (.t 56)⟩,
    ⟨(some 58), none, .mv (.k (.int .i64 0))⟩]
def i5_r14 : IR := .seq (.reg i5_o14) (.keep [1, 5, 6, 7, 56, 57, 58] [5, 9, 11, 13, 15, 18])
def i5_o15 : List II := [⟨(some 59), none, .bin .lss (.t 58) (.t 57)⟩]
def i5_r15 : IR := .seq (.reg i5_o15) (.keep [1, 5, 6, 7, 56, 57, 58, 59] [5, 9, 11, 13, 15, 18])
def i5_o16 : List II := [⟨(some 60), none, .mv (.t 58)⟩,
      ⟨(some 61), none, .ia 4 (.t 56) (.t 58)⟩,
      ⟨(some 62), none, .ldn 4 (.t 61)⟩,
      ⟨(some 13), none, .alloc [.d (.str []), .d (.int .i64 0), .d (.int .i64 0), .d (.sl false [])]⟩,
      ⟨(some 12), none, .mv (.t 60)⟩,
      ⟨none, none, .st 4 (.t 13) (.t 62)⟩]
def i5_r16 : IR := .seq (.reg i5_o16) (.keep [1, 5, 6, 7, 12, 13, 56, 57, 58] [5, 9, 11, 13, 15, 18])
def i5_o17 : List II := [⟨(some 63), none, .mv (.t 7)⟩,
      ⟨(some 64), none, .fa 3 (.t 13)⟩,
      ⟨(some 65), none, .ld1 (.t 64)⟩,
      ⟨(some 66), none, .len 0 (.t 65)⟩,
      ⟨(some 67), none, .bin .add (.t 63) (.t 66)⟩,
      ⟨(some 7), none, .mv (.t 67)⟩]
def i5_r17 : IR := .seq (.reg i5_o17) (.keep [1, 5, 6, 7, 12, 13, 56, 57, 58] [5, 9, 11, 13, 15, 18])
def i5_o18 : List II := [⟨(some 68), none, .ldn 3 (.t 5)⟩,
      ⟨(some 69), none, .mv (.t 12)⟩,
      ⟨(some 70), none, .call 17 [(.t 68), (.t 69)]⟩,
      ⟨(some 71), none, .len 0 (.t 70)⟩,
      ⟨(some 72), none, .fa 3 (.t 13)⟩,
      ⟨(some 73), none, .ld1 (.t 72)⟩,
      ⟨(some 74), none, .len 0 (.t 73)⟩,
      ⟨(some 75), none, .bin .neq (.t 71) (.t 74)⟩]
def i5_r18 : IR := .seq (.drw 7 [[], [], [], [], [], [], []] i5_o18) (.keep [1, 5, 6, 7, 56, 57, 58, 75] [5, 9, 11, 13, 15, 18])
def i5_o19 : List II := [⟨(some 4), none, .mv (.k (.bool false))⟩]
def i5_r19 : IR := .seq (.reg i5_o19) (.keep [4] [5, 9, 11, 13, 15, 18])
def i5_o20 : List II := [⟨(some 76), none, .bin .add (.t 58) (.k (.int .i64 1))⟩,
    ⟨(some 58), none, .mv (.t 76)⟩]
def i5_r20 : IR := .seq (.reg i5_o20) (.keep [1, 5, 6, 7, 56, 57, 58] [5, 9, 11, 13, 15, 18])
def i5_l4 : IR := (.seq i5_r15
  (.seq (.cond (.t 59) .skip
    (.exit 4))
  (.seq (.block 5 (.seq i5_r16
    (.seq i5_r17
    (.seq i5_r18
    (.cond (.t 75) (.seq i5_r19
      .ret)
      .skip)))))
  i5_r20)))
def i5_o21 : List II := [⟨(some 77), none, .mv (.t 6)⟩,
    ⟨(some 78), none, .mv (.t 7)⟩,
    ⟨(some 79), none, .bin .neq (.t 77) (.t 78)⟩]
def i5_r21 : IR := .seq (.reg i5_o21) (.keep [1, 79] [5, 9, 11, 13, 15, 18])
def i5_o22 : List II := [⟨(some 4), none, .mv (.k (.bool false))⟩]
def i5_r22 : IR := .seq (.reg i5_o22) (.keep [4] [5, 9, 11, 13, 15, 18])
def i5_o23 : List II := [⟨(some 80), none, .mv (.t 1)⟩,
    ⟨(some 81), none, .mv (.t 1)⟩,
    ⟨(some 82), none, .len 0 (.t 81)⟩,
    ⟨(some 83), none, .bin .sub (.t 82) (.k (.int .i64 1))⟩,
    ⟨(some 84), none, .mx (.t 83) [(.k (.int .i64 0))]⟩,
    ⟨(some 85), none, .slc 9 (.t 80) none (some (.t 84))⟩,
    ⟨(some 86), none, .len 0 (.t 85)⟩,
    ⟨(some 87), none, .mv (.k (.int .i64 0))⟩]
def i5_r23 : IR := .seq (.reg i5_o23) (.keep [1, 86, 87] [5, 9, 11, 13, 15, 18])
def i5_o24 : List II := [⟨(some 88), none, .bin .lss (.t 87) (.t 86)⟩]
def i5_r24 : IR := .seq (.reg i5_o24) (.keep [1, 86, 87, 88] [5, 9, 11, 13, 15, 18])
def i5_o25 : List II := [⟨(some 89), none, .mv (.t 87)⟩,
      ⟨(some 14), none, .mv (.t 89)⟩]
def i5_r25 : IR := .seq (.reg i5_o25) (.keep [1, 14, 86, 87] [5, 9, 11, 13, 15, 18])
def i5_o26 : List II := [⟨(some 90), none, .mv (.t 1)⟩,
      ⟨(some 91), none, .mv (.t 14)⟩,
      ⟨(some 92), none, .ia 9 (.t 90) (.t 91)⟩,
      ⟨(some 93), none, .fa 0 (.t 92)⟩,
      ⟨(some 94), none, .ld1 (.t 93)⟩,
      ⟨(some 95), none, .mv (.t 1)⟩,
      ⟨(some 96), none, .mv (.t 14)⟩,
      ⟨(some 97), none, .bin .add (.t 96) (.k (.int .i64 1))⟩,
      ⟨(some 98), none, .ia 9 (.t 95) (.t 97)⟩,
      ⟨(some 99), none, .fa 0 (.t 98)⟩,
      ⟨(some 100), none, .ld1 (.t 99)⟩,
      ⟨(some 101), none, .bin .gtr (.t 94) (.t 100)⟩]
def i5_r26 : IR := .seq (.drw 11 [[], [], [], [], [], [], [], [], [], [], []] i5_o26) (.keep [1, 86, 87, 101] [5, 9, 11, 13, 15, 18])
def i5_o27 : List II := [⟨(some 4), none, .mv (.k (.bool true))⟩]
def i5_r27 : IR := .seq (.reg i5_o27) (.keep [4] [5, 9, 11, 13, 15, 18])
def i5_o28 : List II := [⟨(some 102), none, .bin .add (.t 87) (.k (.int .i64 1))⟩,
    ⟨(some 87), none, .mv (.t 102)⟩]
def i5_r28 : IR := .seq (.reg i5_o28) (.keep [1, 86, 87] [5, 9, 11, 13, 15, 18])
def i5_l6 : IR := (.seq i5_r24
  (.seq (.cond (.t 88) .skip
    (.exit 6))
  (.seq (.block 7 (.seq i5_r25
    (.seq i5_r26
    (.cond (.t 101) (.seq i5_r27
      .ret)
      .skip))))
  i5_r28)))
def i5_o29 : List II := [⟨(some 104), none, .mv (.t 1)⟩,
    ⟨(some 105), none, .call 9 [(.k (.int .i64 0)), (.t 104)]⟩,
    ⟨(some 103), none, .mv (.t 105)⟩,
    ⟨(some 106), none, .ext (.t 103) 0⟩,
    ⟨(some 107), none, .ext (.t 103) 1⟩,
    ⟨(some 15), none, .alloc [.d (.sl false []), .d (.sl false []), .d (.sl false [])]⟩,
    ⟨none, none, .st 3 (.t 15) (.t 106)⟩,
    ⟨(some 16), none, .mv (.t 107)⟩]
def i5_r29 : IR := .seq (.reg i5_o29) (.keep [15] [5, 9, 11, 13, 15, 18])
def i5_o30 : List II := [⟨(some 108), none, .fa 0 (.t 15)⟩,
    ⟨(some 109), none, .ld1 (.t 108)⟩,
    ⟨(some 110), none, .len 0 (.t 109)⟩,
    ⟨(some 111), none, .mv (.k (.int .i64 0))⟩]
def i5_r30 : IR := .seq (.reg i5_o30) (.keep [109, 110, 111] [5, 9, 11, 13, 15, 18])
def i5_o31 : List II := [⟨(some 112), none, .bin .lss (.t 111) (.t 110)⟩]
def i5_r31 : IR := .seq (.reg i5_o31) (.keep [109, 110, 111, 112] [5, 9, 11, 13, 15, 18])
def i5_o32 : List II := [⟨(some 113), none, .ia 4 (.t 109) (.t 111)⟩,
      ⟨(some 114), none, .ldn 4 (.t 113)⟩,
      ⟨(some 18), none, .alloc [.d (.str []), .d (.int .i64 0), .d (.int .i64 0), .d (.sl false [])]⟩,
      ⟨none, none, .st 4 (.t 18) (.t 114)⟩]
def i5_r32 : IR := .seq (.reg i5_o32) (.keep [18, 109, 110, 111] [5, 9, 11, 13, 15, 18])
def i5_o33 : List II := [⟨(some 115), none, .fa 3 (.t 18)⟩,
      ⟨(some 116), none, .ld1 (.t 115)⟩,
      ⟨(some 117), none, .fa 3 (.t 18)⟩,
      ⟨(some 118), none, .ld1 (.t 117)⟩,
      ⟨(some 119), none, .len 0 (.t 118)⟩,
      ⟨(some 120), none, .bin .sub (.t 119) (.k (.int .i64 1))⟩,
      ⟨(some 121), none, .mx (.t 120) [(.k (.int .i64 0))]⟩,
      ⟨(some 122), none, .slc 11 (.t 116) none (some (.t 121))⟩,
      ⟨(some 123), none, .len 0 (.t 122)⟩,
      ⟨(some 124), none, .mv (.k (.int .i64 0))⟩]
def i5_r33 : IR := .seq (.reg i5_o33) (.keep [18, 109, 110, 111, 123, 124] [5, 9, 11, 13, 15, 18])
def i5_o34 : List II := [⟨(some 125), none, .bin .lss (.t 124) (.t 123)⟩]
def i5_r34 : IR := .seq (.reg i5_o34) (.keep [18, 109, 110, 111, 123, 124, 125] [5, 9, 11, 13, 15, 18])
def i5_o35 : List II := [⟨(some 126), none, .mv (.t 124)⟩,
      ⟨(some 19), none, .mv (.t 126)⟩]
def i5_r35 : IR := .seq (.reg i5_o35) (.keep [18, 19, 109, 110, 111, 123, 124] [5, 9, 11, 13, 15, 18])
def i5_o36 : List II := [⟨(some 127), none, .fa 3 (.t 18)⟩,
      ⟨(some 128), none, .ld1 (.t 127)⟩,
      ⟨(some 129), none, .mv (.t 19)⟩,
      ⟨(some 130), none, .bin .add (.t 129) (.k (.int .i64 1))⟩,
      ⟨(some 131), none, .ia 11 (.t 128) (.t 130)⟩,
      ⟨(some 132), none, .fa 2 (.t 131)⟩,
      ⟨(some 133), none, .ld1 (.t 132)⟩,
      ⟨(some 134), none, .build [.int .i64 0, .int .i64 0, .int .i64 0] [(1, 1, (.t 133))]⟩,
      ⟨(some 135), none, .fa 3 (.t 18)⟩,
      ⟨(some 136), none, .ld1 (.t 135)⟩,
      ⟨(some 137), none, .mv (.t 19)⟩,
      ⟨(some 138), none, .ia 11 (.t 136) (.t 137)⟩,
      ⟨(some 139), none, .fa 2 (.t 138)⟩,
      ⟨(some 140), none, .ld1 (.t 139)⟩,
      ⟨(some 141), none, .build [.int .i64 0, .int .i64 0, .int .i64 0] [(1, 1, (.t 140))]⟩,
      ⟨(some 142), none, .call 18 [(.t 134), (.t 141)]⟩]
def i5_r36 : IR := .seq (.drw 15 [[], [], [], [], [], [], [], [], [], [], [], [], [], [], []] i5_o36) (.keep [18, 109, 110, 111, 123, 124, 142] [5, 9, 11, 13, 15, 18])
def i5_o37 : List II := [⟨(some 4), none, .mv (.k (.bool false))⟩]
def i5_r37 : IR := .seq (.reg i5_o37) (.keep [4] [5, 9, 11, 13, 15, 18])
def i5_o38 : List II := [⟨(some 143), none, .bin .add (.t 124) (.k (.int .i64 1))⟩,
    ⟨(some 124), none, .mv (.t 143)⟩]
def i5_r38 : IR := .seq (.reg i5_o38) (.keep [18, 109, 110, 111, 123, 124] [5, 9, 11, 13, 15, 18])
def i5_l10 : IR := (.seq i5_r34
  (.seq (.cond (.t 125) .skip
    (.exit 10))
  (.seq (.block 11 (.seq i5_r35
    (.seq i5_r36
    (.cond (.t 142) (.seq i5_r37
      .ret)
      .skip))))
  i5_r38)))
def i5_o39 : List II := [⟨(some 144), none, .bin .add (.t 111) (.k (.int .i64 1))⟩,
    ⟨(some 111), none, .mv (.t 144)⟩]
def i5_r39 : IR := .seq (.reg i5_o39) (.keep [109, 110, 111] [5, 9, 11, 13, 15, 18])
def i5_l8 : IR := (.seq i5_r31
  (.seq (.cond (.t 112) .skip
    (.exit 8))
  (.seq (.block 9 (.seq i5_r32
    (.seq i5_r33
    (.block 10 (.loop i5_l10)))))
  i5_r39)))
def i5_o40 : List II := [⟨(some 4), none, .mv (.k (.bool true))⟩]
def i5_r40 : IR := .seq (.reg i5_o40) (.keep [4] [5, 9, 11, 13, 15, 18])
def i5 : IFn := ⟨(.seq i5_r0
  (.seq (.seq i5_r1
  (.cond (.t 31) (.seq i5_r2
    .ret)
    .skip))
  (.seq i5_r3
  (.seq i5_r4
  (.seq (.seq i5_r5
  (.block 0 (.loop i5_l0)))
  (.seq (.seq i5_r14
  (.block 4 (.loop i5_l4)))
  (.seq (.seq i5_r21
  (.cond (.t 79) (.seq i5_r22
    .ret)
    .skip))
  (.seq (.seq i5_r23
  (.block 6 (.loop i5_l6)))
  (.seq i5_r29
  (.seq (.seq i5_r30
  (.block 8 (.loop i5_l8)))
  (.seq i5_r40
  .ret))))))))))),
  [.tmp 4]⟩
def i7_o0 : List II := [⟨(some 0), none, .mv (.k (.bool false))⟩]
def i7_r0 : IR := .seq (.reg i7_o0) (.keep [] [1, 2])
def i7_o1 : List II := [⟨(some 5), none, .build [.int .i64 0, .str [], .str []] [(1, 1, (.k (.str [97])))]⟩,
    ⟨(some 6), none, .build [.int .i64 0, .int .i64 0, .bool false, .bool false, .int .i64 0, .bool false, .bool false, .int .i64 0, .int .i64 0, .int .i64 0, .int .i64 0, .str [], .str [], .bool false, .int .i64 0] [(0, 1, (.k (.int .i64 3))), (10, 3, (.t 5))]⟩,
    ⟨(some 7), none, .lit [.int .i64 0, .int .i64 0, .bool false, .bool false, .int .i64 0, .bool false, .bool false, .int .i64 0, .int .i64 0, .int .i64 0, .int .i64 0, .str [], .str [], .bool false, .int .i64 0] 1 [(0, (.t 6))]⟩,
    ⟨(some 8), none, .build [.str [], .sl false []] [(0, 1, (.k (.str [98, 46, 101, 113]))), (1, 1, (.t 7))]⟩,
    ⟨(some 1), none, .alloc [.d (.str []), .d (.sl false [])]⟩,
    ⟨none, none, .st 2 (.t 1) (.t 8)⟩]
def i7_r1 : IR := .seq (.reg i7_o1) (.keep [1] [1, 2])
def i7_o2 : List II := [⟨(some 10), none, .lit [.str []] 1 [(0, (.k (.str [97])))]⟩,
    ⟨(some 11), none, .ldn 2 (.t 1)⟩,
    ⟨(some 12), none, .build [.sl false [], .int .i64 0, .str [], .sl false [], .sl false [], .int .i64 0, .sl false [], .sl false []] [(0, 1, (.t 10)), (1, 1, (.k (.int .i64 1))), (2, 2, (.t 11))]⟩,
    ⟨(some 13), none, .build [.int .i64 0, .sl false [], .int .i64 0, .str [], .sl false [], .sl false [], .int .i64 0, .sl false [], .sl false []] [(0, 1, (.k (.int .i64 1))), (1, 8, (.t 12))]⟩,
    ⟨(some 14), none, .lit [.int .i64 0, .sl false [], .int .i64 0, .str [], .sl false [], .sl false [], .int .i64 0, .sl false [], .sl false []] 1 [(0, (.t 13))]⟩,
    ⟨(some 15), none, .call 9 [(.k (.int .i64 0)), (.t 14)]⟩,
    ⟨(some 9), none, .mv (.t 15)⟩,
    ⟨(some 16), none, .ext (.t 9) 0⟩,
    ⟨(some 17), none, .ext (.t 9) 1⟩,
    ⟨(some 2), none, .alloc [.d (.sl false []), .d (.sl false []), .d (.sl false [])]⟩,
    ⟨none, none, .st 3 (.t 2) (.t 16)⟩,
    ⟨(some 3), none, .mv (.t 17)⟩]
def i7_r2 : IR := .seq (.reg i7_o2) (.keep [2, 3] [1, 2])
def i7_o3 : List II := [⟨(some 18), none, .ldn 3 (.t 2)⟩,
    ⟨(some 19), none, .call 17 [(.t 18), (.k (.int .i64 0))]⟩,
    ⟨(some 4), none, .mv (.t 19)⟩]
def i7_r3 : IR := .seq (.reg i7_o3) (.keep [2, 3, 4] [1, 2])
def i7_o4 : List II := [⟨(some 20), none, .mv (.t 3)⟩,
    ⟨(some 21), none, .len 0 (.t 20)⟩,
    ⟨(some 22), none, .bin .eql (.t 21) (.k (.int .i64 0))⟩,
    ⟨(some 23), none, .mv (.t 22)⟩,
    ⟨(some 24), (some (23, true)), .fa 0 (.t 2)⟩,
    ⟨(some 25), (some (23, true)), .ld1 (.t 24)⟩,
    ⟨(some 26), (some (23, true)), .len 0 (.t 25)⟩,
    ⟨(some 27), (some (23, true)), .bin .eql (.t 26) (.k (.int .i64 1))⟩,
    ⟨(some 28), none, .pick (.t 23) (.t 27) (.k (.bool false))⟩,
    ⟨(some 29), none, .mv (.t 28)⟩,
    ⟨(some 30), (some (29, true)), .fa 0 (.t 2)⟩,
    ⟨(some 31), (some (29, true)), .ld1 (.t 30)⟩,
    ⟨(some 32), (some (29, true)), .ia 4 (.t 31) (.k (.int .i64 0))⟩,
    ⟨(some 33), (some (29, true)), .fa 3 (.t 32)⟩,
    ⟨(some 34), (some (29, true)), .ld1 (.t 33)⟩,
    ⟨(some 35), (some (29, true)), .len 0 (.t 34)⟩,
    ⟨(some 36), (some (29, true)), .bin .eql (.t 35) (.k (.int .i64 1))⟩,
    ⟨(some 37), none, .pick (.t 29) (.t 36) (.k (.bool false))⟩,
    ⟨(some 38), none, .mv (.t 37)⟩,
    ⟨(some 39), (some (38, true)), .fa 0 (.t 2)⟩,
    ⟨(some 40), (some (38, true)), .ld1 (.t 39)⟩,
    ⟨(some 41), (some (38, true)), .ia 4 (.t 40) (.k (.int .i64 0))⟩,
    ⟨(some 42), (some (38, true)), .fa 3 (.t 41)⟩,
    ⟨(some 43), (some (38, true)), .ld1 (.t 42)⟩,
    ⟨(some 44), (some (38, true)), .ia 11 (.t 43) (.k (.int .i64 0))⟩,
    ⟨(some 45), (some (38, true)), .fa 0 (.t 44)⟩,
    ⟨(some 46), (some (38, true)), .ld1 (.t 45)⟩,
    ⟨(some 47), (some (38, true)), .bin .eql (.t 46) (.k (.int .i64 2))⟩,
    ⟨(some 48), none, .pick (.t 38) (.t 47) (.k (.bool false))⟩,
    ⟨(some 49), none, .mv (.t 48)⟩,
    ⟨(some 50), (some (49, true)), .fa 1 (.t 2)⟩,
    ⟨(some 51), (some (49, true)), .ld1 (.t 50)⟩,
    ⟨(some 52), (some (49, true)), .len 0 (.t 51)⟩,
    ⟨(some 53), (some (49, true)), .bin .eql (.t 52) (.k (.int .i64 1))⟩,
    ⟨(some 54), none, .pick (.t 49) (.t 53) (.k (.bool false))⟩,
    ⟨(some 55), none, .mv (.t 54)⟩,
    ⟨(some 56), (some (55, true)), .mv (.t 4)⟩,
    ⟨(some 57), (some (55, true)), .len 0 (.t 56)⟩,
    ⟨(some 58), (some (55, true)), .bin .eql (.t 57) (.k (.int .i64 1))⟩,
    ⟨(some 59), none, .pick (.t 55) (.t 58) (.k (.bool false))⟩,
    ⟨(some 60), none, .mv (.t 59)⟩,
    ⟨(some 61), (some (60, true)), .mv (.t 4)⟩,
    ⟨(some 62), (some (60, true)), .ia 7 (.t 61) (.k (.int .i64 0))⟩,
    ⟨(some 63), (some (60, true)), .ldn 7 (.t 62)⟩,
    ⟨(some 64), (some (60, true)), .build [.int .i64 0, .int .i64 0, .int .i64 0, .int .i64 0, .int .i64 0, .int .i64 0, .int .i64 0] [(0, 1, (.k (.int .i64 3))), (5, 1, (.k (.int .i64 (-1048576)))), (6, 1, (.k (.int .i64 1048572)))]⟩,
    ⟨(some 65), (some (60, true)), .eqa false [1, 1, 1, 1, 1, 1, 1] (.t 63) (.t 64)⟩,
    ⟨(some 66), none, .pick (.t 60) (.t 65) (.k (.bool false))⟩,
    ⟨(some 0), none, .mv (.t 66)⟩]
def i7_r4 : IR := .seq (.reg i7_o4) (.keep [0] [1, 2])
def i7 : IFn := ⟨(.seq i7_r0
  (.seq i7_r1
  (.seq i7_r2
  (.seq i7_r3
  (.seq i7_r4
  .ret))))),
  [.tmp 0]⟩
def i8_o0 : List II := [⟨(some 2), none, .mv (.k (.bool false))⟩]
def i8_r0 : IR := .seq (.reg i8_o0) (.keep [0] [])
def i8_o1 : List II := [⟨(some 3), none, .mv (.t 0)⟩,
    ⟨(some 4), none, .len 0 (.t 3)⟩,
    ⟨(some 5), none, .bin .leq (.t 4) (.k (.int .i64 300))⟩,
    ⟨(some 2), none, .mv (.t 5)⟩]
def i8_r1 : IR := .seq (.reg i8_o1) (.keep [2] [])
def i8 : IFn := ⟨(.seq i8_r0
  (.seq i8_r1
  .ret)),
  [.tmp 2]⟩
def i9_o0 : List II := [⟨(some 4), none, .alloc [.d (.sl false []), .d (.sl false []), .d (.sl false [])]⟩,
    ⟨(some 5), none, .mv (.k (.sl false []))⟩]
def i9_r0 : IR := .seq (.reg i9_o0) (.keep [0, 1, 4] [4, 8, 11, 14])
def i9_o1 : List II := [⟨(some 11), none, .mkmap⟩,
    ⟨(some 12), none, .mv (.t 0)⟩,
    ⟨(some 13), none, .build [.sl false [], .sl false [], .sl false [], .nilm, .sl false [], .int .i64 0, .int .i64 0, .str []] [(3, 1, (.t 11)), (5, 1, (.t 12)), (7, 1, (.k (.str [46, 116, 101, 120, 116])))]⟩,
    ⟨(some 14), none, .box 8 [(0, 4), (1, 9), (2, 3), (4, 3)] (.t 13)⟩,
    ⟨(some 6), none, .mv (.t 14)⟩]
def i9_r1 : IR := .seq (.reg i9_o1) (.keep [1, 4, 6] [4, 8, 11, 14])
def i9_o2 : List II := [⟨(some 15), none, .mv (.t 1)⟩,
    ⟨(some 16), none, .len 0 (.t 15)⟩,
    ⟨(some 17), none, .mv (.k (.int .i64 0))⟩]
def i9_r2 : IR := .seq (.reg i9_o2) (.keep [4, 6, 15, 16, 17] [4, 8, 11, 14])
def i9_o3 : List II := [⟨(some 18), none, .bin .lss (.t 17) (.t 16)⟩]
def i9_r3 : IR := .seq (.reg i9_o3) (.keep [4, 6, 15, 16, 17, 18] [4, 8, 11, 14])
def i9_o4 : List II := [⟨(some 19), none, .ia 9 (.t 15) (.t 17)⟩,
      ⟨(some 20), none, .ldn 9 (.t 19)⟩,
      ⟨(some 8), none, .alloc [.d (.int .i64 0), .d (.sl false []), .d (.int .i64 0), .d (.str []), .d (.sl false []), .d (.sl false []), .d (.int .i64 0), .d (.sl false []), .d (.sl false [])]⟩,
      ⟨none, none, .st 9 (.t 8) (.t 20)⟩]
def i9_r4 : IR := .seq (.reg i9_o4) (.keep [4, 6, 8, 15, 16, 17] [4, 8, 11, 14])
def i9_o5 : List II := [⟨(some 21), none, .mv (.t 6)⟩,
      ⟨(some 22), none, .fa 0 (.t 8)⟩,
      ⟨(some 23), none, .ld1 (.t 22)⟩,
      ⟨(some 24), none, .nck (.t 21)⟩,
      ⟨(some 25), none, .fa 6 (.t 24)⟩,
      ⟨none, none, .st 1 (.t 25) (.t 23)⟩]
def i9_r5 : IR := .seq (.reg i9_o5) (.keep [4, 6, 8, 15, 16, 17] [4, 8, 11, 14])
def i9_o6 : List II := [⟨(some 26), none, .fa 1 (.t 8)⟩,
      ⟨(some 27), none, .fa 0 (.t 26)⟩,
      ⟨(some 28), none, .ld1 (.t 27)⟩,
      ⟨(some 29), none, .len 0 (.t 28)⟩,
      ⟨(some 30), none, .mv (.k (.int .i64 0))⟩]
def i9_r6 : IR := .seq (.reg i9_o6) (.keep [4, 6, 8, 15, 16, 17, 28, 29, 30] [4, 8, 11, 14])
def i9_o7 : List II := [⟨(some 31), none, .bin .lss (.t 30) (.t 29)⟩]
def i9_r7 : IR := .seq (.reg i9_o7) (.keep [4, 6, 8, 15, 16, 17, 28, 29, 30, 31] [4, 8, 11, 14])
def i9_o8 : List II := [⟨(some 32), none, .ia 1 (.t 28) (.t 30)⟩,
      ⟨(some 33), none, .ld1 (.t 32)⟩,
      ⟨(some 10), none, .mv (.t 33)⟩]
def i9_r8 : IR := .seq (.reg i9_o8) (.keep [4, 6, 8, 10, 15, 16, 17, 28, 29, 30] [4, 8, 11, 14])
def i9_o9 : List II := [⟨(some 34), none, .mv (.t 6)⟩,
      ⟨(some 35), none, .mv (.t 10)⟩,
      ⟨(some 36), none, .build [.str [], .int .i64 0, .int .i64 0, .int .i64 0, .int .i64 0, .bool false, .int .i64 0, .str [], .str []] [(0, 1, (.t 35))]⟩,
      ⟨(some 37), none, .call 26 [(.t 34), (.t 36)]⟩]
def i9_r9 : IR := .seq (.reg i9_o9) (.keep [4, 6, 8, 15, 16, 17, 28, 29, 30] [4, 8, 11, 14])
def i9_o10 : List II := [⟨(some 38), none, .bin .add (.t 30) (.k (.int .i64 1))⟩,
    ⟨(some 30), none, .mv (.t 38)⟩]
def i9_r10 : IR := .seq (.reg i9_o10) (.keep [4, 6, 8, 15, 16, 17, 28, 29, 30] [4, 8, 11, 14])
def i9_l2 : IR := (.seq i9_r7
  (.seq (.cond (.t 31) .skip
    (.exit 2))
  (.seq (.block 3 (.seq i9_r8
    i9_r9))
  i9_r10)))
def i9_o11 : List II := [⟨(some 39), none, .mv (.t 6)⟩,
      ⟨(some 40), none, .fa 1 (.t 8)⟩,
      ⟨(some 41), none, .ldn 8 (.t 40)⟩,
      ⟨(some 42), none, .call 27 [(.t 39), (.t 41)]⟩]
def i9_r11 : IR := .seq (.reg i9_o11) (.keep [4, 6, 15, 16, 17] [4, 8, 11, 14])
def i9_o12 : List II := [⟨(some 43), none, .bin .add (.t 17) (.k (.int .i64 1))⟩,
    ⟨(some 17), none, .mv (.t 43)⟩]
def i9_r12 : IR := .seq (.reg i9_o12) (.keep [4, 6, 15, 16, 17] [4, 8, 11, 14])
def i9_l0 : IR := (.seq i9_r3
  (.seq (.cond (.t 18) .skip
    (.exit 0))
  (.seq (.block 1 (.seq i9_r4
    (.seq i9_r5
    (.seq (.seq i9_r6
    (.block 2 (.loop i9_l2)))
    i9_r11))))
  i9_r12)))
def i9_o13 : List II := [⟨(some 44), none, .mv (.t 6)⟩,
    ⟨(some 45), none, .nck (.t 44)⟩,
    ⟨(some 46), none, .fa 0 (.t 45)⟩,
    ⟨(some 47), none, .ldn 3 (.t 46)⟩,
    ⟨(some 48), none, .mv (.t 6)⟩,
    ⟨(some 49), none, .nck (.t 48)⟩,
    ⟨(some 50), none, .fa 4 (.t 49)⟩,
    ⟨(some 51), none, .ld1 (.t 50)⟩,
    ⟨none, none, .st 3 (.t 4) (.t 47)⟩,
    ⟨(some 5), none, .mv (.t 51)⟩]
def i9_r13 : IR := .seq (.drw 9 [[], [], [], [], [], [], [], [], [4, 5, 6, 7]] i9_o13) (.keep [4, 5] [4, 8, 11, 14])
def i9 : IFn := ⟨(.seq i9_r0
  (.seq i9_r1
  (.seq (.seq i9_r2
  (.block 0 (.loop i9_l0)))
  (.seq ((.seq (.frz 6) i9_r13))
  .ret)))),
  [.cell 4 3, .tmp 5]⟩
def i11_o0 : List II := [⟨(some 1), none, .box 2 [] (.t 0)⟩,
    ⟨(some 2), none, .mv (.k (.int .i64 0))⟩,
    ⟨(some 3), none, .mv (.k (.int .i64 0))⟩,
    ⟨(some 4), none, .mv (.k (.bool false))⟩]
def i11_r0 : IR := .seq (.reg i11_o0) (.keep [1] [1, 5])
def i11_o1 : List II := [⟨(some 6), none, .fa 1 (.t 1)⟩,
    ⟨(some 7), none, .ld1 (.t 6)⟩,
    ⟨(some 8), none, .len 0 (.t 7)⟩,
    ⟨(some 9), none, .bin .eql (.t 8) (.k (.int .i64 0))⟩]
def i11_r1 : IR := .seq (.reg i11_o1) (.keep [1, 9] [1, 5])
def i11_o2 : List II := [⟨(some 2), none, .mv (.k (.int .i64 0))⟩,
      ⟨(some 3), none, .mv (.k (.int .i64 0))⟩,
      ⟨(some 4), none, .mv (.k (.bool false))⟩]
def i11_r2 : IR := .seq (.reg i11_o2) (.keep [2, 3, 4] [1, 5])
def i11_o3 : List II := [⟨(some 10), none, .fa 1 (.t 1)⟩,
    ⟨(some 11), none, .ld1 (.t 10)⟩,
    ⟨(some 12), none, .fa 1 (.t 1)⟩,
    ⟨(some 13), none, .ld1 (.t 12)⟩,
    ⟨(some 14), none, .len 0 (.t 13)⟩,
    ⟨(some 15), none, .bin .sub (.t 14) (.k (.int .i64 1))⟩,
    ⟨(some 16), none, .ia 15 (.t 11) (.t 15)⟩,
    ⟨(some 17), none, .ldn 15 (.t 16)⟩,
    ⟨(some 5), none, .alloc [.d (.int .i64 0), .d (.int .i64 0), .d (.bool false), .d (.bool false), .d (.int .i64 0), .d (.bool false), .d (.bool false), .d (.int .i64 0), .d (.int .i64 0), .d (.int .i64 0), .d (.int .i64 0), .d (.str []), .d (.str []), .d (.bool false), .d (.int .i64 0)]⟩,
    ⟨none, none, .st 15 (.t 5) (.t 17)⟩]
def i11_r3 : IR := .seq (.reg i11_o3) (.keep [1, 5] [1, 5])
def i11_o4 : List II := [⟨(some 18), none, .fa 0 (.t 5)⟩,
    ⟨(some 19), none, .ld1 (.t 18)⟩,
    ⟨(some 20), none, .bin .neq (.t 19) (.k (.int .i64 3))⟩,
    ⟨(some 21), none, .mv (.t 20)⟩,
    ⟨(some 22), (some (21, false)), .fa 10 (.t 5)⟩,
    ⟨(some 23), (some (21, false)), .fa 1 (.t 22)⟩,
    ⟨(some 24), (some (21, false)), .ld1 (.t 23)⟩,
    ⟨(some 25), (some (21, false)), .bin .eql (.t 24) (.k (.str []))⟩,
    ⟨(some 26), none, .pick (.t 21) (.k (.bool true)) (.t 25)⟩,
    ⟨(some 27), none, .mv (.t 26)⟩,
    ⟨(some 28), (some (27, false)), .fa 10 (.t 5)⟩,
    ⟨(some 29), (some (27, false)), .fa 1 (.t 28)⟩,
    ⟨(some 30), (some (27, false)), .ld1 (.t 29)⟩,
    ⟨(some 31), (some (27, false)), .bin .eql (.t 30) (.k (.str [46]))⟩,
    ⟨(some 32), none, .pick (.t 27) (.k (.bool true)) (.t 31)⟩,
    ⟨(some 33), none, .mv (.t 32)⟩,
    ⟨(some 34), (some (33, false)), .fa 10 (.t 5)⟩,
    ⟨(some 35), (some (33, false)), .fa 2 (.t 34)⟩,
    ⟨(some 36), (some (33, false)), .ld1 (.t 35)⟩,
    ⟨(some 37), (some (33, false)), .bin .neq (.t 36) (.k (.str []))⟩,
    ⟨(some 38), none, .pick (.t 33) (.k (.bool true)) (.t 37)⟩]
def i11_r4 : IR := .seq (.reg i11_o4) (.keep [1, 38] [1, 5])
def i11_o5 : List II := [⟨(some 2), none, .mv (.k (.int .i64 0))⟩,
      ⟨(some 3), none, .mv (.k (.int .i64 0))⟩,
      ⟨(some 4), none, .mv (.k (.bool false))⟩]
def i11_r5 : IR := .seq (.reg i11_o5) (.keep [2, 3, 4] [1, 5])
def i11_o6 : List II := [⟨(some 40), none, .fa 0 (.t 1)⟩,
      ⟨(some 41), none, .ld1 (.t 40)⟩,
      ⟨(some 42), none, .bin .eql (.t 41) (.k (.str [116, 98, 122]))⟩,
      ⟨(some 39), none, .mv (.t 42)⟩]
def i11_r6 : IR := .seq (.reg i11_o6) (.keep [1, 39] [1, 5])
def i11_o7 : List II := [⟨(some 43), none, .fa 0 (.t 1)⟩,
        ⟨(some 44), none, .ld1 (.t 43)⟩,
        ⟨(some 45), none, .bin .eql (.t 44) (.k (.str [116, 98, 110, 122]))⟩,
        ⟨(some 39), none, .mv (.t 45)⟩]
def i11_r7 : IR := .seq (.reg i11_o7) (.keep [1, 39] [1, 5])
def i11_o8 : List II := [⟨(some 2), none, .mv (.k (.int .i64 (-32768)))⟩,
        ⟨(some 3), none, .mv (.k (.int .i64 32764))⟩,
        ⟨(some 4), none, .mv (.k (.bool true))⟩]
def i11_r8 : IR := .seq (.reg i11_o8) (.keep [2, 3, 4] [1, 5])
def i11_o9 : List II := [⟨(some 47), none, .fa 0 (.t 1)⟩,
        ⟨(some 48), none, .ld1 (.t 47)⟩,
        ⟨(some 49), none, .bin .eql (.t 48) (.k (.str [99, 98, 122]))⟩,
        ⟨(some 46), none, .mv (.t 49)⟩]
def i11_r9 : IR := .seq (.reg i11_o9) (.keep [1, 46] [1, 5])
def i11_o10 : List II := [⟨(some 50), none, .fa 0 (.t 1)⟩,
          ⟨(some 51), none, .ld1 (.t 50)⟩,
          ⟨(some 52), none, .bin .eql (.t 51) (.k (.str [99, 98, 110, 122]))⟩,
          ⟨(some 46), none, .mv (.t 52)⟩]
def i11_r10 : IR := .seq (.reg i11_o10) (.keep [1, 46] [1, 5])
def i11_o11 : List II := [⟨(some 53), none, .fa 0 (.t 1)⟩,
            ⟨(some 54), none, .ld1 (.t 53)⟩,
            ⟨(some 55), none, .call 30 [(.t 54), (.k (.str [98, 46]))]⟩,
            ⟨(some 46), none, .mv (.t 55)⟩]
def i11_r11 : IR := .seq (.reg i11_o11) (.keep [46] [1, 5])
def i11_o12 : List II := [⟨(some 2), none, .mv (.k (.int .i64 (-1048576)))⟩,
          ⟨(some 3), none, .mv (.k (.int .i64 1048572))⟩,
          ⟨(some 4), none, .mv (.k (.bool true))⟩]
def i11_r12 : IR := .seq (.reg i11_o12) (.keep [2, 3, 4] [1, 5])
def i11_o13 : List II := [⟨(some 2), none, .mv (.k (.int .i64 0))⟩,
    ⟨(some 3), none, .mv (.k (.int .i64 0))⟩,
    ⟨(some 4), none, .mv (.k (.bool false))⟩]
def i11_r13 : IR := .seq (.reg i11_o13) (.keep [2, 3, 4] [1, 5])
def i11 : IFn := ⟨(.seq i11_r0
  (.seq (.seq i11_r1
  (.cond (.t 9) (.seq i11_r2
    .ret)
    .skip))
  (.seq i11_r3
  (.seq (.seq i11_r4
  (.cond (.t 38) (.seq i11_r5
    .ret)
    .skip))
  (.seq (.block 0 (.seq (.seq i11_r6
    (.cond (.t 39) .skip
      i11_r7))
    (.cond (.t 39) (.seq i11_r8
      .ret)
      (.seq (.seq i11_r9
      (.cond (.t 46) .skip
        (.seq i11_r10
        (.cond (.t 46) .skip
          i11_r11))))
      (.cond (.t 46) (.seq i11_r12
        .ret)
        .skip)))))
  (.seq i11_r13
  .ret)))))),
  [.tmp 2, .tmp 3, .tmp 4]⟩
def i15_o0 : List II := [⟨(some 2), none, .mv (.k (.bool false))⟩]
def i15_r0 : IR := .seq (.reg i15_o0) (.keep [0] [5, 7])
def i15_o1 : List II := [⟨(some 3), none, .mv (.k (.int .i64 0))⟩]
def i15_r1 : IR := .seq (.reg i15_o1) (.keep [0, 3] [5, 7])
def i15_o2 : List II := [⟨(some 8), none, .mv (.t 0)⟩,
    ⟨(some 9), none, .mv (.t 0)⟩,
    ⟨(some 10), none, .len 0 (.t 9)⟩,
    ⟨(some 11), none, .mn (.t 10) [(.k (.int .i64 40))]⟩,
    ⟨(some 12), none, .slc 3 (.t 8) none (some (.t 11))⟩,
    ⟨(some 13), none, .len 0 (.t 12)⟩,
    ⟨(some 14), none, .mv (.k (.int .i64 0))⟩]
def i15_r2 : IR := .seq (.reg i15_o2) (.keep [0, 3, 12, 13, 14] [5, 7])
def i15_o3 : List II := [⟨(some 15), none, .bin .lss (.t 14) (.t 13)⟩]
def i15_r3 : IR := .seq (.reg i15_o3) (.keep [0, 3, 12, 13, 14, 15] [5, 7])
def i15_o4 : List II := [⟨(some 16), none, .ia 3 (.t 12) (.t 14)⟩,
      ⟨(some 17), none, .ldn 3 (.t 16)⟩,
      ⟨(some 5), none, .alloc [.d (.sl false []), .d (.sl false []), .d (.sl false [])]⟩,
      ⟨none, none, .st 3 (.t 5) (.t 17)⟩]
def i15_r4 : IR := .seq (.reg i15_o4) (.keep [0, 3, 5, 12, 13, 14] [5, 7])
def i15_o5 : List II := [⟨(some 18), none, .fa 0 (.t 5)⟩,
      ⟨(some 19), none, .ld1 (.t 18)⟩,
      ⟨(some 20), none, .len 0 (.t 19)⟩,
      ⟨(some 21), none, .bin .gtr (.t 20) (.k (.int .i64 150))⟩,
      ⟨(some 22), none, .mv (.t 21)⟩,
      ⟨(some 23), (some (22, false)), .fa 1 (.t 5)⟩,
      ⟨(some 24), (some (22, false)), .ld1 (.t 23)⟩,
      ⟨(some 25), (some (22, false)), .len 0 (.t 24)⟩,
      ⟨(some 26), (some (22, false)), .bin .gtr (.t 25) (.k (.int .i64 300))⟩,
      ⟨(some 27), none, .pick (.t 22) (.k (.bool true)) (.t 26)⟩,
      ⟨(some 28), none, .mv (.t 27)⟩,
      ⟨(some 29), (some (28, false)), .fa 2 (.t 5)⟩,
      ⟨(some 30), (some (28, false)), .ld1 (.t 29)⟩,
      ⟨(some 31), (some (28, false)), .len 0 (.t 30)⟩,
      ⟨(some 32), (some (28, false)), .bin .gtr (.t 31) (.k (.int .i64 300))⟩,
      ⟨(some 33), none, .pick (.t 28) (.k (.bool true)) (.t 32)⟩]
def i15_r5 : IR := .seq (.reg i15_o5) (.keep [0, 3, 5, 12, 13, 14, 33] [5, 7])
def i15_o6 : List II := [⟨(some 2), none, .mv (.k (.bool false))⟩]
def i15_r6 : IR := .seq (.reg i15_o6) (.keep [2] [5, 7])
def i15_o7 : List II := [⟨(some 34), none, .fa 0 (.t 5)⟩,
      ⟨(some 35), none, .ld1 (.t 34)⟩,
      ⟨(some 36), none, .len 0 (.t 35)⟩,
      ⟨(some 37), none, .mv (.k (.int .i64 0))⟩]
def i15_r7 : IR := .seq (.reg i15_o7) (.keep [0, 3, 12, 13, 14, 35, 36, 37] [5, 7])
def i15_o8 : List II := [⟨(some 38), none, .bin .lss (.t 37) (.t 36)⟩]
def i15_r8 : IR := .seq (.reg i15_o8) (.keep [0, 3, 12, 13, 14, 35, 36, 37, 38] [5, 7])
def i15_o9 : List II := [⟨(some 39), none, .ia 4 (.t 35) (.t 37)⟩,
      ⟨(some 40), none, .ldn 4 (.t 39)⟩,
      ⟨(some 7), none, .alloc [.d (.str []), .d (.int .i64 0), .d (.int .i64 0), .d (.sl false [])]⟩,
      ⟨none, none, .st 4 (.t 7) (.t 40)⟩]
def i15_r9 : IR := .seq (.reg i15_o9) (.keep [0, 3, 7, 12, 13, 14, 35, 36, 37] [5, 7])
def i15_o10 : List II := [⟨(some 41), none, .mv (.t 3)⟩,
      ⟨(some 42), none, .fa 3 (.t 7)⟩,
      ⟨(some 43), none, .ld1 (.t 42)⟩,
      ⟨(some 44), none, .len 0 (.t 43)⟩,
      ⟨(some 45), none, .bin .add (.t 41) (.t 44)⟩,
      ⟨(some 46), none, .mn (.t 45) [(.k (.int .i64 1048576))]⟩,
      ⟨(some 3), none, .mv (.t 46)⟩]
def i15_r10 : IR := .seq (.reg i15_o10) (.keep [0, 3, 12, 13, 14, 35, 36, 37] [5, 7])
def i15_o11 : List II := [⟨(some 47), none, .bin .add (.t 37) (.k (.int .i64 1))⟩,
    ⟨(some 37), none, .mv (.t 47)⟩]
def i15_r11 : IR := .seq (.reg i15_o11) (.keep [0, 3, 12, 13, 14, 35, 36, 37] [5, 7])
def i15_l2 : IR := (.seq i15_r8
  (.seq (.cond (.t 38) .skip
    (.exit 2))
  (.seq (.block 3 (.seq i15_r9
    i15_r10))
  i15_r11)))
def i15_o12 : List II := [⟨(some 48), none, .bin .add (.t 14) (.k (.int .i64 1))⟩,
    ⟨(some 14), none, .mv (.t 48)⟩]
def i15_r12 : IR := .seq (.reg i15_o12) (.keep [0, 3, 12, 13, 14] [5, 7])
def i15_l0 : IR := (.seq i15_r3
  (.seq (.cond (.t 15) .skip
    (.exit 0))
  (.seq (.block 1 (.seq i15_r4
    (.seq (.seq i15_r5
    (.cond (.t 33) (.seq i15_r6
      .ret)
      .skip))
    (.seq i15_r7
    (.block 2 (.loop i15_l2))))))
  i15_r12)))
def i15_o13 : List II := [⟨(some 49), none, .mv (.t 0)⟩,
    ⟨(some 50), none, .len 0 (.t 49)⟩,
    ⟨(some 51), none, .bin .leq (.t 50) (.k (.int .i64 40))⟩,
    ⟨(some 52), none, .mv (.t 51)⟩,
    ⟨(some 53), (some (52, true)), .mv (.t 3)⟩,
    ⟨(some 54), (some (52, true)), .bin .leq (.t 53) (.k (.int .i64 2000))⟩,
    ⟨(some 55), none, .pick (.t 52) (.t 54) (.k (.bool false))⟩,
    ⟨(some 2), none, .mv (.t 55)⟩]
def i15_r13 : IR := .seq (.reg i15_o13) (.keep [2] [5, 7])
def i15 : IFn := ⟨(.seq i15_r0
  (.seq i15_r1
  (.seq (.seq i15_r2
  (.block 0 (.loop i15_l0)))
  (.seq i15_r13
  .ret)))),
  [.tmp 2]⟩
def i16_o0 : List II := [⟨(some 2), none, .alloc [.d (.sl false []), .d (.sl false []), .d (.sl false [])]⟩]
def i16_r0 : IR := .seq (.reg i16_o0) (.keep [0, 2] [2, 3, 6, 7, 8, 10, 14, 16, 17, 57, 62, 72, 99, 142, 149])
def i16_o1 : List II := [⟨(some 3), none, .alloc [.own 4 false [], .own 9 false [], .own 3 false []]⟩]
def i16_r1 : IR := .seq (.reg i16_o1) (.keep [0, 2, 3] [2, 3, 6, 7, 8, 10, 14, 16, 17, 57, 62, 72, 99, 142, 149])
def i16_o2 : List II := [⟨(some 17), none, .mkmap⟩,
    ⟨(some 4), none, .mv (.t 17)⟩]
def i16_r2 : IR := .seq (.reg i16_o2) (.keep [0, 2, 3, 4] [2, 3, 6, 7, 8, 10, 14, 16, 17, 57, 62, 72, 99, 142, 149])
def i16_o3 : List II := [⟨(some 18), none, .mv (.t 0)⟩,
    ⟨(some 19), none, .len 0 (.t 18)⟩,
    ⟨(some 20), none, .mv (.k (.int .i64 0))⟩]
def i16_r3 : IR := .seq (.reg i16_o3) (.keep [2, 3, 4, 18, 19, 20] [2, 3, 6, 7, 8, 10, 14, 16, 17, 57, 62, 72, 99, 142, 149])
def i16_o4 : List II := [⟨(some 21), none, .bin .lss (.t 20) (.t 19)⟩]
def i16_r4 : IR := .seq (.reg i16_o4) (.keep [2, 3, 4, 18, 19, 20, 21] [2, 3, 6, 7, 8, 10, 14, 16, 17, 57, 62, 72, 99, 142, 149])
def i16_o5 : List II := [⟨(some 22), none, .ia 3 (.t 18) (.t 20)⟩,
      ⟨(some 23), none, .ldn 3 (.t 22)⟩,
      ⟨(some 6), none, .alloc [.d (.sl false []), .d (.sl false []), .d (.sl false [])]⟩,
      ⟨none, none, .st 3 (.t 6) (.t 23)⟩]
def i16_r5 : IR := .seq (.reg i16_o5) (.keep [2, 3, 4, 6, 18, 19, 20] [2, 3, 6, 7, 8, 10, 14, 16, 17, 57, 62, 72, 99, 142, 149])
def i16_o6 : List II := [⟨(some 7), none, .mkrow 1⟩,
      ⟨(some 8), none, .mkrow 1⟩]
def i16_r6 : IR := .seq (.reg i16_o6) (.keep [2, 3, 4, 6, 7, 8, 18, 19, 20] [2, 3, 6, 7, 8, 10, 14, 16, 17, 57, 62, 72, 99, 142, 149])
def i16_o7 : List II := [⟨(some 24), none, .fa 0 (.t 6)⟩,
      ⟨(some 25), none, .ld1 (.t 24)⟩,
      ⟨(some 26), none, .len 0 (.t 25)⟩,
      ⟨(some 27), none, .mv (.k (.int .i64 0))⟩]
def i16_r7 : IR := .seq (.reg i16_o7) (.keep [2, 3, 4, 6, 7, 8, 18, 19, 20, 25, 26, 27] [2, 3, 6, 7, 8, 10, 14, 16, 17, 57, 62, 72, 99, 142, 149])
def i16_o8 : List II := [⟨(some 28), none, .bin .lss (.t 27) (.t 26)⟩]
def i16_r8 : IR := .seq (.reg i16_o8) (.keep [2, 3, 4, 6, 7, 8, 18, 19, 20, 25, 26, 27, 28] [2, 3, 6, 7, 8, 10, 14, 16, 17, 57, 62, 72, 99, 142, 149])
def i16_o9 : List II := [⟨(some 29), none, .ia 4 (.t 25) (.t 27)⟩,
      ⟨(some 30), none, .ldn 4 (.t 29)⟩,
      ⟨(some 10), none, .alloc [.d (.str []), .d (.int .i64 0), .d (.int .i64 0), .d (.sl false [])]⟩,
      ⟨none, none, .st 4 (.t 10) (.t 30)⟩]
def i16_r9 : IR := .seq (.reg i16_o9) (.keep [2, 3, 4, 6, 7, 8, 10, 18, 19, 20, 25, 26, 27] [2, 3, 6, 7, 8, 10, 14, 16, 17, 57, 62, 72, 99, 142, 149])
def i16_o10 : List II := [⟨(some 32), none, .mv (.t 4)⟩,
      ⟨(some 33), none, .fa 0 (.t 10)⟩,
      ⟨(some 34), none, .ld1 (.t 33)⟩,
      ⟨(some 35), none, .look false [2] (.int .i64 0) true (.t 32) (.t 34)⟩,
      ⟨(some 31), none, .mv (.t 35)⟩,
      ⟨(some 36), none, .ext (.t 31) 0⟩,
      ⟨(some 37), none, .ext (.t 31) 1⟩,
      ⟨(some 11), none, .mv (.t 36)⟩,
      ⟨(some 12), none, .mv (.t 37)⟩]
def i16_r10 : IR := .seq (.reg i16_o10) (.keep [2, 3, 4, 6, 7, 8, 10, 11, 12, 18, 19, 20, 25, 26, 27] [2, 3, 6, 7, 8, 10, 14, 16, 17, 57, 62, 72, 99, 142, 149])
def i16_o11 : List II := [⟨(some 38), none, .mv (.t 12)⟩,
      ⟨(some 39), none, .un .not (.t 38)⟩]
def i16_r11 : IR := .seq (.reg i16_o11) (.keep [2, 3, 4, 6, 7, 8, 10, 11, 18, 19, 20, 25, 26, 27, 39] [2, 3, 6, 7, 8, 10, 14, 16, 17, 57, 62, 72, 99, 142, 149])
def i16_o12 : List II := [⟨(some 40), none, .fa 0 (.t 3)⟩,
        ⟨(some 41), none, .ld1 (.t 40)⟩,
        ⟨(some 42), none, .len 0 (.t 41)⟩,
        ⟨(some 11), none, .mv (.t 42)⟩]
def i16_r12 : IR := .seq (.reg i16_o12) (.keep [2, 3, 4, 6, 7, 8, 10, 11, 18, 19, 20, 25, 26, 27] [2, 3, 6, 7, 8, 10, 14, 16, 17, 57, 62, 72, 99, 142, 149])
def i16_o13 : List II := [⟨(some 43), none, .mv (.t 4)⟩,
        ⟨(some 44), none, .fa 0 (.t 10)⟩,
        ⟨(some 45), none, .ld1 (.t 44)⟩,
        ⟨(some 46), none, .mv (.t 11)⟩,
        ⟨none, none, .upd false [2] (.t 43) (.t 45) (.t 46)⟩]
def i16_r13 : IR := .seq (.reg i16_o13) (.keep [2, 3, 4, 6, 7, 8, 10, 11, 18, 19, 20, 25, 26, 27] [2, 3, 6, 7, 8, 10, 14, 16, 17, 57, 62, 72, 99, 142, 149])
def i16_o14 : List II := [⟨(some 47), none, .fa 0 (.t 3)⟩,
        ⟨(some 48), none, .ld1 (.t 47)⟩,
        ⟨(some 49), none, .fa 0 (.t 10)⟩,
        ⟨(some 50), none, .ld1 (.t 49)⟩,
        ⟨(some 51), none, .fa 1 (.t 10)⟩,
        ⟨(some 52), none, .ld1 (.t 51)⟩,
        ⟨(some 53), none, .fa 2 (.t 10)⟩,
        ⟨(some 54), none, .ld1 (.t 53)⟩,
        ⟨(some 55), none, .build [.str [], .int .i64 0, .int .i64 0, .sl false []] [(0, 1, (.t 50)), (1, 1, (.t 52)), (2, 1, (.t 54))]⟩,
        ⟨(some 56), none, .lit [.str [], .int .i64 0, .int .i64 0, .sl false []] 1 [(0, (.t 55))]⟩,
        ⟨(some 57), none, .app false [(3, 11)] 4 56 (.t 48) (.t 56)⟩,
        ⟨(some 58), none, .fa 0 (.t 3)⟩,
        ⟨none, none, .st 1 (.t 58) (.t 57)⟩]
def i16_r14 : IR := .seq (.reg i16_o14) (.keep [2, 3, 4, 6, 7, 8, 10, 11, 18, 19, 20, 25, 26, 27] [2, 3, 6, 7, 8, 10, 14, 16, 17, 57, 62, 72, 99, 142, 149])
def i16_o15 : List II := [⟨(some 59), none, .mv (.t 7)⟩,
      ⟨(some 60), none, .mv (.t 11)⟩,
      ⟨(some 61), none, .lit [.int .i64 0] 1 [(0, (.t 60))]⟩,
      ⟨(some 62), none, .app false [] 1 8 (.t 59) (.t 61)⟩,
      ⟨(some 63), none, .mv (.t 8)⟩,
      ⟨(some 64), none, .fa 0 (.t 3)⟩,
      ⟨(some 65), none, .ld1 (.t 64)⟩,
      ⟨(some 66), none, .mv (.t 11)⟩,
      ⟨(some 67), none, .ia 4 (.t 65) (.t 66)⟩,
      ⟨(some 68), none, .fa 3 (.t 67)⟩,
      ⟨(some 69), none, .ld1 (.t 68)⟩,
      ⟨(some 70), none, .len 0 (.t 69)⟩,
      ⟨(some 71), none, .lit [.int .i64 0] 1 [(0, (.t 70))]⟩,
      ⟨(some 72), none, .app false [] 1 8 (.t 63) (.t 71)⟩,
      ⟨(some 7), none, .mv (.t 62)⟩,
      ⟨(some 8), none, .mv (.t 72)⟩]
def i16_r15 : IR := .seq (.drw 13 [[], [], [], [], [3], [3], [3], [3], [3], [3], [3], [3], [3]] i16_o15) (.keep [2, 3, 4, 6, 7, 8, 10, 11, 18, 19, 20, 25, 26, 27] [2, 3, 6, 7, 8, 10, 14, 16, 17, 57, 62, 72, 99, 142, 149])
def i16_o16 : List II := [⟨(some 73), none, .fa 3 (.t 10)⟩,
      ⟨(some 74), none, .ld1 (.t 73)⟩,
      ⟨(some 75), none, .len 0 (.t 74)⟩,
      ⟨(some 76), none, .mv (.k (.int .i64 0))⟩]
def i16_r16 : IR := .seq (.reg i16_o16) (.keep [2, 3, 4, 6, 7, 8, 11, 18, 19, 20, 25, 26, 27, 74, 75, 76] [2, 3, 6, 7, 8, 10, 14, 16, 17, 57, 62, 72, 99, 142, 149])
def i16_o17 : List II := [⟨(some 77), none, .bin .lss (.t 76) (.t 75)⟩]
def i16_r17 : IR := .seq (.reg i16_o17) (.keep [2, 3, 4, 6, 7, 8, 11, 18, 19, 20, 25, 26, 27, 74, 75, 76, 77] [2, 3, 6, 7, 8, 10, 14, 16, 17, 57, 62, 72, 99, 142, 149])
def i16_o18 : List II := [⟨(some 78), none, .ia 11 (.t 74) (.t 76)⟩,
      ⟨(some 79), none, .ldn 11 (.t 78)⟩,
      ⟨(some 14), none, .alloc [.d (.int .i64 0), .d (.int .i64 0), .d (.int .i64 0), .d (.str []), .d (.sl false []), .d (.int .i64 0), .d (.str []), .d (.str []), .d (.int .i64 0), .d (.sl false []), .d (.int .i64 0)]⟩,
      ⟨none, none, .st 11 (.t 14) (.t 79)⟩]
def i16_r18 : IR := .seq (.reg i16_o18) (.keep [2, 3, 4, 6, 7, 8, 11, 14, 18, 19, 20, 25, 26, 27, 74, 75, 76] [2, 3, 6, 7, 8, 10, 14, 16, 17, 57, 62, 72, 99, 142, 149])
def i16_o19 : List II := [⟨(some 80), none, .fa 3 (.t 14)⟩,
      ⟨(some 81), none, .ldn 2 (.t 80)⟩,
      ⟨(some 82), none, .call 32 [(.t 81)]⟩,
      ⟨(some 83), none, .fa 9 (.t 14)⟩,
      ⟨(some 84), none, .ld1 (.t 83)⟩,
      ⟨(some 85), none, .call 33 [(.t 84)]⟩,
      ⟨(some 86), none, .fa 3 (.t 14)⟩,
      ⟨none, none, .st 2 (.t 86) (.t 82)⟩,
      ⟨(some 87), none, .fa 9 (.t 14)⟩,
      ⟨none, none, .st 1 (.t 87) (.t 85)⟩]
def i16_r19 : IR := .seq (.drw 7 [[], [], [], [], [], [], []] i16_o19) (.keep [2, 3, 4, 6, 7, 8, 11, 14, 18, 19, 20, 25, 26, 27, 74, 75, 76] [2, 3, 6, 7, 8, 10, 14, 16, 17, 57, 62, 72, 99, 142, 149])
def i16_o20 : List II := [⟨(some 88), none, .fa 0 (.t 3)⟩,
      ⟨(some 89), none, .ld1 (.t 88)⟩,
      ⟨(some 90), none, .mv (.t 11)⟩,
      ⟨(some 91), none, .fa 0 (.t 3)⟩,
      ⟨(some 92), none, .ld1 (.t 91)⟩,
      ⟨(some 93), none, .mv (.t 11)⟩,
      ⟨(some 94), none, .ia 4 (.t 92) (.t 93)⟩,
      ⟨(some 95), none, .fa 3 (.t 94)⟩,
      ⟨(some 96), none, .ld1 (.t 95)⟩,
      ⟨(some 97), none, .ldn 11 (.t 14)⟩,
      ⟨(some 98), none, .lit [.int .i64 0, .int .i64 0, .int .i64 0, .str [], .sl false [], .int .i64 0, .str [], .str [], .int .i64 0, .sl false [], .int .i64 0] 1 [(0, (.t 97))]⟩,
      ⟨(some 99), none, .app false [] 11 144 (.t 96) (.t 98)⟩,
      ⟨(some 100), none, .ia 4 (.t 89) (.t 90)⟩,
      ⟨(some 101), none, .fa 3 (.t 100)⟩,
      ⟨none, none, .st 1 (.t 101) (.t 99)⟩]
def i16_r20 : IR := .seq (.drw 12 [[], [], [], [], [], [], [], [], [], [], [], [0, 1, 2]] i16_o20) (.keep [2, 3, 4, 6, 7, 8, 11, 18, 19, 20, 25, 26, 27, 74, 75, 76] [2, 3, 6, 7, 8, 10, 14, 16, 17, 57, 62, 72, 99, 142, 149])
def i16_o21 : List II := [⟨(some 102), none, .bin .add (.t 76) (.k (.int .i64 1))⟩,
    ⟨(some 76), none, .mv (.t 102)⟩]
def i16_r21 : IR := .seq (.reg i16_o21) (.keep [2, 3, 4, 6, 7, 8, 11, 18, 19, 20, 25, 26, 27, 74, 75, 76] [2, 3, 6, 7, 8, 10, 14, 16, 17, 57, 62, 72, 99, 142, 149])
def i16_l4 : IR := (.seq i16_r17
  (.seq (.cond (.t 77) .skip
    (.exit 4))
  (.seq (.block 5 (.seq i16_r18
    (.seq i16_r19
    i16_r20)))
  i16_r21)))
def i16_o22 : List II := [⟨(some 103), none, .bin .add (.t 27) (.k (.int .i64 1))⟩,
    ⟨(some 27), none, .mv (.t 103)⟩]
def i16_r22 : IR := .seq (.reg i16_o22) (.keep [2, 3, 4, 6, 7, 8, 18, 19, 20, 25, 26, 27] [2, 3, 6, 7, 8, 10, 14, 16, 17, 57, 62, 72, 99, 142, 149])
def i16_l2 : IR := (.seq i16_r8
  (.seq (.cond (.t 28) .skip
    (.exit 2))
  (.seq (.block 3 (.seq i16_r9
    (.seq i16_r10
    (.seq (.seq i16_r11
    (.cond (.t 39) (.seq i16_r12
      (.seq i16_r13
      i16_r14))
      .skip))
    (.seq i16_r15
    (.seq i16_r16
    (.block 4 (.loop i16_l4))))))))
  i16_r22)))
def i16_o23 : List II := [⟨(some 104), none, .fa 1 (.t 6)⟩,
      ⟨(some 105), none, .ld1 (.t 104)⟩,
      ⟨(some 106), none, .len 0 (.t 105)⟩,
      ⟨(some 107), none, .mv (.k (.int .i64 0))⟩]
def i16_r23 : IR := .seq (.reg i16_o23) (.keep [2, 3, 4, 6, 7, 8, 18, 19, 20, 105, 106, 107] [2, 3, 6, 7, 8, 10, 14, 16, 17, 57, 62, 72, 99, 142, 149])
def i16_o24 : List II := [⟨(some 108), none, .bin .lss (.t 107) (.t 106)⟩]
def i16_r24 : IR := .seq (.reg i16_o24) (.keep [2, 3, 4, 6, 7, 8, 18, 19, 20, 105, 106, 107, 108] [2, 3, 6, 7, 8, 10, 14, 16, 17, 57, 62, 72, 99, 142, 149])
def i16_o25 : List II := [⟨(some 109), none, .ia 9 (.t 105) (.t 107)⟩,
      ⟨(some 110), none, .ldn 9 (.t 109)⟩,
      ⟨(some 16), none, .alloc [.d (.str []), .d (.int .i64 0), .d (.int .i64 0), .d (.int .i64 0), .d (.int .i64 0), .d (.bool false), .d (.int .i64 0), .d (.str []), .d (.str [])]⟩,
      ⟨none, none, .st 9 (.t 16) (.t 110)⟩]
def i16_r25 : IR := .seq (.reg i16_o25) (.keep [2, 3, 4, 6, 7, 8, 16, 18, 19, 20, 105, 106, 107] [2, 3, 6, 7, 8, 10, 14, 16, 17, 57, 62, 72, 99, 142, 149])
def i16_o26 : List II := [⟨(some 111), none, .fa 3 (.t 16)⟩,
      ⟨(some 112), none, .ld1 (.t 111)⟩,
      ⟨(some 113), none, .bin .geq (.t 112) (.k (.int .i64 0))⟩,
      ⟨(some 114), none, .mv (.t 113)⟩,
      ⟨(some 115), (some (114, true)), .fa 3 (.t 16)⟩,
      ⟨(some 116), (some (114, true)), .ld1 (.t 115)⟩,
      ⟨(some 117), (some (114, true)), .mv (.t 7)⟩,
      ⟨(some 118), (some (114, true)), .len 0 (.t 117)⟩,
      ⟨(some 119), (some (114, true)), .bin .lss (.t 116) (.t 118)⟩,
      ⟨(some 120), none, .pick (.t 114) (.t 119) (.k (.bool false))⟩]
def i16_r26 : IR := .seq (.reg i16_o26) (.keep [2, 3, 4, 6, 7, 8, 16, 18, 19, 20, 105, 106, 107, 120] [2, 3, 6, 7, 8, 10, 14, 16, 17, 57, 62, 72, 99, 142, 149])
def i16_o27 : List II := [⟨(some 121), none, .mv (.t 7)⟩,
        ⟨(some 122), none, .fa 3 (.t 16)⟩,
        ⟨(some 123), none, .ld1 (.t 122)⟩,
        ⟨(some 124), none, .ia 1 (.t 121) (.t 123)⟩,
        ⟨(some 125), none, .ld1 (.t 124)⟩,
        ⟨(some 126), none, .fa 4 (.t 16)⟩,
        ⟨(some 127), none, .ld1 (.t 126)⟩,
        ⟨(some 128), none, .mv (.t 8)⟩,
        ⟨(some 129), none, .fa 3 (.t 16)⟩,
        ⟨(some 130), none, .ld1 (.t 129)⟩,
        ⟨(some 131), none, .ia 1 (.t 128) (.t 130)⟩,
        ⟨(some 132), none, .ld1 (.t 131)⟩,
        ⟨(some 133), none, .bin .add (.t 127) (.t 132)⟩,
        ⟨(some 134), none, .fa 3 (.t 16)⟩,
        ⟨none, none, .st 1 (.t 134) (.t 125)⟩,
        ⟨(some 135), none, .fa 4 (.t 16)⟩,
        ⟨none, none, .st 1 (.t 135) (.t 133)⟩]
def i16_r27 : IR := .seq (.drw 15 [[], [], [], [], [], [], [], [], [], [], [], [], [], [], [7, 10, 11, 12]] i16_o27) (.keep [2, 3, 4, 6, 7, 8, 16, 18, 19, 20, 105, 106, 107] [2, 3, 6, 7, 8, 10, 14, 16, 17, 57, 62, 72, 99, 142, 149])
def i16_o28 : List II := [⟨(some 136), none, .fa 3 (.t 16)⟩,
        ⟨none, none, .st 1 (.t 136) (.k (.int .i64 (-1)))⟩,
        ⟨(some 137), none, .fa 4 (.t 16)⟩,
        ⟨none, none, .st 1 (.t 137) (.k (.int .i64 0))⟩]
def i16_r28 : IR := .seq (.reg i16_o28) (.keep [2, 3, 4, 6, 7, 8, 16, 18, 19, 20, 105, 106, 107] [2, 3, 6, 7, 8, 10, 14, 16, 17, 57, 62, 72, 99, 142, 149])
def i16_o29 : List II := [⟨(some 138), none, .fa 1 (.t 3)⟩,
      ⟨(some 139), none, .ld1 (.t 138)⟩,
      ⟨(some 140), none, .ldn 9 (.t 16)⟩,
      ⟨(some 141), none, .lit [.str [], .int .i64 0, .int .i64 0, .int .i64 0, .int .i64 0, .bool false, .int .i64 0, .str [], .str []] 1 [(0, (.t 140))]⟩,
      ⟨(some 142), none, .app false [] 9 96 (.t 139) (.t 141)⟩,
      ⟨(some 143), none, .fa 1 (.t 3)⟩,
      ⟨none, none, .st 1 (.t 143) (.t 142)⟩]
def i16_r29 : IR := .seq (.reg i16_o29) (.keep [2, 3, 4, 6, 7, 8, 18, 19, 20, 105, 106, 107] [2, 3, 6, 7, 8, 10, 14, 16, 17, 57, 62, 72, 99, 142, 149])
def i16_o30 : List II := [⟨(some 144), none, .bin .add (.t 107) (.k (.int .i64 1))⟩,
    ⟨(some 107), none, .mv (.t 144)⟩]
def i16_r30 : IR := .seq (.reg i16_o30) (.keep [2, 3, 4, 6, 7, 8, 18, 19, 20, 105, 106, 107] [2, 3, 6, 7, 8, 10, 14, 16, 17, 57, 62, 72, 99, 142, 149])
def i16_l6 : IR := (.seq i16_r24
  (.seq (.cond (.t 108) .skip
    (.exit 6))
  (.seq (.block 7 (.seq i16_r25
    (.seq (.seq i16_r26
    (.cond (.t 120) i16_r27
      i16_r28))
    i16_r29)))
  i16_r30)))
def i16_o31 : List II := [⟨(some 145), none, .fa 2 (.t 3)⟩,
      ⟨(some 146), none, .ld1 (.t 145)⟩,
      ⟨(some 147), none, .fa 2 (.t 6)⟩,
      ⟨(some 148), none, .ld1 (.t 147)⟩,
      ⟨(some 149), none, .app false [] 3 32 (.t 146) (.t 148)⟩,
      ⟨(some 150), none, .fa 2 (.t 3)⟩,
      ⟨none, none, .st 1 (.t 150) (.t 149)⟩]
def i16_r31 : IR := .seq (.reg i16_o31) (.keep [2, 3, 4, 18, 19, 20] [2, 3, 6, 7, 8, 10, 14, 16, 17, 57, 62, 72, 99, 142, 149])
def i16_o32 : List II := [⟨(some 151), none, .bin .add (.t 20) (.k (.int .i64 1))⟩,
    ⟨(some 20), none, .mv (.t 151)⟩]
def i16_r32 : IR := .seq (.reg i16_o32) (.keep [2, 3, 4, 18, 19, 20] [2, 3, 6, 7, 8, 10, 14, 16, 17, 57, 62, 72, 99, 142, 149])
def i16_l0 : IR := (.seq i16_r4
  (.seq (.cond (.t 21) .skip
    (.exit 0))
  (.seq (.block 1 (.seq i16_r5
    (.seq i16_r6
    (.seq (.seq i16_r7
    (.block 2 (.loop i16_l2)))
    (.seq (.seq i16_r23
    (.block 6 (.loop i16_l6)))
    i16_r31)))))
  i16_r32)))
def i16_o33 : List II := [⟨(some 152), none, .ldn 3 (.t 3)⟩,
    ⟨none, none, .st 3 (.t 2) (.t 152)⟩]
def i16_r33 : IR := .seq (.reg i16_o33) (.keep [2] [2, 3, 6, 7, 8, 10, 14, 16, 17, 57, 62, 72, 99, 142, 149])
def i16 : IFn := ⟨(.seq i16_r0
  (.seq i16_r1
  (.seq i16_r2
  (.seq (.seq i16_r3
  (.block 0 (.loop i16_l0)))
  (.seq ((.seq (.frz 3) i16_r33))
  .ret))))),
  [.cell 2 3]⟩
def i17_o0 : List II := [⟨(some 2), none, .box 3 [] (.t 0)⟩,
    ⟨(some 4), none, .mv (.k (.sl false []))⟩]
def i17_r0 : IR := .seq (.reg i17_o0) (.keep [1, 2] [2, 5, 7, 8, 10, 11, 12, 23, 81])
def i17_o1 : List II := [⟨(some 14), none, .mv (.t 1)⟩,
    ⟨(some 15), none, .bin .lss (.t 14) (.k (.int .i64 0))⟩,
    ⟨(some 16), none, .mv (.t 15)⟩,
    ⟨(some 17), (some (16, false)), .mv (.t 1)⟩,
    ⟨(some 18), (some (16, false)), .fa 0 (.t 2)⟩,
    ⟨(some 19), (some (16, false)), .ld1 (.t 18)⟩,
    ⟨(some 20), (some (16, false)), .len 0 (.t 19)⟩,
    ⟨(some 21), (some (16, false)), .bin .geq (.t 17) (.t 20)⟩,
    ⟨(some 22), none, .pick (.t 16) (.k (.bool true)) (.t 21)⟩]
def i17_r1 : IR := .seq (.reg i17_o1) (.keep [1, 2, 22] [2, 5, 7, 8, 10, 11, 12, 23, 81])
def i17_o2 : List II := [⟨(some 4), none, .mv (.k (.sl false []))⟩]
def i17_r2 : IR := .seq (.reg i17_o2) (.keep [4] [2, 5, 7, 8, 10, 11, 12, 23, 81])
def i17_o3 : List II := [⟨(some 23), none, .mkmap⟩,
    ⟨(some 5), none, .alloc [.d (.nilm)]⟩,
    ⟨none, none, .st 1 (.t 5) (.t 23)⟩]
def i17_r3 : IR := .seq (.reg i17_o3) (.keep [1, 2, 5] [2, 5, 7, 8, 10, 11, 12, 23, 81])
def i17_o4 : List II := [⟨(some 24), none, .fa 1 (.t 2)⟩,
    ⟨(some 25), none, .ld1 (.t 24)⟩]
def i17_r4 : IR := .seq (.reg i17_o4) (.keep [1, 2, 5, 25] [2, 5, 7, 8, 10, 11, 12, 23, 81])
def i17_o5 : List II := [⟨(some 7), none, .alloc [.d (.str []), .d (.int .i64 0), .d (.int .i64 0), .d (.int .i64 0), .d (.int .i64 0), .d (.bool false), .d (.int .i64 0), .d (.str []), .d (.str [])]⟩,
    ⟨none, none, .st 9 (.t 7) (.t 28)⟩]
def i17_r5 : IR := .seq (.reg i17_o5) (.keep [1, 2, 5, 7, 25] [2, 5, 7, 8, 10, 11, 12, 23, 81])
def i17_o6 : List II := [⟨(some 29), none, .ld1 (.t 5)⟩,
      ⟨(some 30), none, .fa 0 (.t 7)⟩,
      ⟨(some 31), none, .ld1 (.t 30)⟩,
      ⟨(some 32), none, .ldn 9 (.t 7)⟩,
      ⟨none, none, .upd false [2] (.t 29) (.t 31) (.t 32)⟩]
def i17_r6 : IR := .seq (.reg i17_o6) (.keep [1, 2, 5, 25] [2, 5, 7, 8, 10, 11, 12, 23, 81])
def i17_l0 : IR := (.seq i17_r5 (.block 1 i17_r6))
def i17_o7 : List II := [⟨(some 8), none, .mkrow 7⟩]
def i17_r7 : IR := .seq (.reg i17_o7) (.keep [1, 2, 5, 8] [2, 5, 7, 8, 10, 11, 12, 23, 81])
def i17_o8 : List II := [⟨(some 33), none, .fa 0 (.t 2)⟩,
    ⟨(some 34), none, .ld1 (.t 33)⟩,
    ⟨(some 35), none, .mv (.t 1)⟩,
    ⟨(some 36), none, .ia 4 (.t 34) (.t 35)⟩,
    ⟨(some 37), none, .fa 3 (.t 36)⟩,
    ⟨(some 38), none, .ld1 (.t 37)⟩,
    ⟨(some 39), none, .len 0 (.t 38)⟩,
    ⟨(some 40), none, .mv (.k (.int .i64 0))⟩]
def i17_r8 : IR := .seq (.reg i17_o8) (.keep [1, 5, 8, 38, 39, 40] [2, 5, 7, 8, 10, 11, 12, 23, 81])
def i17_o9 : List II := [⟨(some 41), none, .bin .lss (.t 40) (.t 39)⟩]
def i17_r9 : IR := .seq (.reg i17_o9) (.keep [1, 5, 8, 38, 39, 40, 41] [2, 5, 7, 8, 10, 11, 12, 23, 81])
def i17_o10 : List II := [⟨(some 42), none, .ia 11 (.t 38) (.t 40)⟩,
      ⟨(some 43), none, .ldn 11 (.t 42)⟩,
      ⟨(some 10), none, .alloc [.d (.int .i64 0), .d (.int .i64 0), .d (.int .i64 0), .d (.str []), .d (.sl false []), .d (.int .i64 0), .d (.str []), .d (.str []), .d (.int .i64 0), .d (.sl false []), .d (.int .i64 0)]⟩,
      ⟨none, none, .st 11 (.t 10) (.t 43)⟩]
def i17_r10 : IR := .seq (.reg i17_o10) (.keep [1, 5, 8, 10, 38, 39, 40] [2, 5, 7, 8, 10, 11, 12, 23, 81])
def i17_o11 : List II := [⟨(some 44), none, .build [.int .i64 0, .int .i64 0, .int .i64 0, .int .i64 0, .int .i64 0, .int .i64 0, .int .i64 0] [(0, 1, (.k (.int .i64 1)))]⟩,
      ⟨(some 11), none, .alloc [.d (.int .i64 0), .d (.int .i64 0), .d (.int .i64 0), .d (.int .i64 0), .d (.int .i64 0), .d (.int .i64 0), .d (.int .i64 0)]⟩,
      ⟨none, none, .st 7 (.t 11) (.t 44)⟩]
def i17_r11 : IR := .seq (.reg i17_o11) (.keep [1, 5, 8, 10, 11, 38, 39, 40] [2, 5, 7, 8, 10, 11, 12, 23, 81])
def i17_o12 : List II := [⟨(some 45), none, .fa 0 (.t 10)⟩,
      ⟨(some 46), none, .ld1 (.t 45)⟩]
def i17_r12 : IR := .seq (.reg i17_o12) (.keep [1, 5, 8, 10, 11, 38, 39, 40, 46] [2, 5, 7, 8, 10, 11, 12, 23, 81])
def i17_o13 : List II := [⟨(some 48), none, .bin .eql (.t 46) (.k (.int .i64 2))⟩,
                  ⟨(some 47), none, .mv (.t 48)⟩]
def i17_r13 : IR := .seq (.reg i17_o13) (.keep [1, 5, 8, 10, 11, 38, 39, 40, 46, 47] [2, 5, 7, 8, 10, 11, 12, 23, 81])
def i17_o14 : List II := [⟨(some 50), none, .bin .eql (.t 46) (.k (.int .i64 1))⟩,
                  ⟨(some 49), none, .mv (.t 50)⟩]
def i17_r14 : IR := .seq (.reg i17_o14) (.keep [1, 5, 8, 10, 11, 38, 39, 40, 46, 49] [2, 5, 7, 8, 10, 11, 12, 23, 81])
def i17_o15 : List II := [⟨(some 52), none, .bin .eql (.t 46) (.k (.int .i64 3))⟩,
                  ⟨(some 51), none, .mv (.t 52)⟩]
def i17_r15 : IR := .seq (.reg i17_o15) (.keep [1, 5, 8, 10, 11, 38, 39, 40, 46, 51] [2, 5, 7, 8, 10, 11, 12, 23, 81])
def i17_o16 : List II := [⟨(some 54), none, .bin .eql (.t 46) (.k (.int .i64 4))⟩,
                  ⟨(some 53), none, .mv (.t 54)⟩]
def i17_r16 : IR := .seq (.reg i17_o16) (.keep [1, 5, 8, 10, 11, 38, 39, 40, 46, 53] [2, 5, 7, 8, 10, 11, 12, 23, 81])
def i17_o17 : List II := [⟨(some 56), none, .bin .eql (.t 46) (.k (.int .i64 5))⟩,
                  ⟨(some 55), none, .mv (.t 56)⟩]
def i17_r17 : IR := .seq (.reg i17_o17) (.keep [1, 5, 8, 10, 11, 38, 39, 40, 55] [2, 5, 7, 8, 10, 11, 12, 23, 81])
def i17_o18 : List II := [⟨(some 58), none, .ld1 (.t 5)⟩,
                ⟨(some 59), none, .mv (.t 1)⟩,
                ⟨(some 60), none, .fa 3 (.t 10)⟩,
                ⟨(some 61), none, .ldn 2 (.t 60)⟩,
                ⟨(some 62), none, .call 35 [(.t 58), (.t 59), (.t 61)]⟩,
                ⟨(some 57), none, .mv (.t 62)⟩,
                ⟨(some 63), none, .ext (.t 57) 0⟩,
                ⟨(some 64), none, .ext (.t 57) 1⟩,
                ⟨(some 12), none, .alloc [.d (.int .i64 0), .d (.int .i64 0), .d (.int .i64 0), .d (.int .i64 0), .d (.int .i64 0), .d (.int .i64 0), .d (.int .i64 0)]⟩,
                ⟨none, none, .st 7 (.t 12) (.t 63)⟩,
                ⟨(some 13), none, .mv (.t 64)⟩]
def i17_r18 : IR := .seq (.reg i17_o18) (.keep [1, 5, 8, 11, 12, 13, 38, 39, 40] [2, 5, 7, 8, 10, 11, 12, 23, 81])
def i17_o19 : List II := [⟨(some 65), none, .mv (.t 13)⟩]
def i17_r19 : IR := .seq (.reg i17_o19) (.keep [1, 5, 8, 11, 12, 38, 39, 40, 65] [2, 5, 7, 8, 10, 11, 12, 23, 81])
def i17_o20 : List II := [⟨(some 66), none, .ldn 7 (.t 12)⟩,
                  ⟨none, none, .st 7 (.t 11) (.t 66)⟩]
def i17_r20 : IR := .seq (.reg i17_o20) (.keep [1, 5, 8, 11, 38, 39, 40] [2, 5, 7, 8, 10, 11, 12, 23, 81])
def i17_o21 : List II := [⟨(some 67), none, .fa 1 (.t 11)⟩,
              ⟨none, none, .st 1 (.t 67) (.k (.int .i64 4))⟩]
def i17_r21 : IR := .seq (.reg i17_o21) (.keep [1, 5, 8, 11, 38, 39, 40] [2, 5, 7, 8, 10, 11, 12, 23, 81])
def i17_o22 : List II := [⟨(some 68), none, .fa 8 (.t 10)⟩,
            ⟨(some 69), none, .ld1 (.t 68)⟩,
            ⟨(some 70), none, .fa 1 (.t 11)⟩,
            ⟨none, none, .st 1 (.t 70) (.t 69)⟩]
def i17_r22 : IR := .seq (.reg i17_o22) (.keep [1, 5, 8, 11, 38, 39, 40] [2, 5, 7, 8, 10, 11, 12, 23, 81])
def i17_o23 : List II := [⟨(some 71), none, .fa 9 (.t 10)⟩,
          ⟨(some 72), none, .ld1 (.t 71)⟩,
          ⟨(some 73), none, .len 0 (.t 72)⟩,
          ⟨(some 74), none, .fa 1 (.t 11)⟩,
          ⟨none, none, .st 1 (.t 74) (.t 73)⟩]
def i17_r23 : IR := .seq (.reg i17_o23) (.keep [1, 5, 8, 11, 38, 39, 40] [2, 5, 7, 8, 10, 11, 12, 23, 81])
def i17_o24 : List II := [⟨(some 75), none, .fa 10 (.t 10)⟩,
        ⟨(some 76), none, .ld1 (.t 75)⟩,
        ⟨(some 77), none, .build [.int .i64 0, .int .i64 0, .int .i64 0, .int .i64 0, .int .i64 0, .int .i64 0, .int .i64 0] [(0, 1, (.k (.int .i64 2))), (2, 1, (.t 76))]⟩,
        ⟨none, none, .st 7 (.t 11) (.t 77)⟩]
def i17_r24 : IR := .seq (.reg i17_o24) (.keep [1, 5, 8, 11, 38, 39, 40] [2, 5, 7, 8, 10, 11, 12, 23, 81])
def i17_o25 : List II := [⟨(some 78), none, .mv (.t 8)⟩,
      ⟨(some 79), none, .ldn 7 (.t 11)⟩,
      ⟨(some 80), none, .lit [.int .i64 0, .int .i64 0, .int .i64 0, .int .i64 0, .int .i64 0, .int .i64 0, .int .i64 0] 1 [(0, (.t 79))]⟩,
      ⟨(some 81), none, .app false [] 7 56 (.t 78) (.t 80)⟩,
      ⟨(some 8), none, .mv (.t 81)⟩]
def i17_r25 : IR := .seq (.reg i17_o25) (.keep [1, 5, 8, 38, 39, 40] [2, 5, 7, 8, 10, 11, 12, 23, 81])
def i17_o26 : List II := [⟨(some 82), none, .bin .add (.t 40) (.k (.int .i64 1))⟩,
    ⟨(some 40), none, .mv (.t 82)⟩]
def i17_r26 : IR := .seq (.reg i17_o26) (.keep [1, 5, 8, 38, 39, 40] [2, 5, 7, 8, 10, 11, 12, 23, 81])
def i17_l2 : IR := (.seq i17_r9
  (.seq (.cond (.t 41) .skip
    (.exit 2))
  (.seq (.block 3 (.seq i17_r10
    (.seq i17_r11
    (.seq (.seq i17_r12
    (.block 4 (.seq (.block 9 (.seq (.block 8 (.seq (.block 7 (.seq (.block 6 (.seq (.block 5 (.seq (.seq (.seq i17_r13
                (.cond (.t 47) (.exit 5)
                  .skip))
                (.seq (.seq i17_r14
                (.cond (.t 49) (.exit 6)
                  .skip))
                (.seq (.seq i17_r15
                (.cond (.t 51) (.exit 7)
                  .skip))
                (.seq (.seq i17_r16
                (.cond (.t 53) (.exit 8)
                  .skip))
                (.seq i17_r17
                (.cond (.t 55) (.exit 9)
                  .skip))))))
                (.exit 4)))
              (.seq i17_r18
              (.seq i17_r19
              (.cond (.t 65) (.seq i17_r20
                (.exit 4))
                .skip)))))
            (.seq i17_r21
            (.exit 4))))
          (.seq i17_r22
          (.exit 4))))
        (.seq i17_r23
        (.exit 4))))
      (.seq i17_r24
      (.exit 4)))))
    i17_r25))))
  i17_r26)))
def i17_o27 : List II := [⟨(some 83), none, .mv (.t 8)⟩,
    ⟨(some 4), none, .mv (.t 83)⟩]
def i17_r27 : IR := .seq (.reg i17_o27) (.keep [4] [2, 5, 7, 8, 10, 11, 12, 23, 81])
def i17 : IFn := ⟨(.seq i17_r0
  (.seq (.seq i17_r1
  (.cond (.t 22) (.seq i17_r2
    .ret)
    .skip))
  (.seq i17_r3
  (.seq (.seq i17_r4
  (.block 0 (.back 25 28 i17_l0)))
  (.seq i17_r7
  (.seq (.seq i17_r8
  (.block 2 (.loop i17_l2)))
  (.seq i17_r27
  .ret))))))),
  [.tmp 4]⟩
def i18_o0 : List II := [⟨(some 2), none, .box 3 [] (.t 0)⟩,
    ⟨(some 3), none, .box 3 [] (.t 1)⟩,
    ⟨(some 4), none, .mv (.k (.bool false))⟩]
def i18_r0 : IR := .seq (.reg i18_o0) (.keep [2, 3] [2, 3])
def i18_o1 : List II := [⟨(some 5), none, .fa 0 (.t 2)⟩,
    ⟨(some 6), none, .ld1 (.t 5)⟩,
    ⟨(some 7), none, .fa 0 (.t 3)⟩,
    ⟨(some 8), none, .ld1 (.t 7)⟩,
    ⟨(some 9), none, .bin .neq (.t 6) (.t 8)⟩]
def i18_r1 : IR := .seq (.reg i18_o1) (.keep [2, 3, 9] [2, 3])
def i18_o2 : List II := [⟨(some 10), none, .fa 0 (.t 2)⟩,
      ⟨(some 11), none, .ld1 (.t 10)⟩,
      ⟨(some 12), none, .fa 0 (.t 3)⟩,
      ⟨(some 13), none, .ld1 (.t 12)⟩,
      ⟨(some 14), none, .bin .lss (.t 11) (.t 13)⟩,
      ⟨(some 4), none, .mv (.t 14)⟩]
def i18_r2 : IR := .seq (.reg i18_o2) (.keep [4] [2, 3])
def i18_o3 : List II := [⟨(some 15), none, .fa 1 (.t 2)⟩,
    ⟨(some 16), none, .ld1 (.t 15)⟩,
    ⟨(some 17), none, .fa 1 (.t 3)⟩,
    ⟨(some 18), none, .ld1 (.t 17)⟩,
    ⟨(some 19), none, .bin .neq (.t 16) (.t 18)⟩]
def i18_r3 : IR := .seq (.reg i18_o3) (.keep [2, 3, 19] [2, 3])
def i18_o4 : List II := [⟨(some 20), none, .fa 1 (.t 2)⟩,
      ⟨(some 21), none, .ld1 (.t 20)⟩,
      ⟨(some 22), none, .fa 1 (.t 3)⟩,
      ⟨(some 23), none, .ld1 (.t 22)⟩,
      ⟨(some 24), none, .bin .lss (.t 21) (.t 23)⟩,
      ⟨(some 4), none, .mv (.t 24)⟩]
def i18_r4 : IR := .seq (.reg i18_o4) (.keep [4] [2, 3])
def i18_o5 : List II := [⟨(some 25), none, .fa 2 (.t 2)⟩,
    ⟨(some 26), none, .ld1 (.t 25)⟩,
    ⟨(some 27), none, .fa 2 (.t 3)⟩,
    ⟨(some 28), none, .ld1 (.t 27)⟩,
    ⟨(some 29), none, .bin .lss (.t 26) (.t 28)⟩,
    ⟨(some 4), none, .mv (.t 29)⟩]
def i18_r5 : IR := .seq (.reg i18_o5) (.keep [4] [2, 3])
def i18 : IFn := ⟨(.seq i18_r0
  (.seq (.seq i18_r1
  (.cond (.t 9) (.seq i18_r2
    .ret)
    .skip))
  (.seq (.seq i18_r3
  (.cond (.t 19) (.seq i18_r4
    .ret)
    .skip))
  (.seq i18_r5
  .ret)))),
  [.tmp 4]⟩
def i26_o0 : List II := [⟨(some 3), none, .box 9 [] (.t 1)⟩]
def i26_r0 : IR := .seq (.reg i26_o0) (.keep [0, 3] [3, 43])
def i26_o1 : List II := [⟨(some 6), none, .fa 0 (.t 3)⟩,
    ⟨(some 7), none, .ld1 (.t 6)⟩,
    ⟨(some 8), none, .len 1 (.t 7)⟩,
    ⟨(some 9), none, .bin .gtr (.t 8) (.k (.int .i64 255))⟩]
def i26_r1 : IR := .seq (.reg i26_o1) (.keep [0, 3, 9] [3, 43])
def i26_o2 : List II := [⟨(some 10), none, .mv (.t 0)⟩,
      ⟨(some 11), none, .call 47 [(.t 10), (.k (.int .i64 3))]⟩]
def i26_r2 : IR := .seq (.reg i26_o2) (.keep [] [3, 43])
def i26_o3 : List II := [⟨(some 13), none, .mv (.t 0)⟩,
    ⟨(some 14), none, .call 48 [(.t 13)]⟩,
    ⟨(some 12), none, .mv (.t 14)⟩,
    ⟨(some 15), none, .ext (.t 12) 0⟩,
    ⟨(some 16), none, .ext (.t 12) 1⟩,
    ⟨(some 4), none, .mv (.t 15)⟩,
    ⟨(some 5), none, .mv (.t 16)⟩]
def i26_r3 : IR := .seq (.reg i26_o3) (.keep [0, 3, 4, 5] [3, 43])
def i26_o4 : List II := [⟨(some 17), none, .mv (.t 0)⟩,
    ⟨(some 18), none, .nck (.t 17)⟩,
    ⟨(some 19), none, .fa 5 (.t 18)⟩,
    ⟨(some 20), none, .ld1 (.t 19)⟩,
    ⟨(some 21), none, .mv (.t 0)⟩,
    ⟨(some 22), none, .nck (.t 21)⟩,
    ⟨(some 23), none, .fa 6 (.t 22)⟩,
    ⟨(some 24), none, .ld1 (.t 23)⟩,
    ⟨(some 25), none, .mv (.t 5)⟩,
    ⟨(some 26), none, .mv (.t 4)⟩,
    ⟨(some 27), none, .nck (.t 26)⟩,
    ⟨(some 28), none, .fa 3 (.t 27)⟩,
    ⟨(some 29), none, .ld1 (.t 28)⟩,
    ⟨(some 30), none, .len 0 (.t 29)⟩,
    ⟨(some 31), none, .fa 1 (.t 3)⟩,
    ⟨none, none, .st 1 (.t 31) (.t 20)⟩,
    ⟨(some 32), none, .fa 2 (.t 3)⟩,
    ⟨none, none, .st 1 (.t 32) (.t 24)⟩,
    ⟨(some 33), none, .fa 3 (.t 3)⟩,
    ⟨none, none, .st 1 (.t 33) (.t 25)⟩,
    ⟨(some 34), none, .fa 4 (.t 3)⟩,
    ⟨none, none, .st 1 (.t 34) (.t 30)⟩]
def i26_r4 : IR := .seq (.drw 20 [[], [], [], [], [], [], [], [], [], [], [], [], [], [], [], [4, 5, 6, 7, 8, 9, 10, 11, 12, 13], [], [8, 9, 10, 11, 12, 13], [], [9, 10, 11, 12, 13]] i26_o4) (.keep [0, 3] [3, 43])
def i26_o5 : List II := [⟨(some 35), none, .mv (.t 0)⟩,
    ⟨(some 36), none, .mv (.t 0)⟩,
    ⟨(some 37), none, .nck (.t 36)⟩,
    ⟨(some 38), none, .fa 0 (.t 37)⟩,
    ⟨(some 39), none, .fa 1 (.t 38)⟩,
    ⟨(some 40), none, .ld1 (.t 39)⟩,
    ⟨(some 41), none, .ldn 9 (.t 3)⟩,
    ⟨(some 42), none, .lit [.str [], .int .i64 0, .int .i64 0, .int .i64 0, .int .i64 0, .bool false, .int .i64 0, .str [], .str []] 1 [(0, (.t 41))]⟩,
    ⟨(some 43), none, .app false [] 9 96 (.t 40) (.t 42)⟩,
    ⟨(some 44), none, .nck (.t 35)⟩,
    ⟨(some 45), none, .fa 0 (.t 44)⟩,
    ⟨(some 46), none, .fa 1 (.t 45)⟩,
    ⟨none, none, .st 1 (.t 46) (.t 43)⟩]
def i26_r5 : IR := .seq (.drw 9 [[], [], [], [], [], [], [], [], [0]] i26_o5) (.keep [] [3, 43])
def i26 : IFn := ⟨(.seq i26_r0
  (.seq (.seq i26_r1
  (.cond (.t 9) (.seq i26_r2
    .ret)
    .skip))
  (.seq i26_r3
  (.seq i26_r4
  i26_r5)))),
  []⟩
def i27_o0 : List II := [⟨(some 3), none, .box 8 [] (.t 1)⟩]
def i27_r0 : IR := .seq (.reg i27_o0) (.keep [0, 3] [3, 9, 130])
def i27_o1 : List II := [⟨(some 13), none, .fa 1 (.t 3)⟩,
    ⟨(some 14), none, .ld1 (.t 13)⟩]
def i27_r1 : IR := .seq (.reg i27_o1) (.keep [0, 3, 14] [3, 9, 130])
def i27_o2 : List II := [⟨(some 16), none, .bin .eql (.t 14) (.k (.int .i64 1))⟩,
      ⟨(some 15), none, .mv (.t 16)⟩]
def i27_r2 : IR := .seq (.reg i27_o2) (.keep [0, 3, 14, 15] [3, 9, 130])
def i27_o3 : List II := [⟨(some 4), none, .mv (.k (.int .i64 1))⟩]
def i27_r3 : IR := .seq (.reg i27_o3) (.keep [0, 3, 4] [3, 9, 130])
def i27_o4 : List II := [⟨(some 18), none, .fa 2 (.t 3)⟩,
        ⟨(some 19), none, .ldn 2 (.t 18)⟩,
        ⟨(some 20), none, .call 11 [(.t 19)]⟩,
        ⟨(some 17), none, .mv (.t 20)⟩,
        ⟨(some 21), none, .ext (.t 17) 0⟩,
        ⟨(some 22), none, .ext (.t 17) 1⟩,
        ⟨(some 23), none, .ext (.t 17) 2⟩,
        ⟨(some 5), none, .mv (.t 21)⟩,
        ⟨(some 6), none, .mv (.t 22)⟩,
        ⟨(some 7), none, .mv (.t 23)⟩]
def i27_r4 : IR := .seq (.reg i27_o4) (.keep [0, 3, 4, 7] [3, 9, 130])
def i27_o5 : List II := [⟨(some 24), none, .mv (.t 7)⟩]
def i27_r5 : IR := .seq (.reg i27_o5) (.keep [0, 3, 4, 24] [3, 9, 130])
def i27_o6 : List II := [⟨(some 4), none, .mv (.k (.int .i64 2))⟩]
def i27_r6 : IR := .seq (.reg i27_o6) (.keep [0, 3, 4] [3, 9, 130])
def i27_o7 : List II := [⟨(some 25), none, .mv (.t 0)⟩,
        ⟨(some 26), none, .mv (.t 4)⟩,
        ⟨(some 27), none, .fa 2 (.t 3)⟩,
        ⟨(some 28), none, .ldn 2 (.t 27)⟩,
        ⟨(some 29), none, .call 32 [(.t 28)]⟩,
        ⟨(some 30), none, .build [.int .i64 0, .int .i64 0, .int .i64 0, .str [], .sl false [], .int .i64 0, .str [], .str [], .int .i64 0, .sl false [], .int .i64 0] [(0, 1, (.t 26)), (3, 2, (.t 29))]⟩,
        ⟨(some 31), none, .call 49 [(.t 25), (.t 30), (.k (.bool false))]⟩]
def i27_r7 : IR := .seq (.reg i27_o7) (.keep [] [3, 9, 130])
def i27_o8 : List II := [⟨(some 33), none, .bin .eql (.t 14) (.k (.int .i64 4))⟩,
        ⟨(some 32), none, .mv (.t 33)⟩]
def i27_r8 : IR := .seq (.reg i27_o8) (.keep [0, 3, 14, 32] [3, 9, 130])
def i27_o9 : List II := [⟨(some 34), none, .mv (.t 0)⟩,
          ⟨(some 35), none, .fa 6 (.t 3)⟩,
          ⟨(some 36), none, .ld1 (.t 35)⟩,
          ⟨(some 37), none, .call 50 [(.t 36)]⟩,
          ⟨(some 38), none, .fld 0 none (.t 37)⟩,
          ⟨(some 39), none, .build [.int .i64 0, .int .i64 0, .int .i64 0, .str [], .sl false [], .int .i64 0, .str [], .str [], .int .i64 0, .sl false [], .int .i64 0] [(0, 1, (.k (.int .i64 5))), (10, 1, (.t 38))]⟩,
          ⟨(some 40), none, .call 49 [(.t 34), (.t 39), (.k (.bool true))]⟩]
def i27_r9 : IR := .seq (.reg i27_o9) (.keep [] [3, 9, 130])
def i27_o10 : List II := [⟨(some 42), none, .bin .eql (.t 14) (.k (.int .i64 5))⟩,
          ⟨(some 41), none, .mv (.t 42)⟩]
def i27_r10 : IR := .seq (.reg i27_o10) (.keep [0, 3, 14, 41] [3, 9, 130])
def i27_o11 : List II := [⟨(some 43), none, .fa 6 (.t 3)⟩,
            ⟨(some 44), none, .ld1 (.t 43)⟩,
            ⟨(some 45), none, .len 0 (.t 44)⟩,
            ⟨(some 46), none, .mv (.k (.int .i64 0))⟩]
def i27_r11 : IR := .seq (.reg i27_o11) (.keep [0, 3, 44, 45, 46] [3, 9, 130])
def i27_o12 : List II := [⟨(some 47), none, .bin .lss (.t 46) (.t 45)⟩]
def i27_r12 : IR := .seq (.reg i27_o12) (.keep [0, 3, 44, 45, 46, 47] [3, 9, 130])
def i27_o13 : List II := [⟨(some 48), none, .ia 3 (.t 44) (.t 46)⟩,
      ⟨(some 49), none, .ldn 3 (.t 48)⟩,
      ⟨(some 9), none, .alloc [.d (.int .i64 0), .d (.str []), .d (.str [])]⟩,
      ⟨none, none, .st 3 (.t 9) (.t 49)⟩]
def i27_r13 : IR := .seq (.reg i27_o13) (.keep [0, 3, 9, 44, 45, 46] [3, 9, 130])
def i27_o14 : List II := [⟨(some 50), none, .mv (.t 0)⟩,
      ⟨(some 51), none, .ldn 3 (.t 9)⟩,
      ⟨(some 52), none, .fa 5 (.t 3)⟩,
      ⟨(some 53), none, .ld1 (.t 52)⟩,
      ⟨(some 54), none, .build [.int .i64 0, .int .i64 0, .int .i64 0, .str [], .sl false [], .int .i64 0, .str [], .str [], .int .i64 0, .sl false [], .int .i64 0] [(0, 1, (.k (.int .i64 3))), (5, 3, (.t 51)), (8, 1, (.t 53))]⟩,
      ⟨(some 55), none, .ldn 3 (.t 9)⟩,
      ⟨(some 56), none, .build [.int .i64 0, .str [], .str []] []⟩,
      ⟨(some 57), none, .eqa false [1, 2, 2] (.t 55) (.t 56)⟩,
      ⟨(some 58), none, .call 49 [(.t 50), (.t 54), (.t 57)]⟩]
def i27_r14 : IR := .seq (.drw 8 [[], [], [], [], [], [], [], []] i27_o14) (.keep [0, 3, 44, 45, 46] [3, 9, 130])
def i27_o15 : List II := [⟨(some 59), none, .bin .add (.t 46) (.k (.int .i64 1))⟩,
    ⟨(some 46), none, .mv (.t 59)⟩]
def i27_r15 : IR := .seq (.reg i27_o15) (.keep [0, 3, 44, 45, 46] [3, 9, 130])
def i27_l1 : IR := (.seq i27_r12
  (.seq (.cond (.t 47) .skip
    (.exit 1))
  (.seq (.block 2 (.seq i27_r13
    i27_r14))
  i27_r15)))
def i27_o16 : List II := [⟨(some 61), none, .bin .eql (.t 14) (.k (.int .i64 6))⟩,
            ⟨(some 60), none, .mv (.t 61)⟩]
def i27_r16 : IR := .seq (.reg i27_o16) (.keep [0, 3, 14, 60] [3, 9, 130])
def i27_o17 : List II := [⟨(some 62), none, .mv (.t 0)⟩,
              ⟨(some 63), none, .fa 7 (.t 3)⟩,
              ⟨(some 64), none, .ld1 (.t 63)⟩,
              ⟨(some 65), none, .call 33 [(.t 64)]⟩,
              ⟨(some 66), none, .build [.int .i64 0, .int .i64 0, .int .i64 0, .str [], .sl false [], .int .i64 0, .str [], .str [], .int .i64 0, .sl false [], .int .i64 0] [(0, 1, (.k (.int .i64 4))), (9, 1, (.t 65))]⟩,
              ⟨(some 67), none, .fa 7 (.t 3)⟩,
              ⟨(some 68), none, .ld1 (.t 67)⟩,
              ⟨(some 69), none, .len 0 (.t 68)⟩,
              ⟨(some 70), none, .bin .eql (.t 69) (.k (.int .i64 0))⟩,
              ⟨(some 71), none, .call 49 [(.t 62), (.t 66), (.t 70)]⟩]
def i27_r17 : IR := .seq (.drw 9 [[], [], [], [], [], [], [], [], []] i27_o17) (.keep [] [3, 9, 130])
def i27_o18 : List II := [⟨(some 73), none, .bin .eql (.t 14) (.k (.int .i64 2))⟩,
              ⟨(some 72), none, .mv (.t 73)⟩]
def i27_r18 : IR := .seq (.reg i27_o18) (.keep [0, 3, 14, 72] [3, 9, 130])
def i27_o19 : List II := [⟨(some 74), none, .fa 4 (.t 3)⟩,
                ⟨(some 75), none, .ld1 (.t 74)⟩,
                ⟨(some 76), none, .call 51 [(.t 75)]⟩,
                ⟨(some 10), none, .mv (.t 76)⟩]
def i27_r19 : IR := .seq (.reg i27_o19) (.keep [0, 10] [3, 9, 130])
def i27_o20 : List II := [⟨(some 77), none, .mv (.t 10)⟩,
                ⟨(some 78), none, .len 1 (.t 77)⟩,
                ⟨(some 79), none, .bin .gtr (.t 78) (.k (.int .i64 32))⟩]
def i27_r20 : IR := .seq (.reg i27_o20) (.keep [0, 10, 79] [3, 9, 130])
def i27_o21 : List II := [⟨(some 80), none, .mv (.t 0)⟩,
                  ⟨(some 81), none, .call 47 [(.t 80), (.k (.int .i64 3))]⟩]
def i27_r21 : IR := .seq (.reg i27_o21) (.keep [] [3, 9, 130])
def i27_o22 : List II := [⟨(some 82), none, .mv (.t 0)⟩,
                ⟨(some 83), none, .mv (.t 10)⟩,
                ⟨(some 84), none, .nck (.t 82)⟩,
                ⟨(some 85), none, .fa 7 (.t 84)⟩,
                ⟨none, none, .st 1 (.t 85) (.t 83)⟩]
def i27_r22 : IR := .seq (.reg i27_o22) (.keep [0] [3, 9, 130])
def i27_o23 : List II := [⟨(some 86), none, .mv (.t 0)⟩,
                ⟨(some 87), none, .call 48 [(.t 86)]⟩]
def i27_r23 : IR := .seq (.reg i27_o23) (.keep [] [3, 9, 130])
def i27_o24 : List II := [⟨(some 89), none, .bin .eql (.t 14) (.k (.int .i64 7))⟩,
                ⟨(some 88), none, .mv (.t 89)⟩]
def i27_r24 : IR := .seq (.reg i27_o24) (.keep [0, 3, 14, 88] [3, 9, 130])
def i27_o25 : List II := [⟨(some 90), none, .mv (.t 0)⟩,
                  ⟨(some 91), none, .fa 4 (.t 3)⟩,
                  ⟨(some 92), none, .ld1 (.t 91)⟩,
                  ⟨(some 93), none, .call 51 [(.t 92)]⟩,
                  ⟨(some 94), none, .fa 6 (.t 3)⟩,
                  ⟨(some 95), none, .ld1 (.t 94)⟩,
                  ⟨(some 96), none, .call 50 [(.t 95)]⟩,
                  ⟨(some 97), none, .build [.str [], .int .i64 0, .int .i64 0, .int .i64 0, .int .i64 0, .bool false, .int .i64 0, .str [], .str []] [(0, 1, (.t 93)), (5, 1, (.k (.bool true))), (6, 3, (.t 96))]⟩,
                  ⟨(some 98), none, .call 26 [(.t 90), (.t 97)]⟩]
def i27_r25 : IR := .seq (.drw 8 [[], [], [], [], [], [], [], []] i27_o25) (.keep [] [3, 9, 130])
def i27_o26 : List II := [⟨(some 100), none, .bin .eql (.t 14) (.k (.int .i64 3))⟩,
                  ⟨(some 99), none, .mv (.t 100)⟩]
def i27_r26 : IR := .seq (.reg i27_o26) (.keep [0, 3, 99] [3, 9, 130])
def i27_o27 : List II := [⟨(some 101), none, .fa 4 (.t 3)⟩,
                    ⟨(some 102), none, .ld1 (.t 101)⟩,
                    ⟨(some 103), none, .len 0 (.t 102)⟩,
                    ⟨(some 104), none, .mv (.k (.int .i64 0))⟩]
def i27_r27 : IR := .seq (.reg i27_o27) (.keep [0, 102, 103, 104] [3, 9, 130])
def i27_o28 : List II := [⟨(some 105), none, .bin .lss (.t 104) (.t 103)⟩]
def i27_r28 : IR := .seq (.reg i27_o28) (.keep [0, 102, 103, 104, 105] [3, 9, 130])
def i27_o29 : List II := [⟨(some 106), none, .ia 1 (.t 102) (.t 104)⟩,
      ⟨(some 107), none, .ld1 (.t 106)⟩,
      ⟨(some 12), none, .mv (.t 107)⟩]
def i27_r29 : IR := .seq (.reg i27_o29) (.keep [0, 12, 102, 103, 104] [3, 9, 130])
def i27_o30 : List II := [⟨(some 108), none, .mv (.t 12)⟩,
      ⟨(some 109), none, .len 1 (.t 108)⟩,
      ⟨(some 110), none, .bin .gtr (.t 109) (.k (.int .i64 255))⟩]
def i27_r30 : IR := .seq (.reg i27_o30) (.keep [0, 12, 102, 103, 104, 110] [3, 9, 130])
def i27_o31 : List II := [⟨(some 111), none, .mv (.t 0)⟩,
        ⟨(some 112), none, .call 47 [(.t 111), (.k (.int .i64 3))]⟩]
def i27_r31 : IR := .seq (.reg i27_o31) (.keep [0, 102, 103, 104] [3, 9, 130])
def i27_o32 : List II := [⟨(some 113), none, .mv (.t 0)⟩,
      ⟨(some 114), none, .mv (.t 0)⟩,
      ⟨(some 115), none, .nck (.t 114)⟩,
      ⟨(some 116), none, .fa 0 (.t 115)⟩,
      ⟨(some 117), none, .fa 2 (.t 116)⟩,
      ⟨(some 118), none, .ld1 (.t 117)⟩,
      ⟨(some 119), none, .mv (.t 12)⟩,
      ⟨(some 120), none, .mv (.t 0)⟩,
      ⟨(some 121), none, .nck (.t 120)⟩,
      ⟨(some 122), none, .fa 5 (.t 121)⟩,
      ⟨(some 123), none, .ld1 (.t 122)⟩,
      ⟨(some 124), none, .mv (.t 0)⟩,
      ⟨(some 125), none, .nck (.t 124)⟩,
      ⟨(some 126), none, .fa 6 (.t 125)⟩,
      ⟨(some 127), none, .ld1 (.t 126)⟩,
      ⟨(some 128), none, .build [.str [], .int .i64 0, .int .i64 0] [(0, 1, (.t 119)), (1, 1, (.t 123)), (2, 1, (.t 127))]⟩,
      ⟨(some 129), none, .lit [.str [], .int .i64 0, .int .i64 0] 1 [(0, (.t 128))]⟩,
      ⟨(some 130), none, .app false [] 3 32 (.t 118) (.t 129)⟩,
      ⟨(some 131), none, .nck (.t 113)⟩,
      ⟨(some 132), none, .fa 0 (.t 131)⟩,
      ⟨(some 133), none, .fa 2 (.t 132)⟩,
      ⟨none, none, .st 1 (.t 133) (.t 130)⟩]
def i27_r32 : IR := .seq (.drw 18 [[], [], [], [], [], [], [], [], [], [], [], [], [], [], [], [], [], [0]] i27_o32) (.keep [0, 102, 103, 104] [3, 9, 130])
def i27_o33 : List II := [⟨(some 134), none, .bin .add (.t 104) (.k (.int .i64 1))⟩,
    ⟨(some 104), none, .mv (.t 134)⟩]
def i27_r33 : IR := .seq (.reg i27_o33) (.keep [0, 102, 103, 104] [3, 9, 130])
def i27_l3 : IR := (.seq i27_r28
  (.seq (.cond (.t 105) .skip
    (.exit 3))
  (.seq (.block 4 (.seq i27_r29
    (.seq (.seq i27_r30
    (.cond (.t 110) (.seq i27_r31
      (.exit 4))
      .skip))
    i27_r32)))
  i27_r33)))
def i27 : IFn := ⟨(.seq i27_r0
  (.seq i27_r1
  (.block 0 (.seq i27_r2
    (.cond (.t 15) (.seq i27_r3
      (.seq (.seq i27_r4
      (.seq i27_r5
      (.cond (.t 24) i27_r6
        .skip)))
      i27_r7))
      (.seq i27_r8
      (.cond (.t 32) i27_r9
        (.seq i27_r10
        (.cond (.t 41) (.seq i27_r11
          (.block 1 (.loop i27_l1)))
          (.seq i27_r16
          (.cond (.t 60) i27_r17
            (.seq i27_r18
            (.cond (.t 72) (.seq i27_r19
              (.seq (.seq i27_r20
              (.cond (.t 79) (.seq i27_r21
                .ret)
                .skip))
              (.seq i27_r22
              i27_r23)))
              (.seq i27_r24
              (.cond (.t 88) i27_r25
                (.seq i27_r26
                (.cond (.t 99) (.seq i27_r27
                  (.block 3 (.loop i27_l3)))
                  .skip))))))))))))))))),
  []⟩
def i30_o0 : List II := [⟨(some 4), none, .mv (.k (.bool false))⟩]
def i30_r0 : IR := .seq (.reg i30_o0) (.keep [0, 1] [])
def i30_o1 : List II := [⟨(some 5), none, .mv (.t 0)⟩,
    ⟨(some 6), none, .mv (.t 1)⟩,
    ⟨(some 7), none, .call 57 [(.t 5), (.t 6)]⟩,
    ⟨(some 4), none, .mv (.t 7)⟩]
def i30_r1 : IR := .seq (.reg i30_o1) (.keep [4] [])
def i30 : IFn := ⟨(.seq i30_r0
  (.seq i30_r1
  .ret)),
  [.tmp 4]⟩
def i32_o0 : List II := [⟨(some 1), none, .box 2 [] (.t 0)⟩,
    ⟨(some 2), none, .alloc [.d (.str []), .d (.sl false [])]⟩]
def i32_r0 : IR := .seq (.reg i32_o0) (.keep [1, 2] [1, 2])
def i32_o1 : List II := [⟨(some 3), none, .fa 1 (.t 1)⟩,
    ⟨(some 4), none, .ld1 (.t 3)⟩,
    ⟨(some 5), none, .call 59 [(.t 4)]⟩,
    ⟨(some 6), none, .fa 1 (.t 1)⟩,
    ⟨none, none, .st 1 (.t 6) (.t 5)⟩]
def i32_r1 : IR := .seq (.reg i32_o1) (.keep [1, 2] [1, 2])
def i32_o2 : List II := [⟨(some 7), none, .ldn 2 (.t 1)⟩,
    ⟨none, none, .st 2 (.t 2) (.t 7)⟩]
def i32_r2 : IR := .seq (.reg i32_o2) (.keep [2] [1, 2])
def i32 : IFn := ⟨(.seq i32_r0
  (.seq i32_r1
  (.seq i32_r2
  .ret))),
  [.cell 2 2]⟩
def i33_o0 : List II := [⟨(some 2), none, .mv (.k (.sl false []))⟩]
def i33_r0 : IR := .seq (.reg i33_o0) (.keep [0] [7])
def i33_o1 : List II := [⟨(some 3), none, .mv (.t 0)⟩,
    ⟨(some 4), none, .isnil 0 false (.t 3)⟩]
def i33_r1 : IR := .seq (.reg i33_o1) (.keep [0, 4] [7])
def i33_o2 : List II := [⟨(some 2), none, .mv (.k (.sl false []))⟩]
def i33_r2 : IR := .seq (.reg i33_o2) (.keep [2] [7])
def i33_o3 : List II := [⟨(some 5), none, .lit [.int .u8 0] 0 []⟩,
    ⟨(some 6), none, .mv (.t 0)⟩,
    ⟨(some 7), none, .app true [] 1 1 (.t 5) (.t 6)⟩,
    ⟨(some 2), none, .mv (.t 7)⟩]
def i33_r3 : IR := .seq (.reg i33_o3) (.keep [2] [7])
def i33 : IFn := ⟨(.seq i33_r0
  (.seq (.seq i33_r1
  (.cond (.t 4) (.seq i33_r2
    .ret)
    .skip))
  (.seq i33_r3
  .ret))),
  [.tmp 2]⟩
def i35_o0 : List II := [⟨(some 5), none, .box 2 [] (.t 2)⟩,
    ⟨(some 6), none, .alloc [.d (.int .i64 0), .d (.int .i64 0), .d (.int .i64 0), .d (.int .i64 0), .d (.int .i64 0), .d (.int .i64 0), .d (.int .i64 0)]⟩,
    ⟨(some 7), none, .mv (.k (.bool false))⟩]
def i35_r0 : IR := .seq (.reg i35_o0) (.keep [0, 1, 5, 6] [5, 6, 11, 12])
def i35_o1 : List II := [⟨(some 14), none, .ldn 2 (.t 5)⟩,
    ⟨(some 15), none, .call 11 [(.t 14)]⟩,
    ⟨(some 13), none, .mv (.t 15)⟩,
    ⟨(some 16), none, .ext (.t 13) 0⟩,
    ⟨(some 17), none, .ext (.t 13) 1⟩,
    ⟨(some 18), none, .ext (.t 13) 2⟩,
    ⟨(some 8), none, .mv (.t 16)⟩,
    ⟨(some 9), none, .mv (.t 17)⟩,
    ⟨(some 10), none, .mv (.t 18)⟩]
def i35_r1 : IR := .seq (.reg i35_o1) (.keep [0, 1, 5, 6, 8, 9, 10] [5, 6, 11, 12])
def i35_o2 : List II := [⟨(some 19), none, .mv (.t 10)⟩,
    ⟨(some 20), none, .un .not (.t 19)⟩]
def i35_r2 : IR := .seq (.reg i35_o2) (.keep [0, 1, 5, 6, 8, 9, 20] [5, 6, 11, 12])
def i35_o3 : List II := [⟨(some 21), none, .build [.int .i64 0, .int .i64 0, .int .i64 0, .int .i64 0, .int .i64 0, .int .i64 0, .int .i64 0] []⟩,
      ⟨none, none, .st 7 (.t 6) (.t 21)⟩,
      ⟨(some 7), none, .mv (.k (.bool false))⟩]
def i35_r3 : IR := .seq (.reg i35_o3) (.keep [6, 7] [5, 6, 11, 12])
def i35_o4 : List II := [⟨(some 22), none, .fa 1 (.t 5)⟩,
    ⟨(some 23), none, .ld1 (.t 22)⟩,
    ⟨(some 24), none, .fa 1 (.t 5)⟩,
    ⟨(some 25), none, .ld1 (.t 24)⟩,
    ⟨(some 26), none, .len 0 (.t 25)⟩,
    ⟨(some 27), none, .bin .sub (.t 26) (.k (.int .i64 1))⟩,
    ⟨(some 28), none, .ia 15 (.t 23) (.t 27)⟩,
    ⟨(some 29), none, .fa 10 (.t 28)⟩,
    ⟨(some 30), none, .ldn 3 (.t 29)⟩,
    ⟨(some 11), none, .alloc [.d (.int .i64 0), .d (.str []), .d (.str [])]⟩,
    ⟨none, none, .st 3 (.t 11) (.t 30)⟩]
def i35_r4 : IR := .seq (.reg i35_o4) (.keep [0, 1, 6, 8, 9, 11] [5, 6, 11, 12])
def i35_o5 : List II := [⟨(some 32), none, .mv (.t 0)⟩,
    ⟨(some 33), none, .fa 1 (.t 11)⟩,
    ⟨(some 34), none, .ld1 (.t 33)⟩,
    ⟨(some 35), none, .look false [2] (.agg [.str [], .int .i64 0, .int .i64 0, .int .i64 0, .int .i64 0, .bool false, .int .i64 0, .str [], .str []]) true (.t 32) (.t 34)⟩,
    ⟨(some 31), none, .mv (.t 35)⟩,
    ⟨(some 36), none, .ext (.t 31) 0⟩,
    ⟨(some 37), none, .ext (.t 31) 1⟩,
    ⟨(some 12), none, .alloc [.d (.str []), .d (.int .i64 0), .d (.int .i64 0), .d (.int .i64 0), .d (.int .i64 0), .d (.bool false), .d (.int .i64 0), .d (.str []), .d (.str [])]⟩,
    ⟨none, none, .st 9 (.t 12) (.t 36)⟩,
    ⟨(some 10), none, .mv (.t 37)⟩]
def i35_r5 : IR := .seq (.reg i35_o5) (.keep [1, 6, 8, 9, 10, 11, 12] [5, 6, 11, 12])
def i35_o6 : List II := [⟨(some 38), none, .mv (.t 10)⟩,
    ⟨(some 39), none, .un .not (.t 38)⟩,
    ⟨(some 40), none, .mv (.t 39)⟩,
    ⟨(some 41), (some (40, false)), .fa 5 (.t 12)⟩,
    ⟨(some 42), (some (40, false)), .ld1 (.t 41)⟩,
    ⟨(some 43), none, .pick (.t 40) (.k (.bool true)) (.t 42)⟩,
    ⟨(some 44), none, .mv (.t 43)⟩,
    ⟨(some 45), (some (44, false)), .fa 3 (.t 12)⟩,
    ⟨(some 46), (some (44, false)), .ld1 (.t 45)⟩,
    ⟨(some 47), (some (44, false)), .mv (.t 1)⟩,
    ⟨(some 48), (some (44, false)), .bin .neq (.t 46) (.t 47)⟩,
    ⟨(some 49), none, .pick (.t 44) (.k (.bool true)) (.t 48)⟩]
def i35_r6 : IR := .seq (.reg i35_o6) (.keep [6, 8, 9, 11, 12, 49] [5, 6, 11, 12])
def i35_o7 : List II := [⟨(some 50), none, .build [.int .i64 0, .int .i64 0, .int .i64 0, .int .i64 0, .int .i64 0, .int .i64 0, .int .i64 0] []⟩,
      ⟨none, none, .st 7 (.t 6) (.t 50)⟩,
      ⟨(some 7), none, .mv (.k (.bool false))⟩]
def i35_r7 : IR := .seq (.reg i35_o7) (.keep [6, 7] [5, 6, 11, 12])
def i35_o8 : List II := [⟨(some 51), none, .fa 4 (.t 12)⟩,
    ⟨(some 52), none, .ld1 (.t 51)⟩,
    ⟨(some 53), none, .fa 0 (.t 11)⟩,
    ⟨(some 54), none, .ld1 (.t 53)⟩,
    ⟨(some 55), none, .mv (.t 8)⟩,
    ⟨(some 56), none, .mv (.t 9)⟩,
    ⟨(some 57), none, .build [.int .i64 0, .int .i64 0, .int .i64 0, .int .i64 0, .int .i64 0, .int .i64 0, .int .i64 0] [(0, 1, (.k (.int .i64 3))), (3, 1, (.t 52)), (4, 1, (.t 54)), (5, 1, (.t 55)), (6, 1, (.t 56))]⟩,
    ⟨none, none, .st 7 (.t 6) (.t 57)⟩,
    ⟨(some 7), none, .mv (.k (.bool true))⟩]
def i35_r8 : IR := .seq (.reg i35_o8) (.keep [6, 7] [5, 6, 11, 12])
def i35 : IFn := ⟨(.seq i35_r0
  (.seq i35_r1
  (.seq (.seq i35_r2
  (.cond (.t 20) (.seq i35_r3
    .ret)
    .skip))
  (.seq i35_r4
  (.seq i35_r5
  (.seq (.seq i35_r6
  (.cond (.t 49) (.seq i35_r7
    .ret)
    .skip))
  (.seq i35_r8
  .ret))))))),
  [.cell 6 7, .tmp 7]⟩
def i36_o0 : List II := [⟨(some 2), none, .mv (.k (.int .i64 0))⟩]
def i36_r0 : IR := .seq (.reg i36_o0) (.keep [0] [4])
def i36_o1 : List II := [⟨(some 5), none, .build [.str [], .int .i64 0] [(0, 1, (.k (.str [46, 116, 101, 120, 116]))), (1, 1, (.k (.int .i64 1)))]⟩,
    ⟨(some 6), none, .build [.str [], .int .i64 0] [(0, 1, (.k (.str [46, 114, 111, 100, 97, 116, 97]))), (1, 1, (.k (.int .i64 3)))]⟩,
    ⟨(some 7), none, .build [.str [], .int .i64 0] [(0, 1, (.k (.str [46, 98, 115, 115]))), (1, 1, (.k (.int .i64 4)))]⟩,
    ⟨(some 8), none, .lit [.str [], .int .i64 0] 3 [(0, (.t 5)), (1, (.t 6)), (2, (.t 7))]⟩,
    ⟨(some 9), none, .len 0 (.t 8)⟩,
    ⟨(some 10), none, .mv (.k (.int .i64 0))⟩]
def i36_r1 : IR := .seq (.reg i36_o1) (.keep [0, 8, 9, 10] [4])
def i36_o2 : List II := [⟨(some 11), none, .bin .lss (.t 10) (.t 9)⟩]
def i36_r2 : IR := .seq (.reg i36_o2) (.keep [0, 8, 9, 10, 11] [4])
def i36_o3 : List II := [⟨(some 12), none, .ia 2 (.t 8) (.t 10)⟩,
      ⟨(some 13), none, .ldn 2 (.t 12)⟩,
      ⟨(some 4), none, .alloc [.d (.str []), .d (.int .i64 0)]⟩,
      ⟨none, none, .st 2 (.t 4) (.t 13)⟩]
def i36_r3 : IR := .seq (.reg i36_o3) (.keep [0, 4, 8, 9, 10] [4])
def i36_o4 : List II := [⟨(some 14), none, .mv (.t 0)⟩,
      ⟨(some 15), none, .fa 0 (.t 4)⟩,
      ⟨(some 16), none, .ld1 (.t 15)⟩,
      ⟨(some 17), none, .bin .eql (.t 14) (.t 16)⟩,
      ⟨(some 18), none, .mv (.t 17)⟩,
      ⟨(some 19), (some (18, false)), .mv (.t 0)⟩,
      ⟨(some 20), (some (18, false)), .fa 0 (.t 4)⟩,
      ⟨(some 21), (some (18, false)), .ld1 (.t 20)⟩,
      ⟨(some 22), (some (18, false)), .bin .add (.t 21) (.k (.str [46]))⟩,
      ⟨(some 23), (some (18, false)), .call 30 [(.t 19), (.t 22)]⟩,
      ⟨(some 24), none, .pick (.t 18) (.k (.bool true)) (.t 23)⟩]
def i36_r4 : IR := .seq (.reg i36_o4) (.keep [0, 4, 8, 9, 10, 24] [4])
def i36_o5 : List II := [⟨(some 25), none, .fa 1 (.t 4)⟩,
        ⟨(some 26), none, .ld1 (.t 25)⟩,
        ⟨(some 2), none, .mv (.t 26)⟩]
def i36_r5 : IR := .seq (.reg i36_o5) (.keep [2] [4])
def i36_o6 : List II := [⟨(some 27), none, .bin .add (.t 10) (.k (.int .i64 1))⟩,
    ⟨(some 10), none, .mv (.t 27)⟩]
def i36_r6 : IR := .seq (.reg i36_o6) (.keep [0, 8, 9, 10] [4])
def i36_l0 : IR := (.seq i36_r2
  (.seq (.cond (.t 11) .skip
    (.exit 0))
  (.seq (.block 1 (.seq i36_r3
    (.seq i36_r4
    (.cond (.t 24) (.seq i36_r5
      .ret)
      .skip))))
  i36_r6)))
def i36_o7 : List II := [⟨(some 2), none, .mv (.k (.int .i64 2))⟩]
def i36_r7 : IR := .seq (.reg i36_o7) (.keep [2] [4])
def i36 : IFn := ⟨(.seq i36_r0
  (.seq (.seq i36_r1
  (.block 0 (.loop i36_l0)))
  (.seq i36_r7
  .ret))),
  [.tmp 2]⟩
def i47_o0 : List II := [⟨(some 4), none, .mv (.t 0)⟩,
    ⟨(some 5), none, .mv (.t 0)⟩,
    ⟨(some 6), none, .nck (.t 5)⟩,
    ⟨(some 7), none, .fa 4 (.t 6)⟩,
    ⟨(some 8), none, .ld1 (.t 7)⟩,
    ⟨(some 9), none, .mv (.t 0)⟩,
    ⟨(some 10), none, .nck (.t 9)⟩,
    ⟨(some 11), none, .fa 5 (.t 10)⟩,
    ⟨(some 12), none, .ld1 (.t 11)⟩,
    ⟨(some 13), none, .mv (.t 0)⟩,
    ⟨(some 14), none, .nck (.t 13)⟩,
    ⟨(some 15), none, .fa 6 (.t 14)⟩,
    ⟨(some 16), none, .ld1 (.t 15)⟩,
    ⟨(some 17), none, .mv (.t 1)⟩,
    ⟨(some 18), none, .build [.int .i64 0, .int .i64 0, .int .i64 0] [(0, 1, (.t 12)), (1, 1, (.t 16)), (2, 1, (.t 17))]⟩,
    ⟨(some 19), none, .lit [.int .i64 0, .int .i64 0, .int .i64 0] 1 [(0, (.t 18))]⟩,
    ⟨(some 20), none, .app false [] 3 24 (.t 8) (.t 19)⟩,
    ⟨(some 21), none, .nck (.t 4)⟩,
    ⟨(some 22), none, .fa 4 (.t 21)⟩,
    ⟨none, none, .st 1 (.t 22) (.t 20)⟩]
def i47_r0 : IR := .seq (.drw 17 [[], [], [], [], [], [], [], [], [], [], [], [], [], [], [], [], [0]] i47_o0) (.keep [] [20])
def i47 : IFn := ⟨i47_r0,
  []⟩
def i48_o0 : List II := [⟨(some 2), none, .mv (.k (.nilp))⟩,
    ⟨(some 3), none, .mv (.k (.int .i64 0))⟩]
def i48_r0 : IR := .seq (.reg i48_o0) (.keep [0] [55])
def i48_o1 : List II := [⟨(some 7), none, .mv (.t 0)⟩,
    ⟨(some 8), none, .nck (.t 7)⟩,
    ⟨(some 9), none, .fa 3 (.t 8)⟩,
    ⟨(some 10), none, .ld1 (.t 9)⟩,
    ⟨(some 11), none, .mv (.t 0)⟩,
    ⟨(some 12), none, .nck (.t 11)⟩,
    ⟨(some 13), none, .fa 7 (.t 12)⟩,
    ⟨(some 14), none, .ld1 (.t 13)⟩,
    ⟨(some 15), none, .look false [2] (.int .i64 0) true (.t 10) (.t 14)⟩,
    ⟨(some 6), none, .mv (.t 15)⟩,
    ⟨(some 16), none, .ext (.t 6) 0⟩,
    ⟨(some 17), none, .ext (.t 6) 1⟩,
    ⟨(some 4), none, .mv (.t 16)⟩,
    ⟨(some 5), none, .mv (.t 17)⟩]
def i48_r1 : IR := .seq (.drw 13 [[], [], [], [], [], [], [], [], [], [], [], [], []] i48_o1) (.keep [0, 4, 5] [55])
def i48_o2 : List II := [⟨(some 18), none, .mv (.t 5)⟩,
    ⟨(some 19), none, .un .not (.t 18)⟩]
def i48_r2 : IR := .seq (.reg i48_o2) (.keep [0, 4, 19] [55])
def i48_o3 : List II := [⟨(some 20), none, .mv (.t 0)⟩,
      ⟨(some 21), none, .nck (.t 20)⟩,
      ⟨(some 22), none, .fa 0 (.t 21)⟩,
      ⟨(some 23), none, .fa 0 (.t 22)⟩,
      ⟨(some 24), none, .ld1 (.t 23)⟩,
      ⟨(some 25), none, .len 0 (.t 24)⟩,
      ⟨(some 4), none, .mv (.t 25)⟩]
def i48_r3 : IR := .seq (.reg i48_o3) (.keep [0, 4] [55])
def i48_o4 : List II := [⟨(some 26), none, .mv (.t 0)⟩,
      ⟨(some 27), none, .nck (.t 26)⟩,
      ⟨(some 28), none, .fa 3 (.t 27)⟩,
      ⟨(some 29), none, .ld1 (.t 28)⟩,
      ⟨(some 30), none, .mv (.t 0)⟩,
      ⟨(some 31), none, .nck (.t 30)⟩,
      ⟨(some 32), none, .fa 7 (.t 31)⟩,
      ⟨(some 33), none, .ld1 (.t 32)⟩,
      ⟨(some 34), none, .mv (.t 4)⟩,
      ⟨none, none, .upd false [2] (.t 29) (.t 33) (.t 34)⟩]
def i48_r4 : IR := .seq (.drw 9 [[], [], [], [], [], [], [], [], []] i48_o4) (.keep [0, 4] [55])
def i48_o5 : List II := [⟨(some 35), none, .mv (.t 0)⟩,
      ⟨(some 36), none, .mv (.t 0)⟩,
      ⟨(some 37), none, .nck (.t 36)⟩,
      ⟨(some 38), none, .fa 0 (.t 37)⟩,
      ⟨(some 39), none, .fa 0 (.t 38)⟩,
      ⟨(some 40), none, .ld1 (.t 39)⟩,
      ⟨(some 41), none, .mv (.t 0)⟩,
      ⟨(some 42), none, .nck (.t 41)⟩,
      ⟨(some 43), none, .fa 7 (.t 42)⟩,
      ⟨(some 44), none, .ld1 (.t 43)⟩,
      ⟨(some 45), none, .mv (.t 0)⟩,
      ⟨(some 46), none, .nck (.t 45)⟩,
      ⟨(some 47), none, .fa 5 (.t 46)⟩,
      ⟨(some 48), none, .ld1 (.t 47)⟩,
      ⟨(some 49), none, .mv (.t 0)⟩,
      ⟨(some 50), none, .nck (.t 49)⟩,
      ⟨(some 51), none, .fa 6 (.t 50)⟩,
      ⟨(some 52), none, .ld1 (.t 51)⟩,
      ⟨(some 53), none, .build [.str [], .int .i64 0, .int .i64 0, .sl false []] [(0, 1, (.t 44)), (1, 1, (.t 48)), (2, 1, (.t 52))]⟩,
      ⟨(some 54), none, .lit [.str [], .int .i64 0, .int .i64 0, .sl false []] 1 [(0, (.t 53))]⟩,
      ⟨(some 55), none, .app false [(3, 11)] 4 56 (.t 40) (.t 54)⟩,
      ⟨(some 56), none, .nck (.t 35)⟩,
      ⟨(some 57), none, .fa 0 (.t 56)⟩,
      ⟨(some 58), none, .fa 0 (.t 57)⟩,
      ⟨none, none, .st 1 (.t 58) (.t 55)⟩]
def i48_r5 : IR := .seq (.drw 21 [[], [], [], [], [], [], [], [], [], [], [], [], [], [], [], [], [], [], [], [], [0]] i48_o5) (.keep [0, 4] [55])
def i48_o6 : List II := [⟨(some 59), none, .mv (.t 0)⟩,
    ⟨(some 60), none, .nck (.t 59)⟩,
    ⟨(some 61), none, .fa 0 (.t 60)⟩,
    ⟨(some 62), none, .fa 0 (.t 61)⟩,
    ⟨(some 63), none, .ld1 (.t 62)⟩,
    ⟨(some 64), none, .mv (.t 4)⟩,
    ⟨(some 65), none, .ia 4 (.t 63) (.t 64)⟩,
    ⟨(some 66), none, .mv (.t 4)⟩,
    ⟨(some 2), none, .mv (.t 65)⟩,
    ⟨(some 3), none, .mv (.t 66)⟩]
def i48_r6 : IR := .seq (.reg i48_o6) (.keep [2, 3] [55])
def i48 : IFn := ⟨(.seq i48_r0
  (.seq i48_r1
  (.seq (.seq i48_r2
  (.cond (.t 19) (.seq i48_r3
    (.seq i48_r4
    i48_r5))
    .skip))
  (.seq i48_r6
  .ret)))),
  [.tmp 2, .tmp 3]⟩
def i49_o0 : List II := [⟨(some 4), none, .box 11 [] (.t 1)⟩]
def i49_r0 : IR := .seq (.reg i49_o0) (.keep [0, 2, 4] [4, 42])
def i49_o1 : List II := [⟨(some 8), none, .mv (.t 2)⟩,
    ⟨(some 9), none, .un .not (.t 8)⟩,
    ⟨(some 10), none, .mv (.t 9)⟩,
    ⟨(some 11), (some (10, true)), .mv (.t 0)⟩,
    ⟨(some 12), (some (10, true)), .nck (.t 11)⟩,
    ⟨(some 13), (some (10, true)), .fa 7 (.t 12)⟩,
    ⟨(some 14), (some (10, true)), .ld1 (.t 13)⟩,
    ⟨(some 15), (some (10, true)), .call 36 [(.t 14)]⟩,
    ⟨(some 16), (some (10, true)), .bin .eql (.t 15) (.k (.int .i64 4))⟩,
    ⟨(some 17), none, .pick (.t 10) (.t 16) (.k (.bool false))⟩]
def i49_r1 : IR := .seq (.reg i49_o1) (.keep [0, 4, 17] [4, 42])
def i49_o2 : List II := [⟨(some 18), none, .mv (.t 0)⟩,
      ⟨(some 19), none, .call 47 [(.t 18), (.k (.int .i64 150))]⟩]
def i49_r2 : IR := .seq (.reg i49_o2) (.keep [] [4, 42])
def i49_o3 : List II := [⟨(some 21), none, .mv (.t 0)⟩,
    ⟨(some 22), none, .call 48 [(.t 21)]⟩,
    ⟨(some 20), none, .mv (.t 22)⟩,
    ⟨(some 23), none, .ext (.t 20) 0⟩,
    ⟨(some 24), none, .ext (.t 20) 1⟩,
    ⟨(some 6), none, .mv (.t 23)⟩,
    ⟨(some 7), none, .mv (.t 24)⟩]
def i49_r3 : IR := .seq (.reg i49_o3) (.keep [0, 4, 6] [4, 42])
def i49_o4 : List II := [⟨(some 25), none, .mv (.t 0)⟩,
    ⟨(some 26), none, .nck (.t 25)⟩,
    ⟨(some 27), none, .fa 5 (.t 26)⟩,
    ⟨(some 28), none, .ld1 (.t 27)⟩,
    ⟨(some 29), none, .mv (.t 0)⟩,
    ⟨(some 30), none, .nck (.t 29)⟩,
    ⟨(some 31), none, .fa 6 (.t 30)⟩,
    ⟨(some 32), none, .ld1 (.t 31)⟩,
    ⟨(some 33), none, .fa 1 (.t 4)⟩,
    ⟨none, none, .st 1 (.t 33) (.t 28)⟩,
    ⟨(some 34), none, .fa 2 (.t 4)⟩,
    ⟨none, none, .st 1 (.t 34) (.t 32)⟩]
def i49_r4 : IR := .seq (.drw 10 [[], [], [], [], [], [], [], [], [], [4, 5, 6, 7]] i49_o4) (.keep [4, 6] [4, 42])
def i49_o5 : List II := [⟨(some 35), none, .mv (.t 6)⟩,
    ⟨(some 36), none, .mv (.t 6)⟩,
    ⟨(some 37), none, .nck (.t 36)⟩,
    ⟨(some 38), none, .fa 3 (.t 37)⟩,
    ⟨(some 39), none, .ld1 (.t 38)⟩,
    ⟨(some 40), none, .ldn 11 (.t 4)⟩,
    ⟨(some 41), none, .lit [.int .i64 0, .int .i64 0, .int .i64 0, .str [], .sl false [], .int .i64 0, .str [], .str [], .int .i64 0, .sl false [], .int .i64 0] 1 [(0, (.t 40))]⟩,
    ⟨(some 42), none, .app false [] 11 144 (.t 39) (.t 41)⟩,
    ⟨(some 43), none, .nck (.t 35)⟩,
    ⟨(some 44), none, .fa 3 (.t 43)⟩,
    ⟨none, none, .st 1 (.t 44) (.t 42)⟩]
def i49_r5 : IR := .seq (.drw 8 [[], [], [], [], [], [], [], [0]] i49_o5) (.keep [] [4, 42])
def i49 : IFn := ⟨(.seq i49_r0
  (.seq (.seq i49_r1
  (.cond (.t 17) (.seq i49_r2
    .ret)
    .skip))
  (.seq i49_r3
  (.seq i49_r4
  i49_r5)))),
  []⟩
def i50_o0 : List II := [⟨(some 2), none, .alloc [.d (.int .i64 0), .d (.str []), .d (.str [])]⟩]
def i50_r0 : IR := .seq (.reg i50_o0) (.keep [0, 2] [2, 3])
def i50_o1 : List II := [⟨(some 3), none, .alloc [.d (.int .i64 0), .d (.str []), .d (.str [])]⟩]
def i50_r1 : IR := .seq (.reg i50_o1) (.keep [0, 2, 3] [2, 3])
def i50_o2 : List II := [⟨(some 4), none, .mv (.t 0)⟩,
    ⟨(some 5), none, .len 0 (.t 4)⟩,
    ⟨(some 6), none, .bin .gtr (.t 5) (.k (.int .i64 0))⟩]
def i50_r2 : IR := .seq (.reg i50_o2) (.keep [0, 2, 3, 6] [2, 3])
def i50_o3 : List II := [⟨(some 7), none, .mv (.t 0)⟩,
      ⟨(some 8), none, .ia 3 (.t 7) (.k (.int .i64 0))⟩,
      ⟨(some 9), none, .ldn 3 (.t 8)⟩,
      ⟨none, none, .st 3 (.t 3) (.t 9)⟩]
def i50_r3 : IR := .seq (.reg i50_o3) (.keep [2, 3] [2, 3])
def i50_o4 : List II := [⟨(some 10), none, .ldn 3 (.t 3)⟩,
    ⟨none, none, .st 3 (.t 2) (.t 10)⟩]
def i50_r4 : IR := .seq (.reg i50_o4) (.keep [2] [2, 3])
def i50 : IFn := ⟨(.seq i50_r0
  (.seq i50_r1
  (.seq (.seq i50_r2
  (.cond (.t 6) i50_r3
    .skip))
  (.seq i50_r4
  .ret)))),
  [.cell 2 3]⟩
def i51_o0 : List II := [⟨(some 2), none, .mv (.k (.str []))⟩]
def i51_r0 : IR := .seq (.reg i51_o0) (.keep [0] [])
def i51_o1 : List II := [⟨(some 3), none, .mv (.k (.str []))⟩]
def i51_r1 : IR := .seq (.reg i51_o1) (.keep [0, 3] [])
def i51_o2 : List II := [⟨(some 4), none, .mv (.t 0)⟩,
    ⟨(some 5), none, .len 0 (.t 4)⟩,
    ⟨(some 6), none, .bin .gtr (.t 5) (.k (.int .i64 0))⟩]
def i51_r2 : IR := .seq (.reg i51_o2) (.keep [0, 3, 6] [])
def i51_o3 : List II := [⟨(some 7), none, .mv (.t 0)⟩,
      ⟨(some 8), none, .ia 1 (.t 7) (.k (.int .i64 0))⟩,
      ⟨(some 9), none, .ld1 (.t 8)⟩,
      ⟨(some 3), none, .mv (.t 9)⟩]
def i51_r3 : IR := .seq (.reg i51_o3) (.keep [3] [])
def i51_o4 : List II := [⟨(some 10), none, .mv (.t 3)⟩,
    ⟨(some 2), none, .mv (.t 10)⟩]
def i51_r4 : IR := .seq (.reg i51_o4) (.keep [2] [])
def i51 : IFn := ⟨(.seq i51_r0
  (.seq i51_r1
  (.seq (.seq i51_r2
  (.cond (.t 6) i51_r3
    .skip))
  (.seq i51_r4
  .ret)))),
  [.tmp 2]⟩
def i57_o0 : List II := [⟨(some 4), none, .mv (.k (.bool false))⟩]
def i57_r0 : IR := .seq (.reg i57_o0) (.keep [0, 1] [])
def i57_o1 : List II := [⟨(some 5), none, .mv (.t 0)⟩,
    ⟨(some 6), none, .len 1 (.t 5)⟩,
    ⟨(some 7), none, .mv (.t 1)⟩,
    ⟨(some 8), none, .len 1 (.t 7)⟩,
    ⟨(some 9), none, .bin .geq (.t 6) (.t 8)⟩,
    ⟨(some 10), none, .mv (.t 9)⟩,
    ⟨(some 11), (some (10, true)), .mv (.t 0)⟩,
    ⟨(some 12), (some (10, true)), .mv (.t 1)⟩,
    ⟨(some 13), (some (10, true)), .len 1 (.t 12)⟩,
    ⟨(some 14), (some (10, true)), .slcs (.t 11) none (some (.t 13))⟩,
    ⟨(some 15), (some (10, true)), .mv (.t 1)⟩,
    ⟨(some 16), (some (10, true)), .bin .eql (.t 14) (.t 15)⟩,
    ⟨(some 17), none, .pick (.t 10) (.t 16) (.k (.bool false))⟩,
    ⟨(some 4), none, .mv (.t 17)⟩]
def i57_r1 : IR := .seq (.reg i57_o1) (.keep [4] [])
def i57 : IFn := ⟨(.seq i57_r0
  (.seq i57_r1
  .ret)),
  [.tmp 4]⟩
def i59_o0 : List II := [⟨(some 2), none, .mv (.k (.sl false []))⟩]
def i59_r0 : IR := .seq (.reg i59_o0) (.keep [0] [7])
def i59_o1 : List II := [⟨(some 3), none, .mv (.t 0)⟩,
    ⟨(some 4), none, .isnil 0 false (.t 3)⟩]
def i59_r1 : IR := .seq (.reg i59_o1) (.keep [0, 4] [7])
def i59_o2 : List II := [⟨(some 2), none, .mv (.k (.sl false []))⟩]
def i59_r2 : IR := .seq (.reg i59_o2) (.keep [2] [7])
def i59_o3 : List II := [⟨(some 5), none, .lit [.int .i64 0, .int .i64 0, .bool false, .bool false, .int .i64 0, .bool false, .bool false, .int .i64 0, .int .i64 0, .int .i64 0, .int .i64 0, .str [], .str [], .bool false, .int .i64 0] 0 []⟩,
    ⟨(some 6), none, .mv (.t 0)⟩,
    ⟨(some 7), none, .app true [] 15 120 (.t 5) (.t 6)⟩,
    ⟨(some 2), none, .mv (.t 7)⟩]
def i59_r3 : IR := .seq (.reg i59_o3) (.keep [2] [7])
def i59 : IFn := ⟨(.seq i59_r0
  (.seq (.seq i59_r1
  (.cond (.t 4) (.seq i59_r2
    .ret)
    .skip))
  (.seq i59_r3
  .ret))),
  [.tmp 2]⟩
def fns : FuncId → Option IFn
  | 5 => some i5
  | 7 => some i7
  | 8 => some i8
  | 9 => some i9
  | 11 => some i11
  | 15 => some i15
  | 16 => some i16
  | 17 => some i17
  | 18 => some i18
  | 26 => some i26
  | 27 => some i27
  | 30 => some i30
  | 32 => some i32
  | 33 => some i33
  | 35 => some i35
  | 36 => some i36
  | 47 => some i47
  | 48 => some i48
  | 49 => some i49
  | 50 => some i50
  | 51 => some i51
  | 57 => some i57
  | 59 => some i59
  | _ => none
end Go.Proofs.YtgmphfmoonbfpaaMv

namespace Go.Proofs.YtgmphfmoonbfpaaMv
open Go
structure Sl (α : Type) where
  nn : Bool
  l : List α
  deriving DecidableEq, Inhabited
def strc (s : List UInt8) : List D := [D.str s]
def u8c (b : UInt8) : List D := [D.int .u8 (b.toNat : Int)]
theorem dqn : deqK [] [] [] = some (decide True) := rfl
theorem dq0 {ks : List Nat} {a b : Bool} {x y : List D} {p : Prop} [Decidable p] (h : deqK ks x y = some (decide p)) : deqK (0 :: ks) (D.bool a :: x) (D.bool b :: y) = some (decide (a = b ∧ p)) := by
  simp only [deqK, beq_iff_eq]
  by_cases hab : a = b <;> simp [hab, h]
theorem dq1 {ks : List Nat} {k : IntKind} {a b : Int} {x y : List D} {p : Prop} [Decidable p] (h : deqK ks x y = some (decide p)) : deqK (1 :: ks) (D.int k a :: x) (D.int k b :: y) = some (decide (a = b ∧ p)) := by
  simp only [deqK, beq_iff_eq, if_true]
  by_cases hab : a = b <;> simp [hab, h]
theorem dq2 {ks : List Nat} {a b : List UInt8} {x y : List D} {p : Prop} [Decidable p] (h : deqK ks x y = some (decide p)) : deqK (2 :: ks) (D.str a :: x) (D.str b :: y) = some (decide (a = b ∧ p)) := by
  simp only [deqK, beq_iff_eq]
  by_cases hab : a = b <;> simp [hab, h]
structure TVal where
  add : Int
  plus : List UInt8
  minus : List UInt8
  deriving DecidableEq, Inhabited
def TVal.c (x : TVal) : List D := [D.int .i64 x.add, D.str x.plus, D.str x.minus]
def TVal.oc (x : TVal) : List C := [C.d (D.int .i64 x.add), C.d (D.str x.plus), C.d (D.str x.minus)]
theorem TVal.deq (x y : TVal) : deqT true [1, 2, 2] (.agg x.c) (.agg y.c) = some (decide (x = y)) := by
  have h : (x = y) ↔ x.add = y.add ∧ x.plus = y.plus ∧ x.minus = y.minus := by
    constructor
    · rintro rfl; simp
    · intro h
      obtain ⟨h0, h1, h2⟩ := h
      obtain ⟨_, _, _⟩ := x
      obtain ⟨_, _, _⟩ := y
      simp_all
  simp only [deqT, TVal.c, List.length_cons, List.length_nil, and_self, if_true]
  refine (dq1 (dq2 (dq2 dqn))).trans ?_
  congr 1
  rw [decide_eq_decide, h]
  simp only [and_true]
structure TReg where
  n : Int
  x : Bool
  sp : Bool
  deriving DecidableEq, Inhabited
def TReg.c (x : TReg) : List D := [D.int .i64 x.n, D.bool x.x, D.bool x.sp]
def TReg.oc (x : TReg) : List C := [C.d (D.int .i64 x.n), C.d (D.bool x.x), C.d (D.bool x.sp)]
theorem TReg.deq (x y : TReg) : deqT true [1, 0, 0] (.agg x.c) (.agg y.c) = some (decide (x = y)) := by
  have h : (x = y) ↔ x.n = y.n ∧ x.x = y.x ∧ x.sp = y.sp := by
    constructor
    · rintro rfl; simp
    · intro h
      obtain ⟨h0, h1, h2⟩ := h
      obtain ⟨_, _, _⟩ := x
      obtain ⟨_, _, _⟩ := y
      simp_all
  simp only [deqT, TReg.c, List.length_cons, List.length_nil, and_self, if_true]
  refine (dq1 (dq0 (dq0 dqn))).trans ?_
  congr 1
  rw [decide_eq_decide, h]
  simp only [and_true]
structure TOpr where
  kind : Int
  r : TReg
  m : TReg
  md : Int
  amt : Int
  n : Int
  v : TVal
  lo : Bool
  mode : Int
  deriving DecidableEq, Inhabited
def TOpr.c (x : TOpr) : List D := [D.int .i64 x.kind, D.int .i64 x.r.n, D.bool x.r.x, D.bool x.r.sp, D.int .i64 x.m.n, D.bool x.m.x, D.bool x.m.sp, D.int .i64 x.md, D.int .i64 x.amt, D.int .i64 x.n, D.int .i64 x.v.add, D.str x.v.plus, D.str x.v.minus, D.bool x.lo, D.int .i64 x.mode]
def TOpr.oc (x : TOpr) : List C := [C.d (D.int .i64 x.kind), C.d (D.int .i64 x.r.n), C.d (D.bool x.r.x), C.d (D.bool x.r.sp), C.d (D.int .i64 x.m.n), C.d (D.bool x.m.x), C.d (D.bool x.m.sp), C.d (D.int .i64 x.md), C.d (D.int .i64 x.amt), C.d (D.int .i64 x.n), C.d (D.int .i64 x.v.add), C.d (D.str x.v.plus), C.d (D.str x.v.minus), C.d (D.bool x.lo), C.d (D.int .i64 x.mode)]
theorem TOpr.deq (x y : TOpr) : deqT true [1, 1, 0, 0, 1, 0, 0, 1, 1, 1, 1, 2, 2, 0, 1] (.agg x.c) (.agg y.c) = some (decide (x = y)) := by
  have h : (x = y) ↔ x.kind = y.kind ∧ x.r.n = y.r.n ∧ x.r.x = y.r.x ∧ x.r.sp = y.r.sp ∧ x.m.n = y.m.n ∧ x.m.x = y.m.x ∧ x.m.sp = y.m.sp ∧ x.md = y.md ∧ x.amt = y.amt ∧ x.n = y.n ∧ x.v.add = y.v.add ∧ x.v.plus = y.v.plus ∧ x.v.minus = y.v.minus ∧ x.lo = y.lo ∧ x.mode = y.mode := by
    constructor
    · rintro rfl; simp
    · intro h
      obtain ⟨h0, h1, h2, h3, h4, h5, h6, h7, h8, h9, h10, h11, h12, h13, h14⟩ := h
      obtain ⟨_, ⟨_, _, _⟩, ⟨_, _, _⟩, _, _, _, ⟨_, _, _⟩, _, _⟩ := x
      obtain ⟨_, ⟨_, _, _⟩, ⟨_, _, _⟩, _, _, _, ⟨_, _, _⟩, _, _⟩ := y
      simp_all
  simp only [deqT, TOpr.c, List.length_cons, List.length_nil, and_self, if_true]
  refine (dq1 (dq1 (dq0 (dq0 (dq1 (dq0 (dq0 (dq1 (dq1 (dq1 (dq1 (dq2 (dq2 (dq0 (dq1 dqn))))))))))))))).trans ?_
  congr 1
  rw [decide_eq_decide, h]
  simp only [and_true]
structure TLin where
  name : List UInt8
  opers : Sl (TOpr)
  deriving DecidableEq, Inhabited
def TLin.c (x : TLin) : List D := [D.str x.name, D.sl x.opers.nn (x.opers.l.map TOpr.c)]
def TLin.oc (x : TLin) : List C := [C.d (D.str x.name), C.d (D.sl x.opers.nn (x.opers.l.map TOpr.c))]
structure TStm where
  labels : Sl (List UInt8)
  kind : Int
  line : TLin
  names : Sl (List UInt8)
  size : Int
  values : Sl (TVal)
  bytes : Sl (UInt8)
  deriving DecidableEq, Inhabited
def TStm.c (x : TStm) : List D := [D.sl x.labels.nn (x.labels.l.map strc), D.int .i64 x.kind, D.str x.line.name, D.sl x.line.opers.nn (x.line.opers.l.map TOpr.c), D.sl x.names.nn (x.names.l.map strc), D.int .i64 x.size, D.sl x.values.nn (x.values.l.map TVal.c), D.sl x.bytes.nn (x.bytes.l.map u8c)]
def TStm.oc (x : TStm) : List C := [C.d (D.sl x.labels.nn (x.labels.l.map strc)), C.d (D.int .i64 x.kind), C.d (D.str x.line.name), C.d (D.sl x.line.opers.nn (x.line.opers.l.map TOpr.c)), C.d (D.sl x.names.nn (x.names.l.map strc)), C.d (D.int .i64 x.size), C.d (D.sl x.values.nn (x.values.l.map TVal.c)), C.d (D.sl x.bytes.nn (x.bytes.l.map u8c))]
structure TRow where
  line : Int
  s : TStm
  deriving DecidableEq, Inhabited
def TRow.c (x : TRow) : List D := [D.int .i64 x.line, D.sl x.s.labels.nn (x.s.labels.l.map strc), D.int .i64 x.s.kind, D.str x.s.line.name, D.sl x.s.line.opers.nn (x.s.line.opers.l.map TOpr.c), D.sl x.s.names.nn (x.s.names.l.map strc), D.int .i64 x.s.size, D.sl x.s.values.nn (x.s.values.l.map TVal.c), D.sl x.s.bytes.nn (x.s.bytes.l.map u8c)]
def TRow.oc (x : TRow) : List C := [C.d (D.int .i64 x.line), C.d (D.sl x.s.labels.nn (x.s.labels.l.map strc)), C.d (D.int .i64 x.s.kind), C.d (D.str x.s.line.name), C.d (D.sl x.s.line.opers.nn (x.s.line.opers.l.map TOpr.c)), C.d (D.sl x.s.names.nn (x.s.names.l.map strc)), C.d (D.int .i64 x.s.size), C.d (D.sl x.s.values.nn (x.s.values.l.map TVal.c)), C.d (D.sl x.s.bytes.nn (x.s.bytes.l.map u8c))]
structure TPce where
  kind : Int
  file : Int
  line : Int
  l : TLin
  v : TVal
  size : Int
  b : Sl (UInt8)
  align : Int
  deriving DecidableEq, Inhabited
def TPce.c (x : TPce) : List D := [D.int .i64 x.kind, D.int .i64 x.file, D.int .i64 x.line, D.str x.l.name, D.sl x.l.opers.nn (x.l.opers.l.map TOpr.c), D.int .i64 x.v.add, D.str x.v.plus, D.str x.v.minus, D.int .i64 x.size, D.sl x.b.nn (x.b.l.map u8c), D.int .i64 x.align]
def TPce.oc (x : TPce) : List C := [C.d (D.int .i64 x.kind), C.d (D.int .i64 x.file), C.d (D.int .i64 x.line), C.d (D.str x.l.name), C.d (D.sl x.l.opers.nn (x.l.opers.l.map TOpr.c)), C.d (D.int .i64 x.v.add), C.d (D.str x.v.plus), C.d (D.str x.v.minus), C.d (D.int .i64 x.size), C.d (D.sl x.b.nn (x.b.l.map u8c)), C.d (D.int .i64 x.align)]
structure TPrt where
  name : List UInt8
  file : Int
  line : Int
  pieces : Sl (TPce)
  deriving DecidableEq, Inhabited
def TPrt.c (x : TPrt) : List D := [D.str x.name, D.int .i64 x.file, D.int .i64 x.line, D.sl x.pieces.nn (x.pieces.l.map TPce.c)]
def TPrt.oc (x : TPrt) : List C := [C.d (D.str x.name), C.d (D.int .i64 x.file), C.d (D.int .i64 x.line), C.d (D.sl x.pieces.nn (x.pieces.l.map TPce.c))]
structure TMrk where
  name : List UInt8
  file : Int
  line : Int
  part : Int
  piece : Int
  equ : Bool
  v : TVal
  deriving DecidableEq, Inhabited
def TMrk.c (x : TMrk) : List D := [D.str x.name, D.int .i64 x.file, D.int .i64 x.line, D.int .i64 x.part, D.int .i64 x.piece, D.bool x.equ, D.int .i64 x.v.add, D.str x.v.plus, D.str x.v.minus]
def TMrk.oc (x : TMrk) : List C := [C.d (D.str x.name), C.d (D.int .i64 x.file), C.d (D.int .i64 x.line), C.d (D.int .i64 x.part), C.d (D.int .i64 x.piece), C.d (D.bool x.equ), C.d (D.int .i64 x.v.add), C.d (D.str x.v.plus), C.d (D.str x.v.minus)]
theorem TMrk.deq (x y : TMrk) : deqT true [2, 1, 1, 1, 1, 0, 1, 2, 2] (.agg x.c) (.agg y.c) = some (decide (x = y)) := by
  have h : (x = y) ↔ x.name = y.name ∧ x.file = y.file ∧ x.line = y.line ∧ x.part = y.part ∧ x.piece = y.piece ∧ x.equ = y.equ ∧ x.v.add = y.v.add ∧ x.v.plus = y.v.plus ∧ x.v.minus = y.v.minus := by
    constructor
    · rintro rfl; simp
    · intro h
      obtain ⟨h0, h1, h2, h3, h4, h5, h6, h7, h8⟩ := h
      obtain ⟨_, _, _, _, _, _, ⟨_, _, _⟩⟩ := x
      obtain ⟨_, _, _, _, _, _, ⟨_, _, _⟩⟩ := y
      simp_all
  simp only [deqT, TMrk.c, List.length_cons, List.length_nil, and_self, if_true]
  refine (dq2 (dq1 (dq1 (dq1 (dq1 (dq0 (dq1 (dq2 (dq2 dqn))))))))).trans ?_
  congr 1
  rw [decide_eq_decide, h]
  simp only [and_true]
structure TTld where
  name : List UInt8
  file : Int
  line : Int
  deriving DecidableEq, Inhabited
def TTld.c (x : TTld) : List D := [D.str x.name, D.int .i64 x.file, D.int .i64 x.line]
def TTld.oc (x : TTld) : List C := [C.d (D.str x.name), C.d (D.int .i64 x.file), C.d (D.int .i64 x.line)]
theorem TTld.deq (x y : TTld) : deqT true [2, 1, 1] (.agg x.c) (.agg y.c) = some (decide (x = y)) := by
  have h : (x = y) ↔ x.name = y.name ∧ x.file = y.file ∧ x.line = y.line := by
    constructor
    · rintro rfl; simp
    · intro h
      obtain ⟨h0, h1, h2⟩ := h
      obtain ⟨_, _, _⟩ := x
      obtain ⟨_, _, _⟩ := y
      simp_all
  simp only [deqT, TTld.c, List.length_cons, List.length_nil, and_self, if_true]
  refine (dq2 (dq1 (dq1 dqn))).trans ?_
  congr 1
  rw [decide_eq_decide, h]
  simp only [and_true]
structure TUnt where
  parts : Sl (TPrt)
  marks : Sl (TMrk)
  globals : Sl (TTld)
  deriving DecidableEq, Inhabited
def TUnt.c (x : TUnt) : List D := [D.sl x.parts.nn (x.parts.l.map TPrt.c), D.sl x.marks.nn (x.marks.l.map TMrk.c), D.sl x.globals.nn (x.globals.l.map TTld.c)]
def TUnt.oc (x : TUnt) : List C := [C.d (D.sl x.parts.nn (x.parts.l.map TPrt.c)), C.d (D.sl x.marks.nn (x.marks.l.map TMrk.c)), C.d (D.sl x.globals.nn (x.globals.l.map TTld.c))]
structure TFlt where
  file : Int
  line : Int
  err : Int
  deriving DecidableEq, Inhabited
def TFlt.c (x : TFlt) : List D := [D.int .i64 x.file, D.int .i64 x.line, D.int .i64 x.err]
def TFlt.oc (x : TFlt) : List C := [C.d (D.int .i64 x.file), C.d (D.int .i64 x.line), C.d (D.int .i64 x.err)]
theorem TFlt.deq (x y : TFlt) : deqT true [1, 1, 1] (.agg x.c) (.agg y.c) = some (decide (x = y)) := by
  have h : (x = y) ↔ x.file = y.file ∧ x.line = y.line ∧ x.err = y.err := by
    constructor
    · rintro rfl; simp
    · intro h
      obtain ⟨h0, h1, h2⟩ := h
      obtain ⟨_, _, _⟩ := x
      obtain ⟨_, _, _⟩ := y
      simp_all
  simp only [deqT, TFlt.c, List.length_cons, List.length_nil, and_self, if_true]
  refine (dq1 (dq1 (dq1 dqn))).trans ?_
  congr 1
  rw [decide_eq_decide, h]
  simp only [and_true]
structure TItm where
  kind : Int
  size : Int
  align : Int
  to : Int
  add : Int
  low : Int
  high : Int
  deriving DecidableEq, Inhabited
def TItm.c (x : TItm) : List D := [D.int .i64 x.kind, D.int .i64 x.size, D.int .i64 x.align, D.int .i64 x.to, D.int .i64 x.add, D.int .i64 x.low, D.int .i64 x.high]
def TItm.oc (x : TItm) : List C := [C.d (D.int .i64 x.kind), C.d (D.int .i64 x.size), C.d (D.int .i64 x.align), C.d (D.int .i64 x.to), C.d (D.int .i64 x.add), C.d (D.int .i64 x.low), C.d (D.int .i64 x.high)]
theorem TItm.deq (x y : TItm) : deqT true [1, 1, 1, 1, 1, 1, 1] (.agg x.c) (.agg y.c) = some (decide (x = y)) := by
  have h : (x = y) ↔ x.kind = y.kind ∧ x.size = y.size ∧ x.align = y.align ∧ x.to = y.to ∧ x.add = y.add ∧ x.low = y.low ∧ x.high = y.high := by
    constructor
    · rintro rfl; simp
    · intro h
      obtain ⟨h0, h1, h2, h3, h4, h5, h6⟩ := h
      obtain ⟨_, _, _, _, _, _, _⟩ := x
      obtain ⟨_, _, _, _, _, _, _⟩ := y
      simp_all
  simp only [deqT, TItm.c, List.length_cons, List.length_nil, and_self, if_true]
  refine (dq1 (dq1 (dq1 (dq1 (dq1 (dq1 (dq1 dqn))))))).trans ?_
  congr 1
  rw [decide_eq_decide, h]
  simp only [and_true]
structure TRlc where
  off : Int
  typ : Int
  sym : Int
  addend : Int
  deriving DecidableEq, Inhabited
def TRlc.c (x : TRlc) : List D := [D.int .i64 x.off, D.int .i64 x.typ, D.int .i64 x.sym, D.int .i64 x.addend]
def TRlc.oc (x : TRlc) : List C := [C.d (D.int .i64 x.off), C.d (D.int .i64 x.typ), C.d (D.int .i64 x.sym), C.d (D.int .i64 x.addend)]
theorem TRlc.deq (x y : TRlc) : deqT true [1, 1, 1, 1] (.agg x.c) (.agg y.c) = some (decide (x = y)) := by
  have h : (x = y) ↔ x.off = y.off ∧ x.typ = y.typ ∧ x.sym = y.sym ∧ x.addend = y.addend := by
    constructor
    · rintro rfl; simp
    · intro h
      obtain ⟨h0, h1, h2, h3⟩ := h
      obtain ⟨_, _, _, _⟩ := x
      obtain ⟨_, _, _, _⟩ := y
      simp_all
  simp only [deqT, TRlc.c, List.length_cons, List.length_nil, and_self, if_true]
  refine (dq1 (dq1 (dq1 (dq1 dqn)))).trans ?_
  congr 1
  rw [decide_eq_decide, h]
  simp only [and_true]
structure TSec where
  name : List UInt8
  kind : Int
  align : Int
  size : Int
  data : Sl (UInt8)
  relocs : Sl (TRlc)
  deriving DecidableEq, Inhabited
def TSec.c (x : TSec) : List D := [D.str x.name, D.int .i64 x.kind, D.int .i64 x.align, D.int .i64 x.size, D.sl x.data.nn (x.data.l.map u8c), D.sl x.relocs.nn (x.relocs.l.map TRlc.c)]
def TSec.oc (x : TSec) : List C := [C.d (D.str x.name), C.d (D.int .i64 x.kind), C.d (D.int .i64 x.align), C.d (D.int .i64 x.size), C.d (D.sl x.data.nn (x.data.l.map u8c)), C.d (D.sl x.relocs.nn (x.relocs.l.map TRlc.c))]
structure TSym where
  name : List UInt8
  sect : Int
  value : Int
  glob : Bool
  deriving DecidableEq, Inhabited
def TSym.c (x : TSym) : List D := [D.str x.name, D.int .i64 x.sect, D.int .i64 x.value, D.bool x.glob]
def TSym.oc (x : TSym) : List C := [C.d (D.str x.name), C.d (D.int .i64 x.sect), C.d (D.int .i64 x.value), C.d (D.bool x.glob)]
theorem TSym.deq (x y : TSym) : deqT true [2, 1, 1, 0] (.agg x.c) (.agg y.c) = some (decide (x = y)) := by
  have h : (x = y) ↔ x.name = y.name ∧ x.sect = y.sect ∧ x.value = y.value ∧ x.glob = y.glob := by
    constructor
    · rintro rfl; simp
    · intro h
      obtain ⟨h0, h1, h2, h3⟩ := h
      obtain ⟨_, _, _, _⟩ := x
      obtain ⟨_, _, _, _⟩ := y
      simp_all
  simp only [deqT, TSym.c, List.length_cons, List.length_nil, and_self, if_true]
  refine (dq2 (dq1 (dq1 (dq0 dqn)))).trans ?_
  congr 1
  rw [decide_eq_decide, h]
  simp only [and_true]
structure TObj where
  sections : Sl (TSec)
  symbols : Sl (TSym)
  deriving DecidableEq, Inhabited
def TObj.c (x : TObj) : List D := [D.sl x.sections.nn (x.sections.l.map TSec.c), D.sl x.symbols.nn (x.symbols.l.map TSym.c)]
def TObj.oc (x : TObj) : List C := [C.d (D.sl x.sections.nn (x.sections.l.map TSec.c)), C.d (D.sl x.symbols.nn (x.symbols.l.map TSym.c))]
structure TNum where
  s : TSym
  n : Int
  deriving DecidableEq, Inhabited
def TNum.c (x : TNum) : List D := [D.str x.s.name, D.int .i64 x.s.sect, D.int .i64 x.s.value, D.bool x.s.glob, D.int .i64 x.n]
def TNum.oc (x : TNum) : List C := [C.d (D.str x.s.name), C.d (D.int .i64 x.s.sect), C.d (D.int .i64 x.s.value), C.d (D.bool x.s.glob), C.d (D.int .i64 x.n)]
theorem TNum.deq (x y : TNum) : deqT true [2, 1, 1, 0, 1] (.agg x.c) (.agg y.c) = some (decide (x = y)) := by
  have h : (x = y) ↔ x.s.name = y.s.name ∧ x.s.sect = y.s.sect ∧ x.s.value = y.s.value ∧ x.s.glob = y.s.glob ∧ x.n = y.n := by
    constructor
    · rintro rfl; simp
    · intro h
      obtain ⟨h0, h1, h2, h3, h4⟩ := h
      obtain ⟨⟨_, _, _, _⟩, _⟩ := x
      obtain ⟨⟨_, _, _, _⟩, _⟩ := y
      simp_all
  simp only [deqT, TNum.c, List.length_cons, List.length_nil, and_self, if_true]
  refine (dq2 (dq1 (dq1 (dq0 (dq1 dqn))))).trans ?_
  congr 1
  rw [decide_eq_decide, h]
  simp only [and_true]
end Go.Proofs.YtgmphfmoonbfpaaMv

namespace Go.Proofs.YtgmphfmoonbfpaaMv
open Go
def idxOf (c : Int) : Int → List UInt8 → Int
  | _, [] => -1
  | i, b :: r => if (b.toNat : Int) = c then i else idxOf c (i + 1) r
def cmpStr (a b : List UInt8) : Int := if a == b then 0 else if Op.bytesLess a b then -1 else 1
def ext : FuncId → List V → Option V
  | 78, [.d (.str a), .d (.str b)] => some (.d (.int .i64 (cmpStr a b)))
  | 79, [.d (.str s), .d (.int .u8 c)] => some (.d (.int .i64 (idxOf c 0 s)))
  | _, _ => none
def pg : Pg := ⟨fns, fun _ _ => none⟩
theorem wrap64 {x : Int} (h1 : -9223372036854775808 ≤ x) (h2 : x < 9223372036854775808) : IntKind.i64.wrap x = x := by
  simp [IntKind.wrap, IntKind.signed, IntKind.bits]
  omega
end Go.Proofs.YtgmphfmoonbfpaaMv

set_option maxRecDepth 100000
namespace Go.Proofs.YtgmphfmoonbfpaaMv
open Go
def i17c : IR := .seq i17_r1 (.cond (.t 22) (.seq i17_r2 .ret) .skip)
def i17p : IR := .seq i17_r7 (.seq (.seq i17_r8 (.block 2 (.loop i17_l2))) (.seq i17_r27 .ret))
theorem i17_eq : i17.body = .seq i17_r0 (.seq i17c (.seq i17_r3 (.seq (.seq i17_r4 (.block 0 (.back 25 28 i17_l0))) i17p))) := rfl
structure S17 (P : Program) (fn : Func) (r0 c1 r3 : Code) (id4 : Nat) (ops4 : Array Oper) (o4 : Oper) (id5 : Nat) (ops5 : Array Oper) (id6 : Nat) (ops6 : Array Oper) (post : Code) : Prop where
  fun_ : P.funcs[17]? = some fn
  name : fn.name ≠ "runtime.NumGoroutine"
  body : fn.body = some (.seq r0 (.seq c1 (.seq r3 (.seq (.seq (.region id4 ops4 false) (.block 0 (.rangeFunc (.tmp 26) #[27, 28] (.region id5 ops5 false) (.block 1 (.region id6 ops6 false))))) post))))
  nt : 84 = fn.ntmps
  k0 : chkC P 84 i17_r0 r0 = true
  k1 : chkC P 84 i17c c1 = true
  k3 : chkC P 84 i17_r3 r3 = true
  kp : chkC P 84 i17p post = true
  k4 : opsOk P 84 ops4 (ops4.toList.take 2) i17_o4 = true
  sz4 : ops4.size = 3
  o4a : ops4[2]? = some o4
  o4g : o4.guard = none
  o4d : o4.dst = some 26
  o4o : ∃ ts, o4.op = Op.call { callee := .value (.func 34), args := #[.tmp 25], argTypes := ts }
  k5 : opsOk P 84 ops5 ops5.toList i17_o5 = true
  k6 : opsOk P 84 ops6 ops6.toList i17_o6 = true
  p5 : ∀ (j : Nat) o, ops5[j]? = some o → PlainO P o
  p6 : ∀ (j : Nat) o, ops6[j]? = some o → PlainO P o
  d5 : ∀ (j : Nat) o, ops5[j]? = some o → o.dst = none ∨ ∃ t, o.dst = some t ∧ t ∈ [7, 29, 30, 31, 32]
  d6 : ∀ (j : Nat) o, ops6[j]? = some o → o.dst = none ∨ ∃ t, o.dst = some t ∧ t ∈ [7, 29, 30, 31, 32]
  res : resAll P fn.results.toList i17.res = true
theorem all_ops {ops : Array Oper} {p : Oper → Prop} (l : List Oper) (hl : ops.toList = l) (h : ∀ o ∈ l, p o) : ∀ (j : Nat) o, ops[j]? = some o → p o := by
  intro j o ho
  apply h
  rw [← hl]
  exact Array.mem_toList_iff.2 (Array.mem_of_getElem? ho)
theorem s17 : ∃ fn r0 c1 r3 id4 ops4 o4 id5 ops5 id6 ops6 post, S17 Go.Proofs.Try.prog fn r0 c1 r3 id4 ops4 o4 id5 ops5 id6 ops6 post := by
  refine ⟨Go.Proofs.Try.f17, _, _, _, _, _, _, _, _, _, _, _, { fun_ := Go.Proofs.Try.func17, name := ?_, body := rfl, nt := rfl, k0 := ?_, k1 := ?_, k3 := ?_, kp := ?_, k4 := ?_, sz4 := rfl, o4a := rfl, o4g := rfl, o4d := rfl, o4o := ⟨_, rfl⟩, k5 := ?_, k6 := ?_, p5 := ?_, p6 := ?_, d5 := ?_, d6 := ?_, res := ?_ }⟩
  · show "cooper/frag.Items" ≠ "runtime.NumGoroutine"
    decide
  · kernel_rfl
  · kernel_rfl
  · kernel_rfl
  · kernel_rfl
  · kernel_rfl
  · kernel_rfl
  · kernel_rfl
  · refine all_ops _ rfl fun o ho => ?_
    simp only [List.mem_cons, List.not_mem_nil, or_false] at ho
    rcases ho with rfl | rfl
    · exact plain_v (by simp) (fun _ => Instr.alloc 92 true (.tuple #[])) (fun _ => rfl)
    · exact plain_u (by simp) (fun ρ => Instr.storeAt 92 (ρ (.tmp 7)) (ρ (.tmp 28))) (fun _ => rfl)
  · refine all_ops _ rfl fun o ho => ?_
    simp only [List.mem_cons, List.not_mem_nil, or_false] at ho
    rcases ho with rfl | rfl | rfl | rfl | rfl
    · exact plain_v (by simp) (fun ρ => Instr.loadAt 106 (ρ (.tmp 5))) (fun _ => rfl)
    · exact plain_v (by simp) (fun ρ => Instr.fieldAt 92 (ρ (.tmp 7)) 0) (fun _ => rfl)
    · exact plain_v (by simp) (fun ρ => Instr.loadAt 9 (ρ (.tmp 30))) (fun _ => rfl)
    · exact plain_v (by simp) (fun ρ => Instr.loadAt 92 (ρ (.tmp 7))) (fun _ => rfl)
    · exact plain_u (by simp) (fun ρ => Instr.mapUpdate 106 (ρ (.tmp 29)) (ρ (.tmp 31)) (ρ (.tmp 32))) (fun _ => rfl)
  · refine all_ops _ rfl fun o ho => ?_
    simp only [List.mem_cons, List.not_mem_nil, or_false] at ho
    rcases ho with rfl | rfl <;> simp
  · refine all_ops _ rfl fun o ho => ?_
    simp only [List.mem_cons, List.not_mem_nil, or_false] at ho
    rcases ho with rfl | rfl | rfl | rfl | rfl <;> simp
  · kernel_rfl
end Go.Proofs.YtgmphfmoonbfpaaMv

namespace Go.Proofs.YtgmphfmoonbfpaaMv
open Go
section
variable {n : Nat} {callr : CallR}
theorem ev_seq {a b : IR} {st st' : St} {ex : Ex} (h : ev n callr (.seq a b) st = some (ex, st')) : (∃ s1, ev n callr a st = some (.normal, s1) ∧ ev n callr b s1 = some (ex, st')) ∨ (ex ≠ .normal ∧ ev n callr a st = some (ex, st')) := by
  simp only [ev] at h
  cases ha : ev n callr a st with
  | none => simp [ha] at h
  | some r =>
    obtain ⟨e1, s1⟩ := r
    cases e1 with
    | normal => rw [ha] at h; exact .inl ⟨s1, rfl, h⟩
    | ret => rw [ha] at h; simp only [Option.some.injEq, Prod.mk.injEq] at h; exact .inr ⟨by rw [← h.1]; simp, by rw [h.1, h.2]⟩
    | exit id => rw [ha] at h; simp only [Option.some.injEq, Prod.mk.injEq] at h; exact .inr ⟨by rw [← h.1]; simp, by rw [h.1, h.2]⟩
theorem ev_reg_keep {ops : List II} {l os : List Nat} {st st' : St} {ex : Ex} (h : ev n callr (.seq (.reg ops) (.keep l os)) st = some (ex, st')) : ex = .normal ∧ ∃ s1, stepsI callr st ops = some s1 ∧ evKeep s1 l os = some st' := by
  rcases ev_seq h with ⟨s1, h1, h2⟩ | ⟨h1, h2⟩
  · simp only [ev, Option.map_eq_some_iff, Prod.mk.injEq] at h1 h2
    obtain ⟨s, h1, _, rfl⟩ := h1
    obtain ⟨s', h2, rfl, rfl⟩ := h2
    exact ⟨rfl, s, h1, h2⟩
  · simp only [ev, Option.map_eq_some_iff, Prod.mk.injEq] at h2
    obtain ⟨s, _, h2, _⟩ := h2
    exact absurd h2.symm h1
theorem ev_block {b : IR} {id : Nat} {st st' : St} (h : ev n callr (.block id b) st = some (.normal, st')) : ev n callr b st = some (.normal, st') ∨ ev n callr b st = some (.exit id, st') := by
  simp only [ev] at h
  split at h
  · rename_i j s1 h1
    simp only [Option.some.injEq, Prod.mk.injEq] at h
    obtain ⟨h2, rfl⟩ := h
    split at h2
    · rename_i hj; have : j = id := by simpa using hj
      subst this; exact .inr h1
    · cases h2
  · exact .inl h
theorem l0_inv {st st' : St} (h : ev n callr i17_l0 st = some (.normal, st')) : ∃ s1 s2 s3 l1 o1 o2, stepsI callr st i17_o5 = some s1 ∧ evKeep s1 l1 o1 = some s2 ∧ stepsI callr s2 i17_o6 = some s3 ∧ evKeep s3 [1, 2, 5, 25] o2 = some st' := by
  unfold i17_l0 at h
  rcases ev_seq h with ⟨s2, h1, h2⟩ | ⟨h1, _⟩
  · unfold i17_r5 at h1
    obtain ⟨_, s1, k1, k2⟩ := ev_reg_keep h1
    rcases ev_block h2 with h2 | h2
    · unfold i17_r6 at h2
      obtain ⟨_, s3, k3, k4⟩ := ev_reg_keep h2
      exact ⟨s1, s2, s3, _, _, _, k1, k2, k3, k4⟩
    · unfold i17_r6 at h2
      obtain ⟨k0, _⟩ := ev_reg_keep h2
      cases k0
  · exact absurd rfl h1
theorem keep_bad {st st' : St} {l os : List Nat} (h : evKeep st l os = some st') {x : Nat} (hx : x ∉ l) : st'.f x = .bad := by
  unfold evKeep at h
  split at h
  · cases h
  · simp only at h
    split at h
    · simp only [Option.some.injEq] at h
      rw [← h]
      simp only [St.f, look_pick, if_neg hx, Option.getD_none]
    · cases h
end
structure LinkX (l : Nat) (X : Nat → Prop) (h : Hp) (B : Gh) (w : World) (h' : Hp) (B' : Gh) (w' : World) : Prop where
  rv : ∀ v x, RV1 X h B w v x → v.hi → RV1 X h' B' w' v.sh1 x
  os : w'.os = w.os
  tape : w'.tape = w.tape
  output : w'.output = w.output
  size : w.heap.size ≤ w'.heap.size
  keep : ∀ b, b < w.heap.size → b ≠ l → ¬ Own h B b → w'.heap[b]? = w.heap[b]?
  own : ∀ b, b < w.heap.size → Own h' B' b → Own h B b
section
variable {l : Nat} {X : Nat → Prop} {h h' h'' : Hp} {B B' B'' : Gh} {w w' w'' : World}
theorem Link.toX (L : Link X h B w h' B' w') (l : Nat) : LinkX l X h B w h' B' w' := ⟨L.rv, L.stp.os, L.stp.tape, L.stp.output, L.stp.size, fun b hb _ ho => L.stp.keep b hb ho, L.stp.own⟩
theorem LinkX.refl (l : Nat) (X : Nat → Prop) (h : Hp) (B : Gh) (w : World) : LinkX l X h B w h B w := (Link.refl X h B w).toX l
theorem LinkX.trans (L : LinkX l X h B w h' B' w') (K : LinkX l X h' B' w' h'' B'' w'') : LinkX l X h B w h'' B'' w'' :=
  ⟨fun v x hv hh => by have := K.rv _ _ (L.rv v x hv hh) (sh1_hi hh); rwa [sh1_sh1] at this, K.os.trans L.os, K.tape.trans L.tape, K.output.trans L.output, Nat.le_trans L.size K.size,
    fun b hb hl ho => (K.keep b (Nat.lt_of_lt_of_le hb L.size) hl (fun h2 => ho (L.own b hb h2))).trans (L.keep b hb hl ho),
    fun b hb h2 => L.own b hb (K.own b (Nat.lt_of_lt_of_le hb L.size) h2)⟩
theorem LinkX.put {o : Obj} (o' : Obj) (ho : w.heap[l]? = some o) (h1 : ∀ arr t fr, o ≠ .cells arr t fr) (h2 : ∀ es c, o ≠ .map es c) : LinkX l X h B w h B (w.putObj l o') := by
  have O := Oth.put o' ho h1 h2
  exact ⟨fun v x hv _ => rv1_sh1 (O.rv1 hv), rfl, rfl, rfl, O.size, fun b _ hb _ => World.putObj_heap_other hb, fun _ _ h => h⟩
end
end Go.Proofs.YtgmphfmoonbfpaaMv

namespace Go.Proofs.YtgmphfmoonbfpaaMv
open Go
theorem letsOut_no {Q : Exit → Act → World → Prop} (h : ∀ a w, ¬ Q .outgrown a w) : ¬ LetsOut Q := by
  rintro ⟨a, w, hq⟩
  exact h a w hq
section
variable {P : Program} {X : Nat → Prop} {callr : CallR} {k : Nat}
theorem region_in (S : Sound P callr) {l id : Nat} {ops : Array Oper} {is : List II} (hk : opsOk P 84 ops ops.toList is = true) (hp : ∀ (j : Nat) o, ops[j]? = some o → PlainO P o) {st st1 : St} {B : Gh} {w : World} {a : Act}
    (A : At X 84 st.f (hof st.hp) B w a) (hs : stepsI callr st is = some st1) {Q : Exit → Act → World → Prop}
    (hQ : ∀ a1 w1 B1, At X 84 st1.f (hof st1.hp) B1 w1 a1 → Link X (hof st.hp) B w (hof st1.hp) B1 w1 → st1.hp.length = st.hp.length → AgreeO ops a a1 → Q .normal a1 w1) :
    (Code.region id ops false).wpIn (Fence.wide.inRound l) k P Q a w := by
  obtain ⟨hlen, hok⟩ := opsOk_spec hk
  have hw : wpOps P ops (fun e a1 w1 => e = .normal ∧ ∃ B1, At X 84 st1.f (hof st1.hp) B1 w1 a1 ∧ Link X (hof st.hp) B w (hof st1.hp) B1 w1 ∧ st1.hp.length = st.hp.length) (List.range' 0 is.length) a w := by
    refine steps_ok S is 0 A (fun n i hn => ?_) hs fun a1 w1 B1 A1 L1 e1 => ⟨rfl, B1, A1, L1, e1⟩
    have hlt : n < ops.size := by
      have := (List.getElem?_eq_some_iff.1 hn).1
      rw [hlen] at this
      simpa using this
    have ho : ops[n]? = some ops[n] := Array.getElem?_eq_getElem hlt
    exact ⟨ops[n], by simp, hok n ops[n] i (by simp) hn⟩
  have h2 := ops_in (n := k) (l := l) (letsOut_no (by rintro a w ⟨h, _⟩; cases h)) hp _ a a w (AgreeO.refl ops a) hw
  rw [show is.length = ops.size by rw [hlen]; simp, ← List.range_eq_range'] at h2
  refine wpIn_mono (wpIn_region (id := id) h2) ?_
  rintro e a1 w1 ⟨⟨rfl, B1, A1, L1, e1⟩, hA⟩
  exact hQ a1 w1 B1 A1 L1 e1 hA
theorem At.oth {st : St} {B : Gh} {w w' : World} {a : Act} (O : Oth w w') (A : At X 84 st.f (hof st.hp) B w a) : At X 84 st.f (hof st.hp) B w' a := ⟨O.hrel A.hr, fun t => O.rv (A.fr t), A.nt, A.df⟩
theorem st_cons_f {st : St} {v : V} (x : Nat) : St.f { st with fr := (28, v) :: st.fr } x = if 28 = x then v else st.f x := by
  simp only [St.f, look]
  by_cases h : 28 = x
  · subst h; simp
  · simp [h]
variable {fn : Func} {r0 c1 r3 : Code} {id4 : Nat} {ops4 : Array Oper} {o4 : Oper} {id5 : Nat} {ops5 : Array Oper} {id6 : Nat} {ops6 : Array Oper} {post : Code}
theorem round17 (S : Sound P callr) (hs : S17 P fn r0 c1 r3 id4 ops4 o4 id5 ops5 id6 ops6 post) {m : Nat} {st st' : St} {ds : List D} (h : ev m callr i17_l0 { st with fr := (28, .d (.agg ds)) :: st.fr } = some (.normal, st'))
    (hb : ∀ x, x ∉ [1, 2, 5, 25] → st.f x = .bad) {B : Gh} {w : World} {tm : Array Value} (A : At X 84 st.f (hof st.hp) B w { tmps := tm, defers := [] })
    {vi : Value} {va : Array Value} (hd : RD w (Forb X (hof st.hp) B) (.agg ds) (.agg va)) {l : Nat} {rec : Loop} (hl : w.heap[l]? = some (.loop rec)) (hr : rec.state = .ready) (hpn : rec.pending = none) (hol : ¬ Own (hof st.hp) B l) {g : FuncId} :
    RoundIn Fence.wide k P l g ((tm.setIfInBounds 27 vi).setIfInBounds 28 (.agg va)) (.region id5 ops5 false) (.block 1 (.region id6 ops6 false)) w fun e w' => e = .returned (.bool true) ∧
      ∃ B', At X 84 st'.f (hof st'.hp) B' w' { tmps := tm, defers := [] } ∧ LinkX l X (hof st.hp) B w (hof st'.hp) B' w' ∧ st'.hp.length = st.hp.length ∧ (∀ x, x ∉ [1, 2, 5, 25] → st'.f x = .bad) ∧ w'.heap[l]? = some (.loop rec) ∧ ¬ Own (hof st'.hp) B' l := by
  obtain ⟨s1, s2, s3, l1, o1, o2, e1, e2, e3, e4⟩ := l0_inv h
  have hlw : l < w.heap.size := (Array.getElem?_eq_some_iff.1 hl).1
  have hsz : 84 ≤ tm.size := A.nt
  have A0 : At X 84 (St.f { st with fr := (28, .d (.agg ds)) :: st.fr }) (hof ({ st with fr := (28, .d (.agg ds)) :: st.fr } : St).hp) B w { tmps := (tm.setIfInBounds 27 vi).setIfInBounds 28 (.agg va), defers := [] } := by
    refine ⟨A.hr, fun x => ?_, by simpa using hsz, rfl⟩
    rw [st_cons_f]
    by_cases h28 : 28 = x
    · subst h28
      rw [if_pos rfl]
      have : ((tm.setIfInBounds 27 vi).setIfInBounds 28 (.agg va)).getD 28 undef = .agg va := by simp [show 28 < tm.size by omega]
      rw [this]
      exact RV.of1 hd
    · rw [if_neg h28]
      by_cases h27 : x = 27
      · subst h27
        rw [hb 27 (by decide)]
        exact RV.of1 trivial
      · have : ((tm.setIfInBounds 27 vi).setIfInBounds 28 (.agg va)).getD x undef = tm.getD x undef := by
          simp [Array.getElem?_setIfInBounds_ne h28, Array.getElem?_setIfInBounds_ne (Ne.symm h27)]
        rw [this]
        exact A.fr x
  refine roundIn_of_wpIn trivial ?_
  refine region_in (k := k) S hs.k5 hs.p5 A0 e1 fun a1 w1 B1 A1 L1 n1 G1 => ?_
  obtain ⟨A2, L2, n2⟩ := keep_ok A1 e2
  have L12 : Link X (hof st.hp) B w (hof s2.hp) B1 w1 := L1.trans L2
  have hl1 : w1.heap[l]? = some (.loop rec) := (L12.stp.keep l hlw hol).trans hl
  have ho1 : ¬ Own (hof s2.hp) B1 l := fun hh => hol (L12.stp.own l hlw hh)
  have O1 : Oth w1 (w1.putObj l (.loop { rec with state := .busy })) := Oth.put _ hl1 (by simp) (by simp)
  have hlw1 : l < w1.heap.size := (Array.getElem?_eq_some_iff.1 hl1).1
  have hl2 : (w1.putObj l (.loop { rec with state := .busy })).heap[l]? = some (.loop { rec with state := .busy }) := World.putObj_heap_same hlw1
  refine ⟨_, run_beginRound hl1 hr, ?_⟩
  refine wpIn_block ?_
  refine region_in (k := k) S hs.k6 hs.p6 (A2.oth O1) e3 fun a3 w3 B3 A3 L3 n3 G3 => ?_
  obtain ⟨A4, L4, n4⟩ := keep_ok A3 e4
  have L34 := L3.trans L4
  have hlw2 : l < (w1.putObj l (.loop { rec with state := .busy })).heap.size := by simpa using hlw1
  have hl3 : w3.heap[l]? = some (.loop { rec with state := .busy }) := (L34.stp.keep l hlw2 ho1).trans hl2
  have ho3 : ¬ Own (hof st'.hp) B3 l := fun hh => ho1 (L34.stp.own l hlw2 hh)
  have O3 : Oth w3 (w3.putObj l (.loop { { rec with state := .busy } with state := .ready, pending := none })) := Oth.put _ hl3 (by simp) (by simp)
  have hrec : ({ { rec with state := .busy } with state := .ready, pending := none } : Loop) = rec := by
    cases rec; simp_all
  have hend := run_endRound (P := P) none hl3
  simp only [Option.isNone_none, if_true] at hend
  refine ⟨_, _, hend, rfl, B3, ⟨O3.hrel A4.hr, fun x => O3.rv ?_, by simpa using hsz, rfl⟩, ?_, ?_, fun x hx => keep_bad e4 hx, ?_, ho3⟩
  · by_cases hx : x ∈ [1, 2, 5, 25]
    · have hdst : ∀ t, t ∈ [7, 29, 30, 31, 32] → t ≠ x := by
        intro t ht e
        subst e
        simp only [List.mem_cons, List.not_mem_nil, or_false] at ht hx
        omega
      have g3 := G3 x (fun j o ho he => by
        rcases hs.d6 j o ho with h1 | ⟨t, h1, h2⟩
        · rw [h1] at he; cases he
        · rw [h1] at he; exact hdst t h2 (Option.some.inj he))
      have g1 := G1 x (fun j o ho he => by
        rcases hs.d5 j o ho with h1 | ⟨t, h1, h2⟩
        · rw [h1] at he; cases he
        · rw [h1] at he; exact hdst t h2 (Option.some.inj he))
      have hv := A4.fr x
      rw [g3, g1] at hv
      have h27 : x ≠ 27 := by rintro rfl; simp at hx
      have h28 : x ≠ 28 := by rintro rfl; simp at hx
      have : ((tm.setIfInBounds 27 vi).setIfInBounds 28 (.agg va)).getD x undef = tm.getD x undef := by
        simp [Array.getElem?_setIfInBounds_ne (Ne.symm h28), Array.getElem?_setIfInBounds_ne (Ne.symm h27)]
      rw [this] at hv
      exact hv
    · rw [keep_bad e4 hx]
      exact RV.of1 trivial
  · exact (L12.toX l).trans ((LinkX.put _ hl1 (by simp) (by simp)).trans ((L34.toX l).trans (LinkX.put _ hl3 (by simp) (by simp))))
  · rw [n4, n3, n2, n1]
  · rw [hrec]
    exact World.putObj_heap_same (Array.getElem?_eq_some_iff.1 hl3).1
end
end Go.Proofs.YtgmphfmoonbfpaaMv

namespace Go.Proofs.YtgmphfmoonbfpaaMv
open Go
theorem callFunc34 (args : Array Value) (w : World) : (callFunc 34 args).run Go.Proofs.Try.prog w = .ok (.enter 34 args) w := by
  simp [callFunc, program, Sem.run, Go.Proofs.Try.func34, Go.Proofs.Try.f34]
theorem callFunc60 (args : Array Value) (w : World) : (callFunc 60 args).run Go.Proofs.Try.prog w = .ok (.enter 60 args) w := by
  simp [callFunc, program, Sem.run, Go.Proofs.Try.func60, Go.Proofs.Try.f60]
theorem exec34 {o : Oper} {ts : Array TypeId} (ho : o.op = Op.call { callee := .value (.func 34), args := #[.tmp 25], argTypes := ts }) (a : Act) (w : World) :
    (execOp a.eval o).run Go.Proofs.Try.prog w = .ok (.enter 34 #[a.tmps.getD 25 undef]) w := by
  unfold execOp
  rw [ho]
  simp [resolve, invoke, go_sem, Act.eval, callFunc34]
theorem call34 {ops : Array Oper} {o : Oper} {ts : Array TypeId} (h2 : ops[2]? = some o) (hg : o.guard = none) (hd : o.dst = some 26) (ho : o.op = Op.call { callee := .value (.func 34), args := #[.tmp 25], argTypes := ts }) {a : Act} {w : World} {K : Act → World → Prop} {Q : Exit → Act → World → Prop}
    (h1 : (a.tmps.getD 25 undef).oneCell' = true)
    (hK : K (a.put (some 26) (.func (.func 60) #[] #[.pointer (some ⟨w.heap.size, 0, none⟩)])) (w.alloc (.cells #[a.tmps.getD 25 undef] 29))) : wpOp Go.Proofs.Try.prog ops Q 2 K a w := by
  unfold wpOp
  rw [h2]
  simp only [Region.wanted, hg, if_true]
  refine .inl ?_
  unfold Oper.wp
  rw [exec34 ho, Oper.upon_enter, hd]
  refine Calls.mono (back_calls _ h1 w) fun e w' he => ?_
  obtain ⟨rfl, rfl⟩ := he
  exact hK
theorem backGo_n {body : St → Option (Ex × St)} {d : Nat} : ∀ {l : List (List D)} {st st' : St} {ex : Ex}, backGo body d l st = some (ex, st') → ex = .normal
  | [], st, st', ex, h => by simp only [backGo, Option.some.injEq, Prod.mk.injEq] at h; exact h.1.symm
  | ds :: l, st, st', ex, h => by
    simp only [backGo] at h
    split at h
    · exact backGo_n h
    · cases h
theorem l0_nine {n : Nat} {callr : CallR} {st st' : St} {ds : List D} (h : ev n callr i17_l0 { st with fr := (28, .d (.agg ds)) :: st.fr } = some (.normal, st')) : ds.length = 9 := by
  obtain ⟨s1, s2, s3, l1, o1, o2, e1, e2, e3, e4⟩ := l0_inv h
  unfold i17_o5 at e1
  simp only [stepsI, Option.bind_eq_some_iff] at e1
  obtain ⟨t1, k1, t2, k2, _⟩ := e1
  have f28 : t1.f 28 = .d (.agg ds) := by
    simp only [stepI, wantedI, Option.bind_some, if_true, eff, Option.getD_some, St.applyO] at k1
    split at k1
    · simp only [Option.some.injEq] at k1
      rw [← k1]
      simp only [St.f, St.apply, look_put]
      simp [look, V.kills]
      rfl
    · cases k1
  simp only [stepI, wantedI, Option.bind_some, if_true, eff, Option.bind_eq_some_iff] at k2
  obtain ⟨e, he, _⟩ := k2
  split at he
  · simp only [Option.bind_eq_some_iff] at he
    obtain ⟨x, hx, _⟩ := he
    have hx2 : cellsOf (hof t1.hp) 9 (t1.f 28) = some x := hx
    rw [f28] at hx2
    simp only [cellsOf] at hx2
    split at hx2
    · assumption
    · cases hx2
  · cases he
theorem sl_inv {w : World} {N : Nat → Prop} {nn : Bool} {es : List (List D)} {v : Value} (h : RD w N (.sl nn es) v) (h9 : ∀ ds ∈ es, ds.length = 9) :
    v.oneCell' = true ∧ ∃ ad cap, v = .slice ad es.length cap ∧ ∃ cvs : Nat → Nat → Value, ∀ i ds, es[i]? = some ds → ∃ a0, ad = some a0 ∧ ¬ N a0.block ∧
      ∀ k d, ds[k]? = some d → w.cell? ⟨(a0.add (i * 9)).block, (a0.add (i * 9)).off + k, none⟩ = some (cvs i k) ∧ w.cell? (a0.add (i * 9)) = some (cvs i 0) ∧ (cvs i k).oneCell' = true ∧ RD w N d (cvs i k) := by
  cases h with
  | slnil => exact ⟨rfl, none, 0, rfl, fun _ _ => undef, by simp⟩
  | sl _ _ a sz cap cvs h0 hcap hsz hN hc h1 hd =>
    refine ⟨rfl, some a, cap, rfl, cvs, fun i ds hi => ?_⟩
    have hm : ds ∈ es := List.mem_of_getElem? hi
    have hs : sz = 9 := by rw [← hsz ds hm, h9 ds hm]
    subst hs
    have hdk : ∀ k d, ds[k]? = some d → dAt es i k = some d := fun k d hk => by simp [dAt, hi, hk]
    have hcell : ∀ k d, ds[k]? = some d → w.cell? ⟨(a.add (i * 9)).block, (a.add (i * 9)).off + k, none⟩ = some (cvs i k) ∧ (k = 0 → w.cell? (a.add (i * 9)) = some (cvs i 0)) := by
      intro k d hk
      have hck := hc i k d (hdk k d hk)
      have h2 : a.add (i * 9 + k) = ⟨a.block, a.off + (i * 9 + k), none⟩ := by
        unfold Addr.add
        split
        · rename_i h3
          have hsp : a.spot = none := by
            have hck2 := hck
            rw [h3] at hck2
            unfold Addr.add at hck2
            simp only [if_true] at hck2
            unfold World.cell? at hck2
            split at hck2
            · split at hck2
              · cases hck2
              · rename_i h4; cases hx : a.spot <;> simp_all
            · cases hck2
          rw [h3]
          cases a; simp_all
        · rfl
      have h5 : (a.add (i * 9)).block = a.block ∧ (a.add (i * 9)).off = a.off + i * 9 := by
        unfold Addr.add
        split
        · rename_i h3; simp [h3]
        · exact ⟨rfl, rfl⟩
      rw [h2] at hck
      refine ⟨by rw [h5.1, h5.2, Nat.add_assoc]; exact hck, fun hk0 => ?_⟩
      subst hk0
      have := hc i 0 d (hdk 0 d hk)
      simpa using this
    have hN0 : ¬ N a.block := by
      have h9d := h9 ds hm
      obtain ⟨d, hd0⟩ : ∃ d, ds[0]? = some d := ⟨ds[0], List.getElem?_eq_getElem (by omega)⟩
      exact hN i 0 d (hdk 0 d hd0)
    refine ⟨a, rfl, hN0, fun k d hk => ⟨(hcell k d hk).1, ?_, h1 i k d (hdk k d hk), hd i k d (hdk k d hk)⟩⟩
    have h9d := h9 ds hm
    obtain ⟨d0, hd0⟩ : ∃ d, ds[0]? = some d := ⟨ds[0], List.getElem?_eq_getElem (by omega)⟩
    exact (hcell 0 d0 hd0).2 rfl
end Go.Proofs.YtgmphfmoonbfpaaMv

namespace Go.Proofs.YtgmphfmoonbfpaaMv
open Go
theorem backGo_nine {n : Nat} {callr : CallR} : ∀ {l : List (List D)} {st st' : St} {ex : Ex}, backGo (ev n callr i17_l0) 28 l st = some (ex, st') → ∀ ds ∈ l, ds.length = 9
  | [], st, st', ex, h, ds, hd => by cases hd
  | d0 :: l, st, st', ex, h, ds, hd => by
    simp only [backGo] at h
    split at h
    · rename_i st1 h1
      rcases List.mem_cons.1 hd with rfl | hd
      · exact l0_nine h1
      · exact backGo_nine h ds hd
    · cases h
section
variable {X : Nat → Prop} {callr : CallR} {fn : Func} {r0 c1 r3 : Code} {id4 : Nat} {ops4 : Array Oper} {o4 : Oper} {id5 : Nat} {ops5 : Array Oper} {id6 : Nat} {ops6 : Array Oper} {post : Code}
theorem Link.ofX {l : Nat} {h h' : Hp} {B B' : Gh} {w w1 w' : World} (O : Oth w w1) (hos : w1.os = w.os) (ht : w1.tape = w.tape) (hout : w1.output = w.output) (hk : ∀ b, b < w.heap.size → w1.heap[b]? = w.heap[b]?) (hl : w.heap.size ≤ l) (L : LinkX l X h B w1 h' B' w') : Link X h B w h' B' w' :=
  ⟨fun v x hv hh => L.rv v x (O.rv1 hv) hh, L.os.trans hos, L.tape.trans ht, L.output.trans hout, Nat.le_trans O.size L.size,
    fun b hb ho => (L.keep b (Nat.lt_of_lt_of_le hb O.size) (by omega) ho).trans (hk b hb), fun b hb h2 => L.own b (Nat.lt_of_lt_of_le hb O.size) h2⟩
structure Mid (callr : CallR) (m l : Nat) (X : Nat → Prop) (st4 st5 : St) (B4 : Gh) (W1 : World) (tm : Array Value) (rec : Loop) (es : List (List D)) (j : Nat) (W : World) (st : St) (B : Gh) : Prop where
  go : backGo (ev m callr i17_l0) 28 (es.take j).reverse st = some (.normal, st5)
  bad : ∀ x, x ∉ [1, 2, 5, 25] → st.f x = .bad
  at_ : At X 84 st.f (hof st.hp) B W { tmps := tm, defers := [] }
  link : LinkX l X (hof st4.hp) B4 W1 (hof st.hp) B W
  len : st.hp.length = st4.hp.length
  rec_ : W.heap[l]? = some (.loop rec)
  own : ¬ Own (hof st.hp) B l
theorem rf_inv {m : Nat} {st3 st5 : St} {ex : Ex} (h : ev m callr (.seq i17_r4 (.block 0 (.back 25 28 i17_l0))) st3 = some (ex, st5)) :
    ex = .normal ∧ ∃ s1 st4 os nn es, stepsI callr st3 i17_o4 = some s1 ∧ evKeep s1 [1, 2, 5, 25] os = some st4 ∧ st4.f 25 = .d (.sl nn es) ∧ es.length < 1099511627776 ∧ backGo (ev m callr i17_l0) 28 es.reverse st4 = some (.normal, st5) := by
  rcases ev_seq h with ⟨st4, h1, h2⟩ | ⟨h1, h2⟩
  · unfold i17_r4 at h1
    obtain ⟨_, s1, k1, k2⟩ := ev_reg_keep h1
    have key : ∀ e' s', ev m callr (.back 25 28 i17_l0) st4 = some (e', s') → e' = .normal ∧ ∃ nn es, st4.f 25 = .d (.sl nn es) ∧ es.length < 1099511627776 ∧ backGo (ev m callr i17_l0) 28 es.reverse st4 = some (.normal, s') := by
      intro e' s' hx
      simp only [ev] at hx
      split at hx
      · rename_i nn es hf
        split at hx
        · rename_i hl
          have hn := backGo_n hx
          subst hn
          exact ⟨rfl, nn, es, hf, hl, hx⟩
        · cases hx
      · cases hx
    cases hx : ev m callr (.back 25 28 i17_l0) st4 with
    | none => simp [ev.eq_def m callr (.block 0 _), hx] at h2
    | some r =>
      obtain ⟨e', s'⟩ := r
      obtain ⟨rfl, nn, es, g1, g2, g3⟩ := key e' s' hx
      have h3 : some (Ex.normal, s') = some (ex, st5) := by
        rw [← h2]
        conv => rhs; rw [ev.eq_def]
        simp only [hx]
      simp only [Option.some.injEq, Prod.mk.injEq] at h3
      obtain ⟨rfl, rfl⟩ := h3
      exact ⟨rfl, s1, st4, _, nn, es, k1, k2, g1, g2, g3⟩
  · unfold i17_r4 at h2
    obtain ⟨k0, _⟩ := ev_reg_keep h2
    exact absurd k0 h1
theorem alloc_keep (w : World) (o : Obj) {b : Nat} (hb : b < w.heap.size) : (w.alloc o).heap[b]? = w.heap[b]? := by
  show (w.heap.push o)[b]? = w.heap[b]?
  rw [Array.getElem?_push_lt hb, Array.getElem?_eq_getElem hb]
theorem LinkX.cell {l : Nat} {h h' : Hp} {B B' : Gh} {w w' : World} (L : LinkX l X h B w h' B' w') {rec : Loop} (hl : w.heap[l]? = some (.loop rec)) {A : Addr} {v : Value} (hn : ¬ Own h B A.block) (hc : w.cell? A = some v) : w'.cell? A = some v := by
  unfold World.cell? at hc ⊢
  split at hc
  · rename_i c t fr hb
    have hlt := (Array.getElem?_eq_some_iff.1 hb).1
    have hne : A.block ≠ l := by
      intro e
      rw [e, hl] at hb
      cases hb
    rw [L.keep _ hlt hne hn, hb]
    exact hc
  · cases hc
def elOf (cvs : Nat → Nat → Value) (i : Nat) : Array Value := #[cvs i 0, cvs i 1, cvs i 2, cvs i 3, cvs i 4, cvs i 5, cvs i 6, cvs i 7, cvs i 8]
theorem elOf_get (cvs : Nat → Nat → Value) (i k : Nat) (v : Value) (h : (elOf cvs i)[k]? = some v) : k < 9 ∧ v = cvs i k := by
  unfold elOf at h
  have hk : k < 9 := by simpa using (Array.getElem?_eq_some_iff.1 h).1
  refine ⟨hk, ?_⟩
  match k, hk, h with
  | 0, _, h => simpa using h.symm
  | 1, _, h => simpa using h.symm
  | 2, _, h => simpa using h.symm
  | 3, _, h => simpa using h.symm
  | 4, _, h => simpa using h.symm
  | 5, _, h => simpa using h.symm
  | 6, _, h => simpa using h.symm
  | 7, _, h => simpa using h.symm
  | 8, _, h => simpa using h.symm
set_option maxHeartbeats 2000000 in
theorem rf17 (S : Sound Go.Proofs.Try.prog callr) (hs : S17 Go.Proofs.Try.prog fn r0 c1 r3 id4 ops4 o4 id5 ops5 id6 ops6 post) {m : Nat} {st3 st5 : St} {ex : Ex} (hev : ev m callr (.seq i17_r4 (.block 0 (.back 25 28 i17_l0))) st3 = some (ex, st5))
    {B3 : Gh} {w3 : World} {a3 : Act} (A3 : At X 84 st3.f (hof st3.hp) B3 w3 a3) {Q : Exit → Act → World → Prop}
    (hK : ∀ D B5 w5 a5, @At ⟨[{ target := .collected D, args := #[] }]⟩ X 84 st5.f (hof st5.hp) B5 w5 a5 → Link X (hof st3.hp) B3 w3 (hof st5.hp) B5 w5 → st5.hp.length = st3.hp.length → w5.heap[D]? = some (.deferred (some [])) → w3.heap.size ≤ D → ¬ Own (hof st5.hp) B5 D → Q .normal a5 w5) :
    (Code.seq (.region id4 ops4 false) (.block 0 (.rangeFunc (.tmp 26) #[27, 28] (.region id5 ops5 false) (.block 1 (.region id6 ops6 false))))).wp Go.Proofs.Try.prog Q a3 w3 := by
  obtain ⟨-, s1, st4, os4, nn, es, e1, e2, hf25, hlen, hgo⟩ := rf_inv hev
  refine wp_seq (wp_region ?_)
  rw [show List.range ops4.size = [0, 1, 2] by rw [hs.sz4]; rfl]
  obtain ⟨hkl, hok⟩ := opsOk_spec hs.k4
  have hget : ∀ j, j < 2 → ∃ o, ops4[j]? = some o ∧ (ops4.toList.take 2)[j]? = some o := by
    intro j hj
    have hlt : j < ops4.size := by rw [hs.sz4]; omega
    refine ⟨ops4[j], Array.getElem?_eq_getElem hlt, ?_⟩
    rw [List.getElem?_take, if_pos hj]
    simp [hlt]
  obtain ⟨q0, g0, g0'⟩ := hget 0 (by omega)
  obtain ⟨q1, g1, g1'⟩ := hget 1 (by omega)
  unfold i17_o4 at e1 hok
  simp only [stepsI, Option.bind_eq_some_iff, Option.some.injEq] at e1
  obtain ⟨t1, k1, t2, k2, rfl⟩ := e1
  rw [wpOps_cons]
  refine step_ok S A3 g0 (hok 0 q0 _ g0' rfl) k1 fun a1 w1 B1 A1 L1 n1 => ?_
  rw [wpOps_cons]
  refine step_ok S A1 g1 (hok 1 q1 _ g1' rfl) k2 fun a2 w2 B2 A2 L2 n2 => ?_
  rw [wpOps_cons]
  obtain ⟨A2k, L2k, n2k⟩ := keep_ok A2 e2
  have L34 : Link X (hof st3.hp) B3 w3 (hof st4.hp) B2 w2 := (L1.trans L2).trans L2k
  obtain ⟨ts, ho⟩ := hs.o4o
  have hv25 := A2k.fr 25
  rw [hf25] at hv25
  have h9 : ∀ ds ∈ es, ds.length = 9 := fun ds hd => backGo_nine hgo ds (by simpa using hd)
  obtain ⟨hone, ad, cap, hv, cvs, hcv⟩ := sl_inv (hv25.to1 rfl) h9
  refine call34 hs.o4a hs.o4g hs.o4d ho hone ?_
  obtain ⟨a4, ha4⟩ : ∃ a4, a2.put (some 26) (.func (.func 60) #[] #[.pointer (some ⟨w2.heap.size, 0, none⟩)]) = a4 := ⟨_, rfl⟩
  obtain ⟨w4, hw4⟩ : ∃ w4, w2.alloc (.cells #[a2.tmps.getD 25 undef] 29) = w4 := ⟨_, rfl⟩
  rw [ha4, hw4]
  have O4 : Oth w2 w4 := by rw [← hw4]; exact Oth.alloc _ _
  have hsz4 : w4.heap.size = w2.heap.size + 1 := by rw [← hw4]; simp
  have hb0 : w4.heap[w2.heap.size]? = some (.cells #[a2.tmps.getD 25 undef] 29) := by rw [← hw4]; exact World.alloc_heap_new _ _
  have hd4 : a4.defers = [] := by rw [← ha4, put_defers]; exact A2k.df
  have hnt : 84 ≤ a2.tmps.size := A2k.nt
  have ht26 : a4.eval (.tmp 26) = .func (.func 60) #[] #[.pointer (some ⟨w2.heap.size, 0, none⟩)] := by
    rw [← ha4]
    simp [Act.eval, Act.put, show 26 < a2.tmps.size by omega]
  obtain ⟨tm, htm⟩ : ∃ tm, a4.tmps = tm := ⟨_, rfl⟩
  have A4 : At X 84 st4.f (hof st4.hp) B2 w4 { tmps := tm, defers := [] } := by
    refine ⟨O4.hrel A2k.hr, fun x => O4.rv ?_, ?_, rfl⟩
    · show RV X (hof st4.hp) B2 w2 (st4.f x) (tm.getD x undef)
      by_cases hx : x = 26
      · subst hx
        rw [keep_bad e2 (by decide)]
        exact RV.of1 trivial
      · have : tm.getD x undef = a2.tmps.getD x undef := by
          rw [← htm, ← ha4]
          simp [Act.put, Array.getElem?_setIfInBounds_ne (Ne.symm hx)]
        rw [this]
        exact A2k.fr x
    · show 84 ≤ tm.size
      rw [← htm, ← ha4, put_size]; exact hnt
  have hno : ∀ b, w2.heap.size ≤ b → ¬ Own (hof st4.hp) B2 b := fun b hb ho => by have := A2k.hr.lt ho; omega
  show (Code.block 0 _).wp _ Q a4 w4
  refine wp_block ((wpIn_wide (n := 5)).1 (wpIn_rangeFunc ?_))
  intro g hg
  obtain ⟨rec, hrec⟩ : ∃ rec : Loop, rec = { state := .ready, pending := none, fn := g, tmps := a4.tmps, params := #[27, 28], assign := .region id5 ops5 false, body := .block 1 (.region id6 ops6 false), defers := w4.heap.size } := ⟨_, rfl⟩
  obtain ⟨W1, hW1⟩ : ∃ W1, (w4.alloc (.deferred (some []))).alloc (.loop rec) = W1 := ⟨_, rfl⟩
  have O1 : Oth w4 W1 := by rw [← hW1]; exact (Oth.alloc _ _).trans (Oth.alloc _ _)
  have hsz1 : W1.heap.size = w4.heap.size + 2 := by rw [← hW1]; simp
  have hl1 : W1.heap[w4.heap.size + 1]? = some (.loop rec) := by
    rw [← hW1]; have := World.alloc_heap_new (w4.alloc (.deferred (some []))) (.loop rec); rwa [World.size_alloc] at this
  have hD1 : W1.heap[w4.heap.size]? = some (.deferred (some [])) := by
    rw [← hW1]; exact (alloc_keep _ _ (by simp)).trans (World.alloc_heap_new w4 _)
  have hkeep1 : ∀ b, b < w4.heap.size → W1.heap[b]? = w4.heap[b]? := fun b hb => by
    rw [← hW1]; exact (alloc_keep _ _ (by simp; omega)).trans (alloc_keep _ _ hb)
  have hb1 : W1.heap[w2.heap.size]? = some (.cells #[a2.tmps.getD 25 undef] 29) := (hkeep1 _ (by omega)).trans hb0
  refine ⟨w4.heap.size + 1, [{ target := .collected w4.heap.size, args := #[] }], W1, { target := .fn (.func 60) #[.pointer (some ⟨w2.heap.size, 0, none⟩)], args := #[.func (.yield (w4.heap.size + 1)) #[] #[]] }, W1, 60,
    #[.func (.yield (w4.heap.size + 1)) #[] #[], .pointer (some ⟨w2.heap.size, 0, none⟩)], W1, ?_, ?_, fun _ _ => trivial, ?_, fun _ => by omega, ?_⟩
  · rw [← hW1, hrec]; exact run_enterLoop_outer _ _ _ _ _
  · simp only [resolve, ht26]
    simp [go_sem]
  · simp [invoke, go_sem, callFunc60]
  · -- the rounds
    have hback : BackI Fence.wide 4 (w4.heap.size + 1) w2.heap.size ad es.length cap (elOf cvs) (fun j W => j ≤ es.length ∧ ∃ st B, Mid callr m (w4.heap.size + 1) X st4 st5 B2 W1 tm rec es j W st B) := by
      refine ⟨?_, ?_, ?_⟩
      · rintro j W ⟨_, st, B, M⟩
        have hk := M.link.keep w2.heap.size (by omega) (by omega) (hno _ (Nat.le_refl _))
        unfold World.cell?
        simp only [hk, hb1]
        simp [← hv]
      · rintro i W ⟨_, st, B, M⟩ hi
        have hei : es[i]? = some es[i] := List.getElem?_eq_getElem hi
        obtain ⟨a0, h0, hN, hc⟩ := hcv i es[i] hei
        have h9i := h9 es[i] (List.getElem_mem hi)
        have hblk : (a0.add (i * 9)).block = a0.block := by unfold Addr.add; split <;> rfl
        have hnO : ¬ Own (hof st4.hp) B2 (a0.add (i * 9)).block := by rw [hblk]; exact fun hh => hN (.inl hh)
        have hcc : ∀ k, k < 9 → W.cell? ⟨(a0.add (i * 9)).block, (a0.add (i * 9)).off + k, none⟩ = some (cvs i k) ∧ W.cell? (a0.add (i * 9)) = some (cvs i 0) := by
          intro k hk
          obtain ⟨d, hd⟩ : ∃ d, es[i][k]? = some d := ⟨es[i][k], List.getElem?_eq_getElem (by omega)⟩
          obtain ⟨c1', c2', _, _⟩ := hc k d hd
          exact ⟨M.link.cell hl1 hnO (O1.cell (O4.cell c1')), M.link.cell hl1 hnO (O1.cell (O4.cell c2'))⟩
        exact ⟨a0, _, _, _, _, _, _, _, _, _, h0, rfl, (hcc 0 (by omega)).2, (hcc 1 (by omega)).1, (hcc 2 (by omega)).1, (hcc 3 (by omega)).1, (hcc 4 (by omega)).1, (hcc 5 (by omega)).1, (hcc 6 (by omega)).1, (hcc 7 (by omega)).1, (hcc 8 (by omega)).1⟩
      · rintro j W ⟨_, st, B, M⟩ hj
        have hej : es[j]? = some es[j] := List.getElem?_eq_getElem hj
        have hgoj := M.go
        rw [List.take_succ_eq_append_getElem hj, List.reverse_append] at hgoj
        simp only [List.reverse_cons, List.reverse_nil, List.nil_append, List.singleton_append, backGo] at hgoj
        split at hgoj
        · rename_i st' hst'
          obtain ⟨a0, h0, hN, hc⟩ := hcv j es[j] hej
          have h9j := h9 es[j] (List.getElem_mem hj)
          have hd : RD W (Forb X (hof st.hp) B) (.agg es[j]) (.agg (elOf cvs j)) := by
            refine .agg _ _ (by rw [h9j]; rfl) (fun k v hk => ?_) (fun k d v hdk hk => ?_)
            · obtain ⟨hk9, rfl⟩ := elOf_get _ _ _ _ hk
              obtain ⟨d, hd⟩ : ∃ d, es[j][k]? = some d := ⟨es[j][k], List.getElem?_eq_getElem (by omega)⟩
              exact (hc k d hd).2.2.1
            · obtain ⟨hk9, rfl⟩ := elOf_get _ _ _ _ hk
              exact M.link.rv (.d d) _ (O1.rd (O4.rd (hc k d hdk).2.2.2)) (by intro y hy; simp [V.roots, V.root] at hy)
          have hy := run_yield (P := Go.Proofs.Try.prog) (args := #[.int .i64 (j : Int), .agg (elOf cvs j)]) M.rec_ (by rw [hrec]; rfl)
          have hpar : (rec.params.zip #[Value.int .i64 (j : Int), .agg (elOf cvs j)]).foldl (fun tmps (t, a) => tmps.setIfInBounds t a) rec.tmps = (tm.setIfInBounds 27 (.int .i64 (j : Int))).setIfInBounds 28 (.agg (elOf cvs j)) := by
            rw [hrec, ← htm]; simp
          rw [hpar] at hy
          have hr := round17 (k := 3) S hs hst' M.bad M.at_ hd M.rec_ (by rw [hrec]) (by rw [hrec]) M.own (vi := .int .i64 (j : Int)) (g := rec.fn)
          refine ⟨_, _, _, _, hy, ?_⟩
          rw [show rec.assign = .region id5 ops5 false by rw [hrec], show rec.body = .block 1 (.region id6 ops6 false) by rw [hrec]]
          refine hr.mono ?_
          rintro e W' ⟨rfl, B', hA', hL', hn', hb', hr', ho'⟩
          exact ⟨rfl, by omega, st', B', ⟨hgoj, hb', hA', M.link.trans hL', hn'.trans M.len, hr', ho'⟩⟩
        · cases hgoj
    have hstart : (fun j W => j ≤ es.length ∧ ∃ st B, Mid callr m (w4.heap.size + 1) X st4 st5 B2 W1 tm rec es j W st B) es.length W1 :=
      ⟨Nat.le_refl _, st4, B2, ⟨by rw [List.take_length]; exact hgo, fun x hx => keep_bad e2 hx, A4.oth O1, LinkX.refl _ _ _ _ _, rfl, hl1, hno _ (by omega)⟩⟩
    refine (back60 Fence.wide 4 trivial rfl (by omega) hback (by omega) hstart).mono ?_
    rintro e W' ⟨⟨v, rfl⟩, _, st, B, M⟩
    have hgo0 := M.go
    simp only [List.take_zero, List.reverse_nil, backGo, Option.some.injEq, Prod.mk.injEq, true_and] at hgo0
    subst hgo0
    have O5 : Oth W' (W'.putObj (w4.heap.size + 1) (.loop { rec with state := .exhausted })) := Oth.put _ M.rec_ (by simp) (by simp)
    have hp0 : rec.pending = none := by rw [hrec]
    have hend : (Instr.endLoop (w4.heap.size + 1)).run Go.Proofs.Try.prog W' = .ok none (W'.putObj (w4.heap.size + 1) (.loop { rec with state := .exhausted })) :=
      (run_endLoop (P := Go.Proofs.Try.prog) M.rec_ (by rw [hrec]; simp)).trans (by rw [hp0])
    refine ⟨none, _, hend, ?_⟩
    have hLx := M.link.trans (LinkX.put (.loop { rec with state := .exhausted }) M.rec_ (by simp) (by simp))
    have hD' : W'.heap[w4.heap.size]? = some (.deferred (some [])) := (M.link.keep _ (by omega) (by omega) (hno _ (by omega))).trans hD1
    have hwl : w2.heap.size ≤ w4.heap.size + 1 := by omega
    refine hK w4.heap.size B _ _ (@At.mk { l := [{ target := .collected w4.heap.size, args := #[] }] } _ _ _ _ _ _ _ (O5.hrel M.at_.hr) (fun t => ?_) ?_ ?_) (L34.trans (Link.ofX (O4.trans O1) ?_ ?_ ?_ ?_ hwl hLx)) ?_ ?_ ?_ ?_
    · show RV X _ _ _ (st.f t) (a4.tmps.getD t undef)
      rw [htm]; exact O5.rv (M.at_.fr t)
    · show 84 ≤ a4.tmps.size
      rw [htm]; exact M.at_.nt
    · show [_] ++ a4.defers = _
      rw [hd4]; rfl
    · rw [← hW1, ← hw4]; rfl
    · rw [← hW1, ← hw4]; rfl
    · rw [← hW1, ← hw4]; rfl
    · intro b hb
      rw [hkeep1 b (by omega), ← hw4]
      exact alloc_keep _ _ hb
    · rw [M.len, n2k, n2, n1]
    · rw [World.putObj_heap_other (by omega)]; exact hD'
    · have := L34.stp.size; omega
    · exact fun hh => hno _ (by omega) (M.link.own _ (by omega) hh)
end
end Go.Proofs.YtgmphfmoonbfpaaMv
