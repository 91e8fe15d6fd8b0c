/- Part 4 of the proof. -/
import Derived.Test.YtgmphfmoonbfpaaP3
import Derived.KernelRfl
import Derived.Lib.Bytealg
set_option linter.unusedVariables false
set_option linter.unusedSimpArgs false
set_option maxRecDepth 10000
namespace Go.Proofs.YtgmphfmoonbfpaaMv
open Go
def i6_o0:List II:=[⟨(some 2),none, .box 2 [] (.t 0)⟩,
 ⟨(some 4),none, .mv (.k (.bool false))⟩]
def i6_r0:IR:=.seq (.reg i6_o0) (.keep [1,2] [2,5,8,11,38,71])
def i6_o1:List II:=[⟨(some 12),none, .call 19 []⟩,
 ⟨(some 13),none, .un .not (.t 12)⟩,
 ⟨(some 14),none, .mv (.t 13)⟩,
 ⟨(some 15),(some (14,false)), .ldn 2 (.t 2)⟩,
 ⟨(some 16),(some (14,false)), .call 20 [(.t 15)]⟩,
 ⟨(some 17),(some (14,false)), .un .not (.t 16)⟩,
 ⟨(some 18),none, .pick (.t 14) (.k (.bool true)) (.t 17)⟩]
def i6_r1:IR:=.seq (.reg i6_o1) (.keep [1,2,18] [2,5,8,11,38,71])
def i6_o2:List II:=[⟨(some 19),none, .call 19 []⟩,
 ⟨(some 4),none, .mv (.t 19)⟩]
def i6_r2:IR:=.seq (.reg i6_o2) (.keep [4] [2,5,8,11,38,71])
def i6_o3:List II:=[⟨(some 20),none, .ldn 2 (.t 2)⟩,
 ⟨(some 21),none, .call 21 [(.t 20)]⟩,
 ⟨(some 5),none, .alloc [.d (.sl false []), .d (.sl false [])]⟩,
 ⟨none,none, .st 2 (.t 5) (.t 21)⟩]
def i6_r3:IR:=.seq (.reg i6_o3) (.keep [1,2,5] [2,5,8,11,38,71])
def i6_o4:List II:=[⟨(some 22),none, .ldn 2 (.t 5)⟩,
 ⟨(some 23),none, .call 21 [(.t 22)]⟩,
 ⟨(some 24),none, .ldn 2 (.t 5)⟩,
 ⟨(some 25),none, .call 22 [(.t 23),(.t 24)]⟩,
 ⟨(some 26),none, .un .not (.t 25)⟩,
 ⟨(some 27),none, .mv (.t 26)⟩,
 ⟨(some 28),(some (27,false)), .ldn 2 (.t 2)⟩,
 ⟨(some 29),(some (27,false)), .call 23 [(.t 28)]⟩,
 ⟨(some 30),(some (27,false)), .bin .eql (.t 29) (.k (.int .i64 0))⟩,
 ⟨(some 31),(some (27,false)), .mv (.t 30)⟩,
 ⟨(some 32),(some (31,true)), .ldn 2 (.t 5)⟩,
 ⟨(some 33),(some (31,true)), .ldn 2 (.t 2)⟩,
 ⟨(some 34),(some (31,true)), .call 22 [(.t 32),(.t 33)]⟩,
 ⟨(some 35),(some (31,true)), .un .not (.t 34)⟩,
 ⟨(some 36),(some (27,false)), .pick (.t 31) (.t 35) (.k (.bool false))⟩,
 ⟨(some 37),none, .pick (.t 27) (.k (.bool true)) (.t 36)⟩]
def i6_r4:IR:=.seq (.drw 12 [[],[],[],[],[],[],[],[],[],[],[],[]] i6_o4) (.keep [1,2,5,37] [2,5,8,11,38,71])
def i6_o5:List II:=[⟨(some 4),none, .mv (.k (.bool false))⟩]
def i6_r5:IR:=.seq (.reg i6_o5) (.keep [4] [2,5,8,11,38,71])
def i6_o6:List II:=[⟨(some 38),none, .mkmap⟩,
 ⟨(some 6),none, .mv (.t 38)⟩]
def i6_r6:IR:=.seq (.reg i6_o6) (.keep [1,2,5,6] [2,5,8,11,38,71])
def i6_o7:List II:=[⟨(some 39),none, .fa 1 (.t 2)⟩,
 ⟨(some 40),none, .ld1 (.t 39)⟩,
 ⟨(some 41),none, .len 0 (.t 40)⟩,
 ⟨(some 42),none, .mv (.k (.int .i64 0))⟩]
def i6_r7:IR:=.seq (.reg i6_o7) (.keep [1,2,5,6,40,41,42] [2,5,8,11,38,71])
def i6_o8:List II:=[⟨(some 43),none, .bin .lss (.t 42) (.t 41)⟩]
def i6_r8:IR:=.seq (.reg i6_o8) (.keep [1,2,5,6,40,41,42,43] [2,5,8,11,38,71])
def i6_o9:List II:=[⟨(some 44),none, .ia 4 (.t 40) (.t 42)⟩,
 ⟨(some 45),none, .ldn 4 (.t 44)⟩,
 ⟨(some 8),none, .alloc [.d (.str []), .d (.int .i64 0), .d (.int .i64 0), .d (.bool false)]⟩,
 ⟨none,none, .st 4 (.t 8) (.t 45)⟩]
def i6_r9:IR:=.seq (.reg i6_o9) (.keep [1,2,5,6,8,40,41,42] [2,5,8,11,38,71])
def i6_o10:List II:=[⟨(some 46),none, .fa 1 (.t 8)⟩,
 ⟨none,none, .st 1 (.t 46) (.k (.int .i64 0))⟩,
 ⟨(some 47),none, .fa 2 (.t 8)⟩,
 ⟨none,none, .st 1 (.t 47) (.k (.int .i64 0))⟩]
def i6_r10:IR:=.seq (.reg i6_o10) (.keep [1,2,5,6,8,40,41,42] [2,5,8,11,38,71])
def i6_o11:List II:=[⟨(some 48),none, .mv (.t 6)⟩,
 ⟨(some 49),none, .ldn 4 (.t 8)⟩,
 ⟨(some 50),none, .look true [2,1,1,0] (.bool false) false (.t 48) (.t 49)⟩]
def i6_r11:IR:=.seq (.reg i6_o11) (.keep [1,2,5,6,8,40,41,42,50] [2,5,8,11,38,71])
def i6_o12:List II:=[⟨(some 4),none, .mv (.k (.bool true))⟩]
def i6_r12:IR:=.seq (.reg i6_o12) (.keep [4] [2,5,8,11,38,71])
def i6_o13:List II:=[⟨(some 51),none, .mv (.t 6)⟩,
 ⟨(some 52),none, .ldn 4 (.t 8)⟩,
 ⟨none,none, .upd true [2,1,1,0] (.t 51) (.t 52) (.k (.bool true))⟩]
def i6_r13:IR:=.seq (.reg i6_o13) (.keep [1,2,5,6,40,41,42] [2,5,8,11,38,71])
def i6_o14:List II:=[⟨(some 53),none, .bin .add (.t 42) (.k (.int .i64 1))⟩,
 ⟨(some 42),none, .mv (.t 53)⟩]
def i6_r14:IR:=.seq (.reg i6_o14) (.keep [1,2,5,6,40,41,42] [2,5,8,11,38,71])
def i6_l0:IR:=(.seq i6_r8
 (.seq (.cond (.t 43) .skip
 (.exit 0))
 (.seq (.block 1 (.seq i6_r9
 (.seq i6_r10
 (.seq (.seq i6_r11
 (.cond (.t 50) (.seq i6_r12
 .ret)
 .skip))
 i6_r13))))
 i6_r14)))
def i6_o15:List II:=[⟨(some 54),none, .fa 1 (.t 2)⟩,
 ⟨(some 55),none, .ld1 (.t 54)⟩,
 ⟨(some 56),none, .callo 24 [(.t 55)]⟩,
 ⟨(some 9),none, .mv (.t 56)⟩]
def i6_r15:IR:=.seq (.reg i6_o15) (.keep [1,5,9] [2,5,8,11,38,56,71])
def i6_o16:List II:=[⟨(some 57),none, .mv (.t 9)⟩,
 ⟨(some 58),none, .len 0 (.t 57)⟩,
 ⟨(some 59),none, .bin .gtr (.t 58) (.k (.int .i64 0))⟩]
def i6_r16:IR:=.seq (.reg i6_o16) (.keep [1,5,9,59] [2,5,8,11,38,56,71])
def i6_o17:List II:=[⟨(some 60),none, .mv (.t 1)⟩,
 ⟨(some 61),none, .cvi .i64 (.t 60)⟩,
 ⟨(some 62),none, .mv (.t 9)⟩,
 ⟨(some 63),none, .len 0 (.t 62)⟩,
 ⟨(some 64),none, .bin .rem (.t 61) (.t 63)⟩,
 ⟨(some 10),none, .mv (.t 64)⟩]
def i6_r17:IR:=.seq (.reg i6_o17) (.keep [5,9,10] [2,5,8,11,38,56,71])
def i6_o18:List II:=[⟨(some 65),none, .mv (.t 9)⟩,
 ⟨(some 66),none, .mv (.t 10)⟩,
 ⟨(some 67),none, .slc 4 (.t 65) (some (.t 66)) none⟩,
 ⟨(some 68),none, .mv (.t 9)⟩,
 ⟨(some 69),none, .mv (.t 10)⟩,
 ⟨(some 70),none, .slc 4 (.t 68) none (some (.t 69))⟩,
 ⟨(some 71),none, .appm 4 40 (.t 67) (.t 70)⟩,
 ⟨(some 9),none, .mv (.t 71)⟩]
def i6_r18:IR:=.seq (.drw 6 [[],[],[],[],[],[]] i6_o18) (.keep [5,9] [2,5,8,11,38,71])
def i6_o19:List II:=[⟨(some 72),none, .mv (.t 9)⟩,
 ⟨(some 73),none, .build [.sl false [], .sl false []] [(1,1,(.t 72))]⟩,
 ⟨(some 74),none, .call 21 [(.t 73)]⟩,
 ⟨(some 11),none, .alloc [.d (.sl false []), .d (.sl false [])]⟩,
 ⟨none,none, .st 2 (.t 11) (.t 74)⟩]
def i6_r19:IR:=.seq (.reg i6_o19) (.keep [5,11] [2,5,8,11,38,71])
def i6_o20:List II:=[⟨(some 75),none, .fa 1 (.t 5)⟩,
 ⟨(some 76),none, .ld1 (.t 75)⟩,
 ⟨(some 77),none, .fa 1 (.t 11)⟩,
 ⟨(some 78),none, .ld1 (.t 77)⟩,
 ⟨(some 79),none, .call 25 [(.t 76),(.t 78)]⟩,
 ⟨(some 4),none, .mv (.t 79)⟩]
def i6_r20:IR:=.seq (.reg i6_o20) (.keep [4] [2,5,8,11,38,71])
def i6:IFn:=⟨(.seq i6_r0
 (.seq (.seq i6_r1
 (.cond (.t 18) (.seq i6_r2
 .ret)
 .skip))
 (.seq i6_r3
 (.seq (.seq i6_r4
 (.cond (.t 37) (.seq i6_r5
 .ret)
 .skip))
 (.seq i6_r6
 (.seq (.seq i6_r7
 (.block 0 (.loop i6_l0)))
 (.seq i6_r15
 (.seq (.seq i6_r16
 (.cond (.t 59) (.seq i6_r17
 i6_r18)
 .skip))
 (.seq i6_r19
 (.seq i6_r20
 .ret)))))))))),
 [.tmp 4]⟩
def i11_o0:List II:=[⟨(some 1),none, .box 2 [] (.t 0)⟩,
 ⟨(some 2),none, .mv (.k (.int .i64 0))⟩,
 ⟨(some 3),none, .mv (.k (.int .i64 0))⟩,
 ⟨(some 4),none, .mv (.k (.bool false))⟩]
def i11_r0:IR:=.seq (.reg i11_o0) (.keep [1] [1,5])
def i11_o1:List II:=[⟨(some 6),none, .fa 1 (.t 1)⟩,
 ⟨(some 7),none, .ld1 (.t 6)⟩,
 ⟨(some 8),none, .len 0 (.t 7)⟩,
 ⟨(some 9),none, .bin .eql (.t 8) (.k (.int .i64 0))⟩]
def i11_r1:IR:=.seq (.reg i11_o1) (.keep [1,9] [1,5])
def i11_o2:List II:=[⟨(some 2),none, .mv (.k (.int .i64 0))⟩,
 ⟨(some 3),none, .mv (.k (.int .i64 0))⟩,
 ⟨(some 4),none, .mv (.k (.bool false))⟩]
def i11_r2:IR:=.seq (.reg i11_o2) (.keep [2,3,4] [1,5])
def i11_o3:List II:=[⟨(some 10),none, .fa 1 (.t 1)⟩,
 ⟨(some 11),none, .ld1 (.t 10)⟩,
 ⟨(some 12),none, .fa 1 (.t 1)⟩,
 ⟨(some 13),none, .ld1 (.t 12)⟩,
 ⟨(some 14),none, .len 0 (.t 13)⟩,
 ⟨(some 15),none, .bin .sub (.t 14) (.k (.int .i64 1))⟩,
 ⟨(some 16),none, .ia 15 (.t 11) (.t 15)⟩,
 ⟨(some 17),none, .ldn 15 (.t 16)⟩,
 ⟨(some 5),none, .alloc [.d (.int .i64 0), .d (.int .i64 0), .d (.bool false), .d (.bool false), .d (.int .i64 0), .d (.bool false), .d (.bool false), .d (.int .i64 0), .d (.int .i64 0), .d (.int .i64 0), .d (.int .i64 0), .d (.str []), .d (.str []), .d (.bool false), .d (.int .i64 0)]⟩,
 ⟨none,none, .st 15 (.t 5) (.t 17)⟩]
def i11_r3:IR:=.seq (.reg i11_o3) (.keep [1,5] [1,5])
def i11_o4:List II:=[⟨(some 18),none, .fa 0 (.t 5)⟩,
 ⟨(some 19),none, .ld1 (.t 18)⟩,
 ⟨(some 20),none, .bin .neq (.t 19) (.k (.int .i64 3))⟩,
 ⟨(some 21),none, .mv (.t 20)⟩,
 ⟨(some 22),(some (21,false)), .fa 10 (.t 5)⟩,
 ⟨(some 23),(some (21,false)), .fa 1 (.t 22)⟩,
 ⟨(some 24),(some (21,false)), .ld1 (.t 23)⟩,
 ⟨(some 25),(some (21,false)), .bin .eql (.t 24) (.k (.str []))⟩,
 ⟨(some 26),none, .pick (.t 21) (.k (.bool true)) (.t 25)⟩,
 ⟨(some 27),none, .mv (.t 26)⟩,
 ⟨(some 28),(some (27,false)), .fa 10 (.t 5)⟩,
 ⟨(some 29),(some (27,false)), .fa 1 (.t 28)⟩,
 ⟨(some 30),(some (27,false)), .ld1 (.t 29)⟩,
 ⟨(some 31),(some (27,false)), .bin .eql (.t 30) (.k (.str [46]))⟩,
 ⟨(some 32),none, .pick (.t 27) (.k (.bool true)) (.t 31)⟩,
 ⟨(some 33),none, .mv (.t 32)⟩,
 ⟨(some 34),(some (33,false)), .fa 10 (.t 5)⟩,
 ⟨(some 35),(some (33,false)), .fa 2 (.t 34)⟩,
 ⟨(some 36),(some (33,false)), .ld1 (.t 35)⟩,
 ⟨(some 37),(some (33,false)), .bin .neq (.t 36) (.k (.str []))⟩,
 ⟨(some 38),none, .pick (.t 33) (.k (.bool true)) (.t 37)⟩]
def i11_r4:IR:=.seq (.reg i11_o4) (.keep [1,38] [1,5])
def i11_o5:List II:=[⟨(some 2),none, .mv (.k (.int .i64 0))⟩,
 ⟨(some 3),none, .mv (.k (.int .i64 0))⟩,
 ⟨(some 4),none, .mv (.k (.bool false))⟩]
def i11_r5:IR:=.seq (.reg i11_o5) (.keep [2,3,4] [1,5])
def i11_o6:List II:=[⟨(some 40),none, .fa 0 (.t 1)⟩,
 ⟨(some 41),none, .ld1 (.t 40)⟩,
 ⟨(some 42),none, .bin .eql (.t 41) (.k (.str [116,98,122]))⟩,
 ⟨(some 39),none, .mv (.t 42)⟩]
def i11_r6:IR:=.seq (.reg i11_o6) (.keep [1,39] [1,5])
def i11_o7:List II:=[⟨(some 43),none, .fa 0 (.t 1)⟩,
 ⟨(some 44),none, .ld1 (.t 43)⟩,
 ⟨(some 45),none, .bin .eql (.t 44) (.k (.str [116,98,110,122]))⟩,
 ⟨(some 39),none, .mv (.t 45)⟩]
def i11_r7:IR:=.seq (.reg i11_o7) (.keep [1,39] [1,5])
def i11_o8:List II:=[⟨(some 2),none, .mv (.k (.int .i64 (-32768)))⟩,
 ⟨(some 3),none, .mv (.k (.int .i64 32764))⟩,
 ⟨(some 4),none, .mv (.k (.bool true))⟩]
def i11_r8:IR:=.seq (.reg i11_o8) (.keep [2,3,4] [1,5])
def i11_o9:List II:=[⟨(some 47),none, .fa 0 (.t 1)⟩,
 ⟨(some 48),none, .ld1 (.t 47)⟩,
 ⟨(some 49),none, .bin .eql (.t 48) (.k (.str [99,98,122]))⟩,
 ⟨(some 46),none, .mv (.t 49)⟩]
def i11_r9:IR:=.seq (.reg i11_o9) (.keep [1,46] [1,5])
def i11_o10:List II:=[⟨(some 50),none, .fa 0 (.t 1)⟩,
 ⟨(some 51),none, .ld1 (.t 50)⟩,
 ⟨(some 52),none, .bin .eql (.t 51) (.k (.str [99,98,110,122]))⟩,
 ⟨(some 46),none, .mv (.t 52)⟩]
def i11_r10:IR:=.seq (.reg i11_o10) (.keep [1,46] [1,5])
def i11_o11:List II:=[⟨(some 53),none, .fa 0 (.t 1)⟩,
 ⟨(some 54),none, .ld1 (.t 53)⟩,
 ⟨(some 55),none, .call 30 [(.t 54),(.k (.str [98,46]))]⟩,
 ⟨(some 46),none, .mv (.t 55)⟩]
def i11_r11:IR:=.seq (.reg i11_o11) (.keep [46] [1,5])
def i11_o12:List II:=[⟨(some 2),none, .mv (.k (.int .i64 (-1048576)))⟩,
 ⟨(some 3),none, .mv (.k (.int .i64 1048572))⟩,
 ⟨(some 4),none, .mv (.k (.bool true))⟩]
def i11_r12:IR:=.seq (.reg i11_o12) (.keep [2,3,4] [1,5])
def i11_o13:List II:=[⟨(some 2),none, .mv (.k (.int .i64 0))⟩,
 ⟨(some 3),none, .mv (.k (.int .i64 0))⟩,
 ⟨(some 4),none, .mv (.k (.bool false))⟩]
def i11_r13:IR:=.seq (.reg i11_o13) (.keep [2,3,4] [1,5])
def i11:IFn:=⟨(.seq i11_r0
 (.seq (.seq i11_r1
 (.cond (.t 9) (.seq i11_r2
 .ret)
 .skip))
 (.seq i11_r3
 (.seq (.seq i11_r4
 (.cond (.t 38) (.seq i11_r5
 .ret)
 .skip))
 (.seq (.block 0 (.seq (.seq i11_r6
 (.cond (.t 39) .skip
 i11_r7))
 (.cond (.t 39) (.seq i11_r8
 .ret)
 (.seq (.seq i11_r9
 (.cond (.t 46) .skip
 (.seq i11_r10
 (.cond (.t 46) .skip
 i11_r11))))
 (.cond (.t 46) (.seq i11_r12
 .ret)
 .skip)))))
 (.seq i11_r13
 .ret)))))),
 [.tmp 2, .tmp 3, .tmp 4]⟩
def i17_o0:List II:=[⟨(some 2),none, .box 3 [] (.t 0)⟩,
 ⟨(some 4),none, .mv (.k (.sl false []))⟩]
def i17_r0:IR:=.seq (.reg i17_o0) (.keep [1,2] [2,5,7,8,10,11,12,23,81])
def i17_o1:List II:=[⟨(some 14),none, .mv (.t 1)⟩,
 ⟨(some 15),none, .bin .lss (.t 14) (.k (.int .i64 0))⟩,
 ⟨(some 16),none, .mv (.t 15)⟩,
 ⟨(some 17),(some (16,false)), .mv (.t 1)⟩,
 ⟨(some 18),(some (16,false)), .fa 0 (.t 2)⟩,
 ⟨(some 19),(some (16,false)), .ld1 (.t 18)⟩,
 ⟨(some 20),(some (16,false)), .len 0 (.t 19)⟩,
 ⟨(some 21),(some (16,false)), .bin .geq (.t 17) (.t 20)⟩,
 ⟨(some 22),none, .pick (.t 16) (.k (.bool true)) (.t 21)⟩]
def i17_r1:IR:=.seq (.reg i17_o1) (.keep [1,2,22] [2,5,7,8,10,11,12,23,81])
def i17_o2:List II:=[⟨(some 4),none, .mv (.k (.sl false []))⟩]
def i17_r2:IR:=.seq (.reg i17_o2) (.keep [4] [2,5,7,8,10,11,12,23,81])
def i17_o3:List II:=[⟨(some 23),none, .mkmap⟩,
 ⟨(some 5),none, .alloc [.d (.nilm)]⟩,
 ⟨none,none, .st 1 (.t 5) (.t 23)⟩]
def i17_r3:IR:=.seq (.reg i17_o3) (.keep [1,2,5] [2,5,7,8,10,11,12,23,81])
def i17_o4:List II:=[⟨(some 24),none, .fa 1 (.t 2)⟩,
 ⟨(some 25),none, .ld1 (.t 24)⟩]
def i17_r4:IR:=.seq (.reg i17_o4) (.keep [1,2,5,25] [2,5,7,8,10,11,12,23,81])
def i17_o5:List II:=[⟨(some 7),none, .alloc [.d (.str []), .d (.int .i64 0), .d (.int .i64 0), .d (.int .i64 0), .d (.int .i64 0), .d (.bool false), .d (.int .i64 0), .d (.str []), .d (.str [])]⟩,
 ⟨none,none, .st 9 (.t 7) (.t 28)⟩]
def i17_r5:IR:=.seq (.reg i17_o5) (.keep [1,2,5,7,25] [2,5,7,8,10,11,12,23,81])
def i17_o6:List II:=[⟨(some 29),none, .ld1 (.t 5)⟩,
 ⟨(some 30),none, .fa 0 (.t 7)⟩,
 ⟨(some 31),none, .ld1 (.t 30)⟩,
 ⟨(some 32),none, .ldn 9 (.t 7)⟩,
 ⟨none,none, .upd false [2] (.t 29) (.t 31) (.t 32)⟩]
def i17_r6:IR:=.seq (.reg i17_o6) (.keep [1,2,5,25] [2,5,7,8,10,11,12,23,81])
def i17_l0:IR:=(.seq i17_r5 (.block 1 i17_r6))
def i17_o7:List II:=[⟨(some 8),none, .mkrow 7⟩]
def i17_r7:IR:=.seq (.reg i17_o7) (.keep [1,2,5,8] [2,5,7,8,10,11,12,23,81])
def i17_o8:List II:=[⟨(some 33),none, .fa 0 (.t 2)⟩,
 ⟨(some 34),none, .ld1 (.t 33)⟩,
 ⟨(some 35),none, .mv (.t 1)⟩,
 ⟨(some 36),none, .ia 4 (.t 34) (.t 35)⟩,
 ⟨(some 37),none, .fa 3 (.t 36)⟩,
 ⟨(some 38),none, .ld1 (.t 37)⟩,
 ⟨(some 39),none, .len 0 (.t 38)⟩,
 ⟨(some 40),none, .mv (.k (.int .i64 0))⟩]
def i17_r8:IR:=.seq (.reg i17_o8) (.keep [1,5,8,38,39,40] [2,5,7,8,10,11,12,23,81])
def i17_o9:List II:=[⟨(some 41),none, .bin .lss (.t 40) (.t 39)⟩]
def i17_r9:IR:=.seq (.reg i17_o9) (.keep [1,5,8,38,39,40,41] [2,5,7,8,10,11,12,23,81])
def i17_o10:List II:=[⟨(some 42),none, .ia 11 (.t 38) (.t 40)⟩,
 ⟨(some 43),none, .ldn 11 (.t 42)⟩,
 ⟨(some 10),none, .alloc [.d (.int .i64 0), .d (.int .i64 0), .d (.int .i64 0), .d (.str []), .d (.sl false []), .d (.int .i64 0), .d (.str []), .d (.str []), .d (.int .i64 0), .d (.sl false []), .d (.int .i64 0)]⟩,
 ⟨none,none, .st 11 (.t 10) (.t 43)⟩]
def i17_r10:IR:=.seq (.reg i17_o10) (.keep [1,5,8,10,38,39,40] [2,5,7,8,10,11,12,23,81])
def i17_o11:List II:=[⟨(some 44),none, .build [.int .i64 0, .int .i64 0, .int .i64 0, .int .i64 0, .int .i64 0, .int .i64 0, .int .i64 0] [(0,1,(.k (.int .i64 1)))]⟩,
 ⟨(some 11),none, .alloc [.d (.int .i64 0), .d (.int .i64 0), .d (.int .i64 0), .d (.int .i64 0), .d (.int .i64 0), .d (.int .i64 0), .d (.int .i64 0)]⟩,
 ⟨none,none, .st 7 (.t 11) (.t 44)⟩]
def i17_r11:IR:=.seq (.reg i17_o11) (.keep [1,5,8,10,11,38,39,40] [2,5,7,8,10,11,12,23,81])
def i17_o12:List II:=[⟨(some 45),none, .fa 0 (.t 10)⟩,
 ⟨(some 46),none, .ld1 (.t 45)⟩]
def i17_r12:IR:=.seq (.reg i17_o12) (.keep [1,5,8,10,11,38,39,40,46] [2,5,7,8,10,11,12,23,81])
def i17_o13:List II:=[⟨(some 48),none, .bin .eql (.t 46) (.k (.int .i64 2))⟩,
 ⟨(some 47),none, .mv (.t 48)⟩]
def i17_r13:IR:=.seq (.reg i17_o13) (.keep [1,5,8,10,11,38,39,40,46,47] [2,5,7,8,10,11,12,23,81])
def i17_o14:List II:=[⟨(some 50),none, .bin .eql (.t 46) (.k (.int .i64 1))⟩,
 ⟨(some 49),none, .mv (.t 50)⟩]
def i17_r14:IR:=.seq (.reg i17_o14) (.keep [1,5,8,10,11,38,39,40,46,49] [2,5,7,8,10,11,12,23,81])
def i17_o15:List II:=[⟨(some 52),none, .bin .eql (.t 46) (.k (.int .i64 3))⟩,
 ⟨(some 51),none, .mv (.t 52)⟩]
def i17_r15:IR:=.seq (.reg i17_o15) (.keep [1,5,8,10,11,38,39,40,46,51] [2,5,7,8,10,11,12,23,81])
def i17_o16:List II:=[⟨(some 54),none, .bin .eql (.t 46) (.k (.int .i64 4))⟩,
 ⟨(some 53),none, .mv (.t 54)⟩]
def i17_r16:IR:=.seq (.reg i17_o16) (.keep [1,5,8,10,11,38,39,40,46,53] [2,5,7,8,10,11,12,23,81])
def i17_o17:List II:=[⟨(some 56),none, .bin .eql (.t 46) (.k (.int .i64 5))⟩,
 ⟨(some 55),none, .mv (.t 56)⟩]
def i17_r17:IR:=.seq (.reg i17_o17) (.keep [1,5,8,10,11,38,39,40,55] [2,5,7,8,10,11,12,23,81])
def i17_o18:List II:=[⟨(some 58),none, .ld1 (.t 5)⟩,
 ⟨(some 59),none, .mv (.t 1)⟩,
 ⟨(some 60),none, .fa 3 (.t 10)⟩,
 ⟨(some 61),none, .ldn 2 (.t 60)⟩,
 ⟨(some 62),none, .call 35 [(.t 58),(.t 59),(.t 61)]⟩,
 ⟨(some 57),none, .mv (.t 62)⟩,
 ⟨(some 63),none, .ext (.t 57) 0⟩,
 ⟨(some 64),none, .ext (.t 57) 1⟩,
 ⟨(some 12),none, .alloc [.d (.int .i64 0), .d (.int .i64 0), .d (.int .i64 0), .d (.int .i64 0), .d (.int .i64 0), .d (.int .i64 0), .d (.int .i64 0)]⟩,
 ⟨none,none, .st 7 (.t 12) (.t 63)⟩,
 ⟨(some 13),none, .mv (.t 64)⟩]
def i17_r18:IR:=.seq (.reg i17_o18) (.keep [1,5,8,11,12,13,38,39,40] [2,5,7,8,10,11,12,23,81])
def i17_o19:List II:=[⟨(some 65),none, .mv (.t 13)⟩]
def i17_r19:IR:=.seq (.reg i17_o19) (.keep [1,5,8,11,12,38,39,40,65] [2,5,7,8,10,11,12,23,81])
def i17_o20:List II:=[⟨(some 66),none, .ldn 7 (.t 12)⟩,
 ⟨none,none, .st 7 (.t 11) (.t 66)⟩]
def i17_r20:IR:=.seq (.reg i17_o20) (.keep [1,5,8,11,38,39,40] [2,5,7,8,10,11,12,23,81])
def i17_o21:List II:=[⟨(some 67),none, .fa 1 (.t 11)⟩,
 ⟨none,none, .st 1 (.t 67) (.k (.int .i64 4))⟩]
def i17_r21:IR:=.seq (.reg i17_o21) (.keep [1,5,8,11,38,39,40] [2,5,7,8,10,11,12,23,81])
def i17_o22:List II:=[⟨(some 68),none, .fa 8 (.t 10)⟩,
 ⟨(some 69),none, .ld1 (.t 68)⟩,
 ⟨(some 70),none, .fa 1 (.t 11)⟩,
 ⟨none,none, .st 1 (.t 70) (.t 69)⟩]
def i17_r22:IR:=.seq (.reg i17_o22) (.keep [1,5,8,11,38,39,40] [2,5,7,8,10,11,12,23,81])
def i17_o23:List II:=[⟨(some 71),none, .fa 9 (.t 10)⟩,
 ⟨(some 72),none, .ld1 (.t 71)⟩,
 ⟨(some 73),none, .len 0 (.t 72)⟩,
 ⟨(some 74),none, .fa 1 (.t 11)⟩,
 ⟨none,none, .st 1 (.t 74) (.t 73)⟩]
def i17_r23:IR:=.seq (.reg i17_o23) (.keep [1,5,8,11,38,39,40] [2,5,7,8,10,11,12,23,81])
def i17_o24:List II:=[⟨(some 75),none, .fa 10 (.t 10)⟩,
 ⟨(some 76),none, .ld1 (.t 75)⟩,
 ⟨(some 77),none, .build [.int .i64 0, .int .i64 0, .int .i64 0, .int .i64 0, .int .i64 0, .int .i64 0, .int .i64 0] [(0,1,(.k (.int .i64 2))),(2,1,(.t 76))]⟩,
 ⟨none,none, .st 7 (.t 11) (.t 77)⟩]
def i17_r24:IR:=.seq (.reg i17_o24) (.keep [1,5,8,11,38,39,40] [2,5,7,8,10,11,12,23,81])
def i17_o25:List II:=[⟨(some 78),none, .mv (.t 8)⟩,
 ⟨(some 79),none, .ldn 7 (.t 11)⟩,
 ⟨(some 80),none, .lit [.int .i64 0, .int .i64 0, .int .i64 0, .int .i64 0, .int .i64 0, .int .i64 0, .int .i64 0] 1 [(0,(.t 79))]⟩,
 ⟨(some 81),none, .app false [] 7 56 (.t 78) (.t 80)⟩,
 ⟨(some 8),none, .mv (.t 81)⟩]
def i17_r25:IR:=.seq (.reg i17_o25) (.keep [1,5,8,38,39,40] [2,5,7,8,10,11,12,23,81])
def i17_o26:List II:=[⟨(some 82),none, .bin .add (.t 40) (.k (.int .i64 1))⟩,
 ⟨(some 40),none, .mv (.t 82)⟩]
def i17_r26:IR:=.seq (.reg i17_o26) (.keep [1,5,8,38,39,40] [2,5,7,8,10,11,12,23,81])
def i17_l2:IR:=(.seq i17_r9
 (.seq (.cond (.t 41) .skip
 (.exit 2))
 (.seq (.block 3 (.seq i17_r10
 (.seq i17_r11
 (.seq (.seq i17_r12
 (.block 4 (.seq (.block 9 (.seq (.block 8 (.seq (.block 7 (.seq (.block 6 (.seq (.block 5 (.seq (.seq (.seq i17_r13
 (.cond (.t 47) (.exit 5)
 .skip))
 (.seq (.seq i17_r14
 (.cond (.t 49) (.exit 6)
 .skip))
 (.seq (.seq i17_r15
 (.cond (.t 51) (.exit 7)
 .skip))
 (.seq (.seq i17_r16
 (.cond (.t 53) (.exit 8)
 .skip))
 (.seq i17_r17
 (.cond (.t 55) (.exit 9)
 .skip))))))
 (.exit 4)))
 (.seq i17_r18
 (.seq i17_r19
 (.cond (.t 65) (.seq i17_r20
 (.exit 4))
 .skip)))))
 (.seq i17_r21
 (.exit 4))))
 (.seq i17_r22
 (.exit 4))))
 (.seq i17_r23
 (.exit 4))))
 (.seq i17_r24
 (.exit 4)))))
 i17_r25))))
 i17_r26)))
def i17_o27:List II:=[⟨(some 83),none, .mv (.t 8)⟩,
 ⟨(some 4),none, .mv (.t 83)⟩]
def i17_r27:IR:=.seq (.reg i17_o27) (.keep [4] [2,5,7,8,10,11,12,23,81])
def i17:IFn:=⟨(.seq i17_r0
 (.seq (.seq i17_r1
 (.cond (.t 22) (.seq i17_r2
 .ret)
 .skip))
 (.seq i17_r3
 (.seq (.seq i17_r4
 (.block 0 (.back 25 28 i17_l0)))
 (.seq i17_r7
 (.seq (.seq i17_r8
 (.block 2 (.loop i17_l2)))
 (.seq i17_r27
 .ret))))))),
 [.tmp 4]⟩
def i19_o0:List II:=[⟨(some 0),none, .mv (.k (.bool false))⟩]
def i19_r0:IR:=.seq (.reg i19_o0) (.keep [] [1,2])
def i19_o1:List II:=[⟨(some 3),none, .lit [.int .u8 0] 4 [(0,(.k (.int .u8 1))),(1,(.k (.int .u8 2))),(2,(.k (.int .u8 3))),(3,(.k (.int .u8 4)))]⟩,
 ⟨(some 4),none, .build [.int .i64 0, .int .i64 0, .int .i64 0, .int .i64 0] [(1,1,(.k (.int .i64 283)))]⟩,
 ⟨(some 5),none, .lit [.int .i64 0, .int .i64 0, .int .i64 0, .int .i64 0] 1 [(0,(.t 4))]⟩,
 ⟨(some 6),none, .build [.str [], .int .i64 0, .int .i64 0, .int .i64 0, .sl false [], .sl false []] [(0,1,(.k (.str [46,116,101,120,116]))),(1,1,(.k (.int .i64 1))),(2,1,(.k (.int .i64 4))),(3,1,(.k (.int .i64 4))),(4,1,(.t 3)),(5,1,(.t 5))]⟩,
 ⟨(some 7),none, .lit [.str [], .int .i64 0, .int .i64 0, .int .i64 0, .sl false [], .sl false []] 1 [(0,(.t 6))]⟩,
 ⟨(some 8),none, .build [.str [], .int .i64 0, .int .i64 0, .bool false] [(0,1,(.k (.str [102]))),(1,1,(.k (.int .i64 (-1)))),(3,1,(.k (.bool true)))]⟩,
 ⟨(some 9),none, .lit [.str [], .int .i64 0, .int .i64 0, .bool false] 1 [(0,(.t 8))]⟩,
 ⟨(some 10),none, .build [.sl false [], .sl false []] [(0,1,(.t 7)),(1,1,(.t 9))]⟩,
 ⟨(some 1),none, .alloc [.d (.sl false []), .d (.sl false [])]⟩,
 ⟨none,none, .st 2 (.t 1) (.t 10)⟩]
def i19_r1:IR:=.seq (.reg i19_o1) (.keep [1] [1,2])
def i19_o2:List II:=[⟨(some 11),none, .ldn 2 (.t 1)⟩,
 ⟨(some 2),none, .alloc [.d (.sl false []), .d (.sl false [])]⟩,
 ⟨none,none, .st 2 (.t 2) (.t 11)⟩]
def i19_r2:IR:=.seq (.reg i19_o2) (.keep [1,2] [1,2])
def i19_o3:List II:=[⟨(some 12),none, .fa 1 (.t 2)⟩,
 ⟨none,none, .st 1 (.t 12) (.k (.sl false []))⟩]
def i19_r3:IR:=.seq (.reg i19_o3) (.keep [1,2] [1,2])
def i19_o4:List II:=[⟨(some 13),none, .call 36 [(.k (.str [46,116,101,120,116,46,104,111,116]))]⟩,
 ⟨(some 14),none, .bin .eql (.t 13) (.k (.int .i64 1))⟩,
 ⟨(some 15),none, .mv (.t 14)⟩,
 ⟨(some 16),(some (15,true)), .call 36 [(.k (.str [46,116,101,120,116,117,97,108]))]⟩,
 ⟨(some 17),(some (15,true)), .bin .eql (.t 16) (.k (.int .i64 2))⟩,
 ⟨(some 18),none, .pick (.t 15) (.t 17) (.k (.bool false))⟩,
 ⟨(some 19),none, .mv (.t 18)⟩,
 ⟨(some 20),(some (19,true)), .call 37 [(.k (.int .i64 283))]⟩,
 ⟨(some 21),(some (19,true)), .bin .eql (.t 20) (.k (.int .i64 4))⟩,
 ⟨(some 22),none, .pick (.t 19) (.t 21) (.k (.bool false))⟩,
 ⟨(some 23),none, .mv (.t 22)⟩,
 ⟨(some 24),(some (23,true)), .ldn 2 (.t 1)⟩,
 ⟨(some 25),(some (23,true)), .call 23 [(.t 24)]⟩,
 ⟨(some 26),(some (23,true)), .bin .eql (.t 25) (.k (.int .i64 0))⟩,
 ⟨(some 27),none, .pick (.t 23) (.t 26) (.k (.bool false))⟩,
 ⟨(some 28),none, .mv (.t 27)⟩,
 ⟨(some 29),(some (28,true)), .ldn 2 (.t 2)⟩,
 ⟨(some 30),(some (28,true)), .call 23 [(.t 29)]⟩,
 ⟨(some 31),(some (28,true)), .bin .eql (.t 30) (.k (.int .i64 140))⟩,
 ⟨(some 32),none, .pick (.t 28) (.t 31) (.k (.bool false))⟩,
 ⟨(some 0),none, .mv (.t 32)⟩]
def i19_r4:IR:=.seq (.reg i19_o4) (.keep [0] [1,2])
def i19:IFn:=⟨(.seq i19_r0
 (.seq i19_r1
 (.seq i19_r2
 (.seq i19_r3
 (.seq i19_r4
 .ret))))),
 [.tmp 0]⟩
def i20_o0:List II:=[⟨(some 1),none, .box 2 [] (.t 0)⟩,
 ⟨(some 2),none, .mv (.k (.bool false))⟩]
def i20_r0:IR:=.seq (.reg i20_o0) (.keep [1] [1])
def i20_o1:List II:=[⟨(some 3),none, .fa 0 (.t 1)⟩,
 ⟨(some 4),none, .ld1 (.t 3)⟩,
 ⟨(some 5),none, .len 0 (.t 4)⟩,
 ⟨(some 6),none, .bin .leq (.t 5) (.k (.int .i64 80))⟩,
 ⟨(some 7),none, .mv (.t 6)⟩,
 ⟨(some 8),(some (7,true)), .fa 1 (.t 1)⟩,
 ⟨(some 9),(some (7,true)), .ld1 (.t 8)⟩,
 ⟨(some 10),(some (7,true)), .len 0 (.t 9)⟩,
 ⟨(some 11),(some (7,true)), .bin .leq (.t 10) (.k (.int .i64 300))⟩,
 ⟨(some 12),none, .pick (.t 7) (.t 11) (.k (.bool false))⟩,
 ⟨(some 2),none, .mv (.t 12)⟩]
def i20_r1:IR:=.seq (.reg i20_o1) (.keep [2] [1])
def i20:IFn:=⟨(.seq i20_r0
 (.seq i20_r1
 .ret)),
 [.tmp 2]⟩
def i21_o0:List II:=[⟨(some 1),none, .box 2 [] (.t 0)⟩,
 ⟨(some 2),none, .alloc [.d (.sl false []), .d (.sl false [])]⟩]
def i21_r0:IR:=.seq (.reg i21_o0) (.keep [1,2] [1,2,3,6,9,18,38])
def i21_o1:List II:=[⟨(some 13),none, .ldn 2 (.t 1)⟩,
 ⟨(some 14),none, .callo 38 [(.t 13)]⟩,
 ⟨(some 3),none, .alloc [.d (.sl false []), .d (.sl false [])]⟩,
 ⟨none,none, .stm 2 (.t 3) (.t 14)⟩]
def i21_r1:IR:=.seq (.reg i21_o1) (.keep [1,2,3] [1,2,3,6,9,18,38])
def i21_o2:List II:=[⟨(some 15),none, .fa 1 (.t 1)⟩,
 ⟨(some 16),none, .ld1 (.t 15)⟩,
 ⟨(some 17),none, .len 0 (.t 16)⟩,
 ⟨(some 18),none, .mkrows [.str [], .int .i64 0, .int .i64 0, .bool false, .int .i64 0] 48 (.t 17)⟩,
 ⟨(some 4),none, .mv (.t 18)⟩]
def i21_r2:IR:=.seq (.reg i21_o2) (.keep [1,2,3,4] [1,2,3,6,9,18,38])
def i21_o3:List II:=[⟨(some 19),none, .fa 1 (.t 1)⟩,
 ⟨(some 20),none, .ld1 (.t 19)⟩,
 ⟨(some 21),none, .len 0 (.t 20)⟩,
 ⟨(some 22),none, .mv (.k (.int .i64 0))⟩]
def i21_r3:IR:=.seq (.reg i21_o3) (.keep [2,3,4,20,21,22] [1,2,3,6,9,18,38])
def i21_o4:List II:=[⟨(some 23),none, .bin .lss (.t 22) (.t 21)⟩]
def i21_r4:IR:=.seq (.reg i21_o4) (.keep [2,3,4,20,21,22,23] [1,2,3,6,9,18,38])
def i21_o5:List II:=[⟨(some 24),none, .mv (.t 22)⟩,
 ⟨(some 25),none, .ia 4 (.t 20) (.t 22)⟩,
 ⟨(some 26),none, .ldn 4 (.t 25)⟩,
 ⟨(some 6),none, .alloc [.d (.str []), .d (.int .i64 0), .d (.int .i64 0), .d (.bool false)]⟩,
 ⟨(some 5),none, .mv (.t 24)⟩,
 ⟨none,none, .st 4 (.t 6) (.t 26)⟩]
def i21_r5:IR:=.seq (.reg i21_o5) (.keep [2,3,4,5,6,20,21,22] [1,2,3,6,9,18,38])
def i21_o6:List II:=[⟨(some 27),none, .mv (.t 4)⟩,
 ⟨(some 28),none, .mv (.t 5)⟩,
 ⟨(some 29),none, .ldn 4 (.t 6)⟩,
 ⟨(some 30),none, .mv (.t 5)⟩,
 ⟨(some 31),none, .build [.str [], .int .i64 0, .int .i64 0, .bool false, .int .i64 0] [(0,4,(.t 29)),(4,1,(.t 30))]⟩,
 ⟨(some 32),none, .ia 5 (.t 27) (.t 28)⟩,
 ⟨none,none, .st 5 (.t 32) (.t 31)⟩]
def i21_r6:IR:=.seq (.reg i21_o6) (.keep [2,3,4,20,21,22] [1,2,3,6,9,18,38])
def i21_o7:List II:=[⟨(some 33),none, .bin .add (.t 22) (.k (.int .i64 1))⟩,
 ⟨(some 22),none, .mv (.t 33)⟩]
def i21_r7:IR:=.seq (.reg i21_o7) (.keep [2,3,4,20,21,22] [1,2,3,6,9,18,38])
def i21_l0:IR:=(.seq i21_r4
 (.seq (.cond (.t 23) .skip
 (.exit 0))
 (.seq (.block 1 (.seq i21_r5
 i21_r6))
 i21_r7)))
def i21_o8:List II:=[⟨(some 34),none, .mv (.t 4)⟩,
 ⟨(some 35),none, .callf 39 [(.t 34),(.fn 40)]⟩]
def i21_r8:IR:=.seq (.reg i21_o8) (.keep [2,3,4] [1,2,3,6,9,18,38])
def i21_o9:List II:=[⟨(some 36),none, .mv (.t 4)⟩,
 ⟨(some 37),none, .len 0 (.t 36)⟩,
 ⟨(some 38),none, .mkrows [.int .i64 0] 8 (.t 37)⟩,
 ⟨(some 7),none, .mv (.t 38)⟩]
def i21_r9:IR:=.seq (.reg i21_o9) (.keep [2,3,4,7] [1,2,3,6,9,18,38])
def i21_o10:List II:=[⟨(some 39),none, .mv (.t 4)⟩,
 ⟨(some 40),none, .len 0 (.t 39)⟩,
 ⟨(some 41),none, .mv (.k (.int .i64 0))⟩]
def i21_r10:IR:=.seq (.reg i21_o10) (.keep [2,3,7,39,40,41] [1,2,3,6,9,18,38])
def i21_o11:List II:=[⟨(some 42),none, .bin .lss (.t 41) (.t 40)⟩]
def i21_r11:IR:=.seq (.reg i21_o11) (.keep [2,3,7,39,40,41,42] [1,2,3,6,9,18,38])
def i21_o12:List II:=[⟨(some 43),none, .mv (.t 41)⟩,
 ⟨(some 44),none, .ia 5 (.t 39) (.t 41)⟩,
 ⟨(some 45),none, .ldn 5 (.t 44)⟩,
 ⟨(some 9),none, .alloc [.d (.str []), .d (.int .i64 0), .d (.int .i64 0), .d (.bool false), .d (.int .i64 0)]⟩,
 ⟨(some 8),none, .mv (.t 43)⟩,
 ⟨none,none, .st 5 (.t 9) (.t 45)⟩]
def i21_r12:IR:=.seq (.reg i21_o12) (.keep [2,3,7,8,9,39,40,41] [1,2,3,6,9,18,38])
def i21_o13:List II:=[⟨(some 46),none, .fa 1 (.t 3)⟩,
 ⟨(some 47),none, .ld1 (.t 46)⟩,
 ⟨(some 48),none, .mv (.t 8)⟩,
 ⟨(some 49),none, .fa 0 (.t 9)⟩,
 ⟨(some 50),none, .ldn 4 (.t 49)⟩,
 ⟨(some 51),none, .ia 4 (.t 47) (.t 48)⟩,
 ⟨none,none, .st 4 (.t 51) (.t 50)⟩]
def i21_r13:IR:=.seq (.reg i21_o13) (.keep [2,3,7,8,9,39,40,41] [1,2,3,6,9,18,38])
def i21_o14:List II:=[⟨(some 52),none, .mv (.t 7)⟩,
 ⟨(some 53),none, .fa 4 (.t 9)⟩,
 ⟨(some 54),none, .ld1 (.t 53)⟩,
 ⟨(some 55),none, .mv (.t 8)⟩,
 ⟨(some 56),none, .ia 1 (.t 52) (.t 54)⟩,
 ⟨none,none, .st 1 (.t 56) (.t 55)⟩]
def i21_r14:IR:=.seq (.reg i21_o14) (.keep [2,3,7,39,40,41] [1,2,3,6,9,18,38])
def i21_o15:List II:=[⟨(some 57),none, .bin .add (.t 41) (.k (.int .i64 1))⟩,
 ⟨(some 41),none, .mv (.t 57)⟩]
def i21_r15:IR:=.seq (.reg i21_o15) (.keep [2,3,7,39,40,41] [1,2,3,6,9,18,38])
def i21_l2:IR:=(.seq i21_r11
 (.seq (.cond (.t 42) .skip
 (.exit 2))
 (.seq (.block 3 (.seq i21_r12
 (.seq i21_r13
 i21_r14)))
 i21_r15)))
def i21_o16:List II:=[⟨(some 58),none, .fa 0 (.t 3)⟩,
 ⟨(some 59),none, .ld1 (.t 58)⟩,
 ⟨(some 60),none, .len 0 (.t 59)⟩,
 ⟨(some 61),none, .mv (.k (.int .i64 0))⟩]
def i21_r16:IR:=.seq (.reg i21_o16) (.keep [2,3,7,60,61] [1,2,3,6,9,18,38])
def i21_o17:List II:=[⟨(some 62),none, .bin .lss (.t 61) (.t 60)⟩]
def i21_r17:IR:=.seq (.reg i21_o17) (.keep [2,3,7,60,61,62] [1,2,3,6,9,18,38])
def i21_o18:List II:=[⟨(some 63),none, .mv (.t 61)⟩,
 ⟨(some 10),none, .mv (.t 63)⟩]
def i21_r18:IR:=.seq (.reg i21_o18) (.keep [2,3,7,10,60,61] [1,2,3,6,9,18,38])
def i21_o19:List II:=[⟨(some 64),none, .fa 0 (.t 3)⟩,
 ⟨(some 65),none, .ld1 (.t 64)⟩,
 ⟨(some 66),none, .mv (.t 10)⟩,
 ⟨(some 67),none, .ia 6 (.t 65) (.t 66)⟩,
 ⟨(some 68),none, .fa 5 (.t 67)⟩,
 ⟨(some 69),none, .ld1 (.t 68)⟩,
 ⟨(some 70),none, .len 0 (.t 69)⟩,
 ⟨(some 71),none, .mv (.k (.int .i64 0))⟩]
def i21_r19:IR:=.seq (.reg i21_o19) (.keep [2,3,7,10,60,61,70,71] [1,2,3,6,9,18,38])
def i21_o20:List II:=[⟨(some 72),none, .bin .lss (.t 71) (.t 70)⟩]
def i21_r20:IR:=.seq (.reg i21_o20) (.keep [2,3,7,10,60,61,70,71,72] [1,2,3,6,9,18,38])
def i21_o21:List II:=[⟨(some 73),none, .mv (.t 71)⟩,
 ⟨(some 11),none, .mv (.t 73)⟩]
def i21_r21:IR:=.seq (.reg i21_o21) (.keep [2,3,7,10,11,60,61,70,71] [1,2,3,6,9,18,38])
def i21_o22:List II:=[⟨(some 74),none, .fa 0 (.t 3)⟩,
 ⟨(some 75),none, .ld1 (.t 74)⟩,
 ⟨(some 76),none, .mv (.t 10)⟩,
 ⟨(some 77),none, .ia 6 (.t 75) (.t 76)⟩,
 ⟨(some 78),none, .fa 5 (.t 77)⟩,
 ⟨(some 79),none, .ld1 (.t 78)⟩,
 ⟨(some 80),none, .mv (.t 11)⟩,
 ⟨(some 81),none, .ia 4 (.t 79) (.t 80)⟩,
 ⟨(some 12),none, .mv (.t 81)⟩]
def i21_r22:IR:=.seq (.reg i21_o22) (.keep [2,3,7,10,12,60,61,70,71] [1,2,3,6,9,18,38])
def i21_o23:List II:=[⟨(some 82),none, .mv (.t 12)⟩,
 ⟨(some 83),none, .nck (.t 82)⟩,
 ⟨(some 84),none, .fa 2 (.t 83)⟩,
 ⟨(some 85),none, .ld1 (.t 84)⟩,
 ⟨(some 86),none, .bin .geq (.t 85) (.k (.int .i64 0))⟩,
 ⟨(some 87),none, .mv (.t 86)⟩,
 ⟨(some 88),(some (87,true)), .mv (.t 12)⟩,
 ⟨(some 89),(some (87,true)), .nck (.t 88)⟩,
 ⟨(some 90),(some (87,true)), .fa 2 (.t 89)⟩,
 ⟨(some 91),(some (87,true)), .ld1 (.t 90)⟩,
 ⟨(some 92),(some (87,true)), .mv (.t 7)⟩,
 ⟨(some 93),(some (87,true)), .len 0 (.t 92)⟩,
 ⟨(some 94),(some (87,true)), .bin .lss (.t 91) (.t 93)⟩,
 ⟨(some 95),none, .pick (.t 87) (.t 94) (.k (.bool false))⟩]
def i21_r23:IR:=.seq (.reg i21_o23) (.keep [2,3,7,10,12,60,61,70,71,95] [1,2,3,6,9,18,38])
def i21_o24:List II:=[⟨(some 96),none, .mv (.t 12)⟩,
 ⟨(some 97),none, .mv (.t 7)⟩,
 ⟨(some 98),none, .mv (.t 12)⟩,
 ⟨(some 99),none, .nck (.t 98)⟩,
 ⟨(some 100),none, .fa 2 (.t 99)⟩,
 ⟨(some 101),none, .ld1 (.t 100)⟩,
 ⟨(some 102),none, .ia 1 (.t 97) (.t 101)⟩,
 ⟨(some 103),none, .ld1 (.t 102)⟩,
 ⟨(some 104),none, .nck (.t 96)⟩,
 ⟨(some 105),none, .fa 2 (.t 104)⟩,
 ⟨none,none, .st 1 (.t 105) (.t 103)⟩]
def i21_r24:IR:=.seq (.reg i21_o24) (.keep [2,3,7,10,60,61,70,71] [1,2,3,6,9,18,38])
def i21_o25:List II:=[⟨(some 106),none, .bin .add (.t 71) (.k (.int .i64 1))⟩,
 ⟨(some 71),none, .mv (.t 106)⟩]
def i21_r25:IR:=.seq (.reg i21_o25) (.keep [2,3,7,10,60,61,70,71] [1,2,3,6,9,18,38])
def i21_l6:IR:=(.seq i21_r20
 (.seq (.cond (.t 72) .skip
 (.exit 6))
 (.seq (.block 7 (.seq i21_r21
 (.seq i21_r22
 (.seq i21_r23
 (.cond (.t 95) i21_r24
 .skip)))))
 i21_r25)))
def i21_o26:List II:=[⟨(some 107),none, .bin .add (.t 61) (.k (.int .i64 1))⟩,
 ⟨(some 61),none, .mv (.t 107)⟩]
def i21_r26:IR:=.seq (.reg i21_o26) (.keep [2,3,7,60,61] [1,2,3,6,9,18,38])
def i21_l4:IR:=(.seq i21_r17
 (.seq (.cond (.t 62) .skip
 (.exit 4))
 (.seq (.block 5 (.seq i21_r18
 (.seq i21_r19
 (.block 6 (.loop i21_l6)))))
 i21_r26)))
def i21_o27:List II:=[⟨(some 108),none, .ldn 2 (.t 3)⟩,
 ⟨none,none, .st 2 (.t 2) (.t 108)⟩]
def i21_r27:IR:=.seq (.reg i21_o27) (.keep [2] [1,2,3,6,9,18,38])
def i21:IFn:=⟨(.seq i21_r0
 (.seq i21_r1
 (.seq i21_r2
 (.seq (.seq i21_r3
 (.block 0 (.loop i21_l0)))
 (.seq i21_r8
 (.seq i21_r9
 (.seq (.seq i21_r10
 (.block 2 (.loop i21_l2)))
 (.seq (.seq i21_r16
 (.block 4 (.loop i21_l4)))
 (.seq (.seq (.frz 3) i21_r27)
 .ret))))))))),
 [.cell 2 2]⟩
def i22_o0:List II:=[⟨(some 2),none, .box 2 [] (.t 0)⟩,
 ⟨(some 3),none, .box 2 [] (.t 1)⟩,
 ⟨(some 4),none, .mv (.k (.bool false))⟩]
def i22_r0:IR:=.seq (.reg i22_o0) (.keep [2,3] [2,3])
def i22_o1:List II:=[⟨(some 5),none, .fa 0 (.t 2)⟩,
 ⟨(some 6),none, .ld1 (.t 5)⟩,
 ⟨(some 7),none, .fa 0 (.t 3)⟩,
 ⟨(some 8),none, .ld1 (.t 7)⟩,
 ⟨(some 9),none, .call 42 [(.t 6),(.t 8),(.fn 43)]⟩,
 ⟨(some 10),none, .mv (.t 9)⟩,
 ⟨(some 11),(some (10,true)), .fa 1 (.t 2)⟩,
 ⟨(some 12),(some (10,true)), .ld1 (.t 11)⟩,
 ⟨(some 13),(some (10,true)), .fa 1 (.t 3)⟩,
 ⟨(some 14),(some (10,true)), .ld1 (.t 13)⟩,
 ⟨(some 15),(some (10,true)), .call 25 [(.t 12),(.t 14)]⟩,
 ⟨(some 16),none, .pick (.t 10) (.t 15) (.k (.bool false))⟩,
 ⟨(some 4),none, .mv (.t 16)⟩]
def i22_r1:IR:=.seq (.reg i22_o1) (.keep [4] [2,3])
def i22:IFn:=⟨(.seq i22_r0
 (.seq i22_r1
 .ret)),
 [.tmp 4]⟩
def i23_o0:List II:=[⟨(some 1),none, .box 2 [] (.t 0)⟩,
 ⟨(some 2),none, .mv (.k (.int .i64 0))⟩]
def i23_r0:IR:=.seq (.reg i23_o0) (.keep [1] [1,5,8,19,43])
def i23_o1:List II:=[⟨(some 9),none, .fa 0 (.t 1)⟩,
 ⟨(some 10),none, .ld1 (.t 9)⟩,
 ⟨(some 11),none, .len 0 (.t 10)⟩,
 ⟨(some 12),none, .bin .gtr (.t 11) (.k (.int .i64 64))⟩,
 ⟨(some 13),none, .mv (.t 12)⟩,
 ⟨(some 14),(some (13,false)), .fa 1 (.t 1)⟩,
 ⟨(some 15),(some (13,false)), .ld1 (.t 14)⟩,
 ⟨(some 16),(some (13,false)), .len 0 (.t 15)⟩,
 ⟨(some 17),(some (13,false)), .bin .gtr (.t 16) (.k (.int .i64 4096))⟩,
 ⟨(some 18),none, .pick (.t 13) (.k (.bool true)) (.t 17)⟩]
def i23_r1:IR:=.seq (.reg i23_o1) (.keep [1,18] [1,5,8,19,43])
def i23_o2:List II:=[⟨(some 2),none, .mv (.k (.int .i64 140))⟩]
def i23_r2:IR:=.seq (.reg i23_o2) (.keep [2] [1,5,8,19,43])
def i23_o3:List II:=[⟨(some 19),none, .mkmap⟩,
 ⟨(some 3),none, .mv (.t 19)⟩]
def i23_r3:IR:=.seq (.reg i23_o3) (.keep [1,3] [1,5,8,19,43])
def i23_o4:List II:=[⟨(some 20),none, .fa 0 (.t 1)⟩,
 ⟨(some 21),none, .ld1 (.t 20)⟩,
 ⟨(some 22),none, .len 0 (.t 21)⟩,
 ⟨(some 23),none, .mv (.k (.int .i64 0))⟩]
def i23_r4:IR:=.seq (.reg i23_o4) (.keep [1,3,21,22,23] [1,5,8,19,43])
def i23_o5:List II:=[⟨(some 24),none, .bin .lss (.t 23) (.t 22)⟩]
def i23_r5:IR:=.seq (.reg i23_o5) (.keep [1,3,21,22,23,24] [1,5,8,19,43])
def i23_o6:List II:=[⟨(some 25),none, .ia 6 (.t 21) (.t 23)⟩,
 ⟨(some 26),none, .ldn 6 (.t 25)⟩,
 ⟨(some 5),none, .alloc [.d (.str []), .d (.int .i64 0), .d (.int .i64 0), .d (.int .i64 0), .d (.sl false []), .d (.sl false [])]⟩,
 ⟨none,none, .st 6 (.t 5) (.t 26)⟩]
def i23_r6:IR:=.seq (.reg i23_o6) (.keep [1,3,5,21,22,23] [1,5,8,19,43])
def i23_o7:List II:=[⟨(some 27),none, .ldn 6 (.t 5)⟩,
 ⟨(some 28),none, .fa 1 (.t 1)⟩,
 ⟨(some 29),none, .ld1 (.t 28)⟩,
 ⟨(some 30),none, .len 0 (.t 29)⟩,
 ⟨(some 31),none, .call 44 [(.t 27),(.t 30)]⟩,
 ⟨(some 32),none, .un .not (.t 31)⟩,
 ⟨(some 33),none, .mv (.t 32)⟩,
 ⟨(some 34),(some (33,false)), .mv (.t 3)⟩,
 ⟨(some 35),(some (33,false)), .fa 0 (.t 5)⟩,
 ⟨(some 36),(some (33,false)), .ld1 (.t 35)⟩,
 ⟨(some 37),(some (33,false)), .look false [2] (.bool false) false (.t 34) (.t 36)⟩,
 ⟨(some 38),none, .pick (.t 33) (.k (.bool true)) (.t 37)⟩]
def i23_r7:IR:=.seq (.reg i23_o7) (.keep [1,3,5,21,22,23,38] [1,5,8,19,43])
def i23_o8:List II:=[⟨(some 2),none, .mv (.k (.int .i64 140))⟩]
def i23_r8:IR:=.seq (.reg i23_o8) (.keep [2] [1,5,8,19,43])
def i23_o9:List II:=[⟨(some 39),none, .mv (.t 3)⟩,
 ⟨(some 40),none, .fa 0 (.t 5)⟩,
 ⟨(some 41),none, .ld1 (.t 40)⟩,
 ⟨none,none, .upd false [2] (.t 39) (.t 41) (.k (.bool true))⟩]
def i23_r9:IR:=.seq (.reg i23_o9) (.keep [1,3,21,22,23] [1,5,8,19,43])
def i23_o10:List II:=[⟨(some 42),none, .bin .add (.t 23) (.k (.int .i64 1))⟩,
 ⟨(some 23),none, .mv (.t 42)⟩]
def i23_r10:IR:=.seq (.reg i23_o10) (.keep [1,3,21,22,23] [1,5,8,19,43])
def i23_l0:IR:=(.seq i23_r5
 (.seq (.cond (.t 24) .skip
 (.exit 0))
 (.seq (.block 1 (.seq i23_r6
 (.seq (.seq i23_r7
 (.cond (.t 38) (.seq i23_r8
 .ret)
 .skip))
 i23_r9)))
 i23_r10)))
def i23_o11:List II:=[⟨(some 43),none, .mkmap⟩,
 ⟨(some 6),none, .mv (.t 43)⟩]
def i23_r11:IR:=.seq (.reg i23_o11) (.keep [1,6] [1,5,8,19,43])
def i23_o12:List II:=[⟨(some 44),none, .fa 1 (.t 1)⟩,
 ⟨(some 45),none, .ld1 (.t 44)⟩,
 ⟨(some 46),none, .len 0 (.t 45)⟩,
 ⟨(some 47),none, .mv (.k (.int .i64 0))⟩]
def i23_r12:IR:=.seq (.reg i23_o12) (.keep [1,6,45,46,47] [1,5,8,19,43])
def i23_o13:List II:=[⟨(some 48),none, .bin .lss (.t 47) (.t 46)⟩]
def i23_r13:IR:=.seq (.reg i23_o13) (.keep [1,6,45,46,47,48] [1,5,8,19,43])
def i23_o14:List II:=[⟨(some 49),none, .ia 4 (.t 45) (.t 47)⟩,
 ⟨(some 50),none, .ldn 4 (.t 49)⟩,
 ⟨(some 8),none, .alloc [.d (.str []), .d (.int .i64 0), .d (.int .i64 0), .d (.bool false)]⟩,
 ⟨none,none, .st 4 (.t 8) (.t 50)⟩]
def i23_r14:IR:=.seq (.reg i23_o14) (.keep [1,6,8,45,46,47] [1,5,8,19,43])
def i23_o15:List II:=[⟨(some 51),none, .ldn 4 (.t 8)⟩,
 ⟨(some 52),none, .fa 0 (.t 1)⟩,
 ⟨(some 53),none, .ld1 (.t 52)⟩,
 ⟨(some 54),none, .call 45 [(.t 51),(.t 53)]⟩,
 ⟨(some 55),none, .un .not (.t 54)⟩,
 ⟨(some 56),none, .mv (.t 55)⟩,
 ⟨(some 57),(some (56,false)), .mv (.t 6)⟩,
 ⟨(some 58),(some (56,false)), .fa 0 (.t 8)⟩,
 ⟨(some 59),(some (56,false)), .ld1 (.t 58)⟩,
 ⟨(some 60),(some (56,false)), .look false [2] (.bool false) false (.t 57) (.t 59)⟩,
 ⟨(some 61),none, .pick (.t 56) (.k (.bool true)) (.t 60)⟩]
def i23_r15:IR:=.seq (.reg i23_o15) (.keep [1,6,8,45,46,47,61] [1,5,8,19,43])
def i23_o16:List II:=[⟨(some 2),none, .mv (.k (.int .i64 140))⟩]
def i23_r16:IR:=.seq (.reg i23_o16) (.keep [2] [1,5,8,19,43])
def i23_o17:List II:=[⟨(some 62),none, .mv (.t 6)⟩,
 ⟨(some 63),none, .fa 0 (.t 8)⟩,
 ⟨(some 64),none, .ld1 (.t 63)⟩,
 ⟨none,none, .upd false [2] (.t 62) (.t 64) (.k (.bool true))⟩]
def i23_r17:IR:=.seq (.reg i23_o17) (.keep [1,6,45,46,47] [1,5,8,19,43])
def i23_o18:List II:=[⟨(some 65),none, .bin .add (.t 47) (.k (.int .i64 1))⟩,
 ⟨(some 47),none, .mv (.t 65)⟩]
def i23_r18:IR:=.seq (.reg i23_o18) (.keep [1,6,45,46,47] [1,5,8,19,43])
def i23_l2:IR:=(.seq i23_r13
 (.seq (.cond (.t 48) .skip
 (.exit 2))
 (.seq (.block 3 (.seq i23_r14
 (.seq (.seq i23_r15
 (.cond (.t 61) (.seq i23_r16
 .ret)
 .skip))
 i23_r17)))
 i23_r18)))
def i23_o19:List II:=[⟨(some 66),none, .fa 1 (.t 1)⟩,
 ⟨(some 67),none, .ld1 (.t 66)⟩,
 ⟨(some 68),none, .call 46 [(.t 67),(.fn 41)]⟩,
 ⟨(some 69),none, .un .not (.t 68)⟩]
def i23_r19:IR:=.seq (.reg i23_o19) (.keep [69] [1,5,8,19,43])
def i23_o20:List II:=[⟨(some 2),none, .mv (.k (.int .i64 140))⟩]
def i23_r20:IR:=.seq (.reg i23_o20) (.keep [2] [1,5,8,19,43])
def i23_o21:List II:=[⟨(some 2),none, .mv (.k (.int .i64 0))⟩]
def i23_r21:IR:=.seq (.reg i23_o21) (.keep [2] [1,5,8,19,43])
def i23:IFn:=⟨(.seq i23_r0
 (.seq (.seq i23_r1
 (.cond (.t 18) (.seq i23_r2
 .ret)
 .skip))
 (.seq i23_r3
 (.seq (.seq i23_r4
 (.block 0 (.loop i23_l0)))
 (.seq i23_r11
 (.seq (.seq i23_r12
 (.block 2 (.loop i23_l2)))
 (.seq (.seq i23_r19
 (.cond (.t 69) (.seq i23_r20
 .ret)
 .skip))
 (.seq i23_r21
 .ret)))))))),
 [.tmp 2]⟩
def i24_o0:List II:=[⟨(some 2),none, .mv (.k (.sl false []))⟩]
def i24_r0:IR:=.seq (.reg i24_o0) (.keep [0] [7])
def i24_o1:List II:=[⟨(some 3),none, .mv (.t 0)⟩,
 ⟨(some 4),none, .isnil 0 false (.t 3)⟩]
def i24_r1:IR:=.seq (.reg i24_o1) (.keep [0,4] [7])
def i24_o2:List II:=[⟨(some 2),none, .mv (.k (.sl false []))⟩]
def i24_r2:IR:=.seq (.reg i24_o2) (.keep [2] [7])
def i24_o3:List II:=[⟨(some 5),none, .lit [.str [], .int .i64 0, .int .i64 0, .bool false] 0 []⟩,
 ⟨(some 6),none, .mv (.t 0)⟩,
 ⟨(some 7),none, .appz [] 4 40 (.t 5) (.t 6)⟩,
 ⟨(some 2),none, .mv (.t 7)⟩]
def i24_r3:IR:=.seq (.reg i24_o3) (.keep [2] [7])
def i24:IFn:=⟨(.seq i24_r0
 (.seq (.seq i24_r1
 (.cond (.t 4) (.seq i24_r2
 .ret)
 .skip))
 (.seq i24_r3
 .ret))),
 [.owns 2 56]⟩
def i25_o0:List II:=[⟨(some 4),none, .mv (.k (.bool false))⟩]
def i25_r0:IR:=.seq (.reg i25_o0) (.keep [0,1] [])
def i25_o1:List II:=[⟨(some 6),none, .mv (.t 0)⟩,
 ⟨(some 7),none, .len 0 (.t 6)⟩,
 ⟨(some 8),none, .mv (.t 1)⟩,
 ⟨(some 9),none, .len 0 (.t 8)⟩,
 ⟨(some 10),none, .bin .neq (.t 7) (.t 9)⟩]
def i25_r1:IR:=.seq (.reg i25_o1) (.keep [0,1,10] [])
def i25_o2:List II:=[⟨(some 4),none, .mv (.k (.bool false))⟩]
def i25_r2:IR:=.seq (.reg i25_o2) (.keep [4] [])
def i25_o3:List II:=[⟨(some 11),none, .mv (.t 0)⟩,
 ⟨(some 12),none, .len 0 (.t 11)⟩,
 ⟨(some 13),none, .mv (.k (.int .i64 0))⟩]
def i25_r3:IR:=.seq (.reg i25_o3) (.keep [0,1,12,13] [])
def i25_o4:List II:=[⟨(some 14),none, .bin .lss (.t 13) (.t 12)⟩]
def i25_r4:IR:=.seq (.reg i25_o4) (.keep [0,1,12,13,14] [])
def i25_o5:List II:=[⟨(some 15),none, .mv (.t 13)⟩,
 ⟨(some 5),none, .mv (.t 15)⟩]
def i25_r5:IR:=.seq (.reg i25_o5) (.keep [0,1,5,12,13] [])
def i25_o6:List II:=[⟨(some 16),none, .mv (.t 0)⟩,
 ⟨(some 17),none, .mv (.t 5)⟩,
 ⟨(some 18),none, .ia 4 (.t 16) (.t 17)⟩,
 ⟨(some 19),none, .ldn 4 (.t 18)⟩,
 ⟨(some 20),none, .mv (.t 1)⟩,
 ⟨(some 21),none, .mv (.t 5)⟩,
 ⟨(some 22),none, .ia 4 (.t 20) (.t 21)⟩,
 ⟨(some 23),none, .ldn 4 (.t 22)⟩,
 ⟨(some 24),none, .eqa true [2,1,1,0] (.t 19) (.t 23)⟩]
def i25_r6:IR:=.seq (.drw 8 [[],[],[],[],[],[],[],[]] i25_o6) (.keep [0,1,12,13,24] [])
def i25_o7:List II:=[⟨(some 4),none, .mv (.k (.bool false))⟩]
def i25_r7:IR:=.seq (.reg i25_o7) (.keep [4] [])
def i25_o8:List II:=[⟨(some 25),none, .bin .add (.t 13) (.k (.int .i64 1))⟩,
 ⟨(some 13),none, .mv (.t 25)⟩]
def i25_r8:IR:=.seq (.reg i25_o8) (.keep [0,1,12,13] [])
def i25_l0:IR:=(.seq i25_r4
 (.seq (.cond (.t 14) .skip
 (.exit 0))
 (.seq (.block 1 (.seq i25_r5
 (.seq i25_r6
 (.cond (.t 24) (.seq i25_r7
 .ret)
 .skip))))
 i25_r8)))
def i25_o9:List II:=[⟨(some 4),none, .mv (.k (.bool true))⟩]
def i25_r9:IR:=.seq (.reg i25_o9) (.keep [4] [])
def i25:IFn:=⟨(.seq i25_r0
 (.seq (.seq i25_r1
 (.cond (.t 10) (.seq i25_r2
 .ret)
 .skip))
 (.seq (.seq i25_r3
 (.block 0 (.loop i25_l0)))
 (.seq i25_r9
 .ret)))),
 [.tmp 4]⟩
def i30_o0:List II:=[⟨(some 4),none, .mv (.k (.bool false))⟩]
def i30_r0:IR:=.seq (.reg i30_o0) (.keep [0,1] [])
def i30_o1:List II:=[⟨(some 5),none, .mv (.t 0)⟩,
 ⟨(some 6),none, .mv (.t 1)⟩,
 ⟨(some 7),none, .call 57 [(.t 5),(.t 6)]⟩,
 ⟨(some 4),none, .mv (.t 7)⟩]
def i30_r1:IR:=.seq (.reg i30_o1) (.keep [4] [])
def i30:IFn:=⟨(.seq i30_r0
 (.seq i30_r1
 .ret)),
 [.tmp 4]⟩
def i33_o0:List II:=[⟨(some 2),none, .mv (.k (.sl false []))⟩]
def i33_r0:IR:=.seq (.reg i33_o0) (.keep [0] [7])
def i33_o1:List II:=[⟨(some 3),none, .mv (.t 0)⟩,
 ⟨(some 4),none, .isnil 0 false (.t 3)⟩]
def i33_r1:IR:=.seq (.reg i33_o1) (.keep [0,4] [7])
def i33_o2:List II:=[⟨(some 2),none, .mv (.k (.sl false []))⟩]
def i33_r2:IR:=.seq (.reg i33_o2) (.keep [2] [7])
def i33_o3:List II:=[⟨(some 5),none, .lit [.int .u8 0] 0 []⟩,
 ⟨(some 6),none, .mv (.t 0)⟩,
 ⟨(some 7),none, .app true [] 1 1 (.t 5) (.t 6)⟩,
 ⟨(some 2),none, .mv (.t 7)⟩]
def i33_r3:IR:=.seq (.reg i33_o3) (.keep [2] [7])
def i33:IFn:=⟨(.seq i33_r0
 (.seq (.seq i33_r1
 (.cond (.t 4) (.seq i33_r2
 .ret)
 .skip))
 (.seq i33_r3
 .ret))),
 [.tmp 2]⟩
def i35_o0:List II:=[⟨(some 5),none, .box 2 [] (.t 2)⟩,
 ⟨(some 6),none, .alloc [.d (.int .i64 0), .d (.int .i64 0), .d (.int .i64 0), .d (.int .i64 0), .d (.int .i64 0), .d (.int .i64 0), .d (.int .i64 0)]⟩,
 ⟨(some 7),none, .mv (.k (.bool false))⟩]
def i35_r0:IR:=.seq (.reg i35_o0) (.keep [0,1,5,6] [5,6,11,12])
def i35_o1:List II:=[⟨(some 14),none, .ldn 2 (.t 5)⟩,
 ⟨(some 15),none, .call 11 [(.t 14)]⟩,
 ⟨(some 13),none, .mv (.t 15)⟩,
 ⟨(some 16),none, .ext (.t 13) 0⟩,
 ⟨(some 17),none, .ext (.t 13) 1⟩,
 ⟨(some 18),none, .ext (.t 13) 2⟩,
 ⟨(some 8),none, .mv (.t 16)⟩,
 ⟨(some 9),none, .mv (.t 17)⟩,
 ⟨(some 10),none, .mv (.t 18)⟩]
def i35_r1:IR:=.seq (.reg i35_o1) (.keep [0,1,5,6,8,9,10] [5,6,11,12])
def i35_o2:List II:=[⟨(some 19),none, .mv (.t 10)⟩,
 ⟨(some 20),none, .un .not (.t 19)⟩]
def i35_r2:IR:=.seq (.reg i35_o2) (.keep [0,1,5,6,8,9,20] [5,6,11,12])
def i35_o3:List II:=[⟨(some 21),none, .build [.int .i64 0, .int .i64 0, .int .i64 0, .int .i64 0, .int .i64 0, .int .i64 0, .int .i64 0] []⟩,
 ⟨none,none, .st 7 (.t 6) (.t 21)⟩,
 ⟨(some 7),none, .mv (.k (.bool false))⟩]
def i35_r3:IR:=.seq (.reg i35_o3) (.keep [6,7] [5,6,11,12])
def i35_o4:List II:=[⟨(some 22),none, .fa 1 (.t 5)⟩,
 ⟨(some 23),none, .ld1 (.t 22)⟩,
 ⟨(some 24),none, .fa 1 (.t 5)⟩,
 ⟨(some 25),none, .ld1 (.t 24)⟩,
 ⟨(some 26),none, .len 0 (.t 25)⟩,
 ⟨(some 27),none, .bin .sub (.t 26) (.k (.int .i64 1))⟩,
 ⟨(some 28),none, .ia 15 (.t 23) (.t 27)⟩,
 ⟨(some 29),none, .fa 10 (.t 28)⟩,
 ⟨(some 30),none, .ldn 3 (.t 29)⟩,
 ⟨(some 11),none, .alloc [.d (.int .i64 0), .d (.str []), .d (.str [])]⟩,
 ⟨none,none, .st 3 (.t 11) (.t 30)⟩]
def i35_r4:IR:=.seq (.reg i35_o4) (.keep [0,1,6,8,9,11] [5,6,11,12])
def i35_o5:List II:=[⟨(some 32),none, .mv (.t 0)⟩,
 ⟨(some 33),none, .fa 1 (.t 11)⟩,
 ⟨(some 34),none, .ld1 (.t 33)⟩,
 ⟨(some 35),none, .look false [2] (.agg [.str [], .int .i64 0, .int .i64 0, .int .i64 0, .int .i64 0, .bool false, .int .i64 0, .str [], .str []]) true (.t 32) (.t 34)⟩,
 ⟨(some 31),none, .mv (.t 35)⟩,
 ⟨(some 36),none, .ext (.t 31) 0⟩,
 ⟨(some 37),none, .ext (.t 31) 1⟩,
 ⟨(some 12),none, .alloc [.d (.str []), .d (.int .i64 0), .d (.int .i64 0), .d (.int .i64 0), .d (.int .i64 0), .d (.bool false), .d (.int .i64 0), .d (.str []), .d (.str [])]⟩,
 ⟨none,none, .st 9 (.t 12) (.t 36)⟩,
 ⟨(some 10),none, .mv (.t 37)⟩]
def i35_r5:IR:=.seq (.reg i35_o5) (.keep [1,6,8,9,10,11,12] [5,6,11,12])
def i35_o6:List II:=[⟨(some 38),none, .mv (.t 10)⟩,
 ⟨(some 39),none, .un .not (.t 38)⟩,
 ⟨(some 40),none, .mv (.t 39)⟩,
 ⟨(some 41),(some (40,false)), .fa 5 (.t 12)⟩,
 ⟨(some 42),(some (40,false)), .ld1 (.t 41)⟩,
 ⟨(some 43),none, .pick (.t 40) (.k (.bool true)) (.t 42)⟩,
 ⟨(some 44),none, .mv (.t 43)⟩,
 ⟨(some 45),(some (44,false)), .fa 3 (.t 12)⟩,
 ⟨(some 46),(some (44,false)), .ld1 (.t 45)⟩,
 ⟨(some 47),(some (44,false)), .mv (.t 1)⟩,
 ⟨(some 48),(some (44,false)), .bin .neq (.t 46) (.t 47)⟩,
 ⟨(some 49),none, .pick (.t 44) (.k (.bool true)) (.t 48)⟩]
def i35_r6:IR:=.seq (.reg i35_o6) (.keep [6,8,9,11,12,49] [5,6,11,12])
def i35_o7:List II:=[⟨(some 50),none, .build [.int .i64 0, .int .i64 0, .int .i64 0, .int .i64 0, .int .i64 0, .int .i64 0, .int .i64 0] []⟩,
 ⟨none,none, .st 7 (.t 6) (.t 50)⟩,
 ⟨(some 7),none, .mv (.k (.bool false))⟩]
def i35_r7:IR:=.seq (.reg i35_o7) (.keep [6,7] [5,6,11,12])
def i35_o8:List II:=[⟨(some 51),none, .fa 4 (.t 12)⟩,
 ⟨(some 52),none, .ld1 (.t 51)⟩,
 ⟨(some 53),none, .fa 0 (.t 11)⟩,
 ⟨(some 54),none, .ld1 (.t 53)⟩,
 ⟨(some 55),none, .mv (.t 8)⟩,
 ⟨(some 56),none, .mv (.t 9)⟩,
 ⟨(some 57),none, .build [.int .i64 0, .int .i64 0, .int .i64 0, .int .i64 0, .int .i64 0, .int .i64 0, .int .i64 0] [(0,1,(.k (.int .i64 3))),(3,1,(.t 52)),(4,1,(.t 54)),(5,1,(.t 55)),(6,1,(.t 56))]⟩,
 ⟨none,none, .st 7 (.t 6) (.t 57)⟩,
 ⟨(some 7),none, .mv (.k (.bool true))⟩]
def i35_r8:IR:=.seq (.reg i35_o8) (.keep [6,7] [5,6,11,12])
def i35:IFn:=⟨(.seq i35_r0
 (.seq i35_r1
 (.seq (.seq i35_r2
 (.cond (.t 20) (.seq i35_r3
 .ret)
 .skip))
 (.seq i35_r4
 (.seq i35_r5
 (.seq (.seq i35_r6
 (.cond (.t 49) (.seq i35_r7
 .ret)
 .skip))
 (.seq i35_r8
 .ret))))))),
 [.cell 6 7, .tmp 7]⟩
def i36_o0:List II:=[⟨(some 2),none, .mv (.k (.int .i64 0))⟩]
def i36_r0:IR:=.seq (.reg i36_o0) (.keep [0] [4])
def i36_o1:List II:=[⟨(some 5),none, .build [.str [], .int .i64 0] [(0,1,(.k (.str [46,116,101,120,116]))),(1,1,(.k (.int .i64 1)))]⟩,
 ⟨(some 6),none, .build [.str [], .int .i64 0] [(0,1,(.k (.str [46,114,111,100,97,116,97]))),(1,1,(.k (.int .i64 3)))]⟩,
 ⟨(some 7),none, .build [.str [], .int .i64 0] [(0,1,(.k (.str [46,98,115,115]))),(1,1,(.k (.int .i64 4)))]⟩,
 ⟨(some 8),none, .lit [.str [], .int .i64 0] 3 [(0,(.t 5)),(1,(.t 6)),(2,(.t 7))]⟩,
 ⟨(some 9),none, .len 0 (.t 8)⟩,
 ⟨(some 10),none, .mv (.k (.int .i64 0))⟩]
def i36_r1:IR:=.seq (.reg i36_o1) (.keep [0,8,9,10] [4])
def i36_o2:List II:=[⟨(some 11),none, .bin .lss (.t 10) (.t 9)⟩]
def i36_r2:IR:=.seq (.reg i36_o2) (.keep [0,8,9,10,11] [4])
def i36_o3:List II:=[⟨(some 12),none, .ia 2 (.t 8) (.t 10)⟩,
 ⟨(some 13),none, .ldn 2 (.t 12)⟩,
 ⟨(some 4),none, .alloc [.d (.str []), .d (.int .i64 0)]⟩,
 ⟨none,none, .st 2 (.t 4) (.t 13)⟩]
def i36_r3:IR:=.seq (.reg i36_o3) (.keep [0,4,8,9,10] [4])
def i36_o4:List II:=[⟨(some 14),none, .mv (.t 0)⟩,
 ⟨(some 15),none, .fa 0 (.t 4)⟩,
 ⟨(some 16),none, .ld1 (.t 15)⟩,
 ⟨(some 17),none, .bin .eql (.t 14) (.t 16)⟩,
 ⟨(some 18),none, .mv (.t 17)⟩,
 ⟨(some 19),(some (18,false)), .mv (.t 0)⟩,
 ⟨(some 20),(some (18,false)), .fa 0 (.t 4)⟩,
 ⟨(some 21),(some (18,false)), .ld1 (.t 20)⟩,
 ⟨(some 22),(some (18,false)), .bin .add (.t 21) (.k (.str [46]))⟩,
 ⟨(some 23),(some (18,false)), .call 30 [(.t 19),(.t 22)]⟩,
 ⟨(some 24),none, .pick (.t 18) (.k (.bool true)) (.t 23)⟩]
def i36_r4:IR:=.seq (.reg i36_o4) (.keep [0,4,8,9,10,24] [4])
def i36_o5:List II:=[⟨(some 25),none, .fa 1 (.t 4)⟩,
 ⟨(some 26),none, .ld1 (.t 25)⟩,
 ⟨(some 2),none, .mv (.t 26)⟩]
def i36_r5:IR:=.seq (.reg i36_o5) (.keep [2] [4])
def i36_o6:List II:=[⟨(some 27),none, .bin .add (.t 10) (.k (.int .i64 1))⟩,
 ⟨(some 10),none, .mv (.t 27)⟩]
def i36_r6:IR:=.seq (.reg i36_o6) (.keep [0,8,9,10] [4])
def i36_l0:IR:=(.seq i36_r2
 (.seq (.cond (.t 11) .skip
 (.exit 0))
 (.seq (.block 1 (.seq i36_r3
 (.seq i36_r4
 (.cond (.t 24) (.seq i36_r5
 .ret)
 .skip))))
 i36_r6)))
def i36_o7:List II:=[⟨(some 2),none, .mv (.k (.int .i64 2))⟩]
def i36_r7:IR:=.seq (.reg i36_o7) (.keep [2] [4])
def i36:IFn:=⟨(.seq i36_r0
 (.seq (.seq i36_r1
 (.block 0 (.loop i36_l0)))
 (.seq i36_r7
 .ret))),
 [.tmp 2]⟩
def i37_o0:List II:=[⟨(some 2),none, .mv (.k (.int .i64 0))⟩]
def i37_r0:IR:=.seq (.reg i37_o0) (.keep [0] [])
def i37_o1:List II:=[⟨(some 3),none, .mv (.t 0)⟩]
def i37_r1:IR:=.seq (.reg i37_o1) (.keep [3] [])
def i37_o2:List II:=[⟨(some 5),none, .bin .eql (.t 3) (.k (.int .i64 257))⟩,
 ⟨(some 4),none, .mv (.t 5)⟩]
def i37_r2:IR:=.seq (.reg i37_o2) (.keep [3,4] [])
def i37_o3:List II:=[⟨(some 7),none, .bin .eql (.t 3) (.k (.int .i64 260))⟩,
 ⟨(some 6),none, .mv (.t 7)⟩]
def i37_r3:IR:=.seq (.reg i37_o3) (.keep [3,6] [])
def i37_o4:List II:=[⟨(some 9),none, .bin .eql (.t 3) (.k (.int .i64 259))⟩,
 ⟨(some 8),none, .mv (.t 9)⟩]
def i37_r4:IR:=.seq (.reg i37_o4) (.keep [3,8] [])
def i37_o5:List II:=[⟨(some 11),none, .bin .eql (.t 3) (.k (.int .i64 262))⟩,
 ⟨(some 10),none, .mv (.t 11)⟩]
def i37_r5:IR:=.seq (.reg i37_o5) (.keep [3,10] [])
def i37_o6:List II:=[⟨(some 13),none, .bin .eql (.t 3) (.k (.int .i64 258))⟩,
 ⟨(some 12),none, .mv (.t 13)⟩]
def i37_r6:IR:=.seq (.reg i37_o6) (.keep [3,12] [])
def i37_o7:List II:=[⟨(some 14),none, .bin .eql (.t 3) (.k (.int .i64 261))⟩,
 ⟨(some 12),none, .mv (.t 14)⟩]
def i37_r7:IR:=.seq (.reg i37_o7) (.keep [3,12] [])
def i37_o8:List II:=[⟨(some 15),none, .bin .eql (.t 3) (.k (.int .i64 273))⟩,
 ⟨(some 12),none, .mv (.t 15)⟩]
def i37_r8:IR:=.seq (.reg i37_o8) (.keep [3,12] [])
def i37_o9:List II:=[⟨(some 16),none, .bin .eql (.t 3) (.k (.int .i64 274))⟩,
 ⟨(some 12),none, .mv (.t 16)⟩]
def i37_r9:IR:=.seq (.reg i37_o9) (.keep [3,12] [])
def i37_o10:List II:=[⟨(some 17),none, .bin .eql (.t 3) (.k (.int .i64 275))⟩,
 ⟨(some 12),none, .mv (.t 17)⟩]
def i37_r10:IR:=.seq (.reg i37_o10) (.keep [3,12] [])
def i37_o11:List II:=[⟨(some 18),none, .bin .eql (.t 3) (.k (.int .i64 277))⟩,
 ⟨(some 12),none, .mv (.t 18)⟩]
def i37_r11:IR:=.seq (.reg i37_o11) (.keep [3,12] [])
def i37_o12:List II:=[⟨(some 19),none, .bin .eql (.t 3) (.k (.int .i64 278))⟩,
 ⟨(some 12),none, .mv (.t 19)⟩]
def i37_r12:IR:=.seq (.reg i37_o12) (.keep [3,12] [])
def i37_o13:List II:=[⟨(some 21),none, .bin .eql (.t 3) (.k (.int .i64 279))⟩,
 ⟨(some 20),none, .mv (.t 21)⟩]
def i37_r13:IR:=.seq (.reg i37_o13) (.keep [3,20] [])
def i37_o14:List II:=[⟨(some 22),none, .bin .eql (.t 3) (.k (.int .i64 280))⟩,
 ⟨(some 20),none, .mv (.t 22)⟩]
def i37_r14:IR:=.seq (.reg i37_o14) (.keep [3,20] [])
def i37_o15:List II:=[⟨(some 23),none, .bin .eql (.t 3) (.k (.int .i64 282))⟩,
 ⟨(some 20),none, .mv (.t 23)⟩]
def i37_r15:IR:=.seq (.reg i37_o15) (.keep [3,20] [])
def i37_o16:List II:=[⟨(some 24),none, .bin .eql (.t 3) (.k (.int .i64 283))⟩,
 ⟨(some 20),none, .mv (.t 24)⟩]
def i37_r16:IR:=.seq (.reg i37_o16) (.keep [3,20] [])
def i37_o17:List II:=[⟨(some 25),none, .bin .eql (.t 3) (.k (.int .i64 284))⟩,
 ⟨(some 20),none, .mv (.t 25)⟩]
def i37_r17:IR:=.seq (.reg i37_o17) (.keep [3,20] [])
def i37_o18:List II:=[⟨(some 26),none, .bin .eql (.t 3) (.k (.int .i64 285))⟩,
 ⟨(some 20),none, .mv (.t 26)⟩]
def i37_r18:IR:=.seq (.reg i37_o18) (.keep [3,20] [])
def i37_o19:List II:=[⟨(some 27),none, .bin .eql (.t 3) (.k (.int .i64 286))⟩,
 ⟨(some 20),none, .mv (.t 27)⟩]
def i37_r19:IR:=.seq (.reg i37_o19) (.keep [20] [])
def i37_o20:List II:=[⟨(some 2),none, .mv (.k (.int .i64 8))⟩]
def i37_r20:IR:=.seq (.reg i37_o20) (.keep [2] [])
def i37_o21:List II:=[⟨(some 2),none, .mv (.k (.int .i64 2))⟩]
def i37_r21:IR:=.seq (.reg i37_o21) (.keep [2] [])
def i37_o22:List II:=[⟨(some 2),none, .mv (.k (.int .i64 4))⟩]
def i37_r22:IR:=.seq (.reg i37_o22) (.keep [2] [])
def i37_o23:List II:=[⟨(some 2),none, .mv (.k (.int .i64 0))⟩]
def i37_r23:IR:=.seq (.reg i37_o23) (.keep [2] [])
def i37:IFn:=⟨(.seq i37_r0
 (.seq (.seq i37_r1
 (.block 0 (.seq (.block 6 (.block 5 (.seq (.block 4 (.block 3 (.seq (.block 2 (.block 1 (.seq (.seq (.seq i37_r2
 (.cond (.t 4) (.exit 1)
 .skip))
 (.seq (.seq i37_r3
 (.cond (.t 6) (.exit 2)
 .skip))
 (.seq (.seq i37_r4
 (.cond (.t 8) (.exit 3)
 .skip))
 (.seq (.seq i37_r5
 (.cond (.t 10) (.exit 4)
 .skip))
 (.seq (.seq (.seq i37_r6
 (.cond (.t 12) .skip
 (.seq i37_r7
 (.cond (.t 12) .skip
 (.seq i37_r8
 (.cond (.t 12) .skip
 (.seq i37_r9
 (.cond (.t 12) .skip
 (.seq i37_r10
 (.cond (.t 12) .skip
 (.seq i37_r11
 (.cond (.t 12) .skip
 i37_r12))))))))))))
 (.cond (.t 12) (.exit 5)
 .skip))
 (.seq (.seq i37_r13
 (.cond (.t 20) .skip
 (.seq i37_r14
 (.cond (.t 20) .skip
 (.seq i37_r15
 (.cond (.t 20) .skip
 (.seq i37_r16
 (.cond (.t 20) .skip
 (.seq i37_r17
 (.cond (.t 20) .skip
 (.seq i37_r18
 (.cond (.t 20) .skip
 i37_r19))))))))))))
 (.cond (.t 20) (.exit 6)
 .skip)))))))
 (.exit 0))))
 (.seq (.seq i37_r20
 .ret)
 (.exit 0)))))
 (.seq (.seq i37_r21
 .ret)
 (.exit 0)))))
 (.seq (.seq i37_r22
 .ret)
 (.exit 0)))))
 (.seq i37_r23
 .ret))),
 [.tmp 2]⟩
def i38_o0:List II:=[⟨(some 1),none, .box 2 [] (.t 0)⟩,
 ⟨(some 2),none, .alloc [.d (.sl false []), .d (.sl false [])]⟩]
def i38_r0:IR:=.seq (.reg i38_o0) (.keep [1,2] [1,2,3,9,13])
def i38_o1:List II:=[⟨(some 6),none, .fa 0 (.t 1)⟩,
 ⟨(some 7),none, .ld1 (.t 6)⟩,
 ⟨(some 8),none, .len 0 (.t 7)⟩,
 ⟨(some 9),none, .mkrows [.str [], .int .i64 0, .int .i64 0, .int .i64 0, .sl false [], .sl false []] 88 (.t 8)⟩,
 ⟨(some 10),none, .fa 1 (.t 1)⟩,
 ⟨(some 11),none, .ld1 (.t 10)⟩,
 ⟨(some 12),none, .len 0 (.t 11)⟩,
 ⟨(some 13),none, .mkrows [.str [], .int .i64 0, .int .i64 0, .bool false] 40 (.t 12)⟩,
 ⟨(some 14),none, .build [.sl false [], .sl false []] [(0,1,(.t 9)),(1,1,(.t 13))]⟩,
 ⟨(some 3),none, .alloc [.d (.sl false []), .d (.sl false [])]⟩,
 ⟨none,none, .stm 2 (.t 3) (.t 14)⟩]
def i38_r1:IR:=.seq (.drw 10 [[],[],[],[],[3],[3],[3],[0,1,2,3],[],[0,1,2,3,4,5,6,7,8]] i38_o1) (.keep [1,2,3] [1,2,3,9,13])
def i38_o2:List II:=[⟨(some 15),none, .fa 0 (.t 3)⟩,
 ⟨(some 16),none, .ld1 (.t 15)⟩,
 ⟨(some 17),none, .fa 0 (.t 1)⟩,
 ⟨(some 18),none, .ld1 (.t 17)⟩,
 ⟨(some 19),none, .cpy 6 (.t 16) (.t 18)⟩]
def i38_r2:IR:=.seq (.reg i38_o2) (.keep [1,2,3] [1,2,3,9,13])
def i38_o3:List II:=[⟨(some 20),none, .fa 1 (.t 3)⟩,
 ⟨(some 21),none, .ld1 (.t 20)⟩,
 ⟨(some 22),none, .fa 1 (.t 1)⟩,
 ⟨(some 23),none, .ld1 (.t 22)⟩,
 ⟨(some 24),none, .cpy 4 (.t 21) (.t 23)⟩]
def i38_r3:IR:=.seq (.reg i38_o3) (.keep [2,3] [1,2,3,9,13])
def i38_o4:List II:=[⟨(some 25),none, .fa 0 (.t 3)⟩,
 ⟨(some 26),none, .ld1 (.t 25)⟩,
 ⟨(some 27),none, .len 0 (.t 26)⟩,
 ⟨(some 28),none, .mv (.k (.int .i64 0))⟩]
def i38_r4:IR:=.seq (.reg i38_o4) (.keep [2,3,27,28] [1,2,3,9,13])
def i38_o5:List II:=[⟨(some 29),none, .bin .lss (.t 28) (.t 27)⟩]
def i38_r5:IR:=.seq (.reg i38_o5) (.keep [2,3,27,28,29] [1,2,3,9,13])
def i38_o6:List II:=[⟨(some 30),none, .mv (.t 28)⟩,
 ⟨(some 4),none, .mv (.t 30)⟩]
def i38_r6:IR:=.seq (.reg i38_o6) (.keep [2,3,4,27,28] [1,2,3,9,13])
def i38_o7:List II:=[⟨(some 31),none, .fa 0 (.t 3)⟩,
 ⟨(some 32),none, .ld1 (.t 31)⟩,
 ⟨(some 33),none, .mv (.t 4)⟩,
 ⟨(some 34),none, .ia 6 (.t 32) (.t 33)⟩,
 ⟨(some 5),none, .mv (.t 34)⟩]
def i38_r7:IR:=.seq (.reg i38_o7) (.keep [2,3,5,27,28] [1,2,3,9,13])
def i38_o8:List II:=[⟨(some 35),none, .mv (.t 5)⟩,
 ⟨(some 36),none, .mv (.t 5)⟩,
 ⟨(some 37),none, .nck (.t 36)⟩,
 ⟨(some 38),none, .fa 4 (.t 37)⟩,
 ⟨(some 39),none, .ld1 (.t 38)⟩,
 ⟨(some 40),none, .call 33 [(.t 39)]⟩,
 ⟨(some 41),none, .nck (.t 35)⟩,
 ⟨(some 42),none, .fa 4 (.t 41)⟩,
 ⟨none,none, .st 1 (.t 42) (.t 40)⟩]
def i38_r8:IR:=.seq (.reg i38_o8) (.keep [2,3,5,27,28] [1,2,3,9,13])
def i38_o9:List II:=[⟨(some 43),none, .mv (.t 5)⟩,
 ⟨(some 44),none, .mv (.t 5)⟩,
 ⟨(some 45),none, .nck (.t 44)⟩,
 ⟨(some 46),none, .fa 5 (.t 45)⟩,
 ⟨(some 47),none, .ld1 (.t 46)⟩,
 ⟨(some 48),none, .callo 61 [(.t 47)]⟩,
 ⟨(some 49),none, .nck (.t 43)⟩,
 ⟨(some 50),none, .fa 5 (.t 49)⟩,
 ⟨none,none, .st 1 (.t 50) (.t 48)⟩]
def i38_r9:IR:=.seq (.reg i38_o9) (.keep [2,3,27,28] [1,2,3,9,13])
def i38_o10:List II:=[⟨(some 51),none, .bin .add (.t 28) (.k (.int .i64 1))⟩,
 ⟨(some 28),none, .mv (.t 51)⟩]
def i38_r10:IR:=.seq (.reg i38_o10) (.keep [2,3,27,28] [1,2,3,9,13])
def i38_l0:IR:=(.seq i38_r5
 (.seq (.cond (.t 29) .skip
 (.exit 0))
 (.seq (.block 1 (.seq i38_r6
 (.seq i38_r7
 (.seq i38_r8
 i38_r9))))
 i38_r10)))
def i38_r11:IR:=.seq (.cpb 2 3 52 2) (.keep [2] [1,2,3,9,13])
def i38:IFn:=⟨(.seq i38_r0
 (.seq i38_r1
 (.seq i38_r2
 (.seq i38_r3
 (.seq (.seq i38_r4
 (.block 0 (.loop i38_l0)))
 (.seq i38_r11
 .ret)))))),
 [.ownc 2 2 14]⟩
def i39_o0:List II:=[⟨(some 4),none, .mv (.t 0)⟩,
 ⟨(some 5),none, .mv (.t 0)⟩,
 ⟨(some 6),none, .len 0 (.t 5)⟩,
 ⟨(some 7),none, .mv (.t 1)⟩,
 ⟨(some 8),none, .callf 62 [(.t 4),(.t 6),(.t 7)]⟩]
def i39_r0:IR:=.seq (.reg i39_o0) (.keep [] [])
def i39:IFn:=⟨i39_r0,
 []⟩
def i40_o0:List II:=[⟨(some 2),none, .box 5 [] (.t 0)⟩,
 ⟨(some 3),none, .box 5 [] (.t 1)⟩,
 ⟨(some 4),none, .mv (.k (.int .i64 0))⟩]
def i40_r0:IR:=.seq (.reg i40_o0) (.keep [2,3] [2,3])
def i40_o1:List II:=[⟨(some 5),none, .fa 0 (.t 2)⟩,
 ⟨(some 6),none, .ldn 4 (.t 5)⟩,
 ⟨(some 7),none, .fa 0 (.t 3)⟩,
 ⟨(some 8),none, .ldn 4 (.t 7)⟩,
 ⟨(some 9),none, .call 41 [(.t 6),(.t 8)]⟩,
 ⟨(some 4),none, .mv (.t 9)⟩]
def i40_r1:IR:=.seq (.reg i40_o1) (.keep [4] [2,3])
def i40:IFn:=⟨(.seq i40_r0
 (.seq i40_r1
 .ret)),
 [.tmp 4]⟩
def i41_o0:List II:=[⟨(some 2),none, .box 4 [] (.t 0)⟩,
 ⟨(some 3),none, .box 4 [] (.t 1)⟩,
 ⟨(some 4),none, .mv (.k (.int .i64 0))⟩]
def i41_r0:IR:=.seq (.reg i41_o0) (.keep [2,3] [2,3])
def i41_o1:List II:=[⟨(some 6),none, .fa 3 (.t 2)⟩,
 ⟨(some 7),none, .ld1 (.t 6)⟩,
 ⟨(some 8),none, .fa 3 (.t 3)⟩,
 ⟨(some 9),none, .ld1 (.t 8)⟩,
 ⟨(some 10),none, .eqb false (.t 7) (.t 9)⟩,
 ⟨(some 5),none, .mv (.t 10)⟩]
def i41_r1:IR:=.seq (.reg i41_o1) (.keep [2,3,5] [2,3])
def i41_o2:List II:=[⟨(some 11),none, .fa 0 (.t 2)⟩,
 ⟨(some 12),none, .ld1 (.t 11)⟩,
 ⟨(some 13),none, .fa 0 (.t 3)⟩,
 ⟨(some 14),none, .ld1 (.t 13)⟩,
 ⟨(some 15),none, .call 63 [(.t 12),(.t 14)]⟩,
 ⟨(some 4),none, .mv (.t 15)⟩]
def i41_r2:IR:=.seq (.reg i41_o2) (.keep [4] [2,3])
def i41_o3:List II:=[⟨(some 17),none, .fa 3 (.t 3)⟩,
 ⟨(some 18),none, .ld1 (.t 17)⟩,
 ⟨(some 16),none, .mv (.t 18)⟩]
def i41_r3:IR:=.seq (.reg i41_o3) (.keep [16] [2,3])
def i41_o4:List II:=[⟨(some 4),none, .mv (.k (.int .i64 (-1)))⟩]
def i41_r4:IR:=.seq (.reg i41_o4) (.keep [4] [2,3])
def i41_o5:List II:=[⟨(some 4),none, .mv (.k (.int .i64 1))⟩]
def i41_r5:IR:=.seq (.reg i41_o5) (.keep [4] [2,3])
def i41:IFn:=⟨(.seq i41_r0
 (.seq (.block 0 (.seq i41_r1
 (.cond (.t 5) (.seq i41_r2
 .ret)
 (.seq i41_r3
 (.cond (.t 16) (.seq i41_r4
 .ret)
 .skip)))))
 (.seq i41_r5
 .ret))),
 [.tmp 4]⟩
def i42_o0:List II:=[⟨(some 6),none, .mv (.k (.bool false))⟩]
def i42_r0:IR:=.seq (.reg i42_o0) (.keep [0,1,2] [8,9])
def i42_o1:List II:=[⟨(some 10),none, .mv (.t 0)⟩,
 ⟨(some 11),none, .len 0 (.t 10)⟩,
 ⟨(some 12),none, .mv (.t 1)⟩,
 ⟨(some 13),none, .len 0 (.t 12)⟩,
 ⟨(some 14),none, .bin .neq (.t 11) (.t 13)⟩]
def i42_r1:IR:=.seq (.reg i42_o1) (.keep [0,1,2,14] [8,9])
def i42_o2:List II:=[⟨(some 6),none, .mv (.k (.bool false))⟩]
def i42_r2:IR:=.seq (.reg i42_o2) (.keep [6] [8,9])
def i42_o3:List II:=[⟨(some 15),none, .mv (.t 0)⟩,
 ⟨(some 16),none, .len 0 (.t 15)⟩,
 ⟨(some 17),none, .mv (.k (.int .i64 0))⟩]
def i42_r3:IR:=.seq (.reg i42_o3) (.keep [1,2,15,16,17] [8,9])
def i42_o4:List II:=[⟨(some 18),none, .bin .lss (.t 17) (.t 16)⟩]
def i42_r4:IR:=.seq (.reg i42_o4) (.keep [1,2,15,16,17,18] [8,9])
def i42_o5:List II:=[⟨(some 19),none, .mv (.t 17)⟩,
 ⟨(some 20),none, .ia 6 (.t 15) (.t 17)⟩,
 ⟨(some 21),none, .ldn 6 (.t 20)⟩,
 ⟨(some 8),none, .alloc [.d (.str []), .d (.int .i64 0), .d (.int .i64 0), .d (.int .i64 0), .d (.sl false []), .d (.sl false [])]⟩,
 ⟨(some 7),none, .mv (.t 19)⟩,
 ⟨none,none, .st 6 (.t 8) (.t 21)⟩]
def i42_r5:IR:=.seq (.reg i42_o5) (.keep [1,2,7,8,15,16,17] [8,9])
def i42_o6:List II:=[⟨(some 22),none, .mv (.t 1)⟩,
 ⟨(some 23),none, .mv (.t 7)⟩,
 ⟨(some 24),none, .ia 6 (.t 22) (.t 23)⟩,
 ⟨(some 25),none, .ldn 6 (.t 24)⟩,
 ⟨(some 9),none, .alloc [.d (.str []), .d (.int .i64 0), .d (.int .i64 0), .d (.int .i64 0), .d (.sl false []), .d (.sl false [])]⟩,
 ⟨none,none, .st 6 (.t 9) (.t 25)⟩]
def i42_r6:IR:=.seq (.reg i42_o6) (.keep [1,2,8,9,15,16,17] [8,9])
def i42_o7:List II:=[⟨(some 26),none, .mv (.t 2)⟩,
 ⟨(some 27),none, .ldn 6 (.t 8)⟩,
 ⟨(some 28),none, .ldn 6 (.t 9)⟩,
 ⟨(some 29),none, .callv (.t 26) [(.t 27),(.t 28)]⟩,
 ⟨(some 30),none, .un .not (.t 29)⟩]
def i42_r7:IR:=.seq (.reg i42_o7) (.keep [1,2,15,16,17,30] [8,9])
def i42_o8:List II:=[⟨(some 6),none, .mv (.k (.bool false))⟩]
def i42_r8:IR:=.seq (.reg i42_o8) (.keep [6] [8,9])
def i42_o9:List II:=[⟨(some 31),none, .bin .add (.t 17) (.k (.int .i64 1))⟩,
 ⟨(some 17),none, .mv (.t 31)⟩]
def i42_r9:IR:=.seq (.reg i42_o9) (.keep [1,2,15,16,17] [8,9])
def i42_l0:IR:=(.seq i42_r4
 (.seq (.cond (.t 18) .skip
 (.exit 0))
 (.seq (.block 1 (.seq i42_r5
 (.seq i42_r6
 (.seq i42_r7
 (.cond (.t 30) (.seq i42_r8
 .ret)
 .skip)))))
 i42_r9)))
def i42_o10:List II:=[⟨(some 6),none, .mv (.k (.bool true))⟩]
def i42_r10:IR:=.seq (.reg i42_o10) (.keep [6] [8,9])
def i42:IFn:=⟨(.seq i42_r0
 (.seq (.seq i42_r1
 (.cond (.t 14) (.seq i42_r2
 .ret)
 .skip))
 (.seq (.seq i42_r3
 (.block 0 (.loop i42_l0)))
 (.seq i42_r10
 .ret)))),
 [.tmp 6]⟩
def i43_o0:List II:=[⟨(some 2),none, .box 6 [] (.t 0)⟩,
 ⟨(some 3),none, .box 6 [] (.t 1)⟩,
 ⟨(some 4),none, .mv (.k (.bool false))⟩]
def i43_r0:IR:=.seq (.reg i43_o0) (.keep [2,3] [2,3])
def i43_o1:List II:=[⟨(some 5),none, .fa 0 (.t 2)⟩,
 ⟨(some 6),none, .ld1 (.t 5)⟩,
 ⟨(some 7),none, .fa 0 (.t 3)⟩,
 ⟨(some 8),none, .ld1 (.t 7)⟩,
 ⟨(some 9),none, .bin .eql (.t 6) (.t 8)⟩,
 ⟨(some 10),none, .mv (.t 9)⟩,
 ⟨(some 11),(some (10,true)), .fa 1 (.t 2)⟩,
 ⟨(some 12),(some (10,true)), .ld1 (.t 11)⟩,
 ⟨(some 13),(some (10,true)), .fa 1 (.t 3)⟩,
 ⟨(some 14),(some (10,true)), .ld1 (.t 13)⟩,
 ⟨(some 15),(some (10,true)), .bin .eql (.t 12) (.t 14)⟩,
 ⟨(some 16),none, .pick (.t 10) (.t 15) (.k (.bool false))⟩,
 ⟨(some 17),none, .mv (.t 16)⟩,
 ⟨(some 18),(some (17,true)), .fa 2 (.t 2)⟩,
 ⟨(some 19),(some (17,true)), .ld1 (.t 18)⟩,
 ⟨(some 20),(some (17,true)), .fa 2 (.t 3)⟩,
 ⟨(some 21),(some (17,true)), .ld1 (.t 20)⟩,
 ⟨(some 22),(some (17,true)), .bin .eql (.t 19) (.t 21)⟩,
 ⟨(some 23),none, .pick (.t 17) (.t 22) (.k (.bool false))⟩,
 ⟨(some 24),none, .mv (.t 23)⟩,
 ⟨(some 25),(some (24,true)), .fa 3 (.t 2)⟩,
 ⟨(some 26),(some (24,true)), .ld1 (.t 25)⟩,
 ⟨(some 27),(some (24,true)), .fa 3 (.t 3)⟩,
 ⟨(some 28),(some (24,true)), .ld1 (.t 27)⟩,
 ⟨(some 29),(some (24,true)), .bin .eql (.t 26) (.t 28)⟩,
 ⟨(some 30),none, .pick (.t 24) (.t 29) (.k (.bool false))⟩,
 ⟨(some 31),none, .mv (.t 30)⟩,
 ⟨(some 32),(some (31,true)), .fa 4 (.t 2)⟩,
 ⟨(some 33),(some (31,true)), .ld1 (.t 32)⟩,
 ⟨(some 34),(some (31,true)), .fa 4 (.t 3)⟩,
 ⟨(some 35),(some (31,true)), .ld1 (.t 34)⟩,
 ⟨(some 36),(some (31,true)), .call 64 [(.t 33),(.t 35)]⟩,
 ⟨(some 37),none, .pick (.t 31) (.t 36) (.k (.bool false))⟩,
 ⟨(some 38),none, .mv (.t 37)⟩,
 ⟨(some 39),(some (38,true)), .fa 5 (.t 2)⟩,
 ⟨(some 40),(some (38,true)), .ld1 (.t 39)⟩,
 ⟨(some 41),(some (38,true)), .fa 5 (.t 3)⟩,
 ⟨(some 42),(some (38,true)), .ld1 (.t 41)⟩,
 ⟨(some 43),(some (38,true)), .call 65 [(.t 40),(.t 42)]⟩,
 ⟨(some 44),none, .pick (.t 38) (.t 43) (.k (.bool false))⟩,
 ⟨(some 4),none, .mv (.t 44)⟩]
def i43_r1:IR:=.seq (.reg i43_o1) (.keep [4] [2,3])
def i43:IFn:=⟨(.seq i43_r0
 (.seq i43_r1
 .ret)),
 [.tmp 4]⟩
def i44_o0:List II:=[⟨(some 2),none, .box 6 [] (.t 0)⟩,
 ⟨(some 4),none, .mv (.k (.bool false))⟩]
def i44_r0:IR:=.seq (.reg i44_o0) (.keep [1,2] [2])
def i44_o1:List II:=[⟨(some 6),none, .fa 0 (.t 2)⟩,
 ⟨(some 7),none, .ld1 (.t 6)⟩,
 ⟨(some 8),none, .call 66 [(.t 7)]⟩,
 ⟨(some 9),none, .un .not (.t 8)⟩,
 ⟨(some 10),none, .mv (.t 9)⟩,
 ⟨(some 11),(some (10,false)), .fa 1 (.t 2)⟩,
 ⟨(some 12),(some (10,false)), .ld1 (.t 11)⟩,
 ⟨(some 13),(some (10,false)), .fa 0 (.t 2)⟩,
 ⟨(some 14),(some (10,false)), .ld1 (.t 13)⟩,
 ⟨(some 15),(some (10,false)), .call 36 [(.t 14)]⟩,
 ⟨(some 16),(some (10,false)), .bin .neq (.t 12) (.t 15)⟩,
 ⟨(some 17),none, .pick (.t 10) (.k (.bool true)) (.t 16)⟩,
 ⟨(some 5),none, .mv (.t 17)⟩]
def i44_r1:IR:=.seq (.drw 10 [[],[],[],[],[],[],[],[],[],[]] i44_o1) (.keep [1,2,5] [2])
def i44_o2:List II:=[⟨(some 4),none, .mv (.k (.bool false))⟩]
def i44_r2:IR:=.seq (.reg i44_o2) (.keep [4] [2])
def i44_o3:List II:=[⟨(some 19),none, .fa 2 (.t 2)⟩,
 ⟨(some 20),none, .ld1 (.t 19)⟩,
 ⟨(some 21),none, .bin .lss (.t 20) (.k (.int .i64 1))⟩,
 ⟨(some 22),none, .mv (.t 21)⟩,
 ⟨(some 23),(some (22,false)), .fa 2 (.t 2)⟩,
 ⟨(some 24),(some (22,false)), .ld1 (.t 23)⟩,
 ⟨(some 25),(some (22,false)), .bin .gtr (.t 24) (.k (.int .i64 4096))⟩,
 ⟨(some 26),none, .pick (.t 22) (.k (.bool true)) (.t 25)⟩,
 ⟨(some 27),none, .mv (.t 26)⟩,
 ⟨(some 28),(some (27,false)), .fa 2 (.t 2)⟩,
 ⟨(some 29),(some (27,false)), .ld1 (.t 28)⟩,
 ⟨(some 30),(some (27,false)), .cvi .u64 (.t 29)⟩,
 ⟨(some 31),(some (27,false)), .call 67 [(.t 30)]⟩,
 ⟨(some 32),(some (27,false)), .bin .neq (.t 31) (.k (.int .i64 1))⟩,
 ⟨(some 33),none, .pick (.t 27) (.k (.bool true)) (.t 32)⟩,
 ⟨(some 18),none, .mv (.t 33)⟩]
def i44_r3:IR:=.seq (.reg i44_o3) (.keep [1,2,18] [2])
def i44_o4:List II:=[⟨(some 4),none, .mv (.k (.bool false))⟩]
def i44_r4:IR:=.seq (.reg i44_o4) (.keep [4] [2])
def i44_o5:List II:=[⟨(some 35),none, .fa 3 (.t 2)⟩,
 ⟨(some 36),none, .ld1 (.t 35)⟩,
 ⟨(some 37),none, .bin .lss (.t 36) (.k (.int .i64 0))⟩,
 ⟨(some 38),none, .mv (.t 37)⟩,
 ⟨(some 39),(some (38,false)), .fa 3 (.t 2)⟩,
 ⟨(some 40),(some (38,false)), .ld1 (.t 39)⟩,
 ⟨(some 41),(some (38,false)), .bin .gtr (.t 40) (.k (.int .i64 1048576))⟩,
 ⟨(some 42),none, .pick (.t 38) (.k (.bool true)) (.t 41)⟩,
 ⟨(some 34),none, .mv (.t 42)⟩]
def i44_r5:IR:=.seq (.reg i44_o5) (.keep [1,2,34] [2])
def i44_o6:List II:=[⟨(some 4),none, .mv (.k (.bool false))⟩]
def i44_r6:IR:=.seq (.reg i44_o6) (.keep [4] [2])
def i44_o7:List II:=[⟨(some 44),none, .fa 1 (.t 2)⟩,
 ⟨(some 45),none, .ld1 (.t 44)⟩,
 ⟨(some 46),none, .bin .eql (.t 45) (.k (.int .i64 4))⟩,
 ⟨(some 43),none, .mv (.t 46)⟩]
def i44_r7:IR:=.seq (.reg i44_o7) (.keep [1,2,43] [2])
def i44_o8:List II:=[⟨(some 47),none, .fa 4 (.t 2)⟩,
 ⟨(some 48),none, .ld1 (.t 47)⟩,
 ⟨(some 49),none, .len 0 (.t 48)⟩,
 ⟨(some 50),none, .bin .eql (.t 49) (.k (.int .i64 0))⟩,
 ⟨(some 51),none, .mv (.t 50)⟩,
 ⟨(some 52),(some (51,true)), .fa 5 (.t 2)⟩,
 ⟨(some 53),(some (51,true)), .ld1 (.t 52)⟩,
 ⟨(some 54),(some (51,true)), .len 0 (.t 53)⟩,
 ⟨(some 55),(some (51,true)), .bin .eql (.t 54) (.k (.int .i64 0))⟩,
 ⟨(some 56),none, .pick (.t 51) (.t 55) (.k (.bool false))⟩,
 ⟨(some 4),none, .mv (.t 56)⟩]
def i44_r8:IR:=.seq (.reg i44_o8) (.keep [4] [2])
def i44_o9:List II:=[⟨(some 57),none, .fa 4 (.t 2)⟩,
 ⟨(some 58),none, .ld1 (.t 57)⟩,
 ⟨(some 59),none, .len 0 (.t 58)⟩,
 ⟨(some 60),none, .fa 3 (.t 2)⟩,
 ⟨(some 61),none, .ld1 (.t 60)⟩,
 ⟨(some 62),none, .bin .eql (.t 59) (.t 61)⟩,
 ⟨(some 63),none, .mv (.t 62)⟩,
 ⟨(some 64),(some (63,true)), .ldn 6 (.t 2)⟩,
 ⟨(some 65),(some (63,true)), .mv (.t 1)⟩,
 ⟨(some 66),(some (63,true)), .call 68 [(.t 64),(.t 65)]⟩,
 ⟨(some 67),none, .pick (.t 63) (.t 66) (.k (.bool false))⟩,
 ⟨(some 4),none, .mv (.t 67)⟩]
def i44_r9:IR:=.seq (.reg i44_o9) (.keep [4] [2])
def i44:IFn:=⟨(.seq i44_r0
 (.seq (.block 0 (.seq i44_r1
 (.cond (.t 5) (.seq i44_r2
 .ret)
 (.seq i44_r3
 (.cond (.t 18) (.seq i44_r4
 .ret)
 (.seq i44_r5
 (.cond (.t 34) (.seq i44_r6
 .ret)
 (.seq i44_r7
 (.cond (.t 43) (.seq i44_r8
 .ret)
 .skip)))))))))
 (.seq i44_r9
 .ret))),
 [.tmp 4]⟩
def i45_o0:List II:=[⟨(some 2),none, .box 4 [] (.t 0)⟩,
 ⟨(some 4),none, .mv (.k (.bool false))⟩]
def i45_r0:IR:=.seq (.reg i45_o0) (.keep [1,2] [2])
def i45_o1:List II:=[⟨(some 5),none, .fa 0 (.t 2)⟩,
 ⟨(some 6),none, .ld1 (.t 5)⟩,
 ⟨(some 7),none, .len 1 (.t 6)⟩,
 ⟨(some 8),none, .bin .lss (.t 7) (.k (.int .i64 1))⟩,
 ⟨(some 9),none, .mv (.t 8)⟩,
 ⟨(some 10),(some (9,false)), .fa 0 (.t 2)⟩,
 ⟨(some 11),(some (9,false)), .ld1 (.t 10)⟩,
 ⟨(some 12),(some (9,false)), .len 1 (.t 11)⟩,
 ⟨(some 13),(some (9,false)), .bin .gtr (.t 12) (.k (.int .i64 255))⟩,
 ⟨(some 14),none, .pick (.t 9) (.k (.bool true)) (.t 13)⟩,
 ⟨(some 15),none, .mv (.t 14)⟩,
 ⟨(some 16),(some (15,false)), .fa 0 (.t 2)⟩,
 ⟨(some 17),(some (15,false)), .ld1 (.t 16)⟩,
 ⟨(some 18),(some (15,false)), .call 69 [(.t 17),(.k (.int .u8 0))]⟩,
 ⟨(some 19),(some (15,false)), .bin .geq (.t 18) (.k (.int .i64 0))⟩,
 ⟨(some 20),none, .pick (.t 15) (.k (.bool true)) (.t 19)⟩]
def i45_r1:IR:=.seq (.reg i45_o1) (.keep [1,2,20] [2])
def i45_o2:List II:=[⟨(some 4),none, .mv (.k (.bool false))⟩]
def i45_r2:IR:=.seq (.reg i45_o2) (.keep [4] [2])
def i45_o3:List II:=[⟨(some 21),none, .fa 1 (.t 2)⟩,
 ⟨(some 22),none, .ld1 (.t 21)⟩]
def i45_r3:IR:=.seq (.reg i45_o3) (.keep [1,2,22] [2])
def i45_o4:List II:=[⟨(some 24),none, .bin .eql (.t 22) (.k (.int .i64 (-1)))⟩,
 ⟨(some 23),none, .mv (.t 24)⟩]
def i45_r4:IR:=.seq (.reg i45_o4) (.keep [1,2,22,23] [2])
def i45_o5:List II:=[⟨(some 25),none, .fa 3 (.t 2)⟩,
 ⟨(some 26),none, .ld1 (.t 25)⟩,
 ⟨(some 27),none, .mv (.t 26)⟩,
 ⟨(some 28),(some (27,true)), .fa 2 (.t 2)⟩,
 ⟨(some 29),(some (27,true)), .ld1 (.t 28)⟩,
 ⟨(some 30),(some (27,true)), .bin .eql (.t 29) (.k (.int .i64 0))⟩,
 ⟨(some 31),none, .pick (.t 27) (.t 30) (.k (.bool false))⟩,
 ⟨(some 4),none, .mv (.t 31)⟩]
def i45_r5:IR:=.seq (.reg i45_o5) (.keep [4] [2])
def i45_o6:List II:=[⟨(some 33),none, .bin .eql (.t 22) (.k (.int .i64 (-2)))⟩,
 ⟨(some 32),none, .mv (.t 33)⟩]
def i45_r6:IR:=.seq (.reg i45_o6) (.keep [1,2,32] [2])
def i45_o7:List II:=[⟨(some 4),none, .mv (.k (.bool true))⟩]
def i45_r7:IR:=.seq (.reg i45_o7) (.keep [4] [2])
def i45_o8:List II:=[⟨(some 34),none, .fa 1 (.t 2)⟩,
 ⟨(some 35),none, .ld1 (.t 34)⟩,
 ⟨(some 36),none, .bin .geq (.t 35) (.k (.int .i64 0))⟩,
 ⟨(some 37),none, .mv (.t 36)⟩,
 ⟨(some 38),(some (37,true)), .fa 1 (.t 2)⟩,
 ⟨(some 39),(some (37,true)), .ld1 (.t 38)⟩,
 ⟨(some 40),(some (37,true)), .mv (.t 1)⟩,
 ⟨(some 41),(some (37,true)), .len 0 (.t 40)⟩,
 ⟨(some 42),(some (37,true)), .bin .lss (.t 39) (.t 41)⟩,
 ⟨(some 43),none, .pick (.t 37) (.t 42) (.k (.bool false))⟩,
 ⟨(some 44),none, .mv (.t 43)⟩,
 ⟨(some 45),(some (44,true)), .fa 2 (.t 2)⟩,
 ⟨(some 46),(some (44,true)), .ld1 (.t 45)⟩,
 ⟨(some 47),(some (44,true)), .bin .geq (.t 46) (.k (.int .i64 0))⟩,
 ⟨(some 48),none, .pick (.t 44) (.t 47) (.k (.bool false))⟩,
 ⟨(some 49),none, .mv (.t 48)⟩,
 ⟨(some 50),(some (49,true)), .fa 2 (.t 2)⟩,
 ⟨(some 51),(some (49,true)), .ld1 (.t 50)⟩,
 ⟨(some 52),(some (49,true)), .mv (.t 1)⟩,
 ⟨(some 53),(some (49,true)), .fa 1 (.t 2)⟩,
 ⟨(some 54),(some (49,true)), .ld1 (.t 53)⟩,
 ⟨(some 55),(some (49,true)), .ia 6 (.t 52) (.t 54)⟩,
 ⟨(some 56),(some (49,true)), .fa 3 (.t 55)⟩,
 ⟨(some 57),(some (49,true)), .ld1 (.t 56)⟩,
 ⟨(some 58),(some (49,true)), .bin .leq (.t 51) (.t 57)⟩,
 ⟨(some 59),none, .pick (.t 49) (.t 58) (.k (.bool false))⟩,
 ⟨(some 4),none, .mv (.t 59)⟩]
def i45_r8:IR:=.seq (.drw 24 [[],[],[],[],[],[],[],[],[],[],[],[],[],[],[],[],[],[],[],[],[],[],[],[]] i45_o8) (.keep [4] [2])
def i45:IFn:=⟨(.seq i45_r0
 (.seq (.seq i45_r1
 (.cond (.t 20) (.seq i45_r2
 .ret)
 .skip))
 (.seq (.seq i45_r3
 (.block 0 (.seq i45_r4
 (.cond (.t 23) (.seq i45_r5
 .ret)
 (.seq i45_r6
 (.cond (.t 32) (.seq i45_r7
 .ret)
 .skip))))))
 (.seq i45_r8
 .ret)))),
 [.tmp 4]⟩
def i46_o0:List II:=[⟨(some 4),none, .mv (.k (.bool false))⟩]
def i46_r0:IR:=.seq (.reg i46_o0) (.keep [0,1] [])
def i46_o1:List II:=[⟨(some 6),none, .mv (.t 0)⟩,
 ⟨(some 7),none, .len 0 (.t 6)⟩,
 ⟨(some 8),none, .bin .sub (.t 7) (.k (.int .i64 1))⟩,
 ⟨(some 5),none, .mv (.t 8)⟩]
def i46_r1:IR:=.seq (.reg i46_o1) (.keep [0,1,5] [])
def i46_o2:List II:=[⟨(some 9),none, .mv (.t 5)⟩,
 ⟨(some 10),none, .bin .gtr (.t 9) (.k (.int .i64 0))⟩]
def i46_r2:IR:=.seq (.reg i46_o2) (.keep [0,1,5,10] [])
def i46_o4:List II:=[⟨(some 13),none, .mv (.t 1)⟩,
 ⟨(some 14),none, .mv (.t 0)⟩,
 ⟨(some 15),none, .mv (.t 5)⟩,
 ⟨(some 16),none, .ia 4 (.t 14) (.t 15)⟩,
 ⟨(some 17),none, .ldn 4 (.t 16)⟩,
 ⟨(some 18),none, .mv (.t 0)⟩,
 ⟨(some 19),none, .mv (.t 5)⟩,
 ⟨(some 20),none, .bin .sub (.t 19) (.k (.int .i64 1))⟩,
 ⟨(some 21),none, .ia 4 (.t 18) (.t 20)⟩,
 ⟨(some 22),none, .ldn 4 (.t 21)⟩,
 ⟨(some 23),none, .callv (.t 13) [(.t 17),(.t 22)]⟩,
 ⟨(some 24),none, .bin .lss (.t 23) (.k (.int .i64 0))⟩]
def i46_r4:IR:=.seq (.drw 10 [[],[],[],[],[],[],[],[],[],[]] i46_o4) (.keep [0,1,5,24] [])
def i46_o5:List II:=[⟨(some 4),none, .mv (.k (.bool false))⟩]
def i46_r5:IR:=.seq (.reg i46_o5) (.keep [4] [])
def i46_o3:List II:=[⟨(some 11),none, .mv (.t 5)⟩,
 ⟨(some 12),none, .bin .sub (.t 11) (.k (.int .i64 1))⟩,
 ⟨(some 5),none, .mv (.t 12)⟩]
def i46_r3:IR:=.seq (.reg i46_o3) (.keep [0,1,5] [])
def i46_l0:IR:=(.seq (.seq i46_r2
 (.cond (.t 10) .skip
 (.exit 0)))
 (.seq (.block 1 (.seq i46_r4
 (.cond (.t 24) (.seq i46_r5
 .ret)
 .skip)))
 i46_r3))
def i46_o6:List II:=[⟨(some 4),none, .mv (.k (.bool true))⟩]
def i46_r6:IR:=.seq (.reg i46_o6) (.keep [4] [])
def i46:IFn:=⟨(.seq i46_r0
 (.seq (.seq i46_r1
 (.block 0 (.loop i46_l0)))
 (.seq i46_r6
 .ret))),
 [.tmp 4]⟩
def i57_o0:List II:=[⟨(some 4),none, .mv (.k (.bool false))⟩]
def i57_r0:IR:=.seq (.reg i57_o0) (.keep [0,1] [])
def i57_o1:List II:=[⟨(some 5),none, .mv (.t 0)⟩,
 ⟨(some 6),none, .len 1 (.t 5)⟩,
 ⟨(some 7),none, .mv (.t 1)⟩,
 ⟨(some 8),none, .len 1 (.t 7)⟩,
 ⟨(some 9),none, .bin .geq (.t 6) (.t 8)⟩,
 ⟨(some 10),none, .mv (.t 9)⟩,
 ⟨(some 11),(some (10,true)), .mv (.t 0)⟩,
 ⟨(some 12),(some (10,true)), .mv (.t 1)⟩,
 ⟨(some 13),(some (10,true)), .len 1 (.t 12)⟩,
 ⟨(some 14),(some (10,true)), .slcs (.t 11) none (some (.t 13))⟩,
 ⟨(some 15),(some (10,true)), .mv (.t 1)⟩,
 ⟨(some 16),(some (10,true)), .bin .eql (.t 14) (.t 15)⟩,
 ⟨(some 17),none, .pick (.t 10) (.t 16) (.k (.bool false))⟩,
 ⟨(some 4),none, .mv (.t 17)⟩]
def i57_r1:IR:=.seq (.reg i57_o1) (.keep [4] [])
def i57:IFn:=⟨(.seq i57_r0
 (.seq i57_r1
 .ret)),
 [.tmp 4]⟩
def i61_o0:List II:=[⟨(some 2),none, .mv (.k (.sl false []))⟩]
def i61_r0:IR:=.seq (.reg i61_o0) (.keep [0] [7])
def i61_o1:List II:=[⟨(some 3),none, .mv (.t 0)⟩,
 ⟨(some 4),none, .isnil 0 false (.t 3)⟩]
def i61_r1:IR:=.seq (.reg i61_o1) (.keep [0,4] [7])
def i61_o2:List II:=[⟨(some 2),none, .mv (.k (.sl false []))⟩]
def i61_r2:IR:=.seq (.reg i61_o2) (.keep [2] [7])
def i61_o3:List II:=[⟨(some 5),none, .lit [.int .i64 0, .int .i64 0, .int .i64 0, .int .i64 0] 0 []⟩,
 ⟨(some 6),none, .mv (.t 0)⟩,
 ⟨(some 7),none, .appz [] 4 32 (.t 5) (.t 6)⟩,
 ⟨(some 2),none, .mv (.t 7)⟩]
def i61_r3:IR:=.seq (.reg i61_o3) (.keep [2] [7])
def i61:IFn:=⟨(.seq i61_r0
 (.seq (.seq i61_r1
 (.cond (.t 4) (.seq i61_r2
 .ret)
 .skip))
 (.seq i61_r3
 .ret))),
 [.owns 2 48]⟩
def i62_o0:List II:=[⟨(some 6),none, .mv (.k (.int .i64 20))⟩]
def i62_r0:IR:=.seq (.reg i62_o0) (.keep [0,1,2,6] [])
def i62_o1:List II:=[⟨(some 10),none, .mv (.t 6)⟩,
 ⟨(some 7),none, .mv (.k (.int .i64 0))⟩,
 ⟨(some 8),none, .mv (.t 10)⟩]
def i62_r1:IR:=.seq (.reg i62_o1) (.keep [0,1,2,6,7,8] [])
def i62_o2:List II:=[⟨(some 11),none, .mv (.t 8)⟩,
 ⟨(some 12),none, .mv (.t 1)⟩,
 ⟨(some 13),none, .bin .leq (.t 11) (.t 12)⟩]
def i62_r2:IR:=.seq (.reg i62_o2) (.keep [0,1,2,6,7,8,13] [])
def i62_o3:List II:=[⟨(some 14),none, .mv (.t 0)⟩,
 ⟨(some 15),none, .mv (.t 7)⟩,
 ⟨(some 16),none, .mv (.t 8)⟩,
 ⟨(some 17),none, .mv (.t 2)⟩,
 ⟨(some 18),none, .callf 72 [(.t 14),(.t 15),(.t 16),(.t 17)]⟩]
def i62_r3:IR:=.seq (.reg i62_o3) (.keep [0,1,2,6,8] [])
def i62_o4:List II:=[⟨(some 19),none, .mv (.t 8)⟩,
 ⟨(some 7),none, .mv (.t 19)⟩]
def i62_r4:IR:=.seq (.reg i62_o4) (.keep [0,1,2,6,7,8] [])
def i62_o5:List II:=[⟨(some 20),none, .mv (.t 8)⟩,
 ⟨(some 21),none, .mv (.t 6)⟩,
 ⟨(some 22),none, .bin .add (.t 20) (.t 21)⟩,
 ⟨(some 8),none, .mv (.t 22)⟩]
def i62_r5:IR:=.seq (.reg i62_o5) (.keep [0,1,2,6,7,8] [])
def i62_l0:IR:=(.seq (.seq i62_r2
 (.cond (.t 13) .skip
 (.exit 0)))
 (.block 1 (.seq i62_r3
 (.seq i62_r4
 i62_r5))))
def i62_o6:List II:=[⟨(some 23),none, .mv (.t 0)⟩,
 ⟨(some 24),none, .mv (.t 7)⟩,
 ⟨(some 25),none, .mv (.t 1)⟩,
 ⟨(some 26),none, .mv (.t 2)⟩,
 ⟨(some 27),none, .callf 72 [(.t 23),(.t 24),(.t 25),(.t 26)]⟩]
def i62_r6:IR:=.seq (.reg i62_o6) (.keep [0,1,2,6] [])
def i62_o7:List II:=[⟨(some 28),none, .mv (.t 6)⟩,
 ⟨(some 29),none, .mv (.t 1)⟩,
 ⟨(some 30),none, .bin .lss (.t 28) (.t 29)⟩]
def i62_r7:IR:=.seq (.reg i62_o7) (.keep [0,1,2,6,30] [])
def i62_o8:List II:=[⟨(some 31),none, .mv (.t 6)⟩,
 ⟨(some 32),none, .bin .mul (.k (.int .i64 2)) (.t 31)⟩,
 ⟨(some 7),none, .mv (.k (.int .i64 0))⟩,
 ⟨(some 8),none, .mv (.t 32)⟩]
def i62_r8:IR:=.seq (.reg i62_o8) (.keep [0,1,2,6,7,8] [])
def i62_o9:List II:=[⟨(some 33),none, .mv (.t 8)⟩,
 ⟨(some 34),none, .mv (.t 1)⟩,
 ⟨(some 35),none, .bin .leq (.t 33) (.t 34)⟩]
def i62_r9:IR:=.seq (.reg i62_o9) (.keep [0,1,2,6,7,8,35] [])
def i62_o10:List II:=[⟨(some 36),none, .mv (.t 0)⟩,
 ⟨(some 37),none, .mv (.t 7)⟩,
 ⟨(some 38),none, .mv (.t 7)⟩,
 ⟨(some 39),none, .mv (.t 6)⟩,
 ⟨(some 40),none, .bin .add (.t 38) (.t 39)⟩,
 ⟨(some 41),none, .mv (.t 8)⟩,
 ⟨(some 42),none, .mv (.t 2)⟩,
 ⟨(some 43),none, .callf 73 [(.t 36),(.t 37),(.t 40),(.t 41),(.t 42)]⟩]
def i62_r10:IR:=.seq (.reg i62_o10) (.keep [0,1,2,6,8] [])
def i62_o11:List II:=[⟨(some 44),none, .mv (.t 8)⟩,
 ⟨(some 7),none, .mv (.t 44)⟩]
def i62_r11:IR:=.seq (.reg i62_o11) (.keep [0,1,2,6,7,8] [])
def i62_o12:List II:=[⟨(some 45),none, .mv (.t 8)⟩,
 ⟨(some 46),none, .mv (.t 6)⟩,
 ⟨(some 47),none, .bin .mul (.k (.int .i64 2)) (.t 46)⟩,
 ⟨(some 48),none, .bin .add (.t 45) (.t 47)⟩,
 ⟨(some 8),none, .mv (.t 48)⟩]
def i62_r12:IR:=.seq (.reg i62_o12) (.keep [0,1,2,6,7,8] [])
def i62_l4:IR:=(.seq (.seq i62_r9
 (.cond (.t 35) .skip
 (.exit 4)))
 (.block 5 (.seq i62_r10
 (.seq i62_r11
 i62_r12))))
def i62_o13:List II:=[⟨(some 49),none, .mv (.t 7)⟩,
 ⟨(some 50),none, .mv (.t 6)⟩,
 ⟨(some 51),none, .bin .add (.t 49) (.t 50)⟩,
 ⟨(some 9),none, .mv (.t 51)⟩]
def i62_r13:IR:=.seq (.reg i62_o13) (.keep [0,1,2,6,7,9] [])
def i62_o14:List II:=[⟨(some 52),none, .mv (.t 9)⟩,
 ⟨(some 53),none, .mv (.t 1)⟩,
 ⟨(some 54),none, .bin .lss (.t 52) (.t 53)⟩]
def i62_r14:IR:=.seq (.reg i62_o14) (.keep [0,1,2,6,7,9,54] [])
def i62_o15:List II:=[⟨(some 55),none, .mv (.t 0)⟩,
 ⟨(some 56),none, .mv (.t 7)⟩,
 ⟨(some 57),none, .mv (.t 9)⟩,
 ⟨(some 58),none, .mv (.t 1)⟩,
 ⟨(some 59),none, .mv (.t 2)⟩,
 ⟨(some 60),none, .callf 73 [(.t 55),(.t 56),(.t 57),(.t 58),(.t 59)]⟩]
def i62_r15:IR:=.seq (.reg i62_o15) (.keep [0,1,2,6] [])
def i62_o16:List II:=[⟨(some 61),none, .mv (.t 6)⟩,
 ⟨(some 62),none, .bin .mul (.t 61) (.k (.int .i64 2))⟩,
 ⟨(some 6),none, .mv (.t 62)⟩]
def i62_r16:IR:=.seq (.reg i62_o16) (.keep [0,1,2,6] [])
def i62_l2:IR:=(.seq (.seq i62_r7
 (.cond (.t 30) .skip
 (.exit 2)))
 (.block 3 (.seq i62_r8
 (.seq (.block 4 (.loop i62_l4))
 (.seq (.seq i62_r13
 (.seq i62_r14
 (.cond (.t 54) i62_r15
 .skip)))
 i62_r16)))))
def i62:IFn:=⟨(.seq i62_r0
 (.seq i62_r1
 (.seq (.block 0 (.loop i62_l0))
 (.seq i62_r6
 (.block 2 (.loop i62_l2)))))),
 []⟩
def i63_o0:List II:=[⟨(some 4),none, .mv (.k (.int .i64 0))⟩]
def i63_r0:IR:=.seq (.reg i63_o0) (.keep [0,1] [])
def i63_o1:List II:=[⟨(some 5),none, .mv (.t 0)⟩,
 ⟨(some 6),none, .mv (.t 1)⟩,
 ⟨(some 7),none, .call 74 [(.t 5),(.t 6)]⟩,
 ⟨(some 4),none, .mv (.t 7)⟩]
def i63_r1:IR:=.seq (.reg i63_o1) (.keep [4] [])
def i63:IFn:=⟨(.seq i63_r0
 (.seq i63_r1
 .ret)),
 [.tmp 4]⟩
def i64_o0:List II:=[⟨(some 4),none, .mv (.k (.bool false))⟩]
def i64_r0:IR:=.seq (.reg i64_o0) (.keep [0,1] [])
def i64_o1:List II:=[⟨(some 5),none, .mv (.t 0)⟩,
 ⟨(some 6),none, .cvbs (.t 5)⟩,
 ⟨(some 7),none, .mv (.t 1)⟩,
 ⟨(some 8),none, .cvbs (.t 7)⟩,
 ⟨(some 9),none, .bin .eql (.t 6) (.t 8)⟩,
 ⟨(some 4),none, .mv (.t 9)⟩]
def i64_r1:IR:=.seq (.reg i64_o1) (.keep [4] [])
def i64:IFn:=⟨(.seq i64_r0
 (.seq i64_r1
 .ret)),
 [.tmp 4]⟩
def i65_o0:List II:=[⟨(some 4),none, .mv (.k (.bool false))⟩]
def i65_r0:IR:=.seq (.reg i65_o0) (.keep [0,1] [])
def i65_o1:List II:=[⟨(some 6),none, .mv (.t 0)⟩,
 ⟨(some 7),none, .len 0 (.t 6)⟩,
 ⟨(some 8),none, .mv (.t 1)⟩,
 ⟨(some 9),none, .len 0 (.t 8)⟩,
 ⟨(some 10),none, .bin .neq (.t 7) (.t 9)⟩]
def i65_r1:IR:=.seq (.reg i65_o1) (.keep [0,1,10] [])
def i65_o2:List II:=[⟨(some 4),none, .mv (.k (.bool false))⟩]
def i65_r2:IR:=.seq (.reg i65_o2) (.keep [4] [])
def i65_o3:List II:=[⟨(some 11),none, .mv (.t 0)⟩,
 ⟨(some 12),none, .len 0 (.t 11)⟩,
 ⟨(some 13),none, .mv (.k (.int .i64 0))⟩]
def i65_r3:IR:=.seq (.reg i65_o3) (.keep [0,1,12,13] [])
def i65_o4:List II:=[⟨(some 14),none, .bin .lss (.t 13) (.t 12)⟩]
def i65_r4:IR:=.seq (.reg i65_o4) (.keep [0,1,12,13,14] [])
def i65_o5:List II:=[⟨(some 15),none, .mv (.t 13)⟩,
 ⟨(some 5),none, .mv (.t 15)⟩]
def i65_r5:IR:=.seq (.reg i65_o5) (.keep [0,1,5,12,13] [])
def i65_o6:List II:=[⟨(some 16),none, .mv (.t 0)⟩,
 ⟨(some 17),none, .mv (.t 5)⟩,
 ⟨(some 18),none, .ia 4 (.t 16) (.t 17)⟩,
 ⟨(some 19),none, .ldn 4 (.t 18)⟩,
 ⟨(some 20),none, .mv (.t 1)⟩,
 ⟨(some 21),none, .mv (.t 5)⟩,
 ⟨(some 22),none, .ia 4 (.t 20) (.t 21)⟩,
 ⟨(some 23),none, .ldn 4 (.t 22)⟩,
 ⟨(some 24),none, .eqa true [1,1,1,1] (.t 19) (.t 23)⟩]
def i65_r6:IR:=.seq (.drw 8 [[],[],[],[],[],[],[],[]] i65_o6) (.keep [0,1,12,13,24] [])
def i65_o7:List II:=[⟨(some 4),none, .mv (.k (.bool false))⟩]
def i65_r7:IR:=.seq (.reg i65_o7) (.keep [4] [])
def i65_o8:List II:=[⟨(some 25),none, .bin .add (.t 13) (.k (.int .i64 1))⟩,
 ⟨(some 13),none, .mv (.t 25)⟩]
def i65_r8:IR:=.seq (.reg i65_o8) (.keep [0,1,12,13] [])
def i65_l0:IR:=(.seq i65_r4
 (.seq (.cond (.t 14) .skip
 (.exit 0))
 (.seq (.block 1 (.seq i65_r5
 (.seq i65_r6
 (.cond (.t 24) (.seq i65_r7
 .ret)
 .skip))))
 i65_r8)))
def i65_o9:List II:=[⟨(some 4),none, .mv (.k (.bool true))⟩]
def i65_r9:IR:=.seq (.reg i65_o9) (.keep [4] [])
def i65:IFn:=⟨(.seq i65_r0
 (.seq (.seq i65_r1
 (.cond (.t 10) (.seq i65_r2
 .ret)
 .skip))
 (.seq (.seq i65_r3
 (.block 0 (.loop i65_l0)))
 (.seq i65_r9
 .ret)))),
 [.tmp 4]⟩
def i66_o0:List II:=[⟨(some 2),none, .mv (.k (.bool false))⟩]
def i66_r0:IR:=.seq (.reg i66_o0) (.keep [0] [])
def i66_o1:List II:=[⟨(some 4),none, .mv (.t 0)⟩,
 ⟨(some 5),none, .len 1 (.t 4)⟩,
 ⟨(some 6),none, .bin .lss (.t 5) (.k (.int .i64 1))⟩,
 ⟨(some 7),none, .mv (.t 6)⟩,
 ⟨(some 8),(some (7,false)), .mv (.t 0)⟩,
 ⟨(some 9),(some (7,false)), .len 1 (.t 8)⟩,
 ⟨(some 10),(some (7,false)), .bin .gtr (.t 9) (.k (.int .i64 32))⟩,
 ⟨(some 11),none, .pick (.t 7) (.k (.bool true)) (.t 10)⟩]
def i66_r1:IR:=.seq (.reg i66_o1) (.keep [0,11] [])
def i66_o2:List II:=[⟨(some 2),none, .mv (.k (.bool false))⟩]
def i66_r2:IR:=.seq (.reg i66_o2) (.keep [2] [])
def i66_o3:List II:=[⟨(some 12),none, .mv (.t 0)⟩,
 ⟨(some 13),none, .len 1 (.t 12)⟩,
 ⟨(some 14),none, .mv (.k (.int .i64 0))⟩]
def i66_r3:IR:=.seq (.reg i66_o3) (.keep [0,13,14] [])
def i66_o4:List II:=[⟨(some 15),none, .bin .lss (.t 14) (.t 13)⟩]
def i66_r4:IR:=.seq (.reg i66_o4) (.keep [0,13,14,15] [])
def i66_o5:List II:=[⟨(some 16),none, .mv (.t 14)⟩,
 ⟨(some 3),none, .mv (.t 16)⟩]
def i66_r5:IR:=.seq (.reg i66_o5) (.keep [0,3,13,14] [])
def i66_o6:List II:=[⟨(some 17),none, .mv (.t 0)⟩,
 ⟨(some 18),none, .mv (.t 3)⟩,
 ⟨(some 19),none, .ixs (.t 17) (.t 18)⟩,
 ⟨(some 20),none, .bin .lss (.t 19) (.k (.int .u8 33))⟩,
 ⟨(some 21),none, .mv (.t 20)⟩,
 ⟨(some 22),(some (21,false)), .mv (.t 0)⟩,
 ⟨(some 23),(some (21,false)), .mv (.t 3)⟩,
 ⟨(some 24),(some (21,false)), .ixs (.t 22) (.t 23)⟩,
 ⟨(some 25),(some (21,false)), .bin .gtr (.t 24) (.k (.int .u8 126))⟩,
 ⟨(some 26),none, .pick (.t 21) (.k (.bool true)) (.t 25)⟩]
def i66_r6:IR:=.seq (.reg i66_o6) (.keep [0,13,14,26] [])
def i66_o7:List II:=[⟨(some 2),none, .mv (.k (.bool false))⟩]
def i66_r7:IR:=.seq (.reg i66_o7) (.keep [2] [])
def i66_o8:List II:=[⟨(some 27),none, .bin .add (.t 14) (.k (.int .i64 1))⟩,
 ⟨(some 14),none, .mv (.t 27)⟩]
def i66_r8:IR:=.seq (.reg i66_o8) (.keep [0,13,14] [])
def i66_l0:IR:=(.seq i66_r4
 (.seq (.cond (.t 15) .skip
 (.exit 0))
 (.seq (.block 1 (.seq i66_r5
 (.seq i66_r6
 (.cond (.t 26) (.seq i66_r7
 .ret)
 .skip))))
 i66_r8)))
def i66_o9:List II:=[⟨(some 2),none, .mv (.k (.bool true))⟩]
def i66_r9:IR:=.seq (.reg i66_o9) (.keep [2] [])
def i66:IFn:=⟨(.seq i66_r0
 (.seq (.seq i66_r1
 (.cond (.t 11) (.seq i66_r2
 .ret)
 .skip))
 (.seq (.seq i66_r3
 (.block 0 (.loop i66_l0)))
 (.seq i66_r9
 .ret)))),
 [.tmp 2]⟩
def i67_o0:List II:=[⟨(some 2),none, .mv (.k (.int .i64 0))⟩]
def i67_r0:IR:=.seq (.reg i67_o0) (.keep [0] [])
def i67_o1:List II:=[⟨(some 3),none, .mv (.t 0)⟩,
 ⟨(some 4),none, .bin .shr (.t 3) (.k (.int .u64 1))⟩,
 ⟨(some 5),none, .bin .and (.t 4) (.k (.int .u64 6148914691236517205))⟩,
 ⟨(some 6),none, .mv (.t 0)⟩,
 ⟨(some 7),none, .bin .and (.t 6) (.k (.int .u64 6148914691236517205))⟩,
 ⟨(some 8),none, .bin .add (.t 5) (.t 7)⟩,
 ⟨(some 0),none, .mv (.t 8)⟩]
def i67_r1:IR:=.seq (.reg i67_o1) (.keep [0] [])
def i67_o2:List II:=[⟨(some 9),none, .mv (.t 0)⟩,
 ⟨(some 10),none, .bin .shr (.t 9) (.k (.int .u64 2))⟩,
 ⟨(some 11),none, .bin .and (.t 10) (.k (.int .u64 3689348814741910323))⟩,
 ⟨(some 12),none, .mv (.t 0)⟩,
 ⟨(some 13),none, .bin .and (.t 12) (.k (.int .u64 3689348814741910323))⟩,
 ⟨(some 14),none, .bin .add (.t 11) (.t 13)⟩,
 ⟨(some 0),none, .mv (.t 14)⟩]
def i67_r2:IR:=.seq (.reg i67_o2) (.keep [0] [])
def i67_o3:List II:=[⟨(some 15),none, .mv (.t 0)⟩,
 ⟨(some 16),none, .bin .shr (.t 15) (.k (.int .u64 4))⟩,
 ⟨(some 17),none, .mv (.t 0)⟩,
 ⟨(some 18),none, .bin .add (.t 16) (.t 17)⟩,
 ⟨(some 19),none, .bin .and (.t 18) (.k (.int .u64 1085102592571150095))⟩,
 ⟨(some 0),none, .mv (.t 19)⟩]
def i67_r3:IR:=.seq (.reg i67_o3) (.keep [0] [])
def i67_o4:List II:=[⟨(some 20),none, .mv (.t 0)⟩,
 ⟨(some 21),none, .mv (.t 0)⟩,
 ⟨(some 22),none, .bin .shr (.t 21) (.k (.int .u64 8))⟩,
 ⟨(some 23),none, .bin .add (.t 20) (.t 22)⟩,
 ⟨(some 0),none, .mv (.t 23)⟩]
def i67_r4:IR:=.seq (.reg i67_o4) (.keep [0] [])
def i67_o5:List II:=[⟨(some 24),none, .mv (.t 0)⟩,
 ⟨(some 25),none, .mv (.t 0)⟩,
 ⟨(some 26),none, .bin .shr (.t 25) (.k (.int .u64 16))⟩,
 ⟨(some 27),none, .bin .add (.t 24) (.t 26)⟩,
 ⟨(some 0),none, .mv (.t 27)⟩]
def i67_r5:IR:=.seq (.reg i67_o5) (.keep [0] [])
def i67_o6:List II:=[⟨(some 28),none, .mv (.t 0)⟩,
 ⟨(some 29),none, .mv (.t 0)⟩,
 ⟨(some 30),none, .bin .shr (.t 29) (.k (.int .u64 32))⟩,
 ⟨(some 31),none, .bin .add (.t 28) (.t 30)⟩,
 ⟨(some 0),none, .mv (.t 31)⟩]
def i67_r6:IR:=.seq (.reg i67_o6) (.keep [0] [])
def i67_o7:List II:=[⟨(some 32),none, .mv (.t 0)⟩,
 ⟨(some 33),none, .cvi .i64 (.t 32)⟩,
 ⟨(some 34),none, .bin .and (.t 33) (.k (.int .i64 127))⟩,
 ⟨(some 2),none, .mv (.t 34)⟩]
def i67_r7:IR:=.seq (.reg i67_o7) (.keep [2] [])
def i67:IFn:=⟨(.seq i67_r0
 (.seq i67_r1
 (.seq i67_r2
 (.seq i67_r3
 (.seq i67_r4
 (.seq i67_r5
 (.seq i67_r6
 (.seq i67_r7
 .ret)))))))),
 [.tmp 2]⟩
def i68_o0:List II:=[⟨(some 2),none, .box 6 [] (.t 0)⟩,
 ⟨(some 4),none, .mv (.k (.bool false))⟩]
def i68_r0:IR:=.seq (.reg i68_o0) (.keep [1,2] [2,7])
def i68_o1:List II:=[⟨(some 9),none, .fa 5 (.t 2)⟩,
 ⟨(some 10),none, .ld1 (.t 9)⟩,
 ⟨(some 11),none, .len 0 (.t 10)⟩,
 ⟨(some 12),none, .bin .gtr (.t 11) (.k (.int .i64 4096))⟩]
def i68_r1:IR:=.seq (.reg i68_o1) (.keep [1,2,12] [2,7])
def i68_o2:List II:=[⟨(some 4),none, .mv (.k (.bool false))⟩]
def i68_r2:IR:=.seq (.reg i68_o2) (.keep [4] [2,7])
def i68_o3:List II:=[⟨(some 5),none, .mv (.k (.int .i64 0))⟩]
def i68_r3:IR:=.seq (.reg i68_o3) (.keep [1,2,5] [2,7])
def i68_o4:List II:=[⟨(some 13),none, .fa 5 (.t 2)⟩,
 ⟨(some 14),none, .ld1 (.t 13)⟩,
 ⟨(some 15),none, .len 0 (.t 14)⟩,
 ⟨(some 16),none, .mv (.k (.int .i64 0))⟩]
def i68_r4:IR:=.seq (.reg i68_o4) (.keep [1,2,5,14,15,16] [2,7])
def i68_o5:List II:=[⟨(some 17),none, .bin .lss (.t 16) (.t 15)⟩]
def i68_r5:IR:=.seq (.reg i68_o5) (.keep [1,2,5,14,15,16,17] [2,7])
def i68_o6:List II:=[⟨(some 18),none, .mv (.t 16)⟩,
 ⟨(some 19),none, .ia 4 (.t 14) (.t 16)⟩,
 ⟨(some 20),none, .ldn 4 (.t 19)⟩,
 ⟨(some 7),none, .alloc [.d (.int .i64 0), .d (.int .i64 0), .d (.int .i64 0), .d (.int .i64 0)]⟩,
 ⟨(some 6),none, .mv (.t 18)⟩,
 ⟨none,none, .st 4 (.t 7) (.t 20)⟩]
def i68_r6:IR:=.seq (.reg i68_o6) (.keep [1,2,5,6,7,14,15,16] [2,7])
def i68_o7:List II:=[⟨(some 21),none, .fa 1 (.t 7)⟩,
 ⟨(some 22),none, .ld1 (.t 21)⟩,
 ⟨(some 23),none, .call 37 [(.t 22)]⟩,
 ⟨(some 8),none, .mv (.t 23)⟩]
def i68_r7:IR:=.seq (.reg i68_o7) (.keep [1,2,5,6,7,8,14,15,16] [2,7])
def i68_o8:List II:=[⟨(some 24),none, .mv (.t 8)⟩,
 ⟨(some 25),none, .bin .eql (.t 24) (.k (.int .i64 0))⟩,
 ⟨(some 26),none, .mv (.t 25)⟩,
 ⟨(some 27),(some (26,false)), .fa 0 (.t 7)⟩,
 ⟨(some 28),(some (26,false)), .ld1 (.t 27)⟩,
 ⟨(some 29),(some (26,false)), .mv (.t 5)⟩,
 ⟨(some 30),(some (26,false)), .bin .lss (.t 28) (.t 29)⟩,
 ⟨(some 31),none, .pick (.t 26) (.k (.bool true)) (.t 30)⟩,
 ⟨(some 32),none, .mv (.t 31)⟩,
 ⟨(some 33),(some (32,false)), .fa 0 (.t 7)⟩,
 ⟨(some 34),(some (32,false)), .ld1 (.t 33)⟩,
 ⟨(some 35),(some (32,false)), .fa 3 (.t 2)⟩,
 ⟨(some 36),(some (32,false)), .ld1 (.t 35)⟩,
 ⟨(some 37),(some (32,false)), .mv (.t 8)⟩,
 ⟨(some 38),(some (32,false)), .bin .sub (.t 36) (.t 37)⟩,
 ⟨(some 39),(some (32,false)), .bin .gtr (.t 34) (.t 38)⟩,
 ⟨(some 40),none, .pick (.t 32) (.k (.bool true)) (.t 39)⟩,
 ⟨(some 41),none, .mv (.t 40)⟩,
 ⟨(some 42),(some (41,false)), .fa 2 (.t 7)⟩,
 ⟨(some 43),(some (41,false)), .ld1 (.t 42)⟩,
 ⟨(some 44),(some (41,false)), .bin .lss (.t 43) (.k (.int .i64 0))⟩,
 ⟨(some 45),none, .pick (.t 41) (.k (.bool true)) (.t 44)⟩,
 ⟨(some 46),none, .mv (.t 45)⟩,
 ⟨(some 47),(some (46,false)), .fa 2 (.t 7)⟩,
 ⟨(some 48),(some (46,false)), .ld1 (.t 47)⟩,
 ⟨(some 49),(some (46,false)), .mv (.t 1)⟩,
 ⟨(some 50),(some (46,false)), .bin .geq (.t 48) (.t 49)⟩,
 ⟨(some 51),none, .pick (.t 46) (.k (.bool true)) (.t 50)⟩]
def i68_r8:IR:=.seq (.reg i68_o8) (.keep [1,2,6,7,8,14,15,16,51] [2,7])
def i68_o9:List II:=[⟨(some 4),none, .mv (.k (.bool false))⟩]
def i68_r9:IR:=.seq (.reg i68_o9) (.keep [4] [2,7])
def i68_o10:List II:=[⟨(some 52),none, .mv (.t 6)⟩,
 ⟨(some 53),none, .bin .gtr (.t 52) (.k (.int .i64 0))⟩,
 ⟨(some 54),none, .mv (.t 53)⟩,
 ⟨(some 55),(some (54,true)), .fa 0 (.t 7)⟩,
 ⟨(some 56),(some (54,true)), .ld1 (.t 55)⟩,
 ⟨(some 57),(some (54,true)), .fa 5 (.t 2)⟩,
 ⟨(some 58),(some (54,true)), .ld1 (.t 57)⟩,
 ⟨(some 59),(some (54,true)), .mv (.t 6)⟩,
 ⟨(some 60),(some (54,true)), .bin .sub (.t 59) (.k (.int .i64 1))⟩,
 ⟨(some 61),(some (54,true)), .ia 4 (.t 58) (.t 60)⟩,
 ⟨(some 62),(some (54,true)), .fa 0 (.t 61)⟩,
 ⟨(some 63),(some (54,true)), .ld1 (.t 62)⟩,
 ⟨(some 64),(some (54,true)), .bin .leq (.t 56) (.t 63)⟩,
 ⟨(some 65),none, .pick (.t 54) (.t 64) (.k (.bool false))⟩,
 ⟨(some 66),none, .mv (.t 65)⟩,
 ⟨(some 67),(some (66,false)), .fa 1 (.t 7)⟩,
 ⟨(some 68),(some (66,false)), .ld1 (.t 67)⟩,
 ⟨(some 69),(some (66,false)), .bin .geq (.t 68) (.k (.int .i64 273))⟩,
 ⟨(some 70),(some (66,false)), .mv (.t 69)⟩,
 ⟨(some 71),(some (70,true)), .fa 0 (.t 7)⟩,
 ⟨(some 72),(some (70,true)), .ld1 (.t 71)⟩,
 ⟨(some 73),(some (70,true)), .bin .rem (.t 72) (.k (.int .i64 4))⟩,
 ⟨(some 74),(some (70,true)), .bin .neq (.t 73) (.k (.int .i64 0))⟩,
 ⟨(some 75),(some (66,false)), .pick (.t 70) (.t 74) (.k (.bool false))⟩,
 ⟨(some 76),none, .pick (.t 66) (.k (.bool true)) (.t 75)⟩]
def i68_r10:IR:=.seq (.drw 12 [[],[],[],[],[],[],[],[],[],[],[],[]] i68_o10) (.keep [1,2,7,8,14,15,16,76] [2,7])
def i68_o11:List II:=[⟨(some 4),none, .mv (.k (.bool false))⟩]
def i68_r11:IR:=.seq (.reg i68_o11) (.keep [4] [2,7])
def i68_o12:List II:=[⟨(some 77),none, .fa 0 (.t 7)⟩,
 ⟨(some 78),none, .ld1 (.t 77)⟩,
 ⟨(some 79),none, .mv (.t 8)⟩,
 ⟨(some 80),none, .bin .add (.t 78) (.t 79)⟩,
 ⟨(some 5),none, .mv (.t 80)⟩]
def i68_r12:IR:=.seq (.reg i68_o12) (.keep [1,2,5,14,15,16] [2,7])
def i68_o13:List II:=[⟨(some 81),none, .bin .add (.t 16) (.k (.int .i64 1))⟩,
 ⟨(some 16),none, .mv (.t 81)⟩]
def i68_r13:IR:=.seq (.reg i68_o13) (.keep [1,2,5,14,15,16] [2,7])
def i68_l0:IR:=(.seq i68_r5
 (.seq (.cond (.t 17) .skip
 (.exit 0))
 (.seq (.block 1 (.seq i68_r6
 (.seq i68_r7
 (.seq (.seq i68_r8
 (.cond (.t 51) (.seq i68_r9
 .ret)
 .skip))
 (.seq (.seq i68_r10
 (.cond (.t 76) (.seq i68_r11
 .ret)
 .skip))
 i68_r12)))))
 i68_r13)))
def i68_o14:List II:=[⟨(some 4),none, .mv (.k (.bool true))⟩]
def i68_r14:IR:=.seq (.reg i68_o14) (.keep [4] [2,7])
def i68:IFn:=⟨(.seq i68_r0
 (.seq (.seq i68_r1
 (.cond (.t 12) (.seq i68_r2
 .ret)
 .skip))
 (.seq i68_r3
 (.seq (.seq i68_r4
 (.block 0 (.loop i68_l0)))
 (.seq i68_r14
 .ret))))),
 [.tmp 4]⟩
def i69_o0:List II:=[⟨(some 4),none, .mv (.k (.int .i64 0))⟩]
def i69_r0:IR:=.seq (.reg i69_o0) (.keep [0,1] [])
def i69_o1:List II:=[⟨(some 5),none, .mv (.t 0)⟩,
 ⟨(some 6),none, .mv (.t 1)⟩,
 ⟨(some 7),none, .call 75 [(.t 5),(.t 6)]⟩,
 ⟨(some 4),none, .mv (.t 7)⟩]
def i69_r1:IR:=.seq (.reg i69_o1) (.keep [4] [])
def i69:IFn:=⟨(.seq i69_r0
 (.seq i69_r1
 .ret)),
 [.tmp 4]⟩
def i72_o0:List II:=[⟨(some 10),none, .mv (.t 1)⟩,
 ⟨(some 11),none, .bin .add (.t 10) (.k (.int .i64 1))⟩,
 ⟨(some 8),none, .mv (.t 11)⟩]
def i72_r0:IR:=.seq (.reg i72_o0) (.keep [0,1,2,3,8] [])
def i72_o1:List II:=[⟨(some 12),none, .mv (.t 8)⟩,
 ⟨(some 13),none, .mv (.t 2)⟩,
 ⟨(some 14),none, .bin .lss (.t 12) (.t 13)⟩]
def i72_r1:IR:=.seq (.reg i72_o1) (.keep [0,1,2,3,8,14] [])
def i72_o3:List II:=[⟨(some 17),none, .mv (.t 8)⟩,
 ⟨(some 9),none, .mv (.t 17)⟩]
def i72_r3:IR:=.seq (.reg i72_o3) (.keep [0,1,2,3,8,9] [])
def i72_o4:List II:=[⟨(some 18),none, .mv (.t 9)⟩,
 ⟨(some 19),none, .mv (.t 1)⟩,
 ⟨(some 20),none, .bin .gtr (.t 18) (.t 19)⟩,
 ⟨(some 21),none, .mv (.t 20)⟩,
 ⟨(some 22),(some (21,true)), .mv (.t 3)⟩,
 ⟨(some 23),(some (21,true)), .mv (.t 0)⟩,
 ⟨(some 24),(some (21,true)), .mv (.t 9)⟩,
 ⟨(some 25),(some (21,true)), .ia 5 (.t 23) (.t 24)⟩,
 ⟨(some 26),(some (21,true)), .ldn 5 (.t 25)⟩,
 ⟨(some 27),(some (21,true)), .mv (.t 0)⟩,
 ⟨(some 28),(some (21,true)), .mv (.t 9)⟩,
 ⟨(some 29),(some (21,true)), .bin .sub (.t 28) (.k (.int .i64 1))⟩,
 ⟨(some 30),(some (21,true)), .ia 5 (.t 27) (.t 29)⟩,
 ⟨(some 31),(some (21,true)), .ldn 5 (.t 30)⟩,
 ⟨(some 32),(some (21,true)), .callv (.t 22) [(.t 26),(.t 31)]⟩,
 ⟨(some 33),(some (21,true)), .bin .lss (.t 32) (.k (.int .i64 0))⟩,
 ⟨(some 34),none, .pick (.t 21) (.t 33) (.k (.bool false))⟩]
def i72_r4:IR:=.seq (.drw 14 [[],[],[],[],[],[],[],[],[],[],[],[],[],[]] i72_o4) (.keep [0,1,2,3,8,9,34] [])
def i72_o6:List II:=[⟨(some 37),none, .mv (.t 0)⟩,
 ⟨(some 38),none, .mv (.t 9)⟩,
 ⟨(some 39),none, .mv (.t 0)⟩,
 ⟨(some 40),none, .mv (.t 9)⟩,
 ⟨(some 41),none, .bin .sub (.t 40) (.k (.int .i64 1))⟩,
 ⟨(some 42),none, .mv (.t 0)⟩,
 ⟨(some 43),none, .mv (.t 9)⟩,
 ⟨(some 44),none, .bin .sub (.t 43) (.k (.int .i64 1))⟩,
 ⟨(some 45),none, .ia 5 (.t 42) (.t 44)⟩,
 ⟨(some 46),none, .ldn 5 (.t 45)⟩,
 ⟨(some 47),none, .mv (.t 0)⟩,
 ⟨(some 48),none, .mv (.t 9)⟩,
 ⟨(some 49),none, .ia 5 (.t 47) (.t 48)⟩,
 ⟨(some 50),none, .ldn 5 (.t 49)⟩,
 ⟨(some 51),none, .ia 5 (.t 37) (.t 38)⟩,
 ⟨none,none, .st 5 (.t 51) (.t 46)⟩,
 ⟨(some 52),none, .ia 5 (.t 39) (.t 41)⟩,
 ⟨none,none, .st 5 (.t 52) (.t 50)⟩]
def i72_r6:IR:=.seq (.drw 16 [[],[],[],[],[],[],[],[],[],[],[],[],[],[],[],[2,3,4]] i72_o6) (.keep [0,1,2,3,8,9] [])
def i72_o5:List II:=[⟨(some 35),none, .mv (.t 9)⟩,
 ⟨(some 36),none, .bin .sub (.t 35) (.k (.int .i64 1))⟩,
 ⟨(some 9),none, .mv (.t 36)⟩]
def i72_r5:IR:=.seq (.reg i72_o5) (.keep [0,1,2,3,8,9] [])
def i72_l2:IR:=(.seq (.seq i72_r4
 (.cond (.t 34) .skip
 (.exit 2)))
 (.seq (.block 3 i72_r6)
 i72_r5))
def i72_o2:List II:=[⟨(some 15),none, .mv (.t 8)⟩,
 ⟨(some 16),none, .bin .add (.t 15) (.k (.int .i64 1))⟩,
 ⟨(some 8),none, .mv (.t 16)⟩]
def i72_r2:IR:=.seq (.reg i72_o2) (.keep [0,1,2,3,8] [])
def i72_l0:IR:=(.seq (.seq i72_r1
 (.cond (.t 14) .skip
 (.exit 0)))
 (.seq (.block 1 (.seq i72_r3
 (.block 2 (.loop i72_l2))))
 i72_r2))
def i72:IFn:=⟨(.seq i72_r0
 (.block 0 (.loop i72_l0))),
 []⟩
def i73_o0:List II:=[⟨(some 25),none, .mv (.t 2)⟩,
 ⟨(some 26),none, .mv (.t 1)⟩,
 ⟨(some 27),none, .bin .sub (.t 25) (.t 26)⟩,
 ⟨(some 28),none, .bin .eql (.t 27) (.k (.int .i64 1))⟩]
def i73_r0:IR:=.seq (.reg i73_o0) (.keep [0,1,2,3,4,28] [])
def i73_o1:List II:=[⟨(some 29),none, .mv (.t 2)⟩,
 ⟨(some 10),none, .mv (.t 29)⟩]
def i73_r1:IR:=.seq (.reg i73_o1) (.keep [0,1,3,4,10] [])
def i73_o2:List II:=[⟨(some 30),none, .mv (.t 3)⟩,
 ⟨(some 11),none, .mv (.t 30)⟩]
def i73_r2:IR:=.seq (.reg i73_o2) (.keep [0,1,4,10,11] [])
def i73_o3:List II:=[⟨(some 31),none, .mv (.t 10)⟩,
 ⟨(some 32),none, .mv (.t 11)⟩,
 ⟨(some 33),none, .bin .lss (.t 31) (.t 32)⟩]
def i73_r3:IR:=.seq (.reg i73_o3) (.keep [0,1,4,10,11,33] [])
def i73_o4:List II:=[⟨(some 34),none, .mv (.t 10)⟩,
 ⟨(some 35),none, .mv (.t 11)⟩,
 ⟨(some 36),none, .bin .add (.t 34) (.t 35)⟩,
 ⟨(some 37),none, .cvi .u64 (.t 36)⟩,
 ⟨(some 38),none, .bin .shr (.t 37) (.k (.int .u64 1))⟩,
 ⟨(some 39),none, .cvi .i64 (.t 38)⟩,
 ⟨(some 12),none, .mv (.t 39)⟩]
def i73_r4:IR:=.seq (.reg i73_o4) (.keep [0,1,4,10,11,12] [])
def i73_o5:List II:=[⟨(some 40),none, .mv (.t 4)⟩,
 ⟨(some 41),none, .mv (.t 0)⟩,
 ⟨(some 42),none, .mv (.t 12)⟩,
 ⟨(some 43),none, .ia 5 (.t 41) (.t 42)⟩,
 ⟨(some 44),none, .ldn 5 (.t 43)⟩,
 ⟨(some 45),none, .mv (.t 0)⟩,
 ⟨(some 46),none, .mv (.t 1)⟩,
 ⟨(some 47),none, .ia 5 (.t 45) (.t 46)⟩,
 ⟨(some 48),none, .ldn 5 (.t 47)⟩,
 ⟨(some 49),none, .callv (.t 40) [(.t 44),(.t 48)]⟩,
 ⟨(some 50),none, .bin .lss (.t 49) (.k (.int .i64 0))⟩]
def i73_r5:IR:=.seq (.drw 9 [[],[],[],[],[],[],[],[],[]] i73_o5) (.keep [0,1,4,10,11,12,50] [])
def i73_o6:List II:=[⟨(some 51),none, .mv (.t 12)⟩,
 ⟨(some 52),none, .bin .add (.t 51) (.k (.int .i64 1))⟩,
 ⟨(some 10),none, .mv (.t 52)⟩]
def i73_r6:IR:=.seq (.reg i73_o6) (.keep [0,1,4,10,11] [])
def i73_o7:List II:=[⟨(some 53),none, .mv (.t 12)⟩,
 ⟨(some 11),none, .mv (.t 53)⟩]
def i73_r7:IR:=.seq (.reg i73_o7) (.keep [0,1,4,10,11] [])
def i73_l0:IR:=(.seq (.seq i73_r3
 (.cond (.t 33) .skip
 (.exit 0)))
 (.block 1 (.seq i73_r4
 (.seq i73_r5
 (.cond (.t 50) i73_r6
 i73_r7)))))
def i73_o8:List II:=[⟨(some 54),none, .mv (.t 1)⟩,
 ⟨(some 13),none, .mv (.t 54)⟩]
def i73_r8:IR:=.seq (.reg i73_o8) (.keep [0,10,13] [])
def i73_o9:List II:=[⟨(some 55),none, .mv (.t 13)⟩,
 ⟨(some 56),none, .mv (.t 10)⟩,
 ⟨(some 57),none, .bin .sub (.t 56) (.k (.int .i64 1))⟩,
 ⟨(some 58),none, .bin .lss (.t 55) (.t 57)⟩]
def i73_r9:IR:=.seq (.reg i73_o9) (.keep [0,10,13,58] [])
def i73_o11:List II:=[⟨(some 61),none, .mv (.t 0)⟩,
 ⟨(some 62),none, .mv (.t 13)⟩,
 ⟨(some 63),none, .mv (.t 0)⟩,
 ⟨(some 64),none, .mv (.t 13)⟩,
 ⟨(some 65),none, .bin .add (.t 64) (.k (.int .i64 1))⟩,
 ⟨(some 66),none, .mv (.t 0)⟩,
 ⟨(some 67),none, .mv (.t 13)⟩,
 ⟨(some 68),none, .bin .add (.t 67) (.k (.int .i64 1))⟩,
 ⟨(some 69),none, .ia 5 (.t 66) (.t 68)⟩,
 ⟨(some 70),none, .ldn 5 (.t 69)⟩,
 ⟨(some 71),none, .mv (.t 0)⟩,
 ⟨(some 72),none, .mv (.t 13)⟩,
 ⟨(some 73),none, .ia 5 (.t 71) (.t 72)⟩,
 ⟨(some 74),none, .ldn 5 (.t 73)⟩,
 ⟨(some 75),none, .ia 5 (.t 61) (.t 62)⟩,
 ⟨none,none, .st 5 (.t 75) (.t 70)⟩,
 ⟨(some 76),none, .ia 5 (.t 63) (.t 65)⟩,
 ⟨none,none, .st 5 (.t 76) (.t 74)⟩]
def i73_r11:IR:=.seq (.drw 16 [[],[],[],[],[],[],[],[],[],[],[],[],[],[],[],[2,3,4]] i73_o11) (.keep [0,10,13] [])
def i73_o10:List II:=[⟨(some 59),none, .mv (.t 13)⟩,
 ⟨(some 60),none, .bin .add (.t 59) (.k (.int .i64 1))⟩,
 ⟨(some 13),none, .mv (.t 60)⟩]
def i73_r10:IR:=.seq (.reg i73_o10) (.keep [0,10,13] [])
def i73_l2:IR:=(.seq (.seq i73_r9
 (.cond (.t 58) .skip
 (.exit 2)))
 (.seq (.block 3 i73_r11)
 i73_r10))
def i73_o12:List II:=[⟨(some 77),none, .mv (.t 3)⟩,
 ⟨(some 78),none, .mv (.t 2)⟩,
 ⟨(some 79),none, .bin .sub (.t 77) (.t 78)⟩,
 ⟨(some 80),none, .bin .eql (.t 79) (.k (.int .i64 1))⟩]
def i73_r12:IR:=.seq (.reg i73_o12) (.keep [0,1,2,3,4,80] [])
def i73_o13:List II:=[⟨(some 81),none, .mv (.t 1)⟩,
 ⟨(some 14),none, .mv (.t 81)⟩]
def i73_r13:IR:=.seq (.reg i73_o13) (.keep [0,2,4,14] [])
def i73_o14:List II:=[⟨(some 82),none, .mv (.t 2)⟩,
 ⟨(some 15),none, .mv (.t 82)⟩]
def i73_r14:IR:=.seq (.reg i73_o14) (.keep [0,2,4,14,15] [])
def i73_o15:List II:=[⟨(some 83),none, .mv (.t 14)⟩,
 ⟨(some 84),none, .mv (.t 15)⟩,
 ⟨(some 85),none, .bin .lss (.t 83) (.t 84)⟩]
def i73_r15:IR:=.seq (.reg i73_o15) (.keep [0,2,4,14,15,85] [])
def i73_o16:List II:=[⟨(some 86),none, .mv (.t 14)⟩,
 ⟨(some 87),none, .mv (.t 15)⟩,
 ⟨(some 88),none, .bin .add (.t 86) (.t 87)⟩,
 ⟨(some 89),none, .cvi .u64 (.t 88)⟩,
 ⟨(some 90),none, .bin .shr (.t 89) (.k (.int .u64 1))⟩,
 ⟨(some 91),none, .cvi .i64 (.t 90)⟩,
 ⟨(some 16),none, .mv (.t 91)⟩]
def i73_r16:IR:=.seq (.reg i73_o16) (.keep [0,2,4,14,15,16] [])
def i73_o17:List II:=[⟨(some 92),none, .mv (.t 4)⟩,
 ⟨(some 93),none, .mv (.t 0)⟩,
 ⟨(some 94),none, .mv (.t 2)⟩,
 ⟨(some 95),none, .ia 5 (.t 93) (.t 94)⟩,
 ⟨(some 96),none, .ldn 5 (.t 95)⟩,
 ⟨(some 97),none, .mv (.t 0)⟩,
 ⟨(some 98),none, .mv (.t 16)⟩,
 ⟨(some 99),none, .ia 5 (.t 97) (.t 98)⟩,
 ⟨(some 100),none, .ldn 5 (.t 99)⟩,
 ⟨(some 101),none, .callv (.t 92) [(.t 96),(.t 100)]⟩,
 ⟨(some 102),none, .bin .lss (.t 101) (.k (.int .i64 0))⟩,
 ⟨(some 103),none, .un .not (.t 102)⟩]
def i73_r17:IR:=.seq (.drw 9 [[],[],[],[],[],[],[],[],[]] i73_o17) (.keep [0,2,4,14,15,16,103] [])
def i73_o18:List II:=[⟨(some 104),none, .mv (.t 16)⟩,
 ⟨(some 105),none, .bin .add (.t 104) (.k (.int .i64 1))⟩,
 ⟨(some 14),none, .mv (.t 105)⟩]
def i73_r18:IR:=.seq (.reg i73_o18) (.keep [0,2,4,14,15] [])
def i73_o19:List II:=[⟨(some 106),none, .mv (.t 16)⟩,
 ⟨(some 15),none, .mv (.t 106)⟩]
def i73_r19:IR:=.seq (.reg i73_o19) (.keep [0,2,4,14,15] [])
def i73_l4:IR:=(.seq (.seq i73_r15
 (.cond (.t 85) .skip
 (.exit 4)))
 (.block 5 (.seq i73_r16
 (.seq i73_r17
 (.cond (.t 103) i73_r18
 i73_r19)))))
def i73_o20:List II:=[⟨(some 107),none, .mv (.t 2)⟩,
 ⟨(some 17),none, .mv (.t 107)⟩]
def i73_r20:IR:=.seq (.reg i73_o20) (.keep [0,14,17] [])
def i73_o21:List II:=[⟨(some 108),none, .mv (.t 17)⟩,
 ⟨(some 109),none, .mv (.t 14)⟩,
 ⟨(some 110),none, .bin .gtr (.t 108) (.t 109)⟩]
def i73_r21:IR:=.seq (.reg i73_o21) (.keep [0,14,17,110] [])
def i73_o23:List II:=[⟨(some 113),none, .mv (.t 0)⟩,
 ⟨(some 114),none, .mv (.t 17)⟩,
 ⟨(some 115),none, .mv (.t 0)⟩,
 ⟨(some 116),none, .mv (.t 17)⟩,
 ⟨(some 117),none, .bin .sub (.t 116) (.k (.int .i64 1))⟩,
 ⟨(some 118),none, .mv (.t 0)⟩,
 ⟨(some 119),none, .mv (.t 17)⟩,
 ⟨(some 120),none, .bin .sub (.t 119) (.k (.int .i64 1))⟩,
 ⟨(some 121),none, .ia 5 (.t 118) (.t 120)⟩,
 ⟨(some 122),none, .ldn 5 (.t 121)⟩,
 ⟨(some 123),none, .mv (.t 0)⟩,
 ⟨(some 124),none, .mv (.t 17)⟩,
 ⟨(some 125),none, .ia 5 (.t 123) (.t 124)⟩,
 ⟨(some 126),none, .ldn 5 (.t 125)⟩,
 ⟨(some 127),none, .ia 5 (.t 113) (.t 114)⟩,
 ⟨none,none, .st 5 (.t 127) (.t 122)⟩,
 ⟨(some 128),none, .ia 5 (.t 115) (.t 117)⟩,
 ⟨none,none, .st 5 (.t 128) (.t 126)⟩]
def i73_r23:IR:=.seq (.drw 16 [[],[],[],[],[],[],[],[],[],[],[],[],[],[],[],[2,3,4]] i73_o23) (.keep [0,14,17] [])
def i73_o22:List II:=[⟨(some 111),none, .mv (.t 17)⟩,
 ⟨(some 112),none, .bin .sub (.t 111) (.k (.int .i64 1))⟩,
 ⟨(some 17),none, .mv (.t 112)⟩]
def i73_r22:IR:=.seq (.reg i73_o22) (.keep [0,14,17] [])
def i73_l6:IR:=(.seq (.seq i73_r21
 (.cond (.t 110) .skip
 (.exit 6)))
 (.seq (.block 7 i73_r23)
 i73_r22))
def i73_o24:List II:=[⟨(some 129),none, .mv (.t 1)⟩,
 ⟨(some 130),none, .mv (.t 3)⟩,
 ⟨(some 131),none, .bin .add (.t 129) (.t 130)⟩,
 ⟨(some 132),none, .cvi .u64 (.t 131)⟩,
 ⟨(some 133),none, .bin .shr (.t 132) (.k (.int .u64 1))⟩,
 ⟨(some 134),none, .cvi .i64 (.t 133)⟩,
 ⟨(some 18),none, .mv (.t 134)⟩]
def i73_r24:IR:=.seq (.reg i73_o24) (.keep [0,1,2,3,4,18] [])
def i73_o25:List II:=[⟨(some 135),none, .mv (.t 18)⟩,
 ⟨(some 136),none, .mv (.t 2)⟩,
 ⟨(some 137),none, .bin .add (.t 135) (.t 136)⟩,
 ⟨(some 19),none, .mv (.t 137)⟩]
def i73_r25:IR:=.seq (.reg i73_o25) (.keep [0,1,2,3,4,18,19] [])
def i73_o26:List II:=[⟨(some 20),none, .mv (.k (.int .i64 0))⟩,
 ⟨(some 21),none, .mv (.k (.int .i64 0))⟩]
def i73_r26:IR:=.seq (.reg i73_o26) (.keep [0,1,2,3,4,18,19] [])
def i73_o27:List II:=[⟨(some 138),none, .mv (.t 2)⟩,
 ⟨(some 139),none, .mv (.t 18)⟩,
 ⟨(some 140),none, .bin .gtr (.t 138) (.t 139)⟩]
def i73_r27:IR:=.seq (.reg i73_o27) (.keep [0,1,2,3,4,18,19,140] [])
def i73_o28:List II:=[⟨(some 141),none, .mv (.t 19)⟩,
 ⟨(some 142),none, .mv (.t 3)⟩,
 ⟨(some 143),none, .bin .sub (.t 141) (.t 142)⟩,
 ⟨(some 20),none, .mv (.t 143)⟩]
def i73_r28:IR:=.seq (.reg i73_o28) (.keep [0,1,2,3,4,18,19,20] [])
def i73_o29:List II:=[⟨(some 144),none, .mv (.t 18)⟩,
 ⟨(some 21),none, .mv (.t 144)⟩]
def i73_r29:IR:=.seq (.reg i73_o29) (.keep [0,1,2,3,4,18,19,20,21] [])
def i73_o30:List II:=[⟨(some 145),none, .mv (.t 1)⟩,
 ⟨(some 20),none, .mv (.t 145)⟩]
def i73_r30:IR:=.seq (.reg i73_o30) (.keep [0,1,2,3,4,18,19,20] [])
def i73_o31:List II:=[⟨(some 146),none, .mv (.t 2)⟩,
 ⟨(some 21),none, .mv (.t 146)⟩]
def i73_r31:IR:=.seq (.reg i73_o31) (.keep [0,1,2,3,4,18,19,20,21] [])
def i73_o32:List II:=[⟨(some 147),none, .mv (.t 19)⟩,
 ⟨(some 148),none, .bin .sub (.t 147) (.k (.int .i64 1))⟩,
 ⟨(some 22),none, .mv (.t 148)⟩]
def i73_r32:IR:=.seq (.reg i73_o32) (.keep [0,1,2,3,4,18,19,20,21,22] [])
def i73_o33:List II:=[⟨(some 149),none, .mv (.t 20)⟩,
 ⟨(some 150),none, .mv (.t 21)⟩,
 ⟨(some 151),none, .bin .lss (.t 149) (.t 150)⟩]
def i73_r33:IR:=.seq (.reg i73_o33) (.keep [0,1,2,3,4,18,19,20,21,22,151] [])
def i73_o34:List II:=[⟨(some 152),none, .mv (.t 20)⟩,
 ⟨(some 153),none, .mv (.t 21)⟩,
 ⟨(some 154),none, .bin .add (.t 152) (.t 153)⟩,
 ⟨(some 155),none, .cvi .u64 (.t 154)⟩,
 ⟨(some 156),none, .bin .shr (.t 155) (.k (.int .u64 1))⟩,
 ⟨(some 157),none, .cvi .i64 (.t 156)⟩,
 ⟨(some 23),none, .mv (.t 157)⟩]
def i73_r34:IR:=.seq (.reg i73_o34) (.keep [0,1,2,3,4,18,19,20,21,22,23] [])
def i73_o35:List II:=[⟨(some 158),none, .mv (.t 4)⟩,
 ⟨(some 159),none, .mv (.t 0)⟩,
 ⟨(some 160),none, .mv (.t 22)⟩,
 ⟨(some 161),none, .mv (.t 23)⟩,
 ⟨(some 162),none, .bin .sub (.t 160) (.t 161)⟩,
 ⟨(some 163),none, .ia 5 (.t 159) (.t 162)⟩,
 ⟨(some 164),none, .ldn 5 (.t 163)⟩,
 ⟨(some 165),none, .mv (.t 0)⟩,
 ⟨(some 166),none, .mv (.t 23)⟩,
 ⟨(some 167),none, .ia 5 (.t 165) (.t 166)⟩,
 ⟨(some 168),none, .ldn 5 (.t 167)⟩,
 ⟨(some 169),none, .callv (.t 158) [(.t 164),(.t 168)]⟩,
 ⟨(some 170),none, .bin .lss (.t 169) (.k (.int .i64 0))⟩,
 ⟨(some 171),none, .un .not (.t 170)⟩]
def i73_r35:IR:=.seq (.drw 11 [[],[],[],[],[],[],[],[],[],[],[]] i73_o35) (.keep [0,1,2,3,4,18,19,20,21,22,23,171] [])
def i73_o36:List II:=[⟨(some 172),none, .mv (.t 23)⟩,
 ⟨(some 173),none, .bin .add (.t 172) (.k (.int .i64 1))⟩,
 ⟨(some 20),none, .mv (.t 173)⟩]
def i73_r36:IR:=.seq (.reg i73_o36) (.keep [0,1,2,3,4,18,19,20,21,22] [])
def i73_o37:List II:=[⟨(some 174),none, .mv (.t 23)⟩,
 ⟨(some 21),none, .mv (.t 174)⟩]
def i73_r37:IR:=.seq (.reg i73_o37) (.keep [0,1,2,3,4,18,19,20,21,22] [])
def i73_l8:IR:=(.seq (.seq i73_r33
 (.cond (.t 151) .skip
 (.exit 8)))
 (.block 9 (.seq i73_r34
 (.seq i73_r35
 (.cond (.t 171) i73_r36
 i73_r37)))))
def i73_o38:List II:=[⟨(some 175),none, .mv (.t 19)⟩,
 ⟨(some 176),none, .mv (.t 20)⟩,
 ⟨(some 177),none, .bin .sub (.t 175) (.t 176)⟩,
 ⟨(some 24),none, .mv (.t 177)⟩]
def i73_r38:IR:=.seq (.reg i73_o38) (.keep [0,1,2,3,4,18,20,24] [])
def i73_o39:List II:=[⟨(some 178),none, .mv (.t 20)⟩,
 ⟨(some 179),none, .mv (.t 2)⟩,
 ⟨(some 180),none, .bin .lss (.t 178) (.t 179)⟩,
 ⟨(some 181),none, .mv (.t 180)⟩,
 ⟨(some 182),(some (181,true)), .mv (.t 2)⟩,
 ⟨(some 183),(some (181,true)), .mv (.t 24)⟩,
 ⟨(some 184),(some (181,true)), .bin .lss (.t 182) (.t 183)⟩,
 ⟨(some 185),none, .pick (.t 181) (.t 184) (.k (.bool false))⟩]
def i73_r39:IR:=.seq (.reg i73_o39) (.keep [0,1,2,3,4,18,20,24,185] [])
def i73_o40:List II:=[⟨(some 186),none, .mv (.t 0)⟩,
 ⟨(some 187),none, .mv (.t 20)⟩,
 ⟨(some 188),none, .mv (.t 2)⟩,
 ⟨(some 189),none, .mv (.t 24)⟩,
 ⟨(some 190),none, .mv (.t 4)⟩,
 ⟨(some 191),none, .callf 77 [(.t 186),(.t 187),(.t 188),(.t 189),(.t 190)]⟩]
def i73_r40:IR:=.seq (.reg i73_o40) (.keep [0,1,3,4,18,20,24] [])
def i73_o41:List II:=[⟨(some 192),none, .mv (.t 1)⟩,
 ⟨(some 193),none, .mv (.t 20)⟩,
 ⟨(some 194),none, .bin .lss (.t 192) (.t 193)⟩,
 ⟨(some 195),none, .mv (.t 194)⟩,
 ⟨(some 196),(some (195,true)), .mv (.t 20)⟩,
 ⟨(some 197),(some (195,true)), .mv (.t 18)⟩,
 ⟨(some 198),(some (195,true)), .bin .lss (.t 196) (.t 197)⟩,
 ⟨(some 199),none, .pick (.t 195) (.t 198) (.k (.bool false))⟩]
def i73_r41:IR:=.seq (.reg i73_o41) (.keep [0,1,3,4,18,20,24,199] [])
def i73_o42:List II:=[⟨(some 200),none, .mv (.t 0)⟩,
 ⟨(some 201),none, .mv (.t 1)⟩,
 ⟨(some 202),none, .mv (.t 20)⟩,
 ⟨(some 203),none, .mv (.t 18)⟩,
 ⟨(some 204),none, .mv (.t 4)⟩,
 ⟨(some 205),none, .callf 73 [(.t 200),(.t 201),(.t 202),(.t 203),(.t 204)]⟩]
def i73_r42:IR:=.seq (.reg i73_o42) (.keep [0,3,4,18,24] [])
def i73_o43:List II:=[⟨(some 206),none, .mv (.t 18)⟩,
 ⟨(some 207),none, .mv (.t 24)⟩,
 ⟨(some 208),none, .bin .lss (.t 206) (.t 207)⟩,
 ⟨(some 209),none, .mv (.t 208)⟩,
 ⟨(some 210),(some (209,true)), .mv (.t 24)⟩,
 ⟨(some 211),(some (209,true)), .mv (.t 3)⟩,
 ⟨(some 212),(some (209,true)), .bin .lss (.t 210) (.t 211)⟩,
 ⟨(some 213),none, .pick (.t 209) (.t 212) (.k (.bool false))⟩]
def i73_r43:IR:=.seq (.reg i73_o43) (.keep [0,3,4,18,24,213] [])
def i73_o44:List II:=[⟨(some 214),none, .mv (.t 0)⟩,
 ⟨(some 215),none, .mv (.t 18)⟩,
 ⟨(some 216),none, .mv (.t 24)⟩,
 ⟨(some 217),none, .mv (.t 3)⟩,
 ⟨(some 218),none, .mv (.t 4)⟩,
 ⟨(some 219),none, .callf 73 [(.t 214),(.t 215),(.t 216),(.t 217),(.t 218)]⟩]
def i73_r44:IR:=.seq (.reg i73_o44) (.keep [] [])
def i73:IFn:=⟨(.seq (.seq i73_r0
 (.cond (.t 28) (.seq i73_r1
 (.seq i73_r2
 (.seq (.block 0 (.loop i73_l0))
 (.seq (.seq i73_r8
 (.block 2 (.loop i73_l2)))
 .ret))))
 .skip))
 (.seq (.seq i73_r12
 (.cond (.t 80) (.seq i73_r13
 (.seq i73_r14
 (.seq (.block 4 (.loop i73_l4))
 (.seq (.seq i73_r20
 (.block 6 (.loop i73_l6)))
 .ret))))
 .skip))
 (.seq i73_r24
 (.seq i73_r25
 (.seq i73_r26
 (.seq (.seq i73_r27
 (.cond (.t 140) (.seq i73_r28
 i73_r29)
 (.seq i73_r30
 i73_r31)))
 (.seq i73_r32
 (.seq (.block 8 (.loop i73_l8))
 (.seq i73_r38
 (.seq (.seq i73_r39
 (.cond (.t 185) i73_r40
 .skip))
 (.seq (.seq i73_r41
 (.cond (.t 199) i73_r42
 .skip))
 (.seq i73_r43
 (.cond (.t 213) i73_r44
 .skip))))))))))))),
 []⟩
def i74_o0:List II:=[⟨(some 4),none, .mv (.k (.int .i64 0))⟩]
def i74_r0:IR:=.seq (.reg i74_o0) (.keep [0,1] [])
def i74_o1:List II:=[⟨(some 5),none, .mv (.t 0)⟩,
 ⟨(some 6),none, .mv (.t 1)⟩,
 ⟨(some 7),none, .call 78 [(.t 5),(.t 6)]⟩,
 ⟨(some 4),none, .mv (.t 7)⟩]
def i74_r1:IR:=.seq (.reg i74_o1) (.keep [4] [])
def i74:IFn:=⟨(.seq i74_r0
 (.seq i74_r1
 .ret)),
 [.tmp 4]⟩
def i75_o0:List II:=[⟨(some 4),none, .mv (.k (.int .i64 0))⟩]
def i75_r0:IR:=.seq (.reg i75_o0) (.keep [0,1] [])
def i75_o1:List II:=[⟨(some 5),none, .mv (.t 0)⟩,
 ⟨(some 6),none, .mv (.t 1)⟩,
 ⟨(some 7),none, .call 79 [(.t 5),(.t 6)]⟩,
 ⟨(some 4),none, .mv (.t 7)⟩]
def i75_r1:IR:=.seq (.reg i75_o1) (.keep [4] [])
def i75:IFn:=⟨(.seq i75_r0
 (.seq i75_r1
 .ret)),
 [.tmp 4]⟩
def i77_o0:List II:=[⟨(some 12),none, .mv (.t 2)⟩,
 ⟨(some 13),none, .mv (.t 1)⟩,
 ⟨(some 14),none, .bin .sub (.t 12) (.t 13)⟩,
 ⟨(some 10),none, .mv (.t 14)⟩]
def i77_r0:IR:=.seq (.reg i77_o0) (.keep [0,2,3,4,10] [])
def i77_o1:List II:=[⟨(some 15),none, .mv (.t 3)⟩,
 ⟨(some 16),none, .mv (.t 2)⟩,
 ⟨(some 17),none, .bin .sub (.t 15) (.t 16)⟩,
 ⟨(some 11),none, .mv (.t 17)⟩]
def i77_r1:IR:=.seq (.reg i77_o1) (.keep [0,2,4,10,11] [])
def i77_o2:List II:=[⟨(some 18),none, .mv (.t 10)⟩,
 ⟨(some 19),none, .mv (.t 11)⟩,
 ⟨(some 20),none, .bin .neq (.t 18) (.t 19)⟩]
def i77_r2:IR:=.seq (.reg i77_o2) (.keep [0,2,4,10,11,20] [])
def i77_o3:List II:=[⟨(some 21),none, .mv (.t 10)⟩,
 ⟨(some 22),none, .mv (.t 11)⟩,
 ⟨(some 23),none, .bin .gtr (.t 21) (.t 22)⟩]
def i77_r3:IR:=.seq (.reg i77_o3) (.keep [0,2,4,10,11,23] [])
def i77_o4:List II:=[⟨(some 24),none, .mv (.t 0)⟩,
 ⟨(some 25),none, .mv (.t 2)⟩,
 ⟨(some 26),none, .mv (.t 10)⟩,
 ⟨(some 27),none, .bin .sub (.t 25) (.t 26)⟩,
 ⟨(some 28),none, .mv (.t 2)⟩,
 ⟨(some 29),none, .mv (.t 11)⟩,
 ⟨(some 30),none, .mv (.t 4)⟩,
 ⟨(some 31),none, .callf 80 [(.t 24),(.t 27),(.t 28),(.t 29),(.t 30)]⟩]
def i77_r4:IR:=.seq (.reg i77_o4) (.keep [0,2,4,10,11] [])
def i77_o5:List II:=[⟨(some 32),none, .mv (.t 10)⟩,
 ⟨(some 33),none, .mv (.t 11)⟩,
 ⟨(some 34),none, .bin .sub (.t 32) (.t 33)⟩,
 ⟨(some 10),none, .mv (.t 34)⟩]
def i77_r5:IR:=.seq (.reg i77_o5) (.keep [0,2,4,10,11] [])
def i77_o6:List II:=[⟨(some 35),none, .mv (.t 0)⟩,
 ⟨(some 36),none, .mv (.t 2)⟩,
 ⟨(some 37),none, .mv (.t 10)⟩,
 ⟨(some 38),none, .bin .sub (.t 36) (.t 37)⟩,
 ⟨(some 39),none, .mv (.t 2)⟩,
 ⟨(some 40),none, .mv (.t 11)⟩,
 ⟨(some 41),none, .bin .add (.t 39) (.t 40)⟩,
 ⟨(some 42),none, .mv (.t 10)⟩,
 ⟨(some 43),none, .bin .sub (.t 41) (.t 42)⟩,
 ⟨(some 44),none, .mv (.t 10)⟩,
 ⟨(some 45),none, .mv (.t 4)⟩,
 ⟨(some 46),none, .callf 80 [(.t 35),(.t 38),(.t 43),(.t 44),(.t 45)]⟩]
def i77_r6:IR:=.seq (.reg i77_o6) (.keep [0,2,4,10,11] [])
def i77_o7:List II:=[⟨(some 47),none, .mv (.t 11)⟩,
 ⟨(some 48),none, .mv (.t 10)⟩,
 ⟨(some 49),none, .bin .sub (.t 47) (.t 48)⟩,
 ⟨(some 11),none, .mv (.t 49)⟩]
def i77_r7:IR:=.seq (.reg i77_o7) (.keep [0,2,4,10,11] [])
def i77_l0:IR:=(.seq (.seq i77_r2
 (.cond (.t 20) .skip
 (.exit 0)))
 (.block 1 (.seq i77_r3
 (.cond (.t 23) (.seq i77_r4
 i77_r5)
 (.seq i77_r6
 i77_r7)))))
def i77_o8:List II:=[⟨(some 50),none, .mv (.t 0)⟩,
 ⟨(some 51),none, .mv (.t 2)⟩,
 ⟨(some 52),none, .mv (.t 10)⟩,
 ⟨(some 53),none, .bin .sub (.t 51) (.t 52)⟩,
 ⟨(some 54),none, .mv (.t 2)⟩,
 ⟨(some 55),none, .mv (.t 10)⟩,
 ⟨(some 56),none, .mv (.t 4)⟩,
 ⟨(some 57),none, .callf 80 [(.t 50),(.t 53),(.t 54),(.t 55),(.t 56)]⟩]
def i77_r8:IR:=.seq (.reg i77_o8) (.keep [] [])
def i77:IFn:=⟨(.seq i77_r0
 (.seq i77_r1
 (.seq (.block 0 (.loop i77_l0))
 i77_r8))),
 []⟩
def i80_o0:List II:=[⟨(some 10),none, .mv (.k (.int .i64 0))⟩]
def i80_r0:IR:=.seq (.reg i80_o0) (.keep [0,1,2,3,10] [])
def i80_o1:List II:=[⟨(some 11),none, .mv (.t 10)⟩,
 ⟨(some 12),none, .mv (.t 3)⟩,
 ⟨(some 13),none, .bin .lss (.t 11) (.t 12)⟩]
def i80_r1:IR:=.seq (.reg i80_o1) (.keep [0,1,2,3,10,13] [])
def i80_o3:List II:=[⟨(some 16),none, .mv (.t 0)⟩,
 ⟨(some 17),none, .mv (.t 1)⟩,
 ⟨(some 18),none, .mv (.t 10)⟩,
 ⟨(some 19),none, .bin .add (.t 17) (.t 18)⟩,
 ⟨(some 20),none, .mv (.t 0)⟩,
 ⟨(some 21),none, .mv (.t 2)⟩,
 ⟨(some 22),none, .mv (.t 10)⟩,
 ⟨(some 23),none, .bin .add (.t 21) (.t 22)⟩,
 ⟨(some 24),none, .mv (.t 0)⟩,
 ⟨(some 25),none, .mv (.t 2)⟩,
 ⟨(some 26),none, .mv (.t 10)⟩,
 ⟨(some 27),none, .bin .add (.t 25) (.t 26)⟩,
 ⟨(some 28),none, .ia 5 (.t 24) (.t 27)⟩,
 ⟨(some 29),none, .ldn 5 (.t 28)⟩,
 ⟨(some 30),none, .mv (.t 0)⟩,
 ⟨(some 31),none, .mv (.t 1)⟩,
 ⟨(some 32),none, .mv (.t 10)⟩,
 ⟨(some 33),none, .bin .add (.t 31) (.t 32)⟩,
 ⟨(some 34),none, .ia 5 (.t 30) (.t 33)⟩,
 ⟨(some 35),none, .ldn 5 (.t 34)⟩,
 ⟨(some 36),none, .ia 5 (.t 16) (.t 19)⟩,
 ⟨none,none, .st 5 (.t 36) (.t 29)⟩,
 ⟨(some 37),none, .ia 5 (.t 20) (.t 23)⟩,
 ⟨none,none, .st 5 (.t 37) (.t 35)⟩]
def i80_r3:IR:=.seq (.drw 22 [[],[],[],[],[],[],[],[],[],[],[],[],[],[],[],[],[],[],[],[],[],[4,5,6,7]] i80_o3) (.keep [0,1,2,3,10] [])
def i80_o2:List II:=[⟨(some 14),none, .mv (.t 10)⟩,
 ⟨(some 15),none, .bin .add (.t 14) (.k (.int .i64 1))⟩,
 ⟨(some 10),none, .mv (.t 15)⟩]
def i80_r2:IR:=.seq (.reg i80_o2) (.keep [0,1,2,3,10] [])
def i80_l0:IR:=(.seq (.seq i80_r1
 (.cond (.t 13) .skip
 (.exit 0)))
 (.seq (.block 1 i80_r3)
 i80_r2))
def i80:IFn:=⟨(.seq i80_r0
 (.block 0 (.loop i80_l0))),
 []⟩
def fns:FuncId→Option IFn
  | 6=>some i6
  | 11=>some i11
  | 17=>some i17
  | 19=>some i19
  | 20=>some i20
  | 21=>some i21
  | 22=>some i22
  | 23=>some i23
  | 24=>some i24
  | 25=>some i25
  | 30=>some i30
  | 33=>some i33
  | 35=>some i35
  | 36=>some i36
  | 37=>some i37
  | 38=>some i38
  | 39=>some i39
  | 40=>some i40
  | 41=>some i41
  | 42=>some i42
  | 43=>some i43
  | 44=>some i44
  | 45=>some i45
  | 46=>some i46
  | 57=>some i57
  | 61=>some i61
  | 62=>some i62
  | 63=>some i63
  | 64=>some i64
  | 65=>some i65
  | 66=>some i66
  | 67=>some i67
  | 68=>some i68
  | 69=>some i69
  | 72=>some i72
  | 73=>some i73
  | 74=>some i74
  | 75=>some i75
  | 77=>some i77
  | 80=>some i80
  | _=>none
end Go.Proofs.YtgmphfmoonbfpaaMv

namespace Go.Proofs.YtgmphfmoonbfpaaMv
open Go
structure Sl (α:Type) where
  nn:Bool
  l:List α
  deriving DecidableEq,Inhabited
def strc (s:List UInt8):List D:=[D.str s]
def u8c (b:UInt8):List D:=[D.int .u8 (b.toNat:Int)]
theorem dqn:deqK [] [] []=some (decide True):=rfl
theorem dq0 {ks:List Nat} {a b:Bool} {x y:List D} {p:Prop} [Decidable p] (h:deqK ks x y=some (decide p)):deqK (0::ks) (D.bool a::x) (D.bool b::y)=some (decide (a=b∧p)):=by
  simp only [deqK,beq_iff_eq]
  by_cases hab:a=b <;> simp [hab,h]
theorem dq1 {ks:List Nat} {k:IntKind} {a b:Int} {x y:List D} {p:Prop} [Decidable p] (h:deqK ks x y=some (decide p)):deqK (1::ks) (D.int k a::x) (D.int k b::y)=some (decide (a=b∧p)):=by
  simp only [deqK,beq_iff_eq,if_true]
  by_cases hab:a=b <;> simp [hab,h]
theorem dq2 {ks:List Nat} {a b:List UInt8} {x y:List D} {p:Prop} [Decidable p] (h:deqK ks x y=some (decide p)):deqK (2::ks) (D.str a::x) (D.str b::y)=some (decide (a=b∧p)):=by
  simp only [deqK,beq_iff_eq]
  by_cases hab:a=b <;> simp [hab,h]
structure TVal where
  add:Int
  plus:List UInt8
  minus:List UInt8
  deriving DecidableEq,Inhabited
structure TReg where
  n:Int
  x:Bool
  sp:Bool
  deriving DecidableEq,Inhabited
structure TOpr where
  kind:Int
  r:TReg
  m:TReg
  md:Int
  amt:Int
  n:Int
  v:TVal
  lo:Bool
  mode:Int
  deriving DecidableEq,Inhabited
structure TLin where
  name:List UInt8
  opers:Sl (TOpr)
  deriving DecidableEq,Inhabited
structure TStm where
  labels:Sl (List UInt8)
  kind:Int
  line:TLin
  names:Sl (List UInt8)
  size:Int
  values:Sl (TVal)
  bytes:Sl (UInt8)
  deriving DecidableEq,Inhabited
structure TRow where
  line:Int
  s:TStm
  deriving DecidableEq,Inhabited
structure TPce where
  kind:Int
  file:Int
  line:Int
  l:TLin
  v:TVal
  size:Int
  b:Sl (UInt8)
  align:Int
  deriving DecidableEq,Inhabited
structure TPrt where
  name:List UInt8
  file:Int
  line:Int
  pieces:Sl (TPce)
  deriving DecidableEq,Inhabited
structure TMrk where
  name:List UInt8
  file:Int
  line:Int
  part:Int
  piece:Int
  equ:Bool
  v:TVal
  deriving DecidableEq,Inhabited
structure TTld where
  name:List UInt8
  file:Int
  line:Int
  deriving DecidableEq,Inhabited
structure TUnt where
  parts:Sl (TPrt)
  marks:Sl (TMrk)
  globals:Sl (TTld)
  deriving DecidableEq,Inhabited
structure TFlt where
  file:Int
  line:Int
  err:Int
  deriving DecidableEq,Inhabited
structure TItm where
  kind:Int
  size:Int
  align:Int
  to:Int
  add:Int
  low:Int
  high:Int
  deriving DecidableEq,Inhabited
structure TRlc where
  off:Int
  typ:Int
  sym:Int
  addend:Int
  deriving DecidableEq,Inhabited
def TRlc.c (x:TRlc):List D:=[D.int .i64 x.off,D.int .i64 x.typ,D.int .i64 x.sym,D.int .i64 x.addend]
def TRlc.oc (x:TRlc):List C:=[C.d (D.int .i64 x.off),C.d (D.int .i64 x.typ),C.d (D.int .i64 x.sym),C.d (D.int .i64 x.addend)]
theorem TRlc.deq (x y:TRlc):deqT true [1,1,1,1] (.agg x.c) (.agg y.c)=some (decide (x=y)):=by
  have h:(x=y) ↔ x.off=y.off∧x.typ=y.typ∧x.sym=y.sym∧x.addend=y.addend:=by
    constructor
    · rintro rfl;simp
    · intro h
      obtain ⟨h0,h1,h2,h3⟩:=h
      obtain ⟨_,_,_,_⟩:=x
      obtain ⟨_,_,_,_⟩:=y
      simp_all
  simp only [deqT,TRlc.c,List.length_cons,List.length_nil,and_self,if_true]
  refine (dq1 (dq1 (dq1 (dq1 dqn)))).trans ?_
  congr 1
  rw [decide_eq_decide,h]
  simp only [and_true]
structure TSec where
  name:List UInt8
  kind:Int
  align:Int
  size:Int
  data:Sl (UInt8)
  relocs:Sl (TRlc)
  deriving DecidableEq,Inhabited
def TSec.c (x:TSec):List D:=[D.str x.name,D.int .i64 x.kind,D.int .i64 x.align,D.int .i64 x.size,D.sl x.data.nn (x.data.l.map u8c),D.sl x.relocs.nn (x.relocs.l.map TRlc.c)]
def TSec.oc (x:TSec):List C:=[C.d (D.str x.name),C.d (D.int .i64 x.kind),C.d (D.int .i64 x.align),C.d (D.int .i64 x.size),C.d (D.sl x.data.nn (x.data.l.map u8c)),C.d (D.sl x.relocs.nn (x.relocs.l.map TRlc.c))]
structure TSym where
  name:List UInt8
  sect:Int
  value:Int
  glob:Bool
  deriving DecidableEq,Inhabited
def TSym.c (x:TSym):List D:=[D.str x.name,D.int .i64 x.sect,D.int .i64 x.value,D.bool x.glob]
def TSym.oc (x:TSym):List C:=[C.d (D.str x.name),C.d (D.int .i64 x.sect),C.d (D.int .i64 x.value),C.d (D.bool x.glob)]
theorem TSym.deq (x y:TSym):deqT true [2,1,1,0] (.agg x.c) (.agg y.c)=some (decide (x=y)):=by
  have h:(x=y) ↔ x.name=y.name∧x.sect=y.sect∧x.value=y.value∧x.glob=y.glob:=by
    constructor
    · rintro rfl;simp
    · intro h
      obtain ⟨h0,h1,h2,h3⟩:=h
      obtain ⟨_,_,_,_⟩:=x
      obtain ⟨_,_,_,_⟩:=y
      simp_all
  simp only [deqT,TSym.c,List.length_cons,List.length_nil,and_self,if_true]
  refine (dq2 (dq1 (dq1 (dq0 dqn)))).trans ?_
  congr 1
  rw [decide_eq_decide,h]
  simp only [and_true]
structure TObj where
  sections:Sl (TSec)
  symbols:Sl (TSym)
  deriving DecidableEq,Inhabited
def TObj.c (x:TObj):List D:=[D.sl x.sections.nn (x.sections.l.map TSec.c),D.sl x.symbols.nn (x.symbols.l.map TSym.c)]
def TObj.oc (x:TObj):List C:=[C.d (D.sl x.sections.nn (x.sections.l.map TSec.c)),C.d (D.sl x.symbols.nn (x.symbols.l.map TSym.c))]
structure TNum where
  s:TSym
  n:Int
  deriving DecidableEq,Inhabited
def TNum.c (x:TNum):List D:=[D.str x.s.name,D.int .i64 x.s.sect,D.int .i64 x.s.value,D.bool x.s.glob,D.int .i64 x.n]
def TNum.oc (x:TNum):List C:=[C.d (D.str x.s.name),C.d (D.int .i64 x.s.sect),C.d (D.int .i64 x.s.value),C.d (D.bool x.s.glob),C.d (D.int .i64 x.n)]
end Go.Proofs.YtgmphfmoonbfpaaMv

namespace Go.Proofs.YtgmphfmoonbfpaaMv
open Go
def ext:FuncId→List V→Option V
  | 78,[.d (.str a), .d (.str b)]=>some (.d (.int .i64 (Go.Lib.compareBytes a b)))
  | 79,[.d (.str s), .d (.int .u8 c)]=>some (.d (.int .i64 (Go.Lib.indexByte s c.toNat.toUInt8)))
  | _,_=>none
def pg:Pg:=⟨fns,ext⟩
theorem wrap64 {x:Int} (h1:-9223372036854775808≤x) (h2:x<9223372036854775808):IntKind.i64.wrap x=x:=by
  simp [IntKind.wrap,IntKind.signed,IntKind.bits]
  omega
end Go.Proofs.YtgmphfmoonbfpaaMv

set_option maxRecDepth 100000
namespace Go.Proofs.YtgmphfmoonbfpaaMv
open Go
def i17c:IR:=.seq i17_r1 (.cond (.t 22) (.seq i17_r2 .ret) .skip)
def i17p:IR:=.seq i17_r7 (.seq (.seq i17_r8 (.block 2 (.loop i17_l2))) (.seq i17_r27 .ret))
theorem i17_eq:i17.body = .seq i17_r0 (.seq i17c (.seq i17_r3 (.seq (.seq i17_r4 (.block 0 (.back 25 28 i17_l0))) i17p))):=rfl
structure S17 (P:Program) (fn:Func) (r0 c1 r3:Code) (id4:Nat) (ops4:Array Oper) (o4:Oper) (id5:Nat) (ops5:Array Oper) (id6:Nat) (ops6:Array Oper) (post:Code):Prop where
  fun_:P.funcs[17]? = some fn
  name:fn.name ≠ "runtime.NumGoroutine"
  body:fn.body=some (.seq r0 (.seq c1 (.seq r3 (.seq (.seq (.region id4 ops4 false) (.block 0 (.rangeFunc (.tmp 26) #[27,28] (.region id5 ops5 false) (.block 1 (.region id6 ops6 false))))) post))))
  nt:84=fn.ntmps
  k0:chkC P 84 i17_r0 r0=true
  k1:chkC P 84 i17c c1=true
  k3:chkC P 84 i17_r3 r3=true
  kp:chkC P 84 i17p post=true
  k4:opsOk P 84 ops4 (ops4.toList.take 2) i17_o4=true
  sz4:ops4.size=3
  o4a:ops4[2]? = some o4
  o4g:o4.guard=none
  o4d:o4.dst=some 26
  o4o:∃ ts,o4.op=Op.call { callee:=.value (.func 34),args:=#[.tmp 25],argTypes:=ts }
  k5:opsOk P 84 ops5 ops5.toList i17_o5=true
  k6:opsOk P 84 ops6 ops6.toList i17_o6=true
  p5:∀ (j:Nat) o,ops5[j]? = some o→PlainO P o
  p6:∀ (j:Nat) o,ops6[j]? = some o→PlainO P o
  d5:∀ (j:Nat) o,ops5[j]? = some o→o.dst=none ∨ ∃ t,o.dst=some t∧t ∈ [7,29,30,31,32]
  d6:∀ (j:Nat) o,ops6[j]? = some o→o.dst=none ∨ ∃ t,o.dst=some t∧t ∈ [7,29,30,31,32]
  res:resAll P fn.results.toList i17.res=true
theorem all_ops {ops:Array Oper} {p:Oper→Prop} (l:List Oper) (hl:ops.toList=l) (h:∀ o ∈ l,p o):∀ (j:Nat) o,ops[j]? = some o→p o:=by
  intro j o ho
  apply h
  rw [←hl]
  exact Array.mem_toList_iff.2 (Array.mem_of_getElem? ho)
theorem s17:∃ fn r0 c1 r3 id4 ops4 o4 id5 ops5 id6 ops6 post,S17 Try.prog fn r0 c1 r3 id4 ops4 o4 id5 ops5 id6 ops6 post:=by
  refine ⟨Try.f17,_,_,_,_,_,_,_,_,_,_,_, { fun_:=Try.func17,name:=?_,body:=rfl,nt:=rfl,k0:=?_,k1:=?_,k3:=?_,kp:=?_,k4:=?_,sz4:=rfl,o4a:=rfl,o4g:=rfl,o4d:=rfl,o4o:=⟨_,rfl⟩,k5:=?_,k6:=?_,p5:=?_,p6:=?_,d5:=?_,d6:=?_,res:=?_ }⟩
  · show "cooper/frag.Items" ≠ "runtime.NumGoroutine"
    decide
  · kernel_rfl
  · kernel_rfl
  · kernel_rfl
  · kernel_rfl
  · kernel_rfl
  · kernel_rfl
  · kernel_rfl
  · refine all_ops _ rfl fun o ho=>?_
    simp only [List.mem_cons,List.not_mem_nil,or_false] at ho
    rcases ho with rfl | rfl
    · exact plain_v (by simp) (fun _=>Instr.alloc 92 true (.tuple #[])) (fun _=>rfl)
    · exact plain_u (by simp) (fun ρ=>Instr.storeAt 92 (ρ (.tmp 7)) (ρ (.tmp 28))) (fun _=>rfl)
  · refine all_ops _ rfl fun o ho=>?_
    simp only [List.mem_cons,List.not_mem_nil,or_false] at ho
    rcases ho with rfl | rfl | rfl | rfl | rfl
    · exact plain_v (by simp) (fun ρ=>Instr.loadAt 106 (ρ (.tmp 5))) (fun _=>rfl)
    · exact plain_v (by simp) (fun ρ=>Instr.fieldAt 92 (ρ (.tmp 7)) 0) (fun _=>rfl)
    · exact plain_v (by simp) (fun ρ=>Instr.loadAt 9 (ρ (.tmp 30))) (fun _=>rfl)
    · exact plain_v (by simp) (fun ρ=>Instr.loadAt 92 (ρ (.tmp 7))) (fun _=>rfl)
    · exact plain_u (by simp) (fun ρ=>Instr.mapUpdate 106 (ρ (.tmp 29)) (ρ (.tmp 31)) (ρ (.tmp 32))) (fun _=>rfl)
  · refine all_ops _ rfl fun o ho=>?_
    simp only [List.mem_cons,List.not_mem_nil,or_false] at ho
    rcases ho with rfl | rfl <;> simp
  · refine all_ops _ rfl fun o ho=>?_
    simp only [List.mem_cons,List.not_mem_nil,or_false] at ho
    rcases ho with rfl | rfl | rfl | rfl | rfl <;> simp
  · kernel_rfl
end Go.Proofs.YtgmphfmoonbfpaaMv

namespace Go.Proofs.YtgmphfmoonbfpaaMv
open Go
section
variable {n:Nat} {callr:CallR}
theorem ev_seq {a b:IR} {st st':St} {ex:Ex} (h:ev n callr (.seq a b) st=some (ex,st')):(∃ s1,ev n callr a st=some (.normal,s1)∧ev n callr b s1=some (ex,st'))∨(ex ≠ .normal∧ev n callr a st=some (ex,st')):=by
  simp only [ev] at h
  cases ha:ev n callr a st with
  | none=>simp [ha] at h
  | some r=>
    obtain ⟨e1,s1⟩:=r
    cases e1 with
    | normal=>rw [ha] at h;exact .inl ⟨s1,rfl,h⟩
    | ret=>rw [ha] at h;simp only [Option.some.injEq,Prod.mk.injEq] at h;exact .inr ⟨by rw [←h.1];simp,by rw [h.1,h.2]⟩
    | exit id=>rw [ha] at h;simp only [Option.some.injEq,Prod.mk.injEq] at h;exact .inr ⟨by rw [←h.1];simp,by rw [h.1,h.2]⟩
theorem ev_reg_keep {ops:List II} {l os:List Nat} {st st':St} {ex:Ex} (h:ev n callr (.seq (.reg ops) (.keep l os)) st=some (ex,st')):ex = .normal ∧ ∃ s1,stepsI callr st ops=some s1∧evKeep s1 l os=some st':=by
  rcases ev_seq h with ⟨s1,h1,h2⟩ | ⟨h1,h2⟩
  · simp only [ev,Option.map_eq_some_iff,Prod.mk.injEq] at h1 h2
    obtain ⟨s,h1,_,rfl⟩:=h1
    obtain ⟨s',h2,rfl,rfl⟩:=h2
    exact ⟨rfl,s,h1,h2⟩
  · simp only [ev,Option.map_eq_some_iff,Prod.mk.injEq] at h2
    obtain ⟨s,_,h2,_⟩:=h2
    exact absurd h2.symm h1
theorem ev_block {b:IR} {id:Nat} {st st':St} (h:ev n callr (.block id b) st=some (.normal,st')):ev n callr b st=some (.normal,st')∨ev n callr b st=some (.exit id,st'):=by
  simp only [ev] at h
  split at h
  · rename_i j s1 h1
    simp only [Option.some.injEq,Prod.mk.injEq] at h
    obtain ⟨h2,rfl⟩:=h
    split at h2
    · rename_i hj;have:j=id:=by simpa using hj
      subst this;exact .inr h1
    · cases h2
  · exact .inl h
theorem l0_inv {st st':St} (h:ev n callr i17_l0 st=some (.normal,st')):∃ s1 s2 s3 l1 o1 o2,stepsI callr st i17_o5=some s1∧evKeep s1 l1 o1=some s2∧stepsI callr s2 i17_o6=some s3∧evKeep s3 [1,2,5,25] o2=some st':=by
  unfold i17_l0 at h
  rcases ev_seq h with ⟨s2,h1,h2⟩ | ⟨h1,_⟩
  · unfold i17_r5 at h1
    obtain ⟨_,s1,k1,k2⟩:=ev_reg_keep h1
    rcases ev_block h2 with h2 | h2
    · unfold i17_r6 at h2
      obtain ⟨_,s3,k3,k4⟩:=ev_reg_keep h2
      exact ⟨s1,s2,s3,_,_,_,k1,k2,k3,k4⟩
    · unfold i17_r6 at h2
      obtain ⟨k0,_⟩:=ev_reg_keep h2
      cases k0
  · exact absurd rfl h1
theorem keep_bad {st st':St} {l os:List Nat} (h:evKeep st l os=some st') {x:Nat} (hx:x ∉ l):st'.f x = .bad:=by
  unfold evKeep at h
  split at h
  · cases h
  · simp only at h
    split at h
    · simp only [Option.some.injEq] at h
      rw [←h]
      simp only [St.f,look_pick,if_neg hx,Option.getD_none]
    · cases h
end
structure LinkX (l:Nat) (X:Nat→Prop) (h:Hp) (B:Gh) (w:World) (h':Hp) (B':Gh) (w':World):Prop where
  rv:∀ v x,RV1 X h B w v x→v.hi→RV1 X h' B' w' v.sh1 x
  os:w'.os=w.os
  tape:w'.tape=w.tape
  output:w'.output=w.output
  size:w.heap.size≤w'.heap.size
  keep:∀ b,b<w.heap.size→b≠l→¬Own h B b→w'.heap[b]? = w.heap[b]?
  own:∀ b,b<w.heap.size→Own h' B' b→Own h B b
section
variable {l:Nat} {X:Nat→Prop} {h h' h'':Hp} {B B' B'':Gh} {w w' w'':World}
theorem Link.toX (L:Link X h B w h' B' w') (l:Nat):LinkX l X h B w h' B' w':=⟨L.rv,L.stp.os,L.stp.tape,L.stp.output,L.stp.size,fun b hb _ ho=>L.stp.keep b hb ho,L.stp.own⟩
theorem LinkX.refl (l:Nat) (X:Nat→Prop) (h:Hp) (B:Gh) (w:World):LinkX l X h B w h B w:=(Link.refl X h B w).toX l
theorem LinkX.trans (L:LinkX l X h B w h' B' w') (K:LinkX l X h' B' w' h'' B'' w''):LinkX l X h B w h'' B'' w'':=
  ⟨fun v x hv hh=>by have:=K.rv _ _ (L.rv v x hv hh) (sh1_hi hh);rwa [sh1_sh1] at this,K.os.trans L.os,K.tape.trans L.tape,K.output.trans L.output,Nat.le_trans L.size K.size,
    fun b hb hl ho=>(K.keep b (Nat.lt_of_lt_of_le hb L.size) hl (fun h2=>ho (L.own b hb h2))).trans (L.keep b hb hl ho),
    fun b hb h2=>L.own b hb (K.own b (Nat.lt_of_lt_of_le hb L.size) h2)⟩
theorem LinkX.put {o:Obj} (o':Obj) (ho:w.heap[l]? = some o) (h1:∀ arr t fr,o ≠ .cells arr t fr) (h2:∀ es c,o ≠ .map es c):LinkX l X h B w h B (w.putObj l o'):=by
  have O:=Oth.put o' ho h1 h2
  exact ⟨fun v x hv _=>rv1_sh1 (O.rv1 hv),rfl,rfl,rfl,O.size,fun b _ hb _=>World.putObj_heap_other hb,fun _ _ h=>h⟩
end
end Go.Proofs.YtgmphfmoonbfpaaMv

namespace Go.Proofs.YtgmphfmoonbfpaaMv
open Go
theorem letsOut_no {Q:Exit→Act→World→Prop} (h:∀ a w,¬Q .outgrown a w):¬LetsOut Q:=by
  rintro ⟨a,w,hq⟩
  exact h a w hq
section
variable {P:Program} {X:Nat→Prop} {callr:CallR} {k:Nat}
theorem region_in (S:Sound P callr) {l id:Nat} {ops:Array Oper} {is:List II} (hk:opsOk P 84 ops ops.toList is=true) (hp:∀ (j:Nat) o,ops[j]? = some o→PlainO P o) {st st1:St} {B:Gh} {w:World} {a:Act}
    (A:At X 84 st.f (hof st.hp) B w a) (hs:stepsI callr st is=some st1) {Q:Exit→Act→World→Prop}
    (hQ:∀ a1 w1 B1,At X 84 st1.f (hof st1.hp) B1 w1 a1→Link X (hof st.hp) B w (hof st1.hp) B1 w1→st1.hp.length=st.hp.length→AgreeO ops a a1→Q .normal a1 w1) :
    (Code.region id ops false).wpIn (Fence.wide.inRound l) k P Q a w:=by
  obtain ⟨hlen,hok⟩:=opsOk_spec hk
  have hw:wpOps P ops (fun e a1 w1=>e = .normal ∧ ∃ B1,At X 84 st1.f (hof st1.hp) B1 w1 a1∧Link X (hof st.hp) B w (hof st1.hp) B1 w1∧st1.hp.length=st.hp.length) (List.range' 0 is.length) a w:=by
    refine steps_ok S is 0 A (fun n i hn=>?_) hs fun a1 w1 B1 A1 L1 e1=>⟨rfl,B1,A1,L1,e1⟩
    have hlt:n<ops.size:=by
      have:=(List.getElem?_eq_some_iff.1 hn).1
      rw [hlen] at this
      simpa using this
    have ho:ops[n]? = some ops[n]:=Array.getElem?_eq_getElem hlt
    exact ⟨ops[n],by simp,hok n ops[n] i (by simp) hn⟩
  have h2:=ops_in (n:=k) (l:=l) (letsOut_no (by rintro a w ⟨h,_⟩;cases h)) hp _ a a w (AgreeO.refl ops a) hw
  rw [show is.length=ops.size by rw [hlen];simp,←List.range_eq_range'] at h2
  refine wpIn_mono (wpIn_region (id:=id) h2) ?_
  rintro e a1 w1 ⟨⟨rfl,B1,A1,L1,e1⟩,hA⟩
  exact hQ a1 w1 B1 A1 L1 e1 hA
theorem At.oth {st:St} {B:Gh} {w w':World} {a:Act} (O:Oth w w') (A:At X 84 st.f (hof st.hp) B w a):At X 84 st.f (hof st.hp) B w' a:=⟨O.hrel A.hr,fun t=>O.rv (A.fr t),A.nt,A.df⟩
theorem st_cons_f {st:St} {v:V} (x:Nat):St.f { st with fr:=(28,v)::st.fr } x=if 28=x then v else st.f x:=by
  simp only [St.f,look]
  by_cases h:28=x
  · subst h;simp
  · simp [h]
variable {fn:Func} {r0 c1 r3:Code} {id4:Nat} {ops4:Array Oper} {o4:Oper} {id5:Nat} {ops5:Array Oper} {id6:Nat} {ops6:Array Oper} {post:Code}
theorem round17 (S:Sound P callr) (hs:S17 P fn r0 c1 r3 id4 ops4 o4 id5 ops5 id6 ops6 post) {m:Nat} {st st':St} {ds:List D} (h:ev m callr i17_l0 { st with fr:=(28, .d (.agg ds))::st.fr } = some (.normal,st'))
    (hb:∀ x,x ∉ [1,2,5,25]→st.f x = .bad) {B:Gh} {w:World} {tm:Array Value} (A:At X 84 st.f (hof st.hp) B w { tmps:=tm,defers:=[] })
    {vi:Value} {va:Array Value} (hd:RD w (Forb X (hof st.hp) B) (.agg ds) (.agg va)) {l:Nat} {rec:Loop} (hl:w.heap[l]? = some (.loop rec)) (hr:rec.state = .ready) (hpn:rec.pending=none) (hol:¬Own (hof st.hp) B l) {g:FuncId} :
    RoundIn Fence.wide k P l g ((tm.setIfInBounds 27 vi).setIfInBounds 28 (.agg va)) (.region id5 ops5 false) (.block 1 (.region id6 ops6 false)) w fun e w'=>e = .returned (.bool true) ∧
      ∃ B',At X 84 st'.f (hof st'.hp) B' w' { tmps:=tm,defers:=[] } ∧ LinkX l X (hof st.hp) B w (hof st'.hp) B' w'∧st'.hp.length=st.hp.length∧(∀ x,x ∉ [1,2,5,25]→st'.f x = .bad)∧w'.heap[l]? = some (.loop rec) ∧ ¬Own (hof st'.hp) B' l:=by
  obtain ⟨s1,s2,s3,l1,o1,o2,e1,e2,e3,e4⟩:=l0_inv h
  have hlw:l<w.heap.size:=(Array.getElem?_eq_some_iff.1 hl).1
  have hsz:84≤tm.size:=A.nt
  have A0:At X 84 (St.f { st with fr:=(28, .d (.agg ds))::st.fr }) (hof ({ st with fr:=(28, .d (.agg ds))::st.fr }:St).hp) B w { tmps:=(tm.setIfInBounds 27 vi).setIfInBounds 28 (.agg va),defers:=[] }:=by
    refine ⟨A.hr,fun x=>?_,by simpa using hsz,rfl⟩
    rw [st_cons_f]
    by_cases h28:28=x
    · subst h28
      rw [if_pos rfl]
      have:((tm.setIfInBounds 27 vi).setIfInBounds 28 (.agg va)).getD 28 undef = .agg va:=by simp [show 28<tm.size by omega]
      rw [this]
      exact RV.of1 hd
    · rw [if_neg h28]
      by_cases h27:x=27
      · subst h27
        rw [hb 27 (by decide)]
        exact RV.of1 trivial
      · have:((tm.setIfInBounds 27 vi).setIfInBounds 28 (.agg va)).getD x undef=tm.getD x undef:=by
          simp [Array.getElem?_setIfInBounds_ne h28,Array.getElem?_setIfInBounds_ne (Ne.symm h27)]
        rw [this]
        exact A.fr x
  refine roundIn_of_wpIn trivial ?_
  refine region_in (k:=k) S hs.k5 hs.p5 A0 e1 fun a1 w1 B1 A1 L1 n1 G1=>?_
  obtain ⟨A2,L2,n2⟩:=keep_ok A1 e2
  have L12:Link X (hof st.hp) B w (hof s2.hp) B1 w1:=L1.trans L2
  have hl1:w1.heap[l]? = some (.loop rec):=(L12.stp.keep l hlw hol).trans hl
  have ho1:¬Own (hof s2.hp) B1 l:=fun hh=>hol (L12.stp.own l hlw hh)
  have O1:Oth w1 (w1.putObj l (.loop { rec with state:=.busy })):=Oth.put _ hl1 (by simp) (by simp)
  have hlw1:l<w1.heap.size:=(Array.getElem?_eq_some_iff.1 hl1).1
  have hl2:(w1.putObj l (.loop { rec with state:=.busy })).heap[l]? = some (.loop { rec with state:=.busy }):=World.putObj_heap_same hlw1
  refine ⟨_,run_beginRound hl1 hr, ?_⟩
  refine wpIn_block ?_
  refine region_in (k:=k) S hs.k6 hs.p6 (A2.oth O1) e3 fun a3 w3 B3 A3 L3 n3 G3=>?_
  obtain ⟨A4,L4,n4⟩:=keep_ok A3 e4
  have L34:=L3.trans L4
  have hlw2:l<(w1.putObj l (.loop { rec with state:=.busy })).heap.size:=by simpa using hlw1
  have hl3:w3.heap[l]? = some (.loop { rec with state:=.busy }):=(L34.stp.keep l hlw2 ho1).trans hl2
  have ho3:¬Own (hof st'.hp) B3 l:=fun hh=>ho1 (L34.stp.own l hlw2 hh)
  have O3:Oth w3 (w3.putObj l (.loop { { rec with state:=.busy } with state:=.ready,pending:=none })):=Oth.put _ hl3 (by simp) (by simp)
  have hrec:({ { rec with state:=.busy } with state:=.ready,pending:=none }:Loop)=rec:=by
    cases rec;simp_all
  have hend:=run_endRound (P:=P) none hl3
  simp only [Option.isNone_none,if_true] at hend
  refine ⟨_,_,hend,rfl,B3,⟨O3.hrel A4.hr,fun x=>O3.rv ?_,by simpa using hsz,rfl⟩, ?_, ?_,fun x hx=>keep_bad e4 hx, ?_,ho3⟩
  · by_cases hx:x ∈ [1,2,5,25]
    · have hdst:∀ t,t ∈ [7,29,30,31,32]→t≠x:=by
        intro t ht e
        subst e
        simp only [List.mem_cons,List.not_mem_nil,or_false] at ht hx
        omega
      have g3:=G3 x (fun j o ho he=>by
        rcases hs.d6 j o ho with h1 | ⟨t,h1,h2⟩
        · rw [h1] at he;cases he
        · rw [h1] at he;exact hdst t h2 (Option.some.inj he))
      have g1:=G1 x (fun j o ho he=>by
        rcases hs.d5 j o ho with h1 | ⟨t,h1,h2⟩
        · rw [h1] at he;cases he
        · rw [h1] at he;exact hdst t h2 (Option.some.inj he))
      have hv:=A4.fr x
      rw [g3,g1] at hv
      have h27:x≠27:=by rintro rfl;simp at hx
      have h28:x≠28:=by rintro rfl;simp at hx
      have:((tm.setIfInBounds 27 vi).setIfInBounds 28 (.agg va)).getD x undef=tm.getD x undef:=by
        simp [Array.getElem?_setIfInBounds_ne (Ne.symm h28),Array.getElem?_setIfInBounds_ne (Ne.symm h27)]
      rw [this] at hv
      exact hv
    · rw [keep_bad e4 hx]
      exact RV.of1 trivial
  · exact (L12.toX l).trans ((LinkX.put _ hl1 (by simp) (by simp)).trans ((L34.toX l).trans (LinkX.put _ hl3 (by simp) (by simp))))
  · rw [n4,n3,n2,n1]
  · rw [hrec]
    exact World.putObj_heap_same (Array.getElem?_eq_some_iff.1 hl3).1
end
end Go.Proofs.YtgmphfmoonbfpaaMv

namespace Go.Proofs.YtgmphfmoonbfpaaMv
open Go
theorem callFunc34 (args:Array Value) (w:World):(callFunc 34 args).run Try.prog w = .ok (.enter 34 args) w:=by
  simp [callFunc,program,Sem.run,Try.func34,Try.f34]
theorem callFunc60 (args:Array Value) (w:World):(callFunc 60 args).run Try.prog w = .ok (.enter 60 args) w:=by
  simp [callFunc,program,Sem.run,Try.func60,Try.f60]
theorem exec34 {o:Oper} {ts:Array TypeId} (ho:o.op=Op.call { callee:=.value (.func 34),args:=#[.tmp 25],argTypes:=ts }) (a:Act) (w:World) :
    (execOp a.eval o).run Try.prog w = .ok (.enter 34 #[a.tmps.getD 25 undef]) w:=by
  unfold execOp
  rw [ho]
  simp [resolve,invoke,go_sem,Act.eval,callFunc34]
theorem call34 {ops:Array Oper} {o:Oper} {ts:Array TypeId} (h2:ops[2]? = some o) (hg:o.guard=none) (hd:o.dst=some 26) (ho:o.op=Op.call { callee:=.value (.func 34),args:=#[.tmp 25],argTypes:=ts }) {a:Act} {w:World} {K:Act→World→Prop} {Q:Exit→Act→World→Prop}
    (h1:(a.tmps.getD 25 undef).oneCell'=true)
    (hK:K (a.put (some 26) (.func (.func 60) #[] #[.pointer (some ⟨w.heap.size,0,none⟩)])) (w.alloc (.cells #[a.tmps.getD 25 undef] 29))):wpOp Try.prog ops Q 2 K a w:=by
  unfold wpOp
  rw [h2]
  simp only [Region.wanted,hg,if_true]
  refine .inl ?_
  unfold Oper.wp
  rw [exec34 ho,Oper.upon_enter,hd]
  refine Calls.mono (back_calls _ h1 w) fun e w' he=>?_
  obtain ⟨rfl,rfl⟩:=he
  exact hK
theorem backGo_n {body:St→Option (Ex × St)} {d:Nat}:∀ {l:List (List D)} {st st':St} {ex:Ex},backGo body d l st=some (ex,st')→ex = .normal
  | [],st,st',ex,h=>by simp only [backGo,Option.some.injEq,Prod.mk.injEq] at h;exact h.1.symm
  | ds::l,st,st',ex,h=>by
    simp only [backGo] at h
    split at h
    · exact backGo_n h
    · cases h
theorem l0_nine {n:Nat} {callr:CallR} {st st':St} {ds:List D} (h:ev n callr i17_l0 { st with fr:=(28, .d (.agg ds))::st.fr } = some (.normal,st')):ds.length=9:=by
  obtain ⟨s1,s2,s3,l1,o1,o2,e1,e2,e3,e4⟩:=l0_inv h
  unfold i17_o5 at e1
  simp only [stepsI,Option.bind_eq_some_iff] at e1
  obtain ⟨t1,k1,t2,k2,_⟩:=e1
  have f28:t1.f 28 = .d (.agg ds):=by
    simp only [stepI,wantedI,Option.bind_some,if_true,eff,Option.getD_some,St.applyO] at k1
    split at k1
    · simp only [Option.some.injEq] at k1
      rw [←k1]
      simp only [St.f,St.apply,look_put]
      simp [look,V.kills]
      rfl
    · cases k1
  simp only [stepI,wantedI,Option.bind_some,if_true,eff,Option.bind_eq_some_iff] at k2
  obtain ⟨e,he,_⟩:=k2
  split at he
  · simp only [Option.bind_eq_some_iff] at he
    obtain ⟨x,hx,_⟩:=he
    have hx2:cellsOf (hof t1.hp) 9 (t1.f 28)=some x:=hx
    rw [f28] at hx2
    simp only [cellsOf] at hx2
    split at hx2
    · assumption
    · cases hx2
  · cases he
theorem sl_inv {w:World} {N:Nat→Prop} {nn:Bool} {es:List (List D)} {v:Value} (h:RD w N (.sl nn es) v) (h9:∀ ds ∈ es,ds.length=9) :
    v.oneCell'=true ∧ ∃ ad cap,v = .slice ad es.length cap ∧ ∃ cvs:Nat→Nat→Value,∀ i ds,es[i]? = some ds→∃ a0,ad=some a0 ∧ ¬N a0.block ∧
      ∀ k d,ds[k]? = some d→w.cell? ⟨(a0.add (i * 9)).block,(a0.add (i * 9)).off+k,none⟩=some (cvs i k)∧w.cell? (a0.add (i * 9))=some (cvs i 0)∧(cvs i k).oneCell'=true∧RD w N d (cvs i k):=by
  cases h with
  | slnil=>exact ⟨rfl,none,0,rfl,fun _ _=>undef,by simp⟩
  | sl _ _ a sz cap cvs h0 hcap hsz hN hc h1 hd=>
    refine ⟨rfl,some a,cap,rfl,cvs,fun i ds hi=>?_⟩
    have hm:ds ∈ es:=List.mem_of_getElem? hi
    have hs:sz=9:=by rw [←hsz ds hm,h9 ds hm]
    subst hs
    have hdk:∀ k d,ds[k]? = some d→dAt es i k=some d:=fun k d hk=>by simp [dAt,hi,hk]
    have hcell:∀ k d,ds[k]? = some d→w.cell? ⟨(a.add (i * 9)).block,(a.add (i * 9)).off+k,none⟩=some (cvs i k)∧(k=0→w.cell? (a.add (i * 9))=some (cvs i 0)):=by
      intro k d hk
      have hck:=hc i k d (hdk k d hk)
      have h2:a.add (i * 9+k)=⟨a.block,a.off+(i * 9+k),none⟩:=by
        unfold Addr.add
        split
        · rename_i h3
          have hsp:a.spot=none:=by
            have hck2:=hck
            rw [h3] at hck2
            unfold Addr.add at hck2
            simp only [if_true] at hck2
            unfold World.cell? at hck2
            split at hck2
            · split at hck2
              · cases hck2
              · rename_i h4;cases hx:a.spot <;> simp_all
            · cases hck2
          rw [h3]
          cases a;simp_all
        · rfl
      have h5:(a.add (i * 9)).block=a.block∧(a.add (i * 9)).off=a.off+i * 9:=by
        unfold Addr.add
        split
        · rename_i h3;simp [h3]
        · exact ⟨rfl,rfl⟩
      rw [h2] at hck
      refine ⟨by rw [h5.1,h5.2,Nat.add_assoc];exact hck,fun hk0=>?_⟩
      subst hk0
      have:=hc i 0 d (hdk 0 d hk)
      simpa using this
    have hN0:¬N a.block:=by
      have h9d:=h9 ds hm
      obtain ⟨d,hd0⟩:∃ d,ds[0]? = some d:=⟨ds[0],List.getElem?_eq_getElem (by omega)⟩
      exact hN i 0 d (hdk 0 d hd0)
    refine ⟨a,rfl,hN0,fun k d hk=>⟨(hcell k d hk).1, ?_,h1 i k d (hdk k d hk),hd i k d (hdk k d hk)⟩⟩
    have h9d:=h9 ds hm
    obtain ⟨d0,hd0⟩:∃ d,ds[0]? = some d:=⟨ds[0],List.getElem?_eq_getElem (by omega)⟩
    exact (hcell 0 d0 hd0).2 rfl
end Go.Proofs.YtgmphfmoonbfpaaMv

namespace Go.Proofs.YtgmphfmoonbfpaaMv
open Go
theorem backGo_nine {n:Nat} {callr:CallR}:∀ {l:List (List D)} {st st':St} {ex:Ex},backGo (ev n callr i17_l0) 28 l st=some (ex,st')→∀ ds ∈ l,ds.length=9
  | [],st,st',ex,h,ds,hd=>by cases hd
  | d0::l,st,st',ex,h,ds,hd=>by
    simp only [backGo] at h
    split at h
    · rename_i st1 h1
      rcases List.mem_cons.1 hd with rfl | hd
      · exact l0_nine h1
      · exact backGo_nine h ds hd
    · cases h
section
variable {X:Nat→Prop} {callr:CallR} {fn:Func} {r0 c1 r3:Code} {id4:Nat} {ops4:Array Oper} {o4:Oper} {id5:Nat} {ops5:Array Oper} {id6:Nat} {ops6:Array Oper} {post:Code}
theorem Link.ofX {l:Nat} {h h':Hp} {B B':Gh} {w w1 w':World} (O:Oth w w1) (hos:w1.os=w.os) (ht:w1.tape=w.tape) (hout:w1.output=w.output) (hk:∀ b,b<w.heap.size→w1.heap[b]? = w.heap[b]?) (hl:w.heap.size≤l) (L:LinkX l X h B w1 h' B' w'):Link X h B w h' B' w':=
  ⟨fun v x hv hh=>L.rv v x (O.rv1 hv) hh,L.os.trans hos,L.tape.trans ht,L.output.trans hout,Nat.le_trans O.size L.size,
    fun b hb ho=>(L.keep b (Nat.lt_of_lt_of_le hb O.size) (by omega) ho).trans (hk b hb),fun b hb h2=>L.own b (Nat.lt_of_lt_of_le hb O.size) h2⟩
structure Mid (callr:CallR) (m l:Nat) (X:Nat→Prop) (st4 st5:St) (B4:Gh) (W1:World) (tm:Array Value) (rec:Loop) (es:List (List D)) (j:Nat) (W:World) (st:St) (B:Gh):Prop where
  go:backGo (ev m callr i17_l0) 28 (es.take j).reverse st=some (.normal,st5)
  bad:∀ x,x ∉ [1,2,5,25]→st.f x = .bad
  at_:At X 84 st.f (hof st.hp) B W { tmps:=tm,defers:=[] }
  link:LinkX l X (hof st4.hp) B4 W1 (hof st.hp) B W
  len:st.hp.length=st4.hp.length
  rec_:W.heap[l]? = some (.loop rec)
  own:¬Own (hof st.hp) B l
theorem rf_inv {m:Nat} {st3 st5:St} {ex:Ex} (h:ev m callr (.seq i17_r4 (.block 0 (.back 25 28 i17_l0))) st3=some (ex,st5)) :
    ex = .normal ∧ ∃ s1 st4 os nn es,stepsI callr st3 i17_o4=some s1∧evKeep s1 [1,2,5,25] os=some st4∧st4.f 25 = .d (.sl nn es)∧es.length<1099511627776∧backGo (ev m callr i17_l0) 28 es.reverse st4=some (.normal,st5):=by
  rcases ev_seq h with ⟨st4,h1,h2⟩ | ⟨h1,h2⟩
  · unfold i17_r4 at h1
    obtain ⟨_,s1,k1,k2⟩:=ev_reg_keep h1
    have key:∀ e' s',ev m callr (.back 25 28 i17_l0) st4=some (e',s')→e' = .normal ∧ ∃ nn es,st4.f 25 = .d (.sl nn es)∧es.length<1099511627776∧backGo (ev m callr i17_l0) 28 es.reverse st4=some (.normal,s'):=by
      intro e' s' hx
      simp only [ev] at hx
      split at hx
      · rename_i nn es hf
        split at hx
        · rename_i hl
          have hn:=backGo_n hx
          subst hn
          exact ⟨rfl,nn,es,hf,hl,hx⟩
        · cases hx
      · cases hx
    cases hx:ev m callr (.back 25 28 i17_l0) st4 with
    | none=>simp [ev.eq_def m callr (.block 0 _),hx] at h2
    | some r=>
      obtain ⟨e',s'⟩:=r
      obtain ⟨rfl,nn,es,g1,g2,g3⟩:=key e' s' hx
      have h3:some (Ex.normal,s')=some (ex,st5):=by
        rw [←h2]
        conv=>rhs;rw [ev.eq_def]
        simp only [hx]
      simp only [Option.some.injEq,Prod.mk.injEq] at h3
      obtain ⟨rfl,rfl⟩:=h3
      exact ⟨rfl,s1,st4,_,nn,es,k1,k2,g1,g2,g3⟩
  · unfold i17_r4 at h2
    obtain ⟨k0,_⟩:=ev_reg_keep h2
    exact absurd k0 h1
theorem alloc_keep (w:World) (o:Obj) {b:Nat} (hb:b<w.heap.size):(w.alloc o).heap[b]? = w.heap[b]?:=by
  show (w.heap.push o)[b]? = w.heap[b]?
  rw [Array.getElem?_push_lt hb,Array.getElem?_eq_getElem hb]
theorem LinkX.cell {l:Nat} {h h':Hp} {B B':Gh} {w w':World} (L:LinkX l X h B w h' B' w') {rec:Loop} (hl:w.heap[l]? = some (.loop rec)) {A:Addr} {v:Value} (hn:¬Own h B A.block) (hc:w.cell? A=some v):w'.cell? A=some v:=by
  unfold World.cell? at hc ⊢
  split at hc
  · rename_i c t fr hb
    have hlt:=(Array.getElem?_eq_some_iff.1 hb).1
    have hne:A.block≠l:=by
      intro e
      rw [e,hl] at hb
      cases hb
    rw [L.keep _ hlt hne hn,hb]
    exact hc
  · cases hc
def elOf (cvs:Nat→Nat→Value) (i:Nat):Array Value:=#[cvs i 0,cvs i 1,cvs i 2,cvs i 3,cvs i 4,cvs i 5,cvs i 6,cvs i 7,cvs i 8]
theorem elOf_get (cvs:Nat→Nat→Value) (i k:Nat) (v:Value) (h:(elOf cvs i)[k]? = some v):k<9∧v=cvs i k:=by
  unfold elOf at h
  have hk:k<9:=by simpa using (Array.getElem?_eq_some_iff.1 h).1
  refine ⟨hk, ?_⟩
  match k,hk,h with
  | 0,_,h=>simpa using h.symm
  | 1,_,h=>simpa using h.symm
  | 2,_,h=>simpa using h.symm
  | 3,_,h=>simpa using h.symm
  | 4,_,h=>simpa using h.symm
  | 5,_,h=>simpa using h.symm
  | 6,_,h=>simpa using h.symm
  | 7,_,h=>simpa using h.symm
  | 8,_,h=>simpa using h.symm
set_option maxHeartbeats 2000000 in
theorem rf17 (S:Sound Try.prog callr) (hs:S17 Try.prog fn r0 c1 r3 id4 ops4 o4 id5 ops5 id6 ops6 post) {m:Nat} {st3 st5:St} {ex:Ex} (hev:ev m callr (.seq i17_r4 (.block 0 (.back 25 28 i17_l0))) st3=some (ex,st5))
    {B3:Gh} {w3:World} {a3:Act} (A3:At X 84 st3.f (hof st3.hp) B3 w3 a3) {Q:Exit→Act→World→Prop}
    (hK:∀ D B5 w5 a5, @At ⟨[{ target:=.collected D,args:=#[] }]⟩ X 84 st5.f (hof st5.hp) B5 w5 a5→Link X (hof st3.hp) B3 w3 (hof st5.hp) B5 w5→st5.hp.length=st3.hp.length→w5.heap[D]? = some (.deferred (some []))→w3.heap.size≤D→¬Own (hof st5.hp) B5 D→Q .normal a5 w5) :
    (Code.seq (.region id4 ops4 false) (.block 0 (.rangeFunc (.tmp 26) #[27,28] (.region id5 ops5 false) (.block 1 (.region id6 ops6 false))))).wp Try.prog Q a3 w3:=by
  obtain ⟨-,s1,st4,os4,nn,es,e1,e2,hf25,hlen,hgo⟩:=rf_inv hev
  refine wp_seq (wp_region ?_)
  rw [show List.range ops4.size=[0,1,2] by rw [hs.sz4];rfl]
  obtain ⟨hkl,hok⟩:=opsOk_spec hs.k4
  have hget:∀ j,j<2→∃ o,ops4[j]? = some o∧(ops4.toList.take 2)[j]? = some o:=by
    intro j hj
    have hlt:j<ops4.size:=by rw [hs.sz4];omega
    refine ⟨ops4[j],Array.getElem?_eq_getElem hlt, ?_⟩
    rw [List.getElem?_take,if_pos hj]
    simp [hlt]
  obtain ⟨q0,g0,g0'⟩:=hget 0 (by omega)
  obtain ⟨q1,g1,g1'⟩:=hget 1 (by omega)
  unfold i17_o4 at e1 hok
  simp only [stepsI,Option.bind_eq_some_iff,Option.some.injEq] at e1
  obtain ⟨t1,k1,t2,k2,rfl⟩:=e1
  rw [wpOps_cons]
  refine step_ok S A3 g0 (hok 0 q0 _ g0' rfl) k1 fun a1 w1 B1 A1 L1 n1=>?_
  rw [wpOps_cons]
  refine step_ok S A1 g1 (hok 1 q1 _ g1' rfl) k2 fun a2 w2 B2 A2 L2 n2=>?_
  rw [wpOps_cons]
  obtain ⟨A2k,L2k,n2k⟩:=keep_ok A2 e2
  have L34:Link X (hof st3.hp) B3 w3 (hof st4.hp) B2 w2:=(L1.trans L2).trans L2k
  obtain ⟨ts,ho⟩:=hs.o4o
  have hv25:=A2k.fr 25
  rw [hf25] at hv25
  have h9:∀ ds ∈ es,ds.length=9:=fun ds hd=>backGo_nine hgo ds (by simpa using hd)
  obtain ⟨hone,ad,cap,hv,cvs,hcv⟩:=sl_inv (hv25.to1 rfl) h9
  refine call34 hs.o4a hs.o4g hs.o4d ho hone ?_
  obtain ⟨a4,ha4⟩:∃ a4,a2.put (some 26) (.func (.func 60) #[] #[.pointer (some ⟨w2.heap.size,0,none⟩)])=a4:=⟨_,rfl⟩
  obtain ⟨w4,hw4⟩:∃ w4,w2.alloc (.cells #[a2.tmps.getD 25 undef] 29)=w4:=⟨_,rfl⟩
  rw [ha4,hw4]
  have O4:Oth w2 w4:=by rw [←hw4];exact Oth.alloc _ _
  have hsz4:w4.heap.size=w2.heap.size+1:=by rw [←hw4];simp
  have hb0:w4.heap[w2.heap.size]? = some (.cells #[a2.tmps.getD 25 undef] 29):=by rw [←hw4];exact World.alloc_heap_new _ _
  have hd4:a4.defers=[]:=by rw [←ha4,put_defers];exact A2k.df
  have hnt:84≤a2.tmps.size:=A2k.nt
  have ht26:a4.eval (.tmp 26) = .func (.func 60) #[] #[.pointer (some ⟨w2.heap.size,0,none⟩)]:=by
    rw [←ha4]
    simp [Act.eval,Act.put,show 26<a2.tmps.size by omega]
  obtain ⟨tm,htm⟩:∃ tm,a4.tmps=tm:=⟨_,rfl⟩
  have A4:At X 84 st4.f (hof st4.hp) B2 w4 { tmps:=tm,defers:=[] }:=by
    refine ⟨O4.hrel A2k.hr,fun x=>O4.rv ?_, ?_,rfl⟩
    · show RV X (hof st4.hp) B2 w2 (st4.f x) (tm.getD x undef)
      by_cases hx:x=26
      · subst hx
        rw [keep_bad e2 (by decide)]
        exact RV.of1 trivial
      · have:tm.getD x undef=a2.tmps.getD x undef:=by
          rw [←htm,←ha4]
          simp [Act.put,Array.getElem?_setIfInBounds_ne (Ne.symm hx)]
        rw [this]
        exact A2k.fr x
    · show 84≤tm.size
      rw [←htm,←ha4,put_size];exact hnt
  have hno:∀ b,w2.heap.size≤b→¬Own (hof st4.hp) B2 b:=fun b hb ho=>by have:=A2k.hr.lt ho;omega
  show (Code.block 0 _).wp _ Q a4 w4
  refine wp_block ((wpIn_wide (n:=5)).1 (wpIn_rangeFunc ?_))
  intro g hg
  obtain ⟨rec,hrec⟩:∃ rec:Loop,rec = { state:=.ready,pending:=none,fn:=g,tmps:=a4.tmps,params:=#[27,28],assign:=.region id5 ops5 false,body:=.block 1 (.region id6 ops6 false),defers:=w4.heap.size }:=⟨_,rfl⟩
  obtain ⟨W1,hW1⟩:∃ W1,(w4.alloc (.deferred (some []))).alloc (.loop rec)=W1:=⟨_,rfl⟩
  have O1:Oth w4 W1:=by rw [←hW1];exact (Oth.alloc _ _).trans (Oth.alloc _ _)
  have hsz1:W1.heap.size=w4.heap.size+2:=by rw [←hW1];simp
  have hl1:W1.heap[w4.heap.size+1]? = some (.loop rec):=by
    rw [←hW1];have:=World.alloc_heap_new (w4.alloc (.deferred (some []))) (.loop rec);rwa [World.size_alloc] at this
  have hD1:W1.heap[w4.heap.size]? = some (.deferred (some [])):=by
    rw [←hW1];exact (alloc_keep _ _ (by simp)).trans (World.alloc_heap_new w4 _)
  have hkeep1:∀ b,b<w4.heap.size→W1.heap[b]? = w4.heap[b]?:=fun b hb=>by
    rw [←hW1];exact (alloc_keep _ _ (by simp;omega)).trans (alloc_keep _ _ hb)
  have hb1:W1.heap[w2.heap.size]? = some (.cells #[a2.tmps.getD 25 undef] 29):=(hkeep1 _ (by omega)).trans hb0
  refine ⟨w4.heap.size+1,[{ target:=.collected w4.heap.size,args:=#[] }],W1, { target:=.fn (.func 60) #[.pointer (some ⟨w2.heap.size,0,none⟩)],args:=#[.func (.yield (w4.heap.size+1)) #[] #[]] },W1,60,
    #[.func (.yield (w4.heap.size+1)) #[] #[], .pointer (some ⟨w2.heap.size,0,none⟩)],W1, ?_, ?_,fun _ _=>trivial, ?_,fun _=>by omega, ?_⟩
  · rw [←hW1,hrec];exact run_enterLoop_outer _ _ _ _ _
  · simp only [resolve,ht26]
    simp [go_sem]
  · simp [invoke,go_sem,callFunc60]
  · -- the rounds
    have hback:BackI Fence.wide 4 (w4.heap.size+1) w2.heap.size ad es.length cap (elOf cvs) (fun j W=>j≤es.length ∧ ∃ st B,Mid callr m (w4.heap.size+1) X st4 st5 B2 W1 tm rec es j W st B):=by
      refine ⟨?_, ?_, ?_⟩
      · rintro j W ⟨_,st,B,M⟩
        have hk:=M.link.keep w2.heap.size (by omega) (by omega) (hno _ (Nat.le_refl _))
        unfold World.cell?
        simp only [hk,hb1]
        simp [←hv]
      · rintro i W ⟨_,st,B,M⟩ hi
        have hei:es[i]? = some es[i]:=List.getElem?_eq_getElem hi
        obtain ⟨a0,h0,hN,hc⟩:=hcv i es[i] hei
        have h9i:=h9 es[i] (List.getElem_mem hi)
        have hblk:(a0.add (i * 9)).block=a0.block:=by unfold Addr.add;split <;> rfl
        have hnO:¬Own (hof st4.hp) B2 (a0.add (i * 9)).block:=by rw [hblk];exact fun hh=>hN (.inl hh)
        have hcc:∀ k,k<9→W.cell? ⟨(a0.add (i * 9)).block,(a0.add (i * 9)).off+k,none⟩=some (cvs i k)∧W.cell? (a0.add (i * 9))=some (cvs i 0):=by
          intro k hk
          obtain ⟨d,hd⟩:∃ d,es[i][k]? = some d:=⟨es[i][k],List.getElem?_eq_getElem (by omega)⟩
          obtain ⟨c1',c2',_,_⟩:=hc k d hd
          exact ⟨M.link.cell hl1 hnO (O1.cell (O4.cell c1')),M.link.cell hl1 hnO (O1.cell (O4.cell c2'))⟩
        exact ⟨a0,_,_,_,_,_,_,_,_,_,h0,rfl,(hcc 0 (by omega)).2,(hcc 1 (by omega)).1,(hcc 2 (by omega)).1,(hcc 3 (by omega)).1,(hcc 4 (by omega)).1,(hcc 5 (by omega)).1,(hcc 6 (by omega)).1,(hcc 7 (by omega)).1,(hcc 8 (by omega)).1⟩
      · rintro j W ⟨_,st,B,M⟩ hj
        have hej:es[j]? = some es[j]:=List.getElem?_eq_getElem hj
        have hgoj:=M.go
        rw [List.take_succ_eq_append_getElem hj,List.reverse_append] at hgoj
        simp only [List.reverse_cons,List.reverse_nil,List.nil_append,List.singleton_append,backGo] at hgoj
        split at hgoj
        · rename_i st' hst'
          obtain ⟨a0,h0,hN,hc⟩:=hcv j es[j] hej
          have h9j:=h9 es[j] (List.getElem_mem hj)
          have hd:RD W (Forb X (hof st.hp) B) (.agg es[j]) (.agg (elOf cvs j)):=by
            refine .agg _ _ (by rw [h9j];rfl) (fun k v hk=>?_) (fun k d v hdk hk=>?_)
            · obtain ⟨hk9,rfl⟩:=elOf_get _ _ _ _ hk
              obtain ⟨d,hd⟩:∃ d,es[j][k]? = some d:=⟨es[j][k],List.getElem?_eq_getElem (by omega)⟩
              exact (hc k d hd).2.2.1
            · obtain ⟨hk9,rfl⟩:=elOf_get _ _ _ _ hk
              exact M.link.rv (.d d) _ (O1.rd (O4.rd (hc k d hdk).2.2.2)) (by intro y hy;simp [V.roots,V.root] at hy)
          have hy:=run_yield (P:=Try.prog) (args:=#[.int .i64 (j:Int), .agg (elOf cvs j)]) M.rec_ (by rw [hrec];rfl)
          have hpar:(rec.params.zip #[Value.int .i64 (j:Int), .agg (elOf cvs j)]).foldl (fun tmps (t,a)=>tmps.setIfInBounds t a) rec.tmps=(tm.setIfInBounds 27 (.int .i64 (j:Int))).setIfInBounds 28 (.agg (elOf cvs j)):=by
            rw [hrec,←htm];simp
          rw [hpar] at hy
          have hr:=round17 (k:=3) S hs hst' M.bad M.at_ hd M.rec_ (by rw [hrec]) (by rw [hrec]) M.own (vi:=.int .i64 (j:Int)) (g:=rec.fn)
          refine ⟨_,_,_,_,hy, ?_⟩
          rw [show rec.assign = .region id5 ops5 false by rw [hrec],show rec.body = .block 1 (.region id6 ops6 false) by rw [hrec]]
          refine hr.mono ?_
          rintro e W' ⟨rfl,B',hA',hL',hn',hb',hr',ho'⟩
          exact ⟨rfl,by omega,st',B',⟨hgoj,hb',hA',M.link.trans hL',hn'.trans M.len,hr',ho'⟩⟩
        · cases hgoj
    have hstart:(fun j W=>j≤es.length ∧ ∃ st B,Mid callr m (w4.heap.size+1) X st4 st5 B2 W1 tm rec es j W st B) es.length W1:=
      ⟨Nat.le_refl _,st4,B2,⟨by rw [List.take_length];exact hgo,fun x hx=>keep_bad e2 hx,A4.oth O1,LinkX.refl _ _ _ _ _,rfl,hl1,hno _ (by omega)⟩⟩
    refine (back60 Fence.wide 4 trivial rfl (by omega) hback (by omega) hstart).mono ?_
    rintro e W' ⟨⟨v,rfl⟩,_,st,B,M⟩
    have hgo0:=M.go
    simp only [List.take_zero,List.reverse_nil,backGo,Option.some.injEq,Prod.mk.injEq,true_and] at hgo0
    subst hgo0
    have O5:Oth W' (W'.putObj (w4.heap.size+1) (.loop { rec with state:=.exhausted })):=Oth.put _ M.rec_ (by simp) (by simp)
    have hp0:rec.pending=none:=by rw [hrec]
    have hend:(Instr.endLoop (w4.heap.size+1)).run Try.prog W' = .ok none (W'.putObj (w4.heap.size+1) (.loop { rec with state:=.exhausted })):=
      (run_endLoop (P:=Try.prog) M.rec_ (by rw [hrec];simp)).trans (by rw [hp0])
    refine ⟨none,_,hend, ?_⟩
    have hLx:=M.link.trans (LinkX.put (.loop { rec with state:=.exhausted }) M.rec_ (by simp) (by simp))
    have hD':W'.heap[w4.heap.size]? = some (.deferred (some [])):=(M.link.keep _ (by omega) (by omega) (hno _ (by omega))).trans hD1
    have hwl:w2.heap.size≤w4.heap.size+1:=by omega
    refine hK w4.heap.size B _ _ (@At.mk { l:=[{ target:=.collected w4.heap.size,args:=#[] }] } _ _ _ _ _ _ _ (O5.hrel M.at_.hr) (fun t=>?_) ?_ ?_) (L34.trans (Link.ofX (O4.trans O1) ?_ ?_ ?_ ?_ hwl hLx)) ?_ ?_ ?_ ?_
    · show RV X _ _ _ (st.f t) (a4.tmps.getD t undef)
      rw [htm];exact O5.rv (M.at_.fr t)
    · show 84≤a4.tmps.size
      rw [htm];exact M.at_.nt
    · show [_]++a4.defers=_
      rw [hd4];rfl
    · rw [←hW1,←hw4];rfl
    · rw [←hW1,←hw4];rfl
    · rw [←hW1,←hw4];rfl
    · intro b hb
      rw [hkeep1 b (by omega),←hw4]
      exact alloc_keep _ _ hb
    · rw [M.len,n2k,n2,n1]
    · rw [World.putObj_heap_other (by omega)];exact hD'
    · have:=L34.stp.size;omega
    · exact fun hh=>hno _ (by omega) (M.link.own _ (by omega) hh)
end
end Go.Proofs.YtgmphfmoonbfpaaMv
