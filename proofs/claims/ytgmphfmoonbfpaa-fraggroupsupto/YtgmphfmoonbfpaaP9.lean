/- Part 9 of the proof. -/
import Derived.Test.YtgmphfmoonbfpaaP8
import Derived.ReadAgain
import Derived.WalkKit
import Derived.ProofKit
import Derived.OpenShut
import Derived.JoinedCond
set_option linter.unusedVariables false
set_option linter.unusedSimpArgs false
set_option maxRecDepth 100000
namespace Go.Proofs.YtgmphfmoonbfpaaMv
open Go
theorem w71l_0 (n1 : Bool) (n2 : Bool) (l : List TOpr) (i : Nat) (hp : HL)
    (c0 : (decide (((i : Nat) : Int) < (((l.map TOpr.c).length : Nat) : Int))) = false) :
    Ev pg i71_l0 ⟨[(0, V.d (D.sl n1 (l.map TOpr.c))), (1, V.d (D.sl n2 (l.map TOpr.c))), (5, V.d (D.int .i64 ((i : Nat) : Int)))], [] :: hp⟩ (.exit 0) ⟨[(0, V.d (D.sl n1 (l.map TOpr.c))), (1, V.d (D.sl n2 (l.map TOpr.c))), (5, V.d (D.int .i64 ((i : Nat) : Int))), (14, V.d (D.bool false))], [] :: hp⟩ :=
  by
  have r : Ev pg i71_l0 ⟨[(0, V.d (D.sl n1 (l.map TOpr.c))), (1, V.d (D.sl n2 (l.map TOpr.c))), (5, V.d (D.int .i64 ((i : Nat) : Int)))], [] :: hp⟩ (.exit 0) ⟨[(0, V.d (D.sl n1 (l.map TOpr.c))), (1, V.d (D.sl n2 (l.map TOpr.c))), (5, V.d (D.int .i64 ((i : Nat) : Int))), (14, V.d (D.bool (decide (((i : Nat) : Int) < (((l.map TOpr.c).length : Nat) : Int)))))], [] :: hp⟩ :=
  codeC_ok (hs := [.b false]) (hs' := []) (cs := [_]) (by kernel_rfl) ⟨c0, trivial⟩
  simp only [c0] at r
  exact r
theorem w71l_1 (n1 : Bool) (n2 : Bool) (l : List TOpr) (i : Nat) (hp : HL) (x1 : TOpr)
    (c0 : (decide (((i : Nat) : Int) < (((l.map TOpr.c).length : Nat) : Int))) = true)
    (c1 : (l.map TOpr.c)[i]? = some [D.int .i64 x1.kind, D.int .i64 x1.r.n, D.bool x1.r.x, D.bool x1.r.sp, D.int .i64 x1.m.n, D.bool x1.m.x, D.bool x1.m.sp, D.int .i64 x1.md, D.int .i64 x1.amt, D.int .i64 x1.n, D.int .i64 x1.v.add, D.str x1.v.plus, D.str x1.v.minus, D.bool x1.lo, D.int .i64 x1.mode])
    (c2 : deqT true [1, 1, 0, 0, 1, 0, 0, 1, 1, 1, 1, 2, 2, 0, 1] (D.agg [D.int .i64 x1.kind, D.int .i64 x1.r.n, D.bool x1.r.x, D.bool x1.r.sp, D.int .i64 x1.m.n, D.bool x1.m.x, D.bool x1.m.sp, D.int .i64 x1.md, D.int .i64 x1.amt, D.int .i64 x1.n, D.int .i64 x1.v.add, D.str x1.v.plus, D.str x1.v.minus, D.bool x1.lo, D.int .i64 x1.mode]) (D.agg [D.int .i64 x1.kind, D.int .i64 x1.r.n, D.bool x1.r.x, D.bool x1.r.sp, D.int .i64 x1.m.n, D.bool x1.m.x, D.bool x1.m.sp, D.int .i64 x1.md, D.int .i64 x1.amt, D.int .i64 x1.n, D.int .i64 x1.v.add, D.str x1.v.plus, D.str x1.v.minus, D.bool x1.lo, D.int .i64 x1.mode]) = some true) :
    Ev pg i71_l0 ⟨[(0, V.d (D.sl n1 (l.map TOpr.c))), (1, V.d (D.sl n2 (l.map TOpr.c))), (5, V.d (D.int .i64 ((i : Nat) : Int)))], [] :: hp⟩ .normal ⟨[(0, V.d (D.sl n1 (l.map TOpr.c))), (1, V.d (D.sl n2 (l.map TOpr.c))), (5, V.d (D.int .i64 (IntKind.i64.wrap (((i : Nat) : Int) + 1))))], [] :: hp⟩ :=
  codeC_ok (hs := [.b true, .n i, .ds [D.int .i64 x1.kind, D.int .i64 x1.r.n, D.bool x1.r.x, D.bool x1.r.sp, D.int .i64 x1.m.n, D.bool x1.m.x, D.bool x1.m.sp, D.int .i64 x1.md, D.int .i64 x1.amt, D.int .i64 x1.n, D.int .i64 x1.v.add, D.str x1.v.plus, D.str x1.v.minus, D.bool x1.lo, D.int .i64 x1.mode], .n i, .ds [D.int .i64 x1.kind, D.int .i64 x1.r.n, D.bool x1.r.x, D.bool x1.r.sp, D.int .i64 x1.m.n, D.bool x1.m.x, D.bool x1.m.sp, D.int .i64 x1.md, D.int .i64 x1.amt, D.int .i64 x1.n, D.int .i64 x1.v.add, D.str x1.v.plus, D.str x1.v.minus, D.bool x1.lo, D.int .i64 x1.mode], .b true, .b false]) (hs' := []) (cs := [_, ((i : Nat) : Int) = ((i : Nat) : Int), _, ((i : Nat) : Int) = ((i : Nat) : Int), _, _, false = false]) (by kernel_rfl) ⟨c0, rfl, c1, rfl, c1, c2, rfl, trivial⟩
theorem w71_0 (n1 : Bool) (n2 : Bool) (l : List TOpr) (hp : HL)
    (c0 : ((((l.map TOpr.c).length : Nat) : Int) != (((l.map TOpr.c).length : Nat) : Int)) = false)
    (c1 : Lp pg i71_l0 ⟨[(0, V.d (D.sl n1 (l.map TOpr.c))), (1, V.d (D.sl n2 (l.map TOpr.c))), (5, V.d (D.int .i64 0))], [] :: hp⟩ (.exit 0) ⟨[(0, V.d (D.sl n1 (l.map TOpr.c))), (1, V.d (D.sl n2 (l.map TOpr.c))), (5, V.d (D.int .i64 ((l.length : Nat) : Int))), (14, V.d (D.bool false))], [] :: hp⟩) :
    Rn pg 71 [V.d (D.sl n1 (l.map TOpr.c)), V.d (D.sl n2 (l.map TOpr.c))] (hp) (V.d (D.bool true)) (hp) :=
  Rn.c (fn := i71) (ex := .ret) (st := ⟨[(4, V.d (D.bool true))], [] :: hp⟩) (hs := [.b false, .lp (.exit 0) ⟨[(0, V.d (D.sl n1 (l.map TOpr.c))), (1, V.d (D.sl n2 (l.map TOpr.c))), (5, V.d (D.int .i64 ((l.length : Nat) : Int))), (14, V.d (D.bool false))], [] :: hp⟩]) (cs := [_, _]) (rs := [V.d (D.bool true)]) (t := [])
    (by kernel_rfl) (by kernel_rfl) (by kernel_rfl) (by kernel_rfl) (by kernel_rfl) (by kernel_rfl) ⟨c0, c1, trivial⟩
theorem w58_0 (a : TPce) (b : TPce) (hp : HL)
    (c0 : (a.kind == b.kind) = true)
    (c1 : (a.file == b.file) = true)
    (c2 : (a.line == b.line) = true)
    (c3 : (a.l.name == b.l.name) = true)
    (c4 : Rn pg 71 [V.d (D.sl a.l.opers.nn (a.l.opers.l.map TOpr.c)), V.d (D.sl b.l.opers.nn (b.l.opers.l.map TOpr.c))] ([]) (V.d (D.bool true)) ([]))
    (c5 : deqT true [1, 2, 2] (D.agg [D.int .i64 a.v.add, D.str a.v.plus, D.str a.v.minus]) (D.agg [D.int .i64 b.v.add, D.str b.v.plus, D.str b.v.minus]) = some true)
    (c6 : (a.size == b.size) = true)
    (c7 : List.all (a.b.l.map u8c) (fun x => x.length == 1) = true)
    (c8 : allDs (List.map (fun x => List.map C.d x) (a.b.l.map u8c)) = some (a.b.l.map u8c))
    (c9 : strOf (a.b.l.map u8c) = some a.b.l)
    (c10 : List.all (b.b.l.map u8c) (fun x => x.length == 1) = true)
    (c11 : allDs (List.map (fun x => List.map C.d x) (b.b.l.map u8c)) = some (b.b.l.map u8c))
    (c12 : strOf (b.b.l.map u8c) = some b.b.l)
    (c13 : (a.b.l == b.b.l) = true) :
    Rn pg 58 [V.d (D.agg [D.int .i64 a.kind, D.int .i64 a.file, D.int .i64 a.line, D.str a.l.name, D.sl a.l.opers.nn (a.l.opers.l.map TOpr.c), D.int .i64 a.v.add, D.str a.v.plus, D.str a.v.minus, D.int .i64 a.size, D.sl a.b.nn (a.b.l.map u8c), D.int .i64 a.align]), V.d (D.agg [D.int .i64 b.kind, D.int .i64 b.file, D.int .i64 b.line, D.str b.l.name, D.sl b.l.opers.nn (b.l.opers.l.map TOpr.c), D.int .i64 b.v.add, D.str b.v.plus, D.str b.v.minus, D.int .i64 b.size, D.sl b.b.nn (b.b.l.map u8c), D.int .i64 b.align])] (hp) (V.d (D.bool (a.align == b.align))) (hp) :=
  Rn.c (fn := i58) (ex := .ret) (st := ⟨[(4, V.d (D.bool (a.align == b.align)))], [] :: hp⟩) (hs := [.b true, .b true, .b true, .b true, .b true, .b true, .b true, .b true, .b true, .b true, .b true, .b true, .b true, .b true, .b true, .b true, .b true, .b true, .b true, .b true, .b true, .b true, .b true, .b true, .b true, .b true, .b true, .call (V.d (D.bool true)) ([]), .b true, .b true, .b true, .b true, .b true, .b true, .b true, .b true, .b true, .b true, .b true, .b true, .b true, .b true, .b true, .b true, .b true, .ees (a.b.l.map u8c), .s a.b.l, .b true, .b true, .b true, .ees (b.b.l.map u8c), .s b.b.l, .b true, .b true, .b true, .b true, .b true, .b true, .b true, .b true]) (cs := [_, _, _, _, _, _, _, _, _, _, _, _, _, _, _, _, _, _, _, _, _, _, _, _, _, _, _, _, _, true = true, true = true, true = true, true = true, true = true, _, true = true, true = true, true = true, true = true, true = true, true = true, true = true, _, _, _, _, _, _, _, _, _, _, _, _, _, _, _, _, _, _, _, _]) (rs := [V.d (D.bool (a.align == b.align))]) (t := [])
    (by kernel_rfl) (by kernel_rfl) (by kernel_rfl) (by kernel_rfl) (by kernel_rfl) (by kernel_rfl) ⟨c0, c0, c0, c0, c0, c0, c1, c1, c1, c1, c1, c1, c2, c2, c2, c2, c2, c2, c2, c2, c3, c3, c3, c3, c3, c3, c3, c4, c3, rfl, rfl, rfl, rfl, rfl, c5, rfl, rfl, rfl, rfl, rfl, rfl, rfl, c6, c6, c6, c7, c8, c9, c6, c6, c6, c10, c11, c12, c6, c6, c13, c13, c13, c13, c13, c13, trivial⟩
theorem w31i_0 (aa : Sl TPrt) (bs : Sl TPrt) (i : Nat) (j : Nat) (hp : HL) (x1 : TPrt)
    (c0 : (aa.l.map TPrt.c)[i]? = some [D.str x1.name, D.int .i64 x1.file, D.int .i64 x1.line, D.sl x1.pieces.nn (x1.pieces.l.map TPce.c)])
    (c1 : (decide (((j : Nat) : Int) < (((x1.pieces.l.map TPce.c).length : Nat) : Int))) = false) :
    Ev pg i31_l2 ⟨[(0, V.d (D.sl aa.nn (aa.l.map TPrt.c))), (1, V.d (D.sl bs.nn (bs.l.map TPrt.c))), (5, V.d (D.int .i64 ((i : Nat) : Int))), (6, V.d (D.int .i64 ((j : Nat) : Int)))], [] :: hp⟩ (.exit 2) ⟨[(0, V.d (D.sl aa.nn (aa.l.map TPrt.c))), (1, V.d (D.sl bs.nn (bs.l.map TPrt.c))), (5, V.d (D.int .i64 ((i : Nat) : Int))), (6, V.d (D.int .i64 ((j : Nat) : Int))), (77, V.d (D.bool false))], [] :: hp⟩ :=
  by
  have r : Ev pg i31_l2 ⟨[(0, V.d (D.sl aa.nn (aa.l.map TPrt.c))), (1, V.d (D.sl bs.nn (bs.l.map TPrt.c))), (5, V.d (D.int .i64 ((i : Nat) : Int))), (6, V.d (D.int .i64 ((j : Nat) : Int)))], [] :: hp⟩ (.exit 2) ⟨[(0, V.d (D.sl aa.nn (aa.l.map TPrt.c))), (1, V.d (D.sl bs.nn (bs.l.map TPrt.c))), (5, V.d (D.int .i64 ((i : Nat) : Int))), (6, V.d (D.int .i64 ((j : Nat) : Int))), (77, V.d (D.bool (decide (((j : Nat) : Int) < (((x1.pieces.l.map TPce.c).length : Nat) : Int)))))], [] :: hp⟩ :=
  codeC_ok (hs := [.n i, .ds [D.str x1.name, D.int .i64 x1.file, D.int .i64 x1.line, D.sl x1.pieces.nn (x1.pieces.l.map TPce.c)], .b false]) (hs' := []) (cs := [((i : Nat) : Int) = ((i : Nat) : Int), _, _]) (by kernel_rfl) ⟨rfl, c0, c1, trivial⟩
  simp only [c1] at r
  exact r
theorem w31i_1 (aa : Sl TPrt) (bs : Sl TPrt) (i : Nat) (j : Nat) (hp : HL) (x1 : TPrt) (x2 : TPce) (x3 : TPrt) (x4 : TPce)
    (c0 : (aa.l.map TPrt.c)[i]? = some [D.str x1.name, D.int .i64 x1.file, D.int .i64 x1.line, D.sl x1.pieces.nn (x1.pieces.l.map TPce.c)])
    (c1 : (decide (((j : Nat) : Int) < (((x1.pieces.l.map TPce.c).length : Nat) : Int))) = true)
    (c2 : (x1.pieces.l.map TPce.c)[j]? = some [D.int .i64 x2.kind, D.int .i64 x2.file, D.int .i64 x2.line, D.str x2.l.name, D.sl x2.l.opers.nn (x2.l.opers.l.map TOpr.c), D.int .i64 x2.v.add, D.str x2.v.plus, D.str x2.v.minus, D.int .i64 x2.size, D.sl x2.b.nn (x2.b.l.map u8c), D.int .i64 x2.align])
    (c3 : (bs.l.map TPrt.c)[i]? = some [D.str x3.name, D.int .i64 x3.file, D.int .i64 x3.line, D.sl x3.pieces.nn (x3.pieces.l.map TPce.c)])
    (c4 : (x3.pieces.l.map TPce.c)[j]? = some [D.int .i64 x4.kind, D.int .i64 x4.file, D.int .i64 x4.line, D.str x4.l.name, D.sl x4.l.opers.nn (x4.l.opers.l.map TOpr.c), D.int .i64 x4.v.add, D.str x4.v.plus, D.str x4.v.minus, D.int .i64 x4.size, D.sl x4.b.nn (x4.b.l.map u8c), D.int .i64 x4.align])
    (c5 : Rn pg 58 [V.d (D.agg [D.int .i64 x2.kind, D.int .i64 x2.file, D.int .i64 x2.line, D.str x2.l.name, D.sl x2.l.opers.nn (x2.l.opers.l.map TOpr.c), D.int .i64 x2.v.add, D.str x2.v.plus, D.str x2.v.minus, D.int .i64 x2.size, D.sl x2.b.nn (x2.b.l.map u8c), D.int .i64 x2.align]), V.d (D.agg [D.int .i64 x4.kind, D.int .i64 x4.file, D.int .i64 x4.line, D.str x4.l.name, D.sl x4.l.opers.nn (x4.l.opers.l.map TOpr.c), D.int .i64 x4.v.add, D.str x4.v.plus, D.str x4.v.minus, D.int .i64 x4.size, D.sl x4.b.nn (x4.b.l.map u8c), D.int .i64 x4.align])] ([]) (V.d (D.bool true)) ([])) :
    Ev pg i31_l2 ⟨[(0, V.d (D.sl aa.nn (aa.l.map TPrt.c))), (1, V.d (D.sl bs.nn (bs.l.map TPrt.c))), (5, V.d (D.int .i64 ((i : Nat) : Int))), (6, V.d (D.int .i64 ((j : Nat) : Int)))], [] :: hp⟩ .normal ⟨[(0, V.d (D.sl aa.nn (aa.l.map TPrt.c))), (1, V.d (D.sl bs.nn (bs.l.map TPrt.c))), (5, V.d (D.int .i64 ((i : Nat) : Int))), (6, V.d (D.int .i64 (IntKind.i64.wrap (((j : Nat) : Int) + 1))))], [] :: hp⟩ :=
  codeC_ok (hs := [.n i, .ds [D.str x1.name, D.int .i64 x1.file, D.int .i64 x1.line, D.sl x1.pieces.nn (x1.pieces.l.map TPce.c)], .b true, .n i, .ds [D.str x1.name, D.int .i64 x1.file, D.int .i64 x1.line, D.sl x1.pieces.nn (x1.pieces.l.map TPce.c)], .n j, .ds [D.int .i64 x2.kind, D.int .i64 x2.file, D.int .i64 x2.line, D.str x2.l.name, D.sl x2.l.opers.nn (x2.l.opers.l.map TOpr.c), D.int .i64 x2.v.add, D.str x2.v.plus, D.str x2.v.minus, D.int .i64 x2.size, D.sl x2.b.nn (x2.b.l.map u8c), D.int .i64 x2.align], .n i, .ds [D.str x3.name, D.int .i64 x3.file, D.int .i64 x3.line, D.sl x3.pieces.nn (x3.pieces.l.map TPce.c)], .n j, .ds [D.int .i64 x4.kind, D.int .i64 x4.file, D.int .i64 x4.line, D.str x4.l.name, D.sl x4.l.opers.nn (x4.l.opers.l.map TOpr.c), D.int .i64 x4.v.add, D.str x4.v.plus, D.str x4.v.minus, D.int .i64 x4.size, D.sl x4.b.nn (x4.b.l.map u8c), D.int .i64 x4.align], .call (V.d (D.bool true)) ([]), .b false]) (hs' := []) (cs := [((i : Nat) : Int) = ((i : Nat) : Int), _, _, ((i : Nat) : Int) = ((i : Nat) : Int), _, ((j : Nat) : Int) = ((j : Nat) : Int), _, ((i : Nat) : Int) = ((i : Nat) : Int), _, ((j : Nat) : Int) = ((j : Nat) : Int), _, _, false = false]) (by kernel_rfl) ⟨rfl, c0, c1, rfl, c0, rfl, c2, rfl, c3, rfl, c4, c5, rfl, trivial⟩
theorem w31o_0 (aa : Sl TPrt) (bs : Sl TPrt) (i : Nat) (hp : HL)
    (c0 : (decide (((i : Nat) : Int) < (((aa.l.map TPrt.c).length : Nat) : Int))) = false) :
    Ev pg i31_l0 ⟨[(0, V.d (D.sl aa.nn (aa.l.map TPrt.c))), (1, V.d (D.sl bs.nn (bs.l.map TPrt.c))), (5, V.d (D.int .i64 ((i : Nat) : Int)))], [] :: hp⟩ (.exit 0) ⟨[(0, V.d (D.sl aa.nn (aa.l.map TPrt.c))), (1, V.d (D.sl bs.nn (bs.l.map TPrt.c))), (5, V.d (D.int .i64 ((i : Nat) : Int))), (15, V.d (D.bool false))], [] :: hp⟩ :=
  by
  have r : Ev pg i31_l0 ⟨[(0, V.d (D.sl aa.nn (aa.l.map TPrt.c))), (1, V.d (D.sl bs.nn (bs.l.map TPrt.c))), (5, V.d (D.int .i64 ((i : Nat) : Int)))], [] :: hp⟩ (.exit 0) ⟨[(0, V.d (D.sl aa.nn (aa.l.map TPrt.c))), (1, V.d (D.sl bs.nn (bs.l.map TPrt.c))), (5, V.d (D.int .i64 ((i : Nat) : Int))), (15, V.d (D.bool (decide (((i : Nat) : Int) < (((aa.l.map TPrt.c).length : Nat) : Int)))))], [] :: hp⟩ :=
  codeC_ok (hs := [.b false]) (hs' := []) (cs := [_]) (by kernel_rfl) ⟨c0, trivial⟩
  simp only [c0] at r
  exact r
theorem w31o_1 (aa : Sl TPrt) (bs : Sl TPrt) (i : Nat) (hp : HL) (x1 : TPrt) (x2 : TPrt)
    (c0 : (decide (((i : Nat) : Int) < (((aa.l.map TPrt.c).length : Nat) : Int))) = true)
    (c1 : (aa.l.map TPrt.c)[i]? = some [D.str x1.name, D.int .i64 x1.file, D.int .i64 x1.line, D.sl x1.pieces.nn (x1.pieces.l.map TPce.c)])
    (c2 : (bs.l.map TPrt.c)[i]? = some [D.str x2.name, D.int .i64 x2.file, D.int .i64 x2.line, D.sl x2.pieces.nn (x2.pieces.l.map TPce.c)])
    (c3 : (!(x1.name == x2.name)) = false)
    (c4 : (x1.file != x2.file) = false)
    (c5 : (x1.line != x2.line) = false)
    (c6 : ((((x1.pieces.l.map TPce.c).length : Nat) : Int) != (((x2.pieces.l.map TPce.c).length : Nat) : Int)) = false)
    (c7 : Lp pg i31_l2 ⟨[(0, V.d (D.sl aa.nn (aa.l.map TPrt.c))), (1, V.d (D.sl bs.nn (bs.l.map TPrt.c))), (5, V.d (D.int .i64 ((i : Nat) : Int))), (6, V.d (D.int .i64 0))], [] :: hp⟩ (.exit 2) ⟨[(0, V.d (D.sl aa.nn (aa.l.map TPrt.c))), (1, V.d (D.sl bs.nn (bs.l.map TPrt.c))), (5, V.d (D.int .i64 ((i : Nat) : Int))), (6, V.d (D.int .i64 ((x1.pieces.l.length : Nat) : Int))), (77, V.d (D.bool false))], [] :: hp⟩) :
    Ev pg i31_l0 ⟨[(0, V.d (D.sl aa.nn (aa.l.map TPrt.c))), (1, V.d (D.sl bs.nn (bs.l.map TPrt.c))), (5, V.d (D.int .i64 ((i : Nat) : Int)))], [] :: hp⟩ .normal ⟨[(0, V.d (D.sl aa.nn (aa.l.map TPrt.c))), (1, V.d (D.sl bs.nn (bs.l.map TPrt.c))), (5, V.d (D.int .i64 (IntKind.i64.wrap (((i : Nat) : Int) + 1))))], [] :: hp⟩ :=
  codeC_ok (hs := [.b true, .n i, .ds [D.str x1.name, D.int .i64 x1.file, D.int .i64 x1.line, D.sl x1.pieces.nn (x1.pieces.l.map TPce.c)], .n i, .ds [D.str x2.name, D.int .i64 x2.file, D.int .i64 x2.line, D.sl x2.pieces.nn (x2.pieces.l.map TPce.c)], .b false, .b false, .b false, .n i, .ds [D.str x1.name, D.int .i64 x1.file, D.int .i64 x1.line, D.sl x1.pieces.nn (x1.pieces.l.map TPce.c)], .b false, .b false, .b false, .b false, .b false, .n i, .ds [D.str x2.name, D.int .i64 x2.file, D.int .i64 x2.line, D.sl x2.pieces.nn (x2.pieces.l.map TPce.c)], .b false, .b false, .b false, .b false, .b false, .b false, .b false, .n i, .ds [D.str x1.name, D.int .i64 x1.file, D.int .i64 x1.line, D.sl x1.pieces.nn (x1.pieces.l.map TPce.c)], .b false, .b false, .b false, .b false, .b false, .n i, .ds [D.str x2.name, D.int .i64 x2.file, D.int .i64 x2.line, D.sl x2.pieces.nn (x2.pieces.l.map TPce.c)], .b false, .b false, .b false, .b false, .b false, .b false, .b false, .n i, .ds [D.str x1.name, D.int .i64 x1.file, D.int .i64 x1.line, D.sl x1.pieces.nn (x1.pieces.l.map TPce.c)], .b false, .b false, .b false, .b false, .b false, .b false, .n i, .ds [D.str x2.name, D.int .i64 x2.file, D.int .i64 x2.line, D.sl x2.pieces.nn (x2.pieces.l.map TPce.c)], .b false, .b false, .b false, .b false, .b false, .b false, .lp (.exit 2) ⟨[(0, V.d (D.sl aa.nn (aa.l.map TPrt.c))), (1, V.d (D.sl bs.nn (bs.l.map TPrt.c))), (5, V.d (D.int .i64 ((i : Nat) : Int))), (6, V.d (D.int .i64 ((x1.pieces.l.length : Nat) : Int))), (77, V.d (D.bool false))], [] :: hp⟩]) (hs' := []) (cs := [_, ((i : Nat) : Int) = ((i : Nat) : Int), _, ((i : Nat) : Int) = ((i : Nat) : Int), _, _, _, _, ((i : Nat) : Int) = ((i : Nat) : Int), _, _, _, _, _, _, ((i : Nat) : Int) = ((i : Nat) : Int), _, _, _, _, _, _, _, _, ((i : Nat) : Int) = ((i : Nat) : Int), _, _, _, _, _, _, ((i : Nat) : Int) = ((i : Nat) : Int), _, _, _, _, _, _, _, _, ((i : Nat) : Int) = ((i : Nat) : Int), _, _, _, _, _, _, _, ((i : Nat) : Int) = ((i : Nat) : Int), _, _, _, _, _, _, _, _]) (by kernel_rfl) ⟨c0, rfl, c1, rfl, c2, c3, c3, c3, rfl, c1, c3, c3, c3, c3, c3, rfl, c2, c3, c3, c3, c3, c4, c4, c4, rfl, c1, c4, c4, c4, c4, c4, rfl, c2, c4, c4, c4, c4, c5, c5, c5, rfl, c1, c5, c5, c5, c5, c5, c5, rfl, c2, c5, c5, c5, c5, c5, c6, c7, trivial⟩
theorem w31_0 (aa : Sl TPrt) (bs : Sl TPrt) (hp : HL)
    (c0 : ((((aa.l.map TPrt.c).length : Nat) : Int) != (((bs.l.map TPrt.c).length : Nat) : Int)) = false)
    (c1 : Lp pg i31_l0 ⟨[(0, V.d (D.sl aa.nn (aa.l.map TPrt.c))), (1, V.d (D.sl bs.nn (bs.l.map TPrt.c))), (5, V.d (D.int .i64 0))], [] :: hp⟩ (.exit 0) ⟨[(0, V.d (D.sl aa.nn (aa.l.map TPrt.c))), (1, V.d (D.sl bs.nn (bs.l.map TPrt.c))), (5, V.d (D.int .i64 ((aa.l.length : Nat) : Int))), (15, V.d (D.bool false))], [] :: hp⟩) :
    Rn pg 31 [V.d (D.sl aa.nn (aa.l.map TPrt.c)), V.d (D.sl bs.nn (bs.l.map TPrt.c))] (hp) (V.d (D.bool true)) (hp) :=
  Rn.c (fn := i31) (ex := .ret) (st := ⟨[(4, V.d (D.bool true))], [] :: hp⟩) (hs := [.b false, .lp (.exit 0) ⟨[(0, V.d (D.sl aa.nn (aa.l.map TPrt.c))), (1, V.d (D.sl bs.nn (bs.l.map TPrt.c))), (5, V.d (D.int .i64 ((aa.l.length : Nat) : Int))), (15, V.d (D.bool false))], [] :: hp⟩]) (cs := [_, _]) (rs := [V.d (D.bool true)]) (t := [])
    (by kernel_rfl) (by kernel_rfl) (by kernel_rfl) (by kernel_rfl) (by kernel_rfl) (by kernel_rfl) ⟨c0, c1, trivial⟩
theorem w13m_0 (a : TUnt) (b : TUnt) (i : Nat) (hp : HL)
    (c0 : (decide (((i : Nat) : Int) < (((a.marks.l.map TMrk.c).length : Nat) : Int))) = false) :
    Ev pg i13_l0 ⟨[(2, V.ptr 0 2 [] 0 0), (3, V.ptr 0 3 [] 0 0), (5, V.d (D.int .i64 ((i : Nat) : Int)))], [(2, Ob.row true 3 true [[C.d (D.sl a.parts.nn (a.parts.l.map TPrt.c)), C.d (D.sl a.marks.nn (a.marks.l.map TMrk.c)), C.d (D.sl a.globals.nn (a.globals.l.map TTld.c))]]), (3, Ob.row true 3 true [[C.d (D.sl b.parts.nn (b.parts.l.map TPrt.c)), C.d (D.sl b.marks.nn (b.marks.l.map TMrk.c)), C.d (D.sl b.globals.nn (b.globals.l.map TTld.c))]])] :: hp⟩ (.exit 0) ⟨[(2, V.ptr 0 2 [] 0 0), (3, V.ptr 0 3 [] 0 0), (5, V.d (D.int .i64 ((i : Nat) : Int))), (35, V.d (D.bool false))], [(2, Ob.row true 3 true [[C.d (D.sl a.parts.nn (a.parts.l.map TPrt.c)), C.d (D.sl a.marks.nn (a.marks.l.map TMrk.c)), C.d (D.sl a.globals.nn (a.globals.l.map TTld.c))]]), (3, Ob.row true 3 true [[C.d (D.sl b.parts.nn (b.parts.l.map TPrt.c)), C.d (D.sl b.marks.nn (b.marks.l.map TMrk.c)), C.d (D.sl b.globals.nn (b.globals.l.map TTld.c))]])] :: hp⟩ :=
  by
  have r : Ev pg i13_l0 ⟨[(2, V.ptr 0 2 [] 0 0), (3, V.ptr 0 3 [] 0 0), (5, V.d (D.int .i64 ((i : Nat) : Int)))], [(2, Ob.row true 3 true [[C.d (D.sl a.parts.nn (a.parts.l.map TPrt.c)), C.d (D.sl a.marks.nn (a.marks.l.map TMrk.c)), C.d (D.sl a.globals.nn (a.globals.l.map TTld.c))]]), (3, Ob.row true 3 true [[C.d (D.sl b.parts.nn (b.parts.l.map TPrt.c)), C.d (D.sl b.marks.nn (b.marks.l.map TMrk.c)), C.d (D.sl b.globals.nn (b.globals.l.map TTld.c))]])] :: hp⟩ (.exit 0) ⟨[(2, V.ptr 0 2 [] 0 0), (3, V.ptr 0 3 [] 0 0), (5, V.d (D.int .i64 ((i : Nat) : Int))), (35, V.d (D.bool (decide (((i : Nat) : Int) < (((a.marks.l.map TMrk.c).length : Nat) : Int)))))], [(2, Ob.row true 3 true [[C.d (D.sl a.parts.nn (a.parts.l.map TPrt.c)), C.d (D.sl a.marks.nn (a.marks.l.map TMrk.c)), C.d (D.sl a.globals.nn (a.globals.l.map TTld.c))]]), (3, Ob.row true 3 true [[C.d (D.sl b.parts.nn (b.parts.l.map TPrt.c)), C.d (D.sl b.marks.nn (b.marks.l.map TMrk.c)), C.d (D.sl b.globals.nn (b.globals.l.map TTld.c))]])] :: hp⟩ :=
  codeC_ok (hs := [.b false]) (hs' := []) (cs := [_]) (by kernel_rfl) ⟨c0, trivial⟩
  simp only [c0] at r
  exact r
theorem w13m_1 (a : TUnt) (b : TUnt) (i : Nat) (hp : HL) (x1 : TMrk) (x2 : TMrk)
    (c0 : (decide (((i : Nat) : Int) < (((a.marks.l.map TMrk.c).length : Nat) : Int))) = true)
    (c1 : (a.marks.l.map TMrk.c)[i]? = some [D.str x1.name, D.int .i64 x1.file, D.int .i64 x1.line, D.int .i64 x1.part, D.int .i64 x1.piece, D.bool x1.equ, D.int .i64 x1.v.add, D.str x1.v.plus, D.str x1.v.minus])
    (c2 : (b.marks.l.map TMrk.c)[i]? = some [D.str x2.name, D.int .i64 x2.file, D.int .i64 x2.line, D.int .i64 x2.part, D.int .i64 x2.piece, D.bool x2.equ, D.int .i64 x2.v.add, D.str x2.v.plus, D.str x2.v.minus])
    (c3 : deqT true [2, 1, 1, 1, 1, 0, 1, 2, 2] (D.agg [D.str x1.name, D.int .i64 x1.file, D.int .i64 x1.line, D.int .i64 x1.part, D.int .i64 x1.piece, D.bool x1.equ, D.int .i64 x1.v.add, D.str x1.v.plus, D.str x1.v.minus]) (D.agg [D.str x2.name, D.int .i64 x2.file, D.int .i64 x2.line, D.int .i64 x2.part, D.int .i64 x2.piece, D.bool x2.equ, D.int .i64 x2.v.add, D.str x2.v.plus, D.str x2.v.minus]) = some true) :
    Ev pg i13_l0 ⟨[(2, V.ptr 0 2 [] 0 0), (3, V.ptr 0 3 [] 0 0), (5, V.d (D.int .i64 ((i : Nat) : Int)))], [(2, Ob.row true 3 true [[C.d (D.sl a.parts.nn (a.parts.l.map TPrt.c)), C.d (D.sl a.marks.nn (a.marks.l.map TMrk.c)), C.d (D.sl a.globals.nn (a.globals.l.map TTld.c))]]), (3, Ob.row true 3 true [[C.d (D.sl b.parts.nn (b.parts.l.map TPrt.c)), C.d (D.sl b.marks.nn (b.marks.l.map TMrk.c)), C.d (D.sl b.globals.nn (b.globals.l.map TTld.c))]])] :: hp⟩ .normal ⟨[(2, V.ptr 0 2 [] 0 0), (3, V.ptr 0 3 [] 0 0), (5, V.d (D.int .i64 (IntKind.i64.wrap (((i : Nat) : Int) + 1))))], [(2, Ob.row true 3 true [[C.d (D.sl a.parts.nn (a.parts.l.map TPrt.c)), C.d (D.sl a.marks.nn (a.marks.l.map TMrk.c)), C.d (D.sl a.globals.nn (a.globals.l.map TTld.c))]]), (3, Ob.row true 3 true [[C.d (D.sl b.parts.nn (b.parts.l.map TPrt.c)), C.d (D.sl b.marks.nn (b.marks.l.map TMrk.c)), C.d (D.sl b.globals.nn (b.globals.l.map TTld.c))]])] :: hp⟩ :=
  codeC_ok (hs := [.b true, .n i, .ds [D.str x1.name, D.int .i64 x1.file, D.int .i64 x1.line, D.int .i64 x1.part, D.int .i64 x1.piece, D.bool x1.equ, D.int .i64 x1.v.add, D.str x1.v.plus, D.str x1.v.minus], .n i, .ds [D.str x2.name, D.int .i64 x2.file, D.int .i64 x2.line, D.int .i64 x2.part, D.int .i64 x2.piece, D.bool x2.equ, D.int .i64 x2.v.add, D.str x2.v.plus, D.str x2.v.minus], .b true, .b false]) (hs' := []) (cs := [_, ((i : Nat) : Int) = ((i : Nat) : Int), _, ((i : Nat) : Int) = ((i : Nat) : Int), _, _, false = false]) (by kernel_rfl) ⟨c0, rfl, c1, rfl, c2, c3, rfl, trivial⟩
theorem w13g_0 (a : TUnt) (b : TUnt) (i : Nat) (hp : HL)
    (c0 : (decide (((i : Nat) : Int) < (((a.globals.l.map TTld.c).length : Nat) : Int))) = false) :
    Ev pg i13_l2 ⟨[(2, V.ptr 0 2 [] 0 0), (3, V.ptr 0 3 [] 0 0), (6, V.d (D.int .i64 ((i : Nat) : Int)))], [(2, Ob.row true 3 true [[C.d (D.sl a.parts.nn (a.parts.l.map TPrt.c)), C.d (D.sl a.marks.nn (a.marks.l.map TMrk.c)), C.d (D.sl a.globals.nn (a.globals.l.map TTld.c))]]), (3, Ob.row true 3 true [[C.d (D.sl b.parts.nn (b.parts.l.map TPrt.c)), C.d (D.sl b.marks.nn (b.marks.l.map TMrk.c)), C.d (D.sl b.globals.nn (b.globals.l.map TTld.c))]])] :: hp⟩ (.exit 2) ⟨[(2, V.ptr 0 2 [] 0 0), (3, V.ptr 0 3 [] 0 0), (6, V.d (D.int .i64 ((i : Nat) : Int))), (53, V.d (D.bool false))], [(2, Ob.row true 3 true [[C.d (D.sl a.parts.nn (a.parts.l.map TPrt.c)), C.d (D.sl a.marks.nn (a.marks.l.map TMrk.c)), C.d (D.sl a.globals.nn (a.globals.l.map TTld.c))]]), (3, Ob.row true 3 true [[C.d (D.sl b.parts.nn (b.parts.l.map TPrt.c)), C.d (D.sl b.marks.nn (b.marks.l.map TMrk.c)), C.d (D.sl b.globals.nn (b.globals.l.map TTld.c))]])] :: hp⟩ :=
  by
  have r : Ev pg i13_l2 ⟨[(2, V.ptr 0 2 [] 0 0), (3, V.ptr 0 3 [] 0 0), (6, V.d (D.int .i64 ((i : Nat) : Int)))], [(2, Ob.row true 3 true [[C.d (D.sl a.parts.nn (a.parts.l.map TPrt.c)), C.d (D.sl a.marks.nn (a.marks.l.map TMrk.c)), C.d (D.sl a.globals.nn (a.globals.l.map TTld.c))]]), (3, Ob.row true 3 true [[C.d (D.sl b.parts.nn (b.parts.l.map TPrt.c)), C.d (D.sl b.marks.nn (b.marks.l.map TMrk.c)), C.d (D.sl b.globals.nn (b.globals.l.map TTld.c))]])] :: hp⟩ (.exit 2) ⟨[(2, V.ptr 0 2 [] 0 0), (3, V.ptr 0 3 [] 0 0), (6, V.d (D.int .i64 ((i : Nat) : Int))), (53, V.d (D.bool (decide (((i : Nat) : Int) < (((a.globals.l.map TTld.c).length : Nat) : Int)))))], [(2, Ob.row true 3 true [[C.d (D.sl a.parts.nn (a.parts.l.map TPrt.c)), C.d (D.sl a.marks.nn (a.marks.l.map TMrk.c)), C.d (D.sl a.globals.nn (a.globals.l.map TTld.c))]]), (3, Ob.row true 3 true [[C.d (D.sl b.parts.nn (b.parts.l.map TPrt.c)), C.d (D.sl b.marks.nn (b.marks.l.map TMrk.c)), C.d (D.sl b.globals.nn (b.globals.l.map TTld.c))]])] :: hp⟩ :=
  codeC_ok (hs := [.b false]) (hs' := []) (cs := [_]) (by kernel_rfl) ⟨c0, trivial⟩
  simp only [c0] at r
  exact r
theorem w13g_1 (a : TUnt) (b : TUnt) (i : Nat) (hp : HL) (x1 : TTld) (x2 : TTld)
    (c0 : (decide (((i : Nat) : Int) < (((a.globals.l.map TTld.c).length : Nat) : Int))) = true)
    (c1 : (a.globals.l.map TTld.c)[i]? = some [D.str x1.name, D.int .i64 x1.file, D.int .i64 x1.line])
    (c2 : (b.globals.l.map TTld.c)[i]? = some [D.str x2.name, D.int .i64 x2.file, D.int .i64 x2.line])
    (c3 : deqT true [2, 1, 1] (D.agg [D.str x1.name, D.int .i64 x1.file, D.int .i64 x1.line]) (D.agg [D.str x2.name, D.int .i64 x2.file, D.int .i64 x2.line]) = some true) :
    Ev pg i13_l2 ⟨[(2, V.ptr 0 2 [] 0 0), (3, V.ptr 0 3 [] 0 0), (6, V.d (D.int .i64 ((i : Nat) : Int)))], [(2, Ob.row true 3 true [[C.d (D.sl a.parts.nn (a.parts.l.map TPrt.c)), C.d (D.sl a.marks.nn (a.marks.l.map TMrk.c)), C.d (D.sl a.globals.nn (a.globals.l.map TTld.c))]]), (3, Ob.row true 3 true [[C.d (D.sl b.parts.nn (b.parts.l.map TPrt.c)), C.d (D.sl b.marks.nn (b.marks.l.map TMrk.c)), C.d (D.sl b.globals.nn (b.globals.l.map TTld.c))]])] :: hp⟩ .normal ⟨[(2, V.ptr 0 2 [] 0 0), (3, V.ptr 0 3 [] 0 0), (6, V.d (D.int .i64 (IntKind.i64.wrap (((i : Nat) : Int) + 1))))], [(2, Ob.row true 3 true [[C.d (D.sl a.parts.nn (a.parts.l.map TPrt.c)), C.d (D.sl a.marks.nn (a.marks.l.map TMrk.c)), C.d (D.sl a.globals.nn (a.globals.l.map TTld.c))]]), (3, Ob.row true 3 true [[C.d (D.sl b.parts.nn (b.parts.l.map TPrt.c)), C.d (D.sl b.marks.nn (b.marks.l.map TMrk.c)), C.d (D.sl b.globals.nn (b.globals.l.map TTld.c))]])] :: hp⟩ :=
  codeC_ok (hs := [.b true, .n i, .ds [D.str x1.name, D.int .i64 x1.file, D.int .i64 x1.line], .n i, .ds [D.str x2.name, D.int .i64 x2.file, D.int .i64 x2.line], .b true, .b false]) (hs' := []) (cs := [_, ((i : Nat) : Int) = ((i : Nat) : Int), _, ((i : Nat) : Int) = ((i : Nat) : Int), _, _, false = false]) (by kernel_rfl) ⟨c0, rfl, c1, rfl, c2, c3, rfl, trivial⟩
theorem w13_0 (a : TUnt) (b : TUnt) (hp : HL)
    (c0 : Rn pg 31 [V.d (D.sl a.parts.nn (a.parts.l.map TPrt.c)), V.d (D.sl b.parts.nn (b.parts.l.map TPrt.c))] ([]) (V.d (D.bool true)) ([]))
    (c1 : ((((a.marks.l.map TMrk.c).length : Nat) : Int) != (((b.marks.l.map TMrk.c).length : Nat) : Int)) = false)
    (c2 : ((((a.globals.l.map TTld.c).length : Nat) : Int) != (((b.globals.l.map TTld.c).length : Nat) : Int)) = false)
    (c3 : Lp pg i13_l0 ⟨[(2, V.ptr 0 2 [] 0 0), (3, V.ptr 0 3 [] 0 0), (5, V.d (D.int .i64 0))], [(2, Ob.row true 3 true [[C.d (D.sl a.parts.nn (a.parts.l.map TPrt.c)), C.d (D.sl a.marks.nn (a.marks.l.map TMrk.c)), C.d (D.sl a.globals.nn (a.globals.l.map TTld.c))]]), (3, Ob.row true 3 true [[C.d (D.sl b.parts.nn (b.parts.l.map TPrt.c)), C.d (D.sl b.marks.nn (b.marks.l.map TMrk.c)), C.d (D.sl b.globals.nn (b.globals.l.map TTld.c))]])] :: hp⟩ (.exit 0) ⟨[(2, V.ptr 0 2 [] 0 0), (3, V.ptr 0 3 [] 0 0), (5, V.d (D.int .i64 ((a.marks.l.length : Nat) : Int))), (35, V.d (D.bool false))], [(2, Ob.row true 3 true [[C.d (D.sl a.parts.nn (a.parts.l.map TPrt.c)), C.d (D.sl a.marks.nn (a.marks.l.map TMrk.c)), C.d (D.sl a.globals.nn (a.globals.l.map TTld.c))]]), (3, Ob.row true 3 true [[C.d (D.sl b.parts.nn (b.parts.l.map TPrt.c)), C.d (D.sl b.marks.nn (b.marks.l.map TMrk.c)), C.d (D.sl b.globals.nn (b.globals.l.map TTld.c))]])] :: hp⟩)
    (c4 : Lp pg i13_l2 ⟨[(2, V.ptr 0 2 [] 0 0), (3, V.ptr 0 3 [] 0 0), (6, V.d (D.int .i64 0))], [(2, Ob.row true 3 true [[C.d (D.sl a.parts.nn (a.parts.l.map TPrt.c)), C.d (D.sl a.marks.nn (a.marks.l.map TMrk.c)), C.d (D.sl a.globals.nn (a.globals.l.map TTld.c))]]), (3, Ob.row true 3 true [[C.d (D.sl b.parts.nn (b.parts.l.map TPrt.c)), C.d (D.sl b.marks.nn (b.marks.l.map TMrk.c)), C.d (D.sl b.globals.nn (b.globals.l.map TTld.c))]])] :: hp⟩ (.exit 2) ⟨[(2, V.ptr 0 2 [] 0 0), (3, V.ptr 0 3 [] 0 0), (6, V.d (D.int .i64 ((a.globals.l.length : Nat) : Int))), (53, V.d (D.bool false))], [(2, Ob.row true 3 true [[C.d (D.sl a.parts.nn (a.parts.l.map TPrt.c)), C.d (D.sl a.marks.nn (a.marks.l.map TMrk.c)), C.d (D.sl a.globals.nn (a.globals.l.map TTld.c))]]), (3, Ob.row true 3 true [[C.d (D.sl b.parts.nn (b.parts.l.map TPrt.c)), C.d (D.sl b.marks.nn (b.marks.l.map TMrk.c)), C.d (D.sl b.globals.nn (b.globals.l.map TTld.c))]])] :: hp⟩) :
    Rn pg 13 [V.d (D.agg [D.sl a.parts.nn (a.parts.l.map TPrt.c), D.sl a.marks.nn (a.marks.l.map TMrk.c), D.sl a.globals.nn (a.globals.l.map TTld.c)]), V.d (D.agg [D.sl b.parts.nn (b.parts.l.map TPrt.c), D.sl b.marks.nn (b.marks.l.map TMrk.c), D.sl b.globals.nn (b.globals.l.map TTld.c)])] (hp) (V.d (D.bool true)) (hp) :=
  Rn.c (fn := i13) (ex := .ret) (st := ⟨[(4, V.d (D.bool true))], [] :: hp⟩) (hs := [.call (V.d (D.bool true)) ([]), .b false, .b false, .b false, .b false, .b false, .b false, .b false, .b false, .b false, .b false, .b false, .b false, .b false, .b false, .b false, .b false, .b false, .lp (.exit 0) ⟨[(2, V.ptr 0 2 [] 0 0), (3, V.ptr 0 3 [] 0 0), (5, V.d (D.int .i64 ((a.marks.l.length : Nat) : Int))), (35, V.d (D.bool false))], [(2, Ob.row true 3 true [[C.d (D.sl a.parts.nn (a.parts.l.map TPrt.c)), C.d (D.sl a.marks.nn (a.marks.l.map TMrk.c)), C.d (D.sl a.globals.nn (a.globals.l.map TTld.c))]]), (3, Ob.row true 3 true [[C.d (D.sl b.parts.nn (b.parts.l.map TPrt.c)), C.d (D.sl b.marks.nn (b.marks.l.map TMrk.c)), C.d (D.sl b.globals.nn (b.globals.l.map TTld.c))]])] :: hp⟩, .lp (.exit 2) ⟨[(2, V.ptr 0 2 [] 0 0), (3, V.ptr 0 3 [] 0 0), (6, V.d (D.int .i64 ((a.globals.l.length : Nat) : Int))), (53, V.d (D.bool false))], [(2, Ob.row true 3 true [[C.d (D.sl a.parts.nn (a.parts.l.map TPrt.c)), C.d (D.sl a.marks.nn (a.marks.l.map TMrk.c)), C.d (D.sl a.globals.nn (a.globals.l.map TTld.c))]]), (3, Ob.row true 3 true [[C.d (D.sl b.parts.nn (b.parts.l.map TPrt.c)), C.d (D.sl b.marks.nn (b.marks.l.map TMrk.c)), C.d (D.sl b.globals.nn (b.globals.l.map TTld.c))]])] :: hp⟩]) (cs := [_, false = false, false = false, false = false, false = false, false = false, false = false, false = false, false = false, _, _, _, _, _, _, _, _, _, _, _]) (rs := [V.d (D.bool true)]) (t := [])
    (by kernel_rfl) (by kernel_rfl) (by kernel_rfl) (by kernel_rfl) (by kernel_rfl) (by kernel_rfl) ⟨c0, rfl, rfl, rfl, rfl, rfl, rfl, rfl, rfl, c1, c1, c1, c1, c1, c1, c1, c1, c2, c3, c4, trivial⟩
end Go.Proofs.YtgmphfmoonbfpaaMv

namespace Go.Proofs.YtgmphfmoonbfpaaMv
open Go
theorem Lp.count {p : Pg} {b : IR} {id n : Nat} {S : Nat → St} {T : St} (h : ∀ i, i < n → Ev p b (S i) .normal (S (i + 1))) (hT : Ev p b (S n) (.exit id) T) : Lp p b (S 0) (.exit id) T := by
  suffices H : ∀ k i, n - i = k → i ≤ n → Lp p b (S i) (.exit id) T from H n 0 (by omega) (Nat.zero_le _)
  intro k
  induction k with
  | zero =>
    intro i hi hle
    have : i = n := by omega
    subst this
    exact Lp.exit hT
  | succ k ih =>
    intro i hi hle
    exact Lp.next (h i (by omega)) (ih (i + 1) (by omega) (by omega))
def simL {α : Type} (R : α → α → Prop) (aa bs : List α) : Prop := aa.length = bs.length ∧ ∀ (i : Nat) a b, aa[i]? = some a → bs[i]? = some b → R a b
theorem simL.nil {α : Type} {R : α → α → Prop} : simL R [] [] := ⟨rfl, by simp⟩
theorem simL.get {α : Type} {R : α → α → Prop} {aa bs : List α} (h : simL R aa bs) {i : Nat} {a : α} (ha : aa[i]? = some a) : ∃ b, bs[i]? = some b ∧ R a b := by
  have hi := (List.getElem?_eq_some_iff.1 ha).1
  have hib : i < bs.length := by rw [← h.1]; exact hi
  have hb : bs[i]? = some bs[i] := List.getElem?_eq_getElem hib
  exact ⟨_, hb, h.2 i _ _ ha hb⟩
structure TPce.sim (a b : TPce) : Prop where
  kind : a.kind = b.kind
  file : a.file = b.file
  line : a.line = b.line
  name : a.l.name = b.l.name
  opers : a.l.opers.l = b.l.opers.l
  v : a.v = b.v
  size : a.size = b.size
  bytes : a.b.l = b.b.l
  align : a.align = b.align
structure TPrt.sim (a b : TPrt) : Prop where
  name : a.name = b.name
  file : a.file = b.file
  line : a.line = b.line
  pieces : simL TPce.sim a.pieces.l b.pieces.l
structure TUnt.sim (a b : TUnt) : Prop where
  parts : simL TPrt.sim a.parts.l b.parts.l
  marks : a.marks.l = b.marks.l
  globals : a.globals.l = b.globals.l
theorem f71 (n1 n2 : Bool) (l : List TOpr) (hl : l.length < 2 ^ 30) (hp : HL) : Rn pg 71 [V.d (D.sl n1 (l.map TOpr.c)), V.d (D.sl n2 (l.map TOpr.c))] hp (V.d (D.bool true)) hp := by
  refine w71_0 n1 n2 l hp (by simp) (Lp.count (n := l.length) (S := fun i => ⟨[(0, V.d (D.sl n1 (l.map TOpr.c))), (1, V.d (D.sl n2 (l.map TOpr.c))), (5, V.d (D.int .i64 ((i : Nat) : Int)))], [] :: hp⟩) (fun i hi => ?_) (w71l_0 n1 n2 l l.length hp (by simp)))
  have hpi : l[i]? = some l[i] := List.getElem?_eq_getElem hi
  have r := w71l_1 n1 n2 l i hp l[i] (by simp; omega) (by rw [List.getElem?_map, hpi]; rfl) ((TOpr.deq l[i] l[i]).trans (by simp))
  rw [wrap64 (by omega) (by omega)] at r
  exact r
theorem strOf_u8c : ∀ l : List UInt8, strOf (l.map u8c) = some l := by
  intro l
  induction l with
  | nil => rfl
  | cons b l ih => simp [strOf, u8c, ih]
theorem f58 (a b : TPce) (h : a.sim b) (hl : a.l.opers.l.length < 2 ^ 30) (hp : HL) : Rn pg 58 [V.d (D.agg a.c), V.d (D.agg b.c)] hp (V.d (D.bool true)) hp := by
  have r := w58_0 a b hp (by simp [h.kind]) (by simp [h.file]) (by simp [h.line]) (by simp [h.name]) (by rw [← h.opers]; exact f71 _ _ _ hl _) ((TVal.deq a.v b.v).trans (by simp [h.v])) (by simp [h.size])
    (all_len (f := u8c) (fun _ => rfl) _) (allDs_map _) (strOf_u8c _) (all_len (f := u8c) (fun _ => rfl) _) (allDs_map _) (strOf_u8c _) (by simp [h.bytes])
  rw [show (a.align == b.align) = true by simp [h.align]] at r
  exact r
theorem f31 (aa bs : Sl TPrt) (h : simL TPrt.sim aa.l bs.l) (hl : aa.l.length < 2 ^ 30) (hq : ∀ p ∈ aa.l, p.pieces.l.length < 2 ^ 30 ∧ ∀ x ∈ p.pieces.l, x.l.opers.l.length < 2 ^ 30) (hp : HL) :
    Rn pg 31 [V.d (D.sl aa.nn (aa.l.map TPrt.c)), V.d (D.sl bs.nn (bs.l.map TPrt.c))] hp (V.d (D.bool true)) hp := by
  refine w31_0 aa bs hp (by simp [h.1]) (Lp.count (n := aa.l.length) (S := fun i => ⟨[(0, V.d (D.sl aa.nn (aa.l.map TPrt.c))), (1, V.d (D.sl bs.nn (bs.l.map TPrt.c))), (5, V.d (D.int .i64 ((i : Nat) : Int)))], [] :: hp⟩) (fun i hi => ?_) (w31o_0 aa bs aa.l.length hp (by simp)))
  have hpi : aa.l[i]? = some aa.l[i] := List.getElem?_eq_getElem hi
  obtain ⟨b, hb, hs⟩ := h.get hpi
  have ha : (aa.l.map TPrt.c)[i]? = some aa.l[i].c := by rw [List.getElem?_map, hpi]; rfl
  have hbc : (bs.l.map TPrt.c)[i]? = some b.c := by rw [List.getElem?_map, hb]; rfl
  have hm := hq _ (List.getElem_mem hi)
  have hin : Lp pg i31_l2 ⟨[(0, V.d (D.sl aa.nn (aa.l.map TPrt.c))), (1, V.d (D.sl bs.nn (bs.l.map TPrt.c))), (5, V.d (D.int .i64 ((i : Nat) : Int))), (6, V.d (D.int .i64 0))], [] :: hp⟩ (.exit 2) ⟨[(0, V.d (D.sl aa.nn (aa.l.map TPrt.c))), (1, V.d (D.sl bs.nn (bs.l.map TPrt.c))), (5, V.d (D.int .i64 ((i : Nat) : Int))), (6, V.d (D.int .i64 ((aa.l[i].pieces.l.length : Nat) : Int))), (77, V.d (D.bool false))], [] :: hp⟩ := by
    refine Lp.count (n := aa.l[i].pieces.l.length) (S := fun j => ⟨[(0, V.d (D.sl aa.nn (aa.l.map TPrt.c))), (1, V.d (D.sl bs.nn (bs.l.map TPrt.c))), (5, V.d (D.int .i64 ((i : Nat) : Int))), (6, V.d (D.int .i64 ((j : Nat) : Int)))], [] :: hp⟩) (fun j hj => ?_) (w31i_0 aa bs i aa.l[i].pieces.l.length hp aa.l[i] ha (by simp))
    have hpj : aa.l[i].pieces.l[j]? = some aa.l[i].pieces.l[j] := List.getElem?_eq_getElem hj
    obtain ⟨y, hy, hys⟩ := hs.pieces.get hpj
    have r := w31i_1 aa bs i j hp aa.l[i] aa.l[i].pieces.l[j] b y ha (by simp; omega) (by rw [List.getElem?_map, hpj]; rfl) hbc (by rw [List.getElem?_map, hy]; rfl) (f58 _ _ hys (hm.2 _ (List.getElem_mem hj)) _)
    rw [wrap64 (by omega) (by omega)] at r
    exact r
  have r := w31o_1 aa bs i hp aa.l[i] b (by simp; omega) ha hbc (by simp [hs.name]) (by simp [hs.file]) (by simp [hs.line]) (by simp [hs.pieces.1]) hin
  rw [wrap64 (by omega) (by omega)] at r
  exact r
theorem f13 (a b : TUnt) (h : a.sim b) (hl : a.parts.l.length < 2 ^ 30) (hq : ∀ p ∈ a.parts.l, p.pieces.l.length < 2 ^ 30 ∧ ∀ x ∈ p.pieces.l, x.l.opers.l.length < 2 ^ 30) (hm : a.marks.l.length < 2 ^ 30) (hg : a.globals.l.length < 2 ^ 30) (hp : HL) :
    Rn pg 13 [V.d (D.agg a.c), V.d (D.agg b.c)] hp (V.d (D.bool true)) hp := by
  refine w13_0 a b hp (f31 _ _ h.parts hl hq _) (by simp [h.marks]) (by simp [h.globals]) ?_ ?_
  · refine Lp.count (n := a.marks.l.length) (S := fun i => ⟨[(2, V.ptr 0 2 [] 0 0), (3, V.ptr 0 3 [] 0 0), (5, V.d (D.int .i64 ((i : Nat) : Int)))], [(2, Ob.row true 3 true [a.oc]), (3, Ob.row true 3 true [b.oc])] :: hp⟩) (fun i hi => ?_) (w13m_0 a b a.marks.l.length hp (by simp))
    have hpi : a.marks.l[i]? = some a.marks.l[i] := List.getElem?_eq_getElem hi
    have r := w13m_1 a b i hp a.marks.l[i] a.marks.l[i] (by simp; omega) (by rw [List.getElem?_map, hpi]; rfl) (by rw [← h.marks, List.getElem?_map, hpi]; rfl) ((TMrk.deq a.marks.l[i] a.marks.l[i]).trans (by simp))
    rw [wrap64 (by omega) (by omega)] at r
    exact r
  · refine Lp.count (n := a.globals.l.length) (S := fun i => ⟨[(2, V.ptr 0 2 [] 0 0), (3, V.ptr 0 3 [] 0 0), (6, V.d (D.int .i64 ((i : Nat) : Int)))], [(2, Ob.row true 3 true [a.oc]), (3, Ob.row true 3 true [b.oc])] :: hp⟩) (fun i hi => ?_) (w13g_0 a b a.globals.l.length hp (by simp))
    have hpi : a.globals.l[i]? = some a.globals.l[i] := List.getElem?_eq_getElem hi
    have r := w13g_1 a b i hp a.globals.l[i] a.globals.l[i] (by simp; omega) (by rw [List.getElem?_map, hpi]; rfl) (by rw [← h.globals, List.getElem?_map, hpi]; rfl) ((TTld.deq a.globals.l[i] a.globals.l[i]).trans (by simp))
    rw [wrap64 (by omega) (by omega)] at r
    exact r
end Go.Proofs.YtgmphfmoonbfpaaMv

namespace Go.Proofs.YtgmphfmoonbfpaaMv
open Go
def TPce.er (x : TPce) : TPce := { x with l := ⟨x.l.name, ⟨false, x.l.opers.l⟩⟩, b := ⟨false, x.b.l⟩ }
def OPrt.er (p : OPrt) : OPrt := { p with pieces := p.pieces.map TPce.er }
def Ms.er (m : Ms) : Ms := { m with parts := m.parts.map OPrt.er }
theorem idxGo_er (nm : List UInt8) : ∀ (ps : List OPrt) (i : Nat), idxGo nm i (ps.map OPrt.er) = idxGo nm i ps
  | [], i => rfl
  | p :: ps, i => by
    simp only [List.map_cons, idxGo, idxGo_er nm ps]
    rfl
theorem pce_sim {a b : TPce} (h : a.er = b.er) : a.sim b := by
  obtain ⟨k, f, l, ⟨nm, ⟨n1, o⟩⟩, v, z, ⟨n2, by'⟩, al⟩ := a
  obtain ⟨k', f', l', ⟨nm', ⟨n1', o'⟩⟩, v', z', ⟨n2', by''⟩, al'⟩ := b
  simp only [TPce.er, TPce.mk.injEq, TLin.mk.injEq, Sl.mk.injEq, true_and] at h
  obtain ⟨rfl, rfl, rfl, ⟨rfl, rfl⟩, rfl, rfl, rfl, rfl⟩ := h
  exact ⟨rfl, rfl, rfl, rfl, rfl, rfl, rfl, rfl, rfl⟩
theorem simL_map {α : Type} {R : α → α → Prop} {f : α → α} (hf : ∀ a b, f a = f b → R a b) {aa bs : List α} (h : aa.map f = bs.map f) : simL R aa bs := by
  refine ⟨by simpa using congrArg List.length h, fun i a b ha hb => hf a b ?_⟩
  have h1 : (aa.map f)[i]? = some (f a) := by simp [ha]
  have h2 : (bs.map f)[i]? = some (f b) := by simp [hb]
  rw [h, h2] at h1
  exact (Option.some.inj h1).symm
theorem unt_sim {m m' : Ms} (h : m.er = m'.er) : m.unt.sim m'.unt := by
  have hp : m.parts.map OPrt.er = m'.parts.map OPrt.er := congrArg Ms.parts h
  have hm : m.er.marks = m'.er.marks := by rw [h]
  have hg : m.er.globals = m'.er.globals := by rw [h]
  refine ⟨?_, hm, hg⟩
  refine ⟨by simpa [Ms.unt] using congrArg List.length hp, fun i a b ha hb => ?_⟩
  simp only [Ms.unt, List.getElem?_map, Option.map_eq_some_iff] at ha hb
  obtain ⟨p, hp1, rfl⟩ := ha
  obtain ⟨q, hq1, rfl⟩ := hb
  have h1 : (m.parts.map OPrt.er)[i]? = some p.er := by simp [hp1]
  have h2 : (m'.parts.map OPrt.er)[i]? = some q.er := by simp [hq1]
  rw [hp, h2] at h1
  have he : q.er = p.er := Option.some.inj h1
  obtain ⟨nm, f, l, ps⟩ := p
  obtain ⟨nm', f', l', ps'⟩ := q
  simp only [OPrt.er, OPrt.mk.injEq] at he
  obtain ⟨rfl, rfl, rfl, hps⟩ := he
  exact ⟨rfl, rfl, rfl, simL_map (fun _ _ => pce_sim) hps.symm⟩
end Go.Proofs.YtgmphfmoonbfpaaMv

set_option maxRecDepth 100000
namespace Go.Proofs.YtgmphfmoonbfpaaMv
open Go
end Go.Proofs.YtgmphfmoonbfpaaMv

namespace Go.Proofs.YtgmphfmoonbfpaaMv
open Go
theorem t7 (m : Nat) : run pg (m + 40) 7 [] [] = some (.d (.bool true), []) := by kernel_rfl
theorem f7 : Rn pg 7 [] [] (.d (.bool true)) [] := ⟨40, fun m hm => by
  obtain ⟨k, rfl⟩ := Nat.exists_eq_add_of_le hm
  rw [Nat.add_comm]
  exact t7 k⟩
end Go.Proofs.YtgmphfmoonbfpaaMv

namespace Go.Proofs.YtgmphfmoonbfpaaMv
open Go
structure rowsOk (rs : Sl TRow) : Prop where
  opers : ∀ x ∈ rs.l, x.s.line.opers.l.length < 2 ^ 30 ∧ x.s.bytes.l.length < 2 ^ 30
  wt : wts rs.l < 2 ^ 28
  len : rs.l.length < 2 ^ 28
end Go.Proofs.YtgmphfmoonbfpaaMv

set_option maxRecDepth 100000
namespace Go.Proofs.YtgmphfmoonbfpaaMv
open Go Go.ChangeShapes Go.WideShapes Go.ChangeAt Go.RowKit
theorem carryAll {H : Type} {enc : TypeId × Value → H} {P : Program} {w w' : World} {base : Nat} {spare : Nat → Bool} {held : Bool} : ∀ {ts : List TypeId} {vs : List Value} {ds : List (DataW H)} {ps : List MemPlace}, DataW.TrodAll enc P w base spare held ts vs ds ps → (∀ p ∈ ps, w.sameAt w' p) → DataW.TrodAll enc P w' base spare held ts vs ds ps
  | [], [], [], _, h, _ => h
  | _ :: _, _ :: _, _ :: _, _, ⟨p, q, ⟨n, h1⟩, h2, e⟩, hs => ⟨p, q, ⟨n, DataW.trod_carry n _ _ _ h1 (fun x hx => hs x (by rw [e]; exact List.mem_append_left _ hx))⟩, carryAll h2 (fun x hx => hs x (by rw [e]; exact List.mem_append_right _ hx)), e⟩
structure Lay (w w' : World) : Prop where
  os : w'.os = w.os
  output : w'.output = w.output
  size : w.heap.size ≤ w'.heap.size
  keep : ∀ b, b < w.heap.size → w'.heap[b]? = w.heap[b]?
theorem Lay.sameAt {w w' : World} (L : Lay w w') {p : MemPlace} (hp : p.block < w.heap.size) : w.sameAt w' p := by
  cases p with
  | cell b off =>
    show w'.cell? _ = w.cell? _
    unfold World.cell?
    simp only [L.keep b hp]
  | map b => exact L.keep b hp
theorem Lay.kept {w w' : World} (L : Lay w w') (may : MemPlace → Prop) : w.keptBut w' may := by
  refine ⟨L.os, L.output, fun i hi => ?_⟩
  rw [L.keep i hi]
  cases h : w.heap[i]? with
  | none => simp
  | some o => cases o <;> simp
theorem Lay.frozen {w w' : World} (L : Lay w w') {a : Addr} (ha : a.block < w.heap.size) : w'.frozen? a = w.frozen? a := by
  unfold World.frozen?
  rw [L.keep _ ha]
theorem kidsP : Kids Go.Proofs.Try.prog (· < Go.Proofs.Try.prog.types.size) := kids_rows (by kernel_rfl) (by kernel_rfl)
theorem fullP : ∀ t e, t < Go.Proofs.Try.prog.types.size → Go.Proofs.Try.prog.underlying t = some (.slice e) → 0 < Go.Proofs.Try.prog.cellsOf e := slices_full_of _ (by kernel_rfl)
theorem post_true {H : Type} {enc : TypeId × Value → H} {f : Func} {s : ChangeSpec} {apart fresh handsOn again : Bool} {W W' : World} {args : Array Value} {ds gs : List (DataW H)} {before : List MemPlace} {tb : TypeId}
    (hW : DataW.Whole enc Go.Proofs.Try.prog f.params.toList s.vars apart W args.toList ds gs before) (hvars : s.vars = []) (hrt : f.resultTypes = #[tb]) (hb : Go.Proofs.Try.prog.underlying tb = some .bool)
    (hpar : ∀ t ∈ f.params.toList, t < Go.Proofs.Try.prog.types.size) (hfn : s.fn H (ds ++ gs) = { results := [.lit (.bool true)], args := ds }) (L : Lay W W') :
    s.post enc Go.Proofs.Try.prog f apart fresh handsOn again W args (.bool true) W' := by
  have hlt := hW.lt
  have hW0 := hW
  obtain ⟨p, q, hA, hV, hbf, hz, hn⟩ := hW0
  rw [hvars] at hV
  obtain ⟨rfl, rfl⟩ := trodVars_none hV
  have hbf' : before = p := by simpa using hbf
  subst hbf'
  have hargs : ∀ sp : Nat → Bool, (∀ p ∈ before, sp p.block = true) → DataW.TrodAll enc Go.Proofs.Try.prog W' 0 sp true f.params.toList args.toList ds before :=
    fun sp hsp => carryAll (DataW.TrodAll.respare kidsP fullP hpar hA hsp) (fun x hx => L.sameAt (hlt x hx))
  have hres : ∀ (b : Nat) (sp : Nat → Bool) (hd : Bool), DataW.TrodAll enc Go.Proofs.Try.prog W' b sp hd f.resultTypes.toList ((Value.bool true).resultList f.resultTypes.size) [.lit (.bool true)] [] := by
    intro b sp hd
    rw [hrt]
    exact trodAll_cons_mk (shut_bool hb true) trodAll_mk0
  have hvs : ∀ sp : Nat → Bool, DataW.TrodVars enc Go.Proofs.Try.prog W' sp s.vars [] [] := by
    intro sp; rw [hvars]; rfl
  refine ⟨ds, [], before, [], before, [], hW, ?_, ?_, ?_, World.keptBut_mono (fun p hp => ⟨hp, .inr (.inl hp)⟩) (L.kept (· ∈ before)), fun _ => ?_⟩
  · rw [hfn]; exact hres _ _ _
  · rw [hfn]; exact hargs _ (fun p hp => by simpa using hlt p hp)
  · rw [hfn]; exact hvs _
  · refine ⟨ok_one hrt rfl (okWide_bool_mk hb true), _, _, ([] ++ before) ++ [], ⟨[] ++ before, [], trodAll_append (hargs _ (fun _ _ => rfl)) (hres _ _ _), hvs _, rfl, ?_, ?_⟩, ?_⟩
    · intro b off hp
      have hmem : MemPlace.cell b off ∈ before := by simpa using hp
      rw [L.frozen (hlt _ hmem)]
      exact hz b off (by simpa using hmem)
    · intro ha
      have := hn ha
      simpa using this
    · intro x hx _
      simpa using hx
theorem len_sums {α : Type} {wt : α → Nat} (h : ∀ x, 1 ≤ wt x) : ∀ l : List α, l.length ≤ sums wt l
  | [] => Nat.zero_le _
  | x :: l => by
    have h1 := len_sums h l
    have h2 := h x
    simp only [sums, List.map_cons, List.sum_cons, List.length_cons] at *
    omega
theorem mem_sums {α : Type} {wt : α → Nat} {x : α} : ∀ {l : List α}, x ∈ l → wt x ≤ sums wt l
  | y :: l, h => by
    simp only [sums, List.map_cons, List.sum_cons]
    rcases List.mem_cons.1 h with rfl | h
    · omega
    · have := mem_sums (wt := wt) h
      simp only [sums] at this
      omega
theorem TOpr.w1 (x : TOpr) : 1 ≤ x.w := by unfold TOpr.w; omega
theorem TVal.w1 (x : TVal) : 1 ≤ x.w := by unfold TVal.w; omega
theorem wstr1 (x : List UInt8) : 1 ≤ wstr x := by unfold wstr; omega
theorem TLin.w_opers (x : TLin) : x.opers.l.length < x.w := by
  have := len_sums TOpr.w1 x.opers.l
  simp only [TLin.w]; omega
theorem TStm.w_all (x : TStm) : x.line.opers.l.length < x.w ∧ x.bytes.l.length < x.w ∧ x.labels.l.length + x.names.l.length + x.values.l.length + 2 ≤ x.w := by
  have h1 := x.line.w_opers
  have h2 := len_sums (wt := fun _ : UInt8 => 1) (fun _ => Nat.le_refl _) x.bytes.l
  have h3 := len_sums wstr1 x.labels.l
  have h4 := len_sums wstr1 x.names.l
  have h5 := len_sums TVal.w1 x.values.l
  simp only [TStm.w]
  refine ⟨by omega, by omega, by omega⟩
theorem TRow.w_wt (x : TRow) : x.wt ≤ 2 * x.w ∧ 1 ≤ x.w ∧ x.s.w ≤ x.w := by
  have h := x.s.w_all
  simp only [TRow.wt, TStm.wt, TRow.w]
  refine ⟨by omega, by omega, by omega⟩
end Go.Proofs.YtgmphfmoonbfpaaMv

set_option maxRecDepth 100000
namespace Go.Proofs.YtgmphfmoonbfpaaMv
open Go Go.ChangeShapes Go.WideShapes Go.ChangeAt Go.RowKit
open Go.Proofs.Ytgmphfmoonbfpaa
theorem forb0 : Forb (fun _ => False) (hof ([] : HL)) (fun _ _ _ => 0) = fun _ => False := by
  funext b
  apply propext
  constructor
  · rintro (⟨u, s, p, n, h, _⟩ | h)
    · simp [nd, hof] at h
    · exact h
  · exact fun h => h.elim
theorem hrel0 (w : World) : HRel (fun _ => False) (hof ([] : HL)) (fun _ _ _ => 0) w := by
  refine ⟨fun u s p n h => ?_, fun u s p n u' s' p' n' h => ?_, fun b h => h.elim, fun b _ h => h⟩
  · simp [nd, hof] at h
  · simp [nd, hof] at h
theorem rv_of_one {w : World} {d : D} {v : Value} (h : Cs w [d] [v]) : RV (fun _ => False) (hof ([] : HL)) (fun _ _ _ => 0) w (.d d) v := by
  refine RV.of1 ?_
  show RD w (Forb _ _ _) d v
  rw [forb0]
  exact (h.2 0 d v rfl rfl).1
theorem calls_true {g : FuncId} {fn : IFn} (hfn : pg.fns g = some fn) {vs : List V} {args : Array Value} {W : World} (hv : RVL (fun _ => False) (hof ([] : HL)) (fun _ _ _ => 0) W vs args) (h : Rn pg g vs [] (.d (.bool true)) []) :
    Calls Go.Proofs.Try.prog g args W fun e W' => e = .returned (.bool true) ∧ Lay W W' := by
  obtain ⟨n, hn⟩ := h
  refine Calls.mono (pg_calls hfn n vs [] _ [] (hn (n + 1) (by omega)) _ _ W args (hrel0 W) hv).2 fun e W' he => ?_
  obtain ⟨cv, rfl, B', A, hr⟩ := he
  have hcv : cv = .bool true := by
    have := hr.to1 rfl
    cases this
    rfl
  subst hcv
  refine ⟨rfl, A.stp.os, A.stp.output, A.stp.size, fun b hb => A.stp.keep b hb ?_⟩
  rintro ⟨u, s, p, m, h, _⟩
  simp [nd, hof] at h
theorem own : ownKnob Try.prog.godebug = none := by kernel_rfl
end Go.Proofs.YtgmphfmoonbfpaaMv

namespace Go.Proofs.YtgmphfmoonbfpaaMv
open Go
def icc (n : Int) : List C := [C.d (D.int .i64 n)]
structure JU where
  parts : List OPrt
  marks : List TMrk
  globals : List TTld
  deriving DecidableEq, Inhabited
structure JP where
  ps : List OPrt
  a7 : List Int
  a8 : List Int
  deriving DecidableEq, Inhabited
def TPce.cln (x : TPce) : TPce := { x with l := ⟨x.l.name, x.l.opers.cl⟩, b := x.b.cl }
def OPrt.addAll (p : OPrt) (l : List TPce) : OPrt := { p with pieces := p.pieces ++ l }
def TPrt.new (p : TPrt) : OPrt := ⟨p.name, p.file, p.line, []⟩
def ensure (ps : List OPrt) (p : TPrt) : List OPrt := match idxGo p.name 0 ps with
  | some _ => ps
  | none => ps ++ [p.new]
def pidx (ps : List OPrt) (p : TPrt) : Nat := (idxGo p.name 0 ps).getD ps.length
def plenAt (ps : List OPrt) (q : Nat) : Nat := ((ps[q]?).map (·.pieces.length)).getD 0
def JP.step (j : JP) (p : TPrt) : JP :=
  ⟨(ensure j.ps p).modify (pidx j.ps p) (·.addAll (p.pieces.l.map TPce.cln)), j.a7 ++ [(pidx j.ps p : Int)], j.a8 ++ [(plenAt (ensure j.ps p) (pidx j.ps p) : Int)]⟩
def markJ (a7 a8 : List Int) (x : TMrk) : TMrk :=
  if 0 ≤ x.part ∧ x.part < (a7.length : Int) then { x with part := (a7[x.part.toNat]?).getD 0, piece := IntKind.i64.wrap (x.piece + (a8[x.part.toNat]?).getD 0) } else { x with part := -1, piece := 0 }
def JU.join (j : JU) (u : TUnt) : JU :=
  let q := u.parts.l.foldl JP.step ⟨j.parts, [], []⟩
  ⟨q.ps, j.marks ++ u.marks.l.map (markJ q.a7 q.a8), j.globals ++ u.globals.l⟩
def joinM (us : List TUnt) : JU := us.foldl JU.join ⟨[], [], []⟩
def JU.unt (m : JU) : TUnt := ⟨⟨false, m.parts.map OPrt.t⟩, ⟨false, m.marks⟩, ⟨false, m.globals⟩⟩
def TPrt.wt (p : TPrt) : Nat := p.pieces.l.length + 1
def TUnt.wt (u : TUnt) : Nat := (u.parts.l.map TPrt.wt).sum + u.marks.l.length + u.globals.l.length
def TPce.ok (x : TPce) : Prop := x.l.opers.l.length < 2 ^ 30 ∧ x.b.l.length < 2 ^ 30
def TUnt.ok (u : TUnt) : Prop := ∀ p ∈ u.parts.l, ∀ x ∈ p.pieces.l, x.ok
theorem JP.len7 (l : List TPrt) : ∀ j : JP, (l.foldl JP.step j).a7.length = j.a7.length + l.length := by
  induction l with
  | nil => intro j; rfl
  | cons p l ih => intro j; rw [List.foldl_cons, ih]; simp [JP.step]; omega
theorem JP.len8 (l : List TPrt) : ∀ j : JP, (l.foldl JP.step j).a8.length = j.a8.length + l.length := by
  induction l with
  | nil => intro j; rfl
  | cons p l ih => intro j; rw [List.foldl_cons, ih]; simp [JP.step]; omega
structure psLe (ps : List OPrt) (k : Nat) : Prop where
  len : ps.length ≤ k
  pieces : ∀ p ∈ ps, p.pieces.length ≤ k
theorem psLe.mono {ps : List OPrt} {k k' : Nat} (h : psLe ps k) (hk : k ≤ k') : psLe ps k' := ⟨Nat.le_trans h.len hk, fun p hp => Nat.le_trans (h.pieces p hp) hk⟩
theorem psLe.ens {ps : List OPrt} {k : Nat} (h : psLe ps k) (p : TPrt) : psLe (ensure ps p) (k + 1) := by
  unfold ensure
  split
  · exact h.mono (by omega)
  · refine ⟨by simp [h.len], fun q hq => ?_⟩
    simp only [List.mem_append, List.mem_singleton] at hq
    rcases hq with hq | rfl
    · exact Nat.le_succ_of_le (h.pieces q hq)
    · simp [TPrt.new]
theorem psLe.step {j : JP} {k : Nat} (h : psLe j.ps k) (p : TPrt) : psLe (j.step p).ps (k + p.wt) := by
  have he := h.ens p
  refine ⟨by simp only [JP.step, List.length_modify]; exact Nat.le_trans he.len (by simp [TPrt.wt]), fun q hq => ?_⟩
  obtain ⟨i, hi, rfl⟩ := List.mem_iff_getElem.1 hq
  simp only [JP.step, List.length_modify] at hi
  have hi2 := he.pieces _ (List.getElem_mem hi)
  simp only [JP.step, List.getElem_modify]
  split
  · simp [OPrt.addAll, TPrt.wt]; omega
  · simp only [TPrt.wt]; omega
theorem psLe.fold : ∀ (l : List TPrt) (j : JP) (k : Nat), psLe j.ps k → psLe (l.foldl JP.step j).ps (k + (l.map TPrt.wt).sum)
  | [], j, k, h => h
  | p :: l, j, k, h => by
    rw [List.foldl_cons, List.map_cons, List.sum_cons, ← Nat.add_assoc]
    exact psLe.fold l _ _ (h.step p)
end Go.Proofs.YtgmphfmoonbfpaaMv

set_option maxRecDepth 100000
namespace Go.Proofs.YtgmphfmoonbfpaaMv
open Go
theorem w16a_0 (un : Bool) (us : List TUnt) (i : Nat) (x : TUnt) (ps : List OPrt) (ms : List TMrk) (gs : List TTld) (n7 : Nat) (n8 : Nat) (o7 : Ob) (o8 : Ob) (o17 : Ob) (k : Nat) (q : Nat) (y : TPrt) (h : Nat) (hp : HL)
    (c0 : (decide (((h : Nat) : Int) < ((y.pieces.l.length : Nat) : Int))) = false) :
    Ev pg i16_l4 ⟨[(2, V.ptr 0 2 [] 0 0), (3, V.ptr 0 3 [] 0 0), (4, V.mp 0 17 none), (6, V.ptr 0 6 [] 0 0), (7, V.msl 0 7 [] 0 n7), (8, V.msl 0 8 [] 0 n8), (11, V.d (D.int .i64 ((q : Nat) : Int))), (18, V.d (D.sl un (us.map TUnt.c))), (19, V.d (D.int .i64 ((us.length : Nat) : Int))), (20, V.d (D.int .i64 ((i : Nat) : Int))), (25, V.d (D.sl x.parts.nn (x.parts.l.map TPrt.c))), (26, V.d (D.int .i64 ((x.parts.l.length : Nat) : Int))), (27, V.d (D.int .i64 ((k : Nat) : Int))), (74, V.d (D.sl y.pieces.nn (y.pieces.l.map TPce.c))), (75, V.d (D.int .i64 ((y.pieces.l.length : Nat) : Int))), (76, V.d (D.int .i64 ((h : Nat) : Int)))], [(2, Ob.row true 3 true [[C.d (D.sl false []), C.d (D.sl false []), C.d (D.sl false [])]]), (3, Ob.row true 3 true [[C.own 4 false (ps.map OPrt.oc), C.own 9 false (ms.map TMrk.oc), C.own 3 false (gs.map TTld.oc)]]), (6, Ob.row true 3 true [[C.d (D.sl x.parts.nn (x.parts.l.map TPrt.c)), C.d (D.sl x.marks.nn (x.marks.l.map TMrk.c)), C.d (D.sl x.globals.nn (x.globals.l.map TTld.c))]]), (7, o7), (8, o8), (17, o17)] :: hp⟩ (.exit 4) ⟨[(2, V.ptr 0 2 [] 0 0), (3, V.ptr 0 3 [] 0 0), (4, V.mp 0 17 none), (6, V.ptr 0 6 [] 0 0), (7, V.msl 0 7 [] 0 n7), (8, V.msl 0 8 [] 0 n8), (11, V.d (D.int .i64 ((q : Nat) : Int))), (18, V.d (D.sl un (us.map TUnt.c))), (19, V.d (D.int .i64 ((us.length : Nat) : Int))), (20, V.d (D.int .i64 ((i : Nat) : Int))), (25, V.d (D.sl x.parts.nn (x.parts.l.map TPrt.c))), (26, V.d (D.int .i64 ((x.parts.l.length : Nat) : Int))), (27, V.d (D.int .i64 ((k : Nat) : Int))), (74, V.d (D.sl y.pieces.nn (y.pieces.l.map TPce.c))), (75, V.d (D.int .i64 ((y.pieces.l.length : Nat) : Int))), (76, V.d (D.int .i64 ((h : Nat) : Int))), (77, V.d (D.bool false))], [(2, Ob.row true 3 true [[C.d (D.sl false []), C.d (D.sl false []), C.d (D.sl false [])]]), (3, Ob.row true 3 true [[C.own 4 false (ps.map OPrt.oc), C.own 9 false (ms.map TMrk.oc), C.own 3 false (gs.map TTld.oc)]]), (6, Ob.row true 3 true [[C.d (D.sl x.parts.nn (x.parts.l.map TPrt.c)), C.d (D.sl x.marks.nn (x.marks.l.map TMrk.c)), C.d (D.sl x.globals.nn (x.globals.l.map TTld.c))]]), (7, o7), (8, o8), (17, o17)] :: hp⟩ :=
  by
  have r : Ev pg i16_l4 ⟨[(2, V.ptr 0 2 [] 0 0), (3, V.ptr 0 3 [] 0 0), (4, V.mp 0 17 none), (6, V.ptr 0 6 [] 0 0), (7, V.msl 0 7 [] 0 n7), (8, V.msl 0 8 [] 0 n8), (11, V.d (D.int .i64 ((q : Nat) : Int))), (18, V.d (D.sl un (us.map TUnt.c))), (19, V.d (D.int .i64 ((us.length : Nat) : Int))), (20, V.d (D.int .i64 ((i : Nat) : Int))), (25, V.d (D.sl x.parts.nn (x.parts.l.map TPrt.c))), (26, V.d (D.int .i64 ((x.parts.l.length : Nat) : Int))), (27, V.d (D.int .i64 ((k : Nat) : Int))), (74, V.d (D.sl y.pieces.nn (y.pieces.l.map TPce.c))), (75, V.d (D.int .i64 ((y.pieces.l.length : Nat) : Int))), (76, V.d (D.int .i64 ((h : Nat) : Int)))], [(2, Ob.row true 3 true [[C.d (D.sl false []), C.d (D.sl false []), C.d (D.sl false [])]]), (3, Ob.row true 3 true [[C.own 4 false (ps.map OPrt.oc), C.own 9 false (ms.map TMrk.oc), C.own 3 false (gs.map TTld.oc)]]), (6, Ob.row true 3 true [[C.d (D.sl x.parts.nn (x.parts.l.map TPrt.c)), C.d (D.sl x.marks.nn (x.marks.l.map TMrk.c)), C.d (D.sl x.globals.nn (x.globals.l.map TTld.c))]]), (7, o7), (8, o8), (17, o17)] :: hp⟩ (.exit 4) ⟨[(2, V.ptr 0 2 [] 0 0), (3, V.ptr 0 3 [] 0 0), (4, V.mp 0 17 none), (6, V.ptr 0 6 [] 0 0), (7, V.msl 0 7 [] 0 n7), (8, V.msl 0 8 [] 0 n8), (11, V.d (D.int .i64 ((q : Nat) : Int))), (18, V.d (D.sl un (us.map TUnt.c))), (19, V.d (D.int .i64 ((us.length : Nat) : Int))), (20, V.d (D.int .i64 ((i : Nat) : Int))), (25, V.d (D.sl x.parts.nn (x.parts.l.map TPrt.c))), (26, V.d (D.int .i64 ((x.parts.l.length : Nat) : Int))), (27, V.d (D.int .i64 ((k : Nat) : Int))), (74, V.d (D.sl y.pieces.nn (y.pieces.l.map TPce.c))), (75, V.d (D.int .i64 ((y.pieces.l.length : Nat) : Int))), (76, V.d (D.int .i64 ((h : Nat) : Int))), (77, V.d (D.bool (decide (((h : Nat) : Int) < ((y.pieces.l.length : Nat) : Int)))))], [(2, Ob.row true 3 true [[C.d (D.sl false []), C.d (D.sl false []), C.d (D.sl false [])]]), (3, Ob.row true 3 true [[C.own 4 false (ps.map OPrt.oc), C.own 9 false (ms.map TMrk.oc), C.own 3 false (gs.map TTld.oc)]]), (6, Ob.row true 3 true [[C.d (D.sl x.parts.nn (x.parts.l.map TPrt.c)), C.d (D.sl x.marks.nn (x.marks.l.map TMrk.c)), C.d (D.sl x.globals.nn (x.globals.l.map TTld.c))]]), (7, o7), (8, o8), (17, o17)] :: hp⟩ :=
  codeC_ok (hs := [.b false]) (hs' := []) (cs := [_]) (by kernel_rfl) ⟨c0, trivial⟩
  simp only [c0] at r
  exact r
theorem w16a_1 (un : Bool) (us : List TUnt) (i : Nat) (x : TUnt) (ps : List OPrt) (ms : List TMrk) (gs : List TTld) (n7 : Nat) (n8 : Nat) (o7 : Ob) (o8 : Ob) (o17 : Ob) (k : Nat) (q : Nat) (y : TPrt) (h : Nat) (hp : HL) (x1 : TPce) (p2 : OPrt)
    (c0 : (decide (((h : Nat) : Int) < ((y.pieces.l.length : Nat) : Int))) = true)
    (c1 : (y.pieces.l.map TPce.c)[h]? = some [D.int .i64 x1.kind, D.int .i64 x1.file, D.int .i64 x1.line, D.str x1.l.name, D.sl x1.l.opers.nn (x1.l.opers.l.map TOpr.c), D.int .i64 x1.v.add, D.str x1.v.plus, D.str x1.v.minus, D.int .i64 x1.size, D.sl x1.b.nn (x1.b.l.map u8c), D.int .i64 x1.align])
    (c2 : Rn pg 32 [V.d (D.agg [D.str x1.l.name, D.sl x1.l.opers.nn (x1.l.opers.l.map TOpr.c)])] ([]) (V.d (D.agg [D.str x1.l.name, D.sl x1.l.opers.cl.nn (x1.l.opers.cl.l.map TOpr.c)])) ([]))
    (c3 : Rn pg 33 [V.d (D.sl x1.b.nn (x1.b.l.map u8c))] ([]) (V.d (D.sl x1.b.cl.nn (x1.b.cl.l.map u8c))) ([]))
    (c4 : q < ((ps.map OPrt.oc).length))
    (c5 : cellAt (ps.map OPrt.oc) q 3 = some (C.own 11 false (p2.pieces.map TPce.oc)))
    (c6 : List.all [[D.int .i64 x1.kind, D.int .i64 x1.file, D.int .i64 x1.line, D.str x1.l.name, D.sl x1.l.opers.cl.nn (x1.l.opers.cl.l.map TOpr.c), D.int .i64 x1.v.add, D.str x1.v.plus, D.str x1.v.minus, D.int .i64 x1.size, D.sl x1.b.cl.nn (x1.b.cl.l.map u8c), D.int .i64 x1.align]] (fun x => x.length == 11) = true)
    (c7 : (((p2.pieces.map TPce.oc).length) + 1) * 144 ≤ room)
    (c8 : ((p2.pieces.map TPce.oc) ++ [[C.d (D.int .i64 x1.kind), C.d (D.int .i64 x1.file), C.d (D.int .i64 x1.line), C.d (D.str x1.l.name), C.d (D.sl x1.l.opers.cl.nn (x1.l.opers.cl.l.map TOpr.c)), C.d (D.int .i64 x1.v.add), C.d (D.str x1.v.plus), C.d (D.str x1.v.minus), C.d (D.int .i64 x1.size), C.d (D.sl x1.b.cl.nn (x1.b.cl.l.map u8c)), C.d (D.int .i64 x1.align)]]).length = (((p2.pieces.map TPce.oc).length) + 1))
    (c9 : (setCells (ps.map OPrt.oc) q 3 [C.bad])[q]? = some [C.d (D.str p2.name), C.d (D.int .i64 p2.file), C.d (D.int .i64 p2.line), C.bad]) :
    Ev pg i16_l4 ⟨[(2, V.ptr 0 2 [] 0 0), (3, V.ptr 0 3 [] 0 0), (4, V.mp 0 17 none), (6, V.ptr 0 6 [] 0 0), (7, V.msl 0 7 [] 0 n7), (8, V.msl 0 8 [] 0 n8), (11, V.d (D.int .i64 ((q : Nat) : Int))), (18, V.d (D.sl un (us.map TUnt.c))), (19, V.d (D.int .i64 ((us.length : Nat) : Int))), (20, V.d (D.int .i64 ((i : Nat) : Int))), (25, V.d (D.sl x.parts.nn (x.parts.l.map TPrt.c))), (26, V.d (D.int .i64 ((x.parts.l.length : Nat) : Int))), (27, V.d (D.int .i64 ((k : Nat) : Int))), (74, V.d (D.sl y.pieces.nn (y.pieces.l.map TPce.c))), (75, V.d (D.int .i64 ((y.pieces.l.length : Nat) : Int))), (76, V.d (D.int .i64 ((h : Nat) : Int)))], [(2, Ob.row true 3 true [[C.d (D.sl false []), C.d (D.sl false []), C.d (D.sl false [])]]), (3, Ob.row true 3 true [[C.own 4 false (ps.map OPrt.oc), C.own 9 false (ms.map TMrk.oc), C.own 3 false (gs.map TTld.oc)]]), (6, Ob.row true 3 true [[C.d (D.sl x.parts.nn (x.parts.l.map TPrt.c)), C.d (D.sl x.marks.nn (x.marks.l.map TMrk.c)), C.d (D.sl x.globals.nn (x.globals.l.map TTld.c))]]), (7, o7), (8, o8), (17, o17)] :: hp⟩ .normal ⟨[(2, V.ptr 0 2 [] 0 0), (3, V.ptr 0 3 [] 0 0), (4, V.mp 0 17 none), (6, V.ptr 0 6 [] 0 0), (7, V.msl 0 7 [] 0 n7), (8, V.msl 0 8 [] 0 n8), (11, V.d (D.int .i64 ((q : Nat) : Int))), (18, V.d (D.sl un (us.map TUnt.c))), (19, V.d (D.int .i64 ((us.length : Nat) : Int))), (20, V.d (D.int .i64 ((i : Nat) : Int))), (25, V.d (D.sl x.parts.nn (x.parts.l.map TPrt.c))), (26, V.d (D.int .i64 ((x.parts.l.length : Nat) : Int))), (27, V.d (D.int .i64 ((k : Nat) : Int))), (74, V.d (D.sl y.pieces.nn (y.pieces.l.map TPce.c))), (75, V.d (D.int .i64 ((y.pieces.l.length : Nat) : Int))), (76, V.d (D.int .i64 (IntKind.i64.wrap (((h : Nat) : Int) + 1))))], [(2, Ob.row true 3 true [[C.d (D.sl false []), C.d (D.sl false []), C.d (D.sl false [])]]), (3, Ob.row true 3 true [[C.own 4 false (setCells (setCells (ps.map OPrt.oc) q 3 [C.bad]) q 3 [C.own 11 false ((p2.pieces.map TPce.oc) ++ [[C.d (D.int .i64 x1.kind), C.d (D.int .i64 x1.file), C.d (D.int .i64 x1.line), C.d (D.str x1.l.name), C.d (D.sl x1.l.opers.cl.nn (x1.l.opers.cl.l.map TOpr.c)), C.d (D.int .i64 x1.v.add), C.d (D.str x1.v.plus), C.d (D.str x1.v.minus), C.d (D.int .i64 x1.size), C.d (D.sl x1.b.cl.nn (x1.b.cl.l.map u8c)), C.d (D.int .i64 x1.align)]])]), C.own 9 false (ms.map TMrk.oc), C.own 3 false (gs.map TTld.oc)]]), (6, Ob.row true 3 true [[C.d (D.sl x.parts.nn (x.parts.l.map TPrt.c)), C.d (D.sl x.marks.nn (x.marks.l.map TMrk.c)), C.d (D.sl x.globals.nn (x.globals.l.map TTld.c))]]), (7, o7), (8, o8), (17, o17)] :: hp⟩ :=
  codeC_ok (hs := [.b true, .n h, .ds [D.int .i64 x1.kind, D.int .i64 x1.file, D.int .i64 x1.line, D.str x1.l.name, D.sl x1.l.opers.nn (x1.l.opers.l.map TOpr.c), D.int .i64 x1.v.add, D.str x1.v.plus, D.str x1.v.minus, D.int .i64 x1.size, D.sl x1.b.nn (x1.b.l.map u8c), D.int .i64 x1.align], .call (V.d (D.agg [D.str x1.l.name, D.sl x1.l.opers.cl.nn (x1.l.opers.cl.l.map TOpr.c)])) ([]), .call (V.d (D.sl x1.b.cl.nn (x1.b.cl.l.map u8c))) ([]), .n q, .c (C.own 11 false (p2.pieces.map TPce.oc)), .row false (p2.pieces.map TPce.oc), .n q, .cs [C.d (D.str p2.name), C.d (D.int .i64 p2.file), C.d (D.int .i64 p2.line), C.bad]]) (hs' := []) (cs := [_, ((h : Nat) : Int) = ((h : Nat) : Int), _, _, _, ((q : Nat) : Int) = ((q : Nat) : Int), _, _, _, _, ((p2.pieces.map TPce.oc).length) = (p2.pieces.map TPce.oc).length, _, ((q : Nat) : Int) = ((q : Nat) : Int), _, _, _]) (by kernel_rfl) ⟨c0, rfl, c1, c2, c3, rfl, c4, c5, c6, c5, rfl, c7, rfl, c4, c8, c9, trivial⟩
theorem w16b_0 (un : Bool) (us : List TUnt) (i : Nat) (x : TUnt) (ps : List OPrt) (ms : List TMrk) (gs : List TTld) (as7 : List Int) (as8 : List Int) (k : Nat) (hp : HL)
    (c0 : (decide (((k : Nat) : Int) < ((x.parts.l.length : Nat) : Int))) = false) :
    Ev pg i16_l2 ⟨[(2, V.ptr 0 2 [] 0 0), (3, V.ptr 0 3 [] 0 0), (4, V.mp 0 17 none), (6, V.ptr 0 6 [] 0 0), (7, V.msl 0 7 [] 0 as7.length), (8, V.msl 0 8 [] 0 as8.length), (18, V.d (D.sl un (us.map TUnt.c))), (19, V.d (D.int .i64 ((us.length : Nat) : Int))), (20, V.d (D.int .i64 ((i : Nat) : Int))), (25, V.d (D.sl x.parts.nn (x.parts.l.map TPrt.c))), (26, V.d (D.int .i64 ((x.parts.l.length : Nat) : Int))), (27, V.d (D.int .i64 ((k : Nat) : Int)))], [(2, Ob.row true 3 true [[C.d (D.sl false []), C.d (D.sl false []), C.d (D.sl false [])]]), (3, Ob.row true 3 true [[C.own 4 false (ps.map OPrt.oc), C.own 9 false (ms.map TMrk.oc), C.own 3 false (gs.map TTld.oc)]]), (6, Ob.row true 3 true [[C.d (D.sl x.parts.nn (x.parts.l.map TPrt.c)), C.d (D.sl x.marks.nn (x.marks.l.map TMrk.c)), C.d (D.sl x.globals.nn (x.globals.l.map TTld.c))]]), (7, Ob.row false 1 false (as7.map icc)), (8, Ob.row false 1 false (as8.map icc)), (17, Ob.map (atOf ps))] :: hp⟩ (.exit 2) ⟨[(2, V.ptr 0 2 [] 0 0), (3, V.ptr 0 3 [] 0 0), (4, V.mp 0 17 none), (6, V.ptr 0 6 [] 0 0), (7, V.msl 0 7 [] 0 as7.length), (8, V.msl 0 8 [] 0 as8.length), (18, V.d (D.sl un (us.map TUnt.c))), (19, V.d (D.int .i64 ((us.length : Nat) : Int))), (20, V.d (D.int .i64 ((i : Nat) : Int))), (25, V.d (D.sl x.parts.nn (x.parts.l.map TPrt.c))), (26, V.d (D.int .i64 ((x.parts.l.length : Nat) : Int))), (27, V.d (D.int .i64 ((k : Nat) : Int))), (28, V.d (D.bool false))], [(2, Ob.row true 3 true [[C.d (D.sl false []), C.d (D.sl false []), C.d (D.sl false [])]]), (3, Ob.row true 3 true [[C.own 4 false (ps.map OPrt.oc), C.own 9 false (ms.map TMrk.oc), C.own 3 false (gs.map TTld.oc)]]), (6, Ob.row true 3 true [[C.d (D.sl x.parts.nn (x.parts.l.map TPrt.c)), C.d (D.sl x.marks.nn (x.marks.l.map TMrk.c)), C.d (D.sl x.globals.nn (x.globals.l.map TTld.c))]]), (7, Ob.row false 1 false (as7.map icc)), (8, Ob.row false 1 false (as8.map icc)), (17, Ob.map (atOf ps))] :: hp⟩ :=
  by
  have r : Ev pg i16_l2 ⟨[(2, V.ptr 0 2 [] 0 0), (3, V.ptr 0 3 [] 0 0), (4, V.mp 0 17 none), (6, V.ptr 0 6 [] 0 0), (7, V.msl 0 7 [] 0 as7.length), (8, V.msl 0 8 [] 0 as8.length), (18, V.d (D.sl un (us.map TUnt.c))), (19, V.d (D.int .i64 ((us.length : Nat) : Int))), (20, V.d (D.int .i64 ((i : Nat) : Int))), (25, V.d (D.sl x.parts.nn (x.parts.l.map TPrt.c))), (26, V.d (D.int .i64 ((x.parts.l.length : Nat) : Int))), (27, V.d (D.int .i64 ((k : Nat) : Int)))], [(2, Ob.row true 3 true [[C.d (D.sl false []), C.d (D.sl false []), C.d (D.sl false [])]]), (3, Ob.row true 3 true [[C.own 4 false (ps.map OPrt.oc), C.own 9 false (ms.map TMrk.oc), C.own 3 false (gs.map TTld.oc)]]), (6, Ob.row true 3 true [[C.d (D.sl x.parts.nn (x.parts.l.map TPrt.c)), C.d (D.sl x.marks.nn (x.marks.l.map TMrk.c)), C.d (D.sl x.globals.nn (x.globals.l.map TTld.c))]]), (7, Ob.row false 1 false (as7.map icc)), (8, Ob.row false 1 false (as8.map icc)), (17, Ob.map (atOf ps))] :: hp⟩ (.exit 2) ⟨[(2, V.ptr 0 2 [] 0 0), (3, V.ptr 0 3 [] 0 0), (4, V.mp 0 17 none), (6, V.ptr 0 6 [] 0 0), (7, V.msl 0 7 [] 0 as7.length), (8, V.msl 0 8 [] 0 as8.length), (18, V.d (D.sl un (us.map TUnt.c))), (19, V.d (D.int .i64 ((us.length : Nat) : Int))), (20, V.d (D.int .i64 ((i : Nat) : Int))), (25, V.d (D.sl x.parts.nn (x.parts.l.map TPrt.c))), (26, V.d (D.int .i64 ((x.parts.l.length : Nat) : Int))), (27, V.d (D.int .i64 ((k : Nat) : Int))), (28, V.d (D.bool (decide (((k : Nat) : Int) < ((x.parts.l.length : Nat) : Int)))))], [(2, Ob.row true 3 true [[C.d (D.sl false []), C.d (D.sl false []), C.d (D.sl false [])]]), (3, Ob.row true 3 true [[C.own 4 false (ps.map OPrt.oc), C.own 9 false (ms.map TMrk.oc), C.own 3 false (gs.map TTld.oc)]]), (6, Ob.row true 3 true [[C.d (D.sl x.parts.nn (x.parts.l.map TPrt.c)), C.d (D.sl x.marks.nn (x.marks.l.map TMrk.c)), C.d (D.sl x.globals.nn (x.globals.l.map TTld.c))]]), (7, Ob.row false 1 false (as7.map icc)), (8, Ob.row false 1 false (as8.map icc)), (17, Ob.map (atOf ps))] :: hp⟩ :=
  codeC_ok (hs := [.b false]) (hs' := []) (cs := [_]) (by kernel_rfl) ⟨c0, trivial⟩
  simp only [c0] at r
  exact r
theorem w16b_1 (un : Bool) (us : List TUnt) (i : Nat) (x : TUnt) (ps : List OPrt) (ms : List TMrk) (gs : List TTld) (as7 : List Int) (as8 : List Int) (k : Nat) (hp : HL) (x1 : TPrt) (es2 : List (D × D)) (p3 : OPrt) (ps4 : List OPrt)
    (c0 : (decide (((k : Nat) : Int) < ((x.parts.l.length : Nat) : Int))) = true)
    (c1 : (x.parts.l.map TPrt.c)[k]? = some [D.str x1.name, D.int .i64 x1.file, D.int .i64 x1.line, D.sl x1.pieces.nn (x1.pieces.l.map TPce.c)])
    (c2 : findD false [2] (D.str x1.name) (atOf ps) = some none)
    (c3 : (findD false [2] (D.str x1.name) (atOf ps)).isSome = true)
    (c4 : putD false [2] (D.str x1.name) (D.int .i64 (((ps.map OPrt.oc).length : Nat) : Int)) (atOf ps) = some es2)
    (c5 : List.all [[D.str x1.name, D.int .i64 x1.file, D.int .i64 x1.line, D.sl false []]] (fun x => x.length == 4) = true)
    (c6 : (((ps.map OPrt.oc).length) + 1) * 56 ≤ room)
    (c7 : ((ps.map OPrt.oc) ++ [[C.d (D.str x1.name), C.d (D.int .i64 x1.file), C.d (D.int .i64 x1.line), C.own 11 false []]]).length = (((ps.map OPrt.oc).length) + 1))
    (c8 : List.all [[D.int .i64 (((ps.map OPrt.oc).length : Nat) : Int)]] (fun x => x.length == 1) = true)
    (c9 : as7.length = (as7.map icc).length)
    (c10 : (as7.length + 1) * 8 ≤ room)
    (c11 : ((ps.map OPrt.oc).length) < (((ps.map OPrt.oc) ++ [[C.d (D.str x1.name), C.d (D.int .i64 x1.file), C.d (D.int .i64 x1.line), C.own 11 false []]]).length))
    (c12 : cellAt ((ps.map OPrt.oc) ++ [[C.d (D.str x1.name), C.d (D.int .i64 x1.file), C.d (D.int .i64 x1.line), C.own 11 false []]]) ((ps.map OPrt.oc).length) 3 = some (C.own 11 false (p3.pieces.map TPce.oc)))
    (c13 : List.all [[D.int .i64 (((p3.pieces.map TPce.oc).length : Nat) : Int)]] (fun x => x.length == 1) = true)
    (c14 : as8.length = (as8.map icc).length)
    (c15 : (as8.length + 1) * 8 ≤ room)
    (c16 : Lp pg i16_l4 ⟨[(2, V.ptr 0 2 [] 0 0), (3, V.ptr 0 3 [] 0 0), (4, V.mp 0 17 none), (6, V.ptr 0 6 [] 0 0), (7, V.msl 0 7 [] 0 (as7.length + 1)), (8, V.msl 0 8 [] 0 (as8.length + 1)), (11, V.d (D.int .i64 (((ps.map OPrt.oc).length : Nat) : Int))), (18, V.d (D.sl un (us.map TUnt.c))), (19, V.d (D.int .i64 ((us.length : Nat) : Int))), (20, V.d (D.int .i64 ((i : Nat) : Int))), (25, V.d (D.sl x.parts.nn (x.parts.l.map TPrt.c))), (26, V.d (D.int .i64 ((x.parts.l.length : Nat) : Int))), (27, V.d (D.int .i64 ((k : Nat) : Int))), (74, V.d (D.sl x1.pieces.nn (x1.pieces.l.map TPce.c))), (75, V.d (D.int .i64 (((x1.pieces.l.map TPce.c).length : Nat) : Int))), (76, V.d (D.int .i64 0))], [(2, Ob.row true 3 true [[C.d (D.sl false []), C.d (D.sl false []), C.d (D.sl false [])]]), (3, Ob.row true 3 true [[C.own 4 false ((ps.map OPrt.oc) ++ [[C.d (D.str x1.name), C.d (D.int .i64 x1.file), C.d (D.int .i64 x1.line), C.own 11 false []]]), C.own 9 false (ms.map TMrk.oc), C.own 3 false (gs.map TTld.oc)]]), (6, Ob.row true 3 true [[C.d (D.sl x.parts.nn (x.parts.l.map TPrt.c)), C.d (D.sl x.marks.nn (x.marks.l.map TMrk.c)), C.d (D.sl x.globals.nn (x.globals.l.map TTld.c))]]), (7, Ob.row false 1 false ((as7.map icc) ++ [[C.d (D.int .i64 (((ps.map OPrt.oc).length : Nat) : Int))]])), (8, Ob.row false 1 false ((as8.map icc) ++ [[C.d (D.int .i64 (((p3.pieces.map TPce.oc).length : Nat) : Int))]])), (17, Ob.map es2)] :: hp⟩ (.exit 4) ⟨[(2, V.ptr 0 2 [] 0 0), (3, V.ptr 0 3 [] 0 0), (4, V.mp 0 17 none), (6, V.ptr 0 6 [] 0 0), (7, V.msl 0 7 [] 0 (as7.length + 1)), (8, V.msl 0 8 [] 0 (as8.length + 1)), (11, V.d (D.int .i64 (((ps.map OPrt.oc).length : Nat) : Int))), (18, V.d (D.sl un (us.map TUnt.c))), (19, V.d (D.int .i64 ((us.length : Nat) : Int))), (20, V.d (D.int .i64 ((i : Nat) : Int))), (25, V.d (D.sl x.parts.nn (x.parts.l.map TPrt.c))), (26, V.d (D.int .i64 ((x.parts.l.length : Nat) : Int))), (27, V.d (D.int .i64 ((k : Nat) : Int))), (74, V.d (D.sl x1.pieces.nn (x1.pieces.l.map TPce.c))), (75, V.d (D.int .i64 ((x1.pieces.l.length : Nat) : Int))), (76, V.d (D.int .i64 ((x1.pieces.l.length : Nat) : Int))), (77, V.d (D.bool false))], [(2, Ob.row true 3 true [[C.d (D.sl false []), C.d (D.sl false []), C.d (D.sl false [])]]), (3, Ob.row true 3 true [[C.own 4 false (ps4.map OPrt.oc), C.own 9 false (ms.map TMrk.oc), C.own 3 false (gs.map TTld.oc)]]), (6, Ob.row true 3 true [[C.d (D.sl x.parts.nn (x.parts.l.map TPrt.c)), C.d (D.sl x.marks.nn (x.marks.l.map TMrk.c)), C.d (D.sl x.globals.nn (x.globals.l.map TTld.c))]]), (7, Ob.row false 1 false ((as7.map icc) ++ [[C.d (D.int .i64 (((ps.map OPrt.oc).length : Nat) : Int))]])), (8, Ob.row false 1 false ((as8.map icc) ++ [[C.d (D.int .i64 (((p3.pieces.map TPce.oc).length : Nat) : Int))]])), (17, Ob.map es2)] :: hp⟩) :
    Ev pg i16_l2 ⟨[(2, V.ptr 0 2 [] 0 0), (3, V.ptr 0 3 [] 0 0), (4, V.mp 0 17 none), (6, V.ptr 0 6 [] 0 0), (7, V.msl 0 7 [] 0 as7.length), (8, V.msl 0 8 [] 0 as8.length), (18, V.d (D.sl un (us.map TUnt.c))), (19, V.d (D.int .i64 ((us.length : Nat) : Int))), (20, V.d (D.int .i64 ((i : Nat) : Int))), (25, V.d (D.sl x.parts.nn (x.parts.l.map TPrt.c))), (26, V.d (D.int .i64 ((x.parts.l.length : Nat) : Int))), (27, V.d (D.int .i64 ((k : Nat) : Int)))], [(2, Ob.row true 3 true [[C.d (D.sl false []), C.d (D.sl false []), C.d (D.sl false [])]]), (3, Ob.row true 3 true [[C.own 4 false (ps.map OPrt.oc), C.own 9 false (ms.map TMrk.oc), C.own 3 false (gs.map TTld.oc)]]), (6, Ob.row true 3 true [[C.d (D.sl x.parts.nn (x.parts.l.map TPrt.c)), C.d (D.sl x.marks.nn (x.marks.l.map TMrk.c)), C.d (D.sl x.globals.nn (x.globals.l.map TTld.c))]]), (7, Ob.row false 1 false (as7.map icc)), (8, Ob.row false 1 false (as8.map icc)), (17, Ob.map (atOf ps))] :: hp⟩ .normal ⟨[(2, V.ptr 0 2 [] 0 0), (3, V.ptr 0 3 [] 0 0), (4, V.mp 0 17 none), (6, V.ptr 0 6 [] 0 0), (7, V.msl 0 7 [] 0 (as7.length + 1)), (8, V.msl 0 8 [] 0 (as8.length + 1)), (18, V.d (D.sl un (us.map TUnt.c))), (19, V.d (D.int .i64 ((us.length : Nat) : Int))), (20, V.d (D.int .i64 ((i : Nat) : Int))), (25, V.d (D.sl x.parts.nn (x.parts.l.map TPrt.c))), (26, V.d (D.int .i64 ((x.parts.l.length : Nat) : Int))), (27, V.d (D.int .i64 (IntKind.i64.wrap (((k : Nat) : Int) + 1))))], [(2, Ob.row true 3 true [[C.d (D.sl false []), C.d (D.sl false []), C.d (D.sl false [])]]), (3, Ob.row true 3 true [[C.own 4 false (ps4.map OPrt.oc), C.own 9 false (ms.map TMrk.oc), C.own 3 false (gs.map TTld.oc)]]), (6, Ob.row true 3 true [[C.d (D.sl x.parts.nn (x.parts.l.map TPrt.c)), C.d (D.sl x.marks.nn (x.marks.l.map TMrk.c)), C.d (D.sl x.globals.nn (x.globals.l.map TTld.c))]]), (7, Ob.row false 1 false ((as7.map icc) ++ [[C.d (D.int .i64 (((ps.map OPrt.oc).length : Nat) : Int))]])), (8, Ob.row false 1 false ((as8.map icc) ++ [[C.d (D.int .i64 (((p3.pieces.map TPce.oc).length : Nat) : Int))]])), (17, Ob.map es2)] :: hp⟩ :=
  codeC_ok (hs := [.b true, .n k, .ds [D.str x1.name, D.int .i64 x1.file, D.int .i64 x1.line, D.sl x1.pieces.nn (x1.pieces.l.map TPce.c)], .o none, .b true, .es es2, .n ((ps.map OPrt.oc).length), .c (C.own 11 false (p3.pieces.map TPce.oc)), .lp (.exit 4) ⟨[(2, V.ptr 0 2 [] 0 0), (3, V.ptr 0 3 [] 0 0), (4, V.mp 0 17 none), (6, V.ptr 0 6 [] 0 0), (7, V.msl 0 7 [] 0 (as7.length + 1)), (8, V.msl 0 8 [] 0 (as8.length + 1)), (11, V.d (D.int .i64 (((ps.map OPrt.oc).length : Nat) : Int))), (18, V.d (D.sl un (us.map TUnt.c))), (19, V.d (D.int .i64 ((us.length : Nat) : Int))), (20, V.d (D.int .i64 ((i : Nat) : Int))), (25, V.d (D.sl x.parts.nn (x.parts.l.map TPrt.c))), (26, V.d (D.int .i64 ((x.parts.l.length : Nat) : Int))), (27, V.d (D.int .i64 ((k : Nat) : Int))), (74, V.d (D.sl x1.pieces.nn (x1.pieces.l.map TPce.c))), (75, V.d (D.int .i64 ((x1.pieces.l.length : Nat) : Int))), (76, V.d (D.int .i64 ((x1.pieces.l.length : Nat) : Int))), (77, V.d (D.bool false))], [(2, Ob.row true 3 true [[C.d (D.sl false []), C.d (D.sl false []), C.d (D.sl false [])]]), (3, Ob.row true 3 true [[C.own 4 false (ps4.map OPrt.oc), C.own 9 false (ms.map TMrk.oc), C.own 3 false (gs.map TTld.oc)]]), (6, Ob.row true 3 true [[C.d (D.sl x.parts.nn (x.parts.l.map TPrt.c)), C.d (D.sl x.marks.nn (x.marks.l.map TMrk.c)), C.d (D.sl x.globals.nn (x.globals.l.map TTld.c))]]), (7, Ob.row false 1 false ((as7.map icc) ++ [[C.d (D.int .i64 (((ps.map OPrt.oc).length : Nat) : Int))]])), (8, Ob.row false 1 false ((as8.map icc) ++ [[C.d (D.int .i64 (((p3.pieces.map TPce.oc).length : Nat) : Int))]])), (17, Ob.map es2)] :: hp⟩]) (hs' := []) (cs := [_, ((k : Nat) : Int) = ((k : Nat) : Int), _, _, true = true, _, _, _, ((ps.map OPrt.oc).length) = (ps.map OPrt.oc).length, _, _, _, _, _, (((ps.map OPrt.oc).length : Nat) : Int) = (((ps.map OPrt.oc).length : Nat) : Int), _, _, _, _, _, _]) (by kernel_rfl) ⟨c0, rfl, c1, c2, rfl, c3, c4, c5, rfl, c6, c7, c8, c9, c10, rfl, c11, c12, c13, c14, c15, c16, trivial⟩
theorem w16b_2 (un : Bool) (us : List TUnt) (i : Nat) (x : TUnt) (ps : List OPrt) (ms : List TMrk) (gs : List TTld) (as7 : List Int) (as8 : List Int) (k : Nat) (hp : HL) (x1 : TPrt) (i2 : Nat) (p3 : OPrt) (ps4 : List OPrt)
    (c0 : (decide (((k : Nat) : Int) < ((x.parts.l.length : Nat) : Int))) = true)
    (c1 : (x.parts.l.map TPrt.c)[k]? = some [D.str x1.name, D.int .i64 x1.file, D.int .i64 x1.line, D.sl x1.pieces.nn (x1.pieces.l.map TPce.c)])
    (c2 : findD false [2] (D.str x1.name) (atOf ps) = some (some (D.int .i64 ((i2 : Nat) : Int))))
    (c3 : List.all [[D.int .i64 ((i2 : Nat) : Int)]] (fun x => x.length == 1) = true)
    (c4 : as7.length = (as7.map icc).length)
    (c5 : (as7.length + 1) * 8 ≤ room)
    (c6 : i2 < ((ps.map OPrt.oc).length))
    (c7 : cellAt (ps.map OPrt.oc) i2 3 = some (C.own 11 false (p3.pieces.map TPce.oc)))
    (c8 : List.all [[D.int .i64 (((p3.pieces.map TPce.oc).length : Nat) : Int)]] (fun x => x.length == 1) = true)
    (c9 : as8.length = (as8.map icc).length)
    (c10 : (as8.length + 1) * 8 ≤ room)
    (c11 : Lp pg i16_l4 ⟨[(2, V.ptr 0 2 [] 0 0), (3, V.ptr 0 3 [] 0 0), (4, V.mp 0 17 none), (6, V.ptr 0 6 [] 0 0), (7, V.msl 0 7 [] 0 (as7.length + 1)), (8, V.msl 0 8 [] 0 (as8.length + 1)), (11, V.d (D.int .i64 ((i2 : Nat) : Int))), (18, V.d (D.sl un (us.map TUnt.c))), (19, V.d (D.int .i64 ((us.length : Nat) : Int))), (20, V.d (D.int .i64 ((i : Nat) : Int))), (25, V.d (D.sl x.parts.nn (x.parts.l.map TPrt.c))), (26, V.d (D.int .i64 ((x.parts.l.length : Nat) : Int))), (27, V.d (D.int .i64 ((k : Nat) : Int))), (74, V.d (D.sl x1.pieces.nn (x1.pieces.l.map TPce.c))), (75, V.d (D.int .i64 (((x1.pieces.l.map TPce.c).length : Nat) : Int))), (76, V.d (D.int .i64 0))], [(2, Ob.row true 3 true [[C.d (D.sl false []), C.d (D.sl false []), C.d (D.sl false [])]]), (3, Ob.row true 3 true [[C.own 4 false (ps.map OPrt.oc), C.own 9 false (ms.map TMrk.oc), C.own 3 false (gs.map TTld.oc)]]), (6, Ob.row true 3 true [[C.d (D.sl x.parts.nn (x.parts.l.map TPrt.c)), C.d (D.sl x.marks.nn (x.marks.l.map TMrk.c)), C.d (D.sl x.globals.nn (x.globals.l.map TTld.c))]]), (7, Ob.row false 1 false ((as7.map icc) ++ [[C.d (D.int .i64 ((i2 : Nat) : Int))]])), (8, Ob.row false 1 false ((as8.map icc) ++ [[C.d (D.int .i64 (((p3.pieces.map TPce.oc).length : Nat) : Int))]])), (17, Ob.map (atOf ps))] :: hp⟩ (.exit 4) ⟨[(2, V.ptr 0 2 [] 0 0), (3, V.ptr 0 3 [] 0 0), (4, V.mp 0 17 none), (6, V.ptr 0 6 [] 0 0), (7, V.msl 0 7 [] 0 (as7.length + 1)), (8, V.msl 0 8 [] 0 (as8.length + 1)), (11, V.d (D.int .i64 ((i2 : Nat) : Int))), (18, V.d (D.sl un (us.map TUnt.c))), (19, V.d (D.int .i64 ((us.length : Nat) : Int))), (20, V.d (D.int .i64 ((i : Nat) : Int))), (25, V.d (D.sl x.parts.nn (x.parts.l.map TPrt.c))), (26, V.d (D.int .i64 ((x.parts.l.length : Nat) : Int))), (27, V.d (D.int .i64 ((k : Nat) : Int))), (74, V.d (D.sl x1.pieces.nn (x1.pieces.l.map TPce.c))), (75, V.d (D.int .i64 ((x1.pieces.l.length : Nat) : Int))), (76, V.d (D.int .i64 ((x1.pieces.l.length : Nat) : Int))), (77, V.d (D.bool false))], [(2, Ob.row true 3 true [[C.d (D.sl false []), C.d (D.sl false []), C.d (D.sl false [])]]), (3, Ob.row true 3 true [[C.own 4 false (ps4.map OPrt.oc), C.own 9 false (ms.map TMrk.oc), C.own 3 false (gs.map TTld.oc)]]), (6, Ob.row true 3 true [[C.d (D.sl x.parts.nn (x.parts.l.map TPrt.c)), C.d (D.sl x.marks.nn (x.marks.l.map TMrk.c)), C.d (D.sl x.globals.nn (x.globals.l.map TTld.c))]]), (7, Ob.row false 1 false ((as7.map icc) ++ [[C.d (D.int .i64 ((i2 : Nat) : Int))]])), (8, Ob.row false 1 false ((as8.map icc) ++ [[C.d (D.int .i64 (((p3.pieces.map TPce.oc).length : Nat) : Int))]])), (17, Ob.map (atOf ps))] :: hp⟩) :
    Ev pg i16_l2 ⟨[(2, V.ptr 0 2 [] 0 0), (3, V.ptr 0 3 [] 0 0), (4, V.mp 0 17 none), (6, V.ptr 0 6 [] 0 0), (7, V.msl 0 7 [] 0 as7.length), (8, V.msl 0 8 [] 0 as8.length), (18, V.d (D.sl un (us.map TUnt.c))), (19, V.d (D.int .i64 ((us.length : Nat) : Int))), (20, V.d (D.int .i64 ((i : Nat) : Int))), (25, V.d (D.sl x.parts.nn (x.parts.l.map TPrt.c))), (26, V.d (D.int .i64 ((x.parts.l.length : Nat) : Int))), (27, V.d (D.int .i64 ((k : Nat) : Int)))], [(2, Ob.row true 3 true [[C.d (D.sl false []), C.d (D.sl false []), C.d (D.sl false [])]]), (3, Ob.row true 3 true [[C.own 4 false (ps.map OPrt.oc), C.own 9 false (ms.map TMrk.oc), C.own 3 false (gs.map TTld.oc)]]), (6, Ob.row true 3 true [[C.d (D.sl x.parts.nn (x.parts.l.map TPrt.c)), C.d (D.sl x.marks.nn (x.marks.l.map TMrk.c)), C.d (D.sl x.globals.nn (x.globals.l.map TTld.c))]]), (7, Ob.row false 1 false (as7.map icc)), (8, Ob.row false 1 false (as8.map icc)), (17, Ob.map (atOf ps))] :: hp⟩ .normal ⟨[(2, V.ptr 0 2 [] 0 0), (3, V.ptr 0 3 [] 0 0), (4, V.mp 0 17 none), (6, V.ptr 0 6 [] 0 0), (7, V.msl 0 7 [] 0 (as7.length + 1)), (8, V.msl 0 8 [] 0 (as8.length + 1)), (18, V.d (D.sl un (us.map TUnt.c))), (19, V.d (D.int .i64 ((us.length : Nat) : Int))), (20, V.d (D.int .i64 ((i : Nat) : Int))), (25, V.d (D.sl x.parts.nn (x.parts.l.map TPrt.c))), (26, V.d (D.int .i64 ((x.parts.l.length : Nat) : Int))), (27, V.d (D.int .i64 (IntKind.i64.wrap (((k : Nat) : Int) + 1))))], [(2, Ob.row true 3 true [[C.d (D.sl false []), C.d (D.sl false []), C.d (D.sl false [])]]), (3, Ob.row true 3 true [[C.own 4 false (ps4.map OPrt.oc), C.own 9 false (ms.map TMrk.oc), C.own 3 false (gs.map TTld.oc)]]), (6, Ob.row true 3 true [[C.d (D.sl x.parts.nn (x.parts.l.map TPrt.c)), C.d (D.sl x.marks.nn (x.marks.l.map TMrk.c)), C.d (D.sl x.globals.nn (x.globals.l.map TTld.c))]]), (7, Ob.row false 1 false ((as7.map icc) ++ [[C.d (D.int .i64 ((i2 : Nat) : Int))]])), (8, Ob.row false 1 false ((as8.map icc) ++ [[C.d (D.int .i64 (((p3.pieces.map TPce.oc).length : Nat) : Int))]])), (17, Ob.map (atOf ps))] :: hp⟩ :=
  codeC_ok (hs := [.b true, .n k, .ds [D.str x1.name, D.int .i64 x1.file, D.int .i64 x1.line, D.sl x1.pieces.nn (x1.pieces.l.map TPce.c)], .o (some (D.int .i64 ((i2 : Nat) : Int))), .b false, .n i2, .c (C.own 11 false (p3.pieces.map TPce.oc)), .lp (.exit 4) ⟨[(2, V.ptr 0 2 [] 0 0), (3, V.ptr 0 3 [] 0 0), (4, V.mp 0 17 none), (6, V.ptr 0 6 [] 0 0), (7, V.msl 0 7 [] 0 (as7.length + 1)), (8, V.msl 0 8 [] 0 (as8.length + 1)), (11, V.d (D.int .i64 ((i2 : Nat) : Int))), (18, V.d (D.sl un (us.map TUnt.c))), (19, V.d (D.int .i64 ((us.length : Nat) : Int))), (20, V.d (D.int .i64 ((i : Nat) : Int))), (25, V.d (D.sl x.parts.nn (x.parts.l.map TPrt.c))), (26, V.d (D.int .i64 ((x.parts.l.length : Nat) : Int))), (27, V.d (D.int .i64 ((k : Nat) : Int))), (74, V.d (D.sl x1.pieces.nn (x1.pieces.l.map TPce.c))), (75, V.d (D.int .i64 ((x1.pieces.l.length : Nat) : Int))), (76, V.d (D.int .i64 ((x1.pieces.l.length : Nat) : Int))), (77, V.d (D.bool false))], [(2, Ob.row true 3 true [[C.d (D.sl false []), C.d (D.sl false []), C.d (D.sl false [])]]), (3, Ob.row true 3 true [[C.own 4 false (ps4.map OPrt.oc), C.own 9 false (ms.map TMrk.oc), C.own 3 false (gs.map TTld.oc)]]), (6, Ob.row true 3 true [[C.d (D.sl x.parts.nn (x.parts.l.map TPrt.c)), C.d (D.sl x.marks.nn (x.marks.l.map TMrk.c)), C.d (D.sl x.globals.nn (x.globals.l.map TTld.c))]]), (7, Ob.row false 1 false ((as7.map icc) ++ [[C.d (D.int .i64 ((i2 : Nat) : Int))]])), (8, Ob.row false 1 false ((as8.map icc) ++ [[C.d (D.int .i64 (((p3.pieces.map TPce.oc).length : Nat) : Int))]])), (17, Ob.map (atOf ps))] :: hp⟩]) (hs' := []) (cs := [_, ((k : Nat) : Int) = ((k : Nat) : Int), _, _, false = false, _, _, _, ((i2 : Nat) : Int) = ((i2 : Nat) : Int), _, _, _, _, _, _]) (by kernel_rfl) ⟨c0, rfl, c1, c2, rfl, c3, c4, c5, rfl, c6, c7, c8, c9, c10, c11, trivial⟩
end Go.Proofs.YtgmphfmoonbfpaaMv

set_option maxRecDepth 100000
namespace Go.Proofs.YtgmphfmoonbfpaaMv
open Go
theorem w16c_0 (un : Bool) (us : List TUnt) (i : Nat) (x : TUnt) (ps : List OPrt) (ms : List TMrk) (gs : List TTld) (as7 : List Int) (as8 : List Int) (h : Nat) (hp : HL)
    (c0 : (decide (((h : Nat) : Int) < ((x.marks.l.length : Nat) : Int))) = false) :
    Ev pg i16_l6 ⟨[(2, V.ptr 0 2 [] 0 0), (3, V.ptr 0 3 [] 0 0), (4, V.mp 0 17 none), (6, V.ptr 0 6 [] 0 0), (7, V.msl 0 7 [] 0 as7.length), (8, V.msl 0 8 [] 0 as8.length), (18, V.d (D.sl un (us.map TUnt.c))), (19, V.d (D.int .i64 ((us.length : Nat) : Int))), (20, V.d (D.int .i64 ((i : Nat) : Int))), (105, V.d (D.sl x.marks.nn (x.marks.l.map TMrk.c))), (106, V.d (D.int .i64 ((x.marks.l.length : Nat) : Int))), (107, V.d (D.int .i64 ((h : Nat) : Int)))], [(2, Ob.row true 3 true [[C.d (D.sl false []), C.d (D.sl false []), C.d (D.sl false [])]]), (3, Ob.row true 3 true [[C.own 4 false (ps.map OPrt.oc), C.own 9 false (ms.map TMrk.oc), C.own 3 false (gs.map TTld.oc)]]), (6, Ob.row true 3 true [[C.d (D.sl x.parts.nn (x.parts.l.map TPrt.c)), C.d (D.sl x.marks.nn (x.marks.l.map TMrk.c)), C.d (D.sl x.globals.nn (x.globals.l.map TTld.c))]]), (7, Ob.row false 1 false (as7.map icc)), (8, Ob.row false 1 false (as8.map icc)), (17, Ob.map (atOf ps))] :: hp⟩ (.exit 6) ⟨[(2, V.ptr 0 2 [] 0 0), (3, V.ptr 0 3 [] 0 0), (4, V.mp 0 17 none), (6, V.ptr 0 6 [] 0 0), (7, V.msl 0 7 [] 0 as7.length), (8, V.msl 0 8 [] 0 as8.length), (18, V.d (D.sl un (us.map TUnt.c))), (19, V.d (D.int .i64 ((us.length : Nat) : Int))), (20, V.d (D.int .i64 ((i : Nat) : Int))), (105, V.d (D.sl x.marks.nn (x.marks.l.map TMrk.c))), (106, V.d (D.int .i64 ((x.marks.l.length : Nat) : Int))), (107, V.d (D.int .i64 ((h : Nat) : Int))), (108, V.d (D.bool false))], [(2, Ob.row true 3 true [[C.d (D.sl false []), C.d (D.sl false []), C.d (D.sl false [])]]), (3, Ob.row true 3 true [[C.own 4 false (ps.map OPrt.oc), C.own 9 false (ms.map TMrk.oc), C.own 3 false (gs.map TTld.oc)]]), (6, Ob.row true 3 true [[C.d (D.sl x.parts.nn (x.parts.l.map TPrt.c)), C.d (D.sl x.marks.nn (x.marks.l.map TMrk.c)), C.d (D.sl x.globals.nn (x.globals.l.map TTld.c))]]), (7, Ob.row false 1 false (as7.map icc)), (8, Ob.row false 1 false (as8.map icc)), (17, Ob.map (atOf ps))] :: hp⟩ :=
  by
  have r : Ev pg i16_l6 ⟨[(2, V.ptr 0 2 [] 0 0), (3, V.ptr 0 3 [] 0 0), (4, V.mp 0 17 none), (6, V.ptr 0 6 [] 0 0), (7, V.msl 0 7 [] 0 as7.length), (8, V.msl 0 8 [] 0 as8.length), (18, V.d (D.sl un (us.map TUnt.c))), (19, V.d (D.int .i64 ((us.length : Nat) : Int))), (20, V.d (D.int .i64 ((i : Nat) : Int))), (105, V.d (D.sl x.marks.nn (x.marks.l.map TMrk.c))), (106, V.d (D.int .i64 ((x.marks.l.length : Nat) : Int))), (107, V.d (D.int .i64 ((h : Nat) : Int)))], [(2, Ob.row true 3 true [[C.d (D.sl false []), C.d (D.sl false []), C.d (D.sl false [])]]), (3, Ob.row true 3 true [[C.own 4 false (ps.map OPrt.oc), C.own 9 false (ms.map TMrk.oc), C.own 3 false (gs.map TTld.oc)]]), (6, Ob.row true 3 true [[C.d (D.sl x.parts.nn (x.parts.l.map TPrt.c)), C.d (D.sl x.marks.nn (x.marks.l.map TMrk.c)), C.d (D.sl x.globals.nn (x.globals.l.map TTld.c))]]), (7, Ob.row false 1 false (as7.map icc)), (8, Ob.row false 1 false (as8.map icc)), (17, Ob.map (atOf ps))] :: hp⟩ (.exit 6) ⟨[(2, V.ptr 0 2 [] 0 0), (3, V.ptr 0 3 [] 0 0), (4, V.mp 0 17 none), (6, V.ptr 0 6 [] 0 0), (7, V.msl 0 7 [] 0 as7.length), (8, V.msl 0 8 [] 0 as8.length), (18, V.d (D.sl un (us.map TUnt.c))), (19, V.d (D.int .i64 ((us.length : Nat) : Int))), (20, V.d (D.int .i64 ((i : Nat) : Int))), (105, V.d (D.sl x.marks.nn (x.marks.l.map TMrk.c))), (106, V.d (D.int .i64 ((x.marks.l.length : Nat) : Int))), (107, V.d (D.int .i64 ((h : Nat) : Int))), (108, V.d (D.bool (decide (((h : Nat) : Int) < ((x.marks.l.length : Nat) : Int)))))], [(2, Ob.row true 3 true [[C.d (D.sl false []), C.d (D.sl false []), C.d (D.sl false [])]]), (3, Ob.row true 3 true [[C.own 4 false (ps.map OPrt.oc), C.own 9 false (ms.map TMrk.oc), C.own 3 false (gs.map TTld.oc)]]), (6, Ob.row true 3 true [[C.d (D.sl x.parts.nn (x.parts.l.map TPrt.c)), C.d (D.sl x.marks.nn (x.marks.l.map TMrk.c)), C.d (D.sl x.globals.nn (x.globals.l.map TTld.c))]]), (7, Ob.row false 1 false (as7.map icc)), (8, Ob.row false 1 false (as8.map icc)), (17, Ob.map (atOf ps))] :: hp⟩ :=
  codeC_ok (hs := [.b false]) (hs' := []) (cs := [_]) (by kernel_rfl) ⟨c0, trivial⟩
  simp only [c0] at r
  exact r
theorem w16c_1 (un : Bool) (us : List TUnt) (i : Nat) (x : TUnt) (ps : List OPrt) (ms : List TMrk) (gs : List TTld) (as7 : List Int) (as8 : List Int) (h : Nat) (hp : HL) (x1 : TMrk)
    (c0 : (decide (((h : Nat) : Int) < ((x.marks.l.length : Nat) : Int))) = true)
    (c1 : (x.marks.l.map TMrk.c)[h]? = some [D.str x1.name, D.int .i64 x1.file, D.int .i64 x1.line, D.int .i64 x1.part, D.int .i64 x1.piece, D.bool x1.equ, D.int .i64 x1.v.add, D.str x1.v.plus, D.str x1.v.minus])
    (c2 : (decide (x1.part ≥ 0)) = false)
    (c3 : List.all [[D.str x1.name, D.int .i64 x1.file, D.int .i64 x1.line, D.int .i64 (-1), D.int .i64 0, D.bool x1.equ, D.int .i64 x1.v.add, D.str x1.v.plus, D.str x1.v.minus]] (fun x => x.length == 9) = true)
    (c4 : (((ms.map TMrk.oc).length) + 1) * 96 ≤ room)
    (c5 : ((ms.map TMrk.oc) ++ [[C.d (D.str x1.name), C.d (D.int .i64 x1.file), C.d (D.int .i64 x1.line), C.d (D.int .i64 (-1)), C.d (D.int .i64 0), C.d (D.bool x1.equ), C.d (D.int .i64 x1.v.add), C.d (D.str x1.v.plus), C.d (D.str x1.v.minus)]]).length = (((ms.map TMrk.oc).length) + 1)) :
    Ev pg i16_l6 ⟨[(2, V.ptr 0 2 [] 0 0), (3, V.ptr 0 3 [] 0 0), (4, V.mp 0 17 none), (6, V.ptr 0 6 [] 0 0), (7, V.msl 0 7 [] 0 as7.length), (8, V.msl 0 8 [] 0 as8.length), (18, V.d (D.sl un (us.map TUnt.c))), (19, V.d (D.int .i64 ((us.length : Nat) : Int))), (20, V.d (D.int .i64 ((i : Nat) : Int))), (105, V.d (D.sl x.marks.nn (x.marks.l.map TMrk.c))), (106, V.d (D.int .i64 ((x.marks.l.length : Nat) : Int))), (107, V.d (D.int .i64 ((h : Nat) : Int)))], [(2, Ob.row true 3 true [[C.d (D.sl false []), C.d (D.sl false []), C.d (D.sl false [])]]), (3, Ob.row true 3 true [[C.own 4 false (ps.map OPrt.oc), C.own 9 false (ms.map TMrk.oc), C.own 3 false (gs.map TTld.oc)]]), (6, Ob.row true 3 true [[C.d (D.sl x.parts.nn (x.parts.l.map TPrt.c)), C.d (D.sl x.marks.nn (x.marks.l.map TMrk.c)), C.d (D.sl x.globals.nn (x.globals.l.map TTld.c))]]), (7, Ob.row false 1 false (as7.map icc)), (8, Ob.row false 1 false (as8.map icc)), (17, Ob.map (atOf ps))] :: hp⟩ .normal ⟨[(2, V.ptr 0 2 [] 0 0), (3, V.ptr 0 3 [] 0 0), (4, V.mp 0 17 none), (6, V.ptr 0 6 [] 0 0), (7, V.msl 0 7 [] 0 as7.length), (8, V.msl 0 8 [] 0 as8.length), (18, V.d (D.sl un (us.map TUnt.c))), (19, V.d (D.int .i64 ((us.length : Nat) : Int))), (20, V.d (D.int .i64 ((i : Nat) : Int))), (105, V.d (D.sl x.marks.nn (x.marks.l.map TMrk.c))), (106, V.d (D.int .i64 ((x.marks.l.length : Nat) : Int))), (107, V.d (D.int .i64 (IntKind.i64.wrap (((h : Nat) : Int) + 1))))], [(2, Ob.row true 3 true [[C.d (D.sl false []), C.d (D.sl false []), C.d (D.sl false [])]]), (3, Ob.row true 3 true [[C.own 4 false (ps.map OPrt.oc), C.own 9 false ((ms.map TMrk.oc) ++ [[C.d (D.str x1.name), C.d (D.int .i64 x1.file), C.d (D.int .i64 x1.line), C.d (D.int .i64 (-1)), C.d (D.int .i64 0), C.d (D.bool x1.equ), C.d (D.int .i64 x1.v.add), C.d (D.str x1.v.plus), C.d (D.str x1.v.minus)]]), C.own 3 false (gs.map TTld.oc)]]), (6, Ob.row true 3 true [[C.d (D.sl x.parts.nn (x.parts.l.map TPrt.c)), C.d (D.sl x.marks.nn (x.marks.l.map TMrk.c)), C.d (D.sl x.globals.nn (x.globals.l.map TTld.c))]]), (7, Ob.row false 1 false (as7.map icc)), (8, Ob.row false 1 false (as8.map icc)), (17, Ob.map (atOf ps))] :: hp⟩ :=
  codeC_ok (hs := [.b true, .n h, .ds [D.str x1.name, D.int .i64 x1.file, D.int .i64 x1.line, D.int .i64 x1.part, D.int .i64 x1.piece, D.bool x1.equ, D.int .i64 x1.v.add, D.str x1.v.plus, D.str x1.v.minus], .b false, .b false, .b false, .b false, .b false, .b false, .b false]) (hs' := []) (cs := [_, ((h : Nat) : Int) = ((h : Nat) : Int), _, _, _, _, _, _, _, false = false, _, ((ms.map TMrk.oc).length) = (ms.map TMrk.oc).length, _, _]) (by kernel_rfl) ⟨c0, rfl, c1, c2, c2, c2, c2, c2, c2, rfl, c3, rfl, c4, c5, trivial⟩
theorem w16c_2 (un : Bool) (us : List TUnt) (i : Nat) (x : TUnt) (ps : List OPrt) (ms : List TMrk) (gs : List TTld) (as7 : List Int) (as8 : List Int) (h : Nat) (hp : HL) (x1 : TMrk)
    (c0 : (decide (((h : Nat) : Int) < ((x.marks.l.length : Nat) : Int))) = true)
    (c1 : (x.marks.l.map TMrk.c)[h]? = some [D.str x1.name, D.int .i64 x1.file, D.int .i64 x1.line, D.int .i64 x1.part, D.int .i64 x1.piece, D.bool x1.equ, D.int .i64 x1.v.add, D.str x1.v.plus, D.str x1.v.minus])
    (c2 : (decide (x1.part ≥ 0)) = true)
    (c3 : (decide (x1.part < ((as7.length : Nat) : Int))) = false)
    (c4 : List.all [[D.str x1.name, D.int .i64 x1.file, D.int .i64 x1.line, D.int .i64 (-1), D.int .i64 0, D.bool x1.equ, D.int .i64 x1.v.add, D.str x1.v.plus, D.str x1.v.minus]] (fun x => x.length == 9) = true)
    (c5 : (((ms.map TMrk.oc).length) + 1) * 96 ≤ room)
    (c6 : ((ms.map TMrk.oc) ++ [[C.d (D.str x1.name), C.d (D.int .i64 x1.file), C.d (D.int .i64 x1.line), C.d (D.int .i64 (-1)), C.d (D.int .i64 0), C.d (D.bool x1.equ), C.d (D.int .i64 x1.v.add), C.d (D.str x1.v.plus), C.d (D.str x1.v.minus)]]).length = (((ms.map TMrk.oc).length) + 1)) :
    Ev pg i16_l6 ⟨[(2, V.ptr 0 2 [] 0 0), (3, V.ptr 0 3 [] 0 0), (4, V.mp 0 17 none), (6, V.ptr 0 6 [] 0 0), (7, V.msl 0 7 [] 0 as7.length), (8, V.msl 0 8 [] 0 as8.length), (18, V.d (D.sl un (us.map TUnt.c))), (19, V.d (D.int .i64 ((us.length : Nat) : Int))), (20, V.d (D.int .i64 ((i : Nat) : Int))), (105, V.d (D.sl x.marks.nn (x.marks.l.map TMrk.c))), (106, V.d (D.int .i64 ((x.marks.l.length : Nat) : Int))), (107, V.d (D.int .i64 ((h : Nat) : Int)))], [(2, Ob.row true 3 true [[C.d (D.sl false []), C.d (D.sl false []), C.d (D.sl false [])]]), (3, Ob.row true 3 true [[C.own 4 false (ps.map OPrt.oc), C.own 9 false (ms.map TMrk.oc), C.own 3 false (gs.map TTld.oc)]]), (6, Ob.row true 3 true [[C.d (D.sl x.parts.nn (x.parts.l.map TPrt.c)), C.d (D.sl x.marks.nn (x.marks.l.map TMrk.c)), C.d (D.sl x.globals.nn (x.globals.l.map TTld.c))]]), (7, Ob.row false 1 false (as7.map icc)), (8, Ob.row false 1 false (as8.map icc)), (17, Ob.map (atOf ps))] :: hp⟩ .normal ⟨[(2, V.ptr 0 2 [] 0 0), (3, V.ptr 0 3 [] 0 0), (4, V.mp 0 17 none), (6, V.ptr 0 6 [] 0 0), (7, V.msl 0 7 [] 0 as7.length), (8, V.msl 0 8 [] 0 as8.length), (18, V.d (D.sl un (us.map TUnt.c))), (19, V.d (D.int .i64 ((us.length : Nat) : Int))), (20, V.d (D.int .i64 ((i : Nat) : Int))), (105, V.d (D.sl x.marks.nn (x.marks.l.map TMrk.c))), (106, V.d (D.int .i64 ((x.marks.l.length : Nat) : Int))), (107, V.d (D.int .i64 (IntKind.i64.wrap (((h : Nat) : Int) + 1))))], [(2, Ob.row true 3 true [[C.d (D.sl false []), C.d (D.sl false []), C.d (D.sl false [])]]), (3, Ob.row true 3 true [[C.own 4 false (ps.map OPrt.oc), C.own 9 false ((ms.map TMrk.oc) ++ [[C.d (D.str x1.name), C.d (D.int .i64 x1.file), C.d (D.int .i64 x1.line), C.d (D.int .i64 (-1)), C.d (D.int .i64 0), C.d (D.bool x1.equ), C.d (D.int .i64 x1.v.add), C.d (D.str x1.v.plus), C.d (D.str x1.v.minus)]]), C.own 3 false (gs.map TTld.oc)]]), (6, Ob.row true 3 true [[C.d (D.sl x.parts.nn (x.parts.l.map TPrt.c)), C.d (D.sl x.marks.nn (x.marks.l.map TMrk.c)), C.d (D.sl x.globals.nn (x.globals.l.map TTld.c))]]), (7, Ob.row false 1 false (as7.map icc)), (8, Ob.row false 1 false (as8.map icc)), (17, Ob.map (atOf ps))] :: hp⟩ :=
  codeC_ok (hs := [.b true, .n h, .ds [D.str x1.name, D.int .i64 x1.file, D.int .i64 x1.line, D.int .i64 x1.part, D.int .i64 x1.piece, D.bool x1.equ, D.int .i64 x1.v.add, D.str x1.v.plus, D.str x1.v.minus], .b true, .b true, .b true, .b true, .b true, .b true, .b false]) (hs' := []) (cs := [_, ((h : Nat) : Int) = ((h : Nat) : Int), _, _, _, _, _, _, _, _, _, ((ms.map TMrk.oc).length) = (ms.map TMrk.oc).length, _, _]) (by kernel_rfl) ⟨c0, rfl, c1, c2, c2, c2, c2, c2, c2, c3, c4, rfl, c5, c6, trivial⟩
theorem w16c_3 (un : Bool) (us : List TUnt) (i : Nat) (x : TUnt) (ps : List OPrt) (ms : List TMrk) (gs : List TTld) (as7 : List Int) (as8 : List Int) (h : Nat) (hp : HL) (x1 : TMrk) (k2 : Nat) (n3 : Int) (n4 : Int)
    (c0 : (decide (((h : Nat) : Int) < ((x.marks.l.length : Nat) : Int))) = true)
    (c1 : (x.marks.l.map TMrk.c)[h]? = some [D.str x1.name, D.int .i64 x1.file, D.int .i64 x1.line, D.int .i64 x1.part, D.int .i64 x1.piece, D.bool x1.equ, D.int .i64 x1.v.add, D.str x1.v.plus, D.str x1.v.minus])
    (c2 : (decide (x1.part ≥ 0)) = true)
    (c3 : (decide (x1.part < ((as7.length : Nat) : Int))) = true)
    (c4 : x1.part = ((k2 : Nat) : Int))
    (c5 : k2 < as7.length)
    (c6 : cellAt (as7.map icc) k2 0 = some (C.d (D.int .i64 n3)))
    (c7 : k2 < as8.length)
    (c8 : cellAt (as8.map icc) k2 0 = some (C.d (D.int .i64 n4)))
    (c9 : List.all [[D.str x1.name, D.int .i64 x1.file, D.int .i64 x1.line, D.int .i64 n3, D.int .i64 (IntKind.i64.wrap (x1.piece + n4)), D.bool x1.equ, D.int .i64 x1.v.add, D.str x1.v.plus, D.str x1.v.minus]] (fun x => x.length == 9) = true)
    (c10 : (((ms.map TMrk.oc).length) + 1) * 96 ≤ room)
    (c11 : ((ms.map TMrk.oc) ++ [[C.d (D.str x1.name), C.d (D.int .i64 x1.file), C.d (D.int .i64 x1.line), C.d (D.int .i64 n3), C.d (D.int .i64 (IntKind.i64.wrap (x1.piece + n4))), C.d (D.bool x1.equ), C.d (D.int .i64 x1.v.add), C.d (D.str x1.v.plus), C.d (D.str x1.v.minus)]]).length = (((ms.map TMrk.oc).length) + 1)) :
    Ev pg i16_l6 ⟨[(2, V.ptr 0 2 [] 0 0), (3, V.ptr 0 3 [] 0 0), (4, V.mp 0 17 none), (6, V.ptr 0 6 [] 0 0), (7, V.msl 0 7 [] 0 as7.length), (8, V.msl 0 8 [] 0 as8.length), (18, V.d (D.sl un (us.map TUnt.c))), (19, V.d (D.int .i64 ((us.length : Nat) : Int))), (20, V.d (D.int .i64 ((i : Nat) : Int))), (105, V.d (D.sl x.marks.nn (x.marks.l.map TMrk.c))), (106, V.d (D.int .i64 ((x.marks.l.length : Nat) : Int))), (107, V.d (D.int .i64 ((h : Nat) : Int)))], [(2, Ob.row true 3 true [[C.d (D.sl false []), C.d (D.sl false []), C.d (D.sl false [])]]), (3, Ob.row true 3 true [[C.own 4 false (ps.map OPrt.oc), C.own 9 false (ms.map TMrk.oc), C.own 3 false (gs.map TTld.oc)]]), (6, Ob.row true 3 true [[C.d (D.sl x.parts.nn (x.parts.l.map TPrt.c)), C.d (D.sl x.marks.nn (x.marks.l.map TMrk.c)), C.d (D.sl x.globals.nn (x.globals.l.map TTld.c))]]), (7, Ob.row false 1 false (as7.map icc)), (8, Ob.row false 1 false (as8.map icc)), (17, Ob.map (atOf ps))] :: hp⟩ .normal ⟨[(2, V.ptr 0 2 [] 0 0), (3, V.ptr 0 3 [] 0 0), (4, V.mp 0 17 none), (6, V.ptr 0 6 [] 0 0), (7, V.msl 0 7 [] 0 as7.length), (8, V.msl 0 8 [] 0 as8.length), (18, V.d (D.sl un (us.map TUnt.c))), (19, V.d (D.int .i64 ((us.length : Nat) : Int))), (20, V.d (D.int .i64 ((i : Nat) : Int))), (105, V.d (D.sl x.marks.nn (x.marks.l.map TMrk.c))), (106, V.d (D.int .i64 ((x.marks.l.length : Nat) : Int))), (107, V.d (D.int .i64 (IntKind.i64.wrap (((h : Nat) : Int) + 1))))], [(2, Ob.row true 3 true [[C.d (D.sl false []), C.d (D.sl false []), C.d (D.sl false [])]]), (3, Ob.row true 3 true [[C.own 4 false (ps.map OPrt.oc), C.own 9 false ((ms.map TMrk.oc) ++ [[C.d (D.str x1.name), C.d (D.int .i64 x1.file), C.d (D.int .i64 x1.line), C.d (D.int .i64 n3), C.d (D.int .i64 (IntKind.i64.wrap (x1.piece + n4))), C.d (D.bool x1.equ), C.d (D.int .i64 x1.v.add), C.d (D.str x1.v.plus), C.d (D.str x1.v.minus)]]), C.own 3 false (gs.map TTld.oc)]]), (6, Ob.row true 3 true [[C.d (D.sl x.parts.nn (x.parts.l.map TPrt.c)), C.d (D.sl x.marks.nn (x.marks.l.map TMrk.c)), C.d (D.sl x.globals.nn (x.globals.l.map TTld.c))]]), (7, Ob.row false 1 false (as7.map icc)), (8, Ob.row false 1 false (as8.map icc)), (17, Ob.map (atOf ps))] :: hp⟩ :=
  codeC_ok (hs := [.b true, .n h, .ds [D.str x1.name, D.int .i64 x1.file, D.int .i64 x1.line, D.int .i64 x1.part, D.int .i64 x1.piece, D.bool x1.equ, D.int .i64 x1.v.add, D.str x1.v.plus, D.str x1.v.minus], .b true, .b true, .b true, .b true, .b true, .b true, .b true, .n k2, .c (C.d (D.int .i64 n3)), .n k2, .c (C.d (D.int .i64 n4))]) (hs' := []) (cs := [_, ((h : Nat) : Int) = ((h : Nat) : Int), _, _, _, _, _, _, _, _, _, _, _, _, _, _, _, ((ms.map TMrk.oc).length) = (ms.map TMrk.oc).length, _, _]) (by kernel_rfl) ⟨c0, rfl, c1, c2, c2, c2, c2, c2, c2, c3, c4, c5, c6, c4, c7, c8, c9, rfl, c10, c11, trivial⟩
theorem w16d_0 (un : Bool) (us : List TUnt) (i : Nat) (ps : List OPrt) (ms : List TMrk) (gs : List TTld) (hp : HL)
    (c0 : (decide (((i : Nat) : Int) < ((us.length : Nat) : Int))) = false) :
    Ev pg i16_l0 ⟨[(2, V.ptr 0 2 [] 0 0), (3, V.ptr 0 3 [] 0 0), (4, V.mp 0 17 none), (18, V.d (D.sl un (us.map TUnt.c))), (19, V.d (D.int .i64 ((us.length : Nat) : Int))), (20, V.d (D.int .i64 ((i : Nat) : Int)))], [(2, Ob.row true 3 true [[C.d (D.sl false []), C.d (D.sl false []), C.d (D.sl false [])]]), (3, Ob.row true 3 true [[C.own 4 false (ps.map OPrt.oc), C.own 9 false (ms.map TMrk.oc), C.own 3 false (gs.map TTld.oc)]]), (17, Ob.map (atOf ps))] :: hp⟩ (.exit 0) ⟨[(2, V.ptr 0 2 [] 0 0), (3, V.ptr 0 3 [] 0 0), (4, V.mp 0 17 none), (18, V.d (D.sl un (us.map TUnt.c))), (19, V.d (D.int .i64 ((us.length : Nat) : Int))), (20, V.d (D.int .i64 ((i : Nat) : Int))), (21, V.d (D.bool false))], [(2, Ob.row true 3 true [[C.d (D.sl false []), C.d (D.sl false []), C.d (D.sl false [])]]), (3, Ob.row true 3 true [[C.own 4 false (ps.map OPrt.oc), C.own 9 false (ms.map TMrk.oc), C.own 3 false (gs.map TTld.oc)]]), (17, Ob.map (atOf ps))] :: hp⟩ :=
  by
  have r : Ev pg i16_l0 ⟨[(2, V.ptr 0 2 [] 0 0), (3, V.ptr 0 3 [] 0 0), (4, V.mp 0 17 none), (18, V.d (D.sl un (us.map TUnt.c))), (19, V.d (D.int .i64 ((us.length : Nat) : Int))), (20, V.d (D.int .i64 ((i : Nat) : Int)))], [(2, Ob.row true 3 true [[C.d (D.sl false []), C.d (D.sl false []), C.d (D.sl false [])]]), (3, Ob.row true 3 true [[C.own 4 false (ps.map OPrt.oc), C.own 9 false (ms.map TMrk.oc), C.own 3 false (gs.map TTld.oc)]]), (17, Ob.map (atOf ps))] :: hp⟩ (.exit 0) ⟨[(2, V.ptr 0 2 [] 0 0), (3, V.ptr 0 3 [] 0 0), (4, V.mp 0 17 none), (18, V.d (D.sl un (us.map TUnt.c))), (19, V.d (D.int .i64 ((us.length : Nat) : Int))), (20, V.d (D.int .i64 ((i : Nat) : Int))), (21, V.d (D.bool (decide (((i : Nat) : Int) < ((us.length : Nat) : Int)))))], [(2, Ob.row true 3 true [[C.d (D.sl false []), C.d (D.sl false []), C.d (D.sl false [])]]), (3, Ob.row true 3 true [[C.own 4 false (ps.map OPrt.oc), C.own 9 false (ms.map TMrk.oc), C.own 3 false (gs.map TTld.oc)]]), (17, Ob.map (atOf ps))] :: hp⟩ :=
  codeC_ok (hs := [.b false]) (hs' := []) (cs := [_]) (by kernel_rfl) ⟨c0, trivial⟩
  simp only [c0] at r
  exact r
theorem w16d_1 (un : Bool) (us : List TUnt) (i : Nat) (ps : List OPrt) (ms : List TMrk) (gs : List TTld) (hp : HL) (x1 : TUnt) (ps2 : List OPrt) (as3 : List Int) (as4 : List Int) (ms5 : List TMrk)
    (c0 : (decide (((i : Nat) : Int) < ((us.length : Nat) : Int))) = true)
    (c1 : (us.map TUnt.c)[i]? = some [D.sl x1.parts.nn (x1.parts.l.map TPrt.c), D.sl x1.marks.nn (x1.marks.l.map TMrk.c), D.sl x1.globals.nn (x1.globals.l.map TTld.c)])
    (c2 : Lp pg i16_l2 ⟨[(2, V.ptr 0 2 [] 0 0), (3, V.ptr 0 3 [] 0 0), (4, V.mp 0 17 none), (6, V.ptr 0 6 [] 0 0), (7, V.msl 0 7 [] 0 0), (8, V.msl 0 8 [] 0 0), (18, V.d (D.sl un (us.map TUnt.c))), (19, V.d (D.int .i64 ((us.length : Nat) : Int))), (20, V.d (D.int .i64 ((i : Nat) : Int))), (25, V.d (D.sl x1.parts.nn (x1.parts.l.map TPrt.c))), (26, V.d (D.int .i64 (((x1.parts.l.map TPrt.c).length : Nat) : Int))), (27, V.d (D.int .i64 0))], [(2, Ob.row true 3 true [[C.d (D.sl false []), C.d (D.sl false []), C.d (D.sl false [])]]), (3, Ob.row true 3 true [[C.own 4 false (ps.map OPrt.oc), C.own 9 false (ms.map TMrk.oc), C.own 3 false (gs.map TTld.oc)]]), (6, Ob.row true 3 true [[C.d (D.sl x1.parts.nn (x1.parts.l.map TPrt.c)), C.d (D.sl x1.marks.nn (x1.marks.l.map TMrk.c)), C.d (D.sl x1.globals.nn (x1.globals.l.map TTld.c))]]), (7, Ob.row false 1 false []), (8, Ob.row false 1 false []), (17, Ob.map (atOf ps))] :: hp⟩ (.exit 2) ⟨[(2, V.ptr 0 2 [] 0 0), (3, V.ptr 0 3 [] 0 0), (4, V.mp 0 17 none), (6, V.ptr 0 6 [] 0 0), (7, V.msl 0 7 [] 0 as3.length), (8, V.msl 0 8 [] 0 as4.length), (18, V.d (D.sl un (us.map TUnt.c))), (19, V.d (D.int .i64 ((us.length : Nat) : Int))), (20, V.d (D.int .i64 ((i : Nat) : Int))), (25, V.d (D.sl x1.parts.nn (x1.parts.l.map TPrt.c))), (26, V.d (D.int .i64 ((x1.parts.l.length : Nat) : Int))), (27, V.d (D.int .i64 ((x1.parts.l.length : Nat) : Int))), (28, V.d (D.bool false))], [(2, Ob.row true 3 true [[C.d (D.sl false []), C.d (D.sl false []), C.d (D.sl false [])]]), (3, Ob.row true 3 true [[C.own 4 false (ps2.map OPrt.oc), C.own 9 false (ms.map TMrk.oc), C.own 3 false (gs.map TTld.oc)]]), (6, Ob.row true 3 true [[C.d (D.sl x1.parts.nn (x1.parts.l.map TPrt.c)), C.d (D.sl x1.marks.nn (x1.marks.l.map TMrk.c)), C.d (D.sl x1.globals.nn (x1.globals.l.map TTld.c))]]), (7, Ob.row false 1 false (as3.map icc)), (8, Ob.row false 1 false (as4.map icc)), (17, Ob.map (atOf ps2))] :: hp⟩)
    (c3 : Lp pg i16_l6 ⟨[(2, V.ptr 0 2 [] 0 0), (3, V.ptr 0 3 [] 0 0), (4, V.mp 0 17 none), (6, V.ptr 0 6 [] 0 0), (7, V.msl 0 7 [] 0 as3.length), (8, V.msl 0 8 [] 0 as4.length), (18, V.d (D.sl un (us.map TUnt.c))), (19, V.d (D.int .i64 ((us.length : Nat) : Int))), (20, V.d (D.int .i64 ((i : Nat) : Int))), (105, V.d (D.sl x1.marks.nn (x1.marks.l.map TMrk.c))), (106, V.d (D.int .i64 (((x1.marks.l.map TMrk.c).length : Nat) : Int))), (107, V.d (D.int .i64 0))], [(2, Ob.row true 3 true [[C.d (D.sl false []), C.d (D.sl false []), C.d (D.sl false [])]]), (3, Ob.row true 3 true [[C.own 4 false (ps2.map OPrt.oc), C.own 9 false (ms.map TMrk.oc), C.own 3 false (gs.map TTld.oc)]]), (6, Ob.row true 3 true [[C.d (D.sl x1.parts.nn (x1.parts.l.map TPrt.c)), C.d (D.sl x1.marks.nn (x1.marks.l.map TMrk.c)), C.d (D.sl x1.globals.nn (x1.globals.l.map TTld.c))]]), (7, Ob.row false 1 false (as3.map icc)), (8, Ob.row false 1 false (as4.map icc)), (17, Ob.map (atOf ps2))] :: hp⟩ (.exit 6) ⟨[(2, V.ptr 0 2 [] 0 0), (3, V.ptr 0 3 [] 0 0), (4, V.mp 0 17 none), (6, V.ptr 0 6 [] 0 0), (7, V.msl 0 7 [] 0 as3.length), (8, V.msl 0 8 [] 0 as4.length), (18, V.d (D.sl un (us.map TUnt.c))), (19, V.d (D.int .i64 ((us.length : Nat) : Int))), (20, V.d (D.int .i64 ((i : Nat) : Int))), (105, V.d (D.sl x1.marks.nn (x1.marks.l.map TMrk.c))), (106, V.d (D.int .i64 ((x1.marks.l.length : Nat) : Int))), (107, V.d (D.int .i64 ((x1.marks.l.length : Nat) : Int))), (108, V.d (D.bool false))], [(2, Ob.row true 3 true [[C.d (D.sl false []), C.d (D.sl false []), C.d (D.sl false [])]]), (3, Ob.row true 3 true [[C.own 4 false (ps2.map OPrt.oc), C.own 9 false (ms5.map TMrk.oc), C.own 3 false (gs.map TTld.oc)]]), (6, Ob.row true 3 true [[C.d (D.sl x1.parts.nn (x1.parts.l.map TPrt.c)), C.d (D.sl x1.marks.nn (x1.marks.l.map TMrk.c)), C.d (D.sl x1.globals.nn (x1.globals.l.map TTld.c))]]), (7, Ob.row false 1 false (as3.map icc)), (8, Ob.row false 1 false (as4.map icc)), (17, Ob.map (atOf ps2))] :: hp⟩)
    (c4 : List.all (x1.globals.l.map TTld.c) (fun x => x.length == 3) = true)
    (c5 : (((gs.map TTld.oc).length) + ((List.map (fun x => List.map C.d x) (x1.globals.l.map TTld.c)).length)) * 32 ≤ room)
    (c6 : ((gs.map TTld.oc) ++ List.map (ownify []) (List.map (fun x => List.map C.d x) (x1.globals.l.map TTld.c))).length = (((gs.map TTld.oc).length) + ((List.map (fun x => List.map C.d x) (x1.globals.l.map TTld.c)).length))) :
    Ev pg i16_l0 ⟨[(2, V.ptr 0 2 [] 0 0), (3, V.ptr 0 3 [] 0 0), (4, V.mp 0 17 none), (18, V.d (D.sl un (us.map TUnt.c))), (19, V.d (D.int .i64 ((us.length : Nat) : Int))), (20, V.d (D.int .i64 ((i : Nat) : Int)))], [(2, Ob.row true 3 true [[C.d (D.sl false []), C.d (D.sl false []), C.d (D.sl false [])]]), (3, Ob.row true 3 true [[C.own 4 false (ps.map OPrt.oc), C.own 9 false (ms.map TMrk.oc), C.own 3 false (gs.map TTld.oc)]]), (17, Ob.map (atOf ps))] :: hp⟩ .normal ⟨[(2, V.ptr 0 2 [] 0 0), (3, V.ptr 0 3 [] 0 0), (4, V.mp 0 17 none), (18, V.d (D.sl un (us.map TUnt.c))), (19, V.d (D.int .i64 ((us.length : Nat) : Int))), (20, V.d (D.int .i64 (IntKind.i64.wrap (((i : Nat) : Int) + 1))))], [(2, Ob.row true 3 true [[C.d (D.sl false []), C.d (D.sl false []), C.d (D.sl false [])]]), (3, Ob.row true 3 true [[C.own 4 false (ps2.map OPrt.oc), C.own 9 false (ms5.map TMrk.oc), C.own 3 false ((gs.map TTld.oc) ++ List.map (ownify []) (List.map (fun x => List.map C.d x) (x1.globals.l.map TTld.c)))]]), (17, Ob.map (atOf ps2))] :: hp⟩ :=
  codeC_ok (hs := [.b true, .n i, .ds [D.sl x1.parts.nn (x1.parts.l.map TPrt.c), D.sl x1.marks.nn (x1.marks.l.map TMrk.c), D.sl x1.globals.nn (x1.globals.l.map TTld.c)], .lp (.exit 2) ⟨[(2, V.ptr 0 2 [] 0 0), (3, V.ptr 0 3 [] 0 0), (4, V.mp 0 17 none), (6, V.ptr 0 6 [] 0 0), (7, V.msl 0 7 [] 0 as3.length), (8, V.msl 0 8 [] 0 as4.length), (18, V.d (D.sl un (us.map TUnt.c))), (19, V.d (D.int .i64 ((us.length : Nat) : Int))), (20, V.d (D.int .i64 ((i : Nat) : Int))), (25, V.d (D.sl x1.parts.nn (x1.parts.l.map TPrt.c))), (26, V.d (D.int .i64 ((x1.parts.l.length : Nat) : Int))), (27, V.d (D.int .i64 ((x1.parts.l.length : Nat) : Int))), (28, V.d (D.bool false))], [(2, Ob.row true 3 true [[C.d (D.sl false []), C.d (D.sl false []), C.d (D.sl false [])]]), (3, Ob.row true 3 true [[C.own 4 false (ps2.map OPrt.oc), C.own 9 false (ms.map TMrk.oc), C.own 3 false (gs.map TTld.oc)]]), (6, Ob.row true 3 true [[C.d (D.sl x1.parts.nn (x1.parts.l.map TPrt.c)), C.d (D.sl x1.marks.nn (x1.marks.l.map TMrk.c)), C.d (D.sl x1.globals.nn (x1.globals.l.map TTld.c))]]), (7, Ob.row false 1 false (as3.map icc)), (8, Ob.row false 1 false (as4.map icc)), (17, Ob.map (atOf ps2))] :: hp⟩, .lp (.exit 6) ⟨[(2, V.ptr 0 2 [] 0 0), (3, V.ptr 0 3 [] 0 0), (4, V.mp 0 17 none), (6, V.ptr 0 6 [] 0 0), (7, V.msl 0 7 [] 0 as3.length), (8, V.msl 0 8 [] 0 as4.length), (18, V.d (D.sl un (us.map TUnt.c))), (19, V.d (D.int .i64 ((us.length : Nat) : Int))), (20, V.d (D.int .i64 ((i : Nat) : Int))), (105, V.d (D.sl x1.marks.nn (x1.marks.l.map TMrk.c))), (106, V.d (D.int .i64 ((x1.marks.l.length : Nat) : Int))), (107, V.d (D.int .i64 ((x1.marks.l.length : Nat) : Int))), (108, V.d (D.bool false))], [(2, Ob.row true 3 true [[C.d (D.sl false []), C.d (D.sl false []), C.d (D.sl false [])]]), (3, Ob.row true 3 true [[C.own 4 false (ps2.map OPrt.oc), C.own 9 false (ms5.map TMrk.oc), C.own 3 false (gs.map TTld.oc)]]), (6, Ob.row true 3 true [[C.d (D.sl x1.parts.nn (x1.parts.l.map TPrt.c)), C.d (D.sl x1.marks.nn (x1.marks.l.map TMrk.c)), C.d (D.sl x1.globals.nn (x1.globals.l.map TTld.c))]]), (7, Ob.row false 1 false (as3.map icc)), (8, Ob.row false 1 false (as4.map icc)), (17, Ob.map (atOf ps2))] :: hp⟩]) (hs' := []) (cs := [_, ((i : Nat) : Int) = ((i : Nat) : Int), _, _, _, _, ((gs.map TTld.oc).length) = (gs.map TTld.oc).length, _, _]) (by kernel_rfl) ⟨c0, rfl, c1, c2, c3, c4, rfl, c5, c6, trivial⟩
theorem w16_0 (un : Bool) (us : List TUnt) (hp : HL) (ps1 : List OPrt) (ms2 : List TMrk) (gs3 : List TTld)
    (c0 : Lp pg i16_l0 ⟨[(2, V.ptr 0 2 [] 0 0), (3, V.ptr 0 3 [] 0 0), (4, V.mp 0 17 none), (18, V.d (D.sl un (us.map TUnt.c))), (19, V.d (D.int .i64 (((us.map TUnt.c).length : Nat) : Int))), (20, V.d (D.int .i64 0))], [(2, Ob.row true 3 true [[C.d (D.sl false []), C.d (D.sl false []), C.d (D.sl false [])]]), (3, Ob.row true 3 true [[C.own 4 false [], C.own 9 false [], C.own 3 false []]]), (17, Ob.map ([]))] :: hp⟩ (.exit 0) ⟨[(2, V.ptr 0 2 [] 0 0), (3, V.ptr 0 3 [] 0 0), (4, V.mp 0 17 none), (18, V.d (D.sl un (us.map TUnt.c))), (19, V.d (D.int .i64 ((us.length : Nat) : Int))), (20, V.d (D.int .i64 ((us.length : Nat) : Int))), (21, V.d (D.bool false))], [(2, Ob.row true 3 true [[C.d (D.sl false []), C.d (D.sl false []), C.d (D.sl false [])]]), (3, Ob.row true 3 true [[C.own 4 false (ps1.map OPrt.oc), C.own 9 false (ms2.map TMrk.oc), C.own 3 false (gs3.map TTld.oc)]]), (17, Ob.map (atOf ps1))] :: hp⟩)
    (c1 : fzBs [C.own 4 false (ps1.map OPrt.oc), C.own 9 false (ms2.map TMrk.oc), C.own 3 false (gs3.map TTld.oc)] = some [C.d (D.sl false (ps1.map (fun p => TPrt.c p.t))), C.d (D.sl false (ms2.map TMrk.c)), C.d (D.sl false (gs3.map TTld.c))]) :
    Rn pg 16 [V.d (D.sl un (us.map TUnt.c))] (hp) (V.d (D.agg [D.sl false (ps1.map (fun p => TPrt.c p.t)), D.sl false (ms2.map TMrk.c), D.sl false (gs3.map TTld.c)])) (hp) :=
  Rn.c (fn := i16) (ex := .ret) (st := ⟨[(2, V.ptr 0 2 [] 0 0)], [(2, Ob.row true 3 true [[C.d (D.sl false (ps1.map (fun p => TPrt.c p.t))), C.d (D.sl false (ms2.map TMrk.c)), C.d (D.sl false (gs3.map TTld.c))]])] :: hp⟩) (hs := [.lp (.exit 0) ⟨[(2, V.ptr 0 2 [] 0 0), (3, V.ptr 0 3 [] 0 0), (4, V.mp 0 17 none), (18, V.d (D.sl un (us.map TUnt.c))), (19, V.d (D.int .i64 ((us.length : Nat) : Int))), (20, V.d (D.int .i64 ((us.length : Nat) : Int))), (21, V.d (D.bool false))], [(2, Ob.row true 3 true [[C.d (D.sl false []), C.d (D.sl false []), C.d (D.sl false [])]]), (3, Ob.row true 3 true [[C.own 4 false (ps1.map OPrt.oc), C.own 9 false (ms2.map TMrk.oc), C.own 3 false (gs3.map TTld.oc)]]), (17, Ob.map (atOf ps1))] :: hp⟩, .cs [C.d (D.sl false (ps1.map (fun p => TPrt.c p.t))), C.d (D.sl false (ms2.map TMrk.c)), C.d (D.sl false (gs3.map TTld.c))]]) (cs := [_, _]) (rs := [V.d (D.agg [D.sl false (ps1.map (fun p => TPrt.c p.t)), D.sl false (ms2.map TMrk.c), D.sl false (gs3.map TTld.c)])]) (t := [(2, Ob.row true 3 true [[C.d (D.sl false (ps1.map (fun p => TPrt.c p.t))), C.d (D.sl false (ms2.map TMrk.c)), C.d (D.sl false (gs3.map TTld.c))]])])
    (by kernel_rfl) (by kernel_rfl) (by kernel_rfl) (by kernel_rfl) (by kernel_rfl) (by kernel_rfl) ⟨c0, c1, trivial⟩
end Go.Proofs.YtgmphfmoonbfpaaMv

namespace Go.Proofs.YtgmphfmoonbfpaaMv
open Go
def s4 (un : Bool) (us : List TUnt) (i : Nat) (x : TUnt) (ps : List OPrt) (ms : List TMrk) (gs : List TTld) (n7 : Nat) (n8 : Nat) (o7 : Ob) (o8 : Ob) (o17 : Ob) (k : Nat) (q : Nat) (y : TPrt) (h : Nat) (hp : HL) : St := ⟨[(2, V.ptr 0 2 [] 0 0), (3, V.ptr 0 3 [] 0 0), (4, V.mp 0 17 none), (6, V.ptr 0 6 [] 0 0), (7, V.msl 0 7 [] 0 n7), (8, V.msl 0 8 [] 0 n8), (11, V.d (D.int .i64 ((q : Nat) : Int))), (18, V.d (D.sl un (us.map TUnt.c))), (19, V.d (D.int .i64 ((us.length : Nat) : Int))), (20, V.d (D.int .i64 ((i : Nat) : Int))), (25, V.d (D.sl x.parts.nn (x.parts.l.map TPrt.c))), (26, V.d (D.int .i64 ((x.parts.l.length : Nat) : Int))), (27, V.d (D.int .i64 ((k : Nat) : Int))), (74, V.d (D.sl y.pieces.nn (y.pieces.l.map TPce.c))), (75, V.d (D.int .i64 ((y.pieces.l.length : Nat) : Int))), (76, V.d (D.int .i64 ((h : Nat) : Int)))], [(2, Ob.row true 3 true [[C.d (D.sl false []), C.d (D.sl false []), C.d (D.sl false [])]]), (3, Ob.row true 3 true [[C.own 4 false (ps.map OPrt.oc), C.own 9 false (ms.map TMrk.oc), C.own 3 false (gs.map TTld.oc)]]), (6, Ob.row true 3 true [[C.d (D.sl x.parts.nn (x.parts.l.map TPrt.c)), C.d (D.sl x.marks.nn (x.marks.l.map TMrk.c)), C.d (D.sl x.globals.nn (x.globals.l.map TTld.c))]]), (7, o7), (8, o8), (17, o17)] :: hp⟩
def s4e (un : Bool) (us : List TUnt) (i : Nat) (x : TUnt) (ps : List OPrt) (ms : List TMrk) (gs : List TTld) (n7 : Nat) (n8 : Nat) (o7 : Ob) (o8 : Ob) (o17 : Ob) (k : Nat) (q : Nat) (y : TPrt) (h : Nat) (hp : HL) : St := ⟨[(2, V.ptr 0 2 [] 0 0), (3, V.ptr 0 3 [] 0 0), (4, V.mp 0 17 none), (6, V.ptr 0 6 [] 0 0), (7, V.msl 0 7 [] 0 n7), (8, V.msl 0 8 [] 0 n8), (11, V.d (D.int .i64 ((q : Nat) : Int))), (18, V.d (D.sl un (us.map TUnt.c))), (19, V.d (D.int .i64 ((us.length : Nat) : Int))), (20, V.d (D.int .i64 ((i : Nat) : Int))), (25, V.d (D.sl x.parts.nn (x.parts.l.map TPrt.c))), (26, V.d (D.int .i64 ((x.parts.l.length : Nat) : Int))), (27, V.d (D.int .i64 ((k : Nat) : Int))), (74, V.d (D.sl y.pieces.nn (y.pieces.l.map TPce.c))), (75, V.d (D.int .i64 ((y.pieces.l.length : Nat) : Int))), (76, V.d (D.int .i64 ((h : Nat) : Int))), (77, V.d (D.bool false))], [(2, Ob.row true 3 true [[C.d (D.sl false []), C.d (D.sl false []), C.d (D.sl false [])]]), (3, Ob.row true 3 true [[C.own 4 false (ps.map OPrt.oc), C.own 9 false (ms.map TMrk.oc), C.own 3 false (gs.map TTld.oc)]]), (6, Ob.row true 3 true [[C.d (D.sl x.parts.nn (x.parts.l.map TPrt.c)), C.d (D.sl x.marks.nn (x.marks.l.map TMrk.c)), C.d (D.sl x.globals.nn (x.globals.l.map TTld.c))]]), (7, o7), (8, o8), (17, o17)] :: hp⟩
def s2 (un : Bool) (us : List TUnt) (i : Nat) (x : TUnt) (ps : List OPrt) (ms : List TMrk) (gs : List TTld) (as7 : List Int) (as8 : List Int) (k : Nat) (hp : HL) : St := ⟨[(2, V.ptr 0 2 [] 0 0), (3, V.ptr 0 3 [] 0 0), (4, V.mp 0 17 none), (6, V.ptr 0 6 [] 0 0), (7, V.msl 0 7 [] 0 as7.length), (8, V.msl 0 8 [] 0 as8.length), (18, V.d (D.sl un (us.map TUnt.c))), (19, V.d (D.int .i64 ((us.length : Nat) : Int))), (20, V.d (D.int .i64 ((i : Nat) : Int))), (25, V.d (D.sl x.parts.nn (x.parts.l.map TPrt.c))), (26, V.d (D.int .i64 ((x.parts.l.length : Nat) : Int))), (27, V.d (D.int .i64 ((k : Nat) : Int)))], [(2, Ob.row true 3 true [[C.d (D.sl false []), C.d (D.sl false []), C.d (D.sl false [])]]), (3, Ob.row true 3 true [[C.own 4 false (ps.map OPrt.oc), C.own 9 false (ms.map TMrk.oc), C.own 3 false (gs.map TTld.oc)]]), (6, Ob.row true 3 true [[C.d (D.sl x.parts.nn (x.parts.l.map TPrt.c)), C.d (D.sl x.marks.nn (x.marks.l.map TMrk.c)), C.d (D.sl x.globals.nn (x.globals.l.map TTld.c))]]), (7, Ob.row false 1 false (as7.map icc)), (8, Ob.row false 1 false (as8.map icc)), (17, Ob.map (atOf ps))] :: hp⟩
def s2e (un : Bool) (us : List TUnt) (i : Nat) (x : TUnt) (ps : List OPrt) (ms : List TMrk) (gs : List TTld) (as7 : List Int) (as8 : List Int) (k : Nat) (hp : HL) : St := ⟨[(2, V.ptr 0 2 [] 0 0), (3, V.ptr 0 3 [] 0 0), (4, V.mp 0 17 none), (6, V.ptr 0 6 [] 0 0), (7, V.msl 0 7 [] 0 as7.length), (8, V.msl 0 8 [] 0 as8.length), (18, V.d (D.sl un (us.map TUnt.c))), (19, V.d (D.int .i64 ((us.length : Nat) : Int))), (20, V.d (D.int .i64 ((i : Nat) : Int))), (25, V.d (D.sl x.parts.nn (x.parts.l.map TPrt.c))), (26, V.d (D.int .i64 ((x.parts.l.length : Nat) : Int))), (27, V.d (D.int .i64 ((k : Nat) : Int))), (28, V.d (D.bool false))], [(2, Ob.row true 3 true [[C.d (D.sl false []), C.d (D.sl false []), C.d (D.sl false [])]]), (3, Ob.row true 3 true [[C.own 4 false (ps.map OPrt.oc), C.own 9 false (ms.map TMrk.oc), C.own 3 false (gs.map TTld.oc)]]), (6, Ob.row true 3 true [[C.d (D.sl x.parts.nn (x.parts.l.map TPrt.c)), C.d (D.sl x.marks.nn (x.marks.l.map TMrk.c)), C.d (D.sl x.globals.nn (x.globals.l.map TTld.c))]]), (7, Ob.row false 1 false (as7.map icc)), (8, Ob.row false 1 false (as8.map icc)), (17, Ob.map (atOf ps))] :: hp⟩
def s6 (un : Bool) (us : List TUnt) (i : Nat) (x : TUnt) (ps : List OPrt) (ms : List TMrk) (gs : List TTld) (as7 : List Int) (as8 : List Int) (h : Nat) (hp : HL) : St := ⟨[(2, V.ptr 0 2 [] 0 0), (3, V.ptr 0 3 [] 0 0), (4, V.mp 0 17 none), (6, V.ptr 0 6 [] 0 0), (7, V.msl 0 7 [] 0 as7.length), (8, V.msl 0 8 [] 0 as8.length), (18, V.d (D.sl un (us.map TUnt.c))), (19, V.d (D.int .i64 ((us.length : Nat) : Int))), (20, V.d (D.int .i64 ((i : Nat) : Int))), (105, V.d (D.sl x.marks.nn (x.marks.l.map TMrk.c))), (106, V.d (D.int .i64 ((x.marks.l.length : Nat) : Int))), (107, V.d (D.int .i64 ((h : Nat) : Int)))], [(2, Ob.row true 3 true [[C.d (D.sl false []), C.d (D.sl false []), C.d (D.sl false [])]]), (3, Ob.row true 3 true [[C.own 4 false (ps.map OPrt.oc), C.own 9 false (ms.map TMrk.oc), C.own 3 false (gs.map TTld.oc)]]), (6, Ob.row true 3 true [[C.d (D.sl x.parts.nn (x.parts.l.map TPrt.c)), C.d (D.sl x.marks.nn (x.marks.l.map TMrk.c)), C.d (D.sl x.globals.nn (x.globals.l.map TTld.c))]]), (7, Ob.row false 1 false (as7.map icc)), (8, Ob.row false 1 false (as8.map icc)), (17, Ob.map (atOf ps))] :: hp⟩
def s6e (un : Bool) (us : List TUnt) (i : Nat) (x : TUnt) (ps : List OPrt) (ms : List TMrk) (gs : List TTld) (as7 : List Int) (as8 : List Int) (h : Nat) (hp : HL) : St := ⟨[(2, V.ptr 0 2 [] 0 0), (3, V.ptr 0 3 [] 0 0), (4, V.mp 0 17 none), (6, V.ptr 0 6 [] 0 0), (7, V.msl 0 7 [] 0 as7.length), (8, V.msl 0 8 [] 0 as8.length), (18, V.d (D.sl un (us.map TUnt.c))), (19, V.d (D.int .i64 ((us.length : Nat) : Int))), (20, V.d (D.int .i64 ((i : Nat) : Int))), (105, V.d (D.sl x.marks.nn (x.marks.l.map TMrk.c))), (106, V.d (D.int .i64 ((x.marks.l.length : Nat) : Int))), (107, V.d (D.int .i64 ((h : Nat) : Int))), (108, V.d (D.bool false))], [(2, Ob.row true 3 true [[C.d (D.sl false []), C.d (D.sl false []), C.d (D.sl false [])]]), (3, Ob.row true 3 true [[C.own 4 false (ps.map OPrt.oc), C.own 9 false (ms.map TMrk.oc), C.own 3 false (gs.map TTld.oc)]]), (6, Ob.row true 3 true [[C.d (D.sl x.parts.nn (x.parts.l.map TPrt.c)), C.d (D.sl x.marks.nn (x.marks.l.map TMrk.c)), C.d (D.sl x.globals.nn (x.globals.l.map TTld.c))]]), (7, Ob.row false 1 false (as7.map icc)), (8, Ob.row false 1 false (as8.map icc)), (17, Ob.map (atOf ps))] :: hp⟩
def s0 (un : Bool) (us : List TUnt) (i : Nat) (ps : List OPrt) (ms : List TMrk) (gs : List TTld) (hp : HL) : St := ⟨[(2, V.ptr 0 2 [] 0 0), (3, V.ptr 0 3 [] 0 0), (4, V.mp 0 17 none), (18, V.d (D.sl un (us.map TUnt.c))), (19, V.d (D.int .i64 ((us.length : Nat) : Int))), (20, V.d (D.int .i64 ((i : Nat) : Int)))], [(2, Ob.row true 3 true [[C.d (D.sl false []), C.d (D.sl false []), C.d (D.sl false [])]]), (3, Ob.row true 3 true [[C.own 4 false (ps.map OPrt.oc), C.own 9 false (ms.map TMrk.oc), C.own 3 false (gs.map TTld.oc)]]), (17, Ob.map (atOf ps))] :: hp⟩
def s0e (un : Bool) (us : List TUnt) (i : Nat) (ps : List OPrt) (ms : List TMrk) (gs : List TTld) (hp : HL) : St := ⟨[(2, V.ptr 0 2 [] 0 0), (3, V.ptr 0 3 [] 0 0), (4, V.mp 0 17 none), (18, V.d (D.sl un (us.map TUnt.c))), (19, V.d (D.int .i64 ((us.length : Nat) : Int))), (20, V.d (D.int .i64 ((i : Nat) : Int))), (21, V.d (D.bool false))], [(2, Ob.row true 3 true [[C.d (D.sl false []), C.d (D.sl false []), C.d (D.sl false [])]]), (3, Ob.row true 3 true [[C.own 4 false (ps.map OPrt.oc), C.own 9 false (ms.map TMrk.oc), C.own 3 false (gs.map TTld.oc)]]), (17, Ob.map (atOf ps))] :: hp⟩
theorem Ev.to {p : Pg} {c : IR} {st st1 st2 : St} {ex : Ex} (h : Ev p c st ex st1) (e : st1 = st2) : Ev p c st ex st2 := e ▸ h
theorem ltd {a b : Nat} (h : a < b) : decide ((a : Int) < (b : Int)) = true := by simp; omega
theorem nltd (a : Nat) : decide ((a : Int) < (a : Int)) = false := by simp
theorem cln_oc (x : TPce) : x.cln.oc = [C.d (D.int .i64 x.kind), C.d (D.int .i64 x.file), C.d (D.int .i64 x.line), C.d (D.str x.l.name), C.d (D.sl x.l.opers.cl.nn (x.l.opers.cl.l.map TOpr.c)), C.d (D.int .i64 x.v.add), C.d (D.str x.v.plus), C.d (D.str x.v.minus), C.d (D.int .i64 x.size), C.d (D.sl x.b.cl.nn (x.b.cl.l.map u8c)), C.d (D.int .i64 x.align)] := rfl
theorem addAll_nil (ps : List OPrt) (q : Nat) : ps.modify q (·.addAll []) = ps := by
  apply List.ext_getElem?
  intro i
  rw [List.getElem?_modify]
  by_cases h : q = i
  · subst h; cases ps[q]? <;> simp [OPrt.addAll]
  · simp [h]
theorem addAll_add (ps : List OPrt) (q : Nat) (l : List TPce) (x : TPce) : (ps.modify q (·.addAll l)).modify q (·.add x) = ps.modify q (·.addAll (l ++ [x])) := by
  apply List.ext_getElem?
  intro i
  simp only [List.getElem?_modify]
  by_cases h : q = i
  · subst h; cases ps[q]? <;> simp [OPrt.addAll, OPrt.add]
  · simp [h]
theorem at_addAll (l : List TPce) : ∀ (ps : List OPrt) (i : Nat), atOf (ps.modify i (·.addAll l)) = atOf ps := by
  intro ps i
  suffices h : ∀ (ps : List OPrt) (i j : Nat), atGo j (ps.modify i (·.addAll l)) = atGo j ps from h ps i 0
  intro ps
  induction ps with
  | nil => intro i j; cases i <;> rfl
  | cons p ps ih =>
    intro i j
    cases i with
    | zero => rfl
    | succ i => simp only [List.modify_succ_cons, atGo, ih]
theorem l16a (un : Bool) (us : List TUnt) (i : Nat) (x : TUnt) (ps : List OPrt) (ms : List TMrk) (gs : List TTld) (n7 n8 : Nat) (o7 o8 o17 : Ob) (k q : Nat) (y : TPrt) (hp : HL)
    (hq : q < ps.length) (hk : ps[q].pieces.length + y.pieces.l.length < 2 ^ 29) (hy : ∀ x ∈ y.pieces.l, x.ok) :
    Lp pg i16_l4 (s4 un us i x ps ms gs n7 n8 o7 o8 o17 k q y 0 hp) (.exit 4) (s4e un us i x (ps.modify q (·.addAll (y.pieces.l.map TPce.cln))) ms gs n7 n8 o7 o8 o17 k q y y.pieces.l.length hp) := by
  have key := Lp.count (p := pg) (b := i16_l4) (id := 4) (n := y.pieces.l.length) (S := fun h => s4 un us i x (ps.modify q (·.addAll ((y.pieces.l.take h).map TPce.cln))) ms gs n7 n8 o7 o8 o17 k q y h hp)
    (T := s4e un us i x (ps.modify q (·.addAll (y.pieces.l.map TPce.cln))) ms gs n7 n8 o7 o8 o17 k q y y.pieces.l.length hp)
    (fun h hh => ?_) (by rw [List.take_length]; exact w16a_0 un us i x _ ms gs n7 n8 o7 o8 o17 k q y y.pieces.l.length hp (nltd _))
  · simpa only [List.take_zero, List.map_nil, addAll_nil] using key
  · have hg : y.pieces.l[h]? = some y.pieces.l[h] := List.getElem?_eq_getElem hh
    have hp2 : (ps.modify q (·.addAll ((y.pieces.l.take h).map TPce.cln)))[q]? = some (ps[q].addAll ((y.pieces.l.take h).map TPce.cln)) := by
      rw [List.getElem?_modify, List.getElem?_eq_getElem hq]; simp
    have hb := hy _ (List.getElem_mem hh)
    refine (w16a_1 un us i x (ps.modify q (·.addAll ((y.pieces.l.take h).map TPce.cln))) ms gs n7 n8 o7 o8 o17 k q y h hp y.pieces.l[h] (ps[q].addAll ((y.pieces.l.take h).map TPce.cln)) (ltd hh) (map_get (f := TPce.c) hg) (f32 _ [] hb.1) (f33 _ [] hb.2) (by simpa using hq)
      (cellAtM hp2 rfl) rfl (by simp [OPrt.addAll, room_eq]; omega) (by simp) (sc_get hp2)).to ?_
    rw [← cln_oc, sc_put hp2, addAll_add, wrap64 (by omega) (by omega)]
    have e : (y.pieces.l.take h).map TPce.cln ++ [(y.pieces.l[h]).cln] = (y.pieces.l.take (h + 1)).map TPce.cln := by
      rw [List.take_succ_eq_append_getElem hh, List.map_append]; rfl
    rw [e]
    rfl
end Go.Proofs.YtgmphfmoonbfpaaMv

namespace Go.Proofs.YtgmphfmoonbfpaaMv
open Go
theorem sum_take_get {α : Type} (f : α → Nat) (l : List α) (k : Nat) (h : k < l.length) : ((l.take k).map f).sum + f l[k] ≤ (l.map f).sum := by
  have e : l = l.take k ++ l[k] :: l.drop (k + 1) := by simp
  have : (l.map f).sum = ((l.take k).map f).sum + (f l[k] + ((l.drop (k + 1)).map f).sum) := by
    conv => lhs; rw [e]
    rw [List.map_append, List.sum_append, List.map_cons, List.sum_cons]
  omega
theorem foldl_take_succ {α β : Type} (f : β → α → β) (b : β) (l : List α) (k : Nat) (h : k < l.length) : (l.take (k + 1)).foldl f b = f ((l.take k).foldl f b) l[k] := by
  rw [List.take_succ_eq_append_getElem h, List.foldl_append]; rfl
theorem l16b (un : Bool) (us : List TUnt) (i : Nat) (x : TUnt) (ps : List OPrt) (ms : List TMrk) (gs : List TTld) (hp : HL) (K : Nat)
    (hK : psLe ps K) (hw : K + (x.parts.l.map TPrt.wt).sum < 2 ^ 28) (ok : x.ok) :
    Lp pg i16_l2 (s2 un us i x ps ms gs [] [] 0 hp) (.exit 2)
      (s2e un us i x (x.parts.l.foldl JP.step ⟨ps, [], []⟩).ps ms gs (x.parts.l.foldl JP.step ⟨ps, [], []⟩).a7 (x.parts.l.foldl JP.step ⟨ps, [], []⟩).a8 x.parts.l.length hp) := by
  refine Lp.count (p := pg) (b := i16_l2) (id := 2) (n := x.parts.l.length) (S := fun k => s2 un us i x ((x.parts.l.take k).foldl JP.step ⟨ps, [], []⟩).ps ms gs ((x.parts.l.take k).foldl JP.step ⟨ps, [], []⟩).a7 ((x.parts.l.take k).foldl JP.step ⟨ps, [], []⟩).a8 k hp)
    (fun k hk => ?_) (by rw [List.take_length]; exact w16b_0 un us i x _ ms gs _ _ x.parts.l.length hp (nltd _))
  have hj := psLe.fold (x.parts.l.take k) ⟨ps, [], []⟩ K hK
  have h7 := JP.len7 (x.parts.l.take k) ⟨ps, [], []⟩
  have h8 := JP.len8 (x.parts.l.take k) ⟨ps, [], []⟩
  have hsum := sum_take_get TPrt.wt x.parts.l k hk
  have hpn := ok _ (List.getElem_mem hk)
  have hg : x.parts.l[k]? = some x.parts.l[k] := List.getElem?_eq_getElem hk
  have hlt : x.parts.l.length ≤ (x.parts.l.map TPrt.wt).sum := by
    have : ∀ l : List TPrt, l.length ≤ (l.map TPrt.wt).sum := by
      intro l; induction l with
      | nil => simp
      | cons p l ih => simp [TPrt.wt]; omega
    exact this _
  simp only [foldl_take_succ JP.step _ _ k hk]
  generalize hjd : (x.parts.l.take k).foldl JP.step ⟨ps, [], []⟩ = j at *
  generalize hpd : x.parts.l[k] = p at *
  have hwt : p.wt = p.pieces.l.length + 1 := rfl
  simp only [List.length_nil, Nat.zero_add, List.length_take] at h7 h8
  cases hi : idxGo p.name 0 j.ps with
  | none =>
    have he : ensure j.ps p = j.ps ++ [p.new] := by simp [ensure, hi]
    have hx : pidx j.ps p = j.ps.length := by simp [pidx, hi]
    have hpl : plenAt (j.ps ++ [p.new]) j.ps.length = 0 := by simp [plenAt, TPrt.new]
    have c2 : findD false [2] (D.str p.name) (atOf j.ps) = some none := (find_at p.name j.ps 0).trans (by rw [hi]; rfl)
    have c4 := put_at p.new j.ps 0 hi
    have hl := l16a un us i x (j.ps ++ [p.new]) ms gs (j.a7.length + 1) (j.a8.length + 1) (Ob.row false 1 false ((j.a7.map icc) ++ [[C.d (D.int .i64 ((j.ps.length : Nat) : Int))]])) (Ob.row false 1 false ((j.a8.map icc) ++ [[C.d (D.int .i64 ((0 : Nat) : Int))]]))
      (Ob.map (atOf (j.ps ++ [p.new]))) k j.ps.length p hp (by simp) (by simp [TPrt.new]; omega) hpn
    simp only [s4, s4e, List.map_append, List.map_cons, List.map_nil] at hl
    refine (w16b_1 un us i x j.ps ms gs j.a7 j.a8 k hp p (atOf (j.ps ++ [p.new])) p.new ((j.ps ++ [p.new]).modify j.ps.length (·.addAll (p.pieces.l.map TPce.cln))) (ltd hk) (map_get (f := TPrt.c) hg) c2 (by rw [c2]; rfl)
      (by simpa [atOf, TPrt.new] using c4) rfl (by have := hj.len; simp [room_eq]; omega) (by simp) rfl (by simp) (by simp [room_eq]; omega) (by simp) (by simp [cellAt, TPrt.new]) rfl (by simp) (by simp [room_eq]; omega) (by simp only [List.length_map]; exact hl)).to ?_
    rw [wrap64 (by omega) (by omega)]
    simp [s2, JP.step, he, hx, hpl, icc, show p.new.pieces = [] from rfl, at_addAll]
  | some q =>
    have he : ensure j.ps p = j.ps := by simp [ensure, hi]
    have hx : pidx j.ps p = q := by simp [pidx, hi]
    obtain ⟨_, hq, _⟩ := idxGo_lt _ _ _ _ hi
    have hq : q < j.ps.length := by omega
    have hpq : j.ps[q]? = some j.ps[q] := List.getElem?_eq_getElem hq
    have hpl : plenAt j.ps q = j.ps[q].pieces.length := by simp [plenAt, hpq]
    have c2 : findD false [2] (D.str p.name) (atOf j.ps) = some (some (D.int .i64 ((q : Nat) : Int))) := (find_at p.name j.ps 0).trans (by rw [hi]; rfl)
    have hb := hj.pieces _ (List.getElem_mem hq)
    have hl := l16a un us i x j.ps ms gs (j.a7.length + 1) (j.a8.length + 1) (Ob.row false 1 false ((j.a7.map icc) ++ [[C.d (D.int .i64 ((q : Nat) : Int))]])) (Ob.row false 1 false ((j.a8.map icc) ++ [[C.d (D.int .i64 ((j.ps[q].pieces.length : Nat) : Int))]]))
      (Ob.map (atOf j.ps)) k q p hp hq (by omega) hpn
    refine (w16b_2 un us i x j.ps ms gs j.a7 j.a8 k hp p q j.ps[q] (j.ps.modify q (·.addAll (p.pieces.l.map TPce.cln))) (ltd hk) (map_get (f := TPrt.c) hg) c2
      rfl (by simp) (by simp [room_eq]; omega) (by simpa using hq) (cellAtM hpq rfl) rfl (by simp) (by simp [room_eq]; omega) (by simp only [List.length_map]; exact hl)).to ?_
    rw [wrap64 (by omega) (by omega)]
    simp [s2, JP.step, he, hx, hpl, icc, at_addAll]
theorem l16c (un : Bool) (us : List TUnt) (i : Nat) (x : TUnt) (ps : List OPrt) (ms : List TMrk) (gs : List TTld) (as7 as8 : List Int) (hp : HL)
    (h78 : as8.length = as7.length) (hw : ms.length + x.marks.l.length < 2 ^ 28) :
    Lp pg i16_l6 (s6 un us i x ps ms gs as7 as8 0 hp) (.exit 6) (s6e un us i x ps (ms ++ x.marks.l.map (markJ as7 as8)) gs as7 as8 x.marks.l.length hp) := by
  have key := Lp.count (p := pg) (b := i16_l6) (id := 6) (n := x.marks.l.length) (S := fun h => s6 un us i x ps (ms ++ (x.marks.l.take h).map (markJ as7 as8)) gs as7 as8 h hp)
    (T := s6e un us i x ps (ms ++ x.marks.l.map (markJ as7 as8)) gs as7 as8 x.marks.l.length hp)
    (fun h hh => ?_) (by rw [List.take_length]; exact w16c_0 un us i x ps _ gs as7 as8 x.marks.l.length hp (nltd _))
  · simpa only [List.take_zero, List.map_nil, List.append_nil] using key
  · have hg : x.marks.l[h]? = some x.marks.l[h] := List.getElem?_eq_getElem hh
    have e : (x.marks.l.take (h + 1)).map (markJ as7 as8) = (x.marks.l.take h).map (markJ as7 as8) ++ [markJ as7 as8 x.marks.l[h]] := by
      rw [List.take_succ_eq_append_getElem hh, List.map_append]; rfl
    rw [e, ← List.append_assoc]
    have hl : (ms ++ (x.marks.l.take h).map (markJ as7 as8)).length < 2 ^ 28 := by simp; omega
    generalize ms ++ (x.marks.l.take h).map (markJ as7 as8) = m1 at hl ⊢
    generalize x.marks.l[h] = y at hg ⊢
    have hr : (((m1.map TMrk.oc).length) + 1) * 96 ≤ room := by simp [room_eq]; omega
    by_cases h0 : 0 ≤ y.part
    · by_cases h1 : y.part < (as7.length : Int)
      · have hk : y.part.toNat < as7.length := by omega
        have hk8 : y.part.toNat < as8.length := by omega
        have g7 : as7[y.part.toNat]? = some as7[y.part.toNat] := List.getElem?_eq_getElem hk
        have g8 : as8[y.part.toNat]? = some as8[y.part.toNat] := List.getElem?_eq_getElem hk8
        refine (w16c_3 un us i x ps m1 gs as7 as8 h hp y y.part.toNat as7[y.part.toNat] as8[y.part.toNat] (ltd hh) (map_get (f := TMrk.c) hg) (by simpa using h0) (by simpa using h1) (by omega) hk (cellAtM g7 rfl) hk8 (cellAtM g8 rfl) rfl hr (by simp)).to ?_
        rw [wrap64 (by omega) (by omega)]
        have em : markJ as7 as8 y = { y with part := as7[y.part.toNat], piece := IntKind.i64.wrap (y.piece + as8[y.part.toNat]) } := by simp [markJ, h0, h1, g7, g8]
        rw [em]
        simp only [s6, List.map_append]
        rfl
      · refine (w16c_2 un us i x ps m1 gs as7 as8 h hp y (ltd hh) (map_get (f := TMrk.c) hg) (by simpa using h0) (by simpa using h1) rfl hr (by simp)).to ?_
        rw [wrap64 (by omega) (by omega)]
        have em : markJ as7 as8 y = { y with part := -1, piece := 0 } := by simp [markJ, h0, h1]
        rw [em]
        simp only [s6, List.map_append]
        rfl
    · refine (w16c_1 un us i x ps m1 gs as7 as8 h hp y (ltd hh) (map_get (f := TMrk.c) hg) (by simpa using h0) rfl hr (by simp)).to ?_
      rw [wrap64 (by omega) (by omega)]
      have em : markJ as7 as8 y = { y with part := -1, piece := 0 } := by simp [markJ, h0]
      rw [em]
      simp only [s6, List.map_append]
      rfl
structure JU.le (j : JU) (k : Nat) : Prop where
  parts : psLe j.parts k
  marks : j.marks.length ≤ k
  globals : j.globals.length ≤ k
theorem JU.le_join {j : JU} {k : Nat} (h : j.le k) (u : TUnt) : (j.join u).le (k + u.wt) := by
  refine ⟨(psLe.fold u.parts.l ⟨j.parts, [], []⟩ k h.parts).mono (by simp [TUnt.wt]; omega), ?_, ?_⟩
  · have := h.marks; simp [JU.join, TUnt.wt]; omega
  · have := h.globals; simp [JU.join, TUnt.wt]; omega
def wtus (us : List TUnt) : Nat := (us.map TUnt.wt).sum
theorem JU.le_fold : ∀ (us : List TUnt) {j : JU} {k : Nat}, j.le k → (us.foldl JU.join j).le (k + wtus us)
  | [], j, k, h => h
  | u :: us, j, k, h => by
    rw [List.foldl_cons, wtus, List.map_cons, List.sum_cons, ← Nat.add_assoc]
    exact JU.le_fold us (j.le_join h u)
theorem tld_app (gs l : List TTld) : gs.map TTld.oc ++ List.map (ownify []) (List.map (fun x => List.map C.d x) (l.map TTld.c)) = (gs ++ l).map TTld.oc := by
  rw [List.map_append]
  congr 1
  rw [List.map_map, List.map_map]
  rfl
theorem l16d (un : Bool) (us : List TUnt) (hp : HL) (hw : wtus us < 2 ^ 28) (hl : us.length < 2 ^ 28) (ok : ∀ u ∈ us, u.ok) :
    Lp pg i16_l0 (s0 un us 0 [] [] [] hp) (.exit 0) (s0e un us us.length (joinM us).parts (joinM us).marks (joinM us).globals hp) := by
  refine Lp.count (p := pg) (b := i16_l0) (id := 0) (n := us.length) (S := fun i => s0 un us i (joinM (us.take i)).parts (joinM (us.take i)).marks (joinM (us.take i)).globals hp)
    (fun i hi => ?_) (by rw [List.take_length]; exact w16d_0 un us us.length _ _ _ hp (nltd _))
  have hj : (joinM (us.take i)).le (0 + wtus (us.take i)) := JU.le_fold (us.take i) ⟨⟨by simp, by simp⟩, by simp, by simp⟩
  have hsum := sum_take_get TUnt.wt us i hi
  have hok := ok _ (List.getElem_mem hi)
  have hg : us[i]? = some us[i] := List.getElem?_eq_getElem hi
  have e : joinM (us.take (i + 1)) = (joinM (us.take i)).join us[i] := foldl_take_succ _ _ _ _ hi
  rw [e]
  simp only [wtus] at hw hj
  generalize joinM (us.take i) = j at hj ⊢
  generalize hu : us[i] = u at hsum hok hg ⊢
  have hwu : u.wt = (u.parts.l.map TPrt.wt).sum + u.marks.l.length + u.globals.l.length := rfl
  have h7 := JP.len7 u.parts.l ⟨j.parts, [], []⟩
  have h8 := JP.len8 u.parts.l ⟨j.parts, [], []⟩
  have h2 := l16b un us i u j.parts j.marks j.globals hp _ hj.parts (by omega) hok
  have h6 := l16c un us i u (u.parts.l.foldl JP.step ⟨j.parts, [], []⟩).ps j.marks j.globals (u.parts.l.foldl JP.step ⟨j.parts, [], []⟩).a7 (u.parts.l.foldl JP.step ⟨j.parts, [], []⟩).a8 hp (by rw [h7, h8]) (by have := hj.marks; omega)
  refine (w16d_1 un us i j.parts j.marks j.globals hp u _ _ _ _ (ltd hi) (map_get (f := TUnt.c) hg) (by simp only [List.length_map]; exact h2) (by simp only [List.length_map]; exact h6) (all_len (f := TTld.c) (fun _ => rfl) _) (by have := hj.globals; simp [room_eq]; omega) (by simp)).to ?_
  rw [wrap64 (by omega) (by omega), tld_app]
  rfl
theorem f16 (un : Bool) (us : List TUnt) (hp : HL) (hw : wtus us < 2 ^ 28) (hl : us.length < 2 ^ 28) (ok : ∀ u ∈ us, u.ok) :
    Rn pg 16 [V.d (D.sl un (us.map TUnt.c))] hp (V.d (D.agg (joinM us).unt.c)) hp := by
  have h0 := l16d un us hp hw hl ok
  have r := w16_0 un us hp (joinM us).parts (joinM us).marks (joinM us).globals (by simp only [List.length_map]; exact h0) (by simp only [fzBs, fzB, fzC, Option.bind_some, Option.map_some, fzCss_map fzPrt, fzCss_map fzMrk, fzCss_map fzTld])
  have e : (joinM us).unt.c = [D.sl false ((joinM us).parts.map (fun p => TPrt.c p.t)), D.sl false ((joinM us).marks.map TMrk.c), D.sl false ((joinM us).globals.map TTld.c)] := by
    simp only [JU.unt, TUnt.c, List.map_map]; rfl
  rw [e]
  exact r
end Go.Proofs.YtgmphfmoonbfpaaMv

namespace Go.Proofs.YtgmphfmoonbfpaaMv
open Go
theorem wrap_add (a b : Int) : IntKind.i64.wrap (IntKind.i64.wrap a + b) = IntKind.i64.wrap (a + b) := by
  simp only [IntKind.wrap, IntKind.signed, IntKind.bits, Bool.true_and]
  split <;> split <;> split <;> simp_all <;> omega
def addP (ps : List OPrt) (p : OPrt) : List OPrt := match idxGo p.name 0 ps with
  | some k => ps.modify k (·.addAll p.pieces)
  | none => ps ++ [p]
def Dn (ps : List OPrt) : Prop := (ps.map (·.name)).Nodup
theorem idx_append (nm : List UInt8) : ∀ (a b : List OPrt) (i : Nat), idxGo nm i (a ++ b) = match idxGo nm i a with | some k => some k | none => idxGo nm (i + a.length) b
  | [], b, i => rfl
  | p :: a, b, i => by
    simp only [List.cons_append, idxGo]
    split
    · rfl
    · rw [idx_append nm a b, List.length_cons, show i + 1 + a.length = i + (a.length + 1) by omega]
theorem idx_names (nm : List UInt8) : ∀ (a b : List OPrt) (i : Nat), a.map (·.name) = b.map (·.name) → idxGo nm i a = idxGo nm i b
  | [], [], i, _ => rfl
  | [], q :: b, i, h => by simp at h
  | p :: a, [], i, h => by simp at h
  | p :: a, q :: b, i, h => by
    simp only [List.map_cons, List.cons.injEq] at h
    simp only [idxGo, h.1, idx_names nm a b (i + 1) h.2]
theorem names_modify (ps : List OPrt) (k : Nat) (l : List TPce) : (ps.modify k (·.addAll l)).map (·.name) = ps.map (·.name) := by
  apply List.ext_getElem?
  intro i
  simp only [List.getElem?_map, List.getElem?_modify]
  by_cases h : k = i
  · subst h; cases ps[k]? <;> simp [OPrt.addAll]
  · simp [h]
theorem idx_modify (nm : List UInt8) (ps : List OPrt) (k i : Nat) (l : List TPce) : idxGo nm i (ps.modify k (·.addAll l)) = idxGo nm i ps := idx_names _ _ _ _ (names_modify _ _ _)
theorem idx_none_iff (nm : List UInt8) : ∀ (ps : List OPrt) (i : Nat), idxGo nm i ps = none ↔ ∀ p ∈ ps, p.name ≠ nm
  | [], i => by simp [idxGo]
  | p :: ps, i => by
    simp only [idxGo, List.mem_cons, forall_eq_or_imp]
    by_cases h : nm == p.name
    · simp only [h, if_true]
      have : p.name = nm := (show nm = p.name by simpa using h).symm
      simp [this]
    · simp only [h, Bool.false_eq_true, if_false, idx_none_iff nm ps]
      have : p.name ≠ nm := fun e => h (by simp [e])
      simp [this]
theorem idx_get {nm : List UInt8} {ps : List OPrt} {k : Nat} (h : idxGo nm 0 ps = some k) : ∃ p, ps[k]? = some p ∧ p.name = nm ∧ k < ps.length := by
  obtain ⟨_, h2, p, h3, h4⟩ := idxGo_lt _ _ _ _ h
  exact ⟨p, h3, h4, by omega⟩
theorem addP_some {ps : List OPrt} {p : OPrt} {k : Nat} (h : idxGo p.name 0 ps = some k) : addP ps p = ps.modify k (·.addAll p.pieces) := by simp [addP, h]
theorem addP_none {ps : List OPrt} {p : OPrt} (h : idxGo p.name 0 ps = none) : addP ps p = ps ++ [p] := by simp [addP, h]
theorem idx_stay {nm : List UInt8} {ps : List OPrt} {k : Nat} (h : idxGo nm 0 ps = some k) (p : OPrt) : idxGo nm 0 (addP ps p) = some k := by
  cases hp : idxGo p.name 0 ps with
  | some j => rw [addP_some hp, idx_modify, h]
  | none => rw [addP_none hp, idx_append, h]
theorem idx_stays {nm : List UInt8} {k : Nat} : ∀ (l : List OPrt) {ps : List OPrt}, idxGo nm 0 ps = some k → idxGo nm 0 (l.foldl addP ps) = some k
  | [], ps, h => h
  | p :: l, ps, h => idx_stays l (idx_stay h p)
def pidxO (ps : List OPrt) (p : OPrt) : Nat := (idxGo p.name 0 ps).getD ps.length
theorem idx_own (ps : List OPrt) (p : OPrt) : idxGo p.name 0 (addP ps p) = some (pidxO ps p) := by
  cases hp : idxGo p.name 0 ps with
  | some j => rw [idx_stay hp, pidxO, hp]; rfl
  | none => rw [addP_none hp, idx_append, hp, pidxO, hp]; simp [idxGo]
theorem dn_add {ps : List OPrt} (h : Dn ps) (p : OPrt) : Dn (addP ps p) := by
  cases hp : idxGo p.name 0 ps with
  | some j => rw [addP_some hp, Dn, names_modify]; exact h
  | none =>
    rw [addP_none hp, Dn, List.map_append, List.nodup_append]
    refine ⟨h, by simp, fun a ha b hb => ?_⟩
    simp only [List.mem_map] at ha
    obtain ⟨q, hq, rfl⟩ := ha
    simp only [List.map_cons, List.map_nil, List.mem_singleton] at hb
    subst hb
    exact (idx_none_iff _ _ _).1 hp q hq
theorem dn_fold : ∀ (l : List OPrt) {ps : List OPrt}, Dn ps → Dn (l.foldl addP ps)
  | [], _, h => h
  | p :: l, _, h => dn_fold l (dn_add h p)
theorem addAll_addAll (ps : List OPrt) (k : Nat) (a b : List TPce) : (ps.modify k (·.addAll a)).modify k (·.addAll b) = ps.modify k (·.addAll (a ++ b)) := by
  apply List.ext_getElem?
  intro i
  simp only [List.getElem?_modify]
  by_cases h : k = i
  · subst h; cases ps[k]? <;> simp [OPrt.addAll]
  · simp [h]
theorem addAll_comm (ps : List OPrt) (k j : Nat) (a b : List TPce) (hkj : k ≠ j) : (ps.modify k (·.addAll a)).modify j (·.addAll b) = (ps.modify j (·.addAll b)).modify k (·.addAll a) := by
  apply List.ext_getElem?
  intro i
  simp only [List.getElem?_modify]
  by_cases h : k = i
  · subst h
    simp [Ne.symm hkj]
  · by_cases h' : j = i
    · subst h'; simp [h]
    · simp [h, h']
theorem modify_append_lt (a b : List OPrt) (k : Nat) (l : List TPce) (h : k < a.length) : (a ++ b).modify k (·.addAll l) = a.modify k (·.addAll l) ++ b := by
  apply List.ext_getElem?
  intro i
  simp only [List.getElem?_modify, List.getElem?_append, List.length_modify]
  by_cases hi : i < a.length
  · simp [hi]
  · have : k ≠ i := by omega
    simp [hi, this]
theorem modify_append_self (a : List OPrt) (p : OPrt) (b : List OPrt) (l : List TPce) : (a ++ p :: b).modify a.length (·.addAll l) = a ++ p.addAll l :: b := by
  apply List.ext_getElem?
  intro i
  simp only [List.getElem?_modify, List.getElem?_append]
  by_cases hi : i < a.length
  · have : a.length ≠ i := by omega
    simp [hi, this]
  · by_cases h : a.length = i
    · subst h; simp
    · obtain ⟨n, hn⟩ : ∃ n, i - a.length = n + 1 := ⟨i - a.length - 1, by omega⟩
      simp [hi, h, hn]
theorem addP_same (s : List OPrt) (p q : OPrt) (h : p.name = q.name) : addP s (p.addAll q.pieces) = addP (addP s p) q := by
  have hn : (p.addAll q.pieces).name = p.name := rfl
  cases hp : idxGo p.name 0 s with
  | some k =>
    have h2 := idx_stay hp p
    rw [addP_some (p := p.addAll q.pieces) (by rw [hn]; exact hp), addP_some (p := q) (by rw [← h]; exact h2), addP_some hp, addAll_addAll]
    rfl
  | none =>
    have h2 := idx_own s p
    rw [addP_none (p := p.addAll q.pieces) (by rw [hn]; exact hp), addP_some (p := q) (by rw [← h]; exact h2), addP_none hp, pidxO, hp]
    exact (modify_append_self s p [] q.pieces).symm
theorem addP_comm (s : List OPrt) (q r : OPrt) (k : Nat) (hq : idxGo q.name 0 s = some k) (h : r.name ≠ q.name) : addP (addP s q) r = addP (addP s r) q := by
  obtain ⟨x, hx, hxn, hk⟩ := idx_get hq
  rw [addP_some (p := q) (idx_stay hq r)]
  cases hr : idxGo r.name 0 s with
  | some j =>
    obtain ⟨y, hy, hyn, _⟩ := idx_get hr
    rw [addP_some (p := r) (idx_stay hr q), addP_some hq, addP_some hr]
    refine addAll_comm _ _ _ _ _ fun e => ?_
    subst e
    rw [hx] at hy
    cases hy
    exact h (hyn.symm.trans hxn)
  | none =>
    rw [addP_some hq, addP_none (p := r) (by rw [idx_modify]; exact hr), addP_none hr, modify_append_lt _ _ _ _ hk]
theorem addP_comms (q : OPrt) (k : Nat) : ∀ (l : List OPrt) (s : List OPrt), idxGo q.name 0 s = some k → (∀ r ∈ l, r.name ≠ q.name) → l.foldl addP (addP s q) = addP (l.foldl addP s) q
  | [], s, _, _ => rfl
  | r :: l, s, hq, h => by
    rw [List.foldl_cons, List.foldl_cons, addP_comm s q r k hq (h r List.mem_cons_self)]
    exact addP_comms q k l _ (idx_stay hq r) (fun x hx => h x (List.mem_cons_of_mem _ hx))
theorem fold_add (s T : List OPrt) (q : OPrt) (hT : Dn T) : (addP T q).foldl addP s = addP (T.foldl addP s) q := by
  cases hq : idxGo q.name 0 T with
  | none => rw [addP_none hq, List.foldl_append]; rfl
  | some k =>
    obtain ⟨p, hp, hpn, hk⟩ := idx_get hq
    have e : T = T.take k ++ p :: T.drop (k + 1) := by
      have : T[k] = p := (List.getElem?_eq_some_iff.1 hp).2
      rw [← this]; simp
    have hl : (T.take k).length = k := by simp; omega
    rw [addP_some hq]
    have e2 : T.modify k (·.addAll q.pieces) = T.take k ++ p.addAll q.pieces :: T.drop (k + 1) := by
      conv => lhs; rw [e]
      have := modify_append_self (T.take k) p (T.drop (k + 1)) q.pieces
      rw [hl] at this
      exact this
    have hd : ∀ r ∈ T.drop (k + 1), r.name ≠ q.name := by
      intro r hr
      rw [Dn, e, List.map_append, List.map_cons, List.nodup_append] at hT
      have h2 := hT.2.1
      rw [List.nodup_cons] at h2
      intro e3
      apply h2.1
      rw [hpn, ← e3]
      exact List.mem_map_of_mem hr
    rw [e2, List.foldl_append, List.foldl_cons, addP_same _ p q hpn]
    conv => rhs; rw [e, List.foldl_append, List.foldl_cons]
    exact addP_comms q _ _ _ (by rw [← hpn]; exact idx_own _ p) hd
theorem fold_fold : ∀ (u s T : List OPrt), Dn T → (u.foldl addP T).foldl addP s = u.foldl addP (T.foldl addP s)
  | [], s, T, _ => rfl
  | q :: u, s, T, h => by rw [List.foldl_cons, List.foldl_cons, fold_fold u s _ (dn_add h q), fold_add s T q h]
def cnt (nm : List UInt8) (ps : List OPrt) : Nat := (ps.map fun p => if p.name = nm then p.pieces.length else 0).sum
theorem cnt_nil (nm : List UInt8) : cnt nm [] = 0 := rfl
theorem cnt_cons (nm : List UInt8) (p : OPrt) (ps : List OPrt) : cnt nm (p :: ps) = (if p.name = nm then p.pieces.length else 0) + cnt nm ps := by simp [cnt]
theorem cnt_append (nm : List UInt8) (a b : List OPrt) : cnt nm (a ++ b) = cnt nm a + cnt nm b := by simp [cnt]
theorem cnt_modify (nm : List UInt8) (l : List TPce) : ∀ (ps : List OPrt) (k : Nat) (p : OPrt), ps[k]? = some p → cnt nm (ps.modify k (·.addAll l)) = cnt nm ps + if p.name = nm then l.length else 0
  | [], k, p, h => by simp at h
  | q :: ps, 0, p, h => by
    simp at h; subst h
    rw [List.modify_zero_cons, cnt_cons, cnt_cons]
    by_cases hn : q.name = nm <;> simp [OPrt.addAll, hn]; omega
  | q :: ps, k + 1, p, h => by
    rw [List.modify_succ_cons, cnt_cons, cnt_cons, cnt_modify nm l ps k p (by simpa using h)]
    omega
theorem cnt_add (nm : List UInt8) (ps : List OPrt) (p : OPrt) : cnt nm (addP ps p) = cnt nm ps + if p.name = nm then p.pieces.length else 0 := by
  cases hp : idxGo p.name 0 ps with
  | some k =>
    obtain ⟨x, hx, hxn, _⟩ := idx_get hp
    rw [addP_some hp, cnt_modify nm _ ps k x hx, hxn]
  | none => rw [addP_none hp, cnt_append, cnt_cons, cnt_nil, Nat.add_zero]
theorem cnt_fold (nm : List UInt8) : ∀ (l ps : List OPrt), cnt nm (l.foldl addP ps) = cnt nm ps + cnt nm l
  | [], ps => by simp [cnt_nil]
  | p :: l, ps => by rw [List.foldl_cons, cnt_fold nm l, cnt_add, cnt_cons]; omega
theorem cnt_absent {nm : List UInt8} : ∀ {ps : List OPrt}, (∀ p ∈ ps, p.name ≠ nm) → cnt nm ps = 0
  | [], _ => rfl
  | p :: ps, h => by
    rw [cnt_cons, if_neg (h p List.mem_cons_self), cnt_absent fun q hq => h q (List.mem_cons_of_mem _ hq)]
theorem cnt_one {nm : List UInt8} : ∀ {ps : List OPrt} {k : Nat} {p : OPrt}, Dn ps → ps[k]? = some p → p.name = nm → cnt nm ps = p.pieces.length
  | [], k, p, _, h, _ => by simp at h
  | q :: ps, 0, p, hd, h, hn => by
    simp at h; subst h
    rw [Dn, List.map_cons, List.nodup_cons] at hd
    rw [cnt_cons, if_pos hn, cnt_absent (fun r hr e => hd.1 (by rw [hn, ← e]; exact List.mem_map_of_mem hr))]
    rfl
  | q :: ps, k + 1, p, hd, h, hn => by
    rw [Dn, List.map_cons, List.nodup_cons] at hd
    have hq : q.name ≠ nm := by
      intro e
      apply hd.1
      rw [e, ← hn]
      exact List.mem_map_of_mem (List.mem_of_getElem? (by simpa using h))
    rw [cnt_cons, if_neg hq, Nat.zero_add]
    exact cnt_one hd.2 (by simpa using h) hn
theorem cnt_take {ps : List OPrt} (hd : Dn ps) {k : Nat} {p : OPrt} (h : ps[k]? = some p) : cnt p.name (ps.take k) = 0 := by
  have hk : k < ps.length := (List.getElem?_eq_some_iff.1 h).1
  have e : ps = ps.take k ++ p :: ps.drop (k + 1) := by
    have : ps[k] = p := (List.getElem?_eq_some_iff.1 h).2
    rw [← this]; simp
  refine cnt_absent fun q hq e2 => ?_
  rw [Dn, e, List.map_append, List.map_cons, List.nodup_append] at hd
  exact hd.2.2 q.name (List.mem_map_of_mem hq) p.name List.mem_cons_self e2
def nums : List OPrt → List OPrt → List Int
  | _, [] => []
  | ps, p :: r => (pidxO ps p : Int) :: nums (addP ps p) r
def bases : List OPrt → List OPrt → List Int
  | _, [] => []
  | ps, p :: r => (cnt p.name ps : Int) :: bases (addP ps p) r
theorem nums_len : ∀ (l ps : List OPrt), (nums ps l).length = l.length
  | [], _ => rfl
  | p :: l, ps => by simp [nums, nums_len l]
theorem nums_get : ∀ (l ps : List OPrt) (i : Nat) (p : OPrt), l[i]? = some p → ∃ k, idxGo p.name 0 (l.foldl addP ps) = some k ∧ (nums ps l)[i]? = some (k : Int)
  | [], _, i, p, h => by simp at h
  | q :: l, ps, 0, p, h => by
    simp at h; subst h
    exact ⟨pidxO ps q, idx_stays l (idx_own ps q), rfl⟩
  | q :: l, ps, i + 1, p, h => by
    obtain ⟨k, h1, h2⟩ := nums_get l (addP ps q) i p (by simpa using h)
    exact ⟨k, h1, by simpa [nums] using h2⟩
theorem bases_get : ∀ (l ps : List OPrt) (i : Nat) (p : OPrt), l[i]? = some p → (bases ps l)[i]? = some ((cnt p.name ps + cnt p.name (l.take i) : Nat) : Int)
  | [], _, i, p, h => by simp at h
  | q :: l, ps, 0, p, h => by
    simp at h; subst h
    simp [bases, cnt_nil]
  | q :: l, ps, i + 1, p, h => by
    have := bases_get l (addP ps q) i p (by simpa using h)
    simp only [bases, List.getElem?_cons_succ, this, List.take_succ_cons, cnt_cons, cnt_add]
    congr 2
    omega
def PJ (s u : JU) : JU := ⟨u.parts.foldl addP s.parts, s.marks ++ u.marks.map (markJ (nums s.parts u.parts) (bases s.parts u.parts)), s.globals ++ u.globals⟩
structure Nm (t : JU) : Prop where
  dn : Dn t.parts
  marks : ∀ m ∈ t.marks, (0 ≤ m.part ∧ m.part < (t.parts.length : Int)) ∨ (m.part = -1 ∧ m.piece = 0)
theorem fold_len : ∀ (l ps : List OPrt), ps.length ≤ (l.foldl addP ps).length
  | [], ps => Nat.le_refl _
  | p :: l, ps => by
    refine Nat.le_trans ?_ (fold_len l (addP ps p))
    cases hp : idxGo p.name 0 ps with
    | some k => rw [addP_some hp, List.length_modify]; exact Nat.le_refl _
    | none => rw [addP_none hp]; simp
theorem markJ_in {a7 a8 : List Int} {x : TMrk} {n b : Int} (h0 : 0 ≤ x.part) (h7 : a7[x.part.toNat]? = some n) (h8 : a8[x.part.toNat]? = some b) : markJ a7 a8 x = { x with part := n, piece := IntKind.i64.wrap (x.piece + b) } := by
  have : x.part.toNat < a7.length := (List.getElem?_eq_some_iff.1 h7).1
  have h : 0 ≤ x.part ∧ x.part < (a7.length : Int) := ⟨h0, by omega⟩
  simp only [markJ, if_pos h, h7, h8, Option.getD_some]
theorem markJ_out {a7 a8 : List Int} {x : TMrk} (h : ¬ (0 ≤ x.part ∧ x.part < (a7.length : Int))) : markJ a7 a8 x = { x with part := -1, piece := 0 } := by
  simp only [markJ, if_neg h]
theorem Nm.pj {t : JU} (h : Nm t) (u : JU) : Nm (PJ t u) := by
  refine ⟨dn_fold u.parts h.dn, fun m hm => ?_⟩
  simp only [PJ, List.mem_append, List.mem_map] at hm
  rcases hm with hm | ⟨x, hx, rfl⟩
  · rcases h.marks m hm with h1 | h1
    · have := fold_len u.parts t.parts
      exact .inl ⟨h1.1, by simp only [PJ]; omega⟩
    · exact .inr h1
  · by_cases hr : 0 ≤ x.part ∧ x.part < (u.parts.length : Int)
    · have hk : x.part.toNat < u.parts.length := by omega
      obtain ⟨k, h1, h2⟩ := nums_get u.parts t.parts x.part.toNat _ (List.getElem?_eq_getElem hk)
      obtain ⟨_, _, _, h3⟩ := idx_get h1
      rw [markJ_in hr.1 h2 (bases_get _ _ _ _ (List.getElem?_eq_getElem hk))]
      exact .inl ⟨by simp, by simp only [PJ]; omega⟩
    · rw [markJ_out (by rw [nums_len]; exact hr)]
      exact .inr ⟨rfl, rfl⟩
theorem fold_name (l : List OPrt) : ∀ (ps : List OPrt) (i : Nat) (p : OPrt), ps[i]? = some p → ∃ q, (l.foldl addP ps)[i]? = some q ∧ q.name = p.name := by
  induction l with
  | nil => exact fun ps i p h => ⟨p, h, rfl⟩
  | cons x l ih =>
    intro ps i p h
    rw [List.foldl_cons]
    have : ∃ q, (addP ps x)[i]? = some q ∧ q.name = p.name := by
      cases hx : idxGo x.name 0 ps with
      | some k =>
        rw [addP_some hx, List.getElem?_modify, h]
        by_cases hk : k = i
        · exact ⟨p.addAll x.pieces, by simp [hk], rfl⟩
        · exact ⟨p, by simp [hk], rfl⟩
      | none => rw [addP_none hx]; exact ⟨p, by rw [List.getElem?_append_left (List.getElem?_eq_some_iff.1 h).1]; exact h, rfl⟩
    obtain ⟨q, h1, h2⟩ := this
    obtain ⟨r, h3, h4⟩ := ih _ i q h1
    exact ⟨r, h3, h4.trans h2⟩
theorem PJ_assoc (s t u : JU) (hs : Nm s) (ht : Nm t) : PJ s (PJ t u) = PJ (PJ s t) u := by
  have hp : (u.parts.foldl addP t.parts).foldl addP s.parts = u.parts.foldl addP (t.parts.foldl addP s.parts) := fold_fold _ _ _ ht.dn
  have hT := dn_fold u.parts ht.dn
  simp only [PJ, hp, List.map_append, List.append_assoc, List.map_map, JU.mk.injEq, true_and, and_true]
  congr 1
  congr 1
  · refine List.map_congr_left fun m hm => ?_
    rcases ht.marks m hm with h1 | h1
    · have hk : m.part.toNat < t.parts.length := by omega
      have hg := List.getElem?_eq_getElem hk
      obtain ⟨q, hq, hqn⟩ := fold_name u.parts t.parts _ _ hg
      obtain ⟨k, k1, k2⟩ := nums_get _ s.parts _ _ hq
      obtain ⟨j, j1, j2⟩ := nums_get t.parts s.parts _ _ hg
      have hkj : k = j := by
        rw [hp, hqn] at k1
        rw [idx_stays u.parts j1] at k1
        exact (Option.some.inj k1).symm
      subst hkj
      have b1 := bases_get _ s.parts _ _ hq
      have b2 := bases_get t.parts s.parts _ _ hg
      rw [cnt_take hT hq, hqn] at b1
      rw [cnt_take ht.dn hg] at b2
      rw [markJ_in h1.1 k2 b1, markJ_in h1.1 j2 b2]
    · rw [markJ_out (by omega), markJ_out (by omega)]
  · refine List.map_congr_left fun m hm => ?_
    simp only [Function.comp_apply]
    by_cases hr : 0 ≤ m.part ∧ m.part < (u.parts.length : Int)
    · have hk : m.part.toNat < u.parts.length := by omega
      have hg := List.getElem?_eq_getElem hk
      obtain ⟨n2, a1, a2⟩ := nums_get u.parts t.parts _ _ hg
      have b2 := bases_get u.parts t.parts _ _ hg
      obtain ⟨n3, c1, c2⟩ := nums_get u.parts (t.parts.foldl addP s.parts) _ _ hg
      have b3 := bases_get u.parts (t.parts.foldl addP s.parts) _ _ hg
      obtain ⟨q, hq, hqn, _⟩ := idx_get a1
      obtain ⟨n1, d1, d2⟩ := nums_get _ s.parts _ _ hq
      have b1 := bases_get _ s.parts _ _ hq
      have hn : n1 = n3 := by
        rw [hp, hqn] at d1
        rw [c1] at d1
        exact (Option.some.inj d1).symm
      subst hn
      rw [cnt_take hT hq, hqn] at b1
      rw [cnt_fold] at b3
      rw [markJ_in hr.1 a2 b2, markJ_in hr.1 c2 b3]
      refine (markJ_in (x := { m with part := (n2 : Int), piece := IntKind.i64.wrap (m.piece + ((cnt u.parts[m.part.toNat].name t.parts + cnt u.parts[m.part.toNat].name (u.parts.take m.part.toNat) : Nat) : Int)) }) (Int.natCast_nonneg _) d2 b1).trans ?_
      simp only [wrap_add, TMrk.mk.injEq, true_and, and_true]
      congr 1
      push_cast
      omega
    · rw [markJ_out (a7 := nums t.parts u.parts) (by rw [nums_len]; exact hr), markJ_out (a7 := nums (t.parts.foldl addP s.parts) u.parts) (by rw [nums_len]; exact hr)]
      exact markJ_out (by simp)
end Go.Proofs.YtgmphfmoonbfpaaMv

namespace Go.Proofs.YtgmphfmoonbfpaaMv
open Go
def TPrt.o (p : TPrt) : OPrt := ⟨p.name, p.file, p.line, p.pieces.l.map TPce.er⟩
def TUnt.pu (u : TUnt) : JU := ⟨u.parts.l.map TPrt.o, u.marks.l, u.globals.l⟩
def JU.er (j : JU) : JU := ⟨j.parts.map OPrt.er, j.marks, j.globals⟩
theorem unt_pu (j : JU) : j.unt.pu = j.er := by
  simp only [JU.unt, TUnt.pu, JU.er, List.map_map]
  rfl
theorem names_er (ps : List OPrt) : (ps.map OPrt.er).map (·.name) = ps.map (·.name) := by rw [List.map_map]; rfl
theorem dn_er {ps : List OPrt} (h : Dn (ps.map OPrt.er)) : Dn ps := by rw [Dn, names_er] at h; exact h
theorem step_ps (j : JP) (p : TPrt) : (j.step p).ps.map OPrt.er = addP (j.ps.map OPrt.er) p.o := by
  cases hi : idxGo p.name 0 j.ps with
  | some k =>
    rw [addP_some (p := p.o) (k := k) (by rw [← hi]; exact idxGo_er _ _ _)]
    simp only [JP.step, ensure, pidx, hi, Option.getD_some]
    apply List.ext_getElem?
    intro i
    simp only [List.getElem?_map, List.getElem?_modify]
    by_cases h : k = i
    · subst h
      cases j.ps[k]? <;> simp [OPrt.er, OPrt.addAll, TPrt.o]
      exact fun _ _ => rfl
    · simp [h]
  | none =>
    rw [addP_none (p := p.o) (by rw [← hi]; exact idxGo_er _ _ _)]
    simp only [JP.step, ensure, pidx, hi, Option.getD_none]
    rw [modify_append_self j.ps p.new [] (p.pieces.l.map TPce.cln), List.map_append]
    congr 1
    simp [OPrt.er, OPrt.addAll, TPrt.o, TPrt.new]
    exact fun _ _ => rfl
theorem plen_cnt {ps : List OPrt} (hd : Dn ps) (p : TPrt) : plenAt (ensure ps p) (pidx ps p) = cnt p.name ps := by
  cases hi : idxGo p.name 0 ps with
  | some k =>
    obtain ⟨q, h1, h2, _⟩ := idx_get hi
    simp only [ensure, pidx, hi, Option.getD_some, plenAt, h1, Option.map_some]
    exact (cnt_one hd h1 h2).symm
  | none =>
    simp only [ensure, pidx, hi, Option.getD_none, plenAt]
    rw [cnt_absent ((idx_none_iff _ _ _).1 hi)]
    simp [TPrt.new]
theorem cnt_er (nm : List UInt8) (ps : List OPrt) : cnt nm (ps.map OPrt.er) = cnt nm ps := by
  simp only [cnt, List.map_map]
  congr 2
  funext p
  simp [OPrt.er]
theorem step_fold : ∀ (l : List TPrt) (j : JP), Dn j.ps →
    (l.foldl JP.step j).ps.map OPrt.er = (l.map TPrt.o).foldl addP (j.ps.map OPrt.er) ∧ (l.foldl JP.step j).a7 = j.a7 ++ nums (j.ps.map OPrt.er) (l.map TPrt.o) ∧ (l.foldl JP.step j).a8 = j.a8 ++ bases (j.ps.map OPrt.er) (l.map TPrt.o)
  | [], j, _ => by simp [nums, bases]
  | p :: l, j, hd => by
    have hs := step_ps j p
    have hd2 : Dn (j.step p).ps := by
      refine dn_er ?_
      rw [hs]
      exact dn_add (by rw [Dn, names_er]; exact hd) _
    obtain ⟨h1, h2, h3⟩ := step_fold l (j.step p) hd2
    rw [List.foldl_cons, h1, h2, h3, hs]
    have hx : pidxO (j.ps.map OPrt.er) p.o = pidx j.ps p := by
      simp only [pidxO, pidx, TPrt.o, idxGo_er, List.length_map]
    refine ⟨rfl, ?_, ?_⟩
    · simp only [JP.step, List.map_cons, nums, hx, List.append_assoc]; rfl
    · simp only [JP.step, List.map_cons, bases, plen_cnt hd p, List.append_assoc, cnt_er]; rfl
theorem join_er (j : JU) (u : TUnt) (hd : Dn j.parts) : (j.join u).er = PJ j.er u.pu := by
  obtain ⟨h1, h2, h3⟩ := step_fold u.parts.l ⟨j.parts, [], []⟩ hd
  simp only [JU.join, JU.er, PJ, TUnt.pu, h1, h2, h3, List.nil_append]
def ju0 : JU := ⟨[], [], []⟩
theorem nm0 : Nm ju0 := ⟨by simp [ju0, Dn], by simp [ju0]⟩
theorem joins_er : ∀ (us : List TUnt) (j : JU), Nm j.er → (us.foldl JU.join j).er = (us.map TUnt.pu).foldl PJ j.er ∧ Nm (us.foldl JU.join j).er
  | [], j, h => ⟨rfl, h⟩
  | u :: us, j, h => by
    have e := join_er j u (dn_er h.dn)
    have h2 : Nm (j.join u).er := by rw [e]; exact h.pj _
    obtain ⟨h3, h4⟩ := joins_er us (j.join u) h2
    exact ⟨by rw [List.foldl_cons, h3, e]; rfl, h4⟩
theorem joinM_er (us : List TUnt) : (joinM us).er = (us.map TUnt.pu).foldl PJ ju0 := (joins_er us ju0 nm0).1
theorem joinM_nm (us : List TUnt) : Nm (joinM us).er := (joins_er us ju0 nm0).2
theorem PJ_nil (s : JU) : PJ s ju0 = s := by simp [PJ, ju0]
theorem PJ_fold : ∀ (us : List JU) (s t : JU), Nm s → Nm t → PJ s (us.foldl PJ t) = us.foldl PJ (PJ s t)
  | [], _, _, _, _ => rfl
  | u :: us, s, t, hs, ht => by rw [List.foldl_cons, List.foldl_cons, PJ_fold us s _ hs (ht.pj u), PJ_assoc s t u hs ht]
theorem join_groups (a b : List TUnt) : (joinM (a ++ b)).er = (joinM [(joinM a).unt, (joinM b).unt]).er := by
  have ha := joinM_nm a
  rw [joinM_er [(joinM a).unt, (joinM b).unt]]
  simp only [List.map_cons, List.map_nil, List.foldl_cons, List.foldl_nil, unt_pu]
  have h0 : PJ ju0 (joinM a).er = (joinM a).er := by
    rw [joinM_er a, PJ_fold _ _ _ nm0 nm0, PJ_nil]
  rw [h0, joinM_er b, PJ_fold _ _ _ ha nm0, PJ_nil, joinM_er, joinM_er, List.map_append, List.foldl_append]
theorem join_again (a : List TUnt) : (joinM a).er = (joinM [(joinM a).unt]).er := by
  rw [joinM_er [(joinM a).unt]]
  simp only [List.map_cons, List.map_nil, List.foldl_cons, List.foldl_nil, unt_pu]
  conv => rhs; rw [joinM_er a, PJ_fold _ _ _ nm0 nm0, PJ_nil]
  exact joinM_er a
theorem ju_sim {m m' : JU} (h : m.er = m'.er) : m.unt.sim m'.unt := by
  refine unt_sim (m := ⟨m.parts, m.marks, m.globals, [], 0, 0, []⟩) (m' := ⟨m'.parts, m'.marks, m'.globals, [], 0, 0, []⟩) ?_
  simp only [Ms.er, Ms.mk.injEq, and_true]
  simp only [JU.er, JU.mk.injEq] at h
  exact h
def pw (ps : List OPrt) : Nat := (ps.map fun p => p.pieces.length + 1).sum
theorem pw_modify (l : List TPce) : ∀ (ps : List OPrt) (k : Nat), pw (ps.modify k (·.addAll l)) ≤ pw ps + l.length
  | [], k => by cases k <;> simp [pw]
  | q :: ps, 0 => by simp [pw, OPrt.addAll]; omega
  | q :: ps, k + 1 => by
    have := pw_modify l ps k
    simp only [pw, List.modify_succ_cons, List.map_cons, List.sum_cons] at this ⊢
    omega
theorem pw_step (j : JP) (p : TPrt) : pw (j.step p).ps ≤ pw j.ps + p.wt := by
  have h := pw_modify (p.pieces.l.map TPce.cln) (ensure j.ps p) (pidx j.ps p)
  have h2 : pw (ensure j.ps p) ≤ pw j.ps + 1 := by
    unfold ensure
    split
    · omega
    · simp [pw, TPrt.new]
  simp only [JP.step, TPrt.wt]
  simp only [List.length_map] at h
  omega
theorem pw_fold : ∀ (l : List TPrt) (j : JP), pw (l.foldl JP.step j).ps ≤ pw j.ps + (l.map TPrt.wt).sum
  | [], j => Nat.le_refl _
  | p :: l, j => by
    have h1 := pw_fold l (j.step p)
    have h2 := pw_step j p
    simp only [List.foldl_cons, List.map_cons, List.sum_cons]
    omega
theorem unt_wt (j : JU) : j.unt.wt = pw j.parts + j.marks.length + j.globals.length := by
  simp only [TUnt.wt, JU.unt, pw, List.map_map]
  rfl
theorem wt_join (j : JU) (u : TUnt) : (j.join u).unt.wt ≤ j.unt.wt + u.wt := by
  have := pw_fold u.parts.l ⟨j.parts, [], []⟩
  simp only [unt_wt]
  simp [JU.join, TUnt.wt]
  simp at this
  omega
theorem wt_joins : ∀ (us : List TUnt) (j : JU), (us.foldl JU.join j).unt.wt ≤ j.unt.wt + (us.map TUnt.wt).sum
  | [], j => by simp
  | u :: us, j => by
    have h1 := wt_joins us (j.join u)
    have h2 := wt_join j u
    simp only [List.foldl_cons, List.map_cons, List.sum_cons]
    omega
theorem wt_joinM (us : List TUnt) : (joinM us).unt.wt ≤ (us.map TUnt.wt).sum := by
  have := wt_joins us ju0
  have h0 : ju0.unt.wt = 0 := rfl
  rw [h0, Nat.zero_add] at this
  exact this
theorem pw_len (ps : List OPrt) : ps.length ≤ pw ps := by
  induction ps with
  | nil => simp
  | cons p ps ih => simp [pw] at ih ⊢; omega
theorem pw_get {ps : List OPrt} {p : OPrt} (h : p ∈ ps) : p.pieces.length ≤ pw ps := by
  induction ps with
  | nil => cases h
  | cons q ps ih =>
    simp only [pw, List.map_cons, List.sum_cons]
    rcases List.mem_cons.1 h with rfl | h
    · omega
    · have := ih h; simp only [pw] at this; omega
def psOk (ps : List OPrt) : Prop := ∀ p ∈ ps, ∀ x ∈ p.pieces, x.ok
theorem ok_step {j : JP} (h : psOk j.ps) (p : TPrt) (hp : ∀ x ∈ p.pieces.l, x.ok) : psOk (j.step p).ps := by
  have he : psOk (ensure j.ps p) := by
    unfold ensure
    split
    · exact h
    · intro q hq x hx
      simp only [List.mem_append, List.mem_singleton] at hq
      rcases hq with hq | rfl
      · exact h q hq x hx
      · simp [TPrt.new] at hx
  intro q hq x hx
  obtain ⟨i, hi, rfl⟩ := List.mem_iff_getElem.1 hq
  simp only [JP.step, List.length_modify] at hi
  simp only [JP.step, List.getElem_modify] at hx
  have hm := List.getElem_mem hi
  split at hx
  · simp only [OPrt.addAll, List.mem_append, List.mem_map] at hx
    rcases hx with hx | ⟨y, hy, rfl⟩
    · exact he _ hm x hx
    · exact hp y hy
  · exact he _ hm x hx
theorem ok_fold : ∀ (l : List TPrt) (j : JP), psOk j.ps → (∀ p ∈ l, ∀ x ∈ p.pieces.l, x.ok) → psOk (l.foldl JP.step j).ps
  | [], j, h, _ => h
  | p :: l, j, h, hl => ok_fold l _ (ok_step h p (hl p List.mem_cons_self)) (fun q hq => hl q (List.mem_cons_of_mem _ hq))
theorem ok_joins : ∀ (us : List TUnt) (j : JU), psOk j.parts → (∀ u ∈ us, u.ok) → psOk (us.foldl JU.join j).parts
  | [], j, h, _ => h
  | u :: us, j, h, hl => by
    rw [List.foldl_cons]
    exact ok_joins us _ (ok_fold u.parts.l ⟨j.parts, [], []⟩ h (hl u List.mem_cons_self)) (fun v hv => hl v (List.mem_cons_of_mem _ hv))
theorem ok_joinM {us : List TUnt} (h : ∀ u ∈ us, u.ok) : (joinM us).unt.ok := by
  intro p hp x hx
  simp only [JU.unt, List.mem_map] at hp
  obtain ⟨q, hq, rfl⟩ := hp
  exact ok_joins us ju0 (by intro p hp; simp [ju0] at hp) h q hq x hx
end Go.Proofs.YtgmphfmoonbfpaaMv

set_option maxRecDepth 100000
namespace Go.Proofs.YtgmphfmoonbfpaaMv
open Go
theorem w15i_0 (un : Bool) (us : List TUnt) (vn : Bool) (vs : List TUnt) (n : Int) (i : Nat) (x : TUnt) (k : Nat) (hp : HL)
    (c0 : (decide (((k : Nat) : Int) < ((x.parts.l.length : Nat) : Int))) = false) :
    Ev pg i15_l2 ⟨[(0, V.d (D.sl un (us.map TUnt.c))), (3, V.d (D.int .i64 n)), (12, V.d (D.sl vn (vs.map TUnt.c))), (13, V.d (D.int .i64 ((vs.length : Nat) : Int))), (14, V.d (D.int .i64 ((i : Nat) : Int))), (35, V.d (D.sl x.parts.nn (x.parts.l.map TPrt.c))), (36, V.d (D.int .i64 ((x.parts.l.length : Nat) : Int))), (37, V.d (D.int .i64 ((k : Nat) : Int)))], [] :: hp⟩ (.exit 2) ⟨[(0, V.d (D.sl un (us.map TUnt.c))), (3, V.d (D.int .i64 n)), (12, V.d (D.sl vn (vs.map TUnt.c))), (13, V.d (D.int .i64 ((vs.length : Nat) : Int))), (14, V.d (D.int .i64 ((i : Nat) : Int))), (35, V.d (D.sl x.parts.nn (x.parts.l.map TPrt.c))), (36, V.d (D.int .i64 ((x.parts.l.length : Nat) : Int))), (37, V.d (D.int .i64 ((k : Nat) : Int))), (38, V.d (D.bool false))], [] :: hp⟩ :=
  by
  have r : Ev pg i15_l2 ⟨[(0, V.d (D.sl un (us.map TUnt.c))), (3, V.d (D.int .i64 n)), (12, V.d (D.sl vn (vs.map TUnt.c))), (13, V.d (D.int .i64 ((vs.length : Nat) : Int))), (14, V.d (D.int .i64 ((i : Nat) : Int))), (35, V.d (D.sl x.parts.nn (x.parts.l.map TPrt.c))), (36, V.d (D.int .i64 ((x.parts.l.length : Nat) : Int))), (37, V.d (D.int .i64 ((k : Nat) : Int)))], [] :: hp⟩ (.exit 2) ⟨[(0, V.d (D.sl un (us.map TUnt.c))), (3, V.d (D.int .i64 n)), (12, V.d (D.sl vn (vs.map TUnt.c))), (13, V.d (D.int .i64 ((vs.length : Nat) : Int))), (14, V.d (D.int .i64 ((i : Nat) : Int))), (35, V.d (D.sl x.parts.nn (x.parts.l.map TPrt.c))), (36, V.d (D.int .i64 ((x.parts.l.length : Nat) : Int))), (37, V.d (D.int .i64 ((k : Nat) : Int))), (38, V.d (D.bool (decide (((k : Nat) : Int) < ((x.parts.l.length : Nat) : Int)))))], [] :: hp⟩ :=
  codeC_ok (hs := [.b false]) (hs' := []) (cs := [_]) (by kernel_rfl) ⟨c0, trivial⟩
  simp only [c0] at r
  exact r
theorem w15i_1 (un : Bool) (us : List TUnt) (vn : Bool) (vs : List TUnt) (n : Int) (i : Nat) (x : TUnt) (k : Nat) (hp : HL) (x1 : TPrt)
    (c0 : (decide (((k : Nat) : Int) < ((x.parts.l.length : Nat) : Int))) = true)
    (c1 : (x.parts.l.map TPrt.c)[k]? = some [D.str x1.name, D.int .i64 x1.file, D.int .i64 x1.line, D.sl x1.pieces.nn (x1.pieces.l.map TPce.c)]) :
    Ev pg i15_l2 ⟨[(0, V.d (D.sl un (us.map TUnt.c))), (3, V.d (D.int .i64 n)), (12, V.d (D.sl vn (vs.map TUnt.c))), (13, V.d (D.int .i64 ((vs.length : Nat) : Int))), (14, V.d (D.int .i64 ((i : Nat) : Int))), (35, V.d (D.sl x.parts.nn (x.parts.l.map TPrt.c))), (36, V.d (D.int .i64 ((x.parts.l.length : Nat) : Int))), (37, V.d (D.int .i64 ((k : Nat) : Int)))], [] :: hp⟩ .normal ⟨[(0, V.d (D.sl un (us.map TUnt.c))), (3, V.d (D.int .i64 ((if decide (1048576 < (IntKind.i64.wrap (n + (((x1.pieces.l.map TPce.c).length : Nat) : Int)))) = true then 1048576 else (IntKind.i64.wrap (n + (((x1.pieces.l.map TPce.c).length : Nat) : Int))))))), (12, V.d (D.sl vn (vs.map TUnt.c))), (13, V.d (D.int .i64 ((vs.length : Nat) : Int))), (14, V.d (D.int .i64 ((i : Nat) : Int))), (35, V.d (D.sl x.parts.nn (x.parts.l.map TPrt.c))), (36, V.d (D.int .i64 ((x.parts.l.length : Nat) : Int))), (37, V.d (D.int .i64 (IntKind.i64.wrap (((k : Nat) : Int) + 1))))], [] :: hp⟩ :=
  codeC_ok (hs := [.b true, .n k, .ds [D.str x1.name, D.int .i64 x1.file, D.int .i64 x1.line, D.sl x1.pieces.nn (x1.pieces.l.map TPce.c)]]) (hs' := []) (cs := [_, ((k : Nat) : Int) = ((k : Nat) : Int), _]) (by kernel_rfl) ⟨c0, rfl, c1, trivial⟩
theorem w15o_0 (un : Bool) (us : List TUnt) (vn : Bool) (vs : List TUnt) (n : Int) (i : Nat) (hp : HL)
    (c0 : (decide (((i : Nat) : Int) < ((vs.length : Nat) : Int))) = false) :
    Ev pg i15_l0 ⟨[(0, V.d (D.sl un (us.map TUnt.c))), (3, V.d (D.int .i64 n)), (12, V.d (D.sl vn (vs.map TUnt.c))), (13, V.d (D.int .i64 ((vs.length : Nat) : Int))), (14, V.d (D.int .i64 ((i : Nat) : Int)))], [] :: hp⟩ (.exit 0) ⟨[(0, V.d (D.sl un (us.map TUnt.c))), (3, V.d (D.int .i64 n)), (12, V.d (D.sl vn (vs.map TUnt.c))), (13, V.d (D.int .i64 ((vs.length : Nat) : Int))), (14, V.d (D.int .i64 ((i : Nat) : Int))), (15, V.d (D.bool false))], [] :: hp⟩ :=
  by
  have r : Ev pg i15_l0 ⟨[(0, V.d (D.sl un (us.map TUnt.c))), (3, V.d (D.int .i64 n)), (12, V.d (D.sl vn (vs.map TUnt.c))), (13, V.d (D.int .i64 ((vs.length : Nat) : Int))), (14, V.d (D.int .i64 ((i : Nat) : Int)))], [] :: hp⟩ (.exit 0) ⟨[(0, V.d (D.sl un (us.map TUnt.c))), (3, V.d (D.int .i64 n)), (12, V.d (D.sl vn (vs.map TUnt.c))), (13, V.d (D.int .i64 ((vs.length : Nat) : Int))), (14, V.d (D.int .i64 ((i : Nat) : Int))), (15, V.d (D.bool (decide (((i : Nat) : Int) < ((vs.length : Nat) : Int)))))], [] :: hp⟩ :=
  codeC_ok (hs := [.b false]) (hs' := []) (cs := [_]) (by kernel_rfl) ⟨c0, trivial⟩
  simp only [c0] at r
  exact r
theorem w15o_1 (un : Bool) (us : List TUnt) (vn : Bool) (vs : List TUnt) (n : Int) (i : Nat) (hp : HL) (x1 : TUnt) (m2 : Int)
    (c0 : (decide (((i : Nat) : Int) < ((vs.length : Nat) : Int))) = true)
    (c1 : (vs.map TUnt.c)[i]? = some [D.sl x1.parts.nn (x1.parts.l.map TPrt.c), D.sl x1.marks.nn (x1.marks.l.map TMrk.c), D.sl x1.globals.nn (x1.globals.l.map TTld.c)])
    (c2 : (decide ((((x1.parts.l.map TPrt.c).length : Nat) : Int) > 150)) = false)
    (c3 : (decide ((((x1.marks.l.map TMrk.c).length : Nat) : Int) > 300)) = false)
    (c4 : (decide ((((x1.globals.l.map TTld.c).length : Nat) : Int) > 300)) = false)
    (c5 : Lp pg i15_l2 ⟨[(0, V.d (D.sl un (us.map TUnt.c))), (3, V.d (D.int .i64 n)), (12, V.d (D.sl vn (vs.map TUnt.c))), (13, V.d (D.int .i64 ((vs.length : Nat) : Int))), (14, V.d (D.int .i64 ((i : Nat) : Int))), (35, V.d (D.sl x1.parts.nn (x1.parts.l.map TPrt.c))), (36, V.d (D.int .i64 (((x1.parts.l.map TPrt.c).length : Nat) : Int))), (37, V.d (D.int .i64 0))], [] :: hp⟩ (.exit 2) ⟨[(0, V.d (D.sl un (us.map TUnt.c))), (3, V.d (D.int .i64 m2)), (12, V.d (D.sl vn (vs.map TUnt.c))), (13, V.d (D.int .i64 ((vs.length : Nat) : Int))), (14, V.d (D.int .i64 ((i : Nat) : Int))), (35, V.d (D.sl x1.parts.nn (x1.parts.l.map TPrt.c))), (36, V.d (D.int .i64 ((x1.parts.l.length : Nat) : Int))), (37, V.d (D.int .i64 ((x1.parts.l.length : Nat) : Int))), (38, V.d (D.bool false))], [] :: hp⟩) :
    Ev pg i15_l0 ⟨[(0, V.d (D.sl un (us.map TUnt.c))), (3, V.d (D.int .i64 n)), (12, V.d (D.sl vn (vs.map TUnt.c))), (13, V.d (D.int .i64 ((vs.length : Nat) : Int))), (14, V.d (D.int .i64 ((i : Nat) : Int)))], [] :: hp⟩ .normal ⟨[(0, V.d (D.sl un (us.map TUnt.c))), (3, V.d (D.int .i64 m2)), (12, V.d (D.sl vn (vs.map TUnt.c))), (13, V.d (D.int .i64 ((vs.length : Nat) : Int))), (14, V.d (D.int .i64 (IntKind.i64.wrap (((i : Nat) : Int) + 1))))], [] :: hp⟩ :=
  codeC_ok (hs := [.b true, .n i, .ds [D.sl x1.parts.nn (x1.parts.l.map TPrt.c), D.sl x1.marks.nn (x1.marks.l.map TMrk.c), D.sl x1.globals.nn (x1.globals.l.map TTld.c)], .b false, .b false, .b false, .b false, .b false, .b false, .b false, .b false, .b false, .b false, .b false, .lp (.exit 2) ⟨[(0, V.d (D.sl un (us.map TUnt.c))), (3, V.d (D.int .i64 m2)), (12, V.d (D.sl vn (vs.map TUnt.c))), (13, V.d (D.int .i64 ((vs.length : Nat) : Int))), (14, V.d (D.int .i64 ((i : Nat) : Int))), (35, V.d (D.sl x1.parts.nn (x1.parts.l.map TPrt.c))), (36, V.d (D.int .i64 ((x1.parts.l.length : Nat) : Int))), (37, V.d (D.int .i64 ((x1.parts.l.length : Nat) : Int))), (38, V.d (D.bool false))], [] :: hp⟩]) (hs' := []) (cs := [_, ((i : Nat) : Int) = ((i : Nat) : Int), _, _, _, _, _, _, _, _, _, _, _, _, _]) (by kernel_rfl) ⟨c0, rfl, c1, c2, c2, c2, c2, c2, c3, c3, c3, c3, c3, c4, c5, trivial⟩
theorem w15o_2 (un : Bool) (us : List TUnt) (vn : Bool) (vs : List TUnt) (n : Int) (i : Nat) (hp : HL) (x1 : TUnt)
    (c0 : (decide (((i : Nat) : Int) < ((vs.length : Nat) : Int))) = true)
    (c1 : (vs.map TUnt.c)[i]? = some [D.sl x1.parts.nn (x1.parts.l.map TPrt.c), D.sl x1.marks.nn (x1.marks.l.map TMrk.c), D.sl x1.globals.nn (x1.globals.l.map TTld.c)])
    (c2 : (decide ((((x1.parts.l.map TPrt.c).length : Nat) : Int) > 150)) = false)
    (c3 : (decide ((((x1.marks.l.map TMrk.c).length : Nat) : Int) > 300)) = false)
    (c4 : (decide ((((x1.globals.l.map TTld.c).length : Nat) : Int) > 300)) = true) :
    Ev pg i15_l0 ⟨[(0, V.d (D.sl un (us.map TUnt.c))), (3, V.d (D.int .i64 n)), (12, V.d (D.sl vn (vs.map TUnt.c))), (13, V.d (D.int .i64 ((vs.length : Nat) : Int))), (14, V.d (D.int .i64 ((i : Nat) : Int)))], [] :: hp⟩ .ret ⟨[(2, V.d (D.bool false))], [] :: hp⟩ :=
  codeC_ok (hs := [.b true, .n i, .ds [D.sl x1.parts.nn (x1.parts.l.map TPrt.c), D.sl x1.marks.nn (x1.marks.l.map TMrk.c), D.sl x1.globals.nn (x1.globals.l.map TTld.c)], .b false, .b false, .b false, .b false, .b false, .b false, .b false, .b false, .b false, .b false, .b true]) (hs' := []) (cs := [_, ((i : Nat) : Int) = ((i : Nat) : Int), _, _, _, _, _, _, _, _, _, _, _, _]) (by kernel_rfl) ⟨c0, rfl, c1, c2, c2, c2, c2, c2, c3, c3, c3, c3, c3, c4, trivial⟩
theorem w15o_3 (un : Bool) (us : List TUnt) (vn : Bool) (vs : List TUnt) (n : Int) (i : Nat) (hp : HL) (x1 : TUnt)
    (c0 : (decide (((i : Nat) : Int) < ((vs.length : Nat) : Int))) = true)
    (c1 : (vs.map TUnt.c)[i]? = some [D.sl x1.parts.nn (x1.parts.l.map TPrt.c), D.sl x1.marks.nn (x1.marks.l.map TMrk.c), D.sl x1.globals.nn (x1.globals.l.map TTld.c)])
    (c2 : (decide ((((x1.parts.l.map TPrt.c).length : Nat) : Int) > 150)) = false)
    (c3 : (decide ((((x1.marks.l.map TMrk.c).length : Nat) : Int) > 300)) = true) :
    Ev pg i15_l0 ⟨[(0, V.d (D.sl un (us.map TUnt.c))), (3, V.d (D.int .i64 n)), (12, V.d (D.sl vn (vs.map TUnt.c))), (13, V.d (D.int .i64 ((vs.length : Nat) : Int))), (14, V.d (D.int .i64 ((i : Nat) : Int)))], [] :: hp⟩ .ret ⟨[(2, V.d (D.bool false))], [] :: hp⟩ :=
  codeC_ok (hs := [.b true, .n i, .ds [D.sl x1.parts.nn (x1.parts.l.map TPrt.c), D.sl x1.marks.nn (x1.marks.l.map TMrk.c), D.sl x1.globals.nn (x1.globals.l.map TTld.c)], .b false, .b false, .b false, .b false, .b false, .b true, .b true, .b true, .b true, .b true, .b true]) (hs' := []) (cs := [_, ((i : Nat) : Int) = ((i : Nat) : Int), _, _, _, _, _, _, _, _, _, _, _, true = true]) (by kernel_rfl) ⟨c0, rfl, c1, c2, c2, c2, c2, c2, c3, c3, c3, c3, c3, rfl, trivial⟩
theorem w15o_4 (un : Bool) (us : List TUnt) (vn : Bool) (vs : List TUnt) (n : Int) (i : Nat) (hp : HL) (x1 : TUnt)
    (c0 : (decide (((i : Nat) : Int) < ((vs.length : Nat) : Int))) = true)
    (c1 : (vs.map TUnt.c)[i]? = some [D.sl x1.parts.nn (x1.parts.l.map TPrt.c), D.sl x1.marks.nn (x1.marks.l.map TMrk.c), D.sl x1.globals.nn (x1.globals.l.map TTld.c)])
    (c2 : (decide ((((x1.parts.l.map TPrt.c).length : Nat) : Int) > 150)) = true) :
    Ev pg i15_l0 ⟨[(0, V.d (D.sl un (us.map TUnt.c))), (3, V.d (D.int .i64 n)), (12, V.d (D.sl vn (vs.map TUnt.c))), (13, V.d (D.int .i64 ((vs.length : Nat) : Int))), (14, V.d (D.int .i64 ((i : Nat) : Int)))], [] :: hp⟩ .ret ⟨[(2, V.d (D.bool false))], [] :: hp⟩ :=
  codeC_ok (hs := [.b true, .n i, .ds [D.sl x1.parts.nn (x1.parts.l.map TPrt.c), D.sl x1.marks.nn (x1.marks.l.map TMrk.c), D.sl x1.globals.nn (x1.globals.l.map TTld.c)], .b true, .b true, .b true, .b true, .b true, .b true, .b true, .b true, .b true, .b true, .b true]) (hs' := []) (cs := [_, ((i : Nat) : Int) = ((i : Nat) : Int), _, _, _, _, _, _, true = true, true = true, true = true, true = true, true = true, true = true]) (by kernel_rfl) ⟨c0, rfl, c1, c2, c2, c2, c2, c2, rfl, rfl, rfl, rfl, rfl, rfl, trivial⟩
theorem w15_0 (un : Bool) (us : List TUnt) (hp : HL) (k1 : Nat) (m2 : Int)
    (c0 : ((if decide (40 < (((us.map TUnt.c).length : Nat) : Int)) = true then 40 else (((us.map TUnt.c).length : Nat) : Int))) = ((k1 : Nat) : Int))
    (c1 : k1 ≤ (us.map TUnt.c).length)
    (c2 : List.all (us.map TUnt.c) (fun x => x.length == 3) = true)
    (c3 : Lp pg i15_l0 ⟨[(0, V.d (D.sl un (us.map TUnt.c))), (3, V.d (D.int .i64 0)), (12, V.d (D.sl (un || !(us.map TUnt.c).isEmpty) (List.drop 0 (List.take k1 (us.map TUnt.c))))), (13, V.d (D.int .i64 (((List.drop 0 (List.take k1 (us.map TUnt.c))).length : Nat) : Int))), (14, V.d (D.int .i64 0))], [] :: hp⟩ (.exit 0) ⟨[(0, V.d (D.sl un (us.map TUnt.c))), (3, V.d (D.int .i64 m2)), (12, V.d (D.sl (un || !(us.map TUnt.c).isEmpty) (List.drop 0 (List.take k1 (us.map TUnt.c))))), (13, V.d (D.int .i64 (((List.drop 0 (List.take k1 (us.map TUnt.c))).length : Nat) : Int))), (14, V.d (D.int .i64 (((List.drop 0 (List.take k1 (us.map TUnt.c))).length : Nat) : Int))), (15, V.d (D.bool false))], [] :: hp⟩)
    (c4 : (decide ((((us.map TUnt.c).length : Nat) : Int) ≤ 40)) = false) :
    Rn pg 15 [V.d (D.sl un (us.map TUnt.c))] (hp) (V.d (D.bool false)) (hp) :=
  Rn.c (fn := i15) (ex := .ret) (st := ⟨[(2, V.d (D.bool false))], [] :: hp⟩) (hs := [.n k1, .lp (.exit 0) ⟨[(0, V.d (D.sl un (us.map TUnt.c))), (3, V.d (D.int .i64 m2)), (12, V.d (D.sl (un || !(us.map TUnt.c).isEmpty) (List.drop 0 (List.take k1 (us.map TUnt.c))))), (13, V.d (D.int .i64 (((List.drop 0 (List.take k1 (us.map TUnt.c))).length : Nat) : Int))), (14, V.d (D.int .i64 (((List.drop 0 (List.take k1 (us.map TUnt.c))).length : Nat) : Int))), (15, V.d (D.bool false))], [] :: hp⟩, .b false, .b false, .b false]) (cs := [_, 0 ≤ k1, _, _, _, _, _, _]) (rs := [V.d (D.bool false)]) (t := [])
    (by kernel_rfl) (by kernel_rfl) (by kernel_rfl) (by kernel_rfl) (by kernel_rfl) (by kernel_rfl) ⟨c0, Nat.zero_le _, c1, c2, c3, c4, c4, c4, trivial⟩
theorem w15_1 (un : Bool) (us : List TUnt) (hp : HL) (k1 : Nat) (m2 : Int)
    (c0 : ((if decide (40 < (((us.map TUnt.c).length : Nat) : Int)) = true then 40 else (((us.map TUnt.c).length : Nat) : Int))) = ((k1 : Nat) : Int))
    (c1 : k1 ≤ (us.map TUnt.c).length)
    (c2 : List.all (us.map TUnt.c) (fun x => x.length == 3) = true)
    (c3 : Lp pg i15_l0 ⟨[(0, V.d (D.sl un (us.map TUnt.c))), (3, V.d (D.int .i64 0)), (12, V.d (D.sl (un || !(us.map TUnt.c).isEmpty) (List.drop 0 (List.take k1 (us.map TUnt.c))))), (13, V.d (D.int .i64 (((List.drop 0 (List.take k1 (us.map TUnt.c))).length : Nat) : Int))), (14, V.d (D.int .i64 0))], [] :: hp⟩ (.exit 0) ⟨[(0, V.d (D.sl un (us.map TUnt.c))), (3, V.d (D.int .i64 m2)), (12, V.d (D.sl (un || !(us.map TUnt.c).isEmpty) (List.drop 0 (List.take k1 (us.map TUnt.c))))), (13, V.d (D.int .i64 (((List.drop 0 (List.take k1 (us.map TUnt.c))).length : Nat) : Int))), (14, V.d (D.int .i64 (((List.drop 0 (List.take k1 (us.map TUnt.c))).length : Nat) : Int))), (15, V.d (D.bool false))], [] :: hp⟩)
    (c4 : (decide ((((us.map TUnt.c).length : Nat) : Int) ≤ 40)) = true) :
    Rn pg 15 [V.d (D.sl un (us.map TUnt.c))] (hp) (V.d (D.bool (decide (m2 ≤ 2000)))) (hp) :=
  Rn.c (fn := i15) (ex := .ret) (st := ⟨[(2, V.d (D.bool (decide (m2 ≤ 2000))))], [] :: hp⟩) (hs := [.n k1, .lp (.exit 0) ⟨[(0, V.d (D.sl un (us.map TUnt.c))), (3, V.d (D.int .i64 m2)), (12, V.d (D.sl (un || !(us.map TUnt.c).isEmpty) (List.drop 0 (List.take k1 (us.map TUnt.c))))), (13, V.d (D.int .i64 (((List.drop 0 (List.take k1 (us.map TUnt.c))).length : Nat) : Int))), (14, V.d (D.int .i64 (((List.drop 0 (List.take k1 (us.map TUnt.c))).length : Nat) : Int))), (15, V.d (D.bool false))], [] :: hp⟩, .b true, .b true, .b true]) (cs := [_, 0 ≤ k1, _, _, _, _, _, _]) (rs := [V.d (D.bool (decide (m2 ≤ 2000)))]) (t := [])
    (by kernel_rfl) (by kernel_rfl) (by kernel_rfl) (by kernel_rfl) (by kernel_rfl) (by kernel_rfl) ⟨c0, Nat.zero_le _, c1, c2, c3, c4, c4, c4, trivial⟩
theorem w15_2 (un : Bool) (us : List TUnt) (hp : HL) (k1 : Nat)
    (c0 : ((if decide (40 < (((us.map TUnt.c).length : Nat) : Int)) = true then 40 else (((us.map TUnt.c).length : Nat) : Int))) = ((k1 : Nat) : Int))
    (c1 : k1 ≤ (us.map TUnt.c).length)
    (c2 : List.all (us.map TUnt.c) (fun x => x.length == 3) = true)
    (c3 : Lp pg i15_l0 ⟨[(0, V.d (D.sl un (us.map TUnt.c))), (3, V.d (D.int .i64 0)), (12, V.d (D.sl (un || !(us.map TUnt.c).isEmpty) (List.drop 0 (List.take k1 (us.map TUnt.c))))), (13, V.d (D.int .i64 (((List.drop 0 (List.take k1 (us.map TUnt.c))).length : Nat) : Int))), (14, V.d (D.int .i64 0))], [] :: hp⟩ .ret ⟨[(2, V.d (D.bool false))], [] :: hp⟩) :
    Rn pg 15 [V.d (D.sl un (us.map TUnt.c))] (hp) (V.d (D.bool false)) (hp) :=
  Rn.c (fn := i15) (ex := .ret) (st := ⟨[(2, V.d (D.bool false))], [] :: hp⟩) (hs := [.n k1, .lp .ret ⟨[(2, V.d (D.bool false))], [] :: hp⟩]) (cs := [_, 0 ≤ k1, _, _, _]) (rs := [V.d (D.bool false)]) (t := [])
    (by kernel_rfl) (by kernel_rfl) (by kernel_rfl) (by kernel_rfl) (by kernel_rfl) (by kernel_rfl) ⟨c0, Nat.zero_le _, c1, c2, c3, trivial⟩
end Go.Proofs.YtgmphfmoonbfpaaMv

set_option maxRecDepth 100000
namespace Go.Proofs.YtgmphfmoonbfpaaMv
open Go
theorem w4_0 (us : Sl TUnt) (at_ : Int) (fw : Bool) (hp : HL) (k1 : Nat)
    (c0 : Rn pg 7 [] ([]) (V.d (D.bool true)) ([]))
    (c1 : Rn pg 15 [V.d (D.sl us.nn (us.l.map TUnt.c))] ([]) (V.d (D.bool fw)) ([]))
    (c2 : (!fw) = false)
    (c3 : (IntKind.i64.wrap ((((us.l.map TUnt.c).length : Nat) : Int) + 1)) ≠ 0)
    (c4 : Rn pg 16 [V.d (D.sl us.nn (us.l.map TUnt.c))] ([]) (V.d (D.agg [D.sl ((joinM us.l).unt.parts.nn) ((joinM us.l).unt.parts.l.map TPrt.c), D.sl ((joinM us.l).unt.marks.nn) ((joinM us.l).unt.marks.l.map TMrk.c), D.sl ((joinM us.l).unt.globals.nn) ((joinM us.l).unt.globals.l.map TTld.c)])) ([]))
    (c5 : (Int.tmod (IntKind.i64.wrap (at_)) (IntKind.i64.wrap ((((us.l.map TUnt.c).length : Nat) : Int) + 1))) = ((k1 : Nat) : Int))
    (c6 : k1 ≤ (us.l.map TUnt.c).length)
    (c7 : List.all (us.l.map TUnt.c) (fun x => x.length == 3) = true)
    (c8 : Rn pg 16 [V.d (D.sl (us.nn || !(us.l.map TUnt.c).isEmpty) (List.drop 0 (List.take k1 (us.l.map TUnt.c))))] ([]) (V.d (D.agg [D.sl ((joinM (us.l.take k1)).unt.parts.nn) ((joinM (us.l.take k1)).unt.parts.l.map TPrt.c), D.sl ((joinM (us.l.take k1)).unt.marks.nn) ((joinM (us.l.take k1)).unt.marks.l.map TMrk.c), D.sl ((joinM (us.l.take k1)).unt.globals.nn) ((joinM (us.l.take k1)).unt.globals.l.map TTld.c)])) ([]))
    (c9 : k1 ≤ ((us.l.map TUnt.c).length))
    (c10 : ((us.l.map TUnt.c).length) ≤ (us.l.map TUnt.c).length)
    (c11 : Rn pg 16 [V.d (D.sl (us.nn || !(us.l.map TUnt.c).isEmpty) (List.drop k1 (List.take ((us.l.map TUnt.c).length) (us.l.map TUnt.c))))] ([]) (V.d (D.agg [D.sl ((joinM (us.l.drop k1)).unt.parts.nn) ((joinM (us.l.drop k1)).unt.parts.l.map TPrt.c), D.sl ((joinM (us.l.drop k1)).unt.marks.nn) ((joinM (us.l.drop k1)).unt.marks.l.map TMrk.c), D.sl ((joinM (us.l.drop k1)).unt.globals.nn) ((joinM (us.l.drop k1)).unt.globals.l.map TTld.c)])) ([]))
    (c12 : Rn pg 16 [V.d (D.sl true [[D.sl ((joinM (us.l.take k1)).unt.parts.nn) ((joinM (us.l.take k1)).unt.parts.l.map TPrt.c), D.sl ((joinM (us.l.take k1)).unt.marks.nn) ((joinM (us.l.take k1)).unt.marks.l.map TMrk.c), D.sl ((joinM (us.l.take k1)).unt.globals.nn) ((joinM (us.l.take k1)).unt.globals.l.map TTld.c)], [D.sl ((joinM (us.l.drop k1)).unt.parts.nn) ((joinM (us.l.drop k1)).unt.parts.l.map TPrt.c), D.sl ((joinM (us.l.drop k1)).unt.marks.nn) ((joinM (us.l.drop k1)).unt.marks.l.map TMrk.c), D.sl ((joinM (us.l.drop k1)).unt.globals.nn) ((joinM (us.l.drop k1)).unt.globals.l.map TTld.c)]])] ([]) (V.d (D.agg [D.sl ((joinM [(joinM (us.l.take k1)).unt, (joinM (us.l.drop k1)).unt]).unt.parts.nn) ((joinM [(joinM (us.l.take k1)).unt, (joinM (us.l.drop k1)).unt]).unt.parts.l.map TPrt.c), D.sl ((joinM [(joinM (us.l.take k1)).unt, (joinM (us.l.drop k1)).unt]).unt.marks.nn) ((joinM [(joinM (us.l.take k1)).unt, (joinM (us.l.drop k1)).unt]).unt.marks.l.map TMrk.c), D.sl ((joinM [(joinM (us.l.take k1)).unt, (joinM (us.l.drop k1)).unt]).unt.globals.nn) ((joinM [(joinM (us.l.take k1)).unt, (joinM (us.l.drop k1)).unt]).unt.globals.l.map TTld.c)])) ([]))
    (c13 : Rn pg 13 [V.d (D.agg [D.sl ((joinM us.l).unt.parts.nn) ((joinM us.l).unt.parts.l.map TPrt.c), D.sl ((joinM us.l).unt.marks.nn) ((joinM us.l).unt.marks.l.map TMrk.c), D.sl ((joinM us.l).unt.globals.nn) ((joinM us.l).unt.globals.l.map TTld.c)]), V.d (D.agg [D.sl ((joinM [(joinM (us.l.take k1)).unt, (joinM (us.l.drop k1)).unt]).unt.parts.nn) ((joinM [(joinM (us.l.take k1)).unt, (joinM (us.l.drop k1)).unt]).unt.parts.l.map TPrt.c), D.sl ((joinM [(joinM (us.l.take k1)).unt, (joinM (us.l.drop k1)).unt]).unt.marks.nn) ((joinM [(joinM (us.l.take k1)).unt, (joinM (us.l.drop k1)).unt]).unt.marks.l.map TMrk.c), D.sl ((joinM [(joinM (us.l.take k1)).unt, (joinM (us.l.drop k1)).unt]).unt.globals.nn) ((joinM [(joinM (us.l.take k1)).unt, (joinM (us.l.drop k1)).unt]).unt.globals.l.map TTld.c)])] ([]) (V.d (D.bool true)) ([]))
    (c14 : Rn pg 16 [V.d (D.sl true [[D.sl ((joinM us.l).unt.parts.nn) ((joinM us.l).unt.parts.l.map TPrt.c), D.sl ((joinM us.l).unt.marks.nn) ((joinM us.l).unt.marks.l.map TMrk.c), D.sl ((joinM us.l).unt.globals.nn) ((joinM us.l).unt.globals.l.map TTld.c)]])] ([]) (V.d (D.agg [D.sl ((joinM [(joinM us.l).unt]).unt.parts.nn) ((joinM [(joinM us.l).unt]).unt.parts.l.map TPrt.c), D.sl ((joinM [(joinM us.l).unt]).unt.marks.nn) ((joinM [(joinM us.l).unt]).unt.marks.l.map TMrk.c), D.sl ((joinM [(joinM us.l).unt]).unt.globals.nn) ((joinM [(joinM us.l).unt]).unt.globals.l.map TTld.c)])) ([]))
    (c15 : Rn pg 13 [V.d (D.agg [D.sl ((joinM us.l).unt.parts.nn) ((joinM us.l).unt.parts.l.map TPrt.c), D.sl ((joinM us.l).unt.marks.nn) ((joinM us.l).unt.marks.l.map TMrk.c), D.sl ((joinM us.l).unt.globals.nn) ((joinM us.l).unt.globals.l.map TTld.c)]), V.d (D.agg [D.sl ((joinM [(joinM us.l).unt]).unt.parts.nn) ((joinM [(joinM us.l).unt]).unt.parts.l.map TPrt.c), D.sl ((joinM [(joinM us.l).unt]).unt.marks.nn) ((joinM [(joinM us.l).unt]).unt.marks.l.map TMrk.c), D.sl ((joinM [(joinM us.l).unt]).unt.globals.nn) ((joinM [(joinM us.l).unt]).unt.globals.l.map TTld.c)])] ([]) (V.d (D.bool true)) ([])) :
    Rn pg 4 [V.d (D.sl us.nn (us.l.map TUnt.c)), V.d (D.int .u8 at_)] (hp) (V.d (D.bool true)) (hp) :=
  Rn.c (fn := i4) (ex := .ret) (st := ⟨[(4, V.d (D.bool true))], [] :: hp⟩) (hs := [.call (V.d (D.bool true)) ([]), .b false, .b false, .call (V.d (D.bool fw)) ([]), .b false, .b false, .b false, .call (V.d (D.agg [D.sl ((joinM us.l).unt.parts.nn) ((joinM us.l).unt.parts.l.map TPrt.c), D.sl ((joinM us.l).unt.marks.nn) ((joinM us.l).unt.marks.l.map TMrk.c), D.sl ((joinM us.l).unt.globals.nn) ((joinM us.l).unt.globals.l.map TTld.c)])) ([]), .n k1, .call (V.d (D.agg [D.sl ((joinM (us.l.take k1)).unt.parts.nn) ((joinM (us.l.take k1)).unt.parts.l.map TPrt.c), D.sl ((joinM (us.l.take k1)).unt.marks.nn) ((joinM (us.l.take k1)).unt.marks.l.map TMrk.c), D.sl ((joinM (us.l.take k1)).unt.globals.nn) ((joinM (us.l.take k1)).unt.globals.l.map TTld.c)])) ([]), .n k1, .call (V.d (D.agg [D.sl ((joinM (us.l.drop k1)).unt.parts.nn) ((joinM (us.l.drop k1)).unt.parts.l.map TPrt.c), D.sl ((joinM (us.l.drop k1)).unt.marks.nn) ((joinM (us.l.drop k1)).unt.marks.l.map TMrk.c), D.sl ((joinM (us.l.drop k1)).unt.globals.nn) ((joinM (us.l.drop k1)).unt.globals.l.map TTld.c)])) ([]), .call (V.d (D.agg [D.sl ((joinM [(joinM (us.l.take k1)).unt, (joinM (us.l.drop k1)).unt]).unt.parts.nn) ((joinM [(joinM (us.l.take k1)).unt, (joinM (us.l.drop k1)).unt]).unt.parts.l.map TPrt.c), D.sl ((joinM [(joinM (us.l.take k1)).unt, (joinM (us.l.drop k1)).unt]).unt.marks.nn) ((joinM [(joinM (us.l.take k1)).unt, (joinM (us.l.drop k1)).unt]).unt.marks.l.map TMrk.c), D.sl ((joinM [(joinM (us.l.take k1)).unt, (joinM (us.l.drop k1)).unt]).unt.globals.nn) ((joinM [(joinM (us.l.take k1)).unt, (joinM (us.l.drop k1)).unt]).unt.globals.l.map TTld.c)])) ([]), .call (V.d (D.bool true)) ([]), .b false, .call (V.d (D.agg [D.sl ((joinM [(joinM us.l).unt]).unt.parts.nn) ((joinM [(joinM us.l).unt]).unt.parts.l.map TPrt.c), D.sl ((joinM [(joinM us.l).unt]).unt.marks.nn) ((joinM [(joinM us.l).unt]).unt.marks.l.map TMrk.c), D.sl ((joinM [(joinM us.l).unt]).unt.globals.nn) ((joinM [(joinM us.l).unt]).unt.globals.l.map TTld.c)])) ([]), .call (V.d (D.bool true)) ([])]) (cs := [_, false = false, false = false, _, false = false, false = false, _, _, _, _, 0 ≤ k1, _, _, _, _, _, _, _, _, _, _, false = false, _, _]) (rs := [V.d (D.bool true)]) (t := [])
    (by kernel_rfl) (by kernel_rfl) (by kernel_rfl) (by kernel_rfl) (by kernel_rfl) (by kernel_rfl) ⟨c0, rfl, rfl, c1, rfl, rfl, c2, c3, c4, c5, Nat.zero_le _, c6, c7, c8, c5, c9, c10, c7, c11, c12, c13, rfl, c14, c15, trivial⟩
theorem w4_1 (us : Sl TUnt) (at_ : Int) (fw : Bool) (hp : HL)
    (c0 : Rn pg 7 [] ([]) (V.d (D.bool true)) ([]))
    (c1 : Rn pg 15 [V.d (D.sl us.nn (us.l.map TUnt.c))] ([]) (V.d (D.bool fw)) ([]))
    (c2 : (!fw) = true) :
    Rn pg 4 [V.d (D.sl us.nn (us.l.map TUnt.c)), V.d (D.int .u8 at_)] (hp) (V.d (D.bool true)) (hp) :=
  Rn.c (fn := i4) (ex := .ret) (st := ⟨[(4, V.d (D.bool true))], [] :: hp⟩) (hs := [.call (V.d (D.bool true)) ([]), .b false, .b false, .call (V.d (D.bool fw)) ([]), .b false, .b false, .b true, .call (V.d (D.bool true)) ([])]) (cs := [_, false = false, false = false, _, false = false, false = false, _, _]) (rs := [V.d (D.bool true)]) (t := [])
    (by kernel_rfl) (by kernel_rfl) (by kernel_rfl) (by kernel_rfl) (by kernel_rfl) (by kernel_rfl) ⟨c0, rfl, rfl, c1, rfl, rfl, c2, c0, trivial⟩
end Go.Proofs.YtgmphfmoonbfpaaMv

namespace Go.Proofs.YtgmphfmoonbfpaaMv
open Go
def fewI (n : Int) (ps : List TPrt) : Int := ps.foldl (fun n p => if decide (1048576 < IntKind.i64.wrap (n + (((p.pieces.l.map TPce.c).length : Nat) : Int))) = true then 1048576 else IntKind.i64.wrap (n + (((p.pieces.l.map TPce.c).length : Nat) : Int))) n
theorem l15i (un : Bool) (us : List TUnt) (vn : Bool) (vs : List TUnt) (n : Int) (i : Nat) (x : TUnt) (hp : HL) (hl : x.parts.l.length < 2 ^ 30) :
    Lp pg i15_l2 ⟨[(0, V.d (D.sl un (us.map TUnt.c))), (3, V.d (D.int .i64 n)), (12, V.d (D.sl vn (vs.map TUnt.c))), (13, V.d (D.int .i64 ((vs.length : Nat) : Int))), (14, V.d (D.int .i64 ((i : Nat) : Int))), (35, V.d (D.sl x.parts.nn (x.parts.l.map TPrt.c))), (36, V.d (D.int .i64 ((x.parts.l.length : Nat) : Int))), (37, V.d (D.int .i64 ((0 : Nat) : Int)))], [] :: hp⟩ (.exit 2)
      ⟨[(0, V.d (D.sl un (us.map TUnt.c))), (3, V.d (D.int .i64 (fewI n x.parts.l))), (12, V.d (D.sl vn (vs.map TUnt.c))), (13, V.d (D.int .i64 ((vs.length : Nat) : Int))), (14, V.d (D.int .i64 ((i : Nat) : Int))), (35, V.d (D.sl x.parts.nn (x.parts.l.map TPrt.c))), (36, V.d (D.int .i64 ((x.parts.l.length : Nat) : Int))), (37, V.d (D.int .i64 ((x.parts.l.length : Nat) : Int))), (38, V.d (D.bool false))], [] :: hp⟩ := by
  refine Lp.count (p := pg) (b := i15_l2) (id := 2) (n := x.parts.l.length) (S := fun k => ⟨[(0, V.d (D.sl un (us.map TUnt.c))), (3, V.d (D.int .i64 (fewI n (x.parts.l.take k)))), (12, V.d (D.sl vn (vs.map TUnt.c))), (13, V.d (D.int .i64 ((vs.length : Nat) : Int))), (14, V.d (D.int .i64 ((i : Nat) : Int))), (35, V.d (D.sl x.parts.nn (x.parts.l.map TPrt.c))), (36, V.d (D.int .i64 ((x.parts.l.length : Nat) : Int))), (37, V.d (D.int .i64 ((k : Nat) : Int)))], [] :: hp⟩)
    (fun k hk => ?_) (by rw [List.take_length]; exact w15i_0 un us vn vs _ i x x.parts.l.length hp (nltd _))
  have hg : x.parts.l[k]? = some x.parts.l[k] := List.getElem?_eq_getElem hk
  have e : fewI n (x.parts.l.take (k + 1)) = _ := foldl_take_succ _ _ _ _ hk
  simp only [e]
  have r := w15i_1 un us vn vs (fewI n (x.parts.l.take k)) i x k hp x.parts.l[k] (ltd hk) (map_get (f := TPrt.c) hg)
  rw [wrap64 (x := ((k : Nat) : Int) + 1) (by omega) (by omega)] at r
  exact r
theorem l15o (un : Bool) (us : List TUnt) (vn : Bool) (vs : List TUnt) (hp : HL) (hl : ∀ u ∈ vs, u.parts.l.length < 2 ^ 30) (hv : vs.length < 2 ^ 30) : ∀ (r i : Nat) (n : Int), vs.length - i = r → i ≤ vs.length →
    Lp pg i15_l0 ⟨[(0, V.d (D.sl un (us.map TUnt.c))), (3, V.d (D.int .i64 n)), (12, V.d (D.sl vn (vs.map TUnt.c))), (13, V.d (D.int .i64 ((vs.length : Nat) : Int))), (14, V.d (D.int .i64 ((i : Nat) : Int)))], [] :: hp⟩ .ret ⟨[(2, V.d (D.bool false))], [] :: hp⟩ ∨
    ∃ m : Int, Lp pg i15_l0 ⟨[(0, V.d (D.sl un (us.map TUnt.c))), (3, V.d (D.int .i64 n)), (12, V.d (D.sl vn (vs.map TUnt.c))), (13, V.d (D.int .i64 ((vs.length : Nat) : Int))), (14, V.d (D.int .i64 ((i : Nat) : Int)))], [] :: hp⟩ (.exit 0)
      ⟨[(0, V.d (D.sl un (us.map TUnt.c))), (3, V.d (D.int .i64 m)), (12, V.d (D.sl vn (vs.map TUnt.c))), (13, V.d (D.int .i64 ((vs.length : Nat) : Int))), (14, V.d (D.int .i64 ((vs.length : Nat) : Int))), (15, V.d (D.bool false))], [] :: hp⟩ := by
  intro r
  induction r with
  | zero =>
    intro i n hr hi
    have : i = vs.length := by omega
    subst this
    exact .inr ⟨n, Lp.exit (w15o_0 un us vn vs n vs.length hp (nltd _))⟩
  | succ r ih =>
    intro i n hr hi
    have hlt : i < vs.length := by omega
    have hg : vs[i]? = some vs[i] := List.getElem?_eq_getElem hlt
    have hx := hl _ (List.getElem_mem hlt)
    generalize vs[i] = x at hg hx
    cases c2 : decide ((((x.parts.l.map TPrt.c).length : Nat) : Int) > 150) with
    | true => exact .inl (Lp.ret (w15o_4 un us vn vs n i hp x (ltd hlt) (map_get (f := TUnt.c) hg) c2))
    | false =>
      cases c3 : decide ((((x.marks.l.map TMrk.c).length : Nat) : Int) > 300) with
      | true => exact .inl (Lp.ret (w15o_3 un us vn vs n i hp x (ltd hlt) (map_get (f := TUnt.c) hg) c2 c3))
      | false =>
        cases c4 : decide ((((x.globals.l.map TTld.c).length : Nat) : Int) > 300) with
        | true => exact .inl (Lp.ret (w15o_2 un us vn vs n i hp x (ltd hlt) (map_get (f := TUnt.c) hg) c2 c3 c4))
        | false =>
          have hi15 := l15i un us vn vs n i x hp hx
          have r1 := w15o_1 un us vn vs n i hp x (fewI n x.parts.l) (ltd hlt) (map_get (f := TUnt.c) hg) c2 c3 c4 (by simp only [List.length_map]; exact hi15)
          rw [wrap64 (x := ((i : Nat) : Int) + 1) (by omega) (by omega)] at r1
          rcases ih (i + 1) (fewI n x.parts.l) (by omega) (by omega) with h | ⟨m, h⟩
          · exact .inl (Lp.next r1 h)
          · exact .inr ⟨m, Lp.next r1 h⟩
theorem f15 (un : Bool) (us : List TUnt) (hp : HL) (hl : ∀ u ∈ us, u.parts.l.length < 2 ^ 30) : ∃ b, Rn pg 15 [V.d (D.sl un (us.map TUnt.c))] hp (V.d (D.bool b)) hp := by
  have hk : (if decide (40 < (((us.map TUnt.c).length : Nat) : Int)) = true then (40 : Int) else (((us.map TUnt.c).length : Nat) : Int)) = ((min 40 us.length : Nat) : Int) := by
    simp only [List.length_map, decide_eq_true_eq]
    split <;> omega
  have e : List.drop 0 (List.take (min 40 us.length) (us.map TUnt.c)) = (us.take (min 40 us.length)).map TUnt.c := by simp [List.map_take]
  have h := l15o un us (un || !(us.map TUnt.c).isEmpty) (us.take (min 40 us.length)) hp (fun u hu => hl u (List.mem_of_mem_take hu)) (by simp; omega) _ 0 0 rfl (Nat.zero_le _)
  rcases h with h | ⟨m, h⟩
  · exact ⟨_, w15_2 un us hp _ hk (by simp; omega) (all_len (f := TUnt.c) (fun _ => rfl) _) (by rw [e]; simp only [List.length_map]; exact h)⟩
  · cases c : decide ((((us.map TUnt.c).length : Nat) : Int) ≤ 40) with
    | true => exact ⟨_, w15_1 un us hp _ m hk (by simp; omega) (all_len (f := TUnt.c) (fun _ => rfl) _) (by rw [e]; simp only [List.length_map]; exact h) c⟩
    | false => exact ⟨_, w15_0 un us hp _ m hk (by simp; omega) (all_len (f := TUnt.c) (fun _ => rfl) _) (by rw [e]; simp only [List.length_map]; exact h) c⟩
structure usOk (us : List TUnt) : Prop where
  wt : (us.map TUnt.wt).sum < 2 ^ 27
  len : us.length < 2 ^ 27
  ok : ∀ u ∈ us, u.ok
theorem usOk.sub {us vs : List TUnt} (h : usOk us) (hs : vs.Sublist us) : usOk vs :=
  ⟨Nat.lt_of_le_of_lt (List.Sublist.sum_le_sum' (hs.map _)) h.wt, Nat.lt_of_le_of_lt hs.length_le h.len, fun u hu => h.ok u (hs.subset hu)⟩
where List.Sublist.sum_le_sum' : ∀ {a b : List Nat}, a.Sublist b → a.sum ≤ b.sum
  | _, _, .slnil => Nat.le_refl _
  | _, _, .cons _ h => by have := List.Sublist.sum_le_sum' h; simp; omega
  | _, _, .cons_cons _ h => by have := List.Sublist.sum_le_sum' h; simp; omega
theorem f16' (un : Bool) {us : List TUnt} (h : usOk us) : Rn pg 16 [V.d (D.sl un (us.map TUnt.c))] [] (V.d (D.agg (joinM us).unt.c)) [] :=
  f16 un us [] (by have := h.wt; simp only [wtus]; omega) (by have := h.len; omega) h.ok
theorem f13' {a : JU} {b : TUnt} (h : a.unt.sim b) (ok : a.unt.ok) (hw : a.unt.wt < 2 ^ 29) : Rn pg 13 [V.d (D.agg a.unt.c), V.d (D.agg b.c)] [] (V.d (D.bool true)) [] := by
  rw [unt_wt] at hw
  have hpl := pw_len a.parts
  refine f13 a.unt b h (by simp [JU.unt]; omega) (fun p hp => ⟨?_, fun x hx => (ok p hp x hx).1⟩) (by simp [JU.unt]; omega) (by simp [JU.unt]; omega) []
  simp only [JU.unt, List.mem_map] at hp
  obtain ⟨q, hq, rfl⟩ := hp
  have := pw_get hq
  simp [OPrt.t]; omega
theorem sum_append_wt (a b : List TUnt) : ((a ++ b).map TUnt.wt).sum = (a.map TUnt.wt).sum + (b.map TUnt.wt).sum := by simp
theorem f4 (us : Sl TUnt) (b : UInt8) (h : usOk us.l) (hl : ∀ u ∈ us.l, u.parts.l.length < 2 ^ 30) (hp : HL) : Rn pg 4 [V.d (D.sl us.nn (us.l.map TUnt.c)), V.d (D.int .u8 (b.toNat : Int))] hp (V.d (D.bool true)) hp := by
  obtain ⟨fw, hfw⟩ := f15 us.nn us.l [] hl
  cases hf : fw with
  | false => subst hf; exact w4_1 us _ false hp f7 hfw rfl
  | true =>
    subst hf
    have hb : b.toNat < 256 := b.toNat_lt
    have hlen := h.len
    have hk : b.toNat % (us.l.length + 1) < us.l.length + 1 := Nat.mod_lt _ (by omega)
    generalize hkd : b.toNat % (us.l.length + 1) = k at hk
    have e0 : IntKind.i64.wrap ((((us.l.map TUnt.c).length : Nat) : Int) + 1) = ((us.l.length + 1 : Nat) : Int) := by
      rw [wrap64 (by simp; omega) (by simp; omega)]; simp
    have e1 : Int.tmod (IntKind.i64.wrap (b.toNat : Int)) (IntKind.i64.wrap ((((us.l.map TUnt.c).length : Nat) : Int) + 1)) = ((k : Nat) : Int) := by
      rw [e0, wrap64 (by omega) (by omega), ← hkd]
      exact (Int.ofNat_tmod _ _).symm
    have ht : List.drop 0 (List.take k (us.l.map TUnt.c)) = (us.l.take k).map TUnt.c := by simp [List.map_take]
    have hd : List.drop k (List.take (us.l.map TUnt.c).length (us.l.map TUnt.c)) = (us.l.drop k).map TUnt.c := by rw [List.take_length, List.map_drop]
    have a1 := h.sub (List.take_sublist k us.l)
    have a2 := h.sub (List.drop_sublist k us.l)
    have w1 := wt_joinM (us.l.take k)
    have w2 := wt_joinM (us.l.drop k)
    have w0 := wt_joinM us.l
    have hwt := h.wt
    have hs : ((us.l.take k).map TUnt.wt).sum + ((us.l.drop k).map TUnt.wt).sum = (us.l.map TUnt.wt).sum := by
      rw [← sum_append_wt, List.take_append_drop]
    have p2 : usOk [(joinM (us.l.take k)).unt, (joinM (us.l.drop k)).unt] := ⟨by simp; omega, by simp, fun u hu => by
      simp only [List.mem_cons, List.not_mem_nil, or_false] at hu
      rcases hu with rfl | rfl
      · exact ok_joinM a1.ok
      · exact ok_joinM a2.ok⟩
    have p1 : usOk [(joinM us.l).unt] := ⟨by simp; omega, by simp, fun u hu => by
      simp only [List.mem_cons, List.not_mem_nil, or_false] at hu
      subst hu
      exact ok_joinM h.ok⟩
    have s1 : (joinM us.l).unt.sim (joinM [(joinM (us.l.take k)).unt, (joinM (us.l.drop k)).unt]).unt := by
      have := join_groups (us.l.take k) (us.l.drop k)
      rw [List.take_append_drop] at this
      exact ju_sim this
    have s2 : (joinM us.l).unt.sim (joinM [(joinM us.l).unt]).unt := ju_sim (join_again us.l)
    exact w4_0 us _ true hp k f7 hfw rfl (by rw [e0]; omega) (f16' _ h) e1 (by simp; omega) (all_len (f := TUnt.c) (fun _ => rfl) _) (by rw [ht]; exact f16' _ a1) (by simp; omega) (Nat.le_refl _) (by rw [hd]; exact f16' _ a2)
      (f16' true p2) (f13' s1 (ok_joinM h.ok) (by omega)) (f16' true p1) (f13' s2 (ok_joinM h.ok) (by omega))
end Go.Proofs.YtgmphfmoonbfpaaMv

set_option maxRecDepth 100000
namespace Go.Proofs.YtgmphfmoonbfpaaMv
open Go Go.ChangeShapes Go.WideShapes Go.ChangeAt Go.RowKit
open Go.Proofs.Ytgmphfmoonbfpaa
theorem sums_le2 {α : Type} {f g : α → Nat} (h : ∀ x, f x ≤ g x) : ∀ l : List α, (l.map f).sum ≤ sums g l
  | [] => by simp [sums]
  | x :: l => by
    have h1 := sums_le2 h l
    have h2 := h x
    simp only [sums, List.map_cons, List.sum_cons] at *
    omega
theorem TPce.w_ok (x : TPce) : x.l.opers.l.length < x.w ∧ x.b.l.length < x.w ∧ 1 ≤ x.w := by
  have h1 := x.l.w_opers
  have h2 := len_sums (wt := fun _ : UInt8 => 1) (fun _ => Nat.le_refl _) x.b.l
  simp only [TPce.w]
  refine ⟨by omega, by omega, by omega⟩
theorem TPrt.w_wt (x : TPrt) : x.wt ≤ x.w ∧ sums TPce.w x.pieces.l ≤ x.w := by
  have h := len_sums (wt := TPce.w) (fun x => x.w_ok.2.2) x.pieces.l
  simp only [TPrt.wt, TPrt.w]
  refine ⟨by omega, by omega⟩
theorem TUnt.w_wt (x : TUnt) : x.wt ≤ x.w ∧ sums TPrt.w x.parts.l ≤ x.w := by
  have h1 := sums_le2 (f := TPrt.wt) (fun x => x.w_wt.1) x.parts.l
  have h2 := len_sums (wt := TMrk.w) (fun x => by unfold TMrk.w; omega) x.marks.l
  have h3 := len_sums (wt := TTld.w) (fun x => by unfold TTld.w; omega) x.globals.l
  simp only [TUnt.wt, TUnt.w]
  refine ⟨by omega, by omega⟩
theorem usOk_of {us : List TUnt} (h : sums TUnt.w us ≤ 1048576) : usOk us ∧ ∀ u ∈ us, u.parts.l.length < 2 ^ 30 := by
  have h1 := sums_le2 (f := TUnt.wt) (fun x => x.w_wt.1) us
  have h2 := len_sums (wt := TUnt.w) (fun x => by unfold TUnt.w; omega) us
  refine ⟨⟨by omega, by omega, fun u hu p hp x hx => ?_⟩, fun u hu => ?_⟩
  · have a1 := mem_sums (wt := TUnt.w) hu
    have a2 := mem_sums (wt := TPrt.w) hp
    have a3 := mem_sums (wt := TPce.w) hx
    have b1 := u.w_wt.2
    have b2 := p.w_wt.2
    have b3 := x.w_ok
    exact ⟨by omega, by omega⟩
  · have a1 := mem_sums (wt := TUnt.w) hu
    have a2 := len_sums (wt := TPrt.w) (fun x => by unfold TPrt.w; omega) u.parts.l
    have b1 := u.w_wt.2
    omega
theorem contract4 (H : Type) (enc : TypeId × Value → H) (W : World) (base : Nat) (args : Array Value) (ds gs : List (DataW H)) (before : List MemPlace)
    (hval : ∀ (j : Nat) t v, Try.f4.params[j]? = some t → args[j]? = some v → Value.okWide Try.prog W .any base t v)
    (hW : DataW.Whole enc Try.prog Try.f4.params.toList Rows.fragGroupsSpec.vars false W args.toList ds gs before) (hk : Rows.uptoSmall H (ds ++ gs) = true) :
    Calls Try.prog 4 args W fun e W' => ∃ v, e = .returned v ∧ Rows.fragGroupsSpec.post enc Try.prog Try.f4 false true false false W args v W' := by
  have hW' := hW
  obtain ⟨p, q, hA0, hV, hbf, hfz, hnd⟩ := hW
  have hA : DataW.TrodAll enc Try.prog W 0 (fun _ => true) true Try.f4.params.toList args.toList ds p := hA0
  rw [Try.params4] at hA hval
  obtain ⟨v0, vs0, d0, ds0, p0, q0, hargs, rfl, _, h0, r0⟩ := trodAll_cons hA
  obtain ⟨v1, vs1, d1, ds1, p1, q1, rfl, rfl, _, h1, r1⟩ := trodAll_cons r0
  obtain ⟨rfl, rfl, _⟩ := trodAll_nil r1
  obtain rfl : args = #[v0, v1] := by cases args; simp_all
  obtain ⟨rfl, _⟩ := trodVars_none hV
  obtain ⟨sa, sl, sc, rfl⟩ := okWide_slice (e := 32) (by kernel_rfl) (hval 0 44 v0 rfl rfl)
  obtain ⟨a1, rfl⟩ := okWide_int (k := .u8) (by kernel_rfl) (hval 1 5 v1 rfl rfl)
  obtain ⟨f0, t0⟩ := h0
  obtain ⟨f1, t1⟩ := h1
  obtain ⟨us, c0, w0⟩ := rd44 W H enc f0 _ d0 p0 t0
  obtain ⟨b, c1, _⟩ := rd5 W H enc f1 _ d1 p1 t1
  have hb : Rows.uptoBulk d0 + Rows.uptoBulk d1 ≤ 1048576 := by
    have := of_decide_eq_true hk
    simp only [List.append_nil, Rows.uptoBulkAll] at this
    omega
  have w0' : sums TUnt.w us.l + 1 ≤ Rows.uptoBulk d0 := w0
  obtain ⟨hu, hl⟩ := usOk_of (us := us.l) (by omega)
  have hrv : RVL (fun _ => False) (hof ([] : HL)) (fun _ _ _ => 0) W [V.d (D.sl us.nn (us.l.map TUnt.c)), V.d (D.int .u8 (b.toNat : Int))] #[.slice sa sl sc, .int .u8 a1] := by
    refine ⟨rfl, fun i v x hv hx => ?_⟩
    match i, hv, hx with
    | 0, hv, hx => simp at hv hx; subst hv; subst hx; exact rv_of_one c0
    | 1, hv, hx => simp at hv hx; subst hv; subst hx; exact rv_of_one c1
  refine (calls_true (g := 4) (fn := i4) rfl hrv (f4 us b hu hl [])).mono fun e W' ⟨he, hL⟩ => ?_
  subst he
  exact ⟨_, rfl, post_true hW' rfl rfl (tb := 4) (by kernel_rfl) (by rw [Try.params4]; decide) rfl hL⟩
theorem lifted4 (os : Os) (started : os.Started) (H : Type) (enc : TypeId × Value → H) (F : Stop.Interp) :
    ReturnsInHanded {} Try.checked os 4 .any ((Rows.OpenSpec.upto Rows.fragGroupsSpec).pre6 enc Try.prog Try.f4 Rows.fragGroupsUptoRow.domain false) (((Rows.OpenSpec.upto Rows.fragGroupsSpec).at F).post enc Try.prog Try.f4 false true false false) := by
  refine returnsInHanded_of_cond (C := Try.checked) (s := Rows.OpenSpec.upto Rows.fragGroupsSpec) (k := Rows.uptoSmall) rfl own started (by kernel_rfl) Try.func4
    (OpenSpec.witness (enc := enc) (C := Try.checked) (s := Rows.OpenSpec.upto Rows.fragGroupsSpec) (k := Rows.uptoSmall) rfl false ⟨#[], #[.slice none 0 0, .int .u8 0], []⟩ 8 (by kernel_rfl) (by kernel_rfl) (by kernel_rfl)
      (x := ([.nil, .lit (.int .u8 0)], [], [])) (by kernel_rfl) rfl (by kernel_rfl)) ?_
  intro W base args ds gs before hval hW _ hk _
  exact contract4 H enc W base args ds gs before hval hW hk
theorem over4 : Rows.fragGroupsUptoRow.holds Try.pinned (Rows.OpenSpec.upto Rows.fragGroupsSpec) :=
  OpenClaim.holds_of_cond 4 Try.f4 rfl rfl rfl rfl rfl rfl rfl ⟨rfl, rfl, rfl, rfl, rfl⟩ rfl rfl rfl rfl rfl (by kernel_rfl) Try.func4 (by kernel_rfl)
    (of_decide_eq_true (by kernel_rfl)) (by unfold Func.isWrapper; first | (rw [if_pos (by decide +kernel)]; kernel_rfl) | (rw [if_neg (by decide +kernel)]; exact ⟨rfl, rfl⟩))
    (fun os started H enc _ F => lifted4 os started H enc F)
theorem fragGroups_proved : Rows.FragGroupsUptoSaid := over4
end Go.Proofs.YtgmphfmoonbfpaaMv
