/- Part 9 of the proof. -/
import Derived.Test.YtgmphfmoonbfpaaP8
import Derived.ReadAgain
import Derived.WalkKit
import Derived.ProofKit
import Derived.OpenShut
import Derived.JoinedCond
set_option linter.unusedVariables false
set_option linter.unusedSimpArgs false
set_option maxRecDepth 100000
namespace Go.Proofs.YtgmphfmoonbfpaaMv
open Go
theorem w71l_0 (n1 : Bool) (n2 : Bool) (l : List TOpr) (i : Nat) (hp : HL)
    (c0 : (decide (((i : Nat) : Int) < (((l.map TOpr.c).length : Nat) : Int))) = false) :
    Ev pg i71_l0 ⟨[(0, V.d (D.sl n1 (l.map TOpr.c))), (1, V.d (D.sl n2 (l.map TOpr.c))), (5, V.d (D.int .i64 ((i : Nat) : Int)))], [] :: hp⟩ (.exit 0) ⟨[(0, V.d (D.sl n1 (l.map TOpr.c))), (1, V.d (D.sl n2 (l.map TOpr.c))), (5, V.d (D.int .i64 ((i : Nat) : Int))), (14, V.d (D.bool false))], [] :: hp⟩ :=
  by
  have r : Ev pg i71_l0 ⟨[(0, V.d (D.sl n1 (l.map TOpr.c))), (1, V.d (D.sl n2 (l.map TOpr.c))), (5, V.d (D.int .i64 ((i : Nat) : Int)))], [] :: hp⟩ (.exit 0) ⟨[(0, V.d (D.sl n1 (l.map TOpr.c))), (1, V.d (D.sl n2 (l.map TOpr.c))), (5, V.d (D.int .i64 ((i : Nat) : Int))), (14, V.d (D.bool (decide (((i : Nat) : Int) < (((l.map TOpr.c).length : Nat) : Int)))))], [] :: hp⟩ :=
  codeC_ok (hs := [.b false]) (hs' := []) (cs := [_]) (by kernel_rfl) ⟨c0, trivial⟩
  simp only [c0] at r
  exact r
theorem w71l_1 (n1 : Bool) (n2 : Bool) (l : List TOpr) (i : Nat) (hp : HL) (x1 : TOpr)
    (c0 : (decide (((i : Nat) : Int) < (((l.map TOpr.c).length : Nat) : Int))) = true)
    (c1 : (l.map TOpr.c)[i]? = some [D.int .i64 x1.kind, D.int .i64 x1.r.n, D.bool x1.r.x, D.bool x1.r.sp, D.int .i64 x1.m.n, D.bool x1.m.x, D.bool x1.m.sp, D.int .i64 x1.md, D.int .i64 x1.amt, D.int .i64 x1.n, D.int .i64 x1.v.add, D.str x1.v.plus, D.str x1.v.minus, D.bool x1.lo, D.int .i64 x1.mode])
    (c2 : deqT true [1, 1, 0, 0, 1, 0, 0, 1, 1, 1, 1, 2, 2, 0, 1] (D.agg [D.int .i64 x1.kind, D.int .i64 x1.r.n, D.bool x1.r.x, D.bool x1.r.sp, D.int .i64 x1.m.n, D.bool x1.m.x, D.bool x1.m.sp, D.int .i64 x1.md, D.int .i64 x1.amt, D.int .i64 x1.n, D.int .i64 x1.v.add, D.str x1.v.plus, D.str x1.v.minus, D.bool x1.lo, D.int .i64 x1.mode]) (D.agg [D.int .i64 x1.kind, D.int .i64 x1.r.n, D.bool x1.r.x, D.bool x1.r.sp, D.int .i64 x1.m.n, D.bool x1.m.x, D.bool x1.m.sp, D.int .i64 x1.md, D.int .i64 x1.amt, D.int .i64 x1.n, D.int .i64 x1.v.add, D.str x1.v.plus, D.str x1.v.minus, D.bool x1.lo, D.int .i64 x1.mode]) = some true) :
    Ev pg i71_l0 ⟨[(0, V.d (D.sl n1 (l.map TOpr.c))), (1, V.d (D.sl n2 (l.map TOpr.c))), (5, V.d (D.int .i64 ((i : Nat) : Int)))], [] :: hp⟩ .normal ⟨[(0, V.d (D.sl n1 (l.map TOpr.c))), (1, V.d (D.sl n2 (l.map TOpr.c))), (5, V.d (D.int .i64 (IntKind.i64.wrap (((i : Nat) : Int) + 1))))], [] :: hp⟩ :=
  codeC_ok (hs := [.b true, .n i, .ds [D.int .i64 x1.kind, D.int .i64 x1.r.n, D.bool x1.r.x, D.bool x1.r.sp, D.int .i64 x1.m.n, D.bool x1.m.x, D.bool x1.m.sp, D.int .i64 x1.md, D.int .i64 x1.amt, D.int .i64 x1.n, D.int .i64 x1.v.add, D.str x1.v.plus, D.str x1.v.minus, D.bool x1.lo, D.int .i64 x1.mode], .n i, .ds [D.int .i64 x1.kind, D.int .i64 x1.r.n, D.bool x1.r.x, D.bool x1.r.sp, D.int .i64 x1.m.n, D.bool x1.m.x, D.bool x1.m.sp, D.int .i64 x1.md, D.int .i64 x1.amt, D.int .i64 x1.n, D.int .i64 x1.v.add, D.str x1.v.plus, D.str x1.v.minus, D.bool x1.lo, D.int .i64 x1.mode], .b true, .b false]) (hs' := []) (cs := [_, ((i : Nat) : Int) = ((i : Nat) : Int), _, ((i : Nat) : Int) = ((i : Nat) : Int), _, _, false = false]) (by kernel_rfl) ⟨c0, rfl, c1, rfl, c1, c2, rfl, trivial⟩
theorem w71_0 (n1 : Bool) (n2 : Bool) (l : List TOpr) (hp : HL)
    (c0 : ((((l.map TOpr.c).length : Nat) : Int) != (((l.map TOpr.c).length : Nat) : Int)) = false)
    (c1 : Lp pg i71_l0 ⟨[(0, V.d (D.sl n1 (l.map TOpr.c))), (1, V.d (D.sl n2 (l.map TOpr.c))), (5, V.d (D.int .i64 0))], [] :: hp⟩ (.exit 0) ⟨[(0, V.d (D.sl n1 (l.map TOpr.c))), (1, V.d (D.sl n2 (l.map TOpr.c))), (5, V.d (D.int .i64 ((l.length : Nat) : Int))), (14, V.d (D.bool false))], [] :: hp⟩) :
    Rn pg 71 [V.d (D.sl n1 (l.map TOpr.c)), V.d (D.sl n2 (l.map TOpr.c))] (hp) (V.d (D.bool true)) (hp) :=
  Rn.c (fn := i71) (ex := .ret) (st := ⟨[(4, V.d (D.bool true))], [] :: hp⟩) (hs := [.b false, .lp (.exit 0) ⟨[(0, V.d (D.sl n1 (l.map TOpr.c))), (1, V.d (D.sl n2 (l.map TOpr.c))), (5, V.d (D.int .i64 ((l.length : Nat) : Int))), (14, V.d (D.bool false))], [] :: hp⟩]) (cs := [_, _]) (rs := [V.d (D.bool true)]) (t := [])
    (by kernel_rfl) (by kernel_rfl) (by kernel_rfl) (by kernel_rfl) (by kernel_rfl) (by kernel_rfl) ⟨c0, c1, trivial⟩
theorem w58_0 (a : TPce) (b : TPce) (hp : HL)
    (c0 : (a.kind == b.kind) = true)
    (c1 : (a.file == b.file) = true)
    (c2 : (a.line == b.line) = true)
    (c3 : (a.l.name == b.l.name) = true)
    (c4 : Rn pg 71 [V.d (D.sl a.l.opers.nn (a.l.opers.l.map TOpr.c)), V.d (D.sl b.l.opers.nn (b.l.opers.l.map TOpr.c))] ([]) (V.d (D.bool true)) ([]))
    (c5 : deqT true [1, 2, 2] (D.agg [D.int .i64 a.v.add, D.str a.v.plus, D.str a.v.minus]) (D.agg [D.int .i64 b.v.add, D.str b.v.plus, D.str b.v.minus]) = some true)
    (c6 : (a.size == b.size) = true)
    (c7 : List.all (a.b.l.map u8c) (fun x => x.length == 1) = true)
    (c8 : allDs (List.map (fun x => List.map C.d x) (a.b.l.map u8c)) = some (a.b.l.map u8c))
    (c9 : strOf (a.b.l.map u8c) = some a.b.l)
    (c10 : List.all (b.b.l.map u8c) (fun x => x.length == 1) = true)
    (c11 : allDs (List.map (fun x => List.map C.d x) (b.b.l.map u8c)) = some (b.b.l.map u8c))
    (c12 : strOf (b.b.l.map u8c) = some b.b.l)
    (c13 : (a.b.l == b.b.l) = true) :
    Rn pg 58 [V.d (D.agg [D.int .i64 a.kind, D.int .i64 a.file, D.int .i64 a.line, D.str a.l.name, D.sl a.l.opers.nn (a.l.opers.l.map TOpr.c), D.int .i64 a.v.add, D.str a.v.plus, D.str a.v.minus, D.int .i64 a.size, D.sl a.b.nn (a.b.l.map u8c), D.int .i64 a.align]), V.d (D.agg [D.int .i64 b.kind, D.int .i64 b.file, D.int .i64 b.line, D.str b.l.name, D.sl b.l.opers.nn (b.l.opers.l.map TOpr.c), D.int .i64 b.v.add, D.str b.v.plus, D.str b.v.minus, D.int .i64 b.size, D.sl b.b.nn (b.b.l.map u8c), D.int .i64 b.align])] (hp) (V.d (D.bool (a.align == b.align))) (hp) :=
  Rn.c (fn := i58) (ex := .ret) (st := ⟨[(4, V.d (D.bool (a.align == b.align)))], [] :: hp⟩) (hs := [.b true, .b true, .b true, .b true, .b true, .b true, .b true, .b true, .b true, .b true, .b true, .b true, .b true, .b true, .b true, .b true, .b true, .b true, .b true, .b true, .b true, .b true, .b true, .b true, .b true, .b true, .b true, .call (V.d (D.bool true)) ([]), .b true, .b true, .b true, .b true, .b true, .b true, .b true, .b true, .b true, .b true, .b true, .b true, .b true, .b true, .b true, .b true, .b true, .ees (a.b.l.map u8c), .s a.b.l, .b true, .b true, .b true, .ees (b.b.l.map u8c), .s b.b.l, .b true, .b true, .b true, .b true, .b true, .b true, .b true, .b true]) (cs := [_, _, _, _, _, _, _, _, _, _, _, _, _, _, _, _, _, _, _, _, _, _, _, _, _, _, _, _, _, true = true, true = true, true = true, true = true, true = true, _, true = true, true = true, true = true, true = true, true = true, true = true, true = true, _, _, _, _, _, _, _, _, _, _, _, _, _, _, _, _, _, _, _, _]) (rs := [V.d (D.bool (a.align == b.align))]) (t := [])
    (by kernel_rfl) (by kernel_rfl) (by kernel_rfl) (by kernel_rfl) (by kernel_rfl) (by kernel_rfl) ⟨c0, c0, c0, c0, c0, c0, c1, c1, c1, c1, c1, c1, c2, c2, c2, c2, c2, c2, c2, c2, c3, c3, c3, c3, c3, c3, c3, c4, c3, rfl, rfl, rfl, rfl, rfl, c5, rfl, rfl, rfl, rfl, rfl, rfl, rfl, c6, c6, c6, c7, c8, c9, c6, c6, c6, c10, c11, c12, c6, c6, c13, c13, c13, c13, c13, c13, trivial⟩
theorem w31i_0 (aa : Sl TPrt) (bs : Sl TPrt) (i : Nat) (j : Nat) (hp : HL) (x1 : TPrt)
    (c0 : (aa.l.map TPrt.c)[i]? = some [D.str x1.name, D.int .i64 x1.file, D.int .i64 x1.line, D.sl x1.pieces.nn (x1.pieces.l.map TPce.c)])
    (c1 : (decide (((j : Nat) : Int) < (((x1.pieces.l.map TPce.c).length : Nat) : Int))) = false) :
    Ev pg i31_l2 ⟨[(0, V.d (D.sl aa.nn (aa.l.map TPrt.c))), (1, V.d (D.sl bs.nn (bs.l.map TPrt.c))), (5, V.d (D.int .i64 ((i : Nat) : Int))), (6, V.d (D.int .i64 ((j : Nat) : Int)))], [] :: hp⟩ (.exit 2) ⟨[(0, V.d (D.sl aa.nn (aa.l.map TPrt.c))), (1, V.d (D.sl bs.nn (bs.l.map TPrt.c))), (5, V.d (D.int .i64 ((i : Nat) : Int))), (6, V.d (D.int .i64 ((j : Nat) : Int))), (77, V.d (D.bool false))], [] :: hp⟩ :=
  by
  have r : Ev pg i31_l2 ⟨[(0, V.d (D.sl aa.nn (aa.l.map TPrt.c))), (1, V.d (D.sl bs.nn (bs.l.map TPrt.c))), (5, V.d (D.int .i64 ((i : Nat) : Int))), (6, V.d (D.int .i64 ((j : Nat) : Int)))], [] :: hp⟩ (.exit 2) ⟨[(0, V.d (D.sl aa.nn (aa.l.map TPrt.c))), (1, V.d (D.sl bs.nn (bs.l.map TPrt.c))), (5, V.d (D.int .i64 ((i : Nat) : Int))), (6, V.d (D.int .i64 ((j : Nat) : Int))), (77, V.d (D.bool (decide (((j : Nat) : Int) < (((x1.pieces.l.map TPce.c).length : Nat) : Int)))))], [] :: hp⟩ :=
  codeC_ok (hs := [.n i, .ds [D.str x1.name, D.int .i64 x1.file, D.int .i64 x1.line, D.sl x1.pieces.nn (x1.pieces.l.map TPce.c)], .b false]) (hs' := []) (cs := [((i : Nat) : Int) = ((i : Nat) : Int), _, _]) (by kernel_rfl) ⟨rfl, c0, c1, trivial⟩
  simp only [c1] at r
  exact r
theorem w31i_1 (aa : Sl TPrt) (bs : Sl TPrt) (i : Nat) (j : Nat) (hp : HL) (x1 : TPrt) (x2 : TPce) (x3 : TPrt) (x4 : TPce)
    (c0 : (aa.l.map TPrt.c)[i]? = some [D.str x1.name, D.int .i64 x1.file, D.int .i64 x1.line, D.sl x1.pieces.nn (x1.pieces.l.map TPce.c)])
    (c1 : (decide (((j : Nat) : Int) < (((x1.pieces.l.map TPce.c).length : Nat) : Int))) = true)
    (c2 : (x1.pieces.l.map TPce.c)[j]? = some [D.int .i64 x2.kind, D.int .i64 x2.file, D.int .i64 x2.line, D.str x2.l.name, D.sl x2.l.opers.nn (x2.l.opers.l.map TOpr.c), D.int .i64 x2.v.add, D.str x2.v.plus, D.str x2.v.minus, D.int .i64 x2.size, D.sl x2.b.nn (x2.b.l.map u8c), D.int .i64 x2.align])
    (c3 : (bs.l.map TPrt.c)[i]? = some [D.str x3.name, D.int .i64 x3.file, D.int .i64 x3.line, D.sl x3.pieces.nn (x3.pieces.l.map TPce.c)])
    (c4 : (x3.pieces.l.map TPce.c)[j]? = some [D.int .i64 x4.kind, D.int .i64 x4.file, D.int .i64 x4.line, D.str x4.l.name, D.sl x4.l.opers.nn (x4.l.opers.l.map TOpr.c), D.int .i64 x4.v.add, D.str x4.v.plus, D.str x4.v.minus, D.int .i64 x4.size, D.sl x4.b.nn (x4.b.l.map u8c), D.int .i64 x4.align])
    (c5 : Rn pg 58 [V.d (D.agg [D.int .i64 x2.kind, D.int .i64 x2.file, D.int .i64 x2.line, D.str x2.l.name, D.sl x2.l.opers.nn (x2.l.opers.l.map TOpr.c), D.int .i64 x2.v.add, D.str x2.v.plus, D.str x2.v.minus, D.int .i64 x2.size, D.sl x2.b.nn (x2.b.l.map u8c), D.int .i64 x2.align]), V.d (D.agg [D.int .i64 x4.kind, D.int .i64 x4.file, D.int .i64 x4.line, D.str x4.l.name, D.sl x4.l.opers.nn (x4.l.opers.l.map TOpr.c), D.int .i64 x4.v.add, D.str x4.v.plus, D.str x4.v.minus, D.int .i64 x4.size, D.sl x4.b.nn (x4.b.l.map u8c), D.int .i64 x4.align])] ([]) (V.d (D.bool true)) ([])) :
    Ev pg i31_l2 ⟨[(0, V.d (D.sl aa.nn (aa.l.map TPrt.c))), (1, V.d (D.sl bs.nn (bs.l.map TPrt.c))), (5, V.d (D.int .i64 ((i : Nat) : Int))), (6, V.d (D.int .i64 ((j : Nat) : Int)))], [] :: hp⟩ .normal ⟨[(0, V.d (D.sl aa.nn (aa.l.map TPrt.c))), (1, V.d (D.sl bs.nn (bs.l.map TPrt.c))), (5, V.d (D.int .i64 ((i : Nat) : Int))), (6, V.d (D.int .i64 (IntKind.i64.wrap (((j : Nat) : Int) + 1))))], [] :: hp⟩ :=
  codeC_ok (hs := [.n i, .ds [D.str x1.name, D.int .i64 x1.file, D.int .i64 x1.line, D.sl x1.pieces.nn (x1.pieces.l.map TPce.c)], .b true, .n i, .ds [D.str x1.name, D.int .i64 x1.file, D.int .i64 x1.line, D.sl x1.pieces.nn (x1.pieces.l.map TPce.c)], .n j, .ds [D.int .i64 x2.kind, D.int .i64 x2.file, D.int .i64 x2.line, D.str x2.l.name, D.sl x2.l.opers.nn (x2.l.opers.l.map TOpr.c), D.int .i64 x2.v.add, D.str x2.v.plus, D.str x2.v.minus, D.int .i64 x2.size, D.sl x2.b.nn (x2.b.l.map u8c), D.int .i64 x2.align], .n i, .ds [D.str x3.name, D.int .i64 x3.file, D.int .i64 x3.line, D.sl x3.pieces.nn (x3.pieces.l.map TPce.c)], .n j, .ds [D.int .i64 x4.kind, D.int .i64 x4.file, D.int .i64 x4.line, D.str x4.l.name, D.sl x4.l.opers.nn (x4.l.opers.l.map TOpr.c), D.int .i64 x4.v.add, D.str x4.v.plus, D.str x4.v.minus, D.int .i64 x4.size, D.sl x4.b.nn (x4.b.l.map u8c), D.int .i64 x4.align], .call (V.d (D.bool true)) ([]), .b false]) (hs' := []) (cs := [((i : Nat) : Int) = ((i : Nat) : Int), _, _, ((i : Nat) : Int) = ((i : Nat) : Int), _, ((j : Nat) : Int) = ((j : Nat) : Int), _, ((i : Nat) : Int) = ((i : Nat) : Int), _, ((j : Nat) : Int) = ((j : Nat) : Int), _, _, false = false]) (by kernel_rfl) ⟨rfl, c0, c1, rfl, c0, rfl, c2, rfl, c3, rfl, c4, c5, rfl, trivial⟩
theorem w31o_0 (aa : Sl TPrt) (bs : Sl TPrt) (i : Nat) (hp : HL)
    (c0 : (decide (((i : Nat) : Int) < (((aa.l.map TPrt.c).length : Nat) : Int))) = false) :
    Ev pg i31_l0 ⟨[(0, V.d (D.sl aa.nn (aa.l.map TPrt.c))), (1, V.d (D.sl bs.nn (bs.l.map TPrt.c))), (5, V.d (D.int .i64 ((i : Nat) : Int)))], [] :: hp⟩ (.exit 0) ⟨[(0, V.d (D.sl aa.nn (aa.l.map TPrt.c))), (1, V.d (D.sl bs.nn (bs.l.map TPrt.c))), (5, V.d (D.int .i64 ((i : Nat) : Int))), (15, V.d (D.bool false))], [] :: hp⟩ :=
  by
  have r : Ev pg i31_l0 ⟨[(0, V.d (D.sl aa.nn (aa.l.map TPrt.c))), (1, V.d (D.sl bs.nn (bs.l.map TPrt.c))), (5, V.d (D.int .i64 ((i : Nat) : Int)))], [] :: hp⟩ (.exit 0) ⟨[(0, V.d (D.sl aa.nn (aa.l.map TPrt.c))), (1, V.d (D.sl bs.nn (bs.l.map TPrt.c))), (5, V.d (D.int .i64 ((i : Nat) : Int))), (15, V.d (D.bool (decide (((i : Nat) : Int) < (((aa.l.map TPrt.c).length : Nat) : Int)))))], [] :: hp⟩ :=
  codeC_ok (hs := [.b false]) (hs' := []) (cs := [_]) (by kernel_rfl) ⟨c0, trivial⟩
  simp only [c0] at r
  exact r
theorem w31o_1 (aa : Sl TPrt) (bs : Sl TPrt) (i : Nat) (hp : HL) (x1 : TPrt) (x2 : TPrt)
    (c0 : (decide (((i : Nat) : Int) < (((aa.l.map TPrt.c).length : Nat) : Int))) = true)
    (c1 : (aa.l.map TPrt.c)[i]? = some [D.str x1.name, D.int .i64 x1.file, D.int .i64 x1.line, D.sl x1.pieces.nn (x1.pieces.l.map TPce.c)])
    (c2 : (bs.l.map TPrt.c)[i]? = some [D.str x2.name, D.int .i64 x2.file, D.int .i64 x2.line, D.sl x2.pieces.nn (x2.pieces.l.map TPce.c)])
    (c3 : (!(x1.name == x2.name)) = false)
    (c4 : (x1.file != x2.file) = false)
    (c5 : (x1.line != x2.line) = false)
    (c6 : ((((x1.pieces.l.map TPce.c).length : Nat) : Int) != (((x2.pieces.l.map TPce.c).length : Nat) : Int)) = false)
    (c7 : Lp pg i31_l2 ⟨[(0, V.d (D.sl aa.nn (aa.l.map TPrt.c))), (1, V.d (D.sl bs.nn (bs.l.map TPrt.c))), (5, V.d (D.int .i64 ((i : Nat) : Int))), (6, V.d (D.int .i64 0))], [] :: hp⟩ (.exit 2) ⟨[(0, V.d (D.sl aa.nn (aa.l.map TPrt.c))), (1, V.d (D.sl bs.nn (bs.l.map TPrt.c))), (5, V.d (D.int .i64 ((i : Nat) : Int))), (6, V.d (D.int .i64 ((x1.pieces.l.length : Nat) : Int))), (77, V.d (D.bool false))], [] :: hp⟩) :
    Ev pg i31_l0 ⟨[(0, V.d (D.sl aa.nn (aa.l.map TPrt.c))), (1, V.d (D.sl bs.nn (bs.l.map TPrt.c))), (5, V.d (D.int .i64 ((i : Nat) : Int)))], [] :: hp⟩ .normal ⟨[(0, V.d (D.sl aa.nn (aa.l.map TPrt.c))), (1, V.d (D.sl bs.nn (bs.l.map TPrt.c))), (5, V.d (D.int .i64 (IntKind.i64.wrap (((i : Nat) : Int) + 1))))], [] :: hp⟩ :=
  codeC_ok (hs := [.b true, .n i, .ds [D.str x1.name, D.int .i64 x1.file, D.int .i64 x1.line, D.sl x1.pieces.nn (x1.pieces.l.map TPce.c)], .n i, .ds [D.str x2.name, D.int .i64 x2.file, D.int .i64 x2.line, D.sl x2.pieces.nn (x2.pieces.l.map TPce.c)], .b false, .b false, .b false, .n i, .ds [D.str x1.name, D.int .i64 x1.file, D.int .i64 x1.line, D.sl x1.pieces.nn (x1.pieces.l.map TPce.c)], .b false, .b false, .b false, .b false, .b false, .n i, .ds [D.str x2.name, D.int .i64 x2.file, D.int .i64 x2.line, D.sl x2.pieces.nn (x2.pieces.l.map TPce.c)], .b false, .b false, .b false, .b false, .b false, .b false, .b false, .n i, .ds [D.str x1.name, D.int .i64 x1.file, D.int .i64 x1.line, D.sl x1.pieces.nn (x1.pieces.l.map TPce.c)], .b false, .b false, .b false, .b false, .b false, .n i, .ds [D.str x2.name, D.int .i64 x2.file, D.int .i64 x2.line, D.sl x2.pieces.nn (x2.pieces.l.map TPce.c)], .b false, .b false, .b false, .b false, .b false, .b false, .b false, .n i, .ds [D.str x1.name, D.int .i64 x1.file, D.int .i64 x1.line, D.sl x1.pieces.nn (x1.pieces.l.map TPce.c)], .b false, .b false, .b false, .b false, .b false, .b false, .n i, .ds [D.str x2.name, D.int .i64 x2.file, D.int .i64 x2.line, D.sl x2.pieces.nn (x2.pieces.l.map TPce.c)], .b false, .b false, .b false, .b false, .b false, .b false, .lp (.exit 2) ⟨[(0, V.d (D.sl aa.nn (aa.l.map TPrt.c))), (1, V.d (D.sl bs.nn (bs.l.map TPrt.c))), (5, V.d (D.int .i64 ((i : Nat) : Int))), (6, V.d (D.int .i64 ((x1.pieces.l.length : Nat) : Int))), (77, V.d (D.bool false))], [] :: hp⟩]) (hs' := []) (cs := [_, ((i : Nat) : Int) = ((i : Nat) : Int), _, ((i : Nat) : Int) = ((i : Nat) : Int), _, _, _, _, ((i : Nat) : Int) = ((i : Nat) : Int), _, _, _, _, _, _, ((i : Nat) : Int) = ((i : Nat) : Int), _, _, _, _, _, _, _, _, ((i : Nat) : Int) = ((i : Nat) : Int), _, _, _, _, _, _, ((i : Nat) : Int) = ((i : Nat) : Int), _, _, _, _, _, _, _, _, ((i : Nat) : Int) = ((i : Nat) : Int), _, _, _, _, _, _, _, ((i : Nat) : Int) = ((i : Nat) : Int), _, _, _, _, _, _, _, _]) (by kernel_rfl) ⟨c0, rfl, c1, rfl, c2, c3, c3, c3, rfl, c1, c3, c3, c3, c3, c3, rfl, c2, c3, c3, c3, c3, c4, c4, c4, rfl, c1, c4, c4, c4, c4, c4, rfl, c2, c4, c4, c4, c4, c5, c5, c5, rfl, c1, c5, c5, c5, c5, c5, c5, rfl, c2, c5, c5, c5, c5, c5, c6, c7, trivial⟩
theorem w31_0 (aa : Sl TPrt) (bs : Sl TPrt) (hp : HL)
    (c0 : ((((aa.l.map TPrt.c).length : Nat) : Int) != (((bs.l.map TPrt.c).length : Nat) : Int)) = false)
    (c1 : Lp pg i31_l0 ⟨[(0, V.d (D.sl aa.nn (aa.l.map TPrt.c))), (1, V.d (D.sl bs.nn (bs.l.map TPrt.c))), (5, V.d (D.int .i64 0))], [] :: hp⟩ (.exit 0) ⟨[(0, V.d (D.sl aa.nn (aa.l.map TPrt.c))), (1, V.d (D.sl bs.nn (bs.l.map TPrt.c))), (5, V.d (D.int .i64 ((aa.l.length : Nat) : Int))), (15, V.d (D.bool false))], [] :: hp⟩) :
    Rn pg 31 [V.d (D.sl aa.nn (aa.l.map TPrt.c)), V.d (D.sl bs.nn (bs.l.map TPrt.c))] (hp) (V.d (D.bool true)) (hp) :=
  Rn.c (fn := i31) (ex := .ret) (st := ⟨[(4, V.d (D.bool true))], [] :: hp⟩) (hs := [.b false, .lp (.exit 0) ⟨[(0, V.d (D.sl aa.nn (aa.l.map TPrt.c))), (1, V.d (D.sl bs.nn (bs.l.map TPrt.c))), (5, V.d (D.int .i64 ((aa.l.length : Nat) : Int))), (15, V.d (D.bool false))], [] :: hp⟩]) (cs := [_, _]) (rs := [V.d (D.bool true)]) (t := [])
    (by kernel_rfl) (by kernel_rfl) (by kernel_rfl) (by kernel_rfl) (by kernel_rfl) (by kernel_rfl) ⟨c0, c1, trivial⟩
theorem w13m_0 (a : TUnt) (b : TUnt) (i : Nat) (hp : HL)
    (c0 : (decide (((i : Nat) : Int) < (((a.marks.l.map TMrk.c).length : Nat) : Int))) = false) :
    Ev pg i13_l0 ⟨[(2, V.ptr 0 2 [] 0 0), (3, V.ptr 0 3 [] 0 0), (5, V.d (D.int .i64 ((i : Nat) : Int)))], [(2, Ob.row true 3 true [[C.d (D.sl a.parts.nn (a.parts.l.map TPrt.c)), C.d (D.sl a.marks.nn (a.marks.l.map TMrk.c)), C.d (D.sl a.globals.nn (a.globals.l.map TTld.c))]]), (3, Ob.row true 3 true [[C.d (D.sl b.parts.nn (b.parts.l.map TPrt.c)), C.d (D.sl b.marks.nn (b.marks.l.map TMrk.c)), C.d (D.sl b.globals.nn (b.globals.l.map TTld.c))]])] :: hp⟩ (.exit 0) ⟨[(2, V.ptr 0 2 [] 0 0), (3, V.ptr 0 3 [] 0 0), (5, V.d (D.int .i64 ((i : Nat) : Int))), (35, V.d (D.bool false))], [(2, Ob.row true 3 true [[C.d (D.sl a.parts.nn (a.parts.l.map TPrt.c)), C.d (D.sl a.marks.nn (a.marks.l.map TMrk.c)), C.d (D.sl a.globals.nn (a.globals.l.map TTld.c))]]), (3, Ob.row true 3 true [[C.d (D.sl b.parts.nn (b.parts.l.map TPrt.c)), C.d (D.sl b.marks.nn (b.marks.l.map TMrk.c)), C.d (D.sl b.globals.nn (b.globals.l.map TTld.c))]])] :: hp⟩ :=
  by
  have r : Ev pg i13_l0 ⟨[(2, V.ptr 0 2 [] 0 0), (3, V.ptr 0 3 [] 0 0), (5, V.d (D.int .i64 ((i : Nat) : Int)))], [(2, Ob.row true 3 true [[C.d (D.sl a.parts.nn (a.parts.l.map TPrt.c)), C.d (D.sl a.marks.nn (a.marks.l.map TMrk.c)), C.d (D.sl a.globals.nn (a.globals.l.map TTld.c))]]), (3, Ob.row true 3 true [[C.d (D.sl b.parts.nn (b.parts.l.map TPrt.c)), C.d (D.sl b.marks.nn (b.marks.l.map TMrk.c)), C.d (D.sl b.globals.nn (b.globals.l.map TTld.c))]])] :: hp⟩ (.exit 0) ⟨[(2, V.ptr 0 2 [] 0 0), (3, V.ptr 0 3 [] 0 0), (5, V.d (D.int .i64 ((i : Nat) : Int))), (35, V.d (D.bool (decide (((i : Nat) : Int) < (((a.marks.l.map TMrk.c).length : Nat) : Int)))))], [(2, Ob.row true 3 true [[C.d (D.sl a.parts.nn (a.parts.l.map TPrt.c)), C.d (D.sl a.marks.nn (a.marks.l.map TMrk.c)), C.d (D.sl a.globals.nn (a.globals.l.map TTld.c))]]), (3, Ob.row true 3 true [[C.d (D.sl b.parts.nn (b.parts.l.map TPrt.c)), C.d (D.sl b.marks.nn (b.marks.l.map TMrk.c)), C.d (D.sl b.globals.nn (b.globals.l.map TTld.c))]])] :: hp⟩ :=
  codeC_ok (hs := [.b false]) (hs' := []) (cs := [_]) (by kernel_rfl) ⟨c0, trivial⟩
  simp only [c0] at r
  exact r
theorem w13m_1 (a : TUnt) (b : TUnt) (i : Nat) (hp : HL) (x1 : TMrk) (x2 : TMrk)
    (c0 : (decide (((i : Nat) : Int) < (((a.marks.l.map TMrk.c).length : Nat) : Int))) = true)
    (c1 : (a.marks.l.map TMrk.c)[i]? = some [D.str x1.name, D.int .i64 x1.file, D.int .i64 x1.line, D.int .i64 x1.part, D.int .i64 x1.piece, D.bool x1.equ, D.int .i64 x1.v.add, D.str x1.v.plus, D.str x1.v.minus])
    (c2 : (b.marks.l.map TMrk.c)[i]? = some [D.str x2.name, D.int .i64 x2.file, D.int .i64 x2.line, D.int .i64 x2.part, D.int .i64 x2.piece, D.bool x2.equ, D.int .i64 x2.v.add, D.str x2.v.plus, D.str x2.v.minus])
    (c3 : deqT true [2, 1, 1, 1, 1, 0, 1, 2, 2] (D.agg [D.str x1.name, D.int .i64 x1.file, D.int .i64 x1.line, D.int .i64 x1.part, D.int .i64 x1.piece, D.bool x1.equ, D.int .i64 x1.v.add, D.str x1.v.plus, D.str x1.v.minus]) (D.agg [D.str x2.name, D.int .i64 x2.file, D.int .i64 x2.line, D.int .i64 x2.part, D.int .i64 x2.piece, D.bool x2.equ, D.int .i64 x2.v.add, D.str x2.v.plus, D.str x2.v.minus]) = some true) :
    Ev pg i13_l0 ⟨[(2, V.ptr 0 2 [] 0 0), (3, V.ptr 0 3 [] 0 0), (5, V.d (D.int .i64 ((i : Nat) : Int)))], [(2, Ob.row true 3 true [[C.d (D.sl a.parts.nn (a.parts.l.map TPrt.c)), C.d (D.sl a.marks.nn (a.marks.l.map TMrk.c)), C.d (D.sl a.globals.nn (a.globals.l.map TTld.c))]]), (3, Ob.row true 3 true [[C.d (D.sl b.parts.nn (b.parts.l.map TPrt.c)), C.d (D.sl b.marks.nn (b.marks.l.map TMrk.c)), C.d (D.sl b.globals.nn (b.globals.l.map TTld.c))]])] :: hp⟩ .normal ⟨[(2, V.ptr 0 2 [] 0 0), (3, V.ptr 0 3 [] 0 0), (5, V.d (D.int .i64 (IntKind.i64.wrap (((i : Nat) : Int) + 1))))], [(2, Ob.row true 3 true [[C.d (D.sl a.parts.nn (a.parts.l.map TPrt.c)), C.d (D.sl a.marks.nn (a.marks.l.map TMrk.c)), C.d (D.sl a.globals.nn (a.globals.l.map TTld.c))]]), (3, Ob.row true 3 true [[C.d (D.sl b.parts.nn (b.parts.l.map TPrt.c)), C.d (D.sl b.marks.nn (b.marks.l.map TMrk.c)), C.d (D.sl b.globals.nn (b.globals.l.map TTld.c))]])] :: hp⟩ :=
  codeC_ok (hs := [.b true, .n i, .ds [D.str x1.name, D.int .i64 x1.file, D.int .i64 x1.line, D.int .i64 x1.part, D.int .i64 x1.piece, D.bool x1.equ, D.int .i64 x1.v.add, D.str x1.v.plus, D.str x1.v.minus], .n i, .ds [D.str x2.name, D.int .i64 x2.file, D.int .i64 x2.line, D.int .i64 x2.part, D.int .i64 x2.piece, D.bool x2.equ, D.int .i64 x2.v.add, D.str x2.v.plus, D.str x2.v.minus], .b true, .b false]) (hs' := []) (cs := [_, ((i : Nat) : Int) = ((i : Nat) : Int), _, ((i : Nat) : Int) = ((i : Nat) : Int), _, _, false = false]) (by kernel_rfl) ⟨c0, rfl, c1, rfl, c2, c3, rfl, trivial⟩
theorem w13g_0 (a : TUnt) (b : TUnt) (i : Nat) (hp : HL)
    (c0 : (decide (((i : Nat) : Int) < (((a.globals.l.map TTld.c).length : Nat) : Int))) = false) :
    Ev pg i13_l2 ⟨[(2, V.ptr 0 2 [] 0 0), (3, V.ptr 0 3 [] 0 0), (6, V.d (D.int .i64 ((i : Nat) : Int)))], [(2, Ob.row true 3 true [[C.d (D.sl a.parts.nn (a.parts.l.map TPrt.c)), C.d (D.sl a.marks.nn (a.marks.l.map TMrk.c)), C.d (D.sl a.globals.nn (a.globals.l.map TTld.c))]]), (3, Ob.row true 3 true [[C.d (D.sl b.parts.nn (b.parts.l.map TPrt.c)), C.d (D.sl b.marks.nn (b.marks.l.map TMrk.c)), C.d (D.sl b.globals.nn (b.globals.l.map TTld.c))]])] :: hp⟩ (.exit 2) ⟨[(2, V.ptr 0 2 [] 0 0), (3, V.ptr 0 3 [] 0 0), (6, V.d (D.int .i64 ((i : Nat) : Int))), (53, V.d (D.bool false))], [(2, Ob.row true 3 true [[C.d (D.sl a.parts.nn (a.parts.l.map TPrt.c)), C.d (D.sl a.marks.nn (a.marks.l.map TMrk.c)), C.d (D.sl a.globals.nn (a.globals.l.map TTld.c))]]), (3, Ob.row true 3 true [[C.d (D.sl b.parts.nn (b.parts.l.map TPrt.c)), C.d (D.sl b.marks.nn (b.marks.l.map TMrk.c)), C.d (D.sl b.globals.nn (b.globals.l.map TTld.c))]])] :: hp⟩ :=
  by
  have r : Ev pg i13_l2 ⟨[(2, V.ptr 0 2 [] 0 0), (3, V.ptr 0 3 [] 0 0), (6, V.d (D.int .i64 ((i : Nat) : Int)))], [(2, Ob.row true 3 true [[C.d (D.sl a.parts.nn (a.parts.l.map TPrt.c)), C.d (D.sl a.marks.nn (a.marks.l.map TMrk.c)), C.d (D.sl a.globals.nn (a.globals.l.map TTld.c))]]), (3, Ob.row true 3 true [[C.d (D.sl b.parts.nn (b.parts.l.map TPrt.c)), C.d (D.sl b.marks.nn (b.marks.l.map TMrk.c)), C.d (D.sl b.globals.nn (b.globals.l.map TTld.c))]])] :: hp⟩ (.exit 2) ⟨[(2, V.ptr 0 2 [] 0 0), (3, V.ptr 0 3 [] 0 0), (6, V.d (D.int .i64 ((i : Nat) : Int))), (53, V.d (D.bool (decide (((i : Nat) : Int) < (((a.globals.l.map TTld.c).length : Nat) : Int)))))], [(2, Ob.row true 3 true [[C.d (D.sl a.parts.nn (a.parts.l.map TPrt.c)), C.d (D.sl a.marks.nn (a.marks.l.map TMrk.c)), C.d (D.sl a.globals.nn (a.globals.l.map TTld.c))]]), (3, Ob.row true 3 true [[C.d (D.sl b.parts.nn (b.parts.l.map TPrt.c)), C.d (D.sl b.marks.nn (b.marks.l.map TMrk.c)), C.d (D.sl b.globals.nn (b.globals.l.map TTld.c))]])] :: hp⟩ :=
  codeC_ok (hs := [.b false]) (hs' := []) (cs := [_]) (by kernel_rfl) ⟨c0, trivial⟩
  simp only [c0] at r
  exact r
theorem w13g_1 (a : TUnt) (b : TUnt) (i : Nat) (hp : HL) (x1 : TTld) (x2 : TTld)
    (c0 : (decide (((i : Nat) : Int) < (((a.globals.l.map TTld.c).length : Nat) : Int))) = true)
    (c1 : (a.globals.l.map TTld.c)[i]? = some [D.str x1.name, D.int .i64 x1.file, D.int .i64 x1.line])
    (c2 : (b.globals.l.map TTld.c)[i]? = some [D.str x2.name, D.int .i64 x2.file, D.int .i64 x2.line])
    (c3 : deqT true [2, 1, 1] (D.agg [D.str x1.name, D.int .i64 x1.file, D.int .i64 x1.line]) (D.agg [D.str x2.name, D.int .i64 x2.file, D.int .i64 x2.line]) = some true) :
    Ev pg i13_l2 ⟨[(2, V.ptr 0 2 [] 0 0), (3, V.ptr 0 3 [] 0 0), (6, V.d (D.int .i64 ((i : Nat) : Int)))], [(2, Ob.row true 3 true [[C.d (D.sl a.parts.nn (a.parts.l.map TPrt.c)), C.d (D.sl a.marks.nn (a.marks.l.map TMrk.c)), C.d (D.sl a.globals.nn (a.globals.l.map TTld.c))]]), (3, Ob.row true 3 true [[C.d (D.sl b.parts.nn (b.parts.l.map TPrt.c)), C.d (D.sl b.marks.nn (b.marks.l.map TMrk.c)), C.d (D.sl b.globals.nn (b.globals.l.map TTld.c))]])] :: hp⟩ .normal ⟨[(2, V.ptr 0 2 [] 0 0), (3, V.ptr 0 3 [] 0 0), (6, V.d (D.int .i64 (IntKind.i64.wrap (((i : Nat) : Int) + 1))))], [(2, Ob.row true 3 true [[C.d (D.sl a.parts.nn (a.parts.l.map TPrt.c)), C.d (D.sl a.marks.nn (a.marks.l.map TMrk.c)), C.d (D.sl a.globals.nn (a.globals.l.map TTld.c))]]), (3, Ob.row true 3 true [[C.d (D.sl b.parts.nn (b.parts.l.map TPrt.c)), C.d (D.sl b.marks.nn (b.marks.l.map TMrk.c)), C.d (D.sl b.globals.nn (b.globals.l.map TTld.c))]])] :: hp⟩ :=
  codeC_ok (hs := [.b true, .n i, .ds [D.str x1.name, D.int .i64 x1.file, D.int .i64 x1.line], .n i, .ds [D.str x2.name, D.int .i64 x2.file, D.int .i64 x2.line], .b true, .b false]) (hs' := []) (cs := [_, ((i : Nat) : Int) = ((i : Nat) : Int), _, ((i : Nat) : Int) = ((i : Nat) : Int), _, _, false = false]) (by kernel_rfl) ⟨c0, rfl, c1, rfl, c2, c3, rfl, trivial⟩
theorem w13_0 (a : TUnt) (b : TUnt) (hp : HL)
    (c0 : Rn pg 31 [V.d (D.sl a.parts.nn (a.parts.l.map TPrt.c)), V.d (D.sl b.parts.nn (b.parts.l.map TPrt.c))] ([]) (V.d (D.bool true)) ([]))
    (c1 : ((((a.marks.l.map TMrk.c).length : Nat) : Int) != (((b.marks.l.map TMrk.c).length : Nat) : Int)) = false)
    (c2 : ((((a.globals.l.map TTld.c).length : Nat) : Int) != (((b.globals.l.map TTld.c).length : Nat) : Int)) = false)
    (c3 : Lp pg i13_l0 ⟨[(2, V.ptr 0 2 [] 0 0), (3, V.ptr 0 3 [] 0 0), (5, V.d (D.int .i64 0))], [(2, Ob.row true 3 true [[C.d (D.sl a.parts.nn (a.parts.l.map TPrt.c)), C.d (D.sl a.marks.nn (a.marks.l.map TMrk.c)), C.d (D.sl a.globals.nn (a.globals.l.map TTld.c))]]), (3, Ob.row true 3 true [[C.d (D.sl b.parts.nn (b.parts.l.map TPrt.c)), C.d (D.sl b.marks.nn (b.marks.l.map TMrk.c)), C.d (D.sl b.globals.nn (b.globals.l.map TTld.c))]])] :: hp⟩ (.exit 0) ⟨[(2, V.ptr 0 2 [] 0 0), (3, V.ptr 0 3 [] 0 0), (5, V.d (D.int .i64 ((a.marks.l.length : Nat) : Int))), (35, V.d (D.bool false))], [(2, Ob.row true 3 true [[C.d (D.sl a.parts.nn (a.parts.l.map TPrt.c)), C.d (D.sl a.marks.nn (a.marks.l.map TMrk.c)), C.d (D.sl a.globals.nn (a.globals.l.map TTld.c))]]), (3, Ob.row true 3 true [[C.d (D.sl b.parts.nn (b.parts.l.map TPrt.c)), C.d (D.sl b.marks.nn (b.marks.l.map TMrk.c)), C.d (D.sl b.globals.nn (b.globals.l.map TTld.c))]])] :: hp⟩)
    (c4 : Lp pg i13_l2 ⟨[(2, V.ptr 0 2 [] 0 0), (3, V.ptr 0 3 [] 0 0), (6, V.d (D.int .i64 0))], [(2, Ob.row true 3 true [[C.d (D.sl a.parts.nn (a.parts.l.map TPrt.c)), C.d (D.sl a.marks.nn (a.marks.l.map TMrk.c)), C.d (D.sl a.globals.nn (a.globals.l.map TTld.c))]]), (3, Ob.row true 3 true [[C.d (D.sl b.parts.nn (b.parts.l.map TPrt.c)), C.d (D.sl b.marks.nn (b.marks.l.map TMrk.c)), C.d (D.sl b.globals.nn (b.globals.l.map TTld.c))]])] :: hp⟩ (.exit 2) ⟨[(2, V.ptr 0 2 [] 0 0), (3, V.ptr 0 3 [] 0 0), (6, V.d (D.int .i64 ((a.globals.l.length : Nat) : Int))), (53, V.d (D.bool false))], [(2, Ob.row true 3 true [[C.d (D.sl a.parts.nn (a.parts.l.map TPrt.c)), C.d (D.sl a.marks.nn (a.marks.l.map TMrk.c)), C.d (D.sl a.globals.nn (a.globals.l.map TTld.c))]]), (3, Ob.row true 3 true [[C.d (D.sl b.parts.nn (b.parts.l.map TPrt.c)), C.d (D.sl b.marks.nn (b.marks.l.map TMrk.c)), C.d (D.sl b.globals.nn (b.globals.l.map TTld.c))]])] :: hp⟩) :
    Rn pg 13 [V.d (D.agg [D.sl a.parts.nn (a.parts.l.map TPrt.c), D.sl a.marks.nn (a.marks.l.map TMrk.c), D.sl a.globals.nn (a.globals.l.map TTld.c)]), V.d (D.agg [D.sl b.parts.nn (b.parts.l.map TPrt.c), D.sl b.marks.nn (b.marks.l.map TMrk.c), D.sl b.globals.nn (b.globals.l.map TTld.c)])] (hp) (V.d (D.bool true)) (hp) :=
  Rn.c (fn := i13) (ex := .ret) (st := ⟨[(4, V.d (D.bool true))], [] :: hp⟩) (hs := [.call (V.d (D.bool true)) ([]), .b false, .b false, .b false, .b false, .b false, .b false, .b false, .b false, .b false, .b false, .b false, .b false, .b false, .b false, .b false, .b false, .b false, .lp (.exit 0) ⟨[(2, V.ptr 0 2 [] 0 0), (3, V.ptr 0 3 [] 0 0), (5, V.d (D.int .i64 ((a.marks.l.length : Nat) : Int))), (35, V.d (D.bool false))], [(2, Ob.row true 3 true [[C.d (D.sl a.parts.nn (a.parts.l.map TPrt.c)), C.d (D.sl a.marks.nn (a.marks.l.map TMrk.c)), C.d (D.sl a.globals.nn (a.globals.l.map TTld.c))]]), (3, Ob.row true 3 true [[C.d (D.sl b.parts.nn (b.parts.l.map TPrt.c)), C.d (D.sl b.marks.nn (b.marks.l.map TMrk.c)), C.d (D.sl b.globals.nn (b.globals.l.map TTld.c))]])] :: hp⟩, .lp (.exit 2) ⟨[(2, V.ptr 0 2 [] 0 0), (3, V.ptr 0 3 [] 0 0), (6, V.d (D.int .i64 ((a.globals.l.length : Nat) : Int))), (53, V.d (D.bool false))], [(2, Ob.row true 3 true [[C.d (D.sl a.parts.nn (a.parts.l.map TPrt.c)), C.d (D.sl a.marks.nn (a.marks.l.map TMrk.c)), C.d (D.sl a.globals.nn (a.globals.l.map TTld.c))]]), (3, Ob.row true 3 true [[C.d (D.sl b.parts.nn (b.parts.l.map TPrt.c)), C.d (D.sl b.marks.nn (b.marks.l.map TMrk.c)), C.d (D.sl b.globals.nn (b.globals.l.map TTld.c))]])] :: hp⟩]) (cs := [_, false = false, false = false, false = false, false = false, false = false, false = false, false = false, false = false, _, _, _, _, _, _, _, _, _, _, _]) (rs := [V.d (D.bool true)]) (t := [])
    (by kernel_rfl) (by kernel_rfl) (by kernel_rfl) (by kernel_rfl) (by kernel_rfl) (by kernel_rfl) ⟨c0, rfl, rfl, rfl, rfl, rfl, rfl, rfl, rfl, c1, c1, c1, c1, c1, c1, c1, c1, c2, c3, c4, trivial⟩
theorem w14l_0 (n1 : Bool) (n2 : Bool) (l : List TFlt) (i : Nat) (hp : HL)
    (c0 : (decide (((i : Nat) : Int) < ((l.length : Nat) : Int))) = false) :
    Ev pg i14_l0 ⟨[(0, V.d (D.sl n1 (l.map TFlt.c))), (1, V.d (D.sl n2 (l.map TFlt.c))), (12, V.d (D.int .i64 ((l.length : Nat) : Int))), (13, V.d (D.int .i64 ((i : Nat) : Int)))], [] :: hp⟩ (.exit 0) ⟨[(0, V.d (D.sl n1 (l.map TFlt.c))), (1, V.d (D.sl n2 (l.map TFlt.c))), (12, V.d (D.int .i64 ((l.length : Nat) : Int))), (13, V.d (D.int .i64 ((i : Nat) : Int))), (14, V.d (D.bool false))], [] :: hp⟩ :=
  by
  have r : Ev pg i14_l0 ⟨[(0, V.d (D.sl n1 (l.map TFlt.c))), (1, V.d (D.sl n2 (l.map TFlt.c))), (12, V.d (D.int .i64 ((l.length : Nat) : Int))), (13, V.d (D.int .i64 ((i : Nat) : Int)))], [] :: hp⟩ (.exit 0) ⟨[(0, V.d (D.sl n1 (l.map TFlt.c))), (1, V.d (D.sl n2 (l.map TFlt.c))), (12, V.d (D.int .i64 ((l.length : Nat) : Int))), (13, V.d (D.int .i64 ((i : Nat) : Int))), (14, V.d (D.bool (decide (((i : Nat) : Int) < ((l.length : Nat) : Int)))))], [] :: hp⟩ :=
  codeC_ok (hs := [.b false]) (hs' := []) (cs := [_]) (by kernel_rfl) ⟨c0, trivial⟩
  simp only [c0] at r
  exact r
theorem w14l_1 (n1 : Bool) (n2 : Bool) (l : List TFlt) (i : Nat) (hp : HL) (x1 : TFlt)
    (c0 : (decide (((i : Nat) : Int) < ((l.length : Nat) : Int))) = true)
    (c1 : (l.map TFlt.c)[i]? = some [D.int .i64 x1.file, D.int .i64 x1.line, D.int .i64 x1.err])
    (c2 : deqT true [1, 1, 1] (D.agg [D.int .i64 x1.file, D.int .i64 x1.line, D.int .i64 x1.err]) (D.agg [D.int .i64 x1.file, D.int .i64 x1.line, D.int .i64 x1.err]) = some true) :
    Ev pg i14_l0 ⟨[(0, V.d (D.sl n1 (l.map TFlt.c))), (1, V.d (D.sl n2 (l.map TFlt.c))), (12, V.d (D.int .i64 ((l.length : Nat) : Int))), (13, V.d (D.int .i64 ((i : Nat) : Int)))], [] :: hp⟩ .normal ⟨[(0, V.d (D.sl n1 (l.map TFlt.c))), (1, V.d (D.sl n2 (l.map TFlt.c))), (12, V.d (D.int .i64 ((l.length : Nat) : Int))), (13, V.d (D.int .i64 (IntKind.i64.wrap (((i : Nat) : Int) + 1))))], [] :: hp⟩ :=
  codeC_ok (hs := [.b true, .n i, .ds [D.int .i64 x1.file, D.int .i64 x1.line, D.int .i64 x1.err], .n i, .ds [D.int .i64 x1.file, D.int .i64 x1.line, D.int .i64 x1.err], .b true, .b false]) (hs' := []) (cs := [_, ((i : Nat) : Int) = ((i : Nat) : Int), _, ((i : Nat) : Int) = ((i : Nat) : Int), _, _, false = false]) (by kernel_rfl) ⟨c0, rfl, c1, rfl, c1, c2, rfl, trivial⟩
theorem w14_0 (n1 : Bool) (n2 : Bool) (l : List TFlt) (hp : HL)
    (c0 : ((((l.map TFlt.c).length : Nat) : Int) != (((l.map TFlt.c).length : Nat) : Int)) = false)
    (c1 : Lp pg i14_l0 ⟨[(0, V.d (D.sl n1 (l.map TFlt.c))), (1, V.d (D.sl n2 (l.map TFlt.c))), (12, V.d (D.int .i64 (((l.map TFlt.c).length : Nat) : Int))), (13, V.d (D.int .i64 0))], [] :: hp⟩ (.exit 0) ⟨[(0, V.d (D.sl n1 (l.map TFlt.c))), (1, V.d (D.sl n2 (l.map TFlt.c))), (12, V.d (D.int .i64 ((l.length : Nat) : Int))), (13, V.d (D.int .i64 ((l.length : Nat) : Int))), (14, V.d (D.bool false))], [] :: hp⟩) :
    Rn pg 14 [V.d (D.sl n1 (l.map TFlt.c)), V.d (D.sl n2 (l.map TFlt.c))] (hp) (V.d (D.bool true)) (hp) :=
  Rn.c (fn := i14) (ex := .ret) (st := ⟨[(4, V.d (D.bool true))], [] :: hp⟩) (hs := [.b false, .lp (.exit 0) ⟨[(0, V.d (D.sl n1 (l.map TFlt.c))), (1, V.d (D.sl n2 (l.map TFlt.c))), (12, V.d (D.int .i64 ((l.length : Nat) : Int))), (13, V.d (D.int .i64 ((l.length : Nat) : Int))), (14, V.d (D.bool false))], [] :: hp⟩]) (cs := [_, _]) (rs := [V.d (D.bool true)]) (t := [])
    (by kernel_rfl) (by kernel_rfl) (by kernel_rfl) (by kernel_rfl) (by kernel_rfl) (by kernel_rfl) ⟨c0, c1, trivial⟩
end Go.Proofs.YtgmphfmoonbfpaaMv

namespace Go.Proofs.YtgmphfmoonbfpaaMv
open Go
theorem Lp.count {p : Pg} {b : IR} {id n : Nat} {S : Nat → St} {T : St} (h : ∀ i, i < n → Ev p b (S i) .normal (S (i + 1))) (hT : Ev p b (S n) (.exit id) T) : Lp p b (S 0) (.exit id) T := by
  suffices H : ∀ k i, n - i = k → i ≤ n → Lp p b (S i) (.exit id) T from H n 0 (by omega) (Nat.zero_le _)
  intro k
  induction k with
  | zero =>
    intro i hi hle
    have : i = n := by omega
    subst this
    exact Lp.exit hT
  | succ k ih =>
    intro i hi hle
    exact Lp.next (h i (by omega)) (ih (i + 1) (by omega) (by omega))
def simL {α : Type} (R : α → α → Prop) (aa bs : List α) : Prop := aa.length = bs.length ∧ ∀ (i : Nat) a b, aa[i]? = some a → bs[i]? = some b → R a b
theorem simL.nil {α : Type} {R : α → α → Prop} : simL R [] [] := ⟨rfl, by simp⟩
theorem simL.get {α : Type} {R : α → α → Prop} {aa bs : List α} (h : simL R aa bs) {i : Nat} {a : α} (ha : aa[i]? = some a) : ∃ b, bs[i]? = some b ∧ R a b := by
  have hi := (List.getElem?_eq_some_iff.1 ha).1
  have hib : i < bs.length := by rw [← h.1]; exact hi
  have hb : bs[i]? = some bs[i] := List.getElem?_eq_getElem hib
  exact ⟨_, hb, h.2 i _ _ ha hb⟩
structure TPce.sim (a b : TPce) : Prop where
  kind : a.kind = b.kind
  file : a.file = b.file
  line : a.line = b.line
  name : a.l.name = b.l.name
  opers : a.l.opers.l = b.l.opers.l
  v : a.v = b.v
  size : a.size = b.size
  bytes : a.b.l = b.b.l
  align : a.align = b.align
structure TPrt.sim (a b : TPrt) : Prop where
  name : a.name = b.name
  file : a.file = b.file
  line : a.line = b.line
  pieces : simL TPce.sim a.pieces.l b.pieces.l
structure TUnt.sim (a b : TUnt) : Prop where
  parts : simL TPrt.sim a.parts.l b.parts.l
  marks : a.marks.l = b.marks.l
  globals : a.globals.l = b.globals.l
theorem f71 (n1 n2 : Bool) (l : List TOpr) (hl : l.length < 2 ^ 30) (hp : HL) : Rn pg 71 [V.d (D.sl n1 (l.map TOpr.c)), V.d (D.sl n2 (l.map TOpr.c))] hp (V.d (D.bool true)) hp := by
  refine w71_0 n1 n2 l hp (by simp) (Lp.count (n := l.length) (S := fun i => ⟨[(0, V.d (D.sl n1 (l.map TOpr.c))), (1, V.d (D.sl n2 (l.map TOpr.c))), (5, V.d (D.int .i64 ((i : Nat) : Int)))], [] :: hp⟩) (fun i hi => ?_) (w71l_0 n1 n2 l l.length hp (by simp)))
  have hpi : l[i]? = some l[i] := List.getElem?_eq_getElem hi
  have r := w71l_1 n1 n2 l i hp l[i] (by simp; omega) (by rw [List.getElem?_map, hpi]; rfl) ((TOpr.deq l[i] l[i]).trans (by simp))
  rw [wrap64 (by omega) (by omega)] at r
  exact r
theorem f14 (n1 n2 : Bool) (l : List TFlt) (hl : l.length < 2 ^ 30) (hp : HL) : Rn pg 14 [V.d (D.sl n1 (l.map TFlt.c)), V.d (D.sl n2 (l.map TFlt.c))] hp (V.d (D.bool true)) hp := by
  refine w14_0 n1 n2 l hp (by simp) ?_
  rw [List.length_map]
  refine Lp.count (n := l.length) (S := fun i => ⟨[(0, V.d (D.sl n1 (l.map TFlt.c))), (1, V.d (D.sl n2 (l.map TFlt.c))), (12, V.d (D.int .i64 ((l.length : Nat) : Int))), (13, V.d (D.int .i64 ((i : Nat) : Int)))], [] :: hp⟩) (fun i hi => ?_) (w14l_0 n1 n2 l l.length hp (by simp))
  have hpi : l[i]? = some l[i] := List.getElem?_eq_getElem hi
  have r := w14l_1 n1 n2 l i hp l[i] (by simp; omega) (by rw [List.getElem?_map, hpi]; rfl) ((TFlt.deq l[i] l[i]).trans (by simp))
  rw [wrap64 (by omega) (by omega)] at r
  exact r
theorem strOf_u8c : ∀ l : List UInt8, strOf (l.map u8c) = some l := by
  intro l
  induction l with
  | nil => rfl
  | cons b l ih => simp [strOf, u8c, ih]
theorem f58 (a b : TPce) (h : a.sim b) (hl : a.l.opers.l.length < 2 ^ 30) (hp : HL) : Rn pg 58 [V.d (D.agg a.c), V.d (D.agg b.c)] hp (V.d (D.bool true)) hp := by
  have r := w58_0 a b hp (by simp [h.kind]) (by simp [h.file]) (by simp [h.line]) (by simp [h.name]) (by rw [← h.opers]; exact f71 _ _ _ hl _) ((TVal.deq a.v b.v).trans (by simp [h.v])) (by simp [h.size])
    (all_len (f := u8c) (fun _ => rfl) _) (allDs_map _) (strOf_u8c _) (all_len (f := u8c) (fun _ => rfl) _) (allDs_map _) (strOf_u8c _) (by simp [h.bytes])
  rw [show (a.align == b.align) = true by simp [h.align]] at r
  exact r
theorem f31 (aa bs : Sl TPrt) (h : simL TPrt.sim aa.l bs.l) (hl : aa.l.length < 2 ^ 30) (hq : ∀ p ∈ aa.l, p.pieces.l.length < 2 ^ 30 ∧ ∀ x ∈ p.pieces.l, x.l.opers.l.length < 2 ^ 30) (hp : HL) :
    Rn pg 31 [V.d (D.sl aa.nn (aa.l.map TPrt.c)), V.d (D.sl bs.nn (bs.l.map TPrt.c))] hp (V.d (D.bool true)) hp := by
  refine w31_0 aa bs hp (by simp [h.1]) (Lp.count (n := aa.l.length) (S := fun i => ⟨[(0, V.d (D.sl aa.nn (aa.l.map TPrt.c))), (1, V.d (D.sl bs.nn (bs.l.map TPrt.c))), (5, V.d (D.int .i64 ((i : Nat) : Int)))], [] :: hp⟩) (fun i hi => ?_) (w31o_0 aa bs aa.l.length hp (by simp)))
  have hpi : aa.l[i]? = some aa.l[i] := List.getElem?_eq_getElem hi
  obtain ⟨b, hb, hs⟩ := h.get hpi
  have ha : (aa.l.map TPrt.c)[i]? = some aa.l[i].c := by rw [List.getElem?_map, hpi]; rfl
  have hbc : (bs.l.map TPrt.c)[i]? = some b.c := by rw [List.getElem?_map, hb]; rfl
  have hm := hq _ (List.getElem_mem hi)
  have hin : Lp pg i31_l2 ⟨[(0, V.d (D.sl aa.nn (aa.l.map TPrt.c))), (1, V.d (D.sl bs.nn (bs.l.map TPrt.c))), (5, V.d (D.int .i64 ((i : Nat) : Int))), (6, V.d (D.int .i64 0))], [] :: hp⟩ (.exit 2) ⟨[(0, V.d (D.sl aa.nn (aa.l.map TPrt.c))), (1, V.d (D.sl bs.nn (bs.l.map TPrt.c))), (5, V.d (D.int .i64 ((i : Nat) : Int))), (6, V.d (D.int .i64 ((aa.l[i].pieces.l.length : Nat) : Int))), (77, V.d (D.bool false))], [] :: hp⟩ := by
    refine Lp.count (n := aa.l[i].pieces.l.length) (S := fun j => ⟨[(0, V.d (D.sl aa.nn (aa.l.map TPrt.c))), (1, V.d (D.sl bs.nn (bs.l.map TPrt.c))), (5, V.d (D.int .i64 ((i : Nat) : Int))), (6, V.d (D.int .i64 ((j : Nat) : Int)))], [] :: hp⟩) (fun j hj => ?_) (w31i_0 aa bs i aa.l[i].pieces.l.length hp aa.l[i] ha (by simp))
    have hpj : aa.l[i].pieces.l[j]? = some aa.l[i].pieces.l[j] := List.getElem?_eq_getElem hj
    obtain ⟨y, hy, hys⟩ := hs.pieces.get hpj
    have r := w31i_1 aa bs i j hp aa.l[i] aa.l[i].pieces.l[j] b y ha (by simp; omega) (by rw [List.getElem?_map, hpj]; rfl) hbc (by rw [List.getElem?_map, hy]; rfl) (f58 _ _ hys (hm.2 _ (List.getElem_mem hj)) _)
    rw [wrap64 (by omega) (by omega)] at r
    exact r
  have r := w31o_1 aa bs i hp aa.l[i] b (by simp; omega) ha hbc (by simp [hs.name]) (by simp [hs.file]) (by simp [hs.line]) (by simp [hs.pieces.1]) hin
  rw [wrap64 (by omega) (by omega)] at r
  exact r
theorem f13 (a b : TUnt) (h : a.sim b) (hl : a.parts.l.length < 2 ^ 30) (hq : ∀ p ∈ a.parts.l, p.pieces.l.length < 2 ^ 30 ∧ ∀ x ∈ p.pieces.l, x.l.opers.l.length < 2 ^ 30) (hm : a.marks.l.length < 2 ^ 30) (hg : a.globals.l.length < 2 ^ 30) (hp : HL) :
    Rn pg 13 [V.d (D.agg a.c), V.d (D.agg b.c)] hp (V.d (D.bool true)) hp := by
  refine w13_0 a b hp (f31 _ _ h.parts hl hq _) (by simp [h.marks]) (by simp [h.globals]) ?_ ?_
  · refine Lp.count (n := a.marks.l.length) (S := fun i => ⟨[(2, V.ptr 0 2 [] 0 0), (3, V.ptr 0 3 [] 0 0), (5, V.d (D.int .i64 ((i : Nat) : Int)))], [(2, Ob.row true 3 true [a.oc]), (3, Ob.row true 3 true [b.oc])] :: hp⟩) (fun i hi => ?_) (w13m_0 a b a.marks.l.length hp (by simp))
    have hpi : a.marks.l[i]? = some a.marks.l[i] := List.getElem?_eq_getElem hi
    have r := w13m_1 a b i hp a.marks.l[i] a.marks.l[i] (by simp; omega) (by rw [List.getElem?_map, hpi]; rfl) (by rw [← h.marks, List.getElem?_map, hpi]; rfl) ((TMrk.deq a.marks.l[i] a.marks.l[i]).trans (by simp))
    rw [wrap64 (by omega) (by omega)] at r
    exact r
  · refine Lp.count (n := a.globals.l.length) (S := fun i => ⟨[(2, V.ptr 0 2 [] 0 0), (3, V.ptr 0 3 [] 0 0), (6, V.d (D.int .i64 ((i : Nat) : Int)))], [(2, Ob.row true 3 true [a.oc]), (3, Ob.row true 3 true [b.oc])] :: hp⟩) (fun i hi => ?_) (w13g_0 a b a.globals.l.length hp (by simp))
    have hpi : a.globals.l[i]? = some a.globals.l[i] := List.getElem?_eq_getElem hi
    have r := w13g_1 a b i hp a.globals.l[i] a.globals.l[i] (by simp; omega) (by rw [List.getElem?_map, hpi]; rfl) (by rw [← h.globals, List.getElem?_map, hpi]; rfl) ((TTld.deq a.globals.l[i] a.globals.l[i]).trans (by simp))
    rw [wrap64 (by omega) (by omega)] at r
    exact r
end Go.Proofs.YtgmphfmoonbfpaaMv

namespace Go.Proofs.YtgmphfmoonbfpaaMv
open Go
def TPce.er (x : TPce) : TPce := { x with l := ⟨x.l.name, ⟨false, x.l.opers.l⟩⟩, b := ⟨false, x.b.l⟩ }
def OPrt.er (p : OPrt) : OPrt := { p with pieces := p.pieces.map TPce.er }
def Ms.er (m : Ms) : Ms := { m with parts := m.parts.map OPrt.er }
theorem idxGo_er (nm : List UInt8) : ∀ (ps : List OPrt) (i : Nat), idxGo nm i (ps.map OPrt.er) = idxGo nm i ps
  | [], i => rfl
  | p :: ps, i => by
    simp only [List.map_cons, idxGo, idxGo_er nm ps]
    rfl
theorem Ms.idx_er (m : Ms) : m.er.idx = m.idx := idxGo_er _ _ _
theorem Ms.partM_er (m : Ms) : m.partM.er = m.er.partM := by
  unfold Ms.partM
  rw [m.idx_er]
  cases m.idx with
  | some _ => rfl
  | none => simp [Ms.er, Ms.new, OPrt.er]
theorem Ms.partI_er (m : Ms) : m.er.partI = m.partI := by
  unfold Ms.partI
  rw [m.idx_er]
  simp [Ms.er]
theorem Ms.plen_er (m : Ms) : m.er.plen = m.plen := by
  unfold Ms.plen
  rw [← m.partM_er, m.partI_er]
  simp only [Ms.er, List.getElem?_map]
  cases m.partM.parts[m.partI]? <;> simp [OPrt.er]
theorem Ms.markM_er (m : Ms) (n : List UInt8) (e : Bool) (v : TVal) : (m.markM n e v).er = m.er.markM n e v := by
  unfold Ms.markM
  split
  · rfl
  · rw [← m.partM_er, m.partI_er, m.plen_er]
    rfl
theorem Ms.putM_er (m : Ms) (x : TPce) (b : Bool) : (m.putM x b).er = m.er.putM x.er b := by
  unfold Ms.putM
  rw [show m.er.name = m.name from rfl]
  split
  · rfl
  · rw [← m.partM_er, m.partI_er]
    simp only [Ms.er]
    congr 1
    apply List.ext_getElem?
    intro i
    simp only [List.getElem?_map, List.getElem?_modify]
    by_cases h : m.partI = i
    · subst h
      cases m.partM.parts[m.partI]? <;> simp [OPrt.er, OPrt.add, TPce.er]
    · simp [h]
theorem foldl_er {α : Type} (f : Ms → α → Ms) (hf : ∀ m x, (f m x).er = f m.er x) : ∀ (l : List α) (m : Ms), (l.foldl f m).er = l.foldl f m.er
  | [], m => rfl
  | x :: l, m => by rw [List.foldl_cons, List.foldl_cons, foldl_er f hf l, hf]
theorem Ms.tellM_er (m : Ms) (n : List UInt8) : (m.tellM n).er = m.er.tellM n := by
  unfold Ms.tellM
  split <;> rfl
theorem Ms.nameM_er (m : Ms) (n : List UInt8) : (m.nameM n).er = m.er.nameM n := by
  unfold Ms.nameM
  split
  · rfl
  · exact Ms.partM_er _
def Ms.stmtE (m : Ms) (s : TStm) : Ms :=
  if s.kind == 1 then m.putM ⟨if (growsV s.line).2.2 then 2 else 1, 0, 0, ⟨s.line.name, ⟨false, s.line.opers.l⟩⟩, val0, 0, ⟨false, []⟩, 0⟩ true
  else if s.kind == 4 then m.putM ⟨5, 0, 0, ⟨[], ⟨false, []⟩⟩, val0, 0, ⟨false, []⟩, (fstV s.values.l).add⟩ false
  else if s.kind == 5 then s.values.l.foldl (Ms.wordM s.size) m
  else if s.kind == 6 then m.putM ⟨4, 0, 0, ⟨[], ⟨false, []⟩⟩, val0, 0, ⟨false, s.bytes.l⟩, 0⟩ (!s.bytes.l.isEmpty)
  else if s.kind == 2 then m.nameM (fstS s.names.l)
  else if s.kind == 7 then m.markM (fstS s.names.l) true (fstV s.values.l)
  else if s.kind == 3 then s.names.l.foldl Ms.tellM m
  else m
theorem Sl.cp_l {α : Type} (r : Bool) (s : Sl α) : (s.cp r).l = s.l := by cases r <;> rfl
theorem Ms.stmtM_er (m : Ms) (r : Bool) (s : TStm) : (m.stmtM r s).er = m.er.stmtE s := by
  unfold Ms.stmtM Ms.stmtE
  split
  · rw [Ms.putM_er]; simp only [TPce.er, Sl.cp_l]
  split
  · rw [Ms.putM_er]; rfl
  split
  · exact foldl_er _ (fun m x => Ms.putM_er m _ _) _ _
  split
  · rw [Ms.putM_er]; simp only [TPce.er, Sl.cp_l]
  split
  · exact Ms.nameM_er _ _
  split
  · exact Ms.markM_er _ _ _ _
  split
  · exact foldl_er _ Ms.tellM_er _ _
  · rfl
theorem rowM_er (m : Ms) (r : Bool) (x : TRow) : (m.rowM r x).er = (x.s.labels.l.foldl Ms.labM ({ m.er with line := x.line } : Ms)).stmtE x.s := by
  unfold Ms.rowM
  rw [Ms.stmtM_er, foldl_er Ms.labM (fun m n => Ms.markM_er m n false val0)]
  rfl
theorem oneM_er (n : Int) : ∀ (rs : List TRow) (m m' : Ms), m.er = m'.er → (rs.foldl (Ms.rowM false) m).er = (rs.foldl (Ms.rowM true) m').er
  | [], m, m', h => h
  | x :: rs, m, m', h => by
    rw [List.foldl_cons, List.foldl_cons]
    exact oneM_er n rs _ _ (by rw [rowM_er, rowM_er, h])
theorem pce_sim {a b : TPce} (h : a.er = b.er) : a.sim b := by
  obtain ⟨k, f, l, ⟨nm, ⟨n1, o⟩⟩, v, z, ⟨n2, by'⟩, al⟩ := a
  obtain ⟨k', f', l', ⟨nm', ⟨n1', o'⟩⟩, v', z', ⟨n2', by''⟩, al'⟩ := b
  simp only [TPce.er, TPce.mk.injEq, TLin.mk.injEq, Sl.mk.injEq, true_and] at h
  obtain ⟨rfl, rfl, rfl, ⟨rfl, rfl⟩, rfl, rfl, rfl, rfl⟩ := h
  exact ⟨rfl, rfl, rfl, rfl, rfl, rfl, rfl, rfl, rfl⟩
theorem simL_map {α : Type} {R : α → α → Prop} {f : α → α} (hf : ∀ a b, f a = f b → R a b) {aa bs : List α} (h : aa.map f = bs.map f) : simL R aa bs := by
  refine ⟨by simpa using congrArg List.length h, fun i a b ha hb => hf a b ?_⟩
  have h1 : (aa.map f)[i]? = some (f a) := by simp [ha]
  have h2 : (bs.map f)[i]? = some (f b) := by simp [hb]
  rw [h, h2] at h1
  exact (Option.some.inj h1).symm
theorem unt_sim {m m' : Ms} (h : m.er = m'.er) : m.unt.sim m'.unt := by
  have hp : m.parts.map OPrt.er = m'.parts.map OPrt.er := congrArg Ms.parts h
  have hm : m.er.marks = m'.er.marks := by rw [h]
  have hg : m.er.globals = m'.er.globals := by rw [h]
  refine ⟨?_, hm, hg⟩
  refine ⟨by simpa [Ms.unt] using congrArg List.length hp, fun i a b ha hb => ?_⟩
  simp only [Ms.unt, List.getElem?_map, Option.map_eq_some_iff] at ha hb
  obtain ⟨p, hp1, rfl⟩ := ha
  obtain ⟨q, hq1, rfl⟩ := hb
  have h1 : (m.parts.map OPrt.er)[i]? = some p.er := by simp [hp1]
  have h2 : (m'.parts.map OPrt.er)[i]? = some q.er := by simp [hq1]
  rw [hp, h2] at h1
  have he : q.er = p.er := Option.some.inj h1
  obtain ⟨nm, f, l, ps⟩ := p
  obtain ⟨nm', f', l', ps'⟩ := q
  simp only [OPrt.er, OPrt.mk.injEq] at he
  obtain ⟨rfl, rfl, rfl, hps⟩ := he
  exact ⟨rfl, rfl, rfl, simL_map (fun _ _ => pce_sim) hps.symm⟩
theorem one_sim (n : Int) (rs : List TRow) : (oneM false n rs).unt.sim (oneM true n rs).unt ∧ (oneM false n rs).faults = (oneM true n rs).faults := by
  have h := oneM_er n rs (Ms.new0 n) (Ms.new0 n) rfl
  have hf : (oneM false n rs).er.faults = (oneM true n rs).er.faults := by unfold oneM; rw [h]
  exact ⟨unt_sim h, hf⟩
end Go.Proofs.YtgmphfmoonbfpaaMv

set_option maxRecDepth 100000
namespace Go.Proofs.YtgmphfmoonbfpaaMv
open Go
theorem w3_0 (n : Int) (rs : Sl TRow) (l : TLin) (hp : HL)
    (c0 : Rn pg 7 [] ([]) (V.d (D.bool true)) ([]))
    (c1 : Rn pg 8 [V.d (D.sl rs.nn (rs.l.map TRow.c))] ([]) (V.d (D.bool (decide (rs.l.length ≤ 300)))) ([]))
    (c2 : (!(decide (rs.l.length ≤ 300))) = false)
    (c3 : Rn pg 9 [V.d (D.int .i64 n), V.d (D.sl rs.nn (rs.l.map TRow.c))] ([]) (V.tup [V.d (D.agg [D.sl ((oneM false n rs.l).unt.parts.nn) ((oneM false n rs.l).unt.parts.l.map TPrt.c), D.sl ((oneM false n rs.l).unt.marks.nn) ((oneM false n rs.l).unt.marks.l.map TMrk.c), D.sl ((oneM false n rs.l).unt.globals.nn) ((oneM false n rs.l).unt.globals.l.map TTld.c)]), V.d (D.sl false ((oneM false n rs.l).faults.map TFlt.c))]) ([]))
    (c4 : Rn pg 10 [V.d (D.int .i64 n), V.d (D.sl rs.nn (rs.l.map TRow.c))] ([]) (V.tup [V.d (D.agg [D.sl ((oneM true n rs.l).unt.parts.nn) ((oneM true n rs.l).unt.parts.l.map TPrt.c), D.sl ((oneM true n rs.l).unt.marks.nn) ((oneM true n rs.l).unt.marks.l.map TMrk.c), D.sl ((oneM true n rs.l).unt.globals.nn) ((oneM true n rs.l).unt.globals.l.map TTld.c)]), V.d (D.sl false ((oneM true n rs.l).faults.map TFlt.c))]) ([]))
    (c5 : Rn pg 11 [V.d (D.agg [D.str l.name, D.sl l.opers.nn (l.opers.l.map TOpr.c)])] ([]) (V.tup [V.d (D.int .i64 ((growsV l).1)), V.d (D.int .i64 ((growsV l).2.1)), V.d (D.bool ((growsV l).2.2))]) ([]))
    (c6 : Rn pg 12 [V.d (D.agg [D.str l.name, D.sl l.opers.nn (l.opers.l.map TOpr.c)])] ([]) (V.tup [V.d (D.int .i64 ((growsV l).1)), V.d (D.int .i64 ((growsV l).2.1)), V.d (D.bool ((growsV l).2.2))]) ([]))
    (c7 : Rn pg 13 [V.d (D.agg [D.sl ((oneM false n rs.l).unt.parts.nn) ((oneM false n rs.l).unt.parts.l.map TPrt.c), D.sl ((oneM false n rs.l).unt.marks.nn) ((oneM false n rs.l).unt.marks.l.map TMrk.c), D.sl ((oneM false n rs.l).unt.globals.nn) ((oneM false n rs.l).unt.globals.l.map TTld.c)]), V.d (D.agg [D.sl ((oneM true n rs.l).unt.parts.nn) ((oneM true n rs.l).unt.parts.l.map TPrt.c), D.sl ((oneM true n rs.l).unt.marks.nn) ((oneM true n rs.l).unt.marks.l.map TMrk.c), D.sl ((oneM true n rs.l).unt.globals.nn) ((oneM true n rs.l).unt.globals.l.map TTld.c)])] ([]) (V.d (D.bool true)) ([]))
    (c8 : Rn pg 14 [V.d (D.sl false ((oneM false n rs.l).faults.map TFlt.c)), V.d (D.sl false ((oneM true n rs.l).faults.map TFlt.c))] ([]) (V.d (D.bool true)) ([]))
    (c9 : (((growsV l).1) == ((growsV l).1)) = true)
    (c10 : (((growsV l).2.1) == ((growsV l).2.1)) = true) :
    Rn pg 3 [V.d (D.int .i64 n), V.d (D.sl rs.nn (rs.l.map TRow.c)), V.d (D.agg [D.str l.name, D.sl l.opers.nn (l.opers.l.map TOpr.c)])] (hp) (V.d (D.bool ((((growsV l).2.2) == ((growsV l).2.2))))) (hp) :=
  Rn.c (fn := i3) (ex := .ret) (st := ⟨[(6, V.d (D.bool ((((growsV l).2.2) == ((growsV l).2.2)))))], [] :: hp⟩) (hs := [.call (V.d (D.bool true)) ([]), .b false, .b false, .call (V.d (D.bool (decide (rs.l.length ≤ 300)))) ([]), .b false, .b false, .b false, .call (V.tup [V.d (D.agg [D.sl ((oneM false n rs.l).unt.parts.nn) ((oneM false n rs.l).unt.parts.l.map TPrt.c), D.sl ((oneM false n rs.l).unt.marks.nn) ((oneM false n rs.l).unt.marks.l.map TMrk.c), D.sl ((oneM false n rs.l).unt.globals.nn) ((oneM false n rs.l).unt.globals.l.map TTld.c)]), V.d (D.sl false ((oneM false n rs.l).faults.map TFlt.c))]) ([]), .call (V.tup [V.d (D.agg [D.sl ((oneM true n rs.l).unt.parts.nn) ((oneM true n rs.l).unt.parts.l.map TPrt.c), D.sl ((oneM true n rs.l).unt.marks.nn) ((oneM true n rs.l).unt.marks.l.map TMrk.c), D.sl ((oneM true n rs.l).unt.globals.nn) ((oneM true n rs.l).unt.globals.l.map TTld.c)]), V.d (D.sl false ((oneM true n rs.l).faults.map TFlt.c))]) ([]), .call (V.tup [V.d (D.int .i64 ((growsV l).1)), V.d (D.int .i64 ((growsV l).2.1)), V.d (D.bool ((growsV l).2.2))]) ([]), .call (V.tup [V.d (D.int .i64 ((growsV l).1)), V.d (D.int .i64 ((growsV l).2.1)), V.d (D.bool ((growsV l).2.2))]) ([]), .call (V.d (D.bool true)) ([]), .b true, .b true, .b true, .call (V.d (D.bool true)) ([]), .b true, .b true, .b true, .b true, .b true, .b true, .b true, .b true, .b true, .b true, .b true, .b true, .b true]) (cs := [_, false = false, false = false, _, false = false, false = false, _, _, _, _, _, _, true = true, true = true, true = true, _, true = true, true = true, true = true, true = true, true = true, _, _, _, _, _, _, _, _]) (rs := [V.d (D.bool ((((growsV l).2.2) == ((growsV l).2.2))))]) (t := [])
    (by kernel_rfl) (by kernel_rfl) (by kernel_rfl) (by kernel_rfl) (by kernel_rfl) (by kernel_rfl) ⟨c0, rfl, rfl, c1, rfl, rfl, c2, c3, c4, c5, c6, c7, rfl, rfl, rfl, c8, rfl, rfl, rfl, rfl, rfl, c9, c9, c9, c9, c10, c10, c10, c10, trivial⟩
theorem w3_1 (n : Int) (rs : Sl TRow) (l : TLin) (hp : HL)
    (c0 : Rn pg 7 [] ([]) (V.d (D.bool true)) ([]))
    (c1 : Rn pg 8 [V.d (D.sl rs.nn (rs.l.map TRow.c))] ([]) (V.d (D.bool (decide (rs.l.length ≤ 300)))) ([]))
    (c2 : (!(decide (rs.l.length ≤ 300))) = true) :
    Rn pg 3 [V.d (D.int .i64 n), V.d (D.sl rs.nn (rs.l.map TRow.c)), V.d (D.agg [D.str l.name, D.sl l.opers.nn (l.opers.l.map TOpr.c)])] (hp) (V.d (D.bool true)) (hp) :=
  Rn.c (fn := i3) (ex := .ret) (st := ⟨[(6, V.d (D.bool true))], [] :: hp⟩) (hs := [.call (V.d (D.bool true)) ([]), .b false, .b false, .call (V.d (D.bool (decide (rs.l.length ≤ 300)))) ([]), .b false, .b false, .b true, .call (V.d (D.bool true)) ([])]) (cs := [_, false = false, false = false, _, false = false, false = false, _, _]) (rs := [V.d (D.bool true)]) (t := [])
    (by kernel_rfl) (by kernel_rfl) (by kernel_rfl) (by kernel_rfl) (by kernel_rfl) (by kernel_rfl) ⟨c0, rfl, rfl, c1, rfl, rfl, c2, c0, trivial⟩
end Go.Proofs.YtgmphfmoonbfpaaMv

namespace Go.Proofs.YtgmphfmoonbfpaaMv
open Go
theorem t7 (m : Nat) : run pg (m + 40) 7 [] [] = some (.d (.bool true), []) := by kernel_rfl
theorem f7 : Rn pg 7 [] [] (.d (.bool true)) [] := ⟨40, fun m hm => by
  obtain ⟨k, rfl⟩ := Nat.exists_eq_add_of_le hm
  rw [Nat.add_comm]
  exact t7 k⟩
end Go.Proofs.YtgmphfmoonbfpaaMv

namespace Go.Proofs.YtgmphfmoonbfpaaMv
open Go
def Ms.opb (m : Ms) (B : Nat) : Prop := ∀ p ∈ m.parts, ∀ x ∈ p.pieces, x.l.opers.l.length < B
theorem Ms.opb_part {m : Ms} {B : Nat} (h : m.opb B) : m.partM.opb B := by
  unfold Ms.partM
  cases m.idx with
  | some _ => exact h
  | none =>
    intro p hp x hx
    simp only [List.mem_append, List.mem_singleton] at hp
    rcases hp with hp | rfl
    · exact h p hp x hx
    · simp [Ms.new] at hx
theorem Ms.opb_mark {m : Ms} {B : Nat} (h : m.opb B) (n : List UInt8) (e : Bool) (v : TVal) : (m.markM n e v).opb B := by
  unfold Ms.markM
  split
  · exact h
  · exact m.opb_part h
theorem Ms.opb_put {m : Ms} {B : Nat} (h : m.opb B) (x : TPce) (hx : x.l.opers.l.length < B) (b : Bool) : (m.putM x b).opb B := by
  unfold Ms.putM
  split
  · exact h
  · intro p hp y hy
    obtain ⟨i, hi, rfl⟩ := List.mem_iff_getElem.1 hp
    simp only [List.length_modify] at hi
    simp only [List.getElem_modify] at hy
    have hm : m.partM.parts[i] ∈ m.partM.parts := List.getElem_mem _
    split at hy
    · simp only [OPrt.add, List.mem_append, List.mem_singleton] at hy
      rcases hy with hy | rfl
      · exact m.opb_part h _ hm y hy
      · exact hx
    · exact m.opb_part h _ hm y hy
theorem opb_fold {α : Type} {B : Nat} (f : Ms → α → Ms) (hf : ∀ m x, m.opb B → (f m x).opb B) : ∀ (l : List α) (m : Ms), m.opb B → (l.foldl f m).opb B
  | [], m, h => h
  | x :: l, m, h => by rw [List.foldl_cons]; exact opb_fold f hf l _ (hf m x h)
theorem Ms.opb_stmt {m : Ms} {B : Nat} (h : m.opb B) (r : Bool) (s : TStm) (hs : s.line.opers.l.length < B) : (m.stmtM r s).opb B := by
  have hB : 0 < B := by omega
  unfold Ms.stmtM
  split
  · exact m.opb_put h _ (by simpa [Sl.cp_l] using hs) _
  split
  · exact m.opb_put h _ (by simpa using hB) _
  split
  · exact opb_fold _ (fun m x hm => m.opb_put hm _ (by simpa using hB) _) _ _ h
  split
  · exact m.opb_put h _ (by simpa using hB) _
  split
  · unfold Ms.nameM
    split
    · exact h
    · exact Ms.opb_part (m := { m with name := fstS s.names.l }) h
  split
  · exact m.opb_mark h _ _ _
  split
  · refine opb_fold _ (fun m x hm => ?_) _ _ h
    unfold Ms.tellM
    split <;> exact hm
  · exact h
theorem opb_one {B : Nat} (r : Bool) : ∀ (rs : List TRow) (m : Ms), m.opb B → (∀ x ∈ rs, x.s.line.opers.l.length < B) → (rs.foldl (Ms.rowM r) m).opb B
  | [], m, h, _ => h
  | x :: rs, m, h, ho => by
    rw [List.foldl_cons]
    refine opb_one r rs _ ?_ (fun y hy => ho y (List.mem_cons_of_mem _ hy))
    have h1 : ({ m with line := x.line } : Ms).opb B := h
    exact Ms.opb_stmt (opb_fold Ms.labM (fun m n hm => m.opb_mark hm n false val0) x.s.labels.l { m with line := x.line } h1) r x.s (ho x List.mem_cons_self)
theorem le_one (r : Bool) : ∀ (rs : List TRow) (m : Ms) (k : Nat), m.le k → (rs.foldl (Ms.rowM r) m).le (k + wts rs)
  | [], m, k, h => h
  | x :: rs, m, k, h => by
    rw [List.foldl_cons, wts_cons]
    exact (le_one r rs _ _ (m.le_row h r x)).mono (by omega)
structure rowsOk (rs : Sl TRow) : Prop where
  opers : ∀ x ∈ rs.l, x.s.line.opers.l.length < 2 ^ 30 ∧ x.s.bytes.l.length < 2 ^ 30
  wt : wts rs.l < 2 ^ 28
  len : rs.l.length < 2 ^ 28
theorem f3 (n : Int) (rs : Sl TRow) (l : TLin) (hr : rowsOk rs) (hl : l.opers.l.length < 2 ^ 30) (hp : HL) : Rn pg 3 [V.d (D.int .i64 n), V.d (D.sl rs.nn (rs.l.map TRow.c)), V.d (D.agg l.c)] hp (V.d (D.bool true)) hp := by
  by_cases h : rs.l.length ≤ 300
  · obtain ⟨h1, h2⟩ := one_sim n rs.l
    have hle : (oneM false n rs.l).le (0 + wts rs.l) := le_one false rs.l _ 0 (Ms.le_new0 n)
    have hop : (oneM false n rs.l).opb (2 ^ 30) := opb_one false rs.l _ (by intro p hp; simp [Ms.new0] at hp) (fun x hx => (hr.opers x hx).1)
    have hw := hr.wt
    have h13 := f13 (oneM false n rs.l).unt (oneM true n rs.l).unt h1 (by have := hle.parts; simp [Ms.unt]; omega)
      (fun p hp => by
        simp only [Ms.unt, List.mem_map] at hp
        obtain ⟨q, hq, rfl⟩ := hp
        exact ⟨by have := hle.pieces q hq; simp [OPrt.t]; omega, fun x hx => hop q hq x hx⟩)
      (by have := hle.marks; simp [Ms.unt]; omega) (by have := hle.globals; simp [Ms.unt]; omega) []
    have h14 := f14 false false (oneM false n rs.l).faults (by have := hle.faults; omega) []
    have r := w3_0 n rs l hp f7 (f8 rs []) (by simpa using h) (f9 n rs [] hr.opers hr.wt hr.len) (f10 n rs [] hr.opers hr.wt hr.len) (f11 l [] hl) (f12 l [] hl) h13 (by rw [← h2]; exact h14) (by simp) (by simp)
    rw [show (((growsV l).2.2) == ((growsV l).2.2)) = true by simp] at r
    exact r
  · exact w3_1 n rs l hp f7 (f8 rs []) (by simpa using h)
end Go.Proofs.YtgmphfmoonbfpaaMv

set_option maxRecDepth 100000
namespace Go.Proofs.YtgmphfmoonbfpaaMv
open Go Go.ChangeShapes Go.WideShapes Go.ChangeAt Go.RowKit
theorem carryAll {H : Type} {enc : TypeId × Value → H} {P : Program} {w w' : World} {base : Nat} {spare : Nat → Bool} {held : Bool} : ∀ {ts : List TypeId} {vs : List Value} {ds : List (DataW H)} {ps : List MemPlace}, DataW.TrodAll enc P w base spare held ts vs ds ps → (∀ p ∈ ps, w.sameAt w' p) → DataW.TrodAll enc P w' base spare held ts vs ds ps
  | [], [], [], _, h, _ => h
  | _ :: _, _ :: _, _ :: _, _, ⟨p, q, ⟨n, h1⟩, h2, e⟩, hs => ⟨p, q, ⟨n, DataW.trod_carry n _ _ _ h1 (fun x hx => hs x (by rw [e]; exact List.mem_append_left _ hx))⟩, carryAll h2 (fun x hx => hs x (by rw [e]; exact List.mem_append_right _ hx)), e⟩
structure Lay (w w' : World) : Prop where
  os : w'.os = w.os
  output : w'.output = w.output
  size : w.heap.size ≤ w'.heap.size
  keep : ∀ b, b < w.heap.size → w'.heap[b]? = w.heap[b]?
theorem Lay.sameAt {w w' : World} (L : Lay w w') {p : MemPlace} (hp : p.block < w.heap.size) : w.sameAt w' p := by
  cases p with
  | cell b off =>
    show w'.cell? _ = w.cell? _
    unfold World.cell?
    simp only [L.keep b hp]
  | map b => exact L.keep b hp
theorem Lay.kept {w w' : World} (L : Lay w w') (may : MemPlace → Prop) : w.keptBut w' may := by
  refine ⟨L.os, L.output, fun i hi => ?_⟩
  rw [L.keep i hi]
  cases h : w.heap[i]? with
  | none => simp
  | some o => cases o <;> simp
theorem Lay.frozen {w w' : World} (L : Lay w w') {a : Addr} (ha : a.block < w.heap.size) : w'.frozen? a = w.frozen? a := by
  unfold World.frozen?
  rw [L.keep _ ha]
theorem kidsP : Kids Go.Proofs.Try.prog (· < Go.Proofs.Try.prog.types.size) := kids_rows (by kernel_rfl) (by kernel_rfl)
theorem fullP : ∀ t e, t < Go.Proofs.Try.prog.types.size → Go.Proofs.Try.prog.underlying t = some (.slice e) → 0 < Go.Proofs.Try.prog.cellsOf e := slices_full_of _ (by kernel_rfl)
theorem post_true {H : Type} {enc : TypeId × Value → H} {f : Func} {s : ChangeSpec} {apart fresh handsOn again : Bool} {W W' : World} {args : Array Value} {ds gs : List (DataW H)} {before : List MemPlace} {tb : TypeId}
    (hW : DataW.Whole enc Go.Proofs.Try.prog f.params.toList s.vars apart W args.toList ds gs before) (hvars : s.vars = []) (hrt : f.resultTypes = #[tb]) (hb : Go.Proofs.Try.prog.underlying tb = some .bool)
    (hpar : ∀ t ∈ f.params.toList, t < Go.Proofs.Try.prog.types.size) (hfn : s.fn H (ds ++ gs) = { results := [.lit (.bool true)], args := ds }) (L : Lay W W') :
    s.post enc Go.Proofs.Try.prog f apart fresh handsOn again W args (.bool true) W' := by
  have hlt := hW.lt
  have hW0 := hW
  obtain ⟨p, q, hA, hV, hbf, hz, hn⟩ := hW0
  rw [hvars] at hV
  obtain ⟨rfl, rfl⟩ := trodVars_none hV
  have hbf' : before = p := by simpa using hbf
  subst hbf'
  have hargs : ∀ sp : Nat → Bool, (∀ p ∈ before, sp p.block = true) → DataW.TrodAll enc Go.Proofs.Try.prog W' 0 sp true f.params.toList args.toList ds before :=
    fun sp hsp => carryAll (DataW.TrodAll.respare kidsP fullP hpar hA hsp) (fun x hx => L.sameAt (hlt x hx))
  have hres : ∀ (b : Nat) (sp : Nat → Bool) (hd : Bool), DataW.TrodAll enc Go.Proofs.Try.prog W' b sp hd f.resultTypes.toList ((Value.bool true).resultList f.resultTypes.size) [.lit (.bool true)] [] := by
    intro b sp hd
    rw [hrt]
    exact trodAll_cons_mk (shut_bool hb true) trodAll_mk0
  have hvs : ∀ sp : Nat → Bool, DataW.TrodVars enc Go.Proofs.Try.prog W' sp s.vars [] [] := by
    intro sp; rw [hvars]; rfl
  refine ⟨ds, [], before, [], before, [], hW, ?_, ?_, ?_, World.keptBut_mono (fun p hp => ⟨hp, .inr (.inl hp)⟩) (L.kept (· ∈ before)), fun _ => ?_⟩
  · rw [hfn]; exact hres _ _ _
  · rw [hfn]; exact hargs _ (fun p hp => by simpa using hlt p hp)
  · rw [hfn]; exact hvs _
  · refine ⟨ok_one hrt rfl (okWide_bool_mk hb true), _, _, ([] ++ before) ++ [], ⟨[] ++ before, [], trodAll_append (hargs _ (fun _ _ => rfl)) (hres _ _ _), hvs _, rfl, ?_, ?_⟩, ?_⟩
    · intro b off hp
      have hmem : MemPlace.cell b off ∈ before := by simpa using hp
      rw [L.frozen (hlt _ hmem)]
      exact hz b off (by simpa using hmem)
    · intro ha
      have := hn ha
      simpa using this
    · intro x hx _
      simpa using hx
theorem len_sums {α : Type} {wt : α → Nat} (h : ∀ x, 1 ≤ wt x) : ∀ l : List α, l.length ≤ sums wt l
  | [] => Nat.zero_le _
  | x :: l => by
    have h1 := len_sums h l
    have h2 := h x
    simp only [sums, List.map_cons, List.sum_cons, List.length_cons] at *
    omega
theorem mem_sums {α : Type} {wt : α → Nat} {x : α} : ∀ {l : List α}, x ∈ l → wt x ≤ sums wt l
  | y :: l, h => by
    simp only [sums, List.map_cons, List.sum_cons]
    rcases List.mem_cons.1 h with rfl | h
    · omega
    · have := mem_sums (wt := wt) h
      simp only [sums] at this
      omega
theorem sums_mul {α : Type} {f g : α → Nat} {k : Nat} (h : ∀ x, f x ≤ k * g x) : ∀ l : List α, sums f l ≤ k * sums g l
  | [] => by simp [sums]
  | x :: l => by
    have h1 := sums_mul h l
    have h2 := h x
    simp only [sums, List.map_cons, List.sum_cons, Nat.mul_add] at *
    omega
theorem TOpr.w1 (x : TOpr) : 1 ≤ x.w := by unfold TOpr.w; omega
theorem TVal.w1 (x : TVal) : 1 ≤ x.w := by unfold TVal.w; omega
theorem wstr1 (x : List UInt8) : 1 ≤ wstr x := by unfold wstr; omega
theorem TLin.w_opers (x : TLin) : x.opers.l.length < x.w := by
  have := len_sums TOpr.w1 x.opers.l
  simp only [TLin.w]; omega
theorem TStm.w_all (x : TStm) : x.line.opers.l.length < x.w ∧ x.bytes.l.length < x.w ∧ x.labels.l.length + x.names.l.length + x.values.l.length + 2 ≤ x.w := by
  have h1 := x.line.w_opers
  have h2 := len_sums (wt := fun _ : UInt8 => 1) (fun _ => Nat.le_refl _) x.bytes.l
  have h3 := len_sums wstr1 x.labels.l
  have h4 := len_sums wstr1 x.names.l
  have h5 := len_sums TVal.w1 x.values.l
  simp only [TStm.w]
  refine ⟨by omega, by omega, by omega⟩
theorem TRow.w_wt (x : TRow) : x.wt ≤ 2 * x.w ∧ 1 ≤ x.w ∧ x.s.w ≤ x.w := by
  have h := x.s.w_all
  simp only [TRow.wt, TStm.wt, TRow.w]
  refine ⟨by omega, by omega, by omega⟩
theorem rowsOk_of {rs : Sl TRow} (h : sums TRow.w rs.l ≤ 1048576) : rowsOk rs := by
  refine ⟨fun x hx => ?_, ?_, ?_⟩
  · have h1 := mem_sums (wt := TRow.w) hx
    have h2 := x.w_wt
    have h3 := x.s.w_all
    omega
  · have h1 := sums_mul (f := TRow.wt) (g := TRow.w) (k := 2) (fun x => x.w_wt.1) rs.l
    have : wts rs.l = sums TRow.wt rs.l := rfl
    omega
  · have h1 := len_sums (wt := TRow.w) (fun x => x.w_wt.2.1) rs.l
    omega
end Go.Proofs.YtgmphfmoonbfpaaMv

set_option maxRecDepth 100000
namespace Go.Proofs.YtgmphfmoonbfpaaMv
open Go Go.ChangeShapes Go.WideShapes Go.ChangeAt Go.RowKit
open Go.Proofs.Ytgmphfmoonbfpaa
theorem forb0 : Forb (fun _ => False) (hof ([] : HL)) (fun _ _ _ => 0) = fun _ => False := by
  funext b
  apply propext
  constructor
  · rintro (⟨u, s, p, n, h, _⟩ | h)
    · simp [nd, hof] at h
    · exact h
  · exact fun h => h.elim
theorem hrel0 (w : World) : HRel (fun _ => False) (hof ([] : HL)) (fun _ _ _ => 0) w := by
  refine ⟨fun u s p n h => ?_, fun u s p n u' s' p' n' h => ?_, fun b h => h.elim, fun b _ h => h⟩
  · simp [nd, hof] at h
  · simp [nd, hof] at h
theorem rv_of_one {w : World} {d : D} {v : Value} (h : Cs w [d] [v]) : RV (fun _ => False) (hof ([] : HL)) (fun _ _ _ => 0) w (.d d) v := by
  refine RV.of1 ?_
  show RD w (Forb _ _ _) d v
  rw [forb0]
  exact (h.2 0 d v rfl rfl).1
theorem rv_of_agg {w : World} {l : List D} {cs : Array Value} (h : Cs w l cs.toList) : RV (fun _ => False) (hof ([] : HL)) (fun _ _ _ => 0) w (.d (.agg l)) (.agg cs) := by
  refine RV.of1 ?_
  show RD w (Forb _ _ _) (.agg l) (.agg cs)
  rw [forb0]
  have hl : cs.size = l.length := by rw [h.1]; simp
  refine .agg l cs hl (fun i v hv => ?_) (fun i d v hd hv => ?_)
  · have hi : i < l.length := by rw [← hl]; exact (Array.getElem?_eq_some_iff.1 hv).1
    exact (h.2 i l[i] v (List.getElem?_eq_getElem hi) (by simpa using hv)).2
  · exact (h.2 i d v hd (by simpa using hv)).1
theorem calls_true {g : FuncId} {fn : IFn} (hfn : pg.fns g = some fn) {vs : List V} {args : Array Value} {W : World} (hv : RVL (fun _ => False) (hof ([] : HL)) (fun _ _ _ => 0) W vs args) (h : Rn pg g vs [] (.d (.bool true)) []) :
    Calls Go.Proofs.Try.prog g args W fun e W' => e = .returned (.bool true) ∧ Lay W W' := by
  obtain ⟨n, hn⟩ := h
  refine Calls.mono (pg_calls hfn n vs [] _ [] (hn (n + 1) (by omega)) _ _ W args (hrel0 W) hv).2 fun e W' he => ?_
  obtain ⟨cv, rfl, B', A, hr⟩ := he
  have hcv : cv = .bool true := by
    have := hr.to1 rfl
    cases this
    rfl
  subst hcv
  refine ⟨rfl, A.stp.os, A.stp.output, A.stp.size, fun b hb => A.stp.keep b hb ?_⟩
  rintro ⟨u, s, p, m, h, _⟩
  simp [nd, hof] at h
theorem contract3 (H : Type) (enc : TypeId × Value → H) (W : World) (base : Nat) (args : Array Value) (ds gs : List (DataW H)) (before : List MemPlace)
    (hval : ∀ (j : Nat) t v, Try.f3.params[j]? = some t → args[j]? = some v → Value.okWide Try.prog W .any base t v)
    (hW : DataW.Whole enc Try.prog Try.f3.params.toList Rows.fragOnesSpec.vars false W args.toList ds gs before) (hk : Rows.uptoSmall H (ds ++ gs) = true) :
    Calls Try.prog 3 args W fun e W' => ∃ v, e = .returned v ∧ Rows.fragOnesSpec.post enc Try.prog Try.f3 false true false false W args v W' := by
  have hW' := hW
  obtain ⟨p, q, hA0, hV, hbf, hfz, hnd⟩ := hW
  have hA : DataW.TrodAll enc Try.prog W 0 (fun _ => true) true Try.f3.params.toList args.toList ds p := hA0
  rw [Try.params3] at hA hval
  obtain ⟨v0, vs0, d0, ds0, p0, q0, hargs, rfl, _, h0, r0⟩ := trodAll_cons hA
  obtain ⟨v1, vs1, d1, ds1, p1, q1, rfl, rfl, _, h1, r1⟩ := trodAll_cons r0
  obtain ⟨v2, vs2, d2, ds2, p2, q2, rfl, rfl, _, h2, r2⟩ := trodAll_cons r1
  obtain ⟨rfl, rfl, _⟩ := trodAll_nil r2
  obtain rfl : args = #[v0, v1, v2] := by cases args; simp_all
  obtain ⟨rfl, _⟩ := trodVars_none hV
  obtain ⟨a0, rfl⟩ := okWide_int (k := .i64) (by kernel_rfl) (hval 0 3 v0 rfl rfl)
  obtain ⟨sa, sl, sc, rfl⟩ := okWide_slice (e := 59) (by kernel_rfl) (hval 1 22 v1 rfl rfl)
  obtain ⟨cs, rfl, _⟩ := okWide_struct (fs := fldsOf Try.prog 25) (by kernel_rfl) (hval 2 25 v2 rfl rfl)
  obtain ⟨f0, t0⟩ := h0
  obtain ⟨f1, t1⟩ := h1
  obtain ⟨f2, t2⟩ := h2
  obtain ⟨n, c0, _⟩ := rd3 W H enc f0 _ d0 p0 t0
  obtain ⟨rs, c1, w1⟩ := rd22 W H enc f1 _ d1 p1 t1
  obtain ⟨l, c2, w2⟩ := rd25 W H enc f2 _ d2 p2 t2
  have hb : Rows.uptoBulk d1 + Rows.uptoBulk d2 ≤ 1048576 := by
    have := of_decide_eq_true hk
    simp only [List.append_nil, Rows.uptoBulkAll] at this
    omega
  have w1' : sums TRow.w rs.l + 1 ≤ Rows.uptoBulk d1 := w1
  have hr : rowsOk rs := rowsOk_of (by omega)
  have hl : l.opers.l.length < 2 ^ 30 := by have := l.w_opers; omega
  have hrv : RVL (fun _ => False) (hof ([] : HL)) (fun _ _ _ => 0) W [V.d (D.int .i64 n), V.d (D.sl rs.nn (rs.l.map TRow.c)), V.d (D.agg l.c)] #[.int .i64 a0, .slice sa sl sc, .agg cs] := by
    refine ⟨rfl, fun i v x hv hx => ?_⟩
    match i, hv, hx with
    | 0, hv, hx => simp at hv hx; subst hv; subst hx; exact rv_of_one c0
    | 1, hv, hx => simp at hv hx; subst hv; subst hx; exact rv_of_one c1
    | 2, hv, hx => simp at hv hx; subst hv; subst hx; exact rv_of_agg c2
  refine (calls_true (g := 3) (fn := i3) rfl hrv (f3 n rs l hr hl [])).mono fun e W' ⟨he, hL⟩ => ?_
  subst he
  exact ⟨_, rfl, post_true hW' rfl rfl (tb := 4) (by kernel_rfl) (by rw [Try.params3]; decide) rfl hL⟩
theorem own : ownKnob Try.prog.godebug = none := by kernel_rfl
theorem lifted3 (os : Os) (started : os.Started) (H : Type) (enc : TypeId × Value → H) (F : Stop.Interp) :
    ReturnsInHanded {} Try.checked os 3 .any ((Rows.OpenSpec.upto Rows.fragOnesSpec).pre6 enc Try.prog Try.f3 Rows.fragOnesUptoRow.domain false) (((Rows.OpenSpec.upto Rows.fragOnesSpec).at F).post enc Try.prog Try.f3 false true false false) := by
  refine returnsInHanded_of_cond (C := Try.checked) (s := Rows.OpenSpec.upto Rows.fragOnesSpec) (k := Rows.uptoSmall) rfl own started (by kernel_rfl) Try.func3
    (OpenSpec.witness (enc := enc) (C := Try.checked) (s := Rows.OpenSpec.upto Rows.fragOnesSpec) (k := Rows.uptoSmall) rfl false ⟨#[], #[.int .i64 0, .slice none 0 0, .agg #[.string ⟨#[]⟩, .slice none 0 0]], []⟩ 8 (by kernel_rfl) (by kernel_rfl) (by kernel_rfl)
      (x := ([.lit (.int .i64 0), .nil, .agg [.lit (.string []), .nil]], [], [])) (by kernel_rfl) rfl (by kernel_rfl)) ?_
  intro W base args ds gs before hval hW _ hk _
  exact contract3 H enc W base args ds gs before hval hW hk
theorem over3 : Rows.fragOnesUptoRow.holds Try.pinned (Rows.OpenSpec.upto Rows.fragOnesSpec) :=
  OpenClaim.holds_of_cond 3 Try.f3 rfl rfl rfl rfl rfl rfl rfl ⟨rfl, rfl, rfl, rfl, rfl⟩ rfl rfl rfl rfl rfl (by kernel_rfl) Try.func3 (by kernel_rfl)
    (of_decide_eq_true (by kernel_rfl)) (by unfold Func.isWrapper; first | (rw [if_pos (by decide +kernel)]; kernel_rfl) | (rw [if_neg (by decide +kernel)]; exact ⟨rfl, rfl⟩))
    (fun os started H enc _ F => lifted3 os started H enc F)
theorem fragOnes_proved : Rows.FragOnesUptoSaid := over3
end Go.Proofs.YtgmphfmoonbfpaaMv
