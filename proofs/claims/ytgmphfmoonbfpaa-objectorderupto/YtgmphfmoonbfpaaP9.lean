/- Part 9 of the proof. -/
import Derived.Test.YtgmphfmoonbfpaaP8
set_option linter.unusedVariables false
set_option linter.unusedSimpArgs false
set_option maxRecDepth 100000
namespace Go.Proofs.YtgmphfmoonbfpaaMv
open Go
theorem w6a_0 (o:TObj) (X:TObj) (t:Int) (i:Nat) (es:List (D × D)) (hp:HL)
    (c0:(decide (((i:Nat):Int)<((o.symbols.l.length:Nat):Int)))=false) :
    Ev pg i6_l0 ⟨[(1,V.d (D.int .u8 t)),(2,V.ptr 0 2 [] 0 0),(5,V.ptr 0 5 [] 0 0),(6,V.mp 0 38 none),(40,V.d (D.sl o.symbols.nn (o.symbols.l.map TSym.c))),(41,V.d (D.int .i64 ((o.symbols.l.length:Nat):Int))),(42,V.d (D.int .i64 ((i:Nat):Int)))],[(2,Ob.row true 2 true [[C.d (D.sl o.sections.nn (o.sections.l.map TSec.c)),C.d (D.sl o.symbols.nn (o.symbols.l.map TSym.c))]]),(5,Ob.row true 2 true [[C.d (D.sl X.sections.nn (X.sections.l.map TSec.c)),C.d (D.sl X.symbols.nn (X.symbols.l.map TSym.c))]]),(38,Ob.map es)]::hp⟩ (.exit 0) ⟨[(1,V.d (D.int .u8 t)),(2,V.ptr 0 2 [] 0 0),(5,V.ptr 0 5 [] 0 0),(6,V.mp 0 38 none),(40,V.d (D.sl o.symbols.nn (o.symbols.l.map TSym.c))),(41,V.d (D.int .i64 ((o.symbols.l.length:Nat):Int))),(42,V.d (D.int .i64 ((i:Nat):Int))),(43,V.d (D.bool false))],[(2,Ob.row true 2 true [[C.d (D.sl o.sections.nn (o.sections.l.map TSec.c)),C.d (D.sl o.symbols.nn (o.symbols.l.map TSym.c))]]),(5,Ob.row true 2 true [[C.d (D.sl X.sections.nn (X.sections.l.map TSec.c)),C.d (D.sl X.symbols.nn (X.symbols.l.map TSym.c))]]),(38,Ob.map es)]::hp⟩:=
  by
  have r:Ev pg i6_l0 ⟨[(1,V.d (D.int .u8 t)),(2,V.ptr 0 2 [] 0 0),(5,V.ptr 0 5 [] 0 0),(6,V.mp 0 38 none),(40,V.d (D.sl o.symbols.nn (o.symbols.l.map TSym.c))),(41,V.d (D.int .i64 ((o.symbols.l.length:Nat):Int))),(42,V.d (D.int .i64 ((i:Nat):Int)))],[(2,Ob.row true 2 true [[C.d (D.sl o.sections.nn (o.sections.l.map TSec.c)),C.d (D.sl o.symbols.nn (o.symbols.l.map TSym.c))]]),(5,Ob.row true 2 true [[C.d (D.sl X.sections.nn (X.sections.l.map TSec.c)),C.d (D.sl X.symbols.nn (X.symbols.l.map TSym.c))]]),(38,Ob.map es)]::hp⟩ (.exit 0) ⟨[(1,V.d (D.int .u8 t)),(2,V.ptr 0 2 [] 0 0),(5,V.ptr 0 5 [] 0 0),(6,V.mp 0 38 none),(40,V.d (D.sl o.symbols.nn (o.symbols.l.map TSym.c))),(41,V.d (D.int .i64 ((o.symbols.l.length:Nat):Int))),(42,V.d (D.int .i64 ((i:Nat):Int))),(43,V.d (D.bool (decide (((i:Nat):Int)<((o.symbols.l.length:Nat):Int)))))],[(2,Ob.row true 2 true [[C.d (D.sl o.sections.nn (o.sections.l.map TSec.c)),C.d (D.sl o.symbols.nn (o.symbols.l.map TSym.c))]]),(5,Ob.row true 2 true [[C.d (D.sl X.sections.nn (X.sections.l.map TSec.c)),C.d (D.sl X.symbols.nn (X.symbols.l.map TSym.c))]]),(38,Ob.map es)]::hp⟩:=
  codeC_ok (hs:=[.b false]) (hs':=[]) (cs:=[_]) (by kernel_rfl) ⟨c0,trivial⟩
  simp only [c0] at r
  exact r
theorem w6a_1 (o:TObj) (X:TObj) (t:Int) (i:Nat) (es:List (D × D)) (hp:HL) (x1:TSym) (es2:List (D × D))
    (c0:(decide (((i:Nat):Int)<((o.symbols.l.length:Nat):Int)))=true)
    (c1:(o.symbols.l.map TSym.c)[i]? = some [D.str x1.name,D.int .i64 x1.sect,D.int .i64 x1.value,D.bool x1.glob])
    (c2:findD true [2,1,1,0] (D.agg [D.str x1.name,D.int .i64 0,D.int .i64 0,D.bool x1.glob]) es=some none)
    (c3:(findD true [2,1,1,0] (D.agg [D.str x1.name,D.int .i64 0,D.int .i64 0,D.bool x1.glob]) es).isSome=true)
    (c4:putD true [2,1,1,0] (D.agg [D.str x1.name,D.int .i64 0,D.int .i64 0,D.bool x1.glob]) (D.bool true) es=some es2) :
    Ev pg i6_l0 ⟨[(1,V.d (D.int .u8 t)),(2,V.ptr 0 2 [] 0 0),(5,V.ptr 0 5 [] 0 0),(6,V.mp 0 38 none),(40,V.d (D.sl o.symbols.nn (o.symbols.l.map TSym.c))),(41,V.d (D.int .i64 ((o.symbols.l.length:Nat):Int))),(42,V.d (D.int .i64 ((i:Nat):Int)))],[(2,Ob.row true 2 true [[C.d (D.sl o.sections.nn (o.sections.l.map TSec.c)),C.d (D.sl o.symbols.nn (o.symbols.l.map TSym.c))]]),(5,Ob.row true 2 true [[C.d (D.sl X.sections.nn (X.sections.l.map TSec.c)),C.d (D.sl X.symbols.nn (X.symbols.l.map TSym.c))]]),(38,Ob.map es)]::hp⟩ .normal ⟨[(1,V.d (D.int .u8 t)),(2,V.ptr 0 2 [] 0 0),(5,V.ptr 0 5 [] 0 0),(6,V.mp 0 38 none),(40,V.d (D.sl o.symbols.nn (o.symbols.l.map TSym.c))),(41,V.d (D.int .i64 ((o.symbols.l.length:Nat):Int))),(42,V.d (D.int .i64 (IntKind.i64.wrap (((i:Nat):Int)+1))))],[(2,Ob.row true 2 true [[C.d (D.sl o.sections.nn (o.sections.l.map TSec.c)),C.d (D.sl o.symbols.nn (o.symbols.l.map TSym.c))]]),(5,Ob.row true 2 true [[C.d (D.sl X.sections.nn (X.sections.l.map TSec.c)),C.d (D.sl X.symbols.nn (X.symbols.l.map TSym.c))]]),(38,Ob.map es2)]::hp⟩:=
  codeC_ok (hs:=[.b true, .n i, .ds [D.str x1.name,D.int .i64 x1.sect,D.int .i64 x1.value,D.bool x1.glob], .o none, .b false, .es es2]) (hs':=[]) (cs:=[_,((i:Nat):Int)=((i:Nat):Int),_,_,false=false,_,_]) (by kernel_rfl) ⟨c0,rfl,c1,c2,rfl,c3,c4,trivial⟩
theorem w6a_3 (o:TObj) (X:TObj) (t:Int) (i:Nat) (es:List (D × D)) (hp:HL) (x1:TSym) (q2:Bool)
    (c0:(decide (((i:Nat):Int)<((o.symbols.l.length:Nat):Int)))=true)
    (c1:(o.symbols.l.map TSym.c)[i]? = some [D.str x1.name,D.int .i64 x1.sect,D.int .i64 x1.value,D.bool x1.glob])
    (c2:findD true [2,1,1,0] (D.agg [D.str x1.name,D.int .i64 0,D.int .i64 0,D.bool x1.glob]) es=some (some (D.bool q2)))
    (c3:q2=true) :
    Ev pg i6_l0 ⟨[(1,V.d (D.int .u8 t)),(2,V.ptr 0 2 [] 0 0),(5,V.ptr 0 5 [] 0 0),(6,V.mp 0 38 none),(40,V.d (D.sl o.symbols.nn (o.symbols.l.map TSym.c))),(41,V.d (D.int .i64 ((o.symbols.l.length:Nat):Int))),(42,V.d (D.int .i64 ((i:Nat):Int)))],[(2,Ob.row true 2 true [[C.d (D.sl o.sections.nn (o.sections.l.map TSec.c)),C.d (D.sl o.symbols.nn (o.symbols.l.map TSym.c))]]),(5,Ob.row true 2 true [[C.d (D.sl X.sections.nn (X.sections.l.map TSec.c)),C.d (D.sl X.symbols.nn (X.symbols.l.map TSym.c))]]),(38,Ob.map es)]::hp⟩ .ret ⟨[(4,V.d (D.bool true))],[]::hp⟩:=
  codeC_ok (hs:=[.b true, .n i, .ds [D.str x1.name,D.int .i64 x1.sect,D.int .i64 x1.value,D.bool x1.glob], .o (some (D.bool q2)), .b true]) (hs':=[]) (cs:=[_,((i:Nat):Int)=((i:Nat):Int),_,_,_]) (by kernel_rfl) ⟨c0,rfl,c1,c2,c3,trivial⟩
theorem w6_1 (o:TObj) (t:Int) (w:Bool) (X:TObj) (Y:TObj) (Z:TObj) (v:Int) (hp:HL) (es1:List (D × D)) (k2:Nat)
 (c0:Rn pg 19 [] ([]) (V.d (D.bool true)) ([]))
 (c1:Rn pg 20 [V.d (D.agg [D.sl o.sections.nn (o.sections.l.map TSec.c),D.sl o.symbols.nn (o.symbols.l.map TSym.c)])] ([]) (V.d (D.bool w)) ([]))
 (c2:(!w)=false)
 (c3:Rn pg 21 [V.d (D.agg [D.sl o.sections.nn (o.sections.l.map TSec.c),D.sl o.symbols.nn (o.symbols.l.map TSym.c)])] ([]) (V.d (D.agg [D.sl X.sections.nn (X.sections.l.map TSec.c),D.sl X.symbols.nn (X.symbols.l.map TSym.c)])) ([]))
 (c4:Rn pg 21 [V.d (D.agg [D.sl X.sections.nn (X.sections.l.map TSec.c),D.sl X.symbols.nn (X.symbols.l.map TSym.c)])] ([]) (V.d (D.agg [D.sl Y.sections.nn (Y.sections.l.map TSec.c),D.sl Y.symbols.nn (Y.symbols.l.map TSym.c)])) ([]))
 (c5:Rn pg 22 [V.d (D.agg [D.sl Y.sections.nn (Y.sections.l.map TSec.c),D.sl Y.symbols.nn (Y.symbols.l.map TSym.c)]),V.d (D.agg [D.sl X.sections.nn (X.sections.l.map TSec.c),D.sl X.symbols.nn (X.symbols.l.map TSym.c)])] ([]) (V.d (D.bool true)) ([]))
 (c6:Rn pg 23 [V.d (D.agg [D.sl o.sections.nn (o.sections.l.map TSec.c),D.sl o.symbols.nn (o.symbols.l.map TSym.c)])] ([]) (V.d (D.int .i64 v)) ([]))
 (c7:(v==0)=false)
 (c8:Lp pg i6_l0 ⟨[(1,V.d (D.int .u8 t)),(2,V.ptr 0 2 [] 0 0),(5,V.ptr 0 5 [] 0 0),(6,V.mp 0 38 none),(40,V.d (D.sl o.symbols.nn (o.symbols.l.map TSym.c))),(41,V.d (D.int .i64 (((o.symbols.l.map TSym.c).length:Nat):Int))),(42,V.d (D.int .i64 0))],[(2,Ob.row true 2 true [[C.d (D.sl o.sections.nn (o.sections.l.map TSec.c)),C.d (D.sl o.symbols.nn (o.symbols.l.map TSym.c))]]),(5,Ob.row true 2 true [[C.d (D.sl X.sections.nn (X.sections.l.map TSec.c)),C.d (D.sl X.symbols.nn (X.symbols.l.map TSym.c))]]),(38,Ob.map ([]))]::hp⟩ (.exit 0) ⟨[(1,V.d (D.int .u8 t)),(2,V.ptr 0 2 [] 0 0),(5,V.ptr 0 5 [] 0 0),(6,V.mp 0 38 none),(40,V.d (D.sl o.symbols.nn (o.symbols.l.map TSym.c))),(41,V.d (D.int .i64 (((o.symbols.l.map TSym.c).length:Nat):Int))),(42,V.d (D.int .i64 (((o.symbols.l.map TSym.c).length:Nat):Int))),(43,V.d (D.bool false))],[(2,Ob.row true 2 true [[C.d (D.sl o.sections.nn (o.sections.l.map TSec.c)),C.d (D.sl o.symbols.nn (o.symbols.l.map TSym.c))]]),(5,Ob.row true 2 true [[C.d (D.sl X.sections.nn (X.sections.l.map TSec.c)),C.d (D.sl X.symbols.nn (X.symbols.l.map TSym.c))]]),(38,Ob.map es1)]::hp⟩)
 (c9:Rn pg 24 [V.d (D.sl o.symbols.nn (o.symbols.l.map TSym.c))] [[]] (V.msl 0 56 [] 0 o.symbols.l.length) [[(56,Ob.row false 4 true (o.symbols.l.map TSym.oc))]])
 (c10:(decide (((o.symbols.l.length:Nat):Int) > 0))=true)
 (c11:(((o.symbols.l.length:Nat):Int):Int)≠0)
 (c12:(Int.tmod (IntKind.i64.wrap (t)) ((o.symbols.l.length:Nat):Int))=((k2:Nat):Int))
 (c13:k2≤o.symbols.l.length)
 (c14:o.symbols.l.length≤o.symbols.l.length)
 (c15:(o.symbols.l.length - k2)≠0)
 (c16:k2+(o.symbols.l.length - k2)=(o.symbols.l.map TSym.oc).length)
 (c17:0+k2≤(o.symbols.l.map TSym.oc).length)
 (c18:((o.symbols.l.length - k2)+k2) * 40≤room)
 (c19:allDs (List.drop k2 (o.symbols.l.map TSym.oc)++List.take k2 (List.drop 0 (o.symbols.l.map TSym.oc)))=some ((o.symbols.l.drop k2++o.symbols.l.take k2).map TSym.c))
 (c20:Rn pg 21 [V.d (D.agg [D.sl false [],D.sl true ((o.symbols.l.drop k2++o.symbols.l.take k2).map TSym.c)])] ([]) (V.d (D.agg [D.sl Z.sections.nn (Z.sections.l.map TSec.c),D.sl Z.symbols.nn (Z.symbols.l.map TSym.c)])) ([]))
 (c21:Rn pg 25 [V.d (D.sl X.symbols.nn (X.symbols.l.map TSym.c)),V.d (D.sl Z.symbols.nn (Z.symbols.l.map TSym.c))] ([]) (V.d (D.bool true)) ([])) :
 Rn pg 6 [V.d (D.agg [D.sl o.sections.nn (o.sections.l.map TSec.c),D.sl o.symbols.nn (o.symbols.l.map TSym.c)]),V.d (D.int .u8 t)] (hp) (V.d (D.bool true)) (hp):=
 Rn.c (fn:=i6) (ex:=.ret) (st:=⟨[(4,V.d (D.bool true))],[]::hp⟩) (hs:=[.call (V.d (D.bool true)) ([]), .b false, .b false, .call (V.d (D.bool w)) ([]), .b false, .b false, .b false, .call (V.d (D.agg [D.sl X.sections.nn (X.sections.l.map TSec.c),D.sl X.symbols.nn (X.symbols.l.map TSym.c)])) ([]), .call (V.d (D.agg [D.sl Y.sections.nn (Y.sections.l.map TSec.c),D.sl Y.symbols.nn (Y.symbols.l.map TSym.c)])) ([]), .call (V.d (D.bool true)) ([]), .b false, .b false, .call (V.d (D.int .i64 v)) ([]), .b false, .b false, .b false, .b false, .b false, .b false, .b false, .b false, .b false, .b false, .lp (.exit 0) ⟨[(1,V.d (D.int .u8 t)),(2,V.ptr 0 2 [] 0 0),(5,V.ptr 0 5 [] 0 0),(6,V.mp 0 38 none),(40,V.d (D.sl o.symbols.nn (o.symbols.l.map TSym.c))),(41,V.d (D.int .i64 (((o.symbols.l.map TSym.c).length:Nat):Int))),(42,V.d (D.int .i64 (((o.symbols.l.map TSym.c).length:Nat):Int))),(43,V.d (D.bool false))],[(2,Ob.row true 2 true [[C.d (D.sl o.sections.nn (o.sections.l.map TSec.c)),C.d (D.sl o.symbols.nn (o.symbols.l.map TSym.c))]]),(5,Ob.row true 2 true [[C.d (D.sl X.sections.nn (X.sections.l.map TSec.c)),C.d (D.sl X.symbols.nn (X.symbols.l.map TSym.c))]]),(38,Ob.map es1)]::hp⟩, .call (V.msl 0 56 [] 0 o.symbols.l.length) [[(56,Ob.row false 4 true (o.symbols.l.map TSym.oc))]], .b true, .n k2, .n k2, .ees ((o.symbols.l.drop k2++o.symbols.l.take k2).map TSym.c), .call (V.d (D.agg [D.sl Z.sections.nn (Z.sections.l.map TSec.c),D.sl Z.symbols.nn (Z.symbols.l.map TSym.c)])) ([]), .call (V.d (D.bool true)) ([])]) (cs:=[_,false=false,false=false,_,false=false,false=false,_,_,_,_,false=false,false=false,_,false=false,false=false,_,_,_,_,false=false,_,false=false,false=false,_,_,_,_,_,_,_,_,0≤k2,_,_,_,_,_,_,_,_]) (rs:=[V.d (D.bool true)]) (t:=[])
 (by kernel_rfl) (by kernel_rfl) (by kernel_rfl) (by kernel_rfl) (by kernel_rfl) (by kernel_rfl) ⟨c0,rfl,rfl,c1,rfl,rfl,c2,c3,c4,c5,rfl,rfl,c6,rfl,rfl,c7,c7,c7,c7,rfl,c7,rfl,rfl,c8,c9,c10,c11,c12,c13,c14,c12,Nat.zero_le _,c13,c15,c16,c17,c18,c19,c20,c21,trivial⟩
theorem w6_2 (o:TObj) (t:Int) (w:Bool) (X:TObj) (Y:TObj) (Z:TObj) (v:Int) (hp:HL) (es1:List (D × D))
 (c0:Rn pg 19 [] ([]) (V.d (D.bool true)) ([]))
 (c1:Rn pg 20 [V.d (D.agg [D.sl o.sections.nn (o.sections.l.map TSec.c),D.sl o.symbols.nn (o.symbols.l.map TSym.c)])] ([]) (V.d (D.bool w)) ([]))
 (c2:(!w)=false)
 (c3:Rn pg 21 [V.d (D.agg [D.sl o.sections.nn (o.sections.l.map TSec.c),D.sl o.symbols.nn (o.symbols.l.map TSym.c)])] ([]) (V.d (D.agg [D.sl X.sections.nn (X.sections.l.map TSec.c),D.sl X.symbols.nn (X.symbols.l.map TSym.c)])) ([]))
 (c4:Rn pg 21 [V.d (D.agg [D.sl X.sections.nn (X.sections.l.map TSec.c),D.sl X.symbols.nn (X.symbols.l.map TSym.c)])] ([]) (V.d (D.agg [D.sl Y.sections.nn (Y.sections.l.map TSec.c),D.sl Y.symbols.nn (Y.symbols.l.map TSym.c)])) ([]))
 (c5:Rn pg 22 [V.d (D.agg [D.sl Y.sections.nn (Y.sections.l.map TSec.c),D.sl Y.symbols.nn (Y.symbols.l.map TSym.c)]),V.d (D.agg [D.sl X.sections.nn (X.sections.l.map TSec.c),D.sl X.symbols.nn (X.symbols.l.map TSym.c)])] ([]) (V.d (D.bool true)) ([]))
 (c6:Rn pg 23 [V.d (D.agg [D.sl o.sections.nn (o.sections.l.map TSec.c),D.sl o.symbols.nn (o.symbols.l.map TSym.c)])] ([]) (V.d (D.int .i64 v)) ([]))
 (c7:(v==0)=false)
 (c8:Lp pg i6_l0 ⟨[(1,V.d (D.int .u8 t)),(2,V.ptr 0 2 [] 0 0),(5,V.ptr 0 5 [] 0 0),(6,V.mp 0 38 none),(40,V.d (D.sl o.symbols.nn (o.symbols.l.map TSym.c))),(41,V.d (D.int .i64 (((o.symbols.l.map TSym.c).length:Nat):Int))),(42,V.d (D.int .i64 0))],[(2,Ob.row true 2 true [[C.d (D.sl o.sections.nn (o.sections.l.map TSec.c)),C.d (D.sl o.symbols.nn (o.symbols.l.map TSym.c))]]),(5,Ob.row true 2 true [[C.d (D.sl X.sections.nn (X.sections.l.map TSec.c)),C.d (D.sl X.symbols.nn (X.symbols.l.map TSym.c))]]),(38,Ob.map ([]))]::hp⟩ (.exit 0) ⟨[(1,V.d (D.int .u8 t)),(2,V.ptr 0 2 [] 0 0),(5,V.ptr 0 5 [] 0 0),(6,V.mp 0 38 none),(40,V.d (D.sl o.symbols.nn (o.symbols.l.map TSym.c))),(41,V.d (D.int .i64 (((o.symbols.l.map TSym.c).length:Nat):Int))),(42,V.d (D.int .i64 (((o.symbols.l.map TSym.c).length:Nat):Int))),(43,V.d (D.bool false))],[(2,Ob.row true 2 true [[C.d (D.sl o.sections.nn (o.sections.l.map TSec.c)),C.d (D.sl o.symbols.nn (o.symbols.l.map TSym.c))]]),(5,Ob.row true 2 true [[C.d (D.sl X.sections.nn (X.sections.l.map TSec.c)),C.d (D.sl X.symbols.nn (X.symbols.l.map TSym.c))]]),(38,Ob.map es1)]::hp⟩)
 (c9:Rn pg 24 [V.d (D.sl o.symbols.nn (o.symbols.l.map TSym.c))] [[]] (V.d (D.sl o.symbols.nn [])) [[]])
 (c10:Rn pg 21 [V.d (D.agg [D.sl false [],D.sl o.symbols.nn []])] ([]) (V.d (D.agg [D.sl Z.sections.nn (Z.sections.l.map TSec.c),D.sl Z.symbols.nn (Z.symbols.l.map TSym.c)])) ([]))
 (c11:Rn pg 25 [V.d (D.sl X.symbols.nn (X.symbols.l.map TSym.c)),V.d (D.sl Z.symbols.nn (Z.symbols.l.map TSym.c))] ([]) (V.d (D.bool true)) ([])) :
 Rn pg 6 [V.d (D.agg [D.sl o.sections.nn (o.sections.l.map TSec.c),D.sl o.symbols.nn (o.symbols.l.map TSym.c)]),V.d (D.int .u8 t)] (hp) (V.d (D.bool true)) (hp):=
 Rn.c (fn:=i6) (ex:=.ret) (st:=⟨[(4,V.d (D.bool true))],[]::hp⟩) (hs:=[.call (V.d (D.bool true)) ([]), .b false, .b false, .call (V.d (D.bool w)) ([]), .b false, .b false, .b false, .call (V.d (D.agg [D.sl X.sections.nn (X.sections.l.map TSec.c),D.sl X.symbols.nn (X.symbols.l.map TSym.c)])) ([]), .call (V.d (D.agg [D.sl Y.sections.nn (Y.sections.l.map TSec.c),D.sl Y.symbols.nn (Y.symbols.l.map TSym.c)])) ([]), .call (V.d (D.bool true)) ([]), .b false, .b false, .call (V.d (D.int .i64 v)) ([]), .b false, .b false, .b false, .b false, .b false, .b false, .b false, .b false, .b false, .b false, .lp (.exit 0) ⟨[(1,V.d (D.int .u8 t)),(2,V.ptr 0 2 [] 0 0),(5,V.ptr 0 5 [] 0 0),(6,V.mp 0 38 none),(40,V.d (D.sl o.symbols.nn (o.symbols.l.map TSym.c))),(41,V.d (D.int .i64 (((o.symbols.l.map TSym.c).length:Nat):Int))),(42,V.d (D.int .i64 (((o.symbols.l.map TSym.c).length:Nat):Int))),(43,V.d (D.bool false))],[(2,Ob.row true 2 true [[C.d (D.sl o.sections.nn (o.sections.l.map TSec.c)),C.d (D.sl o.symbols.nn (o.symbols.l.map TSym.c))]]),(5,Ob.row true 2 true [[C.d (D.sl X.sections.nn (X.sections.l.map TSec.c)),C.d (D.sl X.symbols.nn (X.symbols.l.map TSym.c))]]),(38,Ob.map es1)]::hp⟩, .call (V.d (D.sl o.symbols.nn [])) [[]], .b false, .call (V.d (D.agg [D.sl Z.sections.nn (Z.sections.l.map TSec.c),D.sl Z.symbols.nn (Z.symbols.l.map TSym.c)])) ([]), .call (V.d (D.bool true)) ([])]) (cs:=[_,false=false,false=false,_,false=false,false=false,_,_,_,_,false=false,false=false,_,false=false,false=false,_,_,_,_,false=false,_,false=false,false=false,_,_,false=false,_,_]) (rs:=[V.d (D.bool true)]) (t:=[])
 (by kernel_rfl) (by kernel_rfl) (by kernel_rfl) (by kernel_rfl) (by kernel_rfl) (by kernel_rfl) ⟨c0,rfl,rfl,c1,rfl,rfl,c2,c3,c4,c5,rfl,rfl,c6,rfl,rfl,c7,c7,c7,c7,rfl,c7,rfl,rfl,c8,c9,rfl,c10,c11,trivial⟩
theorem w6_3 (o:TObj) (t:Int) (w:Bool) (X:TObj) (Y:TObj) (Z:TObj) (v:Int) (hp:HL)
 (c0:Rn pg 19 [] ([]) (V.d (D.bool true)) ([]))
 (c1:Rn pg 20 [V.d (D.agg [D.sl o.sections.nn (o.sections.l.map TSec.c),D.sl o.symbols.nn (o.symbols.l.map TSym.c)])] ([]) (V.d (D.bool w)) ([]))
 (c2:(!w)=false)
 (c3:Rn pg 21 [V.d (D.agg [D.sl o.sections.nn (o.sections.l.map TSec.c),D.sl o.symbols.nn (o.symbols.l.map TSym.c)])] ([]) (V.d (D.agg [D.sl X.sections.nn (X.sections.l.map TSec.c),D.sl X.symbols.nn (X.symbols.l.map TSym.c)])) ([]))
 (c4:Rn pg 21 [V.d (D.agg [D.sl X.sections.nn (X.sections.l.map TSec.c),D.sl X.symbols.nn (X.symbols.l.map TSym.c)])] ([]) (V.d (D.agg [D.sl Y.sections.nn (Y.sections.l.map TSec.c),D.sl Y.symbols.nn (Y.symbols.l.map TSym.c)])) ([]))
 (c5:Rn pg 22 [V.d (D.agg [D.sl Y.sections.nn (Y.sections.l.map TSec.c),D.sl Y.symbols.nn (Y.symbols.l.map TSym.c)]),V.d (D.agg [D.sl X.sections.nn (X.sections.l.map TSec.c),D.sl X.symbols.nn (X.symbols.l.map TSym.c)])] ([]) (V.d (D.bool true)) ([]))
 (c6:Rn pg 23 [V.d (D.agg [D.sl o.sections.nn (o.sections.l.map TSec.c),D.sl o.symbols.nn (o.symbols.l.map TSym.c)])] ([]) (V.d (D.int .i64 v)) ([]))
 (c7:(v==0)=false)
 (c8:Lp pg i6_l0 ⟨[(1,V.d (D.int .u8 t)),(2,V.ptr 0 2 [] 0 0),(5,V.ptr 0 5 [] 0 0),(6,V.mp 0 38 none),(40,V.d (D.sl o.symbols.nn (o.symbols.l.map TSym.c))),(41,V.d (D.int .i64 (((o.symbols.l.map TSym.c).length:Nat):Int))),(42,V.d (D.int .i64 0))],[(2,Ob.row true 2 true [[C.d (D.sl o.sections.nn (o.sections.l.map TSec.c)),C.d (D.sl o.symbols.nn (o.symbols.l.map TSym.c))]]),(5,Ob.row true 2 true [[C.d (D.sl X.sections.nn (X.sections.l.map TSec.c)),C.d (D.sl X.symbols.nn (X.symbols.l.map TSym.c))]]),(38,Ob.map ([]))]::hp⟩ .ret ⟨[(4,V.d (D.bool true))],[]::hp⟩) :
 Rn pg 6 [V.d (D.agg [D.sl o.sections.nn (o.sections.l.map TSec.c),D.sl o.symbols.nn (o.symbols.l.map TSym.c)]),V.d (D.int .u8 t)] (hp) (V.d (D.bool true)) (hp):=
 Rn.c (fn:=i6) (ex:=.ret) (st:=⟨[(4,V.d (D.bool true))],[]::hp⟩) (hs:=[.call (V.d (D.bool true)) ([]), .b false, .b false, .call (V.d (D.bool w)) ([]), .b false, .b false, .b false, .call (V.d (D.agg [D.sl X.sections.nn (X.sections.l.map TSec.c),D.sl X.symbols.nn (X.symbols.l.map TSym.c)])) ([]), .call (V.d (D.agg [D.sl Y.sections.nn (Y.sections.l.map TSec.c),D.sl Y.symbols.nn (Y.symbols.l.map TSym.c)])) ([]), .call (V.d (D.bool true)) ([]), .b false, .b false, .call (V.d (D.int .i64 v)) ([]), .b false, .b false, .b false, .b false, .b false, .b false, .b false, .b false, .b false, .b false, .lp .ret ⟨[(4,V.d (D.bool true))],[]::hp⟩]) (cs:=[_,false=false,false=false,_,false=false,false=false,_,_,_,_,false=false,false=false,_,false=false,false=false,_,_,_,_,false=false,_,false=false,false=false,_]) (rs:=[V.d (D.bool true)]) (t:=[])
 (by kernel_rfl) (by kernel_rfl) (by kernel_rfl) (by kernel_rfl) (by kernel_rfl) (by kernel_rfl) ⟨c0,rfl,rfl,c1,rfl,rfl,c2,c3,c4,c5,rfl,rfl,c6,rfl,rfl,c7,c7,c7,c7,rfl,c7,rfl,rfl,c8,trivial⟩
theorem w6_5 (o:TObj) (t:Int) (w:Bool) (X:TObj) (Y:TObj) (Z:TObj) (v:Int) (hp:HL) (es1:List (D × D)) (k2:Nat)
 (c0:Rn pg 19 [] ([]) (V.d (D.bool true)) ([]))
 (c1:Rn pg 20 [V.d (D.agg [D.sl o.sections.nn (o.sections.l.map TSec.c),D.sl o.symbols.nn (o.symbols.l.map TSym.c)])] ([]) (V.d (D.bool w)) ([]))
 (c2:(!w)=false)
 (c3:Rn pg 21 [V.d (D.agg [D.sl o.sections.nn (o.sections.l.map TSec.c),D.sl o.symbols.nn (o.symbols.l.map TSym.c)])] ([]) (V.d (D.agg [D.sl X.sections.nn (X.sections.l.map TSec.c),D.sl X.symbols.nn (X.symbols.l.map TSym.c)])) ([]))
 (c4:Rn pg 21 [V.d (D.agg [D.sl X.sections.nn (X.sections.l.map TSec.c),D.sl X.symbols.nn (X.symbols.l.map TSym.c)])] ([]) (V.d (D.agg [D.sl Y.sections.nn (Y.sections.l.map TSec.c),D.sl Y.symbols.nn (Y.symbols.l.map TSym.c)])) ([]))
 (c5:Rn pg 22 [V.d (D.agg [D.sl Y.sections.nn (Y.sections.l.map TSec.c),D.sl Y.symbols.nn (Y.symbols.l.map TSym.c)]),V.d (D.agg [D.sl X.sections.nn (X.sections.l.map TSec.c),D.sl X.symbols.nn (X.symbols.l.map TSym.c)])] ([]) (V.d (D.bool true)) ([]))
 (c6:Rn pg 23 [V.d (D.agg [D.sl o.sections.nn (o.sections.l.map TSec.c),D.sl o.symbols.nn (o.symbols.l.map TSym.c)])] ([]) (V.d (D.int .i64 v)) ([]))
 (c7:(v==0)=true)
 (c8:Rn pg 22 [V.d (D.agg [D.sl X.sections.nn (X.sections.l.map TSec.c),D.sl X.symbols.nn (X.symbols.l.map TSym.c)]),V.d (D.agg [D.sl o.sections.nn (o.sections.l.map TSec.c),D.sl o.symbols.nn (o.symbols.l.map TSym.c)])] ([]) (V.d (D.bool true)) ([]))
 (c9:Lp pg i6_l0 ⟨[(1,V.d (D.int .u8 t)),(2,V.ptr 0 2 [] 0 0),(5,V.ptr 0 5 [] 0 0),(6,V.mp 0 38 none),(40,V.d (D.sl o.symbols.nn (o.symbols.l.map TSym.c))),(41,V.d (D.int .i64 (((o.symbols.l.map TSym.c).length:Nat):Int))),(42,V.d (D.int .i64 0))],[(2,Ob.row true 2 true [[C.d (D.sl o.sections.nn (o.sections.l.map TSec.c)),C.d (D.sl o.symbols.nn (o.symbols.l.map TSym.c))]]),(5,Ob.row true 2 true [[C.d (D.sl X.sections.nn (X.sections.l.map TSec.c)),C.d (D.sl X.symbols.nn (X.symbols.l.map TSym.c))]]),(38,Ob.map ([]))]::hp⟩ (.exit 0) ⟨[(1,V.d (D.int .u8 t)),(2,V.ptr 0 2 [] 0 0),(5,V.ptr 0 5 [] 0 0),(6,V.mp 0 38 none),(40,V.d (D.sl o.symbols.nn (o.symbols.l.map TSym.c))),(41,V.d (D.int .i64 (((o.symbols.l.map TSym.c).length:Nat):Int))),(42,V.d (D.int .i64 (((o.symbols.l.map TSym.c).length:Nat):Int))),(43,V.d (D.bool false))],[(2,Ob.row true 2 true [[C.d (D.sl o.sections.nn (o.sections.l.map TSec.c)),C.d (D.sl o.symbols.nn (o.symbols.l.map TSym.c))]]),(5,Ob.row true 2 true [[C.d (D.sl X.sections.nn (X.sections.l.map TSec.c)),C.d (D.sl X.symbols.nn (X.symbols.l.map TSym.c))]]),(38,Ob.map es1)]::hp⟩)
 (c10:Rn pg 24 [V.d (D.sl o.symbols.nn (o.symbols.l.map TSym.c))] [[]] (V.msl 0 56 [] 0 o.symbols.l.length) [[(56,Ob.row false 4 true (o.symbols.l.map TSym.oc))]])
 (c11:(decide (((o.symbols.l.length:Nat):Int) > 0))=true)
 (c12:(((o.symbols.l.length:Nat):Int):Int)≠0)
 (c13:(Int.tmod (IntKind.i64.wrap (t)) ((o.symbols.l.length:Nat):Int))=((k2:Nat):Int))
 (c14:k2≤o.symbols.l.length)
 (c15:o.symbols.l.length≤o.symbols.l.length)
 (c16:(o.symbols.l.length - k2)≠0)
 (c17:k2+(o.symbols.l.length - k2)=(o.symbols.l.map TSym.oc).length)
 (c18:0+k2≤(o.symbols.l.map TSym.oc).length)
 (c19:((o.symbols.l.length - k2)+k2) * 40≤room)
 (c20:allDs (List.drop k2 (o.symbols.l.map TSym.oc)++List.take k2 (List.drop 0 (o.symbols.l.map TSym.oc)))=some ((o.symbols.l.drop k2++o.symbols.l.take k2).map TSym.c))
 (c21:Rn pg 21 [V.d (D.agg [D.sl false [],D.sl true ((o.symbols.l.drop k2++o.symbols.l.take k2).map TSym.c)])] ([]) (V.d (D.agg [D.sl Z.sections.nn (Z.sections.l.map TSec.c),D.sl Z.symbols.nn (Z.symbols.l.map TSym.c)])) ([]))
 (c22:Rn pg 25 [V.d (D.sl X.symbols.nn (X.symbols.l.map TSym.c)),V.d (D.sl Z.symbols.nn (Z.symbols.l.map TSym.c))] ([]) (V.d (D.bool true)) ([])) :
 Rn pg 6 [V.d (D.agg [D.sl o.sections.nn (o.sections.l.map TSec.c),D.sl o.symbols.nn (o.symbols.l.map TSym.c)]),V.d (D.int .u8 t)] (hp) (V.d (D.bool true)) (hp):=
 Rn.c (fn:=i6) (ex:=.ret) (st:=⟨[(4,V.d (D.bool true))],[]::hp⟩) (hs:=[.call (V.d (D.bool true)) ([]), .b false, .b false, .call (V.d (D.bool w)) ([]), .b false, .b false, .b false, .call (V.d (D.agg [D.sl X.sections.nn (X.sections.l.map TSec.c),D.sl X.symbols.nn (X.symbols.l.map TSym.c)])) ([]), .call (V.d (D.agg [D.sl Y.sections.nn (Y.sections.l.map TSec.c),D.sl Y.symbols.nn (Y.symbols.l.map TSym.c)])) ([]), .call (V.d (D.bool true)) ([]), .b false, .b false, .call (V.d (D.int .i64 v)) ([]), .b false, .b false, .b true, .b true, .b true, .call (V.d (D.bool true)) ([]), .b true, .b false, .b true, .b false, .b false, .lp (.exit 0) ⟨[(1,V.d (D.int .u8 t)),(2,V.ptr 0 2 [] 0 0),(5,V.ptr 0 5 [] 0 0),(6,V.mp 0 38 none),(40,V.d (D.sl o.symbols.nn (o.symbols.l.map TSym.c))),(41,V.d (D.int .i64 (((o.symbols.l.map TSym.c).length:Nat):Int))),(42,V.d (D.int .i64 (((o.symbols.l.map TSym.c).length:Nat):Int))),(43,V.d (D.bool false))],[(2,Ob.row true 2 true [[C.d (D.sl o.sections.nn (o.sections.l.map TSec.c)),C.d (D.sl o.symbols.nn (o.symbols.l.map TSym.c))]]),(5,Ob.row true 2 true [[C.d (D.sl X.sections.nn (X.sections.l.map TSec.c)),C.d (D.sl X.symbols.nn (X.symbols.l.map TSym.c))]]),(38,Ob.map es1)]::hp⟩, .call (V.msl 0 56 [] 0 o.symbols.l.length) [[(56,Ob.row false 4 true (o.symbols.l.map TSym.oc))]], .b true, .n k2, .n k2, .ees ((o.symbols.l.drop k2++o.symbols.l.take k2).map TSym.c), .call (V.d (D.agg [D.sl Z.sections.nn (Z.sections.l.map TSec.c),D.sl Z.symbols.nn (Z.symbols.l.map TSym.c)])) ([]), .call (V.d (D.bool true)) ([])]) (cs:=[_,false=false,false=false,_,false=false,false=false,_,_,_,_,false=false,false=false,_,false=false,false=false,_,_,_,_,_,false=false,_,false=false,false=false,_,_,_,_,_,_,_,_,0≤k2,_,_,_,_,_,_,_,_]) (rs:=[V.d (D.bool true)]) (t:=[])
 (by kernel_rfl) (by kernel_rfl) (by kernel_rfl) (by kernel_rfl) (by kernel_rfl) (by kernel_rfl) ⟨c0,rfl,rfl,c1,rfl,rfl,c2,c3,c4,c5,rfl,rfl,c6,rfl,rfl,c7,c7,c7,c8,c7,rfl,c7,rfl,rfl,c9,c10,c11,c12,c13,c14,c15,c13,Nat.zero_le _,c14,c16,c17,c18,c19,c20,c21,c22,trivial⟩
theorem w6_6 (o:TObj) (t:Int) (w:Bool) (X:TObj) (Y:TObj) (Z:TObj) (v:Int) (hp:HL) (es1:List (D × D))
 (c0:Rn pg 19 [] ([]) (V.d (D.bool true)) ([]))
 (c1:Rn pg 20 [V.d (D.agg [D.sl o.sections.nn (o.sections.l.map TSec.c),D.sl o.symbols.nn (o.symbols.l.map TSym.c)])] ([]) (V.d (D.bool w)) ([]))
 (c2:(!w)=false)
 (c3:Rn pg 21 [V.d (D.agg [D.sl o.sections.nn (o.sections.l.map TSec.c),D.sl o.symbols.nn (o.symbols.l.map TSym.c)])] ([]) (V.d (D.agg [D.sl X.sections.nn (X.sections.l.map TSec.c),D.sl X.symbols.nn (X.symbols.l.map TSym.c)])) ([]))
 (c4:Rn pg 21 [V.d (D.agg [D.sl X.sections.nn (X.sections.l.map TSec.c),D.sl X.symbols.nn (X.symbols.l.map TSym.c)])] ([]) (V.d (D.agg [D.sl Y.sections.nn (Y.sections.l.map TSec.c),D.sl Y.symbols.nn (Y.symbols.l.map TSym.c)])) ([]))
 (c5:Rn pg 22 [V.d (D.agg [D.sl Y.sections.nn (Y.sections.l.map TSec.c),D.sl Y.symbols.nn (Y.symbols.l.map TSym.c)]),V.d (D.agg [D.sl X.sections.nn (X.sections.l.map TSec.c),D.sl X.symbols.nn (X.symbols.l.map TSym.c)])] ([]) (V.d (D.bool true)) ([]))
 (c6:Rn pg 23 [V.d (D.agg [D.sl o.sections.nn (o.sections.l.map TSec.c),D.sl o.symbols.nn (o.symbols.l.map TSym.c)])] ([]) (V.d (D.int .i64 v)) ([]))
 (c7:(v==0)=true)
 (c8:Rn pg 22 [V.d (D.agg [D.sl X.sections.nn (X.sections.l.map TSec.c),D.sl X.symbols.nn (X.symbols.l.map TSym.c)]),V.d (D.agg [D.sl o.sections.nn (o.sections.l.map TSec.c),D.sl o.symbols.nn (o.symbols.l.map TSym.c)])] ([]) (V.d (D.bool true)) ([]))
 (c9:Lp pg i6_l0 ⟨[(1,V.d (D.int .u8 t)),(2,V.ptr 0 2 [] 0 0),(5,V.ptr 0 5 [] 0 0),(6,V.mp 0 38 none),(40,V.d (D.sl o.symbols.nn (o.symbols.l.map TSym.c))),(41,V.d (D.int .i64 (((o.symbols.l.map TSym.c).length:Nat):Int))),(42,V.d (D.int .i64 0))],[(2,Ob.row true 2 true [[C.d (D.sl o.sections.nn (o.sections.l.map TSec.c)),C.d (D.sl o.symbols.nn (o.symbols.l.map TSym.c))]]),(5,Ob.row true 2 true [[C.d (D.sl X.sections.nn (X.sections.l.map TSec.c)),C.d (D.sl X.symbols.nn (X.symbols.l.map TSym.c))]]),(38,Ob.map ([]))]::hp⟩ (.exit 0) ⟨[(1,V.d (D.int .u8 t)),(2,V.ptr 0 2 [] 0 0),(5,V.ptr 0 5 [] 0 0),(6,V.mp 0 38 none),(40,V.d (D.sl o.symbols.nn (o.symbols.l.map TSym.c))),(41,V.d (D.int .i64 (((o.symbols.l.map TSym.c).length:Nat):Int))),(42,V.d (D.int .i64 (((o.symbols.l.map TSym.c).length:Nat):Int))),(43,V.d (D.bool false))],[(2,Ob.row true 2 true [[C.d (D.sl o.sections.nn (o.sections.l.map TSec.c)),C.d (D.sl o.symbols.nn (o.symbols.l.map TSym.c))]]),(5,Ob.row true 2 true [[C.d (D.sl X.sections.nn (X.sections.l.map TSec.c)),C.d (D.sl X.symbols.nn (X.symbols.l.map TSym.c))]]),(38,Ob.map es1)]::hp⟩)
 (c10:Rn pg 24 [V.d (D.sl o.symbols.nn (o.symbols.l.map TSym.c))] [[]] (V.d (D.sl o.symbols.nn [])) [[]])
 (c11:Rn pg 21 [V.d (D.agg [D.sl false [],D.sl o.symbols.nn []])] ([]) (V.d (D.agg [D.sl Z.sections.nn (Z.sections.l.map TSec.c),D.sl Z.symbols.nn (Z.symbols.l.map TSym.c)])) ([]))
 (c12:Rn pg 25 [V.d (D.sl X.symbols.nn (X.symbols.l.map TSym.c)),V.d (D.sl Z.symbols.nn (Z.symbols.l.map TSym.c))] ([]) (V.d (D.bool true)) ([])) :
 Rn pg 6 [V.d (D.agg [D.sl o.sections.nn (o.sections.l.map TSec.c),D.sl o.symbols.nn (o.symbols.l.map TSym.c)]),V.d (D.int .u8 t)] (hp) (V.d (D.bool true)) (hp):=
 Rn.c (fn:=i6) (ex:=.ret) (st:=⟨[(4,V.d (D.bool true))],[]::hp⟩) (hs:=[.call (V.d (D.bool true)) ([]), .b false, .b false, .call (V.d (D.bool w)) ([]), .b false, .b false, .b false, .call (V.d (D.agg [D.sl X.sections.nn (X.sections.l.map TSec.c),D.sl X.symbols.nn (X.symbols.l.map TSym.c)])) ([]), .call (V.d (D.agg [D.sl Y.sections.nn (Y.sections.l.map TSec.c),D.sl Y.symbols.nn (Y.symbols.l.map TSym.c)])) ([]), .call (V.d (D.bool true)) ([]), .b false, .b false, .call (V.d (D.int .i64 v)) ([]), .b false, .b false, .b true, .b true, .b true, .call (V.d (D.bool true)) ([]), .b true, .b false, .b true, .b false, .b false, .lp (.exit 0) ⟨[(1,V.d (D.int .u8 t)),(2,V.ptr 0 2 [] 0 0),(5,V.ptr 0 5 [] 0 0),(6,V.mp 0 38 none),(40,V.d (D.sl o.symbols.nn (o.symbols.l.map TSym.c))),(41,V.d (D.int .i64 (((o.symbols.l.map TSym.c).length:Nat):Int))),(42,V.d (D.int .i64 (((o.symbols.l.map TSym.c).length:Nat):Int))),(43,V.d (D.bool false))],[(2,Ob.row true 2 true [[C.d (D.sl o.sections.nn (o.sections.l.map TSec.c)),C.d (D.sl o.symbols.nn (o.symbols.l.map TSym.c))]]),(5,Ob.row true 2 true [[C.d (D.sl X.sections.nn (X.sections.l.map TSec.c)),C.d (D.sl X.symbols.nn (X.symbols.l.map TSym.c))]]),(38,Ob.map es1)]::hp⟩, .call (V.d (D.sl o.symbols.nn [])) [[]], .b false, .call (V.d (D.agg [D.sl Z.sections.nn (Z.sections.l.map TSec.c),D.sl Z.symbols.nn (Z.symbols.l.map TSym.c)])) ([]), .call (V.d (D.bool true)) ([])]) (cs:=[_,false=false,false=false,_,false=false,false=false,_,_,_,_,false=false,false=false,_,false=false,false=false,_,_,_,_,_,false=false,_,false=false,false=false,_,_,false=false,_,_]) (rs:=[V.d (D.bool true)]) (t:=[])
 (by kernel_rfl) (by kernel_rfl) (by kernel_rfl) (by kernel_rfl) (by kernel_rfl) (by kernel_rfl) ⟨c0,rfl,rfl,c1,rfl,rfl,c2,c3,c4,c5,rfl,rfl,c6,rfl,rfl,c7,c7,c7,c8,c7,rfl,c7,rfl,rfl,c9,c10,rfl,c11,c12,trivial⟩
theorem w6_7 (o:TObj) (t:Int) (w:Bool) (X:TObj) (Y:TObj) (Z:TObj) (v:Int) (hp:HL)
 (c0:Rn pg 19 [] ([]) (V.d (D.bool true)) ([]))
 (c1:Rn pg 20 [V.d (D.agg [D.sl o.sections.nn (o.sections.l.map TSec.c),D.sl o.symbols.nn (o.symbols.l.map TSym.c)])] ([]) (V.d (D.bool w)) ([]))
 (c2:(!w)=false)
 (c3:Rn pg 21 [V.d (D.agg [D.sl o.sections.nn (o.sections.l.map TSec.c),D.sl o.symbols.nn (o.symbols.l.map TSym.c)])] ([]) (V.d (D.agg [D.sl X.sections.nn (X.sections.l.map TSec.c),D.sl X.symbols.nn (X.symbols.l.map TSym.c)])) ([]))
 (c4:Rn pg 21 [V.d (D.agg [D.sl X.sections.nn (X.sections.l.map TSec.c),D.sl X.symbols.nn (X.symbols.l.map TSym.c)])] ([]) (V.d (D.agg [D.sl Y.sections.nn (Y.sections.l.map TSec.c),D.sl Y.symbols.nn (Y.symbols.l.map TSym.c)])) ([]))
 (c5:Rn pg 22 [V.d (D.agg [D.sl Y.sections.nn (Y.sections.l.map TSec.c),D.sl Y.symbols.nn (Y.symbols.l.map TSym.c)]),V.d (D.agg [D.sl X.sections.nn (X.sections.l.map TSec.c),D.sl X.symbols.nn (X.symbols.l.map TSym.c)])] ([]) (V.d (D.bool true)) ([]))
 (c6:Rn pg 23 [V.d (D.agg [D.sl o.sections.nn (o.sections.l.map TSec.c),D.sl o.symbols.nn (o.symbols.l.map TSym.c)])] ([]) (V.d (D.int .i64 v)) ([]))
 (c7:(v==0)=true)
 (c8:Rn pg 22 [V.d (D.agg [D.sl X.sections.nn (X.sections.l.map TSec.c),D.sl X.symbols.nn (X.symbols.l.map TSym.c)]),V.d (D.agg [D.sl o.sections.nn (o.sections.l.map TSec.c),D.sl o.symbols.nn (o.symbols.l.map TSym.c)])] ([]) (V.d (D.bool true)) ([]))
 (c9:Lp pg i6_l0 ⟨[(1,V.d (D.int .u8 t)),(2,V.ptr 0 2 [] 0 0),(5,V.ptr 0 5 [] 0 0),(6,V.mp 0 38 none),(40,V.d (D.sl o.symbols.nn (o.symbols.l.map TSym.c))),(41,V.d (D.int .i64 (((o.symbols.l.map TSym.c).length:Nat):Int))),(42,V.d (D.int .i64 0))],[(2,Ob.row true 2 true [[C.d (D.sl o.sections.nn (o.sections.l.map TSec.c)),C.d (D.sl o.symbols.nn (o.symbols.l.map TSym.c))]]),(5,Ob.row true 2 true [[C.d (D.sl X.sections.nn (X.sections.l.map TSec.c)),C.d (D.sl X.symbols.nn (X.symbols.l.map TSym.c))]]),(38,Ob.map ([]))]::hp⟩ .ret ⟨[(4,V.d (D.bool true))],[]::hp⟩) :
 Rn pg 6 [V.d (D.agg [D.sl o.sections.nn (o.sections.l.map TSec.c),D.sl o.symbols.nn (o.symbols.l.map TSym.c)]),V.d (D.int .u8 t)] (hp) (V.d (D.bool true)) (hp):=
 Rn.c (fn:=i6) (ex:=.ret) (st:=⟨[(4,V.d (D.bool true))],[]::hp⟩) (hs:=[.call (V.d (D.bool true)) ([]), .b false, .b false, .call (V.d (D.bool w)) ([]), .b false, .b false, .b false, .call (V.d (D.agg [D.sl X.sections.nn (X.sections.l.map TSec.c),D.sl X.symbols.nn (X.symbols.l.map TSym.c)])) ([]), .call (V.d (D.agg [D.sl Y.sections.nn (Y.sections.l.map TSec.c),D.sl Y.symbols.nn (Y.symbols.l.map TSym.c)])) ([]), .call (V.d (D.bool true)) ([]), .b false, .b false, .call (V.d (D.int .i64 v)) ([]), .b false, .b false, .b true, .b true, .b true, .call (V.d (D.bool true)) ([]), .b true, .b false, .b true, .b false, .b false, .lp .ret ⟨[(4,V.d (D.bool true))],[]::hp⟩]) (cs:=[_,false=false,false=false,_,false=false,false=false,_,_,_,_,false=false,false=false,_,false=false,false=false,_,_,_,_,_,false=false,_,false=false,false=false,_]) (rs:=[V.d (D.bool true)]) (t:=[])
 (by kernel_rfl) (by kernel_rfl) (by kernel_rfl) (by kernel_rfl) (by kernel_rfl) (by kernel_rfl) ⟨c0,rfl,rfl,c1,rfl,rfl,c2,c3,c4,c5,rfl,rfl,c6,rfl,rfl,c7,c7,c7,c8,c7,rfl,c7,rfl,rfl,c9,trivial⟩
theorem w6_8 (o:TObj) (t:Int) (w:Bool) (X:TObj) (Y:TObj) (Z:TObj) (v:Int) (hp:HL)
 (c0:Rn pg 19 [] ([]) (V.d (D.bool true)) ([]))
 (c1:Rn pg 20 [V.d (D.agg [D.sl o.sections.nn (o.sections.l.map TSec.c),D.sl o.symbols.nn (o.symbols.l.map TSym.c)])] ([]) (V.d (D.bool w)) ([]))
 (c2:(!w)=true) :
 Rn pg 6 [V.d (D.agg [D.sl o.sections.nn (o.sections.l.map TSec.c),D.sl o.symbols.nn (o.symbols.l.map TSym.c)]),V.d (D.int .u8 t)] (hp) (V.d (D.bool true)) (hp):=
 Rn.c (fn:=i6) (ex:=.ret) (st:=⟨[(4,V.d (D.bool true))],[]::hp⟩) (hs:=[.call (V.d (D.bool true)) ([]), .b false, .b false, .call (V.d (D.bool w)) ([]), .b false, .b false, .b true, .call (V.d (D.bool true)) ([])]) (cs:=[_,false=false,false=false,_,false=false,false=false,_,_]) (rs:=[V.d (D.bool true)]) (t:=[])
 (by kernel_rfl) (by kernel_rfl) (by kernel_rfl) (by kernel_rfl) (by kernel_rfl) (by kernel_rfl) ⟨c0,rfl,rfl,c1,rfl,rfl,c2,c0,trivial⟩
end Go.Proofs.YtgmphfmoonbfpaaMv

set_option maxRecDepth 100000
namespace Go.Proofs.YtgmphfmoonbfpaaMv
open Go
theorem SP.map {α β:Type} {a b:Nat} {f g:Nat→α} (φ:α→β) (x:SP a b f g):SP a b (fun k=>φ (f k)) (fun k=>φ (g k)):=by
  obtain ⟨σ,τ,h1,h2,h3,h4⟩:=x
  exact ⟨σ,τ,h1,h2,h3,fun k=>by simp only [h4]⟩
theorem SP.two {α:Type} {n:Nat} {f g:Nat→α} (x:SP 0 n f g) {i j:Nat} (hi:i<n) (hj:j<n) (hij:i≠j):∃ i' j',i'<n∧j'<n∧i'≠j'∧g i=f i'∧g j=f j':=by
  obtain ⟨σ,τ,h1,h2,h3,h4⟩:=x
  have hl:∀ k,k<n→σ k<n:=by
    intro k hk
    apply Decidable.byContradiction
    intro hn
    have:=h3 (σ k) (by omega)
    have:=congrArg τ this
    rw [h1,h1] at this
    omega
  refine ⟨σ i,σ j,hl i hi,hl j hj,fun he=>hij ?_,h4 i,h4 j⟩
  have:=congrArg τ he
  rwa [h1,h1] at this
theorem pl_id {n:Nat} {g:Nat→TNum} (h:∀ k,k<n→(g k).n=(k:Int)):∀ i,i≤n→∀ j,j<i→pl g i j=j
  | 0,_,j,hj=>by omega
  | i+1,hi,j,hj=>by
    have e:(g i).n.toNat=i:=by rw [h i (by omega)];simp
    simp only [pl,e]
    by_cases hji:j=i
    · rw [if_pos hji,hji]
    · rw [if_neg hji];exact pl_id h i (by omega) j (by omega)
theorem rnum_id {n:Nat} {p:Nat→Nat} (h:∀ j,j<n→p j=j) (r:TRlc):rnum n p r=r:=by
  unfold rnum
  split
  · rename_i hh
    obtain ⟨k,hk⟩:=Int.eq_ofNat_of_zero_le hh.1
    have hkn:k<n:=by omega
    have e:((p r.sym.toNat:Nat):Int)=r.sym:=by
      rw [show r.sym.toNat=k by omega,h k hkn];exact hk.symm
    rw [e]
  · rfl
theorem nm_eq {n:Nat} {p:Nat→Nat} (h:∀ j,j<n→p j=j) (x:TSec):SecEq (x.nm n p) x:=by
  refine ⟨rfl,rfl,rfl,rfl,rfl, ?_⟩
  show x.relocs.l.map (rnum n p)=x.relocs.l
  have:∀ l:List TRlc,l.map (rnum n p)=l:=fun l=>by
    induction l with
    | nil=>rfl
    | cons a l ih=>rw [List.map_cons,ih,rnum_id h]
  exact this _
theorem range_map {n:Nat} {l:List TSym} {f:Nat→TSym} (hl:l.length=n) (h:∀ k,k<n→l[k]? = some (f k)):(List.range n).map f=l:=by
  apply List.ext_getElem?
  intro k
  by_cases hk:k<n
  · rw [h k hk];simp [hk]
  · rw [List.getElem?_eq_none (by simp;omega),List.getElem?_eq_none (by omega)]
theorem norm_same (o:TObj) (g:Nat→TNum) (hs:Srt ltN 0 o.symbols.l.length (f0 o.symbols.l)) (k1:SP 0 o.symbols.l.length (f0 o.symbols.l) g) (k2:Srt ltN 0 o.symbols.l.length g):ObjEq (normT o g) o:=by
  have hg:∀ k,g k=f0 o.symbols.l k:=srt_one (lt:=ltN) (fun h k=>ordN.trans h k) ordN.irr k1 hs k2
  have hp:∀ j,j<o.symbols.l.length→pl g o.symbols.l.length j=j:=pl_id (fun k _=>by rw [hg];rfl) _ (Nat.le_refl _)
  refine ⟨by simp [normT],fun i u v h1 h2=>?_, ?_⟩
  · simp only [normT,List.getElem?_map,h2,Option.map_some,Option.some.injEq] at h1
    rw [←h1]
    exact nm_eq hp v
  · refine range_map rfl fun k hk=>?_
    rw [hg]
    simp [f0,List.getD,List.getElem?_eq_getElem hk]
theorem normT_at (o:TObj) (g:Nat→TNum) {k:Nat} (hk:k<o.symbols.l.length):(f0 (normT o g).symbols.l k).s=(g k).s:=by
  simp [f0,normT,List.getD,hk]
theorem norm_len (o:TObj) (g:Nat→TNum):(normT o g).symbols.l.length=o.symbols.l.length:=by simp [normT]
theorem norm_norm (o:TObj) (g g2:Nat→TNum) (k2:Srt ltN 0 o.symbols.l.length g) (m1:SP 0 (normT o g).symbols.l.length (f0 (normT o g).symbols.l) g2) (m2:Srt ltN 0 (normT o g).symbols.l.length g2):ObjEq (normT (normT o g) g2) (normT o g):=by
  refine norm_same (normT o g) g2 (fun i j h1 h2 h3=>?_) m1 m2
  rw [norm_len] at h3
  have h:=k2 i j h1 h2 h3
  have e1:cmpN (f0 (normT o g).symbols.l i) (f0 (normT o g).symbols.l j)=cmpN (g i) (g j):=by
    simp only [cmpN,normT_at o g (show i<o.symbols.l.length by omega),normT_at o g h3]
  rcases h with h | ⟨h,_⟩
  · exact .inl (by rw [e1];exact h)
  · exact .inr ⟨by rw [e1];exact h,by simp only [f0];omega⟩
theorem sorted_srt {l:List TSym} (h:Sorted l):Srt ltN 0 l.length (f0 l):=by
  have step:∀ j,j+1<l.length→ltN (f0 l j) (f0 l (j+1)):=by
    intro j hj
    have h1:=h (j+1) (by omega) hj
    rw [Nat.add_sub_cancel] at h1
    have hf:=cmp_flip (f0 l j).s (f0 l (j+1)).s
    rcases Int.lt_trichotomy (cmpS (f0 l j).s (f0 l (j+1)).s) 0 with h2 | h2 | h2
    · exact .inl h2
    · exact .inr ⟨h2,by simp only [f0];omega⟩
    · omega
  have all:∀ d i,i+d+1<l.length→ltN (f0 l i) (f0 l (i+d+1)):=by
    intro d
    induction d with
    | zero=>intro i hi;exact step i hi
    | succ d ih=>intro i hi;exact ordN.trans (ih i (by omega)) (step (i+d+1) hi)
  intro i j _ h2 h3
  have:=all (j - i - 1) i (by omega)
  rwa [show i+(j - i - 1)+1=j by omega] at this
def Distinct (l:List TSym):Prop:=∀ i j,i<l.length→j<l.length→i≠j→cmpS (f0 l i).s (f0 l j).s≠0
theorem norm_turn (l:List TSym) (k:Nat) (hk:k≤l.length) (hd:Distinct l) (g g3:Nat→TNum) (k1:SP 0 l.length (f0 l) g) (k2:Srt ltN 0 l.length g)
    (m1:SP 0 (l.drop k++l.take k).length (f0 (l.drop k++l.take k)) g3) (m2:Srt ltN 0 (l.drop k++l.take k).length g3):∀ i,(g i).s=(g3 i).s:=by
  have hlen:(l.drop k++l.take k).length=l.length:=by simp;omega
  rw [hlen] at m1 m2
  have hrot:(fun x=>(f0 (l.drop k++l.take k) x).s)=rot 0 k l.length (fun x=>(f0 l x).s):=by
    funext x
    simp only [rot,f0]
    by_cases h1:x<l.length - k
    · rw [if_pos (by omega)]
      have e:(l.drop k++l.take k)[x]? = l[k+(x - 0)]?:=by
        rw [List.getElem?_append_left (by simp;omega),List.getElem?_drop,Nat.sub_zero]
      simp only [List.getD,e]
    · by_cases h2:x<l.length
      · rw [if_neg (by omega),if_pos (by omega)]
        have e:(l.drop k++l.take k)[x]? = l[0+(x - (0+(l.length - k)))]?:=by
          rw [List.getElem?_append_right (by simp;omega),List.getElem?_take_of_lt (by simp;omega)]
          congr 1;simp
        simp only [List.getD,e]
      · rw [if_neg (by omega),if_neg (by omega)]
        have e1:(l.drop k++l.take k)[x]? = none:=List.getElem?_eq_none (by omega)
        have e2:l[x]? = none:=List.getElem?_eq_none (by omega)
        simp only [List.getD,e1,e2]
  have a1:SP 0 l.length (fun x=>(f0 l x).s) (fun x=>(g x).s):=k1.map fun y:TNum=>y.s
  have a2:SP 0 l.length (fun x=>(f0 l x).s) (fun x=>(g3 x).s):=by
    have r:=rot_sp (fun x=>(f0 l x).s) (Nat.zero_le k) hk
    rw [←hrot] at r
    exact r.trans (m1.map fun y:TNum=>y.s)
  have strict:∀ h:Nat→TNum,SP 0 l.length (fun x=>(f0 l x).s) (fun x=>(h x).s)→Srt ltN 0 l.length h→Srt (fun x y=>cmpS x y<0) 0 l.length fun x=>(h x).s:=by
    intro h a b i j h1 h2 h3
    obtain ⟨i',j',c1,c2,c3,c4,c5⟩:=a.two (i:=i) (j:=j) (by omega) h3 (by omega)
    rcases b i j h1 h2 h3 with hh | ⟨hh,_⟩
    · exact hh
    · exact absurd (by rw [←c4,←c5];exact hh) (hd i' j' c1 c2 c3)
  have irr:∀ x:TSym,¬cmpS x x<0:=fun x h=>by
    have:cmpS x x=0:=cmp_eq.2 ⟨rfl,rfl⟩
    omega
  intro i
  exact srt_one (lt:=fun x y:TSym=>cmpS x y<0) (fun h k=>cmp_trans h k) irr (a2.symm.trans a1) (strict g3 a2 m2) (strict g a1 k2) i
def skey (s:TSym):TSym:={ s with sect:=0,value:=0 }
def seenL (ks:List TSym):List (D × D):=ks.map fun k=>(D.agg k.c,D.bool true)
theorem find_seen (x:TSym):∀ (ks:List TSym),findD true [2,1,1,0] (D.agg x.c) (seenL ks)=some (if x ∈ ks then some (D.bool true) else none)
  | []=>rfl
  | k::ks=>by
    have ih:=find_seen x ks
    simp only [seenL,List.map_cons] at ih ⊢
    simp only [findD,TSym.deq,Option.bind_some,ih]
    by_cases h:x=k
    · simp [h]
    · simp [h]
theorem put_seen (x:TSym):∀ (ks:List TSym),x ∉ ks→putD true [2,1,1,0] (D.agg x.c) (D.bool true) (seenL ks)=some (seenL (ks++[x]))
  | [],_=>rfl
  | k::ks,h=>by
    have ih:=put_seen x ks fun hh=>h (List.mem_cons_of_mem _ hh)
    have hk:x≠k:=fun hh=>h (by rw [hh];exact List.mem_cons_self)
    simp only [seenL,List.map_cons,List.cons_append] at ih ⊢
    simp only [putD,TSym.deq,Option.bind_some,ih]
    simp [hk]
def DistK (l:List TSym) (i:Nat):Prop:=∀ a b,a<i→b<i→a≠b→skey (f0 l a).s≠skey (f0 l b).s
abbrev b2 (o:TObj):Nat × Ob:=(2,Ob.row true 2 true [o.oc])
abbrev b5 (o:TObj):Nat × Ob:=(5,Ob.row true 2 true [o.oc])
theorem l6 (o X:TObj) (t:Int) (hp:HL) (hl:o.symbols.l.length<2 ^ 30):∀ (d i:Nat),o.symbols.l.length - i=d→i≤o.symbols.l.length→DistK o.symbols.l i →
    Lp pg i6_l0 ⟨[(1,V.d (D.int .u8 t)),(2,V.ptr 0 2 [] 0 0),(5,V.ptr 0 5 [] 0 0),(6,V.mp 0 38 none),(40,V.d (D.sl o.symbols.nn (o.symbols.l.map TSym.c))),(41,iN o.symbols.l.length),(42,iN i)],[b2 o,b5 X,(38,Ob.map (seenL ((o.symbols.l.take i).map skey)))]::hp⟩ .ret ⟨[(4,V.d (D.bool true))],[]::hp⟩ ∨
    (DistK o.symbols.l o.symbols.l.length ∧ ∃ es,Lp pg i6_l0 ⟨[(1,V.d (D.int .u8 t)),(2,V.ptr 0 2 [] 0 0),(5,V.ptr 0 5 [] 0 0),(6,V.mp 0 38 none),(40,V.d (D.sl o.symbols.nn (o.symbols.l.map TSym.c))),(41,iN o.symbols.l.length),(42,iN i)],[b2 o,b5 X,(38,Ob.map (seenL ((o.symbols.l.take i).map skey)))]::hp⟩ (.exit 0)
      ⟨[(1,V.d (D.int .u8 t)),(2,V.ptr 0 2 [] 0 0),(5,V.ptr 0 5 [] 0 0),(6,V.mp 0 38 none),(40,V.d (D.sl o.symbols.nn (o.symbols.l.map TSym.c))),(41,iN o.symbols.l.length),(42,iN o.symbols.l.length),(43,V.d (D.bool false))],[b2 o,b5 X,(38,Ob.map es)]::hp⟩):=by
  intro d
  induction d with
  | zero=>
    intro i h h1 hd
    obtain rfl:i=o.symbols.l.length:=by omega
    exact .inr ⟨hd,_,Lp.exit (w6a_0 o X t _ _ hp (lt_f (Nat.le_refl _)))⟩
  | succ d ih=>
    intro i h h1 hd
    have hi:i<o.symbols.l.length:=by omega
    have hx:o.symbols.l[i]? = some o.symbols.l[i]:=List.getElem?_eq_getElem hi
    generalize o.symbols.l[i]=x at hx
    have hw:IntKind.i64.wrap (((i:Nat):Int)+1)=((i+1:Nat):Int):=wadd1 (by omega)
    have hf:=find_seen (skey x) ((o.symbols.l.take i).map skey)
    by_cases hm:skey x ∈ (o.symbols.l.take i).map skey
    · rw [if_pos hm] at hf
      exact .inl (Lp.ret (w6a_3 o X t i _ hp x true (lt_t hi) (map_get (f:=TSym.c) hx) hf rfl))
    · rw [if_neg hm] at hf
      have hp2:=put_seen (skey x) _ hm
      have ht:o.symbols.l.take (i+1)=o.symbols.l.take i++[x]:=by
        rw [List.take_add_one,hx];rfl
      have e:(o.symbols.l.take i).map skey++[skey x]=(o.symbols.l.take (i+1)).map skey:=by rw [ht];simp
      rw [e] at hp2
      have r:=w6a_1 o X t i _ hp x _ (lt_t hi) (map_get (f:=TSym.c) hx) hf (by rw [show findD true [2,1,1,0] (D.agg [D.str x.name,D.int .i64 0,D.int .i64 0,D.bool x.glob]) (seenL ((o.symbols.l.take i).map skey))=some none from hf];rfl) hp2
      rw [hw] at r
      have hd':DistK o.symbols.l (i+1):=by
        have key:∀ a,a<i→skey (f0 o.symbols.l a).s≠skey x:=by
          intro a ha he
          refine hm (List.mem_map.2 ⟨(f0 o.symbols.l a).s, ?_,he⟩)
          refine List.mem_of_getElem? (i:=a) ?_
          rw [List.getElem?_take_of_lt ha]
          have:o.symbols.l[a]? = some o.symbols.l[a]:=List.getElem?_eq_getElem (by omega)
          rw [f0_at this];exact this
        have hxi:(f0 o.symbols.l i).s=x:=f0_at hx
        intro a b ha hb hab
        by_cases h1:a=i
        · subst h1
          rw [hxi]
          exact fun he=>key b (by omega) he.symm
        · by_cases h2:b=i
          · subst h2
            rw [hxi]
            exact key a (by omega)
          · exact hd a b (by omega) (by omega) hab
      rcases ih (i+1) (by omega) (by omega) hd' with k | ⟨k0,es,k⟩
      · exact .inl (Lp.next r k)
      · exact .inr ⟨k0,es,Lp.next r k⟩
theorem distinct_of {l:List TSym} (h:DistK l l.length):Distinct l:=by
  intro i j hi hj hij hc
  obtain ⟨h1,h2⟩:=cmp_eq.1 hc
  refine h i j hi hj hij ?_
  simp only [skey,h1,h2]
theorem normT_ok {o:TObj} (h:objOk o) (g:Nat→TNum):objOk (normT o g):=by
  refine ⟨by simp [normT];exact h.secs,by simp [normT];exact h.syms,fun s hs=>?_,fun s hs=>?_⟩
  · simp only [normT,List.mem_map] at hs
    obtain ⟨x,hx,rfl⟩:=hs
    exact h.data x hx
  · simp only [normT,List.mem_map] at hs
    obtain ⟨x,hx,rfl⟩:=hs
    simp only [TSec.nm,List.length_map]
    exact h.rels x hx
theorem f20 (o:TObj) (hp:HL):∃ b,Rn pg 20 [V.d (D.agg o.c)] hp (V.d (D.bool b)) hp:=by
  cases h:(decide ((((o.sections.l.map TSec.c).length:Nat):Int)≤80)) with
  | false=>exact ⟨_,w20_0 o hp h⟩
  | true=>exact ⟨_,w20_1 o hp h⟩
def symO (nn:Bool) (m:List TSym):TObj:=⟨⟨false,[]⟩,⟨nn,m⟩⟩
theorem symO_ok {nn:Bool} {m:List TSym} (h:m.length<2 ^ 30):objOk (symO nn m):=⟨by simp [symO],h,fun s hs=>by simp [symO] at hs,fun s hs=>by simp [symO] at hs⟩
theorem f6 (o:TObj) (t:Int) (ho:objOk o) (ht:0≤t∧t<256) (hp:HL):Rn pg 6 [V.d (D.agg o.c),V.d (D.int .u8 t)] hp (V.d (D.bool true)) hp:=by
  have hs:=ho.syms
  obtain ⟨w,r20⟩:=f20 o []
  cases hw:w with
  | false=>subst hw;exact w6_8 o t false default default default 0 hp f19 r20 rfl
  | true=>
    subst hw
    obtain ⟨g,k1,k2,r21⟩:=f21 o ho []
    obtain ⟨g2,m1,m2,r21b⟩:=f21 (normT o g) (normT_ok ho g) []
    have r22:=f22 (normT (normT o g) g2) (normT o g) (normT_ok (normT_ok ho g) g2) (norm_norm o g g2 k2 m1 m2) []
    obtain ⟨v,r23,hv⟩:=f23 o ho []
    have r22b:v=0→Rn pg 22 [V.d (D.agg (normT o g).c),V.d (D.agg o.c)] [] (V.d (D.bool true)) []:=fun h=>f22 (normT o g) o (normT_ok ho g) (norm_same o g (sorted_srt (hv h)) k1 k2) []
    rcases l6 o (normT o g) t hp hs _ 0 rfl (Nat.zero_le _) (fun a b ha=>by omega) with lo | ⟨hd,es,lo⟩
    · cases hz:(v==0) with
      | true=>exact w6_7 o t true (normT o g) (normT (normT o g) g2) default v hp f19 r20 rfl r21 r21b r22 r23 hz (r22b (by simpa using hz)) (by rw [List.length_map];exact lo)
      | false=>exact w6_3 o t true (normT o g) (normT (normT o g) g2) default v hp f19 r20 rfl r21 r21b r22 r23 hz (by rw [List.length_map];exact lo)
    · have hD:=distinct_of hd
      cases he:o.symbols.l.isEmpty with
      | true=>
        have h0:o.symbols.l=[]:=by simpa using he
        obtain ⟨g3,e1,e2,r21c⟩:=f21 (symO o.symbols.nn []) (symO_ok (by simp)) []
        have hX:(normT o g).symbols.l=[]:=by simp [normT,h0]
        have hZ:(normT (symO o.symbols.nn []) g3).symbols.l=[]:=by simp [normT,symO]
        have r25:Rn pg 25 [V.d (D.sl (normT o g).symbols.nn ((normT o g).symbols.l.map TSym.c)),V.d (D.sl (normT (symO o.symbols.nn []) g3).symbols.nn ((normT (symO o.symbols.nn []) g3).symbols.l.map TSym.c))] [] (V.d (D.bool true)) []:=by
          rw [hX,hZ];exact f25 _ _ [] [] (by simp)
        cases hz:(v==0) with
        | true=>exact w6_6 o t true (normT o g) (normT (normT o g) g2) (normT (symO o.symbols.nn []) g3) v hp es f19 r20 rfl r21 r21b r22 r23 hz (r22b (by simpa using hz)) (by rw [List.length_map];exact lo) (f24b _ he) r21c r25
        | false=>exact w6_2 o t true (normT o g) (normT (normT o g) g2) (normT (symO o.symbols.nn []) g3) v hp es f19 r20 rfl r21 r21b r22 r23 hz (by rw [List.length_map];exact lo) (f24b _ he) r21c r25
      | false=>
        have h0:o.symbols.l≠[]:=by intro h;rw [h] at he;simp at he
        have hpos:0<o.symbols.l.length:=List.length_pos_iff.2 h0
        obtain ⟨T,hT⟩:=Int.eq_ofNat_of_zero_le ht.1
        obtain ⟨k,hk⟩:∃ k,k=T % o.symbols.l.length:=⟨_,rfl⟩
        have hkl:k<o.symbols.l.length:=by rw [hk];exact Nat.mod_lt _ hpos
        have hmod:Int.tmod (IntKind.i64.wrap t) ((o.symbols.l.length:Nat):Int)=((k:Nat):Int):=by
          rw [wrap64 (by omega) (by omega),hT,hk];rfl
        have hlen:(o.symbols.l.drop k++o.symbols.l.take k).length=o.symbols.l.length:=by simp;omega
        obtain ⟨g3,e1,e2,r21c⟩:=f21 (symO true (o.symbols.l.drop k++o.symbols.l.take k)) (symO_ok (by rw [hlen];exact hs)) []
        have ht3:=norm_turn o.symbols.l k (by omega) hD g g3 k1 k2 e1 e2
        have hXZ:(normT (symO true (o.symbols.l.drop k++o.symbols.l.take k)) g3).symbols.l=(normT o g).symbols.l:=by
          simp only [normT,symO,hlen,ht3]
        have hXl:(normT o g).symbols.l.length<2 ^ 30:=by rw [norm_len];exact hs
        have r25:Rn pg 25 [V.d (D.sl (normT o g).symbols.nn ((normT o g).symbols.l.map TSym.c)),V.d (D.sl (normT (symO true (o.symbols.l.drop k++o.symbols.l.take k)) g3).symbols.nn ((normT (symO true (o.symbols.l.drop k++o.symbols.l.take k)) g3).symbols.l.map TSym.c))] [] (V.d (D.bool true)) []:=by
          rw [hXZ];exact f25 _ _ _ [] hXl
        have hall:allDs (List.drop k (o.symbols.l.map TSym.oc)++List.take k (List.drop 0 (o.symbols.l.map TSym.oc)))=some ((o.symbols.l.drop k++o.symbols.l.take k).map TSym.c):=by
          have e3:List.drop k (o.symbols.l.map TSym.oc)++List.take k (List.drop 0 (o.symbols.l.map TSym.oc))=((o.symbols.l.drop k++o.symbols.l.take k).map TSym.c).map (List.map C.d):=by
            rw [List.drop_zero,List.map_map,List.map_append,List.map_drop,List.map_take]
            rfl
          rw [e3];exact allDs_map _
        have hgt:(decide (((o.symbols.l.length:Nat):Int) > 0))=true:=by simp only [decide_eq_true_eq];omega
        cases hz:(v==0) with
        | true=>exact w6_5 o t true (normT o g) (normT (normT o g) g2) _ v hp es k f19 r20 rfl r21 r21b r22 r23 hz (r22b (by simpa using hz)) (by rw [List.length_map];exact lo) (f24a _ hs he) hgt (by omega) hmod (by omega) (Nat.le_refl _) (by omega) (by rw [List.length_map];omega) (by rw [List.length_map];omega) (by rw [room_eq];omega) hall r21c r25
        | false=>exact w6_1 o t true (normT o g) (normT (normT o g) g2) _ v hp es k f19 r20 rfl r21 r21b r22 r23 hz (by rw [List.length_map];exact lo) (f24a _ hs he) hgt (by omega) hmod (by omega) (Nat.le_refl _) (by omega) (by rw [List.length_map];omega) (by rw [List.length_map];omega) (by rw [room_eq];omega) hall r21c r25
end Go.Proofs.YtgmphfmoonbfpaaMv

set_option maxRecDepth 100000
namespace Go.Proofs.YtgmphfmoonbfpaaMv
open Go Go.ChangeShapes Go.WideShapes Go.ChangeAt Go.RowKit
open Go.Proofs.Ytgmphfmoonbfpaa
theorem TRlc.w1 (x:TRlc):1≤x.w:=by unfold TRlc.w;omega
theorem TSec.w1 (x:TSec):1≤x.w:=by unfold TSec.w;omega
theorem TSym.w1 (x:TSym):1≤x.w:=by unfold TSym.w;omega
theorem TSec.w_in (x:TSec):x.data.l.length<x.w∧x.relocs.l.length<x.w:=by
  have h1:=len_sums (wt:=fun _:UInt8=>1) (fun _=>Nat.le_refl _) x.data.l
  have h2:=len_sums TRlc.w1 x.relocs.l
  simp only [TSec.w]
  refine ⟨by omega,by omega⟩
theorem objOk_of {o:TObj} (h:o.w≤1048576):objOk o:=by
  simp only [TObj.w] at h
  have h1:=len_sums TSec.w1 o.sections.l
  have h2:=len_sums TSym.w1 o.symbols.l
  refine ⟨by omega,by omega,fun s hs=>?_,fun s hs=>?_⟩
  · have h3:=mem_sums (wt:=TSec.w) hs
    have h4:=s.w_in
    omega
  · have h3:=mem_sums (wt:=TSec.w) hs
    have h4:=s.w_in
    omega
theorem contract6 (H:Type) (enc:TypeId × Value→H) (W:World) (base:Nat) (args:Array Value) (ds gs:List (DataW H)) (before:List MemPlace)
    (hval:∀ (j:Nat) t v,Try.f6.params[j]? = some t→args[j]? = some v→Value.okWide Try.prog W .any base t v)
    (hW:DataW.Whole enc Try.prog Try.f6.params.toList Rows.objectOrderSpec.vars false W args.toList ds gs before) (hk:Rows.uptoSmall H (ds++gs)=true) :
    Calls Try.prog 6 args W fun e W'=>∃ v,e = .returned v∧Rows.objectOrderSpec.post enc Try.prog Try.f6 false true false false W args v W':=by
  have hW':=hW
  obtain ⟨p,q,hA0,hV,hbf,hfz,hnd⟩:=hW
  have hA:DataW.TrodAll enc Try.prog W 0 (fun _=>true) true Try.f6.params.toList args.toList ds p:=hA0
  rw [Try.params6] at hA hval
  obtain ⟨v0,vs0,d0,ds0,p0,q0,hargs,rfl,_,h0,r0⟩:=trodAll_cons hA
  obtain ⟨v1,vs1,d1,ds1,p1,q1,rfl,rfl,_,h1,r1⟩:=trodAll_cons r0
  obtain ⟨rfl,rfl,_⟩:=trodAll_nil r1
  obtain rfl:args = #[v0,v1]:=by cases args;simp_all
  obtain ⟨rfl,_⟩:=trodVars_none hV
  obtain ⟨cs,rfl,_⟩:=okWide_struct (fs:=fldsOf Try.prog 69) (by kernel_rfl) (hval 0 69 v0 rfl rfl)
  obtain ⟨a0,rfl⟩:=okWide_int (k:=.u8) (by kernel_rfl) (hval 1 5 v1 rfl rfl)
  obtain ⟨f0,t0⟩:=h0
  obtain ⟨f1,t1⟩:=h1
  obtain ⟨o,c0,w0⟩:=rd69 W H enc f0 _ d0 p0 t0
  obtain ⟨b,c1,_⟩:=rd5 W H enc f1 _ d1 p1 t1
  have hb:Rows.uptoBulk d0+Rows.uptoBulk d1≤1048576:=by
    have:=of_decide_eq_true hk
    simp only [List.append_nil,Rows.uptoBulkAll] at this
    omega
  have ho:objOk o:=objOk_of (by omega)
  have hrv:RVL (fun _=>False) (hof ([]:HL)) (fun _ _ _=>0) W [V.d (D.agg o.c),V.d (D.int .u8 (b.toNat:Int))] #[.agg cs, .int .u8 a0]:=by
    refine ⟨rfl,fun i v x hv hx=>?_⟩
    match i,hv,hx with
    | 0,hv,hx=>simp at hv hx;subst hv;subst hx;exact rv_of_agg c0
    | 1,hv,hx=>simp at hv hx;subst hv;subst hx;exact rv_of_one c1
  have hb8:(0:Int)≤(b.toNat:Int)∧(b.toNat:Int)<256:=by
    have:=b.toNat_lt
    omega
  refine (calls_true (g:=6) (fn:=i6) rfl hrv (f6 o b.toNat ho hb8 [])).mono fun e W' ⟨he,hL⟩=>?_
  subst he
  exact ⟨_,rfl,post_true hW' rfl rfl (tb:=4) (by kernel_rfl) (by rw [Try.params6];decide) rfl hL⟩
theorem lifted6 (os:Os) (started:os.Started) (H:Type) (enc:TypeId × Value→H) (F:Stop.Interp) :
    ReturnsInHanded {} Try.checked os 6 .any ((Rows.OpenSpec.upto Rows.objectOrderSpec).pre6 enc Try.prog Try.f6 Rows.objectOrderUptoRow.domain false) (((Rows.OpenSpec.upto Rows.objectOrderSpec).at F).post enc Try.prog Try.f6 false true false false):=by
  refine returnsInHanded_of_cond (C:=Try.checked) (s:=Rows.OpenSpec.upto Rows.objectOrderSpec) (k:=Rows.uptoSmall) rfl own started (by kernel_rfl) Try.func6
    (OpenSpec.witness (enc:=enc) (C:=Try.checked) (s:=Rows.OpenSpec.upto Rows.objectOrderSpec) (k:=Rows.uptoSmall) rfl false ⟨#[], #[.agg #[.slice none 0 0, .slice none 0 0], .int .u8 0],[]⟩ 8 (by kernel_rfl) (by kernel_rfl) (by kernel_rfl)
      (x:=([.agg [.nil, .nil], .lit (.int .u8 0)],[],[])) (by kernel_rfl) rfl (by kernel_rfl)) ?_
  intro W base args ds gs before hval hW _ hk _
  exact contract6 H enc W base args ds gs before hval hW hk
theorem over6:Rows.objectOrderUptoRow.holds Try.pinned (Rows.OpenSpec.upto Rows.objectOrderSpec):=
  OpenClaim.holds_of_cond 6 Try.f6 rfl rfl rfl rfl rfl rfl rfl ⟨rfl,rfl,rfl,rfl,rfl⟩ rfl rfl rfl rfl rfl (by kernel_rfl) Try.func6 (by kernel_rfl)
    (of_decide_eq_true (by kernel_rfl)) (by unfold Func.isWrapper;first | (rw [if_pos (by decide +kernel)];kernel_rfl) | (rw [if_neg (by decide +kernel)];exact ⟨rfl,rfl⟩))
    (fun os started H enc _ F=>lifted6 os started H enc F)
theorem objectOrder_proved:Rows.ObjectOrderUptoSaid:=over6
end Go.Proofs.YtgmphfmoonbfpaaMv
