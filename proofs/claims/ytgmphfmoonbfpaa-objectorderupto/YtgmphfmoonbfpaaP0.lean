/- Part 0 of the proof. -/
import Derived.Orders
import Derived.KernelRfl
import Derived.Deep.AppendSrc
import Derived.Laws.IdiomCopy
import Derived.Laws.Cells
import Derived.Laws.Rows
import Derived.Below
import Derived.Laws.Strings
import Derived.Laws.StructEq
import Derived.Lib.Strings
import Derived.Great.FillDense
import Derived.Laws.BytesArg
set_option linter.unusedVariables false
set_option linter.unusedSimpArgs false
namespace Go.Proofs.YtgmphfmoonbfpaaMv
open Go
inductive D where
  | bool (b:Bool)
  | int (k:IntKind) (n:Int)
  | str (s:List UInt8)
  | nilp
  | nilm
  | nilf
  | nili
  | sl (nn:Bool) (es:List (List D))
  | agg (cs:List D)
  deriving Inhabited
inductive C where
  | d (x:D)
  | own (sz:Nat) (nn:Bool) (es:List (List C))
  | mp (es:List (D × D))
  | bad
  deriving Inhabited
structure Row where
  sz:Nat
  nn:Bool
  es:List (List C)
  deriving Inhabited
inductive Ob where
  | row (fixed:Bool) (sz:Nat) (nn:Bool) (es:List (List C))
  | map (es:List (D × D))
  deriving Inhabited
abbrev Path:=List (Nat × Nat)
inductive V where
  | d (x:D)
  | ip (cs:List D) (o:Nat)
  | ptr (u s:Nat) (p:Path) (e o:Nat)
  | msl (u s:Nat) (p:Path) (off n:Nat)
  | mp (u s:Nat) (at_:Option (Path × Nat × Nat))
  | z (nn:Bool)
  | fn (f:FuncId) (caps:List V)
  | agg (vs:List V)
  | tup (vs:List V)
  | bad
  | und
  deriving Inhabited
def cellAt (es:List (List C)) (e o:Nat):Option C:=(es[e]?).bind (·[o]?)
def overlay:List C→Nat→List C→List C
  | [],_,_=>[]
  | cs,0,[]=>cs
  | _::cs,0,n::new=>n::overlay cs 0 new
  | c::cs,o+1,new=>c::overlay cs o new
def setCells (es:List (List C)) (e o:Nat) (new:List C):List (List C):=
  match es[e]? with
  | some cs=>es.set e (overlay cs o new)
  | none=>es
def rowGo:Row→Path→Option Row
  | r,[]=>some r
  | r,(e,o)::p=>
    match cellAt r.es e o with
    | some (.own sz nn es)=>rowGo ⟨sz,nn,es⟩ p
    | _=>none
def setGo:Row→Path→Row→Row
  | _,[],r'=>r'
  | r,(e,o)::p,r'=>
    match cellAt r.es e o with
    | some (.own sz nn es)=>
      let q:=setGo ⟨sz,nn,es⟩ p r'
      { r with es:=setCells r.es e o [.own q.sz q.nn q.es] }
    | _=>r
def Ob.row?:Ob→Path→Option Row
  | .row _ sz nn es,p=>rowGo ⟨sz,nn,es⟩ p
  | .map _,_=>none
def Ob.setRow:Ob→Path→Row→Ob
  | .row fx sz nn es,p,r=>let q:=setGo ⟨sz,nn,es⟩ p r; .row fx q.sz q.nn q.es
  | .map es,_,_=>.map es
def allD:List C→Option (List D)
  | []=>some []
  | .d x::r=>(allD r).map (x :: ·)
  | _::_=>none
def allDs:List (List C)→Option (List (List D))
  | []=>some []
  | cs::r=>(allD cs).bind fun ds=>(allDs r).map (ds :: ·)
mutual
def fzC:C→Option D
  | .d x=>some x
  | .own _ nn es=>(fzCss es).map (.sl nn)
  | _=>none
def fzCs:List C→Option (List D)
  | []=>some []
  | c::r=>(fzC c).bind fun x=>(fzCs r).map (x :: ·)
def fzCss:List (List C)→Option (List (List D))
  | []=>some []
  | cs::r=>(fzCs cs).bind fun x=>(fzCss r).map (x :: ·)
end
def V.root:V→Option (Nat × Nat)
  | .ptr u s _ _ _=>some (u,s)
  | .msl u s _ _ _=>some (u,s)
  | .mp u s _=>some (u,s)
  | _=>none
def V.roots:V→List (Nat × Nat)
  | .fn _ vs=>vs.filterMap V.root
  | .agg vs=>vs.filterMap V.root
  | .tup vs=>vs.filterMap V.root
  | v=>v.root.toList
def V.atom:V→Bool
  | .fn ..=>false
  | .agg ..=>false
  | .tup ..=>false
  | _=>true
def V.solid:V→Bool
  | .fn ..=>false
  | .agg ..=>false
  | .tup ..=>false
  | .bad=>false
  | .und=>false
  | .d (.agg _)=>false
  | _=>true
inductive Kill where
  | root (u s:Nat)
  | under (u s:Nat) (p:Path) (e lo hi:Nat)
def passes (e lo hi:Nat):Path→Path→Bool
  | [],(e',o')::_=>e'==e&&(decide (lo≤o')&&decide (o'<hi))
  | [],[]=>false
  | (a,b)::p,(a',b')::q=>a==a'&&(b==b'&&passes e lo hi p q)
  | _::_,[]=>false
def Kill.hits:Kill→Nat→Nat→Path→Bool
  | .root u s,u',s',_=>u==u'&&s==s'
  | .under u s p e lo hi,u',s',q=>u==u'&&(s==s'&&passes e lo hi p q)
def V.kill1 (k:Kill):V→V
  | .ptr u s p e o=>if k.hits u s p then .bad else .ptr u s p e o
  | .msl u s p off n=>if k.hits u s p then .bad else .msl u s p off n
  | .mp u s none=>if k.hits u s [] then .bad else .mp u s none
  | .mp u s (some (p,e,o))=>if k.hits u s (p++[(e,o)]) then .bad else .mp u s (some (p,e,o))
  | .fn _ _=>.bad
  | .agg _=>.bad
  | .tup _=>.bad
  | v=>v
def V.kill (k:Kill):V→V
  | .fn f vs=>.fn f (vs.map (V.kill1 k))
  | .agg vs=>.agg (vs.map (V.kill1 k))
  | .tup vs=>.tup (vs.map (V.kill1 k))
  | v=>v.kill1 k
def V.kills (ks:List Kill) (v:V):V:=ks.foldl (fun v k=>v.kill k) v
def V.up1:V→V
  | .ptr u s p e o=>.ptr (u+1) s p e o
  | .msl u s p off n=>.msl (u+1) s p off n
  | .mp u s a=>.mp (u+1) s a
  | .fn _ _=>.bad
  | .agg _=>.bad
  | .tup _=>.bad
  | v=>v
def V.up:V→V
  | .fn f vs=>.fn f (vs.map V.up1)
  | .agg vs=>.agg (vs.map V.up1)
  | .tup vs=>.tup (vs.map V.up1)
  | v=>v.up1
def V.down1:V→V
  | .ptr (u+1) s p e o=>.ptr u s p e o
  | .msl (u+1) s p off n=>.msl u s p off n
  | .mp (u+1) s a=>.mp u s a
  | .d x=>.d x
  | .ip cs o=>.ip cs o
  | .z b=>.z b
  | .und=>.und
  | _=>.bad
def V.down:V→V
  | .fn f vs=>.fn f (vs.map V.down1)
  | .agg vs=>.agg (vs.map V.down1)
  | .tup vs=>.tup (vs.map V.down1)
  | v=>v.down1
def V.free1:V→Bool
  | .d _=>true
  | .ip _ _=>true
  | .z _=>true
  | _=>false
def V.free:V→Bool
  | .fn _ vs=>vs.all V.free1
  | .agg vs=>vs.all V.free1
  | .tup vs=>vs.all V.free1
  | v=>v.free1
def deqK:List Nat→List D→List D→Option Bool
  | [],[],[]=>some true
  | 0::k, .bool a::x, .bool b::y=>if a==b then deqK k x y else some false
  | 1::k, .int j a::x, .int j' b::y=>if j=j' then (if a==b then deqK k x y else some false) else none
  | 2::k, .str a::x, .str b::y=>if a==b then deqK k x y else some false
  | _,_,_=>none
def deqT (isS:Bool) (ks:List Nat) (a b:D):Option Bool:=
  if isS then (match a,b with | .agg x, .agg y=>if x.length=ks.length∧y.length=ks.length then deqK ks x y else none | _,_=>none) else deqK ks [a] [b]
def kindsAre:List Nat→List D→Bool
  | [],[]=>true
  | 0::k, .bool _::x=>kindsAre k x
  | 1::k, .int _ _::x=>kindsAre k x
  | 2::k, .str _::x=>kindsAre k x
  | _,_=>false
def keyIs (isS:Bool) (ks:List Nat) (d:D):Bool:=if isS then (match d with | .agg x=>kindsAre ks x | _=>false) else kindsAre ks [d]
def findD (isS:Bool) (ks:List Nat) (k:D):List (D × D)→Option (Option D)
  | []=>some none
  | (a,v)::r=>(deqT isS ks k a).bind fun c=>if c then some (some v) else findD isS ks k r
def putD (isS:Bool) (ks:List Nat) (k v:D):List (D × D)→Option (List (D × D))
  | []=>some [(k,v)]
  | (a,x)::r=>(deqT isS ks k a).bind fun c=>if c then some ((k,v)::r) else (putD isS ks k v r).map ((a,x) :: ·)
def bitsOp (op:BinOp) (k:IntKind) (x y:Int):Option Int:=
  let a:=BitVec.ofInt k.bits x
  let b:=BitVec.ofInt k.bits y
  match op with
  | .and=>some (k.wrap (a &&& b).toNat)
  | .or=>some (k.wrap (a ||| b).toNat)
  | .xor=>some (k.wrap (a ^^^ b).toNat)
  | .andNot=>some (k.wrap (a &&& ~~~b).toNat)
  | _=>none
def dbin:BinOp→D→D→Option D
  | .add, .int k a, .int k' b=>if k=k' then some (.int k (k.wrap (a+b))) else none
  | .sub, .int k a, .int k' b=>if k=k' then some (.int k (k.wrap (a - b))) else none
  | .mul, .int k a, .int k' b=>if k=k' then some (.int k (k.wrap (a * b))) else none
  | .quo, .int k a, .int k' b=>if k=k' then (if b=0 then none else some (.int k (k.wrap (a.tdiv b)))) else none
  | .rem, .int k a, .int k' b=>if k=k' then (if b=0 then none else some (.int k (a.tmod b))) else none
  | .shl, .int k a, .int _ b=>if b<0 then none else some (.int k (k.wrap (a * 2 ^ (min b.toNat k.bits))))
  | .shr, .int k a, .int _ b=>if b<0 then none else some (.int k (a.fdiv (2 ^ (min b.toNat k.bits))))
  | .and, .int k a, .int k' b=>if k=k' then (bitsOp .and k a b).map (.int k) else none
  | .or, .int k a, .int k' b=>if k=k' then (bitsOp .or k a b).map (.int k) else none
  | .xor, .int k a, .int k' b=>if k=k' then (bitsOp .xor k a b).map (.int k) else none
  | .andNot, .int k a, .int k' b=>if k=k' then (bitsOp .andNot k a b).map (.int k) else none
  | .eql, .int k a, .int k' b=>if k=k' then some (.bool (a==b)) else none
  | .neq, .int k a, .int k' b=>if k=k' then some (.bool (a != b)) else none
  | .lss, .int k a, .int k' b=>if k=k' then some (.bool (decide (a<b))) else none
  | .leq, .int k a, .int k' b=>if k=k' then some (.bool (decide (a≤b))) else none
  | .gtr, .int k a, .int k' b=>if k=k' then some (.bool (decide (a > b))) else none
  | .geq, .int k a, .int k' b=>if k=k' then some (.bool (decide (a ≥ b))) else none
  | .add, .str a, .str b=>if ((a.length+b.length:Nat):Int) > IntKind.i64.max then none else some (.str (a++b))
  | .eql, .str a, .str b=>some (.bool (a==b))
  | .neq, .str a, .str b=>some (.bool (!(a==b)))
  | .lss, .str a, .str b=>some (.bool (Op.bytesLess a b))
  | .leq, .str a, .str b=>some (.bool (Op.bytesLess a b||a==b))
  | .gtr, .str a, .str b=>some (.bool (!(Op.bytesLess a b||a==b)))
  | .geq, .str a, .str b=>some (.bool (!Op.bytesLess a b))
  | _,_,_=>none
def dun:UnOp→D→Option D
  | .not, .bool b=>some (.bool (!b))
  | .neg, .int k n=>some (.int k (k.wrap (0 - n)))
  | .xor, .int k n=>(bitsOp .xor k (if k.signed then -1 else k.max) n).map (.int k)
  | _,_=>none
inductive Opd where
  | t (s:Nat)
  | k (x:D)
  | fn (f:FuncId)
  deriving Inhabited
inductive IOp where
  | mv (x:Opd)
  | mkrow (sz:Nat)
  | pick (c a b:Opd)
  | alloc (cs:List C)
  | box (n:Nat) (own:List (Nat × Nat)) (x:Opd)
  | build (zero:List D) (parts:List (Nat × Nat × Opd))
  | lit (zero:List D) (len:Nat) (parts:List (Nat × Opd))
  | ld1 (x:Opd)
  | ldn (n:Nat) (x:Opd)
  | st (n:Nat) (x v:Opd)
  | nck (x:Opd)
  | bin (op:BinOp) (x y:Opd)
  | eqb (neg:Bool) (x y:Opd)
  | eqa (neg:Bool) (ks:List Nat) (x y:Opd)
  | isnil (k:Nat) (neg:Bool) (x:Opd)
  | un (op:UnOp) (x:Opd)
  | cvi (k:IntKind) (x:Opd)
  | cvss (x:Opd)
  | cvbs (x:Opd)
  | cvsb (x:Opd)
  | mkmap
  | look (isS:Bool) (ks:List Nat) (zero:D) (ok:Bool) (m k:Opd)
  | upd (isS:Bool) (ks:List Nat) (m k v:Opd)
  | mkrows (zero:List D) (bytes:Nat) (len:Opd)
  | slc (sz:Nat) (x:Opd) (lo hi:Option Opd)
  | clip (x:Opd)
  | slcs (x:Opd) (lo hi:Option Opd)
  | fa (off:Nat) (x:Opd)
  | ia (size:Nat) (x i:Opd)
  | ixs (x i:Opd)
  | fld (off:Nat) (n:Option Nat) (x:Opd)
  | ext (x:Opd) (i:Nat)
  | call (f:FuncId) (args:List Opd)
  | callv (f:Opd) (args:List Opd)
  | callo (f:FuncId) (args:List Opd)
  | callf (f:FuncId) (args:List Opd)
  | appz (own:List (Nat × Nat)) (sz bytes:Nat) (x y:Opd)
  | appm (sz bytes:Nat) (x y:Opd)
  | stm (n:Nat) (x v:Opd)
  | len (k:Nat) (x:Opd)
  | app (fz:Bool) (own:List (Nat × Nat)) (sz bytes:Nat) (x y:Opd)
  | cpy (sz:Nat) (x y:Opd)
  | mn (x:Opd) (xs:List Opd)
  | mx (x:Opd) (xs:List Opd)
  | mkfn (f:FuncId) (caps:List Opd)
  deriving Inhabited
structure II where
  dst:Option Nat
  g:Option (Nat × Bool)
  op:IOp
  deriving Inhabited
structure Eff where
  v:V
  upd:List (Nat × Nat × Option Ob):=[]
  kill:List Kill:=[]
  rd:List (Nat × Nat):=[]
abbrev Fr:=Nat→V
abbrev Hp:=Nat→Nat→Option Ob
def Opd.ev (f:Fr):Opd→V
  | .t s=>f s
  | .k x=>.d x
  | .fn g=>.fn g []
def ownSz:List (Nat × Nat)→Nat→Option Nat
  | [],_=>none
  | (k,sz)::r,i=>if k==i then some sz else ownSz r i
def own1 (own:List (Nat × Nat)) (i:Nat):C→C
  | .d (.sl false [])=>(match ownSz own i with | some sz=>.own sz false [] | none=>.d (.sl false []))
  | c=>c
def ownGo (own:List (Nat × Nat)):Nat→List C→List C
  | _,[]=>[]
  | i,c::cs=>own1 own i c::ownGo own (i+1) cs
def ownify (own:List (Nat × Nat)) (cs:List C):List C:=if own.isEmpty then cs else ownGo own 0 cs
def toCell (h:Hp):V→Option (C × List Nat)
  | .d (.agg _)=>none
  | .d x=>some (.d x,[])
  | .msl 0 s [] 0 n=>
    match h 0 s with
    | some (.row false sz nn es)=>if es.length=n then some (.own sz nn es,[s]) else none
    | _=>none
  | .mp 0 s none=>
    match h 0 s with
    | some (.map es)=>some (.mp es,[s])
    | _=>none
  | _=>none
def toCells (h:Hp):List V→Option (List C × List Nat)
  | []=>some ([],[])
  | v::r=>(toCell h v).bind fun (c,a)=>(toCells h r).map fun (cs,b)=>(c::cs,a++b)
def cellsOf (h:Hp) (n:Nat):V→Option (List C × List Nat)
  | .d (.agg ds)=>if ds.length=n then some (ds.map .d,[]) else none
  | .agg vs=>if vs.length=n then toCells h vs else none
  | v=>if n=1 then (toCell h v).map fun (c,a)=>([c],a) else none
def drops (l:List Nat):List (Nat × Nat × Option Ob):=l.map fun s=>(0,s,none)
def dropKills (l:List Nat):List Kill:=l.map fun s=>.root 0 s
def fillD:List D→List (Nat × Nat × V)→Option (List D)
  | cs,[]=>some cs
  | cs,(off,n, .d (.agg ds))::r=>if ds.length=n∧off+n≤cs.length then fillD (cs.take off++ds++cs.drop (off+n)) r else none
  | cs,(off,n, .d x)::r=>if n=1∧off+1≤cs.length then fillD (cs.set off x) r else none
  | _,_=>none
def fillV:List V→List (Nat × Nat × V)→Option (List V)
  | cs,[]=>some cs
  | cs,(off,n, .d (.agg ds))::r=>if ds.length=n∧off+n≤cs.length then fillV (cs.take off++ds.map .d++cs.drop (off+n)) r else none
  | cs,(off,n,v)::r=>if n=1∧off+1≤cs.length∧v.solid then fillV (cs.set off v) r else none
def fillL (sz:Nat):List (List D)→List (Nat × V)→Option (List (List D))
  | es,[]=>some es
  | es,(i, .d (.agg ds))::r=>if i<es.length∧ds.length=sz then fillL sz (es.set i ds) r else none
  | es,(i, .d x)::r=>if i<es.length∧sz=1 then fillL sz (es.set i [x]) r else none
  | _,_=>none
def dnat:V→Option Nat
  | .d (.int _ n)=>if 0≤n then some n.toNat else none
  | _=>none
def optNat (f:Fr) (dflt:Nat):Option Opd→Option Nat
  | none=>some dflt
  | some x=>dnat (x.ev f)
def elems (h:Hp) (sz:Nat):V→Option (List (List C) × List (Nat × Nat))
  | .d (.sl _ es)=>if es.all (·.length==sz) then some (es.map (·.map .d),[]) else none
  | .d (.str s)=>if sz=1 then some (s.map fun b=>[.d (.int .u8 b.toNat)],[]) else none
  | .z _=>some ([],[])
  | .msl u s p off n=>
    ((h u s).bind (·.row? p)).bind fun r=>
      let es:=(r.es.drop off).take n
      if r.sz=sz∧(allDs es).isSome∧off+n≤r.es.length then some (es,[(u,s)]) else none
  | _=>none
def mapAt (h:Hp) (u s:Nat):Option (Path × Nat × Nat)→Option (List (D × D))
  | none=>match h u s with
    | some (.map es)=>some es
    | _=>none
  | some (p,e,o)=>((h u s).bind (·.row? p)).bind fun r=>match cellAt r.es e o with
    | some (.mp es)=>some es
    | _=>none
def setMap (h:Hp) (u s:Nat) (es:List (D × D)):Option (Path × Nat × Nat)→Option Ob
  | none=>some (.map es)
  | some (p,e,o)=>(h u s).bind fun ob=>(ob.row? p).map fun r=>ob.setRow p { r with es:=setCells r.es e o [.mp es] }
def strOf:List (List D)→Option (List UInt8)
  | []=>some []
  | [.int .u8 n]::r=>(strOf r).map (UInt8.ofNat n.toNat :: ·)
  | _::_=>none
def minmax (lt:Int→Int→Bool) (acc:D):List V→Option D
  | []=>some acc
  | .d (.int _ y)::r=>match acc with
    | .int k x=>minmax lt (.int k (if lt y x then y else x)) r
    | _=>none
  | _::_=>none
def room:Nat:=2 ^ 47
def eff (call:FuncId→List V→Option V) (f:Fr) (h:Hp) (dst:Nat):IOp→Option Eff
  | .mv x=>let v:=x.ev f;some { v,rd:=v.roots }
  | .mkrow sz=>some { v:=.msl 0 dst [] 0 0,upd:=[(0,dst,some (.row false sz false []))],kill:=[.root 0 dst] }
  | .pick c a b=>match c.ev f with
    | .d (.bool t)=>let v:=if t then a.ev f else b.ev f;some { v,rd:=(a.ev f).roots++(b.ev f).roots }
    | _=>none
  | .alloc cs=>some { v:=.ptr 0 dst [] 0 0,upd:=[(0,dst,some (.row true cs.length true [cs]))],kill:=[.root 0 dst] }
  | .box n own x=>(cellsOf h n (x.ev f)).bind fun (cs,a)=>
      if a.length≤1 ∧ !a.contains dst then some { v:=.ptr 0 dst [] 0 0,upd:=drops a++[(0,dst,some (.row true n true [ownify own cs]))],kill:=dropKills (dst::a),rd:=(x.ev f).roots } else none
  | .build zero parts=>
      let ps:=parts.map fun (off,n,x)=>(off,n,x.ev f)
      match fillD zero ps with
      | some cs=>some { v:=.d (.agg cs) }
      | none=>(fillV (zero.map .d) ps).map fun vs=>{ v:=.agg vs,rd:=(V.agg vs).roots }
  | .lit zero len parts=>(fillL zero.length (List.replicate len zero) (parts.map fun (i,x)=>(i,x.ev f))).map fun es=>{ v:=if len=0 then .z true else .d (.sl true es) }
  | .ld1 x=>match x.ev f with
    | .ip cs o=>(cs[o]?).map fun c=>{ v:=.d c }
    | .ptr u s p e o=>((h u s).bind (·.row? p)).bind fun r=>match cellAt r.es e o with
      | some (.d c)=>some { v:=.d c,rd:=[(u,s)] }
      | some (.own _ _ es)=>some { v:=.msl u s (p++[(e,o)]) 0 es.length,rd:=[(u,s)] }
      | some (.mp _)=>some { v:=.mp u s (some (p,e,o)),rd:=[(u,s)] }
      | _=>none
    | _=>none
  | .ldn n x=>match x.ev f with
    | .ip cs o=>if o+n≤cs.length then some { v:=.d (.agg ((cs.drop o).take n)) } else none
    | .ptr u s p e o=>((h u s).bind (·.row? p)).bind fun r=>(r.es[e]?).bind fun cs=>
      if o+n≤cs.length then (allD ((cs.drop o).take n)).map fun ds=>{ v:=.d (.agg ds),rd:=[(u,s)] } else none
    | _=>none
  | .st n x v=>match x.ev f with
    | .ptr u s p e o=>(cellsOf h n (v.ev f)).bind fun (new,a)=>(h u s).bind fun ob=>(ob.row? p).bind fun r=>(r.es[e]?).bind fun cs=>
      if o+n≤cs.length∧a.length≤1∧(u≠0 ∨ !a.contains s) then
        some { v:=.bad,upd:=drops a++[(u,s,some (ob.setRow p { r with es:=setCells r.es e o new }))],kill:=.under u s p e o (o+n)::dropKills a,rd:=(u,s)::(v.ev f).roots }
      else none
    | _=>none
  | .nck x=>match x.ev f with
    | .ptr u s p e o=>some { v:=.ptr u s p e o,rd:=[(u,s)] }
    | .ip cs o=>some { v:=.ip cs o }
    | _=>none
  | .bin op x y=>match x.ev f,y.ev f with
    | .d a, .d b=>(dbin op a b).map fun c=>{ v:=.d c }
    | _,_=>none
  | .eqb neg x y=>match x.ev f,y.ev f with
    | .d (.bool a), .d (.bool b)=>some { v:=.d (.bool (if neg then !(a==b) else (a==b))) }
    | _,_=>none
  | .eqa neg ks x y=>match x.ev f,y.ev f with
    | .d a, .d b=>(deqT true ks a b).map fun c=>{ v:=.d (.bool (if neg then !c else c)) }
    | _,_=>none
  | .isnil k neg x=>match k,x.ev f with
    | 0, .d (.sl nn es)=>let c:=!nn&&es.isEmpty;some { v:=.d (.bool (if neg then !c else c)) }
    | 0, .msl u s p _ _=>((h u s).bind (·.row? p)).map fun r=>let c:=!r.nn&&r.es.isEmpty; { v:=.d (.bool (if neg then !c else c)),rd:=[(u,s)] }
    | 1, .d .nilp=>some { v:=.d (.bool (!neg)) }
    | 1, .ptr u s _ _ _=>some { v:=.d (.bool neg),rd:=[(u,s)] }
    | 1, .ip _ _=>some { v:=.d (.bool neg) }
    | 2, .d .nilm=>some { v:=.d (.bool (!neg)) }
    | 2, .mp u s _=>some { v:=.d (.bool neg),rd:=[(u,s)] }
    | 3, .d .nilf=>some { v:=.d (.bool (!neg)) }
    | 3, .fn g vs=>some { v:=.d (.bool neg),rd:=(V.fn g vs).roots }
    | _,_=>none
  | .un op x=>match x.ev f with
    | .d a=>(dun op a).map fun c=>{ v:=.d c }
    | _=>none
  | .cvi k x=>match x.ev f with
    | .d (.int _ n)=>some { v:=.d (.int k (k.wrap n)) }
    | _=>none
  | .cvss x=>match x.ev f with
    | .d (.str l)=>some { v:=.d (.str l) }
    | _=>none
  | .cvbs x=>match x.ev f with
    | .d (.str _)=>none
    | v=>(elems h 1 v).bind fun (es,rd)=>(allDs es).bind fun ds=>(strOf ds).map fun l=>{ v:=.d (.str l),rd }
  | .cvsb x=>match x.ev f with
    | .d (.str l)=>some { v:=.d (.sl true (l.map fun b=>[.int .u8 b.toNat])) }
    | _=>none
  | .mkmap=>some { v:=.mp 0 dst none,upd:=[(0,dst,some (.map []))],kill:=[.root 0 dst] }
  | .look isS ks zero ok m k=>match m.ev f,k.ev f with
    | .mp u s a, .d key=>if keyIs isS ks key then (mapAt h u s a).bind fun es=>(findD isS ks key es).map fun r=>
      { v:=if ok then .tup [.d (r.getD zero), .d (.bool r.isSome)] else .d (r.getD zero),rd:=[(u,s)] } else none
    | .d .nilm, .d key=>if keyIs isS ks key then some { v:=if ok then .tup [.d zero, .d (.bool false)] else .d zero } else none
    | _,_=>none
  | .upd isS ks m k v=>match m.ev f,k.ev f,v.ev f with
    | .mp u s a, .d key, .d x=>if keyIs isS ks key then (mapAt h u s a).bind fun es=>(findD isS ks key es).bind fun _=>(putD isS ks key x es).bind fun es'=>(setMap h u s es' a).map fun ob=>
      { v:=.bad,upd:=[(u,s,some ob)],rd:=[(u,s)] } else none
    | _,_,_=>none
  | .mkrows zero bytes len=>(dnat (len.ev f)).bind fun n=>
      if bytes * n≤room then some { v:=.msl 0 dst [] 0 n,upd:=[(0,dst,some (.row false zero.length true (List.replicate n (zero.map .d))))],kill:=[.root 0 dst] } else none
  | .slc sz x lo hi=>match x.ev f with
    | .msl u s p off n=>(optNat f n hi).bind fun b=>(optNat f 0 lo).bind fun a=>((h u s).bind (·.row? p)).bind fun r=>
      if r.sz=sz∧a≤b∧b≤n then some { v:=.msl u s p (a+off) (b - a),rd:=[(u,s)] } else none
    | .d (.sl nn es)=>(optNat f es.length hi).bind fun b=>(optNat f 0 lo).bind fun a=>
      if a≤b∧b≤es.length∧es.all (·.length==sz) then some { v:=.d (.sl (nn || !es.isEmpty) ((es.take b).drop a)) } else none
    | _=>none
  | .clip x=>match x.ev f with
    | .d (.sl nn es)=>some { v:=.z (nn || !es.isEmpty) }
    | .msl u s p _ _=>((h u s).bind (·.row? p)).map fun r=>{ v:=.z (r.nn || !r.es.isEmpty),rd:=[(u,s)] }
    | _=>none
  | .slcs x lo hi=>match x.ev f with
    | .d (.str l)=>(optNat f l.length hi).bind fun b=>(optNat f 0 lo).bind fun a=>
      if a≤b∧b≤l.length then some { v:=.d (.str ((l.take b).drop a)) } else none
    | _=>none
  | .fa off x=>match x.ev f with
    | .ptr u s p e o=>some { v:=.ptr u s p e (o+off),rd:=[(u,s)] }
    | .ip cs o=>some { v:=.ip cs (o+off) }
    | _=>none
  | .ia size x i=>match x.ev f,dnat (i.ev f) with
    | .msl u s p off n,some k=>((h u s).bind (·.row? p)).bind fun r=>
      if r.sz=size∧k<n then some { v:=.ptr u s p (k+off) 0,rd:=[(u,s)] } else none
    | .d (.sl _ es),some k=>(es[k]?).bind fun cs=>if cs.length=size then some { v:=.ip cs 0 } else none
    | _,_=>none
  | .ixs x i=>match x.ev f,dnat (i.ev f) with
    | .d (.str l),some k=>(l[k]?).map fun b=>{ v:=.d (.int .u8 b.toNat) }
    | _,_=>none
  | .fld off n x=>match x.ev f with
    | .d (.agg cs)=>match n with
      | none=>(cs[off]?).map fun c=>{ v:=.d c }
      | some n=>if off+n≤cs.length then some { v:=.d (.agg ((cs.drop off).take n)) } else none
    | _=>none
  | .ext x i=>match x.ev f with
    | .tup vs=>(vs[i]?).bind fun v=>if v.atom then some { v,rd:=v.roots } else none
    | _=>none
  | .call g args=>
      let vs:=args.map (·.ev f)
      if vs.all V.free then (call g vs).bind fun v=>if v.free then some { v } else none else none
  | .callv x args=>match x.ev f with
    | .fn g caps=>
      let vs:=args.map (·.ev f)++caps
      if vs.all V.free then (call g vs).bind fun v=>if v.free then some { v } else none else none
    | _=>none
  | .callo _ _=>none
  | .callf _ _=>none
  | .stm n x v=>match x.ev f with
    | .ptr u s p e o=>(cellsOf h n (v.ev f)).bind fun (new,a)=>(h u s).bind fun ob=>(ob.row? p).bind fun r=>(r.es[e]?).bind fun cs=>
      if o+n≤cs.length∧a.Nodup∧(u≠0 ∨ !a.contains s) then
        some { v:=.bad,upd:=drops a++[(u,s,some (ob.setRow p { r with es:=setCells r.es e o new }))],kill:=.under u s p e o (o+n)::dropKills a,rd:=(u,s)::(v.ev f).roots }
      else none
    | _=>none
  | .appz own sz bytes x y=>(elems h sz (y.ev f)).bind fun (ys,rd)=>match x.ev f with
    | .z nn=>if ys.length * bytes≤room then
        (if ys.isEmpty then some { v:=.z nn,rd } else
          some { v:=.msl 0 dst [] 0 ys.length,upd:=[(0,dst,some (.row false sz nn (ys.map (ownify own))))],kill:=[.root 0 dst],rd }) else none
    | _=>none
  | .appm sz bytes x y=>match x.ev f,y.ev f with
    | .msl 0 s [] off n, .msl 0 s' [] off' n'=>match h 0 s with
      | some (.row false sz' nn es)=>
        if s'=s∧sz'=sz∧n≠0∧off+n=es.length∧off'+n'≤es.length∧(n+n') * bytes≤room then
          (allDs (es.drop off++(es.drop off').take n')).map fun ds=>{ v:=.d (.sl true ds),upd:=[(0,s,none)],kill:=[.root 0 s],rd:=[(0,s)] }
        else none
      | _=>none
    | _,_=>none
  | .len k x=>match k,x.ev f with
    | 1, .d (.str l)=>some { v:=.d (.int .i64 l.length) }
    | 0, .d (.sl _ es)=>some { v:=.d (.int .i64 es.length) }
    | 0, .z _=>some { v:=.d (.int .i64 0) }
    | 0, .msl u s _ _ n=>some { v:=.d (.int .i64 n),rd:=[(u,s)] }
    | 2, .d .nilm=>some { v:=.d (.int .i64 0) }
    | 2, .mp u s a=>(mapAt h u s a).map fun es=>{ v:=.d (.int .i64 es.length),rd:=[(u,s)] }
    | _,_=>none
  | .app fz own sz bytes x y=>(elems h sz (y.ev f)).bind fun (ys,rd)=>match x.ev f with
    | .msl u s p off n=>(h u s).bind fun ob=>(ob.row? p).bind fun r=>
      if off=0∧n=r.es.length∧r.sz=sz∧(n+ys.length) * bytes≤room ∧ !rd.contains (u,s) ∧ !fz then
        match p.getLast? with
        | none=>match u,ob with
          | 0, .row false _ nn es=>some { v:=.msl 0 s [] 0 (n+ys.length),upd:=[(0,s,some (.row false sz nn (es++ys.map (ownify own))))],kill:=[.root 0 s],rd:=(0,s)::rd }
          | _,_=>none
        | some (e,o)=>(ob.row? p.dropLast).bind fun q=>
          if ((u,s)≠(0,dst)) then
          some { v:=.msl 0 dst [] 0 (n+ys.length),upd:=[(u,s,some (ob.setRow p.dropLast { q with es:=setCells q.es e o [.bad] })),(0,dst,some (.row false sz r.nn (r.es++ys.map (ownify own))))],
                 kill:=[.root 0 dst, .under u s p.dropLast e o (o+1), .root 0 dst],rd:=(u,s)::rd } else none
      else none
    | .z nn=>if fz∧ys.length * bytes≤room then (allDs ys).map fun es=>{ v:=.d (.sl (nn || !es.isEmpty) es),rd } else none
    | .d (.sl false [])=>if fz∧ys.length * bytes≤room then (allDs ys).map fun es=>{ v:=.d (.sl (!es.isEmpty) es),rd } else none
    | _=>none
  | .cpy sz x y=>(elems h sz (y.ev f)).bind fun (ys,rd)=>match x.ev f with
    | .msl u s p off n=>(h u s).bind fun ob=>(ob.row? p).bind fun r=>
      let m:=min ys.length n
      if r.sz=sz∧off+n≤r.es.length ∧ !rd.contains (u,s)∧(allDs r.es).isSome∧sz≠1 then
        some { v:=.d (.int .i64 m),upd:=[(u,s,some (ob.setRow p { r with es:=r.es.take off++ys.take m++r.es.drop (off+m) }))],rd:=(u,s)::rd }
      else none
    | _=>none
  | .mn x xs=>match x.ev f with
    | .d a=>match a with
      | .int _ _=>(minmax (fun y x=>decide (y<x)) a (xs.map (·.ev f))).map fun c=>{ v:=.d c }
      | _=>none
    | _=>none
  | .mx x xs=>match x.ev f with
    | .d a=>match a with
      | .int _ _=>(minmax (fun y x=>decide (y > x)) a (xs.map (·.ev f))).map fun c=>{ v:=.d c }
      | _=>none
    | _=>none
  | .mkfn g caps=>let vs:=caps.map (·.ev f);if vs.all V.atom then some { v:=.fn g vs,rd:=(V.fn g vs).roots } else none
def look {α:Type}:List (Nat × α)→Nat→Option α
  | [],_=>none
  | (k,v)::r,s=>if k==s then some v else look r s
def put {α:Type}:List (Nat × α)→Nat→α→List (Nat × α)
  | [],s,v=>[(s,v)]
  | (k,x)::r,s,v=>if k==s then (k,v)::r else (k,x)::put r s v
def del {α:Type}:List (Nat × α)→Nat→List (Nat × α)
  | [],_=>[]
  | (k,x)::r,s=>if k==s then del r s else (k,x)::del r s
abbrev HL:=List (List (Nat × Ob))
structure St where
  fr:List (Nat × V)
  hp:HL
def St.f (s:St):Fr:=fun t=>(look s.fr t).getD .bad
def hof (hp:HL):Hp:=fun u s=>(hp[u]?).bind (look · s)
def hput (hp:HL) (u s:Nat) (o:Option Ob):HL:=
  match hp,u with
  | [],_=>[]
  | l::r,0=>(match o with | some x=>put l s x | none=>del l s)::r
  | l::r,u+1=>l::hput r u s o
def hputs:List (Nat × Nat × Option Ob)→HL→HL
  | [],hp=>hp
  | (u,s,o)::r,hp=>hputs r (hput hp u s o)
def St.apply (st:St) (dst:Option Nat) (e:Eff):St:=
  let fr:=if e.kill.isEmpty then st.fr else st.fr.map fun (k,v)=>(k,v.kills e.kill)
  { fr:=match dst with | some d=>put fr d e.v | none=>fr,hp:=hputs e.upd st.hp }
inductive IR where
  | skip
  | reg (ops:List II)
  | drw (head:Nat) (un:List (List Nat)) (ops:List II)
  | seq (a b:IR)
  | cond (c:Opd) (a b:IR)
  | block (id:Nat) (b:IR)
  | loop (b:IR)
  | back (s d:Nat) (b:IR)
  | exit (id:Nat)
  | ret
  | keep (l os:List Nat)
  | frz (s:Nat)
  | cpb (n s x d:Nat)
  deriving Inhabited
inductive Ex where
  | normal
  | exit (id:Nat)
  | ret
abbrev CallR:=FuncId→List V→HL→Option (V × HL)
def wantedI (f:Fr):Option (Nat × Bool)→Option Bool
  | none=>some true
  | some (s,want)=>match f s with
    | .d (.bool b)=>some (b==want)
    | .und=>some false
    | _=>none
def V.deep1:V→Bool
  | .ptr _ _ p _ _=>!p.isEmpty
  | .msl _ _ p _ _=>!p.isEmpty
  | .mp _ _ a=>a.isSome
  | .fn _ _=>true
  | .agg _=>true
  | .tup _=>true
  | _=>false
def V.shallow:V→V
  | .fn f vs=>.fn f (vs.map fun v=>if v.deep1 then .bad else v)
  | .agg vs=>.agg (vs.map fun v=>if v.deep1 then .bad else v)
  | .tup vs=>.tup (vs.map fun v=>if v.deep1 then .bad else v)
  | v=>if v.deep1 then .bad else v
def refCall (callr:CallR) (st:St) (dst:Option Nat) (g:FuncId) (vs:List V):Option St:=
  (callr g vs st.hp).map fun (v,hp)=>
    let fr:=st.fr.map fun (k,x)=>(k,x.shallow)
    { fr:=match dst with | some d=>put fr d v | none=>fr,hp }
def V.flat:V→Bool
  | .fn _ vs=>vs.all V.atom
  | .agg vs=>vs.all V.atom
  | .tup vs=>vs.all V.atom
  | _=>true
def frmRoot:List V→Option (Nat × Nat)
  | []=>none
  | .msl u s [] _ _::_=>some (u,s)
  | _::r=>frmRoot r
def frmOk (u s:Nat):V→Bool
  | .msl u' s' [] _ _=>u'==u&&s'==s
  | v=>v.free
def frmV:V→V
  | .msl _ s p off n=>.msl 0 s p off n
  | v=>v
def frmCall (callr:CallR) (st:St) (dst:Option Nat) (g:FuncId) (vs:List V):Option St:=
  match frmRoot vs with
  | some (u,s)=>if vs.all (frmOk u s) then
      (hof st.hp u s).bind fun ob=>match callr g (vs.map frmV) [[(s,ob)]] with
        | some (v,[[(s',ob')]])=>if s'=s∧v.free∧v.flat then
            let fr:=st.fr.map fun (k,x)=>(k,x.shallow)
            some { fr:=match dst with | some d=>put fr d v | none=>fr,hp:=hput st.hp u s (some ob') }
          else none
        | _=>none
    else none
  | none=>none
def addExp (l:List (Nat × Ob)):HL→Option HL
  | []=>none
  | tc::hp=>if l.all fun x=>(look tc x.1).isNone then some ((tc++l)::hp) else none
def ownCall (callr:CallR) (st:St) (dst:Option Nat) (g:FuncId) (vs:List V):Option St:=
  if vs.all V.free then
    match callr g vs [[]] with
    | some (v,[l])=>if v.flat then (addExp l st.hp).map fun hp=>{ fr:=match dst with | some d=>put st.fr d v | none=>st.fr,hp } else none
    | _=>none
  else none
def Opd.slots:Opd→List Nat
  | .t s=>[s]
  | _=>[]
def optSlots:Option Opd→List Nat
  | some x=>x.slots
  | none=>[]
def IOp.slots:IOp→List Nat
  | .mv x=>x.slots
  | .mkrow _=>[]
  | .pick c a b=>c.slots++(a.slots++b.slots)
  | .alloc _=>[]
  | .box _ _ x=>x.slots
  | .build _ ps=>ps.flatMap fun p=>p.2.2.slots
  | .lit _ _ ps=>ps.flatMap fun p=>p.2.slots
  | .ld1 x=>x.slots
  | .ldn _ x=>x.slots
  | .st _ x v=>x.slots++v.slots
  | .nck x=>x.slots
  | .bin _ x y=>x.slots++y.slots
  | .eqb _ x y=>x.slots++y.slots
  | .eqa _ _ x y=>x.slots++y.slots
  | .isnil _ _ x=>x.slots
  | .un _ x=>x.slots
  | .cvi _ x=>x.slots
  | .cvss x=>x.slots
  | .cvbs x=>x.slots
  | .cvsb x=>x.slots
  | .mkmap=>[]
  | .look _ _ _ _ m k=>m.slots++k.slots
  | .upd _ _ m k v=>m.slots++(k.slots++v.slots)
  | .mkrows _ _ n=>n.slots
  | .slc _ x lo hi=>x.slots++(optSlots lo++optSlots hi)
  | .clip x=>x.slots
  | .slcs x lo hi=>x.slots++(optSlots lo++optSlots hi)
  | .fa _ x=>x.slots
  | .ia _ x i=>x.slots++i.slots
  | .ixs x i=>x.slots++i.slots
  | .fld _ _ x=>x.slots
  | .ext x _=>x.slots
  | .call _ args=>args.flatMap Opd.slots
  | .callv x args=>x.slots++args.flatMap Opd.slots
  | .callo _ args=>args.flatMap Opd.slots
  | .callf _ args=>args.flatMap Opd.slots
  | .appz _ _ _ x y=>x.slots++y.slots
  | .appm _ _ x y=>x.slots++y.slots
  | .stm _ x v=>x.slots++v.slots
  | .len _ x=>x.slots
  | .app _ _ _ _ x y=>x.slots++y.slots
  | .cpy _ x y=>x.slots++y.slots
  | .mn x xs=>x.slots++xs.flatMap Opd.slots
  | .mx x xs=>x.slots++xs.flatMap Opd.slots
  | .mkfn _ caps=>caps.flatMap Opd.slots
def II.slots (i:II):List Nat:=(match i.g with | some (s,_)=>[s] | none=>[])++i.op.slots
def hasLv:HL→Nat→Bool
  | [],_=>false
  | _::_,0=>true
  | _::r,u+1=>hasLv r u
def Eff.fits (e:Eff) (hp:HL):Bool:=e.v.flat&&(e.upd.all (fun x=>hasLv hp x.1)&&e.kill.all fun | .root u _=>u==0 | .under ..=>true)
def St.applyO (st:St) (dst:Option Nat) (e:Eff):Option St:=if e.fits st.hp then some (st.apply dst e) else none
def stepI (callr:CallR) (st:St) (i:II):Option St:=
  (wantedI st.f i.g).bind fun w=>
    if w then
      match i.op with
      | .call g args=>
        let vs:=args.map (·.ev st.f)
        if vs.all V.free then (eff (fun g vs=>(callr g vs []).map (·.1)) st.f (hof st.hp) (i.dst.getD 0) i.op).bind (st.applyO i.dst ·)
        else refCall callr st i.dst g vs
      | .callv x args=>match x.ev st.f with
        | .fn g caps=>
          let vs:=args.map (·.ev st.f)++caps
          if vs.all V.free then (eff (fun g vs=>(callr g vs []).map (·.1)) st.f (hof st.hp) (i.dst.getD 0) i.op).bind (st.applyO i.dst ·)
          else refCall callr st i.dst g vs
        | _=>none
      | .callo g args=>ownCall callr st i.dst g (args.map (·.ev st.f))
      | .callf g args=>frmCall callr st i.dst g (args.map (·.ev st.f))
      | op=>(eff (fun g vs=>(callr g vs []).map (·.1)) st.f (hof st.hp) (i.dst.getD 0) op).bind (st.applyO i.dst ·)
    else some (st.apply i.dst { v:=.und })
def stepsI (callr:CallR):St→List II→Option St
  | st,[]=>some st
  | st,i::r=>(stepI callr st i).bind (stepsI callr · r)
def effI (callr:CallR) (f:Fr) (h:Hp) (i:II):Option Eff:=
  (wantedI f i.g).bind fun w=>
    if w then eff (fun g vs=>(callr g vs []).map (·.1)) f h (i.dst.getD 0) i.op else some { v:=.und }
def Kill.rt:Kill→Nat × Nat
  | .root u s=>(u,s)
  | .under u s ..=>(u,s)
def Eff.writes (e:Eff):List (Nat × Nat):=e.upd.map (fun x=>(x.1,x.2.1))++e.kill.map Kill.rt
def meets (a b:List (Nat × Nat)):Bool:=a.any (b.contains ·)
def IOp.cls:IOp→Nat
  | .mv _=>0
  | .pick ..=>0
  | .nck _=>0
  | .fa ..=>0
  | .ext ..=>0
  | .ld1 _=>1
  | _=>2
def IOp.quiet:IOp→Bool
  | .mkrow _=>false
  | .alloc _=>false
  | .box ..=>false
  | .st ..=>false
  | .mkmap=>false
  | .upd ..=>false
  | .mkrows ..=>false
  | .app ..=>false
  | .cpy ..=>false
  | .callo ..=>false
  | .callf ..=>false
  | .appz ..=>false
  | .appm ..=>false
  | .stm ..=>false
  | _=>true
def IOp.cov:IOp→Bool
  | .upd ..=>false
  | .cpy ..=>false
  | .callo ..=>false
  | .callf ..=>false
  | .appz ..=>false
  | .appm ..=>false
  | .stm ..=>false
  | _=>true
def Kill.on (k:Kill):V→Bool
  | .ptr u s p _ _=>k.hits u s p
  | .msl u s p _ _=>k.hits u s p
  | .mp u s none=>k.hits u s []
  | .mp u s (some (p,e,o))=>k.hits u s (p++[(e,o)])
  | _=>false
def struck1 (ks:List Kill) (v:V):Bool:=ks.any (·.on v)
def V.struck (ks:List Kill):V→Bool
  | .fn _ vs=>vs.any (struck1 ks)
  | .agg vs=>vs.any (struck1 ks)
  | .tup vs=>vs.any (struck1 ks)
  | v=>struck1 ks v
abbrev CAt:=Nat × Nat × Path × Nat × Nat
def V.crs:V→List CAt
  | .ptr u s p e o=>[(u,s,p,e,o)]
  | _=>[]
def crOf (f:Fr) (op:IOp):List CAt:=match op with
  | .ld1 x=>(x.ev f).crs
  | _=>[]
structure Foot where
  wr:List (Nat × Nat)
  ks:List Kill
  rh:List (Nat × Nat)
  cr:List CAt
  cov:Bool
  vs:List V
  hit:Nat→Bool
def foot (f:Fr) (i:II) (e:Eff):Foot where
  wr:=e.writes
  ks:=e.kill
  rh:=if i.op.cls==2 then i.slots.flatMap (fun t=>(f t).roots)++e.v.roots else []
  cr:=crOf f i.op
  cov:=i.op.cov
  vs:=if i.op.cls==2 then [] else i.slots.map f++[e.v]
  hit:=fun t=>(f t).struck e.kill
def crHit (cov:Bool) (ks:List Kill) (wr:List (Nat × Nat)) (cr:List CAt):Bool:=
  cr.any fun q=>if cov then ks.any fun k=>k.hits q.1 q.2.1 (q.2.2.1++[(q.2.2.2.1,q.2.2.2.2)]) else wr.contains (q.1,q.2.1)
def clash (ss:List Nat) (a b:Foot):Bool:=
  meets a.wr (b.wr++b.rh)||(meets b.wr a.rh||(b.vs.any (·.struck a.ks)||(a.vs.any (·.struck b.ks)||(crHit a.cov a.ks a.wr b.cr||(crHit b.cov b.ks b.wr a.cr||ss.any b.hit)))))
def headI (callr:CallR):St→List II→List (List Nat)→List Foot→Option St
  | st,[],_,_=>some st
  | st,i::r,un,es=>(effI callr st.f (hof st.hp) i).bind fun e=>
    let ft:=foot st.f i e
    if (un.headD []).any fun j=>(es[j]?).any (clash i.slots ft) then none else (st.applyO i.dst e).bind fun st'=>headI callr st' r un.tail (es++[ft])
def dsts (l:List II):List Nat:=l.filterMap II.dst
def St.clear (st:St) (ds:List Nat):St:={ st with fr:=st.fr.filter fun x=>!ds.contains x.1 }
def fzB:C→Option C
  | .mp _=>some .bad
  | c=>(fzC c).map .d
def fzBs:List C→Option (List C)
  | []=>some []
  | c::r=>(fzB c).bind fun x=>(fzBs r).map (x :: ·)
def freezeOb:Ob→Option (Ob × Nat)
  | .row fx sz nn [cs]=>(fzBs cs).map fun cs'=>(.row fx sz nn [cs'],cs.length)
  | _=>none
def V.refs0 (s:Nat):V→Bool:=fun v=>v.roots.contains (0,s)
def evKeep (st:St) (l os:List Nat):Option St:=
  let fr:=l.filterMap fun s=>(look st.fr s).map fun v=>(s,v)
  match st.hp with
  | []=>none
  | t::r=>
    let top:=os.filterMap fun s=>if fr.any (fun x=>x.2.refs0 s) then (look t s).map fun o=>(s,o) else none
    if fr.all fun x=>x.2.roots.all fun y=>y.1 != 0||os.contains y.2 then some { fr,hp:=top::r } else none
def evFrz (st:St) (s:Nat):Option St:=
  match st.f s with
  | .ptr u t [] _ _=>(hof st.hp u t).bind fun o=>(freezeOb o).map fun (o',n)=>{ fr:=st.fr.map fun (k,x)=>(k,x.kills [.under u t [] 0 0 n]),hp:=hput st.hp u t (some o') }
  | _=>none
def C.isD:C→Bool
  | .d _=>true
  | _=>false
def C.notBad:C→Bool
  | .bad=>false
  | _=>true
def evCpb (st:St) (n s x d:Nat):Option St:=
  match st.f s,st.f d with
  | .ptr 0 a [] 0 0, .ptr 0 b [] 0 0=>match hof st.hp 0 a,hof st.hp 0 b with
    | some (.row _ _ _ [cs]),some (.row fx sz nn [cs'])=>
      if a≠b∧x≠d∧cs.length=n∧cs'.length=n∧sz=n∧cs'.all C.isD∧cs.all C.notBad then
        some { fr:=st.fr.map fun (k,v)=>(k,if k==x then .bad else v.kills [.root 0 a]),hp:=hput (hput st.hp 0 a none) 0 b (some (.row fx sz nn [cs])) }
      else none
    | _,_=>none
  | _,_=>none
def iter (body:St→Option (Ex × St)):Nat→St→Option (Ex × St)
  | 0,_=>none
  | n+1,st=>match body st with
    | some (.normal,st')=>iter body n st'
    | r=>r
def backGo (body:St→Option (Ex × St)) (d:Nat):List (List D)→St→Option (Ex × St)
  | [],st=>some (.normal,st)
  | ds::r,st=>match body { st with fr:=(d, .d (.agg ds))::st.fr } with
    | some (.normal,st')=>backGo body d r st'
    | _=>none
def ev (n:Nat) (callr:CallR):IR→St→Option (Ex × St)
  | .skip,st=>some (.normal,st)
  | .reg ops,st=>(stepsI callr st ops).map fun st=>(.normal,st)
  | .drw h un ops,st=>(headI callr (st.clear (dsts (ops.take h))) (ops.take h) un []).bind fun st=>(stepsI callr st (ops.drop h)).map fun st=>(.normal,st)
  | .seq a b,st=>match ev n callr a st with
    | some (.normal,st')=>ev n callr b st'
    | r=>r
  | .cond c a b,st=>match c.ev st.f with
    | .d (.bool t)=>if t then ev n callr a st else ev n callr b st
    | _=>none
  | .block id b,st=>match ev n callr b st with
    | some (.exit j,st')=>some (if j==id then .normal else .exit j,st')
    | r=>r
  | .loop b,st=>iter (ev n callr b) n st
  | .back s d b,st=>match st.f s with
    | .d (.sl _ es)=>if es.length<1099511627776 then backGo (ev n callr b) d es.reverse st else none
    | _=>none
  | .exit id,st=>some (.exit id,st)
  | .ret,st=>some (.ret,st)
  | .keep l os,st=>(evKeep st l os).map fun st=>(.normal,st)
  | .frz s,st=>(evFrz st s).map fun st=>(.normal,st)
  | .cpb n s x d,st=>(evCpb st n s x d).map fun st=>(.normal,st)
inductive IRes where
  | tmp (t:Nat)
  | cell (t n:Nat)
  | cell1 (t:Nat)
  | owns (t k:Nat)
  | ownc (t n k:Nat)
  deriving Inhabited
structure IFn where
  body:IR
  res:List IRes
  deriving Inhabited
def retV (h:Hp):V→Option V
  | .msl 0 s p off n=>((h 0 s).bind (·.row? p)).bind fun r=>
      if off+n≤r.es.length then (fzCss ((r.es.drop off).take n)).map fun es=>.d (.sl (r.nn || !r.es.isEmpty) es) else none
  | .z nn=>some (.d (.sl nn []))
  | v=>if v.roots.all (·.1 != 0) then some v.down else none
def resI (st:St):IRes→Option V
  | .tmp t=>retV (hof st.hp) (st.f t)
  | .cell t n=>match st.f t with
    | .ptr 0 s p e o=>((hof st.hp 0 s).bind (·.row? p)).bind fun r=>(r.es[e]?).bind fun cs=>
      if o+n≤cs.length then (fzCs ((cs.drop o).take n)).map fun ds=>.d (.agg ds) else none
    | _=>none
  | .owns _ _=>none
  | .ownc _ _ _=>none
  | .cell1 t=>match st.f t with
    | .ptr 0 s p e o=>((hof st.hp 0 s).bind (·.row? p)).bind fun r=>(cellAt r.es e o).bind fun c=>(fzC c).map .d
    | _=>none
def resIs (st:St):List IRes→Option (List V)
  | []=>some []
  | r::rs=>(resI st r).bind fun v=>(resIs st rs).map (v :: ·)
def argsFr:Nat→List V→List (Nat × V)
  | _,[]=>[]
  | i,v::r=>(i,v.up)::argsFr (i+1) r
def expC (k:Nat):List C→Option (List V × List (Nat × Ob))
  | []=>some ([],[])
  | .d (.agg _)::_=>none
  | .d x::r=>(expC (k+1) r).map fun y=>(.d x::y.1,y.2)
  | .own sz nn es::r=>(expC (k+1) r).map fun y=>(.msl 0 k [] 0 es.length::y.1,(k, .row false sz nn es)::y.2)
  | _::_=>none
def expI (st:St):IRes→Option (V × List (Nat × Ob))
  | .owns t k=>match st.f t with
    | .msl 0 s [] 0 n=>match hof st.hp 0 s with
      | some (.row false sz nn es)=>if es.length=n then some (.msl 0 k [] 0 n,[(k, .row false sz nn es)]) else none
      | _=>none
    | v=>(retV (hof st.hp) v).bind fun v=>if v.flat then some (v,[]) else none
  | .ownc t n k=>match st.f t with
    | .ptr 0 s [] 0 0=>match hof st.hp 0 s with
      | some (.row _ _ _ [cs])=>if cs.length=n then (expC k cs).map fun y=>(.agg y.1,y.2) else none
      | _=>none
    | _=>none
  | _=>none
def isExp:List IRes→Option IRes
  | [.owns t k]=>some (.owns t k)
  | [.ownc t n k]=>some (.ownc t n k)
  | _=>none
structure Pg where
  fns:FuncId→Option IFn
  ext:FuncId→List V→Option V
def outV:List V→Option V
  | [v]=>some v
  | vs=>if vs.all V.atom then some (.tup vs) else none
def run (p:Pg):Nat→CallR
  | 0,_,_,_=>none
  | n+1,g,vs,hp=>
    match p.fns g with
    | some fn=>
      match ev n (run p n) fn.body { fr:=argsFr 0 vs,hp:=[]::hp } with
      | some (.exit _,_)=>none
      | some (_,st)=>match isExp fn.res with
        | some ir=>(expI st ir).bind fun y=>match st.hp with
          | _::hp'=>(addExp y.2 hp').map fun hp''=>(y.1,hp'')
          | []=>none
        | none=>(resIs st fn.res).bind fun rs=>match st.hp with
          | _::hp'=>(outV rs).map fun v=>(v,hp')
          | []=>none
      | none=>none
    | none=>(p.ext g vs).map fun v=>(v,hp)
end Go.Proofs.YtgmphfmoonbfpaaMv

namespace Go.Proofs.YtgmphfmoonbfpaaMv
open Go
inductive Nd where
  | row (r:Row)
  | map (es:List (D × D))
def ndGo:Row→Path→Option Nd
  | r,[]=>some (.row r)
  | r,(e,o)::p=>
    match cellAt r.es e o with
    | some (.own sz nn es)=>ndGo ⟨sz,nn,es⟩ p
    | some (.mp es)=>(match p with | []=>some (.map es) | _::_=>none)
    | _=>none
def Ob.nd?:Ob→Path→Option Nd
  | .row _ sz nn es,p=>ndGo ⟨sz,nn,es⟩ p
  | .map es,[]=>some (.map es)
  | .map _,_::_=>none
def nd (h:Hp) (u s:Nat) (p:Path):Option Nd:=(h u s).bind (·.nd? p)
def Nd.live:Nd→Prop
  | .row r=>r.nn=true∨r.es≠[]
  | .map _=>True
theorem overlay_length:∀ (cs:List C) (o:Nat) (new:List C),(overlay cs o new).length=cs.length
  | [],_,_=>by simp [overlay]
  | c::cs,0,[]=>by simp [overlay]
  | c::cs,0,n::new=>by simp [overlay,overlay_length cs 0 new]
  | c::cs,o+1,new=>by simp [overlay,overlay_length cs o new]
theorem overlay_get:∀ (cs:List C) (o:Nat) (new:List C) (i:Nat),
    (overlay cs o new)[i]? = if o≤i∧i<o+new.length∧i<cs.length then new[i - o]? else cs[i]?
  | [],o,new,i=>by simp [overlay]
  | c::cs,0,[],i=>by
    have:¬(i<0+([]:List C).length):=by simp
    simp [overlay]
  | c::cs,0,n::new,0=>by simp [overlay]
  | c::cs,0,n::new,i+1=>by
    simp only [overlay,List.getElem?_cons_succ]
    rw [overlay_get cs 0 new i]
    by_cases h:i<new.length∧i<cs.length
    · rw [if_pos ⟨by omega,by omega,h.2⟩,if_pos ⟨by omega,by simp;omega,by simp;omega⟩];simp
    · rw [if_neg (by omega),if_neg (by simp;omega)]
  | c::cs,o+1,new,0=>by simp [overlay]
  | c::cs,o+1,new,i+1=>by
    simp only [overlay,List.getElem?_cons_succ]
    rw [overlay_get cs o new i]
    by_cases h:o≤i∧i<o+new.length∧i<cs.length
    · rw [if_pos h,if_pos ⟨by omega,by omega,by simp;omega⟩];congr 1;omega
    · rw [if_neg h,if_neg (by simp;omega)]
theorem setCells_get {es:List (List C)} {e o:Nat} {new:List C} (e1:Nat) :
    (setCells es e o new)[e1]? = if e1=e then (es[e]?).map (overlay · o new) else es[e1]?:=by
  unfold setCells
  cases h:es[e]? with
  | none=>
    by_cases h1:e1=e
    · subst h1;simp [h]
    · simp [h1]
  | some cs=>
    simp only [List.getElem?_set]
    have hl:e<es.length:=(List.getElem?_eq_some_iff.1 h).1
    by_cases h1:e1=e
    · subst h1;simp [hl]
    · rw [if_neg (fun h=>h1 h.symm),if_neg h1]
theorem setCells_length {es:List (List C)} {e o:Nat} {new:List C}:(setCells es e o new).length=es.length:=by
  unfold setCells
  split <;> simp
theorem cellAt_setCells {es:List (List C)} {e o:Nat} {new:List C} (e1 o1:Nat) :
    cellAt (setCells es e o new) e1 o1=if e1=e∧o≤o1∧o1<o+new.length∧(cellAt es e1 o1).isSome=true then new[o1 - o]? else cellAt es e1 o1:=by
  unfold cellAt
  rw [setCells_get]
  by_cases h1:e1=e
  · subst h1
    simp only [if_true,true_and]
    cases h:es[e1]? with
    | none=>simp
    | some cs=>
      simp only [Option.map_some,Option.bind_some,overlay_get]
      have:(cs[o1]?).isSome=true ↔ o1<cs.length:=by
        rw [Option.isSome_iff_exists]
        constructor
        · rintro ⟨c,hc⟩;exact (List.getElem?_eq_some_iff.1 hc).1
        · intro h;exact ⟨cs[o1],List.getElem?_eq_getElem h⟩
      simp only [this]
  · rw [if_neg h1,if_neg (fun h=>h1 h.1)]
theorem cellAt_some {es:List (List C)} {e o:Nat} {c:C} (h:cellAt es e o=some c):∃ cs,es[e]? = some cs∧cs[o]? = some c:=by
  unfold cellAt at h
  cases he:es[e]? with
  | none=>simp [he] at h
  | some cs=>exact ⟨cs,rfl,by simpa [he] using h⟩
def CSim (c c':C):Prop:=c=c'∨(∃ sz nn es es',c = .own sz nn es∧c' = .own sz nn es'∧es.length=es'.length) ∨ ∃ es es',c = .mp es∧c' = .mp es'
theorem CSim.rfl' {c:C}:CSim c c:=.inl rfl
structure RSim (a b:Row):Prop where
  sz:a.sz=b.sz
  nn:a.nn=b.nn
  len:∀ e:Nat,(a.es[e]?).map List.length=(b.es[e]?).map List.length
  cell:∀ (e o:Nat) (c:C),cellAt b.es e o=some c→∃ c0,cellAt a.es e o=some c0∧CSim c0 c
theorem RSim.rfl' {a:Row}:RSim a a:=⟨rfl,rfl,fun _=>rfl,fun _ _ c h=>⟨c,h, .inl rfl⟩⟩
theorem RSim.length {a b:Row} (h:RSim a b):a.es.length=b.es.length:=by
  rcases Nat.lt_trichotomy a.es.length b.es.length with h1 | h1 | h1
  · have:=h.len a.es.length
    rw [List.getElem?_eq_none (Nat.le_refl _),List.getElem?_eq_getElem h1] at this
    simp at this
  · exact h1
  · have:=h.len b.es.length
    rw [List.getElem?_eq_none (l:=b.es) (Nat.le_refl _),List.getElem?_eq_getElem h1] at this
    simp at this
theorem RSim.lens {a b:Row} (h:RSim a b) {n:Nat} (ha:∀ cs ∈ a.es,cs.length=n):∀ cs ∈ b.es,cs.length=n:=by
  intro cs hcs
  obtain ⟨i,hi,rfl⟩:=List.mem_iff_getElem.1 hcs
  have:=h.len i
  rw [List.getElem?_eq_getElem hi,List.getElem?_eq_getElem (by rw [h.length];exact hi)] at this
  simp only [Option.map_some,Option.some.injEq] at this
  rw [←this]
  exact ha _ (List.getElem_mem _)
theorem RSim.live {a b:Row} (h:RSim a b):(Nd.row a).live ↔ (Nd.row b).live:=by
  have hl:=h.length
  have:a.es=[] ↔ b.es=[]:=by rw [←List.length_eq_zero_iff,←List.length_eq_zero_iff,hl]
  simp [Nd.live,h.nn,this]
inductive NSim:Option Nd→Option Nd→Prop
  | none:NSim none none
  | map (es):NSim (some (.map es)) (some (.map es))
  | row {a b:Row} (h:RSim a b):NSim (some (.row a)) (some (.row b))
theorem NSim.rfl':∀ {x:Option Nd},NSim x x
  | .none=>.none
  | some (.map es)=>.map es
  | some (.row r)=>.row .rfl'
theorem setCells_sim {r:Row} {e o:Nat} {c c':C} (h:cellAt r.es e o=some c) (hs:CSim c c'):RSim r { r with es:=setCells r.es e o [c'] }:=by
  refine ⟨rfl,rfl,fun e1=>?_,fun e1 o1 c1 h1=>?_⟩
  · rw [setCells_get]
    by_cases he:e1=e
    · subst he;rw [if_pos rfl];cases r.es[e1]? <;> simp [overlay_length]
    · rw [if_neg he]
  · rw [cellAt_setCells] at h1
    split at h1
    · rename_i hh
      obtain ⟨rfl,h2,h3,h4⟩:=hh
      simp only [List.length_singleton] at h3
      have:o1=o:=by omega
      subst this
      simp at h1
      subst h1
      exact ⟨c,h,hs⟩
    · exact ⟨c1,h1, .inl rfl⟩
structure Shp (a b:Row):Prop where
  sz:a.sz=b.sz
  nn:a.nn=b.nn
  len:a.es.length=b.es.length
theorem setGo_shape:∀ (p:Path) (r r0 r1:Row),rowGo r p=some r0→Shp r0 r1→Shp r (setGo r p r1)
  | [],r,r0,r1,h,hs=>by simp [rowGo] at h;subst h;exact hs
  | (e,o)::p,r,r0,r1,h,hs=>by
    simp only [rowGo] at h
    simp only [setGo]
    cases hc:cellAt r.es e o with
    | none=>simp [hc] at h
    | some c=>
      cases c with
      | own sz nn es=>exact ⟨rfl,rfl,by simp [setCells_length]⟩
      | _=>simp [hc] at h
theorem ndGo_set_ext:∀ (p:Path) (r r0 r1:Row) (q:Path),rowGo r p=some r0→ndGo (setGo r p r1) (p++q)=ndGo r1 q
  | [],r,r0,r1,q,h=>by simp [setGo]
  | (e,o)::p,r,r0,r1,q,h=>by
    simp only [rowGo] at h
    cases hc:cellAt r.es e o with
    | none=>simp [hc] at h
    | some c=>
      cases c with
      | own sz nn es=>
        simp only [hc] at h
        simp only [setGo,hc,List.cons_append,ndGo,cellAt_setCells]
        simp only [List.length_singleton,Nat.le_refl,true_and,hc,Option.isSome_some,and_true]
        rw [if_pos (by omega)]
        simp only [Nat.sub_self,List.getElem?_cons_zero]
        exact ndGo_set_ext p _ r0 r1 q h
      | _=>simp [hc] at h
theorem ndGo_set_sim:∀ (p:Path) (r r0 r1:Row) (q:Path),rowGo r p=some r0→Shp r0 r1→¬p <+: q→NSim (ndGo r q) (ndGo (setGo r p r1) q)
  | [],r,r0,r1,q,h,hs,hq=>absurd (List.nil_prefix) hq
  | (e,o)::p,r,r0,r1,q,h,hs,hq=>by
    simp only [rowGo] at h
    cases hc:cellAt r.es e o with
    | none=>simp [hc] at h
    | some c=>
      cases c with
      | own sz nn es=>
        simp only [hc] at h
        have hshape:=setGo_shape p _ r0 r1 h hs
        have hset:setGo r ((e,o)::p) r1 = { r with es:=setCells r.es e o [.own (setGo ⟨sz,nn,es⟩ p r1).sz (setGo ⟨sz,nn,es⟩ p r1).nn (setGo ⟨sz,nn,es⟩ p r1).es] }:=by
          simp only [setGo,hc]
        rw [hset]
        cases q with
        | nil=>
          refine .row (setCells_sim hc (.inr (.inl ⟨sz,nn,es,_,rfl, ?_,hshape.len⟩)))
          rw [←hshape.sz,←hshape.nn]
        | cons x q=>
          obtain ⟨e1,o1⟩:=x
          by_cases hx:e1=e∧o1=o
          · obtain ⟨rfl,rfl⟩:=hx
            have hq':¬p <+: q:=fun hh=>hq (by simpa using hh)
            simp only [ndGo,cellAt_setCells,hc]
            simp only [List.length_singleton,Nat.le_refl,true_and,Option.isSome_some,and_true]
            rw [if_pos (by omega)]
            simp only [Nat.sub_self,List.getElem?_cons_zero]
            exact ndGo_set_sim p _ r0 r1 q h hs hq'
          · have:cellAt (setCells r.es e o [.own (setGo ⟨sz,nn,es⟩ p r1).sz (setGo ⟨sz,nn,es⟩ p r1).nn (setGo ⟨sz,nn,es⟩ p r1).es]) e1 o1=cellAt r.es e1 o1:=by
              rw [cellAt_setCells,if_neg]
              simp only [List.length_singleton]
              intro hh
              exact hx ⟨hh.1,by omega⟩
            have h2:ndGo { r with es:=setCells r.es e o [.own (setGo ⟨sz,nn,es⟩ p r1).sz (setGo ⟨sz,nn,es⟩ p r1).nn (setGo ⟨sz,nn,es⟩ p r1).es] } ((e1,o1)::q)=ndGo r ((e1,o1)::q):=by
              simp only [ndGo,this]
            rw [h2]
            exact .rfl'
      | _=>simp [hc] at h
theorem ndGo_of_rowGo:∀ (p:Path) (r r0:Row),rowGo r p=some r0→ndGo r p=some (.row r0)
  | [],r,r0,h=>by simp [rowGo] at h;simp [ndGo,h]
  | (e,o)::p,r,r0,h=>by
    simp only [rowGo] at h
    cases hc:cellAt r.es e o with
    | none=>simp [hc] at h
    | some c=>
      cases c with
      | own sz nn es=>simp only [hc] at h;simp only [ndGo,hc];exact ndGo_of_rowGo p _ r0 h
      | _=>simp [hc] at h
theorem rowGo_of_ndGo:∀ (p:Path) (r r0:Row),ndGo r p=some (.row r0)→rowGo r p=some r0
  | [],r,r0,h=>by simp [ndGo] at h;simp [rowGo,h]
  | (e,o)::p,r,r0,h=>by
    simp only [ndGo] at h
    cases hc:cellAt r.es e o with
    | none=>simp [hc] at h
    | some c=>
      cases c with
      | own sz nn es=>simp only [hc] at h;simp only [rowGo,hc];exact rowGo_of_ndGo p _ r0 h
      | mp es=>cases p <;> simp [hc] at h
      | _=>simp [hc] at h
theorem ndGo_append:∀ (p:Path) (r r0:Row) (q:Path),rowGo r p=some r0→ndGo r (p++q)=ndGo r0 q
  | [],r,r0,q,h=>by simp [rowGo] at h;simp [h]
  | (e,o)::p,r,r0,q,h=>by
    simp only [rowGo] at h
    cases hc:cellAt r.es e o with
    | none=>simp [hc] at h
    | some c=>
      cases c with
      | own sz nn es=>simp only [hc] at h;simp only [List.cons_append,ndGo,hc];exact ndGo_append p _ r0 q h
      | _=>simp [hc] at h
def hset (h:Hp) (u s:Nat) (o:Option Ob):Hp:=fun u' s'=>if u'=u∧s'=s then o else h u' s'
theorem hset_same (h:Hp) (u s:Nat) (o:Option Ob):hset h u s o u s=o:=by simp [hset]
theorem hset_ne (h:Hp) (u s:Nat) (o:Option Ob) {u' s':Nat} (hn:¬(u'=u∧s'=s)):hset h u s o u' s'=h u' s':=by simp [hset,hn]
theorem nd_hset_ne {h:Hp} {u s:Nat} {o:Option Ob} {u' s':Nat} (hn:¬(u'=u∧s'=s)) (p:Path):nd (hset h u s o) u' s' p=nd h u' s' p:=by simp [nd,hset_ne _ _ _ _ hn]
theorem nd_hset_same {h:Hp} {u s:Nat} {o:Option Ob} (p:Path):nd (hset h u s o) u s p=o.bind (·.nd? p):=by simp [nd,hset_same]
theorem nd_of_row? {h:Hp} {u s:Nat} {ob:Ob} {p:Path} {r:Row} (ho:h u s=some ob) (hr:ob.row? p=some r):nd h u s p=some (.row r):=by
  cases ob with
  | row fx sz nn es=>simp only [nd,ho,Option.bind_some,Ob.nd?];exact ndGo_of_rowGo p _ r hr
  | map es=>simp [Ob.row?] at hr
theorem nd_setRow_sim {h:Hp} {u s:Nat} {ob:Ob} {p:Path} {r r1:Row} (ho:h u s=some ob) (hr:ob.row? p=some r) (hs:Shp r r1) (q:Path) (hq:¬p <+: q) :
    NSim (nd h u s q) (nd (hset h u s (some (ob.setRow p r1))) u s q):=by
  cases ob with
  | row fx sz nn es=>
    rw [nd_hset_same]
    simp only [nd,ho,Option.bind_some,Ob.nd?,Ob.setRow]
    exact ndGo_set_sim p _ r r1 q hr hs hq
  | map es=>simp [Ob.row?] at hr
theorem nd_setRow_ext {h:Hp} {u s:Nat} {ob:Ob} {p:Path} {r r1:Row} (ho:h u s=some ob) (hr:ob.row? p=some r) (q:Path) :
    nd (hset h u s (some (ob.setRow p r1))) u s (p++q)=ndGo r1 q:=by
  cases ob with
  | row fx sz nn es=>
    simp only [nd_hset_same,Option.bind_some,Ob.nd?,Ob.setRow]
    exact ndGo_set_ext p _ r r1 q hr
  | map es=>simp [Ob.row?] at hr
theorem nd_ext {h:Hp} {u s:Nat} {ob:Ob} {p:Path} {r:Row} (ho:h u s=some ob) (hr:ob.row? p=some r) (q:Path):nd h u s (p++q)=ndGo r q:=by
  cases ob with
  | row fx sz nn es=>simp only [nd,ho,Option.bind_some,Ob.nd?];exact ndGo_append p _ r q hr
  | map es=>simp [Ob.row?] at hr
end Go.Proofs.YtgmphfmoonbfpaaMv

namespace Go.Proofs.YtgmphfmoonbfpaaMv
open Go
theorem add_at (b o n:Nat):(⟨b,o,none⟩:Addr).add n=⟨b,o+n,none⟩:=by unfold Addr.add;split <;> simp_all
def dAt (es:List (List D)) (e o:Nat):Option D:=(es[e]?).bind (·[o]?)
inductive RD (w:World) (N:Nat→Prop):D→Value→Prop
  | bool (b:Bool):RD w N (.bool b) (.bool b)
  | int (k:IntKind) (n:Int):RD w N (.int k n) (.int k n)
  | str (s:ByteArray):RD w N (.str s.data.toList) (.string s)
  | nilp:RD w N .nilp (.pointer none)
  | nilm:RD w N .nilm (.map none)
  | nilf:RD w N .nilf .nilFunc
  | nili:RD w N .nili .nilIface
  | slnil:RD w N (.sl false []) (.slice none 0 0)
  | sl (nn:Bool) (es:List (List D)) (a:Addr) (sz cap:Nat) (cvs:Nat→Nat→Value)
      (h0:nn=true∨es≠[])
      (hcap:es.length≤cap)
      (hsz:∀ cs ∈ es,cs.length=sz)
      (hN:∀ i j d,dAt es i j=some d→¬N a.block)
      (hc:∀ i j d,dAt es i j=some d→w.cell? (a.add (i * sz+j))=some (cvs i j))
      (h1:∀ i j d,dAt es i j=some d→(cvs i j).oneCell'=true)
      (hd:∀ i j d,dAt es i j=some d→RD w N d (cvs i j)):RD w N (.sl nn es) (.slice (some a) es.length cap)
  | agg (cs:List D) (vs:Array Value)
      (hl:vs.size=cs.length)
      (h1:∀ (i:Nat) (v:Value),vs[i]? = some v→v.oneCell'=true)
      (hd:∀ (i:Nat) (d:D) (v:Value),cs[i]? = some d→vs[i]? = some v→RD w N d v):RD w N (.agg cs) (.agg vs)
theorem RD.mono {w w':World} {N N':Nat→Prop} (hc:∀ (a:Addr) v,¬N a.block→w.cell? a=some v→w'.cell? a=some v)
    (hn:∀ (a:Addr) v,¬N a.block→w.cell? a=some v→¬N' a.block) {d:D} {v:Value} (h:RD w N d v):RD w' N' d v:=by
  induction h with
  | bool b=>exact .bool b
  | int k n=>exact .int k n
  | str s=>exact .str s
  | nilp=>exact .nilp
  | nilm=>exact .nilm
  | nilf=>exact .nilf
  | nili=>exact .nili
  | slnil=>exact .slnil
  | sl nn es a sz cap cvs h0 hcap hsz hN hcell h1 hd ih=>
    refine .sl nn es a sz cap cvs h0 hcap hsz (fun i j d hij=>?_) (fun i j d hij=>?_) h1 ih
    · have h2:=hN i j d hij
      have h3:=hcell i j d hij
      have hb:∀ n,(a.add n).block=a.block:=fun n=>by unfold Addr.add;split <;> rfl
      have:=hn (a.add (i * sz+j)) _ (by rw [hb];exact h2) h3
      rwa [hb] at this
    · have hb:∀ n,(a.add n).block=a.block:=fun n=>by unfold Addr.add;split <;> rfl
      exact hc _ _ (by rw [hb];exact hN i j d hij) (hcell i j d hij)
  | agg cs vs hl h1 hd ih=>exact .agg cs vs hl h1 ih
theorem RD.one {w:World} {N:Nat→Prop} {d:D} {v:Value} (h:RD w N d v) (hd:∀ cs,d ≠ .agg cs):v.oneCell'=true:=by
  cases h with
  | agg cs vs=>exact absurd rfl (hd cs)
  | _=>rfl
abbrev Gh:=Nat→Nat→Path→Nat
def Own (h:Hp) (B:Gh) (b:Nat):Prop:=∃ u s p n,nd h u s p=some n∧n.live∧B u s p=b
def Forb (X:Nat→Prop) (h:Hp) (B:Gh):Nat→Prop:=fun b=>Own h B b∨X b
def Hdr (w:World) (b:Nat) (r:Row) (off n:Nat) (v:Value):Prop:=
  (r.nn=false∧r.es=[]∧v = .slice none 0 0) ∨
  ((r.nn=true∨r.es≠[]) ∧ ∃ a cap arr t fr,w.heap[b]? = some (.cells arr t fr)∧arr.size=(off+cap) * r.sz∧n≤cap∧v = .slice (some a) n cap∧(cap≠0→a=⟨b,off * r.sz,none⟩))
def RC (N:Nat→Prop) (w:World) (b:Nat):C→Value→Prop
  | .d x,v=>RD w N x v∧v.oneCell'=true
  | .own sz nn es,v=>Hdr w b ⟨sz,nn,es⟩ 0 es.length v
  | .mp _,v=>v = .map (some b)
  | .bad,_=>True
def Rows (N:Nat→Prop) (w:World) (B:Path→Nat) (p:Path) (r:Row):Prop:=
  ∃ arr t fr,w.heap[B p]? = some (.cells arr t fr)∧(∀ i,i<arr.size→¬(fr.1≤i∧i<fr.2))∧(∀ cs ∈ r.es,cs.length=r.sz)∧r.es.length * r.sz≤arr.size ∧
    ∀ e o c,cellAt r.es e o=some c→∃ v,arr[e * r.sz+o]? = some v∧RC N w (B (p++[(e,o)])) c v
def Ents (N:Nat→Prop) (w:World):List (D × D)→List MapEntry→Prop
  | [],[]=>True
  | (k,x)::r,e::es=>RD w N k e.key∧RD w N x e.val∧Ents N w r es
  | _,_=>False
def NodeOk (N:Nat→Prop) (w:World) (B:Path→Nat) (p:Path):Nd→Prop
  | .row r=>Rows N w B p r
  | .map es=>∃ ents clock,w.heap[B p]? = some (.map ents clock)∧Ents N w es ents.toList
structure HRel (X:Nat→Prop) (h:Hp) (B:Gh) (w:World):Prop where
  node:∀ u s p n,nd h u s p=some n→n.live→NodeOk (Forb X h B) w (B u s) p n
  inj:∀ u s p n u' s' p' n',nd h u s p=some n→n.live→nd h u' s' p'=some n'→n'.live→B u s p=B u' s' p'→u=u'∧s=s'∧p=p'
  ext:∀ b,X b→b<w.heap.size
  apart:∀ b,Own h B b→¬X b
theorem HRel.lt {X:Nat→Prop} {h:Hp} {B:Gh} {w:World} (H:HRel X h B w) {b:Nat} (hb:Own h B b):b<w.heap.size:=by
  obtain ⟨u,s,p,n,h1,h2,rfl⟩:=hb
  have:=H.node u s p n h1 h2
  cases n with
  | row r=>
    obtain ⟨arr,t,fr,h3,_⟩:=this
    exact (Array.getElem?_eq_some_iff.1 h3).1
  | map es=>
    obtain ⟨ents,clock,h3,_⟩:=this
    exact (Array.getElem?_eq_some_iff.1 h3).1
theorem HRel.forb_lt {X:Nat→Prop} {h:Hp} {B:Gh} {w:World} (H:HRel X h B w) {b:Nat} (hb:Forb X h B b):b<w.heap.size:=by
  rcases hb with hb | hb
  · exact H.lt hb
  · exact H.ext b hb
def RV1 (X:Nat→Prop) (h:Hp) (B:Gh) (w:World):V→Value→Prop
  | .d x,v=>RD w (Forb X h B) x v
  | .ip cs o,v=>∃ b base,v = .pointer (some ⟨b,base+o,none⟩) ∧ ∀ j d,cs[j]? = some d→¬Forb X h B b ∧ ∃ x,w.cell? ⟨b,base+j,none⟩=some x∧x.oneCell'=true∧RD w (Forb X h B) d x
  | .ptr u s p e o,v=>∃ r,nd h u s p=some (.row r)∧e<r.es.length∧v = .pointer (some ⟨B u s p,e * r.sz+o,none⟩)
  | .msl u s p off n,v=>∃ r,nd h u s p=some (.row r)∧off+n≤r.es.length∧Hdr w (B u s p) r off n v
  | .mp u s none,v=>∃ es,nd h u s []=some (.map es)∧v = .map (some (B u s []))
  | .mp u s (some (p,e,o)),v=>∃ es,nd h u s (p++[(e,o)])=some (.map es)∧v = .map (some (B u s (p++[(e,o)])))
  | .z nn,v=>∃ a,v = .slice a 0 0∧a.isSome=nn
  | .fn _ _,_=>False
  | .agg _,_=>False
  | .tup _,_=>False
  | .bad,_=>True
  | .und,v=>v=undef
def RVs (X:Nat→Prop) (h:Hp) (B:Gh) (w:World) (vs:List V) (arr:Array Value):Prop:=
  arr.size=vs.length ∧ ∀ (i:Nat) (v:V) (x:Value),vs[i]? = some v→arr[i]? = some x→RV1 X h B w v x
def RV (X:Nat→Prop) (h:Hp) (B:Gh) (w:World):V→Value→Prop
  | .fn f vs,x=>∃ arr,x = .func (.func f) #[] arr∧RVs X h B w vs arr
  | .agg vs,x=>∃ arr:Array Value,x = .agg arr∧RVs X h B w vs arr ∧ ∀ (i:Nat) (v:Value),arr[i]? = some v→v.oneCell'=true
  | .tup vs,x=>∃ arr,x = .tuple arr∧RVs X h B w vs arr
  | v,x=>RV1 X h B w v x
theorem RV.of1 {X:Nat→Prop} {h:Hp} {B:Gh} {w:World} {v:V} {x:Value} (H:RV1 X h B w v x):RV X h B w v x:=by
  cases v <;> first | exact H | exact absurd H (by simp [RV1])
theorem RV.to1 {X:Nat→Prop} {h:Hp} {B:Gh} {w:World} {v:V} {x:Value} (H:RV X h B w v x) (ha:v.atom=true):RV1 X h B w v x:=by
  cases v <;> first | exact H | simp [V.atom] at ha
structure Stp (O:Nat→Prop) (w:World) (O':Nat→Prop) (w':World):Prop where
  os:w'.os=w.os
  tape:w'.tape=w.tape
  output:w'.output=w.output
  size:w.heap.size≤w'.heap.size
  keep:∀ b,b<w.heap.size→¬O b→w'.heap[b]? = w.heap[b]?
  own:∀ b,b<w.heap.size→O' b→O b
theorem Stp.refl (O:Nat→Prop) (w:World):Stp O w O w:=⟨rfl,rfl,rfl,Nat.le_refl _,fun _ _ _=>rfl,fun _ _ h=>h⟩
theorem Stp.trans {O O' O'':Nat→Prop} {w w' w'':World} (h:Stp O w O' w') (k:Stp O' w' O'' w''):Stp O w O'' w'':=
  ⟨k.os.trans h.os,k.tape.trans h.tape,k.output.trans h.output,Nat.le_trans h.size k.size,
    fun b hb hn=>(k.keep b (Nat.lt_of_lt_of_le hb h.size) (fun h'=>hn (h.own b hb h'))).trans (h.keep b hb hn),
    fun b hb h''=>h.own b hb (k.own b (Nat.lt_of_lt_of_le hb h.size) h'')⟩
theorem cell_lt {w:World} {a:Addr} {v:Value} (h:w.cell? a=some v):a.block<w.heap.size:=by
  unfold World.cell? at h
  cases hh:w.heap[a.block]? with
  | none=>simp [hh] at h
  | some o=>exact (Array.getElem?_eq_some_iff.1 hh).1
theorem cell_of_heap {w w':World} {a:Addr} (h:w'.heap[a.block]? = w.heap[a.block]?):w'.cell? a=w.cell? a:=by simp [World.cell?,h]
theorem Stp.cell {X:Nat→Prop} {O O':Nat→Prop} {w w':World} (S:Stp O w O' w') {a:Addr} {v:Value} (hn:¬(O a.block∨X a.block)) (h:w.cell? a=some v):w'.cell? a=some v:=
  (cell_of_heap (S.keep _ (cell_lt h) (fun ho=>hn (.inl ho)))).trans h
theorem Stp.forb {X:Nat→Prop} {O O':Nat→Prop} {w w':World} (S:Stp O w O' w') {b:Nat} (hb:b<w.heap.size) (hn:¬(O b∨X b)):¬(O' b∨X b):=by
  rintro (h | h)
  · exact hn (.inl (S.own b hb h))
  · exact hn (.inr h)
theorem Stp.rd {X:Nat→Prop} {h h':Hp} {B B':Gh} {w w':World} (S:Stp (Own h B) w (Own h' B') w') {d:D} {v:Value} (H:RD w (Forb X h B) d v):RD w' (Forb X h' B') d v:=
  H.mono (fun _ _ hn hc=>S.cell hn hc) (fun _ _ hn hc=>S.forb (cell_lt hc) hn)
structure Tr (X:Nat→Prop) (h:Hp) (B:Gh) (w:World) (ks:List Kill) (h':Hp) (B':Gh) (w':World):Prop where
  hr:HRel X h' B' w'
  rv:∀ v x,RV1 X h B w v x→RV1 X h' B' w' (v.kills ks) x
  stp:Stp (Own h B) w (Own h' B') w'
theorem kill1_atom (k:Kill) (v:V) (h:v.atom=true):v.kill k=v.kill1 k:=by cases v <;> first | rfl | simp [V.atom] at h
theorem kill1_atom' (k:Kill) (v:V) (h:v.atom=true):(v.kill k).atom=true:=by
  rw [kill1_atom k v h]
  cases v with
  | ptr u s p e o=>simp only [V.kill1];split <;> rfl
  | msl u s p off n=>simp only [V.kill1];split <;> rfl
  | mp u s a=>rcases a with _ | ⟨p,e,o⟩ <;> simp only [V.kill1] <;> split <;> rfl
  | fn f vs=>simp [V.atom] at h
  | agg vs=>simp [V.atom] at h
  | tup vs=>simp [V.atom] at h
  | _=>rfl
theorem kills_atom (ks:List Kill):∀ (v:V),v.atom=true→(v.kills ks).atom=true:=by
  induction ks with
  | nil=>intro v h;exact h
  | cons k ks ih=>intro v h;exact ih _ (kill1_atom' k v h)
theorem RV1.atom {X:Nat→Prop} {h:Hp} {B:Gh} {w:World} {v:V} {x:Value} (H:RV1 X h B w v x):v.atom=true:=by
  cases v <;> first | rfl | exact absurd H (by simp [RV1])
theorem RV1.kill {X:Nat→Prop} {h:Hp} {B:Gh} {w:World} {v:V} {x:Value} (k:Kill) (H:RV1 X h B w v x):RV1 X h B w (v.kill k) x:=by
  rw [kill1_atom k v H.atom]
  cases v with
  | ptr u s p e o=>simp only [V.kill1];split <;> first | exact H | trivial
  | msl u s p off n=>simp only [V.kill1];split <;> first | exact H | trivial
  | mp u s a=>rcases a with _ | ⟨p,e,o⟩ <;> simp only [V.kill1] <;> split <;> first | exact H | trivial
  | fn f vs=>exact absurd H (by simp [RV1])
  | agg vs=>exact absurd H (by simp [RV1])
  | tup vs=>exact absurd H (by simp [RV1])
  | _=>exact H
theorem RV1.kills {X:Nat→Prop} {h:Hp} {B:Gh} {w:World} (ks:List Kill):∀ {v:V} {x:Value},RV1 X h B w v x→RV1 X h B w (v.kills ks) x:=by
  induction ks with
  | nil=>intro v x H;exact H
  | cons k ks ih=>intro v x H;exact ih (H.kill k)
theorem kills_append (v:V) (a b:List Kill):v.kills (a++b)=(v.kills a).kills b:=by simp [V.kills]
theorem Tr.refl {X:Nat→Prop} {h:Hp} {B:Gh} {w:World} (H:HRel X h B w):Tr X h B w [] h B w:=⟨H,fun _ _ h=>h, .refl _ _⟩
theorem Tr.trans {X:Nat→Prop} {h h' h'':Hp} {B B' B'':Gh} {w w' w'':World} {ks ks':List Kill} (a:Tr X h B w ks h' B' w') (b:Tr X h' B' w' ks' h'' B'' w''):Tr X h B w (ks++ks') h'' B'' w'':=
  ⟨b.hr,fun v x H=>by rw [kills_append];exact b.rv _ _ (a.rv v x H),a.stp.trans b.stp⟩
theorem Tr.more {X:Nat→Prop} {h h':Hp} {B B':Gh} {w w':World} {ks:List Kill} (a:Tr X h B w ks h' B' w') (ks':List Kill):Tr X h B w (ks++ks') h' B' w':=
  ⟨a.hr,fun v x H=>by rw [kills_append];exact (a.rv v x H).kills ks',a.stp⟩
theorem kills_fn (ks:List Kill):∀ (f:FuncId) (vs:List V),(V.fn f vs).kills ks = .fn f (vs.map fun v=>ks.foldl (fun v k=>v.kill1 k) v):=by
  induction ks with
  | nil=>intro f vs;simp [V.kills]
  | cons k ks ih=>intro f vs;show (V.fn f (vs.map (V.kill1 k))).kills ks=_;rw [ih];simp
theorem kills_agg (ks:List Kill):∀ (vs:List V),(V.agg vs).kills ks = .agg (vs.map fun v=>ks.foldl (fun v k=>v.kill1 k) v):=by
  induction ks with
  | nil=>intro vs;simp [V.kills]
  | cons k ks ih=>intro vs;show (V.agg (vs.map (V.kill1 k))).kills ks=_;rw [ih];simp
theorem kills_tup (ks:List Kill):∀ (vs:List V),(V.tup vs).kills ks = .tup (vs.map fun v=>ks.foldl (fun v k=>v.kill1 k) v):=by
  induction ks with
  | nil=>intro vs;simp [V.kills]
  | cons k ks ih=>intro vs;show (V.tup (vs.map (V.kill1 k))).kills ks=_;rw [ih];simp
theorem kills_eq1 (ks:List Kill):∀ (v:V),v.atom=true→v.kills ks=ks.foldl (fun v k=>v.kill1 k) v:=by
  induction ks with
  | nil=>intro v h;rfl
  | cons k ks ih=>
    intro v h
    show (v.kill k).kills ks=ks.foldl (fun v k=>v.kill1 k) (v.kill1 k)
    rw [←kill1_atom k v h]
    exact ih _ (kill1_atom' k v h)
theorem Tr.rvs {X:Nat→Prop} {h h':Hp} {B B':Gh} {w w':World} {ks:List Kill} (T:Tr X h B w ks h' B' w') {vs:List V} {arr:Array Value} (H:RVs X h B w vs arr) :
    RVs X h' B' w' (vs.map fun v=>ks.foldl (fun v k=>v.kill1 k) v) arr:=by
  refine ⟨by simp [H.1],fun i v x hv hx=>?_⟩
  simp only [List.getElem?_map] at hv
  cases hi:vs[i]? with
  | none=>simp [hi] at hv
  | some v0=>
    simp only [hi,Option.map_some,Option.some.injEq] at hv
    have h1:=H.2 i v0 x hi hx
    have:=T.rv v0 x h1
    rw [kills_eq1 ks v0 h1.atom] at this
    rwa [←hv]
theorem Tr.rvv {X:Nat→Prop} {h h':Hp} {B B':Gh} {w w':World} {ks:List Kill} (T:Tr X h B w ks h' B' w') {v:V} {x:Value} (H:RV X h B w v x):RV X h' B' w' (v.kills ks) x:=by
  cases v with
  | fn f vs=>obtain ⟨arr,rfl,h1⟩:=H;rw [kills_fn];exact ⟨arr,rfl,T.rvs h1⟩
  | agg vs=>obtain ⟨arr,rfl,h1,h2⟩:=H;rw [kills_agg];exact ⟨arr,rfl,T.rvs h1,h2⟩
  | tup vs=>obtain ⟨arr,rfl,h1⟩:=H;rw [kills_tup];exact ⟨arr,rfl,T.rvs h1⟩
  | _=>exact .of1 (T.rv _ _ H)
end Go.Proofs.YtgmphfmoonbfpaaMv

namespace Go.Proofs.YtgmphfmoonbfpaaMv
open Go
def Keep1 (w w':World) (b:Nat):Prop:=∀ (arr:Array Value) (t:TypeId) (fr:Nat × Nat),w.heap[b]? = some (Obj.cells arr t fr)→∃ arr':Array Value,w'.heap[b]? = some (Obj.cells arr' t fr)∧arr'.size=arr.size
def Keeps (w w':World):Prop:=∀ b,Keep1 w w' b
theorem Keeps.of_same {w w':World} (h:∀ b,b<w.heap.size→w'.heap[b]? = w.heap[b]?):Keeps w w':=
  fun b arr _ _ hb=>⟨arr,(h b (Array.getElem?_eq_some_iff.1 hb).1).trans hb,rfl⟩
theorem Keeps.refl (w:World):Keeps w w:=.of_same fun _ _=>rfl
theorem Hdr.keeps {w w':World} {b:Nat} {r:Row} {off n:Nat} {v:Value} (h:Hdr w b r off n v) (k:(r.nn=true∨r.es≠[])→Keep1 w w' b):Hdr w' b r off n v:=by
  rcases h with h | ⟨hl,a,cap,arr,t,fr,h1,h2,h3,h4,h5⟩
  · exact .inl h
  · obtain ⟨arr',h1',h2'⟩:=k hl arr t fr h1
    exact .inr ⟨hl,a,cap,arr',t,fr,h1',by rw [h2'];exact h2,h3,h4,h5⟩
theorem es_nil_iff {a b:Row} (h:a.es.length=b.es.length):a.es=[] ↔ b.es=[]:=by
  rw [←List.length_eq_zero_iff,←List.length_eq_zero_iff,h]
theorem Hdr.sim {w:World} {b:Nat} {r r':Row} {off n:Nat} {v:Value} (h:Hdr w b r off n v) (hsz:r.sz=r'.sz) (hnn:r.nn=r'.nn) (hl:r.es.length=r'.es.length):Hdr w b r' off n v:=by
  have he:=es_nil_iff hl
  rcases h with ⟨h1,h2,h3⟩ | ⟨hl',h⟩
  · exact .inl ⟨hnn ▸ h1,he.1 h2,h3⟩
  · refine .inr ⟨?_, ?_⟩
    · rcases hl' with h' | h'
      · exact .inl (hnn ▸ h')
      · exact .inr (fun e=>h' (he.2 e))
    · rw [←hsz];exact h
theorem RC.move {N N':Nat→Prop} {w w':World} {b b':Nat} {c c':C} {v:Value} (hs:CSim c c') (h:RC N w b c v)
    (hd:∀ x v,RD w N x v→RD w' N' x v)
    (ho:∀ sz nn es,c = .own sz nn es→Hdr w b ⟨sz,nn,es⟩ 0 es.length v→Hdr w' b' ⟨sz,nn,es⟩ 0 es.length v)
    (hm:∀ es,c = .mp es→b'=b):RC N' w' b' c' v:=by
  rcases hs with rfl | ⟨sz,nn,es,es',rfl,rfl,hl⟩ | ⟨es,es',rfl,rfl⟩
  · cases c with
    | d x=>exact ⟨hd _ _ h.1,h.2⟩
    | own sz nn es=>exact ho _ _ _ rfl h
    | mp es=>have:=hm es rfl;subst this;exact h
    | bad=>trivial
  · have:=ho _ _ _ rfl h
    show Hdr _ _ _ _ _ _
    rw [←hl]
    exact this.sim rfl rfl hl
  · have:=hm es rfl;subst this;exact h
theorem Ents.mono {N N':Nat→Prop} {w w':World} (hd:∀ x v,RD w N x v→RD w' N' x v):∀ {es:List (D × D)} {l:List MapEntry},Ents N w es l→Ents N' w' es l
  | [],[],_=>trivial
  | (k,x)::r,e::es,h=>⟨hd _ _ h.1,hd _ _ h.2.1,Ents.mono hd h.2.2⟩
  | [],_::_,h=>h.elim
  | _::_,[],h=>h.elim
theorem NodeOk.move {N N':Nat→Prop} {w w':World} {B B':Path→Nat} {p p':Path} {n n':Nd} (h:NodeOk N w B p n) (hs:NSim (some n) (some n'))
    (hb:w'.heap[B' p']? = w.heap[B p]?)
    (hd:∀ x v,RD w N x v→RD w' N' x v)
    (ho:∀ r e o sz nn es v,n = .row r→cellAt r.es e o=some (.own sz nn es)→Hdr w (B (p++[(e,o)])) ⟨sz,nn,es⟩ 0 es.length v→Hdr w' (B' (p'++[(e,o)])) ⟨sz,nn,es⟩ 0 es.length v)
    (hm:∀ r e o es,n = .row r→cellAt r.es e o=some (.mp es)→B' (p'++[(e,o)])=B (p++[(e,o)])):NodeOk N' w' B' p' n':=by
  cases hs with
  | map es=>
    obtain ⟨ents,clock,h1,h2⟩:=h
    exact ⟨ents,clock,hb.trans h1,h2.mono hd⟩
  | row hr=>
    rename_i a b
    obtain ⟨arr,t,fr,h1,h2,h3,h4,h5⟩:=h
    refine ⟨arr,t,fr,hb.trans h1,h2, ?_, ?_, ?_⟩
    · rw [←hr.sz];exact hr.lens h3
    · rw [←hr.sz,←hr.length];exact h4
    · intro e o c hc
      obtain ⟨c0,hc0,hcs⟩:=hr.cell e o c hc
      obtain ⟨v,hv,hrc⟩:=h5 e o c0 hc0
      rw [←hr.sz]
      refine ⟨v,hv,hrc.move hcs hd (fun sz nn es he=>?_) (fun es he=>?_)⟩
      · subst he;exact ho a e o sz nn es v rfl hc0
      · subst he;exact hm a e o es rfl hc0
theorem kills_ptr (ks:List Kill) (u s:Nat) (p:Path) (e o:Nat):((V.ptr u s p e o).kills ks = .ptr u s p e o ∧ ∀ k ∈ ks,k.hits u s p=false)∨(V.ptr u s p e o).kills ks = .bad:=by
  induction ks with
  | nil=>exact .inl ⟨rfl,fun _ h=>by cases h⟩
  | cons k ks ih=>
    have hb:(V.bad).kills ks = .bad:=by clear ih;induction ks with
      | nil=>rfl
      | cons k ks ih=>exact ih
    by_cases hk:k.hits u s p=true
    · right;show ((V.ptr u s p e o).kill k).kills ks = .bad;simp [V.kill,V.kill1,hk,hb]
    · have hk':k.hits u s p=false:=by simpa using hk
      have:(V.ptr u s p e o).kills (k::ks)=(V.ptr u s p e o).kills ks:=by show ((V.ptr u s p e o).kill k).kills ks=_;simp [V.kill,V.kill1,hk']
      rw [this]
      rcases ih with ⟨h1,h2⟩ | h
      · exact .inl ⟨h1,fun k' hk2=>by cases hk2 with
          | head=>exact hk'
          | tail _ h=>exact h2 _ h⟩
      · exact .inr h
theorem kills_msl (ks:List Kill) (u s:Nat) (p:Path) (e o:Nat):((V.msl u s p e o).kills ks = .msl u s p e o ∧ ∀ k ∈ ks,k.hits u s p=false)∨(V.msl u s p e o).kills ks = .bad:=by
  induction ks with
  | nil=>exact .inl ⟨rfl,fun _ h=>by cases h⟩
  | cons k ks ih=>
    have hb:(V.bad).kills ks = .bad:=by clear ih;induction ks with
      | nil=>rfl
      | cons k ks ih=>exact ih
    by_cases hk:k.hits u s p=true
    · right;show ((V.msl u s p e o).kill k).kills ks = .bad;simp [V.kill,V.kill1,hk,hb]
    · have hk':k.hits u s p=false:=by simpa using hk
      have:(V.msl u s p e o).kills (k::ks)=(V.msl u s p e o).kills ks:=by show ((V.msl u s p e o).kill k).kills ks=_;simp [V.kill,V.kill1,hk']
      rw [this]
      rcases ih with ⟨h1,h2⟩ | h
      · exact .inl ⟨h1,fun k' hk2=>by cases hk2 with
          | head=>exact hk'
          | tail _ h=>exact h2 _ h⟩
      · exact .inr h
def mpKey:Option (Path × Nat × Nat)→Path
  | none=>[]
  | some (p,e,o)=>p++[(e,o)]
theorem kill1_mp (k:Kill) (u s:Nat) (a:Option (Path × Nat × Nat)):(V.mp u s a).kill1 k=if k.hits u s (mpKey a) then .bad else .mp u s a:=by
  rcases a with _ | ⟨p,e,o⟩ <;> rfl
theorem kills_mp (ks:List Kill) (u s:Nat) (a:Option (Path × Nat × Nat)):((V.mp u s a).kills ks = .mp u s a ∧ ∀ k ∈ ks,k.hits u s (mpKey a)=false)∨(V.mp u s a).kills ks = .bad:=by
  induction ks with
  | nil=>exact .inl ⟨rfl,fun _ h=>by cases h⟩
  | cons k ks ih=>
    have hb:(V.bad).kills ks = .bad:=by clear ih;induction ks with
      | nil=>rfl
      | cons k ks ih=>exact ih
    by_cases hk:k.hits u s (mpKey a)=true
    · right;show ((V.mp u s a).kill k).kills ks = .bad;rw [kill1_atom _ _ rfl,kill1_mp,if_pos hk,hb]
    · have hk':k.hits u s (mpKey a)=false:=by simpa using hk
      have:(V.mp u s a).kills (k::ks)=(V.mp u s a).kills ks:=by show ((V.mp u s a).kill k).kills ks=_;rw [kill1_atom _ _ rfl,kill1_mp,hk'];simp
      rw [this]
      rcases ih with ⟨h1,h2⟩ | h
      · exact .inl ⟨h1,fun k' hk2=>by cases hk2 with
          | head=>exact hk'
          | tail _ h=>exact h2 _ h⟩
      · exact .inr h
theorem RV1.mp_iff {X:Nat→Prop} {h:Hp} {B:Gh} {w:World} {u s:Nat} {a:Option (Path × Nat × Nat)} {v:Value} :
    RV1 X h B w (.mp u s a) v ↔ ∃ es,nd h u s (mpKey a)=some (.map es)∧v = .map (some (B u s (mpKey a))):=by
  rcases a with _ | ⟨p,e,o⟩ <;> rfl
theorem kills_self (ks:List Kill) {v:V} (h:v.root=none) (ha:v.atom=true):v.kills ks=v:=by
  induction ks with
  | nil=>rfl
  | cons k ks ih=>
    have:v.kill k=v:=by
      rw [kill1_atom k v ha]
      cases v <;> first | rfl | (simp [V.atom] at ha;done) | (simp [V.root] at h;done)
    show (v.kill k).kills ks=v
    rw [this];exact ih
inductive NShp:Nd→Nd→Prop
  | map (es es'):NShp (.map es) (.map es')
  | row {a b:Row} (h:Shp a b):NShp (.row a) (.row b)
theorem NShp.of_sim {n n':Nd} (h:NSim (some n) (some n')):NShp n n':=by
  cases h with
  | map es=>exact .map es es
  | row h=>exact .row ⟨h.sz,h.nn,h.length⟩
theorem NShp.rfl' {n:Nd}:NShp n n:=.of_sim .rfl'
theorem rv_move {X:Nat→Prop} {h h':Hp} {B B':Gh} {w w':World} {ks:List Kill}
    (stp:Stp (Own h B) w (Own h' B') w') (kp:Keeps w w')
    (ref:∀ u s p n,(∀ k ∈ ks,k.hits u s p=false)→nd h u s p=some n→∃ n',nd h' u s p=some n'∧NShp n n'∧B' u s p=B u s p) :
    ∀ v x,RV1 X h B w v x→RV1 X h' B' w' (v.kills ks) x:=by
  intro v x H
  cases v with
  | d d=>rw [kills_self ks rfl rfl];exact stp.rd H
  | ip cs o=>
    rw [kills_self ks rfl rfl]
    obtain ⟨b,base,rfl,h1⟩:=H
    refine ⟨b,base,rfl,fun j d hj=>?_⟩
    obtain ⟨hn,y,h2,h3,h4⟩:=h1 j d hj
    exact ⟨stp.forb (cell_lt (a:=⟨b,base+j,none⟩) h2) hn,y,stp.cell (a:=⟨b,base+j,none⟩) hn h2,h3,stp.rd h4⟩
  | ptr u s p e o=>
    rcases kills_ptr ks u s p e o with ⟨hk,hno⟩ | hk <;> rw [hk]
    · obtain ⟨r,h1,h2,rfl⟩:=H
      obtain ⟨n',h1',hs,hb⟩:=ref u s p _ hno h1
      cases hs with
      | row hr=>exact ⟨_,h1',by rw [←hr.len];exact h2,by rw [hb,hr.sz]⟩
    · trivial
  | msl u s p off n=>
    rcases kills_msl ks u s p off n with ⟨hk,hno⟩ | hk <;> rw [hk]
    · obtain ⟨r,h1,h2,h3⟩:=H
      obtain ⟨n',h1',hs,hb⟩:=ref u s p _ hno h1
      cases hs with
      | row hr=>
        refine ⟨_,h1',by rw [←hr.len];exact h2, ?_⟩
        rw [hb]
        exact (h3.keeps fun _=>kp _).sim hr.sz hr.nn hr.len
    · trivial
  | mp u s a=>
    rcases kills_mp ks u s a with ⟨hk,hno⟩ | hk <;> rw [hk]
    · obtain ⟨es,h1,rfl⟩:=RV1.mp_iff.1 H
      obtain ⟨n',h1',hs,hb⟩:=ref u s _ _ hno h1
      cases hs with
      | map es es'=>exact RV1.mp_iff.2 ⟨es',h1',by rw [hb]⟩
    · trivial
  | z nn=>rw [kills_self ks rfl rfl];exact H
  | fn f vs=>exact absurd H (by simp [RV1])
  | agg vs=>exact absurd H (by simp [RV1])
  | tup vs=>exact absurd H (by simp [RV1])
  | bad=>rw [kills_self ks rfl rfl];trivial
  | und=>rw [kills_self ks rfl rfl];exact H
theorem tr_world {X:Nat→Prop} {h:Hp} {B:Gh} {w w':World} (H:HRel X h B w) (hos:w'.os=w.os) (ht:w'.tape=w.tape) (ho:w'.output=w.output) (hsz:w.heap.size≤w'.heap.size)
    (hk:∀ b,b<w.heap.size→w'.heap[b]? = w.heap[b]?):Tr X h B w [] h B w':=by
  have stp:Stp (Own h B) w (Own h B) w':=⟨hos,ht,ho,hsz,fun b hb _=>hk b hb,fun _ _ h=>h⟩
  have kp:Keeps w w':=.of_same hk
  refine ⟨⟨fun u s p n h1 h2=>?_,H.inj,fun b hb=>Nat.lt_of_lt_of_le (H.ext b hb) hsz,H.apart⟩,rv_move stp kp (fun u s p n _ hn=>⟨n,hn,NShp.rfl',rfl⟩),stp⟩
  exact (H.node u s p n h1 h2).move .rfl' (hk _ (H.lt ⟨u,s,p,n,h1,h2,rfl⟩)) (fun x v=>stp.rd) (fun r e o sz nn es v _ _ hh=>hh.keeps fun _=>kp _) (fun _ _ _ _ _ _=>rfl)
theorem own_sub {h h':Hp} {B B':Gh} (hs:∀ u s p n,nd h' u s p=some n→n.live→∃ n0,nd h u s p=some n0∧n0.live∧B u s p=B' u s p) {b:Nat} (hb:Own h' B' b):Own h B b:=by
  obtain ⟨u,s,p,n,h1,h2,rfl⟩:=hb
  obtain ⟨n0,h3,h4,h5⟩:=hs u s p n h1 h2
  exact ⟨u,s,p,n0,h3,h4,h5⟩
theorem tr_del {X:Nat→Prop} {h:Hp} {B:Gh} {w:World} (H:HRel X h B w) (u s:Nat):Tr X h B w [.root u s] (hset h u s none) B w:=by
  have hnd:∀ u' s' p n,nd (hset h u s none) u' s' p=some n→¬(u'=u∧s'=s)∧nd h u' s' p=some n:=by
    intro u' s' p n hn
    by_cases hh:u'=u∧s'=s
    · obtain ⟨rfl,rfl⟩:=hh;simp [nd_hset_same] at hn
    · rw [nd_hset_ne hh] at hn;exact ⟨hh,hn⟩
  have hsub:∀ {b},Own (hset h u s none) B b→Own h B b:=fun hb=>own_sub (fun u' s' p n h1 h2=>⟨n,(hnd u' s' p n h1).2,h2,rfl⟩) hb
  have stp:Stp (Own h B) w (Own (hset h u s none) B) w:=⟨rfl,rfl,rfl,Nat.le_refl _,fun _ _ _=>rfl,fun _ _ hb=>hsub hb⟩
  refine ⟨⟨fun u' s' p n h1 h2=>?_,fun u1 s1 p1 n1 u2 s2 p2 n2 a1 a2 b1 b2 hb=>H.inj _ _ _ _ _ _ _ _ (hnd _ _ _ _ a1).2 a2 (hnd _ _ _ _ b1).2 b2 hb,H.ext,fun b hb=>H.apart b (hsub hb)⟩,
    rv_move stp (.refl w) (fun u' s' p n hk hn=>?_),stp⟩
  · exact (H.node u' s' p n (hnd _ _ _ _ h1).2 h2).move .rfl' rfl (fun x v=>stp.rd) (fun r e o sz nn es v _ _ hh=>hh) (fun _ _ _ _ _ _=>rfl)
  · have:=hk (.root u s) (by simp)
    have hh:¬(u'=u∧s'=s):=by
      rintro ⟨rfl,rfl⟩
      simp [Kill.hits] at this
    exact ⟨n,by rw [nd_hset_ne hh];exact hn,NShp.rfl',rfl⟩
def C.flat:C→Prop
  | .d _=>True
  | .bad=>True
  | _=>False
def C.plain:C→Prop
  | .d _=>True
  | .bad=>True
  | .own _ nn es=>nn=false∧es=[]
  | _=>False
theorem ndGo_plain {r:Row} (hf:∀ e o c,cellAt r.es e o=some c→c.plain):∀ {q:Path} {n:Nd},ndGo r q=some n→n.live→q=[]∧n = .row r
  | [],n,h,_=>by simp [ndGo] at h;exact ⟨rfl,h.symm⟩
  | (e,o)::q,n,h,hl=>by
    simp only [ndGo] at h
    cases hc:cellAt r.es e o with
    | none=>simp [hc] at h
    | some c=>
      have:=hf e o c hc
      cases c with
      | d x=>simp [hc] at h
      | bad=>simp [hc] at h
      | mp es=>exact this.elim
      | own sz nn es=>
        obtain ⟨rfl,rfl⟩:=this
        simp only [hc] at h
        cases q with
        | nil=>simp [ndGo] at h;subst h;simp [Nd.live] at hl
        | cons x q=>obtain ⟨e1,o1⟩:=x;simp [ndGo,cellAt] at h
def gset (B:Gh) (u s:Nat) (p:Path) (b:Nat):Gh:=fun u' s' p'=>if u'=u∧s'=s∧p'=p then b else B u' s' p'
theorem gset_same (B:Gh) (u s:Nat) (p:Path) (b:Nat):gset B u s p b u s p=b:=by simp [gset]
theorem gset_ne (B:Gh) (u s:Nat) (p:Path) (b:Nat) {u' s':Nat} {p':Path} (h:¬(u'=u∧s'=s∧p'=p)):gset B u s p b u' s' p'=B u' s' p':=by simp [gset,h]
theorem tr_new {X:Nat→Prop} {h:Hp} {B:Gh} {w w':World} (H:HRel X h B w) (u s:Nat) (ob:Ob) (n0:Nd) (b:Nat)
    (hob:∀ q n,ob.nd? q=some n→n.live→q=[]∧n=n0)
    (hos:w'.os=w.os) (ht:w'.tape=w.tape) (ho:w'.output=w.output) (hsz:w.heap.size≤w'.heap.size)
    (hk:∀ b,b<w.heap.size→w'.heap[b]? = w.heap[b]?) (hb:w.heap.size≤b)
    (hn:n0.live→∀ N',(∀ x v,RD w (Forb X h B) x v→RD w' N' x v)→NodeOk N' w' (gset B u s [] b u s) [] n0) :
    Tr X h B w [.root u s] (hset h u s (some ob)) (gset B u s [] b) w':=by
  have hnd:∀ u' s' p n,nd (hset h u s (some ob)) u' s' p=some n→n.live→(u'=u∧s'=s∧p=[]∧n=n0)∨(¬(u'=u∧s'=s)∧nd h u' s' p=some n):=by
    intro u' s' p n hn hlv
    by_cases hh:u'=u∧s'=s
    · obtain ⟨rfl,rfl⟩:=hh
      rw [nd_hset_same] at hn
      obtain ⟨h1,h2⟩:=hob p n (by simpa using hn) hlv
      exact .inl ⟨rfl,rfl,h1,h2⟩
    · rw [nd_hset_ne hh] at hn;exact .inr ⟨hh,hn⟩
  have hB:∀ u' s' p,¬(u'=u∧s'=s)→gset B u s [] b u' s' p=B u' s' p:=fun u' s' p hh=>gset_ne _ _ _ _ _ (fun h=>hh ⟨h.1,h.2.1⟩)
  have hown:∀ {b'},Own (hset h u s (some ob)) (gset B u s [] b) b'→b'=b∨Own h B b':=by
    rintro b' ⟨u',s',p,n,h1,h2,rfl⟩
    rcases hnd _ _ _ _ h1 h2 with ⟨rfl,rfl,rfl,rfl⟩ | ⟨hh,h3⟩
    · left;exact gset_same ..
    · right;exact ⟨u',s',p,n,h3,h2,(hB _ _ _ hh).symm⟩
  have stp:Stp (Own h B) w (Own (hset h u s (some ob)) (gset B u s [] b)) w':=
    ⟨hos,ht,ho,hsz,fun b' hb' _=>hk b' hb',fun b' hb' h1=>by
      rcases hown h1 with rfl | h2
      · omega
      · exact h2⟩
  have kp:Keeps w w':=.of_same hk
  refine ⟨⟨fun u' s' p n h1 h2=>?_,fun u1 s1 p1 n1 u2 s2 p2 n2 a1 a2 b1 b2 hbb=>?_,fun b hb=>Nat.lt_of_lt_of_le (H.ext b hb) hsz,fun b' hb'=>?_⟩,
    rv_move stp kp (fun u' s' p n hk hn=>?_),stp⟩
  · rcases hnd _ _ _ _ h1 h2 with ⟨rfl,rfl,rfl,rfl⟩ | ⟨hh,h3⟩
    · exact hn h2 _ (fun x v=>stp.rd)
    · refine (H.node u' s' p n h3 h2).move .rfl' ?_ (fun x v=>stp.rd) (fun r e o sz nn es v _ _ hx=>?_) (fun r e o es _ _=>hB _ _ _ hh)
      · rw [hB _ _ _ hh];exact hk _ (H.lt ⟨u',s',p,n,h3,h2,rfl⟩)
      · rw [hB _ _ _ hh];exact hx.keeps fun _=>kp _
  · rcases hnd _ _ _ _ a1 a2 with ⟨rfl,rfl,rfl,rfl⟩ | ⟨hh,h3⟩ <;> rcases hnd _ _ _ _ b1 b2 with ⟨rfl,rfl,rfl,rfl⟩ | ⟨hh',h3'⟩
    · exact ⟨rfl,rfl,rfl⟩
    · rw [gset_same,hB _ _ _ hh'] at hbb
      have:=H.lt ⟨u2,s2,p2,n2,h3',b2,rfl⟩
      omega
    · rw [gset_same,hB _ _ _ hh] at hbb
      have:=H.lt ⟨u1,s1,p1,n1,h3,a2,rfl⟩
      omega
    · rw [hB _ _ _ hh,hB _ _ _ hh'] at hbb
      exact H.inj _ _ _ _ _ _ _ _ h3 a2 h3' b2 hbb
  · rcases hown hb' with rfl | h2
    · intro hx;have:=H.ext _ hx;omega
    · exact H.apart b' h2
  · have:=hk (.root u s) (by simp)
    have hh:¬(u'=u∧s'=s):=by
      rintro ⟨rfl,rfl⟩
      simp [Kill.hits] at this
    exact ⟨n,by rw [nd_hset_ne hh];exact hn,NShp.rfl',hB _ _ _ hh⟩
end Go.Proofs.YtgmphfmoonbfpaaMv

namespace Go.Proofs.YtgmphfmoonbfpaaMv
open Go
theorem ndGo_cons_flat {r:Row} {e o:Nat} {q:Path} {c:C} (h:cellAt r.es e o=some c) (hf:c.flat):ndGo r ((e,o)::q)=none:=by
  cases c <;> simp [ndGo,h,C.flat] at hf ⊢
theorem ndGo_cons_same {r r1:Row} {e o:Nat} {q:Path} (h:cellAt r.es e o=cellAt r1.es e o):ndGo r ((e,o)::q)=ndGo r1 ((e,o)::q):=by
  simp [ndGo,h]
theorem mul_lt_of {e n sz o:Nat} (he:e<n) (ho:o<sz):e * sz+o<n * sz:=by
  have:(e+1) * sz≤n * sz:=Nat.mul_le_mul_right sz he
  rw [Nat.add_mul,Nat.one_mul] at this
  omega
theorem cellAt_lt {r:Row} {e o:Nat} {c:C} (hl:∀ cs ∈ r.es,cs.length=r.sz) (h:cellAt r.es e o=some c):e<r.es.length∧o<r.sz:=by
  obtain ⟨cs,h1,h2⟩:=cellAt_some h
  have h3:=(List.getElem?_eq_some_iff.1 h1).1
  have h4:=(List.getElem?_eq_some_iff.1 h2).1
  have:=hl cs (List.mem_of_getElem? h1)
  exact ⟨h3,by omega⟩
theorem tr_set {X:Nat→Prop} {h:Hp} {B:Gh} {w w':World} {ks:List Kill} (H:HRel X h B w) {u s:Nat} {p:Path} {ob:Ob} {r r1:Row}
    (ho:h u s=some ob) (hr:ob.row? p=some r) (hs:Shp r r1) (hlive:r.es≠[]) (lens:∀ cs ∈ r1.es,cs.length=r1.sz)
    (hcell:∀ e o c,cellAt r1.es e o=some c→cellAt r.es e o=some c∨c.flat)
    (hks:∀ e o c,cellAt r.es e o=some c→¬c.flat→cellAt r1.es e o=some c ∨ ∀ q,∃ k ∈ ks,k.hits u s (p++(e,o)::q)=true)
    (hos:w'.os=w.os) (ht:w'.tape=w.tape) (hout:w'.output=w.output) (hsz:w'.heap.size=w.heap.size)
    (hk:∀ b,b≠B u s p→w'.heap[b]? = w.heap[b]?)
    (hb:∀ (arr:Array Value) (t:TypeId) (fr:Nat × Nat),w.heap[B u s p]? = some (Obj.cells arr t fr)→(∀ i,i<arr.size→¬(fr.1≤i∧i<fr.2)) →
      ∃ arr':Array Value,w'.heap[B u s p]? = some (Obj.cells arr' t fr)∧arr'.size=arr.size ∧
        ∀ e o c,cellAt r1.es e o=some c→(cellAt r.es e o=some c∧arr'[e * r.sz+o]? = arr[e * r.sz+o]?)∨c = .bad ∨ ∃ x v,c = .d x∧arr'[e * r.sz+o]? = some v∧v.oneCell'=true∧((∀ x v,RD w (Forb X h B) x v→RD w' (Forb X (hset h u s (some (ob.setRow p r1))) B) x v)→RD w' (Forb X (hset h u s (some (ob.setRow p r1))) B) x v)) :
    Tr X h B w ks (hset h u s (some (ob.setRow p r1))) B w':=by
  have hnr:nd h u s p=some (.row r):=nd_of_row? ho hr
  have hlr:(Nd.row r).live:=.inr hlive
  have hnd:∀ u' s' q n',nd (hset h u s (some (ob.setRow p r1))) u' s' q=some n' →
      (u'=u∧s'=s∧q=p∧n' = .row r1)∨(¬(u'=u∧s'=s∧q=p) ∧ ∃ n,nd h u' s' q=some n∧NSim (some n) (some n')):=by
    intro u' s' q n' hn
    by_cases hh:u'=u∧s'=s
    · obtain ⟨rfl,rfl⟩:=hh
      by_cases hq:p <+: q
      · obtain ⟨q',rfl⟩:=hq
        rw [nd_setRow_ext ho hr] at hn
        cases q' with
        | nil=>
          simp only [ndGo,Option.some.injEq] at hn
          exact .inl ⟨rfl,rfl,by simp,hn.symm⟩
        | cons x q'=>
          obtain ⟨e,o⟩:=x
          right
          refine ⟨by simp,n', ?_, .rfl'⟩
          rw [nd_ext ho hr,←hn]
          cases hc:cellAt r1.es e o with
          | none=>simp [ndGo,hc] at hn
          | some c=>
            rcases hcell e o c hc with h1 | h1
            · exact ndGo_cons_same (h1.trans hc.symm)
            · rw [ndGo_cons_flat hc h1] at hn;cases hn
      · right
        refine ⟨fun hh=>hq (by rw [hh.2.2];exact List.prefix_refl _), ?_⟩
        have:=nd_setRow_sim ho hr hs q hq
        rw [hn] at this
        cases hh:nd h u' s' q with
        | none=>rw [hh] at this;cases this
        | some n=>exact ⟨n,rfl,by rw [←hh];exact this⟩
    · rw [nd_hset_ne hh] at hn
      exact .inr ⟨fun h=>hh ⟨h.1,h.2.1⟩,n',hn, .rfl'⟩
  have hlv:∀ {n n':Nd},NSim (some n) (some n')→n'.live→n.live:=by
    intro n n' hs hl
    cases hs with
    | map es=>trivial
    | row hr=>exact hr.live.2 hl
  have hback:∀ u' s' q n',nd (hset h u s (some (ob.setRow p r1))) u' s' q=some n'→n'.live→∃ n0,nd h u' s' q=some n0∧n0.live:=by
    intro u' s' q n' h1 h2
    rcases hnd _ _ _ _ h1 with ⟨rfl,rfl,rfl,rfl⟩ | ⟨_,n,h3,h4⟩
    · exact ⟨_,hnr,hlr⟩
    · exact ⟨n,h3,hlv h4 h2⟩
  have hsub:∀ {b},Own (hset h u s (some (ob.setRow p r1))) B b→Own h B b:=fun hb=>own_sub (fun u' s' q n h1 h2=>let ⟨n0,a,b⟩:=hback u' s' q n h1 h2; ⟨n0,a,b,rfl⟩) hb
  obtain ⟨arr,t,fr,hw1,hw2,hw3,hw4,hw5⟩:=H.node u s p _ hnr hlr
  obtain ⟨arr',hw1',hsz',hcells⟩:=hb arr t fr hw1 hw2
  have hne:∀ b,¬Own h B b→b≠B u s p:=fun b hb hx=>hb ⟨u,s,p,_,hnr,hlr,hx.symm⟩
  have stp:Stp (Own h B) w (Own (hset h u s (some (ob.setRow p r1))) B) w':=
    ⟨hos,ht,hout,by omega,fun b hb hn=>hk b (hne b hn),fun _ _ hb=>hsub hb⟩
  have kp:Keeps w w':=by
    intro b arr0 t0 fr0 h0
    by_cases hbb:b=B u s p
    · subst hbb
      rw [hw1] at h0
      injection h0 with h0
      injection h0 with e1 e2 e3
      subst e1;subst e2;subst e3
      exact ⟨arr',hw1',hsz'⟩
    · exact ⟨arr0,(hk b hbb).trans h0,rfl⟩
  refine ⟨⟨fun u' s' q n' h1 h2=>?_,fun u1 s1 p1 n1 u2 s2 p2 n2 a1 a2 b1 b2 hbb=>?_,fun b hb=>by rw [hsz];exact H.ext b hb,fun b hb=>H.apart b (hsub hb)⟩,
    rv_move stp kp (fun u' s' q n hkk hn=>?_),stp⟩
  · rcases hnd _ _ _ _ h1 with ⟨rfl,rfl,rfl,rfl⟩ | ⟨hne',n,h3,h4⟩
    · refine ⟨arr',t,fr,hw1',fun i hi=>hw2 i (by omega),lens,by rw [hsz',←hs.sz,←hs.len];exact hw4,fun e o c hc=>?_⟩
      rw [←hs.sz]
      rcases hcells e o c hc with ⟨hc0,hv⟩ | rfl | ⟨x,v,rfl,hv,h1v,hrd⟩
      · obtain ⟨v,hv0,hrc⟩:=hw5 e o c hc0
        refine ⟨v,hv.trans hv0,hrc.move .rfl' (fun x v=>stp.rd) (fun sz nn es he hh=>hh.keeps fun _=>kp _) (fun _ _=>rfl)⟩
      · have hlt:=cellAt_lt lens hc
        have:e * r.sz+o<arr'.size:=by
          have:=mul_lt_of (e:=e) (n:=r.es.length) (o:=o) (sz:=r.sz) (by rw [hs.len];exact hlt.1) (by rw [hs.sz];exact hlt.2)
          omega
        exact ⟨_,Array.getElem?_eq_getElem this,trivial⟩
      · exact ⟨v,hv,hrd (fun x v=>stp.rd),h1v⟩
    · have hl:=hlv h4 h2
      have hbne:B u' s' q≠B u s p:=fun hx=>hne' (by
        obtain ⟨a,b,c⟩:=H.inj _ _ _ _ _ _ _ _ h3 hl hnr hlr hx
        exact ⟨a,b,c⟩)
      exact (H.node u' s' q n h3 hl).move h4 (hk _ hbne) (fun x v=>stp.rd) (fun r e o sz nn es v _ _ hh=>hh.keeps fun _=>kp _) (fun _ _ _ _ _ _=>rfl)
  · obtain ⟨m1,c1,d1⟩:=hback _ _ _ _ a1 a2
    obtain ⟨m2,c2,d2⟩:=hback _ _ _ _ b1 b2
    exact H.inj _ _ _ _ _ _ _ _ c1 d1 c2 d2 hbb
  · by_cases hh:u'=u∧s'=s
    · obtain ⟨rfl,rfl⟩:=hh
      by_cases hq:p <+: q
      · obtain ⟨q',rfl⟩:=hq
        rw [nd_ext ho hr] at hn
        rw [nd_setRow_ext ho hr]
        cases q' with
        | nil=>
          simp only [ndGo,Option.some.injEq] at hn
          subst hn
          exact ⟨.row r1,rfl, .row hs,rfl⟩
        | cons x q'=>
          obtain ⟨e,o⟩:=x
          cases hc:cellAt r.es e o with
          | none=>simp [ndGo,hc] at hn
          | some c=>
            by_cases hf:c.flat
            · rw [ndGo_cons_flat hc hf] at hn;cases hn
            · rcases hks e o c hc hf with h1 | h1
              · exact ⟨n,by rw [←hn];exact ndGo_cons_same (h1.trans hc.symm), .rfl',rfl⟩
              · obtain ⟨k,hk1,hk2⟩:=h1 q'
                rw [hkk k hk1] at hk2;cases hk2
      · have:=nd_setRow_sim ho hr hs q hq
        rw [hn] at this
        cases hh:nd (hset h u' s' (some (ob.setRow p r1))) u' s' q with
        | none=>rw [hh] at this;cases this
        | some n'=>exact ⟨n',rfl, .of_sim (by rw [←hh];exact this),rfl⟩
    · exact ⟨n,by rw [nd_hset_ne hh];exact hn, .rfl',rfl⟩
end Go.Proofs.YtgmphfmoonbfpaaMv

namespace Go.Proofs.YtgmphfmoonbfpaaMv
open Go
def strip:Path→Path→Option Path
  | [],q=>some q
  | a::p,b::q=>if a=b then strip p q else none
  | _::_,[]=>none
theorem strip_some:∀ {p q q':Path},strip p q=some q' ↔ q=p++q'
  | [],q,q'=>by simp [strip,eq_comm]
  | a::p,[],q'=>by simp [strip]
  | a::p,b::q,q'=>by
    simp only [strip,List.cons_append,List.cons.injEq]
    by_cases h:a=b
    · subst h;simp [strip_some (p:=p)]
    · rw [if_neg h];simp [Ne.symm h]
theorem strip_append (p q:Path):strip p (p++q)=some q:=strip_some.2 rfl
def graft (B:Gh) (u s:Nat) (pre:Path) (s0:Nat):Gh:=fun u' s' q=>
  if u'=u∧s'=s then (match strip pre q with | some q'=>B 0 s0 q' | none=>B u' s' q) else B u' s' q
theorem graft_in (B:Gh) (u s:Nat) (pre:Path) (s0:Nat) (q:Path):graft B u s pre s0 u s (pre++q)=B 0 s0 q:=by simp [graft,strip_append]
theorem graft_out (B:Gh) (u s:Nat) (pre:Path) (s0:Nat) {u' s':Nat} {q:Path} (h:¬(u'=u∧s'=s∧pre <+: q)):graft B u s pre s0 u' s' q=B u' s' q:=by
  unfold graft
  by_cases hh:u'=u∧s'=s
  · rw [if_pos hh]
    cases hs:strip pre q with
    | none=>rfl
    | some q'=>exact absurd ⟨hh.1,hh.2,⟨q',(strip_some.1 hs).symm⟩⟩ h
  · rw [if_neg hh]
def ndC:C→Path→Option Nd
  | .own sz nn es,q=>ndGo ⟨sz,nn,es⟩ q
  | .mp es,[]=>some (.map es)
  | _,_=>none
theorem ndGo_cons {r:Row} {e o:Nat} {c:C} (h:cellAt r.es e o=some c) (q:Path):ndGo r ((e,o)::q)=ndC c q:=by
  cases c <;> simp only [ndGo,h,ndC]
  cases q <;> rfl
theorem cellAt_set1 {r:Row} {e o:Nat} {c c0:C} (h:cellAt r.es e o=some c0):cellAt (setCells r.es e o [c]) e o=some c:=by
  rw [cellAt_setCells,if_pos ⟨rfl,Nat.le_refl _,by simp,by simp [h]⟩];simp
theorem cellAt_set1_ne {es:List (List C)} {e o e1 o1:Nat} {c:C} (h:¬(e1=e∧o1=o)):cellAt (setCells es e o [c]) e1 o1=cellAt es e1 o1:=by
  rw [cellAt_setCells,if_neg]
  simp only [List.length_singleton]
  intro hh;exact h ⟨hh.1,by omega⟩
theorem setCells_lens {es:List (List C)} {e o n:Nat} {new:List C} (h:∀ cs ∈ es,cs.length=n):∀ cs ∈ setCells es e o new,cs.length=n:=by
  intro cs hcs
  obtain ⟨i,hi,rfl⟩:=List.mem_iff_getElem.1 hcs
  have h1:=setCells_get (es:=es) (e:=e) (o:=o) (new:=new) i
  rw [List.getElem?_eq_getElem hi] at h1
  split at h1
  · rename_i he
    subst he
    cases hx:es[i]? with
    | none=>simp [hx] at h1
    | some cs0=>
      simp only [hx,Option.map_some,Option.some.injEq] at h1
      rw [h1,overlay_length]
      exact h _ (List.mem_of_getElem? hx)
  · exact h _ (List.mem_of_getElem? h1.symm)
theorem tr_absorb {X:Nat→Prop} {h:Hp} {B:Gh} {w:World} (H:HRel X h B w) {u s:Nat} {p:Path} {ob:Ob} {r:Row} {e o s0:Nat} {ob0:Ob} {c:C}
    (ho:h u s=some ob) (hr:ob.row? p=some r) (hbad:cellAt r.es e o=some .bad)
    (ho0:h 0 s0=some ob0) (hne:¬(u=0∧s=s0)) (hc:∀ q,ndC c q=ob0.nd? q)
    (hv:∀ (arr:Array Value) (t:TypeId) (fr:Nat × Nat),w.heap[B u s p]? = some (Obj.cells arr t fr)→∃ x,arr[e * r.sz+o]? = some x∧RC (Forb X h B) w (B 0 s0 []) c x)
    (hcf:¬c.flat) :
    Tr X h B w [.root 0 s0] (hset (hset h 0 s0 none) u s (some (ob.setRow p { r with es:=setCells r.es e o [c] }))) (graft B u s (p++[(e,o)]) s0) w:=by
  have hlr:(Nd.row r).live:=.inr (by
    intro he
    have:cellAt r.es e o=none:=by simp [cellAt,he]
    rw [this] at hbad;cases hbad)
  have hnr:nd h u s p=some (.row r):=nd_of_row? ho hr
  have hs:Shp r { r with es:=setCells r.es e o [c] }:=⟨rfl,rfl,by simp [setCells_length]⟩
  have ho':(hset h 0 s0 none) u s=some ob:=by rw [hset_ne _ _ _ _ hne];exact ho
  have hnone:∀ q,nd h u s (p++(e,o)::q)=none:=by
    intro q
    rw [nd_ext ho hr,ndGo_cons_flat hbad trivial]
  have hnd:∀ u' s' q n',nd (hset (hset h 0 s0 none) u s (some (ob.setRow p { r with es:=setCells r.es e o [c] }))) u' s' q=some n' →
      (u'=u∧s'=s ∧ ∃ q',q=p++(e,o)::q'∧nd h 0 s0 q'=some n') ∨
      (u'=u∧s'=s∧q=p∧n' = .row { r with es:=setCells r.es e o [c] }) ∨
      (¬(u'=0∧s'=s0) ∧ ¬(u'=u∧s'=s∧p++[(e,o)] <+: q) ∧ ¬(u'=u∧s'=s∧q=p) ∧ ∃ n,nd h u' s' q=some n∧NSim (some n) (some n')):=by
    intro u' s' q n' hn
    by_cases hh:u'=u∧s'=s
    · obtain ⟨rfl,rfl⟩:=hh
      have hne':¬(u'=0∧s'=s0):=hne
      by_cases hq:p <+: q
      · obtain ⟨q',rfl⟩:=hq
        rw [nd_setRow_ext ho' hr] at hn
        cases q' with
        | nil=>
          simp only [ndGo,Option.some.injEq] at hn
          exact .inr (.inl ⟨rfl,rfl,by simp,hn.symm⟩)
        | cons x q'=>
          obtain ⟨e1,o1⟩:=x
          by_cases hx:e1=e∧o1=o
          · obtain ⟨rfl,rfl⟩:=hx
            left
            refine ⟨rfl,rfl,q',rfl, ?_⟩
            rw [ndGo_cons (cellAt_set1 hbad),hc q'] at hn
            simp only [nd,ho0,Option.bind_some];exact hn
          · right;right
            refine ⟨hne', ?_,by simp,n', ?_, .rfl'⟩
            · rintro ⟨_,_,hp⟩
              rw [List.prefix_append_right_inj] at hp
              have:=List.cons_prefix_cons.1 hp
              exact hx ⟨congrArg Prod.fst this.1.symm,congrArg Prod.snd this.1.symm⟩
            · rw [nd_ext ho hr,←hn]
              exact ndGo_cons_same (by rw [cellAt_set1_ne hx])
      · right;right
        refine ⟨hne',fun hh=>hq ((List.prefix_append p _).trans hh.2.2),fun hh=>hq (by rw [hh.2.2];exact List.prefix_refl _), ?_⟩
        have:=nd_setRow_sim ho' hr hs q hq
        rw [hn,nd_hset_ne hne'] at this
        cases hh:nd h u' s' q with
        | none=>rw [hh] at this;cases this
        | some n=>exact ⟨n,rfl,by rw [←hh];exact this⟩
    · rw [nd_hset_ne hh] at hn
      by_cases h0:u'=0∧s'=s0
      · obtain ⟨rfl,rfl⟩:=h0;simp [nd_hset_same] at hn
      · rw [nd_hset_ne h0] at hn
        exact .inr (.inr ⟨h0,fun h=>hh ⟨h.1,h.2.1⟩,fun h=>hh ⟨h.1,h.2.1⟩,n',hn, .rfl'⟩)
  have hlv:∀ {n n':Nd},NSim (some n) (some n')→n'.live→n.live:=by
    intro n n' hs hl
    cases hs with
    | map es=>trivial
    | row hr=>exact hr.live.2 hl
  have hgp:graft B u s (p++[(e,o)]) s0 u s p=B u s p:=graft_out _ _ _ _ _ (fun hh=>by
    have:=hh.2.2.length_le;simp only [List.length_append,List.length_singleton] at this;omega)
  have hgo:∀ {u' s':Nat} {q:Path},¬(u'=u∧s'=s∧p++[(e,o)] <+: q)→graft B u s (p++[(e,o)]) s0 u' s' q=B u' s' q:=fun hh=>graft_out _ _ _ _ _ hh
  have hgi:∀ q,graft B u s (p++[(e,o)]) s0 u s (p++(e,o)::q)=B 0 s0 q:=fun q=>by
    have:=graft_in B u s (p++[(e,o)]) s0 q
    simpa using this
  have hback:∀ u' s' q n',nd (hset (hset h 0 s0 none) u s (some (ob.setRow p { r with es:=setCells r.es e o [c] }))) u' s' q=some n'→n'.live →
      ∃ u0 s1 q0 n0,nd h u0 s1 q0=some n0∧n0.live∧B u0 s1 q0=graft B u s (p++[(e,o)]) s0 u' s' q ∧
        ((u'=u∧s'=s∧u0=0∧s1=s0∧q=p++(e,o)::q0)∨(¬(u'=0∧s'=s0)∧u0=u'∧s1=s'∧q0=q ∧ ¬(u'=u∧s'=s∧p++[(e,o)] <+: q))):=by
    intro u' s' q n' h1 h2
    rcases hnd _ _ _ _ h1 with ⟨rfl,rfl,q',rfl,h3⟩ | ⟨rfl,rfl,rfl,rfl⟩ | ⟨h0,hp,hq,n,h3,h4⟩
    · exact ⟨0,s0,q',n',h3,h2,(hgi q').symm, .inl ⟨rfl,rfl,rfl,rfl,rfl⟩⟩
    · exact ⟨_,_,_,_,hnr,hlr,hgp.symm, .inr ⟨hne,rfl,rfl,rfl,fun hh=>by have:=hh.2.2.length_le;simp only [List.length_append,List.length_singleton] at this;omega⟩⟩
    · exact ⟨_,_,_,n,h3,hlv h4 h2,(hgo hp).symm, .inr ⟨h0,rfl,rfl,rfl,hp⟩⟩
  have hsub:∀ {b},Own (hset (hset h 0 s0 none) u s (some (ob.setRow p { r with es:=setCells r.es e o [c] }))) (graft B u s (p++[(e,o)]) s0) b→Own h B b:=by
    rintro b ⟨u',s',q,n',h1,h2,rfl⟩
    obtain ⟨u0,s1,q0,n0,h3,h4,h5,_⟩:=hback u' s' q n' h1 h2
    exact ⟨u0,s1,q0,n0,h3,h4,h5⟩
  have stp:Stp (Own h B) w (Own (hset (hset h 0 s0 none) u s (some (ob.setRow p { r with es:=setCells r.es e o [c] }))) (graft B u s (p++[(e,o)]) s0)) w:=
    ⟨rfl,rfl,rfl,Nat.le_refl _,fun _ _ _=>rfl,fun _ _ hb=>hsub hb⟩
  refine ⟨⟨fun u' s' q n' h1 h2=>?_,fun u1 s1 p1 n1 u2 s2 p2 n2 a1 a2 b1 b2 hbb=>?_,H.ext,fun b hb=>H.apart b (hsub hb)⟩,
    rv_move stp (.refl w) (fun u' s' q n hkk hn=>?_),stp⟩
  · rcases hnd _ _ _ _ h1 with ⟨rfl,rfl,q',rfl,h3⟩ | ⟨rfl,rfl,rfl,rfl⟩ | ⟨h0,hp,hq,n,h3,h4⟩
    · refine (H.node 0 s0 q' n' h3 h2).move .rfl' (by rw [hgi]) (fun x v=>stp.rd) (fun r1 e1 o1 sz nn es v _ _ hh=>?_) (fun r1 e1 o1 es _ _=>?_)
      · rw [List.append_assoc,List.cons_append,hgi];exact hh
      · rw [List.append_assoc,List.cons_append,hgi]
    · obtain ⟨arr,t,fr,h1',h2',h3',h4',h5'⟩:=H.node _ _ _ _ hnr hlr
      refine ⟨arr,t,fr,by rw [hgp];exact h1',h2',setCells_lens h3',by simpa [setCells_length] using h4',fun e1 o1 c1 hc1=>?_⟩
      by_cases hx:e1=e∧o1=o
      · obtain ⟨rfl,rfl⟩:=hx
        rw [cellAt_set1 hbad,Option.some.injEq] at hc1
        subst hc1
        obtain ⟨x,hx1,hx2⟩:=hv arr t fr h1'
        refine ⟨x,hx1,hx2.move .rfl' (fun x v=>stp.rd) (fun sz nn es _ hh=>?_) (fun _ _=>?_)⟩
        · rw [hgi];exact hh
        · rw [hgi]
      · rw [cellAt_set1_ne hx] at hc1
        obtain ⟨v,hv1,hv2⟩:=h5' e1 o1 c1 hc1
        have hno:¬(u'=u'∧s'=s'∧q++[(e,o)] <+: q++[(e1,o1)]):=by
          rintro ⟨_,_,hp⟩
          rw [List.prefix_append_right_inj] at hp
          have:=List.cons_prefix_cons.1 hp
          exact hx ⟨congrArg Prod.fst this.1.symm,congrArg Prod.snd this.1.symm⟩
        refine ⟨v,hv1,hv2.move .rfl' (fun x v=>stp.rd) (fun sz nn es _ hh=>?_) (fun _ _=>?_)⟩
        · rw [hgo hno];exact hh
        · rw [hgo hno]
    · have hno:∀ e1 o1,¬(u'=u∧s'=s∧p++[(e,o)] <+: q++[(e1,o1)]):=by
        rintro e1 o1 ⟨rfl,rfl,hp'⟩
        rw [List.prefix_concat_iff] at hp'
        rcases hp' with hp' | hp'
        · have:=List.append_inj' hp' rfl
          exact hq ⟨rfl,rfl,this.1.symm⟩
        · exact hp ⟨rfl,rfl,hp'⟩
      refine (H.node u' s' q n h3 (hlv h4 h2)).move h4 (by rw [hgo hp]) (fun x v=>stp.rd) (fun r1 e1 o1 sz nn es v _ _ hh=>?_) (fun r1 e1 o1 es _ _=>?_)
      · rw [hgo (hno e1 o1)];exact hh
      · rw [hgo (hno e1 o1)]
  · obtain ⟨u3,s3,q3,n3,c1,c2,c3,c4⟩:=hback _ _ _ _ a1 a2
    obtain ⟨u4,s4,q4,n4,d1,d2,d3,d4⟩:=hback _ _ _ _ b1 b2
    obtain ⟨e1,e2,e3⟩:=H.inj _ _ _ _ _ _ _ _ c1 c2 d1 d2 (c3.trans (hbb.trans d3.symm))
    rcases c4 with ⟨x1,x2,x3,x4,x5⟩ | ⟨x0,x1,x2,x3,x5⟩ <;> rcases d4 with ⟨y1,y2,y3,y4,y5⟩ | ⟨y0,y1,y2,y3,y5⟩
    · exact ⟨x1.trans y1.symm,x2.trans y2.symm,by rw [x5,y5,e3]⟩
    · exact absurd ⟨y1.symm.trans (e1.symm.trans x3),y2.symm.trans (e2.symm.trans x4)⟩ y0
    · exact absurd ⟨x1.symm.trans (e1.trans y3),x2.symm.trans (e2.trans y4)⟩ x0
    · exact ⟨x1.symm.trans (e1.trans y1),x2.symm.trans (e2.trans y2),x3.symm.trans (e3.trans y3)⟩
  · have hk0:=hkk (.root 0 s0) (by simp)
    have h0:¬(u'=0∧s'=s0):=by
      rintro ⟨rfl,rfl⟩
      simp [Kill.hits] at hk0
    by_cases hh:u'=u∧s'=s
    · obtain ⟨rfl,rfl⟩:=hh
      by_cases hq:p <+: q
      · obtain ⟨q',rfl⟩:=hq
        rw [nd_ext ho hr] at hn
        cases q' with
        | nil=>
          simp only [ndGo,Option.some.injEq] at hn
          subst hn
          refine ⟨_,nd_setRow_ext ho' hr [], .row hs, ?_⟩
          rw [List.append_nil];exact hgp
        | cons x q'=>
          obtain ⟨e1,o1⟩:=x
          by_cases hx:e1=e∧o1=o
          · obtain ⟨rfl,rfl⟩:=hx
            rw [ndGo_cons_flat hbad trivial] at hn;cases hn
          · refine ⟨n, ?_, .rfl',hgo ?_⟩
            · rw [nd_setRow_ext ho' hr,←hn]
              exact ndGo_cons_same (by rw [cellAt_set1_ne hx])
            · rintro ⟨_,_,hp⟩
              rw [List.prefix_append_right_inj] at hp
              have:=List.cons_prefix_cons.1 hp
              exact hx ⟨congrArg Prod.fst this.1.symm,congrArg Prod.snd this.1.symm⟩
      · have:=nd_setRow_sim ho' hr hs q hq
        rw [nd_hset_ne h0,hn] at this
        cases hh:nd (hset (hset h 0 s0 none) u' s' (some (ob.setRow p { r with es:=setCells r.es e o [c] }))) u' s' q with
        | none=>rw [hh] at this;cases this
        | some n'=>exact ⟨n',rfl, .of_sim (by rw [←hh];exact this),hgo (fun hh=>hq ((List.prefix_append p _).trans hh.2.2))⟩
    · exact ⟨n,by rw [nd_hset_ne hh,nd_hset_ne h0];exact hn, .rfl',hgo (fun h=>hh ⟨h.1,h.2.1⟩)⟩
end Go.Proofs.YtgmphfmoonbfpaaMv

namespace Go.Proofs.YtgmphfmoonbfpaaMv
open Go
theorem passes_in {e o lo hi:Nat} (h1:lo≤o) (h2:o<hi):∀ (p q:Path),passes e lo hi p (p++(e,o)::q)=true
  | [],q=>by simp [passes,h1,h2]
  | (a,b)::p,q=>by simp [passes,passes_in h1 h2 p q]
def ungraft (B:Gh) (u s:Nat) (pre:Path) (d:Nat):Gh:=fun u' s' q=>if u'=0∧s'=d then B u s (pre++q) else B u' s' q
theorem ungraft_in (B:Gh) (u s:Nat) (pre:Path) (d:Nat) (q:Path):ungraft B u s pre d 0 d q=B u s (pre++q):=by simp [ungraft]
theorem ungraft_out (B:Gh) (u s:Nat) (pre:Path) (d:Nat) {u' s':Nat} {q:Path} (h:¬(u'=0∧s'=d)):ungraft B u s pre d u' s' q=B u' s' q:=by simp [ungraft,h]
theorem tr_moveout {X:Nat→Prop} {h:Hp} {B:Gh} {w:World} (H:HRel X h B w) {u s:Nat} {p:Path} {ob:Ob} {r:Row} {e o d sz:Nat} {nn:Bool} {es:List (List C)} {fx:Bool}
    (ho:h u s=some ob) (hr:ob.row? p=some r) (hown:cellAt r.es e o=some (.own sz nn es)) (hd0:h 0 d=none) :
    Tr X h B w [.under u s p e o (o+1)] (hset (hset h u s (some (ob.setRow p { r with es:=setCells r.es e o [.bad] }))) 0 d (some (.row fx sz nn es))) (ungraft B u s (p++[(e,o)]) d) w:=by
  have hne:¬(u=0∧s=d):=by rintro ⟨rfl,rfl⟩;rw [hd0] at ho;cases ho
  have hlr:(Nd.row r).live:=.inr (by
    intro he
    have:cellAt r.es e o=none:=by simp [cellAt,he]
    rw [this] at hown;cases hown)
  have hnr:nd h u s p=some (.row r):=nd_of_row? ho hr
  have hs:Shp r { r with es:=setCells r.es e o [.bad] }:=⟨rfl,rfl,by simp [setCells_length]⟩
  have hin:∀ q,nd h u s (p++(e,o)::q)=ndGo ⟨sz,nn,es⟩ q:=by
    intro q
    rw [nd_ext ho hr,ndGo_cons hown];rfl
  have hd:∀ q,nd h 0 d q=none:=fun q=>by simp [nd,hd0]
  generalize hh1:hset h u s (some (ob.setRow p { r with es:=setCells r.es e o [.bad] }))=h1
  have hnd:∀ u' s' q n',nd (hset h1 0 d (some (.row fx sz nn es))) u' s' q=some n' →
      (u'=0∧s'=d∧nd h u s (p++(e,o)::q)=some n') ∨
      (u'=u∧s'=s∧q=p∧n' = .row { r with es:=setCells r.es e o [.bad] }) ∨
      (¬(u'=0∧s'=d) ∧ ¬(u'=u∧s'=s∧p++[(e,o)] <+: q) ∧ ¬(u'=u∧s'=s∧q=p) ∧ ∃ n,nd h u' s' q=some n∧NSim (some n) (some n')):=by
    intro u' s' q n' hn
    by_cases h0:u'=0∧s'=d
    · obtain ⟨rfl,rfl⟩:=h0
      rw [nd_hset_same] at hn
      exact .inl ⟨rfl,rfl,by rw [hin];exact hn⟩
    · rw [nd_hset_ne h0] at hn
      subst hh1
      by_cases hh:u'=u∧s'=s
      · obtain ⟨rfl,rfl⟩:=hh
        by_cases hq:p <+: q
        · obtain ⟨q',rfl⟩:=hq
          rw [nd_setRow_ext ho hr] at hn
          cases q' with
          | nil=>
            simp only [ndGo,Option.some.injEq] at hn
            exact .inr (.inl ⟨rfl,rfl,by simp,hn.symm⟩)
          | cons x q'=>
            obtain ⟨e1,o1⟩:=x
            by_cases hx:e1=e∧o1=o
            · obtain ⟨rfl,rfl⟩:=hx
              rw [ndGo_cons_flat (r:={ r with es:=setCells r.es e1 o1 [.bad] }) (c:=.bad) (cellAt_set1 hown) trivial] at hn;cases hn
            · right;right
              refine ⟨h0, ?_,by simp,n', ?_, .rfl'⟩
              · rintro ⟨_,_,hp⟩
                rw [List.prefix_append_right_inj] at hp
                have:=List.cons_prefix_cons.1 hp
                exact hx ⟨congrArg Prod.fst this.1.symm,congrArg Prod.snd this.1.symm⟩
              · rw [nd_ext ho hr,←hn]
                exact ndGo_cons_same (by rw [cellAt_set1_ne hx])
        · right;right
          refine ⟨h0,fun hh=>hq ((List.prefix_append p _).trans hh.2.2),fun hh=>hq (by rw [hh.2.2];exact List.prefix_refl _), ?_⟩
          have:=nd_setRow_sim ho hr hs q hq
          rw [hn] at this
          cases hh:nd h u' s' q with
          | none=>rw [hh] at this;cases this
          | some n=>exact ⟨n,rfl,by rw [←hh];exact this⟩
      · rw [nd_hset_ne hh] at hn
        exact .inr (.inr ⟨h0,fun h=>hh ⟨h.1,h.2.1⟩,fun h=>hh ⟨h.1,h.2.1⟩,n',hn, .rfl'⟩)
  have hlv:∀ {n n':Nd},NSim (some n) (some n')→n'.live→n.live:=by
    intro n n' hs hl
    cases hs with
    | map es=>trivial
    | row hr=>exact hr.live.2 hl
  have hgi:∀ q,ungraft B u s (p++[(e,o)]) d 0 d q=B u s (p++(e,o)::q):=fun q=>by rw [ungraft_in];simp
  have hgo:∀ {u' s':Nat} {q:Path},¬(u'=0∧s'=d)→ungraft B u s (p++[(e,o)]) d u' s' q=B u' s' q:=fun hh=>ungraft_out _ _ _ _ _ hh
  have hback:∀ u' s' q n',nd (hset h1 0 d (some (.row fx sz nn es))) u' s' q=some n'→n'.live →
      ∃ u0 s1 q0 n0,nd h u0 s1 q0=some n0∧n0.live∧B u0 s1 q0=ungraft B u s (p++[(e,o)]) d u' s' q ∧
        ((u'=0∧s'=d∧u0=u∧s1=s∧q0=p++(e,o)::q)∨(¬(u'=0∧s'=d)∧u0=u'∧s1=s'∧q0=q ∧ ¬(u'=u∧s'=s∧p++[(e,o)] <+: q))):=by
    intro u' s' q n' h1' h2
    rcases hnd _ _ _ _ h1' with ⟨rfl,rfl,h3⟩ | ⟨rfl,rfl,rfl,rfl⟩ | ⟨h0,hp,hq,n,h3,h4⟩
    · exact ⟨u,s,_,n',h3,h2,(hgi q).symm, .inl ⟨rfl,rfl,rfl,rfl,rfl⟩⟩
    · exact ⟨_,_,_,_,hnr,hlr,(hgo hne).symm, .inr ⟨hne,rfl,rfl,rfl,fun hh=>by
        have:=hh.2.2.length_le
        simp only [List.length_append,List.length_singleton] at this
        omega⟩⟩
    · exact ⟨_,_,_,n,h3,hlv h4 h2,(hgo h0).symm, .inr ⟨h0,rfl,rfl,rfl,hp⟩⟩
  have hsub:∀ {b},Own (hset h1 0 d (some (.row fx sz nn es))) (ungraft B u s (p++[(e,o)]) d) b→Own h B b:=by
    rintro b ⟨u',s',q,n',h1,h2,rfl⟩
    obtain ⟨u0,s1,q0,n0,h3,h4,h5,_⟩:=hback u' s' q n' h1 h2
    exact ⟨u0,s1,q0,n0,h3,h4,h5⟩
  have stp:Stp (Own h B) w (Own (hset h1 0 d (some (.row fx sz nn es))) (ungraft B u s (p++[(e,o)]) d)) w:=
    ⟨rfl,rfl,rfl,Nat.le_refl _,fun _ _ _=>rfl,fun _ _ hb=>hsub hb⟩
  refine ⟨⟨fun u' s' q n' h1' h2=>?_,fun u1 s1 p1 n1 u2 s2 p2 n2 a1 a2 b1 b2 hbb=>?_,H.ext,fun b hb=>H.apart b (hsub hb)⟩,
    rv_move stp (.refl w) (fun u' s' q n hkk hn=>?_),stp⟩
  · rcases hnd _ _ _ _ h1' with ⟨rfl,rfl,h3⟩ | ⟨rfl,rfl,rfl,rfl⟩ | ⟨h0,hp,hq,n,h3,h4⟩
    · refine (H.node u s _ n' h3 h2).move .rfl' (by rw [hgi]) (fun x v=>stp.rd) (fun r1 e1 o1 sz nn es v _ _ hh=>?_) (fun r1 e1 o1 es _ _=>?_)
      · rw [hgi];simpa using hh
      · rw [hgi];simp
    · obtain ⟨arr,t,fr,h1',h2',h3',h4',h5'⟩:=H.node _ _ _ _ hnr hlr
      refine ⟨arr,t,fr,by rw [hgo hne];exact h1',h2',setCells_lens h3',by simpa [setCells_length] using h4',fun e1 o1 c1 hc1=>?_⟩
      by_cases hx:e1=e∧o1=o
      · obtain ⟨rfl,rfl⟩:=hx
        rw [cellAt_set1 hown,Option.some.injEq] at hc1
        subst hc1
        obtain ⟨v,hv1,_⟩:=h5' e1 o1 _ hown
        exact ⟨v,hv1,trivial⟩
      · rw [cellAt_set1_ne hx] at hc1
        obtain ⟨v,hv1,hv2⟩:=h5' e1 o1 c1 hc1
        refine ⟨v,hv1,hv2.move .rfl' (fun x v=>stp.rd) (fun sz nn es _ hh=>?_) (fun _ _=>?_)⟩
        · rw [hgo hne];exact hh
        · rw [hgo hne]
    · refine (H.node u' s' q n h3 (hlv h4 h2)).move h4 (by rw [hgo h0]) (fun x v=>stp.rd) (fun r1 e1 o1 sz nn es v _ _ hh=>?_) (fun r1 e1 o1 es _ _=>?_)
      · rw [hgo h0];exact hh
      · rw [hgo h0]
  · obtain ⟨u3,s3,q3,n3,c1,c2,c3,c4⟩:=hback _ _ _ _ a1 a2
    obtain ⟨u4,s4,q4,n4,d1,d2,d3,d4⟩:=hback _ _ _ _ b1 b2
    obtain ⟨e1,e2,e3⟩:=H.inj _ _ _ _ _ _ _ _ c1 c2 d1 d2 (c3.trans (hbb.trans d3.symm))
    rcases c4 with ⟨x1,x2,x3,x4,x5⟩ | ⟨x0,x1,x2,x3,x5⟩ <;> rcases d4 with ⟨y1,y2,y3,y4,y5⟩ | ⟨y0,y1,y2,y3,y5⟩
    · refine ⟨x1.trans y1.symm,x2.trans y2.symm, ?_⟩
      rw [x5,y5] at e3
      simpa using e3
    · exfalso
      exact y5 ⟨by rw [←y1,←e1,x3],by rw [←y2,←e2,x4],by rw [←y3,←e3,x5];simp⟩
    · exfalso
      exact x5 ⟨by rw [←x1,e1,y3],by rw [←x2,e2,y4],by rw [←x3,e3,y5];simp⟩
    · exact ⟨x1.symm.trans (e1.trans y1),x2.symm.trans (e2.trans y2),x3.symm.trans (e3.trans y3)⟩
  · have hk0:=hkk (.under u s p e o (o+1)) (by simp)
    have h0:¬(u'=0∧s'=d):=by
      rintro ⟨rfl,rfl⟩
      rw [hd] at hn;cases hn
    subst hh1
    rw [nd_hset_ne h0,hgo h0]
    by_cases hh:u'=u∧s'=s
    · obtain ⟨rfl,rfl⟩:=hh
      by_cases hq:p <+: q
      · obtain ⟨q',rfl⟩:=hq
        rw [nd_ext ho hr] at hn
        cases q' with
        | nil=>
          simp only [ndGo,Option.some.injEq] at hn
          subst hn
          exact ⟨_,nd_setRow_ext ho hr [], .row hs,rfl⟩
        | cons x q'=>
          obtain ⟨e1,o1⟩:=x
          by_cases hx:e1=e∧o1=o
          · obtain ⟨rfl,rfl⟩:=hx
            exfalso
            have:passes e1 o1 (o1+1) p (p++(e1,o1)::q')=true:=passes_in (Nat.le_refl _) (by omega) p q'
            simp [Kill.hits,this] at hk0
          · refine ⟨n, ?_, .rfl',rfl⟩
            rw [nd_setRow_ext ho hr,←hn]
            exact ndGo_cons_same (by rw [cellAt_set1_ne hx])
      · have:=nd_setRow_sim ho hr hs q hq
        rw [hn] at this
        cases hh:nd (hset h u' s' (some (ob.setRow p { r with es:=setCells r.es e o [.bad] }))) u' s' q with
        | none=>rw [hh] at this;cases this
        | some n'=>exact ⟨n',rfl, .of_sim (by rw [←hh];exact this),rfl⟩
    · exact ⟨n,by rw [nd_hset_ne hh];exact hn, .rfl',rfl⟩
end Go.Proofs.YtgmphfmoonbfpaaMv

namespace Go.Proofs.YtgmphfmoonbfpaaMv
open Go
theorem cellAt_append {es ys:List (List C)} (e o:Nat):cellAt (es++ys) e o=if e<es.length then cellAt es e o else cellAt ys (e - es.length) o:=by
  unfold cellAt
  by_cases h:e<es.length
  · rw [if_pos h,List.getElem?_append_left h]
  · rw [if_neg h,List.getElem?_append_right (by omega)]
theorem tr_root {X:Nat→Prop} {h:Hp} {B:Gh} {w w':World} (H:HRel X h B w) {u s:Nat} {fx:Bool} {r r1:Row} {b':Nat}
    (ho:h u s=some (.row fx r.sz r.nn r.es)) (hl1:(Nd.row r1).live)
    (hsub:∀ e o c,cellAt r1.es e o=some c→cellAt r.es e o=some c∨c.flat)
    (hos:w'.os=w.os) (ht:w'.tape=w.tape) (hout:w'.output=w.output) (hsz:w.heap.size≤w'.heap.size)
    (hb':(b'=B u s []∧(Nd.row r).live)∨w.heap.size≤b')
    (hk:∀ b,b<w.heap.size→b≠b'→w'.heap[b]? = w.heap[b]?)
    (hkp:Keeps w w')
    (hrow:∀ N',(∀ x v,RD w (Forb X h B) x v→RD w' N' x v) →
      (∀ b c v,RC (Forb X h B) w b c v→RC N' w' b c v)→Rows N' w' (gset B u s [] b' u s) [] r1) :
    Tr X h B w [.root u s] (hset h u s (some (.row fx r1.sz r1.nn r1.es))) (gset B u s [] b') w':=by
  have hnr:nd h u s []=some (.row r):=by simp [nd,ho,Ob.nd?,ndGo]
  have hnd:∀ u' s' p n,nd (hset h u s (some (.row fx r1.sz r1.nn r1.es))) u' s' p=some n→(u'=u∧s'=s∧p=[]∧n = .row r1)∨(¬(u'=u∧s'=s∧p=[])∧nd h u' s' p=some n):=by
    intro u' s' p n hn
    by_cases hh:u'=u∧s'=s
    · obtain ⟨rfl,rfl⟩:=hh
      rw [nd_hset_same] at hn
      simp only [Option.bind_some,Ob.nd?] at hn
      cases p with
      | nil=>simp only [ndGo,Option.some.injEq] at hn;exact .inl ⟨rfl,rfl,rfl,hn.symm⟩
      | cons x p=>
        obtain ⟨e,o⟩:=x
        refine .inr ⟨by simp, ?_⟩
        have:nd h u' s' ((e,o)::p)=ndGo r ((e,o)::p):=by simp [nd,ho,Ob.nd?]
        rw [this,←hn]
        cases hc:cellAt r1.es e o with
        | none=>simp [ndGo,hc] at hn
        | some c=>
          rcases hsub e o c hc with h1 | h1
          · exact ndGo_cons_same (h1.trans hc.symm)
          · rw [ndGo_cons_flat hc h1] at hn;cases hn
    · rw [nd_hset_ne hh] at hn;exact .inr ⟨fun h=>hh ⟨h.1,h.2.1⟩,hn⟩
  have hB:∀ {u' s':Nat} {p:Path},¬(u'=u∧s'=s∧p=[])→gset B u s [] b' u' s' p=B u' s' p:=fun hh=>gset_ne _ _ _ _ _ hh
  have hown:∀ {b},Own (hset h u s (some (.row fx r1.sz r1.nn r1.es))) (gset B u s [] b') b→(b=b')∨Own h B b:=by
    rintro b ⟨u',s',p,n,h1,h2,rfl⟩
    rcases hnd _ _ _ _ h1 with ⟨rfl,rfl,rfl,rfl⟩ | ⟨hh,h3⟩
    · left;exact gset_same ..
    · right;exact ⟨u',s',p,n,h3,h2,(hB hh).symm⟩
  have hob':b'<w.heap.size→Own h B b':=fun hlt=>by
    rcases hb' with ⟨h1,h2⟩ | h1
    · exact ⟨u,s,[],_,hnr,h2,h1.symm⟩
    · omega
  have stp:Stp (Own h B) w (Own (hset h u s (some (.row fx r1.sz r1.nn r1.es))) (gset B u s [] b')) w':=
    ⟨hos,ht,hout,hsz,fun b hb hn=>hk b hb (fun e=>hn (by subst e;exact hob' hb)),fun b hb h1=>by
      rcases hown h1 with rfl | h2
      · exact hob' hb
      · exact h2⟩
  have hne:∀ {u' s' p n},nd h u' s' p=some n→n.live→¬(u'=u∧s'=s∧p=[])→B u' s' p≠b':=by
    intro u' s' p n h1 h2 hh e
    rcases hb' with ⟨h3,h4⟩ | h3
    · exact hh (H.inj _ _ _ _ _ _ _ _ h1 h2 hnr h4 (e.trans h3))
    · have:=H.lt ⟨u',s',p,n,h1,h2,rfl⟩
      omega
  refine ⟨⟨fun u' s' p n h1 h2=>?_,fun u1 s1 p1 n1 u2 s2 p2 n2 a1 a2 b1 b2 hbb=>?_,fun b hb=>Nat.lt_of_lt_of_le (H.ext b hb) hsz,fun b hb=>?_⟩,
    rv_move stp hkp (fun u' s' p n hkk hn=>?_),stp⟩
  · rcases hnd _ _ _ _ h1 with ⟨rfl,rfl,rfl,rfl⟩ | ⟨hh,h3⟩
    · exact hrow _ (fun x v=>stp.rd) (fun b c v hh=>hh.move .rfl' (fun x v=>stp.rd) (fun _ _ _ _ hx=>hx.keeps fun _=>hkp _) (fun _ _=>rfl))
    · have hc:∀ e1 o1,¬(u'=u∧s'=s∧p++[(e1,o1)]=[]):=fun e1 o1 hx=>by simp at hx
      refine (H.node u' s' p n h3 h2).move .rfl' ?_ (fun x v=>stp.rd) (fun r1 e1 o1 sz nn es v _ _ hx=>?_) (fun r1 e1 o1 es _ _=>hB (hc e1 o1))
      · rw [hB hh];exact hk _ (H.lt ⟨u',s',p,n,h3,h2,rfl⟩) (hne h3 h2 hh)
      · rw [hB (hc e1 o1)];exact hx.keeps fun _=>hkp _
  · rcases hnd _ _ _ _ a1 with ⟨rfl,rfl,rfl,rfl⟩ | ⟨hh,h3⟩ <;> rcases hnd _ _ _ _ b1 with ⟨rfl,rfl,rfl,rfl⟩ | ⟨hh',h3'⟩
    · exact ⟨rfl,rfl,rfl⟩
    · rw [gset_same,hB hh'] at hbb
      exact absurd hbb.symm (hne h3' b2 hh')
    · rw [gset_same,hB hh] at hbb
      exact absurd hbb (hne h3 a2 hh)
    · rw [hB hh,hB hh'] at hbb
      exact H.inj _ _ _ _ _ _ _ _ h3 a2 h3' b2 hbb
  · rcases hown hb with rfl | h2
    · intro hx
      exact H.apart _ (hob' (H.ext _ hx)) hx
    · exact H.apart b h2
  · have:=hkk (.root u s) (by simp)
    have hh:¬(u'=u∧s'=s):=by
      rintro ⟨rfl,rfl⟩
      simp [Kill.hits] at this
    exact ⟨n,by rw [nd_hset_ne hh];exact hn, .rfl',hB (fun h=>hh ⟨h.1,h.2.1⟩)⟩
theorem tr_map {X:Nat→Prop} {h h':Hp} {B:Gh} {w w':World} (H:HRel X h B w) {u s:Nat} {k:Path} {es es':List (D × D)}
    (hm:nd h u s k=some (.map es)) (hm':nd h' u s k=some (.map es'))
    (hsim:∀ u' s' q,¬(u'=u∧s'=s∧q=k)→NSim (nd h u' s' q) (nd h' u' s' q))
    (hos:w'.os=w.os) (ht:w'.tape=w.tape) (hout:w'.output=w.output) (hsz:w'.heap.size=w.heap.size)
    (hk:∀ b,b≠B u s k→w'.heap[b]? = w.heap[b]?)
    (hnew:∃ ents clock,w'.heap[B u s k]? = some (.map ents clock) ∧ ∀ N',(∀ x v,RD w (Forb X h B) x v→RD w' N' x v)→Ents N' w' es' ents.toList) :
    Tr X h B w [] h' B w':=by
  have hlv:∀ {n n':Nd},NSim (some n) (some n')→n'.live→n.live:=by
    intro n n' hs hl
    cases hs with
    | map es=>trivial
    | row hr=>exact hr.live.2 hl
  have hnd:∀ u' s' q n',nd h' u' s' q=some n'→(u'=u∧s'=s∧q=k∧n' = .map es')∨(¬(u'=u∧s'=s∧q=k) ∧ ∃ n,nd h u' s' q=some n∧NSim (some n) (some n')):=by
    intro u' s' q n' hn
    by_cases hh:u'=u∧s'=s∧q=k
    · obtain ⟨rfl,rfl,rfl⟩:=hh
      rw [hm'] at hn
      exact .inl ⟨rfl,rfl,rfl,(Option.some.inj hn).symm⟩
    · have:=hsim u' s' q hh
      rw [hn] at this
      cases hx:nd h u' s' q with
      | none=>rw [hx] at this;cases this
      | some n=>exact .inr ⟨hh,n,rfl,by rw [←hx];exact this⟩
  have hback:∀ u' s' q n',nd h' u' s' q=some n'→n'.live→∃ n0,nd h u' s' q=some n0∧n0.live:=by
    intro u' s' q n' h1 h2
    rcases hnd _ _ _ _ h1 with ⟨rfl,rfl,rfl,rfl⟩ | ⟨_,n,h3,h4⟩
    · exact ⟨_,hm,trivial⟩
    · exact ⟨n,h3,hlv h4 h2⟩
  have hsub:∀ {b},Own h' B b→Own h B b:=fun hb=>own_sub (fun u' s' q n h1 h2=>let ⟨n0,a,b⟩:=hback u' s' q n h1 h2; ⟨n0,a,b,rfl⟩) hb
  have hne:∀ b,¬Own h B b→b≠B u s k:=fun b hb hx=>hb ⟨u,s,k,_,hm,trivial,hx.symm⟩
  have stp:Stp (Own h B) w (Own h' B) w':=⟨hos,ht,hout,by omega,fun b hb hn=>hk b (hne b hn),fun _ _ hb=>hsub hb⟩
  have hmo:∃ ents clock,w.heap[B u s k]? = some (.map ents clock):=by
    obtain ⟨ents,clock,h1,_⟩:=H.node u s k _ hm trivial
    exact ⟨ents,clock,h1⟩
  have kp:Keeps w w':=by
    intro b arr0 t0 fr0 h0
    by_cases hbb:b=B u s k
    · subst hbb
      obtain ⟨ents,clock,h1⟩:=hmo
      rw [h1] at h0;cases h0
    · exact ⟨arr0,(hk b hbb).trans h0,rfl⟩
  refine ⟨⟨fun u' s' q n' h1 h2=>?_,fun u1 s1 p1 n1 u2 s2 p2 n2 a1 a2 b1 b2 hbb=>?_,fun b hb=>by rw [hsz];exact H.ext b hb,fun b hb=>H.apart b (hsub hb)⟩,
    rv_move stp kp (fun u' s' q n _ hn=>?_),stp⟩
  · rcases hnd _ _ _ _ h1 with ⟨rfl,rfl,rfl,rfl⟩ | ⟨hne',n,h3,h4⟩
    · obtain ⟨ents,clock,hw,he⟩:=hnew
      exact ⟨ents,clock,hw,he _ (fun x v=>stp.rd)⟩
    · have hl:=hlv h4 h2
      have hbne:B u' s' q≠B u s k:=fun hx=>hne' (H.inj _ _ _ _ _ _ _ _ h3 hl hm trivial hx)
      exact (H.node u' s' q n h3 hl).move h4 (hk _ hbne) (fun x v=>stp.rd) (fun r e o sz nn es v _ _ hh=>hh.keeps fun _=>kp _) (fun _ _ _ _ _ _=>rfl)
  · obtain ⟨m1,c1,d1⟩:=hback _ _ _ _ a1 a2
    obtain ⟨m2,c2,d2⟩:=hback _ _ _ _ b1 b2
    exact H.inj _ _ _ _ _ _ _ _ c1 d1 c2 d2 hbb
  · by_cases hh:u'=u∧s'=s∧q=k
    · obtain ⟨rfl,rfl,rfl⟩:=hh
      rw [hm] at hn
      injection hn with hn
      subst hn
      exact ⟨_,hm', .map _ _,rfl⟩
    · have:=hsim u' s' q hh
      rw [hn] at this
      cases hx:nd h' u' s' q with
      | none=>rw [hx] at this;cases this
      | some n'=>exact ⟨n',rfl, .of_sim (by rw [←hx];exact this),rfl⟩
theorem drop_rel {X:Nat→Prop} {h h':Hp} {B:Gh} {w:World} (H:HRel X h B w) (hs:∀ u s,h' u s=h u s∨h' u s=none) :
    HRel X h' B w∧Stp (Own h B) w (Own h' B) w ∧ ∀ v x,RV1 X h B w v x→(∀ u s,v.root=some (u,s)→h' u s=h u s)→RV1 X h' B w v x:=by
  have hnd:∀ u s p n,nd h' u s p=some n→nd h u s p=some n:=by
    intro u s p n hn
    rcases hs u s with h1 | h1
    · simpa [nd,h1] using hn
    · simp [nd,h1] at hn
  have hsub:∀ {b},Own h' B b→Own h B b:=fun hb=>own_sub (fun u' s' p n h1 h2=>⟨n,hnd _ _ _ _ h1,h2,rfl⟩) hb
  have stp:Stp (Own h B) w (Own h' B) w:=⟨rfl,rfl,rfl,Nat.le_refl _,fun _ _ _=>rfl,fun _ _ hb=>hsub hb⟩
  refine ⟨⟨fun u' s' p n h1 h2=>?_,fun u1 s1 p1 n1 u2 s2 p2 n2 a1 a2 b1 b2 hb=>H.inj _ _ _ _ _ _ _ _ (hnd _ _ _ _ a1) a2 (hnd _ _ _ _ b1) b2 hb,H.ext,fun b hb=>H.apart b (hsub hb)⟩,stp,fun v x hv hr=>?_⟩
  · exact (H.node u' s' p n (hnd _ _ _ _ h1) h2).move .rfl' rfl (fun x v=>stp.rd) (fun r e o sz nn es v _ _ hh=>hh) (fun _ _ _ _ _ _=>rfl)
  · cases v with
    | d d=>exact stp.rd hv
    | ip cs o=>
      obtain ⟨b,base,rfl,h1⟩:=hv
      refine ⟨b,base,rfl,fun j d hj=>?_⟩
      obtain ⟨hn,y,h2,h3,h4⟩:=h1 j d hj
      exact ⟨stp.forb (cell_lt (a:=⟨b,base+j,none⟩) h2) hn,y,h2,h3,stp.rd h4⟩
    | ptr u s p e o=>have h0:=hr u s rfl;obtain ⟨r,h1,h2⟩:=hv;exact ⟨r,by simpa [nd,h0] using h1,h2⟩
    | msl u s p off n=>have h0:=hr u s rfl;obtain ⟨r,h1,h2⟩:=hv;exact ⟨r,by simpa [nd,h0] using h1,h2⟩
    | mp u s a=>have h0:=hr u s rfl;obtain ⟨es,h1,h2⟩:=RV1.mp_iff.1 hv;exact RV1.mp_iff.2 ⟨es,by simpa [nd,h0] using h1,h2⟩
    | z nn=>exact hv
    | fn f vs=>exact absurd hv (by simp [RV1])
    | agg vs=>exact absurd hv (by simp [RV1])
    | tup vs=>exact absurd hv (by simp [RV1])
    | bad=>trivial
    | und=>exact hv
theorem nd_hof_succ (t:List (Nat × Ob)) (hp:HL) (u s:Nat) (p:Path):nd (hof (t::hp)) (u+1) s p=nd (hof hp) u s p:=by simp [nd,hof]
theorem nd_hof_nil (hp:HL) (s:Nat) (p:Path):nd (hof ([]::hp)) 0 s p=none:=by simp [nd,hof,look]
def gup (B:Gh):Gh:=fun u s p=>match u with | 0=>0 | u+1=>B u s p
def gdown (B:Gh):Gh:=fun u s p=>B (u+1) s p
theorem own_up {hp:HL} {B:Gh} {b:Nat}:Own (hof ([]::hp)) (gup B) b ↔ Own (hof hp) B b:=by
  constructor
  · rintro ⟨u,s,p,n,h1,h2,h3⟩
    cases u with
    | zero=>rw [nd_hof_nil] at h1;cases h1
    | succ u=>rw [nd_hof_succ] at h1;exact ⟨u,s,p,n,h1,h2,h3⟩
  · rintro ⟨u,s,p,n,h1,h2,h3⟩
    exact ⟨u+1,s,p,n,by rw [nd_hof_succ];exact h1,h2,h3⟩
theorem forb_up {X:Nat→Prop} {hp:HL} {B:Gh}:Forb X (hof ([]::hp)) (gup B)=Forb X (hof hp) B:=by
  funext b;simp [Forb,own_up]
theorem rel_up {X:Nat→Prop} {hp:HL} {B:Gh} {w:World} (H:HRel X (hof hp) B w):HRel X (hof ([]::hp)) (gup B) w:=by
  refine ⟨fun u s p n h1 h2=>?_,fun u1 s1 p1 n1 u2 s2 p2 n2 a1 a2 b1 b2 hb=>?_,H.ext,fun b hb=>H.apart b (own_up.1 hb)⟩
  · cases u with
    | zero=>rw [nd_hof_nil] at h1;cases h1
    | succ u=>
      rw [nd_hof_succ] at h1
      rw [forb_up]
      exact H.node u s p n h1 h2
  · cases u1 with
    | zero=>rw [nd_hof_nil] at a1;cases a1
    | succ u1=>
      cases u2 with
      | zero=>rw [nd_hof_nil] at b1;cases b1
      | succ u2=>
        rw [nd_hof_succ] at a1 b1
        obtain ⟨h1,h2,h3⟩:=H.inj _ _ _ _ _ _ _ _ a1 a2 b1 b2 hb
        exact ⟨by omega,h2,h3⟩
theorem rv1_up {X:Nat→Prop} {hp:HL} {B:Gh} {w:World} {v:V} {x:Value} (H:RV1 X (hof hp) B w v x):RV1 X (hof ([]::hp)) (gup B) w v.up1 x:=by
  cases v with
  | d d=>simp only [V.up1,RV1,forb_up];exact H
  | ip cs o=>simp only [V.up1,RV1,forb_up];exact H
  | ptr u s p e o=>simp only [V.up1,RV1,nd_hof_succ];exact H
  | msl u s p off n=>simp only [V.up1,RV1,nd_hof_succ];exact H
  | mp u s a=>
    obtain ⟨es,h1,h2⟩:=RV1.mp_iff.1 H
    exact RV1.mp_iff.2 ⟨es,by rw [nd_hof_succ];exact h1,h2⟩
  | z nn=>exact H
  | fn f vs=>exact absurd H (by simp [RV1])
  | agg vs=>exact absurd H (by simp [RV1])
  | tup vs=>exact absurd H (by simp [RV1])
  | bad=>trivial
  | und=>exact H
theorem rvs_map {X X':Nat→Prop} {h h':Hp} {B B':Gh} {w w':World} {g:V→V} (hg:∀ v x,RV1 X h B w v x→RV1 X' h' B' w' (g v) x) {vs:List V} {arr:Array Value} (H:RVs X h B w vs arr):RVs X' h' B' w' (vs.map g) arr:=by
  refine ⟨by simp [H.1],fun i v x hv hx=>?_⟩
  simp only [List.getElem?_map] at hv
  cases hi:vs[i]? with
  | none=>simp [hi] at hv
  | some v0=>
    simp only [hi,Option.map_some,Option.some.injEq] at hv
    rw [←hv]
    exact hg v0 x (H.2 i v0 x hi hx)
theorem rv_up {X:Nat→Prop} {hp:HL} {B:Gh} {w:World} {v:V} {x:Value} (H:RV X (hof hp) B w v x):RV X (hof ([]::hp)) (gup B) w v.up x:=by
  cases v with
  | fn f vs=>obtain ⟨arr,rfl,h1⟩:=H;exact ⟨arr,rfl,rvs_map (fun _ _=>rv1_up) h1⟩
  | agg vs=>obtain ⟨arr,rfl,h1,h2⟩:=H;exact ⟨arr,rfl,rvs_map (fun _ _=>rv1_up) h1,h2⟩
  | tup vs=>obtain ⟨arr,rfl,h1⟩:=H;exact ⟨arr,rfl,rvs_map (fun _ _=>rv1_up) h1⟩
  | _=>exact .of1 (rv1_up (RV.to1 H rfl))
theorem own_down {t:List (Nat × Ob)} {hp:HL} {B:Gh} {b:Nat} (h:Own (hof hp) (gdown B) b):Own (hof (t::hp)) B b:=by
  obtain ⟨u,s,p,n,h1,h2,h3⟩:=h
  exact ⟨u+1,s,p,n,by rw [nd_hof_succ];exact h1,h2,h3⟩
theorem rel_down {X:Nat→Prop} {t:List (Nat × Ob)} {hp:HL} {B:Gh} {w:World} (H:HRel X (hof (t::hp)) B w) :
    HRel X (hof hp) (gdown B) w∧Stp (Own (hof (t::hp)) B) w (Own (hof hp) (gdown B)) w ∧
    ∀ v x,RV1 X (hof (t::hp)) B w v x→(∀ u s,v.root=some (u,s)→u≠0)→RV1 X (hof hp) (gdown B) w v.down1 x:=by
  have stp:Stp (Own (hof (t::hp)) B) w (Own (hof hp) (gdown B)) w:=⟨rfl,rfl,rfl,Nat.le_refl _,fun _ _ _=>rfl,fun _ _ hb=>own_down hb⟩
  refine ⟨⟨fun u s p n h1 h2=>?_,fun u1 s1 p1 n1 u2 s2 p2 n2 a1 a2 b1 b2 hb=>?_,H.ext,fun b hb=>H.apart b (own_down hb)⟩,stp,fun v x hv hr=>?_⟩
  · rw [←nd_hof_succ t] at h1
    exact (H.node (u+1) s p n h1 h2).move .rfl' rfl (fun x v=>stp.rd) (fun r e o sz nn es v _ _ hh=>hh) (fun _ _ _ _ _ _=>rfl)
  · rw [←nd_hof_succ t] at a1 b1
    obtain ⟨h1,h2,h3⟩:=H.inj _ _ _ _ _ _ _ _ a1 a2 b1 b2 hb
    exact ⟨by omega,h2,h3⟩
  · cases v with
    | d d=>exact stp.rd hv
    | ip cs o=>
      obtain ⟨b,base,rfl,h1⟩:=hv
      refine ⟨b,base,rfl,fun j d hj=>?_⟩
      obtain ⟨hn,y,h2,h3,h4⟩:=h1 j d hj
      exact ⟨stp.forb (cell_lt (a:=⟨b,base+j,none⟩) h2) hn,y,h2,h3,stp.rd h4⟩
    | ptr u s p e o=>
      cases u with
      | zero=>exact absurd rfl (hr 0 s rfl)
      | succ u=>simp only [RV1,nd_hof_succ] at hv;exact hv
    | msl u s p off n=>
      cases u with
      | zero=>exact absurd rfl (hr 0 s rfl)
      | succ u=>simp only [RV1,nd_hof_succ] at hv;exact hv
    | mp u s a=>
      cases u with
      | zero=>exact absurd rfl (hr 0 s rfl)
      | succ u=>
        obtain ⟨es,h1,h2⟩:=RV1.mp_iff.1 hv
        rw [nd_hof_succ] at h1
        exact RV1.mp_iff.2 ⟨es,h1,h2⟩
    | z nn=>exact hv
    | fn f vs=>exact absurd hv (by simp [RV1])
    | agg vs=>exact absurd hv (by simp [RV1])
    | tup vs=>exact absurd hv (by simp [RV1])
    | bad=>trivial
    | und=>exact hv
end Go.Proofs.YtgmphfmoonbfpaaMv

namespace Go.Proofs.YtgmphfmoonbfpaaMv
open Go
theorem fzCs_get:∀ {cs:List C} {ds:List D},fzCs cs=some ds→ds.length=cs.length ∧ ∀ (j:Nat) d,ds[j]? = some d→∃ c,cs[j]? = some c∧fzC c=some d
  | [],ds,h=>by simp [fzCs] at h;subst h;simp
  | c::cs,ds,h=>by
    simp only [fzCs,Option.bind_eq_some_iff,Option.map_eq_some_iff] at h
    obtain ⟨x,hx,r,hr,rfl⟩:=h
    obtain ⟨h1,h2⟩:=fzCs_get hr
    refine ⟨by simp [h1],fun j d hj=>?_⟩
    cases j with
    | zero=>simp at hj;subst hj;exact ⟨c,by simp,hx⟩
    | succ j=>simp at hj;obtain ⟨c',h3,h4⟩:=h2 j d hj;exact ⟨c',by simpa using h3,h4⟩
theorem fzCss_get:∀ {es:List (List C)} {ds:List (List D)},fzCss es=some ds→ds.length=es.length∧(∀ (i:Nat) d,ds[i]? = some d→∃ cs,es[i]? = some cs∧fzCs cs=some d)
  | [],ds,h=>by simp [fzCss] at h;subst h;simp
  | cs::es,ds,h=>by
    simp only [fzCss,Option.bind_eq_some_iff,Option.map_eq_some_iff] at h
    obtain ⟨x,hx,r,hr,rfl⟩:=h
    obtain ⟨h1,h2⟩:=fzCss_get hr
    refine ⟨by simp [h1],fun j d hj=>?_⟩
    cases j with
    | zero=>simp at hj;subst hj;exact ⟨cs,by simp,hx⟩
    | succ j=>simp at hj;obtain ⟨c',h3,h4⟩:=h2 j d hj;exact ⟨c',by simpa using h3,h4⟩
theorem fzCss_at {es:List (List C)} {ds:List (List D)} (h:fzCss es=some ds):ds.length=es.length∧(∀ sz,(∀ cs ∈ es,cs.length=sz)→∀ cs ∈ ds,cs.length=sz) ∧
    ∀ i j d,dAt ds i j=some d→∃ c,cellAt es i j=some c∧fzC c=some d:=by
  obtain ⟨h1,h2⟩:=fzCss_get h
  refine ⟨h1,fun sz hl cs hcs=>?_,fun i j d hij=>?_⟩
  · obtain ⟨i,hi,rfl⟩:=List.mem_iff_getElem.1 hcs
    obtain ⟨cs0,h3,h4⟩:=h2 i _ (List.getElem?_eq_getElem hi)
    rw [(fzCs_get h4).1]
    exact hl _ (List.mem_of_getElem? h3)
  · unfold dAt at hij
    cases hd:ds[i]? with
    | none=>simp [hd] at hij
    | some dl=>
      simp only [hd,Option.bind_some] at hij
      obtain ⟨cs,h3,h4⟩:=h2 i dl hd
      obtain ⟨c,h5,h6⟩:=(fzCs_get h4).2 j d hij
      exact ⟨c,by simp [cellAt,h3,h5],h6⟩
theorem cellAt_mem {es:List (List C)} {i j:Nat} {c:C} (h:cellAt es i j=some c):∃ cs ∈ es,c ∈ cs:=by
  obtain ⟨cs,h1,h2⟩:=cellAt_some h
  exact ⟨cs,List.mem_of_getElem? h1,List.mem_of_getElem? h2⟩
theorem fz_row {X:Nat→Prop} {h:Hp} {B:Gh} {w:World} {N':Nat→Prop} (H:HRel X h B w) (hd:∀ x v,RD w (Forb X h B) x v→RD w N' x v) (u s:Nat) :
    ∀ (m:Nat) (r:Row) (q:Path) (v:Value) (off n:Nat) (ds:List (List D)),SizeOf.sizeOf r.es<m→nd h u s q=some (.row r) →
      (∀ q' nn,nd h u s (q++q')=some nn→nn.live→¬N' (B u s (q++q'))) →
      Hdr w (B u s q) r off n v→off+n≤r.es.length→fzCss ((r.es.drop off).take n)=some ds→RD w N' (.sl (r.nn || !r.es.isEmpty) ds) v∧v.oneCell'=true:=by
  intro m
  induction m with
  | zero=>intro r q v off n ds hm;omega
  | succ m ih=>
    intro r q v off n ds hm hq hN hh hle hfz
    obtain ⟨hl,hlens,hat⟩:=fzCss_at hfz
    have hlen:((r.es.drop off).take n).length=n:=by simp;omega
    rcases hh with ⟨h1,h2,rfl⟩ | ⟨hlive,a,cap,arr0,t0,fr0,hb0,hsz0,hcap,rfl,ha⟩
    · have:n=0:=by rw [h2] at hle;simp at hle;omega
      subst this
      rw [hlen] at hl
      have:ds=[]:=List.length_eq_zero_iff.1 hl
      subst this
      rw [h1,h2]
      exact ⟨.slnil,rfl⟩
    · refine ⟨?_,rfl⟩
      obtain ⟨arr,t,fr,hb,hfr,hls,hsz,hcell⟩:=H.node u s q _ hq (by exact hlive)
      have hcells:∀ i j d,dAt ds i j=some d→∃ c,cellAt r.es (off+i) j=some c∧fzC c=some d∧i<n:=by
        intro i j d hij
        obtain ⟨c,hc,hf⟩:=hat i j d hij
        have hin:i<n:=by
          obtain ⟨cs,h3,_⟩:=cellAt_some hc
          have:=(List.getElem?_eq_some_iff.1 h3).1
          omega
        refine ⟨c, ?_,hf,hin⟩
        unfold cellAt at hc ⊢
        rw [List.getElem?_take,if_pos hin,List.getElem?_drop] at hc
        exact hc
      have key:∀ i j d,dAt ds i j=some d→∃ v,arr[(off+i) * r.sz+j]? = some v∧RD w N' d v∧v.oneCell'=true:=by
        intro i j d hij
        obtain ⟨c,hc,hf,hin⟩:=hcells i j d hij
        obtain ⟨v,hv,hrc⟩:=hcell (off+i) j c hc
        refine ⟨v,hv, ?_⟩
        have hndc:∀ q',nd h u s ((q++[(off+i,j)])++q')=ndC c q':=by
          intro q'
          cases ho:h u s with
          | none=>simp [nd,ho] at hq
          | some ob=>
            cases ob with
            | map es=>cases q <;> simp [nd,ho,Ob.nd?] at hq
            | row fx sz nn es=>
              have hq2:ndGo ⟨sz,nn,es⟩ q=some (.row r):=by simpa [nd,ho,Ob.nd?] using hq
              have:=ndGo_append q ⟨sz,nn,es⟩ r ((off+i,j)::q') (rowGo_of_ndGo _ _ _ hq2)
              simp only [nd,ho,Option.bind_some,Ob.nd?,List.append_assoc,List.singleton_append]
              rw [this,ndGo_cons hc]
        cases c with
        | d x=>
          simp only [fzC,Option.some.injEq] at hf
          subst hf
          exact ⟨hd _ _ hrc.1,hrc.2⟩
        | own sz nn es=>
          simp only [fzC,Option.map_eq_some_iff] at hf
          obtain ⟨ds',hds',rfl⟩:=hf
          have hsm:SizeOf.sizeOf es<m:=by
            obtain ⟨cs,h3,h4⟩:=cellAt_mem hc
            have h5:=List.sizeOf_lt_of_mem h3
            have h6:=List.sizeOf_lt_of_mem h4
            simp only [C.own.sizeOf_spec] at h6
            omega
          have hr:=ih ⟨sz,nn,es⟩ (q++[(off+i,j)]) v 0 es.length ds' hsm (by
              have:=hndc []
              simpa [ndC,ndGo] using this) (fun q' nn' h1 h2=>by
              rw [List.append_assoc] at h1 ⊢
              exact hN _ nn' h1 h2) hrc (by simp) (by simpa using hds')
          refine ⟨?_,hr.2⟩
          have hnn:RD w N' (.sl (nn || !es.isEmpty) ds') v:=hr.1
          have hlen':=(fzCss_at hds').1
          cases hes:es with
          | nil=>rw [hes] at hnn;simpa using hnn
          | cons e0 es0=>
            rw [hes] at hnn hlen'
            simp only [List.isEmpty_cons,Bool.not_false,Bool.or_true] at hnn
            cases hnn with
            | sl _ _ a sz cap cvs h0 hcap hsz hN hc h1 hd=>exact .sl nn ds' a sz cap cvs (.inr (by intro e;rw [e] at hlen';simp at hlen')) hcap hsz hN hc h1 hd
        | mp es=>simp [fzC] at hf
        | bad=>simp [fzC] at hf
      have hpos:∀ i j d,dAt ds i j=some d→a=⟨B u s q,off * r.sz,none⟩:=by
        intro i j d hij
        obtain ⟨c,hc,hf,hin⟩:=hcells i j d hij
        exact ha (by omega)
      have hNq:¬N' (B u s q):=by
        have:=hN [] (.row r) (by simpa using hq) hlive
        simpa using this
      rw [hlen] at hl
      rw [←hl]
      refine .sl _ ds a r.sz cap (fun i j=>arr.getD ((off+i) * r.sz+j) undef) ?_ (by omega) (hlens r.sz (fun cs hcs=>hls cs (List.mem_of_mem_drop (List.mem_of_mem_take hcs)))) (fun i j d hij=>?_) (fun i j d hij=>?_) (fun i j d hij=>?_) (fun i j d hij=>?_)
      · left
        rcases hlive with h1 | h1
        · rw [h1];rfl
        · have:r.es.isEmpty=false:=by cases hx:r.es <;> simp_all
          rw [this];simp
      · rw [hpos i j d hij];exact hNq
      · rw [hpos i j d hij,add_at]
        obtain ⟨v,hv,_⟩:=key i j d hij
        have:off * r.sz+(i * r.sz+j)=(off+i) * r.sz+j:=by rw [Nat.add_mul];omega
        simp only [World.cell?,hb,this]
        simp [hv]
      · obtain ⟨v,hv,_,h1⟩:=key i j d hij
        simp [hv,h1]
      · obtain ⟨v,hv,h1,_⟩:=key i j d hij
        simp [hv,h1]
theorem fz_cell {X:Nat→Prop} {h:Hp} {B:Gh} {w:World} {N':Nat→Prop} (H:HRel X h B w) (hd:∀ x v,RD w (Forb X h B) x v→RD w N' x v) {u s:Nat} {q:Path} {r:Row} {e o:Nat} {c:C} {d:D} {v:Value}
    (hq:nd h u s q=some (.row r)) (hc:cellAt r.es e o=some c) (hrc:RC (Forb X h B) w (B u s (q++[(e,o)])) c v)
    (hN:∀ q' nn,nd h u s (q++(e,o)::q')=some nn→nn.live→¬N' (B u s (q++(e,o)::q'))) (hf:fzC c=some d):RD w N' d v∧v.oneCell'=true:=by
  have hndc:∀ q',nd h u s (q++(e,o)::q')=ndC c q':=by
    intro q'
    cases ho:h u s with
    | none=>simp [nd,ho] at hq
    | some ob=>
      cases ob with
      | map es=>cases q <;> simp [nd,ho,Ob.nd?] at hq
      | row fx sz nn es=>
        have hq2:ndGo ⟨sz,nn,es⟩ q=some (.row r):=by simpa [nd,ho,Ob.nd?] using hq
        have:=ndGo_append q ⟨sz,nn,es⟩ r ((e,o)::q') (rowGo_of_ndGo _ _ _ hq2)
        simp only [nd,ho,Option.bind_some,Ob.nd?]
        rw [this,ndGo_cons hc]
  cases c with
  | d x=>
    simp only [fzC,Option.some.injEq] at hf
    subst hf
    exact ⟨hd _ _ hrc.1,hrc.2⟩
  | own sz nn es=>
    simp only [fzC,Option.map_eq_some_iff] at hf
    obtain ⟨ds',hds',rfl⟩:=hf
    have hr:=fz_row H hd u s (SizeOf.sizeOf es+1) ⟨sz,nn,es⟩ (q++[(e,o)]) v 0 es.length ds' (by simp) (by
        have:=hndc []
        simpa [ndC,ndGo] using this) (fun q' nn' h1 h2=>by
        simp only [List.append_assoc,List.singleton_append] at h1 ⊢
        exact hN _ nn' h1 h2) hrc (by simp) (by simpa using hds')
    refine ⟨?_,hr.2⟩
    have hnn:RD w N' (.sl (nn || !es.isEmpty) ds') v:=hr.1
    have hlen':=(fzCss_at hds').1
    cases hes:es with
    | nil=>rw [hes] at hnn;simpa using hnn
    | cons e0 es0=>
      rw [hes] at hnn hlen'
      simp only [List.isEmpty_cons,Bool.not_false,Bool.or_true] at hnn
      cases hnn with
      | sl _ _ a sz cap cvs h0 hcap hsz hN hc h1 hd=>exact .sl nn ds' a sz cap cvs (.inr (by intro e;rw [e] at hlen';simp at hlen')) hcap hsz hN hc h1 hd
  | mp es=>simp [fzC] at hf
  | bad=>simp [fzC] at hf
end Go.Proofs.YtgmphfmoonbfpaaMv

namespace Go.Proofs.YtgmphfmoonbfpaaMv
open Go
def scalarIs:Value→D→Bool
  | .bool b, .bool c=>b==c
  | .int k n, .int k' m=>decide (k=k')&&n==m
  | .string s, .str l=>s.data.toList==l
  | .pointer none, .nilp=>true
  | .slice none 0 0, .sl false []=>true
  | .map none, .nilm=>true
  | .nilFunc, .nilf=>true
  | .nilIface, .nili=>true
  | _,_=>false
def scalarsAre:List Value→List D→Bool
  | [],[]=>true
  | v::vs,d::ds=>scalarIs v d&&scalarsAre vs ds
  | _,_=>false
def constIs:Value→D→Bool
  | .agg vs, .agg ds=>scalarsAre vs.toList ds
  | v,d=>scalarIs v d
def opdOk:Operand→Opd→Bool
  | .tmp t, .t s=>t==s
  | .const v, .k d=>constIs v d
  | .func f, .fn g=>f==g
  | _,_=>false
def opdsOk:List Operand→List Opd→Bool
  | [],[]=>true
  | x::xs,y::ys=>opdOk x y&&opdsOk xs ys
  | _,_=>false
def optOk:Option Operand→Option Opd→Bool
  | none,none=>true
  | some x,some y=>opdOk x y
  | _,_=>false
def sizeIs (P:Program) (t:TypeId) (n:Nat):Bool:=(P.info? t).any (·.size==n)
def bytesIs (P:Program) (t:TypeId) (n:Nat):Bool:=(P.info? t).any (·.bytes==n)
def zeroIs (P:Program) (t:TypeId) (zs:List D):Bool:=(P.info? t).any fun i=>i.zero.any fun v=>scalarsAre v.cells.toList zs
def aggIs (P:Program) (t:TypeId):Bool:=match P.underlying t with | some (.struct _)=>true | some (.array _ _)=>true | _=>false
def plainIs (P:Program) (t:TypeId):Bool:=match P.underlying t with | some (.struct _)=>false | some (.array _ _)=>false | some _=>true | none=>false
def isStr (P:Program) (t:TypeId):Bool:=match P.underlying t with | some .string=>true | _=>false
def isInt (P:Program) (t:TypeId) (k:IntKind):Bool:=match P.underlying t with | some (.int k')=>decide (k'=k) | _=>false
def isBool (P:Program) (t:TypeId):Bool:=match P.underlying t with | some .bool=>true | _=>false
def cellIs:Value→C→Bool
  | v, .d x=>scalarIs v x
  | .slice none 0 0, .own _ false []=>true
  | _,_=>false
def cellsAre:List Value→List C→Bool
  | [],[]=>true
  | v::vs,d::ds=>cellIs v d&&cellsAre vs ds
  | _,_=>false
def partsOk (P:Program) (places:Nat→Option (Nat × Nat)):List (Nat × Operand)→List (Nat × Nat × Opd)→Bool
  | [],[]=>true
  | (i,x)::r,(off,n,y)::s=>decide (places i=some (off,n))&&(opdOk x y&&partsOk P places r s)
  | _,_=>false
def litOk:List (Nat × Operand)→List (Nat × Opd)→Bool
  | [],[]=>true
  | (i,x)::r,(j,y)::s=>i==j&&(opdOk x y&&litOk r s)
  | _,_=>false
def fieldOf (P:Program) (t:TypeId) (i:Nat):Option (Nat × TypeId):=match P.underlying t with
  | some (.struct fs)=>(fs[i]?).map fun f=>(f.offset,f.type)
  | _=>none
def placeOf (P:Program) (t:TypeId) (i:Nat):Option (Nat × Nat):=match P.underlying t with
  | some (.struct fs)=>(fs[i]?).bind fun f=>(P.info? f.type).map fun k=>(f.offset,k.size)
  | _=>none
def sliceElem (P:Program) (t:TypeId):Option TypeId:=match P.underlying t with | some (.slice e)=>some e | _=>none
def kindAt (P:Program) (t:TypeId):Option Nat:=match P.underlying t with
  | some .bool=>some 0
  | some (.int _)=>some 1
  | some .string=>some 2
  | _=>none
def eqFieldsK (P:Program) (rec:TypeId→List Nat→Bool):List Field→Nat→List Nat→Bool
  | [],_,ks=>ks.isEmpty
  | f::fs,off,ks=>f.name != "_" && (f.offset==off &&
      (if aggIs P f.type then (P.info? f.type).any fun i=>rec f.type (ks.take i.size)&&(decide (i.size≤ks.length)&&eqFieldsK P rec fs (off+i.size) (ks.drop i.size))
       else match ks with
        | k::ks=>plainIs P f.type&&(decide (kindAt P f.type=some k)&&eqFieldsK P rec fs (off+1) ks)
        | []=>false))
def eqKinds (P:Program):Nat→TypeId→List Nat→Bool
  | 0,_,_=>false
  | d+1,t,ks=>match P.underlying t with
    | some (.struct fs)=>!P.stoodInHeld t&&eqFieldsK P (eqKinds P d) fs.toList 0 ks
    | _=>false
def keyOk (P:Program) (t:TypeId) (isS:Bool) (ks:List Nat):Bool:=
  if isS then (aggIs P t&&eqKinds P 50 t ks) else (match ks with | [k]=>decide (kindAt P t=some k) | _=>false)
def nilAt (P:Program) (k:Nat) (t:TypeId) (x:Operand):Bool:=match k,P.underlying t,x with
  | 0,some (.slice _), .const (.slice none 0 0)=>true
  | 1,some (.pointer _), .const (.pointer none)=>true
  | 2,some (.map _ _), .const (.map none)=>true
  | 3,some (.func _ _ _), .const .nilFunc=>true
  | _,_,_=>false
def zeroConst:Option Operand→Bool
  | none=>true
  | some (.const (.int .i64 0))=>true
  | _=>false
def chk (P:Program) (o:Op) (ty:TypeId):IOp→Bool
  | .mv x=>match o with
    | .move y=>opdOk y x
    | .assign y=>opdOk y x
    | _=>false
  | .cvss x=>match o with
    | .convert s d y=>opdOk y x&&((isStr P s&&isStr P d))
    | _=>false
  | .mkrow _=>match o with
    | .move (.const (.slice none 0 0))=>true
    | .assign (.const (.slice none 0 0))=>true
    | _=>false
  | .pick c a b=>match o with
    | .pick c' a' b'=>opdOk c' c&&(opdOk a' a&&opdOk b' b)
    | _=>false
  | .alloc cs=>match o with
    | .alloc t=>(P.info? t).any fun i=>i.zero.any fun v=>cellsAre v.cells.toList cs
    | _=>false
  | .box n _ x=>match o with
    | .box t y=>sizeIs P t n&&opdOk y x
    | _=>false
  | .build zero ps=>match o with
    | .build t qs=>zeroIs P t zero&&((match P.underlying t with | some (.struct fs)=>fs.toList.all fun f=>(P.info? f.type).isSome | _=>false)&&partsOk P (placeOf P t) qs.toList ps)
    | _=>false
  | .lit zero n ps=>match o with
    | .buildSlice t m qs=>n==m&&((sliceElem P t).any fun e=>sizeIs P e zero.length&&(zeroIs P e zero&&(decide (n * zero.length≤2 ^ 24)&&decide (0<zero.length))))&&litOk qs.toList ps
    | _=>false
  | .ld1 x=>match o with
    | .load t y=>plainIs P t&&opdOk y x
    | _=>false
  | .ldn n x=>match o with
    | .load t y=>aggIs P t&&(sizeIs P t n&&opdOk y x)
    | _=>false
  | .st n x v=>match o with
    | .store t y u=>sizeIs P t n&&(opdOk y x&&opdOk u v)
    | _=>false
  | .nck x=>match o with
    | .nilCheck y=>opdOk y x
    | _=>false
  | .bin op x y=>match o with
    | .binOp op' t x' y' _=>decide (op=op')&&(opdOk x' x&&opdOk y' y)
    | _=>false
  | .eqb neg x y=>match o with
    | .binOp op' t x' y' _=>decide (op'=if neg then .neq else .eql)&&(opdOk x' x&&(opdOk y' y&&isBool P t))
    | _=>false
  | .eqa neg ks x y=>match o with
    | .binOp op' t x' y' _=>decide (op'=if neg then .neq else .eql)&&(opdOk x' x&&(opdOk y' y&&(aggIs P t&&(eqKinds P 50 t ks && !P.eqGuardType P.depth t))))
    | _=>false
  | .isnil k neg x=>match o with
    | .binOp op' t x' y' _=>decide (op'=if neg then .neq else .eql)&&(opdOk x' x&&nilAt P k t y')
    | _=>false
  | .un op x=>match o with
    | .unOp op' _ y=>decide (op=op')&&opdOk y x
    | _=>false
  | .cvi k x=>match o with
    | .convert s d y=>isInt P d k&&((P.underlying s matches some (.int _))&&opdOk y x)
    | _=>false
  | .cvbs x=>match o with
    | .convert s d y=>isStr P d&&((sliceElem P s).any fun e=>isInt P e .u8)&&opdOk y x
    | _=>false
  | .cvsb x=>match o with
    | .convert s d y=>isStr P s&&((sliceElem P d).any fun e=>isInt P e .u8)&&opdOk y x
    | _=>false
  | .mkmap=>match o with
    | .makeMap _ none=>true
    | _=>false
  | .look isS ks zero ok m k=>match o with
    | .lookup t m' k' ok'=>ok==ok'&&(opdOk m' m&&(opdOk k' k&&match P.underlying t with
      | some (.map kt et)=>((P.info? et).any fun i=>i.zero.any fun v=>constIs v zero)&&keyOk P kt isS ks
      | _=>false))
    | _=>false
  | .upd isS ks m k v=>match o with
    | .mapUpdate t m' k' v'=>opdOk m' m&&(opdOk k' k&&(opdOk v' v&&match P.underlying t with
      | some (.map kt _)=>keyOk P kt isS ks
      | _=>false))
    | _=>false
  | .mkrows zero bytes n=>match o with
    | .makeSlice t l c=>opdOk l n&&(opdOk c n&&((sliceElem P t).any fun e=>sizeIs P e zero.length&&(zeroIs P e zero&&(bytesIs P e bytes&&decide (0<zero.length∧0<bytes)))))
    | _=>false
  | .slc sz x lo hi=>match o with
    | .slice t y l h m=>opdOk y x&&(optOk l lo&&(optOk h hi&&(m.isNone&&(sliceElem P t).any fun e=>sizeIs P e sz)))
    | _=>false
  | .clip x=>match o with
    | .slice t y l h m=>opdOk y x&&(zeroConst l&&(zeroConst h&&(h.isSome&&(zeroConst m&&(m.isSome&&(sliceElem P t).any fun e=>(P.info? e).isSome)))))
    | _=>false
  | .slcs x lo hi=>match o with
    | .slice t y l h m=>isStr P t&&(opdOk y x&&(optOk l lo&&(optOk h hi&&m.isNone)))
    | _=>false
  | .fa off x=>match o with
    | .fieldAddr t y i=>opdOk y x&&(fieldOf P t i).any fun (off',ft)=>off==off'&&(P.info? ft).any fun k=>decide (0<k.size)
    | _=>false
  | .ia size x i=>match o with
    | .indexAddr t y j=>opdOk y x&&(opdOk j i&&(decide (0<size)&&(sliceElem P t).any fun e=>sizeIs P e size))
    | _=>false
  | .ixs x i=>match o with
    | .index t y j=>opdOk y x&&(opdOk j i&&isStr P t)
    | _=>false
  | .fld off n x=>match o with
    | .field t y i=>opdOk y x&&(fieldOf P t i).any fun (off',ft)=>off==off'&&(match n with
      | none=>plainIs P ft
      | some n=>aggIs P ft&&sizeIs P ft n)
    | _=>false
  | .ext x i=>match o with
    | .extract y j=>opdOk y x&&i==j
    | _=>false
  | .call g args=>match o with
    | .call ⟨.value (.func g'),args',_⟩=>g==g'&&opdsOk args'.toList args
    | _=>false
  | .callv x args=>match o with
    | .call ⟨.value y,args',_⟩=>opdOk y x&&opdsOk args'.toList args
    | _=>false
  | .callo g args=>match o with
    | .call ⟨.value (.func g'),args',_⟩=>g==g'&&opdsOk args'.toList args
    | _=>false
  | .callf g args=>match o with
    | .call ⟨.value (.func g'),args',_⟩=>g==g'&&opdsOk args'.toList args
    | _=>false
  | .appz _ sz bytes x y=>match o with
    | .call ⟨.builtin .append,args',ts⟩=>opdsOk args'.toList [x,y]&&(decide (ts.size=2)&&((ts[0]?).any fun t=>(sliceElem P t).any fun e=>sizeIs P e sz&&(bytesIs P e bytes&&((P.info? e).any fun i=>i.zero.any fun z=>z.cells.size==sz)))
        && ((ts[1]?).any fun t=>match P.underlying t with | some .string=>true | some (.slice _)=>true | _=>false))&&decide (0<sz∧0<bytes)
    | _=>false
  | .appm sz bytes x y=>match o with
    | .call ⟨.builtin .append,args',ts⟩=>opdsOk args'.toList [x,y]&&(decide (ts.size=2)&&((ts[0]?).any fun t=>(sliceElem P t).any fun e=>sizeIs P e sz&&(bytesIs P e bytes&&((P.info? e).any fun i=>i.zero.any fun z=>z.cells.size==sz)))
        && ((ts[1]?).any fun t=>match P.underlying t with | some .string=>true | some (.slice _)=>true | _=>false))&&decide (0<sz∧0<bytes)
    | _=>false
  | .stm n x v=>match o with
    | .store t y u=>sizeIs P t n&&(opdOk y x&&opdOk u v)
    | _=>false
  | .len k x=>match o with
    | .call ⟨.builtin .len,args',ts⟩=>opdsOk args'.toList [x]&&(ts[0]?).any fun t=>match k,P.underlying t with
      | 1,some .string=>true
      | 0,some (.slice _)=>true
      | 2,some (.map _ _)=>true
      | _,_=>false
    | _=>false
  | .app _ _ sz bytes x y=>match o with
    | .call ⟨.builtin .append,args',ts⟩=>opdsOk args'.toList [x,y]&&(decide (ts.size=2)&&((ts[0]?).any fun t=>(sliceElem P t).any fun e=>sizeIs P e sz&&(bytesIs P e bytes&&((P.info? e).any fun i=>i.zero.any fun z=>z.cells.size==sz)))
        && ((ts[1]?).any fun t=>match P.underlying t with | some .string=>true | some (.slice _)=>true | _=>false))&&decide (0<sz∧0<bytes)
    | _=>false
  | .cpy sz x y=>match o with
    | .call ⟨.builtin .copy,args',ts⟩=>opdsOk args'.toList [x,y]&&((ts[0]?).any fun t=>(sliceElem P t).any fun e=>sizeIs P e sz)
    | _=>false
  | .mn x xs=>match o with
    | .call ⟨.builtin .min,args',_⟩=>opdsOk args'.toList (x::xs)
    | _=>false
  | .mx x xs=>match o with
    | .call ⟨.builtin .max,args',_⟩=>opdsOk args'.toList (x::xs)
    | _=>false
  | .mkfn g caps=>match o with
    | .makeFunc (.func g') first cs=>g==g'&&(first.isEmpty&&opdsOk cs.toList caps)
    | _=>false
end Go.Proofs.YtgmphfmoonbfpaaMv

namespace Go.Proofs.YtgmphfmoonbfpaaMv
open Go
def FRel (X:Nat→Prop) (h:Hp) (B:Gh) (w:World) (f:Fr) (a:Act):Prop:=∀ t,RV X h B w (f t) (a.tmps.getD t undef)
def updH (h:Hp):List (Nat × Nat × Option Ob)→Hp
  | []=>h
  | (u,s,o)::r=>updH (hset h u s o) r
def EffOk (P:Program) (X:Nat→Prop) (h:Hp) (B:Gh) (w:World) (s:Sem Next) (e:Eff):Prop:=
  ∃ nx cv w' B',s.run P w = .ok nx w'∧(nx = .value cv∨(nx = .skip∧cv=undef))∧Tr X h B w e.kill (updH h e.upd) B' w'∧RV X (updH h e.upd) B' w' e.v cv
theorem scalarIs_rd {v:Value} {d:D} (h:scalarIs v d=true) (w:World) (N:Nat→Prop):RD w N d v∧v.oneCell'=true:=by
  unfold scalarIs at h
  split at h <;> first
    | exact ⟨.nilp,rfl⟩ | exact ⟨.slnil,rfl⟩ | exact ⟨.nilm,rfl⟩ | exact ⟨.nilf,rfl⟩ | exact ⟨.nili,rfl⟩
    | (simp only [beq_iff_eq] at h;subst h;first | exact ⟨.bool _,rfl⟩ | exact ⟨.str _,rfl⟩)
    | (simp only [Bool.and_eq_true,decide_eq_true_eq,beq_iff_eq] at h;obtain ⟨rfl,rfl⟩:=h;exact ⟨.int _ _,rfl⟩)
    | cases h
theorem scalarsAre_get:∀ {vs:List Value} {ds:List D},scalarsAre vs ds=true→vs.length=ds.length ∧ ∀ (i:Nat) (v:Value) (d:D),vs[i]? = some v→ds[i]? = some d→scalarIs v d=true
  | [],[],_=>⟨rfl,fun i v d h=>by simp at h⟩
  | v::vs,d::ds,h=>by
    simp only [scalarsAre,Bool.and_eq_true] at h
    obtain ⟨h1,h2⟩:=scalarsAre_get h.2
    refine ⟨by simp [h1],fun i v' d' hv hd=>?_⟩
    cases i with
    | zero=>simp at hv hd;subst hv;subst hd;exact h.1
    | succ i=>exact h2 i v' d' (by simpa using hv) (by simpa using hd)
  | [],_::_,h=>by simp [scalarsAre] at h
  | _::_,[],h=>by simp [scalarsAre] at h
theorem scalarsAre_rd {vs:List Value} {ds:List D} (h:scalarsAre vs ds=true) (w:World) (N:Nat→Prop):RD w N (.agg ds) (.agg vs.toArray):=by
  obtain ⟨h1,h2⟩:=scalarsAre_get h
  refine .agg ds vs.toArray (by simp [h1]) (fun i v hv=>?_) (fun i d v hd hv=>(scalarIs_rd (h2 i v d (by simpa using hv) hd) w N).1)
  have hv':vs[i]? = some v:=by simpa using hv
  have hlt:=(List.getElem?_eq_some_iff.1 hv').1
  exact (scalarIs_rd (h2 i v _ hv' (List.getElem?_eq_getElem (by omega))) w N).2
theorem constIs_rd {v:Value} {d:D} (h:constIs v d=true) (w:World) (N:Nat→Prop):RD w N d v:=by
  unfold constIs at h
  split at h
  · rename_i vs ds
    have:=scalarsAre_rd h w N
    simpa using this
  · exact (scalarIs_rd h w N).1
section
variable {P:Program} {X:Nat→Prop} {h:Hp} {B:Gh} {w:World} {f:Fr} {a:Act}
theorem opd_ok (F:FRel X h B w f a) {x:Operand} {y:Opd} (hc:opdOk x y=true):RV X h B w (y.ev f) (a.eval x):=by
  unfold opdOk at hc
  split at hc
  · rename_i t s
    have:t=s:=by simpa using hc
    subst this
    exact F t
  · exact .of1 (constIs_rd hc w _)
  · rename_i g g'
    have:g=g':=by simpa using hc
    subst this
    exact ⟨#[],rfl,rfl,fun i v x hv=>by simp at hv⟩
  · cases hc
theorem opd_d (F:FRel X h B w f a) {x:Operand} {y:Opd} {d:D} (hc:opdOk x y=true) (hd:y.ev f = .d d):RD w (Forb X h B) d (a.eval x):=by
  have:=opd_ok F hc
  rw [hd] at this
  exact this
theorem opds_ok (F:FRel X h B w f a):∀ {xs:List Operand} {ys:List Opd},opdsOk xs ys=true→xs.length=ys.length ∧ ∀ (i:Nat) (x:Operand) (y:Opd),xs[i]? = some x→ys[i]? = some y→RV X h B w (y.ev f) (a.eval x)
  | [],[],_=>⟨rfl,fun i x y h=>by simp at h⟩
  | x::xs,y::ys,hc=>by
    simp only [opdsOk,Bool.and_eq_true] at hc
    obtain ⟨h1,h2⟩:=opds_ok F hc.2
    refine ⟨by simp [h1],fun i x' y' hx hy=>?_⟩
    cases i with
    | zero=>simp at hx hy;subst hx;subst hy;exact opd_ok F hc.1
    | succ i=>exact h2 i x' y' (by simpa using hx) (by simpa using hy)
  | [],_::_,hc=>by simp [opdsOk] at hc
  | _::_,[],hc=>by simp [opdsOk] at hc
theorem eff_pure (H:HRel X h B w) {s:Sem Next} {cv:Value} {v:V} {rd:List (Nat × Nat)} (hr:s.run P w = .ok (.value cv) w) (hv:RV X h B w v cv):EffOk P X h B w s { v,rd }:=
  ⟨_,cv,w,B,hr, .inl rfl, .refl H,hv⟩
theorem rd_bool {N:Nat→Prop} {b:Bool} {v:Value} (h:RD w N (.bool b) v):v = .bool b:=by cases h;rfl
theorem rd_int {N:Nat→Prop} {k:IntKind} {n:Int} {v:Value} (h:RD w N (.int k n) v):v = .int k n:=by cases h;rfl
theorem rd_str {N:Nat→Prop} {l:List UInt8} {v:Value} (h:RD w N (.str l) v):∃ s:ByteArray,v = .string s∧s.data.toList=l:=by cases h;exact ⟨_,rfl,rfl⟩
theorem rd_agg {N:Nat→Prop} {l:List D} {v:Value} (h:RD w N (.agg l) v):∃ vs:Array Value,v = .agg vs∧vs.size=l.length∧(∀ (i:Nat) (x:Value),vs[i]? = some x→x.oneCell'=true) ∧ ∀ (i:Nat) (d:D) (x:Value),l[i]? = some d→vs[i]? = some x→RD w N d x:=by
  cases h with
  | agg cs vs hl h1 hd=>exact ⟨vs,rfl,hl,h1,hd⟩
end
end Go.Proofs.YtgmphfmoonbfpaaMv

set_option maxRecDepth 2000
namespace Go.Proofs.YtgmphfmoonbfpaaMv
open Go
section
variable {P:Program} {X:Nat→Prop} {h:Hp} {B:Gh} {w:World} {f:Fr} {a:Act} {call:FuncId→List V→Option V} {dst:Nat} {o:Oper} {e:Eff}
theorem opt_any {α:Type} {p:α→Bool} {o:Option α} (hc:o.any p=true):∃ x,o=some x∧p x=true:=by
  cases o with
  | none=>simp at hc
  | some x=>exact ⟨x,rfl,by simpa using hc⟩
theorem isStr_spec {t:TypeId} (hc:isStr P t=true):P.underlying t=some .string:=by
  unfold isStr at hc;split at hc <;> simp_all
theorem isInt_spec {t:TypeId} {k:IntKind} (hc:isInt P t k=true):P.underlying t=some (.int k):=by
  unfold isInt at hc;split at hc <;> simp_all
theorem sliceElem_spec {t e:TypeId} (hc:sliceElem P t=some e):P.underlying t=some (.slice e):=by
  unfold sliceElem at hc;split at hc <;> simp_all
theorem sizeIs_spec {t:TypeId} {n:Nat} (hc:sizeIs P t n=true):∃ i,P.info? t=some i∧i.size=n:=by
  unfold sizeIs at hc
  cases hi:P.info? t with
  | none=>simp [hi] at hc
  | some i=>exact ⟨i,rfl,by simpa [hi] using hc⟩
theorem run_sizeOf {t:TypeId} {n:Nat} (hc:sizeIs P t n=true) (w:World):(Go.sizeOf t).run P w = .ok n w:=by
  obtain ⟨i,hi,rfl⟩:=sizeIs_spec hc
  simp [Go.sizeOf,typeInfo,hi]
theorem run_isAgg_true {t:TypeId} (hc:aggIs P t=true) (w:World):(isAgg t).run P w = .ok true w:=by
  unfold aggIs at hc
  split at hc <;> first | (rename_i hx;simp [isAgg,run_underlying hx]) | cases hc
theorem run_isAgg_false {t:TypeId} (hc:plainIs P t=true) (w:World):(isAgg t).run P w = .ok false w:=by
  unfold plainIs at hc
  cases hx:P.underlying t with
  | none=>simp [hx] at hc
  | some d=>
    cases d <;> first | (simp [isAgg,run_underlying hx];done) | (simp [hx] at hc;done)
theorem eff_mv (H:HRel X h B w) (F:FRel X h B w f a) {x:Opd} (he:eff call f h dst (.mv x)=some e) (hc:chk P o.op o.type (.mv x)=true):EffOk P X h B w (execOp a.eval o) e:=by
  simp only [eff,Option.some.injEq] at he
  subst he
  simp only [chk] at hc
  split at hc
  · rename_i y ho
    exact eff_pure H (by simp [execOp,ho]) (opd_ok F hc)
  · rename_i y ho
    exact eff_pure H (by simp [execOp,ho]) (opd_ok F hc)
  · cases hc
theorem eff_cvss (H:HRel X h B w) (F:FRel X h B w f a) {x:Opd} (he:eff call f h dst (.cvss x)=some e) (hc:chk P o.op o.type (.cvss x)=true):EffOk P X h B w (execOp a.eval o) e:=by
  simp only [eff] at he
  simp only [chk] at hc
  split at hc
  · rename_i s d y ho
    simp only [Bool.and_eq_true] at hc
    obtain ⟨h1,h2,h3⟩:=hc
    have hs:=isStr_spec h2
    have hd:=isStr_spec h3
    split at he
    · rename_i l hx
      simp only [Option.some.injEq] at he
      subst he
      obtain ⟨b,hv,rfl⟩:=rd_str (opd_d F h1 hx)
      exact eff_pure H (cv:=.string b) (by simp [execOp,ho,convert,run_underlying hs,run_underlying hd,hv]) (.of1 (.str b))
    · cases he
  · cases hc
theorem eff_pick (H:HRel X h B w) (F:FRel X h B w f a) {c x y:Opd} (he:eff call f h dst (.pick c x y)=some e) (hc:chk P o.op o.type (.pick c x y)=true):EffOk P X h B w (execOp a.eval o) e:=by
  simp only [eff] at he
  split at he
  · rename_i t ht
    simp only [Option.some.injEq] at he
    subst he
    simp only [chk] at hc
    split at hc
    · rename_i c' x' y' ho
      simp only [Bool.and_eq_true] at hc
      have hb:=rd_bool (opd_d F hc.1 ht)
      cases t with
      | true=>exact eff_pure H (by simp [execOp,ho,hb,asBool]) (opd_ok F hc.2.1)
      | false=>exact eff_pure H (by simp [execOp,ho,hb,asBool]) (opd_ok F hc.2.2)
    · cases hc
  · cases he
theorem eff_nck (H:HRel X h B w) (F:FRel X h B w f a) {x:Opd} (he:eff call f h dst (.nck x)=some e) (hc:chk P o.op o.type (.nck x)=true):EffOk P X h B w (execOp a.eval o) e:=by
  simp only [eff] at he
  simp only [chk] at hc
  split at hc
  · rename_i y ho
    have hv:=opd_ok F hc
    split at he
    · rename_i u s p e1 o1 hx
      simp only [Option.some.injEq] at he
      subst he
      rw [hx] at hv
      have hv':=hv
      obtain ⟨r,_,_,h3⟩:=hv'
      exact eff_pure H (cv:=a.eval y) (by rw [execOp,ho];simp only [h3];rfl) hv
    · rename_i cs o1 hx
      simp only [Option.some.injEq] at he
      subst he
      rw [hx] at hv
      have hv':=hv
      obtain ⟨b,base,h3,_⟩:=hv'
      exact eff_pure H (cv:=a.eval y) (by rw [execOp,ho];simp only [h3];rfl) hv
    · cases he
  · cases hc
theorem eff_un (H:HRel X h B w) (F:FRel X h B w f a) {op:UnOp} {x:Opd} (he:eff call f h dst (.un op x)=some e) (hc:chk P o.op o.type (.un op x)=true):EffOk P X h B w (execOp a.eval o) e:=by
  simp only [eff] at he
  simp only [chk] at hc
  split at hc
  · rename_i op' t y ho
    simp only [Bool.and_eq_true,decide_eq_true_eq] at hc
    obtain ⟨rfl,hc⟩:=hc
    split at he
    · rename_i d hd
      simp only [Option.map_eq_some_iff] at he
      obtain ⟨c,hc',rfl⟩:=he
      have hv:=opd_d F hc hd
      unfold dun at hc'
      split at hc'
      · simp only [Option.some.injEq] at hc';subst hc'
        have hb:=rd_bool hv
        exact eff_pure H (by simp [execOp,ho,hb,Op.unary]) (.of1 (.bool _))
      · simp only [Option.some.injEq] at hc';subst hc'
        exact eff_pure H (by simp [execOp,ho,rd_int hv,Op.unary,Op.intArith]) (.of1 (.int _ _))
      · simp only [bitsOp,Option.map_some,Option.some.injEq] at hc';subst hc'
        exact eff_pure H (by simp [execOp,ho,rd_int hv,Op.unary,Op.intBits]) (.of1 (.int _ _))
      · cases hc'
    · cases he
  · cases hc
theorem eff_cvi (H:HRel X h B w) (F:FRel X h B w f a) {k:IntKind} {x:Opd} (he:eff call f h dst (.cvi k x)=some e) (hc:chk P o.op o.type (.cvi k x)=true):EffOk P X h B w (execOp a.eval o) e:=by
  simp only [eff] at he
  simp only [chk] at hc
  split at hc
  · rename_i s d y ho
    simp only [Bool.and_eq_true] at hc
    obtain ⟨h1,h2,h3⟩:=hc
    have hd:=isInt_spec h1
    split at he
    · rename_i k' n hx
      simp only [Option.some.injEq] at he
      subst he
      have hv:=rd_int (opd_d F h3 hx)
      split at h2
      · rename_i k0 hs
        refine eff_pure H (cv:=.int k (k.wrap n)) ?_ (.of1 (.int _ _))
        simp [execOp,ho,convert,run_underlying hs,run_underlying hd,hv,Conv.intToInt]
      · cases h2
    · cases he
  · cases hc
theorem eff_ext (H:HRel X h B w) (F:FRel X h B w f a) {x:Opd} {i:Nat} (he:eff call f h dst (.ext x i)=some e) (hc:chk P o.op o.type (.ext x i)=true):EffOk P X h B w (execOp a.eval o) e:=by
  simp only [eff] at he
  simp only [chk] at hc
  split at hc
  · rename_i y j ho
    simp only [Bool.and_eq_true,beq_iff_eq] at hc
    obtain ⟨h1,rfl⟩:=hc
    split at he
    · rename_i vs hx
      have hv:=opd_ok F h1
      rw [hx] at hv
      obtain ⟨arr,ha,hs,hr⟩:=hv
      simp only [Option.bind_eq_some_iff] at he
      obtain ⟨v,hvi,he⟩:=he
      split at he
      · rename_i hat
        simp only [Option.some.injEq] at he
        subst he
        have hlt:=(List.getElem?_eq_some_iff.1 hvi).1
        have hai:arr[i]? = some arr[i]:=Array.getElem?_eq_getElem (by omega)
        refine eff_pure H (cv:=arr[i]) ?_ (.of1 (hr i v _ hvi hai))
        simp [execOp,ho,ha,Instr.extract,hai]
      · cases he
    · cases he
  · cases hc
theorem eff_mkfn (H:HRel X h B w) (F:FRel X h B w f a) {g:FuncId} {caps:List Opd} (he:eff call f h dst (.mkfn g caps)=some e) (hc:chk P o.op o.type (.mkfn g caps)=true):EffOk P X h B w (execOp a.eval o) e:=by
  simp only [eff] at he
  simp only [chk] at hc
  split at hc
  · rename_i g' first cs ho
    simp only [Bool.and_eq_true,beq_iff_eq] at hc
    obtain ⟨rfl,h1,h2⟩:=hc
    split at he
    · rename_i hat
      simp only [Option.some.injEq] at he
      subst he
      have hf:first = #[]:=by simpa using h1
      subst hf
      refine eff_pure H (cv:=.func (.func g) #[] (cs.map a.eval)) (by simp [execOp,ho,Instr.makeFunc]) ⟨_,rfl, ?_, ?_⟩
      · have:=(opds_ok F h2).1
        simp at this ⊢;exact this
      · intro i v x hv hx
        obtain ⟨hl,hr⟩:=opds_ok F h2
        simp only [List.getElem?_map,Option.map_eq_some_iff] at hv
        obtain ⟨y,hy,rfl⟩:=hv
        simp only [Array.getElem?_map,Option.map_eq_some_iff] at hx
        obtain ⟨z,hz,rfl⟩:=hx
        refine (hr i z y (by simpa using hz) hy).to1 ?_
        have:=List.all_eq_true.1 hat (y.ev f) (List.mem_map.2 ⟨y,List.mem_of_getElem? hy,rfl⟩)
        exact this
    · cases he
  · cases hc
end
end Go.Proofs.YtgmphfmoonbfpaaMv

set_option maxRecDepth 2000
namespace Go.Proofs.YtgmphfmoonbfpaaMv
open Go
section
variable {P:Program} {X:Nat→Prop} {h:Hp} {B:Gh} {w:World} {f:Fr} {a:Act} {call:FuncId→List V→Option V} {dst:Nat} {o:Oper} {e:Eff}
theorem row?_spec {u s:Nat} {p:Path} {r:Row} (hr:(h u s).bind (·.row? p)=some r):∃ ob,h u s=some ob∧ob.row? p=some r:=by
  cases ho:h u s with
  | none=>simp [ho] at hr
  | some ob=>exact ⟨ob,rfl,by simpa [ho] using hr⟩
theorem row?_nd {u s:Nat} {p:Path} {r:Row} (hr:(h u s).bind (·.row? p)=some r):nd h u s p=some (.row r):=by
  obtain ⟨ob,h1,h2⟩:=row?_spec hr
  exact nd_of_row? h1 h2
theorem live_of_cell {r:Row} {e o:Nat} {c:C} (hc:cellAt r.es e o=some c):(Nd.row r).live:=.inr (by
  intro he
  simp [cellAt,he] at hc)
theorem cell_of (H:HRel X h B w) {u s:Nat} {p:Path} {r:Row} (hr:nd h u s p=some (.row r)) {e1 o1:Nat} {c:C} (hc:cellAt r.es e1 o1=some c) :
    ∃ v,w.cell? ⟨B u s p,e1 * r.sz+o1,none⟩=some v∧RC (Forb X h B) w (B u s (p++[(e1,o1)])) c v:=by
  obtain ⟨arr,t,fr,h1,h2,h3,h4,h5⟩:=H.node u s p _ hr (live_of_cell hc)
  obtain ⟨v,hv,hrc⟩:=h5 e1 o1 c hc
  exact ⟨v,by simp [World.cell?,h1,hv],hrc⟩
theorem nd_cell {u s:Nat} {p:Path} {r:Row} (hr:nd h u s p=some (.row r)) {e1 o1:Nat} {c:C} (hc:cellAt r.es e1 o1=some c) (q:Path):nd h u s (p++(e1,o1)::q)=ndC c q:=by
  cases ho:h u s with
  | none=>simp [nd,ho] at hr
  | some ob=>
    cases ob with
    | map es=>cases p <;> simp [nd,ho,Ob.nd?] at hr
    | row fx sz nn es=>
      have hq2:ndGo ⟨sz,nn,es⟩ p=some (.row r):=by simpa [nd,ho,Ob.nd?] using hr
      have:=ndGo_append p ⟨sz,nn,es⟩ r ((e1,o1)::q) (rowGo_of_ndGo _ _ _ hq2)
      simp only [nd,ho,Option.bind_some,Ob.nd?]
      rw [this,ndGo_cons hc]
theorem eff_ld1 (H:HRel X h B w) (F:FRel X h B w f a) {x:Opd} (he:eff call f h dst (.ld1 x)=some e) (hc:chk P o.op o.type (.ld1 x)=true):EffOk P X h B w (execOp a.eval o) e:=by
  simp only [eff] at he
  simp only [chk] at hc
  split at hc
  · rename_i t y ho
    simp only [Bool.and_eq_true] at hc
    have hv:=opd_ok F hc.2
    have hagg:=run_isAgg_false hc.1 w
    have hload:∀ ad v,a.eval y = .pointer (some ad)→w.cell? ad=some v→(execOp a.eval o).run P w = .ok (.value v) w:=by
      intro ad v h1 h2
      simp [execOp,ho,h1,Instr.loadAt,Instr.sureAddr,loadVar,hagg,h2]
    split at he
    · rename_i cs o1 hx
      rw [hx] at hv
      simp only [Option.map_eq_some_iff] at he
      obtain ⟨d,hd,rfl⟩:=he
      obtain ⟨b,base,h3,h4⟩:=hv
      obtain ⟨hn,z,h5,h6,h7⟩:=h4 o1 d hd
      exact eff_pure H (hload _ _ h3 h5) (.of1 h7)
    · rename_i u s p e1 o1 hx
      rw [hx] at hv
      obtain ⟨r0,h1,h2,h3⟩:=hv
      simp only [Option.bind_eq_some_iff] at he
      obtain ⟨r,hr,he⟩:=he
      have hnr:=row?_nd (h:=h) (u:=u) (s:=s) (p:=p) (r:=r) (by simpa [Option.bind_eq_some_iff] using hr)
      rw [h1] at hnr
      injection hnr with hnr;injection hnr with hnr;subst hnr
      split at he
      · rename_i d hcell
        simp only [Option.some.injEq] at he
        subst he
        obtain ⟨v,hv1,hv2⟩:=cell_of H h1 hcell
        exact eff_pure H (hload _ _ h3 hv1) (.of1 hv2.1)
      · rename_i sz nn es hcell
        simp only [Option.some.injEq] at he
        subst he
        obtain ⟨v,hv1,hv2⟩:=cell_of H h1 hcell
        refine eff_pure H (hload _ _ h3 hv1) (.of1 ⟨⟨sz,nn,es⟩, ?_,by simp,hv2⟩)
        rw [nd_cell h1 hcell];rfl
      · rename_i es hcell
        simp only [Option.some.injEq] at he
        subst he
        obtain ⟨v,hv1,hv2⟩:=cell_of H h1 hcell
        refine eff_pure H (hload _ _ h3 hv1) (.of1 (RV1.mp_iff.2 ⟨es, ?_,hv2⟩))
        show nd h u s (p++[(e1,o1)])=_
        rw [nd_cell h1 hcell];rfl
      · cases he
    · cases he
  · cases hc
theorem allD_get:∀ {cs:List C} {ds:List D},allD cs=some ds→cs=ds.map .d
  | [],ds,h=>by simp [allD] at h;subst h;rfl
  | .d x::cs,ds,h=>by
    simp only [allD,Option.map_eq_some_iff] at h
    obtain ⟨r,hr,rfl⟩:=h
    rw [allD_get hr];rfl
  | .own _ _ _::_,ds,h=>by simp [allD] at h
  | .mp _::_,ds,h=>by simp [allD] at h
  | .bad::_,ds,h=>by simp [allD] at h
theorem rd_cells {N:Nat→Prop} {ds:List D} {vs:List Value} (hl:vs.length=ds.length) (hh:∀ (j:Nat) (d:D) (v:Value),ds[j]? = some d→vs[j]? = some v→RD w N d v∧v.oneCell'=true):RD w N (.agg ds) (.agg vs.toArray):=by
  refine .agg ds vs.toArray (by simpa using hl) (fun i v hv=>?_) (fun i d v hd hv=>(hh i d v hd (by simpa using hv)).1)
  have hv':vs[i]? = some v:=by simpa using hv
  have hlt:=(List.getElem?_eq_some_iff.1 hv').1
  exact (hh i _ v (List.getElem?_eq_getElem (by omega)) hv').2
theorem eff_ldn (H:HRel X h B w) (F:FRel X h B w f a) {n:Nat} {x:Opd} (he:eff call f h dst (.ldn n x)=some e) (hc:chk P o.op o.type (.ldn n x)=true):EffOk P X h B w (execOp a.eval o) e:=by
  simp only [eff] at he
  simp only [chk] at hc
  split at hc
  · rename_i t y ho
    simp only [Bool.and_eq_true] at hc
    have hv:=opd_ok F hc.2.2
    have hagg:=run_isAgg_true hc.1 w
    have hsz:=run_sizeOf hc.2.1 w
    have hload:∀ (ad:Addr) (vs:List Value),a.eval y = .pointer (some ad)→vs.length=n→(∀ j v,vs[j]? = some v→w.cell? (ad.add j)=some v)→(execOp a.eval o).run P w = .ok (.value (.agg vs.toArray)) w:=by
      intro ad vs h1 h2 h3
      have:=run_loadCells_list (P:=P) w ad vs h3
      rw [h2] at this
      simp [execOp,ho,h1,Instr.loadAt,Instr.sureAddr,loadVar,hagg,hsz,this]
    split at he
    · rename_i cs o1 hx
      rw [hx] at hv
      split at he
      · rename_i hle
        simp only [Option.some.injEq] at he
        subst he
        obtain ⟨b,base,h3,h4⟩:=hv
        have hg:∀ j,j<n→∃ d v,cs[o1+j]? = some d∧w.cell? ⟨b,base+(o1+j),none⟩=some v∧v.oneCell'=true∧RD w (Forb X h B) d v:=by
          intro j hj
          have hlt:o1+j<cs.length:=by omega
          obtain ⟨_,z,h5,h6,h7⟩:=h4 (o1+j) _ (List.getElem?_eq_getElem hlt)
          exact ⟨_,z,List.getElem?_eq_getElem hlt,h5,h6,h7⟩
        let vs:=(List.range n).map fun j=>((w.cell? ⟨b,base+(o1+j),none⟩).getD undef)
        have hvs:∀ j v,vs[j]? = some v→j<n∧v=((w.cell? ⟨b,base+(o1+j),none⟩).getD undef):=by
          intro j v hj
          simp only [vs,List.getElem?_map,Option.map_eq_some_iff] at hj
          obtain ⟨i,hi,rfl⟩:=hj
          have:=List.getElem?_eq_some_iff.1 hi
          obtain ⟨h1,h2⟩:=this
          simp at h1 h2
          exact ⟨h1,by rw [←h2]⟩
        refine eff_pure H (hload _ vs h3 (by simp [vs]) (fun j v hj=>?_)) (.of1 (rd_cells (by simp [vs];omega) (fun j d v hd hj=>?_)))
        · obtain ⟨h1,h2⟩:=hvs j v hj
          obtain ⟨d,z,_,h6,_⟩:=hg j h1
          rw [add_at,Nat.add_assoc,h6,h2,h6];rfl
        · obtain ⟨h1,h2⟩:=hvs j v hj
          obtain ⟨d',z,h5,h6,h7,h8⟩:=hg j h1
          rw [List.getElem?_take,if_pos h1,List.getElem?_drop,h5] at hd
          simp only [Option.some.injEq] at hd
          subst hd
          rw [h2,h6]
          exact ⟨h8,h7⟩
      · cases he
    · rename_i u s p e1 o1 hx
      rw [hx] at hv
      obtain ⟨r0,h1,h2,h3⟩:=hv
      simp only [Option.bind_eq_some_iff] at he
      obtain ⟨r,hr,cs,hcs,he⟩:=he
      have hnr:=row?_nd (h:=h) (u:=u) (s:=s) (p:=p) (r:=r) (by simpa [Option.bind_eq_some_iff] using hr)
      rw [h1] at hnr
      injection hnr with hnr;injection hnr with hnr;subst hnr
      split at he
      · rename_i hle
        simp only [Option.map_eq_some_iff] at he
        obtain ⟨ds,hds,rfl⟩:=he
        have hds':=allD_get hds
        have hdl:ds.length=n:=by
          have:=congrArg List.length hds'
          simp at this
          omega
        have hg:∀ j,j<n→∃ v,w.cell? ⟨B u s p,e1 * r0.sz+o1+j,none⟩=some v∧v.oneCell'=true ∧ ∃ d,ds[j]? = some d∧RD w (Forb X h B) d v:=by
          intro j hj
          have hlt:j<ds.length:=by omega
          have hc1:cellAt r0.es e1 (o1+j)=some (.d ds[j]):=by
            have:((cs.drop o1).take n)[j]? = some (.d ds[j]):=by rw [hds'];simp [hlt]
            rw [List.getElem?_take,if_pos hj,List.getElem?_drop] at this
            simp [cellAt,hcs,this]
          obtain ⟨v,hv1,hv2⟩:=cell_of H h1 hc1
          exact ⟨v,by rw [Nat.add_assoc];exact hv1,hv2.2,_,List.getElem?_eq_getElem hlt,hv2.1⟩
        let vs:=(List.range n).map fun j=>((w.cell? ⟨B u s p,e1 * r0.sz+o1+j,none⟩).getD undef)
        have hvs:∀ j v,vs[j]? = some v→j<n∧v=((w.cell? ⟨B u s p,e1 * r0.sz+o1+j,none⟩).getD undef):=by
          intro j v hj
          simp only [vs,List.getElem?_map,Option.map_eq_some_iff] at hj
          obtain ⟨i,hi,rfl⟩:=hj
          obtain ⟨h1,h2⟩:=List.getElem?_eq_some_iff.1 hi
          simp at h1 h2
          exact ⟨h1,by rw [←h2]⟩
        refine eff_pure H (hload _ vs h3 (by simp [vs]) (fun j v hj=>?_)) (.of1 (rd_cells (by simp [vs,hdl]) (fun j d v hd hj=>?_)))
        · obtain ⟨h1',h2'⟩:=hvs j v hj
          obtain ⟨z,h6,_⟩:=hg j h1'
          rw [add_at,h6,h2',h6];rfl
        · obtain ⟨h1',h2'⟩:=hvs j v hj
          obtain ⟨z,h6,h7,d',h8,h9⟩:=hg j h1'
          rw [h8] at hd
          simp only [Option.some.injEq] at hd
          subst hd
          rw [h2',h6]
          exact ⟨h9,h7⟩
      · cases he
    · cases he
  · cases hc
theorem fieldOf_spec {t:TypeId} {i off:Nat} {ft:TypeId} (hc:fieldOf P t i=some (off,ft)):∃ fs fd,P.underlying t=some (.struct fs)∧fs[i]? = some fd∧fd.offset=off∧fd.type=ft:=by
  unfold fieldOf at hc
  split at hc
  · rename_i fs hfs
    simp only [Option.map_eq_some_iff] at hc
    obtain ⟨fd,h1,h2⟩:=hc
    injection h2 with h3 h4
    exact ⟨fs,fd,hfs,h1,h3,h4⟩
  · cases hc
theorem eff_fa (H:HRel X h B w) (F:FRel X h B w f a) {off:Nat} {x:Opd} (he:eff call f h dst (.fa off x)=some e) (hc:chk P o.op o.type (.fa off x)=true):EffOk P X h B w (execOp a.eval o) e:=by
  simp only [eff] at he
  simp only [chk] at hc
  split at hc
  · rename_i t y i ho
    simp only [Bool.and_eq_true] at hc
    have hv:=opd_ok F hc.1
    obtain ⟨⟨off',ft⟩,hf,hc2⟩:=opt_any hc.2
    simp only [Bool.and_eq_true,beq_iff_eq] at hc2
    obtain ⟨rfl,hc3⟩:=hc2
    obtain ⟨k,hk,hk2⟩:=opt_any hc3
    have hk0:0<k.size:=of_decide_eq_true hk2
    obtain ⟨fs,fd,h1,h2,h3,h4⟩:=fieldOf_spec hf
    have hrun:∀ b n,a.eval y = .pointer (some ⟨b,n,none⟩)→(execOp a.eval o).run P w = .ok (.value (.pointer (some ⟨b,n+off,none⟩))) w:=by
      intro b n hb
      subst h4
      have:¬k.size=0:=by omega
      simp [execOp,ho,hb,Instr.fieldAt,run_underlying h1,h2,Instr.sureAddr,fieldPlace,Go.sizeOf,typeInfo,hk,this,h3,add_at]
    split at he
    · rename_i u s p e1 o1 hx
      rw [hx] at hv
      simp only [Option.some.injEq] at he
      subst he
      obtain ⟨r0,h5,h6,h7⟩:=hv
      refine eff_pure H (hrun _ _ h7) (.of1 ⟨r0,h5,h6, ?_⟩)
      rw [Nat.add_assoc]
    · rename_i cs o1 hx
      rw [hx] at hv
      simp only [Option.some.injEq] at he
      subst he
      obtain ⟨b,base,h5,h6⟩:=hv
      exact eff_pure H (hrun _ _ h5) (.of1 ⟨b,base,by rw [Nat.add_assoc],h6⟩)
    · cases he
  · cases hc
theorem dnat_spec {v:V} {k:Nat} (hd:dnat v=some k):∃ kd,v = .d (.int kd (k:Int)):=by
  unfold dnat at hd
  split at hd
  · rename_i kd n
    split at hd
    · rename_i h0
      simp only [Option.some.injEq] at hd
      exact ⟨kd,by rw [←hd,Int.toNat_of_nonneg h0]⟩
    · cases hd
  · cases hd
theorem eff_ia (H:HRel X h B w) (F:FRel X h B w f a) {size:Nat} {x i:Opd} (he:eff call f h dst (.ia size x i)=some e) (hc:chk P o.op o.type (.ia size x i)=true):EffOk P X h B w (execOp a.eval o) e:=by
  simp only [eff] at he
  simp only [chk] at hc
  split at hc
  · rename_i t y j ho
    simp only [Bool.and_eq_true] at hc
    have hv:=opd_ok F hc.1
    have hpos:0<size:=of_decide_eq_true hc.2.2.1
    obtain ⟨el,hel,hc3⟩:=opt_any hc.2.2.2
    have hu:=sliceElem_spec hel
    have hsz:=run_sizeOf hc3 w
    split at he
    · rename_i u s p off n k hx hi
      rw [hx] at hv
      obtain ⟨kd,hik⟩:=dnat_spec hi
      have hiv:=rd_int (opd_d F hc.2.1 hik)
      simp only [Option.bind_eq_some_iff] at he
      obtain ⟨r,hr,he⟩:=he
      have hnr:=row?_nd (h:=h) (u:=u) (s:=s) (p:=p) (r:=r) (by simpa [Option.bind_eq_some_iff] using hr)
      split at he
      · rename_i hcond
        obtain ⟨hrsz,hkn⟩:=hcond
        simp only [Option.some.injEq] at he
        subst he
        obtain ⟨r0,h1,h2,h3⟩:=hv
        rw [h1] at hnr
        injection hnr with hnr;injection hnr with hnr;subst hnr
        rcases h3 with ⟨h4,h5,h6⟩ | ⟨hlive,ad,cap,arr,tt,fr,h4,h5,h6,h7,h8⟩
        · rw [h5] at h2;simp at h2;omega
        · have had:=h8 (by omega)
          subst had
          refine eff_pure H (cv:=.pointer (some ⟨B u s p,off * r0.sz+k * size,none⟩)) ?_ (.of1 ⟨r0,h1,by omega, ?_⟩)
          · have hlt:(k:Int)<(n:Int):=by omega
            simp [execOp,ho,h7,hiv,Instr.indexAt,asIntOf,run_underlying hu,hkn,hsz,add_at]
          · rw [hrsz,Nat.add_comm k off,Nat.add_mul,Nat.add_zero]
      · cases he
    · rename_i nn es k hx hi
      rw [hx] at hv
      obtain ⟨kd,hik⟩:=dnat_spec hi
      have hiv:=rd_int (opd_d F hc.2.1 hik)
      simp only [Option.bind_eq_some_iff] at he
      obtain ⟨cs,hcs,he⟩:=he
      split at he
      · rename_i hl
        simp only [Option.some.injEq] at he
        subst he
        have hlt:=(List.getElem?_eq_some_iff.1 hcs).1
        generalize hav:a.eval y=av at hv
        cases hv with
        | slnil=>simp at hlt
        | sl _ _ ad sz cap cvs h0 hcap hsz2 hN hcc h1 hd=>
          have hcs2:=hsz2 cs (List.mem_of_getElem? hcs)
          have hsz3:sz=size:=by omega
          subst hsz3
          have hlt':(k:Int)<(es.length:Int):=by omega
          by_cases hz:cs=[]
          · rw [hz] at hcs2;simp at hcs2;omega
          · have hd0:∃ d,dAt es k 0=some d:=by
              cases cs with
              | nil=>exact absurd rfl hz
              | cons d r=>exact ⟨d,by simp [dAt,hcs]⟩
            obtain ⟨d0,hd0⟩:=hd0
            have hc0:=hcc k 0 d0 hd0
            have hsp:∃ bb oo,ad.add (k * sz)=⟨bb,oo,none⟩∧bb=ad.block ∧ ∀ j,ad.add (k * sz+j)=⟨bb,oo+j,none⟩:=by
              obtain ⟨bb,oo,sp⟩:=ad
              by_cases hk:k * sz=0
              · have:sp=none:=by
                  rw [Nat.add_zero] at hc0
                  simp only [hk,Addr.add,if_true] at hc0
                  cases sp with
                  | none=>rfl
                  | some q=>simp [World.cell?] at hc0;split at hc0 <;> simp at hc0
                subst this
                exact ⟨bb,oo,by simp [hk,Addr.add],rfl,fun j=>by rw [hk,Nat.zero_add,add_at]⟩
              · exact ⟨bb,oo+k * sz,by simp [Addr.add,hk],rfl,fun j=>by
                  have:¬(k * sz+j=0):=by omega
                  rw [Addr.add,if_neg this,Nat.add_assoc]⟩
            obtain ⟨bb,oo,hA,hbb,hA2⟩:=hsp
            refine eff_pure H (cv:=.pointer (some ⟨bb,oo,none⟩)) ?_ (.of1 ⟨bb,oo,by rw [Nat.add_zero],fun j d hj=>?_⟩)
            · simp [execOp,ho,hav,hiv,Instr.indexAt,asIntOf,run_underlying hu,hlt,hsz,hA]
            · have hdj:dAt es k j=some d:=by simp [dAt,hcs,hj]
              refine ⟨by rw [hbb];exact hN k j d hdj,cvs k j, ?_,h1 k j d hdj,hd k j d hdj⟩
              have:=hcc k j d hdj
              rwa [hA2] at this
      · cases he
    · cases he
  · cases hc
theorem eff_ixs (H:HRel X h B w) (F:FRel X h B w f a) {x i:Opd} (he:eff call f h dst (.ixs x i)=some e) (hc:chk P o.op o.type (.ixs x i)=true):EffOk P X h B w (execOp a.eval o) e:=by
  simp only [eff] at he
  simp only [chk] at hc
  split at hc
  · rename_i t y j ho
    simp only [Bool.and_eq_true] at hc
    have hu:=isStr_spec hc.2.2
    split at he
    · rename_i l k hx hi
      obtain ⟨kd,hik⟩:=dnat_spec hi
      have hiv:=rd_int (opd_d F hc.2.1 hik)
      obtain ⟨b,hb,rfl⟩:=rd_str (opd_d F hc.1 hx)
      simp only [Option.map_eq_some_iff] at he
      obtain ⟨c,hc',rfl⟩:=he
      refine eff_pure H (cv:=.int .u8 c.toNat) ?_ (.of1 (.int _ _))
      have hlt:=(List.getElem?_eq_some_iff.1 hc').1
      have hg:b[k]? = some c:=by
        have hbs:b.size=b.data.toList.length:=by rw [Array.length_toList];rfl
        have hlt2:k<b.size:=by omega
        rw [getElem?_pos b k hlt2]
        obtain ⟨h1,h2⟩:=List.getElem?_eq_some_iff.1 hc'
        rw [←h2];rfl
      simp [execOp,ho,hb,hiv,Instr.index,asIntOf,run_underlying hu,hg]
    · cases he
  · cases hc
theorem eff_fld (H:HRel X h B w) (F:FRel X h B w f a) {off:Nat} {n:Option Nat} {x:Opd} (he:eff call f h dst (.fld off n x)=some e) (hc:chk P o.op o.type (.fld off n x)=true):EffOk P X h B w (execOp a.eval o) e:=by
  simp only [eff] at he
  simp only [chk] at hc
  split at hc
  · rename_i t y i ho
    simp only [Bool.and_eq_true] at hc
    have hv:=opd_ok F hc.1
    obtain ⟨⟨off',ft⟩,hf,hc2⟩:=opt_any hc.2
    simp only [Bool.and_eq_true,beq_iff_eq] at hc2
    obtain ⟨rfl,hc3⟩:=hc2
    obtain ⟨fs,fd,h1,h2,h3,h4⟩:=fieldOf_spec hf
    subst h4;subst h3
    split at he
    · rename_i cs hx
      rw [hx] at hv
      obtain ⟨vs,hvs,hl,hone,hrd⟩:=rd_agg hv
      split at he
      · simp only [Option.map_eq_some_iff] at he
        obtain ⟨c,hc',rfl⟩:=he
        have hlt:=(List.getElem?_eq_some_iff.1 hc').1
        have hg:vs[fd.offset]? = some vs[fd.offset]:=Array.getElem?_eq_getElem (by omega)
        refine eff_pure H (cv:=vs[fd.offset]) ?_ (.of1 (hrd _ _ _ hc' hg))
        simp [execOp,ho,hvs,Instr.field,run_underlying h1,h2,asAgg,part,run_isAgg_false hc3,hg]
      · rename_i m
        split at he
        · rename_i hle
          simp only [Option.some.injEq] at he
          subst he
          simp only [Bool.and_eq_true] at hc3
          refine eff_pure H (cv:=.agg (vs.extract fd.offset (fd.offset+m))) ?_ (.of1 (.agg _ _ ?_ ?_ ?_))
          · simp [execOp,ho,hvs,Instr.field,run_underlying h1,h2,asAgg,part,run_isAgg_true hc3.1,run_sizeOf hc3.2]
          · simp;omega
          · intro j v hj
            simp only [Array.getElem?_extract] at hj
            split at hj
            · exact hone _ _ hj
            · cases hj
          · intro j d v hd hj
            simp only [Array.getElem?_extract] at hj
            rw [List.getElem?_take] at hd
            split at hd
            · rw [List.getElem?_drop] at hd
              split at hj
              · exact hrd _ _ _ hd hj
              · cases hj
            · cases hd
        · cases he
    · cases he
  · cases hc
end
end Go.Proofs.YtgmphfmoonbfpaaMv

set_option maxRecDepth 2000
namespace Go.Proofs.YtgmphfmoonbfpaaMv
open Go
section
variable {P:Program} {X:Nat→Prop} {h:Hp} {B:Gh} {w:World} {f:Fr} {a:Act} {call:FuncId→List V→Option V} {dst:Nat} {o:Oper} {e:Eff}
theorem eqGuard_int (op:BinOp) (t:TypeId) (x y:Operand) (k k':IntKind) (m n:Int) (w:World):(eqGuard op t x y (.int k m) (.int k' n)).run P w = .ok () w:=by
  unfold eqGuard;cases op <;> rfl
theorem eqGuard_str (op:BinOp) (t:TypeId) (x y:Operand) (s s':ByteArray) (w:World):(eqGuard op t x y (.string s) (.string s')).run P w = .ok () w:=by
  unfold eqGuard;cases op <;> rfl
theorem eqGuard_bool (op:BinOp) (t:TypeId) (x y:Operand) (s s':Bool) (w:World):(eqGuard op t x y (.bool s) (.bool s')).run P w = .ok () w:=by
  unfold eqGuard;cases op <;> rfl
theorem ba_size (b:ByteArray):b.size=b.data.toList.length:=by rw [Array.length_toList];rfl
theorem rd_str_mk {N:Nat→Prop} (b:ByteArray) (l:List UInt8) (h:b.data.toList=l):RD w N (.str l) (.string b):=by subst h;exact .str b
theorem eff_bin (H:HRel X h B w) (F:FRel X h B w f a) {op:BinOp} {x y:Opd} (he:eff call f h dst (.bin op x y)=some e) (hc:chk P o.op o.type (.bin op x y)=true):EffOk P X h B w (execOp a.eval o) e:=by
  simp only [eff] at he
  simp only [chk] at hc
  split at hc
  · rename_i op' t x' y' ty' ho
    simp only [Bool.and_eq_true,decide_eq_true_eq] at hc
    obtain ⟨rfl,h1,h2⟩:=hc
    split at he
    · rename_i d1 d2 hx hy
      simp only [Option.map_eq_some_iff] at he
      obtain ⟨c,hc',rfl⟩:=he
      have v1:=opd_d F h1 hx
      have v2:=opd_d F h2 hy
      have key:∀ {cv:Value},(∀ w:World,(eqGuard op t x' y' (a.eval x') (a.eval y')).run P w = .ok () w)→(binOp op t (a.eval x') (a.eval y')).run P w = .ok cv w→(execOp a.eval o).run P w = .ok (.value cv) w:=by
        intro cv hg hb
        simp [execOp,ho,hg,hb]
      unfold dbin at hc'
      split at hc'
      all_goals first
        | (simp only [rd_int v1,rd_int v2] at key
           first
             | (split at hc'
                · rename_i hk
                  subst hk
                  first
                    | (simp only [Option.some.injEq] at hc';subst hc'
                       first
                         | (refine eff_pure H (key (cv:=.int _ _) (fun w=>eqGuard_int ..) ?_) (.of1 (.int _ _));simp [binOp,Op.intArith,Op.intDiv,Op.intBits];done)
                         | (refine eff_pure H (key (cv:=.bool _) (fun w=>eqGuard_int ..) ?_) (.of1 (.bool _));simp [binOp,Op.intCmp];done))
                    | (split at hc'
                       · cases hc'
                       · rename_i hz
                         simp only [Option.some.injEq] at hc';subst hc'
                         refine eff_pure H (key (cv:=.int _ _) (fun w=>eqGuard_int ..) ?_) (.of1 (.int _ _));simp [binOp,Op.intDiv,hz];done)
                    | (simp only [bitsOp,Option.map_some,Option.some.injEq] at hc';subst hc'
                       refine eff_pure H (key (cv:=.int _ _) (fun w=>eqGuard_int ..) ?_) (.of1 (.int _ _));simp [binOp,Op.intBits];done)
                · cases hc')
             | (split at hc'
                · cases hc'
                · rename_i hz
                  simp only [Option.some.injEq] at hc';subst hc'
                  refine eff_pure H (key (cv:=.int _ _) (fun w=>eqGuard_int ..) ?_) (.of1 (.int _ _));simp [binOp,Op.shift,hz];done))
        | (obtain ⟨s1,e1,rfl⟩:=rd_str v1
           obtain ⟨s2,e2,rfl⟩:=rd_str v2
           simp only [e1,e2] at key
           first
             | (split at hc'
                · cases hc'
                · rename_i hz
                  simp only [Option.some.injEq] at hc';subst hc'
                  refine eff_pure H (key (cv:=.string (s1++s2)) (fun w=>eqGuard_str ..) ?_) (.of1 (rd_str_mk _ _ (by simp)))
                  have hz':¬IntKind.i64.max<((s1.size+s2.size:Nat):Int):=by rw [ba_size,ba_size];exact hz
                  simp only [binOp,Op.stringOp,Sem.run_ite]
                  rw [if_neg hz'];rfl)
             | (simp only [Option.some.injEq] at hc';subst hc'
                refine eff_pure H (key (cv:=.bool _) (fun w=>eqGuard_str ..) ?_) (.of1 (.bool _));simp [binOp,Op.stringOp,ByteArray.toList_eq];done))
        | cases hc'
    · cases he
  · cases hc
theorem run_eq_bool {t:TypeId} (hu:P.underlying t=some .bool) (b1 b2:Bool) (w:World):(Op.equal t (.bool b1) (.bool b2)).run P w = .ok (b1==b2) w:=by
  unfold Op.equal Op.maxDepth
  rw [show (10000:Nat)=9999+1 from rfl,Op.equalIn]
  simp [run_underlying hu]
theorem eff_eqb (H:HRel X h B w) (F:FRel X h B w f a) {neg:Bool} {x y:Opd} (he:eff call f h dst (.eqb neg x y)=some e) (hc:chk P o.op o.type (.eqb neg x y)=true):EffOk P X h B w (execOp a.eval o) e:=by
  simp only [eff] at he
  simp only [chk] at hc
  split at hc
  · rename_i op' t x' y' ty' ho
    simp only [Bool.and_eq_true,decide_eq_true_eq] at hc
    obtain ⟨rfl,h1,h2,h3⟩:=hc
    have hu:P.underlying t=some .bool:=by
      unfold isBool at h3;split at h3 <;> simp_all
    split at he
    · rename_i b1 b2 hx hy
      simp only [Option.some.injEq] at he
      subst he
      have v1:=rd_bool (opd_d F h1 hx)
      have v2:=rd_bool (opd_d F h2 hy)
      refine eff_pure H (cv:=.bool (if neg then !(b1==b2) else (b1==b2))) ?_ (.of1 (.bool _))
      have hq:=run_eq_bool hu b1 b2 w
      cases neg with
      | false=>
        have hb:(binOp .eql t (.bool b1) (.bool b2)).run P w = .ok (.bool (b1==b2)) w:=by
          show ((do pure (.bool (←Op.equal t (.bool b1) (.bool b2))):Sem Value)).run P w=_
          simp [hq]
        simp [execOp,ho,v1,v2,eqGuard_bool,hb]
      | true=>
        have hb:(binOp .neq t (.bool b1) (.bool b2)).run P w = .ok (.bool (!(b1==b2))) w:=by
          show ((do pure (.bool (!(←Op.equal t (.bool b1) (.bool b2)))):Sem Value)).run P w=_
          simp [hq]
        simp [execOp,ho,v1,v2,eqGuard_bool,hb]
    · cases he
  · cases hc
end
end Go.Proofs.YtgmphfmoonbfpaaMv

set_option maxRecDepth 2000
namespace Go.Proofs.YtgmphfmoonbfpaaMv
open Go
section
variable {P:Program} {X:Nat→Prop} {h:Hp} {B:Gh} {w:World} {f:Fr} {a:Act} {call:FuncId→List V→Option V} {dst:Nat} {o:Oper} {e:Eff}
theorem run_eq_slice {t e:TypeId} (hu:P.underlying t=some (.slice e)) (b:Option Addr) (n c:Nat) (w:World):(Op.equal t (.slice b n c) (.slice none 0 0)).run P w = .ok b.isNone w:=by
  unfold Op.equal Op.maxDepth
  rw [show (10000:Nat)=9999+1 from rfl,Op.equalIn]
  cases b <;> simp [run_underlying hu]
theorem run_eq_ptr {t e:TypeId} (hu:P.underlying t=some (.pointer e)) (b:Option Addr) (w:World):(Op.equal t (.pointer b) (.pointer none)).run P w = .ok b.isNone w:=by
  unfold Op.equal Op.maxDepth
  rw [show (10000:Nat)=9999+1 from rfl,Op.equalIn]
  cases b <;> simp [run_underlying hu]
theorem run_eq_map {t k e:TypeId} (hu:P.underlying t=some (.map k e)) (b:Option Nat) (w:World):(Op.equal t (.map b) (.map none)).run P w = .ok b.isNone w:=by
  unfold Op.equal Op.maxDepth
  rw [show (10000:Nat)=9999+1 from rfl,Op.equalIn]
  cases b <;> simp [run_underlying hu]
theorem run_eq_fn {t:TypeId} {x y:Array TypeId} {z:Bool} (hu:P.underlying t=some (.func x y z)) (fn:Fn) (q r:Array Value) (w:World):(Op.equal t (.func fn q r) .nilFunc).run P w = .ok false w:=by
  unfold Op.equal Op.maxDepth
  rw [show (10000:Nat)=9999+1 from rfl,Op.equalIn]
  simp [run_underlying hu]
theorem run_eq_nilfn {t:TypeId} {x y:Array TypeId} {z:Bool} (hu:P.underlying t=some (.func x y z)) (w:World):(Op.equal t .nilFunc .nilFunc).run P w = .ok true w:=by
  unfold Op.equal Op.maxDepth
  rw [show (10000:Nat)=9999+1 from rfl,Op.equalIn]
  simp [run_underlying hu]
theorem run_isnil {x:Operand} {t ty:TypeId} {y:Operand} {neg c:Bool} (ho:o.op = .binOp (if neg then .neq else .eql) t x y ty)
    (hq:(Op.equal t (a.eval x) (a.eval y)).run P w = .ok c w) (hg:∀ op,(eqGuard op t x y (a.eval x) (a.eval y)).run P w = .ok () w)
    (h1:binOp .eql t (a.eval x) (a.eval y)=(do pure (.bool (←Op.equal t (a.eval x) (a.eval y)))))
    (h2:binOp .neq t (a.eval x) (a.eval y)=(do pure (.bool (!(←Op.equal t (a.eval x) (a.eval y)))))) :
    (execOp a.eval o).run P w = .ok (.value (.bool (if neg then !c else c))) w:=by
  cases neg with
  | false=>
    simp only [Bool.false_eq_true,if_false] at ho ⊢
    simp only [execOp,ho,Sem.run_bind,Sem.run_map,hg,Result.andThen,h1,hq,Sem.run_pure]
  | true=>
    simp only [if_true] at ho ⊢
    simp only [execOp,ho,Sem.run_bind,Sem.run_map,hg,Result.andThen,h2,hq,Sem.run_pure]
theorem hdr_form {b:Nat} {r:Row} {off n:Nat} {v:Value} (hh:Hdr w b r off n v) (hle:off+n≤r.es.length):∃ ad cap,v = .slice ad n cap∧ad.isNone=(!r.nn&&r.es.isEmpty):=by
  rcases hh with ⟨h1,h2,rfl⟩ | ⟨hl,ad,cap,arr,t,fr,h1,h2,h3,rfl,h5⟩
  · rw [h2] at hle
    have hn:n=0:=by simp at hle;omega
    subst hn
    exact ⟨none,0,rfl,by simp [h1,h2]⟩
  · refine ⟨some ad,cap,rfl, ?_⟩
    rcases hl with hl | hl
    · simp [hl]
    · have:r.es.isEmpty=false:=by cases hx:r.es <;> simp_all
      simp [this]
theorem rd_sl {N:Nat→Prop} {nn:Bool} {es:List (List D)} {v:Value} (hv:RD w N (.sl nn es) v):∃ ad cap,v = .slice ad es.length cap∧ad.isNone=(!nn&&es.isEmpty):=by
  cases hv with
  | slnil=>exact ⟨none,0,rfl,rfl⟩
  | sl _ _ ad sz cap cvs h0 hcap hsz hN hc h1 hd=>
    refine ⟨some ad,cap,rfl, ?_⟩
    rcases h0 with h0 | h0
    · simp [h0]
    · have:es.isEmpty=false:=by cases hx:es <;> simp_all
      simp [this]
theorem rd_nilp {N:Nat→Prop} {v:Value} (h:RD w N .nilp v):v = .pointer none:=by cases h;rfl
theorem rd_nilm {N:Nat→Prop} {v:Value} (h:RD w N .nilm v):v = .map none:=by cases h;rfl
theorem rd_nilf {N:Nat→Prop} {v:Value} (h:RD w N .nilf v):v = .nilFunc:=by cases h;rfl
theorem eff_isnil (H:HRel X h B w) (F:FRel X h B w f a) {k:Nat} {neg:Bool} {x:Opd} (he:eff call f h dst (.isnil k neg x)=some e) (hc:chk P o.op o.type (.isnil k neg x)=true):EffOk P X h B w (execOp a.eval o) e:=by
  simp only [chk] at hc
  split at hc
  · rename_i op' t x' y' ty' ho
    simp only [Bool.and_eq_true,decide_eq_true_eq] at hc
    obtain ⟨rfl,h1,h2⟩:=hc
    have hv:=opd_ok F h1
    have fin:∀ {c:Bool} {rd:List (Nat × Nat)},(Op.equal t (a.eval x') (a.eval y')).run P w = .ok c w→(∀ op,(eqGuard op t x' y' (a.eval x') (a.eval y')).run P w = .ok () w) →
        binOp .eql t (a.eval x') (a.eval y')=(do pure (.bool (←Op.equal t (a.eval x') (a.eval y'))))→binOp .neq t (a.eval x') (a.eval y')=(do pure (.bool (!(←Op.equal t (a.eval x') (a.eval y'))))) →
        EffOk P X h B w (execOp a.eval o) { v:=.d (.bool (if neg then !c else c)),rd }:=by
      intro c rd g1 g2 g3 g4
      exact eff_pure H (run_isnil ho g1 g2 g3 g4) (.of1 (.bool _))
    unfold nilAt at h2
    split at h2
    · rename_i el hu
      have hy:a.eval (.const (.slice none 0 0)) = .slice none 0 0:=rfl
      rw [hy] at fin
      have hsl:∀ {ad:Option Addr} {n c:Nat} {rd:List (Nat × Nat)},a.eval x' = .slice ad n c→EffOk P X h B w (execOp a.eval o) { v:=.d (.bool (if neg then !ad.isNone else ad.isNone)),rd }:=by
        intro ad n c rd hx
        rw [hx] at fin
        exact fin (run_eq_slice hu _ _ _ _) (fun op=>by unfold eqGuard;cases op <;> rfl) rfl rfl
      simp only [eff] at he
      split at he
      all_goals first
        | (rename_i nn es hk hx
           simp only [Option.some.injEq] at he
           subst he
           rw [hx] at hv
           obtain ⟨ad,cap,hv1,hv2⟩:=rd_sl hv
           rw [←hv2]
           exact hsl hv1)
        | (rename_i u s p off n hk hx
           simp only [Option.map_eq_some_iff] at he
           obtain ⟨r,hr,rfl⟩:=he
           rw [hx] at hv
           obtain ⟨r0,g1,g2,g3⟩:=hv
           have hnr:=row?_nd hr
           rw [g1] at hnr
           injection hnr with hnr;injection hnr with hnr;subst hnr
           obtain ⟨ad,cap,hv1,hv2⟩:=hdr_form g3 g2
           rw [←hv2]
           exact hsl hv1)
        | (exfalso;omega)
        | cases he
    · rename_i el hu
      have hy:a.eval (.const (.pointer none)) = .pointer none:=rfl
      rw [hy] at fin
      have hsl:∀ {ad:Option Addr} {rd:List (Nat × Nat)},a.eval x' = .pointer ad→EffOk P X h B w (execOp a.eval o) { v:=.d (.bool (if neg then !ad.isNone else ad.isNone)),rd }:=by
        intro ad rd hx
        rw [hx] at fin
        exact fin (run_eq_ptr hu _ _) (fun op=>by unfold eqGuard;cases op <;> rfl) rfl rfl
      simp only [eff] at he
      split at he
      all_goals first
        | (rename_i hk hx
           simp only [Option.some.injEq] at he
           subst he
           rw [hx] at hv
           have hv1:=rd_nilp hv
           have:=hsl (rd:=[]) hv1
           cases neg <;> exact this)
        | (rename_i u s p e1 o1 hk hx
           simp only [Option.some.injEq] at he
           subst he
           rw [hx] at hv
           obtain ⟨r0,g1,g2,g3⟩:=hv
           have:=hsl (rd:=[(u,s)]) g3
           cases neg <;> exact this)
        | (rename_i cs o1 hk hx
           simp only [Option.some.injEq] at he
           subst he
           rw [hx] at hv
           obtain ⟨b,base,g1,_⟩:=hv
           have:=hsl (rd:=[]) g1
           cases neg <;> exact this)
        | (exfalso;omega)
        | cases he
    · rename_i kt el hu
      have hy:a.eval (.const (.map none)) = .map none:=rfl
      rw [hy] at fin
      have hsl:∀ {ad:Option Nat} {rd:List (Nat × Nat)},a.eval x' = .map ad→EffOk P X h B w (execOp a.eval o) { v:=.d (.bool (if neg then !ad.isNone else ad.isNone)),rd }:=by
        intro ad rd hx
        rw [hx] at fin
        exact fin (run_eq_map hu _ _) (fun op=>by unfold eqGuard;cases op <;> rfl) rfl rfl
      simp only [eff] at he
      split at he
      all_goals first
        | (rename_i hk hx
           simp only [Option.some.injEq] at he
           subst he
           rw [hx] at hv
           have hv1:=rd_nilm hv
           have:=hsl (rd:=[]) hv1
           cases neg <;> exact this)
        | (rename_i u s at_ hk hx
           simp only [Option.some.injEq] at he
           subst he
           rw [hx] at hv
           obtain ⟨es,g1,g2⟩:=RV1.mp_iff.1 hv
           have:=hsl (rd:=[(u,s)]) g2
           cases neg <;> exact this)
        | (exfalso;omega)
        | cases he
    · rename_i p1 p2 p3 hu
      have hy:a.eval (.const .nilFunc) = .nilFunc:=rfl
      rw [hy] at fin
      simp only [eff] at he
      split at he
      all_goals first
        | (rename_i hk hx
           simp only [Option.some.injEq] at he
           subst he
           rw [hx] at hv
           have hv1:=rd_nilf hv
           rw [hv1] at fin
           have:=fin (rd:=[]) (run_eq_nilfn hu _) (fun op=>by unfold eqGuard;cases op <;> rfl) rfl rfl
           cases neg <;> exact this)
        | (rename_i g vs hk hx
           simp only [Option.some.injEq] at he
           subst he
           rw [hx] at hv
           obtain ⟨arr,g1,_⟩:=hv
           rw [g1] at fin
           have:=fin (rd:=(V.fn g vs).roots) (run_eq_fn hu _ _ _ _) (fun op=>by unfold eqGuard;cases op <;> rfl) rfl rfl
           cases neg <;> exact this)
        | (exfalso;omega)
        | cases he
    · cases h2
  · cases hc
end
end Go.Proofs.YtgmphfmoonbfpaaMv

set_option maxRecDepth 2000
namespace Go.Proofs.YtgmphfmoonbfpaaMv
open Go
section
variable {P:Program} {X:Nat→Prop} {h:Hp} {B:Gh} {w:World} {f:Fr} {a:Act} {call:FuncId→List V→Option V} {dst:Nat} {o:Oper} {e:Eff}
theorem toList_one {α:Type} {l:Array α} {x:α} (h:l.toList=[x]):l = #[x]:=by
  cases l;simp at h;simp [h]
theorem toList_two {α:Type} {l:Array α} {x y:α} (h:l.toList=[x,y]):l = #[x,y]:=by
  cases l;simp at h;simp [h]
theorem opds1 {xs:Array Operand} {y:Opd} (hc:opdsOk xs.toList [y]=true):∃ x,xs = #[x]∧opdOk x y=true:=by
  generalize hx:xs.toList=l at hc
  match l,hc with
  | [x],hc=>exact ⟨x,toList_one hx,by simpa [opdsOk] using hc⟩
  | [],hc=>simp [opdsOk] at hc
  | _::_::_,hc=>simp [opdsOk] at hc
theorem opds2 {xs:Array Operand} {y z:Opd} (hc:opdsOk xs.toList [y,z]=true):∃ x x',xs = #[x,x']∧opdOk x y=true∧opdOk x' z=true:=by
  generalize hx:xs.toList=l at hc
  match l,hc with
  | [x,x'],hc=>exact ⟨x,x',toList_two hx,by simpa [opdsOk] using hc⟩
  | [],hc=>simp [opdsOk] at hc
  | [_],hc=>simp [opdsOk] at hc
  | _::_::_::_,hc=>simp [opdsOk] at hc
theorem mapAt_spec {u s:Nat} {at_:Option (Path × Nat × Nat)} {es:List (D × D)} (hm:mapAt h u s at_=some es):nd h u s (mpKey at_)=some (.map es):=by
  rcases at_ with _ | ⟨p,e1,o1⟩
  · simp only [mapAt] at hm
    split at hm
    · rename_i es' ho
      simp only [Option.some.injEq] at hm
      subst hm
      simp [nd,mpKey,ho,Ob.nd?]
    · cases hm
  · simp only [mapAt,Option.bind_eq_some_iff] at hm
    obtain ⟨r,hr,hm⟩:=hm
    have hnr:=row?_nd (h:=h) (u:=u) (s:=s) (p:=p) (r:=r) (by simpa [Option.bind_eq_some_iff] using hr)
    split at hm
    · rename_i es' hc
      simp only [Option.some.injEq] at hm
      subst hm
      show nd h u s (p++[(e1,o1)])=_
      rw [nd_cell hnr hc];rfl
    · cases hm
theorem ents_length {N:Nat→Prop}:∀ {es:List (D × D)} {l:List MapEntry},Ents N w es l→es.length=l.length
  | [],[],_=>rfl
  | (_,_)::_,_::_,h=>by simp [ents_length h.2.2]
  | [],_::_,h=>h.elim
  | _::_,[],h=>h.elim
theorem eff_len (H:HRel X h B w) (F:FRel X h B w f a) {k:Nat} {x:Opd} (he:eff call f h dst (.len k x)=some e) (hc:chk P o.op o.type (.len k x)=true):EffOk P X h B w (execOp a.eval o) e:=by
  simp only [chk] at hc
  split at hc
  · rename_i args' ts ho
    simp only [Bool.and_eq_true] at hc
    obtain ⟨x',rfl,h1⟩:=opds1 hc.1
    obtain ⟨t,ht,h2⟩:=opt_any hc.2
    have hv:=opd_ok F h1
    have hrun:(execOp a.eval o).run P w=((Builtin.len_ ts o.type #[a.eval x']).run P w).andThen fun v w'=>.ok (.value v) w':=by
      simp [execOp,ho,resolve,invoke,builtin]
    have fin:∀ {v:V} {cv:Value} {rd:List (Nat × Nat)},(Builtin.len_ ts o.type #[a.eval x']).run P w = .ok cv w→RV X h B w v cv→EffOk P X h B w (execOp a.eval o) { v,rd }:=by
      intro v cv rd g1 g2
      exact eff_pure H (by rw [hrun,g1];rfl) g2
    split at h2
    · rename_i hu
      simp only [eff] at he
      split at he
      all_goals first
        | (exfalso;omega)
        | (rename_i l hk hx
           simp only [Option.some.injEq] at he
           subst he
           obtain ⟨b,hb,rfl⟩:=rd_str (opd_d F h1 hx)
           refine fin (cv:=.int .i64 b.size) ?_ (.of1 ?_)
           · simp [Builtin.len_,ht,run_underlying hu,hb,goInt]
           · rw [ba_size];exact .int _ _)
        | cases he
    · rename_i el hu
      have hsl:∀ {ad:Option Addr} {n c:Nat} {rd:List (Nat × Nat)},a.eval x' = .slice ad n c→EffOk P X h B w (execOp a.eval o) { v:=.d (.int .i64 n),rd }:=by
        intro ad n c rd hx
        exact fin (cv:=.int .i64 n) (by simp [Builtin.len_,ht,run_underlying hu,hx,goInt]) (.of1 (.int _ _))
      simp only [eff] at he
      split at he
      all_goals first
        | (exfalso;omega)
        | (rename_i nn es hk hx
           simp only [Option.some.injEq] at he
           subst he
           rw [hx] at hv
           obtain ⟨ad,cap,hv1,hv2⟩:=rd_sl hv
           exact hsl hv1)
        | (rename_i nn hk hx
           simp only [Option.some.injEq] at he
           subst he
           rw [hx] at hv
           obtain ⟨ad,hv1,hv2⟩:=hv
           exact hsl hv1)
        | (rename_i u s p off n hk hx
           simp only [Option.some.injEq] at he
           subst he
           rw [hx] at hv
           obtain ⟨r0,g1,g2,g3⟩:=hv
           obtain ⟨ad,cap,hv1,hv2⟩:=hdr_form g3 g2
           exact hsl hv1)
        | cases he
    · rename_i kt et hu
      simp only [eff] at he
      split at he
      all_goals first
        | (exfalso;omega)
        | (rename_i hk hx
           simp only [Option.some.injEq] at he
           subst he
           rw [hx] at hv
           have hv1:=rd_nilm hv
           exact fin (cv:=.int .i64 0) (by simp [Builtin.len_,ht,run_underlying hu,hv1,goInt]) (.of1 (.int _ _)))
        | (rename_i u s at_ hk hx
           simp only [Option.map_eq_some_iff] at he
           obtain ⟨es,hes,rfl⟩:=he
           rw [hx] at hv
           obtain ⟨es',g1,g2⟩:=RV1.mp_iff.1 hv
           rw [mapAt_spec hes] at g1
           injection g1 with g1;injection g1 with g1;subst g1
           obtain ⟨ents,clock,h3,h4⟩:=H.node u s _ _ (mapAt_spec hes) trivial
           have hl:=ents_length h4
           refine fin (cv:=.int .i64 es.length) ?_ (.of1 (.int _ _))
           simp [Builtin.len_,ht,run_underlying hu,g2,goInt,getObj,Sem.run,h3,hl])
        | cases he
    · cases h2
  · cases hc
theorem minmax_spec (lt:Int→Int→Bool) (g:Value→Value→Sem Value) (hg:∀ k x k' y w,(g (.int k x) (.int k' y)).run P w = .ok (.int k (if lt y x then y else x)) w) :
    ∀ (vs:List V) (xs:List Value) (acc:D) (av:Value) (c:D),xs.length=vs.length→(∀ (i:Nat) (v:V) (x:Value),vs[i]? = some v→xs[i]? = some x→RV X h B w v x) →
      RD w (Forb X h B) acc av→(∀ cs,acc ≠ .agg cs)→minmax lt acc vs=some c→∃ cv,(xs.foldlM g av).run P w = .ok cv w∧RD w (Forb X h B) c cv
  | [],[],acc,av,c,_,_,ha,_,hm=>by
    simp [minmax] at hm;subst hm
    exact ⟨av,by simp,ha⟩
  | v::vs,x::xs,acc,av,c,hl,hr,ha,hna,hm=>by
    unfold minmax at hm
    split at hm
    · rename_i heq;cases heq
    · rename_i k' y r heq
      injection heq with h1 h2
      subst h1;subst h2
      split at hm
      · rename_i k z
        have hx:=rd_int (hr 0 _ x rfl rfl)
        have hz:=rd_int ha
        obtain ⟨cv,h3,h4⟩:=minmax_spec lt g hg vs xs _ (.int k (if lt y z then y else z)) c (by simpa using hl) (fun i v' x' hv hx'=>hr (i+1) v' x' (by simpa using hv) (by simpa using hx')) (.int _ _) (by simp) hm
        refine ⟨cv, ?_,h4⟩
        simp [hx,hz,hg,h3]
      · cases hm
    · cases hm
  | [],_::_,_,_,_,hl,_,_,_,_=>by simp at hl
  | _::_,[],_,_,_,hl,_,_,_,_=>by simp at hl
theorem eff_mm (H:HRel X h B w) (F:FRel X h B w f a) {x:Opd} {xs:List Opd} {d c:D} (lt:Int→Int→Bool) (g:Value→Value→Sem Value) (hg:∀ k x k' y w,(g (.int k x) (.int k' y)).run P w = .ok (.int k (if lt y x then y else x)) w)
    (hx:x.ev f = .d d) (hint:∃ k n,d = .int k n) (he:minmax lt d (xs.map (·.ev f))=some c) {args':Array Operand} (hc:opdsOk args'.toList (x::xs)=true)
    (hrun:∀ y ys,(args'.map a.eval).toList=y::ys→∀ cv,(ys.foldlM g y).run P w = .ok cv w→(execOp a.eval o).run P w = .ok (.value cv) w):EffOk P X h B w (execOp a.eval o) { v:=.d c }:=by
  generalize hl:args'.toList=l at hc
  match l,hc with
  | [],hc=>simp [opdsOk] at hc
  | y::ys,hc=>
    simp only [opdsOk,Bool.and_eq_true] at hc
    obtain ⟨hlen,hr⟩:=opds_ok F hc.2
    have hv:=opd_d F hc.1 hx
    obtain ⟨k,n,rfl⟩:=hint
    obtain ⟨cv,h3,h4⟩:=minmax_spec (X:=X) (h:=h) (B:=B) lt g hg (xs.map (·.ev f)) (ys.map a.eval) _ (a.eval y) c (by simp [hlen]) (fun i v x' hv' hx'=>by
        simp only [List.getElem?_map,Option.map_eq_some_iff] at hv' hx'
        obtain ⟨z,hz,rfl⟩:=hv'
        obtain ⟨z',hz',rfl⟩:=hx'
        exact hr i z' z hz' hz) hv (by simp) he
    exact eff_pure H (hrun (a.eval y) (ys.map a.eval) (by simp [hl]) cv h3) (.of1 h4)
theorem eff_mn (H:HRel X h B w) (F:FRel X h B w f a) {x:Opd} {xs:List Opd} (he:eff call f h dst (.mn x xs)=some e) (hc:chk P o.op o.type (.mn x xs)=true):EffOk P X h B w (execOp a.eval o) e:=by
  simp only [eff] at he
  simp only [chk] at hc
  split at hc
  · rename_i args' ts ho
    split at he
    · rename_i d hx
      split at he
      · rename_i k n
        simp only [Option.map_eq_some_iff] at he
        obtain ⟨c,hc',rfl⟩:=he
        refine eff_mm H F (fun y x=>decide (y<x)) Builtin.min2 (fun k x k' y w=>by simp [Builtin.min2]) hx ⟨_,_,rfl⟩ hc' hc (fun y ys hy cv hcv=>?_)
        simp [execOp,ho,resolve,invoke,builtin,Builtin.min_,hy,hcv] at hy ⊢
        simp [hy,hcv]
      · cases he
    · cases he
  · cases hc
theorem eff_mx (H:HRel X h B w) (F:FRel X h B w f a) {x:Opd} {xs:List Opd} (he:eff call f h dst (.mx x xs)=some e) (hc:chk P o.op o.type (.mx x xs)=true):EffOk P X h B w (execOp a.eval o) e:=by
  simp only [eff] at he
  simp only [chk] at hc
  split at hc
  · rename_i args' ts ho
    split at he
    · rename_i d hx
      split at he
      · rename_i k n
        simp only [Option.map_eq_some_iff] at he
        obtain ⟨c,hc',rfl⟩:=he
        refine eff_mm H F (fun y x=>decide (y > x)) Builtin.max2 (fun k x k' y w=>by simp [Builtin.max2]) hx ⟨_,_,rfl⟩ hc' hc (fun y ys hy cv hcv=>?_)
        simp [execOp,ho,resolve,invoke,builtin,Builtin.max_,hy,hcv] at hy ⊢
        simp [hy,hcv]
      · cases he
    · cases he
  · cases hc
end
end Go.Proofs.YtgmphfmoonbfpaaMv

set_option maxRecDepth 2000
namespace Go.Proofs.YtgmphfmoonbfpaaMv
open Go
theorem addr_add_add (a:Addr) (m n:Nat):(a.add m).add n=a.add (m+n):=by
  unfold Addr.add
  by_cases h1:m=0
  · subst h1;simp
  · by_cases h2:n=0
    · subst h2;simp
    · have:¬(m+n=0):=by omega
      simp [h1,h2,this,Nat.add_assoc]
theorem addr_add_block (a:Addr) (n:Nat):(a.add n).block=a.block:=by unfold Addr.add;split <;> rfl
section
variable {P:Program} {X:Nat→Prop} {h:Hp} {B:Gh} {w:World} {f:Fr} {a:Act} {call:FuncId→List V→Option V} {dst:Nat} {o:Oper} {e:Eff}
theorem optNat_bound (F:FRel X h B w f a) {dflt n:Nat} {l:Option Operand} {lo:Option Opd} (hc:optOk l lo=true) (hn:optNat f dflt lo=some n) :
    (l=none∧n=dflt) ∨ ∃ y k,l=some y∧a.eval y = .int k (n:Int):=by
  unfold optOk at hc
  split at hc
  · simp only [optNat,Option.some.injEq] at hn;exact .inl ⟨rfl,hn.symm⟩
  · rename_i x y
    simp only [optNat] at hn
    obtain ⟨kd,hd⟩:=dnat_spec hn
    exact .inr ⟨x,kd,rfl,rd_int (opd_d F hc hd)⟩
  · cases hc
theorem run_bound {k:IntKind} {n y:Nat} (hle:n≤y) (code:BoundsCode) (w:World):(Instr.sliceBound (.int k (n:Int)) y code).run P w = .ok n w:=by
  have:(n:Int)≤(y:Int):=by omega
  simp [Instr.sliceBound,asIntOf,hle]
theorem run_bounds (F:FRel X h B w f a) {isS:Bool} {len cap b1 a1:Nat} {l hg:Option Operand} {lo hi:Option Opd} (hl:optOk l lo=true) (hh:optOk hg hi=true)
    (hb:optNat f len hi=some b1) (ha:optNat f 0 lo=some a1) (h1:a1≤b1) (h2:b1≤cap) :
    (Instr.sliceBounds isS len cap (l.map a.eval) (hg.map a.eval) none).run P w = .ok (a1,b1,cap) w:=by
  rcases optNat_bound F hh hb with ⟨rfl,rfl⟩ | ⟨y,k,rfl,hy⟩ <;> rcases optNat_bound F hl ha with ⟨rfl,rfl⟩ | ⟨z,k',rfl,hz⟩
  · simp [Instr.sliceBounds]
  · simp [Instr.sliceBounds,hz,run_bound h1]
  · simp [Instr.sliceBounds,hy,run_bound h2]
  · simp [Instr.sliceBounds,hy,hz,run_bound h1,run_bound h2]
theorem eff_slc (H:HRel X h B w) (F:FRel X h B w f a) {sz:Nat} {x:Opd} {lo hi:Option Opd} (he:eff call f h dst (.slc sz x lo hi)=some e) (hc:chk P o.op o.type (.slc sz x lo hi)=true):EffOk P X h B w (execOp a.eval o) e:=by
  simp only [eff] at he
  simp only [chk] at hc
  split at hc
  · rename_i t y l hg m ho
    simp only [Bool.and_eq_true] at hc
    obtain ⟨h1,h2,h3,h4,h5⟩:=hc
    have hm:m=none:=by simpa using h4
    subst hm
    obtain ⟨el,hel,h6⟩:=opt_any h5
    have hu:=sliceElem_spec hel
    have hsz:=run_sizeOf h6 w
    have hv:=opd_ok F h1
    have hrun:∀ {ad:Option Addr} {n cap a1 b1:Nat},a.eval y = .slice ad n cap→optNat f n hi=some b1→optNat f 0 lo=some a1→a1≤b1→b1≤cap →
        (execOp a.eval o).run P w = .ok (.value (.slice (if cap=a1 then ad else ad.map (·.add (a1 * sz))) (b1 - a1) (cap - a1))) w:=by
      intro ad n cap a1 b1 g1 g2 g3 g4 g5
      have:=run_bounds (P:=P) (isS:=true) F h2 h3 g2 g3 g4 g5
      simp [execOp,ho,g1,Instr.sliceAt,run_underlying hu,Instr.slice,this,hsz]
    split at he
    · rename_i u s p off n hx
      rw [hx] at hv
      simp only [Option.bind_eq_some_iff] at he
      obtain ⟨b1,hb,a1,ha,r,hr,he⟩:=he
      have hnr:=row?_nd (h:=h) (u:=u) (s:=s) (p:=p) (r:=r) (by simpa [Option.bind_eq_some_iff] using hr)
      split at he
      · rename_i hcond
        obtain ⟨hrs,hab,hbn⟩:=hcond
        simp only [Option.some.injEq] at he
        subst he
        obtain ⟨r0,g1,g2,g3⟩:=hv
        rw [g1] at hnr
        injection hnr with hnr;injection hnr with hnr;subst hnr
        rcases g3 with ⟨q1,q2,q3⟩ | ⟨hlive,ad,cap,arr,tt,fr,q1,q2,q3,q4,q5⟩
        · have hn0:n=0:=by rw [q2] at g2;simp at g2;omega
          subst hn0
          have:b1=0:=by omega
          subst this
          have:a1=0:=by omega
          subst this
          refine eff_pure H (hrun q3 hb ha (Nat.le_refl _) (Nat.le_refl _)) (.of1 ⟨r0,g1,by omega, .inl ⟨q1,q2,by simp⟩⟩)
        · have hbc:b1≤cap:=by omega
          refine eff_pure H (hrun q4 hb ha hab hbc) (.of1 ⟨r0,g1,by omega, .inr ⟨hlive,(if cap=a1 then ad else ad.add (a1 * sz)),cap - a1,arr,tt,fr,q1, ?_,by omega, ?_, ?_⟩⟩)
          · rw [q2];congr 1;omega
          · by_cases hca:cap=a1
            · simp [hca]
            · simp [hca]
          · intro hne
            have hca:¬cap=a1:=by omega
            rw [if_neg hca,q5 (by omega),add_at,hrs,Nat.add_comm a1 off,Nat.add_mul]
      · cases he
    · rename_i nn es hx
      rw [hx] at hv
      simp only [Option.bind_eq_some_iff] at he
      obtain ⟨b1,hb,a1,ha,he⟩:=he
      split at he
      · rename_i hcond
        obtain ⟨hab,hbn,hall⟩:=hcond
        simp only [Option.some.injEq] at he
        subst he
        generalize hav:a.eval y=av at hv
        cases hv with
        | slnil=>
          have:b1=0:=by simpa using hbn
          subst this
          have:a1=0:=by omega
          subst this
          exact eff_pure H (hrun (n:=0) hav hb ha (Nat.le_refl _) (Nat.le_refl _)) (.of1 (by show RD _ _ _ _;simpa using RD.slnil))
        | sl _ _ ad sz' cap cvs q0 qcap qsz qN qc q1 qd=>
          refine eff_pure H (hrun (n:=es.length) hav hb ha hab (by omega)) (.of1 ?_)
          have hlen:((es.take b1).drop a1).length=b1 - a1:=by simp;omega
          have hdat:∀ i j d,dAt ((es.take b1).drop a1) i j=some d→dAt es (a1+i) j=some d∧a1+i<b1:=by
            intro i j d hij
            unfold dAt at hij ⊢
            rw [List.getElem?_drop,List.getElem?_take] at hij
            split at hij
            · rename_i hlt;exact ⟨hij,hlt⟩
            · simp at hij
          have hszz:∀ i j d,dAt es i j=some d→sz'=sz:=by
            intro i j d hij
            unfold dAt at hij
            cases hi:es[i]? with
            | none=>simp [hi] at hij
            | some cs=>
              have h1:=qsz cs (List.mem_of_getElem? hi)
              have h2:=List.all_eq_true.1 hall cs (List.mem_of_getElem? hi)
              simp at h2
              omega
          have hnn:(nn || !es.isEmpty)=true:=by
            rcases q0 with q0 | q0
            · simp [q0]
            · have:es.isEmpty=false:=by cases hx:es <;> simp_all
              simp [this]
          rw [hnn,←hlen]
          have hmap:(if cap=a1 then some ad else (some ad).map (·.add (a1 * sz)))=some (if cap=a1 then ad else ad.add (a1 * sz)):=by split <;> rfl
          rw [hmap]
          refine .sl true _ _ sz' (cap - a1) (fun i j=>cvs (a1+i) j) (.inl rfl) (by rw [hlen];omega) (fun cs hcs=>qsz cs (List.mem_of_mem_take (List.mem_of_mem_drop hcs))) (fun i j d hij=>?_) (fun i j d hij=>?_) (fun i j d hij=>q1 _ _ _ (hdat i j d hij).1) (fun i j d hij=>qd _ _ _ (hdat i j d hij).1)
          · have:=qN _ _ _ (hdat i j d hij).1
            split
            · exact this
            · rw [addr_add_block];exact this
          · obtain ⟨g1,g2⟩:=hdat i j d hij
            have hca:¬cap=a1:=by omega
            rw [if_neg hca,addr_add_add]
            have:=qc _ _ _ g1
            rw [←hszz _ _ _ g1]
            rwa [Nat.add_mul,Nat.add_assoc] at this
      · cases he
    · cases he
  · cases hc
theorem isSome_not {α:Type} (o:Option α):o.isSome = !o.isNone:=by cases o <;> rfl
theorem zeroConst_spec {l:Option Operand} (hc:zeroConst l=true):l=none∨l=some (.const (.int .i64 0)):=by
  unfold zeroConst at hc
  split at hc <;> simp_all
theorem eff_clip (H:HRel X h B w) (F:FRel X h B w f a) {x:Opd} (he:eff call f h dst (.clip x)=some e) (hc:chk P o.op o.type (.clip x)=true):EffOk P X h B w (execOp a.eval o) e:=by
  simp only [eff] at he
  simp only [chk] at hc
  split at hc
  · rename_i t y l hg m ho
    simp only [Bool.and_eq_true] at hc
    obtain ⟨h1,h2,h3,h4,h5,h6,h7⟩:=hc
    obtain ⟨el,hel,h8⟩:=opt_any h7
    have hu:=sliceElem_spec hel
    obtain ⟨i,hi⟩:=Option.isSome_iff_exists.1 h8
    have hv:=opd_ok F h1
    have hz:hg=some (.const (.int .i64 0)):=by rcases zeroConst_spec h3 with rfl | h <;> simp_all
    have hm:m=some (.const (.int .i64 0)):=by rcases zeroConst_spec h5 with rfl | h <;> simp_all
    subst hz;subst hm
    have hb0:∀ y code,(Instr.sliceBound (.int .i64 0) y code).run P w = .ok 0 w:=fun y code=>run_bound (P:=P) (n:=0) (Nat.zero_le _) code w
    have hrun:∀ {ad:Option Addr} {n cap:Nat},a.eval y = .slice ad n cap→(execOp a.eval o).run P w = .ok (.value (.slice ad 0 0)) w:=by
      intro ad n cap g1
      have hbs:(Instr.sliceBounds true n cap (l.map a.eval) (some (a.eval (.const (.int .i64 0)))) (some (a.eval (.const (.int .i64 0))))).run P w = .ok (0,0,0) w:=by
        have hk:a.eval (.const (.int .i64 0)) = .int .i64 0:=rfl
        rcases zeroConst_spec h2 with rfl | rfl <;> simp [Instr.sliceBounds,hk,hb0]
      simp [execOp,ho,g1,Instr.sliceAt,run_underlying hu,Instr.slice,hbs,Go.sizeOf,typeInfo,hi]
    split at he
    · rename_i nn es hx
      simp only [Option.some.injEq] at he
      subst he
      rw [hx] at hv
      obtain ⟨ad,cap,g1,g2⟩:=rd_sl hv
      refine eff_pure H (hrun g1) (.of1 ⟨ad,rfl, ?_⟩)
      rw [isSome_not,g2];cases nn <;> cases es.isEmpty <;> rfl
    · rename_i u s p off n hx
      simp only [Option.map_eq_some_iff] at he
      obtain ⟨r,hr,rfl⟩:=he
      rw [hx] at hv
      obtain ⟨r0,g1,g2,g3⟩:=hv
      have hnr:=row?_nd hr
      rw [g1] at hnr
      injection hnr with hnr;injection hnr with hnr;subst hnr
      obtain ⟨ad,cap,q1,q2⟩:=hdr_form g3 g2
      refine eff_pure H (hrun q1) (.of1 ⟨ad,rfl, ?_⟩)
      rw [isSome_not,q2];cases r0.nn <;> cases r0.es.isEmpty <;> rfl
    · cases he
  · cases hc
theorem eff_slcs (H:HRel X h B w) (F:FRel X h B w f a) {x:Opd} {lo hi:Option Opd} (he:eff call f h dst (.slcs x lo hi)=some e) (hc:chk P o.op o.type (.slcs x lo hi)=true):EffOk P X h B w (execOp a.eval o) e:=by
  simp only [eff] at he
  simp only [chk] at hc
  split at hc
  · rename_i t y l hg m ho
    simp only [Bool.and_eq_true] at hc
    obtain ⟨h1,h2,h3,h4,h5⟩:=hc
    have hm:m=none:=by simpa using h5
    subst hm
    have hu:=isStr_spec h1
    split at he
    · rename_i ls hx
      simp only [Option.bind_eq_some_iff] at he
      obtain ⟨b1,hb,a1,ha,he⟩:=he
      split at he
      · rename_i hcond
        simp only [Option.some.injEq] at he
        subst he
        obtain ⟨s,hs,rfl⟩:=rd_str (opd_d F h2 hx)
        rw [←ba_size] at hb hcond
        have:=run_bounds (P:=P) (isS:=false) (cap:=s.size) F h3 h4 hb ha hcond.1 hcond.2
        refine eff_pure H (cv:=.string (s.extract a1 b1)) ?_ (.of1 (rd_str_mk _ _ ?_))
        · simp [execOp,ho,hs,Instr.sliceAt,run_underlying hu,Instr.slice,this]
        · rw [Lib.extract_data,List.drop_take]
      · cases he
    · cases he
  · cases hc
theorem kindAt_0 {t:TypeId} (hk:kindAt P t=some 0):P.underlying t=some .bool:=by unfold kindAt at hk;split at hk <;> simp_all
theorem kindAt_1 {t:TypeId} (hk:kindAt P t=some 1):∃ k,P.underlying t=some (.int k):=by unfold kindAt at hk;split at hk <;> simp_all
theorem kindAt_2 {t:TypeId} (hk:kindAt P t=some 2):P.underlying t=some .string:=by unfold kindAt at hk;split at hk <;> simp_all
theorem eq_scalar {N:Nat→Prop} {d1 d2:D} {v1 v2:Value} {k:Nat} {ks:List Nat} {x y:List D} {c:Bool} (h1:RD w N d1 v1) (h2:RD w N d2 v2) {t:TypeId} (hk:kindAt P t=some k) (n:Nat)
    (hq:deqK (k::ks) (d1::x) (d2::y)=some c):∃ r:Bool,(Op.equalIn (n+1) t v1 v2).run P w = .ok r w∧((r=false∧c=false)∨(r=true∧deqK ks x y=some c)):=by
  unfold deqK at hq
  split at hq
  · simp at *
  · rename_i k' a1 x' b1 y' e1 e2 e3
    injection e1 with e1 e1';subst e1;subst e1'
    injection e2 with e2 e2';subst e2;subst e2'
    injection e3 with e3 e3';subst e3;subst e3'
    refine ⟨a1==b1,by rw [rd_bool h1,rd_bool h2];exact run_equalIn_bool' w n t _ _ (kindAt_0 hk), ?_⟩
    split at hq
    · rename_i he;exact .inr ⟨he,hq⟩
    · rename_i he;simp only [Option.some.injEq] at hq;exact .inl ⟨by simpa using he,hq.symm⟩
  · rename_i k' j a1 x' j' b1 y' e1 e2 e3
    injection e1 with e1 e1';subst e1;subst e1'
    injection e2 with e2 e2';subst e2;subst e2'
    injection e3 with e3 e3';subst e3;subst e3'
    split at hq
    · rename_i hj
      subst hj
      obtain ⟨k0,hk0⟩:=kindAt_1 hk
      refine ⟨a1==b1,by rw [rd_int h1,rd_int h2];exact run_equalIn_int w n t _ k0 _ _ hk0, ?_⟩
      split at hq
      · rename_i he;exact .inr ⟨he,hq⟩
      · rename_i he;simp only [Option.some.injEq] at hq;exact .inl ⟨by simpa using he,hq.symm⟩
    · cases hq
  · rename_i k' a1 x' b1 y' e1 e2 e3
    injection e1 with e1 e1';subst e1;subst e1'
    injection e2 with e2 e2';subst e2;subst e2'
    injection e3 with e3 e3';subst e3;subst e3'
    obtain ⟨s1,rfl,rfl⟩:=rd_str h1
    obtain ⟨s2,rfl,rfl⟩:=rd_str h2
    refine ⟨s1.data.toList==s2.data.toList,by rw [run_equalIn_string w n t _ _ (kindAt_2 hk),ByteArray.toList_eq,ByteArray.toList_eq], ?_⟩
    split at hq
    · rename_i he;exact .inr ⟨he,hq⟩
    · rename_i he;simp only [Option.some.injEq] at hq;exact .inl ⟨by simpa using he,hq.symm⟩
  · cases hq
theorem deqK_split:∀ {ks:List Nat} {x y:List D} {c:Bool} (n:Nat),n≤ks.length→n≤x.length→n≤y.length→deqK ks x y=some c →
    ∃ r,deqK (ks.take n) (x.take n) (y.take n)=some r∧((r=false∧c=false)∨(r=true∧deqK (ks.drop n) (x.drop n) (y.drop n)=some c))
  | ks,x,y,c,0,_,_,_,hq=>⟨true,by simp [deqK], .inr ⟨rfl,by simpa using hq⟩⟩
  | k::ks,d1::x,d2::y,c,n+1,h1,h2,h3,hq=>by
    simp only [List.take_succ_cons,List.drop_succ_cons]
    unfold deqK at hq
    split at hq
    · simp at *
    · rename_i e1 e2 e3
      injection e1 with e1 e1';subst e1;subst e1'
      injection e2 with e2 e2';subst e2;subst e2'
      injection e3 with e3 e3';subst e3;subst e3'
      split at hq
      · rename_i he
        obtain ⟨r,g1,g2⟩:=deqK_split n (by simpa using h1) (by simpa using h2) (by simpa using h3) hq
        exact ⟨r,by simp only [deqK,he,if_true];exact g1,g2⟩
      · rename_i he
        simp only [Option.some.injEq] at hq
        exact ⟨false,by simp only [deqK,he];rfl, .inl ⟨rfl,hq.symm⟩⟩
    · rename_i e1 e2 e3
      injection e1 with e1 e1';subst e1;subst e1'
      injection e2 with e2 e2';subst e2;subst e2'
      injection e3 with e3 e3';subst e3;subst e3'
      split at hq
      · rename_i hj
        split at hq
        · rename_i he
          obtain ⟨r,g1,g2⟩:=deqK_split n (by simpa using h1) (by simpa using h2) (by simpa using h3) hq
          exact ⟨r,by simp only [deqK,hj,he,if_true];exact g1,g2⟩
        · rename_i he
          simp only [Option.some.injEq] at hq
          exact ⟨false,by simp only [deqK,hj,he];rfl, .inl ⟨rfl,hq.symm⟩⟩
      · cases hq
    · rename_i e1 e2 e3
      injection e1 with e1 e1';subst e1;subst e1'
      injection e2 with e2 e2';subst e2;subst e2'
      injection e3 with e3 e3';subst e3;subst e3'
      split at hq
      · rename_i he
        obtain ⟨r,g1,g2⟩:=deqK_split n (by simpa using h1) (by simpa using h2) (by simpa using h3) hq
        exact ⟨r,by simp only [deqK,he,if_true];exact g1,g2⟩
      · rename_i he
        simp only [Option.some.injEq] at hq
        exact ⟨false,by simp only [deqK,he];rfl, .inl ⟨rfl,hq.symm⟩⟩
    · cases hq
  | [],_,_,_,n+1,h,_,_,_=>by simp at h
  | _::_,[],_,_,n+1,_,h,_,_=>by simp at h
  | _::_,_::_,[],_,n+1,_,_,h,_=>by simp at h
theorem part_scalar {t:TypeId} {xs:Array Value} {off:Nat} {v:Value} (hp:plainIs P t=true) (hv:xs[off]? = some v) (w:World):(part t xs off).run P w = .ok v w:=by
  simp [part,run_isAgg_false hp,hv]
theorem part_agg {t:TypeId} {xs:Array Value} {off n:Nat} (hp:aggIs P t=true) (hs:sizeIs P t n=true) (w:World):(part t xs off).run P w = .ok (.agg (xs.extract off (off+n))) w:=by
  simp [part,run_isAgg_true hp,run_sizeOf hs]
def Cells (w:World) (N:Nat→Prop) (l:List D) (vs:Array Value):Prop:=vs.size=l.length ∧ ∀ (i:Nat) (d:D) (x:Value),l[i]? = some d→vs[i]? = some x→RD w N d x
theorem eq_struct {N:Nat→Prop}:∀ (d:Nat) (t:TypeId) (ks:List Nat),eqKinds P d t ks=true→∀ (n:Nat) (x y:List D) (xs ys:Array Value) (c:Bool),Cells w N x xs→Cells w N y ys→x.length=ks.length→y.length=ks.length→deqK ks x y=some c →
    (Op.equalIn (n+1+d) t (.agg xs) (.agg ys)).run P w = .ok c w
  | 0,t,ks,hk,_,_,_,_,_,_,_,_,_,_,_=>by simp [eqKinds] at hk
  | d+1,t,ks,hk,n,x,y,xs,ys,c,hx,hy,hlx,hly,hq=>by
    unfold eqKinds at hk
    split at hk
    · rename_i fs hu
      simp only [Bool.and_eq_true,Bool.not_eq_true'] at hk
      have hf:P.fieldsOf t=fs:=by simp [Program.fieldsOf,hu]
      rw [show n+1+(d+1)=(n+1+d)+1 by omega,run_equalIn_struct (P:=P) w (n+1+d) t xs ys (by rw [hf];exact hu) hk.1,hf]
      have key:∀ (fs:List Field) (off:Nat) (ks:List Nat),eqFieldsK P (eqKinds P d) fs off ks=true→(x.drop off).length=ks.length→(y.drop off).length=ks.length→deqK ks (x.drop off) (y.drop off)=some c →
          (Op.eqFields (n+1+d) xs ys fs).run P w = .ok c w:=by
        intro fs
        induction fs with
        | nil=>
          intro off ks hk h1 h2 hq
          unfold eqFieldsK at hk
          have hks:ks=[]:=by simpa using hk
          subst hks
          have e1:x.drop off=[]:=List.length_eq_zero_iff.1 h1
          have e2:y.drop off=[]:=List.length_eq_zero_iff.1 h2
          rw [e1,e2] at hq
          simp only [deqK,Option.some.injEq] at hq
          subst hq
          simp [Op.eqFields]
        | cons fd fs ih=>
          intro off ks hk h1 h2 hq
          unfold eqFieldsK at hk
          simp only [Bool.and_eq_true,bne_iff_ne,ne_eq,beq_iff_eq] at hk
          obtain ⟨hname,hoff,hk⟩:=hk
          have hgen:∀ (v1 v2:Value) (r:Bool),(part fd.type xs fd.offset).run P w = .ok v1 w→(part fd.type ys fd.offset).run P w = .ok v2 w→(Op.equalIn (n+1+d) fd.type v1 v2).run P w = .ok r w →
              ((r=false∧c=false)∨(r=true∧(Op.eqFields (n+1+d) xs ys fs).run P w = .ok c w))→(Op.eqFields (n+1+d) xs ys (fd::fs)).run P w = .ok c w:=by
            intro v1 v2 r g1 g2 g3 g4
            rw [Op.eqFields,if_pos hname]
            simp only [Sem.run_bind,g1,g2,g3,Result.andThen_ok]
            rcases g4 with ⟨rfl,rfl⟩ | ⟨rfl,g4⟩
            · simp
            · simpa using g4
          split at hk
          · rename_i hagg
            obtain ⟨i,hi,hk⟩:=opt_any hk
            simp only [Bool.and_eq_true,decide_eq_true_eq] at hk
            obtain ⟨hk1,hk2,hk3⟩:=hk
            have hsz:sizeIs P fd.type i.size=true:=by simp [sizeIs,hi]
            obtain ⟨r,g1,g2⟩:=deqK_split i.size hk2 (by omega) (by omega) hq
            have hsub:∀ {l:List D} {vs:Array Value},Cells w N l vs→(l.drop off).length=ks.length→Cells w N ((l.drop off).take i.size) (vs.extract off (off+i.size)):=by
              intro l vs hc hl
              refine ⟨?_,fun j dd v hd hv=>?_⟩
              · have:=hc.1
                simp only [List.length_drop] at hl
                simp
                omega
              · rw [List.getElem?_take] at hd
                split at hd
                · rw [List.getElem?_drop] at hd
                  rw [Array.getElem?_extract] at hv
                  split at hv
                  · exact hc.2 _ _ _ hd hv
                  · cases hv
                · cases hd
            refine hgen _ _ r (part_agg hagg hsz w) (part_agg hagg hsz w) ?_ ?_
            · rw [hoff]
              exact eq_struct d fd.type _ hk1 n _ _ _ _ r (hsub hx h1) (hsub hy h2) (by simp at h1 ⊢;omega) (by simp at h2 ⊢;omega) g1
            · rcases g2 with g2 | ⟨g2,g3⟩
              · exact .inl g2
              · refine .inr ⟨g2,ih (off+i.size) (ks.drop i.size) hk3 ?_ ?_ ?_⟩
                · simp at h1 ⊢;omega
                · simp at h2 ⊢;omega
                · rw [List.drop_drop,List.drop_drop] at g3;exact g3
          · split at hk
            · rename_i k ks'
              simp only [Bool.and_eq_true,decide_eq_true_eq] at hk
              obtain ⟨hp,hkind,hk3⟩:=hk
              have hlx':off<x.length:=by simp at h1;omega
              have hly':off<y.length:=by simp at h2;omega
              have e1:x.drop off=x[off]::x.drop (off+1):=List.drop_eq_getElem_cons hlx'
              have e2:y.drop off=y[off]::y.drop (off+1):=List.drop_eq_getElem_cons hly'
              have hxs:off<xs.size:=by have:=hx.1;omega
              have hys:off<ys.size:=by have:=hy.1;omega
              have gx:xs[off]? = some xs[off]:=Array.getElem?_eq_getElem hxs
              have gy:ys[off]? = some ys[off]:=Array.getElem?_eq_getElem hys
              rw [e1,e2] at hq
              obtain ⟨r,g1,g2⟩:=eq_scalar (P:=P) (hx.2 off _ _ (List.getElem?_eq_getElem hlx') gx) (hy.2 off _ _ (List.getElem?_eq_getElem hly') gy) hkind (n+d) hq
              rw [show n+d+1=n+1+d by omega] at g1
              refine hgen _ _ r (by rw [hoff];exact part_scalar hp gx w) (by rw [hoff];exact part_scalar hp gy w) g1 ?_
              rcases g2 with g2 | ⟨g2,g3⟩
              · exact .inl g2
              · exact .inr ⟨g2,ih (off+1) ks' hk3 (by simp at h1 ⊢;omega) (by simp at h2 ⊢;omega) g3⟩
            · cases hk
      exact key fs.toList 0 ks hk.2 (by simpa using hlx) (by simpa using hly) (by simpa using hq)
    · cases hk
theorem deqT_key {N:Nat→Prop} {isS:Bool} {ks:List Nat} {d1 d2:D} {v1 v2:Value} {c:Bool} {t:TypeId} (hk:keyOk P t isS ks=true) (h1:RD w N d1 v1) (h2:RD w N d2 v2) (hq:deqT isS ks d1 d2=some c) :
    (Op.equal t v1 v2).run P w = .ok c w:=by
  unfold Op.equal Op.maxDepth
  unfold deqT at hq
  unfold keyOk at hk
  split at hq
  · rename_i hs
    rw [if_pos hs] at hk
    simp only [Bool.and_eq_true] at hk
    split at hq
    · rename_i x y
      split at hq
      · rename_i hl
        obtain ⟨xs,rfl,a1,_,a3⟩:=rd_agg h1
        obtain ⟨ys,rfl,b1,_,b3⟩:=rd_agg h2
        exact eq_struct 50 t ks hk.2 9949 x y xs ys c ⟨a1,a3⟩ ⟨b1,b3⟩ hl.1 hl.2 hq
      · cases hq
    · cases hq
  · rename_i hs
    rw [if_neg hs] at hk
    split at hk
    · rename_i k
      simp only [decide_eq_true_eq] at hk
      obtain ⟨r,g1,g2⟩:=eq_scalar (P:=P) h1 h2 hk 9999 hq
      rcases g2 with ⟨rfl,rfl⟩ | ⟨rfl,g2⟩
      · exact g1
      · simp only [deqK,Option.some.injEq] at g2
        subst g2
        exact g1
    · cases hk
theorem eqGuard_agg {op:BinOp} {t:TypeId} {x y:Operand} {xs ys:Array Value} (hg:P.eqGuardType P.depth t=false) (w:World):(eqGuard op t x y (.agg xs) (.agg ys)).run P w = .ok () w:=by
  unfold eqGuard
  cases op <;> simp [hg]
theorem eff_eqa (H:HRel X h B w) (F:FRel X h B w f a) {neg:Bool} {ks:List Nat} {x y:Opd} (he:eff call f h dst (.eqa neg ks x y)=some e) (hc:chk P o.op o.type (.eqa neg ks x y)=true):EffOk P X h B w (execOp a.eval o) e:=by
  simp only [eff] at he
  simp only [chk] at hc
  split at hc
  · rename_i op' t x' y' ty' ho
    simp only [Bool.and_eq_true,decide_eq_true_eq,Bool.not_eq_true'] at hc
    obtain ⟨rfl,h1,h2,h3,h4,h5⟩:=hc
    split at he
    · rename_i d1 d2 hx hy
      simp only [Option.map_eq_some_iff] at he
      obtain ⟨c,hc',rfl⟩:=he
      have v1:=opd_d F h1 hx
      have v2:=opd_d F h2 hy
      have hq:=deqT_key (P:=P) (t:=t) (by simp [keyOk,h3,h4]) v1 v2 hc'
      unfold deqT at hc'
      simp only [if_true] at hc'
      split at hc'
      · rename_i l1 l2
        obtain ⟨xs,e1,_⟩:=rd_agg v1
        obtain ⟨ys,e2,_⟩:=rd_agg v2
        rw [e1,e2] at hq
        refine eff_pure H (cv:=.bool (if neg then !c else c)) ?_ (.of1 (.bool _))
        refine run_isnil ho (by rw [e1,e2];exact hq) (fun op=>by rw [e1,e2];exact eqGuard_agg h5 w) (by rw [e1,e2];rfl) (by rw [e1,e2];rfl)
      · cases hc'
    · cases he
  · cases hc
end
end Go.Proofs.YtgmphfmoonbfpaaMv

set_option maxRecDepth 2000
namespace Go.Proofs.YtgmphfmoonbfpaaMv
open Go
section
variable {P:Program} {X:Nat→Prop} {h:Hp} {B:Gh} {w:World} {f:Fr} {a:Act} {call:FuncId→List V→Option V} {dst:Nat} {o:Oper} {e:Eff}
theorem kind_und {t:TypeId} {k:Nat} (hk:kindAt P t=some k):P.underlying t=some .bool∨(∃ j,P.underlying t=some (.int j))∨P.underlying t=some .string:=by
  unfold kindAt at hk;split at hk <;> simp_all
theorem checkKey_scalar {t:TypeId} {k:Nat} (hk:kindAt P t=some k) (em:Bool) (n:Nat) (v:Value) (w:World):(Instr.checkKey em (n+1) t v).run P w = .ok () w:=by
  rcases kind_und hk with hu | ⟨j,hu⟩ | hu <;> simp [Instr.checkKey,run_underlying hu]
theorem forIn_ok {fs:List Field} {g:Field→Sem Unit} (hg:∀ f ∈ fs,∀ w,(g f).run P w = .ok () w) (w:World) :
    (forIn fs PUnit.unit (fun f _=>do g f;pure (ForInStep.yield PUnit.unit)):Sem PUnit).run P w = .ok PUnit.unit w:=by
  induction fs generalizing w with
  | nil=>simp
  | cons f fs ih=>
    simp only [List.forIn_cons,Sem.run_bind]
    rw [hg f (by simp) w]
    simp only [Result.andThen_ok,Sem.run_pure]
    exact ih (fun f hf=>hg f (by simp [hf])) w
theorem checkKey_struct:∀ (d:Nat) (t:TypeId) (ks:List Nat),eqKinds P d t ks=true→∀ (em:Bool) (n:Nat) (xs:Array Value) (w:World),xs.size=ks.length →
    (Instr.checkKey em (n+1+d) t (.agg xs)).run P w = .ok () w
  | 0,t,ks,hk,_,_,_,_,_=>by simp [eqKinds] at hk
  | d+1,t,ks,hk,em,n,xs,w,hl=>by
    unfold eqKinds at hk
    split at hk
    · rename_i fs hu
      simp only [Bool.and_eq_true,Bool.not_eq_true'] at hk
      have key:∀ (fs:List Field) (off:Nat) (ks:List Nat),eqFieldsK P (eqKinds P d) fs off ks=true→xs.size=off+ks.length →
          ∀ f ∈ fs,∀ w,((if f.name ≠ "_" then do Instr.checkKey em (n+1+d) f.type (←part f.type xs f.offset) else pure ()):Sem Unit).run P w = .ok () w:=by
        intro fs
        induction fs with
        | nil=>intro off ks _ _ f hf;cases hf
        | cons fd fs ih=>
          intro off ks hk hs f hf w
          unfold eqFieldsK at hk
          simp only [Bool.and_eq_true,bne_iff_ne,ne_eq,beq_iff_eq] at hk
          obtain ⟨hname,hoff,hk⟩:=hk
          split at hk
          · rename_i hagg
            obtain ⟨i,hi,hk⟩:=opt_any hk
            simp only [Bool.and_eq_true,decide_eq_true_eq] at hk
            obtain ⟨hk1,hk2,hk3⟩:=hk
            have hsz:sizeIs P fd.type i.size=true:=by simp [sizeIs,hi]
            cases hf with
            | head=>
              rw [if_pos hname]
              simp only [Sem.run_bind,part_agg hagg hsz w,Result.andThen_ok]
              exact checkKey_struct d fd.type _ hk1 em n _ w (by simp;omega)
            | tail _ hf=>exact ih (off+i.size) _ hk3 (by simp;omega) f hf w
          · split at hk
            · rename_i k ks'
              simp only [Bool.and_eq_true,decide_eq_true_eq] at hk
              obtain ⟨hp,hkind,hk3⟩:=hk
              simp only [List.length_cons] at hs
              have hxs:off<xs.size:=by omega
              cases hf with
              | head=>
                rw [if_pos hname]
                simp only [Sem.run_bind,part_scalar hp (show xs[fd.offset]? = some xs[off] by rw [hoff];exact Array.getElem?_eq_getElem hxs) w,Result.andThen_ok]
                rw [show n+1+d=n+d+1 by omega]
                exact checkKey_scalar hkind em _ _ w
              | tail _ hf=>exact ih (off+1) ks' hk3 (by omega) f hf w
            · cases hk
      have hall:=key fs.toList 0 ks hk.2 (by omega)
      rw [show n+1+(d+1)=(n+1+d)+1 by omega]
      simp only [Instr.checkKey,Sem.run_bind,run_underlying hu,Result.andThen_ok]
      rw [←Array.forIn_toList]
      have:=forIn_ok (P:=P) (fs:=fs.toList) (g:=fun f=>if f.name ≠ "_" then do Instr.checkKey em (n+1+d) f.type (←part f.type xs f.offset) else pure ()) hall w
      have hb:(fun (f:Field) (_:PUnit)=>(do (if f.name ≠ "_" then do Instr.checkKey em (n+1+d) f.type (←part f.type xs f.offset) else pure ());pure (ForInStep.yield PUnit.unit):Sem (ForInStep PUnit))) =
          (fun (f:Field) (_:PUnit)=>(if f.name ≠ "_" then do let y ←part f.type xs f.offset;Instr.checkKey em (n+1+d) f.type y;pure (ForInStep.yield PUnit.unit) else pure (ForInStep.yield PUnit.unit):Sem (ForInStep PUnit))):=by
        funext f _
        split <;> simp
      rw [hb] at this
      rw [this]
      rfl
    · cases hk
theorem kindsAre_length:∀ (ks:List Nat) (x:List D),kindsAre ks x=true→x.length=ks.length:=by
  intro ks
  induction ks with
  | nil=>intro x h;cases x <;> simp [kindsAre] at h ⊢
  | cons k ks ih=>
    intro x h
    unfold kindsAre at h
    split at h
    · rename_i heq;cases heq
    · rename_i heq;cases heq;simp [ih _ h]
    · rename_i heq;cases heq;simp [ih _ h]
    · rename_i heq;cases heq;simp [ih _ h]
    · cases h
theorem checkKey_ok {N:Nat→Prop} {t:TypeId} {isS:Bool} {ks:List Nat} (hk:keyOk P t isS ks=true) {d1:D} {v:Value} (hv:RD w N d1 v) (hq:keyIs isS ks d1=true) (em:Bool) (w':World) :
    (Instr.checkKey em 10000 t v).run P w' = .ok () w':=by
  unfold keyIs at hq
  unfold keyOk at hk
  split at hq
  · rename_i hs
    rw [if_pos hs] at hk
    simp only [Bool.and_eq_true] at hk
    split at hq
    · obtain ⟨xs,rfl,a1,_⟩:=rd_agg hv
      exact checkKey_struct 50 t ks hk.2 em 9949 xs w' (by rw [a1];exact kindsAre_length _ _ hq)
    · cases hq
  · rename_i hs
    rw [if_neg hs] at hk
    split at hk
    · rename_i k
      simp only [decide_eq_true_eq] at hk
      exact checkKey_scalar hk em 9999 v w'
    · cases hk
inductive Found (w:World) (N:Nat→Prop) (isS:Bool) (ks:List Nat) (k:D):List (D × D)→List MapEntry→Option (Nat × Value)→Prop
  | nil:Found w N isS ks k [] [] none
  | here {a v r e es} (hq:deqT isS ks k a=some true) (hv:RD w N v e.val) (hk:RD w N a e.key):Found w N isS ks k ((a,v)::r) (e::es) (some (0,e.val))
  | next {a v r e es x} (hq:deqT isS ks k a=some false) (h:Found w N isS ks k r es x):Found w N isS ks k ((a,v)::r) (e::es) (x.map fun p=>(p.1+1,p.2))
theorem found_asking {N:Nat→Prop} {t:TypeId} {isS:Bool} {ks:List Nat} (hk:keyOk P t isS ks=true) {k:D} {kv:Value} (hkv:RD w N k kv):∀ (es:List (D × D)) (l:List MapEntry) (r:Option D) (i:Nat),Ents N w es l→findD isS ks k es=some r →
    ∃ x,Found w N isS ks k es l x∧(Instr.findAsking t kv l i).run P w = .ok (x.map fun p=>(p.1+i,p.2)) w
  | [],[],r,i,_,_=>⟨none, .nil,by simp [Instr.findAsking]⟩
  | (a,v)::es,e::l,r,i,he,hf=>by
    simp only [findD,Option.bind_eq_some_iff] at hf
    obtain ⟨c,hc,hf⟩:=hf
    have heq:=deqT_key (P:=P) hk hkv he.1 hc
    cases c with
    | true=>exact ⟨_, .here hc he.2.1 he.1,by simp [Instr.findAsking,heq]⟩
    | false=>
      obtain ⟨x,h1,h2⟩:=found_asking hk hkv es l r (i+1) he.2.2 (by simpa using hf)
      refine ⟨_, .next hc h1, ?_⟩
      simp only [Instr.findAsking,Sem.run_bind,heq,Result.andThen_ok,Bool.false_eq_true,if_false,h2]
      cases x <;> simp [Nat.add_assoc,Nat.add_comm 1]
  | [],_::_,_,_,he,_=>he.elim
  | _::_,[],_,_,he,_=>he.elim
theorem sameNow_spec {N:Nat→Prop} {t:TypeId} {td:TypeDesc} {k:Nat} (hk:kindAt P t=some k) (hu:P.underlying t=some td) {d1 d2:D} {v1 v2:Value} {c:Bool} (h1:RD w N d1 v1) (h2:RD w N d2 v2) (hq:deqT false [k] d1 d2=some c) :
    Instr.sameNow td v1 v2=some c:=by
  unfold deqT at hq
  simp only [Bool.false_eq_true,if_false] at hq
  unfold deqK at hq
  split at hq
  · simp at *
  · rename_i e1 e2 e3
    injection e1 with e1 e1';subst e1;subst e1'
    injection e2 with e2 e2';subst e2;subst e2'
    injection e3 with e3 e3';subst e3;subst e3'
    rw [kindAt_0 hk] at hu
    injection hu with hu;subst hu
    rw [rd_bool h1,rd_bool h2]
    simp only [Instr.sameNow]
    split at hq <;> simp_all [deqK]
  · rename_i e1 e2 e3
    injection e1 with e1 e1';subst e1;subst e1'
    injection e2 with e2 e2';subst e2;subst e2'
    injection e3 with e3 e3';subst e3;subst e3'
    obtain ⟨k0,hk0⟩:=kindAt_1 hk
    rw [hk0] at hu
    injection hu with hu;subst hu
    rw [rd_int h1,rd_int h2]
    split at hq
    · rename_i hj
      simp only [Instr.sameNow,hj,if_true]
      split at hq <;> simp_all [deqK]
    · cases hq
  · rename_i e1 e2 e3
    injection e1 with e1 e1';subst e1;subst e1'
    injection e2 with e2 e2';subst e2;subst e2'
    injection e3 with e3 e3';subst e3;subst e3'
    rw [kindAt_2 hk] at hu
    injection hu with hu;subst hu
    obtain ⟨s1,rfl,rfl⟩:=rd_str h1
    obtain ⟨s2,rfl,rfl⟩:=rd_str h2
    simp only [Instr.sameNow]
    rw [beq_toListBytes,ByteArray.toList_eq,ByteArray.toList_eq]
    split at hq <;> simp_all [deqK]
  · cases hq
theorem found_now {N:Nat→Prop} {t:TypeId} {td:TypeDesc} {k0:Nat} (hk:kindAt P t=some k0) (hu:P.underlying t=some td) {k:D} {kv:Value} (hkv:RD w N k kv):∀ (es:List (D × D)) (l:List MapEntry) (r:Option D) (i:Nat),Ents N w es l→findD false [k0] k es=some r →
    ∃ x,Found w N false [k0] k es l x∧Instr.findNow td kv l i=some (x.map fun p=>(p.1+i,p.2))
  | [],[],r,i,_,_=>⟨none, .nil,by simp [Instr.findNow]⟩
  | (a,v)::es,e::l,r,i,he,hf=>by
    simp only [findD,Option.bind_eq_some_iff] at hf
    obtain ⟨c,hc,hf⟩:=hf
    have heq:=sameNow_spec (P:=P) hk hu hkv he.1 hc
    cases c with
    | true=>exact ⟨_, .here hc he.2.1 he.1,by simp [Instr.findNow,heq]⟩
    | false=>
      obtain ⟨x,h1,h2⟩:=found_now hk hu hkv es l r (i+1) he.2.2 (by simpa using hf)
      refine ⟨_, .next hc h1, ?_⟩
      simp only [Instr.findNow,heq,h2]
      cases x <;> simp [Nat.add_assoc,Nat.add_comm 1]
  | [],_::_,_,_,he,_=>he.elim
  | _::_,[],_,_,he,_=>he.elim
theorem found_key {N:Nat→Prop} {t:TypeId} {isS:Bool} {ks:List Nat} (hk:keyOk P t isS ks=true) {k:D} {kv:Value} (hkv:RD w N k kv) {es:List (D × D)} {l:List MapEntry} {r:Option D} (he:Ents N w es l) (hf:findD isS ks k es=some r) :
    ∃ x,Found w N isS ks k es l x∧(Instr.findKey t kv l).run P w = .ok x w:=by
  have hk':=hk
  unfold keyOk at hk
  split at hk
  · rename_i hs
    simp only [Bool.and_eq_true] at hk
    obtain ⟨x,h1,h2⟩:=found_asking (P:=P) hk' hkv es l r 0 he hf
    have hx:(x.map fun p=>(p.1+0,p.2))=x:=by cases x <;> simp
    rw [hx] at h2
    refine ⟨x,h1, ?_⟩
    have hst:∃ fs,P.underlying t=some (.struct fs):=by
      have:=hk.2
      unfold eqKinds at this
      split at this
      · rename_i fs hu;exact ⟨fs,hu⟩
      · cases this
    obtain ⟨fs,hu⟩:=hst
    cases h1 with
    | nil=>simp [Instr.findKey,run_underlying hu,Instr.findNow]
    | here hq hv hkk=>
      simp only [Instr.findKey,Sem.run_bind,run_underlying hu,Result.andThen_ok,Instr.findNow,Instr.sameNow]
      exact h2
    | next hq hh=>
      simp only [Instr.findKey,Sem.run_bind,run_underlying hu,Result.andThen_ok,Instr.findNow,Instr.sameNow]
      exact h2
  · rename_i hs
    have hs':isS=false:=by simpa using hs
    subst hs'
    split at hk
    · rename_i k0
      simp only [decide_eq_true_eq] at hk
      have hu:∃ td,P.underlying t=some td:=by rcases kind_und hk with h | ⟨j,h⟩ | h <;> exact ⟨_,h⟩
      obtain ⟨td,hu⟩:=hu
      obtain ⟨x,h1,h2⟩:=found_now (P:=P) hk hu hkv es l r 0 he hf
      have hx:(x.map fun p=>(p.1+0,p.2))=x:=by cases x <;> simp
      rw [hx] at h2
      exact ⟨x,h1,by simp [Instr.findKey,run_underlying hu,h2]⟩
    · cases hk
theorem Found.get {N:Nat→Prop} {isS:Bool} {ks:List Nat} {k:D} {es:List (D × D)} {l:List MapEntry} {x:Option (Nat × Value)} (h:Found w N isS ks k es l x) {r:Option D} (hf:findD isS ks k es=some r) :
    (x=none∧r=none) ∨ ∃ i v d,x=some (i,v)∧r=some d∧RD w N d v:=by
  induction h generalizing r with
  | nil=>simp only [findD,Option.some.injEq] at hf;exact .inl ⟨rfl,hf.symm⟩
  | here hq hv hk=>
    simp only [findD,hq,Option.bind_some,if_true,Option.some.injEq] at hf
    exact .inr ⟨0,_,_,rfl,hf.symm,hv⟩
  | next hq h ih=>
    simp only [findD,hq,Option.bind_some,Bool.false_eq_true,if_false] at hf
    rcases ih hf with ⟨rfl,rfl⟩ | ⟨i,v,d,rfl,rfl,hd⟩
    · exact .inl ⟨rfl,rfl⟩
    · exact .inr ⟨i+1,v,d,rfl,rfl,hd⟩
theorem rd_tup2 {d:D} {v:Value} {b:Bool} (hd:RD w (Forb X h B) d v):RV X h B w (.tup [.d d, .d (.bool b)]) (.tuple #[v, .bool b]):=by
  refine ⟨#[v, .bool b],rfl,rfl,fun i x y hx hy=>?_⟩
  match i with
  | 0=>simp at hx hy;subst hx;subst hy;exact hd
  | 1=>simp at hx hy;subst hx;subst hy;exact .bool b
  | i+2=>simp at hx
theorem eff_look (H:HRel X h B w) (F:FRel X h B w f a) {isS:Bool} {ks:List Nat} {zero:D} {ok:Bool} {m k:Opd} (he:eff call f h dst (.look isS ks zero ok m k)=some e) (hc:chk P o.op o.type (.look isS ks zero ok m k)=true):EffOk P X h B w (execOp a.eval o) e:=by
  simp only [eff] at he
  simp only [chk] at hc
  split at hc
  · rename_i t m' k' ok' ho
    simp only [Bool.and_eq_true,beq_iff_eq] at hc
    obtain ⟨rfl,h1,h2,h3⟩:=hc
    split at h3
    · rename_i kt et hu
      simp only [Bool.and_eq_true] at h3
      obtain ⟨h4,h5⟩:=h3
      obtain ⟨ie,hie,h6⟩:=opt_any h4
      obtain ⟨zv,hzv,h7⟩:=opt_any h6
      have hzero:∀ w':World,(zeroValue et).run P w' = .ok zv w':=fun w'=>by simp [zeroValue,typeInfo,hie,hzv]
      have hzrd:=constIs_rd h7 w (Forb X h B)
      split at he
      · rename_i u s at_ key hm hk
        split at he
        · rename_i hkey
          simp only [Option.bind_eq_some_iff,Option.map_eq_some_iff] at he
          obtain ⟨es,hes,r,hr,rfl⟩:=he
          have hv:=opd_ok F h1
          rw [hm] at hv
          obtain ⟨es',g1,g2⟩:=RV1.mp_iff.1 hv
          rw [mapAt_spec hes] at g1
          injection g1 with g1;injection g1 with g1;subst g1
          obtain ⟨ents,clock,h8,h9⟩:=H.node u s _ _ (mapAt_spec hes) trivial
          have hkv:=opd_d F h2 hk
          have hck:=checkKey_ok (P:=P) h5 hkv hkey ents.isEmpty w
          obtain ⟨x,hx1,hx2⟩:=found_key (P:=P) h5 hkv h9 hr
          have hrun:∀ {v:Value} {bb:Bool},(x=none∧v=zv∧bb=false)∨(∃ i,x=some (i,v)∧bb=true) →
              (execOp a.eval o).run P w = .ok (.value (if ok then .tuple #[v, .bool bb] else v)) w:=by
            intro v bb hvb
            rcases hvb with ⟨rfl,rfl,rfl⟩ | ⟨i,rfl,rfl⟩
            · cases ok <;> simp [execOp,ho,g2,Instr.lookup,run_underlying hu,getObj,Sem.run,h8,hck,hx2,hzero]
            · cases ok <;> simp [execOp,ho,g2,Instr.lookup,run_underlying hu,getObj,Sem.run,h8,hck,hx2]
          rcases hx1.get hr with ⟨rfl,rfl⟩ | ⟨i,v,d,rfl,rfl,hd⟩
          · have:=hrun (.inl ⟨rfl,rfl,rfl⟩)
            cases ok with
            | true=>exact eff_pure H (by simpa using this) (rd_tup2 hzrd)
            | false=>exact eff_pure H (by simpa using this) (.of1 hzrd)
          · have:=hrun (.inr ⟨i,rfl,rfl⟩)
            cases ok with
            | true=>exact eff_pure H (by simpa using this) (rd_tup2 hd)
            | false=>exact eff_pure H (by simpa using this) (.of1 hd)
        · cases he
      · rename_i key hm hk
        split at he
        · rename_i hkey
          simp only [Option.some.injEq] at he
          subst he
          have hkv:=opd_d F h2 hk
          have hck:=checkKey_ok (P:=P) h5 hkv hkey true w
          have hmv:=rd_nilm (opd_d F h1 hm)
          obtain ⟨x,hx1,hx2⟩:=found_key (P:=P) (es:=[]) (l:=[]) (r:=none) h5 hkv trivial rfl
          cases hx1
          have hrun:(execOp a.eval o).run P w = .ok (.value (if ok then .tuple #[zv, .bool false] else zv)) w:=by
            cases ok <;> simp [execOp,ho,hmv,Instr.lookup,run_underlying hu,hck,hx2,hzero]
          cases ok with
          | true=>exact eff_pure H (by simpa using hrun) (rd_tup2 hzrd)
          | false=>exact eff_pure H (by simpa using hrun) (.of1 hzrd)
        · cases he
      · cases he
    · cases h3
  · cases hc
end
end Go.Proofs.YtgmphfmoonbfpaaMv

set_option maxRecDepth 2000
namespace Go.Proofs.YtgmphfmoonbfpaaMv
open Go
section
variable {P:Program} {X:Nat→Prop} {h:Hp} {B:Gh} {w:World} {f:Fr} {a:Act} {call:FuncId→List V→Option V} {dst:Nat} {o:Oper} {e:Eff}
theorem RV1.solid {v:V} {x:Value} (hv:RV1 X h B w v x) (hs:v.solid=true):x.oneCell'=true∧x.cells = #[x]:=by
  have key:∀ x:Value,x.oneCell'=true→x.cells = #[x]:=by
    intro x hx
    cases x <;> first | rfl | simp [Value.oneCell'] at hx
  have h1:x.oneCell'=true:=by
    cases v with
    | d d=>exact RD.one hv (by rintro cs rfl;simp [V.solid] at hs)
    | ip cs o1=>obtain ⟨b,base,rfl,_⟩:=hv;rfl
    | ptr u s p e1 o1=>obtain ⟨r,_,_,rfl⟩:=hv;rfl
    | msl u s p off n=>obtain ⟨r,_,h2,h3⟩:=hv;obtain ⟨ad,cap,rfl,_⟩:=hdr_form h3 h2;rfl
    | mp u s at_=>obtain ⟨es,_,rfl⟩:=RV1.mp_iff.1 hv;rfl
    | z nn=>obtain ⟨ad,rfl,_⟩:=hv;rfl
    | fn g vs=>simp [V.solid] at hs
    | agg vs=>simp [V.solid] at hs
    | tup vs=>simp [V.solid] at hs
    | bad=>simp [V.solid] at hs
    | und=>simp [V.solid] at hs
  exact ⟨h1,key x h1⟩
def CellsV (X:Nat→Prop) (h:Hp) (B:Gh) (w:World) (vs:List V) (C:Array Value):Prop:=
  C.size=vs.length ∧ ∀ (i:Nat) (v:V) (x:Value),vs[i]? = some v→C[i]? = some x→RV1 X h B w v x∧x.oneCell'=true
theorem fillD_V:∀ (ps:List (Nat × Nat × V)) (cs cs':List D),fillD cs ps=some cs'→fillV (cs.map .d) ps=some (cs'.map .d)
  | [],cs,cs',hf=>by simp [fillD] at hf;subst hf;simp [fillV]
  | (off,n,v)::ps,cs,cs',hf=>by
    cases v with
    | d x=>
      cases x with
      | agg ds=>
        simp only [fillD] at hf
        split at hf
        · rename_i hcond
          have:=fillD_V _ _ _ hf
          simp only [fillV]
          rw [if_pos (by simpa using hcond)]
          simpa using this
        · cases hf
      | _=>
        simp only [fillD] at hf
        split at hf
        · rename_i hcond
          have:=fillD_V _ _ _ hf
          simp only [fillV]
          rw [if_pos ⟨hcond.1,by simpa using hcond.2,rfl⟩]
          simpa using this
        · cases hf
    | _=>simp [fillD] at hf
theorem fill_ok:∀ (qs:List (Nat × Value)) (ps:List (Nat × Nat × V)) (place:Nat→Option (Nat × Nat)) (vs vs':List V) (C:Array Value),
    qs.length=ps.length→(∀ (k:Nat) (q:Nat × Value) (p:Nat × Nat × V),qs[k]? = some q→ps[k]? = some p→place q.1=some (p.1,p.2.1)∧RV X h B w p.2.2 q.2) →
    CellsV X h B w vs C→fillV vs ps=some vs'→∃ C',Instr.fill place C qs=some C'∧CellsV X h B w vs' C'
  | [],[],place,vs,vs',C,_,_,hC,hf=>by
    simp only [fillV,Option.some.injEq] at hf
    subst hf
    exact ⟨C,rfl,hC⟩
  | (i,x)::qs,(off,n,v)::ps,place,vs,vs',C,hl,hr,hC,hf=>by
    obtain ⟨hp,hx⟩:=hr 0 (i,x) (off,n,v) rfl rfl
    have hr':∀ (k:Nat) (q:Nat × Value) (p:Nat × Nat × V),qs[k]? = some q→ps[k]? = some p→place q.1=some (p.1,p.2.1)∧RV X h B w p.2.2 q.2:=fun k q p h1 h2=>hr (k+1) q p (by simpa using h1) (by simpa using h2)
    have go:∀ (us:List V),us.length=n→x.cells.size=n→off+n≤vs.length→(∀ (j:Nat) (u:V) (y:Value),us[j]? = some u→x.cells[j]? = some y→RV1 X h B w u y∧y.oneCell'=true) →
        fillV (vs.take off++us++vs.drop (off+n)) ps=some vs'→∃ C',Instr.fill place C ((i,x)::qs)=some C'∧CellsV X h B w vs' C':=by
      intro us h1 h2 h3 h4 h5
      obtain ⟨g1,g2⟩:=Great.foldl_set off x.cells.toList 0 C
      have hz:x.cells.zipIdx.foldl (fun cs (c,j)=>cs.setIfInBounds (off+j) c) C=(x.cells.toList.zipIdx 0).foldl (fun cs (y:Value × Nat)=>cs.setIfInBounds (off+y.2) y.1) C:=by
        rw [←Array.foldl_toList,Array.toList_zipIdx]
      have hC':CellsV X h B w (vs.take off++us++vs.drop (off+n)) ((x.cells.toList.zipIdx 0).foldl (fun cs (y:Value × Nat)=>cs.setIfInBounds (off+y.2) y.1) C):=by
        have hs:=hC.1
        refine ⟨by rw [g1];simp;omega,fun k u y hu hy=>?_⟩
        rw [g2] at hy
        simp only [Nat.add_zero,Array.length_toList,Array.getElem?_toList] at hy
        have htl:(vs.take off).length=off:=by simp;omega
        by_cases hk:off≤k∧k<off+n
        · rw [if_pos ⟨hk.1,by omega,by omega⟩] at hy
          rw [List.append_assoc,List.getElem?_append_right (by omega),htl,List.getElem?_append_left (by omega)] at hu
          exact h4 _ _ _ hu hy
        · rw [if_neg (by omega)] at hy
          refine hC.2 k u y ?_ hy
          by_cases hk2:k<off
          · rw [List.append_assoc,List.getElem?_append_left (by omega),List.getElem?_take,if_pos hk2] at hu;exact hu
          · rw [List.getElem?_append_right (by simp;omega),List.getElem?_drop] at hu
            have:off+n+(k - (vs.take off++us).length)=k:=by
              rw [List.length_append,htl,h1];omega
            rwa [this] at hu
      obtain ⟨C',c1,c2⟩:=fill_ok qs ps place _ vs' _ (by simpa using hl) hr' hC' h5
      refine ⟨C', ?_,c2⟩
      have hcond:(x.cells.size≠n||off+x.cells.size > C.size)=false:=by
        have:=hC.1
        simp [h2];omega
      simp only [Instr.fill,hp,hcond,Bool.false_eq_true,if_false,hz]
      exact c1
    have go1:v.solid=true→RV1 X h B w v x→n=1→off+1≤vs.length→fillV (vs.set off v) ps=some vs'→∃ C',Instr.fill place C ((i,x)::qs)=some C'∧CellsV X h B w vs' C':=by
      intro hso hx1 hn h3 hf1
      subst hn
      obtain ⟨q1,q2⟩:=RV1.solid hx1 hso
      refine go [v] rfl (by rw [q2];rfl) h3 (fun j u y hu hy=>?_) ?_
      · rw [q2] at hy
        match j,hu,hy with
        | 0,hu,hy=>simp at hu hy;subst hu;subst hy;exact ⟨hx1,q1⟩
        | j+1,hu,hy=>simp at hu
      · rw [←hf1,List.set_eq_take_append_cons_drop,if_pos (by omega)];simp
    cases v with
    | d dd=>
      cases dd with
      | agg ds=>
        simp only [fillV] at hf
        split at hf
        · rename_i hcond
          obtain ⟨xs,rfl,a1,a2,a3⟩:=rd_agg hx
          refine go (ds.map .d) (by simp [hcond.1]) (by show xs.size=n;omega) hcond.2 (fun j u y hu hy=>?_) hf
          simp only [List.getElem?_map,Option.map_eq_some_iff] at hu
          obtain ⟨dj,hdj,rfl⟩:=hu
          exact ⟨a3 j dj y hdj hy,a2 j y hy⟩
        · cases hf
      | _=>
        simp only [fillV] at hf
        split at hf
        · rename_i hcond
          exact go1 hcond.2.2 (RV.to1 hx rfl) hcond.1 hcond.2.1 hf
        · cases hf
    | fn _ _=>simp only [fillV] at hf;split at hf <;> simp_all [V.solid]
    | agg _=>simp only [fillV] at hf;split at hf <;> simp_all [V.solid]
    | tup _=>simp only [fillV] at hf;split at hf <;> simp_all [V.solid]
    | bad=>simp only [fillV] at hf;split at hf <;> simp_all [V.solid]
    | und=>simp only [fillV] at hf;split at hf <;> simp_all [V.solid]
    | _=>
      simp only [fillV] at hf
      split at hf
      · rename_i hcond
        exact go1 hcond.2.2 (RV.to1 hx rfl) hcond.1 hcond.2.1 hf
      · cases hf
  | [],_::_,_,_,_,_,hl,_,_,_=>by simp at hl
  | _::_,[],_,_,_,_,hl,_,_,_=>by simp at hl
theorem mapM_ok {α β:Type} (g:α→Sem β) (g':α→β) (w:World):∀ (xs:List α),(∀ x ∈ xs,(g x).run P w = .ok (g' x) w)→(xs.mapM g).run P w = .ok (xs.map g') w
  | [],_=>by simp
  | x::xs,hg=>by
    rw [List.mapM_cons]
    simp [hg x (by simp),mapM_ok g g' w xs (fun y hy=>hg y (by simp [hy]))]
theorem partsOk_spec (F:FRel X h B w f a) {places:Nat→Option (Nat × Nat)}:∀ {qs:List (Nat × Operand)} {ps:List (Nat × Nat × Opd)},partsOk P places qs ps=true →
    (qs.map fun (q:Nat × Operand)=>(q.1,a.eval q.2)).length=(ps.map fun (p:Nat × Nat × Opd)=>(p.1,p.2.1,p.2.2.ev f)).length ∧
    ∀ (k:Nat) (q:Nat × Value) (p:Nat × Nat × V),(qs.map fun (q:Nat × Operand)=>(q.1,a.eval q.2))[k]? = some q→(ps.map fun (p:Nat × Nat × Opd)=>(p.1,p.2.1,p.2.2.ev f))[k]? = some p→places q.1=some (p.1,p.2.1)∧RV X h B w p.2.2 q.2
  | [],[],_=>⟨rfl,fun k q p hq=>by simp at hq⟩
  | (i,x)::qs,(off,n,y)::ps,hc=>by
    simp only [partsOk,Bool.and_eq_true,decide_eq_true_eq] at hc
    obtain ⟨h1,h2⟩:=partsOk_spec F hc.2.2
    refine ⟨by simpa using h1,fun k q p hq hp=>?_⟩
    cases k with
    | zero=>simp at hq hp;subst hq;subst hp;exact ⟨hc.1,opd_ok F hc.2.1⟩
    | succ k=>exact h2 k q p (by simpa using hq) (by simpa using hp)
  | [],_::_,hc=>by simp [partsOk] at hc
  | _::_,[],hc=>by simp [partsOk] at hc
theorem zeroIs_spec {t:TypeId} {zs:List D} (hz:zeroIs P t zs=true):∃ i v,P.info? t=some i∧i.zero=some v∧scalarsAre v.cells.toList zs=true:=by
  obtain ⟨i,hi,h1⟩:=opt_any hz
  obtain ⟨v,hv,h2⟩:=opt_any h1
  exact ⟨i,v,hi,hv,h2⟩
theorem zero_cells {v:Value} {zs:List D} (hs:scalarsAre v.cells.toList zs=true):CellsV X h B w (zs.map .d) v.cells:=by
  obtain ⟨h1,h2⟩:=scalarsAre_get hs
  refine ⟨by simpa using h1,fun i u x hu hx=>?_⟩
  simp only [List.getElem?_map,Option.map_eq_some_iff] at hu
  obtain ⟨d,hd,rfl⟩:=hu
  exact scalarIs_rd (h2 i x d (by simpa using hx) hd) w _
theorem eff_build (H:HRel X h B w) (F:FRel X h B w f a) {zero:List D} {ps:List (Nat × Nat × Opd)} (he:eff call f h dst (.build zero ps)=some e) (hc:chk P o.op o.type (.build zero ps)=true):EffOk P X h B w (execOp a.eval o) e:=by
  simp only [eff] at he
  simp only [chk] at hc
  split at hc
  · rename_i t qs ho
    simp only [Bool.and_eq_true] at hc
    obtain ⟨h1,h2,h3⟩:=hc
    obtain ⟨i,zv,hi,hzv,hzs⟩:=zeroIs_spec h1
    split at h2
    · rename_i fs hu
      obtain ⟨hlen,hparts⟩:=partsOk_spec F h3
      have hplaces:(fs.mapM fun f=>do pure (f.offset,←Go.sizeOf f.type):Sem (Array (Nat × Nat))).run P w = .ok (fs.map fun f=>(f.offset,((P.info? f.type).map (·.size)).getD 0)) w:=by
        rw [Array.mapM_eq_mapM_toList]
        have:=mapM_ok (P:=P) (fun f:Field=>do pure (f.offset,←Go.sizeOf f.type)) (fun f=>(f.offset,((P.info? f.type).map (·.size)).getD 0)) w fs.toList (fun f hf=>by
          have:=List.all_eq_true.1 h2 f hf
          obtain ⟨k,hk⟩:=Option.isSome_iff_exists.1 this
          simp [Go.sizeOf,typeInfo,hk])
        rw [Sem.run_map,this]
        simp only [Result.andThen_ok]
        congr 1
        apply Array.ext'
        simp
      have hpl:∀ j,placeOf P t j=(fs.map fun f=>(f.offset,((P.info? f.type).map (·.size)).getD 0))[j]? ∨ placeOf P t j=none:=by
        intro j
        simp only [placeOf,hu,Array.getElem?_map]
        cases hj:fs[j]? with
        | none=>right;rfl
        | some fd=>
          cases hk:P.info? fd.type with
          | none=>right;simp [hk]
          | some k=>left;simp [hk]
      have hparts':∀ (k:Nat) (q:Nat × Value) (p:Nat × Nat × V),(qs.toList.map fun (q:Nat × Operand)=>(q.1,a.eval q.2))[k]? = some q→(ps.map fun (p:Nat × Nat × Opd)=>(p.1,p.2.1,p.2.2.ev f))[k]? = some p →
          (fun j=>(fs.map fun f=>(f.offset,((P.info? f.type).map (·.size)).getD 0))[j]?) q.1=some (p.1,p.2.1)∧RV X h B w p.2.2 q.2:=by
        intro k q p hq hp
        obtain ⟨g1,g2⟩:=hparts k q p hq hp
        rcases hpl q.1 with g3 | g3
        · exact ⟨g3.symm.trans g1,g2⟩
        · rw [g3] at g1;cases g1
      have fin:∀ vs',fillV (zero.map .d) (ps.map fun (p:Nat × Nat × Opd)=>(p.1,p.2.1,p.2.2.ev f))=some vs'→∃ C',(execOp a.eval o).run P w = .ok (.value (.agg C')) w∧CellsV X h B w vs' C':=by
        intro vs' hf
        obtain ⟨C',c1,c2⟩:=fill_ok _ _ _ _ vs' zv.cells hlen hparts' (zero_cells hzs) hf
        refine ⟨C', ?_,c2⟩
        have hpl':(fs.mapM fun f=>Prod.mk f.offset <$> Go.sizeOf f.type:Sem (Array (Nat × Nat))).run P w = .ok (fs.map fun f=>(f.offset,((P.info? f.type).map (·.size)).getD 0)) w:=by
          rw [←hplaces];simp
        have c1':Instr.fill (fun x=>(fs.map fun f=>(f.offset,((P.info? f.type).map (·.size)).getD 0))[x]?) zv.cells (qs.toList.map fun x=>(x.1,a.eval x.2))=some C':=c1
        simp [execOp,ho,Instr.build,zeroValue,typeInfo,hi,hzv,run_underlying hu]
        rw [hpl']
        simp only [Result.andThen_ok]
        rw [c1']
        rfl
      split at he
      · rename_i cs hcs
        simp only [Option.some.injEq] at he
        subst he
        obtain ⟨C',c1,c2⟩:=fin _ (fillD_V _ _ _ hcs)
        refine eff_pure H c1 (.of1 (.agg _ _ (by simpa using c2.1) (fun j v hv=>?_) (fun j d v hd hv=>?_)))
        · have hlt:j<(cs.map V.d).length:=by rw [←c2.1];exact (Array.getElem?_eq_some_iff.1 hv).1
          exact (c2.2 j _ v (List.getElem?_eq_getElem hlt) hv).2
        · exact (c2.2 j (.d d) v (by simp [hd]) hv).1
      · simp only [Option.map_eq_some_iff] at he
        obtain ⟨vs',hvs,rfl⟩:=he
        obtain ⟨C',c1,c2⟩:=fin _ hvs
        refine eff_pure H c1 ⟨C',rfl,⟨c2.1,fun j v x hv hx=>(c2.2 j v x hv hx).1⟩,fun j x hx=>?_⟩
        have hlt:j<vs'.length:=by rw [←c2.1];exact (Array.getElem?_eq_some_iff.1 hx).1
        exact (c2.2 j _ x (List.getElem?_eq_getElem hlt) hx).2
    · cases h2
  · cases hc
end
end Go.Proofs.YtgmphfmoonbfpaaMv
