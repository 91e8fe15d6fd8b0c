/- Part 8 of the proof. -/
import Derived.Test.YtgmphfmoonbfpaaP7
set_option linter.unusedVariables false
set_option linter.unusedSimpArgs false
set_option maxRecDepth 100000
namespace Go.Proofs.YtgmphfmoonbfpaaMv
open Go
def zN:TNum:=⟨⟨[],0,0,false⟩,0⟩
def f0 (l:List TSym) (k:Nat):TNum:=⟨l.getD k zN.s,(k:Int)⟩
def numf (l:List TSym) (i:Nat) (k:Nat):TNum:=if k<i then f0 l k else zN
theorem rep_rf (n:Nat):List.replicate n zN.oc=rf n fun _=>zN:=rf_ext (by simp) fun k hk=>by simp [hk]
theorem rep_pf (n:Nat):List.replicate n [C.d (D.int .i64 0)]=pf n fun _=>0:=by
  apply List.ext_getElem?
  intro k
  by_cases hk:k<n
  · rw [pf_get _ hk];simp [hk]
  · rw [List.getElem?_eq_none (by simp;omega),List.getElem?_eq_none (by rw [pf_len];omega)]
theorem map_sf (l:List TSym):l.map TSym.oc=sf l.length fun k=>(f0 l k).s:=sf_ext (by simp) fun k hk=>by
  simp [f0,List.getD,List.getElem?_eq_getElem hk]
abbrev Z2:Nat × Ob:=(2,Ob.row true 2 true [[C.d (D.sl false []),C.d (D.sl false [])]])
abbrev P2:V:=V.ptr 0 2 [] 0 0
abbrev P3:V:=V.ptr 0 3 [] 0 0
theorem l21a (b:Bool) (l:List TSym) (ss ys:List (List C)) (hp:HL) (hl:l.length<2 ^ 30):∀ (d i:Nat),l.length - i=d→i≤l.length →
    Lp pg i21_l0 ⟨[(2,P2),(3,P3),(4,V.msl 0 18 [] 0 l.length),(20,V.d (D.sl b (l.map TSym.c))),(21,iN l.length),(22,iN i)],[Z2,(3,Ob.row true 2 true [[C.own 6 true ss,C.own 4 true ys]]),(18,Ob.row false 5 true (rf l.length (numf l i)))]::hp⟩ (.exit 0)
      ⟨[(2,P2),(3,P3),(4,V.msl 0 18 [] 0 l.length),(20,V.d (D.sl b (l.map TSym.c))),(21,iN l.length),(22,iN l.length),(23,V.d (D.bool false))],[Z2,(3,Ob.row true 2 true [[C.own 6 true ss,C.own 4 true ys]]),(18,Ob.row false 5 true (rf l.length (f0 l)))]::hp⟩:=by
  intro d
  induction d with
  | zero=>
    intro i h h1
    obtain rfl:i=l.length:=by omega
    have e:rf l.length (numf l l.length)=rf l.length (f0 l):=rf_cong fun k hk=>by simp [numf,hk]
    rw [e]
    exact Lp.exit (w21a_0 b l _ l.length ss ys hp (lt_f (Nat.le_refl _)))
  | succ d ih=>
    intro i h h1
    have hi:i<l.length:=by omega
    have hx:l[i]? = some l[i]:=List.getElem?_eq_getElem hi
    have hw:IntKind.i64.wrap (((i:Nat):Int)+1)=((i+1:Nat):Int):=wadd1 (by omega)
    have r:=w21a_1 b l (numf l i) i ss ys hp l[i] (lt_t hi) (by rw [List.getElem?_map,hx];rfl) hi (rf_get _ hi)
    have e:setCells (rf l.length (numf l i)) i 0 (TNum.oc ⟨l[i],(i:Int)⟩)=rf l.length (numf l (i+1)):=by
      rw [rf_set _ _ _ hi]
      refine rf_cong fun k hk=>?_
      by_cases hk1:k=i
      · subst hk1
        simp [numf,f0,List.getD,hx]
      · rw [if_neg hk1]
        simp only [numf]
        by_cases hk2:k<i
        · rw [if_pos hk2,if_pos (by omega)]
        · rw [if_neg hk2,if_neg (by omega)]
    rw [hw] at r
    have r':Ev pg i21_l0 ⟨[(2,P2),(3,P3),(4,V.msl 0 18 [] 0 l.length),(20,V.d (D.sl b (l.map TSym.c))),(21,iN l.length),(22,iN i)],[Z2,(3,Ob.row true 2 true [[C.own 6 true ss,C.own 4 true ys]]),(18,Ob.row false 5 true (rf l.length (numf l i)))]::hp⟩ .normal
      ⟨[(2,P2),(3,P3),(4,V.msl 0 18 [] 0 l.length),(20,V.d (D.sl b (l.map TSym.c))),(21,iN l.length),(22,iN (i+1))],[Z2,(3,Ob.row true 2 true [[C.own 6 true ss,C.own 4 true ys]]),(18,Ob.row false 5 true (setCells (rf l.length (numf l i)) i 0 (TNum.oc ⟨l[i],(i:Int)⟩)))]::hp⟩:=r
    rw [e] at r'
    exact Lp.next r' (ih (i+1) (by omega) (by omega))
def pl (g:Nat→TNum):Nat→Nat→Nat
  | 0=>fun _=>0
  | i+1=>fun j=>if j=(g i).n.toNat then i else pl g i j
def hs (g:Nat→TNum) (h:Nat→TSym) (i k:Nat):TSym:=if k<i then (g k).s else h k
theorem l21b {n:Nat} (h:Nat→TSym) (g:Nat→TNum) (ss:List (List C)) (hp:HL) (hn:n<2 ^ 30) (hg:∀ k,k<n→∃ m,m<n∧(g k).n=(m:Int)):∀ (d i:Nat),n - i=d→i≤n →
    Lp pg i21_l2 ⟨[(2,P2),(3,P3),(7,V.msl 0 38 [] 0 n),(39,V.msl 0 18 [] 0 n),(40,iN n),(41,iN i)],[Z2,(3,Ob.row true 2 true [[C.own 6 true ss,C.own 4 true (sf n (hs g h i))]]),(18,Ob.row false 5 true (rf n g)),(38,Ob.row false 1 true (pf n (pl g i)))]::hp⟩ (.exit 2)
      ⟨[(2,P2),(3,P3),(7,V.msl 0 38 [] 0 n),(39,V.msl 0 18 [] 0 n),(40,iN n),(41,iN n),(42,V.d (D.bool false))],[Z2,(3,Ob.row true 2 true [[C.own 6 true ss,C.own 4 true (sf n fun k=>(g k).s)]]),(18,Ob.row false 5 true (rf n g)),(38,Ob.row false 1 true (pf n (pl g n)))]::hp⟩:=by
  intro d
  induction d with
  | zero=>
    intro i h0 h1
    obtain rfl:i=n:=by omega
    have e:sf i (hs g h i)=sf i fun k=>(g k).s:=sf_cong fun k hk=>by simp [hs,hk]
    rw [e]
    exact Lp.exit (w21b_0 i _ g _ i ss hp (lt_f (Nat.le_refl _)))
  | succ d ih=>
    intro i h0 h1
    have hi:i<n:=by omega
    obtain ⟨m,hm,hgm⟩:=hg i hi
    have hw:IntKind.i64.wrap (((i:Nat):Int)+1)=((i+1:Nat):Int):=wadd1 (by omega)
    have r:=w21b_1 n (hs g h i) g (pl g i) i ss hp m (lt_t hi) hi (rf_get g hi) (by rw [sf_len];exact hi) (sf_get _ hi) hgm hm (pf_get _ hm)
    have e1:setCells (sf n (hs g h i)) i 0 (g i).s.oc=sf n (hs g h (i+1)):=by
      rw [sf_set _ _ _ hi]
      refine sf_cong fun k hk=>?_
      simp only [hs]
      by_cases hk1:k=i
      · subst hk1;rw [if_pos rfl,if_pos (by omega)]
      · rw [if_neg hk1]
        by_cases hk2:k<i
        · rw [if_pos hk2,if_pos (by omega)]
        · rw [if_neg hk2,if_neg (by omega)]
    have e2:setCells (pf n (pl g i)) m 0 [C.d (D.int .i64 ((i:Nat):Int))]=pf n (pl g (i+1)):=by
      rw [pf_set _ _ _ hm]
      have:(g i).n.toNat=m:=by omega
      simp only [pl,this]
    rw [hw] at r
    have r':Ev pg i21_l2 ⟨[(2,P2),(3,P3),(7,V.msl 0 38 [] 0 n),(39,V.msl 0 18 [] 0 n),(40,iN n),(41,iN i)],[Z2,(3,Ob.row true 2 true [[C.own 6 true ss,C.own 4 true (sf n (hs g h i))]]),(18,Ob.row false 5 true (rf n g)),(38,Ob.row false 1 true (pf n (pl g i)))]::hp⟩ .normal
      ⟨[(2,P2),(3,P3),(7,V.msl 0 38 [] 0 n),(39,V.msl 0 18 [] 0 n),(40,iN n),(41,iN (i+1))],[Z2,(3,Ob.row true 2 true [[C.own 6 true ss,C.own 4 true (setCells (sf n (hs g h i)) i 0 (g i).s.oc)]]),(18,Ob.row false 5 true (rf n g)),(38,Ob.row false 1 true (setCells (pf n (pl g i)) m 0 [C.d (D.int .i64 ((i:Nat):Int))]))]::hp⟩:=r
    rw [e1,e2] at r'
    exact Lp.next r' (ih (i+1) (by omega) (by omega))
theorem l21d {n:Nat} (p:Nat→Nat) (l:List TSec) (i:Nat) (ys:List (List C)) (x:TSec) (hp:HL) (hi:i<l.length) (hl:x.relocs.l.length<2 ^ 30):∀ (d j:Nat),x.relocs.l.length - j=d→j≤x.relocs.l.length →
    Lp pg i21_l6 ⟨[(2,P2),(3,P3),(7,V.msl 0 38 [] 0 n),(10,iN i),(60,iN l.length),(61,iN i),(70,iN x.relocs.l.length),(71,iN j)],[Z2,(3,Ob.row true 2 true [[C.own 6 true (nir n p l i x j),C.own 4 true ys]]),(38,Ob.row false 1 true (pf n p))]::hp⟩ (.exit 6)
      ⟨[(2,P2),(3,P3),(7,V.msl 0 38 [] 0 n),(10,iN i),(60,iN l.length),(61,iN i),(70,iN x.relocs.l.length),(71,iN x.relocs.l.length),(72,V.d (D.bool false))],[Z2,(3,Ob.row true 2 true [[C.own 6 true (nir n p l i x x.relocs.l.length),C.own 4 true ys]]),(38,Ob.row false 1 true (pf n p))]::hp⟩:=by
  intro d
  induction d with
  | zero=>
    intro j h h1
    obtain rfl:j=x.relocs.l.length:=by omega
    exact Lp.exit (w21d_0 n p l i ys x _ _ hp (lt_f (Nat.le_refl _)))
  | succ d ih=>
    intro j h h1
    have hj:j<x.relocs.l.length:=by omega
    have hy:x.relocs.l[j]? = some x.relocs.l[j]:=List.getElem?_eq_getElem hj
    generalize x.relocs.l[j]=y at hy
    have hw:IntKind.i64.wrap (((j:Nat):Int)+1)=((j+1:Nat):Int):=wadd1 (by omega)
    have c1:i<(nir n p l i x j).length:=by rw [nir_len];exact hi
    have c2:cellAt (nir n p l i x j) i 5=some (C.own 4 true (rjr n p x.relocs.l j)):=cellAt_of (nir_get hi) rfl
    have c3:j<(rjr n p x.relocs.l j).length:=by rw [rjr_len];exact hj
    have c4:cellAt (rjr n p x.relocs.l j) j 2=some (C.d (D.int .i64 y.sym)):=cellAt_of (rjr_get hy) rfl
    have nx:=ih (j+1) (by omega) (by omega)
    by_cases h2:y.sym ≥ 0
    · by_cases h3:y.sym<((n:Nat):Int)
      · obtain ⟨k,hk⟩:=Int.eq_ofNat_of_zero_le h2
        have hkn:k<n:=by omega
        have r:=w21d_3 n p l i ys x x.relocs.l.length j hp y k (lt_t hj) c1 c2 c3 c4 (by simpa using h2) (by simpa using h3) hk hkn (cellAt_of (pf_get p hkn) rfl) (rjr_get hy)
        have hz:(rnum n p y).oc=(({ y with sym:=((p k:Nat):Int) }:TRlc)).oc:=by
          simp only [rnum,if_pos (And.intro h2 h3)]
          rw [show y.sym.toNat=k by omega]
        rw [hw,nir_next hi hy _ hz] at r
        exact Lp.next r nx
      · have r:=w21d_2 n p l i ys x x.relocs.l.length j hp y (lt_t hj) c1 c2 c3 c4 (by simpa using h2) (by simpa using h3)
        have hz:rnum n p y=y:=by simp only [rnum];rw [if_neg (fun hh=>h3 hh.2)]
        rw [hw] at r
        rw [←nir_skip hy hz] at nx
        exact Lp.next r nx
    · have r:=w21d_1 n p l i ys x x.relocs.l.length j hp y (lt_t hj) c1 c2 c3 c4 (by simpa using h2)
      have hz:rnum n p y=y:=by simp only [rnum];rw [if_neg (fun hh=>h2 hh.1)]
      rw [hw] at r
      rw [←nir_skip hy hz] at nx
      exact Lp.next r nx
theorem l21c {n:Nat} (p:Nat→Nat) (l:List TSec) (ys:List (List C)) (hp:HL) (hl:l.length<2 ^ 30) (hr:∀ s ∈ l,s.relocs.l.length<2 ^ 30):∀ (d i:Nat),l.length - i=d→i≤l.length →
    Lp pg i21_l4 ⟨[(2,P2),(3,P3),(7,V.msl 0 38 [] 0 n),(60,iN l.length),(61,iN i)],[Z2,(3,Ob.row true 2 true [[C.own 6 true (nkr n p l i),C.own 4 true ys]]),(38,Ob.row false 1 true (pf n p))]::hp⟩ (.exit 4)
      ⟨[(2,P2),(3,P3),(7,V.msl 0 38 [] 0 n),(60,iN l.length),(61,iN l.length),(62,V.d (D.bool false))],[Z2,(3,Ob.row true 2 true [[C.own 6 true (nkr n p l l.length),C.own 4 true ys]]),(38,Ob.row false 1 true (pf n p))]::hp⟩:=by
  intro d
  induction d with
  | zero=>
    intro i h h1
    obtain rfl:i=l.length:=by omega
    exact Lp.exit (w21c_0 n p l l.length ys hp (lt_f (Nat.le_refl _)))
  | succ d ih=>
    intro i h h1
    have hi:i<l.length:=by omega
    have hx:l[i]? = some l[i]:=List.getElem?_eq_getElem hi
    have hm:l[i] ∈ l:=List.getElem_mem hi
    have hw:IntKind.i64.wrap (((i:Nat):Int)+1)=((i+1:Nat):Int):=wadd1 (by omega)
    have c1:i<(nkr n p l i).length:=by rw [nkr_len];exact hi
    have nx:=ih (i+1) (by omega) (by omega)
    have hg:=nkr_get (n:=n) (p:=p) hx
    cases he:l[i].relocs.l.isEmpty with
    | true=>
      have c2:cellAt (nkr n p l i) i 5=some (C.d (D.sl l[i].relocs.nn [])):=cellAt_of hg (by simp [TSec.ck,clC,he])
      have r:=w21c_2 n p l i ys hp l[i] (lt_t hi) c1 c2 (Lp.exit (w21e_0 n p l i ys hp))
      rw [hw] at r
      rw [←nkr_same hx he] at nx
      exact Lp.next r nx
    | false=>
      have c2:cellAt (nkr n p l i) i 5=some (C.own 4 true (l[i].relocs.l.map TRlc.oc)):=cellAt_of hg (by simp [TSec.ck,clC,he])
      have inner:=l21d (n:=n) p l i ys l[i] hp hi (hr _ hm) _ 0 rfl (Nat.zero_le _)
      rw [nir_zero hx he] at inner
      have r:=w21c_1 n p l i ys hp l[i] (lt_t hi) c1 c2 (by rw [List.length_map];exact inner)
      rw [hw,nir_end hx he] at r
      exact Lp.next r nx
def normT (o:TObj) (g:Nat→TNum):TObj where
  sections:=⟨true,o.sections.l.map (TSec.nm o.symbols.l.length (pl g o.symbols.l.length))⟩
  symbols:=⟨true,(List.range o.symbols.l.length).map fun k=>(g k).s⟩
theorem f21 (o:TObj) (ho:objOk o) (hp:HL):∃ g,SP 0 o.symbols.l.length (f0 o.symbols.l) g∧Srt ltN 0 o.symbols.l.length g∧Rn pg 21 [V.d (D.agg o.c)] hp (V.d (D.agg (normT o g).c)) hp:=by
  have h30:bdN=1073741824:=rfl
  have hs1:=ho.syms
  have hs2:=ho.secs
  obtain ⟨g,k1,k2,k3⟩:=f39 (n:=o.symbols.l.length) (by omega) (f0 o.symbols.l) fun x y h1 h2=>by simp [rkN,f0];omega
  refine ⟨g,k1,k2, ?_⟩
  have hg:∀ k,k<o.symbols.l.length→∃ m,m<o.symbols.l.length∧(g k).n=(m:Int):=fun k hk=>by
    obtain ⟨j,_,j2,j3⟩:=k1.at (Nat.zero_le k) hk
    exact ⟨j,j2,by rw [j3];rfl⟩
  have e0:List.replicate o.symbols.l.length [C.d (D.str ([])),C.d (D.int .i64 0),C.d (D.int .i64 0),C.d (D.bool false),C.d (D.int .i64 0)]=rf o.symbols.l.length (numf o.symbols.l 0):=by
    have:=rep_rf o.symbols.l.length
    refine this.trans (rf_cong fun k hk=>by simp [numf])
  have a1:=l21a o.symbols.nn o.symbols.l (o.sections.l.map TSec.ck) (o.symbols.l.map TSym.oc) hp hs1 o.symbols.l.length 0 (by omega) (Nat.zero_le _)
  have a2:=l21b (fun k=>(f0 o.symbols.l k).s) g (o.sections.l.map TSec.ck) hp hs1 hg o.symbols.l.length 0 (by omega) (Nat.zero_le _)
  have e1:sf o.symbols.l.length (hs g (fun k=>(f0 o.symbols.l k).s) 0)=o.symbols.l.map TSym.oc:=by
    rw [map_sf]
    exact sf_cong fun k hk=>by simp [hs]
  have a3:=l21c (n:=o.symbols.l.length) (pl g o.symbols.l.length) o.sections.l (sf o.symbols.l.length fun k=>(g k).s) hp hs2 ho.rels o.sections.l.length 0 (by omega) (Nat.zero_le _)
  have hfz:fzBs [C.own 6 true (o.sections.l.map (TSec.nk o.symbols.l.length (pl g o.symbols.l.length))),C.own 4 true (sf o.symbols.l.length fun k=>(g k).s)] =
      some [C.d (D.sl true ((o.sections.l.map (TSec.nm o.symbols.l.length (pl g o.symbols.l.length))).map TSec.c)),C.d (D.sl true (((List.range o.symbols.l.length).map fun k=>(g k).s).map TSym.c))]:=by
    have z1:fzCss (o.sections.l.map (TSec.nk o.symbols.l.length (pl g o.symbols.l.length)))=some ((o.sections.l.map (TSec.nm o.symbols.l.length (pl g o.symbols.l.length))).map TSec.c):=by
      rw [List.map_map]
      exact fzCss_map _ _ _ fun x _=>fz_sec _ _ x
    have z2:=fz_syms o.symbols.l.length fun k=>(g k).s
    simp only [fzBs,fzB,fzC,z1,z2,Option.map_some,Option.bind_some]
  exact w21_0 o (f0 o.symbols.l) g (fun k=>(g k).s) (pl g o.symbols.l.length) hp (f38 o ho) (by simp) (by simp) (by simp [room_eq];omega)
    (by rw [List.length_map,e0];exact a1) (by rw [List.length_map];exact k3) (by simp [room_eq];omega)
    (by rw [List.length_map,rep_pf,←e1];exact a2)
    (by rw [List.length_map,List.length_map,←nkr_zero o.symbols.l.length (pl g o.symbols.l.length),←nkr_end];exact a3) hfz
end Go.Proofs.YtgmphfmoonbfpaaMv

set_option maxRecDepth 100000
namespace Go.Proofs.YtgmphfmoonbfpaaMv
open Go
theorem w67_0 (x:Int) (hp:HL)
 (c0:¬(1:Int)<0)
 (c1:¬(2:Int)<0)
 (c2:¬(4:Int)<0)
 (c3:¬(8:Int)<0)
 (c4:¬(16:Int)<0)
 (c5:¬(32:Int)<0) :
 Rn pg 67 [V.d (D.int .u64 x)] (hp) (V.d (D.int .i64 (IntKind.i64.wrap (((BitVec.ofInt (IntKind.bits .i64) ((IntKind.i64.wrap ((IntKind.u64.wrap ((IntKind.u64.wrap ((IntKind.u64.wrap ((IntKind.u64.wrap (((BitVec.ofInt (IntKind.bits .u64) ((IntKind.u64.wrap ((Int.fdiv (IntKind.u64.wrap ((IntKind.u64.wrap (((BitVec.ofInt (IntKind.bits .u64) ((Int.fdiv (IntKind.u64.wrap ((IntKind.u64.wrap (((BitVec.ofInt (IntKind.bits .u64) ((Int.fdiv x (2 ^ (min (Int.toNat 1) 64)))) &&& BitVec.ofInt (IntKind.bits .u64) 6148914691236517205).toNat:Nat)))+(IntKind.u64.wrap (((BitVec.ofInt (IntKind.bits .u64) x &&& BitVec.ofInt (IntKind.bits .u64) 6148914691236517205).toNat:Nat))))) (2 ^ (min (Int.toNat 2) 64)))) &&& BitVec.ofInt (IntKind.bits .u64) 3689348814741910323).toNat:Nat)))+(IntKind.u64.wrap (((BitVec.ofInt (IntKind.bits .u64) ((IntKind.u64.wrap ((IntKind.u64.wrap (((BitVec.ofInt (IntKind.bits .u64) ((Int.fdiv x (2 ^ (min (Int.toNat 1) 64)))) &&& BitVec.ofInt (IntKind.bits .u64) 6148914691236517205).toNat:Nat)))+(IntKind.u64.wrap (((BitVec.ofInt (IntKind.bits .u64) x &&& BitVec.ofInt (IntKind.bits .u64) 6148914691236517205).toNat:Nat)))))) &&& BitVec.ofInt (IntKind.bits .u64) 3689348814741910323).toNat:Nat))))) (2 ^ (min (Int.toNat 4) 64)))+(IntKind.u64.wrap ((IntKind.u64.wrap (((BitVec.ofInt (IntKind.bits .u64) ((Int.fdiv (IntKind.u64.wrap ((IntKind.u64.wrap (((BitVec.ofInt (IntKind.bits .u64) ((Int.fdiv x (2 ^ (min (Int.toNat 1) 64)))) &&& BitVec.ofInt (IntKind.bits .u64) 6148914691236517205).toNat:Nat)))+(IntKind.u64.wrap (((BitVec.ofInt (IntKind.bits .u64) x &&& BitVec.ofInt (IntKind.bits .u64) 6148914691236517205).toNat:Nat))))) (2 ^ (min (Int.toNat 2) 64)))) &&& BitVec.ofInt (IntKind.bits .u64) 3689348814741910323).toNat:Nat)))+(IntKind.u64.wrap (((BitVec.ofInt (IntKind.bits .u64) ((IntKind.u64.wrap ((IntKind.u64.wrap (((BitVec.ofInt (IntKind.bits .u64) ((Int.fdiv x (2 ^ (min (Int.toNat 1) 64)))) &&& BitVec.ofInt (IntKind.bits .u64) 6148914691236517205).toNat:Nat)))+(IntKind.u64.wrap (((BitVec.ofInt (IntKind.bits .u64) x &&& BitVec.ofInt (IntKind.bits .u64) 6148914691236517205).toNat:Nat)))))) &&& BitVec.ofInt (IntKind.bits .u64) 3689348814741910323).toNat:Nat)))))))) &&& BitVec.ofInt (IntKind.bits .u64) 1085102592571150095).toNat:Nat)))+(Int.fdiv (IntKind.u64.wrap (((BitVec.ofInt (IntKind.bits .u64) ((IntKind.u64.wrap ((Int.fdiv (IntKind.u64.wrap ((IntKind.u64.wrap (((BitVec.ofInt (IntKind.bits .u64) ((Int.fdiv (IntKind.u64.wrap ((IntKind.u64.wrap (((BitVec.ofInt (IntKind.bits .u64) ((Int.fdiv x (2 ^ (min (Int.toNat 1) 64)))) &&& BitVec.ofInt (IntKind.bits .u64) 6148914691236517205).toNat:Nat)))+(IntKind.u64.wrap (((BitVec.ofInt (IntKind.bits .u64) x &&& BitVec.ofInt (IntKind.bits .u64) 6148914691236517205).toNat:Nat))))) (2 ^ (min (Int.toNat 2) 64)))) &&& BitVec.ofInt (IntKind.bits .u64) 3689348814741910323).toNat:Nat)))+(IntKind.u64.wrap (((BitVec.ofInt (IntKind.bits .u64) ((IntKind.u64.wrap ((IntKind.u64.wrap (((BitVec.ofInt (IntKind.bits .u64) ((Int.fdiv x (2 ^ (min (Int.toNat 1) 64)))) &&& BitVec.ofInt (IntKind.bits .u64) 6148914691236517205).toNat:Nat)))+(IntKind.u64.wrap (((BitVec.ofInt (IntKind.bits .u64) x &&& BitVec.ofInt (IntKind.bits .u64) 6148914691236517205).toNat:Nat)))))) &&& BitVec.ofInt (IntKind.bits .u64) 3689348814741910323).toNat:Nat))))) (2 ^ (min (Int.toNat 4) 64)))+(IntKind.u64.wrap ((IntKind.u64.wrap (((BitVec.ofInt (IntKind.bits .u64) ((Int.fdiv (IntKind.u64.wrap ((IntKind.u64.wrap (((BitVec.ofInt (IntKind.bits .u64) ((Int.fdiv x (2 ^ (min (Int.toNat 1) 64)))) &&& BitVec.ofInt (IntKind.bits .u64) 6148914691236517205).toNat:Nat)))+(IntKind.u64.wrap (((BitVec.ofInt (IntKind.bits .u64) x &&& BitVec.ofInt (IntKind.bits .u64) 6148914691236517205).toNat:Nat))))) (2 ^ (min (Int.toNat 2) 64)))) &&& BitVec.ofInt (IntKind.bits .u64) 3689348814741910323).toNat:Nat)))+(IntKind.u64.wrap (((BitVec.ofInt (IntKind.bits .u64) ((IntKind.u64.wrap ((IntKind.u64.wrap (((BitVec.ofInt (IntKind.bits .u64) ((Int.fdiv x (2 ^ (min (Int.toNat 1) 64)))) &&& BitVec.ofInt (IntKind.bits .u64) 6148914691236517205).toNat:Nat)))+(IntKind.u64.wrap (((BitVec.ofInt (IntKind.bits .u64) x &&& BitVec.ofInt (IntKind.bits .u64) 6148914691236517205).toNat:Nat)))))) &&& BitVec.ofInt (IntKind.bits .u64) 3689348814741910323).toNat:Nat)))))))) &&& BitVec.ofInt (IntKind.bits .u64) 1085102592571150095).toNat:Nat))) (2 ^ (min (Int.toNat 8) 64)))))+(Int.fdiv (IntKind.u64.wrap ((IntKind.u64.wrap (((BitVec.ofInt (IntKind.bits .u64) ((IntKind.u64.wrap ((Int.fdiv (IntKind.u64.wrap ((IntKind.u64.wrap (((BitVec.ofInt (IntKind.bits .u64) ((Int.fdiv (IntKind.u64.wrap ((IntKind.u64.wrap (((BitVec.ofInt (IntKind.bits .u64) ((Int.fdiv x (2 ^ (min (Int.toNat 1) 64)))) &&& BitVec.ofInt (IntKind.bits .u64) 6148914691236517205).toNat:Nat)))+(IntKind.u64.wrap (((BitVec.ofInt (IntKind.bits .u64) x &&& BitVec.ofInt (IntKind.bits .u64) 6148914691236517205).toNat:Nat))))) (2 ^ (min (Int.toNat 2) 64)))) &&& BitVec.ofInt (IntKind.bits .u64) 3689348814741910323).toNat:Nat)))+(IntKind.u64.wrap (((BitVec.ofInt (IntKind.bits .u64) ((IntKind.u64.wrap ((IntKind.u64.wrap (((BitVec.ofInt (IntKind.bits .u64) ((Int.fdiv x (2 ^ (min (Int.toNat 1) 64)))) &&& BitVec.ofInt (IntKind.bits .u64) 6148914691236517205).toNat:Nat)))+(IntKind.u64.wrap (((BitVec.ofInt (IntKind.bits .u64) x &&& BitVec.ofInt (IntKind.bits .u64) 6148914691236517205).toNat:Nat)))))) &&& BitVec.ofInt (IntKind.bits .u64) 3689348814741910323).toNat:Nat))))) (2 ^ (min (Int.toNat 4) 64)))+(IntKind.u64.wrap ((IntKind.u64.wrap (((BitVec.ofInt (IntKind.bits .u64) ((Int.fdiv (IntKind.u64.wrap ((IntKind.u64.wrap (((BitVec.ofInt (IntKind.bits .u64) ((Int.fdiv x (2 ^ (min (Int.toNat 1) 64)))) &&& BitVec.ofInt (IntKind.bits .u64) 6148914691236517205).toNat:Nat)))+(IntKind.u64.wrap (((BitVec.ofInt (IntKind.bits .u64) x &&& BitVec.ofInt (IntKind.bits .u64) 6148914691236517205).toNat:Nat))))) (2 ^ (min (Int.toNat 2) 64)))) &&& BitVec.ofInt (IntKind.bits .u64) 3689348814741910323).toNat:Nat)))+(IntKind.u64.wrap (((BitVec.ofInt (IntKind.bits .u64) ((IntKind.u64.wrap ((IntKind.u64.wrap (((BitVec.ofInt (IntKind.bits .u64) ((Int.fdiv x (2 ^ (min (Int.toNat 1) 64)))) &&& BitVec.ofInt (IntKind.bits .u64) 6148914691236517205).toNat:Nat)))+(IntKind.u64.wrap (((BitVec.ofInt (IntKind.bits .u64) x &&& BitVec.ofInt (IntKind.bits .u64) 6148914691236517205).toNat:Nat)))))) &&& BitVec.ofInt (IntKind.bits .u64) 3689348814741910323).toNat:Nat)))))))) &&& BitVec.ofInt (IntKind.bits .u64) 1085102592571150095).toNat:Nat)))+(Int.fdiv (IntKind.u64.wrap (((BitVec.ofInt (IntKind.bits .u64) ((IntKind.u64.wrap ((Int.fdiv (IntKind.u64.wrap ((IntKind.u64.wrap (((BitVec.ofInt (IntKind.bits .u64) ((Int.fdiv (IntKind.u64.wrap ((IntKind.u64.wrap (((BitVec.ofInt (IntKind.bits .u64) ((Int.fdiv x (2 ^ (min (Int.toNat 1) 64)))) &&& BitVec.ofInt (IntKind.bits .u64) 6148914691236517205).toNat:Nat)))+(IntKind.u64.wrap (((BitVec.ofInt (IntKind.bits .u64) x &&& BitVec.ofInt (IntKind.bits .u64) 6148914691236517205).toNat:Nat))))) (2 ^ (min (Int.toNat 2) 64)))) &&& BitVec.ofInt (IntKind.bits .u64) 3689348814741910323).toNat:Nat)))+(IntKind.u64.wrap (((BitVec.ofInt (IntKind.bits .u64) ((IntKind.u64.wrap ((IntKind.u64.wrap (((BitVec.ofInt (IntKind.bits .u64) ((Int.fdiv x (2 ^ (min (Int.toNat 1) 64)))) &&& BitVec.ofInt (IntKind.bits .u64) 6148914691236517205).toNat:Nat)))+(IntKind.u64.wrap (((BitVec.ofInt (IntKind.bits .u64) x &&& BitVec.ofInt (IntKind.bits .u64) 6148914691236517205).toNat:Nat)))))) &&& BitVec.ofInt (IntKind.bits .u64) 3689348814741910323).toNat:Nat))))) (2 ^ (min (Int.toNat 4) 64)))+(IntKind.u64.wrap ((IntKind.u64.wrap (((BitVec.ofInt (IntKind.bits .u64) ((Int.fdiv (IntKind.u64.wrap ((IntKind.u64.wrap (((BitVec.ofInt (IntKind.bits .u64) ((Int.fdiv x (2 ^ (min (Int.toNat 1) 64)))) &&& BitVec.ofInt (IntKind.bits .u64) 6148914691236517205).toNat:Nat)))+(IntKind.u64.wrap (((BitVec.ofInt (IntKind.bits .u64) x &&& BitVec.ofInt (IntKind.bits .u64) 6148914691236517205).toNat:Nat))))) (2 ^ (min (Int.toNat 2) 64)))) &&& BitVec.ofInt (IntKind.bits .u64) 3689348814741910323).toNat:Nat)))+(IntKind.u64.wrap (((BitVec.ofInt (IntKind.bits .u64) ((IntKind.u64.wrap ((IntKind.u64.wrap (((BitVec.ofInt (IntKind.bits .u64) ((Int.fdiv x (2 ^ (min (Int.toNat 1) 64)))) &&& BitVec.ofInt (IntKind.bits .u64) 6148914691236517205).toNat:Nat)))+(IntKind.u64.wrap (((BitVec.ofInt (IntKind.bits .u64) x &&& BitVec.ofInt (IntKind.bits .u64) 6148914691236517205).toNat:Nat)))))) &&& BitVec.ofInt (IntKind.bits .u64) 3689348814741910323).toNat:Nat)))))))) &&& BitVec.ofInt (IntKind.bits .u64) 1085102592571150095).toNat:Nat))) (2 ^ (min (Int.toNat 8) 64))))) (2 ^ (min (Int.toNat 16) 64)))))+(Int.fdiv (IntKind.u64.wrap ((IntKind.u64.wrap ((IntKind.u64.wrap (((BitVec.ofInt (IntKind.bits .u64) ((IntKind.u64.wrap ((Int.fdiv (IntKind.u64.wrap ((IntKind.u64.wrap (((BitVec.ofInt (IntKind.bits .u64) ((Int.fdiv (IntKind.u64.wrap ((IntKind.u64.wrap (((BitVec.ofInt (IntKind.bits .u64) ((Int.fdiv x (2 ^ (min (Int.toNat 1) 64)))) &&& BitVec.ofInt (IntKind.bits .u64) 6148914691236517205).toNat:Nat)))+(IntKind.u64.wrap (((BitVec.ofInt (IntKind.bits .u64) x &&& BitVec.ofInt (IntKind.bits .u64) 6148914691236517205).toNat:Nat))))) (2 ^ (min (Int.toNat 2) 64)))) &&& BitVec.ofInt (IntKind.bits .u64) 3689348814741910323).toNat:Nat)))+(IntKind.u64.wrap (((BitVec.ofInt (IntKind.bits .u64) ((IntKind.u64.wrap ((IntKind.u64.wrap (((BitVec.ofInt (IntKind.bits .u64) ((Int.fdiv x (2 ^ (min (Int.toNat 1) 64)))) &&& BitVec.ofInt (IntKind.bits .u64) 6148914691236517205).toNat:Nat)))+(IntKind.u64.wrap (((BitVec.ofInt (IntKind.bits .u64) x &&& BitVec.ofInt (IntKind.bits .u64) 6148914691236517205).toNat:Nat)))))) &&& BitVec.ofInt (IntKind.bits .u64) 3689348814741910323).toNat:Nat))))) (2 ^ (min (Int.toNat 4) 64)))+(IntKind.u64.wrap ((IntKind.u64.wrap (((BitVec.ofInt (IntKind.bits .u64) ((Int.fdiv (IntKind.u64.wrap ((IntKind.u64.wrap (((BitVec.ofInt (IntKind.bits .u64) ((Int.fdiv x (2 ^ (min (Int.toNat 1) 64)))) &&& BitVec.ofInt (IntKind.bits .u64) 6148914691236517205).toNat:Nat)))+(IntKind.u64.wrap (((BitVec.ofInt (IntKind.bits .u64) x &&& BitVec.ofInt (IntKind.bits .u64) 6148914691236517205).toNat:Nat))))) (2 ^ (min (Int.toNat 2) 64)))) &&& BitVec.ofInt (IntKind.bits .u64) 3689348814741910323).toNat:Nat)))+(IntKind.u64.wrap (((BitVec.ofInt (IntKind.bits .u64) ((IntKind.u64.wrap ((IntKind.u64.wrap (((BitVec.ofInt (IntKind.bits .u64) ((Int.fdiv x (2 ^ (min (Int.toNat 1) 64)))) &&& BitVec.ofInt (IntKind.bits .u64) 6148914691236517205).toNat:Nat)))+(IntKind.u64.wrap (((BitVec.ofInt (IntKind.bits .u64) x &&& BitVec.ofInt (IntKind.bits .u64) 6148914691236517205).toNat:Nat)))))) &&& BitVec.ofInt (IntKind.bits .u64) 3689348814741910323).toNat:Nat)))))))) &&& BitVec.ofInt (IntKind.bits .u64) 1085102592571150095).toNat:Nat)))+(Int.fdiv (IntKind.u64.wrap (((BitVec.ofInt (IntKind.bits .u64) ((IntKind.u64.wrap ((Int.fdiv (IntKind.u64.wrap ((IntKind.u64.wrap (((BitVec.ofInt (IntKind.bits .u64) ((Int.fdiv (IntKind.u64.wrap ((IntKind.u64.wrap (((BitVec.ofInt (IntKind.bits .u64) ((Int.fdiv x (2 ^ (min (Int.toNat 1) 64)))) &&& BitVec.ofInt (IntKind.bits .u64) 6148914691236517205).toNat:Nat)))+(IntKind.u64.wrap (((BitVec.ofInt (IntKind.bits .u64) x &&& BitVec.ofInt (IntKind.bits .u64) 6148914691236517205).toNat:Nat))))) (2 ^ (min (Int.toNat 2) 64)))) &&& BitVec.ofInt (IntKind.bits .u64) 3689348814741910323).toNat:Nat)))+(IntKind.u64.wrap (((BitVec.ofInt (IntKind.bits .u64) ((IntKind.u64.wrap ((IntKind.u64.wrap (((BitVec.ofInt (IntKind.bits .u64) ((Int.fdiv x (2 ^ (min (Int.toNat 1) 64)))) &&& BitVec.ofInt (IntKind.bits .u64) 6148914691236517205).toNat:Nat)))+(IntKind.u64.wrap (((BitVec.ofInt (IntKind.bits .u64) x &&& BitVec.ofInt (IntKind.bits .u64) 6148914691236517205).toNat:Nat)))))) &&& BitVec.ofInt (IntKind.bits .u64) 3689348814741910323).toNat:Nat))))) (2 ^ (min (Int.toNat 4) 64)))+(IntKind.u64.wrap ((IntKind.u64.wrap (((BitVec.ofInt (IntKind.bits .u64) ((Int.fdiv (IntKind.u64.wrap ((IntKind.u64.wrap (((BitVec.ofInt (IntKind.bits .u64) ((Int.fdiv x (2 ^ (min (Int.toNat 1) 64)))) &&& BitVec.ofInt (IntKind.bits .u64) 6148914691236517205).toNat:Nat)))+(IntKind.u64.wrap (((BitVec.ofInt (IntKind.bits .u64) x &&& BitVec.ofInt (IntKind.bits .u64) 6148914691236517205).toNat:Nat))))) (2 ^ (min (Int.toNat 2) 64)))) &&& BitVec.ofInt (IntKind.bits .u64) 3689348814741910323).toNat:Nat)))+(IntKind.u64.wrap (((BitVec.ofInt (IntKind.bits .u64) ((IntKind.u64.wrap ((IntKind.u64.wrap (((BitVec.ofInt (IntKind.bits .u64) ((Int.fdiv x (2 ^ (min (Int.toNat 1) 64)))) &&& BitVec.ofInt (IntKind.bits .u64) 6148914691236517205).toNat:Nat)))+(IntKind.u64.wrap (((BitVec.ofInt (IntKind.bits .u64) x &&& BitVec.ofInt (IntKind.bits .u64) 6148914691236517205).toNat:Nat)))))) &&& BitVec.ofInt (IntKind.bits .u64) 3689348814741910323).toNat:Nat)))))))) &&& BitVec.ofInt (IntKind.bits .u64) 1085102592571150095).toNat:Nat))) (2 ^ (min (Int.toNat 8) 64)))))+(Int.fdiv (IntKind.u64.wrap ((IntKind.u64.wrap (((BitVec.ofInt (IntKind.bits .u64) ((IntKind.u64.wrap ((Int.fdiv (IntKind.u64.wrap ((IntKind.u64.wrap (((BitVec.ofInt (IntKind.bits .u64) ((Int.fdiv (IntKind.u64.wrap ((IntKind.u64.wrap (((BitVec.ofInt (IntKind.bits .u64) ((Int.fdiv x (2 ^ (min (Int.toNat 1) 64)))) &&& BitVec.ofInt (IntKind.bits .u64) 6148914691236517205).toNat:Nat)))+(IntKind.u64.wrap (((BitVec.ofInt (IntKind.bits .u64) x &&& BitVec.ofInt (IntKind.bits .u64) 6148914691236517205).toNat:Nat))))) (2 ^ (min (Int.toNat 2) 64)))) &&& BitVec.ofInt (IntKind.bits .u64) 3689348814741910323).toNat:Nat)))+(IntKind.u64.wrap (((BitVec.ofInt (IntKind.bits .u64) ((IntKind.u64.wrap ((IntKind.u64.wrap (((BitVec.ofInt (IntKind.bits .u64) ((Int.fdiv x (2 ^ (min (Int.toNat 1) 64)))) &&& BitVec.ofInt (IntKind.bits .u64) 6148914691236517205).toNat:Nat)))+(IntKind.u64.wrap (((BitVec.ofInt (IntKind.bits .u64) x &&& BitVec.ofInt (IntKind.bits .u64) 6148914691236517205).toNat:Nat)))))) &&& BitVec.ofInt (IntKind.bits .u64) 3689348814741910323).toNat:Nat))))) (2 ^ (min (Int.toNat 4) 64)))+(IntKind.u64.wrap ((IntKind.u64.wrap (((BitVec.ofInt (IntKind.bits .u64) ((Int.fdiv (IntKind.u64.wrap ((IntKind.u64.wrap (((BitVec.ofInt (IntKind.bits .u64) ((Int.fdiv x (2 ^ (min (Int.toNat 1) 64)))) &&& BitVec.ofInt (IntKind.bits .u64) 6148914691236517205).toNat:Nat)))+(IntKind.u64.wrap (((BitVec.ofInt (IntKind.bits .u64) x &&& BitVec.ofInt (IntKind.bits .u64) 6148914691236517205).toNat:Nat))))) (2 ^ (min (Int.toNat 2) 64)))) &&& BitVec.ofInt (IntKind.bits .u64) 3689348814741910323).toNat:Nat)))+(IntKind.u64.wrap (((BitVec.ofInt (IntKind.bits .u64) ((IntKind.u64.wrap ((IntKind.u64.wrap (((BitVec.ofInt (IntKind.bits .u64) ((Int.fdiv x (2 ^ (min (Int.toNat 1) 64)))) &&& BitVec.ofInt (IntKind.bits .u64) 6148914691236517205).toNat:Nat)))+(IntKind.u64.wrap (((BitVec.ofInt (IntKind.bits .u64) x &&& BitVec.ofInt (IntKind.bits .u64) 6148914691236517205).toNat:Nat)))))) &&& BitVec.ofInt (IntKind.bits .u64) 3689348814741910323).toNat:Nat)))))))) &&& BitVec.ofInt (IntKind.bits .u64) 1085102592571150095).toNat:Nat)))+(Int.fdiv (IntKind.u64.wrap (((BitVec.ofInt (IntKind.bits .u64) ((IntKind.u64.wrap ((Int.fdiv (IntKind.u64.wrap ((IntKind.u64.wrap (((BitVec.ofInt (IntKind.bits .u64) ((Int.fdiv (IntKind.u64.wrap ((IntKind.u64.wrap (((BitVec.ofInt (IntKind.bits .u64) ((Int.fdiv x (2 ^ (min (Int.toNat 1) 64)))) &&& BitVec.ofInt (IntKind.bits .u64) 6148914691236517205).toNat:Nat)))+(IntKind.u64.wrap (((BitVec.ofInt (IntKind.bits .u64) x &&& BitVec.ofInt (IntKind.bits .u64) 6148914691236517205).toNat:Nat))))) (2 ^ (min (Int.toNat 2) 64)))) &&& BitVec.ofInt (IntKind.bits .u64) 3689348814741910323).toNat:Nat)))+(IntKind.u64.wrap (((BitVec.ofInt (IntKind.bits .u64) ((IntKind.u64.wrap ((IntKind.u64.wrap (((BitVec.ofInt (IntKind.bits .u64) ((Int.fdiv x (2 ^ (min (Int.toNat 1) 64)))) &&& BitVec.ofInt (IntKind.bits .u64) 6148914691236517205).toNat:Nat)))+(IntKind.u64.wrap (((BitVec.ofInt (IntKind.bits .u64) x &&& BitVec.ofInt (IntKind.bits .u64) 6148914691236517205).toNat:Nat)))))) &&& BitVec.ofInt (IntKind.bits .u64) 3689348814741910323).toNat:Nat))))) (2 ^ (min (Int.toNat 4) 64)))+(IntKind.u64.wrap ((IntKind.u64.wrap (((BitVec.ofInt (IntKind.bits .u64) ((Int.fdiv (IntKind.u64.wrap ((IntKind.u64.wrap (((BitVec.ofInt (IntKind.bits .u64) ((Int.fdiv x (2 ^ (min (Int.toNat 1) 64)))) &&& BitVec.ofInt (IntKind.bits .u64) 6148914691236517205).toNat:Nat)))+(IntKind.u64.wrap (((BitVec.ofInt (IntKind.bits .u64) x &&& BitVec.ofInt (IntKind.bits .u64) 6148914691236517205).toNat:Nat))))) (2 ^ (min (Int.toNat 2) 64)))) &&& BitVec.ofInt (IntKind.bits .u64) 3689348814741910323).toNat:Nat)))+(IntKind.u64.wrap (((BitVec.ofInt (IntKind.bits .u64) ((IntKind.u64.wrap ((IntKind.u64.wrap (((BitVec.ofInt (IntKind.bits .u64) ((Int.fdiv x (2 ^ (min (Int.toNat 1) 64)))) &&& BitVec.ofInt (IntKind.bits .u64) 6148914691236517205).toNat:Nat)))+(IntKind.u64.wrap (((BitVec.ofInt (IntKind.bits .u64) x &&& BitVec.ofInt (IntKind.bits .u64) 6148914691236517205).toNat:Nat)))))) &&& BitVec.ofInt (IntKind.bits .u64) 3689348814741910323).toNat:Nat)))))))) &&& BitVec.ofInt (IntKind.bits .u64) 1085102592571150095).toNat:Nat))) (2 ^ (min (Int.toNat 8) 64))))) (2 ^ (min (Int.toNat 16) 64))))) (2 ^ (min (Int.toNat 32) 64)))))))) &&& BitVec.ofInt (IntKind.bits .i64) 127).toNat:Nat))))) (hp):=
 Rn.c (fn:=i67) (ex:=.ret) (st:=⟨[(2,V.d (D.int .i64 (IntKind.i64.wrap (((BitVec.ofInt (IntKind.bits .i64) ((IntKind.i64.wrap ((IntKind.u64.wrap ((IntKind.u64.wrap ((IntKind.u64.wrap ((IntKind.u64.wrap (((BitVec.ofInt (IntKind.bits .u64) ((IntKind.u64.wrap ((Int.fdiv (IntKind.u64.wrap ((IntKind.u64.wrap (((BitVec.ofInt (IntKind.bits .u64) ((Int.fdiv (IntKind.u64.wrap ((IntKind.u64.wrap (((BitVec.ofInt (IntKind.bits .u64) ((Int.fdiv x (2 ^ (min (Int.toNat 1) 64)))) &&& BitVec.ofInt (IntKind.bits .u64) 6148914691236517205).toNat:Nat)))+(IntKind.u64.wrap (((BitVec.ofInt (IntKind.bits .u64) x &&& BitVec.ofInt (IntKind.bits .u64) 6148914691236517205).toNat:Nat))))) (2 ^ (min (Int.toNat 2) 64)))) &&& BitVec.ofInt (IntKind.bits .u64) 3689348814741910323).toNat:Nat)))+(IntKind.u64.wrap (((BitVec.ofInt (IntKind.bits .u64) ((IntKind.u64.wrap ((IntKind.u64.wrap (((BitVec.ofInt (IntKind.bits .u64) ((Int.fdiv x (2 ^ (min (Int.toNat 1) 64)))) &&& BitVec.ofInt (IntKind.bits .u64) 6148914691236517205).toNat:Nat)))+(IntKind.u64.wrap (((BitVec.ofInt (IntKind.bits .u64) x &&& BitVec.ofInt (IntKind.bits .u64) 6148914691236517205).toNat:Nat)))))) &&& BitVec.ofInt (IntKind.bits .u64) 3689348814741910323).toNat:Nat))))) (2 ^ (min (Int.toNat 4) 64)))+(IntKind.u64.wrap ((IntKind.u64.wrap (((BitVec.ofInt (IntKind.bits .u64) ((Int.fdiv (IntKind.u64.wrap ((IntKind.u64.wrap (((BitVec.ofInt (IntKind.bits .u64) ((Int.fdiv x (2 ^ (min (Int.toNat 1) 64)))) &&& BitVec.ofInt (IntKind.bits .u64) 6148914691236517205).toNat:Nat)))+(IntKind.u64.wrap (((BitVec.ofInt (IntKind.bits .u64) x &&& BitVec.ofInt (IntKind.bits .u64) 6148914691236517205).toNat:Nat))))) (2 ^ (min (Int.toNat 2) 64)))) &&& BitVec.ofInt (IntKind.bits .u64) 3689348814741910323).toNat:Nat)))+(IntKind.u64.wrap (((BitVec.ofInt (IntKind.bits .u64) ((IntKind.u64.wrap ((IntKind.u64.wrap (((BitVec.ofInt (IntKind.bits .u64) ((Int.fdiv x (2 ^ (min (Int.toNat 1) 64)))) &&& BitVec.ofInt (IntKind.bits .u64) 6148914691236517205).toNat:Nat)))+(IntKind.u64.wrap (((BitVec.ofInt (IntKind.bits .u64) x &&& BitVec.ofInt (IntKind.bits .u64) 6148914691236517205).toNat:Nat)))))) &&& BitVec.ofInt (IntKind.bits .u64) 3689348814741910323).toNat:Nat)))))))) &&& BitVec.ofInt (IntKind.bits .u64) 1085102592571150095).toNat:Nat)))+(Int.fdiv (IntKind.u64.wrap (((BitVec.ofInt (IntKind.bits .u64) ((IntKind.u64.wrap ((Int.fdiv (IntKind.u64.wrap ((IntKind.u64.wrap (((BitVec.ofInt (IntKind.bits .u64) ((Int.fdiv (IntKind.u64.wrap ((IntKind.u64.wrap (((BitVec.ofInt (IntKind.bits .u64) ((Int.fdiv x (2 ^ (min (Int.toNat 1) 64)))) &&& BitVec.ofInt (IntKind.bits .u64) 6148914691236517205).toNat:Nat)))+(IntKind.u64.wrap (((BitVec.ofInt (IntKind.bits .u64) x &&& BitVec.ofInt (IntKind.bits .u64) 6148914691236517205).toNat:Nat))))) (2 ^ (min (Int.toNat 2) 64)))) &&& BitVec.ofInt (IntKind.bits .u64) 3689348814741910323).toNat:Nat)))+(IntKind.u64.wrap (((BitVec.ofInt (IntKind.bits .u64) ((IntKind.u64.wrap ((IntKind.u64.wrap (((BitVec.ofInt (IntKind.bits .u64) ((Int.fdiv x (2 ^ (min (Int.toNat 1) 64)))) &&& BitVec.ofInt (IntKind.bits .u64) 6148914691236517205).toNat:Nat)))+(IntKind.u64.wrap (((BitVec.ofInt (IntKind.bits .u64) x &&& BitVec.ofInt (IntKind.bits .u64) 6148914691236517205).toNat:Nat)))))) &&& BitVec.ofInt (IntKind.bits .u64) 3689348814741910323).toNat:Nat))))) (2 ^ (min (Int.toNat 4) 64)))+(IntKind.u64.wrap ((IntKind.u64.wrap (((BitVec.ofInt (IntKind.bits .u64) ((Int.fdiv (IntKind.u64.wrap ((IntKind.u64.wrap (((BitVec.ofInt (IntKind.bits .u64) ((Int.fdiv x (2 ^ (min (Int.toNat 1) 64)))) &&& BitVec.ofInt (IntKind.bits .u64) 6148914691236517205).toNat:Nat)))+(IntKind.u64.wrap (((BitVec.ofInt (IntKind.bits .u64) x &&& BitVec.ofInt (IntKind.bits .u64) 6148914691236517205).toNat:Nat))))) (2 ^ (min (Int.toNat 2) 64)))) &&& BitVec.ofInt (IntKind.bits .u64) 3689348814741910323).toNat:Nat)))+(IntKind.u64.wrap (((BitVec.ofInt (IntKind.bits .u64) ((IntKind.u64.wrap ((IntKind.u64.wrap (((BitVec.ofInt (IntKind.bits .u64) ((Int.fdiv x (2 ^ (min (Int.toNat 1) 64)))) &&& BitVec.ofInt (IntKind.bits .u64) 6148914691236517205).toNat:Nat)))+(IntKind.u64.wrap (((BitVec.ofInt (IntKind.bits .u64) x &&& BitVec.ofInt (IntKind.bits .u64) 6148914691236517205).toNat:Nat)))))) &&& BitVec.ofInt (IntKind.bits .u64) 3689348814741910323).toNat:Nat)))))))) &&& BitVec.ofInt (IntKind.bits .u64) 1085102592571150095).toNat:Nat))) (2 ^ (min (Int.toNat 8) 64)))))+(Int.fdiv (IntKind.u64.wrap ((IntKind.u64.wrap (((BitVec.ofInt (IntKind.bits .u64) ((IntKind.u64.wrap ((Int.fdiv (IntKind.u64.wrap ((IntKind.u64.wrap (((BitVec.ofInt (IntKind.bits .u64) ((Int.fdiv (IntKind.u64.wrap ((IntKind.u64.wrap (((BitVec.ofInt (IntKind.bits .u64) ((Int.fdiv x (2 ^ (min (Int.toNat 1) 64)))) &&& BitVec.ofInt (IntKind.bits .u64) 6148914691236517205).toNat:Nat)))+(IntKind.u64.wrap (((BitVec.ofInt (IntKind.bits .u64) x &&& BitVec.ofInt (IntKind.bits .u64) 6148914691236517205).toNat:Nat))))) (2 ^ (min (Int.toNat 2) 64)))) &&& BitVec.ofInt (IntKind.bits .u64) 3689348814741910323).toNat:Nat)))+(IntKind.u64.wrap (((BitVec.ofInt (IntKind.bits .u64) ((IntKind.u64.wrap ((IntKind.u64.wrap (((BitVec.ofInt (IntKind.bits .u64) ((Int.fdiv x (2 ^ (min (Int.toNat 1) 64)))) &&& BitVec.ofInt (IntKind.bits .u64) 6148914691236517205).toNat:Nat)))+(IntKind.u64.wrap (((BitVec.ofInt (IntKind.bits .u64) x &&& BitVec.ofInt (IntKind.bits .u64) 6148914691236517205).toNat:Nat)))))) &&& BitVec.ofInt (IntKind.bits .u64) 3689348814741910323).toNat:Nat))))) (2 ^ (min (Int.toNat 4) 64)))+(IntKind.u64.wrap ((IntKind.u64.wrap (((BitVec.ofInt (IntKind.bits .u64) ((Int.fdiv (IntKind.u64.wrap ((IntKind.u64.wrap (((BitVec.ofInt (IntKind.bits .u64) ((Int.fdiv x (2 ^ (min (Int.toNat 1) 64)))) &&& BitVec.ofInt (IntKind.bits .u64) 6148914691236517205).toNat:Nat)))+(IntKind.u64.wrap (((BitVec.ofInt (IntKind.bits .u64) x &&& BitVec.ofInt (IntKind.bits .u64) 6148914691236517205).toNat:Nat))))) (2 ^ (min (Int.toNat 2) 64)))) &&& BitVec.ofInt (IntKind.bits .u64) 3689348814741910323).toNat:Nat)))+(IntKind.u64.wrap (((BitVec.ofInt (IntKind.bits .u64) ((IntKind.u64.wrap ((IntKind.u64.wrap (((BitVec.ofInt (IntKind.bits .u64) ((Int.fdiv x (2 ^ (min (Int.toNat 1) 64)))) &&& BitVec.ofInt (IntKind.bits .u64) 6148914691236517205).toNat:Nat)))+(IntKind.u64.wrap (((BitVec.ofInt (IntKind.bits .u64) x &&& BitVec.ofInt (IntKind.bits .u64) 6148914691236517205).toNat:Nat)))))) &&& BitVec.ofInt (IntKind.bits .u64) 3689348814741910323).toNat:Nat)))))))) &&& BitVec.ofInt (IntKind.bits .u64) 1085102592571150095).toNat:Nat)))+(Int.fdiv (IntKind.u64.wrap (((BitVec.ofInt (IntKind.bits .u64) ((IntKind.u64.wrap ((Int.fdiv (IntKind.u64.wrap ((IntKind.u64.wrap (((BitVec.ofInt (IntKind.bits .u64) ((Int.fdiv (IntKind.u64.wrap ((IntKind.u64.wrap (((BitVec.ofInt (IntKind.bits .u64) ((Int.fdiv x (2 ^ (min (Int.toNat 1) 64)))) &&& BitVec.ofInt (IntKind.bits .u64) 6148914691236517205).toNat:Nat)))+(IntKind.u64.wrap (((BitVec.ofInt (IntKind.bits .u64) x &&& BitVec.ofInt (IntKind.bits .u64) 6148914691236517205).toNat:Nat))))) (2 ^ (min (Int.toNat 2) 64)))) &&& BitVec.ofInt (IntKind.bits .u64) 3689348814741910323).toNat:Nat)))+(IntKind.u64.wrap (((BitVec.ofInt (IntKind.bits .u64) ((IntKind.u64.wrap ((IntKind.u64.wrap (((BitVec.ofInt (IntKind.bits .u64) ((Int.fdiv x (2 ^ (min (Int.toNat 1) 64)))) &&& BitVec.ofInt (IntKind.bits .u64) 6148914691236517205).toNat:Nat)))+(IntKind.u64.wrap (((BitVec.ofInt (IntKind.bits .u64) x &&& BitVec.ofInt (IntKind.bits .u64) 6148914691236517205).toNat:Nat)))))) &&& BitVec.ofInt (IntKind.bits .u64) 3689348814741910323).toNat:Nat))))) (2 ^ (min (Int.toNat 4) 64)))+(IntKind.u64.wrap ((IntKind.u64.wrap (((BitVec.ofInt (IntKind.bits .u64) ((Int.fdiv (IntKind.u64.wrap ((IntKind.u64.wrap (((BitVec.ofInt (IntKind.bits .u64) ((Int.fdiv x (2 ^ (min (Int.toNat 1) 64)))) &&& BitVec.ofInt (IntKind.bits .u64) 6148914691236517205).toNat:Nat)))+(IntKind.u64.wrap (((BitVec.ofInt (IntKind.bits .u64) x &&& BitVec.ofInt (IntKind.bits .u64) 6148914691236517205).toNat:Nat))))) (2 ^ (min (Int.toNat 2) 64)))) &&& BitVec.ofInt (IntKind.bits .u64) 3689348814741910323).toNat:Nat)))+(IntKind.u64.wrap (((BitVec.ofInt (IntKind.bits .u64) ((IntKind.u64.wrap ((IntKind.u64.wrap (((BitVec.ofInt (IntKind.bits .u64) ((Int.fdiv x (2 ^ (min (Int.toNat 1) 64)))) &&& BitVec.ofInt (IntKind.bits .u64) 6148914691236517205).toNat:Nat)))+(IntKind.u64.wrap (((BitVec.ofInt (IntKind.bits .u64) x &&& BitVec.ofInt (IntKind.bits .u64) 6148914691236517205).toNat:Nat)))))) &&& BitVec.ofInt (IntKind.bits .u64) 3689348814741910323).toNat:Nat)))))))) &&& BitVec.ofInt (IntKind.bits .u64) 1085102592571150095).toNat:Nat))) (2 ^ (min (Int.toNat 8) 64))))) (2 ^ (min (Int.toNat 16) 64)))))+(Int.fdiv (IntKind.u64.wrap ((IntKind.u64.wrap ((IntKind.u64.wrap (((BitVec.ofInt (IntKind.bits .u64) ((IntKind.u64.wrap ((Int.fdiv (IntKind.u64.wrap ((IntKind.u64.wrap (((BitVec.ofInt (IntKind.bits .u64) ((Int.fdiv (IntKind.u64.wrap ((IntKind.u64.wrap (((BitVec.ofInt (IntKind.bits .u64) ((Int.fdiv x (2 ^ (min (Int.toNat 1) 64)))) &&& BitVec.ofInt (IntKind.bits .u64) 6148914691236517205).toNat:Nat)))+(IntKind.u64.wrap (((BitVec.ofInt (IntKind.bits .u64) x &&& BitVec.ofInt (IntKind.bits .u64) 6148914691236517205).toNat:Nat))))) (2 ^ (min (Int.toNat 2) 64)))) &&& BitVec.ofInt (IntKind.bits .u64) 3689348814741910323).toNat:Nat)))+(IntKind.u64.wrap (((BitVec.ofInt (IntKind.bits .u64) ((IntKind.u64.wrap ((IntKind.u64.wrap (((BitVec.ofInt (IntKind.bits .u64) ((Int.fdiv x (2 ^ (min (Int.toNat 1) 64)))) &&& BitVec.ofInt (IntKind.bits .u64) 6148914691236517205).toNat:Nat)))+(IntKind.u64.wrap (((BitVec.ofInt (IntKind.bits .u64) x &&& BitVec.ofInt (IntKind.bits .u64) 6148914691236517205).toNat:Nat)))))) &&& BitVec.ofInt (IntKind.bits .u64) 3689348814741910323).toNat:Nat))))) (2 ^ (min (Int.toNat 4) 64)))+(IntKind.u64.wrap ((IntKind.u64.wrap (((BitVec.ofInt (IntKind.bits .u64) ((Int.fdiv (IntKind.u64.wrap ((IntKind.u64.wrap (((BitVec.ofInt (IntKind.bits .u64) ((Int.fdiv x (2 ^ (min (Int.toNat 1) 64)))) &&& BitVec.ofInt (IntKind.bits .u64) 6148914691236517205).toNat:Nat)))+(IntKind.u64.wrap (((BitVec.ofInt (IntKind.bits .u64) x &&& BitVec.ofInt (IntKind.bits .u64) 6148914691236517205).toNat:Nat))))) (2 ^ (min (Int.toNat 2) 64)))) &&& BitVec.ofInt (IntKind.bits .u64) 3689348814741910323).toNat:Nat)))+(IntKind.u64.wrap (((BitVec.ofInt (IntKind.bits .u64) ((IntKind.u64.wrap ((IntKind.u64.wrap (((BitVec.ofInt (IntKind.bits .u64) ((Int.fdiv x (2 ^ (min (Int.toNat 1) 64)))) &&& BitVec.ofInt (IntKind.bits .u64) 6148914691236517205).toNat:Nat)))+(IntKind.u64.wrap (((BitVec.ofInt (IntKind.bits .u64) x &&& BitVec.ofInt (IntKind.bits .u64) 6148914691236517205).toNat:Nat)))))) &&& BitVec.ofInt (IntKind.bits .u64) 3689348814741910323).toNat:Nat)))))))) &&& BitVec.ofInt (IntKind.bits .u64) 1085102592571150095).toNat:Nat)))+(Int.fdiv (IntKind.u64.wrap (((BitVec.ofInt (IntKind.bits .u64) ((IntKind.u64.wrap ((Int.fdiv (IntKind.u64.wrap ((IntKind.u64.wrap (((BitVec.ofInt (IntKind.bits .u64) ((Int.fdiv (IntKind.u64.wrap ((IntKind.u64.wrap (((BitVec.ofInt (IntKind.bits .u64) ((Int.fdiv x (2 ^ (min (Int.toNat 1) 64)))) &&& BitVec.ofInt (IntKind.bits .u64) 6148914691236517205).toNat:Nat)))+(IntKind.u64.wrap (((BitVec.ofInt (IntKind.bits .u64) x &&& BitVec.ofInt (IntKind.bits .u64) 6148914691236517205).toNat:Nat))))) (2 ^ (min (Int.toNat 2) 64)))) &&& BitVec.ofInt (IntKind.bits .u64) 3689348814741910323).toNat:Nat)))+(IntKind.u64.wrap (((BitVec.ofInt (IntKind.bits .u64) ((IntKind.u64.wrap ((IntKind.u64.wrap (((BitVec.ofInt (IntKind.bits .u64) ((Int.fdiv x (2 ^ (min (Int.toNat 1) 64)))) &&& BitVec.ofInt (IntKind.bits .u64) 6148914691236517205).toNat:Nat)))+(IntKind.u64.wrap (((BitVec.ofInt (IntKind.bits .u64) x &&& BitVec.ofInt (IntKind.bits .u64) 6148914691236517205).toNat:Nat)))))) &&& BitVec.ofInt (IntKind.bits .u64) 3689348814741910323).toNat:Nat))))) (2 ^ (min (Int.toNat 4) 64)))+(IntKind.u64.wrap ((IntKind.u64.wrap (((BitVec.ofInt (IntKind.bits .u64) ((Int.fdiv (IntKind.u64.wrap ((IntKind.u64.wrap (((BitVec.ofInt (IntKind.bits .u64) ((Int.fdiv x (2 ^ (min (Int.toNat 1) 64)))) &&& BitVec.ofInt (IntKind.bits .u64) 6148914691236517205).toNat:Nat)))+(IntKind.u64.wrap (((BitVec.ofInt (IntKind.bits .u64) x &&& BitVec.ofInt (IntKind.bits .u64) 6148914691236517205).toNat:Nat))))) (2 ^ (min (Int.toNat 2) 64)))) &&& BitVec.ofInt (IntKind.bits .u64) 3689348814741910323).toNat:Nat)))+(IntKind.u64.wrap (((BitVec.ofInt (IntKind.bits .u64) ((IntKind.u64.wrap ((IntKind.u64.wrap (((BitVec.ofInt (IntKind.bits .u64) ((Int.fdiv x (2 ^ (min (Int.toNat 1) 64)))) &&& BitVec.ofInt (IntKind.bits .u64) 6148914691236517205).toNat:Nat)))+(IntKind.u64.wrap (((BitVec.ofInt (IntKind.bits .u64) x &&& BitVec.ofInt (IntKind.bits .u64) 6148914691236517205).toNat:Nat)))))) &&& BitVec.ofInt (IntKind.bits .u64) 3689348814741910323).toNat:Nat)))))))) &&& BitVec.ofInt (IntKind.bits .u64) 1085102592571150095).toNat:Nat))) (2 ^ (min (Int.toNat 8) 64)))))+(Int.fdiv (IntKind.u64.wrap ((IntKind.u64.wrap (((BitVec.ofInt (IntKind.bits .u64) ((IntKind.u64.wrap ((Int.fdiv (IntKind.u64.wrap ((IntKind.u64.wrap (((BitVec.ofInt (IntKind.bits .u64) ((Int.fdiv (IntKind.u64.wrap ((IntKind.u64.wrap (((BitVec.ofInt (IntKind.bits .u64) ((Int.fdiv x (2 ^ (min (Int.toNat 1) 64)))) &&& BitVec.ofInt (IntKind.bits .u64) 6148914691236517205).toNat:Nat)))+(IntKind.u64.wrap (((BitVec.ofInt (IntKind.bits .u64) x &&& BitVec.ofInt (IntKind.bits .u64) 6148914691236517205).toNat:Nat))))) (2 ^ (min (Int.toNat 2) 64)))) &&& BitVec.ofInt (IntKind.bits .u64) 3689348814741910323).toNat:Nat)))+(IntKind.u64.wrap (((BitVec.ofInt (IntKind.bits .u64) ((IntKind.u64.wrap ((IntKind.u64.wrap (((BitVec.ofInt (IntKind.bits .u64) ((Int.fdiv x (2 ^ (min (Int.toNat 1) 64)))) &&& BitVec.ofInt (IntKind.bits .u64) 6148914691236517205).toNat:Nat)))+(IntKind.u64.wrap (((BitVec.ofInt (IntKind.bits .u64) x &&& BitVec.ofInt (IntKind.bits .u64) 6148914691236517205).toNat:Nat)))))) &&& BitVec.ofInt (IntKind.bits .u64) 3689348814741910323).toNat:Nat))))) (2 ^ (min (Int.toNat 4) 64)))+(IntKind.u64.wrap ((IntKind.u64.wrap (((BitVec.ofInt (IntKind.bits .u64) ((Int.fdiv (IntKind.u64.wrap ((IntKind.u64.wrap (((BitVec.ofInt (IntKind.bits .u64) ((Int.fdiv x (2 ^ (min (Int.toNat 1) 64)))) &&& BitVec.ofInt (IntKind.bits .u64) 6148914691236517205).toNat:Nat)))+(IntKind.u64.wrap (((BitVec.ofInt (IntKind.bits .u64) x &&& BitVec.ofInt (IntKind.bits .u64) 6148914691236517205).toNat:Nat))))) (2 ^ (min (Int.toNat 2) 64)))) &&& BitVec.ofInt (IntKind.bits .u64) 3689348814741910323).toNat:Nat)))+(IntKind.u64.wrap (((BitVec.ofInt (IntKind.bits .u64) ((IntKind.u64.wrap ((IntKind.u64.wrap (((BitVec.ofInt (IntKind.bits .u64) ((Int.fdiv x (2 ^ (min (Int.toNat 1) 64)))) &&& BitVec.ofInt (IntKind.bits .u64) 6148914691236517205).toNat:Nat)))+(IntKind.u64.wrap (((BitVec.ofInt (IntKind.bits .u64) x &&& BitVec.ofInt (IntKind.bits .u64) 6148914691236517205).toNat:Nat)))))) &&& BitVec.ofInt (IntKind.bits .u64) 3689348814741910323).toNat:Nat)))))))) &&& BitVec.ofInt (IntKind.bits .u64) 1085102592571150095).toNat:Nat)))+(Int.fdiv (IntKind.u64.wrap (((BitVec.ofInt (IntKind.bits .u64) ((IntKind.u64.wrap ((Int.fdiv (IntKind.u64.wrap ((IntKind.u64.wrap (((BitVec.ofInt (IntKind.bits .u64) ((Int.fdiv (IntKind.u64.wrap ((IntKind.u64.wrap (((BitVec.ofInt (IntKind.bits .u64) ((Int.fdiv x (2 ^ (min (Int.toNat 1) 64)))) &&& BitVec.ofInt (IntKind.bits .u64) 6148914691236517205).toNat:Nat)))+(IntKind.u64.wrap (((BitVec.ofInt (IntKind.bits .u64) x &&& BitVec.ofInt (IntKind.bits .u64) 6148914691236517205).toNat:Nat))))) (2 ^ (min (Int.toNat 2) 64)))) &&& BitVec.ofInt (IntKind.bits .u64) 3689348814741910323).toNat:Nat)))+(IntKind.u64.wrap (((BitVec.ofInt (IntKind.bits .u64) ((IntKind.u64.wrap ((IntKind.u64.wrap (((BitVec.ofInt (IntKind.bits .u64) ((Int.fdiv x (2 ^ (min (Int.toNat 1) 64)))) &&& BitVec.ofInt (IntKind.bits .u64) 6148914691236517205).toNat:Nat)))+(IntKind.u64.wrap (((BitVec.ofInt (IntKind.bits .u64) x &&& BitVec.ofInt (IntKind.bits .u64) 6148914691236517205).toNat:Nat)))))) &&& BitVec.ofInt (IntKind.bits .u64) 3689348814741910323).toNat:Nat))))) (2 ^ (min (Int.toNat 4) 64)))+(IntKind.u64.wrap ((IntKind.u64.wrap (((BitVec.ofInt (IntKind.bits .u64) ((Int.fdiv (IntKind.u64.wrap ((IntKind.u64.wrap (((BitVec.ofInt (IntKind.bits .u64) ((Int.fdiv x (2 ^ (min (Int.toNat 1) 64)))) &&& BitVec.ofInt (IntKind.bits .u64) 6148914691236517205).toNat:Nat)))+(IntKind.u64.wrap (((BitVec.ofInt (IntKind.bits .u64) x &&& BitVec.ofInt (IntKind.bits .u64) 6148914691236517205).toNat:Nat))))) (2 ^ (min (Int.toNat 2) 64)))) &&& BitVec.ofInt (IntKind.bits .u64) 3689348814741910323).toNat:Nat)))+(IntKind.u64.wrap (((BitVec.ofInt (IntKind.bits .u64) ((IntKind.u64.wrap ((IntKind.u64.wrap (((BitVec.ofInt (IntKind.bits .u64) ((Int.fdiv x (2 ^ (min (Int.toNat 1) 64)))) &&& BitVec.ofInt (IntKind.bits .u64) 6148914691236517205).toNat:Nat)))+(IntKind.u64.wrap (((BitVec.ofInt (IntKind.bits .u64) x &&& BitVec.ofInt (IntKind.bits .u64) 6148914691236517205).toNat:Nat)))))) &&& BitVec.ofInt (IntKind.bits .u64) 3689348814741910323).toNat:Nat)))))))) &&& BitVec.ofInt (IntKind.bits .u64) 1085102592571150095).toNat:Nat))) (2 ^ (min (Int.toNat 8) 64))))) (2 ^ (min (Int.toNat 16) 64))))) (2 ^ (min (Int.toNat 32) 64)))))))) &&& BitVec.ofInt (IntKind.bits .i64) 127).toNat:Nat)))))],[]::hp⟩) (hs:=[]) (cs:=[_,_,_,_,_,_]) (rs:=[V.d (D.int .i64 (IntKind.i64.wrap (((BitVec.ofInt (IntKind.bits .i64) ((IntKind.i64.wrap ((IntKind.u64.wrap ((IntKind.u64.wrap ((IntKind.u64.wrap ((IntKind.u64.wrap (((BitVec.ofInt (IntKind.bits .u64) ((IntKind.u64.wrap ((Int.fdiv (IntKind.u64.wrap ((IntKind.u64.wrap (((BitVec.ofInt (IntKind.bits .u64) ((Int.fdiv (IntKind.u64.wrap ((IntKind.u64.wrap (((BitVec.ofInt (IntKind.bits .u64) ((Int.fdiv x (2 ^ (min (Int.toNat 1) 64)))) &&& BitVec.ofInt (IntKind.bits .u64) 6148914691236517205).toNat:Nat)))+(IntKind.u64.wrap (((BitVec.ofInt (IntKind.bits .u64) x &&& BitVec.ofInt (IntKind.bits .u64) 6148914691236517205).toNat:Nat))))) (2 ^ (min (Int.toNat 2) 64)))) &&& BitVec.ofInt (IntKind.bits .u64) 3689348814741910323).toNat:Nat)))+(IntKind.u64.wrap (((BitVec.ofInt (IntKind.bits .u64) ((IntKind.u64.wrap ((IntKind.u64.wrap (((BitVec.ofInt (IntKind.bits .u64) ((Int.fdiv x (2 ^ (min (Int.toNat 1) 64)))) &&& BitVec.ofInt (IntKind.bits .u64) 6148914691236517205).toNat:Nat)))+(IntKind.u64.wrap (((BitVec.ofInt (IntKind.bits .u64) x &&& BitVec.ofInt (IntKind.bits .u64) 6148914691236517205).toNat:Nat)))))) &&& BitVec.ofInt (IntKind.bits .u64) 3689348814741910323).toNat:Nat))))) (2 ^ (min (Int.toNat 4) 64)))+(IntKind.u64.wrap ((IntKind.u64.wrap (((BitVec.ofInt (IntKind.bits .u64) ((Int.fdiv (IntKind.u64.wrap ((IntKind.u64.wrap (((BitVec.ofInt (IntKind.bits .u64) ((Int.fdiv x (2 ^ (min (Int.toNat 1) 64)))) &&& BitVec.ofInt (IntKind.bits .u64) 6148914691236517205).toNat:Nat)))+(IntKind.u64.wrap (((BitVec.ofInt (IntKind.bits .u64) x &&& BitVec.ofInt (IntKind.bits .u64) 6148914691236517205).toNat:Nat))))) (2 ^ (min (Int.toNat 2) 64)))) &&& BitVec.ofInt (IntKind.bits .u64) 3689348814741910323).toNat:Nat)))+(IntKind.u64.wrap (((BitVec.ofInt (IntKind.bits .u64) ((IntKind.u64.wrap ((IntKind.u64.wrap (((BitVec.ofInt (IntKind.bits .u64) ((Int.fdiv x (2 ^ (min (Int.toNat 1) 64)))) &&& BitVec.ofInt (IntKind.bits .u64) 6148914691236517205).toNat:Nat)))+(IntKind.u64.wrap (((BitVec.ofInt (IntKind.bits .u64) x &&& BitVec.ofInt (IntKind.bits .u64) 6148914691236517205).toNat:Nat)))))) &&& BitVec.ofInt (IntKind.bits .u64) 3689348814741910323).toNat:Nat)))))))) &&& BitVec.ofInt (IntKind.bits .u64) 1085102592571150095).toNat:Nat)))+(Int.fdiv (IntKind.u64.wrap (((BitVec.ofInt (IntKind.bits .u64) ((IntKind.u64.wrap ((Int.fdiv (IntKind.u64.wrap ((IntKind.u64.wrap (((BitVec.ofInt (IntKind.bits .u64) ((Int.fdiv (IntKind.u64.wrap ((IntKind.u64.wrap (((BitVec.ofInt (IntKind.bits .u64) ((Int.fdiv x (2 ^ (min (Int.toNat 1) 64)))) &&& BitVec.ofInt (IntKind.bits .u64) 6148914691236517205).toNat:Nat)))+(IntKind.u64.wrap (((BitVec.ofInt (IntKind.bits .u64) x &&& BitVec.ofInt (IntKind.bits .u64) 6148914691236517205).toNat:Nat))))) (2 ^ (min (Int.toNat 2) 64)))) &&& BitVec.ofInt (IntKind.bits .u64) 3689348814741910323).toNat:Nat)))+(IntKind.u64.wrap (((BitVec.ofInt (IntKind.bits .u64) ((IntKind.u64.wrap ((IntKind.u64.wrap (((BitVec.ofInt (IntKind.bits .u64) ((Int.fdiv x (2 ^ (min (Int.toNat 1) 64)))) &&& BitVec.ofInt (IntKind.bits .u64) 6148914691236517205).toNat:Nat)))+(IntKind.u64.wrap (((BitVec.ofInt (IntKind.bits .u64) x &&& BitVec.ofInt (IntKind.bits .u64) 6148914691236517205).toNat:Nat)))))) &&& BitVec.ofInt (IntKind.bits .u64) 3689348814741910323).toNat:Nat))))) (2 ^ (min (Int.toNat 4) 64)))+(IntKind.u64.wrap ((IntKind.u64.wrap (((BitVec.ofInt (IntKind.bits .u64) ((Int.fdiv (IntKind.u64.wrap ((IntKind.u64.wrap (((BitVec.ofInt (IntKind.bits .u64) ((Int.fdiv x (2 ^ (min (Int.toNat 1) 64)))) &&& BitVec.ofInt (IntKind.bits .u64) 6148914691236517205).toNat:Nat)))+(IntKind.u64.wrap (((BitVec.ofInt (IntKind.bits .u64) x &&& BitVec.ofInt (IntKind.bits .u64) 6148914691236517205).toNat:Nat))))) (2 ^ (min (Int.toNat 2) 64)))) &&& BitVec.ofInt (IntKind.bits .u64) 3689348814741910323).toNat:Nat)))+(IntKind.u64.wrap (((BitVec.ofInt (IntKind.bits .u64) ((IntKind.u64.wrap ((IntKind.u64.wrap (((BitVec.ofInt (IntKind.bits .u64) ((Int.fdiv x (2 ^ (min (Int.toNat 1) 64)))) &&& BitVec.ofInt (IntKind.bits .u64) 6148914691236517205).toNat:Nat)))+(IntKind.u64.wrap (((BitVec.ofInt (IntKind.bits .u64) x &&& BitVec.ofInt (IntKind.bits .u64) 6148914691236517205).toNat:Nat)))))) &&& BitVec.ofInt (IntKind.bits .u64) 3689348814741910323).toNat:Nat)))))))) &&& BitVec.ofInt (IntKind.bits .u64) 1085102592571150095).toNat:Nat))) (2 ^ (min (Int.toNat 8) 64)))))+(Int.fdiv (IntKind.u64.wrap ((IntKind.u64.wrap (((BitVec.ofInt (IntKind.bits .u64) ((IntKind.u64.wrap ((Int.fdiv (IntKind.u64.wrap ((IntKind.u64.wrap (((BitVec.ofInt (IntKind.bits .u64) ((Int.fdiv (IntKind.u64.wrap ((IntKind.u64.wrap (((BitVec.ofInt (IntKind.bits .u64) ((Int.fdiv x (2 ^ (min (Int.toNat 1) 64)))) &&& BitVec.ofInt (IntKind.bits .u64) 6148914691236517205).toNat:Nat)))+(IntKind.u64.wrap (((BitVec.ofInt (IntKind.bits .u64) x &&& BitVec.ofInt (IntKind.bits .u64) 6148914691236517205).toNat:Nat))))) (2 ^ (min (Int.toNat 2) 64)))) &&& BitVec.ofInt (IntKind.bits .u64) 3689348814741910323).toNat:Nat)))+(IntKind.u64.wrap (((BitVec.ofInt (IntKind.bits .u64) ((IntKind.u64.wrap ((IntKind.u64.wrap (((BitVec.ofInt (IntKind.bits .u64) ((Int.fdiv x (2 ^ (min (Int.toNat 1) 64)))) &&& BitVec.ofInt (IntKind.bits .u64) 6148914691236517205).toNat:Nat)))+(IntKind.u64.wrap (((BitVec.ofInt (IntKind.bits .u64) x &&& BitVec.ofInt (IntKind.bits .u64) 6148914691236517205).toNat:Nat)))))) &&& BitVec.ofInt (IntKind.bits .u64) 3689348814741910323).toNat:Nat))))) (2 ^ (min (Int.toNat 4) 64)))+(IntKind.u64.wrap ((IntKind.u64.wrap (((BitVec.ofInt (IntKind.bits .u64) ((Int.fdiv (IntKind.u64.wrap ((IntKind.u64.wrap (((BitVec.ofInt (IntKind.bits .u64) ((Int.fdiv x (2 ^ (min (Int.toNat 1) 64)))) &&& BitVec.ofInt (IntKind.bits .u64) 6148914691236517205).toNat:Nat)))+(IntKind.u64.wrap (((BitVec.ofInt (IntKind.bits .u64) x &&& BitVec.ofInt (IntKind.bits .u64) 6148914691236517205).toNat:Nat))))) (2 ^ (min (Int.toNat 2) 64)))) &&& BitVec.ofInt (IntKind.bits .u64) 3689348814741910323).toNat:Nat)))+(IntKind.u64.wrap (((BitVec.ofInt (IntKind.bits .u64) ((IntKind.u64.wrap ((IntKind.u64.wrap (((BitVec.ofInt (IntKind.bits .u64) ((Int.fdiv x (2 ^ (min (Int.toNat 1) 64)))) &&& BitVec.ofInt (IntKind.bits .u64) 6148914691236517205).toNat:Nat)))+(IntKind.u64.wrap (((BitVec.ofInt (IntKind.bits .u64) x &&& BitVec.ofInt (IntKind.bits .u64) 6148914691236517205).toNat:Nat)))))) &&& BitVec.ofInt (IntKind.bits .u64) 3689348814741910323).toNat:Nat)))))))) &&& BitVec.ofInt (IntKind.bits .u64) 1085102592571150095).toNat:Nat)))+(Int.fdiv (IntKind.u64.wrap (((BitVec.ofInt (IntKind.bits .u64) ((IntKind.u64.wrap ((Int.fdiv (IntKind.u64.wrap ((IntKind.u64.wrap (((BitVec.ofInt (IntKind.bits .u64) ((Int.fdiv (IntKind.u64.wrap ((IntKind.u64.wrap (((BitVec.ofInt (IntKind.bits .u64) ((Int.fdiv x (2 ^ (min (Int.toNat 1) 64)))) &&& BitVec.ofInt (IntKind.bits .u64) 6148914691236517205).toNat:Nat)))+(IntKind.u64.wrap (((BitVec.ofInt (IntKind.bits .u64) x &&& BitVec.ofInt (IntKind.bits .u64) 6148914691236517205).toNat:Nat))))) (2 ^ (min (Int.toNat 2) 64)))) &&& BitVec.ofInt (IntKind.bits .u64) 3689348814741910323).toNat:Nat)))+(IntKind.u64.wrap (((BitVec.ofInt (IntKind.bits .u64) ((IntKind.u64.wrap ((IntKind.u64.wrap (((BitVec.ofInt (IntKind.bits .u64) ((Int.fdiv x (2 ^ (min (Int.toNat 1) 64)))) &&& BitVec.ofInt (IntKind.bits .u64) 6148914691236517205).toNat:Nat)))+(IntKind.u64.wrap (((BitVec.ofInt (IntKind.bits .u64) x &&& BitVec.ofInt (IntKind.bits .u64) 6148914691236517205).toNat:Nat)))))) &&& BitVec.ofInt (IntKind.bits .u64) 3689348814741910323).toNat:Nat))))) (2 ^ (min (Int.toNat 4) 64)))+(IntKind.u64.wrap ((IntKind.u64.wrap (((BitVec.ofInt (IntKind.bits .u64) ((Int.fdiv (IntKind.u64.wrap ((IntKind.u64.wrap (((BitVec.ofInt (IntKind.bits .u64) ((Int.fdiv x (2 ^ (min (Int.toNat 1) 64)))) &&& BitVec.ofInt (IntKind.bits .u64) 6148914691236517205).toNat:Nat)))+(IntKind.u64.wrap (((BitVec.ofInt (IntKind.bits .u64) x &&& BitVec.ofInt (IntKind.bits .u64) 6148914691236517205).toNat:Nat))))) (2 ^ (min (Int.toNat 2) 64)))) &&& BitVec.ofInt (IntKind.bits .u64) 3689348814741910323).toNat:Nat)))+(IntKind.u64.wrap (((BitVec.ofInt (IntKind.bits .u64) ((IntKind.u64.wrap ((IntKind.u64.wrap (((BitVec.ofInt (IntKind.bits .u64) ((Int.fdiv x (2 ^ (min (Int.toNat 1) 64)))) &&& BitVec.ofInt (IntKind.bits .u64) 6148914691236517205).toNat:Nat)))+(IntKind.u64.wrap (((BitVec.ofInt (IntKind.bits .u64) x &&& BitVec.ofInt (IntKind.bits .u64) 6148914691236517205).toNat:Nat)))))) &&& BitVec.ofInt (IntKind.bits .u64) 3689348814741910323).toNat:Nat)))))))) &&& BitVec.ofInt (IntKind.bits .u64) 1085102592571150095).toNat:Nat))) (2 ^ (min (Int.toNat 8) 64))))) (2 ^ (min (Int.toNat 16) 64)))))+(Int.fdiv (IntKind.u64.wrap ((IntKind.u64.wrap ((IntKind.u64.wrap (((BitVec.ofInt (IntKind.bits .u64) ((IntKind.u64.wrap ((Int.fdiv (IntKind.u64.wrap ((IntKind.u64.wrap (((BitVec.ofInt (IntKind.bits .u64) ((Int.fdiv (IntKind.u64.wrap ((IntKind.u64.wrap (((BitVec.ofInt (IntKind.bits .u64) ((Int.fdiv x (2 ^ (min (Int.toNat 1) 64)))) &&& BitVec.ofInt (IntKind.bits .u64) 6148914691236517205).toNat:Nat)))+(IntKind.u64.wrap (((BitVec.ofInt (IntKind.bits .u64) x &&& BitVec.ofInt (IntKind.bits .u64) 6148914691236517205).toNat:Nat))))) (2 ^ (min (Int.toNat 2) 64)))) &&& BitVec.ofInt (IntKind.bits .u64) 3689348814741910323).toNat:Nat)))+(IntKind.u64.wrap (((BitVec.ofInt (IntKind.bits .u64) ((IntKind.u64.wrap ((IntKind.u64.wrap (((BitVec.ofInt (IntKind.bits .u64) ((Int.fdiv x (2 ^ (min (Int.toNat 1) 64)))) &&& BitVec.ofInt (IntKind.bits .u64) 6148914691236517205).toNat:Nat)))+(IntKind.u64.wrap (((BitVec.ofInt (IntKind.bits .u64) x &&& BitVec.ofInt (IntKind.bits .u64) 6148914691236517205).toNat:Nat)))))) &&& BitVec.ofInt (IntKind.bits .u64) 3689348814741910323).toNat:Nat))))) (2 ^ (min (Int.toNat 4) 64)))+(IntKind.u64.wrap ((IntKind.u64.wrap (((BitVec.ofInt (IntKind.bits .u64) ((Int.fdiv (IntKind.u64.wrap ((IntKind.u64.wrap (((BitVec.ofInt (IntKind.bits .u64) ((Int.fdiv x (2 ^ (min (Int.toNat 1) 64)))) &&& BitVec.ofInt (IntKind.bits .u64) 6148914691236517205).toNat:Nat)))+(IntKind.u64.wrap (((BitVec.ofInt (IntKind.bits .u64) x &&& BitVec.ofInt (IntKind.bits .u64) 6148914691236517205).toNat:Nat))))) (2 ^ (min (Int.toNat 2) 64)))) &&& BitVec.ofInt (IntKind.bits .u64) 3689348814741910323).toNat:Nat)))+(IntKind.u64.wrap (((BitVec.ofInt (IntKind.bits .u64) ((IntKind.u64.wrap ((IntKind.u64.wrap (((BitVec.ofInt (IntKind.bits .u64) ((Int.fdiv x (2 ^ (min (Int.toNat 1) 64)))) &&& BitVec.ofInt (IntKind.bits .u64) 6148914691236517205).toNat:Nat)))+(IntKind.u64.wrap (((BitVec.ofInt (IntKind.bits .u64) x &&& BitVec.ofInt (IntKind.bits .u64) 6148914691236517205).toNat:Nat)))))) &&& BitVec.ofInt (IntKind.bits .u64) 3689348814741910323).toNat:Nat)))))))) &&& BitVec.ofInt (IntKind.bits .u64) 1085102592571150095).toNat:Nat)))+(Int.fdiv (IntKind.u64.wrap (((BitVec.ofInt (IntKind.bits .u64) ((IntKind.u64.wrap ((Int.fdiv (IntKind.u64.wrap ((IntKind.u64.wrap (((BitVec.ofInt (IntKind.bits .u64) ((Int.fdiv (IntKind.u64.wrap ((IntKind.u64.wrap (((BitVec.ofInt (IntKind.bits .u64) ((Int.fdiv x (2 ^ (min (Int.toNat 1) 64)))) &&& BitVec.ofInt (IntKind.bits .u64) 6148914691236517205).toNat:Nat)))+(IntKind.u64.wrap (((BitVec.ofInt (IntKind.bits .u64) x &&& BitVec.ofInt (IntKind.bits .u64) 6148914691236517205).toNat:Nat))))) (2 ^ (min (Int.toNat 2) 64)))) &&& BitVec.ofInt (IntKind.bits .u64) 3689348814741910323).toNat:Nat)))+(IntKind.u64.wrap (((BitVec.ofInt (IntKind.bits .u64) ((IntKind.u64.wrap ((IntKind.u64.wrap (((BitVec.ofInt (IntKind.bits .u64) ((Int.fdiv x (2 ^ (min (Int.toNat 1) 64)))) &&& BitVec.ofInt (IntKind.bits .u64) 6148914691236517205).toNat:Nat)))+(IntKind.u64.wrap (((BitVec.ofInt (IntKind.bits .u64) x &&& BitVec.ofInt (IntKind.bits .u64) 6148914691236517205).toNat:Nat)))))) &&& BitVec.ofInt (IntKind.bits .u64) 3689348814741910323).toNat:Nat))))) (2 ^ (min (Int.toNat 4) 64)))+(IntKind.u64.wrap ((IntKind.u64.wrap (((BitVec.ofInt (IntKind.bits .u64) ((Int.fdiv (IntKind.u64.wrap ((IntKind.u64.wrap (((BitVec.ofInt (IntKind.bits .u64) ((Int.fdiv x (2 ^ (min (Int.toNat 1) 64)))) &&& BitVec.ofInt (IntKind.bits .u64) 6148914691236517205).toNat:Nat)))+(IntKind.u64.wrap (((BitVec.ofInt (IntKind.bits .u64) x &&& BitVec.ofInt (IntKind.bits .u64) 6148914691236517205).toNat:Nat))))) (2 ^ (min (Int.toNat 2) 64)))) &&& BitVec.ofInt (IntKind.bits .u64) 3689348814741910323).toNat:Nat)))+(IntKind.u64.wrap (((BitVec.ofInt (IntKind.bits .u64) ((IntKind.u64.wrap ((IntKind.u64.wrap (((BitVec.ofInt (IntKind.bits .u64) ((Int.fdiv x (2 ^ (min (Int.toNat 1) 64)))) &&& BitVec.ofInt (IntKind.bits .u64) 6148914691236517205).toNat:Nat)))+(IntKind.u64.wrap (((BitVec.ofInt (IntKind.bits .u64) x &&& BitVec.ofInt (IntKind.bits .u64) 6148914691236517205).toNat:Nat)))))) &&& BitVec.ofInt (IntKind.bits .u64) 3689348814741910323).toNat:Nat)))))))) &&& BitVec.ofInt (IntKind.bits .u64) 1085102592571150095).toNat:Nat))) (2 ^ (min (Int.toNat 8) 64)))))+(Int.fdiv (IntKind.u64.wrap ((IntKind.u64.wrap (((BitVec.ofInt (IntKind.bits .u64) ((IntKind.u64.wrap ((Int.fdiv (IntKind.u64.wrap ((IntKind.u64.wrap (((BitVec.ofInt (IntKind.bits .u64) ((Int.fdiv (IntKind.u64.wrap ((IntKind.u64.wrap (((BitVec.ofInt (IntKind.bits .u64) ((Int.fdiv x (2 ^ (min (Int.toNat 1) 64)))) &&& BitVec.ofInt (IntKind.bits .u64) 6148914691236517205).toNat:Nat)))+(IntKind.u64.wrap (((BitVec.ofInt (IntKind.bits .u64) x &&& BitVec.ofInt (IntKind.bits .u64) 6148914691236517205).toNat:Nat))))) (2 ^ (min (Int.toNat 2) 64)))) &&& BitVec.ofInt (IntKind.bits .u64) 3689348814741910323).toNat:Nat)))+(IntKind.u64.wrap (((BitVec.ofInt (IntKind.bits .u64) ((IntKind.u64.wrap ((IntKind.u64.wrap (((BitVec.ofInt (IntKind.bits .u64) ((Int.fdiv x (2 ^ (min (Int.toNat 1) 64)))) &&& BitVec.ofInt (IntKind.bits .u64) 6148914691236517205).toNat:Nat)))+(IntKind.u64.wrap (((BitVec.ofInt (IntKind.bits .u64) x &&& BitVec.ofInt (IntKind.bits .u64) 6148914691236517205).toNat:Nat)))))) &&& BitVec.ofInt (IntKind.bits .u64) 3689348814741910323).toNat:Nat))))) (2 ^ (min (Int.toNat 4) 64)))+(IntKind.u64.wrap ((IntKind.u64.wrap (((BitVec.ofInt (IntKind.bits .u64) ((Int.fdiv (IntKind.u64.wrap ((IntKind.u64.wrap (((BitVec.ofInt (IntKind.bits .u64) ((Int.fdiv x (2 ^ (min (Int.toNat 1) 64)))) &&& BitVec.ofInt (IntKind.bits .u64) 6148914691236517205).toNat:Nat)))+(IntKind.u64.wrap (((BitVec.ofInt (IntKind.bits .u64) x &&& BitVec.ofInt (IntKind.bits .u64) 6148914691236517205).toNat:Nat))))) (2 ^ (min (Int.toNat 2) 64)))) &&& BitVec.ofInt (IntKind.bits .u64) 3689348814741910323).toNat:Nat)))+(IntKind.u64.wrap (((BitVec.ofInt (IntKind.bits .u64) ((IntKind.u64.wrap ((IntKind.u64.wrap (((BitVec.ofInt (IntKind.bits .u64) ((Int.fdiv x (2 ^ (min (Int.toNat 1) 64)))) &&& BitVec.ofInt (IntKind.bits .u64) 6148914691236517205).toNat:Nat)))+(IntKind.u64.wrap (((BitVec.ofInt (IntKind.bits .u64) x &&& BitVec.ofInt (IntKind.bits .u64) 6148914691236517205).toNat:Nat)))))) &&& BitVec.ofInt (IntKind.bits .u64) 3689348814741910323).toNat:Nat)))))))) &&& BitVec.ofInt (IntKind.bits .u64) 1085102592571150095).toNat:Nat)))+(Int.fdiv (IntKind.u64.wrap (((BitVec.ofInt (IntKind.bits .u64) ((IntKind.u64.wrap ((Int.fdiv (IntKind.u64.wrap ((IntKind.u64.wrap (((BitVec.ofInt (IntKind.bits .u64) ((Int.fdiv (IntKind.u64.wrap ((IntKind.u64.wrap (((BitVec.ofInt (IntKind.bits .u64) ((Int.fdiv x (2 ^ (min (Int.toNat 1) 64)))) &&& BitVec.ofInt (IntKind.bits .u64) 6148914691236517205).toNat:Nat)))+(IntKind.u64.wrap (((BitVec.ofInt (IntKind.bits .u64) x &&& BitVec.ofInt (IntKind.bits .u64) 6148914691236517205).toNat:Nat))))) (2 ^ (min (Int.toNat 2) 64)))) &&& BitVec.ofInt (IntKind.bits .u64) 3689348814741910323).toNat:Nat)))+(IntKind.u64.wrap (((BitVec.ofInt (IntKind.bits .u64) ((IntKind.u64.wrap ((IntKind.u64.wrap (((BitVec.ofInt (IntKind.bits .u64) ((Int.fdiv x (2 ^ (min (Int.toNat 1) 64)))) &&& BitVec.ofInt (IntKind.bits .u64) 6148914691236517205).toNat:Nat)))+(IntKind.u64.wrap (((BitVec.ofInt (IntKind.bits .u64) x &&& BitVec.ofInt (IntKind.bits .u64) 6148914691236517205).toNat:Nat)))))) &&& BitVec.ofInt (IntKind.bits .u64) 3689348814741910323).toNat:Nat))))) (2 ^ (min (Int.toNat 4) 64)))+(IntKind.u64.wrap ((IntKind.u64.wrap (((BitVec.ofInt (IntKind.bits .u64) ((Int.fdiv (IntKind.u64.wrap ((IntKind.u64.wrap (((BitVec.ofInt (IntKind.bits .u64) ((Int.fdiv x (2 ^ (min (Int.toNat 1) 64)))) &&& BitVec.ofInt (IntKind.bits .u64) 6148914691236517205).toNat:Nat)))+(IntKind.u64.wrap (((BitVec.ofInt (IntKind.bits .u64) x &&& BitVec.ofInt (IntKind.bits .u64) 6148914691236517205).toNat:Nat))))) (2 ^ (min (Int.toNat 2) 64)))) &&& BitVec.ofInt (IntKind.bits .u64) 3689348814741910323).toNat:Nat)))+(IntKind.u64.wrap (((BitVec.ofInt (IntKind.bits .u64) ((IntKind.u64.wrap ((IntKind.u64.wrap (((BitVec.ofInt (IntKind.bits .u64) ((Int.fdiv x (2 ^ (min (Int.toNat 1) 64)))) &&& BitVec.ofInt (IntKind.bits .u64) 6148914691236517205).toNat:Nat)))+(IntKind.u64.wrap (((BitVec.ofInt (IntKind.bits .u64) x &&& BitVec.ofInt (IntKind.bits .u64) 6148914691236517205).toNat:Nat)))))) &&& BitVec.ofInt (IntKind.bits .u64) 3689348814741910323).toNat:Nat)))))))) &&& BitVec.ofInt (IntKind.bits .u64) 1085102592571150095).toNat:Nat))) (2 ^ (min (Int.toNat 8) 64))))) (2 ^ (min (Int.toNat 16) 64))))) (2 ^ (min (Int.toNat 32) 64)))))))) &&& BitVec.ofInt (IntKind.bits .i64) 127).toNat:Nat))))]) (t:=[])
 (by kernel_rfl) (by kernel_rfl) (by kernel_rfl) (by kernel_rfl) (by kernel_rfl) (by kernel_rfl) ⟨c0,c1,c2,c3,c4,c5,trivial⟩
theorem w37_0 (x:Int) (hp:HL)
 (c0:(x==257)=false)
 (c1:(x==260)=false)
 (c2:(x==259)=false)
 (c3:(x==262)=false)
 (c4:(x==258)=false)
 (c5:(x==261)=false)
 (c6:(x==273)=false)
 (c7:(x==274)=false)
 (c8:(x==275)=false)
 (c9:(x==277)=false)
 (c10:(x==278)=false)
 (c11:(x==279)=false)
 (c12:(x==280)=false)
 (c13:(x==282)=false)
 (c14:(x==283)=false)
 (c15:(x==284)=false)
 (c16:(x==285)=false)
 (c17:(x==286)=false) :
 Rn pg 37 [V.d (D.int .i64 x)] (hp) (V.d (D.int .i64 0)) (hp):=
 Rn.c (fn:=i37) (ex:=.ret) (st:=⟨[(2,V.d (D.int .i64 0))],[]::hp⟩) (hs:=[.b false, .b false, .b false, .b false, .b false, .b false, .b false, .b false, .b false, .b false, .b false, .b false, .b false, .b false, .b false, .b false, .b false, .b false]) (cs:=[_,_,_,_,_,_,_,_,_,_,_,_,_,_,_,_,_,_]) (rs:=[V.d (D.int .i64 0)]) (t:=[])
 (by kernel_rfl) (by kernel_rfl) (by kernel_rfl) (by kernel_rfl) (by kernel_rfl) (by kernel_rfl) ⟨c0,c1,c2,c3,c4,c5,c6,c7,c8,c9,c10,c11,c12,c13,c14,c15,c16,c17,trivial⟩
theorem w37_1 (x:Int) (hp:HL)
 (c0:(x==257)=false)
 (c1:(x==260)=false)
 (c2:(x==259)=false)
 (c3:(x==262)=false)
 (c4:(x==258)=false)
 (c5:(x==261)=false)
 (c6:(x==273)=false)
 (c7:(x==274)=false)
 (c8:(x==275)=false)
 (c9:(x==277)=false)
 (c10:(x==278)=false)
 (c11:(x==279)=false)
 (c12:(x==280)=false)
 (c13:(x==282)=false)
 (c14:(x==283)=false)
 (c15:(x==284)=false)
 (c16:(x==285)=false)
 (c17:(x==286)=true) :
 Rn pg 37 [V.d (D.int .i64 x)] (hp) (V.d (D.int .i64 4)) (hp):=
 Rn.c (fn:=i37) (ex:=.ret) (st:=⟨[(2,V.d (D.int .i64 4))],[]::hp⟩) (hs:=[.b false, .b false, .b false, .b false, .b false, .b false, .b false, .b false, .b false, .b false, .b false, .b false, .b false, .b false, .b false, .b false, .b false, .b true]) (cs:=[_,_,_,_,_,_,_,_,_,_,_,_,_,_,_,_,_,_]) (rs:=[V.d (D.int .i64 4)]) (t:=[])
 (by kernel_rfl) (by kernel_rfl) (by kernel_rfl) (by kernel_rfl) (by kernel_rfl) (by kernel_rfl) ⟨c0,c1,c2,c3,c4,c5,c6,c7,c8,c9,c10,c11,c12,c13,c14,c15,c16,c17,trivial⟩
theorem w37_2 (x:Int) (hp:HL)
 (c0:(x==257)=false)
 (c1:(x==260)=false)
 (c2:(x==259)=false)
 (c3:(x==262)=false)
 (c4:(x==258)=false)
 (c5:(x==261)=false)
 (c6:(x==273)=false)
 (c7:(x==274)=false)
 (c8:(x==275)=false)
 (c9:(x==277)=false)
 (c10:(x==278)=false)
 (c11:(x==279)=false)
 (c12:(x==280)=false)
 (c13:(x==282)=false)
 (c14:(x==283)=false)
 (c15:(x==284)=false)
 (c16:(x==285)=true) :
 Rn pg 37 [V.d (D.int .i64 x)] (hp) (V.d (D.int .i64 4)) (hp):=
 Rn.c (fn:=i37) (ex:=.ret) (st:=⟨[(2,V.d (D.int .i64 4))],[]::hp⟩) (hs:=[.b false, .b false, .b false, .b false, .b false, .b false, .b false, .b false, .b false, .b false, .b false, .b false, .b false, .b false, .b false, .b false, .b true, .b true]) (cs:=[_,_,_,_,_,_,_,_,_,_,_,_,_,_,_,_,_,_]) (rs:=[V.d (D.int .i64 4)]) (t:=[])
 (by kernel_rfl) (by kernel_rfl) (by kernel_rfl) (by kernel_rfl) (by kernel_rfl) (by kernel_rfl) ⟨c0,c1,c2,c3,c4,c5,c6,c7,c8,c9,c10,c11,c12,c13,c14,c15,c16,c16,trivial⟩
theorem w37_3 (x:Int) (hp:HL)
 (c0:(x==257)=false)
 (c1:(x==260)=false)
 (c2:(x==259)=false)
 (c3:(x==262)=false)
 (c4:(x==258)=false)
 (c5:(x==261)=false)
 (c6:(x==273)=false)
 (c7:(x==274)=false)
 (c8:(x==275)=false)
 (c9:(x==277)=false)
 (c10:(x==278)=false)
 (c11:(x==279)=false)
 (c12:(x==280)=false)
 (c13:(x==282)=false)
 (c14:(x==283)=false)
 (c15:(x==284)=true) :
 Rn pg 37 [V.d (D.int .i64 x)] (hp) (V.d (D.int .i64 4)) (hp):=
 Rn.c (fn:=i37) (ex:=.ret) (st:=⟨[(2,V.d (D.int .i64 4))],[]::hp⟩) (hs:=[.b false, .b false, .b false, .b false, .b false, .b false, .b false, .b false, .b false, .b false, .b false, .b false, .b false, .b false, .b false, .b true, .b true]) (cs:=[_,_,_,_,_,_,_,_,_,_,_,_,_,_,_,_,_]) (rs:=[V.d (D.int .i64 4)]) (t:=[])
 (by kernel_rfl) (by kernel_rfl) (by kernel_rfl) (by kernel_rfl) (by kernel_rfl) (by kernel_rfl) ⟨c0,c1,c2,c3,c4,c5,c6,c7,c8,c9,c10,c11,c12,c13,c14,c15,c15,trivial⟩
theorem w37_4 (x:Int) (hp:HL)
 (c0:(x==257)=false)
 (c1:(x==260)=false)
 (c2:(x==259)=false)
 (c3:(x==262)=false)
 (c4:(x==258)=false)
 (c5:(x==261)=false)
 (c6:(x==273)=false)
 (c7:(x==274)=false)
 (c8:(x==275)=false)
 (c9:(x==277)=false)
 (c10:(x==278)=false)
 (c11:(x==279)=false)
 (c12:(x==280)=false)
 (c13:(x==282)=false)
 (c14:(x==283)=true) :
 Rn pg 37 [V.d (D.int .i64 x)] (hp) (V.d (D.int .i64 4)) (hp):=
 Rn.c (fn:=i37) (ex:=.ret) (st:=⟨[(2,V.d (D.int .i64 4))],[]::hp⟩) (hs:=[.b false, .b false, .b false, .b false, .b false, .b false, .b false, .b false, .b false, .b false, .b false, .b false, .b false, .b false, .b true, .b true]) (cs:=[_,_,_,_,_,_,_,_,_,_,_,_,_,_,_,_]) (rs:=[V.d (D.int .i64 4)]) (t:=[])
 (by kernel_rfl) (by kernel_rfl) (by kernel_rfl) (by kernel_rfl) (by kernel_rfl) (by kernel_rfl) ⟨c0,c1,c2,c3,c4,c5,c6,c7,c8,c9,c10,c11,c12,c13,c14,c14,trivial⟩
theorem w37_5 (x:Int) (hp:HL)
 (c0:(x==257)=false)
 (c1:(x==260)=false)
 (c2:(x==259)=false)
 (c3:(x==262)=false)
 (c4:(x==258)=false)
 (c5:(x==261)=false)
 (c6:(x==273)=false)
 (c7:(x==274)=false)
 (c8:(x==275)=false)
 (c9:(x==277)=false)
 (c10:(x==278)=false)
 (c11:(x==279)=false)
 (c12:(x==280)=false)
 (c13:(x==282)=true) :
 Rn pg 37 [V.d (D.int .i64 x)] (hp) (V.d (D.int .i64 4)) (hp):=
 Rn.c (fn:=i37) (ex:=.ret) (st:=⟨[(2,V.d (D.int .i64 4))],[]::hp⟩) (hs:=[.b false, .b false, .b false, .b false, .b false, .b false, .b false, .b false, .b false, .b false, .b false, .b false, .b false, .b true, .b true]) (cs:=[_,_,_,_,_,_,_,_,_,_,_,_,_,_,_]) (rs:=[V.d (D.int .i64 4)]) (t:=[])
 (by kernel_rfl) (by kernel_rfl) (by kernel_rfl) (by kernel_rfl) (by kernel_rfl) (by kernel_rfl) ⟨c0,c1,c2,c3,c4,c5,c6,c7,c8,c9,c10,c11,c12,c13,c13,trivial⟩
theorem w37_6 (x:Int) (hp:HL)
 (c0:(x==257)=false)
 (c1:(x==260)=false)
 (c2:(x==259)=false)
 (c3:(x==262)=false)
 (c4:(x==258)=false)
 (c5:(x==261)=false)
 (c6:(x==273)=false)
 (c7:(x==274)=false)
 (c8:(x==275)=false)
 (c9:(x==277)=false)
 (c10:(x==278)=false)
 (c11:(x==279)=false)
 (c12:(x==280)=true) :
 Rn pg 37 [V.d (D.int .i64 x)] (hp) (V.d (D.int .i64 4)) (hp):=
 Rn.c (fn:=i37) (ex:=.ret) (st:=⟨[(2,V.d (D.int .i64 4))],[]::hp⟩) (hs:=[.b false, .b false, .b false, .b false, .b false, .b false, .b false, .b false, .b false, .b false, .b false, .b false, .b true, .b true]) (cs:=[_,_,_,_,_,_,_,_,_,_,_,_,_,_]) (rs:=[V.d (D.int .i64 4)]) (t:=[])
 (by kernel_rfl) (by kernel_rfl) (by kernel_rfl) (by kernel_rfl) (by kernel_rfl) (by kernel_rfl) ⟨c0,c1,c2,c3,c4,c5,c6,c7,c8,c9,c10,c11,c12,c12,trivial⟩
theorem w37_7 (x:Int) (hp:HL)
 (c0:(x==257)=false)
 (c1:(x==260)=false)
 (c2:(x==259)=false)
 (c3:(x==262)=false)
 (c4:(x==258)=false)
 (c5:(x==261)=false)
 (c6:(x==273)=false)
 (c7:(x==274)=false)
 (c8:(x==275)=false)
 (c9:(x==277)=false)
 (c10:(x==278)=false)
 (c11:(x==279)=true) :
 Rn pg 37 [V.d (D.int .i64 x)] (hp) (V.d (D.int .i64 4)) (hp):=
 Rn.c (fn:=i37) (ex:=.ret) (st:=⟨[(2,V.d (D.int .i64 4))],[]::hp⟩) (hs:=[.b false, .b false, .b false, .b false, .b false, .b false, .b false, .b false, .b false, .b false, .b false, .b true, .b true]) (cs:=[_,_,_,_,_,_,_,_,_,_,_,_,_]) (rs:=[V.d (D.int .i64 4)]) (t:=[])
 (by kernel_rfl) (by kernel_rfl) (by kernel_rfl) (by kernel_rfl) (by kernel_rfl) (by kernel_rfl) ⟨c0,c1,c2,c3,c4,c5,c6,c7,c8,c9,c10,c11,c11,trivial⟩
theorem w37_8 (x:Int) (hp:HL)
 (c0:(x==257)=false)
 (c1:(x==260)=false)
 (c2:(x==259)=false)
 (c3:(x==262)=false)
 (c4:(x==258)=false)
 (c5:(x==261)=false)
 (c6:(x==273)=false)
 (c7:(x==274)=false)
 (c8:(x==275)=false)
 (c9:(x==277)=false)
 (c10:(x==278)=true) :
 Rn pg 37 [V.d (D.int .i64 x)] (hp) (V.d (D.int .i64 4)) (hp):=
 Rn.c (fn:=i37) (ex:=.ret) (st:=⟨[(2,V.d (D.int .i64 4))],[]::hp⟩) (hs:=[.b false, .b false, .b false, .b false, .b false, .b false, .b false, .b false, .b false, .b false, .b true]) (cs:=[_,_,_,_,_,_,_,_,_,_,_]) (rs:=[V.d (D.int .i64 4)]) (t:=[])
 (by kernel_rfl) (by kernel_rfl) (by kernel_rfl) (by kernel_rfl) (by kernel_rfl) (by kernel_rfl) ⟨c0,c1,c2,c3,c4,c5,c6,c7,c8,c9,c10,trivial⟩
theorem w37_9 (x:Int) (hp:HL)
 (c0:(x==257)=false)
 (c1:(x==260)=false)
 (c2:(x==259)=false)
 (c3:(x==262)=false)
 (c4:(x==258)=false)
 (c5:(x==261)=false)
 (c6:(x==273)=false)
 (c7:(x==274)=false)
 (c8:(x==275)=false)
 (c9:(x==277)=true) :
 Rn pg 37 [V.d (D.int .i64 x)] (hp) (V.d (D.int .i64 4)) (hp):=
 Rn.c (fn:=i37) (ex:=.ret) (st:=⟨[(2,V.d (D.int .i64 4))],[]::hp⟩) (hs:=[.b false, .b false, .b false, .b false, .b false, .b false, .b false, .b false, .b false, .b true, .b true]) (cs:=[_,_,_,_,_,_,_,_,_,_,_]) (rs:=[V.d (D.int .i64 4)]) (t:=[])
 (by kernel_rfl) (by kernel_rfl) (by kernel_rfl) (by kernel_rfl) (by kernel_rfl) (by kernel_rfl) ⟨c0,c1,c2,c3,c4,c5,c6,c7,c8,c9,c9,trivial⟩
theorem w37_10 (x:Int) (hp:HL)
 (c0:(x==257)=false)
 (c1:(x==260)=false)
 (c2:(x==259)=false)
 (c3:(x==262)=false)
 (c4:(x==258)=false)
 (c5:(x==261)=false)
 (c6:(x==273)=false)
 (c7:(x==274)=false)
 (c8:(x==275)=true) :
 Rn pg 37 [V.d (D.int .i64 x)] (hp) (V.d (D.int .i64 4)) (hp):=
 Rn.c (fn:=i37) (ex:=.ret) (st:=⟨[(2,V.d (D.int .i64 4))],[]::hp⟩) (hs:=[.b false, .b false, .b false, .b false, .b false, .b false, .b false, .b false, .b true, .b true]) (cs:=[_,_,_,_,_,_,_,_,_,_]) (rs:=[V.d (D.int .i64 4)]) (t:=[])
 (by kernel_rfl) (by kernel_rfl) (by kernel_rfl) (by kernel_rfl) (by kernel_rfl) (by kernel_rfl) ⟨c0,c1,c2,c3,c4,c5,c6,c7,c8,c8,trivial⟩
theorem w37_11 (x:Int) (hp:HL)
 (c0:(x==257)=false)
 (c1:(x==260)=false)
 (c2:(x==259)=false)
 (c3:(x==262)=false)
 (c4:(x==258)=false)
 (c5:(x==261)=false)
 (c6:(x==273)=false)
 (c7:(x==274)=true) :
 Rn pg 37 [V.d (D.int .i64 x)] (hp) (V.d (D.int .i64 4)) (hp):=
 Rn.c (fn:=i37) (ex:=.ret) (st:=⟨[(2,V.d (D.int .i64 4))],[]::hp⟩) (hs:=[.b false, .b false, .b false, .b false, .b false, .b false, .b false, .b true, .b true]) (cs:=[_,_,_,_,_,_,_,_,_]) (rs:=[V.d (D.int .i64 4)]) (t:=[])
 (by kernel_rfl) (by kernel_rfl) (by kernel_rfl) (by kernel_rfl) (by kernel_rfl) (by kernel_rfl) ⟨c0,c1,c2,c3,c4,c5,c6,c7,c7,trivial⟩
theorem w37_12 (x:Int) (hp:HL)
 (c0:(x==257)=false)
 (c1:(x==260)=false)
 (c2:(x==259)=false)
 (c3:(x==262)=false)
 (c4:(x==258)=false)
 (c5:(x==261)=false)
 (c6:(x==273)=true) :
 Rn pg 37 [V.d (D.int .i64 x)] (hp) (V.d (D.int .i64 4)) (hp):=
 Rn.c (fn:=i37) (ex:=.ret) (st:=⟨[(2,V.d (D.int .i64 4))],[]::hp⟩) (hs:=[.b false, .b false, .b false, .b false, .b false, .b false, .b true, .b true]) (cs:=[_,_,_,_,_,_,_,_]) (rs:=[V.d (D.int .i64 4)]) (t:=[])
 (by kernel_rfl) (by kernel_rfl) (by kernel_rfl) (by kernel_rfl) (by kernel_rfl) (by kernel_rfl) ⟨c0,c1,c2,c3,c4,c5,c6,c6,trivial⟩
theorem w37_13 (x:Int) (hp:HL)
 (c0:(x==257)=false)
 (c1:(x==260)=false)
 (c2:(x==259)=false)
 (c3:(x==262)=false)
 (c4:(x==258)=false)
 (c5:(x==261)=true) :
 Rn pg 37 [V.d (D.int .i64 x)] (hp) (V.d (D.int .i64 4)) (hp):=
 Rn.c (fn:=i37) (ex:=.ret) (st:=⟨[(2,V.d (D.int .i64 4))],[]::hp⟩) (hs:=[.b false, .b false, .b false, .b false, .b false, .b true, .b true]) (cs:=[_,_,_,_,_,_,_]) (rs:=[V.d (D.int .i64 4)]) (t:=[])
 (by kernel_rfl) (by kernel_rfl) (by kernel_rfl) (by kernel_rfl) (by kernel_rfl) (by kernel_rfl) ⟨c0,c1,c2,c3,c4,c5,c5,trivial⟩
theorem w37_14 (x:Int) (hp:HL)
 (c0:(x==257)=false)
 (c1:(x==260)=false)
 (c2:(x==259)=false)
 (c3:(x==262)=false)
 (c4:(x==258)=true) :
 Rn pg 37 [V.d (D.int .i64 x)] (hp) (V.d (D.int .i64 4)) (hp):=
 Rn.c (fn:=i37) (ex:=.ret) (st:=⟨[(2,V.d (D.int .i64 4))],[]::hp⟩) (hs:=[.b false, .b false, .b false, .b false, .b true, .b true]) (cs:=[_,_,_,_,_,_]) (rs:=[V.d (D.int .i64 4)]) (t:=[])
 (by kernel_rfl) (by kernel_rfl) (by kernel_rfl) (by kernel_rfl) (by kernel_rfl) (by kernel_rfl) ⟨c0,c1,c2,c3,c4,c4,trivial⟩
theorem w37_15 (x:Int) (hp:HL)
 (c0:(x==257)=false)
 (c1:(x==260)=false)
 (c2:(x==259)=false)
 (c3:(x==262)=true) :
 Rn pg 37 [V.d (D.int .i64 x)] (hp) (V.d (D.int .i64 2)) (hp):=
 Rn.c (fn:=i37) (ex:=.ret) (st:=⟨[(2,V.d (D.int .i64 2))],[]::hp⟩) (hs:=[.b false, .b false, .b false, .b true]) (cs:=[_,_,_,_]) (rs:=[V.d (D.int .i64 2)]) (t:=[])
 (by kernel_rfl) (by kernel_rfl) (by kernel_rfl) (by kernel_rfl) (by kernel_rfl) (by kernel_rfl) ⟨c0,c1,c2,c3,trivial⟩
theorem w37_16 (x:Int) (hp:HL)
 (c0:(x==257)=false)
 (c1:(x==260)=false)
 (c2:(x==259)=true) :
 Rn pg 37 [V.d (D.int .i64 x)] (hp) (V.d (D.int .i64 2)) (hp):=
 Rn.c (fn:=i37) (ex:=.ret) (st:=⟨[(2,V.d (D.int .i64 2))],[]::hp⟩) (hs:=[.b false, .b false, .b true]) (cs:=[_,_,_]) (rs:=[V.d (D.int .i64 2)]) (t:=[])
 (by kernel_rfl) (by kernel_rfl) (by kernel_rfl) (by kernel_rfl) (by kernel_rfl) (by kernel_rfl) ⟨c0,c1,c2,trivial⟩
theorem w37_17 (x:Int) (hp:HL)
 (c0:(x==257)=false)
 (c1:(x==260)=true) :
 Rn pg 37 [V.d (D.int .i64 x)] (hp) (V.d (D.int .i64 8)) (hp):=
 Rn.c (fn:=i37) (ex:=.ret) (st:=⟨[(2,V.d (D.int .i64 8))],[]::hp⟩) (hs:=[.b false, .b true]) (cs:=[_,_]) (rs:=[V.d (D.int .i64 8)]) (t:=[])
 (by kernel_rfl) (by kernel_rfl) (by kernel_rfl) (by kernel_rfl) (by kernel_rfl) (by kernel_rfl) ⟨c0,c1,trivial⟩
theorem w37_18 (x:Int) (hp:HL)
 (c0:(x==257)=true) :
 Rn pg 37 [V.d (D.int .i64 x)] (hp) (V.d (D.int .i64 8)) (hp):=
 Rn.c (fn:=i37) (ex:=.ret) (st:=⟨[(2,V.d (D.int .i64 8))],[]::hp⟩) (hs:=[.b true]) (cs:=[_]) (rs:=[V.d (D.int .i64 8)]) (t:=[])
 (by kernel_rfl) (by kernel_rfl) (by kernel_rfl) (by kernel_rfl) (by kernel_rfl) (by kernel_rfl) ⟨c0,trivial⟩
theorem w75_0 (s:List UInt8) (c:Int) (hp:HL)
 (c0:Rn pg 79 [V.d (D.str s),V.d (D.int .u8 c)] ([]) (V.d (D.int .i64 (Go.Lib.indexByte s (Int.toNat c).toUInt8))) ([])) :
 Rn pg 75 [V.d (D.str s),V.d (D.int .u8 c)] (hp) (V.d (D.int .i64 (Go.Lib.indexByte s (Int.toNat c).toUInt8))) (hp):=
 Rn.c (fn:=i75) (ex:=.ret) (st:=⟨[(4,V.d (D.int .i64 (Go.Lib.indexByte s (Int.toNat c).toUInt8)))],[]::hp⟩) (hs:=[.call (V.d (D.int .i64 (Go.Lib.indexByte s (Int.toNat c).toUInt8))) ([])]) (cs:=[_]) (rs:=[V.d (D.int .i64 (Go.Lib.indexByte s (Int.toNat c).toUInt8))]) (t:=[])
 (by kernel_rfl) (by kernel_rfl) (by kernel_rfl) (by kernel_rfl) (by kernel_rfl) (by kernel_rfl) ⟨c0,trivial⟩
theorem w69_0 (s:List UInt8) (c:Int) (hp:HL)
 (c0:Rn pg 75 [V.d (D.str s),V.d (D.int .u8 c)] ([]) (V.d (D.int .i64 (Go.Lib.indexByte s (Int.toNat c).toUInt8))) ([])) :
 Rn pg 69 [V.d (D.str s),V.d (D.int .u8 c)] (hp) (V.d (D.int .i64 (Go.Lib.indexByte s (Int.toNat c).toUInt8))) (hp):=
 Rn.c (fn:=i69) (ex:=.ret) (st:=⟨[(4,V.d (D.int .i64 (Go.Lib.indexByte s (Int.toNat c).toUInt8)))],[]::hp⟩) (hs:=[.call (V.d (D.int .i64 (Go.Lib.indexByte s (Int.toNat c).toUInt8))) ([])]) (cs:=[_]) (rs:=[V.d (D.int .i64 (Go.Lib.indexByte s (Int.toNat c).toUInt8))]) (t:=[])
 (by kernel_rfl) (by kernel_rfl) (by kernel_rfl) (by kernel_rfl) (by kernel_rfl) (by kernel_rfl) ⟨c0,trivial⟩
theorem w66a_0 (s:List UInt8) (i:Nat) (hp:HL)
    (c0:(decide (((i:Nat):Int)<((s.length:Nat):Int)))=false) :
    Ev pg i66_l0 ⟨[(0,V.d (D.str s)),(13,V.d (D.int .i64 ((s.length:Nat):Int))),(14,V.d (D.int .i64 ((i:Nat):Int)))],[]::hp⟩ (.exit 0) ⟨[(0,V.d (D.str s)),(13,V.d (D.int .i64 ((s.length:Nat):Int))),(14,V.d (D.int .i64 ((i:Nat):Int))),(15,V.d (D.bool false))],[]::hp⟩:=
  by
  have r:Ev pg i66_l0 ⟨[(0,V.d (D.str s)),(13,V.d (D.int .i64 ((s.length:Nat):Int))),(14,V.d (D.int .i64 ((i:Nat):Int)))],[]::hp⟩ (.exit 0) ⟨[(0,V.d (D.str s)),(13,V.d (D.int .i64 ((s.length:Nat):Int))),(14,V.d (D.int .i64 ((i:Nat):Int))),(15,V.d (D.bool (decide (((i:Nat):Int)<((s.length:Nat):Int)))))],[]::hp⟩:=
  codeC_ok (hs:=[.b false]) (hs':=[]) (cs:=[_]) (by kernel_rfl) ⟨c0,trivial⟩
  simp only [c0] at r
  exact r
theorem w66a_1 (s:List UInt8) (i:Nat) (hp:HL) (b1:UInt8)
    (c0:(decide (((i:Nat):Int)<((s.length:Nat):Int)))=true)
    (c1:s[i]? = some b1)
    (c2:(decide (((b1.toNat:Int))<33))=false)
    (c3:(decide (((b1.toNat:Int)) > 126))=false) :
    Ev pg i66_l0 ⟨[(0,V.d (D.str s)),(13,V.d (D.int .i64 ((s.length:Nat):Int))),(14,V.d (D.int .i64 ((i:Nat):Int)))],[]::hp⟩ .normal ⟨[(0,V.d (D.str s)),(13,V.d (D.int .i64 ((s.length:Nat):Int))),(14,V.d (D.int .i64 (IntKind.i64.wrap (((i:Nat):Int)+1))))],[]::hp⟩:=
  codeC_ok (hs:=[.b true, .n i, .u b1, .b false, .b false, .b false, .n i, .u b1, .b false, .b false, .b false]) (hs':=[]) (cs:=[_,((i:Nat):Int)=((i:Nat):Int),_,_,_,_,((i:Nat):Int)=((i:Nat):Int),_,_,_,_]) (by kernel_rfl) ⟨c0,rfl,c1,c2,c2,c2,rfl,c1,c2,c2,c3,trivial⟩
theorem w66a_2 (s:List UInt8) (i:Nat) (hp:HL) (b1:UInt8)
    (c0:(decide (((i:Nat):Int)<((s.length:Nat):Int)))=true)
    (c1:s[i]? = some b1)
    (c2:(decide (((b1.toNat:Int))<33))=false)
    (c3:(decide (((b1.toNat:Int)) > 126))=true) :
    Ev pg i66_l0 ⟨[(0,V.d (D.str s)),(13,V.d (D.int .i64 ((s.length:Nat):Int))),(14,V.d (D.int .i64 ((i:Nat):Int)))],[]::hp⟩ .ret ⟨[(2,V.d (D.bool false))],[]::hp⟩:=
  codeC_ok (hs:=[.b true, .n i, .u b1, .b false, .b false, .b false, .n i, .u b1, .b false, .b false, .b true]) (hs':=[]) (cs:=[_,((i:Nat):Int)=((i:Nat):Int),_,_,_,_,((i:Nat):Int)=((i:Nat):Int),_,_,_,_]) (by kernel_rfl) ⟨c0,rfl,c1,c2,c2,c2,rfl,c1,c2,c2,c3,trivial⟩
theorem w66a_3 (s:List UInt8) (i:Nat) (hp:HL) (b1:UInt8)
    (c0:(decide (((i:Nat):Int)<((s.length:Nat):Int)))=true)
    (c1:s[i]? = some b1)
    (c2:(decide (((b1.toNat:Int))<33))=true) :
    Ev pg i66_l0 ⟨[(0,V.d (D.str s)),(13,V.d (D.int .i64 ((s.length:Nat):Int))),(14,V.d (D.int .i64 ((i:Nat):Int)))],[]::hp⟩ .ret ⟨[(2,V.d (D.bool false))],[]::hp⟩:=
  codeC_ok (hs:=[.b true, .n i, .u b1, .b true, .b true, .b true, .b true, .b true, .b true]) (hs':=[]) (cs:=[_,((i:Nat):Int)=((i:Nat):Int),_,_,_,_,_,_,true=true]) (by kernel_rfl) ⟨c0,rfl,c1,c2,c2,c2,c2,c2,rfl,trivial⟩
theorem w66_0 (s:List UInt8) (hp:HL)
 (c0:(decide (((s.length:Nat):Int)<1))=false)
 (c1:(decide (((s.length:Nat):Int) > 32))=false)
 (c2:Lp pg i66_l0 ⟨[(0,V.d (D.str s)),(13,V.d (D.int .i64 ((s.length:Nat):Int))),(14,V.d (D.int .i64 0))],[]::hp⟩ (.exit 0) ⟨[(0,V.d (D.str s)),(13,V.d (D.int .i64 ((s.length:Nat):Int))),(14,V.d (D.int .i64 ((s.length:Nat):Int))),(15,V.d (D.bool false))],[]::hp⟩) :
 Rn pg 66 [V.d (D.str s)] (hp) (V.d (D.bool true)) (hp):=
 Rn.c (fn:=i66) (ex:=.ret) (st:=⟨[(2,V.d (D.bool true))],[]::hp⟩) (hs:=[.b false, .b false, .b false, .b false, .b false, .lp (.exit 0) ⟨[(0,V.d (D.str s)),(13,V.d (D.int .i64 ((s.length:Nat):Int))),(14,V.d (D.int .i64 ((s.length:Nat):Int))),(15,V.d (D.bool false))],[]::hp⟩]) (cs:=[_,_,_,_,_,_]) (rs:=[V.d (D.bool true)]) (t:=[])
 (by kernel_rfl) (by kernel_rfl) (by kernel_rfl) (by kernel_rfl) (by kernel_rfl) (by kernel_rfl) ⟨c0,c0,c0,c0,c1,c2,trivial⟩
theorem w66_1 (s:List UInt8) (hp:HL)
 (c0:(decide (((s.length:Nat):Int)<1))=false)
 (c1:(decide (((s.length:Nat):Int) > 32))=false)
 (c2:Lp pg i66_l0 ⟨[(0,V.d (D.str s)),(13,V.d (D.int .i64 ((s.length:Nat):Int))),(14,V.d (D.int .i64 0))],[]::hp⟩ .ret ⟨[(2,V.d (D.bool false))],[]::hp⟩) :
 Rn pg 66 [V.d (D.str s)] (hp) (V.d (D.bool false)) (hp):=
 Rn.c (fn:=i66) (ex:=.ret) (st:=⟨[(2,V.d (D.bool false))],[]::hp⟩) (hs:=[.b false, .b false, .b false, .b false, .b false, .lp .ret ⟨[(2,V.d (D.bool false))],[]::hp⟩]) (cs:=[_,_,_,_,_,_]) (rs:=[V.d (D.bool false)]) (t:=[])
 (by kernel_rfl) (by kernel_rfl) (by kernel_rfl) (by kernel_rfl) (by kernel_rfl) (by kernel_rfl) ⟨c0,c0,c0,c0,c1,c2,trivial⟩
theorem w66_2 (s:List UInt8) (hp:HL)
 (c0:(decide (((s.length:Nat):Int)<1))=false)
 (c1:(decide (((s.length:Nat):Int) > 32))=true) :
 Rn pg 66 [V.d (D.str s)] (hp) (V.d (D.bool false)) (hp):=
 Rn.c (fn:=i66) (ex:=.ret) (st:=⟨[(2,V.d (D.bool false))],[]::hp⟩) (hs:=[.b false, .b false, .b false, .b false, .b true]) (cs:=[_,_,_,_,_]) (rs:=[V.d (D.bool false)]) (t:=[])
 (by kernel_rfl) (by kernel_rfl) (by kernel_rfl) (by kernel_rfl) (by kernel_rfl) (by kernel_rfl) ⟨c0,c0,c0,c0,c1,trivial⟩
theorem w66_3 (s:List UInt8) (hp:HL)
 (c0:(decide (((s.length:Nat):Int)<1))=true) :
 Rn pg 66 [V.d (D.str s)] (hp) (V.d (D.bool false)) (hp):=
 Rn.c (fn:=i66) (ex:=.ret) (st:=⟨[(2,V.d (D.bool false))],[]::hp⟩) (hs:=[.b true, .b true, .b true, .b true, .b true]) (cs:=[_,_,_,_,true=true]) (rs:=[V.d (D.bool false)]) (t:=[])
 (by kernel_rfl) (by kernel_rfl) (by kernel_rfl) (by kernel_rfl) (by kernel_rfl) (by kernel_rfl) ⟨c0,c0,c0,c0,rfl,trivial⟩
theorem w20_0 (o:TObj) (hp:HL)
 (c0:(decide ((((o.sections.l.map TSec.c).length:Nat):Int)≤80))=false) :
 Rn pg 20 [V.d (D.agg [D.sl o.sections.nn (o.sections.l.map TSec.c),D.sl o.symbols.nn (o.symbols.l.map TSym.c)])] (hp) (V.d (D.bool false)) (hp):=
 Rn.c (fn:=i20) (ex:=.ret) (st:=⟨[(2,V.d (D.bool false))],[]::hp⟩) (hs:=[.b false, .b false, .b false, .b false, .b false]) (cs:=[_,_,_,_,_]) (rs:=[V.d (D.bool false)]) (t:=[])
 (by kernel_rfl) (by kernel_rfl) (by kernel_rfl) (by kernel_rfl) (by kernel_rfl) (by kernel_rfl) ⟨c0,c0,c0,c0,c0,trivial⟩
theorem w20_1 (o:TObj) (hp:HL)
 (c0:(decide ((((o.sections.l.map TSec.c).length:Nat):Int)≤80))=true) :
 Rn pg 20 [V.d (D.agg [D.sl o.sections.nn (o.sections.l.map TSec.c),D.sl o.symbols.nn (o.symbols.l.map TSym.c)])] (hp) (V.d (D.bool (decide ((((o.symbols.l.map TSym.c).length:Nat):Int)≤300)))) (hp):=
 Rn.c (fn:=i20) (ex:=.ret) (st:=⟨[(2,V.d (D.bool (decide ((((o.symbols.l.map TSym.c).length:Nat):Int)≤300))))],[]::hp⟩) (hs:=[.b true, .b true, .b true, .b true, .b true]) (cs:=[_,_,_,_,_]) (rs:=[V.d (D.bool (decide ((((o.symbols.l.map TSym.c).length:Nat):Int)≤300)))]) (t:=[])
 (by kernel_rfl) (by kernel_rfl) (by kernel_rfl) (by kernel_rfl) (by kernel_rfl) (by kernel_rfl) ⟨c0,c0,c0,c0,c0,trivial⟩
end Go.Proofs.YtgmphfmoonbfpaaMv

set_option maxRecDepth 100000
namespace Go.Proofs.YtgmphfmoonbfpaaMv
open Go
end Go.Proofs.YtgmphfmoonbfpaaMv

namespace Go.Proofs.YtgmphfmoonbfpaaMv
open Go
end Go.Proofs.YtgmphfmoonbfpaaMv

namespace Go.Proofs.YtgmphfmoonbfpaaMv
open Go
structure OPrt where
  name:List UInt8
  file:Int
  line:Int
  pieces:List TPce
  deriving DecidableEq,Inhabited
structure Ms where
  parts:List OPrt
  marks:List TMrk
  globals:List TTld
  faults:List TFlt
  file:Int
  line:Int
  name:List UInt8
  deriving DecidableEq,Inhabited
structure Ms.le (m:Ms) (k:Nat):Prop where
  parts:m.parts.length≤k
  marks:m.marks.length≤k
  globals:m.globals.length≤k
  faults:m.faults.length≤k
  pieces:∀ p ∈ m.parts,p.pieces.length≤k
end Go.Proofs.YtgmphfmoonbfpaaMv

set_option maxRecDepth 100000
namespace Go.Proofs.YtgmphfmoonbfpaaMv
open Go
end Go.Proofs.YtgmphfmoonbfpaaMv

namespace Go.Proofs.YtgmphfmoonbfpaaMv
open Go
end Go.Proofs.YtgmphfmoonbfpaaMv

set_option maxRecDepth 100000
namespace Go.Proofs.YtgmphfmoonbfpaaMv
open Go
end Go.Proofs.YtgmphfmoonbfpaaMv

set_option maxRecDepth 100000
namespace Go.Proofs.YtgmphfmoonbfpaaMv
open Go
theorem w36l_0_0 (s:List UInt8) (hp:HL)
    (c0:([[D.str (([46,116,101,120,116])),D.int .i64 1],[D.str (([46,114,111,100,97,116,97])),D.int .i64 3],[D.str (([46,98,115,115])),D.int .i64 4]]:List (List D))[0]? = some [D.str (([46,116,101,120,116])),D.int .i64 1])
    (c1:(s==(([46,116,101,120,116])))=false)
    (c2:¬((((([46,116,101,120,116])).length+([46]).length:Nat):Int) > IntKind.i64.max))
    (c3:Rn pg 30 [V.d (D.str s),V.d (D.str ((([46,116,101,120,116]))++([46])))] ([]) (V.d (D.bool (hasPre s ((([46,116,101,120,116]))++([46]))))) ([]))
    (c4:(hasPre s ((([46,116,101,120,116]))++([46])))=false) :
    Ev pg i36_l0 ⟨[(0,V.d (D.str s)),(8,V.d (D.sl true [[D.str (([46,116,101,120,116])),D.int .i64 1],[D.str (([46,114,111,100,97,116,97])),D.int .i64 3],[D.str (([46,98,115,115])),D.int .i64 4]])),(9,V.d (D.int .i64 3)),(10,V.d (D.int .i64 0))],[]::hp⟩ .normal ⟨[(0,V.d (D.str s)),(8,V.d (D.sl true [[D.str (([46,116,101,120,116])),D.int .i64 1],[D.str (([46,114,111,100,97,116,97])),D.int .i64 3],[D.str (([46,98,115,115])),D.int .i64 4]])),(9,V.d (D.int .i64 3)),(10,V.d (D.int .i64 1))],[]::hp⟩:=
  codeC_ok (hs:=[.b true, .n 0, .ds [D.str (([46,116,101,120,116])),D.int .i64 1], .b false, .b false, .b false, .b false, .b false, .call (V.d (D.bool (hasPre s ((([46,116,101,120,116]))++([46]))))) ([]), .b false, .b false]) (hs':=[]) (cs:=[true=true,0=((0:Nat):Int),_,_,_,_,_,_,_,_,_,_]) (by kernel_rfl) ⟨rfl,rfl,c0,c1,c1,c1,c1,c2,c1,c3,c1,c4,trivial⟩
theorem w36l_0_1 (s:List UInt8) (hp:HL)
    (c0:([[D.str (([46,116,101,120,116])),D.int .i64 1],[D.str (([46,114,111,100,97,116,97])),D.int .i64 3],[D.str (([46,98,115,115])),D.int .i64 4]]:List (List D))[0]? = some [D.str (([46,116,101,120,116])),D.int .i64 1])
    (c1:(s==(([46,116,101,120,116])))=false)
    (c2:¬((((([46,116,101,120,116])).length+([46]).length:Nat):Int) > IntKind.i64.max))
    (c3:Rn pg 30 [V.d (D.str s),V.d (D.str ((([46,116,101,120,116]))++([46])))] ([]) (V.d (D.bool (hasPre s ((([46,116,101,120,116]))++([46]))))) ([]))
    (c4:(hasPre s ((([46,116,101,120,116]))++([46])))=true) :
    Ev pg i36_l0 ⟨[(0,V.d (D.str s)),(8,V.d (D.sl true [[D.str (([46,116,101,120,116])),D.int .i64 1],[D.str (([46,114,111,100,97,116,97])),D.int .i64 3],[D.str (([46,98,115,115])),D.int .i64 4]])),(9,V.d (D.int .i64 3)),(10,V.d (D.int .i64 0))],[]::hp⟩ .ret ⟨[(2,V.d (D.int .i64 1))],[]::hp⟩:=
  codeC_ok (hs:=[.b true, .n 0, .ds [D.str (([46,116,101,120,116])),D.int .i64 1], .b false, .b false, .b false, .b false, .b false, .call (V.d (D.bool (hasPre s ((([46,116,101,120,116]))++([46]))))) ([]), .b false, .b true]) (hs':=[]) (cs:=[true=true,0=((0:Nat):Int),_,_,_,_,_,_,_,_,_,_]) (by kernel_rfl) ⟨rfl,rfl,c0,c1,c1,c1,c1,c2,c1,c3,c1,c4,trivial⟩
theorem w36l_0_2 (s:List UInt8) (hp:HL)
    (c0:([[D.str (([46,116,101,120,116])),D.int .i64 1],[D.str (([46,114,111,100,97,116,97])),D.int .i64 3],[D.str (([46,98,115,115])),D.int .i64 4]]:List (List D))[0]? = some [D.str (([46,116,101,120,116])),D.int .i64 1])
    (c1:(s==(([46,116,101,120,116])))=true) :
    Ev pg i36_l0 ⟨[(0,V.d (D.str s)),(8,V.d (D.sl true [[D.str (([46,116,101,120,116])),D.int .i64 1],[D.str (([46,114,111,100,97,116,97])),D.int .i64 3],[D.str (([46,98,115,115])),D.int .i64 4]])),(9,V.d (D.int .i64 3)),(10,V.d (D.int .i64 0))],[]::hp⟩ .ret ⟨[(2,V.d (D.int .i64 1))],[]::hp⟩:=
  codeC_ok (hs:=[.b true, .n 0, .ds [D.str (([46,116,101,120,116])),D.int .i64 1], .b true, .b true, .b true, .b true, .b true, .b true, .b true]) (hs':=[]) (cs:=[true=true,0=((0:Nat):Int),_,_,_,_,_,_,_,true=true]) (by kernel_rfl) ⟨rfl,rfl,c0,c1,c1,c1,c1,c1,c1,rfl,trivial⟩
theorem w36l_1_0 (s:List UInt8) (hp:HL)
    (c0:([[D.str (([46,116,101,120,116])),D.int .i64 1],[D.str (([46,114,111,100,97,116,97])),D.int .i64 3],[D.str (([46,98,115,115])),D.int .i64 4]]:List (List D))[1]? = some [D.str (([46,114,111,100,97,116,97])),D.int .i64 3])
    (c1:(s==(([46,114,111,100,97,116,97])))=false)
    (c2:¬((((([46,114,111,100,97,116,97])).length+([46]).length:Nat):Int) > IntKind.i64.max))
    (c3:Rn pg 30 [V.d (D.str s),V.d (D.str ((([46,114,111,100,97,116,97]))++([46])))] ([]) (V.d (D.bool (hasPre s ((([46,114,111,100,97,116,97]))++([46]))))) ([]))
    (c4:(hasPre s ((([46,114,111,100,97,116,97]))++([46])))=false) :
    Ev pg i36_l0 ⟨[(0,V.d (D.str s)),(8,V.d (D.sl true [[D.str (([46,116,101,120,116])),D.int .i64 1],[D.str (([46,114,111,100,97,116,97])),D.int .i64 3],[D.str (([46,98,115,115])),D.int .i64 4]])),(9,V.d (D.int .i64 3)),(10,V.d (D.int .i64 1))],[]::hp⟩ .normal ⟨[(0,V.d (D.str s)),(8,V.d (D.sl true [[D.str (([46,116,101,120,116])),D.int .i64 1],[D.str (([46,114,111,100,97,116,97])),D.int .i64 3],[D.str (([46,98,115,115])),D.int .i64 4]])),(9,V.d (D.int .i64 3)),(10,V.d (D.int .i64 2))],[]::hp⟩:=
  codeC_ok (hs:=[.b true, .n 1, .ds [D.str (([46,114,111,100,97,116,97])),D.int .i64 3], .b false, .b false, .b false, .b false, .b false, .call (V.d (D.bool (hasPre s ((([46,114,111,100,97,116,97]))++([46]))))) ([]), .b false, .b false]) (hs':=[]) (cs:=[true=true,1=((1:Nat):Int),_,_,_,_,_,_,_,_,_,_]) (by kernel_rfl) ⟨rfl,rfl,c0,c1,c1,c1,c1,c2,c1,c3,c1,c4,trivial⟩
theorem w36l_1_1 (s:List UInt8) (hp:HL)
    (c0:([[D.str (([46,116,101,120,116])),D.int .i64 1],[D.str (([46,114,111,100,97,116,97])),D.int .i64 3],[D.str (([46,98,115,115])),D.int .i64 4]]:List (List D))[1]? = some [D.str (([46,114,111,100,97,116,97])),D.int .i64 3])
    (c1:(s==(([46,114,111,100,97,116,97])))=false)
    (c2:¬((((([46,114,111,100,97,116,97])).length+([46]).length:Nat):Int) > IntKind.i64.max))
    (c3:Rn pg 30 [V.d (D.str s),V.d (D.str ((([46,114,111,100,97,116,97]))++([46])))] ([]) (V.d (D.bool (hasPre s ((([46,114,111,100,97,116,97]))++([46]))))) ([]))
    (c4:(hasPre s ((([46,114,111,100,97,116,97]))++([46])))=true) :
    Ev pg i36_l0 ⟨[(0,V.d (D.str s)),(8,V.d (D.sl true [[D.str (([46,116,101,120,116])),D.int .i64 1],[D.str (([46,114,111,100,97,116,97])),D.int .i64 3],[D.str (([46,98,115,115])),D.int .i64 4]])),(9,V.d (D.int .i64 3)),(10,V.d (D.int .i64 1))],[]::hp⟩ .ret ⟨[(2,V.d (D.int .i64 3))],[]::hp⟩:=
  codeC_ok (hs:=[.b true, .n 1, .ds [D.str (([46,114,111,100,97,116,97])),D.int .i64 3], .b false, .b false, .b false, .b false, .b false, .call (V.d (D.bool (hasPre s ((([46,114,111,100,97,116,97]))++([46]))))) ([]), .b false, .b true]) (hs':=[]) (cs:=[true=true,1=((1:Nat):Int),_,_,_,_,_,_,_,_,_,_]) (by kernel_rfl) ⟨rfl,rfl,c0,c1,c1,c1,c1,c2,c1,c3,c1,c4,trivial⟩
theorem w36l_1_2 (s:List UInt8) (hp:HL)
    (c0:([[D.str (([46,116,101,120,116])),D.int .i64 1],[D.str (([46,114,111,100,97,116,97])),D.int .i64 3],[D.str (([46,98,115,115])),D.int .i64 4]]:List (List D))[1]? = some [D.str (([46,114,111,100,97,116,97])),D.int .i64 3])
    (c1:(s==(([46,114,111,100,97,116,97])))=true) :
    Ev pg i36_l0 ⟨[(0,V.d (D.str s)),(8,V.d (D.sl true [[D.str (([46,116,101,120,116])),D.int .i64 1],[D.str (([46,114,111,100,97,116,97])),D.int .i64 3],[D.str (([46,98,115,115])),D.int .i64 4]])),(9,V.d (D.int .i64 3)),(10,V.d (D.int .i64 1))],[]::hp⟩ .ret ⟨[(2,V.d (D.int .i64 3))],[]::hp⟩:=
  codeC_ok (hs:=[.b true, .n 1, .ds [D.str (([46,114,111,100,97,116,97])),D.int .i64 3], .b true, .b true, .b true, .b true, .b true, .b true, .b true]) (hs':=[]) (cs:=[true=true,1=((1:Nat):Int),_,_,_,_,_,_,_,true=true]) (by kernel_rfl) ⟨rfl,rfl,c0,c1,c1,c1,c1,c1,c1,rfl,trivial⟩
theorem w36l_2_0 (s:List UInt8) (hp:HL)
    (c0:([[D.str (([46,116,101,120,116])),D.int .i64 1],[D.str (([46,114,111,100,97,116,97])),D.int .i64 3],[D.str (([46,98,115,115])),D.int .i64 4]]:List (List D))[2]? = some [D.str (([46,98,115,115])),D.int .i64 4])
    (c1:(s==(([46,98,115,115])))=false)
    (c2:¬((((([46,98,115,115])).length+([46]).length:Nat):Int) > IntKind.i64.max))
    (c3:Rn pg 30 [V.d (D.str s),V.d (D.str ((([46,98,115,115]))++([46])))] ([]) (V.d (D.bool (hasPre s ((([46,98,115,115]))++([46]))))) ([]))
    (c4:(hasPre s ((([46,98,115,115]))++([46])))=false) :
    Ev pg i36_l0 ⟨[(0,V.d (D.str s)),(8,V.d (D.sl true [[D.str (([46,116,101,120,116])),D.int .i64 1],[D.str (([46,114,111,100,97,116,97])),D.int .i64 3],[D.str (([46,98,115,115])),D.int .i64 4]])),(9,V.d (D.int .i64 3)),(10,V.d (D.int .i64 2))],[]::hp⟩ .normal ⟨[(0,V.d (D.str s)),(8,V.d (D.sl true [[D.str (([46,116,101,120,116])),D.int .i64 1],[D.str (([46,114,111,100,97,116,97])),D.int .i64 3],[D.str (([46,98,115,115])),D.int .i64 4]])),(9,V.d (D.int .i64 3)),(10,V.d (D.int .i64 3))],[]::hp⟩:=
  codeC_ok (hs:=[.b true, .n 2, .ds [D.str (([46,98,115,115])),D.int .i64 4], .b false, .b false, .b false, .b false, .b false, .call (V.d (D.bool (hasPre s ((([46,98,115,115]))++([46]))))) ([]), .b false, .b false]) (hs':=[]) (cs:=[true=true,2=((2:Nat):Int),_,_,_,_,_,_,_,_,_,_]) (by kernel_rfl) ⟨rfl,rfl,c0,c1,c1,c1,c1,c2,c1,c3,c1,c4,trivial⟩
theorem w36l_2_1 (s:List UInt8) (hp:HL)
    (c0:([[D.str (([46,116,101,120,116])),D.int .i64 1],[D.str (([46,114,111,100,97,116,97])),D.int .i64 3],[D.str (([46,98,115,115])),D.int .i64 4]]:List (List D))[2]? = some [D.str (([46,98,115,115])),D.int .i64 4])
    (c1:(s==(([46,98,115,115])))=false)
    (c2:¬((((([46,98,115,115])).length+([46]).length:Nat):Int) > IntKind.i64.max))
    (c3:Rn pg 30 [V.d (D.str s),V.d (D.str ((([46,98,115,115]))++([46])))] ([]) (V.d (D.bool (hasPre s ((([46,98,115,115]))++([46]))))) ([]))
    (c4:(hasPre s ((([46,98,115,115]))++([46])))=true) :
    Ev pg i36_l0 ⟨[(0,V.d (D.str s)),(8,V.d (D.sl true [[D.str (([46,116,101,120,116])),D.int .i64 1],[D.str (([46,114,111,100,97,116,97])),D.int .i64 3],[D.str (([46,98,115,115])),D.int .i64 4]])),(9,V.d (D.int .i64 3)),(10,V.d (D.int .i64 2))],[]::hp⟩ .ret ⟨[(2,V.d (D.int .i64 4))],[]::hp⟩:=
  codeC_ok (hs:=[.b true, .n 2, .ds [D.str (([46,98,115,115])),D.int .i64 4], .b false, .b false, .b false, .b false, .b false, .call (V.d (D.bool (hasPre s ((([46,98,115,115]))++([46]))))) ([]), .b false, .b true]) (hs':=[]) (cs:=[true=true,2=((2:Nat):Int),_,_,_,_,_,_,_,_,_,_]) (by kernel_rfl) ⟨rfl,rfl,c0,c1,c1,c1,c1,c2,c1,c3,c1,c4,trivial⟩
theorem w36l_2_2 (s:List UInt8) (hp:HL)
    (c0:([[D.str (([46,116,101,120,116])),D.int .i64 1],[D.str (([46,114,111,100,97,116,97])),D.int .i64 3],[D.str (([46,98,115,115])),D.int .i64 4]]:List (List D))[2]? = some [D.str (([46,98,115,115])),D.int .i64 4])
    (c1:(s==(([46,98,115,115])))=true) :
    Ev pg i36_l0 ⟨[(0,V.d (D.str s)),(8,V.d (D.sl true [[D.str (([46,116,101,120,116])),D.int .i64 1],[D.str (([46,114,111,100,97,116,97])),D.int .i64 3],[D.str (([46,98,115,115])),D.int .i64 4]])),(9,V.d (D.int .i64 3)),(10,V.d (D.int .i64 2))],[]::hp⟩ .ret ⟨[(2,V.d (D.int .i64 4))],[]::hp⟩:=
  codeC_ok (hs:=[.b true, .n 2, .ds [D.str (([46,98,115,115])),D.int .i64 4], .b true, .b true, .b true, .b true, .b true, .b true, .b true]) (hs':=[]) (cs:=[true=true,2=((2:Nat):Int),_,_,_,_,_,_,_,true=true]) (by kernel_rfl) ⟨rfl,rfl,c0,c1,c1,c1,c1,c1,c1,rfl,trivial⟩
theorem w36l_3_0 (s:List UInt8) (hp:HL)
     :
    Ev pg i36_l0 ⟨[(0,V.d (D.str s)),(8,V.d (D.sl true [[D.str (([46,116,101,120,116])),D.int .i64 1],[D.str (([46,114,111,100,97,116,97])),D.int .i64 3],[D.str (([46,98,115,115])),D.int .i64 4]])),(9,V.d (D.int .i64 3)),(10,V.d (D.int .i64 3))],[]::hp⟩ (.exit 0) ⟨[(0,V.d (D.str s)),(8,V.d (D.sl true [[D.str (([46,116,101,120,116])),D.int .i64 1],[D.str (([46,114,111,100,97,116,97])),D.int .i64 3],[D.str (([46,98,115,115])),D.int .i64 4]])),(9,V.d (D.int .i64 3)),(10,V.d (D.int .i64 3)),(11,V.d (D.bool false))],[]::hp⟩:=
  codeC_ok (hs:=[.b false]) (hs':=[]) (cs:=[false=false]) (by kernel_rfl) ⟨rfl,trivial⟩
theorem w36_0 (s:List UInt8) (hp:HL)
 (c0:Lp pg i36_l0 ⟨[(0,V.d (D.str s)),(8,V.d (D.sl true [[D.str ([46,116,101,120,116]),D.int .i64 1],[D.str ([46,114,111,100,97,116,97]),D.int .i64 3],[D.str ([46,98,115,115]),D.int .i64 4]])),(9,V.d (D.int .i64 3)),(10,V.d (D.int .i64 0))],[]::hp⟩ (.exit 0) ⟨[(0,V.d (D.str s)),(8,V.d (D.sl true [[D.str (([46,116,101,120,116])),D.int .i64 1],[D.str (([46,114,111,100,97,116,97])),D.int .i64 3],[D.str (([46,98,115,115])),D.int .i64 4]])),(9,V.d (D.int .i64 3)),(10,V.d (D.int .i64 3)),(11,V.d (D.bool false))],[]::hp⟩) :
 Rn pg 36 [V.d (D.str s)] (hp) (V.d (D.int .i64 2)) (hp):=
 Rn.c (fn:=i36) (ex:=.ret) (st:=⟨[(2,V.d (D.int .i64 2))],[]::hp⟩) (hs:=[.lp (.exit 0) ⟨[(0,V.d (D.str s)),(8,V.d (D.sl true [[D.str (([46,116,101,120,116])),D.int .i64 1],[D.str (([46,114,111,100,97,116,97])),D.int .i64 3],[D.str (([46,98,115,115])),D.int .i64 4]])),(9,V.d (D.int .i64 3)),(10,V.d (D.int .i64 3)),(11,V.d (D.bool false))],[]::hp⟩]) (cs:=[_]) (rs:=[V.d (D.int .i64 2)]) (t:=[])
 (by kernel_rfl) (by kernel_rfl) (by kernel_rfl) (by kernel_rfl) (by kernel_rfl) (by kernel_rfl) ⟨c0,trivial⟩
theorem w36_1 (s:List UInt8) (hp:HL) (k1:Int)
 (c0:Lp pg i36_l0 ⟨[(0,V.d (D.str s)),(8,V.d (D.sl true [[D.str ([46,116,101,120,116]),D.int .i64 1],[D.str ([46,114,111,100,97,116,97]),D.int .i64 3],[D.str ([46,98,115,115]),D.int .i64 4]])),(9,V.d (D.int .i64 3)),(10,V.d (D.int .i64 0))],[]::hp⟩ .ret ⟨[(2,V.d (D.int .i64 k1))],[]::hp⟩) :
 Rn pg 36 [V.d (D.str s)] (hp) (V.d (D.int .i64 k1)) (hp):=
 Rn.c (fn:=i36) (ex:=.ret) (st:=⟨[(2,V.d (D.int .i64 k1))],[]::hp⟩) (hs:=[.lp .ret ⟨[(2,V.d (D.int .i64 k1))],[]::hp⟩]) (cs:=[_]) (rs:=[V.d (D.int .i64 k1)]) (t:=[])
 (by kernel_rfl) (by kernel_rfl) (by kernel_rfl) (by kernel_rfl) (by kernel_rfl) (by kernel_rfl) ⟨c0,trivial⟩
end Go.Proofs.YtgmphfmoonbfpaaMv

namespace Go.Proofs.YtgmphfmoonbfpaaMv
open Go
theorem begins_ff {s q:List UInt8} (h:begins s q=false):(s==q)=false∧hasPre s (q++[46])=false:=by
  simpa [begins] using h
theorem i64big {k:Nat} (h:k<100):¬((k:Nat):Int) > IntKind.i64.max:=by simp [IntKind.max,IntKind.signed,IntKind.bits];omega
theorem f36 (s:List UInt8) (hp:HL):Rn pg 36 [.d (.str s)] hp (.d (.int .i64 (kindOf s))) hp:=by
  cases h1:begins s [46,116,101,120,116] with
  | true=>
    have e:kindOf s=1:=by simp [kindOf,h1]
    rw [e]
    refine w36_1 s hp 1 ?_
    cases h:s==[46,116,101,120,116] with
    | true=>exact Lp.ret (w36l_0_2 s hp rfl h)
    | false=>exact Lp.ret (w36l_0_1 s hp rfl h (i64big (k:=6) (by omega)) (f30 _ _ _) (by simpa [begins,h] using h1))
  | false=>
    have a1:=begins_ff h1
    have r1:=w36l_0_0 s hp rfl a1.1 (i64big (k:=6) (by omega)) (f30 _ _ _) a1.2
    cases h2:begins s [46,114,111,100,97,116,97] with
    | true=>
      have e:kindOf s=3:=by simp [kindOf,h1,h2]
      rw [e]
      refine w36_1 s hp 3 (Lp.next r1 ?_)
      cases h:s==[46,114,111,100,97,116,97] with
      | true=>exact Lp.ret (w36l_1_2 s hp rfl h)
      | false=>exact Lp.ret (w36l_1_1 s hp rfl h (i64big (k:=8) (by omega)) (f30 _ _ _) (by simpa [begins,h] using h2))
    | false=>
      have a2:=begins_ff h2
      have r2:=w36l_1_0 s hp rfl a2.1 (i64big (k:=8) (by omega)) (f30 _ _ _) a2.2
      cases h3:begins s [46,98,115,115] with
      | true=>
        have e:kindOf s=4:=by simp [kindOf,h1,h2,h3]
        rw [e]
        refine w36_1 s hp 4 (Lp.next r1 (Lp.next r2 ?_))
        cases h:s==[46,98,115,115] with
        | true=>exact Lp.ret (w36l_2_2 s hp rfl h)
        | false=>exact Lp.ret (w36l_2_1 s hp rfl h (i64big (k:=5) (by omega)) (f30 _ _ _) (by simpa [begins,h] using h3))
      | false=>
        have a3:=begins_ff h3
        have r3:=w36l_2_0 s hp rfl a3.1 (i64big (k:=5) (by omega)) (f30 _ _ _) a3.2
        have e:kindOf s=2:=by simp [kindOf,h1,h2,h3]
        rw [e]
        exact w36_0 s hp (Lp.next r1 (Lp.next r2 (Lp.next r3 (Lp.exit (w36l_3_0 s hp)))))
end Go.Proofs.YtgmphfmoonbfpaaMv

set_option maxRecDepth 100000
namespace Go.Proofs.YtgmphfmoonbfpaaMv
open Go
theorem w68a_0 (x:TSec) (z:Int) (e:Int) (i:Nat) (w:Int) (hp:HL)
    (c0:(decide (((i:Nat):Int)<((x.relocs.l.length:Nat):Int)))=false) :
    Ev pg i68_l0 ⟨[(1,V.d (D.int .i64 z)),(2,V.ptr 0 2 [] 0 0),(5,V.d (D.int .i64 e)),(14,V.d (D.sl x.relocs.nn (x.relocs.l.map TRlc.c))),(15,V.d (D.int .i64 ((x.relocs.l.length:Nat):Int))),(16,V.d (D.int .i64 ((i:Nat):Int)))],[(2,Ob.row true 6 true [[C.d (D.str x.name),C.d (D.int .i64 x.kind),C.d (D.int .i64 x.align),C.d (D.int .i64 x.size),C.d (D.sl x.data.nn (x.data.l.map u8c)),C.d (D.sl x.relocs.nn (x.relocs.l.map TRlc.c))]])]::hp⟩ (.exit 0) ⟨[(1,V.d (D.int .i64 z)),(2,V.ptr 0 2 [] 0 0),(5,V.d (D.int .i64 e)),(14,V.d (D.sl x.relocs.nn (x.relocs.l.map TRlc.c))),(15,V.d (D.int .i64 ((x.relocs.l.length:Nat):Int))),(16,V.d (D.int .i64 ((i:Nat):Int))),(17,V.d (D.bool false))],[(2,Ob.row true 6 true [[C.d (D.str x.name),C.d (D.int .i64 x.kind),C.d (D.int .i64 x.align),C.d (D.int .i64 x.size),C.d (D.sl x.data.nn (x.data.l.map u8c)),C.d (D.sl x.relocs.nn (x.relocs.l.map TRlc.c))]])]::hp⟩:=
  by
  have r:Ev pg i68_l0 ⟨[(1,V.d (D.int .i64 z)),(2,V.ptr 0 2 [] 0 0),(5,V.d (D.int .i64 e)),(14,V.d (D.sl x.relocs.nn (x.relocs.l.map TRlc.c))),(15,V.d (D.int .i64 ((x.relocs.l.length:Nat):Int))),(16,V.d (D.int .i64 ((i:Nat):Int)))],[(2,Ob.row true 6 true [[C.d (D.str x.name),C.d (D.int .i64 x.kind),C.d (D.int .i64 x.align),C.d (D.int .i64 x.size),C.d (D.sl x.data.nn (x.data.l.map u8c)),C.d (D.sl x.relocs.nn (x.relocs.l.map TRlc.c))]])]::hp⟩ (.exit 0) ⟨[(1,V.d (D.int .i64 z)),(2,V.ptr 0 2 [] 0 0),(5,V.d (D.int .i64 e)),(14,V.d (D.sl x.relocs.nn (x.relocs.l.map TRlc.c))),(15,V.d (D.int .i64 ((x.relocs.l.length:Nat):Int))),(16,V.d (D.int .i64 ((i:Nat):Int))),(17,V.d (D.bool (decide (((i:Nat):Int)<((x.relocs.l.length:Nat):Int)))))],[(2,Ob.row true 6 true [[C.d (D.str x.name),C.d (D.int .i64 x.kind),C.d (D.int .i64 x.align),C.d (D.int .i64 x.size),C.d (D.sl x.data.nn (x.data.l.map u8c)),C.d (D.sl x.relocs.nn (x.relocs.l.map TRlc.c))]])]::hp⟩:=
  codeC_ok (hs:=[.b false]) (hs':=[]) (cs:=[_]) (by kernel_rfl) ⟨c0,trivial⟩
  simp only [c0] at r
  exact r
theorem w68a_1 (x:TSec) (z:Int) (e:Int) (i:Nat) (w:Int) (hp:HL) (x1:TRlc)
    (c0:(decide (((i:Nat):Int)<((x.relocs.l.length:Nat):Int)))=true)
    (c1:(x.relocs.l.map TRlc.c)[i]? = some [D.int .i64 x1.off,D.int .i64 x1.typ,D.int .i64 x1.sym,D.int .i64 x1.addend])
    (c2:Rn pg 37 [V.d (D.int .i64 x1.typ)] ([]) (V.d (D.int .i64 w)) ([]))
    (c3:(w==0)=false)
    (c4:(decide (x1.off<e))=false)
    (c5:(decide (x1.off > (IntKind.i64.wrap (x.size - w))))=false)
    (c6:(decide (x1.sym<0))=false)
    (c7:(decide (x1.sym ≥ z))=false)
    (c8:(decide (((i:Nat):Int) > 0))=false)
    (c9:(decide (x1.typ ≥ 273))=false) :
    Ev pg i68_l0 ⟨[(1,V.d (D.int .i64 z)),(2,V.ptr 0 2 [] 0 0),(5,V.d (D.int .i64 e)),(14,V.d (D.sl x.relocs.nn (x.relocs.l.map TRlc.c))),(15,V.d (D.int .i64 ((x.relocs.l.length:Nat):Int))),(16,V.d (D.int .i64 ((i:Nat):Int)))],[(2,Ob.row true 6 true [[C.d (D.str x.name),C.d (D.int .i64 x.kind),C.d (D.int .i64 x.align),C.d (D.int .i64 x.size),C.d (D.sl x.data.nn (x.data.l.map u8c)),C.d (D.sl x.relocs.nn (x.relocs.l.map TRlc.c))]])]::hp⟩ .normal ⟨[(1,V.d (D.int .i64 z)),(2,V.ptr 0 2 [] 0 0),(5,V.d (D.int .i64 (IntKind.i64.wrap (x1.off+w)))),(14,V.d (D.sl x.relocs.nn (x.relocs.l.map TRlc.c))),(15,V.d (D.int .i64 ((x.relocs.l.length:Nat):Int))),(16,V.d (D.int .i64 (IntKind.i64.wrap (((i:Nat):Int)+1))))],[(2,Ob.row true 6 true [[C.d (D.str x.name),C.d (D.int .i64 x.kind),C.d (D.int .i64 x.align),C.d (D.int .i64 x.size),C.d (D.sl x.data.nn (x.data.l.map u8c)),C.d (D.sl x.relocs.nn (x.relocs.l.map TRlc.c))]])]::hp⟩:=
  codeC_ok (hs:=[.b true, .n i, .ds [D.int .i64 x1.off,D.int .i64 x1.typ,D.int .i64 x1.sym,D.int .i64 x1.addend], .call (V.d (D.int .i64 w)) ([]), .b false, .b false, .b false, .b false, .b false, .b false, .b false, .b false, .b false, .b false, .b false, .b false, .b false, .b false, .b false, .b false, .b false, .b false, .b false, .b false, .b false, .b false, .b false, .b false, .b false, .b false, .b false, .b false, .b false, .b false, .b false, .b false, .b false, .b false, .b false, .b false, .b false, .b false, .b false, .b false, .b false, .b false, .b false, .b false, .b false, .b false]) (hs':=[]) (cs:=[_,((i:Nat):Int)=((i:Nat):Int),_,_,_,_,_,_,_,_,_,_,_,_,_,_,_,_,_,_,_,_,_,_,_,_,_,_,_,_,_,_,_,_,_,_,_,_,false=false,false=false,false=false,false=false,_,_,_,_,false=false,_,false=false,false=false]) (by kernel_rfl) ⟨c0,rfl,c1,c2,c3,c3,c3,c3,c3,c4,c4,c4,c4,c4,c4,c4,c4,c5,c5,c5,c5,c6,c6,c6,c6,c6,c7,c8,c8,c8,c8,c8,c8,c8,c8,c8,c8,c8,rfl,rfl,rfl,rfl,c9,c9,c9,c9,rfl,c9,rfl,rfl,trivial⟩
theorem w68a_2 (x:TSec) (z:Int) (e:Int) (i:Nat) (w:Int) (hp:HL) (x1:TRlc)
    (c0:(decide (((i:Nat):Int)<((x.relocs.l.length:Nat):Int)))=true)
    (c1:(x.relocs.l.map TRlc.c)[i]? = some [D.int .i64 x1.off,D.int .i64 x1.typ,D.int .i64 x1.sym,D.int .i64 x1.addend])
    (c2:Rn pg 37 [V.d (D.int .i64 x1.typ)] ([]) (V.d (D.int .i64 w)) ([]))
    (c3:(w==0)=false)
    (c4:(decide (x1.off<e))=false)
    (c5:(decide (x1.off > (IntKind.i64.wrap (x.size - w))))=false)
    (c6:(decide (x1.sym<0))=false)
    (c7:(decide (x1.sym ≥ z))=false)
    (c8:(decide (((i:Nat):Int) > 0))=false)
    (c9:(decide (x1.typ ≥ 273))=true)
    (c10:(4:Int)≠0)
    (c11:((Int.tmod x1.off 4) != 0)=false) :
    Ev pg i68_l0 ⟨[(1,V.d (D.int .i64 z)),(2,V.ptr 0 2 [] 0 0),(5,V.d (D.int .i64 e)),(14,V.d (D.sl x.relocs.nn (x.relocs.l.map TRlc.c))),(15,V.d (D.int .i64 ((x.relocs.l.length:Nat):Int))),(16,V.d (D.int .i64 ((i:Nat):Int)))],[(2,Ob.row true 6 true [[C.d (D.str x.name),C.d (D.int .i64 x.kind),C.d (D.int .i64 x.align),C.d (D.int .i64 x.size),C.d (D.sl x.data.nn (x.data.l.map u8c)),C.d (D.sl x.relocs.nn (x.relocs.l.map TRlc.c))]])]::hp⟩ .normal ⟨[(1,V.d (D.int .i64 z)),(2,V.ptr 0 2 [] 0 0),(5,V.d (D.int .i64 (IntKind.i64.wrap (x1.off+w)))),(14,V.d (D.sl x.relocs.nn (x.relocs.l.map TRlc.c))),(15,V.d (D.int .i64 ((x.relocs.l.length:Nat):Int))),(16,V.d (D.int .i64 (IntKind.i64.wrap (((i:Nat):Int)+1))))],[(2,Ob.row true 6 true [[C.d (D.str x.name),C.d (D.int .i64 x.kind),C.d (D.int .i64 x.align),C.d (D.int .i64 x.size),C.d (D.sl x.data.nn (x.data.l.map u8c)),C.d (D.sl x.relocs.nn (x.relocs.l.map TRlc.c))]])]::hp⟩:=
  codeC_ok (hs:=[.b true, .n i, .ds [D.int .i64 x1.off,D.int .i64 x1.typ,D.int .i64 x1.sym,D.int .i64 x1.addend], .call (V.d (D.int .i64 w)) ([]), .b false, .b false, .b false, .b false, .b false, .b false, .b false, .b false, .b false, .b false, .b false, .b false, .b false, .b false, .b false, .b false, .b false, .b false, .b false, .b false, .b false, .b false, .b false, .b false, .b false, .b false, .b false, .b false, .b false, .b false, .b false, .b false, .b false, .b false, .b false, .b false, .b false, .b false, .b true, .b true, .b true, .b true, .b false, .b true, .b false, .b false]) (hs':=[]) (cs:=[_,((i:Nat):Int)=((i:Nat):Int),_,_,_,_,_,_,_,_,_,_,_,_,_,_,_,_,_,_,_,_,_,_,_,_,_,_,_,_,_,_,_,_,_,_,_,_,false=false,false=false,false=false,false=false,_,_,_,_,_,false=false,_,false=false,_]) (by kernel_rfl) ⟨c0,rfl,c1,c2,c3,c3,c3,c3,c3,c4,c4,c4,c4,c4,c4,c4,c4,c5,c5,c5,c5,c6,c6,c6,c6,c6,c7,c8,c8,c8,c8,c8,c8,c8,c8,c8,c8,c8,rfl,rfl,rfl,rfl,c9,c9,c9,c10,c9,rfl,c9,rfl,c11,trivial⟩
theorem w68a_3 (x:TSec) (z:Int) (e:Int) (i:Nat) (w:Int) (hp:HL) (x1:TRlc)
    (c0:(decide (((i:Nat):Int)<((x.relocs.l.length:Nat):Int)))=true)
    (c1:(x.relocs.l.map TRlc.c)[i]? = some [D.int .i64 x1.off,D.int .i64 x1.typ,D.int .i64 x1.sym,D.int .i64 x1.addend])
    (c2:Rn pg 37 [V.d (D.int .i64 x1.typ)] ([]) (V.d (D.int .i64 w)) ([]))
    (c3:(w==0)=false)
    (c4:(decide (x1.off<e))=false)
    (c5:(decide (x1.off > (IntKind.i64.wrap (x.size - w))))=false)
    (c6:(decide (x1.sym<0))=false)
    (c7:(decide (x1.sym ≥ z))=false)
    (c8:(decide (((i:Nat):Int) > 0))=false)
    (c9:(decide (x1.typ ≥ 273))=true)
    (c10:(4:Int)≠0)
    (c11:((Int.tmod x1.off 4) != 0)=true) :
    Ev pg i68_l0 ⟨[(1,V.d (D.int .i64 z)),(2,V.ptr 0 2 [] 0 0),(5,V.d (D.int .i64 e)),(14,V.d (D.sl x.relocs.nn (x.relocs.l.map TRlc.c))),(15,V.d (D.int .i64 ((x.relocs.l.length:Nat):Int))),(16,V.d (D.int .i64 ((i:Nat):Int)))],[(2,Ob.row true 6 true [[C.d (D.str x.name),C.d (D.int .i64 x.kind),C.d (D.int .i64 x.align),C.d (D.int .i64 x.size),C.d (D.sl x.data.nn (x.data.l.map u8c)),C.d (D.sl x.relocs.nn (x.relocs.l.map TRlc.c))]])]::hp⟩ .ret ⟨[(4,V.d (D.bool false))],[]::hp⟩:=
  codeC_ok (hs:=[.b true, .n i, .ds [D.int .i64 x1.off,D.int .i64 x1.typ,D.int .i64 x1.sym,D.int .i64 x1.addend], .call (V.d (D.int .i64 w)) ([]), .b false, .b false, .b false, .b false, .b false, .b false, .b false, .b false, .b false, .b false, .b false, .b false, .b false, .b false, .b false, .b false, .b false, .b false, .b false, .b false, .b false, .b false, .b false, .b false, .b false, .b false, .b false, .b false, .b false, .b false, .b false, .b false, .b false, .b false, .b false, .b false, .b false, .b false, .b true, .b true, .b true, .b true, .b false, .b true, .b false, .b true]) (hs':=[]) (cs:=[_,((i:Nat):Int)=((i:Nat):Int),_,_,_,_,_,_,_,_,_,_,_,_,_,_,_,_,_,_,_,_,_,_,_,_,_,_,_,_,_,_,_,_,_,_,_,_,false=false,false=false,false=false,false=false,_,_,_,_,_,false=false,_,false=false,_]) (by kernel_rfl) ⟨c0,rfl,c1,c2,c3,c3,c3,c3,c3,c4,c4,c4,c4,c4,c4,c4,c4,c5,c5,c5,c5,c6,c6,c6,c6,c6,c7,c8,c8,c8,c8,c8,c8,c8,c8,c8,c8,c8,rfl,rfl,rfl,rfl,c9,c9,c9,c10,c9,rfl,c9,rfl,c11,trivial⟩
theorem w68a_4 (x:TSec) (z:Int) (e:Int) (i:Nat) (w:Int) (hp:HL) (x1:TRlc) (k2:Nat) (x3:TRlc)
    (c0:(decide (((i:Nat):Int)<((x.relocs.l.length:Nat):Int)))=true)
    (c1:(x.relocs.l.map TRlc.c)[i]? = some [D.int .i64 x1.off,D.int .i64 x1.typ,D.int .i64 x1.sym,D.int .i64 x1.addend])
    (c2:Rn pg 37 [V.d (D.int .i64 x1.typ)] ([]) (V.d (D.int .i64 w)) ([]))
    (c3:(w==0)=false)
    (c4:(decide (x1.off<e))=false)
    (c5:(decide (x1.off > (IntKind.i64.wrap (x.size - w))))=false)
    (c6:(decide (x1.sym<0))=false)
    (c7:(decide (x1.sym ≥ z))=false)
    (c8:(decide (((i:Nat):Int) > 0))=true)
    (c9:(IntKind.i64.wrap (((i:Nat):Int) - 1))=((k2:Nat):Int))
    (c10:(x.relocs.l.map TRlc.c)[k2]? = some [D.int .i64 x3.off,D.int .i64 x3.typ,D.int .i64 x3.sym,D.int .i64 x3.addend])
    (c11:(decide (x1.off≤x3.off))=false)
    (c12:(decide (x1.typ ≥ 273))=false) :
    Ev pg i68_l0 ⟨[(1,V.d (D.int .i64 z)),(2,V.ptr 0 2 [] 0 0),(5,V.d (D.int .i64 e)),(14,V.d (D.sl x.relocs.nn (x.relocs.l.map TRlc.c))),(15,V.d (D.int .i64 ((x.relocs.l.length:Nat):Int))),(16,V.d (D.int .i64 ((i:Nat):Int)))],[(2,Ob.row true 6 true [[C.d (D.str x.name),C.d (D.int .i64 x.kind),C.d (D.int .i64 x.align),C.d (D.int .i64 x.size),C.d (D.sl x.data.nn (x.data.l.map u8c)),C.d (D.sl x.relocs.nn (x.relocs.l.map TRlc.c))]])]::hp⟩ .normal ⟨[(1,V.d (D.int .i64 z)),(2,V.ptr 0 2 [] 0 0),(5,V.d (D.int .i64 (IntKind.i64.wrap (x1.off+w)))),(14,V.d (D.sl x.relocs.nn (x.relocs.l.map TRlc.c))),(15,V.d (D.int .i64 ((x.relocs.l.length:Nat):Int))),(16,V.d (D.int .i64 (IntKind.i64.wrap (((i:Nat):Int)+1))))],[(2,Ob.row true 6 true [[C.d (D.str x.name),C.d (D.int .i64 x.kind),C.d (D.int .i64 x.align),C.d (D.int .i64 x.size),C.d (D.sl x.data.nn (x.data.l.map u8c)),C.d (D.sl x.relocs.nn (x.relocs.l.map TRlc.c))]])]::hp⟩:=
  codeC_ok (hs:=[.b true, .n i, .ds [D.int .i64 x1.off,D.int .i64 x1.typ,D.int .i64 x1.sym,D.int .i64 x1.addend], .call (V.d (D.int .i64 w)) ([]), .b false, .b false, .b false, .b false, .b false, .b false, .b false, .b false, .b false, .b false, .b false, .b false, .b false, .b false, .b false, .b false, .b false, .b false, .b false, .b false, .b false, .b false, .b false, .b true, .b true, .b true, .b true, .b true, .b true, .b true, .n k2, .ds [D.int .i64 x3.off,D.int .i64 x3.typ,D.int .i64 x3.sym,D.int .i64 x3.addend], .b true, .b true, .b true, .b true, .b false, .b false, .b false, .b false, .b false, .b false, .b false, .b false, .b false, .b false, .b false, .b false]) (hs':=[]) (cs:=[_,((i:Nat):Int)=((i:Nat):Int),_,_,_,_,_,_,_,_,_,_,_,_,_,_,_,_,_,_,_,_,_,_,_,_,_,_,_,_,_,_,_,_,_,_,_,_,_,_,_,_,_,_,_,_,_,_,_,_,_,false=false]) (by kernel_rfl) ⟨c0,rfl,c1,c2,c3,c3,c3,c3,c3,c4,c4,c4,c4,c4,c4,c4,c4,c5,c5,c5,c5,c6,c6,c6,c6,c6,c7,c8,c8,c8,c8,c8,c8,c8,c9,c10,c8,c8,c8,c8,c11,c11,c11,c11,c12,c12,c12,c12,c11,c12,c11,rfl,trivial⟩
theorem w68a_5 (x:TSec) (z:Int) (e:Int) (i:Nat) (w:Int) (hp:HL) (x1:TRlc) (k2:Nat) (x3:TRlc)
    (c0:(decide (((i:Nat):Int)<((x.relocs.l.length:Nat):Int)))=true)
    (c1:(x.relocs.l.map TRlc.c)[i]? = some [D.int .i64 x1.off,D.int .i64 x1.typ,D.int .i64 x1.sym,D.int .i64 x1.addend])
    (c2:Rn pg 37 [V.d (D.int .i64 x1.typ)] ([]) (V.d (D.int .i64 w)) ([]))
    (c3:(w==0)=false)
    (c4:(decide (x1.off<e))=false)
    (c5:(decide (x1.off > (IntKind.i64.wrap (x.size - w))))=false)
    (c6:(decide (x1.sym<0))=false)
    (c7:(decide (x1.sym ≥ z))=false)
    (c8:(decide (((i:Nat):Int) > 0))=true)
    (c9:(IntKind.i64.wrap (((i:Nat):Int) - 1))=((k2:Nat):Int))
    (c10:(x.relocs.l.map TRlc.c)[k2]? = some [D.int .i64 x3.off,D.int .i64 x3.typ,D.int .i64 x3.sym,D.int .i64 x3.addend])
    (c11:(decide (x1.off≤x3.off))=false)
    (c12:(decide (x1.typ ≥ 273))=true)
    (c13:(4:Int)≠0)
    (c14:((Int.tmod x1.off 4) != 0)=false) :
    Ev pg i68_l0 ⟨[(1,V.d (D.int .i64 z)),(2,V.ptr 0 2 [] 0 0),(5,V.d (D.int .i64 e)),(14,V.d (D.sl x.relocs.nn (x.relocs.l.map TRlc.c))),(15,V.d (D.int .i64 ((x.relocs.l.length:Nat):Int))),(16,V.d (D.int .i64 ((i:Nat):Int)))],[(2,Ob.row true 6 true [[C.d (D.str x.name),C.d (D.int .i64 x.kind),C.d (D.int .i64 x.align),C.d (D.int .i64 x.size),C.d (D.sl x.data.nn (x.data.l.map u8c)),C.d (D.sl x.relocs.nn (x.relocs.l.map TRlc.c))]])]::hp⟩ .normal ⟨[(1,V.d (D.int .i64 z)),(2,V.ptr 0 2 [] 0 0),(5,V.d (D.int .i64 (IntKind.i64.wrap (x1.off+w)))),(14,V.d (D.sl x.relocs.nn (x.relocs.l.map TRlc.c))),(15,V.d (D.int .i64 ((x.relocs.l.length:Nat):Int))),(16,V.d (D.int .i64 (IntKind.i64.wrap (((i:Nat):Int)+1))))],[(2,Ob.row true 6 true [[C.d (D.str x.name),C.d (D.int .i64 x.kind),C.d (D.int .i64 x.align),C.d (D.int .i64 x.size),C.d (D.sl x.data.nn (x.data.l.map u8c)),C.d (D.sl x.relocs.nn (x.relocs.l.map TRlc.c))]])]::hp⟩:=
  codeC_ok (hs:=[.b true, .n i, .ds [D.int .i64 x1.off,D.int .i64 x1.typ,D.int .i64 x1.sym,D.int .i64 x1.addend], .call (V.d (D.int .i64 w)) ([]), .b false, .b false, .b false, .b false, .b false, .b false, .b false, .b false, .b false, .b false, .b false, .b false, .b false, .b false, .b false, .b false, .b false, .b false, .b false, .b false, .b false, .b false, .b false, .b true, .b true, .b true, .b true, .b true, .b true, .b true, .n k2, .ds [D.int .i64 x3.off,D.int .i64 x3.typ,D.int .i64 x3.sym,D.int .i64 x3.addend], .b true, .b true, .b true, .b true, .b false, .b false, .b false, .b false, .b true, .b true, .b true, .b true, .b false, .b true, .b false, .b false]) (hs':=[]) (cs:=[_,((i:Nat):Int)=((i:Nat):Int),_,_,_,_,_,_,_,_,_,_,_,_,_,_,_,_,_,_,_,_,_,_,_,_,_,_,_,_,_,_,_,_,_,_,_,_,_,_,_,_,_,_,_,_,_,_,_,_,_,_,_]) (by kernel_rfl) ⟨c0,rfl,c1,c2,c3,c3,c3,c3,c3,c4,c4,c4,c4,c4,c4,c4,c4,c5,c5,c5,c5,c6,c6,c6,c6,c6,c7,c8,c8,c8,c8,c8,c8,c8,c9,c10,c8,c8,c8,c8,c11,c11,c11,c11,c12,c12,c12,c13,c12,c11,c12,c11,c14,trivial⟩
theorem w68a_6 (x:TSec) (z:Int) (e:Int) (i:Nat) (w:Int) (hp:HL) (x1:TRlc) (k2:Nat) (x3:TRlc)
    (c0:(decide (((i:Nat):Int)<((x.relocs.l.length:Nat):Int)))=true)
    (c1:(x.relocs.l.map TRlc.c)[i]? = some [D.int .i64 x1.off,D.int .i64 x1.typ,D.int .i64 x1.sym,D.int .i64 x1.addend])
    (c2:Rn pg 37 [V.d (D.int .i64 x1.typ)] ([]) (V.d (D.int .i64 w)) ([]))
    (c3:(w==0)=false)
    (c4:(decide (x1.off<e))=false)
    (c5:(decide (x1.off > (IntKind.i64.wrap (x.size - w))))=false)
    (c6:(decide (x1.sym<0))=false)
    (c7:(decide (x1.sym ≥ z))=false)
    (c8:(decide (((i:Nat):Int) > 0))=true)
    (c9:(IntKind.i64.wrap (((i:Nat):Int) - 1))=((k2:Nat):Int))
    (c10:(x.relocs.l.map TRlc.c)[k2]? = some [D.int .i64 x3.off,D.int .i64 x3.typ,D.int .i64 x3.sym,D.int .i64 x3.addend])
    (c11:(decide (x1.off≤x3.off))=false)
    (c12:(decide (x1.typ ≥ 273))=true)
    (c13:(4:Int)≠0)
    (c14:((Int.tmod x1.off 4) != 0)=true) :
    Ev pg i68_l0 ⟨[(1,V.d (D.int .i64 z)),(2,V.ptr 0 2 [] 0 0),(5,V.d (D.int .i64 e)),(14,V.d (D.sl x.relocs.nn (x.relocs.l.map TRlc.c))),(15,V.d (D.int .i64 ((x.relocs.l.length:Nat):Int))),(16,V.d (D.int .i64 ((i:Nat):Int)))],[(2,Ob.row true 6 true [[C.d (D.str x.name),C.d (D.int .i64 x.kind),C.d (D.int .i64 x.align),C.d (D.int .i64 x.size),C.d (D.sl x.data.nn (x.data.l.map u8c)),C.d (D.sl x.relocs.nn (x.relocs.l.map TRlc.c))]])]::hp⟩ .ret ⟨[(4,V.d (D.bool false))],[]::hp⟩:=
  codeC_ok (hs:=[.b true, .n i, .ds [D.int .i64 x1.off,D.int .i64 x1.typ,D.int .i64 x1.sym,D.int .i64 x1.addend], .call (V.d (D.int .i64 w)) ([]), .b false, .b false, .b false, .b false, .b false, .b false, .b false, .b false, .b false, .b false, .b false, .b false, .b false, .b false, .b false, .b false, .b false, .b false, .b false, .b false, .b false, .b false, .b false, .b true, .b true, .b true, .b true, .b true, .b true, .b true, .n k2, .ds [D.int .i64 x3.off,D.int .i64 x3.typ,D.int .i64 x3.sym,D.int .i64 x3.addend], .b true, .b true, .b true, .b true, .b false, .b false, .b false, .b false, .b true, .b true, .b true, .b true, .b false, .b true, .b false, .b true]) (hs':=[]) (cs:=[_,((i:Nat):Int)=((i:Nat):Int),_,_,_,_,_,_,_,_,_,_,_,_,_,_,_,_,_,_,_,_,_,_,_,_,_,_,_,_,_,_,_,_,_,_,_,_,_,_,_,_,_,_,_,_,_,_,_,_,_,_,_]) (by kernel_rfl) ⟨c0,rfl,c1,c2,c3,c3,c3,c3,c3,c4,c4,c4,c4,c4,c4,c4,c4,c5,c5,c5,c5,c6,c6,c6,c6,c6,c7,c8,c8,c8,c8,c8,c8,c8,c9,c10,c8,c8,c8,c8,c11,c11,c11,c11,c12,c12,c12,c13,c12,c11,c12,c11,c14,trivial⟩
theorem w68a_7 (x:TSec) (z:Int) (e:Int) (i:Nat) (w:Int) (hp:HL) (x1:TRlc) (k2:Nat) (x3:TRlc)
    (c0:(decide (((i:Nat):Int)<((x.relocs.l.length:Nat):Int)))=true)
    (c1:(x.relocs.l.map TRlc.c)[i]? = some [D.int .i64 x1.off,D.int .i64 x1.typ,D.int .i64 x1.sym,D.int .i64 x1.addend])
    (c2:Rn pg 37 [V.d (D.int .i64 x1.typ)] ([]) (V.d (D.int .i64 w)) ([]))
    (c3:(w==0)=false)
    (c4:(decide (x1.off<e))=false)
    (c5:(decide (x1.off > (IntKind.i64.wrap (x.size - w))))=false)
    (c6:(decide (x1.sym<0))=false)
    (c7:(decide (x1.sym ≥ z))=false)
    (c8:(decide (((i:Nat):Int) > 0))=true)
    (c9:(IntKind.i64.wrap (((i:Nat):Int) - 1))=((k2:Nat):Int))
    (c10:(x.relocs.l.map TRlc.c)[k2]? = some [D.int .i64 x3.off,D.int .i64 x3.typ,D.int .i64 x3.sym,D.int .i64 x3.addend])
    (c11:(decide (x1.off≤x3.off))=true) :
    Ev pg i68_l0 ⟨[(1,V.d (D.int .i64 z)),(2,V.ptr 0 2 [] 0 0),(5,V.d (D.int .i64 e)),(14,V.d (D.sl x.relocs.nn (x.relocs.l.map TRlc.c))),(15,V.d (D.int .i64 ((x.relocs.l.length:Nat):Int))),(16,V.d (D.int .i64 ((i:Nat):Int)))],[(2,Ob.row true 6 true [[C.d (D.str x.name),C.d (D.int .i64 x.kind),C.d (D.int .i64 x.align),C.d (D.int .i64 x.size),C.d (D.sl x.data.nn (x.data.l.map u8c)),C.d (D.sl x.relocs.nn (x.relocs.l.map TRlc.c))]])]::hp⟩ .ret ⟨[(4,V.d (D.bool false))],[]::hp⟩:=
  codeC_ok (hs:=[.b true, .n i, .ds [D.int .i64 x1.off,D.int .i64 x1.typ,D.int .i64 x1.sym,D.int .i64 x1.addend], .call (V.d (D.int .i64 w)) ([]), .b false, .b false, .b false, .b false, .b false, .b false, .b false, .b false, .b false, .b false, .b false, .b false, .b false, .b false, .b false, .b false, .b false, .b false, .b false, .b false, .b false, .b false, .b false, .b true, .b true, .b true, .b true, .b true, .b true, .b true, .n k2, .ds [D.int .i64 x3.off,D.int .i64 x3.typ,D.int .i64 x3.sym,D.int .i64 x3.addend], .b true, .b true, .b true, .b true, .b true, .b true, .b true, .b true, .b true, .b true, .b true]) (hs':=[]) (cs:=[_,((i:Nat):Int)=((i:Nat):Int),_,_,_,_,_,_,_,_,_,_,_,_,_,_,_,_,_,_,_,_,_,_,_,_,_,_,_,_,_,_,_,_,_,_,_,_,_,_,_,_,_,_,_,_,true=true]) (by kernel_rfl) ⟨c0,rfl,c1,c2,c3,c3,c3,c3,c3,c4,c4,c4,c4,c4,c4,c4,c4,c5,c5,c5,c5,c6,c6,c6,c6,c6,c7,c8,c8,c8,c8,c8,c8,c8,c9,c10,c8,c8,c8,c8,c11,c11,c11,c11,c11,c11,rfl,trivial⟩
theorem w68a_8 (x:TSec) (z:Int) (e:Int) (i:Nat) (w:Int) (hp:HL) (x1:TRlc)
    (c0:(decide (((i:Nat):Int)<((x.relocs.l.length:Nat):Int)))=true)
    (c1:(x.relocs.l.map TRlc.c)[i]? = some [D.int .i64 x1.off,D.int .i64 x1.typ,D.int .i64 x1.sym,D.int .i64 x1.addend])
    (c2:Rn pg 37 [V.d (D.int .i64 x1.typ)] ([]) (V.d (D.int .i64 w)) ([]))
    (c3:(w==0)=false)
    (c4:(decide (x1.off<e))=false)
    (c5:(decide (x1.off > (IntKind.i64.wrap (x.size - w))))=false)
    (c6:(decide (x1.sym<0))=false)
    (c7:(decide (x1.sym ≥ z))=true) :
    Ev pg i68_l0 ⟨[(1,V.d (D.int .i64 z)),(2,V.ptr 0 2 [] 0 0),(5,V.d (D.int .i64 e)),(14,V.d (D.sl x.relocs.nn (x.relocs.l.map TRlc.c))),(15,V.d (D.int .i64 ((x.relocs.l.length:Nat):Int))),(16,V.d (D.int .i64 ((i:Nat):Int)))],[(2,Ob.row true 6 true [[C.d (D.str x.name),C.d (D.int .i64 x.kind),C.d (D.int .i64 x.align),C.d (D.int .i64 x.size),C.d (D.sl x.data.nn (x.data.l.map u8c)),C.d (D.sl x.relocs.nn (x.relocs.l.map TRlc.c))]])]::hp⟩ .ret ⟨[(4,V.d (D.bool false))],[]::hp⟩:=
  codeC_ok (hs:=[.b true, .n i, .ds [D.int .i64 x1.off,D.int .i64 x1.typ,D.int .i64 x1.sym,D.int .i64 x1.addend], .call (V.d (D.int .i64 w)) ([]), .b false, .b false, .b false, .b false, .b false, .b false, .b false, .b false, .b false, .b false, .b false, .b false, .b false, .b false, .b false, .b false, .b false, .b false, .b false, .b false, .b false, .b false, .b true]) (hs':=[]) (cs:=[_,((i:Nat):Int)=((i:Nat):Int),_,_,_,_,_,_,_,_,_,_,_,_,_,_,_,_,_,_,_,_,_,_,_,_,_]) (by kernel_rfl) ⟨c0,rfl,c1,c2,c3,c3,c3,c3,c3,c4,c4,c4,c4,c4,c4,c4,c4,c5,c5,c5,c5,c6,c6,c6,c6,c6,c7,trivial⟩
theorem w68a_9 (x:TSec) (z:Int) (e:Int) (i:Nat) (w:Int) (hp:HL) (x1:TRlc)
    (c0:(decide (((i:Nat):Int)<((x.relocs.l.length:Nat):Int)))=true)
    (c1:(x.relocs.l.map TRlc.c)[i]? = some [D.int .i64 x1.off,D.int .i64 x1.typ,D.int .i64 x1.sym,D.int .i64 x1.addend])
    (c2:Rn pg 37 [V.d (D.int .i64 x1.typ)] ([]) (V.d (D.int .i64 w)) ([]))
    (c3:(w==0)=false)
    (c4:(decide (x1.off<e))=false)
    (c5:(decide (x1.off > (IntKind.i64.wrap (x.size - w))))=false)
    (c6:(decide (x1.sym<0))=true) :
    Ev pg i68_l0 ⟨[(1,V.d (D.int .i64 z)),(2,V.ptr 0 2 [] 0 0),(5,V.d (D.int .i64 e)),(14,V.d (D.sl x.relocs.nn (x.relocs.l.map TRlc.c))),(15,V.d (D.int .i64 ((x.relocs.l.length:Nat):Int))),(16,V.d (D.int .i64 ((i:Nat):Int)))],[(2,Ob.row true 6 true [[C.d (D.str x.name),C.d (D.int .i64 x.kind),C.d (D.int .i64 x.align),C.d (D.int .i64 x.size),C.d (D.sl x.data.nn (x.data.l.map u8c)),C.d (D.sl x.relocs.nn (x.relocs.l.map TRlc.c))]])]::hp⟩ .ret ⟨[(4,V.d (D.bool false))],[]::hp⟩:=
  codeC_ok (hs:=[.b true, .n i, .ds [D.int .i64 x1.off,D.int .i64 x1.typ,D.int .i64 x1.sym,D.int .i64 x1.addend], .call (V.d (D.int .i64 w)) ([]), .b false, .b false, .b false, .b false, .b false, .b false, .b false, .b false, .b false, .b false, .b false, .b false, .b false, .b false, .b false, .b false, .b false, .b true, .b true, .b true, .b true, .b true, .b true]) (hs':=[]) (cs:=[_,((i:Nat):Int)=((i:Nat):Int),_,_,_,_,_,_,_,_,_,_,_,_,_,_,_,_,_,_,_,_,_,_,_,_,true=true]) (by kernel_rfl) ⟨c0,rfl,c1,c2,c3,c3,c3,c3,c3,c4,c4,c4,c4,c4,c4,c4,c4,c5,c5,c5,c5,c6,c6,c6,c6,c6,rfl,trivial⟩
theorem w68a_10 (x:TSec) (z:Int) (e:Int) (i:Nat) (w:Int) (hp:HL) (x1:TRlc)
    (c0:(decide (((i:Nat):Int)<((x.relocs.l.length:Nat):Int)))=true)
    (c1:(x.relocs.l.map TRlc.c)[i]? = some [D.int .i64 x1.off,D.int .i64 x1.typ,D.int .i64 x1.sym,D.int .i64 x1.addend])
    (c2:Rn pg 37 [V.d (D.int .i64 x1.typ)] ([]) (V.d (D.int .i64 w)) ([]))
    (c3:(w==0)=false)
    (c4:(decide (x1.off<e))=false)
    (c5:(decide (x1.off > (IntKind.i64.wrap (x.size - w))))=true) :
    Ev pg i68_l0 ⟨[(1,V.d (D.int .i64 z)),(2,V.ptr 0 2 [] 0 0),(5,V.d (D.int .i64 e)),(14,V.d (D.sl x.relocs.nn (x.relocs.l.map TRlc.c))),(15,V.d (D.int .i64 ((x.relocs.l.length:Nat):Int))),(16,V.d (D.int .i64 ((i:Nat):Int)))],[(2,Ob.row true 6 true [[C.d (D.str x.name),C.d (D.int .i64 x.kind),C.d (D.int .i64 x.align),C.d (D.int .i64 x.size),C.d (D.sl x.data.nn (x.data.l.map u8c)),C.d (D.sl x.relocs.nn (x.relocs.l.map TRlc.c))]])]::hp⟩ .ret ⟨[(4,V.d (D.bool false))],[]::hp⟩:=
  codeC_ok (hs:=[.b true, .n i, .ds [D.int .i64 x1.off,D.int .i64 x1.typ,D.int .i64 x1.sym,D.int .i64 x1.addend], .call (V.d (D.int .i64 w)) ([]), .b false, .b false, .b false, .b false, .b false, .b false, .b false, .b false, .b false, .b false, .b false, .b false, .b false, .b true, .b true, .b true, .b true, .b true, .b true, .b true, .b true, .b true, .b true]) (hs':=[]) (cs:=[_,((i:Nat):Int)=((i:Nat):Int),_,_,_,_,_,_,_,_,_,_,_,_,_,_,_,_,_,_,_,true=true,true=true,true=true,true=true,true=true,true=true]) (by kernel_rfl) ⟨c0,rfl,c1,c2,c3,c3,c3,c3,c3,c4,c4,c4,c4,c4,c4,c4,c4,c5,c5,c5,c5,rfl,rfl,rfl,rfl,rfl,rfl,trivial⟩
theorem w68a_11 (x:TSec) (z:Int) (e:Int) (i:Nat) (w:Int) (hp:HL) (x1:TRlc)
    (c0:(decide (((i:Nat):Int)<((x.relocs.l.length:Nat):Int)))=true)
    (c1:(x.relocs.l.map TRlc.c)[i]? = some [D.int .i64 x1.off,D.int .i64 x1.typ,D.int .i64 x1.sym,D.int .i64 x1.addend])
    (c2:Rn pg 37 [V.d (D.int .i64 x1.typ)] ([]) (V.d (D.int .i64 w)) ([]))
    (c3:(w==0)=false)
    (c4:(decide (x1.off<e))=true) :
    Ev pg i68_l0 ⟨[(1,V.d (D.int .i64 z)),(2,V.ptr 0 2 [] 0 0),(5,V.d (D.int .i64 e)),(14,V.d (D.sl x.relocs.nn (x.relocs.l.map TRlc.c))),(15,V.d (D.int .i64 ((x.relocs.l.length:Nat):Int))),(16,V.d (D.int .i64 ((i:Nat):Int)))],[(2,Ob.row true 6 true [[C.d (D.str x.name),C.d (D.int .i64 x.kind),C.d (D.int .i64 x.align),C.d (D.int .i64 x.size),C.d (D.sl x.data.nn (x.data.l.map u8c)),C.d (D.sl x.relocs.nn (x.relocs.l.map TRlc.c))]])]::hp⟩ .ret ⟨[(4,V.d (D.bool false))],[]::hp⟩:=
  codeC_ok (hs:=[.b true, .n i, .ds [D.int .i64 x1.off,D.int .i64 x1.typ,D.int .i64 x1.sym,D.int .i64 x1.addend], .call (V.d (D.int .i64 w)) ([]), .b false, .b false, .b false, .b false, .b false, .b true, .b true, .b true, .b true, .b true, .b true, .b true, .b true, .b true, .b true, .b true, .b true, .b true, .b true, .b true, .b true, .b true, .b true]) (hs':=[]) (cs:=[_,((i:Nat):Int)=((i:Nat):Int),_,_,_,_,_,_,_,_,_,_,_,_,_,_,_,true=true,true=true,true=true,true=true,true=true,true=true,true=true,true=true,true=true,true=true]) (by kernel_rfl) ⟨c0,rfl,c1,c2,c3,c3,c3,c3,c3,c4,c4,c4,c4,c4,c4,c4,c4,rfl,rfl,rfl,rfl,rfl,rfl,rfl,rfl,rfl,rfl,trivial⟩
theorem w68a_12 (x:TSec) (z:Int) (e:Int) (i:Nat) (w:Int) (hp:HL) (x1:TRlc)
    (c0:(decide (((i:Nat):Int)<((x.relocs.l.length:Nat):Int)))=true)
    (c1:(x.relocs.l.map TRlc.c)[i]? = some [D.int .i64 x1.off,D.int .i64 x1.typ,D.int .i64 x1.sym,D.int .i64 x1.addend])
    (c2:Rn pg 37 [V.d (D.int .i64 x1.typ)] ([]) (V.d (D.int .i64 w)) ([]))
    (c3:(w==0)=true) :
    Ev pg i68_l0 ⟨[(1,V.d (D.int .i64 z)),(2,V.ptr 0 2 [] 0 0),(5,V.d (D.int .i64 e)),(14,V.d (D.sl x.relocs.nn (x.relocs.l.map TRlc.c))),(15,V.d (D.int .i64 ((x.relocs.l.length:Nat):Int))),(16,V.d (D.int .i64 ((i:Nat):Int)))],[(2,Ob.row true 6 true [[C.d (D.str x.name),C.d (D.int .i64 x.kind),C.d (D.int .i64 x.align),C.d (D.int .i64 x.size),C.d (D.sl x.data.nn (x.data.l.map u8c)),C.d (D.sl x.relocs.nn (x.relocs.l.map TRlc.c))]])]::hp⟩ .ret ⟨[(4,V.d (D.bool false))],[]::hp⟩:=
  codeC_ok (hs:=[.b true, .n i, .ds [D.int .i64 x1.off,D.int .i64 x1.typ,D.int .i64 x1.sym,D.int .i64 x1.addend], .call (V.d (D.int .i64 w)) ([]), .b true, .b true, .b true, .b true, .b true, .b true, .b true, .b true, .b true, .b true, .b true, .b true, .b true, .b true, .b true, .b true, .b true, .b true, .b true, .b true, .b true, .b true, .b true]) (hs':=[]) (cs:=[_,((i:Nat):Int)=((i:Nat):Int),_,_,_,_,_,_,_,true=true,true=true,true=true,true=true,true=true,true=true,true=true,true=true,true=true,true=true,true=true,true=true,true=true,true=true,true=true,true=true,true=true,true=true]) (by kernel_rfl) ⟨c0,rfl,c1,c2,c3,c3,c3,c3,c3,rfl,rfl,rfl,rfl,rfl,rfl,rfl,rfl,rfl,rfl,rfl,rfl,rfl,rfl,rfl,rfl,rfl,rfl,trivial⟩
theorem w68_0 (x:TSec) (z:Int) (hp:HL) (e1:Int)
 (c0:(decide ((((x.relocs.l.map TRlc.c).length:Nat):Int) > 4096))=false)
 (c1:Lp pg i68_l0 ⟨[(1,V.d (D.int .i64 z)),(2,V.ptr 0 2 [] 0 0),(5,V.d (D.int .i64 0)),(14,V.d (D.sl x.relocs.nn (x.relocs.l.map TRlc.c))),(15,V.d (D.int .i64 (((x.relocs.l.map TRlc.c).length:Nat):Int))),(16,V.d (D.int .i64 0))],[(2,Ob.row true 6 true [[C.d (D.str x.name),C.d (D.int .i64 x.kind),C.d (D.int .i64 x.align),C.d (D.int .i64 x.size),C.d (D.sl x.data.nn (x.data.l.map u8c)),C.d (D.sl x.relocs.nn (x.relocs.l.map TRlc.c))]])]::hp⟩ (.exit 0) ⟨[(1,V.d (D.int .i64 z)),(2,V.ptr 0 2 [] 0 0),(5,V.d (D.int .i64 e1)),(14,V.d (D.sl x.relocs.nn (x.relocs.l.map TRlc.c))),(15,V.d (D.int .i64 (((x.relocs.l.map TRlc.c).length:Nat):Int))),(16,V.d (D.int .i64 (((x.relocs.l.map TRlc.c).length:Nat):Int))),(17,V.d (D.bool false))],[(2,Ob.row true 6 true [[C.d (D.str x.name),C.d (D.int .i64 x.kind),C.d (D.int .i64 x.align),C.d (D.int .i64 x.size),C.d (D.sl x.data.nn (x.data.l.map u8c)),C.d (D.sl x.relocs.nn (x.relocs.l.map TRlc.c))]])]::hp⟩) :
 Rn pg 68 [V.d (D.agg [D.str x.name,D.int .i64 x.kind,D.int .i64 x.align,D.int .i64 x.size,D.sl x.data.nn (x.data.l.map u8c),D.sl x.relocs.nn (x.relocs.l.map TRlc.c)]),V.d (D.int .i64 z)] (hp) (V.d (D.bool true)) (hp):=
 Rn.c (fn:=i68) (ex:=.ret) (st:=⟨[(4,V.d (D.bool true))],[]::hp⟩) (hs:=[.b false, .lp (.exit 0) ⟨[(1,V.d (D.int .i64 z)),(2,V.ptr 0 2 [] 0 0),(5,V.d (D.int .i64 e1)),(14,V.d (D.sl x.relocs.nn (x.relocs.l.map TRlc.c))),(15,V.d (D.int .i64 (((x.relocs.l.map TRlc.c).length:Nat):Int))),(16,V.d (D.int .i64 (((x.relocs.l.map TRlc.c).length:Nat):Int))),(17,V.d (D.bool false))],[(2,Ob.row true 6 true [[C.d (D.str x.name),C.d (D.int .i64 x.kind),C.d (D.int .i64 x.align),C.d (D.int .i64 x.size),C.d (D.sl x.data.nn (x.data.l.map u8c)),C.d (D.sl x.relocs.nn (x.relocs.l.map TRlc.c))]])]::hp⟩]) (cs:=[_,_]) (rs:=[V.d (D.bool true)]) (t:=[])
 (by kernel_rfl) (by kernel_rfl) (by kernel_rfl) (by kernel_rfl) (by kernel_rfl) (by kernel_rfl) ⟨c0,c1,trivial⟩
theorem w68_1 (x:TSec) (z:Int) (hp:HL)
 (c0:(decide ((((x.relocs.l.map TRlc.c).length:Nat):Int) > 4096))=false)
 (c1:Lp pg i68_l0 ⟨[(1,V.d (D.int .i64 z)),(2,V.ptr 0 2 [] 0 0),(5,V.d (D.int .i64 0)),(14,V.d (D.sl x.relocs.nn (x.relocs.l.map TRlc.c))),(15,V.d (D.int .i64 (((x.relocs.l.map TRlc.c).length:Nat):Int))),(16,V.d (D.int .i64 0))],[(2,Ob.row true 6 true [[C.d (D.str x.name),C.d (D.int .i64 x.kind),C.d (D.int .i64 x.align),C.d (D.int .i64 x.size),C.d (D.sl x.data.nn (x.data.l.map u8c)),C.d (D.sl x.relocs.nn (x.relocs.l.map TRlc.c))]])]::hp⟩ .ret ⟨[(4,V.d (D.bool false))],[]::hp⟩) :
 Rn pg 68 [V.d (D.agg [D.str x.name,D.int .i64 x.kind,D.int .i64 x.align,D.int .i64 x.size,D.sl x.data.nn (x.data.l.map u8c),D.sl x.relocs.nn (x.relocs.l.map TRlc.c)]),V.d (D.int .i64 z)] (hp) (V.d (D.bool false)) (hp):=
 Rn.c (fn:=i68) (ex:=.ret) (st:=⟨[(4,V.d (D.bool false))],[]::hp⟩) (hs:=[.b false, .lp .ret ⟨[(4,V.d (D.bool false))],[]::hp⟩]) (cs:=[_,_]) (rs:=[V.d (D.bool false)]) (t:=[])
 (by kernel_rfl) (by kernel_rfl) (by kernel_rfl) (by kernel_rfl) (by kernel_rfl) (by kernel_rfl) ⟨c0,c1,trivial⟩
theorem w68_2 (x:TSec) (z:Int) (hp:HL)
 (c0:(decide ((((x.relocs.l.map TRlc.c).length:Nat):Int) > 4096))=true) :
 Rn pg 68 [V.d (D.agg [D.str x.name,D.int .i64 x.kind,D.int .i64 x.align,D.int .i64 x.size,D.sl x.data.nn (x.data.l.map u8c),D.sl x.relocs.nn (x.relocs.l.map TRlc.c)]),V.d (D.int .i64 z)] (hp) (V.d (D.bool false)) (hp):=
 Rn.c (fn:=i68) (ex:=.ret) (st:=⟨[(4,V.d (D.bool false))],[]::hp⟩) (hs:=[.b true]) (cs:=[_]) (rs:=[V.d (D.bool false)]) (t:=[])
 (by kernel_rfl) (by kernel_rfl) (by kernel_rfl) (by kernel_rfl) (by kernel_rfl) (by kernel_rfl) ⟨c0,trivial⟩
theorem w44_0 (x:TSec) (z:Int) (q:Bool) (u:Int) (v:Bool) (hp:HL)
 (c0:Rn pg 66 [V.d (D.str x.name)] ([]) (V.d (D.bool q)) ([]))
 (c1:(!q)=false)
 (c2:Rn pg 36 [V.d (D.str x.name)] ([]) (V.d (D.int .i64 (kindOf x.name))) ([]))
 (c3:(x.kind != (kindOf x.name))=false)
 (c4:(decide (x.align<1))=false)
 (c5:(decide (x.align > 4096))=false)
 (c6:Rn pg 67 [V.d (D.int .u64 (IntKind.u64.wrap (x.align)))] ([]) (V.d (D.int .i64 u)) ([]))
 (c7:(u != 1)=false)
 (c8:(decide (x.size<0))=false)
 (c9:(decide (x.size > 1048576))=false)
 (c10:(x.kind==4)=false)
 (c11:((((x.data.l.map u8c).length:Nat):Int)==x.size)=false) :
 Rn pg 44 [V.d (D.agg [D.str x.name,D.int .i64 x.kind,D.int .i64 x.align,D.int .i64 x.size,D.sl x.data.nn (x.data.l.map u8c),D.sl x.relocs.nn (x.relocs.l.map TRlc.c)]),V.d (D.int .i64 z)] (hp) (V.d (D.bool false)) (hp):=
 Rn.c (fn:=i44) (ex:=.ret) (st:=⟨[(4,V.d (D.bool false))],[]::hp⟩) (hs:=[.call (V.d (D.bool q)) ([]), .b false, .b false, .b false, .b false, .b false, .call (V.d (D.int .i64 (kindOf x.name))) ([]), .b false, .b false, .b false, .b false, .b false, .b false, .b false, .b false, .b false, .b false, .b false, .call (V.d (D.int .i64 u)) ([]), .b false, .b false, .b false, .b false, .b false, .b false, .b false, .b false, .b false, .b false, .b false, .b false, .b false]) (cs:=[_,_,_,_,_,_,_,_,_,_,_,_,_,_,_,_,_,_,_,_,_,_,_,_,_,_,_,_,_,_,_,_]) (rs:=[V.d (D.bool false)]) (t:=[])
 (by kernel_rfl) (by kernel_rfl) (by kernel_rfl) (by kernel_rfl) (by kernel_rfl) (by kernel_rfl) ⟨c0,c1,c1,c1,c1,c1,c2,c1,c1,c3,c4,c4,c4,c4,c5,c5,c5,c5,c6,c5,c5,c7,c8,c8,c8,c8,c9,c10,c11,c11,c11,c11,trivial⟩
theorem w44_1 (x:TSec) (z:Int) (q:Bool) (u:Int) (v:Bool) (hp:HL)
 (c0:Rn pg 66 [V.d (D.str x.name)] ([]) (V.d (D.bool q)) ([]))
 (c1:(!q)=false)
 (c2:Rn pg 36 [V.d (D.str x.name)] ([]) (V.d (D.int .i64 (kindOf x.name))) ([]))
 (c3:(x.kind != (kindOf x.name))=false)
 (c4:(decide (x.align<1))=false)
 (c5:(decide (x.align > 4096))=false)
 (c6:Rn pg 67 [V.d (D.int .u64 (IntKind.u64.wrap (x.align)))] ([]) (V.d (D.int .i64 u)) ([]))
 (c7:(u != 1)=false)
 (c8:(decide (x.size<0))=false)
 (c9:(decide (x.size > 1048576))=false)
 (c10:(x.kind==4)=false)
 (c11:((((x.data.l.map u8c).length:Nat):Int)==x.size)=true)
 (c12:Rn pg 68 [V.d (D.agg [D.str x.name,D.int .i64 x.kind,D.int .i64 x.align,D.int .i64 x.size,D.sl x.data.nn (x.data.l.map u8c),D.sl x.relocs.nn (x.relocs.l.map TRlc.c)]),V.d (D.int .i64 z)] ([]) (V.d (D.bool v)) ([])) :
 Rn pg 44 [V.d (D.agg [D.str x.name,D.int .i64 x.kind,D.int .i64 x.align,D.int .i64 x.size,D.sl x.data.nn (x.data.l.map u8c),D.sl x.relocs.nn (x.relocs.l.map TRlc.c)]),V.d (D.int .i64 z)] (hp) (V.d (D.bool v)) (hp):=
 Rn.c (fn:=i44) (ex:=.ret) (st:=⟨[(4,V.d (D.bool v))],[]::hp⟩) (hs:=[.call (V.d (D.bool q)) ([]), .b false, .b false, .b false, .b false, .b false, .call (V.d (D.int .i64 (kindOf x.name))) ([]), .b false, .b false, .b false, .b false, .b false, .b false, .b false, .b false, .b false, .b false, .b false, .call (V.d (D.int .i64 u)) ([]), .b false, .b false, .b false, .b false, .b false, .b false, .b false, .b false, .b false, .b true, .b true, .b true, .call (V.d (D.bool v)) ([]), .b true]) (cs:=[_,_,_,_,_,_,_,_,_,_,_,_,_,_,_,_,_,_,_,_,_,_,_,_,_,_,_,_,_,_,_,_,_]) (rs:=[V.d (D.bool v)]) (t:=[])
 (by kernel_rfl) (by kernel_rfl) (by kernel_rfl) (by kernel_rfl) (by kernel_rfl) (by kernel_rfl) ⟨c0,c1,c1,c1,c1,c1,c2,c1,c1,c3,c4,c4,c4,c4,c5,c5,c5,c5,c6,c5,c5,c7,c8,c8,c8,c8,c9,c10,c11,c11,c11,c12,c11,trivial⟩
theorem w44_2 (x:TSec) (z:Int) (q:Bool) (u:Int) (v:Bool) (hp:HL)
 (c0:Rn pg 66 [V.d (D.str x.name)] ([]) (V.d (D.bool q)) ([]))
 (c1:(!q)=false)
 (c2:Rn pg 36 [V.d (D.str x.name)] ([]) (V.d (D.int .i64 (kindOf x.name))) ([]))
 (c3:(x.kind != (kindOf x.name))=false)
 (c4:(decide (x.align<1))=false)
 (c5:(decide (x.align > 4096))=false)
 (c6:Rn pg 67 [V.d (D.int .u64 (IntKind.u64.wrap (x.align)))] ([]) (V.d (D.int .i64 u)) ([]))
 (c7:(u != 1)=false)
 (c8:(decide (x.size<0))=false)
 (c9:(decide (x.size > 1048576))=false)
 (c10:(x.kind==4)=true)
 (c11:((((x.data.l.map u8c).length:Nat):Int)==0)=false) :
 Rn pg 44 [V.d (D.agg [D.str x.name,D.int .i64 x.kind,D.int .i64 x.align,D.int .i64 x.size,D.sl x.data.nn (x.data.l.map u8c),D.sl x.relocs.nn (x.relocs.l.map TRlc.c)]),V.d (D.int .i64 z)] (hp) (V.d (D.bool false)) (hp):=
 Rn.c (fn:=i44) (ex:=.ret) (st:=⟨[(4,V.d (D.bool false))],[]::hp⟩) (hs:=[.call (V.d (D.bool q)) ([]), .b false, .b false, .b false, .b false, .b false, .call (V.d (D.int .i64 (kindOf x.name))) ([]), .b false, .b false, .b false, .b false, .b false, .b false, .b false, .b false, .b false, .b false, .b false, .call (V.d (D.int .i64 u)) ([]), .b false, .b false, .b false, .b false, .b false, .b false, .b false, .b false, .b true, .b false, .b false, .b false, .b false, .b false]) (cs:=[_,_,_,_,_,_,_,_,_,_,_,_,_,_,_,_,_,_,_,_,_,_,_,_,_,_,_,_,_,_,_,_,_]) (rs:=[V.d (D.bool false)]) (t:=[])
 (by kernel_rfl) (by kernel_rfl) (by kernel_rfl) (by kernel_rfl) (by kernel_rfl) (by kernel_rfl) ⟨c0,c1,c1,c1,c1,c1,c2,c1,c1,c3,c4,c4,c4,c4,c5,c5,c5,c5,c6,c5,c5,c7,c8,c8,c8,c8,c9,c10,c11,c11,c11,c11,c11,trivial⟩
theorem w44_3 (x:TSec) (z:Int) (q:Bool) (u:Int) (v:Bool) (hp:HL)
 (c0:Rn pg 66 [V.d (D.str x.name)] ([]) (V.d (D.bool q)) ([]))
 (c1:(!q)=false)
 (c2:Rn pg 36 [V.d (D.str x.name)] ([]) (V.d (D.int .i64 (kindOf x.name))) ([]))
 (c3:(x.kind != (kindOf x.name))=false)
 (c4:(decide (x.align<1))=false)
 (c5:(decide (x.align > 4096))=false)
 (c6:Rn pg 67 [V.d (D.int .u64 (IntKind.u64.wrap (x.align)))] ([]) (V.d (D.int .i64 u)) ([]))
 (c7:(u != 1)=false)
 (c8:(decide (x.size<0))=false)
 (c9:(decide (x.size > 1048576))=false)
 (c10:(x.kind==4)=true)
 (c11:((((x.data.l.map u8c).length:Nat):Int)==0)=true) :
 Rn pg 44 [V.d (D.agg [D.str x.name,D.int .i64 x.kind,D.int .i64 x.align,D.int .i64 x.size,D.sl x.data.nn (x.data.l.map u8c),D.sl x.relocs.nn (x.relocs.l.map TRlc.c)]),V.d (D.int .i64 z)] (hp) (V.d (D.bool ((((x.relocs.l.map TRlc.c).length:Nat):Int)==0))) (hp):=
 Rn.c (fn:=i44) (ex:=.ret) (st:=⟨[(4,V.d (D.bool ((((x.relocs.l.map TRlc.c).length:Nat):Int)==0)))],[]::hp⟩) (hs:=[.call (V.d (D.bool q)) ([]), .b false, .b false, .b false, .b false, .b false, .call (V.d (D.int .i64 (kindOf x.name))) ([]), .b false, .b false, .b false, .b false, .b false, .b false, .b false, .b false, .b false, .b false, .b false, .call (V.d (D.int .i64 u)) ([]), .b false, .b false, .b false, .b false, .b false, .b false, .b false, .b false, .b true, .b true, .b true, .b true, .b true, .b true]) (cs:=[_,_,_,_,_,_,_,_,_,_,_,_,_,_,_,_,_,_,_,_,_,_,_,_,_,_,_,_,_,_,_,_,_]) (rs:=[V.d (D.bool ((((x.relocs.l.map TRlc.c).length:Nat):Int)==0))]) (t:=[])
 (by kernel_rfl) (by kernel_rfl) (by kernel_rfl) (by kernel_rfl) (by kernel_rfl) (by kernel_rfl) ⟨c0,c1,c1,c1,c1,c1,c2,c1,c1,c3,c4,c4,c4,c4,c5,c5,c5,c5,c6,c5,c5,c7,c8,c8,c8,c8,c9,c10,c11,c11,c11,c11,c11,trivial⟩
theorem w44_4 (x:TSec) (z:Int) (q:Bool) (u:Int) (v:Bool) (hp:HL)
 (c0:Rn pg 66 [V.d (D.str x.name)] ([]) (V.d (D.bool q)) ([]))
 (c1:(!q)=false)
 (c2:Rn pg 36 [V.d (D.str x.name)] ([]) (V.d (D.int .i64 (kindOf x.name))) ([]))
 (c3:(x.kind != (kindOf x.name))=false)
 (c4:(decide (x.align<1))=false)
 (c5:(decide (x.align > 4096))=false)
 (c6:Rn pg 67 [V.d (D.int .u64 (IntKind.u64.wrap (x.align)))] ([]) (V.d (D.int .i64 u)) ([]))
 (c7:(u != 1)=false)
 (c8:(decide (x.size<0))=false)
 (c9:(decide (x.size > 1048576))=true) :
 Rn pg 44 [V.d (D.agg [D.str x.name,D.int .i64 x.kind,D.int .i64 x.align,D.int .i64 x.size,D.sl x.data.nn (x.data.l.map u8c),D.sl x.relocs.nn (x.relocs.l.map TRlc.c)]),V.d (D.int .i64 z)] (hp) (V.d (D.bool false)) (hp):=
 Rn.c (fn:=i44) (ex:=.ret) (st:=⟨[(4,V.d (D.bool false))],[]::hp⟩) (hs:=[.call (V.d (D.bool q)) ([]), .b false, .b false, .b false, .b false, .b false, .call (V.d (D.int .i64 (kindOf x.name))) ([]), .b false, .b false, .b false, .b false, .b false, .b false, .b false, .b false, .b false, .b false, .b false, .call (V.d (D.int .i64 u)) ([]), .b false, .b false, .b false, .b false, .b false, .b false, .b false, .b true]) (cs:=[_,_,_,_,_,_,_,_,_,_,_,_,_,_,_,_,_,_,_,_,_,_,_,_,_,_,_]) (rs:=[V.d (D.bool false)]) (t:=[])
 (by kernel_rfl) (by kernel_rfl) (by kernel_rfl) (by kernel_rfl) (by kernel_rfl) (by kernel_rfl) ⟨c0,c1,c1,c1,c1,c1,c2,c1,c1,c3,c4,c4,c4,c4,c5,c5,c5,c5,c6,c5,c5,c7,c8,c8,c8,c8,c9,trivial⟩
theorem w44_5 (x:TSec) (z:Int) (q:Bool) (u:Int) (v:Bool) (hp:HL)
 (c0:Rn pg 66 [V.d (D.str x.name)] ([]) (V.d (D.bool q)) ([]))
 (c1:(!q)=false)
 (c2:Rn pg 36 [V.d (D.str x.name)] ([]) (V.d (D.int .i64 (kindOf x.name))) ([]))
 (c3:(x.kind != (kindOf x.name))=false)
 (c4:(decide (x.align<1))=false)
 (c5:(decide (x.align > 4096))=false)
 (c6:Rn pg 67 [V.d (D.int .u64 (IntKind.u64.wrap (x.align)))] ([]) (V.d (D.int .i64 u)) ([]))
 (c7:(u != 1)=false)
 (c8:(decide (x.size<0))=true) :
 Rn pg 44 [V.d (D.agg [D.str x.name,D.int .i64 x.kind,D.int .i64 x.align,D.int .i64 x.size,D.sl x.data.nn (x.data.l.map u8c),D.sl x.relocs.nn (x.relocs.l.map TRlc.c)]),V.d (D.int .i64 z)] (hp) (V.d (D.bool false)) (hp):=
 Rn.c (fn:=i44) (ex:=.ret) (st:=⟨[(4,V.d (D.bool false))],[]::hp⟩) (hs:=[.call (V.d (D.bool q)) ([]), .b false, .b false, .b false, .b false, .b false, .call (V.d (D.int .i64 (kindOf x.name))) ([]), .b false, .b false, .b false, .b false, .b false, .b false, .b false, .b false, .b false, .b false, .b false, .call (V.d (D.int .i64 u)) ([]), .b false, .b false, .b false, .b true, .b true, .b true, .b true, .b true]) (cs:=[_,_,_,_,_,_,_,_,_,_,_,_,_,_,_,_,_,_,_,_,_,_,_,_,_,_,true=true]) (rs:=[V.d (D.bool false)]) (t:=[])
 (by kernel_rfl) (by kernel_rfl) (by kernel_rfl) (by kernel_rfl) (by kernel_rfl) (by kernel_rfl) ⟨c0,c1,c1,c1,c1,c1,c2,c1,c1,c3,c4,c4,c4,c4,c5,c5,c5,c5,c6,c5,c5,c7,c8,c8,c8,c8,rfl,trivial⟩
theorem w44_6 (x:TSec) (z:Int) (q:Bool) (u:Int) (v:Bool) (hp:HL)
 (c0:Rn pg 66 [V.d (D.str x.name)] ([]) (V.d (D.bool q)) ([]))
 (c1:(!q)=false)
 (c2:Rn pg 36 [V.d (D.str x.name)] ([]) (V.d (D.int .i64 (kindOf x.name))) ([]))
 (c3:(x.kind != (kindOf x.name))=false)
 (c4:(decide (x.align<1))=false)
 (c5:(decide (x.align > 4096))=false)
 (c6:Rn pg 67 [V.d (D.int .u64 (IntKind.u64.wrap (x.align)))] ([]) (V.d (D.int .i64 u)) ([]))
 (c7:(u != 1)=true) :
 Rn pg 44 [V.d (D.agg [D.str x.name,D.int .i64 x.kind,D.int .i64 x.align,D.int .i64 x.size,D.sl x.data.nn (x.data.l.map u8c),D.sl x.relocs.nn (x.relocs.l.map TRlc.c)]),V.d (D.int .i64 z)] (hp) (V.d (D.bool false)) (hp):=
 Rn.c (fn:=i44) (ex:=.ret) (st:=⟨[(4,V.d (D.bool false))],[]::hp⟩) (hs:=[.call (V.d (D.bool q)) ([]), .b false, .b false, .b false, .b false, .b false, .call (V.d (D.int .i64 (kindOf x.name))) ([]), .b false, .b false, .b false, .b false, .b false, .b false, .b false, .b false, .b false, .b false, .b false, .call (V.d (D.int .i64 u)) ([]), .b false, .b false, .b true]) (cs:=[_,_,_,_,_,_,_,_,_,_,_,_,_,_,_,_,_,_,_,_,_,_]) (rs:=[V.d (D.bool false)]) (t:=[])
 (by kernel_rfl) (by kernel_rfl) (by kernel_rfl) (by kernel_rfl) (by kernel_rfl) (by kernel_rfl) ⟨c0,c1,c1,c1,c1,c1,c2,c1,c1,c3,c4,c4,c4,c4,c5,c5,c5,c5,c6,c5,c5,c7,trivial⟩
theorem w44_7 (x:TSec) (z:Int) (q:Bool) (u:Int) (v:Bool) (hp:HL)
 (c0:Rn pg 66 [V.d (D.str x.name)] ([]) (V.d (D.bool q)) ([]))
 (c1:(!q)=false)
 (c2:Rn pg 36 [V.d (D.str x.name)] ([]) (V.d (D.int .i64 (kindOf x.name))) ([]))
 (c3:(x.kind != (kindOf x.name))=false)
 (c4:(decide (x.align<1))=false)
 (c5:(decide (x.align > 4096))=true) :
 Rn pg 44 [V.d (D.agg [D.str x.name,D.int .i64 x.kind,D.int .i64 x.align,D.int .i64 x.size,D.sl x.data.nn (x.data.l.map u8c),D.sl x.relocs.nn (x.relocs.l.map TRlc.c)]),V.d (D.int .i64 z)] (hp) (V.d (D.bool false)) (hp):=
 Rn.c (fn:=i44) (ex:=.ret) (st:=⟨[(4,V.d (D.bool false))],[]::hp⟩) (hs:=[.call (V.d (D.bool q)) ([]), .b false, .b false, .b false, .b false, .b false, .call (V.d (D.int .i64 (kindOf x.name))) ([]), .b false, .b false, .b false, .b false, .b false, .b false, .b false, .b true, .b true, .b true, .b true, .b true, .b true, .b true]) (cs:=[_,_,_,_,_,_,_,_,_,_,_,_,_,_,_,_,_,_,_,_,true=true]) (rs:=[V.d (D.bool false)]) (t:=[])
 (by kernel_rfl) (by kernel_rfl) (by kernel_rfl) (by kernel_rfl) (by kernel_rfl) (by kernel_rfl) ⟨c0,c1,c1,c1,c1,c1,c2,c1,c1,c3,c4,c4,c4,c4,c5,c5,c5,c5,c5,c5,rfl,trivial⟩
theorem w44_8 (x:TSec) (z:Int) (q:Bool) (u:Int) (v:Bool) (hp:HL)
 (c0:Rn pg 66 [V.d (D.str x.name)] ([]) (V.d (D.bool q)) ([]))
 (c1:(!q)=false)
 (c2:Rn pg 36 [V.d (D.str x.name)] ([]) (V.d (D.int .i64 (kindOf x.name))) ([]))
 (c3:(x.kind != (kindOf x.name))=false)
 (c4:(decide (x.align<1))=true) :
 Rn pg 44 [V.d (D.agg [D.str x.name,D.int .i64 x.kind,D.int .i64 x.align,D.int .i64 x.size,D.sl x.data.nn (x.data.l.map u8c),D.sl x.relocs.nn (x.relocs.l.map TRlc.c)]),V.d (D.int .i64 z)] (hp) (V.d (D.bool false)) (hp):=
 Rn.c (fn:=i44) (ex:=.ret) (st:=⟨[(4,V.d (D.bool false))],[]::hp⟩) (hs:=[.call (V.d (D.bool q)) ([]), .b false, .b false, .b false, .b false, .b false, .call (V.d (D.int .i64 (kindOf x.name))) ([]), .b false, .b false, .b false, .b true, .b true, .b true, .b true, .b true, .b true, .b true, .b true, .b true, .b true, .b true]) (cs:=[_,_,_,_,_,_,_,_,_,_,_,_,_,_,true=true,true=true,true=true,true=true,true=true,true=true,true=true]) (rs:=[V.d (D.bool false)]) (t:=[])
 (by kernel_rfl) (by kernel_rfl) (by kernel_rfl) (by kernel_rfl) (by kernel_rfl) (by kernel_rfl) ⟨c0,c1,c1,c1,c1,c1,c2,c1,c1,c3,c4,c4,c4,c4,rfl,rfl,rfl,rfl,rfl,rfl,rfl,trivial⟩
theorem w44_9 (x:TSec) (z:Int) (q:Bool) (u:Int) (v:Bool) (hp:HL)
 (c0:Rn pg 66 [V.d (D.str x.name)] ([]) (V.d (D.bool q)) ([]))
 (c1:(!q)=false)
 (c2:Rn pg 36 [V.d (D.str x.name)] ([]) (V.d (D.int .i64 (kindOf x.name))) ([]))
 (c3:(x.kind != (kindOf x.name))=true) :
 Rn pg 44 [V.d (D.agg [D.str x.name,D.int .i64 x.kind,D.int .i64 x.align,D.int .i64 x.size,D.sl x.data.nn (x.data.l.map u8c),D.sl x.relocs.nn (x.relocs.l.map TRlc.c)]),V.d (D.int .i64 z)] (hp) (V.d (D.bool false)) (hp):=
 Rn.c (fn:=i44) (ex:=.ret) (st:=⟨[(4,V.d (D.bool false))],[]::hp⟩) (hs:=[.call (V.d (D.bool q)) ([]), .b false, .b false, .b false, .b false, .b false, .call (V.d (D.int .i64 (kindOf x.name))) ([]), .b false, .b false, .b true]) (cs:=[_,_,_,_,_,_,_,_,_,_]) (rs:=[V.d (D.bool false)]) (t:=[])
 (by kernel_rfl) (by kernel_rfl) (by kernel_rfl) (by kernel_rfl) (by kernel_rfl) (by kernel_rfl) ⟨c0,c1,c1,c1,c1,c1,c2,c1,c1,c3,trivial⟩
theorem w44_10 (x:TSec) (z:Int) (q:Bool) (u:Int) (v:Bool) (hp:HL)
 (c0:Rn pg 66 [V.d (D.str x.name)] ([]) (V.d (D.bool q)) ([]))
 (c1:(!q)=true) :
 Rn pg 44 [V.d (D.agg [D.str x.name,D.int .i64 x.kind,D.int .i64 x.align,D.int .i64 x.size,D.sl x.data.nn (x.data.l.map u8c),D.sl x.relocs.nn (x.relocs.l.map TRlc.c)]),V.d (D.int .i64 z)] (hp) (V.d (D.bool false)) (hp):=
 Rn.c (fn:=i44) (ex:=.ret) (st:=⟨[(4,V.d (D.bool false))],[]::hp⟩) (hs:=[.call (V.d (D.bool q)) ([]), .b true, .b true, .b true, .b true, .b true, .b true, .b true, .b true]) (cs:=[_,_,_,_,_,_,_,_,true=true]) (rs:=[V.d (D.bool false)]) (t:=[])
 (by kernel_rfl) (by kernel_rfl) (by kernel_rfl) (by kernel_rfl) (by kernel_rfl) (by kernel_rfl) ⟨c0,c1,c1,c1,c1,c1,c1,c1,rfl,trivial⟩
theorem w45_0 (x:TSym) (ss:Sl TSec) (hp:HL)
 (c0:(decide (((x.name.length:Nat):Int)<1))=false)
 (c1:(decide (((x.name.length:Nat):Int) > 255))=false)
 (c2:Rn pg 69 [V.d (D.str x.name),V.d (D.int .u8 0)] ([]) (V.d (D.int .i64 (Go.Lib.indexByte x.name (Int.toNat 0).toUInt8))) ([]))
 (c3:(decide ((Go.Lib.indexByte x.name (Int.toNat 0).toUInt8) ≥ 0))=false)
 (c4:(x.sect==(-1))=false)
 (c5:(x.sect==(-2))=false)
 (c6:(decide (x.sect ≥ 0))=false) :
 Rn pg 45 [V.d (D.agg [D.str x.name,D.int .i64 x.sect,D.int .i64 x.value,D.bool x.glob]),V.d (D.sl ss.nn (ss.l.map TSec.c))] (hp) (V.d (D.bool false)) (hp):=
 Rn.c (fn:=i45) (ex:=.ret) (st:=⟨[(4,V.d (D.bool false))],[]::hp⟩) (hs:=[.b false, .b false, .b false, .b false, .b false, .b false, .b false, .b false, .call (V.d (D.int .i64 (Go.Lib.indexByte x.name (Int.toNat 0).toUInt8))) ([]), .b false, .b false, .b false, .b false, .b false, .b false, .b false, .b false, .b false, .b false, .b false, .b false, .b false, .b false, .b false, .b false, .b false, .b false, .b false, .b false, .b false, .b false, .b false, .b false, .b false]) (cs:=[_,_,_,_,_,_,_,_,_,_,_,_,_,_,_,_,_,_,_,_,false=false,false=false,false=false,false=false,false=false,false=false,false=false,false=false,false=false,false=false,false=false,false=false,false=false,false=false]) (rs:=[V.d (D.bool false)]) (t:=[])
 (by kernel_rfl) (by kernel_rfl) (by kernel_rfl) (by kernel_rfl) (by kernel_rfl) (by kernel_rfl) ⟨c0,c0,c0,c0,c0,c1,c1,c1,c2,c1,c1,c3,c4,c5,c6,c6,c6,c6,c6,c6,rfl,rfl,rfl,rfl,rfl,rfl,rfl,rfl,rfl,rfl,rfl,rfl,rfl,rfl,trivial⟩
theorem w45_1 (x:TSym) (ss:Sl TSec) (hp:HL)
 (c0:(decide (((x.name.length:Nat):Int)<1))=false)
 (c1:(decide (((x.name.length:Nat):Int) > 255))=false)
 (c2:Rn pg 69 [V.d (D.str x.name),V.d (D.int .u8 0)] ([]) (V.d (D.int .i64 (Go.Lib.indexByte x.name (Int.toNat 0).toUInt8))) ([]))
 (c3:(decide ((Go.Lib.indexByte x.name (Int.toNat 0).toUInt8) ≥ 0))=false)
 (c4:(x.sect==(-1))=false)
 (c5:(x.sect==(-2))=false)
 (c6:(decide (x.sect ≥ 0))=true)
 (c7:(decide (x.sect<(((ss.l.map TSec.c).length:Nat):Int)))=false) :
 Rn pg 45 [V.d (D.agg [D.str x.name,D.int .i64 x.sect,D.int .i64 x.value,D.bool x.glob]),V.d (D.sl ss.nn (ss.l.map TSec.c))] (hp) (V.d (D.bool false)) (hp):=
 Rn.c (fn:=i45) (ex:=.ret) (st:=⟨[(4,V.d (D.bool false))],[]::hp⟩) (hs:=[.b false, .b false, .b false, .b false, .b false, .b false, .b false, .b false, .call (V.d (D.int .i64 (Go.Lib.indexByte x.name (Int.toNat 0).toUInt8))) ([]), .b false, .b false, .b false, .b false, .b false, .b true, .b true, .b true, .b true, .b true, .b true, .b false, .b false, .b false, .b false, .b false, .b false, .b false, .b false, .b false, .b false, .b false, .b false, .b false, .b false]) (cs:=[_,_,_,_,_,_,_,_,_,_,_,_,_,_,_,_,_,_,_,_,_,_,_,_,false=false,false=false,false=false,false=false,false=false,false=false,false=false,false=false,false=false,false=false]) (rs:=[V.d (D.bool false)]) (t:=[])
 (by kernel_rfl) (by kernel_rfl) (by kernel_rfl) (by kernel_rfl) (by kernel_rfl) (by kernel_rfl) ⟨c0,c0,c0,c0,c0,c1,c1,c1,c2,c1,c1,c3,c4,c5,c6,c6,c6,c6,c6,c6,c7,c7,c7,c7,rfl,rfl,rfl,rfl,rfl,rfl,rfl,rfl,rfl,rfl,trivial⟩
theorem w45_2 (x:TSym) (ss:Sl TSec) (hp:HL)
 (c0:(decide (((x.name.length:Nat):Int)<1))=false)
 (c1:(decide (((x.name.length:Nat):Int) > 255))=false)
 (c2:Rn pg 69 [V.d (D.str x.name),V.d (D.int .u8 0)] ([]) (V.d (D.int .i64 (Go.Lib.indexByte x.name (Int.toNat 0).toUInt8))) ([]))
 (c3:(decide ((Go.Lib.indexByte x.name (Int.toNat 0).toUInt8) ≥ 0))=false)
 (c4:(x.sect==(-1))=false)
 (c5:(x.sect==(-2))=false)
 (c6:(decide (x.sect ≥ 0))=true)
 (c7:(decide (x.sect<(((ss.l.map TSec.c).length:Nat):Int)))=true)
 (c8:(decide (x.value ≥ 0))=false) :
 Rn pg 45 [V.d (D.agg [D.str x.name,D.int .i64 x.sect,D.int .i64 x.value,D.bool x.glob]),V.d (D.sl ss.nn (ss.l.map TSec.c))] (hp) (V.d (D.bool false)) (hp):=
 Rn.c (fn:=i45) (ex:=.ret) (st:=⟨[(4,V.d (D.bool false))],[]::hp⟩) (hs:=[.b false, .b false, .b false, .b false, .b false, .b false, .b false, .b false, .call (V.d (D.int .i64 (Go.Lib.indexByte x.name (Int.toNat 0).toUInt8))) ([]), .b false, .b false, .b false, .b false, .b false, .b true, .b true, .b true, .b true, .b true, .b true, .b true, .b true, .b true, .b true, .b false, .b false, .b false, .b false, .b false, .b false, .b false, .b false, .b false, .b false]) (cs:=[_,_,_,_,_,_,_,_,_,_,_,_,_,_,_,_,_,_,_,_,_,_,_,_,_,_,_,_,_,_,_,_,_,_]) (rs:=[V.d (D.bool false)]) (t:=[])
 (by kernel_rfl) (by kernel_rfl) (by kernel_rfl) (by kernel_rfl) (by kernel_rfl) (by kernel_rfl) ⟨c0,c0,c0,c0,c0,c1,c1,c1,c2,c1,c1,c3,c4,c5,c6,c6,c6,c6,c6,c6,c7,c7,c7,c7,c8,c8,c8,c8,c8,c8,c8,c8,c8,c8,trivial⟩
theorem w45_3 (x:TSym) (ss:Sl TSec) (hp:HL) (k1:Nat) (x2:TSec)
 (c0:(decide (((x.name.length:Nat):Int)<1))=false)
 (c1:(decide (((x.name.length:Nat):Int) > 255))=false)
 (c2:Rn pg 69 [V.d (D.str x.name),V.d (D.int .u8 0)] ([]) (V.d (D.int .i64 (Go.Lib.indexByte x.name (Int.toNat 0).toUInt8))) ([]))
 (c3:(decide ((Go.Lib.indexByte x.name (Int.toNat 0).toUInt8) ≥ 0))=false)
 (c4:(x.sect==(-1))=false)
 (c5:(x.sect==(-2))=false)
 (c6:(decide (x.sect ≥ 0))=true)
 (c7:(decide (x.sect<(((ss.l.map TSec.c).length:Nat):Int)))=true)
 (c8:(decide (x.value ≥ 0))=true)
 (c9:x.sect=((k1:Nat):Int))
 (c10:(ss.l.map TSec.c)[k1]? = some [D.str x2.name,D.int .i64 x2.kind,D.int .i64 x2.align,D.int .i64 x2.size,D.sl x2.data.nn (x2.data.l.map u8c),D.sl x2.relocs.nn (x2.relocs.l.map TRlc.c)]) :
 Rn pg 45 [V.d (D.agg [D.str x.name,D.int .i64 x.sect,D.int .i64 x.value,D.bool x.glob]),V.d (D.sl ss.nn (ss.l.map TSec.c))] (hp) (V.d (D.bool (decide (x.value≤x2.size)))) (hp):=
 Rn.c (fn:=i45) (ex:=.ret) (st:=⟨[(4,V.d (D.bool (decide (x.value≤x2.size))))],[]::hp⟩) (hs:=[.b false, .b false, .b false, .b false, .b false, .b false, .b false, .b false, .call (V.d (D.int .i64 (Go.Lib.indexByte x.name (Int.toNat 0).toUInt8))) ([]), .b false, .b false, .b false, .b false, .b false, .b true, .b true, .b true, .b true, .b true, .b true, .b true, .b true, .b true, .b true, .b true, .b true, .b true, .b true, .b true, .b true, .n k1, .ds [D.str x2.name,D.int .i64 x2.kind,D.int .i64 x2.align,D.int .i64 x2.size,D.sl x2.data.nn (x2.data.l.map u8c),D.sl x2.relocs.nn (x2.relocs.l.map TRlc.c)], .b true, .b true, .b true, .b true]) (cs:=[_,_,_,_,_,_,_,_,_,_,_,_,_,_,_,_,_,_,_,_,_,_,_,_,_,_,_,_,_,_,_,_,_,_,_,_]) (rs:=[V.d (D.bool (decide (x.value≤x2.size)))]) (t:=[])
 (by kernel_rfl) (by kernel_rfl) (by kernel_rfl) (by kernel_rfl) (by kernel_rfl) (by kernel_rfl) ⟨c0,c0,c0,c0,c0,c1,c1,c1,c2,c1,c1,c3,c4,c5,c6,c6,c6,c6,c6,c6,c7,c7,c7,c7,c8,c8,c8,c8,c8,c8,c9,c10,c8,c8,c8,c8,trivial⟩
theorem w45_4 (x:TSym) (ss:Sl TSec) (hp:HL)
 (c0:(decide (((x.name.length:Nat):Int)<1))=false)
 (c1:(decide (((x.name.length:Nat):Int) > 255))=false)
 (c2:Rn pg 69 [V.d (D.str x.name),V.d (D.int .u8 0)] ([]) (V.d (D.int .i64 (Go.Lib.indexByte x.name (Int.toNat 0).toUInt8))) ([]))
 (c3:(decide ((Go.Lib.indexByte x.name (Int.toNat 0).toUInt8) ≥ 0))=false)
 (c4:(x.sect==(-1))=false)
 (c5:(x.sect==(-2))=true) :
 Rn pg 45 [V.d (D.agg [D.str x.name,D.int .i64 x.sect,D.int .i64 x.value,D.bool x.glob]),V.d (D.sl ss.nn (ss.l.map TSec.c))] (hp) (V.d (D.bool true)) (hp):=
 Rn.c (fn:=i45) (ex:=.ret) (st:=⟨[(4,V.d (D.bool true))],[]::hp⟩) (hs:=[.b false, .b false, .b false, .b false, .b false, .b false, .b false, .b false, .call (V.d (D.int .i64 (Go.Lib.indexByte x.name (Int.toNat 0).toUInt8))) ([]), .b false, .b false, .b false, .b false, .b true]) (cs:=[_,_,_,_,_,_,_,_,_,_,_,_,_,_]) (rs:=[V.d (D.bool true)]) (t:=[])
 (by kernel_rfl) (by kernel_rfl) (by kernel_rfl) (by kernel_rfl) (by kernel_rfl) (by kernel_rfl) ⟨c0,c0,c0,c0,c0,c1,c1,c1,c2,c1,c1,c3,c4,c5,trivial⟩
theorem w45_5 (x:TSym) (ss:Sl TSec) (hp:HL)
 (c0:(decide (((x.name.length:Nat):Int)<1))=false)
 (c1:(decide (((x.name.length:Nat):Int) > 255))=false)
 (c2:Rn pg 69 [V.d (D.str x.name),V.d (D.int .u8 0)] ([]) (V.d (D.int .i64 (Go.Lib.indexByte x.name (Int.toNat 0).toUInt8))) ([]))
 (c3:(decide ((Go.Lib.indexByte x.name (Int.toNat 0).toUInt8) ≥ 0))=false)
 (c4:(x.sect==(-1))=true)
 (c5:x.glob=false) :
 Rn pg 45 [V.d (D.agg [D.str x.name,D.int .i64 x.sect,D.int .i64 x.value,D.bool x.glob]),V.d (D.sl ss.nn (ss.l.map TSec.c))] (hp) (V.d (D.bool false)) (hp):=
 Rn.c (fn:=i45) (ex:=.ret) (st:=⟨[(4,V.d (D.bool false))],[]::hp⟩) (hs:=[.b false, .b false, .b false, .b false, .b false, .b false, .b false, .b false, .call (V.d (D.int .i64 (Go.Lib.indexByte x.name (Int.toNat 0).toUInt8))) ([]), .b false, .b false, .b false, .b true, .b false, .b false, .b false, .b false]) (cs:=[_,_,_,_,_,_,_,_,_,_,_,_,_,_,_,_,_]) (rs:=[V.d (D.bool false)]) (t:=[])
 (by kernel_rfl) (by kernel_rfl) (by kernel_rfl) (by kernel_rfl) (by kernel_rfl) (by kernel_rfl) ⟨c0,c0,c0,c0,c0,c1,c1,c1,c2,c1,c1,c3,c4,c5,c5,c5,c5,trivial⟩
theorem w45_6 (x:TSym) (ss:Sl TSec) (hp:HL)
 (c0:(decide (((x.name.length:Nat):Int)<1))=false)
 (c1:(decide (((x.name.length:Nat):Int) > 255))=false)
 (c2:Rn pg 69 [V.d (D.str x.name),V.d (D.int .u8 0)] ([]) (V.d (D.int .i64 (Go.Lib.indexByte x.name (Int.toNat 0).toUInt8))) ([]))
 (c3:(decide ((Go.Lib.indexByte x.name (Int.toNat 0).toUInt8) ≥ 0))=false)
 (c4:(x.sect==(-1))=true)
 (c5:x.glob=true) :
 Rn pg 45 [V.d (D.agg [D.str x.name,D.int .i64 x.sect,D.int .i64 x.value,D.bool x.glob]),V.d (D.sl ss.nn (ss.l.map TSec.c))] (hp) (V.d (D.bool (x.value==0))) (hp):=
 Rn.c (fn:=i45) (ex:=.ret) (st:=⟨[(4,V.d (D.bool (x.value==0)))],[]::hp⟩) (hs:=[.b false, .b false, .b false, .b false, .b false, .b false, .b false, .b false, .call (V.d (D.int .i64 (Go.Lib.indexByte x.name (Int.toNat 0).toUInt8))) ([]), .b false, .b false, .b false, .b true, .b true, .b true, .b true, .b true]) (cs:=[_,_,_,_,_,_,_,_,_,_,_,_,_,_,_,_,_]) (rs:=[V.d (D.bool (x.value==0))]) (t:=[])
 (by kernel_rfl) (by kernel_rfl) (by kernel_rfl) (by kernel_rfl) (by kernel_rfl) (by kernel_rfl) ⟨c0,c0,c0,c0,c0,c1,c1,c1,c2,c1,c1,c3,c4,c5,c5,c5,c5,trivial⟩
theorem w45_7 (x:TSym) (ss:Sl TSec) (hp:HL)
 (c0:(decide (((x.name.length:Nat):Int)<1))=false)
 (c1:(decide (((x.name.length:Nat):Int) > 255))=false)
 (c2:Rn pg 69 [V.d (D.str x.name),V.d (D.int .u8 0)] ([]) (V.d (D.int .i64 (Go.Lib.indexByte x.name (Int.toNat 0).toUInt8))) ([]))
 (c3:(decide ((Go.Lib.indexByte x.name (Int.toNat 0).toUInt8) ≥ 0))=true) :
 Rn pg 45 [V.d (D.agg [D.str x.name,D.int .i64 x.sect,D.int .i64 x.value,D.bool x.glob]),V.d (D.sl ss.nn (ss.l.map TSec.c))] (hp) (V.d (D.bool false)) (hp):=
 Rn.c (fn:=i45) (ex:=.ret) (st:=⟨[(4,V.d (D.bool false))],[]::hp⟩) (hs:=[.b false, .b false, .b false, .b false, .b false, .b false, .b false, .b false, .call (V.d (D.int .i64 (Go.Lib.indexByte x.name (Int.toNat 0).toUInt8))) ([]), .b false, .b false, .b true]) (cs:=[_,_,_,_,_,_,_,_,_,_,_,_]) (rs:=[V.d (D.bool false)]) (t:=[])
 (by kernel_rfl) (by kernel_rfl) (by kernel_rfl) (by kernel_rfl) (by kernel_rfl) (by kernel_rfl) ⟨c0,c0,c0,c0,c0,c1,c1,c1,c2,c1,c1,c3,trivial⟩
theorem w45_8 (x:TSym) (ss:Sl TSec) (hp:HL)
 (c0:(decide (((x.name.length:Nat):Int)<1))=false)
 (c1:(decide (((x.name.length:Nat):Int) > 255))=true) :
 Rn pg 45 [V.d (D.agg [D.str x.name,D.int .i64 x.sect,D.int .i64 x.value,D.bool x.glob]),V.d (D.sl ss.nn (ss.l.map TSec.c))] (hp) (V.d (D.bool false)) (hp):=
 Rn.c (fn:=i45) (ex:=.ret) (st:=⟨[(4,V.d (D.bool false))],[]::hp⟩) (hs:=[.b false, .b false, .b false, .b false, .b false, .b true, .b true, .b true, .b true, .b true, .b true]) (cs:=[_,_,_,_,_,_,_,_,_,_,true=true]) (rs:=[V.d (D.bool false)]) (t:=[])
 (by kernel_rfl) (by kernel_rfl) (by kernel_rfl) (by kernel_rfl) (by kernel_rfl) (by kernel_rfl) ⟨c0,c0,c0,c0,c0,c1,c1,c1,c1,c1,rfl,trivial⟩
theorem w45_9 (x:TSym) (ss:Sl TSec) (hp:HL)
 (c0:(decide (((x.name.length:Nat):Int)<1))=true) :
 Rn pg 45 [V.d (D.agg [D.str x.name,D.int .i64 x.sect,D.int .i64 x.value,D.bool x.glob]),V.d (D.sl ss.nn (ss.l.map TSec.c))] (hp) (V.d (D.bool false)) (hp):=
 Rn.c (fn:=i45) (ex:=.ret) (st:=⟨[(4,V.d (D.bool false))],[]::hp⟩) (hs:=[.b true, .b true, .b true, .b true, .b true, .b true, .b true, .b true, .b true, .b true, .b true]) (cs:=[_,_,_,_,_,true=true,true=true,true=true,true=true,true=true,true=true]) (rs:=[V.d (D.bool false)]) (t:=[])
 (by kernel_rfl) (by kernel_rfl) (by kernel_rfl) (by kernel_rfl) (by kernel_rfl) (by kernel_rfl) ⟨c0,c0,c0,c0,c0,rfl,rfl,rfl,rfl,rfl,rfl,trivial⟩
theorem f69 (s:List UInt8) (c:Int) (hp:HL):Rn pg 69 [V.d (D.str s),V.d (D.int .u8 c)] hp (V.d (D.int .i64 (Go.Lib.indexByte s c.toNat.toUInt8))) hp:=w69_0 s c hp (w75_0 s c [] (Rn.ext rfl rfl))
theorem f37 (x:Int) (hp:HL):∃ v,Rn pg 37 [V.d (D.int .i64 x)] hp (V.d (D.int .i64 v)) hp:=by
  cases h0:x==257 with
  | false=>
    cases h1:x==260 with
    | false=>
      cases h2:x==259 with
      | false=>
        cases h3:x==262 with
        | false=>
          cases h4:x==258 with
          | false=>
            cases h5:x==261 with
            | false=>
              cases h6:x==273 with
              | false=>
                cases h7:x==274 with
                | false=>
                  cases h8:x==275 with
                  | false=>
                    cases h9:x==277 with
                    | false=>
                      cases h10:x==278 with
                      | false=>
                        cases h11:x==279 with
                        | false=>
                          cases h12:x==280 with
                          | false=>
                            cases h13:x==282 with
                            | false=>
                              cases h14:x==283 with
                              | false=>
                                cases h15:x==284 with
                                | false=>
                                  cases h16:x==285 with
                                  | false=>
                                    cases h17:x==286 with
                                    | false=>
                                      have r:=w37_0 x hp h0 h1 h2 h3 h4 h5 h6 h7 h8 h9 h10 h11 h12 h13 h14 h15 h16 h17
                                      exact ⟨_,r⟩
                                    | true=>
                                      have r:=w37_1 x hp h0 h1 h2 h3 h4 h5 h6 h7 h8 h9 h10 h11 h12 h13 h14 h15 h16 h17
                                      exact ⟨_,r⟩
                                  | true=>
                                    have r:=w37_2 x hp h0 h1 h2 h3 h4 h5 h6 h7 h8 h9 h10 h11 h12 h13 h14 h15 h16
                                    exact ⟨_,r⟩
                                | true=>
                                  have r:=w37_3 x hp h0 h1 h2 h3 h4 h5 h6 h7 h8 h9 h10 h11 h12 h13 h14 h15
                                  exact ⟨_,r⟩
                              | true=>
                                have r:=w37_4 x hp h0 h1 h2 h3 h4 h5 h6 h7 h8 h9 h10 h11 h12 h13 h14
                                exact ⟨_,r⟩
                            | true=>
                              have r:=w37_5 x hp h0 h1 h2 h3 h4 h5 h6 h7 h8 h9 h10 h11 h12 h13
                              exact ⟨_,r⟩
                          | true=>
                            have r:=w37_6 x hp h0 h1 h2 h3 h4 h5 h6 h7 h8 h9 h10 h11 h12
                            exact ⟨_,r⟩
                        | true=>
                          have r:=w37_7 x hp h0 h1 h2 h3 h4 h5 h6 h7 h8 h9 h10 h11
                          exact ⟨_,r⟩
                      | true=>
                        have r:=w37_8 x hp h0 h1 h2 h3 h4 h5 h6 h7 h8 h9 h10
                        exact ⟨_,r⟩
                    | true=>
                      have r:=w37_9 x hp h0 h1 h2 h3 h4 h5 h6 h7 h8 h9
                      exact ⟨_,r⟩
                  | true=>
                    have r:=w37_10 x hp h0 h1 h2 h3 h4 h5 h6 h7 h8
                    exact ⟨_,r⟩
                | true=>
                  have r:=w37_11 x hp h0 h1 h2 h3 h4 h5 h6 h7
                  exact ⟨_,r⟩
              | true=>
                have r:=w37_12 x hp h0 h1 h2 h3 h4 h5 h6
                exact ⟨_,r⟩
            | true=>
              have r:=w37_13 x hp h0 h1 h2 h3 h4 h5
              exact ⟨_,r⟩
          | true=>
            have r:=w37_14 x hp h0 h1 h2 h3 h4
            exact ⟨_,r⟩
        | true=>
          have r:=w37_15 x hp h0 h1 h2 h3
          exact ⟨_,r⟩
      | true=>
        have r:=w37_16 x hp h0 h1 h2
        exact ⟨_,r⟩
    | true=>
      have r:=w37_17 x hp h0 h1
      exact ⟨_,r⟩
  | true=>
    have r:=w37_18 x hp h0
    exact ⟨_,r⟩
theorem b68 (x:TSec) (z e:Int) (i:Nat) (hp:HL) (hi:i<x.relocs.l.length) (hl:x.relocs.l.length<2 ^ 30):(∃ e',Ev pg i68_l0 ⟨[(1,V.d (D.int .i64 z)),(2,V.ptr 0 2 [] 0 0),(5,V.d (D.int .i64 e)),(14,V.d (D.sl x.relocs.nn (x.relocs.l.map TRlc.c))),(15,V.d (D.int .i64 ((x.relocs.l.length:Nat):Int))),(16,V.d (D.int .i64 ((i:Nat):Int)))],[(2,Ob.row true 6 true [[C.d (D.str x.name),C.d (D.int .i64 x.kind),C.d (D.int .i64 x.align),C.d (D.int .i64 x.size),C.d (D.sl x.data.nn (x.data.l.map u8c)),C.d (D.sl x.relocs.nn (x.relocs.l.map TRlc.c))]])]::hp⟩ .normal ⟨[(1,V.d (D.int .i64 z)),(2,V.ptr 0 2 [] 0 0),(5,V.d (D.int .i64 e')),(14,V.d (D.sl x.relocs.nn (x.relocs.l.map TRlc.c))),(15,V.d (D.int .i64 ((x.relocs.l.length:Nat):Int))),(16,V.d (D.int .i64 ((i+1:Nat):Int)))],[(2,Ob.row true 6 true [[C.d (D.str x.name),C.d (D.int .i64 x.kind),C.d (D.int .i64 x.align),C.d (D.int .i64 x.size),C.d (D.sl x.data.nn (x.data.l.map u8c)),C.d (D.sl x.relocs.nn (x.relocs.l.map TRlc.c))]])]::hp⟩)∨Ev pg i68_l0 ⟨[(1,V.d (D.int .i64 z)),(2,V.ptr 0 2 [] 0 0),(5,V.d (D.int .i64 e)),(14,V.d (D.sl x.relocs.nn (x.relocs.l.map TRlc.c))),(15,V.d (D.int .i64 ((x.relocs.l.length:Nat):Int))),(16,V.d (D.int .i64 ((i:Nat):Int)))],[(2,Ob.row true 6 true [[C.d (D.str x.name),C.d (D.int .i64 x.kind),C.d (D.int .i64 x.align),C.d (D.int .i64 x.size),C.d (D.sl x.data.nn (x.data.l.map u8c)),C.d (D.sl x.relocs.nn (x.relocs.l.map TRlc.c))]])]::hp⟩ .ret ⟨[(4,V.d (D.bool false))],[]::hp⟩:=by
  have hy:x.relocs.l[i]? = some x.relocs.l[i]:=List.getElem?_eq_getElem hi
  generalize x.relocs.l[i]=y at hy
  have hy2:x.relocs.l[i - 1]? = some x.relocs.l[i - 1]:=List.getElem?_eq_getElem (by omega)
  generalize x.relocs.l[i - 1]=y2 at hy2
  obtain ⟨w,r37⟩:=f37 y.typ []
  have hw:IntKind.i64.wrap (((i:Nat):Int)+1)=((i+1:Nat):Int):=wadd1 (by omega)
  have h0:(decide (((i:Nat):Int)<((x.relocs.l.length:Nat):Int)))=true:=lt_t hi
  cases h1:w==0 with
  | false=>
    cases h2:decide (y.off<e) with
    | false=>
      cases h3:decide (y.off > (IntKind.i64.wrap (x.size - w))) with
      | false=>
        cases h4:decide (y.sym<0) with
        | false=>
          cases h5:decide (y.sym ≥ z) with
          | false=>
            cases h6:decide (((i:Nat):Int) > 0) with
            | false=>
              cases h7:decide (y.typ ≥ 273) with
              | false=>
                have r:=w68a_1 x z e i w hp y h0 (map_get (f:=TRlc.c) hy) r37 h1 h2 h3 h4 h5 h6 h7
                rw [hw] at r
                exact .inl ⟨_,r⟩
              | true=>
                cases h8:(Int.tmod y.off 4) != 0 with
                | false=>
                  have r:=w68a_2 x z e i w hp y h0 (map_get (f:=TRlc.c) hy) r37 h1 h2 h3 h4 h5 h6 h7 (by decide) h8
                  rw [hw] at r
                  exact .inl ⟨_,r⟩
                | true=>
                  have r:=w68a_3 x z e i w hp y h0 (map_get (f:=TRlc.c) hy) r37 h1 h2 h3 h4 h5 h6 h7 (by decide) h8
                  exact .inr r
            | true=>
              cases h7:decide (y.off≤y2.off) with
              | false=>
                cases h8:decide (y.typ ≥ 273) with
                | false=>
                  have r:=w68a_4 x z e i w hp y (i - 1) y2 h0 (map_get (f:=TRlc.c) hy) r37 h1 h2 h3 h4 h5 h6 (wsub1 (by have hz:=h6;simp at hz;omega) (by omega)) (map_get (f:=TRlc.c) hy2) h7 h8
                  rw [hw] at r
                  exact .inl ⟨_,r⟩
                | true=>
                  cases h9:(Int.tmod y.off 4) != 0 with
                  | false=>
                    have r:=w68a_5 x z e i w hp y (i - 1) y2 h0 (map_get (f:=TRlc.c) hy) r37 h1 h2 h3 h4 h5 h6 (wsub1 (by have hz:=h6;simp at hz;omega) (by omega)) (map_get (f:=TRlc.c) hy2) h7 h8 (by decide) h9
                    rw [hw] at r
                    exact .inl ⟨_,r⟩
                  | true=>
                    have r:=w68a_6 x z e i w hp y (i - 1) y2 h0 (map_get (f:=TRlc.c) hy) r37 h1 h2 h3 h4 h5 h6 (wsub1 (by have hz:=h6;simp at hz;omega) (by omega)) (map_get (f:=TRlc.c) hy2) h7 h8 (by decide) h9
                    exact .inr r
              | true=>
                have r:=w68a_7 x z e i w hp y (i - 1) y2 h0 (map_get (f:=TRlc.c) hy) r37 h1 h2 h3 h4 h5 h6 (wsub1 (by have hz:=h6;simp at hz;omega) (by omega)) (map_get (f:=TRlc.c) hy2) h7
                exact .inr r
          | true=>
            have r:=w68a_8 x z e i w hp y h0 (map_get (f:=TRlc.c) hy) r37 h1 h2 h3 h4 h5
            exact .inr r
        | true=>
          have r:=w68a_9 x z e i w hp y h0 (map_get (f:=TRlc.c) hy) r37 h1 h2 h3 h4
          exact .inr r
      | true=>
        have r:=w68a_10 x z e i w hp y h0 (map_get (f:=TRlc.c) hy) r37 h1 h2 h3
        exact .inr r
    | true=>
      have r:=w68a_11 x z e i w hp y h0 (map_get (f:=TRlc.c) hy) r37 h1 h2
      exact .inr r
  | true=>
    have r:=w68a_12 x z e i w hp y h0 (map_get (f:=TRlc.c) hy) r37 h1
    exact .inr r
theorem f44 (x:TSec) (z:Int) (hp:HL) (q:Bool) (r66:Rn pg 66 [V.d (D.str x.name)] [] (V.d (D.bool q)) []) (r36:Rn pg 36 [V.d (D.str x.name)] [] (V.d (D.int .i64 (kindOf x.name))) []) (u:Int) (r67:Rn pg 67 [V.d (D.int .u64 (IntKind.u64.wrap x.align))] [] (V.d (D.int .i64 u)) []) (v:Bool) (r68:Rn pg 68 [V.d (D.agg x.c),V.d (D.int .i64 z)] [] (V.d (D.bool v)) []):∃ b,Rn pg 44 [V.d (D.agg x.c),V.d (D.int .i64 z)] hp (V.d (D.bool b)) hp:=by
  cases h0:!q with
  | false=>
    cases h1:x.kind != (kindOf x.name) with
    | false=>
      cases h2:decide (x.align<1) with
      | false=>
        cases h3:decide (x.align > 4096) with
        | false=>
          cases h4:u != 1 with
          | false=>
            cases h5:decide (x.size<0) with
            | false=>
              cases h6:decide (x.size > 1048576) with
              | false=>
                cases h7:x.kind==4 with
                | false=>
                  cases h8:(((x.data.l.map u8c).length:Nat):Int)==x.size with
                  | false=>
                    have r:=w44_0 x z q u v hp r66 h0 r36 h1 h2 h3 r67 h4 h5 h6 h7 h8
                    exact ⟨_,r⟩
                  | true=>
                    have r:=w44_1 x z q u v hp r66 h0 r36 h1 h2 h3 r67 h4 h5 h6 h7 h8 r68
                    exact ⟨_,r⟩
                | true=>
                  cases h8:(((x.data.l.map u8c).length:Nat):Int)==0 with
                  | false=>
                    have r:=w44_2 x z q u v hp r66 h0 r36 h1 h2 h3 r67 h4 h5 h6 h7 h8
                    exact ⟨_,r⟩
                  | true=>
                    have r:=w44_3 x z q u v hp r66 h0 r36 h1 h2 h3 r67 h4 h5 h6 h7 h8
                    exact ⟨_,r⟩
              | true=>
                have r:=w44_4 x z q u v hp r66 h0 r36 h1 h2 h3 r67 h4 h5 h6
                exact ⟨_,r⟩
            | true=>
              have r:=w44_5 x z q u v hp r66 h0 r36 h1 h2 h3 r67 h4 h5
              exact ⟨_,r⟩
          | true=>
            have r:=w44_6 x z q u v hp r66 h0 r36 h1 h2 h3 r67 h4
            exact ⟨_,r⟩
        | true=>
          have r:=w44_7 x z q u v hp r66 h0 r36 h1 h2 h3
          exact ⟨_,r⟩
      | true=>
        have r:=w44_8 x z q u v hp r66 h0 r36 h1 h2
        exact ⟨_,r⟩
    | true=>
      have r:=w44_9 x z q u v hp r66 h0 r36 h1
      exact ⟨_,r⟩
  | true=>
    have r:=w44_10 x z q u v hp r66 h0
    exact ⟨_,r⟩
theorem f45 (x:TSym) (ss:Sl TSec) (hp:HL):∃ b,Rn pg 45 [V.d (D.agg x.c),V.d (D.sl ss.nn (ss.l.map TSec.c))] hp (V.d (D.bool b)) hp:=by
  cases h0:decide (((x.name.length:Nat):Int)<1) with
  | false=>
    cases h1:decide (((x.name.length:Nat):Int) > 255) with
    | false=>
      cases h2:decide ((Go.Lib.indexByte x.name (Int.toNat 0).toUInt8) ≥ 0) with
      | false=>
        cases h3:x.sect==(-1) with
        | false=>
          cases h4:x.sect==(-2) with
          | false=>
            cases h5:decide (x.sect ≥ 0) with
            | false=>
              have r:=w45_0 x ss hp h0 h1 (f69 _ _ []) h2 h3 h4 h5
              exact ⟨_,r⟩
            | true=>
              cases h6:decide (x.sect<(((ss.l.map TSec.c).length:Nat):Int)) with
              | false=>
                have r:=w45_1 x ss hp h0 h1 (f69 _ _ []) h2 h3 h4 h5 h6
                exact ⟨_,r⟩
              | true=>
                cases h7:decide (x.value ≥ 0) with
                | false=>
                  have r:=w45_2 x ss hp h0 h1 (f69 _ _ []) h2 h3 h4 h5 h6 h7
                  exact ⟨_,r⟩
                | true=>
                  obtain ⟨y,hy⟩:∃ y,ss.l[x.sect.toNat]? = some y:=⟨_,List.getElem?_eq_getElem (by simp at h5 h6;omega)⟩
                  have r:=w45_3 x ss hp (x.sect.toNat) y h0 h1 (f69 _ _ []) h2 h3 h4 h5 h6 h7 (by have hz:=h5;simp at hz;omega) (map_get (f:=TSec.c) hy)
                  exact ⟨_,r⟩
          | true=>
            have r:=w45_4 x ss hp h0 h1 (f69 _ _ []) h2 h3 h4
            exact ⟨_,r⟩
        | true=>
          cases h4:x.glob with
          | false=>
            have r:=w45_5 x ss hp h0 h1 (f69 _ _ []) h2 h3 h4
            exact ⟨_,r⟩
          | true=>
            have r:=w45_6 x ss hp h0 h1 (f69 _ _ []) h2 h3 h4
            exact ⟨_,r⟩
      | true=>
        have r:=w45_7 x ss hp h0 h1 (f69 _ _ []) h2
        exact ⟨_,r⟩
    | true=>
      have r:=w45_8 x ss hp h0 h1
      exact ⟨_,r⟩
  | true=>
    have r:=w45_9 x ss hp h0
    exact ⟨_,r⟩
end Go.Proofs.YtgmphfmoonbfpaaMv

set_option maxRecDepth 100000
namespace Go.Proofs.YtgmphfmoonbfpaaMv
open Go
theorem w46a_0 (b:Bool) (l:List TSym) (z:Int) (hp:HL)
    (c0:(decide (z > 0))=false) :
    Ev pg i46_l0 ⟨[(0,V.d (D.sl b (l.map TSym.c))),(1,V.fn 41 []),(5,V.d (D.int .i64 z))],[]::hp⟩ (.exit 0) ⟨[(0,V.d (D.sl b (l.map TSym.c))),(1,V.fn 41 []),(5,V.d (D.int .i64 z)),(10,V.d (D.bool false))],[]::hp⟩:=
  by
  have r:Ev pg i46_l0 ⟨[(0,V.d (D.sl b (l.map TSym.c))),(1,V.fn 41 []),(5,V.d (D.int .i64 z))],[]::hp⟩ (.exit 0) ⟨[(0,V.d (D.sl b (l.map TSym.c))),(1,V.fn 41 []),(5,V.d (D.int .i64 z)),(10,V.d (D.bool (decide (z > 0))))],[]::hp⟩:=
  codeC_ok (hs:=[.b false]) (hs':=[]) (cs:=[_]) (by kernel_rfl) ⟨c0,trivial⟩
  simp only [c0] at r
  exact r
theorem w46a_1 (b:Bool) (l:List TSym) (z:Int) (hp:HL) (k1:Nat) (x2:TSym) (k3:Nat) (x4:TSym)
    (c0:(decide (z > 0))=true)
    (c1:z=((k1:Nat):Int))
    (c2:(l.map TSym.c)[k1]? = some [D.str x2.name,D.int .i64 x2.sect,D.int .i64 x2.value,D.bool x2.glob])
    (c3:(IntKind.i64.wrap (z - 1))=((k3:Nat):Int))
    (c4:(l.map TSym.c)[k3]? = some [D.str x4.name,D.int .i64 x4.sect,D.int .i64 x4.value,D.bool x4.glob])
    (c5:Rn pg 41 [V.d (D.agg [D.str x2.name,D.int .i64 x2.sect,D.int .i64 x2.value,D.bool x2.glob]),V.d (D.agg [D.str x4.name,D.int .i64 x4.sect,D.int .i64 x4.value,D.bool x4.glob])] ([]) (V.d (D.int .i64 (cmpS x2 x4))) ([]))
    (c6:(decide ((cmpS x2 x4)<0))=false) :
    Ev pg i46_l0 ⟨[(0,V.d (D.sl b (l.map TSym.c))),(1,V.fn 41 []),(5,V.d (D.int .i64 z))],[]::hp⟩ .normal ⟨[(0,V.d (D.sl b (l.map TSym.c))),(1,V.fn 41 []),(5,V.d (D.int .i64 (IntKind.i64.wrap (z - 1))))],[]::hp⟩:=
  codeC_ok (hs:=[.b true, .n k1, .ds [D.str x2.name,D.int .i64 x2.sect,D.int .i64 x2.value,D.bool x2.glob], .n k3, .ds [D.str x4.name,D.int .i64 x4.sect,D.int .i64 x4.value,D.bool x4.glob], .call (V.d (D.int .i64 (cmpS x2 x4))) ([]), .b false]) (hs':=[]) (cs:=[_,_,_,_,_,_,_]) (by kernel_rfl) ⟨c0,c1,c2,c3,c4,c5,c6,trivial⟩
theorem w46a_2 (b:Bool) (l:List TSym) (z:Int) (hp:HL) (k1:Nat) (x2:TSym) (k3:Nat) (x4:TSym)
    (c0:(decide (z > 0))=true)
    (c1:z=((k1:Nat):Int))
    (c2:(l.map TSym.c)[k1]? = some [D.str x2.name,D.int .i64 x2.sect,D.int .i64 x2.value,D.bool x2.glob])
    (c3:(IntKind.i64.wrap (z - 1))=((k3:Nat):Int))
    (c4:(l.map TSym.c)[k3]? = some [D.str x4.name,D.int .i64 x4.sect,D.int .i64 x4.value,D.bool x4.glob])
    (c5:Rn pg 41 [V.d (D.agg [D.str x2.name,D.int .i64 x2.sect,D.int .i64 x2.value,D.bool x2.glob]),V.d (D.agg [D.str x4.name,D.int .i64 x4.sect,D.int .i64 x4.value,D.bool x4.glob])] ([]) (V.d (D.int .i64 (cmpS x2 x4))) ([]))
    (c6:(decide ((cmpS x2 x4)<0))=true) :
    Ev pg i46_l0 ⟨[(0,V.d (D.sl b (l.map TSym.c))),(1,V.fn 41 []),(5,V.d (D.int .i64 z))],[]::hp⟩ .ret ⟨[(4,V.d (D.bool false))],[]::hp⟩:=
  codeC_ok (hs:=[.b true, .n k1, .ds [D.str x2.name,D.int .i64 x2.sect,D.int .i64 x2.value,D.bool x2.glob], .n k3, .ds [D.str x4.name,D.int .i64 x4.sect,D.int .i64 x4.value,D.bool x4.glob], .call (V.d (D.int .i64 (cmpS x2 x4))) ([]), .b true]) (hs':=[]) (cs:=[_,_,_,_,_,_,_]) (by kernel_rfl) ⟨c0,c1,c2,c3,c4,c5,c6,trivial⟩
theorem w46_0 (b:Bool) (l:List TSym) (hp:HL) (z1:Int)
 (c0:Lp pg i46_l0 ⟨[(0,V.d (D.sl b (l.map TSym.c))),(1,V.fn 41 []),(5,V.d (D.int .i64 (IntKind.i64.wrap ((((l.map TSym.c).length:Nat):Int) - 1))))],[]::hp⟩ (.exit 0) ⟨[(0,V.d (D.sl b (l.map TSym.c))),(1,V.fn 41 []),(5,V.d (D.int .i64 z1)),(10,V.d (D.bool false))],[]::hp⟩) :
 Rn pg 46 [V.d (D.sl b (l.map TSym.c)),V.fn 41 []] (hp) (V.d (D.bool true)) (hp):=
 Rn.c (fn:=i46) (ex:=.ret) (st:=⟨[(4,V.d (D.bool true))],[]::hp⟩) (hs:=[.lp (.exit 0) ⟨[(0,V.d (D.sl b (l.map TSym.c))),(1,V.fn 41 []),(5,V.d (D.int .i64 z1)),(10,V.d (D.bool false))],[]::hp⟩]) (cs:=[_]) (rs:=[V.d (D.bool true)]) (t:=[])
 (by kernel_rfl) (by kernel_rfl) (by kernel_rfl) (by kernel_rfl) (by kernel_rfl) (by kernel_rfl) ⟨c0,trivial⟩
theorem w46_1 (b:Bool) (l:List TSym) (hp:HL)
 (c0:Lp pg i46_l0 ⟨[(0,V.d (D.sl b (l.map TSym.c))),(1,V.fn 41 []),(5,V.d (D.int .i64 (IntKind.i64.wrap ((((l.map TSym.c).length:Nat):Int) - 1))))],[]::hp⟩ .ret ⟨[(4,V.d (D.bool false))],[]::hp⟩) :
 Rn pg 46 [V.d (D.sl b (l.map TSym.c)),V.fn 41 []] (hp) (V.d (D.bool false)) (hp):=
 Rn.c (fn:=i46) (ex:=.ret) (st:=⟨[(4,V.d (D.bool false))],[]::hp⟩) (hs:=[.lp .ret ⟨[(4,V.d (D.bool false))],[]::hp⟩]) (cs:=[_]) (rs:=[V.d (D.bool false)]) (t:=[])
 (by kernel_rfl) (by kernel_rfl) (by kernel_rfl) (by kernel_rfl) (by kernel_rfl) (by kernel_rfl) ⟨c0,trivial⟩
theorem w23a_0 (o:TObj) (i:Nat) (es:List (D × D)) (q:Bool) (hp:HL)
    (c0:(decide (((i:Nat):Int)<((o.sections.l.length:Nat):Int)))=false) :
    Ev pg i23_l0 ⟨[(1,V.ptr 0 1 [] 0 0),(3,V.mp 0 19 none),(21,V.d (D.sl o.sections.nn (o.sections.l.map TSec.c))),(22,V.d (D.int .i64 ((o.sections.l.length:Nat):Int))),(23,V.d (D.int .i64 ((i:Nat):Int)))],[(1,Ob.row true 2 true [[C.d (D.sl o.sections.nn (o.sections.l.map TSec.c)),C.d (D.sl o.symbols.nn (o.symbols.l.map TSym.c))]]),(19,Ob.map es)]::hp⟩ (.exit 0) ⟨[(1,V.ptr 0 1 [] 0 0),(3,V.mp 0 19 none),(21,V.d (D.sl o.sections.nn (o.sections.l.map TSec.c))),(22,V.d (D.int .i64 ((o.sections.l.length:Nat):Int))),(23,V.d (D.int .i64 ((i:Nat):Int))),(24,V.d (D.bool false))],[(1,Ob.row true 2 true [[C.d (D.sl o.sections.nn (o.sections.l.map TSec.c)),C.d (D.sl o.symbols.nn (o.symbols.l.map TSym.c))]]),(19,Ob.map es)]::hp⟩:=
  by
  have r:Ev pg i23_l0 ⟨[(1,V.ptr 0 1 [] 0 0),(3,V.mp 0 19 none),(21,V.d (D.sl o.sections.nn (o.sections.l.map TSec.c))),(22,V.d (D.int .i64 ((o.sections.l.length:Nat):Int))),(23,V.d (D.int .i64 ((i:Nat):Int)))],[(1,Ob.row true 2 true [[C.d (D.sl o.sections.nn (o.sections.l.map TSec.c)),C.d (D.sl o.symbols.nn (o.symbols.l.map TSym.c))]]),(19,Ob.map es)]::hp⟩ (.exit 0) ⟨[(1,V.ptr 0 1 [] 0 0),(3,V.mp 0 19 none),(21,V.d (D.sl o.sections.nn (o.sections.l.map TSec.c))),(22,V.d (D.int .i64 ((o.sections.l.length:Nat):Int))),(23,V.d (D.int .i64 ((i:Nat):Int))),(24,V.d (D.bool (decide (((i:Nat):Int)<((o.sections.l.length:Nat):Int)))))],[(1,Ob.row true 2 true [[C.d (D.sl o.sections.nn (o.sections.l.map TSec.c)),C.d (D.sl o.symbols.nn (o.symbols.l.map TSym.c))]]),(19,Ob.map es)]::hp⟩:=
  codeC_ok (hs:=[.b false]) (hs':=[]) (cs:=[_]) (by kernel_rfl) ⟨c0,trivial⟩
  simp only [c0] at r
  exact r
theorem w23a_1 (o:TObj) (i:Nat) (es:List (D × D)) (q:Bool) (hp:HL) (x1:TSec) (es2:List (D × D))
    (c0:(decide (((i:Nat):Int)<((o.sections.l.length:Nat):Int)))=true)
    (c1:(o.sections.l.map TSec.c)[i]? = some [D.str x1.name,D.int .i64 x1.kind,D.int .i64 x1.align,D.int .i64 x1.size,D.sl x1.data.nn (x1.data.l.map u8c),D.sl x1.relocs.nn (x1.relocs.l.map TRlc.c)])
    (c2:Rn pg 44 [V.d (D.agg [D.str x1.name,D.int .i64 x1.kind,D.int .i64 x1.align,D.int .i64 x1.size,D.sl x1.data.nn (x1.data.l.map u8c),D.sl x1.relocs.nn (x1.relocs.l.map TRlc.c)]),V.d (D.int .i64 (((o.symbols.l.map TSym.c).length:Nat):Int))] ([]) (V.d (D.bool q)) ([]))
    (c3:(!q)=false)
    (c4:findD false [2] (D.str x1.name) es=some none)
    (c5:(findD false [2] (D.str x1.name) es).isSome=true)
    (c6:putD false [2] (D.str x1.name) (D.bool true) es=some es2) :
    Ev pg i23_l0 ⟨[(1,V.ptr 0 1 [] 0 0),(3,V.mp 0 19 none),(21,V.d (D.sl o.sections.nn (o.sections.l.map TSec.c))),(22,V.d (D.int .i64 ((o.sections.l.length:Nat):Int))),(23,V.d (D.int .i64 ((i:Nat):Int)))],[(1,Ob.row true 2 true [[C.d (D.sl o.sections.nn (o.sections.l.map TSec.c)),C.d (D.sl o.symbols.nn (o.symbols.l.map TSym.c))]]),(19,Ob.map es)]::hp⟩ .normal ⟨[(1,V.ptr 0 1 [] 0 0),(3,V.mp 0 19 none),(21,V.d (D.sl o.sections.nn (o.sections.l.map TSec.c))),(22,V.d (D.int .i64 ((o.sections.l.length:Nat):Int))),(23,V.d (D.int .i64 (IntKind.i64.wrap (((i:Nat):Int)+1))))],[(1,Ob.row true 2 true [[C.d (D.sl o.sections.nn (o.sections.l.map TSec.c)),C.d (D.sl o.symbols.nn (o.symbols.l.map TSym.c))]]),(19,Ob.map es2)]::hp⟩:=
  codeC_ok (hs:=[.b true, .n i, .ds [D.str x1.name,D.int .i64 x1.kind,D.int .i64 x1.align,D.int .i64 x1.size,D.sl x1.data.nn (x1.data.l.map u8c),D.sl x1.relocs.nn (x1.relocs.l.map TRlc.c)], .call (V.d (D.bool q)) ([]), .b false, .b false, .b false, .b false, .o none, .b false, .b false, .es es2]) (hs':=[]) (cs:=[_,((i:Nat):Int)=((i:Nat):Int),_,_,_,_,_,_,_,_,false=false,_,_]) (by kernel_rfl) ⟨c0,rfl,c1,c2,c3,c3,c3,c3,c4,c3,rfl,c5,c6,trivial⟩
theorem w23a_2 (o:TObj) (i:Nat) (es:List (D × D)) (q:Bool) (hp:HL) (x1:TSec) (q2:Bool) (es3:List (D × D))
    (c0:(decide (((i:Nat):Int)<((o.sections.l.length:Nat):Int)))=true)
    (c1:(o.sections.l.map TSec.c)[i]? = some [D.str x1.name,D.int .i64 x1.kind,D.int .i64 x1.align,D.int .i64 x1.size,D.sl x1.data.nn (x1.data.l.map u8c),D.sl x1.relocs.nn (x1.relocs.l.map TRlc.c)])
    (c2:Rn pg 44 [V.d (D.agg [D.str x1.name,D.int .i64 x1.kind,D.int .i64 x1.align,D.int .i64 x1.size,D.sl x1.data.nn (x1.data.l.map u8c),D.sl x1.relocs.nn (x1.relocs.l.map TRlc.c)]),V.d (D.int .i64 (((o.symbols.l.map TSym.c).length:Nat):Int))] ([]) (V.d (D.bool q)) ([]))
    (c3:(!q)=false)
    (c4:findD false [2] (D.str x1.name) es=some (some (D.bool q2)))
    (c5:q2=false)
    (c6:(findD false [2] (D.str x1.name) es).isSome=true)
    (c7:putD false [2] (D.str x1.name) (D.bool true) es=some es3) :
    Ev pg i23_l0 ⟨[(1,V.ptr 0 1 [] 0 0),(3,V.mp 0 19 none),(21,V.d (D.sl o.sections.nn (o.sections.l.map TSec.c))),(22,V.d (D.int .i64 ((o.sections.l.length:Nat):Int))),(23,V.d (D.int .i64 ((i:Nat):Int)))],[(1,Ob.row true 2 true [[C.d (D.sl o.sections.nn (o.sections.l.map TSec.c)),C.d (D.sl o.symbols.nn (o.symbols.l.map TSym.c))]]),(19,Ob.map es)]::hp⟩ .normal ⟨[(1,V.ptr 0 1 [] 0 0),(3,V.mp 0 19 none),(21,V.d (D.sl o.sections.nn (o.sections.l.map TSec.c))),(22,V.d (D.int .i64 ((o.sections.l.length:Nat):Int))),(23,V.d (D.int .i64 (IntKind.i64.wrap (((i:Nat):Int)+1))))],[(1,Ob.row true 2 true [[C.d (D.sl o.sections.nn (o.sections.l.map TSec.c)),C.d (D.sl o.symbols.nn (o.symbols.l.map TSym.c))]]),(19,Ob.map es3)]::hp⟩:=
  codeC_ok (hs:=[.b true, .n i, .ds [D.str x1.name,D.int .i64 x1.kind,D.int .i64 x1.align,D.int .i64 x1.size,D.sl x1.data.nn (x1.data.l.map u8c),D.sl x1.relocs.nn (x1.relocs.l.map TRlc.c)], .call (V.d (D.bool q)) ([]), .b false, .b false, .b false, .b false, .o (some (D.bool q2)), .b false, .b false, .es es3]) (hs':=[]) (cs:=[_,((i:Nat):Int)=((i:Nat):Int),_,_,_,_,_,_,_,_,_,_,_]) (by kernel_rfl) ⟨c0,rfl,c1,c2,c3,c3,c3,c3,c4,c3,c5,c6,c7,trivial⟩
theorem w23a_3 (o:TObj) (i:Nat) (es:List (D × D)) (q:Bool) (hp:HL) (x1:TSec) (q2:Bool)
    (c0:(decide (((i:Nat):Int)<((o.sections.l.length:Nat):Int)))=true)
    (c1:(o.sections.l.map TSec.c)[i]? = some [D.str x1.name,D.int .i64 x1.kind,D.int .i64 x1.align,D.int .i64 x1.size,D.sl x1.data.nn (x1.data.l.map u8c),D.sl x1.relocs.nn (x1.relocs.l.map TRlc.c)])
    (c2:Rn pg 44 [V.d (D.agg [D.str x1.name,D.int .i64 x1.kind,D.int .i64 x1.align,D.int .i64 x1.size,D.sl x1.data.nn (x1.data.l.map u8c),D.sl x1.relocs.nn (x1.relocs.l.map TRlc.c)]),V.d (D.int .i64 (((o.symbols.l.map TSym.c).length:Nat):Int))] ([]) (V.d (D.bool q)) ([]))
    (c3:(!q)=false)
    (c4:findD false [2] (D.str x1.name) es=some (some (D.bool q2)))
    (c5:q2=true) :
    Ev pg i23_l0 ⟨[(1,V.ptr 0 1 [] 0 0),(3,V.mp 0 19 none),(21,V.d (D.sl o.sections.nn (o.sections.l.map TSec.c))),(22,V.d (D.int .i64 ((o.sections.l.length:Nat):Int))),(23,V.d (D.int .i64 ((i:Nat):Int)))],[(1,Ob.row true 2 true [[C.d (D.sl o.sections.nn (o.sections.l.map TSec.c)),C.d (D.sl o.symbols.nn (o.symbols.l.map TSym.c))]]),(19,Ob.map es)]::hp⟩ .ret ⟨[(2,V.d (D.int .i64 140))],[]::hp⟩:=
  codeC_ok (hs:=[.b true, .n i, .ds [D.str x1.name,D.int .i64 x1.kind,D.int .i64 x1.align,D.int .i64 x1.size,D.sl x1.data.nn (x1.data.l.map u8c),D.sl x1.relocs.nn (x1.relocs.l.map TRlc.c)], .call (V.d (D.bool q)) ([]), .b false, .b false, .b false, .b false, .o (some (D.bool q2)), .b false, .b true]) (hs':=[]) (cs:=[_,((i:Nat):Int)=((i:Nat):Int),_,_,_,_,_,_,_,_,_]) (by kernel_rfl) ⟨c0,rfl,c1,c2,c3,c3,c3,c3,c4,c3,c5,trivial⟩
theorem w23a_4 (o:TObj) (i:Nat) (es:List (D × D)) (q:Bool) (hp:HL) (x1:TSec)
    (c0:(decide (((i:Nat):Int)<((o.sections.l.length:Nat):Int)))=true)
    (c1:(o.sections.l.map TSec.c)[i]? = some [D.str x1.name,D.int .i64 x1.kind,D.int .i64 x1.align,D.int .i64 x1.size,D.sl x1.data.nn (x1.data.l.map u8c),D.sl x1.relocs.nn (x1.relocs.l.map TRlc.c)])
    (c2:Rn pg 44 [V.d (D.agg [D.str x1.name,D.int .i64 x1.kind,D.int .i64 x1.align,D.int .i64 x1.size,D.sl x1.data.nn (x1.data.l.map u8c),D.sl x1.relocs.nn (x1.relocs.l.map TRlc.c)]),V.d (D.int .i64 (((o.symbols.l.map TSym.c).length:Nat):Int))] ([]) (V.d (D.bool q)) ([]))
    (c3:(!q)=true) :
    Ev pg i23_l0 ⟨[(1,V.ptr 0 1 [] 0 0),(3,V.mp 0 19 none),(21,V.d (D.sl o.sections.nn (o.sections.l.map TSec.c))),(22,V.d (D.int .i64 ((o.sections.l.length:Nat):Int))),(23,V.d (D.int .i64 ((i:Nat):Int)))],[(1,Ob.row true 2 true [[C.d (D.sl o.sections.nn (o.sections.l.map TSec.c)),C.d (D.sl o.symbols.nn (o.symbols.l.map TSym.c))]]),(19,Ob.map es)]::hp⟩ .ret ⟨[(2,V.d (D.int .i64 140))],[]::hp⟩:=
  codeC_ok (hs:=[.b true, .n i, .ds [D.str x1.name,D.int .i64 x1.kind,D.int .i64 x1.align,D.int .i64 x1.size,D.sl x1.data.nn (x1.data.l.map u8c),D.sl x1.relocs.nn (x1.relocs.l.map TRlc.c)], .call (V.d (D.bool q)) ([]), .b true, .b true, .b true, .b true, .b true, .b true]) (hs':=[]) (cs:=[_,((i:Nat):Int)=((i:Nat):Int),_,_,_,_,_,_,_,true=true]) (by kernel_rfl) ⟨c0,rfl,c1,c2,c3,c3,c3,c3,c3,rfl,trivial⟩
theorem w23b_0 (o:TObj) (i:Nat) (es:List (D × D)) (q:Bool) (hp:HL)
    (c0:(decide (((i:Nat):Int)<((o.symbols.l.length:Nat):Int)))=false) :
    Ev pg i23_l2 ⟨[(1,V.ptr 0 1 [] 0 0),(6,V.mp 0 43 none),(45,V.d (D.sl o.symbols.nn (o.symbols.l.map TSym.c))),(46,V.d (D.int .i64 ((o.symbols.l.length:Nat):Int))),(47,V.d (D.int .i64 ((i:Nat):Int)))],[(1,Ob.row true 2 true [[C.d (D.sl o.sections.nn (o.sections.l.map TSec.c)),C.d (D.sl o.symbols.nn (o.symbols.l.map TSym.c))]]),(43,Ob.map es)]::hp⟩ (.exit 2) ⟨[(1,V.ptr 0 1 [] 0 0),(6,V.mp 0 43 none),(45,V.d (D.sl o.symbols.nn (o.symbols.l.map TSym.c))),(46,V.d (D.int .i64 ((o.symbols.l.length:Nat):Int))),(47,V.d (D.int .i64 ((i:Nat):Int))),(48,V.d (D.bool false))],[(1,Ob.row true 2 true [[C.d (D.sl o.sections.nn (o.sections.l.map TSec.c)),C.d (D.sl o.symbols.nn (o.symbols.l.map TSym.c))]]),(43,Ob.map es)]::hp⟩:=
  by
  have r:Ev pg i23_l2 ⟨[(1,V.ptr 0 1 [] 0 0),(6,V.mp 0 43 none),(45,V.d (D.sl o.symbols.nn (o.symbols.l.map TSym.c))),(46,V.d (D.int .i64 ((o.symbols.l.length:Nat):Int))),(47,V.d (D.int .i64 ((i:Nat):Int)))],[(1,Ob.row true 2 true [[C.d (D.sl o.sections.nn (o.sections.l.map TSec.c)),C.d (D.sl o.symbols.nn (o.symbols.l.map TSym.c))]]),(43,Ob.map es)]::hp⟩ (.exit 2) ⟨[(1,V.ptr 0 1 [] 0 0),(6,V.mp 0 43 none),(45,V.d (D.sl o.symbols.nn (o.symbols.l.map TSym.c))),(46,V.d (D.int .i64 ((o.symbols.l.length:Nat):Int))),(47,V.d (D.int .i64 ((i:Nat):Int))),(48,V.d (D.bool (decide (((i:Nat):Int)<((o.symbols.l.length:Nat):Int)))))],[(1,Ob.row true 2 true [[C.d (D.sl o.sections.nn (o.sections.l.map TSec.c)),C.d (D.sl o.symbols.nn (o.symbols.l.map TSym.c))]]),(43,Ob.map es)]::hp⟩:=
  codeC_ok (hs:=[.b false]) (hs':=[]) (cs:=[_]) (by kernel_rfl) ⟨c0,trivial⟩
  simp only [c0] at r
  exact r
theorem w23b_1 (o:TObj) (i:Nat) (es:List (D × D)) (q:Bool) (hp:HL) (x1:TSym) (es2:List (D × D))
    (c0:(decide (((i:Nat):Int)<((o.symbols.l.length:Nat):Int)))=true)
    (c1:(o.symbols.l.map TSym.c)[i]? = some [D.str x1.name,D.int .i64 x1.sect,D.int .i64 x1.value,D.bool x1.glob])
    (c2:Rn pg 45 [V.d (D.agg [D.str x1.name,D.int .i64 x1.sect,D.int .i64 x1.value,D.bool x1.glob]),V.d (D.sl o.sections.nn (o.sections.l.map TSec.c))] ([]) (V.d (D.bool q)) ([]))
    (c3:(!q)=false)
    (c4:findD false [2] (D.str x1.name) es=some none)
    (c5:(findD false [2] (D.str x1.name) es).isSome=true)
    (c6:putD false [2] (D.str x1.name) (D.bool true) es=some es2) :
    Ev pg i23_l2 ⟨[(1,V.ptr 0 1 [] 0 0),(6,V.mp 0 43 none),(45,V.d (D.sl o.symbols.nn (o.symbols.l.map TSym.c))),(46,V.d (D.int .i64 ((o.symbols.l.length:Nat):Int))),(47,V.d (D.int .i64 ((i:Nat):Int)))],[(1,Ob.row true 2 true [[C.d (D.sl o.sections.nn (o.sections.l.map TSec.c)),C.d (D.sl o.symbols.nn (o.symbols.l.map TSym.c))]]),(43,Ob.map es)]::hp⟩ .normal ⟨[(1,V.ptr 0 1 [] 0 0),(6,V.mp 0 43 none),(45,V.d (D.sl o.symbols.nn (o.symbols.l.map TSym.c))),(46,V.d (D.int .i64 ((o.symbols.l.length:Nat):Int))),(47,V.d (D.int .i64 (IntKind.i64.wrap (((i:Nat):Int)+1))))],[(1,Ob.row true 2 true [[C.d (D.sl o.sections.nn (o.sections.l.map TSec.c)),C.d (D.sl o.symbols.nn (o.symbols.l.map TSym.c))]]),(43,Ob.map es2)]::hp⟩:=
  codeC_ok (hs:=[.b true, .n i, .ds [D.str x1.name,D.int .i64 x1.sect,D.int .i64 x1.value,D.bool x1.glob], .call (V.d (D.bool q)) ([]), .b false, .b false, .b false, .b false, .o none, .b false, .b false, .es es2]) (hs':=[]) (cs:=[_,((i:Nat):Int)=((i:Nat):Int),_,_,_,_,_,_,_,_,false=false,_,_]) (by kernel_rfl) ⟨c0,rfl,c1,c2,c3,c3,c3,c3,c4,c3,rfl,c5,c6,trivial⟩
theorem w23b_2 (o:TObj) (i:Nat) (es:List (D × D)) (q:Bool) (hp:HL) (x1:TSym) (q2:Bool) (es3:List (D × D))
    (c0:(decide (((i:Nat):Int)<((o.symbols.l.length:Nat):Int)))=true)
    (c1:(o.symbols.l.map TSym.c)[i]? = some [D.str x1.name,D.int .i64 x1.sect,D.int .i64 x1.value,D.bool x1.glob])
    (c2:Rn pg 45 [V.d (D.agg [D.str x1.name,D.int .i64 x1.sect,D.int .i64 x1.value,D.bool x1.glob]),V.d (D.sl o.sections.nn (o.sections.l.map TSec.c))] ([]) (V.d (D.bool q)) ([]))
    (c3:(!q)=false)
    (c4:findD false [2] (D.str x1.name) es=some (some (D.bool q2)))
    (c5:q2=false)
    (c6:(findD false [2] (D.str x1.name) es).isSome=true)
    (c7:putD false [2] (D.str x1.name) (D.bool true) es=some es3) :
    Ev pg i23_l2 ⟨[(1,V.ptr 0 1 [] 0 0),(6,V.mp 0 43 none),(45,V.d (D.sl o.symbols.nn (o.symbols.l.map TSym.c))),(46,V.d (D.int .i64 ((o.symbols.l.length:Nat):Int))),(47,V.d (D.int .i64 ((i:Nat):Int)))],[(1,Ob.row true 2 true [[C.d (D.sl o.sections.nn (o.sections.l.map TSec.c)),C.d (D.sl o.symbols.nn (o.symbols.l.map TSym.c))]]),(43,Ob.map es)]::hp⟩ .normal ⟨[(1,V.ptr 0 1 [] 0 0),(6,V.mp 0 43 none),(45,V.d (D.sl o.symbols.nn (o.symbols.l.map TSym.c))),(46,V.d (D.int .i64 ((o.symbols.l.length:Nat):Int))),(47,V.d (D.int .i64 (IntKind.i64.wrap (((i:Nat):Int)+1))))],[(1,Ob.row true 2 true [[C.d (D.sl o.sections.nn (o.sections.l.map TSec.c)),C.d (D.sl o.symbols.nn (o.symbols.l.map TSym.c))]]),(43,Ob.map es3)]::hp⟩:=
  codeC_ok (hs:=[.b true, .n i, .ds [D.str x1.name,D.int .i64 x1.sect,D.int .i64 x1.value,D.bool x1.glob], .call (V.d (D.bool q)) ([]), .b false, .b false, .b false, .b false, .o (some (D.bool q2)), .b false, .b false, .es es3]) (hs':=[]) (cs:=[_,((i:Nat):Int)=((i:Nat):Int),_,_,_,_,_,_,_,_,_,_,_]) (by kernel_rfl) ⟨c0,rfl,c1,c2,c3,c3,c3,c3,c4,c3,c5,c6,c7,trivial⟩
theorem w23b_3 (o:TObj) (i:Nat) (es:List (D × D)) (q:Bool) (hp:HL) (x1:TSym) (q2:Bool)
    (c0:(decide (((i:Nat):Int)<((o.symbols.l.length:Nat):Int)))=true)
    (c1:(o.symbols.l.map TSym.c)[i]? = some [D.str x1.name,D.int .i64 x1.sect,D.int .i64 x1.value,D.bool x1.glob])
    (c2:Rn pg 45 [V.d (D.agg [D.str x1.name,D.int .i64 x1.sect,D.int .i64 x1.value,D.bool x1.glob]),V.d (D.sl o.sections.nn (o.sections.l.map TSec.c))] ([]) (V.d (D.bool q)) ([]))
    (c3:(!q)=false)
    (c4:findD false [2] (D.str x1.name) es=some (some (D.bool q2)))
    (c5:q2=true) :
    Ev pg i23_l2 ⟨[(1,V.ptr 0 1 [] 0 0),(6,V.mp 0 43 none),(45,V.d (D.sl o.symbols.nn (o.symbols.l.map TSym.c))),(46,V.d (D.int .i64 ((o.symbols.l.length:Nat):Int))),(47,V.d (D.int .i64 ((i:Nat):Int)))],[(1,Ob.row true 2 true [[C.d (D.sl o.sections.nn (o.sections.l.map TSec.c)),C.d (D.sl o.symbols.nn (o.symbols.l.map TSym.c))]]),(43,Ob.map es)]::hp⟩ .ret ⟨[(2,V.d (D.int .i64 140))],[]::hp⟩:=
  codeC_ok (hs:=[.b true, .n i, .ds [D.str x1.name,D.int .i64 x1.sect,D.int .i64 x1.value,D.bool x1.glob], .call (V.d (D.bool q)) ([]), .b false, .b false, .b false, .b false, .o (some (D.bool q2)), .b false, .b true]) (hs':=[]) (cs:=[_,((i:Nat):Int)=((i:Nat):Int),_,_,_,_,_,_,_,_,_]) (by kernel_rfl) ⟨c0,rfl,c1,c2,c3,c3,c3,c3,c4,c3,c5,trivial⟩
theorem w23b_4 (o:TObj) (i:Nat) (es:List (D × D)) (q:Bool) (hp:HL) (x1:TSym)
    (c0:(decide (((i:Nat):Int)<((o.symbols.l.length:Nat):Int)))=true)
    (c1:(o.symbols.l.map TSym.c)[i]? = some [D.str x1.name,D.int .i64 x1.sect,D.int .i64 x1.value,D.bool x1.glob])
    (c2:Rn pg 45 [V.d (D.agg [D.str x1.name,D.int .i64 x1.sect,D.int .i64 x1.value,D.bool x1.glob]),V.d (D.sl o.sections.nn (o.sections.l.map TSec.c))] ([]) (V.d (D.bool q)) ([]))
    (c3:(!q)=true) :
    Ev pg i23_l2 ⟨[(1,V.ptr 0 1 [] 0 0),(6,V.mp 0 43 none),(45,V.d (D.sl o.symbols.nn (o.symbols.l.map TSym.c))),(46,V.d (D.int .i64 ((o.symbols.l.length:Nat):Int))),(47,V.d (D.int .i64 ((i:Nat):Int)))],[(1,Ob.row true 2 true [[C.d (D.sl o.sections.nn (o.sections.l.map TSec.c)),C.d (D.sl o.symbols.nn (o.symbols.l.map TSym.c))]]),(43,Ob.map es)]::hp⟩ .ret ⟨[(2,V.d (D.int .i64 140))],[]::hp⟩:=
  codeC_ok (hs:=[.b true, .n i, .ds [D.str x1.name,D.int .i64 x1.sect,D.int .i64 x1.value,D.bool x1.glob], .call (V.d (D.bool q)) ([]), .b true, .b true, .b true, .b true, .b true, .b true]) (hs':=[]) (cs:=[_,((i:Nat):Int)=((i:Nat):Int),_,_,_,_,_,_,_,true=true]) (by kernel_rfl) ⟨c0,rfl,c1,c2,c3,c3,c3,c3,c3,rfl,trivial⟩
theorem w23_0 (o:TObj) (srt:Bool) (hp:HL) (es1:List (D × D)) (es2:List (D × D))
 (c0:(decide ((((o.sections.l.map TSec.c).length:Nat):Int) > 64))=false)
 (c1:(decide ((((o.symbols.l.map TSym.c).length:Nat):Int) > 4096))=false)
 (c2:Lp pg i23_l0 ⟨[(1,V.ptr 0 1 [] 0 0),(3,V.mp 0 19 none),(21,V.d (D.sl o.sections.nn (o.sections.l.map TSec.c))),(22,V.d (D.int .i64 (((o.sections.l.map TSec.c).length:Nat):Int))),(23,V.d (D.int .i64 0))],[(1,Ob.row true 2 true [[C.d (D.sl o.sections.nn (o.sections.l.map TSec.c)),C.d (D.sl o.symbols.nn (o.symbols.l.map TSym.c))]]),(19,Ob.map ([]))]::hp⟩ (.exit 0) ⟨[(1,V.ptr 0 1 [] 0 0),(3,V.mp 0 19 none),(21,V.d (D.sl o.sections.nn (o.sections.l.map TSec.c))),(22,V.d (D.int .i64 (((o.sections.l.map TSec.c).length:Nat):Int))),(23,V.d (D.int .i64 (((o.sections.l.map TSec.c).length:Nat):Int))),(24,V.d (D.bool false))],[(1,Ob.row true 2 true [[C.d (D.sl o.sections.nn (o.sections.l.map TSec.c)),C.d (D.sl o.symbols.nn (o.symbols.l.map TSym.c))]]),(19,Ob.map es1)]::hp⟩)
 (c3:Lp pg i23_l2 ⟨[(1,V.ptr 0 1 [] 0 0),(6,V.mp 0 43 none),(45,V.d (D.sl o.symbols.nn (o.symbols.l.map TSym.c))),(46,V.d (D.int .i64 (((o.symbols.l.map TSym.c).length:Nat):Int))),(47,V.d (D.int .i64 0))],[(1,Ob.row true 2 true [[C.d (D.sl o.sections.nn (o.sections.l.map TSec.c)),C.d (D.sl o.symbols.nn (o.symbols.l.map TSym.c))]]),(43,Ob.map ([]))]::hp⟩ (.exit 2) ⟨[(1,V.ptr 0 1 [] 0 0),(6,V.mp 0 43 none),(45,V.d (D.sl o.symbols.nn (o.symbols.l.map TSym.c))),(46,V.d (D.int .i64 (((o.symbols.l.map TSym.c).length:Nat):Int))),(47,V.d (D.int .i64 (((o.symbols.l.map TSym.c).length:Nat):Int))),(48,V.d (D.bool false))],[(1,Ob.row true 2 true [[C.d (D.sl o.sections.nn (o.sections.l.map TSec.c)),C.d (D.sl o.symbols.nn (o.symbols.l.map TSym.c))]]),(43,Ob.map es2)]::hp⟩)
 (c4:Rn pg 46 [V.d (D.sl o.symbols.nn (o.symbols.l.map TSym.c)),V.fn 41 []] ([]) (V.d (D.bool srt)) ([]))
 (c5:(!srt)=false) :
 Rn pg 23 [V.d (D.agg [D.sl o.sections.nn (o.sections.l.map TSec.c),D.sl o.symbols.nn (o.symbols.l.map TSym.c)])] (hp) (V.d (D.int .i64 0)) (hp):=
 Rn.c (fn:=i23) (ex:=.ret) (st:=⟨[(2,V.d (D.int .i64 0))],[]::hp⟩) (hs:=[.b false, .b false, .b false, .b false, .b false, .b false, .lp (.exit 0) ⟨[(1,V.ptr 0 1 [] 0 0),(3,V.mp 0 19 none),(21,V.d (D.sl o.sections.nn (o.sections.l.map TSec.c))),(22,V.d (D.int .i64 (((o.sections.l.map TSec.c).length:Nat):Int))),(23,V.d (D.int .i64 (((o.sections.l.map TSec.c).length:Nat):Int))),(24,V.d (D.bool false))],[(1,Ob.row true 2 true [[C.d (D.sl o.sections.nn (o.sections.l.map TSec.c)),C.d (D.sl o.symbols.nn (o.symbols.l.map TSym.c))]]),(19,Ob.map es1)]::hp⟩, .lp (.exit 2) ⟨[(1,V.ptr 0 1 [] 0 0),(6,V.mp 0 43 none),(45,V.d (D.sl o.symbols.nn (o.symbols.l.map TSym.c))),(46,V.d (D.int .i64 (((o.symbols.l.map TSym.c).length:Nat):Int))),(47,V.d (D.int .i64 (((o.symbols.l.map TSym.c).length:Nat):Int))),(48,V.d (D.bool false))],[(1,Ob.row true 2 true [[C.d (D.sl o.sections.nn (o.sections.l.map TSec.c)),C.d (D.sl o.symbols.nn (o.symbols.l.map TSym.c))]]),(43,Ob.map es2)]::hp⟩, .call (V.d (D.bool srt)) ([]), .b false]) (cs:=[_,_,_,_,_,_,_,_,_,_]) (rs:=[V.d (D.int .i64 0)]) (t:=[])
 (by kernel_rfl) (by kernel_rfl) (by kernel_rfl) (by kernel_rfl) (by kernel_rfl) (by kernel_rfl) ⟨c0,c0,c0,c0,c0,c1,c2,c3,c4,c5,trivial⟩
theorem w23_1 (o:TObj) (srt:Bool) (hp:HL) (es1:List (D × D)) (es2:List (D × D))
 (c0:(decide ((((o.sections.l.map TSec.c).length:Nat):Int) > 64))=false)
 (c1:(decide ((((o.symbols.l.map TSym.c).length:Nat):Int) > 4096))=false)
 (c2:Lp pg i23_l0 ⟨[(1,V.ptr 0 1 [] 0 0),(3,V.mp 0 19 none),(21,V.d (D.sl o.sections.nn (o.sections.l.map TSec.c))),(22,V.d (D.int .i64 (((o.sections.l.map TSec.c).length:Nat):Int))),(23,V.d (D.int .i64 0))],[(1,Ob.row true 2 true [[C.d (D.sl o.sections.nn (o.sections.l.map TSec.c)),C.d (D.sl o.symbols.nn (o.symbols.l.map TSym.c))]]),(19,Ob.map ([]))]::hp⟩ (.exit 0) ⟨[(1,V.ptr 0 1 [] 0 0),(3,V.mp 0 19 none),(21,V.d (D.sl o.sections.nn (o.sections.l.map TSec.c))),(22,V.d (D.int .i64 (((o.sections.l.map TSec.c).length:Nat):Int))),(23,V.d (D.int .i64 (((o.sections.l.map TSec.c).length:Nat):Int))),(24,V.d (D.bool false))],[(1,Ob.row true 2 true [[C.d (D.sl o.sections.nn (o.sections.l.map TSec.c)),C.d (D.sl o.symbols.nn (o.symbols.l.map TSym.c))]]),(19,Ob.map es1)]::hp⟩)
 (c3:Lp pg i23_l2 ⟨[(1,V.ptr 0 1 [] 0 0),(6,V.mp 0 43 none),(45,V.d (D.sl o.symbols.nn (o.symbols.l.map TSym.c))),(46,V.d (D.int .i64 (((o.symbols.l.map TSym.c).length:Nat):Int))),(47,V.d (D.int .i64 0))],[(1,Ob.row true 2 true [[C.d (D.sl o.sections.nn (o.sections.l.map TSec.c)),C.d (D.sl o.symbols.nn (o.symbols.l.map TSym.c))]]),(43,Ob.map ([]))]::hp⟩ (.exit 2) ⟨[(1,V.ptr 0 1 [] 0 0),(6,V.mp 0 43 none),(45,V.d (D.sl o.symbols.nn (o.symbols.l.map TSym.c))),(46,V.d (D.int .i64 (((o.symbols.l.map TSym.c).length:Nat):Int))),(47,V.d (D.int .i64 (((o.symbols.l.map TSym.c).length:Nat):Int))),(48,V.d (D.bool false))],[(1,Ob.row true 2 true [[C.d (D.sl o.sections.nn (o.sections.l.map TSec.c)),C.d (D.sl o.symbols.nn (o.symbols.l.map TSym.c))]]),(43,Ob.map es2)]::hp⟩)
 (c4:Rn pg 46 [V.d (D.sl o.symbols.nn (o.symbols.l.map TSym.c)),V.fn 41 []] ([]) (V.d (D.bool srt)) ([]))
 (c5:(!srt)=true) :
 Rn pg 23 [V.d (D.agg [D.sl o.sections.nn (o.sections.l.map TSec.c),D.sl o.symbols.nn (o.symbols.l.map TSym.c)])] (hp) (V.d (D.int .i64 140)) (hp):=
 Rn.c (fn:=i23) (ex:=.ret) (st:=⟨[(2,V.d (D.int .i64 140))],[]::hp⟩) (hs:=[.b false, .b false, .b false, .b false, .b false, .b false, .lp (.exit 0) ⟨[(1,V.ptr 0 1 [] 0 0),(3,V.mp 0 19 none),(21,V.d (D.sl o.sections.nn (o.sections.l.map TSec.c))),(22,V.d (D.int .i64 (((o.sections.l.map TSec.c).length:Nat):Int))),(23,V.d (D.int .i64 (((o.sections.l.map TSec.c).length:Nat):Int))),(24,V.d (D.bool false))],[(1,Ob.row true 2 true [[C.d (D.sl o.sections.nn (o.sections.l.map TSec.c)),C.d (D.sl o.symbols.nn (o.symbols.l.map TSym.c))]]),(19,Ob.map es1)]::hp⟩, .lp (.exit 2) ⟨[(1,V.ptr 0 1 [] 0 0),(6,V.mp 0 43 none),(45,V.d (D.sl o.symbols.nn (o.symbols.l.map TSym.c))),(46,V.d (D.int .i64 (((o.symbols.l.map TSym.c).length:Nat):Int))),(47,V.d (D.int .i64 (((o.symbols.l.map TSym.c).length:Nat):Int))),(48,V.d (D.bool false))],[(1,Ob.row true 2 true [[C.d (D.sl o.sections.nn (o.sections.l.map TSec.c)),C.d (D.sl o.symbols.nn (o.symbols.l.map TSym.c))]]),(43,Ob.map es2)]::hp⟩, .call (V.d (D.bool srt)) ([]), .b true]) (cs:=[_,_,_,_,_,_,_,_,_,_]) (rs:=[V.d (D.int .i64 140)]) (t:=[])
 (by kernel_rfl) (by kernel_rfl) (by kernel_rfl) (by kernel_rfl) (by kernel_rfl) (by kernel_rfl) ⟨c0,c0,c0,c0,c0,c1,c2,c3,c4,c5,trivial⟩
theorem w23_2 (o:TObj) (srt:Bool) (hp:HL) (es1:List (D × D))
 (c0:(decide ((((o.sections.l.map TSec.c).length:Nat):Int) > 64))=false)
 (c1:(decide ((((o.symbols.l.map TSym.c).length:Nat):Int) > 4096))=false)
 (c2:Lp pg i23_l0 ⟨[(1,V.ptr 0 1 [] 0 0),(3,V.mp 0 19 none),(21,V.d (D.sl o.sections.nn (o.sections.l.map TSec.c))),(22,V.d (D.int .i64 (((o.sections.l.map TSec.c).length:Nat):Int))),(23,V.d (D.int .i64 0))],[(1,Ob.row true 2 true [[C.d (D.sl o.sections.nn (o.sections.l.map TSec.c)),C.d (D.sl o.symbols.nn (o.symbols.l.map TSym.c))]]),(19,Ob.map ([]))]::hp⟩ (.exit 0) ⟨[(1,V.ptr 0 1 [] 0 0),(3,V.mp 0 19 none),(21,V.d (D.sl o.sections.nn (o.sections.l.map TSec.c))),(22,V.d (D.int .i64 (((o.sections.l.map TSec.c).length:Nat):Int))),(23,V.d (D.int .i64 (((o.sections.l.map TSec.c).length:Nat):Int))),(24,V.d (D.bool false))],[(1,Ob.row true 2 true [[C.d (D.sl o.sections.nn (o.sections.l.map TSec.c)),C.d (D.sl o.symbols.nn (o.symbols.l.map TSym.c))]]),(19,Ob.map es1)]::hp⟩)
 (c3:Lp pg i23_l2 ⟨[(1,V.ptr 0 1 [] 0 0),(6,V.mp 0 43 none),(45,V.d (D.sl o.symbols.nn (o.symbols.l.map TSym.c))),(46,V.d (D.int .i64 (((o.symbols.l.map TSym.c).length:Nat):Int))),(47,V.d (D.int .i64 0))],[(1,Ob.row true 2 true [[C.d (D.sl o.sections.nn (o.sections.l.map TSec.c)),C.d (D.sl o.symbols.nn (o.symbols.l.map TSym.c))]]),(43,Ob.map ([]))]::hp⟩ .ret ⟨[(2,V.d (D.int .i64 140))],[]::hp⟩) :
 Rn pg 23 [V.d (D.agg [D.sl o.sections.nn (o.sections.l.map TSec.c),D.sl o.symbols.nn (o.symbols.l.map TSym.c)])] (hp) (V.d (D.int .i64 140)) (hp):=
 Rn.c (fn:=i23) (ex:=.ret) (st:=⟨[(2,V.d (D.int .i64 140))],[]::hp⟩) (hs:=[.b false, .b false, .b false, .b false, .b false, .b false, .lp (.exit 0) ⟨[(1,V.ptr 0 1 [] 0 0),(3,V.mp 0 19 none),(21,V.d (D.sl o.sections.nn (o.sections.l.map TSec.c))),(22,V.d (D.int .i64 (((o.sections.l.map TSec.c).length:Nat):Int))),(23,V.d (D.int .i64 (((o.sections.l.map TSec.c).length:Nat):Int))),(24,V.d (D.bool false))],[(1,Ob.row true 2 true [[C.d (D.sl o.sections.nn (o.sections.l.map TSec.c)),C.d (D.sl o.symbols.nn (o.symbols.l.map TSym.c))]]),(19,Ob.map es1)]::hp⟩, .lp .ret ⟨[(2,V.d (D.int .i64 140))],[]::hp⟩]) (cs:=[_,_,_,_,_,_,_,_]) (rs:=[V.d (D.int .i64 140)]) (t:=[])
 (by kernel_rfl) (by kernel_rfl) (by kernel_rfl) (by kernel_rfl) (by kernel_rfl) (by kernel_rfl) ⟨c0,c0,c0,c0,c0,c1,c2,c3,trivial⟩
theorem w23_3 (o:TObj) (srt:Bool) (hp:HL)
 (c0:(decide ((((o.sections.l.map TSec.c).length:Nat):Int) > 64))=false)
 (c1:(decide ((((o.symbols.l.map TSym.c).length:Nat):Int) > 4096))=false)
 (c2:Lp pg i23_l0 ⟨[(1,V.ptr 0 1 [] 0 0),(3,V.mp 0 19 none),(21,V.d (D.sl o.sections.nn (o.sections.l.map TSec.c))),(22,V.d (D.int .i64 (((o.sections.l.map TSec.c).length:Nat):Int))),(23,V.d (D.int .i64 0))],[(1,Ob.row true 2 true [[C.d (D.sl o.sections.nn (o.sections.l.map TSec.c)),C.d (D.sl o.symbols.nn (o.symbols.l.map TSym.c))]]),(19,Ob.map ([]))]::hp⟩ .ret ⟨[(2,V.d (D.int .i64 140))],[]::hp⟩) :
 Rn pg 23 [V.d (D.agg [D.sl o.sections.nn (o.sections.l.map TSec.c),D.sl o.symbols.nn (o.symbols.l.map TSym.c)])] (hp) (V.d (D.int .i64 140)) (hp):=
 Rn.c (fn:=i23) (ex:=.ret) (st:=⟨[(2,V.d (D.int .i64 140))],[]::hp⟩) (hs:=[.b false, .b false, .b false, .b false, .b false, .b false, .lp .ret ⟨[(2,V.d (D.int .i64 140))],[]::hp⟩]) (cs:=[_,_,_,_,_,_,_]) (rs:=[V.d (D.int .i64 140)]) (t:=[])
 (by kernel_rfl) (by kernel_rfl) (by kernel_rfl) (by kernel_rfl) (by kernel_rfl) (by kernel_rfl) ⟨c0,c0,c0,c0,c0,c1,c2,trivial⟩
theorem w23_4 (o:TObj) (srt:Bool) (hp:HL)
 (c0:(decide ((((o.sections.l.map TSec.c).length:Nat):Int) > 64))=false)
 (c1:(decide ((((o.symbols.l.map TSym.c).length:Nat):Int) > 4096))=true) :
 Rn pg 23 [V.d (D.agg [D.sl o.sections.nn (o.sections.l.map TSec.c),D.sl o.symbols.nn (o.symbols.l.map TSym.c)])] (hp) (V.d (D.int .i64 140)) (hp):=
 Rn.c (fn:=i23) (ex:=.ret) (st:=⟨[(2,V.d (D.int .i64 140))],[]::hp⟩) (hs:=[.b false, .b false, .b false, .b false, .b false, .b true]) (cs:=[_,_,_,_,_,_]) (rs:=[V.d (D.int .i64 140)]) (t:=[])
 (by kernel_rfl) (by kernel_rfl) (by kernel_rfl) (by kernel_rfl) (by kernel_rfl) (by kernel_rfl) ⟨c0,c0,c0,c0,c0,c1,trivial⟩
theorem w23_5 (o:TObj) (srt:Bool) (hp:HL)
 (c0:(decide ((((o.sections.l.map TSec.c).length:Nat):Int) > 64))=true) :
 Rn pg 23 [V.d (D.agg [D.sl o.sections.nn (o.sections.l.map TSec.c),D.sl o.symbols.nn (o.symbols.l.map TSym.c)])] (hp) (V.d (D.int .i64 140)) (hp):=
 Rn.c (fn:=i23) (ex:=.ret) (st:=⟨[(2,V.d (D.int .i64 140))],[]::hp⟩) (hs:=[.b true, .b true, .b true, .b true, .b true, .b true]) (cs:=[_,_,_,_,_,true=true]) (rs:=[V.d (D.int .i64 140)]) (t:=[])
 (by kernel_rfl) (by kernel_rfl) (by kernel_rfl) (by kernel_rfl) (by kernel_rfl) (by kernel_rfl) ⟨c0,c0,c0,c0,c0,rfl,trivial⟩
theorem w25a_0 (b:Bool) (c:Bool) (l:List TSym) (i:Nat) (hp:HL)
    (c0:(decide (((i:Nat):Int)<((l.length:Nat):Int)))=false) :
    Ev pg i25_l0 ⟨[(0,V.d (D.sl b (l.map TSym.c))),(1,V.d (D.sl c (l.map TSym.c))),(12,V.d (D.int .i64 ((l.length:Nat):Int))),(13,V.d (D.int .i64 ((i:Nat):Int)))],[]::hp⟩ (.exit 0) ⟨[(0,V.d (D.sl b (l.map TSym.c))),(1,V.d (D.sl c (l.map TSym.c))),(12,V.d (D.int .i64 ((l.length:Nat):Int))),(13,V.d (D.int .i64 ((i:Nat):Int))),(14,V.d (D.bool false))],[]::hp⟩:=
  by
  have r:Ev pg i25_l0 ⟨[(0,V.d (D.sl b (l.map TSym.c))),(1,V.d (D.sl c (l.map TSym.c))),(12,V.d (D.int .i64 ((l.length:Nat):Int))),(13,V.d (D.int .i64 ((i:Nat):Int)))],[]::hp⟩ (.exit 0) ⟨[(0,V.d (D.sl b (l.map TSym.c))),(1,V.d (D.sl c (l.map TSym.c))),(12,V.d (D.int .i64 ((l.length:Nat):Int))),(13,V.d (D.int .i64 ((i:Nat):Int))),(14,V.d (D.bool (decide (((i:Nat):Int)<((l.length:Nat):Int)))))],[]::hp⟩:=
  codeC_ok (hs:=[.b false]) (hs':=[]) (cs:=[_]) (by kernel_rfl) ⟨c0,trivial⟩
  simp only [c0] at r
  exact r
theorem w25a_2 (b:Bool) (c:Bool) (l:List TSym) (i:Nat) (hp:HL) (x1:TSym)
    (c0:(decide (((i:Nat):Int)<((l.length:Nat):Int)))=true)
    (c1:(l.map TSym.c)[i]? = some [D.str x1.name,D.int .i64 x1.sect,D.int .i64 x1.value,D.bool x1.glob])
    (c2:deqT true [2,1,1,0] (D.agg [D.str x1.name,D.int .i64 x1.sect,D.int .i64 x1.value,D.bool x1.glob]) (D.agg [D.str x1.name,D.int .i64 x1.sect,D.int .i64 x1.value,D.bool x1.glob])=some true) :
    Ev pg i25_l0 ⟨[(0,V.d (D.sl b (l.map TSym.c))),(1,V.d (D.sl c (l.map TSym.c))),(12,V.d (D.int .i64 ((l.length:Nat):Int))),(13,V.d (D.int .i64 ((i:Nat):Int)))],[]::hp⟩ .normal ⟨[(0,V.d (D.sl b (l.map TSym.c))),(1,V.d (D.sl c (l.map TSym.c))),(12,V.d (D.int .i64 ((l.length:Nat):Int))),(13,V.d (D.int .i64 (IntKind.i64.wrap (((i:Nat):Int)+1))))],[]::hp⟩:=
  codeC_ok (hs:=[.b true, .n i, .ds [D.str x1.name,D.int .i64 x1.sect,D.int .i64 x1.value,D.bool x1.glob], .n i, .ds [D.str x1.name,D.int .i64 x1.sect,D.int .i64 x1.value,D.bool x1.glob], .b true, .b false]) (hs':=[]) (cs:=[_,((i:Nat):Int)=((i:Nat):Int),_,((i:Nat):Int)=((i:Nat):Int),_,_,false=false]) (by kernel_rfl) ⟨c0,rfl,c1,rfl,c1,c2,rfl,trivial⟩
theorem w25_0 (b:Bool) (c:Bool) (l:List TSym) (hp:HL)
 (c0:((((l.map TSym.c).length:Nat):Int) != (((l.map TSym.c).length:Nat):Int))=false)
 (c1:Lp pg i25_l0 ⟨[(0,V.d (D.sl b (l.map TSym.c))),(1,V.d (D.sl c (l.map TSym.c))),(12,V.d (D.int .i64 (((l.map TSym.c).length:Nat):Int))),(13,V.d (D.int .i64 0))],[]::hp⟩ (.exit 0) ⟨[(0,V.d (D.sl b (l.map TSym.c))),(1,V.d (D.sl c (l.map TSym.c))),(12,V.d (D.int .i64 (((l.map TSym.c).length:Nat):Int))),(13,V.d (D.int .i64 (((l.map TSym.c).length:Nat):Int))),(14,V.d (D.bool false))],[]::hp⟩) :
 Rn pg 25 [V.d (D.sl b (l.map TSym.c)),V.d (D.sl c (l.map TSym.c))] (hp) (V.d (D.bool true)) (hp):=
 Rn.c (fn:=i25) (ex:=.ret) (st:=⟨[(4,V.d (D.bool true))],[]::hp⟩) (hs:=[.b false, .lp (.exit 0) ⟨[(0,V.d (D.sl b (l.map TSym.c))),(1,V.d (D.sl c (l.map TSym.c))),(12,V.d (D.int .i64 (((l.map TSym.c).length:Nat):Int))),(13,V.d (D.int .i64 (((l.map TSym.c).length:Nat):Int))),(14,V.d (D.bool false))],[]::hp⟩]) (cs:=[_,_]) (rs:=[V.d (D.bool true)]) (t:=[])
 (by kernel_rfl) (by kernel_rfl) (by kernel_rfl) (by kernel_rfl) (by kernel_rfl) (by kernel_rfl) ⟨c0,c1,trivial⟩
theorem w65a_0 (b:Bool) (c:Bool) (l:List TRlc) (i:Nat) (hp:HL)
    (c0:(decide (((i:Nat):Int)<((l.length:Nat):Int)))=false) :
    Ev pg i65_l0 ⟨[(0,V.d (D.sl b (l.map TRlc.c))),(1,V.d (D.sl c (l.map TRlc.c))),(12,V.d (D.int .i64 ((l.length:Nat):Int))),(13,V.d (D.int .i64 ((i:Nat):Int)))],[]::hp⟩ (.exit 0) ⟨[(0,V.d (D.sl b (l.map TRlc.c))),(1,V.d (D.sl c (l.map TRlc.c))),(12,V.d (D.int .i64 ((l.length:Nat):Int))),(13,V.d (D.int .i64 ((i:Nat):Int))),(14,V.d (D.bool false))],[]::hp⟩:=
  by
  have r:Ev pg i65_l0 ⟨[(0,V.d (D.sl b (l.map TRlc.c))),(1,V.d (D.sl c (l.map TRlc.c))),(12,V.d (D.int .i64 ((l.length:Nat):Int))),(13,V.d (D.int .i64 ((i:Nat):Int)))],[]::hp⟩ (.exit 0) ⟨[(0,V.d (D.sl b (l.map TRlc.c))),(1,V.d (D.sl c (l.map TRlc.c))),(12,V.d (D.int .i64 ((l.length:Nat):Int))),(13,V.d (D.int .i64 ((i:Nat):Int))),(14,V.d (D.bool (decide (((i:Nat):Int)<((l.length:Nat):Int)))))],[]::hp⟩:=
  codeC_ok (hs:=[.b false]) (hs':=[]) (cs:=[_]) (by kernel_rfl) ⟨c0,trivial⟩
  simp only [c0] at r
  exact r
theorem w65a_2 (b:Bool) (c:Bool) (l:List TRlc) (i:Nat) (hp:HL) (x1:TRlc)
    (c0:(decide (((i:Nat):Int)<((l.length:Nat):Int)))=true)
    (c1:(l.map TRlc.c)[i]? = some [D.int .i64 x1.off,D.int .i64 x1.typ,D.int .i64 x1.sym,D.int .i64 x1.addend])
    (c2:deqT true [1,1,1,1] (D.agg [D.int .i64 x1.off,D.int .i64 x1.typ,D.int .i64 x1.sym,D.int .i64 x1.addend]) (D.agg [D.int .i64 x1.off,D.int .i64 x1.typ,D.int .i64 x1.sym,D.int .i64 x1.addend])=some true) :
    Ev pg i65_l0 ⟨[(0,V.d (D.sl b (l.map TRlc.c))),(1,V.d (D.sl c (l.map TRlc.c))),(12,V.d (D.int .i64 ((l.length:Nat):Int))),(13,V.d (D.int .i64 ((i:Nat):Int)))],[]::hp⟩ .normal ⟨[(0,V.d (D.sl b (l.map TRlc.c))),(1,V.d (D.sl c (l.map TRlc.c))),(12,V.d (D.int .i64 ((l.length:Nat):Int))),(13,V.d (D.int .i64 (IntKind.i64.wrap (((i:Nat):Int)+1))))],[]::hp⟩:=
  codeC_ok (hs:=[.b true, .n i, .ds [D.int .i64 x1.off,D.int .i64 x1.typ,D.int .i64 x1.sym,D.int .i64 x1.addend], .n i, .ds [D.int .i64 x1.off,D.int .i64 x1.typ,D.int .i64 x1.sym,D.int .i64 x1.addend], .b true, .b false]) (hs':=[]) (cs:=[_,((i:Nat):Int)=((i:Nat):Int),_,((i:Nat):Int)=((i:Nat):Int),_,_,false=false]) (by kernel_rfl) ⟨c0,rfl,c1,rfl,c1,c2,rfl,trivial⟩
theorem w65_0 (b:Bool) (c:Bool) (l:List TRlc) (hp:HL)
 (c0:((((l.map TRlc.c).length:Nat):Int) != (((l.map TRlc.c).length:Nat):Int))=false)
 (c1:Lp pg i65_l0 ⟨[(0,V.d (D.sl b (l.map TRlc.c))),(1,V.d (D.sl c (l.map TRlc.c))),(12,V.d (D.int .i64 (((l.map TRlc.c).length:Nat):Int))),(13,V.d (D.int .i64 0))],[]::hp⟩ (.exit 0) ⟨[(0,V.d (D.sl b (l.map TRlc.c))),(1,V.d (D.sl c (l.map TRlc.c))),(12,V.d (D.int .i64 (((l.map TRlc.c).length:Nat):Int))),(13,V.d (D.int .i64 (((l.map TRlc.c).length:Nat):Int))),(14,V.d (D.bool false))],[]::hp⟩) :
 Rn pg 65 [V.d (D.sl b (l.map TRlc.c)),V.d (D.sl c (l.map TRlc.c))] (hp) (V.d (D.bool true)) (hp):=
 Rn.c (fn:=i65) (ex:=.ret) (st:=⟨[(4,V.d (D.bool true))],[]::hp⟩) (hs:=[.b false, .lp (.exit 0) ⟨[(0,V.d (D.sl b (l.map TRlc.c))),(1,V.d (D.sl c (l.map TRlc.c))),(12,V.d (D.int .i64 (((l.map TRlc.c).length:Nat):Int))),(13,V.d (D.int .i64 (((l.map TRlc.c).length:Nat):Int))),(14,V.d (D.bool false))],[]::hp⟩]) (cs:=[_,_]) (rs:=[V.d (D.bool true)]) (t:=[])
 (by kernel_rfl) (by kernel_rfl) (by kernel_rfl) (by kernel_rfl) (by kernel_rfl) (by kernel_rfl) ⟨c0,c1,trivial⟩
theorem w64_0 (b:Bool) (c:Bool) (l:List UInt8) (hp:HL)
 (c0:List.all (l.map u8c) (fun x=>x.length==1)=true)
 (c1:allDs (List.map (fun x=>List.map C.d x) (l.map u8c))=some (l.map u8c))
 (c2:strOf (l.map u8c)=some l) :
 Rn pg 64 [V.d (D.sl b (l.map u8c)),V.d (D.sl c (l.map u8c))] (hp) (V.d (D.bool (l==l))) (hp):=
 Rn.c (fn:=i64) (ex:=.ret) (st:=⟨[(4,V.d (D.bool (l==l)))],[]::hp⟩) (hs:=[.ees (l.map u8c), .s l, .ees (l.map u8c), .s l]) (cs:=[_,_,_,_,_,_]) (rs:=[V.d (D.bool (l==l))]) (t:=[])
 (by kernel_rfl) (by kernel_rfl) (by kernel_rfl) (by kernel_rfl) (by kernel_rfl) (by kernel_rfl) ⟨c0,c1,c2,c0,c1,c2,trivial⟩
theorem w43_0 (x:TSec) (y:TSec) (hp:HL)
 (c0:(x.name==y.name)=true)
 (c1:(x.kind==y.kind)=true)
 (c2:(x.align==y.align)=true)
 (c3:(x.size==y.size)=true)
 (c4:Rn pg 64 [V.d (D.sl x.data.nn (x.data.l.map u8c)),V.d (D.sl y.data.nn (y.data.l.map u8c))] ([]) (V.d (D.bool true)) ([]))
 (c5:Rn pg 65 [V.d (D.sl x.relocs.nn (x.relocs.l.map TRlc.c)),V.d (D.sl y.relocs.nn (y.relocs.l.map TRlc.c))] ([]) (V.d (D.bool true)) ([])) :
 Rn pg 43 [V.d (D.agg [D.str x.name,D.int .i64 x.kind,D.int .i64 x.align,D.int .i64 x.size,D.sl x.data.nn (x.data.l.map u8c),D.sl x.relocs.nn (x.relocs.l.map TRlc.c)]),V.d (D.agg [D.str y.name,D.int .i64 y.kind,D.int .i64 y.align,D.int .i64 y.size,D.sl y.data.nn (y.data.l.map u8c),D.sl y.relocs.nn (y.relocs.l.map TRlc.c)])] (hp) (V.d (D.bool true)) (hp):=
 Rn.c (fn:=i43) (ex:=.ret) (st:=⟨[(4,V.d (D.bool true))],[]::hp⟩) (hs:=[.b true, .b true, .b true, .b true, .b true, .b true, .b true, .b true, .b true, .b true, .b true, .b true, .b true, .b true, .b true, .b true, .b true, .b true, .b true, .b true, .b true, .b true, .b true, .call (V.d (D.bool true)) ([]), .b true, .b true, .b true, .b true, .b true, .b true, .call (V.d (D.bool true)) ([]), .b true]) (cs:=[_,_,_,_,_,_,_,_,_,_,_,_,_,_,_,_,_,_,_,_,_,_,_,_,_,true=true,true=true,true=true,true=true,true=true,_,true=true]) (rs:=[V.d (D.bool true)]) (t:=[])
 (by kernel_rfl) (by kernel_rfl) (by kernel_rfl) (by kernel_rfl) (by kernel_rfl) (by kernel_rfl) ⟨c0,c0,c0,c0,c0,c0,c1,c1,c1,c1,c1,c1,c2,c2,c2,c2,c2,c2,c3,c3,c3,c3,c3,c4,c3,rfl,rfl,rfl,rfl,rfl,c5,rfl,trivial⟩
theorem w42a_0 (b:Bool) (c:Bool) (l:List TSec) (m:List TSec) (i:Nat) (hp:HL)
    (c0:(decide (((i:Nat):Int)<((l.length:Nat):Int)))=false) :
    Ev pg i42_l0 ⟨[(1,V.d (D.sl c (m.map TSec.c))),(2,V.fn 43 []),(15,V.d (D.sl b (l.map TSec.c))),(16,V.d (D.int .i64 ((l.length:Nat):Int))),(17,V.d (D.int .i64 ((i:Nat):Int)))],[]::hp⟩ (.exit 0) ⟨[(1,V.d (D.sl c (m.map TSec.c))),(2,V.fn 43 []),(15,V.d (D.sl b (l.map TSec.c))),(16,V.d (D.int .i64 ((l.length:Nat):Int))),(17,V.d (D.int .i64 ((i:Nat):Int))),(18,V.d (D.bool false))],[]::hp⟩:=
  by
  have r:Ev pg i42_l0 ⟨[(1,V.d (D.sl c (m.map TSec.c))),(2,V.fn 43 []),(15,V.d (D.sl b (l.map TSec.c))),(16,V.d (D.int .i64 ((l.length:Nat):Int))),(17,V.d (D.int .i64 ((i:Nat):Int)))],[]::hp⟩ (.exit 0) ⟨[(1,V.d (D.sl c (m.map TSec.c))),(2,V.fn 43 []),(15,V.d (D.sl b (l.map TSec.c))),(16,V.d (D.int .i64 ((l.length:Nat):Int))),(17,V.d (D.int .i64 ((i:Nat):Int))),(18,V.d (D.bool (decide (((i:Nat):Int)<((l.length:Nat):Int)))))],[]::hp⟩:=
  codeC_ok (hs:=[.b false]) (hs':=[]) (cs:=[_]) (by kernel_rfl) ⟨c0,trivial⟩
  simp only [c0] at r
  exact r
theorem w42a_1 (b:Bool) (c:Bool) (l:List TSec) (m:List TSec) (i:Nat) (hp:HL) (x1:TSec) (x2:TSec)
    (c0:(decide (((i:Nat):Int)<((l.length:Nat):Int)))=true)
    (c1:(l.map TSec.c)[i]? = some [D.str x1.name,D.int .i64 x1.kind,D.int .i64 x1.align,D.int .i64 x1.size,D.sl x1.data.nn (x1.data.l.map u8c),D.sl x1.relocs.nn (x1.relocs.l.map TRlc.c)])
    (c2:(m.map TSec.c)[i]? = some [D.str x2.name,D.int .i64 x2.kind,D.int .i64 x2.align,D.int .i64 x2.size,D.sl x2.data.nn (x2.data.l.map u8c),D.sl x2.relocs.nn (x2.relocs.l.map TRlc.c)])
    (c3:Rn pg 43 [V.d (D.agg [D.str x1.name,D.int .i64 x1.kind,D.int .i64 x1.align,D.int .i64 x1.size,D.sl x1.data.nn (x1.data.l.map u8c),D.sl x1.relocs.nn (x1.relocs.l.map TRlc.c)]),V.d (D.agg [D.str x2.name,D.int .i64 x2.kind,D.int .i64 x2.align,D.int .i64 x2.size,D.sl x2.data.nn (x2.data.l.map u8c),D.sl x2.relocs.nn (x2.relocs.l.map TRlc.c)])] ([]) (V.d (D.bool true)) ([])) :
    Ev pg i42_l0 ⟨[(1,V.d (D.sl c (m.map TSec.c))),(2,V.fn 43 []),(15,V.d (D.sl b (l.map TSec.c))),(16,V.d (D.int .i64 ((l.length:Nat):Int))),(17,V.d (D.int .i64 ((i:Nat):Int)))],[]::hp⟩ .normal ⟨[(1,V.d (D.sl c (m.map TSec.c))),(2,V.fn 43 []),(15,V.d (D.sl b (l.map TSec.c))),(16,V.d (D.int .i64 ((l.length:Nat):Int))),(17,V.d (D.int .i64 (IntKind.i64.wrap (((i:Nat):Int)+1))))],[]::hp⟩:=
  codeC_ok (hs:=[.b true, .n i, .ds [D.str x1.name,D.int .i64 x1.kind,D.int .i64 x1.align,D.int .i64 x1.size,D.sl x1.data.nn (x1.data.l.map u8c),D.sl x1.relocs.nn (x1.relocs.l.map TRlc.c)], .n i, .ds [D.str x2.name,D.int .i64 x2.kind,D.int .i64 x2.align,D.int .i64 x2.size,D.sl x2.data.nn (x2.data.l.map u8c),D.sl x2.relocs.nn (x2.relocs.l.map TRlc.c)], .call (V.d (D.bool true)) ([]), .b false]) (hs':=[]) (cs:=[_,((i:Nat):Int)=((i:Nat):Int),_,((i:Nat):Int)=((i:Nat):Int),_,_,false=false]) (by kernel_rfl) ⟨c0,rfl,c1,rfl,c2,c3,rfl,trivial⟩
theorem w42_0 (b:Bool) (c:Bool) (l:List TSec) (m:List TSec) (hp:HL)
 (c0:((((l.map TSec.c).length:Nat):Int) != (((m.map TSec.c).length:Nat):Int))=false)
 (c1:Lp pg i42_l0 ⟨[(1,V.d (D.sl c (m.map TSec.c))),(2,V.fn 43 []),(15,V.d (D.sl b (l.map TSec.c))),(16,V.d (D.int .i64 (((l.map TSec.c).length:Nat):Int))),(17,V.d (D.int .i64 0))],[]::hp⟩ (.exit 0) ⟨[(1,V.d (D.sl c (m.map TSec.c))),(2,V.fn 43 []),(15,V.d (D.sl b (l.map TSec.c))),(16,V.d (D.int .i64 (((l.map TSec.c).length:Nat):Int))),(17,V.d (D.int .i64 (((l.map TSec.c).length:Nat):Int))),(18,V.d (D.bool false))],[]::hp⟩) :
 Rn pg 42 [V.d (D.sl b (l.map TSec.c)),V.d (D.sl c (m.map TSec.c)),V.fn 43 []] (hp) (V.d (D.bool true)) (hp):=
 Rn.c (fn:=i42) (ex:=.ret) (st:=⟨[(6,V.d (D.bool true))],[]::hp⟩) (hs:=[.b false, .lp (.exit 0) ⟨[(1,V.d (D.sl c (m.map TSec.c))),(2,V.fn 43 []),(15,V.d (D.sl b (l.map TSec.c))),(16,V.d (D.int .i64 (((l.map TSec.c).length:Nat):Int))),(17,V.d (D.int .i64 (((l.map TSec.c).length:Nat):Int))),(18,V.d (D.bool false))],[]::hp⟩]) (cs:=[_,_]) (rs:=[V.d (D.bool true)]) (t:=[])
 (by kernel_rfl) (by kernel_rfl) (by kernel_rfl) (by kernel_rfl) (by kernel_rfl) (by kernel_rfl) ⟨c0,c1,trivial⟩
theorem w22_0 (x:TObj) (y:TObj) (hp:HL)
 (c0:Rn pg 42 [V.d (D.sl x.sections.nn (x.sections.l.map TSec.c)),V.d (D.sl y.sections.nn (y.sections.l.map TSec.c)),V.fn 43 []] ([]) (V.d (D.bool true)) ([]))
 (c1:Rn pg 25 [V.d (D.sl x.symbols.nn (x.symbols.l.map TSym.c)),V.d (D.sl y.symbols.nn (y.symbols.l.map TSym.c))] ([]) (V.d (D.bool true)) ([])) :
 Rn pg 22 [V.d (D.agg [D.sl x.sections.nn (x.sections.l.map TSec.c),D.sl x.symbols.nn (x.symbols.l.map TSym.c)]),V.d (D.agg [D.sl y.sections.nn (y.sections.l.map TSec.c),D.sl y.symbols.nn (y.symbols.l.map TSym.c)])] (hp) (V.d (D.bool true)) (hp):=
 Rn.c (fn:=i22) (ex:=.ret) (st:=⟨[(4,V.d (D.bool true))],[]::hp⟩) (hs:=[.call (V.d (D.bool true)) ([]), .b true, .b true, .b true, .b true, .b true, .call (V.d (D.bool true)) ([]), .b true]) (cs:=[_,true=true,true=true,true=true,true=true,true=true,_,true=true]) (rs:=[V.d (D.bool true)]) (t:=[])
 (by kernel_rfl) (by kernel_rfl) (by kernel_rfl) (by kernel_rfl) (by kernel_rfl) (by kernel_rfl) ⟨c0,rfl,rfl,rfl,rfl,rfl,c1,rfl,trivial⟩
end Go.Proofs.YtgmphfmoonbfpaaMv

set_option maxRecDepth 100000
namespace Go.Proofs.YtgmphfmoonbfpaaMv
open Go
theorem t19 (m:Nat):run pg (m+80) 19 [] []=some (.d (.bool true),[]):=by kernel_rfl
theorem f19:Rn pg 19 [] [] (.d (.bool true)) []:=⟨80,fun m hm=>by
  obtain ⟨k,rfl⟩:=Nat.exists_eq_add_of_le hm
  rw [Nat.add_comm]
  exact t19 k⟩
end Go.Proofs.YtgmphfmoonbfpaaMv

set_option maxRecDepth 100000
namespace Go.Proofs.YtgmphfmoonbfpaaMv
open Go
theorem l66 (s:List UInt8) (hp:HL) (hl:s.length<2 ^ 30):∀ (d i:Nat),s.length - i=d→i≤s.length →
    Lp pg i66_l0 ⟨[(0,V.d (D.str s)),(13,iN s.length),(14,iN i)],[]::hp⟩ .ret ⟨[(2,V.d (D.bool false))],[]::hp⟩ ∨
    Lp pg i66_l0 ⟨[(0,V.d (D.str s)),(13,iN s.length),(14,iN i)],[]::hp⟩ (.exit 0) ⟨[(0,V.d (D.str s)),(13,iN s.length),(14,iN s.length),(15,V.d (D.bool false))],[]::hp⟩:=by
  intro d
  induction d with
  | zero=>
    intro i h h1
    obtain rfl:i=s.length:=by omega
    exact .inr (Lp.exit (w66a_0 s _ hp (lt_f (Nat.le_refl _))))
  | succ d ih=>
    intro i h h1
    have hi:i<s.length:=by omega
    have hx:s[i]? = some s[i]:=List.getElem?_eq_getElem hi
    generalize s[i]=b at hx
    have hw:IntKind.i64.wrap (((i:Nat):Int)+1)=((i+1:Nat):Int):=wadd1 (by omega)
    cases h2:(decide (((b.toNat:Int))<33)) with
    | true=>exact .inl (Lp.ret (w66a_3 s i hp b (lt_t hi) hx h2))
    | false=>
      cases h3:(decide (((b.toNat:Int)) > 126)) with
      | true=>exact .inl (Lp.ret (w66a_2 s i hp b (lt_t hi) hx h2 h3))
      | false=>
        have r:=w66a_1 s i hp b (lt_t hi) hx h2 h3
        rw [hw] at r
        rcases ih (i+1) (by omega) (by omega) with k | k
        · exact .inl (Lp.next r k)
        · exact .inr (Lp.next r k)
theorem f66 (s:List UInt8) (hp:HL):∃ b,Rn pg 66 [V.d (D.str s)] hp (V.d (D.bool b)) hp:=by
  cases h1:(decide (((s.length:Nat):Int)<1)) with
  | true=>exact ⟨_,w66_3 s hp h1⟩
  | false=>
    cases h2:(decide (((s.length:Nat):Int) > 32)) with
    | true=>exact ⟨_,w66_2 s hp h1 h2⟩
    | false=>
      rcases l66 s hp (by simp at h2;omega) s.length 0 (by omega) (Nat.zero_le _) with k | k
      · exact ⟨_,w66_1 s hp h1 h2 k⟩
      · exact ⟨_,w66_0 s hp h1 h2 k⟩
abbrev bx (x:TSec):Nat × Ob:=(2,Ob.row true 6 true [x.oc])
theorem l68 (x:TSec) (z:Int) (hp:HL) (hl:x.relocs.l.length<2 ^ 30):∀ (d i:Nat) (e:Int),x.relocs.l.length - i=d→i≤x.relocs.l.length →
    Lp pg i68_l0 ⟨[(1,V.d (D.int .i64 z)),(2,V.ptr 0 2 [] 0 0),(5,V.d (D.int .i64 e)),(14,V.d (D.sl x.relocs.nn (x.relocs.l.map TRlc.c))),(15,iN x.relocs.l.length),(16,iN i)],[bx x]::hp⟩ .ret ⟨[(4,V.d (D.bool false))],[]::hp⟩ ∨
    ∃ e',Lp pg i68_l0 ⟨[(1,V.d (D.int .i64 z)),(2,V.ptr 0 2 [] 0 0),(5,V.d (D.int .i64 e)),(14,V.d (D.sl x.relocs.nn (x.relocs.l.map TRlc.c))),(15,iN x.relocs.l.length),(16,iN i)],[bx x]::hp⟩ (.exit 0)
      ⟨[(1,V.d (D.int .i64 z)),(2,V.ptr 0 2 [] 0 0),(5,V.d (D.int .i64 e')),(14,V.d (D.sl x.relocs.nn (x.relocs.l.map TRlc.c))),(15,iN x.relocs.l.length),(16,iN x.relocs.l.length),(17,V.d (D.bool false))],[bx x]::hp⟩:=by
  intro d
  induction d with
  | zero=>
    intro i e h h1
    obtain rfl:i=x.relocs.l.length:=by omega
    exact .inr ⟨e,Lp.exit (w68a_0 x z e _ 0 hp (lt_f (Nat.le_refl _)))⟩
  | succ d ih=>
    intro i e h h1
    have hi:i<x.relocs.l.length:=by omega
    rcases b68 x z e i hp hi hl with ⟨e',r⟩ | r
    · rcases ih (i+1) e' (by omega) (by omega) with k | ⟨e2,k⟩
      · exact .inl (Lp.next r k)
      · exact .inr ⟨e2,Lp.next r k⟩
    · exact .inl (Lp.ret r)
theorem f68 (x:TSec) (z:Int) (hp:HL) (hl:x.relocs.l.length<2 ^ 30):∃ b,Rn pg 68 [V.d (D.agg x.c),V.d (D.int .i64 z)] hp (V.d (D.bool b)) hp:=by
  cases h1:(decide ((((x.relocs.l.map TRlc.c).length:Nat):Int) > 4096)) with
  | true=>exact ⟨_,w68_2 x z hp h1⟩
  | false=>
    rcases l68 x z hp hl _ 0 0 rfl (Nat.zero_le _) with k | ⟨e,k⟩
    · exact ⟨_,w68_1 x z hp h1 (by rw [List.length_map];exact k)⟩
    · exact ⟨_,w68_0 x z hp e h1 (by rw [List.length_map];exact k)⟩
theorem g44 (x:TSec) (z:Int) (hp:HL) (hl:x.relocs.l.length<2 ^ 30):∃ b,Rn pg 44 [V.d (D.agg x.c),V.d (D.int .i64 z)] hp (V.d (D.bool b)) hp:=by
  obtain ⟨q,r66⟩:=f66 x.name []
  obtain ⟨v,r68⟩:=f68 x z [] hl
  exact f44 x z hp q r66 (f36 _ _) _ (w67_0 _ [] (by decide) (by decide) (by decide) (by decide) (by decide) (by decide)) v r68
def Sorted (l:List TSym):Prop:=∀ j,1≤j→j<l.length→¬cmpS (f0 l j).s (f0 l (j - 1)).s<0
theorem f0_at {l:List TSym} {k:Nat} {x:TSym} (h:l[k]? = some x):(f0 l k).s=x:=by simp [f0,List.getD,h]
theorem l46 (b:Bool) (l:List TSym) (hp:HL) (hl:l.length<2 ^ 30):∀ (i:Nat),i<l.length →
    Lp pg i46_l0 ⟨[(0,V.d (D.sl b (l.map TSym.c))),(1,V.fn 41 []),(5,iN i)],[]::hp⟩ .ret ⟨[(4,V.d (D.bool false))],[]::hp⟩ ∨
    ∃ z1,Lp pg i46_l0 ⟨[(0,V.d (D.sl b (l.map TSym.c))),(1,V.fn 41 []),(5,iN i)],[]::hp⟩ (.exit 0) ⟨[(0,V.d (D.sl b (l.map TSym.c))),(1,V.fn 41 []),(5,V.d (D.int .i64 z1)),(10,V.d (D.bool false))],[]::hp⟩ ∧
      ∀ j,1≤j→j≤i→¬cmpS (f0 l j).s (f0 l (j - 1)).s<0:=by
  intro i
  induction i with
  | zero=>intro h;exact .inr ⟨_,Lp.exit (w46a_0 b l 0 hp (by decide)),fun j h1 h2=>by omega⟩
  | succ i ih=>
    intro h
    have hx:l[i+1]? = some l[i+1]:=List.getElem?_eq_getElem h
    have hy:l[i]? = some l[i]:=List.getElem?_eq_getElem (by omega)
    generalize l[i+1]=x at hx
    generalize l[i]=y at hy
    have hgt:(decide (((i+1:Nat):Int) > 0))=true:=by simp only [decide_eq_true_eq];omega
    have hw:IntKind.i64.wrap (((i+1:Nat):Int) - 1)=((i:Nat):Int):=wsub1 (by omega) (by omega)
    cases hc:(decide ((cmpS x y)<0)) with
    | true=>exact .inl (Lp.ret (w46a_2 b l _ hp (i+1) x i y hgt rfl (map_get (f:=TSym.c) hx) hw (map_get (f:=TSym.c) hy) (f41 _ _ []) hc))
    | false=>
      have r:=w46a_1 b l _ hp (i+1) x i y hgt rfl (map_get (f:=TSym.c) hx) hw (map_get (f:=TSym.c) hy) (f41 _ _ []) hc
      rw [hw] at r
      rcases ih (by omega) with k | ⟨z1,k,hk⟩
      · exact .inl (Lp.next r k)
      · refine .inr ⟨z1,Lp.next r k,fun j h1 h2=>?_⟩
        by_cases hj:j=i+1
        · subst hj
          rw [f0_at hx,Nat.add_sub_cancel,f0_at hy]
          exact of_decide_eq_false hc
        · exact hk j h1 (by omega)
theorem f46 (b:Bool) (l:List TSym) (hp:HL) (hl:l.length<2 ^ 30):∃ q,Rn pg 46 [V.d (D.sl b (l.map TSym.c)),V.fn 41 []] hp (V.d (D.bool q)) hp∧(q=true→Sorted l):=by
  by_cases h0:l.length=0
  · refine ⟨true,w46_0 b l hp _ (Lp.exit (w46a_0 b l _ hp ?_)),fun _ j h1 h2=>by omega⟩
    rw [List.length_map,h0];decide
  · have hw:IntKind.i64.wrap ((((l.map TSym.c).length:Nat):Int) - 1)=((l.length - 1:Nat):Int):=by rw [List.length_map];exact wsub1 (by omega) (by omega)
    rcases l46 b l hp hl (l.length - 1) (by omega) with k | ⟨z1,k,hk⟩
    · exact ⟨false,w46_1 b l hp (by rw [hw];exact k),fun h=>by cases h⟩
    · exact ⟨true,w46_0 b l hp z1 (by rw [hw];exact k),fun _ j h1 h2=>hk j h1 (by omega)⟩
def strMap (es:List (D × D)):Prop:=∀ e ∈ es,(∃ s,e.1=D.str s) ∧ ∃ b,e.2=D.bool b
theorem deq_str (k s:List UInt8):deqT false [2] (D.str k) (D.str s)=some (k==s):=by
  simp only [deqT,Bool.false_eq_true,if_false,deqK]
  cases k==s <;> rfl
theorem find_str (k:List UInt8):∀ (es:List (D × D)),strMap es→findD false [2] (D.str k) es=some none ∨ ∃ b,findD false [2] (D.str k) es=some (some (D.bool b))
  | [],_=>.inl rfl
  | (a,v)::r,h=>by
    obtain ⟨⟨s,hs⟩,b,hb⟩:=h _ List.mem_cons_self
    simp only at hs hb
    subst hs;subst hb
    have ih:=find_str k r fun e he=>h e (List.mem_cons_of_mem _ he)
    simp only [findD,deq_str,Option.bind_some]
    cases k==s with
    | true=>exact .inr ⟨b,rfl⟩
    | false=>exact ih
theorem put_str (k:List UInt8) (b0:Bool):∀ (es:List (D × D)),strMap es→∃ es',putD false [2] (D.str k) (D.bool b0) es=some es'∧strMap es'
  | [],_=>⟨[(D.str k,D.bool b0)],rfl,fun e he=>by
    have:e=(D.str k,D.bool b0):=by simpa using he
    subst this
    exact ⟨⟨k,rfl⟩,b0,rfl⟩⟩
  | (a,v)::r,h=>by
    obtain ⟨⟨s,hs⟩,b,hb⟩:=h _ List.mem_cons_self
    simp only at hs hb
    subst hs;subst hb
    obtain ⟨es',ih1,ih2⟩:=put_str k b0 r fun e he=>h e (List.mem_cons_of_mem _ he)
    simp only [putD,deq_str,Option.bind_some]
    cases k==s with
    | true=>
      refine ⟨(D.str k,D.bool b0)::r,rfl,fun e he=>?_⟩
      rcases List.mem_cons.1 he with rfl | he
      · exact ⟨⟨k,rfl⟩,b0,rfl⟩
      · exact h e (List.mem_cons_of_mem _ he)
    | false=>
      refine ⟨(D.str s,D.bool b)::es',by simp [ih1],fun e he=>?_⟩
      rcases List.mem_cons.1 he with rfl | he
      · exact ⟨⟨s,rfl⟩,b,rfl⟩
      · exact ih2 e he
abbrev bo (o:TObj):Nat × Ob:=(1,Ob.row true 2 true [o.oc])
theorem l23a (o:TObj) (ho:objOk o) (hp:HL):∀ (d i:Nat) (es:List (D × D)),o.sections.l.length - i=d→i≤o.sections.l.length→strMap es →
    Lp pg i23_l0 ⟨[(1,V.ptr 0 1 [] 0 0),(3,V.mp 0 19 none),(21,V.d (D.sl o.sections.nn (o.sections.l.map TSec.c))),(22,iN o.sections.l.length),(23,iN i)],[bo o,(19,Ob.map es)]::hp⟩ .ret ⟨[(2,V.d (D.int .i64 140))],[]::hp⟩ ∨
    ∃ es',Lp pg i23_l0 ⟨[(1,V.ptr 0 1 [] 0 0),(3,V.mp 0 19 none),(21,V.d (D.sl o.sections.nn (o.sections.l.map TSec.c))),(22,iN o.sections.l.length),(23,iN i)],[bo o,(19,Ob.map es)]::hp⟩ (.exit 0)
      ⟨[(1,V.ptr 0 1 [] 0 0),(3,V.mp 0 19 none),(21,V.d (D.sl o.sections.nn (o.sections.l.map TSec.c))),(22,iN o.sections.l.length),(23,iN o.sections.l.length),(24,V.d (D.bool false))],[bo o,(19,Ob.map es')]::hp⟩:=by
  have hs:=ho.secs
  intro d
  induction d with
  | zero=>
    intro i es h h1 hes
    obtain rfl:i=o.sections.l.length:=by omega
    exact .inr ⟨es,Lp.exit (w23a_0 o _ es true hp (lt_f (Nat.le_refl _)))⟩
  | succ d ih=>
    intro i es h h1 hes
    have hi:i<o.sections.l.length:=by omega
    have hx:o.sections.l[i]? = some o.sections.l[i]:=List.getElem?_eq_getElem hi
    have hm:o.sections.l[i] ∈ o.sections.l:=List.getElem_mem hi
    generalize o.sections.l[i]=x at hx hm
    have hw:IntKind.i64.wrap (((i:Nat):Int)+1)=((i+1:Nat):Int):=wadd1 (by omega)
    obtain ⟨q,rq⟩:=g44 x (((o.symbols.l.map TSym.c).length:Nat):Int) [] (ho.rels _ hm)
    have hg:=map_get (f:=TSec.c) hx
    cases hq:q with
    | false=>
      subst hq
      exact .inl (Lp.ret (w23a_4 o i es false hp x (lt_t hi) hg rq rfl))
    | true=>
      subst hq
      obtain ⟨es',p1,p2⟩:=put_str x.name true es hes
      rcases find_str x.name es hes with f1 | ⟨b,f1⟩
      · have r:=w23a_1 o i es true hp x es' (lt_t hi) hg rq rfl f1 (by rw [f1];rfl) p1
        rw [hw] at r
        rcases ih (i+1) es' (by omega) (by omega) p2 with k | ⟨e2,k⟩
        · exact .inl (Lp.next r k)
        · exact .inr ⟨e2,Lp.next r k⟩
      · cases b with
        | true=>exact .inl (Lp.ret (w23a_3 o i es true hp x true (lt_t hi) hg rq rfl f1 rfl))
        | false=>
          have r:=w23a_2 o i es true hp x false es' (lt_t hi) hg rq rfl f1 rfl (by rw [f1];rfl) p1
          rw [hw] at r
          rcases ih (i+1) es' (by omega) (by omega) p2 with k | ⟨e2,k⟩
          · exact .inl (Lp.next r k)
          · exact .inr ⟨e2,Lp.next r k⟩
theorem l23b (o:TObj) (ho:objOk o) (hp:HL):∀ (d i:Nat) (es:List (D × D)),o.symbols.l.length - i=d→i≤o.symbols.l.length→strMap es →
    Lp pg i23_l2 ⟨[(1,V.ptr 0 1 [] 0 0),(6,V.mp 0 43 none),(45,V.d (D.sl o.symbols.nn (o.symbols.l.map TSym.c))),(46,iN o.symbols.l.length),(47,iN i)],[bo o,(43,Ob.map es)]::hp⟩ .ret ⟨[(2,V.d (D.int .i64 140))],[]::hp⟩ ∨
    ∃ es',Lp pg i23_l2 ⟨[(1,V.ptr 0 1 [] 0 0),(6,V.mp 0 43 none),(45,V.d (D.sl o.symbols.nn (o.symbols.l.map TSym.c))),(46,iN o.symbols.l.length),(47,iN i)],[bo o,(43,Ob.map es)]::hp⟩ (.exit 2)
      ⟨[(1,V.ptr 0 1 [] 0 0),(6,V.mp 0 43 none),(45,V.d (D.sl o.symbols.nn (o.symbols.l.map TSym.c))),(46,iN o.symbols.l.length),(47,iN o.symbols.l.length),(48,V.d (D.bool false))],[bo o,(43,Ob.map es')]::hp⟩:=by
  have hs:=ho.syms
  intro d
  induction d with
  | zero=>
    intro i es h h1 hes
    obtain rfl:i=o.symbols.l.length:=by omega
    exact .inr ⟨es,Lp.exit (w23b_0 o _ es true hp (lt_f (Nat.le_refl _)))⟩
  | succ d ih=>
    intro i es h h1 hes
    have hi:i<o.symbols.l.length:=by omega
    have hx:o.symbols.l[i]? = some o.symbols.l[i]:=List.getElem?_eq_getElem hi
    generalize o.symbols.l[i]=x at hx
    have hw:IntKind.i64.wrap (((i:Nat):Int)+1)=((i+1:Nat):Int):=wadd1 (by omega)
    obtain ⟨q,rq⟩:=f45 x o.sections []
    have hg:=map_get (f:=TSym.c) hx
    cases hq:q with
    | false=>
      subst hq
      exact .inl (Lp.ret (w23b_4 o i es false hp x (lt_t hi) hg rq rfl))
    | true=>
      subst hq
      obtain ⟨es',p1,p2⟩:=put_str x.name true es hes
      rcases find_str x.name es hes with f1 | ⟨b,f1⟩
      · have r:=w23b_1 o i es true hp x es' (lt_t hi) hg rq rfl f1 (by rw [f1];rfl) p1
        rw [hw] at r
        rcases ih (i+1) es' (by omega) (by omega) p2 with k | ⟨e2,k⟩
        · exact .inl (Lp.next r k)
        · exact .inr ⟨e2,Lp.next r k⟩
      · cases b with
        | true=>exact .inl (Lp.ret (w23b_3 o i es true hp x true (lt_t hi) hg rq rfl f1 rfl))
        | false=>
          have r:=w23b_2 o i es true hp x false es' (lt_t hi) hg rq rfl f1 rfl (by rw [f1];rfl) p1
          rw [hw] at r
          rcases ih (i+1) es' (by omega) (by omega) p2 with k | ⟨e2,k⟩
          · exact .inl (Lp.next r k)
          · exact .inr ⟨e2,Lp.next r k⟩
theorem f23 (o:TObj) (ho:objOk o) (hp:HL):∃ v:Int,Rn pg 23 [V.d (D.agg o.c)] hp (V.d (D.int .i64 v)) hp∧(v=0→Sorted o.symbols.l):=by
  cases h1:(decide ((((o.sections.l.map TSec.c).length:Nat):Int) > 64)) with
  | true=>exact ⟨140,w23_5 o true hp h1,fun h=>by cases h⟩
  | false=>
    cases h2:(decide ((((o.symbols.l.map TSym.c).length:Nat):Int) > 4096)) with
    | true=>exact ⟨140,w23_4 o true hp h1 h2,fun h=>by cases h⟩
    | false=>
      have hnil:strMap []:=fun e he=>by cases he
      rcases l23a o ho hp _ 0 [] rfl (Nat.zero_le _) hnil with k | ⟨es1,k⟩
      · exact ⟨140,w23_3 o true hp h1 h2 (by rw [List.length_map];exact k),fun h=>by cases h⟩
      · rcases l23b o ho hp _ 0 [] rfl (Nat.zero_le _) hnil with k2 | ⟨es2,k2⟩
        · exact ⟨140,w23_2 o true hp es1 h1 h2 (by rw [List.length_map];exact k) (by rw [List.length_map];exact k2),fun h=>by cases h⟩
        · obtain ⟨q,rq,hq⟩:=f46 o.symbols.nn o.symbols.l [] ho.syms
          cases hb:q with
          | true=>
            subst hb
            exact ⟨0,w23_0 o true hp es1 es2 h1 h2 (by rw [List.length_map];exact k) (by rw [List.length_map];exact k2) rq rfl,fun _=>hq rfl⟩
          | false=>
            subst hb
            exact ⟨140,w23_1 o false hp es1 es2 h1 h2 (by rw [List.length_map];exact k) (by rw [List.length_map];exact k2) rq rfl,fun h=>by cases h⟩
theorem l25 (b c:Bool) (l:List TSym) (hp:HL) (hl:l.length<2 ^ 30):∀ (d i:Nat),l.length - i=d→i≤l.length →
    Lp pg i25_l0 ⟨[(0,V.d (D.sl b (l.map TSym.c))),(1,V.d (D.sl c (l.map TSym.c))),(12,iN l.length),(13,iN i)],[]::hp⟩ (.exit 0) ⟨[(0,V.d (D.sl b (l.map TSym.c))),(1,V.d (D.sl c (l.map TSym.c))),(12,iN l.length),(13,iN l.length),(14,V.d (D.bool false))],[]::hp⟩:=by
  intro d
  induction d with
  | zero=>
    intro i h h1
    obtain rfl:i=l.length:=by omega
    exact Lp.exit (w25a_0 b c l _ hp (lt_f (Nat.le_refl _)))
  | succ d ih=>
    intro i h h1
    have hi:i<l.length:=by omega
    have hx:l[i]? = some l[i]:=List.getElem?_eq_getElem hi
    generalize l[i]=x at hx
    have hw:IntKind.i64.wrap (((i:Nat):Int)+1)=((i+1:Nat):Int):=wadd1 (by omega)
    have r:=w25a_2 b c l i hp x (lt_t hi) (map_get (f:=TSym.c) hx) ((TSym.deq x x).trans (by simp))
    rw [hw] at r
    exact Lp.next r (ih (i+1) (by omega) (by omega))
theorem f25 (b c:Bool) (l:List TSym) (hp:HL) (hl:l.length<2 ^ 30):Rn pg 25 [V.d (D.sl b (l.map TSym.c)),V.d (D.sl c (l.map TSym.c))] hp (V.d (D.bool true)) hp:=
  w25_0 b c l hp (by simp) (by rw [List.length_map];exact l25 b c l hp hl _ 0 rfl (Nat.zero_le _))
theorem l65 (b c:Bool) (l:List TRlc) (hp:HL) (hl:l.length<2 ^ 30):∀ (d i:Nat),l.length - i=d→i≤l.length →
    Lp pg i65_l0 ⟨[(0,V.d (D.sl b (l.map TRlc.c))),(1,V.d (D.sl c (l.map TRlc.c))),(12,iN l.length),(13,iN i)],[]::hp⟩ (.exit 0) ⟨[(0,V.d (D.sl b (l.map TRlc.c))),(1,V.d (D.sl c (l.map TRlc.c))),(12,iN l.length),(13,iN l.length),(14,V.d (D.bool false))],[]::hp⟩:=by
  intro d
  induction d with
  | zero=>
    intro i h h1
    obtain rfl:i=l.length:=by omega
    exact Lp.exit (w65a_0 b c l _ hp (lt_f (Nat.le_refl _)))
  | succ d ih=>
    intro i h h1
    have hi:i<l.length:=by omega
    have hx:l[i]? = some l[i]:=List.getElem?_eq_getElem hi
    generalize l[i]=x at hx
    have hw:IntKind.i64.wrap (((i:Nat):Int)+1)=((i+1:Nat):Int):=wadd1 (by omega)
    have r:=w65a_2 b c l i hp x (lt_t hi) (map_get (f:=TRlc.c) hx) ((TRlc.deq x x).trans (by simp))
    rw [hw] at r
    exact Lp.next r (ih (i+1) (by omega) (by omega))
theorem f65 (b c:Bool) (l:List TRlc) (hp:HL) (hl:l.length<2 ^ 30):Rn pg 65 [V.d (D.sl b (l.map TRlc.c)),V.d (D.sl c (l.map TRlc.c))] hp (V.d (D.bool true)) hp:=
  w65_0 b c l hp (by simp) (by rw [List.length_map];exact l65 b c l hp hl _ 0 rfl (Nat.zero_le _))
theorem strOf_u8:∀ (l:List UInt8),strOf (l.map u8c)=some l
  | []=>rfl
  | b::l=>by
    simp only [List.map_cons,u8c,strOf]
    rw [show strOf (l.map u8c)=some l from strOf_u8 l]
    simp
theorem f64 (b c:Bool) (l:List UInt8) (hp:HL):Rn pg 64 [V.d (D.sl b (l.map u8c)),V.d (D.sl c (l.map u8c))] hp (V.d (D.bool true)) hp:=by
  have r:=w64_0 b c l hp (all_len (f:=u8c) (fun _=>rfl) _) (allDs_map _) (strOf_u8 l)
  rwa [beq_self_eq_true] at r
def SecEq (x y:TSec):Prop:=x.name=y.name∧x.kind=y.kind∧x.align=y.align∧x.size=y.size∧x.data.l=y.data.l∧x.relocs.l=y.relocs.l
theorem f43 (x y:TSec) (h:SecEq x y) (hl:x.relocs.l.length<2 ^ 30) (hp:HL):Rn pg 43 [V.d (D.agg x.c),V.d (D.agg y.c)] hp (V.d (D.bool true)) hp:=by
  obtain ⟨h1,h2,h3,h4,h5,h6⟩:=h
  refine w43_0 x y hp (by simp [h1]) (by simp [h2]) (by simp [h3]) (by simp [h4]) ?_ ?_
  · rw [←h5];exact f64 _ _ _ []
  · rw [←h6];exact f65 _ _ _ [] hl
theorem l42 (b c:Bool) (l m:List TSec) (hp:HL) (hl:l.length<2 ^ 30) (hlm:l.length=m.length) (hr:∀ x ∈ l,x.relocs.l.length<2 ^ 30) (he:∀ (i:Nat) x y,l[i]? = some x→m[i]? = some y→SecEq x y):∀ (d i:Nat),l.length - i=d→i≤l.length →
    Lp pg i42_l0 ⟨[(1,V.d (D.sl c (m.map TSec.c))),(2,V.fn 43 []),(15,V.d (D.sl b (l.map TSec.c))),(16,iN l.length),(17,iN i)],[]::hp⟩ (.exit 0) ⟨[(1,V.d (D.sl c (m.map TSec.c))),(2,V.fn 43 []),(15,V.d (D.sl b (l.map TSec.c))),(16,iN l.length),(17,iN l.length),(18,V.d (D.bool false))],[]::hp⟩:=by
  intro d
  induction d with
  | zero=>
    intro i h h1
    obtain rfl:i=l.length:=by omega
    exact Lp.exit (w42a_0 b c l m _ hp (lt_f (Nat.le_refl _)))
  | succ d ih=>
    intro i h h1
    have hi:i<l.length:=by omega
    have hx:l[i]? = some l[i]:=List.getElem?_eq_getElem hi
    have hy:m[i]? = some (m[i]'(by omega)):=List.getElem?_eq_getElem (by omega)
    have hm:l[i] ∈ l:=List.getElem_mem hi
    have hw:IntKind.i64.wrap (((i:Nat):Int)+1)=((i+1:Nat):Int):=wadd1 (by omega)
    have r:=w42a_1 b c l m i hp _ _ (lt_t hi) (map_get (f:=TSec.c) hx) (map_get (f:=TSec.c) hy) (f43 _ _ (he i _ _ hx hy) (hr _ hm) [])
    rw [hw] at r
    exact Lp.next r (ih (i+1) (by omega) (by omega))
def ObjEq (x y:TObj):Prop:=x.sections.l.length=y.sections.l.length∧(∀ (i:Nat) u v,x.sections.l[i]? = some u→y.sections.l[i]? = some v→SecEq u v)∧x.symbols.l=y.symbols.l
theorem f22 (x y:TObj) (hx:objOk x) (h:ObjEq x y) (hp:HL):Rn pg 22 [V.d (D.agg x.c),V.d (D.agg y.c)] hp (V.d (D.bool true)) hp:=by
  obtain ⟨h1,h2,h3⟩:=h
  refine w22_0 x y hp ?_ ?_
  · refine w42_0 _ _ _ _ [] (by simp [h1]) ?_
    rw [List.length_map]
    exact l42 _ _ _ _ [] hx.secs h1 hx.rels h2 _ 0 rfl (Nat.zero_le _)
  · rw [←h3];exact f25 _ _ _ [] hx.syms
end Go.Proofs.YtgmphfmoonbfpaaMv
