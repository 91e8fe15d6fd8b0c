/- Part 3 of the proof. -/
import Derived.Test.YtgmphfmoonbfpaaP2
import Derived.RangeFuncRecord
import Derived.WalkKit
import Derived.TacticsIn
import Derived.BigFrameIn
import Derived.Test.YtgmphfmoonbfpaaProg
import Derived.Test.YtgmphfmoonbfpaaChecked
set_option linter.unusedVariables false
set_option linter.unusedSimpArgs false
namespace Go.Proofs.YtgmphfmoonbfpaaMv
open Go Go.RowKit
theorem back_calls (v:Value) (hv:v.oneCell'=true) (w:World):Calls Try.prog 34 #[v] w fun e w'=>e = .returned (.func (.func 60) #[] #[.pointer (some ⟨w.heap.size,0,none⟩)])∧w'=w.alloc (.cells #[v] 29):=by
  go_enter Try.func34,Try.ntmps34
  go_wp2
  all_goals go_ret
  all_goals simp
end Go.Proofs.YtgmphfmoonbfpaaMv

namespace Go.Proofs.YtgmphfmoonbfpaaMv
open Go Go.RowKit
structure BackI (F:Fence) (n l b0:Nat) (ad:Option Addr) (len cap:Nat) (el:Nat→Array Value) (I:Nat→World→Prop):Prop where
  box:∀ j W,I j W→W.cell? ⟨b0,0,none⟩=some (.slice ad len cap)
  load:∀ i W,I (i+1) W→i<len→∃ a0 x0 x1 x2 x3 x4 x5 x6 x7 x8,ad=some a0∧el i = #[x0,x1,x2,x3,x4,x5,x6,x7,x8]∧W.cell? (a0.add (i * 9))=some x0 ∧
    W.cell? ⟨(a0.add (i * 9)).block,(a0.add (i * 9)).off+1,none⟩=some x1∧W.cell? ⟨(a0.add (i * 9)).block,(a0.add (i * 9)).off+2,none⟩=some x2∧W.cell? ⟨(a0.add (i * 9)).block,(a0.add (i * 9)).off+3,none⟩=some x3 ∧
    W.cell? ⟨(a0.add (i * 9)).block,(a0.add (i * 9)).off+4,none⟩=some x4∧W.cell? ⟨(a0.add (i * 9)).block,(a0.add (i * 9)).off+5,none⟩=some x5∧W.cell? ⟨(a0.add (i * 9)).block,(a0.add (i * 9)).off+6,none⟩=some x6 ∧
    W.cell? ⟨(a0.add (i * 9)).block,(a0.add (i * 9)).off+7,none⟩=some x7∧W.cell? ⟨(a0.add (i * 9)).block,(a0.add (i * 9)).off+8,none⟩=some x8
  round:∀ j W,I (j+1) W→j<len→∃ fn tmps assign body,(Instr.yield l #[.int .i64 j, .agg (el j)]).run Try.prog W = .ok (.round l fn tmps assign body) W ∧
    RoundIn F (n - 1) Try.prog l fn tmps assign body W fun e W'=>e = .returned (.bool true)∧I j W'
def backMu (a:Act) (_:World):Nat:=match a.tmps.getD 3 undef with
  | Value.int _ x=>(x+1).toNat
  | _=>0
set_option maxHeartbeats 4000000 in
theorem back60 (F:Fence) (n:Nat) (hF:F.fn 60) (hro:F.round=none) (hn:1≤n) {l b0 len cap:Nat} {ad:Option Addr} {el:Nat→Array Value} {I:Nat→World→Prop} (H:BackI F n l b0 ad len cap el I) (hl:len<2 ^ 40) {W:World} (h0:I len W) :
    CallsIn F n Try.prog 60 #[.func (.yield l) #[] #[], .pointer (some ⟨b0,0,none⟩)] W fun e W'=>(∃ v,e = .returned v)∧I 0 W':=by
  refine callsIn_of_wp Try.func60 rfl hF ?_ hro
  simp only [Try.ntmps60,List.size_toArray,List.length_cons,List.length_nil,Nat.reduceAdd,Nat.reduceSub,Array.replicate_succ,Array.replicate_zero,List.push_toArray,List.append_toArray,List.nil_append,List.cons_append]
  have hb:=H.box _ _ h0
  gi_wp2
  refine wpIn_loop (fun a w=>∃ j:Nat,j≤len∧I j w ∧ ∃ t2 t4 t5 t6 t7 t8 t9 t10 t11 t12 t13 t14 t15 t16 t17 t18:Value,a = { tmps:=#[.func (.yield l) #[] #[], .pointer (some ⟨b0,0,none⟩),t2, .int .i64 ((j:Int) - 1),t4,t5,t6,t7,t8,t9,t10,t11,t12,t13,t14,t15,t16,t17,t18],defers:=[] }) backMu
    ⟨len,Nat.le_refl _,h0,_,_,_,_,_,_,_,_,_,_,_,_,_,_,_,_,rfl⟩ ?_
  rintro a w ⟨j,hj,hI,t2,t4,t5,t6,t7,t8,t9,t10,t11,t12,t13,t14,t15,t16,t17,t18,rfl⟩
  have hb2:=H.box _ _ hI
  cases j with
  | zero=>
    gi_wp2
    first | go_end0 | go_ret
    exact ⟨⟨_,rfl⟩,hI⟩
  | succ j=>
    obtain ⟨a0,x0,x1,x2,x3,x4,x5,x6,x7,x8,rfl,he,k0,k1,k2,k3,k4,k5,k6,k7,k8⟩:=H.load _ _ hI hj
    obtain ⟨fn,tmps,assign,body,hy,hr⟩:=H.round j w hI hj
    rw [he] at hy
    generalize hA:a0.add (j * 9)=A at *
    have e1:((j+1:Nat):Int) - 1=(j:Int):=by omega
    rw [e1]
    gi_wp2
    refine hr.mono ?_
    rintro e W1 ⟨rfl,h1⟩
    gi_wp2
    exact ⟨⟨j,by omega,h1,_,_,_,_,_,_,_,_,_,_,_,_,_,_,_,_,rfl⟩,by simp [backMu]⟩
end Go.Proofs.YtgmphfmoonbfpaaMv

namespace Go.Proofs.YtgmphfmoonbfpaaMv
open Go
structure Oth (w w':World):Prop where
  size:w.heap.size≤w'.heap.size
  cells:∀ (b:Nat) arr t fr,w.heap[b]? = some (.cells arr t fr)→w'.heap[b]? = some (.cells arr t fr)
  map:∀ (b:Nat) es c,w.heap[b]? = some (.map es c)→w'.heap[b]? = some (.map es c)
theorem Oth.cell {w w':World} (H:Oth w w') {a:Addr} {v:Value} (h:w.cell? a=some v):w'.cell? a=some v:=by
  unfold World.cell? at h ⊢
  split at h
  · rename_i c t fr hb
    rw [H.cells _ _ _ _ hb]
    exact h
  · cases h
theorem Oth.refl (w:World):Oth w w:=⟨Nat.le_refl _,fun _ _ _ _ h=>h,fun _ _ _ h=>h⟩
theorem Oth.trans {a b c:World} (h:Oth a b) (k:Oth b c):Oth a c:=⟨Nat.le_trans h.size k.size,fun x y z u g=>k.cells x y z u (h.cells x y z u g),fun x y z g=>k.map x y z (h.map x y z g)⟩
theorem Oth.alloc (w:World) (o:Obj):Oth w (w.alloc o):=by
  have key:∀ (b:Nat) (x:Obj),w.heap[b]? = some x→(w.alloc o).heap[b]? = some x:=by
    intro b x h
    have hb:=(Array.getElem?_eq_some_iff.1 h).1
    show (w.heap.push o)[b]? = some x
    rw [Array.getElem?_push_lt hb,←Array.getElem?_eq_getElem hb,h]
  exact ⟨by simp,fun b _ _ _ h=>key b _ h,fun b _ _ h=>key b _ h⟩
theorem Oth.put {w:World} {l:Nat} {o:Obj} (o':Obj) (ho:w.heap[l]? = some o) (h1:∀ arr t fr,o ≠ .cells arr t fr) (h2:∀ es c,o ≠ .map es c):Oth w (w.putObj l o'):=by
  have key:∀ (b:Nat) (x:Obj),x≠o→w.heap[b]? = some x→(w.putObj l o').heap[b]? = some x:=by
    intro b x hx h
    have:b≠l:=by rintro rfl;rw [ho] at h;exact hx (Option.some.inj h).symm
    rw [World.putObj_heap_other this,h]
  exact ⟨by simp,fun b arr t fr h=>key b _ (fun e=>h1 arr t fr e.symm) h,fun b es c h=>key b _ (fun e=>h2 es c e.symm) h⟩
section
variable {X:Nat→Prop} {h:Hp} {B:Gh} {w w':World}
theorem Oth.rd (H:Oth w w') {N:Nat→Prop} {d:D} {v:Value} (hr:RD w N d v):RD w' N d v:=hr.mono (fun a v _ hc=>H.cell hc) (fun a v hn _=>hn)
theorem Oth.hdr (H:Oth w w') {b:Nat} {r:Row} {off n:Nat} {v:Value} (hr:Hdr w b r off n v):Hdr w' b r off n v:=by
  rcases hr with h1 | ⟨h1,a,cap,arr,t,fr,h2,h3⟩
  · exact .inl h1
  · exact .inr ⟨h1,a,cap,arr,t,fr,H.cells _ _ _ _ h2,h3⟩
theorem Oth.ents (H:Oth w w') {N:Nat→Prop}:∀ {es:List (D × D)} {ents:List MapEntry},Ents N w es ents→Ents N w' es ents
  | [],[],_=>trivial
  | (k,x)::r,e::es,h=>⟨H.rd h.1,H.rd h.2.1,H.ents h.2.2⟩
theorem Oth.node (H:Oth w w') {N:Nat→Prop} {Bp:Path→Nat} {p:Path} {n:Nd} (hn:NodeOk N w Bp p n):NodeOk N w' Bp p n:=by
  cases n with
  | row r=>
    obtain ⟨arr,t,fr,h1,h2,h3,h4,h5⟩:=hn
    refine ⟨arr,t,fr,H.cells _ _ _ _ h1,h2,h3,h4,fun e o c hc=>?_⟩
    obtain ⟨v,hv,hr⟩:=h5 e o c hc
    refine ⟨v,hv, ?_⟩
    cases c with
    | d x=>exact ⟨H.rd hr.1,hr.2⟩
    | own sz nn es=>exact H.hdr hr
    | mp es=>exact hr
    | bad=>trivial
  | map es=>
    obtain ⟨ents,clock,h1,h2⟩:=hn
    exact ⟨ents,clock,H.map _ _ _ h1,H.ents h2⟩
theorem Oth.hrel (H:Oth w w') (hr:HRel X h B w):HRel X h B w':=
  ⟨fun u s p n h1 h2=>H.node (hr.node u s p n h1 h2),hr.inj,fun b hb=>Nat.lt_of_lt_of_le (hr.ext b hb) H.size,hr.apart⟩
theorem Oth.rv1 (H:Oth w w') {v:V} {x:Value} (hv:RV1 X h B w v x):RV1 X h B w' v x:=by
  cases v with
  | d d=>exact H.rd hv
  | ip cs o=>
    obtain ⟨b,base,h1,h2⟩:=hv
    refine ⟨b,base,h1,fun j d hj=>?_⟩
    obtain ⟨k1,x,k2,k3,k4⟩:=h2 j d hj
    exact ⟨k1,x,H.cell k2,k3,H.rd k4⟩
  | ptr u s p e o=>exact hv
  | msl u s p off n=>
    obtain ⟨r,h1,h2,h3⟩:=hv
    exact ⟨r,h1,h2,H.hdr h3⟩
  | mp u s a=>cases a <;> exact hv
  | z nn=>exact hv
  | bad=>trivial
  | und=>exact hv
  | fn _ _=>exact hv
  | agg _=>exact hv
  | tup _=>exact hv
theorem Oth.rvs (H:Oth w w') {vs:List V} {arr:Array Value} (hv:RVs X h B w vs arr):RVs X h B w' vs arr:=⟨hv.1,fun i v x h1 h2=>H.rv1 (hv.2 i v x h1 h2)⟩
theorem Oth.rv (H:Oth w w') {v:V} {x:Value} (hv:RV X h B w v x):RV X h B w' v x:=by
  cases v with
  | fn f vs=>obtain ⟨arr,h1,h2⟩:=hv;exact ⟨arr,h1,H.rvs h2⟩
  | agg vs=>obtain ⟨arr,h1,h2,h3⟩:=hv;exact ⟨arr,h1,H.rvs h2,h3⟩
  | tup vs=>obtain ⟨arr,h1,h2⟩:=hv;exact ⟨arr,h1,H.rvs h2⟩
  | d d=>exact RV.of1 (H.rv1 (hv.to1 rfl))
  | ip cs o=>exact RV.of1 (H.rv1 (hv.to1 rfl))
  | ptr u s p e o=>exact RV.of1 (H.rv1 (hv.to1 rfl))
  | msl u s p off n=>exact RV.of1 (H.rv1 (hv.to1 rfl))
  | mp u s a=>exact RV.of1 (H.rv1 (hv.to1 rfl))
  | z nn=>exact RV.of1 (H.rv1 (hv.to1 rfl))
  | bad=>exact RV.of1 (H.rv1 (hv.to1 rfl))
  | und=>exact RV.of1 (H.rv1 (hv.to1 rfl))
end
def AgreeO (ops:Array Oper) (a a':Act):Prop:=∀ x,(∀ (j:Nat) o,ops[j]? = some o→o.dst≠some x)→a'.tmps.getD x undef=a.tmps.getD x undef
theorem AgreeO.put {ops:Array Oper} {j:Nat} {o:Oper} (ho:ops[j]? = some o) (a:Act) (v:Value):AgreeO ops a (a.put o.dst v):=by
  intro x hx
  have h:=hx j o ho
  cases hd:o.dst with
  | none=>rfl
  | some s=>
    rw [hd] at h
    have hs:s≠x:=fun e=>h (by rw [e])
    simp [Act.put,Array.getElem?_setIfInBounds_ne hs]
theorem AgreeO.refl (ops:Array Oper) (a:Act):AgreeO ops a a:=fun _ _=>rfl
theorem AgreeO.trans {ops:Array Oper} {a b c:Act} (h:AgreeO ops a b) (k:AgreeO ops b c):AgreeO ops a c:=fun x hx=>(k x hx).trans (h x hx)
def PlainO (P:Program) (o:Oper):Prop:=(∀ c,o.op ≠ .defer c) ∧ ∀ ρ w r w',(execOp ρ o).run P w = .ok r w'→(∃ v,r = .value v)∨r = .skip
theorem plain_v {P:Program} {o:Oper} (h0:∀ c,o.op ≠ .defer c) (s:(Operand→Value)→Sem Value) (h:∀ ρ,execOp ρ o=do pure (.value (←s ρ))):PlainO P o:=by
  refine ⟨h0,fun ρ w r w' hr=>?_⟩
  rw [h,Sem.run_bind] at hr
  cases hs:(s ρ).run P w with
  | ok v w1=>rw [hs] at hr;simp only [Result.andThen,Sem.run_pure,Result.ok.injEq] at hr;exact .inl ⟨v,hr.1.symm⟩
  | halt hh w1=>rw [hs] at hr;simp [Result.andThen] at hr
theorem plain_u {P:Program} {o:Oper} (h0:∀ c,o.op ≠ .defer c) (s:(Operand→Value)→Sem Unit) (h:∀ ρ,execOp ρ o=do s ρ;pure .skip):PlainO P o:=by
  refine ⟨h0,fun ρ w r w' hr=>?_⟩
  rw [h,Sem.run_bind] at hr
  cases hs:(s ρ).run P w with
  | ok v w1=>rw [hs] at hr;simp only [Result.andThen,Sem.run_pure,Result.ok.injEq] at hr;exact .inr hr.1.symm
  | halt hh w1=>rw [hs] at hr;simp [Result.andThen] at hr
theorem ops_in {n l:Nat} {P:Program} {ops:Array Oper} {Q:Exit→Act→World→Prop} (hL:¬LetsOut Q) (hd:∀ (j:Nat) o,ops[j]? = some o→PlainO P o) :
    ∀ (js:List Nat) (a0 a:Act) (w:World),AgreeO ops a0 a→wpOps P ops Q js a w→wpOpsIn (Fence.wide.inRound l) n P ops (fun e a' w'=>Q e a' w'∧AgreeO ops a0 a') js a w
  | [],a0,a,w,hA,h=>⟨h,hA⟩
  | j::js,a0,a,w,hA,h=>by
    simp only [wpOps,wpOpsIn] at h ⊢
    cases ho:ops[j]? with
    | none=>simp only [ho] at h ⊢;exact ops_in hL hd js a0 a w hA h
    | some o=>
      simp only [ho] at h ⊢
      split
      · rename_i hw
        rw [if_pos hw] at h
        rcases h with h | ⟨_,h⟩
        · refine ⟨fun _ _=>trivial, ?_⟩
          have hso:o.semAt (Fence.wide.inRound l).round a.eval=execOp a.eval o:=Oper.semAt_some l _ _ (hd j o ho).1
          rw [hso]
          unfold Oper.wp at h
          cases hr:(execOp a.eval o).run P w with
          | ok r w1=>
            rw [hr] at h
            rcases (hd j o ho).2 _ _ _ _ hr with ⟨v,rfl⟩ | rfl
            · exact ops_in hL hd js a0 _ w1 (hA.trans (.put ho a v)) h
            · exact ops_in hL hd js a0 _ w1 (hA.trans (.put ho a undef)) h
          | halt hh w1=>
            rw [hr] at h
            cases hh with
            | panic v=>exact ⟨h,hA⟩
            | _=>exact (h:False).elim
        · exact absurd h hL
      · rename_i hw
        rw [if_neg hw] at h
        exact ⟨fun _ _=>trivial,ops_in hL hd js a0 _ w (hA.trans (.put ho a undef)) h⟩
end Go.Proofs.YtgmphfmoonbfpaaMv

namespace Go.Proofs.YtgmphfmoonbfpaaMv
open Go
def Rn (p:Pg) (g:FuncId) (vs:List V) (hp:HL) (v:V) (hp':HL):Prop:=∃ n,∀ m,n≤m→run p m g vs hp=some (v,hp')
def Ev (p:Pg) (c:IR) (st:St) (ex:Ex) (st':St):Prop:=∃ n,∀ m,n≤m→ev m (run p m) c st=some (ex,st')
def Lp (p:Pg) (b:IR) (st:St) (ex:Ex) (st':St):Prop:=∃ n k,∀ m j,n≤m→k≤j→iter (ev m (run p m) b) j st=some (ex,st')
def S1 (p:Pg) (i:II) (st st':St):Prop:=∃ n,∀ m,n≤m→stepI (run p m) st i=some st'
def Ss (p:Pg) (l:List II) (st st':St):Prop:=∃ n,∀ m,n≤m→stepsI (run p m) st l=some st'
def IOp.pure:IOp→Bool
  | .call ..=>false
  | .callv ..=>false
  | .callo ..=>false
  | .callf ..=>false
  | _=>true
section
variable {p:Pg}
theorem eff_call {c c':FuncId→List V→Option V} {f:Fr} {h:Hp} {d:Nat} {op:IOp} (hp:op.pure=true):eff c f h d op=eff c' f h d op:=by
  cases op <;> first | rfl | cases hp
theorem Ss.nil (st:St):Ss p [] st st:=⟨0,fun _ _=>rfl⟩
theorem Ss.cons {i:II} {l:List II} {st st' st'':St} (h:S1 p i st st') (k:Ss p l st' st''):Ss p (i::l) st st'':=by
  obtain ⟨n,h⟩:=h
  obtain ⟨n',k⟩:=k
  refine ⟨max n n',fun m hm=>?_⟩
  have h1:=h m (by omega)
  have k1:=k m (by omega)
  simp [stepsI,h1,k1]
theorem S1.rcall {d:Option Nat} {g:FuncId} {args:List Opd} {st:St} {v:V} {hp':HL} {vs:List V} (hvs:args.map (·.ev st.f)=vs) (hf:vs.all V.free=false) (h:Rn p g vs st.hp v hp') :
    S1 p ⟨d,none, .call g args⟩ st { fr:=match d with | some d=>put (st.fr.map fun (k,x)=>(k,x.shallow)) d v | none=>st.fr.map fun (k,x)=>(k,x.shallow),hp:=hp' }:=by
  obtain ⟨n,h⟩:=h
  refine ⟨n,fun m hm=>?_⟩
  have h1:=h m hm
  subst hvs
  simp only [stepI,wantedI,hf,refCall,h1]
  cases d <;> simp
theorem S1.own {d:Option Nat} {g:FuncId} {args:List Opd} {st:St} {v:V} {l:List (Nat × Ob)} {hp2:HL} {vs:List V} (hvs:args.map (·.ev st.f)=vs) (hf:vs.all V.free=true) (h:Rn p g vs [[]] v [l]) (hfl:v.flat=true) (ha:addExp l st.hp=some hp2) :
    S1 p ⟨d,none, .callo g args⟩ st { fr:=match d with | some d=>put st.fr d v | none=>st.fr,hp:=hp2 }:=by
  obtain ⟨n,h⟩:=h
  refine ⟨n,fun m hm=>?_⟩
  have h1:=h m hm
  subst hvs
  simp only [stepI,wantedI,Option.bind_some,if_true,ownCall,hf,h1,hfl,ha,Option.map_some]
  cases d <;> rfl
theorem S1.frm {d:Option Nat} {g:FuncId} {args:List Opd} {st:St} {v:V} {u s:Nat} {ob ob':Ob} {vs:List V} (hvs:args.map (·.ev st.f)=vs) (hr:frmRoot vs=some (u,s)) (hf:vs.all (frmOk u s)=true) (ho:hof st.hp u s=some ob) (h:Rn p g (vs.map frmV) [[(s,ob)]] v [[(s,ob')]]) (hv:v.free=true) (hfl:v.flat=true) :
    S1 p ⟨d,none, .callf g args⟩ st { fr:=match d with | some d=>put (st.fr.map fun (k,x)=>(k,x.shallow)) d v | none=>st.fr.map fun (k,x)=>(k,x.shallow),hp:=hput st.hp u s (some ob') }:=by
  obtain ⟨n,h⟩:=h
  refine ⟨n,fun m hm=>?_⟩
  have h1:=h m hm
  subst hvs
  simp only [stepI,wantedI,Option.bind_some,if_true,frmCall,hr,hf,ho,h1,hv,hfl,and_self]
  cases d <;> rfl
theorem S1.guard {d:Option Nat} {s:Nat} {want b:Bool} {op:IOp} {st st':St} (hg:st.f s = .d (.bool b)) (h:if b==want then S1 p ⟨d,none,op⟩ st st' else st'=st.apply d { v:=.und }):S1 p ⟨d,some (s,want),op⟩ st st':=by
  cases hb:b==want with
  | true=>
    rw [hb] at h
    obtain ⟨n,h⟩:=h
    refine ⟨n,fun m hm=>?_⟩
    have:=h m hm
    simp only [stepI,wantedI,hg,hb,Option.bind_some] at this ⊢
    exact this
  | false=>
    rw [hb] at h
    simp only [Bool.false_eq_true,if_false] at h
    subst h
    refine ⟨0,fun m _=>?_⟩
    simp [stepI,wantedI,hg,hb]
theorem Ev.skip (st:St):Ev p .skip st .normal st:=⟨0,fun _ _=>rfl⟩
theorem Ev.reg {l:List II} {st st':St} (h:Ss p l st st'):Ev p (.reg l) st .normal st':=by
  obtain ⟨n,h⟩:=h
  exact ⟨n,fun m hm=>by simp [ev,h m hm]⟩
theorem Ev.seq {a b:IR} {st st' st'':St} {ex:Ex} (h:Ev p a st .normal st') (k:Ev p b st' ex st''):Ev p (.seq a b) st ex st'':=by
  obtain ⟨n,h⟩:=h
  obtain ⟨n',k⟩:=k
  exact ⟨max n n',fun m hm=>by simp only [ev,h m (by omega)];exact k m (by omega)⟩
theorem Ev.seqX {a b:IR} {st st':St} {id:Nat} (h:Ev p a st (.exit id) st'):Ev p (.seq a b) st (.exit id) st':=by
  obtain ⟨n,h⟩:=h
  exact ⟨n,fun m hm=>by simp only [ev,h m hm]⟩
theorem Ev.seqR {a b:IR} {st st':St} (h:Ev p a st .ret st'):Ev p (.seq a b) st .ret st':=by
  obtain ⟨n,h⟩:=h
  exact ⟨n,fun m hm=>by simp only [ev,h m hm]⟩
theorem Ev.cond {c:Opd} {a b:IR} {st st':St} {ex:Ex} {t:Bool} (hc:c.ev st.f = .d (.bool t)) (h:Ev p (if t then a else b) st ex st'):Ev p (.cond c a b) st ex st':=by
  obtain ⟨n,h⟩:=h
  refine ⟨n,fun m hm=>?_⟩
  have:=h m hm
  simp only [ev,hc]
  cases t <;> exact this
theorem Ev.block {id:Nat} {b:IR} {st st':St} (h:Ev p b st .normal st'):Ev p (.block id b) st .normal st':=by
  obtain ⟨n,h⟩:=h
  exact ⟨n,fun m hm=>by simp only [ev,h m hm]⟩
theorem Ev.blockR {id:Nat} {b:IR} {st st':St} (h:Ev p b st .ret st'):Ev p (.block id b) st .ret st':=by
  obtain ⟨n,h⟩:=h
  exact ⟨n,fun m hm=>by simp only [ev,h m hm]⟩
theorem Ev.blockX {id:Nat} {b:IR} {st st':St} (h:Ev p b st (.exit id) st'):Ev p (.block id b) st .normal st':=by
  obtain ⟨n,h⟩:=h
  exact ⟨n,fun m hm=>by simp only [ev,h m hm,beq_self_eq_true,if_true]⟩
theorem Ev.blockY {id j:Nat} {b:IR} {st st':St} (hj:(j==id)=false) (h:Ev p b st (.exit j) st'):Ev p (.block id b) st (.exit j) st':=by
  obtain ⟨n,h⟩:=h
  exact ⟨n,fun m hm=>by simp only [ev,h m hm,hj];rfl⟩
theorem Ev.exit (id:Nat) (st:St):Ev p (.exit id) st (.exit id) st:=⟨0,fun _ _=>rfl⟩
theorem Ev.ret (st:St):Ev p .ret st .ret st:=⟨0,fun _ _=>rfl⟩
theorem Ev.keep {l os:List Nat} {st st':St} (h:evKeep st l os=some st'):Ev p (.keep l os) st .normal st':=⟨0,fun _ _=>by simp [ev,h]⟩
def Bk (p:Pg) (b:IR) (d:Nat):List (List D)→St→St→Prop
  | [],st,st'=>st'=st
  | ds::r,st,st'=>∃ st1,Ev p b { st with fr:=(d, .d (.agg ds))::st.fr } .normal st1∧Bk p b d r st1 st'
theorem Bk.go {b:IR} {d:Nat}:∀ {l:List (List D)} {st st':St},Bk p b d l st st'→∃ n,∀ m,n≤m→backGo (ev m (run p m) b) d l st=some (.normal,st')
  | [],st,st',h=>⟨0,fun _ _=>by simp only [Bk] at h;subst h;rfl⟩
  | ds::r,st,st',h=>by
    obtain ⟨st1,⟨n1,h1⟩,h2⟩:=h
    obtain ⟨n2,h3⟩:=Bk.go h2
    refine ⟨max n1 n2,fun m hm=>?_⟩
    simp only [backGo,h1 m (by omega)]
    exact h3 m (by omega)
theorem Ev.back {s d:Nat} {b:IR} {st st':St} {nn:Bool} {es:List (List D)} (hs:st.f s = .d (.sl nn es)) (hl:es.length<1099511627776) (h:Bk p b d es.reverse st st'):Ev p (.back s d b) st .normal st':=by
  obtain ⟨n,h⟩:=h.go
  exact ⟨n,fun m hm=>by simp only [ev,hs,if_pos hl];exact h m hm⟩
theorem Ev.cpb {k s x d:Nat} {st st':St} (h:evCpb st k s x d=some st'):Ev p (.cpb k s x d) st .normal st':=⟨0,fun _ _=>by simp [ev,h]⟩
theorem Ev.frz {s:Nat} {st st':St} (h:evFrz st s=some st'):Ev p (.frz s) st .normal st':=⟨0,fun _ _=>by simp [ev,h]⟩
theorem Ev.loop {b:IR} {st st':St} {ex:Ex} (h:Lp p b st ex st'):Ev p (.loop b) st ex st':=by
  obtain ⟨n,k,h⟩:=h
  exact ⟨max n k,fun m hm=>h m m (by omega) (by omega)⟩
theorem Lp.next {b:IR} {st st' st'':St} {ex:Ex} (h:Ev p b st .normal st') (k:Lp p b st' ex st''):Lp p b st ex st'':=by
  obtain ⟨n,h⟩:=h
  obtain ⟨n',j',k⟩:=k
  refine ⟨max n n',j'+1,fun m j hm hj=>?_⟩
  obtain ⟨j,rfl⟩:∃ i,j=i+1:=⟨j - 1,by omega⟩
  simp only [iter,h m (by omega)]
  exact k m j (by omega) (by omega)
theorem Lp.exit {b:IR} {st st':St} {id:Nat} (h:Ev p b st (.exit id) st'):Lp p b st (.exit id) st':=by
  obtain ⟨n,h⟩:=h
  refine ⟨n,1,fun m j hm hj=>?_⟩
  obtain ⟨j,rfl⟩:∃ i,j=i+1:=⟨j - 1,by omega⟩
  simp only [iter,h m hm]
theorem Lp.ret {b:IR} {st st':St} (h:Ev p b st .ret st'):Lp p b st .ret st':=by
  obtain ⟨n,h⟩:=h
  refine ⟨n,1,fun m j hm hj=>?_⟩
  obtain ⟨j,rfl⟩:∃ i,j=i+1:=⟨j - 1,by omega⟩
  simp only [iter,h m hm]
def Hd (p:Pg) (l:List II) (un:List (List Nat)) (es:List Foot) (st st':St):Prop:=∃ n,∀ m,n≤m→headI (run p m) st l un es=some st'
def E1 (p:Pg) (f:Fr) (h:Hp) (i:II) (e:Eff):Prop:=∃ n,∀ m,n≤m→effI (run p m) f h i=some e
theorem Ev.drw {hN:Nat} {un:List (List Nat)} {l:List II} {st st' st'':St} (h:Hd p (l.take hN) un [] (st.clear (dsts (l.take hN))) st') (k:Ss p (l.drop hN) st' st''):Ev p (.drw hN un l) st .normal st'':=by
  obtain ⟨n,h⟩:=h
  obtain ⟨n',k⟩:=k
  exact ⟨max n n',fun m hm=>by simp [ev,h m (by omega),k m (by omega)]⟩
theorem Hd.nil {un:List (List Nat)} {es:List Foot} (st:St):Hd p [] un es st st:=⟨0,fun _ _=>rfl⟩
theorem Hd.cons {i:II} {l:List II} {un:List (List Nat)} {es:List Foot} {st st' st'':St} {e:Eff} (h:E1 p st.f (hof st.hp) i e) (hc:((un.headD []).any fun j=>(es[j]?).any (clash i.slots (foot st.f i e)))=false) (ha:st.applyO i.dst e=some st')
    (k:Hd p l un.tail (es++[foot st.f i e]) st' st''):Hd p (i::l) un es st st'':=by
  obtain ⟨n,h⟩:=h
  obtain ⟨n',k⟩:=k
  refine ⟨max n n',fun m hm=>?_⟩
  simp only [headI,h m (by omega),Option.bind_some,hc,ha]
  exact k m (by omega)
theorem E1.call {d:Option Nat} {g:FuncId} {args:List Opd} {f:Fr} {h:Hp} {v:V} {hp':HL} {vs:List V} (hvs:args.map (·.ev f)=vs) (hf:vs.all V.free=true) (hh:Rn p g vs [] v hp') (hv:v.free=true) :
    E1 p f h ⟨d,none, .call g args⟩ { v }:=by
  obtain ⟨n,hh⟩:=hh
  refine ⟨n,fun m hm=>?_⟩
  subst hvs
  simp [effI,wantedI,eff,hf,hh m hm,hv]
inductive WC (p:Pg) (c:IR) (st:St) (Q:Ex→St→Prop):Prop
  | mk (ex:Ex) (st':St) (h:Ev p c st ex st') (q:Q ex st')
inductive WL (p:Pg) (b:IR) (st:St) (Q:Ex→St→Prop):Prop
  | mk (ex:Ex) (st':St) (h:Lp p b st ex st') (q:Q ex st')
inductive WS (p:Pg) (l:List II) (st:St) (K:St→Prop):Prop
  | mk (st':St) (h:Ss p l st st') (k:K st')
def lp (p:Pg) (b:IR) (Q:Ex→St→Prop):Ex→St→Prop
  | .normal,st=>WL p b st Q
  | .exit i,st=>Q (.exit i) st
  | .ret,st=>Q .ret st
def done (fn:IFn) (hp':HL) (v:V):Ex→St→Prop
  | .exit _,_=>False
  | _,st=>∃ rs t,resIs st fn.res=some rs∧st.hp=t::hp'∧outV rs=some v
theorem isExp_none {st:St} {l:List IRes} {rs:List V} (h:resIs st l=some rs):isExp l=none:=by
  unfold isExp
  split
  · simp [resIs,resI] at h
  · simp [resIs,resI] at h
  · rfl
theorem Rn.of {g:FuncId} {fn:IFn} {vs:List V} {hp hp':HL} {ex:Ex} {st:St} {rs:List V} {v:V} {t:List (Nat × Ob)} (hf:p.fns g=some fn) (h:Ev p fn.body { fr:=argsFr 0 vs,hp:=[]::hp } ex st) (hx:∀ id,ex ≠ .exit id)
    (hr:resIs st fn.res=some rs) (hh:st.hp=t::hp') (ho:outV rs=some v):Rn p g vs hp v hp':=by
  obtain ⟨n,h⟩:=h
  refine ⟨n+1,fun m hm=>?_⟩
  obtain ⟨m,rfl⟩:∃ i,m=i+1:=⟨m - 1,by omega⟩
  simp only [run,hf,h m (by omega)]
  have hn:=isExp_none hr
  cases ex with
  | exit id=>exact absurd rfl (hx id)
  | normal=>simp [hn,hr,hh,ho]
  | ret=>simp [hn,hr,hh,ho]
theorem Rn.ofx {g:FuncId} {fn:IFn} {vs:List V} {hp hp' hp2:HL} {ex:Ex} {st:St} {ir:IRes} {v:V} {l:List (Nat × Ob)} {t:List (Nat × Ob)} (hf:p.fns g=some fn) (h:Ev p fn.body { fr:=argsFr 0 vs,hp:=[]::hp } ex st) (hx:∀ id,ex ≠ .exit id)
    (hi:isExp fn.res=some ir) (hr:expI st ir=some (v,l)) (hh:st.hp=t::hp') (ho:addExp l hp'=some hp2):Rn p g vs hp v hp2:=by
  obtain ⟨n,h⟩:=h
  refine ⟨n+1,fun m hm=>?_⟩
  obtain ⟨m,rfl⟩:∃ i,m=i+1:=⟨m - 1,by omega⟩
  simp only [run,hf,h m (by omega)]
  cases ex with
  | exit id=>exact absurd rfl (hx id)
  | normal=>simp [hi,hr,hh,ho]
  | ret=>simp [hi,hr,hh,ho]
theorem Rn.ext {g:FuncId} {vs:List V} {hp:HL} {v:V} (hf:p.fns g=none) (h:p.ext g vs=some v):Rn p g vs hp v hp:=by
  refine ⟨1,fun m hm=>?_⟩
  obtain ⟨m,rfl⟩:∃ i,m=i+1:=⟨m - 1,by omega⟩
  simp [run,hf,h]
end
end Go.Proofs.YtgmphfmoonbfpaaMv

namespace Go.Proofs.YtgmphfmoonbfpaaMv
open Go
inductive Hint
  | b (b:Bool)
  | n (k:Nat)
  | ds (cs:List D)
  | c (c:C)
  | cs (cs:List C)
  | o (r:Option D)
  | es (l:List (D × D))
  | u (b:UInt8)
  | s (l:List UInt8)
  | ees (l:List (List D))
  | call (v:V) (hp:HL)
  | lp (ex:Ex) (st:St)
  | no
  | row (nn:Bool) (es:List (List C))
  | rz (sz:Nat) (nn:Bool) (es:List (List C))
def allP:List Prop→Prop
  | []=>True
  | c::r=>c∧allP r
theorem allP_append {a b:List Prop}:allP (a++b) ↔ allP a∧allP b:=by
  induction a with
  | nil=>simp [allP]
  | cons c a ih=>simp [allP,ih,and_assoc]
abbrev RC3 (α:Type):=Option (α × List Prop × List Hint)
def natC:V→List Hint→RC3 Nat
  | .d (.int _ x), .n k::hs=>some (k,[x=(k:Int)],hs)
  | _,_=>none
def optC (f:Fr) (dflt:Nat):Option Opd→List Hint→RC3 Nat
  | none,hs=>some (dflt,[],hs)
  | some x,hs=>natC (x.ev f) hs
def binC:BinOp→D→D→Option (D × List Prop)
  | .quo, .int k a, .int k' b=>if k=k' then some (.int k (k.wrap (a.tdiv b)),[b≠0]) else none
  | .rem, .int k a, .int k' b=>if k=k' then some (.int k (a.tmod b),[b≠0]) else none
  | .shl, .int k a, .int _ b=>some (.int k (k.wrap (a * 2 ^ (min b.toNat k.bits))),[¬b<0])
  | .shr, .int k a, .int _ b=>some (.int k (a.fdiv (2 ^ (min b.toNat k.bits))),[¬b<0])
  | .add, .str a, .str b=>some (.str (a++b),[¬((a.length+b.length:Nat):Int) > IntKind.i64.max])
  | op,a,b=>(dbin op a b).map fun c=>(c,[])
def cellsC (h:Hp) (n:Nat) (v:V):Option (List C × List Nat × List Prop):=match v with
  | .msl 0 s [] 0 k=>if n=1 then (match h 0 s with
    | some (.row false sz nn es)=>some ([.own sz nn es],[s],[es.length=k])
    | _=>none) else none
  | v=>(cellsOf h n v).map fun x=>(x.1,x.2,[])
def toCellC (h:Hp):V→Option (C × List Nat × List Prop)
  | .msl 0 s [] 0 k=>match h 0 s with
    | some (.row false sz nn es)=>some (.own sz nn es,[s],[es.length=k])
    | _=>none
  | v=>(toCell h v).map fun x=>(x.1,x.2,[])
def toCellsC (h:Hp):List V→Option (List C × List Nat × List Prop)
  | []=>some ([],[],[])
  | v::r=>(toCellC h v).bind fun (c,a,p)=>(toCellsC h r).map fun (cs,b,q)=>(c::cs,a++b,p++q)
def cellsM (h:Hp) (n:Nat) (v:V):Option (List C × List Nat × List Prop):=match v with
  | .agg vs=>if vs.length=n then toCellsC h vs else none
  | v=>(cellsOf h n v).map fun x=>(x.1,x.2,[])
def elemsC (h:Hp) (sz:Nat):V→Option (List (List C) × List (Nat × Nat) × List Prop)
  | .d (.sl _ es)=>some (es.map (·.map .d),[],[es.all (·.length==sz)=true])
  | .d (.str s)=>if sz=1 then some (s.map fun b=>[.d (.int .u8 b.toNat)],[],[]) else none
  | .z _=>some ([],[],[])
  | .msl u s p off n=>
    ((h u s).bind (·.row? p)).bind fun r=>
      if r.sz=sz then some ((r.es.drop off).take n,[(u,s)],[(allDs ((r.es.drop off).take n)).isSome=true,off+n≤r.es.length]) else none
  | _=>none
def nocall:FuncId→List V→Option V:=fun _ _=>none
def effC (f:Fr) (h:Hp) (dst:Nat) (op:IOp) (hs:List Hint):RC3 Eff:=match op with
  | .pick c a b=>match c.ev f,hs with
    | .d (.bool t), .b t'::hs=>let v:=if t' then a.ev f else b.ev f;some ({ v,rd:=(a.ev f).roots++(b.ev f).roots },[t=t'],hs)
    | _,_=>none
  | .lit zero len parts=>(eff nocall f h dst (.lit zero len parts)).map fun e=>(e,[],hs)
  | .ld1 x=>match x.ev f,hs with
    | .ptr u s p e o, .rz sz nn es :: .c (.d d)::hs=>(match p.getLast? with
      | some (e1,o1)=>(h u s).bind fun ob=>(ob.row? p.dropLast).bind fun q=>some ({ v:=.d d,rd:=[(u,s)] },[cellAt q.es e1 o1=some (.own sz nn es),cellAt es e o=some (.d d)],hs)
      | none=>none)
    | .ptr u s p e o, .c c::hs=>((h u s).bind (·.row? p)).bind fun r=>match c with
      | .d d=>some ({ v:=.d d,rd:=[(u,s)] },[cellAt r.es e o=some (.d d)],hs)
      | .own sz nn es=>some ({ v:=.msl u s (p++[(e,o)]) 0 es.length,rd:=[(u,s)] },[cellAt r.es e o=some (.own sz nn es)],hs)
      | .mp es=>some ({ v:=.mp u s (some (p,e,o)),rd:=[(u,s)] },[cellAt r.es e o=some (.mp es)],hs)
      | _=>none
    | _, .no::hs=>(eff nocall f h dst (.ld1 x)).map fun e=>(e,[],hs)
    | _,_=>(eff nocall f h dst (.ld1 x)).map fun e=>(e,[],hs)
  | .ldn n x=>match x.ev f,hs with
    | .ptr u s p e o, .cs cs::hs=>((h u s).bind (·.row? p)).bind fun r=>
      if o+n≤cs.length then (allD ((cs.drop o).take n)).map fun ds=>({ v:=.d (.agg ds),rd:=[(u,s)] },[r.es[e]? = some cs],hs) else none
    | _, .no::hs=>(eff nocall f h dst (.ldn n x)).map fun e=>(e,[],hs)
    | _,_=>(eff nocall f h dst (.ldn n x)).map fun e=>(e,[],hs)
  | .st n x v=>match x.ev f,hs with
    | .ptr u s p e o, .rz sz nn es :: .cs cs::hs=>(match p.getLast? with
      | some (e1,o1)=>(cellsC h n (v.ev f)).bind fun (new,a,c1)=>(h u s).bind fun ob=>(ob.row? p.dropLast).bind fun q=>
        if decide (o+n≤cs.length)&&(decide (a.length≤1)&&(!(u==0) || !a.contains s)) then
          some ({ v:=.bad,upd:=drops a++[(u,s,some (ob.setRow p.dropLast { q with es:=setCells q.es e1 o1 [.own sz nn (setCells es e o new)] }))],kill:=.under u s p e o (o+n)::dropKills a,rd:=(u,s)::(v.ev f).roots },
            c1++[cellAt q.es e1 o1=some (.own sz nn es),es[e]? = some cs],hs)
        else none
      | none=>none)
    | .ptr u s p e o,hs=>(cellsC h n (v.ev f)).bind fun (new,a,c1)=>(h u s).bind fun ob=>(ob.row? p).bind fun r=>
      let ok:List C→Bool:=fun cs=>decide (o+n≤cs.length)&&(decide (a.length≤1)&&(!(u==0) || !a.contains s))
      let e':Eff:={ v:=.bad,upd:=drops a++[(u,s,some (ob.setRow p { r with es:=setCells r.es e o new }))],kill:=.under u s p e o (o+n)::dropKills a,rd:=(u,s)::(v.ev f).roots }
      match hs with
      | .cs cs::hs=>if ok cs then some (e',c1++[r.es[e]? = some cs],hs) else none
      | .no::hs=>(r.es[e]?).bind fun cs=>if ok cs then some (e',c1,hs) else none
      | _=>(r.es[e]?).bind fun cs=>if ok cs then some (e',c1,hs) else none
    | _,_=>none
  | .bin op x y=>match x.ev f,y.ev f with
    | .d a, .d b=>(binC op a b).map fun (c,cs)=>({ v:=.d c },cs,hs)
    | _,_=>none
  | .eqa neg ks x y=>match x.ev f,y.ev f,hs with
    | .d a, .d b, .b c::hs=>some ({ v:=.d (.bool (if neg then !c else c)) },[deqT true ks a b=some c],hs)
    | _,_,_=>none
  | .cvbs x=>match x.ev f,hs with
    | .d (.str _),_=>none
    | v, .ees ds :: .s l::hs=>(elemsC h 1 v).map fun (es,rd,cs)=>({ v:=.d (.str l),rd },cs++[allDs es=some ds,strOf ds=some l],hs)
    | _,_=>none
  | .look isS ks zero ok m k=>match m.ev f,k.ev f,hs with
    | .mp u s a, .d key, .o r::hs=>if keyIs isS ks key then (mapAt h u s a).map fun es=>
      ({ v:=if ok then .tup [.d (r.getD zero), .d (.bool r.isSome)] else .d (r.getD zero),rd:=[(u,s)] },[findD isS ks key es=some r],hs) else none
    | .d .nilm, .d _,hs=>(eff nocall f h dst (.look isS ks zero ok m k)).map fun e=>(e,[],hs)
    | _,_,_=>none
  | .upd isS ks m k v=>match m.ev f,k.ev f,v.ev f,hs with
    | .mp u s a, .d key, .d x, .es es'::hs=>if keyIs isS ks key then (mapAt h u s a).bind fun es=>(setMap h u s es' a).map fun ob=>
      ({ v:=.bad,upd:=[(u,s,some ob)],rd:=[(u,s)] },[(findD isS ks key es).isSome=true,putD isS ks key x es=some es'],hs) else none
    | _,_,_,_=>none
  | .mkrows zero bytes len=>(natC (len.ev f) hs).map fun (n,cs,hs)=>
      ({ v:=.msl 0 dst [] 0 n,upd:=[(0,dst,some (.row false zero.length true (List.replicate n (zero.map .d))))],kill:=[.root 0 dst] },cs++[bytes * n≤room],hs)
  | .slc sz x lo hi=>match x.ev f with
    | .msl u s p off n=>(optC f n hi hs).bind fun (b,c1,hs)=>(optC f 0 lo hs).bind fun (a,c2,hs)=>((h u s).bind (·.row? p)).bind fun r=>
      if r.sz=sz then some ({ v:=.msl u s p (a+off) (b - a),rd:=[(u,s)] },c1++(c2++[a≤b,b≤n]),hs) else none
    | .d (.sl nn es)=>(optC f es.length hi hs).bind fun (b,c1,hs)=>(optC f 0 lo hs).bind fun (a,c2,hs)=>
      some ({ v:=.d (.sl (nn || !es.isEmpty) ((es.take b).drop a)) },c1++(c2++[a≤b,b≤es.length,es.all (·.length==sz)=true]),hs)
    | _=>none
  | .slcs x lo hi=>match x.ev f with
    | .d (.str l)=>(optC f l.length hi hs).bind fun (b,c1,hs)=>(optC f 0 lo hs).bind fun (a,c2,hs)=>
      some ({ v:=.d (.str ((l.take b).drop a)) },c1++(c2++[a≤b,b≤l.length]),hs)
    | _=>none
  | .ia size x i=>match x.ev f,natC (i.ev f) hs with
    | .msl u s p off n,some (k,cs, .rz sz nn es::hs)=>(match p.getLast? with
      | some (e1,o1)=>(h u s).bind fun ob=>(ob.row? p.dropLast).bind fun q=>
        if sz=size then some ({ v:=.ptr u s p (k+off) 0,rd:=[(u,s)] },cs++[k<n,cellAt q.es e1 o1=some (.own sz nn es)],hs) else none
      | none=>none)
    | .msl u s p off n,some (k,cs,hs)=>((h u s).bind (·.row? p)).bind fun r=>
      if r.sz=size then some ({ v:=.ptr u s p (k+off) 0,rd:=[(u,s)] },cs++[k<n],hs) else none
    | .d (.sl _ es),some (k,cs, .ds ds::hs)=>if ds.length=size then some ({ v:=.ip ds 0 },cs++[es[k]? = some ds],hs) else none
    | _,_=>none
  | .ixs x i=>match x.ev f,natC (i.ev f) hs with
    | .d (.str l),some (k,cs, .u b::hs)=>some ({ v:=.d (.int .u8 b.toNat) },cs++[l[k]? = some b],hs)
    | _,_=>none
  | .app fz own sz bytes x y=>(elemsC h sz (y.ev f)).bind fun (ys,rd,c0)=>match x.ev f with
    | .msl u s p off n=>match hs with
     | .row nn es::hs=>(match p.getLast? with
      | some (e,o)=>(h u s).bind fun ob=>(ob.row? p.dropLast).bind fun q=>
          if off=0 ∧ !rd.contains (u,s) ∧ !fz∧(u,s)≠(0,dst) then
          some ({ v:=.msl 0 dst [] 0 (n+ys.length),upd:=[(u,s,some (ob.setRow p.dropLast { q with es:=setCells q.es e o [.bad] })),(0,dst,some (.row false sz nn (es++ys.map (ownify own))))],kill:=[.root 0 dst, .under u s p.dropLast e o (o+1), .root 0 dst],rd:=(u,s)::rd },c0++[cellAt q.es e o=some (.own sz nn es),n=es.length,(n+ys.length) * bytes≤room],hs) else none
      | none=>none)
     | hs=>(h u s).bind fun ob=>(ob.row? p).bind fun r=>
      if off=0∧r.sz=sz ∧ !rd.contains (u,s) ∧ !fz then
        match p.getLast? with
        | none=>match u,ob with
          | 0, .row false _ nn es=>some ({ v:=.msl 0 s [] 0 (n+ys.length),upd:=[(0,s,some (.row false sz nn (es++ys.map (ownify own))))],kill:=[.root 0 s],rd:=(0,s)::rd },c0++[n=r.es.length,(n+ys.length) * bytes≤room],hs)
          | _,_=>none
        | some (e,o)=>(ob.row? p.dropLast).bind fun q=>
          if ((u,s)≠(0,dst)) then
          some ({ v:=.msl 0 dst [] 0 (n+ys.length),upd:=[(u,s,some (ob.setRow p.dropLast { q with es:=setCells q.es e o [.bad] })),(0,dst,some (.row false sz r.nn (r.es++ys.map (ownify own))))],kill:=[.root 0 dst, .under u s p.dropLast e o (o+1), .root 0 dst],rd:=(u,s)::rd },c0++[n=r.es.length,(n+ys.length) * bytes≤room],hs) else none
      else none
    | .z nn=>(match hs with
      | .ees es::hs=>if fz then some ({ v:=.d (.sl (nn || !es.isEmpty) es),rd },c0++[ys.length * bytes≤room,allDs ys=some es],hs) else none
      | _=>none)
    | .d (.sl false [])=>(match hs with
      | .ees es::hs=>if fz then some ({ v:=.d (.sl (!es.isEmpty) es),rd },c0++[ys.length * bytes≤room,allDs ys=some es],hs) else none
      | _=>none)
    | _=>none
  | .cpy sz x y=>(elemsC h sz (y.ev f)).bind fun (ys,rd,c0)=>match x.ev f with
    | .msl u s p off n=>(h u s).bind fun ob=>(ob.row? p).bind fun r=>
      let m:=min ys.length n
      if r.sz=sz ∧ !rd.contains (u,s)∧sz≠1 then
        some ({ v:=.d (.int .i64 m),upd:=[(u,s,some (ob.setRow p { r with es:=r.es.take off++ys.take m++r.es.drop (off+m) }))],rd:=(u,s)::rd },c0++[off+n≤r.es.length,(allDs r.es).isSome=true],hs)
      else none
    | _=>none
  | .stm n x v=>match x.ev f with
    | .ptr u s p e o=>(cellsM h n (v.ev f)).bind fun (new,a,c1)=>(h u s).bind fun ob=>(ob.row? p).bind fun r=>(r.es[e]?).bind fun cs=>
      if o+n≤cs.length∧a.Nodup∧(u≠0 ∨ !a.contains s) then
        some ({ v:=.bad,upd:=drops a++[(u,s,some (ob.setRow p { r with es:=setCells r.es e o new }))],kill:=.under u s p e o (o+n)::dropKills a,rd:=(u,s)::(v.ev f).roots },c1,hs)
      else none
    | _=>none
  | .appz own sz bytes x y=>(elemsC h sz (y.ev f)).bind fun (ys,rd,c0)=>match x.ev f,hs with
    | .z nn, .b t::hs=>if t then some ({ v:=.z nn,rd },c0++[ys.length * bytes≤room,ys.isEmpty=true],hs) else
      some ({ v:=.msl 0 dst [] 0 ys.length,upd:=[(0,dst,some (.row false sz nn (ys.map (ownify own))))],kill:=[.root 0 dst],rd },c0++[ys.length * bytes≤room,ys.isEmpty=false],hs)
    | _,_=>none
  | .appm sz bytes x y=>match x.ev f,y.ev f,hs with
    | .msl 0 s [] off n, .msl 0 s' [] off' n', .ees ds::hs=>match h 0 s with
      | some (.row false sz' nn es)=>
        if s'=s∧sz'=sz then
          some ({ v:=.d (.sl true ds),upd:=[(0,s,none)],kill:=[.root 0 s],rd:=[(0,s)] },[n≠0,off+n=es.length,off'+n'≤es.length,(n+n') * bytes≤room,allDs (es.drop off++(es.drop off').take n')=some ds],hs)
        else none
      | _=>none
    | _,_,_=>none
  | op=>(eff nocall f h dst op).map fun e=>(e,[],hs)
section
variable {p:Pg} {call:FuncId→List V→Option V} {f:Fr} {h:Hp} {dst:Nat}
theorem natC_ok {v:V} {hs hs':List Hint} {k:Nat} {cs:List Prop} (hh:natC v hs=some (k,cs,hs')) (hc:allP cs):dnat v=some k:=by
  unfold natC at hh
  split at hh
  · simp only [Option.some.injEq,Prod.mk.injEq] at hh
    obtain ⟨rfl,rfl,rfl⟩:=hh
    simp only [allP,and_true] at hc
    subst hc
    simp [dnat]
  · cases hh
theorem optC_ok {d:Nat} {x:Option Opd} {hs hs':List Hint} {k:Nat} {cs:List Prop} (hh:optC f d x hs=some (k,cs,hs')) (hc:allP cs):optNat f d x=some k:=by
  cases x with
  | none=>simp only [optC,Option.some.injEq,Prod.mk.injEq] at hh;simp [optNat,hh.1]
  | some x=>exact natC_ok hh hc
theorem binC_ok {op:BinOp} {a b c:D} {cs:List Prop} (hh:binC op a b=some (c,cs)) (hc:allP cs):dbin op a b=some c:=by
  unfold binC at hh
  split at hh
  · split at hh
    · rename_i hk
      simp only [Option.some.injEq,Prod.mk.injEq] at hh
      obtain ⟨rfl,rfl⟩:=hh
      simp only [allP,and_true] at hc
      simp [dbin,hk,hc]
    · cases hh
  · split at hh
    · rename_i hk
      simp only [Option.some.injEq,Prod.mk.injEq] at hh
      obtain ⟨rfl,rfl⟩:=hh
      simp only [allP,and_true] at hc
      simp [dbin,hk,hc]
    · cases hh
  · simp only [Option.some.injEq,Prod.mk.injEq] at hh
    obtain ⟨rfl,rfl⟩:=hh
    simp only [allP,and_true] at hc
    simp only [dbin,if_neg hc]
  · simp only [Option.some.injEq,Prod.mk.injEq] at hh
    obtain ⟨rfl,rfl⟩:=hh
    simp only [allP,and_true] at hc
    simp only [dbin,if_neg hc]
  · simp only [Option.some.injEq,Prod.mk.injEq] at hh
    obtain ⟨rfl,rfl⟩:=hh
    simp only [allP,and_true] at hc
    simp only [dbin,if_neg hc]
  · simp only [Option.map_eq_some_iff,Prod.mk.injEq] at hh
    obtain ⟨d,h1,rfl,rfl⟩:=hh
    exact h1
theorem cellsC_ok {n:Nat} {v:V} {l:List C} {a:List Nat} {cs:List Prop} (hh:cellsC h n v=some (l,a,cs)) (hc:allP cs):cellsOf h n v=some (l,a):=by
  unfold cellsC at hh
  split at hh
  · rename_i s k
    split at hh
    · rename_i hn
      subst hn
      split at hh
      · rename_i ho
        simp only [Option.some.injEq,Prod.mk.injEq] at hh
        obtain ⟨rfl,rfl,rfl⟩:=hh
        simp only [allP,and_true] at hc
        simp [cellsOf,toCell,ho,hc]
      · cases hh
    · cases hh
  · simp only [Option.map_eq_some_iff,Prod.mk.injEq] at hh
    obtain ⟨⟨x,y⟩,h1,rfl,rfl,rfl⟩:=hh
    exact h1
theorem toCellC_ok {v:V} {c:C} {a:List Nat} {cs:List Prop} (hh:toCellC h v=some (c,a,cs)) (hc:allP cs):toCell h v=some (c,a):=by
  unfold toCellC at hh
  split at hh
  · split at hh
    · rename_i ho
      simp only [Option.some.injEq,Prod.mk.injEq] at hh
      obtain ⟨rfl,rfl,rfl⟩:=hh
      simp only [allP,and_true] at hc
      simp [toCell,ho,hc]
    · cases hh
  · simp only [Option.map_eq_some_iff,Prod.mk.injEq] at hh
    obtain ⟨⟨x,y⟩,h1,rfl,rfl,rfl⟩:=hh
    exact h1
theorem toCellsC_ok:∀ {vs:List V} {l:List C} {a:List Nat} {cs:List Prop},toCellsC h vs=some (l,a,cs)→allP cs→toCells h vs=some (l,a)
  | [],l,a,cs,hh,hc=>by
    simp only [toCellsC,Option.some.injEq,Prod.mk.injEq] at hh
    obtain ⟨rfl,rfl,rfl⟩:=hh
    rfl
  | v::vs,l,a,cs,hh,hc=>by
    simp only [toCellsC,Option.bind_eq_some_iff,Option.map_eq_some_iff,Prod.exists,Prod.mk.injEq] at hh
    obtain ⟨c,a1,p1,h1,l2,a2,p2,h2,rfl,rfl,rfl⟩:=hh
    rw [allP_append] at hc
    simp only [toCells,toCellC_ok h1 hc.1,toCellsC_ok h2 hc.2,Option.bind_some,Option.map_some]
theorem cellsM_ok {n:Nat} {v:V} {l:List C} {a:List Nat} {cs:List Prop} (hh:cellsM h n v=some (l,a,cs)) (hc:allP cs):cellsOf h n v=some (l,a):=by
  unfold cellsM at hh
  split at hh
  · split at hh
    · rename_i hn
      simp only [cellsOf,if_pos hn]
      exact toCellsC_ok hh hc
    · cases hh
  · simp only [Option.map_eq_some_iff,Prod.mk.injEq] at hh
    obtain ⟨⟨x,y⟩,h1,rfl,rfl,rfl⟩:=hh
    exact h1
theorem elemsC_ok {sz:Nat} {v:V} {l:List (List C)} {rd:List (Nat × Nat)} {cs:List Prop} (hh:elemsC h sz v=some (l,rd,cs)) (hc:allP cs):elems h sz v=some (l,rd):=by
  unfold elemsC at hh
  split at hh
  · simp only [Option.some.injEq,Prod.mk.injEq] at hh
    obtain ⟨rfl,rfl,rfl⟩:=hh
    simp only [allP,and_true] at hc
    simp only [elems,if_pos hc]
  · split at hh
    · rename_i hs
      simp only [Option.some.injEq,Prod.mk.injEq] at hh
      obtain ⟨rfl,rfl,rfl⟩:=hh
      simp only [elems,if_pos hs]
    · cases hh
  · simp only [Option.some.injEq,Prod.mk.injEq] at hh
    obtain ⟨rfl,rfl,rfl⟩:=hh
    rfl
  · rename_i u s p off n
    simp only [Option.bind_eq_some_iff] at hh
    obtain ⟨r,⟨ob,h1,h2⟩,hh⟩:=hh
    split at hh
    · rename_i hs
      simp only [Option.some.injEq,Prod.mk.injEq] at hh
      obtain ⟨rfl,rfl,rfl⟩:=hh
      simp only [allP,and_true] at hc
      simp only [elems,h1,h2,Option.bind_some]
      rw [if_pos ⟨hs,hc.1,hc.2⟩]
    · cases hh
  · cases hh
theorem rowGo_snocC {e o:Nat} {q:Row} {sz:Nat} {nn:Bool} {es:List (List C)} (hc:cellAt q.es e o=some (.own sz nn es)):∀ (p:Path) (r:Row),rowGo r p=some q→rowGo r (p++[(e,o)])=some ⟨sz,nn,es⟩
  | [],r,h=>by
    simp only [rowGo,Option.some.injEq] at h
    subst h
    simp only [List.nil_append,rowGo,hc]
  | (e1,o1)::p,r,h=>by
    simp only [rowGo] at h
    cases h1:cellAt r.es e1 o1 with
    | none=>simp [h1] at h
    | some c=>
      cases c with
      | own s1 n1 es1=>simp only [h1] at h;simp only [List.cons_append,rowGo,h1];exact rowGo_snocC hc p _ h
      | _=>simp [h1] at h
theorem row?_last {ob:Ob} {p:Path} {e o:Nat} {q:Row} {sz:Nat} {nn:Bool} {es:List (List C)} (hp:p.getLast? = some (e,o)) (hq:ob.row? p.dropLast=some q) (hc:cellAt q.es e o=some (.own sz nn es)) :
    ob.row? p=some ⟨sz,nn,es⟩:=by
  have hpp:p=p.dropLast++[(e,o)]:=by
    have hne:p≠[]:=by intro h;subst h;simp at hp
    have:=List.dropLast_concat_getLast hne
    rw [List.getLast?_eq_some_getLast hne] at hp
    rw [Option.some.inj hp] at this
    exact this.symm
  cases ob with
  | map es=>simp [Ob.row?] at hq
  | row fx sz0 nn0 es0=>
    simp only [Ob.row?] at hq ⊢
    rw [hpp]
    exact rowGo_snocC hc _ _ hq
theorem setGo_last {e o:Nat} {q:Row} {sz:Nat} {nn:Bool} {es:List (List C)} (hc:cellAt q.es e o=some (.own sz nn es)) (r':Row):∀ (p:Path) (r:Row),rowGo r p=some q→setGo r (p++[(e,o)]) r'=setGo r p { q with es:=setCells q.es e o [.own r'.sz r'.nn r'.es] }
  | [],r,h=>by
    simp only [rowGo,Option.some.injEq] at h
    subst h
    simp only [List.nil_append,setGo,hc]
  | (e1,o1)::p,r,h=>by
    simp only [rowGo] at h
    cases h1:cellAt r.es e1 o1 with
    | none=>simp [h1] at h
    | some c=>
      cases c with
      | own s1 n1 es1=>simp only [h1] at h;simp only [List.cons_append,setGo,h1,setGo_last hc r' p _ h]
      | _=>simp [h1] at h
theorem setRow_last {ob:Ob} {p:Path} {e o:Nat} {q:Row} {sz:Nat} {nn:Bool} {es:List (List C)} (hp:p.getLast? = some (e,o)) (hq:ob.row? p.dropLast=some q) (hc:cellAt q.es e o=some (.own sz nn es)) (r':Row) :
    ob.setRow p r'=ob.setRow p.dropLast { q with es:=setCells q.es e o [.own r'.sz r'.nn r'.es] }:=by
  have hpp:p=p.dropLast++[(e,o)]:=by
    have hne:p≠[]:=by intro h;subst h;simp at hp
    have:=List.dropLast_concat_getLast hne
    rw [List.getLast?_eq_some_getLast hne] at hp
    rw [Option.some.inj hp] at this
    exact this.symm
  cases ob with
  | map es=>simp [Ob.row?] at hq
  | row fx sz0 nn0 es0=>
    simp only [Ob.row?] at hq
    have:=setGo_last hc r' _ _ hq
    rw [←hpp] at this
    simp only [Ob.setRow,this]
theorem effC_ok {op:IOp} (hp:op.pure=true) {hs hs':List Hint} {e:Eff} {cs:List Prop} (hh:effC f h dst op hs=some (e,cs,hs')) (hc:allP cs):eff call f h dst op=some e:=by
  have hdef:∀ {op:IOp} {hs:List Hint},op.pure=true→(eff nocall f h dst op).map (fun e=>(e,([]:List Prop),hs))=some (e,cs,hs')→eff call f h dst op=some e:=by
    intro op hs hp hh
    simp only [Option.map_eq_some_iff,Prod.mk.injEq] at hh
    obtain ⟨e',h1,rfl,_⟩:=hh
    rw [eff_call (c':=nocall) hp];exact h1
  unfold effC at hh
  split at hh
  · rename_i c a b
    split at hh
    · rename_i t t' hs0 hx
      simp only [Option.some.injEq,Prod.mk.injEq] at hh
      obtain ⟨rfl,rfl,rfl⟩:=hh
      simp only [allP,and_true] at hc
      subst hc
      simp only [eff,hx]
    · cases hh
  · exact hdef rfl hh
  · rename_i x
    split at hh
    · rename_i u s p e0 o sz nn es d hs0 hx
      split at hh
      · rename_i e1 o1 hp
        simp only [Option.bind_eq_some_iff] at hh
        obtain ⟨ob,h1,q,h2,hh⟩:=hh
        simp only [Option.some.injEq,Prod.mk.injEq] at hh
        obtain ⟨rfl,rfl,rfl⟩:=hh
        simp only [allP,and_true] at hc
        simp only [eff,hx,h1,row?_last hp h2 hc.1,Option.bind_some,hc.2]
      · cases hh
    · rename_i u s p e0 o c hs0 hx
      simp only [Option.bind_eq_some_iff] at hh
      obtain ⟨r,⟨ob,h1,h2⟩,hh⟩:=hh
      split at hh
      all_goals first
        | (simp only [Option.some.injEq,Prod.mk.injEq] at hh
           obtain ⟨rfl,rfl,rfl⟩:=hh
           simp only [allP,and_true] at hc
           simp only [eff,hx,h1,h2,Option.bind_some,hc])
        | cases hh
    · exact hdef rfl hh
    · exact hdef rfl hh
  · rename_i n x
    split at hh
    · rename_i u s p e0 o c hs0 hx
      simp only [Option.bind_eq_some_iff] at hh
      obtain ⟨r,⟨ob,h1,h2⟩,hh⟩:=hh
      split at hh
      · rename_i hle
        simp only [Option.map_eq_some_iff,Prod.mk.injEq] at hh
        obtain ⟨ds,h3,rfl,rfl,rfl⟩:=hh
        simp only [allP,and_true] at hc
        simp only [eff,hx,h1,h2,Option.bind_some,hc,if_pos hle,h3,Option.map_some]
      · cases hh
    · exact hdef rfl hh
    · exact hdef rfl hh
  · rename_i n x v
    split at hh
    · rename_i u s p e0 o sz nn es cs0 hs0 hx
      split at hh
      · rename_i e1 o1 hp
        simp only [Option.bind_eq_some_iff,Prod.exists] at hh
        obtain ⟨new,a,c1,h1,ob,h2,q,h3,hh⟩:=hh
        split at hh
        · rename_i hok
          simp only [Option.some.injEq,Prod.mk.injEq] at hh
          obtain ⟨rfl,rfl,rfl⟩:=hh
          rw [allP_append] at hc
          simp only [allP,and_true] at hc
          simp only [Bool.and_eq_true,Bool.or_eq_true,decide_eq_true_eq,Bool.not_eq_true',beq_eq_false_iff_ne] at hok
          have hcs:=cellsC_ok h1 hc.1
          simp only [eff,hx,hcs,h2,row?_last hp h3 hc.2.1,Option.bind_some,hc.2.2]
          rw [if_pos ⟨hok.1,hok.2.1,by rcases hok.2.2 with h | h;exact .inl h;exact .inr (by simpa using h)⟩,setRow_last hp h3 hc.2.1]
        · cases hh
      · cases hh
    · rename_i u s p e0 o hx hno
      simp only [Option.bind_eq_some_iff,Prod.exists] at hh
      obtain ⟨new,a,c1,h1,ob,h2,r,h3,hh⟩:=hh
      split at hh
      · rename_i cs0 hs0
        split at hh
        · rename_i hok
          simp only [Option.some.injEq,Prod.mk.injEq] at hh
          obtain ⟨rfl,rfl,rfl⟩:=hh
          rw [allP_append] at hc
          simp only [allP,and_true] at hc
          simp only [Bool.and_eq_true,Bool.or_eq_true,decide_eq_true_eq,Bool.not_eq_true',beq_eq_false_iff_ne] at hok
          have hcs:=cellsC_ok h1 hc.1
          simp only [eff,hx,hcs,h2,h3,Option.bind_some,hc.2]
          rw [if_pos ⟨hok.1,hok.2.1,by rcases hok.2.2 with h | h;exact .inl h;exact .inr (by simpa using h)⟩]
        · cases hh
      · simp only [Option.bind_eq_some_iff] at hh
        obtain ⟨cs0,h4,hh⟩:=hh
        split at hh
        · rename_i hok
          simp only [Option.some.injEq,Prod.mk.injEq] at hh
          obtain ⟨rfl,rfl,rfl⟩:=hh
          simp only [Bool.and_eq_true,Bool.or_eq_true,decide_eq_true_eq,Bool.not_eq_true',beq_eq_false_iff_ne] at hok
          have hcs:=cellsC_ok h1 hc
          simp only [eff,hx,hcs,h2,h3,Option.bind_some,h4]
          rw [if_pos ⟨hok.1,hok.2.1,by rcases hok.2.2 with h | h;exact .inl h;exact .inr (by simpa using h)⟩]
        · cases hh
      · simp only [Option.bind_eq_some_iff] at hh
        obtain ⟨cs0,h4,hh⟩:=hh
        split at hh
        · rename_i hok
          simp only [Option.some.injEq,Prod.mk.injEq] at hh
          obtain ⟨rfl,rfl,rfl⟩:=hh
          simp only [Bool.and_eq_true,Bool.or_eq_true,decide_eq_true_eq,Bool.not_eq_true',beq_eq_false_iff_ne] at hok
          have hcs:=cellsC_ok h1 hc
          simp only [eff,hx,hcs,h2,h3,Option.bind_some,h4]
          rw [if_pos ⟨hok.1,hok.2.1,by rcases hok.2.2 with h | h;exact .inl h;exact .inr (by simpa using h)⟩]
        · cases hh
    · cases hh
  · rename_i op x y
    split at hh
    · rename_i a b hx hy
      simp only [Option.map_eq_some_iff,Prod.mk.injEq,Prod.exists] at hh
      obtain ⟨c,cs0,h1,rfl,rfl,rfl⟩:=hh
      simp only [eff,hx,hy,binC_ok h1 hc,Option.map_some]
    · cases hh
  · rename_i neg ks x y
    split at hh
    · rename_i a b c hs0 hx hy
      simp only [Option.some.injEq,Prod.mk.injEq] at hh
      obtain ⟨rfl,rfl,rfl⟩:=hh
      simp only [allP,and_true] at hc
      simp only [eff,hx,hy,hc,Option.map_some]
    · cases hh
  · rename_i x
    split at hh
    · cases hh
    · rename_i ds l hs0 hn
      simp only [Option.map_eq_some_iff,Prod.mk.injEq,Prod.exists] at hh
      obtain ⟨es,rd,cs0,h1,rfl,rfl,rfl⟩:=hh
      rw [allP_append] at hc
      simp only [allP,and_true] at hc
      have hes:=elemsC_ok h1 hc.1
      have hq:eff call f h dst (.cvbs x)=(elems h 1 (x.ev f)).bind fun (es,rd)=>(allDs es).bind fun ds=>(strOf ds).map fun l=>{ v:=.d (.str l),rd }:=by
        simp only [eff]
        try (split;exact absurd ‹_› (hn _);rfl)
      rw [hq]
      simp only [hes,Option.bind_some,hc.2.1,hc.2.2,Option.map_some]
    · cases hh
  · rename_i isS ks zero ok m k
    split at hh
    · rename_i u s a key r hs0 hx hy
      split at hh
      · rename_i hk
        simp only [Option.map_eq_some_iff,Prod.mk.injEq] at hh
        obtain ⟨es,h1,rfl,rfl,rfl⟩:=hh
        simp only [allP,and_true] at hc
        simp only [eff,hx,hy,if_pos hk,h1,Option.bind_some,hc,Option.map_some]
      · cases hh
    · exact hdef rfl hh
    · cases hh
  · rename_i isS ks m k v
    split at hh
    · rename_i u s a key x es' hs0 hx hy hz
      split at hh
      · rename_i hk
        simp only [Option.bind_eq_some_iff,Option.map_eq_some_iff,Prod.mk.injEq] at hh
        obtain ⟨es,h1,ob,h2,rfl,rfl,rfl⟩:=hh
        simp only [allP,and_true] at hc
        obtain ⟨y,hy'⟩:=Option.isSome_iff_exists.1 hc.1
        simp only [eff,hx,hy,hz,if_pos hk,h1,Option.bind_some,hy',hc.2,h2,Option.map_some]
      · cases hh
    · cases hh
  · rename_i zero bytes len
    simp only [Option.map_eq_some_iff,Prod.mk.injEq,Prod.exists] at hh
    obtain ⟨n,cs0,hs0,h1,rfl,rfl,rfl⟩:=hh
    rw [allP_append] at hc
    simp only [allP,and_true] at hc
    simp only [eff,natC_ok h1 hc.1,Option.bind_some,if_pos hc.2]
  · rename_i sz x lo hi
    split at hh
    · rename_i u s p off n hx
      simp only [Option.bind_eq_some_iff,Prod.exists] at hh
      obtain ⟨b,c1,hs1,h1,a,c2,hs2,h2,r,⟨ob,h3,h4⟩,hh⟩:=hh
      split at hh
      · rename_i hsz
        simp only [Option.some.injEq,Prod.mk.injEq] at hh
        obtain ⟨rfl,rfl,rfl⟩:=hh
        rw [allP_append,allP_append] at hc
        simp only [allP,and_true] at hc
        simp only [eff,hx,optC_ok h1 hc.1,optC_ok h2 hc.2.1,h3,h4,Option.bind_some]
        rw [if_pos ⟨hsz,hc.2.2.1,hc.2.2.2⟩]
      · cases hh
    · rename_i nn es hx
      simp only [Option.bind_eq_some_iff,Prod.exists] at hh
      obtain ⟨b,c1,hs1,h1,a,c2,hs2,h2,hh⟩:=hh
      simp only [Option.some.injEq,Prod.mk.injEq] at hh
      obtain ⟨rfl,rfl,rfl⟩:=hh
      rw [allP_append,allP_append] at hc
      simp only [allP,and_true] at hc
      simp only [eff,hx,optC_ok h1 hc.1,optC_ok h2 hc.2.1,Option.bind_some]
      rw [if_pos ⟨hc.2.2.1,hc.2.2.2.1,hc.2.2.2.2⟩]
    · cases hh
  · rename_i x lo hi
    split at hh
    · rename_i l hx
      simp only [Option.bind_eq_some_iff,Prod.exists] at hh
      obtain ⟨b,c1,hs1,h1,a,c2,hs2,h2,hh⟩:=hh
      simp only [Option.some.injEq,Prod.mk.injEq] at hh
      obtain ⟨rfl,rfl,rfl⟩:=hh
      rw [allP_append,allP_append] at hc
      simp only [allP,and_true] at hc
      simp only [eff,hx,optC_ok h1 hc.1,optC_ok h2 hc.2.1,Option.bind_some]
      rw [if_pos ⟨hc.2.2.1,hc.2.2.2⟩]
    · cases hh
  · rename_i size x i
    split at hh
    · rename_i u s p off n k cs0 sz nn es hs0 hx h1
      split at hh
      · rename_i e1 o1 hp
        simp only [Option.bind_eq_some_iff] at hh
        obtain ⟨ob,h2,q,h3,hh⟩:=hh
        split at hh
        · rename_i hsz
          simp only [Option.some.injEq,Prod.mk.injEq] at hh
          obtain ⟨rfl,rfl,rfl⟩:=hh
          rw [allP_append] at hc
          simp only [allP,and_true] at hc
          simp only [eff,hx,natC_ok h1 hc.1,h2,row?_last hp h3 hc.2.2,Option.bind_some]
          rw [if_pos ⟨hsz,hc.2.1⟩]
        · cases hh
      · cases hh
    · rename_i u s p off n k cs0 hs0 hx h1
      simp only [Option.bind_eq_some_iff] at hh
      obtain ⟨r,⟨ob,h2,h3⟩,hh⟩:=hh
      split at hh
      · rename_i hsz
        simp only [Option.some.injEq,Prod.mk.injEq] at hh
        obtain ⟨rfl,rfl,rfl⟩:=hh
        rw [allP_append] at hc
        simp only [allP,and_true] at hc
        simp only [eff,hx,natC_ok h1 hc.1,h2,h3,Option.bind_some]
        rw [if_pos ⟨hsz,hc.2⟩]
      · cases hh
    · rename_i nn es k cs0 ds hs0 hx h1
      split at hh
      · rename_i hsz
        simp only [Option.some.injEq,Prod.mk.injEq] at hh
        obtain ⟨rfl,rfl,rfl⟩:=hh
        rw [allP_append] at hc
        simp only [allP,and_true] at hc
        simp only [eff,hx,natC_ok h1 hc.1,hc.2,Option.bind_some,if_pos hsz]
      · cases hh
    · cases hh
  · rename_i x i
    split at hh
    · rename_i l k cs0 b hs0 hx h1
      simp only [Option.some.injEq,Prod.mk.injEq] at hh
      obtain ⟨rfl,rfl,rfl⟩:=hh
      rw [allP_append] at hc
      simp only [allP,and_true] at hc
      simp only [eff,hx,natC_ok h1 hc.1,hc.2,Option.map_some]
    · cases hh
  · rename_i fz own sz bytes x y
    simp only [Option.bind_eq_some_iff,Prod.exists] at hh
    obtain ⟨ys,rd,c0,h1,hh⟩:=hh
    split at hh
    · rename_i u s p off n hx
      split at hh
      · rename_i nn es hs0
        split at hh
        · rename_i e1 o1 hp
          simp only [Option.bind_eq_some_iff] at hh
          obtain ⟨ob,h2,q,h4,hh⟩:=hh
          split at hh
          · rename_i hcond
            simp only [Option.some.injEq,Prod.mk.injEq] at hh
            obtain ⟨rfl,rfl,rfl⟩:=hh
            rw [allP_append] at hc
            simp only [allP,and_true] at hc
            simp only [eff,elemsC_ok h1 hc.1,hx,h2,row?_last hp h4 hc.2.1,Option.bind_some]
            rw [if_pos ⟨hcond.1,hc.2.2.1,trivial,hc.2.2.2,hcond.2.1,hcond.2.2.1⟩]
            simp only [hp,h4,Option.bind_some]
            rw [if_pos hcond.2.2.2]
          · cases hh
        · cases hh
      simp only [Option.bind_eq_some_iff] at hh
      obtain ⟨ob,h2,r,h3,hh⟩:=hh
      split at hh
      · rename_i hcond
        split at hh
        · rename_i hp
          split at hh
          · rename_i x0 x1 nn es
            simp only [Option.some.injEq,Prod.mk.injEq] at hh
            obtain ⟨rfl,rfl,rfl⟩:=hh
            rw [allP_append] at hc
            simp only [allP,and_true] at hc
            simp only [eff,elemsC_ok h1 hc.1,hx,h2,h3,Option.bind_some]
            rw [if_pos ⟨hcond.1,hc.2.1,hcond.2.1,hc.2.2,hcond.2.2.1,hcond.2.2.2⟩]
            simp only [hp]
          · cases hh
        · rename_i e1 o1 hp
          simp only [Option.bind_eq_some_iff] at hh
          obtain ⟨q,h4,hh⟩:=hh
          split at hh
          · rename_i hne
            simp only [Option.some.injEq,Prod.mk.injEq] at hh
            obtain ⟨rfl,rfl,rfl⟩:=hh
            rw [allP_append] at hc
            simp only [allP,and_true] at hc
            simp only [eff,elemsC_ok h1 hc.1,hx,h2,h3,Option.bind_some]
            rw [if_pos ⟨hcond.1,hc.2.1,hcond.2.1,hc.2.2,hcond.2.2.1,hcond.2.2.2⟩]
            simp only [hp,h4,Option.bind_some]
            rw [if_pos hne]
          · cases hh
      · cases hh
    · rename_i nn hx
      split at hh
      · rename_i es hs0
        split at hh
        · rename_i hfz
          simp only [Option.some.injEq,Prod.mk.injEq] at hh
          obtain ⟨rfl,rfl,rfl⟩:=hh
          rw [allP_append] at hc
          simp only [allP,and_true] at hc
          simp only [eff,elemsC_ok h1 hc.1,hx,Option.bind_some]
          rw [if_pos ⟨hfz,hc.2.1⟩,hc.2.2]
          rfl
        · cases hh
      · cases hh
    · rename_i hx
      split at hh
      · rename_i es hs0
        split at hh
        · rename_i hfz
          simp only [Option.some.injEq,Prod.mk.injEq] at hh
          obtain ⟨rfl,rfl,rfl⟩:=hh
          rw [allP_append] at hc
          simp only [allP,and_true] at hc
          simp only [eff,elemsC_ok h1 hc.1,hx,Option.bind_some]
          rw [if_pos ⟨hfz,hc.2.1⟩,hc.2.2]
          rfl
        · cases hh
      · cases hh
    · cases hh
  · rename_i sz x y
    simp only [Option.bind_eq_some_iff,Prod.exists] at hh
    obtain ⟨ys,rd,c0,h1,hh⟩:=hh
    split at hh
    · rename_i u s p off n hx
      simp only [Option.bind_eq_some_iff] at hh
      obtain ⟨ob,h2,r,h3,hh⟩:=hh
      split at hh
      · rename_i hcond
        simp only [Option.some.injEq,Prod.mk.injEq] at hh
        obtain ⟨rfl,rfl,rfl⟩:=hh
        rw [allP_append] at hc
        simp only [allP,and_true] at hc
        simp only [eff,elemsC_ok h1 hc.1,hx,h2,h3,Option.bind_some]
        rw [if_pos ⟨hcond.1,hc.2.1,hcond.2.1,hc.2.2,hcond.2.2⟩]
      · cases hh
    · cases hh
  · rename_i n x v
    split at hh
    · rename_i u s p e0 o hx
      simp only [Option.bind_eq_some_iff,Prod.exists] at hh
      obtain ⟨new,a,c1,h1,ob,h2,r,h3,cs0,h4,hh⟩:=hh
      split at hh
      · rename_i hcond
        simp only [Option.some.injEq,Prod.mk.injEq] at hh
        obtain ⟨rfl,rfl,rfl⟩:=hh
        simp only [eff,hx,cellsM_ok h1 hc,h2,h3,h4,Option.bind_some]
        rw [if_pos hcond]
      · cases hh
    · cases hh
  · rename_i own sz bytes x y
    simp only [Option.bind_eq_some_iff,Prod.exists] at hh
    obtain ⟨ys,rd,c0,h1,hh⟩:=hh
    split at hh
    · rename_i nn t hs0 hx
      split at hh
      · rename_i ht
        simp only [Option.some.injEq,Prod.mk.injEq] at hh
        obtain ⟨rfl,rfl,rfl⟩:=hh
        rw [allP_append] at hc
        simp only [allP,and_true] at hc
        simp only [eff,elemsC_ok h1 hc.1,hx,Option.bind_some]
        rw [if_pos hc.2.1,if_pos hc.2.2]
      · simp only [Option.some.injEq,Prod.mk.injEq] at hh
        obtain ⟨rfl,rfl,rfl⟩:=hh
        rw [allP_append] at hc
        simp only [allP,and_true] at hc
        simp only [eff,elemsC_ok h1 hc.1,hx,Option.bind_some]
        rw [if_pos hc.2.1,if_neg (by rw [hc.2.2];simp)]
    · cases hh
  · rename_i sz bytes x y
    split at hh
    · rename_i s off n s' off' n' ds hs0 hx hy
      split at hh
      · rename_i sz' nn es ho
        split at hh
        · rename_i hcond
          simp only [Option.some.injEq,Prod.mk.injEq] at hh
          obtain ⟨rfl,rfl,rfl⟩:=hh
          simp only [allP,and_true] at hc
          simp only [eff,hx,hy,ho]
          rw [if_pos ⟨hcond.1,hcond.2,hc.1,hc.2.1,hc.2.2.1,hc.2.2.2.1⟩,hc.2.2.2.2]
          rfl
        · cases hh
      · cases hh
    · cases hh
  · exact hdef hp hh
end
end Go.Proofs.YtgmphfmoonbfpaaMv

namespace Go.Proofs.YtgmphfmoonbfpaaMv
open Go
def refSt (st:St) (d:Option Nat) (v:V) (hp':HL):St:=
  { fr:=match d with | some d=>put (st.fr.map fun (k,x)=>(k,x.shallow)) d v | none=>st.fr.map fun (k,x)=>(k,x.shallow),hp:=hp' }
def callC (p:Pg) (st:St) (d:Option Nat) (g:FuncId) (vs:List V) (hs:List Hint):RC3 St:=match hs with
  | .call v hp'::hs=>
    if vs.all V.free then (if v.free then (st.applyO d { v }).map fun st'=>(st',[Rn p g vs [] v hp'],hs) else none)
    else some (refSt st d v hp',[Rn p g vs st.hp v hp'],hs)
  | _=>none
def ownC (p:Pg) (st:St) (d:Option Nat) (g:FuncId) (vs:List V) (hs:List Hint):RC3 St:=match hs with
  | .call v [l]::hs=>if vs.all V.free&&v.flat then (addExp l st.hp).map fun hp=>({ fr:=match d with | some d=>put st.fr d v | none=>st.fr,hp },[Rn p g vs [[]] v [l]],hs) else none
  | _=>none
def frmC (p:Pg) (st:St) (d:Option Nat) (g:FuncId) (vs:List V) (hs:List Hint):RC3 St:=match frmRoot vs,hs with
  | some (u,s), .call v [[(s',ob')]]::hs=>if vs.all (frmOk u s)&&(v.free&&(v.flat&&s'==s)) then
      (hof st.hp u s).map fun ob=>({ fr:=match d with | some d=>put (st.fr.map fun (k,x)=>(k,x.shallow)) d v | none=>st.fr.map fun (k,x)=>(k,x.shallow),hp:=hput st.hp u s (some ob') },[Rn p g (vs.map frmV) [[(s,ob)]] v [[(s,ob')]]],hs) else none
  | _,_=>none
def opC (p:Pg) (st:St) (d:Option Nat) (op:IOp) (hs:List Hint):RC3 St:=match op with
  | .call g args=>callC p st d g (args.map (·.ev st.f)) hs
  | .callv x args=>(match x.ev st.f with
    | .fn g caps=>callC p st d g (args.map (·.ev st.f)++caps) hs
    | _=>none)
  | .callo g args=>ownC p st d g (args.map (·.ev st.f)) hs
  | .callf g args=>frmC p st d g (args.map (·.ev st.f)) hs
  | op=>(effC st.f (hof st.hp) (d.getD 0) op hs).bind fun (e,cs,hs)=>(st.applyO d e).map fun st'=>(st',cs,hs)
def stepC (p:Pg) (st:St) (i:II) (hs:List Hint):RC3 St:=match i.g with
  | none=>opC p st i.dst i.op hs
  | some (s,want)=>match st.f s,hs with
    | .d (.bool b), .b b'::hs=>
      if b'==want then (opC p st i.dst i.op hs).map fun (st,cs,hs)=>(st,(b=b')::cs,hs)
      else some (st.apply i.dst { v:=.und },[b=b'],hs)
    | .und,hs=>some (st.apply i.dst { v:=.und },[],hs)
    | _,_=>none
def stepsC (p:Pg):St→List II→List Hint→RC3 St
  | st,[],hs=>some (st,[],hs)
  | st,i::r,hs=>(stepC p st i hs).bind fun (st,cs,hs)=>(stepsC p st r hs).map fun (st,cs',hs)=>(st,cs++cs',hs)
def opE (p:Pg) (f:Fr) (h:Hp) (d:Option Nat) (op:IOp) (hs:List Hint):RC3 Eff:=match op with
  | .call g args=>(match hs with
    | .call v hp'::hs=>if (args.map (·.ev f)).all V.free&&v.free then some ({ v },[Rn p g (args.map (·.ev f)) [] v hp'],hs) else none
    | _=>none)
  | .callv ..=>none
  | .callo ..=>none
  | .callf ..=>none
  | op=>effC f h (d.getD 0) op hs
def effIC (p:Pg) (f:Fr) (h:Hp) (i:II) (hs:List Hint):RC3 Eff:=match i.g with
  | none=>opE p f h i.dst i.op hs
  | some (s,want)=>match f s,hs with
    | .d (.bool b), .b b'::hs=>
      if b'==want then (opE p f h i.dst i.op hs).map fun (e,cs,hs)=>(e,(b=b')::cs,hs)
      else some ({ v:=.und },[b=b'],hs)
    | .und,hs=>some ({ v:=.und },[],hs)
    | _,_=>none
def headC (p:Pg):St→List II→List (List Nat)→List Foot→List Hint→RC3 St
  | st,[],_,_,hs=>some (st,[],hs)
  | st,i::r,un,es,hs=>(effIC p st.f (hof st.hp) i hs).bind fun (e,cs,hs)=>
    if (un.headD []).any fun j=>(es[j]?).any (clash i.slots (foot st.f i e)) then none else (st.applyO i.dst e).bind fun st'=>
      (headC p st' r un.tail (es++[foot st.f i e]) hs).map fun (st,cs',hs)=>(st,cs++cs',hs)
def frzC (st:St) (s:Nat) (hs:List Hint):RC3 St:=match st.f s with
  | .ptr u t [] _ _=>(match hof st.hp u t,hs with
    | some (.row fx sz nn [cs]), .cs ds::hs=>
      some ({ fr:=st.fr.map fun (k,x)=>(k,x.kills [.under u t [] 0 0 cs.length]),hp:=hput st.hp u t (some (.row fx sz nn [ds])) },[fzBs cs=some ds],hs)
    | _,_=>none)
  | _=>none
def codeC (p:Pg):IR→St→List Hint→Option ((Ex × St) × List Prop × List Hint)
  | .skip,st,hs=>some ((.normal,st),[],hs)
  | .reg ops,st,hs=>(stepsC p st ops hs).map fun (st,cs,hs)=>((.normal,st),cs,hs)
  | .drw h un ops,st,hs=>(headC p (st.clear (dsts (ops.take h))) (ops.take h) un [] hs).bind fun (st,cs,hs)=>(stepsC p st (ops.drop h) hs).map fun (st,cs',hs)=>((.normal,st),cs++cs',hs)
  | .seq a b,st,hs=>match codeC p a st hs with
    | some ((.normal,st),cs,hs)=>(codeC p b st hs).map fun (r,cs',hs)=>(r,cs++cs',hs)
    | r=>r
  | .cond c a b,st,hs=>match c.ev st.f,hs with
    | .d (.bool t), .b t'::hs=>(if t' then codeC p a st hs else codeC p b st hs).map fun (r,cs,hs)=>(r,(t=t')::cs,hs)
    | _,_=>none
  | .block id b,st,hs=>match codeC p b st hs with
    | some ((.exit j,st),cs,hs)=>some ((if j==id then .normal else .exit j,st),cs,hs)
    | r=>r
  | .back s d b,st,hs=>match st.f s,hs with
    | .d (.sl _ es), .lp .normal st'::hs=>some ((.normal,st'),[es.length<1099511627776,Bk p b d es.reverse st st'],hs)
    | _,_=>none
  | .loop b,st,hs=>match hs with
    | .lp ex st'::hs=>some ((ex,st'),[Lp p b st ex st'],hs)
    | _=>none
  | .exit id,st,hs=>some ((.exit id,st),[],hs)
  | .ret,st,hs=>some ((.ret,st),[],hs)
  | .keep l os,st,hs=>(evKeep st l os).map fun st=>((.normal,st),[],hs)
  | .frz s,st,hs=>(frzC st s hs).map fun (st,cs,hs)=>((.normal,st),cs,hs)
  | .cpb n s x d,st,hs=>(evCpb st n s x d).map fun st=>((.normal,st),[],hs)
section
variable {p:Pg}
theorem callC_free {st st':St} {d:Option Nat} {g:FuncId} {vs:List V} {hs hs':List Hint} {cs:List Prop} (hh:callC p st d g vs hs=some (st',cs,hs')) (hc:allP cs) (hf:vs.all V.free=true) :
    ∃ v hp',Rn p g vs [] v hp'∧v.free=true∧st.applyO d { v } = some st':=by
  unfold callC at hh
  split at hh
  · simp only [hf,if_true] at hh
    split at hh
    · rename_i v hp' hs0 hv
      simp only [Option.map_eq_some_iff,Prod.mk.injEq] at hh
      obtain ⟨st1,h1,rfl,rfl,_⟩:=hh
      exact ⟨v,hp',hc.1,hv,h1⟩
    · cases hh
  · cases hh
theorem callC_ref {st st':St} {d:Option Nat} {g:FuncId} {vs:List V} {hs hs':List Hint} {cs:List Prop} (hh:callC p st d g vs hs=some (st',cs,hs')) (hc:allP cs) (hf:vs.all V.free=false) :
    ∃ v hp',Rn p g vs st.hp v hp'∧st'=refSt st d v hp':=by
  unfold callC at hh
  split at hh
  · rw [if_neg (by simp [hf])] at hh
    simp only [Option.some.injEq,Prod.mk.injEq] at hh
    obtain ⟨rfl,rfl,_⟩:=hh
    exact ⟨_,_,hc.1,rfl⟩
  · cases hh
theorem opC_ok {st st':St} {d:Option Nat} {op:IOp} {hs hs':List Hint} {cs:List Prop} (hh:opC p st d op hs=some (st',cs,hs')) (hc:allP cs):S1 p ⟨d,none,op⟩ st st':=by
  have key:∀ {op:IOp},op.pure=true→((effC st.f (hof st.hp) (d.getD 0) op hs).bind fun (e,cs,hs)=>(st.applyO d e).map fun st'=>(st',cs,hs))=some (st',cs,hs')→S1 p ⟨d,none,op⟩ st st':=by
    intro op hp hh
    simp only [Option.bind_eq_some_iff,Option.map_eq_some_iff,Prod.exists,Prod.mk.injEq] at hh
    obtain ⟨e,cs0,hs0,h1,st1,h2,rfl,rfl,rfl⟩:=hh
    refine ⟨0,fun m _=>?_⟩
    have he:=effC_ok (call:=fun g vs=>(run p m g vs []).map (·.1)) hp h1 hc
    have hst:stepI (run p m) st ⟨d,none,op⟩=(eff (fun g vs=>(run p m g vs []).map (·.1)) st.f (hof st.hp) (d.getD 0) op).bind (st.applyO d ·):=by
      cases op <;> first | rfl | cases hp
    rw [hst,he]
    exact h2
  unfold opC at hh
  split at hh
  · rename_i g args
    cases hf:(args.map (·.ev st.f)).all V.free with
    | true=>
      obtain ⟨v,hp',h1,h2,h3⟩:=callC_free hh hc hf
      obtain ⟨n,h1⟩:=h1
      refine ⟨n,fun m hm=>?_⟩
      simp only [stepI,wantedI,Option.bind_some,if_true,hf,eff,h1 m hm,Option.map_some,h2,h3]
    | false=>
      obtain ⟨v,hp',h1,rfl⟩:=callC_ref hh hc hf
      exact S1.rcall rfl hf h1
  · rename_i x args
    split at hh
    · rename_i g caps hx
      cases hf:(args.map (·.ev st.f)++caps).all V.free with
      | true=>
        obtain ⟨v,hp',h1,h2,h3⟩:=callC_free hh hc hf
        obtain ⟨n,h1⟩:=h1
        refine ⟨n,fun m hm=>?_⟩
        simp only [stepI,wantedI,Option.bind_some,if_true,hx,hf,eff,h1 m hm,Option.map_some,h2,h3]
      | false=>
        obtain ⟨v,hp',h1,rfl⟩:=callC_ref hh hc hf
        obtain ⟨n,h1⟩:=h1
        refine ⟨n,fun m hm=>?_⟩
        simp only [stepI,wantedI,Option.bind_some,if_true,hx,hf,refCall,h1 m hm]
        cases d <;> simp [refSt]
    · cases hh
  · rename_i g args
    unfold ownC at hh
    split at hh
    · rename_i v l hs0
      split at hh
      · rename_i hf
        simp only [Bool.and_eq_true] at hf
        simp only [Option.map_eq_some_iff,Prod.mk.injEq] at hh
        obtain ⟨hp2,h1,rfl,rfl,_⟩:=hh
        exact S1.own rfl hf.1 hc.1 hf.2 h1
      · cases hh
    · cases hh
  · rename_i g args
    unfold frmC at hh
    split at hh
    · rename_i u s v s' ob' hs0 hr
      split at hh
      · rename_i hf
        simp only [Bool.and_eq_true,beq_iff_eq] at hf
        obtain ⟨h1,h2,h3,rfl⟩:=hf
        simp only [Option.map_eq_some_iff,Prod.mk.injEq] at hh
        obtain ⟨ob,h4,rfl,rfl,_⟩:=hh
        exact S1.frm rfl hr h1 h4 hc.1 h2 h3
      · cases hh
    · cases hh
  · rename_i hn1 hn2 hn3 hn4
    refine key ?_ hh
    cases op <;> first | rfl | exact absurd rfl (hn1 _ _) | exact absurd rfl (hn2 _ _) | exact absurd rfl (hn3 _ _) | exact absurd rfl (hn4 _ _)
theorem stepC_ok {st st':St} {i:II} {hs hs':List Hint} {cs:List Prop} (hh:stepC p st i hs=some (st',cs,hs')) (hc:allP cs):S1 p i st st':=by
  obtain ⟨d,g,op⟩:=i
  unfold stepC at hh
  split at hh
  · rename_i hg
    simp only at hg hh
    subst hg
    exact opC_ok hh hc
  · rename_i s want hg
    simp only at hg hh
    subst hg
    split at hh
    · rename_i b b' hs0 hx
      split at hh
      · rename_i hw
        simp only [Option.map_eq_some_iff,Prod.mk.injEq,Prod.exists] at hh
        obtain ⟨st1,cs0,hs1,h1,rfl,rfl,rfl⟩:=hh
        obtain ⟨rfl,hc⟩:=hc
        refine S1.guard hx ?_
        rw [hw]
        exact opC_ok h1 hc
      · rename_i hw
        simp only [Option.some.injEq,Prod.mk.injEq] at hh
        obtain ⟨rfl,rfl,rfl⟩:=hh
        obtain ⟨rfl,_⟩:=hc
        refine S1.guard hx ?_
        rw [if_neg (by simpa using hw)]
    · rename_i hx
      simp only [Option.some.injEq,Prod.mk.injEq] at hh
      obtain ⟨rfl,rfl,rfl⟩:=hh
      exact ⟨0,fun m _=>by simp [stepI,wantedI,hx]⟩
    · cases hh
theorem stepsC_ok:∀ {ops:List II} {st st':St} {hs hs':List Hint} {cs:List Prop},stepsC p st ops hs=some (st',cs,hs')→allP cs→Ss p ops st st'
  | [],st,st',hs,hs',cs,hh,hc=>by
    simp only [stepsC,Option.some.injEq,Prod.mk.injEq] at hh
    obtain ⟨rfl,_,_⟩:=hh
    exact Ss.nil st
  | i::ops,st,st',hs,hs',cs,hh,hc=>by
    simp only [stepsC,Option.bind_eq_some_iff,Option.map_eq_some_iff,Prod.exists,Prod.mk.injEq] at hh
    obtain ⟨st1,cs1,hs1,h1,st2,cs2,hs2,h2,rfl,rfl,rfl⟩:=hh
    rw [allP_append] at hc
    exact Ss.cons (stepC_ok h1 hc.1) (stepsC_ok h2 hc.2)
theorem opE_ok {f:Fr} {h:Hp} {d:Option Nat} {op:IOp} {hs hs':List Hint} {e:Eff} {cs:List Prop} (hh:opE p f h d op hs=some (e,cs,hs')) (hc:allP cs):E1 p f h ⟨d,none,op⟩ e:=by
  unfold opE at hh
  split at hh
  · rename_i g args
    split at hh
    · rename_i v hp' hs0
      split at hh
      · rename_i hf
        simp only [Option.some.injEq,Prod.mk.injEq] at hh
        obtain ⟨rfl,rfl,rfl⟩:=hh
        simp only [Bool.and_eq_true] at hf
        exact E1.call rfl hf.1 hc.1 hf.2
      · cases hh
    · cases hh
  · cases hh
  · cases hh
  · cases hh
  · rename_i hn1 hn2 hn3 hn4
    refine ⟨0,fun m _=>?_⟩
    have hp:op.pure=true:=by cases op <;> first | rfl | exact absurd rfl (hn1 _ _) | exact absurd rfl (hn2 _ _) | exact absurd rfl (hn3 _ _) | exact absurd rfl (hn4 _ _)
    have he:=effC_ok (call:=fun g vs=>(run p m g vs []).map (·.1)) hp hh hc
    simp only [effI,wantedI,Option.bind_some,if_true]
    exact he
theorem effIC_ok {f:Fr} {h:Hp} {i:II} {hs hs':List Hint} {e:Eff} {cs:List Prop} (hh:effIC p f h i hs=some (e,cs,hs')) (hc:allP cs):E1 p f h i e:=by
  obtain ⟨d,g,op⟩:=i
  unfold effIC at hh
  split at hh
  · rename_i hg
    simp only at hg hh
    subst hg
    exact opE_ok hh hc
  · rename_i s want hg
    simp only at hg hh
    subst hg
    split at hh
    · rename_i b b' hs0 hx
      split at hh
      · rename_i hw
        simp only [Option.map_eq_some_iff,Prod.mk.injEq,Prod.exists] at hh
        obtain ⟨e1,cs0,hs1,h1,rfl,rfl,rfl⟩:=hh
        obtain ⟨rfl,hc⟩:=hc
        obtain ⟨n,h2⟩:=opE_ok h1 hc
        refine ⟨n,fun m hm=>?_⟩
        have:=h2 m hm
        simp only [effI,wantedI,hx,hw,Option.bind_some] at this ⊢
        exact this
      · rename_i hw
        simp only [Option.some.injEq,Prod.mk.injEq] at hh
        obtain ⟨rfl,rfl,rfl⟩:=hh
        obtain ⟨rfl,_⟩:=hc
        refine ⟨0,fun m _=>?_⟩
        have hw':(b==want)=false:=by simpa using hw
        simp [effI,wantedI,hx,hw']
    · rename_i hx
      simp only [Option.some.injEq,Prod.mk.injEq] at hh
      obtain ⟨rfl,rfl,rfl⟩:=hh
      exact ⟨0,fun m _=>by simp [effI,wantedI,hx]⟩
    · cases hh
theorem headC_ok:∀ {ops:List II} {un:List (List Nat)} {es:List Foot} {st st':St} {hs hs':List Hint} {cs:List Prop},headC p st ops un es hs=some (st',cs,hs')→allP cs→Hd p ops un es st st'
  | [],un,es,st,st',hs,hs',cs,hh,hc=>by
    simp only [headC,Option.some.injEq,Prod.mk.injEq] at hh
    obtain ⟨rfl,_,_⟩:=hh
    exact Hd.nil st
  | i::ops,un,es,st,st',hs,hs',cs,hh,hc=>by
    simp only [headC,Option.bind_eq_some_iff,Prod.exists] at hh
    obtain ⟨e,cs1,hs1,h1,hh⟩:=hh
    split at hh
    · cases hh
    · rename_i hcl
      simp only [Option.bind_eq_some_iff,Option.map_eq_some_iff,Prod.exists,Prod.mk.injEq] at hh
      obtain ⟨st1,h2,st2,cs2,hs2,h3,rfl,rfl,rfl⟩:=hh
      rw [allP_append] at hc
      exact Hd.cons (effIC_ok h1 hc.1) (by simpa using hcl) h2 (headC_ok h3 hc.2)
theorem codeC_ok:∀ {c:IR} {st st':St} {ex:Ex} {hs hs':List Hint} {cs:List Prop},codeC p c st hs=some ((ex,st'),cs,hs')→allP cs→Ev p c st ex st'
  | .skip,st,st',ex,hs,hs',cs,hh,hc=>by
    simp only [codeC,Option.some.injEq,Prod.mk.injEq] at hh
    obtain ⟨⟨rfl,rfl⟩,_,_⟩:=hh
    exact Ev.skip st
  | .reg ops,st,st',ex,hs,hs',cs,hh,hc=>by
    simp only [codeC,Option.map_eq_some_iff,Prod.exists,Prod.mk.injEq] at hh
    obtain ⟨st1,cs1,hs1,h1,⟨rfl,rfl⟩,rfl,rfl⟩:=hh
    exact Ev.reg (stepsC_ok h1 hc)
  | .drw h un ops,st,st',ex,hs,hs',cs,hh,hc=>by
    simp only [codeC,Option.bind_eq_some_iff,Option.map_eq_some_iff,Prod.exists,Prod.mk.injEq] at hh
    obtain ⟨st1,cs1,hs1,h1,st2,cs2,hs2,h2,⟨rfl,rfl⟩,rfl,rfl⟩:=hh
    rw [allP_append] at hc
    exact Ev.drw (headC_ok h1 hc.1) (stepsC_ok h2 hc.2)
  | .seq a b,st,st',ex,hs,hs',cs,hh,hc=>by
    simp only [codeC] at hh
    split at hh
    · rename_i st1 cs1 hs1 h1
      simp only [Option.map_eq_some_iff,Prod.exists,Prod.mk.injEq] at hh
      obtain ⟨ex2,st2,cs2,hs2,h2,⟨rfl,rfl⟩,rfl,rfl⟩:=hh
      rw [allP_append] at hc
      exact Ev.seq (codeC_ok h1 hc.1) (codeC_ok h2 hc.2)
    · rename_i hn
      cases ex with
      | normal=>exact absurd hh (hn _ _ _)
      | exit i=>exact Ev.seqX (codeC_ok hh hc)
      | ret=>exact Ev.seqR (codeC_ok hh hc)
  | .cond c a b,st,st',ex,hs,hs',cs,hh,hc=>by
    simp only [codeC] at hh
    split at hh
    · rename_i t t' hs0 hx
      simp only [Option.map_eq_some_iff,Prod.exists,Prod.mk.injEq] at hh
      obtain ⟨ex1,st1,cs1,hs1,h1,⟨rfl,rfl⟩,rfl,rfl⟩:=hh
      obtain ⟨rfl,hc⟩:=hc
      refine Ev.cond hx ?_
      cases t with
      | true=>exact codeC_ok h1 hc
      | false=>exact codeC_ok h1 hc
    · cases hh
  | .block id b,st,st',ex,hs,hs',cs,hh,hc=>by
    simp only [codeC] at hh
    split at hh
    · rename_i j st1 cs1 hs1 h1
      simp only [Option.some.injEq,Prod.mk.injEq] at hh
      obtain ⟨⟨rfl,rfl⟩,rfl,rfl⟩:=hh
      cases hj:j==id with
      | true=>
        have:j=id:=by simpa using hj
        subst this
        simp only [if_true]
        exact Ev.blockX (codeC_ok h1 hc)
      | false=>
        simp only [Bool.false_eq_true,if_false]
        exact Ev.blockY hj (codeC_ok h1 hc)
    · rename_i hn
      cases ex with
      | normal=>exact Ev.block (codeC_ok hh hc)
      | exit i=>exact absurd hh (hn _ _ _ _)
      | ret=>exact Ev.blockR (codeC_ok hh hc)
  | .back s d b,st,st',ex,hs,hs',cs,hh,hc=>by
    simp only [codeC] at hh
    split at hh
    · rename_i nn es st2 hs2 hx
      simp only [Option.some.injEq,Prod.mk.injEq] at hh
      obtain ⟨⟨rfl,rfl⟩,rfl,rfl⟩:=hh
      exact Ev.back hx hc.1 hc.2.1
    · cases hh
  | .loop b,st,st',ex,hs,hs',cs,hh,hc=>by
    simp only [codeC] at hh
    split at hh
    · simp only [Option.some.injEq,Prod.mk.injEq] at hh
      obtain ⟨⟨rfl,rfl⟩,rfl,_⟩:=hh
      exact Ev.loop hc.1
    · cases hh
  | .exit id,st,st',ex,hs,hs',cs,hh,hc=>by
    simp only [codeC,Option.some.injEq,Prod.mk.injEq] at hh
    obtain ⟨⟨rfl,rfl⟩,_,_⟩:=hh
    exact Ev.exit id st
  | .ret,st,st',ex,hs,hs',cs,hh,hc=>by
    simp only [codeC,Option.some.injEq,Prod.mk.injEq] at hh
    obtain ⟨⟨rfl,rfl⟩,_,_⟩:=hh
    exact Ev.ret st
  | .keep l os,st,st',ex,hs,hs',cs,hh,hc=>by
    simp only [codeC,Option.map_eq_some_iff,Prod.mk.injEq] at hh
    obtain ⟨st1,h1,⟨rfl,rfl⟩,_,_⟩:=hh
    exact Ev.keep h1
  | .frz s,st,st',ex,hs,hs',cs,hh,hc=>by
    simp only [codeC,Option.map_eq_some_iff,Prod.exists,Prod.mk.injEq] at hh
    obtain ⟨st1,cs1,hs1,h1,⟨rfl,rfl⟩,rfl,rfl⟩:=hh
    refine Ev.frz ?_
    unfold frzC at h1
    split at h1
    · rename_i u t e o hx
      split at h1
      · rename_i fx sz nn cs0 ds hs0 ho
        simp only [Option.some.injEq,Prod.mk.injEq] at h1
        obtain ⟨rfl,rfl,rfl⟩:=h1
        simp only [evFrz,hx,ho,Option.bind_some,freezeOb,hc.1,Option.map_some]
      · cases h1
    · cases h1
  | .cpb n s x d,st,st',ex,hs,hs',cs,hh,hc=>by
    simp only [codeC,Option.map_eq_some_iff,Prod.mk.injEq] at hh
    obtain ⟨st1,h1,⟨rfl,rfl⟩,_,_⟩:=hh
    exact Ev.cpb h1
theorem Rn.c {g:FuncId} {fn:IFn} {vs:List V} {hp hp':HL} {ex:Ex} {st:St} {hs:List Hint} {cs:List Prop} {rs:List V} {v:V} {t:List (Nat × Ob)} (hf:p.fns g=some fn) (h:codeC p fn.body { fr:=argsFr 0 vs,hp:=[]::hp } hs=some ((ex,st),cs,[]))
    (hx:(match ex with | .exit _=>false | _=>true)=true) (hr:resIs st fn.res=some rs) (hh:st.hp=t::hp') (ho:outV rs=some v) (hc:allP cs):Rn p g vs hp v hp':=
  Rn.of hf (codeC_ok h hc) (fun id he=>by subst he;cases hx) hr hh ho
theorem Rn.cx {g:FuncId} {fn:IFn} {vs:List V} {hp hp' hp2:HL} {ex:Ex} {st:St} {hs:List Hint} {cs:List Prop} {ir:IRes} {v:V} {l t:List (Nat × Ob)} (hf:p.fns g=some fn) (h:codeC p fn.body { fr:=argsFr 0 vs,hp:=[]::hp } hs=some ((ex,st),cs,[]))
    (hx:(match ex with | .exit _=>false | _=>true)=true) (hi:isExp fn.res=some ir) (hr:expI st ir=some (v,l)) (hh:st.hp=t::hp') (ho:addExp l hp'=some hp2) (hc:allP cs):Rn p g vs hp v hp2:=
  Rn.ofx hf (codeC_ok h hc) (fun id he=>by subst he;cases hx) hi hr hh ho
end
end Go.Proofs.YtgmphfmoonbfpaaMv
