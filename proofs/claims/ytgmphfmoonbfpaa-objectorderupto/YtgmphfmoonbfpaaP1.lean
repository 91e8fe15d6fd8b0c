/- Part 1 of the proof. -/
import Derived.Test.YtgmphfmoonbfpaaP0
import Derived.Great.BuildSlice
import Derived.Deep.Upon
import Derived.Laws.AppendOwn
set_option linter.unusedVariables false
set_option linter.unusedSimpArgs false
set_option maxRecDepth 2000
namespace Go.Proofs.YtgmphfmoonbfpaaMv
open Go
section
variable {P:Program} {X:Nat→Prop} {h:Hp} {B:Gh} {w:World} {f:Fr} {a:Act} {call:FuncId→List V→Option V} {dst:Nat} {o:Oper} {e:Eff}
theorem flatten_get {α:Type} {sz:Nat}:∀ (es:List (List α)),(∀ cs ∈ es,cs.length=sz)→∀ i j,j<sz→es.flatten[i * sz+j]? = (es[i]?).bind (·[j]?)
  | [],_,i,j,_=>by simp
  | cs::es,hl,0,j,hj=>by
    have h0:=hl cs (by simp)
    rw [List.flatten_cons,Nat.zero_mul,Nat.zero_add,List.getElem?_append_left (by omega)]
    simp
  | cs::es,hl,i+1,j,hj=>by
    have h0:=hl cs (by simp)
    rw [List.flatten_cons,List.getElem?_append_right (by rw [Nat.add_mul];omega)]
    have:(i+1) * sz+j - cs.length=i * sz+j:=by rw [Nat.add_mul,h0];omega
    rw [this,flatten_get es (fun c hc=>hl c (by simp [hc])) i j hj]
    simp
theorem flatten_len {α:Type} {sz:Nat}:∀ (es:List (List α)),(∀ cs ∈ es,cs.length=sz)→es.flatten.length=es.length * sz
  | [],_=>by simp
  | cs::es,hl=>by
    rw [List.flatten_cons,List.length_append,hl cs (by simp),flatten_len es (fun c hc=>hl c (by simp [hc])),List.length_cons,Nat.add_mul];omega
theorem flatten_set {α:Type} {sz:Nat}:∀ (es:List (List α)),(∀ cs ∈ es,cs.length=sz)→∀ i ds,i<es.length→ds.length=sz→(es.set i ds).flatten=es.flatten.take (i * sz)++ds++es.flatten.drop (i * sz+sz)
  | [],_,i,ds,hi,_=>by simp at hi
  | cs::es,hl,0,ds,_,hd=>by
    have h0:=hl cs (by simp)
    simp only [List.set_cons_zero,List.flatten_cons,Nat.zero_mul,List.take_zero,List.nil_append,Nat.zero_add]
    rw [List.drop_append_of_le_length (by omega),List.drop_eq_nil_of_le (by omega),List.nil_append]
  | cs::es,hl,i+1,ds,hi,hd=>by
    have h0:=hl cs (by simp)
    rw [List.set_cons_succ,List.flatten_cons,flatten_set es (fun c hc=>hl c (by simp [hc])) i ds (by simpa using hi) hd,List.flatten_cons]
    have e1:(i+1) * sz=cs.length+i * sz:=by rw [Nat.add_mul,h0];omega
    rw [e1,List.take_append,List.take_of_length_le (l:=cs) (i:=cs.length+i * sz) (by omega)]
    rw [show cs.length+i * sz - cs.length=i * sz by omega]
    rw [show cs.length+i * sz+sz=cs.length+(i * sz+sz) by omega,List.drop_append,List.drop_eq_nil_of_le (as:=cs) (by omega)]
    rw [show cs.length+(i * sz+sz) - cs.length=i * sz+sz by omega]
    simp
theorem fillL_V {sz:Nat}:∀ (ps:List (Nat × V)) (es es':List (List D)),(∀ cs ∈ es,cs.length=sz)→fillL sz es ps=some es' →
    (∀ cs ∈ es',cs.length=sz)∧es'.length=es.length∧fillV (es.flatten.map .d) (ps.map fun p=>(p.1 * sz,sz,p.2))=some (es'.flatten.map .d)
  | [],es,es',hl,hf=>by
    simp only [fillL,Option.some.injEq] at hf
    subst hf
    exact ⟨hl,rfl,rfl⟩
  | (i,v)::ps,es,es',hl,hf=>by
    have go:∀ (ds:List D),i<es.length→ds.length=sz→fillL sz (es.set i ds) ps=some es' →
        (∀ cs ∈ es',cs.length=sz)∧es'.length=es.length∧fillV ((es.flatten.take (i * sz)++ds++es.flatten.drop (i * sz+sz)).map .d) (ps.map fun p=>(p.1 * sz,sz,p.2))=some (es'.flatten.map .d):=by
      intro ds hi hd hf
      have hl':∀ cs ∈ es.set i ds,cs.length=sz:=by
        intro cs hcs
        rcases List.mem_or_eq_of_mem_set hcs with h1 | rfl
        · exact hl cs h1
        · exact hd
      obtain ⟨g1,g2,g3⟩:=fillL_V ps _ es' hl' hf
      exact ⟨g1,by simpa using g2,by rw [←flatten_set es hl i ds hi hd];exact g3⟩
    have hfl:=flatten_len es hl
    cases v with
    | d x=>
      cases x with
      | agg ds=>
        simp only [fillL] at hf
        split at hf
        · rename_i hcond
          obtain ⟨g1,g2,g3⟩:=go ds hcond.1 hcond.2 hf
          refine ⟨g1,g2, ?_⟩
          simp only [List.map_cons,fillV]
          rw [if_pos ⟨hcond.2,by
            simp only [List.length_map,hfl]
            have:(i+1) * sz≤es.length * sz:=Nat.mul_le_mul_right sz hcond.1
            rw [Nat.add_mul] at this
            omega⟩]
          simpa using g3
        · cases hf
      | _=>
        simp only [fillL] at hf
        split at hf
        · rename_i hcond
          obtain ⟨g1,g2,g3⟩:=go [_] hcond.1 (by simp [hcond.2]) hf
          refine ⟨g1,g2, ?_⟩
          obtain ⟨hc1,rfl⟩:=hcond
          simp only [List.map_cons,fillV]
          rw [if_pos (by refine ⟨?_, ?_, ?_⟩ <;> first | trivial | (simp only [List.length_map,hfl];omega))]
          rw [List.set_eq_take_append_cons_drop,if_pos (by simp only [List.length_map,hfl];omega)]
          simpa using g3
        · cases hf
    | _=>simp [fillL] at hf
theorem litOk_spec (F:FRel X h B w f a) (sz:Nat):∀ {qs:List (Nat × Operand)} {ps:List (Nat × Opd)},litOk qs ps=true →
    (qs.map fun (q:Nat × Operand)=>(q.1,a.eval q.2)).length=((ps.map fun (p:Nat × Opd)=>(p.1,p.2.ev f)).map fun (p:Nat × V)=>(p.1 * sz,sz,p.2)).length ∧
    ∀ (k:Nat) (q:Nat × Value) (p:Nat × Nat × V),(qs.map fun (q:Nat × Operand)=>(q.1,a.eval q.2))[k]? = some q→((ps.map fun (p:Nat × Opd)=>(p.1,p.2.ev f)).map fun (p:Nat × V)=>(p.1 * sz,sz,p.2))[k]? = some p →
      (fun i=>some (i * sz,sz)) q.1=some (p.1,p.2.1)∧RV X h B w p.2.2 q.2
  | [],[],_=>⟨rfl,fun k q p hq=>by simp at hq⟩
  | (i,x)::qs,(j,y)::ps,hc=>by
    simp only [litOk,Bool.and_eq_true,beq_iff_eq] at hc
    obtain ⟨rfl,hc1,hc2⟩:=hc
    obtain ⟨h1,h2⟩:=litOk_spec F sz hc2
    refine ⟨by simpa using h1,fun k q p hq hp=>?_⟩
    cases k with
    | zero=>simp at hq hp;subst hq;subst hp;exact ⟨rfl,opd_ok F hc1⟩
    | succ k=>exact h2 k q p (by simpa using hq) (by simpa using hp)
  | [],_::_,hc=>by simp [litOk] at hc
  | _::_,[],hc=>by simp [litOk] at hc
theorem rd_fresh (H:HRel X h B w) {w':World} (T:Tr X h B w [] h B w') {b:Nat} (hb:w.heap.size≤b) {C:Array Value} {t:TypeId} {fr:Nat × Nat} (hblk:w'.heap[b]? = some (.cells C t fr))
    {es:List (List D)} {sz cap:Nat} {nn:Bool} (h0:nn=true∨es≠[]) (hcap:es.length≤cap) (hl:∀ cs ∈ es,cs.length=sz)
    (hc:∀ i j d,dAt es i j=some d→∃ v,C[i * sz+j]? = some v∧v.oneCell'=true∧RD w (Forb X h B) d v) :
    RD w' (Forb X h B) (.sl nn es) (.slice (some ⟨b,0,none⟩) es.length cap):=by
  refine .sl nn es ⟨b,0,none⟩ sz cap (fun i j=>C.getD (i * sz+j) undef) h0 hcap hl (fun i j d _=>?_) (fun i j d hij=>?_) (fun i j d hij=>?_) (fun i j d hij=>?_)
  · intro hf
    have:b<w.heap.size:=H.forb_lt hf
    omega
  · obtain ⟨v,h1,_⟩:=hc i j d hij
    rw [add_at,Nat.zero_add]
    simp [World.cell?,hblk,h1]
  · obtain ⟨v,h1,h2,_⟩:=hc i j d hij
    simp [h1,h2]
  · obtain ⟨v,h1,_,h3⟩:=hc i j d hij
    simp only [Array.getD_eq_getD_getElem?,h1,Option.getD_some]
    exact T.stp.rd h3
theorem alloc_tr (H:HRel X h B w) (ob:Obj):Tr X h B w [] h B (w.alloc ob):=
  tr_world H rfl rfl rfl (by simp) (fun b hb=>by
    show (w.heap.push ob)[b]? = _
    rw [Array.getElem?_push,if_neg (by omega)])
theorem heap_alloc (ob:Obj):(w.alloc ob).heap[w.heap.size]? = some ob:=by
  show (w.heap.push ob)[w.heap.size]? = _
  simp
theorem eff_lit (H:HRel X h B w) (F:FRel X h B w f a) {zero:List D} {len:Nat} {ps:List (Nat × Opd)} (he:eff call f h dst (.lit zero len ps)=some e) (hc:chk P o.op o.type (.lit zero len ps)=true):EffOk P X h B w (execOp a.eval o) e:=by
  simp only [eff,Option.map_eq_some_iff] at he
  obtain ⟨es,hes,rfl⟩:=he
  simp only [chk] at hc
  split at hc
  · rename_i t m qs ho
    simp only [Bool.and_eq_true,beq_iff_eq] at hc
    obtain ⟨⟨rfl,hc1⟩,hc2⟩:=hc
    obtain ⟨el,hel,hc3⟩:=opt_any hc1
    simp only [Bool.and_eq_true,decide_eq_true_eq] at hc3
    obtain ⟨hs,hz,hle,hpos⟩:=hc3
    have hu:=sliceElem_spec hel
    obtain ⟨i,zv,hi,hzv,hzs⟩:=zeroIs_spec hz
    obtain ⟨i',hi',hsz⟩:=sizeIs_spec hs
    rw [hi] at hi'
    injection hi' with hi';subst hi'
    have hzc:=zero_cells (X:=X) (h:=h) (B:=B) (w:=w) hzs
    have hzl:zv.cells.size=zero.length:=by simpa using hzc.1
    obtain ⟨hlen,hparts⟩:=litOk_spec F zero.length hc2
    have hrep:∀ cs ∈ List.replicate len zero,cs.length=zero.length:=by
      intro cs hcs;rw [List.eq_of_mem_replicate hcs]
    obtain ⟨g1,g2,g3⟩:=fillL_V _ _ _ hrep hes
    have hzero:CellsV X h B w ((List.replicate len zero).flatten.map .d) ((Array.range (len * zero.length)).map (zv.cells[· % zv.cells.size]!)):=by
      refine ⟨by simp [flatten_len _ hrep],fun k v x hv hx=>?_⟩
      simp only [List.getElem?_map,Option.map_eq_some_iff] at hv
      obtain ⟨d,hd,rfl⟩:=hv
      simp only [Array.getElem?_map,Option.map_eq_some_iff] at hx
      obtain ⟨k',hk',rfl⟩:=hx
      obtain ⟨hk1,hk2⟩:=Array.getElem?_eq_some_iff.1 hk'
      simp only [Array.size_range] at hk1
      simp only [Array.getElem_range] at hk2
      subst hk2
      have hmod:k % zero.length<zero.length:=Nat.mod_lt _ hpos
      have hdec:k=(k / zero.length) * zero.length+k % zero.length:=by rw [Nat.mul_comm];exact (Nat.div_add_mod _ _).symm
      rw [hdec,flatten_get _ hrep _ _ hmod] at hd
      have hdiv:k / zero.length<len:=Nat.div_lt_of_lt_mul (by rw [Nat.mul_comm];exact hk1)
      rw [List.getElem?_replicate,if_pos hdiv] at hd
      simp only [Option.bind_some] at hd
      rw [hzl]
      have hx:zv.cells[k % zero.length]? = some zv.cells[k % zero.length]!:=by
        rw [getElem!_pos zv.cells _ (by omega)];exact Array.getElem?_eq_getElem (by omega)
      exact hzc.2 _ _ _ (by simp [hd]) hx
    obtain ⟨C',c1,c2⟩:=fill_ok _ _ (fun i=>some (i * zero.length,zero.length)) _ _ _ hlen hparts hzero g3
    have hle':¬16777216<len * i.size:=by rw [hsz];omega
    have hrun:(execOp a.eval o).run P w = .ok (.value (.slice (some ⟨w.heap.size,0,none⟩) len len)) (w.alloc (.cells C' el)):=by
      have c1':Instr.fill (fun i=>some (i * zero.length,zero.length)) ((Array.range (len * zero.length)).map (zv.cells[· % zv.cells.size]!)) (qs.toList.map fun x=>(x.1,a.eval x.2))=some C':=c1
      by_cases h0:len * zero.length=0
      · have hlen0:len=0:=by
          rcases Nat.mul_eq_zero.1 h0 with h | h
          · exact h
          · omega
        subst hlen0
        have hq:qs = #[]:=by
          cases hps:ps with
          | nil=>
            rw [hps] at hc2
            generalize hl:qs.toList=l at hc2
            cases l with
            | nil=>exact Array.toList_eq_nil_iff.1 hl
            | cons q r=>obtain ⟨qa,qb⟩:=q;simp [litOk] at hc2
          | cons p r=>
            rw [hps] at hes
            obtain ⟨pa,pb⟩:=p
            simp only [List.map_cons,List.replicate_zero] at hes
            generalize Opd.ev f pb=vv at hes
            cases vv with
            | d x=>cases x <;> simp [fillL] at hes
            | _=>simp [fillL] at hes
        subst hq
        have hC0:C' = #[]:=by
          have hr0:(Array.range (0 * zero.length)).map (zv.cells[· % zv.cells.size]!) = #[]:=by simp
          rw [hr0] at c1'
          simpa [Instr.fill,eq_comm] using c1'
        subst hC0
        simp [execOp,ho,Instr.buildSlice,run_underlying hu,Go.sizeOf,typeInfo,hi,hsz,newRow,Instr.fill]
        rw [show Array.range 0 = #[] from rfl]
        simp
      · have hb:=run_buildSlice (P:=P) w t el len (qs.map fun (i,x)=>(i,a.eval x)) C' i zv hu hi hzv (by rw [hsz];omega) (by rw [hsz];exact h0) (by rw [hsz];simpa using c1')
        simp [execOp,ho,hb]
    have T:=alloc_tr H (.cells C' el)
    refine ⟨_,_,_,B,hrun, .inl rfl,T, .of1 ?_⟩
    show RV1 X h B _ (if len=0 then V.z true else V.d (D.sl true es)) _
    by_cases hl0:len=0
    · rw [if_pos hl0,hl0];exact ⟨some _,rfl,rfl⟩
    rw [if_neg hl0]
    have hlen2:es.length=len:=by simpa using g2
    have:=rd_fresh H T (Nat.le_refl _) (heap_alloc (w:=w) (.cells C' el)) (es:=es) (sz:=zero.length) (cap:=len) (nn:=true) (.inl rfl) (by omega) g1 (fun i j d hij=>?_)
    · rw [hlen2] at this;exact this
    · unfold dAt at hij
      cases hei:es[i]? with
      | none=>simp [hei] at hij
      | some cs=>
        simp only [hei,Option.bind_some] at hij
        have hj:j<zero.length:=by
          have:=g1 cs (List.mem_of_getElem? hei)
          have:=(List.getElem?_eq_some_iff.1 hij).1
          omega
        have hfl:es.flatten[i * zero.length+j]? = some d:=by rw [flatten_get es g1 i j hj,hei];exact hij
        have hlt:=(List.getElem?_eq_some_iff.1 hfl).1
        have hcs:C'.size=es.flatten.length:=by rw [c2.1,List.length_map]
        have hC:C'[i * zero.length+j]? = some C'[i * zero.length+j]!:=by
          rw [getElem!_pos C' _ (by omega)];exact Array.getElem?_eq_getElem (by omega)
        obtain ⟨q1,q2⟩:=c2.2 _ (.d d) _ (by rw [List.getElem?_map,hfl];rfl) hC
        exact ⟨_,hC,q2,q1⟩
  · cases hc
end
end Go.Proofs.YtgmphfmoonbfpaaMv

set_option maxRecDepth 2000
namespace Go.Proofs.YtgmphfmoonbfpaaMv
open Go
section
variable {P:Program} {X:Nat→Prop} {h:Hp} {B:Gh} {w:World} {f:Fr} {a:Act} {call:FuncId→List V→Option V} {dst:Nat} {o:Oper} {e:Eff}
structure ElemsOk (w:World) (N:Nat→Prop) (sz:Nat) (x:Value) (es:List (List C)) (news:List Value):Prop where
  len:news.length=es.length * sz
  lens:∀ cs ∈ es,cs.length=sz
  cell:∀ i j c,cellAt es i j=some c→∃ d v,c = .d d∧news[i * sz+j]? = some v∧RD w N d v∧v.oneCell'=true
  one:∀ u ∈ news,u.oneCell'=true
  src:(x = .slice none 0 0∧es=[])∨(∃ ad c,x = .slice (some ad) es.length c ∧ ∀ j u,news[j]? = some u→w.cell? (ad.add j)=some u)∨(∃ s,x = .string s∧sz=1∧news=byteCells s∧es.length=s.size)
theorem table {sz:Nat} (n:Nat) (g:Nat→Nat→Value):∃ news:List Value,news.length=n * sz∧(∀ i j,i<n→j<sz→news[i * sz+j]? = some (g i j)) ∧ ∀ (k:Nat) (u:Value),news[k]? = some u→∃ i j,i<n∧j<sz∧k=i * sz+j∧u=g i j:=by
  refine ⟨(List.range (n * sz)).map fun k=>g (k / sz) (k % sz),by simp,fun i j hi hj=>?_,fun k u hu=>?_⟩
  · have hlt:=mul_lt_of (e:=i) (n:=n) (sz:=sz) (o:=j) hi hj
    have hpos:0<sz:=by omega
    rw [List.getElem?_map,List.getElem?_range hlt]
    simp only [Option.map_some]
    have h1:(i * sz+j) / sz=i:=by rw [Nat.mul_comm,Nat.mul_add_div hpos];simp [Nat.div_eq_of_lt hj]
    have h2:(i * sz+j) % sz=j:=by rw [Nat.mul_comm,Nat.mul_add_mod];exact Nat.mod_eq_of_lt hj
    rw [h1,h2]
  · simp only [List.getElem?_map,Option.map_eq_some_iff] at hu
    obtain ⟨k',hk',rfl⟩:=hu
    obtain ⟨h1,h2⟩:=List.getElem?_eq_some_iff.1 hk'
    simp only [List.length_range] at h1
    simp only [List.getElem_range] at h2
    subst h2
    have hpos:0<sz:=by
      rcases Nat.eq_zero_or_pos sz with hz | hz
      · subst hz;simp at h1
      · exact hz
    refine ⟨k / sz,k % sz,Nat.div_lt_of_lt_mul (by rw [Nat.mul_comm];exact h1),Nat.mod_lt _ hpos, ?_,rfl⟩
    rw [Nat.mul_comm];exact (Nat.div_add_mod _ _).symm
theorem allDs_get:∀ {es:List (List C)} {ds:List (List D)},allDs es=some ds→es=ds.map (·.map .d)
  | [],ds,h=>by simp [allDs] at h;subst h;rfl
  | cs::es,ds,h=>by
    simp only [allDs,Option.bind_eq_some_iff,Option.map_eq_some_iff] at h
    obtain ⟨x,hx,r,hr,rfl⟩:=h
    rw [allD_get hx,allDs_get hr];rfl
theorem cellAt_map {ds:List (List D)} {i j:Nat} {c:C} (hc:cellAt (ds.map (·.map .d)) i j=some c):∃ d,c = .d d∧dAt ds i j=some d:=by
  unfold cellAt at hc
  unfold dAt
  simp only [List.getElem?_map] at hc
  cases hi:ds[i]? with
  | none=>simp [hi] at hc
  | some cs=>
    simp only [hi,Option.map_some,Option.bind_some,List.getElem?_map,Option.map_eq_some_iff] at hc
    obtain ⟨d,hd,rfl⟩:=hc
    exact ⟨d,rfl,by simp [hd]⟩
theorem dAt_lt {ds:List (List D)} {i j:Nat} {d:D} (hd:dAt ds i j=some d):∃ cs,ds[i]? = some cs∧cs[j]? = some d:=by
  unfold dAt at hd
  cases hi:ds[i]? with
  | none=>simp [hi] at hd
  | some cs=>exact ⟨cs,rfl,by simpa [hi] using hd⟩
theorem elems_ok (H:HRel X h B w) {sz:Nat} {v:V} {x:Value} {es:List (List C)} {rd:List (Nat × Nat)} (hv:RV X h B w v x) (he:elems h sz v=some (es,rd)):∃ news,ElemsOk w (Forb X h B) sz x es news:=by
  unfold elems at he
  split at he
  · rename_i nn ds
    split at he
    · rename_i hall
      simp only [Option.some.injEq,Prod.mk.injEq] at he
      obtain ⟨rfl,_⟩:=he
      have hlens:∀ cs ∈ ds,cs.length=sz:=fun cs hcs=>by have:=List.all_eq_true.1 hall cs hcs;simpa using this
      have hlens':∀ cs ∈ ds.map (·.map C.d),cs.length=sz:=by
        intro cs hcs
        obtain ⟨cs',h1,rfl⟩:=List.mem_map.1 hcs
        simp [hlens cs' h1]
      cases hv with
      | slnil=>exact ⟨[],by simp,by simp,fun i j c hc=>by simp [cellAt] at hc,by simp, .inl ⟨rfl,rfl⟩⟩
      | sl _ _ ad sz' cap cvs q0 qcap qsz qN qc q1 qd=>
        obtain ⟨news,n1,n2,n3⟩:=table (sz:=sz) ds.length cvs
        have hin:∀ i j,i<ds.length→j<sz→∃ d,dAt ds i j=some d:=by
          intro i j hi hj
          have hl:=hlens ds[i] (List.getElem_mem _)
          exact ⟨ds[i][j]'(by omega),by simp [dAt,hi,hl,hj]⟩
        refine ⟨news,by simpa using n1,hlens',fun i j c hc=>?_,fun u hu=>?_, .inr (.inl ⟨ad,cap,by simp,fun j u hj=>?_⟩)⟩
        · obtain ⟨d,rfl,hd⟩:=cellAt_map hc
          obtain ⟨cs,h1,h2⟩:=dAt_lt hd
          have h3:=(List.getElem?_eq_some_iff.1 h1).1
          have h4:=(List.getElem?_eq_some_iff.1 h2).1
          have h5:=hlens cs (List.mem_of_getElem? h1)
          exact ⟨d,cvs i j,rfl,n2 i j h3 (by omega),qd _ _ _ hd,q1 _ _ _ hd⟩
        · obtain ⟨k,hk,rfl⟩:=List.mem_iff_getElem.1 hu
          obtain ⟨i,j,hi,hj,_,he⟩:=n3 k _ (List.getElem?_eq_getElem hk)
          obtain ⟨d,hd⟩:=hin i j hi hj
          rw [he];exact q1 _ _ _ hd
        · obtain ⟨i,j',hi,hj',rfl,rfl⟩:=n3 j u hj
          obtain ⟨d,hd⟩:=hin i j' hi hj'
          have:=qc _ _ _ hd
          have hsz:sz'=sz:=by
            have h1:=qsz ds[i] (List.getElem_mem _)
            have h2:=hlens ds[i] (List.getElem_mem _)
            omega
          rwa [hsz] at this
    · cases he
  · rename_i s
    split at he
    · rename_i hsz
      subst hsz
      simp only [Option.some.injEq,Prod.mk.injEq] at he
      obtain ⟨rfl,_⟩:=he
      obtain ⟨b,rfl,rfl⟩:=rd_str hv
      refine ⟨byteCells b,by rw [byteCells_length,Nat.mul_one,List.length_map,ba_size],by simp,fun i j c hc=>?_,fun u hu=>?_, .inr (.inr ⟨b,rfl,rfl,rfl,by rw [List.length_map,ba_size]⟩)⟩
      · obtain ⟨cs,h1,h2⟩:=cellAt_some hc
        simp only [List.getElem?_map,Option.map_eq_some_iff] at h1
        obtain ⟨y,hy,rfl⟩:=h1
        have hj:j=0:=by
          have:=(List.getElem?_eq_some_iff.1 h2).1
          simp at this;exact this
        subst hj
        simp at h2
        exact ⟨_, .int .u8 y.toNat,h2.symm,by simp [byteCells,hy], .int _ _,rfl⟩
      · obtain ⟨_,_,rfl⟩:=List.mem_map.1 hu;rfl
    · cases he
  · rename_i nn
    simp only [Option.some.injEq,Prod.mk.injEq] at he
    obtain ⟨rfl,_⟩:=he
    obtain ⟨ad,rfl,_⟩:=hv
    cases ad with
    | none=>exact ⟨[],by simp,by simp,fun i j c hc=>by simp [cellAt] at hc,by simp, .inl ⟨rfl,rfl⟩⟩
    | some ad=>exact ⟨[],by simp,by simp,fun i j c hc=>by simp [cellAt] at hc,by simp, .inr (.inl ⟨ad,0,rfl,fun j u hu=>by simp at hu⟩)⟩
  · rename_i u s p off n
    simp only [Option.bind_eq_some_iff] at he
    obtain ⟨r,hr,he⟩:=he
    have hnr:=row?_nd (h:=h) (u:=u) (s:=s) (p:=p) (r:=r) (by simpa [Option.bind_eq_some_iff] using hr)
    split at he
    · rename_i hcond
      obtain ⟨rfl,hds,hle⟩:=hcond
      simp only [Option.some.injEq,Prod.mk.injEq] at he
      obtain ⟨rfl,_⟩:=he
      obtain ⟨r0,g1,g2,g3⟩:=hv
      rw [g1] at hnr
      injection hnr with hnr;injection hnr with hnr;subst hnr
      obtain ⟨ds,hds⟩:=Option.isSome_iff_exists.1 hds
      have hdse:=allDs_get hds
      have hlen:((r0.es.drop off).take n).length=n:=by simp;omega
      rcases g3 with ⟨q1,q2,q3⟩ | ⟨hlive,ad,cap,arr,tt,fr,q1,q2,q3,q4,q5⟩
      · have:n=0:=by rw [q2] at g2;simp at g2;omega
        subst this
        exact ⟨[],by simp,by simp,fun i j c hc=>by simp [cellAt] at hc,by simp, .inl ⟨q3,by simp⟩⟩
      · obtain ⟨arr',t',fr',k1,k2,k3,k4,k5⟩:=H.node u s p _ g1 hlive
        rw [q1] at k1
        injection k1 with k1;injection k1 with k1 k1' k1'';subst k1;subst k1';subst k1''
        have hlens:∀ cs ∈ (r0.es.drop off).take n,cs.length=r0.sz:=fun cs hcs=>k3 cs (List.mem_of_mem_drop (List.mem_of_mem_take hcs))
        obtain ⟨news,n1,n2,n3⟩:=table (sz:=r0.sz) n (fun i j=>arr.getD ((off+i) * r0.sz+j) undef)
        have hcell:∀ i j,i<n→j<r0.sz→∃ d v,cellAt ((r0.es.drop off).take n) i j=some (.d d)∧arr[(off+i) * r0.sz+j]? = some v∧RD w (Forb X h B) d v∧v.oneCell'=true:=by
          intro i j hi hj
          have hlt:i<((r0.es.drop off).take n).length:=by omega
          have hcl:=hlens ((r0.es.drop off).take n)[i] (List.getElem_mem _)
          have hc:cellAt ((r0.es.drop off).take n) i j=some (((r0.es.drop off).take n)[i][j]'(by omega)):=by
            simp only [cellAt,List.getElem?_eq_getElem hlt,Option.bind_some]
            exact List.getElem?_eq_getElem _
          obtain ⟨c0,hc⟩:∃ c0,cellAt ((r0.es.drop off).take n) i j=some c0:=⟨_,hc⟩
          have hc2:=hc
          rw [hdse] at hc2
          obtain ⟨d,hcd,_⟩:=cellAt_map hc2
          subst hcd
          have hc3:cellAt r0.es (off+i) j=some (.d d):=by
            have hc':=hc
            unfold cellAt at hc' ⊢
            rw [List.getElem?_take,if_pos hi,List.getElem?_drop] at hc'
            exact hc'
          obtain ⟨v,hv1,hv2⟩:=k5 _ _ _ hc3
          exact ⟨d,v,hc,hv1,hv2.1,hv2.2⟩
        refine ⟨news,by rw [hlen];exact n1,hlens,fun i j c hc=>?_,fun u hu=>?_, .inr (.inl ⟨ad,cap,by rw [hlen];exact q4,fun j u hj=>?_⟩)⟩
        · obtain ⟨cs,h1,h2⟩:=cellAt_some hc
          have h3:=(List.getElem?_eq_some_iff.1 h1).1
          have h4:=(List.getElem?_eq_some_iff.1 h2).1
          have h5:=hlens cs (List.mem_of_getElem? h1)
          obtain ⟨d,v,m1,m2,m3,m4⟩:=hcell i j (by omega) (by omega)
          rw [hc] at m1
          injection m1 with m1
          refine ⟨d,v,m1, ?_,m3,m4⟩
          rw [n2 i j (by omega) (by omega)]
          simp [m2]
        · obtain ⟨k,hk,rfl⟩:=List.mem_iff_getElem.1 hu
          obtain ⟨i,j,hi,hj,_,he⟩:=n3 k _ (List.getElem?_eq_getElem hk)
          obtain ⟨d,v,m1,m2,m3,m4⟩:=hcell i j hi hj
          rw [he]
          simp [m2,m4]
        · obtain ⟨i,j',hi,hj',rfl,rfl⟩:=n3 j u hj
          obtain ⟨d,v,m1,m2,m3,m4⟩:=hcell i j' hi hj'
          rw [q5 (by omega),add_at]
          have:off * r0.sz+(i * r0.sz+j')=(off+i) * r0.sz+j':=by rw [Nat.add_mul];omega
          simp [World.cell?,q1,this,m2]
    · cases he
  · cases he
theorem ElemsOk.toSrc {N:Nat→Prop} {sz:Nat} {x:Value} {es:List (List C)} {news:List Value} (E:ElemsOk w N sz x es news) {tx:TypeId} (hk:(∃ e',P.underlying tx=some (.slice e'))∨P.underlying tx=some .string):Src P sz tx x es.length news w:=by
  rcases E.src with ⟨rfl,he⟩ | ⟨ad,c,rfl,hc⟩ | ⟨s,rfl,rfl,rfl,hl⟩
  · subst he
    have hn:news=[]:=List.length_eq_zero_iff.1 (by simpa using E.len)
    subst hn
    exact ⟨hk,fun _=>rfl,run_firstCells_none w sz 0 0 0,run_firstCells_none w.drew sz 0 0 0,by simp,E.one⟩
  · exact ⟨hk,fun _=>rfl,run_firstCells_some w sz es.length ad es.length c news E.len hc,run_firstCells_some w.drew sz es.length ad es.length c news E.len (by simpa using hc),E.len,E.one⟩
  · rw [hl]
    exact ⟨hk,fun _=>rfl,firstCells_string s w,firstCells_string s w.drew,by rw [byteCells_length,Nat.mul_one],E.one⟩
end
end Go.Proofs.YtgmphfmoonbfpaaMv

set_option maxRecDepth 2000
namespace Go.Proofs.YtgmphfmoonbfpaaMv
open Go
section
variable {P:Program} {X:Nat→Prop} {h:Hp} {B:Gh} {w:World} {f:Fr} {a:Act} {call:FuncId→List V→Option V} {dst:Nat} {o:Oper} {e:Eff}
theorem strOf_get:∀ {ds:List (List D)} {l:List UInt8},strOf ds=some l→∃ ns:List Int,ds=ns.map (fun n=>[.int .u8 n])∧l=ns.map fun n=>UInt8.ofNat n.toNat
  | [],l,h=>by simp [strOf] at h;subst h;exact ⟨[],rfl,rfl⟩
  | d::ds,l,h=>by
    unfold strOf at h
    split at h
    · rename_i heq;cases heq
    · rename_i n r heq
      cases heq
      simp only [Option.map_eq_some_iff] at h
      obtain ⟨l',hl',rfl⟩:=h
      obtain ⟨ns,h1,h2⟩:=strOf_get hl'
      exact ⟨n::ns,by simp [h1],by simp [h2]⟩
    · cases h
theorem eff_cvbs (H:HRel X h B w) (F:FRel X h B w f a) {x:Opd} (he:eff call f h dst (.cvbs x)=some e) (hc:chk P o.op o.type (.cvbs x)=true):EffOk P X h B w (execOp a.eval o) e:=by
  simp only [eff] at he
  split at he
  · cases he
  rename_i hnstr
  simp only [Option.bind_eq_some_iff,Option.map_eq_some_iff] at he
  obtain ⟨⟨es,rd⟩,hel,ds,hds,l,hl,rfl⟩:=he
  simp only [chk] at hc
  split at hc
  · rename_i s d y ho
    simp only [Bool.and_eq_true] at hc
    obtain ⟨⟨h1,h2⟩,h3⟩:=hc
    obtain ⟨e0,he0,h4⟩:=opt_any h2
    have hu:=isStr_spec h1
    have hus:=sliceElem_spec he0
    have hue:=isInt_spec h4
    obtain ⟨news,E⟩:=elems_ok H (opd_ok F h3) hel
    obtain ⟨ns,hns,rfl⟩:=strOf_get hl
    have hdse:es=ds.map (·.map C.d):=allDs_get hds
    have hlen:es.length=ns.length:=by rw [hdse,List.length_map,hns,List.length_map]
    have hnews:news=ns.map (Value.int .u8):=by
      apply List.ext_getElem?
      intro j
      by_cases hj:j<ns.length
      · have hc:cellAt es j 0=some (.d (.int .u8 ns[j])):=by
          rw [hdse,hns]
          simp [cellAt,hj]
        obtain ⟨d',v,h5,h6,h7,h8⟩:=E.cell j 0 _ hc
        injection h5 with h5
        subst h5
        rw [rd_int h7] at h6
        rw [Nat.mul_one,Nat.add_zero] at h6
        rw [h6];simp [hj]
      · rw [List.getElem?_eq_none (by rw [E.len];omega),List.getElem?_eq_none (by simp;omega)]
    have fin:∀ {s':ByteArray},(convert s d (a.eval y)).run P w = .ok (.string s') w→s'.data.toList=ns.map (fun n=>UInt8.ofNat n.toNat)→EffOk P X h B w (execOp a.eval o) { v:=.d (.str (ns.map fun n=>UInt8.ofNat n.toNat)),rd }:=by
      intro s' g1 g2
      exact eff_pure H (cv:=.string s') (by simp [execOp,ho,g1]) (.of1 (rd_str_mk _ _ g2))
    rcases E.src with ⟨hx,he⟩ | ⟨ad,c,hx,hcc⟩ | ⟨s',hx,_,_,_⟩
    · rw [he] at hlen
      have:ns=[]:=List.length_eq_zero_iff.1 (by simpa using hlen.symm)
      subst this
      rw [hx] at fin
      exact fin (run_convert_bytes_nil (P:=P) w s e0 hus hue 0 0 d hu) rfl
    · rw [hx] at fin
      have hld:=run_loadCells_list (P:=P) w ad news hcc
      have hnl:news.length=es.length:=by rw [E.len];omega
      rw [hnl,hnews] at hld
      refine fin (s':=ns.foldl (fun r n=>r.push (UInt8.ofNat n.toNat)) ByteArray.empty) ?_ ?_
      · rw [run_convert_bytes_string w s d e0 _ _ c hus hue hu,run_bytesToString w _ _ c ns hld]
      · rw [foldl_push_bytes];simp
    · -- a string is no slice
      exfalso
      have hv:=opd_ok F h3
      rw [hx] at hv
      unfold elems at hel
      split at hel
      · rename_i hh;rw [hh] at hv;cases hv
      · rename_i l' hh
        exact hnstr l' hh
      · rename_i hh;rw [hh] at hv;obtain ⟨ad,h1,_⟩:=hv;cases h1
      · rename_i hh;rw [hh] at hv;obtain ⟨r,_,h2,h3⟩:=hv;obtain ⟨ad,cap,h4,_⟩:=hdr_form h3 h2;cases h4
      · cases hel
  · cases hc
theorem eff_cvsb (H:HRel X h B w) (F:FRel X h B w f a) {x:Opd} (he:eff call f h dst (.cvsb x)=some e) (hc:chk P o.op o.type (.cvsb x)=true):EffOk P X h B w (execOp a.eval o) e:=by
  simp only [eff] at he
  simp only [chk] at hc
  split at hc
  · rename_i s d y ho
    simp only [Bool.and_eq_true] at hc
    obtain ⟨⟨h1,h2⟩,h3⟩:=hc
    obtain ⟨e0,he0,h4⟩:=opt_any h2
    have hu:=isStr_spec h1
    have hus:=sliceElem_spec he0
    have hue:=isInt_spec h4
    split at he
    · rename_i l hx
      simp only [Option.some.injEq] at he
      subst he
      obtain ⟨b,hb,rfl⟩:=rd_str (opd_d F h3 hx)
      obtain ⟨cap,hcapd⟩:∃ cap,(Question.appendCap b.size 0 e0).cut (w.tape w.drawn (.appendCap b.size 0 e0))=cap:=⟨_,rfl⟩
      have hcap:b.size≤cap:=by rw [←hcapd];exact Nat.le_add_right _ _
      obtain ⟨C,hCd⟩:∃ C:Array Value,(b.data.map fun y=>Value.int .u8 y.toNat)++Array.replicate (cap - b.size) (Value.int .u8 0)=C:=⟨_,rfl⟩
      obtain ⟨w2,hw2⟩:∃ w2:World,({ heap:=w.heap.push (.cells C e0),tape:=w.tape,drawn:=w.drawn+1,os:=w.os,output:=w.output }:World)=w2:=⟨_,rfl⟩
      obtain ⟨w',hw'⟩:∃ w':World,w2.freeze { block:=w.heap.size,off:=C.size } 1=w':=⟨_,rfl⟩
      have hfz:w'.heap=w2.heap.modify w.heap.size fun
          | .cells c elem (lo,hi)=>.cells c elem (if lo==hi then (C.size,C.size+1) else (min lo C.size,max hi (C.size+1)))
          | o=>o:=by rw [←hw'];rfl
      have hpar:w'.os=w.os∧w'.tape=w.tape∧w'.output=w.output:=by rw [←hw',←hw2];exact ⟨rfl,rfl,rfl⟩
      have hheap:∀ k,k<w.heap.size→w'.heap[k]? = w.heap[k]?:=by
        intro k hk
        rw [hfz,Array.getElem?_modify,if_neg (by omega),←hw2]
        show (w.heap.push _)[k]? = _
        rw [Array.getElem?_push,if_neg (by omega)]
      have hnew:∃ fr,w'.heap[w.heap.size]? = some (.cells C e0 fr):=by
        rw [hfz,Array.getElem?_modify,if_pos rfl,←hw2]
        show ∃ fr,((w.heap.push _)[w.heap.size]?).map _=_
        rw [Array.getElem?_push,if_pos rfl]
        exact ⟨_,rfl⟩
      have hsize:w.heap.size≤w'.heap.size:=by
        obtain ⟨fr,hn⟩:=hnew
        exact Nat.le_of_lt (Array.getElem?_eq_some_iff.1 hn).1
      have T:Tr X h B w [] h B w':=tr_world H hpar.1 hpar.2.1 hpar.2.2 hsize hheap
      have hrun:(execOp a.eval o).run P w = .ok (.value (.slice (some ⟨w.heap.size,0,none⟩) b.size cap)) w':=by
        have hsh:w2.shape? w.heap.size=some (e0,C.size):=by
          rw [←hw2]
          simp [World.shape?]
        have:(Conv.stringToBytes e0 b).run P w = .ok (.slice (some ⟨w.heap.size,0,none⟩) b.size cap) w':=by
          unfold Conv.stringToBytes
          simp only [Sem.run_bind,run_choose,Question.forced,Bool.false_eq_true,if_false,Result.andThen_ok,newRow,run_newObj,Sem.run_pure,markStringish,run_shape,hcapd,hCd,hw2,hsh,run_freeze,hw']
        simp [execOp,ho,hb,convert,run_underlying hu,run_underlying hus,run_underlying hue,this]
      obtain ⟨fr,hn⟩:=hnew
      have hlen:((b.data.toList.map fun y=>[D.int .u8 y.toNat])).length=b.size:=by rw [List.length_map,ba_size]
      refine ⟨_,_,w',B,hrun, .inl rfl,T, .of1 ?_⟩
      have:=rd_fresh H T (Nat.le_refl _) hn (es:=b.data.toList.map fun y=>[D.int .u8 y.toNat]) (sz:=1) (cap:=cap) (nn:=true) (.inl rfl) (by rw [hlen];exact hcap) (fun cs hcs=>by obtain ⟨_,_,rfl⟩:=List.mem_map.1 hcs;rfl) (fun i j d hij=>?_)
      · rw [hlen] at this;exact this
      · obtain ⟨cs,g1,g2⟩:=dAt_lt hij
        simp only [List.getElem?_map,Option.map_eq_some_iff] at g1
        obtain ⟨y',hy,rfl⟩:=g1
        have hj:j=0:=by have:=(List.getElem?_eq_some_iff.1 g2).1;simpa using this
        subst hj
        simp at g2
        subst g2
        refine ⟨.int .u8 y'.toNat, ?_,rfl, .int _ _⟩
        have hlt:=(List.getElem?_eq_some_iff.1 hy).1
        rw [←hCd,Array.getElem?_append_left (by simpa using hlt)]
        simp [←Array.getElem?_toList,hy]
    · cases he
  · cases hc
end
end Go.Proofs.YtgmphfmoonbfpaaMv

set_option maxRecDepth 2000
namespace Go.Proofs.YtgmphfmoonbfpaaMv
open Go
theorem ownGo_get (own:List (Nat × Nat)):∀ (cs:List C) (k i:Nat),(ownGo own k cs)[i]? = (cs[i]?).map (own1 own (k+i))
  | [],k,i=>by simp [ownGo]
  | c::cs,k,0=>by simp [ownGo]
  | c::cs,k,i+1=>by
    simp only [ownGo,List.getElem?_cons_succ]
    rw [ownGo_get own cs (k+1) i,show k+1+i=k+(i+1) by omega]
theorem own1_nil (i:Nat) (c:C):own1 [] i c=c:=by
  unfold own1
  split
  · simp [ownSz]
  · rfl
theorem ownify_get (own:List (Nat × Nat)) (cs:List C) (i:Nat):(ownify own cs)[i]? = (cs[i]?).map (own1 own i):=by
  unfold ownify
  split
  · rename_i h
    have:own=[]:=by simpa using h
    subst this
    cases cs[i]? <;> simp [own1_nil]
  · rw [ownGo_get,Nat.zero_add]
theorem ownGo_length (own:List (Nat × Nat)):∀ (cs:List C) (k:Nat),(ownGo own k cs).length=cs.length
  | [],_=>rfl
  | c::cs,k=>by simp [ownGo,ownGo_length own cs (k+1)]
theorem ownify_length (own:List (Nat × Nat)) (cs:List C):(ownify own cs).length=cs.length:=by
  unfold ownify;split <;> simp [ownGo_length]
theorem own1_of {own:List (Nat × Nat)} {i:Nat} {c:C}:own1 own i c=c∨(c = .d (.sl false []) ∧ ∃ sz,own1 own i c = .own sz false []):=by
  unfold own1
  split
  · split
    · exact .inr ⟨rfl,_,rfl⟩
    · exact .inl rfl
  · exact .inl rfl
section
variable {P:Program} {X:Nat→Prop} {h:Hp} {B:Gh} {w:World} {f:Fr} {a:Act} {call:FuncId→List V→Option V} {dst:Nat} {o:Oper} {e:Eff}
theorem heap_alloc_lt (ob:Obj):∀ b,b<w.heap.size→(w.alloc ob).heap[b]? = w.heap[b]?:=fun b hb=>by
  show (w.heap.push ob)[b]? = _
  rw [Array.getElem?_push,if_neg (by omega)]
theorem new_row (H:HRel X h B w) (d:Nat) (fx:Bool) (r:Row) {C0:Array Value} {t:TypeId} (hnn:r.nn=true) (hlens:∀ cs ∈ r.es,cs.length=r.sz) (hsz:C0.size=r.es.length * r.sz)
    (hcell:∀ e1 o1 c,cellAt r.es e1 o1=some c→c.plain ∧ ∃ v,C0[e1 * r.sz+o1]? = some v∧(∀ x,c = .d x→RD w (Forb X h B) x v∧v.oneCell'=true)∧(∀ sz nn es,c = .own sz nn es→v = .slice none 0 0)) :
    Tr X h B w [.root 0 d] (hset h 0 d (some (.row fx r.sz r.nn r.es))) (gset B 0 d [] w.heap.size) (w.alloc (.cells C0 t)):=by
  refine tr_new H 0 d (.row fx r.sz r.nn r.es) (.row r) w.heap.size (fun q n hq hl=>ndGo_plain (r:=r) (fun e1 o1 c hc=>(hcell e1 o1 c hc).1) hq hl) rfl rfl rfl (by simp) (heap_alloc_lt _) (Nat.le_refl _) (fun _ N' hN=>?_)
  refine ⟨C0,t,(0,0),by rw [gset_same];exact heap_alloc _,fun i _=>by omega,hlens,by omega,fun e1 o1 c hc=>?_⟩
  obtain ⟨h1,v,h2,h3,h4⟩:=hcell e1 o1 c hc
  refine ⟨v,h2, ?_⟩
  cases c with
  | d x=>exact ⟨hN _ _ (h3 x rfl).1,(h3 x rfl).2⟩
  | own sz nn es=>
    obtain ⟨rfl,rfl⟩:=h1
    exact .inl ⟨rfl,rfl,h4 sz _ _ rfl⟩
  | mp es=>exact h1.elim
  | bad=>trivial
theorem ptr_new {d:Nat} {fx:Bool} {r:Row} {b:Nat} {w':World} (hl:0<r.es.length):RV1 X (hset h 0 d (some (.row fx r.sz r.nn r.es))) (gset B 0 d [] b) w' (.ptr 0 d [] 0 0) (.pointer (some ⟨b,0,none⟩)):=
  ⟨r,by rw [nd_hset_same];rfl,hl,by rw [gset_same];simp⟩
theorem cellIs_spec {v:Value} {c:C} (hc:cellIs v c=true) (N:Nat→Prop):c.plain∧(∀ x,c = .d x→RD w N x v∧v.oneCell'=true)∧(∀ sz nn es,c = .own sz nn es→v = .slice none 0 0):=by
  unfold cellIs at hc
  split at hc
  · rename_i x
    exact ⟨trivial,fun y hy=>by cases hy;exact scalarIs_rd hc w N,fun sz nn es hy=>by cases hy⟩
  · exact ⟨⟨rfl,rfl⟩,(fun y hy=>by cases hy),fun _ _ _ _=>rfl⟩
  · cases hc
theorem cellsAre_get:∀ {vs:List Value} {cs:List C},cellsAre vs cs=true→vs.length=cs.length ∧ ∀ (i:Nat) (v:Value) (c:C),vs[i]? = some v→cs[i]? = some c→cellIs v c=true
  | [],[],_=>⟨rfl,fun i v d h=>by simp at h⟩
  | v::vs,d::ds,h=>by
    simp only [cellsAre,Bool.and_eq_true] at h
    obtain ⟨h1,h2⟩:=cellsAre_get h.2
    refine ⟨by simp [h1],fun i v' d' hv hd=>?_⟩
    cases i with
    | zero=>simp at hv hd;subst hv;subst hd;exact h.1
    | succ i=>exact h2 i v' d' (by simpa using hv) (by simpa using hd)
  | [],_::_,h=>by simp [cellsAre] at h
  | _::_,[],h=>by simp [cellsAre] at h
theorem cellAt_single {cs:List C} {e1 o1:Nat} {c:C} (hc:cellAt [cs] e1 o1=some c):e1=0∧cs[o1]? = some c:=by
  unfold cellAt at hc
  cases e1 with
  | zero=>exact ⟨rfl,by simpa using hc⟩
  | succ e1=>simp at hc
theorem eff_alloc (H:HRel X h B w) {cs:List C} (he:eff call f h dst (.alloc cs)=some e) (hc:chk P o.op o.type (.alloc cs)=true):EffOk P X h B w (execOp a.eval o) e:=by
  simp only [eff,Option.some.injEq] at he
  subst he
  simp only [chk] at hc
  split at hc
  · rename_i t ho
    obtain ⟨i,hi,h1⟩:=opt_any hc
    obtain ⟨zv,hz,h2⟩:=opt_any h1
    obtain ⟨g1,g2⟩:=cellsAre_get h2
    have T:=new_row H dst true ⟨cs.length,true,[cs]⟩ (C0:=zv.cells) (t:=t) rfl (by simp) (by simpa using g1) (fun e1 o1 c hc=>by
      obtain ⟨rfl,hc'⟩:=cellAt_single hc
      have hlt:=(List.getElem?_eq_some_iff.1 hc').1
      have hv:zv.cells.toList[o1]? = some zv.cells.toList[o1]:=List.getElem?_eq_getElem (by omega)
      obtain ⟨p1,p2,p3⟩:=cellIs_spec (w:=w) (g2 _ _ _ hv hc') (Forb X h B)
      exact ⟨p1,_,by rw [Nat.zero_mul,Nat.zero_add,←Array.getElem?_toList];exact hv,p2,p3⟩)
    refine ⟨_,_,_,_, ?_, .inl rfl,T, .of1 (ptr_new (r:=⟨cs.length,true,[cs]⟩) Nat.one_pos)⟩
    simp [execOp,ho,Instr.alloc,zeroValue,typeInfo,hi,hz,newVar,newRow]
  · cases hc
theorem eff_mkrow (H:HRel X h B w) {sz:Nat} (he:eff call f h dst (.mkrow sz)=some e) (hc:chk P o.op o.type (.mkrow sz)=true):EffOk P X h B w (execOp a.eval o) e:=by
  simp only [eff,Option.some.injEq] at he
  subst he
  have hrun:(execOp a.eval o).run P w = .ok (.value (.slice none 0 0)) w:=by
    simp only [chk] at hc
    split at hc
    · rename_i ho;simp [execOp,ho,Act.eval]
    · rename_i ho;simp [execOp,ho,Act.eval]
    · cases hc
  have T:=tr_new H 0 dst (.row false sz false []) (.row ⟨sz,false,[]⟩) w.heap.size (w':=w) (fun q n hq hl=>ndGo_plain (r:=⟨sz,false,[]⟩) (fun e1 o1 c hc=>by simp [cellAt] at hc) hq hl) rfl rfl rfl (Nat.le_refl _) (fun _ _=>rfl) (Nat.le_refl _) (fun hl _ _=>by simp [Nd.live] at hl)
  exact ⟨_,_,_,_,hrun, .inl rfl,T, .of1 ⟨⟨sz,false,[]⟩,by show nd (hset h 0 dst _) 0 dst []=_;rw [nd_hset_same];rfl,by simp, .inl ⟨rfl,rfl,rfl⟩⟩⟩
theorem eff_mkmap (H:HRel X h B w) (he:eff call f h dst .mkmap=some e) (hc:chk P o.op o.type .mkmap=true):EffOk P X h B w (execOp a.eval o) e:=by
  simp only [eff,Option.some.injEq] at he
  subst he
  simp only [chk] at hc
  split at hc
  · rename_i t ho
    have T:=tr_new H 0 dst (.map []) (.map []) w.heap.size (w':=w.alloc (.map #[] 0)) (fun q n hq _=>by
        cases q with
        | nil=>simp [Ob.nd?] at hq;exact ⟨rfl,hq.symm⟩
        | cons x q=>simp [Ob.nd?] at hq) rfl rfl rfl (by simp) (heap_alloc_lt _) (Nat.le_refl _) (fun _ N' _=>⟨#[],0,by rw [gset_same];exact heap_alloc _,trivial⟩)
    refine ⟨_,_,_,_, ?_, .inl rfl,T, .of1 ⟨[],by show nd (hset h 0 dst _) 0 dst []=_;rw [nd_hset_same];rfl,by show _=Value.map (some (gset B 0 dst [] w.heap.size 0 dst []));rw [gset_same]⟩⟩
    simp [execOp,ho,Instr.makeMap]
  · cases hc
theorem eff_mkrows (H:HRel X h B w) (F:FRel X h B w f a) {zero:List D} {bytes:Nat} {n:Opd} (he:eff call f h dst (.mkrows zero bytes n)=some e) (hc:chk P o.op o.type (.mkrows zero bytes n)=true):EffOk P X h B w (execOp a.eval o) e:=by
  simp only [eff,Option.bind_eq_some_iff] at he
  obtain ⟨k,hk,he⟩:=he
  split at he
  · rename_i hroom
    simp only [Option.some.injEq] at he
    subst he
    simp only [chk] at hc
    split at hc
    · rename_i t l c ho
      simp only [Bool.and_eq_true] at hc
      obtain ⟨h1,h2,h3⟩:=hc
      obtain ⟨el,hel,h4⟩:=opt_any h3
      simp only [Bool.and_eq_true,decide_eq_true_eq] at h4
      obtain ⟨hs,hz,hb,hpos,hbp⟩:=h4
      have hu:=sliceElem_spec hel
      obtain ⟨i,zv,hi,hzv,hzs⟩:=zeroIs_spec hz
      obtain ⟨i',hi',hsz⟩:=sizeIs_spec hs
      rw [hi] at hi';injection hi' with hi';subst hi'
      have hby:i.bytes=bytes:=by
        unfold bytesIs at hb
        simpa [hi] using hb
      obtain ⟨kd,hkd⟩:=dnat_spec hk
      have hl:=rd_int (opd_d F h1 hkd)
      have hcv:=rd_int (opd_d F h2 hkd)
      obtain ⟨z1,z2⟩:=scalarsAre_get hzs
      have hbig:i.bytes * k≤140737488355328:=by rw [hby];exact hroom
      have hsz':zv.cells.size=zero.length:=by simpa using z1
      have hk63:k≤9223372036854775807:=by
        have:k≤i.bytes * k:=Nat.le_mul_of_pos_left _ (by rw [hby];exact hbp)
        omega
      have hrun:=run_make (P:=P) w t el i zv hu hi hzv kd kd (k:Int) (k:Int) (by omega) (Int.le_refl _) (by
        have:((i.bytes * k:Nat):Int)≤281474976710656:=by omega
        simpa using this) (by omega)
      have T:=new_row H dst false ⟨zero.length,true,List.replicate k (zero.map .d)⟩ (C0:=madeCells zv.cells (k * i.size)) (t:=el) rfl (by simp) (by simp [size_madeCells,hsz]) (fun e1 o1 c hc'=>by
        unfold cellAt at hc'
        simp only [Option.bind_eq_some_iff,List.getElem?_replicate,List.getElem?_map,Option.map_eq_some_iff] at hc'
        obtain ⟨cs,hcs,hc'⟩:=hc'
        split at hcs
        · rename_i hlt
          injection hcs with hcs
          subst hcs
          simp only [List.getElem?_map,Option.map_eq_some_iff] at hc'
          obtain ⟨d,hd,rfl⟩:=hc'
          have ho1:=(List.getElem?_eq_some_iff.1 hd).1
          have hv:zv.cells.toList[o1]? = some zv.cells.toList[o1]:=List.getElem?_eq_getElem (by simp;omega)
          obtain ⟨p1,p2⟩:=scalarIs_rd (z2 _ _ _ hv hd) w (Forb X h B)
          have hlt2:=mul_lt_of (sz:=zero.length) hlt ho1
          refine ⟨trivial,zv.cells.toList[o1], ?_,fun x hx=>?_,fun _ _ _ hx=>by cases hx⟩
          · rw [hsz]
            simp only [madeCells]
            rw [Array.getElem?_map,Array.getElem?_range,if_pos hlt2]
            simp only [Option.map_some,Option.some.injEq]
            rw [hsz',Nat.add_comm,Nat.add_mul_mod_self_right,Nat.mod_eq_of_lt ho1]
            rw [getElem!_pos _ _ (by omega)]
            simp
          · cases hx;exact ⟨p1,p2⟩
        · cases hcs)
      refine ⟨_,_,_,_, ?_, .inl rfl,T, .of1 ⟨⟨zero.length,true,List.replicate k (zero.map .d)⟩,by show nd (hset h 0 dst _) 0 dst []=_;rw [nd_hset_same];rfl,by simp, .inr ⟨.inl rfl,⟨w.heap.size,0,none⟩,k,madeCells zv.cells (k * i.size),el,(0,0), ?_,by simp [size_madeCells,hsz],Nat.le_refl _,rfl,fun _=>by simp [gset_same]⟩⟩⟩
      · simp [execOp,ho,hl,hcv,hrun]
      · show (w.alloc _).heap[gset B 0 dst [] w.heap.size 0 dst []]? = _
        rw [gset_same];exact heap_alloc _
    · cases hc
  · cases he
end
end Go.Proofs.YtgmphfmoonbfpaaMv

set_option maxRecDepth 2000
namespace Go.Proofs.YtgmphfmoonbfpaaMv
open Go
def CAbs (h:Hp) (s:Nat) (c:C) (v:V):Prop:=
  (∃ sz nn es,h 0 s=some (.row false sz nn es)∧c = .own sz nn es∧v = .msl 0 s [] 0 es.length)∨(∃ es,h 0 s=some (.map es)∧c = .mp es∧v = .mp 0 s none)
theorem CAbs.nd {h:Hp} {s:Nat} {c:C} {v:V} (H:CAbs h s c v):∃ ob0,h 0 s=some ob0∧(∀ q,ndC c q=ob0.nd? q) ∧ ¬c.flat:=by
  rcases H with ⟨sz,nn,es,h1,rfl,_⟩ | ⟨es,h1,rfl,_⟩
  · exact ⟨_,h1,fun q=>rfl,id⟩
  · exact ⟨_,h1,fun q=>by cases q <;> rfl,id⟩
theorem CAbs.rc {X:Nat→Prop} {h:Hp} {B:Gh} {w:World} {s:Nat} {c:C} {v:V} {x:Value} (H:CAbs h s c v) (hv:RV1 X h B w v x):RC (Forb X h B) w (B 0 s []) c x∧x.oneCell'=true:=by
  rcases H with ⟨sz,nn,es,h1,rfl,rfl⟩ | ⟨es,h1,rfl,rfl⟩
  · obtain ⟨r,hr,hle,hh⟩:=hv
    simp only [YtgmphfmoonbfpaaMv.nd,h1,Option.bind_some,Ob.nd?,ndGo,Option.some.injEq,Nd.row.injEq] at hr
    subst hr
    refine ⟨hh, ?_⟩
    rcases hh with ⟨_,_,rfl⟩ | ⟨_,a,cap,arr,t,fr,_,_,_,rfl,_⟩ <;> rfl
  · obtain ⟨es',hr,rfl⟩:=hv
    exact ⟨rfl,rfl⟩
section
variable {P:Program} {X:Nat→Prop} {h:Hp} {B:Gh} {w:World} {f:Fr} {a:Act} {call:FuncId→List V→Option V} {dst:Nat} {o:Oper} {e:Eff}
def CSrc (X:Nat→Prop) (h:Hp) (B:Gh) (w:World) (c:C) (x:Value):Prop:=∃ d,c = .d d∧RD w (Forb X h B) d x∧x.oneCell'=true
def CellsSp (X:Nat→Prop) (h:Hp) (B:Gh) (w:World) (a:List Nat) (cs:List C) (xs:List Value):Prop:=
  cs.length=xs.length ∧
  ((a=[] ∧ ∀ (i:Nat) c x,cs[i]? = some c→xs[i]? = some x→CSrc X h B w c x) ∨
   (∃ s,∃ (i0:Nat),∃ c0 v0 x0,a=[s]∧cs[i0]? = some c0∧xs[i0]? = some x0∧CAbs h s c0 v0∧RV1 X h B w v0 x0 ∧ ∀ (i:Nat) c x,i≠i0→cs[i]? = some c→xs[i]? = some x→CSrc X h B w c x) ∨
   2≤a.length)
theorem toCell_spec {v:V} {x:Value} {c:C} {l:List Nat} (hv:RV1 X h B w v x) (ht:toCell h v=some (c,l)):(l=[]∧CSrc X h B w c x)∨(∃ s,l=[s]∧CAbs h s c v):=by
  unfold toCell at ht
  split at ht
  · cases ht
  · rename_i d hd
    simp only [Option.some.injEq,Prod.mk.injEq] at ht
    obtain ⟨rfl,rfl⟩:=ht
    exact .inl ⟨rfl,_,rfl,hv,hv.one hd⟩
  · rename_i s n
    split at ht
    · rename_i sz nn es ho
      split at ht
      · rename_i hn
        simp only [Option.some.injEq,Prod.mk.injEq] at ht
        obtain ⟨rfl,rfl⟩:=ht
        exact .inr ⟨s,rfl, .inl ⟨sz,nn,es,ho,rfl,by rw [hn]⟩⟩
      · cases ht
    · cases ht
  · rename_i s
    split at ht
    · rename_i es ho
      simp only [Option.some.injEq,Prod.mk.injEq] at ht
      obtain ⟨rfl,rfl⟩:=ht
      exact .inr ⟨s,rfl, .inr ⟨es,ho,rfl,rfl⟩⟩
    · cases ht
  · cases ht
theorem toCells_spec:∀ {vs:List V} {xs:List Value} {cs:List C} {l:List Nat},vs.length=xs.length→(∀ (i:Nat) (v:V) (x:Value),vs[i]? = some v→xs[i]? = some x→RV1 X h B w v x)→toCells h vs=some (cs,l) →
    cs.length=vs.length∧CellsSp X h B w l cs xs
  | [],xs,cs,l,hl,_,ht=>by
    simp only [toCells,Option.some.injEq,Prod.mk.injEq] at ht
    obtain ⟨rfl,rfl⟩:=ht
    cases xs with
    | nil=>exact ⟨rfl,rfl, .inl ⟨rfl,fun i c x h=>by simp at h⟩⟩
    | cons=>simp at hl
  | v::vs,[],cs,l,hl,_,ht=>by simp at hl
  | v::vs,x::xs,cs,l,hl,hr,ht=>by
    simp only [toCells,Option.bind_eq_some_iff,Option.map_eq_some_iff,Prod.exists] at ht
    obtain ⟨c,l1,h1,cs',l2,h2,h3⟩:=ht
    simp only [Prod.mk.injEq] at h3
    obtain ⟨rfl,rfl⟩:=h3
    have hx:=hr 0 v x rfl rfl
    obtain ⟨i1,i2,i3⟩:=toCells_spec (vs:=vs) (xs:=xs) (by simpa using hl) (fun i v x hv hx=>hr (i+1) v x hv hx) h2
    refine ⟨by simp [i1],by simp [i2], ?_⟩
    rcases toCell_spec hx h1 with ⟨rfl,k1⟩ | ⟨s,rfl,k1⟩
    · rcases i3 with ⟨rfl,i3⟩ | ⟨s,i0,c0,v0,x0,rfl,g1,g2,g3,g4,g5⟩ | i3
      · refine .inl ⟨rfl,fun i c' x' hc' hx'=>?_⟩
        cases i with
        | zero=>simp at hc' hx';subst hc';subst hx';exact k1
        | succ i=>exact i3 i c' x' (by simpa using hc') (by simpa using hx')
      · refine .inr (.inl ⟨s,i0+1,c0,v0,x0,rfl,by simpa using g1,by simpa using g2,g3,g4,fun i c' x' hne hc' hx'=>?_⟩)
        cases i with
        | zero=>simp at hc' hx';subst hc';subst hx';exact k1
        | succ i=>exact g5 i c' x' (by omega) (by simpa using hc') (by simpa using hx')
      · exact .inr (.inr (by simpa using i3))
    · rcases i3 with ⟨rfl,i3⟩ | ⟨s',i0,c0,v0,x0,rfl,g1,g2,g3,g4,g5⟩ | i3
      · refine .inr (.inl ⟨s,0,c,v,x,rfl,rfl,rfl,k1,hx,fun i c' x' hne hc' hx'=>?_⟩)
        cases i with
        | zero=>exact absurd rfl hne
        | succ i=>exact i3 i c' x' (by simpa using hc') (by simpa using hx')
      · exact .inr (.inr (by simp))
      · exact .inr (.inr (by simp;omega))
theorem cells_one {x:Value} (h1:x.oneCell'=true):x.cells.toList=[x]:=by
  cases x <;> first | rfl | cases h1
theorem cellsOf_spec {n:Nat} {v:V} {x:Value} {cs:List C} {l:List Nat} (hv:RV X h B w v x) (ht:cellsOf h n v=some (cs,l)) :
    cs.length=n∧(∀ y ∈ x.cells.toList,y.oneCell'=true)∧CellsSp X h B w l cs x.cells.toList:=by
  unfold cellsOf at ht
  split at ht
  · rename_i ds
    split at ht
    · rename_i hn
      simp only [Option.some.injEq,Prod.mk.injEq] at ht
      obtain ⟨rfl,rfl⟩:=ht
      obtain ⟨vs,rfl,h1,h2,h3⟩:=rd_agg hv
      refine ⟨by simpa using hn,fun y hy=>?_,by simp [Value.cells,h1], .inl ⟨rfl,fun i c x hc hx=>?_⟩⟩
      · obtain ⟨i,hi⟩:=List.mem_iff_getElem?.1 hy
        exact h2 i y (by simpa [Value.cells] using hi)
      · simp only [List.getElem?_map,Option.map_eq_some_iff] at hc
        obtain ⟨d,hd,rfl⟩:=hc
        have hx':vs[i]? = some x:=by simpa [Value.cells] using hx
        exact ⟨d,rfl,h3 i d x hd hx',h2 i x hx'⟩
    · cases ht
  · rename_i vs
    split at ht
    · rename_i hn
      obtain ⟨arr,rfl,⟨g1,g2⟩,g3⟩:=hv
      obtain ⟨k1,k2⟩:=toCells_spec (xs:=arr.toList) (by simpa using g1.symm) (fun i v x hv hx=>g2 i v x hv (by simpa using hx)) ht
      refine ⟨by omega,fun y hy=>?_,by simpa [Value.cells] using k2⟩
      obtain ⟨i,hi⟩:=List.mem_iff_getElem?.1 hy
      exact g3 i y (by simpa [Value.cells] using hi)
    · cases ht
  · rename_i hna1 hna2
    split at ht
    · rename_i hn
      simp only [Option.map_eq_some_iff,Prod.exists,Prod.mk.injEq] at ht
      obtain ⟨c,l1,h1,rfl,rfl⟩:=ht
      have hat:v.atom=true:=by
        cases v <;> first | rfl | (exfalso;simp [toCell] at h1)
      have hv1:=hv.to1 hat
      have hone:x.oneCell'=true:=by
        rcases toCell_spec hv1 h1 with ⟨_,d,_,_,k⟩ | ⟨s,_,k⟩
        · exact k
        · exact (k.rc hv1).2
      rw [cells_one hone]
      refine ⟨hn.symm,fun y hy=>by simp at hy;rw [hy];exact hone,rfl, ?_⟩
      rcases toCell_spec hv1 h1 with ⟨rfl,k⟩ | ⟨s,rfl,k⟩
      · refine .inl ⟨rfl,fun i c' x' hc' hx'=>?_⟩
        cases i with
        | zero=>simp at hc' hx';subst hc';subst hx';exact k
        | succ i=>simp at hc'
      · refine .inr (.inl ⟨s,0,c,v,x,rfl,rfl,rfl,k,hv1,fun i c' x' hne hc' hx'=>?_⟩)
        cases i with
        | zero=>exact absurd rfl hne
        | succ i=>simp at hc'
    · cases ht
theorem own1_src {own:List (Nat × Nat)} {i:Nat} {c:C} {x:Value} (H:CSrc X h B w c x) :
    (own1 own i c).plain∧(∀ d,own1 own i c = .d d→RD w (Forb X h B) d x∧x.oneCell'=true)∧(∀ sz nn es,own1 own i c = .own sz nn es→x = .slice none 0 0):=by
  obtain ⟨d,rfl,h1,h2⟩:=H
  rcases own1_of (own:=own) (i:=i) (c:=.d d) with hh | ⟨hd,sz,hh⟩
  · rw [hh]
    exact ⟨trivial,fun y hy=>by cases hy;exact ⟨h1,h2⟩,fun _ _ _ hy=>by cases hy⟩
  · rw [hh]
    injection hd with hd
    subst hd
    refine ⟨⟨rfl,rfl⟩,(fun y hy=>by cases hy),fun _ _ _ _=>?_⟩
    generalize hq:D.sl false []=q at h1
    cases h1 with
    | slnil=>rfl
    | sl nn es ad sz cap cvs h0=>injection hq with q1 q2;subst q1;subst q2;simp at h0
    | _=>cases hq
theorem hset_swap (h:Hp) (d s:Nat) (hne:d≠s) (A Bo Co:Option Ob):hset (hset (hset h 0 d A) 0 s Bo) 0 d Co=hset (hset h 0 s Bo) 0 d Co:=by
  funext u' s'
  simp only [hset]
  split
  · rfl
  · split <;> rfl
theorem own1_nonflat {own:List (Nat × Nat)} {i:Nat} {c:C} (hf:¬c.flat):own1 own i c=c:=by
  cases c with
  | d x=>exact absurd trivial hf
  | _=>rfl
theorem eff_box (H:HRel X h B w) (F:FRel X h B w f a) {n:Nat} {own:List (Nat × Nat)} {x:Opd} (he:eff call f h dst (.box n own x)=some e) (hc:chk P o.op o.type (.box n own x)=true):EffOk P X h B w (execOp a.eval o) e:=by
  simp only [eff,Option.bind_eq_some_iff,Prod.exists] at he
  obtain ⟨cs,l,hco,he⟩:=he
  split at he
  · rename_i hcond
    simp only [Option.some.injEq] at he
    subst he
    simp only [chk] at hc
    split at hc
    · rename_i t y ho
      simp only [Bool.and_eq_true] at hc
      have hsz:=run_sizeOf hc.1 w
      obtain ⟨c1,c2,c3,c4⟩:=cellsOf_spec (opd_ok F hc.2) hco
      have hrun:(execOp a.eval o).run P w = .ok (.value (.pointer (some ⟨w.heap.size,0,none⟩))) (w.alloc (.cells (a.eval y).cells t)):=by
        simp [execOp,ho,Instr.box,newVar,newRow,hsz,←c1,c3]
      have hszc:(a.eval y).cells.size=n:=by have:=c3;simp at this;omega
      rcases c4 with ⟨rfl,c4⟩ | ⟨s,i0,c0,v0,x0,rfl,g1,g2,g3,g4,g5⟩ | c4
      · have T:=new_row H dst true ⟨n,true,[ownify own cs]⟩ (C0:=(a.eval y).cells) (t:=t) rfl (by simp [ownify_length,c1]) (by simp [hszc]) (fun e1 o1 c hcc=>by
          obtain ⟨rfl,hc'⟩:=cellAt_single hcc
          rw [ownify_get,Option.map_eq_some_iff] at hc'
          obtain ⟨c',hc',rfl⟩:=hc'
          have hlt:=(List.getElem?_eq_some_iff.1 hc').1
          have hv:(a.eval y).cells.toList[o1]? = some (a.eval y).cells.toList[o1]:=List.getElem?_eq_getElem (by omega)
          obtain ⟨p1,p2,p3⟩:=own1_src (own:=own) (i:=o1) (c4 _ _ _ hc' hv)
          exact ⟨p1,_,by rw [Nat.zero_mul,Nat.zero_add,←Array.getElem?_toList];exact hv,p2,p3⟩)
        exact ⟨_,_,_,_,hrun, .inl rfl,T, .of1 (ptr_new (r:=⟨n,true,[ownify own cs]⟩) Nat.one_pos)⟩
      · have hne:dst≠s:=by
          intro hh;subst hh;simp at hcond
        obtain ⟨ob0,k1,k2,k3⟩:=g3.nd
        have hL:(ownify own cs)[i0]? = some c0:=by rw [ownify_get,g1];simp [own1_nonflat k3]
        have hlt0:=(List.getElem?_eq_some_iff.1 hL).1
        let r:Row:=⟨n,true,[(ownify own cs).set i0 .bad]⟩
        have T:=new_row H dst true r (C0:=(a.eval y).cells) (t:=t) rfl (by simp [r,ownify_length,c1]) (by simp [r,hszc]) (fun e1 o1 c hcc=>by
          obtain ⟨rfl,hc'⟩:=cellAt_single hcc
          by_cases hi:o1=i0
          · subst hi
            rw [List.getElem?_set_self hlt0] at hc'
            injection hc' with hc'
            subst hc'
            exact ⟨trivial,x0,by rw [Nat.zero_mul,Nat.zero_add,←Array.getElem?_toList];exact g2,(fun y hy=>by cases hy),fun _ _ _ hy=>by cases hy⟩
          · rw [List.getElem?_set_ne (Ne.symm hi),ownify_get,Option.map_eq_some_iff] at hc'
            obtain ⟨c',hc',rfl⟩:=hc'
            have hlt:=(List.getElem?_eq_some_iff.1 hc').1
            have hv:(a.eval y).cells.toList[o1]? = some (a.eval y).cells.toList[o1]:=List.getElem?_eq_getElem (by omega)
            obtain ⟨p1,p2,p3⟩:=own1_src (own:=own) (i:=o1) (g5 _ _ _ hi hc' hv)
            exact ⟨p1,_,by rw [Nat.zero_mul,Nat.zero_add,←Array.getElem?_toList];exact hv,p2,p3⟩)
        have hst:CAbs (hset h 0 dst (some (.row true r.sz r.nn r.es))) s c0 v0:=by
          have hx:hset h 0 dst (some (.row true r.sz r.nn r.es)) 0 s=h 0 s:=hset_ne _ _ _ _ (by rintro ⟨_,hh⟩;exact hne hh.symm)
          rcases g3 with ⟨sz,nn,es,h1,h2,h3⟩ | ⟨es,h1,h2,h3⟩
          · exact .inl ⟨sz,nn,es,by rw [hx];exact h1,h2,h3⟩
          · exact .inr ⟨es,by rw [hx];exact h1,h2,h3⟩
        have hv0:RV1 X (hset h 0 dst (some (.row true r.sz r.nn r.es))) (gset B 0 dst [] w.heap.size) (w.alloc (.cells (a.eval y).cells t)) v0 x0:=by
          have:=T.rv v0 x0 g4
          have hk:v0.kills [.root 0 dst]=v0:=by
            rcases g3 with ⟨sz,nn,es,h1,h2,rfl⟩ | ⟨es,h1,h2,rfl⟩ <;> simp [V.kills,V.kill,V.kill1,Kill.hits,hne]
          rwa [hk] at this
        obtain ⟨ob1,m1,m2,m3⟩:=hst.nd
        have hbl:(gset B 0 dst [] w.heap.size) 0 dst []=w.heap.size:=gset_same ..
        have T2:=tr_absorb T.hr (u:=0) (s:=dst) (p:=[]) (r:=r) (e:=0) (o:=i0) (s0:=s) (ob0:=ob1) (c:=c0) (hset_same ..) rfl (by simp [r,cellAt,List.getElem?_set_self hlt0]) m1 (by rintro ⟨_,hh⟩;exact hne hh) m2
          (fun arr t' fr hb=>by
            rw [hbl,heap_alloc] at hb
            injection hb with hb
            injection hb with hb1 hb2 hb3
            subst hb1
            exact ⟨x0,by rw [Nat.zero_mul,Nat.zero_add,←Array.getElem?_toList];exact g2,(hst.rc hv0).1⟩) m3
        have hes:setCells r.es 0 i0 [c0]=[ownify own cs]:=by
          have:overlay ((ownify own cs).set i0 C.bad) i0 [c0]=ownify own cs:=by
            apply List.ext_getElem?
            intro i
            rw [overlay_get]
            by_cases hi:i=i0
            · subst hi
              rw [if_pos ⟨Nat.le_refl _,by simp,by simpa using hlt0⟩]
              simp [hL]
            · rw [if_neg (by simp;omega),List.getElem?_set_ne (Ne.symm hi)]
          simp [setCells,r,this]
        have hfin:hset (hset (hset h 0 dst (some (.row true r.sz r.nn r.es))) 0 s none) 0 dst (some (Ob.setRow (.row true r.sz r.nn r.es) [] { r with es:=setCells r.es 0 i0 [c0] }))=updH h (drops [s]++[(0,dst,some (.row true n true [ownify own cs]))]):=by
          rw [hset_swap _ _ _ hne,hes]
          rfl
        have T3:=T.trans T2
        rw [hfin] at T3
        refine ⟨_,_,_,_,hrun, .inl rfl,T3, .of1 ⟨⟨n,true,[ownify own cs]⟩, ?_,Nat.one_pos, ?_⟩⟩
        · rw [show updH h (drops [s]++[(0,dst,some (.row true n true [ownify own cs]))])=hset (hset h 0 s none) 0 dst (some (.row true n true [ownify own cs])) from rfl,nd_hset_same];rfl
        · rw [graft_out _ _ _ _ _ (by rintro ⟨_,_,hh⟩;simp at hh),hbl];simp
      · omega
    · cases hc
  · cases he
end
end Go.Proofs.YtgmphfmoonbfpaaMv

set_option maxRecDepth 2000
namespace Go.Proofs.YtgmphfmoonbfpaaMv
open Go
structure Wrote (w w':World) (b:Nat):Prop where
  os:w'.os=w.os
  tape:w'.tape=w.tape
  output:w'.output=w.output
  size:w'.heap.size=w.heap.size
  keep:∀ i,i≠b→w'.heap[i]? = w.heap[i]?
theorem setCell_blk {w:World} {b o:Nat} {arr:Array Value} {t:TypeId} {fr:Nat × Nat} (hb:w.heap[b]? = some (.cells arr t fr)) (v:Value) :
    Wrote w (w.setCell ⟨b,o,none⟩ v) b∧(w.setCell ⟨b,o,none⟩ v).heap[b]? = some (.cells (arr.setIfInBounds o v) t fr):=by
  refine ⟨⟨rfl,rfl,rfl,by simp [World.setCell],fun i hi=>?_⟩, ?_⟩
  · simp only [World.setCell]
    rw [Array.getElem?_modify,if_neg (fun h=>hi h.symm)]
  · simp only [World.setCell]
    rw [Array.getElem?_modify,if_pos rfl,hb]
    simp
theorem setCells_blk (b:Nat) (t:TypeId) (fr:Nat × Nat):∀ (vs:List Value) (o:Nat) (w:World) (arr:Array Value),w.heap[b]? = some (.cells arr t fr)→o+vs.length≤arr.size →
    Wrote w (w.setCells b o vs) b ∧ ∃ arr',(w.setCells b o vs).heap[b]? = some (.cells arr' t fr)∧arr'.size=arr.size∧(∀ (j:Nat) v,vs[j]? = some v→arr'[o+j]? = some v)∧(∀ i,(i<o∨o+vs.length≤i)→arr'[i]? = arr[i]?)
  | [],o,w,arr,hb,hl=>⟨⟨rfl,rfl,rfl,rfl,fun _ _=>rfl⟩,arr,hb,rfl,fun j v h=>by simp at h,fun _ _=>rfl⟩
  | v::vs,o,w,arr,hb,hl=>by
    obtain ⟨k1,k2⟩:=setCell_blk (o:=o) hb v
    simp only [List.length_cons] at hl
    obtain ⟨m1,arr',m2,m3,m4,m5⟩:=setCells_blk b t fr vs (o+1) (w.setCell ⟨b,o,none⟩ v) (arr.setIfInBounds o v) k2 (by simp;omega)
    refine ⟨⟨m1.os.trans k1.os,m1.tape.trans k1.tape,m1.output.trans k1.output,m1.size.trans k1.size,fun i hi=>(m1.keep i hi).trans (k1.keep i hi)⟩,arr',m2,by simpa using m3,fun j v' hj=>?_,fun i hi=>?_⟩
    · cases j with
      | zero=>
        simp only [List.getElem?_cons_zero,Option.some.injEq] at hj
        subst hj
        rw [Nat.add_zero,m5 o (.inl (by omega)),Array.getElem?_setIfInBounds,if_pos rfl,if_pos (by omega)]
      | succ j=>
        have:=m4 j v' (by simpa using hj)
        rwa [show o+(j+1)=o+1+j by omega]
    · simp only [List.length_cons] at hi
      rw [m5 i (by omega),Array.getElem?_setIfInBounds,if_neg (by omega)]
section
variable {P:Program} {X:Nat→Prop} {h:Hp} {B:Gh} {w:World} {f:Fr} {a:Act} {call:FuncId→List V→Option V} {dst:Nat} {o:Oper} {e:Eff}
theorem run_store_blk {t:TypeId} {n b o1:Nat} {x:Value} {arr:Array Value} {tt:TypeId} {fr:Nat × Nat} (hs:sizeIs P t n=true) (hb:w.heap[b]? = some (.cells arr tt fr)) (hfr:∀ i,i<arr.size→¬(fr.1≤i∧i<fr.2))
    (hn:x.cells.size=n) (hle:o1+n≤arr.size) (h1:∀ y ∈ x.cells.toList,y.oneCell'=true) :
    (Instr.storeAt t (.pointer (some ⟨b,o1,none⟩)) x).run P w = .ok () (w.setCells b o1 x.cells.toList):=by
  have h2:=run_storeCells_cells (P:=P) b o1 x.cells.toList 0 w (fun j hj=>by
      simp at hj
      simp [World.cell?,hb]
      omega) (fun j hj=>by
      simp at hj
      simp only [World.frozen?,hb]
      have:=hfr (o1+0+j) (by omega)
      simp at this ⊢
      exact this) h1
  have h3:=run_sizeOf (P:=P) hs w
  simp only [Nat.add_zero] at h2
  simp [Instr.storeAt,Instr.sureAddr,storeVar,h3,hn,h2]
theorem setCells_set {es:List (List C)} {e o i0:Nat} {new:List C} {c:C} {cs:List C} (he:es[e]? = some cs) (hl:o+new.length≤cs.length) (hi:i0<new.length) :
    setCells (setCells es e o new) e (o+i0) [c]=setCells es e o (new.set i0 c):=by
  have hlt:=(List.getElem?_eq_some_iff.1 he).1
  have h1:setCells es e o new=es.set e (overlay cs o new):=by simp [setCells,he]
  rw [h1]
  have h2:(es.set e (overlay cs o new))[e]? = some (overlay cs o new):=by rw [List.getElem?_set_self hlt]
  simp only [setCells,h2,he]
  rw [List.set_set]
  congr 1
  apply List.ext_getElem?
  intro i
  simp only [overlay_get,overlay_length,List.length_set,List.length_singleton]
  by_cases hc:i=o+i0
  · subst hc
    rw [if_pos ⟨Nat.le_refl _,by omega,by omega⟩,if_pos ⟨by omega,by omega,by omega⟩]
    rw [Nat.sub_self,show o+i0 - o=i0 by omega,List.getElem?_set_self hi];rfl
  · rw [if_neg (by omega)]
    by_cases hd:o≤i∧i<o+new.length∧i<cs.length
    · rw [if_pos hd,if_pos hd,List.getElem?_set_ne (by omega)]
    · rw [if_neg hd,if_neg hd]
theorem setGo_setGo:∀ (p:Path) (r r0 r1 r2:Row),rowGo r p=some r0→setGo (setGo r p r1) p r2=setGo r p r2
  | [],r,r0,r1,r2,_=>rfl
  | (e,o)::p,r,r0,r1,r2,hr=>by
    simp only [rowGo] at hr
    cases hc:cellAt r.es e o with
    | none=>rw [hc] at hr;cases hr
    | some c=>
      rw [hc] at hr
      cases c with
      | own sz nn es=>
        obtain ⟨cs,hc1,hc2⟩:=cellAt_some hc
        have hlt:=(List.getElem?_eq_some_iff.1 hc2).1
        have ih:=setGo_setGo p ⟨sz,nn,es⟩ r0 r1 r2 hr
        simp only [setGo,hc,cellAt_set1 hc]
        rw [ih]
        have:=setCells_set (c:=.own (setGo ⟨sz,nn,es⟩ p r2).sz (setGo ⟨sz,nn,es⟩ p r2).nn (setGo ⟨sz,nn,es⟩ p r2).es) (i0:=0) (new:=[.own (setGo ⟨sz,nn,es⟩ p r1).sz (setGo ⟨sz,nn,es⟩ p r1).nn (setGo ⟨sz,nn,es⟩ p r1).es]) hc1 (o:=o) (by simp;omega) (by simp)
        rw [Nat.add_zero] at this
        rw [this];rfl
      | _=>cases hr
theorem rowGo_setGo:∀ (p:Path) (r r0 r1:Row),rowGo r p=some r0→rowGo (setGo r p r1) p=some r1:=by
  intro p r r0 r1 hr
  have:=ndGo_set_ext p r r0 r1 [] hr
  rw [List.append_nil] at this
  exact rowGo_of_ndGo _ _ _ this
theorem row?_setRow {ob:Ob} {p:Path} {r r1:Row} (hr:ob.row? p=some r):(ob.setRow p r1).row? p=some r1:=by
  cases ob with
  | map es=>cases hr
  | row fx sz nn es=>exact rowGo_setGo p ⟨sz,nn,es⟩ r r1 hr
theorem setRow_setRow {ob:Ob} {p:Path} {r r1 r2:Row} (hr:ob.row? p=some r):(ob.setRow p r1).setRow p r2=ob.setRow p r2:=by
  cases ob with
  | map es=>rfl
  | row fx sz nn es=>
    have:=setGo_setGo p ⟨sz,nn,es⟩ r r1 r2 hr
    simp only [Ob.setRow]
    rw [this]
theorem cellAt_new {es:List (List C)} {e o:Nat} {new:List C} {cs:List C} (he:es[e]? = some cs) (hl:o+new.length≤cs.length) (e1 o1:Nat) {c:C} (hc:cellAt (setCells es e o new) e1 o1=some c) :
    (e1=e ∧ ∃ j,o1=o+j∧new[j]? = some c)∨(¬(e1=e∧o≤o1∧o1<o+new.length)∧cellAt es e1 o1=some c):=by
  rw [cellAt_setCells] at hc
  split at hc
  · rename_i hh
    exact .inl ⟨hh.1,o1 - o,by omega,hc⟩
  · rename_i hh
    refine .inr ⟨fun h1=>hh ⟨h1.1,h1.2.1,h1.2.2, ?_⟩,hc⟩
    rw [hc];rfl
theorem tr_store (H:HRel X h B w) {u s:Nat} {p:Path} {ob:Ob} {r:Row} {e1 o1:Nat} {cs new:List C} {xs:List Value}
    (ho:h u s=some ob) (hr:ob.row? p=some r) (he:r.es[e1]? = some cs) (hle:o1+new.length≤cs.length) (hlen:new.length=xs.length)
    (hnew:∀ (i:Nat) c x,new[i]? = some c→xs[i]? = some x→c = .bad∨CSrc X h B w c x) :
    Tr X h B w [.under u s p e1 o1 (o1+new.length)] (hset h u s (some (ob.setRow p { r with es:=setCells r.es e1 o1 new }))) B (w.setCells (B u s p) (e1 * r.sz+o1) xs):=by
  have hnr:nd h u s p=some (.row r):=nd_of_row? ho hr
  have hlive:r.es≠[]:=by intro hh;rw [hh] at he;simp at he
  obtain ⟨arr,t,fr,hb,hfr,hlens,hsz,hcells⟩:=H.node u s p _ hnr (.inr hlive)
  have hcsl:cs.length=r.sz:=hlens cs (List.mem_of_getElem? he)
  have helt:=(List.getElem?_eq_some_iff.1 he).1
  have hroom:e1 * r.sz+r.sz≤r.es.length * r.sz:=by
    have:=Nat.mul_le_mul_right r.sz helt
    rw [Nat.succ_mul] at this;exact this
  obtain ⟨W,arr',hb',hs',hin,hout⟩:=setCells_blk (B u s p) t fr xs (e1 * r.sz+o1) w arr hb (by omega)
  refine tr_set H ho hr ⟨rfl,rfl,by simp [setCells_length]⟩ hlive (setCells_lens hlens) (fun a1 b1 c hc=>?_) (fun a1 b1 c hc hf=>?_) W.os W.tape W.output W.size W.keep (fun arr0 t0 fr0 hb0 _=>?_)
  · rcases cellAt_new he hle a1 b1 hc with ⟨rfl,j,rfl,hj⟩ | ⟨_,hj⟩
    · right
      have hjl:=(List.getElem?_eq_some_iff.1 hj).1
      rcases hnew j c _ hj (List.getElem?_eq_getElem (by omega)) with rfl | ⟨d,rfl,_⟩ <;> trivial
    · exact .inl hj
  · by_cases hin:a1=e1∧o1≤b1∧b1<o1+new.length
    · right
      intro q
      obtain ⟨rfl,h1,h2⟩:=hin
      exact ⟨_,List.mem_singleton.2 rfl,by simp [Kill.hits,passes_in h1 h2]⟩
    · left
      show cellAt (setCells r.es e1 o1 new) a1 b1=some c
      rw [cellAt_setCells,if_neg (fun hh=>hin ⟨hh.1,hh.2.1,hh.2.2.1⟩)];exact hc
  · rw [hb] at hb0
    injection hb0 with hb0
    injection hb0 with q1 q2 q3
    subst q1;subst q2;subst q3
    refine ⟨arr',hb',hs',fun a1 b1 c hc=>?_⟩
    rcases cellAt_new he hle a1 b1 hc with ⟨rfl,j,rfl,hj⟩ | ⟨hni,hj⟩
    · have hjl:=(List.getElem?_eq_some_iff.1 hj).1
      have hx:xs[j]? = some xs[j]:=List.getElem?_eq_getElem (by omega)
      rcases hnew j c _ hj hx with rfl | ⟨d,rfl,h1,h2⟩
      · exact .inr (.inl rfl)
      · refine .inr (.inr ⟨d,_,rfl, ?_,h2,fun hmv=>hmv _ _ h1⟩)
        have:=hin j _ hx
        rwa [Nat.add_assoc] at this
    · refine .inl ⟨hj,hout _ ?_⟩
      obtain ⟨c1,c2⟩:=cellAt_lt hlens hj
      by_cases h1:a1=e1
      · subst h1
        have:¬(o1≤b1∧b1<o1+new.length):=fun h=>hni ⟨rfl,h⟩
        omega
      · rcases Nat.lt_or_ge a1 e1 with hlt | hge
        · have:=Nat.mul_le_mul_right r.sz hlt
          rw [Nat.succ_mul] at this
          left;omega
        · have:=Nat.mul_le_mul_right r.sz (show e1+1≤a1 by omega)
          rw [Nat.add_mul,Nat.one_mul] at this
          right;omega
theorem hset_swap2 (h:Hp) (u s s0:Nat) (hne:¬(u=0∧s=s0)) (A Co:Option Ob):hset (hset (hset h u s A) 0 s0 none) u s Co=hset (hset h 0 s0 none) u s Co:=by
  funext u' s'
  simp only [hset]
  split
  · rfl
  · split <;> rfl
theorem eff_st (H:HRel X h B w) (F:FRel X h B w f a) {n:Nat} {x v:Opd} (he:eff call f h dst (.st n x v)=some e) (hc:chk P o.op o.type (.st n x v)=true):EffOk P X h B w (execOp a.eval o) e:=by
  simp only [eff] at he
  split at he
  · rename_i u s p e1 o1 hx
    simp only [Option.bind_eq_some_iff,Prod.exists] at he
    obtain ⟨new,l,hco,ob,hob,r,hr,cs,hcs,he⟩:=he
    split at he
    · rename_i hcond
      simp only [Option.some.injEq] at he
      subst he
      simp only [chk] at hc
      split at hc
      · rename_i t y z ho
        simp only [Bool.and_eq_true] at hc
        have hy:=opd_ok F hc.2.1
        rw [hx] at hy
        obtain ⟨r',hr',hlt,hy⟩:=hy
        have hnr:nd h u s p=some (.row r):=nd_of_row? hob hr
        rw [hnr] at hr'
        injection hr' with hr'
        injection hr' with hr'
        subst hr'
        obtain ⟨c1,c2,c3,c4⟩:=cellsOf_spec (opd_ok F hc.2.2) hco
        have hlive:r.es≠[]:=by intro hh;rw [hh] at hcs;simp at hcs
        obtain ⟨arr,tt,fr,hb,hfr,hlens,hsz,hcells⟩:=H.node u s p _ hnr (.inr hlive)
        have hcsl:cs.length=r.sz:=hlens cs (List.mem_of_getElem? hcs)
        have hroom:e1 * r.sz+r.sz≤r.es.length * r.sz:=by
          have:=Nat.mul_le_mul_right r.sz hlt
          rw [Nat.succ_mul] at this;exact this
        have hszc:(a.eval z).cells.size=n:=by have:=c3;simp at this;omega
        have hst:=run_store_blk (P:=P) (x:=a.eval z) (o1:=e1 * r.sz+o1) hc.1 hb hfr hszc (by omega) c2
        have hrun:∃ nx cv,(execOp a.eval o).run P w = .ok nx (w.setCells (B u s p) (e1 * r.sz+o1) (a.eval z).cells.toList)∧(nx = .value cv∨(nx = .skip∧cv=undef)):=
          ⟨.skip,undef,by simp [execOp,ho,hy,hst], .inr ⟨rfl,rfl⟩⟩
        obtain ⟨nx,cv,hrun,hnx⟩:=hrun
        rcases c4 with ⟨rfl,c4⟩ | ⟨s0,i0,c0,v0,x0,rfl,g1,g2,g3,g4,g5⟩ | c4
        · have T:=tr_store H (o1:=o1) (new:=new) (xs:=(a.eval z).cells.toList) hob hr hcs (by omega) c3 (fun i c x hc hx=>.inr (c4 i c x hc hx))
          rw [c1] at T
          exact ⟨nx,cv,_,_,hrun,hnx,T,trivial⟩
        · have hne:¬(u=0∧s=s0):=by
            rintro ⟨rfl,rfl⟩
            simp at hcond
          have hi0:=(List.getElem?_eq_some_iff.1 g1).1
          obtain ⟨ob0,k1,k2,k3⟩:=g3.nd
          have T:=tr_store H (o1:=o1) (xs:=(a.eval z).cells.toList) (new:=new.set i0 .bad) hob hr hcs (by simp;omega) (by simpa using c3) (fun i c x hc hx=>by
            by_cases hi:i=i0
            · subst hi
              rw [List.getElem?_set_self hi0] at hc
              injection hc with hc
              exact .inl hc.symm
            · rw [List.getElem?_set_ne (Ne.symm hi)] at hc
              exact .inr (g5 i c x hi hc hx))
          rw [List.length_set,c1] at T
          have hx0:hset h u s (some (ob.setRow p { r with es:=setCells r.es e1 o1 (new.set i0 .bad) })) 0 s0=h 0 s0:=hset_ne _ _ _ _ (by rintro ⟨h1,h2⟩;exact hne ⟨h1.symm,h2.symm⟩)
          have hst':CAbs (hset h u s (some (ob.setRow p { r with es:=setCells r.es e1 o1 (new.set i0 .bad) }))) s0 c0 v0:=by
            rcases g3 with ⟨sz,nn,es,h1,h2,h3⟩ | ⟨es,h1,h2,h3⟩
            · exact .inl ⟨sz,nn,es,by rw [hx0];exact h1,h2,h3⟩
            · exact .inr ⟨es,by rw [hx0];exact h1,h2,h3⟩
          have hv0:=T.rv v0 x0 g4
          have hk:v0.kills [.under u s p e1 o1 (o1+n)]=v0:=by
            rcases g3 with ⟨sz,nn,es,h1,h2,rfl⟩ | ⟨es,h1,h2,rfl⟩
            · simp [V.kills,V.kill,V.kill1,Kill.hits]
              intro q1 q2;exact absurd ⟨q1,q2⟩ hne
            · simp [V.kills,V.kill,V.kill1,Kill.hits]
              intro q1 q2;exact absurd ⟨q1,q2⟩ hne
          rw [hk] at hv0
          obtain ⟨ob1,m1,m2,m3⟩:=hst'.nd
          have hbad:cellAt (setCells r.es e1 o1 (new.set i0 .bad)) e1 (o1+i0)=some .bad:=by
            have hsome:(cellAt r.es e1 (o1+i0)).isSome=true:=by
              have:o1+i0<cs.length:=by omega
              simp [cellAt,hcs,this]
            rw [cellAt_setCells,if_pos ⟨rfl,by omega,by simp;omega,hsome⟩]
            rw [show o1+i0 - o1=i0 by omega,List.getElem?_set_self hi0]
          obtain ⟨W,arr',hb',hs',hin,hout⟩:=setCells_blk (B u s p) tt fr (a.eval z).cells.toList (e1 * r.sz+o1) w arr hb (by simp;omega)
          have T2:=tr_absorb T.hr (u:=u) (s:=s) (p:=p) (r:={ r with es:=setCells r.es e1 o1 (new.set i0 .bad) }) (e:=e1) (o:=o1+i0) (s0:=s0) (ob0:=ob1) (c:=c0) (hset_same ..) (row?_setRow hr) hbad m1 hne m2
            (fun arr0 t0 fr0 hb0=>by
              rw [hb'] at hb0
              injection hb0 with hb0
              injection hb0 with q1 q2 q3
              subst q1
              refine ⟨x0, ?_,(hst'.rc hv0).1⟩
              have:=hin i0 x0 g2
              rwa [Nat.add_assoc] at this) m3
          have hset1:setCells (setCells r.es e1 o1 (new.set i0 .bad)) e1 (o1+i0) [c0]=setCells r.es e1 o1 new:=by
            rw [setCells_set hcs (by simp;omega) (by simpa using hi0),List.set_set]
            congr 1
            apply List.ext_getElem?
            intro i
            by_cases hi:i=i0
            · subst hi;rw [List.getElem?_set_self hi0,g1]
            · rw [List.getElem?_set_ne (Ne.symm hi)]
          have T3:=T.trans T2
          rw [hset_swap2 _ _ _ _ hne,setRow_setRow hr] at T3
          simp only [hset1] at T3
          exact ⟨nx,cv,_,_,hrun,hnx,T3,trivial⟩
        · omega
      · cases hc
    · cases he
  · cases he
end
end Go.Proofs.YtgmphfmoonbfpaaMv

set_option maxRecDepth 2000
namespace Go.Proofs.YtgmphfmoonbfpaaMv
open Go
section
variable {P:Program} {X:Nat→Prop} {h:Hp} {B:Gh} {w:World} {f:Fr} {a:Act} {call:FuncId→List V→Option V} {dst:Nat} {o:Oper} {e:Eff}
theorem deqK_true {N N2:Nat→Prop} {w2:World}:∀ (ks:List Nat) (x y:List D),deqK ks x y=some true→x=y ∧ ∀ (n:Nat) (vs us:List Value),vs.length=x.length→us.length=y.length →
    (∀ (i:Nat) d v,x[i]? = some d→vs[i]? = some v→RD w N d v)→(∀ (i:Nat) d v,y[i]? = some d→us[i]? = some v→RD w2 N2 d v)→(us.zip vs).all (fun (a,b)=>Instr.sameBits n a b)=true:=by
  intro ks
  induction ks with
  | nil=>
    intro x y hq
    unfold deqK at hq
    split at hq <;> simp_all
  | cons k ks ih=>
    intro x y hq
    unfold deqK at hq
    split at hq
    · rename_i heq;cases heq
    · rename_i heq
      injection heq with hk0 heq
      subst hk0;subst heq
      split at hq
      · rename_i hab
        obtain ⟨i1,i2⟩:=ih _ _ hq
        have hab':=eq_of_beq hab
        subst hab';subst i1
        refine ⟨rfl,fun n vs us hl1 hl2 hv hu=>?_⟩
        cases vs with
        | nil=>simp at hl1
        | cons v vs=>
          cases us with
          | nil=>simp at hl2
          | cons u us=>
            have h1:=rd_bool (hv 0 _ v rfl rfl)
            have h2:=rd_bool (hu 0 _ u rfl rfl)
            subst h1;subst h2
            simp only [List.zip_cons_cons,List.all_cons,Bool.and_eq_true]
            exact ⟨by simp [Instr.sameBits],i2 n vs us (by simpa using hl1) (by simpa using hl2) (fun i d v h1 h2=>hv (i+1) d v h1 h2) (fun i d v h1 h2=>hu (i+1) d v h1 h2)⟩
      · cases hq
    · rename_i heq
      injection heq with hk0 heq
      subst hk0;subst heq
      split at hq
      · rename_i hj
        subst hj
        split at hq
        · rename_i hab
          obtain ⟨i1,i2⟩:=ih _ _ hq
          have hab':=eq_of_beq hab
          subst hab';subst i1
          refine ⟨rfl,fun n vs us hl1 hl2 hv hu=>?_⟩
          cases vs with
          | nil=>simp at hl1
          | cons v vs=>
            cases us with
            | nil=>simp at hl2
            | cons u us=>
              have h1:=rd_int (hv 0 _ v rfl rfl)
              have h2:=rd_int (hu 0 _ u rfl rfl)
              subst h1;subst h2
              simp only [List.zip_cons_cons,List.all_cons,Bool.and_eq_true]
              exact ⟨by simp [Instr.sameBits],i2 n vs us (by simpa using hl1) (by simpa using hl2) (fun i d v h1 h2=>hv (i+1) d v h1 h2) (fun i d v h1 h2=>hu (i+1) d v h1 h2)⟩
        · cases hq
      · cases hq
    · rename_i heq
      injection heq with hk0 heq
      subst hk0;subst heq
      split at hq
      · rename_i hab
        obtain ⟨i1,i2⟩:=ih _ _ hq
        have hab':=eq_of_beq hab
        subst hab';subst i1
        refine ⟨rfl,fun n vs us hl1 hl2 hv hu=>?_⟩
        cases vs with
        | nil=>simp at hl1
        | cons v vs=>
          cases us with
          | nil=>simp at hl2
          | cons u us=>
            obtain ⟨s1,rfl,h1⟩:=rd_str (hv 0 _ v rfl rfl)
            obtain ⟨s2,rfl,h2⟩:=rd_str (hu 0 _ u rfl rfl)
            have:s2=s1:=by
              apply ByteArray.ext
              apply Array.ext'
              rw [h1,h2]
            subst this
            simp only [List.zip_cons_cons,List.all_cons,Bool.and_eq_true]
            exact ⟨by simp only [Instr.sameBits];rw [beq_toListBytes];simp,i2 n vs us (by simpa using hl1) (by simpa using hl2) (fun i d v h1 h2=>hv (i+1) d v h1 h2) (fun i d v h1 h2=>hu (i+1) d v h1 h2)⟩
      · cases hq
    · cases hq
theorem deqT_true {N N2:Nat→Prop} {w2:World} {isS:Bool} {ks:List Nat} {a b:D} {v u:Value} (hq:deqT isS ks a b=some true) (hv:RD w N a v) (hu:RD w2 N2 b u):a=b∧Instr.sameBits 10000 u v=true:=by
  unfold deqT at hq
  split at hq
  · split at hq
    · split at hq
      · obtain ⟨i1,i2⟩:=deqK_true (w:=w) (N:=N) (w2:=w2) (N2:=N2) _ _ _ hq
        subst i1
        obtain ⟨vs,rfl,h1,h2,h3⟩:=rd_agg hv
        obtain ⟨us,rfl,k1,k2,k3⟩:=rd_agg hu
        refine ⟨rfl, ?_⟩
        have:=i2 9999 vs.toList us.toList (by simpa using h1) (by simpa using k1) (fun i d v hd hv=>h3 i d v hd (by simpa using hv)) (fun i d v hd hv=>k3 i d v hd (by simpa using hv))
        show Instr.sameBits (9999+1) _ _=true
        simp only [Instr.sameBits,Bool.and_eq_true]
        exact ⟨by simp [h1,k1],this⟩
      · cases hq
    · cases hq
  · obtain ⟨i1,i2⟩:=deqK_true (w:=w) (N:=N) (w2:=w2) (N2:=N2) _ _ _ hq
    injection i1 with i1
    have:=i2 10000 [v] [u] rfl rfl (fun i d x hd hx=>by
      cases i with
      | zero=>simp at hd hx;subst hd;subst hx;exact hv
      | succ i=>simp at hd) (fun i d x hd hx=>by
      cases i with
      | zero=>simp at hd hx;subst hd;subst hx;exact hu
      | succ i=>simp at hd)
    refine ⟨i1, ?_⟩
    simpa using this
theorem found_put {N N':Nat→Prop} {w':World} {isS:Bool} {ks:List Nat} {k d:D} {kv dv:Value} (hkv:RD w N k kv) (hdv:RD w N d dv) (hmv:∀ x v,RD w N x v→RD w' N' x v) :
    ∀ {es:List (D × D)} {l:List MapEntry} {x:Option (Nat × Value)} {es':List (D × D)},Found w N isS ks k es l x→Ents N w es l→putD isS ks k d es=some es' →
      (x=none ∧ ∀ clock,Ents N' w' es' (l++[⟨kv,dv,clock⟩]))∨(∃ i v e0,x=some (i,v)∧l[i]? = some e0∧Instr.sameBits 10000 e0.key kv=true∧Ents N' w' es' (l.modify i fun e=>{ e with key:=kv,val:=dv })):=by
  intro es l x es' hf
  induction hf generalizing es' with
  | nil=>
    intro _ hp
    simp only [putD,Option.some.injEq] at hp
    subst hp
    exact .inl ⟨rfl,fun clock=>⟨hmv _ _ hkv,hmv _ _ hdv,trivial⟩⟩
  | @here a1 v1 r1 e1 es1 hq hv hk=>
    intro he hp
    simp only [putD,hq,Option.bind_some,if_true,Option.some.injEq] at hp
    subst hp
    obtain ⟨h1,h2⟩:=deqT_true hq hkv hk
    exact .inr ⟨0,_,e1,rfl,rfl,h2,hmv _ _ hkv,hmv _ _ hdv,Ents.mono hmv he.2.2⟩
  | @next a1 v1 r1 e1 es1 x1 hq hh ih=>
    intro he hp
    simp only [putD,hq,Option.bind_some,Bool.false_eq_true,if_false,Option.map_eq_some_iff] at hp
    obtain ⟨es2,hp,rfl⟩:=hp
    rcases ih he.2.2 hp with ⟨rfl,i1⟩ | ⟨i,v,e0,rfl,i1,i2,i3⟩
    · exact .inl ⟨rfl,fun clock=>⟨hmv _ _ he.1,hmv _ _ he.2.1,i1 clock⟩⟩
    · refine .inr ⟨i+1,v,e0,rfl,by simpa using i1,i2, ?_⟩
      rw [List.modify_succ_cons]
      exact ⟨hmv _ _ he.1,hmv _ _ he.2.1,i3⟩
theorem setMap_spec {u s:Nat} {at_:Option (Path × Nat × Nat)} {es es':List (D × D)} {ob':Ob} (hm:mapAt h u s at_=some es) (hs:setMap h u s es' at_=some ob') :
    nd (hset h u s (some ob')) u s (mpKey at_)=some (.map es') ∧ ∀ u' s' q,¬(u'=u∧s'=s∧q=mpKey at_)→NSim (nd h u' s' q) (nd (hset h u s (some ob')) u' s' q):=by
  rcases at_ with _ | ⟨p,e1,o1⟩
  · simp only [setMap,Option.some.injEq] at hs
    subst hs
    simp only [mapAt] at hm
    split at hm
    · rename_i es0 ho
      simp only [Option.some.injEq] at hm
      subst hm
      refine ⟨by rw [nd_hset_same];rfl,fun u' s' q hne=>?_⟩
      by_cases hh:u'=u∧s'=s
      · obtain ⟨rfl,rfl⟩:=hh
        rw [nd_hset_same]
        cases q with
        | nil=>exact absurd ⟨rfl,rfl,rfl⟩ hne
        | cons x q=>simp only [nd,ho,Option.bind_some,Ob.nd?];exact .none
      · rw [nd_hset_ne hh];exact .rfl'
    · cases hm
  · simp only [mapAt,Option.bind_eq_some_iff] at hm
    obtain ⟨r,⟨ob,hob,hr⟩,hm⟩:=hm
    split at hm
    · rename_i es0 hcell
      simp only [Option.some.injEq] at hm
      subst hm
      simp only [setMap,hob,Option.bind_some,hr,Option.map_some,Option.some.injEq] at hs
      subst hs
      refine ⟨?_,fun u' s' q hne=>?_⟩
      · show nd _ u s (p++[(e1,o1)])=_
        rw [nd_setRow_ext hob hr,ndGo_cons (cellAt_set1 hcell)]
        rfl
      · by_cases hh:u'=u∧s'=s
        · obtain ⟨rfl,rfl⟩:=hh
          by_cases hq:p <+: q
          · obtain ⟨q',rfl⟩:=hq
            rw [nd_setRow_ext hob hr,nd_ext hob hr]
            cases q' with
            | nil=>exact .row (setCells_sim hcell (.inr (.inr ⟨_,_,rfl,rfl⟩)))
            | cons x q'=>
              obtain ⟨e2,o2⟩:=x
              by_cases hx:e2=e1∧o2=o1
              · obtain ⟨rfl,rfl⟩:=hx
                rw [ndGo_cons hcell,ndGo_cons (cellAt_set1 hcell)]
                cases q' with
                | nil=>exact absurd ⟨rfl,rfl,rfl⟩ hne
                | cons y q'=>exact .none
              · rw [ndGo_cons_same (r1:={ r with es:=setCells r.es e1 o1 [.mp es'] }) (by rw [cellAt_set1_ne hx])]
                exact .rfl'
          · exact nd_setRow_sim (r1:={ r with es:=setCells r.es e1 o1 [.mp es'] }) hob hr ⟨rfl,rfl,by simp [setCells_length]⟩ q hq
        · rw [nd_hset_ne hh];exact .rfl'
    · cases hm
theorem eff_upd (H:HRel X h B w) (F:FRel X h B w f a) {isS:Bool} {ks:List Nat} {m k v:Opd} (he:eff call f h dst (.upd isS ks m k v)=some e) (hc:chk P o.op o.type (.upd isS ks m k v)=true):EffOk P X h B w (execOp a.eval o) e:=by
  simp only [eff] at he
  simp only [chk] at hc
  split at hc
  · rename_i t m' k' v' ho
    simp only [Bool.and_eq_true] at hc
    obtain ⟨h1,h2,h3,h4⟩:=hc
    split at h4
    · rename_i kt et hu
      split at he
      · rename_i u s at_ key d hm hk hv
        split at he
        · rename_i hkey
          simp only [Option.bind_eq_some_iff,Option.map_eq_some_iff] at he
          obtain ⟨es,hes,r,hr,es',hes',ob',hob',rfl⟩:=he
          have hmv:=opd_ok F h1
          rw [hm] at hmv
          obtain ⟨es0,g1,g2⟩:=RV1.mp_iff.1 hmv
          rw [mapAt_spec hes] at g1
          injection g1 with g1;injection g1 with g1;subst g1
          obtain ⟨ents,clock,h8,h9⟩:=H.node u s _ _ (mapAt_spec hes) trivial
          have hkv:=opd_d F h2 hk
          have hdv:=opd_d F h3 hv
          have hck:=checkKey_ok (P:=P) h4 hkv hkey false w
          obtain ⟨x,hx1,hx2⟩:=found_key (P:=P) h4 hkv h9 hr
          obtain ⟨m1,m2⟩:=setMap_spec hes hob'
          have hset:∀ (ents':Array MapEntry) (clock':Nat),(∀ N' w',(∀ x v,RD w (Forb X h B) x v→RD w' N' x v)→Ents N' w' es' ents'.toList) →
              (execOp a.eval o).run P w = .ok .skip { w with heap:=w.heap.setIfInBounds (B u s (mpKey at_)) (.map ents' clock') } →
              EffOk P X h B w (execOp a.eval o) { v:=.bad,upd:=[(u,s,some ob')],rd:=[(u,s)] }:=by
            intro ents' clock' hents hrun
            have hlt:B u s (mpKey at_)<w.heap.size:=(Array.getElem?_eq_some_iff.1 h8).1
            refine ⟨_,undef,_,B,hrun, .inr ⟨rfl,rfl⟩,tr_map H (mapAt_spec hes) m1 m2 rfl rfl rfl (by simp) (fun b hb=>?_) ⟨ents',clock', ?_,fun N' hN=>hents N' _ hN⟩,trivial⟩
            · show (w.heap.setIfInBounds _ _)[b]? = _
              rw [Array.getElem?_setIfInBounds,if_neg (fun h=>hb h.symm)]
            · show (w.heap.setIfInBounds _ _)[B u s (mpKey at_)]? = _
              rw [Array.getElem?_setIfInBounds,if_pos rfl,if_pos hlt]
          rcases found_put (w':=w) hkv hdv (fun x v hh=>hh) hx1 h9 hes' with ⟨rfl,_⟩ | ⟨i,v0,e0,rfl,i1,i2,_⟩
          · refine hset (ents.push ⟨a.eval k',a.eval v',clock⟩) (clock+1) (fun N' w' hN=>?_) ?_
            · rcases found_put (w':=w') hkv hdv hN hx1 h9 hes' with ⟨_,hh⟩ | ⟨i,v0,e0,hh,_⟩
              · rw [Array.toList_push];exact hh clock
              · cases hh
            · simp [execOp,ho,g2,Instr.mapUpdate,run_underlying hu,getObj,setObj,Sem.run,h8,hck,hx2]
          · refine hset (ents.modify i fun e=>{ e with key:=a.eval k',val:=a.eval v' }) clock (fun N' w' hN=>?_) ?_
            · rcases found_put (w':=w') hkv hdv hN hx1 h9 hes' with ⟨hh,_⟩ | ⟨i',v1,e1,hh,_,_,hh2⟩
              · cases hh
              · injection hh with hh;injection hh with hh _;subst hh
                rw [Array.toList_modify];exact hh2
            · have i1':ents[i]? = some e0:=by simpa using i1
              simp [execOp,ho,g2,Instr.mapUpdate,run_underlying hu,getObj,setObj,Sem.run,h8,hck,hx2,i1',Instr.keyThatStays,i2]
        · cases he
      · cases he
    · cases h4
  · cases hc
end
end Go.Proofs.YtgmphfmoonbfpaaMv

set_option maxRecDepth 2000
namespace Go.Proofs.YtgmphfmoonbfpaaMv
open Go
section
variable {P:Program} {X:Nat→Prop} {h:Hp} {B:Gh} {w:World} {f:Fr} {a:Act} {call:FuncId→List V→Option V} {dst:Nat} {o:Oper} {e:Eff}
structure AppTy (P:Program) (t tx el:TypeId) (i:TypeInfo) (z:Value) (sz bytes:Nat):Prop where
  ht:P.underlying t=some (.slice el)
  hi:P.info? el=some i
  hz:i.zero=some z
  hsz:i.size=sz
  hby:i.bytes=bytes
  hzs:z.cells.size=sz
  hk:(∃ e',P.underlying tx=some (.slice e'))∨P.underlying tx=some .string
  pos:0<sz
  bpos:0<bytes
theorem hset_self {u s:Nat} {ob:Ob} (ho:h u s=some ob):hset h u s (some ob)=h:=by
  funext u' s'
  simp only [hset]
  split
  · rename_i hh;rw [hh.1,hh.2,ho]
  · rfl
theorem gset_self (u s:Nat) (p:Path):gset B u s p (B u s p)=B:=by
  funext u' s' q
  by_cases hh:u'=u∧s'=s∧q=p
  · obtain ⟨rfl,rfl,rfl⟩:=hh;rw [gset_same]
  · rw [gset_ne _ _ _ _ _ hh]
theorem run_grow {t tx ty el:TypeId} {i:TypeInfo} {z:Value} {sz bytes:Nat} (A:AppTy P t tx el i z sz bytes) {N:Nat→Prop} {yv:Value} {ys:List (List C)} {news:List Value} (E:ElemsOk w N sz yv ys news)
    {base:Option Addr} {len cap:Nat} {olds:List Value} (hol:olds.length=len * sz) (hold:(Builtin.firstCells sz len (.slice base len cap)).run P w.drew = .ok olds.toArray w.drew) (hg:cap<len+ys.length) (hroom:(len+ys.length) * bytes≤room) :
    ∃ (c':Nat) (arr:Array Value),len+ys.length≤c'∧arr.size=c' * sz∧(∀ j,j<(len+ys.length) * sz→arr[j]? = (olds++news)[j]?) ∧
      (Builtin.append_ #[t,tx] ty #[.slice base len cap,yv]).run P w = .ok (.slice (some ⟨w.heap.size,0,none⟩) (len+ys.length) c') (w.drew.alloc (.cells arr el)):=by
  obtain ⟨ht,hi,hz,hsz,hby,hzs,hk,pos,bpos⟩:=A
  subst hsz;subst hby
  have hr':(len+ys.length) * i.bytes≤140737488355328:=hroom
  have h63:len+ys.length≤(len+ys.length) * i.bytes:=Nat.le_mul_of_pos_right _ bpos
  have hge:=grownCap_ge w (len+ys.length) cap el
  have hrun:=run_append_grow_src (P:=P) w t tx ty el i z ht hi hz base len cap olds hold yv ys.length news (E.toSrc hk) hg (by omega) (growslice_fits hg hr')
  refine ⟨_,_,hge, ?_, ?_,hrun⟩
  · simp only [Array.size_append,List.size_toArray,List.length_append,size_zeroCells,hol,E.len,hzs]
    rw [←Nat.add_mul,←Nat.add_mul,Nat.add_sub_cancel' hge]
  · intro j hj
    rw [Array.getElem?_append_left (by simp only [List.size_toArray,List.length_append,hol,E.len];rw [←Nat.add_mul];exact hj)]
    simp
theorem run_append_nil {t tx ty el:TypeId} {i:TypeInfo} {z:Value} {sz bytes:Nat} (A:AppTy P t tx el i z sz bytes) {N:Nat→Prop} {yv:Value} {news:List Value} (E:ElemsOk w N sz yv [] news) {base:Option Addr} {len cap:Nat} (hle:len≤cap) :
    (Builtin.append_ #[t,tx] ty #[.slice base len cap,yv]).run P w = .ok (.slice base len cap) w:=by
  obtain ⟨ht,hi,hz,hsz,hby,hzs,hk,pos,bpos⟩:=A
  subst hsz;subst hby
  have S:=E.toSrc (P:=P) hk
  have hn:news=[]:=List.length_eq_zero_iff.1 (by simpa using E.len)
  subst hn
  have hcs:=S.cells
  have hlen:=S.len
  simp only [List.length_nil] at hcs hlen
  rcases hk with ⟨e',hk⟩ | hk <;> cases base <;> simp [Builtin.append_,run_underlying ht,run_underlying hk,sizeOf,typeInfo,hi,hlen,hle,hcs,storeCells]
theorem cellAt_app {es ys:List (List C)} {e1 o1:Nat} {c:C} (hc:cellAt (es++ys) e1 o1=some c):cellAt es e1 o1=some c∨(es.length≤e1∧cellAt ys (e1 - es.length) o1=some c):=by
  rw [cellAt_append] at hc
  split at hc
  · exact .inl hc
  · exact .inr ⟨by omega,hc⟩
theorem append_root {t tx ty el:TypeId} {i:TypeInfo} {z:Value} {bytes:Nat} {r:Row} (A:AppTy P t tx el i z r.sz bytes) (H:HRel X h B w) {s:Nat} (ho:h 0 s=some (.row false r.sz r.nn r.es)) {xv yv:Value} {ys:List (List C)} {news:List Value}
    (E:ElemsOk w (Forb X h B) r.sz yv ys news) (hx:Hdr w (B 0 s []) r 0 r.es.length xv) (hroom:(r.es.length+ys.length) * bytes≤room) :
    ∃ xv' w' b',(Builtin.append_ #[t,tx] ty #[xv,yv]).run P w = .ok xv' w'∧Tr X h B w [.root 0 s] (hset h 0 s (some (.row false r.sz r.nn (r.es++ys)))) (gset B 0 s [] b') w' ∧
      RV1 X (hset h 0 s (some (.row false r.sz r.nn (r.es++ys)))) (gset B 0 s [] b') w' (.msl 0 s [] 0 (r.es.length+ys.length)) xv':=by
  have hnr:nd h 0 s []=some (.row r):=by simp [nd,ho,Ob.nd?,ndGo]
  by_cases hy:ys=[]
  · subst hy
    have hxr:∃ base len cap,xv = .slice base len cap∧len≤cap:=by
      rcases hx with ⟨_,_,rfl⟩ | ⟨_,a,cap,arr,t,fr,_,_,h3,rfl,_⟩
      · exact ⟨_,_,_,rfl,Nat.le_refl _⟩
      · exact ⟨_,_,_,rfl,h3⟩
    obtain ⟨base,len,cap,rfl,hle⟩:=hxr
    refine ⟨_,w,B 0 s [],run_append_nil A E hle, ?_, ?_⟩
    · rw [List.append_nil,hset_self ho,gset_self]
      exact (Tr.refl H).more [.root 0 s]
    · rw [List.append_nil,hset_self ho,gset_self]
      exact ⟨r,hnr,by simp,by simpa using hx⟩
  · have hyp:0<ys.length:=List.length_pos_iff.2 hy
    let r1:Row:=⟨r.sz,r.nn,r.es++ys⟩
    have hlive1:(Nd.row r1).live:=.inr (by simp [r1,hy])
    have hsub:∀ e o c,cellAt r1.es e o=some c→cellAt r.es e o=some c∨c.flat:=by
      intro e1 o1 c hc
      rcases cellAt_app hc with h1 | ⟨_,h1⟩
      · exact .inl h1
      · obtain ⟨d,v,rfl,_⟩:=E.cell _ _ _ h1
        exact .inr trivial
    have hrows:∀ (w':World) (b':Nat) (arr:Array Value) (tt:TypeId) (fr:Nat × Nat) (olds:List Value),(r.es=[]∨w.heap[B 0 s []]? ≠ none)→olds.length=r.es.length * r.sz →
        (∀ (a0:Array Value) t0 f0,w.heap[B 0 s []]? = some (.cells a0 t0 f0)→∀ j,j<r.es.length * r.sz→olds[j]? = a0[j]?) →
        w'.heap[b']? = some (.cells arr tt fr)→(∀ i,i<arr.size→¬(fr.1≤i∧i<fr.2))→(r.es.length+ys.length) * r.sz≤arr.size→(∀ j,j<(r.es.length+ys.length) * r.sz→arr[j]? = (olds++news)[j]?) →
        ∀ N',(∀ x v,RD w (Forb X h B) x v→RD w' N' x v)→(∀ b c v,RC (Forb X h B) w b c v→RC N' w' b c v)→Rows N' w' (gset B 0 s [] b' 0 s) [] r1:=by
      intro w' b' arr tt fr olds _ hol hold hb hfr hsz harr N' hN hRC
      refine ⟨arr,tt,fr,by rw [gset_same];exact hb,hfr, ?_,by simpa [r1] using hsz,fun e1 o1 c hc=>?_⟩
      · intro cs hcs
        simp only [r1,List.mem_append] at hcs
        rcases hcs with h1 | h1
        · by_cases he:r.es=[]
          · rw [he] at h1;cases h1
          · obtain ⟨_,_,_,_,_,hl,_,_⟩:=H.node 0 s [] _ hnr (.inr he)
            exact hl _ h1
        · exact E.lens _ h1
      · rcases cellAt_app hc with h1 | ⟨hge,h1⟩
        · have he:r.es≠[]:=by intro hh;rw [hh] at h1;simp [cellAt] at h1
          obtain ⟨a0,t0,f0,k1,k2,k3,k4,k5⟩:=H.node 0 s [] _ hnr (.inr he)
          obtain ⟨l1,l2⟩:=cellAt_lt k3 h1
          obtain ⟨v,m1,m2⟩:=k5 e1 o1 c h1
          have hlt:=mul_lt_of l1 l2
          have hlt2:r.es.length * r.sz≤(r.es.length+ys.length) * r.sz:=Nat.mul_le_mul_right _ (by omega)
          refine ⟨v, ?_, ?_⟩
          · show arr[e1 * r.sz+o1]? = _
            rw [harr _ (by omega),List.getElem?_append_left (by omega),hold a0 t0 f0 k1 _ hlt];exact m1
          · rw [gset_ne _ _ _ _ _ (by simp)]
            exact hRC _ _ _ m2
        · obtain ⟨d,v,rfl,m1,m2,m3⟩:=E.cell _ _ _ h1
          obtain ⟨cs,q1,q2⟩:=cellAt_some h1
          have l1:=(List.getElem?_eq_some_iff.1 q1).1
          have l2:=(List.getElem?_eq_some_iff.1 q2).1
          rw [E.lens _ (List.mem_of_getElem? q1)] at l2
          have hlt:=mul_lt_of l1 l2
          have heq:e1 * r.sz+o1=r.es.length * r.sz+((e1 - r.es.length) * r.sz+o1):=by
            rw [←Nat.add_assoc,←Nat.add_mul,Nat.add_sub_cancel' hge]
          refine ⟨v, ?_,hN _ _ m2,m3⟩
          show arr[e1 * r.sz+o1]? = _
          rw [heq,harr _ (by rw [Nat.add_mul];omega),List.getElem?_append_right (by omega),hol]
          rw [show r.es.length * r.sz+((e1 - r.es.length) * r.sz+o1) - r.es.length * r.sz=(e1 - r.es.length) * r.sz+o1 by omega]
          exact m1
    have hnd1:∀ b':Nat,nd (hset h 0 s (some (.row false r.sz r.nn (r.es++ys)))) 0 s []=some (.row r1):=fun b'=>by rw [nd_hset_same];rfl
    have grow:∀ (base:Option Addr) (cap:Nat) (olds:List Value),(r.es=[]∨w.heap[B 0 s []]? ≠ none)→olds.length=r.es.length * r.sz →
        (∀ (a0:Array Value) t0 f0,w.heap[B 0 s []]? = some (.cells a0 t0 f0)→∀ j,j<r.es.length * r.sz→olds[j]? = a0[j]?) →
        (Builtin.firstCells r.sz r.es.length (.slice base r.es.length cap)).run P w.drew = .ok olds.toArray w.drew→cap<r.es.length+ys.length →
        ∃ xv' w' b',(Builtin.append_ #[t,tx] ty #[.slice base r.es.length cap,yv]).run P w = .ok xv' w'∧Tr X h B w [.root 0 s] (hset h 0 s (some (.row false r.sz r.nn (r.es++ys)))) (gset B 0 s [] b') w' ∧
          RV1 X (hset h 0 s (some (.row false r.sz r.nn (r.es++ys)))) (gset B 0 s [] b') w' (.msl 0 s [] 0 (r.es.length+ys.length)) xv':=by
      intro base cap olds h1 hol hold hrd hg
      obtain ⟨c',arr,g1,g2,g3,g4⟩:=run_grow (ty:=ty) A E hol hrd hg hroom
      have hsame:∀ b,b<w.heap.size→(w.drew.alloc (.cells arr el)).heap[b]? = w.heap[b]?:=fun b hb=>by
        show (w.heap.push _)[b]? = _
        rw [Array.getElem?_push,if_neg (by omega)]
      have hblk:(w.drew.alloc (.cells arr el)).heap[w.heap.size]? = some (.cells arr el (0,0)):=by
        show (w.heap.push _)[w.heap.size]? = _
        simp
      have hsz1:(r.es.length+ys.length) * r.sz≤arr.size:=by rw [g2];exact Nat.mul_le_mul_right _ g1
      refine ⟨_,_,w.heap.size,g4,tr_root (r:=r) (r1:=r1) H ho hlive1 hsub rfl rfl rfl (by show _≤(w.heap.push _).size;simp) (.inr (Nat.le_refl _)) (fun b hb _=>hsame b hb) (.of_same hsame)
        (hrows _ _ arr el (0,0) olds h1 hol hold hblk (fun i _=>by omega) hsz1 g3), ?_⟩
      refine ⟨r1,hnd1 w.heap.size,by simp [r1], .inr ⟨.inr (by simp [r1,hy]),⟨w.heap.size,0,none⟩,c',arr,el,(0,0),by rw [gset_same];exact hblk,by simpa [r1] using g2,g1,rfl,fun _=>by rw [gset_same];simp⟩⟩
    rcases hx with ⟨hn,he,rfl⟩ | ⟨hlv,ad,cap,arr,tt,fr,hb,hsz,hle,rfl,had⟩
    · have:=grow none 0 [] (.inl he) (by simp [he]) (fun a0 t0 f0 _ j hj=>by simp [he] at hj) (run_firstCells_none _ _ _ _ _) (by omega)
      simpa [he] using this
    · obtain ⟨arr0,t0,f0,k1,k2,k3,k4,k5⟩:=H.node 0 s [] _ hnr hlv
      have k1':=k1
      rw [hb] at k1'
      injection k1' with k1'
      injection k1' with q1 q2 q3
      subst q1;subst q2;subst q3
      have hsz':arr.size=cap * r.sz:=by simpa using hsz
      by_cases hroom2:r.es.length+ys.length≤cap
      · have had':=had (by omega)
        simp only [Nat.zero_mul] at had'
        subst had'
        have hfit:r.es.length * r.sz+news.length≤arr.size:=by
          rw [hsz',E.len,←Nat.add_mul];exact Nat.mul_le_mul_right _ hroom2
        obtain ⟨W,arr',hb',hs',hin,hout⟩:=setCells_blk (B 0 s []) tt fr news (r.es.length * r.sz) w arr hb hfit
        obtain ⟨ht,hi,hz,hisz,hby,hzs,hk,pos,bpos⟩:=A
        have hrun:=run_append_room_src (P:=P) w t tx ty el i ht hi (B 0 s []) 0 r.es.length cap yv ys.length news (by rw [hisz];exact E.toSrc hk) hroom2 (fun j hj=>by
            rw [hisz]
            simp only [World.cell?,hb,Nat.zero_add]
            simp
            omega) (fun j hj=>by
            rw [hisz]
            simp only [World.frozen?,hb]
            have:=k2 (0+r.es.length * r.sz+j) (by omega)
            simp at this ⊢
            exact this)
        rw [hisz,Nat.zero_add] at hrun
        refine ⟨_,_,B 0 s [],hrun,tr_root (r:=r) (r1:=r1) H ho hlive1 hsub W.os W.tape W.output (by rw [W.size];exact Nat.le_refl _) (.inl ⟨rfl,hlv⟩) (fun b _ hne=>W.keep b hne) (fun b a1 t1 f1 hb1=>?_)
          (hrows _ _ arr' tt fr (arr.toList.take (r.es.length * r.sz)) (.inr (by rw [hb];simp)) (by simp;omega) (fun a0 t0 f0 hb0 j hj=>?_) hb' (by rw [hs'];exact k2) (by rw [hs',hsz'];exact Nat.mul_le_mul_right _ hroom2) (fun j hj=>?_)), ?_⟩
        · by_cases hbb:b=B 0 s []
          · subst hbb
            rw [hb] at hb1
            injection hb1 with hb1
            injection hb1 with z1 z2 z3
            subst z1;subst z2;subst z3
            exact ⟨arr',hb',hs'⟩
          · exact ⟨a1,(W.keep b hbb).trans hb1,rfl⟩
        · rw [hb] at hb0
          injection hb0 with hb0
          injection hb0 with z1 z2 z3
          subst z1
          rw [List.getElem?_take_of_lt hj];simp
        · by_cases hlt:j<r.es.length * r.sz
          · rw [hout j (.inl hlt),List.getElem?_append_left (by simp;omega),List.getElem?_take_of_lt hlt];simp
          · rw [List.getElem?_append_right (by simp;omega)]
            have hl:(arr.toList.take (r.es.length * r.sz)).length=r.es.length * r.sz:=by simp;omega
            rw [hl]
            rw [Nat.add_mul] at hj
            have hnl:j - r.es.length * r.sz<news.length:=by rw [E.len];omega
            have hn:news[j - r.es.length * r.sz]? = some news[j - r.es.length * r.sz]:=List.getElem?_eq_getElem hnl
            have:=hin _ _ hn
            rw [Nat.add_sub_cancel' (by omega)] at this
            rw [this,hn]
        · refine ⟨r1,hnd1 0,by simp [r1], .inr ⟨.inr (by simp [r1,hy]),⟨B 0 s [],0,none⟩,cap,arr',tt,fr,by rw [gset_same];exact hb',by rw [hs'];simpa [r1] using hsz',by simpa [r1] using hroom2,rfl,fun _=>by rw [gset_same];simp⟩⟩
      · refine grow (some ad) cap (arr.toList.take (r.es.length * r.sz)) (.inr (by rw [hb];simp)) (by simp;omega) (fun a0 t0 f0 hb0 j hj=>?_) ?_ (by omega)
        · rw [hb] at hb0
          injection hb0 with hb0
          injection hb0 with z1 z2 z3
          subst z1
          rw [List.getElem?_take_of_lt hj];simp
        · refine run_firstCells_some _ _ _ _ _ _ _ (by simp;omega) (fun j v hj=>?_)
          have hlt:=(List.getElem?_eq_some_iff.1 hj).1
          have hlt':j<r.es.length * r.sz:=by simp at hlt;omega
          have hcap:cap≠0:=by
            intro hh;subst hh
            have:r.es.length=0:=by omega
            rw [this] at hlt';simp at hlt'
          have had':=had hcap
          simp only [Nat.zero_mul] at had'
          subst had'
          rw [List.getElem?_take_of_lt hlt'] at hj
          rw [add_at,Nat.zero_add]
          show w.cell? _=_
          simp only [World.cell?,hb]
          simpa using hj
end
end Go.Proofs.YtgmphfmoonbfpaaMv

namespace Go.Proofs.YtgmphfmoonbfpaaMv
open Go
section
variable {X:Nat→Prop} {h:Hp} {B:Gh} {w:World}
theorem hset_hset (h:Hp) (u s:Nat) (o o':Option Ob):hset (hset h u s o) u s o'=hset h u s o':=by
  funext u' s'
  simp only [hset]
  split <;> rfl
theorem rd_nil {N:Nat→Prop} {v:Value} (H:RD w N (.sl false []) v):v = .slice none 0 0:=by
  generalize hq:D.sl false []=q at H
  cases H with
  | slnil=>rfl
  | sl nn es ad sz cap cvs h0=>injection hq with q1 q2;subst q1;subst q2;simp at h0
  | _=>cases hq
theorem tr_own (H:HRel X h B w) {u s:Nat} {fx:Bool} {r r1:Row} (ho:h u s=some (.row fx r.sz r.nn r.es)) (hs:Shp r r1)
    (hlens:(∀ cs ∈ r.es,cs.length=r.sz)→∀ cs ∈ r1.es,cs.length=r1.sz)
    (hc:∀ e o c',cellAt r1.es e o=some c'→cellAt r.es e o=some c'∨(cellAt r.es e o=some (.d (.sl false [])) ∧ ∃ k,c' = .own k false []))
    (hback:∀ e o c,cellAt r.es e o=some c→¬c.flat→cellAt r1.es e o=some c) :
    Tr X h B w [] (hset h u s (some (.row fx r1.sz r1.nn r1.es))) B w:=by
  have hnr:nd h u s []=some (.row r):=by simp [nd,ho,Ob.nd?,ndGo]
  have hlv:(Nd.row r1).live→(Nd.row r).live:=fun hl=>by
    rcases hl with h1 | h1
    · exact .inl (hs.nn.trans h1)
    · exact .inr fun he=>h1 ((es_nil_iff hs.len).1 he)
  have hnd:∀ u' s' p n,nd (hset h u s (some (.row fx r1.sz r1.nn r1.es))) u' s' p=some n→n.live→(u'=u∧s'=s∧p=[]∧n = .row r1)∨(¬(u'=u∧s'=s∧p=[])∧nd h u' s' p=some n):=by
    intro u' s' p n hn hl
    by_cases hh:u'=u∧s'=s
    · obtain ⟨rfl,rfl⟩:=hh
      rw [nd_hset_same] at hn
      simp only [Option.bind_some,Ob.nd?] at hn
      cases p with
      | nil=>simp only [ndGo,Option.some.injEq] at hn;exact .inl ⟨rfl,rfl,rfl,hn.symm⟩
      | cons x p=>
        obtain ⟨e,o⟩:=x
        refine .inr ⟨by simp, ?_⟩
        have:nd h u' s' ((e,o)::p)=ndGo r ((e,o)::p):=by simp [nd,ho,Ob.nd?]
        rw [this,←hn]
        cases hcc:cellAt r1.es e o with
        | none=>simp [ndGo,hcc] at hn
        | some c=>
          rcases hc e o c hcc with h1 | ⟨_,k,rfl⟩
          · exact ndGo_cons_same (h1.trans hcc.symm)
          · simp only [ndGo,hcc] at hn
            cases p with
            | nil=>simp only [ndGo,Option.some.injEq] at hn;subst hn;simp [Nd.live] at hl
            | cons y p=>obtain ⟨e1,o1⟩:=y;simp [ndGo,cellAt] at hn
    · rw [nd_hset_ne hh] at hn;exact .inr ⟨fun h=>hh ⟨h.1,h.2.1⟩,hn⟩
  have hsub0:∀ u' s' p n,nd (hset h u s (some (.row fx r1.sz r1.nn r1.es))) u' s' p=some n→n.live→∃ n0,nd h u' s' p=some n0∧n0.live∧B u' s' p=B u' s' p:=by
    intro u' s' p n h1 h2
    rcases hnd _ _ _ _ h1 h2 with ⟨rfl,rfl,rfl,rfl⟩ | ⟨_,h3⟩
    · exact ⟨_,hnr,hlv h2,rfl⟩
    · exact ⟨n,h3,h2,rfl⟩
  have hsub:∀ {b},Own (hset h u s (some (.row fx r1.sz r1.nn r1.es))) B b→Own h B b:=fun hb=>own_sub hsub0 hb
  have stp:Stp (Own h B) w (Own (hset h u s (some (.row fx r1.sz r1.nn r1.es))) B) w:=⟨rfl,rfl,rfl,Nat.le_refl _,fun _ _ _=>rfl,fun _ _ hb=>hsub hb⟩
  refine ⟨⟨fun u' s' p n h1 h2=>?_,fun u1 s1 p1 n1 u2 s2 p2 n2 a1 a2 b1 b2 hb=>?_,H.ext,fun b hb=>H.apart b (hsub hb)⟩,rv_move stp (.refl w) (fun u' s' p n _ hn=>?_),stp⟩
  · rcases hnd _ _ _ _ h1 h2 with ⟨rfl,rfl,rfl,rfl⟩ | ⟨_,h3⟩
    · obtain ⟨arr,t,fr,k1,k2,k3,k4,k5⟩:=H.node _ _ _ _ hnr (hlv h2)
      refine ⟨arr,t,fr,k1,k2,hlens k3,by rw [←hs.len,←hs.sz];exact k4,fun e o c hcc=>?_⟩
      rw [show e * r1.sz+o=e * r.sz+o by rw [hs.sz]]
      rcases hc e o c hcc with h1 | ⟨h1,k,rfl⟩
      · obtain ⟨v,m1,m2⟩:=k5 e o c h1
        exact ⟨v,m1,m2.move .rfl' (fun x v=>stp.rd) (fun _ _ _ _ hh=>hh) (fun _ _=>rfl)⟩
      · obtain ⟨v,m1,m2⟩:=k5 e o _ h1
        refine ⟨v,m1, .inl ⟨rfl,rfl,rd_nil m2.1⟩⟩
    · exact (H.node u' s' p n h3 h2).move .rfl' rfl (fun x v=>stp.rd) (fun r e o sz nn es v _ _ hh=>hh) (fun _ _ _ _ _ _=>rfl)
  · obtain ⟨m1,c1,d1,_⟩:=hsub0 _ _ _ _ a1 a2
    obtain ⟨m2,c2,d2,_⟩:=hsub0 _ _ _ _ b1 b2
    exact H.inj _ _ _ _ _ _ _ _ c1 d1 c2 d2 hb
  · by_cases hh:u'=u∧s'=s
    · obtain ⟨rfl,rfl⟩:=hh
      cases p with
      | nil=>
        rw [hnr] at hn
        injection hn with hn
        subst hn
        exact ⟨.row r1,by rw [nd_hset_same];rfl, .row hs,rfl⟩
      | cons x p=>
        obtain ⟨e,o⟩:=x
        have h0:nd h u' s' ((e,o)::p)=ndGo r ((e,o)::p):=by simp [nd,ho,Ob.nd?]
        have h1:nd (hset h u' s' (some (.row fx r1.sz r1.nn r1.es))) u' s' ((e,o)::p)=ndGo r1 ((e,o)::p):=by rw [nd_hset_same];rfl
        rw [h0] at hn
        rw [h1]
        cases hcc:cellAt r.es e o with
        | none=>simp [ndGo,hcc] at hn
        | some c=>
          by_cases hf:c.flat
          · rw [ndGo_cons_flat hcc hf] at hn;cases hn
          · exact ⟨n,by rw [←hn];exact ndGo_cons_same ((hback e o c hcc hf).trans hcc.symm), .rfl',rfl⟩
    · exact ⟨n,by rw [nd_hset_ne hh];exact hn, .rfl',rfl⟩
theorem cellAt_ownify {es ys:List (List C)} (own:List (Nat × Nat)) (e o:Nat):cellAt (es++ys.map (ownify own)) e o=if e<es.length then cellAt (es++ys) e o else (cellAt (es++ys) e o).map (own1 own o):=by
  rw [cellAt_append,cellAt_append]
  split
  · rfl
  · simp only [cellAt,List.getElem?_map]
    cases ys[e - es.length]? with
    | none=>rfl
    | some cs=>simp [ownify_get]
theorem tr_ownify (H:HRel X h B w) {u s:Nat} {fx:Bool} {sz:Nat} {nn:Bool} {es ys:List (List C)} (ho:h u s=some (.row fx sz nn (es++ys))) (own:List (Nat × Nat)) :
    Tr X h B w [] (hset h u s (some (.row fx sz nn (es++ys.map (ownify own))))) B w:=by
  refine tr_own (r:=⟨sz,nn,es++ys⟩) (r1:=⟨sz,nn,es++ys.map (ownify own)⟩) H ho ⟨rfl,rfl,by simp⟩ (fun hl cs hcs=>?_) (fun e o c' hc=>?_) (fun e o c hc hf=>?_)
  · simp only [List.mem_append,List.mem_map] at hcs hl ⊢
    rcases hcs with h1 | ⟨c,h1,rfl⟩
    · exact hl _ (.inl h1)
    · rw [ownify_length];exact hl _ (.inr h1)
  · simp only at hc ⊢
    rw [cellAt_ownify] at hc
    split at hc
    · exact .inl hc
    · simp only [Option.map_eq_some_iff] at hc
      obtain ⟨c,hc,rfl⟩:=hc
      rcases own1_of (own:=own) (i:=o) (c:=c) with h1 | ⟨rfl,k,h1⟩
      · rw [h1];exact .inl hc
      · exact .inr ⟨hc,k,h1⟩
  · simp only at hc ⊢
    rw [cellAt_ownify]
    split
    · exact hc
    · rw [hc]
      simp only [Option.map_some,Option.some.injEq]
      exact own1_nonflat hf
end
end Go.Proofs.YtgmphfmoonbfpaaMv

set_option maxRecDepth 2000
namespace Go.Proofs.YtgmphfmoonbfpaaMv
open Go
section
variable {P:Program} {X:Nat→Prop} {h:Hp} {B:Gh} {w:World} {f:Fr} {a:Act} {call:FuncId→List V→Option V} {dst:Nat} {o:Oper} {e:Eff}
theorem rowGo_append:∀ (p:Path) (r r0:Row) (q:Path),rowGo r p=some r0→rowGo r (p++q)=rowGo r0 q
  | [],r,r0,q,h=>by simp [rowGo] at h;subst h;rfl
  | (e,o)::p,r,r0,q,h=>by
    simp only [List.cons_append,rowGo] at h ⊢
    split at h
    · rename_i hc;exact rowGo_append p _ r0 q h
    · cases h
theorem rowGo_snoc {p:Path} {e o:Nat} {r r0 r1:Row} (h:rowGo r (p++[(e,o)])=some r1) (h0:rowGo r p=some r0):cellAt r0.es e o=some (.own r1.sz r1.nn r1.es):=by
  rw [rowGo_append p r r0 _ h0] at h
  simp only [rowGo] at h
  split at h
  · rename_i sz nn es hc
    simp only [Option.some.injEq] at h
    subst h;exact hc
  · cases h
theorem ElemsOk.mono {N N':Nat→Prop} {sz:Nat} {x:Value} {es:List (List C)} {news:List Value} (hm:∀ d v,RD w N d v→RD w N' d v) (E:ElemsOk w N sz x es news):ElemsOk w N' sz x es news:=
  ⟨E.len,E.lens,fun i j c hc=>by
    obtain ⟨d,v,h1,h2,h3,h4⟩:=E.cell i j c hc
    exact ⟨d,v,h1,h2,hm _ _ h3,h4⟩,E.one,E.src⟩
theorem allDs_len {es:List (List C)} {ds:List (List D)} (h:allDs es=some ds):ds.length=es.length:=by
  rw [allDs_get h];simp
theorem append_data {t tx ty el:TypeId} {i:TypeInfo} {z:Value} {sz bytes:Nat} (A:AppTy P t tx el i z sz bytes) (H:HRel X h B w) {yv:Value} {ys:List (List C)} {news:List Value} {ds:List (List D)} {base:Option Addr} {nn:Bool} (hnn:base.isSome=nn)
    (E:ElemsOk w (Forb X h B) sz yv ys news) (hds:allDs ys=some ds) (hroom:ys.length * bytes≤room) :
    ∃ xv' w',(Builtin.append_ #[t,tx] ty #[.slice base 0 0,yv]).run P w = .ok xv' w'∧Tr X h B w [] h B w'∧RD w' (Forb X h B) (.sl (nn || !ds.isEmpty) ds) xv':=by
  have hlen:=allDs_len hds
  by_cases hy:ys=[]
  · subst hy
    have hd:ds=[]:=List.length_eq_zero_iff.1 (by simpa using hlen)
    subst hd
    refine ⟨_,w,run_append_nil A E (Nat.le_refl _),Tr.refl H, ?_⟩
    cases base with
    | none=>subst hnn;exact .slnil
    | some ad=>
      subst hnn
      exact .sl true [] ad 0 0 (fun _ _=>undef) (.inl rfl) (Nat.le_refl _) (fun cs hcs=>by cases hcs) (fun i j d hd=>by simp [dAt] at hd) (fun i j d hd=>by simp [dAt] at hd) (fun i j d hd=>by simp [dAt] at hd) (fun i j d hd=>by simp [dAt] at hd)
  · have hyp:0<ys.length:=List.length_pos_iff.2 hy
    have hne:ds≠[]:=by intro hh;rw [hh] at hlen;simp at hlen;omega
    have hrd:(Builtin.firstCells sz 0 (.slice base 0 0)).run P w.drew = .ok ([]:List Value).toArray w.drew:=by
      cases base with
      | none=>exact run_firstCells_none _ _ _ _ _
      | some ad=>exact run_firstCells_some _ _ _ _ _ _ _ (by simp) (fun j v hj=>by simp at hj)
    obtain ⟨c',arr,g1,g2,g3,g4⟩:=run_grow (ty:=ty) A E (len:=0) (cap:=0) (olds:=[]) (by simp) hrd (by omega) (by simpa using hroom)
    have hsame:∀ b,b<w.heap.size→(w.drew.alloc (.cells arr el)).heap[b]? = w.heap[b]?:=fun b hb=>by
      show (w.heap.push _)[b]? = _
      rw [Array.getElem?_push,if_neg (by omega)]
    have hblk:(w.drew.alloc (.cells arr el)).heap[w.heap.size]? = some (.cells arr el (0,0)):=by
      show (w.heap.push _)[w.heap.size]? = _
      simp
    have T:Tr X h B w [] h B (w.drew.alloc (.cells arr el)):=tr_world H rfl rfl rfl (by show _≤(w.heap.push _).size;simp) hsame
    refine ⟨_,_,g4,T, ?_⟩
    have hnd:(nn || !ds.isEmpty)=true:=by cases ds with | nil=>exact absurd rfl hne | cons=>simp
    rw [hnd]
    have hys:=allDs_get hds
    have hl:∀ cs ∈ ds,cs.length=sz:=by
      intro cs hcs
      have:=E.lens (cs.map .d) (by rw [hys];exact List.mem_map_of_mem hcs)
      simpa using this
    have:=rd_fresh H T (Nat.le_refl _) hblk (es:=ds) (sz:=sz) (cap:=c') (nn:=true) (.inl rfl) (by omega) hl (fun i j d hd=>by
      obtain ⟨cs,q1,q2⟩:=dAt_lt hd
      have l1:=(List.getElem?_eq_some_iff.1 q1).1
      have l2:=(List.getElem?_eq_some_iff.1 q2).1
      rw [hl _ (List.mem_of_getElem? q1)] at l2
      have hlt:=mul_lt_of (n:=ys.length) (show i<ys.length by omega) l2
      have hc:cellAt ys i j=some (.d d):=by
        rw [hys]
        simp [cellAt,q1,q2]
      obtain ⟨d',v,hd',m1,m2,m3⟩:=E.cell _ _ _ hc
      injection hd' with hd'
      subst hd'
      exact ⟨v,by rw [g3 _ (by simpa using hlt)];simpa using m1,m3,m2⟩)
    rw [Nat.zero_add,←hlen]
    exact this
theorem eff_app (H:HRel X h B w) (F:FRel X h B w f a) {fz:Bool} {own:List (Nat × Nat)} {sz bytes:Nat} {x y:Opd} (he:eff call f h dst (.app fz own sz bytes x y)=some e) (hc:chk P o.op o.type (.app fz own sz bytes x y)=true):EffOk P X h B w (execOp a.eval o) e:=by
  simp only [eff,Option.bind_eq_some_iff,Prod.exists] at he
  obtain ⟨ys,rd,hel,he⟩:=he
  simp only [chk] at hc
  split at hc
  · rename_i args' ts ho
    simp only [Bool.and_eq_true,decide_eq_true_eq] at hc
    obtain ⟨⟨ha,⟨hts,h1⟩,h2⟩,hpos,hbpos⟩:=hc
    obtain ⟨xo,yo,rfl,hxo,hyo⟩:=opds2 ha
    obtain ⟨t,ht0,h1⟩:=opt_any h1
    obtain ⟨el,hel0,h1⟩:=opt_any h1
    simp only [Bool.and_eq_true] at h1
    obtain ⟨h3,h4,h5⟩:=h1
    obtain ⟨i,hi,h6⟩:=opt_any h5
    obtain ⟨z,hz,h7⟩:=opt_any h6
    obtain ⟨tx,htx,h8⟩:=opt_any h2
    obtain ⟨i',hi',hsz⟩:=sizeIs_spec h3
    rw [hi] at hi';injection hi' with hi';subst hi'
    have hby:i.bytes=bytes:=by
      unfold bytesIs at h4
      simpa [hi] using h4
    have hk:(∃ e',P.underlying tx=some (.slice e'))∨P.underlying tx=some .string:=by
      split at h8
      · rename_i hh;exact .inr hh
      · rename_i e' hh;exact .inl ⟨e',hh⟩
      · cases h8
    have htse:ts = #[t,tx]:=by
      apply Array.ext
      · simp [hts]
      · intro j hj1 hj2
        rw [hts] at hj1
        match j with
        | 0=>have:=(Array.getElem?_eq_some_iff.1 ht0).2;simpa using this
        | 1=>have:=(Array.getElem?_eq_some_iff.1 htx).2;simpa using this
        | j+2=>omega
    subst htse
    have A:AppTy P t tx el i z sz bytes:=⟨sliceElem_spec hel0,hi,hz,hsz,hby,by simpa using h7,hk,hpos,hbpos⟩
    have hyv:=opd_ok F hyo
    obtain ⟨news,E⟩:=elems_ok H hyv hel
    have hrun:∀ {xv' w'},(Builtin.append_ #[t,tx] o.type #[a.eval xo,a.eval yo]).run P w = .ok xv' w'→(execOp a.eval o).run P w = .ok (.value xv') w':=by
      intro xv' w' hr
      simp [execOp,ho,resolve,invoke,builtin,hr]
    have hxv:=opd_ok F hxo
    split at he
    · rename_i u s p off n hx
      rw [hx] at hxv
      simp only [Option.bind_eq_some_iff] at he
      obtain ⟨ob,hob,r,hr,he⟩:=he
      split at he
      · rename_i hcond
        obtain ⟨rfl,hn,rfl,hroom,hnrd,hfz⟩:=hcond
        obtain ⟨r',hr',hle,hh⟩:=hxv
        rw [nd_of_row? hob hr] at hr'
        injection hr' with hr';injection hr' with hr';subst hr'
        subst hn
        split at he
        · rename_i hp
          have hp':p=[]:=by simpa using hp
          subst hp'
          split at he
          · rename_i sz' nn es
            simp only [Option.some.injEq] at he
            subst he
            simp only [Ob.row?,rowGo,Option.some.injEq] at hr
            subst hr
            obtain ⟨xv',w',b',k1,k2,k3⟩:=append_root (ty:=o.type) A H hob E hh hroom
            have T3:=tr_ownify k2.hr (hset_same ..) own
            rw [hset_hset] at T3
            have T:=k2.trans T3
            have k4:=T3.rv _ _ k3
            exact ⟨_,_,_,_,hrun k1, .inl rfl,T, .of1 k4⟩
          · cases he
        · rename_i e1 o1 hp
          simp only [Option.bind_eq_some_iff] at he
          obtain ⟨q,hq,he⟩:=he
          split at he
          · rename_i hne
            simp only [Option.some.injEq] at he
            subst he
            have hpp:p=p.dropLast++[(e1,o1)]:=by
              have hpne:p≠[]:=by intro hh;rw [hh] at hp;simp at hp
              have hgl:p.getLast hpne=(e1,o1):=by
                rw [List.getLast?_eq_some_getLast hpne] at hp
                injection hp
              rw [←hgl];exact (List.dropLast_concat_getLast hpne).symm
            have hown:cellAt q.es e1 o1=some (.own r.sz r.nn r.es):=by
              cases ob with
              | map es=>cases hr
              | row fx sz0 nn0 es0=>
                simp only [Ob.row?] at hr hq
                rw [hpp] at hr
                exact rowGo_snoc hr hq
            have T1:=tr_del H 0 dst
            have hne':¬(u=0∧s=dst):=by
              rintro ⟨rfl,rfl⟩;exact hne rfl
            have hob1:(hset h 0 dst none) u s=some ob:=by rw [hset_ne _ _ _ _ hne'];exact hob
            have T2:=tr_moveout (fx:=false) T1.hr hob1 hq hown (hset_same ..)
            have T12:=T1.trans T2
            have E':=E.mono (fun d v hd=>T12.stp.rd hd)
            have hB:ungraft B u s (p.dropLast++[(e1,o1)]) dst 0 dst []=B u s p:=by
              rw [ungraft_in,List.append_nil,←hpp]
            have hh':Hdr w (ungraft B u s (p.dropLast++[(e1,o1)]) dst 0 dst []) r 0 r.es.length (a.eval xo):=by rw [hB];exact hh
            obtain ⟨xv',w',b',k1,k2,k3⟩:=append_root (ty:=o.type) A T12.hr (hset_same ..) E' hh' hroom
            have T3:=tr_ownify k2.hr (hset_same ..) own
            have k4:=T3.rv _ _ k3
            have T:=T12.trans (k2.trans T3)
            have hfin:hset (hset (hset (hset (hset h 0 dst none) u s (some (ob.setRow p.dropLast { q with es:=setCells q.es e1 o1 [.bad] }))) 0 dst (some (.row false r.sz r.nn r.es))) 0 dst (some (.row false r.sz r.nn (r.es++ys)))) 0 dst (some (.row false r.sz r.nn (r.es++ys.map (ownify own)))) =
                updH h [(u,s,some (ob.setRow p.dropLast { q with es:=setCells q.es e1 o1 [.bad] })),(0,dst,some (.row false r.sz r.nn (r.es++ys.map (ownify own))))]:=by
              funext u' s'
              simp only [updH,hset]
              split
              · rfl
              · split <;> rfl
            rw [hfin] at T k4
            exact ⟨_,_,_,_,hrun k1, .inl rfl,T, .of1 k4⟩
          · cases he
      · cases he
    · rename_i nn hx
      rw [hx] at hxv
      split at he
      · rename_i hcond
        simp only [Option.map_eq_some_iff] at he
        obtain ⟨ds,hds,rfl⟩:=he
        obtain ⟨base,hb,hnn⟩:=hxv
        obtain ⟨xv',w',k1,k2,k3⟩:=append_data (ty:=o.type) A H hnn E hds hcond.2
        rw [hb] at hrun
        exact ⟨_,_,_,_,hrun k1, .inl rfl,k2, .of1 k3⟩
      · cases he
    · rename_i hx
      rw [hx] at hxv
      split at he
      · rename_i hcond
        simp only [Option.map_eq_some_iff] at he
        obtain ⟨ds,hds,rfl⟩:=he
        have hb:a.eval xo = .slice none 0 0:=by
          have hxv':RD w (Forb X h B) (.sl false []) (a.eval xo):=hxv
          generalize hq:D.sl false []=q at hxv'
          generalize a.eval xo=vv at hxv'
          cases hxv' with
          | slnil=>rfl
          | sl nn es ad sz cap cvs h0=>injection hq with q1 q2;subst q1;subst q2;simp at h0
          | _=>cases hq
        obtain ⟨xv',w',k1,k2,k3⟩:=append_data (ty:=o.type) (base:=none) (nn:=false) A H rfl E hds hcond.2
        rw [hb] at hrun
        have k3':RD w' (Forb X h B) (.sl (!ds.isEmpty) ds) xv':=by simpa using k3
        exact ⟨_,_,_,_,hrun k1, .inl rfl,k2, .of1 k3'⟩
      · cases he
    · cases he
  · cases hc
end
end Go.Proofs.YtgmphfmoonbfpaaMv

set_option maxRecDepth 2000
namespace Go.Proofs.YtgmphfmoonbfpaaMv
open Go
section
variable {P:Program} {X:Nat→Prop} {h:Hp} {B:Gh} {w:World} {f:Fr} {a:Act} {call:FuncId→List V→Option V} {dst:Nat} {o:Oper} {e:Eff}
theorem setGo_self:∀ (p:Path) (r r0:Row),rowGo r p=some r0→setGo r p r0=r
  | [],r,r0,h=>by simp [rowGo] at h;subst h;rfl
  | (e,o)::p,r,r0,h=>by
    simp only [rowGo] at h
    split at h
    · rename_i sz nn es hc
      have ih:=setGo_self p ⟨sz,nn,es⟩ r0 h
      simp only [setGo,hc,ih]
      have:setCells r.es e o [.own sz nn es]=r.es:=by
        apply List.ext_getElem?
        intro i
        rw [setCells_get]
        split
        · rename_i hi
          subst hi
          cases hx:r.es[i]? with
          | none=>rfl
          | some cs=>
            simp only [Option.map_some,Option.some.injEq]
            apply List.ext_getElem?
            intro j
            rw [overlay_get]
            split
            · rename_i hj
              simp only [List.length_singleton] at hj
              have:j=o:=by omega
              subst this
              have hc':cs[j]? = some (.own sz nn es):=by simpa [cellAt,hx] using hc
              rw [hc'];simp
            · rfl
        · rfl
      rw [this]
    · cases h
theorem setRow_self {ob:Ob} {p:Path} {r:Row} (hr:ob.row? p=some r):ob.setRow p r=ob:=by
  cases ob with
  | map es=>rfl
  | row fx sz nn es=>
    have:=setGo_self p ⟨sz,nn,es⟩ r hr
    simp only [Ob.setRow]
    rw [this]
theorem splice_get {es ys:List (List C)} {off m:Nat} (h1:off+m≤es.length) (h2:m≤ys.length) (i:Nat):(es.take off++ys.take m++es.drop (off+m))[i]? = if off≤i∧i<off+m then ys[i - off]? else es[i]?:=by
  have hl1:(es.take off).length=off:=by simp;omega
  have hl2:(ys.take m).length=m:=by simp;omega
  by_cases hi:i<off
  · rw [if_neg (by omega),List.append_assoc,List.getElem?_append_left (by omega),List.getElem?_take_of_lt hi]
  · by_cases hj:i<off+m
    · rw [if_pos ⟨by omega,hj⟩,List.append_assoc,List.getElem?_append_right (by omega),hl1,List.getElem?_append_left (by omega),List.getElem?_take_of_lt (by omega)]
    · rw [if_neg (by omega),List.getElem?_append_right (by simp;omega),List.length_append,hl1,hl2,List.getElem?_drop]
      congr 1;omega
theorem eff_cpy (H:HRel X h B w) (F:FRel X h B w f a) {sz:Nat} {x y:Opd} (he:eff call f h dst (.cpy sz x y)=some e) (hc:chk P o.op o.type (.cpy sz x y)=true):EffOk P X h B w (execOp a.eval o) e:=by
  simp only [eff,Option.bind_eq_some_iff,Prod.exists] at he
  obtain ⟨ys,rd,hel,he⟩:=he
  simp only [chk] at hc
  split at hc
  · rename_i args' ts ho
    simp only [Bool.and_eq_true] at hc
    obtain ⟨ha,h1⟩:=hc
    obtain ⟨xo,yo,rfl,hxo,hyo⟩:=opds2 ha
    obtain ⟨t,ht0,h1⟩:=opt_any h1
    obtain ⟨el,hel0,h3⟩:=opt_any h1
    have hut:=sliceElem_spec hel0
    have hszr:=fun w'=>run_sizeOf (P:=P) h3 w'
    have hxv:=opd_ok F hxo
    obtain ⟨news,E⟩:=elems_ok H (opd_ok F hyo) hel
    split at he
    · rename_i u s p off n hx
      rw [hx] at hxv
      simp only [Option.bind_eq_some_iff] at he
      obtain ⟨ob,hob,r,hr,he⟩:=he
      split at he
      · rename_i hcond
        obtain ⟨rfl,hle,hnrd,hall,hs1⟩:=hcond
        simp only [Option.some.injEq] at he
        subst he
        obtain ⟨r',hr',_,hh⟩:=hxv
        have hnr:=nd_of_row? hob hr
        rw [hnr] at hr'
        injection hr' with hr';injection hr' with hr';subst hr'
        obtain ⟨m,hm⟩:∃ m,m=min ys.length n:=⟨_,rfl⟩
        rw [←hm]
        have hxs:∃ base cap,a.eval xo = .slice base n cap:=by
          rcases hh with ⟨_,he0,hv⟩ | ⟨_,ad,cap,arr,tt,fr,_,_,_,hv,_⟩
          · have:n=0:=by rw [he0] at hle;simp at hle;omega
            subst this
            exact ⟨none,0,hv⟩
          · exact ⟨some ad,cap,hv⟩
        obtain ⟨base,cap,hxe⟩:=hxs
        have hlenOf:(Builtin.lenOf (a.eval yo)).run P w = .ok ys.length w:=by
          rcases E.src with ⟨hv,he0⟩ | ⟨ad,c,hv,_⟩ | ⟨_,_,hh1,_⟩
          · rw [hv,he0];rfl
          · rw [hv];rfl
          · exact absurd hh1 hs1
        have hml:m * r.sz≤news.length:=by rw [E.len];exact Nat.mul_le_mul_right _ (by omega)
        have hcells:(Builtin.firstCells r.sz m (a.eval yo)).run P w = .ok (news.take (m * r.sz)).toArray w:=by
          rcases E.src with ⟨hv,he0⟩ | ⟨ad,c,hv,hcc⟩ | ⟨_,_,hh1,_⟩
          · have hm0:m=0:=by rw [hm,he0];simp
            rw [hv,hm0]
            simpa using run_firstCells_none w r.sz 0 0 0
          · rw [hv]
            exact run_firstCells_some w r.sz m ad ys.length c _ (by simp;omega) (fun j v hj=>hcc j v (by
              have hlt:=(List.getElem?_eq_some_iff.1 hj).1
              simp at hlt
              rw [List.getElem?_take_of_lt (by omega)] at hj;exact hj))
          · exact absurd hh1 hs1
        have hrun0:∀ {w'},(∀ ad,base=some ad→(storeCells ad (news.take (m * r.sz))).run P w = .ok () w')→(base=none→w'=w)→(execOp a.eval o).run P w = .ok (.value (goInt m)) w':=by
          intro w' hst hnone
          have hmin:Nat.min ys.length n=m:=hm.symm
          cases base with
          | none=>
            rw [hnone rfl]
            simp [execOp,ho,resolve,invoke,builtin,Builtin.copy_,ht0,run_underlying hut,hxe,hlenOf,hszr,hmin,hcells]
          | some ad=>
            have:=hst ad rfl
            simp [execOp,ho,resolve,invoke,builtin,Builtin.copy_,ht0,run_underlying hut,hxe,hlenOf,hszr,hmin,hcells,this]
        have hval:RD w (Forb X h B) (.int .i64 m) (goInt m):=.int _ _
        by_cases hm0:m=0
        · have hes:r.es.take off++ys.take m++r.es.drop (off+m)=r.es:=by rw [hm0];simp
          have hfin:updH h [(u,s,some (ob.setRow p { r with es:=r.es.take off++ys.take m++r.es.drop (off+m) }))]=h:=by
            rw [hes]
            show hset h u s (some (ob.setRow p r))=h
            rw [setRow_self hr,hset_self hob]
          have hrun1:=hrun0 (w':=w) (fun ad _=>by rw [hm0];simp [storeCells]) (fun _=>rfl)
          refine ⟨_,_,w,B,hrun1, .inl rfl, ?_, ?_⟩
          · rw [hfin];exact Tr.refl H
          · rw [hfin];exact .of1 hval
        · have hmle:m≤n:=by omega
          have hmy:m≤ys.length:=by omega
          rcases hh with ⟨_,he0,hv⟩ | ⟨hlv,ad,cap',arr,tt,fr,hb,hasz,hncap,hv,had⟩
          · exfalso;rw [he0] at hle;simp at hle;omega
          · rw [hxe] at hv
            injection hv with hv1 hv2 hv3
            subst hv1;subst hv3
            have had':=had (by omega)
            subst had'
            have hlive:r.es≠[]:=by intro hh;rw [hh] at hle;simp at hle;omega
            obtain ⟨arr0,t0,f0,k1,k2,k3,k4,k5⟩:=H.node u s p _ hnr hlv
            have k1':=k1
            rw [hb] at k1'
            injection k1' with k1'
            injection k1' with q1 q2 q3
            subst q1;subst q2;subst q3
            have hfit:off * r.sz+(news.take (m * r.sz)).length≤arr.size:=by
              simp only [List.length_take]
              have:(off+m) * r.sz≤r.es.length * r.sz:=Nat.mul_le_mul_right _ (by omega)
              rw [Nat.add_mul] at this
              omega
            have hst:=run_storeCells_cells (P:=P) (B u s p) (off * r.sz) (news.take (m * r.sz)) 0 w (fun j hj=>by
                simp only [World.cell?,hb]
                simp
                omega) (fun j hj=>by
                simp only [World.frozen?,hb]
                have:=k2 (off * r.sz+0+j) (by omega)
                simp at this ⊢
                exact this) (fun v hv=>E.one v (List.mem_of_mem_take hv))
            rw [Nat.add_zero] at hst
            obtain ⟨W,arr',hb',hs',hin,hout⟩:=setCells_blk (B u s p) tt fr (news.take (m * r.sz)) (off * r.sz) w arr hb hfit
            have hrun1:=hrun0 (fun ad' hh=>by injection hh with hh;subst hh;exact hst) (fun hh=>by cases hh)
            obtain ⟨ds,hds⟩:=Option.isSome_iff_exists.1 hall
            have hesd:=allDs_get hds
            have hget:=splice_get (es:=r.es) (ys:=ys) (off:=off) (m:=m) (by omega) hmy
            have hcell:∀ a1 b1 c,cellAt (r.es.take off++ys.take m++r.es.drop (off+m)) a1 b1=some c→(off≤a1∧a1<off+m∧cellAt ys (a1 - off) b1=some c)∨(¬(off≤a1∧a1<off+m)∧cellAt r.es a1 b1=some c):=by
              intro a1 b1 c hc
              unfold cellAt at hc
              rw [hget] at hc
              split at hc
              · rename_i hh;exact .inl ⟨hh.1,hh.2,hc⟩
              · rename_i hh;exact .inr ⟨hh,hc⟩
            have T:Tr X h B w [] (hset h u s (some (ob.setRow p { r with es:=r.es.take off++ys.take m++r.es.drop (off+m) }))) B (w.setCells (B u s p) (off * r.sz) (news.take (m * r.sz))):=by
              refine tr_set H hob hr ⟨rfl,rfl,by simp;omega⟩ hlive (fun cs hcs=>?_) (fun a1 b1 c hc=>?_) (fun a1 b1 c hc hf=>?_) W.os W.tape W.output W.size W.keep (fun arr0 t0 fr0 hb0 _=>?_)
              · simp only [List.mem_append] at hcs
                rcases hcs with (h1 | h1) | h1
                · exact k3 _ (List.mem_of_mem_take h1)
                · exact E.lens _ (List.mem_of_mem_take h1)
                · exact k3 _ (List.mem_of_mem_drop h1)
              · rcases hcell a1 b1 c hc with ⟨_,_,hh⟩ | ⟨_,hh⟩
                · obtain ⟨d,v,rfl,_⟩:=E.cell _ _ _ hh
                  exact .inr trivial
                · exact .inl hh
              · exfalso
                rw [hesd] at hc
                obtain ⟨d,rfl,_⟩:=cellAt_map hc
                exact hf trivial
              · rw [hb] at hb0
                injection hb0 with hb0
                injection hb0 with q1 q2 q3
                subst q1;subst q2;subst q3
                refine ⟨arr',hb',hs',fun a1 b1 c hc=>?_⟩
                rcases hcell a1 b1 c hc with ⟨g1,g2,hh⟩ | ⟨g1,hh⟩
                · obtain ⟨d,v,rfl,m1,m2,m3⟩:=E.cell _ _ _ hh
                  obtain ⟨cs,z1,z2⟩:=cellAt_some hh
                  have l2:=(List.getElem?_eq_some_iff.1 z2).1
                  rw [E.lens _ (List.mem_of_getElem? z1)] at l2
                  have hlt:=mul_lt_of (n:=m) (show a1 - off<m by omega) l2
                  refine .inr (.inr ⟨d,v,rfl, ?_,m3,fun hmv=>hmv _ _ m2⟩)
                  have hx:=hin ((a1 - off) * r.sz+b1) v (by rw [List.getElem?_take_of_lt hlt];exact m1)
                  rw [←Nat.add_assoc,←Nat.add_mul,Nat.add_sub_cancel' g1] at hx
                  exact hx
                · refine .inl ⟨hh,hout _ ?_⟩
                  obtain ⟨c1,c2⟩:=cellAt_lt k3 hh
                  have hlt:(news.take (m * r.sz)).length=m * r.sz:=by simp;omega
                  rw [hlt]
                  rcases Nat.lt_or_ge a1 off with h1 | h1
                  · left
                    exact mul_lt_of h1 c2
                  · right
                    have:(off+m) * r.sz≤a1 * r.sz:=Nat.mul_le_mul_right _ (by omega)
                    rw [Nat.add_mul] at this
                    omega
            exact ⟨_,_,_,_,hrun1, .inl rfl,T, .of1 (T.stp.rd hval)⟩
      · cases he
    · cases he
  · cases hc
end
end Go.Proofs.YtgmphfmoonbfpaaMv

set_option maxRecDepth 2000
namespace Go.Proofs.YtgmphfmoonbfpaaMv
open Go
section
variable {P:Program} {X:Nat→Prop} {h:Hp} {B:Gh} {w:World} {f:Fr} {a:Act} {call:FuncId→List V→Option V} {dst:Nat} {o:Oper} {e:Eff}
def DistI:List (Nat × Nat)→Prop
  | []=>True
  | p::L=>(∀ q ∈ L,q.1≠p.1)∧DistI L
theorem DistI.succ:∀ {L:List (Nat × Nat)},DistI L→DistI (L.map fun p=>(p.1+1,p.2))
  | [],_=>trivial
  | p::L,h=>by
    refine ⟨fun q hq=>?_,DistI.succ h.2⟩
    simp only [List.mem_map] at hq
    obtain ⟨q',hq',rfl⟩:=hq
    have:=h.1 q' hq'
    simp only;omega
def CellsL (X:Nat→Prop) (h:Hp) (B:Gh) (w:World) (L:List (Nat × Nat)) (cs:List C) (xs:List Value):Prop:=
  cs.length=xs.length∧DistI L∧(∀ p ∈ L,∃ c v x,cs[p.1]? = some c∧xs[p.1]? = some x∧CAbs h p.2 c v∧RV1 X h B w v x) ∧
  ∀ (i:Nat) c x,(∀ p ∈ L,p.1≠i)→cs[i]? = some c→xs[i]? = some x→CSrc X h B w c x
theorem toCells_specL:∀ {vs:List V} {xs:List Value} {cs:List C} {l:List Nat},vs.length=xs.length→(∀ (i:Nat) (v:V) (x:Value),vs[i]? = some v→xs[i]? = some x→RV1 X h B w v x)→toCells h vs=some (cs,l) →
    cs.length=vs.length ∧ ∃ L:List (Nat × Nat),L.map (·.2)=l∧CellsL X h B w L cs xs
  | [],xs,cs,l,hl,_,ht=>by
    simp only [toCells,Option.some.injEq,Prod.mk.injEq] at ht
    obtain ⟨rfl,rfl⟩:=ht
    cases xs with
    | nil=>exact ⟨rfl,[],rfl,rfl,trivial,(fun p hp=>by cases hp),fun i c x _ h=>by simp at h⟩
    | cons=>simp at hl
  | v::vs,[],cs,l,hl,_,ht=>by simp at hl
  | v::vs,x::xs,cs,l,hl,hr,ht=>by
    simp only [toCells,Option.bind_eq_some_iff,Option.map_eq_some_iff,Prod.exists] at ht
    obtain ⟨c,l1,h1,cs',l2,h2,h3⟩:=ht
    simp only [Prod.mk.injEq] at h3
    obtain ⟨rfl,rfl⟩:=h3
    have hx:=hr 0 v x rfl rfl
    obtain ⟨i1,L,i2,i3,i4,i5,i6⟩:=toCells_specL (vs:=vs) (xs:=xs) (by simpa using hl) (fun i v x hv hx=>hr (i+1) v x hv hx) h2
    have hmap:(L.map fun p=>(p.1+1,p.2)).map (·.2)=l2:=by rw [←i2,List.map_map];rfl
    have hin:∀ p ∈ L.map (fun p=>(p.1+1,p.2)),∃ c' v' x',(c::cs')[p.1]? = some c'∧(x::xs)[p.1]? = some x'∧CAbs h p.2 c' v'∧RV1 X h B w v' x':=by
      intro p hp
      simp only [List.mem_map] at hp
      obtain ⟨q,hq,rfl⟩:=hp
      obtain ⟨c',v',x',k1,k2,k3,k4⟩:=i5 q hq
      exact ⟨c',v',x',by simpa using k1,by simpa using k2,k3,k4⟩
    have hout:∀ (i:Nat) c' x',(∀ p ∈ L.map (fun p=>(p.1+1,p.2)),p.1≠i+1)→cs'[i]? = some c'→xs[i]? = some x'→CSrc X h B w c' x':=fun i c' x' hne hc hx=>i6 i c' x' (fun p hp hh=>hne _ (List.mem_map_of_mem hp) (by rw [hh])) hc hx
    refine ⟨by simp [i1], ?_⟩
    rcases toCell_spec hx h1 with ⟨rfl,k1⟩ | ⟨s,rfl,k1⟩
    · refine ⟨L.map fun p=>(p.1+1,p.2),hmap,by simp [i3],i4.succ,hin,fun i c' x' hne hc' hx'=>?_⟩
      cases i with
      | zero=>simp at hc' hx';subst hc';subst hx';exact k1
      | succ i=>exact hout i c' x' hne (by simpa using hc') (by simpa using hx')
    · refine ⟨(0,s)::L.map fun p=>(p.1+1,p.2),by simp [hmap],by simp [i3],⟨fun q hq=>?_,i4.succ⟩,fun p hp=>?_,fun i c' x' hne hc' hx'=>?_⟩
      · simp only [List.mem_map] at hq
        obtain ⟨q',_,rfl⟩:=hq
        simp
      · rcases List.mem_cons.1 hp with rfl | hp
        · exact ⟨c,v,x,rfl,rfl,k1,hx⟩
        · exact hin p hp
      · cases i with
        | zero=>exact absurd rfl (hne _ List.mem_cons_self)
        | succ i=>exact hout i c' x' (fun p hp=>hne p (List.mem_cons_of_mem _ hp)) (by simpa using hc') (by simpa using hx')
theorem cellsOf_specL {n:Nat} {v:V} {x:Value} {cs:List C} {l:List Nat} (hv:RV X h B w v x) (ht:cellsOf h n v=some (cs,l)) :
    cs.length=n∧(∀ y ∈ x.cells.toList,y.oneCell'=true) ∧ ∃ L:List (Nat × Nat),L.map (·.2)=l∧CellsL X h B w L cs x.cells.toList:=by
  unfold cellsOf at ht
  split at ht
  · rename_i ds
    split at ht
    · rename_i hn
      simp only [Option.some.injEq,Prod.mk.injEq] at ht
      obtain ⟨rfl,rfl⟩:=ht
      obtain ⟨vs,rfl,h1,h2,h3⟩:=rd_agg hv
      refine ⟨by simpa using hn,fun y hy=>?_,[],rfl,by simp [Value.cells,h1],trivial,(fun p hp=>by cases hp),fun i c x _ hc hx=>?_⟩
      · obtain ⟨i,hi⟩:=List.mem_iff_getElem?.1 hy
        exact h2 i y (by simpa [Value.cells] using hi)
      · simp only [List.getElem?_map,Option.map_eq_some_iff] at hc
        obtain ⟨d,hd,rfl⟩:=hc
        have hx':vs[i]? = some x:=by simpa [Value.cells] using hx
        exact ⟨d,rfl,h3 i d x hd hx',h2 i x hx'⟩
    · cases ht
  · rename_i vs
    split at ht
    · rename_i hn
      obtain ⟨arr,rfl,⟨g1,g2⟩,g3⟩:=hv
      obtain ⟨k1,k2⟩:=toCells_specL (xs:=arr.toList) (by simpa using g1.symm) (fun i v x hv hx=>g2 i v x hv (by simpa using hx)) ht
      refine ⟨by omega,fun y hy=>?_,by simpa [Value.cells] using k2⟩
      obtain ⟨i,hi⟩:=List.mem_iff_getElem?.1 hy
      exact g3 i y (by simpa [Value.cells] using hi)
    · cases ht
  · rename_i hna1 hna2
    split at ht
    · rename_i hn
      simp only [Option.map_eq_some_iff,Prod.exists,Prod.mk.injEq] at ht
      obtain ⟨c,l1,h1,rfl,rfl⟩:=ht
      have hat:v.atom=true:=by
        cases v <;> first | rfl | (exfalso;simp [toCell] at h1)
      have hv1:=hv.to1 hat
      have hone:x.oneCell'=true:=by
        rcases toCell_spec hv1 h1 with ⟨_,d,_,_,k⟩ | ⟨s,_,k⟩
        · exact k
        · exact (k.rc hv1).2
      rw [cells_one hone]
      refine ⟨hn.symm,fun y hy=>by simp at hy;rw [hy];exact hone, ?_⟩
      rcases toCell_spec hv1 h1 with ⟨rfl,k⟩ | ⟨s,rfl,k⟩
      · refine ⟨[],rfl,rfl,trivial,(fun p hp=>by cases hp),fun i c' x' _ hc' hx'=>?_⟩
        cases i with
        | zero=>simp at hc' hx';subst hc';subst hx';exact k
        | succ i=>simp at hc'
      · refine ⟨[(0,s)],rfl,rfl,⟨(fun q hq=>by cases hq),trivial⟩,(fun p hp=>?_),fun i c' x' hne hc' hx'=>?_⟩
        · simp only [List.mem_singleton] at hp
          subst hp
          exact ⟨c,v,x,rfl,rfl,k,hv1⟩
        · cases i with
          | zero=>exact absurd rfl (hne _ List.mem_cons_self)
          | succ i=>simp at hc'
    · cases ht
def blank:List (Nat × Nat)→List C→List C
  | [],new=>new
  | p::L,new=>(blank L new).set p.1 .bad
theorem blank_length:∀ (L:List (Nat × Nat)) (new:List C),(blank L new).length=new.length
  | [],_=>rfl
  | p::L,new=>by simp [blank,blank_length L new]
theorem blank_out:∀ {L:List (Nat × Nat)} {new:List C} {i:Nat},(∀ p ∈ L,p.1≠i)→(blank L new)[i]? = new[i]?
  | [],_,_,_=>rfl
  | p::L,new,i,h=>by
    simp only [blank]
    rw [List.getElem?_set_ne (h p List.mem_cons_self)]
    exact blank_out fun q hq=>h q (List.mem_cons_of_mem _ hq)
theorem blank_in:∀ {L:List (Nat × Nat)} {new:List C} {p:Nat × Nat},p ∈ L→p.1<new.length→(blank L new)[p.1]? = some .bad
  | [],_,_,hp,_=>by cases hp
  | q::L,new,p,hp,hl=>by
    simp only [blank]
    by_cases hq:q.1=p.1
    · rw [hq,List.getElem?_set_self (by rw [blank_length];exact hl)]
    · rw [List.getElem?_set_ne hq]
      rcases List.mem_cons.1 hp with rfl | hp
      · exact absurd rfl hq
      · exact blank_in hp hl
theorem updH_drops:∀ (l:List Nat) (g:Hp) (u s:Nat),updH g (drops l) u s=if u=0∧s ∈ l then none else g u s
  | [],g,u,s=>by simp [drops,updH]
  | t::l,g,u,s=>by
    show updH (hset g 0 t none) (drops l) u s=_
    rw [updH_drops l]
    by_cases h1:u=0∧s ∈ l
    · rw [if_pos h1,if_pos ⟨h1.1,List.mem_cons_of_mem _ h1.2⟩]
    · rw [if_neg h1]
      by_cases h2:u=0∧s=t
      · rw [if_pos ⟨h2.1,by rw [h2.2];exact List.mem_cons_self⟩,h2.1,h2.2,hset_same]
      · rw [hset_ne _ _ _ _ h2,if_neg]
        rintro ⟨k1,k2⟩
        rcases List.mem_cons.1 k2 with k2 | k2
        · exact h2 ⟨k1,k2⟩
        · exact h1 ⟨k1,k2⟩
theorem updH_app (g:Hp):∀ (l l':List (Nat × Nat × Option Ob)),updH g (l++l')=updH (updH g l) l'
  | [],_=>rfl
  | (u,s,o)::l,l'=>updH_app (hset g u s o) l l'
theorem hset_drops (g g':Hp) (l:List Nat) (u s:Nat) (A:Option Ob) (hg:∀ u' s',¬(u'=u∧s'=s)→¬(u'=0∧s' ∈ l)→g u' s'=g' u' s'):hset (updH g (drops l)) u s A=hset (updH g' (drops l)) u s A:=by
  funext u' s'
  by_cases h1:u'=u∧s'=s
  · rw [h1.1,h1.2,hset_same,hset_same]
  · rw [hset_ne _ _ _ _ h1,hset_ne _ _ _ _ h1,updH_drops,updH_drops]
    split
    · rfl
    · rename_i h2;exact hg _ _ h1 h2
theorem CAbs.kill_other {s s0:Nat} {c:C} {v:V} (H:CAbs h s c v) (hne:s≠s0):v.kills [.root 0 s0]=v:=by
  rcases H with ⟨sz,nn,es,_,_,rfl⟩ | ⟨es,_,_,rfl⟩ <;> simp [V.kills,V.kill,V.kill1,Kill.hits,Ne.symm hne]
theorem CAbs.move {h':Hp} {s:Nat} {c:C} {v:V} (H:CAbs h s c v) (hx:h' 0 s=h 0 s):CAbs h' s c v:=by
  rcases H with ⟨sz,nn,es,h1,h2,h3⟩ | ⟨es,h1,h2,h3⟩
  · exact .inl ⟨sz,nn,es,by rw [hx];exact h1,h2,h3⟩
  · exact .inr ⟨es,by rw [hx];exact h1,h2,h3⟩
theorem absorbs {u s:Nat} {p:Path} {ob:Ob} {r:Row} {e1 o1:Nat} {cs new:List C} {xs:List Value} {arr:Array Value} {tt:TypeId} {fr:Nat × Nat} (hr:ob.row? p=some r) (hcs:r.es[e1]? = some cs) (hle:o1+new.length≤cs.length) (hsz:new.length=xs.length)
    (harr:∀ (j:Nat) v,xs[j]? = some v→arr[e1 * r.sz+(o1+j)]? = some v) :
    ∀ (L:List (Nat × Nat)) (h1:Hp) (B1:Gh),HRel X h1 B1 w→h1 u s=some (ob.setRow p { r with es:=setCells r.es e1 o1 (blank L new) })→B1 u s p=B u s p→w.heap[B u s p]? = some (.cells arr tt fr) →
      DistI L→(L.map (·.2)).Nodup→(∀ q ∈ L,¬(u=0∧s=q.2))→(∀ q ∈ L,∃ c v x,new[q.1]? = some c∧xs[q.1]? = some x∧CAbs h1 q.2 c v∧RV1 X h1 B1 w v x) →
      ∃ B2,Tr X h1 B1 w (dropKills (L.map (·.2))) (hset (updH h1 (drops (L.map (·.2)))) u s (some (ob.setRow p { r with es:=setCells r.es e1 o1 new }))) B2 w
  | [],h1,B1,H,ho,hB,hb,hd,hnd,hne,hL=>by
    refine ⟨B1, ?_⟩
    show Tr X h1 B1 w [] (hset h1 u s _) B1 w
    rw [hset_self (by exact ho)]
    exact Tr.refl H
  | (i0,s0)::L,h1,B1,H,ho,hB,hb,hd,hnd,hne,hL=>by
    obtain ⟨c0,v0,x0,g1,g2,g3,g4⟩:=hL _ List.mem_cons_self
    simp only [List.map_cons,List.nodup_cons] at hnd
    have hne0:=hne _ List.mem_cons_self
    have hi0:i0<new.length:=(List.getElem?_eq_some_iff.1 g1).1
    obtain ⟨ob0,k1,k2,k3⟩:=g3.nd
    have hbl:(blank L new).length=new.length:=blank_length L new
    have hbad:cellAt (setCells r.es e1 o1 (blank ((i0,s0)::L) new)) e1 (o1+i0)=some .bad:=by
      have hsome:(cellAt r.es e1 (o1+i0)).isSome=true:=by
        have:o1+i0<cs.length:=by omega
        simp [cellAt,hcs,this]
      rw [cellAt_setCells,if_pos ⟨rfl,by omega,by rw [blank_length];omega,hsome⟩]
      rw [show o1+i0 - o1=i0 by omega]
      exact blank_in (p:=(i0,s0)) List.mem_cons_self hi0
    have T:=tr_absorb H (u:=u) (s:=s) (p:=p) (r:={ r with es:=setCells r.es e1 o1 (blank ((i0,s0)::L) new) }) (e:=e1) (o:=o1+i0) (s0:=s0) (ob0:=ob0) (c:=c0) ho (row?_setRow hr) hbad k1 hne0 k2
      (fun arr0 t0 fr0 hb0=>by
        rw [hB,hb] at hb0
        injection hb0 with hb0
        injection hb0 with q1 q2 q3
        subst q1
        exact ⟨x0,harr i0 x0 g2,(g3.rc g4).1⟩) k3
    have hset1:setCells (setCells r.es e1 o1 (blank ((i0,s0)::L) new)) e1 (o1+i0) [c0]=setCells r.es e1 o1 (blank L new):=by
      show setCells (setCells r.es e1 o1 ((blank L new).set i0 .bad)) e1 (o1+i0) [c0]=_
      rw [setCells_set hcs (by simp [hbl];omega) (by simpa [hbl] using hi0),List.set_set]
      congr 1
      apply List.ext_getElem?
      intro i
      by_cases hi:i=i0
      · subst hi
        rw [List.getElem?_set_self (by rw [hbl];exact hi0),blank_out (fun q hq=>hd.1 q hq),g1]
      · rw [List.getElem?_set_ne (Ne.symm hi)]
    rw [setRow_setRow hr] at T
    simp only [hset1] at T
    have hx:∀ q ∈ L,hset (hset h1 0 s0 none) u s (some (ob.setRow p { r with es:=setCells r.es e1 o1 (blank L new) })) 0 q.2=h1 0 q.2:=by
      intro q hq
      have hns:q.2≠s0:=fun hh=>hnd.1 (by rw [←hh];exact List.mem_map_of_mem hq)
      rw [hset_ne _ _ _ _ (by rintro ⟨z1,z2⟩;exact hne q (List.mem_cons_of_mem _ hq) ⟨z1.symm,z2.symm⟩),hset_ne _ _ _ _ (by rintro ⟨_,z2⟩;exact hns z2)]
    have hpre:¬(p++[(e1,o1+i0)] <+: p):=fun hh=>by
      have:=hh.length_le
      simp at this
      omega
    obtain ⟨B2,T2⟩:=absorbs hr hcs hle hsz harr L _ _ T.hr (hset_same ..) (by rw [graft_out _ _ _ _ _ (by rintro ⟨_,_,hh⟩;exact hpre hh)];exact hB) hb hd.2 hnd.2 (fun q hq=>hne q (List.mem_cons_of_mem _ hq))
      (fun q hq=>by
        obtain ⟨c,v,x,z1,z2,z3,z4⟩:=hL q (List.mem_cons_of_mem _ hq)
        have hns:q.2≠s0:=fun hh=>hnd.1 (by rw [←hh];exact List.mem_map_of_mem hq)
        refine ⟨c,v,x,z1,z2,z3.move (hx q hq), ?_⟩
        have:=T.rv v x z4
        rwa [z3.kill_other hns] at this)
    refine ⟨B2, ?_⟩
    have T3:=T.trans T2
    have hfin:hset (updH (hset (hset h1 0 s0 none) u s (some (ob.setRow p { r with es:=setCells r.es e1 o1 (blank L new) }))) (drops (L.map (·.2)))) u s (some (ob.setRow p { r with es:=setCells r.es e1 o1 new })) =
        hset (updH h1 (drops (((i0,s0)::L).map (·.2)))) u s (some (ob.setRow p { r with es:=setCells r.es e1 o1 new })):=by
      show _=hset (updH (hset h1 0 s0 none) (drops (L.map (·.2)))) u s _
      exact hset_drops _ _ _ _ _ _ fun u' s' z1 z2=>hset_ne _ _ _ _ z1
    rw [hfin] at T3
    exact T3
theorem eff_stm (H:HRel X h B w) (F:FRel X h B w f a) {n:Nat} {x v:Opd} (he:eff call f h dst (.stm n x v)=some e) (hc:chk P o.op o.type (.stm n x v)=true):EffOk P X h B w (execOp a.eval o) e:=by
  simp only [eff] at he
  split at he
  · rename_i u s p e1 o1 hx
    simp only [Option.bind_eq_some_iff,Prod.exists] at he
    obtain ⟨new,l,hco,ob,hob,r,hr,cs,hcs,he⟩:=he
    split at he
    · rename_i hcond
      obtain ⟨hcl,hnd,hnr0⟩:=hcond
      simp only [Option.some.injEq] at he
      subst he
      simp only [chk] at hc
      split at hc
      · rename_i t y z ho
        simp only [Bool.and_eq_true] at hc
        have hy:=opd_ok F hc.2.1
        rw [hx] at hy
        obtain ⟨r',hr',hlt,hy⟩:=hy
        have hnr:nd h u s p=some (.row r):=nd_of_row? hob hr
        rw [hnr] at hr'
        injection hr' with hr'
        injection hr' with hr'
        subst hr'
        obtain ⟨c1,c2,L,rfl,c3,c4,c5,c6⟩:=cellsOf_specL (opd_ok F hc.2.2) hco
        have hlive:r.es≠[]:=by intro hh;rw [hh] at hcs;simp at hcs
        obtain ⟨arr,tt,fr,hb,hfr,hlens,hsz,hcells⟩:=H.node u s p _ hnr (.inr hlive)
        have hcsl:cs.length=r.sz:=hlens cs (List.mem_of_getElem? hcs)
        have hroom:e1 * r.sz+r.sz≤r.es.length * r.sz:=by
          have:=Nat.mul_le_mul_right r.sz hlt
          rw [Nat.succ_mul] at this;exact this
        have hszc:(a.eval z).cells.size=n:=by have:=c3;simp at this;omega
        have hst:=run_store_blk (P:=P) (x:=a.eval z) (o1:=e1 * r.sz+o1) hc.1 hb hfr hszc (by omega) c2
        have hrun:(execOp a.eval o).run P w = .ok .skip (w.setCells (B u s p) (e1 * r.sz+o1) (a.eval z).cells.toList):=by simp [execOp,ho,hy,hst]
        have hne:∀ q ∈ L,¬(u=0∧s=q.2):=by
          rintro q hq ⟨rfl,rfl⟩
          have hm:q.2 ∈ L.map (·.2):=List.mem_map_of_mem hq
          rcases hnr0 with hh | hh
          · exact hh rfl
          · simp at hh
            exact hh q.1 hq
        have T:=tr_store H (o1:=o1) (xs:=(a.eval z).cells.toList) (new:=blank L new) hob hr hcs (by rw [blank_length];omega) (by rw [blank_length];exact c3) (fun i c x hc hx=>by
          by_cases hi:∀ q ∈ L,q.1≠i
          · rw [blank_out hi] at hc
            exact .inr (c6 i c x hi hc hx)
          · left
            simp only [Classical.not_forall,Classical.not_not] at hi
            obtain ⟨q,hq,rfl⟩:=hi
            obtain ⟨c',_,_,k1,_⟩:=c5 q hq
            rw [blank_in hq (List.getElem?_eq_some_iff.1 k1).1] at hc
            injection hc with hc
            exact hc.symm)
        rw [blank_length,c1] at T
        obtain ⟨W,arr',hb',hs',hin,hout⟩:=setCells_blk (B u s p) tt fr (a.eval z).cells.toList (e1 * r.sz+o1) w arr hb (by simp;omega)
        have hx0:∀ q ∈ L,hset h u s (some (ob.setRow p { r with es:=setCells r.es e1 o1 (blank L new) })) 0 q.2=h 0 q.2:=fun q hq=>hset_ne _ _ _ _ (by rintro ⟨z1,z2⟩;exact hne q hq ⟨z1.symm,z2.symm⟩)
        obtain ⟨B2,T2⟩:=absorbs (B:=B) (arr:=arr') (new:=new) (xs:=(a.eval z).cells.toList) hr hcs (o1:=o1) (by omega) c3 (fun j v hj=>by rw [←Nat.add_assoc];exact hin j v hj) L _ _ T.hr (hset_same ..) rfl hb' c4 hnd hne
          (fun q hq=>by
            obtain ⟨c,v,x,z1,z2,z3,z4⟩:=c5 q hq
            refine ⟨c,v,x,z1,z2,z3.move (hx0 q hq), ?_⟩
            have hv0:=T.rv v x z4
            have hk:v.kills [.under u s p e1 o1 (o1+n)]=v:=by
              have hne':=hne q hq
              rcases z3 with ⟨sz,nn,es,h1,h2,rfl⟩ | ⟨es,h1,h2,rfl⟩
              · simp [V.kills,V.kill,V.kill1,Kill.hits]
                intro q1 q2;exact absurd ⟨q1,q2⟩ hne'
              · simp [V.kills,V.kill,V.kill1,Kill.hits]
                intro q1 q2;exact absurd ⟨q1,q2⟩ hne'
            rwa [hk] at hv0)
        have T3:=T.trans T2
        have hfin:hset (updH (hset h u s (some (ob.setRow p { r with es:=setCells r.es e1 o1 (blank L new) }))) (drops (L.map (·.2)))) u s (some (ob.setRow p { r with es:=setCells r.es e1 o1 new })) =
            updH h (drops (L.map (·.2))++[(u,s,some (ob.setRow p { r with es:=setCells r.es e1 o1 new }))]):=by
          rw [updH_app]
          show _=hset (updH h (drops (L.map (·.2)))) u s _
          exact hset_drops _ _ _ _ _ _ fun u' s' z1 z2=>hset_ne _ _ _ _ z1
        rw [hfin] at T3
        exact ⟨_,undef,_,_,hrun, .inr ⟨rfl,rfl⟩,T3,trivial⟩
      · cases hc
    · cases he
  · cases he
theorem app_ty {args':Array Operand} {ts:Array TypeId} {sz bytes:Nat} {x y:Opd}
    (hc:(opdsOk args'.toList [x,y]&&(decide (ts.size=2)&&((ts[0]?).any fun t=>(sliceElem P t).any fun e=>sizeIs P e sz&&(bytesIs P e bytes&&((P.info? e).any fun i=>i.zero.any fun z=>z.cells.size==sz)))
        && ((ts[1]?).any fun t=>match P.underlying t with | some .string=>true | some (.slice _)=>true | _=>false))&&decide (0<sz∧0<bytes))=true) :
    ∃ xo yo t tx el i z,args' = #[xo,yo]∧ts = #[t,tx]∧opdOk xo x=true∧opdOk yo y=true∧AppTy P t tx el i z sz bytes:=by
  simp only [Bool.and_eq_true,decide_eq_true_eq] at hc
  obtain ⟨⟨ha,⟨hts,h1⟩,h2⟩,hpos,hbpos⟩:=hc
  obtain ⟨xo,yo,rfl,hxo,hyo⟩:=opds2 ha
  obtain ⟨t,ht0,h1⟩:=opt_any h1
  obtain ⟨el,hel0,h1⟩:=opt_any h1
  simp only [Bool.and_eq_true] at h1
  obtain ⟨h3,h4,h5⟩:=h1
  obtain ⟨i,hi,h6⟩:=opt_any h5
  obtain ⟨z,hz,h7⟩:=opt_any h6
  obtain ⟨tx,htx,h8⟩:=opt_any h2
  obtain ⟨i',hi',hsz⟩:=sizeIs_spec h3
  rw [hi] at hi';injection hi' with hi';subst hi'
  have hby:i.bytes=bytes:=by
    unfold bytesIs at h4
    simpa [hi] using h4
  have hk:(∃ e',P.underlying tx=some (.slice e'))∨P.underlying tx=some .string:=by
    split at h8
    · rename_i hh;exact .inr hh
    · rename_i e' hh;exact .inl ⟨e',hh⟩
    · cases h8
  have htse:ts = #[t,tx]:=by
    apply Array.ext
    · simp [hts]
    · intro j hj1 hj2
      rw [hts] at hj1
      match j with
      | 0=>have:=(Array.getElem?_eq_some_iff.1 ht0).2;simpa using this
      | 1=>have:=(Array.getElem?_eq_some_iff.1 htx).2;simpa using this
      | j+2=>omega
  exact ⟨xo,yo,t,tx,el,i,z,rfl,htse,hxo,hyo,sliceElem_spec hel0,hi,hz,hsz,hby,by simpa using h7,hk,hpos,hbpos⟩
theorem eff_appz (H:HRel X h B w) (F:FRel X h B w f a) {own:List (Nat × Nat)} {sz bytes:Nat} {x y:Opd} (he:eff call f h dst (.appz own sz bytes x y)=some e) (hc:chk P o.op o.type (.appz own sz bytes x y)=true):EffOk P X h B w (execOp a.eval o) e:=by
  simp only [eff,Option.bind_eq_some_iff,Prod.exists] at he
  obtain ⟨ys,rd,hel,he⟩:=he
  simp only [chk] at hc
  split at hc
  · rename_i args' ts ho
    obtain ⟨xo,yo,t,tx,el,i,z,rfl,rfl,hxo,hyo,A⟩:=app_ty hc
    have hyv:=opd_ok F hyo
    obtain ⟨news,E⟩:=elems_ok H hyv hel
    have hrun:∀ {xv' w'},(Builtin.append_ #[t,tx] o.type #[a.eval xo,a.eval yo]).run P w = .ok xv' w'→(execOp a.eval o).run P w = .ok (.value xv') w':=by
      intro xv' w' hr
      simp [execOp,ho,resolve,invoke,builtin,hr]
    have hxv:=opd_ok F hxo
    split at he
    · rename_i nn hx
      rw [hx] at hxv
      obtain ⟨base,hb,hnn⟩:=hxv
      split at he
      · rename_i hroom
        split at he
        · rename_i hemp
          have hy0:ys=[]:=by simpa using hemp
          subst hy0
          simp only [Option.some.injEq] at he
          subst he
          have hr:=run_append_nil (ty:=o.type) A E (base:=base) (Nat.le_refl 0)
          rw [←hb] at hr
          exact ⟨_,_,_,B,hrun hr, .inl rfl,Tr.refl H, .of1 (v:=.z nn) ⟨base,hb,hnn⟩⟩
        · rename_i hemp
          simp only [Option.some.injEq] at he
          subst he
          have hyne:ys≠[]:=fun hh=>hemp (by simp [hh])
          have hyp:0<ys.length:=List.length_pos_iff.2 hyne
          have hrd:(Builtin.firstCells sz 0 (.slice base 0 0)).run P w.drew = .ok ([]:List Value).toArray w.drew:=by
            cases base with
            | none=>exact run_firstCells_none _ _ _ _ _
            | some ad=>exact run_firstCells_some _ _ _ _ _ _ _ (by simp) (fun j v hj=>by simp at hj)
          obtain ⟨c',arr,g1,g2,g3,g4⟩:=run_grow (ty:=o.type) A E (len:=0) (cap:=0) (olds:=[]) (by simp) hrd (by omega) (by simpa using hroom)
          rw [←hb] at g4
          have hsame:∀ b,b<w.heap.size→(w.drew.alloc (.cells arr el)).heap[b]? = w.heap[b]?:=fun b hb=>by
            show (w.heap.push _)[b]? = _
            rw [Array.getElem?_push,if_neg (by omega)]
          have hblk:(w.drew.alloc (.cells arr el)).heap[w.heap.size]? = some (.cells arr el (0,0)):=by
            show (w.heap.push _)[w.heap.size]? = _
            simp
          let r1:Row:=⟨sz,nn,ys⟩
          have hsz1:ys.length * sz≤arr.size:=by rw [g2];exact Nat.mul_le_mul_right _ (by omega)
          have T:Tr X h B w [.root 0 dst] (hset h 0 dst (some (.row false sz nn ([]++ys)))) (gset B 0 dst [] w.heap.size) (w.drew.alloc (.cells arr el)):=by
            refine tr_new H 0 dst (.row false sz nn ([]++ys)) (.row r1) w.heap.size (fun q n hq hl=>?_) rfl rfl rfl (by show _≤(w.heap.push _).size;simp) hsame (Nat.le_refl _) (fun _ N' hN=>?_)
            · refine ndGo_plain (r:=r1) (fun e1 o1 c hc=>?_) hq hl
              obtain ⟨d,v,rfl,_⟩:=E.cell _ _ _ hc
              trivial
            · refine ⟨arr,el,(0,0),by rw [gset_same];exact hblk,fun i _=>by omega,E.lens,hsz1,fun e1 o1 c hc=>?_⟩
              obtain ⟨d,v,rfl,m1,m2,m3⟩:=E.cell _ _ _ hc
              obtain ⟨cs,q1,q2⟩:=cellAt_some hc
              have l1:=(List.getElem?_eq_some_iff.1 q1).1
              have l2:=(List.getElem?_eq_some_iff.1 q2).1
              rw [E.lens _ (List.mem_of_getElem? q1)] at l2
              have hlt:=mul_lt_of (n:=ys.length) l1 l2
              exact ⟨v,by rw [g3 _ (by simpa using hlt)];simpa using m1,hN _ _ m2,m3⟩
          have T3:=tr_ownify T.hr (hset_same ..) own
          rw [hset_hset] at T3
          have hv:RV1 X (hset h 0 dst (some (.row false sz nn ([]++ys)))) (gset B 0 dst [] w.heap.size) (w.drew.alloc (.cells arr el)) (.msl 0 dst [] 0 ys.length) (.slice (some ⟨w.heap.size,0,none⟩) (0+ys.length) c'):=by
            refine ⟨r1,by rw [nd_hset_same];rfl,by simp [r1], .inr ⟨.inr hyne,⟨w.heap.size,0,none⟩,c',arr,el,(0,0),by rw [gset_same];exact hblk,by simpa [r1] using g2,by omega,by rw [Nat.zero_add],fun _=>by rw [gset_same];simp⟩⟩
          have T4:=T.trans T3
          have k4:=T3.rv _ _ hv
          exact ⟨_,_,_,_,hrun g4, .inl rfl,T4, .of1 k4⟩
      · cases he
    · cases he
  · cases hc
theorem allDs_app:∀ {xs ys:List (List C)} {ds:List (List D)},allDs (xs++ys)=some ds→(allDs ys).isSome=true:=by
  intro xs ys ds hh
  induction xs generalizing ds with
  | nil=>rw [show ys=[]++ys from rfl,hh];rfl
  | cons x xs ih=>
    simp only [List.cons_append,allDs,Option.bind_eq_some_iff,Option.map_eq_some_iff] at hh
    obtain ⟨_,_,_,h2,_⟩:=hh
    exact ih h2
theorem eff_appm (H:HRel X h B w) (F:FRel X h B w f a) {sz bytes:Nat} {x y:Opd} (he:eff call f h dst (.appm sz bytes x y)=some e) (hc:chk P o.op o.type (.appm sz bytes x y)=true):EffOk P X h B w (execOp a.eval o) e:=by
  simp only [eff] at he
  split at he
  · rename_i s off n s' off' n' hx hy
    split at he
    · rename_i sz' nn es hob
      split at he
      · rename_i hcond
        obtain ⟨rfl,rfl,hn0,hoff,hoff',hroom⟩:=hcond
        simp only [Option.map_eq_some_iff] at he
        obtain ⟨ds,hds,rfl⟩:=he
        simp only [chk] at hc
        split at hc
        · rename_i args' ts ho
          obtain ⟨xo,yo,t,tx,el,i,z,rfl,rfl,hxo,hyo,A⟩:=app_ty hc
          have hxv:=opd_ok F hxo
          have hyv:=opd_ok F hyo
          rw [hx] at hxv
          rw [hy] at hyv
          have hrun:∀ {xv' w'},(Builtin.append_ #[t,tx] o.type #[a.eval xo,a.eval yo]).run P w = .ok xv' w'→(execOp a.eval o).run P w = .ok (.value xv') w':=by
            intro xv' w' hr
            simp [execOp,ho,resolve,invoke,builtin,hr]
          obtain ⟨ys,hys⟩:∃ ys,ys=(es.drop off').take n':=⟨_,rfl⟩
          rw [←hys] at hds
          have hyl:ys.length=n':=by rw [hys];simp;omega
          have hel:elems h sz' (.msl 0 s' [] off' n')=some (ys,[(0,s')]):=by
            simp only [elems,hob,Option.bind_some,Ob.row?,rowGo]
            rw [if_pos ⟨trivial,by rw [←hys];exact allDs_app hds,hoff'⟩,hys]
          obtain ⟨news,E⟩:=elems_ok H hyv hel
          obtain ⟨r',hr',hle',hh⟩:=hxv
          have hnr:nd h 0 s' []=some (.row ⟨sz',nn,es⟩):=by simp [nd,hob,Ob.nd?,ndGo]
          rw [hnr] at hr'
          injection hr' with hr';injection hr' with hr';subst hr'
          have hesne:es≠[]:=by intro he;rw [he] at hoff;simp at hoff;omega
          rcases hh with ⟨_,he0,_⟩ | ⟨hlv,ad,cap,arr,tt,fr,hb,hasz,hncap,hv,had⟩
          · exact absurd he0 hesne
          simp only at hasz
          have had':=had (by omega)
          simp only at had'
          subst had'
          obtain ⟨arr0,t0,f0,k1,k2,k3,k4,k5⟩:=H.node 0 s' [] _ hnr hlv
          have k1':=k1
          rw [hb] at k1'
          injection k1' with k1'
          injection k1' with q1 q2 q3
          subst q1;subst q2;subst q3
          simp only at k3 k4 k5
          have hdl:ds.length=n+n':=by
            have:=congrArg List.length (allDs_get hds)
            simp at this
            omega
          have hdsl:∀ cs ∈ ds,cs.length=sz':=by
            intro cs hcs
            have hm:cs.map C.d ∈ es.drop off++ys:=by rw [allDs_get hds];exact List.mem_map_of_mem hcs
            rcases List.mem_append.1 hm with h1 | h1
            · have:=k3 _ (List.mem_of_mem_drop h1)
              simpa using this
            · have:=E.lens _ h1
              simpa using this
          have hcell:∀ i j d,dAt ds i j=some d→i<n+n'∧j<sz'∧((i<n∧cellAt es (off+i) j=some (.d d))∨(n≤i∧cellAt ys (i - n) j=some (.d d))):=by
            intro i j d hij
            obtain ⟨cs,q1,q2⟩:=dAt_lt hij
            have l1:=(List.getElem?_eq_some_iff.1 q1).1
            have l2:=(List.getElem?_eq_some_iff.1 q2).1
            rw [hdsl _ (List.mem_of_getElem? q1)] at l2
            have hq:(es.drop off++ys)[i]? = some (cs.map C.d):=by rw [allDs_get hds];simp [q1]
            have hdl2:(es.drop off).length=n:=by simp;omega
            refine ⟨by omega,l2, ?_⟩
            by_cases hi:i<n
            · left
              rw [List.getElem?_append_left (by omega),List.getElem?_drop] at hq
              exact ⟨hi,by simp [cellAt,hq,q2]⟩
            · right
              rw [List.getElem?_append_right (by omega),hdl2] at hq
              exact ⟨by omega,by simp [cellAt,hq,q2]⟩
          have hTd:=fun (w1:World) (H1:HRel X h B w1)=>tr_del H1 0 s'
          have hval0:(true:Bool)=true∨ds≠[]:=.inl rfl
          by_cases hroom2:n+n'≤cap
          · -- room behind the row
            have hst0:off * sz'+n * sz'=es.length * sz':=by rw [←Nat.add_mul,hoff]
            have hcapl:(off+n+n') * sz'≤arr.size:=by rw [hasz];exact Nat.mul_le_mul_right _ (by omega)
            have hnl:news.length=n' * sz':=by rw [E.len,hyl]
            have hfit:off * sz'+n * sz'+news.length≤arr.size:=by
              rw [hnl,←Nat.add_mul,←Nat.add_mul];exact hcapl
            obtain ⟨W,arr',hb',hs',hin,hout⟩:=setCells_blk (B 0 s' []) tt fr news (off * sz'+n * sz') w arr hb hfit
            obtain ⟨ht,hi,hz,hisz,hby,hzs,hk,pos,bpos⟩:=A
            have hrun1:=run_append_room_src (P:=P) w t tx o.type el i ht hi (B 0 s' []) (off * sz') n cap (a.eval yo) n' news (by rw [hisz,←hyl];exact E.toSrc hk) hroom2 (fun j hj=>by
                rw [hisz]
                simp only [World.cell?,hb]
                simp
                omega) (fun j hj=>by
                rw [hisz]
                simp only [World.frozen?,hb]
                have:=k2 (off * sz'+n * sz'+j) (by omega)
                simp at this ⊢
                exact this)
            rw [hisz,←hv] at hrun1
            have T1:Tr X h B w [] (hset h 0 s' (some (Ob.setRow (.row false sz' nn es) [] ⟨sz',nn,es⟩))) B (w.setCells (B 0 s' []) (off * sz'+n * sz') news):=by
              refine tr_set (r:=⟨sz',nn,es⟩) (r1:=⟨sz',nn,es⟩) H hob rfl ⟨rfl,rfl,rfl⟩ hesne k3 (fun a1 b1 c hc=>.inl hc) (fun a1 b1 c hc hf=>.inl hc) W.os W.tape W.output W.size W.keep (fun arr0 t0 fr0 hb0 _=>?_)
              rw [hb] at hb0
              injection hb0 with hb0
              injection hb0 with q1 q2 q3
              subst q1;subst q2;subst q3
              refine ⟨arr',hb',hs',fun a1 b1 c hc=>.inl ⟨hc,hout _ (.inl ?_)⟩⟩
              obtain ⟨c1,c2⟩:=cellAt_lt (r:=⟨sz',nn,es⟩) k3 hc
              have:=mul_lt_of c1 c2
              simp only at this ⊢
              omega
            rw [show Ob.setRow (.row false sz' nn es) [] ⟨sz',nn,es⟩ = .row false sz' nn es from rfl,hset_self hob] at T1
            have T2:=hTd _ T1.hr
            have T:=T1.trans T2
            have hfree:¬Forb X (hset h 0 s' none) B (B 0 s' []):=by
              rintro (⟨u1,s1,p1,n1,z1,z2,z3⟩ | hX)
              · by_cases hus:u1=0∧s1=s'
                · obtain ⟨rfl,rfl⟩:=hus
                  simp [nd,hset_same] at z1
                · rw [nd_hset_ne hus] at z1
                  obtain ⟨y1,y2,_⟩:=H.inj _ _ _ _ _ _ _ _ z1 z2 hnr hlv z3
                  exact hus ⟨y1,y2⟩
              · exact H.apart _ ⟨0,s',[],_,hnr,hlv,rfl⟩ hX
            have hread:∀ i j d,dAt ds i j=some d→∃ v,arr'[(off+i) * sz'+j]? = some v∧v.oneCell'=true∧RD (w.setCells (B 0 s' []) (off * sz'+n * sz') news) (Forb X (hset h 0 s' none) B) d v:=by
              intro i j d hij
              obtain ⟨hi,hj,hh⟩:=hcell i j d hij
              rcases hh with ⟨hlt,hc⟩ | ⟨hge,hc⟩
              · obtain ⟨v,m1,m2,m3⟩:=k5 _ _ _ hc
                refine ⟨v, ?_,m3,T.stp.rd m2⟩
                rw [hout _ (.inl ?_)];exact m1
                have:=mul_lt_of (e:=off+i) (n:=off+n) (sz:=sz') (o:=j) (by omega) hj
                rw [Nat.add_mul off n] at this
                exact this
              · obtain ⟨d',v,hd',m1,m2,m3⟩:=E.cell _ _ _ hc
                injection hd' with hd'
                subst hd'
                refine ⟨v, ?_,m3,T.stp.rd m2⟩
                have:=hin _ _ m1
                rwa [←Nat.add_assoc,←Nat.add_mul,←Nat.add_mul,show off+n+(i - n)=off+i by omega] at this
            have hcl:∀ i j d,dAt ds i j=some d→(w.setCells (B 0 s' []) (off * sz'+n * sz') news).cell? (Addr.add ⟨B 0 s' [],off * sz',none⟩ (i * sz'+j))=some (arr'.getD ((off+i) * sz'+j) undef):=by
              intro i j d hij
              obtain ⟨v,m1,_⟩:=hread i j d hij
              have heq:(off+i) * sz'+j=off * sz'+(i * sz'+j):=by rw [Nat.add_mul,Nat.add_assoc]
              rw [heq] at m1 ⊢
              rw [add_at]
              simp [World.cell?,hb',m1]
            have hR:RD (w.setCells (B 0 s' []) (off * sz'+n * sz') news) (Forb X (hset h 0 s' none) B) (.sl true ds) (.slice (some ⟨B 0 s' [],off * sz',none⟩) ds.length cap):=by
              refine .sl true ds ⟨B 0 s' [],off * sz',none⟩ sz' cap (fun i j=>arr'.getD ((off+i) * sz'+j) undef) (.inl rfl) (by omega) hdsl (fun i j d _=>hfree) hcl (fun i j d hij=>?_) (fun i j d hij=>?_)
              · obtain ⟨v,m1,m2,_⟩:=hread i j d hij
                simp [m1,m2]
              · obtain ⟨v,m1,_,m3⟩:=hread i j d hij
                simpa [m1] using m3
            rw [hdl] at hR
            exact ⟨_,_,_,_,hrun hrun1, .inl rfl,T, .of1 (v:=.d (.sl true ds)) hR⟩
          · -- a new block
            have hol:((arr.toList.drop (off * sz')).take (n * sz')).length=n * sz':=by
              have:(off+n) * sz'≤arr.size:=by rw [hasz];exact Nat.mul_le_mul_right _ (by omega)
              rw [Nat.add_mul] at this
              simp;omega
            have hrd:(Builtin.firstCells sz' n (.slice (some ⟨B 0 s' [],off * sz',none⟩) n cap)).run P w.drew = .ok ((arr.toList.drop (off * sz')).take (n * sz')).toArray w.drew:=by
              refine run_firstCells_some _ _ _ _ _ _ _ hol (fun j v hj=>?_)
              have hlt:=(List.getElem?_eq_some_iff.1 hj).1
              rw [hol] at hlt
              rw [List.getElem?_take_of_lt hlt,List.getElem?_drop] at hj
              rw [add_at]
              show w.cell? _=_
              simp only [World.cell?,hb]
              simpa using hj
            obtain ⟨c',arr1,g1,g2,g3,g4⟩:=run_grow (ty:=o.type) A E hol hrd (by omega) (by rw [hyl];exact hroom)
            rw [←hv] at g4
            have hsame:∀ b,b<w.heap.size→(w.drew.alloc (.cells arr1 el)).heap[b]? = w.heap[b]?:=fun b hb=>by
              show (w.heap.push _)[b]? = _
              rw [Array.getElem?_push,if_neg (by omega)]
            have hblk:(w.drew.alloc (.cells arr1 el)).heap[w.heap.size]? = some (.cells arr1 el (0,0)):=by
              show (w.heap.push _)[w.heap.size]? = _
              simp
            have T1:Tr X h B w [] h B (w.drew.alloc (.cells arr1 el)):=tr_world H rfl rfl rfl (by show _≤(w.heap.push _).size;simp) hsame
            have T2:=hTd _ T1.hr
            have T:=T1.trans T2
            have hR:=rd_fresh H T1 (Nat.le_refl _) hblk (es:=ds) (sz:=sz') (cap:=c') (nn:=true) (.inl rfl) (by omega) hdsl (fun i j d hij=>by
              obtain ⟨hi,hj,hh⟩:=hcell i j d hij
              have hlt:=mul_lt_of (e:=i) (n:=n+ys.length) (sz:=sz') (o:=j) (by omega) hj
              rcases hh with ⟨hltn,hc⟩ | ⟨hge,hc⟩
              · obtain ⟨v,m1,m2,m3⟩:=k5 _ _ _ hc
                refine ⟨v, ?_,m3,m2⟩
                have h2:=mul_lt_of (e:=i) (n:=n) (sz:=sz') (o:=j) hltn hj
                rw [g3 _ hlt,List.getElem?_append_left (by rw [hol];exact h2),List.getElem?_take_of_lt h2,List.getElem?_drop]
                rw [Nat.add_mul,Nat.add_assoc] at m1
                simpa using m1
              · obtain ⟨d',v,hd',m1,m2,m3⟩:=E.cell _ _ _ hc
                injection hd' with hd'
                subst hd'
                refine ⟨v, ?_,m3,m2⟩
                have heq:i * sz'+j=n * sz'+((i - n) * sz'+j):=by
                  rw [←Nat.add_assoc,←Nat.add_mul,show n+(i - n)=i by omega]
                rw [g3 _ hlt,heq,List.getElem?_append_right (by rw [hol];omega),hol,Nat.add_sub_cancel_left]
                exact m1)
            have hR2:=T2.stp.rd hR
            rw [hdl,←hyl] at hR2
            exact ⟨_,_,_,_,hrun g4, .inl rfl,T, .of1 (v:=.d (.sl true ds)) hR2⟩
        · cases hc
      · cases he
    · cases he
  · cases he
end
end Go.Proofs.YtgmphfmoonbfpaaMv

namespace Go.Proofs.YtgmphfmoonbfpaaMv
open Go
def IOp.isCall:IOp→Bool
  | .call ..=>true
  | .callv ..=>true
  | .callo ..=>true
  | .callf ..=>true
  | _=>false
theorem eff_ok {P:Program} {X:Nat→Prop} {h:Hp} {B:Gh} {w:World} {f:Fr} {a:Act} {call:FuncId→List V→Option V} {dst:Nat} {o:Oper} {e:Eff} (H:HRel X h B w) (F:FRel X h B w f a) {op:IOp} (hn:op.isCall=false) (he:eff call f h dst op=some e) (hc:chk P o.op o.type op=true):EffOk P X h B w (execOp a.eval o) e:=by
  cases op with
  | mv x=>exact eff_mv H F he hc
  | mkrow sz=>exact eff_mkrow H he hc
  | pick c a b=>exact eff_pick H F he hc
  | alloc cs=>exact eff_alloc H he hc
  | box n own x=>exact eff_box H F he hc
  | build zero parts=>exact eff_build H F he hc
  | lit zero len parts=>exact eff_lit H F he hc
  | ld1 x=>exact eff_ld1 H F he hc
  | ldn n x=>exact eff_ldn H F he hc
  | st n x v=>exact eff_st H F he hc
  | nck x=>exact eff_nck H F he hc
  | bin op x y=>exact eff_bin H F he hc
  | eqb neg x y=>exact eff_eqb H F he hc
  | eqa neg ks x y=>exact eff_eqa H F he hc
  | isnil k neg x=>exact eff_isnil H F he hc
  | un op x=>exact eff_un H F he hc
  | cvi k x=>exact eff_cvi H F he hc
  | cvss x=>exact eff_cvss H F he hc
  | cvbs x=>exact eff_cvbs H F he hc
  | cvsb x=>exact eff_cvsb H F he hc
  | mkmap=>exact eff_mkmap H he hc
  | look isS ks zero ok m k=>exact eff_look H F he hc
  | upd isS ks m k v=>exact eff_upd H F he hc
  | mkrows zero bytes len=>exact eff_mkrows H F he hc
  | slc sz x lo hi=>exact eff_slc H F he hc
  | clip x=>exact eff_clip H F he hc
  | slcs x lo hi=>exact eff_slcs H F he hc
  | fa off x=>exact eff_fa H F he hc
  | ia size x i=>exact eff_ia H F he hc
  | ixs x i=>exact eff_ixs H F he hc
  | fld off n x=>exact eff_fld H F he hc
  | ext x i=>exact eff_ext H F he hc
  | call f args=>cases hn
  | callv f args=>cases hn
  | callo f args=>cases hn
  | callf f args=>cases hn
  | appz own sz bytes x y=>exact eff_appz H F he hc
  | appm sz bytes x y=>exact eff_appm H F he hc
  | stm n x v=>exact eff_stm H F he hc
  | len k x=>exact eff_len H F he hc
  | app fz own sz bytes x y=>exact eff_app H F he hc
  | cpy sz x y=>exact eff_cpy H F he hc
  | mn x xs=>exact eff_mn H F he hc
  | mx x xs=>exact eff_mx H F he hc
  | mkfn f caps=>exact eff_mkfn H F he hc
end Go.Proofs.YtgmphfmoonbfpaaMv

namespace Go.Proofs.YtgmphfmoonbfpaaMv
open Go
def Agree (f f':Fr) (h h':Hp) (ss:List Nat):Prop:=∀ t ∈ ss,f' t=f t ∧ ∀ y ∈ (f t).roots,h' y.1 y.2=h y.1 y.2
def SameAt (h h':Hp) (v:V):Prop:=∀ y ∈ v.roots,h' y.1 y.2=h y.1 y.2
section
variable {f f':Fr} {h h':Hp} {call:FuncId→List V→Option V} {dst:Nat}
theorem Agree.left {a b:List Nat} (A:Agree f f' h h' (a++b)):Agree f f' h h' a:=fun t ht=>A t (List.mem_append_left _ ht)
theorem Agree.right {a b:List Nat} (A:Agree f f' h h' (a++b)):Agree f f' h h' b:=fun t ht=>A t (List.mem_append_right _ ht)
theorem Agree.ev {x:Opd} (A:Agree f f' h h' x.slots):x.ev f'=x.ev f:=by
  cases x with
  | t s=>exact (A s (by simp [Opd.slots])).1
  | k d=>rfl
  | fn g=>rfl
theorem Agree.at {x:Opd} (A:Agree f f' h h' x.slots):SameAt h h' (x.ev f):=by
  cases x with
  | t s=>exact (A s (by simp [Opd.slots])).2
  | k d=>intro y hy;simp [Opd.ev,V.roots,V.root] at hy
  | fn g=>intro y hy;simp [Opd.ev,V.roots] at hy
theorem Agree.evs {xs:List Opd} (A:Agree f f' h h' (xs.flatMap Opd.slots)):xs.map (·.ev f')=xs.map (·.ev f):=
  List.map_congr_left fun x hx=>Agree.ev (h:=h) (h':=h') fun t ht=>A t (List.mem_flatMap.2 ⟨x,hx,ht⟩)
theorem Agree.opt {d:Nat} {x:Option Opd} (A:Agree f f' h h' (optSlots x)):optNat f' d x=optNat f d x:=by
  cases x with
  | none=>rfl
  | some x=>simp only [optNat];rw [Agree.ev (x:=x) A]
theorem SameAt.ptr {u s p e o} (S:SameAt h h' (.ptr u s p e o)):h' u s=h u s:=S (u,s) (by simp [V.roots,V.root])
theorem SameAt.msl {u s p e o} (S:SameAt h h' (.msl u s p e o)):h' u s=h u s:=S (u,s) (by simp [V.roots,V.root])
theorem SameAt.mp {u s a} (S:SameAt h h' (.mp u s a)):h' u s=h u s:=S (u,s) (by simp [V.roots,V.root])
theorem elems_cong {sz:Nat} {v:V} (S:SameAt h h' v):elems h' sz v=elems h sz v:=by
  cases v with
  | d d=>cases d <;> rfl
  | msl u s p off n=>simp only [elems,S.msl]
  | _=>rfl
theorem mapAt_cong {u s:Nat} {a} (hh:h' u s=h u s):mapAt h' u s a=mapAt h u s a:=by
  rcases a with _ | ⟨p,e,o⟩ <;> simp only [mapAt,hh]
theorem setMap_cong {u s:Nat} {es} {a} (hh:h' u s=h u s):setMap h' u s es a=setMap h u s es a:=by
  rcases a with _ | ⟨p,e,o⟩ <;> simp only [setMap,hh]
theorem toCell_cong {v:V} (S:SameAt h h' v):toCell h' v=toCell h v:=by
  unfold toCell
  split
  · rfl
  · rfl
  · simp only [S.msl]
  · simp only [S.mp]
  · rfl
theorem sameAt_of_list {vs:List V} (S:∀ y ∈ vs.filterMap V.root,h' y.1 y.2=h y.1 y.2):∀ v ∈ vs,v.atom=true→SameAt h h' v:=by
  intro v hv ha y hy
  refine S y (List.mem_filterMap.2 ⟨v,hv, ?_⟩)
  cases v <;> simp [V.roots,V.root,V.atom] at hy ha ⊢ <;> exact hy.symm
theorem toCell_atom {v:V} (hn:v.atom=false):toCell h v=none:=by cases v <;> first | rfl | cases hn
theorem toCells_cong':∀ {vs:List V},(∀ v ∈ vs,v.atom=true→SameAt h h' v)→toCells h' vs=toCells h vs
  | [],_=>rfl
  | v::vs,S=>by
    simp only [toCells]
    rw [toCells_cong' (vs:=vs) fun v hv=>S v (by simp [hv])]
    cases hv:v.atom with
    | true=>rw [toCell_cong (S v (by simp) hv)]
    | false=>rw [toCell_atom hv,toCell_atom hv]
theorem cellsOf_cong {n:Nat} {v:V} (S:SameAt h h' v):cellsOf h' n v=cellsOf h n v:=by
  unfold cellsOf
  split
  · rfl
  · rename_i vs
    rw [toCells_cong' (sameAt_of_list S)]
  · rw [toCell_cong S]
theorem eff_cong (op:IOp) (A:Agree f f' h h' op.slots):eff call f' h' dst op=eff call f h dst op:=by
  cases op with
  | mv x=>have E:=Agree.ev (x:=x) A;simp only [eff,E]
  | mkrow sz=>rfl
  | pick c a b=>
    have E1:=Agree.ev (x:=c) A.left;have E2:=Agree.ev (x:=a) A.right.left;have E3:=Agree.ev (x:=b) A.right.right
    simp only [eff,E1,E2,E3]
  | alloc cs=>rfl
  | box n own x=>have E:=Agree.ev (x:=x) A;have S:=Agree.at (x:=x) A;simp only [eff,E,cellsOf_cong S]
  | build zero ps=>
    have E:(ps.map fun (p:Nat × Nat × Opd)=>(p.1,p.2.1,p.2.2.ev f'))=ps.map fun p=>(p.1,p.2.1,p.2.2.ev f):=
      List.map_congr_left fun p hp=>by rw [Agree.ev (x:=p.2.2) (h:=h) (h':=h') fun t ht=>A t (List.mem_flatMap.2 ⟨p,hp,ht⟩)]
    simp only [eff]
    rw [E]
  | lit zero n ps=>
    have E:(ps.map fun (p:Nat × Opd)=>(p.1,p.2.ev f'))=ps.map fun p=>(p.1,p.2.ev f):=
      List.map_congr_left fun p hp=>by rw [Agree.ev (x:=p.2) (h:=h) (h':=h') fun t ht=>A t (List.mem_flatMap.2 ⟨p,hp,ht⟩)]
    simp only [eff]
    rw [E]
  | ld1 x=>
    have E:=Agree.ev (x:=x) A;have S:=Agree.at (x:=x) A
    simp only [eff,E]
    generalize x.ev f=v at S
    cases v <;> first | rfl | simp only [S.ptr]
  | ldn n x=>
    have E:=Agree.ev (x:=x) A;have S:=Agree.at (x:=x) A
    simp only [eff,E]
    generalize x.ev f=v at S
    cases v <;> first | rfl | simp only [S.ptr]
  | st n x y=>
    have E:=Agree.ev (x:=x) A.left;have S:=Agree.at (x:=x) A.left
    have E2:=Agree.ev (x:=y) A.right;have S2:=Agree.at (x:=y) A.right
    simp only [eff,E,E2,cellsOf_cong S2]
    generalize x.ev f=v at S
    cases v <;> first | rfl | simp only [S.ptr]
  | nck x=>have E:=Agree.ev (x:=x) A;simp only [eff,E]
  | bin op x y=>have E:=Agree.ev (x:=x) A.left;have E2:=Agree.ev (x:=y) A.right;simp only [eff,E,E2]
  | eqb neg x y=>have E:=Agree.ev (x:=x) A.left;have E2:=Agree.ev (x:=y) A.right;simp only [eff,E,E2]
  | eqa neg ks x y=>have E:=Agree.ev (x:=x) A.left;have E2:=Agree.ev (x:=y) A.right;simp only [eff,E,E2]
  | isnil k neg x=>
    have E:=Agree.ev (x:=x) A;have S:=Agree.at (x:=x) A
    simp only [eff,E]
    generalize x.ev f=v at S
    rcases k with _ | _ | _ | _ | k <;> cases v <;> first | rfl | simp only [S.msl] | (rename_i d;cases d <;> rfl)
  | un op x=>have E:=Agree.ev (x:=x) A;simp only [eff,E]
  | cvi k x=>have E:=Agree.ev (x:=x) A;simp only [eff,E]
  | cvss x=>have E:=Agree.ev (x:=x) A;simp only [eff,E]
  | cvbs x=>
    have E:=Agree.ev (x:=x) A;have S:=Agree.at (x:=x) A
    simp only [eff,E]
    generalize x.ev f=v at S
    cases v with
    | d d=>cases d <;> first | rfl | simp only [elems_cong S]
    | _=>first | rfl | simp only [elems_cong S]
  | cvsb x=>have E:=Agree.ev (x:=x) A;simp only [eff,E]
  | mkmap=>rfl
  | look isS ks zero ok m k=>
    have E:=Agree.ev (x:=m) A.left;have S:=Agree.at (x:=m) A.left
    have E2:=Agree.ev (x:=k) A.right
    simp only [eff,E,E2]
    generalize m.ev f=v at S
    generalize k.ev f=v2
    cases v <;> cases v2 <;> first | rfl | simp only [mapAt_cong S.mp] | (rename_i d;cases d <;> rfl) | (rename_i d _;cases d <;> rfl) | (rename_i d _ _;cases d <;> rfl)| (rename_i d _ _ _;cases d <;> rfl) | (rename_i d _ _ _ _;cases d <;> rfl) | (rename_i d _ _ _ _ _;cases d <;> rfl)
  | upd isS ks m k y=>
    have E:=Agree.ev (x:=m) A.left;have S:=Agree.at (x:=m) A.left
    have E2:=Agree.ev (x:=k) A.right.left
    have E3:=Agree.ev (x:=y) A.right.right
    simp only [eff,E,E2,E3]
    generalize m.ev f=v at S
    generalize k.ev f=v2
    generalize y.ev f=v3
    cases v <;> cases v2 <;> cases v3 <;> first | rfl | simp only [mapAt_cong S.mp,setMap_cong S.mp]
  | mkrows zero bytes n=>have E:=Agree.ev (x:=n) A;simp only [eff,E]
  | slc sz x lo hi=>
    have E:=Agree.ev (x:=x) A.left;have S:=Agree.at (x:=x) A.left
    have E2:=fun d=>Agree.opt (d:=d) A.right.left
    have E3:=fun d=>Agree.opt (d:=d) A.right.right
    simp only [eff,E]
    generalize x.ev f=v at S
    cases v with
    | msl u s p off n=>simp only [S.msl,E2,E3]
    | d d=>cases d <;> simp only [E2,E3]
    | _=>rfl
  | clip x=>
    have E:=Agree.ev (x:=x) A;have S:=Agree.at (x:=x) A
    simp only [eff,E]
    generalize x.ev f=v at S
    cases v <;> first | rfl | simp only [S.msl] | (rename_i d;cases d <;> rfl)
  | slcs x lo hi=>
    have E:=Agree.ev (x:=x) A.left
    have E2:=fun d=>Agree.opt (d:=d) A.right.left
    have E3:=fun d=>Agree.opt (d:=d) A.right.right
    simp only [eff,E,E2,E3]
  | fa off x=>have E:=Agree.ev (x:=x) A;simp only [eff,E]
  | ia sz x i=>
    have E:=Agree.ev (x:=x) A.left;have S:=Agree.at (x:=x) A.left
    have E2:=Agree.ev (x:=i) A.right
    simp only [eff,E,E2]
    generalize x.ev f=v at S
    generalize dnat (i.ev f)=v2
    cases v <;> cases v2 <;> first | rfl | simp only [S.msl] | (rename_i d;cases d <;> rfl) | (rename_i d _;cases d <;> rfl)
  | ixs x i=>have E:=Agree.ev (x:=x) A.left;have E2:=Agree.ev (x:=i) A.right;simp only [eff,E,E2]
  | fld off n x=>have E:=Agree.ev (x:=x) A;simp only [eff,E]
  | ext x i=>have E:=Agree.ev (x:=x) A;simp only [eff,E]
  | call g args=>have E:=Agree.evs A;simp only [eff,E]
  | callv x args=>have E:=Agree.ev (x:=x) A.left;have E2:=Agree.evs A.right;simp only [eff,E,E2]
  | callo g args=>rfl
  | callf g args=>rfl
  | appz own sz bytes x y=>
    have E:=Agree.ev (x:=x) A.left
    have E2:=Agree.ev (x:=y) A.right;have S2:=Agree.at (x:=y) A.right
    simp only [eff,E,E2,elems_cong S2]
  | appm sz bytes x y=>
    have E:=Agree.ev (x:=x) A.left;have S:=Agree.at (x:=x) A.left
    have E2:=Agree.ev (x:=y) A.right
    simp only [eff,E,E2]
    generalize x.ev f=v at S
    generalize y.ev f=v2
    cases v with
    | msl u s p off n=>
      rcases u with _ | u <;> rcases p with _ | ⟨_,_⟩ <;> first | rfl | skip
      cases v2 <;> first | rfl | skip
      rename_i u' s' p' off' n'
      rcases u' with _ | u' <;> rcases p' with _ | ⟨_,_⟩ <;> first | rfl | simp only [S.msl]
    | _=>rfl
  | stm n x y=>
    have E:=Agree.ev (x:=x) A.left;have S:=Agree.at (x:=x) A.left
    have E2:=Agree.ev (x:=y) A.right;have S2:=Agree.at (x:=y) A.right
    simp only [eff,E,E2,cellsOf_cong S2]
    generalize x.ev f=v at S
    cases v <;> first | rfl | simp only [S.ptr]
  | len k x=>
    have E:=Agree.ev (x:=x) A;have S:=Agree.at (x:=x) A
    simp only [eff,E]
    generalize x.ev f=v at S
    rcases k with _ | _ | _ | k <;> cases v <;> first | rfl | simp only [mapAt_cong S.mp] | (rename_i d;cases d <;> rfl)
  | app fz own sz bytes x y=>
    have E:=Agree.ev (x:=x) A.left;have S:=Agree.at (x:=x) A.left
    have E2:=Agree.ev (x:=y) A.right;have S2:=Agree.at (x:=y) A.right
    simp only [eff,E,E2,elems_cong S2]
    generalize x.ev f=v at S
    generalize elems h sz (y.ev f)=q
    cases q with
    | none=>rfl
    | some q=>
      simp only [Option.bind_some]
      cases v <;> first | rfl | simp only [S.msl] | (rename_i d;cases d <;> first | rfl | (rename_i nn es;cases nn <;> cases es <;> rfl))
  | cpy sz x y=>
    have E:=Agree.ev (x:=x) A.left;have S:=Agree.at (x:=x) A.left
    have E2:=Agree.ev (x:=y) A.right;have S2:=Agree.at (x:=y) A.right
    simp only [eff,E,E2,elems_cong S2]
    generalize x.ev f=v at S
    generalize elems h sz (y.ev f)=q
    cases q with
    | none=>rfl
    | some q=>
      simp only [Option.bind_some]
      cases v <;> first | rfl | simp only [S.msl] | (rename_i d;cases d <;> rfl)
  | mn x xs=>have E:=Agree.ev (x:=x) A.left;have E2:=Agree.evs A.right;simp only [eff,E,E2]
  | mx x xs=>have E:=Agree.ev (x:=x) A.left;have E2:=Agree.evs A.right;simp only [eff,E,E2]
  | mkfn g caps=>have E:=Agree.evs A;simp only [eff,E]
end
end Go.Proofs.YtgmphfmoonbfpaaMv

namespace Go.Proofs.YtgmphfmoonbfpaaMv
open Go
theorem kill1_comm (k k':Kill) (v:V):(v.kill1 k).kill1 k'=(v.kill1 k').kill1 k:=by
  cases v with
  | ptr u s p e o=>cases h1:k.hits u s p <;> cases h2:k'.hits u s p <;> simp [V.kill1,h1,h2]
  | msl u s p e o=>cases h1:k.hits u s p <;> cases h2:k'.hits u s p <;> simp [V.kill1,h1,h2]
  | mp u s a=>
    rcases a with _ | ⟨p,e,o⟩
    · cases h1:k.hits u s [] <;> cases h2:k'.hits u s [] <;> simp [V.kill1,h1,h2]
    · cases h1:k.hits u s (p++[(e,o)]) <;> cases h2:k'.hits u s (p++[(e,o)]) <;> simp [V.kill1,h1,h2]
  | _=>rfl
theorem kill_comm (k k':Kill) (v:V):(v.kill k).kill k'=(v.kill k').kill k:=by
  have key:∀ v:V,v.atom=true→(v.kill k).kill k'=(v.kill k').kill k:=by
    intro v hv
    rw [kill1_atom k v hv,kill1_atom k' v hv,kill1_atom k' _ (by rw [←kill1_atom k v hv];exact kill1_atom' k v hv),kill1_atom k _ (by rw [←kill1_atom k' v hv];exact kill1_atom' k' v hv)]
    exact kill1_comm k k' v
  cases v with
  | fn f vs=>simp only [V.kill,List.map_map];congr 1;exact List.map_congr_left fun v _=>kill1_comm k k' v
  | agg vs=>simp only [V.kill,List.map_map];congr 1;exact List.map_congr_left fun v _=>kill1_comm k k' v
  | tup vs=>simp only [V.kill,List.map_map];congr 1;exact List.map_congr_left fun v _=>kill1_comm k k' v
  | _=>exact key _ rfl
theorem kill_kills (k:Kill):∀ (ks:List Kill) (v:V),(v.kill k).kills ks=(v.kills ks).kill k
  | [],v=>rfl
  | k'::ks,v=>by
    show ((v.kill k).kill k').kills ks=((v.kill k').kills ks).kill k
    rw [kill_comm,kill_kills k ks]
theorem kills_comm:∀ (a b:List Kill) (v:V),(v.kills a).kills b=(v.kills b).kills a
  | [],b,v=>rfl
  | k::a,b,v=>by
    show ((v.kill k).kills a).kills b=((v.kills b).kill k).kills a
    rw [kills_comm a b,kill_kills]
theorem hits_rt {k:Kill} {u s:Nat} {p:Path} (h:k.hits u s p=true):k.rt=(u,s):=by
  cases k with
  | root u' s'=>simp [Kill.hits] at h;simp [Kill.rt,h]
  | under u' s' p' e lo hi=>simp [Kill.hits] at h;simp [Kill.rt,h.1,h.2.1]
theorem kill1_self {k:Kill} {v:V} (ha:v.atom=true) (hr:k.rt ∉ v.roots):v.kill1 k=v:=by
  have key:∀ u s p,v.roots=[(u,s)]→k.hits u s p=false:=by
    intro u s p h
    cases hh:k.hits u s p with
    | false=>rfl
    | true=>rw [h,hits_rt hh] at hr;simp at hr
  cases v with
  | ptr u s p e o=>simp [V.kill1,key u s p rfl]
  | msl u s p e o=>simp [V.kill1,key u s p rfl]
  | mp u s a=>rcases a with _ | ⟨p,e,o⟩ <;> simp [V.kill1,key u s _ rfl]
  | fn f vs=>cases ha
  | agg vs=>cases ha
  | tup vs=>cases ha
  | _=>rfl
theorem map_kill1_self {k:Kill} {vs:List V} (hf:vs.all V.atom=true) (hr:k.rt ∉ vs.filterMap V.root):vs.map (V.kill1 k)=vs:=by
  rw [show vs=vs.map id from (List.map_id vs).symm,List.map_map]
  refine List.map_congr_left fun v hv=>?_
  have ha:=List.all_eq_true.1 hf v hv
  refine kill1_self ha fun hm=>hr (List.mem_filterMap.2 ⟨v,hv, ?_⟩)
  cases v <;> simp [V.roots,V.root,V.atom] at hm ha ⊢ <;> exact hm.symm
theorem kill_self {k:Kill} {v:V} (hf:v.flat=true) (hr:k.rt ∉ v.roots):v.kill k=v:=by
  cases v with
  | fn f vs=>simp only [V.kill];rw [map_kill1_self hf hr]
  | agg vs=>simp only [V.kill];rw [map_kill1_self hf hr]
  | tup vs=>simp only [V.kill];rw [map_kill1_self hf hr]
  | _=>exact (kill1_atom k _ rfl).trans (kill1_self rfl hr)
theorem kills_noroot:∀ {ks:List Kill} {v:V},v.flat=true→(∀ k ∈ ks,k.rt ∉ v.roots)→v.kills ks=v
  | [],v,_,_=>rfl
  | k::ks,v,hf,hr=>by
    show (v.kill k).kills ks=v
    rw [kill_self hf (hr k (by simp))]
    exact kills_noroot hf fun k' hk=>hr k' (by simp [hk])
theorem kill1_atomic (k:Kill) (v:V):(v.kill1 k).atom=true:=by
  cases v with
  | ptr u s p e o=>simp only [V.kill1];split <;> rfl
  | msl u s p e o=>simp only [V.kill1];split <;> rfl
  | mp u s a=>rcases a with _ | ⟨p,e,o⟩ <;> (simp only [V.kill1];split <;> rfl)
  | _=>rfl
theorem kill_flat (k:Kill) {v:V} (hf:v.flat=true):(v.kill k).flat=true:=by
  have hl:∀ vs:List V,(vs.map (V.kill1 k)).all V.atom=true:=fun vs=>List.all_eq_true.2 fun v hv=>by
    obtain ⟨u,_,rfl⟩:=List.mem_map.1 hv
    exact kill1_atomic k u
  cases v with
  | fn f vs=>exact hl vs
  | agg vs=>exact hl vs
  | tup vs=>exact hl vs
  | _=>
    have:∀ y:V,y.atom=true→y.flat=true:=by intro y hy;cases y <;> first | rfl | cases hy
    exact this _ (by rw [kill1_atom k _ rfl];exact kill1_atomic k _)
theorem kills_flat:∀ (ks:List Kill) {v:V},v.flat=true→(v.kills ks).flat=true
  | [],v,h=>h
  | k::ks,v,h=>kills_flat ks (kill_flat k h)
theorem hset_comm (h:Hp) {u s u' s':Nat} (hne:(u,s)≠(u',s')) (o o':Option Ob):hset (hset h u s o) u' s' o'=hset (hset h u' s' o') u s o:=by
  funext a b
  simp only [hset]
  by_cases h1:a=u'∧b=s'
  · by_cases h2:a=u∧b=s
    · exact absurd (by rw [←h1.1,←h1.2,h2.1,h2.2]) hne
    · simp [h1,h2]
      intro h3 h4;exact absurd (by rw [h3,h4]) hne
  · simp [h1]
theorem updH_hset:∀ (b:List (Nat × Nat × Option Ob)) (h:Hp) {u s:Nat} (o:Option Ob),(∀ x ∈ b,(x.1,x.2.1)≠(u,s))→updH (hset h u s o) b=hset (updH h b) u s o
  | [],h,u,s,o,_=>rfl
  | (u',s',o')::b,h,u,s,o,hne=>by
    simp only [updH]
    rw [hset_comm h (fun hh=>hne (u',s',o') (by simp) hh.symm),updH_hset b _ o fun x hx=>hne x (by simp [hx])]
theorem updH_comm:∀ (a b:List (Nat × Nat × Option Ob)) (h:Hp),(∀ x ∈ a,∀ y ∈ b,(x.1,x.2.1)≠(y.1,y.2.1))→updH (updH h a) b=updH (updH h b) a
  | [],b,h,_=>rfl
  | (u,s,o)::a,b,h,hne=>by
    simp only [updH]
    rw [updH_comm a b _ fun x hx=>hne x (by simp [hx]),updH_hset b h o fun x hx hh=>hne (u,s,o) (by simp) x hx hh.symm]
theorem updH_out:∀ (b:List (Nat × Nat × Option Ob)) (h:Hp) {u s:Nat},(∀ x ∈ b,(x.1,x.2.1)≠(u,s))→updH h b u s=h u s
  | [],h,u,s,_=>rfl
  | (u',s',o')::b,h,u,s,hne=>by
    simp only [updH]
    rw [updH_out b _ fun x hx=>hne x (by simp [hx]),hset_ne]
    rintro ⟨rfl,rfl⟩
    exact hne (_,_,o') (by simp) rfl
end Go.Proofs.YtgmphfmoonbfpaaMv

namespace Go.Proofs.YtgmphfmoonbfpaaMv
open Go
def cellIn (h:Hp) (q:CAt):Option C:=((h q.1 q.2.1).bind (·.row? q.2.2.1)).bind fun r=>cellAt r.es q.2.2.2.1 q.2.2.2.2
inductive OSim:Option C→Option C→Prop
  | none:OSim none none
  | some {a b:C} (h:CSim a b):OSim (some a) (some b)
theorem CSim.symm {a b:C} (h:CSim a b):CSim b a:=by
  rcases h with rfl | ⟨sz,nn,es,es',rfl,rfl,h⟩ | ⟨es,es',rfl,rfl⟩
  · exact .inl rfl
  · exact .inr (.inl ⟨_,_,_,_,rfl,rfl,h.symm⟩)
  · exact .inr (.inr ⟨_,_,rfl,rfl⟩)
theorem OSim.symm {a b:Option C} (h:OSim a b):OSim b a:=by
  cases h with
  | none=>exact .none
  | some h=>exact .some h.symm
theorem OSim.refl (a:Option C):OSim a a:=by
  cases a with
  | none=>exact .none
  | some c=>exact .some .rfl'
theorem OSim.of_eq {a b:Option C} (h:a=b):OSim a b:=h ▸ .refl a
theorem CSim.trans {a b c:C} (h:CSim a b) (k:CSim b c):CSim a c:=by
  rcases h with rfl | ⟨sz,nn,es,es',rfl,rfl,h⟩ | ⟨es,es',rfl,rfl⟩
  · exact k
  · rcases k with rfl | ⟨_,_,_,es2,h1,rfl,k⟩ | ⟨_,_,h1,_⟩
    · exact .inr (.inl ⟨_,_,_,_,rfl,rfl,h⟩)
    · injection h1 with h1 h2 h3;subst h1;subst h2;subst h3
      exact .inr (.inl ⟨_,_,_,_,rfl,rfl,h.trans k⟩)
    · cases h1
  · rcases k with rfl | ⟨_,_,_,_,h1,_⟩ | ⟨_,es2,h1,rfl⟩
    · exact .inr (.inr ⟨_,_,rfl,rfl⟩)
    · cases h1
    · exact .inr (.inr ⟨_,_,rfl,rfl⟩)
theorem OSim.trans {a b c:Option C} (h:OSim a b) (k:OSim b c):OSim a c:=by
  cases h with
  | none=>exact k
  | some h=>cases k with | some k=>exact .some (h.trans k)
section
variable {h:Hp} {call:FuncId→List V→Option V} {f:Fr} {dst:Nat} {e:Eff}
theorem cellIn_out {l:List (Nat × Nat × Option Ob)} {q:CAt} (hq:∀ x ∈ l,(x.1,x.2.1)≠(q.1,q.2.1)):cellIn (updH h l) q=cellIn h q:=by
  unfold cellIn
  rw [updH_out l h hq]
theorem rowGo_cell {p:Path} {e o:Nat}:∀ {r r':Row},NSim (ndGo r p) (ndGo r' p)→OSim ((rowGo r p).bind fun x=>cellAt x.es e o) ((rowGo r' p).bind fun x=>cellAt x.es e o):=by
  intro r r' hs
  cases hr:rowGo r p with
  | none=>
    cases hr':rowGo r' p with
    | none=>exact .none
    | some r1=>
      rw [ndGo_of_rowGo _ _ _ hr'] at hs
      generalize hx:ndGo r p=x at hs
      cases hs with
      | row h1=>rw [rowGo_of_ndGo _ _ _ hx] at hr;cases hr
  | some r0=>
    rw [ndGo_of_rowGo _ _ _ hr] at hs
    generalize hx:ndGo r' p=x at hs
    cases hs with
    | @row _ r1 h1=>
      rw [rowGo_of_ndGo _ _ _ hx]
      simp only [Option.bind_some]
      cases hc:cellAt r1.es e o with
      | some c=>
        obtain ⟨c0,h2,h3⟩:=h1.cell e o c hc
        rw [h2];exact .some h3
      | none=>
        cases hc0:cellAt r0.es e o with
        | none=>exact .none
        | some c=>
          exfalso
          have hl:=h1.len e
          obtain ⟨cs,g1,g2⟩:=cellAt_some hc0
          rw [g1] at hl
          cases hcs:r1.es[e]? with
          | none=>rw [hcs] at hl;cases hl
          | some cs'=>
            rw [hcs] at hl
            simp only [Option.map_some,Option.some.injEq] at hl
            have:o<cs'.length:=by rw [←hl];exact (List.getElem?_eq_some_iff.1 g2).1
            simp [cellAt,hcs,this] at hc
theorem rowGo_append':∀ (p:Path) (r r0:Row) (q:Path),rowGo r p=some r0→rowGo r (p++q)=rowGo r0 q
  | [],r,r0,q,h=>by simp [rowGo] at h;subst h;rfl
  | (e,o)::p,r,r0,q,h=>by
    simp only [List.cons_append,rowGo] at h ⊢
    split at h
    · rename_i hc;exact rowGo_append' p _ r0 q h
    · cases h
theorem rowGo_setGoC:∀ (p:Path) (r r0 r1:Row),rowGo r p=some r0→rowGo (setGo r p r1) p=some r1
  | [],r,r0,r1,h=>rfl
  | (e,o)::p,r,r0,r1,h=>by
    simp only [rowGo] at h
    cases hc:cellAt r.es e o with
    | none=>simp [hc] at h
    | some c=>
      cases c with
      | own sz nn es=>
        simp only [hc] at h
        simp only [setGo,hc,rowGo,cellAt_setCells]
        simp only [List.length_singleton,Nat.le_refl,true_and,hc,Option.isSome_some,and_true]
        rw [if_pos (by omega)]
        simp only [Nat.sub_self,List.getElem?_cons_zero]
        exact rowGo_setGoC p _ r0 r1 h
      | _=>simp [hc] at h
theorem passes_append {e lo hi:Nat}:∀ (p rest:Path),passes e lo hi p (p++rest)=passes e lo hi [] rest
  | [],rest=>rfl
  | (a,b)::p,rest=>by simp [passes,passes_append p rest]
theorem cellIn_setCells {u s:Nat} {ob:Ob} {p:Path} {r:Row} {e1 o1:Nat} {new:List C} (ho:h u s=some ob) (hr:ob.row? p=some r) {q:CAt}
    (hq:¬(q.1=u∧q.2.1=s)∨passes e1 o1 (o1+new.length) p (q.2.2.1++[(q.2.2.2.1,q.2.2.2.2)])=false) :
    OSim (cellIn h q) (cellIn (hset h u s (some (ob.setRow p { r with es:=setCells r.es e1 o1 new }))) q):=by
  obtain ⟨u',s',p',e',o'⟩:=q
  simp only at hq
  by_cases hus:u'=u∧s'=s
  · obtain ⟨rfl,rfl⟩:=hus
    have hp:passes e1 o1 (o1+new.length) p (p'++[(e',o')])=false:=hq.resolve_left (by simp)
    cases ob with
    | map es=>simp [Ob.row?] at hr
    | row fx sz nn es=>
      simp only [cellIn,ho,hset_same,Option.bind_some,Ob.row?,Ob.setRow]
      simp only [Ob.row?] at hr
      have hset:(⟨(setGo ⟨sz,nn,es⟩ p { r with es:=setCells r.es e1 o1 new }).sz,(setGo ⟨sz,nn,es⟩ p { r with es:=setCells r.es e1 o1 new }).nn,(setGo ⟨sz,nn,es⟩ p { r with es:=setCells r.es e1 o1 new }).es⟩:Row)=setGo ⟨sz,nn,es⟩ p { r with es:=setCells r.es e1 o1 new }:=rfl
      rw [hset]
      by_cases hpp:p <+: p'
      · obtain ⟨rest,rfl⟩:=hpp
        rw [rowGo_append' p _ _ rest hr,rowGo_append' p _ _ rest (rowGo_setGoC p _ _ _ hr)]
        rw [List.append_assoc,passes_append] at hp
        have hcell:∀ a b,passes e1 o1 (o1+new.length) [] [(a,b)]=false→cellAt (setCells r.es e1 o1 new) a b=cellAt r.es a b:=by
          intro a b hh
          rw [cellAt_setCells,if_neg]
          rintro ⟨rfl,h1,h2,_⟩
          simp [passes,h1,h2] at hh
        cases rest with
        | nil=>
          simp only [rowGo,Option.bind_some]
          rw [hcell e' o' hp]
          exact .refl _
        | cons x rest=>
          obtain ⟨a,b⟩:=x
          have:=hcell a b (by simpa [passes] using hp)
          refine .of_eq ?_
          simp only [rowGo,this]
      · refine rowGo_cell (ndGo_set_sim p _ r _ p' hr ⟨rfl,rfl,by simp [setCells_length]⟩ hpp)
  · simp only [cellIn]
    rw [hset_ne _ _ _ _ hus]
    exact .refl _
theorem hits_root {u s u' s':Nat} {q:Path} (h:(Kill.root u s).hits u' s' q=false):(u,s)≠(u',s'):=by
  rintro hh
  injection hh with h1 h2
  subst h1;subst h2
  simp [Kill.hits] at h
theorem quiet_eff {op:IOp} (hq:op.quiet=true) (he:eff call f h dst op=some e):e.upd=[]∧e.kill=[]:=by
  have key:∀ {o:Option Eff},(∀ e',o=some e'→e'.upd=[]∧e'.kill=[])→o=some e→e.upd=[]∧e.kill=[]:=fun h1 h2=>h1 e h2
  cases op <;> first | (simp [IOp.quiet] at hq;done) | skip
  all_goals
    simp only [eff] at he
    repeat' (first
      | (exact ⟨rfl,rfl⟩)
      | (simp only [Option.bind_eq_some_iff,Option.map_eq_some_iff,Option.some.injEq,reduceCtorEq,Prod.exists] at he)
      | (obtain ⟨_,_,he⟩:=he)
      | (obtain ⟨_,he⟩:=he)
      | (subst he;exact ⟨rfl,rfl⟩)
      | (split at he)
      | (cases he;done))
theorem toCells_len':∀ {vs:List V} {new:List C} {a:List Nat},toCells h vs=some (new,a)→new.length=vs.length
  | [],new,a,hh=>by simp only [toCells,Option.some.injEq,Prod.mk.injEq] at hh;rw [←hh.1];rfl
  | v::vs,new,a,hh=>by
    simp only [toCells,Option.bind_eq_some_iff,Option.map_eq_some_iff,Prod.exists,Prod.mk.injEq] at hh
    obtain ⟨c,b,_,cs',b',h2,h3,h4⟩:=hh
    rw [←h3]
    simp [toCells_len' h2]
theorem cellsOf_len' {n:Nat} {v:V} {new:List C} {a:List Nat} (hh:cellsOf h n v=some (new,a)):new.length=n:=by
  unfold cellsOf at hh
  split at hh
  · split at hh
    · simp only [Option.some.injEq,Prod.mk.injEq] at hh;rw [←hh.1];simpa
    · cases hh
  · split at hh
    · rename_i vs _ hl
      rw [←hl]
      exact toCells_len' hh
    · cases hh
  · split at hh
    · rename_i hn
      simp only [Option.map_eq_some_iff,Prod.exists,Prod.mk.injEq] at hh
      obtain ⟨c,b,_,h1,_⟩:=hh
      rw [←h1,hn];rfl
    · cases hh
theorem cov_eff {op:IOp} (hc:op.cov=true) (he:eff call f h dst op=some e) {q:CAt} (hk:∀ k ∈ e.kill,k.hits q.1 q.2.1 (q.2.2.1++[(q.2.2.2.1,q.2.2.2.2)])=false):OSim (cellIn h q) (cellIn (updH h e.upd) q):=by
  cases hq:op.quiet with
  | true=>
    rw [(quiet_eff hq he).1]
    exact .refl _
  | false=>
    have hone:∀ {o:Option Ob} {ob:Option Ob},e.upd=[(0,dst,ob)]→Kill.root 0 dst ∈ e.kill→OSim (cellIn h q) (cellIn (updH h e.upd) q):=by
      intro o ob h1 h2
      rw [h1]
      refine .of_eq (cellIn_out fun x hx=>?_).symm
      simp only [List.mem_singleton] at hx
      subst hx
      exact hits_root (hk _ h2)
    cases op <;> first | (simp [IOp.quiet] at hq;done) | (simp [IOp.cov] at hc;done) | skip
    case mkrow sz=>simp only [eff,Option.some.injEq] at he;subst he;exact hone (o:=none) rfl (by simp)
    case alloc cs=>simp only [eff,Option.some.injEq] at he;subst he;exact hone (o:=none) rfl (by simp)
    case mkmap=>simp only [eff,Option.some.injEq] at he;subst he;exact hone (o:=none) rfl (by simp)
    case mkrows zero bytes len=>
      simp only [eff,Option.bind_eq_some_iff] at he
      obtain ⟨n,_,he⟩:=he
      split at he
      · simp only [Option.some.injEq] at he;subst he;exact hone (o:=none) rfl (by simp)
      · cases he
    case box n own x=>
      simp only [eff,Option.bind_eq_some_iff,Prod.exists] at he
      obtain ⟨cs,a,_,he⟩:=he
      split at he
      · simp only [Option.some.injEq] at he
        subst he
        refine .of_eq (cellIn_out fun x hx=>?_).symm
        simp only [drops,List.mem_append,List.mem_map,List.mem_singleton] at hx
        rcases hx with ⟨s0,h1,rfl⟩ | rfl
        · exact hits_root (hk (.root 0 s0) (by simp [dropKills,h1]))
        · exact hits_root (hk (.root 0 dst) (by simp [dropKills]))
      · cases he
    case st n x v=>
      simp only [eff] at he
      split at he
      · rename_i u s p e1 o1 hx
        simp only [Option.bind_eq_some_iff,Prod.exists] at he
        obtain ⟨new,a,hcs,ob,hob,r,hr,cs,hcse,he⟩:=he
        split at he
        · rename_i hcond
          simp only [Option.some.injEq] at he
          subst he
          have hdrop:∀ x ∈ drops a,(x.1,x.2.1)≠(q.1,q.2.1):=by
            intro x hx
            simp only [drops,List.mem_map] at hx
            obtain ⟨s0,h1,rfl⟩:=hx
            exact hits_root (hk (.root 0 s0) (by simp [dropKills,h1]))
          have hlen:new.length=n:=cellsOf_len' hcs
          have hsplit:∀ (l:List (Nat × Nat × Option Ob)) (h:Hp) (u s:Nat) (o:Option Ob),updH h (l++[(u,s,o)])=hset (updH h l) u s o:=by
            intro l
            induction l with
            | nil=>intro h u s o;rfl
            | cons x l ih=>intro h u s o;exact ih _ u s o
          rw [hsplit]
          have hob':updH h (drops a) u s=some ob:=by
            rw [updH_out]
            · exact hob
            · intro x hx hh
              simp only [drops,List.mem_map] at hx
              obtain ⟨s0,h1,rfl⟩:=hx
              simp only [Prod.mk.injEq] at hh
              rcases hcond.2.2 with h3 | h3
              · exact h3 hh.1.symm
              · rw [hh.2] at h1;simp [h1] at h3
          refine (OSim.of_eq (cellIn_out hdrop).symm).trans (cellIn_setCells hob' hr ?_)
          have:=hk (.under u s p e1 o1 (o1+n)) (by simp)
          simp only [Kill.hits,Bool.and_eq_false_iff,beq_eq_false_iff_ne,ne_eq] at this
          rw [hlen]
          rcases this with h1 | h1 | h1
          · exact .inl fun h=>h1 h.1.symm
          · exact .inl fun h=>h1 h.2.symm
          · exact .inr h1
        · cases he
      · cases he
    case app fz own sz bytes x y=>
      simp only [eff,Option.bind_eq_some_iff,Prod.exists] at he
      obtain ⟨ys,rd,_,he⟩:=he
      split at he
      · rename_i u s p off n hx
        simp only [Option.bind_eq_some_iff] at he
        obtain ⟨ob,hob,r,hr,he⟩:=he
        split at he
        · split at he
          · split at he
            · simp only [Option.some.injEq] at he
              subst he
              refine .of_eq (cellIn_out fun x hx=>?_).symm
              simp only [List.mem_singleton] at hx
              subst hx
              exact hits_root (hk _ (by simp))
            · cases he
          · rename_i e1 o1 hp
            simp only [Option.bind_eq_some_iff] at he
            obtain ⟨q',hq',he⟩:=he
            split at he
            · simp only [Option.some.injEq] at he
              subst he
              have h1:=hits_root (hk (.root 0 dst) (by simp))
              have hset:updH h [(u,s,some (ob.setRow p.dropLast { q' with es:=setCells q'.es e1 o1 [.bad] })),(0,dst,some (.row false sz r.nn (r.es++ys.map (ownify own))))] =
                  updH (hset h u s (some (ob.setRow p.dropLast { q' with es:=setCells q'.es e1 o1 [.bad] }))) [(0,dst,some (.row false sz r.nn (r.es++ys.map (ownify own))))]:=rfl
              rw [hset]
              refine (cellIn_setCells hob hq' ?_).trans (.of_eq (cellIn_out fun x hx=>?_).symm)
              · have:=hk (.under u s p.dropLast e1 o1 (o1+1)) (by simp)
                simp only [Kill.hits,Bool.and_eq_false_iff,beq_eq_false_iff_ne,ne_eq] at this
                rcases this with h1 | h1 | h1
                · exact .inl fun h=>h1 h.1.symm
                · exact .inl fun h=>h1 h.2.symm
                · exact .inr h1
              · simp only [List.mem_singleton] at hx
                subst hx
                exact h1
            · cases he
        · cases he
      · split at he
        · simp only [Option.map_eq_some_iff] at he
          obtain ⟨_,_,rfl⟩:=he
          exact .refl _
        · cases he
      · split at he
        · simp only [Option.map_eq_some_iff] at he
          obtain ⟨_,_,rfl⟩:=he
          exact .refl _
        · cases he
      · cases he
end
end Go.Proofs.YtgmphfmoonbfpaaMv

namespace Go.Proofs.YtgmphfmoonbfpaaMv
open Go
def appF (f:Fr) (dst:Option Nat) (e:Eff):Fr:=fun t=>if dst=some t then e.v else (f t).kills e.kill
inductive RemH (callr:CallR) (G:Eff→Prop) (U:Nat→Nat→Prop) (ff:Fr) (hf:Hp):Fr→Hp→List (Nat × II)→List (Nat × Foot)→Prop
  | nil {es}:RemH callr G U ff hf ff hf [] es
  | cons {f h i I L es e} (he:effI callr f h I=some e) (hG:G e) (hc:∀ j ft,(j,ft) ∈ es→U j i→clash I.slots (foot f I e) ft=false)
      (hr:RemH callr G U ff hf (appF f I.dst e) (updH h e.upd) L ((i,foot f I e)::es)):RemH callr G U ff hf f h ((i,I)::L) es
section
variable {callr:CallR} {G:Eff→Prop} {U:Nat→Nat→Prop} {ff:Fr} {hf:Hp}
structure FLe (ft ft':Foot):Prop where
  wr:ft.wr=ft'.wr
  ks:ft.ks=ft'.ks
  rh:ft.rh=ft'.rh
  cr:ft.cr=ft'.cr
  cov:ft.cov=ft'.cov
  vs:ft.vs=ft'.vs
  hit:∀ t,ft'.hit t=true→ft.hit t=true
theorem FLe.refl (ft:Foot):FLe ft ft:=⟨rfl,rfl,rfl,rfl,rfl,rfl,fun _ h=>h⟩
theorem clash_mono {ss:List Nat} {a ft ft':Foot} (h:clash ss a ft=false) (L:FLe ft ft'):clash ss a ft'=false:=by
  unfold clash at h ⊢
  simp only [Bool.or_eq_false_iff] at h ⊢
  rw [←L.wr,←L.ks,←L.rh,←L.cr,←L.cov,←L.vs]
  refine ⟨h.1,h.2.1,h.2.2.1,h.2.2.2.1,h.2.2.2.2.1,h.2.2.2.2.2.1, ?_⟩
  have h3:=h.2.2.2.2.2.2
  rw [List.any_eq_false] at h3 ⊢
  exact fun t ht hx=>h3 t ht (L.hit t hx)
theorem RemH.mono {f:Fr} {h:Hp} {L:List (Nat × II)} {es:List (Nat × Foot)} (R:RemH callr G U ff hf f h L es):∀ {es':List (Nat × Foot)},
    (∀ j ft',(j,ft') ∈ es'→∃ ft,(j,ft) ∈ es∧FLe ft ft')→RemH callr G U ff hf f h L es':=by
  induction R with
  | nil=>intro es' _;exact .nil
  | cons he hG hc hr ih=>
    intro es' hm
    refine .cons he hG (fun j ft' hj hu=>?_) (ih fun j ft' hj=>?_)
    · obtain ⟨ft,h1,h2⟩:=hm j ft' hj
      exact clash_mono (hc j ft h1 hu) h2
    · rcases List.mem_cons.1 hj with hj | hj
      · exact ⟨ft',by rw [hj];simp, .refl _⟩
      · obtain ⟨ft,h1,h2⟩:=hm j ft' hj
        exact ⟨ft,List.mem_cons_of_mem _ h1,h2⟩
theorem meets_false {a b:List (Nat × Nat)} (h:meets a b=false) {y:Nat × Nat} (h1:y ∈ a) (h2:y ∈ b):False:=by
  unfold meets at h
  rw [List.any_eq_false] at h
  exact h y h1 (by simpa using h2)
theorem meets_of {a b:List (Nat × Nat)} (h:∀ y ∈ a,y ∉ b):meets a b=false:=by
  unfold meets
  rw [List.any_eq_false]
  intro y hy hh
  exact h y hy (by simpa using hh)
theorem kill_mem_writes {e:Eff} {k:Kill} (hk:k ∈ e.kill):k.rt ∈ e.writes:=List.mem_append_right _ (List.mem_map_of_mem hk)
theorem upd_mem_writes {e:Eff} {x:Nat × Nat × Option Ob} (hx:x ∈ e.upd):(x.1,x.2.1) ∈ e.writes:=List.mem_append_left _ (List.mem_map.2 ⟨x,hx,rfl⟩)
theorem on_rt {k:Kill} {v:V} (h:k.on v=true):k.rt ∈ v.roots:=by
  cases v with
  | ptr u s p e o=>rw [hits_rt h];simp [V.roots,V.root]
  | msl u s p e o=>rw [hits_rt h];simp [V.roots,V.root]
  | mp u s a=>rcases a with _ | ⟨p,e,o⟩ <;> (rw [hits_rt h];simp [V.roots,V.root])
  | _=>simp [Kill.on] at h
theorem kill1_off {k:Kill} {v:V} (ha:v.atom=true) (h:k.on v=false):v.kill1 k=v:=by
  cases v with
  | ptr u s p e o=>simp only [Kill.on] at h;simp [V.kill1,h]
  | msl u s p e o=>simp only [Kill.on] at h;simp [V.kill1,h]
  | mp u s a=>rcases a with _ | ⟨p,e,o⟩ <;> (simp only [Kill.on] at h;simp [V.kill1,h])
  | fn f vs=>cases ha
  | agg vs=>cases ha
  | tup vs=>cases ha
  | _=>rfl
theorem kill1_on {k:Kill} {v:V} (h:k.on v=true):v.kill1 k = .bad:=by
  cases v with
  | ptr u s p e o=>simp only [Kill.on] at h;simp [V.kill1,h]
  | msl u s p e o=>simp only [Kill.on] at h;simp [V.kill1,h]
  | mp u s a=>rcases a with _ | ⟨p,e,o⟩ <;> (simp only [Kill.on] at h;simp [V.kill1,h])
  | _=>simp [Kill.on] at h
theorem foldl_off:∀ {ks:List Kill} {v:V},v.atom=true→struck1 ks v=false→ks.foldl (fun v k=>v.kill1 k) v=v
  | [],v,_,_=>rfl
  | k::ks,v,ha,h=>by
    simp only [struck1,List.any_cons,Bool.or_eq_false_iff] at h
    simp only [List.foldl_cons]
    rw [kill1_off ha h.1]
    exact foldl_off ha h.2
theorem foldl_bad:∀ (ks:List Kill),ks.foldl (fun v k=>v.kill1 k) V.bad = .bad
  | []=>rfl
  | k::ks=>foldl_bad ks
theorem foldl_cases:∀ (ks:List Kill) {v:V},v.atom=true→ks.foldl (fun v k=>v.kill1 k) v=v∨ks.foldl (fun v k=>v.kill1 k) v = .bad
  | [],v,_=>.inl rfl
  | k::ks,v,ha=>by
    simp only [List.foldl_cons]
    cases h:k.on v with
    | true=>rw [kill1_on h];exact .inr (foldl_bad ks)
    | false=>rw [kill1_off ha h];exact foldl_cases ks ha
theorem struck1_bad (ks:List Kill):struck1 ks .bad=false:=by simp [struck1,Kill.on]
theorem kills_off {ks:List Kill} {v:V} (hf:v.flat=true) (h:v.struck ks=false):v.kills ks=v:=by
  have hl:∀ {vs:List V},vs.all V.atom=true→vs.any (struck1 ks)=false→vs.map (fun v=>ks.foldl (fun v k=>v.kill1 k) v)=vs:=by
    intro vs ha h
    rw [List.any_eq_false] at h
    rw [show vs=vs.map id from (List.map_id vs).symm,List.map_map]
    refine List.map_congr_left fun v hv=>?_
    exact foldl_off (List.all_eq_true.1 ha v hv) (by simpa using h v hv)
  cases v with
  | fn f vs=>rw [kills_fn,hl hf h]
  | agg vs=>rw [kills_agg,hl hf h]
  | tup vs=>rw [kills_tup,hl hf h]
  | _=>exact (kills_eq1 ks _ rfl).trans (foldl_off rfl h)
theorem struck_roots {ks:List Kill} {v:V} (hf:v.flat=true) (h:v.struck ks=true):∃ k ∈ ks,k.rt ∈ v.roots:=by
  have hl:∀ {vs:List V},vs.all V.atom=true→vs.any (struck1 ks)=true→∃ k ∈ ks,k.rt ∈ vs.filterMap V.root:=by
    intro vs ha h
    obtain ⟨v,hv,h⟩:=List.any_eq_true.1 h
    obtain ⟨k,hk,h⟩:=List.any_eq_true.1 h
    refine ⟨k,hk,List.mem_filterMap.2 ⟨v,hv, ?_⟩⟩
    have:=on_rt h
    have hva:=List.all_eq_true.1 ha v hv
    cases v <;> simp [V.roots,V.root,V.atom] at this hva ⊢ <;> exact this.symm
  cases v with
  | fn f vs=>exact hl hf h
  | agg vs=>exact hl hf h
  | tup vs=>exact hl hf h
  | _=>obtain ⟨k,hk,h⟩:=List.any_eq_true.1 h;exact ⟨k,hk,on_rt h⟩
theorem not_struck {ks:List Kill} {v:V} (hf:v.flat=true) (h:∀ k ∈ ks,k.rt ∉ v.roots):v.struck ks=false:=by
  cases hh:v.struck ks with
  | false=>rfl
  | true=>obtain ⟨k,h1,h2⟩:=struck_roots hf hh;exact absurd h2 (h k h1)
theorem struck_kills {ks ks':List Kill} {v:V} (hf:v.flat=true) (h:(v.kills ks').struck ks=true):v.struck ks=true:=by
  have h1:∀ {v:V},v.atom=true→struck1 ks (ks'.foldl (fun v k=>v.kill1 k) v)=true→struck1 ks v=true:=by
    intro v ha h
    rcases foldl_cases ks' ha with hh | hh <;> rw [hh] at h
    · exact h
    · rw [struck1_bad] at h;cases h
  have hl:∀ {vs:List V},vs.all V.atom=true→(vs.map (fun v=>ks'.foldl (fun v k=>v.kill1 k) v)).any (struck1 ks)=true→vs.any (struck1 ks)=true:=by
    intro vs ha h
    obtain ⟨v,hv,h⟩:=List.any_eq_true.1 h
    obtain ⟨v0,hv0,rfl⟩:=List.mem_map.1 hv
    exact List.any_eq_true.2 ⟨v0,hv0,h1 (List.all_eq_true.1 ha v0 hv0) h⟩
  cases v with
  | fn f vs=>rw [kills_fn] at h;exact hl hf h
  | agg vs=>rw [kills_agg] at h;exact hl hf h
  | tup vs=>rw [kills_tup] at h;exact hl hf h
  | ptr u s p e o=>rw [kills_eq1 ks' _ rfl] at h;rcases foldl_cases ks' (v:=.ptr u s p e o) rfl with hh | hh <;> rw [hh] at h <;> first | exact h | (simp [V.struck,struck1_bad] at h)
  | msl u s p e o=>rw [kills_eq1 ks' _ rfl] at h;rcases foldl_cases ks' (v:=.msl u s p e o) rfl with hh | hh <;> rw [hh] at h <;> first | exact h | (simp [V.struck,struck1_bad] at h)
  | mp u s a=>rw [kills_eq1 ks' _ rfl] at h;rcases foldl_cases ks' (v:=.mp u s a) rfl with hh | hh <;> rw [hh] at h <;> first | exact h | (simp [V.struck,struck1_bad] at h)
  | d d=>rw [kills_eq1 ks' _ rfl] at h;rcases foldl_cases ks' (v:=.d d) rfl with hh | hh <;> rw [hh] at h <;> first | exact h | (simp [V.struck,struck1_bad] at h)
  | ip cs o=>rw [kills_eq1 ks' _ rfl] at h;rcases foldl_cases ks' (v:=.ip cs o) rfl with hh | hh <;> rw [hh] at h <;> first | exact h | (simp [V.struck,struck1_bad] at h)
  | z nn=>rw [kills_eq1 ks' _ rfl] at h;rcases foldl_cases ks' (v:=.z nn) rfl with hh | hh <;> rw [hh] at h <;> first | exact h | (simp [V.struck,struck1_bad] at h)
  | bad=>rw [kills_eq1 ks' _ rfl,foldl_bad] at h;exact h
  | und=>rw [kills_eq1 ks' _ rfl] at h;rcases foldl_cases ks' (v:=.und) rfl with hh | hh <;> rw [hh] at h <;> first | exact h | (simp [V.struck,struck1_bad] at h)
theorem struck_stays {ks ks':List Kill} {v:V} (hf:v.flat=true) (hd:∀ k ∈ ks,∀ k' ∈ ks',k.rt≠k'.rt) (h:v.struck ks=true):(v.kills ks').struck ks=true:=by
  have h1:∀ {v:V},v.atom=true→struck1 ks v=true→struck1 ks (ks'.foldl (fun v k=>v.kill1 k) v)=true:=by
    intro v ha h
    have hk:struck1 ks' v=false:=by
      cases hh:struck1 ks' v with
      | false=>rfl
      | true=>
        obtain ⟨k',hk',h2⟩:=List.any_eq_true.1 hh
        obtain ⟨k,hk,h3⟩:=List.any_eq_true.1 h
        have e1:=on_rt h2
        have e2:=on_rt h3
        exfalso
        refine hd k hk k' hk' ?_
        cases v <;> simp [V.roots,V.root,V.atom] at e1 e2 ha <;> rw [e1,e2]
    rw [foldl_off ha hk];exact h
  have hl:∀ {vs:List V},vs.all V.atom=true→vs.any (struck1 ks)=true→(vs.map (fun v=>ks'.foldl (fun v k=>v.kill1 k) v)).any (struck1 ks)=true:=by
    intro vs ha h
    obtain ⟨v,hv,h⟩:=List.any_eq_true.1 h
    exact List.any_eq_true.2 ⟨_,List.mem_map_of_mem hv,h1 (List.all_eq_true.1 ha v hv) h⟩
  have hat:∀ {v:V},v.atom=true→v.struck ks=struck1 ks v:=by intro v ha;cases v <;> first | rfl | cases ha
  cases v with
  | fn f vs=>rw [kills_fn];exact hl hf h
  | agg vs=>rw [kills_agg];exact hl hf h
  | tup vs=>rw [kills_tup];exact hl hf h
  | _=>rw [kills_eq1 ks' _ rfl,hat (by rw [←kills_eq1 ks' _ rfl];exact kills_atom ks' _ rfl)];exact h1 rfl h
theorem opd_same {f f':Fr} {x:Opd} (A:∀ t ∈ x.slots,f' t=f t):x.ev f'=x.ev f:=by
  cases x with
  | t s=>exact A s (by simp [Opd.slots])
  | k d=>rfl
  | fn g=>rfl
theorem eff_same {call:FuncId→List V→Option V} {dst:Nat} {f f':Fr} {h h':Hp} (op:IOp) (A:∀ t ∈ op.slots,f' t=f t) (h2:op.cls=2→∀ t ∈ op.slots,∀ y ∈ (f t).roots,h' y.1 y.2=h y.1 y.2)
    (h1:∀ q ∈ crOf f op,OSim (cellIn h q) (cellIn h' q)):eff call f' h' dst op=eff call f h dst op:=by
  have L:∀ {x:Opd} {l:List Nat},op.slots=x.slots++l→x.ev f'=x.ev f:=fun e=>opd_same fun t ht=>A t (by rw [e];exact List.mem_append_left _ ht)
  have Rr:∀ {x:Opd} {l:List Nat},op.slots=l++x.slots→x.ev f'=x.ev f:=fun e=>opd_same fun t ht=>A t (by rw [e];exact List.mem_append_right _ ht)
  have E:∀ {x:Opd},op.slots=x.slots→x.ev f'=x.ev f:=fun e=>opd_same fun t ht=>A t (by rw [e];exact ht)
  by_cases hc:op.cls=2
  · exact eff_cong op fun t ht=>⟨A t ht,h2 hc t ht⟩
  · cases op with
    | mv x=>simp only [eff,E (x:=x) rfl]
    | pick c a b=>
      have e1:c.ev f'=c.ev f:=opd_same fun t ht=>A t (by simp [IOp.slots,ht])
      have e2:a.ev f'=a.ev f:=opd_same fun t ht=>A t (by simp [IOp.slots,ht])
      have e3:b.ev f'=b.ev f:=opd_same fun t ht=>A t (by simp [IOp.slots,ht])
      simp only [eff,e1,e2,e3]
    | nck x=>simp only [eff,E (x:=x) rfl]
    | fa off x=>simp only [eff,E (x:=x) rfl]
    | ext x i=>simp only [eff,E (x:=x) rfl]
    | ld1 x=>
      simp only [crOf] at h1
      simp only [eff,E (x:=x) rfl]
      generalize x.ev f=v at h1
      cases v with
      | ptr u s p e o=>
        have hs:=h1 (u,s,p,e,o) (by simp [V.crs])
        simp only [cellIn] at hs
        simp only
        cases hr:(h u s).bind (·.row? p) with
        | none=>
          cases hr':(h' u s).bind (·.row? p) with
          | none=>rfl
          | some r'=>
            rw [hr,hr'] at hs
            simp only [Option.bind_none,Option.bind_some] at hs ⊢
            generalize cellAt r'.es e o=z at hs
            cases hs
            rfl
        | some r=>
          cases hr':(h' u s).bind (·.row? p) with
          | none=>
            rw [hr,hr'] at hs
            simp only [Option.bind_none,Option.bind_some] at hs ⊢
            generalize cellAt r.es e o=z at hs
            cases hs
            rfl
          | some r'=>
            rw [hr,hr'] at hs
            simp only [Option.bind_some] at hs ⊢
            generalize cellAt r.es e o=z at hs
            generalize cellAt r'.es e o=z' at hs
            cases hs with
            | none=>rfl
            | some hh=>
              rcases hh with rfl | ⟨sz,nn,es,es',rfl,rfl,hl⟩ | ⟨es,es',rfl,rfl⟩
              · rfl
              · simp only [hl]
              · rfl
      | _=>rfl
    | _=>exact absurd rfl hc
theorem effI_same {f f':Fr} {h h':Hp} {I:II} (A:∀ t ∈ I.slots,f' t=f t) (h2:I.op.cls=2→∀ t ∈ I.slots,∀ y ∈ (f t).roots,h' y.1 y.2=h y.1 y.2)
    (h1:∀ q ∈ crOf f I.op,OSim (cellIn h q) (cellIn h' q)):effI callr f' h' I=effI callr f h I:=by
  unfold effI
  have hg:wantedI f' I.g=wantedI f I.g:=by
    unfold wantedI
    cases hgg:I.g with
    | none=>rfl
    | some x=>
      obtain ⟨s,want⟩:=x
      have:f' s=f s:=A s (by simp [II.slots,hgg])
      simp only [this]
  have hop:∀ c d,eff c f' h' d I.op=eff c f h d I.op:=fun c d=>eff_same I.op (fun t ht=>A t (List.mem_append_right _ ht)) (fun hc t ht=>h2 hc t (List.mem_append_right _ ht)) h1
  rw [hg]
  simp only [hop]
theorem flatMap_congr' {α β:Type} {l:List α} {g g':α→List β} (h:∀ x ∈ l,g x=g' x):l.flatMap g=l.flatMap g':=by
  induction l with
  | nil=>rfl
  | cons x l ih=>simp only [List.flatMap_cons];rw [h x (by simp),ih fun y hy=>h y (by simp [hy])]
theorem crOf_same {f f':Fr} {op:IOp} (A:∀ t ∈ op.slots,f' t=f t):crOf f' op=crOf f op:=by
  cases op <;> first | rfl | skip
  case ld1 x=>simp only [crOf];rw [opd_same A]
theorem effI_cells {f:Fr} {h:Hp} {I:II} {e:Eff} (he:effI callr f h I=some e) {cr:List CAt} (hc:crHit I.op.cov e.kill e.writes cr=false):∀ q ∈ cr,OSim (cellIn h q) (cellIn (updH h e.upd) q):=by
  intro q hq
  unfold crHit at hc
  rw [List.any_eq_false] at hc
  have hq':=hc q hq
  unfold effI at he
  simp only [Option.bind_eq_some_iff] at he
  obtain ⟨b,_,he⟩:=he
  split at he
  · cases hcov:I.op.cov with
    | true=>
      rw [hcov] at hq'
      simp only [if_true,Bool.not_eq_true,List.any_eq_false] at hq'
      exact cov_eff hcov he fun k hk=>by simpa using hq' k hk
    | false=>
      rw [hcov] at hq'
      simp only [Bool.false_eq_true,if_false,Bool.not_eq_true] at hq'
      refine .of_eq (cellIn_out fun x hx hh=>?_).symm
      have:=upd_mem_writes hx
      rw [hh] at this
      simp [this] at hq'
  · simp only [Option.some.injEq] at he
    subst he
    exact .refl _
structure Sep (I J:II):Prop where
  l:∀ d,J.dst=some d→d ∉ I.slots
  r:∀ d,I.dst=some d→d ∉ J.slots
  ne:∀ d,I.dst=some d→J.dst≠some d
theorem RemH.swap (hU:∀ i j,U i j→U j i) (hGf:∀ e,G e→e.v.flat=true) {f:Fr} {h:Hp} {i j:Nat} {I J:II} {L:List (Nat × II)} {es:List (Nat × Foot)} (hfl:∀ t,(f t).flat=true)
    (hu:U j i) (hs:Sep I J) (hb:∀ d,J.dst=some d→f d = .bad) (R:RemH callr G U ff hf f h ((j,J)::(i,I)::L) es):RemH callr G U ff hf f h ((i,I)::(j,J)::L) es:=by
  cases R with
  | @cons _ _ _ _ _ _ ej hej hGj hcj R=>
  cases R with
  | @cons _ _ _ _ _ _ ei hei hGi hci R=>
  have hcl:=hci j (foot f J ej) (by simp) hu
  unfold clash at hcl
  simp only [Bool.or_eq_false_iff] at hcl
  obtain ⟨c1,c2,c3,c4,c5,c6,c7⟩:=hcl
  rw [List.any_eq_false] at c7
  simp only [foot] at c1 c2 c3 c4 c5 c6 c7
  have d1:∀ y,y ∈ ei.writes→y ∉ ej.writes:=fun y h1 h2=>meets_false c1 h1 (List.mem_append_left _ h2)
  have d1k:∀ k ∈ ei.kill,∀ k' ∈ ej.kill,k.rt≠k'.rt:=fun k hk k' hk' hh=>d1 _ (kill_mem_writes hk) (hh ▸ kill_mem_writes hk')
  have dJ:J.op.cls=2→∀ y,(y ∈ J.slots.flatMap (fun t=>(f t).roots)∨y ∈ ej.v.roots)→y ∉ ei.writes:=fun hc y hy h1=>meets_false c1 h1 (List.mem_append_right _ (by
    rw [hc];simpa using hy))
  have dJ':J.op.cls≠2→(∀ t ∈ J.slots,(f t).struck ei.kill=false)∧ej.v.struck ei.kill=false:=fun hc=>by
    rw [if_neg (by simpa using hc),List.any_eq_false] at c3
    exact ⟨fun t ht=>by simpa using c3 (f t) (by simp only [List.mem_append,List.mem_map];exact .inl ⟨t,ht,rfl⟩),by simpa using c3 ej.v (by simp)⟩
  have hfI:∀ t ∈ I.slots,appF f J.dst ej t=f t:=by
    intro t ht
    have h7:=c7 t ht
    unfold appF
    rw [if_neg (fun hh=>hs.l t hh ht)]
    exact kills_off (hfl t) (by simpa using h7)
  have dI:I.op.cls=2→∀ y,(y ∈ I.slots.flatMap (fun t=>(f t).roots)∨y ∈ ei.v.roots)→y ∉ ej.writes:=fun hc y hy h1=>meets_false c2 h1 (by
    rw [hc]
    rw [flatMap_congr' (g:=fun t=>(appF f J.dst ej t).roots) (g':=fun t=>(f t).roots) fun t ht=>by rw [hfI t ht]]
    simpa using hy)
  have dI':I.op.cls≠2→(∀ t ∈ I.slots,(f t).struck ej.kill=false)∧ei.v.struck ej.kill=false:=fun hc=>by
    rw [if_neg (by simpa using hc),List.any_eq_false] at c4
    exact ⟨fun t ht=>by have:=c4 (appF f J.dst ej t) (by simp only [List.mem_append,List.mem_map];exact .inl ⟨t,ht,rfl⟩);rw [hfI t ht] at this;simpa using this,by simpa using c4 ei.v (by simp)⟩
  have hcrI:crOf (appF f J.dst ej) I.op=crOf f I.op:=crOf_same fun t ht=>hfI t (List.mem_append_right _ ht)
  rw [hcrI] at c6
  have hei':effI callr f h I=some ei:=by
    rw [←hei]
    refine effI_same (fun t ht=>(hfI t ht).symm) (fun hc t ht y hy=>?_) (fun q hq=>?_)
    · rw [hfI t ht] at hy
      exact (updH_out (u:=y.1) (s:=y.2) ej.upd h fun x hx hh=>dI hc y (.inl (List.mem_flatMap.2 ⟨t,ht,hy⟩)) (by have:=upd_mem_writes hx;rw [hh] at this;exact this)).symm
    · rw [hcrI] at hq
      exact (effI_cells hej c6 q hq).symm
  have hfJ:∀ t ∈ J.slots,appF f I.dst ei t=f t:=by
    intro t ht
    unfold appF
    rw [if_neg (fun hh=>hs.r t hh ht)]
    by_cases hc:J.op.cls=2
    · exact kills_noroot (hfl t) fun k hk hm=>dJ hc _ (.inl (List.mem_flatMap.2 ⟨t,ht,hm⟩)) (kill_mem_writes hk)
    · exact kills_off (hfl t) ((dJ' hc).1 t ht)
  have hcrJ:crOf (appF f I.dst ei) J.op=crOf f J.op:=crOf_same fun t ht=>hfJ t (List.mem_append_right _ ht)
  have hej':effI callr (appF f I.dst ei) (updH h ei.upd) J=some ej:=by
    rw [←hej]
    refine effI_same hfJ (fun hc t ht y hy=>?_) (fun q hq=>effI_cells hei' c5 q hq)
    exact updH_out (u:=y.1) (s:=y.2) ei.upd h fun x hx hh=>dJ hc y (.inl (List.mem_flatMap.2 ⟨t,ht,hy⟩)) (by have:=upd_mem_writes hx;rw [hh] at this;exact this)
  have hvj:ej.v.kills ei.kill=ej.v:=by
    by_cases hc:J.op.cls=2
    · exact kills_noroot (hGf _ hGj) fun k hk hm=>dJ hc _ (.inr hm) (kill_mem_writes hk)
    · exact kills_off (hGf _ hGj) (dJ' hc).2
  have hvi:ei.v.kills ej.kill=ei.v:=by
    by_cases hc:I.op.cls=2
    · exact kills_noroot (hGf _ hGi) fun k hk hm=>dI hc _ (.inr hm) (kill_mem_writes hk)
    · exact kills_off (hGf _ hGi) (dI' hc).2
  have hvjs:ej.v.struck ei.kill=false:=by
    by_cases hc:J.op.cls=2
    · exact not_struck (hGf _ hGj) fun k hk hm=>dJ hc _ (.inr hm) (kill_mem_writes hk)
    · exact (dJ' hc).2
  have hvis:ei.v.struck ej.kill=false:=by
    by_cases hc:I.op.cls=2
    · exact not_struck (hGf _ hGi) fun k hk hm=>dI hc _ (.inr hm) (kill_mem_writes hk)
    · exact (dI' hc).2
  have eI:FLe (foot (appF f J.dst ej) I ei) { foot f I ei with hit:=(foot (appF f J.dst ej) I ei).hit }:=by
    refine ⟨rfl,rfl, ?_,hcrI,rfl, ?_,fun _ h=>h⟩
    · simp only [foot]
      split
      · congr 1
        exact flatMap_congr' fun t ht=>by rw [hfI t ht]
      · rfl
    · simp only [foot]
      split
      · rfl
      · congr 1
        exact List.map_congr_left fun t ht=>hfI t ht
  have eJ:FLe { foot f J ej with hit:=(foot (appF f I.dst ei) J ej).hit } (foot (appF f I.dst ei) J ej):=by
    refine ⟨rfl,rfl, ?_,hcrJ.symm,rfl, ?_,fun _ h=>h⟩
    · simp only [foot]
      split
      · congr 1
        exact flatMap_congr' fun t ht=>by rw [hfJ t ht]
      · rfl
    · simp only [foot]
      split
      · rfl
      · congr 1
        exact List.map_congr_left fun t ht=>(hfJ t ht).symm
  have hfin:appF (appF f I.dst ei) J.dst ej=appF (appF f J.dst ej) I.dst ei:=by
    funext t
    unfold appF
    by_cases h1:J.dst=some t
    · have h2:¬I.dst=some t:=fun hh=>hs.ne t hh h1
      rw [if_pos h1,if_neg h2,if_pos h1]
      exact hvj.symm
    · rw [if_neg h1]
      by_cases h2:I.dst=some t
      · rw [if_pos h2,if_pos h2]
        exact hvi
      · rw [if_neg h2,if_neg h2,if_neg h1]
        exact kills_comm _ _ _
  have hheap:updH (updH h ei.upd) ej.upd=updH (updH h ej.upd) ei.upd:=
    updH_comm _ _ _ fun x hx y hy hh=>d1 _ (upd_mem_writes hx) (hh ▸ upd_mem_writes hy)
  have hclash:∀ (a a':Foot) (ss:List Nat) (b:Foot),a.wr=a'.wr→a.ks=a'.ks→a.rh=a'.rh→a.cr=a'.cr→a.cov=a'.cov→a.vs=a'.vs→clash ss a b=clash ss a' b:=by
    intro a a' ss b e1 e2 e3 e4 e5 e6
    unfold clash
    rw [e1,e2,e3,e4,e5,e6]
  refine .cons hei' hGi (fun k ft hk hku=>?_) (.cons hej' hGj (fun k ft hk hku=>?_) ?_)
  · have:=hci k ft (List.mem_cons_of_mem _ hk) hku
    rw [hclash _ _ _ _ eI.wr eI.ks eI.rh eI.cr eI.cov eI.vs] at this
    exact this
  · rcases List.mem_cons.1 hk with hk | hk
    · injection hk with hk1 hk2
      subst hk1;subst hk2
      rw [←hclash _ _ _ _ eJ.wr eJ.ks eJ.rh eJ.cr eJ.cov eJ.vs]
      unfold clash
      simp only [Bool.or_eq_false_iff]
      simp only [foot]
      refine ⟨meets_of fun y hy hm=>?_,meets_of fun y hy hm=>?_, ?_, ?_,c6,c5, ?_⟩
      · rcases List.mem_append.1 hm with hm | hm
        · exact d1 y hm hy
        · by_cases hc:I.op.cls=2
          · rw [hc] at hm
            exact dI hc y (by simpa using hm) hy
          · rw [if_neg (by simpa using hc)] at hm;cases hm
      · by_cases hc:J.op.cls=2
        · rw [hc] at hm
          exact dJ hc y (by simpa using hm) hy
        · rw [if_neg (by simpa using hc)] at hm;cases hm
      · by_cases hc:I.op.cls=2
        · rw [if_pos (by simp [hc])];rfl
        · rw [if_neg (by simpa using hc),List.any_eq_false]
          intro v hv
          simp only [List.mem_append,List.mem_map,List.mem_singleton] at hv
          rcases hv with ⟨t,ht,rfl⟩ | rfl
          · simp [(dI' hc).1 t ht]
          · simp [hvis]
      · exact c3
      · rw [List.any_eq_false]
        intro t ht hh
        by_cases hc:J.op.cls=2
        · obtain ⟨k,hk,hm⟩:=struck_roots (hfl t) hh
          exact dJ hc _ (.inl (List.mem_flatMap.2 ⟨t,ht,hm⟩)) (kill_mem_writes hk)
        · rw [(dJ' hc).1 t ht] at hh;cases hh
    · have:=hcj k ft hk hku
      rw [←hclash _ _ _ _ eJ.wr eJ.ks eJ.rh eJ.cr eJ.cov eJ.vs]
      exact this
  · rw [hfin,hheap]
    refine R.mono fun k ft' hk=>?_
    rcases List.mem_cons.1 hk with hk | hk
    · injection hk with hk1 hk2
      subst hk1;subst hk2
      refine ⟨foot f J ej,by simp,eJ.wr,eJ.ks,eJ.rh,eJ.cr,eJ.cov,eJ.vs,fun t hh=>?_⟩
      simp only [foot] at hh ⊢
      unfold appF at hh
      split at hh
      · rw [hvis] at hh;cases hh
      · exact struck_kills (hfl t) hh
    · rcases List.mem_cons.1 hk with hk | hk
      · injection hk with hk1 hk2
        subst hk1;subst hk2
        refine ⟨foot (appF f J.dst ej) I ei,by simp,eI.wr,eI.ks,eI.rh,eI.cr,eI.cov,eI.vs,fun t hh=>?_⟩
        simp only [foot] at hh ⊢
        unfold appF
        split
        · rename_i hd
          rw [hb t hd] at hh
          simp [V.struck,struck1_bad] at hh
        · exact struck_stays (hfl t) d1k hh
      · exact ⟨ft',by simp [hk], .refl _⟩
theorem appF_flat {f:Fr} {dst:Option Nat} {e:Eff} (hfl:∀ t,(f t).flat=true) (he:e.v.flat=true) (t:Nat):(appF f dst e t).flat=true:=by
  unfold appF
  split
  · exact he
  · exact kills_flat _ (hfl t)
theorem kills_bad:∀ (ks:List Kill),V.bad.kills ks = .bad
  | []=>rfl
  | k::ks=>by show (V.bad.kill k).kills ks = .bad;exact kills_bad ks
theorem RemH.bubble (hU:∀ i j,U i j→U j i) (hGf:∀ e,G e→e.v.flat=true) {i:Nat} {I:II} {L2:List (Nat × II)}:∀ (L1:List (Nat × II)) {f:Fr} {h:Hp} {es:List (Nat × Foot)},(∀ t,(f t).flat=true) →
    (∀ j J,(j,J) ∈ L1→U j i∧Sep I J)→(∀ j J d,(j,J) ∈ L1→J.dst=some d→f d = .bad)→(dsts (L1.map (·.2))).Nodup→RemH callr G U ff hf f h (L1++(i,I)::L2) es→RemH callr G U ff hf f h ((i,I)::(L1++L2)) es
  | [],f,h,es,_,_,_,_,R=>R
  | (j,J)::L1,f,h,es,hfl,hu,hb,hnd,R=>by
    cases R with
    | @cons _ _ _ _ _ _ ej hej hGj hcj R=>
    have hnd':(dsts (L1.map (·.2))).Nodup:=by
      simp only [dsts,List.map_cons,List.filterMap_cons] at hnd ⊢
      split at hnd
      · exact hnd
      · exact (List.nodup_cons.1 hnd).2
    have R':=RemH.bubble hU hGf L1 (appF_flat hfl (hGf _ hGj)) (fun k K hk=>hu k K (by simp [hk])) (fun k K d hk hd=>by
      unfold appF
      rw [if_neg]
      · rw [hb k K d (by simp [hk]) hd];exact kills_bad _
      · intro hh
        simp only [dsts,List.map_cons,List.filterMap_cons,hh] at hnd
        exact (List.nodup_cons.1 hnd).1 (List.mem_filterMap.2 ⟨K,List.mem_map.2 ⟨(k,K),hk,rfl⟩,hd⟩)) hnd' R
    have h1:=hu j J (by simp)
    exact RemH.swap hU hGf hfl h1.1 h1.2 (fun d hd=>hb j J d (by simp) hd) (.cons hej hGj hcj R')
end
end Go.Proofs.YtgmphfmoonbfpaaMv

namespace Go.Proofs.YtgmphfmoonbfpaaMv
open Go
theorem look_put {α:Type} (l:List (Nat × α)) (d:Nat) (v:α) (t:Nat):look (put l d v) t=if d=t then some v else look l t:=by
  induction l with
  | nil=>simp only [put,look,beq_iff_eq]
  | cons x l ih=>
    obtain ⟨k,y⟩:=x
    simp only [put]
    split
    · rename_i h
      have h':k=d:=by simpa using h
      subst h'
      simp only [look,beq_iff_eq]
      split <;> rfl
    · rename_i h
      have h':¬k=d:=by simpa using h
      simp only [look,beq_iff_eq,ih]
      by_cases h1:k=t
      · subst h1;rw [if_pos rfl,if_neg (fun hh=>h' hh.symm)];simp
      · rw [if_neg h1];simp [h1]
theorem look_map {α β:Type} (g:α→β) (l:List (Nat × α)) (t:Nat):look (l.map fun x=>(x.1,g x.2)) t=(look l t).map g:=by
  induction l with
  | nil=>rfl
  | cons x l ih=>
    obtain ⟨k,y⟩:=x
    simp only [List.map_cons,look]
    split
    · rfl
    · exact ih
theorem look_del {α:Type} (l:List (Nat × α)) (d t:Nat):look (del l d) t=if d=t then none else look l t:=by
  induction l with
  | nil=>simp [del,look]
  | cons x l ih=>
    obtain ⟨k,y⟩:=x
    simp only [del]
    split
    · rename_i h
      have h':k=d:=by simpa using h
      subst h'
      rw [ih]
      by_cases h1:k=t
      · simp [h1]
      · simp [h1,look]
    · rename_i h
      have h':¬k=d:=by simpa using h
      simp only [look,beq_iff_eq,ih]
      by_cases h1:k=t
      · subst h1;rw [if_pos rfl,if_neg (fun hh=>h' hh.symm)];simp
      · rw [if_neg h1];simp [h1]
theorem hasLv_lt:∀ {hp:HL} {u:Nat},hasLv hp u=true ↔ u<hp.length
  | [],u=>by simp [hasLv]
  | _::r,0=>by simp [hasLv]
  | _::r,u+1=>by simp [hasLv,hasLv_lt (hp:=r)]
theorem hput_length:∀ (hp:HL) (u s:Nat) (o:Option Ob),(hput hp u s o).length=hp.length
  | [],u,s,o=>by simp [hput]
  | l::r,0,s,o=>by cases o <;> simp [hput]
  | l::r,u+1,s,o=>by simp [hput,hput_length r u s o]
theorem hof_hput:∀ {hp:HL} {u:Nat} (s:Nat) (o:Option Ob),u<hp.length→hof (hput hp u s o)=hset (hof hp) u s o
  | [],u,s,o,h=>by simp at h
  | l::r,0,s,o,h=>by
    funext a b
    cases a with
    | zero=>
      cases o with
      | none=>simp [hof,hput,hset,look_del,eq_comm]
      | some x=>simp [hof,hput,hset,look_put,eq_comm]
    | succ a=>cases o <;> simp [hof,hput,hset]
  | l::r,u+1,s,o,h=>by
    have ih:=hof_hput (hp:=r) (u:=u) s o (by simpa using h)
    funext a b
    cases a with
    | zero=>simp [hof,hput,hset]
    | succ a=>
      have:=congrFun (congrFun ih a) b
      simpa [hof,hput,hset] using this
theorem hof_hputs:∀ {l:List (Nat × Nat × Option Ob)} {hp:HL},l.all (fun x=>hasLv hp x.1)=true→hof (hputs l hp)=updH (hof hp) l∧(hputs l hp).length=hp.length
  | [],hp,_=>⟨rfl,rfl⟩
  | (u,s,o)::l,hp,h=>by
    simp only [List.all_cons,Bool.and_eq_true] at h
    have hl:u<hp.length:=hasLv_lt.1 h.1
    have h2:l.all (fun x=>hasLv (hput hp u s o) x.1)=true:=by
      rw [List.all_eq_true] at h ⊢
      intro x hx
      have:=h.2 x hx
      rw [hasLv_lt] at this ⊢
      rw [hput_length];exact this
    obtain ⟨i1,i2⟩:=hof_hputs h2
    refine ⟨?_,by simp only [hputs];rw [i2,hput_length]⟩
    simp only [hputs,updH]
    rw [i1,hof_hput s o hl]
theorem f_apply (st:St) (dst:Option Nat) (e:Eff):(st.apply dst e).f=appF st.f dst e:=by
  have h1:∀ t,(look (if e.kill.isEmpty then st.fr else st.fr.map fun (k,v)=>(k,v.kills e.kill)) t).getD .bad=(st.f t).kills e.kill:=by
    intro t
    split
    · rename_i h
      have h':e.kill=[]:=by simpa using h
      rw [h'];rfl
    · rw [show (st.fr.map fun (x:Nat × V)=>(x.1,x.2.kills e.kill))=st.fr.map fun x=>(x.1,(fun v:V=>v.kills e.kill) x.2) from rfl,look_map]
      simp only [St.f]
      cases look st.fr t with
      | none=>simp [kills_bad]
      | some v=>rfl
  funext t
  cases dst with
  | none=>
    have h2:appF st.f none e t=(st.f t).kills e.kill:=by simp [appF]
    rw [h2];exact h1 t
  | some d=>
    have h2:(st.apply (some d) e).f t=(look (put (if e.kill.isEmpty then st.fr else st.fr.map fun (k,v)=>(k,v.kills e.kill)) d e.v) t).getD .bad:=rfl
    rw [h2,look_put]
    unfold appF
    by_cases hd:d=t
    · simp [hd]
    · rw [if_neg hd,if_neg (show ¬some d=some t by simpa using hd)];exact h1 t
theorem applyO_spec {st st':St} {dst:Option Nat} {e:Eff} (h:st.applyO dst e=some st'):e.fits st.hp=true∧st'.f=appF st.f dst e∧hof st'.hp=updH (hof st.hp) e.upd∧st'.hp.length=st.hp.length:=by
  unfold St.applyO at h
  split at h
  · rename_i hf
    injection h with h
    subst h
    have hf':=hf
    unfold Eff.fits at hf
    simp only [Bool.and_eq_true] at hf
    obtain ⟨h1,h2⟩:=hof_hputs hf.2.1
    exact ⟨hf',f_apply _ _ _,h1,h2⟩
  · cases h
def V.hi (v:V):Prop:=∀ y ∈ v.roots,y.1≠0
theorem RV.flat {X:Nat→Prop} {h:Hp} {B:Gh} {w:World} {v:V} {x:Value} (H:RV X h B w v x):v.flat=true:=by
  have key:∀ {vs:List V} {arr:Array Value},RVs X h B w vs arr→vs.all V.atom=true:=by
    intro vs arr ⟨h1,h2⟩
    rw [List.all_eq_true]
    intro v hv
    obtain ⟨i,hi⟩:=List.mem_iff_getElem?.1 hv
    have hlt:=(List.getElem?_eq_some_iff.1 hi).1
    exact (h2 i v _ hi (Array.getElem?_eq_getElem (by omega))).atom
  cases v with
  | fn f vs=>obtain ⟨arr,_,h⟩:=H;exact key h
  | agg vs=>obtain ⟨arr,_,h,_⟩:=H;exact key h
  | tup vs=>obtain ⟨arr,_,h⟩:=H;exact key h
  | _=>rfl
theorem rv_map {X X':Nat→Prop} {h h':Hp} {B B':Gh} {w w':World} {g:V→V} {v:V} {x:Value} (hat:∀ v,v.atom=true→(g v).atom=true) (hg:∀ v x,RV1 X h B w v x→RV1 X' h' B' w' (g v) x) (H:RV X h B w v x) :
    RV X' h' B' w' (match v with | .fn f vs=>.fn f (vs.map g) | .agg vs=>.agg (vs.map g) | .tup vs=>.tup (vs.map g) | v=>g v) x:=by
  cases v with
  | fn f vs=>obtain ⟨arr,h1,h2⟩:=H;exact ⟨arr,h1,rvs_map hg h2⟩
  | agg vs=>obtain ⟨arr,h1,h2,h3⟩:=H;exact ⟨arr,h1,rvs_map hg h2,h3⟩
  | tup vs=>obtain ⟨arr,h1,h2⟩:=H;exact ⟨arr,h1,rvs_map hg h2⟩
  | _=>exact .of1 (hg _ _ H)
def V.sh1 (v:V):V:=if v.deep1 then .bad else v
theorem shallow_eq (v:V):v.shallow=match v with | .fn f vs=>.fn f (vs.map V.sh1) | .agg vs=>.agg (vs.map V.sh1) | .tup vs=>.tup (vs.map V.sh1) | v=>v.sh1:=by
  cases v <;> rfl
theorem sh1_atom (v:V) (h:v.atom=true):v.sh1.atom=true:=by
  unfold V.sh1;split <;> first | rfl | exact h
structure Link (X:Nat→Prop) (h:Hp) (B:Gh) (w:World) (h':Hp) (B':Gh) (w':World):Prop where
  rv:∀ v x,RV1 X h B w v x→v.hi→RV1 X h' B' w' v.sh1 x
  stp:Stp (Own h B) w (Own h' B') w'
theorem sh1_sh1 (v:V):v.sh1.sh1=v.sh1:=by
  unfold V.sh1
  split
  · rfl
  · rfl
theorem sh1_hi {v:V} (h:v.hi):v.sh1.hi:=by
  unfold V.sh1
  split
  · intro y hy;simp [V.roots,V.root] at hy
  · exact h
theorem rv1_sh1 {X:Nat→Prop} {h:Hp} {B:Gh} {w:World} {v:V} {x:Value} (H:RV1 X h B w v x):RV1 X h B w v.sh1 x:=by
  unfold V.sh1
  split
  · trivial
  · exact H
theorem Link.refl (X:Nat→Prop) (h:Hp) (B:Gh) (w:World):Link X h B w h B w:=⟨fun v x hv _=>rv1_sh1 hv, .refl _ _⟩
theorem Link.trans {X:Nat→Prop} {h h' h'':Hp} {B B' B'':Gh} {w w' w'':World} (a:Link X h B w h' B' w') (b:Link X h' B' w' h'' B'' w''):Link X h B w h'' B'' w'':=
  ⟨fun v x hv hh=>by rw [←sh1_sh1];exact b.rv _ _ (a.rv v x hv hh) (sh1_hi hh),a.stp.trans b.stp⟩
def Kill.low:Kill→Prop
  | .root u _=>u=0
  | .under ..=>True
theorem passes_nil {e lo hi:Nat}:∀ p:Path,passes e lo hi p []=false
  | []=>rfl
  | _::_=>rfl
theorem sh1_kill {k:Kill} (hk:k.low) {v:V} (ha:v.atom=true) (hh:v.hi):v.sh1.kill k=v.sh1:=by
  have hz:∀ u s,(u,s) ∈ v.roots→u≠0:=fun u s h=>hh (u,s) h
  have key:∀ u s,u≠0→k.hits u s []=false:=by
    intro u s hu
    cases k with
    | root u' s'=>
      simp only [Kill.low] at hk
      subst hk
      simp only [Kill.hits,Bool.and_eq_false_iff]
      left;simpa using fun h=>hu h.symm
    | under u' s' p e lo hi=>simp [Kill.hits,passes_nil]
  rw [kill1_atom k _ (sh1_atom v ha)]
  unfold V.sh1
  split
  · rfl
  · rename_i hd
    cases v with
    | ptr u s p e o=>
      have hp:p=[]:=by simpa [V.deep1] using hd
      subst hp
      simp [V.kill1,key u s (hz u s (by simp [V.roots,V.root]))]
    | msl u s p off n=>
      have hp:p=[]:=by simpa [V.deep1] using hd
      subst hp
      simp [V.kill1,key u s (hz u s (by simp [V.roots,V.root]))]
    | mp u s a=>
      have hp:a=none:=by
        cases a with
        | none=>rfl
        | some y=>simp [V.deep1] at hd
      subst hp
      simp [V.kill1,key u s (hz u s (by simp [V.roots,V.root]))]
    | fn f vs=>cases ha
    | agg vs=>cases ha
    | tup vs=>cases ha
    | _=>rfl
theorem sh1_kills:∀ {ks:List Kill},(∀ k ∈ ks,k.low)→∀ {v:V},v.atom=true→v.hi→v.sh1.kills ks=v.sh1
  | [],_,v,_,_=>rfl
  | k::ks,h,v,ha,hh=>by
    show (v.sh1.kill k).kills ks=v.sh1
    rw [sh1_kill (h k (by simp)) ha hh]
    exact sh1_kills (fun k' hk=>h k' (by simp [hk])) ha hh
theorem Tr.link {X:Nat→Prop} {h h':Hp} {B B':Gh} {w w':World} {ks:List Kill} (T:Tr X h B w ks h' B' w') (hl:∀ k ∈ ks,k.low):Link X h B w h' B' w':=
  ⟨fun v x hv hh=>by
    have:=T.rv _ _ (rv1_sh1 hv)
    rwa [sh1_kills hl hv.atom hh] at this,T.stp⟩
end Go.Proofs.YtgmphfmoonbfpaaMv

namespace Go.Proofs.YtgmphfmoonbfpaaMv
open Go
def RVL (X:Nat→Prop) (h:Hp) (B:Gh) (w:World) (vs:List V) (args:Array Value):Prop:=
  args.size=vs.length ∧ ∀ (i:Nat) v x,vs[i]? = some v→args[i]? = some x→RV X h B w v x
def FnOk (P:Program) (g:FuncId) (args:Array Value) (w:World) (R:Value→World→Prop):Prop:=
  ∀ (o:Oper) (a:Act) (next:Act→World→Prop) (Q:Exit→Act→World→Prop),(∀ cv w',R cv w'→next (a.put o.dst cv) w')→o.upon P a next Q ((callFunc g args).run P w)
structure After (X:Nat→Prop) (hp:HL) (B:Gh) (w:World) (hp':HL) (B':Gh) (w':World):Prop where
  hr:HRel X (hof hp') B' w'
  rv:∀ v x,RV1 X (hof hp) B w v x→RV1 X (hof hp') B' w' v.sh1 x
  stp:Stp (Own (hof hp) B) w (Own (hof hp') B') w'
  len:hp'.length=hp.length
def Sound (P:Program) (callr:CallR):Prop:=∀ g vs hp v hp',callr g vs hp=some (v,hp')→∀ X B w args,HRel X (hof hp) B w→RVL X (hof hp) B w vs args →
  FnOk P g args w fun cv w'=>∃ B',After X hp B w hp' B' w'∧RV X (hof hp') B' w' v cv
section
variable {P:Program} {X:Nat→Prop} {h:Hp} {B:Gh} {w:World} {f:Fr} {a:Act} {callr:CallR} {dst:Nat} {o:Oper} {e:Eff}
theorem FnOk.mono {g:FuncId} {args:Array Value} {R R':Value→World→Prop} (H:FnOk P g args w R) (h:∀ cv w',R cv w'→R' cv w'):FnOk P g args w R':=
  fun o a next Q hn=>H o a next Q fun cv w' hr=>hn cv w' (h cv w' hr)
theorem free1_rv {X':Nat→Prop} {h':Hp} {B':Gh} (hN:Forb X h B=Forb X' h' B') {v:V} {x:Value} (hf:v.free1=true) (H:RV1 X h B w v x):RV1 X' h' B' w v x:=by
  cases v with
  | d d=>simp only [RV1] at H ⊢;rw [←hN];exact H
  | ip cs o=>simp only [RV1] at H ⊢;rw [←hN];exact H
  | z nn=>exact H
  | _=>cases hf
theorem free_rv {X':Nat→Prop} {h':Hp} {B':Gh} (hN:Forb X h B=Forb X' h' B') {v:V} {x:Value} (hf:v.free=true) (H:RV X h B w v x):RV X' h' B' w v x:=by
  have hl:∀ {vs:List V} {arr:Array Value},vs.all V.free1=true→RVs X h B w vs arr→RVs X' h' B' w vs arr:=by
    intro vs arr hf ⟨h1,h2⟩
    refine ⟨h1,fun i v x hv hx=>free1_rv hN ?_ (h2 i v x hv hx)⟩
    exact List.all_eq_true.1 hf v (List.mem_of_getElem? hv)
  cases v with
  | fn g vs=>obtain ⟨arr,h1,h2⟩:=H;exact ⟨arr,h1,hl hf h2⟩
  | agg vs=>obtain ⟨arr,h1,h2,h3⟩:=H;exact ⟨arr,h1,hl hf h2,h3⟩
  | tup vs=>obtain ⟨arr,h1,h2⟩:=H;exact ⟨arr,h1,hl hf h2⟩
  | d d=>exact free1_rv (v:=.d d) hN rfl H
  | ip cs o=>exact free1_rv (v:=.ip cs o) hN rfl H
  | z nn=>exact free1_rv (w:=w) (v:=.z nn) hN rfl H
  | _=>cases hf
theorem nd_nil (u s:Nat) (p:Path):nd (hof []) u s p=none:=by simp [nd,hof]
theorem own_nil {B:Gh} {b:Nat} (H:Own (hof []) B b):False:=by
  obtain ⟨u,s,p,n,h,_⟩:=H
  rw [nd_nil] at h;cases h
theorem forb_nil {X:Nat→Prop} {B:Gh}:Forb X (hof []) B=X:=by
  funext b
  exact propext ⟨fun h=>h.resolve_left own_nil, .inr⟩
theorem hrel_nil (H:HRel X h B w):HRel (Forb X h B) (hof []) B w:=
  ⟨(fun u s p n hn=>by rw [nd_nil] at hn;cases hn),(fun u s p n u' s' p' n' hn=>by rw [nd_nil] at hn;cases hn),fun b hb=>H.forb_lt hb,fun b hb=>(own_nil hb).elim⟩
theorem free_call (S:Sound P callr) (H:HRel X h B w) {g:FuncId} {vs:List V} {args:Array Value} {v:V} (hv:RVL X h B w vs args) (hf:vs.all V.free=true) (hc:(callr g vs []).map (·.1)=some v) (hvf:v.free=true) :
    FnOk P g args w fun cv w'=>Tr X h B w [] h B w'∧RV X h B w' v cv:=by
  simp only [Option.map_eq_some_iff] at hc
  obtain ⟨⟨v',hp'⟩,hc,rfl⟩:=hc
  have hv':RVL (Forb X h B) (hof []) B w vs args:=⟨hv.1,fun i v x hv1 hx=>free_rv forb_nil.symm (List.all_eq_true.1 hf v (List.mem_of_getElem? hv1)) (hv.2 i v x hv1 hx)⟩
  refine (S g vs [] v' hp' hc (Forb X h B) B w args (hrel_nil H) hv').mono fun cv w' hh=>?_
  obtain ⟨B',A,hr⟩:=hh
  have hl:hp'=[]:=List.length_eq_zero_iff.1 (by simpa using A.len)
  subst hl
  exact ⟨tr_world H A.stp.os A.stp.tape A.stp.output A.stp.size (fun b hb=>A.stp.keep b hb own_nil),free_rv forb_nil hvf hr⟩
def OpOk (P:Program) (X:Nat→Prop) (h:Hp) (B:Gh) (w:World) (o:Oper) (a:Act) (e:Eff):Prop:=
  ∀ (next:Act→World→Prop) (Q:Exit→Act→World→Prop),(∀ cv w' B',Tr X h B w e.kill (updH h e.upd) B' w'→RV X (updH h e.upd) B' w' e.v cv→next (a.put o.dst cv) w')→o.wp P a w next Q
theorem EffOk.op (E:EffOk P X h B w (execOp a.eval o) e):OpOk P X h B w o a e:=by
  obtain ⟨nx,cv,w',B',h1,h2,h3,h4⟩:=E
  intro next Q hn
  unfold Oper.wp
  rw [h1]
  rcases h2 with rfl | ⟨rfl,rfl⟩
  · exact hn _ _ _ h3 h4
  · exact hn _ _ _ h3 h4
theorem opds_rvl (F:FRel X h B w f a) {xs:Array Operand} {ys:List Opd} (hc:opdsOk xs.toList ys=true):RVL X h B w (ys.map (·.ev f)) (xs.map a.eval):=by
  obtain ⟨h1,h2⟩:=opds_ok F hc
  refine ⟨by simp at h1 ⊢;exact h1,fun i v x hv hx=>?_⟩
  simp only [List.getElem?_map,Option.map_eq_some_iff] at hv
  obtain ⟨y,hy,rfl⟩:=hv
  simp only [Array.getElem?_map,Option.map_eq_some_iff] at hx
  obtain ⟨z,hz,rfl⟩:=hx
  exact h2 i z y (by simpa using hz) hy
theorem rvl_append {vs us:List V} {xs ys:Array Value} (H:RVL X h B w vs xs) (K:RVL X h B w us ys):RVL X h B w (vs++us) (xs++ys):=by
  refine ⟨by simp [H.1,K.1],fun i v x hv hx=>?_⟩
  by_cases hi:i<vs.length
  · rw [List.getElem?_append_left hi] at hv
    rw [Array.getElem?_append_left (by rw [H.1];exact hi)] at hx
    exact H.2 i v x hv hx
  · rw [List.getElem?_append_right (by omega)] at hv
    rw [Array.getElem?_append_right (by rw [H.1];omega),H.1] at hx
    exact K.2 _ v x hv hx
theorem rvs_rvl {vs:List V} {xs:Array Value} (H:RVs X h B w vs xs):RVL X h B w vs xs:=⟨H.1,fun i v x hv hx=>.of1 (H.2 i v x hv hx)⟩
theorem run_call {g:FuncId} {args:List Opd} (hc:chk P o.op o.type (.call g args)=true) (F:FRel X h B w f a) :
    ∃ xs:Array Value,(∀ w',(execOp a.eval o).run P w'=(callFunc g xs).run P w')∧RVL X h B w (args.map (·.ev f)) xs:=by
  simp only [chk] at hc
  split at hc
  · rename_i g' args' ts ho
    simp only [Bool.and_eq_true,beq_iff_eq] at hc
    obtain ⟨rfl,hc⟩:=hc
    refine ⟨args'.map a.eval,fun w'=>?_,opds_rvl F hc⟩
    simp [execOp,ho,resolve,invoke,Deferred.ofValue,Act.eval]
  · cases hc
theorem run_callv {x:Opd} {g:FuncId} {caps:List V} {args:List Opd} (hc:chk P o.op o.type (.callv x args)=true) (F:FRel X h B w f a) (hx:x.ev f = .fn g caps) :
    ∃ xs:Array Value,(∀ w',(execOp a.eval o).run P w'=(callFunc g xs).run P w')∧RVL X h B w (args.map (·.ev f)++caps) xs:=by
  simp only [chk] at hc
  split at hc
  · rename_i y args' ts ho
    simp only [Bool.and_eq_true] at hc
    have hy:=opd_ok F hc.1
    rw [hx] at hy
    obtain ⟨arr,h1,h2⟩:=hy
    refine ⟨args'.map a.eval++arr,fun w'=>?_,rvl_append (opds_rvl F hc.2) (rvs_rvl h2)⟩
    simp [execOp,ho,resolve,invoke,Deferred.ofValue,h1]
  · cases hc
theorem eff_op (S:Sound P callr) (H:HRel X h B w) (F:FRel X h B w f a) {op:IOp} (he:eff (fun g vs=>(callr g vs []).map (·.1)) f h dst op=some e) (hc:chk P o.op o.type op=true):OpOk P X h B w o a e:=by
  cases hn:op.isCall with
  | false=>exact (eff_ok H F hn he hc).op
  | true=>
    cases op with
    | call g args=>
      simp only [eff] at he
      split at he
      · rename_i hf
        simp only [Option.bind_eq_some_iff] at he
        obtain ⟨v,hv,he⟩:=he
        split at he
        · rename_i hvf
          simp only [Option.some.injEq] at he
          subst he
          obtain ⟨xs,h1,h2⟩:=run_call hc F
          intro next Q hn
          unfold Oper.wp
          rw [h1]
          exact free_call S H h2 hf hv hvf o a next Q fun cv w' hh=>hn cv w' B hh.1 hh.2
        · cases he
      · cases he
    | callv x args=>
      simp only [eff] at he
      split at he
      · rename_i g caps hx
        split at he
        · rename_i hf
          simp only [Option.bind_eq_some_iff] at he
          obtain ⟨v,hv,he⟩:=he
          split at he
          · rename_i hvf
            simp only [Option.some.injEq] at he
            subst he
            obtain ⟨xs,h1,h2⟩:=run_callv hc F hx
            intro next Q hn
            unfold Oper.wp
            rw [h1]
            exact free_call S H h2 hf hv hvf o a next Q fun cv w' hh=>hn cv w' B hh.1 hh.2
          · cases he
        · cases he
      · cases he
    | callo g args=>simp [eff] at he
    | callf g args=>simp [eff] at he
    | _=>cases hn
def guardOk (ops:Array Oper) (o:Oper) (g:Option (Nat × Bool)):Bool:=
  match o.guard,g with
  | none,none=>true
  | some (j,want),some (s,want')=>want==want'&&decide ((ops[j]?).bind (·.dst)=some s)
  | _,_=>false
def dstOk (nt:Nat):Option Nat→Bool
  | some d=>decide (d<nt)
  | none=>true
def okI (P:Program) (nt:Nat) (ops:Array Oper) (o:Oper) (i:II):Bool:=decide (o.dst=i.dst)&&(guardOk ops o i.g&&(dstOk nt i.dst&&chk P o.op o.type i.op))
theorem wanted_ok {ops:Array Oper} {g:Option (Nat × Bool)} {b:Bool} (hg:guardOk ops o g=true) (F:FRel X h B w f a) (hw:wantedI f g=some b):Region.wanted o (yielded ops a.tmps)=b:=by
  unfold guardOk at hg
  unfold Region.wanted
  split at hg
  · rename_i h1
    simp only [wantedI,Option.some.injEq] at hw
    rw [h1];exact hw
  · rename_i j want s want' h1
    simp only [Bool.and_eq_true,beq_iff_eq,decide_eq_true_eq] at hg
    obtain ⟨rfl,hj⟩:=hg
    simp only [wantedI] at hw
    split at hw
    · rename_i c hc
      injection hw with hw
      subst hw
      have hF:=F s
      rw [hc] at hF
      have hv:=rd_bool (show RD w (Forb X h B) (.bool c) _ from hF)
      have ht:a.tmps[s]? = some (.bool c):=by
        rw [Array.getD_eq_getD_getElem?] at hv
        cases hx:a.tmps[s]? with
        | none=>rw [hx] at hv;simp [undef] at hv
        | some y=>rw [hx] at hv;simpa using hv
      rw [h1]
      simp [yielded,hj,ht]
    · rename_i hc
      injection hw with hw
      subst hw
      have hF:=F s
      rw [hc] at hF
      have hv:a.tmps.getD s undef=undef:=hF
      rw [h1]
      cases hx:a.tmps[s]? with
      | none=>simp [yielded,hj,hx]
      | some y=>
        rw [Array.getD_eq_getD_getElem?,hx] at hv
        have:y=undef:=by simpa using hv
        subst this
        simp [yielded,hj,hx,undef]
    · cases hw
  · cases hg
theorem frel_put {nt:Nat} {d:Option Nat} {cv:Value} {f':Fr} (hnt:nt≤a.tmps.size) (hd:dstOk nt d=true) (h1:∀ s,d=some s→RV X h B w (f' s) cv) (h2:∀ t,d≠some t→RV X h B w (f' t) (a.tmps.getD t undef)):FRel X h B w f' (a.put d cv):=by
  intro t
  cases d with
  | none=>exact h2 t (by simp)
  | some s=>
    simp only [dstOk,decide_eq_true_eq] at hd
    by_cases hs:s=t
    · subst hs
      have:(a.put (some s) cv).tmps.getD s undef=cv:=by simp [Act.put,Nat.lt_of_lt_of_le hd hnt]
      rw [this];exact h1 s rfl
    · have:(a.put (some s) cv).tmps.getD t undef=a.tmps.getD t undef:=by simp [Act.put,Array.getElem?_setIfInBounds_ne hs]
      rw [this];exact h2 t (by simpa using hs)
theorem put_size (a:Act) (d:Option Nat) (cv:Value):(a.put d cv).tmps.size=a.tmps.size:=by cases d <;> simp [Act.put]
theorem put_defers (a:Act) (d:Option Nat) (cv:Value):(a.put d cv).defers=a.defers:=by cases d <;> rfl
class Dfs where
  l:List Deferred
variable [Dfs]
structure At (X:Nat→Prop) (nt:Nat) (f:Fr) (h:Hp) (B:Gh) (w:World) (a:Act):Prop where
  hr:HRel X h B w
  fr:FRel X h B w f a
  nt:nt≤a.tmps.size
  df:a.defers=Dfs.l
theorem At.flat {nt:Nat} (A:At X nt f h B w a) (t:Nat):(f t).flat=true:=(A.fr t).flat
theorem At.eff {nt:Nat} (A:At X nt f h B w a) {d:Option Nat} (hd:dstOk nt d=true) {cv:Value} {w':World} {B':Gh} (T:Tr X h B w e.kill (updH h e.upd) B' w') (hv:RV X (updH h e.upd) B' w' e.v cv) :
    At X nt (appF f d e) (updH h e.upd) B' w' (a.put d cv):=by
  refine ⟨T.hr,frel_put A.nt hd (fun s hs=>?_) (fun t ht=>?_),by rw [put_size];exact A.nt,by rw [put_defers];exact A.df⟩
  · unfold appF;rw [if_pos hs];exact hv
  · unfold appF;rw [if_neg ht];exact T.rvv (A.fr t)
omit [Dfs] in
theorem tr_refl_eff (H:HRel X h B w):Tr X h B w ({ v:=.und }:Eff).kill (updH h ({ v:=.und }:Eff).upd) B w:=Tr.refl H
omit [Dfs] in
theorem fits_low {hp:HL} (hf:e.fits hp=true):∀ k ∈ e.kill,k.low:=by
  unfold Eff.fits at hf
  simp only [Bool.and_eq_true] at hf
  intro k hk
  have:=List.all_eq_true.1 hf.2.2 k hk
  cases k with
  | root u s=>simp at this;exact this
  | under=>trivial
theorem effI_ok (S:Sound P callr) {nt:Nat} (A:At X nt f h B w a) {ops:Array Oper} {i:II} {j:Nat} (ho:ops[j]? = some o) (hk:okI P nt ops o i=true) (he:effI callr f h i=some e) {K:Act→World→Prop} {Q:Exit→Act→World→Prop}
    (hK:∀ a' w' B',At X nt (appF f i.dst e) (updH h e.upd) B' w' a'→Tr X h B w e.kill (updH h e.upd) B' w'→K a' w'):wpOp P ops Q j K a w:=by
  unfold okI at hk
  simp only [Bool.and_eq_true,decide_eq_true_eq] at hk
  obtain ⟨hd,hg,hdo,hc⟩:=hk
  unfold effI at he
  simp only [Option.bind_eq_some_iff] at he
  obtain ⟨b,hb,he⟩:=he
  have hw:=wanted_ok hg A.fr hb
  unfold wpOp
  rw [ho]
  simp only
  cases b with
  | true=>
    rw [hw]
    simp only [if_true] at he ⊢
    refine .inl (eff_op S A.hr A.fr he hc _ _ fun cv w' B' T hv=>?_)
    rw [hd]
    exact hK _ _ _ (A.eff hdo T hv) T
  | false=>
    rw [hw]
    simp only [Bool.false_eq_true,if_false,Option.some.injEq] at he ⊢
    subst he
    rw [hd]
    exact hK _ _ _ (A.eff hdo (tr_refl_eff A.hr) rfl) (tr_refl_eff A.hr)
end
end Go.Proofs.YtgmphfmoonbfpaaMv
