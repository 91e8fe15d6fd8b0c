/- Part 5 of the proof. -/
import Derived.Test.YtgmphfmoonbfpaaP4
import Derived.Test.YtgmphfmoonbfpaaProg
set_option linter.unusedVariables false
set_option linter.unusedSimpArgs false
set_option maxRecDepth 100000
namespace Go.Proofs.YtgmphfmoonbfpaaMv
open Go
theorem chk6:fnChk Try.prog 6 i6=true:=by kernel_rfl
theorem chk11:fnChk Try.prog 11 i11=true:=by kernel_rfl
theorem chk19:fnChk Try.prog 19 i19=true:=by kernel_rfl
theorem chk20:fnChk Try.prog 20 i20=true:=by kernel_rfl
theorem chk21:fnChk Try.prog 21 i21=true:=by kernel_rfl
theorem chk22:fnChk Try.prog 22 i22=true:=by kernel_rfl
theorem chk23:fnChk Try.prog 23 i23=true:=by kernel_rfl
theorem chk24:fnChk Try.prog 24 i24=true:=by kernel_rfl
theorem chk25:fnChk Try.prog 25 i25=true:=by kernel_rfl
theorem chk30:fnChk Try.prog 30 i30=true:=by kernel_rfl
theorem chk33:fnChk Try.prog 33 i33=true:=by kernel_rfl
theorem chk35:fnChk Try.prog 35 i35=true:=by kernel_rfl
theorem chk36:fnChk Try.prog 36 i36=true:=by kernel_rfl
theorem chk37:fnChk Try.prog 37 i37=true:=by kernel_rfl
theorem chk38:fnChk Try.prog 38 i38=true:=by kernel_rfl
theorem chk39:fnChk Try.prog 39 i39=true:=by kernel_rfl
theorem chk40:fnChk Try.prog 40 i40=true:=by kernel_rfl
theorem chk41:fnChk Try.prog 41 i41=true:=by kernel_rfl
theorem chk42:fnChk Try.prog 42 i42=true:=by kernel_rfl
theorem chk43:fnChk Try.prog 43 i43=true:=by kernel_rfl
theorem chk44:fnChk Try.prog 44 i44=true:=by kernel_rfl
theorem chk45:fnChk Try.prog 45 i45=true:=by kernel_rfl
theorem chk46:fnChk Try.prog 46 i46=true:=by kernel_rfl
theorem chk57:fnChk Try.prog 57 i57=true:=by kernel_rfl
theorem chk61:fnChk Try.prog 61 i61=true:=by kernel_rfl
theorem chk62:fnChk Try.prog 62 i62=true:=by kernel_rfl
theorem chk63:fnChk Try.prog 63 i63=true:=by kernel_rfl
theorem chk64:fnChk Try.prog 64 i64=true:=by kernel_rfl
theorem chk65:fnChk Try.prog 65 i65=true:=by kernel_rfl
theorem chk66:fnChk Try.prog 66 i66=true:=by kernel_rfl
theorem chk67:fnChk Try.prog 67 i67=true:=by kernel_rfl
theorem chk68:fnChk Try.prog 68 i68=true:=by kernel_rfl
theorem chk69:fnChk Try.prog 69 i69=true:=by kernel_rfl
theorem chk72:fnChk Try.prog 72 i72=true:=by kernel_rfl
theorem chk73:fnChk Try.prog 73 i73=true:=by kernel_rfl
theorem chk74:fnChk Try.prog 74 i74=true:=by kernel_rfl
theorem chk75:fnChk Try.prog 75 i75=true:=by kernel_rfl
theorem chk77:fnChk Try.prog 77 i77=true:=by kernel_rfl
theorem chk80:fnChk Try.prog 80 i80=true:=by kernel_rfl
theorem fns_chk (g:FuncId) (fn:IFn) (h:pg.fns g=some fn) (hn:g≠17):fnChk Try.prog g fn=true:=by
  have hh:fns g=some fn:=h
  unfold fns at hh
  split at hh
  · injection hh with hh;subst hh;exact chk6
  · injection hh with hh;subst hh;exact chk11
  · exact absurd rfl hn
  · injection hh with hh;subst hh;exact chk19
  · injection hh with hh;subst hh;exact chk20
  · injection hh with hh;subst hh;exact chk21
  · injection hh with hh;subst hh;exact chk22
  · injection hh with hh;subst hh;exact chk23
  · injection hh with hh;subst hh;exact chk24
  · injection hh with hh;subst hh;exact chk25
  · injection hh with hh;subst hh;exact chk30
  · injection hh with hh;subst hh;exact chk33
  · injection hh with hh;subst hh;exact chk35
  · injection hh with hh;subst hh;exact chk36
  · injection hh with hh;subst hh;exact chk37
  · injection hh with hh;subst hh;exact chk38
  · injection hh with hh;subst hh;exact chk39
  · injection hh with hh;subst hh;exact chk40
  · injection hh with hh;subst hh;exact chk41
  · injection hh with hh;subst hh;exact chk42
  · injection hh with hh;subst hh;exact chk43
  · injection hh with hh;subst hh;exact chk44
  · injection hh with hh;subst hh;exact chk45
  · injection hh with hh;subst hh;exact chk46
  · injection hh with hh;subst hh;exact chk57
  · injection hh with hh;subst hh;exact chk61
  · injection hh with hh;subst hh;exact chk62
  · injection hh with hh;subst hh;exact chk63
  · injection hh with hh;subst hh;exact chk64
  · injection hh with hh;subst hh;exact chk65
  · injection hh with hh;subst hh;exact chk66
  · injection hh with hh;subst hh;exact chk67
  · injection hh with hh;subst hh;exact chk68
  · injection hh with hh;subst hh;exact chk69
  · injection hh with hh;subst hh;exact chk72
  · injection hh with hh;subst hh;exact chk73
  · injection hh with hh;subst hh;exact chk74
  · injection hh with hh;subst hh;exact chk75
  · injection hh with hh;subst hh;exact chk77
  · injection hh with hh;subst hh;exact chk80
  · cases hh
end Go.Proofs.YtgmphfmoonbfpaaMv

namespace Go.Proofs.YtgmphfmoonbfpaaMv
open Go
theorem mixed:Try.prog.follows .mixedOrders=true:=by kernel_rfl
section
variable {P:Program} {X:Nat→Prop} {callr:CallR} {n:Nat}
theorem seq_go {x y:IR} {cx cy:Code} {st st':St} {ex:Ex} {B:Gh} {w:World} {a:Act} {Q:Exit→Act→World→Prop} (hx:BodyOk P X 84 (ev n callr x) cx) (A:At X 84 st.f (hof st.hp) B w a) (h:ev n callr (.seq x y) st=some (ex,st'))
    (hn:∀ st1 a1 w1 B1,ev n callr y st1=some (ex,st')→At X 84 st1.f (hof st1.hp) B1 w1 a1→Link X (hof st.hp) B w (hof st1.hp) B1 w1→st1.hp.length=st.hp.length→cy.wp P Q a1 w1)
    (he:∀ a1 w1 B1,ex ≠ .normal→At X 84 st'.f (hof st'.hp) B1 w1 a1→Link X (hof st.hp) B w (hof st'.hp) B1 w1→st'.hp.length=st.hp.length→Q (exOf ex) a1 w1):(Code.seq cx cy).wp P Q a w:=by
  rcases ev_seq h with ⟨s1,h1,h2⟩ | ⟨h1,h2⟩
  · exact wp_seq (hx st s1 .normal B w a _ A h1 fun a1 w1 B1 A1 L1 e1=>hn s1 a1 w1 B1 h2 A1 L1 e1)
  · refine wp_seq (hx st st' ex B w a _ A h2 fun a1 w1 B1 A1 L1 e1=>?_)
    have:=he a1 w1 B1 h1 A1 L1 e1
    cases ex with
    | normal=>exact absurd rfl h1
    | ret=>exact this
    | exit id=>exact this
end
theorem good17 (n:Nat) (S:Sound Try.prog (run pg n)):GoodFn Try.prog pg 17 n:=by
  intro vs hp v hp' h X B w args H hv
  obtain ⟨fn,r0,c1,r3,id4,ops4,o4,id5,ops5,id6,ops6,post,hs⟩:=s17
  have hrun:(callFunc 17 args).run Try.prog w = .ok (.enter 17 args) w:=by
    simp [callFunc,program,Sem.run,hs.fun_,hs.name,hs.body]
  refine ⟨hrun, ?_⟩
  have hfns:pg.fns 17=some i17:=rfl
  simp only [run,hfns] at h
  refine callsIn_wide.1 (callsIn_of_wp_marks (n:=5) hs.fun_ hs.body trivial (wpIn_wide.2 ?_))
  have fin:∀ (ex:Ex) (st:St),(∀ id,ex ≠ .exit id)→∀ rs,resIs st i17.res=some rs→∀ t hp1,st.hp=t::hp1→outV rs=some v→hp'=hp1→∀ (ds:List Deferred) (a':Act) (w':World) (B':Gh), @At ⟨ds⟩ X 84 st.f (hof st.hp) B' w' a' →
      Link X (hof ([]::hp)) (gup B) w (hof st.hp) B' w'→st.hp.length=([]::hp:HL).length→(ds=[] ∨ ∃ D,ds=[{ target:=.collected D,args:=#[] }]∧w'.heap[D]? = some (.deferred (some []))∧w.heap.size≤D) →
      bodyPostM Fence.wide 5 Try.prog fn (fun e w''=>∃ cv,e = .returned cv ∧ ∃ B',After X hp B w hp' B' w''∧RV X (hof hp') B' w'' v cv) (exOf ex) a' w':=by
    intro ex st hne rs hrs t hp1 hst hvv hhp ds a' w' B' A' L' e' hds
    subst hhp
    have last:∀ w'',At X 84 st.f (hof st.hp) B' w'' { tmps:=a'.tmps,defers:=[] } → Link X (hof ([]::hp)) (gup B) w (hof st.hp) B' w'' →
        LeavesInM Fence.wide 5 Try.prog fn a'.tmps (fun e w''=>∃ cv,e = .returned cv ∧ ∃ B',After X hp B w hp' B' w''∧RV X (hof hp') B' w'' v cv) [] .returning w'':=by
      intro w'' A'' L''
      obtain ⟨cvs,k1,k2,k3⟩:=resIs_ok A'' hst hs.res hrs
      have A2:=A''.hr
      rw [hst] at A2 L'' e'
      have hAf:=end_after H A2 L'' e'
      exact ⟨_,results_ok k1,_,rfl,gdown B',hAf,out_ok k2 k3 hvv⟩
    obtain ⟨Ahr,Afr,Ant,hdf0⟩:=A'
    have A0:At X 84 st.f (hof st.hp) B' w' { tmps:=a'.tmps,defers:=[] }:=⟨Ahr,Afr,Ant,rfl⟩
    have hdf:a'.defers=ds:=hdf0
    have goal:LeavesInM Fence.wide 5 Try.prog fn a'.tmps (fun e w''=>∃ cv,e = .returned cv ∧ ∃ B',After X hp B w hp' B' w''∧RV X (hof hp') B' w'' v cv) a'.defers .returning w':=by
      rcases hds with rfl | ⟨D,rfl,hD,hwD⟩
      · rw [hdf]
        exact last w' A0 L'
      · rw [hdf]
        have O:Oth w' (w'.putObj D (.deferred none)):=Oth.put _ hD (by simp) (by simp)
        refine ⟨by simp, .inl ⟨D,_,rfl,run_takeDeferred hD, ?_⟩⟩
        exact last _ (A0.oth O) (Link.ofX (Oth.refl w) rfl rfl rfl (fun _ _=>rfl) hwD ((L'.toX D).trans (LinkX.put _ hD (by simp) (by simp))))
    cases ex with
    | normal=>exact goal
    | ret=>exact goal
    | exit id=>exact absurd rfl (hne id)
  have key:∀ ex st,ev n (run pg n) i17.body { fr:=argsFr 0 vs,hp:=[]::hp } = some (ex,st)→(∀ id,ex ≠ .exit id)→∀ rs,resIs st i17.res=some rs→∀ t hp1,st.hp=t::hp1→outV rs=some v→hp'=hp1 →
      (Code.seq r0 (.seq c1 (.seq r3 (.seq (.seq (.region id4 ops4 false) (.block 0 (.rangeFunc (.tmp 26) #[27,28] (.region id5 ops5 false) (.block 1 (.region id6 ops6 false))))) post)))).wp Try.prog
        (bodyPostM Fence.wide 5 Try.prog fn (fun e w''=>∃ cv,e = .returned cv ∧ ∃ B',After X hp B w hp' B' w''∧RV X (hof hp') B' w'' v cv)) { tmps:=args++Array.replicate (fn.ntmps - args.size) undef,defers:=[] } w:=by
    intro ex st hev hne rs hrs t hp1 hst hvv hhp
    have fin':=fin ex st hne rs hrs t hp1 hst hvv hhp
    rw [i17_eq] at hev
    rw [←hs.nt]
    refine seq_go (ev_ok mixed S n _ _ hs.k0) (start_at H hv) hev (fun st1 a1 w1 B1 h1 A1 L1 e1=>?_) (fun a1 w1 B1 _ A1 L1 e1=>fin' [] a1 w1 B1 A1 L1 e1 (.inl rfl))
    refine seq_go (ev_ok mixed S n _ _ hs.k1) A1 h1 (fun st2 a2 w2 B2 h2 A2 L2 e2=>?_) (fun a2 w2 B2 _ A2 L2 e2=>fin' [] a2 w2 B2 A2 (L1.trans L2) (e2.trans e1) (.inl rfl))
    refine seq_go (ev_ok mixed S n _ _ hs.k3) A2 h2 (fun st3 a3 w3 B3 h3 A3 L3 e3=>?_) (fun a3 w3 B3 _ A3 L3 e3=>fin' [] a3 w3 B3 A3 ((L1.trans L2).trans L3) (e3.trans (e2.trans e1)) (.inl rfl))
    rcases ev_seq h3 with ⟨st4,h4,h5⟩ | ⟨h4,h5⟩
    · refine wp_seq (rf17 S hs h4 A3 fun D B5 w5 a5 A5 L5 e5 hD hwD hOD=>?_)
      have hb:=@ev_ok ⟨[{ target:=.collected D,args:=#[] }]⟩ Try.prog X (run pg n) 84 mixed S n i17p post hs.kp
      refine hb st4 st ex B5 w5 a5 _ A5 h5 fun a6 w6 B6 A6 L6 e6=>?_
      have h12:=(L1.trans L2).trans L3
      have hlt:D<w5.heap.size:=(Array.getElem?_eq_some_iff.1 hD).1
      exact fin' _ a6 w6 B6 A6 ((h12.trans L5).trans L6) (e6.trans (e5.trans (e3.trans (e2.trans e1)))) (.inr ⟨D,rfl,(L6.stp.keep D hlt hOD).trans hD,by have:=h12.stp.size;omega⟩)
    · exact absurd (rf_inv h5).1 h4
  split at h
  · cases h
  · rename_i ex st hne hev
    have hx:isExp i17.res=none:=rfl
    simp only [hx,Option.bind_eq_some_iff] at h
    obtain ⟨rs,hrs,h⟩:=h
    split at h
    · rename_i t hp1 hst
      simp only [Option.map_eq_some_iff,Prod.mk.injEq] at h
      obtain ⟨v',ho,rfl,rfl⟩:=h
      exact key ex st hev (fun id hid=>hne id (by rw [hid])) rs hrs t hp1 hst ho rfl
    · cases h
  · cases h
theorem all_good (g:FuncId) (fn:IFn) (h:pg.fns g=some fn):fnChk Try.prog g fn=true ∨ ∀ n,Sound Try.prog (run pg n)→GoodFn Try.prog pg g n:=by
  by_cases hg:g=17
  · subst hg
    exact .inr good17
  · exact .inl (fns_chk g fn h hg)
theorem ext_ok:ExtOk Try.prog pg.ext pg.fns:=by
  intro g vs v hnone h X hp B w args H hv
  have stay:∀ {r:Value},(∀ w':World,(callFunc g args).run Try.prog w' = .ok (.value r) w')→RV X (hof hp) B w v r→FnOk Try.prog g args w fun cv w'=>∃ B',After X hp B w hp B' w'∧RV X (hof hp) B' w' v cv:=by
    intro r hr hrv o a next Q hn
    rw [hr,Oper.upon_value]
    exact hn r w ⟨B,⟨H,fun v x hv=>rv1_sh1 hv, .refl _ _,rfl⟩,hrv⟩
  have h':ext g vs=some v:=h
  unfold ext at h'
  split at h'
  · rename_i a b
    injection h' with h'
    subst h'
    have h0:args.size=2:=hv.1
    obtain ⟨x,y,rfl⟩:∃ x y,args = #[x,y]:=by
      match args,h0 with
      | ⟨[x,y]⟩,_=>exact ⟨x,y,rfl⟩
    obtain ⟨sa,rfl,rfl⟩:=rd_str (hv.2 0 _ x rfl rfl)
    obtain ⟨sb,rfl,rfl⟩:=rd_str (hv.2 1 _ y rfl rfl)
    refine stay (r:=.int .i64 (Go.Lib.compareBytes sa.data.toList sb.data.toList)) (fun w'=>?_) (.of1 (.int _ _))
    rw [run_callFunc_extern Try.func78 (by kernel_rfl) (by kernel_rfl) (by kernel_rfl) (e:=Extern.BytealgCompare.compare) (by kernel_rfl),Go.Lib.run_compareString]
    rfl
  · rename_i s c
    injection h' with h'
    subst h'
    have h0:args.size=2:=hv.1
    obtain ⟨x,y,rfl⟩:∃ x y,args = #[x,y]:=by
      match args,h0 with
      | ⟨[x,y]⟩,_=>exact ⟨x,y,rfl⟩
    obtain ⟨sa,rfl,rfl⟩:=rd_str (hv.2 0 _ x rfl rfl)
    obtain rfl:=rd_int (hv.2 1 _ y rfl rfl)
    refine stay (r:=.int .i64 (Go.Lib.indexByte sa.data.toList c.toNat.toUInt8)) (fun w'=>?_) (.of1 (.int _ _))
    rw [run_callFunc_extern Try.func79 (by kernel_rfl) (by kernel_rfl) (by kernel_rfl) (e:=Extern.BytealgIndexByte.indexByte) (by kernel_rfl),Go.Lib.run_indexByteString]
    rfl
  · cases h'
theorem pg_calls {g:FuncId} {fn:IFn} (hfn:pg.fns g=some fn) (n:Nat):GoodFn Try.prog pg g n:=good_calls mixed all_good ext_ok hfn n
end Go.Proofs.YtgmphfmoonbfpaaMv
