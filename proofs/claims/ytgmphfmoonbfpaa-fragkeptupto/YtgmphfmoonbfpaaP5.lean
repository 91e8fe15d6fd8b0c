/- Part 5 of the proof. -/
import Derived.Test.YtgmphfmoonbfpaaP4
import Derived.Test.YtgmphfmoonbfpaaProg
set_option linter.unusedVariables false
set_option linter.unusedSimpArgs false
set_option maxRecDepth 100000
namespace Go.Proofs.YtgmphfmoonbfpaaMv
open Go
theorem chk5 : fnChk Go.Proofs.Try.prog 5 i5 = true := by kernel_rfl
theorem chk7 : fnChk Go.Proofs.Try.prog 7 i7 = true := by kernel_rfl
theorem chk8 : fnChk Go.Proofs.Try.prog 8 i8 = true := by kernel_rfl
theorem chk9 : fnChk Go.Proofs.Try.prog 9 i9 = true := by kernel_rfl
theorem chk11 : fnChk Go.Proofs.Try.prog 11 i11 = true := by kernel_rfl
theorem chk15 : fnChk Go.Proofs.Try.prog 15 i15 = true := by kernel_rfl
theorem chk16 : fnChk Go.Proofs.Try.prog 16 i16 = true := by kernel_rfl
theorem chk18 : fnChk Go.Proofs.Try.prog 18 i18 = true := by kernel_rfl
theorem chk26 : fnChk Go.Proofs.Try.prog 26 i26 = true := by kernel_rfl
theorem chk27 : fnChk Go.Proofs.Try.prog 27 i27 = true := by kernel_rfl
theorem chk30 : fnChk Go.Proofs.Try.prog 30 i30 = true := by kernel_rfl
theorem chk32 : fnChk Go.Proofs.Try.prog 32 i32 = true := by kernel_rfl
theorem chk33 : fnChk Go.Proofs.Try.prog 33 i33 = true := by kernel_rfl
theorem chk35 : fnChk Go.Proofs.Try.prog 35 i35 = true := by kernel_rfl
theorem chk36 : fnChk Go.Proofs.Try.prog 36 i36 = true := by kernel_rfl
theorem chk47 : fnChk Go.Proofs.Try.prog 47 i47 = true := by kernel_rfl
theorem chk48 : fnChk Go.Proofs.Try.prog 48 i48 = true := by kernel_rfl
theorem chk49 : fnChk Go.Proofs.Try.prog 49 i49 = true := by kernel_rfl
theorem chk50 : fnChk Go.Proofs.Try.prog 50 i50 = true := by kernel_rfl
theorem chk51 : fnChk Go.Proofs.Try.prog 51 i51 = true := by kernel_rfl
theorem chk57 : fnChk Go.Proofs.Try.prog 57 i57 = true := by kernel_rfl
theorem chk59 : fnChk Go.Proofs.Try.prog 59 i59 = true := by kernel_rfl
theorem fns_chk (g : FuncId) (fn : IFn) (h : pg.fns g = some fn) (hn : g ≠ 17) : fnChk Go.Proofs.Try.prog g fn = true := by
  have hh : fns g = some fn := h
  unfold fns at hh
  split at hh
  · injection hh with hh; subst hh; exact chk5
  · injection hh with hh; subst hh; exact chk7
  · injection hh with hh; subst hh; exact chk8
  · injection hh with hh; subst hh; exact chk9
  · injection hh with hh; subst hh; exact chk11
  · injection hh with hh; subst hh; exact chk15
  · injection hh with hh; subst hh; exact chk16
  · exact absurd rfl hn
  · injection hh with hh; subst hh; exact chk18
  · injection hh with hh; subst hh; exact chk26
  · injection hh with hh; subst hh; exact chk27
  · injection hh with hh; subst hh; exact chk30
  · injection hh with hh; subst hh; exact chk32
  · injection hh with hh; subst hh; exact chk33
  · injection hh with hh; subst hh; exact chk35
  · injection hh with hh; subst hh; exact chk36
  · injection hh with hh; subst hh; exact chk47
  · injection hh with hh; subst hh; exact chk48
  · injection hh with hh; subst hh; exact chk49
  · injection hh with hh; subst hh; exact chk50
  · injection hh with hh; subst hh; exact chk51
  · injection hh with hh; subst hh; exact chk57
  · injection hh with hh; subst hh; exact chk59
  · cases hh
end Go.Proofs.YtgmphfmoonbfpaaMv

namespace Go.Proofs.YtgmphfmoonbfpaaMv
open Go
theorem mixed : Go.Proofs.Try.prog.follows .mixedOrders = true := by kernel_rfl
section
variable {P : Program} {X : Nat → Prop} {callr : CallR} {n : Nat}
theorem seq_go {x y : IR} {cx cy : Code} {st st' : St} {ex : Ex} {B : Gh} {w : World} {a : Act} {Q : Exit → Act → World → Prop} (hx : BodyOk P X 84 (ev n callr x) cx) (A : At X 84 st.f (hof st.hp) B w a) (h : ev n callr (.seq x y) st = some (ex, st'))
    (hn : ∀ st1 a1 w1 B1, ev n callr y st1 = some (ex, st') → At X 84 st1.f (hof st1.hp) B1 w1 a1 → Link X (hof st.hp) B w (hof st1.hp) B1 w1 → st1.hp.length = st.hp.length → cy.wp P Q a1 w1)
    (he : ∀ a1 w1 B1, ex ≠ .normal → At X 84 st'.f (hof st'.hp) B1 w1 a1 → Link X (hof st.hp) B w (hof st'.hp) B1 w1 → st'.hp.length = st.hp.length → Q (exOf ex) a1 w1) : (Code.seq cx cy).wp P Q a w := by
  rcases ev_seq h with ⟨s1, h1, h2⟩ | ⟨h1, h2⟩
  · exact wp_seq (hx st s1 .normal B w a _ A h1 fun a1 w1 B1 A1 L1 e1 => hn s1 a1 w1 B1 h2 A1 L1 e1)
  · refine wp_seq (hx st st' ex B w a _ A h2 fun a1 w1 B1 A1 L1 e1 => ?_)
    have := he a1 w1 B1 h1 A1 L1 e1
    cases ex with
    | normal => exact absurd rfl h1
    | ret => exact this
    | exit id => exact this
end
theorem good17 (n : Nat) (S : Sound Go.Proofs.Try.prog (run pg n)) : GoodFn Go.Proofs.Try.prog pg 17 n := by
  intro vs hp v hp' h X B w args H hv
  obtain ⟨fn, r0, c1, r3, id4, ops4, o4, id5, ops5, id6, ops6, post, hs⟩ := s17
  have hrun : (callFunc 17 args).run Go.Proofs.Try.prog w = .ok (.enter 17 args) w := by
    simp [callFunc, program, Sem.run, hs.fun_, hs.name, hs.body]
  refine ⟨hrun, ?_⟩
  have hfns : pg.fns 17 = some i17 := rfl
  simp only [run, hfns] at h
  refine callsIn_wide.1 (callsIn_of_wp_marks (n := 5) hs.fun_ hs.body trivial (wpIn_wide.2 ?_))
  have fin : ∀ (ex : Ex) (st : St), (∀ id, ex ≠ .exit id) → ∀ rs, resIs st i17.res = some rs → ∀ t hp1, st.hp = t :: hp1 → outV rs = some v → hp' = hp1 → ∀ (ds : List Deferred) (a' : Act) (w' : World) (B' : Gh), @At ⟨ds⟩ X 84 st.f (hof st.hp) B' w' a' →
      Link X (hof ([] :: hp)) (gup B) w (hof st.hp) B' w' → st.hp.length = ([] :: hp : HL).length → (ds = [] ∨ ∃ D, ds = [{ target := .collected D, args := #[] }] ∧ w'.heap[D]? = some (.deferred (some [])) ∧ w.heap.size ≤ D) →
      bodyPostM Fence.wide 5 Go.Proofs.Try.prog fn (fun e w'' => ∃ cv, e = .returned cv ∧ ∃ B', After X hp B w hp' B' w'' ∧ RV X (hof hp') B' w'' v cv) (exOf ex) a' w' := by
    intro ex st hne rs hrs t hp1 hst hvv hhp ds a' w' B' A' L' e' hds
    subst hhp
    have last : ∀ w'', At X 84 st.f (hof st.hp) B' w'' { tmps := a'.tmps, defers := [] } → Link X (hof ([] :: hp)) (gup B) w (hof st.hp) B' w'' →
        LeavesInM Fence.wide 5 Go.Proofs.Try.prog fn a'.tmps (fun e w'' => ∃ cv, e = .returned cv ∧ ∃ B', After X hp B w hp' B' w'' ∧ RV X (hof hp') B' w'' v cv) [] .returning w'' := by
      intro w'' A'' L''
      obtain ⟨cvs, k1, k2, k3⟩ := resIs_ok A'' hst hs.res hrs
      have A2 := A''.hr
      rw [hst] at A2 L'' e'
      have hAf := end_after H A2 L'' e'
      exact ⟨_, results_ok k1, _, rfl, gdown B', hAf, out_ok k2 k3 hvv⟩
    obtain ⟨Ahr, Afr, Ant, hdf0⟩ := A'
    have A0 : At X 84 st.f (hof st.hp) B' w' { tmps := a'.tmps, defers := [] } := ⟨Ahr, Afr, Ant, rfl⟩
    have hdf : a'.defers = ds := hdf0
    have goal : LeavesInM Fence.wide 5 Go.Proofs.Try.prog fn a'.tmps (fun e w'' => ∃ cv, e = .returned cv ∧ ∃ B', After X hp B w hp' B' w'' ∧ RV X (hof hp') B' w'' v cv) a'.defers .returning w' := by
      rcases hds with rfl | ⟨D, rfl, hD, hwD⟩
      · rw [hdf]
        exact last w' A0 L'
      · rw [hdf]
        have O : Oth w' (w'.putObj D (.deferred none)) := Oth.put _ hD (by simp) (by simp)
        refine ⟨by simp, .inl ⟨D, _, rfl, run_takeDeferred hD, ?_⟩⟩
        exact last _ (A0.oth O) (Link.ofX (Oth.refl w) rfl rfl rfl (fun _ _ => rfl) hwD ((L'.toX D).trans (LinkX.put _ hD (by simp) (by simp))))
    cases ex with
    | normal => exact goal
    | ret => exact goal
    | exit id => exact absurd rfl (hne id)
  have key : ∀ ex st, ev n (run pg n) i17.body { fr := argsFr 0 vs, hp := [] :: hp } = some (ex, st) → (∀ id, ex ≠ .exit id) → ∀ rs, resIs st i17.res = some rs → ∀ t hp1, st.hp = t :: hp1 → outV rs = some v → hp' = hp1 →
      (Code.seq r0 (.seq c1 (.seq r3 (.seq (.seq (.region id4 ops4 false) (.block 0 (.rangeFunc (.tmp 26) #[27, 28] (.region id5 ops5 false) (.block 1 (.region id6 ops6 false))))) post)))).wp Go.Proofs.Try.prog
        (bodyPostM Fence.wide 5 Go.Proofs.Try.prog fn (fun e w'' => ∃ cv, e = .returned cv ∧ ∃ B', After X hp B w hp' B' w'' ∧ RV X (hof hp') B' w'' v cv)) { tmps := args ++ Array.replicate (fn.ntmps - args.size) undef, defers := [] } w := by
    intro ex st hev hne rs hrs t hp1 hst hvv hhp
    have fin' := fin ex st hne rs hrs t hp1 hst hvv hhp
    rw [i17_eq] at hev
    rw [← hs.nt]
    refine seq_go (ev_ok mixed S n _ _ hs.k0) (start_at H hv) hev (fun st1 a1 w1 B1 h1 A1 L1 e1 => ?_) (fun a1 w1 B1 _ A1 L1 e1 => fin' [] a1 w1 B1 A1 L1 e1 (.inl rfl))
    refine seq_go (ev_ok mixed S n _ _ hs.k1) A1 h1 (fun st2 a2 w2 B2 h2 A2 L2 e2 => ?_) (fun a2 w2 B2 _ A2 L2 e2 => fin' [] a2 w2 B2 A2 (L1.trans L2) (e2.trans e1) (.inl rfl))
    refine seq_go (ev_ok mixed S n _ _ hs.k3) A2 h2 (fun st3 a3 w3 B3 h3 A3 L3 e3 => ?_) (fun a3 w3 B3 _ A3 L3 e3 => fin' [] a3 w3 B3 A3 ((L1.trans L2).trans L3) (e3.trans (e2.trans e1)) (.inl rfl))
    rcases ev_seq h3 with ⟨st4, h4, h5⟩ | ⟨h4, h5⟩
    · refine wp_seq (rf17 S hs h4 A3 fun D B5 w5 a5 A5 L5 e5 hD hwD hOD => ?_)
      have hb := @ev_ok ⟨[{ target := .collected D, args := #[] }]⟩ Go.Proofs.Try.prog X (run pg n) 84 mixed S n i17p post hs.kp
      refine hb st4 st ex B5 w5 a5 _ A5 h5 fun a6 w6 B6 A6 L6 e6 => ?_
      have h12 := (L1.trans L2).trans L3
      have hlt : D < w5.heap.size := (Array.getElem?_eq_some_iff.1 hD).1
      exact fin' _ a6 w6 B6 A6 ((h12.trans L5).trans L6) (e6.trans (e5.trans (e3.trans (e2.trans e1)))) (.inr ⟨D, rfl, (L6.stp.keep D hlt hOD).trans hD, by have := h12.stp.size; omega⟩)
    · exact absurd (rf_inv h5).1 h4
  split at h
  · cases h
  · rename_i ex st hne hev
    simp only [Option.bind_eq_some_iff] at h
    obtain ⟨rs, hrs, h⟩ := h
    split at h
    · rename_i t hp1 hst
      simp only [Option.map_eq_some_iff, Prod.mk.injEq] at h
      obtain ⟨v', ho, rfl, rfl⟩ := h
      exact key ex st hev (fun id hid => hne id (by rw [hid])) rs hrs t hp1 hst ho rfl
    · cases h
  · cases h
theorem all_good (g : FuncId) (fn : IFn) (h : pg.fns g = some fn) : fnChk Go.Proofs.Try.prog g fn = true ∨ ∀ n, Sound Go.Proofs.Try.prog (run pg n) → GoodFn Go.Proofs.Try.prog pg g n := by
  by_cases hg : g = 17
  · subst hg
    exact .inr good17
  · exact .inl (fns_chk g fn h hg)
theorem ext_none : ExtOk Go.Proofs.Try.prog pg.ext pg.fns := by
  intro g vs v _ h
  cases h
theorem pg_calls {g : FuncId} {fn : IFn} (hfn : pg.fns g = some fn) (n : Nat) : GoodFn Go.Proofs.Try.prog pg g n := good_calls mixed all_good ext_none hfn n
end Go.Proofs.YtgmphfmoonbfpaaMv
