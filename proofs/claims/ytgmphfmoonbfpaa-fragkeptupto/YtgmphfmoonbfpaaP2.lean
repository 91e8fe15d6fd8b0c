/- Part 2 of the proof. -/
import Derived.Test.YtgmphfmoonbfpaaP1
set_option linter.unusedVariables false
set_option linter.unusedSimpArgs false
namespace Go.Proofs.YtgmphfmoonbfpaaMv
open Go
def chkC (P : Program) (nt : Nat) : IR → Code → Bool
  | .skip, .skip => true
  | .reg iis, .region _ ops false => opsOk P nt ops ops.toList iis
  | .drw h un iis, .region _ ops true => regChk P nt ops h un iis
  | .seq a b, c => match b with
    | .keep _ _ => chkC P nt a c
    | _ => match a with
      | .frz _ => chkC P nt b c
      | _ => match c with
        | .seq x y => chkC P nt a x && chkC P nt b y
        | _ => false
  | .cond k a b, .cond c x y => opdOk c k && (chkC P nt a x && chkC P nt b y)
  | .block id b, .block id' c => id == id' && chkC P nt b c
  | .loop b, .loop c => chkC P nt b c
  | .exit i, .exit j => i == j
  | .ret, .ret => true
  | _, _ => false
def exOf : Ex → Exit
  | .normal => .normal
  | .exit id => .exit id
  | .ret => .ret
section
variable [Dfs] {P : Program} {X : Nat → Prop} {callr : CallR} {nt : Nat}
def EvK (X : Nat → Prop) (nt : Nat) (st : St) (B : Gh) (w : World) (ex : Ex) (st' : St) (Q : Exit → Act → World → Prop) : Prop :=
  ∀ a' w' B', At X nt st'.f (hof st'.hp) B' w' a' → Link X (hof st.hp) B w (hof st'.hp) B' w' → st'.hp.length = st.hp.length → Q (exOf ex) a' w'
def BodyOk (P : Program) (X : Nat → Prop) (nt : Nat) (body : St → Option (Ex × St)) (c : Code) : Prop :=
  ∀ (st st' : St) (ex : Ex) (B : Gh) (w : World) (a : Act) (Q : Exit → Act → World → Prop), At X nt st.f (hof st.hp) B w a → body st = some (ex, st') → EvK X nt st B w ex st' Q → c.wp P Q a w
theorem EvK.after {st st1 st' : St} {B B1 : Gh} {w w1 : World} {ex : Ex} {Q : Exit → Act → World → Prop} (h : EvK X nt st B w ex st' Q) (L : Link X (hof st.hp) B w (hof st1.hp) B1 w1) (e : st1.hp.length = st.hp.length) : EvK X nt st1 B1 w1 ex st' Q :=
  fun a' w' B' A' L' e' => h a' w' B' A' (L.trans L') (e'.trans e)
theorem loop_ok {body : St → Option (Ex × St)} {c : Code} (hb : BodyOk P X nt body c) {Q : Exit → Act → World → Prop} : ∀ (n : Nat) {st st' : St} {ex : Ex} {B : Gh} {w : World} {a : Act}, At X nt st.f (hof st.hp) B w a → iter body n st = some (ex, st') → EvK X nt st B w ex st' Q →
    ∀ (b : Frame) (k : List Item) (cs : List Frame), ∃ e a' w', Q e a' w' ∧ Arrives P (lone (b.at a (.code c :: .inLoop c :: k)) cs w) b k cs e a' w'
  | 0, st, st', ex, B, w, a, A, hi, hK, b, k, cs => by simp [iter] at hi
  | n + 1, st, st', ex, B, w, a, A, hi, hK, b, k, cs => by
    simp only [iter] at hi
    split at hi
    · rename_i st1 h1
      have hw := hb st st1 .normal B w a (Exit.then (fun a1 w1 => ∃ e a' w', Q e a' w' ∧ Arrives P (lone (b.at a1 (.code c :: .inLoop c :: k)) cs w1) b k cs e a' w') Q) A h1
        (fun a1 w1 B1 A1 L1 e1 => loop_ok hb n A1 hi (hK.after L1 e1) b k cs)
      obtain ⟨e, a₁, w₁, hq, harr⟩ := hw b (.inLoop c :: k) cs
      cases e with
      | normal =>
        obtain ⟨e₂, a₂, w₂, hq₂, harr₂⟩ := hq
        exact ⟨e₂, a₂, w₂, hq₂, .of_steps (Steps.trans harr (.one step_inLoop)) harr₂⟩
      | exit id => exact ⟨_, a₁, w₁, hq, .pass (x := .inLoop c) rfl (fun _ _ => .inl (by simp)) harr⟩
      | goto l => exact ⟨_, a₁, w₁, hq, .pass (x := .inLoop c) rfl (fun _ _ => .inl (by simp)) harr⟩
      | ret => exact ⟨_, a₁, w₁, hq, .pass (x := .inLoop c) rfl (fun _ _ => .inl (by simp)) harr⟩
      | panic ch => exact ⟨_, a₁, w₁, hq, .pass (x := .inLoop c) rfl (fun _ _ => .inl (by simp)) harr⟩
      | outgrown => exact ⟨_, a₁, w₁, hq, .pass (x := .inLoop c) rfl (fun _ _ => .inl (by simp)) harr⟩
    · rename_i hne
      have hne' : ex ≠ .normal := by rintro rfl; exact hne _ hi
      have hw := hb st st' ex B w a (Exit.then (fun _ _ => False) Q) A hi (fun a1 w1 B1 A1 L1 e1 => by
        have := hK a1 w1 B1 A1 L1 e1
        cases ex with
        | normal => exact absurd rfl hne'
        | exit id => exact this
        | ret => exact this)
      obtain ⟨e, a₁, w₁, hq, harr⟩ := hw b (.inLoop c :: k) cs
      cases e with
      | normal => exact hq.elim
      | exit id => exact ⟨_, a₁, w₁, hq, .pass (x := .inLoop c) rfl (fun _ _ => .inl (by simp)) harr⟩
      | goto l => exact ⟨_, a₁, w₁, hq, .pass (x := .inLoop c) rfl (fun _ _ => .inl (by simp)) harr⟩
      | ret => exact ⟨_, a₁, w₁, hq, .pass (x := .inLoop c) rfl (fun _ _ => .inl (by simp)) harr⟩
      | panic ch => exact ⟨_, a₁, w₁, hq, .pass (x := .inLoop c) rfl (fun _ _ => .inl (by simp)) harr⟩
      | outgrown => exact ⟨_, a₁, w₁, hq, .pass (x := .inLoop c) rfl (fun _ _ => .inl (by simp)) harr⟩
theorem wp_loop_ok {body : St → Option (Ex × St)} {c : Code} (hb : BodyOk P X nt body c) (n : Nat) : BodyOk P X nt (iter body n) (.loop c) := by
  intro st st' ex B w a Q A hi hK b k cs
  obtain ⟨e, a', w', hq, harr⟩ := loop_ok hb n A hi hK b k cs
  exact ⟨e, a', w', hq, .of_steps (.one step_loop) harr⟩
theorem seq_ok {f g : St → Option (Ex × St)} {x y : Code} (hx : BodyOk P X nt f x) (hy : BodyOk P X nt g y) : BodyOk P X nt (fun st => match f st with | some (.normal, st') => g st' | r => r) (.seq x y) := by
  intro st st' ex B w a Q A hi hK
  refine wp_seq ?_
  dsimp only at hi
  split at hi
  · rename_i st1 h1
    exact hx st st1 .normal B w a _ A h1 fun a1 w1 B1 A1 L1 e1 => hy st1 st' ex B1 w1 a1 Q A1 hi (hK.after L1 e1)
  · rename_i hne
    have hne' : ex ≠ .normal := by rintro rfl; exact hne _ hi
    refine hx st st' ex B w a _ A hi fun a1 w1 B1 A1 L1 e1 => ?_
    have := hK a1 w1 B1 A1 L1 e1
    cases ex with
    | normal => exact absurd rfl hne'
    | exit id => exact this
    | ret => exact this
theorem seq_behind {f : St → Option (Ex × St)} {g : St → Option (Ex × St)} {c : Code} (hx : BodyOk P X nt f c)
    (hg : ∀ st st' ex B w a, At X nt st.f (hof st.hp) B w a → g st = some (ex, st') → ex = .normal ∧ At X nt st'.f (hof st'.hp) B w a ∧ Link X (hof st.hp) B w (hof st'.hp) B w ∧ st'.hp.length = st.hp.length) :
    BodyOk P X nt (fun st => match f st with | some (.normal, st') => g st' | r => r) c := by
  intro st st' ex B w a Q A hi hK
  dsimp only at hi
  split at hi
  · rename_i st1 h1
    refine hx st st1 .normal B w a Q A h1 fun a1 w1 B1 A1 L1 e1 => ?_
    obtain ⟨rfl, A2, L2, e2⟩ := hg _ _ _ _ _ _ A1 hi
    exact hK a1 w1 B1 A2 (L1.trans L2) (e2.trans e1)
  · exact hx st st' ex B w a Q A hi hK
theorem seq_before {f : St → Option (Ex × St)} {g : St → Option (Ex × St)} {c : Code} (hx : BodyOk P X nt g c)
    (hf : ∀ st st' ex B w a, At X nt st.f (hof st.hp) B w a → f st = some (ex, st') → ex = .normal ∧ At X nt st'.f (hof st'.hp) B w a ∧ Link X (hof st.hp) B w (hof st'.hp) B w ∧ st'.hp.length = st.hp.length) :
    BodyOk P X nt (fun st => match f st with | some (.normal, st') => g st' | r => r) c := by
  intro st st' ex B w a Q A hi hK
  dsimp only at hi
  split at hi
  · rename_i st1 h1
    obtain ⟨_, A2, L2, e2⟩ := hf _ _ _ _ _ _ A h1
    exact hx st1 st' ex B w a Q A2 hi (hK.after L2 e2)
  · rename_i hne
    obtain ⟨rfl, _⟩ := hf _ _ _ _ _ _ A hi
    exact absurd hi (hne _)
theorem ev_ok (hm : P.follows .mixedOrders = true) (S : Sound P callr) (n : Nat) : ∀ (ir : IR) (c : Code), chkC P nt ir c = true → BodyOk P X nt (ev n callr ir) c := by
  intro ir
  induction ir with
  | skip =>
    intro c hc st st' ex B w a Q A hi hK
    cases c <;> simp only [chkC, Bool.false_eq_true] at hc
    simp only [ev, Option.some.injEq, Prod.mk.injEq] at hi
    obtain ⟨rfl, rfl⟩ := hi
    exact wp_skip (hK a w B A (.refl _ _ _ _) rfl)
  | reg iis =>
    intro c hc st st' ex B w a Q A hi hK
    cases c <;> try (simp only [chkC, Bool.false_eq_true] at hc)
    rename_i id ops draw
    cases draw with
    | true => exact absurd (show false = true from hc) (by decide)
    | false =>
      replace hc : opsOk P nt ops ops.toList iis = true := hc
      simp only [ev, Option.map_eq_some_iff, Prod.mk.injEq] at hi
      obtain ⟨st1, h1, rfl, rfl⟩ := hi
      obtain ⟨k1, k2⟩ := opsOk_spec hc
      exact reg_seq S A (by simpa using k1) (fun i o I ho hI => k2 i o I (by simpa using ho) hI) h1 hK
  | drw h un iis =>
    intro c hc st st' ex B w a Q A hi hK
    cases c <;> try (simp only [chkC, Bool.false_eq_true] at hc)
    rename_i id ops draw
    cases draw with
    | false => exact absurd (show false = true from hc) (by decide)
    | true =>
      replace hc : regChk P nt ops h un iis = true := hc
      simp only [ev, Option.bind_eq_some_iff, Option.map_eq_some_iff, Prod.mk.injEq] at hi
      obtain ⟨stf, h0, st1, h1, rfl, rfl⟩ := hi
      exact reg_drw hm (regChk_spec hc) S A h0 h1 hK
  | seq x y ihx ihy =>
    intro c hc
    have hk : ∀ l os, BodyOk P X nt (ev n callr x) c → BodyOk P X nt (ev n callr (.seq x (.keep l os))) c := by
      intro l os hx
      exact seq_behind (g := ev n callr (.keep l os)) hx fun st st' ex B w a A hi => by
        simp only [ev, Option.map_eq_some_iff, Prod.mk.injEq] at hi
        obtain ⟨st1, h1, rfl, rfl⟩ := hi
        exact ⟨rfl, keep_ok A h1⟩
    have hf : ∀ s, BodyOk P X nt (ev n callr y) c → BodyOk P X nt (ev n callr (.seq (.frz s) y)) c := by
      intro s hy
      exact seq_before (f := ev n callr (.frz s)) hy fun st st' ex B w a A hi => by
        simp only [ev, Option.map_eq_some_iff, Prod.mk.injEq] at hi
        obtain ⟨st1, h1, rfl, rfl⟩ := hi
        exact ⟨rfl, frz_ok A h1⟩
    unfold chkC at hc
    split at hc
    · exact hk _ _ (ihx c hc)
    · split at hc
      · exact hf _ (ihy c hc)
      · split at hc
        · simp only [Bool.and_eq_true] at hc
          exact seq_ok (ihx _ hc.1) (ihy _ hc.2)
        · cases hc
  | cond k x y ihx ihy =>
    intro c hc st st' ex B w a Q A hi hK
    cases c <;> simp only [chkC, Bool.false_eq_true] at hc
    simp only [Bool.and_eq_true] at hc
    simp only [ev] at hi
    split at hi
    · rename_i t hk
      have hv := rd_bool (opd_d A.fr hc.1 hk)
      refine wp_cond hv ?_
      cases t with
      | true => exact ihx _ hc.2.1 st st' ex B w a Q A (by simpa using hi) hK
      | false => exact ihy _ hc.2.2 st st' ex B w a Q A (by simpa using hi) hK
    · cases hi
  | block id x ihx =>
    intro c hc st st' ex B w a Q A hi hK
    cases c <;> simp only [chkC, Bool.false_eq_true] at hc
    simp only [Bool.and_eq_true, beq_iff_eq] at hc
    obtain ⟨rfl, hc⟩ := hc
    refine wp_block ?_
    simp only [ev] at hi
    split at hi
    · rename_i j st1 h1
      simp only [Option.some.injEq, Prod.mk.injEq] at hi
      obtain ⟨rfl, rfl⟩ := hi
      refine ihx _ hc st st1 (.exit j) B w a _ A h1 fun a1 w1 B1 A1 L1 e1 => ?_
      have := hK a1 w1 B1 A1 L1 e1
      simp only [exOf, Exit.inBlock]
      split
      · rename_i hj; simpa [hj, exOf] using this
      · rename_i hj; simpa [hj, exOf] using this
    · rename_i hne
      refine ihx _ hc st st' ex B w a _ A hi fun a1 w1 B1 A1 L1 e1 => ?_
      have := hK a1 w1 B1 A1 L1 e1
      cases ex with
      | normal => exact this
      | exit j => exact absurd hi (hne j st')
      | ret => exact this
  | loop x ihx =>
    intro c hc
    cases c <;> simp only [chkC, Bool.false_eq_true] at hc
    exact wp_loop_ok (ihx _ hc) n
  | exit id =>
    intro c hc st st' ex B w a Q A hi hK
    cases c <;> simp only [chkC, Bool.false_eq_true] at hc
    simp only [beq_iff_eq] at hc
    subst hc
    simp only [ev, Option.some.injEq, Prod.mk.injEq] at hi
    obtain ⟨rfl, rfl⟩ := hi
    exact wp_exit (hK a w B A (.refl _ _ _ _) rfl)
  | ret =>
    intro c hc st st' ex B w a Q A hi hK
    cases c <;> simp only [chkC, Bool.false_eq_true] at hc
    simp only [ev, Option.some.injEq, Prod.mk.injEq] at hi
    obtain ⟨rfl, rfl⟩ := hi
    exact wp_ret (hK a w B A (.refl _ _ _ _) rfl)
  | keep l os => intro c hc; cases c <;> simp [chkC] at hc
  | frz s => intro c hc; cases c <;> simp [chkC] at hc
  | back s d b _ => intro c hc; cases c <;> simp [chkC] at hc
end
end Go.Proofs.YtgmphfmoonbfpaaMv

namespace Go.Proofs.YtgmphfmoonbfpaaMv
open Go
section
variable [Dfs] {P : Program} {X : Nat → Prop} {t : List (Nat × Ob)} {hp : HL} {B : Gh} {w : World}
omit [Dfs] in
theorem forb_down (H : HRel X (hof (t :: hp)) B w) {s : Nat} {p : Path} {n : Nd} (hn : nd (hof (t :: hp)) 0 s p = some n) (hl : n.live) : ¬ Forb X (hof hp) (gdown B) (B 0 s p) := by
  rintro (⟨u, s', p', n', a1, a2, a3⟩ | hX)
  · rw [← nd_hof_succ t] at a1
    have := H.inj _ _ _ _ _ _ _ _ a1 a2 hn hl a3
    omega
  · exact H.apart _ ⟨0, s, p, n, hn, hl, rfl⟩ hX
omit [Dfs] in
theorem retV_ok (H : HRel X (hof (t :: hp)) B w) {v v' : V} {x : Value} (hv : RV X (hof (t :: hp)) B w v x) (hr : retV (hof (t :: hp)) v = some v') : RV X (hof hp) (gdown B) w v' x := by
  obtain ⟨D1, D2, D3⟩ := rel_down H
  unfold retV at hr
  split at hr
  · rename_i s p off n
    simp only [Option.bind_eq_some_iff] at hr
    obtain ⟨r, ⟨ob, hob, hrow⟩, hr⟩ := hr
    split at hr
    · rename_i hle
      simp only [Option.map_eq_some_iff] at hr
      obtain ⟨es, hes, rfl⟩ := hr
      obtain ⟨r', hr', _, hh⟩ := hv
      have hnr := nd_of_row? hob hrow
      rw [hnr] at hr'
      injection hr' with hr'; injection hr' with hr'; subst hr'
      have := fz_row H (fun x v => D2.rd) 0 s (SizeOf.sizeOf r.es + 1) r p x off n es (by omega) hnr (fun q' nn hq hl => forb_down H hq hl) hh hle hes
      exact .of1 this.1
    · cases hr
  · rename_i nn
    simp only [Option.some.injEq] at hr
    subst hr
    obtain ⟨ad, rfl, h2⟩ := hv
    refine .of1 ?_
    cases ad with
    | none => subst h2; exact .slnil
    | some ad =>
      subst h2
      exact .sl true [] ad 0 0 (fun _ _ => undef) (.inl rfl) (Nat.le_refl _) (fun cs hcs => by cases hcs) (fun i j d hd => by simp [dAt] at hd) (fun i j d hd => by simp [dAt] at hd) (fun i j d hd => by simp [dAt] at hd) (fun i j d hd => by simp [dAt] at hd)
  · split at hr
    · rename_i hall
      simp only [Option.some.injEq] at hr
      subst hr
      have hroot : ∀ y ∈ v.roots, y.1 ≠ 0 := fun y hy => by
        have := List.all_eq_true.1 hall y hy
        simpa using this
      have hl : ∀ {vs : List V} {arr : Array Value}, (∀ y ∈ vs.filterMap V.root, y.1 ≠ 0) → RVs X (hof (t :: hp)) B w vs arr → RVs X (hof hp) (gdown B) w (vs.map V.down1) arr := by
        intro vs arr hr ⟨k1, k2⟩
        refine ⟨by simpa using k1, fun i v x hv hx => ?_⟩
        simp only [List.getElem?_map, Option.map_eq_some_iff] at hv
        obtain ⟨v0, hv0, rfl⟩ := hv
        exact D3 v0 x (k2 i v0 x hv0 hx) fun u s hus => hr (u, s) (List.mem_filterMap.2 ⟨v0, List.mem_of_getElem? hv0, hus⟩)
      cases v with
      | fn g vs => obtain ⟨arr, k1, k2⟩ := hv; exact ⟨arr, k1, hl hroot k2⟩
      | agg vs => obtain ⟨arr, k1, k2, k3⟩ := hv; exact ⟨arr, k1, hl hroot k2, k3⟩
      | tup vs => obtain ⟨arr, k1, k2⟩ := hv; exact ⟨arr, k1, hl hroot k2⟩
      | d d => exact .of1 (D3 (.d d) _ hv fun u s hus => by cases hus)
      | ip cs o => exact .of1 (D3 (.ip cs o) _ hv fun u s hus => by cases hus)
      | z nn => exact hv
      | bad => exact .of1 trivial
      | und => exact .of1 hv
      | ptr u s p e o => exact .of1 (D3 (.ptr u s p e o) _ hv fun u' s' hus => by injection hus with hus; injection hus with h1 h2; subst h1; exact hroot (u, s) (by simp [V.roots, V.root]))
      | msl u s p e o => exact .of1 (D3 (.msl u s p e o) _ hv fun u' s' hus => by injection hus with hus; injection hus with h1 h2; subst h1; exact hroot (u, s) (by simp [V.roots, V.root]))
      | mp u s at_ => exact .of1 (D3 (.mp u s at_) _ hv fun u' s' hus => by injection hus with hus; injection hus with h1 h2; subst h1; exact hroot (u, s) (by simp [V.roots, V.root]))
    · cases hr
def resOk (P : Program) : ResultVar → IRes → Bool
  | .tmp t, .tmp s => t == s
  | .cell a ty, .cell s n => a == s && (aggIs P ty && sizeIs P ty n)
  | .cell a ty, .cell1 s => a == s && plainIs P ty
  | _, _ => false
def runRes (tmps : Array Value) : ResultVar → Sem Value
  | .tmp t => pure (tmps.getD t undef)
  | .cell a t => do loadVar t (← asAddr (tmps.getD a undef))
omit [Dfs] in
theorem cell_leaves (H : HRel X (hof (t :: hp)) B w) {s : Nat} {p : Path} {r : Row} {e o : Nat} {c : C} {d : D} (hr : nd (hof (t :: hp)) 0 s p = some (.row r)) (hc : cellAt r.es e o = some c) (hf : fzC c = some d) :
    ∃ v, w.cell? ⟨B 0 s p, e * r.sz + o, none⟩ = some v ∧ RD w (Forb X (hof hp) (gdown B)) d v ∧ v.oneCell' = true := by
  obtain ⟨D1, D2, D3⟩ := rel_down H
  obtain ⟨v, h1, h2⟩ := cell_of H hr hc
  exact ⟨v, h1, fz_cell H (fun x v => D2.rd) hr hc h2 (fun q' nn hq hl => forb_down H hq hl) hf⟩
theorem resI_ok {nt : Nat} {a : Act} {st : St} (A : At X nt st.f (hof st.hp) B w a) (hhp : st.hp = t :: hp) {rv : ResultVar} {ir : IRes} (hc : resOk P rv ir = true) {v : V} (hr : resI st ir = some v) :
    ∃ cv, (runRes a.tmps rv).run P w = .ok cv w ∧ RV X (hof hp) (gdown B) w v cv := by
  rw [hhp] at A
  unfold resOk at hc
  split at hc
  · rename_i t0 s0
    have hts : t0 = s0 := by simpa using hc
    subst hts
    simp only [resI, hhp] at hr
    exact ⟨_, rfl, retV_ok A.hr (A.fr t0) hr⟩
  · rename_i a0 ty s0 n
    simp only [Bool.and_eq_true, beq_iff_eq] at hc
    obtain ⟨rfl, hag, hsz⟩ := hc
    have hagg := run_isAgg_true hag w
    have hsiz := run_sizeOf hsz w
    simp only [resI, hhp] at hr
    split at hr
    · rename_i s p e o hv
      simp only [Option.bind_eq_some_iff] at hr
      obtain ⟨r, ⟨ob, hob, hrow⟩, cs, hcs, hr⟩ := hr
      split at hr
      · rename_i hle
        simp only [Option.map_eq_some_iff] at hr
        obtain ⟨ds, hds, rfl⟩ := hr
        have hnr := nd_of_row? hob hrow
        have hF := A.fr a0
        rw [hv] at hF
        obtain ⟨r', hr', _, hx⟩ := hF
        rw [hnr] at hr'
        injection hr' with hr'; injection hr' with hr'; subst hr'
        obtain ⟨g1, g2⟩ := fzCs_get hds
        have hlen : ds.length = n := by rw [g1]; simp; omega
        have hg : ∀ j d, ds[j]? = some d → ∃ v, w.cell? ⟨B 0 s p, e * r.sz + o + j, none⟩ = some v ∧ RD w (Forb X (hof hp) (gdown B)) d v ∧ v.oneCell' = true := by
          intro j d hd
          obtain ⟨c, k1, k2⟩ := g2 j d hd
          have hj : j < n := by have := (List.getElem?_eq_some_iff.1 hd).1; omega
          rw [List.getElem?_take_of_lt hj, List.getElem?_drop] at k1
          have hcell : cellAt r.es e (o + j) = some c := by simp [cellAt, hcs, k1]
          have := cell_leaves A.hr hnr hcell k2
          rwa [← Nat.add_assoc] at this
        let vs := (List.range n).map fun j => ((w.cell? ⟨B 0 s p, e * r.sz + o + j, none⟩).getD undef)
        have hvs : ∀ j v, vs[j]? = some v → j < n ∧ v = ((w.cell? ⟨B 0 s p, e * r.sz + o + j, none⟩).getD undef) := by
          intro j v hj
          simp only [vs, List.getElem?_map, Option.map_eq_some_iff] at hj
          obtain ⟨i, hi, rfl⟩ := hj
          obtain ⟨h1, h2⟩ := List.getElem?_eq_some_iff.1 hi
          simp at h1 h2
          exact ⟨h1, by rw [← h2]⟩
        have hload := run_loadCells_list (P := P) w ⟨B 0 s p, e * r.sz + o, none⟩ vs (fun j v hj => by
          obtain ⟨h1, h2⟩ := hvs j v hj
          obtain ⟨v', h3, _⟩ := hg j ds[j] (List.getElem?_eq_getElem (by omega))
          rw [add_at, h3, h2, h3]; rfl)
        have hvl : vs.length = n := by simp [vs]
        rw [hvl] at hload
        refine ⟨.agg vs.toArray, ?_, .of1 (rd_cells (by omega) fun j d v hd hj => ?_)⟩
        · simp [runRes, hx, asAddr, loadVar, hagg, hsiz, hload]
        · obtain ⟨h1, h2⟩ := hvs j v hj
          obtain ⟨v', h3, h4, h5⟩ := hg j d hd
          rw [h2, h3]
          exact ⟨h4, h5⟩
      · cases hr
    · cases hr
  · rename_i a0 ty s0
    simp only [Bool.and_eq_true, beq_iff_eq] at hc
    obtain ⟨rfl, hpl⟩ := hc
    have hagg := run_isAgg_false hpl w
    simp only [resI, hhp] at hr
    split at hr
    · rename_i s p e o hv
      simp only [Option.bind_eq_some_iff, Option.map_eq_some_iff] at hr
      obtain ⟨r, ⟨ob, hob, hrow⟩, c, hcell, d, hd, rfl⟩ := hr
      have hnr := nd_of_row? hob hrow
      have hF := A.fr a0
      rw [hv] at hF
      obtain ⟨r', hr', _, hx⟩ := hF
      rw [hnr] at hr'
      injection hr' with hr'; injection hr' with hr'; subst hr'
      obtain ⟨v, h1, h2, h3⟩ := cell_leaves A.hr hnr hcell hd
      refine ⟨v, ?_, .of1 h2⟩
      simp [runRes, hx, asAddr, loadVar, hagg, load, Sem.run, h1]
    · cases hr
  · cases hc
end
end Go.Proofs.YtgmphfmoonbfpaaMv

namespace Go.Proofs.YtgmphfmoonbfpaaMv
open Go
def resAll (P : Program) : List ResultVar → List IRes → Bool
  | [], [] => true
  | r :: rs, i :: is => resOk P r i && resAll P rs is
  | _, _ => false
def fnChk (P : Program) (g : FuncId) (fn : IFn) : Bool :=
  match P.funcs[g]? with
  | some f => (match f.body with
    | some c => f.name != "runtime.NumGoroutine" && (chkC P f.ntmps fn.body c && resAll P f.results.toList fn.res)
    | none => false)
  | none => false
instance dfs0 : Dfs := ⟨[]⟩
section
variable {P : Program} {X : Nat → Prop} {t : List (Nat × Ob)} {hp : HL} {B : Gh} {w : World}
theorem resIs_ok {nt : Nat} {a : Act} {st : St} (A : At X nt st.f (hof st.hp) B w a) (hhp : st.hp = t :: hp) : ∀ {rvs : List ResultVar} {irs : List IRes} {vs : List V}, resAll P rvs irs = true → resIs st irs = some vs →
    ∃ cvs : List Value, (rvs.mapM (runRes a.tmps)).run P w = .ok cvs w ∧ cvs.length = vs.length ∧ ∀ (i : Nat) v x, vs[i]? = some v → cvs[i]? = some x → RV X (hof hp) (gdown B) w v x
  | [], [], vs, _, h => by
    simp only [resIs, Option.some.injEq] at h
    subst h
    exact ⟨[], by simp, rfl, fun i v x hv => by simp at hv⟩
  | r :: rs, i :: is, vs, hc, h => by
    simp only [resAll, Bool.and_eq_true] at hc
    simp only [resIs, Option.bind_eq_some_iff, Option.map_eq_some_iff] at h
    obtain ⟨v, hv, vs', hvs, rfl⟩ := h
    obtain ⟨cv, k1, k2⟩ := resI_ok A hhp hc.1 hv
    obtain ⟨cvs, m1, m2, m3⟩ := resIs_ok A hhp hc.2 hvs
    refine ⟨cv :: cvs, by simp [List.mapM_cons, k1, m1], by simp [m2], fun j v' x hv' hx => ?_⟩
    cases j with
    | zero => simp at hv' hx; subst hv'; subst hx; exact k2
    | succ j => exact m3 j v' x (by simpa using hv') (by simpa using hx)
  | [], _ :: _, vs, hc, _ => by simp [resAll] at hc
  | _ :: _, [], vs, hc, _ => by simp [resAll] at hc
theorem look_args : ∀ (vs : List V) (k t : Nat), look (argsFr k vs) t = if k ≤ t then (vs[t - k]?).map V.up else none
  | [], k, t => by simp [argsFr, look]
  | v :: vs, k, t => by
    simp only [argsFr, look, beq_iff_eq]
    rw [look_args vs (k + 1) t]
    by_cases h1 : k = t
    · subst h1; simp
    · by_cases h2 : k ≤ t
      · rw [if_neg h1, if_pos (by omega), if_pos h2, show t - k = (t - (k + 1)) + 1 by omega]; simp
      · rw [if_neg h1, if_neg (by omega), if_neg h2]
theorem start_at {vs : List V} {args : Array Value} {nt : Nat} (H : HRel X (hof hp) B w) (hv : RVL X (hof hp) B w vs args) :
    At X nt (St.f { fr := argsFr 0 vs, hp := [] :: hp }) (hof ([] :: hp)) (gup B) w { tmps := args ++ Array.replicate (nt - args.size) undef, defers := [] } := by
  refine ⟨rel_up H, fun t => ?_, by simp; omega, rfl⟩
  simp only [St.f, look_args, Nat.zero_le, if_true, Nat.sub_zero]
  cases hx : vs[t]? with
  | none => exact .of1 trivial
  | some v =>
    have hlt := (List.getElem?_eq_some_iff.1 hx).1
    have ht : t < args.size := by rw [hv.1]; exact hlt
    have hax : args[t]? = some args[t] := Array.getElem?_eq_getElem ht
    have : (args ++ Array.replicate (nt - args.size) undef).getD t undef = args[t] := by
      rw [Array.getD_eq_getD_getElem?, Array.getElem?_append_left ht, hax]; rfl
    rw [this]
    exact rv_up (hv.2 t v _ hx hax)
theorem up1_sh1_down1 {v : V} (ha : v.atom = true) : (v.up1.sh1).down1 = v.sh1 := by
  cases v with
  | ptr u s p e o => cases p <;> rfl
  | msl u s p off n => cases p <;> rfl
  | mp u s a => cases a <;> rfl
  | fn f vs => cases ha
  | agg vs => cases ha
  | tup vs => cases ha
  | _ => rfl
theorem up1_hi {v : V} (ha : v.atom = true) : v.up1.hi := by
  intro y hy
  cases v <;> simp [V.up1, V.roots, V.root] at hy <;> simp [hy]
theorem end_after {hp' : HL} {B1 : Gh} {w1 : World} (H : HRel X (hof hp) B w) (H1 : HRel X (hof (t :: hp')) B1 w1) (L : Link X (hof ([] :: hp)) (gup B) w (hof (t :: hp')) B1 w1) (hl : (t :: hp').length = ([] :: hp : HL).length) : After X hp B w hp' (gdown B1) w1 := by
  obtain ⟨D1, D2, D3⟩ := rel_down H1
  refine ⟨D1, fun v x hv => ?_, ?_, by simpa using hl⟩
  · have ha := hv.atom
    have h1 := L.rv _ _ (rv1_up hv) (up1_hi ha)
    have h2 := D3 _ _ h1 fun u s hr => sh1_hi (up1_hi ha) (u, s) (by
      have hat := sh1_atom _ (rv1_up hv).atom
      generalize v.up1.sh1 = z at hr hat
      cases z <;> simp [V.roots, V.root, V.atom] at hr hat ⊢ <;> simp [hr])
    rwa [up1_sh1_down1 ha] at h2
  · have hO : Own (hof ([] :: hp)) (gup B) = Own (hof hp) B := by
      funext b; exact propext own_up
    have := L.stp.trans D2
    rwa [hO] at this
def outC : List Value → Value
  | [v] => v
  | vs => .tuple vs.toArray
theorem out_ok {h : Hp} {B : Gh} {vs : List V} {cvs : List Value} (hl : cvs.length = vs.length) (hr : ∀ (i : Nat) v x, vs[i]? = some v → cvs[i]? = some x → RV X h B w v x) {v : V} (ho : outV vs = some v) :
    RV X h B w v (outC cvs) := by
  have key : ∀ (vs : List V) (cvs : List Value), cvs.length = vs.length → (∀ (i : Nat) v x, vs[i]? = some v → cvs[i]? = some x → RV X h B w v x) → vs.all V.atom = true → RV X h B w (.tup vs) (.tuple cvs.toArray) := by
    intro vs cvs hl hr ha
    refine ⟨cvs.toArray, rfl, by simpa using hl, fun i v x hv hx => (hr i v x hv (by simpa using hx)).to1 ?_⟩
    exact List.all_eq_true.1 ha v (List.mem_of_getElem? hv)
  match vs, cvs, hl, hr, ho with
  | [v1], [cv], _, hr, ho =>
    simp only [outV, Option.some.injEq] at ho
    subst ho
    exact hr 0 _ cv rfl rfl
  | [], [], hl, hr, ho =>
    simp only [outV, List.all_nil, if_true, Option.some.injEq] at ho
    subst ho
    exact key [] [] rfl hr rfl
  | v1 :: v2 :: r, c1 :: c2 :: cr, hl, hr, ho =>
    simp only [outV] at ho
    split at ho
    · rename_i ha
      simp only [Option.some.injEq] at ho
      subst ho
      exact key _ _ hl hr ha
    · cases ho
  | [], _ :: _, hl, _, _ => simp at hl
  | [_], [], hl, _, _ => simp at hl
  | [_], _ :: _ :: _, hl, _, _ => simp at hl
  | _ :: _ :: _, [], hl, _, _ => simp at hl
  | _ :: _ :: _, [_], hl, _, _ => simp at hl
def ExtOk (P : Program) (ext : FuncId → List V → Option V) (fns : FuncId → Option IFn) : Prop :=
  ∀ g vs v, fns g = none → ext g vs = some v → ∀ X hp B w args, HRel X (hof hp) B w → RVL X (hof hp) B w vs args → FnOk P g args w fun cv w' => ∃ B', After X hp B w hp B' w' ∧ RV X (hof hp) B' w' v cv
theorem results_ok {fn : Func} {tmps : Array Value} {cvs : List Value} (h : (fn.results.toList.mapM (runRes tmps)).run P w = .ok cvs w) : (results fn tmps).run P w = .ok (outC cvs) w := by
  have h2 : (fn.results.mapM (runRes tmps)).run P w = .ok cvs.toArray w := by
    rw [Array.mapM_eq_mapM_toList]
    simp [h]
  have h3 : (results fn tmps).run P w = ((fn.results.mapM (runRes tmps)).run P w).andThen fun vs w => (pure (if h : vs.size = 1 then vs[0] else .tuple vs) : Sem Value).run P w := by
    unfold results
    rw [Sem.run_bind]
    rfl
  rw [h3, h2]
  match cvs with
  | [] => rfl
  | [v] => rfl
  | v :: u :: r => simp [outC]
def GoodFn (P : Program) (p : Pg) (g : FuncId) (n : Nat) : Prop := ∀ vs hp v hp', run p (n + 1) g vs hp = some (v, hp') → ∀ X B w args, HRel X (hof hp) B w → RVL X (hof hp) B w vs args →
  (callFunc g args).run P w = .ok (.enter g args) w ∧ Calls P g args w fun e w'' => ∃ cv, e = .returned cv ∧ ∃ B', After X hp B w hp' B' w'' ∧ RV X (hof hp') B' w'' v cv
theorem good_of_chk (hm : P.follows .mixedOrders = true) {p : Pg} {n : Nat} (ih : Sound P (run p n)) {g : FuncId} {fn : IFn} (hfn : p.fns g = some fn) (hchk : fnChk P g fn = true) : GoodFn P p g n := by
  intro vs hp v hp' h X B w args H hv
  simp only [run, hfn] at h
  unfold fnChk at hchk
  split at hchk
  · rename_i f hfun
    split at hchk
    · rename_i c hbody
      simp only [Bool.and_eq_true, bne_iff_ne, ne_eq] at hchk
      obtain ⟨hname, hc, hres⟩ := hchk
      have hrun : (callFunc g args).run P w = .ok (.enter g args) w := by
        simp [callFunc, program, Sem.run, hfun, hname, hbody]
      refine ⟨hrun, ?_⟩
      have key : ∀ ex st, ev n (run p n) fn.body { fr := argsFr 0 vs, hp := [] :: hp } = some (ex, st) → (∀ id, ex ≠ .exit id) → ∀ rs, resIs st fn.res = some rs → ∀ t hp1, st.hp = t :: hp1 → outV rs = some v → hp' = hp1 →
          Calls P g args w fun e w'' => ∃ cv, e = .returned cv ∧ ∃ B', After X hp B w hp' B' w'' ∧ RV X (hof hp') B' w'' v cv := by
        intro ex st hev hne rs hrs t hp1 hst hvv hhp
        subst hhp
        refine calls_of_wp hfun hbody ?_
        refine ev_ok hm ih n fn.body c hc _ _ ex (gup B) w _ _ (start_at H hv) hev fun a' w' B' A' L' e' => ?_
        have hpost : a'.defers = [] ∧ ∃ cv, (results f a'.tmps).run P w' = .ok cv w' ∧ ∃ cv', Ending.returned cv = .returned cv' ∧ ∃ B'', After X hp B w hp' B'' w' ∧ RV X (hof hp') B'' w' v cv' := by
          obtain ⟨cvs, k1, k2, k3⟩ := resIs_ok A' hst hres hrs
          have A2 := A'.hr
          rw [hst] at A2 L' e'
          have hAf := end_after H A2 L' e'
          refine ⟨A'.df, _, results_ok k1, _, rfl, gdown B', hAf, ?_⟩
          exact out_ok k2 k3 hvv
        cases ex with
        | normal => exact hpost
        | ret => exact hpost
        | exit id => exact absurd rfl (hne id)
      split at h
      · cases h
      · rename_i ex st hne hev
        simp only [Option.bind_eq_some_iff] at h
        obtain ⟨rs, hrs, h⟩ := h
        split at h
        · rename_i t hp1 hst
          simp only [Option.map_eq_some_iff, Prod.mk.injEq] at h
          obtain ⟨v', ho, rfl, rfl⟩ := h
          exact key ex st hev (fun id hid => hne id (by rw [hid])) rs hrs t hp1 hst ho rfl
        · cases h
      · cases h
    · cases hchk
  · cases hchk
theorem run_ok (hm : P.follows .mixedOrders = true) (p : Pg) (hf : ∀ g fn, p.fns g = some fn → fnChk P g fn = true ∨ ∀ n, Sound P (run p n) → GoodFn P p g n) (hx : ExtOk P p.ext p.fns) : ∀ n, Sound P (run p n) := by
  intro n
  induction n with
  | zero => intro g vs hp v hp' h; simp [run] at h
  | succ n ih =>
    intro g vs hp v hp' h X B w args H hv
    cases hfn : p.fns g with
    | some fn =>
      have hg : GoodFn P p g n := by
        rcases hf g fn hfn with h1 | h1
        · exact good_of_chk hm ih hfn h1
        · exact h1 n ih
      obtain ⟨hrun, hc⟩ := hg vs hp v hp' h X B w args H hv
      intro o a next Q hn
      rw [hrun, Oper.upon_enter]
      refine Calls.mono hc (fun e w'' he => by
        obtain ⟨cv, rfl, hh⟩ := he
        exact hn cv w'' hh)
    | none =>
      simp only [run, hfn, Option.map_eq_some_iff, Prod.mk.injEq] at h
      obtain ⟨v', h1, rfl, rfl⟩ := h
      exact hx g vs v' hfn h1 X hp B w args H hv
theorem good_calls (hm : P.follows .mixedOrders = true) {p : Pg} (hf : ∀ g fn, p.fns g = some fn → fnChk P g fn = true ∨ ∀ n, Sound P (run p n) → GoodFn P p g n) (hx : ExtOk P p.ext p.fns) {g : FuncId} {fn : IFn} (hfn : p.fns g = some fn) (n : Nat) : GoodFn P p g n := by
  rcases hf g fn hfn with h1 | h1
  · exact good_of_chk hm (run_ok hm p hf hx n) hfn h1
  · exact h1 n (run_ok hm p hf hx n)
end
end Go.Proofs.YtgmphfmoonbfpaaMv
