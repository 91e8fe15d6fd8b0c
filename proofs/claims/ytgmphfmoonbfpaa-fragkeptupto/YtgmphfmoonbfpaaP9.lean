/- Part 9 of the proof. -/
import Derived.Test.YtgmphfmoonbfpaaP8
import Derived.ReadAgain
import Derived.WalkKit
import Derived.ProofKit
import Derived.OpenShut
import Derived.JoinedCond
set_option linter.unusedVariables false
set_option linter.unusedSimpArgs false
set_option maxRecDepth 100000
namespace Go.Proofs.YtgmphfmoonbfpaaMv
open Go
end Go.Proofs.YtgmphfmoonbfpaaMv

namespace Go.Proofs.YtgmphfmoonbfpaaMv
open Go
theorem Lp.count {p : Pg} {b : IR} {id n : Nat} {S : Nat → St} {T : St} (h : ∀ i, i < n → Ev p b (S i) .normal (S (i + 1))) (hT : Ev p b (S n) (.exit id) T) : Lp p b (S 0) (.exit id) T := by
  suffices H : ∀ k i, n - i = k → i ≤ n → Lp p b (S i) (.exit id) T from H n 0 (by omega) (Nat.zero_le _)
  intro k
  induction k with
  | zero =>
    intro i hi hle
    have : i = n := by omega
    subst this
    exact Lp.exit hT
  | succ k ih =>
    intro i hi hle
    exact Lp.next (h i (by omega)) (ih (i + 1) (by omega) (by omega))
def simL {α : Type} (R : α → α → Prop) (aa bs : List α) : Prop := aa.length = bs.length ∧ ∀ (i : Nat) a b, aa[i]? = some a → bs[i]? = some b → R a b
theorem simL.nil {α : Type} {R : α → α → Prop} : simL R [] [] := ⟨rfl, by simp⟩
theorem simL.get {α : Type} {R : α → α → Prop} {aa bs : List α} (h : simL R aa bs) {i : Nat} {a : α} (ha : aa[i]? = some a) : ∃ b, bs[i]? = some b ∧ R a b := by
  have hi := (List.getElem?_eq_some_iff.1 ha).1
  have hib : i < bs.length := by rw [← h.1]; exact hi
  have hb : bs[i]? = some bs[i] := List.getElem?_eq_getElem hib
  exact ⟨_, hb, h.2 i _ _ ha hb⟩
structure TPce.sim (a b : TPce) : Prop where
  kind : a.kind = b.kind
  file : a.file = b.file
  line : a.line = b.line
  name : a.l.name = b.l.name
  opers : a.l.opers.l = b.l.opers.l
  v : a.v = b.v
  size : a.size = b.size
  bytes : a.b.l = b.b.l
  align : a.align = b.align
structure TPrt.sim (a b : TPrt) : Prop where
  name : a.name = b.name
  file : a.file = b.file
  line : a.line = b.line
  pieces : simL TPce.sim a.pieces.l b.pieces.l
structure TUnt.sim (a b : TUnt) : Prop where
  parts : simL TPrt.sim a.parts.l b.parts.l
  marks : a.marks.l = b.marks.l
  globals : a.globals.l = b.globals.l
end Go.Proofs.YtgmphfmoonbfpaaMv

namespace Go.Proofs.YtgmphfmoonbfpaaMv
open Go
def TPce.er (x : TPce) : TPce := { x with l := ⟨x.l.name, ⟨false, x.l.opers.l⟩⟩, b := ⟨false, x.b.l⟩ }
def OPrt.er (p : OPrt) : OPrt := { p with pieces := p.pieces.map TPce.er }
def Ms.er (m : Ms) : Ms := { m with parts := m.parts.map OPrt.er }
end Go.Proofs.YtgmphfmoonbfpaaMv

set_option maxRecDepth 100000
namespace Go.Proofs.YtgmphfmoonbfpaaMv
open Go
end Go.Proofs.YtgmphfmoonbfpaaMv

namespace Go.Proofs.YtgmphfmoonbfpaaMv
open Go
theorem t7 (m : Nat) : run pg (m + 40) 7 [] [] = some (.d (.bool true), []) := by kernel_rfl
theorem f7 : Rn pg 7 [] [] (.d (.bool true)) [] := ⟨40, fun m hm => by
  obtain ⟨k, rfl⟩ := Nat.exists_eq_add_of_le hm
  rw [Nat.add_comm]
  exact t7 k⟩
end Go.Proofs.YtgmphfmoonbfpaaMv

namespace Go.Proofs.YtgmphfmoonbfpaaMv
open Go
theorem le_one (r : Bool) : ∀ (rs : List TRow) (m : Ms) (k : Nat), m.le k → (rs.foldl (Ms.rowM r) m).le (k + wts rs)
  | [], m, k, h => h
  | x :: rs, m, k, h => by
    rw [List.foldl_cons, wts_cons]
    exact (le_one r rs _ _ (m.le_row h r x)).mono (by omega)
structure rowsOk (rs : Sl TRow) : Prop where
  opers : ∀ x ∈ rs.l, x.s.line.opers.l.length < 2 ^ 30 ∧ x.s.bytes.l.length < 2 ^ 30
  wt : wts rs.l < 2 ^ 28
  len : rs.l.length < 2 ^ 28
end Go.Proofs.YtgmphfmoonbfpaaMv

set_option maxRecDepth 100000
namespace Go.Proofs.YtgmphfmoonbfpaaMv
open Go Go.ChangeShapes Go.WideShapes Go.ChangeAt Go.RowKit
theorem carryAll {H : Type} {enc : TypeId × Value → H} {P : Program} {w w' : World} {base : Nat} {spare : Nat → Bool} {held : Bool} : ∀ {ts : List TypeId} {vs : List Value} {ds : List (DataW H)} {ps : List MemPlace}, DataW.TrodAll enc P w base spare held ts vs ds ps → (∀ p ∈ ps, w.sameAt w' p) → DataW.TrodAll enc P w' base spare held ts vs ds ps
  | [], [], [], _, h, _ => h
  | _ :: _, _ :: _, _ :: _, _, ⟨p, q, ⟨n, h1⟩, h2, e⟩, hs => ⟨p, q, ⟨n, DataW.trod_carry n _ _ _ h1 (fun x hx => hs x (by rw [e]; exact List.mem_append_left _ hx))⟩, carryAll h2 (fun x hx => hs x (by rw [e]; exact List.mem_append_right _ hx)), e⟩
structure Lay (w w' : World) : Prop where
  os : w'.os = w.os
  output : w'.output = w.output
  size : w.heap.size ≤ w'.heap.size
  keep : ∀ b, b < w.heap.size → w'.heap[b]? = w.heap[b]?
theorem Lay.sameAt {w w' : World} (L : Lay w w') {p : MemPlace} (hp : p.block < w.heap.size) : w.sameAt w' p := by
  cases p with
  | cell b off =>
    show w'.cell? _ = w.cell? _
    unfold World.cell?
    simp only [L.keep b hp]
  | map b => exact L.keep b hp
theorem Lay.kept {w w' : World} (L : Lay w w') (may : MemPlace → Prop) : w.keptBut w' may := by
  refine ⟨L.os, L.output, fun i hi => ?_⟩
  rw [L.keep i hi]
  cases h : w.heap[i]? with
  | none => simp
  | some o => cases o <;> simp
theorem Lay.frozen {w w' : World} (L : Lay w w') {a : Addr} (ha : a.block < w.heap.size) : w'.frozen? a = w.frozen? a := by
  unfold World.frozen?
  rw [L.keep _ ha]
theorem kidsP : Kids Go.Proofs.Try.prog (· < Go.Proofs.Try.prog.types.size) := kids_rows (by kernel_rfl) (by kernel_rfl)
theorem fullP : ∀ t e, t < Go.Proofs.Try.prog.types.size → Go.Proofs.Try.prog.underlying t = some (.slice e) → 0 < Go.Proofs.Try.prog.cellsOf e := slices_full_of _ (by kernel_rfl)
theorem post_true {H : Type} {enc : TypeId × Value → H} {f : Func} {s : ChangeSpec} {apart fresh handsOn again : Bool} {W W' : World} {args : Array Value} {ds gs : List (DataW H)} {before : List MemPlace} {tb : TypeId}
    (hW : DataW.Whole enc Go.Proofs.Try.prog f.params.toList s.vars apart W args.toList ds gs before) (hvars : s.vars = []) (hrt : f.resultTypes = #[tb]) (hb : Go.Proofs.Try.prog.underlying tb = some .bool)
    (hpar : ∀ t ∈ f.params.toList, t < Go.Proofs.Try.prog.types.size) (hfn : s.fn H (ds ++ gs) = { results := [.lit (.bool true)], args := ds }) (L : Lay W W') :
    s.post enc Go.Proofs.Try.prog f apart fresh handsOn again W args (.bool true) W' := by
  have hlt := hW.lt
  have hW0 := hW
  obtain ⟨p, q, hA, hV, hbf, hz, hn⟩ := hW0
  rw [hvars] at hV
  obtain ⟨rfl, rfl⟩ := trodVars_none hV
  have hbf' : before = p := by simpa using hbf
  subst hbf'
  have hargs : ∀ sp : Nat → Bool, (∀ p ∈ before, sp p.block = true) → DataW.TrodAll enc Go.Proofs.Try.prog W' 0 sp true f.params.toList args.toList ds before :=
    fun sp hsp => carryAll (DataW.TrodAll.respare kidsP fullP hpar hA hsp) (fun x hx => L.sameAt (hlt x hx))
  have hres : ∀ (b : Nat) (sp : Nat → Bool) (hd : Bool), DataW.TrodAll enc Go.Proofs.Try.prog W' b sp hd f.resultTypes.toList ((Value.bool true).resultList f.resultTypes.size) [.lit (.bool true)] [] := by
    intro b sp hd
    rw [hrt]
    exact trodAll_cons_mk (shut_bool hb true) trodAll_mk0
  have hvs : ∀ sp : Nat → Bool, DataW.TrodVars enc Go.Proofs.Try.prog W' sp s.vars [] [] := by
    intro sp; rw [hvars]; rfl
  refine ⟨ds, [], before, [], before, [], hW, ?_, ?_, ?_, World.keptBut_mono (fun p hp => ⟨hp, .inr (.inl hp)⟩) (L.kept (· ∈ before)), fun _ => ?_⟩
  · rw [hfn]; exact hres _ _ _
  · rw [hfn]; exact hargs _ (fun p hp => by simpa using hlt p hp)
  · rw [hfn]; exact hvs _
  · refine ⟨ok_one hrt rfl (okWide_bool_mk hb true), _, _, ([] ++ before) ++ [], ⟨[] ++ before, [], trodAll_append (hargs _ (fun _ _ => rfl)) (hres _ _ _), hvs _, rfl, ?_, ?_⟩, ?_⟩
    · intro b off hp
      have hmem : MemPlace.cell b off ∈ before := by simpa using hp
      rw [L.frozen (hlt _ hmem)]
      exact hz b off (by simpa using hmem)
    · intro ha
      have := hn ha
      simpa using this
    · intro x hx _
      simpa using hx
theorem len_sums {α : Type} {wt : α → Nat} (h : ∀ x, 1 ≤ wt x) : ∀ l : List α, l.length ≤ sums wt l
  | [] => Nat.zero_le _
  | x :: l => by
    have h1 := len_sums h l
    have h2 := h x
    simp only [sums, List.map_cons, List.sum_cons, List.length_cons] at *
    omega
theorem mem_sums {α : Type} {wt : α → Nat} {x : α} : ∀ {l : List α}, x ∈ l → wt x ≤ sums wt l
  | y :: l, h => by
    simp only [sums, List.map_cons, List.sum_cons]
    rcases List.mem_cons.1 h with rfl | h
    · omega
    · have := mem_sums (wt := wt) h
      simp only [sums] at this
      omega
theorem sums_mul {α : Type} {f g : α → Nat} {k : Nat} (h : ∀ x, f x ≤ k * g x) : ∀ l : List α, sums f l ≤ k * sums g l
  | [] => by simp [sums]
  | x :: l => by
    have h1 := sums_mul h l
    have h2 := h x
    simp only [sums, List.map_cons, List.sum_cons, Nat.mul_add] at *
    omega
theorem TOpr.w1 (x : TOpr) : 1 ≤ x.w := by unfold TOpr.w; omega
theorem TVal.w1 (x : TVal) : 1 ≤ x.w := by unfold TVal.w; omega
theorem wstr1 (x : List UInt8) : 1 ≤ wstr x := by unfold wstr; omega
theorem TLin.w_opers (x : TLin) : x.opers.l.length < x.w := by
  have := len_sums TOpr.w1 x.opers.l
  simp only [TLin.w]; omega
theorem TStm.w_all (x : TStm) : x.line.opers.l.length < x.w ∧ x.bytes.l.length < x.w ∧ x.labels.l.length + x.names.l.length + x.values.l.length + 2 ≤ x.w := by
  have h1 := x.line.w_opers
  have h2 := len_sums (wt := fun _ : UInt8 => 1) (fun _ => Nat.le_refl _) x.bytes.l
  have h3 := len_sums wstr1 x.labels.l
  have h4 := len_sums wstr1 x.names.l
  have h5 := len_sums TVal.w1 x.values.l
  simp only [TStm.w]
  refine ⟨by omega, by omega, by omega⟩
theorem TRow.w_wt (x : TRow) : x.wt ≤ 2 * x.w ∧ 1 ≤ x.w ∧ x.s.w ≤ x.w := by
  have h := x.s.w_all
  simp only [TRow.wt, TStm.wt, TRow.w]
  refine ⟨by omega, by omega, by omega⟩
theorem rowsOk_of {rs : Sl TRow} (h : sums TRow.w rs.l ≤ 1048576) : rowsOk rs := by
  refine ⟨fun x hx => ?_, ?_, ?_⟩
  · have h1 := mem_sums (wt := TRow.w) hx
    have h2 := x.w_wt
    have h3 := x.s.w_all
    omega
  · have h1 := sums_mul (f := TRow.wt) (g := TRow.w) (k := 2) (fun x => x.w_wt.1) rs.l
    have : wts rs.l = sums TRow.wt rs.l := rfl
    omega
  · have h1 := len_sums (wt := TRow.w) (fun x => x.w_wt.2.1) rs.l
    omega
end Go.Proofs.YtgmphfmoonbfpaaMv

set_option maxRecDepth 100000
namespace Go.Proofs.YtgmphfmoonbfpaaMv
open Go Go.ChangeShapes Go.WideShapes Go.ChangeAt Go.RowKit
open Go.Proofs.Ytgmphfmoonbfpaa
theorem forb0 : Forb (fun _ => False) (hof ([] : HL)) (fun _ _ _ => 0) = fun _ => False := by
  funext b
  apply propext
  constructor
  · rintro (⟨u, s, p, n, h, _⟩ | h)
    · simp [nd, hof] at h
    · exact h
  · exact fun h => h.elim
theorem hrel0 (w : World) : HRel (fun _ => False) (hof ([] : HL)) (fun _ _ _ => 0) w := by
  refine ⟨fun u s p n h => ?_, fun u s p n u' s' p' n' h => ?_, fun b h => h.elim, fun b _ h => h⟩
  · simp [nd, hof] at h
  · simp [nd, hof] at h
theorem rv_of_one {w : World} {d : D} {v : Value} (h : Cs w [d] [v]) : RV (fun _ => False) (hof ([] : HL)) (fun _ _ _ => 0) w (.d d) v := by
  refine RV.of1 ?_
  show RD w (Forb _ _ _) d v
  rw [forb0]
  exact (h.2 0 d v rfl rfl).1
theorem calls_true {g : FuncId} {fn : IFn} (hfn : pg.fns g = some fn) {vs : List V} {args : Array Value} {W : World} (hv : RVL (fun _ => False) (hof ([] : HL)) (fun _ _ _ => 0) W vs args) (h : Rn pg g vs [] (.d (.bool true)) []) :
    Calls Go.Proofs.Try.prog g args W fun e W' => e = .returned (.bool true) ∧ Lay W W' := by
  obtain ⟨n, hn⟩ := h
  refine Calls.mono (pg_calls hfn n vs [] _ [] (hn (n + 1) (by omega)) _ _ W args (hrel0 W) hv).2 fun e W' he => ?_
  obtain ⟨cv, rfl, B', A, hr⟩ := he
  have hcv : cv = .bool true := by
    have := hr.to1 rfl
    cases this
    rfl
  subst hcv
  refine ⟨rfl, A.stp.os, A.stp.output, A.stp.size, fun b hb => A.stp.keep b hb ?_⟩
  rintro ⟨u, s, p, m, h, _⟩
  simp [nd, hof] at h
theorem own : ownKnob Try.prog.godebug = none := by kernel_rfl
end Go.Proofs.YtgmphfmoonbfpaaMv

namespace Go.Proofs.YtgmphfmoonbfpaaMv
open Go
def icc (n : Int) : List C := [C.d (D.int .i64 n)]
structure JU where
  parts : List OPrt
  marks : List TMrk
  globals : List TTld
  deriving DecidableEq, Inhabited
structure JP where
  ps : List OPrt
  a7 : List Int
  a8 : List Int
  deriving DecidableEq, Inhabited
def TPce.cln (x : TPce) : TPce := { x with l := ⟨x.l.name, x.l.opers.cl⟩, b := x.b.cl }
def OPrt.addAll (p : OPrt) (l : List TPce) : OPrt := { p with pieces := p.pieces ++ l }
def TPrt.new (p : TPrt) : OPrt := ⟨p.name, p.file, p.line, []⟩
def ensure (ps : List OPrt) (p : TPrt) : List OPrt := match idxGo p.name 0 ps with
  | some _ => ps
  | none => ps ++ [p.new]
def pidx (ps : List OPrt) (p : TPrt) : Nat := (idxGo p.name 0 ps).getD ps.length
def plenAt (ps : List OPrt) (q : Nat) : Nat := ((ps[q]?).map (·.pieces.length)).getD 0
def JP.step (j : JP) (p : TPrt) : JP :=
  ⟨(ensure j.ps p).modify (pidx j.ps p) (·.addAll (p.pieces.l.map TPce.cln)), j.a7 ++ [(pidx j.ps p : Int)], j.a8 ++ [(plenAt (ensure j.ps p) (pidx j.ps p) : Int)]⟩
def markJ (a7 a8 : List Int) (x : TMrk) : TMrk :=
  if 0 ≤ x.part ∧ x.part < (a7.length : Int) then { x with part := (a7[x.part.toNat]?).getD 0, piece := IntKind.i64.wrap (x.piece + (a8[x.part.toNat]?).getD 0) } else { x with part := -1, piece := 0 }
def JU.join (j : JU) (u : TUnt) : JU :=
  let q := u.parts.l.foldl JP.step ⟨j.parts, [], []⟩
  ⟨q.ps, j.marks ++ u.marks.l.map (markJ q.a7 q.a8), j.globals ++ u.globals.l⟩
def joinM (us : List TUnt) : JU := us.foldl JU.join ⟨[], [], []⟩
def JU.unt (m : JU) : TUnt := ⟨⟨false, m.parts.map OPrt.t⟩, ⟨false, m.marks⟩, ⟨false, m.globals⟩⟩
def TPrt.wt (p : TPrt) : Nat := p.pieces.l.length + 1
def TUnt.wt (u : TUnt) : Nat := (u.parts.l.map TPrt.wt).sum + u.marks.l.length + u.globals.l.length
def TPce.ok (x : TPce) : Prop := x.l.opers.l.length < 2 ^ 30 ∧ x.b.l.length < 2 ^ 30
def TUnt.ok (u : TUnt) : Prop := ∀ p ∈ u.parts.l, ∀ x ∈ p.pieces.l, x.ok
theorem pidx_lt (ps : List OPrt) (p : TPrt) : pidx ps p < (ensure ps p).length := by
  unfold pidx ensure
  cases h : idxGo p.name 0 ps with
  | none => simp
  | some k =>
    obtain ⟨_, h2, _⟩ := idxGo_lt _ _ _ _ h
    simpa using h2
theorem JP.len7 (l : List TPrt) : ∀ j : JP, (l.foldl JP.step j).a7.length = j.a7.length + l.length := by
  induction l with
  | nil => intro j; rfl
  | cons p l ih => intro j; rw [List.foldl_cons, ih]; simp [JP.step]; omega
theorem JP.len8 (l : List TPrt) : ∀ j : JP, (l.foldl JP.step j).a8.length = j.a8.length + l.length := by
  induction l with
  | nil => intro j; rfl
  | cons p l ih => intro j; rw [List.foldl_cons, ih]; simp [JP.step]; omega
structure psLe (ps : List OPrt) (k : Nat) : Prop where
  len : ps.length ≤ k
  pieces : ∀ p ∈ ps, p.pieces.length ≤ k
theorem psLe.mono {ps : List OPrt} {k k' : Nat} (h : psLe ps k) (hk : k ≤ k') : psLe ps k' := ⟨Nat.le_trans h.len hk, fun p hp => Nat.le_trans (h.pieces p hp) hk⟩
theorem psLe.ens {ps : List OPrt} {k : Nat} (h : psLe ps k) (p : TPrt) : psLe (ensure ps p) (k + 1) := by
  unfold ensure
  split
  · exact h.mono (by omega)
  · refine ⟨by simp [h.len], fun q hq => ?_⟩
    simp only [List.mem_append, List.mem_singleton] at hq
    rcases hq with hq | rfl
    · exact Nat.le_succ_of_le (h.pieces q hq)
    · simp [TPrt.new]
theorem psLe.step {j : JP} {k : Nat} (h : psLe j.ps k) (p : TPrt) : psLe (j.step p).ps (k + p.wt) := by
  have he := h.ens p
  refine ⟨by simp only [JP.step, List.length_modify]; exact Nat.le_trans he.len (by simp [TPrt.wt]), fun q hq => ?_⟩
  obtain ⟨i, hi, rfl⟩ := List.mem_iff_getElem.1 hq
  simp only [JP.step, List.length_modify] at hi
  have hi2 := he.pieces _ (List.getElem_mem hi)
  simp only [JP.step, List.getElem_modify]
  split
  · simp [OPrt.addAll, TPrt.wt]; omega
  · simp only [TPrt.wt]; omega
theorem psLe.fold : ∀ (l : List TPrt) (j : JP) (k : Nat), psLe j.ps k → psLe (l.foldl JP.step j).ps (k + (l.map TPrt.wt).sum)
  | [], j, k, h => h
  | p :: l, j, k, h => by
    rw [List.foldl_cons, List.map_cons, List.sum_cons, ← Nat.add_assoc]
    exact psLe.fold l _ _ (h.step p)
end Go.Proofs.YtgmphfmoonbfpaaMv

set_option maxRecDepth 100000
namespace Go.Proofs.YtgmphfmoonbfpaaMv
open Go
theorem w16a_0 (un : Bool) (us : List TUnt) (i : Nat) (x : TUnt) (ps : List OPrt) (ms : List TMrk) (gs : List TTld) (n7 : Nat) (n8 : Nat) (o7 : Ob) (o8 : Ob) (o17 : Ob) (k : Nat) (q : Nat) (y : TPrt) (h : Nat) (hp : HL)
    (c0 : (decide (((h : Nat) : Int) < ((y.pieces.l.length : Nat) : Int))) = false) :
    Ev pg i16_l4 ⟨[(2, V.ptr 0 2 [] 0 0), (3, V.ptr 0 3 [] 0 0), (4, V.mp 0 17 none), (6, V.ptr 0 6 [] 0 0), (7, V.msl 0 7 [] 0 n7), (8, V.msl 0 8 [] 0 n8), (11, V.d (D.int .i64 ((q : Nat) : Int))), (18, V.d (D.sl un (us.map TUnt.c))), (19, V.d (D.int .i64 ((us.length : Nat) : Int))), (20, V.d (D.int .i64 ((i : Nat) : Int))), (25, V.d (D.sl x.parts.nn (x.parts.l.map TPrt.c))), (26, V.d (D.int .i64 ((x.parts.l.length : Nat) : Int))), (27, V.d (D.int .i64 ((k : Nat) : Int))), (74, V.d (D.sl y.pieces.nn (y.pieces.l.map TPce.c))), (75, V.d (D.int .i64 ((y.pieces.l.length : Nat) : Int))), (76, V.d (D.int .i64 ((h : Nat) : Int)))], [(2, Ob.row true 3 true [[C.d (D.sl false []), C.d (D.sl false []), C.d (D.sl false [])]]), (3, Ob.row true 3 true [[C.own 4 false (ps.map OPrt.oc), C.own 9 false (ms.map TMrk.oc), C.own 3 false (gs.map TTld.oc)]]), (6, Ob.row true 3 true [[C.d (D.sl x.parts.nn (x.parts.l.map TPrt.c)), C.d (D.sl x.marks.nn (x.marks.l.map TMrk.c)), C.d (D.sl x.globals.nn (x.globals.l.map TTld.c))]]), (7, o7), (8, o8), (17, o17)] :: hp⟩ (.exit 4) ⟨[(2, V.ptr 0 2 [] 0 0), (3, V.ptr 0 3 [] 0 0), (4, V.mp 0 17 none), (6, V.ptr 0 6 [] 0 0), (7, V.msl 0 7 [] 0 n7), (8, V.msl 0 8 [] 0 n8), (11, V.d (D.int .i64 ((q : Nat) : Int))), (18, V.d (D.sl un (us.map TUnt.c))), (19, V.d (D.int .i64 ((us.length : Nat) : Int))), (20, V.d (D.int .i64 ((i : Nat) : Int))), (25, V.d (D.sl x.parts.nn (x.parts.l.map TPrt.c))), (26, V.d (D.int .i64 ((x.parts.l.length : Nat) : Int))), (27, V.d (D.int .i64 ((k : Nat) : Int))), (74, V.d (D.sl y.pieces.nn (y.pieces.l.map TPce.c))), (75, V.d (D.int .i64 ((y.pieces.l.length : Nat) : Int))), (76, V.d (D.int .i64 ((h : Nat) : Int))), (77, V.d (D.bool false))], [(2, Ob.row true 3 true [[C.d (D.sl false []), C.d (D.sl false []), C.d (D.sl false [])]]), (3, Ob.row true 3 true [[C.own 4 false (ps.map OPrt.oc), C.own 9 false (ms.map TMrk.oc), C.own 3 false (gs.map TTld.oc)]]), (6, Ob.row true 3 true [[C.d (D.sl x.parts.nn (x.parts.l.map TPrt.c)), C.d (D.sl x.marks.nn (x.marks.l.map TMrk.c)), C.d (D.sl x.globals.nn (x.globals.l.map TTld.c))]]), (7, o7), (8, o8), (17, o17)] :: hp⟩ :=
  by
  have r : Ev pg i16_l4 ⟨[(2, V.ptr 0 2 [] 0 0), (3, V.ptr 0 3 [] 0 0), (4, V.mp 0 17 none), (6, V.ptr 0 6 [] 0 0), (7, V.msl 0 7 [] 0 n7), (8, V.msl 0 8 [] 0 n8), (11, V.d (D.int .i64 ((q : Nat) : Int))), (18, V.d (D.sl un (us.map TUnt.c))), (19, V.d (D.int .i64 ((us.length : Nat) : Int))), (20, V.d (D.int .i64 ((i : Nat) : Int))), (25, V.d (D.sl x.parts.nn (x.parts.l.map TPrt.c))), (26, V.d (D.int .i64 ((x.parts.l.length : Nat) : Int))), (27, V.d (D.int .i64 ((k : Nat) : Int))), (74, V.d (D.sl y.pieces.nn (y.pieces.l.map TPce.c))), (75, V.d (D.int .i64 ((y.pieces.l.length : Nat) : Int))), (76, V.d (D.int .i64 ((h : Nat) : Int)))], [(2, Ob.row true 3 true [[C.d (D.sl false []), C.d (D.sl false []), C.d (D.sl false [])]]), (3, Ob.row true 3 true [[C.own 4 false (ps.map OPrt.oc), C.own 9 false (ms.map TMrk.oc), C.own 3 false (gs.map TTld.oc)]]), (6, Ob.row true 3 true [[C.d (D.sl x.parts.nn (x.parts.l.map TPrt.c)), C.d (D.sl x.marks.nn (x.marks.l.map TMrk.c)), C.d (D.sl x.globals.nn (x.globals.l.map TTld.c))]]), (7, o7), (8, o8), (17, o17)] :: hp⟩ (.exit 4) ⟨[(2, V.ptr 0 2 [] 0 0), (3, V.ptr 0 3 [] 0 0), (4, V.mp 0 17 none), (6, V.ptr 0 6 [] 0 0), (7, V.msl 0 7 [] 0 n7), (8, V.msl 0 8 [] 0 n8), (11, V.d (D.int .i64 ((q : Nat) : Int))), (18, V.d (D.sl un (us.map TUnt.c))), (19, V.d (D.int .i64 ((us.length : Nat) : Int))), (20, V.d (D.int .i64 ((i : Nat) : Int))), (25, V.d (D.sl x.parts.nn (x.parts.l.map TPrt.c))), (26, V.d (D.int .i64 ((x.parts.l.length : Nat) : Int))), (27, V.d (D.int .i64 ((k : Nat) : Int))), (74, V.d (D.sl y.pieces.nn (y.pieces.l.map TPce.c))), (75, V.d (D.int .i64 ((y.pieces.l.length : Nat) : Int))), (76, V.d (D.int .i64 ((h : Nat) : Int))), (77, V.d (D.bool (decide (((h : Nat) : Int) < ((y.pieces.l.length : Nat) : Int)))))], [(2, Ob.row true 3 true [[C.d (D.sl false []), C.d (D.sl false []), C.d (D.sl false [])]]), (3, Ob.row true 3 true [[C.own 4 false (ps.map OPrt.oc), C.own 9 false (ms.map TMrk.oc), C.own 3 false (gs.map TTld.oc)]]), (6, Ob.row true 3 true [[C.d (D.sl x.parts.nn (x.parts.l.map TPrt.c)), C.d (D.sl x.marks.nn (x.marks.l.map TMrk.c)), C.d (D.sl x.globals.nn (x.globals.l.map TTld.c))]]), (7, o7), (8, o8), (17, o17)] :: hp⟩ :=
  codeC_ok (hs := [.b false]) (hs' := []) (cs := [_]) (by kernel_rfl) ⟨c0, trivial⟩
  simp only [c0] at r
  exact r
theorem w16a_1 (un : Bool) (us : List TUnt) (i : Nat) (x : TUnt) (ps : List OPrt) (ms : List TMrk) (gs : List TTld) (n7 : Nat) (n8 : Nat) (o7 : Ob) (o8 : Ob) (o17 : Ob) (k : Nat) (q : Nat) (y : TPrt) (h : Nat) (hp : HL) (x1 : TPce) (p2 : OPrt)
    (c0 : (decide (((h : Nat) : Int) < ((y.pieces.l.length : Nat) : Int))) = true)
    (c1 : (y.pieces.l.map TPce.c)[h]? = some [D.int .i64 x1.kind, D.int .i64 x1.file, D.int .i64 x1.line, D.str x1.l.name, D.sl x1.l.opers.nn (x1.l.opers.l.map TOpr.c), D.int .i64 x1.v.add, D.str x1.v.plus, D.str x1.v.minus, D.int .i64 x1.size, D.sl x1.b.nn (x1.b.l.map u8c), D.int .i64 x1.align])
    (c2 : Rn pg 32 [V.d (D.agg [D.str x1.l.name, D.sl x1.l.opers.nn (x1.l.opers.l.map TOpr.c)])] ([]) (V.d (D.agg [D.str x1.l.name, D.sl x1.l.opers.cl.nn (x1.l.opers.cl.l.map TOpr.c)])) ([]))
    (c3 : Rn pg 33 [V.d (D.sl x1.b.nn (x1.b.l.map u8c))] ([]) (V.d (D.sl x1.b.cl.nn (x1.b.cl.l.map u8c))) ([]))
    (c4 : q < ((ps.map OPrt.oc).length))
    (c5 : cellAt (ps.map OPrt.oc) q 3 = some (C.own 11 false (p2.pieces.map TPce.oc)))
    (c6 : List.all [[D.int .i64 x1.kind, D.int .i64 x1.file, D.int .i64 x1.line, D.str x1.l.name, D.sl x1.l.opers.cl.nn (x1.l.opers.cl.l.map TOpr.c), D.int .i64 x1.v.add, D.str x1.v.plus, D.str x1.v.minus, D.int .i64 x1.size, D.sl x1.b.cl.nn (x1.b.cl.l.map u8c), D.int .i64 x1.align]] (fun x => x.length == 11) = true)
    (c7 : (((p2.pieces.map TPce.oc).length) + 1) * 144 ≤ room)
    (c8 : ((p2.pieces.map TPce.oc) ++ [[C.d (D.int .i64 x1.kind), C.d (D.int .i64 x1.file), C.d (D.int .i64 x1.line), C.d (D.str x1.l.name), C.d (D.sl x1.l.opers.cl.nn (x1.l.opers.cl.l.map TOpr.c)), C.d (D.int .i64 x1.v.add), C.d (D.str x1.v.plus), C.d (D.str x1.v.minus), C.d (D.int .i64 x1.size), C.d (D.sl x1.b.cl.nn (x1.b.cl.l.map u8c)), C.d (D.int .i64 x1.align)]]).length = (((p2.pieces.map TPce.oc).length) + 1))
    (c9 : (setCells (ps.map OPrt.oc) q 3 [C.bad])[q]? = some [C.d (D.str p2.name), C.d (D.int .i64 p2.file), C.d (D.int .i64 p2.line), C.bad]) :
    Ev pg i16_l4 ⟨[(2, V.ptr 0 2 [] 0 0), (3, V.ptr 0 3 [] 0 0), (4, V.mp 0 17 none), (6, V.ptr 0 6 [] 0 0), (7, V.msl 0 7 [] 0 n7), (8, V.msl 0 8 [] 0 n8), (11, V.d (D.int .i64 ((q : Nat) : Int))), (18, V.d (D.sl un (us.map TUnt.c))), (19, V.d (D.int .i64 ((us.length : Nat) : Int))), (20, V.d (D.int .i64 ((i : Nat) : Int))), (25, V.d (D.sl x.parts.nn (x.parts.l.map TPrt.c))), (26, V.d (D.int .i64 ((x.parts.l.length : Nat) : Int))), (27, V.d (D.int .i64 ((k : Nat) : Int))), (74, V.d (D.sl y.pieces.nn (y.pieces.l.map TPce.c))), (75, V.d (D.int .i64 ((y.pieces.l.length : Nat) : Int))), (76, V.d (D.int .i64 ((h : Nat) : Int)))], [(2, Ob.row true 3 true [[C.d (D.sl false []), C.d (D.sl false []), C.d (D.sl false [])]]), (3, Ob.row true 3 true [[C.own 4 false (ps.map OPrt.oc), C.own 9 false (ms.map TMrk.oc), C.own 3 false (gs.map TTld.oc)]]), (6, Ob.row true 3 true [[C.d (D.sl x.parts.nn (x.parts.l.map TPrt.c)), C.d (D.sl x.marks.nn (x.marks.l.map TMrk.c)), C.d (D.sl x.globals.nn (x.globals.l.map TTld.c))]]), (7, o7), (8, o8), (17, o17)] :: hp⟩ .normal ⟨[(2, V.ptr 0 2 [] 0 0), (3, V.ptr 0 3 [] 0 0), (4, V.mp 0 17 none), (6, V.ptr 0 6 [] 0 0), (7, V.msl 0 7 [] 0 n7), (8, V.msl 0 8 [] 0 n8), (11, V.d (D.int .i64 ((q : Nat) : Int))), (18, V.d (D.sl un (us.map TUnt.c))), (19, V.d (D.int .i64 ((us.length : Nat) : Int))), (20, V.d (D.int .i64 ((i : Nat) : Int))), (25, V.d (D.sl x.parts.nn (x.parts.l.map TPrt.c))), (26, V.d (D.int .i64 ((x.parts.l.length : Nat) : Int))), (27, V.d (D.int .i64 ((k : Nat) : Int))), (74, V.d (D.sl y.pieces.nn (y.pieces.l.map TPce.c))), (75, V.d (D.int .i64 ((y.pieces.l.length : Nat) : Int))), (76, V.d (D.int .i64 (IntKind.i64.wrap (((h : Nat) : Int) + 1))))], [(2, Ob.row true 3 true [[C.d (D.sl false []), C.d (D.sl false []), C.d (D.sl false [])]]), (3, Ob.row true 3 true [[C.own 4 false (setCells (setCells (ps.map OPrt.oc) q 3 [C.bad]) q 3 [C.own 11 false ((p2.pieces.map TPce.oc) ++ [[C.d (D.int .i64 x1.kind), C.d (D.int .i64 x1.file), C.d (D.int .i64 x1.line), C.d (D.str x1.l.name), C.d (D.sl x1.l.opers.cl.nn (x1.l.opers.cl.l.map TOpr.c)), C.d (D.int .i64 x1.v.add), C.d (D.str x1.v.plus), C.d (D.str x1.v.minus), C.d (D.int .i64 x1.size), C.d (D.sl x1.b.cl.nn (x1.b.cl.l.map u8c)), C.d (D.int .i64 x1.align)]])]), C.own 9 false (ms.map TMrk.oc), C.own 3 false (gs.map TTld.oc)]]), (6, Ob.row true 3 true [[C.d (D.sl x.parts.nn (x.parts.l.map TPrt.c)), C.d (D.sl x.marks.nn (x.marks.l.map TMrk.c)), C.d (D.sl x.globals.nn (x.globals.l.map TTld.c))]]), (7, o7), (8, o8), (17, o17)] :: hp⟩ :=
  codeC_ok (hs := [.b true, .n h, .ds [D.int .i64 x1.kind, D.int .i64 x1.file, D.int .i64 x1.line, D.str x1.l.name, D.sl x1.l.opers.nn (x1.l.opers.l.map TOpr.c), D.int .i64 x1.v.add, D.str x1.v.plus, D.str x1.v.minus, D.int .i64 x1.size, D.sl x1.b.nn (x1.b.l.map u8c), D.int .i64 x1.align], .call (V.d (D.agg [D.str x1.l.name, D.sl x1.l.opers.cl.nn (x1.l.opers.cl.l.map TOpr.c)])) ([]), .call (V.d (D.sl x1.b.cl.nn (x1.b.cl.l.map u8c))) ([]), .n q, .c (C.own 11 false (p2.pieces.map TPce.oc)), .row false (p2.pieces.map TPce.oc), .n q, .cs [C.d (D.str p2.name), C.d (D.int .i64 p2.file), C.d (D.int .i64 p2.line), C.bad]]) (hs' := []) (cs := [_, ((h : Nat) : Int) = ((h : Nat) : Int), _, _, _, ((q : Nat) : Int) = ((q : Nat) : Int), _, _, _, _, ((p2.pieces.map TPce.oc).length) = (p2.pieces.map TPce.oc).length, _, ((q : Nat) : Int) = ((q : Nat) : Int), _, _, _]) (by kernel_rfl) ⟨c0, rfl, c1, c2, c3, rfl, c4, c5, c6, c5, rfl, c7, rfl, c4, c8, c9, trivial⟩
theorem w16b_0 (un : Bool) (us : List TUnt) (i : Nat) (x : TUnt) (ps : List OPrt) (ms : List TMrk) (gs : List TTld) (as7 : List Int) (as8 : List Int) (k : Nat) (hp : HL)
    (c0 : (decide (((k : Nat) : Int) < ((x.parts.l.length : Nat) : Int))) = false) :
    Ev pg i16_l2 ⟨[(2, V.ptr 0 2 [] 0 0), (3, V.ptr 0 3 [] 0 0), (4, V.mp 0 17 none), (6, V.ptr 0 6 [] 0 0), (7, V.msl 0 7 [] 0 as7.length), (8, V.msl 0 8 [] 0 as8.length), (18, V.d (D.sl un (us.map TUnt.c))), (19, V.d (D.int .i64 ((us.length : Nat) : Int))), (20, V.d (D.int .i64 ((i : Nat) : Int))), (25, V.d (D.sl x.parts.nn (x.parts.l.map TPrt.c))), (26, V.d (D.int .i64 ((x.parts.l.length : Nat) : Int))), (27, V.d (D.int .i64 ((k : Nat) : Int)))], [(2, Ob.row true 3 true [[C.d (D.sl false []), C.d (D.sl false []), C.d (D.sl false [])]]), (3, Ob.row true 3 true [[C.own 4 false (ps.map OPrt.oc), C.own 9 false (ms.map TMrk.oc), C.own 3 false (gs.map TTld.oc)]]), (6, Ob.row true 3 true [[C.d (D.sl x.parts.nn (x.parts.l.map TPrt.c)), C.d (D.sl x.marks.nn (x.marks.l.map TMrk.c)), C.d (D.sl x.globals.nn (x.globals.l.map TTld.c))]]), (7, Ob.row false 1 false (as7.map icc)), (8, Ob.row false 1 false (as8.map icc)), (17, Ob.map (atOf ps))] :: hp⟩ (.exit 2) ⟨[(2, V.ptr 0 2 [] 0 0), (3, V.ptr 0 3 [] 0 0), (4, V.mp 0 17 none), (6, V.ptr 0 6 [] 0 0), (7, V.msl 0 7 [] 0 as7.length), (8, V.msl 0 8 [] 0 as8.length), (18, V.d (D.sl un (us.map TUnt.c))), (19, V.d (D.int .i64 ((us.length : Nat) : Int))), (20, V.d (D.int .i64 ((i : Nat) : Int))), (25, V.d (D.sl x.parts.nn (x.parts.l.map TPrt.c))), (26, V.d (D.int .i64 ((x.parts.l.length : Nat) : Int))), (27, V.d (D.int .i64 ((k : Nat) : Int))), (28, V.d (D.bool false))], [(2, Ob.row true 3 true [[C.d (D.sl false []), C.d (D.sl false []), C.d (D.sl false [])]]), (3, Ob.row true 3 true [[C.own 4 false (ps.map OPrt.oc), C.own 9 false (ms.map TMrk.oc), C.own 3 false (gs.map TTld.oc)]]), (6, Ob.row true 3 true [[C.d (D.sl x.parts.nn (x.parts.l.map TPrt.c)), C.d (D.sl x.marks.nn (x.marks.l.map TMrk.c)), C.d (D.sl x.globals.nn (x.globals.l.map TTld.c))]]), (7, Ob.row false 1 false (as7.map icc)), (8, Ob.row false 1 false (as8.map icc)), (17, Ob.map (atOf ps))] :: hp⟩ :=
  by
  have r : Ev pg i16_l2 ⟨[(2, V.ptr 0 2 [] 0 0), (3, V.ptr 0 3 [] 0 0), (4, V.mp 0 17 none), (6, V.ptr 0 6 [] 0 0), (7, V.msl 0 7 [] 0 as7.length), (8, V.msl 0 8 [] 0 as8.length), (18, V.d (D.sl un (us.map TUnt.c))), (19, V.d (D.int .i64 ((us.length : Nat) : Int))), (20, V.d (D.int .i64 ((i : Nat) : Int))), (25, V.d (D.sl x.parts.nn (x.parts.l.map TPrt.c))), (26, V.d (D.int .i64 ((x.parts.l.length : Nat) : Int))), (27, V.d (D.int .i64 ((k : Nat) : Int)))], [(2, Ob.row true 3 true [[C.d (D.sl false []), C.d (D.sl false []), C.d (D.sl false [])]]), (3, Ob.row true 3 true [[C.own 4 false (ps.map OPrt.oc), C.own 9 false (ms.map TMrk.oc), C.own 3 false (gs.map TTld.oc)]]), (6, Ob.row true 3 true [[C.d (D.sl x.parts.nn (x.parts.l.map TPrt.c)), C.d (D.sl x.marks.nn (x.marks.l.map TMrk.c)), C.d (D.sl x.globals.nn (x.globals.l.map TTld.c))]]), (7, Ob.row false 1 false (as7.map icc)), (8, Ob.row false 1 false (as8.map icc)), (17, Ob.map (atOf ps))] :: hp⟩ (.exit 2) ⟨[(2, V.ptr 0 2 [] 0 0), (3, V.ptr 0 3 [] 0 0), (4, V.mp 0 17 none), (6, V.ptr 0 6 [] 0 0), (7, V.msl 0 7 [] 0 as7.length), (8, V.msl 0 8 [] 0 as8.length), (18, V.d (D.sl un (us.map TUnt.c))), (19, V.d (D.int .i64 ((us.length : Nat) : Int))), (20, V.d (D.int .i64 ((i : Nat) : Int))), (25, V.d (D.sl x.parts.nn (x.parts.l.map TPrt.c))), (26, V.d (D.int .i64 ((x.parts.l.length : Nat) : Int))), (27, V.d (D.int .i64 ((k : Nat) : Int))), (28, V.d (D.bool (decide (((k : Nat) : Int) < ((x.parts.l.length : Nat) : Int)))))], [(2, Ob.row true 3 true [[C.d (D.sl false []), C.d (D.sl false []), C.d (D.sl false [])]]), (3, Ob.row true 3 true [[C.own 4 false (ps.map OPrt.oc), C.own 9 false (ms.map TMrk.oc), C.own 3 false (gs.map TTld.oc)]]), (6, Ob.row true 3 true [[C.d (D.sl x.parts.nn (x.parts.l.map TPrt.c)), C.d (D.sl x.marks.nn (x.marks.l.map TMrk.c)), C.d (D.sl x.globals.nn (x.globals.l.map TTld.c))]]), (7, Ob.row false 1 false (as7.map icc)), (8, Ob.row false 1 false (as8.map icc)), (17, Ob.map (atOf ps))] :: hp⟩ :=
  codeC_ok (hs := [.b false]) (hs' := []) (cs := [_]) (by kernel_rfl) ⟨c0, trivial⟩
  simp only [c0] at r
  exact r
theorem w16b_1 (un : Bool) (us : List TUnt) (i : Nat) (x : TUnt) (ps : List OPrt) (ms : List TMrk) (gs : List TTld) (as7 : List Int) (as8 : List Int) (k : Nat) (hp : HL) (x1 : TPrt) (es2 : List (D × D)) (p3 : OPrt) (ps4 : List OPrt)
    (c0 : (decide (((k : Nat) : Int) < ((x.parts.l.length : Nat) : Int))) = true)
    (c1 : (x.parts.l.map TPrt.c)[k]? = some [D.str x1.name, D.int .i64 x1.file, D.int .i64 x1.line, D.sl x1.pieces.nn (x1.pieces.l.map TPce.c)])
    (c2 : findD false [2] (D.str x1.name) (atOf ps) = some none)
    (c3 : (findD false [2] (D.str x1.name) (atOf ps)).isSome = true)
    (c4 : putD false [2] (D.str x1.name) (D.int .i64 (((ps.map OPrt.oc).length : Nat) : Int)) (atOf ps) = some es2)
    (c5 : List.all [[D.str x1.name, D.int .i64 x1.file, D.int .i64 x1.line, D.sl false []]] (fun x => x.length == 4) = true)
    (c6 : (((ps.map OPrt.oc).length) + 1) * 56 ≤ room)
    (c7 : ((ps.map OPrt.oc) ++ [[C.d (D.str x1.name), C.d (D.int .i64 x1.file), C.d (D.int .i64 x1.line), C.own 11 false []]]).length = (((ps.map OPrt.oc).length) + 1))
    (c8 : List.all [[D.int .i64 (((ps.map OPrt.oc).length : Nat) : Int)]] (fun x => x.length == 1) = true)
    (c9 : as7.length = (as7.map icc).length)
    (c10 : (as7.length + 1) * 8 ≤ room)
    (c11 : ((ps.map OPrt.oc).length) < (((ps.map OPrt.oc) ++ [[C.d (D.str x1.name), C.d (D.int .i64 x1.file), C.d (D.int .i64 x1.line), C.own 11 false []]]).length))
    (c12 : cellAt ((ps.map OPrt.oc) ++ [[C.d (D.str x1.name), C.d (D.int .i64 x1.file), C.d (D.int .i64 x1.line), C.own 11 false []]]) ((ps.map OPrt.oc).length) 3 = some (C.own 11 false (p3.pieces.map TPce.oc)))
    (c13 : List.all [[D.int .i64 (((p3.pieces.map TPce.oc).length : Nat) : Int)]] (fun x => x.length == 1) = true)
    (c14 : as8.length = (as8.map icc).length)
    (c15 : (as8.length + 1) * 8 ≤ room)
    (c16 : Lp pg i16_l4 ⟨[(2, V.ptr 0 2 [] 0 0), (3, V.ptr 0 3 [] 0 0), (4, V.mp 0 17 none), (6, V.ptr 0 6 [] 0 0), (7, V.msl 0 7 [] 0 (as7.length + 1)), (8, V.msl 0 8 [] 0 (as8.length + 1)), (11, V.d (D.int .i64 (((ps.map OPrt.oc).length : Nat) : Int))), (18, V.d (D.sl un (us.map TUnt.c))), (19, V.d (D.int .i64 ((us.length : Nat) : Int))), (20, V.d (D.int .i64 ((i : Nat) : Int))), (25, V.d (D.sl x.parts.nn (x.parts.l.map TPrt.c))), (26, V.d (D.int .i64 ((x.parts.l.length : Nat) : Int))), (27, V.d (D.int .i64 ((k : Nat) : Int))), (74, V.d (D.sl x1.pieces.nn (x1.pieces.l.map TPce.c))), (75, V.d (D.int .i64 (((x1.pieces.l.map TPce.c).length : Nat) : Int))), (76, V.d (D.int .i64 0))], [(2, Ob.row true 3 true [[C.d (D.sl false []), C.d (D.sl false []), C.d (D.sl false [])]]), (3, Ob.row true 3 true [[C.own 4 false ((ps.map OPrt.oc) ++ [[C.d (D.str x1.name), C.d (D.int .i64 x1.file), C.d (D.int .i64 x1.line), C.own 11 false []]]), C.own 9 false (ms.map TMrk.oc), C.own 3 false (gs.map TTld.oc)]]), (6, Ob.row true 3 true [[C.d (D.sl x.parts.nn (x.parts.l.map TPrt.c)), C.d (D.sl x.marks.nn (x.marks.l.map TMrk.c)), C.d (D.sl x.globals.nn (x.globals.l.map TTld.c))]]), (7, Ob.row false 1 false ((as7.map icc) ++ [[C.d (D.int .i64 (((ps.map OPrt.oc).length : Nat) : Int))]])), (8, Ob.row false 1 false ((as8.map icc) ++ [[C.d (D.int .i64 (((p3.pieces.map TPce.oc).length : Nat) : Int))]])), (17, Ob.map es2)] :: hp⟩ (.exit 4) ⟨[(2, V.ptr 0 2 [] 0 0), (3, V.ptr 0 3 [] 0 0), (4, V.mp 0 17 none), (6, V.ptr 0 6 [] 0 0), (7, V.msl 0 7 [] 0 (as7.length + 1)), (8, V.msl 0 8 [] 0 (as8.length + 1)), (11, V.d (D.int .i64 (((ps.map OPrt.oc).length : Nat) : Int))), (18, V.d (D.sl un (us.map TUnt.c))), (19, V.d (D.int .i64 ((us.length : Nat) : Int))), (20, V.d (D.int .i64 ((i : Nat) : Int))), (25, V.d (D.sl x.parts.nn (x.parts.l.map TPrt.c))), (26, V.d (D.int .i64 ((x.parts.l.length : Nat) : Int))), (27, V.d (D.int .i64 ((k : Nat) : Int))), (74, V.d (D.sl x1.pieces.nn (x1.pieces.l.map TPce.c))), (75, V.d (D.int .i64 ((x1.pieces.l.length : Nat) : Int))), (76, V.d (D.int .i64 ((x1.pieces.l.length : Nat) : Int))), (77, V.d (D.bool false))], [(2, Ob.row true 3 true [[C.d (D.sl false []), C.d (D.sl false []), C.d (D.sl false [])]]), (3, Ob.row true 3 true [[C.own 4 false (ps4.map OPrt.oc), C.own 9 false (ms.map TMrk.oc), C.own 3 false (gs.map TTld.oc)]]), (6, Ob.row true 3 true [[C.d (D.sl x.parts.nn (x.parts.l.map TPrt.c)), C.d (D.sl x.marks.nn (x.marks.l.map TMrk.c)), C.d (D.sl x.globals.nn (x.globals.l.map TTld.c))]]), (7, Ob.row false 1 false ((as7.map icc) ++ [[C.d (D.int .i64 (((ps.map OPrt.oc).length : Nat) : Int))]])), (8, Ob.row false 1 false ((as8.map icc) ++ [[C.d (D.int .i64 (((p3.pieces.map TPce.oc).length : Nat) : Int))]])), (17, Ob.map es2)] :: hp⟩) :
    Ev pg i16_l2 ⟨[(2, V.ptr 0 2 [] 0 0), (3, V.ptr 0 3 [] 0 0), (4, V.mp 0 17 none), (6, V.ptr 0 6 [] 0 0), (7, V.msl 0 7 [] 0 as7.length), (8, V.msl 0 8 [] 0 as8.length), (18, V.d (D.sl un (us.map TUnt.c))), (19, V.d (D.int .i64 ((us.length : Nat) : Int))), (20, V.d (D.int .i64 ((i : Nat) : Int))), (25, V.d (D.sl x.parts.nn (x.parts.l.map TPrt.c))), (26, V.d (D.int .i64 ((x.parts.l.length : Nat) : Int))), (27, V.d (D.int .i64 ((k : Nat) : Int)))], [(2, Ob.row true 3 true [[C.d (D.sl false []), C.d (D.sl false []), C.d (D.sl false [])]]), (3, Ob.row true 3 true [[C.own 4 false (ps.map OPrt.oc), C.own 9 false (ms.map TMrk.oc), C.own 3 false (gs.map TTld.oc)]]), (6, Ob.row true 3 true [[C.d (D.sl x.parts.nn (x.parts.l.map TPrt.c)), C.d (D.sl x.marks.nn (x.marks.l.map TMrk.c)), C.d (D.sl x.globals.nn (x.globals.l.map TTld.c))]]), (7, Ob.row false 1 false (as7.map icc)), (8, Ob.row false 1 false (as8.map icc)), (17, Ob.map (atOf ps))] :: hp⟩ .normal ⟨[(2, V.ptr 0 2 [] 0 0), (3, V.ptr 0 3 [] 0 0), (4, V.mp 0 17 none), (6, V.ptr 0 6 [] 0 0), (7, V.msl 0 7 [] 0 (as7.length + 1)), (8, V.msl 0 8 [] 0 (as8.length + 1)), (18, V.d (D.sl un (us.map TUnt.c))), (19, V.d (D.int .i64 ((us.length : Nat) : Int))), (20, V.d (D.int .i64 ((i : Nat) : Int))), (25, V.d (D.sl x.parts.nn (x.parts.l.map TPrt.c))), (26, V.d (D.int .i64 ((x.parts.l.length : Nat) : Int))), (27, V.d (D.int .i64 (IntKind.i64.wrap (((k : Nat) : Int) + 1))))], [(2, Ob.row true 3 true [[C.d (D.sl false []), C.d (D.sl false []), C.d (D.sl false [])]]), (3, Ob.row true 3 true [[C.own 4 false (ps4.map OPrt.oc), C.own 9 false (ms.map TMrk.oc), C.own 3 false (gs.map TTld.oc)]]), (6, Ob.row true 3 true [[C.d (D.sl x.parts.nn (x.parts.l.map TPrt.c)), C.d (D.sl x.marks.nn (x.marks.l.map TMrk.c)), C.d (D.sl x.globals.nn (x.globals.l.map TTld.c))]]), (7, Ob.row false 1 false ((as7.map icc) ++ [[C.d (D.int .i64 (((ps.map OPrt.oc).length : Nat) : Int))]])), (8, Ob.row false 1 false ((as8.map icc) ++ [[C.d (D.int .i64 (((p3.pieces.map TPce.oc).length : Nat) : Int))]])), (17, Ob.map es2)] :: hp⟩ :=
  codeC_ok (hs := [.b true, .n k, .ds [D.str x1.name, D.int .i64 x1.file, D.int .i64 x1.line, D.sl x1.pieces.nn (x1.pieces.l.map TPce.c)], .o none, .b true, .es es2, .n ((ps.map OPrt.oc).length), .c (C.own 11 false (p3.pieces.map TPce.oc)), .lp (.exit 4) ⟨[(2, V.ptr 0 2 [] 0 0), (3, V.ptr 0 3 [] 0 0), (4, V.mp 0 17 none), (6, V.ptr 0 6 [] 0 0), (7, V.msl 0 7 [] 0 (as7.length + 1)), (8, V.msl 0 8 [] 0 (as8.length + 1)), (11, V.d (D.int .i64 (((ps.map OPrt.oc).length : Nat) : Int))), (18, V.d (D.sl un (us.map TUnt.c))), (19, V.d (D.int .i64 ((us.length : Nat) : Int))), (20, V.d (D.int .i64 ((i : Nat) : Int))), (25, V.d (D.sl x.parts.nn (x.parts.l.map TPrt.c))), (26, V.d (D.int .i64 ((x.parts.l.length : Nat) : Int))), (27, V.d (D.int .i64 ((k : Nat) : Int))), (74, V.d (D.sl x1.pieces.nn (x1.pieces.l.map TPce.c))), (75, V.d (D.int .i64 ((x1.pieces.l.length : Nat) : Int))), (76, V.d (D.int .i64 ((x1.pieces.l.length : Nat) : Int))), (77, V.d (D.bool false))], [(2, Ob.row true 3 true [[C.d (D.sl false []), C.d (D.sl false []), C.d (D.sl false [])]]), (3, Ob.row true 3 true [[C.own 4 false (ps4.map OPrt.oc), C.own 9 false (ms.map TMrk.oc), C.own 3 false (gs.map TTld.oc)]]), (6, Ob.row true 3 true [[C.d (D.sl x.parts.nn (x.parts.l.map TPrt.c)), C.d (D.sl x.marks.nn (x.marks.l.map TMrk.c)), C.d (D.sl x.globals.nn (x.globals.l.map TTld.c))]]), (7, Ob.row false 1 false ((as7.map icc) ++ [[C.d (D.int .i64 (((ps.map OPrt.oc).length : Nat) : Int))]])), (8, Ob.row false 1 false ((as8.map icc) ++ [[C.d (D.int .i64 (((p3.pieces.map TPce.oc).length : Nat) : Int))]])), (17, Ob.map es2)] :: hp⟩]) (hs' := []) (cs := [_, ((k : Nat) : Int) = ((k : Nat) : Int), _, _, true = true, _, _, _, ((ps.map OPrt.oc).length) = (ps.map OPrt.oc).length, _, _, _, _, _, (((ps.map OPrt.oc).length : Nat) : Int) = (((ps.map OPrt.oc).length : Nat) : Int), _, _, _, _, _, _]) (by kernel_rfl) ⟨c0, rfl, c1, c2, rfl, c3, c4, c5, rfl, c6, c7, c8, c9, c10, rfl, c11, c12, c13, c14, c15, c16, trivial⟩
theorem w16b_2 (un : Bool) (us : List TUnt) (i : Nat) (x : TUnt) (ps : List OPrt) (ms : List TMrk) (gs : List TTld) (as7 : List Int) (as8 : List Int) (k : Nat) (hp : HL) (x1 : TPrt) (i2 : Nat) (p3 : OPrt) (ps4 : List OPrt)
    (c0 : (decide (((k : Nat) : Int) < ((x.parts.l.length : Nat) : Int))) = true)
    (c1 : (x.parts.l.map TPrt.c)[k]? = some [D.str x1.name, D.int .i64 x1.file, D.int .i64 x1.line, D.sl x1.pieces.nn (x1.pieces.l.map TPce.c)])
    (c2 : findD false [2] (D.str x1.name) (atOf ps) = some (some (D.int .i64 ((i2 : Nat) : Int))))
    (c3 : List.all [[D.int .i64 ((i2 : Nat) : Int)]] (fun x => x.length == 1) = true)
    (c4 : as7.length = (as7.map icc).length)
    (c5 : (as7.length + 1) * 8 ≤ room)
    (c6 : i2 < ((ps.map OPrt.oc).length))
    (c7 : cellAt (ps.map OPrt.oc) i2 3 = some (C.own 11 false (p3.pieces.map TPce.oc)))
    (c8 : List.all [[D.int .i64 (((p3.pieces.map TPce.oc).length : Nat) : Int)]] (fun x => x.length == 1) = true)
    (c9 : as8.length = (as8.map icc).length)
    (c10 : (as8.length + 1) * 8 ≤ room)
    (c11 : Lp pg i16_l4 ⟨[(2, V.ptr 0 2 [] 0 0), (3, V.ptr 0 3 [] 0 0), (4, V.mp 0 17 none), (6, V.ptr 0 6 [] 0 0), (7, V.msl 0 7 [] 0 (as7.length + 1)), (8, V.msl 0 8 [] 0 (as8.length + 1)), (11, V.d (D.int .i64 ((i2 : Nat) : Int))), (18, V.d (D.sl un (us.map TUnt.c))), (19, V.d (D.int .i64 ((us.length : Nat) : Int))), (20, V.d (D.int .i64 ((i : Nat) : Int))), (25, V.d (D.sl x.parts.nn (x.parts.l.map TPrt.c))), (26, V.d (D.int .i64 ((x.parts.l.length : Nat) : Int))), (27, V.d (D.int .i64 ((k : Nat) : Int))), (74, V.d (D.sl x1.pieces.nn (x1.pieces.l.map TPce.c))), (75, V.d (D.int .i64 (((x1.pieces.l.map TPce.c).length : Nat) : Int))), (76, V.d (D.int .i64 0))], [(2, Ob.row true 3 true [[C.d (D.sl false []), C.d (D.sl false []), C.d (D.sl false [])]]), (3, Ob.row true 3 true [[C.own 4 false (ps.map OPrt.oc), C.own 9 false (ms.map TMrk.oc), C.own 3 false (gs.map TTld.oc)]]), (6, Ob.row true 3 true [[C.d (D.sl x.parts.nn (x.parts.l.map TPrt.c)), C.d (D.sl x.marks.nn (x.marks.l.map TMrk.c)), C.d (D.sl x.globals.nn (x.globals.l.map TTld.c))]]), (7, Ob.row false 1 false ((as7.map icc) ++ [[C.d (D.int .i64 ((i2 : Nat) : Int))]])), (8, Ob.row false 1 false ((as8.map icc) ++ [[C.d (D.int .i64 (((p3.pieces.map TPce.oc).length : Nat) : Int))]])), (17, Ob.map (atOf ps))] :: hp⟩ (.exit 4) ⟨[(2, V.ptr 0 2 [] 0 0), (3, V.ptr 0 3 [] 0 0), (4, V.mp 0 17 none), (6, V.ptr 0 6 [] 0 0), (7, V.msl 0 7 [] 0 (as7.length + 1)), (8, V.msl 0 8 [] 0 (as8.length + 1)), (11, V.d (D.int .i64 ((i2 : Nat) : Int))), (18, V.d (D.sl un (us.map TUnt.c))), (19, V.d (D.int .i64 ((us.length : Nat) : Int))), (20, V.d (D.int .i64 ((i : Nat) : Int))), (25, V.d (D.sl x.parts.nn (x.parts.l.map TPrt.c))), (26, V.d (D.int .i64 ((x.parts.l.length : Nat) : Int))), (27, V.d (D.int .i64 ((k : Nat) : Int))), (74, V.d (D.sl x1.pieces.nn (x1.pieces.l.map TPce.c))), (75, V.d (D.int .i64 ((x1.pieces.l.length : Nat) : Int))), (76, V.d (D.int .i64 ((x1.pieces.l.length : Nat) : Int))), (77, V.d (D.bool false))], [(2, Ob.row true 3 true [[C.d (D.sl false []), C.d (D.sl false []), C.d (D.sl false [])]]), (3, Ob.row true 3 true [[C.own 4 false (ps4.map OPrt.oc), C.own 9 false (ms.map TMrk.oc), C.own 3 false (gs.map TTld.oc)]]), (6, Ob.row true 3 true [[C.d (D.sl x.parts.nn (x.parts.l.map TPrt.c)), C.d (D.sl x.marks.nn (x.marks.l.map TMrk.c)), C.d (D.sl x.globals.nn (x.globals.l.map TTld.c))]]), (7, Ob.row false 1 false ((as7.map icc) ++ [[C.d (D.int .i64 ((i2 : Nat) : Int))]])), (8, Ob.row false 1 false ((as8.map icc) ++ [[C.d (D.int .i64 (((p3.pieces.map TPce.oc).length : Nat) : Int))]])), (17, Ob.map (atOf ps))] :: hp⟩) :
    Ev pg i16_l2 ⟨[(2, V.ptr 0 2 [] 0 0), (3, V.ptr 0 3 [] 0 0), (4, V.mp 0 17 none), (6, V.ptr 0 6 [] 0 0), (7, V.msl 0 7 [] 0 as7.length), (8, V.msl 0 8 [] 0 as8.length), (18, V.d (D.sl un (us.map TUnt.c))), (19, V.d (D.int .i64 ((us.length : Nat) : Int))), (20, V.d (D.int .i64 ((i : Nat) : Int))), (25, V.d (D.sl x.parts.nn (x.parts.l.map TPrt.c))), (26, V.d (D.int .i64 ((x.parts.l.length : Nat) : Int))), (27, V.d (D.int .i64 ((k : Nat) : Int)))], [(2, Ob.row true 3 true [[C.d (D.sl false []), C.d (D.sl false []), C.d (D.sl false [])]]), (3, Ob.row true 3 true [[C.own 4 false (ps.map OPrt.oc), C.own 9 false (ms.map TMrk.oc), C.own 3 false (gs.map TTld.oc)]]), (6, Ob.row true 3 true [[C.d (D.sl x.parts.nn (x.parts.l.map TPrt.c)), C.d (D.sl x.marks.nn (x.marks.l.map TMrk.c)), C.d (D.sl x.globals.nn (x.globals.l.map TTld.c))]]), (7, Ob.row false 1 false (as7.map icc)), (8, Ob.row false 1 false (as8.map icc)), (17, Ob.map (atOf ps))] :: hp⟩ .normal ⟨[(2, V.ptr 0 2 [] 0 0), (3, V.ptr 0 3 [] 0 0), (4, V.mp 0 17 none), (6, V.ptr 0 6 [] 0 0), (7, V.msl 0 7 [] 0 (as7.length + 1)), (8, V.msl 0 8 [] 0 (as8.length + 1)), (18, V.d (D.sl un (us.map TUnt.c))), (19, V.d (D.int .i64 ((us.length : Nat) : Int))), (20, V.d (D.int .i64 ((i : Nat) : Int))), (25, V.d (D.sl x.parts.nn (x.parts.l.map TPrt.c))), (26, V.d (D.int .i64 ((x.parts.l.length : Nat) : Int))), (27, V.d (D.int .i64 (IntKind.i64.wrap (((k : Nat) : Int) + 1))))], [(2, Ob.row true 3 true [[C.d (D.sl false []), C.d (D.sl false []), C.d (D.sl false [])]]), (3, Ob.row true 3 true [[C.own 4 false (ps4.map OPrt.oc), C.own 9 false (ms.map TMrk.oc), C.own 3 false (gs.map TTld.oc)]]), (6, Ob.row true 3 true [[C.d (D.sl x.parts.nn (x.parts.l.map TPrt.c)), C.d (D.sl x.marks.nn (x.marks.l.map TMrk.c)), C.d (D.sl x.globals.nn (x.globals.l.map TTld.c))]]), (7, Ob.row false 1 false ((as7.map icc) ++ [[C.d (D.int .i64 ((i2 : Nat) : Int))]])), (8, Ob.row false 1 false ((as8.map icc) ++ [[C.d (D.int .i64 (((p3.pieces.map TPce.oc).length : Nat) : Int))]])), (17, Ob.map (atOf ps))] :: hp⟩ :=
  codeC_ok (hs := [.b true, .n k, .ds [D.str x1.name, D.int .i64 x1.file, D.int .i64 x1.line, D.sl x1.pieces.nn (x1.pieces.l.map TPce.c)], .o (some (D.int .i64 ((i2 : Nat) : Int))), .b false, .n i2, .c (C.own 11 false (p3.pieces.map TPce.oc)), .lp (.exit 4) ⟨[(2, V.ptr 0 2 [] 0 0), (3, V.ptr 0 3 [] 0 0), (4, V.mp 0 17 none), (6, V.ptr 0 6 [] 0 0), (7, V.msl 0 7 [] 0 (as7.length + 1)), (8, V.msl 0 8 [] 0 (as8.length + 1)), (11, V.d (D.int .i64 ((i2 : Nat) : Int))), (18, V.d (D.sl un (us.map TUnt.c))), (19, V.d (D.int .i64 ((us.length : Nat) : Int))), (20, V.d (D.int .i64 ((i : Nat) : Int))), (25, V.d (D.sl x.parts.nn (x.parts.l.map TPrt.c))), (26, V.d (D.int .i64 ((x.parts.l.length : Nat) : Int))), (27, V.d (D.int .i64 ((k : Nat) : Int))), (74, V.d (D.sl x1.pieces.nn (x1.pieces.l.map TPce.c))), (75, V.d (D.int .i64 ((x1.pieces.l.length : Nat) : Int))), (76, V.d (D.int .i64 ((x1.pieces.l.length : Nat) : Int))), (77, V.d (D.bool false))], [(2, Ob.row true 3 true [[C.d (D.sl false []), C.d (D.sl false []), C.d (D.sl false [])]]), (3, Ob.row true 3 true [[C.own 4 false (ps4.map OPrt.oc), C.own 9 false (ms.map TMrk.oc), C.own 3 false (gs.map TTld.oc)]]), (6, Ob.row true 3 true [[C.d (D.sl x.parts.nn (x.parts.l.map TPrt.c)), C.d (D.sl x.marks.nn (x.marks.l.map TMrk.c)), C.d (D.sl x.globals.nn (x.globals.l.map TTld.c))]]), (7, Ob.row false 1 false ((as7.map icc) ++ [[C.d (D.int .i64 ((i2 : Nat) : Int))]])), (8, Ob.row false 1 false ((as8.map icc) ++ [[C.d (D.int .i64 (((p3.pieces.map TPce.oc).length : Nat) : Int))]])), (17, Ob.map (atOf ps))] :: hp⟩]) (hs' := []) (cs := [_, ((k : Nat) : Int) = ((k : Nat) : Int), _, _, false = false, _, _, _, ((i2 : Nat) : Int) = ((i2 : Nat) : Int), _, _, _, _, _, _]) (by kernel_rfl) ⟨c0, rfl, c1, c2, rfl, c3, c4, c5, rfl, c6, c7, c8, c9, c10, c11, trivial⟩
end Go.Proofs.YtgmphfmoonbfpaaMv

set_option maxRecDepth 100000
namespace Go.Proofs.YtgmphfmoonbfpaaMv
open Go
theorem w16c_0 (un : Bool) (us : List TUnt) (i : Nat) (x : TUnt) (ps : List OPrt) (ms : List TMrk) (gs : List TTld) (as7 : List Int) (as8 : List Int) (h : Nat) (hp : HL)
    (c0 : (decide (((h : Nat) : Int) < ((x.marks.l.length : Nat) : Int))) = false) :
    Ev pg i16_l6 ⟨[(2, V.ptr 0 2 [] 0 0), (3, V.ptr 0 3 [] 0 0), (4, V.mp 0 17 none), (6, V.ptr 0 6 [] 0 0), (7, V.msl 0 7 [] 0 as7.length), (8, V.msl 0 8 [] 0 as8.length), (18, V.d (D.sl un (us.map TUnt.c))), (19, V.d (D.int .i64 ((us.length : Nat) : Int))), (20, V.d (D.int .i64 ((i : Nat) : Int))), (105, V.d (D.sl x.marks.nn (x.marks.l.map TMrk.c))), (106, V.d (D.int .i64 ((x.marks.l.length : Nat) : Int))), (107, V.d (D.int .i64 ((h : Nat) : Int)))], [(2, Ob.row true 3 true [[C.d (D.sl false []), C.d (D.sl false []), C.d (D.sl false [])]]), (3, Ob.row true 3 true [[C.own 4 false (ps.map OPrt.oc), C.own 9 false (ms.map TMrk.oc), C.own 3 false (gs.map TTld.oc)]]), (6, Ob.row true 3 true [[C.d (D.sl x.parts.nn (x.parts.l.map TPrt.c)), C.d (D.sl x.marks.nn (x.marks.l.map TMrk.c)), C.d (D.sl x.globals.nn (x.globals.l.map TTld.c))]]), (7, Ob.row false 1 false (as7.map icc)), (8, Ob.row false 1 false (as8.map icc)), (17, Ob.map (atOf ps))] :: hp⟩ (.exit 6) ⟨[(2, V.ptr 0 2 [] 0 0), (3, V.ptr 0 3 [] 0 0), (4, V.mp 0 17 none), (6, V.ptr 0 6 [] 0 0), (7, V.msl 0 7 [] 0 as7.length), (8, V.msl 0 8 [] 0 as8.length), (18, V.d (D.sl un (us.map TUnt.c))), (19, V.d (D.int .i64 ((us.length : Nat) : Int))), (20, V.d (D.int .i64 ((i : Nat) : Int))), (105, V.d (D.sl x.marks.nn (x.marks.l.map TMrk.c))), (106, V.d (D.int .i64 ((x.marks.l.length : Nat) : Int))), (107, V.d (D.int .i64 ((h : Nat) : Int))), (108, V.d (D.bool false))], [(2, Ob.row true 3 true [[C.d (D.sl false []), C.d (D.sl false []), C.d (D.sl false [])]]), (3, Ob.row true 3 true [[C.own 4 false (ps.map OPrt.oc), C.own 9 false (ms.map TMrk.oc), C.own 3 false (gs.map TTld.oc)]]), (6, Ob.row true 3 true [[C.d (D.sl x.parts.nn (x.parts.l.map TPrt.c)), C.d (D.sl x.marks.nn (x.marks.l.map TMrk.c)), C.d (D.sl x.globals.nn (x.globals.l.map TTld.c))]]), (7, Ob.row false 1 false (as7.map icc)), (8, Ob.row false 1 false (as8.map icc)), (17, Ob.map (atOf ps))] :: hp⟩ :=
  by
  have r : Ev pg i16_l6 ⟨[(2, V.ptr 0 2 [] 0 0), (3, V.ptr 0 3 [] 0 0), (4, V.mp 0 17 none), (6, V.ptr 0 6 [] 0 0), (7, V.msl 0 7 [] 0 as7.length), (8, V.msl 0 8 [] 0 as8.length), (18, V.d (D.sl un (us.map TUnt.c))), (19, V.d (D.int .i64 ((us.length : Nat) : Int))), (20, V.d (D.int .i64 ((i : Nat) : Int))), (105, V.d (D.sl x.marks.nn (x.marks.l.map TMrk.c))), (106, V.d (D.int .i64 ((x.marks.l.length : Nat) : Int))), (107, V.d (D.int .i64 ((h : Nat) : Int)))], [(2, Ob.row true 3 true [[C.d (D.sl false []), C.d (D.sl false []), C.d (D.sl false [])]]), (3, Ob.row true 3 true [[C.own 4 false (ps.map OPrt.oc), C.own 9 false (ms.map TMrk.oc), C.own 3 false (gs.map TTld.oc)]]), (6, Ob.row true 3 true [[C.d (D.sl x.parts.nn (x.parts.l.map TPrt.c)), C.d (D.sl x.marks.nn (x.marks.l.map TMrk.c)), C.d (D.sl x.globals.nn (x.globals.l.map TTld.c))]]), (7, Ob.row false 1 false (as7.map icc)), (8, Ob.row false 1 false (as8.map icc)), (17, Ob.map (atOf ps))] :: hp⟩ (.exit 6) ⟨[(2, V.ptr 0 2 [] 0 0), (3, V.ptr 0 3 [] 0 0), (4, V.mp 0 17 none), (6, V.ptr 0 6 [] 0 0), (7, V.msl 0 7 [] 0 as7.length), (8, V.msl 0 8 [] 0 as8.length), (18, V.d (D.sl un (us.map TUnt.c))), (19, V.d (D.int .i64 ((us.length : Nat) : Int))), (20, V.d (D.int .i64 ((i : Nat) : Int))), (105, V.d (D.sl x.marks.nn (x.marks.l.map TMrk.c))), (106, V.d (D.int .i64 ((x.marks.l.length : Nat) : Int))), (107, V.d (D.int .i64 ((h : Nat) : Int))), (108, V.d (D.bool (decide (((h : Nat) : Int) < ((x.marks.l.length : Nat) : Int)))))], [(2, Ob.row true 3 true [[C.d (D.sl false []), C.d (D.sl false []), C.d (D.sl false [])]]), (3, Ob.row true 3 true [[C.own 4 false (ps.map OPrt.oc), C.own 9 false (ms.map TMrk.oc), C.own 3 false (gs.map TTld.oc)]]), (6, Ob.row true 3 true [[C.d (D.sl x.parts.nn (x.parts.l.map TPrt.c)), C.d (D.sl x.marks.nn (x.marks.l.map TMrk.c)), C.d (D.sl x.globals.nn (x.globals.l.map TTld.c))]]), (7, Ob.row false 1 false (as7.map icc)), (8, Ob.row false 1 false (as8.map icc)), (17, Ob.map (atOf ps))] :: hp⟩ :=
  codeC_ok (hs := [.b false]) (hs' := []) (cs := [_]) (by kernel_rfl) ⟨c0, trivial⟩
  simp only [c0] at r
  exact r
theorem w16c_1 (un : Bool) (us : List TUnt) (i : Nat) (x : TUnt) (ps : List OPrt) (ms : List TMrk) (gs : List TTld) (as7 : List Int) (as8 : List Int) (h : Nat) (hp : HL) (x1 : TMrk)
    (c0 : (decide (((h : Nat) : Int) < ((x.marks.l.length : Nat) : Int))) = true)
    (c1 : (x.marks.l.map TMrk.c)[h]? = some [D.str x1.name, D.int .i64 x1.file, D.int .i64 x1.line, D.int .i64 x1.part, D.int .i64 x1.piece, D.bool x1.equ, D.int .i64 x1.v.add, D.str x1.v.plus, D.str x1.v.minus])
    (c2 : (decide (x1.part ≥ 0)) = false)
    (c3 : List.all [[D.str x1.name, D.int .i64 x1.file, D.int .i64 x1.line, D.int .i64 (-1), D.int .i64 0, D.bool x1.equ, D.int .i64 x1.v.add, D.str x1.v.plus, D.str x1.v.minus]] (fun x => x.length == 9) = true)
    (c4 : (((ms.map TMrk.oc).length) + 1) * 96 ≤ room)
    (c5 : ((ms.map TMrk.oc) ++ [[C.d (D.str x1.name), C.d (D.int .i64 x1.file), C.d (D.int .i64 x1.line), C.d (D.int .i64 (-1)), C.d (D.int .i64 0), C.d (D.bool x1.equ), C.d (D.int .i64 x1.v.add), C.d (D.str x1.v.plus), C.d (D.str x1.v.minus)]]).length = (((ms.map TMrk.oc).length) + 1)) :
    Ev pg i16_l6 ⟨[(2, V.ptr 0 2 [] 0 0), (3, V.ptr 0 3 [] 0 0), (4, V.mp 0 17 none), (6, V.ptr 0 6 [] 0 0), (7, V.msl 0 7 [] 0 as7.length), (8, V.msl 0 8 [] 0 as8.length), (18, V.d (D.sl un (us.map TUnt.c))), (19, V.d (D.int .i64 ((us.length : Nat) : Int))), (20, V.d (D.int .i64 ((i : Nat) : Int))), (105, V.d (D.sl x.marks.nn (x.marks.l.map TMrk.c))), (106, V.d (D.int .i64 ((x.marks.l.length : Nat) : Int))), (107, V.d (D.int .i64 ((h : Nat) : Int)))], [(2, Ob.row true 3 true [[C.d (D.sl false []), C.d (D.sl false []), C.d (D.sl false [])]]), (3, Ob.row true 3 true [[C.own 4 false (ps.map OPrt.oc), C.own 9 false (ms.map TMrk.oc), C.own 3 false (gs.map TTld.oc)]]), (6, Ob.row true 3 true [[C.d (D.sl x.parts.nn (x.parts.l.map TPrt.c)), C.d (D.sl x.marks.nn (x.marks.l.map TMrk.c)), C.d (D.sl x.globals.nn (x.globals.l.map TTld.c))]]), (7, Ob.row false 1 false (as7.map icc)), (8, Ob.row false 1 false (as8.map icc)), (17, Ob.map (atOf ps))] :: hp⟩ .normal ⟨[(2, V.ptr 0 2 [] 0 0), (3, V.ptr 0 3 [] 0 0), (4, V.mp 0 17 none), (6, V.ptr 0 6 [] 0 0), (7, V.msl 0 7 [] 0 as7.length), (8, V.msl 0 8 [] 0 as8.length), (18, V.d (D.sl un (us.map TUnt.c))), (19, V.d (D.int .i64 ((us.length : Nat) : Int))), (20, V.d (D.int .i64 ((i : Nat) : Int))), (105, V.d (D.sl x.marks.nn (x.marks.l.map TMrk.c))), (106, V.d (D.int .i64 ((x.marks.l.length : Nat) : Int))), (107, V.d (D.int .i64 (IntKind.i64.wrap (((h : Nat) : Int) + 1))))], [(2, Ob.row true 3 true [[C.d (D.sl false []), C.d (D.sl false []), C.d (D.sl false [])]]), (3, Ob.row true 3 true [[C.own 4 false (ps.map OPrt.oc), C.own 9 false ((ms.map TMrk.oc) ++ [[C.d (D.str x1.name), C.d (D.int .i64 x1.file), C.d (D.int .i64 x1.line), C.d (D.int .i64 (-1)), C.d (D.int .i64 0), C.d (D.bool x1.equ), C.d (D.int .i64 x1.v.add), C.d (D.str x1.v.plus), C.d (D.str x1.v.minus)]]), C.own 3 false (gs.map TTld.oc)]]), (6, Ob.row true 3 true [[C.d (D.sl x.parts.nn (x.parts.l.map TPrt.c)), C.d (D.sl x.marks.nn (x.marks.l.map TMrk.c)), C.d (D.sl x.globals.nn (x.globals.l.map TTld.c))]]), (7, Ob.row false 1 false (as7.map icc)), (8, Ob.row false 1 false (as8.map icc)), (17, Ob.map (atOf ps))] :: hp⟩ :=
  codeC_ok (hs := [.b true, .n h, .ds [D.str x1.name, D.int .i64 x1.file, D.int .i64 x1.line, D.int .i64 x1.part, D.int .i64 x1.piece, D.bool x1.equ, D.int .i64 x1.v.add, D.str x1.v.plus, D.str x1.v.minus], .b false, .b false, .b false, .b false, .b false, .b false, .b false]) (hs' := []) (cs := [_, ((h : Nat) : Int) = ((h : Nat) : Int), _, _, _, _, _, _, _, false = false, _, ((ms.map TMrk.oc).length) = (ms.map TMrk.oc).length, _, _]) (by kernel_rfl) ⟨c0, rfl, c1, c2, c2, c2, c2, c2, c2, rfl, c3, rfl, c4, c5, trivial⟩
theorem w16c_2 (un : Bool) (us : List TUnt) (i : Nat) (x : TUnt) (ps : List OPrt) (ms : List TMrk) (gs : List TTld) (as7 : List Int) (as8 : List Int) (h : Nat) (hp : HL) (x1 : TMrk)
    (c0 : (decide (((h : Nat) : Int) < ((x.marks.l.length : Nat) : Int))) = true)
    (c1 : (x.marks.l.map TMrk.c)[h]? = some [D.str x1.name, D.int .i64 x1.file, D.int .i64 x1.line, D.int .i64 x1.part, D.int .i64 x1.piece, D.bool x1.equ, D.int .i64 x1.v.add, D.str x1.v.plus, D.str x1.v.minus])
    (c2 : (decide (x1.part ≥ 0)) = true)
    (c3 : (decide (x1.part < ((as7.length : Nat) : Int))) = false)
    (c4 : List.all [[D.str x1.name, D.int .i64 x1.file, D.int .i64 x1.line, D.int .i64 (-1), D.int .i64 0, D.bool x1.equ, D.int .i64 x1.v.add, D.str x1.v.plus, D.str x1.v.minus]] (fun x => x.length == 9) = true)
    (c5 : (((ms.map TMrk.oc).length) + 1) * 96 ≤ room)
    (c6 : ((ms.map TMrk.oc) ++ [[C.d (D.str x1.name), C.d (D.int .i64 x1.file), C.d (D.int .i64 x1.line), C.d (D.int .i64 (-1)), C.d (D.int .i64 0), C.d (D.bool x1.equ), C.d (D.int .i64 x1.v.add), C.d (D.str x1.v.plus), C.d (D.str x1.v.minus)]]).length = (((ms.map TMrk.oc).length) + 1)) :
    Ev pg i16_l6 ⟨[(2, V.ptr 0 2 [] 0 0), (3, V.ptr 0 3 [] 0 0), (4, V.mp 0 17 none), (6, V.ptr 0 6 [] 0 0), (7, V.msl 0 7 [] 0 as7.length), (8, V.msl 0 8 [] 0 as8.length), (18, V.d (D.sl un (us.map TUnt.c))), (19, V.d (D.int .i64 ((us.length : Nat) : Int))), (20, V.d (D.int .i64 ((i : Nat) : Int))), (105, V.d (D.sl x.marks.nn (x.marks.l.map TMrk.c))), (106, V.d (D.int .i64 ((x.marks.l.length : Nat) : Int))), (107, V.d (D.int .i64 ((h : Nat) : Int)))], [(2, Ob.row true 3 true [[C.d (D.sl false []), C.d (D.sl false []), C.d (D.sl false [])]]), (3, Ob.row true 3 true [[C.own 4 false (ps.map OPrt.oc), C.own 9 false (ms.map TMrk.oc), C.own 3 false (gs.map TTld.oc)]]), (6, Ob.row true 3 true [[C.d (D.sl x.parts.nn (x.parts.l.map TPrt.c)), C.d (D.sl x.marks.nn (x.marks.l.map TMrk.c)), C.d (D.sl x.globals.nn (x.globals.l.map TTld.c))]]), (7, Ob.row false 1 false (as7.map icc)), (8, Ob.row false 1 false (as8.map icc)), (17, Ob.map (atOf ps))] :: hp⟩ .normal ⟨[(2, V.ptr 0 2 [] 0 0), (3, V.ptr 0 3 [] 0 0), (4, V.mp 0 17 none), (6, V.ptr 0 6 [] 0 0), (7, V.msl 0 7 [] 0 as7.length), (8, V.msl 0 8 [] 0 as8.length), (18, V.d (D.sl un (us.map TUnt.c))), (19, V.d (D.int .i64 ((us.length : Nat) : Int))), (20, V.d (D.int .i64 ((i : Nat) : Int))), (105, V.d (D.sl x.marks.nn (x.marks.l.map TMrk.c))), (106, V.d (D.int .i64 ((x.marks.l.length : Nat) : Int))), (107, V.d (D.int .i64 (IntKind.i64.wrap (((h : Nat) : Int) + 1))))], [(2, Ob.row true 3 true [[C.d (D.sl false []), C.d (D.sl false []), C.d (D.sl false [])]]), (3, Ob.row true 3 true [[C.own 4 false (ps.map OPrt.oc), C.own 9 false ((ms.map TMrk.oc) ++ [[C.d (D.str x1.name), C.d (D.int .i64 x1.file), C.d (D.int .i64 x1.line), C.d (D.int .i64 (-1)), C.d (D.int .i64 0), C.d (D.bool x1.equ), C.d (D.int .i64 x1.v.add), C.d (D.str x1.v.plus), C.d (D.str x1.v.minus)]]), C.own 3 false (gs.map TTld.oc)]]), (6, Ob.row true 3 true [[C.d (D.sl x.parts.nn (x.parts.l.map TPrt.c)), C.d (D.sl x.marks.nn (x.marks.l.map TMrk.c)), C.d (D.sl x.globals.nn (x.globals.l.map TTld.c))]]), (7, Ob.row false 1 false (as7.map icc)), (8, Ob.row false 1 false (as8.map icc)), (17, Ob.map (atOf ps))] :: hp⟩ :=
  codeC_ok (hs := [.b true, .n h, .ds [D.str x1.name, D.int .i64 x1.file, D.int .i64 x1.line, D.int .i64 x1.part, D.int .i64 x1.piece, D.bool x1.equ, D.int .i64 x1.v.add, D.str x1.v.plus, D.str x1.v.minus], .b true, .b true, .b true, .b true, .b true, .b true, .b false]) (hs' := []) (cs := [_, ((h : Nat) : Int) = ((h : Nat) : Int), _, _, _, _, _, _, _, _, _, ((ms.map TMrk.oc).length) = (ms.map TMrk.oc).length, _, _]) (by kernel_rfl) ⟨c0, rfl, c1, c2, c2, c2, c2, c2, c2, c3, c4, rfl, c5, c6, trivial⟩
theorem w16c_3 (un : Bool) (us : List TUnt) (i : Nat) (x : TUnt) (ps : List OPrt) (ms : List TMrk) (gs : List TTld) (as7 : List Int) (as8 : List Int) (h : Nat) (hp : HL) (x1 : TMrk) (k2 : Nat) (n3 : Int) (n4 : Int)
    (c0 : (decide (((h : Nat) : Int) < ((x.marks.l.length : Nat) : Int))) = true)
    (c1 : (x.marks.l.map TMrk.c)[h]? = some [D.str x1.name, D.int .i64 x1.file, D.int .i64 x1.line, D.int .i64 x1.part, D.int .i64 x1.piece, D.bool x1.equ, D.int .i64 x1.v.add, D.str x1.v.plus, D.str x1.v.minus])
    (c2 : (decide (x1.part ≥ 0)) = true)
    (c3 : (decide (x1.part < ((as7.length : Nat) : Int))) = true)
    (c4 : x1.part = ((k2 : Nat) : Int))
    (c5 : k2 < as7.length)
    (c6 : cellAt (as7.map icc) k2 0 = some (C.d (D.int .i64 n3)))
    (c7 : k2 < as8.length)
    (c8 : cellAt (as8.map icc) k2 0 = some (C.d (D.int .i64 n4)))
    (c9 : List.all [[D.str x1.name, D.int .i64 x1.file, D.int .i64 x1.line, D.int .i64 n3, D.int .i64 (IntKind.i64.wrap (x1.piece + n4)), D.bool x1.equ, D.int .i64 x1.v.add, D.str x1.v.plus, D.str x1.v.minus]] (fun x => x.length == 9) = true)
    (c10 : (((ms.map TMrk.oc).length) + 1) * 96 ≤ room)
    (c11 : ((ms.map TMrk.oc) ++ [[C.d (D.str x1.name), C.d (D.int .i64 x1.file), C.d (D.int .i64 x1.line), C.d (D.int .i64 n3), C.d (D.int .i64 (IntKind.i64.wrap (x1.piece + n4))), C.d (D.bool x1.equ), C.d (D.int .i64 x1.v.add), C.d (D.str x1.v.plus), C.d (D.str x1.v.minus)]]).length = (((ms.map TMrk.oc).length) + 1)) :
    Ev pg i16_l6 ⟨[(2, V.ptr 0 2 [] 0 0), (3, V.ptr 0 3 [] 0 0), (4, V.mp 0 17 none), (6, V.ptr 0 6 [] 0 0), (7, V.msl 0 7 [] 0 as7.length), (8, V.msl 0 8 [] 0 as8.length), (18, V.d (D.sl un (us.map TUnt.c))), (19, V.d (D.int .i64 ((us.length : Nat) : Int))), (20, V.d (D.int .i64 ((i : Nat) : Int))), (105, V.d (D.sl x.marks.nn (x.marks.l.map TMrk.c))), (106, V.d (D.int .i64 ((x.marks.l.length : Nat) : Int))), (107, V.d (D.int .i64 ((h : Nat) : Int)))], [(2, Ob.row true 3 true [[C.d (D.sl false []), C.d (D.sl false []), C.d (D.sl false [])]]), (3, Ob.row true 3 true [[C.own 4 false (ps.map OPrt.oc), C.own 9 false (ms.map TMrk.oc), C.own 3 false (gs.map TTld.oc)]]), (6, Ob.row true 3 true [[C.d (D.sl x.parts.nn (x.parts.l.map TPrt.c)), C.d (D.sl x.marks.nn (x.marks.l.map TMrk.c)), C.d (D.sl x.globals.nn (x.globals.l.map TTld.c))]]), (7, Ob.row false 1 false (as7.map icc)), (8, Ob.row false 1 false (as8.map icc)), (17, Ob.map (atOf ps))] :: hp⟩ .normal ⟨[(2, V.ptr 0 2 [] 0 0), (3, V.ptr 0 3 [] 0 0), (4, V.mp 0 17 none), (6, V.ptr 0 6 [] 0 0), (7, V.msl 0 7 [] 0 as7.length), (8, V.msl 0 8 [] 0 as8.length), (18, V.d (D.sl un (us.map TUnt.c))), (19, V.d (D.int .i64 ((us.length : Nat) : Int))), (20, V.d (D.int .i64 ((i : Nat) : Int))), (105, V.d (D.sl x.marks.nn (x.marks.l.map TMrk.c))), (106, V.d (D.int .i64 ((x.marks.l.length : Nat) : Int))), (107, V.d (D.int .i64 (IntKind.i64.wrap (((h : Nat) : Int) + 1))))], [(2, Ob.row true 3 true [[C.d (D.sl false []), C.d (D.sl false []), C.d (D.sl false [])]]), (3, Ob.row true 3 true [[C.own 4 false (ps.map OPrt.oc), C.own 9 false ((ms.map TMrk.oc) ++ [[C.d (D.str x1.name), C.d (D.int .i64 x1.file), C.d (D.int .i64 x1.line), C.d (D.int .i64 n3), C.d (D.int .i64 (IntKind.i64.wrap (x1.piece + n4))), C.d (D.bool x1.equ), C.d (D.int .i64 x1.v.add), C.d (D.str x1.v.plus), C.d (D.str x1.v.minus)]]), C.own 3 false (gs.map TTld.oc)]]), (6, Ob.row true 3 true [[C.d (D.sl x.parts.nn (x.parts.l.map TPrt.c)), C.d (D.sl x.marks.nn (x.marks.l.map TMrk.c)), C.d (D.sl x.globals.nn (x.globals.l.map TTld.c))]]), (7, Ob.row false 1 false (as7.map icc)), (8, Ob.row false 1 false (as8.map icc)), (17, Ob.map (atOf ps))] :: hp⟩ :=
  codeC_ok (hs := [.b true, .n h, .ds [D.str x1.name, D.int .i64 x1.file, D.int .i64 x1.line, D.int .i64 x1.part, D.int .i64 x1.piece, D.bool x1.equ, D.int .i64 x1.v.add, D.str x1.v.plus, D.str x1.v.minus], .b true, .b true, .b true, .b true, .b true, .b true, .b true, .n k2, .c (C.d (D.int .i64 n3)), .n k2, .c (C.d (D.int .i64 n4))]) (hs' := []) (cs := [_, ((h : Nat) : Int) = ((h : Nat) : Int), _, _, _, _, _, _, _, _, _, _, _, _, _, _, _, ((ms.map TMrk.oc).length) = (ms.map TMrk.oc).length, _, _]) (by kernel_rfl) ⟨c0, rfl, c1, c2, c2, c2, c2, c2, c2, c3, c4, c5, c6, c4, c7, c8, c9, rfl, c10, c11, trivial⟩
theorem w16d_0 (un : Bool) (us : List TUnt) (i : Nat) (ps : List OPrt) (ms : List TMrk) (gs : List TTld) (hp : HL)
    (c0 : (decide (((i : Nat) : Int) < ((us.length : Nat) : Int))) = false) :
    Ev pg i16_l0 ⟨[(2, V.ptr 0 2 [] 0 0), (3, V.ptr 0 3 [] 0 0), (4, V.mp 0 17 none), (18, V.d (D.sl un (us.map TUnt.c))), (19, V.d (D.int .i64 ((us.length : Nat) : Int))), (20, V.d (D.int .i64 ((i : Nat) : Int)))], [(2, Ob.row true 3 true [[C.d (D.sl false []), C.d (D.sl false []), C.d (D.sl false [])]]), (3, Ob.row true 3 true [[C.own 4 false (ps.map OPrt.oc), C.own 9 false (ms.map TMrk.oc), C.own 3 false (gs.map TTld.oc)]]), (17, Ob.map (atOf ps))] :: hp⟩ (.exit 0) ⟨[(2, V.ptr 0 2 [] 0 0), (3, V.ptr 0 3 [] 0 0), (4, V.mp 0 17 none), (18, V.d (D.sl un (us.map TUnt.c))), (19, V.d (D.int .i64 ((us.length : Nat) : Int))), (20, V.d (D.int .i64 ((i : Nat) : Int))), (21, V.d (D.bool false))], [(2, Ob.row true 3 true [[C.d (D.sl false []), C.d (D.sl false []), C.d (D.sl false [])]]), (3, Ob.row true 3 true [[C.own 4 false (ps.map OPrt.oc), C.own 9 false (ms.map TMrk.oc), C.own 3 false (gs.map TTld.oc)]]), (17, Ob.map (atOf ps))] :: hp⟩ :=
  by
  have r : Ev pg i16_l0 ⟨[(2, V.ptr 0 2 [] 0 0), (3, V.ptr 0 3 [] 0 0), (4, V.mp 0 17 none), (18, V.d (D.sl un (us.map TUnt.c))), (19, V.d (D.int .i64 ((us.length : Nat) : Int))), (20, V.d (D.int .i64 ((i : Nat) : Int)))], [(2, Ob.row true 3 true [[C.d (D.sl false []), C.d (D.sl false []), C.d (D.sl false [])]]), (3, Ob.row true 3 true [[C.own 4 false (ps.map OPrt.oc), C.own 9 false (ms.map TMrk.oc), C.own 3 false (gs.map TTld.oc)]]), (17, Ob.map (atOf ps))] :: hp⟩ (.exit 0) ⟨[(2, V.ptr 0 2 [] 0 0), (3, V.ptr 0 3 [] 0 0), (4, V.mp 0 17 none), (18, V.d (D.sl un (us.map TUnt.c))), (19, V.d (D.int .i64 ((us.length : Nat) : Int))), (20, V.d (D.int .i64 ((i : Nat) : Int))), (21, V.d (D.bool (decide (((i : Nat) : Int) < ((us.length : Nat) : Int)))))], [(2, Ob.row true 3 true [[C.d (D.sl false []), C.d (D.sl false []), C.d (D.sl false [])]]), (3, Ob.row true 3 true [[C.own 4 false (ps.map OPrt.oc), C.own 9 false (ms.map TMrk.oc), C.own 3 false (gs.map TTld.oc)]]), (17, Ob.map (atOf ps))] :: hp⟩ :=
  codeC_ok (hs := [.b false]) (hs' := []) (cs := [_]) (by kernel_rfl) ⟨c0, trivial⟩
  simp only [c0] at r
  exact r
theorem w16d_1 (un : Bool) (us : List TUnt) (i : Nat) (ps : List OPrt) (ms : List TMrk) (gs : List TTld) (hp : HL) (x1 : TUnt) (ps2 : List OPrt) (as3 : List Int) (as4 : List Int) (ms5 : List TMrk)
    (c0 : (decide (((i : Nat) : Int) < ((us.length : Nat) : Int))) = true)
    (c1 : (us.map TUnt.c)[i]? = some [D.sl x1.parts.nn (x1.parts.l.map TPrt.c), D.sl x1.marks.nn (x1.marks.l.map TMrk.c), D.sl x1.globals.nn (x1.globals.l.map TTld.c)])
    (c2 : Lp pg i16_l2 ⟨[(2, V.ptr 0 2 [] 0 0), (3, V.ptr 0 3 [] 0 0), (4, V.mp 0 17 none), (6, V.ptr 0 6 [] 0 0), (7, V.msl 0 7 [] 0 0), (8, V.msl 0 8 [] 0 0), (18, V.d (D.sl un (us.map TUnt.c))), (19, V.d (D.int .i64 ((us.length : Nat) : Int))), (20, V.d (D.int .i64 ((i : Nat) : Int))), (25, V.d (D.sl x1.parts.nn (x1.parts.l.map TPrt.c))), (26, V.d (D.int .i64 (((x1.parts.l.map TPrt.c).length : Nat) : Int))), (27, V.d (D.int .i64 0))], [(2, Ob.row true 3 true [[C.d (D.sl false []), C.d (D.sl false []), C.d (D.sl false [])]]), (3, Ob.row true 3 true [[C.own 4 false (ps.map OPrt.oc), C.own 9 false (ms.map TMrk.oc), C.own 3 false (gs.map TTld.oc)]]), (6, Ob.row true 3 true [[C.d (D.sl x1.parts.nn (x1.parts.l.map TPrt.c)), C.d (D.sl x1.marks.nn (x1.marks.l.map TMrk.c)), C.d (D.sl x1.globals.nn (x1.globals.l.map TTld.c))]]), (7, Ob.row false 1 false []), (8, Ob.row false 1 false []), (17, Ob.map (atOf ps))] :: hp⟩ (.exit 2) ⟨[(2, V.ptr 0 2 [] 0 0), (3, V.ptr 0 3 [] 0 0), (4, V.mp 0 17 none), (6, V.ptr 0 6 [] 0 0), (7, V.msl 0 7 [] 0 as3.length), (8, V.msl 0 8 [] 0 as4.length), (18, V.d (D.sl un (us.map TUnt.c))), (19, V.d (D.int .i64 ((us.length : Nat) : Int))), (20, V.d (D.int .i64 ((i : Nat) : Int))), (25, V.d (D.sl x1.parts.nn (x1.parts.l.map TPrt.c))), (26, V.d (D.int .i64 ((x1.parts.l.length : Nat) : Int))), (27, V.d (D.int .i64 ((x1.parts.l.length : Nat) : Int))), (28, V.d (D.bool false))], [(2, Ob.row true 3 true [[C.d (D.sl false []), C.d (D.sl false []), C.d (D.sl false [])]]), (3, Ob.row true 3 true [[C.own 4 false (ps2.map OPrt.oc), C.own 9 false (ms.map TMrk.oc), C.own 3 false (gs.map TTld.oc)]]), (6, Ob.row true 3 true [[C.d (D.sl x1.parts.nn (x1.parts.l.map TPrt.c)), C.d (D.sl x1.marks.nn (x1.marks.l.map TMrk.c)), C.d (D.sl x1.globals.nn (x1.globals.l.map TTld.c))]]), (7, Ob.row false 1 false (as3.map icc)), (8, Ob.row false 1 false (as4.map icc)), (17, Ob.map (atOf ps2))] :: hp⟩)
    (c3 : Lp pg i16_l6 ⟨[(2, V.ptr 0 2 [] 0 0), (3, V.ptr 0 3 [] 0 0), (4, V.mp 0 17 none), (6, V.ptr 0 6 [] 0 0), (7, V.msl 0 7 [] 0 as3.length), (8, V.msl 0 8 [] 0 as4.length), (18, V.d (D.sl un (us.map TUnt.c))), (19, V.d (D.int .i64 ((us.length : Nat) : Int))), (20, V.d (D.int .i64 ((i : Nat) : Int))), (105, V.d (D.sl x1.marks.nn (x1.marks.l.map TMrk.c))), (106, V.d (D.int .i64 (((x1.marks.l.map TMrk.c).length : Nat) : Int))), (107, V.d (D.int .i64 0))], [(2, Ob.row true 3 true [[C.d (D.sl false []), C.d (D.sl false []), C.d (D.sl false [])]]), (3, Ob.row true 3 true [[C.own 4 false (ps2.map OPrt.oc), C.own 9 false (ms.map TMrk.oc), C.own 3 false (gs.map TTld.oc)]]), (6, Ob.row true 3 true [[C.d (D.sl x1.parts.nn (x1.parts.l.map TPrt.c)), C.d (D.sl x1.marks.nn (x1.marks.l.map TMrk.c)), C.d (D.sl x1.globals.nn (x1.globals.l.map TTld.c))]]), (7, Ob.row false 1 false (as3.map icc)), (8, Ob.row false 1 false (as4.map icc)), (17, Ob.map (atOf ps2))] :: hp⟩ (.exit 6) ⟨[(2, V.ptr 0 2 [] 0 0), (3, V.ptr 0 3 [] 0 0), (4, V.mp 0 17 none), (6, V.ptr 0 6 [] 0 0), (7, V.msl 0 7 [] 0 as3.length), (8, V.msl 0 8 [] 0 as4.length), (18, V.d (D.sl un (us.map TUnt.c))), (19, V.d (D.int .i64 ((us.length : Nat) : Int))), (20, V.d (D.int .i64 ((i : Nat) : Int))), (105, V.d (D.sl x1.marks.nn (x1.marks.l.map TMrk.c))), (106, V.d (D.int .i64 ((x1.marks.l.length : Nat) : Int))), (107, V.d (D.int .i64 ((x1.marks.l.length : Nat) : Int))), (108, V.d (D.bool false))], [(2, Ob.row true 3 true [[C.d (D.sl false []), C.d (D.sl false []), C.d (D.sl false [])]]), (3, Ob.row true 3 true [[C.own 4 false (ps2.map OPrt.oc), C.own 9 false (ms5.map TMrk.oc), C.own 3 false (gs.map TTld.oc)]]), (6, Ob.row true 3 true [[C.d (D.sl x1.parts.nn (x1.parts.l.map TPrt.c)), C.d (D.sl x1.marks.nn (x1.marks.l.map TMrk.c)), C.d (D.sl x1.globals.nn (x1.globals.l.map TTld.c))]]), (7, Ob.row false 1 false (as3.map icc)), (8, Ob.row false 1 false (as4.map icc)), (17, Ob.map (atOf ps2))] :: hp⟩)
    (c4 : List.all (x1.globals.l.map TTld.c) (fun x => x.length == 3) = true)
    (c5 : (((gs.map TTld.oc).length) + ((List.map (fun x => List.map C.d x) (x1.globals.l.map TTld.c)).length)) * 32 ≤ room)
    (c6 : ((gs.map TTld.oc) ++ List.map (ownify []) (List.map (fun x => List.map C.d x) (x1.globals.l.map TTld.c))).length = (((gs.map TTld.oc).length) + ((List.map (fun x => List.map C.d x) (x1.globals.l.map TTld.c)).length))) :
    Ev pg i16_l0 ⟨[(2, V.ptr 0 2 [] 0 0), (3, V.ptr 0 3 [] 0 0), (4, V.mp 0 17 none), (18, V.d (D.sl un (us.map TUnt.c))), (19, V.d (D.int .i64 ((us.length : Nat) : Int))), (20, V.d (D.int .i64 ((i : Nat) : Int)))], [(2, Ob.row true 3 true [[C.d (D.sl false []), C.d (D.sl false []), C.d (D.sl false [])]]), (3, Ob.row true 3 true [[C.own 4 false (ps.map OPrt.oc), C.own 9 false (ms.map TMrk.oc), C.own 3 false (gs.map TTld.oc)]]), (17, Ob.map (atOf ps))] :: hp⟩ .normal ⟨[(2, V.ptr 0 2 [] 0 0), (3, V.ptr 0 3 [] 0 0), (4, V.mp 0 17 none), (18, V.d (D.sl un (us.map TUnt.c))), (19, V.d (D.int .i64 ((us.length : Nat) : Int))), (20, V.d (D.int .i64 (IntKind.i64.wrap (((i : Nat) : Int) + 1))))], [(2, Ob.row true 3 true [[C.d (D.sl false []), C.d (D.sl false []), C.d (D.sl false [])]]), (3, Ob.row true 3 true [[C.own 4 false (ps2.map OPrt.oc), C.own 9 false (ms5.map TMrk.oc), C.own 3 false ((gs.map TTld.oc) ++ List.map (ownify []) (List.map (fun x => List.map C.d x) (x1.globals.l.map TTld.c)))]]), (17, Ob.map (atOf ps2))] :: hp⟩ :=
  codeC_ok (hs := [.b true, .n i, .ds [D.sl x1.parts.nn (x1.parts.l.map TPrt.c), D.sl x1.marks.nn (x1.marks.l.map TMrk.c), D.sl x1.globals.nn (x1.globals.l.map TTld.c)], .lp (.exit 2) ⟨[(2, V.ptr 0 2 [] 0 0), (3, V.ptr 0 3 [] 0 0), (4, V.mp 0 17 none), (6, V.ptr 0 6 [] 0 0), (7, V.msl 0 7 [] 0 as3.length), (8, V.msl 0 8 [] 0 as4.length), (18, V.d (D.sl un (us.map TUnt.c))), (19, V.d (D.int .i64 ((us.length : Nat) : Int))), (20, V.d (D.int .i64 ((i : Nat) : Int))), (25, V.d (D.sl x1.parts.nn (x1.parts.l.map TPrt.c))), (26, V.d (D.int .i64 ((x1.parts.l.length : Nat) : Int))), (27, V.d (D.int .i64 ((x1.parts.l.length : Nat) : Int))), (28, V.d (D.bool false))], [(2, Ob.row true 3 true [[C.d (D.sl false []), C.d (D.sl false []), C.d (D.sl false [])]]), (3, Ob.row true 3 true [[C.own 4 false (ps2.map OPrt.oc), C.own 9 false (ms.map TMrk.oc), C.own 3 false (gs.map TTld.oc)]]), (6, Ob.row true 3 true [[C.d (D.sl x1.parts.nn (x1.parts.l.map TPrt.c)), C.d (D.sl x1.marks.nn (x1.marks.l.map TMrk.c)), C.d (D.sl x1.globals.nn (x1.globals.l.map TTld.c))]]), (7, Ob.row false 1 false (as3.map icc)), (8, Ob.row false 1 false (as4.map icc)), (17, Ob.map (atOf ps2))] :: hp⟩, .lp (.exit 6) ⟨[(2, V.ptr 0 2 [] 0 0), (3, V.ptr 0 3 [] 0 0), (4, V.mp 0 17 none), (6, V.ptr 0 6 [] 0 0), (7, V.msl 0 7 [] 0 as3.length), (8, V.msl 0 8 [] 0 as4.length), (18, V.d (D.sl un (us.map TUnt.c))), (19, V.d (D.int .i64 ((us.length : Nat) : Int))), (20, V.d (D.int .i64 ((i : Nat) : Int))), (105, V.d (D.sl x1.marks.nn (x1.marks.l.map TMrk.c))), (106, V.d (D.int .i64 ((x1.marks.l.length : Nat) : Int))), (107, V.d (D.int .i64 ((x1.marks.l.length : Nat) : Int))), (108, V.d (D.bool false))], [(2, Ob.row true 3 true [[C.d (D.sl false []), C.d (D.sl false []), C.d (D.sl false [])]]), (3, Ob.row true 3 true [[C.own 4 false (ps2.map OPrt.oc), C.own 9 false (ms5.map TMrk.oc), C.own 3 false (gs.map TTld.oc)]]), (6, Ob.row true 3 true [[C.d (D.sl x1.parts.nn (x1.parts.l.map TPrt.c)), C.d (D.sl x1.marks.nn (x1.marks.l.map TMrk.c)), C.d (D.sl x1.globals.nn (x1.globals.l.map TTld.c))]]), (7, Ob.row false 1 false (as3.map icc)), (8, Ob.row false 1 false (as4.map icc)), (17, Ob.map (atOf ps2))] :: hp⟩]) (hs' := []) (cs := [_, ((i : Nat) : Int) = ((i : Nat) : Int), _, _, _, _, ((gs.map TTld.oc).length) = (gs.map TTld.oc).length, _, _]) (by kernel_rfl) ⟨c0, rfl, c1, c2, c3, c4, rfl, c5, c6, trivial⟩
theorem w16_0 (un : Bool) (us : List TUnt) (hp : HL) (ps1 : List OPrt) (ms2 : List TMrk) (gs3 : List TTld)
    (c0 : Lp pg i16_l0 ⟨[(2, V.ptr 0 2 [] 0 0), (3, V.ptr 0 3 [] 0 0), (4, V.mp 0 17 none), (18, V.d (D.sl un (us.map TUnt.c))), (19, V.d (D.int .i64 (((us.map TUnt.c).length : Nat) : Int))), (20, V.d (D.int .i64 0))], [(2, Ob.row true 3 true [[C.d (D.sl false []), C.d (D.sl false []), C.d (D.sl false [])]]), (3, Ob.row true 3 true [[C.own 4 false [], C.own 9 false [], C.own 3 false []]]), (17, Ob.map ([]))] :: hp⟩ (.exit 0) ⟨[(2, V.ptr 0 2 [] 0 0), (3, V.ptr 0 3 [] 0 0), (4, V.mp 0 17 none), (18, V.d (D.sl un (us.map TUnt.c))), (19, V.d (D.int .i64 ((us.length : Nat) : Int))), (20, V.d (D.int .i64 ((us.length : Nat) : Int))), (21, V.d (D.bool false))], [(2, Ob.row true 3 true [[C.d (D.sl false []), C.d (D.sl false []), C.d (D.sl false [])]]), (3, Ob.row true 3 true [[C.own 4 false (ps1.map OPrt.oc), C.own 9 false (ms2.map TMrk.oc), C.own 3 false (gs3.map TTld.oc)]]), (17, Ob.map (atOf ps1))] :: hp⟩)
    (c1 : fzBs [C.own 4 false (ps1.map OPrt.oc), C.own 9 false (ms2.map TMrk.oc), C.own 3 false (gs3.map TTld.oc)] = some [C.d (D.sl false (ps1.map (fun p => TPrt.c p.t))), C.d (D.sl false (ms2.map TMrk.c)), C.d (D.sl false (gs3.map TTld.c))]) :
    Rn pg 16 [V.d (D.sl un (us.map TUnt.c))] (hp) (V.d (D.agg [D.sl false (ps1.map (fun p => TPrt.c p.t)), D.sl false (ms2.map TMrk.c), D.sl false (gs3.map TTld.c)])) (hp) :=
  Rn.c (fn := i16) (ex := .ret) (st := ⟨[(2, V.ptr 0 2 [] 0 0)], [(2, Ob.row true 3 true [[C.d (D.sl false (ps1.map (fun p => TPrt.c p.t))), C.d (D.sl false (ms2.map TMrk.c)), C.d (D.sl false (gs3.map TTld.c))]])] :: hp⟩) (hs := [.lp (.exit 0) ⟨[(2, V.ptr 0 2 [] 0 0), (3, V.ptr 0 3 [] 0 0), (4, V.mp 0 17 none), (18, V.d (D.sl un (us.map TUnt.c))), (19, V.d (D.int .i64 ((us.length : Nat) : Int))), (20, V.d (D.int .i64 ((us.length : Nat) : Int))), (21, V.d (D.bool false))], [(2, Ob.row true 3 true [[C.d (D.sl false []), C.d (D.sl false []), C.d (D.sl false [])]]), (3, Ob.row true 3 true [[C.own 4 false (ps1.map OPrt.oc), C.own 9 false (ms2.map TMrk.oc), C.own 3 false (gs3.map TTld.oc)]]), (17, Ob.map (atOf ps1))] :: hp⟩, .cs [C.d (D.sl false (ps1.map (fun p => TPrt.c p.t))), C.d (D.sl false (ms2.map TMrk.c)), C.d (D.sl false (gs3.map TTld.c))]]) (cs := [_, _]) (rs := [V.d (D.agg [D.sl false (ps1.map (fun p => TPrt.c p.t)), D.sl false (ms2.map TMrk.c), D.sl false (gs3.map TTld.c)])]) (t := [(2, Ob.row true 3 true [[C.d (D.sl false (ps1.map (fun p => TPrt.c p.t))), C.d (D.sl false (ms2.map TMrk.c)), C.d (D.sl false (gs3.map TTld.c))]])])
    (by kernel_rfl) (by kernel_rfl) (by kernel_rfl) (by kernel_rfl) (by kernel_rfl) (by kernel_rfl) ⟨c0, c1, trivial⟩
end Go.Proofs.YtgmphfmoonbfpaaMv

namespace Go.Proofs.YtgmphfmoonbfpaaMv
open Go
def s4 (un : Bool) (us : List TUnt) (i : Nat) (x : TUnt) (ps : List OPrt) (ms : List TMrk) (gs : List TTld) (n7 : Nat) (n8 : Nat) (o7 : Ob) (o8 : Ob) (o17 : Ob) (k : Nat) (q : Nat) (y : TPrt) (h : Nat) (hp : HL) : St := ⟨[(2, V.ptr 0 2 [] 0 0), (3, V.ptr 0 3 [] 0 0), (4, V.mp 0 17 none), (6, V.ptr 0 6 [] 0 0), (7, V.msl 0 7 [] 0 n7), (8, V.msl 0 8 [] 0 n8), (11, V.d (D.int .i64 ((q : Nat) : Int))), (18, V.d (D.sl un (us.map TUnt.c))), (19, V.d (D.int .i64 ((us.length : Nat) : Int))), (20, V.d (D.int .i64 ((i : Nat) : Int))), (25, V.d (D.sl x.parts.nn (x.parts.l.map TPrt.c))), (26, V.d (D.int .i64 ((x.parts.l.length : Nat) : Int))), (27, V.d (D.int .i64 ((k : Nat) : Int))), (74, V.d (D.sl y.pieces.nn (y.pieces.l.map TPce.c))), (75, V.d (D.int .i64 ((y.pieces.l.length : Nat) : Int))), (76, V.d (D.int .i64 ((h : Nat) : Int)))], [(2, Ob.row true 3 true [[C.d (D.sl false []), C.d (D.sl false []), C.d (D.sl false [])]]), (3, Ob.row true 3 true [[C.own 4 false (ps.map OPrt.oc), C.own 9 false (ms.map TMrk.oc), C.own 3 false (gs.map TTld.oc)]]), (6, Ob.row true 3 true [[C.d (D.sl x.parts.nn (x.parts.l.map TPrt.c)), C.d (D.sl x.marks.nn (x.marks.l.map TMrk.c)), C.d (D.sl x.globals.nn (x.globals.l.map TTld.c))]]), (7, o7), (8, o8), (17, o17)] :: hp⟩
def s4e (un : Bool) (us : List TUnt) (i : Nat) (x : TUnt) (ps : List OPrt) (ms : List TMrk) (gs : List TTld) (n7 : Nat) (n8 : Nat) (o7 : Ob) (o8 : Ob) (o17 : Ob) (k : Nat) (q : Nat) (y : TPrt) (h : Nat) (hp : HL) : St := ⟨[(2, V.ptr 0 2 [] 0 0), (3, V.ptr 0 3 [] 0 0), (4, V.mp 0 17 none), (6, V.ptr 0 6 [] 0 0), (7, V.msl 0 7 [] 0 n7), (8, V.msl 0 8 [] 0 n8), (11, V.d (D.int .i64 ((q : Nat) : Int))), (18, V.d (D.sl un (us.map TUnt.c))), (19, V.d (D.int .i64 ((us.length : Nat) : Int))), (20, V.d (D.int .i64 ((i : Nat) : Int))), (25, V.d (D.sl x.parts.nn (x.parts.l.map TPrt.c))), (26, V.d (D.int .i64 ((x.parts.l.length : Nat) : Int))), (27, V.d (D.int .i64 ((k : Nat) : Int))), (74, V.d (D.sl y.pieces.nn (y.pieces.l.map TPce.c))), (75, V.d (D.int .i64 ((y.pieces.l.length : Nat) : Int))), (76, V.d (D.int .i64 ((h : Nat) : Int))), (77, V.d (D.bool false))], [(2, Ob.row true 3 true [[C.d (D.sl false []), C.d (D.sl false []), C.d (D.sl false [])]]), (3, Ob.row true 3 true [[C.own 4 false (ps.map OPrt.oc), C.own 9 false (ms.map TMrk.oc), C.own 3 false (gs.map TTld.oc)]]), (6, Ob.row true 3 true [[C.d (D.sl x.parts.nn (x.parts.l.map TPrt.c)), C.d (D.sl x.marks.nn (x.marks.l.map TMrk.c)), C.d (D.sl x.globals.nn (x.globals.l.map TTld.c))]]), (7, o7), (8, o8), (17, o17)] :: hp⟩
def s2 (un : Bool) (us : List TUnt) (i : Nat) (x : TUnt) (ps : List OPrt) (ms : List TMrk) (gs : List TTld) (as7 : List Int) (as8 : List Int) (k : Nat) (hp : HL) : St := ⟨[(2, V.ptr 0 2 [] 0 0), (3, V.ptr 0 3 [] 0 0), (4, V.mp 0 17 none), (6, V.ptr 0 6 [] 0 0), (7, V.msl 0 7 [] 0 as7.length), (8, V.msl 0 8 [] 0 as8.length), (18, V.d (D.sl un (us.map TUnt.c))), (19, V.d (D.int .i64 ((us.length : Nat) : Int))), (20, V.d (D.int .i64 ((i : Nat) : Int))), (25, V.d (D.sl x.parts.nn (x.parts.l.map TPrt.c))), (26, V.d (D.int .i64 ((x.parts.l.length : Nat) : Int))), (27, V.d (D.int .i64 ((k : Nat) : Int)))], [(2, Ob.row true 3 true [[C.d (D.sl false []), C.d (D.sl false []), C.d (D.sl false [])]]), (3, Ob.row true 3 true [[C.own 4 false (ps.map OPrt.oc), C.own 9 false (ms.map TMrk.oc), C.own 3 false (gs.map TTld.oc)]]), (6, Ob.row true 3 true [[C.d (D.sl x.parts.nn (x.parts.l.map TPrt.c)), C.d (D.sl x.marks.nn (x.marks.l.map TMrk.c)), C.d (D.sl x.globals.nn (x.globals.l.map TTld.c))]]), (7, Ob.row false 1 false (as7.map icc)), (8, Ob.row false 1 false (as8.map icc)), (17, Ob.map (atOf ps))] :: hp⟩
def s2e (un : Bool) (us : List TUnt) (i : Nat) (x : TUnt) (ps : List OPrt) (ms : List TMrk) (gs : List TTld) (as7 : List Int) (as8 : List Int) (k : Nat) (hp : HL) : St := ⟨[(2, V.ptr 0 2 [] 0 0), (3, V.ptr 0 3 [] 0 0), (4, V.mp 0 17 none), (6, V.ptr 0 6 [] 0 0), (7, V.msl 0 7 [] 0 as7.length), (8, V.msl 0 8 [] 0 as8.length), (18, V.d (D.sl un (us.map TUnt.c))), (19, V.d (D.int .i64 ((us.length : Nat) : Int))), (20, V.d (D.int .i64 ((i : Nat) : Int))), (25, V.d (D.sl x.parts.nn (x.parts.l.map TPrt.c))), (26, V.d (D.int .i64 ((x.parts.l.length : Nat) : Int))), (27, V.d (D.int .i64 ((k : Nat) : Int))), (28, V.d (D.bool false))], [(2, Ob.row true 3 true [[C.d (D.sl false []), C.d (D.sl false []), C.d (D.sl false [])]]), (3, Ob.row true 3 true [[C.own 4 false (ps.map OPrt.oc), C.own 9 false (ms.map TMrk.oc), C.own 3 false (gs.map TTld.oc)]]), (6, Ob.row true 3 true [[C.d (D.sl x.parts.nn (x.parts.l.map TPrt.c)), C.d (D.sl x.marks.nn (x.marks.l.map TMrk.c)), C.d (D.sl x.globals.nn (x.globals.l.map TTld.c))]]), (7, Ob.row false 1 false (as7.map icc)), (8, Ob.row false 1 false (as8.map icc)), (17, Ob.map (atOf ps))] :: hp⟩
def s6 (un : Bool) (us : List TUnt) (i : Nat) (x : TUnt) (ps : List OPrt) (ms : List TMrk) (gs : List TTld) (as7 : List Int) (as8 : List Int) (h : Nat) (hp : HL) : St := ⟨[(2, V.ptr 0 2 [] 0 0), (3, V.ptr 0 3 [] 0 0), (4, V.mp 0 17 none), (6, V.ptr 0 6 [] 0 0), (7, V.msl 0 7 [] 0 as7.length), (8, V.msl 0 8 [] 0 as8.length), (18, V.d (D.sl un (us.map TUnt.c))), (19, V.d (D.int .i64 ((us.length : Nat) : Int))), (20, V.d (D.int .i64 ((i : Nat) : Int))), (105, V.d (D.sl x.marks.nn (x.marks.l.map TMrk.c))), (106, V.d (D.int .i64 ((x.marks.l.length : Nat) : Int))), (107, V.d (D.int .i64 ((h : Nat) : Int)))], [(2, Ob.row true 3 true [[C.d (D.sl false []), C.d (D.sl false []), C.d (D.sl false [])]]), (3, Ob.row true 3 true [[C.own 4 false (ps.map OPrt.oc), C.own 9 false (ms.map TMrk.oc), C.own 3 false (gs.map TTld.oc)]]), (6, Ob.row true 3 true [[C.d (D.sl x.parts.nn (x.parts.l.map TPrt.c)), C.d (D.sl x.marks.nn (x.marks.l.map TMrk.c)), C.d (D.sl x.globals.nn (x.globals.l.map TTld.c))]]), (7, Ob.row false 1 false (as7.map icc)), (8, Ob.row false 1 false (as8.map icc)), (17, Ob.map (atOf ps))] :: hp⟩
def s6e (un : Bool) (us : List TUnt) (i : Nat) (x : TUnt) (ps : List OPrt) (ms : List TMrk) (gs : List TTld) (as7 : List Int) (as8 : List Int) (h : Nat) (hp : HL) : St := ⟨[(2, V.ptr 0 2 [] 0 0), (3, V.ptr 0 3 [] 0 0), (4, V.mp 0 17 none), (6, V.ptr 0 6 [] 0 0), (7, V.msl 0 7 [] 0 as7.length), (8, V.msl 0 8 [] 0 as8.length), (18, V.d (D.sl un (us.map TUnt.c))), (19, V.d (D.int .i64 ((us.length : Nat) : Int))), (20, V.d (D.int .i64 ((i : Nat) : Int))), (105, V.d (D.sl x.marks.nn (x.marks.l.map TMrk.c))), (106, V.d (D.int .i64 ((x.marks.l.length : Nat) : Int))), (107, V.d (D.int .i64 ((h : Nat) : Int))), (108, V.d (D.bool false))], [(2, Ob.row true 3 true [[C.d (D.sl false []), C.d (D.sl false []), C.d (D.sl false [])]]), (3, Ob.row true 3 true [[C.own 4 false (ps.map OPrt.oc), C.own 9 false (ms.map TMrk.oc), C.own 3 false (gs.map TTld.oc)]]), (6, Ob.row true 3 true [[C.d (D.sl x.parts.nn (x.parts.l.map TPrt.c)), C.d (D.sl x.marks.nn (x.marks.l.map TMrk.c)), C.d (D.sl x.globals.nn (x.globals.l.map TTld.c))]]), (7, Ob.row false 1 false (as7.map icc)), (8, Ob.row false 1 false (as8.map icc)), (17, Ob.map (atOf ps))] :: hp⟩
def s0 (un : Bool) (us : List TUnt) (i : Nat) (ps : List OPrt) (ms : List TMrk) (gs : List TTld) (hp : HL) : St := ⟨[(2, V.ptr 0 2 [] 0 0), (3, V.ptr 0 3 [] 0 0), (4, V.mp 0 17 none), (18, V.d (D.sl un (us.map TUnt.c))), (19, V.d (D.int .i64 ((us.length : Nat) : Int))), (20, V.d (D.int .i64 ((i : Nat) : Int)))], [(2, Ob.row true 3 true [[C.d (D.sl false []), C.d (D.sl false []), C.d (D.sl false [])]]), (3, Ob.row true 3 true [[C.own 4 false (ps.map OPrt.oc), C.own 9 false (ms.map TMrk.oc), C.own 3 false (gs.map TTld.oc)]]), (17, Ob.map (atOf ps))] :: hp⟩
def s0e (un : Bool) (us : List TUnt) (i : Nat) (ps : List OPrt) (ms : List TMrk) (gs : List TTld) (hp : HL) : St := ⟨[(2, V.ptr 0 2 [] 0 0), (3, V.ptr 0 3 [] 0 0), (4, V.mp 0 17 none), (18, V.d (D.sl un (us.map TUnt.c))), (19, V.d (D.int .i64 ((us.length : Nat) : Int))), (20, V.d (D.int .i64 ((i : Nat) : Int))), (21, V.d (D.bool false))], [(2, Ob.row true 3 true [[C.d (D.sl false []), C.d (D.sl false []), C.d (D.sl false [])]]), (3, Ob.row true 3 true [[C.own 4 false (ps.map OPrt.oc), C.own 9 false (ms.map TMrk.oc), C.own 3 false (gs.map TTld.oc)]]), (17, Ob.map (atOf ps))] :: hp⟩
theorem Ev.to {p : Pg} {c : IR} {st st1 st2 : St} {ex : Ex} (h : Ev p c st ex st1) (e : st1 = st2) : Ev p c st ex st2 := e ▸ h
theorem ltd {a b : Nat} (h : a < b) : decide ((a : Int) < (b : Int)) = true := by simp; omega
theorem nltd (a : Nat) : decide ((a : Int) < (a : Int)) = false := by simp
theorem cln_oc (x : TPce) : x.cln.oc = [C.d (D.int .i64 x.kind), C.d (D.int .i64 x.file), C.d (D.int .i64 x.line), C.d (D.str x.l.name), C.d (D.sl x.l.opers.cl.nn (x.l.opers.cl.l.map TOpr.c)), C.d (D.int .i64 x.v.add), C.d (D.str x.v.plus), C.d (D.str x.v.minus), C.d (D.int .i64 x.size), C.d (D.sl x.b.cl.nn (x.b.cl.l.map u8c)), C.d (D.int .i64 x.align)] := rfl
theorem addAll_nil (ps : List OPrt) (q : Nat) : ps.modify q (·.addAll []) = ps := by
  apply List.ext_getElem?
  intro i
  rw [List.getElem?_modify]
  by_cases h : q = i
  · subst h; cases ps[q]? <;> simp [OPrt.addAll]
  · simp [h]
theorem addAll_add (ps : List OPrt) (q : Nat) (l : List TPce) (x : TPce) : (ps.modify q (·.addAll l)).modify q (·.add x) = ps.modify q (·.addAll (l ++ [x])) := by
  apply List.ext_getElem?
  intro i
  simp only [List.getElem?_modify]
  by_cases h : q = i
  · subst h; cases ps[q]? <;> simp [OPrt.addAll, OPrt.add]
  · simp [h]
theorem at_addAll (l : List TPce) : ∀ (ps : List OPrt) (i : Nat), atOf (ps.modify i (·.addAll l)) = atOf ps := by
  intro ps i
  suffices h : ∀ (ps : List OPrt) (i j : Nat), atGo j (ps.modify i (·.addAll l)) = atGo j ps from h ps i 0
  intro ps
  induction ps with
  | nil => intro i j; cases i <;> rfl
  | cons p ps ih =>
    intro i j
    cases i with
    | zero => rfl
    | succ i => simp only [List.modify_succ_cons, atGo, ih]
theorem l16a (un : Bool) (us : List TUnt) (i : Nat) (x : TUnt) (ps : List OPrt) (ms : List TMrk) (gs : List TTld) (n7 n8 : Nat) (o7 o8 o17 : Ob) (k q : Nat) (y : TPrt) (hp : HL)
    (hq : q < ps.length) (hk : ps[q].pieces.length + y.pieces.l.length < 2 ^ 29) (hy : ∀ x ∈ y.pieces.l, x.ok) :
    Lp pg i16_l4 (s4 un us i x ps ms gs n7 n8 o7 o8 o17 k q y 0 hp) (.exit 4) (s4e un us i x (ps.modify q (·.addAll (y.pieces.l.map TPce.cln))) ms gs n7 n8 o7 o8 o17 k q y y.pieces.l.length hp) := by
  have key := Lp.count (p := pg) (b := i16_l4) (id := 4) (n := y.pieces.l.length) (S := fun h => s4 un us i x (ps.modify q (·.addAll ((y.pieces.l.take h).map TPce.cln))) ms gs n7 n8 o7 o8 o17 k q y h hp)
    (T := s4e un us i x (ps.modify q (·.addAll (y.pieces.l.map TPce.cln))) ms gs n7 n8 o7 o8 o17 k q y y.pieces.l.length hp)
    (fun h hh => ?_) (by rw [List.take_length]; exact w16a_0 un us i x _ ms gs n7 n8 o7 o8 o17 k q y y.pieces.l.length hp (nltd _))
  · simpa only [List.take_zero, List.map_nil, addAll_nil] using key
  · have hg : y.pieces.l[h]? = some y.pieces.l[h] := List.getElem?_eq_getElem hh
    have hp2 : (ps.modify q (·.addAll ((y.pieces.l.take h).map TPce.cln)))[q]? = some (ps[q].addAll ((y.pieces.l.take h).map TPce.cln)) := by
      rw [List.getElem?_modify, List.getElem?_eq_getElem hq]; simp
    have hb := hy _ (List.getElem_mem hh)
    refine (w16a_1 un us i x (ps.modify q (·.addAll ((y.pieces.l.take h).map TPce.cln))) ms gs n7 n8 o7 o8 o17 k q y h hp y.pieces.l[h] (ps[q].addAll ((y.pieces.l.take h).map TPce.cln)) (ltd hh) (map_get (f := TPce.c) hg) (f32 _ [] hb.1) (f33 _ [] hb.2) (by simpa using hq)
      (cellAtM hp2 rfl) rfl (by simp [OPrt.addAll, room_eq]; omega) (by simp) (sc_get hp2)).to ?_
    rw [← cln_oc, sc_put hp2, addAll_add, wrap64 (by omega) (by omega)]
    have e : (y.pieces.l.take h).map TPce.cln ++ [(y.pieces.l[h]).cln] = (y.pieces.l.take (h + 1)).map TPce.cln := by
      rw [List.take_succ_eq_append_getElem hh, List.map_append]; rfl
    rw [e]
    rfl
end Go.Proofs.YtgmphfmoonbfpaaMv

namespace Go.Proofs.YtgmphfmoonbfpaaMv
open Go
theorem sum_take_get {α : Type} (f : α → Nat) (l : List α) (k : Nat) (h : k < l.length) : ((l.take k).map f).sum + f l[k] ≤ (l.map f).sum := by
  have e : l = l.take k ++ l[k] :: l.drop (k + 1) := by simp
  have : (l.map f).sum = ((l.take k).map f).sum + (f l[k] + ((l.drop (k + 1)).map f).sum) := by
    conv => lhs; rw [e]
    rw [List.map_append, List.sum_append, List.map_cons, List.sum_cons]
  omega
theorem foldl_take_succ {α β : Type} (f : β → α → β) (b : β) (l : List α) (k : Nat) (h : k < l.length) : (l.take (k + 1)).foldl f b = f ((l.take k).foldl f b) l[k] := by
  rw [List.take_succ_eq_append_getElem h, List.foldl_append]; rfl
theorem l16b (un : Bool) (us : List TUnt) (i : Nat) (x : TUnt) (ps : List OPrt) (ms : List TMrk) (gs : List TTld) (hp : HL) (K : Nat)
    (hK : psLe ps K) (hw : K + (x.parts.l.map TPrt.wt).sum < 2 ^ 28) (ok : x.ok) :
    Lp pg i16_l2 (s2 un us i x ps ms gs [] [] 0 hp) (.exit 2)
      (s2e un us i x (x.parts.l.foldl JP.step ⟨ps, [], []⟩).ps ms gs (x.parts.l.foldl JP.step ⟨ps, [], []⟩).a7 (x.parts.l.foldl JP.step ⟨ps, [], []⟩).a8 x.parts.l.length hp) := by
  refine Lp.count (p := pg) (b := i16_l2) (id := 2) (n := x.parts.l.length) (S := fun k => s2 un us i x ((x.parts.l.take k).foldl JP.step ⟨ps, [], []⟩).ps ms gs ((x.parts.l.take k).foldl JP.step ⟨ps, [], []⟩).a7 ((x.parts.l.take k).foldl JP.step ⟨ps, [], []⟩).a8 k hp)
    (fun k hk => ?_) (by rw [List.take_length]; exact w16b_0 un us i x _ ms gs _ _ x.parts.l.length hp (nltd _))
  have hj := psLe.fold (x.parts.l.take k) ⟨ps, [], []⟩ K hK
  have h7 := JP.len7 (x.parts.l.take k) ⟨ps, [], []⟩
  have h8 := JP.len8 (x.parts.l.take k) ⟨ps, [], []⟩
  have hsum := sum_take_get TPrt.wt x.parts.l k hk
  have hpn := ok _ (List.getElem_mem hk)
  have hg : x.parts.l[k]? = some x.parts.l[k] := List.getElem?_eq_getElem hk
  have hlt : x.parts.l.length ≤ (x.parts.l.map TPrt.wt).sum := by
    have : ∀ l : List TPrt, l.length ≤ (l.map TPrt.wt).sum := by
      intro l; induction l with
      | nil => simp
      | cons p l ih => simp [TPrt.wt]; omega
    exact this _
  simp only [foldl_take_succ JP.step _ _ k hk]
  generalize hjd : (x.parts.l.take k).foldl JP.step ⟨ps, [], []⟩ = j at *
  generalize hpd : x.parts.l[k] = p at *
  have hwt : p.wt = p.pieces.l.length + 1 := rfl
  simp only [List.length_nil, Nat.zero_add, List.length_take] at h7 h8
  cases hi : idxGo p.name 0 j.ps with
  | none =>
    have he : ensure j.ps p = j.ps ++ [p.new] := by simp [ensure, hi]
    have hx : pidx j.ps p = j.ps.length := by simp [pidx, hi]
    have hpl : plenAt (j.ps ++ [p.new]) j.ps.length = 0 := by simp [plenAt, TPrt.new]
    have c2 : findD false [2] (D.str p.name) (atOf j.ps) = some none := (find_at p.name j.ps 0).trans (by rw [hi]; rfl)
    have c4 := put_at p.new j.ps 0 hi
    have hl := l16a un us i x (j.ps ++ [p.new]) ms gs (j.a7.length + 1) (j.a8.length + 1) (Ob.row false 1 false ((j.a7.map icc) ++ [[C.d (D.int .i64 ((j.ps.length : Nat) : Int))]])) (Ob.row false 1 false ((j.a8.map icc) ++ [[C.d (D.int .i64 ((0 : Nat) : Int))]]))
      (Ob.map (atOf (j.ps ++ [p.new]))) k j.ps.length p hp (by simp) (by simp [TPrt.new]; omega) hpn
    simp only [s4, s4e, List.map_append, List.map_cons, List.map_nil] at hl
    refine (w16b_1 un us i x j.ps ms gs j.a7 j.a8 k hp p (atOf (j.ps ++ [p.new])) p.new ((j.ps ++ [p.new]).modify j.ps.length (·.addAll (p.pieces.l.map TPce.cln))) (ltd hk) (map_get (f := TPrt.c) hg) c2 (by rw [c2]; rfl)
      (by simpa [atOf, TPrt.new] using c4) rfl (by have := hj.len; simp [room_eq]; omega) (by simp) rfl (by simp) (by simp [room_eq]; omega) (by simp) (by simp [cellAt, TPrt.new]) rfl (by simp) (by simp [room_eq]; omega) (by simp only [List.length_map]; exact hl)).to ?_
    rw [wrap64 (by omega) (by omega)]
    simp [s2, JP.step, he, hx, hpl, icc, show p.new.pieces = [] from rfl, at_addAll]
  | some q =>
    have he : ensure j.ps p = j.ps := by simp [ensure, hi]
    have hx : pidx j.ps p = q := by simp [pidx, hi]
    obtain ⟨_, hq, _⟩ := idxGo_lt _ _ _ _ hi
    have hq : q < j.ps.length := by omega
    have hpq : j.ps[q]? = some j.ps[q] := List.getElem?_eq_getElem hq
    have hpl : plenAt j.ps q = j.ps[q].pieces.length := by simp [plenAt, hpq]
    have c2 : findD false [2] (D.str p.name) (atOf j.ps) = some (some (D.int .i64 ((q : Nat) : Int))) := (find_at p.name j.ps 0).trans (by rw [hi]; rfl)
    have hb := hj.pieces _ (List.getElem_mem hq)
    have hl := l16a un us i x j.ps ms gs (j.a7.length + 1) (j.a8.length + 1) (Ob.row false 1 false ((j.a7.map icc) ++ [[C.d (D.int .i64 ((q : Nat) : Int))]])) (Ob.row false 1 false ((j.a8.map icc) ++ [[C.d (D.int .i64 ((j.ps[q].pieces.length : Nat) : Int))]]))
      (Ob.map (atOf j.ps)) k q p hp hq (by omega) hpn
    refine (w16b_2 un us i x j.ps ms gs j.a7 j.a8 k hp p q j.ps[q] (j.ps.modify q (·.addAll (p.pieces.l.map TPce.cln))) (ltd hk) (map_get (f := TPrt.c) hg) c2
      rfl (by simp) (by simp [room_eq]; omega) (by simpa using hq) (cellAtM hpq rfl) rfl (by simp) (by simp [room_eq]; omega) (by simp only [List.length_map]; exact hl)).to ?_
    rw [wrap64 (by omega) (by omega)]
    simp [s2, JP.step, he, hx, hpl, icc, at_addAll]
theorem l16c (un : Bool) (us : List TUnt) (i : Nat) (x : TUnt) (ps : List OPrt) (ms : List TMrk) (gs : List TTld) (as7 as8 : List Int) (hp : HL)
    (h78 : as8.length = as7.length) (hw : ms.length + x.marks.l.length < 2 ^ 28) :
    Lp pg i16_l6 (s6 un us i x ps ms gs as7 as8 0 hp) (.exit 6) (s6e un us i x ps (ms ++ x.marks.l.map (markJ as7 as8)) gs as7 as8 x.marks.l.length hp) := by
  have key := Lp.count (p := pg) (b := i16_l6) (id := 6) (n := x.marks.l.length) (S := fun h => s6 un us i x ps (ms ++ (x.marks.l.take h).map (markJ as7 as8)) gs as7 as8 h hp)
    (T := s6e un us i x ps (ms ++ x.marks.l.map (markJ as7 as8)) gs as7 as8 x.marks.l.length hp)
    (fun h hh => ?_) (by rw [List.take_length]; exact w16c_0 un us i x ps _ gs as7 as8 x.marks.l.length hp (nltd _))
  · simpa only [List.take_zero, List.map_nil, List.append_nil] using key
  · have hg : x.marks.l[h]? = some x.marks.l[h] := List.getElem?_eq_getElem hh
    have e : (x.marks.l.take (h + 1)).map (markJ as7 as8) = (x.marks.l.take h).map (markJ as7 as8) ++ [markJ as7 as8 x.marks.l[h]] := by
      rw [List.take_succ_eq_append_getElem hh, List.map_append]; rfl
    rw [e, ← List.append_assoc]
    have hl : (ms ++ (x.marks.l.take h).map (markJ as7 as8)).length < 2 ^ 28 := by simp; omega
    generalize ms ++ (x.marks.l.take h).map (markJ as7 as8) = m1 at hl ⊢
    generalize x.marks.l[h] = y at hg ⊢
    have hr : (((m1.map TMrk.oc).length) + 1) * 96 ≤ room := by simp [room_eq]; omega
    by_cases h0 : 0 ≤ y.part
    · by_cases h1 : y.part < (as7.length : Int)
      · have hk : y.part.toNat < as7.length := by omega
        have hk8 : y.part.toNat < as8.length := by omega
        have g7 : as7[y.part.toNat]? = some as7[y.part.toNat] := List.getElem?_eq_getElem hk
        have g8 : as8[y.part.toNat]? = some as8[y.part.toNat] := List.getElem?_eq_getElem hk8
        refine (w16c_3 un us i x ps m1 gs as7 as8 h hp y y.part.toNat as7[y.part.toNat] as8[y.part.toNat] (ltd hh) (map_get (f := TMrk.c) hg) (by simpa using h0) (by simpa using h1) (by omega) hk (cellAtM g7 rfl) hk8 (cellAtM g8 rfl) rfl hr (by simp)).to ?_
        rw [wrap64 (by omega) (by omega)]
        have em : markJ as7 as8 y = { y with part := as7[y.part.toNat], piece := IntKind.i64.wrap (y.piece + as8[y.part.toNat]) } := by simp [markJ, h0, h1, g7, g8]
        rw [em]
        simp only [s6, List.map_append]
        rfl
      · refine (w16c_2 un us i x ps m1 gs as7 as8 h hp y (ltd hh) (map_get (f := TMrk.c) hg) (by simpa using h0) (by simpa using h1) rfl hr (by simp)).to ?_
        rw [wrap64 (by omega) (by omega)]
        have em : markJ as7 as8 y = { y with part := -1, piece := 0 } := by simp [markJ, h0, h1]
        rw [em]
        simp only [s6, List.map_append]
        rfl
    · refine (w16c_1 un us i x ps m1 gs as7 as8 h hp y (ltd hh) (map_get (f := TMrk.c) hg) (by simpa using h0) rfl hr (by simp)).to ?_
      rw [wrap64 (by omega) (by omega)]
      have em : markJ as7 as8 y = { y with part := -1, piece := 0 } := by simp [markJ, h0]
      rw [em]
      simp only [s6, List.map_append]
      rfl
structure JU.le (j : JU) (k : Nat) : Prop where
  parts : psLe j.parts k
  marks : j.marks.length ≤ k
  globals : j.globals.length ≤ k
theorem JU.le_join {j : JU} {k : Nat} (h : j.le k) (u : TUnt) : (j.join u).le (k + u.wt) := by
  refine ⟨(psLe.fold u.parts.l ⟨j.parts, [], []⟩ k h.parts).mono (by simp [TUnt.wt]; omega), ?_, ?_⟩
  · have := h.marks; simp [JU.join, TUnt.wt]; omega
  · have := h.globals; simp [JU.join, TUnt.wt]; omega
def wtus (us : List TUnt) : Nat := (us.map TUnt.wt).sum
theorem JU.le_fold : ∀ (us : List TUnt) {j : JU} {k : Nat}, j.le k → (us.foldl JU.join j).le (k + wtus us)
  | [], j, k, h => h
  | u :: us, j, k, h => by
    rw [List.foldl_cons, wtus, List.map_cons, List.sum_cons, ← Nat.add_assoc]
    exact JU.le_fold us (j.le_join h u)
theorem tld_app (gs l : List TTld) : gs.map TTld.oc ++ List.map (ownify []) (List.map (fun x => List.map C.d x) (l.map TTld.c)) = (gs ++ l).map TTld.oc := by
  rw [List.map_append]
  congr 1
  rw [List.map_map, List.map_map]
  rfl
theorem l16d (un : Bool) (us : List TUnt) (hp : HL) (hw : wtus us < 2 ^ 28) (hl : us.length < 2 ^ 28) (ok : ∀ u ∈ us, u.ok) :
    Lp pg i16_l0 (s0 un us 0 [] [] [] hp) (.exit 0) (s0e un us us.length (joinM us).parts (joinM us).marks (joinM us).globals hp) := by
  refine Lp.count (p := pg) (b := i16_l0) (id := 0) (n := us.length) (S := fun i => s0 un us i (joinM (us.take i)).parts (joinM (us.take i)).marks (joinM (us.take i)).globals hp)
    (fun i hi => ?_) (by rw [List.take_length]; exact w16d_0 un us us.length _ _ _ hp (nltd _))
  have hj : (joinM (us.take i)).le (0 + wtus (us.take i)) := JU.le_fold (us.take i) ⟨⟨by simp, by simp⟩, by simp, by simp⟩
  have hsum := sum_take_get TUnt.wt us i hi
  have hok := ok _ (List.getElem_mem hi)
  have hg : us[i]? = some us[i] := List.getElem?_eq_getElem hi
  have e : joinM (us.take (i + 1)) = (joinM (us.take i)).join us[i] := foldl_take_succ _ _ _ _ hi
  rw [e]
  simp only [wtus] at hw hj
  generalize joinM (us.take i) = j at hj ⊢
  generalize hu : us[i] = u at hsum hok hg ⊢
  have hwu : u.wt = (u.parts.l.map TPrt.wt).sum + u.marks.l.length + u.globals.l.length := rfl
  have h7 := JP.len7 u.parts.l ⟨j.parts, [], []⟩
  have h8 := JP.len8 u.parts.l ⟨j.parts, [], []⟩
  have h2 := l16b un us i u j.parts j.marks j.globals hp _ hj.parts (by omega) hok
  have h6 := l16c un us i u (u.parts.l.foldl JP.step ⟨j.parts, [], []⟩).ps j.marks j.globals (u.parts.l.foldl JP.step ⟨j.parts, [], []⟩).a7 (u.parts.l.foldl JP.step ⟨j.parts, [], []⟩).a8 hp (by rw [h7, h8]) (by have := hj.marks; omega)
  refine (w16d_1 un us i j.parts j.marks j.globals hp u _ _ _ _ (ltd hi) (map_get (f := TUnt.c) hg) (by simp only [List.length_map]; exact h2) (by simp only [List.length_map]; exact h6) (all_len (f := TTld.c) (fun _ => rfl) _) (by have := hj.globals; simp [room_eq]; omega) (by simp)).to ?_
  rw [wrap64 (by omega) (by omega), tld_app]
  rfl
theorem f16 (un : Bool) (us : List TUnt) (hp : HL) (hw : wtus us < 2 ^ 28) (hl : us.length < 2 ^ 28) (ok : ∀ u ∈ us, u.ok) :
    Rn pg 16 [V.d (D.sl un (us.map TUnt.c))] hp (V.d (D.agg (joinM us).unt.c)) hp := by
  have h0 := l16d un us hp hw hl ok
  have r := w16_0 un us hp (joinM us).parts (joinM us).marks (joinM us).globals (by simp only [List.length_map]; exact h0) (by simp only [fzBs, fzB, fzC, Option.bind_some, Option.map_some, fzCss_map fzPrt, fzCss_map fzMrk, fzCss_map fzTld])
  have e : (joinM us).unt.c = [D.sl false ((joinM us).parts.map (fun p => TPrt.c p.t)), D.sl false ((joinM us).marks.map TMrk.c), D.sl false ((joinM us).globals.map TTld.c)] := by
    simp only [JU.unt, TUnt.c, List.map_map]; rfl
  rw [e]
  exact r
end Go.Proofs.YtgmphfmoonbfpaaMv

namespace Go.Proofs.YtgmphfmoonbfpaaMv
open Go
def Dn (ps : List OPrt) : Prop := (ps.map (·.name)).Nodup
structure Nm (t : JU) : Prop where
  dn : Dn t.parts
  marks : ∀ m ∈ t.marks, (0 ≤ m.part ∧ m.part < (t.parts.length : Int)) ∨ (m.part = -1 ∧ m.piece = 0)
end Go.Proofs.YtgmphfmoonbfpaaMv

namespace Go.Proofs.YtgmphfmoonbfpaaMv
open Go
def TPrt.o (p : TPrt) : OPrt := ⟨p.name, p.file, p.line, p.pieces.l.map TPce.er⟩
def JU.er (j : JU) : JU := ⟨j.parts.map OPrt.er, j.marks, j.globals⟩
def ju0 : JU := ⟨[], [], []⟩
def pw (ps : List OPrt) : Nat := (ps.map fun p => p.pieces.length + 1).sum
theorem pw_modify (l : List TPce) : ∀ (ps : List OPrt) (k : Nat), pw (ps.modify k (·.addAll l)) ≤ pw ps + l.length
  | [], k => by cases k <;> simp [pw]
  | q :: ps, 0 => by simp [pw, OPrt.addAll]; omega
  | q :: ps, k + 1 => by
    have := pw_modify l ps k
    simp only [pw, List.modify_succ_cons, List.map_cons, List.sum_cons] at this ⊢
    omega
theorem pw_step (j : JP) (p : TPrt) : pw (j.step p).ps ≤ pw j.ps + p.wt := by
  have h := pw_modify (p.pieces.l.map TPce.cln) (ensure j.ps p) (pidx j.ps p)
  have h2 : pw (ensure j.ps p) ≤ pw j.ps + 1 := by
    unfold ensure
    split
    · omega
    · simp [pw, TPrt.new]
  simp only [JP.step, TPrt.wt]
  simp only [List.length_map] at h
  omega
theorem pw_fold : ∀ (l : List TPrt) (j : JP), pw (l.foldl JP.step j).ps ≤ pw j.ps + (l.map TPrt.wt).sum
  | [], j => Nat.le_refl _
  | p :: l, j => by
    have h1 := pw_fold l (j.step p)
    have h2 := pw_step j p
    simp only [List.foldl_cons, List.map_cons, List.sum_cons]
    omega
theorem unt_wt (j : JU) : j.unt.wt = pw j.parts + j.marks.length + j.globals.length := by
  simp only [TUnt.wt, JU.unt, pw, List.map_map]
  rfl
theorem wt_join (j : JU) (u : TUnt) : (j.join u).unt.wt ≤ j.unt.wt + u.wt := by
  have := pw_fold u.parts.l ⟨j.parts, [], []⟩
  simp only [unt_wt]
  simp [JU.join, TUnt.wt]
  simp at this
  omega
theorem wt_joins : ∀ (us : List TUnt) (j : JU), (us.foldl JU.join j).unt.wt ≤ j.unt.wt + (us.map TUnt.wt).sum
  | [], j => by simp
  | u :: us, j => by
    have h1 := wt_joins us (j.join u)
    have h2 := wt_join j u
    simp only [List.foldl_cons, List.map_cons, List.sum_cons]
    omega
theorem wt_joinM (us : List TUnt) : (joinM us).unt.wt ≤ (us.map TUnt.wt).sum := by
  have := wt_joins us ju0
  have h0 : ju0.unt.wt = 0 := rfl
  rw [h0, Nat.zero_add] at this
  exact this
theorem pw_len (ps : List OPrt) : ps.length ≤ pw ps := by
  induction ps with
  | nil => simp
  | cons p ps ih => simp [pw] at ih ⊢; omega
def psOk (ps : List OPrt) : Prop := ∀ p ∈ ps, ∀ x ∈ p.pieces, x.ok
theorem ok_step {j : JP} (h : psOk j.ps) (p : TPrt) (hp : ∀ x ∈ p.pieces.l, x.ok) : psOk (j.step p).ps := by
  have he : psOk (ensure j.ps p) := by
    unfold ensure
    split
    · exact h
    · intro q hq x hx
      simp only [List.mem_append, List.mem_singleton] at hq
      rcases hq with hq | rfl
      · exact h q hq x hx
      · simp [TPrt.new] at hx
  intro q hq x hx
  obtain ⟨i, hi, rfl⟩ := List.mem_iff_getElem.1 hq
  simp only [JP.step, List.length_modify] at hi
  simp only [JP.step, List.getElem_modify] at hx
  have hm := List.getElem_mem hi
  split at hx
  · simp only [OPrt.addAll, List.mem_append, List.mem_map] at hx
    rcases hx with hx | ⟨y, hy, rfl⟩
    · exact he _ hm x hx
    · exact hp y hy
  · exact he _ hm x hx
theorem ok_fold : ∀ (l : List TPrt) (j : JP), psOk j.ps → (∀ p ∈ l, ∀ x ∈ p.pieces.l, x.ok) → psOk (l.foldl JP.step j).ps
  | [], j, h, _ => h
  | p :: l, j, h, hl => ok_fold l _ (ok_step h p (hl p List.mem_cons_self)) (fun q hq => hl q (List.mem_cons_of_mem _ hq))
theorem ok_joins : ∀ (us : List TUnt) (j : JU), psOk j.parts → (∀ u ∈ us, u.ok) → psOk (us.foldl JU.join j).parts
  | [], j, h, _ => h
  | u :: us, j, h, hl => by
    rw [List.foldl_cons]
    exact ok_joins us _ (ok_fold u.parts.l ⟨j.parts, [], []⟩ h (hl u List.mem_cons_self)) (fun v hv => hl v (List.mem_cons_of_mem _ hv))
theorem ok_joinM {us : List TUnt} (h : ∀ u ∈ us, u.ok) : (joinM us).unt.ok := by
  intro p hp x hx
  simp only [JU.unt, List.mem_map] at hp
  obtain ⟨q, hq, rfl⟩ := hp
  exact ok_joins us ju0 (by intro p hp; simp [ju0] at hp) h q hq x hx
end Go.Proofs.YtgmphfmoonbfpaaMv

set_option maxRecDepth 100000
namespace Go.Proofs.YtgmphfmoonbfpaaMv
open Go
theorem w15i_0 (un : Bool) (us : List TUnt) (vn : Bool) (vs : List TUnt) (n : Int) (i : Nat) (x : TUnt) (k : Nat) (hp : HL)
    (c0 : (decide (((k : Nat) : Int) < ((x.parts.l.length : Nat) : Int))) = false) :
    Ev pg i15_l2 ⟨[(0, V.d (D.sl un (us.map TUnt.c))), (3, V.d (D.int .i64 n)), (12, V.d (D.sl vn (vs.map TUnt.c))), (13, V.d (D.int .i64 ((vs.length : Nat) : Int))), (14, V.d (D.int .i64 ((i : Nat) : Int))), (35, V.d (D.sl x.parts.nn (x.parts.l.map TPrt.c))), (36, V.d (D.int .i64 ((x.parts.l.length : Nat) : Int))), (37, V.d (D.int .i64 ((k : Nat) : Int)))], [] :: hp⟩ (.exit 2) ⟨[(0, V.d (D.sl un (us.map TUnt.c))), (3, V.d (D.int .i64 n)), (12, V.d (D.sl vn (vs.map TUnt.c))), (13, V.d (D.int .i64 ((vs.length : Nat) : Int))), (14, V.d (D.int .i64 ((i : Nat) : Int))), (35, V.d (D.sl x.parts.nn (x.parts.l.map TPrt.c))), (36, V.d (D.int .i64 ((x.parts.l.length : Nat) : Int))), (37, V.d (D.int .i64 ((k : Nat) : Int))), (38, V.d (D.bool false))], [] :: hp⟩ :=
  by
  have r : Ev pg i15_l2 ⟨[(0, V.d (D.sl un (us.map TUnt.c))), (3, V.d (D.int .i64 n)), (12, V.d (D.sl vn (vs.map TUnt.c))), (13, V.d (D.int .i64 ((vs.length : Nat) : Int))), (14, V.d (D.int .i64 ((i : Nat) : Int))), (35, V.d (D.sl x.parts.nn (x.parts.l.map TPrt.c))), (36, V.d (D.int .i64 ((x.parts.l.length : Nat) : Int))), (37, V.d (D.int .i64 ((k : Nat) : Int)))], [] :: hp⟩ (.exit 2) ⟨[(0, V.d (D.sl un (us.map TUnt.c))), (3, V.d (D.int .i64 n)), (12, V.d (D.sl vn (vs.map TUnt.c))), (13, V.d (D.int .i64 ((vs.length : Nat) : Int))), (14, V.d (D.int .i64 ((i : Nat) : Int))), (35, V.d (D.sl x.parts.nn (x.parts.l.map TPrt.c))), (36, V.d (D.int .i64 ((x.parts.l.length : Nat) : Int))), (37, V.d (D.int .i64 ((k : Nat) : Int))), (38, V.d (D.bool (decide (((k : Nat) : Int) < ((x.parts.l.length : Nat) : Int)))))], [] :: hp⟩ :=
  codeC_ok (hs := [.b false]) (hs' := []) (cs := [_]) (by kernel_rfl) ⟨c0, trivial⟩
  simp only [c0] at r
  exact r
theorem w15i_1 (un : Bool) (us : List TUnt) (vn : Bool) (vs : List TUnt) (n : Int) (i : Nat) (x : TUnt) (k : Nat) (hp : HL) (x1 : TPrt)
    (c0 : (decide (((k : Nat) : Int) < ((x.parts.l.length : Nat) : Int))) = true)
    (c1 : (x.parts.l.map TPrt.c)[k]? = some [D.str x1.name, D.int .i64 x1.file, D.int .i64 x1.line, D.sl x1.pieces.nn (x1.pieces.l.map TPce.c)]) :
    Ev pg i15_l2 ⟨[(0, V.d (D.sl un (us.map TUnt.c))), (3, V.d (D.int .i64 n)), (12, V.d (D.sl vn (vs.map TUnt.c))), (13, V.d (D.int .i64 ((vs.length : Nat) : Int))), (14, V.d (D.int .i64 ((i : Nat) : Int))), (35, V.d (D.sl x.parts.nn (x.parts.l.map TPrt.c))), (36, V.d (D.int .i64 ((x.parts.l.length : Nat) : Int))), (37, V.d (D.int .i64 ((k : Nat) : Int)))], [] :: hp⟩ .normal ⟨[(0, V.d (D.sl un (us.map TUnt.c))), (3, V.d (D.int .i64 ((if decide (1048576 < (IntKind.i64.wrap (n + (((x1.pieces.l.map TPce.c).length : Nat) : Int)))) = true then 1048576 else (IntKind.i64.wrap (n + (((x1.pieces.l.map TPce.c).length : Nat) : Int))))))), (12, V.d (D.sl vn (vs.map TUnt.c))), (13, V.d (D.int .i64 ((vs.length : Nat) : Int))), (14, V.d (D.int .i64 ((i : Nat) : Int))), (35, V.d (D.sl x.parts.nn (x.parts.l.map TPrt.c))), (36, V.d (D.int .i64 ((x.parts.l.length : Nat) : Int))), (37, V.d (D.int .i64 (IntKind.i64.wrap (((k : Nat) : Int) + 1))))], [] :: hp⟩ :=
  codeC_ok (hs := [.b true, .n k, .ds [D.str x1.name, D.int .i64 x1.file, D.int .i64 x1.line, D.sl x1.pieces.nn (x1.pieces.l.map TPce.c)]]) (hs' := []) (cs := [_, ((k : Nat) : Int) = ((k : Nat) : Int), _]) (by kernel_rfl) ⟨c0, rfl, c1, trivial⟩
theorem w15o_0 (un : Bool) (us : List TUnt) (vn : Bool) (vs : List TUnt) (n : Int) (i : Nat) (hp : HL)
    (c0 : (decide (((i : Nat) : Int) < ((vs.length : Nat) : Int))) = false) :
    Ev pg i15_l0 ⟨[(0, V.d (D.sl un (us.map TUnt.c))), (3, V.d (D.int .i64 n)), (12, V.d (D.sl vn (vs.map TUnt.c))), (13, V.d (D.int .i64 ((vs.length : Nat) : Int))), (14, V.d (D.int .i64 ((i : Nat) : Int)))], [] :: hp⟩ (.exit 0) ⟨[(0, V.d (D.sl un (us.map TUnt.c))), (3, V.d (D.int .i64 n)), (12, V.d (D.sl vn (vs.map TUnt.c))), (13, V.d (D.int .i64 ((vs.length : Nat) : Int))), (14, V.d (D.int .i64 ((i : Nat) : Int))), (15, V.d (D.bool false))], [] :: hp⟩ :=
  by
  have r : Ev pg i15_l0 ⟨[(0, V.d (D.sl un (us.map TUnt.c))), (3, V.d (D.int .i64 n)), (12, V.d (D.sl vn (vs.map TUnt.c))), (13, V.d (D.int .i64 ((vs.length : Nat) : Int))), (14, V.d (D.int .i64 ((i : Nat) : Int)))], [] :: hp⟩ (.exit 0) ⟨[(0, V.d (D.sl un (us.map TUnt.c))), (3, V.d (D.int .i64 n)), (12, V.d (D.sl vn (vs.map TUnt.c))), (13, V.d (D.int .i64 ((vs.length : Nat) : Int))), (14, V.d (D.int .i64 ((i : Nat) : Int))), (15, V.d (D.bool (decide (((i : Nat) : Int) < ((vs.length : Nat) : Int)))))], [] :: hp⟩ :=
  codeC_ok (hs := [.b false]) (hs' := []) (cs := [_]) (by kernel_rfl) ⟨c0, trivial⟩
  simp only [c0] at r
  exact r
theorem w15o_1 (un : Bool) (us : List TUnt) (vn : Bool) (vs : List TUnt) (n : Int) (i : Nat) (hp : HL) (x1 : TUnt) (m2 : Int)
    (c0 : (decide (((i : Nat) : Int) < ((vs.length : Nat) : Int))) = true)
    (c1 : (vs.map TUnt.c)[i]? = some [D.sl x1.parts.nn (x1.parts.l.map TPrt.c), D.sl x1.marks.nn (x1.marks.l.map TMrk.c), D.sl x1.globals.nn (x1.globals.l.map TTld.c)])
    (c2 : (decide ((((x1.parts.l.map TPrt.c).length : Nat) : Int) > 150)) = false)
    (c3 : (decide ((((x1.marks.l.map TMrk.c).length : Nat) : Int) > 300)) = false)
    (c4 : (decide ((((x1.globals.l.map TTld.c).length : Nat) : Int) > 300)) = false)
    (c5 : Lp pg i15_l2 ⟨[(0, V.d (D.sl un (us.map TUnt.c))), (3, V.d (D.int .i64 n)), (12, V.d (D.sl vn (vs.map TUnt.c))), (13, V.d (D.int .i64 ((vs.length : Nat) : Int))), (14, V.d (D.int .i64 ((i : Nat) : Int))), (35, V.d (D.sl x1.parts.nn (x1.parts.l.map TPrt.c))), (36, V.d (D.int .i64 (((x1.parts.l.map TPrt.c).length : Nat) : Int))), (37, V.d (D.int .i64 0))], [] :: hp⟩ (.exit 2) ⟨[(0, V.d (D.sl un (us.map TUnt.c))), (3, V.d (D.int .i64 m2)), (12, V.d (D.sl vn (vs.map TUnt.c))), (13, V.d (D.int .i64 ((vs.length : Nat) : Int))), (14, V.d (D.int .i64 ((i : Nat) : Int))), (35, V.d (D.sl x1.parts.nn (x1.parts.l.map TPrt.c))), (36, V.d (D.int .i64 ((x1.parts.l.length : Nat) : Int))), (37, V.d (D.int .i64 ((x1.parts.l.length : Nat) : Int))), (38, V.d (D.bool false))], [] :: hp⟩) :
    Ev pg i15_l0 ⟨[(0, V.d (D.sl un (us.map TUnt.c))), (3, V.d (D.int .i64 n)), (12, V.d (D.sl vn (vs.map TUnt.c))), (13, V.d (D.int .i64 ((vs.length : Nat) : Int))), (14, V.d (D.int .i64 ((i : Nat) : Int)))], [] :: hp⟩ .normal ⟨[(0, V.d (D.sl un (us.map TUnt.c))), (3, V.d (D.int .i64 m2)), (12, V.d (D.sl vn (vs.map TUnt.c))), (13, V.d (D.int .i64 ((vs.length : Nat) : Int))), (14, V.d (D.int .i64 (IntKind.i64.wrap (((i : Nat) : Int) + 1))))], [] :: hp⟩ :=
  codeC_ok (hs := [.b true, .n i, .ds [D.sl x1.parts.nn (x1.parts.l.map TPrt.c), D.sl x1.marks.nn (x1.marks.l.map TMrk.c), D.sl x1.globals.nn (x1.globals.l.map TTld.c)], .b false, .b false, .b false, .b false, .b false, .b false, .b false, .b false, .b false, .b false, .b false, .lp (.exit 2) ⟨[(0, V.d (D.sl un (us.map TUnt.c))), (3, V.d (D.int .i64 m2)), (12, V.d (D.sl vn (vs.map TUnt.c))), (13, V.d (D.int .i64 ((vs.length : Nat) : Int))), (14, V.d (D.int .i64 ((i : Nat) : Int))), (35, V.d (D.sl x1.parts.nn (x1.parts.l.map TPrt.c))), (36, V.d (D.int .i64 ((x1.parts.l.length : Nat) : Int))), (37, V.d (D.int .i64 ((x1.parts.l.length : Nat) : Int))), (38, V.d (D.bool false))], [] :: hp⟩]) (hs' := []) (cs := [_, ((i : Nat) : Int) = ((i : Nat) : Int), _, _, _, _, _, _, _, _, _, _, _, _, _]) (by kernel_rfl) ⟨c0, rfl, c1, c2, c2, c2, c2, c2, c3, c3, c3, c3, c3, c4, c5, trivial⟩
theorem w15o_2 (un : Bool) (us : List TUnt) (vn : Bool) (vs : List TUnt) (n : Int) (i : Nat) (hp : HL) (x1 : TUnt)
    (c0 : (decide (((i : Nat) : Int) < ((vs.length : Nat) : Int))) = true)
    (c1 : (vs.map TUnt.c)[i]? = some [D.sl x1.parts.nn (x1.parts.l.map TPrt.c), D.sl x1.marks.nn (x1.marks.l.map TMrk.c), D.sl x1.globals.nn (x1.globals.l.map TTld.c)])
    (c2 : (decide ((((x1.parts.l.map TPrt.c).length : Nat) : Int) > 150)) = false)
    (c3 : (decide ((((x1.marks.l.map TMrk.c).length : Nat) : Int) > 300)) = false)
    (c4 : (decide ((((x1.globals.l.map TTld.c).length : Nat) : Int) > 300)) = true) :
    Ev pg i15_l0 ⟨[(0, V.d (D.sl un (us.map TUnt.c))), (3, V.d (D.int .i64 n)), (12, V.d (D.sl vn (vs.map TUnt.c))), (13, V.d (D.int .i64 ((vs.length : Nat) : Int))), (14, V.d (D.int .i64 ((i : Nat) : Int)))], [] :: hp⟩ .ret ⟨[(2, V.d (D.bool false))], [] :: hp⟩ :=
  codeC_ok (hs := [.b true, .n i, .ds [D.sl x1.parts.nn (x1.parts.l.map TPrt.c), D.sl x1.marks.nn (x1.marks.l.map TMrk.c), D.sl x1.globals.nn (x1.globals.l.map TTld.c)], .b false, .b false, .b false, .b false, .b false, .b false, .b false, .b false, .b false, .b false, .b true]) (hs' := []) (cs := [_, ((i : Nat) : Int) = ((i : Nat) : Int), _, _, _, _, _, _, _, _, _, _, _, _]) (by kernel_rfl) ⟨c0, rfl, c1, c2, c2, c2, c2, c2, c3, c3, c3, c3, c3, c4, trivial⟩
theorem w15o_3 (un : Bool) (us : List TUnt) (vn : Bool) (vs : List TUnt) (n : Int) (i : Nat) (hp : HL) (x1 : TUnt)
    (c0 : (decide (((i : Nat) : Int) < ((vs.length : Nat) : Int))) = true)
    (c1 : (vs.map TUnt.c)[i]? = some [D.sl x1.parts.nn (x1.parts.l.map TPrt.c), D.sl x1.marks.nn (x1.marks.l.map TMrk.c), D.sl x1.globals.nn (x1.globals.l.map TTld.c)])
    (c2 : (decide ((((x1.parts.l.map TPrt.c).length : Nat) : Int) > 150)) = false)
    (c3 : (decide ((((x1.marks.l.map TMrk.c).length : Nat) : Int) > 300)) = true) :
    Ev pg i15_l0 ⟨[(0, V.d (D.sl un (us.map TUnt.c))), (3, V.d (D.int .i64 n)), (12, V.d (D.sl vn (vs.map TUnt.c))), (13, V.d (D.int .i64 ((vs.length : Nat) : Int))), (14, V.d (D.int .i64 ((i : Nat) : Int)))], [] :: hp⟩ .ret ⟨[(2, V.d (D.bool false))], [] :: hp⟩ :=
  codeC_ok (hs := [.b true, .n i, .ds [D.sl x1.parts.nn (x1.parts.l.map TPrt.c), D.sl x1.marks.nn (x1.marks.l.map TMrk.c), D.sl x1.globals.nn (x1.globals.l.map TTld.c)], .b false, .b false, .b false, .b false, .b false, .b true, .b true, .b true, .b true, .b true, .b true]) (hs' := []) (cs := [_, ((i : Nat) : Int) = ((i : Nat) : Int), _, _, _, _, _, _, _, _, _, _, _, true = true]) (by kernel_rfl) ⟨c0, rfl, c1, c2, c2, c2, c2, c2, c3, c3, c3, c3, c3, rfl, trivial⟩
theorem w15o_4 (un : Bool) (us : List TUnt) (vn : Bool) (vs : List TUnt) (n : Int) (i : Nat) (hp : HL) (x1 : TUnt)
    (c0 : (decide (((i : Nat) : Int) < ((vs.length : Nat) : Int))) = true)
    (c1 : (vs.map TUnt.c)[i]? = some [D.sl x1.parts.nn (x1.parts.l.map TPrt.c), D.sl x1.marks.nn (x1.marks.l.map TMrk.c), D.sl x1.globals.nn (x1.globals.l.map TTld.c)])
    (c2 : (decide ((((x1.parts.l.map TPrt.c).length : Nat) : Int) > 150)) = true) :
    Ev pg i15_l0 ⟨[(0, V.d (D.sl un (us.map TUnt.c))), (3, V.d (D.int .i64 n)), (12, V.d (D.sl vn (vs.map TUnt.c))), (13, V.d (D.int .i64 ((vs.length : Nat) : Int))), (14, V.d (D.int .i64 ((i : Nat) : Int)))], [] :: hp⟩ .ret ⟨[(2, V.d (D.bool false))], [] :: hp⟩ :=
  codeC_ok (hs := [.b true, .n i, .ds [D.sl x1.parts.nn (x1.parts.l.map TPrt.c), D.sl x1.marks.nn (x1.marks.l.map TMrk.c), D.sl x1.globals.nn (x1.globals.l.map TTld.c)], .b true, .b true, .b true, .b true, .b true, .b true, .b true, .b true, .b true, .b true, .b true]) (hs' := []) (cs := [_, ((i : Nat) : Int) = ((i : Nat) : Int), _, _, _, _, _, _, true = true, true = true, true = true, true = true, true = true, true = true]) (by kernel_rfl) ⟨c0, rfl, c1, c2, c2, c2, c2, c2, rfl, rfl, rfl, rfl, rfl, rfl, trivial⟩
theorem w15_0 (un : Bool) (us : List TUnt) (hp : HL) (k1 : Nat) (m2 : Int)
    (c0 : ((if decide (40 < (((us.map TUnt.c).length : Nat) : Int)) = true then 40 else (((us.map TUnt.c).length : Nat) : Int))) = ((k1 : Nat) : Int))
    (c1 : k1 ≤ (us.map TUnt.c).length)
    (c2 : List.all (us.map TUnt.c) (fun x => x.length == 3) = true)
    (c3 : Lp pg i15_l0 ⟨[(0, V.d (D.sl un (us.map TUnt.c))), (3, V.d (D.int .i64 0)), (12, V.d (D.sl (un || !(us.map TUnt.c).isEmpty) (List.drop 0 (List.take k1 (us.map TUnt.c))))), (13, V.d (D.int .i64 (((List.drop 0 (List.take k1 (us.map TUnt.c))).length : Nat) : Int))), (14, V.d (D.int .i64 0))], [] :: hp⟩ (.exit 0) ⟨[(0, V.d (D.sl un (us.map TUnt.c))), (3, V.d (D.int .i64 m2)), (12, V.d (D.sl (un || !(us.map TUnt.c).isEmpty) (List.drop 0 (List.take k1 (us.map TUnt.c))))), (13, V.d (D.int .i64 (((List.drop 0 (List.take k1 (us.map TUnt.c))).length : Nat) : Int))), (14, V.d (D.int .i64 (((List.drop 0 (List.take k1 (us.map TUnt.c))).length : Nat) : Int))), (15, V.d (D.bool false))], [] :: hp⟩)
    (c4 : (decide ((((us.map TUnt.c).length : Nat) : Int) ≤ 40)) = false) :
    Rn pg 15 [V.d (D.sl un (us.map TUnt.c))] (hp) (V.d (D.bool false)) (hp) :=
  Rn.c (fn := i15) (ex := .ret) (st := ⟨[(2, V.d (D.bool false))], [] :: hp⟩) (hs := [.n k1, .lp (.exit 0) ⟨[(0, V.d (D.sl un (us.map TUnt.c))), (3, V.d (D.int .i64 m2)), (12, V.d (D.sl (un || !(us.map TUnt.c).isEmpty) (List.drop 0 (List.take k1 (us.map TUnt.c))))), (13, V.d (D.int .i64 (((List.drop 0 (List.take k1 (us.map TUnt.c))).length : Nat) : Int))), (14, V.d (D.int .i64 (((List.drop 0 (List.take k1 (us.map TUnt.c))).length : Nat) : Int))), (15, V.d (D.bool false))], [] :: hp⟩, .b false, .b false, .b false]) (cs := [_, 0 ≤ k1, _, _, _, _, _, _]) (rs := [V.d (D.bool false)]) (t := [])
    (by kernel_rfl) (by kernel_rfl) (by kernel_rfl) (by kernel_rfl) (by kernel_rfl) (by kernel_rfl) ⟨c0, Nat.zero_le _, c1, c2, c3, c4, c4, c4, trivial⟩
theorem w15_1 (un : Bool) (us : List TUnt) (hp : HL) (k1 : Nat) (m2 : Int)
    (c0 : ((if decide (40 < (((us.map TUnt.c).length : Nat) : Int)) = true then 40 else (((us.map TUnt.c).length : Nat) : Int))) = ((k1 : Nat) : Int))
    (c1 : k1 ≤ (us.map TUnt.c).length)
    (c2 : List.all (us.map TUnt.c) (fun x => x.length == 3) = true)
    (c3 : Lp pg i15_l0 ⟨[(0, V.d (D.sl un (us.map TUnt.c))), (3, V.d (D.int .i64 0)), (12, V.d (D.sl (un || !(us.map TUnt.c).isEmpty) (List.drop 0 (List.take k1 (us.map TUnt.c))))), (13, V.d (D.int .i64 (((List.drop 0 (List.take k1 (us.map TUnt.c))).length : Nat) : Int))), (14, V.d (D.int .i64 0))], [] :: hp⟩ (.exit 0) ⟨[(0, V.d (D.sl un (us.map TUnt.c))), (3, V.d (D.int .i64 m2)), (12, V.d (D.sl (un || !(us.map TUnt.c).isEmpty) (List.drop 0 (List.take k1 (us.map TUnt.c))))), (13, V.d (D.int .i64 (((List.drop 0 (List.take k1 (us.map TUnt.c))).length : Nat) : Int))), (14, V.d (D.int .i64 (((List.drop 0 (List.take k1 (us.map TUnt.c))).length : Nat) : Int))), (15, V.d (D.bool false))], [] :: hp⟩)
    (c4 : (decide ((((us.map TUnt.c).length : Nat) : Int) ≤ 40)) = true) :
    Rn pg 15 [V.d (D.sl un (us.map TUnt.c))] (hp) (V.d (D.bool (decide (m2 ≤ 2000)))) (hp) :=
  Rn.c (fn := i15) (ex := .ret) (st := ⟨[(2, V.d (D.bool (decide (m2 ≤ 2000))))], [] :: hp⟩) (hs := [.n k1, .lp (.exit 0) ⟨[(0, V.d (D.sl un (us.map TUnt.c))), (3, V.d (D.int .i64 m2)), (12, V.d (D.sl (un || !(us.map TUnt.c).isEmpty) (List.drop 0 (List.take k1 (us.map TUnt.c))))), (13, V.d (D.int .i64 (((List.drop 0 (List.take k1 (us.map TUnt.c))).length : Nat) : Int))), (14, V.d (D.int .i64 (((List.drop 0 (List.take k1 (us.map TUnt.c))).length : Nat) : Int))), (15, V.d (D.bool false))], [] :: hp⟩, .b true, .b true, .b true]) (cs := [_, 0 ≤ k1, _, _, _, _, _, _]) (rs := [V.d (D.bool (decide (m2 ≤ 2000)))]) (t := [])
    (by kernel_rfl) (by kernel_rfl) (by kernel_rfl) (by kernel_rfl) (by kernel_rfl) (by kernel_rfl) ⟨c0, Nat.zero_le _, c1, c2, c3, c4, c4, c4, trivial⟩
theorem w15_2 (un : Bool) (us : List TUnt) (hp : HL) (k1 : Nat)
    (c0 : ((if decide (40 < (((us.map TUnt.c).length : Nat) : Int)) = true then 40 else (((us.map TUnt.c).length : Nat) : Int))) = ((k1 : Nat) : Int))
    (c1 : k1 ≤ (us.map TUnt.c).length)
    (c2 : List.all (us.map TUnt.c) (fun x => x.length == 3) = true)
    (c3 : Lp pg i15_l0 ⟨[(0, V.d (D.sl un (us.map TUnt.c))), (3, V.d (D.int .i64 0)), (12, V.d (D.sl (un || !(us.map TUnt.c).isEmpty) (List.drop 0 (List.take k1 (us.map TUnt.c))))), (13, V.d (D.int .i64 (((List.drop 0 (List.take k1 (us.map TUnt.c))).length : Nat) : Int))), (14, V.d (D.int .i64 0))], [] :: hp⟩ .ret ⟨[(2, V.d (D.bool false))], [] :: hp⟩) :
    Rn pg 15 [V.d (D.sl un (us.map TUnt.c))] (hp) (V.d (D.bool false)) (hp) :=
  Rn.c (fn := i15) (ex := .ret) (st := ⟨[(2, V.d (D.bool false))], [] :: hp⟩) (hs := [.n k1, .lp .ret ⟨[(2, V.d (D.bool false))], [] :: hp⟩]) (cs := [_, 0 ≤ k1, _, _, _]) (rs := [V.d (D.bool false)]) (t := [])
    (by kernel_rfl) (by kernel_rfl) (by kernel_rfl) (by kernel_rfl) (by kernel_rfl) (by kernel_rfl) ⟨c0, Nat.zero_le _, c1, c2, c3, trivial⟩
end Go.Proofs.YtgmphfmoonbfpaaMv

set_option maxRecDepth 100000
namespace Go.Proofs.YtgmphfmoonbfpaaMv
open Go
end Go.Proofs.YtgmphfmoonbfpaaMv

namespace Go.Proofs.YtgmphfmoonbfpaaMv
open Go
def fewI (n : Int) (ps : List TPrt) : Int := ps.foldl (fun n p => if decide (1048576 < IntKind.i64.wrap (n + (((p.pieces.l.map TPce.c).length : Nat) : Int))) = true then 1048576 else IntKind.i64.wrap (n + (((p.pieces.l.map TPce.c).length : Nat) : Int))) n
theorem l15i (un : Bool) (us : List TUnt) (vn : Bool) (vs : List TUnt) (n : Int) (i : Nat) (x : TUnt) (hp : HL) (hl : x.parts.l.length < 2 ^ 30) :
    Lp pg i15_l2 ⟨[(0, V.d (D.sl un (us.map TUnt.c))), (3, V.d (D.int .i64 n)), (12, V.d (D.sl vn (vs.map TUnt.c))), (13, V.d (D.int .i64 ((vs.length : Nat) : Int))), (14, V.d (D.int .i64 ((i : Nat) : Int))), (35, V.d (D.sl x.parts.nn (x.parts.l.map TPrt.c))), (36, V.d (D.int .i64 ((x.parts.l.length : Nat) : Int))), (37, V.d (D.int .i64 ((0 : Nat) : Int)))], [] :: hp⟩ (.exit 2)
      ⟨[(0, V.d (D.sl un (us.map TUnt.c))), (3, V.d (D.int .i64 (fewI n x.parts.l))), (12, V.d (D.sl vn (vs.map TUnt.c))), (13, V.d (D.int .i64 ((vs.length : Nat) : Int))), (14, V.d (D.int .i64 ((i : Nat) : Int))), (35, V.d (D.sl x.parts.nn (x.parts.l.map TPrt.c))), (36, V.d (D.int .i64 ((x.parts.l.length : Nat) : Int))), (37, V.d (D.int .i64 ((x.parts.l.length : Nat) : Int))), (38, V.d (D.bool false))], [] :: hp⟩ := by
  refine Lp.count (p := pg) (b := i15_l2) (id := 2) (n := x.parts.l.length) (S := fun k => ⟨[(0, V.d (D.sl un (us.map TUnt.c))), (3, V.d (D.int .i64 (fewI n (x.parts.l.take k)))), (12, V.d (D.sl vn (vs.map TUnt.c))), (13, V.d (D.int .i64 ((vs.length : Nat) : Int))), (14, V.d (D.int .i64 ((i : Nat) : Int))), (35, V.d (D.sl x.parts.nn (x.parts.l.map TPrt.c))), (36, V.d (D.int .i64 ((x.parts.l.length : Nat) : Int))), (37, V.d (D.int .i64 ((k : Nat) : Int)))], [] :: hp⟩)
    (fun k hk => ?_) (by rw [List.take_length]; exact w15i_0 un us vn vs _ i x x.parts.l.length hp (nltd _))
  have hg : x.parts.l[k]? = some x.parts.l[k] := List.getElem?_eq_getElem hk
  have e : fewI n (x.parts.l.take (k + 1)) = _ := foldl_take_succ _ _ _ _ hk
  simp only [e]
  have r := w15i_1 un us vn vs (fewI n (x.parts.l.take k)) i x k hp x.parts.l[k] (ltd hk) (map_get (f := TPrt.c) hg)
  rw [wrap64 (x := ((k : Nat) : Int) + 1) (by omega) (by omega)] at r
  exact r
theorem l15o (un : Bool) (us : List TUnt) (vn : Bool) (vs : List TUnt) (hp : HL) (hl : ∀ u ∈ vs, u.parts.l.length < 2 ^ 30) (hv : vs.length < 2 ^ 30) : ∀ (r i : Nat) (n : Int), vs.length - i = r → i ≤ vs.length →
    Lp pg i15_l0 ⟨[(0, V.d (D.sl un (us.map TUnt.c))), (3, V.d (D.int .i64 n)), (12, V.d (D.sl vn (vs.map TUnt.c))), (13, V.d (D.int .i64 ((vs.length : Nat) : Int))), (14, V.d (D.int .i64 ((i : Nat) : Int)))], [] :: hp⟩ .ret ⟨[(2, V.d (D.bool false))], [] :: hp⟩ ∨
    ∃ m : Int, Lp pg i15_l0 ⟨[(0, V.d (D.sl un (us.map TUnt.c))), (3, V.d (D.int .i64 n)), (12, V.d (D.sl vn (vs.map TUnt.c))), (13, V.d (D.int .i64 ((vs.length : Nat) : Int))), (14, V.d (D.int .i64 ((i : Nat) : Int)))], [] :: hp⟩ (.exit 0)
      ⟨[(0, V.d (D.sl un (us.map TUnt.c))), (3, V.d (D.int .i64 m)), (12, V.d (D.sl vn (vs.map TUnt.c))), (13, V.d (D.int .i64 ((vs.length : Nat) : Int))), (14, V.d (D.int .i64 ((vs.length : Nat) : Int))), (15, V.d (D.bool false))], [] :: hp⟩ := by
  intro r
  induction r with
  | zero =>
    intro i n hr hi
    have : i = vs.length := by omega
    subst this
    exact .inr ⟨n, Lp.exit (w15o_0 un us vn vs n vs.length hp (nltd _))⟩
  | succ r ih =>
    intro i n hr hi
    have hlt : i < vs.length := by omega
    have hg : vs[i]? = some vs[i] := List.getElem?_eq_getElem hlt
    have hx := hl _ (List.getElem_mem hlt)
    generalize vs[i] = x at hg hx
    cases c2 : decide ((((x.parts.l.map TPrt.c).length : Nat) : Int) > 150) with
    | true => exact .inl (Lp.ret (w15o_4 un us vn vs n i hp x (ltd hlt) (map_get (f := TUnt.c) hg) c2))
    | false =>
      cases c3 : decide ((((x.marks.l.map TMrk.c).length : Nat) : Int) > 300) with
      | true => exact .inl (Lp.ret (w15o_3 un us vn vs n i hp x (ltd hlt) (map_get (f := TUnt.c) hg) c2 c3))
      | false =>
        cases c4 : decide ((((x.globals.l.map TTld.c).length : Nat) : Int) > 300) with
        | true => exact .inl (Lp.ret (w15o_2 un us vn vs n i hp x (ltd hlt) (map_get (f := TUnt.c) hg) c2 c3 c4))
        | false =>
          have hi15 := l15i un us vn vs n i x hp hx
          have r1 := w15o_1 un us vn vs n i hp x (fewI n x.parts.l) (ltd hlt) (map_get (f := TUnt.c) hg) c2 c3 c4 (by simp only [List.length_map]; exact hi15)
          rw [wrap64 (x := ((i : Nat) : Int) + 1) (by omega) (by omega)] at r1
          rcases ih (i + 1) (fewI n x.parts.l) (by omega) (by omega) with h | ⟨m, h⟩
          · exact .inl (Lp.next r1 h)
          · exact .inr ⟨m, Lp.next r1 h⟩
theorem f15 (un : Bool) (us : List TUnt) (hp : HL) (hl : ∀ u ∈ us, u.parts.l.length < 2 ^ 30) : ∃ b, Rn pg 15 [V.d (D.sl un (us.map TUnt.c))] hp (V.d (D.bool b)) hp := by
  have hk : (if decide (40 < (((us.map TUnt.c).length : Nat) : Int)) = true then (40 : Int) else (((us.map TUnt.c).length : Nat) : Int)) = ((min 40 us.length : Nat) : Int) := by
    simp only [List.length_map, decide_eq_true_eq]
    split <;> omega
  have e : List.drop 0 (List.take (min 40 us.length) (us.map TUnt.c)) = (us.take (min 40 us.length)).map TUnt.c := by simp [List.map_take]
  have h := l15o un us (un || !(us.map TUnt.c).isEmpty) (us.take (min 40 us.length)) hp (fun u hu => hl u (List.mem_of_mem_take hu)) (by simp; omega) _ 0 0 rfl (Nat.zero_le _)
  rcases h with h | ⟨m, h⟩
  · exact ⟨_, w15_2 un us hp _ hk (by simp; omega) (all_len (f := TUnt.c) (fun _ => rfl) _) (by rw [e]; simp only [List.length_map]; exact h)⟩
  · cases c : decide ((((us.map TUnt.c).length : Nat) : Int) ≤ 40) with
    | true => exact ⟨_, w15_1 un us hp _ m hk (by simp; omega) (all_len (f := TUnt.c) (fun _ => rfl) _) (by rw [e]; simp only [List.length_map]; exact h) c⟩
    | false => exact ⟨_, w15_0 un us hp _ m hk (by simp; omega) (all_len (f := TUnt.c) (fun _ => rfl) _) (by rw [e]; simp only [List.length_map]; exact h) c⟩
structure usOk (us : List TUnt) : Prop where
  wt : (us.map TUnt.wt).sum < 2 ^ 27
  len : us.length < 2 ^ 27
  ok : ∀ u ∈ us, u.ok
theorem usOk.sub {us vs : List TUnt} (h : usOk us) (hs : vs.Sublist us) : usOk vs :=
  ⟨Nat.lt_of_le_of_lt (List.Sublist.sum_le_sum' (hs.map _)) h.wt, Nat.lt_of_le_of_lt hs.length_le h.len, fun u hu => h.ok u (hs.subset hu)⟩
where List.Sublist.sum_le_sum' : ∀ {a b : List Nat}, a.Sublist b → a.sum ≤ b.sum
  | _, _, .slnil => Nat.le_refl _
  | _, _, .cons _ h => by have := List.Sublist.sum_le_sum' h; simp; omega
  | _, _, .cons_cons _ h => by have := List.Sublist.sum_le_sum' h; simp; omega
theorem f16' (un : Bool) {us : List TUnt} (h : usOk us) : Rn pg 16 [V.d (D.sl un (us.map TUnt.c))] [] (V.d (D.agg (joinM us).unt.c)) [] :=
  f16 un us [] (by have := h.wt; simp only [wtus]; omega) (by have := h.len; omega) h.ok
end Go.Proofs.YtgmphfmoonbfpaaMv

set_option maxRecDepth 100000
namespace Go.Proofs.YtgmphfmoonbfpaaMv
open Go Go.ChangeShapes Go.WideShapes Go.ChangeAt Go.RowKit
open Go.Proofs.Ytgmphfmoonbfpaa
theorem sums_le2 {α : Type} {f g : α → Nat} (h : ∀ x, f x ≤ g x) : ∀ l : List α, (l.map f).sum ≤ sums g l
  | [] => by simp [sums]
  | x :: l => by
    have h1 := sums_le2 h l
    have h2 := h x
    simp only [sums, List.map_cons, List.sum_cons] at *
    omega
theorem TPce.w_ok (x : TPce) : x.l.opers.l.length < x.w ∧ x.b.l.length < x.w ∧ 1 ≤ x.w := by
  have h1 := x.l.w_opers
  have h2 := len_sums (wt := fun _ : UInt8 => 1) (fun _ => Nat.le_refl _) x.b.l
  simp only [TPce.w]
  refine ⟨by omega, by omega, by omega⟩
theorem TPrt.w_wt (x : TPrt) : x.wt ≤ x.w ∧ sums TPce.w x.pieces.l ≤ x.w := by
  have h := len_sums (wt := TPce.w) (fun x => x.w_ok.2.2) x.pieces.l
  simp only [TPrt.wt, TPrt.w]
  refine ⟨by omega, by omega⟩
theorem TUnt.w_wt (x : TUnt) : x.wt ≤ x.w ∧ sums TPrt.w x.parts.l ≤ x.w := by
  have h1 := sums_le2 (f := TPrt.wt) (fun x => x.w_wt.1) x.parts.l
  have h2 := len_sums (wt := TMrk.w) (fun x => by unfold TMrk.w; omega) x.marks.l
  have h3 := len_sums (wt := TTld.w) (fun x => by unfold TTld.w; omega) x.globals.l
  simp only [TUnt.wt, TUnt.w]
  refine ⟨by omega, by omega⟩
theorem usOk_of {us : List TUnt} (h : sums TUnt.w us ≤ 1048576) : usOk us ∧ ∀ u ∈ us, u.parts.l.length < 2 ^ 30 := by
  have h1 := sums_le2 (f := TUnt.wt) (fun x => x.w_wt.1) us
  have h2 := len_sums (wt := TUnt.w) (fun x => by unfold TUnt.w; omega) us
  refine ⟨⟨by omega, by omega, fun u hu p hp x hx => ?_⟩, fun u hu => ?_⟩
  · have a1 := mem_sums (wt := TUnt.w) hu
    have a2 := mem_sums (wt := TPrt.w) hp
    have a3 := mem_sums (wt := TPce.w) hx
    have b1 := u.w_wt.2
    have b2 := p.w_wt.2
    have b3 := x.w_ok
    exact ⟨by omega, by omega⟩
  · have a1 := mem_sums (wt := TUnt.w) hu
    have a2 := len_sums (wt := TPrt.w) (fun x => by unfold TPrt.w; omega) u.parts.l
    have b1 := u.w_wt.2
    omega
end Go.Proofs.YtgmphfmoonbfpaaMv

namespace Go.Proofs.YtgmphfmoonbfpaaMv
open Go
def mpOf (l : List TMrk) : List (D × D) := l.map fun m => (D.str m.name, D.agg m.c)
def findM (nm : List UInt8) : List TMrk → Option TMrk
  | [] => none
  | m :: r => if nm == m.name then some m else findM nm r
def putM (x : TMrk) : List TMrk → List TMrk
  | [] => [x]
  | m :: r => if x.name == m.name then x :: r else m :: putM x r
theorem find_mp (nm : List UInt8) : ∀ l : List TMrk, findD false [2] (D.str nm) (mpOf l) = some ((findM nm l).map fun m => D.agg m.c)
  | [] => rfl
  | m :: l => by
    have ih := find_mp nm l
    simp only [mpOf] at ih
    simp only [mpOf, List.map_cons, findD, deqT, Bool.false_eq_true, if_false, deqK, findM]
    cases h : nm == m.name with
    | true => simp
    | false => simpa using ih
theorem put_mp (x : TMrk) : ∀ l : List TMrk, putD false [2] (D.str x.name) (D.agg x.c) (mpOf l) = some (mpOf (putM x l))
  | [] => rfl
  | m :: l => by
    have ih := put_mp x l
    simp only [mpOf] at ih
    simp only [mpOf, List.map_cons, putD, deqT, Bool.false_eq_true, if_false, deqK, putM]
    cases h : x.name == m.name with
    | true => simp
    | false => simp [ih]
end Go.Proofs.YtgmphfmoonbfpaaMv

set_option maxRecDepth 100000
namespace Go.Proofs.YtgmphfmoonbfpaaMv
open Go
theorem w18_0 (a : TFlt) (b : TFlt) (hp : HL)
    (c0 : (a.file != b.file) = false)
    (c1 : (a.line != b.line) = false) :
    Rn pg 18 [V.d (D.agg [D.int .i64 a.file, D.int .i64 a.line, D.int .i64 a.err]), V.d (D.agg [D.int .i64 b.file, D.int .i64 b.line, D.int .i64 b.err])] (hp) (V.d (D.bool (decide (a.err < b.err)))) (hp) :=
  Rn.c (fn := i18) (ex := .ret) (st := ⟨[(4, V.d (D.bool (decide (a.err < b.err))))], [] :: hp⟩) (hs := [.b false, .b false]) (cs := [_, _]) (rs := [V.d (D.bool (decide (a.err < b.err)))]) (t := [])
    (by kernel_rfl) (by kernel_rfl) (by kernel_rfl) (by kernel_rfl) (by kernel_rfl) (by kernel_rfl) ⟨c0, c1, trivial⟩
theorem w18_1 (a : TFlt) (b : TFlt) (hp : HL)
    (c0 : (a.file != b.file) = false)
    (c1 : (a.line != b.line) = true) :
    Rn pg 18 [V.d (D.agg [D.int .i64 a.file, D.int .i64 a.line, D.int .i64 a.err]), V.d (D.agg [D.int .i64 b.file, D.int .i64 b.line, D.int .i64 b.err])] (hp) (V.d (D.bool (decide (a.line < b.line)))) (hp) :=
  Rn.c (fn := i18) (ex := .ret) (st := ⟨[(4, V.d (D.bool (decide (a.line < b.line))))], [] :: hp⟩) (hs := [.b false, .b true]) (cs := [_, _]) (rs := [V.d (D.bool (decide (a.line < b.line)))]) (t := [])
    (by kernel_rfl) (by kernel_rfl) (by kernel_rfl) (by kernel_rfl) (by kernel_rfl) (by kernel_rfl) ⟨c0, c1, trivial⟩
theorem w35_0 (pt : Int) (l : TLin) (ml : List TMrk) (o8 : Ob) (o10 : Ob) (o11 : Ob) (hp : HL) (k1 : Nat) (x2 : TOpr)
    (c0 : Rn pg 11 [V.d (D.agg [D.str l.name, D.sl l.opers.nn (l.opers.l.map TOpr.c)])] ([]) (V.tup [V.d (D.int .i64 ((growsV l).1)), V.d (D.int .i64 ((growsV l).2.1)), V.d (D.bool ((growsV l).2.2))]) ([]))
    (c1 : (!((growsV l).2.2)) = false)
    (c2 : (IntKind.i64.wrap ((((l.opers.l.map TOpr.c).length : Nat) : Int) - 1)) = ((k1 : Nat) : Int))
    (c3 : (l.opers.l.map TOpr.c)[k1]? = some [D.int .i64 x2.kind, D.int .i64 x2.r.n, D.bool x2.r.x, D.bool x2.r.sp, D.int .i64 x2.m.n, D.bool x2.m.x, D.bool x2.m.sp, D.int .i64 x2.md, D.int .i64 x2.amt, D.int .i64 x2.n, D.int .i64 x2.v.add, D.str x2.v.plus, D.str x2.v.minus, D.bool x2.lo, D.int .i64 x2.mode])
    (c4 : findD false [2] (D.str x2.v.plus) (mpOf ml) = some none) :
    Rn pg 35 [V.mp 0 5 (some ([], 0, 0)), V.d (D.int .i64 pt), V.d (D.agg [D.str l.name, D.sl l.opers.nn (l.opers.l.map TOpr.c)])] ([(5, Ob.row true 1 true [[C.mp (mpOf ml)]]), (8, o8), (10, o10), (11, o11)] :: hp) (V.tup [V.d (D.agg [D.int .i64 0, D.int .i64 0, D.int .i64 0, D.int .i64 0, D.int .i64 0, D.int .i64 0, D.int .i64 0]), V.d (D.bool false)]) ([(5, Ob.row true 1 true [[C.mp (mpOf ml)]]), (8, o8), (10, o10), (11, o11)] :: hp) :=
  Rn.c (fn := i35) (ex := .ret) (st := ⟨[(6, V.ptr 0 6 [] 0 0), (7, V.d (D.bool false))], [(6, Ob.row true 7 true [[C.d (D.int .i64 0), C.d (D.int .i64 0), C.d (D.int .i64 0), C.d (D.int .i64 0), C.d (D.int .i64 0), C.d (D.int .i64 0), C.d (D.int .i64 0)]])] :: [(5, Ob.row true 1 true [[C.mp (mpOf ml)]]), (8, o8), (10, o10), (11, o11)] :: hp⟩) (hs := [.call (V.tup [V.d (D.int .i64 ((growsV l).1)), V.d (D.int .i64 ((growsV l).2.1)), V.d (D.bool ((growsV l).2.2))]) ([]), .b false, .n k1, .ds [D.int .i64 x2.kind, D.int .i64 x2.r.n, D.bool x2.r.x, D.bool x2.r.sp, D.int .i64 x2.m.n, D.bool x2.m.x, D.bool x2.m.sp, D.int .i64 x2.md, D.int .i64 x2.amt, D.int .i64 x2.n, D.int .i64 x2.v.add, D.str x2.v.plus, D.str x2.v.minus, D.bool x2.lo, D.int .i64 x2.mode], .o none, .b true, .b true, .b true, .b true, .b true, .b true, .b true, .b true, .b true]) (cs := [_, _, _, _, _, true = true, true = true, true = true, true = true, true = true, true = true, true = true, true = true, true = true]) (rs := [V.d (D.agg [D.int .i64 0, D.int .i64 0, D.int .i64 0, D.int .i64 0, D.int .i64 0, D.int .i64 0, D.int .i64 0]), V.d (D.bool false)]) (t := [(6, Ob.row true 7 true [[C.d (D.int .i64 0), C.d (D.int .i64 0), C.d (D.int .i64 0), C.d (D.int .i64 0), C.d (D.int .i64 0), C.d (D.int .i64 0), C.d (D.int .i64 0)]])])
    (by kernel_rfl) (by kernel_rfl) (by kernel_rfl) (by kernel_rfl) (by kernel_rfl) (by kernel_rfl) ⟨c0, c1, c2, c3, c4, rfl, rfl, rfl, rfl, rfl, rfl, rfl, rfl, rfl, trivial⟩
theorem w35_1 (pt : Int) (l : TLin) (ml : List TMrk) (o8 : Ob) (o10 : Ob) (o11 : Ob) (hp : HL) (k1 : Nat) (x2 : TOpr) (x3 : TMrk)
    (c0 : Rn pg 11 [V.d (D.agg [D.str l.name, D.sl l.opers.nn (l.opers.l.map TOpr.c)])] ([]) (V.tup [V.d (D.int .i64 ((growsV l).1)), V.d (D.int .i64 ((growsV l).2.1)), V.d (D.bool ((growsV l).2.2))]) ([]))
    (c1 : (!((growsV l).2.2)) = false)
    (c2 : (IntKind.i64.wrap ((((l.opers.l.map TOpr.c).length : Nat) : Int) - 1)) = ((k1 : Nat) : Int))
    (c3 : (l.opers.l.map TOpr.c)[k1]? = some [D.int .i64 x2.kind, D.int .i64 x2.r.n, D.bool x2.r.x, D.bool x2.r.sp, D.int .i64 x2.m.n, D.bool x2.m.x, D.bool x2.m.sp, D.int .i64 x2.md, D.int .i64 x2.amt, D.int .i64 x2.n, D.int .i64 x2.v.add, D.str x2.v.plus, D.str x2.v.minus, D.bool x2.lo, D.int .i64 x2.mode])
    (c4 : findD false [2] (D.str x2.v.plus) (mpOf ml) = some (some (D.agg [D.str x3.name, D.int .i64 x3.file, D.int .i64 x3.line, D.int .i64 x3.part, D.int .i64 x3.piece, D.bool x3.equ, D.int .i64 x3.v.add, D.str x3.v.plus, D.str x3.v.minus])))
    (c5 : x3.equ = false)
    (c6 : (x3.part != pt) = false) :
    Rn pg 35 [V.mp 0 5 (some ([], 0, 0)), V.d (D.int .i64 pt), V.d (D.agg [D.str l.name, D.sl l.opers.nn (l.opers.l.map TOpr.c)])] ([(5, Ob.row true 1 true [[C.mp (mpOf ml)]]), (8, o8), (10, o10), (11, o11)] :: hp) (V.tup [V.d (D.agg [D.int .i64 3, D.int .i64 0, D.int .i64 0, D.int .i64 x3.piece, D.int .i64 x2.v.add, D.int .i64 ((growsV l).1), D.int .i64 ((growsV l).2.1)]), V.d (D.bool true)]) ([(5, Ob.row true 1 true [[C.mp (mpOf ml)]]), (8, o8), (10, o10), (11, o11)] :: hp) :=
  Rn.c (fn := i35) (ex := .ret) (st := ⟨[(6, V.ptr 0 6 [] 0 0), (7, V.d (D.bool true))], [(6, Ob.row true 7 true [[C.d (D.int .i64 3), C.d (D.int .i64 0), C.d (D.int .i64 0), C.d (D.int .i64 x3.piece), C.d (D.int .i64 x2.v.add), C.d (D.int .i64 ((growsV l).1)), C.d (D.int .i64 ((growsV l).2.1))]])] :: [(5, Ob.row true 1 true [[C.mp (mpOf ml)]]), (8, o8), (10, o10), (11, o11)] :: hp⟩) (hs := [.call (V.tup [V.d (D.int .i64 ((growsV l).1)), V.d (D.int .i64 ((growsV l).2.1)), V.d (D.bool ((growsV l).2.2))]) ([]), .b false, .n k1, .ds [D.int .i64 x2.kind, D.int .i64 x2.r.n, D.bool x2.r.x, D.bool x2.r.sp, D.int .i64 x2.m.n, D.bool x2.m.x, D.bool x2.m.sp, D.int .i64 x2.md, D.int .i64 x2.amt, D.int .i64 x2.n, D.int .i64 x2.v.add, D.str x2.v.plus, D.str x2.v.minus, D.bool x2.lo, D.int .i64 x2.mode], .o (some (D.agg [D.str x3.name, D.int .i64 x3.file, D.int .i64 x3.line, D.int .i64 x3.part, D.int .i64 x3.piece, D.bool x3.equ, D.int .i64 x3.v.add, D.str x3.v.plus, D.str x3.v.minus])), .b false, .b false, .b false, .b false, .b false, .b false, .b false, .b false, .b false]) (cs := [_, _, _, _, _, false = false, false = false, false = false, _, _, _, _, _, _]) (rs := [V.d (D.agg [D.int .i64 3, D.int .i64 0, D.int .i64 0, D.int .i64 x3.piece, D.int .i64 x2.v.add, D.int .i64 ((growsV l).1), D.int .i64 ((growsV l).2.1)]), V.d (D.bool true)]) (t := [(6, Ob.row true 7 true [[C.d (D.int .i64 3), C.d (D.int .i64 0), C.d (D.int .i64 0), C.d (D.int .i64 x3.piece), C.d (D.int .i64 x2.v.add), C.d (D.int .i64 ((growsV l).1)), C.d (D.int .i64 ((growsV l).2.1))]])])
    (by kernel_rfl) (by kernel_rfl) (by kernel_rfl) (by kernel_rfl) (by kernel_rfl) (by kernel_rfl) ⟨c0, c1, c2, c3, c4, rfl, rfl, rfl, c5, c5, c5, c5, c5, c6, trivial⟩
theorem w35_2 (pt : Int) (l : TLin) (ml : List TMrk) (o8 : Ob) (o10 : Ob) (o11 : Ob) (hp : HL) (k1 : Nat) (x2 : TOpr) (x3 : TMrk)
    (c0 : Rn pg 11 [V.d (D.agg [D.str l.name, D.sl l.opers.nn (l.opers.l.map TOpr.c)])] ([]) (V.tup [V.d (D.int .i64 ((growsV l).1)), V.d (D.int .i64 ((growsV l).2.1)), V.d (D.bool ((growsV l).2.2))]) ([]))
    (c1 : (!((growsV l).2.2)) = false)
    (c2 : (IntKind.i64.wrap ((((l.opers.l.map TOpr.c).length : Nat) : Int) - 1)) = ((k1 : Nat) : Int))
    (c3 : (l.opers.l.map TOpr.c)[k1]? = some [D.int .i64 x2.kind, D.int .i64 x2.r.n, D.bool x2.r.x, D.bool x2.r.sp, D.int .i64 x2.m.n, D.bool x2.m.x, D.bool x2.m.sp, D.int .i64 x2.md, D.int .i64 x2.amt, D.int .i64 x2.n, D.int .i64 x2.v.add, D.str x2.v.plus, D.str x2.v.minus, D.bool x2.lo, D.int .i64 x2.mode])
    (c4 : findD false [2] (D.str x2.v.plus) (mpOf ml) = some (some (D.agg [D.str x3.name, D.int .i64 x3.file, D.int .i64 x3.line, D.int .i64 x3.part, D.int .i64 x3.piece, D.bool x3.equ, D.int .i64 x3.v.add, D.str x3.v.plus, D.str x3.v.minus])))
    (c5 : x3.equ = false)
    (c6 : (x3.part != pt) = true) :
    Rn pg 35 [V.mp 0 5 (some ([], 0, 0)), V.d (D.int .i64 pt), V.d (D.agg [D.str l.name, D.sl l.opers.nn (l.opers.l.map TOpr.c)])] ([(5, Ob.row true 1 true [[C.mp (mpOf ml)]]), (8, o8), (10, o10), (11, o11)] :: hp) (V.tup [V.d (D.agg [D.int .i64 0, D.int .i64 0, D.int .i64 0, D.int .i64 0, D.int .i64 0, D.int .i64 0, D.int .i64 0]), V.d (D.bool false)]) ([(5, Ob.row true 1 true [[C.mp (mpOf ml)]]), (8, o8), (10, o10), (11, o11)] :: hp) :=
  Rn.c (fn := i35) (ex := .ret) (st := ⟨[(6, V.ptr 0 6 [] 0 0), (7, V.d (D.bool false))], [(6, Ob.row true 7 true [[C.d (D.int .i64 0), C.d (D.int .i64 0), C.d (D.int .i64 0), C.d (D.int .i64 0), C.d (D.int .i64 0), C.d (D.int .i64 0), C.d (D.int .i64 0)]])] :: [(5, Ob.row true 1 true [[C.mp (mpOf ml)]]), (8, o8), (10, o10), (11, o11)] :: hp⟩) (hs := [.call (V.tup [V.d (D.int .i64 ((growsV l).1)), V.d (D.int .i64 ((growsV l).2.1)), V.d (D.bool ((growsV l).2.2))]) ([]), .b false, .n k1, .ds [D.int .i64 x2.kind, D.int .i64 x2.r.n, D.bool x2.r.x, D.bool x2.r.sp, D.int .i64 x2.m.n, D.bool x2.m.x, D.bool x2.m.sp, D.int .i64 x2.md, D.int .i64 x2.amt, D.int .i64 x2.n, D.int .i64 x2.v.add, D.str x2.v.plus, D.str x2.v.minus, D.bool x2.lo, D.int .i64 x2.mode], .o (some (D.agg [D.str x3.name, D.int .i64 x3.file, D.int .i64 x3.line, D.int .i64 x3.part, D.int .i64 x3.piece, D.bool x3.equ, D.int .i64 x3.v.add, D.str x3.v.plus, D.str x3.v.minus])), .b false, .b false, .b false, .b false, .b false, .b false, .b false, .b false, .b true]) (cs := [_, _, _, _, _, false = false, false = false, false = false, _, _, _, _, _, _]) (rs := [V.d (D.agg [D.int .i64 0, D.int .i64 0, D.int .i64 0, D.int .i64 0, D.int .i64 0, D.int .i64 0, D.int .i64 0]), V.d (D.bool false)]) (t := [(6, Ob.row true 7 true [[C.d (D.int .i64 0), C.d (D.int .i64 0), C.d (D.int .i64 0), C.d (D.int .i64 0), C.d (D.int .i64 0), C.d (D.int .i64 0), C.d (D.int .i64 0)]])])
    (by kernel_rfl) (by kernel_rfl) (by kernel_rfl) (by kernel_rfl) (by kernel_rfl) (by kernel_rfl) ⟨c0, c1, c2, c3, c4, rfl, rfl, rfl, c5, c5, c5, c5, c5, c6, trivial⟩
theorem w35_3 (pt : Int) (l : TLin) (ml : List TMrk) (o8 : Ob) (o10 : Ob) (o11 : Ob) (hp : HL) (k1 : Nat) (x2 : TOpr) (x3 : TMrk)
    (c0 : Rn pg 11 [V.d (D.agg [D.str l.name, D.sl l.opers.nn (l.opers.l.map TOpr.c)])] ([]) (V.tup [V.d (D.int .i64 ((growsV l).1)), V.d (D.int .i64 ((growsV l).2.1)), V.d (D.bool ((growsV l).2.2))]) ([]))
    (c1 : (!((growsV l).2.2)) = false)
    (c2 : (IntKind.i64.wrap ((((l.opers.l.map TOpr.c).length : Nat) : Int) - 1)) = ((k1 : Nat) : Int))
    (c3 : (l.opers.l.map TOpr.c)[k1]? = some [D.int .i64 x2.kind, D.int .i64 x2.r.n, D.bool x2.r.x, D.bool x2.r.sp, D.int .i64 x2.m.n, D.bool x2.m.x, D.bool x2.m.sp, D.int .i64 x2.md, D.int .i64 x2.amt, D.int .i64 x2.n, D.int .i64 x2.v.add, D.str x2.v.plus, D.str x2.v.minus, D.bool x2.lo, D.int .i64 x2.mode])
    (c4 : findD false [2] (D.str x2.v.plus) (mpOf ml) = some (some (D.agg [D.str x3.name, D.int .i64 x3.file, D.int .i64 x3.line, D.int .i64 x3.part, D.int .i64 x3.piece, D.bool x3.equ, D.int .i64 x3.v.add, D.str x3.v.plus, D.str x3.v.minus])))
    (c5 : x3.equ = true) :
    Rn pg 35 [V.mp 0 5 (some ([], 0, 0)), V.d (D.int .i64 pt), V.d (D.agg [D.str l.name, D.sl l.opers.nn (l.opers.l.map TOpr.c)])] ([(5, Ob.row true 1 true [[C.mp (mpOf ml)]]), (8, o8), (10, o10), (11, o11)] :: hp) (V.tup [V.d (D.agg [D.int .i64 0, D.int .i64 0, D.int .i64 0, D.int .i64 0, D.int .i64 0, D.int .i64 0, D.int .i64 0]), V.d (D.bool false)]) ([(5, Ob.row true 1 true [[C.mp (mpOf ml)]]), (8, o8), (10, o10), (11, o11)] :: hp) :=
  Rn.c (fn := i35) (ex := .ret) (st := ⟨[(6, V.ptr 0 6 [] 0 0), (7, V.d (D.bool false))], [(6, Ob.row true 7 true [[C.d (D.int .i64 0), C.d (D.int .i64 0), C.d (D.int .i64 0), C.d (D.int .i64 0), C.d (D.int .i64 0), C.d (D.int .i64 0), C.d (D.int .i64 0)]])] :: [(5, Ob.row true 1 true [[C.mp (mpOf ml)]]), (8, o8), (10, o10), (11, o11)] :: hp⟩) (hs := [.call (V.tup [V.d (D.int .i64 ((growsV l).1)), V.d (D.int .i64 ((growsV l).2.1)), V.d (D.bool ((growsV l).2.2))]) ([]), .b false, .n k1, .ds [D.int .i64 x2.kind, D.int .i64 x2.r.n, D.bool x2.r.x, D.bool x2.r.sp, D.int .i64 x2.m.n, D.bool x2.m.x, D.bool x2.m.sp, D.int .i64 x2.md, D.int .i64 x2.amt, D.int .i64 x2.n, D.int .i64 x2.v.add, D.str x2.v.plus, D.str x2.v.minus, D.bool x2.lo, D.int .i64 x2.mode], .o (some (D.agg [D.str x3.name, D.int .i64 x3.file, D.int .i64 x3.line, D.int .i64 x3.part, D.int .i64 x3.piece, D.bool x3.equ, D.int .i64 x3.v.add, D.str x3.v.plus, D.str x3.v.minus])), .b false, .b false, .b false, .b true, .b true, .b true, .b true, .b true, .b true]) (cs := [_, _, _, _, _, false = false, false = false, false = false, _, _, _, _, _, true = true]) (rs := [V.d (D.agg [D.int .i64 0, D.int .i64 0, D.int .i64 0, D.int .i64 0, D.int .i64 0, D.int .i64 0, D.int .i64 0]), V.d (D.bool false)]) (t := [(6, Ob.row true 7 true [[C.d (D.int .i64 0), C.d (D.int .i64 0), C.d (D.int .i64 0), C.d (D.int .i64 0), C.d (D.int .i64 0), C.d (D.int .i64 0), C.d (D.int .i64 0)]])])
    (by kernel_rfl) (by kernel_rfl) (by kernel_rfl) (by kernel_rfl) (by kernel_rfl) (by kernel_rfl) ⟨c0, c1, c2, c3, c4, rfl, rfl, rfl, c5, c5, c5, c5, c5, rfl, trivial⟩
theorem w35_4 (pt : Int) (l : TLin) (ml : List TMrk) (o8 : Ob) (o10 : Ob) (o11 : Ob) (hp : HL)
    (c0 : Rn pg 11 [V.d (D.agg [D.str l.name, D.sl l.opers.nn (l.opers.l.map TOpr.c)])] ([]) (V.tup [V.d (D.int .i64 ((growsV l).1)), V.d (D.int .i64 ((growsV l).2.1)), V.d (D.bool ((growsV l).2.2))]) ([]))
    (c1 : (!((growsV l).2.2)) = true) :
    Rn pg 35 [V.mp 0 5 (some ([], 0, 0)), V.d (D.int .i64 pt), V.d (D.agg [D.str l.name, D.sl l.opers.nn (l.opers.l.map TOpr.c)])] ([(5, Ob.row true 1 true [[C.mp (mpOf ml)]]), (8, o8), (10, o10), (11, o11)] :: hp) (V.tup [V.d (D.agg [D.int .i64 0, D.int .i64 0, D.int .i64 0, D.int .i64 0, D.int .i64 0, D.int .i64 0, D.int .i64 0]), V.d (D.bool false)]) ([(5, Ob.row true 1 true [[C.mp (mpOf ml)]]), (8, o8), (10, o10), (11, o11)] :: hp) :=
  Rn.c (fn := i35) (ex := .ret) (st := ⟨[(6, V.ptr 0 6 [] 0 0), (7, V.d (D.bool false))], [(6, Ob.row true 7 true [[C.d (D.int .i64 0), C.d (D.int .i64 0), C.d (D.int .i64 0), C.d (D.int .i64 0), C.d (D.int .i64 0), C.d (D.int .i64 0), C.d (D.int .i64 0)]])] :: [(5, Ob.row true 1 true [[C.mp (mpOf ml)]]), (8, o8), (10, o10), (11, o11)] :: hp⟩) (hs := [.call (V.tup [V.d (D.int .i64 ((growsV l).1)), V.d (D.int .i64 ((growsV l).2.1)), V.d (D.bool ((growsV l).2.2))]) ([]), .b true]) (cs := [_, _]) (rs := [V.d (D.agg [D.int .i64 0, D.int .i64 0, D.int .i64 0, D.int .i64 0, D.int .i64 0, D.int .i64 0, D.int .i64 0]), V.d (D.bool false)]) (t := [(6, Ob.row true 7 true [[C.d (D.int .i64 0), C.d (D.int .i64 0), C.d (D.int .i64 0), C.d (D.int .i64 0), C.d (D.int .i64 0), C.d (D.int .i64 0), C.d (D.int .i64 0)]])])
    (by kernel_rfl) (by kernel_rfl) (by kernel_rfl) (by kernel_rfl) (by kernel_rfl) (by kernel_rfl) ⟨c0, c1, trivial⟩
theorem w17b_0 (pt : Int) (u : TUnt) (ml : List TMrk) (m : TMrk) (hp : HL) (es1 : List (D × D))
    (c0 : (findD false [2] (D.str m.name) (mpOf ml)).isSome = true)
    (c1 : putD false [2] (D.str m.name) (D.agg [D.str m.name, D.int .i64 m.file, D.int .i64 m.line, D.int .i64 m.part, D.int .i64 m.piece, D.bool m.equ, D.int .i64 m.v.add, D.str m.v.plus, D.str m.v.minus]) (mpOf ml) = some es1) :
    Ev pg i17_l0 ⟨[(28, V.d (D.agg [D.str m.name, D.int .i64 m.file, D.int .i64 m.line, D.int .i64 m.part, D.int .i64 m.piece, D.bool m.equ, D.int .i64 m.v.add, D.str m.v.plus, D.str m.v.minus])), (1, V.d (D.int .i64 pt)), (2, V.ptr 0 2 [] 0 0), (5, V.ptr 0 5 [] 0 0), (25, V.d (D.sl u.marks.nn (u.marks.l.map TMrk.c)))], [(2, Ob.row true 3 true [[C.d (D.sl u.parts.nn (u.parts.l.map TPrt.c)), C.d (D.sl u.marks.nn (u.marks.l.map TMrk.c)), C.d (D.sl u.globals.nn (u.globals.l.map TTld.c))]]), (5, Ob.row true 1 true [[C.mp (mpOf ml)]])] :: hp⟩ .normal ⟨[(1, V.d (D.int .i64 pt)), (2, V.ptr 0 2 [] 0 0), (5, V.ptr 0 5 [] 0 0), (25, V.d (D.sl u.marks.nn (u.marks.l.map TMrk.c)))], [(2, Ob.row true 3 true [[C.d (D.sl u.parts.nn (u.parts.l.map TPrt.c)), C.d (D.sl u.marks.nn (u.marks.l.map TMrk.c)), C.d (D.sl u.globals.nn (u.globals.l.map TTld.c))]]), (5, Ob.row true 1 true [[C.mp es1]])] :: hp⟩ :=
  codeC_ok (hs := [.es es1]) (hs' := []) (cs := [_, _]) (by kernel_rfl) ⟨c0, c1, trivial⟩
theorem w17l_0 (pt : Int) (ml : List TMrk) (its : List TItm) (p : TPrt) (h : Nat) (hp : HL)
    (c0 : (decide (((h : Nat) : Int) < ((p.pieces.l.length : Nat) : Int))) = false) :
    Ev pg i17_l2 ⟨[(1, V.d (D.int .i64 pt)), (5, V.ptr 0 5 [] 0 0), (8, V.msl 0 8 [] 0 its.length), (38, V.d (D.sl p.pieces.nn (p.pieces.l.map TPce.c))), (39, V.d (D.int .i64 ((p.pieces.l.length : Nat) : Int))), (40, V.d (D.int .i64 ((h : Nat) : Int)))], [(5, Ob.row true 1 true [[C.mp (mpOf ml)]]), (8, Ob.row false 7 false (its.map TItm.oc))] :: hp⟩ (.exit 2) ⟨[(1, V.d (D.int .i64 pt)), (5, V.ptr 0 5 [] 0 0), (8, V.msl 0 8 [] 0 its.length), (38, V.d (D.sl p.pieces.nn (p.pieces.l.map TPce.c))), (39, V.d (D.int .i64 ((p.pieces.l.length : Nat) : Int))), (40, V.d (D.int .i64 ((h : Nat) : Int))), (41, V.d (D.bool false))], [(5, Ob.row true 1 true [[C.mp (mpOf ml)]]), (8, Ob.row false 7 false (its.map TItm.oc))] :: hp⟩ :=
  by
  have r : Ev pg i17_l2 ⟨[(1, V.d (D.int .i64 pt)), (5, V.ptr 0 5 [] 0 0), (8, V.msl 0 8 [] 0 its.length), (38, V.d (D.sl p.pieces.nn (p.pieces.l.map TPce.c))), (39, V.d (D.int .i64 ((p.pieces.l.length : Nat) : Int))), (40, V.d (D.int .i64 ((h : Nat) : Int)))], [(5, Ob.row true 1 true [[C.mp (mpOf ml)]]), (8, Ob.row false 7 false (its.map TItm.oc))] :: hp⟩ (.exit 2) ⟨[(1, V.d (D.int .i64 pt)), (5, V.ptr 0 5 [] 0 0), (8, V.msl 0 8 [] 0 its.length), (38, V.d (D.sl p.pieces.nn (p.pieces.l.map TPce.c))), (39, V.d (D.int .i64 ((p.pieces.l.length : Nat) : Int))), (40, V.d (D.int .i64 ((h : Nat) : Int))), (41, V.d (D.bool (decide (((h : Nat) : Int) < ((p.pieces.l.length : Nat) : Int)))))], [(5, Ob.row true 1 true [[C.mp (mpOf ml)]]), (8, Ob.row false 7 false (its.map TItm.oc))] :: hp⟩ :=
  codeC_ok (hs := [.b false]) (hs' := []) (cs := [_]) (by kernel_rfl) ⟨c0, trivial⟩
  simp only [c0] at r
  exact r
theorem w17l_1 (pt : Int) (ml : List TMrk) (its : List TItm) (p : TPrt) (h : Nat) (hp : HL) (x1 : TPce)
    (c0 : (decide (((h : Nat) : Int) < ((p.pieces.l.length : Nat) : Int))) = true)
    (c1 : (p.pieces.l.map TPce.c)[h]? = some [D.int .i64 x1.kind, D.int .i64 x1.file, D.int .i64 x1.line, D.str x1.l.name, D.sl x1.l.opers.nn (x1.l.opers.l.map TOpr.c), D.int .i64 x1.v.add, D.str x1.v.plus, D.str x1.v.minus, D.int .i64 x1.size, D.sl x1.b.nn (x1.b.l.map u8c), D.int .i64 x1.align])
    (c2 : (x1.kind == 2) = false)
    (c3 : (x1.kind == 1) = false)
    (c4 : (x1.kind == 3) = false)
    (c5 : (x1.kind == 4) = false)
    (c6 : (x1.kind == 5) = false)
    (c7 : List.all [[D.int .i64 1, D.int .i64 0, D.int .i64 0, D.int .i64 0, D.int .i64 0, D.int .i64 0, D.int .i64 0]] (fun x => x.length == 7) = true)
    (c8 : its.length = (its.map TItm.oc).length)
    (c9 : (its.length + 1) * 56 ≤ room) :
    Ev pg i17_l2 ⟨[(1, V.d (D.int .i64 pt)), (5, V.ptr 0 5 [] 0 0), (8, V.msl 0 8 [] 0 its.length), (38, V.d (D.sl p.pieces.nn (p.pieces.l.map TPce.c))), (39, V.d (D.int .i64 ((p.pieces.l.length : Nat) : Int))), (40, V.d (D.int .i64 ((h : Nat) : Int)))], [(5, Ob.row true 1 true [[C.mp (mpOf ml)]]), (8, Ob.row false 7 false (its.map TItm.oc))] :: hp⟩ .normal ⟨[(1, V.d (D.int .i64 pt)), (5, V.ptr 0 5 [] 0 0), (8, V.msl 0 8 [] 0 (its.length + 1)), (38, V.d (D.sl p.pieces.nn (p.pieces.l.map TPce.c))), (39, V.d (D.int .i64 ((p.pieces.l.length : Nat) : Int))), (40, V.d (D.int .i64 (IntKind.i64.wrap (((h : Nat) : Int) + 1))))], [(5, Ob.row true 1 true [[C.mp (mpOf ml)]]), (8, Ob.row false 7 false ((its.map TItm.oc) ++ [[C.d (D.int .i64 1), C.d (D.int .i64 0), C.d (D.int .i64 0), C.d (D.int .i64 0), C.d (D.int .i64 0), C.d (D.int .i64 0), C.d (D.int .i64 0)]]))] :: hp⟩ :=
  codeC_ok (hs := [.b true, .n h, .ds [D.int .i64 x1.kind, D.int .i64 x1.file, D.int .i64 x1.line, D.str x1.l.name, D.sl x1.l.opers.nn (x1.l.opers.l.map TOpr.c), D.int .i64 x1.v.add, D.str x1.v.plus, D.str x1.v.minus, D.int .i64 x1.size, D.sl x1.b.nn (x1.b.l.map u8c), D.int .i64 x1.align], .b false, .b false, .b false, .b false, .b false]) (hs' := []) (cs := [_, ((h : Nat) : Int) = ((h : Nat) : Int), _, _, _, _, _, _, _, _, _]) (by kernel_rfl) ⟨c0, rfl, c1, c2, c3, c4, c5, c6, c7, c8, c9, trivial⟩
theorem w17l_2 (pt : Int) (ml : List TMrk) (its : List TItm) (p : TPrt) (h : Nat) (hp : HL) (x1 : TPce)
    (c0 : (decide (((h : Nat) : Int) < ((p.pieces.l.length : Nat) : Int))) = true)
    (c1 : (p.pieces.l.map TPce.c)[h]? = some [D.int .i64 x1.kind, D.int .i64 x1.file, D.int .i64 x1.line, D.str x1.l.name, D.sl x1.l.opers.nn (x1.l.opers.l.map TOpr.c), D.int .i64 x1.v.add, D.str x1.v.plus, D.str x1.v.minus, D.int .i64 x1.size, D.sl x1.b.nn (x1.b.l.map u8c), D.int .i64 x1.align])
    (c2 : (x1.kind == 2) = false)
    (c3 : (x1.kind == 1) = false)
    (c4 : (x1.kind == 3) = false)
    (c5 : (x1.kind == 4) = false)
    (c6 : (x1.kind == 5) = true)
    (c7 : List.all [[D.int .i64 2, D.int .i64 0, D.int .i64 x1.align, D.int .i64 0, D.int .i64 0, D.int .i64 0, D.int .i64 0]] (fun x => x.length == 7) = true)
    (c8 : its.length = (its.map TItm.oc).length)
    (c9 : (its.length + 1) * 56 ≤ room) :
    Ev pg i17_l2 ⟨[(1, V.d (D.int .i64 pt)), (5, V.ptr 0 5 [] 0 0), (8, V.msl 0 8 [] 0 its.length), (38, V.d (D.sl p.pieces.nn (p.pieces.l.map TPce.c))), (39, V.d (D.int .i64 ((p.pieces.l.length : Nat) : Int))), (40, V.d (D.int .i64 ((h : Nat) : Int)))], [(5, Ob.row true 1 true [[C.mp (mpOf ml)]]), (8, Ob.row false 7 false (its.map TItm.oc))] :: hp⟩ .normal ⟨[(1, V.d (D.int .i64 pt)), (5, V.ptr 0 5 [] 0 0), (8, V.msl 0 8 [] 0 (its.length + 1)), (38, V.d (D.sl p.pieces.nn (p.pieces.l.map TPce.c))), (39, V.d (D.int .i64 ((p.pieces.l.length : Nat) : Int))), (40, V.d (D.int .i64 (IntKind.i64.wrap (((h : Nat) : Int) + 1))))], [(5, Ob.row true 1 true [[C.mp (mpOf ml)]]), (8, Ob.row false 7 false ((its.map TItm.oc) ++ [[C.d (D.int .i64 2), C.d (D.int .i64 0), C.d (D.int .i64 x1.align), C.d (D.int .i64 0), C.d (D.int .i64 0), C.d (D.int .i64 0), C.d (D.int .i64 0)]]))] :: hp⟩ :=
  codeC_ok (hs := [.b true, .n h, .ds [D.int .i64 x1.kind, D.int .i64 x1.file, D.int .i64 x1.line, D.str x1.l.name, D.sl x1.l.opers.nn (x1.l.opers.l.map TOpr.c), D.int .i64 x1.v.add, D.str x1.v.plus, D.str x1.v.minus, D.int .i64 x1.size, D.sl x1.b.nn (x1.b.l.map u8c), D.int .i64 x1.align], .b false, .b false, .b false, .b false, .b true]) (hs' := []) (cs := [_, ((h : Nat) : Int) = ((h : Nat) : Int), _, _, _, _, _, _, _, _, _]) (by kernel_rfl) ⟨c0, rfl, c1, c2, c3, c4, c5, c6, c7, c8, c9, trivial⟩
theorem w17l_3 (pt : Int) (ml : List TMrk) (its : List TItm) (p : TPrt) (h : Nat) (hp : HL) (x1 : TPce)
    (c0 : (decide (((h : Nat) : Int) < ((p.pieces.l.length : Nat) : Int))) = true)
    (c1 : (p.pieces.l.map TPce.c)[h]? = some [D.int .i64 x1.kind, D.int .i64 x1.file, D.int .i64 x1.line, D.str x1.l.name, D.sl x1.l.opers.nn (x1.l.opers.l.map TOpr.c), D.int .i64 x1.v.add, D.str x1.v.plus, D.str x1.v.minus, D.int .i64 x1.size, D.sl x1.b.nn (x1.b.l.map u8c), D.int .i64 x1.align])
    (c2 : (x1.kind == 2) = false)
    (c3 : (x1.kind == 1) = false)
    (c4 : (x1.kind == 3) = false)
    (c5 : (x1.kind == 4) = true)
    (c6 : List.all [[D.int .i64 1, D.int .i64 (((x1.b.l.map u8c).length : Nat) : Int), D.int .i64 0, D.int .i64 0, D.int .i64 0, D.int .i64 0, D.int .i64 0]] (fun x => x.length == 7) = true)
    (c7 : its.length = (its.map TItm.oc).length)
    (c8 : (its.length + 1) * 56 ≤ room) :
    Ev pg i17_l2 ⟨[(1, V.d (D.int .i64 pt)), (5, V.ptr 0 5 [] 0 0), (8, V.msl 0 8 [] 0 its.length), (38, V.d (D.sl p.pieces.nn (p.pieces.l.map TPce.c))), (39, V.d (D.int .i64 ((p.pieces.l.length : Nat) : Int))), (40, V.d (D.int .i64 ((h : Nat) : Int)))], [(5, Ob.row true 1 true [[C.mp (mpOf ml)]]), (8, Ob.row false 7 false (its.map TItm.oc))] :: hp⟩ .normal ⟨[(1, V.d (D.int .i64 pt)), (5, V.ptr 0 5 [] 0 0), (8, V.msl 0 8 [] 0 (its.length + 1)), (38, V.d (D.sl p.pieces.nn (p.pieces.l.map TPce.c))), (39, V.d (D.int .i64 ((p.pieces.l.length : Nat) : Int))), (40, V.d (D.int .i64 (IntKind.i64.wrap (((h : Nat) : Int) + 1))))], [(5, Ob.row true 1 true [[C.mp (mpOf ml)]]), (8, Ob.row false 7 false ((its.map TItm.oc) ++ [[C.d (D.int .i64 1), C.d (D.int .i64 (((x1.b.l.map u8c).length : Nat) : Int)), C.d (D.int .i64 0), C.d (D.int .i64 0), C.d (D.int .i64 0), C.d (D.int .i64 0), C.d (D.int .i64 0)]]))] :: hp⟩ :=
  codeC_ok (hs := [.b true, .n h, .ds [D.int .i64 x1.kind, D.int .i64 x1.file, D.int .i64 x1.line, D.str x1.l.name, D.sl x1.l.opers.nn (x1.l.opers.l.map TOpr.c), D.int .i64 x1.v.add, D.str x1.v.plus, D.str x1.v.minus, D.int .i64 x1.size, D.sl x1.b.nn (x1.b.l.map u8c), D.int .i64 x1.align], .b false, .b false, .b false, .b true]) (hs' := []) (cs := [_, ((h : Nat) : Int) = ((h : Nat) : Int), _, _, _, _, _, _, _, _]) (by kernel_rfl) ⟨c0, rfl, c1, c2, c3, c4, c5, c6, c7, c8, trivial⟩
theorem w17l_4 (pt : Int) (ml : List TMrk) (its : List TItm) (p : TPrt) (h : Nat) (hp : HL) (x1 : TPce)
    (c0 : (decide (((h : Nat) : Int) < ((p.pieces.l.length : Nat) : Int))) = true)
    (c1 : (p.pieces.l.map TPce.c)[h]? = some [D.int .i64 x1.kind, D.int .i64 x1.file, D.int .i64 x1.line, D.str x1.l.name, D.sl x1.l.opers.nn (x1.l.opers.l.map TOpr.c), D.int .i64 x1.v.add, D.str x1.v.plus, D.str x1.v.minus, D.int .i64 x1.size, D.sl x1.b.nn (x1.b.l.map u8c), D.int .i64 x1.align])
    (c2 : (x1.kind == 2) = false)
    (c3 : (x1.kind == 1) = false)
    (c4 : (x1.kind == 3) = true)
    (c5 : List.all [[D.int .i64 1, D.int .i64 x1.size, D.int .i64 0, D.int .i64 0, D.int .i64 0, D.int .i64 0, D.int .i64 0]] (fun x => x.length == 7) = true)
    (c6 : its.length = (its.map TItm.oc).length)
    (c7 : (its.length + 1) * 56 ≤ room) :
    Ev pg i17_l2 ⟨[(1, V.d (D.int .i64 pt)), (5, V.ptr 0 5 [] 0 0), (8, V.msl 0 8 [] 0 its.length), (38, V.d (D.sl p.pieces.nn (p.pieces.l.map TPce.c))), (39, V.d (D.int .i64 ((p.pieces.l.length : Nat) : Int))), (40, V.d (D.int .i64 ((h : Nat) : Int)))], [(5, Ob.row true 1 true [[C.mp (mpOf ml)]]), (8, Ob.row false 7 false (its.map TItm.oc))] :: hp⟩ .normal ⟨[(1, V.d (D.int .i64 pt)), (5, V.ptr 0 5 [] 0 0), (8, V.msl 0 8 [] 0 (its.length + 1)), (38, V.d (D.sl p.pieces.nn (p.pieces.l.map TPce.c))), (39, V.d (D.int .i64 ((p.pieces.l.length : Nat) : Int))), (40, V.d (D.int .i64 (IntKind.i64.wrap (((h : Nat) : Int) + 1))))], [(5, Ob.row true 1 true [[C.mp (mpOf ml)]]), (8, Ob.row false 7 false ((its.map TItm.oc) ++ [[C.d (D.int .i64 1), C.d (D.int .i64 x1.size), C.d (D.int .i64 0), C.d (D.int .i64 0), C.d (D.int .i64 0), C.d (D.int .i64 0), C.d (D.int .i64 0)]]))] :: hp⟩ :=
  codeC_ok (hs := [.b true, .n h, .ds [D.int .i64 x1.kind, D.int .i64 x1.file, D.int .i64 x1.line, D.str x1.l.name, D.sl x1.l.opers.nn (x1.l.opers.l.map TOpr.c), D.int .i64 x1.v.add, D.str x1.v.plus, D.str x1.v.minus, D.int .i64 x1.size, D.sl x1.b.nn (x1.b.l.map u8c), D.int .i64 x1.align], .b false, .b false, .b true]) (hs' := []) (cs := [_, ((h : Nat) : Int) = ((h : Nat) : Int), _, _, _, _, _, _, _]) (by kernel_rfl) ⟨c0, rfl, c1, c2, c3, c4, c5, c6, c7, trivial⟩
theorem w17l_5 (pt : Int) (ml : List TMrk) (its : List TItm) (p : TPrt) (h : Nat) (hp : HL) (x1 : TPce)
    (c0 : (decide (((h : Nat) : Int) < ((p.pieces.l.length : Nat) : Int))) = true)
    (c1 : (p.pieces.l.map TPce.c)[h]? = some [D.int .i64 x1.kind, D.int .i64 x1.file, D.int .i64 x1.line, D.str x1.l.name, D.sl x1.l.opers.nn (x1.l.opers.l.map TOpr.c), D.int .i64 x1.v.add, D.str x1.v.plus, D.str x1.v.minus, D.int .i64 x1.size, D.sl x1.b.nn (x1.b.l.map u8c), D.int .i64 x1.align])
    (c2 : (x1.kind == 2) = false)
    (c3 : (x1.kind == 1) = true)
    (c4 : List.all [[D.int .i64 1, D.int .i64 4, D.int .i64 0, D.int .i64 0, D.int .i64 0, D.int .i64 0, D.int .i64 0]] (fun x => x.length == 7) = true)
    (c5 : its.length = (its.map TItm.oc).length)
    (c6 : (its.length + 1) * 56 ≤ room) :
    Ev pg i17_l2 ⟨[(1, V.d (D.int .i64 pt)), (5, V.ptr 0 5 [] 0 0), (8, V.msl 0 8 [] 0 its.length), (38, V.d (D.sl p.pieces.nn (p.pieces.l.map TPce.c))), (39, V.d (D.int .i64 ((p.pieces.l.length : Nat) : Int))), (40, V.d (D.int .i64 ((h : Nat) : Int)))], [(5, Ob.row true 1 true [[C.mp (mpOf ml)]]), (8, Ob.row false 7 false (its.map TItm.oc))] :: hp⟩ .normal ⟨[(1, V.d (D.int .i64 pt)), (5, V.ptr 0 5 [] 0 0), (8, V.msl 0 8 [] 0 (its.length + 1)), (38, V.d (D.sl p.pieces.nn (p.pieces.l.map TPce.c))), (39, V.d (D.int .i64 ((p.pieces.l.length : Nat) : Int))), (40, V.d (D.int .i64 (IntKind.i64.wrap (((h : Nat) : Int) + 1))))], [(5, Ob.row true 1 true [[C.mp (mpOf ml)]]), (8, Ob.row false 7 false ((its.map TItm.oc) ++ [[C.d (D.int .i64 1), C.d (D.int .i64 4), C.d (D.int .i64 0), C.d (D.int .i64 0), C.d (D.int .i64 0), C.d (D.int .i64 0), C.d (D.int .i64 0)]]))] :: hp⟩ :=
  codeC_ok (hs := [.b true, .n h, .ds [D.int .i64 x1.kind, D.int .i64 x1.file, D.int .i64 x1.line, D.str x1.l.name, D.sl x1.l.opers.nn (x1.l.opers.l.map TOpr.c), D.int .i64 x1.v.add, D.str x1.v.plus, D.str x1.v.minus, D.int .i64 x1.size, D.sl x1.b.nn (x1.b.l.map u8c), D.int .i64 x1.align], .b false, .b true]) (hs' := []) (cs := [_, ((h : Nat) : Int) = ((h : Nat) : Int), _, _, _, _, _, _]) (by kernel_rfl) ⟨c0, rfl, c1, c2, c3, c4, c5, c6, trivial⟩
theorem w17l_6 (pt : Int) (ml : List TMrk) (its : List TItm) (p : TPrt) (h : Nat) (hp : HL) (x1 : TPce) (y2 : TItm) (q3 : Bool)
    (c0 : (decide (((h : Nat) : Int) < ((p.pieces.l.length : Nat) : Int))) = true)
    (c1 : (p.pieces.l.map TPce.c)[h]? = some [D.int .i64 x1.kind, D.int .i64 x1.file, D.int .i64 x1.line, D.str x1.l.name, D.sl x1.l.opers.nn (x1.l.opers.l.map TOpr.c), D.int .i64 x1.v.add, D.str x1.v.plus, D.str x1.v.minus, D.int .i64 x1.size, D.sl x1.b.nn (x1.b.l.map u8c), D.int .i64 x1.align])
    (c2 : (x1.kind == 2) = true)
    (c3 : Rn pg 35 [V.mp 0 5 (some ([], 0, 0)), V.d (D.int .i64 pt), V.d (D.agg [D.str x1.l.name, D.sl x1.l.opers.nn (x1.l.opers.l.map TOpr.c)])] ([(5, Ob.row true 1 true [[C.mp (mpOf ml)]]), (8, Ob.row false 7 false (its.map TItm.oc)), (10, Ob.row true 11 true [[C.d (D.int .i64 x1.kind), C.d (D.int .i64 x1.file), C.d (D.int .i64 x1.line), C.d (D.str x1.l.name), C.d (D.sl x1.l.opers.nn (x1.l.opers.l.map TOpr.c)), C.d (D.int .i64 x1.v.add), C.d (D.str x1.v.plus), C.d (D.str x1.v.minus), C.d (D.int .i64 x1.size), C.d (D.sl x1.b.nn (x1.b.l.map u8c)), C.d (D.int .i64 x1.align)]]), (11, Ob.row true 7 true [[C.d (D.int .i64 1), C.d (D.int .i64 0), C.d (D.int .i64 0), C.d (D.int .i64 0), C.d (D.int .i64 0), C.d (D.int .i64 0), C.d (D.int .i64 0)]])] :: hp) (V.tup [V.d (D.agg [D.int .i64 y2.kind, D.int .i64 y2.size, D.int .i64 y2.align, D.int .i64 y2.to, D.int .i64 y2.add, D.int .i64 y2.low, D.int .i64 y2.high]), V.d (D.bool q3)]) ([(5, Ob.row true 1 true [[C.mp (mpOf ml)]]), (8, Ob.row false 7 false (its.map TItm.oc)), (10, Ob.row true 11 true [[C.d (D.int .i64 x1.kind), C.d (D.int .i64 x1.file), C.d (D.int .i64 x1.line), C.d (D.str x1.l.name), C.d (D.sl x1.l.opers.nn (x1.l.opers.l.map TOpr.c)), C.d (D.int .i64 x1.v.add), C.d (D.str x1.v.plus), C.d (D.str x1.v.minus), C.d (D.int .i64 x1.size), C.d (D.sl x1.b.nn (x1.b.l.map u8c)), C.d (D.int .i64 x1.align)]]), (11, Ob.row true 7 true [[C.d (D.int .i64 1), C.d (D.int .i64 0), C.d (D.int .i64 0), C.d (D.int .i64 0), C.d (D.int .i64 0), C.d (D.int .i64 0), C.d (D.int .i64 0)]])] :: hp))
    (c4 : q3 = false)
    (c5 : List.all [[D.int .i64 1, D.int .i64 4, D.int .i64 0, D.int .i64 0, D.int .i64 0, D.int .i64 0, D.int .i64 0]] (fun x => x.length == 7) = true)
    (c6 : its.length = (its.map TItm.oc).length)
    (c7 : (its.length + 1) * 56 ≤ room) :
    Ev pg i17_l2 ⟨[(1, V.d (D.int .i64 pt)), (5, V.ptr 0 5 [] 0 0), (8, V.msl 0 8 [] 0 its.length), (38, V.d (D.sl p.pieces.nn (p.pieces.l.map TPce.c))), (39, V.d (D.int .i64 ((p.pieces.l.length : Nat) : Int))), (40, V.d (D.int .i64 ((h : Nat) : Int)))], [(5, Ob.row true 1 true [[C.mp (mpOf ml)]]), (8, Ob.row false 7 false (its.map TItm.oc))] :: hp⟩ .normal ⟨[(1, V.d (D.int .i64 pt)), (5, V.ptr 0 5 [] 0 0), (8, V.msl 0 8 [] 0 (its.length + 1)), (38, V.d (D.sl p.pieces.nn (p.pieces.l.map TPce.c))), (39, V.d (D.int .i64 ((p.pieces.l.length : Nat) : Int))), (40, V.d (D.int .i64 (IntKind.i64.wrap (((h : Nat) : Int) + 1))))], [(5, Ob.row true 1 true [[C.mp (mpOf ml)]]), (8, Ob.row false 7 false ((its.map TItm.oc) ++ [[C.d (D.int .i64 1), C.d (D.int .i64 4), C.d (D.int .i64 0), C.d (D.int .i64 0), C.d (D.int .i64 0), C.d (D.int .i64 0), C.d (D.int .i64 0)]]))] :: hp⟩ :=
  codeC_ok (hs := [.b true, .n h, .ds [D.int .i64 x1.kind, D.int .i64 x1.file, D.int .i64 x1.line, D.str x1.l.name, D.sl x1.l.opers.nn (x1.l.opers.l.map TOpr.c), D.int .i64 x1.v.add, D.str x1.v.plus, D.str x1.v.minus, D.int .i64 x1.size, D.sl x1.b.nn (x1.b.l.map u8c), D.int .i64 x1.align], .b true, .call (V.tup [V.d (D.agg [D.int .i64 y2.kind, D.int .i64 y2.size, D.int .i64 y2.align, D.int .i64 y2.to, D.int .i64 y2.add, D.int .i64 y2.low, D.int .i64 y2.high]), V.d (D.bool q3)]) ([(5, Ob.row true 1 true [[C.mp (mpOf ml)]]), (8, Ob.row false 7 false (its.map TItm.oc)), (10, Ob.row true 11 true [[C.d (D.int .i64 x1.kind), C.d (D.int .i64 x1.file), C.d (D.int .i64 x1.line), C.d (D.str x1.l.name), C.d (D.sl x1.l.opers.nn (x1.l.opers.l.map TOpr.c)), C.d (D.int .i64 x1.v.add), C.d (D.str x1.v.plus), C.d (D.str x1.v.minus), C.d (D.int .i64 x1.size), C.d (D.sl x1.b.nn (x1.b.l.map u8c)), C.d (D.int .i64 x1.align)]]), (11, Ob.row true 7 true [[C.d (D.int .i64 1), C.d (D.int .i64 0), C.d (D.int .i64 0), C.d (D.int .i64 0), C.d (D.int .i64 0), C.d (D.int .i64 0), C.d (D.int .i64 0)]])] :: hp), .b false]) (hs' := []) (cs := [_, ((h : Nat) : Int) = ((h : Nat) : Int), _, _, _, _, _, _, _]) (by kernel_rfl) ⟨c0, rfl, c1, c2, c3, c4, c5, c6, c7, trivial⟩
theorem w17l_7 (pt : Int) (ml : List TMrk) (its : List TItm) (p : TPrt) (h : Nat) (hp : HL) (x1 : TPce) (y2 : TItm) (q3 : Bool)
    (c0 : (decide (((h : Nat) : Int) < ((p.pieces.l.length : Nat) : Int))) = true)
    (c1 : (p.pieces.l.map TPce.c)[h]? = some [D.int .i64 x1.kind, D.int .i64 x1.file, D.int .i64 x1.line, D.str x1.l.name, D.sl x1.l.opers.nn (x1.l.opers.l.map TOpr.c), D.int .i64 x1.v.add, D.str x1.v.plus, D.str x1.v.minus, D.int .i64 x1.size, D.sl x1.b.nn (x1.b.l.map u8c), D.int .i64 x1.align])
    (c2 : (x1.kind == 2) = true)
    (c3 : Rn pg 35 [V.mp 0 5 (some ([], 0, 0)), V.d (D.int .i64 pt), V.d (D.agg [D.str x1.l.name, D.sl x1.l.opers.nn (x1.l.opers.l.map TOpr.c)])] ([(5, Ob.row true 1 true [[C.mp (mpOf ml)]]), (8, Ob.row false 7 false (its.map TItm.oc)), (10, Ob.row true 11 true [[C.d (D.int .i64 x1.kind), C.d (D.int .i64 x1.file), C.d (D.int .i64 x1.line), C.d (D.str x1.l.name), C.d (D.sl x1.l.opers.nn (x1.l.opers.l.map TOpr.c)), C.d (D.int .i64 x1.v.add), C.d (D.str x1.v.plus), C.d (D.str x1.v.minus), C.d (D.int .i64 x1.size), C.d (D.sl x1.b.nn (x1.b.l.map u8c)), C.d (D.int .i64 x1.align)]]), (11, Ob.row true 7 true [[C.d (D.int .i64 1), C.d (D.int .i64 0), C.d (D.int .i64 0), C.d (D.int .i64 0), C.d (D.int .i64 0), C.d (D.int .i64 0), C.d (D.int .i64 0)]])] :: hp) (V.tup [V.d (D.agg [D.int .i64 y2.kind, D.int .i64 y2.size, D.int .i64 y2.align, D.int .i64 y2.to, D.int .i64 y2.add, D.int .i64 y2.low, D.int .i64 y2.high]), V.d (D.bool q3)]) ([(5, Ob.row true 1 true [[C.mp (mpOf ml)]]), (8, Ob.row false 7 false (its.map TItm.oc)), (10, Ob.row true 11 true [[C.d (D.int .i64 x1.kind), C.d (D.int .i64 x1.file), C.d (D.int .i64 x1.line), C.d (D.str x1.l.name), C.d (D.sl x1.l.opers.nn (x1.l.opers.l.map TOpr.c)), C.d (D.int .i64 x1.v.add), C.d (D.str x1.v.plus), C.d (D.str x1.v.minus), C.d (D.int .i64 x1.size), C.d (D.sl x1.b.nn (x1.b.l.map u8c)), C.d (D.int .i64 x1.align)]]), (11, Ob.row true 7 true [[C.d (D.int .i64 1), C.d (D.int .i64 0), C.d (D.int .i64 0), C.d (D.int .i64 0), C.d (D.int .i64 0), C.d (D.int .i64 0), C.d (D.int .i64 0)]])] :: hp))
    (c4 : q3 = true)
    (c5 : List.all [[D.int .i64 y2.kind, D.int .i64 y2.size, D.int .i64 y2.align, D.int .i64 y2.to, D.int .i64 y2.add, D.int .i64 y2.low, D.int .i64 y2.high]] (fun x => x.length == 7) = true)
    (c6 : its.length = (its.map TItm.oc).length)
    (c7 : (its.length + 1) * 56 ≤ room) :
    Ev pg i17_l2 ⟨[(1, V.d (D.int .i64 pt)), (5, V.ptr 0 5 [] 0 0), (8, V.msl 0 8 [] 0 its.length), (38, V.d (D.sl p.pieces.nn (p.pieces.l.map TPce.c))), (39, V.d (D.int .i64 ((p.pieces.l.length : Nat) : Int))), (40, V.d (D.int .i64 ((h : Nat) : Int)))], [(5, Ob.row true 1 true [[C.mp (mpOf ml)]]), (8, Ob.row false 7 false (its.map TItm.oc))] :: hp⟩ .normal ⟨[(1, V.d (D.int .i64 pt)), (5, V.ptr 0 5 [] 0 0), (8, V.msl 0 8 [] 0 (its.length + 1)), (38, V.d (D.sl p.pieces.nn (p.pieces.l.map TPce.c))), (39, V.d (D.int .i64 ((p.pieces.l.length : Nat) : Int))), (40, V.d (D.int .i64 (IntKind.i64.wrap (((h : Nat) : Int) + 1))))], [(5, Ob.row true 1 true [[C.mp (mpOf ml)]]), (8, Ob.row false 7 false ((its.map TItm.oc) ++ [[C.d (D.int .i64 y2.kind), C.d (D.int .i64 y2.size), C.d (D.int .i64 y2.align), C.d (D.int .i64 y2.to), C.d (D.int .i64 y2.add), C.d (D.int .i64 y2.low), C.d (D.int .i64 y2.high)]]))] :: hp⟩ :=
  codeC_ok (hs := [.b true, .n h, .ds [D.int .i64 x1.kind, D.int .i64 x1.file, D.int .i64 x1.line, D.str x1.l.name, D.sl x1.l.opers.nn (x1.l.opers.l.map TOpr.c), D.int .i64 x1.v.add, D.str x1.v.plus, D.str x1.v.minus, D.int .i64 x1.size, D.sl x1.b.nn (x1.b.l.map u8c), D.int .i64 x1.align], .b true, .call (V.tup [V.d (D.agg [D.int .i64 y2.kind, D.int .i64 y2.size, D.int .i64 y2.align, D.int .i64 y2.to, D.int .i64 y2.add, D.int .i64 y2.low, D.int .i64 y2.high]), V.d (D.bool q3)]) ([(5, Ob.row true 1 true [[C.mp (mpOf ml)]]), (8, Ob.row false 7 false (its.map TItm.oc)), (10, Ob.row true 11 true [[C.d (D.int .i64 x1.kind), C.d (D.int .i64 x1.file), C.d (D.int .i64 x1.line), C.d (D.str x1.l.name), C.d (D.sl x1.l.opers.nn (x1.l.opers.l.map TOpr.c)), C.d (D.int .i64 x1.v.add), C.d (D.str x1.v.plus), C.d (D.str x1.v.minus), C.d (D.int .i64 x1.size), C.d (D.sl x1.b.nn (x1.b.l.map u8c)), C.d (D.int .i64 x1.align)]]), (11, Ob.row true 7 true [[C.d (D.int .i64 1), C.d (D.int .i64 0), C.d (D.int .i64 0), C.d (D.int .i64 0), C.d (D.int .i64 0), C.d (D.int .i64 0), C.d (D.int .i64 0)]])] :: hp), .b true]) (hs' := []) (cs := [_, ((h : Nat) : Int) = ((h : Nat) : Int), _, _, _, _, _, _, _]) (by kernel_rfl) ⟨c0, rfl, c1, c2, c3, c4, c5, c6, c7, trivial⟩
theorem w17_0 (u : TUnt) (pt : Int) (hp : HL) (ml1 : List TMrk) (k2 : Nat) (x3 : TPrt) (its4 : List TItm)
    (c0 : (decide (pt < 0)) = false)
    (c1 : (decide (pt ≥ (((u.parts.l.map TPrt.c).length : Nat) : Int))) = false)
    (c2 : (u.marks.l.map TMrk.c).length < 1099511627776)
    (c3 : Bk pg i17_l0 28 (List.reverse (u.marks.l.map TMrk.c)) ⟨[(1, V.d (D.int .i64 pt)), (2, V.ptr 0 2 [] 0 0), (5, V.ptr 0 5 [] 0 0), (25, V.d (D.sl u.marks.nn (u.marks.l.map TMrk.c)))], [(2, Ob.row true 3 true [[C.d (D.sl u.parts.nn (u.parts.l.map TPrt.c)), C.d (D.sl u.marks.nn (u.marks.l.map TMrk.c)), C.d (D.sl u.globals.nn (u.globals.l.map TTld.c))]]), (5, Ob.row true 1 true [[C.mp ([])]])] :: hp⟩ ⟨[(1, V.d (D.int .i64 pt)), (2, V.ptr 0 2 [] 0 0), (5, V.ptr 0 5 [] 0 0), (25, V.d (D.sl u.marks.nn (u.marks.l.map TMrk.c)))], [(2, Ob.row true 3 true [[C.d (D.sl u.parts.nn (u.parts.l.map TPrt.c)), C.d (D.sl u.marks.nn (u.marks.l.map TMrk.c)), C.d (D.sl u.globals.nn (u.globals.l.map TTld.c))]]), (5, Ob.row true 1 true [[C.mp (mpOf ml1)]])] :: hp⟩)
    (c4 : pt = ((k2 : Nat) : Int))
    (c5 : (u.parts.l.map TPrt.c)[k2]? = some [D.str x3.name, D.int .i64 x3.file, D.int .i64 x3.line, D.sl x3.pieces.nn (x3.pieces.l.map TPce.c)])
    (c6 : Lp pg i17_l2 ⟨[(1, V.d (D.int .i64 pt)), (5, V.ptr 0 5 [] 0 0), (8, V.msl 0 8 [] 0 0), (38, V.d (D.sl x3.pieces.nn (x3.pieces.l.map TPce.c))), (39, V.d (D.int .i64 (((x3.pieces.l.map TPce.c).length : Nat) : Int))), (40, V.d (D.int .i64 0))], [(5, Ob.row true 1 true [[C.mp (mpOf ml1)]]), (8, Ob.row false 7 false [])] :: hp⟩ (.exit 2) ⟨[(1, V.d (D.int .i64 pt)), (5, V.ptr 0 5 [] 0 0), (8, V.msl 0 8 [] 0 its4.length), (38, V.d (D.sl x3.pieces.nn (x3.pieces.l.map TPce.c))), (39, V.d (D.int .i64 ((x3.pieces.l.length : Nat) : Int))), (40, V.d (D.int .i64 ((x3.pieces.l.length : Nat) : Int))), (41, V.d (D.bool false))], [(5, Ob.row true 1 true [[C.mp (mpOf ml1)]]), (8, Ob.row false 7 false (its4.map TItm.oc))] :: hp⟩)
    (hr : resIs ⟨[(4, V.msl 0 8 [] 0 its4.length)], [(8, Ob.row false 7 false (its4.map TItm.oc))] :: hp⟩ i17.res = some [V.d (D.sl (false || !(its4.map TItm.oc).isEmpty) (its4.map TItm.c))]) :
    Rn pg 17 [V.d (D.agg [D.sl u.parts.nn (u.parts.l.map TPrt.c), D.sl u.marks.nn (u.marks.l.map TMrk.c), D.sl u.globals.nn (u.globals.l.map TTld.c)]), V.d (D.int .i64 pt)] (hp) (V.d (D.sl (false || !(its4.map TItm.oc).isEmpty) (its4.map TItm.c))) (hp) :=
  Rn.c (fn := i17) (ex := .ret) (st := ⟨[(4, V.msl 0 8 [] 0 its4.length)], [(8, Ob.row false 7 false (its4.map TItm.oc))] :: hp⟩) (hs := [.b false, .b false, .b false, .b false, .b false, .b false, .b false, .lp .normal ⟨[(1, V.d (D.int .i64 pt)), (2, V.ptr 0 2 [] 0 0), (5, V.ptr 0 5 [] 0 0), (25, V.d (D.sl u.marks.nn (u.marks.l.map TMrk.c)))], [(2, Ob.row true 3 true [[C.d (D.sl u.parts.nn (u.parts.l.map TPrt.c)), C.d (D.sl u.marks.nn (u.marks.l.map TMrk.c)), C.d (D.sl u.globals.nn (u.globals.l.map TTld.c))]]), (5, Ob.row true 1 true [[C.mp (mpOf ml1)]])] :: hp⟩, .n k2, .ds [D.str x3.name, D.int .i64 x3.file, D.int .i64 x3.line, D.sl x3.pieces.nn (x3.pieces.l.map TPce.c)], .lp (.exit 2) ⟨[(1, V.d (D.int .i64 pt)), (5, V.ptr 0 5 [] 0 0), (8, V.msl 0 8 [] 0 its4.length), (38, V.d (D.sl x3.pieces.nn (x3.pieces.l.map TPce.c))), (39, V.d (D.int .i64 ((x3.pieces.l.length : Nat) : Int))), (40, V.d (D.int .i64 ((x3.pieces.l.length : Nat) : Int))), (41, V.d (D.bool false))], [(5, Ob.row true 1 true [[C.mp (mpOf ml1)]]), (8, Ob.row false 7 false (its4.map TItm.oc))] :: hp⟩]) (cs := [_, _, _, _, _, _, _, _, _, _, _, _]) (rs := [V.d (D.sl (false || !(its4.map TItm.oc).isEmpty) (its4.map TItm.c))]) (t := [(8, Ob.row false 7 false (its4.map TItm.oc))])
    (by kernel_rfl) (by kernel_rfl) (by kernel_rfl) (hr) (by kernel_rfl) (by kernel_rfl) ⟨c0, c0, c0, c0, c0, c0, c1, c2, c3, c4, c5, c6, trivial⟩
end Go.Proofs.YtgmphfmoonbfpaaMv

set_option maxRecDepth 100000
namespace Go.Proofs.YtgmphfmoonbfpaaMv
open Go
theorem w5c_0 (un : Bool) (us : List TUnt) (rs : Sl TRow) (j : TUnt) (n : Int) (i : Nat) (x : TUnt) (k : Nat) (hp : HL)
    (c0 : (decide (((k : Nat) : Int) < ((x.parts.l.length : Nat) : Int))) = false) :
    Ev pg i5_l2 ⟨[(1, V.d (D.sl rs.nn (rs.l.map TRow.c))), (5, V.ptr 0 5 [] 0 0), (6, V.d (D.int .i64 n)), (7, V.d (D.int .i64 0)), (35, V.d (D.sl un (us.map TUnt.c))), (36, V.d (D.int .i64 ((us.length : Nat) : Int))), (37, V.d (D.int .i64 ((i : Nat) : Int))), (42, V.d (D.sl x.parts.nn (x.parts.l.map TPrt.c))), (43, V.d (D.int .i64 ((x.parts.l.length : Nat) : Int))), (44, V.d (D.int .i64 ((k : Nat) : Int)))], [(5, Ob.row true 3 true [[C.d (D.sl j.parts.nn (j.parts.l.map TPrt.c)), C.d (D.sl j.marks.nn (j.marks.l.map TMrk.c)), C.d (D.sl j.globals.nn (j.globals.l.map TTld.c))]])] :: hp⟩ (.exit 2) ⟨[(1, V.d (D.sl rs.nn (rs.l.map TRow.c))), (5, V.ptr 0 5 [] 0 0), (6, V.d (D.int .i64 n)), (7, V.d (D.int .i64 0)), (35, V.d (D.sl un (us.map TUnt.c))), (36, V.d (D.int .i64 ((us.length : Nat) : Int))), (37, V.d (D.int .i64 ((i : Nat) : Int))), (42, V.d (D.sl x.parts.nn (x.parts.l.map TPrt.c))), (43, V.d (D.int .i64 ((x.parts.l.length : Nat) : Int))), (44, V.d (D.int .i64 ((k : Nat) : Int))), (45, V.d (D.bool false))], [(5, Ob.row true 3 true [[C.d (D.sl j.parts.nn (j.parts.l.map TPrt.c)), C.d (D.sl j.marks.nn (j.marks.l.map TMrk.c)), C.d (D.sl j.globals.nn (j.globals.l.map TTld.c))]])] :: hp⟩ :=
  by
  have r : Ev pg i5_l2 ⟨[(1, V.d (D.sl rs.nn (rs.l.map TRow.c))), (5, V.ptr 0 5 [] 0 0), (6, V.d (D.int .i64 n)), (7, V.d (D.int .i64 0)), (35, V.d (D.sl un (us.map TUnt.c))), (36, V.d (D.int .i64 ((us.length : Nat) : Int))), (37, V.d (D.int .i64 ((i : Nat) : Int))), (42, V.d (D.sl x.parts.nn (x.parts.l.map TPrt.c))), (43, V.d (D.int .i64 ((x.parts.l.length : Nat) : Int))), (44, V.d (D.int .i64 ((k : Nat) : Int)))], [(5, Ob.row true 3 true [[C.d (D.sl j.parts.nn (j.parts.l.map TPrt.c)), C.d (D.sl j.marks.nn (j.marks.l.map TMrk.c)), C.d (D.sl j.globals.nn (j.globals.l.map TTld.c))]])] :: hp⟩ (.exit 2) ⟨[(1, V.d (D.sl rs.nn (rs.l.map TRow.c))), (5, V.ptr 0 5 [] 0 0), (6, V.d (D.int .i64 n)), (7, V.d (D.int .i64 0)), (35, V.d (D.sl un (us.map TUnt.c))), (36, V.d (D.int .i64 ((us.length : Nat) : Int))), (37, V.d (D.int .i64 ((i : Nat) : Int))), (42, V.d (D.sl x.parts.nn (x.parts.l.map TPrt.c))), (43, V.d (D.int .i64 ((x.parts.l.length : Nat) : Int))), (44, V.d (D.int .i64 ((k : Nat) : Int))), (45, V.d (D.bool (decide (((k : Nat) : Int) < ((x.parts.l.length : Nat) : Int)))))], [(5, Ob.row true 3 true [[C.d (D.sl j.parts.nn (j.parts.l.map TPrt.c)), C.d (D.sl j.marks.nn (j.marks.l.map TMrk.c)), C.d (D.sl j.globals.nn (j.globals.l.map TTld.c))]])] :: hp⟩ :=
  codeC_ok (hs := [.b false]) (hs' := []) (cs := [_]) (by kernel_rfl) ⟨c0, trivial⟩
  simp only [c0] at r
  exact r
theorem w5c_1 (un : Bool) (us : List TUnt) (rs : Sl TRow) (j : TUnt) (n : Int) (i : Nat) (x : TUnt) (k : Nat) (hp : HL) (x1 : TPrt)
    (c0 : (decide (((k : Nat) : Int) < ((x.parts.l.length : Nat) : Int))) = true)
    (c1 : (x.parts.l.map TPrt.c)[k]? = some [D.str x1.name, D.int .i64 x1.file, D.int .i64 x1.line, D.sl x1.pieces.nn (x1.pieces.l.map TPce.c)]) :
    Ev pg i5_l2 ⟨[(1, V.d (D.sl rs.nn (rs.l.map TRow.c))), (5, V.ptr 0 5 [] 0 0), (6, V.d (D.int .i64 n)), (7, V.d (D.int .i64 0)), (35, V.d (D.sl un (us.map TUnt.c))), (36, V.d (D.int .i64 ((us.length : Nat) : Int))), (37, V.d (D.int .i64 ((i : Nat) : Int))), (42, V.d (D.sl x.parts.nn (x.parts.l.map TPrt.c))), (43, V.d (D.int .i64 ((x.parts.l.length : Nat) : Int))), (44, V.d (D.int .i64 ((k : Nat) : Int)))], [(5, Ob.row true 3 true [[C.d (D.sl j.parts.nn (j.parts.l.map TPrt.c)), C.d (D.sl j.marks.nn (j.marks.l.map TMrk.c)), C.d (D.sl j.globals.nn (j.globals.l.map TTld.c))]])] :: hp⟩ .normal ⟨[(1, V.d (D.sl rs.nn (rs.l.map TRow.c))), (5, V.ptr 0 5 [] 0 0), (6, V.d (D.int .i64 (IntKind.i64.wrap (n + (((x1.pieces.l.map TPce.c).length : Nat) : Int))))), (7, V.d (D.int .i64 0)), (35, V.d (D.sl un (us.map TUnt.c))), (36, V.d (D.int .i64 ((us.length : Nat) : Int))), (37, V.d (D.int .i64 ((i : Nat) : Int))), (42, V.d (D.sl x.parts.nn (x.parts.l.map TPrt.c))), (43, V.d (D.int .i64 ((x.parts.l.length : Nat) : Int))), (44, V.d (D.int .i64 (IntKind.i64.wrap (((k : Nat) : Int) + 1))))], [(5, Ob.row true 3 true [[C.d (D.sl j.parts.nn (j.parts.l.map TPrt.c)), C.d (D.sl j.marks.nn (j.marks.l.map TMrk.c)), C.d (D.sl j.globals.nn (j.globals.l.map TTld.c))]])] :: hp⟩ :=
  codeC_ok (hs := [.b true, .n k, .ds [D.str x1.name, D.int .i64 x1.file, D.int .i64 x1.line, D.sl x1.pieces.nn (x1.pieces.l.map TPce.c)]]) (hs' := []) (cs := [_, ((k : Nat) : Int) = ((k : Nat) : Int), _]) (by kernel_rfl) ⟨c0, rfl, c1, trivial⟩
theorem w5a_0 (un : Bool) (us : List TUnt) (rs : Sl TRow) (j : TUnt) (n : Int) (i : Nat) (hp : HL)
    (c0 : (decide (((i : Nat) : Int) < ((us.length : Nat) : Int))) = false) :
    Ev pg i5_l0 ⟨[(1, V.d (D.sl rs.nn (rs.l.map TRow.c))), (5, V.ptr 0 5 [] 0 0), (6, V.d (D.int .i64 n)), (7, V.d (D.int .i64 0)), (35, V.d (D.sl un (us.map TUnt.c))), (36, V.d (D.int .i64 ((us.length : Nat) : Int))), (37, V.d (D.int .i64 ((i : Nat) : Int)))], [(5, Ob.row true 3 true [[C.d (D.sl j.parts.nn (j.parts.l.map TPrt.c)), C.d (D.sl j.marks.nn (j.marks.l.map TMrk.c)), C.d (D.sl j.globals.nn (j.globals.l.map TTld.c))]])] :: hp⟩ (.exit 0) ⟨[(1, V.d (D.sl rs.nn (rs.l.map TRow.c))), (5, V.ptr 0 5 [] 0 0), (6, V.d (D.int .i64 n)), (7, V.d (D.int .i64 0)), (35, V.d (D.sl un (us.map TUnt.c))), (36, V.d (D.int .i64 ((us.length : Nat) : Int))), (37, V.d (D.int .i64 ((i : Nat) : Int))), (38, V.d (D.bool false))], [(5, Ob.row true 3 true [[C.d (D.sl j.parts.nn (j.parts.l.map TPrt.c)), C.d (D.sl j.marks.nn (j.marks.l.map TMrk.c)), C.d (D.sl j.globals.nn (j.globals.l.map TTld.c))]])] :: hp⟩ :=
  by
  have r : Ev pg i5_l0 ⟨[(1, V.d (D.sl rs.nn (rs.l.map TRow.c))), (5, V.ptr 0 5 [] 0 0), (6, V.d (D.int .i64 n)), (7, V.d (D.int .i64 0)), (35, V.d (D.sl un (us.map TUnt.c))), (36, V.d (D.int .i64 ((us.length : Nat) : Int))), (37, V.d (D.int .i64 ((i : Nat) : Int)))], [(5, Ob.row true 3 true [[C.d (D.sl j.parts.nn (j.parts.l.map TPrt.c)), C.d (D.sl j.marks.nn (j.marks.l.map TMrk.c)), C.d (D.sl j.globals.nn (j.globals.l.map TTld.c))]])] :: hp⟩ (.exit 0) ⟨[(1, V.d (D.sl rs.nn (rs.l.map TRow.c))), (5, V.ptr 0 5 [] 0 0), (6, V.d (D.int .i64 n)), (7, V.d (D.int .i64 0)), (35, V.d (D.sl un (us.map TUnt.c))), (36, V.d (D.int .i64 ((us.length : Nat) : Int))), (37, V.d (D.int .i64 ((i : Nat) : Int))), (38, V.d (D.bool (decide (((i : Nat) : Int) < ((us.length : Nat) : Int)))))], [(5, Ob.row true 3 true [[C.d (D.sl j.parts.nn (j.parts.l.map TPrt.c)), C.d (D.sl j.marks.nn (j.marks.l.map TMrk.c)), C.d (D.sl j.globals.nn (j.globals.l.map TTld.c))]])] :: hp⟩ :=
  codeC_ok (hs := [.b false]) (hs' := []) (cs := [_]) (by kernel_rfl) ⟨c0, trivial⟩
  simp only [c0] at r
  exact r
theorem w5a_1 (un : Bool) (us : List TUnt) (rs : Sl TRow) (j : TUnt) (n : Int) (i : Nat) (hp : HL) (x1 : TUnt) (n2 : Int)
    (c0 : (decide (((i : Nat) : Int) < ((us.length : Nat) : Int))) = true)
    (c1 : (us.map TUnt.c)[i]? = some [D.sl x1.parts.nn (x1.parts.l.map TPrt.c), D.sl x1.marks.nn (x1.marks.l.map TMrk.c), D.sl x1.globals.nn (x1.globals.l.map TTld.c)])
    (c2 : Lp pg i5_l2 ⟨[(1, V.d (D.sl rs.nn (rs.l.map TRow.c))), (5, V.ptr 0 5 [] 0 0), (6, V.d (D.int .i64 n)), (7, V.d (D.int .i64 0)), (35, V.d (D.sl un (us.map TUnt.c))), (36, V.d (D.int .i64 ((us.length : Nat) : Int))), (37, V.d (D.int .i64 ((i : Nat) : Int))), (42, V.d (D.sl x1.parts.nn (x1.parts.l.map TPrt.c))), (43, V.d (D.int .i64 (((x1.parts.l.map TPrt.c).length : Nat) : Int))), (44, V.d (D.int .i64 0))], [(5, Ob.row true 3 true [[C.d (D.sl j.parts.nn (j.parts.l.map TPrt.c)), C.d (D.sl j.marks.nn (j.marks.l.map TMrk.c)), C.d (D.sl j.globals.nn (j.globals.l.map TTld.c))]])] :: hp⟩ (.exit 2) ⟨[(1, V.d (D.sl rs.nn (rs.l.map TRow.c))), (5, V.ptr 0 5 [] 0 0), (6, V.d (D.int .i64 n2)), (7, V.d (D.int .i64 0)), (35, V.d (D.sl un (us.map TUnt.c))), (36, V.d (D.int .i64 ((us.length : Nat) : Int))), (37, V.d (D.int .i64 ((i : Nat) : Int))), (42, V.d (D.sl x1.parts.nn (x1.parts.l.map TPrt.c))), (43, V.d (D.int .i64 ((x1.parts.l.length : Nat) : Int))), (44, V.d (D.int .i64 ((x1.parts.l.length : Nat) : Int))), (45, V.d (D.bool false))], [(5, Ob.row true 3 true [[C.d (D.sl j.parts.nn (j.parts.l.map TPrt.c)), C.d (D.sl j.marks.nn (j.marks.l.map TMrk.c)), C.d (D.sl j.globals.nn (j.globals.l.map TTld.c))]])] :: hp⟩) :
    Ev pg i5_l0 ⟨[(1, V.d (D.sl rs.nn (rs.l.map TRow.c))), (5, V.ptr 0 5 [] 0 0), (6, V.d (D.int .i64 n)), (7, V.d (D.int .i64 0)), (35, V.d (D.sl un (us.map TUnt.c))), (36, V.d (D.int .i64 ((us.length : Nat) : Int))), (37, V.d (D.int .i64 ((i : Nat) : Int)))], [(5, Ob.row true 3 true [[C.d (D.sl j.parts.nn (j.parts.l.map TPrt.c)), C.d (D.sl j.marks.nn (j.marks.l.map TMrk.c)), C.d (D.sl j.globals.nn (j.globals.l.map TTld.c))]])] :: hp⟩ .normal ⟨[(1, V.d (D.sl rs.nn (rs.l.map TRow.c))), (5, V.ptr 0 5 [] 0 0), (6, V.d (D.int .i64 n2)), (7, V.d (D.int .i64 0)), (35, V.d (D.sl un (us.map TUnt.c))), (36, V.d (D.int .i64 ((us.length : Nat) : Int))), (37, V.d (D.int .i64 (IntKind.i64.wrap (((i : Nat) : Int) + 1))))], [(5, Ob.row true 3 true [[C.d (D.sl j.parts.nn (j.parts.l.map TPrt.c)), C.d (D.sl j.marks.nn (j.marks.l.map TMrk.c)), C.d (D.sl j.globals.nn (j.globals.l.map TTld.c))]])] :: hp⟩ :=
  codeC_ok (hs := [.b true, .n i, .ds [D.sl x1.parts.nn (x1.parts.l.map TPrt.c), D.sl x1.marks.nn (x1.marks.l.map TMrk.c), D.sl x1.globals.nn (x1.globals.l.map TTld.c)], .lp (.exit 2) ⟨[(1, V.d (D.sl rs.nn (rs.l.map TRow.c))), (5, V.ptr 0 5 [] 0 0), (6, V.d (D.int .i64 n2)), (7, V.d (D.int .i64 0)), (35, V.d (D.sl un (us.map TUnt.c))), (36, V.d (D.int .i64 ((us.length : Nat) : Int))), (37, V.d (D.int .i64 ((i : Nat) : Int))), (42, V.d (D.sl x1.parts.nn (x1.parts.l.map TPrt.c))), (43, V.d (D.int .i64 ((x1.parts.l.length : Nat) : Int))), (44, V.d (D.int .i64 ((x1.parts.l.length : Nat) : Int))), (45, V.d (D.bool false))], [(5, Ob.row true 3 true [[C.d (D.sl j.parts.nn (j.parts.l.map TPrt.c)), C.d (D.sl j.marks.nn (j.marks.l.map TMrk.c)), C.d (D.sl j.globals.nn (j.globals.l.map TTld.c))]])] :: hp⟩]) (hs' := []) (cs := [_, ((i : Nat) : Int) = ((i : Nat) : Int), _, _]) (by kernel_rfl) ⟨c0, rfl, c1, c2, trivial⟩
theorem w5e_0 (un : Bool) (us : List TUnt) (rs : Sl TRow) (j : TUnt) (n : Int) (m : Int) (i : Nat) (hp : HL)
    (c0 : (decide (((i : Nat) : Int) < ((j.parts.l.length : Nat) : Int))) = false) :
    Ev pg i5_l4 ⟨[(1, V.d (D.sl rs.nn (rs.l.map TRow.c))), (5, V.ptr 0 5 [] 0 0), (6, V.d (D.int .i64 n)), (7, V.d (D.int .i64 m)), (56, V.d (D.sl j.parts.nn (j.parts.l.map TPrt.c))), (57, V.d (D.int .i64 ((j.parts.l.length : Nat) : Int))), (58, V.d (D.int .i64 ((i : Nat) : Int)))], [(5, Ob.row true 3 true [[C.d (D.sl j.parts.nn (j.parts.l.map TPrt.c)), C.d (D.sl j.marks.nn (j.marks.l.map TMrk.c)), C.d (D.sl j.globals.nn (j.globals.l.map TTld.c))]])] :: hp⟩ (.exit 4) ⟨[(1, V.d (D.sl rs.nn (rs.l.map TRow.c))), (5, V.ptr 0 5 [] 0 0), (6, V.d (D.int .i64 n)), (7, V.d (D.int .i64 m)), (56, V.d (D.sl j.parts.nn (j.parts.l.map TPrt.c))), (57, V.d (D.int .i64 ((j.parts.l.length : Nat) : Int))), (58, V.d (D.int .i64 ((i : Nat) : Int))), (59, V.d (D.bool false))], [(5, Ob.row true 3 true [[C.d (D.sl j.parts.nn (j.parts.l.map TPrt.c)), C.d (D.sl j.marks.nn (j.marks.l.map TMrk.c)), C.d (D.sl j.globals.nn (j.globals.l.map TTld.c))]])] :: hp⟩ :=
  by
  have r : Ev pg i5_l4 ⟨[(1, V.d (D.sl rs.nn (rs.l.map TRow.c))), (5, V.ptr 0 5 [] 0 0), (6, V.d (D.int .i64 n)), (7, V.d (D.int .i64 m)), (56, V.d (D.sl j.parts.nn (j.parts.l.map TPrt.c))), (57, V.d (D.int .i64 ((j.parts.l.length : Nat) : Int))), (58, V.d (D.int .i64 ((i : Nat) : Int)))], [(5, Ob.row true 3 true [[C.d (D.sl j.parts.nn (j.parts.l.map TPrt.c)), C.d (D.sl j.marks.nn (j.marks.l.map TMrk.c)), C.d (D.sl j.globals.nn (j.globals.l.map TTld.c))]])] :: hp⟩ (.exit 4) ⟨[(1, V.d (D.sl rs.nn (rs.l.map TRow.c))), (5, V.ptr 0 5 [] 0 0), (6, V.d (D.int .i64 n)), (7, V.d (D.int .i64 m)), (56, V.d (D.sl j.parts.nn (j.parts.l.map TPrt.c))), (57, V.d (D.int .i64 ((j.parts.l.length : Nat) : Int))), (58, V.d (D.int .i64 ((i : Nat) : Int))), (59, V.d (D.bool (decide (((i : Nat) : Int) < ((j.parts.l.length : Nat) : Int)))))], [(5, Ob.row true 3 true [[C.d (D.sl j.parts.nn (j.parts.l.map TPrt.c)), C.d (D.sl j.marks.nn (j.marks.l.map TMrk.c)), C.d (D.sl j.globals.nn (j.globals.l.map TTld.c))]])] :: hp⟩ :=
  codeC_ok (hs := [.b false]) (hs' := []) (cs := [_]) (by kernel_rfl) ⟨c0, trivial⟩
  simp only [c0] at r
  exact r
theorem w5e_1 (un : Bool) (us : List TUnt) (rs : Sl TRow) (j : TUnt) (n : Int) (m : Int) (i : Nat) (hp : HL) (x1 : TPrt) (b2 : Bool) (its3 : List TItm)
    (c0 : (decide (((i : Nat) : Int) < ((j.parts.l.length : Nat) : Int))) = true)
    (c1 : (j.parts.l.map TPrt.c)[i]? = some [D.str x1.name, D.int .i64 x1.file, D.int .i64 x1.line, D.sl x1.pieces.nn (x1.pieces.l.map TPce.c)])
    (c2 : Rn pg 17 [V.d (D.agg [D.sl j.parts.nn (j.parts.l.map TPrt.c), D.sl j.marks.nn (j.marks.l.map TMrk.c), D.sl j.globals.nn (j.globals.l.map TTld.c)]), V.d (D.int .i64 ((i : Nat) : Int))] ([]) (V.d (D.sl b2 (its3.map TItm.c))) ([]))
    (c3 : ((((its3.map TItm.c).length : Nat) : Int) != (((x1.pieces.l.map TPce.c).length : Nat) : Int)) = false) :
    Ev pg i5_l4 ⟨[(1, V.d (D.sl rs.nn (rs.l.map TRow.c))), (5, V.ptr 0 5 [] 0 0), (6, V.d (D.int .i64 n)), (7, V.d (D.int .i64 m)), (56, V.d (D.sl j.parts.nn (j.parts.l.map TPrt.c))), (57, V.d (D.int .i64 ((j.parts.l.length : Nat) : Int))), (58, V.d (D.int .i64 ((i : Nat) : Int)))], [(5, Ob.row true 3 true [[C.d (D.sl j.parts.nn (j.parts.l.map TPrt.c)), C.d (D.sl j.marks.nn (j.marks.l.map TMrk.c)), C.d (D.sl j.globals.nn (j.globals.l.map TTld.c))]])] :: hp⟩ .normal ⟨[(1, V.d (D.sl rs.nn (rs.l.map TRow.c))), (5, V.ptr 0 5 [] 0 0), (6, V.d (D.int .i64 n)), (7, V.d (D.int .i64 (IntKind.i64.wrap (m + (((x1.pieces.l.map TPce.c).length : Nat) : Int))))), (56, V.d (D.sl j.parts.nn (j.parts.l.map TPrt.c))), (57, V.d (D.int .i64 ((j.parts.l.length : Nat) : Int))), (58, V.d (D.int .i64 (IntKind.i64.wrap (((i : Nat) : Int) + 1))))], [(5, Ob.row true 3 true [[C.d (D.sl j.parts.nn (j.parts.l.map TPrt.c)), C.d (D.sl j.marks.nn (j.marks.l.map TMrk.c)), C.d (D.sl j.globals.nn (j.globals.l.map TTld.c))]])] :: hp⟩ :=
  codeC_ok (hs := [.b true, .n i, .ds [D.str x1.name, D.int .i64 x1.file, D.int .i64 x1.line, D.sl x1.pieces.nn (x1.pieces.l.map TPce.c)], .call (V.d (D.sl b2 (its3.map TItm.c))) ([]), .b false]) (hs' := []) (cs := [_, ((i : Nat) : Int) = ((i : Nat) : Int), _, _, _]) (by kernel_rfl) ⟨c0, rfl, c1, c2, c3, trivial⟩
theorem w5g_0 (rs : Sl TRow) (z : Nat) (i : Nat) (hp : HL)
    (c0 : (decide (((i : Nat) : Int) < ((z : Nat) : Int))) = false) :
    Ev pg i5_l6 ⟨[(1, V.d (D.sl rs.nn (rs.l.map TRow.c))), (86, V.d (D.int .i64 ((z : Nat) : Int))), (87, V.d (D.int .i64 ((i : Nat) : Int)))], [] :: hp⟩ (.exit 6) ⟨[(1, V.d (D.sl rs.nn (rs.l.map TRow.c))), (86, V.d (D.int .i64 ((z : Nat) : Int))), (87, V.d (D.int .i64 ((i : Nat) : Int))), (88, V.d (D.bool false))], [] :: hp⟩ :=
  by
  have r : Ev pg i5_l6 ⟨[(1, V.d (D.sl rs.nn (rs.l.map TRow.c))), (86, V.d (D.int .i64 ((z : Nat) : Int))), (87, V.d (D.int .i64 ((i : Nat) : Int)))], [] :: hp⟩ (.exit 6) ⟨[(1, V.d (D.sl rs.nn (rs.l.map TRow.c))), (86, V.d (D.int .i64 ((z : Nat) : Int))), (87, V.d (D.int .i64 ((i : Nat) : Int))), (88, V.d (D.bool (decide (((i : Nat) : Int) < ((z : Nat) : Int)))))], [] :: hp⟩ :=
  codeC_ok (hs := [.b false]) (hs' := []) (cs := [_]) (by kernel_rfl) ⟨c0, trivial⟩
  simp only [c0] at r
  exact r
theorem w5g_1 (rs : Sl TRow) (z : Nat) (i : Nat) (hp : HL) (x1 : TRow) (k2 : Nat) (x3 : TRow)
    (c0 : (decide (((i : Nat) : Int) < ((z : Nat) : Int))) = true)
    (c1 : (rs.l.map TRow.c)[i]? = some [D.int .i64 x1.line, D.sl x1.s.labels.nn (x1.s.labels.l.map strc), D.int .i64 x1.s.kind, D.str x1.s.line.name, D.sl x1.s.line.opers.nn (x1.s.line.opers.l.map TOpr.c), D.sl x1.s.names.nn (x1.s.names.l.map strc), D.int .i64 x1.s.size, D.sl x1.s.values.nn (x1.s.values.l.map TVal.c), D.sl x1.s.bytes.nn (x1.s.bytes.l.map u8c)])
    (c2 : (IntKind.i64.wrap (((i : Nat) : Int) + 1)) = ((k2 : Nat) : Int))
    (c3 : (rs.l.map TRow.c)[k2]? = some [D.int .i64 x3.line, D.sl x3.s.labels.nn (x3.s.labels.l.map strc), D.int .i64 x3.s.kind, D.str x3.s.line.name, D.sl x3.s.line.opers.nn (x3.s.line.opers.l.map TOpr.c), D.sl x3.s.names.nn (x3.s.names.l.map strc), D.int .i64 x3.s.size, D.sl x3.s.values.nn (x3.s.values.l.map TVal.c), D.sl x3.s.bytes.nn (x3.s.bytes.l.map u8c)])
    (c4 : (decide (x1.line > x3.line)) = false) :
    Ev pg i5_l6 ⟨[(1, V.d (D.sl rs.nn (rs.l.map TRow.c))), (86, V.d (D.int .i64 ((z : Nat) : Int))), (87, V.d (D.int .i64 ((i : Nat) : Int)))], [] :: hp⟩ .normal ⟨[(1, V.d (D.sl rs.nn (rs.l.map TRow.c))), (86, V.d (D.int .i64 ((z : Nat) : Int))), (87, V.d (D.int .i64 (IntKind.i64.wrap (((i : Nat) : Int) + 1))))], [] :: hp⟩ :=
  codeC_ok (hs := [.b true, .n i, .ds [D.int .i64 x1.line, D.sl x1.s.labels.nn (x1.s.labels.l.map strc), D.int .i64 x1.s.kind, D.str x1.s.line.name, D.sl x1.s.line.opers.nn (x1.s.line.opers.l.map TOpr.c), D.sl x1.s.names.nn (x1.s.names.l.map strc), D.int .i64 x1.s.size, D.sl x1.s.values.nn (x1.s.values.l.map TVal.c), D.sl x1.s.bytes.nn (x1.s.bytes.l.map u8c)], .n k2, .ds [D.int .i64 x3.line, D.sl x3.s.labels.nn (x3.s.labels.l.map strc), D.int .i64 x3.s.kind, D.str x3.s.line.name, D.sl x3.s.line.opers.nn (x3.s.line.opers.l.map TOpr.c), D.sl x3.s.names.nn (x3.s.names.l.map strc), D.int .i64 x3.s.size, D.sl x3.s.values.nn (x3.s.values.l.map TVal.c), D.sl x3.s.bytes.nn (x3.s.bytes.l.map u8c)], .b false]) (hs' := []) (cs := [_, ((i : Nat) : Int) = ((i : Nat) : Int), _, _, _, _]) (by kernel_rfl) ⟨c0, rfl, c1, c2, c3, c4, trivial⟩
theorem w5g_2 (rs : Sl TRow) (z : Nat) (i : Nat) (hp : HL) (x1 : TRow) (k2 : Nat) (x3 : TRow)
    (c0 : (decide (((i : Nat) : Int) < ((z : Nat) : Int))) = true)
    (c1 : (rs.l.map TRow.c)[i]? = some [D.int .i64 x1.line, D.sl x1.s.labels.nn (x1.s.labels.l.map strc), D.int .i64 x1.s.kind, D.str x1.s.line.name, D.sl x1.s.line.opers.nn (x1.s.line.opers.l.map TOpr.c), D.sl x1.s.names.nn (x1.s.names.l.map strc), D.int .i64 x1.s.size, D.sl x1.s.values.nn (x1.s.values.l.map TVal.c), D.sl x1.s.bytes.nn (x1.s.bytes.l.map u8c)])
    (c2 : (IntKind.i64.wrap (((i : Nat) : Int) + 1)) = ((k2 : Nat) : Int))
    (c3 : (rs.l.map TRow.c)[k2]? = some [D.int .i64 x3.line, D.sl x3.s.labels.nn (x3.s.labels.l.map strc), D.int .i64 x3.s.kind, D.str x3.s.line.name, D.sl x3.s.line.opers.nn (x3.s.line.opers.l.map TOpr.c), D.sl x3.s.names.nn (x3.s.names.l.map strc), D.int .i64 x3.s.size, D.sl x3.s.values.nn (x3.s.values.l.map TVal.c), D.sl x3.s.bytes.nn (x3.s.bytes.l.map u8c)])
    (c4 : (decide (x1.line > x3.line)) = true) :
    Ev pg i5_l6 ⟨[(1, V.d (D.sl rs.nn (rs.l.map TRow.c))), (86, V.d (D.int .i64 ((z : Nat) : Int))), (87, V.d (D.int .i64 ((i : Nat) : Int)))], [] :: hp⟩ .ret ⟨[(4, V.d (D.bool true))], [] :: hp⟩ :=
  codeC_ok (hs := [.b true, .n i, .ds [D.int .i64 x1.line, D.sl x1.s.labels.nn (x1.s.labels.l.map strc), D.int .i64 x1.s.kind, D.str x1.s.line.name, D.sl x1.s.line.opers.nn (x1.s.line.opers.l.map TOpr.c), D.sl x1.s.names.nn (x1.s.names.l.map strc), D.int .i64 x1.s.size, D.sl x1.s.values.nn (x1.s.values.l.map TVal.c), D.sl x1.s.bytes.nn (x1.s.bytes.l.map u8c)], .n k2, .ds [D.int .i64 x3.line, D.sl x3.s.labels.nn (x3.s.labels.l.map strc), D.int .i64 x3.s.kind, D.str x3.s.line.name, D.sl x3.s.line.opers.nn (x3.s.line.opers.l.map TOpr.c), D.sl x3.s.names.nn (x3.s.names.l.map strc), D.int .i64 x3.s.size, D.sl x3.s.values.nn (x3.s.values.l.map TVal.c), D.sl x3.s.bytes.nn (x3.s.bytes.l.map u8c)], .b true]) (hs' := []) (cs := [_, ((i : Nat) : Int) = ((i : Nat) : Int), _, _, _, _]) (by kernel_rfl) ⟨c0, rfl, c1, c2, c3, c4, trivial⟩
theorem w5k_0 (x : TUnt) (p : TPrt) (i : Nat) (z : Nat) (k : Nat) (hp : HL)
    (c0 : (decide (((k : Nat) : Int) < ((z : Nat) : Int))) = false) :
    Ev pg i5_l10 ⟨[(18, V.ptr 0 18 [] 0 0), (109, V.d (D.sl x.parts.nn (x.parts.l.map TPrt.c))), (110, V.d (D.int .i64 ((x.parts.l.length : Nat) : Int))), (111, V.d (D.int .i64 ((i : Nat) : Int))), (123, V.d (D.int .i64 ((z : Nat) : Int))), (124, V.d (D.int .i64 ((k : Nat) : Int)))], [(18, Ob.row true 4 true [[C.d (D.str p.name), C.d (D.int .i64 p.file), C.d (D.int .i64 p.line), C.d (D.sl p.pieces.nn (p.pieces.l.map TPce.c))]])] :: hp⟩ (.exit 10) ⟨[(18, V.ptr 0 18 [] 0 0), (109, V.d (D.sl x.parts.nn (x.parts.l.map TPrt.c))), (110, V.d (D.int .i64 ((x.parts.l.length : Nat) : Int))), (111, V.d (D.int .i64 ((i : Nat) : Int))), (123, V.d (D.int .i64 ((z : Nat) : Int))), (124, V.d (D.int .i64 ((k : Nat) : Int))), (125, V.d (D.bool false))], [(18, Ob.row true 4 true [[C.d (D.str p.name), C.d (D.int .i64 p.file), C.d (D.int .i64 p.line), C.d (D.sl p.pieces.nn (p.pieces.l.map TPce.c))]])] :: hp⟩ :=
  by
  have r : Ev pg i5_l10 ⟨[(18, V.ptr 0 18 [] 0 0), (109, V.d (D.sl x.parts.nn (x.parts.l.map TPrt.c))), (110, V.d (D.int .i64 ((x.parts.l.length : Nat) : Int))), (111, V.d (D.int .i64 ((i : Nat) : Int))), (123, V.d (D.int .i64 ((z : Nat) : Int))), (124, V.d (D.int .i64 ((k : Nat) : Int)))], [(18, Ob.row true 4 true [[C.d (D.str p.name), C.d (D.int .i64 p.file), C.d (D.int .i64 p.line), C.d (D.sl p.pieces.nn (p.pieces.l.map TPce.c))]])] :: hp⟩ (.exit 10) ⟨[(18, V.ptr 0 18 [] 0 0), (109, V.d (D.sl x.parts.nn (x.parts.l.map TPrt.c))), (110, V.d (D.int .i64 ((x.parts.l.length : Nat) : Int))), (111, V.d (D.int .i64 ((i : Nat) : Int))), (123, V.d (D.int .i64 ((z : Nat) : Int))), (124, V.d (D.int .i64 ((k : Nat) : Int))), (125, V.d (D.bool (decide (((k : Nat) : Int) < ((z : Nat) : Int)))))], [(18, Ob.row true 4 true [[C.d (D.str p.name), C.d (D.int .i64 p.file), C.d (D.int .i64 p.line), C.d (D.sl p.pieces.nn (p.pieces.l.map TPce.c))]])] :: hp⟩ :=
  codeC_ok (hs := [.b false]) (hs' := []) (cs := [_]) (by kernel_rfl) ⟨c0, trivial⟩
  simp only [c0] at r
  exact r
theorem w5k_1 (x : TUnt) (p : TPrt) (i : Nat) (z : Nat) (k : Nat) (hp : HL) (k1 : Nat) (x2 : TPce) (x3 : TPce)
    (c0 : (decide (((k : Nat) : Int) < ((z : Nat) : Int))) = true)
    (c1 : (IntKind.i64.wrap (((k : Nat) : Int) + 1)) = ((k1 : Nat) : Int))
    (c2 : (p.pieces.l.map TPce.c)[k1]? = some [D.int .i64 x2.kind, D.int .i64 x2.file, D.int .i64 x2.line, D.str x2.l.name, D.sl x2.l.opers.nn (x2.l.opers.l.map TOpr.c), D.int .i64 x2.v.add, D.str x2.v.plus, D.str x2.v.minus, D.int .i64 x2.size, D.sl x2.b.nn (x2.b.l.map u8c), D.int .i64 x2.align])
    (c3 : (p.pieces.l.map TPce.c)[k]? = some [D.int .i64 x3.kind, D.int .i64 x3.file, D.int .i64 x3.line, D.str x3.l.name, D.sl x3.l.opers.nn (x3.l.opers.l.map TOpr.c), D.int .i64 x3.v.add, D.str x3.v.plus, D.str x3.v.minus, D.int .i64 x3.size, D.sl x3.b.nn (x3.b.l.map u8c), D.int .i64 x3.align])
    (c4 : Rn pg 18 [V.d (D.agg [D.int .i64 0, D.int .i64 x2.line, D.int .i64 0]), V.d (D.agg [D.int .i64 0, D.int .i64 x3.line, D.int .i64 0])] ([]) (V.d (D.bool false)) ([])) :
    Ev pg i5_l10 ⟨[(18, V.ptr 0 18 [] 0 0), (109, V.d (D.sl x.parts.nn (x.parts.l.map TPrt.c))), (110, V.d (D.int .i64 ((x.parts.l.length : Nat) : Int))), (111, V.d (D.int .i64 ((i : Nat) : Int))), (123, V.d (D.int .i64 ((z : Nat) : Int))), (124, V.d (D.int .i64 ((k : Nat) : Int)))], [(18, Ob.row true 4 true [[C.d (D.str p.name), C.d (D.int .i64 p.file), C.d (D.int .i64 p.line), C.d (D.sl p.pieces.nn (p.pieces.l.map TPce.c))]])] :: hp⟩ .normal ⟨[(18, V.ptr 0 18 [] 0 0), (109, V.d (D.sl x.parts.nn (x.parts.l.map TPrt.c))), (110, V.d (D.int .i64 ((x.parts.l.length : Nat) : Int))), (111, V.d (D.int .i64 ((i : Nat) : Int))), (123, V.d (D.int .i64 ((z : Nat) : Int))), (124, V.d (D.int .i64 (IntKind.i64.wrap (((k : Nat) : Int) + 1))))], [(18, Ob.row true 4 true [[C.d (D.str p.name), C.d (D.int .i64 p.file), C.d (D.int .i64 p.line), C.d (D.sl p.pieces.nn (p.pieces.l.map TPce.c))]])] :: hp⟩ :=
  codeC_ok (hs := [.b true, .n k1, .ds [D.int .i64 x2.kind, D.int .i64 x2.file, D.int .i64 x2.line, D.str x2.l.name, D.sl x2.l.opers.nn (x2.l.opers.l.map TOpr.c), D.int .i64 x2.v.add, D.str x2.v.plus, D.str x2.v.minus, D.int .i64 x2.size, D.sl x2.b.nn (x2.b.l.map u8c), D.int .i64 x2.align], .n k, .ds [D.int .i64 x3.kind, D.int .i64 x3.file, D.int .i64 x3.line, D.str x3.l.name, D.sl x3.l.opers.nn (x3.l.opers.l.map TOpr.c), D.int .i64 x3.v.add, D.str x3.v.plus, D.str x3.v.minus, D.int .i64 x3.size, D.sl x3.b.nn (x3.b.l.map u8c), D.int .i64 x3.align], .call (V.d (D.bool false)) ([]), .b false]) (hs' := []) (cs := [_, _, _, ((k : Nat) : Int) = ((k : Nat) : Int), _, _, false = false]) (by kernel_rfl) ⟨c0, c1, c2, rfl, c3, c4, rfl, trivial⟩
theorem w5i_0 (x : TUnt) (i : Nat) (hp : HL)
    (c0 : (decide (((i : Nat) : Int) < ((x.parts.l.length : Nat) : Int))) = false) :
    Ev pg i5_l8 ⟨[(109, V.d (D.sl x.parts.nn (x.parts.l.map TPrt.c))), (110, V.d (D.int .i64 ((x.parts.l.length : Nat) : Int))), (111, V.d (D.int .i64 ((i : Nat) : Int)))], [] :: hp⟩ (.exit 8) ⟨[(109, V.d (D.sl x.parts.nn (x.parts.l.map TPrt.c))), (110, V.d (D.int .i64 ((x.parts.l.length : Nat) : Int))), (111, V.d (D.int .i64 ((i : Nat) : Int))), (112, V.d (D.bool false))], [] :: hp⟩ :=
  by
  have r : Ev pg i5_l8 ⟨[(109, V.d (D.sl x.parts.nn (x.parts.l.map TPrt.c))), (110, V.d (D.int .i64 ((x.parts.l.length : Nat) : Int))), (111, V.d (D.int .i64 ((i : Nat) : Int)))], [] :: hp⟩ (.exit 8) ⟨[(109, V.d (D.sl x.parts.nn (x.parts.l.map TPrt.c))), (110, V.d (D.int .i64 ((x.parts.l.length : Nat) : Int))), (111, V.d (D.int .i64 ((i : Nat) : Int))), (112, V.d (D.bool (decide (((i : Nat) : Int) < ((x.parts.l.length : Nat) : Int)))))], [] :: hp⟩ :=
  codeC_ok (hs := [.b false]) (hs' := []) (cs := [_]) (by kernel_rfl) ⟨c0, trivial⟩
  simp only [c0] at r
  exact r
theorem w5i_1 (x : TUnt) (i : Nat) (hp : HL) (x1 : TPrt) (k2 : Nat)
    (c0 : (decide (((i : Nat) : Int) < ((x.parts.l.length : Nat) : Int))) = true)
    (c1 : (x.parts.l.map TPrt.c)[i]? = some [D.str x1.name, D.int .i64 x1.file, D.int .i64 x1.line, D.sl x1.pieces.nn (x1.pieces.l.map TPce.c)])
    (c2 : ((if decide (0 > (IntKind.i64.wrap ((((x1.pieces.l.map TPce.c).length : Nat) : Int) - 1))) = true then 0 else (IntKind.i64.wrap ((((x1.pieces.l.map TPce.c).length : Nat) : Int) - 1)))) = ((k2 : Nat) : Int))
    (c3 : k2 ≤ (x1.pieces.l.map TPce.c).length)
    (c4 : List.all (x1.pieces.l.map TPce.c) (fun x => x.length == 11) = true)
    (c5 : Lp pg i5_l10 ⟨[(18, V.ptr 0 18 [] 0 0), (109, V.d (D.sl x.parts.nn (x.parts.l.map TPrt.c))), (110, V.d (D.int .i64 ((x.parts.l.length : Nat) : Int))), (111, V.d (D.int .i64 ((i : Nat) : Int))), (123, V.d (D.int .i64 (((List.drop 0 (List.take k2 (x1.pieces.l.map TPce.c))).length : Nat) : Int))), (124, V.d (D.int .i64 0))], [(18, Ob.row true 4 true [[C.d (D.str x1.name), C.d (D.int .i64 x1.file), C.d (D.int .i64 x1.line), C.d (D.sl x1.pieces.nn (x1.pieces.l.map TPce.c))]])] :: hp⟩ (.exit 10) ⟨[(18, V.ptr 0 18 [] 0 0), (109, V.d (D.sl x.parts.nn (x.parts.l.map TPrt.c))), (110, V.d (D.int .i64 ((x.parts.l.length : Nat) : Int))), (111, V.d (D.int .i64 ((i : Nat) : Int))), (123, V.d (D.int .i64 (((List.drop 0 (List.take k2 (x1.pieces.l.map TPce.c))).length : Nat) : Int))), (124, V.d (D.int .i64 (((List.drop 0 (List.take k2 (x1.pieces.l.map TPce.c))).length : Nat) : Int))), (125, V.d (D.bool false))], [(18, Ob.row true 4 true [[C.d (D.str x1.name), C.d (D.int .i64 x1.file), C.d (D.int .i64 x1.line), C.d (D.sl x1.pieces.nn (x1.pieces.l.map TPce.c))]])] :: hp⟩) :
    Ev pg i5_l8 ⟨[(109, V.d (D.sl x.parts.nn (x.parts.l.map TPrt.c))), (110, V.d (D.int .i64 ((x.parts.l.length : Nat) : Int))), (111, V.d (D.int .i64 ((i : Nat) : Int)))], [] :: hp⟩ .normal ⟨[(109, V.d (D.sl x.parts.nn (x.parts.l.map TPrt.c))), (110, V.d (D.int .i64 ((x.parts.l.length : Nat) : Int))), (111, V.d (D.int .i64 (IntKind.i64.wrap (((i : Nat) : Int) + 1))))], [] :: hp⟩ :=
  codeC_ok (hs := [.b true, .n i, .ds [D.str x1.name, D.int .i64 x1.file, D.int .i64 x1.line, D.sl x1.pieces.nn (x1.pieces.l.map TPce.c)], .n k2, .lp (.exit 10) ⟨[(18, V.ptr 0 18 [] 0 0), (109, V.d (D.sl x.parts.nn (x.parts.l.map TPrt.c))), (110, V.d (D.int .i64 ((x.parts.l.length : Nat) : Int))), (111, V.d (D.int .i64 ((i : Nat) : Int))), (123, V.d (D.int .i64 (((List.drop 0 (List.take k2 (x1.pieces.l.map TPce.c))).length : Nat) : Int))), (124, V.d (D.int .i64 (((List.drop 0 (List.take k2 (x1.pieces.l.map TPce.c))).length : Nat) : Int))), (125, V.d (D.bool false))], [(18, Ob.row true 4 true [[C.d (D.str x1.name), C.d (D.int .i64 x1.file), C.d (D.int .i64 x1.line), C.d (D.sl x1.pieces.nn (x1.pieces.l.map TPce.c))]])] :: hp⟩]) (hs' := []) (cs := [_, ((i : Nat) : Int) = ((i : Nat) : Int), _, _, 0 ≤ k2, _, _, _]) (by kernel_rfl) ⟨c0, rfl, c1, c2, Nat.zero_le _, c3, c4, c5, trivial⟩
theorem w5_0 (un : Bool) (us : List TUnt) (rs : Sl TRow) (fw : Bool) (hp : HL) (n1 : Int) (m2 : Int) (k3 : Nat)
    (c0 : Rn pg 7 [] ([]) (V.d (D.bool true)) ([]))
    (c1 : Rn pg 15 [V.d (D.sl un (us.map TUnt.c))] ([]) (V.d (D.bool fw)) ([]))
    (c2 : (!fw) = false)
    (c3 : Rn pg 8 [V.d (D.sl rs.nn (rs.l.map TRow.c))] ([]) (V.d (D.bool (decide (rs.l.length ≤ 300)))) ([]))
    (c4 : (!(decide (rs.l.length ≤ 300))) = false)
    (c5 : Rn pg 16 [V.d (D.sl un (us.map TUnt.c))] ([]) (V.d (D.agg [D.sl ((joinM us).unt.parts.nn) ((joinM us).unt.parts.l.map TPrt.c), D.sl ((joinM us).unt.marks.nn) ((joinM us).unt.marks.l.map TMrk.c), D.sl ((joinM us).unt.globals.nn) ((joinM us).unt.globals.l.map TTld.c)])) ([]))
    (c6 : Lp pg i5_l0 ⟨[(1, V.d (D.sl rs.nn (rs.l.map TRow.c))), (5, V.ptr 0 5 [] 0 0), (6, V.d (D.int .i64 0)), (7, V.d (D.int .i64 0)), (35, V.d (D.sl un (us.map TUnt.c))), (36, V.d (D.int .i64 (((us.map TUnt.c).length : Nat) : Int))), (37, V.d (D.int .i64 0))], [(5, Ob.row true 3 true [[C.d (D.sl ((joinM us).unt.parts.nn) ((joinM us).unt.parts.l.map TPrt.c)), C.d (D.sl ((joinM us).unt.marks.nn) ((joinM us).unt.marks.l.map TMrk.c)), C.d (D.sl ((joinM us).unt.globals.nn) ((joinM us).unt.globals.l.map TTld.c))]])] :: hp⟩ (.exit 0) ⟨[(1, V.d (D.sl rs.nn (rs.l.map TRow.c))), (5, V.ptr 0 5 [] 0 0), (6, V.d (D.int .i64 n1)), (7, V.d (D.int .i64 0)), (35, V.d (D.sl un (us.map TUnt.c))), (36, V.d (D.int .i64 (((us.map TUnt.c).length : Nat) : Int))), (37, V.d (D.int .i64 (((us.map TUnt.c).length : Nat) : Int))), (38, V.d (D.bool false))], [(5, Ob.row true 3 true [[C.d (D.sl ((joinM us).unt.parts.nn) ((joinM us).unt.parts.l.map TPrt.c)), C.d (D.sl ((joinM us).unt.marks.nn) ((joinM us).unt.marks.l.map TMrk.c)), C.d (D.sl ((joinM us).unt.globals.nn) ((joinM us).unt.globals.l.map TTld.c))]])] :: hp⟩)
    (c7 : Lp pg i5_l4 ⟨[(1, V.d (D.sl rs.nn (rs.l.map TRow.c))), (5, V.ptr 0 5 [] 0 0), (6, V.d (D.int .i64 n1)), (7, V.d (D.int .i64 0)), (56, V.d (D.sl ((joinM us).unt.parts.nn) ((joinM us).unt.parts.l.map TPrt.c))), (57, V.d (D.int .i64 ((((joinM us).unt.parts.l.map TPrt.c).length : Nat) : Int))), (58, V.d (D.int .i64 0))], [(5, Ob.row true 3 true [[C.d (D.sl ((joinM us).unt.parts.nn) ((joinM us).unt.parts.l.map TPrt.c)), C.d (D.sl ((joinM us).unt.marks.nn) ((joinM us).unt.marks.l.map TMrk.c)), C.d (D.sl ((joinM us).unt.globals.nn) ((joinM us).unt.globals.l.map TTld.c))]])] :: hp⟩ (.exit 4) ⟨[(1, V.d (D.sl rs.nn (rs.l.map TRow.c))), (5, V.ptr 0 5 [] 0 0), (6, V.d (D.int .i64 n1)), (7, V.d (D.int .i64 m2)), (56, V.d (D.sl ((joinM us).unt.parts.nn) ((joinM us).unt.parts.l.map TPrt.c))), (57, V.d (D.int .i64 ((((joinM us).unt.parts.l.map TPrt.c).length : Nat) : Int))), (58, V.d (D.int .i64 ((((joinM us).unt.parts.l.map TPrt.c).length : Nat) : Int))), (59, V.d (D.bool false))], [(5, Ob.row true 3 true [[C.d (D.sl ((joinM us).unt.parts.nn) ((joinM us).unt.parts.l.map TPrt.c)), C.d (D.sl ((joinM us).unt.marks.nn) ((joinM us).unt.marks.l.map TMrk.c)), C.d (D.sl ((joinM us).unt.globals.nn) ((joinM us).unt.globals.l.map TTld.c))]])] :: hp⟩)
    (c8 : (n1 != m2) = false)
    (c9 : ((if decide (0 > (IntKind.i64.wrap ((((rs.l.map TRow.c).length : Nat) : Int) - 1))) = true then 0 else (IntKind.i64.wrap ((((rs.l.map TRow.c).length : Nat) : Int) - 1)))) = ((k3 : Nat) : Int))
    (c10 : k3 ≤ (rs.l.map TRow.c).length)
    (c11 : List.all (rs.l.map TRow.c) (fun x => x.length == 9) = true)
    (c12 : Lp pg i5_l6 ⟨[(1, V.d (D.sl rs.nn (rs.l.map TRow.c))), (86, V.d (D.int .i64 (((List.drop 0 (List.take k3 (rs.l.map TRow.c))).length : Nat) : Int))), (87, V.d (D.int .i64 0))], [] :: hp⟩ (.exit 6) ⟨[(1, V.d (D.sl rs.nn (rs.l.map TRow.c))), (86, V.d (D.int .i64 (((List.drop 0 (List.take k3 (rs.l.map TRow.c))).length : Nat) : Int))), (87, V.d (D.int .i64 (((List.drop 0 (List.take k3 (rs.l.map TRow.c))).length : Nat) : Int))), (88, V.d (D.bool false))], [] :: hp⟩)
    (c13 : Rn pg 9 [V.d (D.int .i64 0), V.d (D.sl rs.nn (rs.l.map TRow.c))] ([]) (V.tup [V.d (D.agg [D.sl ((oneM false 0 rs.l).unt.parts.nn) ((oneM false 0 rs.l).unt.parts.l.map TPrt.c), D.sl ((oneM false 0 rs.l).unt.marks.nn) ((oneM false 0 rs.l).unt.marks.l.map TMrk.c), D.sl ((oneM false 0 rs.l).unt.globals.nn) ((oneM false 0 rs.l).unt.globals.l.map TTld.c)]), V.d (D.sl false ((oneM false 0 rs.l).faults.map TFlt.c))]) ([]))
    (c14 : Lp pg i5_l8 ⟨[(109, V.d (D.sl ((oneM false 0 rs.l).unt.parts.nn) ((oneM false 0 rs.l).unt.parts.l.map TPrt.c))), (110, V.d (D.int .i64 ((((oneM false 0 rs.l).unt.parts.l.map TPrt.c).length : Nat) : Int))), (111, V.d (D.int .i64 0))], [] :: hp⟩ (.exit 8) ⟨[(109, V.d (D.sl ((oneM false 0 rs.l).unt.parts.nn) ((oneM false 0 rs.l).unt.parts.l.map TPrt.c))), (110, V.d (D.int .i64 ((((oneM false 0 rs.l).unt.parts.l.map TPrt.c).length : Nat) : Int))), (111, V.d (D.int .i64 ((((oneM false 0 rs.l).unt.parts.l.map TPrt.c).length : Nat) : Int))), (112, V.d (D.bool false))], [] :: hp⟩) :
    Rn pg 5 [V.d (D.sl un (us.map TUnt.c)), V.d (D.sl rs.nn (rs.l.map TRow.c))] (hp) (V.d (D.bool true)) (hp) :=
  Rn.c (fn := i5) (ex := .ret) (st := ⟨[(4, V.d (D.bool true))], [] :: hp⟩) (hs := [.call (V.d (D.bool true)) ([]), .b false, .b false, .call (V.d (D.bool fw)) ([]), .b false, .b false, .b false, .b false, .call (V.d (D.bool (decide (rs.l.length ≤ 300)))) ([]), .b false, .b false, .b false, .call (V.d (D.agg [D.sl ((joinM us).unt.parts.nn) ((joinM us).unt.parts.l.map TPrt.c), D.sl ((joinM us).unt.marks.nn) ((joinM us).unt.marks.l.map TMrk.c), D.sl ((joinM us).unt.globals.nn) ((joinM us).unt.globals.l.map TTld.c)])) ([]), .lp (.exit 0) ⟨[(1, V.d (D.sl rs.nn (rs.l.map TRow.c))), (5, V.ptr 0 5 [] 0 0), (6, V.d (D.int .i64 n1)), (7, V.d (D.int .i64 0)), (35, V.d (D.sl un (us.map TUnt.c))), (36, V.d (D.int .i64 (((us.map TUnt.c).length : Nat) : Int))), (37, V.d (D.int .i64 (((us.map TUnt.c).length : Nat) : Int))), (38, V.d (D.bool false))], [(5, Ob.row true 3 true [[C.d (D.sl ((joinM us).unt.parts.nn) ((joinM us).unt.parts.l.map TPrt.c)), C.d (D.sl ((joinM us).unt.marks.nn) ((joinM us).unt.marks.l.map TMrk.c)), C.d (D.sl ((joinM us).unt.globals.nn) ((joinM us).unt.globals.l.map TTld.c))]])] :: hp⟩, .lp (.exit 4) ⟨[(1, V.d (D.sl rs.nn (rs.l.map TRow.c))), (5, V.ptr 0 5 [] 0 0), (6, V.d (D.int .i64 n1)), (7, V.d (D.int .i64 m2)), (56, V.d (D.sl ((joinM us).unt.parts.nn) ((joinM us).unt.parts.l.map TPrt.c))), (57, V.d (D.int .i64 ((((joinM us).unt.parts.l.map TPrt.c).length : Nat) : Int))), (58, V.d (D.int .i64 ((((joinM us).unt.parts.l.map TPrt.c).length : Nat) : Int))), (59, V.d (D.bool false))], [(5, Ob.row true 3 true [[C.d (D.sl ((joinM us).unt.parts.nn) ((joinM us).unt.parts.l.map TPrt.c)), C.d (D.sl ((joinM us).unt.marks.nn) ((joinM us).unt.marks.l.map TMrk.c)), C.d (D.sl ((joinM us).unt.globals.nn) ((joinM us).unt.globals.l.map TTld.c))]])] :: hp⟩, .b false, .n k3, .lp (.exit 6) ⟨[(1, V.d (D.sl rs.nn (rs.l.map TRow.c))), (86, V.d (D.int .i64 (((List.drop 0 (List.take k3 (rs.l.map TRow.c))).length : Nat) : Int))), (87, V.d (D.int .i64 (((List.drop 0 (List.take k3 (rs.l.map TRow.c))).length : Nat) : Int))), (88, V.d (D.bool false))], [] :: hp⟩, .call (V.tup [V.d (D.agg [D.sl ((oneM false 0 rs.l).unt.parts.nn) ((oneM false 0 rs.l).unt.parts.l.map TPrt.c), D.sl ((oneM false 0 rs.l).unt.marks.nn) ((oneM false 0 rs.l).unt.marks.l.map TMrk.c), D.sl ((oneM false 0 rs.l).unt.globals.nn) ((oneM false 0 rs.l).unt.globals.l.map TTld.c)]), V.d (D.sl false ((oneM false 0 rs.l).faults.map TFlt.c))]) ([]), .lp (.exit 8) ⟨[(109, V.d (D.sl ((oneM false 0 rs.l).unt.parts.nn) ((oneM false 0 rs.l).unt.parts.l.map TPrt.c))), (110, V.d (D.int .i64 ((((oneM false 0 rs.l).unt.parts.l.map TPrt.c).length : Nat) : Int))), (111, V.d (D.int .i64 ((((oneM false 0 rs.l).unt.parts.l.map TPrt.c).length : Nat) : Int))), (112, V.d (D.bool false))], [] :: hp⟩]) (cs := [_, false = false, false = false, _, false = false, false = false, _, _, _, _, _, _, _, _, _, _, _, 0 ≤ k3, _, _, _, _, _]) (rs := [V.d (D.bool true)]) (t := [])
    (by kernel_rfl) (by kernel_rfl) (by kernel_rfl) (by kernel_rfl) (by kernel_rfl) (by kernel_rfl) ⟨c0, rfl, rfl, c1, rfl, rfl, c2, c2, c3, c2, c2, c4, c5, c6, c7, c8, c9, Nat.zero_le _, c10, c11, c12, c13, c14, trivial⟩
theorem w5_1 (un : Bool) (us : List TUnt) (rs : Sl TRow) (fw : Bool) (hp : HL) (n1 : Int) (m2 : Int) (k3 : Nat)
    (c0 : Rn pg 7 [] ([]) (V.d (D.bool true)) ([]))
    (c1 : Rn pg 15 [V.d (D.sl un (us.map TUnt.c))] ([]) (V.d (D.bool fw)) ([]))
    (c2 : (!fw) = false)
    (c3 : Rn pg 8 [V.d (D.sl rs.nn (rs.l.map TRow.c))] ([]) (V.d (D.bool (decide (rs.l.length ≤ 300)))) ([]))
    (c4 : (!(decide (rs.l.length ≤ 300))) = false)
    (c5 : Rn pg 16 [V.d (D.sl un (us.map TUnt.c))] ([]) (V.d (D.agg [D.sl ((joinM us).unt.parts.nn) ((joinM us).unt.parts.l.map TPrt.c), D.sl ((joinM us).unt.marks.nn) ((joinM us).unt.marks.l.map TMrk.c), D.sl ((joinM us).unt.globals.nn) ((joinM us).unt.globals.l.map TTld.c)])) ([]))
    (c6 : Lp pg i5_l0 ⟨[(1, V.d (D.sl rs.nn (rs.l.map TRow.c))), (5, V.ptr 0 5 [] 0 0), (6, V.d (D.int .i64 0)), (7, V.d (D.int .i64 0)), (35, V.d (D.sl un (us.map TUnt.c))), (36, V.d (D.int .i64 (((us.map TUnt.c).length : Nat) : Int))), (37, V.d (D.int .i64 0))], [(5, Ob.row true 3 true [[C.d (D.sl ((joinM us).unt.parts.nn) ((joinM us).unt.parts.l.map TPrt.c)), C.d (D.sl ((joinM us).unt.marks.nn) ((joinM us).unt.marks.l.map TMrk.c)), C.d (D.sl ((joinM us).unt.globals.nn) ((joinM us).unt.globals.l.map TTld.c))]])] :: hp⟩ (.exit 0) ⟨[(1, V.d (D.sl rs.nn (rs.l.map TRow.c))), (5, V.ptr 0 5 [] 0 0), (6, V.d (D.int .i64 n1)), (7, V.d (D.int .i64 0)), (35, V.d (D.sl un (us.map TUnt.c))), (36, V.d (D.int .i64 (((us.map TUnt.c).length : Nat) : Int))), (37, V.d (D.int .i64 (((us.map TUnt.c).length : Nat) : Int))), (38, V.d (D.bool false))], [(5, Ob.row true 3 true [[C.d (D.sl ((joinM us).unt.parts.nn) ((joinM us).unt.parts.l.map TPrt.c)), C.d (D.sl ((joinM us).unt.marks.nn) ((joinM us).unt.marks.l.map TMrk.c)), C.d (D.sl ((joinM us).unt.globals.nn) ((joinM us).unt.globals.l.map TTld.c))]])] :: hp⟩)
    (c7 : Lp pg i5_l4 ⟨[(1, V.d (D.sl rs.nn (rs.l.map TRow.c))), (5, V.ptr 0 5 [] 0 0), (6, V.d (D.int .i64 n1)), (7, V.d (D.int .i64 0)), (56, V.d (D.sl ((joinM us).unt.parts.nn) ((joinM us).unt.parts.l.map TPrt.c))), (57, V.d (D.int .i64 ((((joinM us).unt.parts.l.map TPrt.c).length : Nat) : Int))), (58, V.d (D.int .i64 0))], [(5, Ob.row true 3 true [[C.d (D.sl ((joinM us).unt.parts.nn) ((joinM us).unt.parts.l.map TPrt.c)), C.d (D.sl ((joinM us).unt.marks.nn) ((joinM us).unt.marks.l.map TMrk.c)), C.d (D.sl ((joinM us).unt.globals.nn) ((joinM us).unt.globals.l.map TTld.c))]])] :: hp⟩ (.exit 4) ⟨[(1, V.d (D.sl rs.nn (rs.l.map TRow.c))), (5, V.ptr 0 5 [] 0 0), (6, V.d (D.int .i64 n1)), (7, V.d (D.int .i64 m2)), (56, V.d (D.sl ((joinM us).unt.parts.nn) ((joinM us).unt.parts.l.map TPrt.c))), (57, V.d (D.int .i64 ((((joinM us).unt.parts.l.map TPrt.c).length : Nat) : Int))), (58, V.d (D.int .i64 ((((joinM us).unt.parts.l.map TPrt.c).length : Nat) : Int))), (59, V.d (D.bool false))], [(5, Ob.row true 3 true [[C.d (D.sl ((joinM us).unt.parts.nn) ((joinM us).unt.parts.l.map TPrt.c)), C.d (D.sl ((joinM us).unt.marks.nn) ((joinM us).unt.marks.l.map TMrk.c)), C.d (D.sl ((joinM us).unt.globals.nn) ((joinM us).unt.globals.l.map TTld.c))]])] :: hp⟩)
    (c8 : (n1 != m2) = false)
    (c9 : ((if decide (0 > (IntKind.i64.wrap ((((rs.l.map TRow.c).length : Nat) : Int) - 1))) = true then 0 else (IntKind.i64.wrap ((((rs.l.map TRow.c).length : Nat) : Int) - 1)))) = ((k3 : Nat) : Int))
    (c10 : k3 ≤ (rs.l.map TRow.c).length)
    (c11 : List.all (rs.l.map TRow.c) (fun x => x.length == 9) = true)
    (c12 : Lp pg i5_l6 ⟨[(1, V.d (D.sl rs.nn (rs.l.map TRow.c))), (86, V.d (D.int .i64 (((List.drop 0 (List.take k3 (rs.l.map TRow.c))).length : Nat) : Int))), (87, V.d (D.int .i64 0))], [] :: hp⟩ .ret ⟨[(4, V.d (D.bool true))], [] :: hp⟩) :
    Rn pg 5 [V.d (D.sl un (us.map TUnt.c)), V.d (D.sl rs.nn (rs.l.map TRow.c))] (hp) (V.d (D.bool true)) (hp) :=
  Rn.c (fn := i5) (ex := .ret) (st := ⟨[(4, V.d (D.bool true))], [] :: hp⟩) (hs := [.call (V.d (D.bool true)) ([]), .b false, .b false, .call (V.d (D.bool fw)) ([]), .b false, .b false, .b false, .b false, .call (V.d (D.bool (decide (rs.l.length ≤ 300)))) ([]), .b false, .b false, .b false, .call (V.d (D.agg [D.sl ((joinM us).unt.parts.nn) ((joinM us).unt.parts.l.map TPrt.c), D.sl ((joinM us).unt.marks.nn) ((joinM us).unt.marks.l.map TMrk.c), D.sl ((joinM us).unt.globals.nn) ((joinM us).unt.globals.l.map TTld.c)])) ([]), .lp (.exit 0) ⟨[(1, V.d (D.sl rs.nn (rs.l.map TRow.c))), (5, V.ptr 0 5 [] 0 0), (6, V.d (D.int .i64 n1)), (7, V.d (D.int .i64 0)), (35, V.d (D.sl un (us.map TUnt.c))), (36, V.d (D.int .i64 (((us.map TUnt.c).length : Nat) : Int))), (37, V.d (D.int .i64 (((us.map TUnt.c).length : Nat) : Int))), (38, V.d (D.bool false))], [(5, Ob.row true 3 true [[C.d (D.sl ((joinM us).unt.parts.nn) ((joinM us).unt.parts.l.map TPrt.c)), C.d (D.sl ((joinM us).unt.marks.nn) ((joinM us).unt.marks.l.map TMrk.c)), C.d (D.sl ((joinM us).unt.globals.nn) ((joinM us).unt.globals.l.map TTld.c))]])] :: hp⟩, .lp (.exit 4) ⟨[(1, V.d (D.sl rs.nn (rs.l.map TRow.c))), (5, V.ptr 0 5 [] 0 0), (6, V.d (D.int .i64 n1)), (7, V.d (D.int .i64 m2)), (56, V.d (D.sl ((joinM us).unt.parts.nn) ((joinM us).unt.parts.l.map TPrt.c))), (57, V.d (D.int .i64 ((((joinM us).unt.parts.l.map TPrt.c).length : Nat) : Int))), (58, V.d (D.int .i64 ((((joinM us).unt.parts.l.map TPrt.c).length : Nat) : Int))), (59, V.d (D.bool false))], [(5, Ob.row true 3 true [[C.d (D.sl ((joinM us).unt.parts.nn) ((joinM us).unt.parts.l.map TPrt.c)), C.d (D.sl ((joinM us).unt.marks.nn) ((joinM us).unt.marks.l.map TMrk.c)), C.d (D.sl ((joinM us).unt.globals.nn) ((joinM us).unt.globals.l.map TTld.c))]])] :: hp⟩, .b false, .n k3, .lp .ret ⟨[(4, V.d (D.bool true))], [] :: hp⟩]) (cs := [_, false = false, false = false, _, false = false, false = false, _, _, _, _, _, _, _, _, _, _, _, 0 ≤ k3, _, _, _]) (rs := [V.d (D.bool true)]) (t := [])
    (by kernel_rfl) (by kernel_rfl) (by kernel_rfl) (by kernel_rfl) (by kernel_rfl) (by kernel_rfl) ⟨c0, rfl, rfl, c1, rfl, rfl, c2, c2, c3, c2, c2, c4, c5, c6, c7, c8, c9, Nat.zero_le _, c10, c11, c12, trivial⟩
theorem w5_2 (un : Bool) (us : List TUnt) (rs : Sl TRow) (fw : Bool) (hp : HL)
    (c0 : Rn pg 7 [] ([]) (V.d (D.bool true)) ([]))
    (c1 : Rn pg 15 [V.d (D.sl un (us.map TUnt.c))] ([]) (V.d (D.bool fw)) ([]))
    (c2 : (!fw) = false)
    (c3 : Rn pg 8 [V.d (D.sl rs.nn (rs.l.map TRow.c))] ([]) (V.d (D.bool (decide (rs.l.length ≤ 300)))) ([]))
    (c4 : (!(decide (rs.l.length ≤ 300))) = true) :
    Rn pg 5 [V.d (D.sl un (us.map TUnt.c)), V.d (D.sl rs.nn (rs.l.map TRow.c))] (hp) (V.d (D.bool true)) (hp) :=
  Rn.c (fn := i5) (ex := .ret) (st := ⟨[(4, V.d (D.bool true))], [] :: hp⟩) (hs := [.call (V.d (D.bool true)) ([]), .b false, .b false, .call (V.d (D.bool fw)) ([]), .b false, .b false, .b false, .b false, .call (V.d (D.bool (decide (rs.l.length ≤ 300)))) ([]), .b false, .b false, .b true, .call (V.d (D.bool true)) ([])]) (cs := [_, false = false, false = false, _, false = false, false = false, _, _, _, _, _, _, _]) (rs := [V.d (D.bool true)]) (t := [])
    (by kernel_rfl) (by kernel_rfl) (by kernel_rfl) (by kernel_rfl) (by kernel_rfl) (by kernel_rfl) ⟨c0, rfl, rfl, c1, rfl, rfl, c2, c2, c3, c2, c2, c4, c0, trivial⟩
theorem w5_3 (un : Bool) (us : List TUnt) (rs : Sl TRow) (fw : Bool) (hp : HL)
    (c0 : Rn pg 7 [] ([]) (V.d (D.bool true)) ([]))
    (c1 : Rn pg 15 [V.d (D.sl un (us.map TUnt.c))] ([]) (V.d (D.bool fw)) ([]))
    (c2 : (!fw) = true) :
    Rn pg 5 [V.d (D.sl un (us.map TUnt.c)), V.d (D.sl rs.nn (rs.l.map TRow.c))] (hp) (V.d (D.bool true)) (hp) :=
  Rn.c (fn := i5) (ex := .ret) (st := ⟨[(4, V.d (D.bool true))], [] :: hp⟩) (hs := [.call (V.d (D.bool true)) ([]), .b false, .b false, .call (V.d (D.bool fw)) ([]), .b false, .b false, .b true, .b true, .b true, .b true, .b true, .call (V.d (D.bool true)) ([])]) (cs := [_, false = false, false = false, _, false = false, false = false, _, _, _, _, true = true, _]) (rs := [V.d (D.bool true)]) (t := [])
    (by kernel_rfl) (by kernel_rfl) (by kernel_rfl) (by kernel_rfl) (by kernel_rfl) (by kernel_rfl) ⟨c0, rfl, rfl, c1, rfl, rfl, c2, c2, c2, c2, rfl, c0, trivial⟩
end Go.Proofs.YtgmphfmoonbfpaaMv

namespace Go.Proofs.YtgmphfmoonbfpaaMv
open Go
def tot (ps : List OPrt) : Nat := (ps.map fun p => p.pieces.length).sum
def pcs (ps : List TPrt) : Nat := (ps.map fun p => p.pieces.l.length).sum
def pcus (us : List TUnt) : Nat := (us.map fun u => pcs u.parts.l).sum
theorem tot_modify (l : List TPce) : ∀ (ps : List OPrt) (k : Nat), k < ps.length → tot (ps.modify k (·.addAll l)) = tot ps + l.length
  | [], k, h => by simp at h
  | q :: ps, 0, h => by simp [tot, OPrt.addAll]; omega
  | q :: ps, k + 1, h => by
    have := tot_modify l ps k (by simpa using h)
    simp only [tot, List.modify_succ_cons, List.map_cons, List.sum_cons] at this ⊢
    omega
theorem tot_step (j : JP) (p : TPrt) : tot (j.step p).ps = tot j.ps + p.pieces.l.length := by
  have h := tot_modify (p.pieces.l.map TPce.cln) (ensure j.ps p) (pidx j.ps p) (pidx_lt j.ps p)
  have h2 : tot (ensure j.ps p) = tot j.ps := by
    unfold ensure
    split
    · rfl
    · simp [tot, TPrt.new]
  simp only [JP.step, h, h2, List.length_map]
theorem tot_fold : ∀ (l : List TPrt) (j : JP), tot (l.foldl JP.step j).ps = tot j.ps + pcs l
  | [], j => by simp [pcs]
  | p :: l, j => by
    have h1 := tot_fold l (j.step p)
    have h2 := tot_step j p
    simp only [pcs, List.foldl_cons, List.map_cons, List.sum_cons] at h1 ⊢
    omega
theorem tot_joins : ∀ (us : List TUnt) (j : JU), tot (us.foldl JU.join j).parts = tot j.parts + pcus us
  | [], j => by simp [pcus]
  | u :: us, j => by
    have h1 := tot_joins us (j.join u)
    have h2 : tot (j.join u).parts = tot j.parts + pcs u.parts.l := tot_fold u.parts.l ⟨j.parts, [], []⟩
    simp only [pcus, List.foldl_cons, List.map_cons, List.sum_cons] at h1 ⊢
    omega
theorem tot_joinM (us : List TUnt) : pcs (joinM us).unt.parts.l = pcus us := by
  have h := tot_joins us ju0
  have e : pcs (joinM us).unt.parts.l = tot (joinM us).parts := by
    simp only [pcs, tot, JU.unt, List.map_map]; rfl
  rw [e]
  have h0 : tot ju0.parts = 0 := rfl
  rw [h0, Nat.zero_add] at h
  exact h
theorem pcs_le (ps : List TPrt) : pcs ps ≤ (ps.map TPrt.wt).sum := by
  induction ps with
  | nil => simp [pcs]
  | cons p ps ih => simp only [pcs, List.map_cons, List.sum_cons, TPrt.wt] at ih ⊢; omega
theorem pcus_le (us : List TUnt) : pcus us ≤ (us.map TUnt.wt).sum := by
  induction us with
  | nil => simp [pcus]
  | cons u us ih =>
    have := pcs_le u.parts.l
    simp only [pcus, List.map_cons, List.sum_cons, TUnt.wt] at ih ⊢; omega
def srt (l : List TPce) : Prop := l.Pairwise fun a b => a.line ≤ b.line
structure Ms.inv (m : Ms) : Prop where
  srt : ∀ p ∈ m.parts, srt p.pieces
  le : ∀ p ∈ m.parts, ∀ x ∈ p.pieces, x.line ≤ m.line
theorem Ms.inv_part {m : Ms} (h : m.inv) : m.partM.inv := by
  unfold Ms.partM
  cases m.idx with
  | some _ => exact h
  | none =>
    refine ⟨fun p hp => ?_, fun p hp x hx => ?_⟩
    · simp only [List.mem_append, List.mem_singleton] at hp
      rcases hp with hp | rfl
      · exact h.srt p hp
      · simp [Ms.new, YtgmphfmoonbfpaaMv.srt]
    · simp only [List.mem_append, List.mem_singleton] at hp
      rcases hp with hp | rfl
      · exact h.le p hp x hx
      · simp [Ms.new] at hx
theorem Ms.inv_mark {m : Ms} (h : m.inv) (n : List UInt8) (e : Bool) (v : TVal) : (m.markM n e v).inv := by
  unfold Ms.markM
  split
  · exact ⟨h.srt, h.le⟩
  · exact ⟨(m.inv_part h).srt, (m.inv_part h).le⟩
theorem Ms.line_part (m : Ms) : m.partM.line = m.line := by unfold Ms.partM; cases m.idx <;> rfl
theorem Ms.inv_put {m : Ms} (h : m.inv) (x : TPce) (b : Bool) : (m.putM x b).inv := by
  unfold Ms.putM
  split
  · exact ⟨h.srt, h.le⟩
  · have hp := m.inv_part h
    have hline := m.line_part
    refine ⟨fun p hm => ?_, fun p hm y hy => ?_⟩
    · obtain ⟨i, hi, rfl⟩ := List.mem_iff_getElem.1 hm
      simp only [List.length_modify] at hi
      simp only [List.getElem_modify]
      have hq : m.partM.parts[i] ∈ m.partM.parts := List.getElem_mem _
      split
      · simp only [OPrt.add, YtgmphfmoonbfpaaMv.srt, List.pairwise_append, List.pairwise_cons, List.mem_singleton]
        refine ⟨hp.srt _ hq, by simp, fun a ha b hb => ?_⟩
        subst hb
        have := hp.le _ hq a ha
        rw [hline] at this
        exact this
      · exact hp.srt _ hq
    · obtain ⟨i, hi, rfl⟩ := List.mem_iff_getElem.1 hm
      simp only [List.length_modify] at hi
      simp only [List.getElem_modify] at hy
      have hq : m.partM.parts[i] ∈ m.partM.parts := List.getElem_mem _
      have hl := hp.le _ hq
      rw [hline] at hl
      show y.line ≤ m.partM.line
      rw [hline]
      split at hy
      · simp only [OPrt.add, List.mem_append, List.mem_singleton] at hy
        rcases hy with hy | rfl
        · exact hl y hy
        · exact Int.le_refl _
      · exact hl y hy
theorem inv_fold {α : Type} (f : Ms → α → Ms) (hf : ∀ m x, m.inv → (f m x).inv) : ∀ (l : List α) (m : Ms), m.inv → (l.foldl f m).inv
  | [], m, h => h
  | x :: l, m, h => by rw [List.foldl_cons]; exact inv_fold f hf l _ (hf m x h)
theorem Ms.inv_stmt {m : Ms} (h : m.inv) (r : Bool) (s : TStm) : (m.stmtM r s).inv := by
  unfold Ms.stmtM
  split
  · exact m.inv_put h _ _
  split
  · exact m.inv_put h _ _
  split
  · exact inv_fold _ (fun m x hm => m.inv_put hm _ _) _ _ h
  split
  · exact m.inv_put h _ _
  split
  · unfold Ms.nameM
    split
    · exact ⟨h.srt, h.le⟩
    · exact Ms.inv_part (m := { m with name := fstS s.names.l }) ⟨h.srt, h.le⟩
  split
  · exact m.inv_mark h _ _ _
  split
  · refine inv_fold _ (fun m x hm => ?_) _ _ h
    unfold Ms.tellM
    split
    · exact ⟨hm.srt, hm.le⟩
    · exact ⟨hm.srt, hm.le⟩
  · exact h
theorem line_fold {α : Type} (f : Ms → α → Ms) (hf : ∀ m x, (f m x).line = m.line) : ∀ (l : List α) (m : Ms), (l.foldl f m).line = m.line
  | [], m => rfl
  | x :: l, m => by rw [List.foldl_cons, line_fold f hf l, hf]
theorem Ms.line_mark (m : Ms) (n : List UInt8) (e : Bool) (v : TVal) : (m.markM n e v).line = m.line := by
  unfold Ms.markM; split
  · rfl
  · exact m.line_part
theorem Ms.line_put (m : Ms) (x : TPce) (b : Bool) : (m.putM x b).line = m.line := by
  unfold Ms.putM; split
  · rfl
  · exact m.line_part
theorem Ms.line_stmt (m : Ms) (r : Bool) (s : TStm) : (m.stmtM r s).line = m.line := by
  unfold Ms.stmtM
  split
  · exact m.line_put _ _
  split
  · exact m.line_put _ _
  split
  · exact line_fold _ (fun m x => m.line_put _ _) _ _
  split
  · exact m.line_put _ _
  split
  · unfold Ms.nameM
    split
    · rfl
    · exact Ms.line_part _
  split
  · exact m.line_mark _ _ _
  split
  · refine line_fold _ (fun m x => ?_) _ _
    unfold Ms.tellM
    split <;> rfl
  · rfl
theorem Ms.line_row (m : Ms) (r : Bool) (x : TRow) : (m.rowM r x).line = x.line := by
  unfold Ms.rowM
  rw [Ms.line_stmt, line_fold Ms.labM (fun m n => m.line_mark n false val0)]
theorem inv_rows (r : Bool) : ∀ (rs : List TRow) (m : Ms), m.inv → (∀ x ∈ rs, m.parts = [] ∨ m.line ≤ x.line) → rs.Pairwise (fun a b => a.line ≤ b.line) → (rs.foldl (Ms.rowM r) m).inv
  | [], m, h, _, _ => h
  | x :: rs, m, h, hl, hp => by
    rw [List.foldl_cons]
    rw [List.pairwise_cons] at hp
    have h1 : ({ m with line := x.line } : Ms).inv := by
      refine ⟨h.srt, fun p hpm y hy => ?_⟩
      rcases hl x List.mem_cons_self with h0 | h0
      · simp only at hpm; rw [h0] at hpm; cases hpm
      · exact Int.le_trans (h.le p hpm y hy) h0
    have h2 : (m.rowM r x).inv := Ms.inv_stmt (inv_fold Ms.labM (fun m n hm => m.inv_mark hm n false val0) x.s.labels.l _ h1) r x.s
    exact inv_rows r rs _ h2 (fun y hy => .inr (by rw [Ms.line_row]; exact hp.1 y hy)) hp.2
theorem inv_one {rs : List TRow} (h : rs.Pairwise (fun a b => a.line ≤ b.line)) (r : Bool) (n : Int) : (oneM r n rs).inv :=
  inv_rows r rs _ ⟨by simp [Ms.new0], by simp [Ms.new0]⟩ (fun x _ => .inl rfl) h
theorem pairwise_near {α : Type} (f : α → Int) : ∀ (l : List α), (∀ (i : Nat) a b, l[i]? = some a → l[i + 1]? = some b → f a ≤ f b) → l.Pairwise (fun a b => f a ≤ f b)
  | [], _ => List.Pairwise.nil
  | [a], _ => by simp
  | a :: b :: l, h => by
    have ih := pairwise_near f (b :: l) (fun i x y hx hy => h (i + 1) x y (by simpa using hx) (by simpa using hy))
    refine List.pairwise_cons.2 ⟨fun c hc => ?_, ih⟩
    have hab := h 0 a b rfl rfl
    rcases List.mem_cons.1 hc with rfl | hc
    · exact hab
    · exact Int.le_trans hab ((List.pairwise_cons.1 ih).1 c hc)
theorem srt_near {l : List TPce} (h : srt l) {i : Nat} {a b : TPce} (ha : l[i]? = some a) (hb : l[i + 1]? = some b) : a.line ≤ b.line := by
  obtain ⟨h1, e1⟩ := List.getElem?_eq_some_iff.1 ha
  obtain ⟨h2, e2⟩ := List.getElem?_eq_some_iff.1 hb
  have := List.pairwise_iff_getElem.1 h i (i + 1) h1 h2 (by omega)
  rw [e1, e2] at this
  exact this
end Go.Proofs.YtgmphfmoonbfpaaMv

namespace Go.Proofs.YtgmphfmoonbfpaaMv
open Go
theorem grows_ne {l : TLin} (h : (growsV l).2.2 = true) : l.opers.l ≠ [] := by
  intro e
  simp [growsV, e] at h
theorem f35 (pt : Int) (l : TLin) (ml : List TMrk) (o8 o10 o11 : Ob) (hp : HL) (hl : l.opers.l.length < 2 ^ 30) : ∃ (it : TItm) (q : Bool),
    Rn pg 35 [V.mp 0 5 (some ([], 0, 0)), V.d (D.int .i64 pt), V.d (D.agg l.c)] ([(5, Ob.row true 1 true [[C.mp (mpOf ml)]]), (8, o8), (10, o10), (11, o11)] :: hp) (V.tup [V.d (D.agg it.c), V.d (D.bool q)]) ([(5, Ob.row true 1 true [[C.mp (mpOf ml)]]), (8, o8), (10, o10), (11, o11)] :: hp) := by
  cases hg : (growsV l).2.2 with
  | false => exact ⟨⟨0, 0, 0, 0, 0, 0, 0⟩, false, w35_4 pt l ml o8 o10 o11 hp (f11 l [] hl) (by simp [hg])⟩
  | true =>
    have hne := grows_ne hg
    have hpos : 0 < l.opers.l.length := List.length_pos_iff.2 hne
    have c2 : (IntKind.i64.wrap ((((l.opers.l.map TOpr.c).length : Nat) : Int) - 1)) = ((l.opers.l.length - 1 : Nat) : Int) := by
      rw [wrap64 (by simp; omega) (by simp; omega)]; simp; omega
    have c3 := map_get (f := TOpr.c) (last_get hne)
    have c4 := find_mp (l.opers.l.getLast hne).v.plus ml
    cases hf : findM (l.opers.l.getLast hne).v.plus ml with
    | none =>
      rw [hf] at c4
      exact ⟨⟨0, 0, 0, 0, 0, 0, 0⟩, false, w35_0 pt l ml o8 o10 o11 hp _ _ (f11 l [] hl) (by simp [hg]) c2 c3 c4⟩
    | some x =>
      rw [hf] at c4
      cases h5 : x.equ with
      | true => exact ⟨⟨0, 0, 0, 0, 0, 0, 0⟩, false, w35_3 pt l ml o8 o10 o11 hp _ _ x (f11 l [] hl) (by simp [hg]) c2 c3 c4 h5⟩
      | false =>
        cases h6 : x.part != pt with
        | true => exact ⟨⟨0, 0, 0, 0, 0, 0, 0⟩, false, w35_2 pt l ml o8 o10 o11 hp _ _ x (f11 l [] hl) (by simp [hg]) c2 c3 c4 h5 h6⟩
        | false => exact ⟨⟨3, 0, 0, x.piece, (l.opers.l.getLast hne).v.add, (growsV l).1, (growsV l).2.1⟩, true, w35_1 pt l ml o8 o10 o11 hp _ _ x (f11 l [] hl) (by simp [hg]) c2 c3 c4 h5 h6⟩
theorem l17b (pt : Int) (u : TUnt) (hp : HL) : ∀ (l : List TMrk) (ml : List TMrk), Bk pg i17_l0 28 (l.map TMrk.c)
    ⟨[(1, V.d (D.int .i64 pt)), (2, V.ptr 0 2 [] 0 0), (5, V.ptr 0 5 [] 0 0), (25, V.d (D.sl u.marks.nn (u.marks.l.map TMrk.c)))], [(2, Ob.row true 3 true [u.oc]), (5, Ob.row true 1 true [[C.mp (mpOf ml)]])] :: hp⟩
    ⟨[(1, V.d (D.int .i64 pt)), (2, V.ptr 0 2 [] 0 0), (5, V.ptr 0 5 [] 0 0), (25, V.d (D.sl u.marks.nn (u.marks.l.map TMrk.c)))], [(2, Ob.row true 3 true [u.oc]), (5, Ob.row true 1 true [[C.mp (mpOf (l.foldl (fun ml m => putM m ml) ml))]])] :: hp⟩
  | [], ml => rfl
  | m :: l, ml => ⟨_, w17b_0 pt u ml m hp (mpOf (putM m ml)) (by rw [find_mp]; rfl) (put_mp m ml), l17b pt u hp l (putM m ml)⟩
theorem itm_app (its : List TItm) (y : TItm) : (its.map TItm.oc) ++ [[C.d (D.int .i64 y.kind), C.d (D.int .i64 y.size), C.d (D.int .i64 y.align), C.d (D.int .i64 y.to), C.d (D.int .i64 y.add), C.d (D.int .i64 y.low), C.d (D.int .i64 y.high)]] = (its ++ [y]).map TItm.oc := by
  rw [List.map_append]; rfl
theorem l17l (pt : Int) (ml : List TMrk) (p : TPrt) (hp : HL) (hl : p.pieces.l.length < 2 ^ 29) (ok : ∀ x ∈ p.pieces.l, x.ok) : ∀ (n h : Nat) (its : List TItm), p.pieces.l.length - h = n → h ≤ p.pieces.l.length → its.length = h →
    ∃ its' : List TItm, its'.length = p.pieces.l.length ∧ Lp pg i17_l2
      ⟨[(1, V.d (D.int .i64 pt)), (5, V.ptr 0 5 [] 0 0), (8, V.msl 0 8 [] 0 its.length), (38, V.d (D.sl p.pieces.nn (p.pieces.l.map TPce.c))), (39, V.d (D.int .i64 ((p.pieces.l.length : Nat) : Int))), (40, V.d (D.int .i64 ((h : Nat) : Int)))], [(5, Ob.row true 1 true [[C.mp (mpOf ml)]]), (8, Ob.row false 7 false (its.map TItm.oc))] :: hp⟩ (.exit 2)
      ⟨[(1, V.d (D.int .i64 pt)), (5, V.ptr 0 5 [] 0 0), (8, V.msl 0 8 [] 0 its'.length), (38, V.d (D.sl p.pieces.nn (p.pieces.l.map TPce.c))), (39, V.d (D.int .i64 ((p.pieces.l.length : Nat) : Int))), (40, V.d (D.int .i64 ((p.pieces.l.length : Nat) : Int))), (41, V.d (D.bool false))], [(5, Ob.row true 1 true [[C.mp (mpOf ml)]]), (8, Ob.row false 7 false (its'.map TItm.oc))] :: hp⟩ := by
  intro n
  induction n with
  | zero =>
    intro h its hn hle he
    have : h = p.pieces.l.length := by omega
    subst this
    exact ⟨its, he, Lp.exit (w17l_0 pt ml its p p.pieces.l.length hp (nltd _))⟩
  | succ n ih =>
    intro h its hn hle he
    have hlt : h < p.pieces.l.length := by omega
    have hg : p.pieces.l[h]? = some p.pieces.l[h] := List.getElem?_eq_getElem hlt
    have hok := ok _ (List.getElem_mem hlt)
    generalize p.pieces.l[h] = x at hg hok
    have c1 := map_get (f := TPce.c) hg
    have hlen : its.length = (its.map TItm.oc).length := by simp
    have hroom : (its.length + 1) * 56 ≤ room := by simp [room_eq]; omega
    suffices key : ∃ y : TItm, Ev pg i17_l2
        ⟨[(1, V.d (D.int .i64 pt)), (5, V.ptr 0 5 [] 0 0), (8, V.msl 0 8 [] 0 its.length), (38, V.d (D.sl p.pieces.nn (p.pieces.l.map TPce.c))), (39, V.d (D.int .i64 ((p.pieces.l.length : Nat) : Int))), (40, V.d (D.int .i64 ((h : Nat) : Int)))], [(5, Ob.row true 1 true [[C.mp (mpOf ml)]]), (8, Ob.row false 7 false (its.map TItm.oc))] :: hp⟩ .normal
        ⟨[(1, V.d (D.int .i64 pt)), (5, V.ptr 0 5 [] 0 0), (8, V.msl 0 8 [] 0 (its.length + 1)), (38, V.d (D.sl p.pieces.nn (p.pieces.l.map TPce.c))), (39, V.d (D.int .i64 ((p.pieces.l.length : Nat) : Int))), (40, V.d (D.int .i64 (IntKind.i64.wrap (((h : Nat) : Int) + 1))))], [(5, Ob.row true 1 true [[C.mp (mpOf ml)]]), (8, Ob.row false 7 false ((its.map TItm.oc) ++ [[C.d (D.int .i64 y.kind), C.d (D.int .i64 y.size), C.d (D.int .i64 y.align), C.d (D.int .i64 y.to), C.d (D.int .i64 y.add), C.d (D.int .i64 y.low), C.d (D.int .i64 y.high)]]))] :: hp⟩ by
      obtain ⟨y, r⟩ := key
      rw [itm_app, wrap64 (by omega) (by omega), show its.length + 1 = (its ++ [y]).length by simp] at r
      obtain ⟨its', h1, h2⟩ := ih (h + 1) (its ++ [y]) (by omega) (by omega) (by simp [he])
      exact ⟨its', h1, Lp.next r h2⟩
    cases h2 : x.kind == 2 with
    | true =>
      obtain ⟨y, q, hc⟩ := f35 pt x.l ml (Ob.row false 7 false (its.map TItm.oc)) (Ob.row true 11 true [x.oc]) (Ob.row true 7 true [TItm.oc ⟨1, 0, 0, 0, 0, 0, 0⟩]) hp hok.1
      cases q with
      | true => exact ⟨y, w17l_7 pt ml its p h hp x y true (ltd hlt) c1 h2 hc rfl rfl hlen hroom⟩
      | false => exact ⟨⟨1, 4, 0, 0, 0, 0, 0⟩, w17l_6 pt ml its p h hp x y false (ltd hlt) c1 h2 hc rfl rfl hlen hroom⟩
    | false =>
      cases h3 : x.kind == 1 with
      | true => exact ⟨⟨1, 4, 0, 0, 0, 0, 0⟩, w17l_5 pt ml its p h hp x (ltd hlt) c1 h2 h3 rfl hlen hroom⟩
      | false =>
        cases h4 : x.kind == 3 with
        | true => exact ⟨⟨1, x.size, 0, 0, 0, 0, 0⟩, w17l_4 pt ml its p h hp x (ltd hlt) c1 h2 h3 h4 rfl hlen hroom⟩
        | false =>
          cases h5 : x.kind == 4 with
          | true => exact ⟨⟨1, (((x.b.l.map u8c).length : Nat) : Int), 0, 0, 0, 0, 0⟩, w17l_3 pt ml its p h hp x (ltd hlt) c1 h2 h3 h4 h5 rfl hlen hroom⟩
          | false =>
            cases h6 : x.kind == 5 with
            | true => exact ⟨⟨2, 0, x.align, 0, 0, 0, 0⟩, w17l_2 pt ml its p h hp x (ltd hlt) c1 h2 h3 h4 h5 h6 rfl hlen hroom⟩
            | false => exact ⟨⟨1, 0, 0, 0, 0, 0, 0⟩, w17l_1 pt ml its p h hp x (ltd hlt) c1 h2 h3 h4 h5 h6 rfl hlen hroom⟩
theorem fzItm (x : TItm) : fzCs x.oc = some x.c := rfl
theorem f17 (u : TUnt) (k : Nat) (p : TPrt) (hp : HL) (hk : u.parts.l[k]? = some p) (hm : u.marks.l.length < 2 ^ 30) (hl : p.pieces.l.length < 2 ^ 29) (hu : u.parts.l.length < 2 ^ 30) (ok : ∀ x ∈ p.pieces.l, x.ok) :
    ∃ (b : Bool) (its : List TItm), its.length = p.pieces.l.length ∧ Rn pg 17 [V.d (D.agg u.c), V.d (D.int .i64 ((k : Nat) : Int))] hp (V.d (D.sl b (its.map TItm.c))) hp := by
  have hlt : k < u.parts.l.length := (List.getElem?_eq_some_iff.1 hk).1
  obtain ⟨its, h1, h2⟩ := l17l (k : Int) (u.marks.l.reverse.foldl (fun ml m => putM m ml) []) p hp hl ok _ 0 [] rfl (Nat.zero_le _) rfl
  have hb := l17b (k : Int) u hp u.marks.l.reverse []
  rw [List.map_reverse] at hb
  refine ⟨_, its, h1, w17_0 u k hp _ k p its (by simp) (by simp; omega) (by simp; omega) hb rfl (map_get (f := TPrt.c) hk) (by simp only [List.length_map]; exact h2) ?_⟩
  have e : fzCss (its.map TItm.oc) = some (its.map TItm.c) := fzCss_map fzItm its
  have hlen : its.length = (its.map TItm.oc).length := by simp
  simp only [resIs, i17, resI, retV, St.f, look, hof, Ob.row?, rowGo, List.getElem?_cons_zero, Option.bind_some, beq_self_eq_true, if_true, Option.getD_some, List.drop_zero, Nat.zero_add]
  rw [if_pos (by simp), hlen, List.take_length, e]
  rfl
theorem sum_take_succ {α : Type} (f : α → Nat) (l : List α) (k : Nat) (h : k < l.length) : ((l.take (k + 1)).map f).sum = ((l.take k).map f).sum + f l[k] := by
  rw [List.take_succ_eq_append_getElem h, List.map_append, List.sum_append]
  simp only [List.map_cons, List.map_nil, List.sum_cons, List.sum_nil, Nat.add_zero]
theorem l5c (un : Bool) (us : List TUnt) (rs : Sl TRow) (j : TUnt) (n : Nat) (i : Nat) (x : TUnt) (hp : HL) (hn : n + pcs x.parts.l < 2 ^ 30) (hx : x.parts.l.length < 2 ^ 30) :
    Lp pg i5_l2 ⟨[(1, V.d (D.sl rs.nn (rs.l.map TRow.c))), (5, V.ptr 0 5 [] 0 0), (6, V.d (D.int .i64 ((n : Nat) : Int))), (7, V.d (D.int .i64 0)), (35, V.d (D.sl un (us.map TUnt.c))), (36, V.d (D.int .i64 ((us.length : Nat) : Int))), (37, V.d (D.int .i64 ((i : Nat) : Int))), (42, V.d (D.sl x.parts.nn (x.parts.l.map TPrt.c))), (43, V.d (D.int .i64 ((x.parts.l.length : Nat) : Int))), (44, V.d (D.int .i64 ((0 : Nat) : Int)))], [(5, Ob.row true 3 true [j.oc])] :: hp⟩ (.exit 2)
      ⟨[(1, V.d (D.sl rs.nn (rs.l.map TRow.c))), (5, V.ptr 0 5 [] 0 0), (6, V.d (D.int .i64 ((n + pcs x.parts.l : Nat) : Int))), (7, V.d (D.int .i64 0)), (35, V.d (D.sl un (us.map TUnt.c))), (36, V.d (D.int .i64 ((us.length : Nat) : Int))), (37, V.d (D.int .i64 ((i : Nat) : Int))), (42, V.d (D.sl x.parts.nn (x.parts.l.map TPrt.c))), (43, V.d (D.int .i64 ((x.parts.l.length : Nat) : Int))), (44, V.d (D.int .i64 ((x.parts.l.length : Nat) : Int))), (45, V.d (D.bool false))], [(5, Ob.row true 3 true [j.oc])] :: hp⟩ := by
  have key := Lp.count (p := pg) (b := i5_l2) (id := 2) (n := x.parts.l.length) (S := fun k => ⟨[(1, V.d (D.sl rs.nn (rs.l.map TRow.c))), (5, V.ptr 0 5 [] 0 0), (6, V.d (D.int .i64 ((n + pcs (x.parts.l.take k) : Nat) : Int))), (7, V.d (D.int .i64 0)), (35, V.d (D.sl un (us.map TUnt.c))), (36, V.d (D.int .i64 ((us.length : Nat) : Int))), (37, V.d (D.int .i64 ((i : Nat) : Int))), (42, V.d (D.sl x.parts.nn (x.parts.l.map TPrt.c))), (43, V.d (D.int .i64 ((x.parts.l.length : Nat) : Int))), (44, V.d (D.int .i64 ((k : Nat) : Int)))], [(5, Ob.row true 3 true [j.oc])] :: hp⟩)
    (fun k hk => ?_) (by rw [List.take_length]; exact w5c_0 un us rs j _ i x x.parts.l.length hp (nltd _))
  · exact key
  · have hg : x.parts.l[k]? = some x.parts.l[k] := List.getElem?_eq_getElem hk
    have hs := sum_take_get (fun p : TPrt => p.pieces.l.length) x.parts.l k hk
    have e : pcs (x.parts.l.take (k + 1)) = pcs (x.parts.l.take k) + x.parts.l[k].pieces.l.length := sum_take_succ _ _ _ hk
    simp only [pcs] at hn
    have r := w5c_1 un us rs j ((n + pcs (x.parts.l.take k) : Nat) : Int) i x k hp x.parts.l[k] (ltd hk) (map_get (f := TPrt.c) hg)
    rw [wrap64 (x := ((k : Nat) : Int) + 1) (by omega) (by omega), List.length_map, wrap64 (x := ((n + pcs (x.parts.l.take k) : Nat) : Int) + _) (by omega) (by simp only [pcs]; omega)] at r
    have e2 : ((n + pcs (x.parts.l.take k) : Nat) : Int) + ((x.parts.l[k].pieces.l.length : Nat) : Int) = ((n + pcs (x.parts.l.take (k + 1)) : Nat) : Int) := by rw [e]; push_cast; omega
    rw [e2] at r
    exact r
theorem l5a (un : Bool) (us : List TUnt) (rs : Sl TRow) (j : TUnt) (hp : HL) (hn : pcus us < 2 ^ 30) (hx : ∀ u ∈ us, u.parts.l.length < 2 ^ 30) (hu : us.length < 2 ^ 30) :
    Lp pg i5_l0 ⟨[(1, V.d (D.sl rs.nn (rs.l.map TRow.c))), (5, V.ptr 0 5 [] 0 0), (6, V.d (D.int .i64 ((0 : Nat) : Int))), (7, V.d (D.int .i64 0)), (35, V.d (D.sl un (us.map TUnt.c))), (36, V.d (D.int .i64 ((us.length : Nat) : Int))), (37, V.d (D.int .i64 ((0 : Nat) : Int)))], [(5, Ob.row true 3 true [j.oc])] :: hp⟩ (.exit 0)
      ⟨[(1, V.d (D.sl rs.nn (rs.l.map TRow.c))), (5, V.ptr 0 5 [] 0 0), (6, V.d (D.int .i64 ((pcus us : Nat) : Int))), (7, V.d (D.int .i64 0)), (35, V.d (D.sl un (us.map TUnt.c))), (36, V.d (D.int .i64 ((us.length : Nat) : Int))), (37, V.d (D.int .i64 ((us.length : Nat) : Int))), (38, V.d (D.bool false))], [(5, Ob.row true 3 true [j.oc])] :: hp⟩ := by
  have key := Lp.count (p := pg) (b := i5_l0) (id := 0) (n := us.length) (S := fun i => ⟨[(1, V.d (D.sl rs.nn (rs.l.map TRow.c))), (5, V.ptr 0 5 [] 0 0), (6, V.d (D.int .i64 ((pcus (us.take i) : Nat) : Int))), (7, V.d (D.int .i64 0)), (35, V.d (D.sl un (us.map TUnt.c))), (36, V.d (D.int .i64 ((us.length : Nat) : Int))), (37, V.d (D.int .i64 ((i : Nat) : Int)))], [(5, Ob.row true 3 true [j.oc])] :: hp⟩)
    (fun i hi => ?_) (by rw [List.take_length]; exact w5a_0 un us rs j _ us.length hp (nltd _))
  · exact key
  · have hg : us[i]? = some us[i] := List.getElem?_eq_getElem hi
    have hs := sum_take_get (fun u : TUnt => pcs u.parts.l) us i hi
    have e : pcus (us.take (i + 1)) = pcus (us.take i) + pcs us[i].parts.l := sum_take_succ _ _ _ hi
    simp only [pcus] at hn
    have hl := l5c un us rs j (pcus (us.take i)) i us[i] hp (by simp only [pcus]; omega) (hx _ (List.getElem_mem hi))
    have r := w5a_1 un us rs j ((pcus (us.take i) : Nat) : Int) i hp us[i] _ (ltd hi) (map_get (f := TUnt.c) hg) (by simp only [List.length_map]; exact hl)
    rw [wrap64 (x := ((i : Nat) : Int) + 1) (by omega) (by omega), ← e] at r
    exact r
theorem l5e (un : Bool) (us : List TUnt) (rs : Sl TRow) (j : TUnt) (n : Int) (hp : HL) (hj : pcs j.parts.l < 2 ^ 29) (hm : j.marks.l.length < 2 ^ 30) (hl : j.parts.l.length < 2 ^ 30) (ok : j.ok) :
    Lp pg i5_l4 ⟨[(1, V.d (D.sl rs.nn (rs.l.map TRow.c))), (5, V.ptr 0 5 [] 0 0), (6, V.d (D.int .i64 n)), (7, V.d (D.int .i64 ((0 : Nat) : Int))), (56, V.d (D.sl j.parts.nn (j.parts.l.map TPrt.c))), (57, V.d (D.int .i64 ((j.parts.l.length : Nat) : Int))), (58, V.d (D.int .i64 ((0 : Nat) : Int)))], [(5, Ob.row true 3 true [j.oc])] :: hp⟩ (.exit 4)
      ⟨[(1, V.d (D.sl rs.nn (rs.l.map TRow.c))), (5, V.ptr 0 5 [] 0 0), (6, V.d (D.int .i64 n)), (7, V.d (D.int .i64 ((pcs j.parts.l : Nat) : Int))), (56, V.d (D.sl j.parts.nn (j.parts.l.map TPrt.c))), (57, V.d (D.int .i64 ((j.parts.l.length : Nat) : Int))), (58, V.d (D.int .i64 ((j.parts.l.length : Nat) : Int))), (59, V.d (D.bool false))], [(5, Ob.row true 3 true [j.oc])] :: hp⟩ := by
  have key := Lp.count (p := pg) (b := i5_l4) (id := 4) (n := j.parts.l.length) (S := fun i => ⟨[(1, V.d (D.sl rs.nn (rs.l.map TRow.c))), (5, V.ptr 0 5 [] 0 0), (6, V.d (D.int .i64 n)), (7, V.d (D.int .i64 ((pcs (j.parts.l.take i) : Nat) : Int))), (56, V.d (D.sl j.parts.nn (j.parts.l.map TPrt.c))), (57, V.d (D.int .i64 ((j.parts.l.length : Nat) : Int))), (58, V.d (D.int .i64 ((i : Nat) : Int)))], [(5, Ob.row true 3 true [j.oc])] :: hp⟩)
    (fun i hi => ?_) (by rw [List.take_length]; exact w5e_0 un us rs j n _ j.parts.l.length hp (nltd _))
  · exact key
  · have hg : j.parts.l[i]? = some j.parts.l[i] := List.getElem?_eq_getElem hi
    have hs := sum_take_get (fun p : TPrt => p.pieces.l.length) j.parts.l i hi
    have e : pcs (j.parts.l.take (i + 1)) = pcs (j.parts.l.take i) + j.parts.l[i].pieces.l.length := sum_take_succ _ _ _ hi
    simp only [pcs] at hj
    obtain ⟨b, its, h1, h2⟩ := f17 j i j.parts.l[i] [] hg hm (by omega) hl (ok _ (List.getElem_mem hi))
    have r := w5e_1 un us rs j n ((pcs (j.parts.l.take i) : Nat) : Int) i hp j.parts.l[i] b its (ltd hi) (map_get (f := TPrt.c) hg) h2 (by simp [h1])
    rw [wrap64 (x := ((i : Nat) : Int) + 1) (by omega) (by omega), List.length_map, wrap64 (x := ((pcs (j.parts.l.take i) : Nat) : Int) + _) (by omega) (by simp only [pcs]; omega)] at r
    have e2 : ((pcs (j.parts.l.take i) : Nat) : Int) + ((j.parts.l[i].pieces.l.length : Nat) : Int) = ((pcs (j.parts.l.take (i + 1)) : Nat) : Int) := by rw [e]; push_cast; omega
    rw [e2] at r
    exact r
theorem l5g (rs : Sl TRow) (hp : HL) (z : Nat) (hz : z + 1 ≤ rs.l.length ∨ z = 0) (hl : rs.l.length < 2 ^ 30) : ∀ (n i : Nat), z - i = n → i ≤ z →
    Lp pg i5_l6 ⟨[(1, V.d (D.sl rs.nn (rs.l.map TRow.c))), (86, V.d (D.int .i64 ((z : Nat) : Int))), (87, V.d (D.int .i64 ((i : Nat) : Int)))], [] :: hp⟩ .ret ⟨[(4, V.d (D.bool true))], [] :: hp⟩ ∨
    ((∀ k a b, i ≤ k → k < z → rs.l[k]? = some a → rs.l[k + 1]? = some b → a.line ≤ b.line) ∧
     Lp pg i5_l6 ⟨[(1, V.d (D.sl rs.nn (rs.l.map TRow.c))), (86, V.d (D.int .i64 ((z : Nat) : Int))), (87, V.d (D.int .i64 ((i : Nat) : Int)))], [] :: hp⟩ (.exit 6) ⟨[(1, V.d (D.sl rs.nn (rs.l.map TRow.c))), (86, V.d (D.int .i64 ((z : Nat) : Int))), (87, V.d (D.int .i64 ((z : Nat) : Int))), (88, V.d (D.bool false))], [] :: hp⟩) := by
  intro n
  induction n with
  | zero =>
    intro i hn hi
    have : i = z := by omega
    subst this
    exact .inr ⟨fun k a b h1 h2 => by omega, Lp.exit (w5g_0 rs i i hp (nltd _))⟩
  | succ n ih =>
    intro i hn hi
    have hlt : i < z := by omega
    have h1 : i < rs.l.length := by omega
    have h2 : i + 1 < rs.l.length := by omega
    have g1 : rs.l[i]? = some rs.l[i] := List.getElem?_eq_getElem h1
    have g2 : rs.l[i + 1]? = some rs.l[i + 1] := List.getElem?_eq_getElem h2
    have hw : IntKind.i64.wrap (((i : Nat) : Int) + 1) = ((i + 1 : Nat) : Int) := by rw [wrap64 (by omega) (by omega)]; push_cast; rfl
    cases c4 : decide (rs.l[i].line > rs.l[i + 1].line) with
    | true => exact .inl (Lp.ret (w5g_2 rs z i hp _ (i + 1) _ (ltd hlt) (map_get (f := TRow.c) g1) hw (map_get (f := TRow.c) g2) c4))
    | false =>
      have r := w5g_1 rs z i hp _ (i + 1) _ (ltd hlt) (map_get (f := TRow.c) g1) hw (map_get (f := TRow.c) g2) c4
      rw [hw] at r
      rcases ih (i + 1) (by omega) (by omega) with h | ⟨h, h'⟩
      · exact .inl (Lp.next r h)
      · refine .inr ⟨fun k a b k1 k2 ka kb => ?_, Lp.next r h'⟩
        by_cases hk : k = i
        · subst hk
          rw [g1] at ka; rw [g2] at kb
          cases ka; cases kb
          have := of_decide_eq_false c4
          omega
        · exact h k a b (by omega) k2 ka kb
theorem f18 (a b : Int) (h : b ≤ a) (hp : HL) : Rn pg 18 [V.d (D.agg [D.int .i64 0, D.int .i64 a, D.int .i64 0]), V.d (D.agg [D.int .i64 0, D.int .i64 b, D.int .i64 0])] hp (V.d (D.bool false)) hp := by
  by_cases e : a = b
  · have r := w18_0 ⟨0, a, 0⟩ ⟨0, b, 0⟩ hp (by simp) (by simp [e])
    simpa using r
  · have r := w18_1 ⟨0, a, 0⟩ ⟨0, b, 0⟩ hp (by simp) (by simp [e])
    rw [show decide ((⟨0, a, 0⟩ : TFlt).line < (⟨0, b, 0⟩ : TFlt).line) = false by simp; omega] at r
    exact r
theorem l5k (x : TUnt) (p : TPrt) (i z : Nat) (hp : HL) (hz : z + 1 ≤ p.pieces.l.length ∨ z = 0) (hl : p.pieces.l.length < 2 ^ 30) (hs : srt p.pieces.l) :
    Lp pg i5_l10 ⟨[(18, V.ptr 0 18 [] 0 0), (109, V.d (D.sl x.parts.nn (x.parts.l.map TPrt.c))), (110, V.d (D.int .i64 ((x.parts.l.length : Nat) : Int))), (111, V.d (D.int .i64 ((i : Nat) : Int))), (123, V.d (D.int .i64 ((z : Nat) : Int))), (124, V.d (D.int .i64 ((0 : Nat) : Int)))], [(18, Ob.row true 4 true [p.oc])] :: hp⟩ (.exit 10)
      ⟨[(18, V.ptr 0 18 [] 0 0), (109, V.d (D.sl x.parts.nn (x.parts.l.map TPrt.c))), (110, V.d (D.int .i64 ((x.parts.l.length : Nat) : Int))), (111, V.d (D.int .i64 ((i : Nat) : Int))), (123, V.d (D.int .i64 ((z : Nat) : Int))), (124, V.d (D.int .i64 ((z : Nat) : Int))), (125, V.d (D.bool false))], [(18, Ob.row true 4 true [p.oc])] :: hp⟩ := by
  refine Lp.count (p := pg) (b := i5_l10) (id := 10) (n := z) (S := fun k => ⟨[(18, V.ptr 0 18 [] 0 0), (109, V.d (D.sl x.parts.nn (x.parts.l.map TPrt.c))), (110, V.d (D.int .i64 ((x.parts.l.length : Nat) : Int))), (111, V.d (D.int .i64 ((i : Nat) : Int))), (123, V.d (D.int .i64 ((z : Nat) : Int))), (124, V.d (D.int .i64 ((k : Nat) : Int)))], [(18, Ob.row true 4 true [p.oc])] :: hp⟩)
    (fun k hk => ?_) (w5k_0 x p i z z hp (nltd _))
  have g1 : p.pieces.l[k]? = some (p.pieces.l[k]'(by omega)) := List.getElem?_eq_getElem _
  have g2 : p.pieces.l[k + 1]? = some (p.pieces.l[k + 1]'(by omega)) := List.getElem?_eq_getElem _
  have hw : IntKind.i64.wrap (((k : Nat) : Int) + 1) = ((k + 1 : Nat) : Int) := by rw [wrap64 (by omega) (by omega)]; push_cast; rfl
  have r := w5k_1 x p i z k hp (k + 1) _ _ (ltd hk) hw (map_get (f := TPce.c) g2) (map_get (f := TPce.c) g1) (f18 _ _ (srt_near hs g1 g2) [])
  rw [hw] at r
  exact r
theorem zsub (n : Nat) (h : n < 2 ^ 30) : (if decide (0 > (IntKind.i64.wrap (((n : Nat) : Int) - 1))) = true then (0 : Int) else IntKind.i64.wrap (((n : Nat) : Int) - 1)) = ((n - 1 : Nat) : Int) := by
  rw [wrap64 (by omega) (by omega)]
  simp only [decide_eq_true_eq]
  split <;> omega
theorem l5i (x : TUnt) (hp : HL) (hx : x.parts.l.length < 2 ^ 30) (hl : ∀ p ∈ x.parts.l, p.pieces.l.length < 2 ^ 30) (hs : ∀ p ∈ x.parts.l, srt p.pieces.l) :
    Lp pg i5_l8 ⟨[(109, V.d (D.sl x.parts.nn (x.parts.l.map TPrt.c))), (110, V.d (D.int .i64 ((x.parts.l.length : Nat) : Int))), (111, V.d (D.int .i64 ((0 : Nat) : Int)))], [] :: hp⟩ (.exit 8)
      ⟨[(109, V.d (D.sl x.parts.nn (x.parts.l.map TPrt.c))), (110, V.d (D.int .i64 ((x.parts.l.length : Nat) : Int))), (111, V.d (D.int .i64 ((x.parts.l.length : Nat) : Int))), (112, V.d (D.bool false))], [] :: hp⟩ := by
  refine Lp.count (p := pg) (b := i5_l8) (id := 8) (n := x.parts.l.length) (S := fun i => ⟨[(109, V.d (D.sl x.parts.nn (x.parts.l.map TPrt.c))), (110, V.d (D.int .i64 ((x.parts.l.length : Nat) : Int))), (111, V.d (D.int .i64 ((i : Nat) : Int)))], [] :: hp⟩)
    (fun i hi => ?_) (w5i_0 x x.parts.l.length hp (nltd _))
  have hg : x.parts.l[i]? = some x.parts.l[i] := List.getElem?_eq_getElem hi
  have hpl := hl _ (List.getElem_mem hi)
  have hps := hs _ (List.getElem_mem hi)
  generalize x.parts.l[i] = p at hg hpl hps
  have hk := l5k x p i (p.pieces.l.length - 1) hp (by omega) hpl hps
  have e : (List.drop 0 (List.take (p.pieces.l.length - 1) (p.pieces.l.map TPce.c))).length = p.pieces.l.length - 1 := by simp
  have r := w5i_1 x i hp p (p.pieces.l.length - 1) (ltd hi) (map_get (f := TPrt.c) hg) (by rw [List.length_map]; exact zsub _ hpl) (by simp) (all_len (f := TPce.c) (fun _ => rfl) _) (by rw [e]; exact hk)
  rw [wrap64 (x := ((i : Nat) : Int) + 1) (by omega) (by omega)] at r
  exact r
theorem f5 (un : Bool) (us : List TUnt) (rs : Sl TRow) (h : usOk us) (hl : ∀ u ∈ us, u.parts.l.length < 2 ^ 30) (hr : rowsOk rs) (hp : HL) : Rn pg 5 [V.d (D.sl un (us.map TUnt.c)), V.d (D.sl rs.nn (rs.l.map TRow.c))] hp (V.d (D.bool true)) hp := by
  obtain ⟨fw, hfw⟩ := f15 un us [] hl
  cases hf : fw with
  | false => subst hf; exact w5_3 un us rs false hp f7 hfw rfl
  | true =>
    subst hf
    by_cases hsh : rs.l.length ≤ 300
    · have hwt := h.wt
      have hlen := h.len
      have w0 := wt_joinM us
      rw [unt_wt] at w0
      have hpl := pw_len (joinM us).parts
      have hpc := pcus_le us
      have ht := tot_joinM us
      have a0 := l5a un us rs (joinM us).unt hp (by omega) hl (by omega)
      have a4 := l5e un us rs (joinM us).unt (pcus us : Int) hp (by rw [ht]; omega) (by simp [JU.unt]; omega) (by simp [JU.unt]; omega) (ok_joinM h.ok)
      rw [ht] at a4
      have e : (List.drop 0 (List.take (rs.l.length - 1) (rs.l.map TRow.c))).length = rs.l.length - 1 := by simp
      have hrl := hr.len
      have hrw := hr.wt
      rcases l5g rs hp (rs.l.length - 1) (by omega) (by omega) _ 0 rfl (Nat.zero_le _) with h6 | ⟨hs, h6⟩
      · exact w5_1 un us rs true hp (pcus us : Int) (pcus us : Int) (rs.l.length - 1) f7 hfw rfl (f8 rs []) (by simpa using hsh) (f16' un h) (by simp only [List.length_map]; exact a0) (by simp only [List.length_map]; exact a4) (by simp)
          (by rw [List.length_map]; exact zsub _ (by omega)) (by simp) (all_len (f := TRow.c) (fun _ => rfl) _) (by rw [e]; exact h6)
      · have hp2 : rs.l.Pairwise (fun a b => a.line ≤ b.line) := pairwise_near (fun x => x.line) rs.l (fun i a b ha hb => hs i a b (Nat.zero_le _) (by have := (List.getElem?_eq_some_iff.1 hb).1; omega) ha hb)
        have hinv := inv_one hp2 false 0
        have hle : (oneM false 0 rs.l).le (0 + wts rs.l) := le_one false rs.l _ 0 (Ms.le_new0 0)
        have a8 := l5i (oneM false 0 rs.l).unt hp (by have := hle.parts; simp [Ms.unt]; omega)
          (fun p hpm => by
            simp only [Ms.unt, List.mem_map] at hpm
            obtain ⟨q, hq, rfl⟩ := hpm
            have := hle.pieces q hq
            simp [OPrt.t]; omega)
          (fun p hpm => by
            simp only [Ms.unt, List.mem_map] at hpm
            obtain ⟨q, hq, rfl⟩ := hpm
            exact hinv.srt q hq)
        exact w5_0 un us rs true hp (pcus us : Int) (pcus us : Int) (rs.l.length - 1) f7 hfw rfl (f8 rs []) (by simpa using hsh) (f16' un h) (by simp only [List.length_map]; exact a0) (by simp only [List.length_map]; exact a4) (by simp)
          (by rw [List.length_map]; exact zsub _ (by omega)) (by simp) (all_len (f := TRow.c) (fun _ => rfl) _) (by rw [e]; exact h6) (f9 0 rs [] hr.opers hr.wt hr.len) (by simp only [List.length_map]; exact a8)
    · exact w5_2 un us rs true hp f7 hfw rfl (f8 rs []) (by simpa using hsh)
end Go.Proofs.YtgmphfmoonbfpaaMv

set_option maxRecDepth 100000
namespace Go.Proofs.YtgmphfmoonbfpaaMv
open Go Go.ChangeShapes Go.WideShapes Go.ChangeAt Go.RowKit
open Go.Proofs.Ytgmphfmoonbfpaa
theorem contract5 (H : Type) (enc : TypeId × Value → H) (W : World) (base : Nat) (args : Array Value) (ds gs : List (DataW H)) (before : List MemPlace)
    (hval : ∀ (j : Nat) t v, Try.f5.params[j]? = some t → args[j]? = some v → Value.okWide Try.prog W .any base t v)
    (hW : DataW.Whole enc Try.prog Try.f5.params.toList Rows.fragKeptSpec.vars false W args.toList ds gs before) (hk : Rows.uptoSmall H (ds ++ gs) = true) :
    Calls Try.prog 5 args W fun e W' => ∃ v, e = .returned v ∧ Rows.fragKeptSpec.post enc Try.prog Try.f5 false true false false W args v W' := by
  have hW' := hW
  obtain ⟨p, q, hA0, hV, hbf, hfz, hnd⟩ := hW
  have hA : DataW.TrodAll enc Try.prog W 0 (fun _ => true) true Try.f5.params.toList args.toList ds p := hA0
  rw [Try.params5] at hA hval
  obtain ⟨v0, vs0, d0, ds0, p0, q0, hargs, rfl, _, h0, r0⟩ := trodAll_cons hA
  obtain ⟨v1, vs1, d1, ds1, p1, q1, rfl, rfl, _, h1, r1⟩ := trodAll_cons r0
  obtain ⟨rfl, rfl, _⟩ := trodAll_nil r1
  obtain rfl : args = #[v0, v1] := by cases args; simp_all
  obtain ⟨rfl, _⟩ := trodVars_none hV
  obtain ⟨sa, sl, sc, rfl⟩ := okWide_slice (e := 32) (by kernel_rfl) (hval 0 44 v0 rfl rfl)
  obtain ⟨ta, tl, tc, rfl⟩ := okWide_slice (e := 59) (by kernel_rfl) (hval 1 22 v1 rfl rfl)
  obtain ⟨f0, t0⟩ := h0
  obtain ⟨f1, t1⟩ := h1
  obtain ⟨us, c0, w0⟩ := rd44 W H enc f0 _ d0 p0 t0
  obtain ⟨rs, c1, w1⟩ := rd22 W H enc f1 _ d1 p1 t1
  have hb : Rows.uptoBulk d0 + Rows.uptoBulk d1 ≤ 1048576 := by
    have := of_decide_eq_true hk
    simp only [List.append_nil, Rows.uptoBulkAll] at this
    omega
  have w0' : sums TUnt.w us.l + 1 ≤ Rows.uptoBulk d0 := w0
  have w1' : sums TRow.w rs.l + 1 ≤ Rows.uptoBulk d1 := w1
  obtain ⟨hu, hl⟩ := usOk_of (us := us.l) (by omega)
  have hr : rowsOk rs := rowsOk_of (by omega)
  have hrv : RVL (fun _ => False) (hof ([] : HL)) (fun _ _ _ => 0) W [V.d (D.sl us.nn (us.l.map TUnt.c)), V.d (D.sl rs.nn (rs.l.map TRow.c))] #[.slice sa sl sc, .slice ta tl tc] := by
    refine ⟨rfl, fun i v x hv hx => ?_⟩
    match i, hv, hx with
    | 0, hv, hx => simp at hv hx; subst hv; subst hx; exact rv_of_one c0
    | 1, hv, hx => simp at hv hx; subst hv; subst hx; exact rv_of_one c1
  refine (calls_true (g := 5) (fn := i5) rfl hrv (f5 us.nn us.l rs hu hl hr [])).mono fun e W' ⟨he, hL⟩ => ?_
  subst he
  exact ⟨_, rfl, post_true hW' rfl rfl (tb := 4) (by kernel_rfl) (by rw [Try.params5]; decide) rfl hL⟩
theorem lifted5 (os : Os) (started : os.Started) (H : Type) (enc : TypeId × Value → H) (F : Stop.Interp) :
    ReturnsInHanded {} Try.checked os 5 .any ((Rows.OpenSpec.upto Rows.fragKeptSpec).pre6 enc Try.prog Try.f5 Rows.fragKeptUptoRow.domain false) (((Rows.OpenSpec.upto Rows.fragKeptSpec).at F).post enc Try.prog Try.f5 false true false false) := by
  refine returnsInHanded_of_cond (C := Try.checked) (s := Rows.OpenSpec.upto Rows.fragKeptSpec) (k := Rows.uptoSmall) rfl own started (by kernel_rfl) Try.func5
    (OpenSpec.witness (enc := enc) (C := Try.checked) (s := Rows.OpenSpec.upto Rows.fragKeptSpec) (k := Rows.uptoSmall) rfl false ⟨#[], #[.slice none 0 0, .slice none 0 0], []⟩ 8 (by kernel_rfl) (by kernel_rfl) (by kernel_rfl)
      (x := ([.nil, .nil], [], [])) (by kernel_rfl) rfl (by kernel_rfl)) ?_
  intro W base args ds gs before hval hW _ hk _
  exact contract5 H enc W base args ds gs before hval hW hk
theorem over5 : Rows.fragKeptUptoRow.holds Try.pinned (Rows.OpenSpec.upto Rows.fragKeptSpec) :=
  OpenClaim.holds_of_cond 5 Try.f5 rfl rfl rfl rfl rfl rfl rfl ⟨rfl, rfl, rfl, rfl, rfl⟩ rfl rfl rfl rfl rfl (by kernel_rfl) Try.func5 (by kernel_rfl)
    (of_decide_eq_true (by kernel_rfl)) (by unfold Func.isWrapper; first | (rw [if_pos (by decide +kernel)]; kernel_rfl) | (rw [if_neg (by decide +kernel)]; exact ⟨rfl, rfl⟩))
    (fun os started H enc _ F => lifted5 os started H enc F)
theorem fragKept_proved : Rows.FragKeptUptoSaid := over5
end Go.Proofs.YtgmphfmoonbfpaaMv
