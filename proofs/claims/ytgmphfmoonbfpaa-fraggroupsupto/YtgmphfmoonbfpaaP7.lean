/- Part 7 of the proof. -/
import Derived.Test.YtgmphfmoonbfpaaP6
set_option linter.unusedVariables false
set_option linter.unusedSimpArgs false
namespace Go.Proofs.YtgmphfmoonbfpaaMv
open Go
end Go.Proofs.YtgmphfmoonbfpaaMv

set_option maxRecDepth 100000
namespace Go.Proofs.YtgmphfmoonbfpaaMv
open Go
theorem w59_0 (s : Sl TOpr) (hp : HL)
    (c0 : (!s.nn && (s.l.map TOpr.c).isEmpty) = false)
    (c1 : List.all (s.l.map TOpr.c) (fun x => x.length == 15) = true)
    (c2 : (List.map (fun x => List.map C.d x) (s.l.map TOpr.c)).length * 120 ≤ room)
    (c3 : allDs (List.map (fun x => List.map C.d x) (s.l.map TOpr.c)) = some (s.l.map TOpr.c)) :
    Rn pg 59 [V.d (D.sl s.nn (s.l.map TOpr.c))] (hp) (V.d (D.sl (true || !(s.l.map TOpr.c).isEmpty) (s.l.map TOpr.c))) (hp) :=
  Rn.c (fn := i59) (ex := .ret) (st := ⟨[(2, V.d (D.sl (true || !(s.l.map TOpr.c).isEmpty) (s.l.map TOpr.c)))], [] :: hp⟩) (hs := [.b false, .ees (s.l.map TOpr.c)]) (cs := [_, _, _, _]) (rs := [V.d (D.sl (true || !(s.l.map TOpr.c).isEmpty) (s.l.map TOpr.c))]) (t := [])
    (by kernel_rfl) (by kernel_rfl) (by kernel_rfl) (by kernel_rfl) (by kernel_rfl) (by kernel_rfl) ⟨c0, c1, c2, c3, trivial⟩
theorem w59_1 (s : Sl TOpr) (hp : HL)
    (c0 : (!s.nn && (s.l.map TOpr.c).isEmpty) = true) :
    Rn pg 59 [V.d (D.sl s.nn (s.l.map TOpr.c))] (hp) (V.d (D.sl false [])) (hp) :=
  Rn.c (fn := i59) (ex := .ret) (st := ⟨[(2, V.d (D.sl false []))], [] :: hp⟩) (hs := [.b true]) (cs := [_]) (rs := [V.d (D.sl false [])]) (t := [])
    (by kernel_rfl) (by kernel_rfl) (by kernel_rfl) (by kernel_rfl) (by kernel_rfl) (by kernel_rfl) ⟨c0, trivial⟩
theorem w33_0 (s : Sl UInt8) (hp : HL)
    (c0 : (!s.nn && (s.l.map u8c).isEmpty) = false)
    (c1 : List.all (s.l.map u8c) (fun x => x.length == 1) = true)
    (c2 : (List.map (fun x => List.map C.d x) (s.l.map u8c)).length * 1 ≤ room)
    (c3 : allDs (List.map (fun x => List.map C.d x) (s.l.map u8c)) = some (s.l.map u8c)) :
    Rn pg 33 [V.d (D.sl s.nn (s.l.map u8c))] (hp) (V.d (D.sl (true || !(s.l.map u8c).isEmpty) (s.l.map u8c))) (hp) :=
  Rn.c (fn := i33) (ex := .ret) (st := ⟨[(2, V.d (D.sl (true || !(s.l.map u8c).isEmpty) (s.l.map u8c)))], [] :: hp⟩) (hs := [.b false, .ees (s.l.map u8c)]) (cs := [_, _, _, _]) (rs := [V.d (D.sl (true || !(s.l.map u8c).isEmpty) (s.l.map u8c))]) (t := [])
    (by kernel_rfl) (by kernel_rfl) (by kernel_rfl) (by kernel_rfl) (by kernel_rfl) (by kernel_rfl) ⟨c0, c1, c2, c3, trivial⟩
theorem w33_1 (s : Sl UInt8) (hp : HL)
    (c0 : (!s.nn && (s.l.map u8c).isEmpty) = true) :
    Rn pg 33 [V.d (D.sl s.nn (s.l.map u8c))] (hp) (V.d (D.sl false [])) (hp) :=
  Rn.c (fn := i33) (ex := .ret) (st := ⟨[(2, V.d (D.sl false []))], [] :: hp⟩) (hs := [.b true]) (cs := [_]) (rs := [V.d (D.sl false [])]) (t := [])
    (by kernel_rfl) (by kernel_rfl) (by kernel_rfl) (by kernel_rfl) (by kernel_rfl) (by kernel_rfl) ⟨c0, trivial⟩
end Go.Proofs.YtgmphfmoonbfpaaMv

namespace Go.Proofs.YtgmphfmoonbfpaaMv
open Go
theorem room_eq : room = 140737488355328 := rfl
theorem all_len {α : Type} {f : α → List D} {n : Nat} (h : ∀ x, (f x).length = n) (l : List α) : List.all (l.map f) (fun x => x.length == n) = true := by simp [h]
theorem allDs_map : ∀ (es : List (List D)), allDs (List.map (fun x => List.map C.d x) es) = some es
  | [] => rfl
  | cs :: es => by
    have h : ∀ cs : List D, allD (List.map C.d cs) = some cs := by
      intro cs
      induction cs with
      | nil => rfl
      | cons c cs ih => simp [allD, ih]
    simp [allDs, h, allDs_map es]
theorem map_get {α β : Type} {f : α → β} {l : List α} {k : Nat} {x : α} (h : l[k]? = some x) : (l.map f)[k]? = some (f x) := by simp [h]
def Sl.cl {α : Type} (s : Sl α) : Sl α := ⟨s.nn || !s.l.isEmpty, s.l⟩
theorem f59 (s : Sl TOpr) (hp : HL) (hl : s.l.length < 2 ^ 30) : Rn pg 59 [.d (.sl s.nn (s.l.map TOpr.c))] hp (.d (.sl s.cl.nn (s.cl.l.map TOpr.c))) hp := by
  cases h : !s.nn && (s.l.map TOpr.c).isEmpty with
  | false =>
    have := w59_0 s hp h (all_len (f := TOpr.c) (fun _ => rfl) _) (by simp [room_eq]; omega) (allDs_map _)
    have e : (true || !(s.l.map TOpr.c).isEmpty) = s.cl.nn := by
      simp only [Sl.cl]
      revert h; cases s.nn <;> simp
    rw [e] at this
    exact this
  | true =>
    have := w59_1 s hp h
    simp only [Bool.and_eq_true, Bool.not_eq_true', List.isEmpty_iff, List.map_eq_nil_iff] at h
    simpa [Sl.cl, h.1, h.2] using this
theorem f33 (s : Sl UInt8) (hp : HL) (hl : s.l.length < 2 ^ 30) : Rn pg 33 [.d (.sl s.nn (s.l.map u8c))] hp (.d (.sl s.cl.nn (s.cl.l.map u8c))) hp := by
  cases h : !s.nn && (s.l.map u8c).isEmpty with
  | false =>
    have := w33_0 s hp h (all_len (f := u8c) (fun _ => rfl) _) (by simp [room_eq]; omega) (allDs_map _)
    have e : (true || !(s.l.map u8c).isEmpty) = s.cl.nn := by
      simp only [Sl.cl]
      revert h; cases s.nn <;> simp
    rw [e] at this
    exact this
  | true =>
    have := w33_1 s hp h
    simp only [Bool.and_eq_true, Bool.not_eq_true', List.isEmpty_iff, List.map_eq_nil_iff] at h
    simpa [Sl.cl, h.1, h.2] using this
end Go.Proofs.YtgmphfmoonbfpaaMv

set_option maxRecDepth 100000
namespace Go.Proofs.YtgmphfmoonbfpaaMv
open Go
end Go.Proofs.YtgmphfmoonbfpaaMv

namespace Go.Proofs.YtgmphfmoonbfpaaMv
open Go
end Go.Proofs.YtgmphfmoonbfpaaMv

namespace Go.Proofs.YtgmphfmoonbfpaaMv
open Go
structure OPrt where
  name : List UInt8
  file : Int
  line : Int
  pieces : List TPce
  deriving DecidableEq, Inhabited
def OPrt.oc (p : OPrt) : List C := [C.d (D.str p.name), C.d (D.int .i64 p.file), C.d (D.int .i64 p.line), C.own 11 false (p.pieces.map TPce.oc)]
def OPrt.t (p : OPrt) : TPrt := ⟨p.name, p.file, p.line, ⟨false, p.pieces⟩⟩
def atGo : Nat → List OPrt → List (D × D)
  | _, [] => []
  | i, p :: r => (D.str p.name, D.int .i64 (i : Int)) :: atGo (i + 1) r
def atOf (ps : List OPrt) : List (D × D) := atGo 0 ps
def idxGo (nm : List UInt8) : Nat → List OPrt → Option Nat
  | _, [] => none
  | i, p :: r => if nm == p.name then some i else idxGo nm (i + 1) r
theorem find_at (nm : List UInt8) : ∀ (ps : List OPrt) (i : Nat), findD false [2] (D.str nm) (atGo i ps) = some ((idxGo nm i ps).map fun k => D.int .i64 ((k : Nat) : Int))
  | [], i => rfl
  | p :: r, i => by
    simp only [atGo, findD, idxGo, deqT, Bool.false_eq_true, if_false, deqK]
    cases h : nm == p.name with
    | true => simp
    | false => simpa using find_at nm r (i + 1)
theorem put_at (q : OPrt) : ∀ (ps : List OPrt) (i : Nat), idxGo q.name i ps = none → putD false [2] (D.str q.name) (D.int .i64 ((i + ps.length : Nat) : Int)) (atGo i ps) = some (atGo i (ps ++ [q]))
  | [], i, _ => by simp [atGo, putD]
  | p :: r, i, hn => by
    simp only [idxGo] at hn
    cases h : q.name == p.name with
    | true => simp [h] at hn
    | false =>
      simp only [h, Bool.false_eq_true, if_false] at hn
      have := put_at q r (i + 1) hn
      rw [show i + 1 + r.length = i + (p :: r).length by rw [List.length_cons]; omega] at this
      simp only [atGo, putD, deqT, Bool.false_eq_true, if_false, deqK, h, Option.bind_some, this, Option.map_some, List.cons_append]
theorem idxGo_lt (nm : List UInt8) : ∀ (ps : List OPrt) (i k : Nat), idxGo nm i ps = some k → i ≤ k ∧ k < i + ps.length ∧ ∃ p, ps[k - i]? = some p ∧ p.name = nm
  | [], i, k, h => by simp [idxGo] at h
  | p :: r, i, k, h => by
    simp only [idxGo] at h
    split at h
    · rename_i hp
      simp only [Option.some.injEq] at h
      subst h
      exact ⟨Nat.le_refl _, by rw [List.length_cons]; omega, p, by simp, (show nm = p.name by simpa using hp).symm⟩
    · obtain ⟨h1, h2, q, h3, h4⟩ := idxGo_lt nm r (i + 1) k h
      refine ⟨by omega, by simp; omega, q, ?_, h4⟩
      rw [show k - i = (k - (i + 1)) + 1 by omega]
      simpa using h3
structure Ms where
  parts : List OPrt
  marks : List TMrk
  globals : List TTld
  faults : List TFlt
  file : Int
  line : Int
  name : List UInt8
  deriving DecidableEq, Inhabited
def Ms.new (m : Ms) : OPrt := ⟨m.name, m.file, m.line, []⟩
def OPrt.add (p : OPrt) (x : TPce) : OPrt := { p with pieces := p.pieces ++ [x] }
structure Ms.le (m : Ms) (k : Nat) : Prop where
  parts : m.parts.length ≤ k
  marks : m.marks.length ≤ k
  globals : m.globals.length ≤ k
  faults : m.faults.length ≤ k
  pieces : ∀ p ∈ m.parts, p.pieces.length ≤ k
theorem Ms.le.mono {m : Ms} {k k' : Nat} (h : m.le k) (hk : k ≤ k') : m.le k' :=
  ⟨Nat.le_trans h.parts hk, Nat.le_trans h.marks hk, Nat.le_trans h.globals hk, Nat.le_trans h.faults hk, fun p hp => Nat.le_trans (h.pieces p hp) hk⟩
end Go.Proofs.YtgmphfmoonbfpaaMv

set_option maxRecDepth 100000
namespace Go.Proofs.YtgmphfmoonbfpaaMv
open Go
theorem w32_0 (l : TLin) (hp : HL)
    (c0 : Rn pg 59 [V.d (D.sl l.opers.nn (l.opers.l.map TOpr.c))] ([]) (V.d (D.sl l.opers.cl.nn (l.opers.cl.l.map TOpr.c))) ([])) :
    Rn pg 32 [V.d (D.agg [D.str l.name, D.sl l.opers.nn (l.opers.l.map TOpr.c)])] (hp) (V.d (D.agg [D.str l.name, D.sl l.opers.cl.nn (l.opers.cl.l.map TOpr.c)])) (hp) :=
  Rn.c (fn := i32) (ex := .ret) (st := ⟨[(2, V.ptr 0 2 [] 0 0)], [(2, Ob.row true 2 true [[C.d (D.str l.name), C.d (D.sl l.opers.cl.nn (l.opers.cl.l.map TOpr.c))]])] :: hp⟩) (hs := [.call (V.d (D.sl l.opers.cl.nn (l.opers.cl.l.map TOpr.c))) ([])]) (cs := [_]) (rs := [V.d (D.agg [D.str l.name, D.sl l.opers.cl.nn (l.opers.cl.l.map TOpr.c)])]) (t := [(2, Ob.row true 2 true [[C.d (D.str l.name), C.d (D.sl l.opers.cl.nn (l.opers.cl.l.map TOpr.c))]])])
    (by kernel_rfl) (by kernel_rfl) (by kernel_rfl) (by kernel_rfl) (by kernel_rfl) (by kernel_rfl) ⟨c0, trivial⟩
end Go.Proofs.YtgmphfmoonbfpaaMv

namespace Go.Proofs.YtgmphfmoonbfpaaMv
open Go
theorem cellAtM {α : Type} {f : α → List C} {l : List α} {i o : Nat} {x : α} {c : C} (h : l[i]? = some x) (hc : (f x)[o]? = some c) : cellAt (l.map f) i o = some c := by simp [cellAt, h, hc]
theorem f32 (l : TLin) (hp : HL) (hl : l.opers.l.length < 2 ^ 30) : Rn pg 32 [.d (.agg l.c)] hp (.d (.agg (TLin.c { l with opers := l.opers.cl }))) hp := w32_0 l hp (f59 l.opers [] hl)
end Go.Proofs.YtgmphfmoonbfpaaMv

set_option maxRecDepth 100000
namespace Go.Proofs.YtgmphfmoonbfpaaMv
open Go
end Go.Proofs.YtgmphfmoonbfpaaMv

set_option maxRecDepth 100000
namespace Go.Proofs.YtgmphfmoonbfpaaMv
open Go
end Go.Proofs.YtgmphfmoonbfpaaMv

namespace Go.Proofs.YtgmphfmoonbfpaaMv
open Go
theorem sc_get {ps : List OPrt} {i : Nat} {p : OPrt} (h : ps[i]? = some p) : (setCells (ps.map OPrt.oc) i 3 [C.bad])[i]? = some [C.d (D.str p.name), C.d (D.int .i64 p.file), C.d (D.int .i64 p.line), C.bad] := by
  have hl : i < ps.length := (List.getElem?_eq_some_iff.1 h).1
  have he : ps[i] = p := (List.getElem?_eq_some_iff.1 h).2
  simp [setCells, h, OPrt.oc, overlay, hl, he]
theorem sc_put {ps : List OPrt} {i : Nat} {p : OPrt} (h : ps[i]? = some p) (x : TPce) :
    setCells (setCells (ps.map OPrt.oc) i 3 [C.bad]) i 3 [C.own 11 false ((p.pieces.map TPce.oc) ++ [x.oc])] = (ps.modify i (·.add x)).map OPrt.oc := by
  have hl : i < ps.length := (List.getElem?_eq_some_iff.1 h).1
  have h1 : setCells (ps.map OPrt.oc) i 3 [C.bad] = (ps.map OPrt.oc).set i [C.d (D.str p.name), C.d (D.int .i64 p.file), C.d (D.int .i64 p.line), C.bad] := by
    simp [setCells, h, OPrt.oc, overlay]
  rw [h1]
  simp only [setCells]
  rw [List.getElem?_set_self (by simpa using hl)]
  simp only [overlay, List.set_set]
  apply List.ext_getElem?
  intro j
  rw [List.getElem?_map, List.getElem?_modify, List.getElem?_set]
  by_cases hj : i = j
  · subst hj
    have he : ps[i] = p := (List.getElem?_eq_some_iff.1 h).2
    simp [hl, he, OPrt.add, OPrt.oc]
  · simp [hj]
end Go.Proofs.YtgmphfmoonbfpaaMv

namespace Go.Proofs.YtgmphfmoonbfpaaMv
open Go
end Go.Proofs.YtgmphfmoonbfpaaMv
