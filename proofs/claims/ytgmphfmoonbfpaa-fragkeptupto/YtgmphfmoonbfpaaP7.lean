/- Part 7 of the proof. -/
import Derived.Test.YtgmphfmoonbfpaaP6
set_option linter.unusedVariables false
set_option linter.unusedSimpArgs false
namespace Go.Proofs.YtgmphfmoonbfpaaMv
open Go
def hasPre (s q : List UInt8) : Bool := decide (q.length ≤ s.length) && s.take q.length == q
def begins (n s : List UInt8) : Bool := n == s || hasPre n (s ++ [46])
def kindOf (n : List UInt8) : Int :=
  if begins n [46, 116, 101, 120, 116] then 1 else if begins n [46, 114, 111, 100, 97, 116, 97] then 3 else if begins n [46, 98, 115, 115] then 4 else 2
end Go.Proofs.YtgmphfmoonbfpaaMv

set_option maxRecDepth 100000
namespace Go.Proofs.YtgmphfmoonbfpaaMv
open Go
theorem w57_0 (s : List UInt8) (q : List UInt8) (hp : HL)
    (c0 : (decide (((s.length : Nat) : Int) ≥ ((q.length : Nat) : Int))) = false) :
    Rn pg 57 [V.d (D.str s), V.d (D.str q)] (hp) (V.d (D.bool false)) (hp) :=
  Rn.c (fn := i57) (ex := .ret) (st := ⟨[(4, V.d (D.bool false))], [] :: hp⟩) (hs := [.b false, .b false, .b false, .b false, .b false, .b false, .b false]) (cs := [_, _, _, _, _, _, _]) (rs := [V.d (D.bool false)]) (t := [])
    (by kernel_rfl) (by kernel_rfl) (by kernel_rfl) (by kernel_rfl) (by kernel_rfl) (by kernel_rfl) ⟨c0, c0, c0, c0, c0, c0, c0, trivial⟩
theorem w57_1 (s : List UInt8) (q : List UInt8) (hp : HL)
    (c0 : (decide (((s.length : Nat) : Int) ≥ ((q.length : Nat) : Int))) = true)
    (c1 : q.length ≤ s.length) :
    Rn pg 57 [V.d (D.str s), V.d (D.str q)] (hp) (V.d (D.bool ((List.drop 0 (List.take q.length s)) == q))) (hp) :=
  Rn.c (fn := i57) (ex := .ret) (st := ⟨[(4, V.d (D.bool ((List.drop 0 (List.take q.length s)) == q)))], [] :: hp⟩) (hs := [.b true, .b true, .b true, .b true, .n q.length, .b true, .b true, .b true]) (cs := [_, _, _, _, ((q.length : Nat) : Int) = ((q.length : Nat) : Int), 0 ≤ q.length, _, _, _, _]) (rs := [V.d (D.bool ((List.drop 0 (List.take q.length s)) == q))]) (t := [])
    (by kernel_rfl) (by kernel_rfl) (by kernel_rfl) (by kernel_rfl) (by kernel_rfl) (by kernel_rfl) ⟨c0, c0, c0, c0, rfl, Nat.zero_le _, c1, c0, c0, c0, trivial⟩
theorem w30_0 (s : List UInt8) (q : List UInt8) (hp : HL)
    (c0 : Rn pg 57 [V.d (D.str s), V.d (D.str q)] ([]) (V.d (D.bool (hasPre s q))) ([])) :
    Rn pg 30 [V.d (D.str s), V.d (D.str q)] (hp) (V.d (D.bool (hasPre s q))) (hp) :=
  Rn.c (fn := i30) (ex := .ret) (st := ⟨[(4, V.d (D.bool (hasPre s q)))], [] :: hp⟩) (hs := [.call (V.d (D.bool (hasPre s q))) ([])]) (cs := [_]) (rs := [V.d (D.bool (hasPre s q))]) (t := [])
    (by kernel_rfl) (by kernel_rfl) (by kernel_rfl) (by kernel_rfl) (by kernel_rfl) (by kernel_rfl) ⟨c0, trivial⟩
theorem w59_0 (s : Sl TOpr) (hp : HL)
    (c0 : (!s.nn && (s.l.map TOpr.c).isEmpty) = false)
    (c1 : List.all (s.l.map TOpr.c) (fun x => x.length == 15) = true)
    (c2 : (List.map (fun x => List.map C.d x) (s.l.map TOpr.c)).length * 120 ≤ room)
    (c3 : allDs (List.map (fun x => List.map C.d x) (s.l.map TOpr.c)) = some (s.l.map TOpr.c)) :
    Rn pg 59 [V.d (D.sl s.nn (s.l.map TOpr.c))] (hp) (V.d (D.sl (true || !(s.l.map TOpr.c).isEmpty) (s.l.map TOpr.c))) (hp) :=
  Rn.c (fn := i59) (ex := .ret) (st := ⟨[(2, V.d (D.sl (true || !(s.l.map TOpr.c).isEmpty) (s.l.map TOpr.c)))], [] :: hp⟩) (hs := [.b false, .ees (s.l.map TOpr.c)]) (cs := [_, _, _, _]) (rs := [V.d (D.sl (true || !(s.l.map TOpr.c).isEmpty) (s.l.map TOpr.c))]) (t := [])
    (by kernel_rfl) (by kernel_rfl) (by kernel_rfl) (by kernel_rfl) (by kernel_rfl) (by kernel_rfl) ⟨c0, c1, c2, c3, trivial⟩
theorem w59_1 (s : Sl TOpr) (hp : HL)
    (c0 : (!s.nn && (s.l.map TOpr.c).isEmpty) = true) :
    Rn pg 59 [V.d (D.sl s.nn (s.l.map TOpr.c))] (hp) (V.d (D.sl false [])) (hp) :=
  Rn.c (fn := i59) (ex := .ret) (st := ⟨[(2, V.d (D.sl false []))], [] :: hp⟩) (hs := [.b true]) (cs := [_]) (rs := [V.d (D.sl false [])]) (t := [])
    (by kernel_rfl) (by kernel_rfl) (by kernel_rfl) (by kernel_rfl) (by kernel_rfl) (by kernel_rfl) ⟨c0, trivial⟩
theorem w33_0 (s : Sl UInt8) (hp : HL)
    (c0 : (!s.nn && (s.l.map u8c).isEmpty) = false)
    (c1 : List.all (s.l.map u8c) (fun x => x.length == 1) = true)
    (c2 : (List.map (fun x => List.map C.d x) (s.l.map u8c)).length * 1 ≤ room)
    (c3 : allDs (List.map (fun x => List.map C.d x) (s.l.map u8c)) = some (s.l.map u8c)) :
    Rn pg 33 [V.d (D.sl s.nn (s.l.map u8c))] (hp) (V.d (D.sl (true || !(s.l.map u8c).isEmpty) (s.l.map u8c))) (hp) :=
  Rn.c (fn := i33) (ex := .ret) (st := ⟨[(2, V.d (D.sl (true || !(s.l.map u8c).isEmpty) (s.l.map u8c)))], [] :: hp⟩) (hs := [.b false, .ees (s.l.map u8c)]) (cs := [_, _, _, _]) (rs := [V.d (D.sl (true || !(s.l.map u8c).isEmpty) (s.l.map u8c))]) (t := [])
    (by kernel_rfl) (by kernel_rfl) (by kernel_rfl) (by kernel_rfl) (by kernel_rfl) (by kernel_rfl) ⟨c0, c1, c2, c3, trivial⟩
theorem w33_1 (s : Sl UInt8) (hp : HL)
    (c0 : (!s.nn && (s.l.map u8c).isEmpty) = true) :
    Rn pg 33 [V.d (D.sl s.nn (s.l.map u8c))] (hp) (V.d (D.sl false [])) (hp) :=
  Rn.c (fn := i33) (ex := .ret) (st := ⟨[(2, V.d (D.sl false []))], [] :: hp⟩) (hs := [.b true]) (cs := [_]) (rs := [V.d (D.sl false [])]) (t := [])
    (by kernel_rfl) (by kernel_rfl) (by kernel_rfl) (by kernel_rfl) (by kernel_rfl) (by kernel_rfl) ⟨c0, trivial⟩
theorem w50_0 (s : Sl TVal) (hp : HL)
    (c0 : (decide ((((s.l.map TVal.c).length : Nat) : Int) > 0)) = false) :
    Rn pg 50 [V.d (D.sl s.nn (s.l.map TVal.c))] (hp) (V.d (D.agg [D.int .i64 0, D.str ([]), D.str ([])])) (hp) :=
  Rn.c (fn := i50) (ex := .ret) (st := ⟨[(2, V.ptr 0 2 [] 0 0)], [(2, Ob.row true 3 true [[C.d (D.int .i64 0), C.d (D.str ([])), C.d (D.str ([]))]])] :: hp⟩) (hs := [.b false]) (cs := [_]) (rs := [V.d (D.agg [D.int .i64 0, D.str ([]), D.str ([])])]) (t := [(2, Ob.row true 3 true [[C.d (D.int .i64 0), C.d (D.str ([])), C.d (D.str ([]))]])])
    (by kernel_rfl) (by kernel_rfl) (by kernel_rfl) (by kernel_rfl) (by kernel_rfl) (by kernel_rfl) ⟨c0, trivial⟩
theorem w50_1 (s : Sl TVal) (hp : HL) (x1 : TVal)
    (c0 : (decide ((((s.l.map TVal.c).length : Nat) : Int) > 0)) = true)
    (c1 : (s.l.map TVal.c)[0]? = some [D.int .i64 x1.add, D.str x1.plus, D.str x1.minus]) :
    Rn pg 50 [V.d (D.sl s.nn (s.l.map TVal.c))] (hp) (V.d (D.agg [D.int .i64 x1.add, D.str x1.plus, D.str x1.minus])) (hp) :=
  Rn.c (fn := i50) (ex := .ret) (st := ⟨[(2, V.ptr 0 2 [] 0 0)], [(2, Ob.row true 3 true [[C.d (D.int .i64 x1.add), C.d (D.str x1.plus), C.d (D.str x1.minus)]])] :: hp⟩) (hs := [.b true, .n 0, .ds [D.int .i64 x1.add, D.str x1.plus, D.str x1.minus]]) (cs := [_, 0 = ((0 : Nat) : Int), _]) (rs := [V.d (D.agg [D.int .i64 x1.add, D.str x1.plus, D.str x1.minus])]) (t := [(2, Ob.row true 3 true [[C.d (D.int .i64 x1.add), C.d (D.str x1.plus), C.d (D.str x1.minus)]])])
    (by kernel_rfl) (by kernel_rfl) (by kernel_rfl) (by kernel_rfl) (by kernel_rfl) (by kernel_rfl) ⟨c0, rfl, c1, trivial⟩
theorem w51_0 (s : Sl (List UInt8)) (hp : HL)
    (c0 : (decide ((((s.l.map strc).length : Nat) : Int) > 0)) = false) :
    Rn pg 51 [V.d (D.sl s.nn (s.l.map strc))] (hp) (V.d (D.str ([]))) (hp) :=
  Rn.c (fn := i51) (ex := .ret) (st := ⟨[(2, V.d (D.str ([])))], [] :: hp⟩) (hs := [.b false]) (cs := [_]) (rs := [V.d (D.str ([]))]) (t := [])
    (by kernel_rfl) (by kernel_rfl) (by kernel_rfl) (by kernel_rfl) (by kernel_rfl) (by kernel_rfl) ⟨c0, trivial⟩
theorem w51_1 (s : Sl (List UInt8)) (hp : HL) (x1 : List UInt8)
    (c0 : (decide ((((s.l.map strc).length : Nat) : Int) > 0)) = true)
    (c1 : (s.l.map strc)[0]? = some [D.str x1]) :
    Rn pg 51 [V.d (D.sl s.nn (s.l.map strc))] (hp) (V.d (D.str x1)) (hp) :=
  Rn.c (fn := i51) (ex := .ret) (st := ⟨[(2, V.d (D.str x1))], [] :: hp⟩) (hs := [.b true, .n 0, .ds [D.str x1]]) (cs := [_, 0 = ((0 : Nat) : Int), _]) (rs := [V.d (D.str x1)]) (t := [])
    (by kernel_rfl) (by kernel_rfl) (by kernel_rfl) (by kernel_rfl) (by kernel_rfl) (by kernel_rfl) ⟨c0, rfl, c1, trivial⟩
theorem w8_0 (s : Sl TRow) (hp : HL)
     :
    Rn pg 8 [V.d (D.sl s.nn (s.l.map TRow.c))] (hp) (V.d (D.bool (decide ((((s.l.map TRow.c).length : Nat) : Int) ≤ 300)))) (hp) :=
  Rn.c (fn := i8) (ex := .ret) (st := ⟨[(2, V.d (D.bool (decide ((((s.l.map TRow.c).length : Nat) : Int) ≤ 300))))], [] :: hp⟩) (hs := []) (cs := []) (rs := [V.d (D.bool (decide ((((s.l.map TRow.c).length : Nat) : Int) ≤ 300)))]) (t := [])
    (by kernel_rfl) (by kernel_rfl) (by kernel_rfl) (by kernel_rfl) (by kernel_rfl) (by kernel_rfl) trivial
end Go.Proofs.YtgmphfmoonbfpaaMv

namespace Go.Proofs.YtgmphfmoonbfpaaMv
open Go
theorem room_eq : room = 140737488355328 := rfl
theorem all_len {α : Type} {f : α → List D} {n : Nat} (h : ∀ x, (f x).length = n) (l : List α) : List.all (l.map f) (fun x => x.length == n) = true := by simp [h]
theorem allDs_map : ∀ (es : List (List D)), allDs (List.map (fun x => List.map C.d x) es) = some es
  | [] => rfl
  | cs :: es => by
    have h : ∀ cs : List D, allD (List.map C.d cs) = some cs := by
      intro cs
      induction cs with
      | nil => rfl
      | cons c cs ih => simp [allD, ih]
    simp [allDs, h, allDs_map es]
theorem map_get {α β : Type} {f : α → β} {l : List α} {k : Nat} {x : α} (h : l[k]? = some x) : (l.map f)[k]? = some (f x) := by simp [h]
theorem f57 (s q : List UInt8) (hp : HL) : Rn pg 57 [.d (.str s), .d (.str q)] hp (.d (.bool (hasPre s q))) hp := by
  by_cases h : q.length ≤ s.length
  · have := w57_1 s q hp (by simp; omega) h
    simpa [hasPre, h] using this
  · have := w57_0 s q hp (by simp; omega)
    simpa [hasPre, h] using this
theorem f30 (s q : List UInt8) (hp : HL) : Rn pg 30 [.d (.str s), .d (.str q)] hp (.d (.bool (hasPre s q))) hp := w30_0 s q hp (f57 s q [])
def Sl.cl {α : Type} (s : Sl α) : Sl α := ⟨s.nn || !s.l.isEmpty, s.l⟩
theorem f59 (s : Sl TOpr) (hp : HL) (hl : s.l.length < 2 ^ 30) : Rn pg 59 [.d (.sl s.nn (s.l.map TOpr.c))] hp (.d (.sl s.cl.nn (s.cl.l.map TOpr.c))) hp := by
  cases h : !s.nn && (s.l.map TOpr.c).isEmpty with
  | false =>
    have := w59_0 s hp h (all_len (f := TOpr.c) (fun _ => rfl) _) (by simp [room_eq]; omega) (allDs_map _)
    have e : (true || !(s.l.map TOpr.c).isEmpty) = s.cl.nn := by
      simp only [Sl.cl]
      revert h; cases s.nn <;> simp
    rw [e] at this
    exact this
  | true =>
    have := w59_1 s hp h
    simp only [Bool.and_eq_true, Bool.not_eq_true', List.isEmpty_iff, List.map_eq_nil_iff] at h
    simpa [Sl.cl, h.1, h.2] using this
theorem f33 (s : Sl UInt8) (hp : HL) (hl : s.l.length < 2 ^ 30) : Rn pg 33 [.d (.sl s.nn (s.l.map u8c))] hp (.d (.sl s.cl.nn (s.cl.l.map u8c))) hp := by
  cases h : !s.nn && (s.l.map u8c).isEmpty with
  | false =>
    have := w33_0 s hp h (all_len (f := u8c) (fun _ => rfl) _) (by simp [room_eq]; omega) (allDs_map _)
    have e : (true || !(s.l.map u8c).isEmpty) = s.cl.nn := by
      simp only [Sl.cl]
      revert h; cases s.nn <;> simp
    rw [e] at this
    exact this
  | true =>
    have := w33_1 s hp h
    simp only [Bool.and_eq_true, Bool.not_eq_true', List.isEmpty_iff, List.map_eq_nil_iff] at h
    simpa [Sl.cl, h.1, h.2] using this
def val0 : TVal := ⟨0, [], []⟩
def fstV (l : List TVal) : TVal := l.headD val0
def fstS (l : List (List UInt8)) : List UInt8 := l.headD []
theorem f50 (s : Sl TVal) (hp : HL) : Rn pg 50 [.d (.sl s.nn (s.l.map TVal.c))] hp (.d (.agg (fstV s.l).c)) hp := by
  obtain ⟨nn, l⟩ := s
  cases l with
  | nil => exact w50_0 ⟨nn, []⟩ hp (by simp)
  | cons x l => exact w50_1 ⟨nn, x :: l⟩ hp x (by simp) (by simp [TVal.c])
theorem f51 (s : Sl (List UInt8)) (hp : HL) : Rn pg 51 [.d (.sl s.nn (s.l.map strc))] hp (.d (.str (fstS s.l))) hp := by
  obtain ⟨nn, l⟩ := s
  cases l with
  | nil => exact w51_0 ⟨nn, []⟩ hp (by simp)
  | cons x l => exact w51_1 ⟨nn, x :: l⟩ hp x (by simp) (by simp [strc])
theorem f8 (s : Sl TRow) (hp : HL) : Rn pg 8 [.d (.sl s.nn (s.l.map TRow.c))] hp (.d (.bool (decide (s.l.length ≤ 300)))) hp := by
  have := w8_0 s hp
  have e : (decide ((((s.l.map TRow.c).length : Nat) : Int) ≤ 300)) = decide (s.l.length ≤ 300) := by simp; omega
  rw [e] at this
  exact this
end Go.Proofs.YtgmphfmoonbfpaaMv

set_option maxRecDepth 100000
namespace Go.Proofs.YtgmphfmoonbfpaaMv
open Go
theorem w11_0 (l : TLin) (hp : HL) (k1 : Nat) (x2 : TOpr)
    (c0 : ((((l.opers.l.map TOpr.c).length : Nat) : Int) == 0) = false)
    (c1 : (IntKind.i64.wrap ((((l.opers.l.map TOpr.c).length : Nat) : Int) - 1)) = ((k1 : Nat) : Int))
    (c2 : (l.opers.l.map TOpr.c)[k1]? = some [D.int .i64 x2.kind, D.int .i64 x2.r.n, D.bool x2.r.x, D.bool x2.r.sp, D.int .i64 x2.m.n, D.bool x2.m.x, D.bool x2.m.sp, D.int .i64 x2.md, D.int .i64 x2.amt, D.int .i64 x2.n, D.int .i64 x2.v.add, D.str x2.v.plus, D.str x2.v.minus, D.bool x2.lo, D.int .i64 x2.mode])
    (c3 : (x2.kind != 3) = false)
    (c4 : (x2.v.plus == ([])) = false)
    (c5 : (x2.v.plus == ([46])) = false)
    (c6 : (!(x2.v.minus == ([]))) = false)
    (c7 : (l.name == ([116, 98, 122])) = false)
    (c8 : (l.name == ([116, 98, 110, 122])) = false)
    (c9 : (l.name == ([99, 98, 122])) = false)
    (c10 : (l.name == ([99, 98, 110, 122])) = false)
    (c11 : Rn pg 30 [V.d (D.str l.name), V.d (D.str ([98, 46]))] ([]) (V.d (D.bool (hasPre l.name ([98, 46])))) ([]))
    (c12 : (hasPre l.name ([98, 46])) = false) :
    Rn pg 11 [V.d (D.agg [D.str l.name, D.sl l.opers.nn (l.opers.l.map TOpr.c)])] (hp) (V.tup [V.d (D.int .i64 0), V.d (D.int .i64 0), V.d (D.bool false)]) (hp) :=
  Rn.c (fn := i11) (ex := .ret) (st := ⟨[(2, V.d (D.int .i64 0)), (3, V.d (D.int .i64 0)), (4, V.d (D.bool false))], [] :: hp⟩) (hs := [.b false, .n k1, .ds [D.int .i64 x2.kind, D.int .i64 x2.r.n, D.bool x2.r.x, D.bool x2.r.sp, D.int .i64 x2.m.n, D.bool x2.m.x, D.bool x2.m.sp, D.int .i64 x2.md, D.int .i64 x2.amt, D.int .i64 x2.n, D.int .i64 x2.v.add, D.str x2.v.plus, D.str x2.v.minus, D.bool x2.lo, D.int .i64 x2.mode], .b false, .b false, .b false, .b false, .b false, .b false, .b false, .b false, .b false, .b false, .b false, .b false, .b false, .b false, .b false, .b false, .b false, .b false, .b false, .b false, .call (V.d (D.bool (hasPre l.name ([98, 46])))) ([]), .b false]) (cs := [_, _, _, _, _, _, _, _, _, _, _, _, _, _, _, _, _, _, _, _, _, _, _, _, _]) (rs := [V.d (D.int .i64 0), V.d (D.int .i64 0), V.d (D.bool false)]) (t := [])
    (by kernel_rfl) (by kernel_rfl) (by kernel_rfl) (by kernel_rfl) (by kernel_rfl) (by kernel_rfl) ⟨c0, c1, c2, c3, c3, c3, c3, c3, c4, c4, c4, c4, c4, c5, c5, c5, c5, c5, c6, c7, c8, c9, c10, c11, c12, trivial⟩
theorem w11_1 (l : TLin) (hp : HL) (k1 : Nat) (x2 : TOpr)
    (c0 : ((((l.opers.l.map TOpr.c).length : Nat) : Int) == 0) = false)
    (c1 : (IntKind.i64.wrap ((((l.opers.l.map TOpr.c).length : Nat) : Int) - 1)) = ((k1 : Nat) : Int))
    (c2 : (l.opers.l.map TOpr.c)[k1]? = some [D.int .i64 x2.kind, D.int .i64 x2.r.n, D.bool x2.r.x, D.bool x2.r.sp, D.int .i64 x2.m.n, D.bool x2.m.x, D.bool x2.m.sp, D.int .i64 x2.md, D.int .i64 x2.amt, D.int .i64 x2.n, D.int .i64 x2.v.add, D.str x2.v.plus, D.str x2.v.minus, D.bool x2.lo, D.int .i64 x2.mode])
    (c3 : (x2.kind != 3) = false)
    (c4 : (x2.v.plus == ([])) = false)
    (c5 : (x2.v.plus == ([46])) = false)
    (c6 : (!(x2.v.minus == ([]))) = false)
    (c7 : (l.name == ([116, 98, 122])) = false)
    (c8 : (l.name == ([116, 98, 110, 122])) = false)
    (c9 : (l.name == ([99, 98, 122])) = false)
    (c10 : (l.name == ([99, 98, 110, 122])) = false)
    (c11 : Rn pg 30 [V.d (D.str l.name), V.d (D.str ([98, 46]))] ([]) (V.d (D.bool (hasPre l.name ([98, 46])))) ([]))
    (c12 : (hasPre l.name ([98, 46])) = true) :
    Rn pg 11 [V.d (D.agg [D.str l.name, D.sl l.opers.nn (l.opers.l.map TOpr.c)])] (hp) (V.tup [V.d (D.int .i64 (-1048576)), V.d (D.int .i64 1048572), V.d (D.bool true)]) (hp) :=
  Rn.c (fn := i11) (ex := .ret) (st := ⟨[(2, V.d (D.int .i64 (-1048576))), (3, V.d (D.int .i64 1048572)), (4, V.d (D.bool true))], [] :: hp⟩) (hs := [.b false, .n k1, .ds [D.int .i64 x2.kind, D.int .i64 x2.r.n, D.bool x2.r.x, D.bool x2.r.sp, D.int .i64 x2.m.n, D.bool x2.m.x, D.bool x2.m.sp, D.int .i64 x2.md, D.int .i64 x2.amt, D.int .i64 x2.n, D.int .i64 x2.v.add, D.str x2.v.plus, D.str x2.v.minus, D.bool x2.lo, D.int .i64 x2.mode], .b false, .b false, .b false, .b false, .b false, .b false, .b false, .b false, .b false, .b false, .b false, .b false, .b false, .b false, .b false, .b false, .b false, .b false, .b false, .b false, .call (V.d (D.bool (hasPre l.name ([98, 46])))) ([]), .b true]) (cs := [_, _, _, _, _, _, _, _, _, _, _, _, _, _, _, _, _, _, _, _, _, _, _, _, _]) (rs := [V.d (D.int .i64 (-1048576)), V.d (D.int .i64 1048572), V.d (D.bool true)]) (t := [])
    (by kernel_rfl) (by kernel_rfl) (by kernel_rfl) (by kernel_rfl) (by kernel_rfl) (by kernel_rfl) ⟨c0, c1, c2, c3, c3, c3, c3, c3, c4, c4, c4, c4, c4, c5, c5, c5, c5, c5, c6, c7, c8, c9, c10, c11, c12, trivial⟩
theorem w11_2 (l : TLin) (hp : HL) (k1 : Nat) (x2 : TOpr)
    (c0 : ((((l.opers.l.map TOpr.c).length : Nat) : Int) == 0) = false)
    (c1 : (IntKind.i64.wrap ((((l.opers.l.map TOpr.c).length : Nat) : Int) - 1)) = ((k1 : Nat) : Int))
    (c2 : (l.opers.l.map TOpr.c)[k1]? = some [D.int .i64 x2.kind, D.int .i64 x2.r.n, D.bool x2.r.x, D.bool x2.r.sp, D.int .i64 x2.m.n, D.bool x2.m.x, D.bool x2.m.sp, D.int .i64 x2.md, D.int .i64 x2.amt, D.int .i64 x2.n, D.int .i64 x2.v.add, D.str x2.v.plus, D.str x2.v.minus, D.bool x2.lo, D.int .i64 x2.mode])
    (c3 : (x2.kind != 3) = false)
    (c4 : (x2.v.plus == ([])) = false)
    (c5 : (x2.v.plus == ([46])) = false)
    (c6 : (!(x2.v.minus == ([]))) = false)
    (c7 : (l.name == ([116, 98, 122])) = false)
    (c8 : (l.name == ([116, 98, 110, 122])) = false)
    (c9 : (l.name == ([99, 98, 122])) = false)
    (c10 : (l.name == ([99, 98, 110, 122])) = true) :
    Rn pg 11 [V.d (D.agg [D.str l.name, D.sl l.opers.nn (l.opers.l.map TOpr.c)])] (hp) (V.tup [V.d (D.int .i64 (-1048576)), V.d (D.int .i64 1048572), V.d (D.bool true)]) (hp) :=
  Rn.c (fn := i11) (ex := .ret) (st := ⟨[(2, V.d (D.int .i64 (-1048576))), (3, V.d (D.int .i64 1048572)), (4, V.d (D.bool true))], [] :: hp⟩) (hs := [.b false, .n k1, .ds [D.int .i64 x2.kind, D.int .i64 x2.r.n, D.bool x2.r.x, D.bool x2.r.sp, D.int .i64 x2.m.n, D.bool x2.m.x, D.bool x2.m.sp, D.int .i64 x2.md, D.int .i64 x2.amt, D.int .i64 x2.n, D.int .i64 x2.v.add, D.str x2.v.plus, D.str x2.v.minus, D.bool x2.lo, D.int .i64 x2.mode], .b false, .b false, .b false, .b false, .b false, .b false, .b false, .b false, .b false, .b false, .b false, .b false, .b false, .b false, .b false, .b false, .b false, .b false, .b false, .b true, .b true]) (cs := [_, _, _, _, _, _, _, _, _, _, _, _, _, _, _, _, _, _, _, _, _, _, _, _]) (rs := [V.d (D.int .i64 (-1048576)), V.d (D.int .i64 1048572), V.d (D.bool true)]) (t := [])
    (by kernel_rfl) (by kernel_rfl) (by kernel_rfl) (by kernel_rfl) (by kernel_rfl) (by kernel_rfl) ⟨c0, c1, c2, c3, c3, c3, c3, c3, c4, c4, c4, c4, c4, c5, c5, c5, c5, c5, c6, c7, c8, c9, c10, c10, trivial⟩
theorem w11_3 (l : TLin) (hp : HL) (k1 : Nat) (x2 : TOpr)
    (c0 : ((((l.opers.l.map TOpr.c).length : Nat) : Int) == 0) = false)
    (c1 : (IntKind.i64.wrap ((((l.opers.l.map TOpr.c).length : Nat) : Int) - 1)) = ((k1 : Nat) : Int))
    (c2 : (l.opers.l.map TOpr.c)[k1]? = some [D.int .i64 x2.kind, D.int .i64 x2.r.n, D.bool x2.r.x, D.bool x2.r.sp, D.int .i64 x2.m.n, D.bool x2.m.x, D.bool x2.m.sp, D.int .i64 x2.md, D.int .i64 x2.amt, D.int .i64 x2.n, D.int .i64 x2.v.add, D.str x2.v.plus, D.str x2.v.minus, D.bool x2.lo, D.int .i64 x2.mode])
    (c3 : (x2.kind != 3) = false)
    (c4 : (x2.v.plus == ([])) = false)
    (c5 : (x2.v.plus == ([46])) = false)
    (c6 : (!(x2.v.minus == ([]))) = false)
    (c7 : (l.name == ([116, 98, 122])) = false)
    (c8 : (l.name == ([116, 98, 110, 122])) = false)
    (c9 : (l.name == ([99, 98, 122])) = true) :
    Rn pg 11 [V.d (D.agg [D.str l.name, D.sl l.opers.nn (l.opers.l.map TOpr.c)])] (hp) (V.tup [V.d (D.int .i64 (-1048576)), V.d (D.int .i64 1048572), V.d (D.bool true)]) (hp) :=
  Rn.c (fn := i11) (ex := .ret) (st := ⟨[(2, V.d (D.int .i64 (-1048576))), (3, V.d (D.int .i64 1048572)), (4, V.d (D.bool true))], [] :: hp⟩) (hs := [.b false, .n k1, .ds [D.int .i64 x2.kind, D.int .i64 x2.r.n, D.bool x2.r.x, D.bool x2.r.sp, D.int .i64 x2.m.n, D.bool x2.m.x, D.bool x2.m.sp, D.int .i64 x2.md, D.int .i64 x2.amt, D.int .i64 x2.n, D.int .i64 x2.v.add, D.str x2.v.plus, D.str x2.v.minus, D.bool x2.lo, D.int .i64 x2.mode], .b false, .b false, .b false, .b false, .b false, .b false, .b false, .b false, .b false, .b false, .b false, .b false, .b false, .b false, .b false, .b false, .b false, .b false, .b true, .b true]) (cs := [_, _, _, _, _, _, _, _, _, _, _, _, _, _, _, _, _, _, _, _, _, _, _]) (rs := [V.d (D.int .i64 (-1048576)), V.d (D.int .i64 1048572), V.d (D.bool true)]) (t := [])
    (by kernel_rfl) (by kernel_rfl) (by kernel_rfl) (by kernel_rfl) (by kernel_rfl) (by kernel_rfl) ⟨c0, c1, c2, c3, c3, c3, c3, c3, c4, c4, c4, c4, c4, c5, c5, c5, c5, c5, c6, c7, c8, c9, c9, trivial⟩
theorem w11_4 (l : TLin) (hp : HL) (k1 : Nat) (x2 : TOpr)
    (c0 : ((((l.opers.l.map TOpr.c).length : Nat) : Int) == 0) = false)
    (c1 : (IntKind.i64.wrap ((((l.opers.l.map TOpr.c).length : Nat) : Int) - 1)) = ((k1 : Nat) : Int))
    (c2 : (l.opers.l.map TOpr.c)[k1]? = some [D.int .i64 x2.kind, D.int .i64 x2.r.n, D.bool x2.r.x, D.bool x2.r.sp, D.int .i64 x2.m.n, D.bool x2.m.x, D.bool x2.m.sp, D.int .i64 x2.md, D.int .i64 x2.amt, D.int .i64 x2.n, D.int .i64 x2.v.add, D.str x2.v.plus, D.str x2.v.minus, D.bool x2.lo, D.int .i64 x2.mode])
    (c3 : (x2.kind != 3) = false)
    (c4 : (x2.v.plus == ([])) = false)
    (c5 : (x2.v.plus == ([46])) = false)
    (c6 : (!(x2.v.minus == ([]))) = false)
    (c7 : (l.name == ([116, 98, 122])) = false)
    (c8 : (l.name == ([116, 98, 110, 122])) = true) :
    Rn pg 11 [V.d (D.agg [D.str l.name, D.sl l.opers.nn (l.opers.l.map TOpr.c)])] (hp) (V.tup [V.d (D.int .i64 (-32768)), V.d (D.int .i64 32764), V.d (D.bool true)]) (hp) :=
  Rn.c (fn := i11) (ex := .ret) (st := ⟨[(2, V.d (D.int .i64 (-32768))), (3, V.d (D.int .i64 32764)), (4, V.d (D.bool true))], [] :: hp⟩) (hs := [.b false, .n k1, .ds [D.int .i64 x2.kind, D.int .i64 x2.r.n, D.bool x2.r.x, D.bool x2.r.sp, D.int .i64 x2.m.n, D.bool x2.m.x, D.bool x2.m.sp, D.int .i64 x2.md, D.int .i64 x2.amt, D.int .i64 x2.n, D.int .i64 x2.v.add, D.str x2.v.plus, D.str x2.v.minus, D.bool x2.lo, D.int .i64 x2.mode], .b false, .b false, .b false, .b false, .b false, .b false, .b false, .b false, .b false, .b false, .b false, .b false, .b false, .b false, .b false, .b false, .b false, .b true]) (cs := [_, _, _, _, _, _, _, _, _, _, _, _, _, _, _, _, _, _, _, _, _]) (rs := [V.d (D.int .i64 (-32768)), V.d (D.int .i64 32764), V.d (D.bool true)]) (t := [])
    (by kernel_rfl) (by kernel_rfl) (by kernel_rfl) (by kernel_rfl) (by kernel_rfl) (by kernel_rfl) ⟨c0, c1, c2, c3, c3, c3, c3, c3, c4, c4, c4, c4, c4, c5, c5, c5, c5, c5, c6, c7, c8, trivial⟩
theorem w11_5 (l : TLin) (hp : HL) (k1 : Nat) (x2 : TOpr)
    (c0 : ((((l.opers.l.map TOpr.c).length : Nat) : Int) == 0) = false)
    (c1 : (IntKind.i64.wrap ((((l.opers.l.map TOpr.c).length : Nat) : Int) - 1)) = ((k1 : Nat) : Int))
    (c2 : (l.opers.l.map TOpr.c)[k1]? = some [D.int .i64 x2.kind, D.int .i64 x2.r.n, D.bool x2.r.x, D.bool x2.r.sp, D.int .i64 x2.m.n, D.bool x2.m.x, D.bool x2.m.sp, D.int .i64 x2.md, D.int .i64 x2.amt, D.int .i64 x2.n, D.int .i64 x2.v.add, D.str x2.v.plus, D.str x2.v.minus, D.bool x2.lo, D.int .i64 x2.mode])
    (c3 : (x2.kind != 3) = false)
    (c4 : (x2.v.plus == ([])) = false)
    (c5 : (x2.v.plus == ([46])) = false)
    (c6 : (!(x2.v.minus == ([]))) = false)
    (c7 : (l.name == ([116, 98, 122])) = true) :
    Rn pg 11 [V.d (D.agg [D.str l.name, D.sl l.opers.nn (l.opers.l.map TOpr.c)])] (hp) (V.tup [V.d (D.int .i64 (-32768)), V.d (D.int .i64 32764), V.d (D.bool true)]) (hp) :=
  Rn.c (fn := i11) (ex := .ret) (st := ⟨[(2, V.d (D.int .i64 (-32768))), (3, V.d (D.int .i64 32764)), (4, V.d (D.bool true))], [] :: hp⟩) (hs := [.b false, .n k1, .ds [D.int .i64 x2.kind, D.int .i64 x2.r.n, D.bool x2.r.x, D.bool x2.r.sp, D.int .i64 x2.m.n, D.bool x2.m.x, D.bool x2.m.sp, D.int .i64 x2.md, D.int .i64 x2.amt, D.int .i64 x2.n, D.int .i64 x2.v.add, D.str x2.v.plus, D.str x2.v.minus, D.bool x2.lo, D.int .i64 x2.mode], .b false, .b false, .b false, .b false, .b false, .b false, .b false, .b false, .b false, .b false, .b false, .b false, .b false, .b false, .b false, .b false, .b true, .b true]) (cs := [_, _, _, _, _, _, _, _, _, _, _, _, _, _, _, _, _, _, _, _, _]) (rs := [V.d (D.int .i64 (-32768)), V.d (D.int .i64 32764), V.d (D.bool true)]) (t := [])
    (by kernel_rfl) (by kernel_rfl) (by kernel_rfl) (by kernel_rfl) (by kernel_rfl) (by kernel_rfl) ⟨c0, c1, c2, c3, c3, c3, c3, c3, c4, c4, c4, c4, c4, c5, c5, c5, c5, c5, c6, c7, c7, trivial⟩
theorem w11_6 (l : TLin) (hp : HL) (k1 : Nat) (x2 : TOpr)
    (c0 : ((((l.opers.l.map TOpr.c).length : Nat) : Int) == 0) = false)
    (c1 : (IntKind.i64.wrap ((((l.opers.l.map TOpr.c).length : Nat) : Int) - 1)) = ((k1 : Nat) : Int))
    (c2 : (l.opers.l.map TOpr.c)[k1]? = some [D.int .i64 x2.kind, D.int .i64 x2.r.n, D.bool x2.r.x, D.bool x2.r.sp, D.int .i64 x2.m.n, D.bool x2.m.x, D.bool x2.m.sp, D.int .i64 x2.md, D.int .i64 x2.amt, D.int .i64 x2.n, D.int .i64 x2.v.add, D.str x2.v.plus, D.str x2.v.minus, D.bool x2.lo, D.int .i64 x2.mode])
    (c3 : (x2.kind != 3) = false)
    (c4 : (x2.v.plus == ([])) = false)
    (c5 : (x2.v.plus == ([46])) = false)
    (c6 : (!(x2.v.minus == ([]))) = true) :
    Rn pg 11 [V.d (D.agg [D.str l.name, D.sl l.opers.nn (l.opers.l.map TOpr.c)])] (hp) (V.tup [V.d (D.int .i64 0), V.d (D.int .i64 0), V.d (D.bool false)]) (hp) :=
  Rn.c (fn := i11) (ex := .ret) (st := ⟨[(2, V.d (D.int .i64 0)), (3, V.d (D.int .i64 0)), (4, V.d (D.bool false))], [] :: hp⟩) (hs := [.b false, .n k1, .ds [D.int .i64 x2.kind, D.int .i64 x2.r.n, D.bool x2.r.x, D.bool x2.r.sp, D.int .i64 x2.m.n, D.bool x2.m.x, D.bool x2.m.sp, D.int .i64 x2.md, D.int .i64 x2.amt, D.int .i64 x2.n, D.int .i64 x2.v.add, D.str x2.v.plus, D.str x2.v.minus, D.bool x2.lo, D.int .i64 x2.mode], .b false, .b false, .b false, .b false, .b false, .b false, .b false, .b false, .b false, .b false, .b false, .b false, .b false, .b false, .b false, .b true]) (cs := [_, _, _, _, _, _, _, _, _, _, _, _, _, _, _, _, _, _, _]) (rs := [V.d (D.int .i64 0), V.d (D.int .i64 0), V.d (D.bool false)]) (t := [])
    (by kernel_rfl) (by kernel_rfl) (by kernel_rfl) (by kernel_rfl) (by kernel_rfl) (by kernel_rfl) ⟨c0, c1, c2, c3, c3, c3, c3, c3, c4, c4, c4, c4, c4, c5, c5, c5, c5, c5, c6, trivial⟩
theorem w11_7 (l : TLin) (hp : HL) (k1 : Nat) (x2 : TOpr)
    (c0 : ((((l.opers.l.map TOpr.c).length : Nat) : Int) == 0) = false)
    (c1 : (IntKind.i64.wrap ((((l.opers.l.map TOpr.c).length : Nat) : Int) - 1)) = ((k1 : Nat) : Int))
    (c2 : (l.opers.l.map TOpr.c)[k1]? = some [D.int .i64 x2.kind, D.int .i64 x2.r.n, D.bool x2.r.x, D.bool x2.r.sp, D.int .i64 x2.m.n, D.bool x2.m.x, D.bool x2.m.sp, D.int .i64 x2.md, D.int .i64 x2.amt, D.int .i64 x2.n, D.int .i64 x2.v.add, D.str x2.v.plus, D.str x2.v.minus, D.bool x2.lo, D.int .i64 x2.mode])
    (c3 : (x2.kind != 3) = false)
    (c4 : (x2.v.plus == ([])) = false)
    (c5 : (x2.v.plus == ([46])) = true) :
    Rn pg 11 [V.d (D.agg [D.str l.name, D.sl l.opers.nn (l.opers.l.map TOpr.c)])] (hp) (V.tup [V.d (D.int .i64 0), V.d (D.int .i64 0), V.d (D.bool false)]) (hp) :=
  Rn.c (fn := i11) (ex := .ret) (st := ⟨[(2, V.d (D.int .i64 0)), (3, V.d (D.int .i64 0)), (4, V.d (D.bool false))], [] :: hp⟩) (hs := [.b false, .n k1, .ds [D.int .i64 x2.kind, D.int .i64 x2.r.n, D.bool x2.r.x, D.bool x2.r.sp, D.int .i64 x2.m.n, D.bool x2.m.x, D.bool x2.m.sp, D.int .i64 x2.md, D.int .i64 x2.amt, D.int .i64 x2.n, D.int .i64 x2.v.add, D.str x2.v.plus, D.str x2.v.minus, D.bool x2.lo, D.int .i64 x2.mode], .b false, .b false, .b false, .b false, .b false, .b false, .b false, .b false, .b false, .b false, .b true, .b true, .b true, .b true, .b true, .b true]) (cs := [_, _, _, _, _, _, _, _, _, _, _, _, _, _, _, _, _, _, true = true]) (rs := [V.d (D.int .i64 0), V.d (D.int .i64 0), V.d (D.bool false)]) (t := [])
    (by kernel_rfl) (by kernel_rfl) (by kernel_rfl) (by kernel_rfl) (by kernel_rfl) (by kernel_rfl) ⟨c0, c1, c2, c3, c3, c3, c3, c3, c4, c4, c4, c4, c4, c5, c5, c5, c5, c5, rfl, trivial⟩
theorem w11_8 (l : TLin) (hp : HL) (k1 : Nat) (x2 : TOpr)
    (c0 : ((((l.opers.l.map TOpr.c).length : Nat) : Int) == 0) = false)
    (c1 : (IntKind.i64.wrap ((((l.opers.l.map TOpr.c).length : Nat) : Int) - 1)) = ((k1 : Nat) : Int))
    (c2 : (l.opers.l.map TOpr.c)[k1]? = some [D.int .i64 x2.kind, D.int .i64 x2.r.n, D.bool x2.r.x, D.bool x2.r.sp, D.int .i64 x2.m.n, D.bool x2.m.x, D.bool x2.m.sp, D.int .i64 x2.md, D.int .i64 x2.amt, D.int .i64 x2.n, D.int .i64 x2.v.add, D.str x2.v.plus, D.str x2.v.minus, D.bool x2.lo, D.int .i64 x2.mode])
    (c3 : (x2.kind != 3) = false)
    (c4 : (x2.v.plus == ([])) = true) :
    Rn pg 11 [V.d (D.agg [D.str l.name, D.sl l.opers.nn (l.opers.l.map TOpr.c)])] (hp) (V.tup [V.d (D.int .i64 0), V.d (D.int .i64 0), V.d (D.bool false)]) (hp) :=
  Rn.c (fn := i11) (ex := .ret) (st := ⟨[(2, V.d (D.int .i64 0)), (3, V.d (D.int .i64 0)), (4, V.d (D.bool false))], [] :: hp⟩) (hs := [.b false, .n k1, .ds [D.int .i64 x2.kind, D.int .i64 x2.r.n, D.bool x2.r.x, D.bool x2.r.sp, D.int .i64 x2.m.n, D.bool x2.m.x, D.bool x2.m.sp, D.int .i64 x2.md, D.int .i64 x2.amt, D.int .i64 x2.n, D.int .i64 x2.v.add, D.str x2.v.plus, D.str x2.v.minus, D.bool x2.lo, D.int .i64 x2.mode], .b false, .b false, .b false, .b false, .b false, .b true, .b true, .b true, .b true, .b true, .b true, .b true, .b true, .b true, .b true, .b true]) (cs := [_, _, _, _, _, _, _, _, _, _, _, _, _, true = true, true = true, true = true, true = true, true = true, true = true]) (rs := [V.d (D.int .i64 0), V.d (D.int .i64 0), V.d (D.bool false)]) (t := [])
    (by kernel_rfl) (by kernel_rfl) (by kernel_rfl) (by kernel_rfl) (by kernel_rfl) (by kernel_rfl) ⟨c0, c1, c2, c3, c3, c3, c3, c3, c4, c4, c4, c4, c4, rfl, rfl, rfl, rfl, rfl, rfl, trivial⟩
theorem w11_9 (l : TLin) (hp : HL) (k1 : Nat) (x2 : TOpr)
    (c0 : ((((l.opers.l.map TOpr.c).length : Nat) : Int) == 0) = false)
    (c1 : (IntKind.i64.wrap ((((l.opers.l.map TOpr.c).length : Nat) : Int) - 1)) = ((k1 : Nat) : Int))
    (c2 : (l.opers.l.map TOpr.c)[k1]? = some [D.int .i64 x2.kind, D.int .i64 x2.r.n, D.bool x2.r.x, D.bool x2.r.sp, D.int .i64 x2.m.n, D.bool x2.m.x, D.bool x2.m.sp, D.int .i64 x2.md, D.int .i64 x2.amt, D.int .i64 x2.n, D.int .i64 x2.v.add, D.str x2.v.plus, D.str x2.v.minus, D.bool x2.lo, D.int .i64 x2.mode])
    (c3 : (x2.kind != 3) = true) :
    Rn pg 11 [V.d (D.agg [D.str l.name, D.sl l.opers.nn (l.opers.l.map TOpr.c)])] (hp) (V.tup [V.d (D.int .i64 0), V.d (D.int .i64 0), V.d (D.bool false)]) (hp) :=
  Rn.c (fn := i11) (ex := .ret) (st := ⟨[(2, V.d (D.int .i64 0)), (3, V.d (D.int .i64 0)), (4, V.d (D.bool false))], [] :: hp⟩) (hs := [.b false, .n k1, .ds [D.int .i64 x2.kind, D.int .i64 x2.r.n, D.bool x2.r.x, D.bool x2.r.sp, D.int .i64 x2.m.n, D.bool x2.m.x, D.bool x2.m.sp, D.int .i64 x2.md, D.int .i64 x2.amt, D.int .i64 x2.n, D.int .i64 x2.v.add, D.str x2.v.plus, D.str x2.v.minus, D.bool x2.lo, D.int .i64 x2.mode], .b true, .b true, .b true, .b true, .b true, .b true, .b true, .b true, .b true, .b true, .b true, .b true, .b true, .b true, .b true, .b true]) (cs := [_, _, _, _, _, _, _, _, true = true, true = true, true = true, true = true, true = true, true = true, true = true, true = true, true = true, true = true, true = true]) (rs := [V.d (D.int .i64 0), V.d (D.int .i64 0), V.d (D.bool false)]) (t := [])
    (by kernel_rfl) (by kernel_rfl) (by kernel_rfl) (by kernel_rfl) (by kernel_rfl) (by kernel_rfl) ⟨c0, c1, c2, c3, c3, c3, c3, c3, rfl, rfl, rfl, rfl, rfl, rfl, rfl, rfl, rfl, rfl, rfl, trivial⟩
theorem w11_10 (l : TLin) (hp : HL)
    (c0 : ((((l.opers.l.map TOpr.c).length : Nat) : Int) == 0) = true) :
    Rn pg 11 [V.d (D.agg [D.str l.name, D.sl l.opers.nn (l.opers.l.map TOpr.c)])] (hp) (V.tup [V.d (D.int .i64 0), V.d (D.int .i64 0), V.d (D.bool false)]) (hp) :=
  Rn.c (fn := i11) (ex := .ret) (st := ⟨[(2, V.d (D.int .i64 0)), (3, V.d (D.int .i64 0)), (4, V.d (D.bool false))], [] :: hp⟩) (hs := [.b true]) (cs := [_]) (rs := [V.d (D.int .i64 0), V.d (D.int .i64 0), V.d (D.bool false)]) (t := [])
    (by kernel_rfl) (by kernel_rfl) (by kernel_rfl) (by kernel_rfl) (by kernel_rfl) (by kernel_rfl) ⟨c0, trivial⟩
end Go.Proofs.YtgmphfmoonbfpaaMv

namespace Go.Proofs.YtgmphfmoonbfpaaMv
open Go
def growsV (l : TLin) : Int × Int × Bool :=
  match l.opers.l.getLast? with
  | none => (0, 0, false)
  | some o =>
    if o.kind != 3 || (o.v.plus == [] || (o.v.plus == [46] || o.v.minus != [])) then (0, 0, false)
    else if l.name == [116, 98, 122] || l.name == [116, 98, 110, 122] then (-32768, 32764, true)
    else if l.name == [99, 98, 122] || (l.name == [99, 98, 110, 122] || hasPre l.name [98, 46]) then (-1048576, 1048572, true)
    else (0, 0, false)
def growsR (l : TLin) : V := .tup [.d (.int .i64 (growsV l).1), .d (.int .i64 (growsV l).2.1), .d (.bool (growsV l).2.2)]
theorem last_get {α : Type} {l : List α} (h : l ≠ []) : l[l.length - 1]? = some (l.getLast h) := by
  rw [List.getLast_eq_getElem]; exact List.getElem?_eq_getElem _
theorem f11 (l : TLin) (hp : HL) (hl : l.opers.l.length < 2 ^ 30) : Rn pg 11 [.d (.agg l.c)] hp (growsR l) hp := by
  by_cases hne : l.opers.l = []
  · have r := w11_10 l hp (by simp [hne])
    have e : growsR l = V.tup [V.d (D.int .i64 0), V.d (D.int .i64 0), V.d (D.bool false)] := by simp [growsR, growsV, hne]
    rw [e]; exact r
  have hpos : 0 < l.opers.l.length := List.length_pos_iff.2 hne
  have h0 : ((((l.opers.l.map TOpr.c).length : Nat) : Int) == 0) = false := by simp; omega
  have hlast : l.opers.l.getLast? = some (l.opers.l.getLast hne) := List.getLast?_eq_some_getLast hne
  cases h1 : (l.opers.l.getLast hne).kind != 3 with
  | false =>
    cases h2 : (l.opers.l.getLast hne).v.plus == ([]) with
    | false =>
      cases h3 : (l.opers.l.getLast hne).v.plus == ([46]) with
      | false =>
        cases h4 : !((l.opers.l.getLast hne).v.minus == ([])) with
        | false =>
          cases h5 : l.name == ([116, 98, 122]) with
          | false =>
            cases h6 : l.name == ([116, 98, 110, 122]) with
            | false =>
              cases h7 : l.name == ([99, 98, 122]) with
              | false =>
                cases h8 : l.name == ([99, 98, 110, 122]) with
                | false =>
                  cases h9 : hasPre l.name ([98, 46]) with
                  | false =>
                    have r := w11_0 l hp (l.opers.l.length - 1) (l.opers.l.getLast hne) h0 (by rw [wrap64 (by simp; omega) (by simp; omega)]; simp; omega) (map_get (f := TOpr.c) (last_get hne)) h1 h2 h3 h4 h5 h6 h7 h8 (f30 _ _ []) h9
                    have e : growsR l = V.tup [V.d (D.int .i64 0), V.d (D.int .i64 0), V.d (D.bool false)] := by
                      clear r
                      rcases Nat.lt_or_ge l.name.length 2 with g | g
                      · have g' := Nat.not_le.2 g; first | (simp_all [growsR, growsV, hasPre]; done) | (exfalso; simp_all; omega) | (simp_all [growsR, growsV, hasPre]; rw [if_neg (fun hh => absurd hh.1 (by omega))]; simp)
                      · first | (simp_all [growsR, growsV, hasPre]; done) | (exfalso; simp_all; omega)
                    rw [e]; exact r
                  | true =>
                    have r := w11_1 l hp (l.opers.l.length - 1) (l.opers.l.getLast hne) h0 (by rw [wrap64 (by simp; omega) (by simp; omega)]; simp; omega) (map_get (f := TOpr.c) (last_get hne)) h1 h2 h3 h4 h5 h6 h7 h8 (f30 _ _ []) h9
                    have e : growsR l = V.tup [V.d (D.int .i64 (-1048576)), V.d (D.int .i64 1048572), V.d (D.bool true)] := by
                      clear r
                      rcases Nat.lt_or_ge l.name.length 2 with g | g
                      · have g' := Nat.not_le.2 g; first | (simp_all [growsR, growsV, hasPre]; done) | (exfalso; simp_all; omega) | (simp_all [growsR, growsV, hasPre]; rw [if_neg (fun hh => absurd hh.1 (by omega))]; simp)
                      · first | (simp_all [growsR, growsV, hasPre]; done) | (exfalso; simp_all; omega)
                    rw [e]; exact r
                | true =>
                  have r := w11_2 l hp (l.opers.l.length - 1) (l.opers.l.getLast hne) h0 (by rw [wrap64 (by simp; omega) (by simp; omega)]; simp; omega) (map_get (f := TOpr.c) (last_get hne)) h1 h2 h3 h4 h5 h6 h7 h8
                  have e : growsR l = V.tup [V.d (D.int .i64 (-1048576)), V.d (D.int .i64 1048572), V.d (D.bool true)] := by
                    clear r
                    rcases Nat.lt_or_ge l.name.length 2 with g | g
                    · have g' := Nat.not_le.2 g; first | (simp_all [growsR, growsV, hasPre]; done) | (exfalso; simp_all; omega) | (simp_all [growsR, growsV, hasPre]; rw [if_neg (fun hh => absurd hh.1 (by omega))]; simp)
                    · first | (simp_all [growsR, growsV, hasPre]; done) | (exfalso; simp_all; omega)
                  rw [e]; exact r
              | true =>
                have r := w11_3 l hp (l.opers.l.length - 1) (l.opers.l.getLast hne) h0 (by rw [wrap64 (by simp; omega) (by simp; omega)]; simp; omega) (map_get (f := TOpr.c) (last_get hne)) h1 h2 h3 h4 h5 h6 h7
                have e : growsR l = V.tup [V.d (D.int .i64 (-1048576)), V.d (D.int .i64 1048572), V.d (D.bool true)] := by
                  clear r
                  rcases Nat.lt_or_ge l.name.length 2 with g | g
                  · have g' := Nat.not_le.2 g; first | (simp_all [growsR, growsV, hasPre]; done) | (exfalso; simp_all; omega) | (simp_all [growsR, growsV, hasPre]; rw [if_neg (fun hh => absurd hh.1 (by omega))]; simp)
                  · first | (simp_all [growsR, growsV, hasPre]; done) | (exfalso; simp_all; omega)
                rw [e]; exact r
            | true =>
              have r := w11_4 l hp (l.opers.l.length - 1) (l.opers.l.getLast hne) h0 (by rw [wrap64 (by simp; omega) (by simp; omega)]; simp; omega) (map_get (f := TOpr.c) (last_get hne)) h1 h2 h3 h4 h5 h6
              have e : growsR l = V.tup [V.d (D.int .i64 (-32768)), V.d (D.int .i64 32764), V.d (D.bool true)] := by
                clear r
                rcases Nat.lt_or_ge l.name.length 2 with g | g
                · have g' := Nat.not_le.2 g; first | (simp_all [growsR, growsV, hasPre]; done) | (exfalso; simp_all; omega) | (simp_all [growsR, growsV, hasPre]; rw [if_neg (fun hh => absurd hh.1 (by omega))]; simp)
                · first | (simp_all [growsR, growsV, hasPre]; done) | (exfalso; simp_all; omega)
              rw [e]; exact r
          | true =>
            have r := w11_5 l hp (l.opers.l.length - 1) (l.opers.l.getLast hne) h0 (by rw [wrap64 (by simp; omega) (by simp; omega)]; simp; omega) (map_get (f := TOpr.c) (last_get hne)) h1 h2 h3 h4 h5
            have e : growsR l = V.tup [V.d (D.int .i64 (-32768)), V.d (D.int .i64 32764), V.d (D.bool true)] := by
              clear r
              rcases Nat.lt_or_ge l.name.length 2 with g | g
              · have g' := Nat.not_le.2 g; first | (simp_all [growsR, growsV, hasPre]; done) | (exfalso; simp_all; omega) | (simp_all [growsR, growsV, hasPre]; rw [if_neg (fun hh => absurd hh.1 (by omega))]; simp)
              · first | (simp_all [growsR, growsV, hasPre]; done) | (exfalso; simp_all; omega)
            rw [e]; exact r
        | true =>
          have r := w11_6 l hp (l.opers.l.length - 1) (l.opers.l.getLast hne) h0 (by rw [wrap64 (by simp; omega) (by simp; omega)]; simp; omega) (map_get (f := TOpr.c) (last_get hne)) h1 h2 h3 h4
          have e : growsR l = V.tup [V.d (D.int .i64 0), V.d (D.int .i64 0), V.d (D.bool false)] := by
            clear r
            rcases Nat.lt_or_ge l.name.length 2 with g | g
            · have g' := Nat.not_le.2 g; first | (simp_all [growsR, growsV, hasPre]; done) | (exfalso; simp_all; omega) | (simp_all [growsR, growsV, hasPre]; rw [if_neg (fun hh => absurd hh.1 (by omega))]; simp)
            · first | (simp_all [growsR, growsV, hasPre]; done) | (exfalso; simp_all; omega)
          rw [e]; exact r
      | true =>
        have r := w11_7 l hp (l.opers.l.length - 1) (l.opers.l.getLast hne) h0 (by rw [wrap64 (by simp; omega) (by simp; omega)]; simp; omega) (map_get (f := TOpr.c) (last_get hne)) h1 h2 h3
        have e : growsR l = V.tup [V.d (D.int .i64 0), V.d (D.int .i64 0), V.d (D.bool false)] := by
          clear r
          rcases Nat.lt_or_ge l.name.length 2 with g | g
          · have g' := Nat.not_le.2 g; first | (simp_all [growsR, growsV, hasPre]; done) | (exfalso; simp_all; omega) | (simp_all [growsR, growsV, hasPre]; rw [if_neg (fun hh => absurd hh.1 (by omega))]; simp)
          · first | (simp_all [growsR, growsV, hasPre]; done) | (exfalso; simp_all; omega)
        rw [e]; exact r
    | true =>
      have r := w11_8 l hp (l.opers.l.length - 1) (l.opers.l.getLast hne) h0 (by rw [wrap64 (by simp; omega) (by simp; omega)]; simp; omega) (map_get (f := TOpr.c) (last_get hne)) h1 h2
      have e : growsR l = V.tup [V.d (D.int .i64 0), V.d (D.int .i64 0), V.d (D.bool false)] := by
        clear r
        rcases Nat.lt_or_ge l.name.length 2 with g | g
        · have g' := Nat.not_le.2 g; first | (simp_all [growsR, growsV, hasPre]; done) | (exfalso; simp_all; omega) | (simp_all [growsR, growsV, hasPre]; rw [if_neg (fun hh => absurd hh.1 (by omega))]; simp)
        · first | (simp_all [growsR, growsV, hasPre]; done) | (exfalso; simp_all; omega)
      rw [e]; exact r
  | true =>
    have r := w11_9 l hp (l.opers.l.length - 1) (l.opers.l.getLast hne) h0 (by rw [wrap64 (by simp; omega) (by simp; omega)]; simp; omega) (map_get (f := TOpr.c) (last_get hne)) h1
    have e : growsR l = V.tup [V.d (D.int .i64 0), V.d (D.int .i64 0), V.d (D.bool false)] := by
      clear r
      rcases Nat.lt_or_ge l.name.length 2 with g | g
      · have g' := Nat.not_le.2 g; first | (simp_all [growsR, growsV, hasPre]; done) | (exfalso; simp_all; omega) | (simp_all [growsR, growsV, hasPre]; rw [if_neg (fun hh => absurd hh.1 (by omega))]; simp)
      · first | (simp_all [growsR, growsV, hasPre]; done) | (exfalso; simp_all; omega)
    rw [e]; exact r
end Go.Proofs.YtgmphfmoonbfpaaMv

namespace Go.Proofs.YtgmphfmoonbfpaaMv
open Go
structure OPrt where
  name : List UInt8
  file : Int
  line : Int
  pieces : List TPce
  deriving DecidableEq, Inhabited
def OPrt.oc (p : OPrt) : List C := [C.d (D.str p.name), C.d (D.int .i64 p.file), C.d (D.int .i64 p.line), C.own 11 false (p.pieces.map TPce.oc)]
def OPrt.t (p : OPrt) : TPrt := ⟨p.name, p.file, p.line, ⟨false, p.pieces⟩⟩
def atGo : Nat → List OPrt → List (D × D)
  | _, [] => []
  | i, p :: r => (D.str p.name, D.int .i64 (i : Int)) :: atGo (i + 1) r
def atOf (ps : List OPrt) : List (D × D) := atGo 0 ps
def idxGo (nm : List UInt8) : Nat → List OPrt → Option Nat
  | _, [] => none
  | i, p :: r => if nm == p.name then some i else idxGo nm (i + 1) r
theorem find_at (nm : List UInt8) : ∀ (ps : List OPrt) (i : Nat), findD false [2] (D.str nm) (atGo i ps) = some ((idxGo nm i ps).map fun k => D.int .i64 ((k : Nat) : Int))
  | [], i => rfl
  | p :: r, i => by
    simp only [atGo, findD, idxGo, deqT, Bool.false_eq_true, if_false, deqK]
    cases h : nm == p.name with
    | true => simp
    | false => simpa using find_at nm r (i + 1)
theorem put_at (q : OPrt) : ∀ (ps : List OPrt) (i : Nat), idxGo q.name i ps = none → putD false [2] (D.str q.name) (D.int .i64 ((i + ps.length : Nat) : Int)) (atGo i ps) = some (atGo i (ps ++ [q]))
  | [], i, _ => by simp [atGo, putD]
  | p :: r, i, hn => by
    simp only [idxGo] at hn
    cases h : q.name == p.name with
    | true => simp [h] at hn
    | false =>
      simp only [h, Bool.false_eq_true, if_false] at hn
      have := put_at q r (i + 1) hn
      rw [show i + 1 + r.length = i + (p :: r).length by rw [List.length_cons]; omega] at this
      simp only [atGo, putD, deqT, Bool.false_eq_true, if_false, deqK, h, Option.bind_some, this, Option.map_some, List.cons_append]
theorem idxGo_lt (nm : List UInt8) : ∀ (ps : List OPrt) (i k : Nat), idxGo nm i ps = some k → i ≤ k ∧ k < i + ps.length ∧ ∃ p, ps[k - i]? = some p ∧ p.name = nm
  | [], i, k, h => by simp [idxGo] at h
  | p :: r, i, k, h => by
    simp only [idxGo] at h
    split at h
    · rename_i hp
      simp only [Option.some.injEq] at h
      subst h
      exact ⟨Nat.le_refl _, by rw [List.length_cons]; omega, p, by simp, (show nm = p.name by simpa using hp).symm⟩
    · obtain ⟨h1, h2, q, h3, h4⟩ := idxGo_lt nm r (i + 1) k h
      refine ⟨by omega, by simp; omega, q, ?_, h4⟩
      rw [show k - i = (k - (i + 1)) + 1 by omega]
      simpa using h3
structure Ms where
  parts : List OPrt
  marks : List TMrk
  globals : List TTld
  faults : List TFlt
  file : Int
  line : Int
  name : List UInt8
  deriving DecidableEq, Inhabited
def Ms.obF (m : Ms) : Ob := Ob.row true 8 true [[C.own 4 false (m.parts.map OPrt.oc), C.own 9 false (m.marks.map TMrk.oc), C.own 3 false (m.globals.map TTld.oc), C.mp (atOf m.parts), C.own 3 false (m.faults.map TFlt.oc), C.d (D.int .i64 m.file), C.d (D.int .i64 m.line), C.d (D.str m.name)]]
def Ms.new (m : Ms) : OPrt := ⟨m.name, m.file, m.line, []⟩
def Ms.idx (m : Ms) : Option Nat := idxGo m.name 0 m.parts
def Ms.partM (m : Ms) : Ms := match m.idx with
  | some _ => m
  | none => { m with parts := m.parts ++ [m.new] }
def Ms.partI (m : Ms) : Nat := m.idx.getD m.parts.length
def Ms.failsM (m : Ms) (e : Int) : Ms := { m with faults := m.faults ++ [⟨m.file, m.line, e⟩] }
def Ms.plen (m : Ms) : Nat := ((m.partM.parts[m.partI]?).map (·.pieces.length)).getD 0
def Ms.markM (m : Ms) (name : List UInt8) (equ : Bool) (v : TVal) : Ms :=
  if 255 < name.length then m.failsM 3 else { m.partM with marks := m.marks ++ [⟨name, m.file, m.line, (m.partI : Int), (m.plen : Int), equ, v⟩] }
def OPrt.add (p : OPrt) (x : TPce) : OPrt := { p with pieces := p.pieces ++ [x] }
def Ms.putM (m : Ms) (x : TPce) (bad : Bool) : Ms :=
  if bad && kindOf m.name == 4 then m.failsM 150 else { m.partM with parts := m.partM.parts.modify m.partI (·.add { x with file := m.file, line := m.line }) }
def Ms.tellM (m : Ms) (name : List UInt8) : Ms :=
  if 255 < name.length then m.failsM 3 else { m with globals := m.globals ++ [⟨name, m.file, m.line⟩] }
theorem Ms.partM_eq (m : Ms) : m.partM = { m with parts := m.partM.parts } := by
  unfold Ms.partM
  cases m.idx <;> rfl
theorem Ms.partI_lt (m : Ms) : m.partI < m.partM.parts.length := by
  unfold Ms.partI Ms.partM
  cases h : m.idx with
  | none => simp
  | some k =>
    obtain ⟨_, h2, _⟩ := idxGo_lt _ _ _ _ h
    simpa using h2
def Ms.thePart (m : Ms) : OPrt := m.partM.parts[m.partI]'(m.partI_lt)
theorem Ms.thePart_get (m : Ms) : m.partM.parts[m.partI]? = some m.thePart := List.getElem?_eq_getElem _
theorem Ms.plen_eq (m : Ms) : m.plen = m.thePart.pieces.length := by simp [Ms.plen, m.thePart_get]
structure Ms.le (m : Ms) (k : Nat) : Prop where
  parts : m.parts.length ≤ k
  marks : m.marks.length ≤ k
  globals : m.globals.length ≤ k
  faults : m.faults.length ≤ k
  pieces : ∀ p ∈ m.parts, p.pieces.length ≤ k
theorem Ms.le.mono {m : Ms} {k k' : Nat} (h : m.le k) (hk : k ≤ k') : m.le k' :=
  ⟨Nat.le_trans h.parts hk, Nat.le_trans h.marks hk, Nat.le_trans h.globals hk, Nat.le_trans h.faults hk, fun p hp => Nat.le_trans (h.pieces p hp) hk⟩
theorem Ms.le_fails {m : Ms} {k : Nat} (h : m.le k) (e : Int) : (m.failsM e).le (k + 1) :=
  ⟨Nat.le_succ_of_le h.parts, Nat.le_succ_of_le h.marks, Nat.le_succ_of_le h.globals, by simp [Ms.failsM, h.faults], fun p hp => Nat.le_succ_of_le (h.pieces p hp)⟩
theorem Ms.le_part {m : Ms} {k : Nat} (h : m.le k) : m.partM.le (k + 1) := by
  unfold Ms.partM
  cases m.idx with
  | some _ => exact h.mono (Nat.le_succ _)
  | none =>
    refine ⟨by simp [h.parts], Nat.le_succ_of_le h.marks, Nat.le_succ_of_le h.globals, Nat.le_succ_of_le h.faults, fun p hp => ?_⟩
    simp only [List.mem_append, List.mem_singleton] at hp
    rcases hp with hp | rfl
    · exact Nat.le_succ_of_le (h.pieces p hp)
    · simp [Ms.new]
theorem Ms.le_mark {m : Ms} {k : Nat} (h : m.le k) (name : List UInt8) (equ : Bool) (v : TVal) : (m.markM name equ v).le (k + 1) := by
  unfold Ms.markM
  split
  · exact m.le_fails h 3
  · have hp := m.le_part h
    exact ⟨hp.parts, by simp [h.marks], hp.globals, hp.faults, hp.pieces⟩
theorem Ms.le_put {m : Ms} {k : Nat} (h : m.le k) (x : TPce) (bad : Bool) : (m.putM x bad).le (k + 2) := by
  unfold Ms.putM
  split
  · exact (m.le_fails h 150).mono (by omega)
  · have hp := m.le_part h
    refine ⟨by simp; exact Nat.le_succ_of_le hp.parts, Nat.le_succ_of_le hp.marks, Nat.le_succ_of_le hp.globals, Nat.le_succ_of_le hp.faults, fun p hpm => ?_⟩
    obtain ⟨i, hi, rfl⟩ := List.mem_iff_getElem.1 hpm
    simp only [List.length_modify] at hi
    have hi2 : m.partM.parts[i].pieces.length ≤ k + 1 := hp.pieces _ (List.getElem_mem _)
    simp only [List.getElem_modify]
    split
    · simp [OPrt.add]; omega
    · omega
theorem Ms.le_tell {m : Ms} {k : Nat} (h : m.le k) (name : List UInt8) : (m.tellM name).le (k + 1) := by
  unfold Ms.tellM
  split
  · exact m.le_fails h 3
  · exact ⟨Nat.le_succ_of_le h.parts, Nat.le_succ_of_le h.marks, by simp [h.globals], Nat.le_succ_of_le h.faults, fun p hp => Nat.le_succ_of_le (h.pieces p hp)⟩
end Go.Proofs.YtgmphfmoonbfpaaMv

set_option maxRecDepth 100000
namespace Go.Proofs.YtgmphfmoonbfpaaMv
open Go
theorem w32_0 (l : TLin) (hp : HL)
    (c0 : Rn pg 59 [V.d (D.sl l.opers.nn (l.opers.l.map TOpr.c))] ([]) (V.d (D.sl l.opers.cl.nn (l.opers.cl.l.map TOpr.c))) ([])) :
    Rn pg 32 [V.d (D.agg [D.str l.name, D.sl l.opers.nn (l.opers.l.map TOpr.c)])] (hp) (V.d (D.agg [D.str l.name, D.sl l.opers.cl.nn (l.opers.cl.l.map TOpr.c)])) (hp) :=
  Rn.c (fn := i32) (ex := .ret) (st := ⟨[(2, V.ptr 0 2 [] 0 0)], [(2, Ob.row true 2 true [[C.d (D.str l.name), C.d (D.sl l.opers.cl.nn (l.opers.cl.l.map TOpr.c))]])] :: hp⟩) (hs := [.call (V.d (D.sl l.opers.cl.nn (l.opers.cl.l.map TOpr.c))) ([])]) (cs := [_]) (rs := [V.d (D.agg [D.str l.name, D.sl l.opers.cl.nn (l.opers.cl.l.map TOpr.c)])]) (t := [(2, Ob.row true 2 true [[C.d (D.str l.name), C.d (D.sl l.opers.cl.nn (l.opers.cl.l.map TOpr.c))]])])
    (by kernel_rfl) (by kernel_rfl) (by kernel_rfl) (by kernel_rfl) (by kernel_rfl) (by kernel_rfl) ⟨c0, trivial⟩
theorem w47_u1_0 (m : Ms) (oa : Ob) (ob : Ob) (ta : List (Nat × Ob)) (e : Int) (hp : HL)
    (c0 : List.all [[D.int .i64 m.file, D.int .i64 m.line, D.int .i64 e]] (fun x => x.length == 3) = true)
    (c1 : (((m.faults.map TFlt.oc).length) + 1) * 24 ≤ room)
    (c2 : ((m.faults.map TFlt.oc) ++ [[C.d (D.int .i64 m.file), C.d (D.int .i64 m.line), C.d (D.int .i64 e)]]).length = (((m.faults.map TFlt.oc).length) + 1)) :
    Rn pg 47 [V.ptr 1 14 [] 0 0, V.d (D.int .i64 e)] (ta :: [(4, oa), (8, ob), (14, Ob.row true 8 true [[C.own 4 false (m.parts.map OPrt.oc), C.own 9 false (m.marks.map TMrk.oc), C.own 3 false (m.globals.map TTld.oc), C.mp (atOf m.parts), C.own 3 false (m.faults.map TFlt.oc), C.d (D.int .i64 m.file), C.d (D.int .i64 m.line), C.d (D.str m.name)]])] :: hp) (V.tup []) (ta :: [(4, oa), (8, ob), (14, Ob.row true 8 true [[C.own 4 false (m.parts.map OPrt.oc), C.own 9 false (m.marks.map TMrk.oc), C.own 3 false (m.globals.map TTld.oc), C.mp (atOf m.parts), C.own 3 false ((m.faults.map TFlt.oc) ++ [[C.d (D.int .i64 m.file), C.d (D.int .i64 m.line), C.d (D.int .i64 e)]]), C.d (D.int .i64 m.file), C.d (D.int .i64 m.line), C.d (D.str m.name)]])] :: hp) :=
  Rn.c (fn := i47) (ex := .normal) (st := ⟨[], [] :: ta :: [(4, oa), (8, ob), (14, Ob.row true 8 true [[C.own 4 false (m.parts.map OPrt.oc), C.own 9 false (m.marks.map TMrk.oc), C.own 3 false (m.globals.map TTld.oc), C.mp (atOf m.parts), C.own 3 false ((m.faults.map TFlt.oc) ++ [[C.d (D.int .i64 m.file), C.d (D.int .i64 m.line), C.d (D.int .i64 e)]]), C.d (D.int .i64 m.file), C.d (D.int .i64 m.line), C.d (D.str m.name)]])] :: hp⟩) (hs := []) (cs := [_, ((m.faults.map TFlt.oc).length) = (m.faults.map TFlt.oc).length, _, _]) (rs := []) (t := [])
    (by kernel_rfl) (by kernel_rfl) (by kernel_rfl) (by kernel_rfl) (by kernel_rfl) (by kernel_rfl) ⟨c0, rfl, c1, c2, trivial⟩
theorem w48_u1_0 (m : Ms) (oa : Ob) (ob : Ob) (ta : List (Nat × Ob)) (hp : HL) (es1 : List (D × D))
    (c0 : findD false [2] (D.str m.name) (atOf m.parts) = some none)
    (c1 : (findD false [2] (D.str m.name) (atOf m.parts)).isSome = true)
    (c2 : putD false [2] (D.str m.name) (D.int .i64 (((m.parts.map OPrt.oc).length : Nat) : Int)) (atOf m.parts) = some es1)
    (c3 : List.all [[D.str m.name, D.int .i64 m.file, D.int .i64 m.line, D.sl false []]] (fun x => x.length == 4) = true)
    (c4 : (((m.parts.map OPrt.oc).length) + 1) * 56 ≤ room)
    (c5 : ((m.parts.map OPrt.oc) ++ [[C.d (D.str m.name), C.d (D.int .i64 m.file), C.d (D.int .i64 m.line), C.own 11 false []]]).length = (((m.parts.map OPrt.oc).length) + 1))
    (c6 : ((m.parts.map OPrt.oc).length) < (((m.parts.map OPrt.oc) ++ [[C.d (D.str m.name), C.d (D.int .i64 m.file), C.d (D.int .i64 m.line), C.own 11 false []]]).length)) :
    Rn pg 48 [V.ptr 1 14 [] 0 0] (ta :: [(4, oa), (8, ob), (14, Ob.row true 8 true [[C.own 4 false (m.parts.map OPrt.oc), C.own 9 false (m.marks.map TMrk.oc), C.own 3 false (m.globals.map TTld.oc), C.mp (atOf m.parts), C.own 3 false (m.faults.map TFlt.oc), C.d (D.int .i64 m.file), C.d (D.int .i64 m.line), C.d (D.str m.name)]])] :: hp) (V.tup [V.ptr 1 14 [(0, 0)] ((m.parts.map OPrt.oc).length) 0, V.d (D.int .i64 (((m.parts.map OPrt.oc).length : Nat) : Int))]) (ta :: [(4, oa), (8, ob), (14, Ob.row true 8 true [[C.own 4 false ((m.parts.map OPrt.oc) ++ [[C.d (D.str m.name), C.d (D.int .i64 m.file), C.d (D.int .i64 m.line), C.own 11 false []]]), C.own 9 false (m.marks.map TMrk.oc), C.own 3 false (m.globals.map TTld.oc), C.mp es1, C.own 3 false (m.faults.map TFlt.oc), C.d (D.int .i64 m.file), C.d (D.int .i64 m.line), C.d (D.str m.name)]])] :: hp) :=
  Rn.c (fn := i48) (ex := .ret) (st := ⟨[(2, V.ptr 2 14 [(0, 0)] ((m.parts.map OPrt.oc).length) 0), (3, V.d (D.int .i64 (((m.parts.map OPrt.oc).length : Nat) : Int)))], [] :: ta :: [(4, oa), (8, ob), (14, Ob.row true 8 true [[C.own 4 false ((m.parts.map OPrt.oc) ++ [[C.d (D.str m.name), C.d (D.int .i64 m.file), C.d (D.int .i64 m.line), C.own 11 false []]]), C.own 9 false (m.marks.map TMrk.oc), C.own 3 false (m.globals.map TTld.oc), C.mp es1, C.own 3 false (m.faults.map TFlt.oc), C.d (D.int .i64 m.file), C.d (D.int .i64 m.line), C.d (D.str m.name)]])] :: hp⟩) (hs := [.o none, .b true, .es es1, .n ((m.parts.map OPrt.oc).length)]) (cs := [_, true = true, _, _, _, ((m.parts.map OPrt.oc).length) = (m.parts.map OPrt.oc).length, _, _, (((m.parts.map OPrt.oc).length : Nat) : Int) = (((m.parts.map OPrt.oc).length : Nat) : Int), _]) (rs := [V.ptr 1 14 [(0, 0)] ((m.parts.map OPrt.oc).length) 0, V.d (D.int .i64 (((m.parts.map OPrt.oc).length : Nat) : Int))]) (t := [])
    (by kernel_rfl) (by kernel_rfl) (by kernel_rfl) (by kernel_rfl) (by kernel_rfl) (by kernel_rfl) ⟨c0, rfl, c1, c2, c3, rfl, c4, c5, rfl, c6, trivial⟩
theorem w48_u1_1 (m : Ms) (oa : Ob) (ob : Ob) (ta : List (Nat × Ob)) (hp : HL) (i1 : Nat)
    (c0 : findD false [2] (D.str m.name) (atOf m.parts) = some (some (D.int .i64 ((i1 : Nat) : Int))))
    (c1 : i1 < ((m.parts.map OPrt.oc).length)) :
    Rn pg 48 [V.ptr 1 14 [] 0 0] (ta :: [(4, oa), (8, ob), (14, Ob.row true 8 true [[C.own 4 false (m.parts.map OPrt.oc), C.own 9 false (m.marks.map TMrk.oc), C.own 3 false (m.globals.map TTld.oc), C.mp (atOf m.parts), C.own 3 false (m.faults.map TFlt.oc), C.d (D.int .i64 m.file), C.d (D.int .i64 m.line), C.d (D.str m.name)]])] :: hp) (V.tup [V.ptr 1 14 [(0, 0)] i1 0, V.d (D.int .i64 ((i1 : Nat) : Int))]) (ta :: [(4, oa), (8, ob), (14, Ob.row true 8 true [[C.own 4 false (m.parts.map OPrt.oc), C.own 9 false (m.marks.map TMrk.oc), C.own 3 false (m.globals.map TTld.oc), C.mp (atOf m.parts), C.own 3 false (m.faults.map TFlt.oc), C.d (D.int .i64 m.file), C.d (D.int .i64 m.line), C.d (D.str m.name)]])] :: hp) :=
  Rn.c (fn := i48) (ex := .ret) (st := ⟨[(2, V.ptr 2 14 [(0, 0)] i1 0), (3, V.d (D.int .i64 ((i1 : Nat) : Int)))], [] :: ta :: [(4, oa), (8, ob), (14, Ob.row true 8 true [[C.own 4 false (m.parts.map OPrt.oc), C.own 9 false (m.marks.map TMrk.oc), C.own 3 false (m.globals.map TTld.oc), C.mp (atOf m.parts), C.own 3 false (m.faults.map TFlt.oc), C.d (D.int .i64 m.file), C.d (D.int .i64 m.line), C.d (D.str m.name)]])] :: hp⟩) (hs := [.o (some (D.int .i64 ((i1 : Nat) : Int))), .b false, .n i1]) (cs := [_, false = false, ((i1 : Nat) : Int) = ((i1 : Nat) : Int), _]) (rs := [V.ptr 1 14 [(0, 0)] i1 0, V.d (D.int .i64 ((i1 : Nat) : Int))]) (t := [])
    (by kernel_rfl) (by kernel_rfl) (by kernel_rfl) (by kernel_rfl) (by kernel_rfl) (by kernel_rfl) ⟨c0, rfl, rfl, c1, trivial⟩
theorem w47_u2_0 (m : Ms) (oa : Ob) (ob : Ob) (ta : List (Nat × Ob)) (tb : List (Nat × Ob)) (e : Int) (hp : HL)
    (c0 : List.all [[D.int .i64 m.file, D.int .i64 m.line, D.int .i64 e]] (fun x => x.length == 3) = true)
    (c1 : (((m.faults.map TFlt.oc).length) + 1) * 24 ≤ room)
    (c2 : ((m.faults.map TFlt.oc) ++ [[C.d (D.int .i64 m.file), C.d (D.int .i64 m.line), C.d (D.int .i64 e)]]).length = (((m.faults.map TFlt.oc).length) + 1)) :
    Rn pg 47 [V.ptr 2 14 [] 0 0, V.d (D.int .i64 e)] (ta :: tb :: [(4, oa), (8, ob), (14, Ob.row true 8 true [[C.own 4 false (m.parts.map OPrt.oc), C.own 9 false (m.marks.map TMrk.oc), C.own 3 false (m.globals.map TTld.oc), C.mp (atOf m.parts), C.own 3 false (m.faults.map TFlt.oc), C.d (D.int .i64 m.file), C.d (D.int .i64 m.line), C.d (D.str m.name)]])] :: hp) (V.tup []) (ta :: tb :: [(4, oa), (8, ob), (14, Ob.row true 8 true [[C.own 4 false (m.parts.map OPrt.oc), C.own 9 false (m.marks.map TMrk.oc), C.own 3 false (m.globals.map TTld.oc), C.mp (atOf m.parts), C.own 3 false ((m.faults.map TFlt.oc) ++ [[C.d (D.int .i64 m.file), C.d (D.int .i64 m.line), C.d (D.int .i64 e)]]), C.d (D.int .i64 m.file), C.d (D.int .i64 m.line), C.d (D.str m.name)]])] :: hp) :=
  Rn.c (fn := i47) (ex := .normal) (st := ⟨[], [] :: ta :: tb :: [(4, oa), (8, ob), (14, Ob.row true 8 true [[C.own 4 false (m.parts.map OPrt.oc), C.own 9 false (m.marks.map TMrk.oc), C.own 3 false (m.globals.map TTld.oc), C.mp (atOf m.parts), C.own 3 false ((m.faults.map TFlt.oc) ++ [[C.d (D.int .i64 m.file), C.d (D.int .i64 m.line), C.d (D.int .i64 e)]]), C.d (D.int .i64 m.file), C.d (D.int .i64 m.line), C.d (D.str m.name)]])] :: hp⟩) (hs := []) (cs := [_, ((m.faults.map TFlt.oc).length) = (m.faults.map TFlt.oc).length, _, _]) (rs := []) (t := [])
    (by kernel_rfl) (by kernel_rfl) (by kernel_rfl) (by kernel_rfl) (by kernel_rfl) (by kernel_rfl) ⟨c0, rfl, c1, c2, trivial⟩
theorem w48_u2_0 (m : Ms) (oa : Ob) (ob : Ob) (ta : List (Nat × Ob)) (tb : List (Nat × Ob)) (hp : HL) (es1 : List (D × D))
    (c0 : findD false [2] (D.str m.name) (atOf m.parts) = some none)
    (c1 : (findD false [2] (D.str m.name) (atOf m.parts)).isSome = true)
    (c2 : putD false [2] (D.str m.name) (D.int .i64 (((m.parts.map OPrt.oc).length : Nat) : Int)) (atOf m.parts) = some es1)
    (c3 : List.all [[D.str m.name, D.int .i64 m.file, D.int .i64 m.line, D.sl false []]] (fun x => x.length == 4) = true)
    (c4 : (((m.parts.map OPrt.oc).length) + 1) * 56 ≤ room)
    (c5 : ((m.parts.map OPrt.oc) ++ [[C.d (D.str m.name), C.d (D.int .i64 m.file), C.d (D.int .i64 m.line), C.own 11 false []]]).length = (((m.parts.map OPrt.oc).length) + 1))
    (c6 : ((m.parts.map OPrt.oc).length) < (((m.parts.map OPrt.oc) ++ [[C.d (D.str m.name), C.d (D.int .i64 m.file), C.d (D.int .i64 m.line), C.own 11 false []]]).length)) :
    Rn pg 48 [V.ptr 2 14 [] 0 0] (ta :: tb :: [(4, oa), (8, ob), (14, Ob.row true 8 true [[C.own 4 false (m.parts.map OPrt.oc), C.own 9 false (m.marks.map TMrk.oc), C.own 3 false (m.globals.map TTld.oc), C.mp (atOf m.parts), C.own 3 false (m.faults.map TFlt.oc), C.d (D.int .i64 m.file), C.d (D.int .i64 m.line), C.d (D.str m.name)]])] :: hp) (V.tup [V.ptr 2 14 [(0, 0)] ((m.parts.map OPrt.oc).length) 0, V.d (D.int .i64 (((m.parts.map OPrt.oc).length : Nat) : Int))]) (ta :: tb :: [(4, oa), (8, ob), (14, Ob.row true 8 true [[C.own 4 false ((m.parts.map OPrt.oc) ++ [[C.d (D.str m.name), C.d (D.int .i64 m.file), C.d (D.int .i64 m.line), C.own 11 false []]]), C.own 9 false (m.marks.map TMrk.oc), C.own 3 false (m.globals.map TTld.oc), C.mp es1, C.own 3 false (m.faults.map TFlt.oc), C.d (D.int .i64 m.file), C.d (D.int .i64 m.line), C.d (D.str m.name)]])] :: hp) :=
  Rn.c (fn := i48) (ex := .ret) (st := ⟨[(2, V.ptr 3 14 [(0, 0)] ((m.parts.map OPrt.oc).length) 0), (3, V.d (D.int .i64 (((m.parts.map OPrt.oc).length : Nat) : Int)))], [] :: ta :: tb :: [(4, oa), (8, ob), (14, Ob.row true 8 true [[C.own 4 false ((m.parts.map OPrt.oc) ++ [[C.d (D.str m.name), C.d (D.int .i64 m.file), C.d (D.int .i64 m.line), C.own 11 false []]]), C.own 9 false (m.marks.map TMrk.oc), C.own 3 false (m.globals.map TTld.oc), C.mp es1, C.own 3 false (m.faults.map TFlt.oc), C.d (D.int .i64 m.file), C.d (D.int .i64 m.line), C.d (D.str m.name)]])] :: hp⟩) (hs := [.o none, .b true, .es es1, .n ((m.parts.map OPrt.oc).length)]) (cs := [_, true = true, _, _, _, ((m.parts.map OPrt.oc).length) = (m.parts.map OPrt.oc).length, _, _, (((m.parts.map OPrt.oc).length : Nat) : Int) = (((m.parts.map OPrt.oc).length : Nat) : Int), _]) (rs := [V.ptr 2 14 [(0, 0)] ((m.parts.map OPrt.oc).length) 0, V.d (D.int .i64 (((m.parts.map OPrt.oc).length : Nat) : Int))]) (t := [])
    (by kernel_rfl) (by kernel_rfl) (by kernel_rfl) (by kernel_rfl) (by kernel_rfl) (by kernel_rfl) ⟨c0, rfl, c1, c2, c3, rfl, c4, c5, rfl, c6, trivial⟩
theorem w48_u2_1 (m : Ms) (oa : Ob) (ob : Ob) (ta : List (Nat × Ob)) (tb : List (Nat × Ob)) (hp : HL) (i1 : Nat)
    (c0 : findD false [2] (D.str m.name) (atOf m.parts) = some (some (D.int .i64 ((i1 : Nat) : Int))))
    (c1 : i1 < ((m.parts.map OPrt.oc).length)) :
    Rn pg 48 [V.ptr 2 14 [] 0 0] (ta :: tb :: [(4, oa), (8, ob), (14, Ob.row true 8 true [[C.own 4 false (m.parts.map OPrt.oc), C.own 9 false (m.marks.map TMrk.oc), C.own 3 false (m.globals.map TTld.oc), C.mp (atOf m.parts), C.own 3 false (m.faults.map TFlt.oc), C.d (D.int .i64 m.file), C.d (D.int .i64 m.line), C.d (D.str m.name)]])] :: hp) (V.tup [V.ptr 2 14 [(0, 0)] i1 0, V.d (D.int .i64 ((i1 : Nat) : Int))]) (ta :: tb :: [(4, oa), (8, ob), (14, Ob.row true 8 true [[C.own 4 false (m.parts.map OPrt.oc), C.own 9 false (m.marks.map TMrk.oc), C.own 3 false (m.globals.map TTld.oc), C.mp (atOf m.parts), C.own 3 false (m.faults.map TFlt.oc), C.d (D.int .i64 m.file), C.d (D.int .i64 m.line), C.d (D.str m.name)]])] :: hp) :=
  Rn.c (fn := i48) (ex := .ret) (st := ⟨[(2, V.ptr 3 14 [(0, 0)] i1 0), (3, V.d (D.int .i64 ((i1 : Nat) : Int)))], [] :: ta :: tb :: [(4, oa), (8, ob), (14, Ob.row true 8 true [[C.own 4 false (m.parts.map OPrt.oc), C.own 9 false (m.marks.map TMrk.oc), C.own 3 false (m.globals.map TTld.oc), C.mp (atOf m.parts), C.own 3 false (m.faults.map TFlt.oc), C.d (D.int .i64 m.file), C.d (D.int .i64 m.line), C.d (D.str m.name)]])] :: hp⟩) (hs := [.o (some (D.int .i64 ((i1 : Nat) : Int))), .b false, .n i1]) (cs := [_, false = false, ((i1 : Nat) : Int) = ((i1 : Nat) : Int), _]) (rs := [V.ptr 2 14 [(0, 0)] i1 0, V.d (D.int .i64 ((i1 : Nat) : Int))]) (t := [])
    (by kernel_rfl) (by kernel_rfl) (by kernel_rfl) (by kernel_rfl) (by kernel_rfl) (by kernel_rfl) ⟨c0, rfl, rfl, c1, trivial⟩
end Go.Proofs.YtgmphfmoonbfpaaMv

namespace Go.Proofs.YtgmphfmoonbfpaaMv
open Go
theorem cellAtM {α : Type} {f : α → List C} {l : List α} {i o : Nat} {x : α} {c : C} (h : l[i]? = some x) (hc : (f x)[o]? = some c) : cellAt (l.map f) i o = some c := by simp [cellAt, h, hc]
theorem f32 (l : TLin) (hp : HL) (hl : l.opers.l.length < 2 ^ 30) : Rn pg 32 [.d (.agg l.c)] hp (.d (.agg (TLin.c { l with opers := l.opers.cl }))) hp := w32_0 l hp (f59 l.opers [] hl)
theorem Ms.obF_fails (m : Ms) (e : Int) : (m.failsM e).obF = Ob.row true 8 true [[C.own 4 false (m.parts.map OPrt.oc), C.own 9 false (m.marks.map TMrk.oc), C.own 3 false (m.globals.map TTld.oc), C.mp (atOf m.parts), C.own 3 false ((m.faults.map TFlt.oc) ++ [[C.d (D.int .i64 m.file), C.d (D.int .i64 m.line), C.d (D.int .i64 e)]]), C.d (D.int .i64 m.file), C.d (D.int .i64 m.line), C.d (D.str m.name)]] := by
  simp [Ms.obF, Ms.failsM, TFlt.oc]
theorem Ms.partM_none {m : Ms} (h : m.idx = none) : m.partM = { m with parts := m.parts ++ [m.new] } := by unfold Ms.partM; rw [h]
theorem Ms.partM_some {m : Ms} {k : Nat} (h : m.idx = some k) : m.partM = m := by unfold Ms.partM; rw [h]
theorem f47_1 {m : Ms} {k : Nat} (h : m.le k) (hk : k < 2 ^ 30) (oa ob : Ob) (ta : List (Nat × Ob)) (e : Int) (hp : HL) : Rn pg 47 [V.ptr 1 14 [] 0 0, V.d (D.int .i64 e)] (ta :: [(4, oa), (8, ob), (14, m.obF)] :: hp) (V.tup []) (ta :: [(4, oa), (8, ob), (14, (m.failsM e).obF)] :: hp) := by
  rw [Ms.obF_fails]
  exact w47_u1_0 m oa ob ta e hp rfl (by have := h.faults; simp [room_eq]; omega) (by simp)
theorem f48_1 {m : Ms} {k : Nat} (h : m.le k) (hk : k < 2 ^ 30) (oa ob : Ob) (ta : List (Nat × Ob)) (hp : HL) : Rn pg 48 [V.ptr 1 14 [] 0 0] (ta :: [(4, oa), (8, ob), (14, m.obF)] :: hp) (V.tup [V.ptr 1 14 [(0, 0)] m.partI 0, V.d (D.int .i64 ((m.partI : Nat) : Int))]) (ta :: [(4, oa), (8, ob), (14, m.partM.obF)] :: hp) := by
  have hf := find_at m.name m.parts 0
  cases hi : m.idx with
  | some i =>
    rw [Ms.partM_some hi, show m.partI = i by simp [Ms.partI, hi]]
    unfold Ms.idx at hi
    rw [hi] at hf
    exact w48_u1_1 m oa ob ta hp i hf (by have := (idxGo_lt _ _ _ _ hi).2.1; simp; omega)
  | none =>
    have hpi : m.partI = m.parts.length := by simp [Ms.partI, hi]
    have hpm := Ms.partM_none hi
    unfold Ms.idx at hi
    rw [hi] at hf
    have hput := put_at m.new m.parts 0 hi
    rw [Nat.zero_add] at hput
    have r := w48_u1_0 m oa ob ta hp (atOf (m.parts ++ [m.new])) hf (by rw [show findD false [2] (D.str m.name) (atOf m.parts) = _ from hf]; rfl) (by rw [List.length_map]; exact hput) rfl (by have := h.parts; simp [room_eq]; omega) (by simp) (by simp)
    have e : m.partM.obF = Ob.row true 8 true [[C.own 4 false ((m.parts.map OPrt.oc) ++ [[C.d (D.str m.name), C.d (D.int .i64 m.file), C.d (D.int .i64 m.line), C.own 11 false []]]), C.own 9 false (m.marks.map TMrk.oc), C.own 3 false (m.globals.map TTld.oc), C.mp (atOf (m.parts ++ [m.new])), C.own 3 false (m.faults.map TFlt.oc), C.d (D.int .i64 m.file), C.d (D.int .i64 m.line), C.d (D.str m.name)]] := by
      rw [hpm]; simp [Ms.obF, OPrt.oc, Ms.new]
    rw [e, hpi]
    simp only [List.length_map] at r
    exact r
theorem f47_2 {m : Ms} {k : Nat} (h : m.le k) (hk : k < 2 ^ 30) (oa ob : Ob) (ta : List (Nat × Ob)) (tb : List (Nat × Ob)) (e : Int) (hp : HL) : Rn pg 47 [V.ptr 2 14 [] 0 0, V.d (D.int .i64 e)] (ta :: tb :: [(4, oa), (8, ob), (14, m.obF)] :: hp) (V.tup []) (ta :: tb :: [(4, oa), (8, ob), (14, (m.failsM e).obF)] :: hp) := by
  rw [Ms.obF_fails]
  exact w47_u2_0 m oa ob ta tb e hp rfl (by have := h.faults; simp [room_eq]; omega) (by simp)
theorem f48_2 {m : Ms} {k : Nat} (h : m.le k) (hk : k < 2 ^ 30) (oa ob : Ob) (ta : List (Nat × Ob)) (tb : List (Nat × Ob)) (hp : HL) : Rn pg 48 [V.ptr 2 14 [] 0 0] (ta :: tb :: [(4, oa), (8, ob), (14, m.obF)] :: hp) (V.tup [V.ptr 2 14 [(0, 0)] m.partI 0, V.d (D.int .i64 ((m.partI : Nat) : Int))]) (ta :: tb :: [(4, oa), (8, ob), (14, m.partM.obF)] :: hp) := by
  have hf := find_at m.name m.parts 0
  cases hi : m.idx with
  | some i =>
    rw [Ms.partM_some hi, show m.partI = i by simp [Ms.partI, hi]]
    unfold Ms.idx at hi
    rw [hi] at hf
    exact w48_u2_1 m oa ob ta tb hp i hf (by have := (idxGo_lt _ _ _ _ hi).2.1; simp; omega)
  | none =>
    have hpi : m.partI = m.parts.length := by simp [Ms.partI, hi]
    have hpm := Ms.partM_none hi
    unfold Ms.idx at hi
    rw [hi] at hf
    have hput := put_at m.new m.parts 0 hi
    rw [Nat.zero_add] at hput
    have r := w48_u2_0 m oa ob ta tb hp (atOf (m.parts ++ [m.new])) hf (by rw [show findD false [2] (D.str m.name) (atOf m.parts) = _ from hf]; rfl) (by rw [List.length_map]; exact hput) rfl (by have := h.parts; simp [room_eq]; omega) (by simp) (by simp)
    have e : m.partM.obF = Ob.row true 8 true [[C.own 4 false ((m.parts.map OPrt.oc) ++ [[C.d (D.str m.name), C.d (D.int .i64 m.file), C.d (D.int .i64 m.line), C.own 11 false []]]), C.own 9 false (m.marks.map TMrk.oc), C.own 3 false (m.globals.map TTld.oc), C.mp (atOf (m.parts ++ [m.new])), C.own 3 false (m.faults.map TFlt.oc), C.d (D.int .i64 m.file), C.d (D.int .i64 m.line), C.d (D.str m.name)]] := by
      rw [hpm]; simp [Ms.obF, OPrt.oc, Ms.new]
    rw [e, hpi]
    simp only [List.length_map] at r
    exact r
end Go.Proofs.YtgmphfmoonbfpaaMv

set_option maxRecDepth 100000
namespace Go.Proofs.YtgmphfmoonbfpaaMv
open Go
theorem w26_u0_0 (m : Ms) (oa : Ob) (ob : Ob) (x : TMrk) (hp : HL) (p1 : OPrt)
    (c0 : (decide (((x.name.length : Nat) : Int) > 255)) = false)
    (c1 : Rn pg 48 [V.ptr 1 14 [] 0 0] ([(3, Ob.row true 9 true [[C.d (D.str x.name), C.d (D.int .i64 x.file), C.d (D.int .i64 x.line), C.d (D.int .i64 x.part), C.d (D.int .i64 x.piece), C.d (D.bool x.equ), C.d (D.int .i64 x.v.add), C.d (D.str x.v.plus), C.d (D.str x.v.minus)]])] :: [(4, oa), (8, ob), (14, Ob.row true 8 true [[C.own 4 false (m.parts.map OPrt.oc), C.own 9 false (m.marks.map TMrk.oc), C.own 3 false (m.globals.map TTld.oc), C.mp (atOf m.parts), C.own 3 false (m.faults.map TFlt.oc), C.d (D.int .i64 m.file), C.d (D.int .i64 m.line), C.d (D.str m.name)]])] :: hp) (V.tup [V.ptr 1 14 [(0, 0)] m.partI 0, V.d (D.int .i64 ((m.partI : Nat) : Int))]) ([(3, Ob.row true 9 true [[C.d (D.str x.name), C.d (D.int .i64 x.file), C.d (D.int .i64 x.line), C.d (D.int .i64 x.part), C.d (D.int .i64 x.piece), C.d (D.bool x.equ), C.d (D.int .i64 x.v.add), C.d (D.str x.v.plus), C.d (D.str x.v.minus)]])] :: [(4, oa), (8, ob), (14, Ob.row true 8 true [[C.own 4 false (m.partM.parts.map OPrt.oc), C.own 9 false (m.marks.map TMrk.oc), C.own 3 false (m.globals.map TTld.oc), C.mp (atOf m.partM.parts), C.own 3 false (m.faults.map TFlt.oc), C.d (D.int .i64 m.file), C.d (D.int .i64 m.line), C.d (D.str m.name)]])] :: hp))
    (c2 : cellAt (m.partM.parts.map OPrt.oc) m.partI 3 = some (C.own 11 false (p1.pieces.map TPce.oc)))
    (c3 : List.all [[D.str x.name, D.int .i64 m.file, D.int .i64 m.line, D.int .i64 ((m.partI : Nat) : Int), D.int .i64 (((p1.pieces.map TPce.oc).length : Nat) : Int), D.bool x.equ, D.int .i64 x.v.add, D.str x.v.plus, D.str x.v.minus]] (fun x => x.length == 9) = true)
    (c4 : (((m.marks.map TMrk.oc).length) + 1) * 96 ≤ room)
    (c5 : ((m.marks.map TMrk.oc) ++ [[C.d (D.str x.name), C.d (D.int .i64 m.file), C.d (D.int .i64 m.line), C.d (D.int .i64 ((m.partI : Nat) : Int)), C.d (D.int .i64 (((p1.pieces.map TPce.oc).length : Nat) : Int)), C.d (D.bool x.equ), C.d (D.int .i64 x.v.add), C.d (D.str x.v.plus), C.d (D.str x.v.minus)]]).length = (((m.marks.map TMrk.oc).length) + 1)) :
    Rn pg 26 [V.ptr 0 14 [] 0 0, V.d (D.agg [D.str x.name, D.int .i64 x.file, D.int .i64 x.line, D.int .i64 x.part, D.int .i64 x.piece, D.bool x.equ, D.int .i64 x.v.add, D.str x.v.plus, D.str x.v.minus])] ([(4, oa), (8, ob), (14, Ob.row true 8 true [[C.own 4 false (m.parts.map OPrt.oc), C.own 9 false (m.marks.map TMrk.oc), C.own 3 false (m.globals.map TTld.oc), C.mp (atOf m.parts), C.own 3 false (m.faults.map TFlt.oc), C.d (D.int .i64 m.file), C.d (D.int .i64 m.line), C.d (D.str m.name)]])] :: hp) (V.tup []) ([(4, oa), (8, ob), (14, Ob.row true 8 true [[C.own 4 false (m.partM.parts.map OPrt.oc), C.own 9 false ((m.marks.map TMrk.oc) ++ [[C.d (D.str x.name), C.d (D.int .i64 m.file), C.d (D.int .i64 m.line), C.d (D.int .i64 ((m.partI : Nat) : Int)), C.d (D.int .i64 (((p1.pieces.map TPce.oc).length : Nat) : Int)), C.d (D.bool x.equ), C.d (D.int .i64 x.v.add), C.d (D.str x.v.plus), C.d (D.str x.v.minus)]]), C.own 3 false (m.globals.map TTld.oc), C.mp (atOf m.partM.parts), C.own 3 false (m.faults.map TFlt.oc), C.d (D.int .i64 m.file), C.d (D.int .i64 m.line), C.d (D.str m.name)]])] :: hp) :=
  Rn.c (fn := i26) (ex := .normal) (st := ⟨[], [] :: [(4, oa), (8, ob), (14, Ob.row true 8 true [[C.own 4 false (m.partM.parts.map OPrt.oc), C.own 9 false ((m.marks.map TMrk.oc) ++ [[C.d (D.str x.name), C.d (D.int .i64 m.file), C.d (D.int .i64 m.line), C.d (D.int .i64 ((m.partI : Nat) : Int)), C.d (D.int .i64 (((p1.pieces.map TPce.oc).length : Nat) : Int)), C.d (D.bool x.equ), C.d (D.int .i64 x.v.add), C.d (D.str x.v.plus), C.d (D.str x.v.minus)]]), C.own 3 false (m.globals.map TTld.oc), C.mp (atOf m.partM.parts), C.own 3 false (m.faults.map TFlt.oc), C.d (D.int .i64 m.file), C.d (D.int .i64 m.line), C.d (D.str m.name)]])] :: hp⟩) (hs := [.b false, .call (V.tup [V.ptr 1 14 [(0, 0)] m.partI 0, V.d (D.int .i64 ((m.partI : Nat) : Int))]) ([(3, Ob.row true 9 true [[C.d (D.str x.name), C.d (D.int .i64 x.file), C.d (D.int .i64 x.line), C.d (D.int .i64 x.part), C.d (D.int .i64 x.piece), C.d (D.bool x.equ), C.d (D.int .i64 x.v.add), C.d (D.str x.v.plus), C.d (D.str x.v.minus)]])] :: [(4, oa), (8, ob), (14, Ob.row true 8 true [[C.own 4 false (m.partM.parts.map OPrt.oc), C.own 9 false (m.marks.map TMrk.oc), C.own 3 false (m.globals.map TTld.oc), C.mp (atOf m.partM.parts), C.own 3 false (m.faults.map TFlt.oc), C.d (D.int .i64 m.file), C.d (D.int .i64 m.line), C.d (D.str m.name)]])] :: hp), .no, .no, .c (C.own 11 false (p1.pieces.map TPce.oc))]) (cs := [_, _, _, _, ((m.marks.map TMrk.oc).length) = (m.marks.map TMrk.oc).length, _, _]) (rs := []) (t := [])
    (by kernel_rfl) (by kernel_rfl) (by kernel_rfl) (by kernel_rfl) (by kernel_rfl) (by kernel_rfl) ⟨c0, c1, c2, c3, rfl, c4, c5, trivial⟩
theorem w26_u0_1 (m : Ms) (oa : Ob) (ob : Ob) (x : TMrk) (hp : HL)
    (c0 : (decide (((x.name.length : Nat) : Int) > 255)) = true)
    (c1 : Rn pg 47 [V.ptr 1 14 [] 0 0, V.d (D.int .i64 3)] ([(3, Ob.row true 9 true [[C.d (D.str x.name), C.d (D.int .i64 x.file), C.d (D.int .i64 x.line), C.d (D.int .i64 x.part), C.d (D.int .i64 x.piece), C.d (D.bool x.equ), C.d (D.int .i64 x.v.add), C.d (D.str x.v.plus), C.d (D.str x.v.minus)]])] :: [(4, oa), (8, ob), (14, Ob.row true 8 true [[C.own 4 false (m.parts.map OPrt.oc), C.own 9 false (m.marks.map TMrk.oc), C.own 3 false (m.globals.map TTld.oc), C.mp (atOf m.parts), C.own 3 false (m.faults.map TFlt.oc), C.d (D.int .i64 m.file), C.d (D.int .i64 m.line), C.d (D.str m.name)]])] :: hp) (V.tup []) ([(3, Ob.row true 9 true [[C.d (D.str x.name), C.d (D.int .i64 x.file), C.d (D.int .i64 x.line), C.d (D.int .i64 x.part), C.d (D.int .i64 x.piece), C.d (D.bool x.equ), C.d (D.int .i64 x.v.add), C.d (D.str x.v.plus), C.d (D.str x.v.minus)]])] :: [(4, oa), (8, ob), (14, (m.failsM 3).obF)] :: hp)) :
    Rn pg 26 [V.ptr 0 14 [] 0 0, V.d (D.agg [D.str x.name, D.int .i64 x.file, D.int .i64 x.line, D.int .i64 x.part, D.int .i64 x.piece, D.bool x.equ, D.int .i64 x.v.add, D.str x.v.plus, D.str x.v.minus])] ([(4, oa), (8, ob), (14, Ob.row true 8 true [[C.own 4 false (m.parts.map OPrt.oc), C.own 9 false (m.marks.map TMrk.oc), C.own 3 false (m.globals.map TTld.oc), C.mp (atOf m.parts), C.own 3 false (m.faults.map TFlt.oc), C.d (D.int .i64 m.file), C.d (D.int .i64 m.line), C.d (D.str m.name)]])] :: hp) (V.tup []) ([(4, oa), (8, ob), (14, (m.failsM 3).obF)] :: hp) :=
  Rn.c (fn := i26) (ex := .ret) (st := ⟨[], [] :: [(4, oa), (8, ob), (14, (m.failsM 3).obF)] :: hp⟩) (hs := [.b true, .call (V.tup []) ([(3, Ob.row true 9 true [[C.d (D.str x.name), C.d (D.int .i64 x.file), C.d (D.int .i64 x.line), C.d (D.int .i64 x.part), C.d (D.int .i64 x.piece), C.d (D.bool x.equ), C.d (D.int .i64 x.v.add), C.d (D.str x.v.plus), C.d (D.str x.v.minus)]])] :: [(4, oa), (8, ob), (14, (m.failsM 3).obF)] :: hp)]) (cs := [_, _]) (rs := []) (t := [])
    (by kernel_rfl) (by kernel_rfl) (by kernel_rfl) (by kernel_rfl) (by kernel_rfl) (by kernel_rfl) ⟨c0, c1, trivial⟩
theorem w26_u1_0 (m : Ms) (oa : Ob) (ob : Ob) (ta : List (Nat × Ob)) (x : TMrk) (hp : HL) (p1 : OPrt)
    (c0 : (decide (((x.name.length : Nat) : Int) > 255)) = false)
    (c1 : Rn pg 48 [V.ptr 2 14 [] 0 0] ([(3, Ob.row true 9 true [[C.d (D.str x.name), C.d (D.int .i64 x.file), C.d (D.int .i64 x.line), C.d (D.int .i64 x.part), C.d (D.int .i64 x.piece), C.d (D.bool x.equ), C.d (D.int .i64 x.v.add), C.d (D.str x.v.plus), C.d (D.str x.v.minus)]])] :: ta :: [(4, oa), (8, ob), (14, Ob.row true 8 true [[C.own 4 false (m.parts.map OPrt.oc), C.own 9 false (m.marks.map TMrk.oc), C.own 3 false (m.globals.map TTld.oc), C.mp (atOf m.parts), C.own 3 false (m.faults.map TFlt.oc), C.d (D.int .i64 m.file), C.d (D.int .i64 m.line), C.d (D.str m.name)]])] :: hp) (V.tup [V.ptr 2 14 [(0, 0)] m.partI 0, V.d (D.int .i64 ((m.partI : Nat) : Int))]) ([(3, Ob.row true 9 true [[C.d (D.str x.name), C.d (D.int .i64 x.file), C.d (D.int .i64 x.line), C.d (D.int .i64 x.part), C.d (D.int .i64 x.piece), C.d (D.bool x.equ), C.d (D.int .i64 x.v.add), C.d (D.str x.v.plus), C.d (D.str x.v.minus)]])] :: ta :: [(4, oa), (8, ob), (14, Ob.row true 8 true [[C.own 4 false (m.partM.parts.map OPrt.oc), C.own 9 false (m.marks.map TMrk.oc), C.own 3 false (m.globals.map TTld.oc), C.mp (atOf m.partM.parts), C.own 3 false (m.faults.map TFlt.oc), C.d (D.int .i64 m.file), C.d (D.int .i64 m.line), C.d (D.str m.name)]])] :: hp))
    (c2 : cellAt (m.partM.parts.map OPrt.oc) m.partI 3 = some (C.own 11 false (p1.pieces.map TPce.oc)))
    (c3 : List.all [[D.str x.name, D.int .i64 m.file, D.int .i64 m.line, D.int .i64 ((m.partI : Nat) : Int), D.int .i64 (((p1.pieces.map TPce.oc).length : Nat) : Int), D.bool x.equ, D.int .i64 x.v.add, D.str x.v.plus, D.str x.v.minus]] (fun x => x.length == 9) = true)
    (c4 : (((m.marks.map TMrk.oc).length) + 1) * 96 ≤ room)
    (c5 : ((m.marks.map TMrk.oc) ++ [[C.d (D.str x.name), C.d (D.int .i64 m.file), C.d (D.int .i64 m.line), C.d (D.int .i64 ((m.partI : Nat) : Int)), C.d (D.int .i64 (((p1.pieces.map TPce.oc).length : Nat) : Int)), C.d (D.bool x.equ), C.d (D.int .i64 x.v.add), C.d (D.str x.v.plus), C.d (D.str x.v.minus)]]).length = (((m.marks.map TMrk.oc).length) + 1)) :
    Rn pg 26 [V.ptr 1 14 [] 0 0, V.d (D.agg [D.str x.name, D.int .i64 x.file, D.int .i64 x.line, D.int .i64 x.part, D.int .i64 x.piece, D.bool x.equ, D.int .i64 x.v.add, D.str x.v.plus, D.str x.v.minus])] (ta :: [(4, oa), (8, ob), (14, Ob.row true 8 true [[C.own 4 false (m.parts.map OPrt.oc), C.own 9 false (m.marks.map TMrk.oc), C.own 3 false (m.globals.map TTld.oc), C.mp (atOf m.parts), C.own 3 false (m.faults.map TFlt.oc), C.d (D.int .i64 m.file), C.d (D.int .i64 m.line), C.d (D.str m.name)]])] :: hp) (V.tup []) (ta :: [(4, oa), (8, ob), (14, Ob.row true 8 true [[C.own 4 false (m.partM.parts.map OPrt.oc), C.own 9 false ((m.marks.map TMrk.oc) ++ [[C.d (D.str x.name), C.d (D.int .i64 m.file), C.d (D.int .i64 m.line), C.d (D.int .i64 ((m.partI : Nat) : Int)), C.d (D.int .i64 (((p1.pieces.map TPce.oc).length : Nat) : Int)), C.d (D.bool x.equ), C.d (D.int .i64 x.v.add), C.d (D.str x.v.plus), C.d (D.str x.v.minus)]]), C.own 3 false (m.globals.map TTld.oc), C.mp (atOf m.partM.parts), C.own 3 false (m.faults.map TFlt.oc), C.d (D.int .i64 m.file), C.d (D.int .i64 m.line), C.d (D.str m.name)]])] :: hp) :=
  Rn.c (fn := i26) (ex := .normal) (st := ⟨[], [] :: ta :: [(4, oa), (8, ob), (14, Ob.row true 8 true [[C.own 4 false (m.partM.parts.map OPrt.oc), C.own 9 false ((m.marks.map TMrk.oc) ++ [[C.d (D.str x.name), C.d (D.int .i64 m.file), C.d (D.int .i64 m.line), C.d (D.int .i64 ((m.partI : Nat) : Int)), C.d (D.int .i64 (((p1.pieces.map TPce.oc).length : Nat) : Int)), C.d (D.bool x.equ), C.d (D.int .i64 x.v.add), C.d (D.str x.v.plus), C.d (D.str x.v.minus)]]), C.own 3 false (m.globals.map TTld.oc), C.mp (atOf m.partM.parts), C.own 3 false (m.faults.map TFlt.oc), C.d (D.int .i64 m.file), C.d (D.int .i64 m.line), C.d (D.str m.name)]])] :: hp⟩) (hs := [.b false, .call (V.tup [V.ptr 2 14 [(0, 0)] m.partI 0, V.d (D.int .i64 ((m.partI : Nat) : Int))]) ([(3, Ob.row true 9 true [[C.d (D.str x.name), C.d (D.int .i64 x.file), C.d (D.int .i64 x.line), C.d (D.int .i64 x.part), C.d (D.int .i64 x.piece), C.d (D.bool x.equ), C.d (D.int .i64 x.v.add), C.d (D.str x.v.plus), C.d (D.str x.v.minus)]])] :: ta :: [(4, oa), (8, ob), (14, Ob.row true 8 true [[C.own 4 false (m.partM.parts.map OPrt.oc), C.own 9 false (m.marks.map TMrk.oc), C.own 3 false (m.globals.map TTld.oc), C.mp (atOf m.partM.parts), C.own 3 false (m.faults.map TFlt.oc), C.d (D.int .i64 m.file), C.d (D.int .i64 m.line), C.d (D.str m.name)]])] :: hp), .no, .no, .c (C.own 11 false (p1.pieces.map TPce.oc))]) (cs := [_, _, _, _, ((m.marks.map TMrk.oc).length) = (m.marks.map TMrk.oc).length, _, _]) (rs := []) (t := [])
    (by kernel_rfl) (by kernel_rfl) (by kernel_rfl) (by kernel_rfl) (by kernel_rfl) (by kernel_rfl) ⟨c0, c1, c2, c3, rfl, c4, c5, trivial⟩
theorem w26_u1_1 (m : Ms) (oa : Ob) (ob : Ob) (ta : List (Nat × Ob)) (x : TMrk) (hp : HL)
    (c0 : (decide (((x.name.length : Nat) : Int) > 255)) = true)
    (c1 : Rn pg 47 [V.ptr 2 14 [] 0 0, V.d (D.int .i64 3)] ([(3, Ob.row true 9 true [[C.d (D.str x.name), C.d (D.int .i64 x.file), C.d (D.int .i64 x.line), C.d (D.int .i64 x.part), C.d (D.int .i64 x.piece), C.d (D.bool x.equ), C.d (D.int .i64 x.v.add), C.d (D.str x.v.plus), C.d (D.str x.v.minus)]])] :: ta :: [(4, oa), (8, ob), (14, Ob.row true 8 true [[C.own 4 false (m.parts.map OPrt.oc), C.own 9 false (m.marks.map TMrk.oc), C.own 3 false (m.globals.map TTld.oc), C.mp (atOf m.parts), C.own 3 false (m.faults.map TFlt.oc), C.d (D.int .i64 m.file), C.d (D.int .i64 m.line), C.d (D.str m.name)]])] :: hp) (V.tup []) ([(3, Ob.row true 9 true [[C.d (D.str x.name), C.d (D.int .i64 x.file), C.d (D.int .i64 x.line), C.d (D.int .i64 x.part), C.d (D.int .i64 x.piece), C.d (D.bool x.equ), C.d (D.int .i64 x.v.add), C.d (D.str x.v.plus), C.d (D.str x.v.minus)]])] :: ta :: [(4, oa), (8, ob), (14, (m.failsM 3).obF)] :: hp)) :
    Rn pg 26 [V.ptr 1 14 [] 0 0, V.d (D.agg [D.str x.name, D.int .i64 x.file, D.int .i64 x.line, D.int .i64 x.part, D.int .i64 x.piece, D.bool x.equ, D.int .i64 x.v.add, D.str x.v.plus, D.str x.v.minus])] (ta :: [(4, oa), (8, ob), (14, Ob.row true 8 true [[C.own 4 false (m.parts.map OPrt.oc), C.own 9 false (m.marks.map TMrk.oc), C.own 3 false (m.globals.map TTld.oc), C.mp (atOf m.parts), C.own 3 false (m.faults.map TFlt.oc), C.d (D.int .i64 m.file), C.d (D.int .i64 m.line), C.d (D.str m.name)]])] :: hp) (V.tup []) (ta :: [(4, oa), (8, ob), (14, (m.failsM 3).obF)] :: hp) :=
  Rn.c (fn := i26) (ex := .ret) (st := ⟨[], [] :: ta :: [(4, oa), (8, ob), (14, (m.failsM 3).obF)] :: hp⟩) (hs := [.b true, .call (V.tup []) ([(3, Ob.row true 9 true [[C.d (D.str x.name), C.d (D.int .i64 x.file), C.d (D.int .i64 x.line), C.d (D.int .i64 x.part), C.d (D.int .i64 x.piece), C.d (D.bool x.equ), C.d (D.int .i64 x.v.add), C.d (D.str x.v.plus), C.d (D.str x.v.minus)]])] :: ta :: [(4, oa), (8, ob), (14, (m.failsM 3).obF)] :: hp)]) (cs := [_, _]) (rs := []) (t := [])
    (by kernel_rfl) (by kernel_rfl) (by kernel_rfl) (by kernel_rfl) (by kernel_rfl) (by kernel_rfl) ⟨c0, c1, trivial⟩
theorem w49_0 (m : Ms) (oa : Ob) (ob : Ob) (ta : List (Nat × Ob)) (x : TPce) (z : Bool) (hp : HL) (p1 : OPrt)
    (c0 : (!z) = false)
    (c1 : Rn pg 48 [V.ptr 2 14 [] 0 0] ([(4, Ob.row true 11 true [[C.d (D.int .i64 x.kind), C.d (D.int .i64 x.file), C.d (D.int .i64 x.line), C.d (D.str x.l.name), C.d (D.sl x.l.opers.nn (x.l.opers.l.map TOpr.c)), C.d (D.int .i64 x.v.add), C.d (D.str x.v.plus), C.d (D.str x.v.minus), C.d (D.int .i64 x.size), C.d (D.sl x.b.nn (x.b.l.map u8c)), C.d (D.int .i64 x.align)]])] :: ta :: [(4, oa), (8, ob), (14, Ob.row true 8 true [[C.own 4 false (m.parts.map OPrt.oc), C.own 9 false (m.marks.map TMrk.oc), C.own 3 false (m.globals.map TTld.oc), C.mp (atOf m.parts), C.own 3 false (m.faults.map TFlt.oc), C.d (D.int .i64 m.file), C.d (D.int .i64 m.line), C.d (D.str m.name)]])] :: hp) (V.tup [V.ptr 2 14 [(0, 0)] m.partI 0, V.d (D.int .i64 ((m.partI : Nat) : Int))]) ([(4, Ob.row true 11 true [[C.d (D.int .i64 x.kind), C.d (D.int .i64 x.file), C.d (D.int .i64 x.line), C.d (D.str x.l.name), C.d (D.sl x.l.opers.nn (x.l.opers.l.map TOpr.c)), C.d (D.int .i64 x.v.add), C.d (D.str x.v.plus), C.d (D.str x.v.minus), C.d (D.int .i64 x.size), C.d (D.sl x.b.nn (x.b.l.map u8c)), C.d (D.int .i64 x.align)]])] :: ta :: [(4, oa), (8, ob), (14, Ob.row true 8 true [[C.own 4 false (m.partM.parts.map OPrt.oc), C.own 9 false (m.marks.map TMrk.oc), C.own 3 false (m.globals.map TTld.oc), C.mp (atOf m.partM.parts), C.own 3 false (m.faults.map TFlt.oc), C.d (D.int .i64 m.file), C.d (D.int .i64 m.line), C.d (D.str m.name)]])] :: hp))
    (c2 : cellAt (m.partM.parts.map OPrt.oc) m.partI 3 = some (C.own 11 false (p1.pieces.map TPce.oc)))
    (c3 : List.all [[D.int .i64 x.kind, D.int .i64 m.file, D.int .i64 m.line, D.str x.l.name, D.sl x.l.opers.nn (x.l.opers.l.map TOpr.c), D.int .i64 x.v.add, D.str x.v.plus, D.str x.v.minus, D.int .i64 x.size, D.sl x.b.nn (x.b.l.map u8c), D.int .i64 x.align]] (fun x => x.length == 11) = true)
    (c4 : (((p1.pieces.map TPce.oc).length) + 1) * 144 ≤ room)
    (c5 : ((p1.pieces.map TPce.oc) ++ [[C.d (D.int .i64 x.kind), C.d (D.int .i64 m.file), C.d (D.int .i64 m.line), C.d (D.str x.l.name), C.d (D.sl x.l.opers.nn (x.l.opers.l.map TOpr.c)), C.d (D.int .i64 x.v.add), C.d (D.str x.v.plus), C.d (D.str x.v.minus), C.d (D.int .i64 x.size), C.d (D.sl x.b.nn (x.b.l.map u8c)), C.d (D.int .i64 x.align)]]).length = (((p1.pieces.map TPce.oc).length) + 1))
    (c6 : (setCells (m.partM.parts.map OPrt.oc) m.partI 3 [C.bad])[m.partI]? = some [C.d (D.str p1.name), C.d (D.int .i64 p1.file), C.d (D.int .i64 p1.line), C.bad]) :
    Rn pg 49 [V.ptr 1 14 [] 0 0, V.d (D.agg [D.int .i64 x.kind, D.int .i64 x.file, D.int .i64 x.line, D.str x.l.name, D.sl x.l.opers.nn (x.l.opers.l.map TOpr.c), D.int .i64 x.v.add, D.str x.v.plus, D.str x.v.minus, D.int .i64 x.size, D.sl x.b.nn (x.b.l.map u8c), D.int .i64 x.align]), V.d (D.bool z)] (ta :: [(4, oa), (8, ob), (14, Ob.row true 8 true [[C.own 4 false (m.parts.map OPrt.oc), C.own 9 false (m.marks.map TMrk.oc), C.own 3 false (m.globals.map TTld.oc), C.mp (atOf m.parts), C.own 3 false (m.faults.map TFlt.oc), C.d (D.int .i64 m.file), C.d (D.int .i64 m.line), C.d (D.str m.name)]])] :: hp) (V.tup []) (ta :: [(4, oa), (8, ob), (14, Ob.row true 8 true [[C.own 4 false (setCells (setCells (m.partM.parts.map OPrt.oc) m.partI 3 [C.bad]) m.partI 3 [C.own 11 false ((p1.pieces.map TPce.oc) ++ [[C.d (D.int .i64 x.kind), C.d (D.int .i64 m.file), C.d (D.int .i64 m.line), C.d (D.str x.l.name), C.d (D.sl x.l.opers.nn (x.l.opers.l.map TOpr.c)), C.d (D.int .i64 x.v.add), C.d (D.str x.v.plus), C.d (D.str x.v.minus), C.d (D.int .i64 x.size), C.d (D.sl x.b.nn (x.b.l.map u8c)), C.d (D.int .i64 x.align)]])]), C.own 9 false (m.marks.map TMrk.oc), C.own 3 false (m.globals.map TTld.oc), C.mp (atOf m.partM.parts), C.own 3 false (m.faults.map TFlt.oc), C.d (D.int .i64 m.file), C.d (D.int .i64 m.line), C.d (D.str m.name)]])] :: hp) :=
  Rn.c (fn := i49) (ex := .normal) (st := ⟨[], [] :: ta :: [(4, oa), (8, ob), (14, Ob.row true 8 true [[C.own 4 false (setCells (setCells (m.partM.parts.map OPrt.oc) m.partI 3 [C.bad]) m.partI 3 [C.own 11 false ((p1.pieces.map TPce.oc) ++ [[C.d (D.int .i64 x.kind), C.d (D.int .i64 m.file), C.d (D.int .i64 m.line), C.d (D.str x.l.name), C.d (D.sl x.l.opers.nn (x.l.opers.l.map TOpr.c)), C.d (D.int .i64 x.v.add), C.d (D.str x.v.plus), C.d (D.str x.v.minus), C.d (D.int .i64 x.size), C.d (D.sl x.b.nn (x.b.l.map u8c)), C.d (D.int .i64 x.align)]])]), C.own 9 false (m.marks.map TMrk.oc), C.own 3 false (m.globals.map TTld.oc), C.mp (atOf m.partM.parts), C.own 3 false (m.faults.map TFlt.oc), C.d (D.int .i64 m.file), C.d (D.int .i64 m.line), C.d (D.str m.name)]])] :: hp⟩) (hs := [.b false, .b false, .b false, .b false, .b false, .b false, .b false, .b false, .call (V.tup [V.ptr 2 14 [(0, 0)] m.partI 0, V.d (D.int .i64 ((m.partI : Nat) : Int))]) ([(4, Ob.row true 11 true [[C.d (D.int .i64 x.kind), C.d (D.int .i64 x.file), C.d (D.int .i64 x.line), C.d (D.str x.l.name), C.d (D.sl x.l.opers.nn (x.l.opers.l.map TOpr.c)), C.d (D.int .i64 x.v.add), C.d (D.str x.v.plus), C.d (D.str x.v.minus), C.d (D.int .i64 x.size), C.d (D.sl x.b.nn (x.b.l.map u8c)), C.d (D.int .i64 x.align)]])] :: ta :: [(4, oa), (8, ob), (14, Ob.row true 8 true [[C.own 4 false (m.partM.parts.map OPrt.oc), C.own 9 false (m.marks.map TMrk.oc), C.own 3 false (m.globals.map TTld.oc), C.mp (atOf m.partM.parts), C.own 3 false (m.faults.map TFlt.oc), C.d (D.int .i64 m.file), C.d (D.int .i64 m.line), C.d (D.str m.name)]])] :: hp), .no, .no, .c (C.own 11 false (p1.pieces.map TPce.oc)), .row false (p1.pieces.map TPce.oc), .cs [C.d (D.str p1.name), C.d (D.int .i64 p1.file), C.d (D.int .i64 p1.line), C.bad]]) (cs := [_, _, _, _, _, _, _, false = false, _, _, _, _, ((p1.pieces.map TPce.oc).length) = (p1.pieces.map TPce.oc).length, _, _, _]) (rs := []) (t := [])
    (by kernel_rfl) (by kernel_rfl) (by kernel_rfl) (by kernel_rfl) (by kernel_rfl) (by kernel_rfl) ⟨c0, c0, c0, c0, c0, c0, c0, rfl, c1, c2, c3, c2, rfl, c4, c5, c6, trivial⟩
theorem w49_1 (m : Ms) (oa : Ob) (ob : Ob) (ta : List (Nat × Ob)) (x : TPce) (z : Bool) (hp : HL) (p1 : OPrt)
    (c0 : (!z) = true)
    (c1 : Rn pg 36 [V.d (D.str m.name)] ([]) (V.d (D.int .i64 (kindOf m.name))) ([]))
    (c2 : ((kindOf m.name) == 4) = false)
    (c3 : Rn pg 48 [V.ptr 2 14 [] 0 0] ([(4, Ob.row true 11 true [[C.d (D.int .i64 x.kind), C.d (D.int .i64 x.file), C.d (D.int .i64 x.line), C.d (D.str x.l.name), C.d (D.sl x.l.opers.nn (x.l.opers.l.map TOpr.c)), C.d (D.int .i64 x.v.add), C.d (D.str x.v.plus), C.d (D.str x.v.minus), C.d (D.int .i64 x.size), C.d (D.sl x.b.nn (x.b.l.map u8c)), C.d (D.int .i64 x.align)]])] :: ta :: [(4, oa), (8, ob), (14, Ob.row true 8 true [[C.own 4 false (m.parts.map OPrt.oc), C.own 9 false (m.marks.map TMrk.oc), C.own 3 false (m.globals.map TTld.oc), C.mp (atOf m.parts), C.own 3 false (m.faults.map TFlt.oc), C.d (D.int .i64 m.file), C.d (D.int .i64 m.line), C.d (D.str m.name)]])] :: hp) (V.tup [V.ptr 2 14 [(0, 0)] m.partI 0, V.d (D.int .i64 ((m.partI : Nat) : Int))]) ([(4, Ob.row true 11 true [[C.d (D.int .i64 x.kind), C.d (D.int .i64 x.file), C.d (D.int .i64 x.line), C.d (D.str x.l.name), C.d (D.sl x.l.opers.nn (x.l.opers.l.map TOpr.c)), C.d (D.int .i64 x.v.add), C.d (D.str x.v.plus), C.d (D.str x.v.minus), C.d (D.int .i64 x.size), C.d (D.sl x.b.nn (x.b.l.map u8c)), C.d (D.int .i64 x.align)]])] :: ta :: [(4, oa), (8, ob), (14, Ob.row true 8 true [[C.own 4 false (m.partM.parts.map OPrt.oc), C.own 9 false (m.marks.map TMrk.oc), C.own 3 false (m.globals.map TTld.oc), C.mp (atOf m.partM.parts), C.own 3 false (m.faults.map TFlt.oc), C.d (D.int .i64 m.file), C.d (D.int .i64 m.line), C.d (D.str m.name)]])] :: hp))
    (c4 : cellAt (m.partM.parts.map OPrt.oc) m.partI 3 = some (C.own 11 false (p1.pieces.map TPce.oc)))
    (c5 : List.all [[D.int .i64 x.kind, D.int .i64 m.file, D.int .i64 m.line, D.str x.l.name, D.sl x.l.opers.nn (x.l.opers.l.map TOpr.c), D.int .i64 x.v.add, D.str x.v.plus, D.str x.v.minus, D.int .i64 x.size, D.sl x.b.nn (x.b.l.map u8c), D.int .i64 x.align]] (fun x => x.length == 11) = true)
    (c6 : (((p1.pieces.map TPce.oc).length) + 1) * 144 ≤ room)
    (c7 : ((p1.pieces.map TPce.oc) ++ [[C.d (D.int .i64 x.kind), C.d (D.int .i64 m.file), C.d (D.int .i64 m.line), C.d (D.str x.l.name), C.d (D.sl x.l.opers.nn (x.l.opers.l.map TOpr.c)), C.d (D.int .i64 x.v.add), C.d (D.str x.v.plus), C.d (D.str x.v.minus), C.d (D.int .i64 x.size), C.d (D.sl x.b.nn (x.b.l.map u8c)), C.d (D.int .i64 x.align)]]).length = (((p1.pieces.map TPce.oc).length) + 1))
    (c8 : (setCells (m.partM.parts.map OPrt.oc) m.partI 3 [C.bad])[m.partI]? = some [C.d (D.str p1.name), C.d (D.int .i64 p1.file), C.d (D.int .i64 p1.line), C.bad]) :
    Rn pg 49 [V.ptr 1 14 [] 0 0, V.d (D.agg [D.int .i64 x.kind, D.int .i64 x.file, D.int .i64 x.line, D.str x.l.name, D.sl x.l.opers.nn (x.l.opers.l.map TOpr.c), D.int .i64 x.v.add, D.str x.v.plus, D.str x.v.minus, D.int .i64 x.size, D.sl x.b.nn (x.b.l.map u8c), D.int .i64 x.align]), V.d (D.bool z)] (ta :: [(4, oa), (8, ob), (14, Ob.row true 8 true [[C.own 4 false (m.parts.map OPrt.oc), C.own 9 false (m.marks.map TMrk.oc), C.own 3 false (m.globals.map TTld.oc), C.mp (atOf m.parts), C.own 3 false (m.faults.map TFlt.oc), C.d (D.int .i64 m.file), C.d (D.int .i64 m.line), C.d (D.str m.name)]])] :: hp) (V.tup []) (ta :: [(4, oa), (8, ob), (14, Ob.row true 8 true [[C.own 4 false (setCells (setCells (m.partM.parts.map OPrt.oc) m.partI 3 [C.bad]) m.partI 3 [C.own 11 false ((p1.pieces.map TPce.oc) ++ [[C.d (D.int .i64 x.kind), C.d (D.int .i64 m.file), C.d (D.int .i64 m.line), C.d (D.str x.l.name), C.d (D.sl x.l.opers.nn (x.l.opers.l.map TOpr.c)), C.d (D.int .i64 x.v.add), C.d (D.str x.v.plus), C.d (D.str x.v.minus), C.d (D.int .i64 x.size), C.d (D.sl x.b.nn (x.b.l.map u8c)), C.d (D.int .i64 x.align)]])]), C.own 9 false (m.marks.map TMrk.oc), C.own 3 false (m.globals.map TTld.oc), C.mp (atOf m.partM.parts), C.own 3 false (m.faults.map TFlt.oc), C.d (D.int .i64 m.file), C.d (D.int .i64 m.line), C.d (D.str m.name)]])] :: hp) :=
  Rn.c (fn := i49) (ex := .normal) (st := ⟨[], [] :: ta :: [(4, oa), (8, ob), (14, Ob.row true 8 true [[C.own 4 false (setCells (setCells (m.partM.parts.map OPrt.oc) m.partI 3 [C.bad]) m.partI 3 [C.own 11 false ((p1.pieces.map TPce.oc) ++ [[C.d (D.int .i64 x.kind), C.d (D.int .i64 m.file), C.d (D.int .i64 m.line), C.d (D.str x.l.name), C.d (D.sl x.l.opers.nn (x.l.opers.l.map TOpr.c)), C.d (D.int .i64 x.v.add), C.d (D.str x.v.plus), C.d (D.str x.v.minus), C.d (D.int .i64 x.size), C.d (D.sl x.b.nn (x.b.l.map u8c)), C.d (D.int .i64 x.align)]])]), C.own 9 false (m.marks.map TMrk.oc), C.own 3 false (m.globals.map TTld.oc), C.mp (atOf m.partM.parts), C.own 3 false (m.faults.map TFlt.oc), C.d (D.int .i64 m.file), C.d (D.int .i64 m.line), C.d (D.str m.name)]])] :: hp⟩) (hs := [.b true, .b true, .b true, .b true, .b true, .call (V.d (D.int .i64 (kindOf m.name))) ([]), .b true, .b true, .b false, .call (V.tup [V.ptr 2 14 [(0, 0)] m.partI 0, V.d (D.int .i64 ((m.partI : Nat) : Int))]) ([(4, Ob.row true 11 true [[C.d (D.int .i64 x.kind), C.d (D.int .i64 x.file), C.d (D.int .i64 x.line), C.d (D.str x.l.name), C.d (D.sl x.l.opers.nn (x.l.opers.l.map TOpr.c)), C.d (D.int .i64 x.v.add), C.d (D.str x.v.plus), C.d (D.str x.v.minus), C.d (D.int .i64 x.size), C.d (D.sl x.b.nn (x.b.l.map u8c)), C.d (D.int .i64 x.align)]])] :: ta :: [(4, oa), (8, ob), (14, Ob.row true 8 true [[C.own 4 false (m.partM.parts.map OPrt.oc), C.own 9 false (m.marks.map TMrk.oc), C.own 3 false (m.globals.map TTld.oc), C.mp (atOf m.partM.parts), C.own 3 false (m.faults.map TFlt.oc), C.d (D.int .i64 m.file), C.d (D.int .i64 m.line), C.d (D.str m.name)]])] :: hp), .no, .no, .c (C.own 11 false (p1.pieces.map TPce.oc)), .row false (p1.pieces.map TPce.oc), .cs [C.d (D.str p1.name), C.d (D.int .i64 p1.file), C.d (D.int .i64 p1.line), C.bad]]) (cs := [_, _, _, _, _, _, _, _, _, _, _, _, _, ((p1.pieces.map TPce.oc).length) = (p1.pieces.map TPce.oc).length, _, _, _]) (rs := []) (t := [])
    (by kernel_rfl) (by kernel_rfl) (by kernel_rfl) (by kernel_rfl) (by kernel_rfl) (by kernel_rfl) ⟨c0, c0, c0, c0, c0, c1, c0, c0, c2, c3, c4, c5, c4, rfl, c6, c7, c8, trivial⟩
theorem w49_2 (m : Ms) (oa : Ob) (ob : Ob) (ta : List (Nat × Ob)) (x : TPce) (z : Bool) (hp : HL)
    (c0 : (!z) = true)
    (c1 : Rn pg 36 [V.d (D.str m.name)] ([]) (V.d (D.int .i64 (kindOf m.name))) ([]))
    (c2 : ((kindOf m.name) == 4) = true)
    (c3 : Rn pg 47 [V.ptr 2 14 [] 0 0, V.d (D.int .i64 150)] ([(4, Ob.row true 11 true [[C.d (D.int .i64 x.kind), C.d (D.int .i64 x.file), C.d (D.int .i64 x.line), C.d (D.str x.l.name), C.d (D.sl x.l.opers.nn (x.l.opers.l.map TOpr.c)), C.d (D.int .i64 x.v.add), C.d (D.str x.v.plus), C.d (D.str x.v.minus), C.d (D.int .i64 x.size), C.d (D.sl x.b.nn (x.b.l.map u8c)), C.d (D.int .i64 x.align)]])] :: ta :: [(4, oa), (8, ob), (14, Ob.row true 8 true [[C.own 4 false (m.parts.map OPrt.oc), C.own 9 false (m.marks.map TMrk.oc), C.own 3 false (m.globals.map TTld.oc), C.mp (atOf m.parts), C.own 3 false (m.faults.map TFlt.oc), C.d (D.int .i64 m.file), C.d (D.int .i64 m.line), C.d (D.str m.name)]])] :: hp) (V.tup []) ([(4, Ob.row true 11 true [[C.d (D.int .i64 x.kind), C.d (D.int .i64 x.file), C.d (D.int .i64 x.line), C.d (D.str x.l.name), C.d (D.sl x.l.opers.nn (x.l.opers.l.map TOpr.c)), C.d (D.int .i64 x.v.add), C.d (D.str x.v.plus), C.d (D.str x.v.minus), C.d (D.int .i64 x.size), C.d (D.sl x.b.nn (x.b.l.map u8c)), C.d (D.int .i64 x.align)]])] :: ta :: [(4, oa), (8, ob), (14, (m.failsM 150).obF)] :: hp)) :
    Rn pg 49 [V.ptr 1 14 [] 0 0, V.d (D.agg [D.int .i64 x.kind, D.int .i64 x.file, D.int .i64 x.line, D.str x.l.name, D.sl x.l.opers.nn (x.l.opers.l.map TOpr.c), D.int .i64 x.v.add, D.str x.v.plus, D.str x.v.minus, D.int .i64 x.size, D.sl x.b.nn (x.b.l.map u8c), D.int .i64 x.align]), V.d (D.bool z)] (ta :: [(4, oa), (8, ob), (14, Ob.row true 8 true [[C.own 4 false (m.parts.map OPrt.oc), C.own 9 false (m.marks.map TMrk.oc), C.own 3 false (m.globals.map TTld.oc), C.mp (atOf m.parts), C.own 3 false (m.faults.map TFlt.oc), C.d (D.int .i64 m.file), C.d (D.int .i64 m.line), C.d (D.str m.name)]])] :: hp) (V.tup []) (ta :: [(4, oa), (8, ob), (14, (m.failsM 150).obF)] :: hp) :=
  Rn.c (fn := i49) (ex := .ret) (st := ⟨[], [] :: ta :: [(4, oa), (8, ob), (14, (m.failsM 150).obF)] :: hp⟩) (hs := [.b true, .b true, .b true, .b true, .b true, .call (V.d (D.int .i64 (kindOf m.name))) ([]), .b true, .b true, .b true, .call (V.tup []) ([(4, Ob.row true 11 true [[C.d (D.int .i64 x.kind), C.d (D.int .i64 x.file), C.d (D.int .i64 x.line), C.d (D.str x.l.name), C.d (D.sl x.l.opers.nn (x.l.opers.l.map TOpr.c)), C.d (D.int .i64 x.v.add), C.d (D.str x.v.plus), C.d (D.str x.v.minus), C.d (D.int .i64 x.size), C.d (D.sl x.b.nn (x.b.l.map u8c)), C.d (D.int .i64 x.align)]])] :: ta :: [(4, oa), (8, ob), (14, (m.failsM 150).obF)] :: hp)]) (cs := [_, _, _, _, _, _, _, _, _, _]) (rs := []) (t := [])
    (by kernel_rfl) (by kernel_rfl) (by kernel_rfl) (by kernel_rfl) (by kernel_rfl) (by kernel_rfl) ⟨c0, c0, c0, c0, c0, c1, c0, c0, c2, c3, trivial⟩
end Go.Proofs.YtgmphfmoonbfpaaMv

set_option maxRecDepth 100000
namespace Go.Proofs.YtgmphfmoonbfpaaMv
open Go
theorem w36l_0_0 (s : List UInt8) (hp : HL)
    (c0 : ([[D.str (([46, 116, 101, 120, 116])), D.int .i64 1], [D.str (([46, 114, 111, 100, 97, 116, 97])), D.int .i64 3], [D.str (([46, 98, 115, 115])), D.int .i64 4]] : List (List D))[0]? = some [D.str (([46, 116, 101, 120, 116])), D.int .i64 1])
    (c1 : (s == (([46, 116, 101, 120, 116]))) = false)
    (c2 : ¬ ((((([46, 116, 101, 120, 116])).length + ([46]).length : Nat) : Int) > IntKind.i64.max))
    (c3 : Rn pg 30 [V.d (D.str s), V.d (D.str ((([46, 116, 101, 120, 116])) ++ ([46])))] ([]) (V.d (D.bool (hasPre s ((([46, 116, 101, 120, 116])) ++ ([46]))))) ([]))
    (c4 : (hasPre s ((([46, 116, 101, 120, 116])) ++ ([46]))) = false) :
    Ev pg i36_l0 ⟨[(0, V.d (D.str s)), (8, V.d (D.sl true [[D.str (([46, 116, 101, 120, 116])), D.int .i64 1], [D.str (([46, 114, 111, 100, 97, 116, 97])), D.int .i64 3], [D.str (([46, 98, 115, 115])), D.int .i64 4]])), (9, V.d (D.int .i64 3)), (10, V.d (D.int .i64 0))], [] :: hp⟩ .normal ⟨[(0, V.d (D.str s)), (8, V.d (D.sl true [[D.str (([46, 116, 101, 120, 116])), D.int .i64 1], [D.str (([46, 114, 111, 100, 97, 116, 97])), D.int .i64 3], [D.str (([46, 98, 115, 115])), D.int .i64 4]])), (9, V.d (D.int .i64 3)), (10, V.d (D.int .i64 1))], [] :: hp⟩ :=
  codeC_ok (hs := [.b true, .n 0, .ds [D.str (([46, 116, 101, 120, 116])), D.int .i64 1], .b false, .b false, .b false, .b false, .b false, .call (V.d (D.bool (hasPre s ((([46, 116, 101, 120, 116])) ++ ([46]))))) ([]), .b false, .b false]) (hs' := []) (cs := [true = true, 0 = ((0 : Nat) : Int), _, _, _, _, _, _, _, _, _, _]) (by kernel_rfl) ⟨rfl, rfl, c0, c1, c1, c1, c1, c2, c1, c3, c1, c4, trivial⟩
theorem w36l_0_1 (s : List UInt8) (hp : HL)
    (c0 : ([[D.str (([46, 116, 101, 120, 116])), D.int .i64 1], [D.str (([46, 114, 111, 100, 97, 116, 97])), D.int .i64 3], [D.str (([46, 98, 115, 115])), D.int .i64 4]] : List (List D))[0]? = some [D.str (([46, 116, 101, 120, 116])), D.int .i64 1])
    (c1 : (s == (([46, 116, 101, 120, 116]))) = false)
    (c2 : ¬ ((((([46, 116, 101, 120, 116])).length + ([46]).length : Nat) : Int) > IntKind.i64.max))
    (c3 : Rn pg 30 [V.d (D.str s), V.d (D.str ((([46, 116, 101, 120, 116])) ++ ([46])))] ([]) (V.d (D.bool (hasPre s ((([46, 116, 101, 120, 116])) ++ ([46]))))) ([]))
    (c4 : (hasPre s ((([46, 116, 101, 120, 116])) ++ ([46]))) = true) :
    Ev pg i36_l0 ⟨[(0, V.d (D.str s)), (8, V.d (D.sl true [[D.str (([46, 116, 101, 120, 116])), D.int .i64 1], [D.str (([46, 114, 111, 100, 97, 116, 97])), D.int .i64 3], [D.str (([46, 98, 115, 115])), D.int .i64 4]])), (9, V.d (D.int .i64 3)), (10, V.d (D.int .i64 0))], [] :: hp⟩ .ret ⟨[(2, V.d (D.int .i64 1))], [] :: hp⟩ :=
  codeC_ok (hs := [.b true, .n 0, .ds [D.str (([46, 116, 101, 120, 116])), D.int .i64 1], .b false, .b false, .b false, .b false, .b false, .call (V.d (D.bool (hasPre s ((([46, 116, 101, 120, 116])) ++ ([46]))))) ([]), .b false, .b true]) (hs' := []) (cs := [true = true, 0 = ((0 : Nat) : Int), _, _, _, _, _, _, _, _, _, _]) (by kernel_rfl) ⟨rfl, rfl, c0, c1, c1, c1, c1, c2, c1, c3, c1, c4, trivial⟩
theorem w36l_0_2 (s : List UInt8) (hp : HL)
    (c0 : ([[D.str (([46, 116, 101, 120, 116])), D.int .i64 1], [D.str (([46, 114, 111, 100, 97, 116, 97])), D.int .i64 3], [D.str (([46, 98, 115, 115])), D.int .i64 4]] : List (List D))[0]? = some [D.str (([46, 116, 101, 120, 116])), D.int .i64 1])
    (c1 : (s == (([46, 116, 101, 120, 116]))) = true) :
    Ev pg i36_l0 ⟨[(0, V.d (D.str s)), (8, V.d (D.sl true [[D.str (([46, 116, 101, 120, 116])), D.int .i64 1], [D.str (([46, 114, 111, 100, 97, 116, 97])), D.int .i64 3], [D.str (([46, 98, 115, 115])), D.int .i64 4]])), (9, V.d (D.int .i64 3)), (10, V.d (D.int .i64 0))], [] :: hp⟩ .ret ⟨[(2, V.d (D.int .i64 1))], [] :: hp⟩ :=
  codeC_ok (hs := [.b true, .n 0, .ds [D.str (([46, 116, 101, 120, 116])), D.int .i64 1], .b true, .b true, .b true, .b true, .b true, .b true, .b true]) (hs' := []) (cs := [true = true, 0 = ((0 : Nat) : Int), _, _, _, _, _, _, _, true = true]) (by kernel_rfl) ⟨rfl, rfl, c0, c1, c1, c1, c1, c1, c1, rfl, trivial⟩
theorem w36l_1_0 (s : List UInt8) (hp : HL)
    (c0 : ([[D.str (([46, 116, 101, 120, 116])), D.int .i64 1], [D.str (([46, 114, 111, 100, 97, 116, 97])), D.int .i64 3], [D.str (([46, 98, 115, 115])), D.int .i64 4]] : List (List D))[1]? = some [D.str (([46, 114, 111, 100, 97, 116, 97])), D.int .i64 3])
    (c1 : (s == (([46, 114, 111, 100, 97, 116, 97]))) = false)
    (c2 : ¬ ((((([46, 114, 111, 100, 97, 116, 97])).length + ([46]).length : Nat) : Int) > IntKind.i64.max))
    (c3 : Rn pg 30 [V.d (D.str s), V.d (D.str ((([46, 114, 111, 100, 97, 116, 97])) ++ ([46])))] ([]) (V.d (D.bool (hasPre s ((([46, 114, 111, 100, 97, 116, 97])) ++ ([46]))))) ([]))
    (c4 : (hasPre s ((([46, 114, 111, 100, 97, 116, 97])) ++ ([46]))) = false) :
    Ev pg i36_l0 ⟨[(0, V.d (D.str s)), (8, V.d (D.sl true [[D.str (([46, 116, 101, 120, 116])), D.int .i64 1], [D.str (([46, 114, 111, 100, 97, 116, 97])), D.int .i64 3], [D.str (([46, 98, 115, 115])), D.int .i64 4]])), (9, V.d (D.int .i64 3)), (10, V.d (D.int .i64 1))], [] :: hp⟩ .normal ⟨[(0, V.d (D.str s)), (8, V.d (D.sl true [[D.str (([46, 116, 101, 120, 116])), D.int .i64 1], [D.str (([46, 114, 111, 100, 97, 116, 97])), D.int .i64 3], [D.str (([46, 98, 115, 115])), D.int .i64 4]])), (9, V.d (D.int .i64 3)), (10, V.d (D.int .i64 2))], [] :: hp⟩ :=
  codeC_ok (hs := [.b true, .n 1, .ds [D.str (([46, 114, 111, 100, 97, 116, 97])), D.int .i64 3], .b false, .b false, .b false, .b false, .b false, .call (V.d (D.bool (hasPre s ((([46, 114, 111, 100, 97, 116, 97])) ++ ([46]))))) ([]), .b false, .b false]) (hs' := []) (cs := [true = true, 1 = ((1 : Nat) : Int), _, _, _, _, _, _, _, _, _, _]) (by kernel_rfl) ⟨rfl, rfl, c0, c1, c1, c1, c1, c2, c1, c3, c1, c4, trivial⟩
theorem w36l_1_1 (s : List UInt8) (hp : HL)
    (c0 : ([[D.str (([46, 116, 101, 120, 116])), D.int .i64 1], [D.str (([46, 114, 111, 100, 97, 116, 97])), D.int .i64 3], [D.str (([46, 98, 115, 115])), D.int .i64 4]] : List (List D))[1]? = some [D.str (([46, 114, 111, 100, 97, 116, 97])), D.int .i64 3])
    (c1 : (s == (([46, 114, 111, 100, 97, 116, 97]))) = false)
    (c2 : ¬ ((((([46, 114, 111, 100, 97, 116, 97])).length + ([46]).length : Nat) : Int) > IntKind.i64.max))
    (c3 : Rn pg 30 [V.d (D.str s), V.d (D.str ((([46, 114, 111, 100, 97, 116, 97])) ++ ([46])))] ([]) (V.d (D.bool (hasPre s ((([46, 114, 111, 100, 97, 116, 97])) ++ ([46]))))) ([]))
    (c4 : (hasPre s ((([46, 114, 111, 100, 97, 116, 97])) ++ ([46]))) = true) :
    Ev pg i36_l0 ⟨[(0, V.d (D.str s)), (8, V.d (D.sl true [[D.str (([46, 116, 101, 120, 116])), D.int .i64 1], [D.str (([46, 114, 111, 100, 97, 116, 97])), D.int .i64 3], [D.str (([46, 98, 115, 115])), D.int .i64 4]])), (9, V.d (D.int .i64 3)), (10, V.d (D.int .i64 1))], [] :: hp⟩ .ret ⟨[(2, V.d (D.int .i64 3))], [] :: hp⟩ :=
  codeC_ok (hs := [.b true, .n 1, .ds [D.str (([46, 114, 111, 100, 97, 116, 97])), D.int .i64 3], .b false, .b false, .b false, .b false, .b false, .call (V.d (D.bool (hasPre s ((([46, 114, 111, 100, 97, 116, 97])) ++ ([46]))))) ([]), .b false, .b true]) (hs' := []) (cs := [true = true, 1 = ((1 : Nat) : Int), _, _, _, _, _, _, _, _, _, _]) (by kernel_rfl) ⟨rfl, rfl, c0, c1, c1, c1, c1, c2, c1, c3, c1, c4, trivial⟩
theorem w36l_1_2 (s : List UInt8) (hp : HL)
    (c0 : ([[D.str (([46, 116, 101, 120, 116])), D.int .i64 1], [D.str (([46, 114, 111, 100, 97, 116, 97])), D.int .i64 3], [D.str (([46, 98, 115, 115])), D.int .i64 4]] : List (List D))[1]? = some [D.str (([46, 114, 111, 100, 97, 116, 97])), D.int .i64 3])
    (c1 : (s == (([46, 114, 111, 100, 97, 116, 97]))) = true) :
    Ev pg i36_l0 ⟨[(0, V.d (D.str s)), (8, V.d (D.sl true [[D.str (([46, 116, 101, 120, 116])), D.int .i64 1], [D.str (([46, 114, 111, 100, 97, 116, 97])), D.int .i64 3], [D.str (([46, 98, 115, 115])), D.int .i64 4]])), (9, V.d (D.int .i64 3)), (10, V.d (D.int .i64 1))], [] :: hp⟩ .ret ⟨[(2, V.d (D.int .i64 3))], [] :: hp⟩ :=
  codeC_ok (hs := [.b true, .n 1, .ds [D.str (([46, 114, 111, 100, 97, 116, 97])), D.int .i64 3], .b true, .b true, .b true, .b true, .b true, .b true, .b true]) (hs' := []) (cs := [true = true, 1 = ((1 : Nat) : Int), _, _, _, _, _, _, _, true = true]) (by kernel_rfl) ⟨rfl, rfl, c0, c1, c1, c1, c1, c1, c1, rfl, trivial⟩
theorem w36l_2_0 (s : List UInt8) (hp : HL)
    (c0 : ([[D.str (([46, 116, 101, 120, 116])), D.int .i64 1], [D.str (([46, 114, 111, 100, 97, 116, 97])), D.int .i64 3], [D.str (([46, 98, 115, 115])), D.int .i64 4]] : List (List D))[2]? = some [D.str (([46, 98, 115, 115])), D.int .i64 4])
    (c1 : (s == (([46, 98, 115, 115]))) = false)
    (c2 : ¬ ((((([46, 98, 115, 115])).length + ([46]).length : Nat) : Int) > IntKind.i64.max))
    (c3 : Rn pg 30 [V.d (D.str s), V.d (D.str ((([46, 98, 115, 115])) ++ ([46])))] ([]) (V.d (D.bool (hasPre s ((([46, 98, 115, 115])) ++ ([46]))))) ([]))
    (c4 : (hasPre s ((([46, 98, 115, 115])) ++ ([46]))) = false) :
    Ev pg i36_l0 ⟨[(0, V.d (D.str s)), (8, V.d (D.sl true [[D.str (([46, 116, 101, 120, 116])), D.int .i64 1], [D.str (([46, 114, 111, 100, 97, 116, 97])), D.int .i64 3], [D.str (([46, 98, 115, 115])), D.int .i64 4]])), (9, V.d (D.int .i64 3)), (10, V.d (D.int .i64 2))], [] :: hp⟩ .normal ⟨[(0, V.d (D.str s)), (8, V.d (D.sl true [[D.str (([46, 116, 101, 120, 116])), D.int .i64 1], [D.str (([46, 114, 111, 100, 97, 116, 97])), D.int .i64 3], [D.str (([46, 98, 115, 115])), D.int .i64 4]])), (9, V.d (D.int .i64 3)), (10, V.d (D.int .i64 3))], [] :: hp⟩ :=
  codeC_ok (hs := [.b true, .n 2, .ds [D.str (([46, 98, 115, 115])), D.int .i64 4], .b false, .b false, .b false, .b false, .b false, .call (V.d (D.bool (hasPre s ((([46, 98, 115, 115])) ++ ([46]))))) ([]), .b false, .b false]) (hs' := []) (cs := [true = true, 2 = ((2 : Nat) : Int), _, _, _, _, _, _, _, _, _, _]) (by kernel_rfl) ⟨rfl, rfl, c0, c1, c1, c1, c1, c2, c1, c3, c1, c4, trivial⟩
theorem w36l_2_1 (s : List UInt8) (hp : HL)
    (c0 : ([[D.str (([46, 116, 101, 120, 116])), D.int .i64 1], [D.str (([46, 114, 111, 100, 97, 116, 97])), D.int .i64 3], [D.str (([46, 98, 115, 115])), D.int .i64 4]] : List (List D))[2]? = some [D.str (([46, 98, 115, 115])), D.int .i64 4])
    (c1 : (s == (([46, 98, 115, 115]))) = false)
    (c2 : ¬ ((((([46, 98, 115, 115])).length + ([46]).length : Nat) : Int) > IntKind.i64.max))
    (c3 : Rn pg 30 [V.d (D.str s), V.d (D.str ((([46, 98, 115, 115])) ++ ([46])))] ([]) (V.d (D.bool (hasPre s ((([46, 98, 115, 115])) ++ ([46]))))) ([]))
    (c4 : (hasPre s ((([46, 98, 115, 115])) ++ ([46]))) = true) :
    Ev pg i36_l0 ⟨[(0, V.d (D.str s)), (8, V.d (D.sl true [[D.str (([46, 116, 101, 120, 116])), D.int .i64 1], [D.str (([46, 114, 111, 100, 97, 116, 97])), D.int .i64 3], [D.str (([46, 98, 115, 115])), D.int .i64 4]])), (9, V.d (D.int .i64 3)), (10, V.d (D.int .i64 2))], [] :: hp⟩ .ret ⟨[(2, V.d (D.int .i64 4))], [] :: hp⟩ :=
  codeC_ok (hs := [.b true, .n 2, .ds [D.str (([46, 98, 115, 115])), D.int .i64 4], .b false, .b false, .b false, .b false, .b false, .call (V.d (D.bool (hasPre s ((([46, 98, 115, 115])) ++ ([46]))))) ([]), .b false, .b true]) (hs' := []) (cs := [true = true, 2 = ((2 : Nat) : Int), _, _, _, _, _, _, _, _, _, _]) (by kernel_rfl) ⟨rfl, rfl, c0, c1, c1, c1, c1, c2, c1, c3, c1, c4, trivial⟩
theorem w36l_2_2 (s : List UInt8) (hp : HL)
    (c0 : ([[D.str (([46, 116, 101, 120, 116])), D.int .i64 1], [D.str (([46, 114, 111, 100, 97, 116, 97])), D.int .i64 3], [D.str (([46, 98, 115, 115])), D.int .i64 4]] : List (List D))[2]? = some [D.str (([46, 98, 115, 115])), D.int .i64 4])
    (c1 : (s == (([46, 98, 115, 115]))) = true) :
    Ev pg i36_l0 ⟨[(0, V.d (D.str s)), (8, V.d (D.sl true [[D.str (([46, 116, 101, 120, 116])), D.int .i64 1], [D.str (([46, 114, 111, 100, 97, 116, 97])), D.int .i64 3], [D.str (([46, 98, 115, 115])), D.int .i64 4]])), (9, V.d (D.int .i64 3)), (10, V.d (D.int .i64 2))], [] :: hp⟩ .ret ⟨[(2, V.d (D.int .i64 4))], [] :: hp⟩ :=
  codeC_ok (hs := [.b true, .n 2, .ds [D.str (([46, 98, 115, 115])), D.int .i64 4], .b true, .b true, .b true, .b true, .b true, .b true, .b true]) (hs' := []) (cs := [true = true, 2 = ((2 : Nat) : Int), _, _, _, _, _, _, _, true = true]) (by kernel_rfl) ⟨rfl, rfl, c0, c1, c1, c1, c1, c1, c1, rfl, trivial⟩
theorem w36l_3_0 (s : List UInt8) (hp : HL)
     :
    Ev pg i36_l0 ⟨[(0, V.d (D.str s)), (8, V.d (D.sl true [[D.str (([46, 116, 101, 120, 116])), D.int .i64 1], [D.str (([46, 114, 111, 100, 97, 116, 97])), D.int .i64 3], [D.str (([46, 98, 115, 115])), D.int .i64 4]])), (9, V.d (D.int .i64 3)), (10, V.d (D.int .i64 3))], [] :: hp⟩ (.exit 0) ⟨[(0, V.d (D.str s)), (8, V.d (D.sl true [[D.str (([46, 116, 101, 120, 116])), D.int .i64 1], [D.str (([46, 114, 111, 100, 97, 116, 97])), D.int .i64 3], [D.str (([46, 98, 115, 115])), D.int .i64 4]])), (9, V.d (D.int .i64 3)), (10, V.d (D.int .i64 3)), (11, V.d (D.bool false))], [] :: hp⟩ :=
  codeC_ok (hs := [.b false]) (hs' := []) (cs := [false = false]) (by kernel_rfl) ⟨rfl, trivial⟩
theorem w36_0 (s : List UInt8) (hp : HL)
    (c0 : Lp pg i36_l0 ⟨[(0, V.d (D.str s)), (8, V.d (D.sl true [[D.str ([46, 116, 101, 120, 116]), D.int .i64 1], [D.str ([46, 114, 111, 100, 97, 116, 97]), D.int .i64 3], [D.str ([46, 98, 115, 115]), D.int .i64 4]])), (9, V.d (D.int .i64 3)), (10, V.d (D.int .i64 0))], [] :: hp⟩ (.exit 0) ⟨[(0, V.d (D.str s)), (8, V.d (D.sl true [[D.str (([46, 116, 101, 120, 116])), D.int .i64 1], [D.str (([46, 114, 111, 100, 97, 116, 97])), D.int .i64 3], [D.str (([46, 98, 115, 115])), D.int .i64 4]])), (9, V.d (D.int .i64 3)), (10, V.d (D.int .i64 3)), (11, V.d (D.bool false))], [] :: hp⟩) :
    Rn pg 36 [V.d (D.str s)] (hp) (V.d (D.int .i64 2)) (hp) :=
  Rn.c (fn := i36) (ex := .ret) (st := ⟨[(2, V.d (D.int .i64 2))], [] :: hp⟩) (hs := [.lp (.exit 0) ⟨[(0, V.d (D.str s)), (8, V.d (D.sl true [[D.str (([46, 116, 101, 120, 116])), D.int .i64 1], [D.str (([46, 114, 111, 100, 97, 116, 97])), D.int .i64 3], [D.str (([46, 98, 115, 115])), D.int .i64 4]])), (9, V.d (D.int .i64 3)), (10, V.d (D.int .i64 3)), (11, V.d (D.bool false))], [] :: hp⟩]) (cs := [_]) (rs := [V.d (D.int .i64 2)]) (t := [])
    (by kernel_rfl) (by kernel_rfl) (by kernel_rfl) (by kernel_rfl) (by kernel_rfl) (by kernel_rfl) ⟨c0, trivial⟩
theorem w36_1 (s : List UInt8) (hp : HL) (k1 : Int)
    (c0 : Lp pg i36_l0 ⟨[(0, V.d (D.str s)), (8, V.d (D.sl true [[D.str ([46, 116, 101, 120, 116]), D.int .i64 1], [D.str ([46, 114, 111, 100, 97, 116, 97]), D.int .i64 3], [D.str ([46, 98, 115, 115]), D.int .i64 4]])), (9, V.d (D.int .i64 3)), (10, V.d (D.int .i64 0))], [] :: hp⟩ .ret ⟨[(2, V.d (D.int .i64 k1))], [] :: hp⟩) :
    Rn pg 36 [V.d (D.str s)] (hp) (V.d (D.int .i64 k1)) (hp) :=
  Rn.c (fn := i36) (ex := .ret) (st := ⟨[(2, V.d (D.int .i64 k1))], [] :: hp⟩) (hs := [.lp .ret ⟨[(2, V.d (D.int .i64 k1))], [] :: hp⟩]) (cs := [_]) (rs := [V.d (D.int .i64 k1)]) (t := [])
    (by kernel_rfl) (by kernel_rfl) (by kernel_rfl) (by kernel_rfl) (by kernel_rfl) (by kernel_rfl) ⟨c0, trivial⟩
end Go.Proofs.YtgmphfmoonbfpaaMv

namespace Go.Proofs.YtgmphfmoonbfpaaMv
open Go
theorem Ms.obF_part (m : Ms) : m.partM.obF = Ob.row true 8 true [[C.own 4 false (m.partM.parts.map OPrt.oc), C.own 9 false (m.marks.map TMrk.oc), C.own 3 false (m.globals.map TTld.oc), C.mp (atOf m.partM.parts), C.own 3 false (m.faults.map TFlt.oc), C.d (D.int .i64 m.file), C.d (D.int .i64 m.line), C.d (D.str m.name)]] := by
  rw [Ms.obF]; conv => lhs; rw [m.partM_eq]
theorem sc_get {ps : List OPrt} {i : Nat} {p : OPrt} (h : ps[i]? = some p) : (setCells (ps.map OPrt.oc) i 3 [C.bad])[i]? = some [C.d (D.str p.name), C.d (D.int .i64 p.file), C.d (D.int .i64 p.line), C.bad] := by
  have hl : i < ps.length := (List.getElem?_eq_some_iff.1 h).1
  have he : ps[i] = p := (List.getElem?_eq_some_iff.1 h).2
  simp [setCells, h, OPrt.oc, overlay, hl, he]
theorem sc_put {ps : List OPrt} {i : Nat} {p : OPrt} (h : ps[i]? = some p) (x : TPce) :
    setCells (setCells (ps.map OPrt.oc) i 3 [C.bad]) i 3 [C.own 11 false ((p.pieces.map TPce.oc) ++ [x.oc])] = (ps.modify i (·.add x)).map OPrt.oc := by
  have hl : i < ps.length := (List.getElem?_eq_some_iff.1 h).1
  have h1 : setCells (ps.map OPrt.oc) i 3 [C.bad] = (ps.map OPrt.oc).set i [C.d (D.str p.name), C.d (D.int .i64 p.file), C.d (D.int .i64 p.line), C.bad] := by
    simp [setCells, h, OPrt.oc, overlay]
  rw [h1]
  simp only [setCells]
  rw [List.getElem?_set_self (by simpa using hl)]
  simp only [overlay, List.set_set]
  apply List.ext_getElem?
  intro j
  rw [List.getElem?_map, List.getElem?_modify, List.getElem?_set]
  by_cases hj : i = j
  · subst hj
    have he : ps[i] = p := (List.getElem?_eq_some_iff.1 h).2
    simp [hl, he, OPrt.add, OPrt.oc]
  · simp [hj]
theorem at_modify (x : TPce) : ∀ (ps : List OPrt) (i : Nat), atOf (ps.modify i (·.add x)) = atOf ps := by
  intro ps i
  suffices h : ∀ (ps : List OPrt) (i j : Nat), atGo j (ps.modify i (·.add x)) = atGo j ps from h ps i 0
  intro ps
  induction ps with
  | nil => intro i j; cases i <;> rfl
  | cons p ps ih =>
    intro i j
    cases i with
    | zero => rfl
    | succ i => simp only [List.modify_succ_cons, atGo, ih]
theorem begins_ff {s q : List UInt8} (h : begins s q = false) : (s == q) = false ∧ hasPre s (q ++ [46]) = false := by
  simpa [begins] using h
theorem i64big {k : Nat} (h : k < 100) : ¬ ((k : Nat) : Int) > IntKind.i64.max := by simp [IntKind.max, IntKind.signed, IntKind.bits]; omega
theorem f36 (s : List UInt8) (hp : HL) : Rn pg 36 [.d (.str s)] hp (.d (.int .i64 (kindOf s))) hp := by
  cases h1 : begins s [46, 116, 101, 120, 116] with
  | true =>
    have e : kindOf s = 1 := by simp [kindOf, h1]
    rw [e]
    refine w36_1 s hp 1 ?_
    cases h : s == [46, 116, 101, 120, 116] with
    | true => exact Lp.ret (w36l_0_2 s hp rfl h)
    | false => exact Lp.ret (w36l_0_1 s hp rfl h (i64big (k := 6) (by omega)) (f30 _ _ _) (by simpa [begins, h] using h1))
  | false =>
    have a1 := begins_ff h1
    have r1 := w36l_0_0 s hp rfl a1.1 (i64big (k := 6) (by omega)) (f30 _ _ _) a1.2
    cases h2 : begins s [46, 114, 111, 100, 97, 116, 97] with
    | true =>
      have e : kindOf s = 3 := by simp [kindOf, h1, h2]
      rw [e]
      refine w36_1 s hp 3 (Lp.next r1 ?_)
      cases h : s == [46, 114, 111, 100, 97, 116, 97] with
      | true => exact Lp.ret (w36l_1_2 s hp rfl h)
      | false => exact Lp.ret (w36l_1_1 s hp rfl h (i64big (k := 8) (by omega)) (f30 _ _ _) (by simpa [begins, h] using h2))
    | false =>
      have a2 := begins_ff h2
      have r2 := w36l_1_0 s hp rfl a2.1 (i64big (k := 8) (by omega)) (f30 _ _ _) a2.2
      cases h3 : begins s [46, 98, 115, 115] with
      | true =>
        have e : kindOf s = 4 := by simp [kindOf, h1, h2, h3]
        rw [e]
        refine w36_1 s hp 4 (Lp.next r1 (Lp.next r2 ?_))
        cases h : s == [46, 98, 115, 115] with
        | true => exact Lp.ret (w36l_2_2 s hp rfl h)
        | false => exact Lp.ret (w36l_2_1 s hp rfl h (i64big (k := 5) (by omega)) (f30 _ _ _) (by simpa [begins, h] using h3))
      | false =>
        have a3 := begins_ff h3
        have r3 := w36l_2_0 s hp rfl a3.1 (i64big (k := 5) (by omega)) (f30 _ _ _) a3.2
        have e : kindOf s = 2 := by simp [kindOf, h1, h2, h3]
        rw [e]
        exact w36_0 s hp (Lp.next r1 (Lp.next r2 (Lp.next r3 (Lp.exit (w36l_3_0 s hp)))))
theorem Ms.markF (m : Ms) {nm : List UInt8} (h : ¬ 255 < nm.length) (eq : Bool) (v : TVal) : (m.markM nm eq v).obF = Ob.row true 8 true [[C.own 4 false (m.partM.parts.map OPrt.oc), C.own 9 false ((m.marks.map TMrk.oc) ++ [[C.d (D.str nm), C.d (D.int .i64 m.file), C.d (D.int .i64 m.line), C.d (D.int .i64 ((m.partI : Nat) : Int)), C.d (D.int .i64 (((m.thePart.pieces.map TPce.oc).length : Nat) : Int)), C.d (D.bool eq), C.d (D.int .i64 v.add), C.d (D.str v.plus), C.d (D.str v.minus)]]), C.own 3 false (m.globals.map TTld.oc), C.mp (atOf m.partM.parts), C.own 3 false (m.faults.map TFlt.oc), C.d (D.int .i64 m.file), C.d (D.int .i64 m.line), C.d (D.str m.name)]] := by
  simp only [Ms.markM, if_neg h, m.plen_eq]
  rw [Ms.obF]
  simp only [List.map_append, List.map_cons, List.map_nil, List.length_map]
  rw [show m.partM.globals = m.globals by rw [m.partM_eq], show m.partM.faults = m.faults by rw [m.partM_eq], show m.partM.file = m.file by rw [m.partM_eq], show m.partM.line = m.line by rw [m.partM_eq], show m.partM.name = m.name by rw [m.partM_eq]]
  rfl
theorem pce_oc (x : TPce) (f l : Int) : TPce.oc { x with file := f, line := l } = [C.d (D.int .i64 x.kind), C.d (D.int .i64 f), C.d (D.int .i64 l), C.d (D.str x.l.name), C.d (D.sl x.l.opers.nn (x.l.opers.l.map TOpr.c)), C.d (D.int .i64 x.v.add), C.d (D.str x.v.plus), C.d (D.str x.v.minus), C.d (D.int .i64 x.size), C.d (D.sl x.b.nn (x.b.l.map u8c)), C.d (D.int .i64 x.align)] := rfl
theorem Ms.putF (m : Ms) (x : TPce) {bad : Bool} (h : (bad && kindOf m.name == 4) = false) : (m.putM x bad).obF = Ob.row true 8 true [[C.own 4 false (setCells (setCells (m.partM.parts.map OPrt.oc) m.partI 3 [C.bad]) m.partI 3 [C.own 11 false ((m.thePart.pieces.map TPce.oc) ++ [[C.d (D.int .i64 x.kind), C.d (D.int .i64 m.file), C.d (D.int .i64 m.line), C.d (D.str x.l.name), C.d (D.sl x.l.opers.nn (x.l.opers.l.map TOpr.c)), C.d (D.int .i64 x.v.add), C.d (D.str x.v.plus), C.d (D.str x.v.minus), C.d (D.int .i64 x.size), C.d (D.sl x.b.nn (x.b.l.map u8c)), C.d (D.int .i64 x.align)]])]), C.own 9 false (m.marks.map TMrk.oc), C.own 3 false (m.globals.map TTld.oc), C.mp (atOf m.partM.parts), C.own 3 false (m.faults.map TFlt.oc), C.d (D.int .i64 m.file), C.d (D.int .i64 m.line), C.d (D.str m.name)]] := by
  rw [← pce_oc x m.file m.line, sc_put m.thePart_get]
  simp only [Ms.putM, h, Bool.false_eq_true, if_false]
  rw [Ms.obF]
  simp only [show m.partM.marks = m.marks by rw [m.partM_eq], show m.partM.globals = m.globals by rw [m.partM_eq], show m.partM.faults = m.faults by rw [m.partM_eq], show m.partM.file = m.file by rw [m.partM_eq], show m.partM.line = m.line by rw [m.partM_eq], show m.partM.name = m.name by rw [m.partM_eq]]
  rw [at_modify]
theorem f26_0 {m : Ms} {k : Nat} (h : m.le k) (hk : k < 2 ^ 29) (oa ob : Ob) (x : TMrk) (hp : HL) : Rn pg 26 [V.ptr 0 14 [] 0 0, V.d (D.agg x.c)] ([(4, oa), (8, ob), (14, m.obF)] :: hp) (V.tup []) ([(4, oa), (8, ob), (14, (m.markM x.name x.equ x.v).obF)] :: hp) := by
  by_cases hn : 255 < x.name.length
  · rw [show m.markM x.name x.equ x.v = m.failsM 3 by simp [Ms.markM, hn]]
    exact w26_u0_1 m oa ob x hp (by simp; omega) (f47_1 h (by omega) oa ob _ 3 hp)
  · rw [m.markF hn]
    have r := f48_1 h (by omega) oa ob [(3, Ob.row true 9 true [x.oc])] hp
    rw [m.obF_part] at r
    exact w26_u0_0 m oa ob x hp m.thePart (by simp; omega) r (cellAtM m.thePart_get rfl) rfl (by have := h.marks; simp [room_eq]; omega) (by simp)
theorem f26_1 {m : Ms} {k : Nat} (h : m.le k) (hk : k < 2 ^ 29) (oa ob : Ob) (ta : List (Nat × Ob)) (x : TMrk) (hp : HL) : Rn pg 26 [V.ptr 1 14 [] 0 0, V.d (D.agg x.c)] (ta :: [(4, oa), (8, ob), (14, m.obF)] :: hp) (V.tup []) (ta :: [(4, oa), (8, ob), (14, (m.markM x.name x.equ x.v).obF)] :: hp) := by
  by_cases hn : 255 < x.name.length
  · rw [show m.markM x.name x.equ x.v = m.failsM 3 by simp [Ms.markM, hn]]
    exact w26_u1_1 m oa ob ta x hp (by simp; omega) (f47_2 h (by omega) oa ob _ ta 3 hp)
  · rw [m.markF hn]
    have r := f48_2 h (by omega) oa ob [(3, Ob.row true 9 true [x.oc])] ta hp
    rw [m.obF_part] at r
    exact w26_u1_0 m oa ob ta x hp m.thePart (by simp; omega) r (cellAtM m.thePart_get rfl) rfl (by have := h.marks; simp [room_eq]; omega) (by simp)
theorem f49_1 {m : Ms} {k : Nat} (h : m.le k) (hk : k < 2 ^ 29) (oa ob : Ob) (ta : List (Nat × Ob)) (x : TPce) (z : Bool) (hp : HL) : Rn pg 49 [V.ptr 1 14 [] 0 0, V.d (D.agg x.c), V.d (D.bool z)] (ta :: [(4, oa), (8, ob), (14, m.obF)] :: hp) (V.tup []) (ta :: [(4, oa), (8, ob), (14, (m.putM x (!z)).obF)] :: hp) := by
  have r := f48_2 h (by omega) oa ob [(4, Ob.row true 11 true [x.oc])] ta hp
  rw [m.obF_part] at r
  have hr : (((m.thePart.pieces.map TPce.oc).length) + 1) * 144 ≤ room := by
    have := m.le_part h |>.pieces m.thePart (List.mem_of_getElem? m.thePart_get)
    simp [room_eq]; omega
  cases z with
  | true =>
    rw [m.putF x (by simp)]
    exact w49_0 m oa ob ta x true hp m.thePart rfl r (cellAtM m.thePart_get rfl) rfl hr (by simp) (sc_get m.thePart_get)
  | false =>
    cases hb : kindOf m.name == 4 with
    | true =>
      rw [show m.putM x (!false) = m.failsM 150 by simp only [Ms.putM, hb]; rfl]
      exact w49_2 m oa ob ta x false hp rfl (f36 _ _) hb (f47_2 h (by omega) oa ob _ ta 150 hp)
    | false =>
      rw [m.putF x (by simp [hb])]
      exact w49_1 m oa ob ta x false hp m.thePart rfl (f36 _ _) hb r (cellAtM m.thePart_get rfl) rfl hr (by simp) (sc_get m.thePart_get)
theorem Ms.tellF (m : Ms) {nm : List UInt8} (h : ¬ 255 < nm.length) : (m.tellM nm).obF = Ob.row true 8 true [[C.own 4 false (m.parts.map OPrt.oc), C.own 9 false (m.marks.map TMrk.oc), C.own 3 false ((m.globals.map TTld.oc) ++ [[C.d (D.str nm), C.d (D.int .i64 m.file), C.d (D.int .i64 m.line)]]), C.mp (atOf m.parts), C.own 3 false (m.faults.map TFlt.oc), C.d (D.int .i64 m.file), C.d (D.int .i64 m.line), C.d (D.str m.name)]] := by
  simp [Ms.obF, Ms.tellM, h, TTld.oc]
end Go.Proofs.YtgmphfmoonbfpaaMv

namespace Go.Proofs.YtgmphfmoonbfpaaMv
open Go
def Sl.cp {α : Type} (r : Bool) (s : Sl α) : Sl α := if r then ⟨!s.l.isEmpty, s.l⟩ else s.cl
def Ms.wordM (size : Int) (m : Ms) (v : TVal) : Ms := m.putM ⟨3, 0, 0, ⟨[], ⟨false, []⟩⟩, v, size, ⟨false, []⟩, 0⟩ (!decide (v = val0))
def Ms.nameM (m : Ms) (n : List UInt8) : Ms := if 32 < n.length then m.failsM 3 else ({ m with name := n } : Ms).partM
def Ms.stmtM (r : Bool) (m : Ms) (s : TStm) : Ms :=
  if s.kind == 1 then m.putM ⟨if (growsV s.line).2.2 then 2 else 1, 0, 0, ⟨s.line.name, s.line.opers.cp r⟩, val0, 0, ⟨false, []⟩, 0⟩ true
  else if s.kind == 4 then m.putM ⟨5, 0, 0, ⟨[], ⟨false, []⟩⟩, val0, 0, ⟨false, []⟩, (fstV s.values.l).add⟩ false
  else if s.kind == 5 then s.values.l.foldl (Ms.wordM s.size) m
  else if s.kind == 6 then m.putM ⟨4, 0, 0, ⟨[], ⟨false, []⟩⟩, val0, 0, s.bytes.cp r, 0⟩ (!s.bytes.l.isEmpty)
  else if s.kind == 2 then m.nameM (fstS s.names.l)
  else if s.kind == 7 then m.markM (fstS s.names.l) true (fstV s.values.l)
  else if s.kind == 3 then s.names.l.foldl Ms.tellM m
  else m
end Go.Proofs.YtgmphfmoonbfpaaMv
