/- Part 8 of the proof. -/
import Derived.Test.YtgmphfmoonbfpaaP7
set_option linter.unusedVariables false
set_option linter.unusedSimpArgs false
set_option maxRecDepth 100000
namespace Go.Proofs.YtgmphfmoonbfpaaMv
open Go
end Go.Proofs.YtgmphfmoonbfpaaMv

set_option maxRecDepth 100000
namespace Go.Proofs.YtgmphfmoonbfpaaMv
open Go
end Go.Proofs.YtgmphfmoonbfpaaMv

namespace Go.Proofs.YtgmphfmoonbfpaaMv
open Go
def TStm.wt (s : TStm) : Nat := 2 + 2 * s.values.l.length + s.names.l.length
end Go.Proofs.YtgmphfmoonbfpaaMv

namespace Go.Proofs.YtgmphfmoonbfpaaMv
open Go
def TRow.wt (x : TRow) : Nat := x.s.labels.l.length + x.s.wt
end Go.Proofs.YtgmphfmoonbfpaaMv

set_option maxRecDepth 100000
namespace Go.Proofs.YtgmphfmoonbfpaaMv
open Go
end Go.Proofs.YtgmphfmoonbfpaaMv

set_option maxRecDepth 100000
namespace Go.Proofs.YtgmphfmoonbfpaaMv
open Go
end Go.Proofs.YtgmphfmoonbfpaaMv

namespace Go.Proofs.YtgmphfmoonbfpaaMv
open Go
theorem fzCss_map {α : Type} {f : α → List C} {g : α → List D} (h : ∀ x, fzCs (f x) = some (g x)) : ∀ l : List α, fzCss (l.map f) = some (l.map g)
  | [] => rfl
  | x :: l => by simp only [List.map_cons, fzCss, h x, Option.bind_some, fzCss_map h l, Option.map_some]
theorem fzPce (x : TPce) : fzCs x.oc = some x.c := rfl
theorem fzMrk (x : TMrk) : fzCs x.oc = some x.c := rfl
theorem fzTld (x : TTld) : fzCs x.oc = some x.c := rfl
theorem fzPrt (x : OPrt) : fzCs x.oc = some (TPrt.c x.t) := by
  simp only [OPrt.oc, fzCs, fzC, Option.bind_some, fzCss_map fzPce, Option.map_some]
  rfl
def Ms.unt (m : Ms) : TUnt := ⟨⟨false, m.parts.map OPrt.t⟩, ⟨false, m.marks⟩, ⟨false, m.globals⟩⟩
def wts (rs : List TRow) : Nat := (rs.map TRow.wt).sum
end Go.Proofs.YtgmphfmoonbfpaaMv
