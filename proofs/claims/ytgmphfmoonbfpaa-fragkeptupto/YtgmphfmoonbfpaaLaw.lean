/- For every list of units and every rows whose reading is of bulk at most 1048576, FragKept returns true, and the input reads as it did. -/
import Derived.Test.YtgmphfmoonbfpaaP9
namespace Go.Proofs.Ytgmphfmoonbfpaa
theorem fragKept_proved_holds : Rows.FragKeptUptoSaid := Go.Proofs.YtgmphfmoonbfpaaMv.fragKept_proved
end Go.Proofs.Ytgmphfmoonbfpaa
