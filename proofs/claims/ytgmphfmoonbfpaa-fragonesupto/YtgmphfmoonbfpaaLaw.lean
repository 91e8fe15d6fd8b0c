/- For every file number, rows and line whose reading is of bulk at most 1048576, FragOnes returns true, and the input reads as it did. -/
import Derived.Test.YtgmphfmoonbfpaaP9
namespace Go.Proofs.Ytgmphfmoonbfpaa
theorem fragOnes_proved_holds : Rows.FragOnesUptoSaid := Go.Proofs.YtgmphfmoonbfpaaMv.fragOnes_proved
end Go.Proofs.Ytgmphfmoonbfpaa
