/- For every list of units and every byte whose reading is of bulk at most 1048576, FragGroups returns true, and the input reads as it did. -/
import Derived.Test.YtgmphfmoonbfpaaP9
namespace Go.Proofs.Ytgmphfmoonbfpaa
theorem fragGroups_proved_holds : Rows.FragGroupsUptoSaid := Go.Proofs.YtgmphfmoonbfpaaMv.fragGroups_proved
end Go.Proofs.Ytgmphfmoonbfpaa
