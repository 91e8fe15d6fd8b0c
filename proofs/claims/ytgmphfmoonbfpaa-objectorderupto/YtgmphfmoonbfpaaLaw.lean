/- For every object and every byte whose reading is of bulk at most 1048576, ObjectOrder returns true, and the input reads as it did. -/
import Derived.Test.YtgmphfmoonbfpaaP9
namespace Go.Proofs.Ytgmphfmoonbfpaa
theorem objectOrder_proved_holds : Rows.ObjectOrderUptoSaid := Go.Proofs.YtgmphfmoonbfpaaMv.objectOrder_proved
end Go.Proofs.Ytgmphfmoonbfpaa
