/- OverprintMeans: both cases. -/
import Derived.Test.YtlbnicapkfmdoaaOverS2
import Derived.Test.YtlbnicapkfmdoaaSxO
import Derived.Test.YtlbnicapkfmdoaaOpenLabs
namespace Go.Proofs.Ytlbnicapkfmdoaa
open Go Go.RowKit

theorem means_f (ls : List (Int × Int × Int)) (ts : List Int) : AF Try.prog 6 [.ro false 3 (ls.map eT), .ro false 1 (ts.map (eI .i64))] (.bool true) := by
  by_cases h : checkE ts = 0
  · exact means_good_f ls ts h
  · exact means_bad_f ls ts h
end Go.Proofs.Ytlbnicapkfmdoaa
