import Derived.Test.YtddncbgdoplgiaaGreatFaP
namespace Go.Proofs.YtddncbgdoplgiaaGreat
open Go
set_option maxRecDepth 100000
theorem fSTn : Tryz.checked.prog.funcNamed "dormouse/dormouselaw29.SpaceTrends" = some 6 := by kernel_rfl
end Go.Proofs.YtddncbgdoplgiaaGreat
