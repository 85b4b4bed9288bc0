import Derived.Test.YtddncbgdoplgiaaGreatFaP
namespace Go.Proofs.YtddncbgdoplgiaaGreat
open Go
set_option maxRecDepth 100000
theorem fST9 : (Rows.spaceTrendsRow.inPlace == Tryz.checked.prog.inPlace 6) = true := by kernel_rfl
theorem fST10 : (Rows.spaceTrendsRow.unfollowed == Tryz.checked.prog.unfollowed 6) = true := by kernel_rfl
end Go.Proofs.YtddncbgdoplgiaaGreat
