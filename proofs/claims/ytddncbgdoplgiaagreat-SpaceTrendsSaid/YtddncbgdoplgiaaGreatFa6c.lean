import Derived.Test.YtddncbgdoplgiaaGreatFaP
namespace Go.Proofs.YtddncbgdoplgiaaGreat
open Go
set_option maxRecDepth 100000
theorem fST11 : (Rows.spaceTrendsRow.recurses == Tryz.checked.prog.recurses 6) = true := by kernel_rfl
theorem fST12 : (Rows.spaceTrendsRow.named == Tryz.checked.prog.varsNamed 6) = true := by kernel_rfl
end Go.Proofs.YtddncbgdoplgiaaGreat
