/- For every input, the law dormouselaw29.SpaceTrends returns true and leaves each argument as it was: the given statement Rows.SpaceTrendsSaid, with no further condition. -/
import Derived.Test.YtddncbgdoplgiaaGreatRo29
import Derived.Test.YtddncbgdoplgiaaGreatFa6
import Derived.WalkKit
namespace Go.Proofs.YtddncbgdoplgiaaGreat
open Go Go.AL Go.R Go.Proofs
open Go.ChangeShapes Go.WideShapes Go.ChangeAt Go.RowKit
set_option maxRecDepth 100000
theorem over : Rows.spaceTrendsRow.holds Tryz.pinned (OpenSpec.ofChange Rows.spaceTrendsSpec) :=
  OpenClaim.holds_of_wide 6 Tryz.f6 rfl rfl rfl rfl rfl rfl rfl ⟨rfl, rfl, rfl, rfl, rfl⟩ rfl rfl rfl rfl rfl fSTn Tryz.func6 fSTAll
    fSTi fSTw
    (fun os started H enc _ => lifted os started H enc)

theorem spaceTrends_holds : Rows.SpaceTrendsSaid := over
end Go.Proofs.YtddncbgdoplgiaaGreat
