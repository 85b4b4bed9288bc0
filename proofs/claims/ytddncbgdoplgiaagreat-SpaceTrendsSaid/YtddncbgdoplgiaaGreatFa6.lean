import Derived.Test.YtddncbgdoplgiaaGreatFa6a
import Derived.Test.YtddncbgdoplgiaaGreatFa6b
import Derived.Test.YtddncbgdoplgiaaGreatFa6c
import Derived.Test.YtddncbgdoplgiaaGreatFa6d
namespace Go.Proofs.YtddncbgdoplgiaaGreat
open Go
set_option maxRecDepth 100000
theorem fSTAll : joinedFacts Tryz.checked.prog 6 Tryz.f6 Rows.spaceTrendsSpec Rows.spaceTrendsRow = true := by
  unfold joinedFacts
  exact and_t (and_t (and_t (and_t (and_t (and_t (and_t (and_t (and_t (and_t (and_t (and_t (and_t (and_t (and_t (and_t (and_t (and_t (and_t (and_t (and_t (and_t (and_t (and_t (and_t (and_t (and_t (and_t (and_t (and_t (and_t (fST0) fP1) fP2) fST3) fST4) fST5) fP6) fST7) fP8) fST9) fST10) fST11) fST12) fST13) fST14) fST15) fST16) fST17) fST18) fST19) fST20) fST21) fST22) fST23) fP24) fP25) fST26) fST27) fST28) fST29) fST30) fST31
end Go.Proofs.YtddncbgdoplgiaaGreat
