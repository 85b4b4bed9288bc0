import Derived.Test.YtddncbgdoplgiaaGreatAlZb
import Derived.Test.YtddncbgdoplgiaaGreatProg
namespace Go.R
open Go Go.AL Go.Proofs
theorem awake29 : evalFn Tryz.prog 400 40 42 [] [] = some (.bool true, []) := by kernel_rfl
end Go.R
