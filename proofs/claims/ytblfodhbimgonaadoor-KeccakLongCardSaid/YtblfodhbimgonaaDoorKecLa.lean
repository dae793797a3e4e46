/- Hashes of noughts, reckoned. No program in sight. -/
import Derived.Test.YtblfodhbimgonaaDoorKecL
namespace Go.Proofs.YtblfodhbimgonaaDoor
namespace Kec
set_option maxRecDepth 100000
theorem adj_0 : adjS 100 0 = true := by decide +kernel
end Kec
end Go.Proofs.YtblfodhbimgonaaDoor
