/- Hashes of noughts, reckoned. No program in sight. -/
import Derived.Test.YtblfodhbimgonaaDoorKecL
namespace Go.Proofs.YtblfodhbimgonaaDoor
namespace Kec
set_option maxRecDepth 100000
theorem adj_100 : adjS 40 100 = true := by decide +kernel
theorem adj_140 : adjS 40 140 = true := by decide +kernel
end Kec
end Go.Proofs.YtblfodhbimgonaaDoor
