/- Hashes of noughts, reckoned. No program in sight. -/
import Derived.Test.YtblfodhbimgonaaDoorKecL
namespace Go.Proofs.YtblfodhbimgonaaDoor
namespace Kec
set_option maxRecDepth 100000
theorem adj_260 : adjS 20 260 = true := by decide +kernel
theorem adj_280 : adjS 20 280 = true := by decide +kernel
end Kec
end Go.Proofs.YtblfodhbimgonaaDoor
