/- Hashes of noughts, reckoned. No program in sight. -/
import Derived.Test.YtblfodhbimgonaaDoorKecL
namespace Go.Proofs.YtblfodhbimgonaaDoor
namespace Kec
set_option maxRecDepth 100000
theorem adj_180 : adjS 40 180 = true := by decide +kernel
theorem adj_220 : adjS 40 220 = true := by decide +kernel
end Kec
end Go.Proofs.YtblfodhbimgonaaDoor
