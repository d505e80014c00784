/- A byte of a number. -/
import Derived.Test.YthaehoefbejadaaDoorSp
namespace Go.Proofs.YthaehoefbejadaaDoor
theorem be_get : ∀ m n k, k < m → (Sp.be m n)[k]? = some (UInt8.ofNat (n / 256 ^ (m - 1 - k)))
  | m + 1, n, 0, _ => by simp [Sp.be]
  | m + 1, n, k + 1, h => by
    rw [Sp.be, List.getElem?_cons_succ, be_get m n k (by omega)]
    congr 4
    omega
end Go.Proofs.YthaehoefbejadaaDoor
