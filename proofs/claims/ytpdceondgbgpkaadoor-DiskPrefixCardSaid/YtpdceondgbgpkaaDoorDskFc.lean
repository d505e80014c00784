/- A file's cells; small facts. -/
import Derived.Test.YtpdceondgbgpkaaDoorDsk2
namespace Go.Proofs.YtpdceondgbgpkaaDoor.Dsk
open Go.RowKit
/-- A file's cells: its name, its bytes. -/
def fc (x : ByteArray × ByteArray) : List Value := [.string x.1, .string x.2]
theorem measS {n k : Nat} (h : k < n) : n - (intOf (.int .i64 ((k : Int) + 1))).toNat < n - (intOf (.int .i64 (k : Int))).toNat := by
  show n - ((k : Int) + 1).toNat < n - ((k : Int)).toNat; omega
theorem toList_ne {a b : ByteArray} (h : a ≠ b) : ¬ a.toList = b.toList := fun e => h (by
  rw [ByteArray.toList_eq, ByteArray.toList_eq] at e
  exact ByteArray.ext (Array.toList_inj.1 e))
end Go.Proofs.YtpdceondgbgpkaaDoor.Dsk
