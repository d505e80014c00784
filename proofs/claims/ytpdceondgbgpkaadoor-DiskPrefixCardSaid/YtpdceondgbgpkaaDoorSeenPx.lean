/- DiskPrefix's arguments, as their data say them. -/
import Derived.Test.YtpdceondgbgpkaaDoorSeenDs0
import Derived.Test.YtpdceondgbgpkaaDoorDskX5
namespace Go.Proofs.YtpdceondgbgpkaaDoor.Dsk
open Go.RowKit
theorem px_rows {H : Type} {enc : TypeId × Value → H} (A : Option Addr) (n cap : Nat) (rs : List (List Value)) (w : World) (hR : Mem.Rd w (fun g => g < w.heap.size) 5 (.slice A n cap) rs)
    (hE : ∀ r ∈ rs, r.length = 5 ∧ Seen.Sees enc Tryd.prog w 28 r) (k : Int) (hk : (Lit.int .i64 k).wf = true) :
    Calls Tryd.prog 3 #[.slice A n cap, .int .i64 k] w fun r w' => r = .returned (.bool true) ∧ Below w.heap.size w w' := by
  obtain ⟨l, rfl, hl⟩ := Seen.rows_as Act.cells Act.fit rs (fun r hr => Seen.dact (hE r hr).2)
  exact DiskPrefix_any l _ k _ w hR hl (Seen.bnd hk)
end Go.Proofs.YtpdceondgbgpkaaDoor.Dsk
