/- DiskNil's argument, as its data say it. -/
import Derived.Test.YthaehoefbejadaaDoorSeenDsk
import Derived.Test.YthaehoefbejadaaDoorDskQ
namespace Go.Proofs.YthaehoefbejadaaDoor.Seen
open Go.RowKit
theorem dact1 {H : Type} {enc : TypeId × Value → H} {W : World} {cs : List Value} (h : Sees enc Tryd.prog W 31 cs) : ∃ x : Dsk.Act, cs = [.int .i64 x.kind, .string x.name, .int .i64 x.n, .int .i64 x.m, .string x.s] ∧ x.fit := dact h
end Go.Proofs.YthaehoefbejadaaDoor.Seen
