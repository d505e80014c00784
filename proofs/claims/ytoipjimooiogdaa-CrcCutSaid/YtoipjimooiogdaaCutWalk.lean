/- The two laws of many packs: each call returns true. -/
import Derived.Test.YtoipjimooiogdaaCutCut
namespace Go.Proofs.Ytoipjimooiogdaa.Crc
open Go.RowKit Go.Proofs.YtoipjimooiogdaaW.PrintWords Go.Proofs.YtoipjimooiogdaaW.PrintLast Go.Proofs.YtoipjimooiogdaaW.PrintMore

theorem back_walk (A : Option Addr) (c : Nat) (l : List ByteArray) (m : ByteArray) (w : World) (hC : Kd.C Kd.string w A l.length l) (hc : l.length ≤ c) (hl : l.length ≤ 9223372036854775807) :
    Calls Try.prog 6 #[.slice A l.length c, .string m] w fun e w' => e = .returned (.bool true) ∧ Below w.heap.size w w' :=
  have ⟨k, hk⟩ := back l m hl
  PAll.auspicelaw02_CrcBack.calls k A c l m true w hC hc hk

theorem cut_walk (A : Option Addr) (c : Nat) (l : List ByteArray) (a : Int) (w : World) (hC : Kd.C Kd.string w A l.length l) (hc : l.length ≤ c) (hl : l.length ≤ 9223372036854775807) :
    Calls Try.prog 7 #[.slice A l.length c, .int .i64 a] w fun e w' => e = .returned (.bool true) ∧ Below w.heap.size w w' :=
  have ⟨k, hk⟩ := cut l a hl
  PAll.auspicelaw02_CrcCut.calls k A c l a true w hC hc hk

end Go.Proofs.Ytoipjimooiogdaa.Crc
