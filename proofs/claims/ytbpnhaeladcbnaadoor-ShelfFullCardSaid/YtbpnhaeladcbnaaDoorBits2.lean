/- What bits.Int, Text, Real write. -/
import Derived.Test.YtbpnhaeladcbnaaDoorBits
import Derived.Laws.BitsAllLaws
namespace Go.Proofs.YtbpnhaeladcbnaaDoor
open Go.RowKit
open Sp (fold intB textS bs)
theorem xor_ones (a : Nat) (h : a < 18446744073709551616) : a ^^^ 18446744073709551615 = 18446744073709551615 - a := by
  have h1 : (BitVec.ofNat 64 a).toNat = a := by rw [BitVec.toNat_ofNat]; exact Nat.mod_eq_of_lt h
  have h2 : (BitVec.allOnes 64).toNat = 18446744073709551615 := by rw [BitVec.toNat_allOnes]
  have h3 := congrArg BitVec.toNat (BitVec.xor_allOnes (x := BitVec.ofNat 64 a))
  rw [BitVec.toNat_xor, BitVec.toNat_not, h1, h2] at h3
  exact h3
theorem fold_neg (n : Int) (h0 : n < 0) (h1 : -9223372036854775808 ≤ n) :
    bits .xor .u64 (IntKind.u64.wrap (IntKind.u64.wrap n * 2)) (IntKind.u64.wrap (n / 9223372036854775808)) = -2 * n - 1 := by
  have e1 : n / 9223372036854775808 = -1 := by omega
  have e2 : IntKind.u64.wrap n = 18446744073709551616 + n := by
    show n % 18446744073709551616 = _
    omega
  have e3 : IntKind.u64.wrap ((18446744073709551616 + n) * 2) = 18446744073709551616 + 2 * n := by
    show ((18446744073709551616 + n) * 2) % 18446744073709551616 = _
    omega
  have e4 : IntKind.u64.wrap (-1) = 18446744073709551615 := rfl
  rw [e1, e2, e3, e4]
  obtain ⟨m, hm⟩ := Int.eq_ofNat_of_zero_le (show 0 ≤ 18446744073709551616 + 2 * n by omega)
  rw [hm, show (18446744073709551615 : Int) = ((18446744073709551615 : Nat) : Int) from rfl, u64_xor_nat m _ (by omega) (by decide), xor_ones m (by omega)]
  omega
theorem fold_pos (n : Int) (h0 : 0 ≤ n) (h1 : n ≤ 9223372036854775807) : bits .xor .u64 (n * 2) (n / 9223372036854775808) = 2 * n := by
  have e1 : n / 9223372036854775808 = 0 := by omega
  obtain ⟨m, rfl⟩ := Int.eq_ofNat_of_zero_le h0
  rw [e1, show (m : Int) * 2 = ((m * 2 : Nat) : Int) by omega, show (0 : Int) = ((0 : Nat) : Int) from rfl, u64_xor_nat (m * 2) 0 (by omega) (by decide), Nat.xor_zero]
  omega
def IsI64 (n : Int) : Prop := -9223372036854775808 ≤ n ∧ n ≤ 9223372036854775807
theorem fold_u64 {n : Int} (h : IsI64 n) : IsU64 (fold n) := by unfold fold IsU64; unfold IsI64 at h; split <;> omega
set_option maxRecDepth 100000 in
set_option maxHeartbeats 400000 in
theorem folded_any (n : Int) (w : World) (h : IsI64 n) :
    Calls Tryd.prog 62 #[.int .i64 n] w fun e w' => e = .returned (.int .u64 (fold n)) ∧ w = w' := by
  obtain ⟨h1, h2⟩ := h
  by_cases h0 : 0 ≤ n
  · have hf : Hid (fold n = bits .xor .u64 (n * 2) (n / 9223372036854775808)) := Lib.hid (by rw [fold_pos n h0 h2, fold, if_pos h0])
    go_enter Tryd.func62, Tryd.ntmps62
    go_wp2_with fail
    go_ret
    exact ⟨by rw [hf.out]; rfl, rfl⟩
  · have hf : Hid (fold n = bits .xor .u64 (IntKind.u64.wrap (IntKind.u64.wrap n * 2)) (IntKind.u64.wrap (n / 9223372036854775808))) := Lib.hid (by rw [fold_neg n (by omega) h1, fold, if_neg h0])
    have h0' : n < 0 := by omega
    go_enter Tryd.func62, Tryd.ntmps62
    go_wp2_with fail
    go_ret
    exact ⟨by rw [hf.out]; rfl, rfl⟩
set_option maxRecDepth 100000 in
set_option maxHeartbeats 400000 in
theorem Int_any (n : Int) (w : World) (h : IsI64 n) :
    Calls Tryd.prog 46 #[.int .i64 n] w fun e w' => e = .returned (.string (bs (intB n))) ∧ Below w.heap.size w w' := by
  go_enter Tryd.func46, Tryd.ntmps46
  go_wp2_with fail
  refine (folded_any n _ h).mono ?_
  rintro e w' ⟨rfl, rfl⟩
  go_wp2_with fail
  refine (Num_any (fold n) _ (fold_u64 h)).mono ?_
  rintro e w' ⟨rfl, hb⟩
  go_wp2_with fail
  go_ret
  exact ⟨rfl, hb⟩
set_option maxRecDepth 100000 in
set_option maxHeartbeats 400000 in
theorem Text_any (s : ByteArray) (w : World) (hs : s.size ≤ 140737488351232) :
    Calls Tryd.prog 52 #[.string s] w fun e w' => e = .returned (.string (textS s)) ∧ Below w.heap.size w w' := by
  go_enter Tryd.func52, Tryd.ntmps52
  go_wp2_with fail
  refine (Num_any _ _ ⟨by omega, by omega⟩).mono ?_
  rintro e w' ⟨rfl, hb⟩
  rw [Int.toNat_natCast]
  have hz : (bs (Sp.num s.size)).size ≤ 9 := by rw [Sp.bs_size]; exact (Sp.num_length s.size (by omega)).2
  go_wp2_with fail
  go_ret
  exact ⟨rfl, hb⟩
end Go.Proofs.YtbpnhaeladcbnaaDoor
