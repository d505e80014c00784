/- crc: sums and packs. -/
import Derived.Test.YtbpnhaeladcbnaaDoorBits2
import Derived.Test.YtbpnhaeladcbnaaDoorMem2
namespace Go.Proofs.YtbpnhaeladcbnaaDoor
open Go.RowKit
set_option linter.unusedSimpArgs false
set_option linter.unusedVariables false
open Sp (bs)
namespace Crc
def step (c : Nat) : Nat := if c % 2 = 1 then c / 2 ^^^ 2197175160 else c / 2
def its : Nat → Nat → Nat
  | 0, c => c
  | n + 1, c => step (its n c)
def moreN (c b : Nat) : Nat := its 8 (c ^^^ b)
def run (l : List UInt8) : Nat := l.foldl (fun c b => moreN c b.toNat) 4294967295
def sumN (l : List UInt8) : Nat := 4294967295 - run l
theorem step_lt {c : Nat} (h : c < 4294967296) : step c < 4294967296 := by
  unfold step
  split
  · exact Nat.xor_lt_two_pow (n := 32) (by omega) (by decide)
  · omega
theorem its_lt {c : Nat} (h : c < 4294967296) : ∀ n, its n c < 4294967296
  | 0 => h
  | n + 1 => step_lt (its_lt h n)
theorem moreN_lt {c b : Nat} (h : c < 4294967296) (hb : b < 256) : moreN c b < 4294967296 := its_lt (Nat.xor_lt_two_pow (n := 32) h (by omega)) 8
theorem run_lt : ∀ (l : List UInt8), run l < 4294967296 := by
  intro l
  have : ∀ (l : List UInt8) (c : Nat), c < 4294967296 → l.foldl (fun c b => moreN c b.toNat) c < 4294967296 := by
    intro l
    induction l with
    | nil => intro c h; exact h
    | cons b l ih => intro c h; exact ih _ (moreN_lt h b.toNat_lt)
  exact this l _ (by decide)
theorem run_snoc (l : List UInt8) (b : UInt8) : run (l ++ [b]) = moreN (run l) b.toNat := by simp [run]
theorem meas {n k : Nat} (h : k < n) : n - (intOf (.int .i64 ((k : Int) + 1))).toNat < n - (intOf (.int .i64 (k : Int))).toNat := by
  show n - ((k : Int) + 1).toNat < n - ((k : Int)).toNat; omega
end Crc
set_option maxRecDepth 100000 in
set_option maxHeartbeats 2000000 in
theorem more_any (c b : Nat) (w : World) (hc : c < 4294967296) (hb : b < 256) : Calls Tryd.prog 72 #[.int .u32 c, .int .u8 b] w fun r w' => r = .returned (.int .u32 (Crc.moreN c b : Nat)) ∧ w' = w := by
  have hx : bits .xor .u32 (c : Int) (b : Int) = ((c ^^^ b : Nat) : Int) := u32_xor_nat c b hc (by omega)
  have hwb : IntKind.u32.wrap (b : Int) = (b : Int) := by show (b : Int) % 4294967296 = _; omega
  have h0 : c ^^^ b < 4294967296 := Nat.xor_lt_two_pow (n := 32) hc (by omega)
  unfold Crc.moreN
  generalize c ^^^ b = d at hx h0 ⊢
  go_enter Tryd.func72, Tryd.ntmps72
  go_wp2_with fail
  go_loopw [0, 9] (fun v i wr => ∃ j : Nat, j ≤ 8 ∧ v = .int .u32 (Crc.its j d : Nat) ∧ i = .int .i64 (j : Int) ∧ wr = w) (fun _ i _ => 8 - (intOf i).toNat)
  case atStart => exact ⟨0, by omega, by first | rfl | rw [hx]; rfl, rfl, rfl⟩
  case round =>
    obtain ⟨j, hj, rfl, rfl, rfl⟩ := hrel
    have hlt := Crc.its_lt h0 j
    by_cases h8 : j < 8
    · have h8' : (j : Int) < 8 := by omega
      have hs : Crc.its (j + 1) d = Crc.step (Crc.its j d) := rfl
      generalize Crc.its j d = e at hlt hs ⊢
      have HS := Lib.hid hs
      clear hs
      by_cases ho : e % 2 = 1
      · have ha : bits .and .u32 (e : Int) 1 = 1 := by
          rw [show (1 : Int) = ((1 : Nat) : Int) from rfl, u32_and_nat e 1 hlt (by decide), Nat.and_one_is_mod, ho]
        have hy : bits .xor .u32 ((e : Int) / 2) 2197175160 = ((e / 2 ^^^ 2197175160 : Nat) : Int) := by
          rw [show (e : Int) / 2 = ((e / 2 : Nat) : Int) by omega, show (2197175160 : Int) = ((2197175160 : Nat) : Int) from rfl]
          exact u32_xor_nat (e / 2) 2197175160 (by omega) (by decide)
        have HO := Lib.hid ho
        clear ho
        go_wp2_with fail
        go_roundw
        case rel => exact ⟨j + 1, h8, by rw [HS.out, Crc.step, if_pos HO.out], rfl, trivial⟩
        case measure => exact Crc.meas h8
      · have ho0 : e % 2 = 0 := by omega
        have ha : bits .and .u32 (e : Int) 1 = 0 := by
          rw [show (1 : Int) = ((1 : Nat) : Int) from rfl, u32_and_nat e 1 hlt (by decide), Nat.and_one_is_mod, ho0]
          rfl
        have HO := Lib.hid ho
        clear ho ho0
        go_wp2_with fail
        go_roundw
        case rel => exact ⟨j + 1, h8, by rw [HS.out, Crc.step, if_neg HO.out]; first | rfl | go_num, rfl, trivial⟩
        case measure => exact Crc.meas h8
    · have h8' : (8 : Int) ≤ (j : Int) := by omega
      have hj8 : j = 8 := by omega
      subst hj8
      go_wp2_with fail
      go_ret
      exact ⟨rfl, rfl⟩
set_option maxRecDepth 100000 in
set_option maxHeartbeats 2000000 in
theorem sum_any (s : ByteArray) (w : World) (hs : s.size ≤ 140737488351232) : Calls Tryd.prog 54 #[.string s] w fun r w' => r = .returned (.int .u32 (Crc.sumN s.data.toList : Nat)) ∧ w' = w := by
  go_enter Tryd.func54, Tryd.ntmps54
  go_wp2_with fail
  go_loopw [3, 7] (fun v i wr => ∃ j : Nat, j ≤ s.size ∧ v = .int .u32 (Crc.run (s.data.toList.take j) : Nat) ∧ i = .int .i64 (j : Int) ∧ wr = w) (fun _ i _ => s.size - (intOf i).toNat)
  case atStart => exact ⟨0, by omega, rfl, rfl, rfl⟩
  case round =>
    obtain ⟨j, hj, rfl, rfl, rfl⟩ := hrel
    have hlt := Crc.run_lt (s.data.toList.take j)
    by_cases h8 : j < s.size
    · have h8' : (j : Int) < (s.size : Int) := by omega
      have hb : (s[j]).toNat < 256 := UInt8.toNat_lt _
      have hs' : Crc.run (s.data.toList.take (j + 1)) = Crc.moreN (Crc.run (s.data.toList.take j)) (s[j]).toNat := by
        have hj' : j < s.data.size := h8
        rw [List.take_add_one, Array.getElem?_toList, Array.getElem?_eq_getElem hj', Option.toList, Crc.run_snoc]
        rfl
      have HS := Lib.hid hs'
      clear hs'
      generalize Crc.run (s.data.toList.take j) = c at hlt HS ⊢
      have hm := fun W => more_any c (s[j]).toNat W hlt hb
      go_wp2_with (go_at_call 72; refine (hm _).mono ?_; rintro _ _ ⟨rfl, rfl⟩)
      go_roundw
      case rel => exact ⟨j + 1, h8, by rw [HS.out], rfl, by first | trivial | rfl⟩
      case measure => exact Crc.meas h8
    · have h8' : (s.size : Int) ≤ (j : Int) := by omega
      have hj8 : j = s.size := by omega
      have e : s.data.toList.take j = s.data.toList := List.take_of_length_le (by rw [Array.length_toList]; exact Nat.le_of_eq hj8.symm)
      rw [e] at hlt ⊢
      clear e hj8
      generalize hcc : Crc.run s.data.toList = c at hlt ⊢
      have HC := Lib.hid hcc
      have hn : bits .xor .u32 4294967295 (c : Int) = ((4294967295 - c : Nat) : Int) := by
        rw [show (4294967295 : Int) = ((4294967295 : Nat) : Int) from rfl, u32_xor_nat 4294967295 c (by decide) hlt, Nat.xor_comm]
        have h1 : (BitVec.ofNat 32 c).toNat = c := by rw [BitVec.toNat_ofNat]; exact Nat.mod_eq_of_lt hlt
        have h2 : (BitVec.allOnes 32).toNat = 4294967295 := by rw [BitVec.toNat_allOnes]
        have h3 := congrArg BitVec.toNat (BitVec.xor_allOnes (x := BitVec.ofNat 32 c))
        rw [BitVec.toNat_xor, h1, h2, BitVec.toNat_not, h1] at h3
        rw [h3]
      clear hcc
      go_wp2_with fail
      go_ret
      unfold Crc.sumN
      rw [HC.out]
      exact ⟨congrArg (fun x => Ending.returned (.int .u32 x)) (show bits .xor .u32 IntKind.u32.max (c : Int) = _ from hn), rfl⟩
namespace Crc
def head3 (n : Nat) : List UInt8 := [UInt8.ofNat (n / 65536), UInt8.ofNat (n / 256), UInt8.ofNat n]
def tail4 (c : Nat) : List UInt8 := [UInt8.ofNat c, UInt8.ofNat (c / 256), UInt8.ofNat (c / 65536), UInt8.ofNat (c / 16777216)]
/-- A body's pack. -/
def body (s : ByteArray) : ByteArray := bs (head3 s.size) ++ s
def packB (s : ByteArray) : ByteArray := body s ++ bs (tail4 (sumN (body s).data.toList))
theorem body_size (s : ByteArray) : (body s).size = s.size + 3 := by unfold body; rw [ByteArray.size_append, Sp.bs_size]; show 3 + s.size = _; omega
theorem packB_size (s : ByteArray) : (packB s).size = s.size + 7 := by unfold packB; rw [ByteArray.size_append, body_size, Sp.bs_size]; rfl
theorem sumN_lt (l : List UInt8) : sumN l < 4294967296 := by unfold sumN; omega
end Crc
theorem conv_head (n : Nat) (hn : n ≤ 1048576) (w : World) : Sem.run Tryd.prog (convert 110 9 (.slice (some ⟨w.heap.size, 0, none⟩) 3 3)) (w.alloc (.cells #[.int .u8 ((n : Int) / 65536), .int .u8 ((n : Int) / 256 % 256), .int .u8 ((n : Int) % 256)] 5)) = .ok (.string (bs (Crc.head3 n))) (w.alloc (.cells #[.int .u8 ((n : Int) / 65536), .int .u8 ((n : Int) / 256 % 256), .int .u8 ((n : Int) % 256)] 5)) := by
  refine conv_back (P := Tryd.prog) 110 9 5 Tryd.underlying110 Tryd.underlying5 Tryd.underlying9 (Crc.head3 n) _ w.heap.size 0 3 3 rfl _ 5 (Mem.new w _) (fun j hj => ?_)
  have hj3 : j < 3 := hj
  have e0 : ((UInt8.ofNat (n / 65536)).toNat : Int) = (n : Int) / 65536 := by rw [UInt8.toNat_ofNat']; omega
  have e1 : ((UInt8.ofNat (n / 256)).toNat : Int) = (n : Int) / 256 % 256 := by rw [UInt8.toNat_ofNat']; omega
  have e2 : ((UInt8.ofNat n).toNat : Int) = (n : Int) % 256 := by rw [UInt8.toNat_ofNat']; omega
  rcases (by omega : j = 0 ∨ j = 1 ∨ j = 2) with rfl | rfl | rfl
  · exact congrArg (fun x => some (Value.int .u8 x)) e0.symm
  · exact congrArg (fun x => some (Value.int .u8 x)) e1.symm
  · exact congrArg (fun x => some (Value.int .u8 x)) e2.symm
theorem conv_tail (n g : Nat) (hn : n < 4294967296) (w : World) (hg : w.heap.size = g) : Sem.run Tryd.prog (convert 110 9 (.slice (some ⟨g, 0, none⟩) 4 4)) (w.alloc (.cells #[.int .u8 ((n : Int) % 256), .int .u8 ((n : Int) / 256 % 256), .int .u8 ((n : Int) / 65536 % 256), .int .u8 ((n : Int) / 16777216)] 5)) = .ok (.string (bs (Crc.tail4 n))) (w.alloc (.cells #[.int .u8 ((n : Int) % 256), .int .u8 ((n : Int) / 256 % 256), .int .u8 ((n : Int) / 65536 % 256), .int .u8 ((n : Int) / 16777216)] 5)) := by
  subst hg
  refine conv_back (P := Tryd.prog) 110 9 5 Tryd.underlying110 Tryd.underlying5 Tryd.underlying9 (Crc.tail4 n) _ w.heap.size 0 4 4 rfl _ 5 (Mem.new w _) (fun j hj => ?_)
  have hj3 : j < 4 := hj
  have e0 : ((UInt8.ofNat n).toNat : Int) = (n : Int) % 256 := by rw [UInt8.toNat_ofNat']; omega
  have e1 : ((UInt8.ofNat (n / 256)).toNat : Int) = (n : Int) / 256 % 256 := by rw [UInt8.toNat_ofNat']; omega
  have e2 : ((UInt8.ofNat (n / 65536)).toNat : Int) = (n : Int) / 65536 % 256 := by rw [UInt8.toNat_ofNat']; omega
  have e3 : ((UInt8.ofNat (n / 16777216)).toNat : Int) = (n : Int) / 16777216 := by rw [UInt8.toNat_ofNat']; omega
  rcases (by omega : j = 0 ∨ j = 1 ∨ j = 2 ∨ j = 3) with rfl | rfl | rfl | rfl
  · exact congrArg (fun x => some (Value.int .u8 x)) e0.symm
  · exact congrArg (fun x => some (Value.int .u8 x)) e1.symm
  · exact congrArg (fun x => some (Value.int .u8 x)) e2.symm
  · exact congrArg (fun x => some (Value.int .u8 x)) e3.symm
set_option maxRecDepth 100000 in
set_option maxHeartbeats 4000000 in
theorem pack_any (s : ByteArray) (w : World) (hs : s.size ≤ 1048576) : Calls Tryd.prog 47 #[.string s] w fun r w' => r = .returned (.tuple #[.string (Crc.packB s), .int .i64 0]) ∧ Below w.heap.size w w' := by
  have hs1 : (s.size : Int) ≤ 1048576 := by omega
  have hcv := conv_head s.size hs w
  have hz : (bs (Crc.head3 s.size)).size ≤ 3 := by rw [Sp.bs_size]; exact Nat.le_refl _
  have hsum := fun W => sum_any (Crc.body s) W (by rw [Crc.body_size]; omega)
  have hbz : (Crc.body s).size ≤ 1048579 := by rw [Crc.body_size]; omega
  have hbb : Crc.body s = bs (Crc.head3 s.size) ++ s := rfl
  have hcl := Crc.sumN_lt (Crc.body s).data.toList
  unfold Crc.packB
  generalize Crc.sumN (Crc.body s).data.toList = c at hsum hcl ⊢
  have hcv2 := conv_tail c (w.heap.size + 1) hcl (w.alloc (.cells #[.int .u8 ((s.size : Int) / 65536), .int .u8 ((s.size : Int) / 256 % 256), .int .u8 ((s.size : Int) % 256)] 5)) (by simp)
  have hz2 : (bs (Crc.tail4 c)).size ≤ 4 := by rw [Sp.bs_size]; exact Nat.le_refl _
  rw [hbb] at hsum hbz ⊢
  clear hbb
  go_enter Tryd.func47, Tryd.ntmps47
  go_wp2_with (go_at_call 54; refine (hsum _).mono ?_; rintro _ _ ⟨rfl, rfl⟩)
  go_ret2
  exact ⟨rfl, ((Below.refl _ w).alloc (Nat.le_refl _) _).alloc (by simp) _⟩
end Go.Proofs.YtbpnhaeladcbnaaDoor
