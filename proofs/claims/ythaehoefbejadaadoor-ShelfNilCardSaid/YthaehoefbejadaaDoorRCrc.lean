/- The document's sums and packs. -/
import Derived.Test.YthaehoefbejadaaDoorCrcW
namespace Go.Proofs.YthaehoefbejadaaDoor
open Go.RowKit
set_option linter.unusedSimpArgs false
set_option linter.unusedVariables false
open Sp (bs)
namespace Crc
/-- The document's sum is the program's, bit by bit. -/
theorem rstep {r k b x : Nat} (h : r ^^^ b / 2 ^ k = its k x) :
    ((r % 2 + b / 2 ^ k % 2) % 2 = 1 → (r / 2 ^^^ 2197175160) ^^^ b / 2 ^ (k + 1) = its (k + 1) x) ∧ (¬ (r % 2 + b / 2 ^ k % 2) % 2 = 1 → r / 2 ^^^ b / 2 ^ (k + 1) = its (k + 1) x) := by
  have e0 : (its k x) % 2 = 1 ↔ (r % 2 + b / 2 ^ k % 2) % 2 = 1 := by
    rw [← h, Nat.xor_mod_two_eq_one]
    generalize b / 2 ^ k = z
    omega
  have e1 : (its k x) / 2 = r / 2 ^^^ b / 2 ^ (k + 1) := by rw [← h, Nat.xor_div_two, Nat.div_div_eq_div_mul, Nat.pow_succ]
  have e2 : its (k + 1) x = step (its k x) := rfl
  refine ⟨fun hl => ?_, fun hl => ?_⟩
  · rw [e2, step, if_pos (e0.2 hl), e1, Nat.xor_assoc, Nat.xor_comm 2197175160, ← Nat.xor_assoc]
  · rw [e2, step, if_neg (fun hh => hl (e0.1 hh)), e1]
theorem modz (z : Nat) (h : z < 256) : (z : Int) % 4294967296 = (z : Int) := by omega
end Crc
set_option maxRecDepth 100000 in
set_option maxHeartbeats 4000000 in
theorem rsum_any (s : ByteArray) (w : World) (hs : s.size ≤ 140737488351232) : Calls Tryd.prog 72 #[.string s] w fun r w' => r = .returned (.int .u32 (Crc.sumN s.data.toList : Nat)) ∧ w' = w := by
  go_enter Tryd.func72, Tryd.ntmps72
  go_wp2_with fail
  go_loopw [3, 4] (fun v i wr => ∃ j : Nat, j ≤ s.size ∧ v = .int .u32 (Crc.run (s.data.toList.take j) : Nat) ∧ i = .int .i64 (j : Int) ∧ wr = w) (fun _ i _ => s.size - (intOf i).toNat)
  case atStart => exact ⟨0, by omega, rfl, rfl, rfl⟩
  case round =>
    obtain ⟨j, hj, rfl, rfl, rfl⟩ := hrel
    have hlt := Crc.run_lt (s.data.toList.take j)
    by_cases h8 : j < s.size
    · have h8' : (j : Int) < (s.size : Int) := by omega
      have hb : (s[j]).toNat < 256 := UInt8.toNat_lt _
      have hs' : Crc.run (s.data.toList.take (j + 1)) = Crc.moreN (Crc.run (s.data.toList.take j)) (s[j]).toNat := by
        have hj' : j < s.data.size := h8
        rw [List.take_add_one, Array.getElem?_toList, Array.getElem?_eq_getElem hj', Option.toList, Crc.run_snoc]
        rfl
      generalize Crc.run (s.data.toList.take j) = c at hlt hs' ⊢
      have HS := Lib.hid hs'
      clear hs'
      generalize hbb : (s[j]).toNat = b at hb HS
      go_wp2_with fail
      go_loopw [3, 5] (fun v i w2 => ∃ (k r : Nat), k ≤ 8 ∧ r < 4294967296 ∧ v = .int .u32 (r : Nat) ∧ i = .int .i64 (k : Int) ∧ w2 = wr ∧ r ^^^ b / 2 ^ k = Crc.its k (c ^^^ b)) (fun _ i _ => 8 - (intOf i).toNat)
      case atStart => exact ⟨0, c, by omega, hlt, rfl, rfl, rfl, by simp [Crc.its]⟩
      case round =>
        obtain ⟨k, r, hk, hr, rfl, rfl, rfl, hx⟩ := hrel
        by_cases hk8 : k < 8
        · have hk8' : (k : Int) < 8 := by omega
          have hkw : wrap64 ((k : Int) + 1) = (k : Int) + 1 := by unfold wrap64; omega
          have hk0 : (0 : Int) ≤ (k : Int) := by omega
          have hxl : r / 2 ^^^ 2197175160 < 4294967296 := Nat.xor_lt_two_pow (n := 32) (by omega) (by decide)
          have hrl : r / 2 < 4294967296 := by omega
          obtain ⟨hs1, hs0⟩ := Crc.rstep hx
          obtain ⟨u, hu⟩ : ∃ u, r % 2 = u := ⟨_, rfl⟩
          obtain ⟨v, hv⟩ : ∃ v, b / 2 ^ k % 2 = v := ⟨_, rfl⟩
          obtain ⟨l, hl⟩ : ∃ l, (u + v) % 2 = l := ⟨_, rfl⟩
          rw [hu, hv, hl] at hs1 hs0
          have hbk : b / 2 ^ k < 256 := Nat.lt_of_le_of_lt (Nat.div_le_self _ _) hb
          have ha1 : bits .and .u32 (r : Int) 1 = (u : Int) := by rw [show (1 : Int) = ((1 : Nat) : Int) from rfl, u32_and_nat r 1 hr (by decide), Nat.and_one_is_mod, hu]
          have ha2 : bits .and .u32 ((b : Int) / 2 ^ k % 4294967296) 1 = (v : Int) := by
            rw [show (b : Int) / 2 ^ k = ((b / 2 ^ k : Nat) : Int) by simp, Crc.modz _ hbk, show (1 : Int) = ((1 : Nat) : Int) from rfl, u32_and_nat _ 1 (by omega) (by decide), Nat.and_one_is_mod, hv]
          have hul : u < 2 := by omega
          have hvl : v < 2 := by omega
          have ha3 : bits .xor .u32 (u : Int) (v : Int) = (l : Int) := by
            rw [u32_xor_nat u v (by omega) (by omega)]
            rcases (by omega : u = 0 ∨ u = 1) with rfl | rfl <;> rcases (by omega : v = 0 ∨ v = 1) with rfl | rfl <;> (subst hl; rfl)
          have ha4 : bits .xor .u32 ((r : Int) / 2) 2197175160 = ((r / 2 ^^^ 2197175160 : Nat) : Int) := by
            rw [show (r : Int) / 2 = ((r / 2 : Nat) : Int) by omega, show (2197175160 : Int) = ((2197175160 : Nat) : Int) from rfl]
            exact u32_xor_nat (r / 2) 2197175160 (by omega) (by decide)
          have HZ := Lib.hid (And.intro hs1 (And.intro hs0 (And.intro hu (And.intro hv (And.intro hl hx)))))
          have HW := Lib.hid (And.intro hxl hrl)
          clear hs1 hs0 hu hv hl hx hul hvl hbk hxl hrl
          have hbb2 : ((s[j]).toNat : Int) = (b : Int) := by rw [hbb]
          by_cases h1 : (l : Int) = 1
          · have hl1 := Lib.hid (show l = 1 from Int.ofNat.inj h1)
            go_wp2_with fail
            go_roundw
            case rel => exact ⟨k + 1, r / 2 ^^^ 2197175160, hk8, HW.out.1, (by first | rfl | go_num | simp), (by first | rfl | go_num), (by first | trivial | rfl), HZ.out.1 hl1.out⟩
            case measure => exact Crc.meas hk8
          · go_wp2_with fail
            go_roundw
            case rel => exact ⟨k + 1, r / 2, hk8, HW.out.2, (by first | rfl | go_num | simp), (by first | rfl | go_num), (by first | trivial | rfl), HZ.out.2.1 (fun hh => h1 (by rw [hh]; rfl))⟩
            case measure => exact Crc.meas hk8
        · have hk8' : (8 : Int) ≤ (k : Int) := by omega
          have hke : k = 8 := by omega
          subst hke
          have hb0 : b / 2 ^ 8 = 0 := Nat.div_eq_of_lt hb
          rw [hb0, Nat.xor_zero] at hx
          have HX := Lib.hid hx
          clear hx hb0
          go_wp2_with fail
          go_roundw
          case rel => exact ⟨j + 1, h8, by rw [HS.out, HX.out]; rfl, (by first | rfl | go_num), (by first | trivial | rfl)⟩
          case measure => exact Crc.meas h8
    · have h8' : (s.size : Int) ≤ (j : Int) := by omega
      have hj8 : j = s.size := by omega
      have e : s.data.toList.take j = s.data.toList := List.take_of_length_le (by rw [Array.length_toList]; exact Nat.le_of_eq hj8.symm)
      rw [e] at hlt ⊢
      clear e hj8
      generalize hcc : Crc.run s.data.toList = c at hlt ⊢
      have HC := Lib.hid hcc
      have hn : bits .xor .u32 (c : Int) 4294967295 = ((4294967295 - c : Nat) : Int) := by
        rw [show (4294967295 : Int) = ((4294967295 : Nat) : Int) from rfl, u32_xor_nat c 4294967295 hlt (by decide)]
        have h1 : (BitVec.ofNat 32 c).toNat = c := by rw [BitVec.toNat_ofNat]; exact Nat.mod_eq_of_lt hlt
        have h2 : (BitVec.allOnes 32).toNat = 4294967295 := by rw [BitVec.toNat_allOnes]
        have h3 := congrArg BitVec.toNat (BitVec.xor_allOnes (x := BitVec.ofNat 32 c))
        rw [BitVec.toNat_xor, h1, h2, BitVec.toNat_not, h1] at h3
        rw [h3]
      clear hcc
      go_wp2_with fail
      go_ret
      unfold Crc.sumN
      rw [HC.out]
      exact ⟨rfl, rfl⟩
set_option maxRecDepth 100000 in
set_option maxHeartbeats 4000000 in
theorem rpack_any (s : ByteArray) (w : World) (hs : s.size ≤ 1048576) : Calls Tryd.prog 29 #[.string s] w fun r w' => r = .returned (.tuple #[.string (Crc.packB s), .int .i64 0]) ∧ Below w.heap.size w w' := by
  have hs1 : (s.size : Int) ≤ 1048576 := by omega
  have hcv := conv_head s.size hs w
  have hz : (bs (Crc.head3 s.size)).size ≤ 3 := by rw [Sp.bs_size]; exact Nat.le_refl _
  have hsum := fun W => rsum_any (Crc.body s) W (by rw [Crc.body_size]; omega)
  have hbz : (Crc.body s).size ≤ 1048579 := by rw [Crc.body_size]; omega
  have hbb : Crc.body s = bs (Crc.head3 s.size) ++ s := rfl
  have hcl := Crc.sumN_lt (Crc.body s).data.toList
  unfold Crc.packB
  generalize Crc.sumN (Crc.body s).data.toList = c at hsum hcl ⊢
  have hcv2 := conv_tail c (w.heap.size + 1) hcl (w.alloc (.cells #[.int .u8 ((s.size : Int) / 65536), .int .u8 ((s.size : Int) / 256 % 256), .int .u8 ((s.size : Int) % 256)] 5)) (by simp)
  have hz2 : (bs (Crc.tail4 c)).size ≤ 4 := by rw [Sp.bs_size]; exact Nat.le_refl _
  have q1 : (0 : Int) ≤ (c : Int) := by omega
  rw [hbb] at hsum hbz ⊢
  clear hbb
  go_enter Tryd.func29, Tryd.ntmps29
  go_wp2_with (go_at_call 72; refine (hsum _).mono ?_; rintro _ _ ⟨rfl, rfl⟩)
  go_ret2
  exact ⟨rfl, ((Below.refl _ w).alloc (Nat.le_refl _) _).alloc (by simp) _⟩
end Go.Proofs.YthaehoefbejadaaDoor
