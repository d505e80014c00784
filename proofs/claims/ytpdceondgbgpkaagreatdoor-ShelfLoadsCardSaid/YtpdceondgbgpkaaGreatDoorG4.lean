/- The document's sums and packs. · crc: what is at the front of bytes. · A pack is found: plain. · Unpack, by what is packed anew: plain. -/
import Derived.Test.YtpdceondgbgpkaaGreatDoorG3
namespace Go.Proofs.YtpdceondgbgpkaaGreatDoor
open Go.RowKit
set_option linter.unusedSimpArgs false
set_option linter.unusedVariables false
open Sp (bs)
namespace Crc
/-- The document's sum is the program's, bit by bit. -/
theorem rstep {r k b x : Nat} (h : r ^^^ b / 2 ^ k = its k x) :
    ((r % 2 + b / 2 ^ k % 2) % 2 = 1 → (r / 2 ^^^ 2197175160) ^^^ b / 2 ^ (k + 1) = its (k + 1) x) ∧ (¬ (r % 2 + b / 2 ^ k % 2) % 2 = 1 → r / 2 ^^^ b / 2 ^ (k + 1) = its (k + 1) x) := by
  have e0 : (its k x) % 2 = 1 ↔ (r % 2 + b / 2 ^ k % 2) % 2 = 1 := by
    rw [← h, Nat.xor_mod_two_eq_one]
    generalize b / 2 ^ k = z
    omega
  have e1 : (its k x) / 2 = r / 2 ^^^ b / 2 ^ (k + 1) := by rw [← h, Nat.xor_div_two, Nat.div_div_eq_div_mul, Nat.pow_succ]
  have e2 : its (k + 1) x = step (its k x) := rfl
  refine ⟨fun hl => ?_, fun hl => ?_⟩
  · rw [e2, step, if_pos (e0.2 hl), e1, Nat.xor_assoc, Nat.xor_comm 2197175160, ← Nat.xor_assoc]
  · rw [e2, step, if_neg (fun hh => hl (e0.1 hh)), e1]
theorem modz (z : Nat) (h : z < 256) : (z : Int) % 4294967296 = (z : Int) := by omega
end Crc
set_option maxRecDepth 100000 in
set_option maxHeartbeats 4000000 in
theorem rsum_any (s : ByteArray) (w : World) (hs : s.size ≤ 140737488351232) : Calls Tryz.prog 91 #[.string s] w fun r w' => r = .returned (.int .u32 (Crc.sumN s.data.toList : Nat)) ∧ w' = w := by
  go_enter Tryz.func91, Tryz.ntmps91
  go_wp2_with fail
  go_loopw [3, 4] (fun v i wr => ∃ j : Nat, j ≤ s.size ∧ v = .int .u32 (Crc.run (s.data.toList.take j) : Nat) ∧ i = .int .i64 (j : Int) ∧ wr = w) (fun _ i _ => s.size - (intOf i).toNat)
  case atStart => exact ⟨0, by omega, rfl, rfl, rfl⟩
  case round =>
    obtain ⟨j, hj, rfl, rfl, rfl⟩ := hrel
    have hlt := Crc.run_lt (s.data.toList.take j)
    by_cases h8 : j < s.size
    · have h8' : (j : Int) < (s.size : Int) := by omega
      have hb : (s[j]).toNat < 256 := UInt8.toNat_lt _
      have hs' : Crc.run (s.data.toList.take (j + 1)) = Crc.moreN (Crc.run (s.data.toList.take j)) (s[j]).toNat := by
        have hj' : j < s.data.size := h8
        rw [List.take_add_one, Array.getElem?_toList, Array.getElem?_eq_getElem hj', Option.toList, Crc.run_snoc]
        rfl
      generalize Crc.run (s.data.toList.take j) = c at hlt hs' ⊢
      have HS := Lib.hid hs'
      clear hs'
      generalize hbb : (s[j]).toNat = b at hb HS
      go_wp2_with fail
      go_loopw [3, 5] (fun v i w2 => ∃ (k r : Nat), k ≤ 8 ∧ r < 4294967296 ∧ v = .int .u32 (r : Nat) ∧ i = .int .i64 (k : Int) ∧ w2 = wr ∧ r ^^^ b / 2 ^ k = Crc.its k (c ^^^ b)) (fun _ i _ => 8 - (intOf i).toNat)
      case atStart => exact ⟨0, c, by omega, hlt, rfl, rfl, rfl, by simp [Crc.its]⟩
      case round =>
        obtain ⟨k, r, hk, hr, rfl, rfl, rfl, hx⟩ := hrel
        by_cases hk8 : k < 8
        · have hk8' : (k : Int) < 8 := by omega
          have hkw : wrap64 ((k : Int) + 1) = (k : Int) + 1 := by unfold wrap64; omega
          have hk0 : (0 : Int) ≤ (k : Int) := by omega
          have hxl : r / 2 ^^^ 2197175160 < 4294967296 := Nat.xor_lt_two_pow (n := 32) (by omega) (by decide)
          have hrl : r / 2 < 4294967296 := by omega
          obtain ⟨hs1, hs0⟩ := Crc.rstep hx
          obtain ⟨u, hu⟩ : ∃ u, r % 2 = u := ⟨_, rfl⟩
          obtain ⟨v, hv⟩ : ∃ v, b / 2 ^ k % 2 = v := ⟨_, rfl⟩
          obtain ⟨l, hl⟩ : ∃ l, (u + v) % 2 = l := ⟨_, rfl⟩
          rw [hu, hv, hl] at hs1 hs0
          have hbk : b / 2 ^ k < 256 := Nat.lt_of_le_of_lt (Nat.div_le_self _ _) hb
          have ha1 : bits .and .u32 (r : Int) 1 = (u : Int) := by rw [show (1 : Int) = ((1 : Nat) : Int) from rfl, u32_and_nat r 1 hr (by decide), Nat.and_one_is_mod, hu]
          have ha2 : bits .and .u32 ((b : Int) / 2 ^ k % 4294967296) 1 = (v : Int) := by
            rw [show (b : Int) / 2 ^ k = ((b / 2 ^ k : Nat) : Int) by simp, Crc.modz _ hbk, show (1 : Int) = ((1 : Nat) : Int) from rfl, u32_and_nat _ 1 (by omega) (by decide), Nat.and_one_is_mod, hv]
          have hul : u < 2 := by omega
          have hvl : v < 2 := by omega
          have ha3 : bits .xor .u32 (u : Int) (v : Int) = (l : Int) := by
            rw [u32_xor_nat u v (by omega) (by omega)]
            rcases (by omega : u = 0 ∨ u = 1) with rfl | rfl <;> rcases (by omega : v = 0 ∨ v = 1) with rfl | rfl <;> (subst hl; rfl)
          have ha4 : bits .xor .u32 ((r : Int) / 2) 2197175160 = ((r / 2 ^^^ 2197175160 : Nat) : Int) := by
            rw [show (r : Int) / 2 = ((r / 2 : Nat) : Int) by omega, show (2197175160 : Int) = ((2197175160 : Nat) : Int) from rfl]
            exact u32_xor_nat (r / 2) 2197175160 (by omega) (by decide)
          have HZ := Lib.hid (And.intro hs1 (And.intro hs0 (And.intro hu (And.intro hv (And.intro hl hx)))))
          have HW := Lib.hid (And.intro hxl hrl)
          clear hs1 hs0 hu hv hl hx hul hvl hbk hxl hrl
          have hbb2 : ((s[j]).toNat : Int) = (b : Int) := by rw [hbb]
          by_cases h1 : (l : Int) = 1
          · have hl1 := Lib.hid (show l = 1 from Int.ofNat.inj h1)
            go_wp2_with fail
            go_roundw
            case rel => exact ⟨k + 1, r / 2 ^^^ 2197175160, hk8, HW.out.1, (by first | rfl | go_num | simp), (by first | rfl | go_num), (by first | trivial | rfl), HZ.out.1 hl1.out⟩
            case measure => exact Crc.meas hk8
          · go_wp2_with fail
            go_roundw
            case rel => exact ⟨k + 1, r / 2, hk8, HW.out.2, (by first | rfl | go_num | simp), (by first | rfl | go_num), (by first | trivial | rfl), HZ.out.2.1 (fun hh => h1 (by rw [hh]; rfl))⟩
            case measure => exact Crc.meas hk8
        · have hk8' : (8 : Int) ≤ (k : Int) := by omega
          have hke : k = 8 := by omega
          subst hke
          have hb0 : b / 2 ^ 8 = 0 := Nat.div_eq_of_lt hb
          rw [hb0, Nat.xor_zero] at hx
          have HX := Lib.hid hx
          clear hx hb0
          go_wp2_with fail
          go_roundw
          case rel => exact ⟨j + 1, h8, by rw [HS.out, HX.out]; rfl, (by first | rfl | go_num), (by first | trivial | rfl)⟩
          case measure => exact Crc.meas h8
    · have h8' : (s.size : Int) ≤ (j : Int) := by omega
      have hj8 : j = s.size := by omega
      have e : s.data.toList.take j = s.data.toList := List.take_of_length_le (by rw [Array.length_toList]; exact Nat.le_of_eq hj8.symm)
      rw [e] at hlt ⊢
      clear e hj8
      generalize hcc : Crc.run s.data.toList = c at hlt ⊢
      have HC := Lib.hid hcc
      have hn : bits .xor .u32 (c : Int) 4294967295 = ((4294967295 - c : Nat) : Int) := by
        rw [show (4294967295 : Int) = ((4294967295 : Nat) : Int) from rfl, u32_xor_nat c 4294967295 hlt (by decide)]
        have h1 : (BitVec.ofNat 32 c).toNat = c := by rw [BitVec.toNat_ofNat]; exact Nat.mod_eq_of_lt hlt
        have h2 : (BitVec.allOnes 32).toNat = 4294967295 := by rw [BitVec.toNat_allOnes]
        have h3 := congrArg BitVec.toNat (BitVec.xor_allOnes (x := BitVec.ofNat 32 c))
        rw [BitVec.toNat_xor, h1, h2, BitVec.toNat_not, h1] at h3
        rw [h3]
      clear hcc
      go_wp2_with fail
      go_ret
      unfold Crc.sumN
      rw [HC.out]
      exact ⟨rfl, rfl⟩
set_option maxRecDepth 100000 in
set_option maxHeartbeats 4000000 in
theorem rpack_any (s : ByteArray) (w : World) (hs : s.size ≤ 1048576) : Calls Tryz.prog 72 #[.string s] w fun r w' => r = .returned (.tuple #[.string (Crc.packB s), .int .i64 0]) ∧ Below w.heap.size w w' := by
  have hs1 : (s.size : Int) ≤ 1048576 := by omega
  have hcv := conv_head s.size hs w
  have hz : (bs (Crc.head3 s.size)).size ≤ 3 := by rw [Sp.bs_size]; exact Nat.le_refl _
  have hsum := fun W => rsum_any (Crc.body s) W (by rw [Crc.body_size]; omega)
  have hbz : (Crc.body s).size ≤ 1048579 := by rw [Crc.body_size]; omega
  have hbb : Crc.body s = bs (Crc.head3 s.size) ++ s := rfl
  have hcl := Crc.sumN_lt (Crc.body s).data.toList
  unfold Crc.packB
  generalize Crc.sumN (Crc.body s).data.toList = c at hsum hcl ⊢
  have hcv2 := conv_tail c (w.heap.size + 1) hcl (w.alloc (.cells #[.int .u8 ((s.size : Int) / 65536), .int .u8 ((s.size : Int) / 256 % 256), .int .u8 ((s.size : Int) % 256)] 5)) (by simp)
  have hz2 : (bs (Crc.tail4 c)).size ≤ 4 := by rw [Sp.bs_size]; exact Nat.le_refl _
  have q1 : (0 : Int) ≤ (c : Int) := by omega
  rw [hbb] at hsum hbz ⊢
  clear hbb
  go_enter Tryz.func72, Tryz.ntmps72
  go_wp2_with (go_at_call 91; refine (hsum _).mono ?_; rintro _ _ ⟨rfl, rfl⟩)
  go_ret2
  exact ⟨rfl, ((Below.refl _ w).alloc (Nat.le_refl _) _).alloc (by simp) _⟩
end Go.Proofs.YtpdceondgbgpkaaGreatDoor
namespace Go.Proofs.YtpdceondgbgpkaaGreatDoor
open Go.RowKit
set_option linter.unusedSimpArgs false
set_option linter.unusedVariables false
open Sp (bs)
theorem i64_or_nat (a b : Nat) (ha : a < 9223372036854775808) (hb : b < 9223372036854775808) : bits .or .i64 (a : Int) (b : Int) = ((a ||| b : Nat) : Int) := by
  have hx : a ||| b < 2 ^ 63 := Nat.or_lt_two_pow (by omega) (by omega)
  show IntKind.i64.wrap ((BitVec.ofInt 64 (a : Int) ||| BitVec.ofInt 64 (b : Int)).toNat : Int) = _
  rw [BitVec.toNat_or, ofInt_u64 a (by omega), ofInt_u64 b (by omega)]
  simp [IntKind.wrap, IntKind.bits, IntKind.signed]
  omega
theorem or_three (a b c : Nat) (ha : a < 256) (hb : b < 256) (hc : c < 256) : bits .or .i64 (bits .or .i64 ((a : Int) * 65536) ((b : Int) * 256)) (c : Int) = ((65536 * a + 256 * b + c : Nat) : Int) := by
  have e1 : a * 65536 ||| b * 256 = a * 65536 + b * 256 := by
    have := Nat.two_pow_add_eq_or_of_lt (i := 16) (b := b * 256) (by omega) a
    rw [Nat.mul_comm a 65536]
    exact this.symm
  have e2 : a * 65536 + b * 256 ||| c = a * 65536 + b * 256 + c := by
    have := Nat.two_pow_add_eq_or_of_lt (i := 8) (b := c) (by omega) (a * 256 + b)
    rw [show a * 65536 + b * 256 = 2 ^ 8 * (a * 256 + b) by omega]
    exact this.symm
  rw [show (a : Int) * 65536 = ((a * 65536 : Nat) : Int) by omega, show (b : Int) * 256 = ((b * 256 : Nat) : Int) by omega, i64_or_nat _ _ (by omega) (by omega), e1, i64_or_nat _ _ (by omega) (by omega), e2]
  omega
namespace Crc
/-- The body at the front, what stands behind, the error. -/
def len3 (s : ByteArray) : Nat := 65536 * (s.data.toList.getD 0 0).toNat + 256 * (s.data.toList.getD 1 0).toNat + (s.data.toList.getD 2 0).toNat
def unpackP (s : ByteArray) : ByteArray × ByteArray × Int :=
  if s.size < 3 then (⟨#[]⟩, ⟨#[]⟩, 5) else if 1048576 < len3 s then (⟨#[]⟩, ⟨#[]⟩, 2) else if s.size < len3 s + 7 then (⟨#[]⟩, ⟨#[]⟩, 5)
  else if (s.data.toList.drop (len3 s + 3)).take 4 = tail4 (sumN (s.extract 0 (len3 s + 3)).data.toList) then (s.extract 3 (len3 s + 3), s.extract (len3 s + 7) s.size, 0) else (⟨#[]⟩, ⟨#[]⟩, 6)
theorem four (l : List UInt8) (m : Nat) (h : m + 4 ≤ l.length) : (l.drop m).take 4 = [l.getD m 0, l.getD (m + 1) 0, l.getD (m + 2) 0, l.getD (m + 3) 0] := by
  have g : ∀ k, k < 4 → (l.drop m)[k]? = some (l.getD (m + k) 0) := fun k hk => by
    have hk' : m + k < l.length := by omega
    rw [List.getElem?_drop, List.getD, List.getElem?_eq_getElem hk']
    rfl
  apply List.ext_getElem?
  intro k
  by_cases hk : k < 4
  · rw [List.getElem?_take_of_lt hk, g k hk]
    rcases (by omega : k = 0 ∨ k = 1 ∨ k = 2 ∨ k = 3) with rfl | rfl | rfl | rfl <;> rfl
  · rw [List.getElem?_eq_none (by rw [List.length_take]; omega), List.getElem?_eq_none (by simp; omega)]
theorem okay_next {l : List UInt8} {m c k : Nat} (h : ∀ t, t < k → l.getD (m + t) 0 = UInt8.ofNat (c / 256 ^ t)) (hk : l.getD (m + k) 0 = UInt8.ofNat (c / 256 ^ k)) : ∀ t, t < k + 1 → l.getD (m + t) 0 = UInt8.ofNat (c / 256 ^ t) := fun t ht => by
  by_cases e : t = k
  · rw [e]; exact hk
  · exact h t (by omega)
theorem tail4_eq (c : Nat) : tail4 c = [UInt8.ofNat (c / 256 ^ 0), UInt8.ofNat (c / 256 ^ 1), UInt8.ofNat (c / 256 ^ 2), UInt8.ofNat (c / 256 ^ 3)] := by unfold tail4; simp
theorem good {l : List UInt8} {n c : Nat} (h : n + 7 ≤ l.length) (hok : ∀ t, t < 4 → l.getD (n + 3 + t) 0 = UInt8.ofNat (c / 256 ^ t)) : (l.drop (n + 3)).take 4 = tail4 c := by
  rw [four l _ (by omega), tail4_eq, ← hok 0 (by decide), ← hok 1 (by decide), ← hok 2 (by decide), ← hok 3 (by decide)]
theorem not_good {l : List UInt8} {n c k : Nat} (hk : k < 4) (h : n + 7 ≤ l.length) (hne : l.getD (n + 3 + k) 0 ≠ UInt8.ofNat (c / 256 ^ k)) : ¬ (l.drop (n + 3)).take 4 = tail4 c := by
  rw [four l _ (by omega), tail4_eq]
  intro e
  injection e with e0 e
  injection e with e1 e
  injection e with e2 e
  injection e with e3 e
  rcases (by omega : k = 0 ∨ k = 1 ∨ k = 2 ∨ k = 3) with rfl | rfl | rfl | rfl
  · exact hne e0
  · exact hne e1
  · exact hne e2
  · exact hne e3
end Crc
set_option maxRecDepth 100000 in
set_option maxHeartbeats 4000000 in
theorem unpack_any (s : ByteArray) (w : World) (hs : s.size ≤ 140737488351232) : Calls Tryz.prog 37 #[.string s] w fun r w' => r = .returned (.tuple #[.string (Crc.unpackP s).1, .string (Crc.unpackP s).2.1, .int .i64 (Crc.unpackP s).2.2]) ∧ Below w.heap.size w w' := by
  unfold Crc.unpackP
  by_cases h3 : s.size < 3
  · rw [if_pos h3]
    have h3' : (s.size : Int) < 3 := by omega
    go_enter Tryz.func37, Tryz.ntmps37
    go_wp2_with fail
    refine bodyPost_ret (v := .tuple #[.string ⟨#[]⟩, .string ⟨#[]⟩, .int .i64 5]) (by simp [results, Tryz.results37, go_sem, *]) rfl ⟨rfl, Below.refl _ _⟩
  · rw [if_neg h3]
    have h3' : ¬ (s.size : Int) < 3 := by omega
    have hi0 : 0 < s.size := by omega
    have hi1 : 1 < s.size := by omega
    have hi2 : 2 < s.size := by omega
    have hi1' : (1 : Int) < (s.size : Int) := by omega
    have hi2' : (2 : Int) < (s.size : Int) := by omega
    have hget : ∀ j (hj : j < s.size), s.data.toList.getD j 0 = s[j] := fun j hj => by
      have hj' : j < s.data.size := hj
      rw [List.getD, Array.getElem?_toList, Array.getElem?_eq_getElem hj']
      rfl
    have hn : Crc.len3 s = 65536 * (s[0]).toNat + 256 * (s[1]).toNat + (s[2]).toNat := by unfold Crc.len3; rw [hget 0 hi0, hget 1 hi1, hget 2 hi2]
    have hor := or_three (s[0]).toNat (s[1]).toNat (s[2]).toNat (UInt8.toNat_lt _) (UInt8.toNat_lt _) (UInt8.toNat_lt _)
    have hnl : Crc.len3 s < 16777216 := by
      have h0 := UInt8.toNat_lt (s[0]); have h1 := UInt8.toNat_lt (s[1]); have h2 := UInt8.toNat_lt (s[2])
      omega
    rw [← hn] at hor
    have hg := Lib.hid hget
    clear hn hget
    have hwa : wrap64 ((s[0]).toNat : Int) = ((s[0]).toNat : Int) := by have := UInt8.toNat_lt (s[0]); unfold wrap64; omega
    have hwb : wrap64 ((s[1]).toNat : Int) = ((s[1]).toNat : Int) := by have := UInt8.toNat_lt (s[1]); unfold wrap64; omega
    have hwc : wrap64 ((s[2]).toNat : Int) = ((s[2]).toNat : Int) := by have := UInt8.toNat_lt (s[2]); unfold wrap64; omega
    have hwd : wrap64 (((s[0]).toNat : Int) * 65536) = ((s[0]).toNat : Int) * 65536 := by have := UInt8.toNat_lt (s[0]); unfold wrap64; omega
    have hwe : wrap64 (((s[1]).toNat : Int) * 256) = ((s[1]).toNat : Int) * 256 := by have := UInt8.toNat_lt (s[1]); unfold wrap64; omega
    generalize Crc.len3 s = n at hor hnl ⊢
    by_cases hm : 1048576 < n
    · rw [if_pos hm]
      have hm' : (1048576 : Int) < (n : Int) := by omega
      go_enter Tryz.func37, Tryz.ntmps37
      go_wp2_with fail
      go_quiet (fail)
      go_wp2_with fail
      refine bodyPost_ret (v := .tuple #[.string ⟨#[]⟩, .string ⟨#[]⟩, .int .i64 2]) (by simp [results, Tryz.results37, go_sem, *]) rfl ⟨rfl, ?_⟩
      first | exact Below.refl _ _ | exact Mem.bdrewN (Below.refl _ _) _
    · rw [if_neg hm]
      have hm' : (n : Int) ≤ (1048576 : Int) := by omega
      by_cases h7 : s.size < n + 7
      · rw [if_pos h7]
        have h7' : (s.size : Int) - 7 < (n : Int) := by omega
        go_enter Tryz.func37, Tryz.ntmps37
        go_wp2_with fail
        go_quiet (fail)
        go_wp2_with fail
        refine bodyPost_ret (v := .tuple #[.string ⟨#[]⟩, .string ⟨#[]⟩, .int .i64 5]) (by simp [results, Tryz.results37, go_sem, *]) rfl ⟨rfl, ?_⟩
        first | exact Below.refl _ _ | exact Mem.bdrewN (Below.refl _ _) _
      · rw [if_neg h7]
        have h7' : ¬ (s.size : Int) - 7 < (n : Int) := by omega
        have hz3 : (n : Int) + 3 ≤ (s.size : Int) := by omega
        have hz7 : (n : Int) + 7 ≤ (s.size : Int) := by omega
        have hsum := fun W => sum_any (s.extract 0 (n + 3)) W (by rw [ByteArray.size_extract]; omega)
        have hcl := Crc.sumN_lt (s.extract 0 (n + 3)).data.toList
        generalize Crc.sumN (s.extract 0 (n + 3)).data.toList = c at hsum hcl ⊢
        generalize hR : (if (s.data.toList.drop (n + 3)).take 4 = Crc.tail4 c then (s.extract 3 (n + 3), s.extract (n + 7) s.size, (0 : Int)) else (⟨#[]⟩, ⟨#[]⟩, 6)) = R
        have HR := Lib.hid hR
        clear hR
        go_enter Tryz.func37, Tryz.ntmps37
        go_wp2_with fail
        go_quiet (fail)
        go_wp2_with (go_at_call 67; refine (hsum _).mono ?_; rintro _ _ ⟨rfl, rfl⟩)
        go_loopw [36] (fun i wr => ∃ (j : Nat) (x : Int), x = j ∧ j ≤ 4 ∧ i = .int .i64 x ∧ Below w.heap.size w wr ∧ ∀ t, t < j → (s.data.toList.getD (n + 3 + t) 0) = UInt8.ofNat (c / 256 ^ t)) (fun i _ => 4 - (intOf i).toNat)
        case atStart => exact ⟨0, 0, rfl, by decide, rfl, (by first | exact Below.refl _ _ | exact Mem.bdrewN (Below.refl _ _) _), fun t ht => absurd ht (by omega)⟩
        case round =>
          obtain ⟨j, x, hxj, hj, rfl, hbel, hok⟩ := hrel
          by_cases h4 : j < 4
          · have Hok := Lib.hid hok
            clear hok
            rcases (by omega : j = 0 ∨ j = 1 ∨ j = 2 ∨ j = 3) with rfl | rfl | rfl | rfl
            · obtain rfl : x = 0 := hxj
              obtain ⟨p, hp⟩ : ∃ p, n + 3 = p := ⟨_, rfl⟩
              obtain ⟨q, hq⟩ : ∃ q, p + 0 = q := ⟨_, rfl⟩
              have hpi : (n : Int) + 3 = (p : Int) := by omega
              obtain rfl : p = q := hq
              have hij : p < s.size := by omega
              have hij' : (p : Int) < (s.size : Int) := by omega
              have hmod : ((UInt8.ofNat (c / 256 ^ 0)).toNat : Int) = (c : Int) % 256 := by rw [UInt8.toNat_ofNat']; omega
              have hat : s.data.toList.getD (n + 3 + 0) 0 = s[p] := by
                have := hg.out p hij
                rw [show n + 3 + 0 = p by omega]
                exact this
              generalize hbb : s[p] = bb at hat ⊢
              have HA := Lib.hid hat
              clear hat
              by_cases hbe : bb = UInt8.ofNat (c / 256 ^ 0)
              · have hcmp : (bb.toNat : Int) = (c : Int) % 256 := by rw [hbe]; exact hmod
                have HE := Lib.hid hbe
                clear hbe hmod
                go_wp2_with fail
                refine Mem.wp_region_after (by kernel_rfl) (by kernel_rfl) ?_
                repeat (go_big_quiet_step (fail))
                refine wpQuiet_nil ?_
                intro w1 hb1
                go_wp2_with fail
                go_roundw
                case rel => exact ⟨1, 1, rfl, by decide, rfl, hbel.trans (hb1.mono hbel.size), Crc.okay_next Hok.out (HA.out.trans HE.out)⟩
                case measure => decide
              · have hcmp : ¬ (bb.toNat : Int) = (c : Int) % 256 := fun h => hbe (UInt8.toNat_inj.1 (by omega))
                have HE := Lib.hid hbe
                clear hbe hmod
                go_wp2_with fail
                refine Mem.wp_region_after (by kernel_rfl) (by kernel_rfl) ?_
                repeat (go_big_quiet_step (fail))
                refine wpQuiet_nil ?_
                intro w1 hb1
                go_wp2_with fail
                refine bodyPost_ret (v := .tuple #[.string ⟨#[]⟩, .string ⟨#[]⟩, .int .i64 6]) (by simp [results, Tryz.results37, go_sem, *]) rfl ⟨?_, hbel.trans (hb1.mono hbel.size)⟩
                rw [← HR.out, if_neg (Crc.not_good (k := 0) (by decide) (by rw [Array.length_toList]; exact Nat.le_of_not_lt h7) (fun h => HE.out (HA.out.symm.trans h)))]
            · obtain rfl : x = 1 := hxj
              obtain ⟨p, hp⟩ : ∃ p, n + 3 = p := ⟨_, rfl⟩
              obtain ⟨q, hq⟩ : ∃ q, p + 1 = q := ⟨_, rfl⟩
              have hpi : (n : Int) + 3 = (p : Int) := by omega
              have hqi : (p : Int) + 1 = (q : Int) := by omega
              have hij : q < s.size := by omega
              have hij' : (q : Int) < (s.size : Int) := by omega
              have hmod : ((UInt8.ofNat (c / 256 ^ 1)).toNat : Int) = (c : Int) / 256 % 256 := by rw [UInt8.toNat_ofNat']; omega
              have hat : s.data.toList.getD (n + 3 + 1) 0 = s[q] := by
                have := hg.out q hij
                rw [show n + 3 + 1 = q by omega]
                exact this
              generalize hbb : s[q] = bb at hat ⊢
              have HA := Lib.hid hat
              clear hat
              by_cases hbe : bb = UInt8.ofNat (c / 256 ^ 1)
              · have hcmp : (bb.toNat : Int) = (c : Int) / 256 % 256 := by rw [hbe]; exact hmod
                have HE := Lib.hid hbe
                clear hbe hmod
                go_wp2_with fail
                refine Mem.wp_region_after (by kernel_rfl) (by kernel_rfl) ?_
                repeat (go_big_quiet_step (fail))
                refine wpQuiet_nil ?_
                intro w1 hb1
                go_wp2_with fail
                go_roundw
                case rel => exact ⟨2, 2, rfl, by decide, rfl, hbel.trans (hb1.mono hbel.size), Crc.okay_next Hok.out (HA.out.trans HE.out)⟩
                case measure => decide
              · have hcmp : ¬ (bb.toNat : Int) = (c : Int) / 256 % 256 := fun h => hbe (UInt8.toNat_inj.1 (by omega))
                have HE := Lib.hid hbe
                clear hbe hmod
                go_wp2_with fail
                refine Mem.wp_region_after (by kernel_rfl) (by kernel_rfl) ?_
                repeat (go_big_quiet_step (fail))
                refine wpQuiet_nil ?_
                intro w1 hb1
                go_wp2_with fail
                refine bodyPost_ret (v := .tuple #[.string ⟨#[]⟩, .string ⟨#[]⟩, .int .i64 6]) (by simp [results, Tryz.results37, go_sem, *]) rfl ⟨?_, hbel.trans (hb1.mono hbel.size)⟩
                rw [← HR.out, if_neg (Crc.not_good (k := 1) (by decide) (by rw [Array.length_toList]; exact Nat.le_of_not_lt h7) (fun h => HE.out (HA.out.symm.trans h)))]
            · obtain rfl : x = 2 := hxj
              obtain ⟨p, hp⟩ : ∃ p, n + 3 = p := ⟨_, rfl⟩
              obtain ⟨q, hq⟩ : ∃ q, p + 2 = q := ⟨_, rfl⟩
              have hpi : (n : Int) + 3 = (p : Int) := by omega
              have hqi : (p : Int) + 2 = (q : Int) := by omega
              have hij : q < s.size := by omega
              have hij' : (q : Int) < (s.size : Int) := by omega
              have hmod : ((UInt8.ofNat (c / 256 ^ 2)).toNat : Int) = (c : Int) / 65536 % 256 := by rw [UInt8.toNat_ofNat']; omega
              have hat : s.data.toList.getD (n + 3 + 2) 0 = s[q] := by
                have := hg.out q hij
                rw [show n + 3 + 2 = q by omega]
                exact this
              generalize hbb : s[q] = bb at hat ⊢
              have HA := Lib.hid hat
              clear hat
              by_cases hbe : bb = UInt8.ofNat (c / 256 ^ 2)
              · have hcmp : (bb.toNat : Int) = (c : Int) / 65536 % 256 := by rw [hbe]; exact hmod
                have HE := Lib.hid hbe
                clear hbe hmod
                go_wp2_with fail
                refine Mem.wp_region_after (by kernel_rfl) (by kernel_rfl) ?_
                repeat (go_big_quiet_step (fail))
                refine wpQuiet_nil ?_
                intro w1 hb1
                go_wp2_with fail
                go_roundw
                case rel => exact ⟨3, 3, rfl, by decide, rfl, hbel.trans (hb1.mono hbel.size), Crc.okay_next Hok.out (HA.out.trans HE.out)⟩
                case measure => decide
              · have hcmp : ¬ (bb.toNat : Int) = (c : Int) / 65536 % 256 := fun h => hbe (UInt8.toNat_inj.1 (by omega))
                have HE := Lib.hid hbe
                clear hbe hmod
                go_wp2_with fail
                refine Mem.wp_region_after (by kernel_rfl) (by kernel_rfl) ?_
                repeat (go_big_quiet_step (fail))
                refine wpQuiet_nil ?_
                intro w1 hb1
                go_wp2_with fail
                refine bodyPost_ret (v := .tuple #[.string ⟨#[]⟩, .string ⟨#[]⟩, .int .i64 6]) (by simp [results, Tryz.results37, go_sem, *]) rfl ⟨?_, hbel.trans (hb1.mono hbel.size)⟩
                rw [← HR.out, if_neg (Crc.not_good (k := 2) (by decide) (by rw [Array.length_toList]; exact Nat.le_of_not_lt h7) (fun h => HE.out (HA.out.symm.trans h)))]
            · obtain rfl : x = 3 := hxj
              obtain ⟨p, hp⟩ : ∃ p, n + 3 = p := ⟨_, rfl⟩
              obtain ⟨q, hq⟩ : ∃ q, p + 3 = q := ⟨_, rfl⟩
              have hpi : (n : Int) + 3 = (p : Int) := by omega
              have hqi : (p : Int) + 3 = (q : Int) := by omega
              have hij : q < s.size := by omega
              have hij' : (q : Int) < (s.size : Int) := by omega
              have hmod : ((UInt8.ofNat (c / 256 ^ 3)).toNat : Int) = (c : Int) / 16777216 := by rw [UInt8.toNat_ofNat']; omega
              have hat : s.data.toList.getD (n + 3 + 3) 0 = s[q] := by
                have := hg.out q hij
                rw [show n + 3 + 3 = q by omega]
                exact this
              generalize hbb : s[q] = bb at hat ⊢
              have HA := Lib.hid hat
              clear hat
              by_cases hbe : bb = UInt8.ofNat (c / 256 ^ 3)
              · have hcmp : (bb.toNat : Int) = (c : Int) / 16777216 := by rw [hbe]; exact hmod
                have HE := Lib.hid hbe
                clear hbe hmod
                go_wp2_with fail
                refine Mem.wp_region_after (by kernel_rfl) (by kernel_rfl) ?_
                repeat (go_big_quiet_step (fail))
                refine wpQuiet_nil ?_
                intro w1 hb1
                go_wp2_with fail
                go_roundw
                case rel => exact ⟨4, 4, rfl, by decide, rfl, hbel.trans (hb1.mono hbel.size), Crc.okay_next Hok.out (HA.out.trans HE.out)⟩
                case measure => decide
              · have hcmp : ¬ (bb.toNat : Int) = (c : Int) / 16777216 := fun h => hbe (UInt8.toNat_inj.1 (by omega))
                have HE := Lib.hid hbe
                clear hbe hmod
                go_wp2_with fail
                refine Mem.wp_region_after (by kernel_rfl) (by kernel_rfl) ?_
                repeat (go_big_quiet_step (fail))
                refine wpQuiet_nil ?_
                intro w1 hb1
                go_wp2_with fail
                refine bodyPost_ret (v := .tuple #[.string ⟨#[]⟩, .string ⟨#[]⟩, .int .i64 6]) (by simp [results, Tryz.results37, go_sem, *]) rfl ⟨?_, hbel.trans (hb1.mono hbel.size)⟩
                rw [← HR.out, if_neg (Crc.not_good (k := 3) (by decide) (by rw [Array.length_toList]; exact Nat.le_of_not_lt h7) (fun h => HE.out (HA.out.symm.trans h)))]
          · have hj4 : j = 4 := by omega
            subst hj4
            obtain rfl : x = 4 := hxj
            have Hok := Lib.hid hok
            clear hok
            have hz31 : (3 : Int) ≤ (n : Int) + 3 := by omega
            go_wp2_with fail
            refine Mem.wp_region_after (by kernel_rfl) (by kernel_rfl) ?_
            repeat (go_big_quiet_step (fail))
            refine wpQuiet_nil ?_
            intro w1 hb1
            go_wp2_with fail
            refine bodyPost_ret (v := .tuple #[.string (s.extract 3 (n + 3)), .string (s.extract (n + 7) s.size), .int .i64 0]) (by simp [results, Tryz.results37, go_sem, *]) rfl ⟨?_, hbel.trans (hb1.mono hbel.size)⟩
            rw [← HR.out, if_pos (Crc.good (by rw [Array.length_toList]; exact Nat.le_of_not_lt h7) Hok.out)]
end Go.Proofs.YtpdceondgbgpkaaGreatDoor
namespace Go.Proofs.YtpdceondgbgpkaaGreatDoor
open Sp (bs)
namespace Crc
theorem ext_list {a b : ByteArray} (h : a.data.toList = b.data.toList) : a = b := ByteArray.ext (Array.toList_inj.1 h)
theorem packB_list (s : ByteArray) : (packB s).data.toList = head3 s.size ++ (s.data.toList ++ tail4 (sumN (body s).data.toList)) := by
  unfold packB body
  simp [bs]
theorem body_list (s : ByteArray) : (body s).data.toList = head3 s.size ++ s.data.toList := by
  unfold body
  simp [bs]
theorem ext_get (a : ByteArray) (i j : Nat) : (a.extract i j).data.toList = (a.data.toList.drop i).take (j - i) := by
  rw [ByteArray.data_extract, Array.toList_extract, List.extract_eq_take_drop]
theorem len3_pack (s : ByteArray) (h : s.size ≤ 1048576) : len3 (packB s) = s.size := by
  unfold len3
  rw [packB_list]
  show 65536 * (UInt8.ofNat (s.size / 65536)).toNat + 256 * (UInt8.ofNat (s.size / 256)).toNat + (UInt8.ofNat s.size).toNat = s.size
  rw [UInt8.toNat_ofNat', UInt8.toNat_ofNat', UInt8.toNat_ofNat']
  omega
theorem unpack_pack (s : ByteArray) (h : s.size ≤ 1048576) : unpackP (packB s) = (s, ⟨#[]⟩, 0) := by
  have hl : s.data.toList.length = s.size := Array.length_toList
  unfold unpackP
  rw [len3_pack s h, packB_size, if_neg (by omega), if_neg (by omega), if_neg (by omega)]
  have e1 : (packB s).extract 0 (s.size + 3) = body s := by
    apply ext_list
    rw [ext_get, packB_list, body_list, ← List.append_assoc, List.drop_zero]
    exact List.take_left' (by rw [List.length_append, hl]; show 3 + s.size = s.size + 3 - 0; omega)
  have e2 : ((packB s).data.toList.drop (s.size + 3)).take 4 = tail4 (sumN (body s).data.toList) := by
    rw [packB_list, ← List.append_assoc, List.drop_left' (by rw [List.length_append, hl]; show 3 + s.size = s.size + 3; omega)]
    rfl
  have e3 : (packB s).extract 3 (s.size + 3) = s := by
    apply ext_list
    rw [ext_get, packB_list]
    show List.take (s.size + 3 - 3) (s.data.toList ++ tail4 (sumN (body s).data.toList)) = _
    exact List.take_left' (by rw [hl]; omega)
  have e4 : (packB s).extract (s.size + 7) (s.size + 7) = ⟨#[]⟩ := by
    apply ext_list
    rw [ext_get, Nat.sub_self, List.take_zero]
  rw [e1, if_pos e2, e3, e4]
end Crc
end Go.Proofs.YtpdceondgbgpkaaGreatDoor
namespace Go.Proofs.YtpdceondgbgpkaaGreatDoor
open Sp (bs)
namespace Crc
theorem head_take (l : List UInt8) (h : 3 ≤ l.length) : head3 (65536 * (l.getD 0 0).toNat + 256 * (l.getD 1 0).toNat + (l.getD 2 0).toNat) = l.take 3 := by
  match l, h with
  | a :: b :: c :: r, _ =>
    show head3 (65536 * a.toNat + 256 * b.toNat + c.toNat) = [a, b, c]
    have ha := UInt8.toNat_lt a
    have hb := UInt8.toNat_lt b
    have hc := UInt8.toNat_lt c
    have e1 : UInt8.ofNat ((65536 * a.toNat + 256 * b.toNat + c.toNat) / 65536) = a := UInt8.toNat_inj.1 (by rw [UInt8.toNat_ofNat']; omega)
    have e2 : UInt8.ofNat ((65536 * a.toNat + 256 * b.toNat + c.toNat) / 256) = b := UInt8.toNat_inj.1 (by rw [UInt8.toNat_ofNat']; omega)
    have e3 : UInt8.ofNat (65536 * a.toNat + 256 * b.toNat + c.toNat) = c := UInt8.toNat_inj.1 (by rw [UInt8.toNat_ofNat']; omega)
    unfold head3
    rw [e1, e2, e3]
theorem body_ext (s : ByteArray) (h : len3 s + 7 ≤ s.size) : body (s.extract 3 (len3 s + 3)) = s.extract 0 (len3 s + 3) := by
  have hl : s.data.toList.length = s.size := Array.length_toList
  have hz : (s.extract 3 (len3 s + 3)).size = len3 s := by rw [ByteArray.size_extract]; omega
  apply ext_list
  rw [body_list, hz, ext_get, ext_get]
  have ht := head_take s.data.toList (by omega)
  have hn : 65536 * (s.data.toList.getD 0 0).toNat + 256 * (s.data.toList.getD 1 0).toNat + (s.data.toList.getD 2 0).toNat = len3 s := rfl
  rw [hn] at ht
  rw [ht, List.drop_zero, show len3 s + 3 - 3 = len3 s by omega, show len3 s + 3 - 0 = 3 + len3 s by omega, List.take_add]
theorem pack_eq (s : ByteArray) (h : len3 s + 7 ≤ s.size) : packB (s.extract 3 (len3 s + 3)) = s.extract 0 (len3 s + 7) ↔ (s.data.toList.drop (len3 s + 3)).take 4 = tail4 (sumN (s.extract 0 (len3 s + 3)).data.toList) := by
  have hl : s.data.toList.length = s.size := Array.length_toList
  have e : (s.extract 0 (len3 s + 7)).data.toList = (s.extract 0 (len3 s + 3)).data.toList ++ (s.data.toList.drop (len3 s + 3)).take 4 := by
    rw [ext_get, ext_get, List.drop_zero, show len3 s + 7 - 0 = (len3 s + 3) + 4 by omega, List.take_add]
    rfl
  have e2 : (packB (s.extract 3 (len3 s + 3))).data.toList = (s.extract 0 (len3 s + 3)).data.toList ++ tail4 (sumN (s.extract 0 (len3 s + 3)).data.toList) := by
    unfold packB
    rw [body_ext s h]
    simp [bs]
  constructor
  · intro hh
    rw [hh, e] at e2
    exact List.append_cancel_left e2
  · intro hh
    apply ext_list
    rw [e, e2, hh]
end Crc
end Go.Proofs.YtpdceondgbgpkaaGreatDoor
