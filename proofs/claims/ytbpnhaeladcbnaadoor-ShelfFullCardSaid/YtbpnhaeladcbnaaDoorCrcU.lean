/- crc: what is at the front of bytes. -/
import Derived.Test.YtbpnhaeladcbnaaDoorCrcW
namespace Go.Proofs.YtbpnhaeladcbnaaDoor
open Go.RowKit
set_option linter.unusedSimpArgs false
set_option linter.unusedVariables false
open Sp (bs)
theorem i64_or_nat (a b : Nat) (ha : a < 9223372036854775808) (hb : b < 9223372036854775808) : bits .or .i64 (a : Int) (b : Int) = ((a ||| b : Nat) : Int) := by
  have hx : a ||| b < 2 ^ 63 := Nat.or_lt_two_pow (by omega) (by omega)
  show IntKind.i64.wrap ((BitVec.ofInt 64 (a : Int) ||| BitVec.ofInt 64 (b : Int)).toNat : Int) = _
  rw [BitVec.toNat_or, ofInt_u64 a (by omega), ofInt_u64 b (by omega)]
  simp [IntKind.wrap, IntKind.bits, IntKind.signed]
  omega
theorem or_three (a b c : Nat) (ha : a < 256) (hb : b < 256) (hc : c < 256) : bits .or .i64 (bits .or .i64 ((a : Int) * 65536) ((b : Int) * 256)) (c : Int) = ((65536 * a + 256 * b + c : Nat) : Int) := by
  have e1 : a * 65536 ||| b * 256 = a * 65536 + b * 256 := by
    have := Nat.two_pow_add_eq_or_of_lt (i := 16) (b := b * 256) (by omega) a
    rw [Nat.mul_comm a 65536]
    exact this.symm
  have e2 : a * 65536 + b * 256 ||| c = a * 65536 + b * 256 + c := by
    have := Nat.two_pow_add_eq_or_of_lt (i := 8) (b := c) (by omega) (a * 256 + b)
    rw [show a * 65536 + b * 256 = 2 ^ 8 * (a * 256 + b) by omega]
    exact this.symm
  rw [show (a : Int) * 65536 = ((a * 65536 : Nat) : Int) by omega, show (b : Int) * 256 = ((b * 256 : Nat) : Int) by omega, i64_or_nat _ _ (by omega) (by omega), e1, i64_or_nat _ _ (by omega) (by omega), e2]
  omega
namespace Crc
/-- The body at the front, what stands behind, the error. -/
def len3 (s : ByteArray) : Nat := 65536 * (s.data.toList.getD 0 0).toNat + 256 * (s.data.toList.getD 1 0).toNat + (s.data.toList.getD 2 0).toNat
def unpackP (s : ByteArray) : ByteArray × ByteArray × Int :=
  if s.size < 3 then (⟨#[]⟩, ⟨#[]⟩, 5) else if 1048576 < len3 s then (⟨#[]⟩, ⟨#[]⟩, 2) else if s.size < len3 s + 7 then (⟨#[]⟩, ⟨#[]⟩, 5)
  else if (s.data.toList.drop (len3 s + 3)).take 4 = tail4 (sumN (s.extract 0 (len3 s + 3)).data.toList) then (s.extract 3 (len3 s + 3), s.extract (len3 s + 7) s.size, 0) else (⟨#[]⟩, ⟨#[]⟩, 6)
theorem four (l : List UInt8) (m : Nat) (h : m + 4 ≤ l.length) : (l.drop m).take 4 = [l.getD m 0, l.getD (m + 1) 0, l.getD (m + 2) 0, l.getD (m + 3) 0] := by
  have g : ∀ k, k < 4 → (l.drop m)[k]? = some (l.getD (m + k) 0) := fun k hk => by
    have hk' : m + k < l.length := by omega
    rw [List.getElem?_drop, List.getD, List.getElem?_eq_getElem hk']
    rfl
  apply List.ext_getElem?
  intro k
  by_cases hk : k < 4
  · rw [List.getElem?_take_of_lt hk, g k hk]
    rcases (by omega : k = 0 ∨ k = 1 ∨ k = 2 ∨ k = 3) with rfl | rfl | rfl | rfl <;> rfl
  · rw [List.getElem?_eq_none (by rw [List.length_take]; omega), List.getElem?_eq_none (by simp; omega)]
theorem okay_next {l : List UInt8} {m c k : Nat} (h : ∀ t, t < k → l.getD (m + t) 0 = UInt8.ofNat (c / 256 ^ t)) (hk : l.getD (m + k) 0 = UInt8.ofNat (c / 256 ^ k)) : ∀ t, t < k + 1 → l.getD (m + t) 0 = UInt8.ofNat (c / 256 ^ t) := fun t ht => by
  by_cases e : t = k
  · rw [e]; exact hk
  · exact h t (by omega)
theorem tail4_eq (c : Nat) : tail4 c = [UInt8.ofNat (c / 256 ^ 0), UInt8.ofNat (c / 256 ^ 1), UInt8.ofNat (c / 256 ^ 2), UInt8.ofNat (c / 256 ^ 3)] := by unfold tail4; simp
theorem good {l : List UInt8} {n c : Nat} (h : n + 7 ≤ l.length) (hok : ∀ t, t < 4 → l.getD (n + 3 + t) 0 = UInt8.ofNat (c / 256 ^ t)) : (l.drop (n + 3)).take 4 = tail4 c := by
  rw [four l _ (by omega), tail4_eq, ← hok 0 (by decide), ← hok 1 (by decide), ← hok 2 (by decide), ← hok 3 (by decide)]
theorem not_good {l : List UInt8} {n c k : Nat} (hk : k < 4) (h : n + 7 ≤ l.length) (hne : l.getD (n + 3 + k) 0 ≠ UInt8.ofNat (c / 256 ^ k)) : ¬ (l.drop (n + 3)).take 4 = tail4 c := by
  rw [four l _ (by omega), tail4_eq]
  intro e
  injection e with e0 e
  injection e with e1 e
  injection e with e2 e
  injection e with e3 e
  rcases (by omega : k = 0 ∨ k = 1 ∨ k = 2 ∨ k = 3) with rfl | rfl | rfl | rfl
  · exact hne e0
  · exact hne e1
  · exact hne e2
  · exact hne e3
end Crc
set_option maxRecDepth 100000 in
set_option maxHeartbeats 4000000 in
theorem unpack_any (s : ByteArray) (w : World) (hs : s.size ≤ 140737488351232) : Calls Tryd.prog 35 #[.string s] w fun r w' => r = .returned (.tuple #[.string (Crc.unpackP s).1, .string (Crc.unpackP s).2.1, .int .i64 (Crc.unpackP s).2.2]) ∧ Below w.heap.size w w' := by
  unfold Crc.unpackP
  by_cases h3 : s.size < 3
  · rw [if_pos h3]
    have h3' : (s.size : Int) < 3 := by omega
    go_enter Tryd.func35, Tryd.ntmps35
    go_wp2_with fail
    refine bodyPost_ret (v := .tuple #[.string ⟨#[]⟩, .string ⟨#[]⟩, .int .i64 5]) (by simp [results, Tryd.results35, go_sem, *]) rfl ⟨rfl, Below.refl _ _⟩
  · rw [if_neg h3]
    have h3' : ¬ (s.size : Int) < 3 := by omega
    have hi0 : 0 < s.size := by omega
    have hi1 : 1 < s.size := by omega
    have hi2 : 2 < s.size := by omega
    have hi1' : (1 : Int) < (s.size : Int) := by omega
    have hi2' : (2 : Int) < (s.size : Int) := by omega
    have hget : ∀ j (hj : j < s.size), s.data.toList.getD j 0 = s[j] := fun j hj => by
      have hj' : j < s.data.size := hj
      rw [List.getD, Array.getElem?_toList, Array.getElem?_eq_getElem hj']
      rfl
    have hn : Crc.len3 s = 65536 * (s[0]).toNat + 256 * (s[1]).toNat + (s[2]).toNat := by unfold Crc.len3; rw [hget 0 hi0, hget 1 hi1, hget 2 hi2]
    have hor := or_three (s[0]).toNat (s[1]).toNat (s[2]).toNat (UInt8.toNat_lt _) (UInt8.toNat_lt _) (UInt8.toNat_lt _)
    have hnl : Crc.len3 s < 16777216 := by
      have h0 := UInt8.toNat_lt (s[0]); have h1 := UInt8.toNat_lt (s[1]); have h2 := UInt8.toNat_lt (s[2])
      omega
    rw [← hn] at hor
    have hg := Lib.hid hget
    clear hn hget
    have hwa : wrap64 ((s[0]).toNat : Int) = ((s[0]).toNat : Int) := by have := UInt8.toNat_lt (s[0]); unfold wrap64; omega
    have hwb : wrap64 ((s[1]).toNat : Int) = ((s[1]).toNat : Int) := by have := UInt8.toNat_lt (s[1]); unfold wrap64; omega
    have hwc : wrap64 ((s[2]).toNat : Int) = ((s[2]).toNat : Int) := by have := UInt8.toNat_lt (s[2]); unfold wrap64; omega
    have hwd : wrap64 (((s[0]).toNat : Int) * 65536) = ((s[0]).toNat : Int) * 65536 := by have := UInt8.toNat_lt (s[0]); unfold wrap64; omega
    have hwe : wrap64 (((s[1]).toNat : Int) * 256) = ((s[1]).toNat : Int) * 256 := by have := UInt8.toNat_lt (s[1]); unfold wrap64; omega
    generalize Crc.len3 s = n at hor hnl ⊢
    by_cases hm : 1048576 < n
    · rw [if_pos hm]
      have hm' : (1048576 : Int) < (n : Int) := by omega
      go_enter Tryd.func35, Tryd.ntmps35
      go_wp2_with fail
      go_quiet (fail)
      go_wp2_with fail
      refine bodyPost_ret (v := .tuple #[.string ⟨#[]⟩, .string ⟨#[]⟩, .int .i64 2]) (by simp [results, Tryd.results35, go_sem, *]) rfl ⟨rfl, ?_⟩
      first | exact Below.refl _ _ | exact Mem.bdrewN (Below.refl _ _) _
    · rw [if_neg hm]
      have hm' : (n : Int) ≤ (1048576 : Int) := by omega
      by_cases h7 : s.size < n + 7
      · rw [if_pos h7]
        have h7' : (s.size : Int) - 7 < (n : Int) := by omega
        go_enter Tryd.func35, Tryd.ntmps35
        go_wp2_with fail
        go_quiet (fail)
        go_wp2_with fail
        refine bodyPost_ret (v := .tuple #[.string ⟨#[]⟩, .string ⟨#[]⟩, .int .i64 5]) (by simp [results, Tryd.results35, go_sem, *]) rfl ⟨rfl, ?_⟩
        first | exact Below.refl _ _ | exact Mem.bdrewN (Below.refl _ _) _
      · rw [if_neg h7]
        have h7' : ¬ (s.size : Int) - 7 < (n : Int) := by omega
        have hz3 : (n : Int) + 3 ≤ (s.size : Int) := by omega
        have hz7 : (n : Int) + 7 ≤ (s.size : Int) := by omega
        have hsum := fun W => sum_any (s.extract 0 (n + 3)) W (by rw [ByteArray.size_extract]; omega)
        have hcl := Crc.sumN_lt (s.extract 0 (n + 3)).data.toList
        generalize Crc.sumN (s.extract 0 (n + 3)).data.toList = c at hsum hcl ⊢
        generalize hR : (if (s.data.toList.drop (n + 3)).take 4 = Crc.tail4 c then (s.extract 3 (n + 3), s.extract (n + 7) s.size, (0 : Int)) else (⟨#[]⟩, ⟨#[]⟩, 6)) = R
        have HR := Lib.hid hR
        clear hR
        go_enter Tryd.func35, Tryd.ntmps35
        go_wp2_with fail
        go_quiet (fail)
        go_wp2_with (go_at_call 54; refine (hsum _).mono ?_; rintro _ _ ⟨rfl, rfl⟩)
        go_loopw [36] (fun i wr => ∃ (j : Nat) (x : Int), x = j ∧ j ≤ 4 ∧ i = .int .i64 x ∧ Below w.heap.size w wr ∧ ∀ t, t < j → (s.data.toList.getD (n + 3 + t) 0) = UInt8.ofNat (c / 256 ^ t)) (fun i _ => 4 - (intOf i).toNat)
        case atStart => exact ⟨0, 0, rfl, by decide, rfl, (by first | exact Below.refl _ _ | exact Mem.bdrewN (Below.refl _ _) _), fun t ht => absurd ht (by omega)⟩
        case round =>
          obtain ⟨j, x, hxj, hj, rfl, hbel, hok⟩ := hrel
          by_cases h4 : j < 4
          · have Hok := Lib.hid hok
            clear hok
            rcases (by omega : j = 0 ∨ j = 1 ∨ j = 2 ∨ j = 3) with rfl | rfl | rfl | rfl
            · obtain rfl : x = 0 := hxj
              obtain ⟨p, hp⟩ : ∃ p, n + 3 = p := ⟨_, rfl⟩
              obtain ⟨q, hq⟩ : ∃ q, p + 0 = q := ⟨_, rfl⟩
              have hpi : (n : Int) + 3 = (p : Int) := by omega
              obtain rfl : p = q := hq
              have hij : p < s.size := by omega
              have hij' : (p : Int) < (s.size : Int) := by omega
              have hmod : ((UInt8.ofNat (c / 256 ^ 0)).toNat : Int) = (c : Int) % 256 := by rw [UInt8.toNat_ofNat']; omega
              have hat : s.data.toList.getD (n + 3 + 0) 0 = s[p] := by
                have := hg.out p hij
                rw [show n + 3 + 0 = p by omega]
                exact this
              generalize hbb : s[p] = bb at hat ⊢
              have HA := Lib.hid hat
              clear hat
              by_cases hbe : bb = UInt8.ofNat (c / 256 ^ 0)
              · have hcmp : (bb.toNat : Int) = (c : Int) % 256 := by rw [hbe]; exact hmod
                have HE := Lib.hid hbe
                clear hbe hmod
                go_wp2_with fail
                refine Mem.wp_region_after (by kernel_rfl) (by kernel_rfl) ?_
                repeat (go_big_quiet_step (fail))
                refine wpQuiet_nil ?_
                intro w1 hb1
                go_wp2_with fail
                go_roundw
                case rel => exact ⟨1, 1, rfl, by decide, rfl, hbel.trans (hb1.mono hbel.size), Crc.okay_next Hok.out (HA.out.trans HE.out)⟩
                case measure => decide
              · have hcmp : ¬ (bb.toNat : Int) = (c : Int) % 256 := fun h => hbe (UInt8.toNat_inj.1 (by omega))
                have HE := Lib.hid hbe
                clear hbe hmod
                go_wp2_with fail
                refine Mem.wp_region_after (by kernel_rfl) (by kernel_rfl) ?_
                repeat (go_big_quiet_step (fail))
                refine wpQuiet_nil ?_
                intro w1 hb1
                go_wp2_with fail
                refine bodyPost_ret (v := .tuple #[.string ⟨#[]⟩, .string ⟨#[]⟩, .int .i64 6]) (by simp [results, Tryd.results35, go_sem, *]) rfl ⟨?_, hbel.trans (hb1.mono hbel.size)⟩
                rw [← HR.out, if_neg (Crc.not_good (k := 0) (by decide) (by rw [Array.length_toList]; exact Nat.le_of_not_lt h7) (fun h => HE.out (HA.out.symm.trans h)))]
            · obtain rfl : x = 1 := hxj
              obtain ⟨p, hp⟩ : ∃ p, n + 3 = p := ⟨_, rfl⟩
              obtain ⟨q, hq⟩ : ∃ q, p + 1 = q := ⟨_, rfl⟩
              have hpi : (n : Int) + 3 = (p : Int) := by omega
              have hqi : (p : Int) + 1 = (q : Int) := by omega
              have hij : q < s.size := by omega
              have hij' : (q : Int) < (s.size : Int) := by omega
              have hmod : ((UInt8.ofNat (c / 256 ^ 1)).toNat : Int) = (c : Int) / 256 % 256 := by rw [UInt8.toNat_ofNat']; omega
              have hat : s.data.toList.getD (n + 3 + 1) 0 = s[q] := by
                have := hg.out q hij
                rw [show n + 3 + 1 = q by omega]
                exact this
              generalize hbb : s[q] = bb at hat ⊢
              have HA := Lib.hid hat
              clear hat
              by_cases hbe : bb = UInt8.ofNat (c / 256 ^ 1)
              · have hcmp : (bb.toNat : Int) = (c : Int) / 256 % 256 := by rw [hbe]; exact hmod
                have HE := Lib.hid hbe
                clear hbe hmod
                go_wp2_with fail
                refine Mem.wp_region_after (by kernel_rfl) (by kernel_rfl) ?_
                repeat (go_big_quiet_step (fail))
                refine wpQuiet_nil ?_
                intro w1 hb1
                go_wp2_with fail
                go_roundw
                case rel => exact ⟨2, 2, rfl, by decide, rfl, hbel.trans (hb1.mono hbel.size), Crc.okay_next Hok.out (HA.out.trans HE.out)⟩
                case measure => decide
              · have hcmp : ¬ (bb.toNat : Int) = (c : Int) / 256 % 256 := fun h => hbe (UInt8.toNat_inj.1 (by omega))
                have HE := Lib.hid hbe
                clear hbe hmod
                go_wp2_with fail
                refine Mem.wp_region_after (by kernel_rfl) (by kernel_rfl) ?_
                repeat (go_big_quiet_step (fail))
                refine wpQuiet_nil ?_
                intro w1 hb1
                go_wp2_with fail
                refine bodyPost_ret (v := .tuple #[.string ⟨#[]⟩, .string ⟨#[]⟩, .int .i64 6]) (by simp [results, Tryd.results35, go_sem, *]) rfl ⟨?_, hbel.trans (hb1.mono hbel.size)⟩
                rw [← HR.out, if_neg (Crc.not_good (k := 1) (by decide) (by rw [Array.length_toList]; exact Nat.le_of_not_lt h7) (fun h => HE.out (HA.out.symm.trans h)))]
            · obtain rfl : x = 2 := hxj
              obtain ⟨p, hp⟩ : ∃ p, n + 3 = p := ⟨_, rfl⟩
              obtain ⟨q, hq⟩ : ∃ q, p + 2 = q := ⟨_, rfl⟩
              have hpi : (n : Int) + 3 = (p : Int) := by omega
              have hqi : (p : Int) + 2 = (q : Int) := by omega
              have hij : q < s.size := by omega
              have hij' : (q : Int) < (s.size : Int) := by omega
              have hmod : ((UInt8.ofNat (c / 256 ^ 2)).toNat : Int) = (c : Int) / 65536 % 256 := by rw [UInt8.toNat_ofNat']; omega
              have hat : s.data.toList.getD (n + 3 + 2) 0 = s[q] := by
                have := hg.out q hij
                rw [show n + 3 + 2 = q by omega]
                exact this
              generalize hbb : s[q] = bb at hat ⊢
              have HA := Lib.hid hat
              clear hat
              by_cases hbe : bb = UInt8.ofNat (c / 256 ^ 2)
              · have hcmp : (bb.toNat : Int) = (c : Int) / 65536 % 256 := by rw [hbe]; exact hmod
                have HE := Lib.hid hbe
                clear hbe hmod
                go_wp2_with fail
                refine Mem.wp_region_after (by kernel_rfl) (by kernel_rfl) ?_
                repeat (go_big_quiet_step (fail))
                refine wpQuiet_nil ?_
                intro w1 hb1
                go_wp2_with fail
                go_roundw
                case rel => exact ⟨3, 3, rfl, by decide, rfl, hbel.trans (hb1.mono hbel.size), Crc.okay_next Hok.out (HA.out.trans HE.out)⟩
                case measure => decide
              · have hcmp : ¬ (bb.toNat : Int) = (c : Int) / 65536 % 256 := fun h => hbe (UInt8.toNat_inj.1 (by omega))
                have HE := Lib.hid hbe
                clear hbe hmod
                go_wp2_with fail
                refine Mem.wp_region_after (by kernel_rfl) (by kernel_rfl) ?_
                repeat (go_big_quiet_step (fail))
                refine wpQuiet_nil ?_
                intro w1 hb1
                go_wp2_with fail
                refine bodyPost_ret (v := .tuple #[.string ⟨#[]⟩, .string ⟨#[]⟩, .int .i64 6]) (by simp [results, Tryd.results35, go_sem, *]) rfl ⟨?_, hbel.trans (hb1.mono hbel.size)⟩
                rw [← HR.out, if_neg (Crc.not_good (k := 2) (by decide) (by rw [Array.length_toList]; exact Nat.le_of_not_lt h7) (fun h => HE.out (HA.out.symm.trans h)))]
            · obtain rfl : x = 3 := hxj
              obtain ⟨p, hp⟩ : ∃ p, n + 3 = p := ⟨_, rfl⟩
              obtain ⟨q, hq⟩ : ∃ q, p + 3 = q := ⟨_, rfl⟩
              have hpi : (n : Int) + 3 = (p : Int) := by omega
              have hqi : (p : Int) + 3 = (q : Int) := by omega
              have hij : q < s.size := by omega
              have hij' : (q : Int) < (s.size : Int) := by omega
              have hmod : ((UInt8.ofNat (c / 256 ^ 3)).toNat : Int) = (c : Int) / 16777216 := by rw [UInt8.toNat_ofNat']; omega
              have hat : s.data.toList.getD (n + 3 + 3) 0 = s[q] := by
                have := hg.out q hij
                rw [show n + 3 + 3 = q by omega]
                exact this
              generalize hbb : s[q] = bb at hat ⊢
              have HA := Lib.hid hat
              clear hat
              by_cases hbe : bb = UInt8.ofNat (c / 256 ^ 3)
              · have hcmp : (bb.toNat : Int) = (c : Int) / 16777216 := by rw [hbe]; exact hmod
                have HE := Lib.hid hbe
                clear hbe hmod
                go_wp2_with fail
                refine Mem.wp_region_after (by kernel_rfl) (by kernel_rfl) ?_
                repeat (go_big_quiet_step (fail))
                refine wpQuiet_nil ?_
                intro w1 hb1
                go_wp2_with fail
                go_roundw
                case rel => exact ⟨4, 4, rfl, by decide, rfl, hbel.trans (hb1.mono hbel.size), Crc.okay_next Hok.out (HA.out.trans HE.out)⟩
                case measure => decide
              · have hcmp : ¬ (bb.toNat : Int) = (c : Int) / 16777216 := fun h => hbe (UInt8.toNat_inj.1 (by omega))
                have HE := Lib.hid hbe
                clear hbe hmod
                go_wp2_with fail
                refine Mem.wp_region_after (by kernel_rfl) (by kernel_rfl) ?_
                repeat (go_big_quiet_step (fail))
                refine wpQuiet_nil ?_
                intro w1 hb1
                go_wp2_with fail
                refine bodyPost_ret (v := .tuple #[.string ⟨#[]⟩, .string ⟨#[]⟩, .int .i64 6]) (by simp [results, Tryd.results35, go_sem, *]) rfl ⟨?_, hbel.trans (hb1.mono hbel.size)⟩
                rw [← HR.out, if_neg (Crc.not_good (k := 3) (by decide) (by rw [Array.length_toList]; exact Nat.le_of_not_lt h7) (fun h => HE.out (HA.out.symm.trans h)))]
          · have hj4 : j = 4 := by omega
            subst hj4
            obtain rfl : x = 4 := hxj
            have Hok := Lib.hid hok
            clear hok
            have hz31 : (3 : Int) ≤ (n : Int) + 3 := by omega
            go_wp2_with fail
            refine Mem.wp_region_after (by kernel_rfl) (by kernel_rfl) ?_
            repeat (go_big_quiet_step (fail))
            refine wpQuiet_nil ?_
            intro w1 hb1
            go_wp2_with fail
            refine bodyPost_ret (v := .tuple #[.string (s.extract 3 (n + 3)), .string (s.extract (n + 7) s.size), .int .i64 0]) (by simp [results, Tryd.results35, go_sem, *]) rfl ⟨?_, hbel.trans (hb1.mono hbel.size)⟩
            rw [← HR.out, if_pos (Crc.good (by rw [Array.length_toList]; exact Nat.le_of_not_lt h7) Hok.out)]
end Go.Proofs.YtbpnhaeladcbnaaDoor
