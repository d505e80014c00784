/- The document's own bytes of numbers: the same bytes. -/
import Derived.Test.YthaehoefbejadaaDoorBits2
import Derived.Test.YthaehoefbejadaaDoorBeGet
namespace Go.Proofs.YthaehoefbejadaaDoor
open Go.RowKit
open Sp (fold intB textS bs)
theorem shr8 (n k : Nat) : (n : Int) / 2 ^ (8 * k) = ((n / 256 ^ k : Nat) : Int) := by
  rw [Int.pow_mul, Int.natCast_ediv, Int.natCast_pow]
  rfl
/-- The bytes that are there when j of them are left. -/
def head (n j : Nat) : List Value := ((Sp.num n).take (1 + Sp.wd n - j)).map fun b => Value.int .u8 (b.toNat : Int)
theorem head_first (n : Nat) (h0 : 248 ≤ n) (h1 : Sp.wd n ≤ 8) : head n (Sp.wd n) = [.int .u8 (247 + (Sp.wd n : Int))] := by
  unfold head Sp.num
  rw [if_neg (by omega), show 1 + Sp.wd n - Sp.wd n = 1 by omega]
  simp [UInt8.toNat_ofNat']
  omega
theorem head_next (n j : Nat) (h0 : 248 ≤ n) (h1 : Sp.wd n ≤ 8) (hj : j < Sp.wd n) : head n j = head n (j + 1) ++ [.int .u8 ((n : Int) / 2 ^ (8 * j) % 256)] := by
  have e : 1 + Sp.wd n - j = (1 + Sp.wd n - (j + 1)) + 1 := by omega
  have e2 : 1 + Sp.wd n - (j + 1) = (Sp.wd n - 1 - j) + 1 := by omega
  unfold head
  rw [e, List.take_add_one, List.map_append]
  congr 1
  unfold Sp.num
  rw [if_neg (by omega), e2, List.getElem?_cons_succ, be_get _ n _ (by omega), show Sp.wd n - 1 - (Sp.wd n - 1 - j) = j by omega, shr8]
  simp [UInt8.toNat_ofNat']
theorem head_length (n j : Nat) (h0 : 248 ≤ n) (hj : j ≤ Sp.wd n) : (head n j).length = 1 + Sp.wd n - j := by
  unfold head Sp.num
  rw [if_neg (by omega), List.length_map, List.length_take, List.length_cons, Sp.be_length]
  omega
theorem info_u8 : (Tryd.prog.info? 5).map (fun i => (i.zero, i.size, i.bytes)) = some (some (.int .u8 0), 1, 1) := by kernel_rfl
set_option maxRecDepth 100000 in
set_option maxHeartbeats 400000 in
theorem rNum_small (n : Int) (w : World) (h0 : 0 ≤ n) (h1 : n ≤ 247) :
    Calls Tryd.prog 67 #[.int .u64 n] w fun e w' => e = .returned (.string (Sp.bs (Sp.num n.toNat))) ∧ Below w.heap.size w w' := by
  have hf : Hid (Sp.num n.toNat = [UInt8.ofNat n.toNat]) := Lib.hid (by unfold Sp.num; rw [if_pos (by omega)])
  have hcv := fun W A cap => conv_one (P := Tryd.prog) 109 9 5 Tryd.underlying109 Tryd.underlying5 Tryd.underlying9 n h0 (by omega) W A cap
  go_enter Tryd.func67, Tryd.ntmps67
  go_wp2_with fail
  go_ret
  exact ⟨by rw [hf.out]; rfl, (Below.refl _ _).alloc (Nat.le_refl _) _⟩
set_option maxRecDepth 100000 in
set_option maxHeartbeats 400000 in
theorem rNum_great (n : Nat) (w : World) (h0 : 248 ≤ n) (h1 : Sp.wd n ≤ 8) :
    Calls Tryd.prog 67 #[.int .u64 n] w fun e w' => e = .returned (.string (Sp.bs (Sp.num n))) ∧ Below w.heap.size w w' := by
  have hd : decide ((n : Int) ≤ 247) = false := by simp; omega
  have hk1 := Sp.wd_pos n
  go_enter Tryd.func67, Tryd.ntmps67
  go_wp2_with fail
  go_loopw [3] (fun i wr => ∃ k : Nat, 1 ≤ k ∧ k ≤ Sp.wd n ∧ i = .int .i64 k ∧ wr = w) (fun i _ => 9 - (intOf i).toNat)
  case atStart => exact ⟨1, by omega, by omega, rfl, rfl⟩
  case round =>
    obtain ⟨k, hk0, hk, rfl, rfl⟩ := hrel
    by_cases hlt : k < Sp.wd n
    · have hp : (0 : Int) < (n : Int) / 2 ^ (8 * k) := by rw [shr8]; have := (wd_step n k (by omega) h0).2 hlt; omega
      go_wp2_with fail
      go_roundw
      case rel => exact ⟨k + 1, by omega, by omega, by go_num, trivial⟩
      case measure => simp [intOf]; omega
    · have hk' : k = Sp.wd n := by omega
      have hp : k < 8 → (n : Int) / 2 ^ (8 * k) ≤ 0 := by intro h8; rw [shr8]; have := mt (wd_step n k (by omega) h0).1 hlt; omega
      have HK := Lib.hid hk'
      have H1 := Lib.hid (head_first n h0 h1)
      clear hk'
      by_cases h8 : k < 8
      all_goals
        first | (have hp' := hp h8; clear hp) | clear hp
        go_wp2_with fail
        go_loopw [4, 5] (fun v i w1 => ∃ j : Nat, j ≤ Sp.wd n ∧ i = .int .i64 ((j : Int) - 1) ∧ w1.ownsRow wr.heap.size 5 1 v (1 + Sp.wd n - j) (head n j) ∧ Below wr.heap.size wr w1)
          (fun _ i _ => (intOf i + 1).toNat)
        case atStart =>
          refine ⟨Sp.wd n, Nat.le_refl _, by rw [HK.out], ?_, (Below.refl _ _).alloc (Nat.le_refl _) _⟩
          rw [H1.out, HK.out, show 1 + Sp.wd n - Sp.wd n = 1 by omega]
          exact Mem.own_new _ _ _ [_] rfl
        case round =>
          obtain ⟨j, hj, rfl, hown, hbel⟩ := hrel
          obtain ⟨i0, hi, hz0, hz1, hz2⟩ := info_parts info_u8
          have hsz := hbel.size
          by_cases hj0 : j = 0
          · subst hj0
            have hcv := conv_own (P := Tryd.prog) 109 9 5 Tryd.underlying109 Tryd.underlying5 Tryd.underlying9 (Sp.num n) _ _ _ _ _ (by
              have := hown; unfold head at this; rw [List.take_of_length_le (by unfold Sp.num; rw [if_neg (by omega), List.length_cons, Sp.be_length]; omega)] at this; exact this)
            clear hown
            go_wp2_with fail
            go_ret
            exact ⟨rfl, hbel⟩
          · obtain ⟨m, rfl⟩ : ∃ m, j = m + 1 := ⟨j - 1, by omega⟩
            have H2 := Lib.hid (head_next n m h0 h1 (by omega))
            clear hj0
            go_wp2_with (at_builtin; refine Mem.append_one rfl (.tmp 34) (.tmp 41) 109 rfl _ 5 i0 (.int .u8 0) 1 1 Tryd.underlying109 hi hz0 hz1 hz2 rfl (by decide) _ _ _ _ rfl hown [.int .u8 ((n : Int) / 2 ^ (8 * m) % 256)] rfl (by intro u hu; simp at hu; subst hu; rfl) rfl (by unfold maxLen; omega) (by omega) (by omega) ?_; intro v' w2 hown2 hg2 _)
            go_roundw
            case rel =>
              refine ⟨m, by omega, by go_num, ?_, (hbel.alloc hsz _).grown hg2 (by simp; omega) (fun k hk => Mem.own_base hown k hk)⟩
              rw [H2.out, show 1 + Sp.wd n - m = (1 + Sp.wd n - (m + 1)) + 1 by omega]
              exact hown2
            case measure => simp [intOf]
theorem rNum_any (n : Int) (w : World) (h1 : IsU64 n) :
    Calls Tryd.prog 67 #[.int .u64 n] w fun e w' => e = .returned (.string (Sp.bs (Sp.num n.toNat))) ∧ Below w.heap.size w w' := by
  have h0 := h1.1
  by_cases h : n ≤ 247
  · exact rNum_small n w h0 h
  · obtain ⟨m, rfl⟩ := Int.eq_ofNat_of_zero_le h0
    exact rNum_great m w (by omega) (Sp.wd_le m (by have := h1.2; omega))
set_option maxRecDepth 100000 in
set_option maxHeartbeats 400000 in
theorem rInt_any (n : Int) (w : World) (h : IsI64 n) :
    Calls Tryd.prog 68 #[.int .i64 n] w fun e w' => e = .returned (.string (bs (intB n))) ∧ Below w.heap.size w w' := by
  obtain ⟨h1, h2⟩ := h
  by_cases h0 : 0 ≤ n
  · have hf : Hid (intB n = Sp.num (2 * n).toNat) := Lib.hid (by unfold intB fold; rw [if_pos h0])
    go_enter Tryd.func68, Tryd.ntmps68
    go_wp2_with fail
    refine (rNum_any _ _ ⟨by omega, by omega⟩).mono ?_
    rintro e w' ⟨rfl, hb⟩
    rw [← hf.out]
    go_wp2_with fail
    go_ret
    exact ⟨rfl, hb⟩
  · have hf : Hid (intB n = Sp.num (2 * -(n + 1) + 1).toNat) := Lib.hid (by unfold intB fold; rw [if_neg h0]; congr 2; omega)
    have h0' : n < 0 := by omega
    go_enter Tryd.func68, Tryd.ntmps68
    go_wp2_with fail
    refine (rNum_any _ _ ⟨by omega, by omega⟩).mono ?_
    rintro e w' ⟨rfl, hb⟩
    rw [← hf.out]
    go_wp2_with fail
    go_ret
    exact ⟨rfl, hb⟩
set_option maxRecDepth 100000 in
set_option maxHeartbeats 400000 in
theorem rText_any (s : ByteArray) (w : World) (hs : s.size ≤ 140737488351232) :
    Calls Tryd.prog 70 #[.string s] w fun e w' => e = .returned (.string (textS s)) ∧ Below w.heap.size w w' := by
  go_enter Tryd.func70, Tryd.ntmps70
  go_wp2_with fail
  refine (rNum_any _ _ ⟨by omega, by omega⟩).mono ?_
  rintro e w' ⟨rfl, hb⟩
  rw [Int.toNat_natCast]
  have hz : (bs (Sp.num s.size)).size ≤ 9 := by rw [Sp.bs_size]; exact (Sp.num_length s.size (by omega)).2
  go_wp2_with fail
  go_ret
  exact ⟨rfl, hb⟩
end Go.Proofs.YthaehoefbejadaaDoor
