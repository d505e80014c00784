/- Plain functions that say what the bytes of numbers are: no program, no memory. · What the functions of bits write: by their own bytes. · What bits.Int, Text, Real write. · crc: sums and packs. -/
import Derived.WalkKit
import Derived.Test.YtpdceondgbgpkaaGreatDoorRows
import Derived.Test.YtpdceondgbgpkaaGreatDoorG1
import Derived.WalkSpells
import Derived.WalkLawsBesides
import Derived.Laws.IdiomStrings
import Derived.Lib.Hide
import Derived.Laws.BitsAllLaws
namespace Go.Proofs.YtpdceondgbgpkaaGreatDoor.Sp
/-- The k lowest bytes of n, the highest first. -/
def be : Nat → Nat → List UInt8
  | 0, _ => []
  | k + 1, n => UInt8.ofNat (n / 256 ^ k) :: be k n
/-- How many bytes a number has (at least one). -/
def width : Nat → Nat → Nat
  | 0, _ => 1
  | f + 1, n => if n < 256 then 1 else width f (n / 256) + 1
def wd (n : Nat) : Nat := width 8 n
/-- A number's bytes. -/
def num (n : Nat) : List UInt8 := if n ≤ 247 then [UInt8.ofNat n] else UInt8.ofNat (247 + wd n) :: be (wd n) n
theorem be_length (k n : Nat) : (be k n).length = k := by
  induction k with
  | zero => rfl
  | succ k ih => simp [be, ih]
theorem width_pos : ∀ f n, 1 ≤ width f n
  | 0, _ => Nat.le_refl _
  | f + 1, n => by unfold width; split <;> omega
theorem width_le : ∀ f n, width f n ≤ f + 1
  | 0, _ => Nat.le_refl _
  | f + 1, n => by
    unfold width
    split
    · omega
    · have := width_le f (n / 256); omega
/-- n is below 256^k just where it has at most k bytes. -/
theorem width_lt : ∀ f n k, 1 ≤ k → k ≤ f → (n < 256 ^ k ↔ width f n ≤ k)
  | 0, n, k, h1, h2 => by omega
  | f + 1, n, k, h1, h2 => by
    unfold width
    by_cases h : n < 256
    · rw [if_pos h]
      have : 256 ^ 1 ≤ 256 ^ k := Nat.pow_le_pow_right (by omega) h1
      constructor
      · intro _; exact h1
      · intro _; omega
    · rw [if_neg h]
      obtain ⟨k, rfl⟩ : ∃ m, k = m + 1 := ⟨k - 1, by omega⟩
      by_cases hk : k = 0
      · subst hk
        have := width_pos f (n / 256)
        constructor <;> intro _ <;> omega
      · have ih := width_lt f (n / 256) k (by omega) (by omega)
        have e : n < 256 ^ (k + 1) ↔ n / 256 < 256 ^ k := by
          rw [Nat.pow_succ, Nat.div_lt_iff_lt_mul (by omega)]
        rw [e, ih]
        omega
theorem wd_pos (n : Nat) : 1 ≤ wd n := width_pos 8 n
theorem wd_lt (n k : Nat) (h1 : 1 ≤ k) (h2 : k ≤ 8) : n < 256 ^ k ↔ wd n ≤ k := width_lt 8 n k h1 h2
theorem wd_le (n : Nat) (h : n < 18446744073709551616) : wd n ≤ 8 := (wd_lt n 8 (by omega) (by omega)).1 (by omega)
theorem num_pos (n : Nat) : num n ≠ [] := by unfold num; split <;> simp
theorem num_length (n : Nat) (h : n < 18446744073709551616) : 1 ≤ (num n).length ∧ (num n).length ≤ 9 := by
  have := wd_le n h
  unfold num
  split <;> simp [be_length] <;> omega
/-- A text, by its bytes. -/
def bs (l : List UInt8) : ByteArray := ⟨l.toArray⟩
theorem bs_size (l : List UInt8) : (bs l).size = l.length := by simp [bs, ByteArray.size]
theorem bs_toList (l : List UInt8) : (bs l).data.toList = l := by simp [bs]
theorem bs_append (a b : List UInt8) : bs a ++ bs b = bs (a ++ b) := by
  apply ByteArray.ext
  simp [bs]
theorem bs_of (s : ByteArray) : bs s.data.toList = s := rfl
theorem bs_inj {a b : List UInt8} (h : bs a = bs b) : a = b := by
  have := congrArg (fun s : ByteArray => s.data.toList) h
  simpa [bs] using this
def fold (n : Int) : Int := if 0 ≤ n then 2 * n else -2 * n - 1
/-- A whole number's bytes, a text's. -/
def intB (n : Int) : List UInt8 := num (fold n).toNat
def textS (s : ByteArray) : ByteArray := bs (num s.size) ++ s
end Go.Proofs.YtpdceondgbgpkaaGreatDoor.Sp
namespace Go.Proofs.YtpdceondgbgpkaaGreatDoor
open Go.RowKit
theorem u8_cast {n : Int} (h0 : 0 ≤ n) (h1 : n ≤ 255) : ((UInt8.ofNat n.toNat).toNat : Int) = n := by
  rw [UInt8.toNat_ofNat']; omega
/-- 'string(b)' of one byte. -/
theorem conv_one {P : Program} (src dst e : TypeId) (hs : P.underlying src = some (.slice e)) (he : P.underlying e = some (.int .u8)) (hd : P.underlying dst = some .string)
    (n : Int) (h0 : 0 ≤ n) (h1 : n ≤ 255) (W : World) (A : Addr) (cap : Nat) (hc : W.cell? A = some (.int .u8 n)) :
    Sem.run P (convert src dst (.slice (some A) 1 cap)) W = .ok (.string (Sp.bs [UInt8.ofNat n.toNat])) W := by
  have := run_convert_bytes_back (P := P) W src dst e A cap [UInt8.ofNat n.toNat] hs he hd (fun j hj => by
    obtain rfl : j = 0 := by simpa using hj
    simp only [List.getElem_cons_zero, u8_cast h0 h1]
    simpa [Addr.add] using hc)
  exact this
/-- 'string(b)' of bytes that lie in a block. -/
theorem conv_back {P : Program} (src dst e : TypeId) (hs : P.underlying src = some (.slice e)) (he : P.underlying e = some (.int .u8)) (hd : P.underlying dst = some .string)
    (l : List UInt8) (W : World) (g o len cap : Nat) (hl : len = l.length) (c : Array Value) (t : TypeId) (hb : W.heap[g]? = some (.cells c t (0, 0)))
    (hc : ∀ j (hj : j < l.length), c[o + j]? = some (.int .u8 (l[j].toNat : Int))) :
    Sem.run P (convert src dst (.slice (some ⟨g, o, none⟩) len cap)) W = .ok (.string (Sp.bs l)) W := by
  subst hl
  refine run_convert_bytes_back (P := P) W src dst e ⟨g, o, none⟩ cap l hs he hd (fun j hj => ?_)
  have e1 : (⟨g, o, none⟩ : Addr).add j = ⟨g, o + j, none⟩ := by unfold Addr.add; split <;> simp_all
  rw [e1]
  exact Mem.cell hb (hc j hj)
/-- 'string(b)' of bytes that are the call's own. -/
theorem conv_own {P : Program} (src dst e : TypeId) (hs : P.underlying src = some (.slice e)) (he : P.underlying e = some (.int .u8)) (hd : P.underlying dst = some .string)
    (l : List UInt8) (W : World) (base n t : Nat) (v : Value) (h : W.ownsRow base t 1 v n (l.map fun b => Value.int .u8 (b.toNat : Int))) :
    Sem.run P (convert src dst v) W = .ok (.string (Sp.bs l)) W := by
  obtain ⟨h1, h2⟩ := h
  simp only [List.length_map, Nat.mul_one] at h1
  rcases h2 with ⟨rfl, h0⟩ | ⟨g, cap, cur, rfl, _, hb, _, _, hc, ht⟩
  · obtain rfl : l = [] := List.length_eq_zero_iff.1 (by omega)
    rw [run_convert_bytes_string W src dst e none 0 0 hs he hd]
    rfl
  · refine conv_back src dst e hs he hd l W g 0 n cap h1.symm cur t hb (fun j hj => ?_)
    rw [Nat.zero_add, ← Array.getElem?_toList]
    have := congrArg (fun x => x[j]?) ht
    simp only [Nat.mul_one, List.getElem?_map, List.getElem?_eq_getElem hj, Option.map_some] at this
    rw [List.getElem?_take_of_lt (by omega)] at this
    exact this
/-- 'b[l:]' of an array behind a pointer, its elements of one cell. -/
theorem slice_arr {P : Program} (t e n : Nat) (ht : P.underlying t = some (.array n e)) (hz : ∀ w, (sizeOf e).run P w = .ok 1 w) (g l : Nat) (x : Int) (hx : x = l) (hl : l < n) (W : World) :
    Sem.run P (Instr.sliceAt t (.pointer (some ⟨g, 0, none⟩)) (some (.int .i64 x)) none none) W = .ok (.slice (some ⟨g, l, none⟩) (n - l) (n - l)) W := by
  subst hx
  have e1 : ¬ n = l := by omega
  have e2 : (l : Int) ≤ n := by omega
  simp [Instr.sliceAt, Instr.sureAddr, run_underlying ht, Instr.sliceBounds, run_sliceBound, hz, e1, e2, Result.andThen, Addr.add]
  omega
def IsU64 (n : Int) : Prop := 0 ≤ n ∧ n < 18446744073709551616
set_option maxRecDepth 100000 in
set_option maxHeartbeats 400000 in
theorem Num_small (n : Int) (w : World) (h0 : 0 ≤ n) (h1 : n ≤ 247) :
    Calls Tryz.prog 77 #[.int .u64 n] w fun e w' => e = .returned (.string (Sp.bs (Sp.num n.toNat))) ∧ Below w.heap.size w w' := by
  have hf : Hid (Sp.num n.toNat = [UInt8.ofNat n.toNat]) := Lib.hid (by unfold Sp.num; rw [if_pos (by omega)])
  have hcv := fun W A cap => conv_one (P := Tryz.prog) 150 9 5 Tryz.underlying150 Tryz.underlying5 Tryz.underlying9 n h0 (by omega) W A cap
  go_enter Tryz.func77, Tryz.ntmps77
  go_wp2_with fail
  go_ret
  exact ⟨by rw [hf.out]; rfl, (Below.refl _ _).alloc (Nat.le_refl _) _⟩
/-- The nine cells behind k rounds. -/
def nine (k n : Nat) : Array Value := ((List.replicate (9 - k) (0 : Int) ++ (Sp.be k n).map fun b => (b.toNat : Int)).map (Value.int .u8)).toArray
theorem nine_size (k n : Nat) (h : k ≤ 9) : (nine k n).size = 9 := by simp [nine, Sp.be_length]; omega
theorem nine_at (k n j : Nat) (h : j < 9) (hk : k ≤ 9) : ∃ x : Int, (nine k n)[j]? = some (.int .u8 x) := by
  have hj : j < (nine k n).size := by rw [nine_size k n hk]; exact h
  rw [Array.getElem?_eq_getElem hj]
  simp only [nine, List.getElem_toArray, List.getElem_map]
  exact ⟨_, rfl⟩
theorem nine_succ (k n : Nat) (h : k ≤ 8) : (nine k n).setIfInBounds (8 - k) (.int .u8 (((n / 256 ^ k) % 256 : Nat) : Int)) = nine (k + 1) n := by
  have e : 9 - k = (8 - k) + 1 := by omega
  apply Array.ext'
  rw [Array.toList_setIfInBounds]
  simp only [nine, Sp.be, e, List.replicate_succ', List.map_append, List.map_replicate, List.map_cons, List.map_nil, List.append_assoc]
  rw [List.set_append_right _ _ (by simp)]
  simp [show 9 - (k + 1) = 8 - k by omega, UInt8.toNat_ofNat']
theorem wd_step (n k : Nat) (h : k ≤ 8) (h0 : 248 ≤ n) : 0 < n / 256 ^ k ↔ k < Sp.wd n := by
  by_cases hk : k = 0
  · subst hk; have := Sp.wd_pos n; simp; omega
  · have := Sp.wd_lt n k (by omega) h
    rw [Nat.div_pos_iff]
    have hp : 0 < 256 ^ k := Nat.pow_pos (by omega)
    constructor
    · intro ⟨_, h2⟩; omega
    · intro h2; exact ⟨hp, by omega⟩
theorem div_step (n k : Nat) : n / 256 ^ k / 256 = n / 256 ^ (k + 1) := by rw [Nat.div_div_eq_div_mul, Nat.pow_succ]
theorem nine_last (k n : Nat) (h1 : 1 ≤ k) (hk : k ≤ 8) (j : Nat) (hj : j < (UInt8.ofNat (247 + k) :: Sp.be k n).length) :
    ((nine k n).setIfInBounds (8 - k) (.int .u8 (247 + (k : Int))))[8 - k + j]? = some (.int .u8 (((UInt8.ofNat (247 + k) :: Sp.be k n)[j]).toNat : Int)) := by
  simp only [List.length_cons, Sp.be_length] at hj
  rw [Array.getElem?_setIfInBounds]
  cases j with
  | zero =>
    rw [if_pos (by omega), if_pos (by rw [nine_size k n (by omega)]; omega)]
    simp only [List.getElem_cons_zero, UInt8.toNat_ofNat']
    congr 2
    omega
  | succ j =>
    rw [if_neg (by omega)]
    have e : 8 - k + (j + 1) = (9 - k) + j := by omega
    simp only [nine, List.getElem?_toArray, List.map_append, List.map_map, e]
    rw [List.getElem?_append_right (by simp)]
    simp only [List.length_map, List.length_replicate, Nat.add_sub_cancel_left, List.getElem_cons_succ, List.getElem?_map]
    rw [List.getElem?_eq_getElem (by rw [Sp.be_length]; omega)]
    rfl
set_option maxRecDepth 100000 in
set_option maxHeartbeats 400000 in
theorem Num_great (n : Nat) (w : World) (h0 : 248 ≤ n) (h1 : Sp.wd n ≤ 8) :
    Calls Tryz.prog 77 #[.int .u64 n] w fun e w' => e = .returned (.string (Sp.bs (Sp.num n))) ∧ Below w.heap.size w w' := by
  have hd : decide ((n : Int) ≤ 247) = false := by simp; omega
  go_enter Tryz.func77, Tryz.ntmps77
  go_wp2_with fail
  go_loopw [4, 5] (fun i m wr => ∃ k M : Nat, k ≤ Sp.wd n ∧ i = .int .i64 k ∧ M = n / 256 ^ k ∧ m = .int .u64 (M : Int) ∧ wr.heap[w.heap.size]? = some (.cells (nine k n) 151 (0, 0)) ∧ Below w.heap.size w wr)
    (fun i _ _ => 9 - (intOf i).toNat)
  case atStart => exact ⟨0, n, Nat.zero_le _, rfl, by simp, rfl, Mem.new _ _, (Below.refl _ _).alloc (Nat.le_refl _) _⟩
  case round =>
    obtain ⟨k, M, hk, rfl, hM, rfl, hb, hbel⟩ := hrel
    have hsz := Mem.lt hb
    by_cases hlt : k < Sp.wd n
    · have hp : (0 : Int) < (M : Int) := by have := (wd_step n k (by omega) h0).2 hlt; omega
      have hs := nine_succ k n (by omega)
      rw [← hM] at hs
      have HM := Lib.hid hM; clear hM
      have HS := Lib.hid hs; clear hs
      obtain ⟨x, hx⟩ := nine_at k n (8 - k) (by omega) (by omega)
      have hc := Mem.cell hb hx
      have hf := Mem.free (j := 8 - k) hb
      have HX := Lib.hid hx; clear hx
      have HB := Lib.hid hb; clear hb
      go_wp2_with fail
      go_roundw
      case rel => exact ⟨k + 1, M / 256, by omega, by go_num, by rw [HM.out, div_step], by go_num, by rw [Mem.set HB.out]; simp [← HS.out], hbel.setCell (Nat.le_refl _) _⟩
      case measure => simp [intOf]; omega
    · have hp : M = 0 := by have := mt (wd_step n k (by omega) h0).1 hlt; omega
      have hk' : k = Sp.wd n := by omega
      have hk1 := Sp.wd_pos n
      have HK := Lib.hid hk'; clear hk'
      subst hp
      clear hM
      obtain ⟨x, hx⟩ := nine_at k n (8 - k) (by omega) (by omega)
      have hc := Mem.cell hb hx
      have hf := Mem.free (j := 8 - k) hb
      have HX := Lib.hid hx; clear hx
      have HB := Lib.hid hb; clear hb
      have hsl := fun W => slice_arr (P := Tryz.prog) 151 5 9 Tryz.underlying151 (fun w => by kernel_rfl) w.heap.size (8 - k) (8 - (k : Int)) (by omega) (by omega) W
      have hcv := fun cap => conv_back (P := Tryz.prog) 150 9 5 Tryz.underlying150 Tryz.underlying5 Tryz.underlying9 (Sp.num n)
        (wr.setCell ⟨w.heap.size, 8 - k, none⟩ (.int .u8 (247 + (k : Int)))) w.heap.size (8 - k) (9 - (8 - k)) cap (by unfold Sp.num; rw [if_neg (by omega), List.length_cons, Sp.be_length]; omega) _ _ (Mem.set HB.out)
        (fun j hj => by have := nine_last k n (by omega) (by omega) j; rw [HK.out] at this ⊢; unfold Sp.num at hj ⊢; simp only [if_neg (show ¬ n ≤ 247 by omega)] at hj ⊢; exact this hj)
      go_wp2_with fail
      go_ret
      exact ⟨rfl, hbel.setCell (Nat.le_refl _) _⟩
theorem Num_any (n : Int) (w : World) (h1 : IsU64 n) :
    Calls Tryz.prog 77 #[.int .u64 n] w fun e w' => e = .returned (.string (Sp.bs (Sp.num n.toNat))) ∧ Below w.heap.size w w' := by
  have h0 := h1.1
  by_cases h : n ≤ 247
  · exact Num_small n w h0 h
  · obtain ⟨m, rfl⟩ := Int.eq_ofNat_of_zero_le h0
    exact Num_great m w (by omega) (Sp.wd_le m (by have := h1.2; omega))
end Go.Proofs.YtpdceondgbgpkaaGreatDoor
namespace Go.Proofs.YtpdceondgbgpkaaGreatDoor
open Go.RowKit
open Sp (fold intB textS bs)
theorem xor_ones (a : Nat) (h : a < 18446744073709551616) : a ^^^ 18446744073709551615 = 18446744073709551615 - a := by
  have h1 : (BitVec.ofNat 64 a).toNat = a := by rw [BitVec.toNat_ofNat]; exact Nat.mod_eq_of_lt h
  have h2 : (BitVec.allOnes 64).toNat = 18446744073709551615 := by rw [BitVec.toNat_allOnes]
  have h3 := congrArg BitVec.toNat (BitVec.xor_allOnes (x := BitVec.ofNat 64 a))
  rw [BitVec.toNat_xor, BitVec.toNat_not, h1, h2] at h3
  exact h3
theorem fold_neg (n : Int) (h0 : n < 0) (h1 : -9223372036854775808 ≤ n) :
    bits .xor .u64 (IntKind.u64.wrap (IntKind.u64.wrap n * 2)) (IntKind.u64.wrap (n / 9223372036854775808)) = -2 * n - 1 := by
  have e1 : n / 9223372036854775808 = -1 := by omega
  have e2 : IntKind.u64.wrap n = 18446744073709551616 + n := by
    show n % 18446744073709551616 = _
    omega
  have e3 : IntKind.u64.wrap ((18446744073709551616 + n) * 2) = 18446744073709551616 + 2 * n := by
    show ((18446744073709551616 + n) * 2) % 18446744073709551616 = _
    omega
  have e4 : IntKind.u64.wrap (-1) = 18446744073709551615 := rfl
  rw [e1, e2, e3, e4]
  obtain ⟨m, hm⟩ := Int.eq_ofNat_of_zero_le (show 0 ≤ 18446744073709551616 + 2 * n by omega)
  rw [hm, show (18446744073709551615 : Int) = ((18446744073709551615 : Nat) : Int) from rfl, u64_xor_nat m _ (by omega) (by decide), xor_ones m (by omega)]
  omega
theorem fold_pos (n : Int) (h0 : 0 ≤ n) (h1 : n ≤ 9223372036854775807) : bits .xor .u64 (n * 2) (n / 9223372036854775808) = 2 * n := by
  have e1 : n / 9223372036854775808 = 0 := by omega
  obtain ⟨m, rfl⟩ := Int.eq_ofNat_of_zero_le h0
  rw [e1, show (m : Int) * 2 = ((m * 2 : Nat) : Int) by omega, show (0 : Int) = ((0 : Nat) : Int) from rfl, u64_xor_nat (m * 2) 0 (by omega) (by decide), Nat.xor_zero]
  omega
def IsI64 (n : Int) : Prop := -9223372036854775808 ≤ n ∧ n ≤ 9223372036854775807
theorem fold_u64 {n : Int} (h : IsI64 n) : IsU64 (fold n) := by unfold fold IsU64; unfold IsI64 at h; split <;> omega
set_option maxRecDepth 100000 in
set_option maxHeartbeats 400000 in
theorem folded_any (n : Int) (w : World) (h : IsI64 n) :
    Calls Tryz.prog 93 #[.int .i64 n] w fun e w' => e = .returned (.int .u64 (fold n)) ∧ w = w' := by
  obtain ⟨h1, h2⟩ := h
  by_cases h0 : 0 ≤ n
  · have hf : Hid (fold n = bits .xor .u64 (n * 2) (n / 9223372036854775808)) := Lib.hid (by rw [fold_pos n h0 h2, fold, if_pos h0])
    go_enter Tryz.func93, Tryz.ntmps93
    go_wp2_with fail
    go_ret
    exact ⟨by rw [hf.out]; rfl, rfl⟩
  · have hf : Hid (fold n = bits .xor .u64 (IntKind.u64.wrap (IntKind.u64.wrap n * 2)) (IntKind.u64.wrap (n / 9223372036854775808))) := Lib.hid (by rw [fold_neg n (by omega) h1, fold, if_neg h0])
    have h0' : n < 0 := by omega
    go_enter Tryz.func93, Tryz.ntmps93
    go_wp2_with fail
    go_ret
    exact ⟨by rw [hf.out]; rfl, rfl⟩
set_option maxRecDepth 100000 in
set_option maxHeartbeats 400000 in
theorem Int_any (n : Int) (w : World) (h : IsI64 n) :
    Calls Tryz.prog 78 #[.int .i64 n] w fun e w' => e = .returned (.string (bs (intB n))) ∧ Below w.heap.size w w' := by
  go_enter Tryz.func78, Tryz.ntmps78
  go_wp2_with fail
  refine (folded_any n _ h).mono ?_
  rintro e w' ⟨rfl, rfl⟩
  go_wp2_with fail
  refine (Num_any (fold n) _ (fold_u64 h)).mono ?_
  rintro e w' ⟨rfl, hb⟩
  go_wp2_with fail
  go_ret
  exact ⟨rfl, hb⟩
end Go.Proofs.YtpdceondgbgpkaaGreatDoor
namespace Go.Proofs.YtpdceondgbgpkaaGreatDoor
open Go.RowKit
set_option linter.unusedSimpArgs false
set_option linter.unusedVariables false
open Sp (bs)
namespace Crc
def step (c : Nat) : Nat := if c % 2 = 1 then c / 2 ^^^ 2197175160 else c / 2
def its : Nat → Nat → Nat
  | 0, c => c
  | n + 1, c => step (its n c)
def moreN (c b : Nat) : Nat := its 8 (c ^^^ b)
def run (l : List UInt8) : Nat := l.foldl (fun c b => moreN c b.toNat) 4294967295
def sumN (l : List UInt8) : Nat := 4294967295 - run l
theorem step_lt {c : Nat} (h : c < 4294967296) : step c < 4294967296 := by
  unfold step
  split
  · exact Nat.xor_lt_two_pow (n := 32) (by omega) (by decide)
  · omega
theorem its_lt {c : Nat} (h : c < 4294967296) : ∀ n, its n c < 4294967296
  | 0 => h
  | n + 1 => step_lt (its_lt h n)
theorem moreN_lt {c b : Nat} (h : c < 4294967296) (hb : b < 256) : moreN c b < 4294967296 := its_lt (Nat.xor_lt_two_pow (n := 32) h (by omega)) 8
theorem run_lt : ∀ (l : List UInt8), run l < 4294967296 := by
  intro l
  have : ∀ (l : List UInt8) (c : Nat), c < 4294967296 → l.foldl (fun c b => moreN c b.toNat) c < 4294967296 := by
    intro l
    induction l with
    | nil => intro c h; exact h
    | cons b l ih => intro c h; exact ih _ (moreN_lt h b.toNat_lt)
  exact this l _ (by decide)
theorem run_snoc (l : List UInt8) (b : UInt8) : run (l ++ [b]) = moreN (run l) b.toNat := by simp [run]
theorem meas {n k : Nat} (h : k < n) : n - (intOf (.int .i64 ((k : Int) + 1))).toNat < n - (intOf (.int .i64 (k : Int))).toNat := by
  show n - ((k : Int) + 1).toNat < n - ((k : Int)).toNat; omega
end Crc
set_option maxRecDepth 100000 in
set_option maxHeartbeats 2000000 in
theorem more_any (c b : Nat) (w : World) (hc : c < 4294967296) (hb : b < 256) : Calls Tryz.prog 89 #[.int .u32 c, .int .u8 b] w fun r w' => r = .returned (.int .u32 (Crc.moreN c b : Nat)) ∧ w' = w := by
  have hx : bits .xor .u32 (c : Int) (b : Int) = ((c ^^^ b : Nat) : Int) := u32_xor_nat c b hc (by omega)
  have hwb : IntKind.u32.wrap (b : Int) = (b : Int) := by show (b : Int) % 4294967296 = _; omega
  have h0 : c ^^^ b < 4294967296 := Nat.xor_lt_two_pow (n := 32) hc (by omega)
  unfold Crc.moreN
  generalize c ^^^ b = d at hx h0 ⊢
  go_enter Tryz.func89, Tryz.ntmps89
  go_wp2_with fail
  go_loopw [0, 9] (fun v i wr => ∃ j : Nat, j ≤ 8 ∧ v = .int .u32 (Crc.its j d : Nat) ∧ i = .int .i64 (j : Int) ∧ wr = w) (fun _ i _ => 8 - (intOf i).toNat)
  case atStart => exact ⟨0, by omega, by first | rfl | rw [hx]; rfl, rfl, rfl⟩
  case round =>
    obtain ⟨j, hj, rfl, rfl, rfl⟩ := hrel
    have hlt := Crc.its_lt h0 j
    by_cases h8 : j < 8
    · have h8' : (j : Int) < 8 := by omega
      have hs : Crc.its (j + 1) d = Crc.step (Crc.its j d) := rfl
      generalize Crc.its j d = e at hlt hs ⊢
      have HS := Lib.hid hs
      clear hs
      by_cases ho : e % 2 = 1
      · have ha : bits .and .u32 (e : Int) 1 = 1 := by
          rw [show (1 : Int) = ((1 : Nat) : Int) from rfl, u32_and_nat e 1 hlt (by decide), Nat.and_one_is_mod, ho]
        have hy : bits .xor .u32 ((e : Int) / 2) 2197175160 = ((e / 2 ^^^ 2197175160 : Nat) : Int) := by
          rw [show (e : Int) / 2 = ((e / 2 : Nat) : Int) by omega, show (2197175160 : Int) = ((2197175160 : Nat) : Int) from rfl]
          exact u32_xor_nat (e / 2) 2197175160 (by omega) (by decide)
        have HO := Lib.hid ho
        clear ho
        go_wp2_with fail
        go_roundw
        case rel => exact ⟨j + 1, h8, by rw [HS.out, Crc.step, if_pos HO.out], rfl, trivial⟩
        case measure => exact Crc.meas h8
      · have ho0 : e % 2 = 0 := by omega
        have ha : bits .and .u32 (e : Int) 1 = 0 := by
          rw [show (1 : Int) = ((1 : Nat) : Int) from rfl, u32_and_nat e 1 hlt (by decide), Nat.and_one_is_mod, ho0]
          rfl
        have HO := Lib.hid ho
        clear ho ho0
        go_wp2_with fail
        go_roundw
        case rel => exact ⟨j + 1, h8, by rw [HS.out, Crc.step, if_neg HO.out]; first | rfl | go_num, rfl, trivial⟩
        case measure => exact Crc.meas h8
    · have h8' : (8 : Int) ≤ (j : Int) := by omega
      have hj8 : j = 8 := by omega
      subst hj8
      go_wp2_with fail
      go_ret
      exact ⟨rfl, rfl⟩
set_option maxRecDepth 100000 in
set_option maxHeartbeats 2000000 in
theorem sum_any (s : ByteArray) (w : World) (hs : s.size ≤ 140737488351232) : Calls Tryz.prog 67 #[.string s] w fun r w' => r = .returned (.int .u32 (Crc.sumN s.data.toList : Nat)) ∧ w' = w := by
  go_enter Tryz.func67, Tryz.ntmps67
  go_wp2_with fail
  go_loopw [3, 7] (fun v i wr => ∃ j : Nat, j ≤ s.size ∧ v = .int .u32 (Crc.run (s.data.toList.take j) : Nat) ∧ i = .int .i64 (j : Int) ∧ wr = w) (fun _ i _ => s.size - (intOf i).toNat)
  case atStart => exact ⟨0, by omega, rfl, rfl, rfl⟩
  case round =>
    obtain ⟨j, hj, rfl, rfl, rfl⟩ := hrel
    have hlt := Crc.run_lt (s.data.toList.take j)
    by_cases h8 : j < s.size
    · have h8' : (j : Int) < (s.size : Int) := by omega
      have hb : (s[j]).toNat < 256 := UInt8.toNat_lt _
      have hs' : Crc.run (s.data.toList.take (j + 1)) = Crc.moreN (Crc.run (s.data.toList.take j)) (s[j]).toNat := by
        have hj' : j < s.data.size := h8
        rw [List.take_add_one, Array.getElem?_toList, Array.getElem?_eq_getElem hj', Option.toList, Crc.run_snoc]
        rfl
      have HS := Lib.hid hs'
      clear hs'
      generalize Crc.run (s.data.toList.take j) = c at hlt HS ⊢
      have hm := fun W => more_any c (s[j]).toNat W hlt hb
      go_wp2_with (go_at_call 89; refine (hm _).mono ?_; rintro _ _ ⟨rfl, rfl⟩)
      go_roundw
      case rel => exact ⟨j + 1, h8, by rw [HS.out], rfl, by first | trivial | rfl⟩
      case measure => exact Crc.meas h8
    · have h8' : (s.size : Int) ≤ (j : Int) := by omega
      have hj8 : j = s.size := by omega
      have e : s.data.toList.take j = s.data.toList := List.take_of_length_le (by rw [Array.length_toList]; exact Nat.le_of_eq hj8.symm)
      rw [e] at hlt ⊢
      clear e hj8
      generalize hcc : Crc.run s.data.toList = c at hlt ⊢
      have HC := Lib.hid hcc
      have hn : bits .xor .u32 4294967295 (c : Int) = ((4294967295 - c : Nat) : Int) := by
        rw [show (4294967295 : Int) = ((4294967295 : Nat) : Int) from rfl, u32_xor_nat 4294967295 c (by decide) hlt, Nat.xor_comm]
        have h1 : (BitVec.ofNat 32 c).toNat = c := by rw [BitVec.toNat_ofNat]; exact Nat.mod_eq_of_lt hlt
        have h2 : (BitVec.allOnes 32).toNat = 4294967295 := by rw [BitVec.toNat_allOnes]
        have h3 := congrArg BitVec.toNat (BitVec.xor_allOnes (x := BitVec.ofNat 32 c))
        rw [BitVec.toNat_xor, h1, h2, BitVec.toNat_not, h1] at h3
        rw [h3]
      clear hcc
      go_wp2_with fail
      go_ret
      unfold Crc.sumN
      rw [HC.out]
      exact ⟨congrArg (fun x => Ending.returned (.int .u32 x)) (show bits .xor .u32 IntKind.u32.max (c : Int) = _ from hn), rfl⟩
namespace Crc
def head3 (n : Nat) : List UInt8 := [UInt8.ofNat (n / 65536), UInt8.ofNat (n / 256), UInt8.ofNat n]
def tail4 (c : Nat) : List UInt8 := [UInt8.ofNat c, UInt8.ofNat (c / 256), UInt8.ofNat (c / 65536), UInt8.ofNat (c / 16777216)]
/-- A body's pack. -/
def body (s : ByteArray) : ByteArray := bs (head3 s.size) ++ s
def packB (s : ByteArray) : ByteArray := body s ++ bs (tail4 (sumN (body s).data.toList))
theorem body_size (s : ByteArray) : (body s).size = s.size + 3 := by unfold body; rw [ByteArray.size_append, Sp.bs_size]; show 3 + s.size = _; omega
theorem packB_size (s : ByteArray) : (packB s).size = s.size + 7 := by unfold packB; rw [ByteArray.size_append, body_size, Sp.bs_size]; rfl
theorem sumN_lt (l : List UInt8) : sumN l < 4294967296 := by unfold sumN; omega
end Crc
theorem conv_head (n : Nat) (hn : n ≤ 1048576) (w : World) : Sem.run Tryz.prog (convert 150 9 (.slice (some ⟨w.heap.size, 0, none⟩) 3 3)) (w.alloc (.cells #[.int .u8 ((n : Int) / 65536), .int .u8 ((n : Int) / 256 % 256), .int .u8 ((n : Int) % 256)] 5)) = .ok (.string (bs (Crc.head3 n))) (w.alloc (.cells #[.int .u8 ((n : Int) / 65536), .int .u8 ((n : Int) / 256 % 256), .int .u8 ((n : Int) % 256)] 5)) := by
  refine conv_back (P := Tryz.prog) 150 9 5 Tryz.underlying150 Tryz.underlying5 Tryz.underlying9 (Crc.head3 n) _ w.heap.size 0 3 3 rfl _ 5 (Mem.new w _) (fun j hj => ?_)
  have hj3 : j < 3 := hj
  have e0 : ((UInt8.ofNat (n / 65536)).toNat : Int) = (n : Int) / 65536 := by rw [UInt8.toNat_ofNat']; omega
  have e1 : ((UInt8.ofNat (n / 256)).toNat : Int) = (n : Int) / 256 % 256 := by rw [UInt8.toNat_ofNat']; omega
  have e2 : ((UInt8.ofNat n).toNat : Int) = (n : Int) % 256 := by rw [UInt8.toNat_ofNat']; omega
  rcases (by omega : j = 0 ∨ j = 1 ∨ j = 2) with rfl | rfl | rfl
  · exact congrArg (fun x => some (Value.int .u8 x)) e0.symm
  · exact congrArg (fun x => some (Value.int .u8 x)) e1.symm
  · exact congrArg (fun x => some (Value.int .u8 x)) e2.symm
theorem conv_tail (n g : Nat) (hn : n < 4294967296) (w : World) (hg : w.heap.size = g) : Sem.run Tryz.prog (convert 150 9 (.slice (some ⟨g, 0, none⟩) 4 4)) (w.alloc (.cells #[.int .u8 ((n : Int) % 256), .int .u8 ((n : Int) / 256 % 256), .int .u8 ((n : Int) / 65536 % 256), .int .u8 ((n : Int) / 16777216)] 5)) = .ok (.string (bs (Crc.tail4 n))) (w.alloc (.cells #[.int .u8 ((n : Int) % 256), .int .u8 ((n : Int) / 256 % 256), .int .u8 ((n : Int) / 65536 % 256), .int .u8 ((n : Int) / 16777216)] 5)) := by
  subst hg
  refine conv_back (P := Tryz.prog) 150 9 5 Tryz.underlying150 Tryz.underlying5 Tryz.underlying9 (Crc.tail4 n) _ w.heap.size 0 4 4 rfl _ 5 (Mem.new w _) (fun j hj => ?_)
  have hj3 : j < 4 := hj
  have e0 : ((UInt8.ofNat n).toNat : Int) = (n : Int) % 256 := by rw [UInt8.toNat_ofNat']; omega
  have e1 : ((UInt8.ofNat (n / 256)).toNat : Int) = (n : Int) / 256 % 256 := by rw [UInt8.toNat_ofNat']; omega
  have e2 : ((UInt8.ofNat (n / 65536)).toNat : Int) = (n : Int) / 65536 % 256 := by rw [UInt8.toNat_ofNat']; omega
  have e3 : ((UInt8.ofNat (n / 16777216)).toNat : Int) = (n : Int) / 16777216 := by rw [UInt8.toNat_ofNat']; omega
  rcases (by omega : j = 0 ∨ j = 1 ∨ j = 2 ∨ j = 3) with rfl | rfl | rfl | rfl
  · exact congrArg (fun x => some (Value.int .u8 x)) e0.symm
  · exact congrArg (fun x => some (Value.int .u8 x)) e1.symm
  · exact congrArg (fun x => some (Value.int .u8 x)) e2.symm
  · exact congrArg (fun x => some (Value.int .u8 x)) e3.symm
set_option maxRecDepth 100000 in
set_option maxHeartbeats 4000000 in
theorem pack_any (s : ByteArray) (w : World) (hs : s.size ≤ 1048576) : Calls Tryz.prog 79 #[.string s] w fun r w' => r = .returned (.tuple #[.string (Crc.packB s), .int .i64 0]) ∧ Below w.heap.size w w' := by
  have hs1 : (s.size : Int) ≤ 1048576 := by omega
  have hcv := conv_head s.size hs w
  have hz : (bs (Crc.head3 s.size)).size ≤ 3 := by rw [Sp.bs_size]; exact Nat.le_refl _
  have hsum := fun W => sum_any (Crc.body s) W (by rw [Crc.body_size]; omega)
  have hbz : (Crc.body s).size ≤ 1048579 := by rw [Crc.body_size]; omega
  have hbb : Crc.body s = bs (Crc.head3 s.size) ++ s := rfl
  have hcl := Crc.sumN_lt (Crc.body s).data.toList
  unfold Crc.packB
  generalize Crc.sumN (Crc.body s).data.toList = c at hsum hcl ⊢
  have hcv2 := conv_tail c (w.heap.size + 1) hcl (w.alloc (.cells #[.int .u8 ((s.size : Int) / 65536), .int .u8 ((s.size : Int) / 256 % 256), .int .u8 ((s.size : Int) % 256)] 5)) (by simp)
  have hz2 : (bs (Crc.tail4 c)).size ≤ 4 := by rw [Sp.bs_size]; exact Nat.le_refl _
  rw [hbb] at hsum hbz ⊢
  clear hbb
  go_enter Tryz.func79, Tryz.ntmps79
  go_wp2_with (go_at_call 67; refine (hsum _).mono ?_; rintro _ _ ⟨rfl, rfl⟩)
  go_ret2
  exact ⟨rfl, ((Below.refl _ w).alloc (Nat.le_refl _) _).alloc (by simp) _⟩
end Go.Proofs.YtpdceondgbgpkaaGreatDoor
