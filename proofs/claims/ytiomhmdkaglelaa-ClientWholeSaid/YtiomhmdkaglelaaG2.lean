/- What the functions of bits write: by their own bytes. · What bits.Int, Text, Real write. · A byte of a number. · Real numbers' bytes. -/
import Derived.Test.YtiomhmdkaglelaaRows
import Derived.Test.YtiomhmdkaglelaaG1
import Derived.WalkKit
import Derived.WalkSpells
import Derived.WalkLawsBesides
import Derived.Laws.IdiomStrings
import Derived.Lib.Hide
import Derived.Laws.BitsAllLaws
namespace Go.Proofs.Ytiomhmdkaglelaa
open Go.RowKit
theorem u8_cast {n : Int} (h0 : 0 ≤ n) (h1 : n ≤ 255) : ((UInt8.ofNat n.toNat).toNat : Int) = n := by
  rw [UInt8.toNat_ofNat']; omega
/-- 'string(b)' of one byte. -/
theorem conv_one {P : Program} (src dst e : TypeId) (hs : P.underlying src = some (.slice e)) (he : P.underlying e = some (.int .u8)) (hd : P.underlying dst = some .string)
    (n : Int) (h0 : 0 ≤ n) (h1 : n ≤ 255) (W : World) (A : Addr) (cap : Nat) (hc : W.cell? A = some (.int .u8 n)) :
    Sem.run P (convert src dst (.slice (some A) 1 cap)) W = .ok (.string (Sp.bs [UInt8.ofNat n.toNat])) W := by
  have := run_convert_bytes_back (P := P) W src dst e A cap [UInt8.ofNat n.toNat] hs he hd (fun j hj => by
    obtain rfl : j = 0 := by simpa using hj
    simp only [List.getElem_cons_zero, u8_cast h0 h1]
    simpa [Addr.add] using hc)
  exact this
/-- 'string(b)' of bytes that lie in a block. -/
theorem conv_back {P : Program} (src dst e : TypeId) (hs : P.underlying src = some (.slice e)) (he : P.underlying e = some (.int .u8)) (hd : P.underlying dst = some .string)
    (l : List UInt8) (W : World) (g o len cap : Nat) (hl : len = l.length) (c : Array Value) (t : TypeId) (hb : W.heap[g]? = some (.cells c t (0, 0)))
    (hc : ∀ j (hj : j < l.length), c[o + j]? = some (.int .u8 (l[j].toNat : Int))) :
    Sem.run P (convert src dst (.slice (some ⟨g, o, none⟩) len cap)) W = .ok (.string (Sp.bs l)) W := by
  subst hl
  refine run_convert_bytes_back (P := P) W src dst e ⟨g, o, none⟩ cap l hs he hd (fun j hj => ?_)
  have e1 : (⟨g, o, none⟩ : Addr).add j = ⟨g, o + j, none⟩ := by unfold Addr.add; split <;> simp_all
  rw [e1]
  exact Mem.cell hb (hc j hj)
/-- 'string(b)' of bytes that are the call's own. -/
theorem conv_own {P : Program} (src dst e : TypeId) (hs : P.underlying src = some (.slice e)) (he : P.underlying e = some (.int .u8)) (hd : P.underlying dst = some .string)
    (l : List UInt8) (W : World) (base n t : Nat) (v : Value) (h : W.ownsRow base t 1 v n (l.map fun b => Value.int .u8 (b.toNat : Int))) :
    Sem.run P (convert src dst v) W = .ok (.string (Sp.bs l)) W := by
  obtain ⟨h1, h2⟩ := h
  simp only [List.length_map, Nat.mul_one] at h1
  rcases h2 with ⟨rfl, h0⟩ | ⟨g, cap, cur, rfl, _, hb, _, _, hc, ht⟩
  · obtain rfl : l = [] := List.length_eq_zero_iff.1 (by omega)
    rw [run_convert_bytes_string W src dst e none 0 0 hs he hd]
    rfl
  · refine conv_back src dst e hs he hd l W g 0 n cap h1.symm cur t hb (fun j hj => ?_)
    rw [Nat.zero_add, ← Array.getElem?_toList]
    have := congrArg (fun x => x[j]?) ht
    simp only [Nat.mul_one, List.getElem?_map, List.getElem?_eq_getElem hj, Option.map_some] at this
    rw [List.getElem?_take_of_lt (by omega)] at this
    exact this
/-- 'b[l:]' of an array behind a pointer, its elements of one cell. -/
theorem slice_arr {P : Program} (t e n : Nat) (ht : P.underlying t = some (.array n e)) (hz : ∀ w, (sizeOf e).run P w = .ok 1 w) (g l : Nat) (x : Int) (hx : x = l) (hl : l < n) (W : World) :
    Sem.run P (Instr.sliceAt t (.pointer (some ⟨g, 0, none⟩)) (some (.int .i64 x)) none none) W = .ok (.slice (some ⟨g, l, none⟩) (n - l) (n - l)) W := by
  subst hx
  have e1 : ¬ n = l := by omega
  have e2 : (l : Int) ≤ n := by omega
  simp [Instr.sliceAt, Instr.sureAddr, run_underlying ht, Instr.sliceBounds, run_sliceBound, hz, e1, e2, Result.andThen, Addr.add]
  omega
def IsU64 (n : Int) : Prop := 0 ≤ n ∧ n < 18446744073709551616
set_option maxRecDepth 100000 in
set_option maxHeartbeats 400000 in
theorem Num_small (n : Int) (w : World) (h0 : 0 ≤ n) (h1 : n ≤ 247) :
    Calls Try.prog 27 #[.int .u64 n] w fun e w' => e = .returned (.string (Sp.bs (Sp.num n.toNat))) ∧ Below w.heap.size w w' := by
  have hf : Hid (Sp.num n.toNat = [UInt8.ofNat n.toNat]) := Lib.hid (by unfold Sp.num; rw [if_pos (by omega)])
  have hcv := fun W A cap => conv_one (P := Try.prog) 74 9 5 Try.underlying74 Try.underlying5 Try.underlying9 n h0 (by omega) W A cap
  go_enter Try.func27, Try.ntmps27
  go_wp2_with fail
  go_ret
  exact ⟨by rw [hf.out]; rfl, (Below.refl _ _).alloc (Nat.le_refl _) _⟩
/-- The nine cells behind k rounds. -/
def nine (k n : Nat) : Array Value := ((List.replicate (9 - k) (0 : Int) ++ (Sp.be k n).map fun b => (b.toNat : Int)).map (Value.int .u8)).toArray
theorem nine_size (k n : Nat) (h : k ≤ 9) : (nine k n).size = 9 := by simp [nine, Sp.be_length]; omega
theorem nine_at (k n j : Nat) (h : j < 9) (hk : k ≤ 9) : ∃ x : Int, (nine k n)[j]? = some (.int .u8 x) := by
  have hj : j < (nine k n).size := by rw [nine_size k n hk]; exact h
  rw [Array.getElem?_eq_getElem hj]
  simp only [nine, List.getElem_toArray, List.getElem_map]
  exact ⟨_, rfl⟩
theorem nine_succ (k n : Nat) (h : k ≤ 8) : (nine k n).setIfInBounds (8 - k) (.int .u8 (((n / 256 ^ k) % 256 : Nat) : Int)) = nine (k + 1) n := by
  have e : 9 - k = (8 - k) + 1 := by omega
  apply Array.ext'
  rw [Array.toList_setIfInBounds]
  simp only [nine, Sp.be, e, List.replicate_succ', List.map_append, List.map_replicate, List.map_cons, List.map_nil, List.append_assoc]
  rw [List.set_append_right _ _ (by simp)]
  simp [show 9 - (k + 1) = 8 - k by omega, UInt8.toNat_ofNat']
theorem wd_step (n k : Nat) (h : k ≤ 8) (h0 : 248 ≤ n) : 0 < n / 256 ^ k ↔ k < Sp.wd n := by
  by_cases hk : k = 0
  · subst hk; have := Sp.wd_pos n; simp; omega
  · have := Sp.wd_lt n k (by omega) h
    rw [Nat.div_pos_iff]
    have hp : 0 < 256 ^ k := Nat.pow_pos (by omega)
    constructor
    · intro ⟨_, h2⟩; omega
    · intro h2; exact ⟨hp, by omega⟩
theorem div_step (n k : Nat) : n / 256 ^ k / 256 = n / 256 ^ (k + 1) := by rw [Nat.div_div_eq_div_mul, Nat.pow_succ]
theorem nine_last (k n : Nat) (h1 : 1 ≤ k) (hk : k ≤ 8) (j : Nat) (hj : j < (UInt8.ofNat (247 + k) :: Sp.be k n).length) :
    ((nine k n).setIfInBounds (8 - k) (.int .u8 (247 + (k : Int))))[8 - k + j]? = some (.int .u8 (((UInt8.ofNat (247 + k) :: Sp.be k n)[j]).toNat : Int)) := by
  simp only [List.length_cons, Sp.be_length] at hj
  rw [Array.getElem?_setIfInBounds]
  cases j with
  | zero =>
    rw [if_pos (by omega), if_pos (by rw [nine_size k n (by omega)]; omega)]
    simp only [List.getElem_cons_zero, UInt8.toNat_ofNat']
    congr 2
    omega
  | succ j =>
    rw [if_neg (by omega)]
    have e : 8 - k + (j + 1) = (9 - k) + j := by omega
    simp only [nine, List.getElem?_toArray, List.map_append, List.map_map, e]
    rw [List.getElem?_append_right (by simp)]
    simp only [List.length_map, List.length_replicate, Nat.add_sub_cancel_left, List.getElem_cons_succ, List.getElem?_map]
    rw [List.getElem?_eq_getElem (by rw [Sp.be_length]; omega)]
    rfl
set_option maxRecDepth 100000 in
set_option maxHeartbeats 400000 in
theorem Num_great (n : Nat) (w : World) (h0 : 248 ≤ n) (h1 : Sp.wd n ≤ 8) :
    Calls Try.prog 27 #[.int .u64 n] w fun e w' => e = .returned (.string (Sp.bs (Sp.num n))) ∧ Below w.heap.size w w' := by
  have hd : decide ((n : Int) ≤ 247) = false := by simp; omega
  go_enter Try.func27, Try.ntmps27
  go_wp2_with fail
  go_loopw [4, 5] (fun i m wr => ∃ k M : Nat, k ≤ Sp.wd n ∧ i = .int .i64 k ∧ M = n / 256 ^ k ∧ m = .int .u64 (M : Int) ∧ wr.heap[w.heap.size]? = some (.cells (nine k n) 101 (0, 0)) ∧ Below w.heap.size w wr)
    (fun i _ _ => 9 - (intOf i).toNat)
  case atStart => exact ⟨0, n, Nat.zero_le _, rfl, by simp, rfl, Mem.new _ _, (Below.refl _ _).alloc (Nat.le_refl _) _⟩
  case round =>
    obtain ⟨k, M, hk, rfl, hM, rfl, hb, hbel⟩ := hrel
    have hsz := Mem.lt hb
    by_cases hlt : k < Sp.wd n
    · have hp : (0 : Int) < (M : Int) := by have := (wd_step n k (by omega) h0).2 hlt; omega
      have hs := nine_succ k n (by omega)
      rw [← hM] at hs
      have HM := Lib.hid hM; clear hM
      have HS := Lib.hid hs; clear hs
      obtain ⟨x, hx⟩ := nine_at k n (8 - k) (by omega) (by omega)
      have hc := Mem.cell hb hx
      have hf := Mem.free (j := 8 - k) hb
      have HX := Lib.hid hx; clear hx
      have HB := Lib.hid hb; clear hb
      go_wp2_with fail
      go_roundw
      case rel => exact ⟨k + 1, M / 256, by omega, by go_num, by rw [HM.out, div_step], by go_num, by rw [Mem.set HB.out]; simp [← HS.out], hbel.setCell (Nat.le_refl _) _⟩
      case measure => simp [intOf]; omega
    · have hp : M = 0 := by have := mt (wd_step n k (by omega) h0).1 hlt; omega
      have hk' : k = Sp.wd n := by omega
      have hk1 := Sp.wd_pos n
      have HK := Lib.hid hk'; clear hk'
      subst hp
      clear hM
      obtain ⟨x, hx⟩ := nine_at k n (8 - k) (by omega) (by omega)
      have hc := Mem.cell hb hx
      have hf := Mem.free (j := 8 - k) hb
      have HX := Lib.hid hx; clear hx
      have HB := Lib.hid hb; clear hb
      have hsl := fun W => slice_arr (P := Try.prog) 101 5 9 Try.underlying101 (fun w => by kernel_rfl) w.heap.size (8 - k) (8 - (k : Int)) (by omega) (by omega) W
      have hcv := fun cap => conv_back (P := Try.prog) 74 9 5 Try.underlying74 Try.underlying5 Try.underlying9 (Sp.num n)
        (wr.setCell ⟨w.heap.size, 8 - k, none⟩ (.int .u8 (247 + (k : Int)))) w.heap.size (8 - k) (9 - (8 - k)) cap (by unfold Sp.num; rw [if_neg (by omega), List.length_cons, Sp.be_length]; omega) _ _ (Mem.set HB.out)
        (fun j hj => by have := nine_last k n (by omega) (by omega) j; rw [HK.out] at this ⊢; unfold Sp.num at hj ⊢; simp only [if_neg (show ¬ n ≤ 247 by omega)] at hj ⊢; exact this hj)
      go_wp2_with fail
      go_ret
      exact ⟨rfl, hbel.setCell (Nat.le_refl _) _⟩
theorem Num_any (n : Int) (w : World) (h1 : IsU64 n) :
    Calls Try.prog 27 #[.int .u64 n] w fun e w' => e = .returned (.string (Sp.bs (Sp.num n.toNat))) ∧ Below w.heap.size w w' := by
  have h0 := h1.1
  by_cases h : n ≤ 247
  · exact Num_small n w h0 h
  · obtain ⟨m, rfl⟩ := Int.eq_ofNat_of_zero_le h0
    exact Num_great m w (by omega) (Sp.wd_le m (by have := h1.2; omega))
end Go.Proofs.Ytiomhmdkaglelaa
namespace Go.Proofs.Ytiomhmdkaglelaa
open Go.RowKit
open Sp (fold intB textS bs)
theorem xor_ones (a : Nat) (h : a < 18446744073709551616) : a ^^^ 18446744073709551615 = 18446744073709551615 - a := by
  have h1 : (BitVec.ofNat 64 a).toNat = a := by rw [BitVec.toNat_ofNat]; exact Nat.mod_eq_of_lt h
  have h2 : (BitVec.allOnes 64).toNat = 18446744073709551615 := by rw [BitVec.toNat_allOnes]
  have h3 := congrArg BitVec.toNat (BitVec.xor_allOnes (x := BitVec.ofNat 64 a))
  rw [BitVec.toNat_xor, BitVec.toNat_not, h1, h2] at h3
  exact h3
theorem fold_neg (n : Int) (h0 : n < 0) (h1 : -9223372036854775808 ≤ n) :
    bits .xor .u64 (IntKind.u64.wrap (IntKind.u64.wrap n * 2)) (IntKind.u64.wrap (n / 9223372036854775808)) = -2 * n - 1 := by
  have e1 : n / 9223372036854775808 = -1 := by omega
  have e2 : IntKind.u64.wrap n = 18446744073709551616 + n := by
    show n % 18446744073709551616 = _
    omega
  have e3 : IntKind.u64.wrap ((18446744073709551616 + n) * 2) = 18446744073709551616 + 2 * n := by
    show ((18446744073709551616 + n) * 2) % 18446744073709551616 = _
    omega
  have e4 : IntKind.u64.wrap (-1) = 18446744073709551615 := rfl
  rw [e1, e2, e3, e4]
  obtain ⟨m, hm⟩ := Int.eq_ofNat_of_zero_le (show 0 ≤ 18446744073709551616 + 2 * n by omega)
  rw [hm, show (18446744073709551615 : Int) = ((18446744073709551615 : Nat) : Int) from rfl, u64_xor_nat m _ (by omega) (by decide), xor_ones m (by omega)]
  omega
theorem fold_pos (n : Int) (h0 : 0 ≤ n) (h1 : n ≤ 9223372036854775807) : bits .xor .u64 (n * 2) (n / 9223372036854775808) = 2 * n := by
  have e1 : n / 9223372036854775808 = 0 := by omega
  obtain ⟨m, rfl⟩ := Int.eq_ofNat_of_zero_le h0
  rw [e1, show (m : Int) * 2 = ((m * 2 : Nat) : Int) by omega, show (0 : Int) = ((0 : Nat) : Int) from rfl, u64_xor_nat (m * 2) 0 (by omega) (by decide), Nat.xor_zero]
  omega
def IsI64 (n : Int) : Prop := -9223372036854775808 ≤ n ∧ n ≤ 9223372036854775807
theorem fold_u64 {n : Int} (h : IsI64 n) : IsU64 (fold n) := by unfold fold IsU64; unfold IsI64 at h; split <;> omega
set_option maxRecDepth 100000 in
set_option maxHeartbeats 400000 in
theorem folded_any (n : Int) (w : World) (h : IsI64 n) :
    Calls Try.prog 61 #[.int .i64 n] w fun e w' => e = .returned (.int .u64 (fold n)) ∧ w = w' := by
  obtain ⟨h1, h2⟩ := h
  by_cases h0 : 0 ≤ n
  · have hf : Hid (fold n = bits .xor .u64 (n * 2) (n / 9223372036854775808)) := Lib.hid (by rw [fold_pos n h0 h2, fold, if_pos h0])
    go_enter Try.func61, Try.ntmps61
    go_wp2_with fail
    go_ret
    exact ⟨by rw [hf.out]; rfl, rfl⟩
  · have hf : Hid (fold n = bits .xor .u64 (IntKind.u64.wrap (IntKind.u64.wrap n * 2)) (IntKind.u64.wrap (n / 9223372036854775808))) := Lib.hid (by rw [fold_neg n (by omega) h1, fold, if_neg h0])
    have h0' : n < 0 := by omega
    go_enter Try.func61, Try.ntmps61
    go_wp2_with fail
    go_ret
    exact ⟨by rw [hf.out]; rfl, rfl⟩
set_option maxRecDepth 100000 in
set_option maxHeartbeats 400000 in
theorem Int_any (n : Int) (w : World) (h : IsI64 n) :
    Calls Try.prog 59 #[.int .i64 n] w fun e w' => e = .returned (.string (bs (intB n))) ∧ Below w.heap.size w w' := by
  go_enter Try.func59, Try.ntmps59
  go_wp2_with fail
  refine (folded_any n _ h).mono ?_
  rintro e w' ⟨rfl, rfl⟩
  go_wp2_with fail
  refine (Num_any (fold n) _ (fold_u64 h)).mono ?_
  rintro e w' ⟨rfl, hb⟩
  go_wp2_with fail
  go_ret
  exact ⟨rfl, hb⟩
set_option maxRecDepth 100000 in
set_option maxHeartbeats 400000 in
theorem Text_any (s : ByteArray) (w : World) (hs : s.size ≤ 140737488351232) :
    Calls Try.prog 57 #[.string s] w fun e w' => e = .returned (.string (textS s)) ∧ Below w.heap.size w w' := by
  go_enter Try.func57, Try.ntmps57
  go_wp2_with fail
  refine (Num_any _ _ ⟨by omega, by omega⟩).mono ?_
  rintro e w' ⟨rfl, hb⟩
  rw [Int.toNat_natCast]
  have hz : (bs (Sp.num s.size)).size ≤ 9 := by rw [Sp.bs_size]; exact (Sp.num_length s.size (by omega)).2
  go_wp2_with fail
  go_ret
  exact ⟨rfl, hb⟩
end Go.Proofs.Ytiomhmdkaglelaa
namespace Go.Proofs.Ytiomhmdkaglelaa
theorem be_get : ∀ m n k, k < m → (Sp.be m n)[k]? = some (UInt8.ofNat (n / 256 ^ (m - 1 - k)))
  | m + 1, n, 0, _ => by simp [Sp.be]
  | m + 1, n, k + 1, h => by
    rw [Sp.be, List.getElem?_cons_succ, be_get m n k (by omega)]
    congr 4
    omega
end Go.Proofs.Ytiomhmdkaglelaa
namespace Go.Proofs.Ytiomhmdkaglelaa
open Go.RowKit
open Sp (fold intB textS bs)
theorem f64bits (f : Nat) (w : World) : Sem.run Try.prog (callFunc 54 #[.float .f64 f]) w = .ok (.value (.int .u64 f)) w := by kernel_rfl
/-- Is it no number? -/
def isNaN (f : Nat) : Bool := FloatKind.f64.format.order f f != some Ordering.eq
def fbits (f : Nat) : Nat := if isNaN f then 9221120237041090561 else f
def realB (f : Nat) : List UInt8 := Sp.be 8 (fbits f)
/-- The eight cells behind k rounds. -/
def eight (k n : Nat) : Array Value := (((Sp.be 8 n).take k).map (fun b => Value.int .u8 (b.toNat : Int)) ++ List.replicate (8 - k) (Value.int .u8 0)).toArray
theorem eight_size (k n : Nat) (h : k ≤ 8) : (eight k n).size = 8 := by simp [eight, Sp.be_length]; omega
theorem eight_at (k n : Nat) (h : k < 8) : (eight k n)[k]? = some (.int .u8 0) := by
  have hl : (List.take k (Sp.be 8 n)).length = k := by rw [List.length_take, Sp.be_length]; omega
  simp only [eight, List.getElem?_toArray]
  rw [List.getElem?_append_right (by rw [List.length_map, hl]; exact Nat.le_refl _), List.length_map, hl, Nat.sub_self, show 8 - k = (7 - k) + 1 by omega]
  rfl
theorem eight_succ (k n : Nat) (h : k < 8) : (eight k n).setIfInBounds k (.int .u8 (((n / 256 ^ (7 - k)) % 256 : Nat) : Int)) = eight (k + 1) n := by
  have hb := be_get 8 n k h
  have hl : (List.take k (Sp.be 8 n)).length = k := by simp [Sp.be_length]; omega
  apply Array.ext'
  rw [Array.toList_setIfInBounds]
  simp only [eight]
  rw [List.take_add_one, hb, show 8 - k = (8 - (k + 1)) + 1 by omega, List.replicate_succ, List.set_append_right _ _ (by rw [List.length_map, hl]; exact Nat.le_refl _), List.length_map, hl, Nat.sub_self]
  simp [UInt8.toNat_ofNat']
theorem shr_eq (f k : Nat) (h : k < 8) : (f : Int) / 2 ^ (56 - 8 * k) % 256 = ((f / 256 ^ (7 - k) % 256 : Nat) : Int) := by
  rw [show 56 - 8 * k = 8 * (7 - k) by omega, Int.pow_mul, Int.natCast_emod, Int.natCast_ediv, Int.natCast_pow]
  rfl
theorem eight_all (n j : Nat) (hj : j < (Sp.be 8 n).length) : (eight 8 n)[0 + j]? = some (.int .u8 (((Sp.be 8 n)[j]).toNat : Int)) := by
  rw [Sp.be_length] at hj
  simp only [eight, List.getElem?_toArray, Nat.sub_self, List.replicate_zero, List.append_nil, Nat.zero_add, List.getElem?_map]
  rw [List.take_of_length_le (by rw [Sp.be_length]; exact Nat.le_refl _), List.getElem?_eq_getElem (by rw [Sp.be_length]; exact hj)]
  rfl
set_option maxRecDepth 100000 in
set_option maxHeartbeats 400000 in
theorem Real_any (f : Nat) (w : World) :
    Calls Try.prog 60 #[.float .f64 f] w fun e w' => e = .returned (.string (bs (realB f))) ∧ Below w.heap.size w w' := by
  have hfb := f64bits
  have hx : Hid (fbits f = if isNaN f then 9221120237041090561 else f) := Lib.hid rfl
  cases h : isNaN f
  all_goals
    have h' := h
    unfold isNaN at h'
    rw [h] at hx
    clear h
    go_enter Try.func60, Try.ntmps60
    go_wp2_with fail
    go_loopw [11] (fun i wr => ∃ k : Nat, k ≤ 8 ∧ i = .int .i64 k ∧ wr.heap[w.heap.size]? = some (.cells (eight k (fbits f)) 129 (0, 0)) ∧ Below w.heap.size w wr)
      (fun i _ => 8 - (intOf i).toNat)
    case atStart => exact ⟨0, Nat.zero_le _, rfl, Mem.new _ _, (Below.refl _ _).alloc (Nat.le_refl _) _⟩
    case round =>
      obtain ⟨k, hk, rfl, hb, hbel⟩ := hrel
      have hsz := Mem.lt hb
      by_cases hlt : k < 8
      · have hc := Mem.cell hb (eight_at k (fbits f) hlt)
        have hf := Mem.free (j := k) hb
        have HB := Lib.hid hb; clear hb
        go_wp2_with fail
        go_roundw
        case rel =>
          refine ⟨k + 1, by omega, by go_num, ?_, hbel.setCell (Nat.le_refl _) _⟩
          rw [Mem.set HB.out, ← eight_succ k _ hlt, ← shr_eq _ _ hlt, hx.out]
          rfl
        case measure => simp [intOf]; omega
      · obtain rfl : k = 8 := by omega
        have hcv := fun cap => conv_back (P := Try.prog) 74 9 5 Try.underlying74 Try.underlying5 Try.underlying9 (realB f)
          wr w.heap.size 0 8 cap (by unfold realB; rw [Sp.be_length]) _ _ hb (eight_all (fbits f))
        clear hb
        go_wp2_with fail
        go_ret
        exact ⟨rfl, hbel⟩
end Go.Proofs.Ytiomhmdkaglelaa
