/- Real numbers' bytes. -/
import Derived.Test.YtbiicflcjipeeaaBits2
namespace Go.Proofs.Ytbiicflcjipeeaa
open Go.RowKit
open Sp (fold intB textS bs)
theorem f64bits (f : Nat) (w : World) : Sem.run Try.prog (callFunc 74 #[.float .f64 f]) w = .ok (.value (.int .u64 f)) w := by kernel_rfl
/-- Is it no number? -/
def isNaN (f : Nat) : Bool := FloatKind.f64.format.order f f != some Ordering.eq
def fbits (f : Nat) : Nat := if isNaN f then 9221120237041090561 else f
def realB (f : Nat) : List UInt8 := Sp.be 8 (fbits f)
set_option maxRecDepth 100000 in
set_option maxHeartbeats 400000 in
theorem rBits_any (f : Nat) (w : World) :
    Calls Try.prog 79 #[.float .f64 f] w fun e w' => e = .returned (.int .u64 (fbits f : Nat)) ∧ w = w' := by
  have hfb := f64bits
  have hx : Hid (fbits f = if isNaN f then 9221120237041090561 else f) := Lib.hid rfl
  cases h : isNaN f
  all_goals
    have h' := h
    unfold isNaN at h'
    rw [h] at hx
    clear h
    go_enter Try.func79, Try.ntmps79
    go_wp2_with fail
    go_ret
    exact ⟨by rw [hx.out]; rfl, rfl⟩
/-- The eight cells behind k rounds. -/
def eight (k n : Nat) : Array Value := (((Sp.be 8 n).take k).map (fun b => Value.int .u8 (b.toNat : Int)) ++ List.replicate (8 - k) (Value.int .u8 0)).toArray
theorem eight_size (k n : Nat) (h : k ≤ 8) : (eight k n).size = 8 := by simp [eight, Sp.be_length]; omega
theorem eight_at (k n : Nat) (h : k < 8) : (eight k n)[k]? = some (.int .u8 0) := by
  have hl : (List.take k (Sp.be 8 n)).length = k := by rw [List.length_take, Sp.be_length]; omega
  simp only [eight, List.getElem?_toArray]
  rw [List.getElem?_append_right (by rw [List.length_map, hl]; exact Nat.le_refl _), List.length_map, hl, Nat.sub_self, show 8 - k = (7 - k) + 1 by omega]
  rfl
theorem be_get : ∀ m n k, k < m → (Sp.be m n)[k]? = some (UInt8.ofNat (n / 256 ^ (m - 1 - k)))
  | m + 1, n, 0, _ => by simp [Sp.be]
  | m + 1, n, k + 1, h => by
    rw [Sp.be, List.getElem?_cons_succ, be_get m n k (by omega)]
    congr 4
    omega
theorem eight_succ (k n : Nat) (h : k < 8) : (eight k n).setIfInBounds k (.int .u8 (((n / 256 ^ (7 - k)) % 256 : Nat) : Int)) = eight (k + 1) n := by
  have hb := be_get 8 n k h
  have hl : (List.take k (Sp.be 8 n)).length = k := by simp [Sp.be_length]; omega
  apply Array.ext'
  rw [Array.toList_setIfInBounds]
  simp only [eight]
  rw [List.take_add_one, hb, show 8 - k = (8 - (k + 1)) + 1 by omega, List.replicate_succ, List.set_append_right _ _ (by rw [List.length_map, hl]; exact Nat.le_refl _), List.length_map, hl, Nat.sub_self]
  simp [UInt8.toNat_ofNat']
theorem shr_eq (f k : Nat) (h : k < 8) : (f : Int) / 2 ^ (56 - 8 * k) % 256 = ((f / 256 ^ (7 - k) % 256 : Nat) : Int) := by
  rw [show 56 - 8 * k = 8 * (7 - k) by omega, Int.pow_mul, Int.natCast_emod, Int.natCast_ediv, Int.natCast_pow]
  rfl
theorem eight_all (n j : Nat) (hj : j < (Sp.be 8 n).length) : (eight 8 n)[0 + j]? = some (.int .u8 (((Sp.be 8 n)[j]).toNat : Int)) := by
  rw [Sp.be_length] at hj
  simp only [eight, List.getElem?_toArray, Nat.sub_self, List.replicate_zero, List.append_nil, Nat.zero_add, List.getElem?_map]
  rw [List.take_of_length_le (by rw [Sp.be_length]; exact Nat.le_refl _), List.getElem?_eq_getElem (by rw [Sp.be_length]; exact hj)]
  rfl
set_option maxRecDepth 100000 in
set_option maxHeartbeats 400000 in
theorem Real_any (f : Nat) (w : World) :
    Calls Try.prog 93 #[.float .f64 f] w fun e w' => e = .returned (.string (bs (realB f))) ∧ Below w.heap.size w w' := by
  have hfb := f64bits
  have hx : Hid (fbits f = if isNaN f then 9221120237041090561 else f) := Lib.hid rfl
  cases h : isNaN f
  all_goals
    have h' := h
    unfold isNaN at h'
    rw [h] at hx
    clear h
    go_enter Try.func93, Try.ntmps93
    go_wp2_with fail
    go_loopw [11] (fun i wr => ∃ k : Nat, k ≤ 8 ∧ i = .int .i64 k ∧ wr.heap[w.heap.size]? = some (.cells (eight k (fbits f)) 172 (0, 0)) ∧ Below w.heap.size w wr)
      (fun i _ => 8 - (intOf i).toNat)
    case atStart => exact ⟨0, Nat.zero_le _, rfl, Mem.new _ _, (Below.refl _ _).alloc (Nat.le_refl _) _⟩
    case round =>
      obtain ⟨k, hk, rfl, hb, hbel⟩ := hrel
      have hsz := Mem.lt hb
      by_cases hlt : k < 8
      · have hc := Mem.cell hb (eight_at k (fbits f) hlt)
        have hf := Mem.free (j := k) hb
        have HB := Lib.hid hb; clear hb
        go_wp2_with fail
        go_roundw
        case rel =>
          refine ⟨k + 1, by omega, by go_num, ?_, hbel.setCell (Nat.le_refl _) _⟩
          rw [Mem.set HB.out, ← eight_succ k _ hlt, ← shr_eq _ _ hlt, hx.out]
          rfl
        case measure => simp [intOf]; omega
      · obtain rfl : k = 8 := by omega
        have hcv := fun cap => conv_back (P := Try.prog) 124 9 5 Try.underlying124 Try.underlying5 Try.underlying9 (realB f)
          wr w.heap.size 0 8 cap (by unfold realB; rw [Sp.be_length]) _ _ hb (eight_all (fbits f))
        clear hb
        go_wp2_with fail
        go_ret
        exact ⟨rfl, hbel⟩
end Go.Proofs.Ytbiicflcjipeeaa
