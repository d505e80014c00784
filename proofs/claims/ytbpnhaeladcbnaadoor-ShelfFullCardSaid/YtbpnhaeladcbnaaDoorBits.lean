/- What the functions of bits write: by their own bytes. -/
import Derived.Test.YtbpnhaeladcbnaaDoorRows
import Derived.Test.YtbpnhaeladcbnaaDoorSp
import Derived.Test.YtbpnhaeladcbnaaDoorMem
import Derived.WalkKit
import Derived.WalkSpells
import Derived.WalkLawsBesides
import Derived.Laws.IdiomStrings
import Derived.Lib.Hide
namespace Go.Proofs.YtbpnhaeladcbnaaDoor
open Go.RowKit
theorem u8_cast {n : Int} (h0 : 0 ≤ n) (h1 : n ≤ 255) : ((UInt8.ofNat n.toNat).toNat : Int) = n := by
  rw [UInt8.toNat_ofNat']; omega
/-- 'string(b)' of one byte. -/
theorem conv_one {P : Program} (src dst e : TypeId) (hs : P.underlying src = some (.slice e)) (he : P.underlying e = some (.int .u8)) (hd : P.underlying dst = some .string)
    (n : Int) (h0 : 0 ≤ n) (h1 : n ≤ 255) (W : World) (A : Addr) (cap : Nat) (hc : W.cell? A = some (.int .u8 n)) :
    Sem.run P (convert src dst (.slice (some A) 1 cap)) W = .ok (.string (Sp.bs [UInt8.ofNat n.toNat])) W := by
  have := run_convert_bytes_back (P := P) W src dst e A cap [UInt8.ofNat n.toNat] hs he hd (fun j hj => by
    obtain rfl : j = 0 := by simpa using hj
    simp only [List.getElem_cons_zero, u8_cast h0 h1]
    simpa [Addr.add] using hc)
  exact this
/-- 'string(b)' of bytes that lie in a block. -/
theorem conv_back {P : Program} (src dst e : TypeId) (hs : P.underlying src = some (.slice e)) (he : P.underlying e = some (.int .u8)) (hd : P.underlying dst = some .string)
    (l : List UInt8) (W : World) (g o len cap : Nat) (hl : len = l.length) (c : Array Value) (t : TypeId) (hb : W.heap[g]? = some (.cells c t (0, 0)))
    (hc : ∀ j (hj : j < l.length), c[o + j]? = some (.int .u8 (l[j].toNat : Int))) :
    Sem.run P (convert src dst (.slice (some ⟨g, o, none⟩) len cap)) W = .ok (.string (Sp.bs l)) W := by
  subst hl
  refine run_convert_bytes_back (P := P) W src dst e ⟨g, o, none⟩ cap l hs he hd (fun j hj => ?_)
  have e1 : (⟨g, o, none⟩ : Addr).add j = ⟨g, o + j, none⟩ := by unfold Addr.add; split <;> simp_all
  rw [e1]
  exact Mem.cell hb (hc j hj)
/-- 'string(b)' of bytes that are the call's own. -/
theorem conv_own {P : Program} (src dst e : TypeId) (hs : P.underlying src = some (.slice e)) (he : P.underlying e = some (.int .u8)) (hd : P.underlying dst = some .string)
    (l : List UInt8) (W : World) (base n t : Nat) (v : Value) (h : W.ownsRow base t 1 v n (l.map fun b => Value.int .u8 (b.toNat : Int))) :
    Sem.run P (convert src dst v) W = .ok (.string (Sp.bs l)) W := by
  obtain ⟨h1, h2⟩ := h
  simp only [List.length_map, Nat.mul_one] at h1
  rcases h2 with ⟨rfl, h0⟩ | ⟨g, cap, cur, rfl, _, hb, _, _, hc, ht⟩
  · obtain rfl : l = [] := List.length_eq_zero_iff.1 (by omega)
    rw [run_convert_bytes_string W src dst e none 0 0 hs he hd]
    rfl
  · refine conv_back src dst e hs he hd l W g 0 n cap h1.symm cur t hb (fun j hj => ?_)
    rw [Nat.zero_add, ← Array.getElem?_toList]
    have := congrArg (fun x => x[j]?) ht
    simp only [Nat.mul_one, List.getElem?_map, List.getElem?_eq_getElem hj, Option.map_some] at this
    rw [List.getElem?_take_of_lt (by omega)] at this
    exact this
/-- 'b[l:]' of an array behind a pointer, its elements of one cell. -/
theorem slice_arr {P : Program} (t e n : Nat) (ht : P.underlying t = some (.array n e)) (hz : ∀ w, (sizeOf e).run P w = .ok 1 w) (g l : Nat) (x : Int) (hx : x = l) (hl : l < n) (W : World) :
    Sem.run P (Instr.sliceAt t (.pointer (some ⟨g, 0, none⟩)) (some (.int .i64 x)) none none) W = .ok (.slice (some ⟨g, l, none⟩) (n - l) (n - l)) W := by
  subst hx
  have e1 : ¬ n = l := by omega
  have e2 : (l : Int) ≤ n := by omega
  simp [Instr.sliceAt, Instr.sureAddr, run_underlying ht, Instr.sliceBounds, run_sliceBound, hz, e1, e2, Result.andThen, Addr.add]
  omega
def IsU64 (n : Int) : Prop := 0 ≤ n ∧ n < 18446744073709551616
set_option maxRecDepth 100000 in
set_option maxHeartbeats 400000 in
theorem Num_small (n : Int) (w : World) (h0 : 0 ≤ n) (h1 : n ≤ 247) :
    Calls Tryd.prog 45 #[.int .u64 n] w fun e w' => e = .returned (.string (Sp.bs (Sp.num n.toNat))) ∧ Below w.heap.size w w' := by
  have hf : Hid (Sp.num n.toNat = [UInt8.ofNat n.toNat]) := Lib.hid (by unfold Sp.num; rw [if_pos (by omega)])
  have hcv := fun W A cap => conv_one (P := Tryd.prog) 110 9 5 Tryd.underlying110 Tryd.underlying5 Tryd.underlying9 n h0 (by omega) W A cap
  go_enter Tryd.func45, Tryd.ntmps45
  go_wp2_with fail
  go_ret
  exact ⟨by rw [hf.out]; rfl, (Below.refl _ _).alloc (Nat.le_refl _) _⟩
/-- The nine cells behind k rounds. -/
def nine (k n : Nat) : Array Value := ((List.replicate (9 - k) (0 : Int) ++ (Sp.be k n).map fun b => (b.toNat : Int)).map (Value.int .u8)).toArray
theorem nine_size (k n : Nat) (h : k ≤ 9) : (nine k n).size = 9 := by simp [nine, Sp.be_length]; omega
theorem nine_at (k n j : Nat) (h : j < 9) (hk : k ≤ 9) : ∃ x : Int, (nine k n)[j]? = some (.int .u8 x) := by
  have hj : j < (nine k n).size := by rw [nine_size k n hk]; exact h
  rw [Array.getElem?_eq_getElem hj]
  simp only [nine, List.getElem_toArray, List.getElem_map]
  exact ⟨_, rfl⟩
theorem nine_succ (k n : Nat) (h : k ≤ 8) : (nine k n).setIfInBounds (8 - k) (.int .u8 (((n / 256 ^ k) % 256 : Nat) : Int)) = nine (k + 1) n := by
  have e : 9 - k = (8 - k) + 1 := by omega
  apply Array.ext'
  rw [Array.toList_setIfInBounds]
  simp only [nine, Sp.be, e, List.replicate_succ', List.map_append, List.map_replicate, List.map_cons, List.map_nil, List.append_assoc]
  rw [List.set_append_right _ _ (by simp)]
  simp [show 9 - (k + 1) = 8 - k by omega, UInt8.toNat_ofNat']
theorem wd_step (n k : Nat) (h : k ≤ 8) (h0 : 248 ≤ n) : 0 < n / 256 ^ k ↔ k < Sp.wd n := by
  by_cases hk : k = 0
  · subst hk; have := Sp.wd_pos n; simp; omega
  · have := Sp.wd_lt n k (by omega) h
    rw [Nat.div_pos_iff]
    have hp : 0 < 256 ^ k := Nat.pow_pos (by omega)
    constructor
    · intro ⟨_, h2⟩; omega
    · intro h2; exact ⟨hp, by omega⟩
theorem div_step (n k : Nat) : n / 256 ^ k / 256 = n / 256 ^ (k + 1) := by rw [Nat.div_div_eq_div_mul, Nat.pow_succ]
theorem nine_last (k n : Nat) (h1 : 1 ≤ k) (hk : k ≤ 8) (j : Nat) (hj : j < (UInt8.ofNat (247 + k) :: Sp.be k n).length) :
    ((nine k n).setIfInBounds (8 - k) (.int .u8 (247 + (k : Int))))[8 - k + j]? = some (.int .u8 (((UInt8.ofNat (247 + k) :: Sp.be k n)[j]).toNat : Int)) := by
  simp only [List.length_cons, Sp.be_length] at hj
  rw [Array.getElem?_setIfInBounds]
  cases j with
  | zero =>
    rw [if_pos (by omega), if_pos (by rw [nine_size k n (by omega)]; omega)]
    simp only [List.getElem_cons_zero, UInt8.toNat_ofNat']
    congr 2
    omega
  | succ j =>
    rw [if_neg (by omega)]
    have e : 8 - k + (j + 1) = (9 - k) + j := by omega
    simp only [nine, List.getElem?_toArray, List.map_append, List.map_map, e]
    rw [List.getElem?_append_right (by simp)]
    simp only [List.length_map, List.length_replicate, Nat.add_sub_cancel_left, List.getElem_cons_succ, List.getElem?_map]
    rw [List.getElem?_eq_getElem (by rw [Sp.be_length]; omega)]
    rfl
set_option maxRecDepth 100000 in
set_option maxHeartbeats 400000 in
theorem Num_great (n : Nat) (w : World) (h0 : 248 ≤ n) (h1 : Sp.wd n ≤ 8) :
    Calls Tryd.prog 45 #[.int .u64 n] w fun e w' => e = .returned (.string (Sp.bs (Sp.num n))) ∧ Below w.heap.size w w' := by
  have hd : decide ((n : Int) ≤ 247) = false := by simp; omega
  go_enter Tryd.func45, Tryd.ntmps45
  go_wp2_with fail
  go_loopw [4, 5] (fun i m wr => ∃ k M : Nat, k ≤ Sp.wd n ∧ i = .int .i64 k ∧ M = n / 256 ^ k ∧ m = .int .u64 (M : Int) ∧ wr.heap[w.heap.size]? = some (.cells (nine k n) 111 (0, 0)) ∧ Below w.heap.size w wr)
    (fun i _ _ => 9 - (intOf i).toNat)
  case atStart => exact ⟨0, n, Nat.zero_le _, rfl, by simp, rfl, Mem.new _ _, (Below.refl _ _).alloc (Nat.le_refl _) _⟩
  case round =>
    obtain ⟨k, M, hk, rfl, hM, rfl, hb, hbel⟩ := hrel
    have hsz := Mem.lt hb
    by_cases hlt : k < Sp.wd n
    · have hp : (0 : Int) < (M : Int) := by have := (wd_step n k (by omega) h0).2 hlt; omega
      have hs := nine_succ k n (by omega)
      rw [← hM] at hs
      have HM := Lib.hid hM; clear hM
      have HS := Lib.hid hs; clear hs
      obtain ⟨x, hx⟩ := nine_at k n (8 - k) (by omega) (by omega)
      have hc := Mem.cell hb hx
      have hf := Mem.free (j := 8 - k) hb
      have HX := Lib.hid hx; clear hx
      have HB := Lib.hid hb; clear hb
      go_wp2_with fail
      go_roundw
      case rel => exact ⟨k + 1, M / 256, by omega, by go_num, by rw [HM.out, div_step], by go_num, by rw [Mem.set HB.out]; simp [← HS.out], hbel.setCell (Nat.le_refl _) _⟩
      case measure => simp [intOf]; omega
    · have hp : M = 0 := by have := mt (wd_step n k (by omega) h0).1 hlt; omega
      have hk' : k = Sp.wd n := by omega
      have hk1 := Sp.wd_pos n
      have HK := Lib.hid hk'; clear hk'
      subst hp
      clear hM
      obtain ⟨x, hx⟩ := nine_at k n (8 - k) (by omega) (by omega)
      have hc := Mem.cell hb hx
      have hf := Mem.free (j := 8 - k) hb
      have HX := Lib.hid hx; clear hx
      have HB := Lib.hid hb; clear hb
      have hsl := fun W => slice_arr (P := Tryd.prog) 111 5 9 Tryd.underlying111 (fun w => by kernel_rfl) w.heap.size (8 - k) (8 - (k : Int)) (by omega) (by omega) W
      have hcv := fun cap => conv_back (P := Tryd.prog) 110 9 5 Tryd.underlying110 Tryd.underlying5 Tryd.underlying9 (Sp.num n)
        (wr.setCell ⟨w.heap.size, 8 - k, none⟩ (.int .u8 (247 + (k : Int)))) w.heap.size (8 - k) (9 - (8 - k)) cap (by unfold Sp.num; rw [if_neg (by omega), List.length_cons, Sp.be_length]; omega) _ _ (Mem.set HB.out)
        (fun j hj => by have := nine_last k n (by omega) (by omega) j; rw [HK.out] at this ⊢; unfold Sp.num at hj ⊢; simp only [if_neg (show ¬ n ≤ 247 by omega)] at hj ⊢; exact this hj)
      go_wp2_with fail
      go_ret
      exact ⟨rfl, hbel.setCell (Nat.le_refl _) _⟩
theorem Num_any (n : Int) (w : World) (h1 : IsU64 n) :
    Calls Tryd.prog 45 #[.int .u64 n] w fun e w' => e = .returned (.string (Sp.bs (Sp.num n.toNat))) ∧ Below w.heap.size w w' := by
  have h0 := h1.1
  by_cases h : n ≤ 247
  · exact Num_small n w h0 h
  · obtain ⟨m, rfl⟩ := Int.eq_ofNat_of_zero_le h0
    exact Num_great m w (by omega) (Sp.wd_le m (by have := h1.2; omega))
end Go.Proofs.YtbpnhaeladcbnaaDoor
