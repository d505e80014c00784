/- The document's own bytes of numbers: the same bytes. · The document's own bytes of a real number: the same bytes. · Which words may be: event's and the document's. · Which values and events may be: event's and the document's. -/
import Derived.Test.YtiomhmdkaglelaaG2
import Derived.Deep.QuietTactic
import Derived.BigQuiet
namespace Go.Proofs.Ytiomhmdkaglelaa
open Go.RowKit
open Sp (fold intB textS bs)
theorem shr8 (n k : Nat) : (n : Int) / 2 ^ (8 * k) = ((n / 256 ^ k : Nat) : Int) := by
  rw [Int.pow_mul, Int.natCast_ediv, Int.natCast_pow]
  rfl
/-- The bytes that are there when j of them are left. -/
def head (n j : Nat) : List Value := ((Sp.num n).take (1 + Sp.wd n - j)).map fun b => Value.int .u8 (b.toNat : Int)
theorem head_first (n : Nat) (h0 : 248 ≤ n) (h1 : Sp.wd n ≤ 8) : head n (Sp.wd n) = [.int .u8 (247 + (Sp.wd n : Int))] := by
  unfold head Sp.num
  rw [if_neg (by omega), show 1 + Sp.wd n - Sp.wd n = 1 by omega]
  simp [UInt8.toNat_ofNat']
  omega
theorem head_next (n j : Nat) (h0 : 248 ≤ n) (h1 : Sp.wd n ≤ 8) (hj : j < Sp.wd n) : head n j = head n (j + 1) ++ [.int .u8 ((n : Int) / 2 ^ (8 * j) % 256)] := by
  have e : 1 + Sp.wd n - j = (1 + Sp.wd n - (j + 1)) + 1 := by omega
  have e2 : 1 + Sp.wd n - (j + 1) = (Sp.wd n - 1 - j) + 1 := by omega
  unfold head
  rw [e, List.take_add_one, List.map_append]
  congr 1
  unfold Sp.num
  rw [if_neg (by omega), e2, List.getElem?_cons_succ, be_get _ n _ (by omega), show Sp.wd n - 1 - (Sp.wd n - 1 - j) = j by omega, shr8]
  simp [UInt8.toNat_ofNat']
theorem head_length (n j : Nat) (h0 : 248 ≤ n) (hj : j ≤ Sp.wd n) : (head n j).length = 1 + Sp.wd n - j := by
  unfold head Sp.num
  rw [if_neg (by omega), List.length_map, List.length_take, List.length_cons, Sp.be_length]
  omega
theorem info_u8 : (Try.prog.info? 5).map (fun i => (i.zero, i.size, i.bytes)) = some (some (.int .u8 0), 1, 1) := by kernel_rfl
end Go.Proofs.Ytiomhmdkaglelaa
namespace Go.Proofs.Ytiomhmdkaglelaa
open Go.RowKit
open Sp (fold intB textS bs)
/-- The bytes of a real number that are there when j of them are left. -/
def rhead (f j : Nat) : List Value := ((realB f).take (8 - j)).map fun b => Value.int .u8 (b.toNat : Int)
theorem rhead_next (f j : Nat) (hj : j < 8) : rhead f j = rhead f (j + 1) ++ [.int .u8 (((fbits f : Nat) : Int) / 2 ^ (8 * j) % 256)] := by
  unfold rhead realB
  rw [show 8 - j = (8 - (j + 1)) + 1 by omega, List.take_add_one, List.map_append, be_get 8 _ _ (by omega), show 8 - 1 - (8 - (j + 1)) = j by omega, shr8]
  simp [UInt8.toNat_ofNat']
end Go.Proofs.Ytiomhmdkaglelaa
namespace Go.Proofs.Ytiomhmdkaglelaa
open Go.RowKit
set_option linter.unusedSimpArgs false
set_option linter.unusedVariables false
open Sp (fold intB textS bs)
/-- May the byte c stand at place i of a word? -/
def wch (i c : Nat) : Prop := (97 ≤ c ∧ c ≤ 122) ∨ (0 < i ∧ ((48 ≤ c ∧ c ≤ 57) ∨ c = 95))
def Word (s : ByteArray) : Prop := (∀ i (h : i < s.size), wch i s[i].toNat) ∧ 1 ≤ s.size ∧ s.size ≤ 16
noncomputable def wordB (s : ByteArray) : Bool := @decide (Word s) (Classical.propDecidable _)
theorem wordB_true {s : ByteArray} (h : Word s) : wordB s = true := by unfold wordB; simp [h]
theorem wordB_false {s : ByteArray} (h : ¬ Word s) : wordB s = false := by unfold wordB; simp [h]
theorem wordB_iff {s : ByteArray} : wordB s = true ↔ Word s := by unfold wordB; simp
theorem toList_nil (s : ByteArray) : s.toList = [] ↔ s.size = 0 := by
  rw [ByteArray.toList_eq, ← List.length_eq_zero_iff, Array.length_toList]
  exact Iff.rfl
set_option maxRecDepth 100000 in
set_option maxHeartbeats 1000000 in
theorem Word_any (s : ByteArray) (w : World) (hs : s.size ≤ 140737488351232) :
    Calls Try.prog 19 #[.string s] w fun e w' => e = .returned (.bool (wordB s)) ∧ w = w' := by
  go_enter Try.func19, Try.ntmps19
  go_wp2_with fail
  go_loop [7] (fun i => ∃ k : Nat, k ≤ s.size ∧ i = .int .i64 k ∧ ∀ i (h : i < s.size), i < k → wch i s[i].toNat) (fun i => s.size - (intOf i).toNat)
  case atStart => exact ⟨0, Nat.zero_le _, rfl, fun i _ h => absurd h (Nat.not_lt_zero _)⟩
  case round =>
    obtain ⟨k, hk, rfl, hall⟩ := hrel
    have HA := Lib.hid hall
    clear hall
    by_cases hlt : k < s.size
    · go_wp2_with fail
      all_goals first
        | (go_round
           case rel =>
             refine ⟨k + 1, by omega, by go_num, fun i h hi => ?_⟩
             by_cases e : i < k
             · exact HA.out i h e
             · obtain rfl : i = k := by omega
               unfold wch
               try simp only [Bool.not_eq_true', Bool.not_eq_false', decide_eq_true_eq, decide_eq_false_iff_not, beq_iff_eq, beq_eq_false_iff_ne, ne_eq] at *
               omega
           case measure => simp [intOf]; omega)
        | (go_ret
           refine ⟨?_, rfl⟩
           rw [wordB_false (fun hw => by
             have hx := hw.1 k hlt
             unfold wch at hx
             try simp only [Bool.not_eq_true', Bool.not_eq_false', decide_eq_true_eq, decide_eq_false_iff_not, beq_iff_eq, beq_eq_false_iff_ne, ne_eq] at *
             omega)]
           rfl)
    · obtain rfl : k = s.size := by omega
      have hiff : Word s ↔ 1 ≤ s.size ∧ s.size ≤ 16 := ⟨fun h => h.2, fun h => ⟨fun i hi => HA.out i hi hi, h⟩⟩
      have HI := Lib.hid hiff
      clear hiff
      go_wp2_with fail
      all_goals
        go_ret
        refine ⟨?_, rfl⟩
      · have h0 : s.toList = [] := by assumption
        rw [wordB_false (fun h => by have := HI.out.1 h; have := (toList_nil s).1 h0; omega)]
        rfl
      · have h0 : ¬ s.toList = [] := by assumption
        have h1 : 1 ≤ s.size := by have := mt (toList_nil s).2 h0; omega
        by_cases h16 : s.size ≤ 16
        · rw [wordB_true (HI.out.2 ⟨h1, h16⟩)]
          simp [h0]
          omega
        · rw [wordB_false (fun h => h16 (HI.out.1 h).2)]
          simp
          omega
end Go.Proofs.Ytiomhmdkaglelaa
namespace Go.Proofs.Ytiomhmdkaglelaa
open Go.RowKit
set_option linter.unusedSimpArgs false
set_option linter.unusedVariables false
open Sp (fold intB textS bs)
/-- A value. -/
structure Val where
  kind : Int
  n : Int
  f : Nat
  s : ByteArray
def Val.cells (v : Val) : List Value := [.int .i64 v.kind, .int .i64 v.n, .float .f64 v.f, .string v.s]
def Val.may (v : Val) : Prop := v.kind = 1 ∧ v.f = 0 ∧ v.s.size = 0 ∨ v.kind = 2 ∧ v.n = 0 ∧ v.s.size = 0 ∨ v.kind = 3 ∧ v.n = 0 ∧ v.f = 0 ∧ v.s.size ≤ 64
noncomputable def mayB (v : Val) : Bool := @decide v.may (Classical.propDecidable _)
theorem mayB_true {v : Val} (h : v.may) : mayB v = true := by unfold mayB; simp [h]
theorem mayB_iff {v : Val} : mayB v = true ↔ v.may := by unfold mayB; simp
theorem mayB_false {v : Val} (h : ¬ v.may) : mayB v = false := by unfold mayB; simp [h]
theorem empty_eq (s : ByteArray) : s.toList.isEmpty = decide (s.size = 0) := by
  have := toList_nil s
  rw [Bool.eq_iff_iff, List.isEmpty_iff, decide_eq_true_iff]
  exact this
theorem may_eq (v : Val) : mayB v = if (v.kind == 1) then (decide (v.f = 0) && v.s.toList.isEmpty) else if (v.kind == 2) then ((v.n == 0) && v.s.toList.isEmpty) else if (v.kind == 3) then ((v.n == 0) && decide (v.f = 0) && decide ((v.s.size : Int) ≤ 64)) else false := by
  rw [Bool.eq_iff_iff, mayB_iff, empty_eq]
  unfold Val.may
  by_cases h1 : v.kind = 1
  · simp [h1]
  · by_cases h2 : v.kind = 2
    · simp [h2]
    · by_cases h3 : v.kind = 3
      · simp [h3, and_assoc]; omega
      · simp [h1, h2, h3]
set_option maxRecDepth 100000 in
set_option maxHeartbeats 1000000 in
theorem may_any (v : Val) (w : World) (hs : v.s.size ≤ 140737488351232) :
    Calls Try.prog 47 #[.agg #[.int .i64 v.kind, .int .i64 v.n, .float .f64 v.f, .string v.s]] w fun e w' => e = .returned (.bool (mayB v)) ∧ Below w.heap.size w w' := by
  have hfb := f64bits
  obtain ⟨kind, n, f, s⟩ := v
  dsimp only at hs ⊢
  go_enter Try.func47, Try.ntmps47
  go_wp2_with fail
  go_quiet (fail)
  go_wp2_with fail
  all_goals
    go_ret
    refine ⟨Mem.ret_bool ?_, Mem.bdrewN ((Below.refl _ _).alloc (Nat.le_refl _) _) _⟩
    rw [may_eq]
    simp [*]
theorem beq_cases (a b : Int) : (a == b) = true ∨ (a == b) = false := by cases (a == b) <;> simp
end Go.Proofs.Ytiomhmdkaglelaa
