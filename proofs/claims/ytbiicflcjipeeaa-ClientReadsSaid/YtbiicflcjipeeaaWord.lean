/- Which words may be: event's and the document's. -/
import Derived.Test.YtbiicflcjipeeaaRBits
import Derived.Deep.QuietTactic
import Derived.BigQuiet
namespace Go.Proofs.Ytbiicflcjipeeaa
open Go.RowKit
set_option linter.unusedSimpArgs false
set_option linter.unusedVariables false
open Sp (fold intB textS bs)
/-- May the byte c stand at place i of a word? -/
def wch (i c : Nat) : Prop := (97 ≤ c ∧ c ≤ 122) ∨ (0 < i ∧ ((48 ≤ c ∧ c ≤ 57) ∨ c = 95))
def Word (s : ByteArray) : Prop := (∀ i (h : i < s.size), wch i s[i].toNat) ∧ 1 ≤ s.size ∧ s.size ≤ 16
noncomputable def wordB (s : ByteArray) : Bool := @decide (Word s) (Classical.propDecidable _)
theorem wordB_true {s : ByteArray} (h : Word s) : wordB s = true := by unfold wordB; simp [h]
theorem wordB_false {s : ByteArray} (h : ¬ Word s) : wordB s = false := by unfold wordB; simp [h]
theorem wordB_iff {s : ByteArray} : wordB s = true ↔ Word s := by unfold wordB; simp
theorem toList_nil (s : ByteArray) : s.toList = [] ↔ s.size = 0 := by
  rw [ByteArray.toList_eq, ← List.length_eq_zero_iff, Array.length_toList]
  exact Iff.rfl
set_option maxRecDepth 100000 in
set_option maxHeartbeats 1000000 in
theorem Word_any (s : ByteArray) (w : World) (hs : s.size ≤ 140737488351232) :
    Calls Try.prog 48 #[.string s] w fun e w' => e = .returned (.bool (wordB s)) ∧ w = w' := by
  go_enter Try.func48, Try.ntmps48
  go_wp2_with fail
  go_loop [7] (fun i => ∃ k : Nat, k ≤ s.size ∧ i = .int .i64 k ∧ ∀ i (h : i < s.size), i < k → wch i s[i].toNat) (fun i => s.size - (intOf i).toNat)
  case atStart => exact ⟨0, Nat.zero_le _, rfl, fun i _ h => absurd h (Nat.not_lt_zero _)⟩
  case round =>
    obtain ⟨k, hk, rfl, hall⟩ := hrel
    have HA := Lib.hid hall
    clear hall
    by_cases hlt : k < s.size
    · go_wp2_with fail
      all_goals first
        | (go_round
           case rel =>
             refine ⟨k + 1, by omega, by go_num, fun i h hi => ?_⟩
             by_cases e : i < k
             · exact HA.out i h e
             · obtain rfl : i = k := by omega
               unfold wch
               try simp only [Bool.not_eq_true', Bool.not_eq_false', decide_eq_true_eq, decide_eq_false_iff_not, beq_iff_eq, beq_eq_false_iff_ne, ne_eq] at *
               omega
           case measure => simp [intOf]; omega)
        | (go_ret
           refine ⟨?_, rfl⟩
           rw [wordB_false (fun hw => by
             have hx := hw.1 k hlt
             unfold wch at hx
             try simp only [Bool.not_eq_true', Bool.not_eq_false', decide_eq_true_eq, decide_eq_false_iff_not, beq_iff_eq, beq_eq_false_iff_ne, ne_eq] at *
             omega)]
           rfl)
    · obtain rfl : k = s.size := by omega
      have hiff : Word s ↔ 1 ≤ s.size ∧ s.size ≤ 16 := ⟨fun h => h.2, fun h => ⟨fun i hi => HA.out i hi hi, h⟩⟩
      have HI := Lib.hid hiff
      clear hiff
      go_wp2_with fail
      all_goals
        go_ret
        refine ⟨?_, rfl⟩
      · have h0 : s.toList = [] := by assumption
        rw [wordB_false (fun h => by have := HI.out.1 h; have := (toList_nil s).1 h0; omega)]
        rfl
      · have h0 : ¬ s.toList = [] := by assumption
        have h1 : 1 ≤ s.size := by have := mt (toList_nil s).2 h0; omega
        by_cases h16 : s.size ≤ 16
        · rw [wordB_true (HI.out.2 ⟨h1, h16⟩)]
          simp [h0]
          omega
        · rw [wordB_false (fun h => h16 (HI.out.1 h).2)]
          simp
          omega
set_option maxRecDepth 100000 in
set_option maxHeartbeats 4000000 in
theorem rWord_any (s : ByteArray) (w : World) (hs : s.size ≤ 140737488351232) :
    Calls Try.prog 18 #[.string s] w fun e w' => e = .returned (.bool (wordB s)) ∧ w = w' := by
  go_enter Try.func18, Try.ntmps18
  go_wp2_with fail
  go_loop [3] (fun i => ∃ k : Nat, k ≤ s.size ∧ i = .int .i64 k ∧ ∀ i (h : i < s.size), i < k → wch i s[i].toNat) (fun i => s.size - (intOf i).toNat)
  case atStart => exact ⟨0, Nat.zero_le _, rfl, fun i _ h => absurd h (Nat.not_lt_zero _)⟩
  case round =>
    obtain ⟨k, hk, rfl, hall⟩ := hrel
    have HA := Lib.hid hall
    clear hall
    by_cases hlt : k < s.size
    · have hks : ((k : Int) == 0) = true ∨ ((k : Int) == 0) = false := by cases ((k : Int) == 0) <;> simp
      have hnine : (((s[k].toNat : Int)) == 95) = true ∨ (((s[k].toNat : Int)) == 95) = false := by cases ((s[k].toNat : Int) == 95) <;> simp
      have hcs : ((s[k].toNat : Int) < 48 ∨ (48 ≤ (s[k].toNat : Int) ∧ (s[k].toNat : Int) ≤ 57)) ∨ ((58 ≤ (s[k].toNat : Int) ∧ (s[k].toNat : Int) < 97) ∨ (97 ≤ (s[k].toNat : Int) ∧ (s[k].toNat : Int) ≤ 122) ∨ (123 ≤ (s[k].toNat : Int))) := by omega
      rcases hcs with (hc | hc) | (hc | hc | hc)
      all_goals rcases hks with hk0 | hk0
      all_goals rcases hnine with h95 | h95
      all_goals go_wp2_with fail
      all_goals first
        | (go_round
           case rel =>
             refine ⟨k + 1, by omega, by go_num, fun i h hi => ?_⟩
             by_cases e : i < k
             · exact HA.out i h e
             · obtain rfl : i = k := by omega
               unfold wch
               clear HA
               try simp only [Bool.not_eq_true', Bool.not_eq_false', decide_eq_true_eq, decide_eq_false_iff_not, beq_iff_eq, beq_eq_false_iff_ne, ne_eq] at *
               omega
           case measure => simp [intOf]; omega)
        | (go_ret
           refine ⟨?_, rfl⟩
           rw [wordB_false (fun hw => by
             have hx := hw.1 k hlt
             unfold wch at hx
             clear HA
             try simp only [Bool.not_eq_true', Bool.not_eq_false', decide_eq_true_eq, decide_eq_false_iff_not, beq_iff_eq, beq_eq_false_iff_ne, ne_eq] at *
             omega)]
           rfl)
    · obtain rfl : k = s.size := by omega
      have hiff : Word s ↔ 1 ≤ s.size ∧ s.size ≤ 16 := ⟨fun h => h.2, fun h => ⟨fun i hi => HA.out i hi hi, h⟩⟩
      have HI := Lib.hid hiff
      clear hiff
      by_cases h1 : 1 ≤ s.size
      all_goals
        go_wp2_with fail
        go_ret
        refine ⟨?_, rfl⟩
        by_cases h16 : s.size ≤ 16
        · first
          | (rw [wordB_true (HI.out.2 ⟨h1, h16⟩)]; simp; omega)
          | (rw [wordB_false (fun h => h1 (HI.out.1 h).1)]; rfl)
        · rw [wordB_false (fun h => h16 (HI.out.1 h).2)]
          first | rfl | (simp; omega)
end Go.Proofs.Ytbiicflcjipeeaa
