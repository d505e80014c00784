/- disk.name: which texts are names. -/
import Derived.Test.YtpdceondgbgpkaaDoorDsk2
import Derived.Test.YtpdceondgbgpkaaDoorShelf0
namespace Go.Proofs.YtpdceondgbgpkaaDoor.Dsk
open Go.RowKit Go.Maps Go.Shelf
set_option linter.unusedSimpArgs false
set_option linter.unusedVariables false
def nameCut : List UInt8 := [97, 98, 99, 100, 101, 102, 103, 104, 105, 106, 107, 108, 109, 110, 111, 112, 113, 114, 115, 116, 117, 118, 119, 120, 121, 122, 48, 49, 50, 51, 52, 53, 54, 55, 56, 57, 46, 45]
def nameP (s : ByteArray) : Bool := decide (s.size ≠ 0) && decide (s.size ≤ 64) && (Lib.trimS s.data.toList nameCut).isEmpty
theorem nameP_size {s : ByteArray} (h : nameP s = true) : s.size ≤ 64 := by
  unfold nameP at h
  simp only [Bool.and_eq_true, decide_eq_true_eq] at h
  exact h.1.2
theorem trim_hcon (s : ByteArray) (w : World) (hs : s.size ≤ 9223372036854775807) :
    Calls Tryd.prog 38 #[.string s, .string ⟨#[97, 98, 99, 100, 101, 102, 103, 104, 105, 106, 107, 108, 109, 110, 111, 112, 113, 114, 115, 116, 117, 118, 119, 120, 121, 122, 48, 49, 50, 51, 52, 53, 54, 55, 56, 57, 46, 45]⟩] w fun e w' => e = .returned (.string ⟨(Lib.trimS s.data.toList nameCut).toArray⟩) ∧ Below w.heap.size w w' :=
  Any.strings_Trim_laid Tryd.lays160 (by kernel_rfl) s _ w hs (by decide) (ascii_of_all (by decide))
set_option maxRecDepth 100000 in
set_option maxHeartbeats 2000000 in
theorem name_any (s : ByteArray) (w : World) (hs : s.size ≤ 9223372036854775807) :
    Calls Tryd.prog 31 #[.string s] w fun r w' => r = .returned (.bool (nameP s)) ∧ Below w.heap.size w w' := by
  by_cases h0 : s.size = 0
  · have he : s = ⟨#[]⟩ := by
      cases s with | mk d =>
      have : d.size = 0 := h0
      rw [Array.size_eq_zero_iff.1 this]
    subst he
    go_enter Tryd.func31, Tryd.ntmps31
    go_wp2
    go_ret
    exact ⟨rfl, Below.refl _ _⟩
  · have hne : s.toList.isEmpty = false := by
      rw [Lib.toList_data]
      cases h : s.data.toList with
      | nil => have := Lib.size_eq s; rw [h, List.length_nil] at this; omega
      | cons _ _ => rfl
    by_cases h1 : s.size ≤ 64
    · have hp : nameP s = (⟨(Lib.trimS s.data.toList nameCut).toArray⟩ : ByteArray).toList.isEmpty := by
        rw [Lib.toList_data]
        unfold nameP
        simp only [h0, h1, ne_eq, not_false_eq_true, decide_true, Bool.true_and]
      have hcon := trim_hcon s w hs
      rw [hp]
      generalize (⟨(Lib.trimS s.data.toList nameCut).toArray⟩ : ByteArray) = r at hcon ⊢
      have h1' : (s.size : Int) ≤ 64 := by omega
      go_enter Tryd.func31, Tryd.ntmps31
      go_wp2_with (go_at_call 38; refine hcon.mono ?_; rintro e w' ⟨rfl, hB⟩)
      go_ret
      exact ⟨rfl, hB⟩
    · have hp : nameP s = false := by unfold nameP; simp [h1]
      rw [hp]
      have h1' : (64 : Int) < (s.size : Int) := by omega
      go_enter Tryd.func31, Tryd.ntmps31
      go_wp2
      go_ret
      exact ⟨rfl, Below.refl _ _⟩
end Go.Proofs.YtpdceondgbgpkaaDoor.Dsk
