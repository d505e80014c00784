/- The order of texts. -/
import Derived.WalkKit
namespace Go.Proofs.Ytbiicflcjipeeaa.Str
theorem flip : ∀ x y : List UInt8, Op.bytesLess x y = !(Op.bytesLess y x || y == x)
  | [], [] => rfl
  | [], _ :: _ => rfl
  | _ :: _, [] => rfl
  | a :: x, b :: y => by
    have ih := flip x y
    have hc : (b :: y == a :: x) = (b == a && y == x) := rfl
    simp only [Op.bytesLess, hc, ih]
    rcases Nat.lt_trichotomy a.toNat b.toNat with h | h | h
    · have h1 : a < b := UInt8.lt_iff_toNat_lt.2 h
      have h2 : ¬ b < a := fun h' => by have := UInt8.lt_iff_toNat_lt.1 h'; omega
      have h3 : (b == a) = false := beq_eq_false_iff_ne.2 (fun e => by subst e; omega)
      simp [h1, h2, h3]
    · obtain rfl : a = b := UInt8.toNat_inj.1 h
      have h2 : ¬ a < a := fun h' => by have := UInt8.lt_iff_toNat_lt.1 h'; omega
      simp [h2]
    · have h1 : ¬ a < b := fun h' => by have := UInt8.lt_iff_toNat_lt.1 h'; omega
      have h2 : b < a := UInt8.lt_iff_toNat_lt.2 h
      have h3 : (a == b) = false := beq_eq_false_iff_ne.2 (fun e => by subst e; omega)
      simp [h1, h2, h3]
/-- x below y: y is not below x, nor is it x. -/
theorem of_less {x y : List UInt8} (h : Op.bytesLess x y = true) : Op.bytesLess y x = false ∧ (y == x) = false := by
  rw [flip, Bool.not_eq_true', Bool.or_eq_false_iff] at h
  exact h
theorem of_not {x y : List UInt8} (h : Op.bytesLess x y = false) : Op.bytesLess y x = true ∨ (Op.bytesLess y x = false ∧ (y == x) = true) := by
  rw [flip, Bool.not_eq_false', Bool.or_eq_true] at h
  rcases h with h | h
  · exact .inl h
  · cases h2 : Op.bytesLess y x
    · exact .inr ⟨rfl, h⟩
    · exact .inl rfl
end Go.Proofs.Ytbiicflcjipeeaa.Str
