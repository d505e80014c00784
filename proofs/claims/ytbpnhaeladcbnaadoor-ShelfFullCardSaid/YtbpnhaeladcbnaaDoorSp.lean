/- Plain functions that say what the bytes of numbers are: no program, no memory. -/
import Derived.WalkKit
namespace Go.Proofs.YtbpnhaeladcbnaaDoor.Sp
/-- The k lowest bytes of n, the highest first. -/
def be : Nat → Nat → List UInt8
  | 0, _ => []
  | k + 1, n => UInt8.ofNat (n / 256 ^ k) :: be k n
/-- How many bytes a number has (at least one). -/
def width : Nat → Nat → Nat
  | 0, _ => 1
  | f + 1, n => if n < 256 then 1 else width f (n / 256) + 1
def wd (n : Nat) : Nat := width 8 n
/-- A number's bytes. -/
def num (n : Nat) : List UInt8 := if n ≤ 247 then [UInt8.ofNat n] else UInt8.ofNat (247 + wd n) :: be (wd n) n
theorem be_length (k n : Nat) : (be k n).length = k := by
  induction k with
  | zero => rfl
  | succ k ih => simp [be, ih]
theorem width_pos : ∀ f n, 1 ≤ width f n
  | 0, _ => Nat.le_refl _
  | f + 1, n => by unfold width; split <;> omega
theorem width_le : ∀ f n, width f n ≤ f + 1
  | 0, _ => Nat.le_refl _
  | f + 1, n => by
    unfold width
    split
    · omega
    · have := width_le f (n / 256); omega
/-- n is below 256^k just where it has at most k bytes. -/
theorem width_lt : ∀ f n k, 1 ≤ k → k ≤ f → (n < 256 ^ k ↔ width f n ≤ k)
  | 0, n, k, h1, h2 => by omega
  | f + 1, n, k, h1, h2 => by
    unfold width
    by_cases h : n < 256
    · rw [if_pos h]
      have : 256 ^ 1 ≤ 256 ^ k := Nat.pow_le_pow_right (by omega) h1
      constructor
      · intro _; exact h1
      · intro _; omega
    · rw [if_neg h]
      obtain ⟨k, rfl⟩ : ∃ m, k = m + 1 := ⟨k - 1, by omega⟩
      by_cases hk : k = 0
      · subst hk
        have := width_pos f (n / 256)
        constructor <;> intro _ <;> omega
      · have ih := width_lt f (n / 256) k (by omega) (by omega)
        have e : n < 256 ^ (k + 1) ↔ n / 256 < 256 ^ k := by
          rw [Nat.pow_succ, Nat.div_lt_iff_lt_mul (by omega)]
        rw [e, ih]
        omega
theorem wd_pos (n : Nat) : 1 ≤ wd n := width_pos 8 n
theorem wd_lt (n k : Nat) (h1 : 1 ≤ k) (h2 : k ≤ 8) : n < 256 ^ k ↔ wd n ≤ k := width_lt 8 n k h1 h2
theorem wd_le (n : Nat) (h : n < 18446744073709551616) : wd n ≤ 8 := (wd_lt n 8 (by omega) (by omega)).1 (by omega)
theorem num_pos (n : Nat) : num n ≠ [] := by unfold num; split <;> simp
theorem num_length (n : Nat) (h : n < 18446744073709551616) : 1 ≤ (num n).length ∧ (num n).length ≤ 9 := by
  have := wd_le n h
  unfold num
  split <;> simp [be_length] <;> omega
/-- A text, by its bytes. -/
def bs (l : List UInt8) : ByteArray := ⟨l.toArray⟩
theorem bs_size (l : List UInt8) : (bs l).size = l.length := by simp [bs, ByteArray.size]
theorem bs_toList (l : List UInt8) : (bs l).data.toList = l := by simp [bs]
theorem bs_append (a b : List UInt8) : bs a ++ bs b = bs (a ++ b) := by
  apply ByteArray.ext
  simp [bs]
theorem bs_of (s : ByteArray) : bs s.data.toList = s := rfl
theorem bs_inj {a b : List UInt8} (h : bs a = bs b) : a = b := by
  have := congrArg (fun s : ByteArray => s.data.toList) h
  simpa [bs] using this
def fold (n : Int) : Int := if 0 ≤ n then 2 * n else -2 * n - 1
/-- A whole number's bytes, a text's. -/
def intB (n : Int) : List UInt8 := num (fold n).toNat
def textS (s : ByteArray) : ByteArray := bs (num s.size) ++ s
end Go.Proofs.YtbpnhaeladcbnaaDoor.Sp
