/- Bits that are turned within 32 that stand side by side change the rest of the division. Plain numbers and lists. -/
import Derived.Test.YtoipjimooiogdaaCutCat
namespace Go.Proofs.Ytoipjimooiogdaa.Crc
open Go.RowKit Go.Proofs.YtoipjimooiogdaaW.PrintWords Go.Proofs.YtoipjimooiogdaaW.PrintLast Go.Proofs.YtoipjimooiogdaaW.PrintMore

/-- the number that bytes are, the lowest first. -/
def num : List UInt8 → Nat
  | [] => 0
  | a :: l => a.toNat ^^^ (256 * num l)

theorem Zs_add : ∀ (i j c : Nat), Zs (i + j) c = Zs j (Zs i c)
  | 0, j, c => by rw [Nat.zero_add]; rfl
  | i + 1, j, c => by rw [show i + 1 + j = (i + j) + 1 by omega]; simp only [Zs]; exact Zs_add i j _
theorem Zs_xor : ∀ (j a b : Nat), Zs j (a ^^^ b) = Zs j a ^^^ Zs j b
  | 0, _, _ => rfl
  | j + 1, a, b => by simp only [Zs]; rw [Z_xor, Zs_xor j]
theorem Zs_zero : ∀ (j : Nat), Zs j 0 = 0
  | 0 => rfl
  | j + 1 => by simp only [Zs]; rw [show Z 0 = 0 from rfl, Zs_zero j]
theorem Zs_up : ∀ (s j v : Nat), Zs (s + j) (v * 2 ^ s) = Zs j v
  | 0, j, v => by simp
  | s + 1, j, v => by
    rw [show s + 1 + j = (s + j) + 1 by omega]
    simp only [Zs]
    have h : v * 2 ^ (s + 1) = 2 * (v * 2 ^ s) := by rw [Nat.pow_succ]; rw [Nat.mul_comm 2, Nat.mul_assoc]
    rw [h, Z_even _ (by omega), show 2 * (v * 2 ^ s) / 2 = v * 2 ^ s by omega, Zs_up s j v]

theorem poly_top {a : Nat} (ha : a < 2 ^ 31) : a ^^^ poly ≠ 0 := by
  intro h
  have h1 : (a ^^^ poly).testBit 31 = false := by rw [h]; simp
  rw [Nat.testBit_xor, Nat.testBit_lt_two_pow ha] at h1
  revert h1; decide

theorem Z_zero {c : Nat} (hc : c < 2 ^ 32) (h : Z c = 0) : c = 0 := by
  unfold Z at h
  split at h
  · exact absurd h (poly_top (by omega))
  · omega
theorem Zs_inj0 : ∀ (j c : Nat), c < 2 ^ 32 → Zs j c = 0 → c = 0
  | 0, _, _, h => h
  | j + 1, _, hc, h => Z_zero hc (Zs_inj0 j _ (Z_lt hc) h)

theorem xor_disjoint (a n : Nat) (ha : a < 256) : a ^^^ (256 * n) = a + 256 * n := by
  have h := Nat.two_pow_add_eq_or_of_lt (i := 8) ha n
  have h2 : a ^^^ (256 * n) = a ||| (256 * n) := by
    apply Nat.eq_of_testBit_eq
    intro i
    rw [Nat.testBit_xor, Nat.testBit_or]
    by_cases hi : i < 8
    · have : (256 * n).testBit i = false := by rw [show 256 * n = 2 ^ 8 * n from rfl, Nat.testBit_two_pow_mul]; simp; omega
      rw [this]; simp
    · have : a.testBit i = false := Nat.testBit_lt_two_pow (Nat.lt_of_lt_of_le ha (by rw [show 256 = 2 ^ 8 from rfl]; exact Nat.pow_le_pow_right (by decide) (by omega)))
      rw [this]; simp
  rw [h2, Nat.or_comm, show 256 * n = 2 ^ 8 * n from rfl, ← h]; omega

theorem num_lt : ∀ (l : List UInt8), num l < 2 ^ (8 * l.length)
  | [] => by simp [num]
  | a :: l => by
    have h := num_lt l
    have ha := a.toNat_lt
    simp only [num]
    rw [xor_disjoint _ _ ha, List.length_cons, show 8 * (l.length + 1) = 8 * l.length + 8 by omega, Nat.pow_add]
    generalize 2 ^ (8 * l.length) = q at h
    omega

/-- bytes go in as their number does. -/
theorem bytesIn_num : ∀ (l : List UInt8) (c : Nat), bytesIn c l = Zs (8 * l.length) (c ^^^ num l)
  | [], c => by simp [bytesIn, num, Zs]
  | a :: l, c => by
    have ha := a.toNat_lt
    rw [List.length_cons, show 8 * (l.length + 1) = 8 + 8 * l.length by omega, Zs_add]
    have h1 : Zs 8 (c ^^^ num (a :: l)) = byteIn c a ^^^ num l := by
      simp only [num]
      rw [← Nat.xor_assoc, Zs_xor, Zs_bits 8 c a.toNat ha]
      have h2 : Zs 8 (256 * num l) = num l := by
        have := Zs_up 8 0 (num l)
        rw [show 256 * num l = num l * 2 ^ 8 by rw [Nat.mul_comm]]
        simpa [Zs] using this
      rw [h2]; rfl
    rw [h1]
    exact bytesIn_num l (byteIn c a)

theorem num_append : ∀ (a b : List UInt8), num (a ++ b) = num a ^^^ (num b * 2 ^ (8 * a.length))
  | [], b => by simp [num]
  | x :: a, b => by
    simp only [List.cons_append, num, num_append a b, List.length_cons]
    rw [show 8 * (a.length + 1) = 8 * a.length + 8 by omega, Nat.pow_add]
    have h : 256 * (num a ^^^ num b * 2 ^ (8 * a.length)) = (256 * num a) ^^^ (num b * (2 ^ (8 * a.length) * 2 ^ 8)) := by
      have := Nat.shiftLeft_xor_distrib (a := num a) (b := num b * 2 ^ (8 * a.length)) (i := 8)
      simp only [Nat.shiftLeft_eq] at this
      rw [Nat.mul_comm 256, Nat.mul_comm 256, ← Nat.mul_assoc]
      exact this
    rw [h, Nat.xor_assoc]

theorem num_inj : ∀ (a b : List UInt8), a.length = b.length → num a = num b → a = b
  | [], [], _, _ => rfl
  | x :: a, y :: b, hl, h => by
    simp only [num] at h
    have hx := x.toNat_lt; have hy := y.toNat_lt
    rw [xor_disjoint _ _ hx, xor_disjoint _ _ hy] at h
    have h1 : x.toNat = y.toNat := by omega
    have h2 : num a = num b := by omega
    rw [UInt8.toNat.inj h1, num_inj a b (by simpa using hl) h2]

theorem num_tail4 {c : Nat} (hc : c < 2 ^ 32) : num (tail4 c) = c := by
  simp only [tail4, num, UInt8.toNat_ofNat']
  rw [xor_disjoint _ _ (by omega)]
  rw [xor_disjoint _ _ (by omega)]
  rw [xor_disjoint _ _ (by omega)]
  rw [xor_disjoint _ _ (by omega)]
  omega

/-- the four bytes behind say the sum, just if the rest of all of it is the one of all packs. -/
theorem sum_rest {front tail : List UInt8} (ht : tail.length = 4) : tail = tail4 (sumL front) ↔ bytesIn ones (front ++ tail) = Zs 32 ones := by
  have hR : bytesIn ones front < 2 ^ 32 := bytesIn_lt front (by decide)
  have hn : num tail < 2 ^ 32 := by have := num_lt tail; rw [ht] at this; exact this
  have h1 : bytesIn ones (front ++ tail) = Zs 32 (bytesIn ones front ^^^ num tail) := by
    have : bytesIn ones (front ++ tail) = bytesIn (bytesIn ones front) tail := by simp [bytesIn]
    rw [this, bytesIn_num, ht]
  rw [h1]
  constructor
  · intro h
    rw [h, num_tail4 (sumL_lt _)]
    unfold sumL
    rw [← Nat.xor_assoc, Nat.xor_self, Nat.zero_xor]
  · intro h
    have h2 : Zs 32 ((bytesIn ones front ^^^ num tail) ^^^ ones) = 0 := by rw [Zs_xor, h, Nat.xor_self]
    have h3 := Zs_inj0 32 _ (Nat.xor_lt_two_pow (Nat.xor_lt_two_pow hR hn) (by decide)) h2
    have h4 : num tail = sumL front := by
      unfold sumL
      have := congrArg (fun x => x ^^^ (bytesIn ones front ^^^ ones)) h3
      simp only [Nat.zero_xor] at this
      rw [← this]
      apply Nat.eq_of_testBit_eq
      intro i
      simp only [Nat.testBit_xor]
      cases (bytesIn ones front).testBit i <;> cases (num tail).testBit i <;> cases ones.testBit i <;> rfl
    apply num_inj _ _ (by rw [ht]; rfl)
    rw [h4, num_tail4 (sumL_lt _)]

/-! ### turning a bit -/
def flip (l : List UInt8) (i : Nat) : List UInt8 := l.set (i / 8) (l.getD (i / 8) 0 ^^^ UInt8.ofNat (2 ^ (i % 8)))
theorem flip_length (l : List UInt8) (i : Nat) : (flip l i).length = l.length := by simp [flip]

theorem num_set : ∀ (l : List UInt8) (j : Nat) (b : UInt8), j < l.length → num (l.set j (l.getD j 0 ^^^ b)) = num l ^^^ (b.toNat * 2 ^ (8 * j))
  | a :: l, 0, b, _ => by
    simp only [List.set_cons_zero, num, List.getD_cons_zero, UInt8.toNat_xor, Nat.mul_zero, Nat.pow_zero, Nat.mul_one]
    rw [Nat.xor_assoc, Nat.xor_comm b.toNat, ← Nat.xor_assoc]
  | a :: l, j + 1, b, h => by
    simp only [List.set_cons_succ, num, List.getD_cons_succ]
    rw [num_set l j b (by simpa using h)]
    have h8 : 256 * (num l ^^^ b.toNat * 2 ^ (8 * j)) = (256 * num l) ^^^ (b.toNat * 2 ^ (8 * (j + 1))) := by
      have := Nat.shiftLeft_xor_distrib (a := num l) (b := b.toNat * 2 ^ (8 * j)) (i := 8)
      simp only [Nat.shiftLeft_eq] at this
      rw [show 8 * (j + 1) = 8 * j + 8 by omega, Nat.pow_add, Nat.mul_comm 256, Nat.mul_comm 256, ← Nat.mul_assoc]
      exact this
    rw [h8, Nat.xor_assoc]

theorem num_flip (l : List UInt8) (i : Nat) (h : i < 8 * l.length) : num (flip l i) = num l ^^^ 2 ^ i := by
  unfold flip
  rw [num_set _ _ _ (by omega)]
  have h2 : 2 ^ (i % 8) < 256 := by rw [show 256 = 2 ^ 8 from rfl]; exact Nat.pow_lt_pow_right (by decide) (by omega)
  rw [UInt8.toNat_ofNat', Nat.mod_eq_of_lt (by simpa using h2), ← Nat.pow_add]
  congr 2; omega

/-- the first k bits of a burst are turned, from the place 24 + first on, as far as there are bits. -/
def turned (l : List UInt8) (first many burst : Nat) : Nat → List UInt8
  | 0 => l
  | k + 1 => if first + k < many ∧ burst / 2 ^ k % 2 = 1 then flip (turned l first many burst k) (24 + (first + k)) else turned l first many burst k
def mask (first many burst : Nat) : Nat → Nat
  | 0 => 0
  | k + 1 => if first + k < many ∧ burst / 2 ^ k % 2 = 1 then mask first many burst k ^^^ 2 ^ k else mask first many burst k
theorem mask_lt (first many burst : Nat) : ∀ k, mask first many burst k < 2 ^ k
  | 0 => by simp [mask]
  | k + 1 => by
    have h := mask_lt first many burst k
    have h2 : mask first many burst k < 2 ^ (k + 1) := by rw [Nat.pow_succ]; omega
    unfold mask
    split
    · exact Nat.xor_lt_two_pow h2 (by rw [Nat.pow_succ]; have := Nat.two_pow_pos k; omega)
    · exact h2
theorem turned_length (l : List UInt8) (first many burst : Nat) : ∀ k, (turned l first many burst k).length = l.length
  | 0 => rfl
  | k + 1 => by unfold turned; split; · rw [flip_length, turned_length l first many burst k]
                exact turned_length l first many burst k
theorem num_turned (l : List UInt8) (first many burst : Nat) (hm : 24 + many ≤ 8 * l.length) : ∀ k, num (turned l first many burst k) = num l ^^^ (mask first many burst k * 2 ^ (24 + first))
  | 0 => by simp [turned, mask]
  | k + 1 => by
    unfold turned mask
    by_cases h : first + k < many ∧ burst / 2 ^ k % 2 = 1
    · rw [if_pos h, if_pos h, num_flip _ _ (by rw [turned_length]; omega), num_turned l first many burst hm k, Nat.xor_assoc]
      congr 1
      have := Nat.shiftLeft_xor_distrib (a := mask first many burst k) (b := 2 ^ k) (i := 24 + first)
      simp only [Nat.shiftLeft_eq] at this
      rw [this]
      congr 1
      rw [← Nat.pow_add]; congr 1; omega
    · rw [if_neg h, if_neg h]; exact num_turned l first many burst hm k

theorem take3_turned (l : List UInt8) (first many burst : Nat) : ∀ k, (turned l first many burst k).take 3 = l.take 3
  | 0 => rfl
  | k + 1 => by
    unfold turned
    split
    · unfold flip
      rw [List.take_set_of_le (by omega)]
      exact take3_turned l first many burst k
    · exact take3_turned l first many burst k

/-- A PACK THAT WAS TURNED IS NOT FOUND. -/
theorem burst_law {b : List UInt8} (hb : b.length ≤ 1048576) (first burst : Nat) (s : ByteArray) (hs : s.data.toList = turned (packL b) first (8 * (b.length + 4)) burst 32) :
    (s.data.toList = packL b ∧ unpackS s = (ofL b, nul, 0)) ∨ (s.data.toList ≠ packL b ∧ unpackS s = (nul, nul, 6)) := by
  by_cases he : s.data.toList = packL b
  · left
    refine ⟨he, ?_⟩
    have := unpack_pack (s := s) (b := b) (rest := []) (by rw [he, List.append_nil]) hb
    rw [this]; rfl
  right
  refine ⟨he, ?_⟩
  have hlen : s.data.toList.length = b.length + 7 := by rw [hs, turned_length, packL_length]
  have hsz : s.size = b.length + 7 := hlen
  have h3 : s.data.toList.take 3 = head3 b.length := by
    rw [hs, take3_turned]; unfold packL headed; rw [List.append_assoc]; exact List.take_left' rfl
  have hn : n3 s = b.length := by
    have h := head3_n3 s (by omega)
    rw [h3] at h
    have h' := n3_lt s
    simp only [head3, List.cons.injEq, and_true] at h
    obtain ⟨e0, e1, e2⟩ := h
    have e0 := congrArg UInt8.toNat e0; have e1 := congrArg UInt8.toNat e1; have e2 := congrArg UInt8.toNat e2
    simp only [UInt8.toNat_ofNat'] at e0 e1 e2
    omega
  have hno : ¬ sumOk s := by
    intro ho
    unfold sumOk at ho
    rw [hn] at ho
    have hd : (s.data.toList.drop (b.length + 3)).take 4 = s.data.toList.drop (b.length + 3) := List.take_of_length_le (by rw [List.length_drop]; omega)
    rw [hd] at ho
    have r1 := (sum_rest (front := s.data.toList.take (b.length + 3)) (tail := s.data.toList.drop (b.length + 3)) (by rw [List.length_drop]; omega)).1 ho
    rw [List.take_append_drop, bytesIn_num, hlen] at r1
    have r2 := (sum_rest (front := headed b) (tail := tail4 (sumL (headed b))) rfl).1 rfl
    rw [show headed b ++ tail4 (sumL (headed b)) = packL b from rfl, bytesIn_num, packL_length] at r2
    have hx : Zs (8 * (b.length + 7)) ((ones ^^^ num s.data.toList) ^^^ (ones ^^^ num (packL b))) = 0 := by rw [Zs_xor, r1, r2, Nat.xor_self]
    have hnum := num_turned (packL b) first (8 * (b.length + 4)) burst (by rw [packL_length]; omega) 32
    rw [← hs] at hnum
    have hxx : (ones ^^^ num s.data.toList) ^^^ (ones ^^^ num (packL b)) = mask first (8 * (b.length + 4)) burst 32 * 2 ^ (24 + first) := by
      rw [hnum]
      apply Nat.eq_of_testBit_eq
      intro i
      simp only [Nat.testBit_xor]
      cases ones.testBit i <;> cases (num (packL b)).testBit i <;> cases (mask first (8 * (b.length + 4)) burst 32 * 2 ^ (24 + first)).testBit i <;> rfl
    rw [hxx] at hx
    have hv := mask_lt first (8 * (b.length + 4)) burst 32
    have hv0 : mask first (8 * (b.length + 4)) burst 32 = 0 := by
      by_cases hf : 24 + first ≤ 8 * (b.length + 7)
      · obtain ⟨r, hr⟩ : ∃ r, 8 * (b.length + 7) = (24 + first) + r := ⟨8 * (b.length + 7) - (24 + first), by omega⟩
        rw [hr, Zs_up] at hx
        exact Zs_inj0 r _ hv hx
      · have : ∀ k, mask first (8 * (b.length + 4)) burst k = 0 := by
          intro k
          induction k with
          | zero => rfl
          | succ k ih => unfold mask; rw [if_neg (by omega)]; exact ih
        exact this 32
    rw [hv0, Nat.zero_mul, Nat.xor_zero] at hnum
    exact he (num_inj _ _ (by rw [hlen, packL_length]) hnum)
  unfold unpackS
  rw [if_neg (by omega), if_neg (by omega), if_neg (by omega), if_neg hno]

end Go.Proofs.Ytoipjimooiogdaa.Crc
