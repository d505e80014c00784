/- The sum of bytes as a division of bits: the step that takes a whole byte and the steps that take one bit at a time come to the same; and a pack's parts. Plain lists and numbers. -/
import Derived.Test.YtoipjimooiogdaaPAllx4
namespace Go.Proofs.Ytoipjimooiogdaa.Crc
open Go.RowKit Go.Proofs.YtoipjimooiogdaaW.PrintWords Go.Proofs.YtoipjimooiogdaaW.PrintLast Go.Proofs.YtoipjimooiogdaaW.PrintMore

def poly : Nat := 2197175160
/-- one bit that is 0 goes in. -/
def Z (c : Nat) : Nat := if c % 2 = 1 then (c / 2) ^^^ poly else c / 2

theorem Z_lt {c : Nat} (h : c < 2 ^ 32) : Z c < 2 ^ 32 := by
  unfold Z
  split
  · exact Nat.xor_lt_two_pow (by omega) (by decide)
  · omega

theorem half_xor (a b : Nat) : (a ^^^ b) / 2 = (a / 2) ^^^ (b / 2) := by
  have := Nat.shiftRight_xor_distrib (a := a) (b := b) (i := 1)
  simpa [Nat.shiftRight_eq_div_pow] using this

theorem mod2_xor (a b : Nat) : (a ^^^ b) % 2 = (a % 2 + b % 2) % 2 := by
  have h : (a ^^^ b).testBit 0 = (a.testBit 0 ^^ b.testBit 0) := Nat.testBit_xor ..
  simp only [Nat.testBit_zero] at h
  rcases Nat.mod_two_eq_zero_or_one a with ha | ha <;> rcases Nat.mod_two_eq_zero_or_one b with hb | hb <;>
    rcases Nat.mod_two_eq_zero_or_one (a ^^^ b) with hc | hc <;> simp [ha, hb, hc] at h ⊢

theorem Z_xor (a b : Nat) : Z (a ^^^ b) = Z a ^^^ Z b := by
  unfold Z
  rw [half_xor, mod2_xor]
  rcases Nat.mod_two_eq_zero_or_one a with ha | ha <;> rcases Nat.mod_two_eq_zero_or_one b with hb | hb <;> simp [ha, hb]
  · rw [Nat.xor_assoc]
  · rw [Nat.xor_assoc, Nat.xor_comm (b / 2) poly, ← Nat.xor_assoc]
  · rw [Nat.xor_assoc, ← Nat.xor_assoc poly, Nat.xor_comm poly, Nat.xor_assoc, Nat.xor_self, Nat.xor_zero]

theorem Z_even (n : Nat) (h : n % 2 = 0) : Z n = n / 2 := by unfold Z; rw [if_neg (by omega)]

/-- a bit goes in. -/
def bitIn (c : Nat) (b : Nat) : Nat := Z (c ^^^ (b % 2))

/-- j bits of a byte, the lowest first. -/
def bitsIn : Nat → Nat → Nat → Nat
  | 0, c, _ => c
  | j + 1, c, b => bitsIn j (bitIn c b) (b / 2)

def Zs : Nat → Nat → Nat
  | 0, c => c
  | j + 1, c => Zs j (Z c)

theorem split_low (b : Nat) : b = (b % 2) ^^^ (2 * (b / 2)) := by
  apply Nat.eq_of_testBit_eq
  intro i
  rw [Nat.testBit_xor]
  cases i with
  | zero =>
    simp only [Nat.testBit_zero]
    have h1 : b % 2 % 2 = b % 2 := by omega
    have h2 : 2 * (b / 2) % 2 = 0 := by omega
    rw [h1, h2]; simp
  | succ i =>
    rw [Nat.testBit_succ, Nat.testBit_succ (b % 2), Nat.testBit_succ (2 * (b / 2))]
    have h1 : b % 2 / 2 = 0 := by omega
    have h2 : 2 * (b / 2) / 2 = b / 2 := by omega
    rw [h1, h2]; simp

theorem Zs_bits : ∀ (j c b : Nat), b < 2 ^ j → Zs j (c ^^^ b) = bitsIn j c b
  | 0, c, b, h => by
    have : b = 0 := by simpa using h
    subst this; simp [Zs, bitsIn]
  | j + 1, c, b, h => by
    simp only [Zs, bitsIn]
    rw [← Zs_bits j _ (b / 2) (by rw [Nat.pow_succ] at h; omega)]
    congr 1
    conv => lhs; rw [split_low b, ← Nat.xor_assoc, Z_xor]
    rw [Z_even (2 * (b / 2)) (by omega), show 2 * (b / 2) / 2 = b / 2 by omega]; rfl

theorem bitIn_lt {c b : Nat} (h : c < 2 ^ 32) : bitIn c b < 2 ^ 32 := Z_lt (Nat.xor_lt_two_pow h (by omega))
theorem bitsIn_lt : ∀ (j c b : Nat), c < 2 ^ 32 → bitsIn j c b < 2 ^ 32
  | 0, _, _, h => h
  | j + 1, _, _, h => bitsIn_lt j _ _ (bitIn_lt h)
theorem Zs_lt : ∀ (j c : Nat), c < 2 ^ 32 → Zs j c < 2 ^ 32
  | 0, _, h => h
  | j + 1, _, h => Zs_lt j _ (Z_lt h)

/-- a byte goes in. -/
def byteIn (c : Nat) (b : UInt8) : Nat := bitsIn 8 c b.toNat
def bytesIn (c : Nat) (l : List UInt8) : Nat := l.foldl byteIn c
theorem byteIn_lt {c : Nat} {b : UInt8} (h : c < 2 ^ 32) : byteIn c b < 2 ^ 32 := bitsIn_lt 8 _ _ h
theorem bytesIn_lt : ∀ (l : List UInt8) {c : Nat}, c < 2 ^ 32 → bytesIn c l < 2 ^ 32
  | [], _, h => h
  | _ :: l, _, h => bytesIn_lt l (byteIn_lt h)
def ones : Nat := 4294967295
def sumL (l : List UInt8) : Nat := bytesIn ones l ^^^ ones
theorem sumL_lt (l : List UInt8) : sumL l < 2 ^ 32 := Nat.xor_lt_two_pow (bytesIn_lt l (by decide)) (by decide)

/-! ### the printed words on numbers that are natural -/
theorem bits_xor32 {a b : Nat} (ha : a < 2 ^ 32) (hb : b < 2 ^ 32) : Go.bits .xor .u32 (a : Int) (b : Int) = ((a ^^^ b : Nat) : Int) := by
  have h := Nat.xor_lt_two_pow ha hb
  have ha' : a % 2 ^ IntKind.u32.bits = a := Nat.mod_eq_of_lt ha
  have hb' : b % 2 ^ IntKind.u32.bits = b := Nat.mod_eq_of_lt hb
  simp only [bits, BitVec.ofInt_natCast, BitVec.toNat_xor, BitVec.toNat_ofNat, ha', hb']
  rw [IntKind.wrap_u32]
  omega
theorem bits_and32 {a : Nat} (ha : a < 2 ^ 32) : Go.bits .and .u32 (a : Int) 1 = ((a % 2 : Nat) : Int) := by
  have h1 : (1 : Int) = ((1 : Nat) : Int) := rfl
  have hw : ∀ n : Int, 0 ≤ n → n < 2 ^ 32 → IntKind.u32.wrap n = n := fun n h0 h1 => by rw [IntKind.wrap_u32]; omega
  rw [h1, (bits_nat .u32 32 (by decide) hw a 1 ha (by decide)).1, Nat.and_one_is_mod]
theorem w64 {n : Int} (h0 : -9223372036854775808 ≤ n) (h1 : n ≤ 9223372036854775807) : wrap64 n = n := by unfold wrap64; omega

/-! ### crc.more, crc.Sum -/
theorem more_l0 : ∀ (j k c : Nat), j < k → j ≤ 8 → c < 2 ^ 32 → PAll.crc_more.l0 k (c : Int) ((8 - j : Nat) : Int) = some ((Zs j c : Nat) : Int)
  | 0, k + 1, c, _, _, _ => by
    simp only [PAll.crc_more.l0, Zs]; rw [if_neg (by omega)]
  | j + 1, k + 1, c, hk, hj, hc => by
    simp only [PAll.crc_more.l0, Zs]
    rw [if_pos (by omega), bits_and32 hc]
    have e2 : wrap64 (((8 - (j + 1) : Nat) : Int) + 1) = ((8 - j : Nat) : Int) := by rw [w64 (by omega) (by omega)]; omega
    have e3 : ((c : Int) / 2) = ((c / 2 : Nat) : Int) := by omega
    rw [e2, e3]
    by_cases h : c % 2 = 1
    · rw [if_pos (by omega), show (2197175160 : Int) = ((poly : Nat) : Int) from rfl, bits_xor32 (by omega) (by decide), more_l0 j k _ (by omega) (by omega) (Nat.xor_lt_two_pow (by omega) (by decide))]
      simp only [Z]; rw [if_pos h]
    · rw [if_neg (by omega), more_l0 j k _ (by omega) (by omega) (by omega)]
      simp only [Z]; rw [if_neg h]

theorem more_f (k c : Nat) (b : UInt8) (hk : 8 < k) (hc : c < 2 ^ 32) : PAll.crc_more.f k (c : Int) ((b.toNat : Nat) : Int) = some ((byteIn c b : Nat) : Int) := by
  have hb : b.toNat < 256 := b.toNat_lt
  unfold PAll.crc_more.f
  rw [show ((b.toNat : Int) % 4294967296) = ((b.toNat : Nat) : Int) by omega, bits_xor32 hc (by omega)]
  have := more_l0 8 k (c ^^^ b.toNat) hk (by omega) (Nat.xor_lt_two_pow hc (by omega))
  rw [show (0 : Int) = ((8 - 8 : Nat) : Int) from rfl, this, Zs_bits 8 c b.toNat hb]; rfl

theorem bt_get (s : ByteArray) (i : Nat) (h : i < s.size) : bt s (i : Int) = ((s.data.toList[i]'(by simpa using h)).toNat : Int) := by
  unfold bt; simp only [Int.toNat_natCast]; rw [dif_pos h]; rfl

theorem sum_l0 (s : ByteArray) (hs : s.size < 2 ^ 62) : ∀ (d k i c : Nat), i + d = s.size → d + 9 < k → c < 2 ^ 32 →
    PAll.crc_Sum.l0 k s (c : Int) (s.size : Int) (i : Int) = some (((bytesIn c (s.data.toList.drop i)) ^^^ ones : Nat) : Int)
  | 0, k + 1, i, c, hd, _, hc => by
    simp only [PAll.crc_Sum.l0]
    rw [if_neg (by omega), List.drop_of_length_le (by simp; omega), show (4294967295 : Int) = ((ones : Nat) : Int) from rfl, bits_xor32 (by decide) hc, Nat.xor_comm]; rfl
  | d + 1, k + 1, i, c, hd, hk, hc => by
    have hi : i < s.size := by omega
    simp only [PAll.crc_Sum.l0]
    rw [if_pos (by omega), if_pos (by omega), if_pos (by omega), bt_get s i hi, more_f k c _ (by omega) hc]
    simp only [Option.bind_some]
    rw [w64 (by omega) (by omega), show ((i : Int) + 1) = ((i + 1 : Nat) : Int) by omega, sum_l0 s hs d k (i + 1) _ (by omega) (by omega) (byteIn_lt hc)]
    rw [List.drop_eq_getElem_cons (l := s.data.toList) (i := i) (by simpa using hi)]; rfl

theorem sum_f (s : ByteArray) (k : Nat) (hs : s.size < 2 ^ 62) (hk : s.size + 9 < k) : PAll.crc_Sum.f k s = some ((sumL s.data.toList : Nat) : Int) := by
  unfold PAll.crc_Sum.f
  rw [show (4294967295 : Int) = ((ones : Nat) : Int) from rfl, show (0 : Int) = ((0 : Nat) : Int) from rfl, sum_l0 s hs s.size k 0 ones (by omega) hk (by decide)]
  rfl

/-! ### auspiceref02.Sum -/
theorem wu64 (n : Int) : IntKind.u64.wrap n = n % 18446744073709551616 := by simp [IntKind.wrap, IntKind.bits, IntKind.signed]
theorem low_bit {c b : Nat} (hc : c < 2 ^ 32) (hb : b < 256) (j : Nat) (hj : j ≤ 8) :
    Go.bits .xor .u32 (Go.bits .and .u32 (c : Int) 1) (Go.bits .and .u32 ((shr .u8 (b : Int) (IntKind.u64.wrap (j : Int))) % 4294967296) 1) = (((c ^^^ (b / 2 ^ j % 2)) % 2 : Nat) : Int) := by
  have hw : IntKind.u64.wrap (j : Int) = (j : Int) := by rw [wu64]; omega
  have hs : shr .u8 (b : Int) (j : Int) = ((b / 2 ^ j : Nat) : Int) := by
    unfold shr
    rw [show min ((j : Int).toNat) IntKind.u8.bits = j by simp [IntKind.bits]; omega]
    norm_cast
  have hd : b / 2 ^ j < 256 := Nat.lt_of_le_of_lt (Nat.div_le_self _ _) hb
  have he : (((b / 2 ^ j : Nat) : Int) % 4294967296) = ((b / 2 ^ j : Nat) : Int) := by
    generalize b / 2 ^ j = q at hd
    omega
  rw [hw, hs, he, bits_and32 hc, bits_and32 (by omega), bits_xor32 (by omega) (by omega)]
  have h1 : (c % 2) ^^^ (b / 2 ^ j % 2) = (c ^^^ (b / 2 ^ j % 2)) % 2 := by
    rw [mod2_xor]
    rcases Nat.mod_two_eq_zero_or_one c with ha | ha <;> rcases Nat.mod_two_eq_zero_or_one (b / 2 ^ j) with hb | hb <;> simp [ha, hb]
  rw [h1]

theorem half_low (c b : Nat) : (c ^^^ (b % 2)) / 2 = c / 2 := by
  rw [half_xor, show b % 2 / 2 = 0 by omega, Nat.xor_zero]

theorem ref_l1 (s : ByteArray) (hs : s.size < 2 ^ 62) (i : Nat) (hi : i < s.size) : ∀ (j k c : Nat), j ≤ 8 → c < 2 ^ 32 →
    PAll.auspiceref02_Sum.l1 (k + j + 1) s (c : Int) (i : Int) ((8 - j : Nat) : Int) =
      PAll.auspiceref02_Sum.l0 k s ((bitsIn j c ((s.data.toList[i]'(by simpa using hi)).toNat / 2 ^ (8 - j)) : Nat) : Int) ((i + 1 : Nat) : Int)
  | 0, k, c, _, _ => by
    simp only [PAll.auspiceref02_Sum.l1, bitsIn]
    rw [if_neg (by omega), w64 (by omega) (by omega)]; rfl
  | j + 1, k, c, hj, hc => by
    have hb : (s.data.toList[i]'(by simpa using hi)).toNat < 256 := UInt8.toNat_lt _
    obtain ⟨m, hm⟩ : ∃ m, m = k + j + 1 := ⟨_, rfl⟩
    rw [show k + (j + 1) + 1 = m + 1 by omega]
    simp only [PAll.auspiceref02_Sum.l1]
    rw [if_pos (by omega), if_pos (by omega), if_pos (by omega), bt_get s i hi]
    generalize hB : (s.data.toList[i]'(by simpa using hi)).toNat = B at hb
    rw [if_pos (by rw [wu64]; omega), low_bit hc hb (8 - (j + 1)) (by omega)]
    rw [show wrap64 (((8 - (j + 1) : Nat) : Int) + 1) = ((8 - j : Nat) : Int) by rw [w64 (by omega) (by omega)]; omega, show ((c : Int) / 2) = ((c / 2 : Nat) : Int) by omega]
    have hq : B / 2 ^ (8 - (j + 1)) / 2 = B / 2 ^ (8 - j) := by rw [Nat.div_div_eq_div_mul, ← Nat.pow_succ]; congr 2; omega
    simp only [bitsIn, hq]
    have hZ : bitIn c (B / 2 ^ (8 - (j + 1))) = if (c ^^^ (B / 2 ^ (8 - (j + 1)) % 2)) % 2 = 1 then (c / 2) ^^^ poly else c / 2 := by
      unfold bitIn Z; rw [half_low]
    rw [hZ]
    by_cases h : (c ^^^ (B / 2 ^ (8 - (j + 1)) % 2)) % 2 = 1
    · rw [if_pos (by omega), if_pos h, show (2197175160 : Int) = ((poly : Nat) : Int) from rfl, bits_xor32 (by omega) (by decide), hm, ref_l1 s hs i hi j k _ (by omega) (Nat.xor_lt_two_pow (by omega) (by decide)), hB]
    · rw [if_neg (by omega), if_neg h, hm, ref_l1 s hs i hi j k _ (by omega) (by omega), hB]

theorem ref_l0 (s : ByteArray) (hs : s.size < 2 ^ 62) : ∀ (d k i c : Nat), i + d = s.size → 10 * d < k → c < 2 ^ 32 →
    PAll.auspiceref02_Sum.l0 k s (c : Int) (i : Int) = some (((bytesIn c (s.data.toList.drop i)) ^^^ ones : Nat) : Int)
  | 0, k + 1, i, c, hd, _, hc => by
    simp only [PAll.auspiceref02_Sum.l0]
    rw [if_neg (by omega), List.drop_of_length_le (by simp; omega), show (4294967295 : Int) = ((ones : Nat) : Int) from rfl, bits_xor32 hc (by decide)]; rfl
  | d + 1, k + 1, i, c, hd, hk, hc => by
    have hi : i < s.size := by omega
    simp only [PAll.auspiceref02_Sum.l0]
    obtain ⟨m, rfl⟩ : ∃ m, k = m + 8 + 1 := ⟨k - 9, by omega⟩
    have hB : ((s.data.toList[i]'(by simpa using hi)).toNat / 2 ^ (8 - 8)) = (s.data.toList[i]'(by simpa using hi)).toNat := by simp
    rw [if_pos (by omega), show (0 : Int) = ((8 - 8 : Nat) : Int) from rfl, ref_l1 s hs i hi 8 m c (by omega) hc, hB,
      ref_l0 s hs d m (i + 1) _ (by omega) (by omega) (bitsIn_lt 8 _ _ hc)]
    rw [List.drop_eq_getElem_cons (l := s.data.toList) (i := i) (by simpa using hi)]; rfl

theorem refsum_f (s : ByteArray) (k : Nat) (hs : s.size < 2 ^ 62) (hk : 10 * s.size < k) : PAll.auspiceref02_Sum.f k s = some ((sumL s.data.toList : Nat) : Int) := by
  unfold PAll.auspiceref02_Sum.f
  rw [show (4294967295 : Int) = ((ones : Nat) : Int) from rfl, show (0 : Int) = ((0 : Nat) : Int) from rfl, ref_l0 s hs s.size k 0 ones (by omega) hk (by decide)]
  rfl

end Go.Proofs.Ytoipjimooiogdaa.Crc
