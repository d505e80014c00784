/- The packs one behind the other: the program's list and the document's are one; two lists that are one are the same. -/
import Derived.Test.YtoipjimooiogdaaCutUnpack
namespace Go.Proofs.Ytoipjimooiogdaa.Crc
open Go.RowKit Go.Proofs.YtoipjimooiogdaaW.PrintWords Go.Proofs.YtoipjimooiogdaaW.PrintLast Go.Proofs.YtoipjimooiogdaaW.PrintMore

def allS : Nat → ByteArray → List ByteArray × ByteArray
  | 0, s => ([], s)
  | f + 1, s => if (unpackS s).2.2 = 0 then ((unpackS s).1 :: (allS f (unpackS s).2.1).1, (allS f (unpackS s).2.1).2) else ([], s)

theorem unpack_rest (s : ByteArray) (h : (unpackS s).2.2 = 0) : n3 s + 7 ≤ s.size ∧ sumOk s ∧ n3 s ≤ 1048576 ∧ unpackS s = (s.extract 3 (n3 s + 3), s.extract (n3 s + 7) s.size, 0) := by
  unfold unpackS at h ⊢
  by_cases h3 : s.size < 3
  · rw [if_pos h3] at h; exact absurd h (by decide)
  rw [if_neg h3] at h ⊢
  by_cases hb : 1048576 < n3 s
  · rw [if_pos hb] at h; exact absurd h (by decide)
  rw [if_neg hb] at h ⊢
  by_cases h7 : s.size < n3 s + 7
  · rw [if_pos h7] at h; exact absurd h (by decide)
  rw [if_neg h7] at h ⊢
  by_cases ho : sumOk s
  · rw [if_pos ho] at h ⊢; exact ⟨by omega, ho, by omega, rfl⟩
  · rw [if_neg ho] at h; exact absurd h (by decide)

theorem rest_size (s : ByteArray) (h : (unpackS s).2.2 = 0) : (unpackS s).2.1.size + 7 ≤ s.size := by
  obtain ⟨h7, _, _, e⟩ := unpack_rest s h
  rw [e]
  show (s.extract (n3 s + 7) s.size).size + 7 ≤ s.size
  rw [size_list, ext_data, List.length_drop, List.length_take, ← size_list]; omega

theorem all_l0 : ∀ (f : Nat) (s : ByteArray) (acc : List ByteArray) (k : Nat), s.size < f → s.size + 12 < k → s.size < 2 ^ 62 → acc.length + s.size < 8796093022208 →
    PAll.crc_All.l0 k s acc = some (acc ++ (allS f s).1, (allS f s).2)
  | f + 1, s, acc, k + 1, hf, hk, hs, ha => by
    simp only [PAll.crc_All.l0, allS]
    rw [unpack_f s k hs (by omega)]
    simp only [Option.bind_some]
    by_cases h : (unpackS s).2.2 = 0
    · have hr := rest_size s h
      rw [if_pos h, if_pos h, if_pos (by omega), all_l0 f _ _ k (by omega) (by omega) (by omega) (by simp; omega)]
      simp
    · rw [if_neg h, if_neg h]; simp

theorem all_f (s : ByteArray) (k : Nat) (hs : s.size < 8796093022208) (hk : s.size + 12 < k) : PAll.crc_All.f k s = some (allS (s.size + 1) s) := by
  unfold PAll.crc_All.f
  rw [all_l0 (s.size + 1) s [] k (by omega) hk (by omega) (by simpa using hs)]; simp

theorem refall_l0 : ∀ (f : Nat) (s : ByteArray) (acc : List ByteArray) (k : Nat), s.size < f → 10 * s.size + 40 < k → s.size < 2 ^ 62 → acc.length + s.size < 8796093022208 →
    PAll.auspiceref02_All.l0 k s acc (unpackS s).1 (unpackS s).2.1 (unpackS s).2.2 = some (acc ++ (allS f s).1, (allS f s).2)
  | f + 1, s, acc, k + 1, hf, hk, hs, ha => by
    simp only [PAll.auspiceref02_All.l0, allS]
    by_cases h : (unpackS s).2.2 = 0
    · have hr := rest_size s h
      rw [if_pos h, if_pos h, if_pos (by omega), refunpack_f _ k (by omega) (by omega)]
      simp only [Option.bind_some]
      rw [refall_l0 f _ _ k (by omega) (by omega) (by omega) (by simp; omega)]
      simp
    · rw [if_neg h, if_neg h]; simp

theorem refall_f (s : ByteArray) (k : Nat) (hs : s.size < 8796093022208) (hk : 10 * s.size + 40 < k) : PAll.auspiceref02_All.f k s = some (allS (s.size + 1) s) := by
  unfold PAll.auspiceref02_All.f
  rw [refunpack_f s k (by omega) (by omega)]
  simp only [Option.bind_some]
  rw [refall_l0 (s.size + 1) s [] k (by omega) hk (by omega) (by simpa using hs)]; simp

theorem same_l0 (l : List ByteArray) (hl : l.length < 2 ^ 62) : ∀ (d k i : Nat), i + d = l.length → d < k → PAll.auspiceref02_Same.l0 k l l (i : Int) = some true
  | 0, k + 1, i, hd, _ => by
    simp only [PAll.auspiceref02_Same.l0]; rw [if_neg (by omega)]
  | d + 1, k + 1, i, hd, hk => by
    simp only [PAll.auspiceref02_Same.l0]
    rw [if_pos (by omega), if_pos (by omega), if_pos (by omega), if_true, w64 (by omega) (by omega), show ((i : Int) + 1) = ((i + 1 : Nat) : Int) by omega, same_l0 l hl d k (i + 1) (by omega) (by omega)]

theorem same_f (l : List ByteArray) (k : Nat) (hl : l.length < 2 ^ 62) (hk : l.length < k) : PAll.auspiceref02_Same.f k l l = some true := by
  unfold PAll.auspiceref02_Same.f
  rw [if_pos rfl, show (0 : Int) = ((0 : Nat) : Int) from rfl, same_l0 l hl l.length k 0 (by omega) hk]

theorem all_length : ∀ (f : Nat) (s : ByteArray), (allS f s).1.length ≤ f
  | 0, s => by simp [allS]
  | f + 1, s => by
    simp only [allS]
    split
    · have := all_length f (unpackS s).2.1; simp; omega
    · simp

theorem awake_at (k : Nat) (hk : 60 ≤ k) : PAll.auspicelaw02_awake.f k = some true := at_rounds (g := PAll.auspicelaw02_awake.f) PAll.auspicelaw02_awake.mono hk awake_yes

end Go.Proofs.Ytoipjimooiogdaa.Crc
