/- The document's tokens at a place are the program's. -/
import Derived.Test.YtgillodpbkpecaaDoorLexC
import Derived.Test.YtgillodpbkpecaaDoorPLxx10
namespace Go.Proofs.YtgillodpbkpecaaDoor.Lex
open Go.RowKit Go.Proofs.YtgillodpbkpecaaDoorW.PrintWords Go.Proofs.YtgillodpbkpecaaDoorW.PrintLast Go.Proofs.YtgillodpbkpecaaDoorW.PrintMore Go.Proofs.YtgillodpbkpecaaDoor.Ext Go.Proofs.YtgillodpbkpecaaDoor.PLx

theorem digit_f (c : UInt8) : auspiceref09_digit.f ((c.toNat : Nat) : Int) = some (isDigit c) := by
  unfold auspiceref09_digit.f isDigit
  by_cases h : 48 ≤ c.toNat
  · rw [if_pos (by omega)]; simp [h]; omega
  · rw [if_neg (by omega)]; simp [h]
theorem small_f (c : UInt8) : auspiceref09_small.f ((c.toNat : Nat) : Int) = some (isSmall c) := by
  unfold auspiceref09_small.f isSmall
  by_cases h : 97 ≤ c.toNat
  · rw [if_pos (by omega)]; simp [h]; omega
  · rw [if_neg (by omega)]; simp [h]
theorem blank_f (c : UInt8) : auspiceref09_blank.f ((c.toNat : Nat) : Int) = some (isBlank c) := by
  unfold auspiceref09_blank.f isBlank
  by_cases h1 : c.toNat = 32
  · rw [if_pos (by omega)]; simp [h1]
  rw [if_neg (by omega)]
  by_cases h2 : c.toNat = 9
  · rw [if_pos (by omega)]; simp [h2]
  rw [if_neg (by omega)]
  by_cases h3 : c.toNat = 10
  · rw [if_pos (by omega)]; simp [h3]
  rw [if_neg (by omega)]
  by_cases h4 : c.toNat = 13
  · simp [h4]
  · have : (((c.toNat : Nat) : Int) == 13) = false := beq_eq_false_iff_ne.2 (by omega)
    rw [this]; simp [h1, h2, h3, h4]

theorem byteAt_d (s : ByteArray) (i : Nat) (h : i < s.size) : auspiceref09_digit.f ((byteAt s i : Nat) : Int) = some (isDigit (s.data.toList[i]'(by simpa using h))) := by rw [byteAt_get s i h, digit_f]
theorem decVal_snoc (l : List UInt8) (c : UInt8) : decVal 0 (l ++ [c]) = 10 * decVal 0 l + (c.toNat - 48) := by simp [decVal]
theorem take_snoc (s : ByteArray) (a i : Nat) (h : a + i < s.size) : (s.data.toList.drop a).take (i + 1) = (s.data.toList.drop a).take i ++ [s.data.toList[a + i]'(by simpa using h)] := by
  rw [List.take_succ_eq_append_getElem (by rw [List.length_drop, ← size_list]; omega), List.getElem_drop]

/-! ### numbers -/
theorem rnum_end (s : ByteArray) (hs : s.size ≤ 4096) (a : Nat) (ha : a < s.size) (g : Nat) (hg : g = if byteAt s a = 45 then 1 else 0) (k : Nat) (n : Int) (hn : run isDigit s (a + g) ≤ 18 → n = ((decVal 0 ((s.data.toList.drop (a + g)).take (run isDigit s (a + g))) : Nat) : Int)) :
    auspiceref09_number.j2 (k + 2) s (a : Int) ((a + g : Nat) : Int) ((a + g + run isDigit s (a + g) : Nat) : Int) n false = some (out (numTok s a)) := by
  have hg1 : g ≤ 1 := by rw [hg]; split <;> omega
  have hle := run_le isDigit s (a + g) (by omega)
  have htk := take_run isDigit s (a + g)
  unfold numTok
  simp only [← hg]
  have hlt := decVal_lt ((s.data.toList.drop (a + g)).take (run isDigit s (a + g))) 0 0 htk (by decide)
  have hll : ((s.data.toList.drop (a + g)).take (run isDigit s (a + g))).length ≤ run isDigit s (a + g) := List.length_take_le _ _
  generalize run isDigit s (a + g) = d at hle hn hlt hll ⊢
  have hj3 : ∀ b, auspiceref09_number.j3 (k + 1) s (a : Int) ((a + g : Nat) : Int) ((a + g + d : Nat) : Int) n b = if b = true then some (0, 0, nul, 0, nul, false) else some (2, (a : Int), s.extract a (a + g + d), if g = 1 then wrap64 (-n) else n, nul, true) := by
    intro b
    simp only [auspiceref09_number.j3]
    by_cases hb : b = true
    · rw [if_pos hb, if_pos hb]
    rw [if_neg hb, if_neg hb]
    by_cases hg0 : g = 1
    · rw [if_pos (by omega), if_pos (by omega), if_pos (by omega), if_pos (by omega), if_pos hg0]; simp only [Int.toNat_natCast]
    · rw [if_neg (by omega), if_pos (by omega), if_pos (by omega), if_pos (by omega), if_neg hg0]; simp only [Int.toNat_natCast]
  simp only [auspiceref09_number.j2]
  rw [if_neg (by decide)]
  by_cases h1 : d < 1
  · rw [if_pos (by omega), hj3, if_pos rfl, if_pos (.inl h1)]; rfl
  rw [if_neg (by omega), w64 (by omega) (by omega)]
  by_cases h18 : 18 < d
  · rw [if_pos (by omega), hj3, if_pos rfl, if_pos (.inr (.inl h18))]; rfl
  rw [if_neg (by omega), if_pos (by omega), if_pos (by omega), bt_byteAt]
  have hpow : (10 : Nat) ^ (0 + ((s.data.toList.drop (a + g)).take d).length) ≤ 10 ^ 18 := Nat.pow_le_pow_right (by decide) (by omega)
  have h18'' : (10 : Nat) ^ 18 = 1000000000000000000 := by decide
  have hfin : some (2, (a : Int), s.extract a (a + g + d), (if g = 1 then wrap64 (-n) else n), nul, true) = some (out (some (2, (a : Int), s.extract a (a + g + d), numVal (decide (g = 1)) ((s.data.toList.drop (a + g)).take d), nul))) := by
    have hn' := hn (by omega)
    have : (if g = 1 then wrap64 (-n) else n) = numVal (decide (g = 1)) ((s.data.toList.drop (a + g)).take d) := by
      unfold numVal
      by_cases hg0 : g = 1
      · rw [if_pos hg0, if_pos (by simpa using hg0), hn', w64 (by omega) (by omega)]
      · rw [if_neg hg0, if_neg (by simpa using hg0), hn']
    rw [this]; rfl
  by_cases h48 : byteAt s (a + g) = 48
  · rw [if_pos (by omega), hj3]
    by_cases hm : 1 < d
    · rw [if_pos (decide_eq_true (by omega)), if_pos (.inr (.inr ⟨hm, h48⟩))]; rfl
    · rw [if_neg (by simp; omega), if_neg (c := d < 1 ∨ 18 < d ∨ (1 < d ∧ byteAt s (a + g) = 48)) (by omega)]; exact hfin
  · rw [if_neg (by omega), hj3, if_neg (by decide), if_neg (c := d < 1 ∨ 18 < d ∨ (1 < d ∧ byteAt s (a + g) = 48)) (by omega)]; exact hfin

theorem rnum_l0 (s : ByteArray) (hs : s.size ≤ 4096) (a : Nat) (ha : a < s.size) (g : Nat) (hg : g = if byteAt s a = 45 then 1 else 0) : ∀ (m i k : Nat) (n : Int), i + m = run isDigit s (a + g) → 2 * m + 5 < k →
    (i ≤ 18 → n = ((decVal 0 ((s.data.toList.drop (a + g)).take i) : Nat) : Int)) →
    auspiceref09_number.l0 k s (a : Int) ((a + g : Nat) : Int) ((a + g + i : Nat) : Int) n = some (out (numTok s a)) := by
  have hg1 : g ≤ 1 := by rw [hg]; split <;> omega
  have hle := run_le isDigit s (a + g) (by omega)
  intro m
  induction m with
  | zero =>
    intro i k n hi hk hn
    have hii : i = run isDigit s (a + g) := by omega
    obtain ⟨k, rfl⟩ : ∃ q, k = q + 1 + 2 := ⟨k - 3, by omega⟩
    rw [show k + 1 + 2 = (k + 2) + 1 by omega]
    simp only [auspiceref09_number.l0]
    have hend := rnum_end s hs a ha g hg k n (by rw [← hii]; exact hn)
    rw [← hii] at hend
    by_cases hlt : a + g + i < s.size
    · have hnd : isDigit (s.data.toList[a + g + i]'(by simpa using hlt)) = false := by
        cases hq : isDigit (s.data.toList[a + g + i]'(by simpa using hlt))
        · rfl
        · exfalso
          have hr : ∀ (j b : Nat) (h : b + j < s.size), j = run isDigit s b → isDigit (s.data.toList[b + j]'(by simpa using h)) = false := by
            intro j
            induction j with
            | zero =>
              intro b h hj
              cases hq2 : isDigit (s.data.toList[b + 0]'(by simpa using h))
              · rfl
              · have := run_yes isDigit s b (by omega) (by simpa using hq2); omega
            | succ j ih =>
              intro b h hj
              have hb : b < s.size := by omega
              cases hq2 : isDigit (s.data.toList[b]'(by simpa using hb))
              · rw [run_no isDigit s b hb hq2] at hj; omega
              · rw [run_yes isDigit s b hb hq2] at hj
                have := ih (b + 1) (by omega) (by omega)
                have e : b + 1 + j = b + (j + 1) := by omega
                simp only [e] at this
                exact this
          rw [hr i (a + g) hlt hii] at hq
          cases hq
      rw [if_pos (by omega), if_pos (by omega), bt_byteAt, byteAt_d s _ hlt, Option.bind_some, hnd]
      exact hend
    · rw [if_neg (by omega)]
      exact hend
  | succ m ih =>
    intro i k n hi hk hn
    obtain ⟨hlt, hd⟩ := run_inside isDigit s i (a + g) (by omega)
    obtain ⟨k, rfl⟩ : ∃ q, k = q + 1 + 1 := ⟨k - 2, by omega⟩
    simp only [auspiceref09_number.l0]
    rw [if_pos (by omega), if_pos (by omega), bt_byteAt, byteAt_d s _ hlt, Option.bind_some, hd]
    simp only [auspiceref09_number.j2]
    rw [if_pos trivial, w64 (n := ((a + g + i : Nat) : Int) - ((a + g : Nat) : Int)) (by omega) (by omega), w64 (n := ((a + g + i : Nat) : Int) + 1) (by omega) (by omega), show (((a + g + i : Nat) : Int) + 1) = ((a + g + (i + 1) : Nat) : Int) by omega]
    by_cases h18 : i < 18
    · rw [if_pos (by omega), if_pos (by omega), if_pos (by omega), bt_byteAt]
      refine ih (i + 1) k _ (by omega) (by omega) (fun _ => ?_)
      have hn' := hn (by omega)
      have hb := byteAt_get s _ hlt
      have htk : ∀ c ∈ (s.data.toList.drop (a + g)).take i, isDigit c = true := by
        intro c hc
        exact take_run isDigit s (a + g) c ((List.take_prefix_take_left (by omega : i ≤ run isDigit s (a + g))).subset hc)
      have hl := decVal_lt _ 0 0 htk (by decide)
      have hll : ((s.data.toList.drop (a + g)).take i).length ≤ i := List.length_take_le _ _
      have hpow : (10 : Nat) ^ (0 + ((s.data.toList.drop (a + g)).take i).length) ≤ 10 ^ 17 := Nat.pow_le_pow_right (by decide) (by omega)
      have h17 : (10 : Nat) ^ 17 = 100000000000000000 := by decide
      rw [take_snoc s (a + g) i hlt, decVal_snoc]
      simp only [isDigit, Bool.and_eq_true, decide_eq_true_eq] at hd
      rw [← hb] at hd ⊢
      generalize decVal 0 ((s.data.toList.drop (a + g)).take i) = v at hn' hl
      rw [hn', w64 (n := ((byteAt s (a + g + i) : Nat) : Int)) (by omega) (by omega), w64 (n := 10 * (v : Int)) (by omega) (by omega), w64 (n := 10 * (v : Int) + ((byteAt s (a + g + i) : Nat) : Int)) (by omega) (by omega), w64 (by omega) (by omega)]
      omega
    · rw [if_neg (by omega)]
      exact ih (i + 1) k _ (by omega) (by omega) (fun h => by omega)

theorem rnumber_f (s : ByteArray) (hs : s.size ≤ 4096) (a : Nat) (ha : a < s.size) (k : Nat) (hk : 2 * s.size + 10 < k) : auspiceref09_number.f k s (a : Int) = some (out (numTok s a)) := by
  obtain ⟨k, rfl⟩ : ∃ q, k = q + 1 := ⟨k - 1, by omega⟩
  unfold auspiceref09_number.f
  rw [if_pos (by omega), if_pos (by omega), bt_byteAt]
  by_cases h : byteAt s a = 45
  · rw [if_pos (by omega), w64 (by omega) (by omega), show ((a : Int) + 1) = ((a + 1 : Nat) : Int) by omega]
    simp only [auspiceref09_number.j0]
    have hle := run_le isDigit s (a + 1) (by omega)
    exact rnum_l0 s hs a ha 1 (by rw [if_pos h]) (run isDigit s (a + 1)) 0 k 0 (by omega) (by omega) (fun _ => rfl)
  · rw [if_neg (by omega)]
    simp only [auspiceref09_number.j0]
    have hle := run_le isDigit s (a + 0) (by omega)
    exact rnum_l0 s hs a ha 0 (by rw [if_neg h]) (run isDigit s (a + 0)) 0 k 0 (by omega) (by omega) (fun _ => rfl)

end Go.Proofs.YtgillodpbkpecaaDoor.Lex
