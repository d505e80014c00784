/- All tokens as the document has them are those of the program: the law. -/
import Derived.Test.YtgillodpbkpecaaDoorLexD
namespace Go.Proofs.YtgillodpbkpecaaDoor.Lex
open Go.RowKit Go.Proofs.YtgillodpbkpecaaDoorW.PrintWords Go.Proofs.YtgillodpbkpecaaDoorW.PrintLast Go.Proofs.YtgillodpbkpecaaDoorW.PrintMore Go.Proofs.YtgillodpbkpecaaDoor.Ext Go.Proofs.YtgillodpbkpecaaDoor.PLx

theorem run_stop (p : UInt8 → Bool) (s : ByteArray) : ∀ (j b : Nat) (h : b + j < s.size), j = run p s b → p (s.data.toList[b + j]'(by simpa using h)) = false
  | 0, b, h, hj => by
    cases hq2 : p (s.data.toList[b + 0]'(by simpa using h))
    · rfl
    · have := run_yes p s b (by omega) (by simpa using hq2); omega
  | j + 1, b, h, hj => by
    have hb : b < s.size := by omega
    cases hq2 : p (s.data.toList[b]'(by simpa using hb))
    · rw [run_no p s b hb hq2] at hj; omega
    · rw [run_yes p s b hb hq2] at hj
      have := run_stop p s j (b + 1) (by omega) (by omega)
      have e : b + 1 + j = b + (j + 1) := by omega
      simp only [e] at this
      exact this

/-! ### texts -/
theorem rtext_l0 (s : ByteArray) (hs : s.size ≤ 4096) (a : Nat) (ha : a < s.size) : ∀ (m i k : Nat), i + m = run notEnd s (a + 1) → m + 1 < k →
    auspiceref09_text.l0 k s (a : Int) ((a + 1 + i : Nat) : Int) = some (out (textTok s a)) := by
  have hle := run_le notEnd s (a + 1) (by omega)
  intro m
  induction m with
  | zero =>
    intro i k hi hk
    obtain ⟨k, rfl⟩ : ∃ q, k = q + 1 := ⟨k - 1, by omega⟩
    have hii : i = run notEnd s (a + 1) := by omega
    simp only [auspiceref09_text.l0]
    unfold textTok
    simp only [← hii]
    by_cases hlt : a + 1 + i < s.size
    · have hst := run_stop notEnd s i (a + 1) hlt hii
      have hb := byteAt_get s _ hlt
      rw [if_pos (by omega), if_pos (by omega), bt_byteAt]
      have hen : isEnd (s.data.toList[a + 1 + i]'(by simpa using hlt)) = true := by
        unfold notEnd at hst; simpa using hst
      unfold isEnd at hen
      rw [← hb] at hen
      simp only [Bool.or_eq_true, decide_eq_true_eq] at hen
      by_cases h39 : byteAt s (a + 1 + i) = 39
      · rw [if_pos (by omega), if_neg (by omega), w64 (n := ((a + 1 + i : Nat) : Int) - (a : Int)) (by omega) (by omega), w64 (n := ((a + 1 + i : Nat) : Int) - (a : Int) - 1) (by omega) (by omega)]
        by_cases h64 : 64 < i
        · rw [if_pos (by omega), if_pos (.inr (.inl h64))]; rfl
        · rw [if_neg (by omega), if_neg (c := a + 1 + i = s.size ∨ 64 < i ∨ byteAt s (a + 1 + i) ≠ 39) (by omega), w64 (n := ((a + 1 + i : Nat) : Int) + 1) (by omega) (by omega), w64 (n := (a : Int) + 1) (by omega) (by omega),
            if_pos (by omega), if_pos (by omega), if_pos (by omega), if_pos (by omega), if_pos (by omega), if_pos (by omega)]
          rw [show (((a + 1 + i : Nat) : Int) + 1) = ((a + i + 2 : Nat) : Int) by omega, show ((a : Int) + 1) = ((a + 1 : Nat) : Int) by omega]
          simp only [Int.toNat_natCast]
          rfl
      · rw [if_neg (c := ((byteAt s (a + 1 + i) : Nat) : Int) = 39) (by omega), if_pos (c := a + 1 + i = s.size ∨ 64 < i ∨ byteAt s (a + 1 + i) ≠ 39) (.inr (.inr h39))]
        by_cases h10 : byteAt s (a + 1 + i) = 10
        · rw [if_pos (by omega), if_neg (by omega)]; rfl
        · rw [if_neg (by omega), if_pos (by omega), if_neg (by omega)]; rfl
    · rw [if_neg (by omega), if_pos (by omega), if_pos (.inl (by omega))]; rfl
  | succ m ih =>
    intro i k hi hk
    obtain ⟨k, rfl⟩ : ∃ q, k = q + 1 := ⟨k - 1, by omega⟩
    obtain ⟨hlt, hd⟩ := run_inside notEnd s i (a + 1) (by omega)
    have hb := byteAt_get s _ hlt
    have hen : isEnd (s.data.toList[a + 1 + i]'(by simpa using hlt)) = false := by
      unfold notEnd at hd; simpa using hd
    unfold isEnd at hen
    rw [← hb] at hen
    simp only [Bool.or_eq_false_iff, decide_eq_false_iff_not] at hen
    simp only [auspiceref09_text.l0]
    rw [if_pos (by omega), if_pos (by omega), bt_byteAt, if_neg (by omega), if_neg (by omega), if_neg (by omega), w64 (by omega) (by omega), show (((a + 1 + i : Nat) : Int) + 1) = ((a + 1 + (i + 1) : Nat) : Int) by omega]
    exact ih (i + 1) k (by omega) (by omega)

theorem rtext_f (s : ByteArray) (hs : s.size ≤ 4096) (a : Nat) (ha : a < s.size) (k : Nat) (hk : s.size + 2 < k) : auspiceref09_text.f k s (a : Int) = some (out (textTok s a)) := by
  unfold auspiceref09_text.f
  have hle := run_le notEnd s (a + 1) (by omega)
  rw [w64 (by omega) (by omega), show ((a : Int) + 1) = ((a + 1 + 0 : Nat) : Int) by omega]
  exact rtext_l0 s hs a ha (run notEnd s (a + 1)) 0 k (by omega) (by omega)

/-! ### bits -/
theorem hexVal_lt : ∀ (l : List UInt8) (acc m : Nat), (∀ c ∈ l, isHexC c = true) → acc < 16 ^ m → Idx.hexVal acc l < 16 ^ (m + l.length)
  | [], acc, m, _, h => by simpa [Idx.hexVal] using h
  | c :: l, acc, m, hd, h => by
    have hc := hd c (by simp)
    rw [hex_dig] at hc
    have hc2 := Idx.hexDig_lt (of_decide_eq_true hc)
    have := hexVal_lt l (16 * acc + Idx.hexDig c) (m + 1) (fun d hd' => hd d (by simp [hd'])) (by rw [Nat.pow_succ]; omega)
    rw [List.length_cons, show m + (l.length + 1) = m + 1 + l.length by omega]
    exact this
theorem hexVal_snoc (l : List UInt8) (c : UInt8) : Idx.hexVal 0 (l ++ [c]) = 16 * Idx.hexVal 0 l + Idx.hexDig c := by simp [Idx.hexVal]
theorem wu64 (n : Int) : IntKind.u64.wrap n = n % 18446744073709551616 := by simp [IntKind.wrap, IntKind.bits, IntKind.signed]

theorem rbits_l0 (s : ByteArray) (hs : s.size ≤ 4096) (a : Nat) (ha : a < s.size) : ∀ (m i k : Nat) (n : Int), i + m = run isHexC s (a + 1) → 2 * m + 3 < k → n = ((Idx.hexVal 0 ((s.data.toList.drop (a + 1)).take i) : Nat) : Int) % 18446744073709551616 →
    auspiceref09_bits.l0 k s (a : Int) ((a + 1 + i : Nat) : Int) n = some (out (bitsTok s a)) := by
  have hle := run_le isHexC s (a + 1) (by omega)
  intro m
  induction m with
  | zero =>
    intro i k n hi hk hn
    obtain ⟨k, rfl⟩ : ∃ q, k = q + 1 + 1 := ⟨k - 2, by omega⟩
    have hii : i = run isHexC s (a + 1) := by omega
    have hend : auspiceref09_bits.j1 (k + 1) s (a : Int) ((a + 1 + i : Nat) : Int) n false = some (out (bitsTok s a)) := by
      have htk := take_run isHexC s (a + 1)
      rw [← hii] at htk
      simp only [auspiceref09_bits.j1]
      unfold bitsTok
      rw [← hii, if_neg (by decide), w64 (by omega) (by omega)]
      by_cases h16 : i = 16
      · subst h16
        have hlt := hexVal_lt _ 0 0 htk (by decide)
        have hll : ((s.data.toList.drop (a + 1)).take 16).length ≤ 16 := List.length_take_le _ _
        have hpow : (16 : Nat) ^ (0 + ((s.data.toList.drop (a + 1)).take 16).length) ≤ 16 ^ 16 := Nat.pow_le_pow_right (by decide) (by omega)
        have h1616 : (16 : Nat) ^ 16 = 18446744073709551616 := by decide
        generalize Idx.hexVal 0 ((s.data.toList.drop (a + 1)).take 16) = v at hn hlt ⊢
        have hnv : n = (v : Int) := by omega
        rw [if_pos (by omega), if_pos (show (16 : Nat) = 16 from rfl), if_pos (by omega), if_pos (by omega), if_pos (by omega), hnv, show a + 17 = a + 1 + 16 by omega]
        simp only [Int.toNat_natCast]
        rfl
      · rw [if_neg (by omega), if_neg h16]; rfl
    simp only [auspiceref09_bits.l0]
    by_cases hlt : a + 1 + i < s.size
    · have hst := run_stop isHexC s i (a + 1) hlt hii
      have hb := byteAt_get s _ hlt
      unfold isHexC at hst
      rw [Bool.or_eq_false_iff] at hst
      rw [if_pos (by omega), if_pos (by omega), bt_byteAt, byteAt_d s _ hlt, Option.bind_some, hst.1, if_neg (by decide)]
      have h2 := hst.2
      rw [← hb] at h2
      by_cases h97 : 97 ≤ byteAt s (a + 1 + i)
      · rw [if_pos (by omega)]
        have : decide (((byteAt s (a + 1 + i) : Nat) : Int) ≤ 102) = false := by
          simp [h97] at h2
          exact decide_eq_false (by omega)
        rw [this]; exact hend
      · rw [if_neg (by omega)]; exact hend
    · rw [if_neg (by omega)]; exact hend
  | succ m ih =>
    intro i k n hi hk hn
    obtain ⟨k, rfl⟩ : ∃ q, k = q + 1 + 1 := ⟨k - 2, by omega⟩
    obtain ⟨hlt, hd⟩ := run_inside isHexC s i (a + 1) (by omega)
    have hb := byteAt_get s _ hlt
    have hdig : Idx.hexDig (s.data.toList[a + 1 + i]'(by simpa using hlt)) = if byteAt s (a + 1 + i) ≤ 57 then byteAt s (a + 1 + i) - 48 else byteAt s (a + 1 + i) - 87 := by
      have hd2 := hd
      unfold isHexC isDigit at hd2
      rw [← hb] at hd2
      unfold Idx.hexDig
      rw [← hb]
      simp only [Bool.or_eq_true, Bool.and_eq_true, decide_eq_true_eq] at hd2
      by_cases h : byteAt s (a + 1 + i) ≤ 57
      · rw [if_pos h, if_pos (by omega)]
      · rw [if_neg h, if_neg (by omega), if_pos (by omega)]
    have hstep : auspiceref09_bits.j1 (k + 1) s (a : Int) ((a + 1 + i : Nat) : Int) n true = some (out (bitsTok s a)) := by
      simp only [auspiceref09_bits.j1]
      have hc : 48 ≤ byteAt s (a + 1 + i) ∧ byteAt s (a + 1 + i) ≤ 102 ∧ (byteAt s (a + 1 + i) ≤ 57 ∨ 97 ≤ byteAt s (a + 1 + i)) := by
        have hd2 := hd
        unfold isHexC isDigit at hd2
        rw [← hb] at hd2
        simp only [Bool.or_eq_true, Bool.and_eq_true, decide_eq_true_eq] at hd2
        omega
      rw [if_pos trivial, if_pos (by omega), if_pos (by omega), bt_byteAt, w64 (n := ((a + 1 + i : Nat) : Int) + 1) (by omega) (by omega), show (((a + 1 + i : Nat) : Int) + 1) = ((a + 1 + (i + 1) : Nat) : Int) by omega]
      simp only [wu64]
      have hval : ∀ q : Int, q = ((16 * Idx.hexVal 0 ((s.data.toList.drop (a + 1)).take i) + Idx.hexDig (s.data.toList[a + 1 + i]'(by simpa using hlt)) : Nat) : Int) % 18446744073709551616 →
          auspiceref09_bits.l0 k s (a : Int) ((a + 1 + (i + 1) : Nat) : Int) q = some (out (bitsTok s a)) := by
        intro q hq
        refine ih (i + 1) k q (by omega) (by omega) ?_
        rw [take_snoc s (a + 1) i hlt, hexVal_snoc]; exact hq
      rw [hdig] at hval
      generalize Idx.hexVal 0 ((s.data.toList.drop (a + 1)).take i) = v at hn hval
      by_cases h57 : byteAt s (a + 1 + i) ≤ 57
      · rw [if_pos h57] at hval
        rw [if_neg (by omega)]
        exact hval _ (by omega)
      · rw [if_neg h57] at hval
        rw [if_pos (by omega)]
        exact hval _ (by omega)
    simp only [auspiceref09_bits.l0]
    rw [if_pos (by omega), if_pos (by omega), bt_byteAt, byteAt_d s _ hlt, Option.bind_some]
    cases hdg : isDigit (s.data.toList[a + 1 + i]'(by simpa using hlt))
    · rw [if_neg (by decide)]
      unfold isHexC at hd
      rw [hdg, Bool.false_or, ← hb] at hd
      simp only [Bool.and_eq_true, decide_eq_true_eq] at hd
      rw [if_pos (by omega), decide_eq_true (by omega : ((byteAt s (a + 1 + i) : Nat) : Int) ≤ 102)]
      exact hstep
    · rw [if_pos rfl]; exact hstep

theorem rbits_f (s : ByteArray) (hs : s.size ≤ 4096) (a : Nat) (ha : a < s.size) (k : Nat) (hk : 2 * s.size + 10 < k) : auspiceref09_bits.f k s (a : Int) = some (out (bitsTok s a)) := by
  unfold auspiceref09_bits.f
  have hle := run_le isHexC s (a + 1) (by omega)
  rw [w64 (by omega) (by omega), show ((a : Int) + 1) = ((a + 1 + 0 : Nat) : Int) by omega]
  exact rbits_l0 s hs a ha (run isHexC s (a + 1)) 0 k 0 (by omega) (by omega) rfl

/-! ### signs -/
theorem rsingle_l0 (c : Nat) : ∀ (d i k : Nat), i + d = 17 → d < k → auspiceref09_single.l0 k (c : Int) (⟨#[40, 41, 91, 93, 123, 125, 44, 59, 124, 42, 43, 63, 33, 61, 60, 62, 47]⟩ : ByteArray) (i : Int) = some ((singles.drop i).any fun x => decide (x.toNat = c))
  | 0, i, k + 1, hi, _ => by
    have : i = 17 := by omega
    subst this
    simp only [auspiceref09_single.l0]
    rw [if_neg (by decide)]; rfl
  | d + 1, i, k + 1, hi, hk => by
    have hlt : i < (⟨#[40, 41, 91, 93, 123, 125, 44, 59, 124, 42, 43, 63, 33, 61, 60, 62, 47]⟩ : ByteArray).size := by
      show i < 17
      omega
    have hl2 : i < singles.length := by show i < 17; omega
    simp only [auspiceref09_single.l0]
    rw [if_pos (by omega), if_pos (by omega), show bt (⟨#[40, 41, 91, 93, 123, 125, 44, 59, 124, 42, 43, 63, 33, 61, 60, 62, 47]⟩ : ByteArray) (i : Int) = (((singles[i]'hl2).toNat : Nat) : Int) from bt_get _ i hlt, List.drop_eq_getElem_cons hl2, List.any_cons]
    by_cases h : (singles[i]).toNat = c
    · rw [if_pos (by omega), decide_eq_true h]; rfl
    · rw [if_neg (by omega), decide_eq_false h, Bool.false_or, w64 (by omega) (by omega), show ((i : Int) + 1) = ((i + 1 : Nat) : Int) by omega]
      exact rsingle_l0 c d (i + 1) k (by omega) (by omega)
theorem rsingle_f (c k : Nat) (hc : c < 256) (hk : 18 < k) : auspiceref09_single.f k (c : Int) = some (singles.contains (UInt8.ofNat c)) := by
  unfold auspiceref09_single.f
  rw [show (0 : Int) = ((0 : Nat) : Int) from rfl, rsingle_l0 c 17 0 k (by omega) (by omega)]
  congr 1
  rw [List.drop_zero, Bool.eq_iff_iff]
  simp only [List.any_eq_true, decide_eq_true_eq, List.contains_iff_mem]
  constructor
  · rintro ⟨x, hx, rfl⟩; simpa using hx
  · intro h; exact ⟨_, h, by simp; omega⟩

/-- the document's answer at a place: the program's token, or none. -/
def Same (r : Int × Int × ByteArray × Int × ByteArray × Bool) (t : Option Tok) : Prop := match t with | some t => r = out (some t) | none => r.2.2.2.2.2 = false
theorem same_out (t : Option Tok) : Same (out t) t := by cases t <;> rfl

theorem rword_l0 (s : ByteArray) (hs : s.size ≤ 4096) (a : Nat) (ha : a < s.size) : ∀ (m i k : Nat), i + m = run isWordC s a → m + 1 < k →
    auspiceref09_One.l0 k s (a : Int) ((a + i : Nat) : Int) = some (out (wordTok s a)) := by
  have hle := run_le isWordC s a (by omega)
  intro m
  induction m with
  | zero =>
    intro i k hi hk
    obtain ⟨k, rfl⟩ : ∃ q, k = q + 1 := ⟨k - 1, by omega⟩
    have hii : i = run isWordC s a := by omega
    have hfin : (if 0 ≤ (a : Int) then (if (a : Int) ≤ ((a + i : Nat) : Int) then (if ((a + i : Nat) : Int) ≤ (s.size : Int) then (some ((1 : Int), (a : Int), s.extract (a : Int).toNat ((a + i : Nat) : Int).toNat, (0 : Int), (⟨#[]⟩ : ByteArray), true)) else (none)) else (none)) else (none)) = some (out (wordTok s a)) := by
      rw [if_pos (by omega), if_pos (by omega), if_pos (by omega)]
      unfold wordTok
      rw [← hii]
      simp only [Int.toNat_natCast]
      rfl
    simp only [auspiceref09_One.l0]
    by_cases hlt : a + i < s.size
    · have hst := run_stop isWordC s i a hlt hii
      have hb := byteAt_get s _ hlt
      unfold isWordC at hst
      simp only [Bool.or_eq_false_iff, decide_eq_false_iff_not] at hst
      obtain ⟨⟨h1, h2⟩, h3⟩ := hst
      rw [← hb] at h3
      rw [if_pos (by omega), if_pos (by omega), bt_byteAt, hb, small_f, Option.bind_some, h1, if_neg (by decide), digit_f, Option.bind_some, h2, if_neg (by decide), ← hb, if_neg (by omega)]
      exact hfin
    · rw [if_neg (by omega)]; exact hfin
  | succ m ih =>
    intro i k hi hk
    obtain ⟨k, rfl⟩ : ∃ q, k = q + 1 := ⟨k - 1, by omega⟩
    obtain ⟨hlt, hd⟩ := run_inside isWordC s i a (by omega)
    have hb := byteAt_get s _ hlt
    have hgo := ih (i + 1) k (by omega) (by omega)
    simp only [auspiceref09_One.l0]
    rw [if_pos (by omega), if_pos (by omega), bt_byteAt, hb, small_f, Option.bind_some, w64 (by omega) (by omega), show (((a + i : Nat) : Int) + 1) = ((a + (i + 1) : Nat) : Int) by omega]
    unfold isWordC at hd
    cases h1 : isSmall (s.data.toList[a + i]'(by simpa using hlt))
    · rw [if_neg (by decide), digit_f, Option.bind_some]
      cases h2 : isDigit (s.data.toList[a + i]'(by simpa using hlt))
      · rw [if_neg (by decide)]
        rw [h1, h2] at hd
        simp only [Bool.or_false, Bool.false_or, decide_eq_true_eq] at hd
        rw [if_pos (by omega)]; exact hgo
      · rw [if_pos rfl]; exact hgo
    · rw [if_pos rfl]; exact hgo

theorem isSmall_iff {s : ByteArray} {a : Nat} (ha : a < s.size) : isSmall (s.data.toList[a]'(by simpa using ha)) = true ↔ (97 ≤ byteAt s a ∧ byteAt s a ≤ 122) := by
  rw [byteAt_get s a ha]; unfold isSmall; simp
theorem isDigit_iff {s : ByteArray} {a : Nat} (ha : a < s.size) : isDigit (s.data.toList[a]'(by simpa using ha)) = true ↔ (48 ≤ byteAt s a ∧ byteAt s a ≤ 57) := by
  rw [byteAt_get s a ha]; unfold isDigit; simp
theorem byteAt_lt (s : ByteArray) (i : Nat) : byteAt s i < 256 := by
  have := bt_range s (i : Int); unfold byteAt; omega

/-- the sign at a place, as the document has it. -/
theorem rsign (s : ByteArray) (hs : s.size ≤ 4096) (a : Nat) (ha : a < s.size) (k : Nat) (hk : 18 < k) (h39 : byteAt s a ≠ 39) (h35 : byteAt s a ≠ 35) :
    ∃ r, auspiceref09_One.j1 (k + 1) s (a : Int) ((byteAt s a : Nat) : Int) false = some r ∧ Same r (signTok s a) := by
  simp only [auspiceref09_One.j1]
  rw [if_neg (by decide), if_neg (by omega), if_neg (by omega), w64 (n := (a : Int) + 1) (by omega) (by omega), w64 (n := (a : Int) + 2) (by omega) (by omega), show ((a : Int) + 1) = ((a + 1 : Nat) : Int) by omega, show ((a : Int) + 2) = ((a + 2 : Nat) : Int) by omega, rsingle_f _ k (byteAt_lt s a) hk]
  rw [Option.bind_some]
  have hone : ∀ P : Prop, (two s a 33 || two s a 60 || two s a 62) = false → ∃ r, (if 0 ≤ (a : Int) then (if (a : Int) ≤ ((a + 1 : Nat) : Int) then (if ((a + 1 : Nat) : Int) ≤ (s.size : Int) then (some ((4 : Int), (a : Int), s.extract (a : Int).toNat ((a + 1 : Nat) : Int).toNat, (0 : Int), (⟨#[]⟩ : ByteArray), singles.contains (UInt8.ofNat (byteAt s a)))) else (none)) else (none)) else (none)) = some r ∧ Same r (signTok s a) := by
    intro _ hn
    rw [if_pos (by omega), if_pos (by omega), if_pos (by omega)]
    refine ⟨_, rfl, ?_⟩
    unfold signTok
    rw [hn, if_neg (by decide)]
    simp only [Int.toNat_natCast]
    cases hq : singles.contains (UInt8.ofNat (byteAt s a))
    · rw [if_neg (by decide)]; rfl
    · rw [if_pos rfl]; rfl
  have htwo : ∀ x : Nat, two s a x = true → (x = 33 ∨ x = 60 ∨ x = 62) → ∃ r, (if 0 ≤ (a : Int) then (if (a : Int) ≤ ((a + 2 : Nat) : Int) then (if ((a + 2 : Nat) : Int) ≤ (s.size : Int) then (some ((4 : Int), (a : Int), s.extract (a : Int).toNat ((a + 2 : Nat) : Int).toNat, (0 : Int), (⟨#[]⟩ : ByteArray), true)) else (none)) else (none)) else (none)) = some r ∧ Same r (signTok s a) := by
    intro x hx hxx
    have hlt : a + 1 < s.size := by unfold two at hx; simp only [Bool.and_eq_true, decide_eq_true_eq] at hx; exact hx.1.1
    rw [if_pos (by omega), if_pos (by omega), if_pos (by omega)]
    refine ⟨_, rfl, ?_⟩
    unfold signTok
    have : (two s a 33 || two s a 60 || two s a 62) = true := by rcases hxx with rfl | rfl | rfl <;> simp [hx]
    rw [if_pos this]
    simp only [Int.toNat_natCast]
    rfl
  by_cases hlt : a + 1 < s.size
  · rw [if_pos (by omega), if_pos (by omega), bt_byteAt s (a + 1)]
    by_cases h61 : byteAt s (a + 1) = 61
    · rw [if_pos (by omega)]
      have ht : ∀ x, byteAt s a = x → two s a x = true := fun x hx => by unfold two; simp [hlt, hx, h61]
      by_cases h33 : byteAt s a = 33
      · rw [if_pos (by omega)]; exact htwo 33 (ht 33 h33) (by omega)
      rw [if_neg (by omega)]
      by_cases h60 : byteAt s a = 60
      · rw [if_pos (by omega)]; exact htwo 60 (ht 60 h60) (by omega)
      rw [if_neg (by omega)]
      by_cases h62 : byteAt s a = 62
      · rw [if_pos (by omega)]; exact htwo 62 (ht 62 h62) (by omega)
      rw [if_neg (by omega)]
      exact hone True (by unfold two; simp [h33, h60, h62])
    · rw [if_neg (by omega)]
      exact hone True (by unfold two; simp [h61])
  · rw [if_neg (by omega)]
    exact hone True (by unfold two; simp [hlt])

theorem rOne_f (s : ByteArray) (hs : s.size ≤ 4096) (a : Nat) (ha : a < s.size) (k : Nat) (hk : 2 * s.size + 30 < k) : ∃ r, auspiceref09_One.f k s (a : Int) = some r ∧ Same r (scanTok s a) := by
  obtain ⟨k, rfl⟩ : ∃ q, k = q + 1 := ⟨k - 1, by omega⟩
  unfold auspiceref09_One.f
  have hb := byteAt_get s a ha
  rw [if_pos (by omega), if_pos (by omega), bt_byteAt]
  have hsm : auspiceref09_small.f ((byteAt s a : Nat) : Int) = some (isSmall (s.data.toList[a]'(by simpa using ha))) := by rw [hb, small_f]
  rw [hsm, Option.bind_some]
  have h1 := isSmall_iff ha
  have h2 := isDigit_iff ha
  unfold scanTok
  cases hs1 : isSmall (s.data.toList[a]'(by simpa using ha))
  · rw [hs1] at h1
    have hw : ¬ (97 ≤ byteAt s a ∧ byteAt s a ≤ 122) := fun h => by have := h1.2 h; cases this
    rw [if_neg (by decide), if_neg hw]
    have hnumb : ∀ (h : byteAt s a = 45 ∨ (48 ≤ byteAt s a ∧ byteAt s a ≤ 57)), ∃ r, auspiceref09_One.j1 (k + 1) s (a : Int) ((byteAt s a : Nat) : Int) true = some r ∧ Same r (if byteAt s a = 45 ∨ (48 ≤ byteAt s a ∧ byteAt s a ≤ 57) then numTok s a else if byteAt s a = 39 then textTok s a else if byteAt s a = 35 then bitsTok s a else signTok s a) := by
      intro h
      rw [if_pos h]
      simp only [auspiceref09_One.j1]
      rw [if_pos trivial, rnumber_f s hs a ha k (by omega), Option.bind_some]
      exact ⟨_, rfl, same_out _⟩
    by_cases h45 : byteAt s a = 45
    · rw [if_pos (by omega)]; exact hnumb (.inl h45)
    · rw [if_neg (by omega), byteAt_d s a ha, Option.bind_some]
      cases hd1 : isDigit (s.data.toList[a]'(by simpa using ha))
      · rw [hd1] at h2
        have hnd : ¬ (48 ≤ byteAt s a ∧ byteAt s a ≤ 57) := fun h => by have := h2.2 h; cases this
        have hnn : ¬ (byteAt s a = 45 ∨ (48 ≤ byteAt s a ∧ byteAt s a ≤ 57)) := by omega
        rw [if_neg hnn]
        by_cases h39 : byteAt s a = 39
        · rw [if_pos h39]
          simp only [auspiceref09_One.j1]
          rw [if_neg (by decide), if_pos (by omega), rtext_f s hs a ha k (by omega), Option.bind_some]
          exact ⟨_, rfl, same_out _⟩
        rw [if_neg h39]
        by_cases h35 : byteAt s a = 35
        · rw [if_pos h35]
          simp only [auspiceref09_One.j1]
          rw [if_neg (by decide), if_neg (by omega), if_pos (by omega), rbits_f s hs a ha k (by omega), Option.bind_some]
          exact ⟨_, rfl, same_out _⟩
        rw [if_neg h35]
        exact rsign s hs a ha k (by omega) h39 h35
      · rw [hd1] at h2
        exact hnumb (.inr (h2.1 rfl))
  · rw [hs1] at h1
    have hw := h1.1 rfl
    have hle := run_le isWordC s a (by omega)
    rw [if_pos rfl, if_pos hw]
    have := rword_l0 s hs a ha (run isWordC s a) 0 (k + 1) (by omega) (by omega)
    exact ⟨_, this, same_out _⟩

def mk41 (t : Tok) : S41 := ⟨t.1, t.2.1, t.2.2.1, t.2.2.2.1, t.2.2.2.2⟩

theorem rscan_l0 (s : ByteArray) (hs : s.size ≤ 4096) : ∀ (e d k p : Nat) (acc : List Tok), s.size - p ≤ e → p ≤ s.size → s.size - (p + run isBlank s p) ≤ d → e + 2 * s.size + 40 < k → acc.length + d + 1 < 2513169434916 →
    auspiceref09_Scan.l0 k s (acc.map mk41) (p : Int) = some ((scanL s (d + 1) (p + run isBlank s p) acc).1.map mk41, (scanL s (d + 1) (p + run isBlank s p) acc).2) := by
  intro e
  induction e with
  | zero =>
    intro d k p acc he hp hd hk ha
    obtain ⟨k, rfl⟩ : ∃ q, k = q + 1 := ⟨k - 1, by omega⟩
    have hle := run_le isBlank s p hp
    simp only [auspiceref09_Scan.l0]
    rw [if_neg (by omega), if_pos (by rw [List.length_map]; omega), scanL, if_neg (by omega), List.map_append]; rfl
  | succ e ih =>
    intro d k p acc he hp hd hk ha
    obtain ⟨k, rfl⟩ : ∃ q, k = q + 1 := ⟨k - 1, by omega⟩
    have hle := run_le isBlank s p hp
    by_cases hlt' : s.size ≤ p
    · simp only [auspiceref09_Scan.l0]
      rw [if_neg (by omega), if_pos (by rw [List.length_map]; omega), scanL, if_neg (by omega), List.map_append]; rfl
    have hlt : p < s.size := by omega
    have hb := byteAt_get s p hlt
    simp only [auspiceref09_Scan.l0]
    have hbl : auspiceref09_blank.f ((byteAt s p : Nat) : Int) = some (isBlank (s.data.toList[p]'(by simpa using hlt))) := by rw [hb, blank_f]
    rw [if_pos (by omega), if_pos (by omega), bt_byteAt, hbl, Option.bind_some]
    cases hq : isBlank (s.data.toList[p]'(by simpa using hlt))
    · have hr := run_no isBlank s p hlt hq
      simp only [hr, Nat.add_zero] at hd ⊢
      obtain ⟨r, hr1, hr2⟩ := rOne_f s hs p hlt k (by omega)
      rw [if_neg (by decide), hr1, Option.bind_some, scanL, if_pos hlt]
      have hgood := good_scan s p hlt
      cases hst : scanTok s p with
      | none =>
        rw [hst] at hr2
        have hr3 : r.2.2.2.2.2 = false := hr2
        rw [hr3, if_neg (by decide)]; rfl
      | some t =>
        rw [hst] at hr2
        have hr3 : r = out (some t) := hr2
        subst hr3
        obtain ⟨L, h1, h2, h3, h4⟩ := hgood t hst
        have hz : t.2.2.1.size = L := by rw [h3, ext_size]; omega
        have hle2 := run_le isBlank s (p + L) h2
        obtain ⟨d, rfl⟩ : ∃ q, d = q + 1 := ⟨d - 1, by omega⟩
        have hb2 : behind s p t = p + L + run isBlank s (p + L) := by unfold behind; rw [hz]
        have := ih d k (p + L) (acc ++ [t]) (by omega) h2 (by omega) (by omega) (by rw [List.length_append, List.length_singleton]; omega)
        rw [List.map_append] at this
        have e2 : (out (some t)).2.2.1 = t.2.2.1 := rfl
        rw [if_pos (show (out (some t)).2.2.2.2.2 = true from rfl), if_pos (by rw [List.length_map]; omega), e2, hz, w64 (by omega) (by omega), show ((p : Int) + (L : Int)) = ((p + L : Nat) : Int) by omega]
        simp only [hb2]
        exact this
    · have hr := run_yes isBlank s p hlt hq
      rw [if_pos rfl, w64 (by omega) (by omega), show ((p : Int) + 1) = ((p + 1 : Nat) : Int) by omega, hr, show p + (run isBlank s (p + 1) + 1) = p + 1 + run isBlank s (p + 1) by omega]
      exact ih d k (p + 1) acc (by omega) (by omega) (by omega) (by omega) ha

theorem rscan_f (s : ByteArray) (k : Nat) (hk : 50000 < k) : auspiceref09_Scan.f k s = some ((scanS s).1.map mk41, (scanS s).2) := by
  unfold auspiceref09_Scan.f scanS
  by_cases h : 4096 < s.size
  · rw [if_pos (by omega), if_pos h]; rfl
  rw [if_neg (by omega), if_neg h]
  have := rscan_l0 s (by omega) s.size s.size k 0 [] (by omega) (by omega) (by omega) (by omega) (by simp; omega)
  rw [Nat.zero_add] at this
  exact this

theorem rd34 (l : List S34) (i : Nat) (h : i < l.length) : rd_T34 l (i : Int) = l[i] := by unfold rd_T34; simp [List.getD, h]
theorem refs_l0 (l : List Tok) (hl : l.length < 2513169434916) : ∀ (d i k : Nat), i + d = l.length → d < k → auspicelaw09_refs.l0 k (l.map mk34) ((l.take i).map mk41) (i : Int) = some (l.map mk41)
  | 0, i, k + 1, hi, _ => by
    simp only [auspicelaw09_refs.l0]
    rw [if_neg (by rw [List.length_map]; omega), List.take_of_length_le (by omega)]
  | d + 1, i, k + 1, hi, hk => by
    have hlt : i < l.length := by omega
    simp only [auspicelaw09_refs.l0]
    rw [if_pos (by rw [List.length_map]; omega), if_pos (by omega), if_pos (by rw [List.length_map, List.length_take]; omega), rd34 _ i (by rw [List.length_map]; exact hlt), w64 (by omega) (by omega), show ((i : Int) + 1) = ((i + 1 : Nat) : Int) by omega]
    have := refs_l0 l hl d (i + 1) k (by omega) (by omega)
    rw [List.take_succ_eq_append_getElem hlt, List.map_append] at this
    simp only [List.getElem_map]
    exact this
theorem refs_f (l : List Tok) (hl : l.length < 2513169434916) (k : Nat) (hk : l.length < k) : auspicelaw09_refs.f k (l.map mk34) = some (l.map mk41) := by
  unfold auspicelaw09_refs.f
  exact refs_l0 l hl l.length 0 k (by omega) hk

theorem same_l0 (l : List S41) (hl : l.length < 2 ^ 62) : ∀ (d i k : Nat), i + d = l.length → d < k → auspiceref09_Same.l0 k l l (i : Int) = some true
  | 0, i, k + 1, hi, _ => by
    simp only [auspiceref09_Same.l0]; rw [if_neg (by omega)]
  | d + 1, i, k + 1, hi, hk => by
    simp only [auspiceref09_Same.l0]
    rw [if_pos (by omega), if_pos (by omega), if_pos (by omega), if_neg (by simp), w64 (by omega) (by omega), show ((i : Int) + 1) = ((i + 1 : Nat) : Int) by omega]
    exact same_l0 l hl d (i + 1) k (by omega) (by omega)
theorem same_f (l : List S41) (hl : l.length < 2 ^ 62) (k : Nat) (hk : l.length < k) : auspiceref09_Same.f k l l = some true := by
  unfold auspiceref09_Same.f
  rw [if_pos rfl]
  exact same_l0 l hl l.length 0 k (by omega) hk

theorem scanL_length (s : ByteArray) : ∀ (f p : Nat) (acc : List Tok), (scanL s f p acc).1.length ≤ acc.length + f
  | 0, _, _ => by simp [scanL]
  | f + 1, p, acc => by
    simp only [scanL]
    split
    · split
      · rename_i t _
        have := scanL_length s f (behind s p t) (acc ++ [t])
        rw [List.length_append, List.length_singleton] at this; omega
      · simp
    · rw [List.length_append, List.length_singleton]; omega
theorem scanS_length (s : ByteArray) : (scanS s).1.length ≤ 5000 := by
  unfold scanS
  split
  · simp
  · have := scanL_length s (s.size + 1) (run isBlank s 0) []
    simp only [List.length_nil] at this; omega

set_option maxRecDepth 100000 in
theorem awake_yes : auspicelaw09_awake.f 120 = some true := by decide +kernel
theorem awake_at (k : Nat) (hk : 120 ≤ k) : auspicelaw09_awake.f k = some true := at_rounds (g := auspicelaw09_awake.f) auspicelaw09_awake.mono hk awake_yes

theorem scans : auspicelaw09_LexScans.Pure := by
  intro s _
  refine ⟨60000, ?_⟩
  have hl := scanS_length s
  unfold auspicelaw09_LexScans.f
  rw [scan_f s 60000 (by omega), Option.bind_some, rscan_f s 60000 (by omega), Option.bind_some, awake_at 60000 (by omega), Option.bind_some, if_pos rfl,
    refs_f _ (by omega) 60000 (by omega), Option.bind_some, same_f _ (by rw [List.length_map]; omega) 60000 (by rw [List.length_map]; omega), Option.bind_some, if_pos rfl, if_pos rfl]
  simp

end Go.Proofs.YtgillodpbkpecaaDoor.Lex
