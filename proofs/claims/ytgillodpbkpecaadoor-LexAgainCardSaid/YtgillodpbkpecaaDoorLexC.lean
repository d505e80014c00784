/- All tokens of a text, as the program finds them: a plain function. -/
import Derived.Test.YtgillodpbkpecaaDoorLexB
namespace Go.Proofs.YtgillodpbkpecaaDoor.Lex
open Go.RowKit Go.Proofs.YtgillodpbkpecaaDoorW.PrintWords Go.Proofs.YtgillodpbkpecaaDoorW.PrintLast Go.Proofs.YtgillodpbkpecaaDoorW.PrintMore Go.Proofs.YtgillodpbkpecaaDoor.Ext Go.Proofs.YtgillodpbkpecaaDoor.PLx

def wordTok (s : ByteArray) (a : Nat) : Option Tok := some (1, (a : Int), s.extract a (a + run isWordC s a), 0, nul)
/-- the token that begins at a place. -/
def scanTok (s : ByteArray) (a : Nat) : Option Tok :=
  if 97 ≤ byteAt s a ∧ byteAt s a ≤ 122 then wordTok s a else if byteAt s a = 45 ∨ (48 ≤ byteAt s a ∧ byteAt s a ≤ 57) then numTok s a
  else if byteAt s a = 39 then textTok s a else if byteAt s a = 35 then bitsTok s a else signTok s a

/-- a token's text is the bytes from its place on, one at least. -/
def Good (s : ByteArray) (a : Nat) (r : Option Tok) : Prop := ∀ t, r = some t → ∃ L, 1 ≤ L ∧ a + L ≤ s.size ∧ t.2.2.1 = s.extract a (a + L) ∧ t.2.1 = (a : Int)

theorem good_num (s : ByteArray) (a : Nat) (ha : a < s.size) : Good s a (numTok s a) := by
  intro t ht
  unfold numTok at ht
  simp only at ht
  have hg : (if byteAt s a = 45 then 1 else 0) ≤ 1 := by split <;> omega
  generalize (if byteAt s a = 45 then 1 else 0) = g at ht hg
  have hle := run_le isDigit s (a + g) (by omega)
  split at ht
  · cases ht
  · rename_i h
    cases ht
    exact ⟨g + run isDigit s (a + g), by omega, by omega, by rw [← Nat.add_assoc], rfl⟩
theorem good_text (s : ByteArray) (a : Nat) (ha : a < s.size) : Good s a (textTok s a) := by
  intro t ht
  unfold textTok at ht
  simp only at ht
  have hle := run_le notEnd s (a + 1) (by omega)
  split at ht
  · cases ht
  · rename_i h
    cases ht
    exact ⟨run notEnd s (a + 1) + 2, by omega, by omega, by rw [← Nat.add_assoc], rfl⟩
theorem good_bits (s : ByteArray) (a : Nat) (ha : a < s.size) : Good s a (bitsTok s a) := by
  intro t ht
  unfold bitsTok at ht
  have hle := run_le isHexC s (a + 1) (by omega)
  split at ht
  · rename_i h
    cases ht
    exact ⟨17, by omega, by omega, rfl, rfl⟩
  · cases ht
theorem good_sign (s : ByteArray) (a : Nat) (ha : a < s.size) : Good s a (signTok s a) := by
  intro t ht
  unfold signTok at ht
  split at ht
  · rename_i h
    cases ht
    have : a + 1 < s.size := by
      simp only [Bool.or_eq_true] at h
      rcases h with (h | h) | h <;> (unfold two at h; simp only [Bool.and_eq_true, decide_eq_true_eq] at h; exact h.1.1)
    exact ⟨2, by omega, by omega, rfl, rfl⟩
  · split at ht
    · cases ht; exact ⟨1, by omega, by omega, rfl, rfl⟩
    · cases ht
theorem isWord_of {c : UInt8} (h : 97 ≤ c.toNat ∧ c.toNat ≤ 122) : isWordC c = true := by
  unfold isWordC isSmall; simp [h]
theorem good_word (s : ByteArray) (a : Nat) (ha : a < s.size) (h : 97 ≤ byteAt s a ∧ byteAt s a ≤ 122) : Good s a (wordTok s a) := by
  intro t ht
  unfold wordTok at ht
  cases ht
  have hle := run_le isWordC s a (by omega)
  rw [byteAt_get s a ha] at h
  have hy := run_yes isWordC s a ha (isWord_of h)
  exact ⟨run isWordC s a, by omega, by omega, rfl, rfl⟩
theorem good_scan (s : ByteArray) (a : Nat) (ha : a < s.size) : Good s a (scanTok s a) := by
  unfold scanTok
  split
  · rename_i h; exact good_word s a ha h
  split
  · exact good_num s a ha
  split
  · exact good_text s a ha
  split
  · exact good_bits s a ha
  · exact good_sign s a ha

def mk34 (t : Tok) : S34 := ⟨t.1, t.2.1, t.2.2.1, t.2.2.2.1, t.2.2.2.2⟩
/-- behind a token, and the blanks behind it. -/
def behind (s : ByteArray) (a : Nat) (t : Tok) : Nat := a + t.2.2.1.size + run isBlank s (a + t.2.2.1.size)

/-- all tokens from a place on, where no blank stands. -/
def scanL (s : ByteArray) : Nat → Nat → List Tok → List Tok × Int × Int
  | 0, _, _ => ([], 0, 0)
  | f + 1, p, acc => if p < s.size then (match scanTok s p with | some t => scanL s f (behind s p t) (acc ++ [t]) | none => ([], (p : Int), 90)) else (acc ++ [(0, (s.size : Int), nul, 0, nul)], 0, 0)
def scanS (s : ByteArray) : List Tok × Int × Int := if 4096 < s.size then ([], 0, 2) else scanL s (s.size + 1) (run isBlank s 0) []

theorem run_blank (s : ByteArray) (hs : s.size < 2 ^ 62) (k a : Nat) (ha : a ≤ s.size) (hk : s.size < k) : lex_run.f k s (a : Int) (⟨#[32, 9, 10, 13]⟩ : ByteArray) = some ((run isBlank s a : Nat) : Int) :=
  run_f isBlank _ (fun c => by rw [← blanks_c]) s hs k a ha hk
theorem run_word (s : ByteArray) (hs : s.size < 2 ^ 62) (k a : Nat) (ha : a ≤ s.size) (hk : s.size < k) :
    lex_run.f k s (a : Int) (⟨#[97, 98, 99, 100, 101, 102, 103, 104, 105, 106, 107, 108, 109, 110, 111, 112, 113, 114, 115, 116, 117, 118, 119, 120, 121, 122, 48, 49, 50, 51, 52, 53, 54, 55, 56, 57, 95]⟩ : ByteArray) = some ((run isWordC s a : Nat) : Int) :=
  run_f isWordC _ (fun c => by rw [← words_c]) s hs k a ha hk

/-- what the program does with what it found at a place. -/
def next (k : Nat) (s : ByteArray) (p : Nat) (acc : List S34) : Option Tok → Option (List S34 × Int × Int)
  | some t => lex_Scan.l0 k s ((behind s p t : Nat) : Int) 0 (acc ++ [mk34 t])
  | none => some ([], (p : Int), 90)

theorem cont (k : Nat) (s : ByteArray) (hs : s.size ≤ 4096) (p : Nat) (hp : p < s.size) (acc : List S34) (hacc : acc.length < 2513169434916) (hk : s.size < k) (r : Option Tok) (hg : Good s p r) :
    (if (out r).2.2.2.2.2 = true then (if acc.length < 2513169434916 then ((lex_run.f k s (wrap64 ((p : Int) + ((out r).2.2.1.size : Int))) (⟨#[32, 9, 10, 13]⟩ : ByteArray)).bind fun t => (lex_Scan.l0 k s (wrap64 ((wrap64 ((p : Int) + ((out r).2.2.1.size : Int))) + t)) 0 (acc ++ [(⟨(out r).1, (out r).2.1, (out r).2.2.1, (out r).2.2.2.1, (out r).2.2.2.2.1⟩ : S34)]))) else (none))
      else (if 90 = 0 then (if acc.length < 2513169434916 then (some ((acc ++ [(⟨0, (s.size : Int), (⟨#[]⟩ : ByteArray), 0, (⟨#[]⟩ : ByteArray)⟩ : S34)]), 0, 0)) else (none)) else (some (([] : List (S34)), (p : Int), 90)))) = next k s p acc r := by
  cases r with
  | none => rfl
  | some t =>
    obtain ⟨L, h1, h2, h3, h4⟩ := hg t rfl
    have hz : t.2.2.1.size = L := by rw [h3, ext_size]; omega
    have e : (out (some t)).2.2.1 = t.2.2.1 := rfl
    rw [if_pos (show (out (some t)).2.2.2.2.2 = true from rfl), if_pos hacc, e, hz, w64 (n := (p : Int) + (L : Int)) (by omega) (by omega), show ((p : Int) + (L : Int)) = ((p + L : Nat) : Int) by omega, run_blank s (by omega) k (p + L) (by omega) hk, Option.bind_some]
    have hle := run_le isBlank s (p + L) h2
    rw [w64 (by omega) (by omega)]
    have hb : behind s p t = p + L + run isBlank s (p + L) := by unfold behind; rw [hz]
    show _ = lex_Scan.l0 k s ((behind s p t : Nat) : Int) 0 (acc ++ [mk34 t])
    rw [hb, show (((p + L : Nat) : Int) + ((run isBlank s (p + L) : Nat) : Int)) = ((p + L + run isBlank s (p + L) : Nat) : Int) by omega]
    rfl

theorem scan_l0 (s : ByteArray) (hs : s.size ≤ 4096) : ∀ (d k p : Nat) (acc : List Tok), s.size - p ≤ d → p ≤ s.size → 3 * d + s.size + 20 < k → acc.length + d + 1 < 2513169434916 →
    lex_Scan.l0 k s (p : Int) 0 (acc.map mk34) = some ((scanL s (d + 1) p acc).1.map mk34, (scanL s (d + 1) p acc).2) := by
  intro d
  induction d with
  | zero =>
    intro k p acc hd hp hk ha
    obtain ⟨k, rfl⟩ : ∃ m, k = m + 1 := ⟨k - 1, by omega⟩
    simp only [lex_Scan.l0, scanL]
    rw [if_neg (by omega), if_pos trivial, if_pos (by rw [List.length_map]; omega), if_neg (by omega), List.map_append]; rfl
  | succ d ih =>
    intro k p acc hd hp hk ha
    by_cases hlt' : s.size ≤ p
    · obtain ⟨k, rfl⟩ : ∃ m, k = m + 1 := ⟨k - 1, by omega⟩
      simp only [lex_Scan.l0]
      rw [if_neg (by omega), if_pos trivial, if_pos (by rw [List.length_map]; omega), scanL, if_neg (by omega), List.map_append]; rfl
    have hlt : p < s.size := by omega
    have hgood := good_scan s p hlt
    have key : ∀ k', 3 * d + s.size + 20 < k' → next k' s p (acc.map mk34) (scanTok s p) = some ((scanL s (d + 1 + 1) p acc).1.map mk34, (scanL s (d + 1 + 1) p acc).2) := by
      intro k' hk'
      rw [scanL, if_pos hlt]
      cases hst : scanTok s p with
      | none => rfl
      | some t =>
        obtain ⟨L, h1, h2, h3, h4⟩ := hgood t hst
        have hz : t.2.2.1.size = L := by rw [h3, ext_size]; omega
        have hle := run_le isBlank s (p + L) h2
        have hb : behind s p t = p + L + run isBlank s (p + L) := by unfold behind; rw [hz]
        have := ih k' (behind s p t) (acc ++ [t]) (by omega) (by omega) hk' (by rw [List.length_append, List.length_singleton]; omega)
        rw [List.map_append] at this
        exact this
    have hml : (acc.map mk34).length < 2513169434916 := by rw [List.length_map]; omega
    obtain ⟨k, rfl⟩ : ∃ m, k = m + 1 + 1 + 1 := ⟨k - 3, by omega⟩
    have hj2 : ∀ b, (byteAt s p = 45 ∨ (48 ≤ byteAt s p ∧ byteAt s p ≤ 57) ↔ b = true) → ¬ (97 ≤ byteAt s p ∧ byteAt s p ≤ 122) →
        lex_Scan.j2 (k + 1) s (p : Int) 0 (acc.map mk34) ((byteAt s p : Nat) : Int) b = some ((scanL s (d + 1 + 1) p acc).1.map mk34, (scanL s (d + 1 + 1) p acc).2) := by
      intro b hb hw
      rw [← key k (by omega)]
      simp only [lex_Scan.j2]
      obtain ⟨m, rfl⟩ : ∃ m, k = m + 1 := ⟨k - 1, by omega⟩
      unfold scanTok at hgood ⊢
      rw [if_neg hw] at hgood ⊢
      by_cases hbt : b = true
      · rw [if_pos hbt, number_f s hs p hlt m (by omega), Option.bind_some, if_pos (hb.2 hbt)]
        rw [if_pos (hb.2 hbt)] at hgood
        exact cont (m + 1) s hs p hlt _ hml (by omega) _ hgood
      · rw [if_neg hbt]
        rw [if_neg (fun h => hbt (hb.1 h))] at hgood ⊢
        by_cases h39 : byteAt s p = 39
        · rw [if_pos (by omega), text_f s hs p hlt, Option.bind_some, if_pos h39]
          rw [if_pos h39] at hgood
          exact cont (m + 1) s hs p hlt _ hml (by omega) _ hgood
        rw [if_neg (c := ((byteAt s p : Nat) : Int) = 39) (by omega)]
        rw [if_neg h39] at hgood ⊢
        by_cases h35 : byteAt s p = 35
        · rw [if_pos (by omega), bits_f s hs p hlt (m + 1) (by omega), Option.bind_some, if_pos h35]
          rw [if_pos h35] at hgood
          exact cont (m + 1) s hs p hlt _ hml (by omega) _ hgood
        rw [if_neg (c := ((byteAt s p : Nat) : Int) = 35) (by omega)]
        rw [if_neg h35] at hgood ⊢
        obtain ⟨m', rfl⟩ : ∃ m', m = m' + 3 := ⟨m - 3, by omega⟩
        rw [sign_f s hs p hlt m', Option.bind_some]
        exact cont (m' + 3 + 1) s hs p hlt _ hml (by omega) _ hgood
    have hj1 : ∀ b, (97 ≤ byteAt s p ∧ byteAt s p ≤ 122 ↔ b = true) → lex_Scan.j1 (k + 1 + 1) s (p : Int) 0 (acc.map mk34) true ((byteAt s p : Nat) : Int) b = some ((scanL s (d + 1 + 1) p acc).1.map mk34, (scanL s (d + 1 + 1) p acc).2) := by
      intro b hb
      simp only [lex_Scan.j1]
      by_cases hbt : b = true
      · have hw := hb.2 hbt
        have hle := run_le isWordC s p (by omega)
        have hgw := good_word s p hlt hw
        rw [if_pos hbt, run_word s (by omega) (k + 1) p (by omega) (by omega), Option.bind_some, if_pos (by omega), w64 (n := (p : Int) + ((run isWordC s p : Nat) : Int)) (by omega) (by omega),
          show ((p : Int) + ((run isWordC s p : Nat) : Int)) = ((p + run isWordC s p : Nat) : Int) by omega, if_pos (by omega), if_pos (by omega), if_pos trivial]
        simp only [Int.toNat_natCast]
        have hc := cont (k + 1) s hs p hlt (acc.map mk34) hml (by omega) (wordTok s p) hgw
        have hst : scanTok s p = wordTok s p := by unfold scanTok; rw [if_pos hw]
        rw [if_pos (show (out (wordTok s p)).2.2.2.2.2 = true from rfl)] at hc
        rw [← key (k + 1) (by omega), hst, ← hc]
        rfl
      · have hw : ¬ (97 ≤ byteAt s p ∧ byteAt s p ≤ 122) := fun h => hbt (hb.1 h)
        rw [if_neg hbt]
        by_cases h45 : byteAt s p = 45
        · rw [if_pos (by omega)]
          exact hj2 true ⟨fun _ => rfl, fun _ => .inl h45⟩ hw
        rw [if_neg (by omega)]
        by_cases h48 : 48 ≤ byteAt s p
        · rw [if_pos (by omega)]
          refine hj2 _ ⟨fun h => decide_eq_true (by omega), fun h => ?_⟩ hw
          have := of_decide_eq_true h
          exact .inr ⟨h48, by omega⟩
        · rw [if_neg (by omega)]
          exact hj2 false ⟨fun h => by omega, fun h => by cases h⟩ hw
    simp only [lex_Scan.l0]
    rw [if_pos (by omega), if_pos (by omega), bt_byteAt]
    by_cases h97 : 97 ≤ byteAt s p
    · rw [if_pos (by omega)]
      refine hj1 _ ⟨fun h => decide_eq_true (by omega), fun h => ?_⟩
      have := of_decide_eq_true h
      exact ⟨h97, by omega⟩
    · rw [if_neg (by omega)]
      exact hj1 false ⟨fun h => absurd h.1 h97, fun h => by cases h⟩

theorem scan_f (s : ByteArray) (k : Nat) (hk : 50000 < k) : lex_Scan.f k s = some ((scanS s).1.map mk34, (scanS s).2) := by
  unfold lex_Scan.f scanS
  by_cases h : 4096 < s.size
  · rw [if_pos (by omega), if_pos h]; rfl
  rw [if_neg (by omega), if_neg h]
  have hle := run_le isBlank s 0 (by omega)
  have h0 := run_blank s (by omega) k 0 (by omega) (by omega)
  rw [Int.natCast_zero] at h0
  rw [h0, Option.bind_some]
  have := scan_l0 s (by omega) s.size k (run isBlank s 0) [] (by omega) (by omega) (by omega) (by simp; omega)
  exact this

end Go.Proofs.YtgillodpbkpecaaDoor.Lex
