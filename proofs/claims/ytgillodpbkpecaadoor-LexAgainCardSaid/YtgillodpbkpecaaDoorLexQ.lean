/- Two tokens' texts with a blank between are the two tokens. -/
import Derived.Test.YtgillodpbkpecaaDoorLexP
namespace Go.Proofs.YtgillodpbkpecaaDoor.Lex
open Go.RowKit Go.Proofs.YtgillodpbkpecaaDoorW.PrintWords Go.Proofs.YtgillodpbkpecaaDoorW.PrintLast Go.Proofs.YtgillodpbkpecaaDoorW.PrintMore Go.Proofs.YtgillodpbkpecaaDoor.Ext Go.Proofs.YtgillodpbkpecaaDoor.PLx

theorem cut_app (s : ByteArray) (b : Nat) (_ : b ≤ s.size) : s.extract 0 b ++ s.extract b s.size = s := by
  apply ext_list
  rw [app_list, ext_data, ext_data, List.drop_zero, size_list, List.take_length, List.take_append_drop]
theorem cut_size (s : ByteArray) (b : Nat) (hb : b ≤ s.size) : (s.extract 0 b).size = b := by rw [ext_size]; omega
theorem byteAt_cut (s : ByteArray) (b k : Nat) (hb : b ≤ s.size) (hk : k < b) : byteAt (s.extract 0 b) k = byteAt s k := by
  have := byteAt_left (s.extract 0 b) (s.extract b s.size) k (by rw [cut_size s b hb]; exact hk)
  rw [cut_app s b hb] at this; exact this.symm
theorem byteAt_new (s u : ByteArray) (b k : Nat) (hb : b ≤ s.size) (hk : k < b) : byteAt (s.extract 0 b ++ u) k = byteAt s k := by
  rw [byteAt_left _ _ _ (by rw [cut_size s b hb]; exact hk), byteAt_cut s b k hb hk]
theorem ext_new (s u : ByteArray) (b i j : Nat) (hb : b ≤ s.size) (hj : j ≤ b) : (s.extract 0 b ++ u).extract i j = s.extract i j := by
  rw [ext_left _ _ _ _ (by rw [cut_size s b hb]; exact hj)]
  apply ext_list
  rw [ext_data, ext_data, ext_data, List.drop_zero, List.take_take, Nat.min_eq_left hj]
theorem take_ext (s : ByteArray) (a d : Nat) : (s.data.toList.drop a).take d = (s.extract a (a + d)).data.toList := by
  rw [ext_data, List.drop_take, Nat.add_sub_cancel_left]
theorem run_new (p : UInt8 → Bool) (hp : p 32 = false) (s u : ByteArray) (hu : Free u) (k : Nat) (hk : k ≤ s.size) : run p (s.extract 0 (k + run p s k) ++ u) k = run p s k := by
  have hle := run_le p s k hk
  have hz := cut_size s (k + run p s k) hle
  rw [run_through p _ u k (by omega) (by
    intro c hc
    rw [ext_data, List.drop_zero, List.drop_take, Nat.add_sub_cancel_left] at hc
    exact take_run p s k c hc), free_run hu p hp]
  omega

theorem word_new (s u : ByteArray) (hu : Free u) : wordTok (s.extract 0 (run isWordC s 0) ++ u) 0 = wordTok s 0 := by
  have hle := run_le isWordC s 0 (Nat.zero_le _)
  have h := run_new isWordC (by decide) s u hu 0 (Nat.zero_le _)
  rw [Nat.zero_add] at h hle
  unfold wordTok
  rw [h, Nat.zero_add, ext_new s u _ 0 _ hle (Nat.le_refl _)]
theorem num_new (s u : ByteArray) (hu : Free u) (h0 : 0 < s.size) (t : Tok) (h : numTok s 0 = some t) : numTok (t.2.2.1 ++ u) 0 = some t := by
  unfold numTok at h
  simp only [Nat.zero_add] at h
  have hg1 : (if byteAt s 0 = 45 then 1 else 0) ≤ 1 := by split <;> omega
  have hle := run_le isDigit s (if byteAt s 0 = 45 then 1 else 0) (by omega)
  have hnew := run_new isDigit (by decide) s u hu (if byteAt s 0 = 45 then 1 else 0) (by omega)
  by_cases hc : run isDigit s (if byteAt s 0 = 45 then 1 else 0) < 1 ∨ 18 < run isDigit s (if byteAt s 0 = 45 then 1 else 0) ∨ (1 < run isDigit s (if byteAt s 0 = 45 then 1 else 0) ∧ byteAt s (if byteAt s 0 = 45 then 1 else 0) = 48)
  · rw [if_pos hc] at h; cases h
  rw [if_neg hc] at h
  cases h
  show numTok (s.extract 0 ((if byteAt s 0 = 45 then 1 else 0) + run isDigit s (if byteAt s 0 = 45 then 1 else 0)) ++ u) 0 = _
  unfold numTok
  simp only [Nat.zero_add]
  rw [byteAt_new s u _ 0 hle (by omega)]
  generalize (if byteAt s 0 = 45 then 1 else 0) = g at *
  rw [hnew, byteAt_new s u _ g hle (by omega), if_neg hc, ext_new s u _ 0 _ hle (Nat.le_refl _), take_ext, take_ext, ext_new s u _ g _ hle (Nat.le_refl _)]
theorem text_new (s u : ByteArray) (t : Tok) (h0 : 0 < s.size) (h : textTok s 0 = some t) : textTok (t.2.2.1 ++ u) 0 = some t := by
  unfold textTok at h
  simp only [Nat.zero_add] at h
  have hle := run_le notEnd s 1 (by omega)
  by_cases hc : 1 + run notEnd s 1 = s.size ∨ 64 < run notEnd s 1 ∨ byteAt s (1 + run notEnd s 1) ≠ 39
  · rw [if_pos hc] at h; cases h
  rw [if_neg hc] at h
  cases h
  have hb : run notEnd s 1 + 2 ≤ s.size := by omega
  have h1 : run notEnd (s.extract 0 (run notEnd s 1 + 2)) 1 = run notEnd s 1 := run_add notEnd s 1 _ hb (by omega)
  have h2 : run notEnd (s.extract 0 (run notEnd s 1 + 2) ++ u) 1 = run notEnd s 1 := by rw [run_within _ _ _ _ (by rw [h1, cut_size s _ hb]; omega), h1]
  show textTok (s.extract 0 (run notEnd s 1 + 2) ++ u) 0 = _
  unfold textTok
  simp only [Nat.zero_add]
  rw [h2, byteAt_new s u _ _ hb (by omega), app_size, cut_size s _ hb, if_neg (by omega), ext_new s u _ 0 _ hb (Nat.le_refl _), ext_new s u _ 1 _ hb (by omega)]
theorem bits_new (s u : ByteArray) (hu : Free u) (h0 : 0 < s.size) (t : Tok) (h : bitsTok s 0 = some t) : bitsTok (t.2.2.1 ++ u) 0 = some t := by
  unfold bitsTok at h
  simp only [Nat.zero_add] at h
  have hle := run_le isHexC s 1 (by omega)
  have hnew := run_new isHexC (by decide) s u hu 1 (by omega)
  by_cases hc : run isHexC s 1 = 16
  · rw [if_pos hc] at h
    cases h
    rw [hc] at hnew hle
    show bitsTok (s.extract 0 17 ++ u) 0 = _
    unfold bitsTok
    simp only [Nat.zero_add]
    rw [hnew, if_pos rfl, ext_new s u 17 0 17 hle (Nat.le_refl _), take_ext, take_ext, ext_new s u 17 1 17 hle (Nat.le_refl _)]
  · rw [if_neg hc] at h; cases h
theorem two_one (s u : ByteArray) (hu : Free u) (h1 : 1 ≤ s.size) (x : Nat) : two (s.extract 0 1 ++ u) 0 x = false := by
  unfold two
  have hz := cut_size s 1 h1
  have : ¬ (0 + 1 < (s.extract 0 1 ++ u).size ∧ byteAt (s.extract 0 1 ++ u) (0 + 1) = 61) := by
    rintro ⟨h, hb⟩
    have e := byteAt_app (s.extract 0 1) u 0
    rw [hz] at e
    rw [Nat.zero_add, show (1 : Nat) = 1 + 0 from rfl, e, byteAt_head, List.drop_zero] at hb
    rcases hu with rfl | ⟨v, hv⟩
    · rw [app_size, hz] at h; exact absurd h (by decide)
    · rw [hv] at hb; exact absurd hb (show ¬ ((32 : UInt8).toNat = 61) by decide)
  cases h3 : (decide (0 + 1 < (s.extract 0 1 ++ u).size) && decide (byteAt (s.extract 0 1 ++ u) 0 = x) && decide (byteAt (s.extract 0 1 ++ u) (0 + 1) = 61))
  · rfl
  · simp only [Bool.and_eq_true, decide_eq_true_eq] at h3
    exact absurd ⟨h3.1.1, h3.2⟩ this
theorem sign_new (s u : ByteArray) (hu : Free u) (h0 : 0 < s.size) (t : Tok) (h : signTok s 0 = some t) : signTok (t.2.2.1 ++ u) 0 = some t := by
  unfold signTok at h
  simp only [Nat.zero_add] at h
  by_cases hc : (two s 0 33 || two s 0 60 || two s 0 62) = true
  · rw [if_pos hc] at h
    cases h
    have h2 : 2 ≤ s.size := by
      simp only [Bool.or_eq_true] at hc
      rcases hc with (h | h) | h <;> (unfold two at h; simp only [Bool.and_eq_true, decide_eq_true_eq] at h; omega)
    have e : ∀ x, two (s.extract 0 2 ++ u) 0 x = two s 0 x := by
      intro x
      unfold two
      rw [byteAt_new s u 2 0 h2 (by decide), byteAt_new s u 2 (0 + 1) h2 (by decide), app_size, cut_size s 2 h2, decide_eq_true (by omega : 0 + 1 < 2 + u.size), decide_eq_true (by omega : 0 + 1 < s.size)]
    show signTok (s.extract 0 2 ++ u) 0 = _
    unfold signTok
    simp only [Nat.zero_add]
    rw [e, e, e, if_pos hc, ext_new s u 2 0 2 h2 (Nat.le_refl _)]
  · rw [if_neg hc] at h
    by_cases hs : singles.contains (UInt8.ofNat (byteAt s 0)) = true
    · rw [if_pos hs] at h
      cases h
      show signTok (s.extract 0 1 ++ u) 0 = _
      unfold signTok
      simp only [Nat.zero_add]
      rw [two_one s u hu h0, two_one s u hu h0, two_one s u hu h0, if_neg (by decide), byteAt_new s u 1 0 h0 (by decide), if_pos hs, ext_new s u 1 0 1 h0 (Nat.le_refl _)]
    · rw [if_neg hs] at h; cases h

theorem scanTok_new (s u : ByteArray) (hu : Free u) (h0 : 0 < s.size) (t : Tok) (h : scanTok s 0 = some t) : scanTok (t.2.2.1 ++ u) 0 = some t := by
  obtain ⟨L, h1, h2, h3, h4⟩ := good_scan s 0 h0 t h
  rw [Nat.zero_add] at h2 h3
  have hb : byteAt (t.2.2.1 ++ u) 0 = byteAt s 0 := by rw [h3, byteAt_new s u L 0 h2 (by omega)]
  unfold scanTok at h ⊢
  rw [hb]
  split at h
  · rename_i hc
    rw [if_pos hc]
    have e : t.2.2.1 = s.extract 0 (run isWordC s 0) := by unfold wordTok at h; cases h; rw [Nat.zero_add]
    rw [e, word_new s u hu]; exact h
  rename_i hc; rw [if_neg hc]
  split at h
  · rename_i hd; rw [if_pos hd]; exact num_new s u hu h0 t h
  rename_i hd; rw [if_neg hd]
  split at h
  · rename_i he; rw [if_pos he]; exact text_new s u t h0 h
  rename_i he; rw [if_neg he]
  split at h
  · rename_i hf; rw [if_pos hf]; exact bits_new s u hu h0 t h
  · rename_i hf; rw [if_neg hf]; exact sign_new s u hu h0 t h

end Go.Proofs.YtgillodpbkpecaaDoor.Lex
