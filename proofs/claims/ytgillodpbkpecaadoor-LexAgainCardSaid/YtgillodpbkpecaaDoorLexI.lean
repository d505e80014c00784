/- Blanks ahead of a text move its tokens: over the plain function of LexC. -/
import Derived.Test.YtgillodpbkpecaaDoorLexH
namespace Go.Proofs.YtgillodpbkpecaaDoor.Lex
open Go.RowKit Go.Proofs.YtgillodpbkpecaaDoorW.PrintWords Go.Proofs.YtgillodpbkpecaaDoorW.PrintLast Go.Proofs.YtgillodpbkpecaaDoorW.PrintMore Go.Proofs.YtgillodpbkpecaaDoor.Ext Go.Proofs.YtgillodpbkpecaaDoor.PLx

theorem app_list (m s : ByteArray) : (m ++ s).data.toList = m.data.toList ++ s.data.toList := by simp [ByteArray.data_append]
theorem app_size (m s : ByteArray) : (m ++ s).size = m.size + s.size := ByteArray.size_append
theorem drop_app (m s : ByteArray) (a : Nat) : (m ++ s).data.toList.drop (m.size + a) = s.data.toList.drop a := by
  rw [app_list, size_list m, List.drop_append]; simp
theorem run_app (p : UInt8 → Bool) (m s : ByteArray) (a : Nat) : run p (m ++ s) (m.size + a) = run p s a := by unfold run; rw [drop_app]
theorem byteAt_head (s : ByteArray) (a : Nat) : byteAt s a = match s.data.toList.drop a with | [] => 0 | c :: _ => c.toNat := by
  by_cases h : a < s.size
  · rw [byteAt_get s a h, List.drop_eq_getElem_cons (l := s.data.toList) (i := a) (by simpa using h)]
  · rw [List.drop_of_length_le (by rw [← size_list]; omega)]
    unfold byteAt bt
    rw [dif_neg (by simpa using h)]; rfl
theorem byteAt_app (m s : ByteArray) (a : Nat) : byteAt (m ++ s) (m.size + a) = byteAt s a := by rw [byteAt_head, byteAt_head, drop_app]
theorem ext_app (m s : ByteArray) (a b : Nat) : (m ++ s).extract (m.size + a) (m.size + b) = s.extract a b := by
  apply ext_list
  rw [ext_data, ext_data, List.drop_take, List.drop_take, drop_app, Nat.add_sub_add_left]

/-- a token, moved. -/
def sh (n : Nat) (t : Tok) : Tok := (t.1, t.2.1 + (n : Int), t.2.2)
theorem tok_eq {k k' a a' : Int} {x x' : ByteArray} {v v' : Int} {y y' : ByteArray} (h1 : k = k') (h2 : a = a') (h3 : x = x') (h4 : v = v') (h5 : y = y') : (some (k, a, x, v, y) : Option Tok) = some (k', a', x', v', y') := by
  subst h1 h2 h3 h4 h5; rfl
theorem at_app (m : ByteArray) (a : Nat) : ((m.size + a : Nat) : Int) = (a : Int) + (m.size : Int) := by omega

theorem word_app (m s : ByteArray) (a : Nat) : wordTok (m ++ s) (m.size + a) = (wordTok s a).map (sh m.size) := by
  unfold wordTok
  rw [run_app, Nat.add_assoc, ext_app]
  exact tok_eq rfl (at_app m a) rfl rfl rfl
theorem num_app (m s : ByteArray) (a : Nat) : numTok (m ++ s) (m.size + a) = (numTok s a).map (sh m.size) := by
  unfold numTok
  simp only
  rw [byteAt_app]
  generalize (if byteAt s a = 45 then 1 else 0) = g
  rw [Nat.add_assoc m.size a g, run_app, byteAt_app, drop_app]
  split
  · rfl
  · rw [Nat.add_assoc m.size (a + g), ext_app]
    exact tok_eq rfl (at_app m a) rfl rfl rfl
theorem text_app (m s : ByteArray) (a : Nat) : textTok (m ++ s) (m.size + a) = (textTok s a).map (sh m.size) := by
  unfold textTok
  simp only
  rw [Nat.add_assoc m.size a 1, run_app, Nat.add_assoc m.size (a + 1), byteAt_app, app_size]
  by_cases h : a + 1 + run notEnd s (a + 1) = s.size ∨ 64 < run notEnd s (a + 1) ∨ byteAt s (a + 1 + run notEnd s (a + 1)) ≠ 39
  · rw [if_pos h, if_pos (by omega)]; rfl
  · rw [if_neg h, if_neg (by omega), ext_app, Nat.add_assoc m.size a, Nat.add_assoc m.size (a + run notEnd s (a + 1)), ext_app]
    exact tok_eq rfl (at_app m a) rfl rfl rfl
theorem bits_app (m s : ByteArray) (a : Nat) : bitsTok (m ++ s) (m.size + a) = (bitsTok s a).map (sh m.size) := by
  unfold bitsTok
  rw [Nat.add_assoc m.size a 1, run_app, drop_app, Nat.add_assoc m.size a 17, ext_app]
  split
  · exact tok_eq rfl (at_app m a) rfl rfl rfl
  · rfl
theorem two_app (m s : ByteArray) (a x : Nat) : two (m ++ s) (m.size + a) x = two s a x := by
  unfold two
  rw [Nat.add_assoc m.size a 1, byteAt_app, byteAt_app, app_size]
  have : decide (m.size + (a + 1) < m.size + s.size) = decide (a + 1 < s.size) := by congr 1; exact propext (by omega)
  rw [this]
theorem sign_app (m s : ByteArray) (a : Nat) : signTok (m ++ s) (m.size + a) = (signTok s a).map (sh m.size) := by
  unfold signTok
  rw [two_app, two_app, two_app, byteAt_app, Nat.add_assoc m.size a 2, Nat.add_assoc m.size a 1, ext_app, ext_app]
  split
  · exact tok_eq rfl (at_app m a) rfl rfl rfl
  split
  · exact tok_eq rfl (at_app m a) rfl rfl rfl
  · rfl
theorem scanTok_app (m s : ByteArray) (a : Nat) : scanTok (m ++ s) (m.size + a) = (scanTok s a).map (sh m.size) := by
  unfold scanTok
  rw [byteAt_app, word_app, num_app, text_app, bits_app, sign_app]
  split
  · rfl
  split
  · rfl
  split
  · rfl
  split <;> rfl
theorem behind_app (m s : ByteArray) (p : Nat) (t : Tok) : behind (m ++ s) (m.size + p) (sh m.size t) = m.size + behind s p t := by
  unfold behind
  show m.size + p + t.2.2.1.size + run isBlank (m ++ s) (m.size + p + t.2.2.1.size) = _
  rw [Nat.add_assoc m.size p, run_app, Nat.add_assoc]

theorem scanL_app (m s : ByteArray) : ∀ (f g p : Nat) (acc : List Tok), p ≤ s.size → s.size - p < f → s.size - p < g →
    (scanL (m ++ s) g (m.size + p) (acc.map (sh m.size))).1 = (scanL s f p acc).1.map (sh m.size) ∧ (scanL (m ++ s) g (m.size + p) (acc.map (sh m.size))).2.2 = (scanL s f p acc).2.2 ∧
      ((scanL s f p acc).2.2 ≠ 0 → (scanL (m ++ s) g (m.size + p) (acc.map (sh m.size))).2.1 = (scanL s f p acc).2.1 + (m.size : Int) ∧ 0 ≤ (scanL s f p acc).2.1 ∧ (scanL s f p acc).2.1 ≤ (s.size : Int))
  | 0, _, _, _, _, h, _ => absurd h (Nat.not_lt_zero _)
  | f + 1, 0, _, _, _, _, h => absurd h (Nat.not_lt_zero _)
  | f + 1, g + 1, p, acc, hp, h1, h2 => by
    rw [scanL, scanL, app_size]
    by_cases hlt : p < s.size
    · rw [if_pos hlt, if_pos (by omega), scanTok_app]
      have hgood := good_scan s p hlt
      cases hst : scanTok s p with
      | none => exact ⟨rfl, rfl, fun _ => ⟨at_app m p, by show 0 ≤ (p : Int); omega, by show (p : Int) ≤ s.size; omega⟩⟩
      | some t =>
        obtain ⟨L, g1, g2, g3, g4⟩ := hgood t hst
        have hz : t.2.2.1.size = L := by rw [g3, ext_size]; omega
        have hle := run_le isBlank s (p + L) g2
        have hb : behind s p t = p + L + run isBlank s (p + L) := by unfold behind; rw [hz]
        have ih := scanL_app m s f g (behind s p t) (acc ++ [t]) (by omega) (by omega) (by omega)
        rw [List.map_append] at ih
        simp only [Option.map_some, behind_app]
        exact ih
    · rw [if_neg hlt, if_neg (by omega)]
      refine ⟨?_, rfl, fun h => absurd rfl h⟩
      rw [List.map_append]
      show acc.map (sh m.size) ++ [(0, ((m.size + s.size : Nat) : Int), nul, 0, nul)] = acc.map (sh m.size) ++ [(0, (s.size : Int) + (m.size : Int), nul, 0, nul)]
      rw [at_app]

theorem run_blanks (m s : ByteArray) (hm : ∀ c ∈ m.data.toList, isBlank c = true) : run isBlank (m ++ s) 0 = m.size + run isBlank s 0 := by
  unfold run runL
  rw [app_list, List.drop_zero, List.drop_zero, List.takeWhile_append_of_pos hm, List.length_append, size_list]

theorem scanS_app (m s : ByteArray) (hm : ∀ c ∈ m.data.toList, isBlank c = true) (hs : m.size + s.size ≤ 4096) :
    (scanS (m ++ s)).1 = (scanS s).1.map (sh m.size) ∧ (scanS (m ++ s)).2.2 = (scanS s).2.2 ∧ ((scanS s).2.2 ≠ 0 → (scanS (m ++ s)).2.1 = (scanS s).2.1 + (m.size : Int) ∧ 0 ≤ (scanS s).2.1 ∧ (scanS s).2.1 ≤ (s.size : Int)) := by
  unfold scanS
  rw [if_neg (by rw [app_size]; omega), if_neg (by omega), run_blanks m s hm]
  have hle := run_le isBlank s 0 (by omega)
  exact scanL_app m s (s.size + 1) ((m ++ s).size + 1) (run isBlank s 0) [] (by omega) (by omega) (by rw [app_size]; omega)

theorem chain_at {s : ByteArray} {a : Nat} {l : List Tok} (h : Chain s a l) : ∀ t ∈ l, 0 ≤ t.2.1 ∧ t.2.1 ≤ (s.size : Int) := by
  induction h with
  | last a h1 h2 => intro t ht; rw [List.mem_singleton.1 ht]; exact ⟨by show (0 : Int) ≤ (s.size : Int); omega, Int.le_refl _⟩
  | more a p L t l h1 h2 h3 h4 h5 h6 h8 h7 ih =>
    intro u hu
    rcases List.mem_cons.1 hu with rfl | hu
    · rw [h5]; omega
    · exact ih u hu

end Go.Proofs.YtgillodpbkpecaaDoor.Lex
