/- The tokens of a text stand in order: what the laws LexCovers, LexMoves, LexAgain share. -/
import Derived.Test.YtgillodpbkpecaaDoorLexC
import Derived.Test.YtgillodpbkpecaaDoorPLxxA
namespace Go.Proofs.YtgillodpbkpecaaDoor.Lex
open Go.RowKit Go.Proofs.YtgillodpbkpecaaDoorW.PrintWords Go.Proofs.YtgillodpbkpecaaDoorW.PrintLast Go.Proofs.YtgillodpbkpecaaDoorW.PrintMore Go.Proofs.YtgillodpbkpecaaDoor.Ext Go.Proofs.YtgillodpbkpecaaDoor.PLx

theorem kind_scan (s : ByteArray) (a : Nat) (t : Tok) (h : scanTok s a = some t) : t.1 ≠ 0 := by
  have h1 : (1 : Int) ≠ 0 := by decide
  have h2 : (2 : Int) ≠ 0 := by decide
  have h3 : (3 : Int) ≠ 0 := by decide
  have h4 : (4 : Int) ≠ 0 := by decide
  have h5 : (5 : Int) ≠ 0 := by decide
  unfold scanTok at h
  split at h
  · unfold wordTok at h; cases h; exact h1
  split at h
  · unfold numTok at h
    simp only at h
    generalize (if byteAt s a = 45 then 1 else 0) = g at h
    split at h
    · cases h
    · cases h; exact h2
  split at h
  · unfold textTok at h
    simp only at h
    split at h
    · cases h
    · cases h; exact h3
  split at h
  · unfold bitsTok at h
    split at h
    · cases h; exact h5
    · cases h
  · unfold signTok at h
    split at h
    · cases h; exact h4
    split at h
    · cases h; exact h4
    · cases h

def endTok (s : ByteArray) : Tok := (0, (s.size : Int), nul, 0, nul)
/-- a text's tokens from a place on. -/
inductive Chain (s : ByteArray) : Nat → List Tok → Prop
  | last (a : Nat) (h1 : a ≤ s.size) (h2 : a + run isBlank s a = s.size) : Chain s a [endTok s]
  | more (a p L : Nat) (t : Tok) (l : List Tok) (h1 : p = a + run isBlank s a) (h2 : 1 ≤ L) (h3 : p + L ≤ s.size) (h4 : t.1 ≠ 0) (h5 : t.2.1 = (p : Int)) (h6 : t.2.2.1 = s.extract p (p + L)) (h8 : scanTok s p = some t) (h7 : Chain s (p + L) l) : Chain s a (t :: l)

theorem scanL_chain (s : ByteArray) : ∀ (f p a : Nat) (acc : List Tok), p = a + run isBlank s a → a ≤ s.size → s.size - p < f →
    ((scanL s f p acc).2.2 = 0 → ∃ r, (scanL s f p acc).1 = acc ++ r ∧ Chain s a r) ∧ ((scanL s f p acc).2.2 ≠ 0 → (scanL s f p acc).1 = [])
  | 0, p, a, acc, _, _, hf => absurd hf (Nat.not_lt_zero _)
  | f + 1, p, a, acc, hp, ha, hf => by
    have hle := run_le isBlank s a ha
    rw [scanL]
    by_cases hlt : p < s.size
    · rw [if_pos hlt]
      have hgood := good_scan s p hlt
      have hk := kind_scan s p
      cases hst : scanTok s p with
      | none => exact ⟨fun h => absurd h (show (90 : Int) ≠ 0 by decide), fun _ => rfl⟩
      | some t =>
        obtain ⟨L, h1, h2, h3, h4⟩ := hgood t hst
        have hz : t.2.2.1.size = L := by rw [h3, ext_size]; omega
        have hb : behind s p t = p + L + run isBlank s (p + L) := by unfold behind; rw [hz]
        obtain ⟨i1, i2⟩ := scanL_chain s f (behind s p t) (p + L) (acc ++ [t]) hb h2 (by omega)
        refine ⟨fun h => ?_, i2⟩
        obtain ⟨r, hr1, hr2⟩ := i1 h
        exact ⟨t :: r, by rw [hr1, List.append_assoc]; rfl, .more a p L t r hp h1 h2 (hk t hst) h4 h3 hst hr2⟩
    · rw [if_neg hlt]
      exact ⟨fun _ => ⟨_, rfl, .last a ha (by omega)⟩, fun h => absurd rfl h⟩
theorem scanS_chain (s : ByteArray) : ((scanS s).2.2 = 0 → Chain s 0 (scanS s).1 ∧ s.size ≤ 4096) ∧ ((scanS s).2.2 ≠ 0 → (scanS s).1 = []) := by
  unfold scanS
  by_cases h : 4096 < s.size
  · rw [if_pos h]; exact ⟨fun h => absurd h (show (2 : Int) ≠ 0 by decide), fun _ => rfl⟩
  rw [if_neg h]
  obtain ⟨i1, i2⟩ := scanL_chain s (s.size + 1) (run isBlank s 0) 0 [] (by omega) (by omega) (by omega)
  refine ⟨fun h0 => ?_, i2⟩
  obtain ⟨r, hr1, hr2⟩ := i1 h0
  rw [hr1]
  exact ⟨hr2, by omega⟩
theorem chain_length {s : ByteArray} {a : Nat} {l : List Tok} (h : Chain s a l) : l.length ≤ s.size - a + 1 := by
  induction h with
  | last a h1 h2 => simp
  | more a p L t l h1 h2 h3 h4 h5 h6 h8 h7 ih => rw [List.length_cons]; omega
theorem chain_pos {s : ByteArray} {a : Nat} {l : List Tok} (h : Chain s a l) : 0 < l.length := by cases h <;> simp

theorem rdm (l : List Tok) (i : Nat) (h : i < l.length) : rd_T34 (l.map mk34) (i : Int) = mk34 l[i] := by unfold rd_T34; simp [List.getD, h]
set_option maxRecDepth 100000 in
theorem awakes : auspicelaw09_awake.f 120 = some true := by decide +kernel
theorem awake_from (k : Nat) (hk : 120 ≤ k) : auspicelaw09_awake.f k = some true := at_rounds (g := auspicelaw09_awake.f) auspicelaw09_awake.mono hk awakes

end Go.Proofs.YtgillodpbkpecaaDoor.Lex
