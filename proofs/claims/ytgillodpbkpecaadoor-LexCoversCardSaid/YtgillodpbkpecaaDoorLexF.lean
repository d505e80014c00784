/- The tokens of a text stand in order, each is the bytes at its place, blanks alone lie between: over the plain function of LexC. -/
import Derived.Test.YtgillodpbkpecaaDoorLexC
import Derived.Test.YtgillodpbkpecaaDoorPLxx11
namespace Go.Proofs.YtgillodpbkpecaaDoor.Lex
open Go.RowKit Go.Proofs.YtgillodpbkpecaaDoorW.PrintWords Go.Proofs.YtgillodpbkpecaaDoorW.PrintLast Go.Proofs.YtgillodpbkpecaaDoorW.PrintMore Go.Proofs.YtgillodpbkpecaaDoor.Ext Go.Proofs.YtgillodpbkpecaaDoor.PLx

theorem kind_scan (s : ByteArray) (a : Nat) (t : Tok) (h : scanTok s a = some t) : t.1 ≠ 0 := by
  have h1 : (1 : Int) ≠ 0 := by decide
  have h2 : (2 : Int) ≠ 0 := by decide
  have h3 : (3 : Int) ≠ 0 := by decide
  have h4 : (4 : Int) ≠ 0 := by decide
  have h5 : (5 : Int) ≠ 0 := by decide
  unfold scanTok at h
  split at h
  · unfold wordTok at h; cases h; exact h1
  split at h
  · unfold numTok at h
    simp only at h
    generalize (if byteAt s a = 45 then 1 else 0) = g at h
    split at h
    · cases h
    · cases h; exact h2
  split at h
  · unfold textTok at h
    simp only at h
    split at h
    · cases h
    · cases h; exact h3
  split at h
  · unfold bitsTok at h
    split at h
    · cases h; exact h5
    · cases h
  · unfold signTok at h
    split at h
    · cases h; exact h4
    split at h
    · cases h; exact h4
    · cases h

def endTok (s : ByteArray) : Tok := (0, (s.size : Int), nul, 0, nul)
/-- a text's tokens from a place on. -/
inductive Chain (s : ByteArray) : Nat → List Tok → Prop
  | last (a : Nat) (h1 : a ≤ s.size) (h2 : a + run isBlank s a = s.size) : Chain s a [endTok s]
  | more (a p L : Nat) (t : Tok) (l : List Tok) (h1 : p = a + run isBlank s a) (h2 : 1 ≤ L) (h3 : p + L ≤ s.size) (h4 : t.1 ≠ 0) (h5 : t.2.1 = (p : Int)) (h6 : t.2.2.1 = s.extract p (p + L)) (h7 : Chain s (p + L) l) : Chain s a (t :: l)

theorem scanL_chain (s : ByteArray) : ∀ (f p a : Nat) (acc : List Tok), p = a + run isBlank s a → a ≤ s.size → s.size - p < f →
    ((scanL s f p acc).2.2 = 0 → ∃ r, (scanL s f p acc).1 = acc ++ r ∧ Chain s a r) ∧ ((scanL s f p acc).2.2 ≠ 0 → (scanL s f p acc).1 = [])
  | 0, p, a, acc, _, _, hf => absurd hf (Nat.not_lt_zero _)
  | f + 1, p, a, acc, hp, ha, hf => by
    have hle := run_le isBlank s a ha
    rw [scanL]
    by_cases hlt : p < s.size
    · rw [if_pos hlt]
      have hgood := good_scan s p hlt
      have hk := kind_scan s p
      cases hst : scanTok s p with
      | none => exact ⟨fun h => absurd h (show (90 : Int) ≠ 0 by decide), fun _ => rfl⟩
      | some t =>
        obtain ⟨L, h1, h2, h3, h4⟩ := hgood t hst
        have hz : t.2.2.1.size = L := by rw [h3, ext_size]; omega
        have hb : behind s p t = p + L + run isBlank s (p + L) := by unfold behind; rw [hz]
        obtain ⟨i1, i2⟩ := scanL_chain s f (behind s p t) (p + L) (acc ++ [t]) hb h2 (by omega)
        refine ⟨fun h => ?_, i2⟩
        obtain ⟨r, hr1, hr2⟩ := i1 h
        exact ⟨t :: r, by rw [hr1, List.append_assoc]; rfl, .more a p L t r hp h1 h2 (hk t hst) h4 h3 hr2⟩
    · rw [if_neg hlt]
      exact ⟨fun _ => ⟨_, rfl, .last a ha (by omega)⟩, fun h => absurd rfl h⟩
theorem scanS_chain (s : ByteArray) : ((scanS s).2.2 = 0 → Chain s 0 (scanS s).1 ∧ s.size ≤ 4096) ∧ ((scanS s).2.2 ≠ 0 → (scanS s).1 = []) := by
  unfold scanS
  by_cases h : 4096 < s.size
  · rw [if_pos h]; exact ⟨fun h => absurd h (show (2 : Int) ≠ 0 by decide), fun _ => rfl⟩
  rw [if_neg h]
  obtain ⟨i1, i2⟩ := scanL_chain s (s.size + 1) (run isBlank s 0) 0 [] (by omega) (by omega) (by omega)
  refine ⟨fun h0 => ?_, i2⟩
  obtain ⟨r, hr1, hr2⟩ := i1 h0
  rw [hr1]
  exact ⟨hr2, by omega⟩
theorem chain_length {s : ByteArray} {a : Nat} {l : List Tok} (h : Chain s a l) : l.length ≤ s.size - a + 1 := by
  induction h with
  | last a h1 h2 => simp
  | more a p L t l h1 h2 h3 h4 h5 h6 h7 ih => rw [List.length_cons]; omega
theorem chain_pos {s : ByteArray} {a : Nat} {l : List Tok} (h : Chain s a l) : 0 < l.length := by cases h <;> simp

theorem rdm (l : List Tok) (i : Nat) (h : i < l.length) : rd_T34 (l.map mk34) (i : Int) = mk34 l[i] := by unfold rd_T34; simp [List.getD, h]
set_option maxRecDepth 100000 in
theorem awakes : auspicelaw09_awake.f 120 = some true := by decide +kernel
theorem awake_from (k : Nat) (hk : 120 ≤ k) : auspicelaw09_awake.f k = some true := at_rounds (g := auspicelaw09_awake.f) auspicelaw09_awake.mono hk awakes

theorem covers_l1 (s : ByteArray) (hs : s.size ≤ 4096) (l : List S34) (i : Int) (t0 : Int) (tx : ByteArray) (t3 : Int) (t4 : ByteArray) (p : Nat) (hp : p ≤ s.size) (R : Option Bool) (K : Nat)
    (hR : ∀ k, K ≤ k → auspicelaw09_LexCovers.l0 k s l (wrap64 ((p : Int) + (tx.size : Int))) (wrap64 (i + 1)) = R) : ∀ (d a k : Nat), a + d = p → d ≤ run isBlank s a → K + d + 1 ≤ k →
    auspicelaw09_LexCovers.l1 k s l i (a : Int) t0 (p : Int) tx t3 t4 = R
  | 0, a, k, hd, _, hk => by
    obtain ⟨k, rfl⟩ : ∃ m, k = m + 1 := ⟨k - 1, by omega⟩
    simp only [auspicelaw09_LexCovers.l1]
    rw [if_neg (by omega)]
    exact hR k (by omega)
  | d + 1, a, k, hd, hr, hk => by
    obtain ⟨k, rfl⟩ : ∃ m, k = m + 1 := ⟨k - 1, by omega⟩
    have ha : a < s.size := by omega
    have hb : isBlank (s.data.toList[a]'(by simpa using ha)) = true := by
      have := (run_inside isBlank s 0 a (by omega)).2
      simpa using this
    have hr' := run_yes isBlank s a ha hb
    have ih := covers_l1 s hs l i t0 tx t3 t4 p hp R K hR d (a + 1) k (by omega) (by omega) (by omega)
    simp only [auspicelaw09_LexCovers.l1]
    rw [if_pos (by omega), if_pos (by omega), if_pos (by omega), bt_byteAt, byteAt_get s a ha, w64 (by omega) (by omega), show ((a : Int) + 1) = ((a + 1 : Nat) : Int) by omega, ih]
    simp only [isBlank, Bool.or_eq_true, decide_eq_true_eq] at hb
    rcases hb with ((h | h) | h) | h <;> rw [h] <;> simp

theorem covers_step (s : ByteArray) (hs : s.size ≤ 4096) (L : List S34) (hL : L.length ≤ 5000) (a i k p z : Nat) (T : S34) (hT : rd_T34 L (i : Int) = T) (h1 : T.f1 = (p : Int)) (hz : T.f2.size = z) (ha : a ≤ p) (hp : p + z ≤ s.size) (hi : i < L.length)
    (htx : (s.extract p (p + z)).toList = T.f2.toList) (hend : ((T.f0 == 0) != ((i : Int) == (L.length : Int) - 1)) = false) (hemp : ((T.f2.toList == ([] : List UInt8)) != (T.f0 == 0)) = false) :
    auspicelaw09_LexCovers.l0 (k + 1 + 1) s L (a : Int) (i : Int) = auspicelaw09_LexCovers.l1 k s L (i : Int) (a : Int) T.f0 (p : Int) T.f2 T.f3 T.f4 := by
  have hw1 : wrap64 ((s.size : Int) - (p : Int)) = (s.size : Int) - (p : Int) := w64 (by omega) (by omega)
  have hw2 : wrap64 ((p : Int) + (z : Int)) = ((p + z : Nat) : Int) := (w64 (by omega) (by omega)).trans (by omega)
  have hw3 : wrap64 ((L.length : Int) - 1) = (L.length : Int) - 1 := w64 (by omega) (by omega)
  simp only [auspicelaw09_LexCovers.l0]
  rw [hT, h1, hz, hw1, hw2, hw3, if_pos (by omega), if_pos (by omega), if_neg (by omega), if_neg (by omega), if_neg (by omega), if_pos (by omega), if_pos (by omega), if_pos (by omega)]
  simp only [Int.toNat_natCast]
  rw [if_pos htx, hend, if_neg (by decide), hemp]
  simp only [auspicelaw09_LexCovers.j1]
  rw [if_neg (by decide)]

theorem covers_l0 (s : ByteArray) (hs : s.size ≤ 4096) (l : List Tok) (hl : l.length ≤ 5000) {a : Nat} {r : List Tok} (h : Chain s a r) : ∀ (i k : Nat), l.drop i = r → a ≤ s.size → s.size - a + 3 * r.length + 200 ≤ k →
    auspicelaw09_LexCovers.l0 k s (l.map mk34) (a : Int) (i : Int) = some true := by
  induction h with
  | last a h1 h2 =>
    intro i k hi ha hk
    obtain ⟨k, rfl⟩ : ∃ m, k = m + 1 + 1 := ⟨k - 2, by omega⟩
    have hlen : i + 1 = l.length := by have := congrArg List.length hi; rw [List.length_drop, List.length_singleton] at this; omega
    have hlt : i < l.length := by omega
    have hget : l[i] = endTok s := by
      rw [List.drop_eq_getElem_cons hlt] at hi
      exact (List.cons.inj hi).1
    have hend : (((i : Int) == ((l.map mk34).length : Int) - 1)) = true := by rw [List.length_map]; exact beq_iff_eq.2 (by omega)
    rw [covers_step s hs (l.map mk34) (by rw [List.length_map]; exact hl) a i k s.size 0 (mk34 (endTok s)) (by rw [rdm l i hlt, hget]) rfl rfl ha (by omega) (by rw [List.length_map]; exact hlt)
      (congrArg ByteArray.toList (ext_list (by rw [ext_data]; simp) : s.extract s.size (s.size + 0) = nul)) (by rw [hend]; rfl) (by simp [mk34, endTok])]
    refine covers_l1 s hs (l.map mk34) i _ _ _ _ s.size (Nat.le_refl _) (some true) 150 (fun k hk => ?_) (run isBlank s a) a k h2 (Nat.le_refl _) (by rw [List.length_singleton] at hk; omega)
    obtain ⟨k, rfl⟩ : ∃ m, k = m + 1 := ⟨k - 1, by omega⟩
    have hw2 : wrap64 ((s.size : Int) + ((0 : Nat) : Int)) = (s.size : Int) := (w64 (by omega) (by omega)).trans (by omega)
    have e : (mk34 (endTok s)).f2.size = 0 := rfl
    simp only [auspicelaw09_LexCovers.l0]
    rw [e, hw2, w64 (by omega) (by omega), if_neg (by rw [List.length_map]; omega), awake_from k (by omega), Option.bind_some, if_pos rfl, if_pos (by rw [List.length_map]; omega), beq_self_eq_true]
  | more a p L t r h1 h2 h3 h4 h5 h6 h7 ih =>
    intro i k hi ha hk
    obtain ⟨k, rfl⟩ : ∃ m, k = m + 1 + 1 := ⟨k - 2, by omega⟩
    have hpos := chain_pos h7
    have hlen : i + 1 + r.length = l.length := by have := congrArg List.length hi; rw [List.length_drop, List.length_cons] at this; omega
    have hlt : i < l.length := by omega
    have hget : l[i] = t ∧ l.drop (i + 1) = r := by
      rw [List.drop_eq_getElem_cons hlt] at hi
      exact List.cons.inj hi
    have hle := run_le isBlank s a ha
    have hz : (mk34 t).f2.size = L := by show t.2.2.1.size = L; rw [h6, ext_size]; omega
    have hend : (((i : Int) == ((l.map mk34).length : Int) - 1)) = false := by rw [List.length_map]; exact beq_eq_false_iff_ne.2 (by omega)
    have hkind : ((mk34 t).f0 == 0) = false := beq_eq_false_iff_ne.2 h4
    have hne : ((mk34 t).f2.toList == ([] : List UInt8)) = false := by
      refine beq_eq_false_iff_ne.2 fun e => ?_
      have := congrArg List.length e
      rw [ByteArray.toList_eq] at this
      rw [← size_list, hz] at this
      simp at this; omega
    rw [covers_step s hs (l.map mk34) (by rw [List.length_map]; exact hl) a i k p L (mk34 t) (by rw [rdm l i hlt, hget.1]) h5 hz (by omega) h3 (by rw [List.length_map]; exact hlt)
      (congrArg ByteArray.toList h6.symm) (by rw [hend, hkind]; rfl) (by rw [hne, hkind]; rfl)]
    refine covers_l1 s hs (l.map mk34) i _ _ _ _ p (by omega) (some true) (s.size - (p + L) + 3 * r.length + 200) (fun k hk => ?_) (run isBlank s a) a k (by omega) (Nat.le_refl _) (by rw [List.length_cons] at hk; omega)
    rw [hz, w64 (by omega) (by omega), w64 (by omega) (by omega), show ((p : Int) + (L : Int)) = ((p + L : Nat) : Int) by omega, show ((i : Int) + 1) = ((i + 1 : Nat) : Int) by omega]
    exact ih (i + 1) k hget.2 h3 hk

theorem covers : auspicelaw09_LexCovers.Pure := by
  intro s _
  refine ⟨60000, ?_⟩
  obtain ⟨i1, i2⟩ := scanS_chain s
  unfold auspicelaw09_LexCovers.f
  rw [scan_f s 60000 (by omega), Option.bind_some]
  by_cases h : (scanS s).2.2 = 0
  · rw [if_pos h]
    obtain ⟨hc, hs⟩ := i1 h
    have hlen := chain_length hc
    exact covers_l0 s hs _ (by omega) hc 0 60000 rfl (by omega) (by omega)
  · rw [if_neg h, awake_from 60000 (by omega), Option.bind_some, if_pos rfl, i2 h]
    rfl

end Go.Proofs.YtgillodpbkpecaaDoor.Lex
