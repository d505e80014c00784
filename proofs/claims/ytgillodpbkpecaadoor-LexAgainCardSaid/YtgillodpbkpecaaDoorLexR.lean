/- LexAgain's plain law: two tokens' texts with a blank between are the two tokens. -/
import Derived.Test.YtgillodpbkpecaaDoorLexQ
import Derived.Test.YtgillodpbkpecaaDoorLexW
namespace Go.Proofs.YtgillodpbkpecaaDoor.Lex
open Go.RowKit Go.Proofs.YtgillodpbkpecaaDoorW.PrintWords Go.Proofs.YtgillodpbkpecaaDoorW.PrintLast Go.Proofs.YtgillodpbkpecaaDoorW.PrintMore Go.Proofs.YtgillodpbkpecaaDoor.Ext Go.Proofs.YtgillodpbkpecaaDoor.PLx

/-- a token as it stands at 0 in a text of its own. -/
def home (t : Tok) : Tok := (t.1, 0, t.2.2)
/-- what a token is wherever a blank or the end stands behind it. -/
def Whole (t : Tok) : Prop := 1 ≤ t.2.2.1.size ∧ ∀ u, Free u → scanTok (t.2.2.1 ++ u) 0 = some (home t)
theorem whole_scan (s : ByteArray) (p : Nat) (hp : p < s.size) (t : Tok) (h : scanTok s p = some t) : Whole t := by
  have hz := cut_size s p (by omega)
  have e := scanTok_app (s.extract 0 p) (s.extract p s.size) 0
  rw [hz, cut_app s p (by omega), Nat.add_zero, h] at e
  have hr : (s.extract p s.size).size = s.size - p := by rw [ext_size]; omega
  cases hs : scanTok (s.extract p s.size) 0 with
  | none => rw [hs] at e; cases e
  | some t' =>
    rw [hs] at e
    have e2 : t = sh p t' := Option.some.inj e
    obtain ⟨L, h1, h2, h3, h4⟩ := good_scan _ 0 (by omega) t' hs
    have ht : home t = t' := by rw [e2]; show (t'.1, 0, t'.2.2) = t'; rw [show (0 : Int) = t'.2.1 from h4.symm]
    have hx : t.2.2.1 = t'.2.2.1 := by rw [e2]; rfl
    refine ⟨by rw [hx, h3, ext_size]; omega, fun u hu => ?_⟩
    rw [hx, ht]
    exact scanTok_new _ u hu (by omega) t' hs
theorem first_tok {s : ByteArray} {t : Tok} (h0 : 0 < s.size) (h : scanTok s 0 = some t) : run isBlank s 0 = 0 := by
  refine run_no isBlank s 0 h0 ?_
  cases hb : isBlank (s.data.toList[0]'(by simpa using h0))
  · rfl
  · exfalso
    have hv := byteAt_get s 0 h0
    simp only [isBlank, Bool.or_eq_true, decide_eq_true_eq] at hb
    have hc : byteAt s 0 = 32 ∨ byteAt s 0 = 9 ∨ byteAt s 0 = 10 ∨ byteAt s 0 = 13 := by omega
    have h2 : ∀ x, x ≠ byteAt s 0 → two s 0 x = false := by
      intro x hx
      unfold two
      rw [decide_eq_false (fun e => hx e.symm : ¬ byteAt s 0 = x), Bool.and_false, Bool.false_and]
    unfold scanTok signTok at h
    rw [if_neg (by omega), if_neg (by omega), if_neg (by omega), if_neg (by omega), h2 33 (by omega), h2 60 (by omega), h2 62 (by omega), if_neg (by decide)] at h
    rcases hc with e | e | e | e <;> rw [e, if_neg (by decide)] at h <;> cases h

theorem chain_whole {s : ByteArray} {a : Nat} {l : List Tok} (h : Chain s a l) : ∀ (i : Nat) (hi : i < l.length), i + 1 < l.length → Whole l[i] := by
  induction h with
  | last a h1 h2 => intro i hi h; simp at h
  | more a p L t l h1 h2 h3 h4 h5 h6 h8 h7 ih =>
    intro i hi h
    cases i with
    | zero => exact whole_scan s p (by omega) t h8
    | succ i => exact ih i (by simpa using hi) (by simpa using h)

theorem two_toks (t1 t2 : Tok) (h1 : Whole t1) (h2 : Whole t2) (hz : t1.2.2.1.size + t2.2.2.1.size ≤ 4000) :
    scanS ((t1.2.2.1 ++ (⟨#[32]⟩ : ByteArray)) ++ t2.2.2.1) = ([home t1, sh (t1.2.2.1.size + 1) (home t2), (0, ((t1.2.2.1.size + 1 + t2.2.2.1.size : Nat) : Int), nul, 0, nul)], 0, 0) := by
  obtain ⟨z1, w1⟩ := h1
  obtain ⟨z2, w2⟩ := h2
  generalize hT1 : t1.2.2.1 = T1 at *
  generalize hT2 : t2.2.2.1 = T2 at *
  have hsz : ((T1 ++ (⟨#[32]⟩ : ByteArray)) ++ T2).size = T1.size + 1 + T2.size := by rw [app_size, app_size]; rfl
  have hm : (T1 ++ (⟨#[32]⟩ : ByteArray)).size = T1.size + 1 := by rw [app_size]; rfl
  have hassoc : (T1 ++ (⟨#[32]⟩ : ByteArray)) ++ T2 = T1 ++ ((⟨#[32]⟩ : ByteArray) ++ T2) := by
    apply ext_list; simp only [app_list, List.append_assoc]
  have s1 : scanTok ((T1 ++ (⟨#[32]⟩ : ByteArray)) ++ T2) 0 = some (home t1) := by
    rw [hassoc]; exact w1 _ (.inr ⟨T2.data.toList, by rw [app_list]; rfl⟩)
  have s2' : scanTok T2 0 = some (home t2) := by
    have := w2 nul (.inl rfl)
    rwa [show T2 ++ nul = T2 from by apply ext_list; rw [app_list]; exact List.append_nil _] at this
  have s2 : scanTok ((T1 ++ (⟨#[32]⟩ : ByteArray)) ++ T2) (T1.size + 1) = some (sh (T1.size + 1) (home t2)) := by
    have := scanTok_app (T1 ++ (⟨#[32]⟩ : ByteArray)) T2 0
    rw [hm, Nat.add_zero, s2'] at this; exact this
  have f0 := first_tok (by omega) s1
  have f2 := first_tok (by omega) s2'
  have r1 : run isBlank ((T1 ++ (⟨#[32]⟩ : ByteArray)) ++ T2) T1.size = 1 := by
    have e := run_app isBlank T1 ((⟨#[32]⟩ : ByteArray) ++ T2) 0
    rw [Nat.add_zero, ← hassoc] at e
    rw [e, run_through isBlank (⟨#[32]⟩ : ByteArray) T2 0 (Nat.zero_le _) (by intro c hc; rw [List.mem_singleton.1 hc]; decide), f2]; rfl
  have b1 : behind ((T1 ++ (⟨#[32]⟩ : ByteArray)) ++ T2) 0 (home t1) = T1.size + 1 := by
    unfold behind
    show 0 + t1.2.2.1.size + run isBlank _ (0 + t1.2.2.1.size) = _
    rw [hT1, Nat.zero_add, r1]
  have b2 : behind ((T1 ++ (⟨#[32]⟩ : ByteArray)) ++ T2) (T1.size + 1) (sh (T1.size + 1) (home t2)) = T1.size + 1 + T2.size := by
    unfold behind
    show T1.size + 1 + t2.2.2.1.size + run isBlank _ (T1.size + 1 + t2.2.2.1.size) = _
    rw [hT2, run_end isBlank _ _ (by omega)]; rfl
  obtain ⟨f, hf⟩ : ∃ f, T1.size + 1 + T2.size + 1 = f + 1 + 1 + 1 := ⟨T1.size + 1 + T2.size - 2, by omega⟩
  unfold scanS
  rw [if_neg (by omega), f0, hsz, hf, scanL, if_pos (by omega), s1]
  simp only [b1]
  rw [scanL, if_pos (by omega), s2]
  simp only [b2]
  rw [scanL, if_neg (by omega), hsz]
  rfl

theorem pair_of (K : Nat) (hK : 50000 < K) (s t : ByteArray) (hs : (scanS s).2.2 = 0) (ht : (scanS t).2.2 = 0) (i j : Nat) (hi : i + 1 < ((scanS s).1.map mk34).length) (hj : j + 1 < ((scanS t).1.map mk34).length)
    (hz : (rd_T34 ((scanS s).1.map mk34) (i : Int)).f2.size + (rd_T34 ((scanS t).1.map mk34) (j : Int)).f2.size ≤ 4000) : Pair K ((scanS s).1.map mk34) ((scanS t).1.map mk34) i j := by
  rw [List.length_map] at hi hj
  have hi' : i < (scanS s).1.length := by omega
  have hj' : j < (scanS t).1.length := by omega
  have w1 := chain_whole ((scanS_chain s).1 hs).1 i hi' hi
  have w2 := chain_whole ((scanS_chain t).1 ht).1 j hj' hj
  rw [rdm _ i hi', rdm _ j hj'] at hz
  have hz' : ((scanS s).1[i]).2.2.1.size + ((scanS t).1[j]).2.2.1.size ≤ 4000 := hz
  have h := two_toks _ _ w1 w2 hz'
  have hf := scan_f ((((scanS s).1[i]).2.2.1 ++ (⟨#[32]⟩ : ByteArray)) ++ ((scanS t).1[j]).2.2.1) K hK
  rw [h] at hf
  unfold Pair
  rw [rdm _ i hi', rdm _ j hj']
  exact ⟨_, _, hf, rfl, rfl, rfl, rfl, rfl, rfl, rfl⟩
theorem text_le (s : ByteArray) (i : Int) : (rd_T34 ((scanS s).1.map mk34) i).f2.size ≤ 4096 := by
  by_cases h : i.toNat < (scanS s).1.length
  · have e : rd_T34 ((scanS s).1.map mk34) i = mk34 (scanS s).1[i.toNat] := by unfold rd_T34; simp [List.getD, h]
    rw [e]
    by_cases hs : (scanS s).2.2 = 0
    · obtain ⟨hc, hz⟩ := (scanS_chain s).1 hs
      have : ∀ {a : Nat} {l : List Tok}, Chain s a l → ∀ t ∈ l, t.2.2.1.size ≤ s.size := by
        intro a l hc
        induction hc with
        | last a h1 h2 => intro t ht; rw [List.mem_singleton.1 ht]; exact Nat.zero_le _
        | more a p L t l h1 h2 h3 h4 h5 h6 h8 h7 ih =>
          intro u hu
          rcases List.mem_cons.1 hu with rfl | hu
          · rw [h6, ext_size]; omega
          · exact ih u hu
      exact Nat.le_trans (this hc _ (List.getElem_mem h)) hz
    · exact absurd h (by rw [(scanS_chain s).2 hs]; simp)
  · have e : rd_T34 ((scanS s).1.map mk34) i = rd_T34 ([] : List S34) 0 := by unfold rd_T34; simp [List.getD, h]
    rw [e]; exact Nat.zero_le _

end Go.Proofs.YtgillodpbkpecaaDoor.Lex
