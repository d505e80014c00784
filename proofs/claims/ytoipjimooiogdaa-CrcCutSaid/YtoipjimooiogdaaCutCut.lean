/- Of packs one behind the other that were cut off, those are found that are whole. -/
import Derived.Test.YtoipjimooiogdaaCutBack
namespace Go.Proofs.Ytoipjimooiogdaa.Crc
open Go.RowKit Go.Proofs.YtoipjimooiogdaaW.PrintWords Go.Proofs.YtoipjimooiogdaaW.PrintLast Go.Proofs.YtoipjimooiogdaaW.PrintMore

/-- where the packs end: of the first i. -/
def endAt (l : List ByteArray) (i : Nat) : Nat := (catL (l.take i)).length
def ends (l : List ByteArray) (n : Nat) : List Int := (List.range n).map fun i => (endAt l (i + 1) : Int)

theorem endAt_succ (l : List ByteArray) (i : Nat) (hi : i < l.length) : endAt l (i + 1) = endAt l i + l[i].size + 7 := by
  unfold endAt
  rw [List.take_succ_eq_append_getElem hi, catL_append, List.length_append, catL_cons, List.length_append, packL_length]
  have : l[i].data.toList.length = l[i].size := rfl
  simp only [catL, List.map_nil, List.flatten_nil, List.length_nil]; omega
theorem endAt_mono (l : List ByteArray) : ∀ (d i : Nat), i + d ≤ l.length → endAt l i ≤ endAt l (i + d)
  | 0, _, _ => Nat.le_refl _
  | d + 1, i, h => by
    have h1 := endAt_mono l d i (by omega)
    have h2 := endAt_succ l (i + d) (by omega)
    rw [show i + (d + 1) = i + d + 1 by omega]; omega
theorem ends_succ (l : List ByteArray) (n : Nat) : ends l (n + 1) = ends l n ++ [(endAt l (n + 1) : Int)] := by
  unfold ends; rw [List.range_succ, List.map_append]; rfl
theorem ends_length (l : List ByteArray) (n : Nat) : (ends l n).length = n := by simp [ends]
theorem ends_get (l : List ByteArray) (n i : Nat) (hi : i < n) : rd (ends l n) (i : Int) = (endAt l (i + 1) : Int) := by
  unfold rd ends; simp [List.getD, hi]

theorem cut_l0 (l : List ByteArray) (hl : l.length ≤ 200) (hb : ∀ b ∈ l, b.size ≤ 20000) (at_ : Int) (K : Nat) (hK : 30000 < K) : ∀ (d i : Nat), i + d = l.length → endAt l i < 2 ^ 60 - d * 30000 →
    PAll.auspicelaw02_CrcCut.l0 (K + d) at_ l (ofL (catL (l.take i))) (ends l i) (i : Int) = PAll.auspicelaw02_CrcCut.l0 K at_ l (ofL (catL l)) (ends l l.length) (l.length : Int)
  | 0, i, hd, _ => by
    have : i = l.length := by omega
    subst this
    rw [List.take_length]; rfl
  | d + 1, i, hd, hs => by
    have hi : i < l.length := by omega
    obtain ⟨q, hq⟩ : ∃ q, q = K + d := ⟨_, rfl⟩
    rw [show K + (d + 1) = q + 1 by omega]
    conv => lhs; simp only [PAll.auspicelaw02_CrcCut.l0]
    have hbi := hb l[i] (List.getElem_mem hi)
    rw [if_pos (by omega), if_pos (by omega), rd_at l i hi, pack_small _ q (by omega) (by omega)]
    simp only [Option.bind_some]
    have hz : (packB l[i]).size = l[i].size + 7 := by unfold packB; rw [ofL_size, packL_length]; rfl
    have hcat : ofL (catL (l.take i)) ++ packB l[i] = ofL (catL (l.take (i + 1))) := by
      apply ext_list
      rw [app_list, ofL_data, ofL_data, List.take_succ_eq_append_getElem hi, catL_append, catL_cons]
      unfold packB
      rw [ofL_data]; simp [catL]
    have hsi : (ofL (catL (l.take i))).size = endAt l i := ofL_size _
    have hsi1 : (ofL (catL (l.take (i + 1)))).size = endAt l (i + 1) := ofL_size _
    have hes := endAt_succ l i hi
    rw [if_true, if_neg (by omega), if_pos (by omega), if_pos (by rw [ends_length]; omega), hcat, hsi1, ← ends_succ, w64 (by omega) (by omega), show ((i : Int) + 1) = ((i + 1 : Nat) : Int) by omega, hq, cut_l0 l hl hb at_ K hK d (i + 1) (by omega) (by omega)]

/-- how many are whole within 'a' bytes: as the loop counts them. -/
def wholeIn (l : List ByteArray) (a : Nat) : Nat → Nat
  | 0 => 0
  | i + 1 => if endAt l (i + 1) ≤ a then i + 1 else wholeIn l a i

theorem wholeIn_le (l : List ByteArray) (a : Nat) : ∀ i, wholeIn l a i ≤ i
  | 0 => Nat.le_refl _
  | i + 1 => by unfold wholeIn; split; · omega
                have := wholeIn_le l a i; omega
theorem wholeIn_in (l : List ByteArray) (a : Nat) : ∀ i, endAt l (wholeIn l a i) ≤ a
  | 0 => by simp [wholeIn, endAt, catL]
  | i + 1 => by
    unfold wholeIn; split
    · assumption
    · exact wholeIn_in l a i
theorem wholeIn_next (l : List ByteArray) (a : Nat) : ∀ i, wholeIn l a i < i → a < endAt l (wholeIn l a i + 1) ∨ False
  | 0, h => by omega
  | i + 1, h => by
    unfold wholeIn at h ⊢
    by_cases hc : endAt l (i + 1) ≤ a
    · rw [if_pos hc] at h; omega
    · rw [if_neg hc] at h ⊢
      by_cases he : wholeIn l a i < i
      · exact wholeIn_next l a i he
      · have := wholeIn_le l a i
        have : wholeIn l a i = i := by omega
        rw [this]; left; omega

theorem cut_l1 (l : List ByteArray) (hl : l.length ≤ 200) (a : Nat) (s : ByteArray) (K : Nat) : ∀ (d i : Nat), i + d = l.length →
    PAll.auspicelaw02_CrcCut.l1 (K + d) (a : Int) l s (ends l l.length) ((wholeIn l a i : Nat) : Int) (i : Int) =
      PAll.auspicelaw02_CrcCut.l1 K (a : Int) l s (ends l l.length) ((wholeIn l a l.length : Nat) : Int) (l.length : Int)
  | 0, i, hd => by
    have : i = l.length := by omega
    subst this; rfl
  | d + 1, i, hd => by
    have hi : i < l.length := by omega
    obtain ⟨q, hq⟩ : ∃ q, q = K + d := ⟨_, rfl⟩
    rw [show K + (d + 1) = q + 1 by omega]
    conv => lhs; simp only [PAll.auspicelaw02_CrcCut.l1]
    rw [ends_length, if_pos (by omega), if_pos (by omega), ends_get l _ i hi, w64 (by omega) (by omega), show ((i : Int) + 1) = ((i + 1 : Nat) : Int) by omega]
    have hrec := cut_l1 l hl a s K d (i + 1) (by omega)
    rw [← hq] at hrec
    rw [← hrec]
    conv => rhs; unfold wholeIn
    by_cases hc : endAt l (i + 1) ≤ a
    · rw [if_pos (by omega), if_pos hc]
    · rw [if_neg (by omega), if_neg hc]

theorem all_beginning (l : List ByteArray) (hb : ∀ b ∈ l, b.size ≤ 1048576) (a : Nat) (ha : a ≤ (catL l).length) (f : Nat) (hf : (catL l).length < f) :
    allS f ((ofL (catL l)).extract 0 a) = (l.take (wholeIn l a l.length), (ofL (catL l)).extract (endAt l (wholeIn l a l.length)) a) := by
  have hw := wholeIn_le l a l.length
  have hin := wholeIn_in l a l.length
  generalize hW : wholeIn l a l.length = W at hw hin ⊢
  have hcat : catL l = catL (l.take W) ++ catL (l.drop W) := by rw [← catL_append, List.take_append_drop]
  have hE : endAt l W = (catL (l.take W)).length := rfl
  have e1 : ((ofL (catL l)).extract 0 a).data.toList = catL (l.take W) ++ ((ofL (catL l)).extract (endAt l W) a).data.toList := by
    rw [ext_data, ext_data, ofL_data, List.drop_zero, hE]
    conv => lhs; rw [hcat, List.take_append, List.take_of_length_le (by omega)]
    rw [hcat, List.take_append, List.take_of_length_le (l := catL (l.take W)) (by omega), List.drop_left' rfl]
  rw [all_cat (l.take W) _ _ f e1 (fun b h => hb b (List.mem_of_mem_take h)) (by rw [size_list, ext_data, ofL_data, List.drop_zero, List.length_take]; omega)]
  have hrest : allS f ((ofL (catL l)).extract (endAt l W) a) = ([], (ofL (catL l)).extract (endAt l W) a) := by
    obtain ⟨f, rfl⟩ : ∃ g, f = g + 1 := ⟨f - 1, by omega⟩
    simp only [allS]
    rw [if_neg]
    by_cases hlt : W < l.length
    · have hnext := wholeIn_next l a l.length (by rw [hW]; exact hlt)
      rw [hW] at hnext
      have hnx : a < endAt l (W + 1) := by rcases hnext with h | h; exact h; exact h.elim
      have hes := endAt_succ l W hlt
      refine unpack_short (b := l[W].data.toList) (m := a - endAt l W) ?_ ?_ ?_
      · rw [ext_data, ofL_data, hcat, List.take_append, List.take_of_length_le (l := catL (l.take W)) (by omega), hE, List.drop_left' rfl, List.drop_eq_getElem_cons hlt, catL_cons, List.take_append_of_le_length]
        rw [packL_length]
        have : l[W].data.toList.length = l[W].size := rfl
        omega
      · have : l[W].data.toList.length = l[W].size := rfl
        omega
      · exact hb _ (List.getElem_mem hlt)
    · have hWl : W = l.length := by omega
      have hz : ((ofL (catL l)).extract (endAt l W) a).size = 0 := by
        rw [size_list, ext_data, ofL_data, List.length_drop, List.length_take, hE, hWl, List.take_length]; omega
      unfold unpackS
      rw [if_pos (by omega)]; decide
  rw [hrest]; simp

theorem cut : ∀ (l : List ByteArray) (a : Int), l.length ≤ 9223372036854775807 → ∃ k, PAll.auspicelaw02_CrcCut.f k l a = some true := by
  intro l a hl
  by_cases hbad : fewBad 0 l = true
  · refine ⟨l.length + 62, ?_⟩
    unfold PAll.auspicelaw02_CrcCut.f
    rw [few_f l hl _ (by omega), if_pos hbad]
    simp only [Option.bind_some]
    rw [if_neg (by decide), awake_at _ (by omega)]; rfl
  have hbad' : fewBad 0 l = false := by simpa using hbad
  by_cases h200' : 200 < l.length
  · refine ⟨l.length + 62, ?_⟩
    unfold PAll.auspicelaw02_CrcCut.f
    rw [few_f l hl _ (by omega), if_neg hbad]
    simp only [Option.bind_some]
    rw [if_neg (by simpa using h200'), awake_at _ (by omega)]; rfl
  have h200 : l.length ≤ 200 := by omega
  obtain ⟨hb, htot⟩ := fewBad_small l 0 (by omega) hbad'
  obtain ⟨K, hK⟩ : ∃ K, K = 100000 := ⟨_, rfl⟩
  refine ⟨(K + l.length + 1 + 1 + 1) + l.length, ?_⟩
  unfold PAll.auspicelaw02_CrcCut.f
  rw [few_f l hl _ (by omega), if_neg hbad]
  simp only [Option.bind_some]
  have he0 : endAt l 0 = 0 := by simp [endAt, catL]
  have hl0 := cut_l0 l h200 hb a (K + l.length + 1 + 1 + 1) (by omega) l.length 0 (by omega) (by rw [he0]; omega)
  have h00 : ofL (catL (l.take 0)) = (⟨#[]⟩ : ByteArray) := ext_list (by simp [catL, ofL])
  have h01 : ends l 0 = [] := rfl
  rw [h00, h01, Int.natCast_zero] at hl0
  rw [if_pos (by simpa using h200), hl0]
  simp only [PAll.auspicelaw02_CrcCut.l0]
  rw [if_neg (by omega)]
  have hsz : (ofL (catL l)).size = (catL l).length := ofL_size _
  -- the place, as the law bends it
  have key : ∀ n : Nat, n ≤ (catL l).length → PAll.auspicelaw02_CrcCut.j2 (K + l.length + 1) (n : Int) l (ofL (catL l)) (ends l l.length) = some true := by
    intro n hn
    simp only [PAll.auspicelaw02_CrcCut.j2]
    have h1 := cut_l1 l h200 n (ofL (catL l)) K l.length 0 (by omega)
    simp only [wholeIn, Int.natCast_zero] at h1
    rw [h1, hK]
    obtain ⟨k, hk⟩ : ∃ k, k = 99999 := ⟨_, rfl⟩
    rw [show 100000 = k + 1 by omega]
    simp only [PAll.auspicelaw02_CrcCut.l1]
    have hall := all_beginning l (fun b h => by have := hb b h; omega) n hn (((ofL (catL l)).extract 0 n).size + 1 + 100000) (by omega)
    have hxs : ((ofL (catL l)).extract 0 n).size ≤ 42000 := by rw [size_list, ext_data, ofL_data, List.drop_zero, List.length_take]; omega
    have hw := wholeIn_le l n l.length
    have hin := wholeIn_in l n l.length
    rw [ends_length, if_neg (by omega), if_pos (by omega), if_pos (by omega), Int.toNat_natCast, all_f _ k (by omega) (by omega), allS_fuel _ (((ofL (catL l)).extract 0 n).size + 1 + 100000) _ (by omega) (by omega), hall]
    simp only [Option.bind_some]
    generalize wholeIn l n l.length = W at hw hin ⊢
    have hsame : PAll.auspiceref02_Same.f k (l.take W) (l.take W) = some true := same_f _ k (by rw [List.length_take]; omega) (by rw [List.length_take]; omega)
    by_cases hW : 0 < W
    · have hm1 : wrap64 ((W : Int) - 1) = ((W - 1 : Nat) : Int) := by rw [w64 (by omega) (by omega)]; omega
      have hrd : rd (ends l l.length) ((W - 1 : Nat) : Int) = (endAt l W : Int) := by rw [ends_get l _ _ (by omega), Nat.sub_add_cancel hW]
      rw [if_pos (by omega), hm1, if_pos (by omega), if_pos (by omega), awake_at k (by omega), hrd]
      simp only [Option.bind_some, if_true]
      rw [if_pos (by omega), if_pos (by omega), Int.toNat_natCast, hsame]
      simp only [Option.bind_some, if_true]
      rw [if_pos (by omega), if_pos (by omega), Int.toNat_natCast]
      simp
    · have hW0 : W = 0 := by omega
      subst hW0
      rw [if_neg (by omega), awake_at k (by omega)]
      simp only [Option.bind_some, if_true]
      rw [if_pos (by omega), if_pos (by omega), Int.toNat_natCast, hsame]
      simp only [Option.bind_some, if_true]
      rw [he0]; simp
  have hj1 : ∀ (x : Int) (b : Bool), (b = false → 0 ≤ x ∧ x ≤ ((catL l).length : Int)) → PAll.auspicelaw02_CrcCut.j1 (K + l.length + 1 + 1) x l (ofL (catL l)) (ends l l.length) b = some true := by
    intro x b hx
    simp only [PAll.auspicelaw02_CrcCut.j1]
    cases b with
    | true => rw [if_pos rfl, hsz]; exact key _ (Nat.le_refl _)
    | false =>
      obtain ⟨h0, h1⟩ := hx rfl
      obtain ⟨n, rfl⟩ := Int.eq_ofNat_of_zero_le h0
      rw [if_neg (by decide)]; exact key n (by omega)
  by_cases h0 : a < 0
  · rw [if_pos h0]; exact hj1 _ _ (fun h => by cases h)
  · rw [if_neg h0]
    refine hj1 _ _ (fun h => ?_)
    simp only [decide_eq_false_iff_not] at h
    omega

end Go.Proofs.Ytoipjimooiogdaa.Crc
