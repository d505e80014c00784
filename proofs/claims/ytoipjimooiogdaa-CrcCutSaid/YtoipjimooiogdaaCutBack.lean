/- What is packed is found, and what stands behind is left. -/
import Derived.Test.YtoipjimooiogdaaCutCat
namespace Go.Proofs.Ytoipjimooiogdaa.Crc
open Go.RowKit Go.Proofs.YtoipjimooiogdaaW.PrintWords Go.Proofs.YtoipjimooiogdaaW.PrintLast Go.Proofs.YtoipjimooiogdaaW.PrintMore

theorem back_l0 (l : List ByteArray) (hl : l.length ≤ 200) (hb : ∀ b ∈ l, b.size ≤ 20000) (m : ByteArray) (K : Nat) (hK : 30000 < K) : ∀ (d i : Nat) (s : ByteArray), i + d = l.length → s.size < 2 ^ 60 - d * 30000 →
    PAll.auspicelaw02_CrcBack.l0 (K + d) m l s (i : Int) = PAll.auspicelaw02_CrcBack.l0 K m l (s ++ ofL (catL (l.drop i))) (l.length : Int)
  | 0, i, s, hd, _ => by
    have : i = l.length := by omega
    subst this
    rw [List.drop_length, show s ++ ofL (catL []) = s from ext_list (by simp [catL, ofL])]; rfl
  | d + 1, i, s, hd, hs => by
    have hi : i < l.length := by omega
    obtain ⟨q, hq⟩ : ∃ q, q = K + d := ⟨_, rfl⟩
    rw [show K + (d + 1) = q + 1 by omega]
    conv => lhs; simp only [PAll.auspicelaw02_CrcBack.l0]
    have hbi := hb l[i] (List.getElem_mem hi)
    rw [if_pos (by omega), if_pos (by omega), rd_at l i hi, pack_small _ q (by omega) (by omega)]
    simp only [Option.bind_some]
    have hz : (packB l[i]).size = l[i].size + 7 := by unfold packB; rw [ofL_size, packL_length]; rfl
    rw [if_true, if_pos (by omega), w64 (by omega) (by omega), show ((i : Int) + 1) = ((i + 1 : Nat) : Int) by omega, hq, back_l0 l hl hb m K hK d (i + 1) _ (by omega) (by rw [app_size]; omega)]
    congr 1
    apply ext_list
    rw [app_list, app_list, app_list, ofL_data, ofL_data, List.drop_eq_getElem_cons hi, catL_cons]
    unfold packB
    rw [ofL_data, List.append_assoc]

theorem back : ∀ (l : List ByteArray) (m : ByteArray), l.length ≤ 9223372036854775807 → ∃ k, PAll.auspicelaw02_CrcBack.f k l m = some true := by
  intro l m hl
  have hj : ∀ (x : List ByteArray) (k : Nat), 60 ≤ k → PAll.auspicelaw02_CrcBack.j0 (k + 1) m x true = some true := by
    intro x k hk
    simp only [PAll.auspicelaw02_CrcBack.j0]
    rw [awake_at k hk]; rfl
  by_cases hbad : fewBad 0 l = true
  · refine ⟨l.length + 62, ?_⟩
    unfold PAll.auspicelaw02_CrcBack.f
    rw [few_f l hl _ (by omega), if_pos hbad]
    simp only [Option.bind_some]
    rw [if_neg (by decide)]
    exact hj _ _ (by omega)
  have hbad' : fewBad 0 l = false := by simpa using hbad
  by_cases h200' : 200 < l.length
  · refine ⟨l.length + 62, ?_⟩
    unfold PAll.auspicelaw02_CrcBack.f
    rw [few_f l hl _ (by omega), if_neg hbad]
    simp only [Option.bind_some]
    rw [if_neg (by simpa using h200')]
    exact hj _ _ (by omega)
  have h200 : l.length ≤ 200 := by omega
  obtain ⟨hb, htot⟩ := fewBad_small l 0 (by omega) hbad'
  refine ⟨100000 + l.length + 2, ?_⟩
  unfold PAll.auspicelaw02_CrcBack.f
  rw [few_f l hl _ (by omega), if_neg hbad]
  simp only [Option.bind_some]
  rw [if_pos (by simpa using h200)]
  by_cases hm : m.size > 20000
  · rw [decide_eq_true (by omega)]
    exact hj _ _ (by omega)
  rw [decide_eq_false (by omega)]
  simp only [PAll.auspicelaw02_CrcBack.j0]
  rw [if_neg (by decide), show 100000 + l.length + 1 = (99999 + 1 + 1) + l.length by omega, show (0 : Int) = ((0 : Nat) : Int) from rfl, back_l0 l h200 hb m (99999 + 1 + 1) (by omega) l.length 0 ⟨#[]⟩ (by omega) (by simp [ByteArray.size]; omega)]
  rw [show (⟨#[]⟩ : ByteArray) ++ ofL (catL (l.drop 0)) = ofL (catL l) from ext_list (by simp [ofL])]
  obtain ⟨k, hk⟩ : ∃ k, k = 99999 + 1 := ⟨_, rfl⟩
  rw [← hk]
  simp only [PAll.auspicelaw02_CrcBack.l0]
  have hs : (ofL (catL l)).size = (catL l).length := ofL_size _
  have hsz : (ofL (catL l) ++ m).size = (catL l).length + m.size := by rw [app_size, hs]
  rw [if_neg (by omega), unpack_f m k (by omega) (by omega)]
  simp only [Option.bind_some]
  rw [if_pos (by omega), all_f _ k (by omega) (by omega)]
  simp only [Option.bind_some]
  have hall := all_cat l (ofL (catL l) ++ m) m ((ofL (catL l) ++ m).size + 1) (by rw [app_list, ofL_data]) (fun b hb' => by have := hb b hb'; omega) (by omega)
  rw [hall, awake_at k (by omega)]
  simp only [Option.bind_some, if_true]
  by_cases he : (unpackS m).2.2 = 0
  · have hmore : (allS ((ofL (catL l) ++ m).size + 1) m).1 = (unpackS m).1 :: (allS ((ofL (catL l) ++ m).size) (unpackS m).2.1).1 := by
      simp only [allS]; rw [if_pos he]
    rw [if_pos he, hmore, if_pos (by rw [List.length_append, List.length_cons]; omega), if_pos (by omega), if_pos (by rw [List.length_append]; omega), Int.toNat_natCast, List.take_left' rfl, same_f l k (by omega) (by omega)]
    rfl
  · have hmore : allS ((ofL (catL l) ++ m).size + 1) m = ([], m) := by
      simp only [allS]; rw [if_neg he]
    rw [if_neg he, hmore, List.append_nil, same_f l k (by omega) (by omega)]
    simp

end Go.Proofs.Ytoipjimooiogdaa.Crc
