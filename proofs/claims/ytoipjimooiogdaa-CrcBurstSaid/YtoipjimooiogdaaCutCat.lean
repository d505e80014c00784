/- Packs one behind the other, and a beginning of them: what is found. Plain lists. -/
import Derived.Test.YtoipjimooiogdaaCutAll
namespace Go.Proofs.Ytoipjimooiogdaa.Crc
open Go.RowKit Go.Proofs.YtoipjimooiogdaaW.PrintWords Go.Proofs.YtoipjimooiogdaaW.PrintLast Go.Proofs.YtoipjimooiogdaaW.PrintMore

def catL (l : List ByteArray) : List UInt8 := (l.map fun b => packL b.data.toList).flatten
theorem catL_cons (b : ByteArray) (l : List ByteArray) : catL (b :: l) = packL b.data.toList ++ catL l := by simp [catL]
theorem catL_append (a b : List ByteArray) : catL (a ++ b) = catL a ++ catL b := by simp [catL]
theorem headed_length (l : List UInt8) : (headed l).length = l.length + 3 := by simp [headed, head3]
theorem packL_length (l : List UInt8) : (packL l).length = l.length + 7 := by simp [packL, headed_length, tail4]

theorem front_n3 {s : ByteArray} {b rest : List UInt8} (h : s.data.toList = headed b ++ rest) (hb : b.length ≤ 1048576) : n3 s = b.length := by
  have hs : s.size = b.length + 3 + rest.length := by rw [size_list, h, List.length_append, headed_length]
  have h0 := bt_get s 0 (by omega); have h1 := bt_get s 1 (by omega); have h2 := bt_get s 2 (by omega)
  simp only [h, headed, head3] at h0 h1 h2
  simp only [List.cons_append, List.getElem_cons_zero, List.getElem_cons_succ, UInt8.toNat_ofNat'] at h0 h1 h2
  unfold n3
  simp only [Int.natCast_zero, Int.natCast_one] at h0 h1
  rw [h0, h1, show (2 : Int) = ((2 : Nat) : Int) from rfl, h2]
  omega

theorem unpack_pack {s : ByteArray} {b rest : List UInt8} (h : s.data.toList = packL b ++ rest) (hb : b.length ≤ 1048576) : unpackS s = (ofL b, ofL rest, 0) := by
  have h' : s.data.toList = headed b ++ (tail4 (sumL (headed b)) ++ rest) := by rw [h]; unfold packL; rw [List.append_assoc]
  have hn := front_n3 h' hb
  have hs : s.size = b.length + 7 + rest.length := by rw [size_list, h, List.length_append, packL_length]
  have ht : s.data.toList.take (n3 s + 3) = headed b := by
    rw [h', hn, List.take_left' (headed_length b)]
  have hd : s.data.toList.drop (n3 s + 3) = tail4 (sumL (headed b)) ++ rest := by
    rw [h', hn, List.drop_left' (headed_length b)]
  have ho : sumOk s := by
    unfold sumOk
    rw [ht, hd]
    exact List.take_left' rfl
  unfold unpackS
  rw [if_neg (by omega), if_neg (by omega), if_neg (by omega), if_pos ho]
  congr 1
  · apply ext_list
    rw [ext_data, ht, ofL_data]
    unfold headed
    exact List.drop_left' rfl
  · congr 1
    apply ext_list
    rw [ext_data, ofL_data, size_list, List.take_length, show n3 s + 7 = (n3 s + 3) + 4 by omega, ← List.drop_drop, hd]
    exact List.drop_left' rfl

theorem unpack_short {s : ByteArray} {b : List UInt8} {m : Nat} (h : s.data.toList = (packL b).take m) (hm : m < b.length + 7) (hb : b.length ≤ 1048576) : (unpackS s).2.2 ≠ 0 := by
  have hs : s.size = m := by rw [size_list, h, List.length_take, packL_length]; omega
  unfold unpackS
  by_cases h3 : s.size < 3
  · rw [if_pos h3]; decide
  rw [if_neg h3]
  have hn : n3 s = b.length := by
    have e : s.data.toList = head3 b.length ++ ((b ++ tail4 (sumL (headed b))).take (m - 3)) := by
      rw [h]; unfold packL headed
      rw [List.append_assoc, List.take_append, List.take_of_length_le (l := head3 b.length) (by simp [head3]; omega)]
      simp [head3]
    have h0 := bt_get s 0 (by omega); have h1 := bt_get s 1 (by omega); have h2 := bt_get s 2 (by omega)
    simp only [e, head3] at h0 h1 h2
    simp only [List.cons_append, List.getElem_cons_zero, List.getElem_cons_succ, UInt8.toNat_ofNat'] at h0 h1 h2
    unfold n3
    simp only [Int.natCast_zero, Int.natCast_one] at h0 h1
    rw [h0, h1, show (2 : Int) = ((2 : Nat) : Int) from rfl, h2]
    omega
  rw [if_neg (by omega), if_pos (by omega)]; decide

theorem allS_fuel : ∀ (f g : Nat) (s : ByteArray), s.size < f → s.size < g → allS f s = allS g s
  | f + 1, g + 1, s, hf, hg => by
    simp only [allS]
    by_cases h : (unpackS s).2.2 = 0
    · have hr := rest_size s h
      rw [if_pos h, if_pos h, allS_fuel f g _ (by omega) (by omega)]
    · rw [if_neg h, if_neg h]

theorem all_cat : ∀ (l : List ByteArray) (s rest : ByteArray) (f : Nat), s.data.toList = catL l ++ rest.data.toList → (∀ b ∈ l, b.size ≤ 1048576) → s.size < f →
    allS f s = (l ++ (allS f rest).1, (allS f rest).2)
  | [], s, rest, f, h, _, hf => by
    have : s = rest := ext_list (by rw [h]; simp [catL])
    subst this; simp
  | b :: l, s, rest, f + 1, h, hb, hf => by
    rw [catL_cons, List.append_assoc] at h
    have hu := unpack_pack h (hb b (by simp))
    have hsz : s.size = b.size + 7 + (catL l ++ rest.data.toList).length := by rw [size_list s, h, List.length_append, packL_length]; rfl
    have hr := all_cat l (ofL (catL l ++ rest.data.toList)) rest f (ofL_data _) (fun c hc => hb c (by simp [hc])) (by rw [ofL_size]; omega)
    have hlen : rest.size < f := by rw [List.length_append, ← size_list] at hsz; omega
    rw [allS, hu]
    simp only [if_true]
    rw [hr, allS_fuel f (f + 1) rest hlen (by omega), ofL_list]
    simp

/-! ### few -/
def fewBad : Nat → List ByteArray → Bool
  | _, [] => false
  | acc, b :: l => decide (b.size > 20000) || decide (acc > 20000) || fewBad (acc + b.size) l

theorem fewBad_small : ∀ (l : List ByteArray) (acc : Nat), acc ≤ 40000 → fewBad acc l = false → (∀ b ∈ l, b.size ≤ 20000) ∧ (catL l).length + acc ≤ 40000 + 7 * l.length
  | [], acc, h, _ => by simp [catL]; omega
  | b :: l, acc, h, hb => by
    simp only [fewBad, Bool.or_eq_false_iff, decide_eq_false_iff_not] at hb
    obtain ⟨⟨h1, h2⟩, h3⟩ := hb
    obtain ⟨ha, hc⟩ := fewBad_small l (acc + b.size) (by omega) h3
    refine ⟨?_, ?_⟩
    · intro c hc
      rcases List.mem_cons.1 hc with rfl | hc
      · omega
      · exact ha c hc
    · have hz : b.data.toList.length = b.size := rfl
      rw [catL_cons, List.length_append, packL_length, hz, List.length_cons]; omega

theorem few_l0 (l : List ByteArray) (hl : l.length ≤ 9223372036854775807) : ∀ (d k i acc : Nat), i + d = l.length → d < k → acc ≤ 40000 →
    PAll.auspicelaw02_few.l0 k l (acc : Int) (i : Int) = some (if fewBad acc (l.drop i) then ([], false) else (l, decide (l.length ≤ 200)))
  | 0, k + 1, i, acc, hd, _, _ => by
    simp only [PAll.auspicelaw02_few.l0]
    rw [if_neg (by omega), List.drop_of_length_le (by omega)]
    simp only [fewBad, Bool.false_eq_true, if_false]
    congr 2
    simp only [decide_eq_decide]; omega
  | d + 1, k + 1, i, acc, hd, hk, ha => by
    have hi : i < l.length := by omega
    simp only [PAll.auspicelaw02_few.l0]
    rw [if_pos (by omega), if_pos (by omega), List.drop_eq_getElem_cons hi]
    have hr : rdOf ByteArray.empty l (i : Int) = l[i] := by unfold rdOf; simp [List.getD, hi]
    rw [hr]
    simp only [fewBad]
    by_cases h1 : l[i].size > 20000
    · rw [if_pos (by omega)]; simp [h1]
    rw [if_neg (by omega)]
    by_cases h2 : acc > 20000
    · rw [if_pos (by omega)]; simp [h2]
    rw [if_neg (by omega), w64 (by omega) (by omega), w64 (by omega) (by omega), show ((acc : Int) + (l[i].size : Int)) = ((acc + l[i].size : Nat) : Int) by omega, show ((i : Int) + 1) = ((i + 1 : Nat) : Int) by omega, few_l0 l hl d k (i + 1) _ (by omega) (by omega) (by omega)]
    simp [h1, h2]

theorem few_f (l : List ByteArray) (hl : l.length ≤ 9223372036854775807) (k : Nat) (hk : l.length < k) :
    PAll.auspicelaw02_few.f k l = some (if fewBad 0 l then ([], false) else (l, decide (l.length ≤ 200))) := by
  unfold PAll.auspicelaw02_few.f
  rw [show (0 : Int) = ((0 : Nat) : Int) from rfl, few_l0 l hl l.length k 0 0 (by omega) hk (by omega)]
  rfl

theorem rd_at (l : List ByteArray) (i : Nat) (hi : i < l.length) : rdOf ByteArray.empty l (i : Int) = l[i] := by unfold rdOf; simp [List.getD, hi]

end Go.Proofs.Ytoipjimooiogdaa.Crc
