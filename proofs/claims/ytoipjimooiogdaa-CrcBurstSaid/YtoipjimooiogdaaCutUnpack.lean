/- What is found at the front of bytes: the program's answer and the document's are one function; so are the lists of what is found one behind the other. -/
import Derived.Test.YtoipjimooiogdaaCutPack
namespace Go.Proofs.Ytoipjimooiogdaa.Crc
open Go.RowKit Go.Proofs.YtoipjimooiogdaaW.PrintWords Go.Proofs.YtoipjimooiogdaaW.PrintLast Go.Proofs.YtoipjimooiogdaaW.PrintMore

def nul : ByteArray := ⟨#[]⟩
/-- the length that stands at the front. -/
def n3 (s : ByteArray) : Nat := (bt s 0).toNat * 65536 + (bt s 1).toNat * 256 + (bt s 2).toNat
theorem n3_lt (s : ByteArray) : n3 s < 16777216 := by
  have h0 := bt_range s 0; have h1 := bt_range s 1; have h2 := bt_range s 2
  unfold n3; omega
/-- do the four bytes behind the body say the sum? -/
def sumOk (s : ByteArray) : Prop := (s.data.toList.drop (n3 s + 3)).take 4 = tail4 (sumL (s.data.toList.take (n3 s + 3)))
instance (s : ByteArray) : Decidable (sumOk s) := by unfold sumOk; infer_instance

def unpackS (s : ByteArray) : ByteArray × ByteArray × Int :=
  if s.size < 3 then (nul, nul, 5) else if 1048576 < n3 s then (nul, nul, 2) else if s.size < n3 s + 7 then (nul, nul, 5)
  else if sumOk s then (s.extract 3 (n3 s + 3), s.extract (n3 s + 7) s.size, 0) else (nul, nul, 6)

theorem or_n3 (s : ByteArray) : (Go.bits .or .i64 (Go.bits .or .i64 (wrap64 ((wrap64 (bt s 0)) * 65536)) (wrap64 ((wrap64 (bt s 1)) * 256))) (wrap64 (bt s 2))) = ((n3 s : Nat) : Int) := by
  have h0 := bt_range s 0; have h1 := bt_range s 1; have h2 := bt_range s 2
  have hk : ∀ n : Int, 0 ≤ n → n < 2 ^ 62 → IntKind.i64.wrap n = n := fun n h0 h1 => by rw [IntKind.wrap_i64]; omega
  rw [w64 (n := bt s 0) (by omega) (by omega), w64 (n := bt s 1) (by omega) (by omega), w64 (n := bt s 2) (by omega) (by omega), w64 (n := bt s 0 * 65536) (by omega) (by omega), w64 (n := bt s 1 * 256) (by omega) (by omega)]
  rw [bits_join .i64 62 (by decide) hk 16 (bt s 0 * 65536) (bt s 1 * 256) (by omega) (by omega) (by omega) (by omega) (by omega) (by omega), bits_join .i64 62 (by decide) hk 8 _ _ (by omega) (by omega) (by omega) (by omega) (by omega) (by omega)]
  unfold n3; omega

theorem sum_n3 (s : ByteArray) : (wrap64 ((wrap64 ((wrap64 (65536 * (wrap64 (bt s 0)))) + (wrap64 (256 * (wrap64 (bt s 1)))))) + (wrap64 (bt s 2)))) = ((n3 s : Nat) : Int) := by
  have h0 := bt_range s 0; have h1 := bt_range s 1; have h2 := bt_range s 2
  rw [w64 (n := bt s 0) (by omega) (by omega), w64 (n := bt s 1) (by omega) (by omega), w64 (n := bt s 2) (by omega) (by omega), w64 (n := 65536 * bt s 0) (by omega) (by omega), w64 (n := 256 * bt s 1) (by omega) (by omega), w64 (n := 65536 * bt s 0 + 256 * bt s 1) (by omega) (by omega), w64 (by omega) (by omega)]
  unfold n3; omega

/-- the four bytes, from the i-th on. -/
theorem tail4_get (c i : Nat) (hi : i < 4) : (tail4 c)[i]'(by simpa [tail4] using hi) = UInt8.ofNat (c / 2 ^ (8 * i)) := by
  rcases i with _ | _ | _ | _ | i
  · simp [tail4]
  · simp [tail4]
  · simp [tail4]
  · simp [tail4]
  · omega

theorem take_drop_eq_iff (l t : List UInt8) (a : Nat) (h4 : t.length = 4) (ha : a + 4 ≤ l.length) : (l.drop a).take 4 = t ↔ ∀ i (hi : i < 4), l[a + i]'(by omega) = t[i]'(by omega) := by
  constructor
  · intro h i hi
    subst h
    simp
  · intro h
    apply List.ext_getElem
    · simp; omega
    · intro i h1 h2
      have := h i (by omega)
      simpa using this

theorem shr_nat (c i : Nat) (hi : i < 4) : (shr .u32 (c : Int) (wrap64 (8 * (i : Int)))) % 256 = (((UInt8.ofNat (c / 2 ^ (8 * i))).toNat : Nat) : Int) := by
  rw [w64 (by omega) (by omega)]
  unfold shr
  rw [show min ((8 * (i : Int)).toNat) IntKind.u32.bits = 8 * i by simp [IntKind.bits]; omega]
  simp only [UInt8.toNat_ofNat']
  have : ((c : Int) / 2 ^ (8 * i)) = ((c / 2 ^ (8 * i) : Nat) : Int) := by norm_cast
  rw [this]; omega

theorem unpack_l0 (s : ByteArray) (hs : s.size < 2 ^ 62) (h7 : n3 s + 7 ≤ s.size) (c : Nat) (hc : c < 2 ^ 32) : ∀ (d k i : Nat) (_ : i + d = 4), d < k →
    (∀ j (_ : j < i), s.data.toList[n3 s + 3 + j]'(by rw [← size_list]; omega) = (tail4 c)[j]'(by simp [tail4]; omega)) →
    PAll.crc_Unpack.l0 k s ((n3 s : Nat) : Int) (c : Int) (i : Int) =
      some (if (s.data.toList.drop (n3 s + 3)).take 4 = tail4 c then (s.extract 3 (n3 s + 3), s.extract (n3 s + 7) s.size, 0) else (nul, nul, 6))
  | 0, k + 1, i, hd, _, hb => by
    have hn := n3_lt s
    have : i = 4 := by omega
    subst this
    simp only [PAll.crc_Unpack.l0]
    have e3 : wrap64 (((n3 s : Nat) : Int) + 3) = ((n3 s + 3 : Nat) : Int) := by rw [w64 (by omega) (by omega)]; omega
    have e7 : wrap64 (((n3 s : Nat) : Int) + 7) = ((n3 s + 7 : Nat) : Int) := by rw [w64 (by omega) (by omega)]; omega
    rw [if_neg (by omega), e3, e7, if_pos (by omega), if_pos (by omega), if_pos (by omega), if_pos (by omega), if_pos]
    · simp only [Int.toNat_natCast]
    · exact (take_drop_eq_iff _ _ _ rfl (by rw [← size_list]; omega)).2 hb
  | d + 1, k + 1, i, hd, hk, hb => by
    have hn := n3_lt s
    simp only [PAll.crc_Unpack.l0]
    have e3 : wrap64 (((n3 s : Nat) : Int) + 3) = ((n3 s + 3 : Nat) : Int) := by rw [w64 (by omega) (by omega)]; omega
    have e4 : wrap64 (((n3 s + 3 : Nat) : Int) + (i : Int)) = ((n3 s + 3 + i : Nat) : Int) := by rw [w64 (by omega) (by omega)]; omega
    have hlt : n3 s + 3 + i < s.size := by omega
    rw [if_pos (by omega), e3, e4, if_pos (by omega), if_pos (by omega), if_pos (by rw [w64 (by omega) (by omega)]; omega), bt_get s _ hlt, shr_nat c i (by omega)]
    by_cases h : s.data.toList[n3 s + 3 + i]'(by rw [← size_list]; omega) = UInt8.ofNat (c / 2 ^ (8 * i))
    · rw [if_pos (by rw [h]), w64 (by omega) (by omega), show ((i : Int) + 1) = ((i + 1 : Nat) : Int) by omega]
      refine unpack_l0 s hs h7 c hc d k (i + 1) (by omega) (by omega) ?_
      intro j hj
      by_cases hji : j = i
      · subst hji; rw [h, tail4_get c j (by omega)]
      · exact hb j (by omega)
    · rw [if_neg (fun e => h (UInt8.toNat.inj (by omega))), if_neg]
      · rfl
      · intro e
        have := (take_drop_eq_iff _ _ _ rfl (by rw [← size_list]; omega)).1 e i (by omega)
        rw [tail4_get c i (by omega)] at this
        exact h this

theorem unpack_f (s : ByteArray) (k : Nat) (hs : s.size < 2 ^ 62) (hk : s.size + 9 < k) : PAll.crc_Unpack.f k s = some (unpackS s) := by
  have hn := n3_lt s
  unfold PAll.crc_Unpack.f unpackS
  rw [or_n3]
  by_cases h3 : s.size < 3
  · rw [if_pos (by omega), if_pos h3]; rfl
  rw [if_neg (by omega), if_neg h3, if_pos (by omega), if_pos (by omega), if_pos (by omega)]
  by_cases hb : 1048576 < n3 s
  · rw [if_pos (by omega), if_pos hb]; rfl
  rw [if_neg (by omega), if_neg hb, w64 (by omega) (by omega)]
  by_cases h7 : s.size < n3 s + 7
  · rw [if_pos (by omega), if_pos h7]; rfl
  have e3 : wrap64 (((n3 s : Nat) : Int) + 3) = ((n3 s + 3 : Nat) : Int) := by rw [w64 (by omega) (by omega)]; omega
  rw [if_neg (by omega), if_neg h7, e3, if_pos (by omega), if_pos (by omega)]
  have hz : (s.extract 0 (n3 s + 3)).size ≤ s.size := by rw [size_list, ext_data, List.drop_zero, List.length_take, size_list]; omega
  rw [Int.toNat_natCast, sum_f _ k (by omega) (by omega), ext_data, List.drop_zero]
  simp only [Option.bind_some]
  rw [show (0 : Int) = ((0 : Nat) : Int) from rfl, unpack_l0 s hs (by omega) _ (sumL_lt _) 4 k 0 rfl (by omega) (fun j hj => by omega)]
  rfl

theorem head3_n3 (s : ByteArray) (h : 3 ≤ s.size) : head3 (n3 s) = s.data.toList.take 3 := by
  have h0 := bt_get s 0 (by omega); have h1 := bt_get s 1 (by omega); have h2 := bt_get s 2 (by omega)
  have hh : (s.data.toList.take 3) = [s.data.toList[0]'(by rw [← size_list]; omega), s.data.toList[1]'(by rw [← size_list]; omega), s.data.toList[2]'(by rw [← size_list]; omega)] := by
    apply List.ext_getElem
    · have hl : 3 ≤ s.data.toList.length := h
      simp only [List.length_take, List.length_cons, List.length_nil]; omega
    · intro i h1 h2
      rcases i with _ | _ | _ | i
      · simp
      · simp
      · simp
      · simp at h2; omega
  rw [hh]
  unfold head3
  generalize s.data.toList[0]'(by rw [← size_list]; omega) = a at *
  generalize s.data.toList[1]'(by rw [← size_list]; omega) = b at *
  generalize s.data.toList[2]'(by rw [← size_list]; omega) = c at *
  have ha := a.toNat_lt; have hb := b.toNat_lt; have hc := c.toNat_lt
  have hn : n3 s = a.toNat * 65536 + b.toNat * 256 + c.toNat := by
    unfold n3
    simp only [Int.natCast_zero, Int.natCast_one] at h0 h1
    rw [h0, h1, show (2 : Int) = ((2 : Nat) : Int) from rfl, h2]; rfl
  rw [hn]
  congr 1
  · apply UInt8.toNat.inj; simp; omega
  congr 1
  · apply UInt8.toNat.inj; simp; omega
  congr 1
  apply UInt8.toNat.inj; simp

theorem refunpack_f (s : ByteArray) (k : Nat) (hs : s.size < 2 ^ 62) (hk : 10 * s.size + 30 < k) : PAll.auspiceref02_Unpack.f k s = some (unpackS s) := by
  have hn := n3_lt s
  unfold PAll.auspiceref02_Unpack.f unpackS
  rw [sum_n3]
  by_cases h3 : s.size < 3
  · rw [if_pos (by omega), if_pos h3]; rfl
  rw [if_neg (by omega), if_neg h3, if_pos (by omega), if_pos (by omega), if_pos (by omega)]
  by_cases hb : 1048576 < n3 s
  · rw [if_pos (by omega), if_pos hb]; rfl
  have e3 : wrap64 (((n3 s : Nat) : Int) + 3) = ((n3 s + 3 : Nat) : Int) := by rw [w64 (by omega) (by omega)]; omega
  have e7 : wrap64 (((n3 s : Nat) : Int) + 7) = ((n3 s + 7 : Nat) : Int) := by rw [w64 (by omega) (by omega)]; omega
  rw [if_neg (by omega), if_neg hb, e3, e7]
  by_cases h7 : s.size < n3 s + 7
  · rw [if_pos (by omega), if_pos h7]; rfl
  rw [if_neg (by omega), if_neg h7, if_pos (by omega), if_pos (by omega)]
  simp only [Int.toNat_natCast]
  have hl : (s.extract 3 (n3 s + 3)).data.toList = (s.data.toList.take (n3 s + 3)).drop 3 := ext_data ..
  have hz : (s.extract 3 (n3 s + 3)).size = n3 s := by rw [size_list, hl, List.length_drop, List.length_take, ← size_list]; omega
  rw [refpack_small _ k (by omega) (by omega)]
  simp only [Option.bind_some]
  rw [if_pos (by omega), if_pos (by omega)]
  have hhead : headed (s.extract 3 (n3 s + 3)).data.toList = s.data.toList.take (n3 s + 3) := by
    unfold headed
    rw [← size_list, hz, head3_n3 s (by omega), hl]
    have := List.take_append_drop 3 (s.data.toList.take (n3 s + 3))
    rwa [List.take_take, show min 3 (n3 s + 3) = 3 by omega] at this
  have key : ((packB (s.extract 3 (n3 s + 3))).toList = (s.extract 0 (n3 s + 7)).toList) ↔ sumOk s := by
    rw [ByteArray.toList_eq, ByteArray.toList_eq]
    unfold packB packL
    rw [ofL_data, hhead, ext_data, List.drop_zero]
    have h2 : s.data.toList.take (n3 s + 7) = s.data.toList.take (n3 s + 3) ++ (s.data.toList.drop (n3 s + 3)).take 4 := by
      rw [show n3 s + 7 = (n3 s + 3) + 4 by omega, List.take_add]
    rw [h2, List.append_cancel_left_eq]
    unfold sumOk
    exact eq_comm
  by_cases ho : sumOk s
  · rw [if_pos (key.2 ho), if_pos ho]
  · rw [if_neg (fun e => ho (key.1 e)), if_neg ho]; rfl

end Go.Proofs.Ytoipjimooiogdaa.Crc
