/- What is written of a vote, or a snapshot, is read; what is read was written so: plain. -/
import Derived.Test.YtbpnhaeladcbnaaDoorShl4
namespace Go.Proofs.YtbpnhaeladcbnaaDoor
open Go.RowKit
set_option linter.unusedVariables false
set_option linter.unusedSimpArgs false
open Sp (fold intB textS bs)
theorem list_app (l : List UInt8) (r : ByteArray) : (bs l ++ r).data.toList = l ++ r.data.toList := by simp [bs]
theorem ext_left (l : List UInt8) (r : ByteArray) : (bs l ++ r).extract l.length (bs l ++ r).size = r := by
  have hz : (bs l ++ r).size = l.length + r.size := by rw [ByteArray.size_append, Sp.bs_size]
  rw [hz]
  apply ByteArray.ext
  apply Array.toList_inj.1
  rw [ByteArray.data_extract, Array.toList_extract, List.extract_eq_take_drop, show (bs l ++ r).data.toList = l ++ r.data.toList from list_app l r, List.drop_left, Nat.add_sub_cancel_left]
  exact List.take_of_length_le (by rw [Array.length_toList]; exact Nat.le_refl _)
theorem num_app (n : Nat) (h : n < 18446744073709551616) (r : ByteArray) : Tp.num ⟨bs (Sp.num n) ++ r, 0⟩ = (⟨r, 0⟩, n) := by
  unfold Tp.num
  rw [if_neg (by simp)]
  dsimp only
  rw [list_app, Sp.rdN_num n h]
  dsimp only
  rw [ext_left]
theorem ends_nil : Tp.ends ⟨⟨#[]⟩, 0⟩ = 0 := by decide +kernel
theorem app_nil (s : ByteArray) : s ++ ⟨#[]⟩ = s := by
  apply ByteArray.ext
  simp
theorem unf_fold (n : Int) (h : IsI64 n) : Tp.unf (fold n).toNat = n := by
  unfold IsI64 at h
  unfold Tp.unf fold
  split <;> split <;> omega
theorem fold_unf (n : Nat) : (fold (Tp.unf n)).toNat = n := by
  unfold Tp.unf fold
  split <;> split <;> omega
theorem numN_ok {a : Int} (h0 : 0 ≤ a) (h1 : a ≤ 549755813888) : numN a.toNat = a := by
  unfold numN
  rw [if_neg (by omega)]
  omega
theorem numN_back {n : Nat} (h0 : 0 ≤ numN n) : (numN n).toNat = n := by
  unfold numN at h0 ⊢
  split
  · rename_i h; rw [if_pos h] at h0; omega
  · omega
theorem vote_back (v : Vt) (h : v.ok) : Vt.read v.text.1 = (v, 0) := by
  obtain ⟨a, b⟩ := v
  obtain ⟨h1, h2, h3, h4⟩ := h
  dsimp only at h1 h2 h3 h4
  have hi : IsI64 b := ⟨by omega, by omega⟩
  have hf := fold_u64 hi
  have hok : Vt.ok ⟨a, b⟩ := ⟨h1, h2, h3, h4⟩
  unfold Vt.text
  rw [if_pos hok]
  dsimp only
  have e : Vt.rd ⟨bs (Sp.num a.toNat) ++ bs (intB b), 0⟩ = (⟨a, b⟩, ⟨⟨#[]⟩, 0⟩) := by
    unfold Vt.rd
    rw [num_app a.toNat (by omega)]
    dsimp only
    have e2 : bs (intB b) = bs (Sp.num (fold b).toNat) ++ ⟨#[]⟩ := (app_nil _).symm
    rw [e2, num_app (fold b).toNat (by unfold IsU64 at hf; omega), unf_fold b hi, numN_ok h1 h2]
  unfold Vt.read
  rw [e]
  dsimp only
  rw [if_pos ⟨ends_nil, hok⟩]
theorem text_app (s r : ByteArray) (most : Nat) (h : s.size ≤ most) (hm : most < 18446744073709551616) : Tp.text most ⟨textS s ++ r, 0⟩ = (⟨r, 0⟩, s) := by
  unfold Tp.text
  rw [if_neg (by simp)]
  dsimp only
  have ea : textS s ++ r = bs (Sp.num s.size) ++ (s ++ r) := by
    unfold textS
    apply ByteArray.ext
    simp [Array.append_assoc]
  rw [ea, list_app, Sp.rdN_num s.size (by omega)]
  dsimp only
  rw [if_neg (by simp), if_neg (by omega), if_neg (by rw [ByteArray.size_append, ByteArray.size_append, Sp.bs_size]; omega)]
  have e1 : (bs (Sp.num s.size) ++ (s ++ r)).extract ((Sp.num s.size).length + s.size) (bs (Sp.num s.size) ++ (s ++ r)).size = r := by
    have := ext_left (Sp.num s.size ++ s.data.toList) r
    have e2 : bs (Sp.num s.size ++ s.data.toList) ++ r = bs (Sp.num s.size) ++ (s ++ r) := by
      apply ByteArray.ext
      apply Array.toList_inj.1
      simp [bs]
    rw [e2, List.length_append, Array.length_toList] at this
    exact this
  have e3 : (bs (Sp.num s.size) ++ (s ++ r)).extract (Sp.num s.size).length ((Sp.num s.size).length + s.size) = s := by
    apply ByteArray.ext
    simp [bs]
  rw [e1, e3]
theorem snap_back (s : Sn) (h : s.ok) : Sn.read s.wrote.1 = (s, 0) := by
  obtain ⟨a, b, c, t⟩ := s
  have hok := h
  obtain ⟨h1, h2, h3, h4, h5, h6, h7⟩ := h
  dsimp only at h1 h2 h3 h4 h5 h6 h7
  unfold Sn.wrote
  rw [if_pos hok]
  dsimp only
  have ea : bs (Sp.num a.toNat) ++ bs (Sp.num b.toNat) ++ bs (Sp.num c.toNat) ++ textS t = bs (Sp.num a.toNat) ++ (bs (Sp.num b.toNat) ++ (bs (Sp.num c.toNat) ++ (textS t ++ ⟨#[]⟩))) := by
    apply ByteArray.ext
    simp [Array.append_assoc]
  have e : Sn.rd ⟨bs (Sp.num a.toNat) ++ bs (Sp.num b.toNat) ++ bs (Sp.num c.toNat) ++ textS t, 0⟩ = (⟨a, b, c, t⟩, ⟨⟨#[]⟩, 0⟩) := by
    rw [ea]
    unfold Sn.rd
    rw [num_app a.toNat (by omega)]
    dsimp only
    rw [num_app b.toNat (by omega)]
    dsimp only
    rw [num_app c.toNat (by omega)]
    dsimp only
    rw [text_app t ⟨#[]⟩ 262144 h7 (by decide), numN_ok h1 h2, numN_ok h3 h4, numN_ok h5 (by omega)]
  unfold Sn.read
  rw [e]
  dsimp only
  rw [if_pos ⟨ends_nil, hok⟩]
theorem ext_take (s : ByteArray) (k : Nat) (l : List UInt8) (hk : k ≤ s.size) (h : s.data.toList.take k = l) : s = bs l ++ s.extract k s.size := by
  apply ByteArray.ext
  apply Array.toList_inj.1
  simp [bs, ← h]
  rw [List.take_of_length_le (l := List.drop k s.data.toList) (by rw [List.length_drop, Array.length_toList]; exact Nat.le_refl _), List.take_append_drop]
theorem num_back (t : Tp) (h : t.num.1.e = 0) : t.e = 0 ∧ t.s = bs (Sp.num t.num.2) ++ t.num.1.s ∧ t.num.2 < 18446744073709551616 := by
  obtain ⟨s, e⟩ := t
  unfold Tp.num at h ⊢
  by_cases he : e ≠ 0
  · rw [if_pos he] at h
    exact absurd h he
  · rw [if_neg he] at h ⊢
    dsimp only at h ⊢
    have h9 : Sp.rdN s.data.toList = ((Sp.rdN s.data.toList).1, (Sp.rdN s.data.toList).2.1, 0) := by rw [← h]
    obtain ⟨h1, h2, h3, h4⟩ := Sp.rdN_back _ _ _ h9
    rw [Array.length_toList] at h3
    exact ⟨by omega, ext_take s _ _ h3 h4, h1⟩
theorem size_nil {s : ByteArray} (h : s.size = 0) : s = ⟨#[]⟩ := by
  apply ByteArray.ext
  exact Array.size_eq_zero_iff.1 h
theorem ends_back (t : Tp) (h : t.ends = 0) : t.e = 0 ∧ t.s = ⟨#[]⟩ := by
  unfold Tp.ends at h
  split at h
  · omega
  · rename_i hc
    refine ⟨h, size_nil ?_⟩
    by_cases hz : t.s.size = 0
    · exact hz
    · exact absurd ⟨h, hz⟩ hc
theorem vote_read (t : ByteArray) (h : (Vt.read t).2 = 0) : (Vt.read t).1.text = (t, 0) := by
  unfold Vt.read at h ⊢
  by_cases hc : (Vt.rd ⟨t, 0⟩).2.ends = 0 ∧ (Vt.rd ⟨t, 0⟩).1.ok
  · rw [if_pos hc]
    obtain ⟨h1, h2⟩ := hc
    dsimp only
    unfold Vt.text
    rw [if_pos h2]
    obtain ⟨h3, h4⟩ := ends_back _ h1
    unfold Vt.rd at h2 h3 h4 ⊢
    dsimp only at h2 h3 h4 ⊢
    obtain ⟨a1, a2, a3⟩ := num_back _ h3
    obtain ⟨b1, b2, b3⟩ := num_back _ a1
    have hz : 0 ≤ numN (Tp.num ⟨t, 0⟩).2 := h2.1
    rw [numN_back hz]
    unfold intB
    rw [fold_unf]
    rw [h4, app_nil] at a2
    dsimp only at b2
    rw [← a2, ← b2]
  · rw [if_neg hc] at h
    exact absurd h (by decide)
theorem text_back (t : Tp) (most : Nat) (h : (t.text most).1.e = 0) : t.e = 0 ∧ t.s = textS (t.text most).2 ++ (t.text most).1.s := by
  obtain ⟨s, e⟩ := t
  unfold Tp.text at h ⊢
  by_cases he : e ≠ 0
  · rw [if_pos he] at h
    exact absurd h he
  · rw [if_neg he] at h ⊢
    by_cases h9 : (Sp.rdN s.data.toList).2.2 ≠ 0
    · rw [if_pos h9] at h
      exact absurd h h9
    · rw [if_neg h9] at h ⊢
      by_cases hm : most < (Sp.rdN s.data.toList).1
      · rw [if_pos hm] at h
        exact absurd h (by show ¬ ((2 : Int) = 0); decide)
      · rw [if_neg hm] at h ⊢
        dsimp only at h ⊢
        by_cases hr : s.size - (Sp.rdN s.data.toList).2.1 < (Sp.rdN s.data.toList).1
        · rw [if_pos hr] at h
          exact absurd h (by show ¬ ((5 : Int) = 0); decide)
        · rw [if_neg hr]
          have h8 : Sp.rdN s.data.toList = ((Sp.rdN s.data.toList).1, (Sp.rdN s.data.toList).2.1, 0) := by
            have : (Sp.rdN s.data.toList).2.2 = 0 := by omega
            rw [← this]
          obtain ⟨h1, h2, h3, h4⟩ := Sp.rdN_back _ _ _ h8
          rw [Array.length_toList] at h3
          have h3' : (Sp.rdN s.data.toList).2.1 ≤ s.size := h3
          have hx := ext_take s _ _ h3' h4
          generalize (Sp.rdN s.data.toList).1 = n at hr hx h1 ⊢
          generalize (Sp.rdN s.data.toList).2.1 = k at hr hx h3' ⊢
          refine ⟨by omega, ?_⟩
          dsimp only
          have hsz : (s.extract k (k + n)).size = n := by rw [ByteArray.size_extract]; omega
          unfold textS
          rw [hsz]
          have hy : s.extract k s.size = s.extract k (k + n) ++ s.extract (k + n) s.size := by
            apply ByteArray.ext
            apply Array.toList_inj.1
            have e1 : s.data.size = s.size := rfl
            simp only [ByteArray.data_append, ByteArray.data_extract, Array.toList_append, Array.toList_extract]
            rw [List.extract_eq_take_drop, List.extract_eq_take_drop, List.extract_eq_take_drop]
            have e2 : k + n - k = n := by omega
            rw [e2]
            have e3 : s.size - k = n + (s.size - (k + n)) := by omega
            rw [e3, List.take_add, List.drop_drop]
          rw [hy] at hx
          rw [ByteArray.append_assoc]
          exact hx
theorem snap_read (t : ByteArray) (h : (Sn.read t).2 = 0) : (Sn.read t).1.wrote = (t, 0) := by
  unfold Sn.read at h ⊢
  by_cases hc : (Sn.rd ⟨t, 0⟩).2.ends = 0 ∧ (Sn.rd ⟨t, 0⟩).1.ok
  · rw [if_pos hc]
    obtain ⟨h1, h2⟩ := hc
    dsimp only
    unfold Sn.wrote
    rw [if_pos h2]
    obtain ⟨h3, h4⟩ := ends_back _ h1
    unfold Sn.rd at h2 h3 h4 ⊢
    dsimp only at h2 h3 h4 ⊢
    obtain ⟨c1, c2⟩ := text_back _ _ h3
    obtain ⟨a1, a2, a3⟩ := num_back _ c1
    obtain ⟨b1, b2, b3⟩ := num_back _ a1
    obtain ⟨d1, d2, d3⟩ := num_back _ b1
    rw [numN_back h2.1, numN_back h2.2.2.1, numN_back h2.2.2.2.2.1]
    rw [h4, app_nil] at c2
    dsimp only at d2
    rw [ByteArray.append_assoc, ByteArray.append_assoc, ← c2, ← a2, ← b2, ← d2]
  · rw [if_neg hc] at h
    exact absurd h (by decide)
end Go.Proofs.YtbpnhaeladcbnaaDoor
