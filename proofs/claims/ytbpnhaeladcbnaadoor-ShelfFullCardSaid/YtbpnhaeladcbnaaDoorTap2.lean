/- A tape's methods. -/
import Derived.Test.YtbpnhaeladcbnaaDoorTap
import Derived.Laws.DeepNot64
namespace Go.Proofs.YtbpnhaeladcbnaaDoor
open Go.RowKit
set_option linter.unusedSimpArgs false
set_option linter.unusedVariables false
/-- What is left, and the error. -/
structure Tp where
  s : ByteArray
  e : Int
namespace Tp
def num (t : Tp) : Tp × Nat := if t.e ≠ 0 then (t, 0) else (⟨t.s.extract (Sp.rdN t.s.data.toList).2.1 t.s.size, (Sp.rdN t.s.data.toList).2.2⟩, (Sp.rdN t.s.data.toList).1)
def unf (n : Nat) : Int := if n % 2 = 0 then ((n / 2 : Nat) : Int) else -((n / 2 : Nat) : Int) - 1
def text (most : Nat) (t : Tp) : Tp × ByteArray :=
  if t.e ≠ 0 then (t, ⟨#[]⟩) else if (Sp.rdN t.s.data.toList).2.2 ≠ 0 then (⟨t.s, (Sp.rdN t.s.data.toList).2.2⟩, ⟨#[]⟩)
  else if most < (Sp.rdN t.s.data.toList).1 then (⟨t.s, 2⟩, ⟨#[]⟩) else if t.s.size - (Sp.rdN t.s.data.toList).2.1 < (Sp.rdN t.s.data.toList).1 then (⟨t.s, 5⟩, ⟨#[]⟩)
  else (⟨t.s.extract ((Sp.rdN t.s.data.toList).2.1 + (Sp.rdN t.s.data.toList).1) t.s.size, 0⟩, t.s.extract (Sp.rdN t.s.data.toList).2.1 ((Sp.rdN t.s.data.toList).2.1 + (Sp.rdN t.s.data.toList).1))
def ends (t : Tp) : Int := if t.e = 0 ∧ t.s.size ≠ 0 then 3 else t.e
end Tp
set_option maxRecDepth 100000 in
theorem rdN_fit (l : List UInt8) : (Sp.rdN l).1 < 18446744073709551616 ∧ (Sp.rdN l).2.1 ≤ l.length ∧ 0 ≤ (Sp.rdN l).2.2 ∧ (Sp.rdN l).2.2 ≤ 5 := by
  cases l with
  | nil => simp [Sp.rdN]
  | cons c r =>
    have hc : c.toNat < 256 := c.toNat_lt
    by_cases h1 : c.toNat ≤ 247
    · rw [Sp.rdN, if_pos h1]
      refine ⟨?_, ?_, ?_, ?_⟩ <;> simp
      omega
    · by_cases h2 : r.length < c.toNat - 247
      · rw [Sp.rdN, if_neg h1, if_pos h2]
        simp
      · by_cases h3 : r.headD 0 = 0 ∨ Sp.val (r.take (c.toNat - 247)) ≤ 247
        · rw [Sp.rdN, if_neg h1, if_neg h2, if_pos h3]
          simp
        · rw [Sp.rdN, if_neg h1, if_neg h2, if_neg h3]
          have hlt := Sp.val_lt (r.take (c.toNat - 247))
          have h8 : 256 ^ (r.take (c.toNat - 247)).length ≤ 256 ^ 8 := Nat.pow_le_pow_right (by decide) (by rw [List.length_take]; omega)
          have hn64 : Sp.val (r.take (c.toNat - 247)) < 18446744073709551616 := Nat.lt_of_lt_of_le hlt h8
          refine ⟨hn64, ?_, ?_, ?_⟩ <;> simp
          omega
theorem TapeAt.step {w w' : World} {g : Nat} {s : ByteArray} {e : Int} (h : TapeAt w g s e) (hb : Below w.heap.size w w') : TapeAt w' g s e := (hb.block g (Mem.lt h)).trans h
theorem TapeAt.c0 {w : World} {g : Nat} {s : ByteArray} {e : Int} (h : TapeAt w g s e) : w.cell? ⟨g, 0, none⟩ = some (.string s) := Mem.cell h rfl
theorem TapeAt.c1 {w : World} {g : Nat} {s : ByteArray} {e : Int} (h : TapeAt w g s e) : w.cell? ⟨g, 1, none⟩ = some (.int .i64 e) := Mem.cell h rfl
theorem TapeAt.fr {w : World} {g : Nat} {s : ByteArray} {e : Int} (h : TapeAt w g s e) (j : Nat) : w.frozen? ⟨g, j, none⟩ = false := Mem.free h
theorem TapeAt.set1 {w : World} {g : Nat} {s : ByteArray} {e x : Int} (h : TapeAt w g s e) : TapeAt (w.setCell ⟨g, 1, none⟩ (.int .i64 x)) g s x := by
  unfold TapeAt
  rw [Mem.set h]
  rfl
theorem TapeAt.set0 {w : World} {g : Nat} {s t : ByteArray} {e : Int} (h : TapeAt w g s e) : TapeAt (w.setCell ⟨g, 0, none⟩ (.string t)) g t e := by
  unfold TapeAt
  rw [Mem.set h]
  rfl
section
variable (s : ByteArray) (e : Int) (g : Nat) (w : World)
set_option maxRecDepth 100000 in
theorem stuck_any (h : TapeAt w g s e) : Calls Tryd.prog 59 #[.pointer (some ⟨g, 0, none⟩)] w fun r w' => r = .returned (.bool (decide (e ≠ 0))) ∧ w' = w := by
  have c1 := h.c1
  clear h
  by_cases he : e = 0
  · subst he
    go_enter Tryd.func59, Tryd.ntmps59
    go_wp2_with fail
    go_ret
    exact ⟨rfl, rfl⟩
  · have e2 : decide (e ≠ 0) = true := by simpa using he
    rw [e2]
    go_enter Tryd.func59, Tryd.ntmps59
    go_wp2_with fail
    go_ret
    simp [he]
set_option maxRecDepth 100000 in
theorem fail_any (x : Int) (h : TapeAt w g s e) : Calls Tryd.prog 61 #[.pointer (some ⟨g, 0, none⟩), .int .i64 x] w fun r w' => r = .returned (.tuple #[]) ∧ TapeAt w' g s x ∧ Mem.Ch (fun k => k = g) w w' := by
  have c1 := h.c1
  have hf := h.fr 1
  have H := Lib.hid h
  clear h
  go_enter Tryd.func61, Tryd.ntmps61
  go_wp2_with fail
  go_end0
  exact ⟨rfl, H.out.set1, (Mem.Ch.refl _ w).set (.inr rfl)⟩
set_option maxRecDepth 100000 in
theorem err_any (h : TapeAt w g s e) : Calls Tryd.prog 73 #[.pointer (some ⟨g, 0, none⟩)] w fun r w' => r = .returned (.int .i64 e) ∧ w' = w := by
  have c1 := h.c1
  clear h
  go_enter Tryd.func73, Tryd.ntmps73
  go_wp2_with fail
  go_ret
  exact ⟨rfl, rfl⟩
set_option maxRecDepth 100000 in
theorem end_any (h : TapeAt w g s e) : Calls Tryd.prog 56 #[.pointer (some ⟨g, 0, none⟩)] w fun r w' => r = .returned (.int .i64 (Tp.ends ⟨s, e⟩)) ∧ w' = w := by
  have c0 := h.c0
  have c1 := h.c1
  have H := Lib.hid h
  clear h
  by_cases he : e = 0
  · subst he
    by_cases h0 : s.size = 0
    · have hnil2 : s.toList.isEmpty = true := by rw [ByteArray.toList_eq, show s.data.toList = [] by rw [← List.length_eq_zero_iff, Array.length_toList]; exact h0]; rfl
      have hE : Tp.ends ⟨s, 0⟩ = 0 := by unfold Tp.ends; rw [if_neg (fun h => h.2 h0)]
      rw [hE]
      clear hE
      go_enter Tryd.func56, Tryd.ntmps56
      go_wp2_with (go_at_call 73; refine (err_any s 0 g w H.out).mono ?_; rintro _ _ ⟨rfl, rfl⟩)
      go_ret
      exact ⟨rfl, rfl⟩
    · have hne2 : s.toList.isEmpty = false := by
        rw [ByteArray.toList_eq]
        cases hh : s.data.toList with
        | nil => exact absurd (by have := congrArg List.length hh; rw [Array.length_toList] at this; exact this) h0
        | cons a b => rfl
      have hE : Tp.ends ⟨s, 0⟩ = 3 := by unfold Tp.ends; rw [if_pos ⟨rfl, h0⟩]
      rw [hE]
      clear hE
      go_enter Tryd.func56, Tryd.ntmps56
      go_wp2_with fail
      go_ret
      exact ⟨rfl, rfl⟩
  · have hE : Tp.ends ⟨s, e⟩ = e := by unfold Tp.ends; rw [if_neg (fun h => he h.1)]
    rw [hE]
    clear hE
    go_enter Tryd.func56, Tryd.ntmps56
    go_wp2_with (go_at_call 73; refine (err_any s e g w H.out).mono ?_; rintro _ _ ⟨rfl, rfl⟩)
    go_ret
    exact ⟨rfl, rfl⟩
set_option maxRecDepth 100000 in
theorem at_any : Calls Tryd.prog 55 #[.string s] w fun r w' => r = .returned (.pointer (some ⟨w.heap.size, 0, none⟩)) ∧ TapeAt w' w.heap.size s 0 ∧ Below w.heap.size w w' := by
  go_enter Tryd.func55, Tryd.ntmps55
  go_wp2_with fail
  go_ret
  exact ⟨rfl, Mem.new w _, (Below.refl _ w).alloc (Nat.le_refl _) _⟩
set_option maxRecDepth 100000 in
set_option maxHeartbeats 2000000 in
theorem tpnum_any (h : TapeAt w g s e) (hs : s.size ≤ 140737488351232) : Calls Tryd.prog 57 #[.pointer (some ⟨g, 0, none⟩)] w fun r w' => r = .returned (.int .u64 ((Tp.num ⟨s, e⟩).2 : Nat)) ∧ TapeAt w' g (Tp.num ⟨s, e⟩).1.s (Tp.num ⟨s, e⟩).1.e ∧ Mem.Ch (fun k => k = g) w w' := by
  have hst := stuck_any s e g w h
  have H := Lib.hid h
  clear h
  by_cases he : e = 0
  · subst he
    have e1 : decide ((0 : Int) ≠ 0) = false := rfl
    rw [e1] at hst
    have hn := tnum_any s g w H.out hs
    have hfit := rdN_fit s.data.toList
    rw [Array.length_toList] at hfit
    unfold Tp.num
    rw [if_neg (by simp)]
    dsimp only
    generalize Sp.rdN s.data.toList = x at hn hfit ⊢
    obtain ⟨n, k, f⟩ := x
    obtain ⟨h1, h2, h3, h4⟩ := hfit
    dsimp only at hn h1 h2 h3 h4 ⊢
    have hk1 : (k : Int) ≤ (s.size : Int) := by have : k ≤ s.size := h2; omega
    have hk0 : (0 : Int) ≤ (k : Int) := by omega
    have HK := Lib.hid (And.intro h1 (And.intro h2 (And.intro h3 h4)))
    clear h1 h2 h3 h4
    go_enter Tryd.func57, Tryd.ntmps57
    go_wp2_with (first
      | (go_at_call 59; refine hst.mono ?_; rintro _ _ ⟨rfl, rfl⟩)
      | (go_at_call 60; refine hn.mono ?_; rintro _ w2 ⟨rfl, hb2⟩; have hT2 := H.out.step hb2)
      | (go_at_call 61; refine (fail_any s 0 g _ f hT2).mono ?_; rintro _ w3 ⟨rfl, hT3, hc3⟩; have c0 := hT3.c0; have hf := hT3.fr 0))
    go_ret
    exact ⟨rfl, hT3.set0, ((Mem.Ch.of_below' hb2).trans' hc3).set (.inr rfl)⟩
  · have e1 : decide (e ≠ 0) = true := by simpa using he
    rw [e1] at hst
    have e2 : Tp.num ⟨s, e⟩ = (⟨s, e⟩, 0) := by unfold Tp.num; rw [if_pos he]
    rw [e2]
    clear e2
    go_enter Tryd.func57, Tryd.ntmps57
    go_wp2_with (go_at_call 59; refine hst.mono ?_; rintro _ _ ⟨rfl, rfl⟩)
    go_ret
    exact ⟨rfl, H.out, Mem.Ch.refl _ _⟩
theorem Tp.num_lt (t : Tp) : t.num.2 < 18446744073709551616 := by
  unfold Tp.num
  split
  · exact (by decide : (0 : Nat) < 18446744073709551616)
  · exact (rdN_fit _).1
theorem unf_bits (n : Nat) (h : n < 18446744073709551616) : bits .xor .i64 (wrap64 ((n : Int) / 2)) (wrap64 (-wrap64 (bits .and .u64 (n : Int) 1))) = Tp.unf n := by
  have e1 : bits .and .u64 (n : Int) 1 = ((n % 2 : Nat) : Int) := by
    rw [show (1 : Int) = ((1 : Nat) : Int) from rfl, u64_and_nat n 1 h (by decide), Nat.and_one_is_mod]
  have e2 : wrap64 ((n : Int) / 2) = ((n / 2 : Nat) : Int) := by unfold wrap64; omega
  have h2 : n / 2 < 9223372036854775808 := by omega
  rw [e1, e2]
  unfold Tp.unf
  by_cases ho : n % 2 = 0
  · have z0 : wrap64 ((0 : Nat) : Int) = 0 := by unfold wrap64; omega
    have z1 : wrap64 (-(0 : Int)) = 0 := by unfold wrap64; omega
    rw [if_pos ho, ho, z0, z1]
    show IntKind.i64.wrap ((BitVec.ofInt 64 ((n / 2 : Nat) : Int) ^^^ BitVec.ofInt 64 0).toNat : Int) = _
    rw [show BitVec.ofInt 64 0 = 0#64 by decide, BitVec.xor_zero, ofInt_u64 _ (by omega)]
    simp [IntKind.wrap, IntKind.bits, IntKind.signed]
    omega
  · have ho1 : n % 2 = 1 := by omega
    have z0 : wrap64 ((1 : Nat) : Int) = 1 := by unfold wrap64; omega
    have z1 : wrap64 (-(1 : Int)) = -1 := by unfold wrap64; omega
    rw [if_neg ho, ho1, z0, z1]
    have := i64_not (n / 2) h2
    have hc : bits .xor .i64 ((n / 2 : Nat) : Int) (-1) = bits .xor .i64 (-1) ((n / 2 : Nat) : Int) := by
      show IntKind.i64.wrap ((BitVec.ofInt 64 ((n / 2 : Nat) : Int) ^^^ BitVec.ofInt 64 (-1)).toNat : Int) = IntKind.i64.wrap ((BitVec.ofInt 64 (-1) ^^^ BitVec.ofInt 64 ((n / 2 : Nat) : Int)).toNat : Int)
      rw [BitVec.xor_comm]
    rw [hc, this]
    omega
set_option maxRecDepth 100000 in
set_option maxHeartbeats 2000000 in
theorem tpint_any (h : TapeAt w g s e) (hs : s.size ≤ 140737488351232) : Calls Tryd.prog 39 #[.pointer (some ⟨g, 0, none⟩)] w fun r w' => r = .returned (.int .i64 (Tp.unf (Tp.num ⟨s, e⟩).2)) ∧ TapeAt w' g (Tp.num ⟨s, e⟩).1.s (Tp.num ⟨s, e⟩).1.e ∧ Mem.Ch (fun k => k = g) w w' := by
  have hn := tpnum_any s e g w h hs
  have hlt := Tp.num_lt ⟨s, e⟩
  generalize Tp.num ⟨s, e⟩ = x at hn hlt ⊢
  obtain ⟨⟨s', e'⟩, n⟩ := x
  dsimp only at hn hlt ⊢
  have HL := Lib.hid hlt
  clear hlt h
  go_enter Tryd.func39, Tryd.ntmps39
  go_wp2_with (go_at_call 57; refine hn.mono ?_; rintro _ w2 ⟨rfl, hT2, hc2⟩)
  go_ret
  exact ⟨congrArg (fun x => Ending.returned (.int .i64 x)) (unf_bits n HL.out), hT2, hc2⟩
set_option maxRecDepth 100000 in
set_option maxHeartbeats 2000000 in
theorem tptext_any (most : Nat) (hm : most ≤ 140737488351232) (h : TapeAt w g s e) (hs : s.size ≤ 140737488351232) : Calls Tryd.prog 43 #[.pointer (some ⟨g, 0, none⟩), .int .i64 most] w fun r w' => r = .returned (.string (Tp.text most ⟨s, e⟩).2) ∧ TapeAt w' g (Tp.text most ⟨s, e⟩).1.s (Tp.text most ⟨s, e⟩).1.e ∧ Mem.Ch (fun k => k = g) w w' := by
  have hst := stuck_any s e g w h
  have H := Lib.hid h
  clear h
  by_cases he : e = 0
  · subst he
    have e1 : decide ((0 : Int) ≠ 0) = false := rfl
    rw [e1] at hst
    have hn := tnum_any s g w H.out hs
    have hfit := rdN_fit s.data.toList
    rw [Array.length_toList] at hfit
    unfold Tp.text
    rw [if_neg (by simp)]
    dsimp only
    generalize Sp.rdN s.data.toList = x at hn hfit ⊢
    obtain ⟨n, k, f⟩ := x
    obtain ⟨h1, h2, h3, h4⟩ := hfit
    dsimp only at hn h1 h2 h3 h4 ⊢
    have hk1 : (k : Int) ≤ (s.size : Int) := by have : k ≤ s.size := h2; omega
    have hk0 : (0 : Int) ≤ (k : Int) := by omega
    have HK := Lib.hid (And.intro h1 (And.intro h2 (And.intro h3 h4)))
    clear h1 h2 h3 h4
    by_cases hf : f = 0
    · subst hf
      rw [if_neg (by simp)]
      by_cases hl : most < n
      · rw [if_pos hl]
        have hl1 : (most : Int) < (n : Int) := by omega
        go_enter Tryd.func43, Tryd.ntmps43
        go_wp2_with (first
          | (go_at_call 59; refine hst.mono ?_; rintro _ _ ⟨rfl, rfl⟩)
          | (go_at_call 60; refine hn.mono ?_; rintro _ w2 ⟨rfl, hb2⟩; have hT2 := H.out.step hb2)
          | (go_at_call 61; refine (fail_any s 0 g _ _ hT2).mono ?_; rintro _ w3 ⟨rfl, hT3, hc3⟩))
        go_ret
        exact ⟨rfl, hT3, (Mem.Ch.of_below' hb2).trans' hc3⟩
      · rw [if_neg hl]
        have hl1 : (n : Int) ≤ (most : Int) := by omega
        have hn0 : (0 : Int) ≤ (n : Int) := by omega
        by_cases hr : s.size - k < n
        · rw [if_pos hr]
          have hr1 : (s.size : Int) - (k : Int) < (n : Int) := by have := HK.out.2.1; have e : s.data.size = s.size := rfl; omega
          have hr0 : (0 : Int) ≤ (s.size : Int) - (k : Int) := by omega
          go_enter Tryd.func43, Tryd.ntmps43
          go_wp2_with (first
            | (go_at_call 59; refine hst.mono ?_; rintro _ _ ⟨rfl, rfl⟩)
            | (go_at_call 60; refine hn.mono ?_; rintro _ w2 ⟨rfl, hb2⟩; have hT2 := H.out.step hb2; have c0 := hT2.c0)
            | (go_at_call 61; refine (fail_any s 0 g _ _ hT2).mono ?_; rintro _ w3 ⟨rfl, hT3, hc3⟩))
          go_ret
          exact ⟨rfl, hT3, (Mem.Ch.of_below' hb2).trans' hc3⟩
        · rw [if_neg hr]
          have hr1 : (n : Int) ≤ (s.size : Int) - (k : Int) := by have := HK.out.2.1; have e : s.data.size = s.size := rfl; omega
          have hr0 : (0 : Int) ≤ (s.size : Int) - (k : Int) := by omega
          have hw1 : wrap64 ((k : Int) + (n : Int)) = (k : Int) + (n : Int) := by unfold wrap64; omega
          have hw2 : wrap64 (n : Int) = (n : Int) := by unfold wrap64; omega
          have hw3 : (k : Int) + (n : Int) ≤ (s.size : Int) := by omega
          have hw4 : (k : Int) ≤ (k : Int) + (n : Int) := by omega
          go_enter Tryd.func43, Tryd.ntmps43
          go_wp2_with (first
            | (go_at_call 59; refine hst.mono ?_; rintro _ _ ⟨rfl, rfl⟩)
            | (go_at_call 60; refine hn.mono ?_; rintro _ w2 ⟨rfl, hb2⟩; have hT2 := H.out.step hb2; have c0 := hT2.c0; have hf0 := hT2.fr 0))
          go_ret
          exact ⟨rfl, hT2.set0, (Mem.Ch.of_below' hb2).set (.inr rfl)⟩
    · rw [if_pos hf]
      have hf1 : f ≠ 0 := hf
      go_enter Tryd.func43, Tryd.ntmps43
      go_wp2_with (first
        | (go_at_call 59; refine hst.mono ?_; rintro _ _ ⟨rfl, rfl⟩)
        | (go_at_call 60; refine hn.mono ?_; rintro _ w2 ⟨rfl, hb2⟩; have hT2 := H.out.step hb2)
        | (go_at_call 61; refine (fail_any s 0 g _ _ hT2).mono ?_; rintro _ w3 ⟨rfl, hT3, hc3⟩))
      go_ret
      exact ⟨rfl, hT3, (Mem.Ch.of_below' hb2).trans' hc3⟩
  · have e1 : decide (e ≠ 0) = true := by simpa using he
    rw [e1] at hst
    have e2 : Tp.text most ⟨s, e⟩ = (⟨s, e⟩, ⟨#[]⟩) := by unfold Tp.text; rw [if_pos he]
    rw [e2]
    clear e2
    go_enter Tryd.func43, Tryd.ntmps43
    go_wp2_with (go_at_call 59; refine hst.mono ?_; rintro _ _ ⟨rfl, rfl⟩)
    go_ret
    exact ⟨rfl, H.out, Mem.Ch.refl _ _⟩
end
end Go.Proofs.YtbpnhaeladcbnaaDoor
