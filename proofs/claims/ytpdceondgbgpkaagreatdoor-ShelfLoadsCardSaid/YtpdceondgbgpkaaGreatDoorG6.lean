/- A tape's methods. · shelf: votes and snapshots; which may be; their numbers. · shelf: which vote, which snapshot, a text says. -/
import Derived.Test.YtpdceondgbgpkaaGreatDoorG5
import Derived.Laws.DeepNot64
namespace Go.Proofs.YtpdceondgbgpkaaGreatDoor
open Go.RowKit
set_option linter.unusedSimpArgs false
set_option linter.unusedVariables false
/-- What is left, and the error. -/
structure Tp where
  s : ByteArray
  e : Int
namespace Tp
def num (t : Tp) : Tp × Nat := if t.e ≠ 0 then (t, 0) else (⟨t.s.extract (Sp.rdN t.s.data.toList).2.1 t.s.size, (Sp.rdN t.s.data.toList).2.2⟩, (Sp.rdN t.s.data.toList).1)
def unf (n : Nat) : Int := if n % 2 = 0 then ((n / 2 : Nat) : Int) else -((n / 2 : Nat) : Int) - 1
def text (most : Nat) (t : Tp) : Tp × ByteArray :=
  if t.e ≠ 0 then (t, ⟨#[]⟩) else if (Sp.rdN t.s.data.toList).2.2 ≠ 0 then (⟨t.s, (Sp.rdN t.s.data.toList).2.2⟩, ⟨#[]⟩)
  else if most < (Sp.rdN t.s.data.toList).1 then (⟨t.s, 2⟩, ⟨#[]⟩) else if t.s.size - (Sp.rdN t.s.data.toList).2.1 < (Sp.rdN t.s.data.toList).1 then (⟨t.s, 5⟩, ⟨#[]⟩)
  else (⟨t.s.extract ((Sp.rdN t.s.data.toList).2.1 + (Sp.rdN t.s.data.toList).1) t.s.size, 0⟩, t.s.extract (Sp.rdN t.s.data.toList).2.1 ((Sp.rdN t.s.data.toList).2.1 + (Sp.rdN t.s.data.toList).1))
def ends (t : Tp) : Int := if t.e = 0 ∧ t.s.size ≠ 0 then 3 else t.e
end Tp
set_option maxRecDepth 100000 in
theorem rdN_fit (l : List UInt8) : (Sp.rdN l).1 < 18446744073709551616 ∧ (Sp.rdN l).2.1 ≤ l.length ∧ 0 ≤ (Sp.rdN l).2.2 ∧ (Sp.rdN l).2.2 ≤ 5 := by
  cases l with
  | nil => simp [Sp.rdN]
  | cons c r =>
    have hc : c.toNat < 256 := c.toNat_lt
    by_cases h1 : c.toNat ≤ 247
    · rw [Sp.rdN, if_pos h1]
      refine ⟨?_, ?_, ?_, ?_⟩ <;> simp
      omega
    · by_cases h2 : r.length < c.toNat - 247
      · rw [Sp.rdN, if_neg h1, if_pos h2]
        simp
      · by_cases h3 : r.headD 0 = 0 ∨ Sp.val (r.take (c.toNat - 247)) ≤ 247
        · rw [Sp.rdN, if_neg h1, if_neg h2, if_pos h3]
          simp
        · rw [Sp.rdN, if_neg h1, if_neg h2, if_neg h3]
          have hlt := Sp.val_lt (r.take (c.toNat - 247))
          have h8 : 256 ^ (r.take (c.toNat - 247)).length ≤ 256 ^ 8 := Nat.pow_le_pow_right (by decide) (by rw [List.length_take]; omega)
          have hn64 : Sp.val (r.take (c.toNat - 247)) < 18446744073709551616 := Nat.lt_of_lt_of_le hlt h8
          refine ⟨hn64, ?_, ?_, ?_⟩ <;> simp
          omega
theorem TapeAt.step {w w' : World} {g : Nat} {s : ByteArray} {e : Int} (h : TapeAt w g s e) (hb : Below w.heap.size w w') : TapeAt w' g s e := (hb.block g (Mem.lt h)).trans h
theorem TapeAt.c0 {w : World} {g : Nat} {s : ByteArray} {e : Int} (h : TapeAt w g s e) : w.cell? ⟨g, 0, none⟩ = some (.string s) := Mem.cell h rfl
theorem TapeAt.c1 {w : World} {g : Nat} {s : ByteArray} {e : Int} (h : TapeAt w g s e) : w.cell? ⟨g, 1, none⟩ = some (.int .i64 e) := Mem.cell h rfl
theorem TapeAt.fr {w : World} {g : Nat} {s : ByteArray} {e : Int} (h : TapeAt w g s e) (j : Nat) : w.frozen? ⟨g, j, none⟩ = false := Mem.free h
theorem TapeAt.set1 {w : World} {g : Nat} {s : ByteArray} {e x : Int} (h : TapeAt w g s e) : TapeAt (w.setCell ⟨g, 1, none⟩ (.int .i64 x)) g s x := by
  unfold TapeAt
  rw [Mem.set h]
  rfl
theorem TapeAt.set0 {w : World} {g : Nat} {s t : ByteArray} {e : Int} (h : TapeAt w g s e) : TapeAt (w.setCell ⟨g, 0, none⟩ (.string t)) g t e := by
  unfold TapeAt
  rw [Mem.set h]
  rfl
section
variable (s : ByteArray) (e : Int) (g : Nat) (w : World)
set_option maxRecDepth 100000 in
theorem stuck_any (h : TapeAt w g s e) : Calls Tryz.prog 74 #[.pointer (some ⟨g, 0, none⟩)] w fun r w' => r = .returned (.bool (decide (e ≠ 0))) ∧ w' = w := by
  have c1 := h.c1
  clear h
  by_cases he : e = 0
  · subst he
    go_enter Tryz.func74, Tryz.ntmps74
    go_wp2_with fail
    go_ret
    exact ⟨rfl, rfl⟩
  · have e2 : decide (e ≠ 0) = true := by simpa using he
    rw [e2]
    go_enter Tryz.func74, Tryz.ntmps74
    go_wp2_with fail
    go_ret
    simp [he]
set_option maxRecDepth 100000 in
theorem fail_any (x : Int) (h : TapeAt w g s e) : Calls Tryz.prog 76 #[.pointer (some ⟨g, 0, none⟩), .int .i64 x] w fun r w' => r = .returned (.tuple #[]) ∧ TapeAt w' g s x ∧ Mem.Ch (fun k => k = g) w w' := by
  have c1 := h.c1
  have hf := h.fr 1
  have H := Lib.hid h
  clear h
  go_enter Tryz.func76, Tryz.ntmps76
  go_wp2_with fail
  go_end0
  exact ⟨rfl, H.out.set1, (Mem.Ch.refl _ w).set (.inr rfl)⟩
set_option maxRecDepth 100000 in
theorem err_any (h : TapeAt w g s e) : Calls Tryz.prog 90 #[.pointer (some ⟨g, 0, none⟩)] w fun r w' => r = .returned (.int .i64 e) ∧ w' = w := by
  have c1 := h.c1
  clear h
  go_enter Tryz.func90, Tryz.ntmps90
  go_wp2_with fail
  go_ret
  exact ⟨rfl, rfl⟩
set_option maxRecDepth 100000 in
theorem end_any (h : TapeAt w g s e) : Calls Tryz.prog 69 #[.pointer (some ⟨g, 0, none⟩)] w fun r w' => r = .returned (.int .i64 (Tp.ends ⟨s, e⟩)) ∧ w' = w := by
  have c0 := h.c0
  have c1 := h.c1
  have H := Lib.hid h
  clear h
  by_cases he : e = 0
  · subst he
    by_cases h0 : s.size = 0
    · have hnil2 : s.toList.isEmpty = true := by rw [ByteArray.toList_eq, show s.data.toList = [] by rw [← List.length_eq_zero_iff, Array.length_toList]; exact h0]; rfl
      have hE : Tp.ends ⟨s, 0⟩ = 0 := by unfold Tp.ends; rw [if_neg (fun h => h.2 h0)]
      rw [hE]
      clear hE
      go_enter Tryz.func69, Tryz.ntmps69
      go_wp2_with (go_at_call 90; refine (err_any s 0 g w H.out).mono ?_; rintro _ _ ⟨rfl, rfl⟩)
      go_ret
      exact ⟨rfl, rfl⟩
    · have hne2 : s.toList.isEmpty = false := by
        rw [ByteArray.toList_eq]
        cases hh : s.data.toList with
        | nil => exact absurd (by have := congrArg List.length hh; rw [Array.length_toList] at this; exact this) h0
        | cons a b => rfl
      have hE : Tp.ends ⟨s, 0⟩ = 3 := by unfold Tp.ends; rw [if_pos ⟨rfl, h0⟩]
      rw [hE]
      clear hE
      go_enter Tryz.func69, Tryz.ntmps69
      go_wp2_with fail
      go_ret
      exact ⟨rfl, rfl⟩
  · have hE : Tp.ends ⟨s, e⟩ = e := by unfold Tp.ends; rw [if_neg (fun h => he h.1)]
    rw [hE]
    clear hE
    go_enter Tryz.func69, Tryz.ntmps69
    go_wp2_with (go_at_call 90; refine (err_any s e g w H.out).mono ?_; rintro _ _ ⟨rfl, rfl⟩)
    go_ret
    exact ⟨rfl, rfl⟩
set_option maxRecDepth 100000 in
theorem at_any : Calls Tryz.prog 68 #[.string s] w fun r w' => r = .returned (.pointer (some ⟨w.heap.size, 0, none⟩)) ∧ TapeAt w' w.heap.size s 0 ∧ Below w.heap.size w w' := by
  go_enter Tryz.func68, Tryz.ntmps68
  go_wp2_with fail
  go_ret
  exact ⟨rfl, Mem.new w _, (Below.refl _ w).alloc (Nat.le_refl _) _⟩
set_option maxRecDepth 100000 in
set_option maxHeartbeats 2000000 in
theorem tpnum_any (h : TapeAt w g s e) (hs : s.size ≤ 140737488351232) : Calls Tryz.prog 70 #[.pointer (some ⟨g, 0, none⟩)] w fun r w' => r = .returned (.int .u64 ((Tp.num ⟨s, e⟩).2 : Nat)) ∧ TapeAt w' g (Tp.num ⟨s, e⟩).1.s (Tp.num ⟨s, e⟩).1.e ∧ Mem.Ch (fun k => k = g) w w' := by
  have hst := stuck_any s e g w h
  have H := Lib.hid h
  clear h
  by_cases he : e = 0
  · subst he
    have e1 : decide ((0 : Int) ≠ 0) = false := rfl
    rw [e1] at hst
    have hn := tnum_any s g w H.out hs
    have hfit := rdN_fit s.data.toList
    rw [Array.length_toList] at hfit
    unfold Tp.num
    rw [if_neg (by simp)]
    dsimp only
    generalize Sp.rdN s.data.toList = x at hn hfit ⊢
    obtain ⟨n, k, f⟩ := x
    obtain ⟨h1, h2, h3, h4⟩ := hfit
    dsimp only at hn h1 h2 h3 h4 ⊢
    have hk1 : (k : Int) ≤ (s.size : Int) := by have : k ≤ s.size := h2; omega
    have hk0 : (0 : Int) ≤ (k : Int) := by omega
    have HK := Lib.hid (And.intro h1 (And.intro h2 (And.intro h3 h4)))
    clear h1 h2 h3 h4
    go_enter Tryz.func70, Tryz.ntmps70
    go_wp2_with (first
      | (go_at_call 74; refine hst.mono ?_; rintro _ _ ⟨rfl, rfl⟩)
      | (go_at_call 75; refine hn.mono ?_; rintro _ w2 ⟨rfl, hb2⟩; have hT2 := H.out.step hb2)
      | (go_at_call 76; refine (fail_any s 0 g _ f hT2).mono ?_; rintro _ w3 ⟨rfl, hT3, hc3⟩; have c0 := hT3.c0; have hf := hT3.fr 0))
    go_ret
    exact ⟨rfl, hT3.set0, ((Mem.Ch.of_below' hb2).trans' hc3).set (.inr rfl)⟩
  · have e1 : decide (e ≠ 0) = true := by simpa using he
    rw [e1] at hst
    have e2 : Tp.num ⟨s, e⟩ = (⟨s, e⟩, 0) := by unfold Tp.num; rw [if_pos he]
    rw [e2]
    clear e2
    go_enter Tryz.func70, Tryz.ntmps70
    go_wp2_with (go_at_call 74; refine hst.mono ?_; rintro _ _ ⟨rfl, rfl⟩)
    go_ret
    exact ⟨rfl, H.out, Mem.Ch.refl _ _⟩
theorem Tp.num_lt (t : Tp) : t.num.2 < 18446744073709551616 := by
  unfold Tp.num
  split
  · exact (by decide : (0 : Nat) < 18446744073709551616)
  · exact (rdN_fit _).1
theorem unf_bits (n : Nat) (h : n < 18446744073709551616) : bits .xor .i64 (wrap64 ((n : Int) / 2)) (wrap64 (-wrap64 (bits .and .u64 (n : Int) 1))) = Tp.unf n := by
  have e1 : bits .and .u64 (n : Int) 1 = ((n % 2 : Nat) : Int) := by
    rw [show (1 : Int) = ((1 : Nat) : Int) from rfl, u64_and_nat n 1 h (by decide), Nat.and_one_is_mod]
  have e2 : wrap64 ((n : Int) / 2) = ((n / 2 : Nat) : Int) := by unfold wrap64; omega
  have h2 : n / 2 < 9223372036854775808 := by omega
  rw [e1, e2]
  unfold Tp.unf
  by_cases ho : n % 2 = 0
  · have z0 : wrap64 ((0 : Nat) : Int) = 0 := by unfold wrap64; omega
    have z1 : wrap64 (-(0 : Int)) = 0 := by unfold wrap64; omega
    rw [if_pos ho, ho, z0, z1]
    show IntKind.i64.wrap ((BitVec.ofInt 64 ((n / 2 : Nat) : Int) ^^^ BitVec.ofInt 64 0).toNat : Int) = _
    rw [show BitVec.ofInt 64 0 = 0#64 by decide, BitVec.xor_zero, ofInt_u64 _ (by omega)]
    simp [IntKind.wrap, IntKind.bits, IntKind.signed]
    omega
  · have ho1 : n % 2 = 1 := by omega
    have z0 : wrap64 ((1 : Nat) : Int) = 1 := by unfold wrap64; omega
    have z1 : wrap64 (-(1 : Int)) = -1 := by unfold wrap64; omega
    rw [if_neg ho, ho1, z0, z1]
    have := i64_not (n / 2) h2
    have hc : bits .xor .i64 ((n / 2 : Nat) : Int) (-1) = bits .xor .i64 (-1) ((n / 2 : Nat) : Int) := by
      show IntKind.i64.wrap ((BitVec.ofInt 64 ((n / 2 : Nat) : Int) ^^^ BitVec.ofInt 64 (-1)).toNat : Int) = IntKind.i64.wrap ((BitVec.ofInt 64 (-1) ^^^ BitVec.ofInt 64 ((n / 2 : Nat) : Int)).toNat : Int)
      rw [BitVec.xor_comm]
    rw [hc, this]
    omega
set_option maxRecDepth 100000 in
set_option maxHeartbeats 2000000 in
theorem tpint_any (h : TapeAt w g s e) (hs : s.size ≤ 140737488351232) : Calls Tryz.prog 41 #[.pointer (some ⟨g, 0, none⟩)] w fun r w' => r = .returned (.int .i64 (Tp.unf (Tp.num ⟨s, e⟩).2)) ∧ TapeAt w' g (Tp.num ⟨s, e⟩).1.s (Tp.num ⟨s, e⟩).1.e ∧ Mem.Ch (fun k => k = g) w w' := by
  have hn := tpnum_any s e g w h hs
  have hlt := Tp.num_lt ⟨s, e⟩
  generalize Tp.num ⟨s, e⟩ = x at hn hlt ⊢
  obtain ⟨⟨s', e'⟩, n⟩ := x
  dsimp only at hn hlt ⊢
  have HL := Lib.hid hlt
  clear hlt h
  go_enter Tryz.func41, Tryz.ntmps41
  go_wp2_with (go_at_call 70; refine hn.mono ?_; rintro _ w2 ⟨rfl, hT2, hc2⟩)
  go_ret
  exact ⟨congrArg (fun x => Ending.returned (.int .i64 x)) (unf_bits n HL.out), hT2, hc2⟩
set_option maxRecDepth 100000 in
set_option maxHeartbeats 2000000 in
theorem tptext_any (most : Nat) (hm : most ≤ 140737488351232) (h : TapeAt w g s e) (hs : s.size ≤ 140737488351232) : Calls Tryz.prog 51 #[.pointer (some ⟨g, 0, none⟩), .int .i64 most] w fun r w' => r = .returned (.string (Tp.text most ⟨s, e⟩).2) ∧ TapeAt w' g (Tp.text most ⟨s, e⟩).1.s (Tp.text most ⟨s, e⟩).1.e ∧ Mem.Ch (fun k => k = g) w w' := by
  have hst := stuck_any s e g w h
  have H := Lib.hid h
  clear h
  by_cases he : e = 0
  · subst he
    have e1 : decide ((0 : Int) ≠ 0) = false := rfl
    rw [e1] at hst
    have hn := tnum_any s g w H.out hs
    have hfit := rdN_fit s.data.toList
    rw [Array.length_toList] at hfit
    unfold Tp.text
    rw [if_neg (by simp)]
    dsimp only
    generalize Sp.rdN s.data.toList = x at hn hfit ⊢
    obtain ⟨n, k, f⟩ := x
    obtain ⟨h1, h2, h3, h4⟩ := hfit
    dsimp only at hn h1 h2 h3 h4 ⊢
    have hk1 : (k : Int) ≤ (s.size : Int) := by have : k ≤ s.size := h2; omega
    have hk0 : (0 : Int) ≤ (k : Int) := by omega
    have HK := Lib.hid (And.intro h1 (And.intro h2 (And.intro h3 h4)))
    clear h1 h2 h3 h4
    by_cases hf : f = 0
    · subst hf
      rw [if_neg (by simp)]
      by_cases hl : most < n
      · rw [if_pos hl]
        have hl1 : (most : Int) < (n : Int) := by omega
        go_enter Tryz.func51, Tryz.ntmps51
        go_wp2_with (first
          | (go_at_call 74; refine hst.mono ?_; rintro _ _ ⟨rfl, rfl⟩)
          | (go_at_call 75; refine hn.mono ?_; rintro _ w2 ⟨rfl, hb2⟩; have hT2 := H.out.step hb2)
          | (go_at_call 76; refine (fail_any s 0 g _ _ hT2).mono ?_; rintro _ w3 ⟨rfl, hT3, hc3⟩))
        go_ret
        exact ⟨rfl, hT3, (Mem.Ch.of_below' hb2).trans' hc3⟩
      · rw [if_neg hl]
        have hl1 : (n : Int) ≤ (most : Int) := by omega
        have hn0 : (0 : Int) ≤ (n : Int) := by omega
        by_cases hr : s.size - k < n
        · rw [if_pos hr]
          have hr1 : (s.size : Int) - (k : Int) < (n : Int) := by have := HK.out.2.1; have e : s.data.size = s.size := rfl; omega
          have hr0 : (0 : Int) ≤ (s.size : Int) - (k : Int) := by omega
          go_enter Tryz.func51, Tryz.ntmps51
          go_wp2_with (first
            | (go_at_call 74; refine hst.mono ?_; rintro _ _ ⟨rfl, rfl⟩)
            | (go_at_call 75; refine hn.mono ?_; rintro _ w2 ⟨rfl, hb2⟩; have hT2 := H.out.step hb2; have c0 := hT2.c0)
            | (go_at_call 76; refine (fail_any s 0 g _ _ hT2).mono ?_; rintro _ w3 ⟨rfl, hT3, hc3⟩))
          go_ret
          exact ⟨rfl, hT3, (Mem.Ch.of_below' hb2).trans' hc3⟩
        · rw [if_neg hr]
          have hr1 : (n : Int) ≤ (s.size : Int) - (k : Int) := by have := HK.out.2.1; have e : s.data.size = s.size := rfl; omega
          have hr0 : (0 : Int) ≤ (s.size : Int) - (k : Int) := by omega
          have hw1 : wrap64 ((k : Int) + (n : Int)) = (k : Int) + (n : Int) := by unfold wrap64; omega
          have hw2 : wrap64 (n : Int) = (n : Int) := by unfold wrap64; omega
          have hw3 : (k : Int) + (n : Int) ≤ (s.size : Int) := by omega
          have hw4 : (k : Int) ≤ (k : Int) + (n : Int) := by omega
          go_enter Tryz.func51, Tryz.ntmps51
          go_wp2_with (first
            | (go_at_call 74; refine hst.mono ?_; rintro _ _ ⟨rfl, rfl⟩)
            | (go_at_call 75; refine hn.mono ?_; rintro _ w2 ⟨rfl, hb2⟩; have hT2 := H.out.step hb2; have c0 := hT2.c0; have hf0 := hT2.fr 0))
          go_ret
          exact ⟨rfl, hT2.set0, (Mem.Ch.of_below' hb2).set (.inr rfl)⟩
    · rw [if_pos hf]
      have hf1 : f ≠ 0 := hf
      go_enter Tryz.func51, Tryz.ntmps51
      go_wp2_with (first
        | (go_at_call 74; refine hst.mono ?_; rintro _ _ ⟨rfl, rfl⟩)
        | (go_at_call 75; refine hn.mono ?_; rintro _ w2 ⟨rfl, hb2⟩; have hT2 := H.out.step hb2)
        | (go_at_call 76; refine (fail_any s 0 g _ _ hT2).mono ?_; rintro _ w3 ⟨rfl, hT3, hc3⟩))
      go_ret
      exact ⟨rfl, hT3, (Mem.Ch.of_below' hb2).trans' hc3⟩
  · have e1 : decide (e ≠ 0) = true := by simpa using he
    rw [e1] at hst
    have e2 : Tp.text most ⟨s, e⟩ = (⟨s, e⟩, ⟨#[]⟩) := by unfold Tp.text; rw [if_pos he]
    rw [e2]
    clear e2
    go_enter Tryz.func51, Tryz.ntmps51
    go_wp2_with (go_at_call 74; refine hst.mono ?_; rintro _ _ ⟨rfl, rfl⟩)
    go_ret
    exact ⟨rfl, H.out, Mem.Ch.refl _ _⟩
end
end Go.Proofs.YtpdceondgbgpkaaGreatDoor
namespace Go.Proofs.YtpdceondgbgpkaaGreatDoor
open Go.RowKit
set_option linter.unusedSimpArgs false
set_option linter.unusedVariables false
open Sp (fold intB textS bs)
structure Vt where
  term : Int
  to : Int
structure Sn where
  index : Int
  term : Int
  mask : Int
  text : ByteArray
namespace Vt
def cells (v : Vt) : List Value := [.int .i64 v.term, .int .i64 v.to]
def val (v : Vt) : Value := .agg #[.int .i64 v.term, .int .i64 v.to]
def ok (v : Vt) : Prop := 0 ≤ v.term ∧ v.term ≤ 549755813888 ∧ -1 ≤ v.to ∧ v.to ≤ 6
instance (v : Vt) : Decidable v.ok := by unfold ok; exact inferInstance
end Vt
namespace Sn
def val (s : Sn) : Value := .agg #[.int .i64 s.index, .int .i64 s.term, .int .i64 s.mask, .string s.text]
def ok (s : Sn) : Prop := 0 ≤ s.index ∧ s.index ≤ 549755813888 ∧ 0 ≤ s.term ∧ s.term ≤ 549755813888 ∧ 0 ≤ s.mask ∧ s.mask ≤ 127 ∧ s.text.size ≤ 262144
instance (s : Sn) : Decidable s.ok := by unfold ok; exact inferInstance
end Sn
set_option maxRecDepth 100000 in
theorem within_any (n m : Int) (w : World) : Calls Tryz.prog 71 #[.int .i64 n, .int .i64 m] w fun r w' => r = .returned (.bool (decide (0 ≤ n ∧ n ≤ m))) ∧ w' = w := by
  by_cases h0 : 0 ≤ n
  · by_cases h1 : n ≤ m
    · rw [decide_eq_true ⟨h0, h1⟩]
      go_enter Tryz.func71, Tryz.ntmps71
      go_wp2_with fail
      go_ret
      simp [h0, h1]
    · rw [decide_eq_false (fun h => h1 h.2)]
      go_enter Tryz.func71, Tryz.ntmps71
      go_wp2_with fail
      go_ret
      simp [h0, h1]
  · rw [decide_eq_false (fun h => h0 h.1)]
    go_enter Tryz.func71, Tryz.ntmps71
    go_wp2_with fail
    go_ret
    simp [h0]
theorem within_yes {n m : Int} (h0 : 0 ≤ n) (h1 : n ≤ m) (w : World) : Calls Tryz.prog 71 #[.int .i64 n, .int .i64 m] w fun r w' => r = .returned (.bool true) ∧ w' = w := by
  have := within_any n m w
  rw [decide_eq_true ⟨h0, h1⟩] at this
  exact this
theorem within_no {n m : Int} (h : ¬ (0 ≤ n ∧ n ≤ m)) (w : World) : Calls Tryz.prog 71 #[.int .i64 n, .int .i64 m] w fun r w' => r = .returned (.bool false) ∧ w' = w := by
  have := within_any n m w
  rw [decide_eq_false h] at this
  exact this
set_option maxRecDepth 100000 in
set_option maxHeartbeats 2000000 in
theorem voted_any (v : Vt) (w : World) : Calls Tryz.prog 42 #[v.val] w fun r w' => r = .returned (.bool (decide v.ok)) ∧ Below w.heap.size w w' := by
  obtain ⟨a, b⟩ := v
  have hb : Below w.heap.size w (w.alloc (.cells #[.int .i64 a, .int .i64 b] 33)) := (Below.refl _ w).alloc (Nat.le_refl _) _
  unfold Vt.val
  dsimp only
  by_cases h0 : 0 ≤ a ∧ a ≤ 549755813888
  · have hw := fun W => within_yes h0.1 h0.2 W
    by_cases h1 : -1 ≤ b
    · by_cases h2 : b ≤ 6
      · have h3 : b < 7 := by omega
        rw [decide_eq_true (show Vt.ok ⟨a, b⟩ from ⟨h0.1, h0.2, h1, h2⟩)]
        go_enter Tryz.func42, Tryz.ntmps42
        go_wp2_with (go_at_call 71; refine (hw _).mono ?_; rintro _ _ ⟨rfl, rfl⟩)
        go_ret
        exact ⟨by simp [h1, h3], hb⟩
      · have h3 : 7 ≤ b := by omega
        rw [decide_eq_false (show ¬ Vt.ok ⟨a, b⟩ from fun h => h2 h.2.2.2)]
        go_enter Tryz.func42, Tryz.ntmps42
        go_wp2_with (go_at_call 71; refine (hw _).mono ?_; rintro _ _ ⟨rfl, rfl⟩)
        go_ret
        exact ⟨by simp [h1, h3], hb⟩
    · have h3 : b < -1 := by omega
      rw [decide_eq_false (show ¬ Vt.ok ⟨a, b⟩ from fun h => h1 h.2.2.1)]
      go_enter Tryz.func42, Tryz.ntmps42
      go_wp2_with (go_at_call 71; refine (hw _).mono ?_; rintro _ _ ⟨rfl, rfl⟩)
      go_ret
      exact ⟨by simp [h1, h3], hb⟩
  · have hw := fun W => within_no h0 W
    rw [decide_eq_false (show ¬ Vt.ok ⟨a, b⟩ from fun h => h0 ⟨h.1, h.2.1⟩)]
    go_enter Tryz.func42, Tryz.ntmps42
    go_wp2_with (go_at_call 71; refine (hw _).mono ?_; rintro _ _ ⟨rfl, rfl⟩)
    go_ret
    exact ⟨rfl, hb⟩
set_option maxRecDepth 100000 in
set_option maxHeartbeats 2000000 in
theorem may_any (s : Sn) (w : World) : Calls Tryz.prog 52 #[s.val] w fun r w' => r = .returned (.bool (decide s.ok)) ∧ Below w.heap.size w w' := by
  obtain ⟨a, b, c, t⟩ := s
  have hb : Below w.heap.size w (w.alloc (.cells #[.int .i64 a, .int .i64 b, .int .i64 c, .string t] 40)) := (Below.refl _ w).alloc (Nat.le_refl _) _
  have tok1 : True := trivial
  have tok2 : True := trivial
  unfold Sn.val
  dsimp only
  by_cases h0 : 0 ≤ a ∧ a ≤ 549755813888
  · have hw0 := fun W => within_yes h0.1 h0.2 W
    by_cases h1 : 0 ≤ b ∧ b ≤ 549755813888
    · have hw1 := fun W => within_yes h1.1 h1.2 W
      by_cases h2 : 0 ≤ c ∧ c ≤ 127
      · have hw2 := fun W => within_yes h2.1 h2.2 W
        by_cases h3 : (t.size : Int) ≤ 262144
        · rw [decide_eq_true (show Sn.ok ⟨a, b, c, t⟩ from ⟨h0.1, h0.2, h1.1, h1.2, h2.1, h2.2, show t.size ≤ 262144 by omega⟩)]
          go_enter Tryz.func52, Tryz.ntmps52
          go_wp2_with (first
            | (go_at_call 71; have _t := tok1; refine (hw0 _).mono ?_; rintro _ _ ⟨rfl, rfl⟩; clear tok1)
            | (go_at_call 71; have _t := tok2; refine (hw1 _).mono ?_; rintro _ _ ⟨rfl, rfl⟩; clear tok2)
            | (go_at_call 71; refine (hw2 _).mono ?_; rintro _ _ ⟨rfl, rfl⟩))
          go_ret
          exact ⟨by simp [h3], hb⟩
        · rw [decide_eq_false (show ¬ Sn.ok ⟨a, b, c, t⟩ from fun h => h3 (by have h4 : t.size ≤ 262144 := h.2.2.2.2.2.2; omega))]
          go_enter Tryz.func52, Tryz.ntmps52
          go_wp2_with (first
            | (go_at_call 71; have _t := tok1; refine (hw0 _).mono ?_; rintro _ _ ⟨rfl, rfl⟩; clear tok1)
            | (go_at_call 71; have _t := tok2; refine (hw1 _).mono ?_; rintro _ _ ⟨rfl, rfl⟩; clear tok2)
            | (go_at_call 71; refine (hw2 _).mono ?_; rintro _ _ ⟨rfl, rfl⟩))
          go_ret
          exact ⟨by simp [h3], hb⟩
      · have hw2 := fun W => within_no h2 W
        rw [decide_eq_false (show ¬ Sn.ok ⟨a, b, c, t⟩ from fun h => h2 ⟨h.2.2.2.2.1, h.2.2.2.2.2.1⟩)]
        go_enter Tryz.func52, Tryz.ntmps52
        go_wp2_with (first
          | (go_at_call 71; have _t := tok1; refine (hw0 _).mono ?_; rintro _ _ ⟨rfl, rfl⟩; clear tok1)
          | (go_at_call 71; have _t := tok2; refine (hw1 _).mono ?_; rintro _ _ ⟨rfl, rfl⟩; clear tok2)
          | (go_at_call 71; refine (hw2 _).mono ?_; rintro _ _ ⟨rfl, rfl⟩))
        go_ret
        exact ⟨rfl, hb⟩
    · have hw1 := fun W => within_no h1 W
      rw [decide_eq_false (show ¬ Sn.ok ⟨a, b, c, t⟩ from fun h => h1 ⟨h.2.2.1, h.2.2.2.1⟩)]
      go_enter Tryz.func52, Tryz.ntmps52
      go_wp2_with (first
        | (go_at_call 71; have _t := tok1; refine (hw0 _).mono ?_; rintro _ _ ⟨rfl, rfl⟩; clear tok1)
        | (go_at_call 71; refine (hw1 _).mono ?_; rintro _ _ ⟨rfl, rfl⟩))
      go_ret
      exact ⟨rfl, hb⟩
  · have hw0 := fun W => within_no h0 W
    rw [decide_eq_false (show ¬ Sn.ok ⟨a, b, c, t⟩ from fun h => h0 ⟨h.1, h.2.1⟩)]
    go_enter Tryz.func52, Tryz.ntmps52
    go_wp2_with (go_at_call 71; refine (hw0 _).mono ?_; rintro _ _ ⟨rfl, rfl⟩)
    go_ret
    exact ⟨rfl, hb⟩
/-- A number that is not above the greatest index; else one that may not be. -/
def numN (n : Nat) : Int := if 549755813888 < n then -1 else n
set_option maxRecDepth 100000 in
set_option maxHeartbeats 2000000 in
theorem number_any (s : ByteArray) (e : Int) (g : Nat) (w : World) (h : TapeAt w g s e) (hs : s.size ≤ 140737488351232) : Calls Tryz.prog 40 #[.pointer (some ⟨g, 0, none⟩)] w fun r w' => r = .returned (.int .i64 (numN (Tp.num ⟨s, e⟩).2)) ∧ TapeAt w' g (Tp.num ⟨s, e⟩).1.s (Tp.num ⟨s, e⟩).1.e ∧ Mem.Ch (fun k => k = g) w w' := by
  have hn := tpnum_any s e g w h hs
  generalize Tp.num ⟨s, e⟩ = x at hn ⊢
  obtain ⟨⟨s', e'⟩, n⟩ := x
  dsimp only at hn ⊢
  clear h
  unfold numN
  by_cases hl : 549755813888 < n
  · rw [if_pos hl]
    have hl1 : (549755813888 : Int) < (n : Int) := by omega
    go_enter Tryz.func40, Tryz.ntmps40
    go_wp2_with (go_at_call 70; refine hn.mono ?_; rintro _ w2 ⟨rfl, hT2, hc2⟩)
    go_ret
    exact ⟨rfl, hT2, hc2⟩
  · rw [if_neg hl]
    have hl1 : (n : Int) ≤ (549755813888 : Int) := by omega
    have hw : wrap64 (n : Int) = n := by unfold wrap64; omega
    go_enter Tryz.func40, Tryz.ntmps40
    go_wp2_with (go_at_call 70; refine hn.mono ?_; rintro _ w2 ⟨rfl, hT2, hc2⟩)
    go_ret
    exact ⟨rfl, hT2, hc2⟩
end Go.Proofs.YtpdceondgbgpkaaGreatDoor
namespace Go.Proofs.YtpdceondgbgpkaaGreatDoor
open Go.RowKit
set_option linter.unusedSimpArgs false
set_option linter.unusedVariables false
open Sp (fold intB textS bs)
theorem Tp.num_size (t : Tp) : t.num.1.s.size ≤ t.s.size := by
  unfold Tp.num
  split
  · exact Nat.le_refl _
  · rw [ByteArray.size_extract]; omega
def Vt.rd (t : Tp) : Vt × Tp := (⟨numN t.num.2, Tp.unf t.num.1.num.2⟩, t.num.1.num.1)
def Sn.rd (t : Tp) : Sn × Tp := (⟨numN t.num.2, numN t.num.1.num.2, numN t.num.1.num.1.num.2, (t.num.1.num.1.num.1.text 262144).2⟩, (t.num.1.num.1.num.1.text 262144).1)
def Vt.read (s : ByteArray) : Vt × Int := if (Vt.rd ⟨s, 0⟩).2.ends = 0 ∧ (Vt.rd ⟨s, 0⟩).1.ok then ((Vt.rd ⟨s, 0⟩).1, 0) else (⟨0, 0⟩, 3)
def Sn.read (s : ByteArray) : Sn × Int := if (Sn.rd ⟨s, 0⟩).2.ends = 0 ∧ (Sn.rd ⟨s, 0⟩).1.ok then ((Sn.rd ⟨s, 0⟩).1, 0) else (⟨0, 0, 0, ⟨#[]⟩⟩, 3)
section
variable (s : ByteArray) (e : Int) (g : Nat) (w : World)
set_option maxRecDepth 100000 in
set_option maxHeartbeats 4000000 in
theorem rv1_any (h : TapeAt w g s e) (hs : s.size ≤ 140737488351232) : Calls Tryz.prog 39 #[.pointer (some ⟨g, 0, none⟩)] w fun r w' => r = .returned (Vt.rd ⟨s, e⟩).1.val ∧ TapeAt w' g (Vt.rd ⟨s, e⟩).2.s (Vt.rd ⟨s, e⟩).2.e ∧ Mem.Ch (fun k => k = g) w w' := by
  have hz := Tp.num_size ⟨s, e⟩
  unfold Vt.rd Vt.val
  dsimp only at hz ⊢
  have hn := fun W (h : TapeAt W g s e) => number_any s e g W h hs
  generalize Tp.num ⟨s, e⟩ = x at hn hz ⊢
  obtain ⟨⟨s2, e2⟩, n2⟩ := x
  dsimp only at hn hz ⊢
  have hi := fun W (h : TapeAt W g s2 e2) => tpint_any s2 e2 g W h (by omega)
  generalize Tp.num ⟨s2, e2⟩ = x at hi ⊢
  obtain ⟨⟨s3, e3⟩, n3⟩ := x
  dsimp only at hi ⊢
  generalize numN n2 = a at hn ⊢
  generalize Tp.unf n3 = b at hi ⊢
  have hg := Mem.lt h
  have h1 : TapeAt (w.alloc (.cells #[.int .i64 0, .int .i64 0] 33)) g s e := h.step ((Below.refl _ w).alloc (Nat.le_refl _) _)
  have hres := Mem.new w (.cells #[.int .i64 0, .int .i64 0] 33)
  clear h
  go_enter Tryz.func39, Tryz.ntmps39
  go_wp2_with (first
    | (go_at_call 40; refine (hn _ h1).mono ?_; rintro _ w2 ⟨rfl, hT2, hc2⟩)
    | (go_at_call 41; refine (hi _ hT2).mono ?_; rintro _ w3 ⟨rfl, hT3, hc3⟩; have hres3 := (hc2.trans' hc3).at_ hres (by omega); have hf0 : w3.frozen? ⟨w.heap.size, 0, none⟩ = false := Mem.free hres3; have hf1 : w3.frozen? ⟨w.heap.size, 1, none⟩ = false := Mem.free hres3; have hr0 : w3.cell? ⟨w.heap.size, 0, none⟩ = some (.int .i64 0) := Mem.cell hres3 rfl; have hr1 : w3.cell? ⟨w.heap.size, 1, none⟩ = some (.int .i64 0) := Mem.cell hres3 rfl))
  have hq := Mem.set (j := 1) (u := .int .i64 b) (Mem.set (j := 0) (u := .int .i64 a) hres3)
  have q0 := Mem.cell (j := 0) (v := .int .i64 a) hq rfl
  have q1 := Mem.cell (j := 1) (v := .int .i64 b) hq rfl
  refine bodyPost_ret (v := .agg #[.int .i64 a, .int .i64 b]) (by simp [results, Tryz.results39, go_sem, *]) rfl ⟨rfl, Mem.set_ne (Mem.set_ne hT3 (by omega)) (by omega), ?_⟩
  exact ((((Mem.Ch.of_below' ((Below.refl _ w).alloc (Nat.le_refl _) _)).trans' hc2).trans' hc3).set (.inl (Nat.le_refl _))).set (.inl (Nat.le_refl _))
set_option maxRecDepth 100000 in
set_option maxHeartbeats 4000000 in
theorem rs1_any (h : TapeAt w g s e) (hs : s.size ≤ 140737488351232) : Calls Tryz.prog 50 #[.pointer (some ⟨g, 0, none⟩)] w fun r w' => r = .returned (Sn.rd ⟨s, e⟩).1.val ∧ TapeAt w' g (Sn.rd ⟨s, e⟩).2.s (Sn.rd ⟨s, e⟩).2.e ∧ Mem.Ch (fun k => k = g) w w' := by
  have tok1 : True := trivial
  have tok2 : True := trivial
  have hz := Tp.num_size ⟨s, e⟩
  unfold Sn.rd Sn.val
  dsimp only at hz ⊢
  have hn := fun W (h : TapeAt W g s e) => number_any s e g W h hs
  generalize Tp.num ⟨s, e⟩ = x at hn hz ⊢
  obtain ⟨⟨s2, e2⟩, n2⟩ := x
  dsimp only at hn hz ⊢
  have hi := fun W (h : TapeAt W g s2 e2) => number_any s2 e2 g W h (by omega)
  have hz2 := Tp.num_size ⟨s2, e2⟩
  dsimp only at hz2
  generalize Tp.num ⟨s2, e2⟩ = x at hi hz2 ⊢
  obtain ⟨⟨s3, e3⟩, n3⟩ := x
  dsimp only at hi hz2 ⊢
  have hj := fun W (h : TapeAt W g s3 e3) => number_any s3 e3 g W h (by omega)
  have hz3 := Tp.num_size ⟨s3, e3⟩
  dsimp only at hz3
  generalize Tp.num ⟨s3, e3⟩ = x at hj hz3 ⊢
  obtain ⟨⟨s4, e4⟩, n4⟩ := x
  dsimp only at hj hz3 ⊢
  have ht := fun W (h : TapeAt W g s4 e4) => tptext_any s4 e4 g W 262144 (by decide) h (by omega)
  generalize Tp.text 262144 ⟨s4, e4⟩ = x at ht ⊢
  obtain ⟨⟨s5, e5⟩, tx⟩ := x
  dsimp only at ht ⊢
  generalize numN n2 = a at hn ⊢
  generalize numN n3 = b at hi ⊢
  generalize numN n4 = c at hj ⊢
  have hg := Mem.lt h
  have h1 : TapeAt (w.alloc (.cells #[.int .i64 0, .int .i64 0, .int .i64 0, .string ⟨#[]⟩] 40)) g s e := h.step ((Below.refl _ w).alloc (Nat.le_refl _) _)
  have hres := Mem.new w (.cells #[.int .i64 0, .int .i64 0, .int .i64 0, .string ⟨#[]⟩] 40)
  have ht' : ∀ W, TapeAt W g s4 e4 → Calls Tryz.prog 51 #[.pointer (some ⟨g, 0, none⟩), .int .i64 262144] W fun r w' => r = .returned (.string tx) ∧ TapeAt w' g s5 e5 ∧ Mem.Ch (fun k => k = g) W w' := ht
  clear h hs hz hz2 hz3 ht
  go_enter Tryz.func50, Tryz.ntmps50
  go_wp2_with (first
    | (go_at_call 40; have _t := tok1; refine (hn _ h1).mono ?_; rintro _ w2 ⟨rfl, hT2, hc2⟩; clear tok1)
    | (go_at_call 40; have _t := tok2; refine (hi _ hT2).mono ?_; rintro _ w3 ⟨rfl, hT3, hc3⟩; clear tok2)
    | (go_at_call 40; refine (hj _ hT3).mono ?_; rintro _ w4 ⟨rfl, hT4, hc4⟩)
    | (go_at_call 51; refine (ht' _ hT4).mono ?_; rintro _ w5 ⟨rfl, hT5, hc5⟩; have hch := ((hc2.trans' hc3).trans' hc4).trans' hc5; have hres3 := hch.at_ hres (by omega); have hf0 : w5.frozen? ⟨w.heap.size, 0, none⟩ = false := Mem.free hres3; have hf1 : w5.frozen? ⟨w.heap.size, 1, none⟩ = false := Mem.free hres3; have hf2 : w5.frozen? ⟨w.heap.size, 2, none⟩ = false := Mem.free hres3; have hf3 : w5.frozen? ⟨w.heap.size, 3, none⟩ = false := Mem.free hres3; have hr0 : w5.cell? ⟨w.heap.size, 0, none⟩ = some (.int .i64 0) := Mem.cell hres3 rfl; have hr1 : w5.cell? ⟨w.heap.size, 1, none⟩ = some (.int .i64 0) := Mem.cell hres3 rfl; have hr2 : w5.cell? ⟨w.heap.size, 2, none⟩ = some (.int .i64 0) := Mem.cell hres3 rfl; have hr3 : w5.cell? ⟨w.heap.size, 3, none⟩ = some (.string ⟨#[]⟩) := Mem.cell hres3 rfl))
  have hq := Mem.set (j := 3) (u := .string tx) (Mem.set (j := 2) (u := .int .i64 c) (Mem.set (j := 1) (u := .int .i64 b) (Mem.set (j := 0) (u := .int .i64 a) hres3)))
  have q0 := Mem.cell (j := 0) (v := .int .i64 a) hq rfl
  have q1 := Mem.cell (j := 1) (v := .int .i64 b) hq rfl
  have q2 := Mem.cell (j := 2) (v := .int .i64 c) hq rfl
  have q3 := Mem.cell (j := 3) (v := .string tx) hq rfl
  have HC := Lib.hid hch
  clear hch hc2 hc3 hc4 hc5
  refine bodyPost_ret (v := .agg #[.int .i64 a, .int .i64 b, .int .i64 c, .string tx]) (by simp [results, Tryz.results50, go_sem, *]) rfl ⟨rfl, Mem.set_ne (Mem.set_ne (Mem.set_ne (Mem.set_ne hT5 (by omega)) (by omega)) (by omega)) (by omega), ?_⟩
  exact (((((Mem.Ch.of_below' ((Below.refl _ w).alloc (Nat.le_refl _) _)).trans' HC.out).set (.inl (Nat.le_refl _))).set (.inl (Nat.le_refl _))).set (.inl (Nat.le_refl _))).set (.inl (Nat.le_refl _))
end
end Go.Proofs.YtpdceondgbgpkaaGreatDoor
