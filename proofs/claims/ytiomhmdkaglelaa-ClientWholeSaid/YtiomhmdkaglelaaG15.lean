/- A tape's methods. · book: a number that is not above another one, off a tape. · book: its text, plain. · A range over a function whose iterator tells, at each round, what holds of the value that it yields. -/
import Derived.Test.YtiomhmdkaglelaaG14
import Derived.Laws.DeepNot64
import Derived.RangeFuncNested
namespace Go.Proofs.Ytiomhmdkaglelaa
open Go.RowKit
set_option linter.unusedSimpArgs false
set_option linter.unusedVariables false
/-- What is left, and the error. -/
structure Tp where
  s : ByteArray
  e : Int
namespace Tp
def num (t : Tp) : Tp × Nat := if t.e ≠ 0 then (t, 0) else (⟨t.s.extract (Sp.rdN t.s.data.toList).2.1 t.s.size, (Sp.rdN t.s.data.toList).2.2⟩, (Sp.rdN t.s.data.toList).1)
def unf (n : Nat) : Int := if n % 2 = 0 then ((n / 2 : Nat) : Int) else -((n / 2 : Nat) : Int) - 1
def text (most : Nat) (t : Tp) : Tp × ByteArray :=
  if t.e ≠ 0 then (t, ⟨#[]⟩) else if (Sp.rdN t.s.data.toList).2.2 ≠ 0 then (⟨t.s, (Sp.rdN t.s.data.toList).2.2⟩, ⟨#[]⟩)
  else if most < (Sp.rdN t.s.data.toList).1 then (⟨t.s, 2⟩, ⟨#[]⟩) else if t.s.size - (Sp.rdN t.s.data.toList).2.1 < (Sp.rdN t.s.data.toList).1 then (⟨t.s, 5⟩, ⟨#[]⟩)
  else (⟨t.s.extract ((Sp.rdN t.s.data.toList).2.1 + (Sp.rdN t.s.data.toList).1) t.s.size, 0⟩, t.s.extract (Sp.rdN t.s.data.toList).2.1 ((Sp.rdN t.s.data.toList).2.1 + (Sp.rdN t.s.data.toList).1))
def ends (t : Tp) : Int := if t.e = 0 ∧ t.s.size ≠ 0 then 3 else t.e
end Tp
set_option maxRecDepth 100000 in
theorem rdN_fit (l : List UInt8) : (Sp.rdN l).1 < 18446744073709551616 ∧ (Sp.rdN l).2.1 ≤ l.length ∧ 0 ≤ (Sp.rdN l).2.2 ∧ (Sp.rdN l).2.2 ≤ 5 := by
  cases l with
  | nil => simp [Sp.rdN]
  | cons c r =>
    have hc : c.toNat < 256 := c.toNat_lt
    by_cases h1 : c.toNat ≤ 247
    · rw [Sp.rdN, if_pos h1]
      refine ⟨?_, ?_, ?_, ?_⟩ <;> simp
      omega
    · by_cases h2 : r.length < c.toNat - 247
      · rw [Sp.rdN, if_neg h1, if_pos h2]
        simp
      · by_cases h3 : r.headD 0 = 0 ∨ Sp.val (r.take (c.toNat - 247)) ≤ 247
        · rw [Sp.rdN, if_neg h1, if_neg h2, if_pos h3]
          simp
        · rw [Sp.rdN, if_neg h1, if_neg h2, if_neg h3]
          have hlt := Sp.val_lt (r.take (c.toNat - 247))
          have h8 : 256 ^ (r.take (c.toNat - 247)).length ≤ 256 ^ 8 := Nat.pow_le_pow_right (by decide) (by rw [List.length_take]; omega)
          have hn64 : Sp.val (r.take (c.toNat - 247)) < 18446744073709551616 := Nat.lt_of_lt_of_le hlt h8
          refine ⟨hn64, ?_, ?_, ?_⟩ <;> simp
          omega
theorem TapeAt.step {w w' : World} {g : Nat} {s : ByteArray} {e : Int} (h : TapeAt w g s e) (hb : Below w.heap.size w w') : TapeAt w' g s e := (hb.block g (Mem.lt h)).trans h
theorem TapeAt.c0 {w : World} {g : Nat} {s : ByteArray} {e : Int} (h : TapeAt w g s e) : w.cell? ⟨g, 0, none⟩ = some (.string s) := Mem.cell h rfl
theorem TapeAt.c1 {w : World} {g : Nat} {s : ByteArray} {e : Int} (h : TapeAt w g s e) : w.cell? ⟨g, 1, none⟩ = some (.int .i64 e) := Mem.cell h rfl
theorem TapeAt.fr {w : World} {g : Nat} {s : ByteArray} {e : Int} (h : TapeAt w g s e) (j : Nat) : w.frozen? ⟨g, j, none⟩ = false := Mem.free h
theorem TapeAt.set1 {w : World} {g : Nat} {s : ByteArray} {e x : Int} (h : TapeAt w g s e) : TapeAt (w.setCell ⟨g, 1, none⟩ (.int .i64 x)) g s x := by
  unfold TapeAt
  rw [Mem.set h]
  rfl
theorem TapeAt.set0 {w : World} {g : Nat} {s t : ByteArray} {e : Int} (h : TapeAt w g s e) : TapeAt (w.setCell ⟨g, 0, none⟩ (.string t)) g t e := by
  unfold TapeAt
  rw [Mem.set h]
  rfl
section
variable (s : ByteArray) (e : Int) (g : Nat) (w : World)
set_option maxRecDepth 100000 in
theorem stuck_any (h : TapeAt w g s e) : Calls Try.prog 51 #[.pointer (some ⟨g, 0, none⟩)] w fun r w' => r = .returned (.bool (decide (e ≠ 0))) ∧ w' = w := by
  have c1 := h.c1
  clear h
  by_cases he : e = 0
  · subst he
    go_enter Try.func51, Try.ntmps51
    go_wp2_with fail
    go_ret
    exact ⟨rfl, rfl⟩
  · have e2 : decide (e ≠ 0) = true := by simpa using he
    rw [e2]
    go_enter Try.func51, Try.ntmps51
    go_wp2_with fail
    go_ret
    simp [he]
set_option maxRecDepth 100000 in
theorem fail_any (x : Int) (h : TapeAt w g s e) : Calls Try.prog 53 #[.pointer (some ⟨g, 0, none⟩), .int .i64 x] w fun r w' => r = .returned (.tuple #[]) ∧ TapeAt w' g s x ∧ Mem.Ch (fun k => k = g) w w' := by
  have c1 := h.c1
  have hf := h.fr 1
  have H := Lib.hid h
  clear h
  go_enter Try.func53, Try.ntmps53
  go_wp2_with fail
  go_end0
  exact ⟨rfl, H.out.set1, (Mem.Ch.refl _ w).set (.inr rfl)⟩
set_option maxRecDepth 100000 in
theorem err_any (h : TapeAt w g s e) : Calls Try.prog 46 #[.pointer (some ⟨g, 0, none⟩)] w fun r w' => r = .returned (.int .i64 e) ∧ w' = w := by
  have c1 := h.c1
  clear h
  go_enter Try.func46, Try.ntmps46
  go_wp2_with fail
  go_ret
  exact ⟨rfl, rfl⟩
set_option maxRecDepth 100000 in
theorem end_any (h : TapeAt w g s e) : Calls Try.prog 35 #[.pointer (some ⟨g, 0, none⟩)] w fun r w' => r = .returned (.int .i64 (Tp.ends ⟨s, e⟩)) ∧ w' = w := by
  have c0 := h.c0
  have c1 := h.c1
  have H := Lib.hid h
  clear h
  by_cases he : e = 0
  · subst he
    by_cases h0 : s.size = 0
    · have hnil2 : s.toList.isEmpty = true := by rw [ByteArray.toList_eq, show s.data.toList = [] by rw [← List.length_eq_zero_iff, Array.length_toList]; exact h0]; rfl
      have hE : Tp.ends ⟨s, 0⟩ = 0 := by unfold Tp.ends; rw [if_neg (fun h => h.2 h0)]
      rw [hE]
      clear hE
      go_enter Try.func35, Try.ntmps35
      go_wp2_with (go_at_call 46; refine (err_any s 0 g w H.out).mono ?_; rintro _ _ ⟨rfl, rfl⟩)
      go_ret
      exact ⟨rfl, rfl⟩
    · have hne2 : s.toList.isEmpty = false := by
        rw [ByteArray.toList_eq]
        cases hh : s.data.toList with
        | nil => exact absurd (by have := congrArg List.length hh; rw [Array.length_toList] at this; exact this) h0
        | cons a b => rfl
      have hE : Tp.ends ⟨s, 0⟩ = 3 := by unfold Tp.ends; rw [if_pos ⟨rfl, h0⟩]
      rw [hE]
      clear hE
      go_enter Try.func35, Try.ntmps35
      go_wp2_with fail
      go_ret
      exact ⟨rfl, rfl⟩
  · have hE : Tp.ends ⟨s, e⟩ = e := by unfold Tp.ends; rw [if_neg (fun h => he h.1)]
    rw [hE]
    clear hE
    go_enter Try.func35, Try.ntmps35
    go_wp2_with (go_at_call 46; refine (err_any s e g w H.out).mono ?_; rintro _ _ ⟨rfl, rfl⟩)
    go_ret
    exact ⟨rfl, rfl⟩
set_option maxRecDepth 100000 in
theorem at_any : Calls Try.prog 32 #[.string s] w fun r w' => r = .returned (.pointer (some ⟨w.heap.size, 0, none⟩)) ∧ TapeAt w' w.heap.size s 0 ∧ Below w.heap.size w w' := by
  go_enter Try.func32, Try.ntmps32
  go_wp2_with fail
  go_ret
  exact ⟨rfl, Mem.new w _, (Below.refl _ w).alloc (Nat.le_refl _) _⟩
set_option maxRecDepth 100000 in
set_option maxHeartbeats 2000000 in
theorem tpnum_any (h : TapeAt w g s e) (hs : s.size ≤ 140737488351232) : Calls Try.prog 45 #[.pointer (some ⟨g, 0, none⟩)] w fun r w' => r = .returned (.int .u64 ((Tp.num ⟨s, e⟩).2 : Nat)) ∧ TapeAt w' g (Tp.num ⟨s, e⟩).1.s (Tp.num ⟨s, e⟩).1.e ∧ Mem.Ch (fun k => k = g) w w' := by
  have hst := stuck_any s e g w h
  have H := Lib.hid h
  clear h
  by_cases he : e = 0
  · subst he
    have e1 : decide ((0 : Int) ≠ 0) = false := rfl
    rw [e1] at hst
    have hn := tnum_any s g w H.out hs
    have hfit := rdN_fit s.data.toList
    rw [Array.length_toList] at hfit
    unfold Tp.num
    rw [if_neg (by simp)]
    dsimp only
    generalize Sp.rdN s.data.toList = x at hn hfit ⊢
    obtain ⟨n, k, f⟩ := x
    obtain ⟨h1, h2, h3, h4⟩ := hfit
    dsimp only at hn h1 h2 h3 h4 ⊢
    have hk1 : (k : Int) ≤ (s.size : Int) := by have : k ≤ s.size := h2; omega
    have hk0 : (0 : Int) ≤ (k : Int) := by omega
    have HK := Lib.hid (And.intro h1 (And.intro h2 (And.intro h3 h4)))
    clear h1 h2 h3 h4
    go_enter Try.func45, Try.ntmps45
    go_wp2_with (first
      | (go_at_call 51; refine hst.mono ?_; rintro _ _ ⟨rfl, rfl⟩)
      | (go_at_call 52; refine hn.mono ?_; rintro _ w2 ⟨rfl, hb2⟩; have hT2 := H.out.step hb2)
      | (go_at_call 53; refine (fail_any s 0 g _ f hT2).mono ?_; rintro _ w3 ⟨rfl, hT3, hc3⟩; have c0 := hT3.c0; have hf := hT3.fr 0))
    go_ret
    exact ⟨rfl, hT3.set0, ((Mem.Ch.of_below' hb2).trans' hc3).set (.inr rfl)⟩
  · have e1 : decide (e ≠ 0) = true := by simpa using he
    rw [e1] at hst
    have e2 : Tp.num ⟨s, e⟩ = (⟨s, e⟩, 0) := by unfold Tp.num; rw [if_pos he]
    rw [e2]
    clear e2
    go_enter Try.func45, Try.ntmps45
    go_wp2_with (go_at_call 51; refine hst.mono ?_; rintro _ _ ⟨rfl, rfl⟩)
    go_ret
    exact ⟨rfl, H.out, Mem.Ch.refl _ _⟩
theorem Tp.num_lt (t : Tp) : t.num.2 < 18446744073709551616 := by
  unfold Tp.num
  split
  · exact (by decide : (0 : Nat) < 18446744073709551616)
  · exact (rdN_fit _).1
theorem unf_bits (n : Nat) (h : n < 18446744073709551616) : bits .xor .i64 (wrap64 ((n : Int) / 2)) (wrap64 (-wrap64 (bits .and .u64 (n : Int) 1))) = Tp.unf n := by
  have e1 : bits .and .u64 (n : Int) 1 = ((n % 2 : Nat) : Int) := by
    rw [show (1 : Int) = ((1 : Nat) : Int) from rfl, u64_and_nat n 1 h (by decide), Nat.and_one_is_mod]
  have e2 : wrap64 ((n : Int) / 2) = ((n / 2 : Nat) : Int) := by unfold wrap64; omega
  have h2 : n / 2 < 9223372036854775808 := by omega
  rw [e1, e2]
  unfold Tp.unf
  by_cases ho : n % 2 = 0
  · have z0 : wrap64 ((0 : Nat) : Int) = 0 := by unfold wrap64; omega
    have z1 : wrap64 (-(0 : Int)) = 0 := by unfold wrap64; omega
    rw [if_pos ho, ho, z0, z1]
    show IntKind.i64.wrap ((BitVec.ofInt 64 ((n / 2 : Nat) : Int) ^^^ BitVec.ofInt 64 0).toNat : Int) = _
    rw [show BitVec.ofInt 64 0 = 0#64 by decide, BitVec.xor_zero, ofInt_u64 _ (by omega)]
    simp [IntKind.wrap, IntKind.bits, IntKind.signed]
    omega
  · have ho1 : n % 2 = 1 := by omega
    have z0 : wrap64 ((1 : Nat) : Int) = 1 := by unfold wrap64; omega
    have z1 : wrap64 (-(1 : Int)) = -1 := by unfold wrap64; omega
    rw [if_neg ho, ho1, z0, z1]
    have := i64_not (n / 2) h2
    have hc : bits .xor .i64 ((n / 2 : Nat) : Int) (-1) = bits .xor .i64 (-1) ((n / 2 : Nat) : Int) := by
      show IntKind.i64.wrap ((BitVec.ofInt 64 ((n / 2 : Nat) : Int) ^^^ BitVec.ofInt 64 (-1)).toNat : Int) = IntKind.i64.wrap ((BitVec.ofInt 64 (-1) ^^^ BitVec.ofInt 64 ((n / 2 : Nat) : Int)).toNat : Int)
      rw [BitVec.xor_comm]
    rw [hc, this]
    omega
end
end Go.Proofs.Ytiomhmdkaglelaa
namespace Go.Proofs.Ytiomhmdkaglelaa
open Go.RowKit
set_option linter.unusedSimpArgs false
set_option linter.unusedVariables false
/-- A number that is not above m; else one that may not be. -/
def capN (m n : Nat) : Int := if m < n then -1 else n
set_option maxRecDepth 100000 in
set_option maxHeartbeats 2000000 in
theorem bknum_any (m : Nat) (hm : m ≤ 549755813888) (s : ByteArray) (e : Int) (g : Nat) (w : World) (h : TapeAt w g s e) (hs : s.size ≤ 140737488351232) : Calls Try.prog 33 #[.pointer (some ⟨g, 0, none⟩), .int .u64 m] w fun r w' => r = .returned (.int .i64 (capN m (Tp.num ⟨s, e⟩).2)) ∧ TapeAt w' g (Tp.num ⟨s, e⟩).1.s (Tp.num ⟨s, e⟩).1.e ∧ Mem.Ch (fun k => k = g) w w' := by
  have hn := tpnum_any s e g w h hs
  generalize Tp.num ⟨s, e⟩ = x at hn ⊢
  obtain ⟨⟨s', e'⟩, n⟩ := x
  dsimp only at hn ⊢
  clear h
  unfold capN
  by_cases hl : m < n
  · rw [if_pos hl]
    have hl1 : (m : Int) < (n : Int) := by omega
    go_enter Try.func33, Try.ntmps33
    go_wp2_with (go_at_call 45; refine hn.mono ?_; rintro _ w2 ⟨rfl, hT2, hc2⟩)
    go_ret
    exact ⟨rfl, hT2, hc2⟩
  · rw [if_neg hl]
    have hl1 : (n : Int) ≤ (m : Int) := by omega
    have hb : (n : Int) ≤ 549755813888 := by omega
    have hw : wrap64 (n : Int) = n := by unfold wrap64; omega
    go_enter Try.func33, Try.ntmps33
    go_wp2_with (go_at_call 45; refine hn.mono ?_; rintro _ w2 ⟨rfl, hT2, hc2⟩)
    go_ret
    exact ⟨rfl, hT2, hc2⟩
end Go.Proofs.Ytiomhmdkaglelaa
namespace Go.Proofs.Ytiomhmdkaglelaa
open Go.RowKit
open Sp (bs)
set_option linter.unusedSimpArgs false
set_option linter.unusedVariables false
/-- The bytes of small numbers. -/
def u8s (l : List Nat) : List UInt8 := l.map UInt8.ofNat
/-- The numbers of c matches from a on: each has one pick, its own number. -/
def brow : Nat → Nat → List Nat
  | _, 0 => []
  | a, c + 1 => 1 :: a :: brow (a + 1) c
/-- A book's text. -/
def btx (a c : Nat) : ByteArray := bs (u8s (a :: c :: brow a c))
theorem brow_len : ∀ (c a : Nat), (brow a c).length = 2 * c
  | 0, _ => rfl
  | c + 1, a => by simp [brow, brow_len c]; omega
theorem brow_snoc : ∀ (c a : Nat), brow a (c + 1) = brow a c ++ [1, a + c]
  | 0, a => by simp [brow]
  | c + 1, a => by
    have h := brow_snoc c (a + 1)
    have e : brow a (c + 1 + 1) = 1 :: a :: brow (a + 1) (c + 1) := rfl
    rw [e, h]
    simp only [brow, List.cons_append]
    rw [show a + 1 + c = a + (c + 1) by omega]
theorem u8s_app (l m : List Nat) : u8s (l ++ m) = u8s l ++ u8s m := by simp [u8s]
theorem bs_len (l : List Nat) : (bs (u8s l)).size = l.length := by rw [Sp.bs_size]; simp [u8s]
theorem u8_small {n : Nat} (h : n ≤ 247) : (UInt8.ofNat n).toNat = n := by rw [UInt8.toNat_ofNat']; omega
theorem rdN_small {n : Nat} (h : n ≤ 247) (l : List UInt8) : Sp.rdN (UInt8.ofNat n :: l) = (n, 1, 0) := by
  rw [Sp.rdN, u8_small h, if_pos h]
/-- A small number is read off the front. -/
theorem tp_small {n : Nat} (h : n ≤ 247) (l : List Nat) : Tp.num ⟨bs (u8s (n :: l)), 0⟩ = (⟨bs (u8s l), 0⟩, n) := by
  have e : (bs (u8s (n :: l))).data.toList = UInt8.ofNat n :: u8s l := by simp [bs, u8s]
  unfold Tp.num
  dsimp only
  rw [e, rdN_small h, if_neg (by simp)]
  dsimp only
  have ex : (bs (u8s (n :: l))).extract 1 (bs (u8s (n :: l))).size = bs (u8s l) := by
    apply ByteArray.ext
    rw [← Array.toList_inj]
    have e2 : ((bs (u8s (n :: l))).extract 1 (bs (u8s (n :: l))).size).data = (bs (u8s (n :: l))).data.extract 1 (bs (u8s (n :: l))).size := by simp
    rw [e2, Array.toList_extract, e, bs_len]
    simp [bs, u8s]
    exact List.take_of_length_le (by simp)
  rw [ex]
theorem tp_ends0 : Tp.ends ⟨bs (u8s []), 0⟩ = 0 := by decide
theorem num_s {n : Nat} (h : n ≤ 247) : Sp.num n = [UInt8.ofNat n] := by unfold Sp.num; rw [if_pos h]
/-- Matches from a on: each has one pick, its own number. -/
def Std (a : Nat) (L : List (Value × List Int)) : Prop := ∀ (i : Nat) (p : Value × List Int), L[i]? = some p → p.2 = [((a + i : Nat) : Int)]
theorem Std.drop {a : Nat} {L : List (Value × List Int)} (h : Std a L) (k : Nat) : Std (a + k) (L.drop k) := fun i p hp => by
  rw [List.getElem?_drop] at hp
  rw [h _ p hp]
  simp only [List.cons.injEq, and_true]
  omega
theorem Std.snoc {a : Nat} {L : List (Value × List Int)} {v : Value} (h : Std a L) : Std a (L ++ [(v, [((a + L.length : Nat) : Int)])]) := fun i p hp => by
  rw [List.getElem?_append] at hp
  split at hp
  · exact h i p hp
  · rename_i hi
    have h0 : i - L.length = 0 := by
      rcases Nat.eq_zero_or_pos (i - L.length) with h | h
      · exact h
      · rw [List.getElem?_eq_none (by simp; omega)] at hp; cases hp
    rw [h0] at hp
    have hp' : (v, [((a + L.length : Nat) : Int)]) = p := by simpa using hp
    rw [← hp', show i = L.length by omega]
theorem Std.nil (a : Nat) : Std a [] := fun i p hp => by simp at hp
end Go.Proofs.Ytiomhmdkaglelaa
namespace Go.Proofs.Ytiomhmdkaglelaa
open Go.RowKit
set_option linter.unusedSimpArgs false
set_option linter.unusedVariables false
/-- J stands where new blocks alone are laid. -/
def Abd {α : Type} (J : List α → World → Prop) : Prop := ∀ s W W', J s W → Below W.heap.size W W' → J s W'
/-- An iterator: whatever keeps J, it yields values of which T holds there, and all of them (S), or a part (Sp), a round having said 'no more'. -/
def Tells {α : Type} (F : Fence) (n : Nat) (P : Program) (g : Nat) (lb : Array Value) (encs : α → Array Value) (Kp : World → World → Prop) (T : List α → α → World → Prop) (S Sp : List α → Prop) (w : World) : Prop :=
  ∀ (l : Nat) (J Jx : List α → World → Prop) (W : World), Below w.heap.size w W → Abd J → Abd Jx →
    (∀ pre x W1, J pre W1 → T pre x W1 → YieldAt F (n - 1) P l (encs x) W1 fun e W' => (e = .returned (.bool true) ∧ J (pre ++ [x]) W' ∧ Kp W1 W') ∨ (e = .returned (.bool false) ∧ Jx (pre ++ [x]) W')) →
    J [] W → CallsIn F n P g (#[.func (.yield l) #[] #[]] ++ lb) W fun e W' => (∃ v, e = .returned v) ∧ ((∃ xs, S xs ∧ J xs W') ∨ (∃ pre, Sp pre ∧ Jx pre W'))
section
variable {F : Fence} {n : Nat} {P : Program}
theorem below_grown {w w' : World} (h : Below w.heap.size w w') : w.grownBy w' none := ⟨h.os, h.tape, h.output, h.size, fun k hk _ => h.block k hk⟩
theorem abd_own {α : Type} {B : Nat} {I : List α → World → Prop} (h : OwnFrom B I) : Abd I := fun s W W' hs hb => h s W W' none hs (below_grown hb) (fun r e => by cases e)
/-- The law. -/
theorem range_told {α : Type} {g : Operand} {ps : Array Tmp} {assign body : Code} {Q : Exit → Act → World → Prop} {a : Act} {w : World}
    (hro : F.round = none) (h1 : 1 ≤ n) {gf : Nat} {lb : Array Value} (hg : a.eval g = .func (.func gf) #[] lb) (hFg : F.fn gf) (eg : ∀ args w, (callFunc gf args).run P w = .ok (.enter gf args) w)
    {encs : α → Array Value} {Kp : World → World → Prop} {T : List α → α → World → Prop} {S Sp : List α → Prop} (hseq : Tells F (n - 1) P gf lb encs Kp T S Sp w) (hKt : ∀ {A B C : World}, Kp A B → Kp B C → Kp A C) (hKb : ∀ (W : World) (l : Nat) (o o' : Obj), w.heap.size ≤ l → W.heap[l]? = some o → o.isCells = false → Kp W (W.putObj l o')) (hps : ∀ x, (encs x).size = ps.size)
    (I : List α → World → Prop) (Ix : Code → List α → World → Prop) (hI : OwnFrom w.heap.size I) (hIx : ∀ c, OwnFrom w.heap.size (Ix c)) (h0 : I [] w)
    (Ax : List α → α → Act → World → Prop) (hAx : ∀ pre x a', OwnFrom w.heap.size (fun (_ : Unit) W => Ax pre x a' W))
    (hassign : ∀ (l : Nat) (pre : List α) (x : α) (W : World) (K : Act → World → Prop), I pre W → T pre x W → (∀ a' W', KeepsFrom w.heap.size W W' → Kp W W' → I pre W' → Ax pre x a' W' → K a' W') →
      assign.wpIn (F.inRound l) (n - 1 - 1) P (Exit.then K (fun _ _ _ => False)) { tmps := (ps.zip (encs x)).foldl (fun t (p, v) => t.setIfInBounds p v) a.tmps, defers := [] } W)
    (hbody : ∀ (l : Nat) (pre : List α) (x : α) (a' : Act) (W : World), w.heap.size ≤ l → I pre W → Ax pre x a' W → body.wpIn (F.inRound l) (n - 1 - 1) P (ownPostG w.heap.size Kp I Ix (pre ++ [x]) W) a' W)
    (hdone : ∀ (D : Nat) (xs : List α) (W : World), w.heap.size ≤ D → S xs → I xs W → W.heap[D]? = some (.deferred (some [])) → Q .normal { a with defers := { target := .collected D, args := #[] } :: a.defers } W)
    (hstop : ∀ (D : Nat) (c : Code) (pre : List α) (W : World), w.heap.size ≤ D → Sp pre → Ix c pre W → W.heap[D]? = some (.deferred (some [])) → c.wpIn F n P Q { a with defers := { target := .collected D, args := #[] } :: a.defers } W) :
    (Code.rangeFunc g ps assign body).wpIn F n P Q a w := by
  refine wpIn_rangeFunc fun fn hfn => ?_
  rw [hro]
  generalize hD : w.heap.size = D at *
  -- the loop's record, by its state
  let rc : LoopState → Option Code → Loop := fun st pe => { state := st, pending := pe, fn, tmps := a.tmps, params := ps, assign, body, defers := D }
  have hrc : ∀ st pe, rc st pe = { state := st, pending := pe, fn, tmps := a.tmps, params := ps, assign, body, defers := D } := fun _ _ => rfl
  have hen := run_enterLoop_outer (P := P) (w := w) fn a.tmps ps assign body
  rw [hD, ← hrc .ready none] at hen
  clear_value rc
  have hb1 : Below w.heap.size w ((w.alloc (.deferred (some []))).alloc (.loop (rc .ready none))) := ((Below.refl _ w).alloc (Nat.le_refl _) _).alloc (by simp) _
  have hL1 : ((w.alloc (.deferred (some []))).alloc (.loop (rc .ready none))).heap[D + 1]? = some (.loop (rc .ready none)) := by
    have := World.alloc_heap_new (w.alloc (.deferred (some []))) (.loop (rc .ready none)); rwa [World.size_alloc, hD] at this
  have hK1 : ((w.alloc (.deferred (some []))).alloc (.loop (rc .ready none))).heap[D]? = some (.deferred (some [])) := by
    rw [← hD]; exact (Below.heap_alloc _ _ _ (by simp)).trans (World.alloc_heap_new w _)
  have hI1 : I [] ((w.alloc (.deferred (some []))).alloc (.loop (rc .ready none))) := hI.alloc _ (hI.alloc _ h0)
  generalize (w.alloc (.deferred (some []))).alloc (.loop (rc .ready none)) = W1 at hen hb1 hL1 hK1 hI1
  -- what lies in the two blocks of book-keeping stays there where new blocks alone are laid
  have hst : ∀ {k : Nat} {o : Obj} {A B : World}, A.heap[k]? = some o → Below A.heap.size A B → B.heap[k]? = some o := fun h hb => (hb.block _ (Array.getElem?_eq_some_iff.1 h).1).trans h
  refine ⟨D + 1, [{ target := .collected D, args := #[] }], W1, { target := .fn (.func gf) lb, args := #[.func (.yield (D + 1)) #[] #[]] }, W1, gf, #[.func (.yield (D + 1)) #[] #[]] ++ lb, W1, hen, ?_, ?_, ?_, fun _ => h1, ?_⟩
  · simp only [resolve, hg]
    simp [go_sem]
  · intro f' hf'
    simp [Target.leads] at hf'
    subst hf'
    exact hFg
  · simp [invoke, go_sem, eg]
  refine (hseq (D + 1)
    (fun pre W => I pre W ∧ W.heap[D + 1]? = some (.loop (rc .ready none)) ∧ W.heap[D]? = some (.deferred (some [])))
    (fun pre W => ∃ c, Ix c pre W ∧ W.heap[D + 1]? = some (.loop (rc .done (some c))) ∧ W.heap[D]? = some (.deferred (some [])))
    W1 hb1 (fun s A B hs hb => ⟨abd_own hI s A B hs.1 hb, hst hs.2.1 hb, hst hs.2.2 hb⟩)
    (fun s A B hs hb => by obtain ⟨c, h1, h2, h3⟩ := hs; exact ⟨c, abd_own (hIx c) s A B h1 hb, hst h2 hb, hst h3 hb⟩) ?_ ⟨hI1, hL1, hK1⟩).mono ?_
  · rintro pre x W ⟨hi, hl, hk⟩ hT
    have hy := run_yield (P := P) (args := encs x) hl (by rw [hrc]; exact hps x)
    rw [hrc] at hy
    refine ⟨fn, _, assign, body, hy, roundIn_of_wpIn hfn (hassign _ pre x W _ hi hT ?_)⟩
    intro a' Wa hkf hbl hia hax
    have hl2 := hkf.same _ _ (by omega) hl rfl
    have hk2 := hkf.same _ _ (Nat.le_refl _) hk rfl
    have hlt2 := (Array.getElem?_eq_some_iff.1 hl2).1
    refine ⟨_, run_beginRound hl2 (by rw [hrc]), ?_⟩
    have eb : (Obj.loop { rc .ready none with state := .busy }) = .loop (rc .busy none) := by rw [hrc, hrc]
    rw [eb]
    have hlb : (Wa.putObj (D + 1) (.loop (rc .busy none))).heap[D + 1]? = some (.loop (rc .busy none)) := World.putObj_heap_same hlt2
    have hkb : (Wa.putObj (D + 1) (.loop (rc .busy none))).heap[D]? = some (.deferred (some [])) := (World.putObj_heap_other (by omega)).trans hk2
    have hbb : Kp Wa (Wa.putObj (D + 1) (.loop (rc .busy none))) := hKb Wa (D + 1) _ _ (by omega) hl2 rfl
    refine wpIn_mono (hbody _ pre x a' _ (by omega) (hI.putObj _ hia (by omega) hl2 rfl) ((hAx pre x a').putObj (s := ()) _ hax (by omega) hl2 rfl)) ?_
    -- the round's end, by the jump
    have fin : ∀ (j : Option Code) (st : LoopState) (W3 : World), st = (if j.isNone then .ready else .done) → KeepsFrom D (Wa.putObj (D + 1) (.loop (rc .busy none))) W3 →
        (Instr.endRound (D + 1) j).run P W3 = .ok (.bool j.isNone) (W3.putObj (D + 1) (.loop (rc st j))) ∧ W3.heap[D + 1]? = some (.loop (rc .busy none)) ∧
        (W3.putObj (D + 1) (.loop (rc st j))).heap[D + 1]? = some (.loop (rc st j)) ∧ (W3.putObj (D + 1) (.loop (rc st j))).heap[D]? = some (.deferred (some [])) := by
      rintro j st W3 rfl hk3
      have h3 := hk3.same _ _ (by omega) hlb rfl
      have he := run_endRound (P := P) j h3
      have ee : (Obj.loop { rc .busy none with state := if j.isNone then .ready else .done, pending := j }) = .loop (rc (if j.isNone then .ready else .done) j) := by rw [hrc, hrc]
      rw [ee] at he
      exact ⟨he, h3, World.putObj_heap_same (Array.getElem?_eq_some_iff.1 h3).1, (World.putObj_heap_other (by omega)).trans (hk3.same _ _ (Nat.le_refl _) hkb rfl)⟩
    rintro e a3 W3 hp
    cases e with
    | normal =>
      obtain ⟨hk3, hb3, hi3⟩ := hp
      obtain ⟨hr, hl3, hl4, hk4⟩ := fin none .ready W3 rfl hk3
      exact ⟨_, _, hr, .inl ⟨rfl, ⟨hI.putObj _ hi3 (by omega) hl3 rfl, hl4, hk4⟩, hKt hbl (hKt hbb (hKt hb3 (hKb W3 (D + 1) _ _ (by omega) hl3 rfl)))⟩⟩
    | ret =>
      obtain ⟨hk3, hi3⟩ := hp
      obtain ⟨hr, hl3, hl4, hk4⟩ := fin (some .ret) .done W3 rfl hk3
      exact ⟨_, _, hr, .inr ⟨rfl, .ret, (hIx _).putObj _ hi3 (by omega) hl3 rfl, hl4, hk4⟩⟩
    | exit id =>
      obtain ⟨hk3, hi3⟩ := hp
      obtain ⟨hr, hl3, hl4, hk4⟩ := fin (some (.exit id)) .done W3 rfl hk3
      exact ⟨_, _, hr, .inr ⟨rfl, .exit id, (hIx _).putObj _ hi3 (by omega) hl3 rfl, hl4, hk4⟩⟩
    | goto t =>
      obtain ⟨hk3, hi3⟩ := hp
      obtain ⟨hr, hl3, hl4, hk4⟩ := fin (some (.goto t)) .done W3 rfl hk3
      exact ⟨_, _, hr, .inr ⟨rfl, .goto t, (hIx _).putObj _ hi3 (by omega) hl3 rfl, hl4, hk4⟩⟩
    | panic ch => exact hp.elim
    | outgrown => exact hp.elim
  · rintro e W2 ⟨⟨v, rfl⟩, (⟨xs, hS, hi, hl, hk⟩ | ⟨pre, hSp, c, hi, hl, hk⟩)⟩
    · have he := run_endLoop (P := P) hl (by rw [hrc]; simp)
      rw [hrc] at he
      exact ⟨none, _, he, hdone _ xs _ (Nat.le_refl _) hS (hI.putObj _ hi (by omega) hl rfl) ((World.putObj_heap_other (by omega)).trans hk)⟩
    · have he := run_endLoop (P := P) hl (by rw [hrc]; simp)
      rw [hrc] at he
      exact ⟨some c, _, he, hstop _ c pre _ (Nat.le_refl _) hSp ((hIx c).putObj _ hi (by omega) hl rfl) ((World.putObj_heap_other (by omega)).trans hk)⟩
end
end Go.Proofs.Ytiomhmdkaglelaa
