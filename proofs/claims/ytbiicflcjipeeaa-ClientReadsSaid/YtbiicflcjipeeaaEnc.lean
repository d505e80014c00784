/- The texts of values and events: event's and the document's. -/
import Derived.Test.YtbiicflcjipeeaaRChk
namespace Go.Proofs.Ytbiicflcjipeeaa
open Go.RowKit
set_option linter.unusedSimpArgs false
set_option linter.unusedVariables false
open Sp (fold intB textS bs)
attribute [local go_sem] Mem.run_store_float Mem.After.cell
theorem num_size (n : Nat) (h : n < 18446744073709551616) : (bs (Sp.num n)).size ≤ 9 := by rw [Sp.bs_size]; exact (Sp.num_length n h).2
theorem num_size' (n : Int) (h : n < 18446744073709551616) : (bs (Sp.num n.toNat)).size ≤ 9 := num_size _ (by omega)
theorem int_size (n : Int) (h : IsI64 n) : (bs (intB n)).size ≤ 9 := by have := fold_u64 h; unfold IsU64 at this; exact num_size _ (by omega)
theorem real_size (f : Nat) : (bs (realB f)).size = 8 := by rw [Sp.bs_size]; exact Sp.be_length _ _
theorem text_size (s : ByteArray) (h : s.size ≤ 140737488351232) : (textS s).size ≤ s.size + 9 := by
  have := num_size s.size (by omega)
  unfold textS
  rw [ByteArray.size_append]
  omega
/-- A value's text. -/
def valS (v : Val) : ByteArray := bs (Sp.num v.kind.toNat) ++ (if v.kind = 1 then bs (intB v.n) else if v.kind = 2 then bs (realB v.f) else textS v.s)
theorem val_size (v : Val) (hn : IsI64 v.n) (hm : v.may) : (valS v).size ≤ 100 := by
  unfold Val.may at hm
  have h1 := num_size' v.kind (by omega)
  have h2 := int_size v.n hn
  have h3 := real_size v.f
  have h4 := text_size v.s
  unfold valS
  rw [ByteArray.size_append]
  split
  · omega
  · split
    · omega
    · have := h4 (by omega); omega
set_option maxRecDepth 100000 in
set_option maxHeartbeats 1000000 in
theorem value_any (v : Val) (w : World) (hn : IsI64 v.n) (hm : v.may) :
    Calls Try.prog 91 #[.agg #[.int .i64 v.kind, .int .i64 v.n, .float .f64 v.f, .string v.s]] w fun e w' => e = .returned (.string (valS v)) ∧ Below w.heap.size w w' := by
  obtain ⟨kind, n, f, s⟩ := v
  unfold Val.may at hm
  dsimp only at hn hm ⊢
  have h2 := int_size n hn
  have h3 := real_size f
  have h3' : (bs (realB f)).size ≤ 8 := by omega
  clear h3
  have h4 := text_size s (by omega)
  have hk : kind = 1 ∨ kind = 2 ∨ kind = 3 := by omega
  have hs : s.size ≤ 64 := by omega
  rcases hk with rfl | rfl | rfl
  all_goals
    clear hm
    go_enter Try.func91, Try.ntmps91
    go_wp2_with fail
    refine (Num_any _ _ ⟨by decide, by decide⟩).mono ?_
    rintro _ w1 ⟨rfl, hb1⟩
    have hB := (hb1.block w.heap.size (by simp)).trans (Mem.new _ _)
    have b1 := Mem.cell hB (j := 0) rfl
    have b2 := Mem.cell hB (j := 1) rfl
    have b3 := Mem.cell hB (j := 2) rfl
    have b4 := Mem.cell hB (j := 3) rfl
    have hbel : Below w.heap.size w w1 := ((Below.refl _ _).alloc (Nat.le_refl _) _).trans (hb1.mono (by simp))
    have h9 := num_size 1 (by decide)
    have h9' := num_size 2 (by decide)
    have h9'' := num_size 3 (by decide)
    clear hB hb1
    go_wp2_with (first | (go_at_call 92; refine (Int_any n _ hn).mono ?_; rintro _ w2 ⟨rfl, hb2⟩) | (go_at_call 93; refine (Real_any f _).mono ?_; rintro _ w2 ⟨rfl, hb2⟩) | (go_at_call 82; refine (Text_any s _ (by omega)).mono ?_; rintro _ w2 ⟨rfl, hb2⟩))
    go_ret
    exact ⟨by unfold valS; simp; done, hbel.trans (hb2.mono hbel.size)⟩
end Go.Proofs.Ytbiicflcjipeeaa
