/- The shelf law's own functions: loads, save. -/
import Derived.Test.YtbpnhaeladcbnaaDoorShl16
import Derived.Test.YtbpnhaeladcbnaaDoorShl18
namespace Go.Proofs.YtbpnhaeladcbnaaDoor
open Go.RowKit
set_option linter.unusedSimpArgs false
set_option linter.unusedVariables false
open Dsk (DiskAt Dk nameP FM)
open Shf
set_option maxRecDepth 100000 in
set_option maxHeartbeats 8000000 in
theorem loads_any (S : Nat → Prop) (p N : Nat) (d : Dk) (w : World) (h : DiskAt w S p N d) (hd : d.down = false) (a1 b1 c1 d1 m1 : Int) (t1 : ByteArray) (i1 : Bool) (hv : VoteIn d.now ⟨a1, b1⟩) (hs : SnapIn d.now ⟨c1, d1, m1, t1⟩ i1) (a b c e m : Int) (t : ByteArray) (i : Bool) :
    Calls Tryd.prog 13 #[.pointer (some ⟨p, 0, none⟩), .agg #[.int .i64 a, .int .i64 b], .agg #[.int .i64 c, .int .i64 e, .int .i64 m, .string t], .bool i] w fun r w' => r = .returned (.bool (decide (a1 = a ∧ b1 = b ∧ i1 = i ∧ c1 = c ∧ d1 = e ∧ m1 = m ∧ t1.toList = t.toList))) ∧ Below w.heap.size w w' := by
  have xv0 := Mem.old (Mem.new w (.cells #[.int .i64 a, .int .i64 b] 26)) (.cells #[.int .i64 c, .int .i64 e, .int .i64 m, .string t] 28)
  have xs0 := Mem.new (w.alloc (.cells #[.int .i64 a, .int .i64 b] 26)) (.cells #[.int .i64 c, .int .i64 e, .int .i64 m, .string t] 28)
  rw [show (w.alloc (.cells #[.int .i64 a, .int .i64 b] 26)).heap.size = w.heap.size + 1 by simp] at xs0
  have k0 : Below w.heap.size w ((w.alloc (.cells #[.int .i64 a, .int .i64 b] 26)).alloc (.cells #[.int .i64 c, .int .i64 e, .int .i64 m, .string t] 28)) := ((Below.refl _ w).alloc (Nat.le_refl _) _).alloc (by simp) _
  have h0 := h.below k0
  have hV := fun W (h : DiskAt W S p N d) => loadV_in h hd hv
  have hS := fun W (h : DiskAt W S p N d) => loadS_in h hd hs
  unfold Vt.val at hV
  unfold Sn.val at hS
  dsimp only at hV hS
  generalize hR : decide (a1 = a ∧ b1 = b ∧ i1 = i ∧ c1 = c ∧ d1 = e ∧ m1 = m ∧ t1.toList = t.toList) = R
  have HR := Lib.hid hR
  clear h hv hs hR
  go_enter Tryd.func13, Tryd.ntmps13
  go_wp2_with (first
    | (go_at_call 19; refine (hV _ h0).mono ?_; rintro _ w1 ⟨rfl, hb1⟩; have xv1 := Mem.old ((hb1.block w.heap.size (Mem.lt xv0)).trans xv0) (.cells #[.int .i64 a1, .int .i64 b1] 26); have xs1 := Mem.old ((hb1.block (w.heap.size + 1) (Mem.lt xs0)).trans xs0) (.cells #[.int .i64 a1, .int .i64 b1] 26); have y1 := Mem.new w1 (.cells #[.int .i64 a1, .int .i64 b1] 26); have k1 := k0.trans (hb1.mono k0.size); have j1 := k1.alloc k1.size (.cells #[.int .i64 a1, .int .i64 b1] 26); have h1 := (h0.below hb1).below ((Below.refl _ w1).alloc (Nat.le_refl _) (.cells #[.int .i64 a1, .int .i64 b1] 26)))
    | (go_at_call 20; refine (hS _ h1).mono ?_; rintro _ w2 ⟨rfl, hb2⟩; have xv2 := (hb2.block w.heap.size (Mem.lt xv1)).trans xv1; have xs2 := (hb2.block (w.heap.size + 1) (Mem.lt xs1)).trans xs1; have y2 := (hb2.block w1.heap.size (Mem.lt y1)).trans y1; have k2 := j1.trans (hb2.mono j1.size); have l0 := Mem.lt xv2; have l1 := Mem.lt xs2; have l2 := Mem.lt y2;
        have cv0 := Mem.cell (j := 0) (v := .int .i64 a) xv2 rfl; have cv1 := Mem.cell (j := 1) (v := .int .i64 b) xv2 rfl; have cs0 := Mem.cell (j := 0) (v := .int .i64 c) xs2 rfl; have cs1 := Mem.cell (j := 1) (v := .int .i64 e) xs2 rfl; have cs2 := Mem.cell (j := 2) (v := .int .i64 m) xs2 rfl; have cs3 := Mem.cell (j := 3) (v := .string t) xs2 rfl; have cy0 := Mem.cell (j := 0) (v := .int .i64 a1) y2 rfl; have cy1 := Mem.cell (j := 1) (v := .int .i64 b1) y2 rfl; clear xv0 xs0 xv1 xs1 y1 xv2 xs2 y2 h0 h1 hV hS hb1 hb2 k0 k1 j1))
  all_goals go_ret
  all_goals refine ⟨?_, k2.alloc k2.size _⟩
  all_goals rw [← HR.out]
  all_goals simp [*]
theorem loads_yes (S : Nat → Prop) (p N : Nat) (d : Dk) (w : World) (h : DiskAt w S p N d) (hd : d.down = false) (v : Vt) (s : Sn) (is : Bool) (hv : VoteIn d.now v) (hs : SnapIn d.now s is) :
    Calls Tryd.prog 13 #[.pointer (some ⟨p, 0, none⟩), v.val, s.val, .bool is] w fun r w' => r = .returned (.bool true) ∧ Below w.heap.size w w' := by
  obtain ⟨a, b⟩ := v
  obtain ⟨c, e, m, t⟩ := s
  have := loads_any S p N d w h hd a b c e m t is hv hs a b c e m t is
  rw [decide_eq_true ⟨rfl, rfl, rfl, rfl, rfl, rfl, rfl⟩] at this
  exact this
theorem loads_or (S : Nat → Prop) (p N : Nat) (d : Dk) (w : World) (h : DiskAt w S p N d) (hd : d.down = false) (v1 v : Vt) (s1 s : Sn) (i1 is : Bool) (hv : VoteIn d.now v1) (hs : SnapIn d.now s1 i1) :
    Calls Tryd.prog 13 #[.pointer (some ⟨p, 0, none⟩), v.val, s.val, .bool is] w fun r w' => ∃ x : Bool, r = .returned (.bool x) ∧ (x = true → v1 = v ∧ s1 = s ∧ i1 = is) ∧ (v1 = v → s1 = s → i1 = is → x = true) ∧ Below w.heap.size w w' := by
  obtain ⟨a, b⟩ := v
  obtain ⟨c, e, m, t⟩ := s
  obtain ⟨a1, b1⟩ := v1
  obtain ⟨c1, e1, m1, t1⟩ := s1
  refine (loads_any S p N d w h hd a1 b1 c1 e1 m1 t1 i1 hv hs a b c e m t is).mono ?_
  rintro _ w' ⟨rfl, hb⟩
  refine ⟨_, rfl, fun hx => ?_, fun h1 h2 h3 => ?_, hb⟩
  · obtain ⟨q1, q2, q3, q4, q5, q6, q7⟩ := of_decide_eq_true hx
    have q8 : t1 = t := by rw [ByteArray.toList_eq, ByteArray.toList_eq] at q7; exact ByteArray.ext (Array.toList_inj.1 q7)
    subst q1 q2 q3 q4 q5 q6 q8
    exact ⟨rfl, rfl, rfl⟩
  · cases h1
    cases h2
    cases h3
    exact decide_eq_true ⟨rfl, rfl, rfl, rfl, rfl, rfl, rfl⟩
/-- A saving. -/
structure Sv where
  snap : Bool
  v : Vt
  s : Sn
def Sv.val (x : Sv) : Value := .agg #[.bool x.snap, .int .i64 x.v.term, .int .i64 x.v.to, .int .i64 x.s.index, .int .i64 x.s.term, .int .i64 x.s.mask, .string x.s.text]
def Sv.ok (x : Sv) : Prop := (x.snap = false ∧ x.v.ok) ∨ (x.snap = true ∧ x.s.ok)
def Sv.does (x : Sv) (d : Dk) : Int × Dk := if x.snap then Shf.saveD d snapK (Crc.packB x.s.wrote.1) else Shf.saveD d voteK (Crc.packB x.v.text.1)
set_option maxRecDepth 100000 in
set_option maxHeartbeats 4000000 in
theorem lsave_any (S : Nat → Prop) (p N : Nat) (d : Dk) (x : Sv) (hi : IsI64 x.v.to) (hx : x.ok) (w : World) (hS : ∀ k, w.heap.size ≤ k → S k) (h : DiskAt w S p N d) (hu : Shf.Up d) (hN : N < 900000000) :
    Calls Tryd.prog 8 #[.pointer (some ⟨p, 0, none⟩), x.val] w fun r w' => r = .returned (.int .i64 (x.does d).1) ∧ Mem.Ch S w w' ∧ DiskAt w' S p (N + 4) (x.does d).2 := by
  obtain ⟨b, v, s⟩ := x
  have hV := fun (hv : v.ok) W (hS : ∀ k, W.heap.size ≤ k → S k) (h : DiskAt W S p N d) => saveV_at S p N d v hi hv W hS h hu hN
  have hP := fun (hv : s.ok) W (hS : ∀ k, W.heap.size ≤ k → S k) (h : DiskAt W S p N d) => saveS_at S p N d s hv W hS h hu hN
  unfold Sv.val Sv.does
  dsimp only
  have hb0 : Below w.heap.size w (w.alloc (.cells #[.bool b, .int .i64 v.term, .int .i64 v.to, .int .i64 s.index, .int .i64 s.term, .int .i64 s.mask, .string s.text] 32)) := (Below.refl _ w).alloc (Nat.le_refl _) _
  have h0 := h.below hb0
  have hS0 : ∀ k, (w.alloc (.cells #[.bool b, .int .i64 v.term, .int .i64 v.to, .int .i64 s.index, .int .i64 s.term, .int .i64 s.mask, .string s.text] 32)).heap.size ≤ k → S k := fun k hk => hS k (Nat.le_trans hb0.size hk)
  rcases hx with ⟨h1, h2⟩ | ⟨h1, h2⟩
  · dsimp only at h1
    subst h1
    have hc := hV h2 _ hS0 h0
    rw [if_neg (by decide)]
    generalize Shf.saveD d voteK (Crc.packB v.text.1) = R at hc ⊢
    unfold Vt.val at hc
    clear hV hP h2
    go_enter Tryd.func8, Tryd.ntmps8
    go_wp2_with (go_at_call 21; refine hc.mono ?_; rintro _ w2 ⟨rfl, h3, h4⟩)
    go_ret
    exact ⟨rfl, (Mem.Ch.of_below' hb0).trans' h3, h4⟩
  · dsimp only at h1
    subst h1
    have hc := hP h2 _ hS0 h0
    rw [if_pos rfl]
    generalize Shf.saveD d snapK (Crc.packB s.wrote.1) = R at hc ⊢
    unfold Sn.val at hc
    clear hV hP h2
    go_enter Tryd.func8, Tryd.ntmps8
    go_wp2_with (go_at_call 22; refine hc.mono ?_; rintro _ w2 ⟨rfl, h3, h4⟩)
    go_ret
    exact ⟨rfl, (Mem.Ch.of_below' hb0).trans' h3, h4⟩
set_option maxRecDepth 100000 in
set_option maxHeartbeats 4000000 in
theorem lsave_bad (p : Nat) (x : Sv) (hi : IsI64 x.v.to) (hx : ¬ x.ok) (w : World) :
    Calls Tryd.prog 8 #[.pointer (some ⟨p, 0, none⟩), x.val] w fun r w' => r = .returned (.int .i64 1) ∧ Below w.heap.size w w' := by
  obtain ⟨b, v, s⟩ := x
  have hV := fun (hv : ¬ v.ok) W => saveV_bad p v hi hv W
  have hP := fun (hv : ¬ s.ok) W => saveS_bad p s hv W
  unfold Sv.val
  dsimp only
  have hb0 : Below w.heap.size w (w.alloc (.cells #[.bool b, .int .i64 v.term, .int .i64 v.to, .int .i64 s.index, .int .i64 s.term, .int .i64 s.mask, .string s.text] 32)) := (Below.refl _ w).alloc (Nat.le_refl _) _
  cases b
  · have hc := hV (fun h => hx (.inl ⟨rfl, h⟩))
    unfold Vt.val at hc
    clear hV hP hx
    go_enter Tryd.func8, Tryd.ntmps8
    go_wp2_with (go_at_call 21; refine (hc _).mono ?_; rintro _ w2 ⟨rfl, h3⟩)
    go_ret
    exact ⟨rfl, hb0.trans (h3.mono hb0.size)⟩
  · have hc := hP (fun h => hx (.inr ⟨rfl, h⟩))
    unfold Sn.val at hc
    clear hV hP hx
    go_enter Tryd.func8, Tryd.ntmps8
    go_wp2_with (go_at_call 22; refine (hc _).mono ?_; rintro _ w2 ⟨rfl, h3⟩)
    go_ret
    exact ⟨rfl, hb0.trans (h3.mono hb0.size)⟩
end Go.Proofs.YtbpnhaeladcbnaaDoor
