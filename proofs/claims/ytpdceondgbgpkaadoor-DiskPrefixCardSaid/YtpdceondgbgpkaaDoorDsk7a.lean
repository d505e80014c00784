/- disk.Put. -/
import Derived.Test.YtpdceondgbgpkaaDoorDsk6
import Derived.Test.YtpdceondgbgpkaaDoorDskU
import Derived.BigQuiet
import Derived.Deep.RegionHeld3
import Derived.Deep.QuietTactic
import Derived.Test.YtpdceondgbgpkaaDoorMem2
namespace Go.Proofs.YtpdceondgbgpkaaDoor.Dsk
open Go.RowKit Go.Maps
set_option linter.unusedSimpArgs false
set_option linter.unusedVariables false
namespace Dk
/-- A Put that may not be. -/
def bad (d : Dk) (f : ByteArray) (a : Int) (s : ByteArray) : Prop := nameP f = false ∨ a < 0 ∨ ((d.now.get f).size : Int) < a ∨ 4194304 - a < (s.size : Int)
/-- What a Put answers, and the disk behind it: full where there may be no room. -/
def Puts (d : Dk) (f : ByteArray) (a : Int) (s : ByteArray) (e : Int) (d' : Dk) : Prop :=
  if d.down then e = 8 ∧ d' = d else (d.bad f a s ∧ e = 1 ∧ d' = d) ∨ (¬ d.bad f a s ∧ ((0 ≤ d.room ∧ e = 7 ∧ d' = d) ∨ (e, d') = d.lay (.put f s a.toNat)))
end Dk
set_option maxRecDepth 100000 in
set_option maxHeartbeats 4000000 in
theorem Put_down (S : Nat → Prop) (p N : Nat) (d : Dk) (f : ByteArray) (a : Int) (s : ByteArray) (w : World) (h : DiskAt w S p N d) (hd : d.down = true) :
    Calls Tryd.prog 17 #[.pointer (some ⟨p, 0, none⟩), .string f, .int .i64 a, .string s] w fun r w' => r = .returned (.int .i64 8) ∧ w' = w := by
  obtain ⟨bs, bn, v, h⟩ := h
  have hr := ready_any S p N d bs bn v w h
  rw [hd, if_pos rfl] at hr
  clear h
  go_enter Tryd.func17, Tryd.ntmps17
  go_wp2_with (go_at_call 25; refine hr.mono ?_; rintro _ w1 ⟨rfl, rfl⟩)
  go_ret
  exact ⟨rfl, rfl⟩
/-- A Put that is not bad, and finds room. -/
theorem put_ok {d : Dk} {f : ByteArray} {a : Int} {s : ByteArray} (h : ¬ d.bad f a s) : 0 ≤ a ∧ a ≤ (d.now.get f).size ∧ (s.size : Int) ≤ 4194304 - a ∧ nameP f = true := by
  unfold Dk.bad at h
  refine ⟨by omega, by omega, by omega, ?_⟩
  cases hn : nameP f
  · exact absurd (.inl hn) h
  · rfl
set_option maxRecDepth 100000 in
set_option maxHeartbeats 4000000 in
theorem Put_good (S : Nat → Prop) (p N : Nat) (d : Dk) (f : ByteArray) (a : Nat) (s : ByteArray) (w : World) (h : DiskAt w S p N d) (hi : Dk.Inv d) (hd : d.down = false) (hf : f.size ≤ maxLen) (hg : ¬ d.bad f a s) (hroom : d.room < 0) (hN : N < 1000000000) :
    Calls Tryd.prog 17 #[.pointer (some ⟨p, 0, none⟩), .string f, .int .i64 a, .string s] w fun r w' => r = .returned (.int .i64 (d.lay (.put f s a)).1) ∧ Mem.Ch S w w' ∧ DiskAt w' (Gr S w w') p (N + 1) (d.lay (.put f s a)).2 := by
  have H := Lib.hid (And.intro h hi)
  obtain ⟨h1, h2, h3, hn⟩ := put_ok hg
  have hlay : ∀ W, Below w.heap.size w W → _ := fun W hb => lay_after (c := .put f s a) rfl H.out.1 hb H.out.2 hd ⟨hf, by omega, by omega⟩ hN
  obtain ⟨bs, bn, v, h⟩ := h
  have hr := ready_any S p N d bs bn v w h
  rw [hd, if_neg (by decide)] at hr
  have c1 := h.c1
  have hl := (h.now.lookup hf).1
  have hb0 := Mem.lt h.blk
  have c3 := h.c3
  clear h hi hg
  have hname : ∀ W, Calls Tryd.prog 31 #[.string f] W fun r w' => r = .returned (.bool true) ∧ Below W.heap.size W w' := fun W => by rw [← hn]; exact name_any f W hf
  have hroom' : (decide (0 ≤ d.room)) = false := by simp; omega
  have hnr : ¬ (0 ≤ d.room) := by omega
  have hsub : wrap64 (4194304 - (a : Int)) = 4194304 - a := by unfold wrap64; omega
  go_enter Tryd.func17, Tryd.ntmps17
  go_wp2_with (first
    | (go_at_call 25; refine hr.mono ?_; rintro _ w1 ⟨rfl, rfl⟩)
    | (go_at_call 31; refine (hname _).mono ?_; rintro _ w2 ⟨rfl, hb2⟩; have c32 := (hb2.cell (p := ⟨p, 3, none⟩) hb0).trans c3))
  go_quiet (fail)
  go_wp2_with (go_at_call 32; refine (hlay _ (Mem.bdrewN hb2 _)).mono ?_; rintro _ w4 ⟨rfl, hc4, hD4⟩)
  go_ret
  exact ⟨rfl, hc4, hD4⟩
set_option maxRecDepth 100000 in
set_option maxHeartbeats 8000000 in
theorem Put_bad (S : Nat → Prop) (p N : Nat) (d : Dk) (f : ByteArray) (a : Int) (s : ByteArray) (w : World) (h : DiskAt w S p N d) (hd : d.down = false) (hf : f.size ≤ maxLen) (hss : s.size ≤ maxLen) (hai : -9223372036854775808 ≤ a ∧ a ≤ 9223372036854775807) (hg : d.bad f a s) :
    Calls Tryd.prog 17 #[.pointer (some ⟨p, 0, none⟩), .string f, .int .i64 a, .string s] w fun r w' => r = .returned (.int .i64 1) ∧ Below w.heap.size w w' := by
  obtain ⟨bs, bn, v, h⟩ := h
  have hr := ready_any S p N d bs bn v w h
  rw [hd, if_neg (by decide)] at hr
  have c1 := h.c1
  obtain ⟨hl, hsz⟩ := h.now.lookup hf
  clear h
  have hname : ∀ W, Calls Tryd.prog 31 #[.string f] W fun r w' => r = .returned (.bool (nameP f)) ∧ Below W.heap.size W w' := fun W => name_any f W hf
  cases hn : nameP f
  · rw [hn] at hname
    go_enter Tryd.func17, Tryd.ntmps17
    go_wp2_with (first
      | (go_at_call 25; refine hr.mono ?_; rintro _ w1 ⟨rfl, rfl⟩)
      | (go_at_call 31; refine (hname _).mono ?_; rintro _ w2 ⟨rfl, hb2⟩))
    go_ret
    exact ⟨rfl, hb2⟩
  rw [hn] at hname
  by_cases h1 : a < 0
  · go_enter Tryd.func17, Tryd.ntmps17
    go_wp2_with (first
      | (go_at_call 25; refine hr.mono ?_; rintro _ w1 ⟨rfl, rfl⟩)
      | (go_at_call 31; refine (hname _).mono ?_; rintro _ w2 ⟨rfl, hb2⟩))
    go_ret
    exact ⟨rfl, hb2⟩
  have h1' : (0 : Int) ≤ a := by omega
  by_cases h2 : ((d.now.get f).size : Int) < a
  · go_enter Tryd.func17, Tryd.ntmps17
    go_wp2_with (first
      | (go_at_call 25; refine hr.mono ?_; rintro _ w1 ⟨rfl, rfl⟩)
      | (go_at_call 31; refine (hname _).mono ?_; rintro _ w2 ⟨rfl, hb2⟩))
    go_ret
    exact ⟨rfl, hb2⟩
  have h2' : a ≤ ((d.now.get f).size : Int) := by omega
  have h3 : 4194304 - a < (s.size : Int) := by
    unfold Dk.bad at hg
    rcases hg with hg | hg | hg | hg
    · rw [hn] at hg; cases hg
    · omega
    · omega
    · exact hg
  have hsub : wrap64 (4194304 - a) = 4194304 - a := by unfold wrap64; omega
  go_enter Tryd.func17, Tryd.ntmps17
  go_wp2_with (first
    | (go_at_call 25; refine hr.mono ?_; rintro _ w1 ⟨rfl, rfl⟩)
    | (go_at_call 31; refine (hname _).mono ?_; rintro _ w2 ⟨rfl, hb2⟩))
  go_ret
  exact ⟨rfl, hb2⟩
end Go.Proofs.YtpdceondgbgpkaaDoor.Dsk
