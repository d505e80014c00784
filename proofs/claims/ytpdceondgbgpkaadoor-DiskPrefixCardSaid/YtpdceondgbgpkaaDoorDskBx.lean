/- disk.Put where there is a bound, and the bytes are known. -/
import Derived.Test.YtpdceondgbgpkaaDoorDsk7a
import Derived.Test.YtpdceondgbgpkaaDoorDskUx
namespace Go.Proofs.YtpdceondgbgpkaaDoor.Dsk
open Go.RowKit Go.Maps
set_option linter.unusedSimpArgs false
set_option linter.unusedVariables false
set_option maxRecDepth 100000 in
set_option maxHeartbeats 8000000 in
theorem Put_room (u : Nat) (S : Nat → Prop) (p N : Nat) (d : Dk) (f : ByteArray) (a : Nat) (s : ByteArray) (w : World) (h : DiskAt w S p N d) (hi : Dk.Inv d) (hd : d.down = false) (hf : f.size ≤ maxLen) (hg : ¬ d.bad f a s) (hu : Sum d.now u) (hlu : u ≤ 1000000) (hlr : d.room ≤ 1000000) (hroom : 0 ≤ d.room) (hN : N < 1000000000) :
    Calls Tryd.prog 17 #[.pointer (some ⟨p, 0, none⟩), .string f, .int .i64 a, .string s] w fun r w' => (r = .returned (.int .i64 (d.lay (.put f s a)).1) ∧ Mem.Ch S w w' ∧ DiskAt w' (Gr S w w') p (N + 1) (d.lay (.put f s a)).2 ∧ ((s.size : Int) - (((d.now.get f).size : Int) - a) ≤ 0 ∨ (u : Int) + ((s.size : Int) - (((d.now.get f).size : Int) - a)) ≤ d.room)) ∨ (r = .returned (.int .i64 7) ∧ Below w.heap.size w w') := by
  have H := Lib.hid (And.intro h hi)
  obtain ⟨h1, h2, h3, hn⟩ := put_ok hg
  have hlay : ∀ W, Below w.heap.size w W → _ := fun W hb => lay_after (c := .put f s a) rfl H.out.1 hb H.out.2 hd ⟨hf, by omega, by omega⟩ hN
  have hused : ∀ W, Below w.heap.size w W → _ := fun W hb => Used_up S p N d u W (H.out.1.below hb) hd hu (by omega)
  obtain ⟨bs, bn, v, h⟩ := h
  have hr := ready_any S p N d bs bn v w h
  rw [hd, if_neg (by decide)] at hr
  have c1 := h.c1
  obtain ⟨hl, hsz⟩ := h.now.lookup hf
  have hb0 := Mem.lt h.blk
  have c3 := h.c3
  clear h hi hg hu
  have hname : ∀ W, Calls Tryd.prog 31 #[.string f] W fun r w' => r = .returned (.bool true) ∧ Below W.heap.size W w' := fun W => by rw [← hn]; exact name_any f W hf
  have hsub : wrap64 (4194304 - (a : Int)) = 4194304 - a := by unfold wrap64; omega
  have hmx : (maxLen : Nat) = 9223372036854775807 := rfl
  have hs1 : wrap64 (((d.now.get f).size : Int) - a) = (d.now.get f).size - a := by unfold wrap64; omega
  have hs2 : wrap64 ((s.size : Int) - (((d.now.get f).size : Int) - a)) = s.size - ((d.now.get f).size - a) := by unfold wrap64; omega
  obtain ⟨mr, hmr⟩ : ∃ mr : Int, (s.size : Int) - (((d.now.get f).size : Int) - a) = mr := ⟨_, rfl⟩
  rw [hmr] at hs2
  rw [hmr]
  have hmrb : mr ≤ 4194304 := by omega
  have hmra : -9223372036854775807 ≤ mr := by omega
  by_cases hmore : 0 < mr
  · have hd1 : decide (0 ≤ d.room) = true := decide_eq_true hroom
    have hd2 : decide (0 < mr) = true := decide_eq_true hmore
    have hw3 : IntKind.i64.wrap (d.room - mr) = d.room - mr := by simp [IntKind.wrap, IntKind.bits, IntKind.signed]; omega
    by_cases hfull : d.room - mr < (u : Int)
    · have hd3 : decide (d.room - mr < (u : Int)) = true := decide_eq_true hfull
      go_enter Tryd.func17, Tryd.ntmps17
      go_wp2_with (first
        | (go_at_call 25; refine hr.mono ?_; rintro _ w1 ⟨rfl, rfl⟩)
        | (go_at_call 31; refine (hname _).mono ?_; rintro _ w2 ⟨rfl, hb2⟩; have c32 := (hb2.cell (p := ⟨p, 3, none⟩) hb0).trans c3))
      have c32d : w2.drew.cell? ⟨p, 3, none⟩ = some (.int .i64 d.room) := c32
      have hb2d : Below w1.heap.size w1 w2.drew := hb2.drew
      go_region_held3 (fun W => W.cell? ⟨p, 3, none⟩ = some (.int .i64 d.room) ∧ Below w1.heap.size w1 W)
        (first | exact ⟨c33, hb33⟩ | exact ⟨c32d, hb2d⟩)
        (first
          | (go_at_call 16
             refine (hused _ (by obtain ⟨_, hh⟩ := ‹_ ∧ _›; exact hh)).mono ?_
             rintro _ w3 ⟨rfl, hb3⟩
             have c33 := (hb3.cell (p := ⟨p, 3, none⟩) (Nat.lt_of_lt_of_le hb0 (by obtain ⟨_, hh⟩ := ‹_ ∧ _›; exact hh.size))).trans (by obtain ⟨hh, _⟩ := ‹_ ∧ _›; exact hh)
             have hb33 := Below.trans (by obtain ⟨_, hh⟩ := ‹_ ∧ _›; exact hh) (hb3.mono (by obtain ⟨_, hh⟩ := ‹_ ∧ _›; exact hh.size)))
          | fail)
      all_goals go_wp2_with fail
      all_goals go_ret
      all_goals exact .inr ⟨rfl, hb33⟩
    · have hd3 : decide (d.room - mr < (u : Int)) = false := decide_eq_false hfull
      have hle : (u : Int) + mr ≤ d.room := by omega
      go_enter Tryd.func17, Tryd.ntmps17
      go_wp2_with (first
        | (go_at_call 25; refine hr.mono ?_; rintro _ w1 ⟨rfl, rfl⟩)
        | (go_at_call 31; refine (hname _).mono ?_; rintro _ w2 ⟨rfl, hb2⟩; have c32 := (hb2.cell (p := ⟨p, 3, none⟩) hb0).trans c3))
      have c32d : w2.drew.cell? ⟨p, 3, none⟩ = some (.int .i64 d.room) := c32
      have hb2d : Below w1.heap.size w1 w2.drew := hb2.drew
      go_region_held3 (fun W => W.cell? ⟨p, 3, none⟩ = some (.int .i64 d.room) ∧ Below w1.heap.size w1 W)
        (first | exact ⟨c33, hb33⟩ | exact ⟨c32d, hb2d⟩)
        (first
          | (go_at_call 16
             refine (hused _ (by obtain ⟨_, hh⟩ := ‹_ ∧ _›; exact hh)).mono ?_
             rintro _ w3 ⟨rfl, hb3⟩
             have c33 := (hb3.cell (p := ⟨p, 3, none⟩) (Nat.lt_of_lt_of_le hb0 (by obtain ⟨_, hh⟩ := ‹_ ∧ _›; exact hh.size))).trans (by obtain ⟨hh, _⟩ := ‹_ ∧ _›; exact hh)
             have hb33 := Below.trans (by obtain ⟨_, hh⟩ := ‹_ ∧ _›; exact hh) (hb3.mono (by obtain ⟨_, hh⟩ := ‹_ ∧ _›; exact hh.size)))
          | fail)
      all_goals go_wp2_with (go_at_call 32; refine (hlay _ hb33).mono ?_; rintro _ w4 ⟨rfl, hc4, hD4⟩)
      all_goals go_ret
      all_goals exact .inl ⟨rfl, hc4, hD4, .inr hle⟩
  · go_enter Tryd.func17, Tryd.ntmps17
    go_wp2_with (first
      | (go_at_call 25; refine hr.mono ?_; rintro _ w1 ⟨rfl, rfl⟩)
      | (go_at_call 31; refine (hname _).mono ?_; rintro _ w2 ⟨rfl, hb2⟩; have c32 := (hb2.cell (p := ⟨p, 3, none⟩) hb0).trans c3))
    have hd1 : decide (0 ≤ d.room) = true := decide_eq_true hroom
    have hd2 : decide (0 < mr) = false := decide_eq_false (by omega)
    have hmr0 : mr ≤ 0 := by omega
    go_quiet (fail)
    go_wp2_with (go_at_call 32; refine (hlay _ (Mem.bdrewN hb2 _)).mono ?_; rintro _ w4 ⟨rfl, hc4, hD4⟩)
    go_ret
    exact .inl ⟨rfl, hc4, hD4, .inl hmr0⟩
end Go.Proofs.YtpdceondgbgpkaaDoor.Dsk
