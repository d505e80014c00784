/- disk.Used: some number of bytes. · disk.Put. · disk.Put where there is a bound. · disk: Put, joined; the law's acts. -/
import Derived.Test.YtpdceondgbgpkaaGreatDoorG2
import Derived.Maps.RangeWalk
import Derived.Test.YtpdceondgbgpkaaGreatDoorG9
import Derived.BigQuiet
import Derived.Deep.RegionHeld3
import Derived.Deep.QuietTactic
import Derived.Test.YtpdceondgbgpkaaGreatDoorG1
namespace Go.Proofs.YtpdceondgbgpkaaGreatDoor.Dsk
open Go.RowKit Go.Maps
set_option linter.unusedSimpArgs false
set_option linter.unusedVariables false
theorem inv_key : ∀ key kl, keyOf Tryz.prog 9 key = some kl → ∃ x, key = .string x := fun key kl hkey => by
  obtain ⟨s, rfl, _⟩ := Go.WideMaps.string_of_keyOf Tryz.underlying9 hkey
  exact ⟨s, rfl⟩
theorem inv_val : ∀ v y, plainElem (H := Unit) Tryz.prog 9 v = some y → ∃ c, v = .string c := fun v y hv => by
  obtain ⟨c, rfl, _⟩ := plainElem_string_inv Tryz.underlying9 hv
  exact ⟨c, rfl⟩
set_option maxRecDepth 100000 in
set_option maxHeartbeats 4000000 in
theorem Used_some (S : Nat → Prop) (p N : Nat) (d : Dk) (w : World) (h : DiskAt w S p N d) (hd : d.down = false) :
    Calls Tryz.prog 16 #[.pointer (some ⟨p, 0, none⟩)] w fun r w' => ∃ n, r = .returned (.int .i64 n) ∧ Below w.heap.size w w' := by
  obtain ⟨bs, bn, v, h⟩ := h
  have hr := ready_any S p N d bs bn v w h
  rw [hd, if_neg (by decide)] at hr
  have c1 := h.c1
  obtain ⟨D, hown, hF⟩ := h.now
  have hlt := hown.lt
  have HW := Lib.hid hown
  clear h hown
  go_enter Tryz.func16, Tryz.ntmps16
  go_wp2_with (first
    | (go_at_call 14; refine hr.mono ?_; rintro _ w1 ⟨rfl, rfl⟩)
    | (at_range; refine wpList_range_own _ rfl _ _ rfl 9 9 key_law Tryz.underlying48 _ bn N D rfl HW.out ?_; intro w2 hrg hg2 hs2))
  go_frame
  go_loopw [3] (fun n wr => ∃ (x : Int) (left : Lit → Bool) (cnt : Nat), n = .int .i64 x ∧ wr.ranges Tryz.prog 9 (plainElem Tryz.prog 9) bn w1.heap.size N D left cnt ∧ Below w1.heap.size w1 wr) (fun _ wr => wr.rangeLeft bn w1.heap.size)
  case atStart => exact ⟨0, _, _, rfl, hrg, ⟨hg2.os, hg2.tape, hg2.output, hg2.size, fun k hk => hg2.block k hk (by simp)⟩⟩
  case round =>
    obtain ⟨x, left, cnt, rfl, hrg', hbel⟩ := hrel
    have hle := hrg'.left_eq
    go_wp2_with (at_next; refine wpList_next_ranges _ rfl _ rfl 9 key_law (plainElem Tryz.prog 9) Value.string Value.string inv_key inv_val bn w1.heap.size N D left cnt rfl hrg' ?_ ?_)
    · intro _ _
      go_wp2_with fail
      go_ret
      exact ⟨_, rfl, hbel⟩
    · intro xk c kl y1 y2 w3 cnt' hkey hleft hpl hat hrg3 hlt3 hg3 hs3 hen
      have hle3 := hrg3.left_eq
      go_wp2_with fail
      go_roundw
      case rel => exact ⟨_, _, cnt', rfl, hrg3, hbel.trans ⟨hg3.os, hg3.tape, hg3.output, hg3.size, fun k hk => hg3.block k (Nat.lt_of_lt_of_le hk hbel.size) (fun e => by have := Option.some.inj e; omega)⟩⟩
      case measure => rw [hle3, hle]; exact hlt3
end Go.Proofs.YtpdceondgbgpkaaGreatDoor.Dsk
namespace Go.Proofs.YtpdceondgbgpkaaGreatDoor.Dsk
open Go.RowKit Go.Maps
set_option linter.unusedSimpArgs false
set_option linter.unusedVariables false
namespace Dk
/-- A Put that may not be. -/
def bad (d : Dk) (f : ByteArray) (a : Int) (s : ByteArray) : Prop := nameP f = false ∨ a < 0 ∨ ((d.now.get f).size : Int) < a ∨ 4194304 - a < (s.size : Int)
/-- What a Put answers, and the disk behind it: full where there may be no room. -/
def Puts (d : Dk) (f : ByteArray) (a : Int) (s : ByteArray) (e : Int) (d' : Dk) : Prop :=
  if d.down then e = 8 ∧ d' = d else (d.bad f a s ∧ e = 1 ∧ d' = d) ∨ (¬ d.bad f a s ∧ ((0 ≤ d.room ∧ e = 7 ∧ d' = d) ∨ (e, d') = d.lay (.put f s a.toNat)))
end Dk
set_option maxRecDepth 100000 in
set_option maxHeartbeats 4000000 in
theorem Put_down (S : Nat → Prop) (p N : Nat) (d : Dk) (f : ByteArray) (a : Int) (s : ByteArray) (w : World) (h : DiskAt w S p N d) (hd : d.down = true) :
    Calls Tryz.prog 5 #[.pointer (some ⟨p, 0, none⟩), .string f, .int .i64 a, .string s] w fun r w' => r = .returned (.int .i64 8) ∧ w' = w := by
  obtain ⟨bs, bn, v, h⟩ := h
  have hr := ready_any S p N d bs bn v w h
  rw [hd, if_pos rfl] at hr
  clear h
  go_enter Tryz.func5, Tryz.ntmps5
  go_wp2_with (go_at_call 14; refine hr.mono ?_; rintro _ w1 ⟨rfl, rfl⟩)
  go_ret
  exact ⟨rfl, rfl⟩
/-- A Put that is not bad, and finds room. -/
theorem put_ok {d : Dk} {f : ByteArray} {a : Int} {s : ByteArray} (h : ¬ d.bad f a s) : 0 ≤ a ∧ a ≤ (d.now.get f).size ∧ (s.size : Int) ≤ 4194304 - a ∧ nameP f = true := by
  unfold Dk.bad at h
  refine ⟨by omega, by omega, by omega, ?_⟩
  cases hn : nameP f
  · exact absurd (.inl hn) h
  · rfl
set_option maxRecDepth 100000 in
set_option maxHeartbeats 4000000 in
theorem Put_good (S : Nat → Prop) (p N : Nat) (d : Dk) (f : ByteArray) (a : Nat) (s : ByteArray) (w : World) (h : DiskAt w S p N d) (hi : Dk.Inv d) (hd : d.down = false) (hf : f.size ≤ maxLen) (hg : ¬ d.bad f a s) (hroom : d.room < 0) (hN : N < 1000000000) :
    Calls Tryz.prog 5 #[.pointer (some ⟨p, 0, none⟩), .string f, .int .i64 a, .string s] w fun r w' => r = .returned (.int .i64 (d.lay (.put f s a)).1) ∧ Mem.Ch S w w' ∧ DiskAt w' (Gr S w w') p (N + 1) (d.lay (.put f s a)).2 := by
  have H := Lib.hid (And.intro h hi)
  obtain ⟨h1, h2, h3, hn⟩ := put_ok hg
  have hlay : ∀ W, Below w.heap.size w W → _ := fun W hb => lay_after (c := .put f s a) rfl H.out.1 hb H.out.2 hd ⟨hf, by omega, by omega⟩ hN
  obtain ⟨bs, bn, v, h⟩ := h
  have hr := ready_any S p N d bs bn v w h
  rw [hd, if_neg (by decide)] at hr
  have c1 := h.c1
  have hl := (h.now.lookup hf).1
  have hb0 := Mem.lt h.blk
  have c3 := h.c3
  clear h hi hg
  have hname : ∀ W, Calls Tryz.prog 15 #[.string f] W fun r w' => r = .returned (.bool true) ∧ Below W.heap.size W w' := fun W => by rw [← hn]; exact name_any f W hf
  have hroom' : (decide (0 ≤ d.room)) = false := by simp; omega
  have hnr : ¬ (0 ≤ d.room) := by omega
  have hsub : wrap64 (4194304 - (a : Int)) = 4194304 - a := by unfold wrap64; omega
  go_enter Tryz.func5, Tryz.ntmps5
  go_wp2_with (first
    | (go_at_call 14; refine hr.mono ?_; rintro _ w1 ⟨rfl, rfl⟩)
    | (go_at_call 15; refine (hname _).mono ?_; rintro _ w2 ⟨rfl, hb2⟩; have c32 := (hb2.cell (p := ⟨p, 3, none⟩) hb0).trans c3))
  go_quiet (fail)
  go_wp2_with (go_at_call 17; refine (hlay _ (Mem.bdrewN hb2 _)).mono ?_; rintro _ w4 ⟨rfl, hc4, hD4⟩)
  go_ret
  exact ⟨rfl, hc4, hD4⟩
set_option maxRecDepth 100000 in
set_option maxHeartbeats 8000000 in
theorem Put_bad (S : Nat → Prop) (p N : Nat) (d : Dk) (f : ByteArray) (a : Int) (s : ByteArray) (w : World) (h : DiskAt w S p N d) (hd : d.down = false) (hf : f.size ≤ maxLen) (hss : s.size ≤ maxLen) (hai : -9223372036854775808 ≤ a ∧ a ≤ 9223372036854775807) (hg : d.bad f a s) :
    Calls Tryz.prog 5 #[.pointer (some ⟨p, 0, none⟩), .string f, .int .i64 a, .string s] w fun r w' => r = .returned (.int .i64 1) ∧ Below w.heap.size w w' := by
  obtain ⟨bs, bn, v, h⟩ := h
  have hr := ready_any S p N d bs bn v w h
  rw [hd, if_neg (by decide)] at hr
  have c1 := h.c1
  obtain ⟨hl, hsz⟩ := h.now.lookup hf
  clear h
  have hname : ∀ W, Calls Tryz.prog 15 #[.string f] W fun r w' => r = .returned (.bool (nameP f)) ∧ Below W.heap.size W w' := fun W => name_any f W hf
  cases hn : nameP f
  · rw [hn] at hname
    go_enter Tryz.func5, Tryz.ntmps5
    go_wp2_with (first
      | (go_at_call 14; refine hr.mono ?_; rintro _ w1 ⟨rfl, rfl⟩)
      | (go_at_call 15; refine (hname _).mono ?_; rintro _ w2 ⟨rfl, hb2⟩))
    go_ret
    exact ⟨rfl, hb2⟩
  rw [hn] at hname
  by_cases h1 : a < 0
  · go_enter Tryz.func5, Tryz.ntmps5
    go_wp2_with (first
      | (go_at_call 14; refine hr.mono ?_; rintro _ w1 ⟨rfl, rfl⟩)
      | (go_at_call 15; refine (hname _).mono ?_; rintro _ w2 ⟨rfl, hb2⟩))
    go_ret
    exact ⟨rfl, hb2⟩
  have h1' : (0 : Int) ≤ a := by omega
  by_cases h2 : ((d.now.get f).size : Int) < a
  · go_enter Tryz.func5, Tryz.ntmps5
    go_wp2_with (first
      | (go_at_call 14; refine hr.mono ?_; rintro _ w1 ⟨rfl, rfl⟩)
      | (go_at_call 15; refine (hname _).mono ?_; rintro _ w2 ⟨rfl, hb2⟩))
    go_ret
    exact ⟨rfl, hb2⟩
  have h2' : a ≤ ((d.now.get f).size : Int) := by omega
  have h3 : 4194304 - a < (s.size : Int) := by
    unfold Dk.bad at hg
    rcases hg with hg | hg | hg | hg
    · rw [hn] at hg; cases hg
    · omega
    · omega
    · exact hg
  have hsub : wrap64 (4194304 - a) = 4194304 - a := by unfold wrap64; omega
  go_enter Tryz.func5, Tryz.ntmps5
  go_wp2_with (first
    | (go_at_call 14; refine hr.mono ?_; rintro _ w1 ⟨rfl, rfl⟩)
    | (go_at_call 15; refine (hname _).mono ?_; rintro _ w2 ⟨rfl, hb2⟩))
  go_ret
  exact ⟨rfl, hb2⟩
end Go.Proofs.YtpdceondgbgpkaaGreatDoor.Dsk
namespace Go.Proofs.YtpdceondgbgpkaaGreatDoor.Dsk
open Go.RowKit Go.Maps
set_option linter.unusedSimpArgs false
set_option linter.unusedVariables false
set_option maxRecDepth 100000 in
set_option maxHeartbeats 8000000 in
theorem Put_bound (S : Nat → Prop) (p N : Nat) (d : Dk) (f : ByteArray) (a : Nat) (s : ByteArray) (w : World) (h : DiskAt w S p N d) (hi : Dk.Inv d) (hd : d.down = false) (hf : f.size ≤ maxLen) (hg : ¬ d.bad f a s) (hroom : 0 ≤ d.room) (hN : N < 1000000000) :
    Calls Tryz.prog 5 #[.pointer (some ⟨p, 0, none⟩), .string f, .int .i64 a, .string s] w fun r w' => (r = .returned (.int .i64 (d.lay (.put f s a)).1) ∧ Mem.Ch S w w' ∧ DiskAt w' (Gr S w w') p (N + 1) (d.lay (.put f s a)).2) ∨ (r = .returned (.int .i64 7) ∧ Below w.heap.size w w') := by
  have H := Lib.hid (And.intro h hi)
  obtain ⟨h1, h2, h3, hn⟩ := put_ok hg
  have hlay : ∀ W, Below w.heap.size w W → _ := fun W hb => lay_after (c := .put f s a) rfl H.out.1 hb H.out.2 hd ⟨hf, by omega, by omega⟩ hN
  have hused : ∀ W, Below w.heap.size w W → _ := fun W hb => Used_some S p N d W (H.out.1.below hb) hd
  obtain ⟨bs, bn, v, h⟩ := h
  have hr := ready_any S p N d bs bn v w h
  rw [hd, if_neg (by decide)] at hr
  have c1 := h.c1
  obtain ⟨hl, hsz⟩ := h.now.lookup hf
  have hb0 := Mem.lt h.blk
  have c3 := h.c3
  clear h hi hg
  have hname : ∀ W, Calls Tryz.prog 15 #[.string f] W fun r w' => r = .returned (.bool true) ∧ Below W.heap.size W w' := fun W => by rw [← hn]; exact name_any f W hf
  have hsub : wrap64 (4194304 - (a : Int)) = 4194304 - a := by unfold wrap64; omega
  have hmx : (maxLen : Nat) = 9223372036854775807 := rfl
  have hs1 : wrap64 (((d.now.get f).size : Int) - a) = (d.now.get f).size - a := by unfold wrap64; omega
  have hs2 : wrap64 ((s.size : Int) - (((d.now.get f).size : Int) - a)) = s.size - ((d.now.get f).size - a) := by unfold wrap64; omega
  obtain ⟨mr, hmr⟩ : ∃ mr : Int, (s.size : Int) - (((d.now.get f).size : Int) - a) = mr := ⟨_, rfl⟩
  rw [hmr] at hs2
  by_cases hmore : 0 < mr
  · go_enter Tryz.func5, Tryz.ntmps5
    go_wp2_with (first
      | (go_at_call 14; refine hr.mono ?_; rintro _ w1 ⟨rfl, rfl⟩)
      | (go_at_call 15; refine (hname _).mono ?_; rintro _ w2 ⟨rfl, hb2⟩; have c32 := (hb2.cell (p := ⟨p, 3, none⟩) hb0).trans c3))
    have hd1 : decide (0 ≤ d.room) = true := decide_eq_true hroom
    have hd2 : decide (0 < mr) = true := decide_eq_true hmore
    have c32d : w2.drew.cell? ⟨p, 3, none⟩ = some (.int .i64 d.room) := c32
    have hb2d : Below w1.heap.size w1 w2.drew := hb2.drew
    go_region_held3 (fun W => W.cell? ⟨p, 3, none⟩ = some (.int .i64 d.room) ∧ Below w1.heap.size w1 W)
      (first | exact ⟨c33, hb33⟩ | exact ⟨c32d, hb2d⟩)
      (first
        | (go_at_call 16
           refine (hused _ (by obtain ⟨_, hh⟩ := ‹_ ∧ _›; exact hh)).mono ?_
           rintro _ w3 ⟨n, rfl, hb3⟩
           have c33 := (hb3.cell (p := ⟨p, 3, none⟩) (Nat.lt_of_lt_of_le hb0 (by obtain ⟨_, hh⟩ := ‹_ ∧ _›; exact hh.size))).trans (by obtain ⟨hh, _⟩ := ‹_ ∧ _›; exact hh)
           have hb33 := Below.trans (by obtain ⟨_, hh⟩ := ‹_ ∧ _›; exact hh) (hb3.mono (by obtain ⟨_, hh⟩ := ‹_ ∧ _›; exact hh.size)))
        | fail)
    all_goals go_wp2_with (go_at_call 17; refine (hlay _ hb33).mono ?_; rintro _ w4 ⟨rfl, hc4, hD4⟩)
    all_goals go_ret
    all_goals first | exact .inl ⟨rfl, hc4, hD4⟩ | exact .inr ⟨rfl, hb33⟩
  · go_enter Tryz.func5, Tryz.ntmps5
    go_wp2_with (first
      | (go_at_call 14; refine hr.mono ?_; rintro _ w1 ⟨rfl, rfl⟩)
      | (go_at_call 15; refine (hname _).mono ?_; rintro _ w2 ⟨rfl, hb2⟩; have c32 := (hb2.cell (p := ⟨p, 3, none⟩) hb0).trans c3))
    have hd1 : decide (0 ≤ d.room) = true := decide_eq_true hroom
    have hd2 : decide (0 < mr) = false := decide_eq_false (by omega)
    have hmr0 : mr ≤ 0 := by omega
    go_quiet (fail)
    go_wp2_with (go_at_call 17; refine (hlay _ (Mem.bdrewN hb2 _)).mono ?_; rintro _ w4 ⟨rfl, hc4, hD4⟩)
    go_ret
    exact .inl ⟨rfl, hc4, hD4⟩
end Go.Proofs.YtpdceondgbgpkaaGreatDoor.Dsk
namespace Go.Proofs.YtpdceondgbgpkaaGreatDoor.Dsk
open Go.RowKit Go.Maps
set_option linter.unusedSimpArgs false
set_option linter.unusedVariables false
theorem Fail_any (S : Nat → Prop) (p N : Nat) (d : Dk) (k : Int) (w : World) (h : DiskAt w S p N d) (hk : k ≤ 9223372036854775807) (hi : Dk.Inv d) (hN : N < 1073741824) :
    Calls Tryz.prog 19 #[.pointer (some ⟨p, 0, none⟩), .int .i64 k] w fun r w' => r = .returned (.tuple #[]) ∧ Mem.Ch S w w' ∧ DiskAt w' (Gr S w w') p N (d.fail k) := by
  cases hd : d.down
  · exact Fail_up S p N d k w h hd hk hi.valid hN
  · refine (Fail_down S p N d k w h hd).mono ?_
    rintro _ w' ⟨rfl, rfl⟩
    have e : d.fail k = d := by unfold Dk.fail; rw [if_pos hd]
    rw [e]
    exact ⟨rfl, Mem.Ch.refl _ _, h.mono (fun k hk => .inl hk)⟩
theorem Put_any (S : Nat → Prop) (p N : Nat) (d : Dk) (f : ByteArray) (a : Int) (s : ByteArray) (w : World) (h : DiskAt w S p N d) (hi : Dk.Inv d) (hf : f.size ≤ maxLen) (hss : s.size ≤ maxLen) (hai : -9223372036854775808 ≤ a ∧ a ≤ 9223372036854775807) (hN : N < 1000000000) :
    Calls Tryz.prog 5 #[.pointer (some ⟨p, 0, none⟩), .string f, .int .i64 a, .string s] w fun r w' => ∃ e d', r = .returned (.int .i64 e) ∧ Mem.Ch S w w' ∧ DiskAt w' (Gr S w w') p (N + 1) d' ∧ d.Puts f a s e d' := by
  unfold Dk.Puts
  cases hd : d.down
  · by_cases hb : d.bad f a s
    · refine (Put_bad S p N d f a s w h hd hf hss hai hb).mono ?_
      rintro _ w' ⟨rfl, hB⟩
      obtain ⟨h1, h2⟩ := stays h hB
      exact ⟨1, d, rfl, h1, h2, by rw [if_neg (by decide)]; exact .inl ⟨hb, rfl, rfl⟩⟩
    · obtain ⟨m, rfl⟩ : ∃ m : Nat, a = m := ⟨a.toNat, by have := (put_ok hb).1; omega⟩
      by_cases hr : d.room < 0
      · refine (Put_good S p N d f m s w h hi hd hf hb hr hN).mono ?_
        rintro _ w' ⟨rfl, h1, h2⟩
        exact ⟨_, _, rfl, h1, h2, by rw [if_neg (by decide)]; exact .inr ⟨hb, .inr rfl⟩⟩
      · refine (Put_bound S p N d f m s w h hi hd hf hb (by omega) hN).mono ?_
        rintro _ w' (⟨rfl, h1, h2⟩ | ⟨rfl, hB⟩)
        · exact ⟨_, _, rfl, h1, h2, by rw [if_neg (by decide)]; exact .inr ⟨hb, .inr rfl⟩⟩
        · obtain ⟨h1, h2⟩ := stays h hB
          exact ⟨7, d, rfl, h1, h2, by rw [if_neg (by decide)]; exact .inr ⟨hb, .inl ⟨by omega, rfl, rfl⟩⟩⟩
  · refine (Put_down S p N d f a s w h hd).mono ?_
    rintro _ w' ⟨rfl, rfl⟩
    obtain ⟨h1, h2⟩ := stays h (Below.refl _ w')
    exact ⟨8, d, rfl, h1, h2, by rw [if_pos rfl]; exact ⟨rfl, rfl⟩⟩
end Go.Proofs.YtpdceondgbgpkaaGreatDoor.Dsk
