/- disk: there, Trim, Move, Drop, Read, Sync, New. -/
import Derived.Test.YtpdceondgbgpkaaDoorDsk4
import Derived.Test.YtpdceondgbgpkaaDoorDskN
namespace Go.Proofs.YtpdceondgbgpkaaDoor.Dsk
open Go.RowKit Go.Maps
set_option linter.unusedSimpArgs false
set_option linter.unusedVariables false
namespace Dk
def there (d : Dk) (f : ByteArray) : Int := if d.down then 8 else if nameP f then (if (d.now f).isSome then 0 else 4) else 1
def trim (d : Dk) (f : ByteArray) (n : Int) : Int × Dk := if d.there f ≠ 0 then (d.there f, d) else if n < 0 ∨ ((d.now.get f).size : Int) < n then (1, d) else d.lay (.trim f n.toNat)
def move (d : Dk) (f t : ByteArray) : Int × Dk := if d.down = false ∧ nameP t = false then (1, d) else if d.there f ≠ 0 then (d.there f, d) else d.lay (.move f t)
def drop (d : Dk) (f : ByteArray) : Int × Dk := if d.there f ≠ 0 then (d.there f, d) else d.lay (.drop f)
theorem there_up {d : Dk} {f : ByteArray} (h : ¬ d.there f ≠ 0) : d.down = false := by
  cases hd : d.down
  · rfl
  · exact absurd (by unfold there; rw [hd, if_pos rfl]; decide) h
end Dk
set_option maxRecDepth 100000 in
set_option maxHeartbeats 4000000 in
theorem there_any (S : Nat → Prop) (p N : Nat) (d : Dk) (f : ByteArray) (w : World) (h : DiskAt w S p N d) (hf : f.size ≤ maxLen) :
    Calls Tryd.prog 34 #[.pointer (some ⟨p, 0, none⟩), .string f] w fun r w' => r = .returned (.int .i64 (d.there f)) ∧ Below w.heap.size w w' := by
  obtain ⟨bs, bn, v, h⟩ := h
  have hr := ready_any S p N d bs bn v w h
  have H := Lib.hid h
  clear h
  unfold Dk.there
  cases hd : d.down
  · rw [hd, if_neg (by decide)] at hr
    rw [if_neg (by decide)]
    cases hn : nameP f
    · have hname : ∀ W, Calls Tryd.prog 31 #[.string f] W fun r w' => r = .returned (.bool false) ∧ Below W.heap.size W w' := fun W => by rw [← hn]; exact name_any f W hf
      go_enter Tryd.func34, Tryd.ntmps34
      go_wp2_with (first
        | (go_at_call 25; refine hr.mono ?_; rintro _ w1 ⟨rfl, rfl⟩)
        | (go_at_call 31; refine (hname _).mono ?_; rintro _ w2 ⟨rfl, hb2⟩))
      go_ret
      exact ⟨rfl, hb2⟩
    · have hname : ∀ W, Calls Tryd.prog 31 #[.string f] W fun r w' => r = .returned (.bool true) ∧ Below W.heap.size W w' := fun W => by rw [← hn]; exact name_any f W hf
      rw [if_pos rfl]
      cases hs : (d.now f).isSome
      · go_enter Tryd.func34, Tryd.ntmps34
        go_wp2_with (first
          | (go_at_call 25; refine hr.mono ?_; rintro _ w1 ⟨rfl, rfl⟩)
          | (go_at_call 31; refine (hname _).mono ?_; rintro _ w2 ⟨rfl, hb2⟩; have h2 := H.out.below hb2; have c1 := h2.c1; have hl := h2.now.look_ok hf; rw [hs] at hl; clear h2))
        go_ret
        exact ⟨rfl, hb2⟩
      · go_enter Tryd.func34, Tryd.ntmps34
        go_wp2_with (first
          | (go_at_call 25; refine hr.mono ?_; rintro _ w1 ⟨rfl, rfl⟩)
          | (go_at_call 31; refine (hname _).mono ?_; rintro _ w2 ⟨rfl, hb2⟩; have h2 := H.out.below hb2; have c1 := h2.c1; have hl := h2.now.look_ok hf; rw [hs] at hl; clear h2))
        go_ret
        exact ⟨rfl, hb2⟩
  · rw [hd, if_pos rfl] at hr
    rw [if_pos rfl]
    go_enter Tryd.func34, Tryd.ntmps34
    go_wp2_with (go_at_call 25; refine hr.mono ?_; rintro _ w1 ⟨rfl, rfl⟩)
    go_ret
    exact ⟨rfl, Below.refl _ _⟩
/-- Behind a call that changed nothing, a change is laid. -/
theorem lay_after {S : Nat → Prop} {p N : Nat} {d : Dk} {c : Chg} {cv : Value} {w W : World} (hcv : c.val = cv) (h : DiskAt w S p N d) (hb : Below w.heap.size w W) (hi : Dk.Inv d) (hu : d.down = false) (hc : c.ok d.now) (hN : N < 1000000000) :
    Calls Tryd.prog 32 #[.pointer (some ⟨p, 0, none⟩), cv] W fun r w' => r = .returned (.int .i64 (d.lay c).1) ∧ Mem.Ch S w w' ∧ DiskAt w' (Gr S w w') p (N + 1) (d.lay c).2 := by
  refine (lay_any S p N d c cv hcv W (h.below hb) hi hu hc hN).mono ?_
  rintro _ w' ⟨rfl, h1, h2⟩
  exact ⟨rfl, (Mem.Ch.of_below' hb).trans' h1, h2.mono (fun k hk => by rcases hk with hk | hk; exact .inl hk; exact .inr ⟨by have := hb.size; omega, hk.2⟩)⟩
theorem stays {S : Nat → Prop} {p N : Nat} {d : Dk} {w W : World} (h : DiskAt w S p N d) (hb : Below w.heap.size w W) : Mem.Ch S w W ∧ DiskAt W (Gr S w W) p (N + 1) d :=
  ⟨Mem.Ch.of_below' hb, ((h.below hb).mono (fun k hk => .inl hk)).more (Nat.le_succ N)⟩
set_option maxRecDepth 100000 in
set_option maxHeartbeats 4000000 in
theorem Drop_any (S : Nat → Prop) (p N : Nat) (d : Dk) (f : ByteArray) (w : World) (h : DiskAt w S p N d) (hi : Dk.Inv d) (hf : f.size ≤ maxLen) (hN : N < 1000000000) :
    Calls Tryd.prog 22 #[.pointer (some ⟨p, 0, none⟩), .string f] w fun r w' => r = .returned (.int .i64 (d.drop f).1) ∧ Mem.Ch S w w' ∧ DiskAt w' (Gr S w w') p (N + 1) (d.drop f).2 := by
  have ht := there_any S p N d f w h hf
  have H := Lib.hid (And.intro h hi)
  clear h hi
  unfold Dk.drop
  by_cases he : d.there f ≠ 0
  · rw [if_pos he]
    generalize d.there f = e at ht he
    go_enter Tryd.func22, Tryd.ntmps22
    go_wp2_with (go_at_call 34; refine ht.mono ?_; rintro _ w1 ⟨rfl, hb1⟩)
    go_ret
    exact ⟨rfl, stays H.out.1 hb1⟩
  · rw [if_neg he]
    have hu := Dk.there_up he
    have h0 : d.there f = 0 := by omega
    rw [h0] at ht
    have hlay : ∀ W, Below w.heap.size w W → _ := fun W hb => lay_after (c := .drop f) rfl H.out.1 hb H.out.2 hu hf hN
    go_enter Tryd.func22, Tryd.ntmps22
    go_wp2_with (first
      | (go_at_call 34; refine ht.mono ?_; rintro _ w1 ⟨rfl, hb1⟩)
      | (go_at_call 32; refine (hlay _ hb1).mono ?_; rintro _ w2 ⟨rfl, hc2, hD2⟩))
    go_ret
    exact ⟨rfl, hc2, hD2⟩
set_option maxRecDepth 100000 in
set_option maxHeartbeats 4000000 in
theorem Move_any (S : Nat → Prop) (p N : Nat) (d : Dk) (f t : ByteArray) (w : World) (h : DiskAt w S p N d) (hi : Dk.Inv d) (hf : f.size ≤ maxLen) (htl : t.size ≤ maxLen) (hN : N < 1000000000) :
    Calls Tryd.prog 21 #[.pointer (some ⟨p, 0, none⟩), .string f, .string t] w fun r w' => r = .returned (.int .i64 (d.move f t).1) ∧ Mem.Ch S w w' ∧ DiskAt w' (Gr S w w') p (N + 1) (d.move f t).2 := by
  have hr : Calls Tryd.prog 25 #[.pointer (some ⟨p, 0, none⟩)] w fun r w' => r = .returned (.int .i64 (if d.down then 8 else 0)) ∧ w' = w := by
    obtain ⟨bs, bn, v, h⟩ := h
    exact ready_any S p N d bs bn v w h
  have H := Lib.hid (And.intro h hi)
  have hth : ∀ W, Below w.heap.size w W → Calls Tryd.prog 34 #[.pointer (some ⟨p, 0, none⟩), .string f] W fun r w' => r = .returned (.int .i64 (d.there f)) ∧ Below W.heap.size W w' := fun W hb => there_any S p N d f W (H.out.1.below hb) hf
  clear h hi
  unfold Dk.move
  by_cases hbad : d.down = false ∧ nameP t = false
  · rw [if_pos hbad]
    obtain ⟨hd, hn⟩ := hbad
    rw [hd, if_neg (by decide)] at hr
    have hname : ∀ W, Calls Tryd.prog 31 #[.string t] W fun r w' => r = .returned (.bool false) ∧ Below W.heap.size W w' := fun W => by rw [← hn]; exact name_any t W htl
    go_enter Tryd.func21, Tryd.ntmps21
    go_wp2_with (first
      | (go_at_call 25; refine hr.mono ?_; rintro _ w1 ⟨rfl, rfl⟩)
      | (go_at_call 31; refine (hname _).mono ?_; rintro _ w2 ⟨rfl, hb2⟩))
    go_ret
    exact ⟨rfl, stays H.out.1 hb2⟩
  · rw [if_neg hbad]
    cases hd : d.down
    · have hn : nameP t = true := by cases hx : nameP t; exact absurd ⟨hd, hx⟩ hbad; rfl
      rw [hd, if_neg (by decide)] at hr
      have hname : ∀ W, Calls Tryd.prog 31 #[.string t] W fun r w' => r = .returned (.bool true) ∧ Below W.heap.size W w' := fun W => by rw [← hn]; exact name_any t W htl
      by_cases he : d.there f ≠ 0
      · rw [if_pos he]
        generalize d.there f = e at hth he
        go_enter Tryd.func21, Tryd.ntmps21
        go_wp2_with (first
          | (go_at_call 25; refine hr.mono ?_; rintro _ w1 ⟨rfl, rfl⟩)
          | (go_at_call 31; refine (hname _).mono ?_; rintro _ w2 ⟨rfl, hb2⟩)
          | (go_at_call 34; refine (hth _ hb2).mono ?_; rintro _ w3 ⟨rfl, hb3⟩))
        go_ret
        exact ⟨rfl, stays H.out.1 (hb2.trans (hb3.mono hb2.size))⟩
      · rw [if_neg he]
        have hu := Dk.there_up he
        have h0 : d.there f = 0 := by omega
        rw [h0] at hth
        have hlay : ∀ W, Below w.heap.size w W → _ := fun W hb => lay_after (c := .move f t) rfl H.out.1 hb H.out.2 hu ⟨hf, htl⟩ hN
        go_enter Tryd.func21, Tryd.ntmps21
        go_wp2_with (first
          | (go_at_call 25; refine hr.mono ?_; rintro _ w1 ⟨rfl, rfl⟩)
          | (go_at_call 31; refine (hname _).mono ?_; rintro _ w2 ⟨rfl, hb2⟩)
          | (go_at_call 34; refine (hth _ hb2).mono ?_; rintro _ w3 ⟨rfl, hb3⟩)
          | (go_at_call 32; refine (hlay _ (hb2.trans (hb3.mono hb2.size))).mono ?_; rintro _ w4 ⟨rfl, hc4, hD4⟩))
        go_ret
        exact ⟨rfl, hc4, hD4⟩
    · rw [hd, if_pos rfl] at hr
      have he : d.there f = 8 := by unfold Dk.there; rw [hd]; rfl
      rw [he, if_pos (by decide)]
      rw [he] at hth
      go_enter Tryd.func21, Tryd.ntmps21
      go_wp2_with (first
        | (go_at_call 25; refine hr.mono ?_; rintro _ w1 ⟨rfl, rfl⟩)
        | (go_at_call 34; refine (hth _ (Below.refl _ _)).mono ?_; rintro _ w3 ⟨rfl, hb3⟩))
      go_ret
      exact ⟨rfl, stays H.out.1 hb3⟩
end Go.Proofs.YtpdceondgbgpkaaDoor.Dsk
