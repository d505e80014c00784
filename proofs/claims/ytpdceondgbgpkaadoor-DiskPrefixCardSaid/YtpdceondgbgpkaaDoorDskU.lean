/- disk.Used: some number of bytes. -/
import Derived.Test.YtpdceondgbgpkaaDoorDsk2
import Derived.Maps.RangeWalk
namespace Go.Proofs.YtpdceondgbgpkaaDoor.Dsk
open Go.RowKit Go.Maps
set_option linter.unusedSimpArgs false
set_option linter.unusedVariables false
theorem inv_key : ∀ key kl, keyOf Tryd.prog 9 key = some kl → ∃ x, key = .string x := fun key kl hkey => by
  obtain ⟨s, rfl, _⟩ := Go.WideMaps.string_of_keyOf Tryd.underlying9 hkey
  exact ⟨s, rfl⟩
theorem inv_val : ∀ v y, plainElem (H := Unit) Tryd.prog 9 v = some y → ∃ c, v = .string c := fun v y hv => by
  obtain ⟨c, rfl, _⟩ := plainElem_string_inv Tryd.underlying9 hv
  exact ⟨c, rfl⟩
set_option maxRecDepth 100000 in
set_option maxHeartbeats 4000000 in
theorem Used_some (S : Nat → Prop) (p N : Nat) (d : Dk) (w : World) (h : DiskAt w S p N d) (hd : d.down = false) :
    Calls Tryd.prog 16 #[.pointer (some ⟨p, 0, none⟩)] w fun r w' => ∃ n, r = .returned (.int .i64 n) ∧ Below w.heap.size w w' := by
  obtain ⟨bs, bn, v, h⟩ := h
  have hr := ready_any S p N d bs bn v w h
  rw [hd, if_neg (by decide)] at hr
  have c1 := h.c1
  obtain ⟨D, hown, hF⟩ := h.now
  have hlt := hown.lt
  have HW := Lib.hid hown
  clear h hown
  go_enter Tryd.func16, Tryd.ntmps16
  go_wp2_with (first
    | (go_at_call 25; refine hr.mono ?_; rintro _ w1 ⟨rfl, rfl⟩)
    | (at_range; refine wpList_range_own _ rfl _ _ rfl 9 9 key_law Tryd.underlying40 _ bn N D rfl HW.out ?_; intro w2 hrg hg2 hs2))
  go_frame
  go_loopw [3] (fun n wr => ∃ (x : Int) (left : Lit → Bool) (cnt : Nat), n = .int .i64 x ∧ wr.ranges Tryd.prog 9 (plainElem Tryd.prog 9) bn w1.heap.size N D left cnt ∧ Below w1.heap.size w1 wr) (fun _ wr => wr.rangeLeft bn w1.heap.size)
  case atStart => exact ⟨0, _, _, rfl, hrg, ⟨hg2.os, hg2.tape, hg2.output, hg2.size, fun k hk => hg2.block k hk (by simp)⟩⟩
  case round =>
    obtain ⟨x, left, cnt, rfl, hrg', hbel⟩ := hrel
    have hle := hrg'.left_eq
    go_wp2_with (at_next; refine wpList_next_ranges _ rfl _ rfl 9 key_law (plainElem Tryd.prog 9) Value.string Value.string inv_key inv_val bn w1.heap.size N D left cnt rfl hrg' ?_ ?_)
    · intro _ _
      go_wp2_with fail
      go_ret
      exact ⟨_, rfl, hbel⟩
    · intro xk c kl y1 y2 w3 cnt' hkey hleft hpl hat hrg3 hlt3 hg3 hs3 hen
      have hle3 := hrg3.left_eq
      go_wp2_with fail
      go_roundw
      case rel => exact ⟨_, _, cnt', rfl, hrg3, hbel.trans ⟨hg3.os, hg3.tape, hg3.output, hg3.size, fun k hk => hg3.block k (Nat.lt_of_lt_of_le hk hbel.size) (fun e => by have := Option.some.inj e; omega)⟩⟩
      case measure => rw [hle3, hle]; exact hlt3
end Go.Proofs.YtpdceondgbgpkaaDoor.Dsk
