/- disk: Trim. -/
import Derived.Test.YtpdceondgbgpkaaDoorDsk6
namespace Go.Proofs.YtpdceondgbgpkaaDoor.Dsk
open Go.RowKit Go.Maps
set_option linter.unusedSimpArgs false
set_option linter.unusedVariables false
set_option maxRecDepth 100000 in
set_option maxHeartbeats 4000000 in
theorem Trim_any (S : Nat → Prop) (p N : Nat) (d : Dk) (f : ByteArray) (n : Int) (w : World) (h : DiskAt w S p N d) (hi : Dk.Inv d) (hf : f.size ≤ maxLen) (hN : N < 1000000000) :
    Calls Tryd.prog 20 #[.pointer (some ⟨p, 0, none⟩), .string f, .int .i64 n] w fun r w' => r = .returned (.int .i64 (d.trim f n).1) ∧ Mem.Ch S w w' ∧ DiskAt w' (Gr S w w') p (N + 1) (d.trim f n).2 := by
  have ht := there_any S p N d f w h hf
  have H := Lib.hid (And.intro h hi)
  clear h hi
  unfold Dk.trim
  by_cases he : d.there f ≠ 0
  · rw [if_pos he]
    generalize d.there f = e at ht he
    go_enter Tryd.func20, Tryd.ntmps20
    go_wp2_with (go_at_call 34; refine ht.mono ?_; rintro _ w1 ⟨rfl, hb1⟩)
    go_ret
    exact ⟨rfl, stays H.out.1 hb1⟩
  · rw [if_neg he]
    have hu := Dk.there_up he
    have h0 : d.there f = 0 := by omega
    rw [h0] at ht
    by_cases hneg : n < 0
    · rw [if_pos (.inl hneg)]
      go_enter Tryd.func20, Tryd.ntmps20
      go_wp2_with (go_at_call 34; refine ht.mono ?_; rintro _ w1 ⟨rfl, hb1⟩)
      repeat (go_quiet (fail); try go_wp2_with fail)
      refine bodyPost_ret (v := .int .i64 1) (by simp [results, Tryd.results20, go_sem, *]) rfl ⟨rfl, ?_⟩
      first | exact stays H.out.1 hb1 | exact stays H.out.1 (Mem.bdrewN hb1 _)
    · by_cases hbig : ((d.now.get f).size : Int) < n
      · rw [if_pos (.inr hbig)]
        have hn0 : (0 : Int) ≤ n := by omega
        go_enter Tryd.func20, Tryd.ntmps20
        go_wp2_with (go_at_call 34; refine ht.mono ?_; rintro _ w1 ⟨rfl, hb1⟩; have h2 := H.out.1.below hb1; obtain ⟨bs, bn, v, h2⟩ := h2; have c1 := h2.c1; have hl := (h2.now.lookup hf).1; clear h2)
        repeat (go_quiet (fail); try go_wp2_with fail)
        refine bodyPost_ret (v := .int .i64 1) (by simp [results, Tryd.results20, go_sem, *]) rfl ⟨rfl, ?_⟩
        first | exact stays H.out.1 hb1 | exact stays H.out.1 (Mem.bdrewN hb1 _)
      · rw [if_neg (by omega)]
        obtain ⟨m, rfl⟩ : ∃ m : Nat, n = m := ⟨n.toNat, by omega⟩
        have hm : (m : Int) ≤ ((d.now.get f).size : Int) := by omega
        rw [show ((m : Int)).toNat = m by omega]
        have hlay : ∀ W, Below w.heap.size w W → _ := fun W hb => lay_after (c := .trim f m) rfl H.out.1 hb H.out.2 hu ⟨hf, by omega⟩ hN
        go_enter Tryd.func20, Tryd.ntmps20
        go_wp2_with (first
          | (go_at_call 34; refine ht.mono ?_; rintro _ w1 ⟨rfl, hb1⟩; have h2 := H.out.1.below hb1; obtain ⟨bs, bn, v, h2⟩ := h2; have c1 := h2.c1; have hl := (h2.now.lookup hf).1; clear h2)
          | (go_at_call 32; refine (hlay _ hb1).mono ?_; rintro _ w2 ⟨rfl, hc2, hD2⟩))
        go_ret
        exact ⟨rfl, hc2, hD2⟩
end Go.Proofs.YtpdceondgbgpkaaDoor.Dsk
