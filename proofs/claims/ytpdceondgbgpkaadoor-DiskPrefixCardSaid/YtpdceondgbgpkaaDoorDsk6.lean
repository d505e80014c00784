/- disk: Trim, Read, Sync, New. -/
import Derived.Test.YtpdceondgbgpkaaDoorDsk5
namespace Go.Proofs.YtpdceondgbgpkaaDoor.Dsk
open Go.RowKit Go.Maps
set_option linter.unusedSimpArgs false
set_option linter.unusedVariables false
set_option maxRecDepth 100000 in
set_option maxHeartbeats 4000000 in
theorem Read_any (S : Nat → Prop) (p N : Nat) (d : Dk) (f : ByteArray) (w : World) (h : DiskAt w S p N d) (hf : f.size ≤ maxLen) :
    Calls Tryd.prog 19 #[.pointer (some ⟨p, 0, none⟩), .string f] w fun r w' => r = .returned (.tuple #[.string (if d.there f ≠ 0 then ⟨#[]⟩ else d.now.get f), .int .i64 (d.there f)]) ∧ Below w.heap.size w w' := by
  have ht := there_any S p N d f w h hf
  have H := Lib.hid h
  clear h
  by_cases he : d.there f ≠ 0
  · rw [if_pos he]
    generalize d.there f = e at ht he
    go_enter Tryd.func19, Tryd.ntmps19
    go_wp2_with (go_at_call 34; refine ht.mono ?_; rintro _ w1 ⟨rfl, hb1⟩)
    repeat (go_quiet (fail); try go_wp2_with fail)
    refine bodyPost_ret (v := .tuple #[.string ⟨#[]⟩, .int .i64 e]) (by simp [results, Tryd.results19, go_sem, *]) rfl ⟨rfl, ?_⟩
    first | exact hb1 | exact Mem.bdrewN hb1 _
  · rw [if_neg he]
    have h0 : d.there f = 0 := by omega
    rw [h0] at ht ⊢
    go_enter Tryd.func19, Tryd.ntmps19
    go_wp2_with (go_at_call 34; refine ht.mono ?_; rintro _ w1 ⟨rfl, hb1⟩; have h2 := H.out.below hb1; obtain ⟨bs, bn, v, h2⟩ := h2; have c1 := h2.c1; have hl := (h2.now.lookup hf).1; clear h2)
    repeat (go_quiet (fail); try go_wp2_with fail)
    refine bodyPost_ret (v := .tuple #[.string (d.now.get f), .int .i64 0]) (by simp [results, Tryd.results19, go_sem, *]) rfl ⟨rfl, ?_⟩
    first | exact hb1 | exact Mem.bdrewN hb1 _
set_option maxRecDepth 100000 in
set_option maxHeartbeats 4000000 in
theorem New_any (w : World) : Calls Tryd.prog 5 #[] w fun r w' => ∃ p, r = .returned (.pointer (some ⟨p, 0, none⟩)) ∧ Below w.heap.size w w' ∧ DiskAt w' (fun k => w.heap.size ≤ k ∧ k < w'.heap.size) p 0 Dk.new := by
  have hmm := @run_makeMap Tryd.prog
  go_enter Tryd.func5, Tryd.ntmps5
  go_wp2
  go_ret
  refine ⟨_, rfl, (((Below.refl _ _).alloc (Nat.le_refl _) _).alloc (by simp) _).alloc (by simp; omega) _, w.heap.size, w.heap.size + 1, .slice none 0 0, ?_⟩
  have h0 := Own.made w
  have h1 := Own.made (w.alloc (.map #[] 0))
  have e1 : (w.alloc (.map #[] 0)).heap.size = w.heap.size + 1 := by simp
  rw [e1] at h1
  exact {
    blk := by
      have := Mem.new ((w.alloc (.map #[] 0)).alloc (.map #[] 0)) (.cells (cellsOf Dk.new w.heap.size (w.heap.size + 1) (.slice none 0 0)) 43)
      simpa [cellsOf, Dk.new] using this
    sure := ⟨0, (h0.alloc _).alloc _, Nat.le_refl _⟩
    now := h1.alloc _
    row := World.ownsRow_nil _ _ _ _
    sp := by first | (simp; done) | (simp; omega)
    ss := by first | (simp; done) | (simp; omega)
    sn := by first | (simp; done) | (simp; omega)
    sr := fun i hi => by simp [Value.ownBlock] at hi
    ne := by omega }
set_option maxRecDepth 100000 in
set_option maxHeartbeats 4000000 in
theorem Sync_any (S : Nat → Prop) (p N : Nat) (d : Dk) (w : World) (h : DiskAt w S p N d) (hi : Dk.Inv d) (hN : N < 1000000000) :
    Calls Tryd.prog 18 #[.pointer (some ⟨p, 0, none⟩)] w fun r w' => r = .returned (.int .i64 d.sync.1) ∧ Mem.Ch S w w' ∧ DiskAt w' (Gr S w w') p (N + 1) d.sync.2 := by
  obtain ⟨bs, bn, v, h⟩ := h
  have hr := ready_any S p N d bs bn v w h
  have hcount := count_any S p N d bs bn v w h
  have HI := Lib.hid hi
  have H := Lib.hid h
  clear h hi
  unfold Dk.sync
  cases hd : d.down
  · rw [hd, if_neg (by decide)] at hr
    rw [if_neg (by decide)]
    cases ht : d.trips
    · rw [if_neg (by decide)]
      rw [ht] at hcount
      go_enter Tryd.func18, Tryd.ntmps18
      go_wp2_with (first
        | (go_at_call 25; refine hr.mono ?_; rintro _ w1 ⟨rfl, rfl⟩)
        | (go_at_call 33; refine hcount.mono ?_; rintro _ w2 ⟨rfl, hc2, hA2⟩; have c1 := hA2.c1; have HA := Lib.hid (And.intro hc2 hA2); have hnow2 : Own w2 bn N d.now := hA2.now; have HN := Lib.hid hnow2; clear hc2 hA2 hnow2)
        | (go_at_call 27; refine (Clone_own HN.out).mono ?_; rintro _ w6 ⟨rfl, hn6, hs6, hb6⟩; have hp6 := (hb6.block p (Mem.lt HA.out.2.blk)).trans HA.out.2.blk; have q0 := Mem.cell hp6 (j := 0) rfl; have q2 := Mem.cell hp6 (j := 2) rfl; have f0 := Mem.free hp6 (j := 0); have f2 := Mem.free hp6 (j := 2); have HP := Lib.hid hp6; clear hp6))
      go_ret
      have hpl := Mem.lt HA.out.2.blk
      have hnl := HN.out.lt
      have s2 := HA.out.1.size
      have s6 := hb6.size
      have hn6l := hn6.lt
      have hpn := HA.out.2.pN
      have ho : ∀ i, i ≠ p → ((w6.setCell ⟨p, 0, none⟩ (.map (some w2.heap.size))).setCell ⟨p, 2, none⟩ (.slice none 0 0)).heap[i]? = w6.heap[i]? := fun i hi => (Below.heap_setCell _ ⟨p, 2, none⟩ _ i hi).trans (Below.heap_setCell _ ⟨p, 0, none⟩ _ i hi)
      have c1 : Mem.Ch S w1 w6 := (HA.out.1.mono (fun k _ hk => by rw [hk]; exact H.out.sp)).trans' (Mem.Ch.of_below' hb6)
      refine ⟨rfl, (c1.set (g := p) (j := 0) (.inr H.out.sp)).set (g := p) (j := 2) (.inr H.out.sp), w2.heap.size, bn, .slice none 0 0, ?_⟩
      exact {
        blk := by
          rw [Mem.set (Mem.set HP.out)]
          rfl
        sure := ⟨N, hn6.step (ho _ (by omega)), by show N + 0 ≤ N + 1; omega⟩
        now := (hs6.step (ho bn (Ne.symm hpn))).mono (Nat.le_succ N)
        row := World.ownsRow_nil _ _ _ _
        sp := .inl H.out.sp
        ss := .inr ⟨by omega, by simp only [size_set]; omega⟩
        sn := .inl H.out.sn
        sr := fun i hi => by simp [Value.ownBlock] at hi
        ne := by omega }
    · rw [if_pos rfl]
      rw [ht] at hcount
      go_enter Tryd.func18, Tryd.ntmps18
      go_wp2_with (first
        | (go_at_call 25; refine hr.mono ?_; rintro _ w1 ⟨rfl, rfl⟩)
        | (go_at_call 33; refine hcount.mono ?_; rintro _ w2 ⟨rfl, hc2, hA2⟩; have c6 := hA2.c6; have HA := Lib.hid (And.intro hc2 hA2); clear hc2 hA2)
        | (go_at_call 10; refine (Fail_up S p N d.counted d.keep w2 ⟨bs, bn, v, HA.out.2⟩ hd HI.out.counted.kept HI.out.counted.valid (by omega)).mono ?_; rintro _ w6 ⟨rfl, hc6, hD6⟩))
      go_ret
      refine ⟨rfl, (HA.out.1.mono (fun k _ hk => by rw [hk]; exact H.out.sp)).trans' hc6, (hD6.mono (fun k hk => ?_)).more (Nat.le_succ N)⟩
      rcases hk with hk | hk
      · exact .inl hk
      · exact .inr ⟨by have := HA.out.1.size; omega, hk.2⟩
  · rw [hd, if_pos rfl] at hr
    rw [if_pos rfl]
    go_enter Tryd.func18, Tryd.ntmps18
    go_wp2_with (go_at_call 25; refine hr.mono ?_; rintro _ w1 ⟨rfl, rfl⟩)
    go_ret
    exact ⟨rfl, stays ⟨bs, bn, v, H.out⟩ (Below.refl _ _)⟩
end Go.Proofs.YtpdceondgbgpkaaDoor.Dsk
