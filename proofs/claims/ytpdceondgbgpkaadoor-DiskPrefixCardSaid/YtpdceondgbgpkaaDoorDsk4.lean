/- disk.lay: a change is laid in the row. -/
import Derived.Test.YtpdceondgbgpkaaDoorDsk3
import Derived.RangeFuncBox
namespace Go.Proofs.YtpdceondgbgpkaaDoor.Dsk
open Go.RowKit Go.Maps
set_option linter.unusedSimpArgs false
set_option linter.unusedVariables false
theorem info_chg : (Tryd.prog.info? 57).map (fun i => (i.zero, i.size, i.bytes)) = some (some .nilIface, 1, 16) := by kernel_rfl
theorem val_one (c : Chg) : c.val.oneCell' = true := by cases c <;> rfl
/-- The row grew, the change is done. -/
theorem At.pushed {w1 wA wB w5 : World} {S : Nat → Prop} {p N bs bn : Nat} {d d' : Dk} {v v' : Value} {c : Chg} {o : Obj} (h : At w1 S p N d bs bn v) (hr : wA.ownsRow 0 57 1 v' (d.row.length + 1) (d.row.map Chg.val ++ [c.val])) (hg : (w1.alloc o).grownBy wA v.ownBlock)
    (ho : v'.ownBlock = v.ownBlock ∨ v'.ownBlock = some (w1.heap.size + 1)) (hB : wB = wA.setCell ⟨p, 2, none⟩ v') (hc : Mem.Ch (fun i => i = bn) wB w5) (hO : Own w5 bn (N + 1) (c.does d.now))
    (hd : d' = { d with row := d.row ++ [c], now := c.does d.now }) : Mem.Ch S w1 w5 ∧ At w5 (Gr S w1 w5) p (N + 1) d' bs bn v' := by
  have hp1 := Mem.lt h.blk
  have hs1 : bs < w1.heap.size := by obtain ⟨q, h1, _⟩ := h.sure; exact h1.lt
  have hn1 := h.now.lt
  have sA : w1.heap.size + 1 ≤ wA.heap.size := by have := hg.size; simpa using this
  have sB : wB.heap.size = wA.heap.size := by rw [hB, size_set]
  have s5 := hc.size
  have hrl : ∀ k, v.ownBlock = some k → k < w1.heap.size := fun k hk => by obtain ⟨c, hc⟩ := row_cells h.row k hk; exact Mem.lt hc
  have rv : ∀ k, v'.ownBlock = some k → k ≠ p ∧ k ≠ bn ∧ k < wA.heap.size ∧ (S k ∨ w1.heap.size ≤ k) := fun k hk => by
    have hlt : k < wA.heap.size := by obtain ⟨c, hc⟩ := row_cells hr k hk; exact Mem.lt hc
    rcases ho with ho | ho
    · rw [ho] at hk
      exact ⟨h.rP k hk, h.rN k hk, hlt, .inl (h.sr k hk)⟩
    · rw [ho] at hk
      have : w1.heap.size + 1 = k := by simpa using hk
      exact ⟨by omega, by omega, hlt, .inr (by omega)⟩
  have bA : ∀ k, k < w1.heap.size → some k ≠ v.ownBlock → wA.heap[k]? = w1.heap[k]? := fun k hk hne => (hg.block k (by simp; omega) hne).trans (Below.heap_alloc w1 o k hk)
  have b5 : ∀ k, k < wA.heap.size → k ≠ p → k ≠ bn → w5.heap[k]? = wA.heap[k]? := fun k hk h1 h2 => (hc.block k (by omega) h2).trans (by rw [hB]; exact Below.heap_setCell wA ⟨p, 2, none⟩ v' k h1)
  have hpA : wA.heap[p]? = some (.cells (cellsOf d bs bn v) 43 (0, 0)) := (bA p hp1 (fun e => h.rP p e.symm rfl)).trans h.blk
  have cA : Mem.Ch S w1 wA := ((Mem.Ch.refl S w1).alloc o).grown hg (fun k hk => .inr (h.sr k hk))
  refine ⟨⟨?_, ?_, ?_, by omega, fun k hk hS => ?_⟩, ?_⟩
  · exact hc.os.trans (by rw [hB]; exact cA.os)
  · exact hc.tape.trans (by rw [hB]; exact cA.tape)
  · exact hc.output.trans (by rw [hB]; exact cA.output)
  · exact (b5 k (by omega) (fun e => hS (e ▸ h.sp)) (fun e => hS (e ▸ h.sn))).trans (cA.block k hk hS)
  subst hd
  exact {
    blk := by
      refine (hc.block p (by omega) h.pN).trans ?_
      rw [hB, Mem.set hpA]
      rfl
    sure := by
      obtain ⟨m, h1, h2⟩ := h.sure
      refine ⟨m, h1.step ((b5 bs (by omega) (Ne.symm h.pS) (Ne.symm h.ne)).trans (bA bs hs1 (fun e => h.rS bs e.symm rfl))), ?_⟩
      show m + (d.row ++ [c]).length ≤ N + 1
      rw [List.length_append]
      simp
      omega
    now := hO
    row := by
      have hr5 := own_stay hr (w1 := w5) (fun k hk => b5 k (rv k hk).2.2.1 (rv k hk).1 (rv k hk).2.1)
      simpa using hr5
    sp := .inl h.sp
    ss := .inl h.ss
    sn := .inl h.sn
    sr := fun k hk => by
      obtain ⟨_, _, h3, h4⟩ := rv k hk
      rcases h4 with h4 | h4
      · exact .inl h4
      · exact .inr ⟨h4, by omega⟩
    ne := h.ne }
theorem Gr.trans {S : Nat → Prop} {w w1 w2 : World} (h1 : w.heap.size ≤ w1.heap.size) (h2 : w1.heap.size ≤ w2.heap.size) : ∀ k, Gr (Gr S w w1) w1 w2 k → Gr S w w2 k := fun k hk => by
  rcases hk with (hk | hk) | hk
  · exact .inl hk
  · exact .inr ⟨hk.1, by omega⟩
  · exact .inr ⟨by omega, hk.2⟩
theorem _root_.Go.Proofs.YtpdceondgbgpkaaDoor.Mem.Ch.gr {S : Nat → Prop} {w w1 w2 : World} (h1 : Mem.Ch S w w1) (h2 : Mem.Ch (Gr S w w1) w1 w2) : Mem.Ch S w w2 := h1.trans h2 (fun k hk hs => by rcases hs with hs | hs; exact hs; exact absurd hk (by omega))
set_option maxRecDepth 100000 in
set_option maxHeartbeats 4000000 in
theorem lay_any (S : Nat → Prop) (p N : Nat) (d : Dk) (c : Chg) (cv : Value) (hcv : c.val = cv) (w : World) (h : DiskAt w S p N d) (hi : Dk.Inv d) (hu : d.down = false) (hc : c.ok d.now) (hN : N < 1000000000) :
    Calls Tryd.prog 32 #[.pointer (some ⟨p, 0, none⟩), cv] w fun r w' => r = .returned (.int .i64 (d.lay c).1) ∧ Mem.Ch S w w' ∧ DiskAt w' (Gr S w w') p (N + 1) (d.lay c).2 := by
  obtain ⟨T, V, hTV⟩ : ∃ T V, c.val = .iface T V := by cases c <;> exact ⟨_, _, rfl⟩
  obtain rfl : cv = .iface T V := hcv.symm.trans hTV
  clear hTV
  obtain ⟨bs, bn, v, h⟩ := h
  have hcount := count_any S p N d bs bn v w h
  have HI := Lib.hid (hi.push hc)
  have HC := Lib.hid hc
  have H := Lib.hid h
  have hone : (Value.iface T V).oneCell' = true := rfl
  have hlen : d.row.length ≤ N := by obtain ⟨m, _, hm⟩ := h.sure; omega
  have hdone : ∀ W, Own W bn N d.now → Calls Tryd.prog 26 #[.map (some bn), .iface T V] W fun r w' => r = .returned (.tuple #[]) ∧ Mem.Ch (fun i => i = bn) W w' ∧ Own w' bn (N + 1) (c.does d.now) :=
    fun W hW => by rw [← hcv]; exact done_any bn N d.now c W hW HC.out (by have : (maxLen : Nat) = 9223372036854775807 := rfl; omega)
  obtain ⟨i0, hii, hz0, hz1, hz2⟩ := info_parts info_chg
  clear hc hi h
  cases ht : d.trips
  · rw [ht] at hcount
    have el : d.lay c = (0, d.push c) := by unfold Dk.lay; rw [ht]; rfl
    rw [el]
    go_enter Tryd.func32, Tryd.ntmps32
    go_wp2_with (first
      | (go_at_call 33; refine hcount.mono ?_; rintro _ w1 ⟨rfl, hc1, hA1⟩; have c1 := hA1.c1; have c2 := hA1.c2; have hrow1 : w1.ownsRow 0 57 1 v d.row.length (d.row.map Chg.val) := hA1.row; have hnow1 : Own w1 bn N d.now := hA1.now; have HRN := Lib.hid (And.intro hrow1 hnow1); clear hrow1 hnow1; have HA := Lib.hid (And.intro hc1 hA1); clear hc1 hA1)
      | (at_builtin; refine Mem.append_one rfl (.tmp 12) (.tmp 14) 41 rfl 0 57 i0 .nilIface 1 16 und_slice hii hz0 hz1 hz2 rfl (by decide) w1 _ d.row.length (d.row.map Chg.val) (by rfl) HRN.out.1 [.iface T V] rfl (by intro u hu; simp at hu; subst hu; exact hone) rfl (by unfold maxLen; omega) (by omega) (by omega) ?_; intro v' wA hrA hgA hoA
         obtain ⟨g', cap', rfl⟩ := ownsRow_succ hrA
         have hpA := (hgA.block p (Nat.lt_of_lt_of_le (Mem.lt HA.out.2.blk) (by simp)) (fun e => HA.out.2.rP p e.symm rfl)).trans (Mem.old HA.out.2.blk _)
         have hnA := HRN.out.2.step (((Below.heap_setCell wA ⟨p, 2, none⟩ (.slice (some ⟨g', 0, none⟩) (d.row.length + 1) cap') bn (Ne.symm HA.out.2.pN)).trans (hgA.block bn (Nat.lt_of_lt_of_le HA.out.2.now.lt (by simp)) (fun e => HA.out.2.rN bn e.symm rfl))).trans (Below.heap_alloc w1 _ bn HA.out.2.now.lt))
         have c1A := Mem.cell hpA (j := 1) rfl
         have c2A := Mem.cell hpA (j := 2) rfl
         have f2A := Mem.free hpA (j := 2)
         have HW := Lib.hid (And.intro hrA (And.intro hgA (And.intro hoA hnA)))
         clear hpA hnA hrA hgA hoA)
      | (go_at_call 26; refine (hdone _ HW.out.2.2.2).mono ?_; rintro _ w5 ⟨rfl, hc5, hO5⟩))
    go_ret
    obtain ⟨h1, h2⟩ := HA.out.2.pushed (by rw [hcv]; exact HW.out.1) HW.out.2.1 HW.out.2.2.1 rfl hc5 hO5 (d' := d.push c) rfl
    have h3 := (HA.out.1.mono (fun k _ hk => by rw [hk]; exact H.out.sp)).trans' h1
    exact ⟨rfl, h3, bs, bn, _, h2.step (Nat.le_refl _) (fun _ _ _ => rfl) (fun k hk => by rcases hk with hk | hk; exact .inl hk; exact .inr ⟨by have := HA.out.1.size; omega, hk.2⟩)⟩
  · rw [ht] at hcount
    have el : d.lay c = (8, (d.push c).fail d.keep) := by unfold Dk.lay; rw [ht]; rfl
    rw [el]
    go_enter Tryd.func32, Tryd.ntmps32
    go_wp2_with (first
      | (go_at_call 33; refine hcount.mono ?_; rintro _ w1 ⟨rfl, hc1, hA1⟩; have c1 := hA1.c1; have c2 := hA1.c2; have hrow1 : w1.ownsRow 0 57 1 v d.row.length (d.row.map Chg.val) := hA1.row; have hnow1 : Own w1 bn N d.now := hA1.now; have HRN := Lib.hid (And.intro hrow1 hnow1); clear hrow1 hnow1; have HA := Lib.hid (And.intro hc1 hA1); clear hc1 hA1)
      | (at_builtin; refine Mem.append_one rfl (.tmp 12) (.tmp 14) 41 rfl 0 57 i0 .nilIface 1 16 und_slice hii hz0 hz1 hz2 rfl (by decide) w1 _ d.row.length (d.row.map Chg.val) (by rfl) HRN.out.1 [.iface T V] rfl (by intro u hu; simp at hu; subst hu; exact hone) rfl (by unfold maxLen; omega) (by omega) (by omega) ?_; intro v' wA hrA hgA hoA
         obtain ⟨g', cap', rfl⟩ := ownsRow_succ hrA
         have hpA := (hgA.block p (Nat.lt_of_lt_of_le (Mem.lt HA.out.2.blk) (by simp)) (fun e => HA.out.2.rP p e.symm rfl)).trans (Mem.old HA.out.2.blk _)
         have hnA := HRN.out.2.step (((Below.heap_setCell wA ⟨p, 2, none⟩ (.slice (some ⟨g', 0, none⟩) (d.row.length + 1) cap') bn (Ne.symm HA.out.2.pN)).trans (hgA.block bn (Nat.lt_of_lt_of_le HA.out.2.now.lt (by simp)) (fun e => HA.out.2.rN bn e.symm rfl))).trans (Below.heap_alloc w1 _ bn HA.out.2.now.lt))
         have c1A := Mem.cell hpA (j := 1) rfl
         have c2A := Mem.cell hpA (j := 2) rfl
         have f2A := Mem.free hpA (j := 2)
         have HW := Lib.hid (And.intro hrA (And.intro hgA (And.intro hoA hnA)))
         clear hpA hnA hrA hgA hoA)
      | (go_at_call 26; refine (hdone _ HW.out.2.2.2).mono ?_; rintro _ w5 ⟨rfl, hc5, hO5⟩; obtain ⟨h1, h2⟩ := HA.out.2.pushed (by rw [hcv]; exact HW.out.1) HW.out.2.1 HW.out.2.2.1 rfl hc5 hO5 (d' := d.push c) rfl; have c6 := h2.c6; have H5 := Lib.hid (And.intro h1 h2); clear h1 h2)
      | (go_at_call 10; refine (Fail_up _ p (N + 1) (d.push c) d.keep w5 ⟨bs, bn, _, H5.out.2⟩ hu HI.out.kept HI.out.valid (by omega)).mono ?_; rintro _ w6 ⟨rfl, hc6, hD6⟩))
    go_ret
    have h3 := (HA.out.1.mono (fun k _ hk => by rw [hk]; exact H.out.sp)).trans' H5.out.1
    have h4 := H5.out.1.gr hc6
    have h5 := (HA.out.1.mono (fun k _ hk => by rw [hk]; exact H.out.sp)).trans' h4
    refine ⟨rfl, h5, hD6.mono (fun k hk => ?_)⟩
    have s1 := HA.out.1.size
    have s5 := H5.out.1.size
    have s6 := hc6.size
    rcases hk with (hk | hk) | hk
    · exact .inl hk
    · exact .inr ⟨by omega, by omega⟩
    · exact .inr ⟨by omega, hk.2⟩
end Go.Proofs.YtpdceondgbgpkaaDoor.Dsk
