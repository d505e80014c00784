/- disk.lay: a change is laid in the row. · disk.name: which texts are names. · disk: there, Trim, Move, Drop, Read, Sync, New. · disk: Trim, Read, Sync, New. -/
import Derived.Test.YtpdceondgbgpkaaGreatDoorG8
import Derived.RangeFuncBox
import Derived.Test.YtpdceondgbgpkaaGreatDoorG2
namespace Go.Proofs.YtpdceondgbgpkaaGreatDoor.Dsk
open Go.RowKit Go.Maps
set_option linter.unusedSimpArgs false
set_option linter.unusedVariables false
theorem info_chg : (Tryz.prog.info? 75).map (fun i => (i.zero, i.size, i.bytes)) = some (some .nilIface, 1, 16) := by kernel_rfl
theorem val_one (c : Chg) : c.val.oneCell' = true := by cases c <;> rfl
/-- The row grew, the change is done. -/
theorem At.pushed {w1 wA wB w5 : World} {S : Nat → Prop} {p N bs bn : Nat} {d d' : Dk} {v v' : Value} {c : Chg} {o : Obj} (h : At w1 S p N d bs bn v) (hr : wA.ownsRow 0 75 1 v' (d.row.length + 1) (d.row.map Chg.val ++ [c.val])) (hg : (w1.alloc o).grownBy wA v.ownBlock)
    (ho : v'.ownBlock = v.ownBlock ∨ v'.ownBlock = some (w1.heap.size + 1)) (hB : wB = wA.setCell ⟨p, 2, none⟩ v') (hc : Mem.Ch (fun i => i = bn) wB w5) (hO : Own w5 bn (N + 1) (c.does d.now))
    (hd : d' = { d with row := d.row ++ [c], now := c.does d.now }) : Mem.Ch S w1 w5 ∧ At w5 (Gr S w1 w5) p (N + 1) d' bs bn v' := by
  have hp1 := Mem.lt h.blk
  have hs1 : bs < w1.heap.size := by obtain ⟨q, h1, _⟩ := h.sure; exact h1.lt
  have hn1 := h.now.lt
  have sA : w1.heap.size + 1 ≤ wA.heap.size := by have := hg.size; simpa using this
  have sB : wB.heap.size = wA.heap.size := by rw [hB, size_set]
  have s5 := hc.size
  have hrl : ∀ k, v.ownBlock = some k → k < w1.heap.size := fun k hk => by obtain ⟨c, hc⟩ := row_cells h.row k hk; exact Mem.lt hc
  have rv : ∀ k, v'.ownBlock = some k → k ≠ p ∧ k ≠ bn ∧ k < wA.heap.size ∧ (S k ∨ w1.heap.size ≤ k) := fun k hk => by
    have hlt : k < wA.heap.size := by obtain ⟨c, hc⟩ := row_cells hr k hk; exact Mem.lt hc
    rcases ho with ho | ho
    · rw [ho] at hk
      exact ⟨h.rP k hk, h.rN k hk, hlt, .inl (h.sr k hk)⟩
    · rw [ho] at hk
      have : w1.heap.size + 1 = k := by simpa using hk
      exact ⟨by omega, by omega, hlt, .inr (by omega)⟩
  have bA : ∀ k, k < w1.heap.size → some k ≠ v.ownBlock → wA.heap[k]? = w1.heap[k]? := fun k hk hne => (hg.block k (by simp; omega) hne).trans (Below.heap_alloc w1 o k hk)
  have b5 : ∀ k, k < wA.heap.size → k ≠ p → k ≠ bn → w5.heap[k]? = wA.heap[k]? := fun k hk h1 h2 => (hc.block k (by omega) h2).trans (by rw [hB]; exact Below.heap_setCell wA ⟨p, 2, none⟩ v' k h1)
  have hpA : wA.heap[p]? = some (.cells (cellsOf d bs bn v) 51 (0, 0)) := (bA p hp1 (fun e => h.rP p e.symm rfl)).trans h.blk
  have cA : Mem.Ch S w1 wA := ((Mem.Ch.refl S w1).alloc o).grown hg (fun k hk => .inr (h.sr k hk))
  refine ⟨⟨?_, ?_, ?_, by omega, fun k hk hS => ?_⟩, ?_⟩
  · exact hc.os.trans (by rw [hB]; exact cA.os)
  · exact hc.tape.trans (by rw [hB]; exact cA.tape)
  · exact hc.output.trans (by rw [hB]; exact cA.output)
  · exact (b5 k (by omega) (fun e => hS (e ▸ h.sp)) (fun e => hS (e ▸ h.sn))).trans (cA.block k hk hS)
  subst hd
  exact {
    blk := by
      refine (hc.block p (by omega) h.pN).trans ?_
      rw [hB, Mem.set hpA]
      rfl
    sure := by
      obtain ⟨m, h1, h2⟩ := h.sure
      refine ⟨m, h1.step ((b5 bs (by omega) (Ne.symm h.pS) (Ne.symm h.ne)).trans (bA bs hs1 (fun e => h.rS bs e.symm rfl))), ?_⟩
      show m + (d.row ++ [c]).length ≤ N + 1
      rw [List.length_append]
      simp
      omega
    now := hO
    row := by
      have hr5 := own_stay hr (w1 := w5) (fun k hk => b5 k (rv k hk).2.2.1 (rv k hk).1 (rv k hk).2.1)
      simpa using hr5
    sp := .inl h.sp
    ss := .inl h.ss
    sn := .inl h.sn
    sr := fun k hk => by
      obtain ⟨_, _, h3, h4⟩ := rv k hk
      rcases h4 with h4 | h4
      · exact .inl h4
      · exact .inr ⟨h4, by omega⟩
    ne := h.ne }
theorem Gr.trans {S : Nat → Prop} {w w1 w2 : World} (h1 : w.heap.size ≤ w1.heap.size) (h2 : w1.heap.size ≤ w2.heap.size) : ∀ k, Gr (Gr S w w1) w1 w2 k → Gr S w w2 k := fun k hk => by
  rcases hk with (hk | hk) | hk
  · exact .inl hk
  · exact .inr ⟨hk.1, by omega⟩
  · exact .inr ⟨by omega, hk.2⟩
theorem _root_.Go.Proofs.YtpdceondgbgpkaaGreatDoor.Mem.Ch.gr {S : Nat → Prop} {w w1 w2 : World} (h1 : Mem.Ch S w w1) (h2 : Mem.Ch (Gr S w w1) w1 w2) : Mem.Ch S w w2 := h1.trans h2 (fun k hk hs => by rcases hs with hs | hs; exact hs; exact absurd hk (by omega))
set_option maxRecDepth 100000 in
set_option maxHeartbeats 4000000 in
theorem lay_any (S : Nat → Prop) (p N : Nat) (d : Dk) (c : Chg) (cv : Value) (hcv : c.val = cv) (w : World) (h : DiskAt w S p N d) (hi : Dk.Inv d) (hu : d.down = false) (hc : c.ok d.now) (hN : N < 1000000000) :
    Calls Tryz.prog 17 #[.pointer (some ⟨p, 0, none⟩), cv] w fun r w' => r = .returned (.int .i64 (d.lay c).1) ∧ Mem.Ch S w w' ∧ DiskAt w' (Gr S w w') p (N + 1) (d.lay c).2 := by
  obtain ⟨T, V, hTV⟩ : ∃ T V, c.val = .iface T V := by cases c <;> exact ⟨_, _, rfl⟩
  obtain rfl : cv = .iface T V := hcv.symm.trans hTV
  clear hTV
  obtain ⟨bs, bn, v, h⟩ := h
  have hcount := count_any S p N d bs bn v w h
  have HI := Lib.hid (hi.push hc)
  have HC := Lib.hid hc
  have H := Lib.hid h
  have hone : (Value.iface T V).oneCell' = true := rfl
  have hlen : d.row.length ≤ N := by obtain ⟨m, _, hm⟩ := h.sure; omega
  have hdone : ∀ W, Own W bn N d.now → Calls Tryz.prog 32 #[.map (some bn), .iface T V] W fun r w' => r = .returned (.tuple #[]) ∧ Mem.Ch (fun i => i = bn) W w' ∧ Own w' bn (N + 1) (c.does d.now) :=
    fun W hW => by rw [← hcv]; exact done_any bn N d.now c W hW HC.out (by have : (maxLen : Nat) = 9223372036854775807 := rfl; omega)
  obtain ⟨i0, hii, hz0, hz1, hz2⟩ := info_parts info_chg
  clear hc hi h
  cases ht : d.trips
  · rw [ht] at hcount
    have el : d.lay c = (0, d.push c) := by unfold Dk.lay; rw [ht]; rfl
    rw [el]
    go_enter Tryz.func17, Tryz.ntmps17
    go_wp2_with (first
      | (go_at_call 18; refine hcount.mono ?_; rintro _ w1 ⟨rfl, hc1, hA1⟩; have c1 := hA1.c1; have c2 := hA1.c2; have hrow1 : w1.ownsRow 0 75 1 v d.row.length (d.row.map Chg.val) := hA1.row; have hnow1 : Own w1 bn N d.now := hA1.now; have HRN := Lib.hid (And.intro hrow1 hnow1); clear hrow1 hnow1; have HA := Lib.hid (And.intro hc1 hA1); clear hc1 hA1)
      | (at_builtin; refine Mem.append_one rfl (.tmp 12) (.tmp 14) 49 rfl 0 75 i0 .nilIface 1 16 und_slice hii hz0 hz1 hz2 rfl (by decide) w1 _ d.row.length (d.row.map Chg.val) (by rfl) HRN.out.1 [.iface T V] rfl (by intro u hu; simp at hu; subst hu; exact hone) rfl (by unfold maxLen; omega) (by omega) (by omega) ?_; intro v' wA hrA hgA hoA
         obtain ⟨g', cap', rfl⟩ := ownsRow_succ hrA
         have hpA := (hgA.block p (Nat.lt_of_lt_of_le (Mem.lt HA.out.2.blk) (by simp)) (fun e => HA.out.2.rP p e.symm rfl)).trans (Mem.old HA.out.2.blk _)
         have hnA := HRN.out.2.step (((Below.heap_setCell wA ⟨p, 2, none⟩ (.slice (some ⟨g', 0, none⟩) (d.row.length + 1) cap') bn (Ne.symm HA.out.2.pN)).trans (hgA.block bn (Nat.lt_of_lt_of_le HA.out.2.now.lt (by simp)) (fun e => HA.out.2.rN bn e.symm rfl))).trans (Below.heap_alloc w1 _ bn HA.out.2.now.lt))
         have c1A := Mem.cell hpA (j := 1) rfl
         have c2A := Mem.cell hpA (j := 2) rfl
         have f2A := Mem.free hpA (j := 2)
         have HW := Lib.hid (And.intro hrA (And.intro hgA (And.intro hoA hnA)))
         clear hpA hnA hrA hgA hoA)
      | (go_at_call 32; refine (hdone _ HW.out.2.2.2).mono ?_; rintro _ w5 ⟨rfl, hc5, hO5⟩))
    go_ret
    obtain ⟨h1, h2⟩ := HA.out.2.pushed (by rw [hcv]; exact HW.out.1) HW.out.2.1 HW.out.2.2.1 rfl hc5 hO5 (d' := d.push c) rfl
    have h3 := (HA.out.1.mono (fun k _ hk => by rw [hk]; exact H.out.sp)).trans' h1
    exact ⟨rfl, h3, bs, bn, _, h2.step (Nat.le_refl _) (fun _ _ _ => rfl) (fun k hk => by rcases hk with hk | hk; exact .inl hk; exact .inr ⟨by have := HA.out.1.size; omega, hk.2⟩)⟩
  · rw [ht] at hcount
    have el : d.lay c = (8, (d.push c).fail d.keep) := by unfold Dk.lay; rw [ht]; rfl
    rw [el]
    go_enter Tryz.func17, Tryz.ntmps17
    go_wp2_with (first
      | (go_at_call 18; refine hcount.mono ?_; rintro _ w1 ⟨rfl, hc1, hA1⟩; have c1 := hA1.c1; have c2 := hA1.c2; have hrow1 : w1.ownsRow 0 75 1 v d.row.length (d.row.map Chg.val) := hA1.row; have hnow1 : Own w1 bn N d.now := hA1.now; have HRN := Lib.hid (And.intro hrow1 hnow1); clear hrow1 hnow1; have HA := Lib.hid (And.intro hc1 hA1); clear hc1 hA1)
      | (at_builtin; refine Mem.append_one rfl (.tmp 12) (.tmp 14) 49 rfl 0 75 i0 .nilIface 1 16 und_slice hii hz0 hz1 hz2 rfl (by decide) w1 _ d.row.length (d.row.map Chg.val) (by rfl) HRN.out.1 [.iface T V] rfl (by intro u hu; simp at hu; subst hu; exact hone) rfl (by unfold maxLen; omega) (by omega) (by omega) ?_; intro v' wA hrA hgA hoA
         obtain ⟨g', cap', rfl⟩ := ownsRow_succ hrA
         have hpA := (hgA.block p (Nat.lt_of_lt_of_le (Mem.lt HA.out.2.blk) (by simp)) (fun e => HA.out.2.rP p e.symm rfl)).trans (Mem.old HA.out.2.blk _)
         have hnA := HRN.out.2.step (((Below.heap_setCell wA ⟨p, 2, none⟩ (.slice (some ⟨g', 0, none⟩) (d.row.length + 1) cap') bn (Ne.symm HA.out.2.pN)).trans (hgA.block bn (Nat.lt_of_lt_of_le HA.out.2.now.lt (by simp)) (fun e => HA.out.2.rN bn e.symm rfl))).trans (Below.heap_alloc w1 _ bn HA.out.2.now.lt))
         have c1A := Mem.cell hpA (j := 1) rfl
         have c2A := Mem.cell hpA (j := 2) rfl
         have f2A := Mem.free hpA (j := 2)
         have HW := Lib.hid (And.intro hrA (And.intro hgA (And.intro hoA hnA)))
         clear hpA hnA hrA hgA hoA)
      | (go_at_call 32; refine (hdone _ HW.out.2.2.2).mono ?_; rintro _ w5 ⟨rfl, hc5, hO5⟩; obtain ⟨h1, h2⟩ := HA.out.2.pushed (by rw [hcv]; exact HW.out.1) HW.out.2.1 HW.out.2.2.1 rfl hc5 hO5 (d' := d.push c) rfl; have c6 := h2.c6; have H5 := Lib.hid (And.intro h1 h2); clear h1 h2)
      | (go_at_call 19; refine (Fail_up _ p (N + 1) (d.push c) d.keep w5 ⟨bs, bn, _, H5.out.2⟩ hu HI.out.kept HI.out.valid (by omega)).mono ?_; rintro _ w6 ⟨rfl, hc6, hD6⟩))
    go_ret
    have h3 := (HA.out.1.mono (fun k _ hk => by rw [hk]; exact H.out.sp)).trans' H5.out.1
    have h4 := H5.out.1.gr hc6
    have h5 := (HA.out.1.mono (fun k _ hk => by rw [hk]; exact H.out.sp)).trans' h4
    refine ⟨rfl, h5, hD6.mono (fun k hk => ?_)⟩
    have s1 := HA.out.1.size
    have s5 := H5.out.1.size
    have s6 := hc6.size
    rcases hk with (hk | hk) | hk
    · exact .inl hk
    · exact .inr ⟨by omega, by omega⟩
    · exact .inr ⟨by omega, hk.2⟩
end Go.Proofs.YtpdceondgbgpkaaGreatDoor.Dsk
namespace Go.Proofs.YtpdceondgbgpkaaGreatDoor.Dsk
open Go.RowKit Go.Maps Go.Shelf
set_option linter.unusedSimpArgs false
set_option linter.unusedVariables false
def nameCut : List UInt8 := [97, 98, 99, 100, 101, 102, 103, 104, 105, 106, 107, 108, 109, 110, 111, 112, 113, 114, 115, 116, 117, 118, 119, 120, 121, 122, 48, 49, 50, 51, 52, 53, 54, 55, 56, 57, 46, 45]
def nameP (s : ByteArray) : Bool := decide (s.size ≠ 0) && decide (s.size ≤ 64) && (Lib.trimS s.data.toList nameCut).isEmpty
theorem nameP_size {s : ByteArray} (h : nameP s = true) : s.size ≤ 64 := by
  unfold nameP at h
  simp only [Bool.and_eq_true, decide_eq_true_eq] at h
  exact h.1.2
theorem trim_hcon (s : ByteArray) (w : World) (hs : s.size ≤ 9223372036854775807) :
    Calls Tryz.prog 31 #[.string s, .string ⟨#[97, 98, 99, 100, 101, 102, 103, 104, 105, 106, 107, 108, 109, 110, 111, 112, 113, 114, 115, 116, 117, 118, 119, 120, 121, 122, 48, 49, 50, 51, 52, 53, 54, 55, 56, 57, 46, 45]⟩] w fun e w' => e = .returned (.string ⟨(Lib.trimS s.data.toList nameCut).toArray⟩) ∧ Below w.heap.size w w' :=
  Any.strings_Trim_laid Tryz.lays160 (by kernel_rfl) s _ w hs (by decide) (ascii_of_all (by decide))
set_option maxRecDepth 100000 in
set_option maxHeartbeats 2000000 in
theorem name_any (s : ByteArray) (w : World) (hs : s.size ≤ 9223372036854775807) :
    Calls Tryz.prog 15 #[.string s] w fun r w' => r = .returned (.bool (nameP s)) ∧ Below w.heap.size w w' := by
  by_cases h0 : s.size = 0
  · have he : s = ⟨#[]⟩ := by
      cases s with | mk d =>
      have : d.size = 0 := h0
      rw [Array.size_eq_zero_iff.1 this]
    subst he
    go_enter Tryz.func15, Tryz.ntmps15
    go_wp2
    go_ret
    exact ⟨rfl, Below.refl _ _⟩
  · have hne : s.toList.isEmpty = false := by
      rw [Lib.toList_data]
      cases h : s.data.toList with
      | nil => have := Lib.size_eq s; rw [h, List.length_nil] at this; omega
      | cons _ _ => rfl
    by_cases h1 : s.size ≤ 64
    · have hp : nameP s = (⟨(Lib.trimS s.data.toList nameCut).toArray⟩ : ByteArray).toList.isEmpty := by
        rw [Lib.toList_data]
        unfold nameP
        simp only [h0, h1, ne_eq, not_false_eq_true, decide_true, Bool.true_and]
      have hcon := trim_hcon s w hs
      rw [hp]
      generalize (⟨(Lib.trimS s.data.toList nameCut).toArray⟩ : ByteArray) = r at hcon ⊢
      have h1' : (s.size : Int) ≤ 64 := by omega
      go_enter Tryz.func15, Tryz.ntmps15
      go_wp2_with (go_at_call 31; refine hcon.mono ?_; rintro e w' ⟨rfl, hB⟩)
      go_ret
      exact ⟨rfl, hB⟩
    · have hp : nameP s = false := by unfold nameP; simp [h1]
      rw [hp]
      have h1' : (64 : Int) < (s.size : Int) := by omega
      go_enter Tryz.func15, Tryz.ntmps15
      go_wp2
      go_ret
      exact ⟨rfl, Below.refl _ _⟩
end Go.Proofs.YtpdceondgbgpkaaGreatDoor.Dsk
namespace Go.Proofs.YtpdceondgbgpkaaGreatDoor.Dsk
open Go.RowKit Go.Maps
set_option linter.unusedSimpArgs false
set_option linter.unusedVariables false
namespace Dk
def there (d : Dk) (f : ByteArray) : Int := if d.down then 8 else if nameP f then (if (d.now f).isSome then 0 else 4) else 1
def trim (d : Dk) (f : ByteArray) (n : Int) : Int × Dk := if d.there f ≠ 0 then (d.there f, d) else if n < 0 ∨ ((d.now.get f).size : Int) < n then (1, d) else d.lay (.trim f n.toNat)
def move (d : Dk) (f t : ByteArray) : Int × Dk := if d.down = false ∧ nameP t = false then (1, d) else if d.there f ≠ 0 then (d.there f, d) else d.lay (.move f t)
def drop (d : Dk) (f : ByteArray) : Int × Dk := if d.there f ≠ 0 then (d.there f, d) else d.lay (.drop f)
theorem there_up {d : Dk} {f : ByteArray} (h : ¬ d.there f ≠ 0) : d.down = false := by
  cases hd : d.down
  · rfl
  · exact absurd (by unfold there; rw [hd, if_pos rfl]; decide) h
end Dk
set_option maxRecDepth 100000 in
set_option maxHeartbeats 4000000 in
theorem there_any (S : Nat → Prop) (p N : Nat) (d : Dk) (f : ByteArray) (w : World) (h : DiskAt w S p N d) (hf : f.size ≤ maxLen) :
    Calls Tryz.prog 36 #[.pointer (some ⟨p, 0, none⟩), .string f] w fun r w' => r = .returned (.int .i64 (d.there f)) ∧ Below w.heap.size w w' := by
  obtain ⟨bs, bn, v, h⟩ := h
  have hr := ready_any S p N d bs bn v w h
  have H := Lib.hid h
  clear h
  unfold Dk.there
  cases hd : d.down
  · rw [hd, if_neg (by decide)] at hr
    rw [if_neg (by decide)]
    cases hn : nameP f
    · have hname : ∀ W, Calls Tryz.prog 15 #[.string f] W fun r w' => r = .returned (.bool false) ∧ Below W.heap.size W w' := fun W => by rw [← hn]; exact name_any f W hf
      go_enter Tryz.func36, Tryz.ntmps36
      go_wp2_with (first
        | (go_at_call 14; refine hr.mono ?_; rintro _ w1 ⟨rfl, rfl⟩)
        | (go_at_call 15; refine (hname _).mono ?_; rintro _ w2 ⟨rfl, hb2⟩))
      go_ret
      exact ⟨rfl, hb2⟩
    · have hname : ∀ W, Calls Tryz.prog 15 #[.string f] W fun r w' => r = .returned (.bool true) ∧ Below W.heap.size W w' := fun W => by rw [← hn]; exact name_any f W hf
      rw [if_pos rfl]
      cases hs : (d.now f).isSome
      · go_enter Tryz.func36, Tryz.ntmps36
        go_wp2_with (first
          | (go_at_call 14; refine hr.mono ?_; rintro _ w1 ⟨rfl, rfl⟩)
          | (go_at_call 15; refine (hname _).mono ?_; rintro _ w2 ⟨rfl, hb2⟩; have h2 := H.out.below hb2; have c1 := h2.c1; have hl := h2.now.look_ok hf; rw [hs] at hl; clear h2))
        go_ret
        exact ⟨rfl, hb2⟩
      · go_enter Tryz.func36, Tryz.ntmps36
        go_wp2_with (first
          | (go_at_call 14; refine hr.mono ?_; rintro _ w1 ⟨rfl, rfl⟩)
          | (go_at_call 15; refine (hname _).mono ?_; rintro _ w2 ⟨rfl, hb2⟩; have h2 := H.out.below hb2; have c1 := h2.c1; have hl := h2.now.look_ok hf; rw [hs] at hl; clear h2))
        go_ret
        exact ⟨rfl, hb2⟩
  · rw [hd, if_pos rfl] at hr
    rw [if_pos rfl]
    go_enter Tryz.func36, Tryz.ntmps36
    go_wp2_with (go_at_call 14; refine hr.mono ?_; rintro _ w1 ⟨rfl, rfl⟩)
    go_ret
    exact ⟨rfl, Below.refl _ _⟩
/-- Behind a call that changed nothing, a change is laid. -/
theorem lay_after {S : Nat → Prop} {p N : Nat} {d : Dk} {c : Chg} {cv : Value} {w W : World} (hcv : c.val = cv) (h : DiskAt w S p N d) (hb : Below w.heap.size w W) (hi : Dk.Inv d) (hu : d.down = false) (hc : c.ok d.now) (hN : N < 1000000000) :
    Calls Tryz.prog 17 #[.pointer (some ⟨p, 0, none⟩), cv] W fun r w' => r = .returned (.int .i64 (d.lay c).1) ∧ Mem.Ch S w w' ∧ DiskAt w' (Gr S w w') p (N + 1) (d.lay c).2 := by
  refine (lay_any S p N d c cv hcv W (h.below hb) hi hu hc hN).mono ?_
  rintro _ w' ⟨rfl, h1, h2⟩
  exact ⟨rfl, (Mem.Ch.of_below' hb).trans' h1, h2.mono (fun k hk => by rcases hk with hk | hk; exact .inl hk; exact .inr ⟨by have := hb.size; omega, hk.2⟩)⟩
theorem stays {S : Nat → Prop} {p N : Nat} {d : Dk} {w W : World} (h : DiskAt w S p N d) (hb : Below w.heap.size w W) : Mem.Ch S w W ∧ DiskAt W (Gr S w W) p (N + 1) d :=
  ⟨Mem.Ch.of_below' hb, ((h.below hb).mono (fun k hk => .inl hk)).more (Nat.le_succ N)⟩
set_option maxRecDepth 100000 in
set_option maxHeartbeats 4000000 in
theorem Drop_any (S : Nat → Prop) (p N : Nat) (d : Dk) (f : ByteArray) (w : World) (h : DiskAt w S p N d) (hi : Dk.Inv d) (hf : f.size ≤ maxLen) (hN : N < 1000000000) :
    Calls Tryz.prog 80 #[.pointer (some ⟨p, 0, none⟩), .string f] w fun r w' => r = .returned (.int .i64 (d.drop f).1) ∧ Mem.Ch S w w' ∧ DiskAt w' (Gr S w w') p (N + 1) (d.drop f).2 := by
  have ht := there_any S p N d f w h hf
  have H := Lib.hid (And.intro h hi)
  clear h hi
  unfold Dk.drop
  by_cases he : d.there f ≠ 0
  · rw [if_pos he]
    generalize d.there f = e at ht he
    go_enter Tryz.func80, Tryz.ntmps80
    go_wp2_with (go_at_call 36; refine ht.mono ?_; rintro _ w1 ⟨rfl, hb1⟩)
    go_ret
    exact ⟨rfl, stays H.out.1 hb1⟩
  · rw [if_neg he]
    have hu := Dk.there_up he
    have h0 : d.there f = 0 := by omega
    rw [h0] at ht
    have hlay : ∀ W, Below w.heap.size w W → _ := fun W hb => lay_after (c := .drop f) rfl H.out.1 hb H.out.2 hu hf hN
    go_enter Tryz.func80, Tryz.ntmps80
    go_wp2_with (first
      | (go_at_call 36; refine ht.mono ?_; rintro _ w1 ⟨rfl, hb1⟩)
      | (go_at_call 17; refine (hlay _ hb1).mono ?_; rintro _ w2 ⟨rfl, hc2, hD2⟩))
    go_ret
    exact ⟨rfl, hc2, hD2⟩
set_option maxRecDepth 100000 in
set_option maxHeartbeats 4000000 in
theorem Move_any (S : Nat → Prop) (p N : Nat) (d : Dk) (f t : ByteArray) (w : World) (h : DiskAt w S p N d) (hi : Dk.Inv d) (hf : f.size ≤ maxLen) (htl : t.size ≤ maxLen) (hN : N < 1000000000) :
    Calls Tryz.prog 81 #[.pointer (some ⟨p, 0, none⟩), .string f, .string t] w fun r w' => r = .returned (.int .i64 (d.move f t).1) ∧ Mem.Ch S w w' ∧ DiskAt w' (Gr S w w') p (N + 1) (d.move f t).2 := by
  have hr : Calls Tryz.prog 14 #[.pointer (some ⟨p, 0, none⟩)] w fun r w' => r = .returned (.int .i64 (if d.down then 8 else 0)) ∧ w' = w := by
    obtain ⟨bs, bn, v, h⟩ := h
    exact ready_any S p N d bs bn v w h
  have H := Lib.hid (And.intro h hi)
  have hth : ∀ W, Below w.heap.size w W → Calls Tryz.prog 36 #[.pointer (some ⟨p, 0, none⟩), .string f] W fun r w' => r = .returned (.int .i64 (d.there f)) ∧ Below W.heap.size W w' := fun W hb => there_any S p N d f W (H.out.1.below hb) hf
  clear h hi
  unfold Dk.move
  by_cases hbad : d.down = false ∧ nameP t = false
  · rw [if_pos hbad]
    obtain ⟨hd, hn⟩ := hbad
    rw [hd, if_neg (by decide)] at hr
    have hname : ∀ W, Calls Tryz.prog 15 #[.string t] W fun r w' => r = .returned (.bool false) ∧ Below W.heap.size W w' := fun W => by rw [← hn]; exact name_any t W htl
    go_enter Tryz.func81, Tryz.ntmps81
    go_wp2_with (first
      | (go_at_call 14; refine hr.mono ?_; rintro _ w1 ⟨rfl, rfl⟩)
      | (go_at_call 15; refine (hname _).mono ?_; rintro _ w2 ⟨rfl, hb2⟩))
    go_ret
    exact ⟨rfl, stays H.out.1 hb2⟩
  · rw [if_neg hbad]
    cases hd : d.down
    · have hn : nameP t = true := by cases hx : nameP t; exact absurd ⟨hd, hx⟩ hbad; rfl
      rw [hd, if_neg (by decide)] at hr
      have hname : ∀ W, Calls Tryz.prog 15 #[.string t] W fun r w' => r = .returned (.bool true) ∧ Below W.heap.size W w' := fun W => by rw [← hn]; exact name_any t W htl
      by_cases he : d.there f ≠ 0
      · rw [if_pos he]
        generalize d.there f = e at hth he
        go_enter Tryz.func81, Tryz.ntmps81
        go_wp2_with (first
          | (go_at_call 14; refine hr.mono ?_; rintro _ w1 ⟨rfl, rfl⟩)
          | (go_at_call 15; refine (hname _).mono ?_; rintro _ w2 ⟨rfl, hb2⟩)
          | (go_at_call 36; refine (hth _ hb2).mono ?_; rintro _ w3 ⟨rfl, hb3⟩))
        go_ret
        exact ⟨rfl, stays H.out.1 (hb2.trans (hb3.mono hb2.size))⟩
      · rw [if_neg he]
        have hu := Dk.there_up he
        have h0 : d.there f = 0 := by omega
        rw [h0] at hth
        have hlay : ∀ W, Below w.heap.size w W → _ := fun W hb => lay_after (c := .move f t) rfl H.out.1 hb H.out.2 hu ⟨hf, htl⟩ hN
        go_enter Tryz.func81, Tryz.ntmps81
        go_wp2_with (first
          | (go_at_call 14; refine hr.mono ?_; rintro _ w1 ⟨rfl, rfl⟩)
          | (go_at_call 15; refine (hname _).mono ?_; rintro _ w2 ⟨rfl, hb2⟩)
          | (go_at_call 36; refine (hth _ hb2).mono ?_; rintro _ w3 ⟨rfl, hb3⟩)
          | (go_at_call 17; refine (hlay _ (hb2.trans (hb3.mono hb2.size))).mono ?_; rintro _ w4 ⟨rfl, hc4, hD4⟩))
        go_ret
        exact ⟨rfl, hc4, hD4⟩
    · rw [hd, if_pos rfl] at hr
      have he : d.there f = 8 := by unfold Dk.there; rw [hd]; rfl
      rw [he, if_pos (by decide)]
      rw [he] at hth
      go_enter Tryz.func81, Tryz.ntmps81
      go_wp2_with (first
        | (go_at_call 14; refine hr.mono ?_; rintro _ w1 ⟨rfl, rfl⟩)
        | (go_at_call 36; refine (hth _ (Below.refl _ _)).mono ?_; rintro _ w3 ⟨rfl, hb3⟩))
      go_ret
      exact ⟨rfl, stays H.out.1 hb3⟩
end Go.Proofs.YtpdceondgbgpkaaGreatDoor.Dsk
namespace Go.Proofs.YtpdceondgbgpkaaGreatDoor.Dsk
open Go.RowKit Go.Maps
set_option linter.unusedSimpArgs false
set_option linter.unusedVariables false
set_option maxRecDepth 100000 in
set_option maxHeartbeats 4000000 in
theorem Read_any (S : Nat → Prop) (p N : Nat) (d : Dk) (f : ByteArray) (w : World) (h : DiskAt w S p N d) (hf : f.size ≤ maxLen) :
    Calls Tryz.prog 22 #[.pointer (some ⟨p, 0, none⟩), .string f] w fun r w' => r = .returned (.tuple #[.string (if d.there f ≠ 0 then ⟨#[]⟩ else d.now.get f), .int .i64 (d.there f)]) ∧ Below w.heap.size w w' := by
  have ht := there_any S p N d f w h hf
  have H := Lib.hid h
  clear h
  by_cases he : d.there f ≠ 0
  · rw [if_pos he]
    generalize d.there f = e at ht he
    go_enter Tryz.func22, Tryz.ntmps22
    go_wp2_with (go_at_call 36; refine ht.mono ?_; rintro _ w1 ⟨rfl, hb1⟩)
    repeat (go_quiet (fail); try go_wp2_with fail)
    refine bodyPost_ret (v := .tuple #[.string ⟨#[]⟩, .int .i64 e]) (by simp [results, Tryz.results22, go_sem, *]) rfl ⟨rfl, ?_⟩
    first | exact hb1 | exact Mem.bdrewN hb1 _
  · rw [if_neg he]
    have h0 : d.there f = 0 := by omega
    rw [h0] at ht ⊢
    go_enter Tryz.func22, Tryz.ntmps22
    go_wp2_with (go_at_call 36; refine ht.mono ?_; rintro _ w1 ⟨rfl, hb1⟩; have h2 := H.out.below hb1; obtain ⟨bs, bn, v, h2⟩ := h2; have c1 := h2.c1; have hl := (h2.now.lookup hf).1; clear h2)
    repeat (go_quiet (fail); try go_wp2_with fail)
    refine bodyPost_ret (v := .tuple #[.string (d.now.get f), .int .i64 0]) (by simp [results, Tryz.results22, go_sem, *]) rfl ⟨rfl, ?_⟩
    first | exact hb1 | exact Mem.bdrewN hb1 _
set_option maxRecDepth 100000 in
set_option maxHeartbeats 4000000 in
theorem New_any (w : World) : Calls Tryz.prog 4 #[] w fun r w' => ∃ p, r = .returned (.pointer (some ⟨p, 0, none⟩)) ∧ Below w.heap.size w w' ∧ DiskAt w' (fun k => w.heap.size ≤ k ∧ k < w'.heap.size) p 0 Dk.new := by
  have hmm := @run_makeMap Tryz.prog
  go_enter Tryz.func4, Tryz.ntmps4
  go_wp2
  go_ret
  refine ⟨_, rfl, (((Below.refl _ _).alloc (Nat.le_refl _) _).alloc (by simp) _).alloc (by simp; omega) _, w.heap.size, w.heap.size + 1, .slice none 0 0, ?_⟩
  have h0 := Own.made w
  have h1 := Own.made (w.alloc (.map #[] 0))
  have e1 : (w.alloc (.map #[] 0)).heap.size = w.heap.size + 1 := by simp
  rw [e1] at h1
  exact {
    blk := by
      have := Mem.new ((w.alloc (.map #[] 0)).alloc (.map #[] 0)) (.cells (cellsOf Dk.new w.heap.size (w.heap.size + 1) (.slice none 0 0)) 51)
      simpa [cellsOf, Dk.new] using this
    sure := ⟨0, (h0.alloc _).alloc _, Nat.le_refl _⟩
    now := h1.alloc _
    row := World.ownsRow_nil _ _ _ _
    sp := by first | (simp; done) | (simp; omega)
    ss := by first | (simp; done) | (simp; omega)
    sn := by first | (simp; done) | (simp; omega)
    sr := fun i hi => by simp [Value.ownBlock] at hi
    ne := by omega }
set_option maxRecDepth 100000 in
set_option maxHeartbeats 4000000 in
theorem Sync_any (S : Nat → Prop) (p N : Nat) (d : Dk) (w : World) (h : DiskAt w S p N d) (hi : Dk.Inv d) (hN : N < 1000000000) :
    Calls Tryz.prog 6 #[.pointer (some ⟨p, 0, none⟩)] w fun r w' => r = .returned (.int .i64 d.sync.1) ∧ Mem.Ch S w w' ∧ DiskAt w' (Gr S w w') p (N + 1) d.sync.2 := by
  obtain ⟨bs, bn, v, h⟩ := h
  have hr := ready_any S p N d bs bn v w h
  have hcount := count_any S p N d bs bn v w h
  have HI := Lib.hid hi
  have H := Lib.hid h
  clear h hi
  unfold Dk.sync
  cases hd : d.down
  · rw [hd, if_neg (by decide)] at hr
    rw [if_neg (by decide)]
    cases ht : d.trips
    · rw [if_neg (by decide)]
      rw [ht] at hcount
      go_enter Tryz.func6, Tryz.ntmps6
      go_wp2_with (first
        | (go_at_call 14; refine hr.mono ?_; rintro _ w1 ⟨rfl, rfl⟩)
        | (go_at_call 18; refine hcount.mono ?_; rintro _ w2 ⟨rfl, hc2, hA2⟩; have c1 := hA2.c1; have HA := Lib.hid (And.intro hc2 hA2); have hnow2 : Own w2 bn N d.now := hA2.now; have HN := Lib.hid hnow2; clear hc2 hA2 hnow2)
        | (go_at_call 20; refine (Clone_own HN.out).mono ?_; rintro _ w6 ⟨rfl, hn6, hs6, hb6⟩; have hp6 := (hb6.block p (Mem.lt HA.out.2.blk)).trans HA.out.2.blk; have q0 := Mem.cell hp6 (j := 0) rfl; have q2 := Mem.cell hp6 (j := 2) rfl; have f0 := Mem.free hp6 (j := 0); have f2 := Mem.free hp6 (j := 2); have HP := Lib.hid hp6; clear hp6))
      go_ret
      have hpl := Mem.lt HA.out.2.blk
      have hnl := HN.out.lt
      have s2 := HA.out.1.size
      have s6 := hb6.size
      have hn6l := hn6.lt
      have hpn := HA.out.2.pN
      have ho : ∀ i, i ≠ p → ((w6.setCell ⟨p, 0, none⟩ (.map (some w2.heap.size))).setCell ⟨p, 2, none⟩ (.slice none 0 0)).heap[i]? = w6.heap[i]? := fun i hi => (Below.heap_setCell _ ⟨p, 2, none⟩ _ i hi).trans (Below.heap_setCell _ ⟨p, 0, none⟩ _ i hi)
      have c1 : Mem.Ch S w1 w6 := (HA.out.1.mono (fun k _ hk => by rw [hk]; exact H.out.sp)).trans' (Mem.Ch.of_below' hb6)
      refine ⟨rfl, (c1.set (g := p) (j := 0) (.inr H.out.sp)).set (g := p) (j := 2) (.inr H.out.sp), w2.heap.size, bn, .slice none 0 0, ?_⟩
      exact {
        blk := by
          rw [Mem.set (Mem.set HP.out)]
          rfl
        sure := ⟨N, hn6.step (ho _ (by omega)), by show N + 0 ≤ N + 1; omega⟩
        now := (hs6.step (ho bn (Ne.symm hpn))).mono (Nat.le_succ N)
        row := World.ownsRow_nil _ _ _ _
        sp := .inl H.out.sp
        ss := .inr ⟨by omega, by simp only [size_set]; omega⟩
        sn := .inl H.out.sn
        sr := fun i hi => by simp [Value.ownBlock] at hi
        ne := by omega }
    · rw [if_pos rfl]
      rw [ht] at hcount
      go_enter Tryz.func6, Tryz.ntmps6
      go_wp2_with (first
        | (go_at_call 14; refine hr.mono ?_; rintro _ w1 ⟨rfl, rfl⟩)
        | (go_at_call 18; refine hcount.mono ?_; rintro _ w2 ⟨rfl, hc2, hA2⟩; have c6 := hA2.c6; have HA := Lib.hid (And.intro hc2 hA2); clear hc2 hA2)
        | (go_at_call 19; refine (Fail_up S p N d.counted d.keep w2 ⟨bs, bn, v, HA.out.2⟩ hd HI.out.counted.kept HI.out.counted.valid (by omega)).mono ?_; rintro _ w6 ⟨rfl, hc6, hD6⟩))
      go_ret
      refine ⟨rfl, (HA.out.1.mono (fun k _ hk => by rw [hk]; exact H.out.sp)).trans' hc6, (hD6.mono (fun k hk => ?_)).more (Nat.le_succ N)⟩
      rcases hk with hk | hk
      · exact .inl hk
      · exact .inr ⟨by have := HA.out.1.size; omega, hk.2⟩
  · rw [hd, if_pos rfl] at hr
    rw [if_pos rfl]
    go_enter Tryz.func6, Tryz.ntmps6
    go_wp2_with (go_at_call 14; refine hr.mono ?_; rintro _ w1 ⟨rfl, rfl⟩)
    go_ret
    exact ⟨rfl, stays ⟨bs, bn, v, H.out⟩ (Below.refl _ _)⟩
end Go.Proofs.YtpdceondgbgpkaaGreatDoor.Dsk
