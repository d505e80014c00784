/- disk.Names: the files' names, in order. -/
import Derived.Test.YtpdceondgbgpkaaDoorDskNp
import Derived.Test.YtpdceondgbgpkaaDoorShelf1
namespace Go.Proofs.YtpdceondgbgpkaaDoor.Dsk
open Go.RowKit Go.Maps Go.Sort Go.Shelf
set_option linter.unusedSimpArgs false
set_option linter.unusedVariables false
theorem info_strT : (Tryd.prog.info? 9).map (fun i => (i.zero, i.size, i.bytes)) = some (some (.string ⟨#[]⟩), 1, 16) := by kernel_rfl
set_option maxRecDepth 100000 in
set_option maxHeartbeats 4000000 in
theorem Names_up (S : Nat → Prop) (p N : Nat) (d : Dk) (w : World) (h : DiskAt w S p N d) (hd : d.down = false) (hN : N ≤ 1000000000) :
    Calls Tryd.prog 24 #[.pointer (some ⟨p, 0, none⟩)] w fun r w' => ∃ v l, r = .returned v ∧ NamesOf d.now l ∧ l.length ≤ N ∧ (∀ s ∈ l, s.size ≤ maxLen) ∧ Mem.Rd w' (fun k => w.heap.size ≤ k) 1 v (l.map (fun s => [.string s])) ∧ Below w.heap.size w w' := by
  obtain ⟨bs, bn, v, h⟩ := h
  have hr := ready_any S p N d bs bn v w h
  rw [hd, if_neg (by decide)] at hr
  have c1 := h.c1
  obtain ⟨D, hown, hF⟩ := h.now
  have hsz : Maps.size D ≤ N := hown.size_le
  have hW := Lib.hid (And.intro hown hF)
  clear h hown hF
  refine (callsIn_wide (n := 6)).1 ?_
  have hfK : Fence.wide.fn 36 := trivial
  have hfR : Fence.wide.fn 25 := trivial
  have hfS : Fence.wide.fn 35 := trivial
  refine callsIn_of_wp Tryd.func24 rfl trivial ?_ rfl
  simp only [Tryd.ntmps24, List.size_toArray, List.length_cons, List.length_nil, Nat.reduceAdd, Nat.reduceSub, Array.replicate_succ, Array.replicate_zero, List.push_toArray, List.append_toArray, List.nil_append, List.cons_append]
  gi_wp2_with (first
    | (gi_at_call 25; refine (callsIn_wide.2 hr).mono ?_; rintro _ w1 ⟨rfl, rfl⟩)
    | (gi_at_call 36; refine (Tryd.maps_KeysZ _ _).mono ?_; rintro e w' ⟨rfl, rfl⟩)
    | (gi_at_call 35; refine (Tryd.slices_Sorted_keysZ bn N D _ _ hW.out.1 (by unfold maxLen; omega) (by omega)).mono ?_; rintro e w' ⟨v, ss, rfl, hS, hrow, hnil, hb⟩))
  go_ret
  have hl0 : ss.length ≤ N := by rw [hS.length_eq, ← size_keys hW.out.1]; exact hsz
  refine ⟨v, _, rfl, names_of hW.out.1 hW.out.2 hS, ?_, ?_, ?_, ((Below.refl _ w1).alloc (Nat.le_refl _) _).trans (hb.mono (by simp))⟩
  · rw [List.length_map, List.length_mergeSort]; exact hl0
  · intro s hs
    obtain ⟨x, hx, rfl⟩ := List.mem_map.1 hs
    have := strKeys_le hW.out.1 Tryd.underlying9 x (hS.mem_iff.1 ((List.mergeSort_perm ss leB).mem_iff.1 hx))
    exact this
  · refine (Mem.Rd.of_owns (base := (w1.alloc (.cells #[.map (some bn)] 40)).heap.size) (e := 9) (n := ss.length) ?_ ?_ ?_).mono (fun k hk => Nat.le_trans (by simp) hk)
    · rw [flat_one, List.map_map]
      exact hrow
    · simp
    · intro r hr
      obtain ⟨s, _, rfl⟩ := List.mem_map.1 hr
      rfl
end Go.Proofs.YtpdceondgbgpkaaDoor.Dsk
