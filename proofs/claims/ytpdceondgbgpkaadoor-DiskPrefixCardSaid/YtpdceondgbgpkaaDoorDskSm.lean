/- How many bytes files have, behind changes and behind a loss of power: plain. -/
import Derived.Test.YtpdceondgbgpkaaDoorDiskP
namespace Go.Proofs.YtpdceondgbgpkaaDoor.Dsk
open Go.RowKit
set_option linter.unusedVariables false
/-- The files have u bytes in all. -/
def Sum (F : FM) (u : Nat) : Prop := ∃ l : List ByteArray, l.Nodup ∧ (∀ s, s ∈ l ↔ (F s).isSome = true) ∧ u = (l.map (fun s => (F.get s).size)).sum
theorem get_none {F : FM} {k : ByteArray} (h : (F k).isSome = false) : F.get k = ⟨#[]⟩ := by
  unfold FM.get
  cases hk : F k with
  | none => rfl
  | some x => rw [hk] at h; cases h
theorem Sum.one {F : FM} {u u' : Nat} (h : Sum F u) (h' : Sum F u') : u = u' := by
  obtain ⟨l, h1, h2, rfl⟩ := h
  obtain ⟨l', h1', h2', rfl⟩ := h'
  have hp : l.Perm l' := (List.perm_ext_iff_of_nodup h1 h1').2 (fun s => (h2 s).trans (h2' s).symm)
  exact (hp.map _).sum_nat
theorem sum_none : Sum (fun _ => none) 0 := ⟨[], List.nodup_nil, fun s => by simp, rfl⟩
theorem Sum.del {F : FM} {u : Nat} (h : Sum F u) (k : ByteArray) : (F.get k).size ≤ u ∧ Sum (F.del k) (u - (F.get k).size) := by
  obtain ⟨l, h1, h2, hu⟩ := h
  cases hk : (F k).isSome with
  | false =>
    have e : F.del k = F := by
      funext s
      unfold FM.del
      split
      · rename_i hs
        subst hs
        cases hh : F s with
        | none => rfl
        | some x => rw [hh] at hk; cases hk
      · rfl
    rw [e, get_none hk]
    exact ⟨Nat.zero_le _, ⟨l, h1, h2, hu⟩⟩
  | true =>
    have hm : k ∈ l := (h2 k).2 hk
    have hmf : ∀ s, s ∈ l.filter (fun s => decide (s ≠ k)) ↔ s ≠ k ∧ s ∈ l := fun s => by rw [List.mem_filter, decide_eq_true_eq]; exact And.comm
    have hnd : (l.filter (fun s => decide (s ≠ k))).Nodup := List.Pairwise.filter _ h1
    have hp : l.Perm (k :: l.filter (fun s => decide (s ≠ k))) := by
      refine (List.perm_ext_iff_of_nodup h1 (List.nodup_cons.2 ⟨fun hh => ((hmf k).1 hh).1 rfl, hnd⟩)).2 (fun s => ?_)
      rw [List.mem_cons, hmf]
      constructor
      · intro hs
        by_cases e : s = k
        · exact .inl e
        · exact .inr ⟨e, hs⟩
      · rintro (rfl | ⟨_, hs⟩)
        · exact hm
        · exact hs
    have hs : u = (F.get k).size + ((l.filter (fun s => decide (s ≠ k))).map (fun s => (F.get s).size)).sum := by
      rw [hu, (hp.map (fun s => (F.get s).size)).sum_nat, List.map_cons, List.sum_cons]
    refine ⟨by omega, l.filter (fun s => decide (s ≠ k)), hnd, fun s => ?_, ?_⟩
    · rw [hmf, h2 s]
      unfold FM.del
      split
      · rename_i e; subst e; simp
      · rename_i e; simp [e]
    · rw [hs, Nat.add_sub_cancel_left]
      congr 1
      refine List.map_congr_left (fun s hs => ?_)
      have hne := ((hmf s).1 hs).1
      unfold FM.get
      rw [FM.del_other F hne]
theorem Sum.set {F : FM} {u : Nat} (h : Sum F u) (k v : ByteArray) : (F.get k).size ≤ u ∧ Sum (F.set k v) (u - (F.get k).size + v.size) := by
  obtain ⟨h0, l, h1, h2, hu⟩ := h.del k
  have hk : k ∉ l := fun hm => by
    have := (h2 k).1 hm
    unfold FM.del at this
    rw [if_pos rfl] at this
    cases this
  refine ⟨h0, k :: l, List.nodup_cons.2 ⟨hk, h1⟩, fun s => ?_, ?_⟩
  · rw [List.mem_cons, h2 s]
    unfold FM.del FM.set
    split
    · rename_i e; simp [e]
    · rename_i e; simp [e]
  · rw [List.map_cons, List.sum_cons, FM.get_set_same, hu, Nat.add_comm]
    congr 2
    refine List.map_congr_left (fun s hs => ?_)
    have hne : s ≠ k := fun e => hk (e ▸ hs)
    rw [FM.get_set_other F v hne]
    unfold FM.get
    rw [FM.del_other F hne]
/-- The files have at most n bytes. -/
def Bel (n : Nat) (F : FM) : Prop := ∃ u, Sum F u ∧ u ≤ n
theorem Bel.trim {n m : Nat} {F : FM} {f : ByteArray} (h : Bel n F) (hm : m ≤ (F.get f).size) : Bel n ((Chg.trim f m).does F) := by
  obtain ⟨u, hs, hu⟩ := h
  obtain ⟨h0, h1⟩ := hs.set f ((F.get f).extract 0 m)
  refine ⟨_, h1, ?_⟩
  rw [ByteArray.size_extract]
  omega
theorem Bel.drop {n : Nat} {F : FM} {f : ByteArray} (h : Bel n F) : Bel n ((Chg.drop f).does F) := by
  obtain ⟨u, hs, hu⟩ := h
  obtain ⟨h0, h1⟩ := hs.del f
  exact ⟨_, h1, by omega⟩
theorem Bel.move {n : Nat} {F : FM} {f t : ByteArray} (h : Bel n F) : Bel n ((Chg.move f t).does F) := by
  obtain ⟨u, hs, hu⟩ := h
  obtain ⟨h0, h1⟩ := hs.del f
  obtain ⟨h2, h3⟩ := h1.set t (F.get f)
  exact ⟨_, h3, by omega⟩
theorem Bel.put {n a u : Nat} {F : FM} {f s : ByteArray} (h : Sum F u) (ha : a ≤ (F.get f).size) (hn : u + (max (F.get f).size (a + s.size)) ≤ n + (F.get f).size) : Bel n ((Chg.put f s a).does F) := by
  obtain ⟨h0, h1⟩ := h.set f (splice (F.get f) s a)
  refine ⟨_, h1, ?_⟩
  rw [splice_size _ _ _ ha]
  omega
theorem Bel.torn {n a m : Nat} {F : FM} {f s : ByteArray} (hF : Bel n F) (ha : a ≤ (F.get f).size) (h : Bel n ((Chg.put f s a).does F)) : Bel n ((Chg.put f (s.extract 0 m) a).does F) := by
  obtain ⟨u, hs, hu⟩ := hF
  obtain ⟨u2, hs2, hu2⟩ := h
  obtain ⟨h0, h1⟩ := hs.set f (splice (F.get f) s a)
  have e := hs2.one h1
  rw [splice_size _ _ _ ha] at e
  refine Bel.put hs ha ?_
  rw [ByteArray.size_extract]
  omega
theorem Bel.fallen {n : Nat} : ∀ (F : FM) (l : List Chg) (k : Int), Valid F l → (∀ i, i ≤ l.length → Bel n (play F (l.take i))) → Bel n (fallen F l k)
  | F, [], _, _, h => h 0 (Nat.le_refl _)
  | F, c :: l, k, hv, h => by
    have h0 : Bel n F := h 0 (Nat.zero_le _)
    have h1 : Bel n (c.does F) := h 1 (by simp)
    by_cases hk : (c.cost : Int) ≤ k
    · rw [fallen_le hk]
      exact Bel.fallen (c.does F) l _ hv.2 (fun i hi => h (i + 1) (by simpa using hi))
    · cases c with
      | put f s a =>
        rw [fallen_put (by simpa [Chg.cost] using hk)]
        split
        · exact Bel.torn h0 hv.1.2.1 h1
        · exact h0
      | _ =>
        rw [fallen_other (by intro _ _ _ e; cases e) hk]
        exact h0
/-- At no place of the row are there more than n bytes. -/
structure Roomy (n : Nat) (d : Dk) : Prop where
  all : ∀ i, i ≤ d.row.length → Bel n (play d.sure (d.row.take i))
namespace Roomy
variable {n : Nat} {d : Dk}
theorem now (h : Roomy n d) (hi : Dk.Inv d) : Bel n d.now := by
  have := h.all d.row.length (Nat.le_refl _)
  rw [List.take_length, ← hi.now] at this
  exact this
theorem push (h : Roomy n d) (hi : Dk.Inv d) {c : Chg} (hc : Bel n (c.does d.now)) : Roomy n (d.push c) := by
  refine ⟨fun i hi' => ?_⟩
  show Bel n (play d.sure ((d.row ++ [c]).take i))
  have hl : i ≤ d.row.length + 1 := by
    have : i ≤ (d.row ++ [c]).length := hi'
    simpa using this
  by_cases h1 : i ≤ d.row.length
  · rw [List.take_append_of_le_length h1]
    exact h.all i h1
  · have e : i = d.row.length + 1 := by omega
    subst e
    rw [show d.row.length + 1 = (d.row ++ [c]).length by simp, List.take_length, play_snoc, ← hi.now]
    exact hc
theorem counted (h : Roomy n d) : Roomy n d.counted := ⟨h.all⟩
theorem fail (h : Roomy n d) (hi : Dk.Inv d) (k : Int) : Roomy n (d.fail k) := by
  unfold Dk.fail
  split
  · exact h
  · refine ⟨fun i hi' => ?_⟩
    have e : i = 0 := Nat.le_zero.1 hi'
    subst e
    exact Bel.fallen d.sure d.row k hi.valid h.all
theorem lay (h : Roomy n d) (hi : Dk.Inv d) {c : Chg} (hok : c.ok d.now) (hc : Bel n (c.does d.now)) : Roomy n (d.lay c).2 := by
  unfold Dk.lay
  split
  · exact (h.push hi hc).fail (hi.push hok) _
  · exact h.push hi hc
theorem sync (h : Roomy n d) (hi : Dk.Inv d) : Roomy n d.sync.2 := by
  unfold Dk.sync
  split
  · exact h
  · split
    · exact h.counted.fail hi.counted _
    · refine ⟨fun i hi' => ?_⟩
      have e : i = 0 := Nat.le_zero.1 hi'
      subst e
      exact h.now hi
end Roomy
end Go.Proofs.YtpdceondgbgpkaaDoor.Dsk
