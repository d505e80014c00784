/- DiskRoom: the files of a disk that is up or down; what holds at each round. -/
import Derived.Test.YtpdceondgbgpkaaDoorDskFl
import Derived.Test.YtpdceondgbgpkaaDoorDskSame
import Derived.Test.YtpdceondgbgpkaaDoorDskRm
import Derived.Test.YtpdceondgbgpkaaDoorDskF
namespace Go.Proofs.YtpdceondgbgpkaaDoor.Dsk
open Go.RowKit Go.Maps
set_option linter.unusedSimpArgs false
set_option linter.unusedVariables false
def FilesOf (d : Dk) (fl : List (ByteArray × ByteArray)) : Prop := if d.down then fl = [] else ∃ l, NamesOf d.now l ∧ fl = d.pairs l
theorem FilesOf.one {d : Dk} {a b : List (ByteArray × ByteArray)} (h : FilesOf d a) (h' : FilesOf d b) : a = b := by
  unfold FilesOf at h h'
  split at h
  · rename_i hd
    rw [if_pos hd] at h'
    rw [h, h']
  · rename_i hd
    rw [if_neg hd] at h'
    obtain ⟨l, h1, rfl⟩ := h
    obtain ⟨l', h1', rfl⟩ := h'
    rw [h1.one h1']
set_option maxRecDepth 100000 in
set_option maxHeartbeats 4000000 in
theorem Names_down' (S : Nat → Prop) (p N : Nat) (d : Dk) (w : World) (h : DiskAt w S p N d) (hd : d.down = true) : Calls Tryd.prog 24 #[.pointer (some ⟨p, 0, none⟩)] w fun r w' => r = .returned (.slice none 0 0) ∧ w' = w := by
  obtain ⟨bs, bn, v, h⟩ := h
  have hr := ready_any S p N d bs bn v w h
  rw [hd, if_pos rfl] at hr
  clear h
  go_enter Tryd.func24, Tryd.ntmps24
  go_wp2_with (go_at_call 25; refine hr.mono ?_; rintro _ w1 ⟨rfl, rfl⟩)
  go_ret
  exact ⟨rfl, rfl⟩
set_option maxRecDepth 100000 in
set_option maxHeartbeats 4000000 in
theorem Files_down (S : Nat → Prop) (p N : Nat) (d : Dk) (w : World) (h : DiskAt w S p N d) (hd : d.down = true) :
    Calls Tryd.prog 9 #[.pointer (some ⟨p, 0, none⟩)] w fun r w' => r = .returned (.slice none 0 0) ∧ w' = w := by
  have hn := Names_down' S p N d w h hd
  clear h
  go_enter Tryd.func9, Tryd.ntmps9
  go_wp2_with (go_at_call 24; refine hn.mono ?_; rintro _ w1 ⟨rfl, rfl⟩)
  go_loopw [3, 5] (fun v i wr => v = .slice none 0 0 ∧ i = .int .i64 0 ∧ wr = w1) (fun _ _ _ => 0)
  case atStart => exact ⟨rfl, rfl, rfl⟩
  case round =>
    obtain ⟨rfl, rfl, rfl⟩ := hrel
    go_wp2_with fail
    go_ret
    exact ⟨rfl, rfl⟩
theorem Files_any (S : Nat → Prop) (p N : Nat) (d : Dk) (w : World) (h : DiskAt w S p N d) (hN : N ≤ 1000000000) :
    Calls Tryd.prog 9 #[.pointer (some ⟨p, 0, none⟩)] w fun r w' => ∃ v fl, r = .returned v ∧ FilesOf d fl ∧ Mem.Rd w' (fun k => w.heap.size ≤ k ∧ k < w'.heap.size) 2 v (fl.map fc) ∧ Below w.heap.size w w' := by
  cases hd : d.down with
  | true =>
    refine (Files_down S p N d w h hd).mono ?_
    rintro _ w' ⟨rfl, rfl⟩
    exact ⟨_, [], rfl, by unfold FilesOf; rw [if_pos hd], Mem.Rd.nil _ _ _, Below.refl _ _⟩
  | false =>
    refine (Files_up S p N d w h hd hN).mono ?_
    rintro _ w' ⟨v, l, rfl, h1, h2, h3⟩
    refine ⟨v, d.pairs l, rfl, by unfold FilesOf; rw [if_neg (by rw [hd]; decide)]; exact ⟨l, h1, rfl⟩, ?_, h3⟩
    obtain ⟨A, cap, e, k1, k2, k3, k4⟩ := h2
    exact ⟨A, cap, e, k1, k2, fun hr => by obtain ⟨g, o, ea, hg, hl⟩ := k3 hr; exact ⟨g, o, ea, ⟨hg, hl⟩, hl⟩, k4⟩
set_option maxRecDepth 100000 in
set_option maxHeartbeats 2000000 in
theorem Down_any (S : Nat → Prop) (p N : Nat) (d : Dk) (w : World) (h : DiskAt w S p N d) : Calls Tryd.prog 15 #[.pointer (some ⟨p, 0, none⟩)] w fun r w' => r = .returned (.bool d.down) ∧ w' = w := by
  obtain ⟨bs, bn, v, h⟩ := h
  have c7 := h.c7
  clear h
  go_enter Tryd.func15, Tryd.ntmps15
  go_wp2_with fail
  go_ret
  exact ⟨rfl, rfl⟩
theorem at_kept {W : World} {S : Nat → Prop} {p N : Nat} {d : Dk} (h : DiskAt W S p N d) : DiskAt W (fun k => S k ∧ k < W.heap.size) p N d := by
  obtain ⟨bs, bn, v, h⟩ := h
  obtain ⟨h1, h2, h3, h4, h5, h6, h7, h8, h9⟩ := h
  obtain ⟨_, _, hb1⟩ := h2.choose_spec.1.isMap
  obtain ⟨_, _, hb2⟩ := h3.isMap
  exact ⟨bs, bn, v, h1, h2, h3, h4, ⟨h5, Mem.lt h1⟩, ⟨h6, Mem.lt hb1⟩, ⟨h7, Mem.lt hb2⟩, fun k hk => ⟨h8 k hk, by obtain ⟨c, hc⟩ := row_cells h4 k hk; exact Mem.lt hc⟩, h9⟩
theorem ch_cell {S : Nat → Prop} {w w1 : World} {g j : Nat} (h : Mem.Ch S w w1) (hl : g < w.heap.size) (hs : ¬ S g) : w1.cell? ⟨g, j, none⟩ = w.cell? ⟨g, j, none⟩ := World.cell?_of_block (h.block g hl hs)
/-- Blocks of Off, but those from a to b. -/
abbrev Off2 (B M0 M1 a b : Nat) : Nat → Prop := fun k => Off B M0 M1 k ∧ (k < a ∨ b ≤ k)
theorem off2S {B M0 M1 a b : Nat} {W w' : World} (h : M1 ≤ W.heap.size) (hM : M0 ≤ M1) (hB : B ≤ M0) (hb : b ≤ W.heap.size) : ∀ k, Gr (Off2 B M0 M1 a b) W w' k → Off2 B M0 M1 a b k := fun k hk => by
  rcases hk with hk | hk
  · exact hk
  · exact ⟨⟨by omega, .inr (by omega)⟩, .inr (by omega)⟩
/-- What holds at each round of DiskRoom. -/
structure Rn (w5 W : World) (B M0 M1 p N n : Nat) (d : Dk) : Prop where
  ch : Mem.Ch (Off B M0 M1) w5 W
  D : DiskAt W (Off B M0 M1) p N d
  rm : Rm n d
theorem measR {n k : Nat} (h : k < n) : n - (intOf (.int .i64 ((k : Int) + 1))).toNat < n - (intOf (.int .i64 (k : Int))).toNat := by
  show n - ((k : Int) + 1).toNat < n - ((k : Int)).toNat; omega
theorem room_set {d : Dk} {n : Nat} (hd : d = Dk.new) : Rm n { d with room := max (n : Int) (-1) } := by
  subst hd
  refine ⟨⟨show (0 : Int) ≤ 9223372036854775807 by decide, trivial, rfl⟩, ⟨fun i hi => ?_⟩, ?_⟩
  · have e : i = 0 := Nat.le_zero.1 hi
    subst e
    exact ⟨0, sum_none, Nat.zero_le _⟩
  · show max (n : Int) (-1) = n
    omega
end Go.Proofs.YtpdceondgbgpkaaDoor.Dsk
