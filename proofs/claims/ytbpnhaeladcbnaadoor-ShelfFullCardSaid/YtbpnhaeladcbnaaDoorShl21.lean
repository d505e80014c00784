/- shelf.save on a disk that is up and whose power stays, with room or without. -/
import Derived.Test.YtbpnhaeladcbnaaDoorShl17
import Derived.Test.YtbpnhaeladcbnaaDoorDskB
namespace Go.Proofs.YtbpnhaeladcbnaaDoor
open Go.RowKit
set_option linter.unusedSimpArgs false
set_option linter.unusedVariables false
open Sp (bs)
open Dsk (DiskAt Dk Gr nameP Chg FM)
open Shf
namespace Shf
/-- A disk that is up, whose power stays, and on which nothing waits. -/
structure Calm (d : Dk) : Prop where
  inv : Dk.Inv d
  up : d.down = false
  aft : d.after = 0
  still : Still d
/-- The disk behind a saving that had room. -/
def fin (d : Dk) (f pk : ByteArray) : Dk := { ((d.push (.put (f ++ newK) pk 0)).push (.move (f ++ newK) f)).counted with sure := ((d.push (.put (f ++ newK) pk 0)).push (.move (f ++ newK) f)).now, row := [] }
theorem lay_calm {d : Dk} {c : Chg} (h : d.after = 0) : d.lay c = (0, d.push c) := by
  unfold Dk.lay Dk.trips
  rw [if_pos h, if_neg (by decide)]
theorem aft_push {d : Dk} {c : Chg} (h : d.after = 0) : (d.push c).after = 0 := by
  show (if d.after = 0 then (0 : Int) else _) = 0
  rw [if_pos h]
theorem sync_calm {d : Dk} (hd : d.down = false) (h : d.after = 0) : d.sync = (0, { d.counted with sure := d.now, row := [] }) := by
  unfold Dk.sync Dk.trips
  rw [if_neg (by rw [hd]; decide), if_pos h, if_neg (by decide)]
theorem put_ok' {d : Dk} {f pk : ByteArray} (hf : f.size ≤ 1000) (hpk : pk.size ≤ 4194304) : (Chg.put (f ++ newK) pk 0).ok d.now := ⟨new_size hf, Nat.zero_le _, by omega⟩
theorem move_ok' {d : Dk} {f : ByteArray} (hf : f.size ≤ 1000) : (Chg.move (f ++ newK) f).ok d.now := ⟨new_size hf, by unfold maxLen; omega⟩
theorem fin_now {d : Dk} {f pk : ByteArray} (hg : d.now (f ++ newK) = none) : (fin d f pk).now = ((d.now.set (f ++ newK) pk).del (f ++ newK)).set f pk := by
  show (Chg.move (f ++ newK) f).does ((Chg.put (f ++ newK) pk 0).does d.now) = _
  rw [put_does hg, move_does]
theorem fin_f {d : Dk} {f pk : ByteArray} (hg : d.now (f ++ newK) = none) : (fin d f pk).now f = some pk := by rw [fin_now hg]; exact FM.set_same _ _ _
theorem fin_rest {d : Dk} {f pk z : ByteArray} (hg : d.now (f ++ newK) = none) (h1 : z ≠ f) : (fin d f pk).now z = d.now z := by
  rw [fin_now hg, FM.set_other _ _ h1]
  by_cases h2 : z = f ++ newK
  · subst h2
    rw [hg]
    unfold FM.del
    rw [if_pos rfl]
  · rw [FM.del_other _ h2, FM.set_other _ _ h2]
theorem Calm.fin {d : Dk} {f pk : ByteArray} (h : Calm d) (hf : f.size ≤ 1000) (hpk : pk.size ≤ 4194304) : Calm (Shf.fin d f pk) := by
  have h1 := (h.inv.push (put_ok' (f := f) hf hpk)).push (c := .move (f ++ newK) f) (move_ok' hf)
  have h2 := h1.sync
  rw [sync_calm (by exact h.up) (aft_push (aft_push h.aft))] at h2
  refine ⟨h2, h.up, ?_, ⟨rfl, rfl⟩⟩
  show (if ((d.push (.put (f ++ newK) pk 0)).push (.move (f ++ newK) f)).after = 0 then (0 : Int) else _) = 0
  rw [if_pos (aft_push (aft_push h.aft))]
end Shf
section
variable {S : Nat → Prop} {p N : Nat} {w : World} {f pk : ByteArray}
theorem tw_put {x : Dk} (hu : Shf.Calm x) (hf : f.size ≤ 1000) (hn : nameP (f ++ newK) = true) (hpk : pk.size ≤ 4194304) (hN : N < 1000000000) (hS : ∀ k, w.heap.size ≤ k → S k) (W : World) (hW : w.heap.size ≤ W.heap.size) (h : DiskAt W S p N x) :
    Calls Tryd.prog 49 #[.pointer (some ⟨p, 0, none⟩), .string (f ++ ⟨#[46, 110, 101, 119]⟩), .int .i64 0, .string pk] W fun r w' => ∃ e : Int, r = .returned (.int .i64 e) ∧ ((e = 0 ∧ Mem.Ch S W w' ∧ DiskAt w' S p (N + 1) (x.push (.put (f ++ newK) pk 0))) ∨ (e = 7 ∧ 0 ≤ x.room ∧ Below W.heap.size W w')) := by
  have hbad : ¬ x.bad (f ++ newK) 0 pk := by
    unfold Dk.bad
    rw [hn]
    rintro (h | h | h | h)
    · exact absurd h (by decide)
    · exact absurd h (by decide)
    · omega
    · omega
  by_cases hr : 0 ≤ x.room
  · refine (Dsk.Put_bound S p N x (f ++ newK) 0 pk W h hu.inv hu.up (new_size hf) hbad hr hN).mono ?_
    rw [lay_calm hu.aft]
    rintro _ w' (⟨rfl, h1, h2⟩ | ⟨rfl, h1⟩)
    · exact ⟨0, rfl, .inl ⟨rfl, h1, h2.mono (gr_in hS hW)⟩⟩
    · exact ⟨7, rfl, .inr ⟨rfl, hr, h1⟩⟩
  · refine (Dsk.Put_good S p N x (f ++ newK) 0 pk W h hu.inv hu.up (new_size hf) hbad (by omega) hN).mono ?_
    rw [lay_calm hu.aft]
    rintro _ w' ⟨rfl, h1, h2⟩
    exact ⟨0, rfl, .inl ⟨rfl, h1, h2.mono (gr_in hS hW)⟩⟩
theorem tw_move {x : Dk} (hu : Shf.Calm x) (hf : f.size ≤ 1000) (hpk : pk.size ≤ 4194304) (hn : nameP (f ++ newK) = true) (hnf : nameP f = true) (hN : N < 1000000000) (hS : ∀ k, w.heap.size ≤ k → S k) (W : World) (hW : w.heap.size ≤ W.heap.size) (h : DiskAt W S p N (x.push (.put (f ++ newK) pk 0))) :
    Calls Tryd.prog 51 #[.pointer (some ⟨p, 0, none⟩), .string (f ++ ⟨#[46, 110, 101, 119]⟩), .string f] W fun r w' => r = .returned (.int .i64 0) ∧ Mem.Ch S W w' ∧ DiskAt w' S p (N + 1) ((x.push (.put (f ++ newK) pk 0)).push (.move (f ++ newK) f)) := by
  have hp := hu.inv.push (put_ok' (f := f) hf hpk)
  have hth : (x.push (.put (f ++ newK) pk 0)).there (f ++ newK) = 0 := by
    unfold Dk.there
    rw [if_neg (by rw [show (x.push (.put (f ++ newK) pk 0)).down = false from hu.up]; decide), if_pos hn]
    show (if ((Chg.put (f ++ newK) pk 0).does x.now (f ++ newK)).isSome then (0 : Int) else 4) = 0
    rw [show (Chg.put (f ++ newK) pk 0).does x.now = Dsk.FM.set x.now (f ++ newK) (Dsk.splice (Dsk.FM.get x.now (f ++ newK)) pk 0) from rfl, Dsk.FM.set_same]
    rfl
  have := Dsk.Move_any S p N _ (f ++ newK) f W h hp (new_size hf) (by unfold maxLen; omega) hN
  have e : (x.push (.put (f ++ newK) pk 0)).move (f ++ newK) f = (0, (x.push (.put (f ++ newK) pk 0)).push (.move (f ++ newK) f)) := by
    unfold Dk.move
    rw [if_neg (fun hh => by rw [hnf] at hh; exact absurd hh.2 (by decide)), if_neg (by rw [hth]; decide), lay_calm (aft_push hu.aft)]
  rw [e] at this
  refine this.mono ?_
  rintro _ w' ⟨rfl, h1, h2⟩
  exact ⟨rfl, h1, h2.mono (gr_in hS hW)⟩
theorem tw_sync {x : Dk} (hi : Dk.Inv x) (hd : x.down = false) (ha : x.after = 0) (hN : N < 1000000000) (hS : ∀ k, w.heap.size ≤ k → S k) (W : World) (hW : w.heap.size ≤ W.heap.size) (h : DiskAt W S p N x) :
    Calls Tryd.prog 50 #[.pointer (some ⟨p, 0, none⟩)] W fun r w' => r = .returned (.int .i64 0) ∧ Mem.Ch S W w' ∧ DiskAt w' S p (N + 1) { x.counted with sure := x.now, row := [] } := by
  have := st_sync (w := w) hi hN hS W hW h
  rw [sync_calm hd ha] at this
  exact this
end
set_option maxRecDepth 100000 in
set_option maxHeartbeats 8000000 in
theorem save_two (S : Nat → Prop) (p N : Nat) (d : Dk) (f t : ByteArray) (w : World) (hS : ∀ k, w.heap.size ≤ k → S k) (h : DiskAt w S p N d) (hu : Shf.Calm d) (hg : d.now (f ++ newK) = none) (hf : f.size ≤ 1000) (hn : nameP (f ++ newK) = true) (hnf : nameP f = true) (ht : t.size ≤ 1048576) (hN : N < 900000000) :
    Calls Tryd.prog 31 #[.pointer (some ⟨p, 0, none⟩), .string f, .string t] w fun r w' => ∃ e : Int, r = .returned (.int .i64 e) ∧ ((e = 0 ∧ Mem.Ch S w w' ∧ DiskAt w' S p (N + 4) (Shf.fin d f (Crc.packB t))) ∨ (e = 7 ∧ 0 ≤ d.room ∧ Below w.heap.size w w')) := by
  have hp := fun W => pack_any t W ht
  have hrd : ∀ W, DiskAt W S p N d → Calls Tryd.prog 18 #[.pointer (some ⟨p, 0, none⟩), .string (f ++ ⟨#[46, 110, 101, 119]⟩)] W fun r w' => (∃ x, r = .returned (.tuple #[.string x, .int .i64 4])) ∧ Below W.heap.size W w' := fun W h => by
    refine (Dsk.Read_any S p N d (f ++ newK) W h (new_size hf)).mono ?_
    rw [there_none hu.up hn hg]
    rintro _ w' ⟨rfl, hb⟩
    exact ⟨⟨_, rfl⟩, hb⟩
  have hpk : (Crc.packB t).size ≤ 4194304 := by rw [Crc.packB_size]; omega
  have hpt := tw_put (S := S) (p := p) (N := N) (w := w) (f := f) hu hf hn hpk (by omega) hS
  have hmv := fun W hW hD => tw_move (S := S) (p := p) (N := N + 1) (w := w) hu hf hpk hn hnf (by omega) hS W hW hD
  have hsy := tw_sync (S := S) (p := p) (N := N + 2) (w := w) ((hu.inv.push (put_ok' (f := f) hf hpk)).push (c := .move (f ++ newK) f) (move_ok' hf)) hu.up (aft_push (aft_push hu.aft)) (by omega) hS
  have hR : ({ ((d.push (.put (f ++ newK) (Crc.packB t) 0)).push (.move (f ++ newK) f)).counted with sure := ((d.push (.put (f ++ newK) (Crc.packB t) 0)).push (.move (f ++ newK) f)).now, row := [] } : Dk) = Shf.fin d f (Crc.packB t) := rfl
  rw [hR] at hsy
  generalize Shf.fin d f (Crc.packB t) = R at hsy ⊢
  clear hR
  have H := Lib.hid h
  clear h hu hg hpk
  go_enter Tryd.func31, Tryd.ntmps31
  go_wp2_with (first
    | (go_at_call 47; refine (hp _).mono ?_; rintro _ w2 ⟨rfl, hb2⟩; have h2 := H.out.below hb2; have k2 := hb2)
    | (go_at_call 18; refine (hrd _ h2).mono ?_; rintro _ w3 ⟨⟨xr, rfl⟩, hb3⟩; have h3 := h2.below hb3; have k3 := k2.trans (hb3.mono k2.size))
    | (go_at_call 49; refine (hpt _ k3.size h3).mono ?_; rintro _ w5 ⟨e5, rfl, h5⟩; refine Hid.out ?_))
  rcases h5 with ⟨rfl, hb5, h5⟩ | ⟨rfl, hr5, hb5⟩
  · have b5 := (Mem.Ch.of_below' k3).trans' hb5
    refine Lib.hid ?_
    go_wp2_with (first
      | (go_at_call 51; refine (hmv _ b5.size h5).mono ?_; rintro _ w6 ⟨rfl, hb6, h6⟩; have b6 := b5.trans' hb6)
      | (go_at_call 50; refine (hsy _ b6.size h6).mono ?_; rintro _ w7 ⟨rfl, hb7, h7⟩; have b7 := b6.trans' hb7))
    go_ret
    exact ⟨0, rfl, .inl ⟨rfl, b7, h7.more (by omega)⟩⟩
  · have k5 := k3.trans (hb5.mono k3.size)
    refine Lib.hid ?_
    go_wp2_with fail
    go_ret
    exact ⟨7, rfl, .inr ⟨rfl, hr5, k5⟩⟩
end Go.Proofs.YtbpnhaeladcbnaaDoor
