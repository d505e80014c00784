/- shelf.save on a disk that is up and has no bound (printed by tools/gen_save.py). -/
import Derived.Test.YtbpnhaeladcbnaaDoorShl6
namespace Go.Proofs.YtbpnhaeladcbnaaDoor
open Go.RowKit
set_option linter.unusedSimpArgs false
set_option linter.unusedVariables false
open Sp (bs)
open Dsk (DiskAt Dk Gr nameP Chg)
namespace Shf
/-- What a saving answers, and the disk behind it. -/
def tailD (x : Dk) (f pk : ByteArray) : Int × Dk :=
  if (x.lay (.put (f ++ newK) pk 0)).1 ≠ 0 then x.lay (.put (f ++ newK) pk 0)
  else if ((x.push (.put (f ++ newK) pk 0)).lay (.move (f ++ newK) f)).1 ≠ 0 then (x.push (.put (f ++ newK) pk 0)).lay (.move (f ++ newK) f)
  else ((x.push (.put (f ++ newK) pk 0)).push (.move (f ++ newK) f)).sync
def saveD (d : Dk) (f pk : ByteArray) : Int × Dk :=
  if d.there (f ++ newK) = 0 then (if (d.lay (.drop (f ++ newK))).1 ≠ 0 then d.lay (.drop (f ++ newK)) else tailD (d.push (.drop (f ++ newK))) f pk) else tailD d f pk
theorem lay_up {d : Dk} {c : Chg} (h : (d.lay c).1 = 0) : (d.lay c).2 = d.push c := by
  unfold Dk.lay at h ⊢
  split
  · rename_i ht; rw [if_pos ht] at h; exact absurd h (by show ¬ ((8 : Int) = 0); decide)
  · rfl
theorem lay_8 {d : Dk} {c : Chg} (h : (d.lay c).1 ≠ 0) : (d.lay c).1 = 8 := by
  unfold Dk.lay at h ⊢
  split
  · rfl
  · rename_i ht; rw [if_neg ht] at h; exact absurd rfl h
structure Up (d : Dk) : Prop where
  inv : Dk.Inv d
  up : d.down = false
  room : d.room < 0
theorem Up.push {d : Dk} (h : Up d) {c : Chg} (hc : c.ok d.now) : Up (d.push c) := ⟨h.inv.push hc, h.up, h.room⟩
end Shf
open Shf
section
variable {S : Nat → Prop} {p N : Nat} {w : World} {f pk : ByteArray}
theorem gr_in (hS : ∀ k, w.heap.size ≤ k → S k) {W w' : World} (hW : w.heap.size ≤ W.heap.size) : ∀ k, Gr S W w' k → S k := fun k hk => by
  rcases hk with hk | hk
  · exact hk
  · exact hS k (Nat.le_trans hW hk.1)
theorem new_size (hf : f.size ≤ 1000) : (f ++ newK).size ≤ maxLen := by rw [ByteArray.size_append]; show f.size + 4 ≤ _; unfold maxLen; omega
theorem st_read {d : Dk} (hu : Shf.Up d) (hf : f.size ≤ 1000) (W : World) (h : DiskAt W S p N d) : Calls Tryd.prog 18 #[.pointer (some ⟨p, 0, none⟩), .string (f ++ ⟨#[46, 110, 101, 119]⟩)] W fun r w' => (∃ x, r = .returned (.tuple #[.string x, .int .i64 (d.there (f ++ newK))])) ∧ Below W.heap.size W w' := by
  refine (Dsk.Read_any S p N d (f ++ newK) W h (new_size hf)).mono ?_
  rintro _ w' ⟨rfl, hb⟩
  exact ⟨⟨_, rfl⟩, hb⟩
theorem st_drop {d : Dk} (hu : Shf.Up d) (hf : f.size ≤ 1000) (hN : N < 1000000000) (hS : ∀ k, w.heap.size ≤ k → S k) (ht : d.there (f ++ newK) = 0) (W : World) (hW : w.heap.size ≤ W.heap.size) (h : DiskAt W S p N d) :
    Calls Tryd.prog 48 #[.pointer (some ⟨p, 0, none⟩), .string (f ++ ⟨#[46, 110, 101, 119]⟩)] W fun r w' => r = .returned (.int .i64 (d.lay (.drop (f ++ newK))).1) ∧ Mem.Ch S W w' ∧ DiskAt w' S p (N + 1) (d.lay (.drop (f ++ newK))).2 := by
  have := Dsk.Drop_any S p N d (f ++ newK) W h hu.inv (new_size hf) hN
  have e : d.drop (f ++ newK) = d.lay (.drop (f ++ newK)) := by unfold Dk.drop; rw [if_neg (by rw [ht]; decide)]
  rw [e] at this
  refine this.mono ?_
  rintro _ w' ⟨rfl, h1, h2⟩
  exact ⟨rfl, h1, h2.mono (gr_in hS hW)⟩
theorem st_put {x : Dk} (hu : Shf.Up x) (hf : f.size ≤ 1000) (hn : nameP (f ++ newK) = true) (hpk : pk.size ≤ 4194304) (hN : N < 1000000000) (hS : ∀ k, w.heap.size ≤ k → S k) (W : World) (hW : w.heap.size ≤ W.heap.size) (h : DiskAt W S p N x) :
    Calls Tryd.prog 49 #[.pointer (some ⟨p, 0, none⟩), .string (f ++ ⟨#[46, 110, 101, 119]⟩), .int .i64 0, .string pk] W fun r w' => r = .returned (.int .i64 (x.lay (.put (f ++ newK) pk 0)).1) ∧ Mem.Ch S W w' ∧ DiskAt w' S p (N + 1) (x.lay (.put (f ++ newK) pk 0)).2 := by
  refine (Dsk.Put_good S p N x (f ++ newK) 0 pk W h hu.inv hu.up (new_size hf) ?_ hu.room hN).mono ?_
  · unfold Dk.bad
    rw [hn]
    rintro (h | h | h | h)
    · exact absurd h (by decide)
    · exact absurd h (by decide)
    · omega
    · omega
  · rintro _ w' ⟨rfl, h1, h2⟩
    exact ⟨rfl, h1, h2.mono (gr_in hS hW)⟩
theorem st_move {x : Dk} (hu : Shf.Up x) (hf : f.size ≤ 1000) (hn : nameP (f ++ newK) = true) (hnf : nameP f = true) (hN : N < 1000000000) (hS : ∀ k, w.heap.size ≤ k → S k) (W : World) (hW : w.heap.size ≤ W.heap.size) (h : DiskAt W S p N (x.push (.put (f ++ newK) pk 0))) (hok : (Chg.put (f ++ newK) pk 0).ok x.now) :
    Calls Tryd.prog 51 #[.pointer (some ⟨p, 0, none⟩), .string (f ++ ⟨#[46, 110, 101, 119]⟩), .string f] W fun r w' => r = .returned (.int .i64 ((x.push (.put (f ++ newK) pk 0)).lay (.move (f ++ newK) f)).1) ∧ Mem.Ch S W w' ∧ DiskAt w' S p (N + 1) ((x.push (.put (f ++ newK) pk 0)).lay (.move (f ++ newK) f)).2 := by
  have hp := hu.push hok
  have hth : (x.push (.put (f ++ newK) pk 0)).there (f ++ newK) = 0 := by
    unfold Dk.there
    rw [if_neg (by rw [hp.up]; decide), if_pos hn]
    show (if ((Chg.put (f ++ newK) pk 0).does x.now (f ++ newK)).isSome then (0 : Int) else 4) = 0
    rw [show (Chg.put (f ++ newK) pk 0).does x.now = Dsk.FM.set x.now (f ++ newK) (Dsk.splice (Dsk.FM.get x.now (f ++ newK)) pk 0) from rfl, Dsk.FM.set_same]
    rfl
  have := Dsk.Move_any S p N _ (f ++ newK) f W h hp.inv (new_size hf) (by unfold maxLen; omega) hN
  have e : (x.push (.put (f ++ newK) pk 0)).move (f ++ newK) f = (x.push (.put (f ++ newK) pk 0)).lay (.move (f ++ newK) f) := by
    unfold Dk.move
    rw [if_neg (fun hh => by rw [hnf] at hh; exact absurd hh.2 (by decide)), if_neg (by rw [hth]; decide)]
  rw [e] at this
  refine this.mono ?_
  rintro _ w' ⟨rfl, h1, h2⟩
  exact ⟨rfl, h1, h2.mono (gr_in hS hW)⟩
theorem st_sync {x : Dk} (hi : Dk.Inv x) (hN : N < 1000000000) (hS : ∀ k, w.heap.size ≤ k → S k) (W : World) (hW : w.heap.size ≤ W.heap.size) (h : DiskAt W S p N x) :
    Calls Tryd.prog 50 #[.pointer (some ⟨p, 0, none⟩)] W fun r w' => r = .returned (.int .i64 x.sync.1) ∧ Mem.Ch S W w' ∧ DiskAt w' S p (N + 1) x.sync.2 := by
  refine (Dsk.Sync_any S p N x W h hi hN).mono ?_
  rintro _ w' ⟨rfl, h1, h2⟩
  exact ⟨rfl, h1, h2.mono (gr_in hS hW)⟩
end
set_option maxRecDepth 100000 in
set_option maxHeartbeats 8000000 in
theorem save_any (S : Nat → Prop) (p N : Nat) (d : Dk) (f t : ByteArray) (w : World) (hS : ∀ k, w.heap.size ≤ k → S k) (h : DiskAt w S p N d) (hu : Shf.Up d) (hf : f.size ≤ 1000) (hn : nameP (f ++ newK) = true) (hnf : nameP f = true) (ht : t.size ≤ 1048576) (hN : N < 900000000) :
    Calls Tryd.prog 31 #[.pointer (some ⟨p, 0, none⟩), .string f, .string t] w fun r w' => r = .returned (.int .i64 (Shf.saveD d f (Crc.packB t)).1) ∧ Mem.Ch S w w' ∧ DiskAt w' S p (N + 4) (Shf.saveD d f (Crc.packB t)).2 := by
  have hp := fun W => pack_any t W ht
  have hrd := st_read (S := S) (p := p) (N := N) hu hf
  have H := Lib.hid (And.intro h hu)
  have hfz : (newK).size = 4 := rfl
  unfold Shf.saveD
  by_cases h0 : d.there (f ++ newK) = 0
  · rw [if_pos h0]
    have hdr := st_drop (S := S) (p := p) (N := N) (w := w) hu hf (by omega) hS h0
    rw [h0] at hrd
    by_cases hd : (d.lay (.drop (f ++ newK))).1 = 0
    · rw [if_neg (fun hh => hh hd)]
      rw [hd, Shf.lay_up hd] at hdr
      clear h hd h0
      have hok : (Chg.put (f ++ newK) (Crc.packB t) 0).ok (d.push (.drop (f ++ newK))).now := ⟨new_size hf, Nat.zero_le _, by rw [Crc.packB_size]; omega⟩
      have hux := H.out.2.push (c := .drop (f ++ newK)) (new_size hf)
      have hpt := st_put (S := S) (p := p) (N := N + 1) (w := w) hux hf hn (pk := Crc.packB t) (by rw [Crc.packB_size]; omega) (by omega) hS
      unfold Shf.tailD
      by_cases h1 : ((d.push (.drop (f ++ newK))).lay (.put (f ++ newK) (Crc.packB t) 0)).1 = 0
      · rw [if_neg (fun hh => hh h1)]
        rw [h1, Shf.lay_up h1] at hpt
        have hmv := fun W hW hD => st_move (S := S) (p := p) (N := N + 2) (w := w) hux hf hn hnf (by omega) hS W hW hD hok
        by_cases h2 : (((d.push (.drop (f ++ newK))).push (.put (f ++ newK) (Crc.packB t) 0)).lay (.move (f ++ newK) f)).1 = 0
        · rw [if_neg (fun hh => hh h2)]
          rw [h2, Shf.lay_up h2] at hmv
          have hsy := st_sync (S := S) (p := p) (N := N + 3) (w := w) ((hux.push hok).push (c := .move (f ++ newK) f) ⟨new_size hf, by unfold maxLen; omega⟩).inv (by omega) hS
          generalize Dk.sync _ = R at hsy ⊢
          have HH := Lib.hid (And.intro h1 h2)
          clear h1 h2 hok hux
          go_enter Tryd.func31, Tryd.ntmps31
          go_wp2_with (first
            | (go_at_call 47; refine (hp _).mono ?_; rintro _ w2 ⟨rfl, hb2⟩; have h2 := H.out.1.below hb2; have b2 : Mem.Ch S w w2 := Mem.Ch.of_below' hb2)
            | (go_at_call 18; refine (hrd _ h2).mono ?_; rintro _ w3 ⟨⟨xr, rfl⟩, hb3⟩; have h3 := h2.below hb3; have b3 := b2.trans' (Mem.Ch.of_below' hb3))
            | (go_at_call 48; refine (hdr _ b3.size h3).mono ?_; rintro _ w4 ⟨rfl, hb4, h4⟩; have b4 := b3.trans' hb4)
            | (go_at_call 49; refine (hpt _ b4.size h4).mono ?_; rintro _ w5 ⟨rfl, hb5, h5⟩; have b5 := b4.trans' hb5)
            | (go_at_call 51; refine (hmv _ b5.size h5).mono ?_; rintro _ w6 ⟨rfl, hb6, h6⟩; have b6 := b5.trans' hb6)
            | (go_at_call 50; refine (hsy _ b6.size h6).mono ?_; rintro _ w7 ⟨rfl, hb7, h7⟩; have b7 := b6.trans' hb7))
          go_ret
          exact ⟨rfl, b7, h7.more (by omega)⟩
        · rw [if_pos h2]
          have h8 := Shf.lay_8 h2
          generalize Dk.lay _ (.move (f ++ newK) f) = R at hmv h8 ⊢
          obtain ⟨e9, d9⟩ := R
          dsimp only at hmv h8 ⊢
          subst h8
          clear h2 hok hux
          go_enter Tryd.func31, Tryd.ntmps31
          go_wp2_with (first
            | (go_at_call 47; refine (hp _).mono ?_; rintro _ w2 ⟨rfl, hb2⟩; have h2 := H.out.1.below hb2; have b2 : Mem.Ch S w w2 := Mem.Ch.of_below' hb2)
            | (go_at_call 18; refine (hrd _ h2).mono ?_; rintro _ w3 ⟨⟨xr, rfl⟩, hb3⟩; have h3 := h2.below hb3; have b3 := b2.trans' (Mem.Ch.of_below' hb3))
            | (go_at_call 48; refine (hdr _ b3.size h3).mono ?_; rintro _ w4 ⟨rfl, hb4, h4⟩; have b4 := b3.trans' hb4)
            | (go_at_call 49; refine (hpt _ b4.size h4).mono ?_; rintro _ w5 ⟨rfl, hb5, h5⟩; have b5 := b4.trans' hb5)
            | (go_at_call 51; refine (hmv _ b5.size h5).mono ?_; rintro _ w6 ⟨rfl, hb6, h6⟩; have b6 := b5.trans' hb6))
          go_ret
          exact ⟨rfl, b6, h6.more (by omega)⟩
      · rw [if_pos h1]
        have h8 := Shf.lay_8 h1
        generalize Dk.lay _ (.put (f ++ newK) (Crc.packB t) 0) = R at hpt h8 ⊢
        obtain ⟨e9, d9⟩ := R
        dsimp only at hpt h8 ⊢
        subst h8
        clear h1 hok hux
        go_enter Tryd.func31, Tryd.ntmps31
        go_wp2_with (first
          | (go_at_call 47; refine (hp _).mono ?_; rintro _ w2 ⟨rfl, hb2⟩; have h2 := H.out.1.below hb2; have b2 : Mem.Ch S w w2 := Mem.Ch.of_below' hb2)
          | (go_at_call 18; refine (hrd _ h2).mono ?_; rintro _ w3 ⟨⟨xr, rfl⟩, hb3⟩; have h3 := h2.below hb3; have b3 := b2.trans' (Mem.Ch.of_below' hb3))
          | (go_at_call 48; refine (hdr _ b3.size h3).mono ?_; rintro _ w4 ⟨rfl, hb4, h4⟩; have b4 := b3.trans' hb4)
          | (go_at_call 49; refine (hpt _ b4.size h4).mono ?_; rintro _ w5 ⟨rfl, hb5, h5⟩; have b5 := b4.trans' hb5))
        go_ret
        exact ⟨rfl, b5, h5.more (by omega)⟩
    · rw [if_pos hd]
      have h8 := Shf.lay_8 hd
      generalize Dk.lay _ (.drop (f ++ newK)) = R at hdr h8 ⊢
      obtain ⟨e9, d9⟩ := R
      dsimp only at hdr h8 ⊢
      subst h8
      clear h hd h0
      go_enter Tryd.func31, Tryd.ntmps31
      go_wp2_with (first
        | (go_at_call 47; refine (hp _).mono ?_; rintro _ w2 ⟨rfl, hb2⟩; have h2 := H.out.1.below hb2; have b2 : Mem.Ch S w w2 := Mem.Ch.of_below' hb2)
        | (go_at_call 18; refine (hrd _ h2).mono ?_; rintro _ w3 ⟨⟨xr, rfl⟩, hb3⟩; have h3 := h2.below hb3; have b3 := b2.trans' (Mem.Ch.of_below' hb3))
        | (go_at_call 48; refine (hdr _ b3.size h3).mono ?_; rintro _ w4 ⟨rfl, hb4, h4⟩; have b4 := b3.trans' hb4))
      go_ret
      exact ⟨rfl, b4, h4.more (by omega)⟩
  · rw [if_neg h0]
    have h04 : d.there (f ++ newK) = 4 := by
      unfold Dk.there at h0 ⊢
      rw [if_neg (by rw [hu.up]; decide), if_pos hn] at h0 ⊢
      split
      · rename_i hh; rw [if_pos hh] at h0; exact absurd rfl h0
      · rfl
    rw [h04] at hrd
    clear h h0 h04
    have hok : (Chg.put (f ++ newK) (Crc.packB t) 0).ok (d).now := ⟨new_size hf, Nat.zero_le _, by rw [Crc.packB_size]; omega⟩
    have hux := H.out.2
    have hpt := st_put (S := S) (p := p) (N := N + 0) (w := w) hux hf hn (pk := Crc.packB t) (by rw [Crc.packB_size]; omega) (by omega) hS
    unfold Shf.tailD
    by_cases h1 : ((d).lay (.put (f ++ newK) (Crc.packB t) 0)).1 = 0
    · rw [if_neg (fun hh => hh h1)]
      rw [h1, Shf.lay_up h1] at hpt
      have hmv := fun W hW hD => st_move (S := S) (p := p) (N := N + 1) (w := w) hux hf hn hnf (by omega) hS W hW hD hok
      by_cases h2 : (((d).push (.put (f ++ newK) (Crc.packB t) 0)).lay (.move (f ++ newK) f)).1 = 0
      · rw [if_neg (fun hh => hh h2)]
        rw [h2, Shf.lay_up h2] at hmv
        have hsy := st_sync (S := S) (p := p) (N := N + 2) (w := w) ((hux.push hok).push (c := .move (f ++ newK) f) ⟨new_size hf, by unfold maxLen; omega⟩).inv (by omega) hS
        generalize Dk.sync _ = R at hsy ⊢
        have HH := Lib.hid (And.intro h1 h2)
        clear h1 h2 hok hux
        go_enter Tryd.func31, Tryd.ntmps31
        go_wp2_with (first
          | (go_at_call 47; refine (hp _).mono ?_; rintro _ w2 ⟨rfl, hb2⟩; have h2 := H.out.1.below hb2; have b2 : Mem.Ch S w w2 := Mem.Ch.of_below' hb2)
          | (go_at_call 18; refine (hrd _ h2).mono ?_; rintro _ w3 ⟨⟨xr, rfl⟩, hb3⟩; have h3 := h2.below hb3; have b3 := b2.trans' (Mem.Ch.of_below' hb3))
          | (go_at_call 49; refine (hpt _ b3.size h3).mono ?_; rintro _ w5 ⟨rfl, hb5, h5⟩; have b5 := b3.trans' hb5)
          | (go_at_call 51; refine (hmv _ b5.size h5).mono ?_; rintro _ w6 ⟨rfl, hb6, h6⟩; have b6 := b5.trans' hb6)
          | (go_at_call 50; refine (hsy _ b6.size h6).mono ?_; rintro _ w7 ⟨rfl, hb7, h7⟩; have b7 := b6.trans' hb7))
        go_ret
        exact ⟨rfl, b7, h7.more (by omega)⟩
      · rw [if_pos h2]
        have h8 := Shf.lay_8 h2
        generalize Dk.lay _ (.move (f ++ newK) f) = R at hmv h8 ⊢
        obtain ⟨e9, d9⟩ := R
        dsimp only at hmv h8 ⊢
        subst h8
        clear h2 hok hux
        go_enter Tryd.func31, Tryd.ntmps31
        go_wp2_with (first
          | (go_at_call 47; refine (hp _).mono ?_; rintro _ w2 ⟨rfl, hb2⟩; have h2 := H.out.1.below hb2; have b2 : Mem.Ch S w w2 := Mem.Ch.of_below' hb2)
          | (go_at_call 18; refine (hrd _ h2).mono ?_; rintro _ w3 ⟨⟨xr, rfl⟩, hb3⟩; have h3 := h2.below hb3; have b3 := b2.trans' (Mem.Ch.of_below' hb3))
          | (go_at_call 49; refine (hpt _ b3.size h3).mono ?_; rintro _ w5 ⟨rfl, hb5, h5⟩; have b5 := b3.trans' hb5)
          | (go_at_call 51; refine (hmv _ b5.size h5).mono ?_; rintro _ w6 ⟨rfl, hb6, h6⟩; have b6 := b5.trans' hb6))
        go_ret
        exact ⟨rfl, b6, h6.more (by omega)⟩
    · rw [if_pos h1]
      have h8 := Shf.lay_8 h1
      generalize Dk.lay _ (.put (f ++ newK) (Crc.packB t) 0) = R at hpt h8 ⊢
      obtain ⟨e9, d9⟩ := R
      dsimp only at hpt h8 ⊢
      subst h8
      clear h1 hok hux
      go_enter Tryd.func31, Tryd.ntmps31
      go_wp2_with (first
        | (go_at_call 47; refine (hp _).mono ?_; rintro _ w2 ⟨rfl, hb2⟩; have h2 := H.out.1.below hb2; have b2 : Mem.Ch S w w2 := Mem.Ch.of_below' hb2)
        | (go_at_call 18; refine (hrd _ h2).mono ?_; rintro _ w3 ⟨⟨xr, rfl⟩, hb3⟩; have h3 := h2.below hb3; have b3 := b2.trans' (Mem.Ch.of_below' hb3))
        | (go_at_call 49; refine (hpt _ b3.size h3).mono ?_; rintro _ w5 ⟨rfl, hb5, h5⟩; have b5 := b3.trans' hb5))
      go_ret
      exact ⟨rfl, b5, h5.more (by omega)⟩
end Go.Proofs.YtbpnhaeladcbnaaDoor
