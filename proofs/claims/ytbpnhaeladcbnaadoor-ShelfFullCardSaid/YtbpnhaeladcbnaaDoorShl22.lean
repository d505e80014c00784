/- shelf: saving a vote or a snapshot, with room or without (printed by tools/gen_two.py). -/
import Derived.Test.YtbpnhaeladcbnaaDoorShl21
import Derived.Test.YtbpnhaeladcbnaaDoorShl19
namespace Go.Proofs.YtbpnhaeladcbnaaDoor
open Go.RowKit
set_option linter.unusedSimpArgs false
set_option linter.unusedVariables false
open Dsk (DiskAt Dk nameP FM Off)
open Shf
set_option maxRecDepth 100000 in
set_option maxHeartbeats 2000000 in
theorem saveV_tw (p : Nat) (v : Vt) (t : ByteArray) (Q : Int → World → World → Prop) (hi : IsI64 v.to) (hv : v.text = (t, 0)) (w : World)
    (hs : ∀ W, Below w.heap.size w W → Calls Tryd.prog 31 #[.pointer (some ⟨p, 0, none⟩), .string ⟨#[118, 111, 116, 101]⟩, .string t] W fun r w' => ∃ e : Int, r = .returned (.int .i64 e) ∧ Q e W w') :
    Calls Tryd.prog 21 #[.pointer (some ⟨p, 0, none⟩), v.val] w fun r w' => ∃ e : Int, r = .returned (.int .i64 e) ∧ ∃ W, Below w.heap.size w W ∧ Q e W w' := by
  have ht := fun W => textV_any v W hi
  rw [hv] at ht
  clear hv
  obtain ⟨a, b⟩ := v
  unfold Vt.val at ht ⊢
  dsimp only at ht ⊢
  have hb0 : Below w.heap.size w (w.alloc (.cells #[.int .i64 a, .int .i64 b] 26)) := (Below.refl _ w).alloc (Nat.le_refl _) _
  go_enter Tryd.func21, Tryd.ntmps21
  go_wp2_with (first
    | (go_at_call 30; refine (ht _).mono ?_; rintro _ w2 ⟨rfl, hb2⟩; have hbW := hb0.trans (hb2.mono (by simp)))
    | (go_at_call 31; refine (hs _ hbW).mono ?_; rintro _ w3 ⟨e3, rfl, hQ⟩))
  go_ret
  exact ⟨e3, rfl, _, hbW, hQ⟩
theorem saveV_two (S : Nat → Prop) (p N : Nat) (d : Dk) (v : Vt) (hi : IsI64 v.to) (hv : v.ok) (w : World) (hS : ∀ k, w.heap.size ≤ k → S k) (h : DiskAt w S p N d) (hu : Shf.Calm d) (hg : d.now (voteK ++ newK) = none) (hN : N < 900000000) :
    Calls Tryd.prog 21 #[.pointer (some ⟨p, 0, none⟩), v.val] w fun r w' => ∃ e : Int, r = .returned (.int .i64 e) ∧ ((e = 0 ∧ Mem.Ch S w w' ∧ DiskAt w' S p (N + 4) (Shf.fin d voteK (Crc.packB v.text.1))) ∨ (e = 7 ∧ 0 ≤ d.room ∧ Below w.heap.size w w')) := by
  have hz : v.text.1.size ≤ 1048576 := by have := text_small v hi hv; omega
  have e : v.text = (v.text.1, 0) := by
    have : v.text.2 = 0 := by unfold Vt.text; rw [if_pos hv]
    rw [← this]
  refine (saveV_tw p v v.text.1 (fun e W w' => (e = 0 ∧ Mem.Ch S W w' ∧ DiskAt w' S p (N + 4) (Shf.fin d voteK (Crc.packB v.text.1))) ∨ (e = 7 ∧ 0 ≤ d.room ∧ Below W.heap.size W w')) hi e w (fun W hW => ?_)).mono ?_
  · exact save_two S p N d _ _ W (fun k hk => hS k (Nat.le_trans hW.size hk)) (h.below hW) hu hg (by decide) (by decide +kernel) (by decide +kernel) hz hN
  · rintro _ w' ⟨e, rfl, W', hb, h1⟩
    rcases h1 with ⟨h1, h2, h3⟩ | ⟨h1, h2, h3⟩
    · exact ⟨e, rfl, .inl ⟨h1, (Mem.Ch.of_below' hb).trans' h2, h3⟩⟩
    · exact ⟨e, rfl, .inr ⟨h1, h2, hb.trans (h3.mono hb.size)⟩⟩
set_option maxRecDepth 100000 in
set_option maxHeartbeats 2000000 in
theorem saveS_tw (p : Nat) (v : Sn) (t : ByteArray) (Q : Int → World → World → Prop) (hv : v.wrote = (t, 0)) (w : World)
    (hs : ∀ W, Below w.heap.size w W → Calls Tryd.prog 31 #[.pointer (some ⟨p, 0, none⟩), .string ⟨#[115, 110, 97, 112]⟩, .string t] W fun r w' => ∃ e : Int, r = .returned (.int .i64 e) ∧ Q e W w') :
    Calls Tryd.prog 22 #[.pointer (some ⟨p, 0, none⟩), v.val] w fun r w' => ∃ e : Int, r = .returned (.int .i64 e) ∧ ∃ W, Below w.heap.size w W ∧ Q e W w' := by
  have ht := fun W => textS_any v W trivial
  rw [hv] at ht
  clear hv
  obtain ⟨a, b, c, d⟩ := v
  unfold Sn.val at ht ⊢
  dsimp only at ht ⊢
  have hb0 : Below w.heap.size w (w.alloc (.cells #[.int .i64 a, .int .i64 b, .int .i64 c, .string d] 28)) := (Below.refl _ w).alloc (Nat.le_refl _) _
  go_enter Tryd.func22, Tryd.ntmps22
  go_wp2_with (first
    | (go_at_call 32; refine (ht _).mono ?_; rintro _ w2 ⟨rfl, hb2⟩; have hbW := hb0.trans (hb2.mono (by simp)))
    | (go_at_call 31; refine (hs _ hbW).mono ?_; rintro _ w3 ⟨e3, rfl, hQ⟩))
  go_ret
  exact ⟨e3, rfl, _, hbW, hQ⟩
theorem saveS_two (S : Nat → Prop) (p N : Nat) (d : Dk) (v : Sn) (hv : v.ok) (w : World) (hS : ∀ k, w.heap.size ≤ k → S k) (h : DiskAt w S p N d) (hu : Shf.Calm d) (hg : d.now (snapK ++ newK) = none) (hN : N < 900000000) :
    Calls Tryd.prog 22 #[.pointer (some ⟨p, 0, none⟩), v.val] w fun r w' => ∃ e : Int, r = .returned (.int .i64 e) ∧ ((e = 0 ∧ Mem.Ch S w w' ∧ DiskAt w' S p (N + 4) (Shf.fin d snapK (Crc.packB v.wrote.1))) ∨ (e = 7 ∧ 0 ≤ d.room ∧ Below w.heap.size w w')) := by
  have hz : v.wrote.1.size ≤ 1048576 := by have := wrote_small v hv; omega
  have e : v.wrote = (v.wrote.1, 0) := by
    have : v.wrote.2 = 0 := by unfold Sn.wrote; rw [if_pos hv]
    rw [← this]
  refine (saveS_tw p v v.wrote.1 (fun e W w' => (e = 0 ∧ Mem.Ch S W w' ∧ DiskAt w' S p (N + 4) (Shf.fin d snapK (Crc.packB v.wrote.1))) ∨ (e = 7 ∧ 0 ≤ d.room ∧ Below W.heap.size W w')) e w (fun W hW => ?_)).mono ?_
  · exact save_two S p N d _ _ W (fun k hk => hS k (Nat.le_trans hW.size hk)) (h.below hW) hu hg (by decide) (by decide +kernel) (by decide +kernel) hz hN
  · rintro _ w' ⟨e, rfl, W', hb, h1⟩
    rcases h1 with ⟨h1, h2, h3⟩ | ⟨h1, h2, h3⟩
    · exact ⟨e, rfl, .inl ⟨h1, (Mem.Ch.of_below' hb).trans' h2, h3⟩⟩
    · exact ⟨e, rfl, .inr ⟨h1, h2, hb.trans (h3.mono hb.size)⟩⟩
def Sv.full (x : Sv) (d : Dk) : Dk := if x.snap then Shf.fin d snapK (Crc.packB x.s.wrote.1) else Shf.fin d voteK (Crc.packB x.v.text.1)
/-- No file of the other names is there. -/
structure Shf.Bare (F : FM) : Prop where
  v : F (voteK ++ newK) = none
  s : F (snapK ++ newK) = none
theorem Sv.full_room (x : Sv) (d : Dk) : (x.full d).room = d.room := by unfold Sv.full; split <;> rfl
theorem step_full {d : Dk} {x : Sv} {v : Vt} {s : Sn} {is : Bool} (hu : Shf.Calm d) (hb : Shf.Bare d.now) (h1 : VoteIn d.now v) (h2 : SnapIn d.now s is) (hi : IsI64 x.v.to) (hx : x.ok) :
    Shf.Calm (x.full d) ∧ Shf.Bare (x.full d).now ∧ VoteIn (x.full d).now (if x.snap then v else x.v) ∧ SnapIn (x.full d).now (if x.snap then x.s else s) (if x.snap then true else is) := by
  obtain ⟨b, xv, xs⟩ := x
  rcases hx with ⟨hbb, hok⟩ | ⟨hbb, hok⟩
  · dsimp only at hbb hok hi
    subst hbb
    have hz := text_small xv hi hok
    have e : (Sv.mk false xv xs).full d = Shf.fin d voteK (Crc.packB xv.text.1) := by unfold Sv.full; rw [if_neg (by show ¬ (false = true); decide)]
    rw [e]
    refine ⟨hu.fin (by decide) (by rw [Crc.packB_size]; omega), ⟨?_, ?_⟩, .inr ⟨hok, fin_f hb.v⟩, h2.eq (fin_rest hb.v (by decide +kernel))⟩
    · rw [fin_rest hb.v (by decide +kernel)]; exact hb.v
    · rw [fin_rest hb.v (by decide +kernel)]; exact hb.s
  · dsimp only at hbb hok hi
    subst hbb
    have hz := wrote_small xs hok
    have e : (Sv.mk true xv xs).full d = Shf.fin d snapK (Crc.packB xs.wrote.1) := by unfold Sv.full; rw [if_pos rfl]
    rw [e]
    refine ⟨hu.fin (by decide) (by rw [Crc.packB_size]; omega), ⟨?_, ?_⟩, h1.eq (fin_rest hb.s (by decide +kernel)), .inr ⟨hok, fin_f hb.s, rfl⟩⟩
    · rw [fin_rest hb.s (by decide +kernel)]; exact hb.v
    · rw [fin_rest hb.s (by decide +kernel)]; exact hb.s
set_option maxRecDepth 100000 in
set_option maxHeartbeats 4000000 in
theorem lsave_two (S : Nat → Prop) (p N : Nat) (d : Dk) (x : Sv) (hi : IsI64 x.v.to) (hx : x.ok) (w : World) (hS : ∀ k, w.heap.size ≤ k → S k) (h : DiskAt w S p N d) (hu : Shf.Calm d) (hb : Shf.Bare d.now) (hN : N < 900000000) :
    Calls Tryd.prog 8 #[.pointer (some ⟨p, 0, none⟩), x.val] w fun r w' => ∃ e : Int, r = .returned (.int .i64 e) ∧ ((e = 0 ∧ Mem.Ch S w w' ∧ DiskAt w' S p (N + 4) (x.full d)) ∨ (e = 7 ∧ 0 ≤ d.room ∧ Below w.heap.size w w')) := by
  obtain ⟨b, v, s⟩ := x
  have hV := fun (hv : v.ok) W (hS : ∀ k, W.heap.size ≤ k → S k) (h : DiskAt W S p N d) => saveV_two S p N d v hi hv W hS h hu hb.v hN
  have hP := fun (hv : s.ok) W (hS : ∀ k, W.heap.size ≤ k → S k) (h : DiskAt W S p N d) => saveS_two S p N d s hv W hS h hu hb.s hN
  unfold Sv.val Sv.full
  dsimp only
  have hb0 : Below w.heap.size w (w.alloc (.cells #[.bool b, .int .i64 v.term, .int .i64 v.to, .int .i64 s.index, .int .i64 s.term, .int .i64 s.mask, .string s.text] 32)) := (Below.refl _ w).alloc (Nat.le_refl _) _
  have h0 := h.below hb0
  have hS0 : ∀ k, (w.alloc (.cells #[.bool b, .int .i64 v.term, .int .i64 v.to, .int .i64 s.index, .int .i64 s.term, .int .i64 s.mask, .string s.text] 32)).heap.size ≤ k → S k := fun k hk => hS k (Nat.le_trans hb0.size hk)
  rcases hx with ⟨h1, h2⟩ | ⟨h1, h2⟩
  · dsimp only at h1
    subst h1
    have hc := hV h2 _ hS0 h0
    rw [if_neg (by decide)]
    generalize Shf.fin d voteK (Crc.packB v.text.1) = R at hc ⊢
    unfold Vt.val at hc
    clear hV hP h2
    go_enter Tryd.func8, Tryd.ntmps8
    go_wp2_with (go_at_call 21; refine hc.mono ?_; rintro _ w2 ⟨e, rfl, h3⟩)
    go_ret
    rcases h3 with ⟨h3, h4, h5⟩ | ⟨h3, h4, h5⟩
    · exact ⟨e, rfl, .inl ⟨h3, (Mem.Ch.of_below' hb0).trans' h4, h5⟩⟩
    · exact ⟨e, rfl, .inr ⟨h3, h4, hb0.trans (h5.mono hb0.size)⟩⟩
  · dsimp only at h1
    subst h1
    have hc := hP h2 _ hS0 h0
    rw [if_pos rfl]
    generalize Shf.fin d snapK (Crc.packB s.wrote.1) = R at hc ⊢
    unfold Sn.val at hc
    clear hV hP h2
    go_enter Tryd.func8, Tryd.ntmps8
    go_wp2_with (go_at_call 22; refine hc.mono ?_; rintro _ w2 ⟨e, rfl, h3⟩)
    go_ret
    rcases h3 with ⟨h3, h4, h5⟩ | ⟨h3, h4, h5⟩
    · exact ⟨e, rfl, .inl ⟨h3, (Mem.Ch.of_below' hb0).trans' h4, h5⟩⟩
    · exact ⟨e, rfl, .inr ⟨h3, h4, hb0.trans (h5.mono hb0.size)⟩⟩
set_option maxRecDepth 100000 in
set_option maxHeartbeats 2000000 in
theorem Waits_up (S : Nat → Prop) (p N : Nat) (d : Dk) (w : World) (h : DiskAt w S p N d) (hd : d.down = false) : Calls Tryd.prog 17 #[.pointer (some ⟨p, 0, none⟩)] w fun r w' => r = .returned (.int .i64 d.row.length) ∧ w' = w := by
  obtain ⟨bs, bn, v, h⟩ := h
  have hr := Dsk.ready_any S p N d bs bn v w h
  rw [hd, if_neg (by decide)] at hr
  have c2 := h.c2
  have hl := h.row
  clear h
  rcases hl.2 with ⟨rfl, h0⟩ | ⟨g, cap, cur, rfl, _⟩
  · have h00 : (d.row.length : Int) = 0 := by omega
    rw [h00]
    clear hl
    go_enter Tryd.func17, Tryd.ntmps17
    go_wp2_with (go_at_call 23; refine hr.mono ?_; rintro _ w1 ⟨rfl, rfl⟩)
    go_ret
    exact ⟨rfl, rfl⟩
  · clear hl
    go_enter Tryd.func17, Tryd.ntmps17
    go_wp2_with (go_at_call 23; refine hr.mono ?_; rintro _ w1 ⟨rfl, rfl⟩)
    go_ret
    exact ⟨rfl, rfl⟩
/-- What holds in a round's midst: the vote in block M, the snapshot in block M + 1, the saving in block q. -/
structure Mid (w W : World) (p M q N : Nat) (d : Dk) (v : Vt) (s : Sn) (x : Sv) : Prop where
  bel : Below w.heap.size w W
  V : W.heap[M]? = some (.cells #[.int .i64 v.term, .int .i64 v.to] 26 (0, 0))
  S : W.heap[M + 1]? = some (.cells #[.int .i64 s.index, .int .i64 s.term, .int .i64 s.mask, .string s.text] 28 (0, 0))
  X : W.heap[q]? = some (.cells #[.bool x.snap, .int .i64 x.v.term, .int .i64 x.v.to, .int .i64 x.s.index, .int .i64 x.s.term, .int .i64 x.s.mask, .string x.s.text] 32 (0, 0))
  D : DiskAt W (Of w.heap.size M q) p N d
theorem not_off0 {B M : Nat} : ¬ Off B M (M + 2) M := fun h => by rcases h.2 with h | h <;> omega
theorem not_off1 {B M : Nat} : ¬ Off B M (M + 2) (M + 1) := fun h => by rcases h.2 with h | h <;> omega
theorem not_of0 {B M q : Nat} : ¬ Of B M q M := fun h => not_off0 h.1
theorem not_of1 {B M q : Nat} : ¬ Of B M q (M + 1) := fun h => not_off1 h.1
theorem not_ofq {B M q : Nat} : ¬ Of B M q q := fun h => h.2 rfl
theorem ch_in {B M q : Nat} {W W' : World} (h : Mem.Ch (Of B M q) W W') (hB : B ≤ W.heap.size) : Below B W W' := h.below (fun k hk hS => absurd hS.1.1 (by omega)) hB
theorem DiskAt_set {W : World} {S : Nat → Prop} {p N g j : Nat} {d : Dk} {u : Value} (h : DiskAt W S p N d) (hg : ¬ S g) : DiskAt (W.setCell ⟨g, j, none⟩ u) S p N d :=
  h.step (by simp [World.setCell]) (fun k hk _ => Below.heap_setCell W ⟨g, j, none⟩ u k (by rintro rfl; exact hg hk)) (fun _ h => h)
theorem bel_set {w W : World} {g j : Nat} {u : Value} (h : Below w.heap.size w W) (hg : w.heap.size ≤ g) : Below w.heap.size w (W.setCell ⟨g, j, none⟩ u) := Mem.Ch.below (S := fun k => w.heap.size ≤ k) ((Mem.Ch.of_below h).set (.inr hg)) (fun k hk hS => absurd hk (by omega)) (Nat.le_refl _)
namespace Mid
variable {w W W' : World} {p M q N N' : Nat} {d d' : Dk} {v v' : Vt} {s s' : Sn} {x : Sv}
theorem on (h : Mid w W p M q N d v s x) (hb : Below W.heap.size W W') : Mid w W' p M q N d v s x :=
  ⟨h.bel.trans (hb.mono h.bel.size), (hb.block _ (Mem.lt h.V)).trans h.V, (hb.block _ (Mem.lt h.S)).trans h.S, (hb.block _ (Mem.lt h.X)).trans h.X, h.D.below hb⟩
theorem ch (h : Mid w W p M q N d v s x) (hc : Mem.Ch (Of w.heap.size M q) W W') (hD : DiskAt W' (Of w.heap.size M q) p N' d') : Mid w W' p M q N' d' v s x :=
  ⟨h.bel.trans (ch_in hc h.bel.size), hc.at_ h.V not_of0, hc.at_ h.S not_of1, hc.at_ h.X not_ofq, hD⟩
theorem more (h : Mid w W p M q N d v s x) (hN : N ≤ N') : Mid w W p M q N' d v s x := { h with D := h.D.more hN }
theorem setV (h : Mid w W p M q N d v s x) (hM : w.heap.size ≤ M) (hq : M + 2 ≤ q) : Mid w ((W.setCell ⟨M, 0, none⟩ (.int .i64 v'.term)).setCell ⟨M, 1, none⟩ (.int .i64 v'.to)) p M q N d v' s x :=
  ⟨bel_set (bel_set h.bel hM) hM, Mem.set (j := 1) (u := .int .i64 v'.to) (Mem.set (j := 0) (u := .int .i64 v'.term) h.V), Mem.set_ne (Mem.set_ne h.S (by omega)) (by omega), Mem.set_ne (Mem.set_ne h.X (by omega)) (by omega), DiskAt_set (DiskAt_set h.D not_of0) not_of0⟩
theorem setS (h : Mid w W p M q N d v s x) (hM : w.heap.size ≤ M) (hq : M + 2 ≤ q) : Mid w ((((W.setCell ⟨M + 1, 0, none⟩ (.int .i64 s'.index)).setCell ⟨M + 1, 1, none⟩ (.int .i64 s'.term)).setCell ⟨M + 1, 2, none⟩ (.int .i64 s'.mask)).setCell ⟨M + 1, 3, none⟩ (.string s'.text)) p M q N d v s' x :=
  ⟨bel_set (bel_set (bel_set (bel_set h.bel (by omega)) (by omega)) (by omega)) (by omega), Mem.set_ne (Mem.set_ne (Mem.set_ne (Mem.set_ne h.V (by omega)) (by omega)) (by omega)) (by omega), Mem.set (j := 3) (u := .string s'.text) (Mem.set (j := 2) (u := .int .i64 s'.mask) (Mem.set (j := 1) (u := .int .i64 s'.term) (Mem.set (j := 0) (u := .int .i64 s'.index) h.S))), Mem.set_ne (Mem.set_ne (Mem.set_ne (Mem.set_ne h.X (by omega)) (by omega)) (by omega)) (by omega), DiskAt_set (DiskAt_set (DiskAt_set (DiskAt_set h.D not_of1) not_of1) not_of1) not_of1⟩
theorem room (h : Mid w W p M q N d v s x) (n : Int) : Calls Tryd.prog 15 #[.pointer (some ⟨p, 0, none⟩), .int .i64 n] W fun r w' => r = .returned (.tuple #[]) ∧ Mid w w' p M q N { d with room := max n (-1) } v s x := by
  refine (Dsk.Room_any _ p N d n W h.D).mono ?_
  rintro _ w' ⟨rfl, hc, hD⟩
  exact ⟨rfl, h.ch hc hD⟩
theorem used (h : Mid w W p M q N d v s x) (hd : d.down = false) : Calls Tryd.prog 16 #[.pointer (some ⟨p, 0, none⟩)] W fun r w' => ∃ n, r = .returned (.int .i64 n) ∧ Mid w w' p M q N d v s x := by
  refine (Dsk.Used_some _ p N d W h.D hd).mono ?_
  rintro _ w' ⟨n, rfl, hb⟩
  exact ⟨n, rfl, h.on hb⟩
theorem waits (h : Mid w W p M q N d v s x) (hd : d.down = false) (hr : d.row = []) : Calls Tryd.prog 17 #[.pointer (some ⟨p, 0, none⟩)] W fun r w' => r = .returned (.int .i64 0) ∧ w' = W := by
  refine (Waits_up _ p N d W h.D hd).mono ?_
  rw [hr]
  rintro _ w' ⟨rfl, rfl⟩
  exact ⟨rfl, rfl⟩
theorem noNew (h : Mid w W p M q N d v s x) (hd : d.down = false) {f : ByteArray} (hf : f.size ≤ 1000) (hn : nameP (f ++ newK) = true) (hg : d.now (f ++ newK) = none) : Calls Tryd.prog 18 #[.pointer (some ⟨p, 0, none⟩), .string (f ++ newK)] W fun r w' => (∃ x, r = .returned (.tuple #[.string x, .int .i64 4])) ∧ Mid w w' p M q N d v s x := by
  refine (Dsk.Read_any _ p N d (f ++ newK) W h.D (new_size hf)).mono ?_
  rw [there_none hd hn hg]
  rintro _ w' ⟨rfl, hb⟩
  exact ⟨⟨_, rfl⟩, h.on hb⟩
theorem save (h : Mid w W p M q N d v s x) (hi : IsI64 x.v.to) (hx : x.ok) (hu : Shf.Calm d) (hb : Shf.Bare d.now) (hN : N < 900000000) (hM : w.heap.size ≤ M) (hq : M + 2 ≤ q) :
    Calls Tryd.prog 8 #[.pointer (some ⟨p, 0, none⟩), x.val] W fun r w' => ∃ e : Int, r = .returned (.int .i64 e) ∧ ((e = 0 ∧ Mid w w' p M q (N + 4) (x.full d) v s x) ∨ (e = 7 ∧ 0 ≤ d.room ∧ Mid w w' p M q N d v s x)) := by
  have hl := Mem.lt h.X
  refine (lsave_two _ p N d x hi hx W (fun k hk => ⟨⟨by omega, .inr (by omega)⟩, by omega⟩) h.D hu hb hN).mono ?_
  rintro _ w' ⟨e, rfl, h1⟩
  rcases h1 with ⟨h1, h2, h3⟩ | ⟨h1, h2, h3⟩
  · exact ⟨e, rfl, .inl ⟨h1, h.ch h2 h3⟩⟩
  · exact ⟨e, rfl, .inr ⟨h1, h2, h.on h3⟩⟩
theorem saveBad (h : Mid w W p M q N d v s x) (hi : IsI64 x.v.to) (hx : ¬ x.ok) : Calls Tryd.prog 8 #[.pointer (some ⟨p, 0, none⟩), x.val] W fun r w' => r = .returned (.int .i64 1) ∧ Mid w w' p M q N d v s x := by
  refine (lsave_bad p x hi hx W).mono ?_
  rintro _ w' ⟨rfl, hb⟩
  exact ⟨rfl, h.on hb⟩
theorem loads (h : Mid w W p M q N d v s x) (hd : d.down = false) {is : Bool} (hv : VoteIn d.now v) (hs : SnapIn d.now s is) : Calls Tryd.prog 13 #[.pointer (some ⟨p, 0, none⟩), v.val, s.val, .bool is] W fun r w' => r = .returned (.bool true) ∧ Mid w w' p M q N d v s x := by
  refine (loads_yes _ p N d W h.D hd v s is hv hs).mono ?_
  rintro _ w' ⟨rfl, hb⟩
  exact ⟨rfl, h.on hb⟩
end Mid
end Go.Proofs.YtbpnhaeladcbnaaDoor
