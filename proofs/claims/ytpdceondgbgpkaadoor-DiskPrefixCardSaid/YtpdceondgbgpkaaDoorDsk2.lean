/- disk: a disk as the program holds it; its small functions. -/
import Derived.Test.YtpdceondgbgpkaaDoorDsk1
namespace Go.Proofs.YtpdceondgbgpkaaDoor.Dsk
open Go.RowKit Go.Maps
set_option linter.unusedSimpArgs false
set_option linter.unusedVariables false
def cellsOf (d : Dk) (bs bn : Nat) (v : Value) : Array Value := #[.map (some bs), .map (some bn), v, .int .i64 d.room, .int .i64 d.calls, .int .i64 d.after, .int .i64 d.keep, .bool d.down]
/-- Block p is a disk; its blocks are of S; at most N entries. -/
structure At (w : World) (S : Nat → Prop) (p N : Nat) (d : Dk) (bs bn : Nat) (v : Value) : Prop where
  blk : w.heap[p]? = some (.cells (cellsOf d bs bn v) 43 (0, 0))
  sure : ∃ m, Own w bs m d.sure ∧ m + d.row.length ≤ N
  now : Own w bn N d.now
  row : w.ownsRow 0 57 1 v d.row.length (d.row.map Chg.val)
  sp : S p
  ss : S bs
  sn : S bn
  sr : ∀ k, v.ownBlock = some k → S k
  ne : bn ≠ bs
def DiskAt (w : World) (S : Nat → Prop) (p N : Nat) (d : Dk) : Prop := ∃ bs bn v, At w S p N d bs bn v
theorem Own.isMap {w : World} {b n : Nat} {F : FM} (h : Own w b n F) : ∃ es c, w.heap[b]? = some (.map es c) := by obtain ⟨D, ⟨es, c, h, _⟩, _⟩ := h; exact ⟨es, c, h⟩
theorem Own.ne_cells {w : World} {b n g t : Nat} {F : FM} {c : Array Value} (h : Own w b n F) (hg : w.heap[g]? = some (.cells c t (0, 0))) : g ≠ b := by
  rintro rfl
  obtain ⟨es, k, h⟩ := h.isMap
  rw [h] at hg
  cases hg
theorem row_cells {w : World} {base e size n : Nat} {v : Value} {xs : List Value} (h : w.ownsRow base e size v n xs) (k : Nat) (hk : v.ownBlock = some k) : ∃ c, w.heap[k]? = some (.cells c e (0, 0)) := by
  rcases h.2 with ⟨rfl, _⟩ | ⟨g, cap, cur, rfl, hg, hh, _⟩
  · simp [Value.ownBlock] at hk
  · have : g = k := by simpa [Value.ownBlock] using hk
    subst this
    exact ⟨cur, hh⟩
theorem own_stay {w w1 : World} {base e size n : Nat} {v : Value} {xs : List Value} (h : w.ownsRow base e size v n xs) (hm : ∀ k, v.ownBlock = some k → w1.heap[k]? = w.heap[k]?) : w1.ownsRow base e size v n xs := by
  obtain ⟨h1, h2⟩ := h
  refine ⟨h1, ?_⟩
  rcases h2 with ⟨rfl, h0⟩ | ⟨g, cap, cur, rfl, hg, hb, r⟩
  · exact .inl ⟨rfl, h0⟩
  · exact .inr ⟨g, cap, cur, rfl, hg, (hm g rfl).trans hb, r⟩
namespace At
variable {w w1 : World} {S S' : Nat → Prop} {p N bs bn : Nat} {d d' : Dk} {v : Value}
theorem c0 (h : At w S p N d bs bn v) : w.cell? ⟨p, 0, none⟩ = some (.map (some bs)) := Mem.cell h.blk rfl
theorem c1 (h : At w S p N d bs bn v) : w.cell? ⟨p, 1, none⟩ = some (.map (some bn)) := Mem.cell h.blk rfl
theorem c2 (h : At w S p N d bs bn v) : w.cell? ⟨p, 2, none⟩ = some v := Mem.cell h.blk rfl
theorem c3 (h : At w S p N d bs bn v) : w.cell? ⟨p, 3, none⟩ = some (.int .i64 d.room) := Mem.cell h.blk rfl
theorem c4 (h : At w S p N d bs bn v) : w.cell? ⟨p, 4, none⟩ = some (.int .i64 d.calls) := Mem.cell h.blk rfl
theorem c5 (h : At w S p N d bs bn v) : w.cell? ⟨p, 5, none⟩ = some (.int .i64 d.after) := Mem.cell h.blk rfl
theorem c6 (h : At w S p N d bs bn v) : w.cell? ⟨p, 6, none⟩ = some (.int .i64 d.keep) := Mem.cell h.blk rfl
theorem c7 (h : At w S p N d bs bn v) : w.cell? ⟨p, 7, none⟩ = some (.bool d.down) := Mem.cell h.blk rfl
theorem fr (h : At w S p N d bs bn v) (j : Nat) : w.frozen? ⟨p, j, none⟩ = false := Mem.free h.blk
theorem pS (h : At w S p N d bs bn v) : p ≠ bs := by obtain ⟨m, h1, _⟩ := h.sure; exact h1.ne_cells h.blk
theorem pN (h : At w S p N d bs bn v) : p ≠ bn := h.now.ne_cells h.blk
theorem rP (h : At w S p N d bs bn v) (k : Nat) (hk : v.ownBlock = some k) : k ≠ p := by
  rintro rfl
  obtain ⟨c, hc⟩ := row_cells h.row k hk
  have := h.blk
  rw [hc] at this
  injection this with this
  injection this with _ this
  exact absurd this (by decide)
theorem rS (h : At w S p N d bs bn v) (k : Nat) (hk : v.ownBlock = some k) : k ≠ bs := by obtain ⟨m, h1, _⟩ := h.sure; obtain ⟨c, hc⟩ := row_cells h.row k hk; exact h1.ne_cells hc
theorem rN (h : At w S p N d bs bn v) (k : Nat) (hk : v.ownBlock = some k) : k ≠ bn := by obtain ⟨c, hc⟩ := row_cells h.row k hk; exact h.now.ne_cells hc
theorem step (h : At w S p N d bs bn v) (hs : w.heap.size ≤ w1.heap.size) (hm : ∀ k, S k → k < w.heap.size → w1.heap[k]? = w.heap[k]?) (hS : ∀ k, S k → S' k) : At w1 S' p N d bs bn v where
  blk := (hm p h.sp (Mem.lt h.blk)).trans h.blk
  sure := by obtain ⟨m, h1, h2⟩ := h.sure; exact ⟨m, h1.step (hm bs h.ss h1.lt), h2⟩
  now := h.now.step (hm bn h.sn h.now.lt)
  row := own_stay h.row (fun k hk => hm k (h.sr k hk) (by obtain ⟨c, hc⟩ := row_cells h.row k hk; exact Mem.lt hc))
  sp := hS _ h.sp
  ss := hS _ h.ss
  sn := hS _ h.sn
  sr k hk := hS _ (h.sr k hk)
  ne := h.ne
theorem below (h : At w S p N d bs bn v) (hb : Below w.heap.size w w1) : At w1 S p N d bs bn v := h.step hb.size (fun k _ hk => hb.block k hk) (fun _ h => h)
theorem more (h : At w S p N d bs bn v) {N' : Nat} (hn : N ≤ N') : At w S p N' d bs bn v := { h with sure := by obtain ⟨m, h1, h2⟩ := h.sure; exact ⟨m, h1, by omega⟩, now := h.now.mono hn }
/-- The disk's own block alone was turned: numbers in it. -/
theorem turn (h : At w S p N d bs bn v) (hp : w1.heap[p]? = some (.cells (cellsOf d' bs bn v) 43 (0, 0))) (ho : ∀ k, k ≠ p → w1.heap[k]? = w.heap[k]?) (e1 : d'.sure = d.sure) (e2 : d'.now = d.now) (e3 : d'.row = d.row) : At w1 S p N d' bs bn v where
  blk := hp
  sure := by obtain ⟨m, h1, h2⟩ := h.sure; exact ⟨m, by rw [e1]; exact h1.step (ho bs (Ne.symm h.pS)), by rw [e3]; exact h2⟩
  now := by rw [e2]; exact h.now.step (ho bn (Ne.symm h.pN))
  row := by rw [e3]; exact own_stay h.row (fun k hk => ho k (h.rP k hk))
  sp := h.sp
  ss := h.ss
  sn := h.sn
  sr := h.sr
  ne := h.ne
end At
namespace DiskAt
variable {w w1 : World} {S S' : Nat → Prop} {p N : Nat} {d : Dk}
theorem step (h : DiskAt w S p N d) (hs : w.heap.size ≤ w1.heap.size) (hm : ∀ k, S k → k < w.heap.size → w1.heap[k]? = w.heap[k]?) (hS : ∀ k, S k → S' k) : DiskAt w1 S' p N d := by
  obtain ⟨bs, bn, v, h⟩ := h
  exact ⟨bs, bn, v, h.step hs hm hS⟩
theorem below (h : DiskAt w S p N d) (hb : Below w.heap.size w w1) : DiskAt w1 S p N d := h.step hb.size (fun k _ hk => hb.block k hk) (fun _ h => h)
theorem mono (h : DiskAt w S p N d) (hS : ∀ k, S k → S' k) : DiskAt w S' p N d := h.step (Nat.le_refl _) (fun _ _ _ => rfl) hS
theorem more (h : DiskAt w S p N d) {N' : Nat} (hn : N ≤ N') : DiskAt w S p N' d := by
  obtain ⟨bs, bn, v, h⟩ := h
  exact ⟨bs, bn, v, h.more hn⟩
end DiskAt
set_option maxRecDepth 100000 in
set_option maxHeartbeats 2000000 in
theorem ready_any (S : Nat → Prop) (p N : Nat) (d : Dk) (bs bn : Nat) (v : Value) (w : World) (h : At w S p N d bs bn v) :
    Calls Tryd.prog 25 #[.pointer (some ⟨p, 0, none⟩)] w fun r w' => r = .returned (.int .i64 (if d.down then 8 else 0)) ∧ w' = w := by
  have c7 := h.c7
  clear h
  cases hd : d.down <;> rw [hd] at c7
  · go_enter Tryd.func25, Tryd.ntmps25
    go_wp2
    go_ret
    exact ⟨rfl, rfl⟩
  · go_enter Tryd.func25, Tryd.ntmps25
    go_wp2
    go_ret
    exact ⟨rfl, rfl⟩
set_option maxRecDepth 100000 in
set_option maxHeartbeats 2000000 in
theorem ready_nil (w : World) : Calls Tryd.prog 25 #[.pointer none] w fun r w' => r = .returned (.int .i64 1) ∧ w' = w := by
  go_enter Tryd.func25, Tryd.ntmps25
  go_wp2
  go_ret
  exact ⟨rfl, rfl⟩
set_option maxRecDepth 100000 in
set_option maxHeartbeats 2000000 in
theorem count_any (S : Nat → Prop) (p N : Nat) (d : Dk) (bs bn : Nat) (v : Value) (w : World) (h : At w S p N d bs bn v) :
    Calls Tryd.prog 33 #[.pointer (some ⟨p, 0, none⟩)] w fun r w' => r = .returned (.bool d.trips) ∧ Mem.Ch (fun k => k = p) w w' ∧ At w' S p N d.counted bs bn v := by
  have H := Lib.hid h
  have c4 := h.c4
  have c5 := h.c5
  have hf := h.fr 4
  have hf5 := h.fr 5
  clear h
  by_cases ha : d.after = 0
  · have e1 : d.trips = false := if_pos ha
    have e2 : d.counted.after = d.after := by show (if _ then _ else _) = _; rw [if_pos ha, ha]
    rw [e1]
    go_enter Tryd.func33, Tryd.ntmps33
    go_wp2
    go_ret
    refine ⟨rfl, (Mem.Ch.refl (fun k => k = p) w).set (g := p) (.inr rfl), H.out.turn ?_ (fun k hk => Below.heap_setCell w ⟨p, 4, none⟩ _ k hk) rfl rfl rfl⟩
    rw [Mem.set H.out.blk]
    unfold cellsOf
    rw [e2]
    rfl
  · have e1 : d.trips = (wrap64 (d.after - 1) == 0) := if_neg ha
    have e2 : d.counted.after = wrap64 (d.after - 1) := if_neg ha
    rw [e1]
    go_enter Tryd.func33, Tryd.ntmps33
    go_wp2
    go_ret
    refine ⟨rfl, ((Mem.Ch.refl (fun k => k = p) w).set (g := p) (j := 4) (.inr rfl)).set (g := p) (j := 5) (.inr rfl), H.out.turn ?_ (fun k hk => (Below.heap_setCell _ ⟨p, 5, none⟩ _ k hk).trans (Below.heap_setCell w ⟨p, 4, none⟩ _ k hk)) rfl rfl rfl⟩
    rw [Mem.set (Mem.set H.out.blk)]
    unfold cellsOf
    rw [e2]
    rfl
set_option maxRecDepth 100000 in
set_option maxHeartbeats 2000000 in
theorem Wake_any (S : Nat → Prop) (p N : Nat) (d : Dk) (w : World) (h : DiskAt w S p N d) :
    Calls Tryd.prog 11 #[.pointer (some ⟨p, 0, none⟩)] w fun r w' => r = .returned (.tuple #[]) ∧ Mem.Ch S w w' ∧ DiskAt w' S p N { d with down := false } := by
  obtain ⟨bs, bn, v, h⟩ := h
  have H := Lib.hid h
  have c7 := h.c7
  have hf := h.fr 7
  clear h
  go_enter Tryd.func11, Tryd.ntmps11
  go_wp2
  go_end0
  refine ⟨rfl, (Mem.Ch.refl _ w).set (.inr H.out.sp), bs, bn, v, H.out.turn ?_ (fun k hk => Below.heap_setCell w ⟨p, 7, none⟩ _ k hk) rfl rfl rfl⟩
  rw [Mem.set H.out.blk]
  rfl
set_option maxRecDepth 100000 in
set_option maxHeartbeats 2000000 in
theorem Trip_any (S : Nat → Prop) (p N : Nat) (d : Dk) (n k : Int) (w : World) (h : DiskAt w S p N d) :
    Calls Tryd.prog 23 #[.pointer (some ⟨p, 0, none⟩), .int .i64 n, .int .i64 k] w fun r w' => r = .returned (.tuple #[]) ∧ Mem.Ch S w w' ∧ DiskAt w' S p N { d with after := max n 1, keep := k } := by
  obtain ⟨bs, bn, v, h⟩ := h
  have H := Lib.hid h
  have c5 := h.c5
  have c6 := h.c6
  have hf := h.fr 5
  have hf6 := h.fr 6
  clear h
  go_enter Tryd.func23, Tryd.ntmps23
  go_wp2
  all_goals go_end0
  · refine ⟨rfl, ((Mem.Ch.refl S w).set (g := p) (j := 5) (.inr H.out.sp)).set (g := p) (j := 6) (.inr H.out.sp), bs, bn, v, H.out.turn ?_ (fun k hk => (Below.heap_setCell _ ⟨p, 6, none⟩ _ k hk).trans (Below.heap_setCell w ⟨p, 5, none⟩ _ k hk)) rfl rfl rfl⟩
    rw [Mem.set (Mem.set H.out.blk)]
    unfold cellsOf
    rw [show max n 1 = 1 by omega]
    rfl
  · refine ⟨rfl, ((Mem.Ch.refl S w).set (g := p) (j := 5) (.inr H.out.sp)).set (g := p) (j := 6) (.inr H.out.sp), bs, bn, v, H.out.turn ?_ (fun k hk => (Below.heap_setCell _ ⟨p, 6, none⟩ _ k hk).trans (Below.heap_setCell w ⟨p, 5, none⟩ _ k hk)) rfl rfl rfl⟩
    rw [Mem.set (Mem.set H.out.blk)]
    unfold cellsOf
    rw [show max n 1 = n by omega]
    rfl
set_option maxRecDepth 100000 in
set_option maxHeartbeats 2000000 in
theorem Room_any (S : Nat → Prop) (p N : Nat) (d : Dk) (n : Int) (w : World) (h : DiskAt w S p N d) :
    Calls Tryd.prog 14 #[.pointer (some ⟨p, 0, none⟩), .int .i64 n] w fun r w' => r = .returned (.tuple #[]) ∧ Mem.Ch S w w' ∧ DiskAt w' S p N { d with room := max n (-1) } := by
  obtain ⟨bs, bn, v, h⟩ := h
  have H := Lib.hid h
  have c3 := h.c3
  have hf := h.fr 3
  clear h
  go_enter Tryd.func14, Tryd.ntmps14
  go_wp2
  all_goals go_end0
  · refine ⟨rfl, (Mem.Ch.refl S w).set (g := p) (j := 3) (.inr H.out.sp), bs, bn, v, H.out.turn ?_ (fun k hk => Below.heap_setCell w ⟨p, 3, none⟩ _ k hk) rfl rfl rfl⟩
    rw [Mem.set H.out.blk]
    unfold cellsOf
    rw [show max n (-1) = -1 by omega]
    rfl
  · refine ⟨rfl, (Mem.Ch.refl S w).set (g := p) (j := 3) (.inr H.out.sp), bs, bn, v, H.out.turn ?_ (fun k hk => Below.heap_setCell w ⟨p, 3, none⟩ _ k hk) rfl rfl rfl⟩
    rw [Mem.set H.out.blk]
    unfold cellsOf
    rw [show max n (-1) = n by omega]
    rfl
set_option maxRecDepth 100000 in
set_option maxHeartbeats 2000000 in
theorem cost_put (n s : ByteArray) (a : Int) (w : World) (hs : s.size ≤ 1099511627776) : Calls Tryd.prog 98 #[.agg #[.string n, .string s, .int .i64 a]] w fun r w' => r = .returned (.int .i64 (1 + s.size : Nat)) ∧ Below w.heap.size w w' := by
  have hw : wrap64 (1 + (s.size : Int)) = ((1 + s.size : Nat) : Int) := by unfold wrap64; omega
  go_enter Tryd.func98, Tryd.ntmps98
  go_wp2
  go_ret
  exact ⟨by simp, by first | exact Below.refl _ _ | exact (Below.refl _ _).alloc (Nat.le_refl _) _⟩
set_option maxRecDepth 100000 in
set_option maxHeartbeats 2000000 in
theorem cost_trim (n : ByteArray) (k : Int) (w : World) : Calls Tryd.prog 99 #[.agg #[.string n, .int .i64 k]] w fun r w' => r = .returned (.int .i64 1) ∧ Below w.heap.size w w' := by
  go_enter Tryd.func99, Tryd.ntmps99
  go_wp2
  go_ret
  exact ⟨rfl, by first | exact Below.refl _ _ | exact (Below.refl _ _).alloc (Nat.le_refl _) _⟩
set_option maxRecDepth 100000 in
set_option maxHeartbeats 2000000 in
theorem cost_move (n t : ByteArray) (w : World) : Calls Tryd.prog 100 #[.agg #[.string n, .string t]] w fun r w' => r = .returned (.int .i64 1) ∧ Below w.heap.size w w' := by
  go_enter Tryd.func100, Tryd.ntmps100
  go_wp2
  go_ret
  exact ⟨rfl, by first | exact Below.refl _ _ | exact (Below.refl _ _).alloc (Nat.le_refl _) _⟩
set_option maxRecDepth 100000 in
set_option maxHeartbeats 2000000 in
theorem cost_drop (n : ByteArray) (w : World) : Calls Tryd.prog 101 #[.agg #[.string n]] w fun r w' => r = .returned (.int .i64 1) ∧ Below w.heap.size w w' := by
  go_enter Tryd.func101, Tryd.ntmps101
  go_wp2
  go_ret
  exact ⟨rfl, by first | exact Below.refl _ _ | exact (Below.refl _ _).alloc (Nat.le_refl _) _⟩
set_option maxRecDepth 100000 in
set_option maxHeartbeats 2000000 in
theorem Fail_down (S : Nat → Prop) (p N : Nat) (d : Dk) (k : Int) (w : World) (h : DiskAt w S p N d) (hd : d.down = true) :
    Calls Tryd.prog 10 #[.pointer (some ⟨p, 0, none⟩), .int .i64 k] w fun r w' => r = .returned (.tuple #[]) ∧ w' = w := by
  obtain ⟨bs, bn, v, h⟩ := h
  have hr := ready_any S p N d bs bn v w h
  rw [if_pos hd] at hr
  have H := Lib.hid h
  clear h
  go_enter Tryd.func10, Tryd.ntmps10
  go_wp2_with (go_at_call 25; refine hr.mono ?_; rintro _ w1 ⟨rfl, rfl⟩)
  exact bodyPost_ret (v := .tuple #[]) (by simp [results, Tryd.results10, go_sem, *]) rfl ⟨rfl, rfl⟩
end Go.Proofs.YtpdceondgbgpkaaDoor.Dsk
