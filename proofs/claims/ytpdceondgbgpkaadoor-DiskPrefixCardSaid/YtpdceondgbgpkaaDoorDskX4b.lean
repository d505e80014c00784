/- DiskPrefix: the loss of power, and what is read behind it. -/
import Derived.Test.YtpdceondgbgpkaaDoorDskX4
namespace Go.Proofs.YtpdceondgbgpkaaDoor.Dsk
open Go.RowKit Go.Maps
set_option linter.unusedSimpArgs false
set_option linter.unusedVariables false
/-- Blocks of the first disk, while a row lies from a to b. -/
abbrev Sw (B E M : Nat) (v : Value) (a b : Nat) : Nat → Prop := fun q => Sd B E M v q ∧ (q < a ∨ b ≤ q)
structure PE (w5 W : World) (B E M p N : Nat) (d : Dk) (v : Value) (dn : List Act) (a b : Nat) : Prop where
  ch : Mem.Ch (Off B E M) w5 W
  D : DiskAt W (Sw B E M v a b) p N d
  own : W.ownsRow M 28 5 v dn.length (actC dn)
  inv : Dk.Inv d
  b : b ≤ W.heap.size
theorem P1.wants {w5 W w6 : World} {B E M p N : Nat} {d : Dk} {v : Value} {dn : List Act} (h : P1 w5 W B E M p N d v dn dn) (hb : Below W.heap.size W w6) : PE w5 w6 B E M p N d v dn W.heap.size w6.heap.size :=
  ⟨h.ch.trans' (Mem.Ch.of_below' hb), ((at_kept h.D).below hb).mono (fun q hq => ⟨hq.1, .inl hq.2⟩), own_stay h.own (fun q hq => hb.block q (own_lt h.own q hq)), h.st.inv, Nat.le_refl _⟩
theorem PE.next {w5 W w' : World} {B E M p N N' : Nat} {d d' : Dk} {v : Value} {dn : List Act} {a b : Nat} (h : PE w5 W B E M p N d v dn a b) (hc : Mem.Ch (Sw B E M v a b) W w') (hD : DiskAt w' (Gr (Sw B E M v a b) W w') p N' d') (hi : Dk.Inv d') (hsz : M ≤ w5.heap.size) (hM : E ≤ M) (hB : B ≤ E) : PE w5 w' B E M p N' d' v dn a b := by
  have hv := own_lt h.own
  refine ⟨h.ch.trans' (hc.mono (fun q _ hq => hq.1.1)), hD.mono (fun q hq => ?_), own_stay h.own (fun q hq => hc.block q (hv q hq) (fun hS => hS.1.2 hq)), hi, Nat.le_trans h.b hc.size⟩
  rcases hq with hq | hq
  · exact hq
  · have h1 := hq.1
    have h2 := h.b
    have h3 := Nat.le_trans hsz h.ch.size
    exact ⟨⟨⟨by omega, .inr (by omega)⟩, fun e => by have := hv q e; omega⟩, .inr (by omega)⟩
theorem PE.fail {w5 W : World} {B E M p N : Nat} {d : Dk} {v : Value} {dn : List Act} {a b : Nat} (h : PE w5 W B E M p N d v dn a b) (k : Int) (hk : k ≤ 9223372036854775807) (hN : N < 1073741824) (hsz : M ≤ w5.heap.size) (hM : E ≤ M) (hB : B ≤ E) :
    Calls Tryd.prog 10 #[.pointer (some ⟨p, 0, none⟩), .int .i64 k] W fun r w' => r = .returned (.tuple #[]) ∧ Mem.Ch (Sw B E M v a b) W w' ∧ PE w5 w' B E M p N (d.fail k) v dn a b := by
  refine (Fail_any _ p N d k W h.D hk h.inv hN).mono ?_
  rintro _ w' ⟨rfl, hc, hD⟩
  exact ⟨rfl, hc, h.next hc hD (h.inv.fail k) hsz hM hB⟩
def Dk.woken (d : Dk) : Dk := { d with down := false }
theorem PE.wake {w5 W : World} {B E M p N : Nat} {d : Dk} {v : Value} {dn : List Act} {a b : Nat} (h : PE w5 W B E M p N d v dn a b) (hsz : M ≤ w5.heap.size) (hM : E ≤ M) (hB : B ≤ E) :
    Calls Tryd.prog 11 #[.pointer (some ⟨p, 0, none⟩)] W fun r w' => r = .returned (.tuple #[]) ∧ Mem.Ch (Sw B E M v a b) W w' ∧ PE w5 w' B E M p N d.woken v dn a b := by
  refine (Wake_any _ p N d W h.D).mono ?_
  rintro _ w' ⟨rfl, hc, hD⟩
  exact ⟨rfl, hc, h.next hc (hD.mono (fun q hq => .inl hq)) ⟨h.inv.kept, h.inv.valid, h.inv.now⟩ hsz hM hB⟩
theorem rd_wait {B E M a b sz : Nat} {v u : Value} {w w1 : World} {rows : List (List Value)} (h : Mem.Rd w (fun q => a ≤ q ∧ q < b) sz u rows) (hc : Mem.Ch (Sw B E M v a b) w w1) : Mem.Rd w1 (fun q => a ≤ q ∧ q < b) sz u rows :=
  Mem.Rd.ch h hc (fun q hq hS => by have := hq.1; have := hq.2; rcases hS.2 with h | h <;> omega)
/-- What is read behind the loss of power, and the second disk ahead of all: in the world w9. -/
structure PZ (w w9 : World) (E0 E1 M a p2 : Nat) (vg vd : Value) (G : FM) (lg : List ByteArray) (dn : List Act) : Prop where
  bel : Below w.heap.size w w9
  got : Mem.Rd w9 (fun q => a ≤ q ∧ q < w9.heap.size) 2 vg ((pairsF G lg).map fc)
  acts : Mem.Rd w9 (fun q => M ≤ q ∧ q < w9.heap.size) 5 vd (dn.map Act.cells)
  e : DiskAt w9 (fun q => E0 ≤ q ∧ q < E1) p2 0 Dk.new
  ea : E1 ≤ a
  em : E1 ≤ M
  low : w.heap.size ≤ E0
theorem PZ.on {w w9 w10 : World} {E0 E1 M a p2 : Nat} {vg vd : Value} {G : FM} {lg : List ByteArray} {dn : List Act} (h : PZ w w9 E0 E1 M a p2 vg vd G lg dn) (hb : Below w9.heap.size w9 w10) : PZ w w10 E0 E1 M a p2 vg vd G lg dn :=
  ⟨h.bel.trans (hb.mono h.bel.size), (h.got.below hb).mono (fun q hq => ⟨hq.1, Nat.lt_of_lt_of_le hq.2 hb.size⟩), (h.acts.below hb).mono (fun q hq => ⟨hq.1, Nat.lt_of_lt_of_le hq.2 hb.size⟩), h.e.below hb, h.ea, h.em, h.low⟩
theorem act_rowsZ (l : List Act) : ∀ r ∈ l.map Act.cells, r.length = 5 := by
  intro r hr
  obtain ⟨x, _, rfl⟩ := List.mem_map.1 hr
  rfl
theorem rdIn {w : World} {ok : Nat → Prop} {sz : Nat} {v : Value} {rows : List (List Value)} (h : Mem.Rd w ok sz v rows) : Mem.Rd w (fun k => ok k ∧ k < w.heap.size) sz v rows := by
  obtain ⟨A, cap, e, h1, h2, h3, h4⟩ := h
  exact ⟨A, cap, e, h1, h2, fun hr => by obtain ⟨g, o, ea, hg, hl⟩ := h3 hr; exact ⟨g, o, ea, ⟨hg, hl⟩, hl⟩, h4⟩
theorem PE.made {w w5 W w9 : World} {E E1 M p p2 N : Nat} {d : Dk} {v vg : Value} {dn : List Act} {a b : Nat} {G : FM} {lg : List ByteArray} (h : PE w5 W w.heap.size E M p N d v dn a b) (hb : Below W.heap.size W w9)
    (hg : Mem.Rd w9 (fun q => W.heap.size ≤ q) 2 vg ((pairsF G lg).map fc)) (hE : DiskAt w5 (fun q => E ≤ q ∧ q < E1) p2 0 Dk.new) (h5 : Below w.heap.size w w5) (hM : w5.heap.size = M) (hEM : E1 ≤ M) (hBE : w.heap.size ≤ E) : PZ w w9 E E1 M W.heap.size p2 vg v G lg dn := by
  have hB : Below w.heap.size w W := h5.trans (h.ch.below (fun k hk hS => absurd hS.1 (Nat.not_le_of_lt hk)) h5.size)
  refine ⟨hB.trans (hb.mono hB.size), rdIn hg, ?_, ?_, by have := h.ch.size; omega, hEM, hBE⟩
  · have hown : w9.ownsRow M 28 5 v dn.length (actC dn) := own_stay h.own (fun q hq => hb.block q (own_lt h.own q hq))
    exact rdIn (Mem.Rd.of_owns (rows := dn.map Act.cells) hown (List.length_map _).symm (act_rowsZ dn))
  · have h1 := (hE.step h.ch.size (fun q hq hl => h.ch.block q hl (fun hS => by rcases hS.2 with h | h <;> omega)) (fun _ hq => hq))
    exact h1.below hb
theorem PZ.start {w w9 : World} {E0 E1 M a p2 : Nat} {vg vd : Value} {G : FM} {lg : List ByteArray} {dn : List Act} (h : PZ w w9 E0 E1 M a p2 vg vd G lg dn) : P2 w9 w9 E0 E1 p2 0 Dk.new (fun _ => none) :=
  ⟨Mem.Ch.refl _ _, h.e.mono (fun q hq => .inl hq), ⟨Dk.inv_new, rfl, rfl, show (-1 : Int) < 0 by decide⟩, rfl, nv_none⟩
theorem PZ.gotAt {w w9 W : World} {E0 E1 M a p2 : Nat} {vg vd : Value} {G : FM} {lg : List ByteArray} {dn : List Act} (h : PZ w w9 E0 E1 M a p2 vg vd G lg dn) (hc : Mem.Ch (Se E0 E1 w9.heap.size) w9 W) : Mem.Rd W (fun q => a ≤ q ∧ q < w9.heap.size) 2 vg ((pairsF G lg).map fc) :=
  Mem.Rd.ch h.got hc (fun q hq hS => by have := h.ea; have := hq.1; have := hq.2; rcases hS with hS | hS <;> omega)
theorem PZ.actsAt {w w9 W : World} {E0 E1 M a p2 : Nat} {vg vd : Value} {G : FM} {lg : List ByteArray} {dn : List Act} (h : PZ w w9 E0 E1 M a p2 vg vd G lg dn) (hc : Mem.Ch (Se E0 E1 w9.heap.size) w9 W) : Mem.Rd W (fun q => M ≤ q ∧ q < w9.heap.size) 5 vd (dn.map Act.cells) :=
  Mem.Rd.ch h.acts hc (fun q hq hS => by have := h.em; have := hq.1; have := hq.2; rcases hS with hS | hS <;> omega)
theorem PZ.done {w w9 W : World} {E0 E1 M a p2 : Nat} {vg vd : Value} {G : FM} {lg : List ByteArray} {dn : List Act} (h : PZ w w9 E0 E1 M a p2 vg vd G lg dn) (hc : Mem.Ch (Se E0 E1 w9.heap.size) w9 W) : Below w.heap.size w W :=
  h.bel.trans (hc.below (fun q hq hS => by have := h.low; rcases hS with hS | hS
                                           · omega
                                           · have := h.bel.size; omega) h.bel.size)
/-- Files that are not told apart by their names have the same pairs. -/
theorem pairs_same {F G : FM} {l l' : List ByteArray} (h : NamesOf F l) (h' : NamesOf G l') (e : G = F) : pairsF F l = pairsF G l' := by
  subst e
  rw [h.one h']
theorem pairs_none {G : FM} {l : List ByteArray} (h : NamesOf G l) (hne : pairsF G l ≠ []) : G ≠ fun _ => none := fun e => by
  subst e
  refine hne ?_
  cases l with
  | nil => rfl
  | cons x l =>
    have := (h.mem x).1 List.mem_cons_self
    cases this
end Go.Proofs.YtpdceondgbgpkaaDoor.Dsk
