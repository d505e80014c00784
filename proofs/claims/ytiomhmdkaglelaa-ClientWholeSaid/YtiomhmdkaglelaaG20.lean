/- ClientWhole: what holds of a reader that got matches, each of one pick, its own number. · ClientWhole: the memory of the law. -/
import Derived.Test.YtiomhmdkaglelaaG13
import Derived.Test.YtiomhmdkaglelaaG19
import Derived.Test.YtiomhmdkaglelaaG11
namespace Go.Proofs.Ytiomhmdkaglelaa
open Go.RowKit
set_option linter.unusedSimpArgs false
set_option linter.unusedVariables false
/-- Numbers that rise from lo on and end ahead of hi; each has its own number for its one pick. -/
def Ris : Int → List (Int × List Int) → Int → Prop
  | lo, [], hi => lo ≤ hi
  | lo, p :: l, hi => lo ≤ p.1 ∧ p.2 = [p.1] ∧ Ris (p.1 + 1) l hi
theorem Ris.le : ∀ {l : List (Int × List Int)} {lo hi : Int}, Ris lo l hi → lo ≤ hi
  | [], _, _, h => h
  | p :: l, lo, hi, h => by have h1 := h.1; have h2 := Ris.le h.2.2; omega
theorem Ris.mono : ∀ {l : List (Int × List Int)} {lo hi hi' : Int}, Ris lo l hi → hi ≤ hi' → Ris lo l hi'
  | [], lo, hi, hi', h, hh => by have h' : lo ≤ hi := h; show lo ≤ hi'; omega
  | p :: l, lo, hi, hi', h, hh => ⟨h.1, h.2.1, Ris.mono h.2.2 hh⟩
theorem Ris.app : ∀ {l m : List (Int × List Int)} {lo hi hi' : Int}, Ris lo l hi → Ris hi m hi' → Ris lo (l ++ m) hi'
  | [], [], lo, hi, hi', h, h2 => by have h' : lo ≤ hi := h; have h2' : hi ≤ hi' := h2; show lo ≤ hi'; omega
  | [], q :: m, lo, hi, hi', h, h2 => by have h' : lo ≤ hi := h; have h1 := h2.1; exact ⟨by omega, h2.2⟩
  | p :: l, m, lo, hi, hi', h, h2 => ⟨h.1, h.2.1, Ris.app h.2.2 h2⟩
/-- Matches that were read from f on. -/
theorem ris_new : ∀ (L : List (Value × List Int)) (f : Nat), Std f L → Ris (f : Int) (newG (f : Int) L) ((f : Int) + (L.length : Int))
  | [], f, _ => by show (f : Int) ≤ (f : Int) + _; simp
  | p :: L, f, h => by
    have h0 := h 0 p rfl
    have hs : Std (f + 1) L := fun i q hq => by rw [h (i + 1) q (by simpa using hq)]; simp only [List.cons.injEq, and_true]; omega
    have hr := ris_new L (f + 1) hs
    have e : newG (f : Int) (p :: L) = ((f : Int), p.2) :: newG (((f + 1 : Nat) : Int)) L := by
      unfold newG upto
      rw [List.length_cons, List.range_succ_eq_map]
      simp only [List.map_cons, List.map_map, List.zip_cons_cons, List.cons.injEq]
      refine ⟨by simp, ?_⟩
      congr 1
      apply List.map_congr_left
      intro i _
      simp only [Function.comp]
      push_cast
      omega
    rw [e]
    refine ⟨by omega, by rw [h0]; simp, ?_⟩
    have e2 : (((f + 1 : Nat) : Int)) = (f : Int) + 1 := by push_cast; rfl
    rw [e2] at hr
    rw [List.length_cons]
    have e3 : (f : Int) + 1 + (L.length : Int) = (f : Int) + ((L.length + 1 : Nat) : Int) := by push_cast; omega
    rw [e3] at hr
    rw [e2]
    exact hr
/-- What holds of the law's reader: n matches have come. -/
structure Good (s : Rs) (n : Nat) : Prop where
  ris : Ris 0 s.got s.at_
  cnt : (s.got.length : Int) + s.gone = s.at_
  fit : s.at_ ≤ (n : Int)
theorem Good.more {s : Rs} {n : Nat} (h : Good s n) : Good s (n + 1) := ⟨h.ris, h.cnt, by have := h.fit; omega⟩
theorem Good.late {s : Rs} {n : Nat} (h : Good s n) : Good s.late n := ⟨h.ris, h.cnt, h.fit⟩
/-- It hears what a book says, that ends at e and begins at a. -/
theorem Good.told {s : Rs} {n f : Nat} {M : List (Value × List Int)} (h : Good s n) (hf : s.at_ = (f : Int)) (hs : Std f M) (hm : M = [] ∨ f + M.length ≤ n) : Good (s.told M ((f : Int) + (M.length : Int)) 0) n := by
  unfold Rs.told
  rw [if_pos ⟨rfl, by omega, by omega⟩]
  refine ⟨?_, ?_, ?_⟩
  · have h1 := ris_new M f hs
    rw [← hf] at h1
    have h2 := Ris.app h.ris h1
    show Ris 0 (s.got ++ newG s.at_ M) ((f : Int) + (M.length : Int))
    rw [← hf]
    exact h2
  · have := h.cnt
    show ((s.got ++ newG s.at_ M).length : Int) + s.gone = (f : Int) + (M.length : Int)
    rw [List.length_append, newG_len]
    push_cast
    omega
  · show (f : Int) + (M.length : Int) ≤ (n : Int)
    have := h.fit
    rcases hm with rfl | hm
    · simp; omega
    · omega
theorem Good.gone {s : Rs} {n a : Nat} (h : Good s n) (hlt : s.at_ < (a : Int)) (ha : a ≤ n) : Good (s.told [] (a : Int) 180) n := by
  unfold Rs.told
  rw [if_neg (by intro hh; have := hh.1; omega), if_pos ⟨rfl, hlt⟩]
  refine ⟨h.ris.mono (by show s.at_ ≤ (a : Int); omega), ?_, by show (a : Int) ≤ (n : Int); omega⟩
  have := h.cnt
  show (s.got.length : Int) + (s.gone + ((a : Int) - s.at_)) = (a : Int)
  omega
end Go.Proofs.Ytiomhmdkaglelaa
namespace Go.Proofs.Ytiomhmdkaglelaa
open Go.RowKit
set_option linter.unusedSimpArgs false
set_option linter.unusedVariables false
/-- The three nodes' texts. -/
def ndc (n0 n1 n2 : Nat × Nat) : Array Value := #[.string (btx n0.1 n0.2), .string (btx n1.1 n1.2), .string (btx n2.1 n2.2)]
def okN (n : Nat × Nat) (z : Nat) : Prop := n.1 + n.2 ≤ z ∧ n.2 ≤ 64
/-- Ahead of a step: z matches have come (their list is va), those from a on are kept; the reader lies in block b, the nodes in nb. -/
structure Wh (w W : World) (S : Nat → Prop) (b nb : Nat) (most : Int) (s : Rs) (va : Value) (z a : Nat) (n0 n1 n2 : Nat × Nat) (k : Nat) : Prop where
  inv : RInv s k
  n3 : s.nodes = 3
  pr : PR W S b ⟨#[112]⟩ most s
  sS : ∀ j, S j → w.heap.size ≤ j ∧ j < W.heap.size ∧ j ≠ nb ∧ va.ownBlock ≠ some j
  nd : W.heap[nb]? = some (.cells (ndc n0 n1 n2) 30 (0, 0))
  nB : w.heap.size ≤ nb
  nV : va.ownBlock ≠ some nb
  own : W.ownsRow w.heap.size 9 1 va z (List.replicate z (.string ⟨#[]⟩))
  zk : z ≤ k
  az : a ≤ z
  zc : z - a ≤ 64
  o0 : okN n0 z
  o1 : okN n1 z
  o2 : okN n2 z
  good : Good s z
  bl : Below w.heap.size w W
section
variable {w W W' : World} {S : Nat → Prop} {b nb z a k : Nat} {most : Int} {s : Rs} {va : Value} {n0 n1 n2 : Nat × Nat}
theorem okN.more {n : Nat × Nat} {z : Nat} (h : okN n z) : okN n (z + 1) := ⟨by have := h.1; omega, h.2⟩
theorem Wh.below (h : Wh w W S b nb most s va z a n0 n1 n2 k) (hb : Below W.heap.size W W') : Wh w W' S b nb most s va z a n0 n1 n2 k :=
  ⟨h.inv, h.n3, h.pr.below hb, fun j hj => by have := h.sS j hj; have := hb.size; exact ⟨by omega, by omega, by omega, (h.sS j hj).2.2.2⟩, (hb.block _ (Mem.lt h.nd)).trans h.nd, h.nB, h.nV, h.own.kept (below_grown hb) (by cases hv : va.ownBlock <;> simp), h.zk, h.az, h.zc, h.o0, h.o1, h.o2, h.good, h.bl.trans (hb.mono h.bl.size)⟩
theorem Wh.more (h : Wh w W S b nb most s va z a n0 n1 n2 k) : Wh w W S b nb most s va z a n0 n1 n2 (k + 1) := { h with inv := h.inv.more, zk := by have := h.zk; omega }
theorem Wh.text (h : Wh w W S b nb most s va z a n0 n1 n2 k) {a' : Nat} (h1 : a' ≤ z) (h2 : z - a' ≤ 64) : Wh w W S b nb most s va z a' n0 n1 n2 k := { h with az := h1, zc := h2 }
/-- A node hears of all. -/
theorem Wh.node (h : Wh w W S b nb most s va z a n0 n1 n2 k) {j : Nat} {m0 m1 m2 : Nat × Nat} {t : Value} (hc : (ndc n0 n1 n2).setIfInBounds j t = ndc m0 m1 m2) (h0 : okN m0 z) (h1 : okN m1 z) (h2 : okN m2 z) : Wh w (W.setCell ⟨nb, j, none⟩ t) S b nb most s va z a m0 m1 m2 k := by
  have hgs : W.grownBy (W.setCell ⟨nb, j, none⟩ t) (some nb) := ⟨rfl, rfl, rfl, by simp [World.setCell], fun i _ hi => Below.heap_setCell _ _ _ i (fun e => hi (by rw [e]))⟩
  have hz : (W.setCell ⟨nb, j, none⟩ t).heap.size = W.heap.size := by simp [World.setCell]
  refine ⟨h.inv, h.n3, h.pr.step (by rw [hz]; exact Nat.le_refl _) (fun i hi hl => Below.heap_setCell _ _ _ i (h.sS i hi).2.2.1) (fun _ h => h), fun i hi => by rw [hz]; exact h.sS i hi, ?_, h.nB, h.nV, h.own.kept hgs (.inr h.nV), h.zk, h.az, h.zc, h0, h1, h2, h.good, h.bl.setCell (p := ⟨nb, j, none⟩) h.nB _⟩
  rw [← hc]
  exact Mem.set h.nd
/-- A match has come. -/
theorem Wh.came (h : Wh w W S b nb most s va z a n0 n1 n2 k) {va' : Value} {W1 : World} {o : Obj} (hb : Below W.heap.size W W1) (hg : (W1.alloc o).grownBy W' va.ownBlock) (hown : W'.ownsRow w.heap.size 9 1 va' (z + 1) (List.replicate z (.string ⟨#[]⟩) ++ [.string ⟨#[]⟩])) (ho : va'.ownBlock = va.ownBlock ∨ ∃ j, va'.ownBlock = some j ∧ W1.heap.size ≤ j) (hc : z + 1 - a ≤ 64 ∨ True) (hk : z + 1 ≤ k) {a' : Nat} (h1 : a' ≤ z + 1) (h2 : z + 1 - a' ≤ 64) :
    Wh w W' S b nb most s va' (z + 1) a' n0 n1 n2 k := by
  have h1' := h.below hb
  have hsz : W1.heap.size ≤ W'.heap.size := by have := hg.size; simp at this; omega
  have hkp : ∀ i, i < W1.heap.size → va.ownBlock ≠ some i → W'.heap[i]? = W1.heap[i]? := fun i hi hn => (hg.block i (by simp; omega) (fun e => hn e.symm)).trans (Below.heap_alloc _ _ _ hi)
  have hnv : ∀ i, i < W1.heap.size → va.ownBlock ≠ some i → va'.ownBlock ≠ some i := fun i hi hn e => by
    rcases ho with ho | ⟨j, hj, hl⟩
    · exact hn (ho ▸ e)
    · rw [hj] at e
      have : j = i := by simpa using e
      omega
  have hlo : ∀ q, va.ownBlock = some q → w.heap.size ≤ q := fun q hq => (h1'.own.lt q hq).1
  refine ⟨h.inv, h.n3, h1'.pr.step hsz (fun i hi hl => hkp i hl (h1'.sS i hi).2.2.2) (fun _ h => h), fun i hi => ?_, (hkp nb (Mem.lt h1'.nd) h.nV).trans h1'.nd, h.nB, hnv nb (Mem.lt h1'.nd) h.nV, ?_, hk, h1, h2, h.o0.more, h.o1.more, h.o2.more, h.good.more, ?_⟩
  · have := h1'.sS i hi
    exact ⟨this.1, by omega, this.2.2.1, hnv i this.2.1 this.2.2.2⟩
  · have e : List.replicate (z + 1) (Value.string ⟨#[]⟩) = List.replicate z (.string ⟨#[]⟩) ++ [.string ⟨#[]⟩] := by rw [List.replicate_succ']
    rw [e]
    exact hown
  · exact h1'.bl.trans (((Below.refl _ W1).alloc h1'.bl.size o).grown hg (by have := h1'.bl.size; simp; omega) (fun q e => hlo q e))
/-- The reader has done an act. -/
theorem Wh.act (h : Wh w W S b nb most s va z a n0 n1 n2 k) {W1 : World} {s' : Rs} {S' : Nat → Prop} (hb : Below W.heap.size W W1) (hc : Mem.Ch S W1 W') (hp : PR W' S' b ⟨#[112]⟩ most s') (hS' : ∀ j, S' j → S j ∨ (W1.heap.size ≤ j ∧ j < W'.heap.size)) (hI : RInv s' (k + 1)) (hn : s'.nodes = 3) (hg : Good s' z) :
    Wh w W' S' b nb most s' va z a n0 n1 n2 (k + 1) := by
  have h1 := h.below hb
  have hz := hc.size
  have hS : ∀ i, S i → i < W1.heap.size := fun i hi => (h1.sS i hi).2.1
  have hnb := Mem.lt h1.nd
  have hvb : ∀ q, va.ownBlock = some q → w.heap.size ≤ q ∧ q < W1.heap.size := fun q hq => h1.own.lt q hq
  have hB := h1.bl.size
  refine ⟨hI, hn, hp, fun i hi => ?_, (hc.block nb hnb (fun hh => (h1.sS nb hh).2.2.1 rfl)).trans h1.nd, h.nB, h.nV, ⟨h1.own.1, ?_⟩, by have := h.zk; omega, h.az, h.zc, h.o0, h.o1, h.o2, hg, h1.bl.trans (hc.below (fun i h2 h3 => by have := (h1.sS i h3).1; omega) hB)⟩
  · rcases hS' i hi with hi | hi
    · have := h1.sS i hi
      exact ⟨this.1, by omega, this.2.2.1, this.2.2.2⟩
    · exact ⟨by omega, hi.2, by omega, fun e => by have := hvb i e; omega⟩
  · rcases h1.own.2 with hn | ⟨g, cap, cur, hv, hbg, hgg, hr⟩
    · exact .inl hn
    · exact .inr ⟨g, cap, cur, hv, hbg, (hc.block g (Mem.lt hgg) (fun hh => (h1.sS g hh).2.2.2 (by rw [hv]; rfl))).trans hgg, hr⟩
end
end Go.Proofs.Ytiomhmdkaglelaa
