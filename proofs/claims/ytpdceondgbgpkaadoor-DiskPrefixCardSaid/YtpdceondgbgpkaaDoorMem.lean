/- Blocks of memory, and what a call may have changed: plain lemmas on worlds. -/
import Derived.WalkKit
import Derived.Lib.Hide
import Derived.Deep.Quiet
import Derived.Maps.AppendAt
namespace Go.Proofs.YtpdceondgbgpkaaDoor.Mem
open Go.RowKit
section
variable {w w1 w2 w' : World} {g g' j j' t : Nat} {c : Array Value} {v u : Value} {S S' : Nat → Prop} {o : Obj} {B : Nat}
theorem cell (h : w.heap[g]? = some (.cells c t (0, 0))) (hv : c[j]? = some v) : w.cell? ⟨g, j, none⟩ = some v := by
  simp [World.cell?, h, hv]
theorem free (h : w.heap[g]? = some (.cells c t (0, 0))) : w.frozen? ⟨g, j, none⟩ = false := by
  simp only [World.frozen?, h]
  simp
theorem lt (h : w.heap[g]? = some o) : g < w.heap.size := (Array.getElem?_eq_some_iff.1 h).1
theorem set (h : w.heap[g]? = some (.cells c t (0, 0))) : (w.setCell ⟨g, j, none⟩ u).heap[g]? = some (.cells (c.setIfInBounds j u) t (0, 0)) := by
  simp [World.setCell, Array.getElem?_modify, h]
theorem set_ne (h : w.heap[g]? = some o) (hne : g' ≠ g) : (w.setCell ⟨g', j, none⟩ u).heap[g]? = some o :=
  (Below.heap_setCell w ⟨g', j, none⟩ u g (fun e => hne e.symm)).trans h
theorem new (w : World) (o : Obj) : (w.alloc o).heap[w.heap.size]? = some o := by
  show (w.heap.push o)[w.heap.size]? = _
  rw [Array.getElem?_push_size]
theorem old (h : w.heap[g]? = some o) (o' : Obj) : (w.alloc o').heap[g]? = some o := (Below.heap_alloc w o' g (lt h)).trans h
theorem drew (h : w.heap[g]? = some o) : w.drew.heap[g]? = some o := h
theorem bdrewN {a : World} (h : Below B a w) (n : Nat) : Below B a (w.drewN n) := ⟨h.os, h.tape, h.output, h.size, h.block⟩
/-- Of what w has only the blocks of S may be other ones in w1. -/
structure Ch (S : Nat → Prop) (w w1 : World) : Prop where
  os : w1.os = w.os
  tape : w1.tape = w.tape
  output : w1.output = w.output
  size : w.heap.size ≤ w1.heap.size
  block : ∀ k, k < w.heap.size → ¬ S k → w1.heap[k]? = w.heap[k]?
namespace Ch
theorem refl (S : Nat → Prop) (w : World) : Ch S w w := ⟨rfl, rfl, rfl, Nat.le_refl _, fun _ _ _ => rfl⟩
theorem mono (h : Ch S w w1) (hs : ∀ k, k < w.heap.size → S k → S' k) : Ch S' w w1 := ⟨h.os, h.tape, h.output, h.size, fun k hk hn => h.block k hk (fun hS => hn (hs k hk hS))⟩
theorem trans (h : Ch S w w1) (h2 : Ch S' w1 w2) (hs : ∀ k, k < w.heap.size → S' k → S k) : Ch S w w2 :=
  ⟨h2.os.trans h.os, h2.tape.trans h.tape, h2.output.trans h.output, Nat.le_trans h.size h2.size, fun k hk hn => (h2.block k (Nat.lt_of_lt_of_le hk h.size) (fun hS => hn (hs k hk hS))).trans (h.block k hk hn)⟩
theorem trans' (h : Ch S w w1) (h2 : Ch S w1 w2) : Ch S w w2 := h.trans h2 (fun _ _ h => h)
theorem below (h : Ch S w w1) (hs : ∀ k, k < B → ¬ S k) (hB : B ≤ w.heap.size) : Below B w w1 := ⟨h.os, h.tape, h.output, h.size, fun k hk => h.block k (Nat.lt_of_lt_of_le hk hB) (hs k hk)⟩
theorem of_below (h : Below B w w1) : Ch (fun k => B ≤ k) w w1 := ⟨h.os, h.tape, h.output, h.size, fun k _ hn => h.block k (by omega)⟩
theorem of_below' (h : Below w.heap.size w w1) : Ch S w w1 := (of_below h).mono (fun k hk hs => by omega)
theorem drew (h : Ch S w w1) : Ch S w w1.drew := ⟨h.os, h.tape, h.output, h.size, h.block⟩
theorem drewN (h : Ch S w w1) (n : Nat) : Ch S w (w1.drewN n) := ⟨h.os, h.tape, h.output, h.size, h.block⟩
theorem alloc (h : Ch S w w1) (o : Obj) : Ch S w (w1.alloc o) := h.trans (of_below' ((Below.refl _ _).alloc (Nat.le_refl _) o)) (S' := S) (fun _ _ h => h)
theorem set (h : Ch S w w1) (hs : w.heap.size ≤ g ∨ S g) : Ch S w (w1.setCell ⟨g, j, none⟩ u) :=
  ⟨h.os, h.tape, h.output, by simpa [World.setCell] using h.size, fun k hk hn => (Below.heap_setCell w1 ⟨g, j, none⟩ u k (by rintro rfl; rcases hs with h | h; exact absurd hk (by omega); exact hn h)).trans (h.block k hk hn)⟩
theorem grown {row : Option Nat} (h : Ch S w w1) (hg : w1.grownBy w2 row) (hs : ∀ k, row = some k → w.heap.size ≤ k ∨ S k) : Ch S w w2 :=
  ⟨hg.os.trans h.os, hg.tape.trans h.tape, hg.output.trans h.output, Nat.le_trans h.size hg.size, fun k hk hn =>
    (hg.block k (Nat.lt_of_lt_of_le hk h.size) (fun e => by rcases hs k e.symm with h' | h'; exact absurd hk (by omega); exact hn h')).trans (h.block k hk hn)⟩
theorem at_ (h : Ch S w w1) (hb : w.heap[g]? = some o) (hs : ¬ S g) : w1.heap[g]? = some o := (h.block g (lt hb) hs).trans hb
end Ch
end
theorem own_base {w : World} {base : Nat} {e : TypeId} {size n : Nat} {v : Value} {xs : List Value} (h : w.ownsRow base e size v n xs) (k : Nat) (hk : v.ownBlock = some k) : base ≤ k := by
  rcases h.2 with ⟨rfl, _⟩ | ⟨g, cap, cur, rfl, hg, _⟩
  · simp [Value.ownBlock] at hk
  · have : g = k := by simpa [Value.ownBlock] using hk
    omega
/-- A slice literal of one element. -/
theorem own_new (w : World) (e size : Nat) (cs : List Value) (h : cs.length = size) : (w.alloc (.cells cs.toArray e)).ownsRow w.heap.size e size (.slice (some ⟨w.heap.size, 0, none⟩) 1 1) 1 cs :=
  ⟨by omega, .inr ⟨w.heap.size, 1, cs.toArray, rfl, Nat.le_refl _, new w _, Nat.le_refl _, by decide, by simp [h], by rw [Nat.one_mul, ← h]; exact List.take_length⟩⟩
/-- 'append(v, x)' of one element, laid in a new block. -/
theorem append_one {P : Program} {ops : Array Oper} {rest : List Oper} {o : Oper} {a : Act} {Q : Exit → Act → World → Prop} (hgd : o.guard = none) (s x : Operand) (t : TypeId)
    (ho : o.op = .call { callee := .builtin .append, args := #[s, x], argTypes := #[t, t] })
    (base : Nat) (e : TypeId) (i : TypeInfo) (z : Value) (size bytes : Nat) (ht : P.underlying t = some (.slice e)) (hi : P.info? e = some i) (hz : i.zero = some z)
    (hsize : i.size = size) (hby : i.bytes = bytes) (hzs : z.cells.size = size) (hsz : 0 < size)
    (w1 : World) (v : Value) (n : Nat) (xs : List Value) (hs : a.eval s = v) (hown : w1.ownsRow base e size v n xs)
    (cs : List Value) (hcs : cs.length = size) (h1 : ∀ u ∈ cs, u.oneCell' = true) (hx : a.eval x = .slice (some ⟨w1.heap.size, 0, none⟩) 1 1)
    (h63 : n + 1 ≤ maxLen) (hbytes : (n + 1) * bytes ≤ 140737488355328) (hbase : base ≤ w1.heap.size)
    (h : ∀ v' w', w'.ownsRow base e size v' (n + 1) (xs ++ cs) → (w1.alloc (.cells cs.toArray e)).grownBy w' v.ownBlock → (v'.ownBlock = v.ownBlock ∨ v'.ownBlock = some (w1.heap.size + 1)) → wpList P ops Q rest (a.put o.dst v') w') :
    wpList P ops Q (o :: rest) a (w1.alloc (.cells cs.toArray e)) := by
  refine wpList_append_own_at (w := w1.alloc (.cells cs.toArray e)) hgd s x t ho base e i z size bytes ht hi hz hsize hby hzs hsz v n xs hs (hown.alloc _) ⟨w1.heap.size, 0, none⟩ 1 1 cs hx (by rw [hcs, Nat.one_mul]) (fun j u hj => ?_) h1 h63 hbytes (by simp; omega) (fun v' w' h1 h2 _ h4 => h v' w' h1 h2 (by simpa using h4))
  have e1 : (⟨w1.heap.size, 0, none⟩ : Addr).add j = ⟨w1.heap.size, j, none⟩ := by unfold Addr.add; split <;> simp_all
  rw [e1]
  exact cell (new w1 _) (by simpa using hj)
/-- A slice that is read: row k of its sz cells each are the cells rows[k]; they lie in a block of ok. -/
def Rd (w : World) (ok : Nat → Prop) (sz : Nat) (v : Value) (rows : List (List Value)) : Prop :=
  ∃ A cap, v = .slice A rows.length cap ∧ rows.length ≤ cap ∧ cap ≤ 9223372036854775807 ∧ (rows ≠ [] → ∃ g o, A = some ⟨g, o, none⟩ ∧ ok g ∧ g < w.heap.size) ∧
    ∀ g o, A = some ⟨g, o, none⟩ → ∀ (k i : Nat) (r : List Value) (c : Value), rows[k]? = some r → r[i]? = some c → i < sz ∧ w.cell? ⟨g, o + k * sz + i, none⟩ = some c
namespace Rd
variable {w w1 : World} {ok ok' : Nat → Prop} {sz : Nat} {v : Value} {rows : List (List Value)}
theorem mono (h : Rd w ok sz v rows) (ho : ∀ k, ok k → ok' k) : Rd w ok' sz v rows := by
  obtain ⟨A, cap, e, h1, h2, h3, h4⟩ := h
  exact ⟨A, cap, e, h1, h2, fun hr => by obtain ⟨g, o, ea, hg, hl⟩ := h3 hr; exact ⟨g, o, ea, ho g hg, hl⟩, h4⟩
theorem step (h : Rd w ok sz v rows) (hs : w.heap.size ≤ w1.heap.size) (hm : ∀ k, ok k → k < w.heap.size → w1.heap[k]? = w.heap[k]?) : Rd w1 ok sz v rows := by
  obtain ⟨A, cap, e, h1, h2, h3, h4⟩ := h
  refine ⟨A, cap, e, h1, h2, fun hr => ?_, fun g o ea k i r c hr hc => ?_⟩
  · obtain ⟨g, o, ea, hg, hl⟩ := h3 hr
    exact ⟨g, o, ea, hg, by omega⟩
  · obtain ⟨hi, hcell⟩ := h4 g o ea k i r c hr hc
    obtain ⟨g', o', ea', hg, hl⟩ := h3 (by rintro rfl; simp at hr)
    rw [ea] at ea'
    cases ea'
    exact ⟨hi, (World.cell?_of_block (w := w) (w' := w1) (a := ⟨g, o + k * sz + i, none⟩) (hm g hg hl)).trans hcell⟩
theorem below (h : Rd w ok sz v rows) (hb : Below w.heap.size w w1) : Rd w1 ok sz v rows := h.step hb.size (fun k _ hk => hb.block k hk)
theorem ch {S : Nat → Prop} (h : Rd w ok sz v rows) (hb : Ch S w w1) (hd : ∀ k, ok k → ¬ S k) : Rd w1 ok sz v rows := h.step hb.size (fun k ho hk => hb.block k hk (hd k ho))
theorem nil (w : World) (ok : Nat → Prop) (sz : Nat) : Rd w ok sz (.slice none 0 0) [] := ⟨none, 0, rfl, Nat.le_refl _, by omega, fun h => absurd rfl h, fun g o h => by cases h⟩
theorem slice (h : Rd w ok sz v rows) : ∃ A cap, v = .slice A rows.length cap := by
  obtain ⟨A, cap, e, _⟩ := h
  exact ⟨A, cap, e⟩
theorem len (h : Rd w ok sz v rows) : rows.length ≤ 9223372036854775807 := by
  obtain ⟨A, cap, e, h1, h2, _⟩ := h
  omega
/-- Row k's cells. -/
theorem row {A : Option Addr} {n cap : Nat} (h : Rd w ok sz (.slice A n cap) rows) {k : Nat} {r : List Value} (hr : rows[k]? = some r) :
    ∃ g o, A = some ⟨g, o, none⟩ ∧ ok g ∧ g < w.heap.size ∧ ∀ i c, r[i]? = some c → w.cell? ⟨g, o + k * sz + i, none⟩ = some c := by
  obtain ⟨A', cap', e, h1, h2, h3, h4⟩ := h
  cases e
  obtain ⟨g, o, rfl, hg, hl⟩ := h3 (by rintro rfl; simp at hr)
  exact ⟨g, o, rfl, hg, hl, fun i c hc => (h4 g o rfl k i r c hr hc).2⟩
end Rd
theorem ret_int {k : IntKind} {a b : Int} (h : a = b) : Ending.returned (.int k a) = .returned (.int k b) := by rw [h]
theorem ret_bool {a b : Bool} (h : a = b) : Ending.returned (.bool a) = .returned (.bool b) := by rw [h]
theorem ret_str {a b : ByteArray} (h : a = b) : Ending.returned (.string a) = .returned (.string b) := by rw [h]
end Go.Proofs.YtpdceondgbgpkaaDoor.Mem
