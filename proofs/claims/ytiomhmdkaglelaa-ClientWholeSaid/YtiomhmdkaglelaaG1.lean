/- Blocks of memory, and what a call may have changed: plain lemmas on worlds. · More on worlds: stores of values that the walk's own laws leave out. · What an argument's data say of its cells: numbers, texts, structs, slices, however deep; with the sizes that the row's weights bound. · Plain functions that say what the bytes of numbers are: no program, no memory. -/
import Derived.WalkKit
import Derived.Lib.Hide
import Derived.Deep.Quiet
import Derived.Maps.AppendAt
import Derived.WalkSpells
import Derived.Deep.QuietTactic
import Derived.BigQuiet
import Derived.WalkLawsBesides
import Derived.SizedLaws
import Derived.ChangeArms
import Derived.Laws.Cover2
import Derived.WideShapes
namespace Go.Proofs.Ytiomhmdkaglelaa.Mem
open Go.RowKit
section
variable {w w1 w2 w' : World} {g g' j j' t : Nat} {c : Array Value} {v u : Value} {S S' : Nat → Prop} {o : Obj} {B : Nat}
theorem cell (h : w.heap[g]? = some (.cells c t (0, 0))) (hv : c[j]? = some v) : w.cell? ⟨g, j, none⟩ = some v := by
  simp [World.cell?, h, hv]
theorem free (h : w.heap[g]? = some (.cells c t (0, 0))) : w.frozen? ⟨g, j, none⟩ = false := by
  simp only [World.frozen?, h]
  simp
theorem lt (h : w.heap[g]? = some o) : g < w.heap.size := (Array.getElem?_eq_some_iff.1 h).1
theorem set (h : w.heap[g]? = some (.cells c t (0, 0))) : (w.setCell ⟨g, j, none⟩ u).heap[g]? = some (.cells (c.setIfInBounds j u) t (0, 0)) := by
  simp [World.setCell, Array.getElem?_modify, h]
theorem set_ne (h : w.heap[g]? = some o) (hne : g' ≠ g) : (w.setCell ⟨g', j, none⟩ u).heap[g]? = some o :=
  (Below.heap_setCell w ⟨g', j, none⟩ u g (fun e => hne e.symm)).trans h
theorem new (w : World) (o : Obj) : (w.alloc o).heap[w.heap.size]? = some o := by
  show (w.heap.push o)[w.heap.size]? = _
  rw [Array.getElem?_push_size]
theorem old (h : w.heap[g]? = some o) (o' : Obj) : (w.alloc o').heap[g]? = some o := (Below.heap_alloc w o' g (lt h)).trans h
theorem drew (h : w.heap[g]? = some o) : w.drew.heap[g]? = some o := h
theorem bdrewN {a : World} (h : Below B a w) (n : Nat) : Below B a (w.drewN n) := ⟨h.os, h.tape, h.output, h.size, h.block⟩
/-- Of what w has only the blocks of S may be other ones in w1. -/
structure Ch (S : Nat → Prop) (w w1 : World) : Prop where
  os : w1.os = w.os
  tape : w1.tape = w.tape
  output : w1.output = w.output
  size : w.heap.size ≤ w1.heap.size
  block : ∀ k, k < w.heap.size → ¬ S k → w1.heap[k]? = w.heap[k]?
namespace Ch
theorem refl (S : Nat → Prop) (w : World) : Ch S w w := ⟨rfl, rfl, rfl, Nat.le_refl _, fun _ _ _ => rfl⟩
theorem mono (h : Ch S w w1) (hs : ∀ k, k < w.heap.size → S k → S' k) : Ch S' w w1 := ⟨h.os, h.tape, h.output, h.size, fun k hk hn => h.block k hk (fun hS => hn (hs k hk hS))⟩
theorem trans (h : Ch S w w1) (h2 : Ch S' w1 w2) (hs : ∀ k, k < w.heap.size → S' k → S k) : Ch S w w2 :=
  ⟨h2.os.trans h.os, h2.tape.trans h.tape, h2.output.trans h.output, Nat.le_trans h.size h2.size, fun k hk hn => (h2.block k (Nat.lt_of_lt_of_le hk h.size) (fun hS => hn (hs k hk hS))).trans (h.block k hk hn)⟩
theorem trans' (h : Ch S w w1) (h2 : Ch S w1 w2) : Ch S w w2 := h.trans h2 (fun _ _ h => h)
theorem below (h : Ch S w w1) (hs : ∀ k, k < B → ¬ S k) (hB : B ≤ w.heap.size) : Below B w w1 := ⟨h.os, h.tape, h.output, h.size, fun k hk => h.block k (Nat.lt_of_lt_of_le hk hB) (hs k hk)⟩
theorem of_below (h : Below B w w1) : Ch (fun k => B ≤ k) w w1 := ⟨h.os, h.tape, h.output, h.size, fun k _ hn => h.block k (by omega)⟩
theorem of_below' (h : Below w.heap.size w w1) : Ch S w w1 := (of_below h).mono (fun k hk hs => by omega)
theorem drew (h : Ch S w w1) : Ch S w w1.drew := ⟨h.os, h.tape, h.output, h.size, h.block⟩
theorem drewN (h : Ch S w w1) (n : Nat) : Ch S w (w1.drewN n) := ⟨h.os, h.tape, h.output, h.size, h.block⟩
theorem alloc (h : Ch S w w1) (o : Obj) : Ch S w (w1.alloc o) := h.trans (of_below' ((Below.refl _ _).alloc (Nat.le_refl _) o)) (S' := S) (fun _ _ h => h)
theorem set (h : Ch S w w1) (hs : w.heap.size ≤ g ∨ S g) : Ch S w (w1.setCell ⟨g, j, none⟩ u) :=
  ⟨h.os, h.tape, h.output, by simpa [World.setCell] using h.size, fun k hk hn => (Below.heap_setCell w1 ⟨g, j, none⟩ u k (by rintro rfl; rcases hs with h | h; exact absurd hk (by omega); exact hn h)).trans (h.block k hk hn)⟩
theorem grown {row : Option Nat} (h : Ch S w w1) (hg : w1.grownBy w2 row) (hs : ∀ k, row = some k → w.heap.size ≤ k ∨ S k) : Ch S w w2 :=
  ⟨hg.os.trans h.os, hg.tape.trans h.tape, hg.output.trans h.output, Nat.le_trans h.size hg.size, fun k hk hn =>
    (hg.block k (Nat.lt_of_lt_of_le hk h.size) (fun e => by rcases hs k e.symm with h' | h'; exact absurd hk (by omega); exact hn h')).trans (h.block k hk hn)⟩
theorem at_ (h : Ch S w w1) (hb : w.heap[g]? = some o) (hs : ¬ S g) : w1.heap[g]? = some o := (h.block g (lt hb) hs).trans hb
end Ch
end
theorem own_base {w : World} {base : Nat} {e : TypeId} {size n : Nat} {v : Value} {xs : List Value} (h : w.ownsRow base e size v n xs) (k : Nat) (hk : v.ownBlock = some k) : base ≤ k := by
  rcases h.2 with ⟨rfl, _⟩ | ⟨g, cap, cur, rfl, hg, _⟩
  · simp [Value.ownBlock] at hk
  · have : g = k := by simpa [Value.ownBlock] using hk
    omega
/-- A slice literal of one element. -/
theorem own_new (w : World) (e size : Nat) (cs : List Value) (h : cs.length = size) : (w.alloc (.cells cs.toArray e)).ownsRow w.heap.size e size (.slice (some ⟨w.heap.size, 0, none⟩) 1 1) 1 cs :=
  ⟨by omega, .inr ⟨w.heap.size, 1, cs.toArray, rfl, Nat.le_refl _, new w _, Nat.le_refl _, by decide, by simp [h], by rw [Nat.one_mul, ← h]; exact List.take_length⟩⟩
/-- 'append(v, x)' of one element, laid in a new block. -/
theorem append_one {P : Program} {ops : Array Oper} {rest : List Oper} {o : Oper} {a : Act} {Q : Exit → Act → World → Prop} (hgd : o.guard = none) (s x : Operand) (t : TypeId)
    (ho : o.op = .call { callee := .builtin .append, args := #[s, x], argTypes := #[t, t] })
    (base : Nat) (e : TypeId) (i : TypeInfo) (z : Value) (size bytes : Nat) (ht : P.underlying t = some (.slice e)) (hi : P.info? e = some i) (hz : i.zero = some z)
    (hsize : i.size = size) (hby : i.bytes = bytes) (hzs : z.cells.size = size) (hsz : 0 < size)
    (w1 : World) (v : Value) (n : Nat) (xs : List Value) (hs : a.eval s = v) (hown : w1.ownsRow base e size v n xs)
    (cs : List Value) (hcs : cs.length = size) (h1 : ∀ u ∈ cs, u.oneCell' = true) (hx : a.eval x = .slice (some ⟨w1.heap.size, 0, none⟩) 1 1)
    (h63 : n + 1 ≤ maxLen) (hbytes : (n + 1) * bytes ≤ 140737488355328) (hbase : base ≤ w1.heap.size)
    (h : ∀ v' w', w'.ownsRow base e size v' (n + 1) (xs ++ cs) → (w1.alloc (.cells cs.toArray e)).grownBy w' v.ownBlock → (v'.ownBlock = v.ownBlock ∨ v'.ownBlock = some (w1.heap.size + 1)) → wpList P ops Q rest (a.put o.dst v') w') :
    wpList P ops Q (o :: rest) a (w1.alloc (.cells cs.toArray e)) := by
  refine wpList_append_own_at (w := w1.alloc (.cells cs.toArray e)) hgd s x t ho base e i z size bytes ht hi hz hsize hby hzs hsz v n xs hs (hown.alloc _) ⟨w1.heap.size, 0, none⟩ 1 1 cs hx (by rw [hcs, Nat.one_mul]) (fun j u hj => ?_) h1 h63 hbytes (by simp; omega) (fun v' w' h1 h2 _ h4 => h v' w' h1 h2 (by simpa using h4))
  have e1 : (⟨w1.heap.size, 0, none⟩ : Addr).add j = ⟨w1.heap.size, j, none⟩ := by unfold Addr.add; split <;> simp_all
  rw [e1]
  exact cell (new w1 _) (by simpa using hj)
/-- A slice that is read: row k of its sz cells each are the cells rows[k]; they lie in a block of ok. -/
def Rd (w : World) (ok : Nat → Prop) (sz : Nat) (v : Value) (rows : List (List Value)) : Prop :=
  ∃ A cap, v = .slice A rows.length cap ∧ rows.length ≤ cap ∧ cap ≤ 9223372036854775807 ∧ (rows ≠ [] → ∃ g o, A = some ⟨g, o, none⟩ ∧ ok g ∧ g < w.heap.size) ∧
    ∀ g o, A = some ⟨g, o, none⟩ → ∀ (k i : Nat) (r : List Value) (c : Value), rows[k]? = some r → r[i]? = some c → i < sz ∧ w.cell? ⟨g, o + k * sz + i, none⟩ = some c
namespace Rd
variable {w w1 : World} {ok ok' : Nat → Prop} {sz : Nat} {v : Value} {rows : List (List Value)}
theorem mono (h : Rd w ok sz v rows) (ho : ∀ k, ok k → ok' k) : Rd w ok' sz v rows := by
  obtain ⟨A, cap, e, h1, h2, h3, h4⟩ := h
  exact ⟨A, cap, e, h1, h2, fun hr => by obtain ⟨g, o, ea, hg, hl⟩ := h3 hr; exact ⟨g, o, ea, ho g hg, hl⟩, h4⟩
theorem step (h : Rd w ok sz v rows) (hs : w.heap.size ≤ w1.heap.size) (hm : ∀ k, ok k → k < w.heap.size → w1.heap[k]? = w.heap[k]?) : Rd w1 ok sz v rows := by
  obtain ⟨A, cap, e, h1, h2, h3, h4⟩ := h
  refine ⟨A, cap, e, h1, h2, fun hr => ?_, fun g o ea k i r c hr hc => ?_⟩
  · obtain ⟨g, o, ea, hg, hl⟩ := h3 hr
    exact ⟨g, o, ea, hg, by omega⟩
  · obtain ⟨hi, hcell⟩ := h4 g o ea k i r c hr hc
    obtain ⟨g', o', ea', hg, hl⟩ := h3 (by rintro rfl; simp at hr)
    rw [ea] at ea'
    cases ea'
    exact ⟨hi, (World.cell?_of_block (w := w) (w' := w1) (a := ⟨g, o + k * sz + i, none⟩) (hm g hg hl)).trans hcell⟩
theorem below (h : Rd w ok sz v rows) (hb : Below w.heap.size w w1) : Rd w1 ok sz v rows := h.step hb.size (fun k _ hk => hb.block k hk)
theorem ch {S : Nat → Prop} (h : Rd w ok sz v rows) (hb : Ch S w w1) (hd : ∀ k, ok k → ¬ S k) : Rd w1 ok sz v rows := h.step hb.size (fun k ho hk => hb.block k hk (hd k ho))
theorem nil (w : World) (ok : Nat → Prop) (sz : Nat) : Rd w ok sz (.slice none 0 0) [] := ⟨none, 0, rfl, Nat.le_refl _, by omega, fun h => absurd rfl h, fun g o h => by cases h⟩
theorem slice (h : Rd w ok sz v rows) : ∃ A cap, v = .slice A rows.length cap := by
  obtain ⟨A, cap, e, _⟩ := h
  exact ⟨A, cap, e⟩
theorem len (h : Rd w ok sz v rows) : rows.length ≤ 9223372036854775807 := by
  obtain ⟨A, cap, e, h1, h2, _⟩ := h
  omega
/-- Row k's cells. -/
theorem row {A : Option Addr} {n cap : Nat} (h : Rd w ok sz (.slice A n cap) rows) {k : Nat} {r : List Value} (hr : rows[k]? = some r) :
    ∃ g o, A = some ⟨g, o, none⟩ ∧ ok g ∧ g < w.heap.size ∧ ∀ i c, r[i]? = some c → w.cell? ⟨g, o + k * sz + i, none⟩ = some c := by
  obtain ⟨A', cap', e, h1, h2, h3, h4⟩ := h
  cases e
  obtain ⟨g, o, rfl, hg, hl⟩ := h3 (by rintro rfl; simp at hr)
  exact ⟨g, o, rfl, hg, hl, fun i c hc => (h4 g o rfl k i r c hr hc).2⟩
end Rd
theorem ret_int {k : IntKind} {a b : Int} (h : a = b) : Ending.returned (.int k a) = .returned (.int k b) := by rw [h]
theorem ret_bool {a b : Bool} (h : a = b) : Ending.returned (.bool a) = .returned (.bool b) := by rw [h]
theorem ret_str {a b : ByteArray} (h : a = b) : Ending.returned (.string a) = .returned (.string b) := by rw [h]
end Go.Proofs.Ytiomhmdkaglelaa.Mem
namespace Go.Proofs.Ytiomhmdkaglelaa.Mem
open Go.RowKit
/-- A store of a real number, for the walk. -/
theorem run_store_float {P : Program} (w : World) (a : Addr) (m : Mode) (k : FloatKind) (b : Nat) : (store a (.float k b) m).run P w = stored P w a (.float k b) m := run_store P w a _ m rfl
/-! ### A region that draws its order, whose operations read or call what makes memory: one walk in the text's order serves every order. -/
/-- A world in which all that W has is as it was. -/
structure After (W : World) where
  w : World
  h : Below W.heap.size W w
instance (W : World) : Nonempty (After W) := ⟨⟨W, Below.refl _ _⟩⟩
namespace After
variable {W : World}
theorem cell (x : After W) (b o : Nat) (h : b < W.heap.size) : x.w.cell? ⟨b, o, none⟩ = W.cell? ⟨b, o, none⟩ := x.h.cell (p := ⟨b, o, none⟩) h
theorem heap (x : After W) (b : Nat) (h : b < W.heap.size) : x.w.heap[b]? = W.heap[b]? := x.h.block b h
theorem call {P : Program} {f : FuncId} {args : Array Value} {v : Value} (x : After W) (h : Calls P f args x.w fun e w' => e = .returned v ∧ Below x.w.heap.size x.w w') :
    Calls P f args x.w fun e w' => e = .returned v ∧ ∃ y : After W, w' = y.w :=
  h.mono fun _ w' ⟨he, hb⟩ => ⟨he, ⟨w', x.h.trans (hb.mono x.h.size)⟩, rfl⟩
theorem same {P : Program} {f : FuncId} {args : Array Value} {v : Value} (x : After W) (h : Calls P f args x.w fun e w' => e = .returned v ∧ w' = x.w) :
    Calls P f args x.w fun e w' => e = .returned v ∧ ∃ y : After W, w' = y.w :=
  h.mono fun _ _ ⟨he, hb⟩ => ⟨he, x, hb⟩
end After
theorem wpQuiet_mono {P : Program} {ops : Array Oper} {C : World → Prop} {Q Q' : Act → Prop} (h : ∀ a, Q a → Q' a) : ∀ (l : List Oper) (a : Act), wpQuiet P ops C Q l a → wpQuiet P ops C Q' l a
  | [], _, hh => h _ hh
  | _ :: rest, _, hh => by
    unfold wpQuiet at hh ⊢
    split
    · rename_i hw
      simp only [hw, if_true] at hh
      exact Oper.quiet_mono (fun a => wpQuiet_mono h rest a) hh
    · rename_i hw
      simp only [hw] at hh
      exact wpQuiet_mono h rest _ hh
theorem wp_region_after {P : Program} {id : Nat} {Q : Exit → Act → World → Prop} {a : Act} {W : World} {l : List Oper} (hm : P.follows .mixedOrders = true) (hB : Region.lexB .any l.toArray = true)
    (h : wpQuiet P l.toArray (fun w' => ∃ y : After W, w' = y.w) (fun a' => ∀ w1, Below W.heap.size W w1 → Q .normal a' w1) l a) : (Code.region id l.toArray true).wp P Q a W :=
  wp_region_quiet (C := fun w' => ∃ y : After W, w' = y.w) hm hB ⟨⟨_, (Below.refl _ _).drew⟩, rfl⟩ (by
    have h2 := wpQuiet_mono (Q' := fun a' => ∀ w', (∃ y : After W, w' = y.w) → Q .normal a' w') (fun a' h w' hw' => by obtain ⟨y, rfl⟩ := hw'; exact h y.w y.h) l a h
    simpa using h2)
end Go.Proofs.Ytiomhmdkaglelaa.Mem
namespace Go.Proofs.Ytiomhmdkaglelaa.Seen
open Go.RowKit
set_option linter.unusedVariables false
/-- The cells cs are seen as data of type t, each text and row of which is not greater than memory is. -/
def Sees {H : Type} (enc : TypeId × Value → H) (P : Program) (W : World) (t : TypeId) (cs : List Value) : Prop :=
  ∃ fuel x, DataW.trod enc P W 0 (fun _ => true) true fuel t cs = some x ∧ ∀ n ∈ x.1.weights P t, n ≤ 140737488351232
section
variable {H : Type} {enc : TypeId × Value → H} {P : Program} {W : World} {t e : TypeId} {cs : List Value}
/-- An argument of a row. -/
theorem of_arg {ts : List TypeId} {ds : List (DataW H)} {j : Nat} {v : Value} {d : DataW H} {p : List MemPlace} (hsz : (DataW.weightsEach P ts ds).all (· ≤ reachBytes) = true) (ht : ts[j]? = some t) (hd : ds[j]? = some d)
    (h : DataW.Trod enc P W 0 (fun _ => true) true t v d p) : Sees enc P W t v.cells.toList := by
  obtain ⟨fuel, hf⟩ := h
  refine ⟨fuel, _, hf, fun n hn => ?_⟩
  have := List.all_eq_true.1 hsz _ (DataW.weights_mem_each ht hd n hn)
  have h2 : n ≤ reachBytes := by simpa using this
  exact h2
theorem int {k : IntKind} (ht : P.underlying t = some (.int k)) (h : Sees enc P W t cs) : ∃ n, cs = [.int k n] ∧ (Lit.int k n).wf = true := by
  obtain ⟨fuel, x, hx, hz⟩ := h
  obtain ⟨n, e1, _, e3⟩ := DataW.trod_int ht hx
  exact ⟨n, e1, e3⟩
theorem str (ht : P.underlying t = some .string) (h : Sees enc P W t cs) : ∃ s, cs = [.string s] ∧ s.size ≤ 140737488351232 := by
  obtain ⟨fuel, x, hx, hz⟩ := h
  obtain ⟨s, e1, rfl, e3⟩ := DataW.trod_string ht hx
  refine ⟨s, e1, ?_⟩
  have := hz s.data.toList.length (by simp [DataW.weights])
  simpa using this
theorem bool (ht : P.underlying t = some .bool) (h : Sees enc P W t cs) : ∃ b, cs = [.bool b] := by
  obtain ⟨fuel, x, hx, hz⟩ := h
  obtain ⟨n, e1, _⟩ := DataW.trod_bool ht hx
  exact ⟨n, e1⟩
theorem float {k : FloatKind} (ht : P.underlying t = some (.float k)) (h : Sees enc P W t cs) : ∃ b, cs = [.float k b] := by
  obtain ⟨fuel, x, hx, hz⟩ := h
  cases fuel with
  | zero => simp [DataW.trod] at hx
  | succ n =>
    unfold DataW.trod at hx
    rw [ht] at hx
    split at hx <;> simp_all
theorem mem_all {l : List (DataW H)} {d : DataW H} {n : Nat} (hd : d ∈ l) (hn : n ∈ d.weights P e) : n ∈ DataW.weightsAll P e l := by
  induction l with
  | nil => simp at hd
  | cons a l ih =>
    rw [DataW.weightsAll, List.mem_append]
    rcases List.mem_cons.1 hd with rfl | h
    · exact .inl hn
    · exact .inr (ih h)
theorem struct {fs : Array Field} (ht : P.underlying t = some (.struct fs)) (h : Sees enc P W t cs) :
    cs.length = P.cellsOf t ∧ ∀ (i : Nat) (f : Go.Field), fs[i]? = some f → Sees enc P W f.type ((cs.drop f.offset).take (P.cellsOf f.type)) := by
  obtain ⟨fuel, x, hx, hz⟩ := h
  obtain ⟨xs, n, _, rfl, hl, hs, hp⟩ := DataW.trod_struct ht hx
  refine ⟨hl, fun i f hf => ?_⟩
  have hi : i < fs.size := (Array.getElem?_eq_some_iff.1 hf).1
  obtain ⟨y, hy⟩ : ∃ y, xs[i]? = some y := ⟨_, List.getElem?_eq_getElem (by omega)⟩
  refine ⟨n, y, (hp i f hf).trans hy, fun m hm => hz m ?_⟩
  simp only [DataW.weights, ht]
  refine DataW.weights_mem_each (j := i) (t := f.type) (d := y.1) ?_ ?_ m hm
  · simp [hf]
  · simp [hy]
theorem part {fs : Array Field} (ht : P.underlying t = some (.struct fs)) (h : Sees enc P W t cs) (i T off n : Nat) (hf : (fs[i]?).map (fun f : Go.Field => (f.type, f.offset)) = some (T, off)) (hn : P.cellsOf T = n) : Sees enc P W T ((cs.drop off).take n) := by
  obtain ⟨f, hf, hv⟩ := Option.map_eq_some_iff.1 hf
  injection hv with h1 h2
  have := (struct ht h).2 i f hf
  rw [h1, h2, hn] at this
  exact this
theorem slice (ht : P.underlying t = some (.slice e)) (h : Sees enc P W t cs) :
    cs = [.slice none 0 0] ∨ ∃ a len cap, cs = [.slice (some a) len cap] ∧ len ≤ cap ∧ cap ≤ maxLen ∧ cap * P.bytesOf e ≤ 140737488351232 ∧
      ∀ i, i < len → ∃ r, W.cells? 0 (a.add (i * P.cellsOf e)) (P.cellsOf e) = some r ∧ Sees enc P W e r := by
  obtain ⟨fuel, x, hx, hz⟩ := h
  rcases DataW.trod_slice ht hx with ⟨rfl, _⟩ | ⟨a, len, cap, elems, rest, n, _, rfl, rfl, hb, hl, hm, hlen, hel, hsp, _⟩
  · exact .inl rfl
  refine .inr ⟨a, len, cap, rfl, hl, hm, ?_, fun i hi => ?_⟩
  · have := hz ((elems.length + rest.length) * P.bytesOf e) (by simp [DataW.weights, ht])
    have h2 := (hsp rfl).1
    rw [hlen, h2, show len + (cap - len) = cap by omega] at this
    exact this
  · obtain ⟨y, hy⟩ : ∃ y, elems[i]? = some y := ⟨_, List.getElem?_eq_getElem (by omega)⟩
    have h1 := hel i hi
    rw [hy, Option.bind_eq_some_iff] at h1
    obtain ⟨r, hr, hrx⟩ := h1
    refine ⟨r, hr, n, y, hrx, fun m hm' => hz m ?_⟩
    simp only [DataW.weights, ht, List.mem_cons, List.mem_append]
    refine .inr (.inl (mem_all (d := y.1) ?_ hm'))
    exact List.mem_map.2 ⟨y, List.mem_of_getElem? hy, rfl⟩
/-- A slice is read, row by row. -/
theorem rows (sz : Nat) (ht : P.underlying t = some (.slice e)) (hc : P.cellsOf e = sz) (h0 : 0 < sz) (h : Sees enc P W t cs) :
    ∃ v rs, cs = [v] ∧ Mem.Rd W (fun g => g < W.heap.size) sz v rs ∧ rs.length * P.bytesOf e ≤ 140737488351232 ∧ ∀ r ∈ rs, r.length = sz ∧ Sees enc P W e r := by
  rcases slice ht h with rfl | ⟨a, len, cap, rfl, hl, hm, hby, hel⟩
  · exact ⟨_, [], rfl, Mem.Rd.nil _ _ _, by simp, fun r hr => by simp at hr⟩
  rw [hc] at hel
  have hch : ∃ rs : List (List Value), rs.length = len ∧ ∀ i r, rs[i]? = some r → W.cells? 0 (a.add (i * sz)) sz = some r ∧ Sees enc P W e r := by
    refine ⟨(List.range len).map (fun i => if hi : i < len then (hel i hi).choose else []), by simp, fun i r hr => ?_⟩
    rw [List.getElem?_map] at hr
    obtain ⟨j, hj, rfl⟩ := Option.map_eq_some_iff.1 hr
    have hji : i < len ∧ j = i := by
      have h1 := (List.getElem?_eq_some_iff.1 hj)
      obtain ⟨h2, h3⟩ := h1
      simp at h2 h3
      exact ⟨h2, h3.symm⟩
    obtain ⟨hi, rfl⟩ := hji
    rw [dif_pos hi]
    exact (hel j hi).choose_spec
  obtain ⟨rs, hlen, hrs⟩ := hch
  subst hlen
  refine ⟨_, rs, rfl, ⟨some a, cap, rfl, hl, by unfold maxLen at hm; omega, fun hne => ?_, fun g o ea k i r c hk hi => ?_⟩, ?_, fun r hr => ?_⟩
  · cases rs with
    | nil => exact absurd rfl hne
    | cons r rs =>
      have h1 := (hrs 0 r rfl).1
      obtain ⟨hb, hlr, hcell⟩ := World.cells?_some h1
      have h2 := hcell 0 h0
      obtain ⟨c, hcc⟩ : ∃ c, r[0]? = some c := ⟨_, List.getElem?_eq_getElem (by omega)⟩
      rw [hcc, Nat.zero_mul] at h2
      have e0 : (a.add 0).add 0 = a := by simp [Addr.add]
      rw [e0] at h2
      unfold World.cell? at h2
      split at h2
      · rename_i cc tt ff hh
        split at h2
        · cases h2
        · rename_i hs
          refine ⟨a.block, a.off, ?_, (Array.getElem?_eq_some_iff.1 hh).1, (Array.getElem?_eq_some_iff.1 hh).1⟩
          cases a with
          | mk b o s =>
            cases s with
            | none => rfl
            | some s => simp at hs
      · cases h2
  · cases ea
    obtain ⟨hb, hlr, hcell⟩ := World.cells?_some (hrs k r hk).1
    have hi' := (List.getElem?_eq_some_iff.1 hi).1
    refine ⟨by omega, ?_⟩
    have h2 := hcell i (by omega)
    rw [hi] at h2
    have e1 : ((⟨g, o, none⟩ : Addr).add (k * sz)).add i = ⟨g, o + k * sz + i, none⟩ := by
      have h3 : ∀ g o j, (⟨g, o, none⟩ : Addr).add j = ⟨g, o + j, none⟩ := fun g o j => by unfold Addr.add; split <;> simp_all
      rw [h3, h3]
    rw [e1] at h2
    exact h2
  · exact Nat.le_trans (Nat.mul_le_mul_right _ hl) hby
  · obtain ⟨k, hk⟩ := List.getElem?_of_mem hr
    obtain ⟨h1, h2⟩ := hrs k r hk
    exact ⟨(World.cells?_some h1).2.1, h2⟩
end
end Go.Proofs.Ytiomhmdkaglelaa.Seen
namespace Go.Proofs.Ytiomhmdkaglelaa.Sp
/-- The k lowest bytes of n, the highest first. -/
def be : Nat → Nat → List UInt8
  | 0, _ => []
  | k + 1, n => UInt8.ofNat (n / 256 ^ k) :: be k n
/-- How many bytes a number has (at least one). -/
def width : Nat → Nat → Nat
  | 0, _ => 1
  | f + 1, n => if n < 256 then 1 else width f (n / 256) + 1
def wd (n : Nat) : Nat := width 8 n
/-- A number's bytes. -/
def num (n : Nat) : List UInt8 := if n ≤ 247 then [UInt8.ofNat n] else UInt8.ofNat (247 + wd n) :: be (wd n) n
theorem be_length (k n : Nat) : (be k n).length = k := by
  induction k with
  | zero => rfl
  | succ k ih => simp [be, ih]
theorem width_pos : ∀ f n, 1 ≤ width f n
  | 0, _ => Nat.le_refl _
  | f + 1, n => by unfold width; split <;> omega
theorem width_le : ∀ f n, width f n ≤ f + 1
  | 0, _ => Nat.le_refl _
  | f + 1, n => by
    unfold width
    split
    · omega
    · have := width_le f (n / 256); omega
/-- n is below 256^k just where it has at most k bytes. -/
theorem width_lt : ∀ f n k, 1 ≤ k → k ≤ f → (n < 256 ^ k ↔ width f n ≤ k)
  | 0, n, k, h1, h2 => by omega
  | f + 1, n, k, h1, h2 => by
    unfold width
    by_cases h : n < 256
    · rw [if_pos h]
      have : 256 ^ 1 ≤ 256 ^ k := Nat.pow_le_pow_right (by omega) h1
      constructor
      · intro _; exact h1
      · intro _; omega
    · rw [if_neg h]
      obtain ⟨k, rfl⟩ : ∃ m, k = m + 1 := ⟨k - 1, by omega⟩
      by_cases hk : k = 0
      · subst hk
        have := width_pos f (n / 256)
        constructor <;> intro _ <;> omega
      · have ih := width_lt f (n / 256) k (by omega) (by omega)
        have e : n < 256 ^ (k + 1) ↔ n / 256 < 256 ^ k := by
          rw [Nat.pow_succ, Nat.div_lt_iff_lt_mul (by omega)]
        rw [e, ih]
        omega
theorem wd_pos (n : Nat) : 1 ≤ wd n := width_pos 8 n
theorem wd_lt (n k : Nat) (h1 : 1 ≤ k) (h2 : k ≤ 8) : n < 256 ^ k ↔ wd n ≤ k := width_lt 8 n k h1 h2
theorem wd_le (n : Nat) (h : n < 18446744073709551616) : wd n ≤ 8 := (wd_lt n 8 (by omega) (by omega)).1 (by omega)
theorem num_pos (n : Nat) : num n ≠ [] := by unfold num; split <;> simp
theorem num_length (n : Nat) (h : n < 18446744073709551616) : 1 ≤ (num n).length ∧ (num n).length ≤ 9 := by
  have := wd_le n h
  unfold num
  split <;> simp [be_length] <;> omega
/-- A text, by its bytes. -/
def bs (l : List UInt8) : ByteArray := ⟨l.toArray⟩
theorem bs_size (l : List UInt8) : (bs l).size = l.length := by simp [bs, ByteArray.size]
theorem bs_toList (l : List UInt8) : (bs l).data.toList = l := by simp [bs]
theorem bs_append (a b : List UInt8) : bs a ++ bs b = bs (a ++ b) := by
  apply ByteArray.ext
  simp [bs]
theorem bs_of (s : ByteArray) : bs s.data.toList = s := rfl
theorem bs_inj {a b : List UInt8} (h : bs a = bs b) : a = b := by
  have := congrArg (fun s : ByteArray => s.data.toList) h
  simpa [bs] using this
def fold (n : Int) : Int := if 0 ≤ n then 2 * n else -2 * n - 1
/-- A whole number's bytes, a text's. -/
def intB (n : Int) : List UInt8 := num (fold n).toNat
def textS (s : ByteArray) : ByteArray := bs (num s.size) ++ s
end Go.Proofs.Ytiomhmdkaglelaa.Sp
