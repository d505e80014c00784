/- Blocks of memory, and what a call may have changed: plain lemmas on worlds. · More on worlds: stores of values that the walk's own laws leave out. · What an argument's data say of its cells: numbers, texts, structs, slices, however deep; with the sizes that the row's weights bound. · A disk, plain: files as a function from names; a row of changes; no program. -/
import Derived.WalkKit
import Derived.Lib.Hide
import Derived.Deep.Quiet
import Derived.Maps.AppendAt
import Derived.WalkSpells
import Derived.Deep.QuietTactic
import Derived.BigQuiet
import Derived.WalkLawsBesides
import Derived.SizedLaws
import Derived.ChangeArms
import Derived.Laws.Cover2
import Derived.WideShapes
import Derived.Maps.Views
import Derived.RowKit
namespace Go.Proofs.YtpdceondgbgpkaaGreatDoor.Mem
open Go.RowKit
section
variable {w w1 w2 w' : World} {g g' j j' t : Nat} {c : Array Value} {v u : Value} {S S' : Nat → Prop} {o : Obj} {B : Nat}
theorem cell (h : w.heap[g]? = some (.cells c t (0, 0))) (hv : c[j]? = some v) : w.cell? ⟨g, j, none⟩ = some v := by
  simp [World.cell?, h, hv]
theorem free (h : w.heap[g]? = some (.cells c t (0, 0))) : w.frozen? ⟨g, j, none⟩ = false := by
  simp only [World.frozen?, h]
  simp
theorem lt (h : w.heap[g]? = some o) : g < w.heap.size := (Array.getElem?_eq_some_iff.1 h).1
theorem set (h : w.heap[g]? = some (.cells c t (0, 0))) : (w.setCell ⟨g, j, none⟩ u).heap[g]? = some (.cells (c.setIfInBounds j u) t (0, 0)) := by
  simp [World.setCell, Array.getElem?_modify, h]
theorem set_ne (h : w.heap[g]? = some o) (hne : g' ≠ g) : (w.setCell ⟨g', j, none⟩ u).heap[g]? = some o :=
  (Below.heap_setCell w ⟨g', j, none⟩ u g (fun e => hne e.symm)).trans h
theorem new (w : World) (o : Obj) : (w.alloc o).heap[w.heap.size]? = some o := by
  show (w.heap.push o)[w.heap.size]? = _
  rw [Array.getElem?_push_size]
theorem old (h : w.heap[g]? = some o) (o' : Obj) : (w.alloc o').heap[g]? = some o := (Below.heap_alloc w o' g (lt h)).trans h
theorem drew (h : w.heap[g]? = some o) : w.drew.heap[g]? = some o := h
theorem bdrewN {a : World} (h : Below B a w) (n : Nat) : Below B a (w.drewN n) := ⟨h.os, h.tape, h.output, h.size, h.block⟩
/-- Of what w has only the blocks of S may be other ones in w1. -/
structure Ch (S : Nat → Prop) (w w1 : World) : Prop where
  os : w1.os = w.os
  tape : w1.tape = w.tape
  output : w1.output = w.output
  size : w.heap.size ≤ w1.heap.size
  block : ∀ k, k < w.heap.size → ¬ S k → w1.heap[k]? = w.heap[k]?
namespace Ch
theorem refl (S : Nat → Prop) (w : World) : Ch S w w := ⟨rfl, rfl, rfl, Nat.le_refl _, fun _ _ _ => rfl⟩
theorem mono (h : Ch S w w1) (hs : ∀ k, k < w.heap.size → S k → S' k) : Ch S' w w1 := ⟨h.os, h.tape, h.output, h.size, fun k hk hn => h.block k hk (fun hS => hn (hs k hk hS))⟩
theorem trans (h : Ch S w w1) (h2 : Ch S' w1 w2) (hs : ∀ k, k < w.heap.size → S' k → S k) : Ch S w w2 :=
  ⟨h2.os.trans h.os, h2.tape.trans h.tape, h2.output.trans h.output, Nat.le_trans h.size h2.size, fun k hk hn => (h2.block k (Nat.lt_of_lt_of_le hk h.size) (fun hS => hn (hs k hk hS))).trans (h.block k hk hn)⟩
theorem trans' (h : Ch S w w1) (h2 : Ch S w1 w2) : Ch S w w2 := h.trans h2 (fun _ _ h => h)
theorem below (h : Ch S w w1) (hs : ∀ k, k < B → ¬ S k) (hB : B ≤ w.heap.size) : Below B w w1 := ⟨h.os, h.tape, h.output, h.size, fun k hk => h.block k (Nat.lt_of_lt_of_le hk hB) (hs k hk)⟩
theorem of_below (h : Below B w w1) : Ch (fun k => B ≤ k) w w1 := ⟨h.os, h.tape, h.output, h.size, fun k _ hn => h.block k (by omega)⟩
theorem of_below' (h : Below w.heap.size w w1) : Ch S w w1 := (of_below h).mono (fun k hk hs => by omega)
theorem drew (h : Ch S w w1) : Ch S w w1.drew := ⟨h.os, h.tape, h.output, h.size, h.block⟩
theorem drewN (h : Ch S w w1) (n : Nat) : Ch S w (w1.drewN n) := ⟨h.os, h.tape, h.output, h.size, h.block⟩
theorem alloc (h : Ch S w w1) (o : Obj) : Ch S w (w1.alloc o) := h.trans (of_below' ((Below.refl _ _).alloc (Nat.le_refl _) o)) (S' := S) (fun _ _ h => h)
theorem set (h : Ch S w w1) (hs : w.heap.size ≤ g ∨ S g) : Ch S w (w1.setCell ⟨g, j, none⟩ u) :=
  ⟨h.os, h.tape, h.output, by simpa [World.setCell] using h.size, fun k hk hn => (Below.heap_setCell w1 ⟨g, j, none⟩ u k (by rintro rfl; rcases hs with h | h; exact absurd hk (by omega); exact hn h)).trans (h.block k hk hn)⟩
theorem grown {row : Option Nat} (h : Ch S w w1) (hg : w1.grownBy w2 row) (hs : ∀ k, row = some k → w.heap.size ≤ k ∨ S k) : Ch S w w2 :=
  ⟨hg.os.trans h.os, hg.tape.trans h.tape, hg.output.trans h.output, Nat.le_trans h.size hg.size, fun k hk hn =>
    (hg.block k (Nat.lt_of_lt_of_le hk h.size) (fun e => by rcases hs k e.symm with h' | h'; exact absurd hk (by omega); exact hn h')).trans (h.block k hk hn)⟩
theorem at_ (h : Ch S w w1) (hb : w.heap[g]? = some o) (hs : ¬ S g) : w1.heap[g]? = some o := (h.block g (lt hb) hs).trans hb
end Ch
end
theorem own_base {w : World} {base : Nat} {e : TypeId} {size n : Nat} {v : Value} {xs : List Value} (h : w.ownsRow base e size v n xs) (k : Nat) (hk : v.ownBlock = some k) : base ≤ k := by
  rcases h.2 with ⟨rfl, _⟩ | ⟨g, cap, cur, rfl, hg, _⟩
  · simp [Value.ownBlock] at hk
  · have : g = k := by simpa [Value.ownBlock] using hk
    omega
/-- A slice literal of one element. -/
theorem own_new (w : World) (e size : Nat) (cs : List Value) (h : cs.length = size) : (w.alloc (.cells cs.toArray e)).ownsRow w.heap.size e size (.slice (some ⟨w.heap.size, 0, none⟩) 1 1) 1 cs :=
  ⟨by omega, .inr ⟨w.heap.size, 1, cs.toArray, rfl, Nat.le_refl _, new w _, Nat.le_refl _, by decide, by simp [h], by rw [Nat.one_mul, ← h]; exact List.take_length⟩⟩
/-- 'append(v, x)' of one element, laid in a new block. -/
theorem append_one {P : Program} {ops : Array Oper} {rest : List Oper} {o : Oper} {a : Act} {Q : Exit → Act → World → Prop} (hgd : o.guard = none) (s x : Operand) (t : TypeId)
    (ho : o.op = .call { callee := .builtin .append, args := #[s, x], argTypes := #[t, t] })
    (base : Nat) (e : TypeId) (i : TypeInfo) (z : Value) (size bytes : Nat) (ht : P.underlying t = some (.slice e)) (hi : P.info? e = some i) (hz : i.zero = some z)
    (hsize : i.size = size) (hby : i.bytes = bytes) (hzs : z.cells.size = size) (hsz : 0 < size)
    (w1 : World) (v : Value) (n : Nat) (xs : List Value) (hs : a.eval s = v) (hown : w1.ownsRow base e size v n xs)
    (cs : List Value) (hcs : cs.length = size) (h1 : ∀ u ∈ cs, u.oneCell' = true) (hx : a.eval x = .slice (some ⟨w1.heap.size, 0, none⟩) 1 1)
    (h63 : n + 1 ≤ maxLen) (hbytes : (n + 1) * bytes ≤ 140737488355328) (hbase : base ≤ w1.heap.size)
    (h : ∀ v' w', w'.ownsRow base e size v' (n + 1) (xs ++ cs) → (w1.alloc (.cells cs.toArray e)).grownBy w' v.ownBlock → (v'.ownBlock = v.ownBlock ∨ v'.ownBlock = some (w1.heap.size + 1)) → wpList P ops Q rest (a.put o.dst v') w') :
    wpList P ops Q (o :: rest) a (w1.alloc (.cells cs.toArray e)) := by
  refine wpList_append_own_at (w := w1.alloc (.cells cs.toArray e)) hgd s x t ho base e i z size bytes ht hi hz hsize hby hzs hsz v n xs hs (hown.alloc _) ⟨w1.heap.size, 0, none⟩ 1 1 cs hx (by rw [hcs, Nat.one_mul]) (fun j u hj => ?_) h1 h63 hbytes (by simp; omega) (fun v' w' h1 h2 _ h4 => h v' w' h1 h2 (by simpa using h4))
  have e1 : (⟨w1.heap.size, 0, none⟩ : Addr).add j = ⟨w1.heap.size, j, none⟩ := by unfold Addr.add; split <;> simp_all
  rw [e1]
  exact cell (new w1 _) (by simpa using hj)
/-- A slice that is read: row k of its sz cells each are the cells rows[k]; they lie in a block of ok. -/
def Rd (w : World) (ok : Nat → Prop) (sz : Nat) (v : Value) (rows : List (List Value)) : Prop :=
  ∃ A cap, v = .slice A rows.length cap ∧ rows.length ≤ cap ∧ cap ≤ 9223372036854775807 ∧ (rows ≠ [] → ∃ g o, A = some ⟨g, o, none⟩ ∧ ok g ∧ g < w.heap.size) ∧
    ∀ g o, A = some ⟨g, o, none⟩ → ∀ (k i : Nat) (r : List Value) (c : Value), rows[k]? = some r → r[i]? = some c → i < sz ∧ w.cell? ⟨g, o + k * sz + i, none⟩ = some c
namespace Rd
variable {w w1 : World} {ok ok' : Nat → Prop} {sz : Nat} {v : Value} {rows : List (List Value)}
theorem mono (h : Rd w ok sz v rows) (ho : ∀ k, ok k → ok' k) : Rd w ok' sz v rows := by
  obtain ⟨A, cap, e, h1, h2, h3, h4⟩ := h
  exact ⟨A, cap, e, h1, h2, fun hr => by obtain ⟨g, o, ea, hg, hl⟩ := h3 hr; exact ⟨g, o, ea, ho g hg, hl⟩, h4⟩
theorem step (h : Rd w ok sz v rows) (hs : w.heap.size ≤ w1.heap.size) (hm : ∀ k, ok k → k < w.heap.size → w1.heap[k]? = w.heap[k]?) : Rd w1 ok sz v rows := by
  obtain ⟨A, cap, e, h1, h2, h3, h4⟩ := h
  refine ⟨A, cap, e, h1, h2, fun hr => ?_, fun g o ea k i r c hr hc => ?_⟩
  · obtain ⟨g, o, ea, hg, hl⟩ := h3 hr
    exact ⟨g, o, ea, hg, by omega⟩
  · obtain ⟨hi, hcell⟩ := h4 g o ea k i r c hr hc
    obtain ⟨g', o', ea', hg, hl⟩ := h3 (by rintro rfl; simp at hr)
    rw [ea] at ea'
    cases ea'
    exact ⟨hi, (World.cell?_of_block (w := w) (w' := w1) (a := ⟨g, o + k * sz + i, none⟩) (hm g hg hl)).trans hcell⟩
theorem below (h : Rd w ok sz v rows) (hb : Below w.heap.size w w1) : Rd w1 ok sz v rows := h.step hb.size (fun k _ hk => hb.block k hk)
theorem ch {S : Nat → Prop} (h : Rd w ok sz v rows) (hb : Ch S w w1) (hd : ∀ k, ok k → ¬ S k) : Rd w1 ok sz v rows := h.step hb.size (fun k ho hk => hb.block k hk (hd k ho))
theorem nil (w : World) (ok : Nat → Prop) (sz : Nat) : Rd w ok sz (.slice none 0 0) [] := ⟨none, 0, rfl, Nat.le_refl _, by omega, fun h => absurd rfl h, fun g o h => by cases h⟩
theorem slice (h : Rd w ok sz v rows) : ∃ A cap, v = .slice A rows.length cap := by
  obtain ⟨A, cap, e, _⟩ := h
  exact ⟨A, cap, e⟩
theorem len (h : Rd w ok sz v rows) : rows.length ≤ 9223372036854775807 := by
  obtain ⟨A, cap, e, h1, h2, _⟩ := h
  omega
/-- Row k's cells. -/
theorem row {A : Option Addr} {n cap : Nat} (h : Rd w ok sz (.slice A n cap) rows) {k : Nat} {r : List Value} (hr : rows[k]? = some r) :
    ∃ g o, A = some ⟨g, o, none⟩ ∧ ok g ∧ g < w.heap.size ∧ ∀ i c, r[i]? = some c → w.cell? ⟨g, o + k * sz + i, none⟩ = some c := by
  obtain ⟨A', cap', e, h1, h2, h3, h4⟩ := h
  cases e
  obtain ⟨g, o, rfl, hg, hl⟩ := h3 (by rintro rfl; simp at hr)
  exact ⟨g, o, rfl, hg, hl, fun i c hc => (h4 g o rfl k i r c hr hc).2⟩
end Rd
theorem ret_int {k : IntKind} {a b : Int} (h : a = b) : Ending.returned (.int k a) = .returned (.int k b) := by rw [h]
theorem ret_bool {a b : Bool} (h : a = b) : Ending.returned (.bool a) = .returned (.bool b) := by rw [h]
theorem ret_str {a b : ByteArray} (h : a = b) : Ending.returned (.string a) = .returned (.string b) := by rw [h]
end Go.Proofs.YtpdceondgbgpkaaGreatDoor.Mem
namespace Go.Proofs.YtpdceondgbgpkaaGreatDoor.Mem
open Go.RowKit
/-- A store of a real number, for the walk. -/
theorem run_store_float {P : Program} (w : World) (a : Addr) (m : Mode) (k : FloatKind) (b : Nat) : (store a (.float k b) m).run P w = stored P w a (.float k b) m := run_store P w a _ m rfl
/-! ### A region that draws its order, whose operations read or call what makes memory: one walk in the text's order serves every order. -/
/-- A world in which all that W has is as it was. -/
structure After (W : World) where
  w : World
  h : Below W.heap.size W w
instance (W : World) : Nonempty (After W) := ⟨⟨W, Below.refl _ _⟩⟩
namespace After
variable {W : World}
theorem cell (x : After W) (b o : Nat) (h : b < W.heap.size) : x.w.cell? ⟨b, o, none⟩ = W.cell? ⟨b, o, none⟩ := x.h.cell (p := ⟨b, o, none⟩) h
theorem heap (x : After W) (b : Nat) (h : b < W.heap.size) : x.w.heap[b]? = W.heap[b]? := x.h.block b h
theorem call {P : Program} {f : FuncId} {args : Array Value} {v : Value} (x : After W) (h : Calls P f args x.w fun e w' => e = .returned v ∧ Below x.w.heap.size x.w w') :
    Calls P f args x.w fun e w' => e = .returned v ∧ ∃ y : After W, w' = y.w :=
  h.mono fun _ w' ⟨he, hb⟩ => ⟨he, ⟨w', x.h.trans (hb.mono x.h.size)⟩, rfl⟩
theorem same {P : Program} {f : FuncId} {args : Array Value} {v : Value} (x : After W) (h : Calls P f args x.w fun e w' => e = .returned v ∧ w' = x.w) :
    Calls P f args x.w fun e w' => e = .returned v ∧ ∃ y : After W, w' = y.w :=
  h.mono fun _ _ ⟨he, hb⟩ => ⟨he, x, hb⟩
end After
theorem wpQuiet_mono {P : Program} {ops : Array Oper} {C : World → Prop} {Q Q' : Act → Prop} (h : ∀ a, Q a → Q' a) : ∀ (l : List Oper) (a : Act), wpQuiet P ops C Q l a → wpQuiet P ops C Q' l a
  | [], _, hh => h _ hh
  | _ :: rest, _, hh => by
    unfold wpQuiet at hh ⊢
    split
    · rename_i hw
      simp only [hw, if_true] at hh
      exact Oper.quiet_mono (fun a => wpQuiet_mono h rest a) hh
    · rename_i hw
      simp only [hw] at hh
      exact wpQuiet_mono h rest _ hh
theorem wp_region_after {P : Program} {id : Nat} {Q : Exit → Act → World → Prop} {a : Act} {W : World} {l : List Oper} (hm : P.follows .mixedOrders = true) (hB : Region.lexB .any l.toArray = true)
    (h : wpQuiet P l.toArray (fun w' => ∃ y : After W, w' = y.w) (fun a' => ∀ w1, Below W.heap.size W w1 → Q .normal a' w1) l a) : (Code.region id l.toArray true).wp P Q a W :=
  wp_region_quiet (C := fun w' => ∃ y : After W, w' = y.w) hm hB ⟨⟨_, (Below.refl _ _).drew⟩, rfl⟩ (by
    have h2 := wpQuiet_mono (Q' := fun a' => ∀ w', (∃ y : After W, w' = y.w) → Q .normal a' w') (fun a' h w' hw' => by obtain ⟨y, rfl⟩ := hw'; exact h y.w y.h) l a h
    simpa using h2)
end Go.Proofs.YtpdceondgbgpkaaGreatDoor.Mem
namespace Go.Proofs.YtpdceondgbgpkaaGreatDoor.Seen
open Go.RowKit
set_option linter.unusedVariables false
/-- The cells cs are seen as data of type t, each text and row of which is not greater than memory is. -/
def Sees {H : Type} (enc : TypeId × Value → H) (P : Program) (W : World) (t : TypeId) (cs : List Value) : Prop :=
  ∃ fuel x, DataW.trod enc P W 0 (fun _ => true) true fuel t cs = some x ∧ ∀ n ∈ x.1.weights P t, n ≤ 140737488351232
section
variable {H : Type} {enc : TypeId × Value → H} {P : Program} {W : World} {t e : TypeId} {cs : List Value}
/-- An argument of a row. -/
theorem of_arg {ts : List TypeId} {ds : List (DataW H)} {j : Nat} {v : Value} {d : DataW H} {p : List MemPlace} (hsz : (DataW.weightsEach P ts ds).all (· ≤ reachBytes) = true) (ht : ts[j]? = some t) (hd : ds[j]? = some d)
    (h : DataW.Trod enc P W 0 (fun _ => true) true t v d p) : Sees enc P W t v.cells.toList := by
  obtain ⟨fuel, hf⟩ := h
  refine ⟨fuel, _, hf, fun n hn => ?_⟩
  have := List.all_eq_true.1 hsz _ (DataW.weights_mem_each ht hd n hn)
  have h2 : n ≤ reachBytes := by simpa using this
  exact h2
theorem int {k : IntKind} (ht : P.underlying t = some (.int k)) (h : Sees enc P W t cs) : ∃ n, cs = [.int k n] ∧ (Lit.int k n).wf = true := by
  obtain ⟨fuel, x, hx, hz⟩ := h
  obtain ⟨n, e1, _, e3⟩ := DataW.trod_int ht hx
  exact ⟨n, e1, e3⟩
theorem str (ht : P.underlying t = some .string) (h : Sees enc P W t cs) : ∃ s, cs = [.string s] ∧ s.size ≤ 140737488351232 := by
  obtain ⟨fuel, x, hx, hz⟩ := h
  obtain ⟨s, e1, rfl, e3⟩ := DataW.trod_string ht hx
  refine ⟨s, e1, ?_⟩
  have := hz s.data.toList.length (by simp [DataW.weights])
  simpa using this
theorem bool (ht : P.underlying t = some .bool) (h : Sees enc P W t cs) : ∃ b, cs = [.bool b] := by
  obtain ⟨fuel, x, hx, hz⟩ := h
  obtain ⟨n, e1, _⟩ := DataW.trod_bool ht hx
  exact ⟨n, e1⟩
theorem float {k : FloatKind} (ht : P.underlying t = some (.float k)) (h : Sees enc P W t cs) : ∃ b, cs = [.float k b] := by
  obtain ⟨fuel, x, hx, hz⟩ := h
  cases fuel with
  | zero => simp [DataW.trod] at hx
  | succ n =>
    unfold DataW.trod at hx
    rw [ht] at hx
    split at hx <;> simp_all
theorem mem_all {l : List (DataW H)} {d : DataW H} {n : Nat} (hd : d ∈ l) (hn : n ∈ d.weights P e) : n ∈ DataW.weightsAll P e l := by
  induction l with
  | nil => simp at hd
  | cons a l ih =>
    rw [DataW.weightsAll, List.mem_append]
    rcases List.mem_cons.1 hd with rfl | h
    · exact .inl hn
    · exact .inr (ih h)
theorem struct {fs : Array Field} (ht : P.underlying t = some (.struct fs)) (h : Sees enc P W t cs) :
    cs.length = P.cellsOf t ∧ ∀ (i : Nat) (f : Go.Field), fs[i]? = some f → Sees enc P W f.type ((cs.drop f.offset).take (P.cellsOf f.type)) := by
  obtain ⟨fuel, x, hx, hz⟩ := h
  obtain ⟨xs, n, _, rfl, hl, hs, hp⟩ := DataW.trod_struct ht hx
  refine ⟨hl, fun i f hf => ?_⟩
  have hi : i < fs.size := (Array.getElem?_eq_some_iff.1 hf).1
  obtain ⟨y, hy⟩ : ∃ y, xs[i]? = some y := ⟨_, List.getElem?_eq_getElem (by omega)⟩
  refine ⟨n, y, (hp i f hf).trans hy, fun m hm => hz m ?_⟩
  simp only [DataW.weights, ht]
  refine DataW.weights_mem_each (j := i) (t := f.type) (d := y.1) ?_ ?_ m hm
  · simp [hf]
  · simp [hy]
theorem part {fs : Array Field} (ht : P.underlying t = some (.struct fs)) (h : Sees enc P W t cs) (i T off n : Nat) (hf : (fs[i]?).map (fun f : Go.Field => (f.type, f.offset)) = some (T, off)) (hn : P.cellsOf T = n) : Sees enc P W T ((cs.drop off).take n) := by
  obtain ⟨f, hf, hv⟩ := Option.map_eq_some_iff.1 hf
  injection hv with h1 h2
  have := (struct ht h).2 i f hf
  rw [h1, h2, hn] at this
  exact this
theorem slice (ht : P.underlying t = some (.slice e)) (h : Sees enc P W t cs) :
    cs = [.slice none 0 0] ∨ ∃ a len cap, cs = [.slice (some a) len cap] ∧ len ≤ cap ∧ cap ≤ maxLen ∧ cap * P.bytesOf e ≤ 140737488351232 ∧
      ∀ i, i < len → ∃ r, W.cells? 0 (a.add (i * P.cellsOf e)) (P.cellsOf e) = some r ∧ Sees enc P W e r := by
  obtain ⟨fuel, x, hx, hz⟩ := h
  rcases DataW.trod_slice ht hx with ⟨rfl, _⟩ | ⟨a, len, cap, elems, rest, n, _, rfl, rfl, hb, hl, hm, hlen, hel, hsp, _⟩
  · exact .inl rfl
  refine .inr ⟨a, len, cap, rfl, hl, hm, ?_, fun i hi => ?_⟩
  · have := hz ((elems.length + rest.length) * P.bytesOf e) (by simp [DataW.weights, ht])
    have h2 := (hsp rfl).1
    rw [hlen, h2, show len + (cap - len) = cap by omega] at this
    exact this
  · obtain ⟨y, hy⟩ : ∃ y, elems[i]? = some y := ⟨_, List.getElem?_eq_getElem (by omega)⟩
    have h1 := hel i hi
    rw [hy, Option.bind_eq_some_iff] at h1
    obtain ⟨r, hr, hrx⟩ := h1
    refine ⟨r, hr, n, y, hrx, fun m hm' => hz m ?_⟩
    simp only [DataW.weights, ht, List.mem_cons, List.mem_append]
    refine .inr (.inl (mem_all (d := y.1) ?_ hm'))
    exact List.mem_map.2 ⟨y, List.mem_of_getElem? hy, rfl⟩
/-- A slice is read, row by row. -/
theorem rows (sz : Nat) (ht : P.underlying t = some (.slice e)) (hc : P.cellsOf e = sz) (h0 : 0 < sz) (h : Sees enc P W t cs) :
    ∃ v rs, cs = [v] ∧ Mem.Rd W (fun g => g < W.heap.size) sz v rs ∧ rs.length * P.bytesOf e ≤ 140737488351232 ∧ ∀ r ∈ rs, r.length = sz ∧ Sees enc P W e r := by
  rcases slice ht h with rfl | ⟨a, len, cap, rfl, hl, hm, hby, hel⟩
  · exact ⟨_, [], rfl, Mem.Rd.nil _ _ _, by simp, fun r hr => by simp at hr⟩
  rw [hc] at hel
  have hch : ∃ rs : List (List Value), rs.length = len ∧ ∀ i r, rs[i]? = some r → W.cells? 0 (a.add (i * sz)) sz = some r ∧ Sees enc P W e r := by
    refine ⟨(List.range len).map (fun i => if hi : i < len then (hel i hi).choose else []), by simp, fun i r hr => ?_⟩
    rw [List.getElem?_map] at hr
    obtain ⟨j, hj, rfl⟩ := Option.map_eq_some_iff.1 hr
    have hji : i < len ∧ j = i := by
      have h1 := (List.getElem?_eq_some_iff.1 hj)
      obtain ⟨h2, h3⟩ := h1
      simp at h2 h3
      exact ⟨h2, h3.symm⟩
    obtain ⟨hi, rfl⟩ := hji
    rw [dif_pos hi]
    exact (hel j hi).choose_spec
  obtain ⟨rs, hlen, hrs⟩ := hch
  subst hlen
  refine ⟨_, rs, rfl, ⟨some a, cap, rfl, hl, by unfold maxLen at hm; omega, fun hne => ?_, fun g o ea k i r c hk hi => ?_⟩, ?_, fun r hr => ?_⟩
  · cases rs with
    | nil => exact absurd rfl hne
    | cons r rs =>
      have h1 := (hrs 0 r rfl).1
      obtain ⟨hb, hlr, hcell⟩ := World.cells?_some h1
      have h2 := hcell 0 h0
      obtain ⟨c, hcc⟩ : ∃ c, r[0]? = some c := ⟨_, List.getElem?_eq_getElem (by omega)⟩
      rw [hcc, Nat.zero_mul] at h2
      have e0 : (a.add 0).add 0 = a := by simp [Addr.add]
      rw [e0] at h2
      unfold World.cell? at h2
      split at h2
      · rename_i cc tt ff hh
        split at h2
        · cases h2
        · rename_i hs
          refine ⟨a.block, a.off, ?_, (Array.getElem?_eq_some_iff.1 hh).1, (Array.getElem?_eq_some_iff.1 hh).1⟩
          cases a with
          | mk b o s =>
            cases s with
            | none => rfl
            | some s => simp at hs
      · cases h2
  · cases ea
    obtain ⟨hb, hlr, hcell⟩ := World.cells?_some (hrs k r hk).1
    have hi' := (List.getElem?_eq_some_iff.1 hi).1
    refine ⟨by omega, ?_⟩
    have h2 := hcell i (by omega)
    rw [hi] at h2
    have e1 : ((⟨g, o, none⟩ : Addr).add (k * sz)).add i = ⟨g, o + k * sz + i, none⟩ := by
      have h3 : ∀ g o j, (⟨g, o, none⟩ : Addr).add j = ⟨g, o + j, none⟩ := fun g o j => by unfold Addr.add; split <;> simp_all
      rw [h3, h3]
    rw [e1] at h2
    exact h2
  · exact Nat.le_trans (Nat.mul_le_mul_right _ hl) hby
  · obtain ⟨k, hk⟩ := List.getElem?_of_mem hr
    obtain ⟨h1, h2⟩ := hrs k r hk
    exact ⟨(World.cells?_some h1).2.1, h2⟩
end
end Go.Proofs.YtpdceondgbgpkaaGreatDoor.Seen
namespace Go.Proofs.YtpdceondgbgpkaaGreatDoor.Dsk
open Go.Maps Go.RowKit
abbrev FM := ByteArray → Option ByteArray
namespace FM
def get (F : FM) (s : ByteArray) : ByteArray := (F s).getD ⟨#[]⟩
def set (F : FM) (k v : ByteArray) : FM := fun s => if s = k then some v else F s
def del (F : FM) (k : ByteArray) : FM := fun s => if s = k then none else F s
theorem get_set (F : FM) (k v s : ByteArray) : (F.set k v).get s = if s = k then v else F.get s := by
  unfold get set
  split <;> rfl
theorem get_set_same (F : FM) (k v : ByteArray) : (F.set k v).get k = v := by simp [get_set]
theorem get_set_other (F : FM) {k s : ByteArray} (v : ByteArray) (h : s ≠ k) : (F.set k v).get s = F.get s := by simp [get_set, h]
theorem set_other (F : FM) {k s : ByteArray} (v : ByteArray) (h : s ≠ k) : (F.set k v) s = F s := by simp [set, h]
theorem set_same (F : FM) (k v : ByteArray) : (F.set k v) k = some v := by simp [set]
theorem del_other (F : FM) {k s : ByteArray} (h : s ≠ k) : (F.del k) s = F s := by simp [del, h]
end FM
/-- One of the changes of a disk. -/
inductive Chg
  | put (n s : ByteArray) (a : Nat)
  | trim (n : ByteArray) (k : Nat)
  | move (n t : ByteArray)
  | drop (n : ByteArray)
def splice (old s : ByteArray) (a : Nat) : ByteArray := old.extract 0 a ++ s ++ (if a + s.size < old.size then old.extract (a + s.size) old.size else ⟨#[]⟩)
namespace Chg
def cost : Chg → Nat
  | put _ s _ => 1 + s.size
  | _ => 1
theorem cost_pos (c : Chg) : 1 ≤ c.cost := by cases c <;> simp [cost]
/-- A change that may be done. -/
def ok (F : FM) : Chg → Prop
  | put n s a => n.size ≤ maxLen ∧ a ≤ (F.get n).size ∧ a + s.size ≤ 1099511627776
  | trim n k => n.size ≤ maxLen ∧ k ≤ (F.get n).size
  | move n t => n.size ≤ maxLen ∧ t.size ≤ maxLen
  | drop n => n.size ≤ maxLen
def does (F : FM) : Chg → FM
  | put n s a => F.set n (splice (F.get n) s a)
  | trim n k => F.set n ((F.get n).extract 0 k)
  | move n t => (F.del n).set t (F.get n)
  | drop n => F.del n
/-- A change that leaves the file of this name alone. -/
def spares (K : ByteArray) : Chg → Prop
  | put n _ _ => n ≠ K
  | trim n _ => n ≠ K
  | move n t => n ≠ K ∧ t ≠ K
  | drop n => n ≠ K
theorem does_spares {F : FM} {K : ByteArray} {c : Chg} (h : c.spares K) : c.does F K = F K := by
  cases c with
  | put n s a => exact FM.set_other _ _ (Ne.symm h)
  | trim n k => exact FM.set_other _ _ (Ne.symm h)
  | move n t => exact (FM.set_other _ _ (Ne.symm h.2)).trans (FM.del_other _ (Ne.symm h.1))
  | drop n => exact FM.del_other _ (Ne.symm h)
end Chg
theorem splice_size (old s : ByteArray) (a : Nat) (h : a ≤ old.size) : (splice old s a).size = max old.size (a + s.size) := by
  unfold splice
  rw [ByteArray.size_append, ByteArray.size_append, ByteArray.size_extract]
  split
  · rw [ByteArray.size_extract]; omega
  · show _ + 0 = _
    omega
/-- A row of changes, each of which may be done behind those ahead of it. -/
def Valid : FM → List Chg → Prop
  | _, [] => True
  | F, c :: l => c.ok F ∧ Valid (c.does F) l
def play (F : FM) (l : List Chg) : FM := l.foldl (fun F c => c.does F) F
theorem play_snoc (F : FM) (l : List Chg) (c : Chg) : play F (l ++ [c]) = c.does (play F l) := by simp [play, List.foldl_append]
theorem valid_snoc : ∀ (F : FM) (l : List Chg) (c : Chg), Valid F l → c.ok (play F l) → Valid F (l ++ [c])
  | _, [], _, _, h => ⟨h, trivial⟩
  | F, d :: l, c, hv, h => ⟨hv.1, valid_snoc (d.does F) l c hv.2 h⟩
theorem play_spares {K : ByteArray} : ∀ (F : FM) (l : List Chg), (∀ c ∈ l, c.spares K) → play F l K = F K
  | _, [], _ => rfl
  | F, c :: l, h => by
    show play (c.does F) l K = _
    rw [play_spares (c.does F) l (fun x hx => h x (List.mem_cons_of_mem _ hx)), Chg.does_spares (h c List.mem_cons_self)]
/-- What is left of a row behind a loss of power, k bytes and heads of which are kept. -/
def fallen : FM → List Chg → Int → FM
  | F, [], _ => F
  | F, c :: l, k => if (c.cost : Int) ≤ k then fallen (c.does F) l (k - c.cost) else
    match c with
    | .put n s a => if 0 < k then (Chg.put n (s.extract 0 (k - 1).toNat) a).does F else F
    | _ => F
theorem fallen_le {F : FM} {c : Chg} {l : List Chg} {k : Int} (h : (c.cost : Int) ≤ k) : fallen F (c :: l) k = fallen (c.does F) l (k - c.cost) := by cases c <;> (rw [fallen, if_pos h] <;> (intro _ _ _ h; cases h))
theorem fallen_put {F : FM} {n s : ByteArray} {a : Nat} {l : List Chg} {k : Int} (h : ¬ 1 + (s.size : Int) ≤ k) : fallen F (.put n s a :: l) k = if 0 < k then (Chg.put n (s.extract 0 (k - 1).toNat) a).does F else F := by
  rw [fallen, if_neg (by show ¬ ((1 + s.size : Nat) : Int) ≤ k; omega)]
theorem fallen_other {F : FM} {c : Chg} {l : List Chg} {k : Int} (hc : ∀ n s a, c ≠ .put n s a) (h : ¬ (c.cost : Int) ≤ k) : fallen F (c :: l) k = F := by
  cases c with
  | put n s a => exact absurd rfl (hc n s a)
  | _ => rw [fallen, if_neg h] <;> (intro _ _ _ h; cases h)
theorem fallen_spares {K : ByteArray} : ∀ (F : FM) (l : List Chg) (k : Int), (∀ c ∈ l, c.spares K) → fallen F l k K = F K
  | _, [], _, _ => rfl
  | F, c :: l, k, h => by
    have hc := h c List.mem_cons_self
    unfold fallen
    split
    · rw [fallen_spares (c.does F) l _ (fun x hx => h x (List.mem_cons_of_mem _ hx)), Chg.does_spares hc]
    · split
      · split
        · exact FM.set_other _ _ (Ne.symm hc)
        · rfl
      · rfl
/-- A disk. -/
structure Dk where
  sure : FM
  now : FM
  row : List Chg
  room : Int
  calls : Int
  after : Int
  keep : Int
  down : Bool
namespace Dk
def new : Dk := ⟨fun _ => none, fun _ => none, [], -1, 0, 0, 0, false⟩
/-- What holds of each disk. -/
structure Inv (d : Dk) : Prop where
  kept : d.keep ≤ 9223372036854775807
  valid : Valid d.sure d.row
  now : d.now = play d.sure d.row
theorem inv_new : Inv new := ⟨by decide, trivial, rfl⟩
def fail (d : Dk) (k : Int) : Dk := if d.down then d else { d with sure := fallen d.sure d.row k, now := fallen d.sure d.row k, row := [], down := true, after := 0 }
def counted (d : Dk) : Dk := { d with calls := wrap64 (d.calls + 1), after := if d.after = 0 then 0 else wrap64 (d.after - 1) }
def trips (d : Dk) : Bool := if d.after = 0 then false else (wrap64 (d.after - 1) == 0)
def push (d : Dk) (c : Chg) : Dk := { d.counted with row := d.row ++ [c], now := c.does d.now }
def lay (d : Dk) (c : Chg) : Int × Dk := if d.trips then (8, (d.push c).fail d.keep) else (0, d.push c)
def sync (d : Dk) : Int × Dk := if d.down then (8, d) else if d.trips then (8, d.counted.fail d.keep) else (0, { d.counted with sure := d.now, row := [] })
theorem Inv.fail {d : Dk} (h : Inv d) (k : Int) : Inv (d.fail k) := by
  unfold Dk.fail
  split
  · exact h
  · exact ⟨h.kept, trivial, rfl⟩
theorem Inv.counted {d : Dk} (h : Inv d) : Inv d.counted := ⟨h.kept, h.valid, h.now⟩
theorem Inv.push {d : Dk} (h : Inv d) {c : Chg} (hc : c.ok d.now) : Inv (d.push c) :=
  ⟨h.kept, valid_snoc _ _ _ h.valid (by show c.ok (play d.sure d.row); rw [← h.now]; exact hc), by show c.does d.now = play d.sure (d.row ++ [c]); rw [play_snoc, h.now]⟩
theorem Inv.lay {d : Dk} (h : Inv d) {c : Chg} (hc : c.ok d.now) : Inv (d.lay c).2 := by
  unfold Dk.lay
  split
  · exact (h.push hc).fail _
  · exact h.push hc
theorem Inv.sync {d : Dk} (h : Inv d) : Inv d.sync.2 := by
  unfold Dk.sync
  split
  · exact h
  · split
    · exact h.counted.fail _
    · exact ⟨h.kept, trivial, rfl⟩
/-- The file of this name is sure, and nothing in the row speaks of it. -/
structure Keeps (K s : ByteArray) (d : Dk) : Prop where
  sure : d.sure K = some s
  spares : ∀ c ∈ d.row, c.spares K
theorem Keeps.fail {K s : ByteArray} {d : Dk} (h : Keeps K s d) (k : Int) : Keeps K s (d.fail k) := by
  unfold Dk.fail
  split
  · exact h
  · exact ⟨(fallen_spares _ _ _ h.spares).trans h.sure, fun c hc => by cases hc⟩
theorem Keeps.counted {K s : ByteArray} {d : Dk} (h : Keeps K s d) : Keeps K s d.counted := ⟨h.sure, h.spares⟩
theorem Keeps.push {K s : ByteArray} {d : Dk} (h : Keeps K s d) {c : Chg} (hc : c.spares K) : Keeps K s (d.push c) :=
  ⟨h.sure, fun x hx => by
    rcases List.mem_append.1 hx with hx | hx
    · exact h.spares x hx
    · have : x = c := by simpa using hx
      rw [this]; exact hc⟩
theorem Keeps.lay {K s : ByteArray} {d : Dk} (h : Keeps K s d) {c : Chg} (hc : c.spares K) : Keeps K s (d.lay c).2 := by
  unfold Dk.lay
  split
  · exact (h.push hc).fail _
  · exact h.push hc
theorem Keeps.now {K s : ByteArray} {d : Dk} (h : Keeps K s d) (hi : Inv d) : d.now K = some s := by rw [hi.now, play_spares _ _ h.spares, h.sure]
theorem Keeps.sync {K s : ByteArray} {d : Dk} (h : Keeps K s d) (hi : Inv d) : Keeps K s d.sync.2 := by
  unfold Dk.sync
  split
  · exact h
  · split
    · exact h.counted.fail _
    · exact ⟨h.now hi, fun c hc => by cases hc⟩
end Dk
/-- What a map of the program's reads as, as files. -/
structure Files (D : DataW Unit) (F : FM) : Prop where
  map : IsMap D
  has : ∀ s : ByteArray, Maps.has D (.string s.data.toList) = (F s).isSome
  at_ : ∀ (s v : ByteArray) (z : DataW Unit), F s = some v → D.atKey (.string s.data.toList) z = .lit (.string v.data.toList)
namespace Files
theorem keyEq {s t : ByteArray} : (Lit.string s.data.toList : Lit) = .string t.data.toList ↔ s = t := by
  constructor
  · intro h
    injection h with h
    cases s; cases t
    simp at h
    rw [h]
  · rintro rfl; rfl
theorem isKey (s : ByteArray) : WideAt.IsKeyLit (.string s.data.toList) := trivial
theorem empty : Files (.map []) (fun _ => none) := ⟨isMap_empty, fun _ => rfl, fun _ _ _ h => by cases h⟩
theorem put {D : DataW Unit} {F : FM} (h : Files D F) (k v : ByteArray) : Files (D.put (.string k.data.toList) (.lit (.string v.data.toList))) (F.set k v) where
  map := h.map.put _ _
  has s := by
    by_cases hs : s = k
    · subst hs
      rw [has_put_same h.map (isKey s), FM.set_same]; rfl
    · rw [has_put_other (fun e => hs (keyEq.1 e)), h.has, FM.set_other _ _ hs]
  at_ s u z hu := by
    by_cases hs : s = k
    · subst hs
      rw [FM.set_same] at hu
      cases hu
      exact atKey_put_same h.map (isKey s) _ _
    · rw [FM.set_other _ _ hs] at hu
      rw [atKey_put_other (fun e => hs (keyEq.1 e))]
      exact h.at_ s u z hu
theorem del {D : DataW Unit} {F : FM} (h : Files D F) (k : ByteArray) : Files (D.del (.string k.data.toList)) (F.del k) where
  map := h.map.del _
  has s := by
    by_cases hs : s = k
    · subst hs
      rw [has_del_same]; simp [FM.del]
    · rw [has_del_other (fun e => hs (keyEq.1 e)), h.has, FM.del_other _ hs]
  at_ s u z hu := by
    by_cases hs : s = k
    · subst hs
      simp [FM.del] at hu
    · rw [FM.del_other _ hs] at hu
      rw [atKey_del_other (fun e => hs (keyEq.1 e))]
      exact h.at_ s u z hu
theorem get {D : DataW Unit} {F : FM} (h : Files D F) (s : ByteArray) : D.atKey (.string s.data.toList) (.lit (.string [])) = .lit (.string (F.get s).data.toList) := by
  unfold FM.get
  cases hF : F s with
  | some v => exact h.at_ s v _ hF
  | none =>
    have := h.has s
    rw [hF] at this
    rw [atKey_of_not_has this]
    rfl
end Files
end Go.Proofs.YtpdceondgbgpkaaGreatDoor.Dsk
