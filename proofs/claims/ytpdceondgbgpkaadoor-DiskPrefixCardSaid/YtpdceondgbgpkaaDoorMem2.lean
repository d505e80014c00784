/- More on worlds: stores of values that the walk's own laws leave out. -/
import Derived.Test.YtpdceondgbgpkaaDoorMem
import Derived.WalkSpells
import Derived.Deep.QuietTactic
import Derived.BigQuiet
import Derived.WalkLawsBesides
namespace Go.Proofs.YtpdceondgbgpkaaDoor.Mem
open Go.RowKit
/-- A store of a real number, for the walk. -/
theorem run_store_float {P : Program} (w : World) (a : Addr) (m : Mode) (k : FloatKind) (b : Nat) : (store a (.float k b) m).run P w = stored P w a (.float k b) m := run_store P w a _ m rfl
/-! ### A region that draws its order, whose operations read or call what makes memory: one walk in the text's order serves every order. -/
/-- A world in which all that W has is as it was. -/
structure After (W : World) where
  w : World
  h : Below W.heap.size W w
instance (W : World) : Nonempty (After W) := ⟨⟨W, Below.refl _ _⟩⟩
namespace After
variable {W : World}
theorem cell (x : After W) (b o : Nat) (h : b < W.heap.size) : x.w.cell? ⟨b, o, none⟩ = W.cell? ⟨b, o, none⟩ := x.h.cell (p := ⟨b, o, none⟩) h
theorem heap (x : After W) (b : Nat) (h : b < W.heap.size) : x.w.heap[b]? = W.heap[b]? := x.h.block b h
theorem call {P : Program} {f : FuncId} {args : Array Value} {v : Value} (x : After W) (h : Calls P f args x.w fun e w' => e = .returned v ∧ Below x.w.heap.size x.w w') :
    Calls P f args x.w fun e w' => e = .returned v ∧ ∃ y : After W, w' = y.w :=
  h.mono fun _ w' ⟨he, hb⟩ => ⟨he, ⟨w', x.h.trans (hb.mono x.h.size)⟩, rfl⟩
theorem same {P : Program} {f : FuncId} {args : Array Value} {v : Value} (x : After W) (h : Calls P f args x.w fun e w' => e = .returned v ∧ w' = x.w) :
    Calls P f args x.w fun e w' => e = .returned v ∧ ∃ y : After W, w' = y.w :=
  h.mono fun _ _ ⟨he, hb⟩ => ⟨he, x, hb⟩
end After
theorem wpQuiet_mono {P : Program} {ops : Array Oper} {C : World → Prop} {Q Q' : Act → Prop} (h : ∀ a, Q a → Q' a) : ∀ (l : List Oper) (a : Act), wpQuiet P ops C Q l a → wpQuiet P ops C Q' l a
  | [], _, hh => h _ hh
  | _ :: rest, _, hh => by
    unfold wpQuiet at hh ⊢
    split
    · rename_i hw
      simp only [hw, if_true] at hh
      exact Oper.quiet_mono (fun a => wpQuiet_mono h rest a) hh
    · rename_i hw
      simp only [hw] at hh
      exact wpQuiet_mono h rest _ hh
theorem wp_region_after {P : Program} {id : Nat} {Q : Exit → Act → World → Prop} {a : Act} {W : World} {l : List Oper} (hm : P.follows .mixedOrders = true) (hB : Region.lexB .any l.toArray = true)
    (h : wpQuiet P l.toArray (fun w' => ∃ y : After W, w' = y.w) (fun a' => ∀ w1, Below W.heap.size W w1 → Q .normal a' w1) l a) : (Code.region id l.toArray true).wp P Q a W :=
  wp_region_quiet (C := fun w' => ∃ y : After W, w' = y.w) hm hB ⟨⟨_, (Below.refl _ _).drew⟩, rfl⟩ (by
    have h2 := wpQuiet_mono (Q' := fun a' => ∀ w', (∃ y : After W, w' = y.w) → Q .normal a' w') (fun a' h w' hw' => by obtain ⟨y, rfl⟩ := hw'; exact h y.w y.h) l a h
    simpa using h2)
end Go.Proofs.YtpdceondgbgpkaaDoor.Mem
