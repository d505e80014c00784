/- The document's teller: Told. · The document's teller: Told, what leaves the queue. · The document's teller: Told, another node is asked. · The document's teller: Told, an event is refused. -/
import Derived.Test.YtiomhmdkaglelaaG9
namespace Go.Proofs.Ytiomhmdkaglelaa
open Go.RowKit
set_option linter.unusedSimpArgs false
set_option linter.unusedVariables false
open Sp (fold intB textS bs)
attribute [local go_sem] Mem.run_store_float Mem.After.cell
end Go.Proofs.Ytiomhmdkaglelaa
namespace Go.Proofs.Ytiomhmdkaglelaa
open Go.RowKit
set_option linter.unusedSimpArgs false
set_option linter.unusedVariables false
open Sp (fold intB textS bs)
attribute [local go_sem] Mem.run_store_float Mem.After.cell
theorem REvs.tail {w : World} {ok : Nat → Prop} {g o n c : Nat} {A : Option Addr} {p : Evt × Value} {l : List (Evt × Value)} (h : REvs w ok (.slice (some ⟨g, o, none⟩) n c) (p :: l)) (hA : A = if c = 1 then some ⟨g, o, none⟩ else some ⟨g, o + 5, none⟩) : REvs w ok (.slice A (n - 1) (c - 1)) l := by
  obtain ⟨⟨A', c', e, h1, h2, h3, h4⟩, hf⟩ := h
  cases e
  obtain ⟨g', o', ea, hg, hl⟩ := h3 (by simp [evRows])
  cases ea
  have hlen : (evRows (p :: l)).length - 1 = (evRows l).length := by simp [evRows]
  have hlen1 : (evRows (p :: l)).length = (evRows l).length + 1 := by simp [evRows]
  refine ⟨⟨A, c - 1, by rw [hlen], by omega, by omega, fun hr => ?_, fun g1 o1 ea k i r x hk hx => ?_⟩, fun q hq => hf q (List.mem_cons_of_mem _ hq)⟩
  · rw [hA]
    split
    · exact ⟨g, o, rfl, hg, hl⟩
    · exact ⟨g, o + 5, rfl, hg, hl⟩
  · have hk0 : k < (evRows l).length := (List.getElem?_eq_some_iff.1 hk).1
    rw [hA, if_neg (by omega)] at ea
    cases ea
    obtain ⟨hi, hc⟩ := h4 g o rfl (k + 1) i r x (by simpa [evRows] using hk) hx
    exact ⟨hi, by rw [show o + 5 + k * 5 + i = o + (k + 1) * 5 + i by omega]; exact hc⟩
end Go.Proofs.Ytiomhmdkaglelaa
namespace Go.Proofs.Ytiomhmdkaglelaa
open Go.RowKit
set_option linter.unusedSimpArgs false
set_option linter.unusedVariables false
open Sp (fold intB textS bs)
attribute [local go_sem] Mem.run_store_float Mem.After.cell
end Go.Proofs.Ytiomhmdkaglelaa
namespace Go.Proofs.Ytiomhmdkaglelaa
open Go.RowKit
set_option linter.unusedSimpArgs false
set_option linter.unusedVariables false
open Sp (fold intB textS bs)
attribute [local go_sem] Mem.run_store_float Mem.After.cell
end Go.Proofs.Ytiomhmdkaglelaa
