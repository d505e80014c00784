/- The document's teller: Told, what leaves the queue. -/
import Derived.Test.YtbiicflcjipeeaaRTold
namespace Go.Proofs.Ytbiicflcjipeeaa
open Go.RowKit
set_option linter.unusedSimpArgs false
set_option linter.unusedVariables false
open Sp (fold intB textS bs)
attribute [local go_sem] Mem.run_store_float Mem.After.cell
theorem REvs.tail {w : World} {ok : Nat → Prop} {g o n c : Nat} {A : Option Addr} {p : Evt × Value} {l : List (Evt × Value)} (h : REvs w ok (.slice (some ⟨g, o, none⟩) n c) (p :: l)) (hA : A = if c = 1 then some ⟨g, o, none⟩ else some ⟨g, o + 5, none⟩) : REvs w ok (.slice A (n - 1) (c - 1)) l := by
  obtain ⟨⟨A', c', e, h1, h2, h3, h4⟩, hf⟩ := h
  cases e
  obtain ⟨g', o', ea, hg, hl⟩ := h3 (by simp [evRows])
  cases ea
  have hlen : (evRows (p :: l)).length - 1 = (evRows l).length := by simp [evRows]
  have hlen1 : (evRows (p :: l)).length = (evRows l).length + 1 := by simp [evRows]
  refine ⟨⟨A, c - 1, by rw [hlen], by omega, by omega, fun hr => ?_, fun g1 o1 ea k i r x hk hx => ?_⟩, fun q hq => hf q (List.mem_cons_of_mem _ hq)⟩
  · rw [hA]
    split
    · exact ⟨g, o, rfl, hg, hl⟩
    · exact ⟨g, o + 5, rfl, hg, hl⟩
  · have hk0 : k < (evRows l).length := (List.getElem?_eq_some_iff.1 hk).1
    rw [hA, if_neg (by omega)] at ea
    cases ea
    obtain ⟨hi, hc⟩ := h4 g o rfl (k + 1) i r x (by simpa [evRows] using hk) hx
    exact ⟨hi, by rw [show o + 5 + k * 5 + i = o + (k + 1) * 5 + i by omega]; exact hc⟩
set_option maxRecDepth 100000 in
set_option maxHeartbeats 4000000 in
theorem rTold_told (nodes to id seq num lead : Int) (A B : Option Addr) (n m c d : Nat) (p : Evt × Value) (l : List (Evt × Value)) (ok : Nat → Prop) (w : World) (h : REvs w ok (.slice A n c) (p :: l)) (hi : id ≠ 0) (hq0 : 0 ≤ seq) (hq1 : seq < 9223372036854775807) (hs : num = seq + 1) :
    Calls Try.prog 12 #[rtl nodes to id seq (.slice A n c) (.slice B m d), .int .i64 0, .int .i64 num, .int .i64 lead] w fun r w' => ∃ v', r = .returned (rtl nodes to id num v' (.slice B m d)) ∧ REvs w' ok v' l ∧ Below w.heap.size w w' := by
  obtain ⟨g, o, rfl, hg, hlg, hrow⟩ := h.1.row (k := 0) (r := evC p.1 p.2) rfl
  have hn : 0 < n ∧ n ≤ c := by
    obtain ⟨A', c', ea, h1, _⟩ := h.1
    cases ea
    exact ⟨by simp [evRows], h1⟩
  obtain ⟨hn, hnc⟩ := hn
  have HH := Lib.hid h
  clear hrow h
  have hn' : (0 : Int) < (n : Int) := by omega
  have hi' : (id == 0) = false := by simpa using hi
  have e1 : IntKind.i64.wrap (seq + 1) = seq + 1 := IntWalk.i64_in _ (by omega)
  subst hs
  go_enter Try.func12, Try.ntmps12
  go_wp2_with fail
  all_goals first
    | (refine bodyPost_ret (v := rtl nodes to id (seq + 1) (.slice (some ⟨g, o, none⟩) (n - 1) 0) (.slice B m d)) (by simp [results, Try.results12, go_sem, *]) rfl ⟨_, rfl, ?_, ?_⟩
       · have hc : c = 1 := by omega
         have h := HH.out
         rw [hc] at h
         exact (REvs.tail h rfl).below (by with_reducible repeat (first | exact Below.refl _ _ | refine Below.setCell ?_ (by simp) _ | refine Below.alloc ?_ (by simp) _))
       · with_reducible repeat (first | exact Below.refl _ _ | refine Below.setCell ?_ (by simp) _ | refine Below.alloc ?_ (by simp) _))
    | (refine bodyPost_ret (v := rtl nodes to id (seq + 1) (.slice (some ⟨g, o + 5, none⟩) (n - 1) (c - 1)) (.slice B m d)) (by simp [results, Try.results12, go_sem, *]) rfl ⟨_, rfl, ?_, ?_⟩
       · have hc : c ≠ 1 := by omega
         exact (REvs.tail HH.out (if_neg hc).symm).below (by with_reducible repeat (first | exact Below.refl _ _ | refine Below.setCell ?_ (by simp) _ | refine Below.alloc ?_ (by simp) _))
       · with_reducible repeat (first | exact Below.refl _ _ | refine Below.setCell ?_ (by simp) _ | refine Below.alloc ?_ (by simp) _))
end Go.Proofs.Ytbiicflcjipeeaa
