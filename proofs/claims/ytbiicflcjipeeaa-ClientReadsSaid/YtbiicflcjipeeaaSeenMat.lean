/- Matches, and acts with their matches, as an argument's data say them. -/
import Derived.Test.YtbiicflcjipeeaaSeenEv
import Derived.Test.YtbiicflcjipeeaaLReads
namespace Go.Proofs.Ytbiicflcjipeeaa.Seen
open Go.RowKit
set_option linter.unusedVariables false
section
variable {H : Type} {enc : TypeId × Value → H} {W : World} {cs : List Value}
theorem ints (h : Sees enc Try.prog W 55 cs) : ∃ v l, cs = [v] ∧ IntsR W (fun g => g < W.heap.size) v l := by
  obtain ⟨v, rs, e, hR, hz, hrs⟩ := rows 1 Try.underlying55 (by kernel_rfl) (by omega) h
  obtain ⟨l, rfl, _⟩ := rows_of intc (fun _ => True) rs (fun r hr => by
    obtain ⟨n, e1, _⟩ := i64 Try.underlying3 (hrs r hr).2
    exact ⟨n, e1, trivial⟩)
  rw [show Try.prog.bytesOf 3 = 8 by kernel_rfl, List.length_map] at hz
  exact ⟨v, l, e, hR, hz⟩
theorem matches_ (h : Sees enc Try.prog W 35 cs) : ∃ v L, cs = [v] ∧ Pks W (fun g => g < W.heap.size) v L := by
  obtain ⟨v, rs, e, hR, hz, hrs⟩ := rows 1 Try.underlying35 (by kernel_rfl) (by omega) h
  obtain ⟨L, rfl, hL⟩ := rows_of pk (fun p => IntsR W (fun g => g < W.heap.size) p.1 p.2) rs (fun r hr => by
    obtain ⟨hlen, hs⟩ := hrs r hr
    obtain ⟨x, rfl⟩ : ∃ x, r = [x] := by
      match r, hlen with
      | [x], _ => exact ⟨x, rfl⟩
    obtain ⟨v', l', e1, hi⟩ := ints (part Try.underlying70 hs 0 55 0 1 rfl (by kernel_rfl))
    have e2 : x = v' := by simpa using e1
    subst e2
    exact ⟨(x, l'), rfl, hi⟩)
  exact ⟨v, L, e, hR, hL⟩
theorem who (h : Sees enc Try.prog W 51 cs) : ∃ (n : Int) (s : ByteArray), cs = [.int .i64 n, .string s] ∧ s.size ≤ 140737488351232 := by
  have hl := (struct Try.underlying51 h).1.trans (show Try.prog.cellsOf 51 = 2 by kernel_rfl)
  obtain ⟨a, b, rfl⟩ : ∃ a b, cs = [a, b] := by
    match cs, hl with
    | [a, b], _ => exact ⟨a, b, rfl⟩
  obtain ⟨x, e1, h1⟩ := i64 Try.underlying3 (part Try.underlying51 h 0 3 0 1 rfl (by kernel_rfl))
  obtain ⟨s, e2, h2⟩ := str Try.underlying9 (part Try.underlying51 h 1 9 1 1 rfl (by kernel_rfl))
  simp at e1 e2
  subst e1; subst e2
  exact ⟨x, s, rfl, h2⟩
theorem act2 (h : Sees enc Try.prog W 37 cs) : ∃ a : ActV × List (Value × List Int), cs = a.1.cells ∧ (∃ Af cf, a.1.vf = .slice Af a.1.e.fields.length cf) ∧ Pks W (fun g => g < W.heap.size) (.slice a.1.Al a.1.nl a.1.cl) a.2 ∧ IsI64 a.1.n := by
  have hl := (struct Try.underlying37 h).1.trans (show Try.prog.cellsOf 37 = 11 by kernel_rfl)
  obtain ⟨a, b, c, d, e, f, g, i, j, k, l, rfl⟩ : ∃ a b c d e f g i j k l, cs = [a, b, c, d, e, f, g, i, j, k, l] := by
    match cs, hl with
    | [a, b, c, d, e, f, g, i, j, k, l], _ => exact ⟨a, b, c, d, e, f, g, i, j, k, l, rfl⟩
  obtain ⟨x, e1, h1⟩ := i64 Try.underlying3 (part Try.underlying37 h 0 3 0 1 rfl (by kernel_rfl))
  obtain ⟨ev, vf, e2, hR, hs, hw⟩ := evt (part Try.underlying37 h 1 31 1 5 rfl (by kernel_rfl))
  obtain ⟨er, nu, e3, h3⟩ := reply (part Try.underlying37 h 2 34 6 2 rfl (by kernel_rfl))
  obtain ⟨y, e4, h4⟩ := i64 Try.underlying3 (part Try.underlying37 h 3 3 8 1 rfl (by kernel_rfl))
  obtain ⟨z, e5, h5⟩ := i64 Try.underlying3 (part Try.underlying37 h 4 3 9 1 rfl (by kernel_rfl))
  obtain ⟨v, L, e6, hL⟩ := matches_ (part Try.underlying37 h 5 35 10 1 rfl (by kernel_rfl))
  obtain ⟨A, cap, rfl⟩ := hL.slice
  simp at e1 e2 e3 e4 e5 e6
  obtain ⟨rfl, rfl, rfl, rfl, rfl⟩ := e2
  obtain ⟨rfl, rfl⟩ := e3
  subst e1; subst e4; subst e5; subst e6
  exact ⟨⟨⟨x, ev, f, er, nu, y, z, A, L.length, cap⟩, L⟩, rfl, hR.slice, hL, h5⟩
end
end Go.Proofs.Ytbiicflcjipeeaa.Seen
namespace Go.Proofs.Ytbiicflcjipeeaa
open Go.RowKit
theorem reads_rows {H : Type} {enc : TypeId × Value → H} (nodes most : Int) (name : ByteArray) (hs : name.size ≤ 140737488351232) (A : Option Addr) (n cap : Nat) (rs : List (List Value)) (w : World) (hR : Mem.Rd w (fun g => g < w.heap.size) 11 (.slice A n cap) rs) (hB : rs.length * 128 ≤ 140737488351232)
    (hE : ∀ r ∈ rs, r.length = 11 ∧ Seen.Sees enc Try.prog w 37 r) :
    Calls Try.prog 4 #[.agg #[.int .i64 nodes, .string name], .int .i64 most, .slice A n cap] w fun r w' => r = .returned (.bool true) ∧ Below w.heap.size w w' := by
  by_cases hn : 1 ≤ nodes ∧ nodes ≤ 7
  · cases hw : wordB name with
    | false => exact reads_no nodes most name A n cap w hs (.inr (.inl ⟨hn.1, hn.2, hw⟩))
    | true =>
      by_cases hm : 1 ≤ most
      · obtain ⟨l, rfl, hl⟩ := Seen.rows_of (fun a : ActV × List (Value × List Int) => a.1.cells) (fun a => (∃ Af cf, a.1.vf = .slice Af a.1.e.fields.length cf) ∧ Pks w (fun g => g < w.heap.size) (.slice a.1.Al a.1.nl a.1.cl) a.2 ∧ IsI64 a.1.n) rs (fun r hr => Seen.act2 (hE r hr).2)
        rw [List.length_map] at hB
        exact reads_yes nodes most name _ l w hs hn.1 hn.2 hw hm ⟨hR, hl⟩ (by omega)
      · exact reads_no nodes most name A n cap w hs (.inr (.inr ⟨hn.1, hn.2, hw, by omega⟩))
  · exact reads_no nodes most name A n cap w hs (.inl (by omega))
end Go.Proofs.Ytbiicflcjipeeaa
