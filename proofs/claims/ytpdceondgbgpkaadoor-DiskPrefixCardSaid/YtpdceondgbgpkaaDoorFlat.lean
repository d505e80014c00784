/- Rows of cells, one behind the other. -/
import Derived.Test.YtpdceondgbgpkaaDoorMem2
namespace Go.Proofs.YtpdceondgbgpkaaDoor
open Go.RowKit
namespace Mem
theorem flat_length (sz : Nat) : ∀ rows : List (List Value), (∀ r ∈ rows, r.length = sz) → rows.flatten.length = rows.length * sz
  | [], _ => by simp
  | r :: rows, h => by
    rw [List.flatten_cons, List.length_append, h r List.mem_cons_self, flat_length sz rows (fun x hx => h x (List.mem_cons_of_mem _ hx)), List.length_cons, Nat.add_mul, Nat.one_mul, Nat.add_comm]
theorem flat_get (sz : Nat) : ∀ (rows : List (List Value)) (k i : Nat) (r : List Value) (c : Value), (∀ r ∈ rows, r.length = sz) → rows[k]? = some r → r[i]? = some c → rows.flatten[k * sz + i]? = some c
  | [], k, i, r, c, _, h1, _ => by simp at h1
  | r0 :: rows, 0, i, r, c, h, h1, h2 => by
    have e : r0 = r := by simpa using h1
    subst e
    have hi := (List.getElem?_eq_some_iff.1 h2).1
    rw [List.flatten_cons, Nat.zero_mul, Nat.zero_add, List.getElem?_append_left hi]
    exact h2
  | r0 :: rows, k + 1, i, r, c, h, h1, h2 => by
    have h0 := h r0 List.mem_cons_self
    rw [List.flatten_cons, List.getElem?_append_right (by rw [h0, Nat.add_mul]; omega), h0, show (k + 1) * sz + i - sz = k * sz + i by rw [Nat.add_mul]; omega]
    exact flat_get sz rows k i r c (fun x hx => h x (List.mem_cons_of_mem _ hx)) (by simpa using h1) h2
theorem flat_at (sz : Nat) (hsz : 0 < sz) : ∀ (rows : List (List Value)) (j : Nat) (c : Value), (∀ r ∈ rows, r.length = sz) → rows.flatten[j]? = some c → ∃ r, rows[j / sz]? = some r ∧ r[j % sz]? = some c
  | [], j, c, _, h => by simp at h
  | r0 :: rows, j, c, h, h1 => by
    have h0 := h r0 List.mem_cons_self
    rw [List.flatten_cons] at h1
    by_cases hj : j < sz
    · rw [List.getElem?_append_left (by omega)] at h1
      rw [Nat.div_eq_of_lt hj, Nat.mod_eq_of_lt hj]
      exact ⟨r0, rfl, h1⟩
    · rw [List.getElem?_append_right (by omega), h0] at h1
      obtain ⟨r, a, b⟩ := flat_at sz hsz rows (j - sz) c (fun x hx => h x (List.mem_cons_of_mem _ hx)) h1
      have e : j = (j - sz) + sz := by omega
      refine ⟨r, ?_, ?_⟩
      · rw [e, Nat.add_div_right _ hsz]; simpa using a
      · rw [e, Nat.add_mod_right]; exact b
/-- What the call owns is read. -/
theorem Rd.of_owns {w : World} {base e sz n : Nat} {v : Value} {rows : List (List Value)} (h : w.ownsRow base e sz v n rows.flatten) (hn : n = rows.length) (hr : ∀ r ∈ rows, r.length = sz) : Rd w (fun k => base ≤ k) sz v rows := by
  subst hn
  obtain ⟨h1, h2⟩ := h
  rcases h2 with ⟨rfl, h0⟩ | ⟨g, cap, cur, rfl, hg, hb, hc, hm, hs, ht⟩
  · obtain rfl : rows = [] := List.length_eq_zero_iff.1 h0
    exact Rd.nil _ _ _
  · refine ⟨some ⟨g, 0, none⟩, cap, rfl, hc, hm, fun _ => ⟨g, 0, rfl, hg, lt hb⟩, fun g' o' ea k i r c hk hi => ?_⟩
    cases ea
    have hlen := hr r (List.mem_of_getElem? hk)
    have hi' := (List.getElem?_eq_some_iff.1 hi).1
    refine ⟨by omega, ?_⟩
    have hf := flat_get sz rows k i r c hr hk hi
    rw [Nat.zero_add]
    refine cell hb ?_
    rw [← Array.getElem?_toList]
    rw [← ht, List.getElem?_take] at hf
    split at hf
    · exact hf
    · cases hf
end Mem
end Go.Proofs.YtpdceondgbgpkaaDoor
