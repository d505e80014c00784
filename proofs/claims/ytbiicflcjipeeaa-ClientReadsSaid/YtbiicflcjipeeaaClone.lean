/- slices.Clone of fields; an event of one's own. -/
import Derived.Test.YtbiicflcjipeeaaTel
namespace Go.Proofs.Ytbiicflcjipeeaa
open Go.RowKit
set_option linter.unusedSimpArgs false
set_option linter.unusedVariables false
open Sp (fold intB textS bs)
attribute [local go_sem] Mem.run_store_float Mem.After.cell
namespace Mem
theorem flat_length (sz : Nat) : ∀ rows : List (List Value), (∀ r ∈ rows, r.length = sz) → rows.flatten.length = rows.length * sz
  | [], _ => by simp
  | r :: rows, h => by
    rw [List.flatten_cons, List.length_append, h r List.mem_cons_self, flat_length sz rows (fun x hx => h x (List.mem_cons_of_mem _ hx)), List.length_cons, Nat.add_mul, Nat.one_mul, Nat.add_comm]
theorem flat_get (sz : Nat) : ∀ (rows : List (List Value)) (k i : Nat) (r : List Value) (c : Value), (∀ r ∈ rows, r.length = sz) → rows[k]? = some r → r[i]? = some c → rows.flatten[k * sz + i]? = some c
  | [], k, i, r, c, _, h1, _ => by simp at h1
  | r0 :: rows, 0, i, r, c, h, h1, h2 => by
    have e : r0 = r := by simpa using h1
    subst e
    have hi := (List.getElem?_eq_some_iff.1 h2).1
    rw [List.flatten_cons, Nat.zero_mul, Nat.zero_add, List.getElem?_append_left hi]
    exact h2
  | r0 :: rows, k + 1, i, r, c, h, h1, h2 => by
    have h0 := h r0 List.mem_cons_self
    rw [List.flatten_cons, List.getElem?_append_right (by rw [h0, Nat.add_mul]; omega), h0, show (k + 1) * sz + i - sz = k * sz + i by rw [Nat.add_mul]; omega]
    exact flat_get sz rows k i r c (fun x hx => h x (List.mem_cons_of_mem _ hx)) (by simpa using h1) h2
theorem flat_at (sz : Nat) (hsz : 0 < sz) : ∀ (rows : List (List Value)) (j : Nat) (c : Value), (∀ r ∈ rows, r.length = sz) → rows.flatten[j]? = some c → ∃ r, rows[j / sz]? = some r ∧ r[j % sz]? = some c
  | [], j, c, _, h => by simp at h
  | r0 :: rows, j, c, h, h1 => by
    have h0 := h r0 List.mem_cons_self
    rw [List.flatten_cons] at h1
    by_cases hj : j < sz
    · rw [List.getElem?_append_left (by omega)] at h1
      rw [Nat.div_eq_of_lt hj, Nat.mod_eq_of_lt hj]
      exact ⟨r0, rfl, h1⟩
    · rw [List.getElem?_append_right (by omega), h0] at h1
      obtain ⟨r, a, b⟩ := flat_at sz hsz rows (j - sz) c (fun x hx => h x (List.mem_cons_of_mem _ hx)) h1
      have e : j = (j - sz) + sz := by omega
      refine ⟨r, ?_, ?_⟩
      · rw [e, Nat.add_div_right _ hsz]; simpa using a
      · rw [e, Nat.add_mod_right]; exact b
/-- What the call owns is read. -/
theorem Rd.of_owns {w : World} {base e sz n : Nat} {v : Value} {rows : List (List Value)} (h : w.ownsRow base e sz v n rows.flatten) (hn : n = rows.length) (hr : ∀ r ∈ rows, r.length = sz) : Rd w (fun k => base ≤ k) sz v rows := by
  subst hn
  obtain ⟨h1, h2⟩ := h
  rcases h2 with ⟨rfl, h0⟩ | ⟨g, cap, cur, rfl, hg, hb, hc, hm, hs, ht⟩
  · obtain rfl : rows = [] := List.length_eq_zero_iff.1 h0
    exact Rd.nil _ _ _
  · refine ⟨some ⟨g, 0, none⟩, cap, rfl, hc, hm, fun _ => ⟨g, 0, rfl, hg, lt hb⟩, fun g' o' ea k i r c hk hi => ?_⟩
    cases ea
    have hlen := hr r (List.mem_of_getElem? hk)
    have hi' := (List.getElem?_eq_some_iff.1 hi).1
    refine ⟨by omega, ?_⟩
    have hf := flat_get sz rows k i r c hr hk hi
    rw [Nat.zero_add]
    refine cell hb ?_
    rw [← Array.getElem?_toList]
    rw [← ht, List.getElem?_take] at hf
    split at hf
    · exact hf
    · cases hf
end Mem
theorem fld_rows (l : List Fld) : ∀ r ∈ l.map Fld.cells, r.length = 5 := by
  intro r hr
  obtain ⟨f, _, rfl⟩ := List.mem_map.1 hr
  rfl
theorem info_fld : (Try.prog.info? 104).map (fun i => (i.zero, i.size, i.bytes)) = some (some (.agg #[.string ⟨#[]⟩, .int .i64 0, .int .i64 0, .float .f64 0, .string ⟨#[]⟩]), 5, 56) := by kernel_rfl
set_option maxRecDepth 100000 in
set_option maxHeartbeats 2000000 in
theorem Clone_any (l : List Fld) (v : Value) (ok : Nat → Prop) (w : World) (h : Mem.Rd w ok 5 v (l.map Fld.cells)) (hl : l.length ≤ 100) :
    Calls Try.prog 66 #[v] w fun r w' => ∃ v', r = .returned v' ∧ Mem.Rd w' (fun k => w.heap.size ≤ k) 5 v' (l.map Fld.cells) ∧ Below w.heap.size w w' := by
  obtain ⟨A, cap, rfl⟩ := h.slice
  rw [List.length_map]
  have HR := Lib.hid h
  clear h
  cases A with
  | none =>
    have he : l = [] := by
      obtain ⟨A', cap', e, _, _, h3, _⟩ := HR.out
      cases e
      by_cases hc : l.map Fld.cells = []
      · simpa using hc
      · obtain ⟨g, o, e, _⟩ := h3 hc
        cases e
    subst he
    have hnil := fun (w : World) (A : Option Addr) (n c n' c' : Nat) => Lib.run_eql_slice_nil (P := Try.prog) w 29 104 A n c n' c' Try.underlying29
    go_enter Try.func66, Try.ntmps66
    go_wp2_with fail
    go_ret
    exact ⟨_, rfl, Mem.Rd.nil _ _ _, Below.refl _ _⟩
  | some ad =>
    have hnil := fun (w : World) (A : Option Addr) (n c n' c' : Nat) => Lib.run_eql_slice_nil (P := Try.prog) w 29 104 A n c n' c' Try.underlying29
    obtain ⟨i0, hi, hz0, hz1, hz2⟩ := info_parts info_fld
    have hn : (l.map Fld.cells).flatten.length = l.length * 5 := by rw [Mem.flat_length 5 _ (fld_rows l), List.length_map]
    have hone : ∀ u ∈ (l.map Fld.cells).flatten, u.oneCell' = true := by
      intro u hu
      obtain ⟨r, hr, hu⟩ := List.mem_flatten.1 hu
      obtain ⟨f, _, rfl⟩ := List.mem_map.1 hr
      simp only [Fld.cells, List.mem_cons, List.not_mem_nil, or_false] at hu
      rcases hu with rfl | rfl | rfl | rfl | rfl <;> rfl
    have hcells : ∀ (o : Obj) j u, (l.map Fld.cells).flatten[j]? = some u → (w.alloc o).cell? (ad.add j) = some u := by
      intro o j u hj
      obtain ⟨r, hr, hc⟩ := Mem.flat_at 5 (by decide) _ j u (fld_rows l) hj
      obtain ⟨g, o', e, _, hg, hrow⟩ := (HR.out.below ((Below.refl _ _).alloc (Nat.le_refl _) o)).row hr
      cases e
      have e1 : (⟨g, o', none⟩ : Addr).add j = ⟨g, o' + (j / 5) * 5 + j % 5, none⟩ := by
        have := Nat.div_add_mod j 5
        unfold Addr.add
        split
        · rename_i h0; subst h0; rfl
        · simp; omega
      rw [e1]
      exact hrow _ _ hc
    have HN := Lib.hid hn
    have HO := Lib.hid hone
    have HC := Lib.hid hcells
    have hown : (w.alloc (.cells #[] 104)).ownsRow w.heap.size 104 5 (.slice (some ⟨w.heap.size, 0, none⟩) 0 0) 0 [] := ⟨rfl, .inr ⟨w.heap.size, 0, #[], rfl, Nat.le_refl _, Mem.new _ _, Nat.le_refl _, by decide, rfl, rfl⟩⟩
    clear hn hone hcells
    go_enter Try.func66, Try.ntmps66
    go_wp2_with (at_builtin; refine wpList_append_own_at _ rfl (.tmp 5) (.tmp 6) 29 rfl w.heap.size 104 i0 (.agg #[.string ⟨#[]⟩, .int .i64 0, .int .i64 0, .float .f64 0, .string ⟨#[]⟩]) 5 56 Try.underlying29 hi hz0 hz1 hz2 rfl (by decide) _ _ _ rfl hown ad _ _ (l.map Fld.cells).flatten rfl HN.out (HC.out _) HO.out (by unfold maxLen; omega) (by omega) (by simp) ?_; intro v' w1 hown1 hg1 _ _)
    go_ret
    have hbl : Below w.heap.size w w1 := Below.grown ((Below.refl _ _).alloc (Nat.le_refl _) _) hg1 (by simp) (fun k hk => by
      have hk' : (Value.slice (some ⟨w.heap.size, 0, none⟩) 0 0).ownBlock = some k := hk
      have : w.heap.size = k := by simpa [Value.ownBlock] using hk'
      omega)
    exact ⟨_, rfl, Mem.Rd.of_owns hown1 (by simp) (fld_rows l), hbl⟩
set_option maxRecDepth 100000 in
set_option maxHeartbeats 2000000 in
theorem copied_any (e : Evt) (vf : Value) (ok : Nat → Prop) (w : World) (h : EvR w ok e vf) (hl : e.fields.length ≤ 100) :
    Calls Try.prog 42 #[.agg #[.int .i64 e.session, .int .i64 e.seq, .int .i64 e.stamp, .string e.kind, vf]] w
      fun r w' => ∃ v', r = .returned (.agg #[.int .i64 e.session, .int .i64 e.seq, .int .i64 e.stamp, .string e.kind, v']) ∧ EvR w' (fun k => w.heap.size ≤ k) e v' ∧ Below w.heap.size w w' := by
  obtain ⟨A, cap, rfl⟩ := h.slice
  have HR := Lib.hid h
  clear h
  go_enter Try.func42, Try.ntmps42
  go_wp2_with fail
  have hb0 : ∀ a b, Below w.heap.size w ((w.alloc a).alloc b) := fun a b => ((Below.refl _ _).alloc (Nat.le_refl _) _).alloc (by simp) _
  refine (Clone_any e.fields _ ok _ (HR.out.below (hb0 _ _)) hl).mono ?_
  rintro _ w1 ⟨v', rfl, hr1, hb1⟩
  have e0 := Mem.new w (Obj.cells #[Value.int IntKind.i64 e.session, Value.int IntKind.i64 e.seq, Value.int IntKind.i64 e.stamp, Value.string e.kind, Value.slice A e.fields.length cap] 31)
  have e1 := Mem.new (w.alloc (Obj.cells #[Value.int IntKind.i64 e.session, Value.int IntKind.i64 e.seq, Value.int IntKind.i64 e.stamp, Value.string e.kind, Value.slice A e.fields.length cap] 31)) (Obj.cells #[Value.int IntKind.i64 0, Value.int IntKind.i64 0, Value.int IntKind.i64 0, Value.string ⟨#[]⟩, Value.slice none 0 0] 31)
  rw [show (w.alloc (Obj.cells #[Value.int IntKind.i64 e.session, Value.int IntKind.i64 e.seq, Value.int IntKind.i64 e.stamp, Value.string e.kind, Value.slice A e.fields.length cap] 31)).heap.size = w.heap.size + 1 by simp] at e1
  have hB1 := (hb1.block w.heap.size (by simp; omega)).trans (Mem.old e0 _)
  have hB2 := (hb1.block (w.heap.size + 1) (by simp)).trans e1
  have hl1 : w.heap.size < w1.heap.size := Mem.lt hB1
  clear e0 e1
  have c0 := Mem.cell hB1 (j := 0) rfl
  have c1 := Mem.cell hB1 (j := 1) rfl
  have c2 := Mem.cell hB1 (j := 2) rfl
  have c3 := Mem.cell hB1 (j := 3) rfl
  have c4 := Mem.cell hB1 (j := 4) rfl
  have f4 := Mem.free (j := 4) hB1
  have d0 := Mem.cell hB2 (j := 0) rfl
  have d1 := Mem.cell hB2 (j := 1) rfl
  have d2 := Mem.cell hB2 (j := 2) rfl
  have d3 := Mem.cell hB2 (j := 3) rfl
  have d4 := Mem.cell hB2 (j := 4) rfl
  have g0 := Mem.free (j := 0) hB2
  have g1 := Mem.free (j := 1) hB2
  have g2 := Mem.free (j := 2) hB2
  have g3 := Mem.free (j := 3) hB2
  have g4 := Mem.free (j := 4) hB2
  have HX := Lib.hid (And.intro hB1 hB2)
  have HR1 := Lib.hid hr1
  have HB1 := Lib.hid hb1
  obtain ⟨A1, cap1, rfl⟩ := hr1.slice
  clear hB1 hB2 hr1 hb1 hb0
  go_wp2_with fail
  have hb1 := HB1.out
  have hbel1 : Below w.heap.size w w1 := (((Below.refl _ _).alloc (Nat.le_refl _) _).alloc (by simp) _).trans (hb1.mono (by simp; omega))
  have hsz : w.heap.size + 2 ≤ w1.heap.size := by have := hb1.size; simpa using this
  refine bodyPost_ret (v := .agg #[.int .i64 e.session, .int .i64 e.seq, .int .i64 e.stamp, .string e.kind, .slice A1 (e.fields.map Fld.cells).length cap1]) (by simp [results, Try.results42, go_sem, *]) rfl ⟨_, rfl, ?_, ?_⟩
  · refine (Mem.Rd.ch HR1.out (S := fun k => k = w.heap.size ∨ k = w.heap.size + 1) ?_ (fun k hk h => by simp at hk; omega)).mono (fun k hk => by simp at hk; omega)
    with_reducible repeat (first | exact Mem.Ch.refl _ _ | refine Mem.Ch.set ?_ (.inr (.inl rfl)) | refine Mem.Ch.set ?_ (.inr (.inr rfl)))
  · with_reducible repeat (first | exact hbel1 | refine Below.setCell ?_ (by simp) _)
end Go.Proofs.Ytbiicflcjipeeaa
