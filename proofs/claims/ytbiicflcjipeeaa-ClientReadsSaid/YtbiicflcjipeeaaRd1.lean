/- Rows of whole numbers that are read; their copy; their order; matches as rows. -/
import Derived.Test.YtbiicflcjipeeaaLTells
namespace Go.Proofs.Ytbiicflcjipeeaa
open Go.RowKit
set_option linter.unusedSimpArgs false
set_option linter.unusedVariables false
attribute [local go_sem] Mem.run_store_float Mem.After.cell
def intc (n : Int) : List Value := [.int .i64 n]
/-- Whole numbers that are read, not more than memory holds. -/
def IntsR (w : World) (ok : Nat → Prop) (v : Value) (l : List Int) : Prop := Mem.Rd w ok 1 v (l.map intc) ∧ l.length * 8 ≤ 140737488351232
theorem IntsR.slice {w : World} {ok : Nat → Prop} {v : Value} {l : List Int} (h : IntsR w ok v l) : ∃ A c, v = .slice A l.length c := by
  obtain ⟨A, c, e⟩ := h.1.slice
  exact ⟨A, c, by rw [e]; simp⟩
theorem IntsR.step {w w1 : World} {ok : Nat → Prop} {v : Value} {l : List Int} (h : IntsR w ok v l) (hs : w.heap.size ≤ w1.heap.size) (hm : ∀ k, ok k → k < w.heap.size → w1.heap[k]? = w.heap[k]?) : IntsR w1 ok v l := ⟨h.1.step hs hm, h.2⟩
theorem IntsR.mono {w : World} {ok ok' : Nat → Prop} {v : Value} {l : List Int} (h : IntsR w ok v l) (hm : ∀ k, ok k → ok' k) : IntsR w ok' v l := ⟨h.1.mono hm, h.2⟩
theorem IntsR.below {w w1 : World} {ok : Nat → Prop} {v : Value} {l : List Int} (h : IntsR w ok v l) (hb : Below w.heap.size w w1) : IntsR w1 ok v l := ⟨h.1.below hb, h.2⟩
theorem IntsR.lt {w : World} {ok : Nat → Prop} {v : Value} {l : List Int} (h : IntsR w ok v l) : IntsR w (fun k => ok k ∧ k < w.heap.size) v l := ⟨Mem.Rd.lt h.1, h.2⟩
theorem intc_rows (l : List Int) : ∀ r ∈ l.map intc, r.length = 1 := by
  intro r hr
  obtain ⟨n, _, rfl⟩ := List.mem_map.1 hr
  rfl
theorem info_int : (Try.prog.info? 3).map (fun i => (i.zero, i.size, i.bytes)) = some (some (.int .i64 0), 1, 8) := by kernel_rfl
set_option maxRecDepth 100000 in
set_option maxHeartbeats 2000000 in
theorem CloneI_any (l : List Int) (v : Value) (ok : Nat → Prop) (w : World) (h : IntsR w ok v l) :
    Calls Try.prog 49 #[v] w fun r w' => ∃ v', r = .returned v' ∧ IntsR w' (fun k => w.heap.size ≤ k) v' l ∧ Below w.heap.size w w' := by
  obtain ⟨A, cap, rfl⟩ := h.slice
  have hl := h.2
  have HR := Lib.hid h
  clear h
  cases A with
  | none =>
    have he : l = [] := by
      obtain ⟨A', cap', e, _, _, h3, _⟩ := HR.out.1
      injection e with e1
      by_cases hc : l.map intc = []
      · simpa using hc
      · obtain ⟨g, o, e, _⟩ := h3 hc
        rw [← e1] at e
        cases e
    subst he
    have hnil := fun (w : World) (A : Option Addr) (n c n' c' : Nat) => Lib.run_eql_slice_nil (P := Try.prog) w 55 3 A n c n' c' Try.underlying55
    go_enter Try.func49, Try.ntmps49
    go_wp2_with fail
    go_ret
    exact ⟨_, rfl, ⟨Mem.Rd.nil _ _ _, hl⟩, Below.refl _ _⟩
  | some ad =>
    have hnil := fun (w : World) (A : Option Addr) (n c n' c' : Nat) => Lib.run_eql_slice_nil (P := Try.prog) w 55 3 A n c n' c' Try.underlying55
    obtain ⟨i0, hi, hz0, hz1, hz2⟩ := info_parts info_int
    have hn : (l.map intc).flatten.length = l.length * 1 := by rw [Mem.flat_length 1 _ (intc_rows l), List.length_map]
    have hone : ∀ u ∈ (l.map intc).flatten, u.oneCell' = true := by
      intro u hu
      obtain ⟨r, hr, hu⟩ := List.mem_flatten.1 hu
      obtain ⟨f, _, rfl⟩ := List.mem_map.1 hr
      simp only [intc, List.mem_cons, List.not_mem_nil, or_false] at hu
      subst hu
      rfl
    have hcells : ∀ (o : Obj) j u, (l.map intc).flatten[j]? = some u → (w.alloc o).cell? (ad.add j) = some u := by
      intro o j u hj
      obtain ⟨r, hr, hc⟩ := Mem.flat_at 1 (by decide) _ j u (intc_rows l) hj
      obtain ⟨g, o', e, _, hg, hrow⟩ := (HR.out.1.below ((Below.refl _ _).alloc (Nat.le_refl _) o)).row hr
      cases e
      have e1 : (⟨g, o', none⟩ : Addr).add j = ⟨g, o' + (j / 1) * 1 + j % 1, none⟩ := by
        have := Nat.div_add_mod j 1
        unfold Addr.add
        split
        · rename_i h0; subst h0; rfl
        · simp; omega
      rw [e1]
      exact hrow _ _ hc
    have HN := Lib.hid hn
    have HO := Lib.hid hone
    have HC := Lib.hid hcells
    have hown : (w.alloc (.cells #[] 3)).ownsRow w.heap.size 3 1 (.slice (some ⟨w.heap.size, 0, none⟩) 0 0) 0 [] := ⟨rfl, .inr ⟨w.heap.size, 0, #[], rfl, Nat.le_refl _, Mem.new _ _, Nat.le_refl _, by decide, rfl, rfl⟩⟩
    have HL := Lib.hid hl
    clear hn hone hcells hl
    go_enter Try.func49, Try.ntmps49
    go_wp2_with (at_builtin; refine wpList_append_own_at _ rfl (.tmp 5) (.tmp 6) 55 rfl w.heap.size 3 i0 (.int .i64 0) 1 8 Try.underlying55 hi hz0 hz1 hz2 rfl (by decide) _ _ _ rfl hown ad _ _ (l.map intc).flatten rfl HN.out (HC.out _) HO.out (by have := HL.out; unfold maxLen; omega) (by have := HL.out; omega) (by simp) ?_; intro v' w1 hown1 hg1 _ _)
    go_ret
    have hbl : Below w.heap.size w w1 := Below.grown ((Below.refl _ _).alloc (Nat.le_refl _) _) hg1 (by simp) (fun k hk => by
      have hk' : (Value.slice (some ⟨w.heap.size, 0, none⟩) 0 0).ownBlock = some k := hk
      have : w.heap.size = k := by simpa [Value.ownBlock] using hk'
      omega)
    exact ⟨_, rfl, ⟨Mem.Rd.of_owns hown1 (by simp) (intc_rows l), HL.out⟩, hbl⟩
set_option maxRecDepth 100000 in
set_option maxHeartbeats 2000000 in
theorem Order_self (l : List Int) (va vb : Value) (ok ok' : Nat → Prop) (w : World) (ha : IntsR w ok va l) (hb : IntsR w ok' vb l) :
    Calls Try.prog 27 #[va, vb] w fun r w' => r = .returned (.int .i64 0) ∧ Below w.heap.size w w' := by
  obtain ⟨A, c, rfl⟩ := ha.slice
  obtain ⟨B, d, rfl⟩ := hb.slice
  have hl : ((l.length : Nat) : Int) ≤ 17592186043904 := by have := ha.2; omega
  have HA := Lib.hid ha
  have HB := Lib.hid hb
  clear ha hb
  go_enter Try.func27, Try.ntmps27
  go_wp2_with fail
  go_loopw [5] (fun i wr => ∃ k : Nat, k ≤ l.length ∧ i = .int .i64 k ∧ Below w.heap.size w wr) (fun i _ => l.length - (intOf i).toNat)
  case atStart => exact ⟨0, Nat.zero_le _, rfl, Below.refl _ _⟩
  case round =>
    obtain ⟨k, hk, rfl, hbel⟩ := hrel
    by_cases hlt : k < l.length
    · obtain ⟨n, hn⟩ : ∃ n, l[k]? = some n := ⟨_, List.getElem?_eq_getElem hlt⟩
      obtain ⟨g, o, rfl, _, hg, hrow⟩ := (HA.out.below hbel).1.row (k := k) (r := intc n) (by rw [List.getElem?_map, hn]; rfl)
      obtain ⟨g', o', rfl, _, hg', hrow'⟩ := (HB.out.below hbel).1.row (k := k) (r := intc n) (by rw [List.getElem?_map, hn]; rfl)
      have c0 := hrow 0 _ rfl
      have d0 := hrow' 0 _ rfl
      simp only [Nat.mul_one, Nat.add_zero] at c0 d0
      have hlt' : (k : Int) < (l.length : Int) := by omega
      have hnn : (n < n) = False := by simp
      clear hrow hrow' hn
      go_wp2_with fail
      repeat (go_quiet (fail); try go_wp2_with fail)
      go_roundw
      case rel => exact ⟨k + 1, by omega, by go_num, by first | exact hbel | exact Mem.bdrewN hbel _ | exact Mem.bdrewN (Mem.bdrewN hbel _) _⟩
      case measure => simp [intOf]; omega
    · go_wp2_with fail
      go_ret
      exact ⟨rfl, hbel⟩
end Go.Proofs.Ytbiicflcjipeeaa
