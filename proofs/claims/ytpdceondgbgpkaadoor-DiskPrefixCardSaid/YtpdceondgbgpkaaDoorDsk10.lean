/- The law's choice of acts: most. -/
import Derived.Test.YtpdceondgbgpkaaDoorDskW
import Derived.Test.YtpdceondgbgpkaaDoorQueue
namespace Go.Proofs.YtpdceondgbgpkaaDoor.Dsk
open Go.RowKit Go.Maps
set_option linter.unusedSimpArgs false
set_option linter.unusedVariables false
def Act.cells (x : Act) : List Value := [.int .i64 x.kind, .string x.name, .int .i64 x.n, .int .i64 x.m, .string x.s]
def actC (l : List Act) : List Value := l.flatMap Act.cells
theorem actC_snoc (l : List Act) (x : Act) : actC (l ++ [x]) = actC l ++ [.int .i64 x.kind, .string x.name, .int .i64 x.n, .int .i64 x.m, .string x.s] := by unfold actC; rw [List.flatMap_append]; rfl
theorem meas {n k : Nat} (h : k < n) (hw : wrap64 ((k : Int) + 1) = (k : Int) + 1) : n - (intOf (.int .i64 (wrap64 ((k : Int) + 1)))).toNat < n - (intOf (.int .i64 (k : Int))).toNat := by
  rw [hw]; show n - ((k : Int) + 1).toNat < n - ((k : Int)).toNat; omega
theorem info_act : (Tryd.prog.info? 28).map (fun i => (i.zero, i.size, i.bytes)) = some (some (.agg #[.int .i64 0, .string ⟨#[]⟩, .int .i64 0, .int .i64 0, .string ⟨#[]⟩]), 5, 56) := by kernel_rfl
set_option maxRecDepth 100000 in
set_option maxHeartbeats 4000000 in
theorem most_any (l : List Act) (v : Value) (ok : Nat → Prop) (w : World) (h : Mem.Rd w ok 5 v (l.map Act.cells)) :
    Calls Tryd.prog 7 #[v] w fun r w' => ∃ v' out, r = .returned v' ∧ w'.ownsRow w.heap.size 28 5 v' out.length (actC out) ∧ (∀ x ∈ out, x ∈ l) ∧ out.length ≤ 60 ∧ Below w.heap.size w w' := by
  obtain ⟨A, cap, rfl⟩ := h.slice
  have hll : (l.map Act.cells).length = l.length := List.length_map _
  rw [hll] at h ⊢
  have HR := Lib.hid h
  obtain ⟨i0, hi, hz0, hz1, hz2⟩ := info_parts info_act
  clear h
  go_enter Tryd.func7, Tryd.ntmps7
  go_wp2_with fail
  go_loopw [3, 4] (fun v i wr => ∃ (k : Nat) (out : List Act), k ≤ l.length ∧ out.length ≤ 60 ∧ i = .int .i64 k ∧ wr.ownsRow w.heap.size 28 5 v out.length (actC out) ∧ (∀ x ∈ out, x ∈ l) ∧ Below w.heap.size w wr) (fun _ i _ => l.length - (intOf i).toNat)
  case atStart => exact ⟨0, [], Nat.zero_le _, by decide, rfl, World.ownsRow_nil _ _ _ _, (fun x hx => by simp at hx), Below.refl _ _⟩
  case round =>
    obtain ⟨k, out, hk, ho, rfl, hown, hmem, hbel⟩ := hrel
    obtain ⟨Ao, co, rfl, hco⟩ := Qu.q_slice (Qu.q_of_own hown)
    by_cases hlt : k < l.length
    · obtain ⟨x, hx⟩ : ∃ x, l[k]? = some x := ⟨_, List.getElem?_eq_getElem hlt⟩
      obtain ⟨g, o, rfl, hg, hgl, hrow⟩ := (Mem.Rd.below HR.out hbel).row (k := k) (r := x.cells) (by rw [List.getElem?_map, hx]; rfl)
      have c0 : wr.cell? ⟨g, o + k * 5, none⟩ = some (.int .i64 x.kind) := hrow 0 _ rfl
      have c1 := hrow 1 _ rfl
      have c2 := hrow 2 _ rfl
      have c3 := hrow 3 _ rfl
      have c4 := hrow 4 _ rfl
      have hlt' : (k : Int) < (l.length : Int) := by omega
      have hkw : wrap64 ((k : Int) + 1) = (k : Int) + 1 := by have := HR.out.len; rw [List.length_map] at this; unfold wrap64; omega
      by_cases h60 : out.length < 60
      · have h60' : (out.length : Int) < 60 := by omega
        have HO := Lib.hid (And.intro hown hbel)
        have HM := Lib.hid (And.intro hmem hx)
        clear hown hbel hmem hx hrow
        by_cases hs : (x.s.size : Int) ≤ 3000
        · go_wp2_with (at_builtin; refine Mem.append_one rfl (.tmp 23) (.tmp 28) 22 rfl w.heap.size 28 i0 _ 5 56 Tryd.underlying22 hi hz0 hz1 hz2 rfl (by decide) wr _ out.length (actC out) (by rfl) HO.out.1 [.int .i64 x.kind, .string x.name, .int .i64 x.n, .int .i64 x.m, .string x.s] rfl (by intro u hu; simp only [List.mem_cons, List.not_mem_nil, or_false] at hu; rcases hu with rfl | rfl | rfl | rfl | rfl <;> rfl) (by rfl) (by unfold maxLen; omega) (by omega) HO.out.2.size ?_; intro v3 w3 hown3 hg3 ho3)
          go_roundw
          case rel =>
            refine ⟨k + 1, out ++ [x], by omega, by simp; omega, by go_num, by rw [actC_snoc, List.length_append]; exact hown3, ?_, ?_⟩
            · intro y hy
              rcases List.mem_append.1 hy with hy | hy
              · exact HM.out.1 y hy
              · have e : y = x := by simpa using hy
                rw [e]
                exact List.mem_of_getElem? HM.out.2
            · have hs0 := HO.out.2.size
              exact Below.grown (HO.out.2.alloc hs0 _) hg3 (Nat.le_trans hs0 (by simp)) (Mem.own_base HO.out.1)
          case measure => exact meas hlt hkw
        · go_wp2_with fail
          go_roundw
          case rel => exact ⟨k + 1, out, by omega, ho, by go_num, HO.out.1, HM.out.1, HO.out.2⟩
          case measure => exact meas hlt hkw
      · have h60' : (60 : Int) ≤ (out.length : Int) := by omega
        go_wp2_with fail
        go_ret
        exact ⟨_, out, rfl, hown, hmem, ho, hbel⟩
    · have hge : (l.length : Int) ≤ (k : Int) := by omega
      go_wp2_with fail
      go_ret
      exact ⟨_, out, rfl, hown, hmem, ho, hbel⟩
end Go.Proofs.YtpdceondgbgpkaaDoor.Dsk
