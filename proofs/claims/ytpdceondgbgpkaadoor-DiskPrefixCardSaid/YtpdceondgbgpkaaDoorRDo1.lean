/- The document's without: files but one. -/
import Derived.Test.YtpdceondgbgpkaaDoorDskFl
namespace Go.Proofs.YtpdceondgbgpkaaDoor.Dsk
open Go.RowKit Go.Maps
set_option linter.unusedSimpArgs false
set_option linter.unusedVariables false
abbrev Fl := List (ByteArray × ByteArray)
def rowsC (l : Fl) : List Value := (l.map fc).flatten
theorem rowsC_snoc (l : Fl) (x : ByteArray × ByteArray) : rowsC (l ++ [x]) = rowsC l ++ [.string x.1, .string x.2] := by
  unfold rowsC
  rw [List.map_append, List.flatten_append]
  rfl
theorem own_fl {w : World} {B n : Nat} {v : Value} {l : Fl} (h : w.ownsRow B 55 2 v n (rowsC l)) (hn : n = l.length) : Mem.Rd w (fun k => B ≤ k) 2 v (l.map fc) :=
  Mem.Rd.of_owns (rows := l.map fc) h (by rw [hn, List.length_map]) (fc_rows _)
def woP (l : Fl) (k : ByteArray) : Fl := l.filter (fun x => decide (x.1 ≠ k))
theorem woP_take {l : Fl} {k : ByteArray} {j : Nat} {x : ByteArray × ByteArray} (hx : l[j]? = some x) : woP (l.take (j + 1)) k = woP (l.take j) k ++ (if x.1 = k then [] else [x]) := by
  unfold woP
  rw [List.take_add_one, hx, List.filter_append]
  congr 1
  by_cases h : x.1 = k
  · simp [h]
  · simp [h]
theorem woP_len (l : Fl) (k : ByteArray) : (woP l k).length ≤ l.length := List.length_filter_le _ _
theorem wrap_m {j : Nat} (h : j < 1000000) : wrap64 ((j : Int) + 1) = (j : Int) + 1 := by unfold wrap64; omega
theorem small {a b : Nat} (h : a ≤ b) (hb : b ≤ 1000000) : a + 1 ≤ maxLen ∧ (a + 1) * 32 ≤ 140737488355328 := by unfold maxLen; omega
set_option maxRecDepth 100000 in
set_option maxHeartbeats 4000000 in
theorem rwithout_any (fl : Fl) (k : ByteArray) (v : Value) (ok : Nat → Prop) (w : World) (h : Mem.Rd w ok 2 v (fl.map fc)) (hlen : fl.length ≤ 1000000) :
    Calls Tryd.prog 30 #[v, .string k] w fun r w' => ∃ v', r = .returned v' ∧ Mem.Rd w' (fun g => w.heap.size ≤ g) 2 v' ((woP fl k).map fc) ∧ Below w.heap.size w w' := by
  obtain ⟨A0, cap0, rfl⟩ := h.slice
  have hll : (fl.map fc).length = fl.length := List.length_map _
  rw [hll] at h ⊢
  obtain ⟨i0, hi, hz0, hz1, hz2⟩ := info_parts info_file
  have HR := Lib.hid h
  clear h hll
  go_enter Tryd.func30, Tryd.ntmps30
  go_wp2_with fail
  go_loopw [5, 6] (fun v i wr => ∃ j : Nat, j ≤ fl.length ∧ i = .int .i64 (j : Int) ∧ wr.ownsRow w.heap.size 55 2 v (woP (fl.take j) k).length (rowsC (woP (fl.take j) k)) ∧ Below w.heap.size w wr) (fun _ i _ => fl.length - (intOf i).toNat)
  case atStart => exact ⟨0, Nat.zero_le _, rfl, World.ownsRow_nil _ _ _ _, Below.refl _ _⟩
  case round =>
    obtain ⟨j, hj, rfl, hown, hbel⟩ := hrel
    obtain ⟨Ao, co, rfl, hco⟩ := Qu.q_slice (Qu.q_of_own hown)
    by_cases hlt : j < fl.length
    · obtain ⟨⟨x1, x2⟩, hx⟩ : ∃ x, fl[j]? = some x := ⟨_, List.getElem?_eq_getElem hlt⟩
      obtain ⟨g, o, rfl, hg, hgl, hrow⟩ := (Mem.Rd.below HR.out hbel).row (k := j) (r := fc (x1, x2)) (by rw [List.getElem?_map, hx]; rfl)
      have c0 : wr.cell? ⟨g, o + j * 2, none⟩ = some (.string x1) := hrow 0 _ rfl
      have c1 : wr.cell? ⟨g, o + j * 2 + 1, none⟩ = some (.string x2) := hrow 1 _ rfl
      have hlt' : (j : Int) < (fl.length : Int) := by omega
      have hHK := Lib.hid (wrap_m (Nat.lt_of_lt_of_le hlt hlen))
      have hst := woP_take (k := k) hx
      have hle : (woP (fl.take j) k).length ≤ fl.length := Nat.le_trans (woP_len _ _) (by rw [List.length_take]; omega)
      have hsm := small hle hlen
      have HO := Lib.hid (And.intro hown (And.intro hbel (And.intro hst hsm)))
      clear hown hbel hx hrow hst hle hsm
      generalize woP (fl.take j) k = out at HO hco ⊢
      by_cases he : x1 = k
      · subst he
        go_wp2_with fail
        go_roundw
        case rel => exact ⟨j + 1, hlt, by go_num, by rw [HO.out.2.2.1, if_pos rfl, List.append_nil]; exact HO.out.1, HO.out.2.1⟩
        case measure => first | exact measS hlt | (rw [hHK.out]; exact measS hlt)
      · have hne : (x1.toList == k.toList) = false := by simpa using toList_ne he
        have he2 := Lib.hid he
        clear he
        go_wp2_with (at_builtin; refine Mem.append_one rfl (.tmp 20) (.tmp 25) 31 rfl w.heap.size 55 i0 _ 2 32 Tryd.underlying31 hi hz0 hz1 hz2 rfl (by decide) wr _ out.length (rowsC out) (by rfl) HO.out.1 [.string x1, .string x2] rfl (by intro u hu; simp only [List.mem_cons, List.not_mem_nil, or_false] at hu; rcases hu with rfl | rfl <;> rfl) (by rfl) HO.out.2.2.2.1 HO.out.2.2.2.2 HO.out.2.1.size ?_; intro v3 w3 hown3 hg3 ho3)
        go_roundw
        case rel =>
          refine ⟨j + 1, hlt, by go_num, ?_, ?_⟩
          · rw [HO.out.2.2.1, if_neg he2.out, rowsC_snoc, List.length_append]
            exact hown3
          · have hs0 := HO.out.2.1.size
            exact Below.grown (HO.out.2.1.alloc hs0 _) hg3 (Nat.le_trans hs0 (by simp)) (Mem.own_base HO.out.1)
        case measure => first | exact measS hlt | (rw [hHK.out]; exact measS hlt)
    · have hge : ¬ (j : Int) < (fl.length : Int) := by omega
      have hjl : fl.take j = fl := List.take_of_length_le (by omega)
      rw [hjl] at hown
      go_wp2_with fail
      go_ret
      exact ⟨_, rfl, own_fl hown rfl, hbel⟩
end Go.Proofs.YtpdceondgbgpkaaDoor.Dsk
