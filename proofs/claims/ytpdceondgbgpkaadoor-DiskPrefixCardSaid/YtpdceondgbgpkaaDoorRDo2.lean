/- The document's with: a file set in at its place (printed by tools/gen_with.py). -/
import Derived.Test.YtpdceondgbgpkaaDoorRDo1
import Derived.Sort.Walk0
namespace Go.Proofs.YtpdceondgbgpkaaDoor.Dsk
open Go.RowKit Go.Maps
set_option linter.unusedSimpArgs false
set_option linter.unusedVariables false
def ltN (a b : ByteArray) : Prop := a.data.toList < b.data.toList
instance (a b : ByteArray) : Decidable (ltN a b) := by unfold ltN; infer_instance
theorem less_eq (a b : ByteArray) : Op.bytesLess a.toList b.toList = decide (ltN a b) := by
  rw [bytesLess_eq, ByteArray.toList_eq, ByteArray.toList_eq]
  rfl
/-- A file set in ahead of the first of a greater name. -/
def insP (f : ByteArray × ByteArray) : Fl → Fl
  | [] => [f]
  | x :: l => if ltN f.1 x.1 then f :: x :: l else x :: insP f l
theorem insP_end {f : ByteArray × ByteArray} : ∀ (a : Fl), (∀ y ∈ a, ¬ ltN f.1 y.1) → insP f a = a ++ [f]
  | [], _ => rfl
  | x :: a, h => by
    unfold insP
    rw [if_neg (h x List.mem_cons_self), insP_end a (fun y hy => h y (List.mem_cons_of_mem _ hy))]
    rfl
theorem insP_split {f x : ByteArray × ByteArray} : ∀ (a : Fl), (∀ y ∈ a, ¬ ltN f.1 y.1) → ltN f.1 x.1 → insP f (a ++ [x]) = a ++ [f] ++ [x]
  | [], _, hx => by
    show (if ltN f.1 x.1 then f :: x :: [] else _) = _
    rw [if_pos hx]
    rfl
  | z :: a, h, hx => by
    show (if ltN f.1 z.1 then _ else z :: insP f (a ++ [x])) = _
    rw [if_neg (h z List.mem_cons_self), insP_split a (fun y hy => h y (List.mem_cons_of_mem _ hy)) hx]
    rfl
theorem insP_app {f : ByteArray × ByteArray} (b : Fl) : ∀ (a : Fl), (∃ y ∈ a, ltN f.1 y.1) → insP f (a ++ b) = insP f a ++ b
  | [], h => by obtain ⟨y, hy, _⟩ := h; cases hy
  | z :: a, h => by
    show (if ltN f.1 z.1 then f :: z :: (a ++ b) else z :: insP f (a ++ b)) = (if ltN f.1 z.1 then f :: z :: a else z :: insP f a) ++ b
    by_cases hz : ltN f.1 z.1
    · rw [if_pos hz, if_pos hz]
      rfl
    · rw [if_neg hz, if_neg hz, insP_app b a]
      · rfl
      · obtain ⟨y, hy, hly⟩ := h
        rcases List.mem_cons.1 hy with rfl | hy
        · exact absurd hly hz
        · exact ⟨y, hy, hly⟩
theorem insP_len (f : ByteArray × ByteArray) : ∀ a : Fl, (insP f a).length = a.length + 1
  | [] => rfl
  | x :: a => by
    unfold insP
    split
    · rfl
    · rw [List.length_cons, insP_len f a, List.length_cons]
/-- What is done when j files were looked at. -/
def Sofar (f : ByteArray × ByteArray) (fl : Fl) (j : Nat) (inn : Bool) (out : Fl) : Prop := (inn = false ∧ (∀ y ∈ fl.take j, ¬ ltN f.1 y.1) ∧ out = fl.take j) ∨ (inn = true ∧ (∃ y ∈ fl.take j, ltN f.1 y.1) ∧ out = insP f (fl.take j))
theorem Sofar.len {f : ByteArray × ByteArray} {fl : Fl} {j : Nat} {inn : Bool} {out : Fl} (h : Sofar f fl j inn out) : out.length ≤ fl.length + 1 := by
  rcases h with ⟨_, _, rfl⟩ | ⟨_, _, rfl⟩
  · rw [List.length_take]; omega
  · rw [insP_len, List.length_take]; omega
theorem Sofar.now {f x : ByteArray × ByteArray} {fl : Fl} {j : Nat} {out : Fl} (h : Sofar f fl j false out) (hx : fl[j]? = some x) (hl : ltN f.1 x.1) : Sofar f fl (j + 1) true (out ++ [f] ++ [x]) := by
  rcases h with ⟨_, h1, rfl⟩ | ⟨h, _, _⟩
  · refine .inr ⟨rfl, ⟨x, ?_, hl⟩, ?_⟩
    · rw [List.take_add_one, hx]; simp
    · rw [List.take_add_one, hx]
      exact (insP_split _ h1 hl).symm
  · cases h
theorem Sofar.not {f x : ByteArray × ByteArray} {fl : Fl} {j : Nat} {out : Fl} (h : Sofar f fl j false out) (hx : fl[j]? = some x) (hl : ¬ ltN f.1 x.1) : Sofar f fl (j + 1) false (out ++ [x]) := by
  rcases h with ⟨_, h1, rfl⟩ | ⟨h, _, _⟩
  · refine .inl ⟨rfl, fun y hy => ?_, ?_⟩
    · rw [List.take_add_one, hx] at hy
      rcases List.mem_append.1 hy with hy | hy
      · exact h1 y hy
      · have e : y = x := by simpa using hy
        rw [e]; exact hl
    · rw [List.take_add_one, hx]; rfl
  · cases h
theorem Sofar.past {f x : ByteArray × ByteArray} {fl : Fl} {j : Nat} {out : Fl} (h : Sofar f fl j true out) (hx : fl[j]? = some x) : Sofar f fl (j + 1) true (out ++ [x]) := by
  rcases h with ⟨h, _, _⟩ | ⟨_, h1, rfl⟩
  · cases h
  · refine .inr ⟨rfl, ?_, ?_⟩
    · obtain ⟨y, hy, hly⟩ := h1
      exact ⟨y, by rw [List.take_add_one]; exact List.mem_append_left _ hy, hly⟩
    · rw [List.take_add_one, hx]
      exact (insP_app [x] _ h1).symm
theorem Sofar.over {f : ByteArray × ByteArray} {fl : Fl} {inn : Bool} {out : Fl} (h : Sofar f fl fl.length inn out) : (if inn then out else out ++ [f]) = insP f fl := by
  rcases h with ⟨rfl, h1, rfl⟩ | ⟨rfl, _, rfl⟩
  · rw [List.take_length] at h1 ⊢
    exact (insP_end fl h1).symm
  · rw [List.take_length]
    rfl
theorem small2 {a b : Nat} (h : a ≤ b + 1) (hb : b ≤ 900000) : (a + 1 ≤ maxLen ∧ (a + 1) * 32 ≤ 140737488355328) ∧ (a + 1 + 1 ≤ maxLen ∧ (a + 1 + 1) * 32 ≤ 140737488355328) := by unfold maxLen; omega
theorem own_quiet {w : World} {base e size n : Nat} {v : Value} {xs : List Value} (h : w.ownsRow base e size v n xs) (q : Nat) : (w.drewN q).ownsRow base e size v n xs := own_stay h (fun _ _ => rfl)
set_option maxRecDepth 100000 in
set_option maxHeartbeats 8000000 in
theorem rwith_any (fl : Fl) (f1 f2 : ByteArray) (v : Value) (ok : Nat → Prop) (w : World) (h : Mem.Rd w ok 2 v (fl.map fc)) (hlen : fl.length ≤ 900000) (hno : ∀ x ∈ fl, x.1 ≠ f1) :
    Calls Tryd.prog 29 #[v, .agg #[.string f1, .string f2]] w fun r w' => ∃ v', r = .returned v' ∧ Mem.Rd w' (fun g => w.heap.size ≤ g) 2 v' ((insP (f1, f2) fl).map fc) ∧ Below w.heap.size w w' := by
  obtain ⟨A0, cap0, rfl⟩ := h.slice
  have hll : (fl.map fc).length = fl.length := List.length_map _
  rw [hll] at h ⊢
  obtain ⟨i0, hi, hz0, hz1, hz2⟩ := info_parts info_file
  obtain ⟨w0, hw0⟩ : ∃ w0, w0 = w.alloc (.cells #[.string f1, .string f2] 55) := ⟨_, rfl⟩
  have b0 : Below w.heap.size w w0 := by rw [hw0]; exact (Below.refl _ _).alloc (Nat.le_refl _) _
  have x0 : w0.heap[w.heap.size]? = some (.cells #[.string f1, .string f2] 55 (0, 0)) := by rw [hw0]; exact Mem.new w _
  have HR := Lib.hid (And.intro (h.below b0) (And.intro hno (And.intro x0 b0)))
  clear h hll hno x0 b0
  go_enter Tryd.func29, Tryd.ntmps29
  go_wp2_with fail
  rw [← hw0]
  go_loopw [5, 6, 7] (fun v q i wr => ∃ (j : Nat) (inn : Bool) (out : Fl), j ≤ fl.length ∧ i = .int .i64 (j : Int) ∧ q = .bool inn ∧ wr.ownsRow w0.heap.size 55 2 v out.length (rowsC out) ∧ Sofar (f1, f2) fl j inn out ∧ Below w0.heap.size w0 wr) (fun _ _ i _ => fl.length - (intOf i).toNat)
  case atStart => exact ⟨0, false, [], Nat.zero_le _, rfl, rfl, World.ownsRow_nil _ _ _ _, .inl ⟨rfl, (fun y hy => by simp at hy), by simp⟩, Below.refl _ _⟩
  case round =>
    obtain ⟨j, inn, out, hj, rfl, rfl, hown, hsf, hbel⟩ := hrel
    obtain ⟨Ao, co, rfl, hco⟩ := Qu.q_slice (Qu.q_of_own hown)
    have hbox := (hbel.block w.heap.size (Mem.lt HR.out.2.2.1)).trans HR.out.2.2.1
    have cf0 : wr.cell? ⟨w.heap.size, 0, none⟩ = some (.string f1) := Mem.cell hbox rfl
    have cf1 : wr.cell? ⟨w.heap.size, 1, none⟩ = some (.string f2) := Mem.cell hbox rfl
    have hsm := small2 hsf.len hlen
    by_cases hlt : j < fl.length
    · obtain ⟨⟨x1, x2⟩, hx⟩ : ∃ x, fl[j]? = some x := ⟨_, List.getElem?_eq_getElem hlt⟩
      obtain ⟨g, o, rfl, hg, hgl, hrow⟩ := HR.out.1.row (k := j) (r := fc (x1, x2)) (by rw [List.getElem?_map, hx]; rfl)
      have k0 : w0.cell? ⟨g, o + j * 2, none⟩ = some (.string x1) := hrow 0 _ rfl
      have k1 : w0.cell? ⟨g, o + j * 2 + 1, none⟩ = some (.string x2) := hrow 1 _ rfl
      have c0 := (hbel.cell (p := ⟨g, o + j * 2, none⟩) hgl).trans k0
      have c1 := (hbel.cell (p := ⟨g, o + j * 2 + 1, none⟩) hgl).trans k1
      have hlt' : (j : Int) < (fl.length : Int) := by omega
      have hHK := Lib.hid (wrap_m (Nat.lt_of_lt_of_le hlt (Nat.le_trans hlen (by decide))))
      have hne : (x1.toList == f1.toList) = false := by simpa using toList_ne (HR.out.2.1 (x1, x2) (List.mem_of_getElem? hx))
      have hcf := hbox
      have HO := Lib.hid (And.intro hown (And.intro hbel (And.intro hsf (And.intro hx (And.intro hsm hcf)))))
      clear hown hbel hx hrow hsm hsf hbox hcf
      have e0 := less_eq f1 x1
      cases inn
      · by_cases hl : ltN f1 x1
        · rw [decide_eq_true hl] at e0
          have HL := Lib.hid hl
          clear hl
          go_wp2_with fail
          go_quiet (fail)
          go_wp2_with (first | (at_builtin; refine Mem.append_one rfl (.tmp 26) (.tmp 28) 31 rfl w0.heap.size 55 i0 _ 2 32 Tryd.underlying31 hi hz0 hz1 hz2 rfl (by decide) _ _ out.length (rowsC out) (by rfl) (own_quiet HO.out.1 _) [.string f1, .string f2] rfl (by intro u hu; simp only [List.mem_cons, List.not_mem_nil, or_false] at hu; rcases hu with rfl | rfl <;> rfl) (by rfl) HO.out.2.2.2.2.1.1.1 HO.out.2.2.2.2.1.1.2 HO.out.2.1.size ?_; intro v3 w3 hown3 hg3 ho3))
          obtain ⟨A3, p3, rfl, hp3⟩ := Qu.q_slice (Qu.q_of_own hown3)
          have hs0 := HO.out.2.1.size
          have bel3 := Below.grown ((Mem.bdrewN HO.out.2.1 _).alloc hs0 _) hg3 (Nat.le_trans hs0 (by simp)) (Mem.own_base HO.out.1)
          have box3 := (bel3.block w.heap.size (Mem.lt HR.out.2.2.1)).trans HR.out.2.2.1
          have d0 := (bel3.cell (p := ⟨g, o + j * 2, none⟩) hgl).trans k0
          have d1 := (bel3.cell (p := ⟨g, o + j * 2 + 1, none⟩) hgl).trans k1
          have df0 : w3.cell? ⟨w.heap.size, 0, none⟩ = some (.string f1) := Mem.cell box3 rfl
          have HO3 := Lib.hid (And.intro hown3 bel3)
          clear hown3 bel3 hg3 ho3 box3 c0 c1 cf0 cf1 hs0 e0
          go_quiet (fail)
          go_wp2_with (first | (at_builtin; refine Mem.append_one rfl (.tmp 38) (.tmp 43) 31 rfl w0.heap.size 55 i0 _ 2 32 Tryd.underlying31 hi hz0 hz1 hz2 rfl (by decide) _ _ (out.length + 1) (rowsC out ++ [.string f1, .string f2]) (by rfl) (own_quiet HO3.out.1 _) [.string x1, .string x2] rfl (by intro u hu; simp only [List.mem_cons, List.not_mem_nil, or_false] at hu; rcases hu with rfl | rfl <;> rfl) (by rfl) HO.out.2.2.2.2.1.2.1 HO.out.2.2.2.2.1.2.2 HO3.out.2.size ?_; intro v5 w5 hown5 hg5 ho5))
          go_roundw
          case rel =>
            refine ⟨j + 1, true, out ++ [(f1, f2)] ++ [(x1, x2)], hlt, by go_num, rfl, ?_, HO.out.2.2.1.now HO.out.2.2.2.1 HL.out, ?_⟩
            · rw [rowsC_snoc, rowsC_snoc, List.length_append, List.length_append]
              exact hown5
            · have hs0 := HO3.out.2.size
              exact Below.grown ((Mem.bdrewN HO3.out.2 _).alloc hs0 _) hg5 (Nat.le_trans hs0 (by simp)) (Mem.own_base HO3.out.1)
          case measure => first | exact measS hlt | (rw [hHK.out]; exact measS hlt)
        · rw [decide_eq_false hl] at e0
          have HL := Lib.hid hl
          clear hl
          go_wp2_with fail
          go_quiet (fail)
          go_wp2_with fail
          go_quiet (fail)
          go_wp2_with (first | (at_builtin; refine Mem.append_one rfl (.tmp 38) (.tmp 43) 31 rfl w0.heap.size 55 i0 _ 2 32 Tryd.underlying31 hi hz0 hz1 hz2 rfl (by decide) _ _ out.length (rowsC out) (by rfl) (own_quiet HO.out.1 _) [.string x1, .string x2] rfl (by intro u hu; simp only [List.mem_cons, List.not_mem_nil, or_false] at hu; rcases hu with rfl | rfl <;> rfl) (by rfl) HO.out.2.2.2.2.1.1.1 HO.out.2.2.2.2.1.1.2 HO.out.2.1.size ?_; intro v3 w3 hown3 hg3 ho3))
          go_roundw
          case rel =>
            refine ⟨j + 1, false, out ++ [(x1, x2)], hlt, by go_num, rfl, ?_, HO.out.2.2.1.not HO.out.2.2.2.1 HL.out, ?_⟩
            · rw [rowsC_snoc, List.length_append]
              exact hown3
            · have hs0 := HO.out.2.1.size
              exact Below.grown ((Mem.bdrewN HO.out.2.1 _).alloc hs0 _) hg3 (Nat.le_trans hs0 (by simp)) (Mem.own_base HO.out.1)
          case measure => first | exact measS hlt | (rw [hHK.out]; exact measS hlt)
      · clear e0
        go_wp2_with fail
        go_quiet (fail)
        go_wp2_with fail
        go_quiet (fail)
        go_wp2_with (first | (at_builtin; refine Mem.append_one rfl (.tmp 38) (.tmp 43) 31 rfl w0.heap.size 55 i0 _ 2 32 Tryd.underlying31 hi hz0 hz1 hz2 rfl (by decide) _ _ out.length (rowsC out) (by rfl) (own_quiet HO.out.1 _) [.string x1, .string x2] rfl (by intro u hu; simp only [List.mem_cons, List.not_mem_nil, or_false] at hu; rcases hu with rfl | rfl <;> rfl) (by rfl) HO.out.2.2.2.2.1.1.1 HO.out.2.2.2.2.1.1.2 HO.out.2.1.size ?_; intro v3 w3 hown3 hg3 ho3))
        go_roundw
        case rel =>
          refine ⟨j + 1, true, out ++ [(x1, x2)], hlt, by go_num, rfl, ?_, HO.out.2.2.1.past HO.out.2.2.2.1, ?_⟩
          · rw [rowsC_snoc, List.length_append]
            exact hown3
          · have hs0 := HO.out.2.1.size
            exact Below.grown ((Mem.bdrewN HO.out.2.1 _).alloc hs0 _) hg3 (Nat.le_trans hs0 (by simp)) (Mem.own_base HO.out.1)
        case measure => first | exact measS hlt | (rw [hHK.out]; exact measS hlt)
    · have hge : ¬ (j : Int) < (fl.length : Int) := by omega
      have hje : j = fl.length := by omega
      subst hje
      have hov := hsf.over
      have HO := Lib.hid (And.intro hown (And.intro hbel (And.intro hov (And.intro hov (And.intro hsm hov)))))
      clear hown hbel hsm hsf hbox hov
      cases inn
      · go_wp2_with (first | (at_builtin; refine Mem.append_one rfl (.tmp 47) (.tmp 49) 31 rfl w0.heap.size 55 i0 _ 2 32 Tryd.underlying31 hi hz0 hz1 hz2 rfl (by decide) _ _ out.length (rowsC out) (by rfl) HO.out.1 [.string f1, .string f2] rfl (by intro u hu; simp only [List.mem_cons, List.not_mem_nil, or_false] at hu; rcases hu with rfl | rfl <;> rfl) (by rfl) HO.out.2.2.2.2.1.1.1 HO.out.2.2.2.2.1.1.2 HO.out.2.1.size ?_; intro v3 w3 hown3 hg3 ho3))
        go_ret
        have hs0 := HO.out.2.1.size
        have bel3 := Below.grown (HO.out.2.1.alloc hs0 _) hg3 (Nat.le_trans hs0 (by simp)) (Mem.own_base HO.out.1)
        have he : out ++ [(f1, f2)] = insP (f1, f2) fl := HO.out.2.2.1
        refine ⟨_, rfl, (own_fl (l := insP (f1, f2) fl) (n := out.length + 1) ?_ ?_).mono (fun k hk => Nat.le_trans HR.out.2.2.2.size hk), HR.out.2.2.2.trans (bel3.mono HR.out.2.2.2.size)⟩
        · rw [← he, rowsC_snoc]
          exact hown3
        · rw [← he, List.length_append]
          rfl
      · go_wp2_with fail
        go_ret
        have he : out = insP (f1, f2) fl := HO.out.2.2.1
        rw [← he]
        exact ⟨_, rfl, (own_fl HO.out.1 rfl).mono (fun k hk => Nat.le_trans HR.out.2.2.2.size hk), HR.out.2.2.2.trans (HO.out.2.1.mono HR.out.2.2.2.size)⟩
end Go.Proofs.YtpdceondgbgpkaaDoor.Dsk
