/- DERIVED: the shelf's contracts for strings.Builder at this dump, in plain words (lay-shelf.mjs, lay-plain.mjs; cut). · book: the builder of a book's text, and what writes a number into it. · slices.Clone of ints: the new row is one of ints. · book: the iterator of a book's matches. -/
import Derived.Shelf.Strings.BuilderK
import Derived.Test.YtiomhmdkaglelaaProg
import Derived.Test.YtiomhmdkaglelaaG15
import Derived.Test.YtiomhmdkaglelaaG5
import Derived.Test.YtiomhmdkaglelaaG12
import Derived.RangeFuncLeaves
import Derived.RangeFuncBound
import Derived.Shelf.Abstract
import Derived.Shelf.RegionOpen
import Derived.WalkKit
import Derived.OwnWalkIn
import Derived.TacticsInMore
import Derived.LoopNIn
import Derived.LoopIn
namespace Go.Proofs
open Go.Shelf
def Try.lays169_ren : Go.Shelf.Ren := ⟨fun | 169 => 30 | n => n, fun | 70 => 73 | 9 => 9 | 0 => 0 | 72 => 76 | 37 => 74 | 127 => 103 | 3 => 3 | 5 => 5 | n => n, fun | n => n⟩
theorem Try.lays169 : Go.Proofs.Lays.n169 Try.prog Try.lays169_ren := {
  mixed := by kernel_rfl
  f169 := Try.func30.trans (congrArg some (by kernel_rfl))
  t0 := Try.underlying0
  a0 := Try.isAgg0
  z0 := Try.sizeOf0
  v0 := Try.zeroValue0
  t3 := Try.underlying3
  a3 := Try.isAgg3
  z3 := Try.sizeOf3
  v3 := Try.zeroValue3
  t9 := Try.underlying9
  a9 := Try.isAgg9
  z9 := Try.sizeOf9
  v9 := Try.zeroValue9
  t37 := Try.underlying74
  a37 := Try.isAgg74
  z37 := Try.sizeOf74
  v37 := Try.zeroValue74
  t70 := Try.underlying73
  a70 := Try.isAgg73
  z70 := Try.sizeOf73
  v70 := Try.zeroValue73
  t72 := Try.underlying76
  a72 := Try.isAgg76
  z72 := Try.sizeOf76
  v72 := Try.zeroValue76
  t127 := Try.underlying103
  a127 := Try.isAgg103
  z127 := Try.sizeOf103
  v127 := Try.zeroValue103 }
theorem Try.Builder_Extra_169 : Builder.Extra Try.prog Try.lays169_ren := {
  sizeBuilder := by kernel_rfl
  liesBuilder := by kernel_rfl
  t5 := Try.underlying5
  a5 := Try.isAgg5
  z5 := Try.sizeOf5
  v5 := Try.zeroValue5
  infoByte := by kernel_rfl
  cellsByte := by kernel_rfl
  sizeByte := by kernel_rfl
  neB5 := by decide }
open Go.RowKit in
theorem Try.Builder_String_any_k (B b : Nat) (l : List UInt8) (w : World) (h : Lib.IsBuilderF 76 5 B b (Lib.byteCells l) w) (hBw : B ≤ w.heap.size) :
    Calls Try.prog 30 #[.pointer (some ⟨b, 0, none⟩)] w fun e w' => e = .returned (.string ⟨l.toArray⟩) ∧ (Lib.IsBuilderF 76 5 B b (Lib.byteCells l) w' ∧ Below B w w' ∧ Lib.OthersKept 5 (some b) w w') := Any.Builder_String_any_k Try.lays169 Try.Builder_Extra_169 B b l w h hBw
def Try.lays166_ren : Go.Shelf.Ren := ⟨fun | 166 => 26 | 240 => 43 | 276 => 50 | n => n, fun | 0 => 0 | 3 => 3 | 4 => 4 | 5 => 5 | 9 => 9 | 20 => 20 | 37 => 74 | 70 => 73 | 72 => 76 | 75 => 78 | 80 => 29 | 164 => 116 | n => n, fun | n => n⟩
theorem Try.lays166 : Go.Proofs.Lays.n166 Try.prog Try.lays166_ren := {
  mixed := by kernel_rfl
  f166 := Try.func26.trans (congrArg some (by kernel_rfl))
  f240 := Try.func43.trans (congrArg some (by kernel_rfl))
  f276 := Try.func50.trans (congrArg some (by kernel_rfl))
  t0 := Try.underlying0
  a0 := Try.isAgg0
  z0 := Try.sizeOf0
  v0 := Try.zeroValue0
  t3 := Try.underlying3
  a3 := Try.isAgg3
  z3 := Try.sizeOf3
  v3 := Try.zeroValue3
  t4 := Try.underlying4
  a4 := Try.isAgg4
  z4 := Try.sizeOf4
  v4 := Try.zeroValue4
  t9 := Try.underlying9
  a9 := Try.isAgg9
  z9 := Try.sizeOf9
  v9 := Try.zeroValue9
  t20 := Try.underlying20
  a20 := Try.isAgg20
  z20 := Try.sizeOf20
  v20 := Try.zeroValue20
  t37 := Try.underlying74
  a37 := Try.isAgg74
  z37 := Try.sizeOf74
  v37 := Try.zeroValue74
  t70 := Try.underlying73
  a70 := Try.isAgg73
  z70 := Try.sizeOf73
  v70 := Try.zeroValue73
  t72 := Try.underlying76
  a72 := Try.isAgg76
  z72 := Try.sizeOf76
  v72 := Try.zeroValue76
  t75 := Try.underlying78
  a75 := Try.isAgg78
  z75 := Try.sizeOf78
  v75 := Try.zeroValue78
  t164 := Try.underlying116
  a164 := Try.isAgg116
  z164 := Try.sizeOf116
  v164 := Try.zeroValue116 }
theorem Try.Builder_Extra_166 : Builder.Extra Try.prog Try.lays166_ren := {
  sizeBuilder := by kernel_rfl
  liesBuilder := by kernel_rfl
  t5 := Try.underlying5
  a5 := Try.isAgg5
  z5 := Try.sizeOf5
  v5 := Try.zeroValue5
  infoByte := by kernel_rfl
  cellsByte := by kernel_rfl
  sizeByte := by kernel_rfl
  neB5 := by decide }
open Go.RowKit in
theorem Try.Builder_WriteString_k (B b : Nat) (bs : List Value) (s : ByteArray) (w : World) (h : Lib.IsBuilderF 76 5 B b bs w) (hlen : bs.length + s.size ≤ 140737488355328) (hBw : B ≤ w.heap.size) :
    Calls Try.prog 26 #[.pointer (some ⟨b, 0, none⟩), .string s] w fun e w' => e = .returned (.tuple #[.int .i64 s.size, .nilIface]) ∧ (Lib.BuilderAtF 76 5 B b (.pointer (some ⟨b, 0, none⟩)) (bs ++ Lib.strCells s) w' ∧ Below B w w' ∧ Lib.OthersKept 5 (some b) w w') := Any.Builder_WriteString_k Try.lays166 Try.Builder_Extra_166 B b bs s w h hlen hBw
end Go.Proofs
namespace Go.Proofs.Ytiomhmdkaglelaa
open Go.RowKit
set_option linter.unusedSimpArgs false
set_option linter.unusedVariables false
/-- Block b holds a builder, of the call's own blocks (from B on), that has the bytes l. -/
def Bld (w : World) (B b : Nat) (l : List UInt8) : Prop := Lib.IsBuilderF 76 5 B b (Lib.byteCells l) w
theorem BuilderAtF_grown {T e : TypeId} {B b : Nat} {p : Value} {bs : List Value} {w w' : World} {row : Option Nat} (h : Lib.BuilderAtF T e B b p bs w) (hg : w.grownBy w' row) (hr : ∀ r, row = some r → ∃ o : Obj, w.heap[r]? = some o ∧ o.isCells = false) : Lib.BuilderAtF T e B b p bs w' := by
  obtain ⟨hB, v, hb, hown, hne⟩ := h
  refine ⟨hB, v, (hg.block b (Array.getElem?_eq_some_iff.1 hb).1 (fun h => ?_)).trans hb, hown.kept hg ?_, hne⟩
  · obtain ⟨o, ho, hc⟩ := hr b h.symm
    rw [hb] at ho
    cases ho
    cases hc
  · rcases hown.2 with ⟨rfl, _⟩ | ⟨g, cap, cur, fz, rfl, _, hgg, _⟩
    · exact .inl rfl
    · refine .inr fun h => ?_
      obtain ⟨o, ho, hc⟩ := hr g (by rw [← h]; rfl)
      rw [hgg] at ho
      cases ho
      cases hc
theorem Bld.grown {w w' : World} {row : Option Nat} {B b : Nat} {l : List UInt8} (h : Bld w B b l) (hg : w.grownBy w' row) (hr : ∀ r, row = some r → ∃ o : Obj, w.heap[r]? = some o ∧ o.isCells = false) : Bld w' B b l := by
  rcases h with h | h
  · exact .inl (BuilderAtF_grown h hg hr)
  · exact .inr (BuilderAtF_grown h hg hr)
theorem Bld.below {w w' : World} {B b : Nat} {l : List UInt8} (h : Bld w B b l) (hb : Below w.heap.size w w') : Bld w' B b l := h.grown (below_grown hb) (fun r e => by cases e)
theorem Bld.lt {w : World} {B b : Nat} {l : List UInt8} (h : Bld w B b l) : b < w.heap.size := by
  rcases h with h | h
  · exact h.lt
  · exact h.lt
theorem Bld.cells {w : World} {B b : Nat} {l : List UInt8} (h : Bld w B b l) : ∃ o : Obj, w.heap[b]? = some o ∧ o.isCells = true := by
  rcases h with ⟨_, v, hb, _⟩ | ⟨_, v, hb, _⟩
  · exact ⟨_, hb, rfl⟩
  · exact ⟨_, hb, rfl⟩
/-- Bytes and the builder's block alone turn. -/
def Oth (b : Nat) (w w' : World) : Prop := Lib.OthersKept 5 (some b) w w'
theorem Oth.of_below {b : Nat} {w w' : World} (h : Below w.heap.size w w') : Oth b w w' := fun k o hk _ _ => (h.block k (Array.getElem?_eq_some_iff.1 hk).1).trans hk
theorem Oth.from {B b : Nat} {w w' : World} {l : List UInt8} (h : Oth b w w') (hs : w.heap.size ≤ w'.heap.size) (hb : Bld w B b l) : KeepsFrom B w w' := ⟨hs, fun k o _ hk ho => by
  refine h k o hk (fun e => ?_) (fun c fz e => ?_)
  · obtain ⟨o', ho', hc⟩ := hb.cells
    cases e
    rw [hk] at ho'
    cases ho'
    rw [ho] at hc
    cases hc
  · subst e
    cases ho⟩
theorem Oth.boxed {b B : Nat} {w w' : World} {t : TypeId} {v : Value} (h : Oth b w w') (hB : Boxed w B t v) (hne : B ≠ b) (ht : t ≠ 5) : Boxed w' B t v := h B _ hB (fun e => hne (by simpa using e)) (fun c fz e => ht (by cases e; rfl))
set_option maxRecDepth 100000 in
set_option maxHeartbeats 2000000 in
/-- put(n): a small number. -/
theorem put_any (B b n : Nat) (l : List UInt8) (w : World) (h : Bld w B b l) (hn : n ≤ 247) (hl : l.length ≤ 100000) (hB : B ≤ w.heap.size) : Calls Try.prog 25 #[.int .i64 n, .pointer (some ⟨b, 0, none⟩)] w fun r w' => r = .returned (.tuple #[]) ∧ Bld w' B b (l ++ [UInt8.ofNat n]) ∧ Below B w w' ∧ Oth b w w' := by
  have hn1 : (n : Int) ≤ 247 := by omega
  have hw : IntKind.u64.wrap (n : Int) = (n : Int) := by simp [IntKind.wrap, IntKind.bits, IntKind.signed]; omega
  have H := Lib.hid h
  have hnum := fun w => NumS_any (n : Int) w ⟨by omega, by omega⟩
  have en : numS (n : Int) = Sp.bs [UInt8.ofNat n] := by
    show Sp.bs (Sp.num (n : Int).toNat) = _
    rw [Int.toNat_natCast, num_s hn]
  rw [en] at hnum
  have HN := Lib.hid hnum
  clear hnum en h
  go_enter Try.func25, Try.ntmps25
  go_wp2_with (go_at_call 27; refine (HN.out _).mono ?_; rintro _ w1 ⟨rfl, hb1⟩)
  refine (Try.Builder_WriteString_k B b (Lib.byteCells l) (Sp.bs [UInt8.ofNat n]) w1 (H.out.below hb1) (by rw [Lib.byteCells_length, Sp.bs_size]; simp; omega) (by have := hb1.size; omega)).mono ?_
  rintro _ w2 ⟨rfl, hA, hb2, hO⟩
  go_wp2_with fail
  go_end0
  have e2 : Lib.byteCells l ++ Lib.strCells (Sp.bs [UInt8.ofNat n]) = Lib.byteCells (l ++ [UInt8.ofNat n]) := by rw [Lib.strCells_eq, Lib.byteCells_append]; rfl
  rw [e2] at hA
  exact ⟨rfl, .inr hA, (hb1.mono hB).trans hb2, Lib.OthersKept.trans (Oth.of_below hb1) hO⟩
end Go.Proofs.Ytiomhmdkaglelaa
namespace Go.Proofs.Ytiomhmdkaglelaa
open Go.RowKit
set_option linter.unusedSimpArgs false
set_option linter.unusedVariables false
/-- A row of ints lies in block k. -/
def IntRow (w : World) (k : Nat) : Prop := ∃ cs, w.heap[k]? = some (.cells cs 3 (0, 0))
theorem Rd_typed {w : World} {B sz n : Nat} {v : Value} {xs : List Value} {ok : Nat → Prop} {rows : List (List Value)} (h : w.ownsRow B 3 sz v n xs) (hr : Mem.Rd w ok sz v rows) : Mem.Rd w (fun k => ok k ∧ IntRow w k) sz v rows := by
  obtain ⟨A, cap, e, h1, h2, h3, h4⟩ := hr
  refine ⟨A, cap, e, h1, h2, fun hn => ?_, h4⟩
  obtain ⟨g, o, ea, hg, hl⟩ := h3 hn
  refine ⟨g, o, ea, ⟨hg, ?_⟩, hl⟩
  rcases h.2 with ⟨hv, _⟩ | ⟨g', cap', cur, hv, _, hgg, _⟩
  · rw [e, ea] at hv
    cases hv
  · rw [e, ea] at hv
    injection hv with q1 _ _
    injection q1 with q1
    injection q1 with q1 _ _
    subst q1
    exact ⟨cur, hgg⟩
set_option maxRecDepth 100000 in
set_option maxHeartbeats 2000000 in
theorem CloneI_own (l : List Int) (v : Value) (ok : Nat → Prop) (w : World) (h : IntsR w ok v l) :
    Calls Try.prog 36 #[v] w fun r w' => ∃ v', r = .returned v' ∧ IntsR w' (fun k => w.heap.size ≤ k ∧ IntRow w' k) v' l ∧ Below w.heap.size w w' := by
  obtain ⟨A, cap, rfl⟩ := h.slice
  have hl := h.2
  have HR := Lib.hid h
  clear h
  cases A with
  | none =>
    have he : l = [] := by
      obtain ⟨A', cap', e, _, _, h3, _⟩ := HR.out.1
      injection e with e1
      by_cases hc : l.map intc = []
      · simpa using hc
      · obtain ⟨g, o, e, _⟩ := h3 hc
        rw [← e1] at e
        cases e
    subst he
    have hnil := fun (w : World) (A : Option Addr) (n c n' c' : Nat) => Lib.run_eql_slice_nil (P := Try.prog) w 43 3 A n c n' c' Try.underlying43
    go_enter Try.func36, Try.ntmps36
    go_wp2_with fail
    go_ret
    exact ⟨_, rfl, ⟨Mem.Rd.nil _ _ _, hl⟩, Below.refl _ _⟩
  | some ad =>
    have hnil := fun (w : World) (A : Option Addr) (n c n' c' : Nat) => Lib.run_eql_slice_nil (P := Try.prog) w 43 3 A n c n' c' Try.underlying43
    obtain ⟨i0, hi, hz0, hz1, hz2⟩ := info_parts info_int
    have hn : (l.map intc).flatten.length = l.length * 1 := by rw [Mem.flat_length 1 _ (intc_rows l), List.length_map]
    have hone : ∀ u ∈ (l.map intc).flatten, u.oneCell' = true := by
      intro u hu
      obtain ⟨r, hr, hu⟩ := List.mem_flatten.1 hu
      obtain ⟨f, _, rfl⟩ := List.mem_map.1 hr
      simp only [intc, List.mem_cons, List.not_mem_nil, or_false] at hu
      subst hu
      rfl
    have hcells : ∀ (o : Obj) j u, (l.map intc).flatten[j]? = some u → (w.alloc o).cell? (ad.add j) = some u := by
      intro o j u hj
      obtain ⟨r, hr, hc⟩ := Mem.flat_at 1 (by decide) _ j u (intc_rows l) hj
      obtain ⟨g, o', e, _, hg, hrow⟩ := (HR.out.1.below ((Below.refl _ _).alloc (Nat.le_refl _) o)).row hr
      cases e
      have e1 : (⟨g, o', none⟩ : Addr).add j = ⟨g, o' + (j / 1) * 1 + j % 1, none⟩ := by
        have := Nat.div_add_mod j 1
        unfold Addr.add
        split
        · rename_i h0; subst h0; rfl
        · simp; omega
      rw [e1]
      exact hrow _ _ hc
    have HN := Lib.hid hn
    have HO := Lib.hid hone
    have HC := Lib.hid hcells
    have hown : (w.alloc (.cells #[] 3)).ownsRow w.heap.size 3 1 (.slice (some ⟨w.heap.size, 0, none⟩) 0 0) 0 [] := ⟨rfl, .inr ⟨w.heap.size, 0, #[], rfl, Nat.le_refl _, Mem.new _ _, Nat.le_refl _, by decide, rfl, rfl⟩⟩
    have HL := Lib.hid hl
    clear hn hone hcells hl
    go_enter Try.func36, Try.ntmps36
    go_wp2_with (at_builtin; refine wpList_append_own_at _ rfl (.tmp 5) (.tmp 6) 43 rfl w.heap.size 3 i0 (.int .i64 0) 1 8 Try.underlying43 hi hz0 hz1 hz2 rfl (by decide) _ _ _ rfl hown ad _ _ (l.map intc).flatten rfl HN.out (HC.out _) HO.out (by have := HL.out; unfold maxLen; omega) (by have := HL.out; omega) (by simp) ?_; intro v' w1 hown1 hg1 _ _)
    go_ret
    have hbl : Below w.heap.size w w1 := Below.grown ((Below.refl _ _).alloc (Nat.le_refl _) _) hg1 (by simp) (fun k hk => by
      have hk' : (Value.slice (some ⟨w.heap.size, 0, none⟩) 0 0).ownBlock = some k := hk
      have : w.heap.size = k := by simpa [Value.ownBlock] using hk'
      omega)
    exact ⟨_, rfl, ⟨Rd_typed hown1 (Mem.Rd.of_owns hown1 (by simp) (intc_rows l)), HL.out⟩, hbl⟩
end Go.Proofs.Ytiomhmdkaglelaa
namespace Go.Proofs.Ytiomhmdkaglelaa
open Go.RowKit
set_option linter.unusedSimpArgs false
set_option linter.unusedVariables false
attribute [local go_sem] Oper.semAt_some
set_option maxRecDepth 100000 in
set_option maxHeartbeats 2000000 in
/-- b.from(n): the two are boxed; a function value that holds the boxes. -/
theorem from_any (b : Nat) (n : Int) (w : World) : Calls Try.prog 31 #[.pointer (some ⟨b, 0, none⟩), .int .i64 n] w fun r w' => r = .returned (.func (.func 44) #[] #[.pointer (some ⟨w.heap.size + 1, 0, none⟩), .pointer (some ⟨w.heap.size, 0, none⟩)]) ∧ Boxed w' w.heap.size 27 (.pointer (some ⟨b, 0, none⟩)) ∧ Boxed w' (w.heap.size + 1) 3 (.int .i64 n) ∧ w'.heap.size = w.heap.size + 2 ∧ Below w.heap.size w w' := by
  have h1 := Boxed.new w 27 (.pointer (some ⟨b, 0, none⟩))
  have h2 := Boxed.new (w.alloc (.cells #[.pointer (some ⟨b, 0, none⟩)] 27)) 3 (.int .i64 n)
  rw [World.size_alloc] at h2
  have hb : Below w.heap.size w ((w.alloc (.cells #[.pointer (some ⟨b, 0, none⟩)] 27)).alloc (.cells #[.int .i64 n] 3)) := ((Below.refl _ w).alloc (Nat.le_refl _) _).alloc (by simp) _
  go_enter Try.func31, Try.ntmps31
  go_wp2_with fail
  go_ret
  exact ⟨rfl, h1.alloc _, h2, by simp, hb⟩
/-- What is told of a value that is yielded: it is a new row, of the picks of the match whose turn it is. -/
def Yld (n₀ k : Nat) (L : List (Value × List Int)) (pre : List (Value × List Int)) (p : Value × List Int) (W : World) : Prop := IntsR W (fun j => n₀ ≤ j ∧ IntRow W j) p.1 p.2 ∧ ∃ q, L[k + pre.length]? = some q ∧ p.2 = q.2
/-- What the iterator leans on, at a world. -/
structure Itr (W : World) (S : Nat → Prop) (b x : Nat) (a : Int) (L : List (Value × List Int)) : Prop where
  bk : BookAt W S b ⟨a, L⟩
  bx : Boxed W x 27 (.pointer (some ⟨b, 0, none⟩))
/-- What a round must keep: the book, and the box that leads to it. -/
structure Kpt (S : Nat → Prop) (x : Nat) (W W' : World) : Prop where
  size : W.heap.size ≤ W'.heap.size
  keep : ∀ k, (S k ∨ k = x) → k < W.heap.size → W'.heap[k]? = W.heap[k]?
theorem Kpt.refl (S : Nat → Prop) (x : Nat) (W : World) : Kpt S x W W := ⟨Nat.le_refl _, fun _ _ _ => rfl⟩
theorem Kpt.trans {S : Nat → Prop} {x : Nat} {A B C : World} (h : Kpt S x A B) (k : Kpt S x B C) : Kpt S x A C := ⟨Nat.le_trans h.size k.size, fun i hi hl => (k.keep i hi (Nat.lt_of_lt_of_le hl h.size)).trans (h.keep i hi hl)⟩
theorem Kpt.of_below {S : Nat → Prop} {x : Nat} {W W' : World} (h : Below W.heap.size W W') : Kpt S x W W' := ⟨h.size, fun k _ hl => h.block k hl⟩
theorem Itr.later {W W' : World} {S : Nat → Prop} {b x : Nat} {a : Int} {L : List (Value × List Int)} (h : Itr W S b x a L) (hb : Kpt S x W W') : Itr W' S b x a L :=
  ⟨h.bk.step hb.size (fun j hj hl => hb.keep j (.inl hj) hl) (fun _ h => h), (hb.keep x (.inr rfl) h.bx.lt).trans h.bx⟩
theorem ind_wrap {f a : Int} {k m j : Nat} (hf : f = a + (k : Int)) (hj : j = k + m) (ha : 0 ≤ a) (h : f + (m : Int) ≤ 200000) : IntKind.i64.wrap (f + (m : Int) - a) = (j : Int) := by simp [IntKind.wrap, IntKind.bits, IntKind.signed]; omega
set_option maxRecDepth 100000 in
set_option maxHeartbeats 4000000 in
theorem from_tells (n : Nat) (hn : 1 ≤ n) (S : Nat → Prop) (b x y n₀ k : Nat) (a f : Int) (L : List (Value × List Int)) (w : World) (h : BookAt w S b ⟨a, L⟩) (hx : Boxed w x 27 (.pointer (some ⟨b, 0, none⟩))) (hy : Boxed w y 3 (.int .i64 f)) (hn₀ : n₀ ≤ w.heap.size) (hf : f = a + (k : Int)) (ha : 0 ≤ a) (hfl : f ≤ 100000) (hl : L.length ≤ 1000) :
    Tells Fence.wide n Try.prog 44 #[.pointer (some ⟨y, 0, none⟩), .pointer (some ⟨x, 0, none⟩)] (fun p : Value × List Int => #[.agg #[p.1]]) (Kpt S x) (Yld n₀ k L) (fun xs => L.length ≤ k + xs.length) (fun _ => True) w := fun l J Jx W hW hJ hJx hY h0 => by
  have hI : Itr W S b x a L := Itr.later ⟨h, hx⟩ (Kpt.of_below hW)
  have hy' : Boxed W y 3 (.int .i64 f) := (hW.block y hy.lt).trans hy
  have hnW : n₀ ≤ W.heap.size := by have := hW.size; omega
  have H := Lib.hid hI
  have HY := Lib.hid hY
  have HJ := Lib.hid hJ
  have HF := Lib.hid (And.intro hf (And.intro ha (And.intro hfl hl)))
  have cy := hy'.cell
  clear h hI hy' hx hy hJ hJx hY hW hf ha
  refine callsIn_of_wp Try.func44 rfl trivial ?_ rfl
  simp only [Try.ntmps44, List.size_toArray, List.length_cons, List.length_nil, Nat.reduceAdd, Nat.reduceSub, Array.replicate_succ, Array.replicate_zero, List.push_toArray, List.append_toArray, List.nil_append, List.cons_append]
  gi_wp2
  gi_loopw [4] (fun i wr => ∃ pre : List (Value × List Int), i = .int .i64 (f + (pre.length : Int)) ∧ (pre = [] ∨ k + pre.length ≤ L.length) ∧ J pre wr ∧ Kpt S x W wr) (fun i _ => (a + (L.length : Int) - intOf i).toNat)
  case atStart => exact ⟨[], by simp, .inl rfl, h0, Kpt.refl _ _ _⟩
  case round =>
    obtain ⟨pre, rfl, hle, hj, hbl⟩ := hrel
    have hIr := H.out.later hbl
    have cx := hIr.bx.cell
    have hnr : n₀ ≤ wr.heap.size := by have := hbl.size; omega
    have hpl : (pre.length : Int) ≤ 1000 := by
      have := HF.out.2.2.2
      rcases hle with rfl | h
      · simp
      · omega
    have HR := Lib.hid (And.intro hIr (And.intro hbl hj))
    have hmx : Try.prog.follows .mixedOrders = true := by kernel_rfl
    have hE := fun (W1 : World) (hb : Itr W1 S b x a L) => BkEnd_any S b ⟨a, L⟩ W1 hb.bk ⟨HF.out.2.1, by show a ≤ _; have := HF.out; omega⟩ (by show L.length ≤ _; omega)
    have HE := Lib.hid hE
    clear hIr hbl hj hE
    obtain ⟨j, hj⟩ : ∃ j, j = k + pre.length := ⟨_, rfl⟩
    by_cases hlt : j < L.length
    · obtain ⟨q, hq⟩ : ∃ q, L[j]? = some q := ⟨_, List.getElem?_eq_getElem hlt⟩
      have hg1 : f + (pre.length : Int) < a + (L.length : Int) := by have := HF.out; omega
      have hg2 : IntKind.i64.wrap (f + (pre.length : Int) - a) = (j : Int) := ind_wrap HF.out.1 hj HF.out.2.1 (by omega)
      have hg3 : (j : Int) < (L.length : Int) := by omega
      have hw1 : wrap64 (f + (pre.length : Int) + 1) = f + (pre.length : Int) + 1 := by have := HF.out; unfold wrap64; omega
      have HW1 := Lib.hid (And.intro hw1 hg1)
      have HJJ := Lib.hid hj
      clear hw1
      clear hj
      gi_wp2_with (refine ⟨trivial, ?_⟩; gi_at_call 29; refine (callsIn_wide.2 (HE.out _ HR.out.1)).mono ?_; rintro _ w2 ⟨rfl, hb2⟩)
      have hB2 : Kpt S x W w2.drew := HR.out.2.1.trans (Kpt.of_below (hb2.trans (Below.refl _ _).drew))
      have hI2 := H.out.later hB2
      have cx2 := hI2.bx.cell
      obtain ⟨v, hbb, sb, hrow, hfs⟩ := hI2.bk
      obtain ⟨A, c, rfl⟩ := hrow.slice
      rw [List.length_map] at hbb hrow
      have b0 := Mem.cell hbb (j := 0) rfl
      have b1 := Mem.cell hbb (j := 1) rfl
      obtain ⟨g, o, rfl, hg, hgl, hcell⟩ := hrow.row (k := j) (r := pk q) (by rw [List.getElem?_map, hq]; rfl)
      have cq : w2.drew.cell? ⟨g, o + j, none⟩ = some q.1 := by have := hcell 0 _ rfl; simpa [pk] using this
      have hqi := hfs q (List.mem_of_getElem? hq)
      have HQ := Lib.hid hqi
      have H2 := Lib.hid hb2
      clear hbb hrow hfs hI2 hcell hqi hB2 hb2
      gi_region_with_o (first
        | (refine ⟨trivial, ?_⟩; gi_at_call 36; refine (callsIn_wide.2 (CloneI_own q.2 q.1 _ _ HQ.out)).mono ?_; rintro _ w3 ⟨v', rfl, hv', hb3⟩
           obtain ⟨A', c', rfl⟩ := hv'.slice
           have hbr : Below wr.heap.size wr w3 := (H2.out.trans (Below.refl _ _).drew).trans (hb3.mono H2.out.size)
           have hj3 := HJ.out _ _ _ HR.out.2.2 hbr
           obtain ⟨fn, tmps, assign, body, hy, hR⟩ := HY.out pre (.slice A' q.2.length c', q.2) w3 hj3 ⟨hv'.mono (fun i hi => ⟨Nat.le_trans (Nat.le_trans hnr H2.out.size) hi.1, hi.2⟩), q, by rw [← HJJ.out]; exact hq, rfl⟩
           dsimp only at hy
           have HB3 := Lib.hid (HR.out.2.1.trans (Kpt.of_below hbr))
           clear hbr hj3 hb3 hv')
        | (refine hR.mono ?_
           intro e W' he
           obtain ⟨bv, rfl, hW⟩ : ∃ bv, e = .returned (.bool bv) ∧ ((bv = true ∧ J (pre ++ [(.slice A' q.2.length c', q.2)]) W' ∧ Kpt S x w3 W') ∨ (bv = false ∧ Jx (pre ++ [(.slice A' q.2.length c', q.2)]) W')) := by
             rcases he with ⟨rfl, h1, h2⟩ | ⟨rfl, h1⟩
             · exact ⟨_, rfl, .inl ⟨rfl, h1, h2⟩⟩
             · exact ⟨_, rfl, .inr ⟨rfl, h1⟩⟩))
      all_goals
        rcases hW with ⟨rfl, hJ', hB'⟩ | ⟨rfl, hJ'⟩
        · gi_wp2
          go_roundw
          case rel =>
            refine ⟨pre ++ [(.slice A' q.2.length c', q.2)], ?_, .inr (by have := HJJ.out; simp; omega), hJ', HB3.out.trans hB'⟩
            rw [List.length_append]
            simp
            rw [HW1.out.1]
            omega
          case measure =>
            simp [intOf]
            rw [HW1.out.1]
            have := HW1.out.2
            omega
        · gi_wp2
          refine bodyPost_ret (results_none rfl _ _ _) rfl ?_
          exact ⟨⟨_, rfl⟩, .inr (by first | exact ⟨_, hJ'⟩ | exact ⟨_, trivial, hJ'⟩)⟩
    · have hg1 : ¬ f + (pre.length : Int) < a + (L.length : Int) := by have := HF.out; omega
      gi_wp2_with (refine ⟨trivial, ?_⟩; gi_at_call 29; refine (callsIn_wide.2 (HE.out _ HR.out.1)).mono ?_; rintro _ w2 ⟨rfl, hb2⟩)
      go_end0
      exact ⟨⟨_, rfl⟩, .inl ⟨pre, by omega, HJ.out _ _ _ HR.out.2.2 hb2⟩⟩
end Go.Proofs.Ytiomhmdkaglelaa
