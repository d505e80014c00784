/- book: what is read of a book. · book.drop: the first matches are let go. · book.drop: a book whose first matches are let go. · book: which match may be; matches are let go. -/
import Derived.Test.YtiomhmdkaglelaaG17
import Derived.Maps.AppendAt
import Derived.Test.YtiomhmdkaglelaaG14
import Derived.Deep.RegionLaw
namespace Go.Proofs.Ytiomhmdkaglelaa
open Go.RowKit
set_option linter.unusedSimpArgs false
set_option linter.unusedVariables false
attribute [local go_sem] Oper.semAt_some store_func
theorem info_match : (Try.prog.info? 45).map (fun i => (i.zero, i.size, i.bytes)) = some (some (.agg #[.slice none 0 0]), 1, 24) := by kernel_rfl
theorem results_read {fn : Func} {c u v : Tmp} (h : fn.results = #[.cell c 39, .tmp u, .tmp v]) (tmps : Array Value) (ad : Addr) (x : Value) (w : World) (hp : tmps.getD c undef = .pointer (some ad)) (hc : w.cell? ad = some x) :
    (results fn tmps).run Try.prog w = .ok (.tuple #[x, tmps.getD u undef, tmps.getD v undef]) w := by
  rw [Array.getD_eq_getD_getElem?] at hp
  simp [results, h, hp, go_sem, hc]
set_option maxRecDepth 100000 in
set_option maxHeartbeats 4000000 in
/-- What was let go cannot be read. -/
theorem BkRead_gone (S : Nat → Prop) (b : Nat) (a f most : Int) (L : List (Value × List Int)) (w : World) (h : BookAt w S b ⟨a, L⟩) (hf : 0 ≤ f) (hm : 0 ≤ most) (hlt : f < a) :
    Calls Try.prog 12 #[.pointer (some ⟨b, 0, none⟩), .int .i64 f, .int .i64 most] w fun r w' => r = .returned (.tuple #[.slice none 0 0, .int .i64 a, .int .i64 180]) ∧ Below w.heap.size w w' := by
  obtain ⟨v, hb, _⟩ := h
  have hbl := Mem.lt hb
  have h1 := Boxed.new w 3 (.int .i64 most)
  have h2 := Boxed.new (w.alloc (.cells #[.int .i64 most] 3)) 39 (.slice none 0 0)
  rw [World.size_alloc] at h2
  have h1' := h1.alloc (.cells #[.slice none 0 0] 39)
  have c1 := h1'.cell
  have c2 := h2.cell
  have f2 := h2.frozen
  have hb2 := (Below.heap_alloc (w.alloc (.cells #[.int .i64 most] 3)) (.cells #[.slice none 0 0] 39) b (by simp; omega)).trans ((Below.heap_alloc w (.cells #[.int .i64 most] 3) b hbl).trans hb)
  have b0 := Mem.cell hb2 (j := 0) rfl
  have hB : Below w.heap.size w ((w.alloc (.cells #[.int .i64 most] 3)).alloc (.cells #[.slice none 0 0] 39)) := ((Below.refl _ w).alloc (Nat.le_refl _) _).alloc (by simp) _
  have HB := Lib.hid hB
  clear h1 h2 h1' hb hb2 hB
  go_enter Try.func12, Try.ntmps12
  go_wp2_with fail
  have hne : b ≠ w.heap.size + 1 := by omega
  generalize (w.alloc (.cells #[.int .i64 most] 3)).alloc (.cells #[.slice none 0 0] 39) = W0 at c1 c2 f2 b0 HB ⊢
  have d0 : (W0.drew.setCell ⟨w.heap.size + 1, 0, none⟩ (.slice none 0 0)).cell? ⟨b, 0, none⟩ = some (.int .i64 a) := by
    rw [World.cell?_of_block (a := ⟨b, 0, none⟩) (Below.heap_setCell _ _ _ _ hne)]
    exact b0
  have d1 : (W0.drew.setCell ⟨w.heap.size + 1, 0, none⟩ (.slice none 0 0)).cell? ⟨w.heap.size + 1, 0, none⟩ = some (.slice none 0 0) := World.cell?_setCell_same' _ _ _ (by show (W0.cell? _).isSome = true; rw [c2]; rfl)
  go_region
  all_goals
    go_wp2_with fail
    (try simp only [Exit.inBlock, Exit.then])
    refine bodyPost_ret (results_read rfl _ ⟨w.heap.size + 1, 0, none⟩ (.slice none 0 0) _ rfl d1) rfl ?_
    exact ⟨rfl, (HB.out.setCell (p := ⟨w.heap.size + 1, 0, none⟩) (by simp) _).trans (Below.refl _ _).drew⟩
/-- While matches are read: the result's box holds a row of one's own, of what has come. -/
structure Rx (w W : World) (n₀ x b f m e : Nat) (pre : List (Value × List Int)) : Prop where
  len : pre.length ≤ m
  sz : n₀ ≤ W.heap.size
  bx : Boxed W x 27 (.pointer (some ⟨b, 0, none⟩))
  bm : Boxed W w.heap.size 3 (.int .i64 (m : Int))
  row : ∃ v, Boxed W (w.heap.size + 1) 39 v ∧ W.ownsRow w.heap.size 45 1 v pre.length (vs pre)
  el : ∀ p, p ∈ pre → IntsT W n₀ p.1 p.2
  std : Std f pre
  fit : pre = [] ∨ f + pre.length ≤ e
  bl : Below w.heap.size w W
theorem own_rd {W : World} {B : Nat} {e : TypeId} {v : Value} {M : List (Value × List Int)} (ho : W.ownsRow B e 1 v M.length (vs M)) : Mem.Rd W (fun k => B ≤ k) 1 v (M.map pk) := by
  have h : W.ownsRow B e 1 v (M.map pk).length (M.map pk).flatten := by rw [List.length_map]; exact ho
  exact Mem.Rd.of_owns h rfl (pk_rows M)
theorem int_not_row {W : World} {B k n : Nat} {e : TypeId} {v : Value} {xs : List Value} (h : IntRow W k) (ho : W.ownsRow B e 1 v n xs) (he : e ≠ 3) : some k ≠ v.ownBlock := by
  obtain ⟨cs, hcs⟩ := h
  rcases ho.2 with ⟨rfl, _⟩ | ⟨g, cap, cur, rfl, _, hgg, _⟩
  · simp [Value.ownBlock]
  · intro hk
    have : k = g := by simpa [Value.ownBlock] using hk
    subst this
    rw [hcs] at hgg
    cases hgg
    exact he rfl
theorem setCell_same {W : World} {B : Nat} {t : TypeId} {v : Value} (h : Boxed W B t v) : W.setCell ⟨B, 0, none⟩ v = W := by
  have hb := Array.getElem?_eq_some_iff.1 (show W.heap[B]? = _ from h)
  obtain ⟨hlt, he⟩ := hb
  have hh : (W.setCell ⟨B, 0, none⟩ v).heap = W.heap := by
    apply Array.ext
    · simp [World.setCell]
    · intro i h1 h2
      by_cases hi : i = B
      · subst hi
        have h3 := (Boxed.set v h)
        have h4 := (Array.getElem?_eq_some_iff.1 (show (W.setCell ⟨i, 0, none⟩ v).heap[i]? = _ from h3)).2
        rw [h4, he]
      · have h3 := Below.heap_setCell W ⟨B, 0, none⟩ v i hi
        rw [Array.getElem?_eq_getElem h1, Array.getElem?_eq_getElem h2] at h3
        exact Option.some.inj h3
  cases W
  simp only [World.setCell] at hh ⊢
  rw [hh]
theorem boxed_grown {W W' : World} {row : Option Nat} {x : Nat} {t : TypeId} {v : Value} (h : Boxed W x t v) (hg : W.grownBy W' row) (hr : ∀ r, row = some r → ∃ o : Obj, W.heap[r]? = some o ∧ o.isCells = false) : Boxed W' x t v :=
  h.kept hg (fun e => by obtain ⟨o, ho, hc⟩ := hr _ e.symm; rw [show W.heap[x]? = _ from h] at ho; cases ho; cases hc)
theorem intsT_grown {W W' : World} {row : Option Nat} {B : Nat} {v : Value} {l : List Int} (h : IntsT W B v l) (hg : W.grownBy W' row) (hr : ∀ r, row = some r → ∀ cs, W.heap[r]? ≠ some (.cells cs 3 (0, 0))) : IntsT W' B v l :=
  h.step hg.size (fun k hk hI => hg.block k hI.lt (fun e => by obtain ⟨cs, hcs⟩ := hI; exact hr k e.symm cs hcs))
theorem Rx.grown {w W W' : World} {n₀ x b f m e : Nat} {pre : List (Value × List Int)} {row : Option Nat} (h : Rx w W n₀ x b f m e pre) (hg : W.grownBy W' row) (hr : ∀ r, row = some r → w.heap.size ≤ r ∧ ∃ o : Obj, W.heap[r]? = some o ∧ o.isCells = false) : Rx w W' n₀ x b f m e pre := by
  obtain ⟨v, hv, ho⟩ := h.row
  have hr' := fun r e => (hr r e).2
  refine ⟨h.len, Nat.le_trans h.sz hg.size, boxed_grown h.bx hg hr', boxed_grown h.bm hg hr', ⟨v, boxed_grown hv hg hr', ho.kept hg ?_⟩, fun p hp => intsT_grown (h.el p hp) hg (fun r e cs hcs => ?_), h.std, h.fit, h.bl.grown hg h.bl.size (fun k e => (hr k e).1)⟩
  · rcases ho.2 with ⟨rfl, _⟩ | ⟨g, cap, cur, rfl, _, hgg, _⟩
    · exact .inl rfl
    · refine .inr fun h => ?_
      obtain ⟨o, ho, hc⟩ := hr' g (by rw [← h]; rfl)
      rw [hgg] at ho
      cases ho
      cases hc
  · obtain ⟨o, ho, hc⟩ := hr' r e
    rw [hcs] at ho
    cases ho
    cases hc
theorem Rx.below {w W W' : World} {n₀ x b f m e : Nat} {pre : List (Value × List Int)} (h : Rx w W n₀ x b f m e pre) (hb : Below W.heap.size W W') : Rx w W' n₀ x b f m e pre := h.grown (below_grown hb) (fun r e => by cases e)
set_option maxRecDepth 100000 in
set_option maxHeartbeats 4000000 in
theorem BkRead_ok (S : Nat → Prop) (b a f m : Nat) (L : List (Value × List Int)) (w : World) (h : BookAt w S b ⟨(a : Int), L⟩) (hS : ∀ k, S k → k < w.heap.size) (hstd : Std a L) (hl : L.length ≤ 1000) (haf : a ≤ f) (hf : f ≤ 1000) (hm : m ≤ 1000) :
    Calls Try.prog 12 #[.pointer (some ⟨b, 0, none⟩), .int .i64 (f : Int), .int .i64 (m : Int)] w fun r w' => ∃ v M, r = .returned (.tuple #[v, .int .i64 ((f : Int) + (M.length : Int)), .int .i64 0]) ∧ Pks w' (fun k => w.heap.size ≤ k) v M ∧ Std f M ∧ M.length ≤ m ∧ (M = [] ∨ f + M.length ≤ a + L.length) ∧ Below w.heap.size w w' := by
  have h1 := Boxed.new w 3 (.int .i64 (m : Int))
  have h2 := Boxed.new (w.alloc (.cells #[.int .i64 (m : Int)] 3)) 39 (.slice none 0 0)
  rw [World.size_alloc] at h2
  have h1' := h1.alloc (.cells #[.slice none 0 0] 39)
  have c1 := h1'.cell
  have c2 := h2.cell
  have f2 := h2.frozen
  have hB : Below w.heap.size w ((w.alloc (.cells #[.int .i64 (m : Int)] 3)).alloc (.cells #[.slice none 0 0] 39)) := ((Below.refl _ w).alloc (Nat.le_refl _) _).alloc (by simp) _
  have hbk : BookAt ((w.alloc (.cells #[.int .i64 (m : Int)] 3)).alloc (.cells #[.slice none 0 0] 39)) S b ⟨(a : Int), L⟩ := h.below hB
  obtain ⟨v0, hb, _⟩ := hbk
  have b0 := Mem.cell hb (j := 0) rfl
  have H := Lib.hid (And.intro h (And.intro hB (And.intro h1' h2)))
  have h0f : ¬ (f : Int) < 0 := by omega
  have h0m : ¬ (m : Int) < 0 := by omega
  have h0a : ¬ (f : Int) < (a : Int) := by omega
  clear h1 h2 h1' hb hB h
  refine (callsIn_wide (n := 4)).1 ?_
  refine callsIn_of_wp_marks Try.func12 rfl trivial ?_ rfl
  simp only [Try.ntmps12, List.size_toArray, List.length_cons, List.length_nil, Nat.reduceAdd, Nat.reduceSub, Array.replicate_succ, Array.replicate_zero, List.push_toArray, List.append_toArray, List.nil_append, List.cons_append]
  gi_wp2_with (refine ⟨trivial, ?_⟩; gi_at_call 31; refine (callsIn_wide.2 (from_any b _ _)).mono ?_; rintro _ W3 ⟨rfl, hx, hy, hz, hb3⟩)
  simp only [World.size_alloc] at hx hy hz
  have hB3 : Below w.heap.size w W3 := H.out.2.1.trans (hb3.mono H.out.2.1.size)
  have hz3 : w.heap.size + 1 + 1 < W3.heap.size := hx.lt
  have hbk : BookAt W3 S b ⟨(a : Int), L⟩ := H.out.1.step hB3.size (fun k hk _ => hB3.block k (hS k hk)) (fun _ h => h)
  have hR0 : Rx w W3 W3.heap.size (w.heap.size + 1 + 1) b f m (a + L.length) [] := ⟨Nat.zero_le _, Nat.le_refl _, hx, (hb3.block _ H.out.2.2.1.lt).trans H.out.2.2.1, ⟨_, (hb3.block _ H.out.2.2.2.lt).trans H.out.2.2.2, World.ownsRow_nil _ _ _ _⟩, (fun p hp => by cases hp), Std.nil _, .inl rfl, hB3⟩
  have HR0 := Lib.hid hR0
  clear c1 c2 f2 b0 hb3 hR0 hz
  obtain ⟨i0, hi, hz0, hz1, hz2⟩ := info_parts info_match
  have hend : ∀ (D : Nat) (W : World) (M : List (Value × List Int)), W3.heap.size ≤ D → Rx w W W3.heap.size (w.heap.size + 1 + 1) b f m (a + L.length) M → W.heap[D]? = some (.deferred (some [])) → ∀ v, Boxed W (w.heap.size + 1) 39 v → W.ownsRow w.heap.size 45 1 v M.length (vs M) →
      Pks (W.putObj D (.deferred none)) (fun k => w.heap.size ≤ k) v M ∧ Std f M ∧ M.length ≤ m ∧ (M = [] ∨ f + M.length ≤ a + L.length) ∧ Below w.heap.size w (W.putObj D (.deferred none)) := by
    intro D W M hD hR hK v hv ho
    have hg := grownBy_putObj' W D (.deferred none)
    have hr : ∀ r, some D = some r → w.heap.size ≤ r ∧ ∃ o : Obj, W.heap[r]? = some o ∧ o.isCells = false := fun r e => by cases e; exact ⟨by omega, _, hK, rfl⟩
    have hR' := hR.grown hg hr
    have ho' : (W.putObj D (.deferred none)).ownsRow w.heap.size 45 1 v M.length (vs M) := ownsRow_putObj ho _ hK rfl
    refine ⟨⟨?_, fun p hp => IntsR.mono (hR'.el p hp) (fun k hk => by have := hk.1; omega)⟩, hR.std, hR.len, hR.fit, hR'.bl⟩
    exact own_rd ho'
  have HE := Lib.hid hend
  clear hend
  refine range_told (w := W3) rfl (by omega) (gf := 44) (lb := #[.pointer (some ⟨w.heap.size + 1 + 1 + 1, 0, none⟩), .pointer (some ⟨w.heap.size + 1 + 1, 0, none⟩)]) rfl trivial (enters_of Try.func44 (by kernel_rfl) rfl)
    (from_tells 3 (by omega) S b (w.heap.size + 1 + 1) (w.heap.size + 1 + 1 + 1) W3.heap.size (f - a) (a : Int) (f : Int) L W3 hbk hx hy (Nat.le_refl _) (by omega) (by omega) (by omega) (by omega)) Kpt.trans ?hKb (fun _ => rfl)
    (fun pre W => Rx w W W3.heap.size (w.heap.size + 1 + 1) b f m (a + L.length) pre) (fun c xs W => c = .exit 1 ∧ ∃ pre p, xs = pre ++ [p] ∧ Rx w W W3.heap.size (w.heap.size + 1 + 1) b f m (a + L.length) pre) ?hI ?hIx HR0.out
    (fun pre p a' W => ∃ (Bx : Nat) (Ai : Option Addr) (c : Nat), W3.heap.size ≤ Bx ∧ p.1 = .slice Ai 1 c ∧ p.2 = [((f + pre.length : Nat) : Int)] ∧ Boxed W Bx 45 (.slice Ai 1 c) ∧ IntsT W W3.heap.size (.slice Ai 1 c) [((f + pre.length : Nat) : Int)] ∧ f + pre.length < a + L.length ∧ a' = { tmps := #[Value.pointer (some { block := b, off := 0 }), Value.int IntKind.i64 (f : Int), Value.int IntKind.i64 (m : Int), undef, undef, Value.pointer (some { block := w.heap.size, off := 0 }), Value.pointer (some { block := w.heap.size + 1, off := 0 }), Value.int IntKind.i64 0, Value.int IntKind.i64 0, Value.pointer (some { block := Bx, off := 0 }), Value.bool false, Value.pointer (some { block := b, off := 0 }), Value.bool false, Value.bool false, Value.int IntKind.i64 (f : Int), Value.bool false, Value.bool false, Value.bool false, Value.int IntKind.i64 (m : Int), Value.bool false, Value.bool false, Value.bool false, Value.int IntKind.i64 (f : Int), Value.pointer (some { block := b, off := 0 }), Value.pointer (some { block := b, off := 0 }), Value.pointer (some { block := b, off := 0 }), Value.int IntKind.i64 (a : Int), Value.bool false, undef, undef, undef, undef, Value.pointer (some { block := b, off := 0 }), Value.int IntKind.i64 (f : Int), Value.func (Fn.func 44) #[] #[Value.pointer (some { block := w.heap.size + 1 + 1 + 1, off := 0 }), Value.pointer (some { block := w.heap.size + 1 + 1, off := 0 })], Value.agg #[Value.slice Ai 1 c], undef, undef, undef, undef, undef, undef, undef, undef, undef, undef, undef, undef, undef], defers := [] }) ?hAx ?assign ?body ?done ?stop
  case hKb =>
    intro W l o o' hl ho hc
    refine ⟨by simp, fun k hk hlt => World.putObj_heap_other (fun e => ?_)⟩
    rcases hk with hk | hk
    · have := hS k hk; omega
    · omega
  case hI =>
    rintro s A B row hs hg hr
    exact hs.grown hg (fun r e => ⟨by have := (hr r e).1; omega, (hr r e).2⟩)
  case hIx =>
    rintro c s A B row ⟨rfl, pre, p, rfl, hs⟩ hg hr
    exact ⟨rfl, pre, p, rfl, hs.grown hg (fun r e => ⟨by have := (hr r e).1; omega, (hr r e).2⟩)⟩
  case hAx =>
    rintro pre p a' s A B row ⟨Bx, Ai, c, h1, h2, h3, h4, h5, h6⟩ hg hr
    exact ⟨Bx, Ai, c, h1, h2, h3, boxed_grown h4 hg (fun r e => (hr r e).2), intsT_grown h5 hg (fun r e cs hcs => by obtain ⟨_, o, ho, hc⟩ := hr r e; rw [hcs] at ho; cases ho; cases hc), h6⟩
  case assign =>
    rintro l pre ⟨v, pl⟩ W K hI ⟨hT, q, hq, rfl⟩ hK
    have hq2 := hstd _ _ hq
    have ee : a + (f - a + pre.length) = f + pre.length := by omega
    rw [ee] at hq2
    dsimp only at hT hq2 ⊢
    rw [hq2] at hT
    obtain ⟨Ai, c, rfl⟩ := hT.slice
    have hlt : f - a + pre.length < L.length := (List.getElem?_eq_some_iff.1 hq).1
    have HKK := Lib.hid hK
    have HII := Lib.hid (And.intro hI (And.intro hT (And.intro hlt hq2)))
    clear hK hI hT hq hq2 ee
    gi_wp2
    have hal := (Below.refl W.heap.size W).alloc (Nat.le_refl _) (.cells #[.slice Ai 1 c] 45)
    exact HKK.out _ _ ((KeepsOthers.alloc _ _).from _) (Kpt.of_below hal) (HII.out.1.below hal)
      ⟨W.heap.size, Ai, c, HII.out.1.sz, rfl, HII.out.2.2.2, Boxed.new _ _ _, IntsT.step (w := W) HII.out.2.1 hal.size (fun k hk hI => hal.block k hI.lt), by have := HII.out.2.2.1; omega, rfl⟩
  case body =>
    rintro l pre ⟨v', pl⟩ a' W hl hR ⟨Bx, Ai, c, hBx, rfl, hpl, hbx, hint, hlt, rfl⟩
    dsimp only at hpl
    subst hpl
    obtain ⟨v, hv, ho⟩ := hR.row
    have cv := hv.cell
    have cm := hR.bm.cell
    have q5 := hbx.cell
    have HR := Lib.hid (And.intro hR (And.intro hbx (And.intro hint (And.intro hv ho))))
    have hno : ∃ A' c', v = .slice A' pre.length c' := by
      obtain ⟨A', c', e⟩ := Mem.Rd.slice (own_rd ho)
      exact ⟨A', c', by simpa using e⟩
    obtain ⟨A', c', rfl⟩ := hno
    by_cases hlm : pre.length < m
    · have hlm1 : ¬ (m : Int) ≤ (pre.length : Int) := by omega
      clear hR hbx hint hv ho
      gi_wp2_with (gi_at_builtin; refine wpListIn_append_own _ rfl _ _ 39 rfl w.heap.size 45 i0 (.agg #[.slice none 0 0]) 1 24 Try.underlying39 hi hz0 hz1 hz2 rfl (by decide) _ _ _ rfl (HR.out.2.2.2.2.alloc _) ⟨W.heap.size, 0, none⟩ 1 1 [.slice Ai 1 c] rfl rfl (cell_one_new _ _ _) (by simp [Value.oneCell']) (by unfold maxLen; omega) (by omega) (by have := HR.out.1.bl.size; simp; omega) ?_; intro v' w1 hown' hgrow _; obtain ⟨g', cap', rfl⟩ := ownsRow_succ hown'; obtain ⟨hv1, hv2, hr2, hk2, hb2⟩ := HR.out.2.2.2.1.appended (by decide) HR.out.2.2.2.2 HR.out.1.bl.size (by omega) hown' hgrow; have hc1 := hv1.cell; have hf1 := hv1.frozen)
      obtain ⟨hR, hbx, hint, hv, ho⟩ := HR.out
      have h2x : ∀ {y : Nat} {t : TypeId} {u : Value}, Boxed W y t u → t ≠ 45 → y ≠ w.heap.size + 1 → Boxed (w1.setCell ⟨w.heap.size + 1, 0, none⟩ (.slice (some ⟨g', 0, none⟩) (pre.length + 1) cap')) y t u := fun hb ht hne => ((hb.alloc _).kept hgrow (hb.not_row ht ho)).other hne _
      have hsz : W.heap.size ≤ w1.heap.size := by have := hgrow.size; simp at this; omega
      have h2i : ∀ {v : Value} {l : List Int}, IntsT W W3.heap.size v l → IntsT (w1.setCell ⟨w.heap.size + 1, 0, none⟩ (.slice (some ⟨g', 0, none⟩) (pre.length + 1) cap')) W3.heap.size v l := fun hi => IntsT.step hi (Nat.le_trans hsz (by simp [World.setCell])) (fun k hk hI => (Below.heap_setCell _ _ _ _ (by show k ≠ w.heap.size + 1; omega)).trans ((hgrow.block k (by have := hI.lt; simp; omega) (int_not_row hI ho (by decide))).trans (Below.heap_alloc _ _ _ hI.lt)))
      have hR2 : Rx w (w1.setCell ⟨w.heap.size + 1, 0, none⟩ (.slice (some ⟨g', 0, none⟩) (pre.length + 1) cap')) W3.heap.size (w.heap.size + 1 + 1) b f m (a + L.length) (pre ++ [(.slice Ai 1 c, [((f + pre.length : Nat) : Int)])]) := by
        refine ⟨by rw [List.length_append]; exact hlm, Nat.le_trans hR.sz (Nat.le_trans hsz (by simp [World.setCell])), h2x hR.bx (by decide) (by omega), h2x hR.bm (by decide) (by omega), ⟨_, hv2, by rw [vs_snoc, List.length_append]; exact hr2⟩, fun p hp => ?_, Std.snoc hR.std, .inr (by rw [List.length_append]; show f + (pre.length + 1) ≤ _; omega), hR.bl.trans hb2⟩
        rcases List.mem_append.1 hp with hp | hp
        · exact h2i (hR.el p hp)
        · obtain rfl := List.mem_singleton.1 hp
          exact h2i hint
      have hK2 : Kpt S (w.heap.size + 1 + 1) W (w1.setCell ⟨w.heap.size + 1, 0, none⟩ (.slice (some ⟨g', 0, none⟩) (pre.length + 1) cap')) := ⟨Nat.le_trans hsz (by simp [World.setCell]), fun k hk hkl => by
        rcases hk with hk | rfl
        · exact hb2.block k (hS k hk)
        · exact (show _ = _ from hR2.bx).trans (show W.heap[w.heap.size + 1 + 1]? = _ from hR.bx).symm⟩
      have ec : ((f + pre.length : Nat) : Int) = (f : Int) + (pre.length : Int) := by simp
      first
        | exact ⟨hk2.from _, hK2, hR2⟩
        | (rw [ec] at hR2; exact ⟨hk2.from _, hK2, hR2⟩)
    · have hlm1 : (m : Int) ≤ (pre.length : Int) := by omega
      clear hR hbx hint hv ho
      gi_wp2
      first
        | exact ⟨KeepsFrom.refl _ _, rfl, pre, _, rfl, HR.out.1⟩
        | exact ⟨KeepsFrom.refl _ _, rfl, pre, ⟨_, _, rfl⟩, HR.out.1⟩
  case done =>
    rintro D xs W hD hSs hR hK
    obtain ⟨v, hv, ho⟩ := hR.row
    obtain ⟨A', c', e⟩ := Mem.Rd.slice (own_rd ho)
    rw [List.length_map] at e
    subst e
    have cv := hv.cell
    have fv := hv.frozen
    have hw : wrap64 ((f : Int) + (xs.length : Int)) = (f : Int) + (xs.length : Int) := by have := hR.len; unfold wrap64; omega
    have HR := Lib.hid (And.intro hR (And.intro hv (And.intro ho hK)))
    clear hR hv ho hK
    gi_wp2
    rw [setCell_same HR.out.2.1, hw]
    refine ⟨by simp, .inl ⟨_, _, rfl, run_takeDeferred HR.out.2.2.2, ?_⟩⟩
    obtain ⟨g1, g2, g3, g4, g5⟩ := HE.out D W xs hD HR.out.1 HR.out.2.2.2 _ HR.out.2.1 HR.out.2.2.1
    exact ⟨_, results_read rfl _ ⟨w.heap.size + 1, 0, none⟩ _ _ rfl (boxed_grown HR.out.2.1 (grownBy_putObj' W D (.deferred none)) (fun r e => by cases e; exact ⟨_, HR.out.2.2.2, rfl⟩)).cell, _, xs, rfl, g1, g2, g3, g4, g5⟩
  case stop =>
    rintro D c pre W hD _ ⟨rfl, xs, p, rfl, hR⟩ hK
    obtain ⟨v, hv, ho⟩ := hR.row
    obtain ⟨A', c', e⟩ := Mem.Rd.slice (own_rd ho)
    rw [List.length_map] at e
    subst e
    have cv := hv.cell
    have fv := hv.frozen
    have hw : wrap64 ((f : Int) + (xs.length : Int)) = (f : Int) + (xs.length : Int) := by have := hR.len; unfold wrap64; omega
    have HR := Lib.hid (And.intro hR (And.intro hv (And.intro ho hK)))
    clear hR hv ho hK
    gi_wp2
    rw [setCell_same HR.out.2.1, hw]
    refine ⟨by simp, .inl ⟨_, _, rfl, run_takeDeferred HR.out.2.2.2, ?_⟩⟩
    obtain ⟨g1, g2, g3, g4, g5⟩ := HE.out D W xs hD HR.out.1 HR.out.2.2.2 _ HR.out.2.1 HR.out.2.2.1
    exact ⟨_, results_read rfl _ ⟨w.heap.size + 1, 0, none⟩ _ _ rfl (boxed_grown HR.out.2.1 (grownBy_putObj' W D (.deferred none)) (fun r e => by cases e; exact ⟨_, HR.out.2.2.2, rfl⟩)).cell, _, xs, rfl, g1, g2, g3, g4, g5⟩
end Go.Proofs.Ytiomhmdkaglelaa
namespace Go.Proofs.Ytiomhmdkaglelaa
open Go.RowKit
set_option linter.unusedSimpArgs false
set_option linter.unusedVariables false
set_option maxRecDepth 100000 in
set_option maxHeartbeats 4000000 in
theorem BkDrop_cells (b n c k : Nat) (x : Int) (A A' : Option Addr) (hA : A' = if n = k then A else Option.map (fun x : Addr => x.add k) A) (w : World) (hb : w.heap[b]? = some (.cells #[.int .i64 x, .slice A n c] 72 (0, 0))) (hk : k ≤ n) (hn : n ≤ c) (hc : c ≤ 9223372036854775807) (hx : 0 ≤ x ∧ x ≤ 1099511627776) (hk2 : k ≤ 100000) :
    Calls Try.prog 37 #[.pointer (some ⟨b, 0, none⟩), .int .i64 k] w fun r w' => r = .returned (.tuple #[]) ∧ w'.heap[b]? = some (.cells #[.int .i64 (x + k), .slice A' (n - k) (n - k)] 72 (0, 0)) ∧ Mem.Ch (fun q => q = b) w w' := by
  have c0 : w.cell? ⟨b, 0, none⟩ = some (.int .i64 x) := Mem.cell hb rfl
  have c1 : w.cell? ⟨b, 1, none⟩ = some (.slice A n c) := Mem.cell hb rfl
  have f0 : w.frozen? ⟨b, 0, none⟩ = false := Mem.free hb
  have f1 : w.frozen? ⟨b, 1, none⟩ = false := Mem.free hb
  have hk' : (k : Int) ≤ (n : Int) := by omega
  have hn' : (n : Int) ≤ (c : Int) := by omega
  have H := Lib.hid hb
  have HA := Lib.hid hA
  clear hb hA
  go_enter Try.func37, Try.ntmps37
  go_wp2_with fail
  go_region_law (fail)
  all_goals
    generalize hA2 : (if n = k then A else Option.map (fun x : Addr => x.add k) A) = A2
    obtain rfl : A' = A2 := HA.out.trans hA2
    clear hA2 HA
    have hq := Mem.set (j := 1) (u := .slice A' (n - k) (n - k)) H.out
    have q0 : (w.setCell ⟨b, 1, none⟩ (.slice A' (n - k) (n - k))).drew.cell? ⟨b, 0, none⟩ = some (.int .i64 x) := Mem.cell hq rfl
    have g0 : (w.setCell ⟨b, 1, none⟩ (.slice A' (n - k) (n - k))).drew.frozen? ⟨b, 0, none⟩ = false := Mem.free hq
    go_wp2_with fail
    go_end0
    exact ⟨rfl, Mem.set (j := 0) (u := .int .i64 (x + k)) hq, Mem.Ch.drew (Mem.Ch.set (g := b) (Mem.Ch.set (g := b) (Mem.Ch.refl (fun q => q = b) w) (.inr rfl)) (.inr rfl))⟩
end Go.Proofs.Ytiomhmdkaglelaa
namespace Go.Proofs.Ytiomhmdkaglelaa
open Go.RowKit
set_option linter.unusedSimpArgs false
set_option linter.unusedVariables false
/-- The row that is left. -/
theorem Rd_drop {w : World} {ok : Nat → Prop} {A : Option Addr} {n c k : Nat} {L : List (Value × List Int)} (h : Mem.Rd w ok 1 (.slice A n c) (L.map pk)) (hn : n = L.length) (hk : k ≤ n) (hc : n ≤ 9223372036854775807) :
    Mem.Rd w ok 1 (.slice (if n = k then A else Option.map (fun x : Addr => x.add k) A) (n - k) (n - k)) ((L.drop k).map pk) := by
  subst hn
  obtain ⟨A0, cap, e, h1, h2, h3, h4⟩ := h
  injection e with e1 _ _
  subst e1
  have hl : ((L.drop k).map pk).length = L.length - k := by simp
  refine ⟨_, L.length - k, by rw [hl], by omega, by omega, fun hne => ?_, fun g o hA j i r cc hr hcc => ?_⟩
  · have hlt : k < L.length := by
      rcases Nat.lt_or_ge k L.length with h | h
      · exact h
      · exact absurd (by rw [List.drop_eq_nil_of_le h]; rfl) hne
    obtain ⟨g, o, rfl, hg, hgl⟩ := h3 (fun h => by rw [List.map_eq_nil_iff] at h; rw [h] at hlt; simp at hlt)
    rw [if_neg (by omega)]
    exact ⟨g, o + k, by simp only [Option.map_some, Option.some.injEq]; unfold Addr.add; split; (rename_i h0; subst h0; rfl); rfl, hg, hgl⟩
  · have hj : j < L.length - k := by have := (List.getElem?_eq_some_iff.1 hr).1; omega
    rw [if_neg (by omega)] at hA
    cases A with
    | none => simp at hA
    | some ad =>
      have hne : L.map pk ≠ [] := fun h => by rw [List.map_eq_nil_iff] at h; rw [h] at hj; simp at hj
      obtain ⟨g', o', ea, _, _⟩ := h3 hne
      cases ea
      have hadd : (⟨g', o', none⟩ : Addr).add k = ⟨g', o' + k, none⟩ := by
        unfold Addr.add
        split
        · rename_i h0; subst h0; rfl
        · rfl
      simp only [Option.map_some, hadd, Option.some.injEq, Addr.mk.injEq] at hA
      obtain ⟨rfl, rfl, _⟩ := hA
      rw [List.map_drop, List.getElem?_drop] at hr
      obtain ⟨q1, q2⟩ := h4 g' o' rfl (k + j) i r cc hr hcc
      exact ⟨q1, by rw [show o' + k + j * 1 + i = o' + (k + j) * 1 + i by omega]; exact q2⟩
/-- A book whose first matches are let go. -/
theorem BkDrop_any (S : Nat → Prop) (b k : Nat) (x : Int) (L : List (Value × List Int)) (w : World) (h : BookAt w S b ⟨x, L⟩) (hk : k ≤ L.length) (hl : L.length ≤ 100000) (hx : 0 ≤ x ∧ x ≤ 1099511627776) :
    Calls Try.prog 37 #[.pointer (some ⟨b, 0, none⟩), .int .i64 k] w fun r w' => r = .returned (.tuple #[]) ∧ BookAt w' S b ⟨x + k, L.drop k⟩ ∧ Mem.Ch (fun q => q = b) w w' := by
  obtain ⟨v, hb, sb, hrow, hf⟩ := h
  obtain ⟨A, c, rfl⟩ := hrow.slice
  have hc : L.length ≤ c ∧ c ≤ 9223372036854775807 := by
    obtain ⟨A0, cap, e, h1, h2, _⟩ := hrow
    injection e with _ _ e3
    subst e3
    rw [List.length_map] at h1
    exact ⟨h1, h2⟩
  rw [List.length_map] at hb hrow
  refine (BkDrop_cells b L.length c k x A _ rfl w hb hk hc.1 hc.2 hx (by omega)).mono ?_
  rintro _ w' ⟨rfl, hb', hch⟩
  have hl' : L.length ≤ 100000 := hl
  have hrow' := Rd_drop hrow rfl hk (by show L.length ≤ 9223372036854775807; omega)
  exact ⟨rfl, ⟨_, hb', sb, Mem.Rd.step hrow' hch.size (fun q hq hl => hch.block q hl hq.2), fun p hp => (hf p (List.mem_of_mem_drop hp)).step hch.size (fun q hq hl => hch.block q hl hq.2)⟩, hch⟩
end Go.Proofs.Ytiomhmdkaglelaa
namespace Go.Proofs.Ytiomhmdkaglelaa
open Go.RowKit
set_option linter.unusedSimpArgs false
set_option linter.unusedVariables false
set_option maxRecDepth 100000 in
set_option maxHeartbeats 4000000 in
/-- A match of one pick may be. -/
theorem may_one (A : Option Addr) (c : Nat) (n : Int) (ok : Nat → Prop) (w : World) (h : IntsR w ok (.slice A 1 c) [n]) (h0 : 0 ≤ n) (h1 : n ≤ 549755813888) :
    Calls Try.prog 34 #[.agg #[.slice A 1 c]] w fun r w' => r = .returned (.bool true) ∧ Below w.heap.size w w' := by
  have hX := (Below.refl w.heap.size w).alloc (Nat.le_refl _) (.cells #[.slice A 1 c] 45)
  have h' := h.below hX
  have hc : 1 ≤ c := by
    obtain ⟨A0, cap, e, h1, _⟩ := h.1
    injection e with _ _ e3
    subst e3
    exact h1
  obtain ⟨g, o, rfl, hg, hgl, hrow⟩ := h'.1.row (k := 0) (r := intc n) rfl
  have c0 : (w.alloc (.cells #[.slice (some ⟨g, o, none⟩) 1 c] 45)).cell? ⟨g, o, none⟩ = some (.int .i64 n) := by have := hrow 0 _ rfl; simpa [intc] using this
  have hg0 : ¬ n < 0 := by omega
  have hg1 : ¬ (549755813888 : Int) < n := by omega
  clear hX h h' hrow
  go_enter Try.func34, Try.ntmps34
  go_wp2_with fail
  all_goals
    go_loopw [35] (fun i wr => i = .int .i64 0 ∧ Below w.heap.size w wr) (fun _ _ => 0)
    case atStart => exact ⟨rfl, (Below.refl w.heap.size w).alloc (Nat.le_refl _) _⟩
    case round =>
      obtain ⟨rfl, hbl⟩ := hrel
      go_wp2_with fail
      go_ret
      exact ⟨rfl, hbl⟩
/-- k of the first matches are let go. -/
def Fgt (w w' : World) (S : Nat → Prop) (b a : Nat) (L : List (Value × List Int)) : Prop := ∃ k, k ≤ L.length ∧ BookAt w' S b ⟨((a + k : Nat) : Int), L.drop k⟩ ∧ Mem.Ch (fun q => q = b) w w'
theorem take_wrap (n a : Int) (h : 0 ≤ n - a) (h2 : n - a ≤ 1000) : IntKind.i64.wrap (n - a) = n - a := by simp [IntKind.wrap, IntKind.bits, IntKind.signed]; omega
set_option maxRecDepth 100000 in
set_option maxHeartbeats 4000000 in
/-- b.Forget(n): some of the first matches are let go. -/
theorem BkForget_any (S : Nat → Prop) (b a : Nat) (n : Int) (L : List (Value × List Int)) (w : World) (h : BookAt w S b ⟨(a : Int), L⟩) (hS : ∀ k, S k → k < w.heap.size) (ha : a ≤ 1000) (hl : L.length ≤ 1000) :
    Calls Try.prog 14 #[.pointer (some ⟨b, 0, none⟩), .int .i64 n] w fun r w' => ∃ e, r = .returned (.int .i64 e) ∧ Fgt w w' S b a L := by
  have H := Lib.hid h
  have hE := BkEnd_any S b ⟨(a : Int), L⟩ w h ⟨by show (0 : Int) ≤ (a : Int); omega, by show (a : Int) ≤ _; omega⟩ (by show L.length ≤ _; omega)
  have HE := Lib.hid hE
  clear h hE
  by_cases h0 : n < 0
  · go_enter Try.func14, Try.ntmps14
    go_wp2_with fail
    go_ret
    have hF : Fgt w _ S b a L := ⟨0, Nat.zero_le _, by rw [List.drop_zero]; exact H.out, Mem.Ch.refl _ _⟩
    first | exact ⟨_, rfl, hF⟩ | exact ⟨⟨_, rfl⟩, hF⟩ | exact hF
  · by_cases h1 : (a : Int) + (L.length : Int) < n
    · go_enter Try.func14, Try.ntmps14
      go_wp2_with (go_at_call 29; refine HE.out.mono ?_; rintro _ w1 ⟨rfl, hb1⟩)
      go_ret
      have hF : Fgt w _ S b a L := ⟨0, Nat.zero_le _, by rw [List.drop_zero]; exact H.out.below hb1, Mem.Ch.of_below' hb1⟩
      first | exact ⟨_, rfl, hF⟩ | exact ⟨⟨_, rfl⟩, hF⟩ | exact hF
    · by_cases h2 : (a : Int) < n
      · obtain ⟨k, hk⟩ : ∃ k : Nat, n - (a : Int) = (k : Int) := ⟨(n - (a : Int)).toNat, by omega⟩
        have hw := take_wrap n (a : Int) (by omega) (by omega)
        rw [hk] at hw
        have hkl : k ≤ L.length := by omega
        have hD := fun (w1 : World) (hb1 : BookAt w1 S b ⟨(a : Int), L⟩) => BkDrop_any S b k (a : Int) L w1 hb1 hkl (by omega) ⟨by omega, by omega⟩
        have HD := Lib.hid hD
        clear hD
        have hk2 : IntKind.i64.wrap (n - (a : Int)) = (k : Int) := by rw [hk]; exact hw
        have hk3 : wrap64 (n - (a : Int)) = (k : Int) := by rw [hk]; unfold wrap64; omega
        have HKK := Lib.hid hk
        clear hk hw
        go_enter Try.func14, Try.ntmps14
        go_wp2_with (first
          | (go_at_call 29; refine HE.out.mono ?_; rintro _ w1 ⟨rfl, hb1⟩; have hbk1 := H.out.below hb1; obtain ⟨v, hbb, _⟩ := id hbk1; have c0 := Mem.cell hbb (j := 0) rfl; have HB1 := Lib.hid hbk1; clear hbk1 hbb)
          | (go_at_call 37; refine (HD.out _ HB1.out).mono ?_; rintro _ w2 ⟨rfl, hbk2, hc2⟩))
        go_ret
        have e : ((a + k : Nat) : Int) = (a : Int) + (k : Int) := by simp
        have hF : Fgt w w2 S b a L := ⟨k, hkl, by rw [e]; exact hbk2, (Mem.Ch.of_below' hb1).trans' hc2⟩
        first | exact ⟨_, rfl, hF⟩ | exact ⟨⟨_, rfl⟩, hF⟩ | exact hF
      · go_enter Try.func14, Try.ntmps14
        go_wp2_with (go_at_call 29; refine HE.out.mono ?_; rintro _ w1 ⟨rfl, hb1⟩; have hbk1 := H.out.below hb1; obtain ⟨v, hbb, _⟩ := id hbk1; have c0 := Mem.cell hbb (j := 0) rfl; have HB1 := Lib.hid hbk1; clear hbk1 hbb)
        go_ret
        have hF : Fgt w _ S b a L := ⟨0, Nat.zero_le _, by rw [List.drop_zero]; exact HB1.out, Mem.Ch.of_below' hb1⟩
        first | exact ⟨_, rfl, hF⟩ | exact ⟨⟨_, rfl⟩, hF⟩ | exact hF
end Go.Proofs.Ytiomhmdkaglelaa
