/- book: its text. -/
import Derived.Test.YtiomhmdkaglelaaG16
namespace Go.Proofs.Ytiomhmdkaglelaa
open Go.RowKit
set_option linter.unusedSimpArgs false
set_option linter.unusedVariables false
theorem store_func {P : Program} (w : World) (a : Addr) (m : Mode) (fn : Fn) (x y : Array Value) : (store a (.func fn x y) m).run P w = stored P w a (.func fn x y) m := run_store P w a _ m rfl
attribute [local go_sem] Oper.semAt_some store_func
/-- While a text is written: the builder holds l, the writer's box is as it was; nothing below w turned. -/
structure Tx (w W : World) (l : List UInt8) : Prop where
  bd : Bld W w.heap.size w.heap.size l
  pt : Boxed W (w.heap.size + 1) 83 (.func (.func 25) #[] #[.pointer (some ⟨w.heap.size, 0, none⟩)])
  bl : Below w.heap.size w W
theorem Tx.below {w W W' : World} {l : List UInt8} (h : Tx w W l) (hb : Below W.heap.size W W') : Tx w W' l := ⟨h.bd.below hb, (hb.block _ h.pt.lt).trans h.pt, h.bl.trans (hb.mono h.bl.size)⟩
theorem Tx.put {w W W' : World} {l m : List UInt8} (h : Tx w W l) (hd : Bld W' w.heap.size w.heap.size m) (hb : Below w.heap.size W W') (ho : Oth w.heap.size W W') : Tx w W' m := ⟨hd, ho.boxed h.pt (by omega) (by decide), h.bl.trans hb⟩
theorem Tx.grown {w W W' : World} {l : List UInt8} {row : Option Nat} (h : Tx w W l) (hg : W.grownBy W' row) (hr : ∀ r, row = some r → w.heap.size ≤ r ∧ ∃ o : Obj, W.heap[r]? = some o ∧ o.isCells = false) : Tx w W' l :=
  ⟨h.bd.grown hg (fun r e => (hr r e).2), h.pt.kept hg (fun e => by obtain ⟨_, o, ho, hc⟩ := hr _ e.symm; rw [show W.heap[w.heap.size + 1]? = _ from h.pt] at ho; cases ho; cases hc), h.bl.grown hg h.bl.size (fun k e => (hr k e).1)⟩
/-- A row of ints, in blocks from B on, that is one of ints. -/
def IntsT (w : World) (B : Nat) (v : Value) (l : List Int) : Prop := IntsR w (fun j => B ≤ j ∧ IntRow w j) v l
theorem IntRow.lt {w : World} {k : Nat} (h : IntRow w k) : k < w.heap.size := by obtain ⟨cs, e⟩ := h; exact (Array.getElem?_eq_some_iff.1 e).1
theorem IntsT.step {w w' : World} {B : Nat} {v : Value} {l : List Int} (h : IntsT w B v l) (hs : w.heap.size ≤ w'.heap.size) (hm : ∀ k, B ≤ k → IntRow w k → w'.heap[k]? = w.heap[k]?) : IntsT w' B v l :=
  (IntsR.step h hs (fun k hk _ => hm k hk.1 hk.2)).mono (fun k hk => ⟨hk.1, by obtain ⟨cs, e⟩ := hk.2; exact ⟨cs, (hm k hk.1 hk.2).trans e⟩⟩)
theorem Tx.book {w W : World} {l : List UInt8} {S : Nat → Prop} {b : Nat} {B : Bk} (h : Tx w W l) (hb : BookAt w S b B) (hS : ∀ k, S k → k < w.heap.size) : BookAt W S b B := hb.step h.bl.size (fun k hk _ => h.bl.block k (hS k hk)) (fun _ h => h)
theorem Tx.drew {w W : World} {l : List UInt8} (h : Tx w W l) : Tx w W.drew l := h.below (Below.refl _ _).drew
theorem u8s_snoc (l : List Nat) (n : Nat) : u8s l ++ [UInt8.ofNat n] = u8s (l ++ [n]) := by simp [u8s]
/-- A code that comes to its end, so that p holds. -/
def goesOn (p : Act → World → Prop) : Exit → Act → World → Prop
  | .normal, a, w => p a w
  | _, _, _ => False
theorem goesOn_elim {p : Act → World → Prop} {Q : Exit → Act → World → Prop} (h : ∀ a w, p a w → Q .normal a w) : ∀ e a w, goesOn p e a w → Q e a w := fun e a w hp => by
  cases e with
  | normal => exact h a w hp
  | _ => exact False.elim hp
theorem sub_wrap (a c : Nat) (h : a + c ≤ 1000) : IntKind.i64.wrap ((a : Int) + (c : Int) - (a : Int)) = (c : Int) := by simp [IntKind.wrap, IntKind.bits, IntKind.signed]; omega
theorem id_wrap (c : Nat) (h : c ≤ 1000) : IntKind.i64.wrap (c : Int) = (c : Int) := by simp [IntKind.wrap, IntKind.bits, IntKind.signed]; omega
set_option maxRecDepth 100000 in
set_option maxHeartbeats 4000000 in
theorem BkText_any (S : Nat → Prop) (b a : Nat) (L : List (Value × List Int)) (w : World) (h : BookAt w S b ⟨(a : Int), L⟩) (hS : ∀ k, S k → k < w.heap.size) (hstd : Std a L) (hac : a + L.length ≤ 247) :
    Calls Try.prog 7 #[.pointer (some ⟨b, 0, none⟩)] w fun r w' => r = .returned (.string (btx a L.length)) ∧ Below w.heap.size w w' := by
  have h1 := Mem.new w (.cells #[.pointer none, .slice none 0 0] 76)
  have h2 := Boxed.new (w.alloc (.cells #[.pointer none, .slice none 0 0] 76)) 83 (.func (.func 25) #[] #[.pointer (some ⟨w.heap.size, 0, none⟩)])
  rw [World.size_alloc] at h2
  have h3 := Boxed.new (w.alloc (.cells #[.pointer none, .slice none 0 0] 76)) 83 .nilFunc
  rw [World.size_alloc] at h3
  have q1 := h3.cell
  have q2 := h3.frozen
  have q3 := h2.cell
  have hT0 : Tx w ((w.alloc (.cells #[.pointer none, .slice none 0 0] 76)).alloc (.cells #[.func (.func 25) #[] #[.pointer (some ⟨w.heap.size, 0, none⟩)]] 83)) [] := by
    refine ⟨.inl ⟨Nat.le_refl _, .slice none 0 0, ?_, World.ownsRowF_nil _ _ _ _, by simp [Value.ownBlock]⟩, h2, ?_⟩
    · exact (Below.heap_alloc _ _ _ (by simp)).trans h1
    · exact ((Below.refl _ w).alloc (Nat.le_refl _) _).alloc (by simp) _
  have H0 := Lib.hid hT0
  have HB := Lib.hid (And.intro h (And.intro hS (And.intro hstd hac)))
  have HS := Lib.hid (And.intro (sub_wrap a L.length (by omega)) (id_wrap L.length (by omega)))
  have hmx : Try.prog.follows .mixedOrders = true := by kernel_rfl
  have hk := fun (W : World) (l : List UInt8) (hT : Tx w W l) => hT.book HB.out.1 HB.out.2.1
  have HK := Lib.hid hk
  clear hT0 h1 h hS hstd hac hk h2 h3
  refine (callsIn_wide (n := 4)).1 ?_
  refine callsIn_of_wp_marks Try.func7 rfl trivial ?_ rfl
  simp only [Try.ntmps7, List.size_toArray, List.length_cons, List.length_nil, Nat.reduceAdd, Nat.reduceSub, Array.replicate_succ, Array.replicate_zero, List.push_toArray, List.append_toArray, List.nil_append, List.cons_append]
  gi_wp2
  generalize (w.alloc (.cells #[.pointer none, .slice none 0 0] 76)).alloc (.cells #[.func (.func 25) #[] #[.pointer (some ⟨w.heap.size, 0, none⟩)]] 83) = W0 at H0 q3 ⊢
  clear q1 q2
  refine wpIn_mono (Q := goesOn fun a' W' => Tx w W' (u8s [a]) ∧ ∃ t9 t10 t11 t12, a' = { tmps := #[Value.pointer (some { block := b, off := 0 }), undef, Value.string { data := #[] }, Value.pointer (some { block := w.heap.size, off := 0 }), Value.pointer (some { block := w.heap.size + 1, off := 0 }), undef, undef, undef, Value.func (Fn.func 25) #[] #[Value.pointer (some { block := w.heap.size, off := 0 })], t9, t10, t11, t12, undef, undef, undef, undef, undef, undef, undef, undef, undef, undef, undef, undef, undef, undef, undef, undef, undef, undef, undef, undef, undef, undef, undef, undef, undef, undef, undef, undef, undef, undef, undef, undef, undef, undef], defers := [] }) ?_ ?_
  · have hd0 := H0.out.drew
    have HD := Lib.hid hd0
    gi_region_with_o (first
      | (refine ⟨trivial, ?_⟩; gi_at_call 28; refine (callsIn_wide.2 (BkBase_any S b _ _ (HK.out _ _ HD.out))).mono ?_; rintro _ _ ⟨rfl, rfl⟩)
      | (refine ⟨trivial, ?_⟩; gi_at_call 25; refine (callsIn_wide.2 (put_any w.heap.size w.heap.size a [] _ HD.out.bd (by have := HB.out.2.2.2; omega) (by simp) HD.out.bl.size)).mono ?_; rintro _ W1 ⟨rfl, hd1, hb1, ho1⟩; have hT1 := HD.out.put hd1 hb1 ho1))
    all_goals exact ⟨hT1, _, _, _, _, rfl⟩
  clear q3 H0
  refine goesOn_elim ?_
  rintro a' W1 ⟨hT1, t9, t10, t11, t12, rfl⟩
  have q3 := hT1.pt.cell
  have H1 := Lib.hid hT1
  clear hT1
  gi_wp2
  refine wpIn_mono (Q := goesOn fun a' W' => Tx w W' (u8s [a, L.length]) ∧ ∃ t13 t14 t15 t16 t17 t18 t19, a' = { tmps := #[Value.pointer (some { block := b, off := 0 }), undef, Value.string { data := #[] }, Value.pointer (some { block := w.heap.size, off := 0 }), Value.pointer (some { block := w.heap.size + 1, off := 0 }), undef, undef, undef, Value.func (Fn.func 25) #[] #[Value.pointer (some { block := w.heap.size, off := 0 })], t9, t10, t11, t12, t13, t14, t15, t16, t17, t18, t19, undef, undef, undef, undef, undef, undef, undef, undef, undef, undef, undef, undef, undef, undef, undef, undef, undef, undef, undef, undef, undef, undef, undef, undef, undef, undef, undef], defers := [] }) ?_ ?_
  · have hd0 := H1.out.drew
    have HD := Lib.hid hd0
    have e1 := HS.out.1
    have e2 := HS.out.2
    gi_region_with_o (first
      | (refine ⟨trivial, ?_⟩; gi_at_call 28; refine (callsIn_wide.2 (BkBase_any S b _ _ (HK.out _ (u8s [a]) (by first | exact HD.out | exact HD2.out)))).mono ?_; rintro _ _ ⟨rfl, rfl⟩)
      | (refine ⟨trivial, ?_⟩; gi_at_call 29; refine (callsIn_wide.2 (BkEnd_any S b _ _ (HK.out _ _ HD.out) (by show (0 : Int) ≤ (a : Int) ∧ (a : Int) ≤ _; have := HB.out.2.2.2; omega) (by show L.length ≤ _; have := HB.out.2.2.2; omega))).mono ?_; rintro _ W2 ⟨rfl, hb2⟩; have HD2 := Lib.hid (HD.out.below hb2); have q4 := HD2.out.pt.cell; clear hb2)
      | (refine ⟨trivial, ?_⟩; gi_at_call 25; refine (callsIn_wide.2 (put_any w.heap.size w.heap.size L.length (u8s [a]) _ HD2.out.bd (by have := HB.out.2.2.2; omega) (by simp [u8s]) HD2.out.bl.size)).mono ?_; rintro _ W3 ⟨rfl, hd3, hb3, ho3⟩; have hT3 := HD2.out.put hd3 hb3 ho3))
    all_goals exact ⟨hT3, _, _, _, _, _, _, _, rfl⟩
  clear q3 H1
  refine goesOn_elim ?_
  rintro a' W2 ⟨hT2, t13, t14, t15, t16, t17, t18, t19, rfl⟩
  have q3 := hT2.pt.cell
  obtain ⟨v, hbb, _⟩ := HK.out _ _ hT2
  have b0 := Mem.cell hbb (j := 0) rfl
  have H2 := Lib.hid hT2
  clear hT2 hbb
  gi_wp2_with (refine ⟨trivial, ?_⟩; gi_at_call 31; refine (callsIn_wide.2 (from_any b _ _)).mono ?_; rintro _ W3 ⟨rfl, hx, hy, hz, hb3⟩)
  have hT3 := H2.out.below hb3
  have hbk := HK.out _ _ hT3
  have H3 := Lib.hid hT3
  have hz2 := H2.out.bl.size
  have hp2 := H2.out.pt.lt
  have hL : L.length ≤ 247 := by have := HB.out.2.2.2; omega
  have hac := HB.out.2.2.2
  have hSw := HB.out.2.1
  have hst := HB.out.2.2.1
  clear b0 q3 hT3
  obtain ⟨x, hxe⟩ : ∃ x, W2.heap.size = x := ⟨_, rfl⟩
  rw [hxe] at hx hy hz hz2 hp2 ⊢
  clear hxe
  refine range_told (w := W3) rfl (by omega) (gf := 44) (lb := #[.pointer (some ⟨x + 1, 0, none⟩), .pointer (some ⟨x, 0, none⟩)]) rfl trivial (enters_of Try.func44 (by kernel_rfl) rfl)
    (from_tells 3 (by omega) S b x (x + 1) W3.heap.size 0 (a : Int) (a : Int) L W3 hbk hx hy (Nat.le_refl _) (by simp) (by omega) (by omega) (by omega)) Kpt.trans ?hKb (fun _ => rfl)
    (fun pre W => (pre.length ≤ L.length ∧ W3.heap.size ≤ W.heap.size ∧ Boxed W x 27 (.pointer (some ⟨b, 0, none⟩))) ∧ Tx w W (u8s (a :: L.length :: brow a pre.length))) (fun _ _ _ => False) ?hI (fun _ _ _ _ _ hs _ _ => hs) ⟨⟨Nat.zero_le _, Nat.le_refl _, hx⟩, H3.out⟩
    (fun pre p a' W => ∃ (Bx : Nat) (v : Value) (Ai : Option Addr) (c : Nat), W3.heap.size ≤ Bx ∧ p.1 = v ∧ v = .slice Ai 1 c ∧ Boxed W Bx 45 v ∧ IntsT W W3.heap.size v [((a + pre.length : Nat) : Int)] ∧ pre.length < L.length ∧ a' = { tmps := #[Value.pointer (some { block := b, off := 0 }), undef, Value.string { data := #[] }, Value.pointer (some { block := w.heap.size, off := 0 }), Value.pointer (some { block := w.heap.size + 1, off := 0 }), Value.pointer (some { block := Bx, off := 0 }), undef, undef, Value.func (Fn.func 25) #[] #[Value.pointer (some { block := w.heap.size, off := 0 })], t9, t10, t11, t12, t13, t14, t15, t16, t17, t18, t19, Value.pointer (some { block := b, off := 0 }), Value.bool false, undef, Value.pointer (some { block := b, off := 0 }), Value.pointer (some { block := b, off := 0 }), Value.pointer (some { block := b, off := 0 }), Value.pointer (some { block := b, off := 0 }), Value.int IntKind.i64 (a : Int), Value.func (Fn.func 44) #[] #[Value.pointer (some { block := x + 1, off := 0 }), Value.pointer (some { block := x, off := 0 })], Value.agg #[v], undef, undef, undef, undef, undef, undef, undef, undef, undef, undef, undef, undef, undef, undef, undef, undef, undef], defers := [] }) ?hAx ?assign ?body ?done ?stop
  case hKb =>
    intro W l o o' hl ho hc
    refine ⟨by simp, fun k hk hlt => World.putObj_heap_other (fun e => ?_)⟩
    rcases hk with hk | hk
    · have := hSw k hk; omega
    · omega
  case hI =>
    rintro s A B row ⟨hs0, hs⟩ hg hr
    exact ⟨⟨hs0.1, Nat.le_trans hs0.2.1 hg.size, hs0.2.2.kept hg (fun e => by obtain ⟨_, o, ho, hc⟩ := hr _ e.symm; rw [show A.heap[x]? = _ from hs0.2.2] at ho; cases ho; cases hc)⟩, hs.grown hg (fun r e => ⟨by have := (hr r e).1; omega, (hr r e).2⟩)⟩
  case hAx =>
    rintro pre p a' s A B row ⟨Bx, v, Ai, c, h1, h2, h3, h4, h5, h6⟩ hg hr
    refine ⟨Bx, v, Ai, c, h1, h2, h3, h4.kept hg (fun e => ?_), h5.step hg.size (fun k hk hI => hg.block k hI.lt (fun e => ?_)), h6⟩
    · obtain ⟨_, o, ho, hc⟩ := hr _ e.symm
      rw [show A.heap[Bx]? = _ from h4] at ho
      cases ho
      cases hc
    · obtain ⟨_, o, ho, hc⟩ := hr _ e.symm
      obtain ⟨cs, hcs⟩ := hI
      rw [hcs] at ho
      cases ho
      cases hc
  case assign =>
    rintro l pre ⟨v, pl⟩ W K ⟨hI0, hI⟩ ⟨hT, q, hq, rfl⟩ hK
    have hq2 := hst _ _ hq
    rw [Nat.zero_add] at hq hq2
    dsimp only at hT hq2 ⊢
    rw [hq2] at hT
    obtain ⟨Ai, c, rfl⟩ := hT.slice
    have hlt : pre.length < L.length := (List.getElem?_eq_some_iff.1 hq).1
    have HKK := Lib.hid hK
    have HII := Lib.hid (And.intro hI (And.intro hT hlt))
    clear hK hI hT hq hq2
    gi_wp2
    have hal := (Below.refl W.heap.size W).alloc (Nat.le_refl _) (.cells #[.slice Ai 1 c] 45)
    exact HKK.out _ _ ((KeepsOthers.alloc _ _).from _) (Kpt.of_below hal) ⟨⟨hI0.1, Nat.le_trans hI0.2.1 hal.size, hI0.2.2.alloc _⟩, HII.out.1.below hal⟩
      ⟨W.heap.size, _, Ai, c, hI0.2.1, rfl, rfl, Boxed.new _ _ _, IntsT.step (w := W) HII.out.2.1 hal.size (fun k hk hI => hal.block k hI.lt), HII.out.2.2, rfl⟩
  case body =>
    rintro l pre ⟨v', pl⟩ a' W hl ⟨hI0, hT⟩ ⟨Bx, v, Ai, c, hBx, rfl, rfl, hbx, hint, hlt, rfl⟩
    have q3 := hT.pt.cell
    have q5 := hbx.cell
    have HT := Lib.hid hT
    have HX := Lib.hid (And.intro hbx hint)
    have hlen : (u8s (a :: L.length :: brow a pre.length)).length ≤ 1000 := by simp [u8s, brow_len]; omega
    clear hT hbx hint
    have hp1 := put_any w.heap.size w.heap.size 1 (u8s (a :: L.length :: brow a pre.length)) W HT.out.bd (by omega) (by omega) HT.out.bl.size
    have HP := Lib.hid hp1
    clear hp1
    gi_wp2_with (refine ⟨trivial, ?_⟩; gi_at_call 25; refine (CallsIn.inRound l (callsIn_wide.2 HP.out)).mono ?_; rintro _ W4 ⟨rfl, hd4, hb4, ho4⟩; have hT4 := HT.out.put hd4 hb4 ho4; have q6 := (ho4.boxed HX.out.1 (by omega) (by decide)).cell; have q7 := hT4.pt.cell)
    have hb04 : Below w.heap.size W W4 := hb4
    have hk4 := (ho4.from hb4.size HT.out.bd)
    have hi4 : IntsT W4 W3.heap.size (.slice Ai 1 c) [((a + pre.length : Nat) : Int)] := IntsT.step (w := W) HX.out.2 hb4.size (fun k hk hI => by
      obtain ⟨cs, e⟩ := hI
      exact (ho4 k _ e (fun h => by cases h; omega) (fun c fz h => by cases h)).trans e.symm)
    have hI4 := hi4
    obtain ⟨g, o, rfl, hg, hgl, hrow⟩ := hi4.1.row (k := 0) (r := intc ((a + pre.length : Nat) : Int)) rfl
    have cg : W4.cell? ⟨g, o, none⟩ = some (.int .i64 ((a + pre.length : Nat) : Int)) := by have := hrow 0 _ rfl; simpa [intc] using this
    have e1 : u8s (a :: L.length :: brow a pre.length) ++ [UInt8.ofNat 1] = u8s (a :: L.length :: (brow a pre.length ++ [1])) := by rw [u8s_snoc]; simp
    rw [e1] at hT4
    have H4 := Lib.hid (And.intro hT4 (And.intro hb4 (And.intro ho4 HT.out.bd)))
    have hlen4 : (u8s (a :: L.length :: (brow a pre.length ++ [1]))).length ≤ 1000 := by simp [u8s, brow_len]; omega
    have hp2 := put_any w.heap.size w.heap.size (a + pre.length) (u8s (a :: L.length :: (brow a pre.length ++ [1]))) W4 hT4.bd (by omega) (by omega) hT4.bl.size
    have HP2 := Lib.hid hp2
    clear hp2 hT4 hd4 hb4 ho4 hb04 hk4 hi4 hI4 hrow hlen4 hlen e1 q3 q5 q6
    gi_loopw [38] (fun i wr => (i = .int .i64 0 ∧ wr = W4) ∨ (i = .int .i64 1 ∧ Tx w wr (u8s (a :: L.length :: (brow a pre.length ++ [1] ++ [a + pre.length]))) ∧ Below w.heap.size W4 wr ∧ Oth w.heap.size W4 wr)) (fun i _ => 1 - (intOf i).toNat)
    case atStart => exact .inl ⟨rfl, rfl⟩
    case round =>
      rcases hrel with ⟨rfl, rfl⟩ | ⟨rfl, hT5, hb5, ho5⟩
      · gi_wp2_with (refine ⟨trivial, ?_⟩; gi_at_call 25; refine (CallsIn.inRound l (callsIn_wide.2 HP2.out)).mono ?_; rintro _ W5 ⟨rfl, hd5, hb5, ho5⟩)
        go_roundw
        case rel => exact .inr ⟨by go_num, by have := H4.out.1.put hd5 hb5 ho5; rw [u8s_snoc] at this; simpa using this, hb5, ho5⟩
        case measure => simp [intOf]
      · have H5 := Lib.hid (And.intro hT5 (And.intro hb5 ho5))
        clear hT5 hb5 ho5
        gi_wp2
        obtain ⟨hT5, hb5, ho5⟩ := H5.out
        obtain ⟨hT4, hb4, ho4, hbd⟩ := H4.out
        have hoo := Lib.OthersKept.trans ho4 ho5
        have hbb := hb4.trans hb5
        have hz5 := hbb.size
        have hkf := Oth.from hoo hz5 hbd
        have hbx := Oth.boxed hoo hI0.2.2 (by omega) (by decide)
        refine ⟨⟨hz5, fun k o hB hk ho => hkf.same k o (by omega) hk ho⟩, ⟨hz5, fun k hk hkl => ?_⟩, ⟨by simp; omega, by omega, hbx⟩, ?_⟩
        · rcases hk with hk | rfl
          · exact hbb.block k (hSw k hk)
          · exact (show wr.heap[k]? = _ from hbx).trans (show W.heap[k]? = _ from hI0.2.2).symm
        · rw [List.length_append]
          show Tx w wr (u8s (a :: L.length :: brow a (pre.length + 1)))
          rw [brow_snoc]
          simpa using hT5
  case done =>
    rintro D xs W hD hS ⟨⟨hle, _⟩, hT⟩ hK
    have hxl : xs.length = L.length := by rw [Nat.zero_add] at hS; omega
    rw [hxl] at hT
    have HT := Lib.hid (And.intro hT hK)
    clear hT hK
    gi_wp2_with (refine ⟨trivial, ?_⟩; gi_at_call 30; refine (callsIn_wide.2 (Try.Builder_String_any_k w.heap.size w.heap.size (u8s (a :: L.length :: brow a L.length)) _ HT.out.1.bd HT.out.1.bl.size)).mono ?_; rintro _ W5 ⟨rfl, _, hb5, ho5⟩)
    have hK5 : W5.heap[D]? = some (.deferred (some [])) := ho5 D _ HT.out.2 (fun h => by have := Option.some.inj h; omega) (fun c fz h => by cases h)
    refine ⟨by simp, .inl ⟨_, _, rfl, run_takeDeferred hK5, ?_⟩⟩
    exact ⟨_, results_tmp rfl _ _ _, rfl, (HT.out.1.bl.trans hb5).trans (belowK_b (w := w) (Nat.le_refl _) W5 D _ _ (by omega) hK5 rfl rfl)⟩
  case stop =>
    rintro D c pre W _ _ h _
    exact h.elim
end Go.Proofs.Ytiomhmdkaglelaa
