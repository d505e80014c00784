/- book: a match is put. · book: a match is put. · book: what a text says: what holds while it is read. · book: what a text says. -/
import Derived.Test.YtiomhmdkaglelaaG18
import Derived.Test.YtiomhmdkaglelaaG7
namespace Go.Proofs.Ytiomhmdkaglelaa
open Go.RowKit
set_option linter.unusedSimpArgs false
set_option linter.unusedVariables false
/-- append to a row of one's own, as one step of a region that draws. -/
theorem step_own_append {P : Program} {ops : Array Oper} {o : Oper} {a : Act} {w : World} {K : Act → World → Prop} {Q : Exit → Act → World → Prop} {E : Prop} (hgd : o.guard = none) (s x : Operand) (t : TypeId)
    (ho : o.op = .call { callee := .builtin .append, args := #[s, x], argTypes := #[t, t] })
    (base : Nat) (e : TypeId) (i : TypeInfo) (z : Value) (size bytes : Nat) (ht : P.underlying t = some (.slice e)) (hi : P.info? e = some i) (hz : i.zero = some z)
    (hsize : i.size = size) (hby : i.bytes = bytes) (hzs : z.cells.size = size) (hsz : 0 < size)
    (v : Value) (n : Nat) (xs : List Value) (hs : a.eval s = v) (hown : w.ownsRow base e size v n xs)
    (ad : Addr) (m c : Nat) (news : List Value) (hx : a.eval x = .slice (some ad) m c) (hl : news.length = m * size) (hnews : ∀ j u, news[j]? = some u → w.cell? (ad.add j) = some u) (h1 : ∀ u ∈ news, u.oneCell' = true)
    (h63 : n + m ≤ maxLen) (hbytes : (n + m) * bytes ≤ 140737488355328) (hbase : base ≤ w.heap.size)
    (h : ∀ v' w', w'.ownsRow base e size v' (n + m) (xs ++ news) → w.grownBy w' v.ownBlock → K (a.put o.dst v') w') :
    if Region.wanted o (yielded ops a.tmps) = true then Oper.wp P o a w K Q else E := by
  have hw : Region.wanted o (yielded ops a.tmps) = true := by simp [Region.wanted, hgd]
  rw [if_pos hw]
  obtain ⟨v', w', hr, h2, h3, _⟩ := run_append_own (P := P) w base t o.type e i z size bytes ht hi hz hsize hby hzs hsz v n xs hown ad m c news hl hnews h1 h63 hbytes hbase
  unfold Oper.wp
  simp [execOp, ho, resolve, invoke, builtin, hs, hx, hr, Result.andThen]
  exact h v' w' h2 h3
/-- Block b is a book of one's own (all its blocks from B on): its row can be added to. -/
structure BookO (w : World) (B b : Nat) (a : Int) (v : Value) (L : List (Value × List Int)) : Prop where
  hb : w.heap[b]? = some (.cells #[.int .i64 a, v] 72 (0, 0))
  hB : B ≤ b
  own : w.ownsRow B 45 1 v L.length (vs L)
  el : ∀ p, p ∈ L → IntsT w B p.1 p.2
theorem BookO.row_ne {w : World} {B b : Nat} {a : Int} {v : Value} {L : List (Value × List Int)} (h : BookO w B b a v L) : v.ownBlock ≠ some b := fun e => by
  rcases h.own.2 with ⟨hv, _⟩ | ⟨g, cap, cur, hv, _, hgg, _⟩
  · rw [hv] at e; simp [Value.ownBlock] at e
  · rw [hv] at e
    have : g = b := by simpa [Value.ownBlock] using e
    rw [this, h.hb] at hgg
    cases hgg
theorem IntRow.ne {w : World} {k b : Nat} {cs : Array Value} {fz : Nat × Nat} {t : TypeId} (h : IntRow w k) (hb : w.heap[b]? = some (.cells cs t fz)) (ht : t ≠ 3) : k ≠ b := fun e => by
  obtain ⟨c, hc⟩ := h
  rw [e, hb] at hc
  cases hc
  exact ht rfl
theorem BookO.below {w w' : World} {B b : Nat} {a : Int} {v : Value} {L : List (Value × List Int)} (h : BookO w B b a v L) (hb : Below w.heap.size w w') : BookO w' B b a v L :=
  ⟨(hb.block _ (Mem.lt h.hb)).trans h.hb, h.hB, h.own.kept (below_grown hb) (by cases hv : v.ownBlock <;> simp), fun p hp => (h.el p hp).step hb.size (fun k _ hI => hb.block k hI.lt)⟩
/-- What its blocks are. -/
theorem BookO.at_ {w : World} {B b : Nat} {a : Int} {v : Value} {L : List (Value × List Int)} (h : BookO w B b a v L) : BookAt w (fun k => B ≤ k ∧ k < w.heap.size) b ⟨a, L⟩ := by
  have hrd := Mem.Rd.lt (own_rd h.own)
  refine ⟨v, h.hb, ⟨h.hB, Mem.lt h.hb⟩, ?_, fun p hp => IntsR.mono (h.el p hp) (fun k hk => ⟨⟨hk.1, hk.2.lt⟩, hk.2.ne h.hb (by decide)⟩)⟩
  obtain ⟨A, cap, e, h1, h2, h3, h4⟩ := hrd
  refine ⟨A, cap, e, h1, h2, fun hn => ?_, h4⟩
  obtain ⟨g, o, ea, hg, hl⟩ := h3 hn
  refine ⟨g, o, ea, ⟨hg, fun hgb => h.row_ne ?_⟩, hl⟩
  rw [e, ea, hgb]
  rfl
/-- A match has been added: the new row lies in b's second cell. -/
theorem BookO.added {w w1 w2 : World} {B b : Nat} {a : Int} {v v' x : Value} {pl : List Int} {L : List (Value × List Int)} {o : Obj} (h : BookO w B b a v L) (hBw : B ≤ w.heap.size) (hb : Below w.heap.size w w1) (hx : IntsT w1 B x pl) (hg : (w1.alloc o).grownBy w2 v.ownBlock) (hown : w2.ownsRow B 45 1 v' (L.length + 1) (vs L ++ [x])) :
    BookO (w2.setCell ⟨b, 1, none⟩ v') B b a v' (L ++ [(x, pl)]) ∧ Below B w (w2.setCell ⟨b, 1, none⟩ v') := by
  have h1 := h.below hb
  have hz1 := hb.size
  have hbl := Mem.lt h1.hb
  have hb2 : w2.heap[b]? = some (.cells #[.int .i64 a, v] 72 (0, 0)) := (hg.block b (by simp; omega) (fun e => h.row_ne e.symm)).trans (Mem.old h1.hb o)
  have hsz : w1.heap.size ≤ w2.heap.size := by have := hg.size; simp at this; omega
  have hne : v'.ownBlock ≠ some b := fun e => by
    rcases hown.2 with ⟨hv, _⟩ | ⟨g, cap, cur, hv, _, hgg, _⟩
    · rw [hv] at e; simp [Value.ownBlock] at e
    · rw [hv] at e
      have : g = b := by simpa [Value.ownBlock] using e
      rw [this, hb2] at hgg
      cases hgg
  have hgs : w2.grownBy (w2.setCell ⟨b, 1, none⟩ v') (some b) := ⟨rfl, rfl, rfl, by simp [World.setCell], fun k _ hk => Below.heap_setCell _ _ _ k (fun e => hk (by rw [e]))⟩
  have hii : ∀ {u : Value} {l : List Int}, IntsT w1 B u l → IntsT (w2.setCell ⟨b, 1, none⟩ v') B u l := fun hi => IntsT.step hi (Nat.le_trans hsz (by simp [World.setCell])) (fun k hk hI => (Below.heap_setCell _ _ _ _ (by show k ≠ b; exact hI.ne h1.hb (by decide))).trans ((hg.block k (by have := hI.lt; simp; omega) (int_not_row hI h1.own (by decide))).trans (Below.heap_alloc _ _ _ hI.lt)))
  refine ⟨⟨Mem.set hb2, h.hB, ?_, fun p hp => ?_⟩, ?_⟩
  · rw [List.length_append, vs_snoc]
    exact hown.kept hgs (.inr hne)
  · rcases List.mem_append.1 hp with hp | hp
    · exact hii (h1.el p hp)
    · obtain rfl := List.mem_singleton.1 hp
      exact hii hx
  · refine ((hb.mono hBw).trans ?_).setCell (p := ⟨b, 1, none⟩) h.hB _
    exact ((Below.refl B w1).alloc (by omega) o).grown hg (by simp; omega) (fun k e => by
      rcases h1.own.2 with ⟨hv, _⟩ | ⟨g, cap, cur, hv, hBg, _, _⟩
      · rw [hv] at e; simp [Value.ownBlock] at e
      · rw [hv] at e
        have : g = k := by simpa [Value.ownBlock] using e
        omega)
end Go.Proofs.Ytiomhmdkaglelaa
namespace Go.Proofs.Ytiomhmdkaglelaa
open Go.RowKit
set_option linter.unusedSimpArgs false
set_option linter.unusedVariables false
/-- What a book is behind Put: its own end is one more. -/
def Putd (w w' : World) (B b a n : Nat) : Prop := ∃ k L', BookAt w' (fun j => B ≤ j ∧ j < w'.heap.size) b ⟨((a + k : Nat) : Int), L'⟩ ∧ Std (a + k) L' ∧ a + k + L'.length = n ∧ L'.length ≤ 64 ∧ Below B w w'
theorem len_gt (n : Nat) (h : n ≤ 64) : ¬ (64 : Int) < (n : Int) := by omega
set_option maxRecDepth 100000 in
set_option maxHeartbeats 8000000 in
theorem BkPut_any (B b a c n : Nat) (Am : Option Addr) (ok : Nat → Prop) (v : Value) (L : List (Value × List Int)) (w : World) (h : BookO w B b (a : Int) v L) (hstd : Std a L) (hl : L.length ≤ 64) (hn : a + L.length = n) (hn2 : n ≤ 1000) (hBw : B ≤ w.heap.size) (hm : IntsR w ok (.slice Am 1 c) [(n : Int)]) :
    Calls Try.prog 9 #[.pointer (some ⟨b, 0, none⟩), .agg #[.slice Am 1 c]] w fun r w' => r = .returned (.int .i64 0) ∧ Putd w w' B b a (n + 1) := by
  obtain ⟨A0, c0, rfl⟩ : ∃ A0 c0, v = .slice A0 L.length c0 := by
    obtain ⟨A', c', e⟩ := Mem.Rd.slice (own_rd h.own)
    exact ⟨A', c', by simpa using e⟩
  obtain ⟨i0, hi, hz0, hz1, hz2⟩ := info_parts info_match
  have h1 := Boxed.new w 45 (.slice Am 1 c)
  have hX := (Below.refl w.heap.size w).alloc (Nat.le_refl _) (.cells #[.slice Am 1 c] 45)
  have q1 := h1.cell
  have H := Lib.hid (And.intro h (And.intro hstd (And.intro hn (And.intro hm (And.intro h1 hX)))))
  have hend := fun (W : World) (hk : BookO W B b (a : Int) (.slice A0 L.length c0) L) => BkEnd_any _ b ⟨(a : Int), L⟩ W hk.at_ ⟨by show (0 : Int) ≤ (a : Int); omega, by show (a : Int) ≤ _; omega⟩ (by show L.length ≤ _; omega)
  have hmay := fun (W : World) (hk : IntsR W ok (.slice Am 1 c) [(n : Int)]) => may_one Am c (n : Int) ok W hk (by omega) (by omega)
  obtain ⟨z, hz⟩ : ∃ z : Int, (a : Int) + (L.length : Int) = z := ⟨_, rfl⟩
  rw [hz] at hend
  have HE := Lib.hid (And.intro hend hmay)
  have hlt1 : ¬ (549755813888 : Int) ≤ z := by omega
  clear hz
  clear h hstd hn hm h1 hX hend hmay
  go_enter Try.func9, Try.ntmps9
  go_wp2_with fail
  refine (HE.out.2 _ (H.out.2.2.2.1.below H.out.2.2.2.2.2)).mono ?_
  rintro _ w1 ⟨rfl, hb1⟩
  have hbk1 := (H.out.1.below H.out.2.2.2.2.2).below hb1
  have HB1 := Lib.hid (And.intro hbk1 hb1)
  clear hbk1 hb1
  go_wp2_with fail
  refine (HE.out.1 _ HB1.out.1).mono ?_
  rintro _ w2 ⟨rfl, hb2⟩
  have hB2 : Below w.heap.size w w2 := (H.out.2.2.2.2.2.trans (HB1.out.2.mono (by simp))).trans (hb2.mono (by have := HB1.out.2.size; simp at this; omega))
  have hk2 := H.out.1.below hB2
  have hx2 : Boxed w2 w.heap.size 45 (.slice Am 1 c) := (hb2.block _ (by have := HB1.out.2.size; simp at this; omega)).trans ((HB1.out.2.block _ (by simp)).trans H.out.2.2.2.2.1)
  have HB2 := Lib.hid (And.intro hB2 (And.intro hk2 (H.out.2.2.2.1.below hB2)))
  have q2 := hx2.cell
  have b0 := Mem.cell hk2.hb (j := 0) rfl
  have b1 := Mem.cell hk2.hb (j := 1) rfl
  clear hk2 hb2 hB2 hx2 q1 HB1
  go_wp2_with fail
  go_region_law (first
    | (refine step_goes rfl rfl Try.func36 (by kernel_rfl) rfl #[.slice Am 1 c] (by first | (simp [Act.eval]; done) | (simp [Act.eval, Act.put]; done)) ?_
       refine (CloneI_own [(n : Int)] _ _ _ (HB2.out.2.2.below (Below.refl _ _).drew)).mono ?_
       rintro _ w3 ⟨x, rfl, hx3, hb3⟩
       obtain ⟨A2, c2, rfl⟩ := hx3.slice
       have hb3' : Below w2.heap.size w2 w3 := (Below.refl _ _).drew.trans hb3
       have hk3 := HB2.out.2.1.below hb3'
       have b13 := Mem.cell hk3.hb (j := 1) rfl
       have b13a := fun o => Mem.cell (Mem.old hk3.hb o) (j := 1) rfl
       refine ⟨_, rfl, ?_⟩)
    | (refine step_own_append rfl (.tmp 21) (.tmp 26) 39 rfl B 45 i0 _ 1 24 Try.underlying39 hi hz0 hz1 hz2 rfl (by decide) _ L.length (vs L) (by rfl) (hk3.own.kept (World.grownBy_alloc w3 _ none) (by cases hv : (Value.slice A0 L.length c0).ownBlock <;> simp)) ⟨w3.heap.size, 0, none⟩ 1 1 [.slice A2 1 c2] (by rfl) rfl (cell_one_new _ _ _) (by simp [Value.oneCell']) (by unfold maxLen; omega) (by omega) (by have := hb3'.size; have := HB2.out.1.size; simp; omega) ?_
       intro v4 w4 hown4 hg4
       obtain ⟨g4, c4, rfl⟩ := ownsRow_succ hown4
       have hA := BookO.added HB2.out.2.1 (by have := HB2.out.1.size; omega) hb3' (IntsR.mono hx3 (fun k hk => ⟨by have h1 : w2.drew.heap.size ≤ k := hk.1; have h2 : w2.drew.heap.size = w2.heap.size := rfl; have := HB2.out.1.size; omega, hk.2⟩)) hg4 hown4
       have h4b : w4.heap[b]? = _ := (hg4.block b (by have := Mem.lt hk3.hb; simp; omega) (fun e => hk3.row_ne e.symm)).trans (Mem.old hk3.hb _)
       have b14 := Mem.cell h4b (j := 1) rfl
       have f14 := Mem.free (j := 1) h4b))
  all_goals
    have hbw : Below B w w2 := HB2.out.1.mono hBw
    have hst5 : Std a (L ++ [(.slice A2 1 c2, [((a + L.length : Nat) : Int)])]) := Std.snoc H.out.2.1
    rw [H.out.2.2.1] at hst5
    have H5 := Lib.hid (And.intro hA.1 (And.intro (hbw.trans hA.2) hst5))
    clear hA hg4 hown4 h4b b14 f14 b13 b13a hk3 hb3' hb3 hx3 hbw hst5
    generalize w4.setCell ⟨b, 1, none⟩ (.slice (some ⟨g4, 0, none⟩) (L.length + 1) c4) = W5 at H5 ⊢
    have b15 := Mem.cell H5.out.1.hb (j := 1) rfl
    have hLl : (L ++ [((Value.slice A2 1 c2 : Value), [(n : Int)])]).length = L.length + 1 := by simp
    by_cases h64 : L.length < 64
    · have hg : ¬ (64 : Int) < ((L.length + 1 : Nat) : Int) := by omega
      have hg' : ¬ (64 : Int) < (L.length : Int) + 1 := by omega
      go_wp2_with fail
      go_ret
      exact ⟨rfl, 0, _, by simpa using H5.out.1.at_, H5.out.2.2, by rw [hLl]; have := H.out.2.2.1; omega, by rw [hLl]; omega, H5.out.2.1⟩
    · have hg : (64 : Int) < ((L.length + 1 : Nat) : Int) := by omega
      have hg' : (64 : Int) < (L.length : Int) + 1 := by omega
      have hD := BkDrop_any _ b 1 (a : Int) (L ++ [(.slice A2 1 c2, [(n : Int)])]) W5 H5.out.1.at_ (by rw [hLl]; omega) (by rw [hLl]; omega) ⟨by omega, by have := H.out.2.2.1; omega⟩
      have HD := Lib.hid hD
      clear hD
      go_wp2_with (go_at_call 37; refine HD.out.mono ?_; rintro _ w6 ⟨rfl, hk6, hc6⟩)
      go_ret
      refine ⟨rfl, 1, _, ?_, H5.out.2.2.drop 1, ?_, ?_, H5.out.2.1.trans (hc6.below (fun k h1 h2 => by have h3 : k = b := h2; have := H5.out.1.hB; omega) (by have := H5.out.2.1.size; omega))⟩
      · have e : ((a + 1 : Nat) : Int) = (a : Int) + ((1 : Nat) : Int) := by simp
        rw [e]
        exact hk6.mono (fun k hk => ⟨hk.1, Nat.lt_of_lt_of_le hk.2 hc6.size⟩)
      · rw [List.length_drop, hLl]; have := H.out.2.2.1; omega
      · rw [List.length_drop, hLl]; omega
end Go.Proofs.Ytiomhmdkaglelaa
namespace Go.Proofs.Ytiomhmdkaglelaa
open Go.RowKit
open Sp (bs)
set_option linter.unusedSimpArgs false
set_option linter.unusedVariables false
theorem bknum_small (m n : Nat) (M : Int) (hM : ((m : Nat) : Int) = M) (hm : m ≤ 549755813888) (l : List Nat) (g : Nat) (w : World) (h : TapeAt w g (bs (u8s (n :: l))) 0) (hl : l.length ≤ 1000) (hn : n ≤ 247) (hnm : n ≤ m) :
    Calls Try.prog 33 #[.pointer (some ⟨g, 0, none⟩), .int .u64 M] w fun r w' => r = .returned (.int .i64 n) ∧ TapeAt w' g (bs (u8s l)) 0 ∧ Mem.Ch (fun k => k = g) w w' := by
  subst hM
  have := bknum_any m hm (bs (u8s (n :: l))) 0 g w h (by rw [bs_len]; simp; omega)
  rw [tp_small hn] at this
  have hc : capN m n = (n : Int) := by unfold capN; rw [if_neg (by omega)]
  rw [hc] at this
  exact this
theorem BookO.step {w w' : World} {B b : Nat} {a : Int} {v : Value} {L : List (Value × List Int)} (h : BookO w B b a v L) (hs : w.heap.size ≤ w'.heap.size) (hk : ∀ k, (k = b ∨ v.ownBlock = some k ∨ IntRow w k) → w'.heap[k]? = w.heap[k]?) : BookO w' B b a v L := by
  refine ⟨(hk b (.inl rfl)).trans h.hb, h.hB, ⟨h.own.1, ?_⟩, fun p hp => (h.el p hp).step hs (fun k _ hI => hk k (.inr (.inr hI)))⟩
  rcases h.own.2 with hn | ⟨g, cap, cur, hv, hb, hgg, hr⟩
  · exact .inl hn
  · exact .inr ⟨g, cap, cur, hv, hb, (hk g (.inr (.inl (by rw [hv]; rfl)))).trans hgg, hr⟩
theorem own_type {w : World} {B n k : Nat} {e t : TypeId} {v : Value} {xs : List Value} {cs : Array Value} {fz : Nat × Nat} (h : w.ownsRow B e 1 v n xs) (hk : w.heap[k]? = some (.cells cs t fz)) (ht : t ≠ e) : v.ownBlock ≠ some k := fun e' => by
  rcases h.2 with ⟨hv, _⟩ | ⟨g, cap, cur, hv, _, hgg, _⟩
  · rw [hv] at e'; simp [Value.ownBlock] at e'
  · rw [hv] at e'
    have : g = k := by simpa [Value.ownBlock] using e'
    rw [this, hk] at hgg
    cases hgg
    exact ht rfl
/-- Between two matches: the tape has t left, the book has L. -/
structure Lo (w W : World) (g b : Nat) (a : Int) (v : Value) (L : List (Value × List Int)) (t : List Nat) : Prop where
  tp : TapeAt W g (bs (u8s t)) 0
  bk : BookO W w.heap.size b a v L
  gB : w.heap.size ≤ g
  bl : Below w.heap.size w W
/-- While a match is read: block mb holds its picks x. -/
structure Lx (w W : World) (g b mb : Nat) (a : Int) (v : Value) (L : List (Value × List Int)) (t : List Nat) (x : Value) : Prop where
  lo : Lo w W g b a v L t
  mx : Boxed W mb 45 x
  nm : v.ownBlock ≠ some mb
  mB : w.heap.size ≤ mb
theorem Lo.num {w W W' : World} {g b : Nat} {a : Int} {v : Value} {L : List (Value × List Int)} {t t' : List Nat} (h : Lo w W g b a v L t) (ht : TapeAt W' g (bs (u8s t')) 0) (hc : Mem.Ch (fun k => k = g) W W') : Lo w W' g b a v L t' := by
  refine ⟨ht, h.bk.step hc.size (fun k hk => ?_), h.gB, h.bl.trans (hc.below (fun k h1 h2 => by have h3 : k = g := h2; have := h.gB; omega) h.bl.size)⟩
  have hne : k ≠ g := by
    rintro rfl
    have htp : W.heap[k]? = some (.cells #[.string (bs (u8s t)), .int .i64 0] 105 (0, 0)) := h.tp
    rcases hk with rfl | hk | ⟨cs, hk⟩
    · have := h.bk.hb
      rw [htp] at this
      cases this
    · exact own_type h.bk.own htp (by decide) hk
    · rw [htp] at hk
      cases hk
  have hlt : k < W.heap.size := by
    rcases hk with rfl | hk | hk
    · exact Mem.lt h.bk.hb
    · exact (h.bk.own.lt k hk).2
    · exact hk.lt
  exact hc.block k hlt hne
theorem Lo.below {w W W' : World} {g b : Nat} {a : Int} {v : Value} {L : List (Value × List Int)} {t : List Nat} (h : Lo w W g b a v L t) (hb : Below W.heap.size W W') : Lo w W' g b a v L t := ⟨h.tp.step hb, h.bk.below hb, h.gB, h.bl.trans (hb.mono h.bl.size)⟩
theorem Lx.below {w W W' : World} {g b mb : Nat} {a : Int} {v x : Value} {L : List (Value × List Int)} {t : List Nat} (h : Lx w W g b mb a v L t x) (hb : Below W.heap.size W W') : Lx w W' g b mb a v L t x := ⟨h.lo.below hb, (hb.block _ h.mx.lt).trans h.mx, h.nm, h.mB⟩
theorem Lx.num {w W W' : World} {g b mb : Nat} {a : Int} {v x : Value} {L : List (Value × List Int)} {t t' : List Nat} (h : Lx w W g b mb a v L t x) (ht : TapeAt W' g (bs (u8s t')) 0) (hc : Mem.Ch (fun k => k = g) W W') : Lx w W' g b mb a v L t' x := by
  refine ⟨h.lo.num ht hc, (hc.block mb h.mx.lt (fun e => ?_)).trans h.mx, h.nm, h.mB⟩
  have e' : mb = g := e
  have h1 : W.heap[mb]? = _ := h.mx
  rw [e'] at h1
  have h2 : W.heap[g]? = some (.cells #[.string (bs (u8s t)), .int .i64 0] 105 (0, 0)) := h.lo.tp
  rw [h1] at h2
  cases h2
/-- A match is begun. -/
theorem Lo.open_ {w W : World} {g b : Nat} {a : Int} {v : Value} {L : List (Value × List Int)} {t : List Nat} (h : Lo w W g b a v L t) : Lx w (W.alloc (.cells #[.slice none 0 0] 45)) g b W.heap.size a v L t (.slice none 0 0) :=
  ⟨h.below ((Below.refl _ _).alloc (Nat.le_refl _) _), Boxed.new _ _ _, fun e => by have := (h.bk.own.lt _ e).2; omega, h.bl.size⟩
/-- A pick has been added to a match that had none. -/
theorem Lx.pick {w W w2 : World} {g b mb : Nat} {a : Int} {v v' : Value} {n : Int} {L : List (Value × List Int)} {t : List Nat} {o : Obj} (h : Lx w W g b mb a v L t (.slice none 0 0)) (hg : (W.alloc o).grownBy w2 none) (hown : w2.ownsRow w.heap.size 3 1 v' 1 [.int .i64 n]) :
    Lx w (w2.setCell ⟨mb, 0, none⟩ v') g b mb a v L t v' ∧ IntsT (w2.setCell ⟨mb, 0, none⟩ v') w.heap.size v' [n] := by
  have hb2 : Below W.heap.size W w2 := ((Below.refl _ _).alloc (Nat.le_refl _) o).grown hg (by simp) (fun k e => by cases e)
  have h2 := h.below hb2
  have hgs := grownBy_setCell' w2 mb v'
  have hne : v'.ownBlock ≠ some mb := own_type hown (show w2.heap[mb]? = _ from h2.mx) (by decide)
  have hown' : (w2.setCell ⟨mb, 0, none⟩ v').ownsRow w.heap.size 3 1 v' 1 [.int .i64 n] := hown.kept hgs (.inr hne)
  refine ⟨⟨⟨?_, h2.lo.bk.step hgs.size (fun k hk => ?_), h2.lo.gB, h2.lo.bl.setCell (p := ⟨mb, 0, none⟩) h.mB _⟩, h2.mx.set v', h.nm, h.mB⟩, ?_⟩
  · refine (Below.heap_setCell w2 _ _ g (fun e => ?_)).trans h2.lo.tp
    have e' : g = mb := e
    have h1 : w2.heap[mb]? = _ := h2.mx
    rw [← e'] at h1
    have h3 : w2.heap[g]? = some (.cells #[.string (bs (u8s t)), .int .i64 0] 105 (0, 0)) := h2.lo.tp
    rw [h1] at h3
    cases h3
  · refine Below.heap_setCell w2 _ _ k (fun e => ?_)
    have e' : k = mb := e
    subst e'
    rcases hk with rfl | hk | ⟨cs, hk⟩
    · have := h2.lo.bk.hb
      rw [show w2.heap[k]? = _ from h2.mx] at this
      cases this
    · exact h.nm hk
    · rw [show w2.heap[k]? = _ from h2.mx] at hk
      cases hk
  · have := Rd_typed hown' (Mem.Rd.of_owns (rows := [intc n]) hown' rfl (by intro r hr; simp at hr; subst hr; rfl))
    exact ⟨this, by show [n].length * 8 ≤ _; simp⟩
/-- The match has been added to the book. -/
theorem Lx.shut {w W w1 w2 : World} {g b mb : Nat} {a : Int} {v v' x : Value} {pl : List Int} {L : List (Value × List Int)} {t : List Nat} {o : Obj} (h : Lx w W g b mb a v L t x) (hb : Below W.heap.size W w1) (hx : IntsT W w.heap.size x pl) (hg : (w1.alloc o).grownBy w2 v.ownBlock) (hown : w2.ownsRow w.heap.size 45 1 v' (L.length + 1) (vs L ++ [x])) :
    Lo w (w2.setCell ⟨b, 1, none⟩ v') g b a v' (L ++ [(x, pl)]) t := by
  have h1 := h.below hb
  obtain ⟨h2, h3⟩ := BookO.added h.lo.bk h.lo.bl.size hb (hx.step hb.size (fun k _ hI => hb.block k hI.lt)) hg hown
  have htp : w1.heap[g]? = some (.cells #[.string (bs (u8s t)), .int .i64 0] 105 (0, 0)) := h1.lo.tp
  refine ⟨?_, h2, h.lo.gB, h.lo.bl.trans h3⟩
  refine (Below.heap_setCell w2 _ _ g (fun e => ?_)).trans ((hg.block g (by have := Mem.lt htp; simp; omega) (fun e => own_type h1.lo.bk.own htp (by decide) e.symm)).trans (Mem.old htp o))
  have e' : g = b := e
  have h4 := h1.lo.bk.hb
  rw [← e', htp] at h4
  cases h4
end Go.Proofs.Ytiomhmdkaglelaa
namespace Go.Proofs.Ytiomhmdkaglelaa
open Go.RowKit
open Sp (bs)
set_option linter.unusedSimpArgs false
set_option linter.unusedVariables false
/-- What Load hands back. -/
def Ldd (w w' : World) (a c : Nat) (p : Value) : Prop := ∃ b v L, p = .pointer (some ⟨b, 0, none⟩) ∧ BookO w' w.heap.size b (a : Int) v L ∧ Std a L ∧ L.length = c ∧ Below w.heap.size w w'
set_option maxRecDepth 100000 in
set_option maxHeartbeats 8000000 in
theorem BkLoad_any (a c : Nat) (w : World) (hac : a + c ≤ 200) (hc : c ≤ 64) :
    Calls Try.prog 8 #[.string (btx a c)] w fun r w' => ∃ p, r = .returned (.tuple #[p, .int .i64 0]) ∧ Ldd w w' a c p := by
  obtain ⟨i0, hi, hz0, hz1, hz2⟩ := info_parts info_match
  obtain ⟨i1, hi1, hy0, hy1, hy2⟩ := info_parts info_int
  obtain ⟨s, hs⟩ : ∃ s, s = btx a c := ⟨_, rfl⟩
  rw [← hs]
  have HS := Lib.hid hs
  clear hs
  go_enter Try.func8, Try.ntmps8
  go_wp2_with fail
  refine (at_any s w).mono ?_
  rintro _ w1 ⟨rfl, hT1, hb1⟩
  go_wp2_with fail
  have hT1' : TapeAt w1 w.heap.size (bs (u8s (a :: c :: brow a c))) 0 := by rw [HS.out] at hT1; exact hT1
  refine (bknum_small 549755813888 a _ rfl (by omega) _ _ w1 hT1' (by simp [brow_len]; omega) (by omega) (by omega)).mono ?_
  rintro _ w2 ⟨rfl, hT2, hc2⟩
  have hB2 : Below w.heap.size w w2 := hb1.trans (hc2.below (fun k h1 h2 => by have h3 : k = w.heap.size := h2; omega) hb1.size)
  have hX := Mem.new w2 (.cells #[.int .i64 (a : Int), .slice none 0 0] 72)
  have hbX := (Below.refl w2.heap.size w2).alloc (Nat.le_refl _) (.cells #[.int .i64 (a : Int), .slice none 0 0] 72)
  have hLo : Lo w (w2.alloc (.cells #[.int .i64 (a : Int), .slice none 0 0] 72)) w.heap.size w2.heap.size (a : Int) (.slice none 0 0) [] (c :: brow a c) :=
    ⟨hT2.step hbX, ⟨hX, hB2.size, World.ownsRow_nil _ _ _ _, fun p hp => by cases hp⟩, Nat.le_refl _, hB2.trans (hbX.mono hB2.size)⟩
  have H1 := Lib.hid hLo
  clear hT1 hT1' hb1 hT2 hc2 hB2 hX hbX hLo
  go_wp2_with fail
  refine (bknum_small 64 c _ rfl (by omega) _ _ _ H1.out.tp (by rw [brow_len]; omega) (by omega) (by omega)).mono ?_
  rintro _ w3 ⟨rfl, hT3, hc3⟩
  have H3 := Lib.hid (H1.out.num hT3 hc3)
  have hc64 : (c : Int) ≤ 64 := by omega
  clear hT3 hc3 H1
  go_wp2_with fail
  obtain ⟨b, hbe⟩ : ∃ b, w2.heap.size = b := ⟨_, rfl⟩
  rw [hbe] at H3 ⊢
  clear hbe
  go_loopw [17] (fun i wr => ∃ (k : Nat) (v : Value) (L : List (Value × List Int)), k ≤ c ∧ i = .int .i64 (k : Int) ∧ L.length = k ∧ Std a L ∧ Lo w wr w.heap.size b (a : Int) v L (brow (a + k) (c - k))) (fun i _ => c - (intOf i).toNat)
  case atStart => exact ⟨0, _, [], Nat.zero_le _, rfl, rfl, Std.nil _, H3.out⟩
  case round =>
    obtain ⟨k, v, L, hk, rfl, hLk, hst, hlo⟩ := hrel
    by_cases hlt : k < c
    · have hlt' : (k : Int) < (c : Int) := by omega
      obtain ⟨j, hj⟩ : ∃ j, c - k = j + 1 := ⟨c - k - 1, by omega⟩
      rw [hj] at hlo
      have hlo' : Lo w wr w.heap.size b (a : Int) v L (1 :: (a + k) :: brow (a + k + 1) j) := hlo
      have HO := Lib.hid (And.intro hlo' (And.intro hst (And.intro hLk hj)))
      have hop := Lib.hid hlo'.open_
      clear hlo hlo' hst hj hLk
      go_wp2_with fail
      obtain ⟨mb, hmb⟩ : ∃ mb, wr.heap.size = mb := ⟨_, rfl⟩
      rw [hmb] at hop ⊢
      have hak : a + k ≤ 247 := by omega
      have hjl : (brow (a + k + 1) j).length ≤ 500 := by rw [brow_len]; have := HO.out.2.2.2; omega
      have HJ := Lib.hid (And.intro hak hjl)
      clear hmb hak hjl
      refine (bknum_small 16 1 16 rfl (by omega) _ _ _ hop.out.lo.tp (by have := HJ.out.2; simp; omega) (by omega) (by omega)).mono ?_
      rintro _ w4 ⟨rfl, hT4, hc4⟩
      have H4 := Lib.hid (hop.out.num hT4 hc4)
      clear hT4 hc4 hop
      go_wp2_with fail
      go_loopw [21] (fun i wr => (i = .int .i64 0 ∧ wr = w4) ∨ (i = .int .i64 1 ∧ ∃ x, Lx w wr w.heap.size b mb (a : Int) v L (brow (a + k + 1) j) x ∧ IntsT wr w.heap.size x [((a + k : Nat) : Int)])) (fun i _ => 1 - (intOf i).toNat)
      case atStart => exact .inl ⟨rfl, rfl⟩
      case round =>
        rcases hrel with ⟨rfl, rfl⟩ | ⟨rfl, x, hx, hint⟩
        · have m4 := H4.out.mx.cell
          have H4d := Lib.hid (H4.out.below (Below.refl _ _).drew)
          go_wp2_with fail
          go_region_law (first
            | (refine step_goes rfl rfl Try.func33 (by kernel_rfl) rfl #[.pointer (some ⟨w.heap.size, 0, none⟩), .int .u64 549755813888] (by first | (simp [Act.eval]; done) | (simp [Act.eval, Act.put]; done)) ?_
               refine (bknum_small 549755813888 (a + k) 549755813888 rfl (by omega) _ _ _ H4d.out.lo.tp (by have := HJ.out.2; omega) HJ.out.1 (by have := HJ.out.1; omega)).mono ?_
               rintro _ w5 ⟨rfl, hT5, hc5⟩
               have h5 := H4d.out.num hT5 hc5
               have m5 := h5.mx.cell
               have m5a := fun o => (h5.mx.alloc o).cell
               refine ⟨_, rfl, ?_⟩)
            | (refine step_own_append rfl (.tmp 24) (.tmp 27) 43 rfl w.heap.size 3 i1 _ 1 8 Try.underlying43 hi1 hy0 hy1 hy2 rfl (by decide) _ 0 [] (by rfl) (World.ownsRow_nil _ _ _ _) ⟨w5.heap.size, 0, none⟩ 1 1 [.int .i64 ((a + k : Nat) : Int)] (by rfl) rfl (cell_one_new _ _ _) (by simp [Value.oneCell']) (by unfold maxLen; omega) (by omega) (by have := h5.lo.bl.size; simp; omega) ?_
               intro v6 w6 hown6 hg6
               obtain ⟨g6, c6, rfl⟩ := ownsRow_succ hown6
               have hP := h5.pick hg6 hown6
               have h6 := h5.below (((Below.refl _ _).alloc (Nat.le_refl _) _).grown hg6 (by simp) (fun k e => by cases e))
               have m6 := h6.mx.cell
               have f6 := h6.mx.frozen))
          all_goals
            go_wp2_with fail
            go_roundw
            case rel => exact .inr ⟨by go_num, _, hP.1, hP.2⟩
            case measure => simp [intOf]
        · obtain ⟨A, cx, rfl⟩ := hint.slice
          have m5 := hx.mx.cell
          have HX := Lib.hid (And.intro hx hint)
          clear hx hint
          go_wp2_with fail
          refine (may_one A cx ((a + k : Nat) : Int) _ _ HX.out.2 (by omega) (by have := HJ.out.1; omega)).mono ?_
          rintro _ w7 ⟨rfl, hb7⟩
          have h7 := HX.out.1.below hb7
          have m7 := h7.mx.cell
          have b7 := Mem.cell h7.lo.bk.hb (j := 1) rfl
          have b7a := fun o => Mem.cell (Mem.old h7.lo.bk.hb o) (j := 1) rfl
          have H7 := Lib.hid (And.intro h7 hb7)
          have hv7 : ∃ A' c', v = .slice A' L.length c' := by
            obtain ⟨A', c', e⟩ := Mem.Rd.slice (own_rd h7.lo.bk.own)
            exact ⟨A', c', by simpa using e⟩
          obtain ⟨A7, c7, rfl⟩ := hv7
          clear h7 hb7
          go_wp2_with fail
          go_region_law (
            (refine step_own_append rfl (.tmp 38) (.tmp 40) 39 rfl w.heap.size 45 i0 _ 1 24 Try.underlying39 hi hz0 hz1 hz2 rfl (by decide) _ L.length (vs L) (by rfl) (H7.out.1.lo.bk.own.kept ((below_grown ((Below.refl _ w7).drew.alloc (Nat.le_refl _) _))) (by cases hv : (Value.slice A7 L.length c7).ownBlock <;> simp)) ⟨w7.drew.heap.size, 0, none⟩ 1 1 [.slice A 1 cx] (by rfl) rfl (cell_one_new _ _ _) (by simp [Value.oneCell']) (by unfold maxLen; have := HO.out.2.2.1; omega) (by have := HO.out.2.2.1; omega) (by have := H7.out.1.lo.bl.size; simp; omega) ?_
             intro v8 w8 hown8 hg8
             obtain ⟨g8, c8, rfl⟩ := ownsRow_succ hown8
             have hS := H7.out.1.shut (Below.refl _ w7).drew (IntsT.step HX.out.2 H7.out.2.size (fun k _ hI => H7.out.2.block k hI.lt)) hg8 hown8
             have h8b : w8.heap[b]? = _ := (hg8.block b (by have := Mem.lt H7.out.1.lo.bk.hb; simp; omega) (fun e => H7.out.1.lo.bk.row_ne e.symm)).trans (Mem.old (w := w7.drew) H7.out.1.lo.bk.hb _)
             have b8 := Mem.cell h8b (j := 1) rfl
             have f8 := Mem.free (j := 1) h8b))
          all_goals
            go_wp2_with fail
            go_roundw
            case rel =>
              have hst2 : Std a (L ++ [(.slice A 1 cx, [((a + L.length : Nat) : Int)])]) := Std.snoc HO.out.2.1
              rw [HO.out.2.2.1] at hst2
              have e1 : a + k + 1 = a + (k + 1) := by omega
              have e2 : j = c - (k + 1) := by have := HO.out.2.2.2; omega
              rw [e1, e2] at hS
              exact ⟨k + 1, _, _, by omega, by go_num, by rw [List.length_append, HO.out.2.2.1]; rfl, hst2, hS⟩
            case measure => simp [intOf]; omega
    · have hlt' : ¬ (k : Int) < (c : Int) := by omega
      have hkc : k = c := by omega
      subst hkc
      rw [Nat.sub_self] at hlo
      have hT : TapeAt wr w.heap.size (bs (u8s [])) 0 := hlo.tp
      have hE := end_any _ _ _ _ hT
      rw [tp_ends0] at hE
      have hb := BkEnd_any _ b ⟨(a : Int), L⟩ wr hlo.bk.at_ ⟨by show (0 : Int) ≤ (a : Int); omega, by show (a : Int) ≤ _; omega⟩ (by show L.length ≤ _; omega)
      obtain ⟨z, hz⟩ : ∃ z : Int, (a : Int) + (L.length : Int) = z := ⟨_, rfl⟩
      rw [hz] at hb
      have hlt1 : ¬ (549755813888 : Int) < z := by omega
      have c0 := Mem.cell hlo.bk.hb (j := 0) rfl
      have ha0 : ¬ (a : Int) < 0 := by omega
      have hk0 : ¬ (k : Int) < 0 := by omega
      have HO := Lib.hid (And.intro hlo (And.intro hst (And.intro hLk (And.intro hE hb))))
      clear hlo hst hLk hE hb hz hT
      go_wp2_with (first
        | (go_at_call 35; refine HO.out.2.2.2.1.mono ?_; rintro _ _ ⟨rfl, rfl⟩)
        | (go_at_call 29; refine HO.out.2.2.2.2.mono ?_; rintro _ w9 ⟨rfl, hb9⟩))
      go_ret2
      have hF : Ldd w w9 a k (.pointer (some ⟨b, 0, none⟩)) := ⟨b, v, L, rfl, HO.out.1.bk.below hb9, HO.out.2.1, HO.out.2.2.1, HO.out.1.bl.trans (hb9.mono HO.out.1.bl.size)⟩
      first | exact ⟨_, rfl, hF⟩ | exact ⟨⟨_, rfl⟩, hF⟩ | exact hF
end Go.Proofs.Ytiomhmdkaglelaa
