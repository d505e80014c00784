/- Teller.Add. -/
import Derived.Test.YtbiicflcjipeeaaClone
import Derived.Deep.RegionLaw
import Derived.Deep.AppendLies
namespace Go.Proofs.Ytbiicflcjipeeaa
open Go.RowKit
set_option linter.unusedSimpArgs false
set_option linter.unusedVariables false
open Sp (fold intB textS bs)
attribute [local go_sem] Mem.run_store_float Mem.After.cell
namespace Mem
theorem Rd.lt {w : World} {ok : Nat → Prop} {sz : Nat} {v : Value} {rows : List (List Value)} (h : Rd w ok sz v rows) : Rd w (fun k => ok k ∧ k < w.heap.size) sz v rows := by
  obtain ⟨A, cap, e, h1, h2, h3, h4⟩ := h
  exact ⟨A, cap, e, h1, h2, fun hr => by obtain ⟨g, o, ea, hg, hl⟩ := h3 hr; exact ⟨g, o, ea, ⟨hg, hl⟩, hl⟩, h4⟩
end Mem
/-- append to a row that may begin inside its block, as one step of a region that draws. -/
theorem step_q_append {P : Program} {ops : Array Oper} {o : Oper} {a : Act} {w : World} {K : Act → World → Prop} {Q : Exit → Act → World → Prop} {E : Prop} (hgd : o.guard = none) (s x : Operand) (t : TypeId)
    (ho : o.op = .call { callee := .builtin .append, args := #[s, x], argTypes := #[t, t] })
    (base : Nat) (e : TypeId) (i : TypeInfo) (z : Value) (size bytes : Nat) (ht : P.underlying t = some (.slice e)) (hi : P.info? e = some i) (hz : i.zero = some z)
    (hsize : i.size = size) (hby : i.bytes = bytes) (hzs : z.cells.size = size) (hsz : 0 < size)
    (v : Value) (n : Nat) (xs : List Value) (hs : a.eval s = v) (hown : Qu.QRow w base e size v n xs)
    (ad : Addr) (m c : Nat) (news : List Value) (hx : a.eval x = .slice (some ad) m c) (hl : news.length = m * size) (hnews : ∀ j u, news[j]? = some u → w.cell? (ad.add j) = some u) (h1 : ∀ u ∈ news, u.oneCell' = true)
    (hm : 0 < m) (h63 : n + m ≤ maxLen) (hbytes : (n + m) * bytes ≤ 140737488355328) (hbase : base ≤ w.heap.size)
    (h : ∀ v' w', Qu.QRow w' base e size v' (n + m) (xs ++ news) → w.grownBy w' v.ownBlock → (v'.ownBlock = v.ownBlock ∨ ∃ b, v'.ownBlock = some b ∧ w.heap.size ≤ b) → K (a.put o.dst v') w') :
    if Region.wanted o (yielded ops a.tmps) = true then Oper.wp P o a w K Q else E := by
  have hw : Region.wanted o (yielded ops a.tmps) = true := by simp [Region.wanted, hgd]
  rw [if_pos hw]
  obtain ⟨v', w', hr, h2, h3, h4⟩ := Qu.q_append (P := P) w base t o.type e i z size bytes ht hi hz hsize hby hzs hsz v n xs hown ad m c news hl hnews h1 hm h63 hbytes hbase
  unfold Oper.wp
  simp [execOp, ho, resolve, invoke, builtin, hs, hx, hr, Result.andThen]
  exact h v' w' h2 h3 h4
/-- A call of a Go function, by its contract, as one step of a region that draws. -/
theorem step_goes {P : Program} {ops : Array Oper} {o : Oper} {a : Act} {w : World} {K : Act → World → Prop} {Q : Exit → Act → World → Prop} {E : Prop} (hgd : o.guard = none) {f : FuncId} {fn : Func} {ps : Array Operand} {ts : Array TypeId}
    (hop : o.op = .call { callee := .value (.func f), args := ps, argTypes := ts }) (hf : P.funcs[f]? = some fn) (hname : (fn.name == "runtime.NumGoroutine") = false) (hbd : fn.body.isSome = true) (args : Array Value) (hargs : ps.map a.eval = args)
    (h : Calls P f args w fun e w' => ∃ v, e = .returned v ∧ K (a.put o.dst v) w') : if Region.wanted o (yielded ops a.tmps) = true then Oper.wp P o a w K Q else E := by
  have hw : Region.wanted o (yielded ops a.tmps) = true := by simp [Region.wanted, hgd]
  rw [if_pos hw]
  have h1 : fn.name ≠ "runtime.NumGoroutine" := by simpa using hname
  obtain ⟨c, hc⟩ := Option.isSome_iff_exists.1 hbd
  have he : (callFunc f args).run P w = .ok (.enter f args) w := by simp [callFunc, hf, h1, hc]
  have hrun : (execOp a.eval o).run P w = .ok (.enter f args) w := by
    unfold execOp
    simp [hop, resolve, Deferred.ofValue, invoke, Act.eval, hargs, he]
  unfold Oper.wp
  rw [hrun, Oper.upon_enter]
  refine h.mono fun e w'' hh => ?_
  obtain ⟨v, rfl, hk⟩ := hh
  exact hk
theorem info_evt : (Try.prog.info? 31).map (fun i => (i.zero, i.size, i.bytes)) = some (some (.agg #[.int .i64 0, .int .i64 0, .int .i64 0, .string ⟨#[]⟩, .slice none 0 0]), 5, 64) := by kernel_rfl
/-- The event with its numbers set. -/
def Evt.num (e : Evt) (s q : Int) : Evt := { e with session := s, seq := q }
theorem Check_box (c : Int) (e : Evt) (A : Option Addr) (n cap : Nat) (ok : Nat → Prop) (w : World) (hr : EvR w ok e (.slice A n cap)) (hs : (e.num 1 1).small) (hc : (e.num 1 1).chk = c) :
    Calls Try.prog 41 #[.agg #[.int .i64 1, .int .i64 1, .int .i64 e.stamp, .string e.kind, .slice A n cap]] (w.alloc (Obj.cells #[Value.int IntKind.i64 1, Value.int IntKind.i64 1, Value.int IntKind.i64 e.stamp, Value.string e.kind, .slice A n cap] 31))
      fun r w' => r = .returned (.int .i64 c) ∧ Below w.heap.size w w' ∧ w'.heap[w.heap.size]? = some (Obj.cells #[Value.int IntKind.i64 1, Value.int IntKind.i64 1, Value.int IntKind.i64 e.stamp, Value.string e.kind, .slice A n cap] 31) := by
  have hb0 : Below w.heap.size w (w.alloc (Obj.cells #[Value.int IntKind.i64 1, Value.int IntKind.i64 1, Value.int IntKind.i64 e.stamp, Value.string e.kind, .slice A n cap] 31)) := (Below.refl _ _).alloc (Nat.le_refl _) _
  refine (Check_any (e.num 1 1) _ ok _ hs (hr.below hb0)).mono ?_
  rintro _ w' ⟨rfl, hb⟩
  exact ⟨by rw [hc], hb0.trans (hb.mono (by simp)), (hb.block _ (by simp)).trans (Mem.new _ _)⟩
set_option maxRecDepth 100000 in
set_option maxHeartbeats 2000000 in
theorem Add_arg (b : Nat) (e : Evt) (vf : Value) (ok : Nat → Prop) (w : World) (he : EvR w ok e vf) (hs : (e.num 1 1).small) (hc : (e.num 1 1).chk = 1) :
    Calls Try.prog 11 #[.pointer (some ⟨b, 0, none⟩), .agg #[.int .i64 e.session, .int .i64 e.seq, .int .i64 e.stamp, .string e.kind, vf]] w fun r w' => r = .returned (.int .i64 1) ∧ Below w.heap.size w w' := by
  obtain ⟨A, cap, rfl⟩ := he.slice
  have HR := Lib.hid he
  have HS := Lib.hid hs
  have HC := Lib.hid hc
  clear he hs hc
  go_enter Try.func11, Try.ntmps11
  go_wp2_with (go_at_call 41; refine (Check_box 1 e A _ cap ok w HR.out HS.out HC.out).mono ?_; rintro _ w1 ⟨rfl, hb1, hB1⟩)
  go_ret
  exact ⟨rfl, hb1⟩
set_option maxRecDepth 100000 in
set_option maxHeartbeats 2000000 in
theorem Add_full (S : Nat → Prop) (b : Nat) (t : Tl) (e : Evt) (vf : Value) (ok : Nat → Prop) (w : World) (h : TellerAt w S b t) (he : EvR w ok e vf) (hs : (e.num 1 1).small) (hc : (e.num 1 1).chk = 0) (hn : 256 ≤ t.wait.length) :
    Calls Try.prog 11 #[.pointer (some ⟨b, 0, none⟩), .agg #[.int .i64 e.session, .int .i64 e.seq, .int .i64 e.stamp, .string e.kind, vf]] w fun r w' => r = .returned (.int .i64 7) ∧ Below w.heap.size w w' := by
  obtain ⟨A, cap, rfl⟩ := he.slice
  obtain ⟨q, vw, vr, hb, hq, sb, sq, hne, hw, hr, dw, dr, hff⟩ := h
  obtain ⟨Aw, cw, rfl, hcw⟩ := Qu.q_slice hw
  have HR := Lib.hid he
  have HS := Lib.hid hs
  have HC := Lib.hid hc
  have HB := Lib.hid hb
  clear he hs hc hb hq hw hr dw dr hff
  have hn' : (256 : Int) ≤ (t.wait.length : Int) := by omega
  go_enter Try.func11, Try.ntmps11
  go_wp2_with (go_at_call 41; refine (Check_box 0 e A _ cap ok w HR.out HS.out HC.out).mono ?_; rintro _ w1 ⟨rfl, hb1, hB1⟩; have b3 := Mem.cell ((hb1.block b (Mem.lt HB.out)).trans HB.out) (j := 3) rfl)
  go_ret
  exact ⟨rfl, hb1⟩
theorem evs_snoc (l : List (Evt × Value)) (e : Evt) (v : Value) : evs (l ++ [(e, v)]) = evs l ++ evC e v := by simp [evs]
/-- An event was appended to what waits. -/
theorem TellerAt.added {w w2 w3 : World} {S : Nat → Prop} {b q : Nat} {vw vr v3 v' : Value} {t : Tl} {e : Evt} (o : Obj) (sb : S b) (sq : S q) (hne : q ≠ b) (hS : ∀ k, S k → k < w.heap.size)
    (hb : w.heap[b]? = some (.cells #[.pointer (some ⟨q, 0, none⟩), .int .i64 t.id, .int .i64 t.seq, vw, vr] 97 (0, 0)))
    (hq : w.heap[q]? = some (.cells #[.int .i64 t.nodes, .int .i64 t.to] 95 (0, 0)))
    (hw : Qu.QRow w 0 31 5 vw t.wait.length (evs t.wait)) (hr : Qu.QRow w 0 31 5 vr t.refused.length (evs t.refused))
    (dw : ∀ k, vw.ownBlock = some k → S k ∧ k ≠ b ∧ k ≠ q ∧ vr.ownBlock ≠ some k) (dr : ∀ k, vr.ownBlock = some k → S k ∧ k ≠ b ∧ k ≠ q)
    (hff : ∀ p, p ∈ t.wait ∨ p ∈ t.refused → EvR w (fun k => S k ∧ k ≠ b ∧ k ≠ q ∧ some k ≠ vw.ownBlock ∧ some k ≠ vr.ownBlock) p.1 p.2)
    (hbl2 : Below w.heap.size w w2) (hr2 : EvR w2 (fun k => w.heap.size ≤ k) e v') (hg3 : (w2.alloc o).grownBy w3 vw.ownBlock)
    (hq3 : Qu.QRow w3 0 31 5 v3 (t.wait.length + 1) (evs t.wait ++ evC e v')) (ho3 : v3.ownBlock = vw.ownBlock ∨ ∃ b, v3.ownBlock = some b ∧ (w2.alloc o).heap.size ≤ b) :
    Mem.Ch S w (w3.setCell ⟨b, 3, none⟩ v3) ∧ ∃ v', TellerAt (w3.setCell ⟨b, 3, none⟩ v3) (fun k => S k ∨ (w.heap.size ≤ k ∧ k < (w3.setCell ⟨b, 3, none⟩ v3).heap.size)) b { t with wait := t.wait ++ [(e, v')] } := by
  have hlb := Mem.lt hb
  have hlq := Mem.lt hq
  have s2 := hbl2.size
  have s3 : w2.heap.size + 1 ≤ w3.heap.size := by have := hg3.size; simpa using this
  have sW : (w3.setCell ⟨b, 3, none⟩ v3).heap.size = w3.heap.size := by simp [World.setCell]
  have lw : ∀ k, vw.ownBlock = some k → k < w.heap.size := fun k hk => Qu.q_lt hw k hk
  have lr : ∀ k, vr.ownBlock = some k → k < w.heap.size := fun k hk => Qu.q_lt hr k hk
  have l3 : ∀ k, v3.ownBlock = some k → vw.ownBlock = some k ∨ w2.heap.size < k ∧ k < w3.heap.size := fun k hk => by
    rcases ho3 with h | ⟨g, hg, hgl⟩
    · exact .inl (h ▸ hk)
    · have e1 : g = k := by rw [hg] at hk; simpa using hk
      have e2 : w2.heap.size + 1 ≤ g := by simpa using hgl
      have := Qu.q_lt hq3 k hk
      exact .inr ⟨by omega, this⟩
  have far : ∀ k, k ≠ b → (w3.setCell ⟨b, 3, none⟩ v3).heap[k]? = w3.heap[k]? := fun k hk => Below.heap_setCell w3 ⟨b, 3, none⟩ v3 k hk
  have blk2 : ∀ k, k < w2.heap.size → k ≠ b → some k ≠ vw.ownBlock → (w3.setCell ⟨b, 3, none⟩ v3).heap[k]? = w2.heap[k]? := fun k hk h1 h2 =>
    (far k h1).trans ((hg3.block k (by simp; omega) h2).trans (Below.heap_alloc w2 o k hk))
  have blk : ∀ k, k < w.heap.size → k ≠ b → some k ≠ vw.ownBlock → (w3.setCell ⟨b, 3, none⟩ v3).heap[k]? = w.heap[k]? := fun k hk h1 h2 =>
    (blk2 k (by omega) h1 h2).trans (hbl2.block k hk)
  have nb : some b ≠ vw.ownBlock := fun h => (dw b h.symm).2.1 rfl
  have nq : some q ≠ vw.ownBlock := fun h => (dw q h.symm).2.2.1 rfl
  have h3b : w3.heap[b]? = some (.cells #[.pointer (some ⟨q, 0, none⟩), .int .i64 t.id, .int .i64 t.seq, vw, vr] 97 (0, 0)) :=
    (hg3.block b (by simp; omega) nb).trans ((Below.heap_alloc w2 o b (by omega)).trans ((hbl2.block b hlb).trans hb))
  refine ⟨(((Mem.Ch.of_below' hbl2).alloc o).grown hg3 (fun k hk => .inr (dw k hk).1)).set (.inr sb), v', q, v3, vr, Mem.set h3b, (blk q hlq hne nq).trans hq, .inl sb, .inl sq, hne, ?_, ?_, ?_, ?_, ?_⟩
  · rw [evs_snoc, List.length_append]
    refine Qu.q_move hq3 (fun k hk => far k ?_)
    rcases l3 k hk with h | h
    · exact (dw k h).2.1
    · omega
  · exact Qu.q_move hr (fun k hk => blk k (lr k hk) (dr k hk).2.1 (fun h => (dw k h.symm).2.2.2 hk))
  · intro k hk
    rcases l3 k hk with h | h
    · exact ⟨.inl (dw k h).1, (dw k h).2⟩
    · exact ⟨.inr ⟨by omega, by omega⟩, by omega, by omega, fun h' => by have := lr k h'; omega⟩
  · exact fun k hk => ⟨.inl (dr k hk).1, (dr k hk).2⟩
  · intro p hp
    have hp' : (p ∈ t.wait ∨ p ∈ t.refused) ∨ p = (e, v') := by
      rcases hp with hp | hp
      · rcases List.mem_append.1 hp with h | h
        · exact .inl (.inl h)
        · exact .inr (by simpa using h)
      · exact .inl (.inr hp)
    rcases hp' with hp | rfl
    · refine ((Mem.Rd.lt (hff p hp)).step (by omega) (fun k hk hl => blk k hk.2 hk.1.2.1 hk.1.2.2.2.1)).mono (fun k hk => ⟨.inl hk.1.1, hk.1.2.1, hk.1.2.2.1, fun h => ?_, hk.1.2.2.2.2⟩)
      rcases l3 k h.symm with h | h
      · exact hk.1.2.2.2.1 h.symm
      · have := hk.2; omega
    · refine ((Mem.Rd.lt hr2).step (by omega) (fun k hk hl => blk2 k hk.2 (by have := hk.1; omega) (fun h => by have := lw k h.symm; have := hk.1; omega))).mono (fun k hk => ?_)
      obtain ⟨hk1, hk2⟩ := hk
      refine ⟨.inr ⟨hk1, by omega⟩, by omega, by omega, fun h => ?_, fun h => by have := lr k h.symm; omega⟩
      rcases l3 k h.symm with h | h
      · have := lw k h; omega
      · omega
set_option maxRecDepth 100000 in
set_option maxHeartbeats 2000000 in
theorem Add_yes (S : Nat → Prop) (b : Nat) (t : Tl) (e : Evt) (vf : Value) (ok : Nat → Prop) (w : World) (h : TellerAt w S b t) (hS : ∀ k, S k → k < w.heap.size) (he : EvR w ok e vf) (hs : (e.num 1 1).small) (hc : (e.num 1 1).chk = 0) (hn : t.wait.length < 256) (hl : e.fields.length ≤ 100) :
    Calls Try.prog 11 #[.pointer (some ⟨b, 0, none⟩), .agg #[.int .i64 e.session, .int .i64 e.seq, .int .i64 e.stamp, .string e.kind, vf]] w fun r w' => r = .returned (.int .i64 0) ∧ Mem.Ch S w w' ∧
      ∃ v', TellerAt w' (fun k => S k ∨ (w.heap.size ≤ k ∧ k < w'.heap.size)) b { t with wait := t.wait ++ [(e.num 1 1, v')] } := by
  obtain ⟨A, cap, rfl⟩ := he.slice
  obtain ⟨q, vw, vr, hb, hq, sb, sq, hne, hw, hr, dw, dr, hff⟩ := h
  obtain ⟨Aw, cw, rfl, hcw⟩ := Qu.q_slice hw
  have HR := Lib.hid he
  have HS := Lib.hid hs
  have HC := Lib.hid hc
  have HB := Lib.hid hb
  have HT := Lib.hid (And.intro hq (And.intro hw (And.intro hr (And.intro dw (And.intro dr hff)))))
  have hlb := Mem.lt hb
  clear he hs hc hb hq hw hr dw dr hff
  have hn' : (t.wait.length : Int) < (256 : Int) := by omega
  go_enter Try.func11, Try.ntmps11
  go_wp2_with (go_at_call 41; refine (Check_box 0 e A _ cap ok w HR.out HS.out HC.out).mono ?_; rintro _ w1 ⟨rfl, hb1, hB1⟩; have b3 := Mem.cell ((hb1.block b (Mem.lt HB.out)).trans HB.out) (j := 3) rfl)
  have c0 := Mem.cell hB1 (j := 0) rfl
  have c1 := Mem.cell hB1 (j := 1) rfl
  have c2 := Mem.cell hB1 (j := 2) rfl
  have c3 := Mem.cell hB1 (j := 3) rfl
  have c4 := Mem.cell hB1 (j := 4) rfl
  clear hB1
  have HB1 := Lib.hid hb1
  clear hb1
  obtain ⟨i0, hi, hz0, hz1, hz2⟩ := info_parts info_evt
  go_region_law (first
    | (refine step_goes rfl rfl Try.func42 (by kernel_rfl) rfl #[.agg #[.int .i64 1, .int .i64 1, .int .i64 e.stamp, .string e.kind, .slice A e.fields.length cap]] (by simp [Act.eval]) ?_
       refine (copied_any (e.num 1 1) _ ok _ ((HR.out.below HB1.out).below (Below.refl _ _).drew) hl).mono ?_
       rintro _ w2 ⟨v', rfl, hr2, hb2⟩
       have hw2 : ∀ k, k < w.heap.size → w2.heap[k]? = w.heap[k]? := fun k hk => (hb2.block k (Nat.lt_of_lt_of_le hk HB1.out.size)).trans (HB1.out.block k hk)
       have hs2 : w.heap.size ≤ w2.heap.size := Nat.le_trans HB1.out.size hb2.size
       have hbl2 : Below w.heap.size w w2 := HB1.out.trans ⟨hb2.os, hb2.tape, hb2.output, hb2.size, fun k hk => hb2.block k (Nat.lt_of_lt_of_le hk HB1.out.size)⟩
       have b2 := (hw2 b hlb).trans HB.out
       have b32 := Mem.cell b2 (j := 3) rfl
       have b3a := fun o => Mem.cell (Mem.old b2 o) (j := 3) rfl
       refine ⟨_, rfl, ?_⟩)
    | (refine step_q_append rfl (.tmp 26) (.tmp 29) 77 rfl 0 31 i0 _ 5 64 Try.underlying77 hi hz0 hz1 hz2 rfl (by decide) _ t.wait.length (evs t.wait) (by rfl) (Qu.q_move HT.out.2.1 (fun k hk => (Below.heap_alloc w2 _ k (Nat.lt_of_lt_of_le (Qu.q_lt HT.out.2.1 k hk) hs2)).trans (hw2 k (Qu.q_lt HT.out.2.1 k hk)))) ⟨w2.heap.size, 0, none⟩ 1 1 (evC (e.num 1 1) v') (by rfl) rfl (World.news_of_block (Mem.new w2 _)) (by intro u hu; simp only [evC, List.mem_cons, List.not_mem_nil, or_false] at hu; rcases hu with rfl | rfl | rfl | rfl | rfl <;> first | rfl | (obtain ⟨A2, cap2, rfl⟩ := hr2.slice; rfl)) (by decide) (by unfold maxLen; omega) (by omega) (Nat.zero_le _) ?_
       intro v3 w3 hq3 hg3 ho3
       obtain ⟨A3, cap3, rfl, hle3⟩ := Qu.q_slice hq3
       have h3b : w3.heap[b]? = _ := (hg3.block b (by simp; omega) (fun h => (HT.out.2.2.2.1 b h.symm).2.1 rfl)).trans (Mem.old b2 _)
       have b33 := Mem.cell h3b (j := 3) rfl
       have f33 := Mem.free (j := 3) h3b))
  all_goals
    go_wp2_with fail
    go_ret
    obtain ⟨hq, hw, hr, dw, dr, hff⟩ := HT.out
    refine ⟨rfl, TellerAt.added _ sb sq hne hS HB.out hq hw hr dw dr hff hbl2 (hr2.mono (fun k hk => Nat.le_trans HB1.out.size hk)) hg3 hq3 ho3⟩
end Go.Proofs.Ytbiicflcjipeeaa
