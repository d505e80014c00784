/- slices.Clone of fields; an event of one's own. · Teller.Add. -/
import Derived.Test.YtiomhmdkaglelaaG6
import Derived.Deep.RegionLaw
import Derived.Deep.AppendLies
namespace Go.Proofs.Ytiomhmdkaglelaa
open Go.RowKit
set_option linter.unusedSimpArgs false
set_option linter.unusedVariables false
open Sp (fold intB textS bs)
attribute [local go_sem] Mem.run_store_float Mem.After.cell
namespace Mem
theorem flat_length (sz : Nat) : ∀ rows : List (List Value), (∀ r ∈ rows, r.length = sz) → rows.flatten.length = rows.length * sz
  | [], _ => by simp
  | r :: rows, h => by
    rw [List.flatten_cons, List.length_append, h r List.mem_cons_self, flat_length sz rows (fun x hx => h x (List.mem_cons_of_mem _ hx)), List.length_cons, Nat.add_mul, Nat.one_mul, Nat.add_comm]
theorem flat_get (sz : Nat) : ∀ (rows : List (List Value)) (k i : Nat) (r : List Value) (c : Value), (∀ r ∈ rows, r.length = sz) → rows[k]? = some r → r[i]? = some c → rows.flatten[k * sz + i]? = some c
  | [], k, i, r, c, _, h1, _ => by simp at h1
  | r0 :: rows, 0, i, r, c, h, h1, h2 => by
    have e : r0 = r := by simpa using h1
    subst e
    have hi := (List.getElem?_eq_some_iff.1 h2).1
    rw [List.flatten_cons, Nat.zero_mul, Nat.zero_add, List.getElem?_append_left hi]
    exact h2
  | r0 :: rows, k + 1, i, r, c, h, h1, h2 => by
    have h0 := h r0 List.mem_cons_self
    rw [List.flatten_cons, List.getElem?_append_right (by rw [h0, Nat.add_mul]; omega), h0, show (k + 1) * sz + i - sz = k * sz + i by rw [Nat.add_mul]; omega]
    exact flat_get sz rows k i r c (fun x hx => h x (List.mem_cons_of_mem _ hx)) (by simpa using h1) h2
theorem flat_at (sz : Nat) (hsz : 0 < sz) : ∀ (rows : List (List Value)) (j : Nat) (c : Value), (∀ r ∈ rows, r.length = sz) → rows.flatten[j]? = some c → ∃ r, rows[j / sz]? = some r ∧ r[j % sz]? = some c
  | [], j, c, _, h => by simp at h
  | r0 :: rows, j, c, h, h1 => by
    have h0 := h r0 List.mem_cons_self
    rw [List.flatten_cons] at h1
    by_cases hj : j < sz
    · rw [List.getElem?_append_left (by omega)] at h1
      rw [Nat.div_eq_of_lt hj, Nat.mod_eq_of_lt hj]
      exact ⟨r0, rfl, h1⟩
    · rw [List.getElem?_append_right (by omega), h0] at h1
      obtain ⟨r, a, b⟩ := flat_at sz hsz rows (j - sz) c (fun x hx => h x (List.mem_cons_of_mem _ hx)) h1
      have e : j = (j - sz) + sz := by omega
      refine ⟨r, ?_, ?_⟩
      · rw [e, Nat.add_div_right _ hsz]; simpa using a
      · rw [e, Nat.add_mod_right]; exact b
/-- What the call owns is read. -/
theorem Rd.of_owns {w : World} {base e sz n : Nat} {v : Value} {rows : List (List Value)} (h : w.ownsRow base e sz v n rows.flatten) (hn : n = rows.length) (hr : ∀ r ∈ rows, r.length = sz) : Rd w (fun k => base ≤ k) sz v rows := by
  subst hn
  obtain ⟨h1, h2⟩ := h
  rcases h2 with ⟨rfl, h0⟩ | ⟨g, cap, cur, rfl, hg, hb, hc, hm, hs, ht⟩
  · obtain rfl : rows = [] := List.length_eq_zero_iff.1 h0
    exact Rd.nil _ _ _
  · refine ⟨some ⟨g, 0, none⟩, cap, rfl, hc, hm, fun _ => ⟨g, 0, rfl, hg, lt hb⟩, fun g' o' ea k i r c hk hi => ?_⟩
    cases ea
    have hlen := hr r (List.mem_of_getElem? hk)
    have hi' := (List.getElem?_eq_some_iff.1 hi).1
    refine ⟨by omega, ?_⟩
    have hf := flat_get sz rows k i r c hr hk hi
    rw [Nat.zero_add]
    refine cell hb ?_
    rw [← Array.getElem?_toList]
    rw [← ht, List.getElem?_take] at hf
    split at hf
    · exact hf
    · cases hf
end Mem
theorem fld_rows (l : List Fld) : ∀ r ∈ l.map Fld.cells, r.length = 5 := by
  intro r hr
  obtain ⟨f, _, rfl⟩ := List.mem_map.1 hr
  rfl
theorem info_fld : (Try.prog.info? 111).map (fun i => (i.zero, i.size, i.bytes)) = some (some (.agg #[.string ⟨#[]⟩, .int .i64 0, .int .i64 0, .float .f64 0, .string ⟨#[]⟩]), 5, 56) := by kernel_rfl
set_option maxRecDepth 100000 in
set_option maxHeartbeats 2000000 in
theorem Clone_any (l : List Fld) (v : Value) (ok : Nat → Prop) (w : World) (h : Mem.Rd w ok 5 v (l.map Fld.cells)) (hl : l.length ≤ 100) :
    Calls Try.prog 48 #[v] w fun r w' => ∃ v', r = .returned v' ∧ Mem.Rd w' (fun k => w.heap.size ≤ k) 5 v' (l.map Fld.cells) ∧ Below w.heap.size w w' := by
  obtain ⟨A, cap, rfl⟩ := h.slice
  rw [List.length_map]
  have HR := Lib.hid h
  clear h
  cases A with
  | none =>
    have he : l = [] := by
      obtain ⟨A', cap', e, _, _, h3, _⟩ := HR.out
      cases e
      by_cases hc : l.map Fld.cells = []
      · simpa using hc
      · obtain ⟨g, o, e, _⟩ := h3 hc
        cases e
    subst he
    have hnil := fun (w : World) (A : Option Addr) (n c n' c' : Nat) => Lib.run_eql_slice_nil (P := Try.prog) w 34 111 A n c n' c' Try.underlying34
    go_enter Try.func48, Try.ntmps48
    go_wp2_with fail
    go_ret
    exact ⟨_, rfl, Mem.Rd.nil _ _ _, Below.refl _ _⟩
  | some ad =>
    have hnil := fun (w : World) (A : Option Addr) (n c n' c' : Nat) => Lib.run_eql_slice_nil (P := Try.prog) w 34 111 A n c n' c' Try.underlying34
    obtain ⟨i0, hi, hz0, hz1, hz2⟩ := info_parts info_fld
    have hn : (l.map Fld.cells).flatten.length = l.length * 5 := by rw [Mem.flat_length 5 _ (fld_rows l), List.length_map]
    have hone : ∀ u ∈ (l.map Fld.cells).flatten, u.oneCell' = true := by
      intro u hu
      obtain ⟨r, hr, hu⟩ := List.mem_flatten.1 hu
      obtain ⟨f, _, rfl⟩ := List.mem_map.1 hr
      simp only [Fld.cells, List.mem_cons, List.not_mem_nil, or_false] at hu
      rcases hu with rfl | rfl | rfl | rfl | rfl <;> rfl
    have hcells : ∀ (o : Obj) j u, (l.map Fld.cells).flatten[j]? = some u → (w.alloc o).cell? (ad.add j) = some u := by
      intro o j u hj
      obtain ⟨r, hr, hc⟩ := Mem.flat_at 5 (by decide) _ j u (fld_rows l) hj
      obtain ⟨g, o', e, _, hg, hrow⟩ := (HR.out.below ((Below.refl _ _).alloc (Nat.le_refl _) o)).row hr
      cases e
      have e1 : (⟨g, o', none⟩ : Addr).add j = ⟨g, o' + (j / 5) * 5 + j % 5, none⟩ := by
        have := Nat.div_add_mod j 5
        unfold Addr.add
        split
        · rename_i h0; subst h0; rfl
        · simp; omega
      rw [e1]
      exact hrow _ _ hc
    have HN := Lib.hid hn
    have HO := Lib.hid hone
    have HC := Lib.hid hcells
    have hown : (w.alloc (.cells #[] 111)).ownsRow w.heap.size 111 5 (.slice (some ⟨w.heap.size, 0, none⟩) 0 0) 0 [] := ⟨rfl, .inr ⟨w.heap.size, 0, #[], rfl, Nat.le_refl _, Mem.new _ _, Nat.le_refl _, by decide, rfl, rfl⟩⟩
    clear hn hone hcells
    go_enter Try.func48, Try.ntmps48
    go_wp2_with (at_builtin; refine wpList_append_own_at _ rfl (.tmp 5) (.tmp 6) 34 rfl w.heap.size 111 i0 (.agg #[.string ⟨#[]⟩, .int .i64 0, .int .i64 0, .float .f64 0, .string ⟨#[]⟩]) 5 56 Try.underlying34 hi hz0 hz1 hz2 rfl (by decide) _ _ _ rfl hown ad _ _ (l.map Fld.cells).flatten rfl HN.out (HC.out _) HO.out (by unfold maxLen; omega) (by omega) (by simp) ?_; intro v' w1 hown1 hg1 _ _)
    go_ret
    have hbl : Below w.heap.size w w1 := Below.grown ((Below.refl _ _).alloc (Nat.le_refl _) _) hg1 (by simp) (fun k hk => by
      have hk' : (Value.slice (some ⟨w.heap.size, 0, none⟩) 0 0).ownBlock = some k := hk
      have : w.heap.size = k := by simpa [Value.ownBlock] using hk'
      omega)
    exact ⟨_, rfl, Mem.Rd.of_owns hown1 (by simp) (fld_rows l), hbl⟩
set_option maxRecDepth 100000 in
set_option maxHeartbeats 2000000 in
theorem copied_any (e : Evt) (vf : Value) (ok : Nat → Prop) (w : World) (h : EvR w ok e vf) (hl : e.fields.length ≤ 100) :
    Calls Try.prog 40 #[.agg #[.int .i64 e.session, .int .i64 e.seq, .int .i64 e.stamp, .string e.kind, vf]] w
      fun r w' => ∃ v', r = .returned (.agg #[.int .i64 e.session, .int .i64 e.seq, .int .i64 e.stamp, .string e.kind, v']) ∧ EvR w' (fun k => w.heap.size ≤ k) e v' ∧ Below w.heap.size w w' := by
  obtain ⟨A, cap, rfl⟩ := h.slice
  have HR := Lib.hid h
  clear h
  go_enter Try.func40, Try.ntmps40
  go_wp2_with fail
  have hb0 : ∀ a b, Below w.heap.size w ((w.alloc a).alloc b) := fun a b => ((Below.refl _ _).alloc (Nat.le_refl _) _).alloc (by simp) _
  refine (Clone_any e.fields _ ok _ (HR.out.below (hb0 _ _)) hl).mono ?_
  rintro _ w1 ⟨v', rfl, hr1, hb1⟩
  have e0 := Mem.new w (Obj.cells #[Value.int IntKind.i64 e.session, Value.int IntKind.i64 e.seq, Value.int IntKind.i64 e.stamp, Value.string e.kind, Value.slice A e.fields.length cap] 36)
  have e1 := Mem.new (w.alloc (Obj.cells #[Value.int IntKind.i64 e.session, Value.int IntKind.i64 e.seq, Value.int IntKind.i64 e.stamp, Value.string e.kind, Value.slice A e.fields.length cap] 36)) (Obj.cells #[Value.int IntKind.i64 0, Value.int IntKind.i64 0, Value.int IntKind.i64 0, Value.string ⟨#[]⟩, Value.slice none 0 0] 36)
  rw [show (w.alloc (Obj.cells #[Value.int IntKind.i64 e.session, Value.int IntKind.i64 e.seq, Value.int IntKind.i64 e.stamp, Value.string e.kind, Value.slice A e.fields.length cap] 36)).heap.size = w.heap.size + 1 by simp] at e1
  have hB1 := (hb1.block w.heap.size (by simp; omega)).trans (Mem.old e0 _)
  have hB2 := (hb1.block (w.heap.size + 1) (by simp)).trans e1
  have hl1 : w.heap.size < w1.heap.size := Mem.lt hB1
  clear e0 e1
  have c0 := Mem.cell hB1 (j := 0) rfl
  have c1 := Mem.cell hB1 (j := 1) rfl
  have c2 := Mem.cell hB1 (j := 2) rfl
  have c3 := Mem.cell hB1 (j := 3) rfl
  have c4 := Mem.cell hB1 (j := 4) rfl
  have f4 := Mem.free (j := 4) hB1
  have d0 := Mem.cell hB2 (j := 0) rfl
  have d1 := Mem.cell hB2 (j := 1) rfl
  have d2 := Mem.cell hB2 (j := 2) rfl
  have d3 := Mem.cell hB2 (j := 3) rfl
  have d4 := Mem.cell hB2 (j := 4) rfl
  have g0 := Mem.free (j := 0) hB2
  have g1 := Mem.free (j := 1) hB2
  have g2 := Mem.free (j := 2) hB2
  have g3 := Mem.free (j := 3) hB2
  have g4 := Mem.free (j := 4) hB2
  have HX := Lib.hid (And.intro hB1 hB2)
  have HR1 := Lib.hid hr1
  have HB1 := Lib.hid hb1
  obtain ⟨A1, cap1, rfl⟩ := hr1.slice
  clear hB1 hB2 hr1 hb1 hb0
  go_wp2_with fail
  have hb1 := HB1.out
  have hbel1 : Below w.heap.size w w1 := (((Below.refl _ _).alloc (Nat.le_refl _) _).alloc (by simp) _).trans (hb1.mono (by simp; omega))
  have hsz : w.heap.size + 2 ≤ w1.heap.size := by have := hb1.size; simpa using this
  refine bodyPost_ret (v := .agg #[.int .i64 e.session, .int .i64 e.seq, .int .i64 e.stamp, .string e.kind, .slice A1 (e.fields.map Fld.cells).length cap1]) (by simp [results, Try.results40, go_sem, *]) rfl ⟨_, rfl, ?_, ?_⟩
  · refine (Mem.Rd.ch HR1.out (S := fun k => k = w.heap.size ∨ k = w.heap.size + 1) ?_ (fun k hk h => by simp at hk; omega)).mono (fun k hk => by simp at hk; omega)
    with_reducible repeat (first | exact Mem.Ch.refl _ _ | refine Mem.Ch.set ?_ (.inr (.inl rfl)) | refine Mem.Ch.set ?_ (.inr (.inr rfl)))
  · with_reducible repeat (first | exact hbel1 | refine Below.setCell ?_ (by simp) _)
end Go.Proofs.Ytiomhmdkaglelaa
namespace Go.Proofs.Ytiomhmdkaglelaa
open Go.RowKit
set_option linter.unusedSimpArgs false
set_option linter.unusedVariables false
open Sp (fold intB textS bs)
attribute [local go_sem] Mem.run_store_float Mem.After.cell
namespace Mem
theorem Rd.lt {w : World} {ok : Nat → Prop} {sz : Nat} {v : Value} {rows : List (List Value)} (h : Rd w ok sz v rows) : Rd w (fun k => ok k ∧ k < w.heap.size) sz v rows := by
  obtain ⟨A, cap, e, h1, h2, h3, h4⟩ := h
  exact ⟨A, cap, e, h1, h2, fun hr => by obtain ⟨g, o, ea, hg, hl⟩ := h3 hr; exact ⟨g, o, ea, ⟨hg, hl⟩, hl⟩, h4⟩
end Mem
/-- append to a row that may begin inside its block, as one step of a region that draws. -/
theorem step_q_append {P : Program} {ops : Array Oper} {o : Oper} {a : Act} {w : World} {K : Act → World → Prop} {Q : Exit → Act → World → Prop} {E : Prop} (hgd : o.guard = none) (s x : Operand) (t : TypeId)
    (ho : o.op = .call { callee := .builtin .append, args := #[s, x], argTypes := #[t, t] })
    (base : Nat) (e : TypeId) (i : TypeInfo) (z : Value) (size bytes : Nat) (ht : P.underlying t = some (.slice e)) (hi : P.info? e = some i) (hz : i.zero = some z)
    (hsize : i.size = size) (hby : i.bytes = bytes) (hzs : z.cells.size = size) (hsz : 0 < size)
    (v : Value) (n : Nat) (xs : List Value) (hs : a.eval s = v) (hown : Qu.QRow w base e size v n xs)
    (ad : Addr) (m c : Nat) (news : List Value) (hx : a.eval x = .slice (some ad) m c) (hl : news.length = m * size) (hnews : ∀ j u, news[j]? = some u → w.cell? (ad.add j) = some u) (h1 : ∀ u ∈ news, u.oneCell' = true)
    (hm : 0 < m) (h63 : n + m ≤ maxLen) (hbytes : (n + m) * bytes ≤ 140737488355328) (hbase : base ≤ w.heap.size)
    (h : ∀ v' w', Qu.QRow w' base e size v' (n + m) (xs ++ news) → w.grownBy w' v.ownBlock → (v'.ownBlock = v.ownBlock ∨ ∃ b, v'.ownBlock = some b ∧ w.heap.size ≤ b) → K (a.put o.dst v') w') :
    if Region.wanted o (yielded ops a.tmps) = true then Oper.wp P o a w K Q else E := by
  have hw : Region.wanted o (yielded ops a.tmps) = true := by simp [Region.wanted, hgd]
  rw [if_pos hw]
  obtain ⟨v', w', hr, h2, h3, h4⟩ := Qu.q_append (P := P) w base t o.type e i z size bytes ht hi hz hsize hby hzs hsz v n xs hown ad m c news hl hnews h1 hm h63 hbytes hbase
  unfold Oper.wp
  simp [execOp, ho, resolve, invoke, builtin, hs, hx, hr, Result.andThen]
  exact h v' w' h2 h3 h4
/-- A call of a Go function, by its contract, as one step of a region that draws. -/
theorem step_goes {P : Program} {ops : Array Oper} {o : Oper} {a : Act} {w : World} {K : Act → World → Prop} {Q : Exit → Act → World → Prop} {E : Prop} (hgd : o.guard = none) {f : FuncId} {fn : Func} {ps : Array Operand} {ts : Array TypeId}
    (hop : o.op = .call { callee := .value (.func f), args := ps, argTypes := ts }) (hf : P.funcs[f]? = some fn) (hname : (fn.name == "runtime.NumGoroutine") = false) (hbd : fn.body.isSome = true) (args : Array Value) (hargs : ps.map a.eval = args)
    (h : Calls P f args w fun e w' => ∃ v, e = .returned v ∧ K (a.put o.dst v) w') : if Region.wanted o (yielded ops a.tmps) = true then Oper.wp P o a w K Q else E := by
  have hw : Region.wanted o (yielded ops a.tmps) = true := by simp [Region.wanted, hgd]
  rw [if_pos hw]
  have h1 : fn.name ≠ "runtime.NumGoroutine" := by simpa using hname
  obtain ⟨c, hc⟩ := Option.isSome_iff_exists.1 hbd
  have he : (callFunc f args).run P w = .ok (.enter f args) w := by simp [callFunc, hf, h1, hc]
  have hrun : (execOp a.eval o).run P w = .ok (.enter f args) w := by
    unfold execOp
    simp [hop, resolve, Deferred.ofValue, invoke, Act.eval, hargs, he]
  unfold Oper.wp
  rw [hrun, Oper.upon_enter]
  refine h.mono fun e w'' hh => ?_
  obtain ⟨v, rfl, hk⟩ := hh
  exact hk
theorem info_evt : (Try.prog.info? 36).map (fun i => (i.zero, i.size, i.bytes)) = some (some (.agg #[.int .i64 0, .int .i64 0, .int .i64 0, .string ⟨#[]⟩, .slice none 0 0]), 5, 64) := by kernel_rfl
/-- The event with its numbers set. -/
def Evt.num (e : Evt) (s q : Int) : Evt := { e with session := s, seq := q }
theorem Check_box (c : Int) (e : Evt) (A : Option Addr) (n cap : Nat) (ok : Nat → Prop) (w : World) (hr : EvR w ok e (.slice A n cap)) (hs : (e.num 1 1).small) (hc : (e.num 1 1).chk = c) :
    Calls Try.prog 39 #[.agg #[.int .i64 1, .int .i64 1, .int .i64 e.stamp, .string e.kind, .slice A n cap]] (w.alloc (Obj.cells #[Value.int IntKind.i64 1, Value.int IntKind.i64 1, Value.int IntKind.i64 e.stamp, Value.string e.kind, .slice A n cap] 36))
      fun r w' => r = .returned (.int .i64 c) ∧ Below w.heap.size w w' ∧ w'.heap[w.heap.size]? = some (Obj.cells #[Value.int IntKind.i64 1, Value.int IntKind.i64 1, Value.int IntKind.i64 e.stamp, Value.string e.kind, .slice A n cap] 36) := by
  have hb0 : Below w.heap.size w (w.alloc (Obj.cells #[Value.int IntKind.i64 1, Value.int IntKind.i64 1, Value.int IntKind.i64 e.stamp, Value.string e.kind, .slice A n cap] 36)) := (Below.refl _ _).alloc (Nat.le_refl _) _
  refine (Check_any (e.num 1 1) _ ok _ hs (hr.below hb0)).mono ?_
  rintro _ w' ⟨rfl, hb⟩
  exact ⟨by rw [hc], hb0.trans (hb.mono (by simp)), (hb.block _ (by simp)).trans (Mem.new _ _)⟩
set_option maxRecDepth 100000 in
set_option maxHeartbeats 2000000 in
theorem Add_arg (b : Nat) (e : Evt) (vf : Value) (ok : Nat → Prop) (w : World) (he : EvR w ok e vf) (hs : (e.num 1 1).small) (hc : (e.num 1 1).chk = 1) :
    Calls Try.prog 21 #[.pointer (some ⟨b, 0, none⟩), .agg #[.int .i64 e.session, .int .i64 e.seq, .int .i64 e.stamp, .string e.kind, vf]] w fun r w' => r = .returned (.int .i64 1) ∧ Below w.heap.size w w' := by
  obtain ⟨A, cap, rfl⟩ := he.slice
  have HR := Lib.hid he
  have HS := Lib.hid hs
  have HC := Lib.hid hc
  clear he hs hc
  go_enter Try.func21, Try.ntmps21
  go_wp2_with (go_at_call 39; refine (Check_box 1 e A _ cap ok w HR.out HS.out HC.out).mono ?_; rintro _ w1 ⟨rfl, hb1, hB1⟩)
  go_ret
  exact ⟨rfl, hb1⟩
set_option maxRecDepth 100000 in
set_option maxHeartbeats 2000000 in
theorem Add_full (S : Nat → Prop) (b : Nat) (t : Tl) (e : Evt) (vf : Value) (ok : Nat → Prop) (w : World) (h : TellerAt w S b t) (he : EvR w ok e vf) (hs : (e.num 1 1).small) (hc : (e.num 1 1).chk = 0) (hn : 256 ≤ t.wait.length) :
    Calls Try.prog 21 #[.pointer (some ⟨b, 0, none⟩), .agg #[.int .i64 e.session, .int .i64 e.seq, .int .i64 e.stamp, .string e.kind, vf]] w fun r w' => r = .returned (.int .i64 7) ∧ Below w.heap.size w w' := by
  obtain ⟨A, cap, rfl⟩ := he.slice
  obtain ⟨q, vw, vr, hb, hq, sb, sq, hne, hw, hr, dw, dr, hff⟩ := h
  obtain ⟨Aw, cw, rfl, hcw⟩ := Qu.q_slice hw
  have HR := Lib.hid he
  have HS := Lib.hid hs
  have HC := Lib.hid hc
  have HB := Lib.hid hb
  clear he hs hc hb hq hw hr dw dr hff
  have hn' : (256 : Int) ≤ (t.wait.length : Int) := by omega
  go_enter Try.func21, Try.ntmps21
  go_wp2_with (go_at_call 39; refine (Check_box 0 e A _ cap ok w HR.out HS.out HC.out).mono ?_; rintro _ w1 ⟨rfl, hb1, hB1⟩; have b3 := Mem.cell ((hb1.block b (Mem.lt HB.out)).trans HB.out) (j := 3) rfl)
  go_ret
  exact ⟨rfl, hb1⟩
theorem evs_snoc (l : List (Evt × Value)) (e : Evt) (v : Value) : evs (l ++ [(e, v)]) = evs l ++ evC e v := by simp [evs]
/-- An event was appended to what waits. -/
theorem TellerAt.added {w w2 w3 : World} {S : Nat → Prop} {b q : Nat} {vw vr v3 v' : Value} {t : Tl} {e : Evt} (o : Obj) (sb : S b) (sq : S q) (hne : q ≠ b) (hS : ∀ k, S k → k < w.heap.size)
    (hb : w.heap[b]? = some (.cells #[.pointer (some ⟨q, 0, none⟩), .int .i64 t.id, .int .i64 t.seq, vw, vr] 95 (0, 0)))
    (hq : w.heap[q]? = some (.cells #[.int .i64 t.nodes, .int .i64 t.to] 64 (0, 0)))
    (hw : Qu.QRow w 0 36 5 vw t.wait.length (evs t.wait)) (hr : Qu.QRow w 0 36 5 vr t.refused.length (evs t.refused))
    (dw : ∀ k, vw.ownBlock = some k → S k ∧ k ≠ b ∧ k ≠ q ∧ vr.ownBlock ≠ some k) (dr : ∀ k, vr.ownBlock = some k → S k ∧ k ≠ b ∧ k ≠ q)
    (hff : ∀ p, p ∈ t.wait ∨ p ∈ t.refused → EvR w (fun k => S k ∧ k ≠ b ∧ k ≠ q ∧ some k ≠ vw.ownBlock ∧ some k ≠ vr.ownBlock) p.1 p.2)
    (hbl2 : Below w.heap.size w w2) (hr2 : EvR w2 (fun k => w.heap.size ≤ k) e v') (hg3 : (w2.alloc o).grownBy w3 vw.ownBlock)
    (hq3 : Qu.QRow w3 0 36 5 v3 (t.wait.length + 1) (evs t.wait ++ evC e v')) (ho3 : v3.ownBlock = vw.ownBlock ∨ ∃ b, v3.ownBlock = some b ∧ (w2.alloc o).heap.size ≤ b) :
    Mem.Ch S w (w3.setCell ⟨b, 3, none⟩ v3) ∧ ∃ v', TellerAt (w3.setCell ⟨b, 3, none⟩ v3) (fun k => S k ∨ (w.heap.size ≤ k ∧ k < (w3.setCell ⟨b, 3, none⟩ v3).heap.size)) b { t with wait := t.wait ++ [(e, v')] } := by
  have hlb := Mem.lt hb
  have hlq := Mem.lt hq
  have s2 := hbl2.size
  have s3 : w2.heap.size + 1 ≤ w3.heap.size := by have := hg3.size; simpa using this
  have sW : (w3.setCell ⟨b, 3, none⟩ v3).heap.size = w3.heap.size := by simp [World.setCell]
  have lw : ∀ k, vw.ownBlock = some k → k < w.heap.size := fun k hk => Qu.q_lt hw k hk
  have lr : ∀ k, vr.ownBlock = some k → k < w.heap.size := fun k hk => Qu.q_lt hr k hk
  have l3 : ∀ k, v3.ownBlock = some k → vw.ownBlock = some k ∨ w2.heap.size < k ∧ k < w3.heap.size := fun k hk => by
    rcases ho3 with h | ⟨g, hg, hgl⟩
    · exact .inl (h ▸ hk)
    · have e1 : g = k := by rw [hg] at hk; simpa using hk
      have e2 : w2.heap.size + 1 ≤ g := by simpa using hgl
      have := Qu.q_lt hq3 k hk
      exact .inr ⟨by omega, this⟩
  have far : ∀ k, k ≠ b → (w3.setCell ⟨b, 3, none⟩ v3).heap[k]? = w3.heap[k]? := fun k hk => Below.heap_setCell w3 ⟨b, 3, none⟩ v3 k hk
  have blk2 : ∀ k, k < w2.heap.size → k ≠ b → some k ≠ vw.ownBlock → (w3.setCell ⟨b, 3, none⟩ v3).heap[k]? = w2.heap[k]? := fun k hk h1 h2 =>
    (far k h1).trans ((hg3.block k (by simp; omega) h2).trans (Below.heap_alloc w2 o k hk))
  have blk : ∀ k, k < w.heap.size → k ≠ b → some k ≠ vw.ownBlock → (w3.setCell ⟨b, 3, none⟩ v3).heap[k]? = w.heap[k]? := fun k hk h1 h2 =>
    (blk2 k (by omega) h1 h2).trans (hbl2.block k hk)
  have nb : some b ≠ vw.ownBlock := fun h => (dw b h.symm).2.1 rfl
  have nq : some q ≠ vw.ownBlock := fun h => (dw q h.symm).2.2.1 rfl
  have h3b : w3.heap[b]? = some (.cells #[.pointer (some ⟨q, 0, none⟩), .int .i64 t.id, .int .i64 t.seq, vw, vr] 95 (0, 0)) :=
    (hg3.block b (by simp; omega) nb).trans ((Below.heap_alloc w2 o b (by omega)).trans ((hbl2.block b hlb).trans hb))
  refine ⟨(((Mem.Ch.of_below' hbl2).alloc o).grown hg3 (fun k hk => .inr (dw k hk).1)).set (.inr sb), v', q, v3, vr, Mem.set h3b, (blk q hlq hne nq).trans hq, .inl sb, .inl sq, hne, ?_, ?_, ?_, ?_, ?_⟩
  · rw [evs_snoc, List.length_append]
    refine Qu.q_move hq3 (fun k hk => far k ?_)
    rcases l3 k hk with h | h
    · exact (dw k h).2.1
    · omega
  · exact Qu.q_move hr (fun k hk => blk k (lr k hk) (dr k hk).2.1 (fun h => (dw k h.symm).2.2.2 hk))
  · intro k hk
    rcases l3 k hk with h | h
    · exact ⟨.inl (dw k h).1, (dw k h).2⟩
    · exact ⟨.inr ⟨by omega, by omega⟩, by omega, by omega, fun h' => by have := lr k h'; omega⟩
  · exact fun k hk => ⟨.inl (dr k hk).1, (dr k hk).2⟩
  · intro p hp
    have hp' : (p ∈ t.wait ∨ p ∈ t.refused) ∨ p = (e, v') := by
      rcases hp with hp | hp
      · rcases List.mem_append.1 hp with h | h
        · exact .inl (.inl h)
        · exact .inr (by simpa using h)
      · exact .inl (.inr hp)
    rcases hp' with hp | rfl
    · refine ((Mem.Rd.lt (hff p hp)).step (by omega) (fun k hk hl => blk k hk.2 hk.1.2.1 hk.1.2.2.2.1)).mono (fun k hk => ⟨.inl hk.1.1, hk.1.2.1, hk.1.2.2.1, fun h => ?_, hk.1.2.2.2.2⟩)
      rcases l3 k h.symm with h | h
      · exact hk.1.2.2.2.1 h.symm
      · have := hk.2; omega
    · refine ((Mem.Rd.lt hr2).step (by omega) (fun k hk hl => blk2 k hk.2 (by have := hk.1; omega) (fun h => by have := lw k h.symm; have := hk.1; omega))).mono (fun k hk => ?_)
      obtain ⟨hk1, hk2⟩ := hk
      refine ⟨.inr ⟨hk1, by omega⟩, by omega, by omega, fun h => ?_, fun h => by have := lr k h.symm; omega⟩
      rcases l3 k h.symm with h | h
      · have := lw k h; omega
      · omega
set_option maxRecDepth 100000 in
set_option maxHeartbeats 2000000 in
theorem Add_yes (S : Nat → Prop) (b : Nat) (t : Tl) (e : Evt) (vf : Value) (ok : Nat → Prop) (w : World) (h : TellerAt w S b t) (hS : ∀ k, S k → k < w.heap.size) (he : EvR w ok e vf) (hs : (e.num 1 1).small) (hc : (e.num 1 1).chk = 0) (hn : t.wait.length < 256) (hl : e.fields.length ≤ 100) :
    Calls Try.prog 21 #[.pointer (some ⟨b, 0, none⟩), .agg #[.int .i64 e.session, .int .i64 e.seq, .int .i64 e.stamp, .string e.kind, vf]] w fun r w' => r = .returned (.int .i64 0) ∧ Mem.Ch S w w' ∧
      ∃ v', TellerAt w' (fun k => S k ∨ (w.heap.size ≤ k ∧ k < w'.heap.size)) b { t with wait := t.wait ++ [(e.num 1 1, v')] } := by
  obtain ⟨A, cap, rfl⟩ := he.slice
  obtain ⟨q, vw, vr, hb, hq, sb, sq, hne, hw, hr, dw, dr, hff⟩ := h
  obtain ⟨Aw, cw, rfl, hcw⟩ := Qu.q_slice hw
  have HR := Lib.hid he
  have HS := Lib.hid hs
  have HC := Lib.hid hc
  have HB := Lib.hid hb
  have HT := Lib.hid (And.intro hq (And.intro hw (And.intro hr (And.intro dw (And.intro dr hff)))))
  have hlb := Mem.lt hb
  clear he hs hc hb hq hw hr dw dr hff
  have hn' : (t.wait.length : Int) < (256 : Int) := by omega
  go_enter Try.func21, Try.ntmps21
  go_wp2_with (go_at_call 39; refine (Check_box 0 e A _ cap ok w HR.out HS.out HC.out).mono ?_; rintro _ w1 ⟨rfl, hb1, hB1⟩; have b3 := Mem.cell ((hb1.block b (Mem.lt HB.out)).trans HB.out) (j := 3) rfl)
  have c0 := Mem.cell hB1 (j := 0) rfl
  have c1 := Mem.cell hB1 (j := 1) rfl
  have c2 := Mem.cell hB1 (j := 2) rfl
  have c3 := Mem.cell hB1 (j := 3) rfl
  have c4 := Mem.cell hB1 (j := 4) rfl
  clear hB1
  have HB1 := Lib.hid hb1
  clear hb1
  obtain ⟨i0, hi, hz0, hz1, hz2⟩ := info_parts info_evt
  go_region_law (first
    | (refine step_goes rfl rfl Try.func40 (by kernel_rfl) rfl #[.agg #[.int .i64 1, .int .i64 1, .int .i64 e.stamp, .string e.kind, .slice A e.fields.length cap]] (by simp [Act.eval]) ?_
       refine (copied_any (e.num 1 1) _ ok _ ((HR.out.below HB1.out).below (Below.refl _ _).drew) hl).mono ?_
       rintro _ w2 ⟨v', rfl, hr2, hb2⟩
       have hw2 : ∀ k, k < w.heap.size → w2.heap[k]? = w.heap[k]? := fun k hk => (hb2.block k (Nat.lt_of_lt_of_le hk HB1.out.size)).trans (HB1.out.block k hk)
       have hs2 : w.heap.size ≤ w2.heap.size := Nat.le_trans HB1.out.size hb2.size
       have hbl2 : Below w.heap.size w w2 := HB1.out.trans ⟨hb2.os, hb2.tape, hb2.output, hb2.size, fun k hk => hb2.block k (Nat.lt_of_lt_of_le hk HB1.out.size)⟩
       have b2 := (hw2 b hlb).trans HB.out
       have b32 := Mem.cell b2 (j := 3) rfl
       have b3a := fun o => Mem.cell (Mem.old b2 o) (j := 3) rfl
       refine ⟨_, rfl, ?_⟩)
    | (refine step_q_append rfl (.tmp 26) (.tmp 29) 93 rfl 0 36 i0 _ 5 64 Try.underlying93 hi hz0 hz1 hz2 rfl (by decide) _ t.wait.length (evs t.wait) (by rfl) (Qu.q_move HT.out.2.1 (fun k hk => (Below.heap_alloc w2 _ k (Nat.lt_of_lt_of_le (Qu.q_lt HT.out.2.1 k hk) hs2)).trans (hw2 k (Qu.q_lt HT.out.2.1 k hk)))) ⟨w2.heap.size, 0, none⟩ 1 1 (evC (e.num 1 1) v') (by rfl) rfl (World.news_of_block (Mem.new w2 _)) (by intro u hu; simp only [evC, List.mem_cons, List.not_mem_nil, or_false] at hu; rcases hu with rfl | rfl | rfl | rfl | rfl <;> first | rfl | (obtain ⟨A2, cap2, rfl⟩ := hr2.slice; rfl)) (by decide) (by unfold maxLen; omega) (by omega) (Nat.zero_le _) ?_
       intro v3 w3 hq3 hg3 ho3
       obtain ⟨A3, cap3, rfl, hle3⟩ := Qu.q_slice hq3
       have h3b : w3.heap[b]? = _ := (hg3.block b (by simp; omega) (fun h => (HT.out.2.2.2.1 b h.symm).2.1 rfl)).trans (Mem.old b2 _)
       have b33 := Mem.cell h3b (j := 3) rfl
       have f33 := Mem.free (j := 3) h3b))
  all_goals
    go_wp2_with fail
    go_ret
    obtain ⟨hq, hw, hr, dw, dr, hff⟩ := HT.out
    refine ⟨rfl, TellerAt.added _ sb sq hne hS HB.out hq hw hr dw dr hff hbl2 (hr2.mono (fun k hk => Nat.le_trans HB1.out.size hk)) hg3 hq3 ho3⟩
end Go.Proofs.Ytiomhmdkaglelaa
