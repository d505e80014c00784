/- auspicelaw08.Ref: an event as the document's (under way). · The page's example of the layer's statements: 'awake' says true. · The law's 'told': a teller and the document's that stand alike say the same. · A teller's state, plain: the program's teller and the document's as two ways of holding it. -/
import Derived.Test.YtiomhmdkaglelaaG10
import Derived.Deep.RegionHeld3
import Derived.Test.YtiomhmdkaglelaaG9
namespace Go.Proofs.Ytiomhmdkaglelaa
open Go.RowKit
set_option linter.unusedSimpArgs false
set_option linter.unusedVariables false
open Sp (fold intB textS bs)
attribute [local go_sem] Mem.run_store_float Mem.After.cell
def flds (l : List Fld) : List Value := (l.map Fld.cells).flatten
theorem flds_take_succ (l : List Fld) (k : Nat) (f : Fld) (h : l[k]? = some f) : flds (l.take (k + 1)) = flds (l.take k) ++ f.cells := by
  unfold flds
  rw [List.take_add_one, h, List.map_append, List.flatten_append]
  simp
end Go.Proofs.Ytiomhmdkaglelaa
namespace Go.Proofs.Ytiomhmdkaglelaa
open Go.RowKit
set_option linter.unusedSimpArgs false
set_option linter.unusedVariables false
open Sp (fold intB textS bs)
attribute [local go_sem] Mem.run_store_float Mem.After.cell
def evA : Evt := ⟨0, 0, 0, ⟨#[97]⟩, []⟩
theorem wordA : Word ⟨#[97]⟩ := by
  refine ⟨fun i h => ?_, by decide, by decide⟩
  have h' : i < 1 := h
  obtain rfl : i = 0 := by omega
  exact .inl ⟨by show 97 ≤ 97; omega, by show 97 ≤ 122; omega⟩
theorem evA_ok (s q : Int) (h : 0 ≤ s) (h2 : s ≤ 549755813888) (h3 : 0 ≤ q) (h4 : q ≤ 549755813888) : (evA.num s q).ok :=
  ⟨⟨h, h2⟩, ⟨h3, h4⟩, ⟨by show (0 : Int) ≤ 0; omega, by show (0 : Int) ≤ 549755813888; omega⟩, wordA, by show 0 ≤ 8; omega, fun i f hf => by simp [evA, Evt.num] at hf⟩
theorem evA_chk (s q : Int) (h : 0 ≤ s) (h2 : s ≤ 549755813888) (h3 : 0 ≤ q) (h4 : q ≤ 549755813888) : (evA.num s q).chk = 0 := chk_ok (evA_ok s q h h2 h3 h4)
theorem evA_small (s q : Int) : (evA.num s q).small := ⟨by show 1 ≤ 140737488351232; omega, fun f hf => by simp [evA, Evt.num] at hf⟩
theorem evA_wf (s q : Int) (h : IsI64 s) (h2 : IsI64 q) : (evA.num s q).wf := ⟨h, h2, by show IsI64 0; unfold IsI64; decide, fun f hf => by simp [evA, Evt.num] at hf⟩
theorem evA_cmd : cmdB (evA.num 4 1) = true := cmdB_iff.2 ⟨evA_ok 4 1 (by decide) (by decide) (by decide) (by decide), by decide, by decide⟩
theorem evA_cmdE : cmdE (evA.num 4 1) = 0 := by unfold cmdE; rw [if_pos evA_cmd]
theorem evA_cmdS : cmdS (evA.num 4 1) = ⟨#[2, 4, 1, 0, 1, 97, 0]⟩ := by
  unfold cmdS
  rw [if_pos evA_cmd]
  decide +kernel
theorem evA_nil (w : World) (ok : Nat → Prop) : EvR w ok evA (.slice none 0 0) := Mem.Rd.nil _ _ _
theorem open1 : numS 1 = ⟨#[1]⟩ := by decide +kernel
set_option maxRecDepth 100000 in
set_option maxHeartbeats 4000000 in
theorem awake_any (w : World) :
    Calls Try.prog 5 #[] w fun r w' => r = .returned (.bool true) ∧ Below w.heap.size w w' := by
  go_enter Try.func5, Try.ntmps5
  go_wp2_with (go_at_call 20; refine (NewTeller_yes 2 _ (by decide) (by decide)).mono ?_; rintro _ w1 ⟨b, rfl, hb1, hbb, ht1⟩)
  refine (Add_yes _ b _ evA (.slice none 0 0) (fun _ => True) w1 ht1 (fun k hk => hk.2) (evA_nil _ _) (evA_small 1 1) (evA_chk 1 1 (by decide) (by decide) (by decide) (by decide)) (by decide) (by decide)).mono ?_
  rintro _ w2 ⟨rfl, hc2, v2, ht2⟩
  obtain ⟨S, hS⟩ : ∃ S, S = fun k => w.heap.size ≤ k ∧ k < w1.heap.size ∨ w1.heap.size ≤ k ∧ k < w2.heap.size := ⟨_, rfl⟩
  have hS0 : ∀ k, S k → w.heap.size ≤ k := fun k hk => by rw [hS] at hk; have := hb1.size; omega
  have hS2 : ∀ k, S k → k < w2.heap.size := fun k hk => by rw [hS] at hk; have := hc2.size; omega
  replace ht2 : TellerAt w2 S b ⟨2, 0, 0, 0, [(evA.num 1 1, v2)], []⟩ := by rw [hS]; exact ht2
  have hB2 : Below w.heap.size w w2 := hb1.trans (hc2.below (fun k h1 h2 => by have h3 : w.heap.size ≤ k ∧ k < w1.heap.size := h2; omega) (hb1.size))
  have HB2 := Lib.hid hB2
  have HT2 := Lib.hid ht2
  clear hc2 hB2 hb1 ht1 hS ht2
  go_wp2_with (go_at_call 22; refine (Ask_open _ b _ _ HT2.out (by simp) rfl).mono ?_; rintro _ w3 ⟨rfl, hb3⟩)
  rw [open1]
  refine (Told_open S b ⟨2, 0, 0, 0, [(evA.num 1 1, v2)], []⟩ 0 4 (-1) _ ((HT2.out.below hb3).below ((Below.refl _ _).alloc (Nat.le_refl _) _)) (by simp) rfl rfl (by decide) (by decide)).mono ?_
  rintro _ w4 ⟨rfl, hc4, ht4⟩
  have hA4 := hc4.at_ (Mem.new w3 _) (fun h => by have := hS2 _ h; have := hb3.size; omega)
  have hB4 : Below w.heap.size w w4 := (HB2.out.trans (hb3.mono HB2.out.size)).trans (((Below.refl _ _).alloc (by have := HB2.out.size; have := hb3.size; omega) _).trans (hc4.below (fun k h1 h2 => by have := hS0 k h2; omega) (by have := HB2.out.size; have := hb3.size; simp; omega)))
  have hz3 : w2.heap.size ≤ w3.heap.size := hb3.size
  have hz4 : w3.heap.size < w4.heap.size := Mem.lt hA4
  obtain ⟨S4, hS⟩ : ∃ S4, S4 = fun k => S k ∨ (w3.alloc (Obj.cells #[Value.int IntKind.i64 0, Value.string ⟨#[1]⟩, Value.string ⟨#[]⟩, Value.int IntKind.i64 0, Value.int IntKind.i64 0] 47)).heap.size ≤ k ∧ k < w4.heap.size := ⟨_, rfl⟩
  have hS40 : ∀ k, S4 k → w.heap.size ≤ k := fun k hk => by rw [hS] at hk; have := HB2.out.size; simp at hk; rcases hk with hk | hk; exact hS0 k hk; omega
  have hS42 : ∀ k, S4 k → k < w4.heap.size ∧ k ≠ w3.heap.size := fun k hk => by rw [hS] at hk; simp at hk; rcases hk with hk | hk; (have := hS2 k hk; omega); omega
  replace ht4 : TellerAt w4 S4 b ⟨2, 0, 4, 0, [(evA.num 1 1, v2)], []⟩ := by rw [hS]; exact ht4
  have HA4 := Lib.hid hA4
  have HB4 := Lib.hid hB4
  have HT4 := Lib.hid ht4
  clear hA4 hB4 ht4 hS hc4 hb3
  have ev41 : (evA.num 1 1).num 4 (0 + 1) = evA.num 4 1 := rfl
  have K1 := Lib.hid ev41
  clear ev41
  go_wp2_with fail
  refine (Ask_event S4 b ⟨2, 0, 4, 0, [(evA.num 1 1, v2)], []⟩ (evA.num 1 1, v2) [] w4 HT4.out rfl (by simp) (by simp) (by simp) (by rw [K1.out]; exact evA_small 4 1) (by rw [K1.out]; exact evA_wf 4 1 (by unfold IsI64; decide) (by unfold IsI64; decide))).mono ?_
  rintro _ w5 ⟨rfl, hb5⟩
  have hA5 := (hb5.block _ hz4).trans HA4.out
  have hz5 := hb5.size
  have HB5 := Lib.hid (HB4.out.trans (hb5.mono HB4.out.size))
  have HT5 := Lib.hid (HT4.out.below hb5)
  have hS52 : ∀ k, S4 k → k < w5.heap.size ∧ k ≠ w3.heap.size := fun k hk => by have := hS42 k hk; omega
  have HA5 := Lib.hid hA5
  clear hb5 hA5 HT4 HB4 HA4
  rw [K1.out, evA_cmdS, evA_cmdE]
  go_wp2_with fail
  obtain ⟨X, hX⟩ : ∃ X, X = Obj.cells #[Value.int IntKind.i64 0, Value.string ⟨#[2, 4, 1, 0, 1, 97, 0]⟩, Value.string ⟨#[]⟩, Value.int IntKind.i64 0, Value.int IntKind.i64 0] 47 := ⟨_, rfl⟩
  rw [← hX]
  refine (Late_any S4 b _ _ (HT5.out.below ((Below.refl _ _).alloc (Nat.le_refl _) X)) ⟨by simp, by simp, by simp, by simp⟩).mono ?_
  rintro _ w6 ⟨rfl, hc6, ht6⟩
  have hX6 := hc6.at_ (Mem.new w5 X) (fun h => by have := hS52 _ h; omega)
  have hA6 := hc6.at_ (Mem.old HA5.out X) (fun h => by have := hS52 _ h; omega)
  have hz6 : w5.heap.size < w6.heap.size := Mem.lt hX6
  have HB6 := Lib.hid (HB5.out.trans (((Below.refl _ _).alloc HB5.out.size X).trans (hc6.below (fun k h1 h2 => by have := hS40 k h2; omega) (by have := HB5.out.size; simp; omega))))
  have HX6 := Lib.hid hX6
  have HA6 := Lib.hid hA6
  have HT6 := Lib.hid ht6
  have HX := Lib.hid hX
  clear hX6 hA6 hc6 ht6 HB5 HT5 HA5 hX
  go_wp2_with fail
  refine (Ask_event S4 b _ (evA.num 1 1, v2) [] w6 HT6.out rfl (by simp) (by simp) (by simp) (by rw [K1.out]; exact evA_small 4 1) (by rw [K1.out]; exact evA_wf 4 1 (by unfold IsI64; decide) (by unfold IsI64; decide))).mono ?_
  rintro _ w7 ⟨rfl, hb7⟩
  have hX7 := (hb7.block _ hz6).trans HX6.out
  have hA7 := (hb7.block _ (by omega)).trans HA6.out
  have HB7 := Lib.hid (HB6.out.trans (hb7.mono HB6.out.size))
  have hz7 := hb7.size
  rw [HX.out] at hX7
  have a0 : ∀ o, (w7.alloc o).cell? ⟨w3.heap.size, 0, none⟩ = some (.int .i64 0) := fun o => Mem.cell (Mem.old hA7 o) (j := 0) rfl
  have a1 : ∀ o, (w7.alloc o).cell? ⟨w3.heap.size, 1, none⟩ = some (.string ⟨#[1]⟩) := fun o => Mem.cell (Mem.old hA7 o) (j := 1) rfl
  have b0 : ∀ o, (w7.alloc o).cell? ⟨w5.heap.size, 0, none⟩ = some (.int .i64 0) := fun o => Mem.cell (Mem.old hX7 o) (j := 0) rfl
  have b1 : ∀ o, (w7.alloc o).cell? ⟨w5.heap.size, 1, none⟩ = some (.string ⟨#[2, 4, 1, 0, 1, 97, 0]⟩) := fun o => Mem.cell (Mem.old hX7 o) (j := 1) rfl
  have hn : nextTo 0 2 = 1 := by decide
  clear hb7 HX6 HA6 HT6 HB6 hX7 hA7
  rw [K1.out, evA_cmdS, evA_cmdE]
  go_wp2_with fail
  go_ret
  exact ⟨Mem.ret_bool (by first | rfl | decide), HB7.out.alloc (by have := HB7.out.size; omega) _⟩
end Go.Proofs.Ytiomhmdkaglelaa
namespace Go.Proofs.Ytiomhmdkaglelaa
open Go.RowKit
set_option linter.unusedSimpArgs false
set_option linter.unusedVariables false
open Sp (fold intB textS bs)
attribute [local go_sem] Mem.run_store_float Mem.After.cell
/-- Both stand alike, behind at most n acts. -/
structure Tm (w : World) (S ok : Nat → Prop) (b : Nat) (t : Tl) (vw vr : Value) (lw lr : List (Evt × Value)) (n : Nat) : Prop where
  tel : TellerAt w S b t
  wait : REvs w ok vw lw
  refd : REvs w ok vr lr
  ew : lw.map Prod.fst = t.wait.map (fun p => p.1.num 0 0)
  er : lr.map Prod.fst = t.refused.map (fun p => p.1.num 0 0)
  fit : t.fit
  good : ∀ p, p ∈ t.wait ∨ p ∈ t.refused → (p.1.num 1 1).ok ∧ (p.1.num 1 1).wf
  id : 0 ≤ t.id ∧ t.id ≤ 549755813888
  seq : 0 ≤ t.seq ∧ t.seq ≤ n
  refs : t.refused.length ≤ n
theorem Tm.below {w w1 : World} {S ok : Nat → Prop} {b : Nat} {t : Tl} {vw vr : Value} {lw lr : List (Evt × Value)} {n : Nat} (h : Tm w S ok b t vw vr lw lr n) (hb : Below w.heap.size w w1) : Tm w1 S ok b t vw vr lw lr n :=
  ⟨h.tel.below hb, h.wait.below hb, h.refd.below hb, h.ew, h.er, h.fit, h.good, h.id, h.seq, h.refs⟩
theorem num_ok {e : Evt} {i q : Int} (h : (e.num 1 1).ok) (hi : inB i) (hq : inB q) : (e.num i q).ok := ⟨hi, hq, h.2.2⟩
theorem num_wf {e : Evt} {i q : Int} (h : (e.num 1 1).wf) (hi : IsI64 i) (hq : IsI64 q) : (e.num i q).wf := ⟨hi, hq, h.2.2⟩
theorem rd_len {w : World} {ok : Nat → Prop} {v : Value} {l : List (Evt × Value)} (h : REvs w ok v l) : ∃ A c, v = .slice A l.length c := by
  obtain ⟨A, c, e⟩ := h.1.slice
  exact ⟨A, c, by rw [e]; simp [evRows]⟩
theorem evts_at {w : World} {ok : Nat → Prop} {v : Value} {l : List (Evt × Value)} (h : REvs w ok v l) {k : Nat} {p : Evt × Value} (hp : l[k]? = some p) {A : Option Addr} {n c : Nat} (hv : v = .slice A n c) :
    ∃ g o, A = some ⟨g, o, none⟩ ∧ ok g ∧ g < w.heap.size ∧ ∀ i u, (evC p.1 p.2)[i]? = some u → w.cell? ⟨g, o + k * 5 + i, none⟩ = some u := by
  subst hv
  exact h.1.row (k := k) (r := evC p.1 p.2) (by unfold evRows; rw [List.getElem?_map, hp]; rfl)
/-- One block of one's own is kept. -/
def Kq (w : World) (R : Obj) (W : World) : Prop := Below w.heap.size w W ∧ W.heap[w.heap.size]? = some R
theorem Kq.begin (w : World) (R : Obj) : Kq w R (w.alloc R) := ⟨(Below.refl _ _).alloc (Nat.le_refl _) R, Mem.new w R⟩
theorem Kq.step {w W W1 : World} {R : Obj} (h : Kq w R W) (hb : Below W.heap.size W W1) : Kq w R W1 := ⟨h.1.trans (hb.mono h.1.size), (hb.block _ (Mem.lt h.2)).trans h.2⟩
theorem Kq.alloc {w W : World} {R : Obj} (h : Kq w R W) (o : Obj) : Kq w R (W.alloc o) := h.step ((Below.refl _ _).alloc (Nat.le_refl _) o)
end Go.Proofs.Ytiomhmdkaglelaa
namespace Go.Proofs.Ytiomhmdkaglelaa
open Go.RowKit
set_option linter.unusedSimpArgs false
set_option linter.unusedVariables false
structure St where
  nodes : Int
  to : Int
  id : Int
  seq : Int
  wait : List Evt
  refd : List Evt
def nrm (l : List (Evt × Value)) : List Evt := l.map (fun p => p.1.num 0 0)
theorem nrm_len (l : List (Evt × Value)) : (nrm l).length = l.length := by simp [nrm]
/-- The program's teller. -/
def Prg (w : World) (S : Nat → Prop) (b : Nat) (s : St) : Prop := ∃ lw lr, TellerAt w S b ⟨s.nodes, s.to, s.id, s.seq, lw, lr⟩ ∧ nrm lw = s.wait ∧ nrm lr = s.refd
/-- The document's. -/
def Doc (w : World) (ok : Nat → Prop) (s : St) (v : Value) : Prop := ∃ vw vr lw lr, v = rtl s.nodes s.to s.id s.seq vw vr ∧ REvs w ok vw lw ∧ REvs w ok vr lr ∧ lw.map Prod.fst = s.wait ∧ lr.map Prod.fst = s.refd
structure Inv (s : St) (n : Nat) : Prop where
  n1 : 1 ≤ s.nodes
  n7 : s.nodes ≤ 7
  t0 : 0 ≤ s.to
  t1 : s.to < s.nodes
  good : ∀ e, e ∈ s.wait ∨ e ∈ s.refd → (e.num 1 1).ok ∧ (e.num 1 1).wf
  i0 : 0 ≤ s.id
  i1 : s.id ≤ 549755813888
  s0 : 0 ≤ s.seq
  s1 : s.seq ≤ n
  refs : s.refd.length ≤ n
noncomputable def St.add (s : St) (e : Evt) : Int × St := if (e.num 1 1).chk = 1 then (1, s) else if 256 ≤ s.wait.length then (7, s) else (0, { s with wait := s.wait ++ [e.num 0 0] })
def St.late (s : St) : St := { s with to := nextTo s.to s.nodes }
def St.told (s : St) (err n lead : Int) : St :=
  match s.wait with
  | [] => s
  | e :: r =>
    if err = 0 then (if s.id = 0 then (if 1 ≤ n ∧ n ≤ 549755813888 then { s with id := n, seq := 0 } else s) else if n = s.seq + 1 then { s with seq := s.seq + 1, wait := r } else s)
    else if err = 4 ∧ s.id ≠ 0 then { s with id := 0, seq := 0 }
    else if err = 130 ∧ s.id ≠ 0 then { s with refd := s.refd ++ [e], wait := r }
    else { s with to := leadTo s.to s.nodes lead }
theorem Doc.mono {w : World} {ok ok' : Nat → Prop} {s : St} {v : Value} (h : Doc w ok s v) (ho : ∀ k, ok k → ok' k) : Doc w ok' s v := by
  obtain ⟨vw, vr, lw, lr, rfl, h1, h2, h3, h4⟩ := h
  exact ⟨vw, vr, lw, lr, rfl, h1.mono ho, h2.mono ho, h3, h4⟩
theorem Doc.step {w w1 : World} {ok : Nat → Prop} {s : St} {v : Value} (h : Doc w ok s v) (hs : w.heap.size ≤ w1.heap.size) (hm : ∀ k, ok k → k < w.heap.size → w1.heap[k]? = w.heap[k]?) : Doc w1 ok s v := by
  obtain ⟨vw, vr, lw, lr, rfl, h1, h2, h3, h4⟩ := h
  exact ⟨vw, vr, lw, lr, rfl, h1.step hs hm, h2.step hs hm, h3, h4⟩
theorem Doc.below {w w1 : World} {ok : Nat → Prop} {s : St} {v : Value} (h : Doc w ok s v) (hb : Below w.heap.size w w1) : Doc w1 ok s v := h.step hb.size (fun k _ hk => hb.block k hk)
theorem Doc.lt {w : World} {ok : Nat → Prop} {s : St} {v : Value} (h : Doc w ok s v) : Doc w (fun k => ok k ∧ k < w.heap.size) s v := by
  obtain ⟨vw, vr, lw, lr, rfl, h1, h2, h3, h4⟩ := h
  exact ⟨vw, vr, lw, lr, rfl, h1.lt, h2.lt, h3, h4⟩
theorem Prg.step {w w1 : World} {S S' : Nat → Prop} {b : Nat} {s : St} (h : Prg w S b s) (hs : w.heap.size ≤ w1.heap.size) (hm : ∀ k, S k → k < w.heap.size → w1.heap[k]? = w.heap[k]?) (hS : ∀ k, S k → S' k) : Prg w1 S' b s := by
  obtain ⟨lw, lr, h1, h2, h3⟩ := h
  exact ⟨lw, lr, h1.step hs hm hS, h2, h3⟩
theorem Prg.below {w w1 : World} {S : Nat → Prop} {b : Nat} {s : St} (h : Prg w S b s) (hb : Below w.heap.size w w1) : Prg w1 S b s := h.step hb.size (fun k _ hk => hb.block k hk) (fun _ h => h)
theorem Prg.mono {w : World} {S S' : Nat → Prop} {b : Nat} {s : St} (h : Prg w S b s) (hS : ∀ k, S k → S' k) : Prg w S' b s := h.step (Nat.le_refl _) (fun _ _ _ => rfl) hS
theorem chk_two (e : Evt) : e.chk = 1 ∨ e.chk = 0 := by
  unfold Evt.chk
  split
  · exact .inr rfl
  · exact .inl rfl
theorem chk_yes {e : Evt} (h : e.chk = 0) : e.ok := by
  unfold Evt.chk at h
  split at h
  · rename_i h1; simpa using h1
  · cases h
theorem num_num (e : Evt) (a b c d : Int) : (e.num a b).num c d = e.num c d := rfl
theorem nextTo_in (to nodes : Int) (h : 1 ≤ nodes) : 0 ≤ nextTo to nodes ∧ nextTo to nodes < nodes := ⟨Int.emod_nonneg _ (by omega), Int.emod_lt_of_pos _ (by omega)⟩
theorem leadTo_in (to nodes i : Int) (h : 1 ≤ nodes) : 0 ≤ leadTo to nodes i ∧ leadTo to nodes i < nodes := by
  unfold leadTo
  split
  · assumption
  · exact nextTo_in to nodes h
theorem Inv.add {s : St} {n : Nat} (h : Inv s n) (e : Evt) (hw : e.wf) : Inv (s.add e).2 (n + 1) := by
  unfold St.add
  split
  · exact ⟨h.n1, h.n7, h.t0, h.t1, h.good, h.i0, h.i1, h.s0, by have := h.s1; show s.seq ≤ _; omega, by have := h.refs; show s.refd.length ≤ _; omega⟩
  · rename_i h1
    split
    · exact ⟨h.n1, h.n7, h.t0, h.t1, h.good, h.i0, h.i1, h.s0, by have := h.s1; show s.seq ≤ _; omega, by have := h.refs; show s.refd.length ≤ _; omega⟩
    · refine ⟨h.n1, h.n7, h.t0, h.t1, fun x hx => ?_, h.i0, h.i1, h.s0, by have := h.s1; show s.seq ≤ _; omega, by have := h.refs; show s.refd.length ≤ _; omega⟩
      have hx' : (x ∈ s.wait ∨ x ∈ s.refd) ∨ x = e.num 0 0 := by
        rcases hx with hx | hx
        · rcases List.mem_append.1 hx with hx | hx
          · exact .inl (.inl hx)
          · exact .inr (by simpa using hx)
        · exact .inl (.inr hx)
      rcases hx' with hx | rfl
      · exact h.good x hx
      · rw [num_num]
        exact ⟨chk_yes ((chk_two _).resolve_left h1), by show IsI64 1; unfold IsI64; decide, by show IsI64 1; unfold IsI64; decide, hw.2.2⟩
theorem Inv.late {s : St} {n : Nat} (h : Inv s n) : Inv s.late (n + 1) :=
  ⟨h.n1, h.n7, (nextTo_in s.to s.nodes h.n1).1, (nextTo_in s.to s.nodes h.n1).2, h.good, h.i0, h.i1, h.s0, by have := h.s1; show s.seq ≤ _; omega, by have := h.refs; show s.refd.length ≤ _; omega⟩
theorem Inv.more {s : St} {n : Nat} (h : Inv s n) : Inv s (n + 1) := ⟨h.n1, h.n7, h.t0, h.t1, h.good, h.i0, h.i1, h.s0, by have := h.s1; omega, by have := h.refs; omega⟩
theorem Inv.told {s : St} {n : Nat} (h : Inv s n) (err num lead : Int) : Inv (s.told err num lead) (n + 1) := by
  unfold St.told
  split
  · exact h.more
  · rename_i e r hw
    have hs := h.s1
    have hr := h.refs
    have h0 := h.s0
    have hg : ∀ x, x ∈ r ∨ x ∈ s.refd → (x.num 1 1).ok ∧ (x.num 1 1).wf := fun x hx => h.good x (by rw [hw]; rcases hx with h | h; exact .inl (List.mem_cons_of_mem _ h); exact .inr h)
    split
    · split
      · split
        · rename_i h3
          exact ⟨h.n1, h.n7, h.t0, h.t1, h.good, by show 0 ≤ num; omega, h3.2, by show (0 : Int) ≤ 0; omega, by show (0 : Int) ≤ _; omega, by show s.refd.length ≤ _; omega⟩
        · exact h.more
      · split
        · exact ⟨h.n1, h.n7, h.t0, h.t1, hg, h.i0, h.i1, by show 0 ≤ s.seq + 1; omega, by show s.seq + 1 ≤ _; omega, by show s.refd.length ≤ _; omega⟩
        · exact h.more
    · split
      · exact ⟨h.n1, h.n7, h.t0, h.t1, h.good, by show (0 : Int) ≤ 0; omega, by show (0 : Int) ≤ _; omega, by show (0 : Int) ≤ 0; omega, by show (0 : Int) ≤ _; omega, by show s.refd.length ≤ _; omega⟩
      · split
        · refine ⟨h.n1, h.n7, h.t0, h.t1, fun x hx => ?_, h.i0, h.i1, h0, by show s.seq ≤ _; omega, by show (s.refd ++ [e]).length ≤ _; simp; omega⟩
          rcases hx with hx | hx
          · exact hg x (.inl hx)
          · rcases List.mem_append.1 hx with hx | hx
            · exact hg x (.inr hx)
            · have : x = e := by simpa using hx
              subst this
              exact h.good x (.inl (by rw [hw]; exact List.mem_cons_self))
        · have hl := leadTo_in s.to s.nodes lead h.n1
          exact ⟨h.n1, h.n7, hl.1, hl.2, h.good, h.i0, h.i1, h0, by show s.seq ≤ _; omega, by show s.refd.length ≤ _; omega⟩
/-- The program's Add. -/
theorem add_prg {w : World} {S ok : Nat → Prop} {b : Nat} {s : St} {e : Evt} {vf : Value} (h : Prg w S b s) (hS : ∀ k, S k → k < w.heap.size) (he : EvR w ok e vf) (hs : e.small) (hl : e.fields.length ≤ 100) :
    Calls Try.prog 21 #[.pointer (some ⟨b, 0, none⟩), .agg #[.int .i64 e.session, .int .i64 e.seq, .int .i64 e.stamp, .string e.kind, vf]] w fun r w' => r = .returned (.int .i64 (s.add e).1) ∧ Mem.Ch S w w' ∧
      Prg w' (fun k => S k ∨ (w.heap.size ≤ k ∧ k < w'.heap.size)) b (s.add e).2 := by
  obtain ⟨lw, lr, h1, h2, h3⟩ := h
  have hlen : lw.length = s.wait.length := by rw [← h2, nrm_len]
  unfold St.add
  rcases chk_two (e.num 1 1) with hc | hc
  · rw [if_pos hc]
    refine (Add_arg b e vf ok w he hs hc).mono ?_
    rintro _ w' ⟨rfl, hb⟩
    exact ⟨rfl, Mem.Ch.of_below' hb, lw, lr, (h1.below hb).mono (fun k hk => .inl hk), h2, h3⟩
  · rw [if_neg (by omega)]
    by_cases hf : 256 ≤ s.wait.length
    · rw [if_pos hf]
      refine (Add_full S b _ e vf ok w h1 he hs hc (by show 256 ≤ lw.length; omega)).mono ?_
      rintro _ w' ⟨rfl, hb⟩
      exact ⟨rfl, Mem.Ch.of_below' hb, lw, lr, (h1.below hb).mono (fun k hk => .inl hk), h2, h3⟩
    · rw [if_neg hf]
      refine (Add_yes S b _ e vf ok w h1 hS he hs hc (by show lw.length < 256; omega) hl).mono ?_
      rintro _ w' ⟨rfl, hc', v', ht⟩
      exact ⟨rfl, hc', lw ++ [(e.num 1 1, v')], lr, ht, by rw [← h2]; simp [nrm]; rfl, h3⟩
theorem own_evs {w : World} {B e n : Nat} {v : Value} {l : List (Evt × Value)} (h : w.ownsRow B e 5 v n (evs l)) (hn : n = l.length) : Mem.Rd w (fun k => B ≤ k) 5 v (evRows l) := by
  rw [evs_flat] at h
  exact (Rd_of_q (rows := evRows l) (Qu.q_of_own h) (by rw [hn]; simp [evRows]) (evRows_len l)).mono (fun k hk => Mem.own_base h k hk)
theorem wrap_one (n q : Int) (hn : IsI64 n) (h0 : 0 ≤ q) (h1 : q ≤ 1000) : wrap64 (n - 1) = q ↔ n = q + 1 := by
  unfold IsI64 at hn
  unfold wrap64
  omega
theorem ToldR.prg {S : Nat → Prop} {b : Nat} {t : Tl} {s : St} {w w' : World} {r : Ending} (h : ToldR S b t w r w') (e1 : t.nodes = s.nodes) (e2 : t.to = s.to) (e3 : t.id = s.id) (e4 : t.seq = s.seq) (h2 : nrm t.wait = s.wait) (h3 : nrm t.refused = s.refd) :
    r = .returned (.tuple #[]) ∧ Mem.Ch S w w' ∧ Prg w' (fun k => S k ∨ (w.heap.size ≤ k ∧ k < w'.heap.size)) b s := by
  obtain ⟨rfl, hc, ht⟩ := h
  obtain ⟨a1, a2, a3, a4, a5, a6⟩ := t
  obtain ⟨b1, b2, b3, b4, b5, b6⟩ := s
  dsimp only at e1 e2 e3 e4 h2 h3
  subst e1; subst e2; subst e3; subst e4
  exact ⟨rfl, hc, a5, a6, ht, h2, h3⟩
theorem told_prg {w : World} {S : Nat → Prop} {b : Nat} {s : St} {n : Nat} (err num lead : Int) (h : Prg w S b s) (hI : Inv s n) (hn : n ≤ 1000) (hS : ∀ k, S k → k < w.heap.size) (hnum : IsI64 num) :
    Calls Try.prog 23 #[.pointer (some ⟨b, 0, none⟩), .agg #[.int .i64 err, .int .i64 num], .int .i64 lead] w fun r w' => r = .returned (.tuple #[]) ∧ Mem.Ch S w w' ∧ Prg w' (fun k => S k ∨ (w.heap.size ≤ k ∧ k < w'.heap.size)) b (s.told err num lead) := by
  obtain ⟨lw, lr, h1, h2, h3⟩ := h
  have hfit : Tl.fit ⟨s.nodes, s.to, s.id, s.seq, lw, lr⟩ := ⟨hI.n1, hI.n7, hI.t0, hI.t1⟩
  have hs1 := hI.s1
  unfold St.told
  split
  · rename_i hw
    have he : lw = [] := by rw [hw] at h2; simpa [nrm] using h2
    exact (Told_none S b _ err num lead w h1 he).mono fun _ _ h => h.prg rfl rfl rfl rfl h2 h3
  · rename_i e r hw
    obtain ⟨p, l, rfl⟩ : ∃ p l, lw = p :: l := by
      cases lw with
      | nil => rw [hw] at h2; simp [nrm] at h2
      | cons p l => exact ⟨p, l, rfl⟩
    rw [hw] at h2
    have hpe : p.1.num 0 0 = e := by simp [nrm] at h2; exact h2.1
    have hlr : nrm l = r := by simp [nrm] at h2; exact h2.2
    have hne : (p :: l : List (Evt × Value)) ≠ [] := by simp
    have h2' : nrm (p :: l) = s.wait := by rw [hw]; exact h2
    split
    · rename_i h0
      split
      · rename_i hi
        split
        · rename_i hr
          exact (Told_open S b _ err num lead w h1 hne h0 hi hr.1 hr.2).mono fun _ _ h => h.prg rfl rfl rfl rfl h2' h3
        · rename_i hr
          by_cases hr1 : num < 1
          · exact (Told_open_no1 S b _ err num lead w h1 hne h0 hi hr1).mono fun _ _ h => h.prg rfl rfl rfl rfl h2' h3
          · exact (Told_open_no2 S b _ err num lead w h1 hne h0 hi (by omega) (by omega)).mono fun _ _ h => h.prg rfl rfl rfl rfl h2' h3
      · rename_i hi
        split
        · rename_i hq
          exact (Told_told S b _ err num lead w h1 hne h0 hi hI.s0 (by show s.seq < _; omega) ((wrap_one num s.seq hnum hI.s0 (by omega)).2 hq)).mono fun _ _ h => h.prg rfl rfl rfl rfl hlr h3
        · rename_i hq
          exact (Told_not S b _ err num lead w h1 hne h0 hi (fun hh => hq ((wrap_one num s.seq hnum hI.s0 (by omega)).1 hh))).mono fun _ _ h => h.prg rfl rfl rfl rfl h2' h3
    · rename_i h0
      split
      · rename_i h4
        exact (Told_lost S b _ err num lead w h1 hne h4.1 h4.2).mono fun _ _ h => h.prg rfl rfl rfl rfl h2' h3
      · rename_i h4
        split
        · rename_i h5
          obtain ⟨rfl, hi⟩ := h5
          refine (Told_stamp S b _ num lead p.1 p.2 l w h1 hS rfl hi (by have := hI.refs; rw [← h3, nrm_len] at this; show lr.length ≤ 1000; omega)).mono fun _ _ h => h.prg rfl rfl rfl rfl hlr ?_
          show nrm (lr ++ [(p.1, p.2)]) = _
          rw [← h3, ← hpe]
          simp [nrm]
        · rename_i h5
          by_cases hi : s.id = 0
          · exact (Told_lead0 S b _ err num lead w h1 hne hfit h0 hi).mono fun _ _ h => h.prg rfl rfl rfl rfl h2' h3
          · exact (Told_lead S b _ err num lead w h1 hne hfit h0 (fun hh => h4 ⟨hh, hi⟩) (fun hh => h5 ⟨hh, hi⟩)).mono fun _ _ h => h.prg rfl rfl rfl rfl h2' h3
theorem late_prg {w : World} {S : Nat → Prop} {b : Nat} {s : St} {n : Nat} (h : Prg w S b s) (hI : Inv s n) :
    Calls Try.prog 24 #[.pointer (some ⟨b, 0, none⟩)] w fun r w' => r = .returned (.tuple #[]) ∧ Mem.Ch S w w' ∧ Prg w' S b s.late := by
  obtain ⟨lw, lr, h1, h2, h3⟩ := h
  refine (Late_any S b _ w h1 ⟨hI.n1, hI.n7, hI.t0, hI.t1⟩).mono ?_
  rintro _ w' ⟨rfl, hc, ht⟩
  exact ⟨rfl, hc, lw, lr, ht, h2, h3⟩
end Go.Proofs.Ytiomhmdkaglelaa
