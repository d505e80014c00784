/- The law's 'told': a teller and the document's that stand alike say the same. -/
import Derived.Test.YtbiicflcjipeeaaRef
import Derived.Test.YtbiicflcjipeeaaAwk
import Derived.Test.YtbiicflcjipeeaaRAsk
namespace Go.Proofs.Ytbiicflcjipeeaa
open Go.RowKit
set_option linter.unusedSimpArgs false
set_option linter.unusedVariables false
open Sp (fold intB textS bs)
attribute [local go_sem] Mem.run_store_float Mem.After.cell
/-- Both stand alike, behind at most n acts. -/
structure Tm (w : World) (S ok : Nat → Prop) (b : Nat) (t : Tl) (vw vr : Value) (lw lr : List (Evt × Value)) (n : Nat) : Prop where
  tel : TellerAt w S b t
  wait : REvs w ok vw lw
  refd : REvs w ok vr lr
  ew : lw.map Prod.fst = t.wait.map (fun p => p.1.num 0 0)
  er : lr.map Prod.fst = t.refused.map (fun p => p.1.num 0 0)
  fit : t.fit
  good : ∀ p, p ∈ t.wait ∨ p ∈ t.refused → (p.1.num 1 1).ok ∧ (p.1.num 1 1).wf
  id : 0 ≤ t.id ∧ t.id ≤ 549755813888
  seq : 0 ≤ t.seq ∧ t.seq ≤ n
  refs : t.refused.length ≤ n
theorem Tm.below {w w1 : World} {S ok : Nat → Prop} {b : Nat} {t : Tl} {vw vr : Value} {lw lr : List (Evt × Value)} {n : Nat} (h : Tm w S ok b t vw vr lw lr n) (hb : Below w.heap.size w w1) : Tm w1 S ok b t vw vr lw lr n :=
  ⟨h.tel.below hb, h.wait.below hb, h.refd.below hb, h.ew, h.er, h.fit, h.good, h.id, h.seq, h.refs⟩
theorem num_ok {e : Evt} {i q : Int} (h : (e.num 1 1).ok) (hi : inB i) (hq : inB q) : (e.num i q).ok := ⟨hi, hq, h.2.2⟩
theorem num_wf {e : Evt} {i q : Int} (h : (e.num 1 1).wf) (hi : IsI64 i) (hq : IsI64 q) : (e.num i q).wf := ⟨hi, hq, h.2.2⟩
theorem rd_len {w : World} {ok : Nat → Prop} {v : Value} {l : List (Evt × Value)} (h : REvs w ok v l) : ∃ A c, v = .slice A l.length c := by
  obtain ⟨A, c, e⟩ := h.1.slice
  exact ⟨A, c, by rw [e]; simp [evRows]⟩
/-- What both ask. -/
theorem ask_pair {w : World} {S ok : Nat → Prop} {b : Nat} {t : Tl} {vw vr : Value} {lw lr : List (Evt × Value)} {n : Nat} (h : Tm w S ok b t vw vr lw lr n) (hn : n ≤ 1000) :
    ∃ (to : Int) (s : ByteArray) (q : Bool), (q = true → to = t.to) ∧
      (∀ W, Below w.heap.size w W → Calls Try.prog 28 #[.pointer (some ⟨b, 0, none⟩)] W fun r w' => r = .returned (.tuple #[.agg #[.int .i64 to, .string s, .string ⟨#[]⟩, .int .i64 0, .int .i64 0], .bool q]) ∧ Below W.heap.size W w') ∧
      (∀ W, Below w.heap.size w W → Calls Try.prog 46 #[rtl t.nodes t.to t.id t.seq vw vr] W fun r w' => r = .returned (.tuple #[.string s, .bool q]) ∧ Below W.heap.size W w') := by
  obtain ⟨Aw, cw, rfl⟩ := rd_len h.wait
  obtain ⟨Ar, cr, rfl⟩ := rd_len h.refd
  have hlen : lw.length = t.wait.length := by have := congrArg List.length h.ew; simpa using this
  by_cases he : t.wait = []
  · have h0 : lw.length = 0 := by rw [hlen, he]; rfl
    refine ⟨0, ⟨#[]⟩, false, by simp, fun W hW => ?_, fun W hW => ?_⟩
    · exact Ask_none S b t W (h.tel.below hW) he
    · rw [h0]; exact rAsk_none _ _ _ _ _ _ _ _ _ W
  · by_cases hi : t.id = 0
    · refine ⟨t.to, numS 1, true, fun _ => rfl, fun W hW => Ask_open S b t W (h.tel.below hW) he hi, fun W hW => ?_⟩
      rw [hi]
      exact rAsk_open _ _ _ _ _ _ _ _ _ W (by rw [hlen]; exact List.length_pos_iff.2 he)
    · obtain ⟨p, r, hp⟩ := List.exists_cons_of_ne_nil he
      have hg := h.good p (.inl (by rw [hp]; exact List.mem_cons_self))
      have hid := h.id
      have hsq := h.seq
      have hq1 : inB (t.seq + 1) := by unfold inB; omega
      have hok : (p.1.num t.id (t.seq + 1)).ok := num_ok hg.1 ⟨hid.1, hid.2⟩ hq1
      have hwf : (p.1.num t.id (t.seq + 1)).wf := num_wf hg.2 (by unfold IsI64; omega) (by unfold IsI64; omega)
      have hcmd : cmdB (p.1.num t.id (t.seq + 1)) = true := cmdB_iff.2 ⟨hok, by show 0 < t.id; omega, by show 0 < t.seq + 1; omega⟩
      have hE : cmdE (p.1.num t.id (t.seq + 1)) = 0 := by unfold cmdE; rw [if_pos hcmd]
      obtain ⟨q0, l0, hl⟩ : ∃ q0 l0, lw = q0 :: l0 := by
        cases lw with
        | nil => rw [hp] at hlen; simp at hlen
        | cons a l => exact ⟨a, l, rfl⟩
      have e0 : q0.1 = p.1.num 0 0 := by
        have := h.ew
        rw [hl, hp] at this
        simpa using (List.cons.inj this).1
      have e1 : q0.1.num t.id (t.seq + 1) = p.1.num t.id (t.seq + 1) := by rw [e0]; rfl
      refine ⟨t.to, cmdS (p.1.num t.id (t.seq + 1)), true, fun _ => rfl, fun W hW => ?_, fun W hW => ?_⟩
      · refine (Ask_event S b t p r W (h.tel.below hW) hp hi hsq.1 (by omega) (Evt.ok_small hok) hwf).mono ?_
        rintro _ w' ⟨rfl, hb⟩
        exact ⟨by rw [hE]; rfl, hb⟩
      · have hr := h.wait.below hW
        rw [show lw = (q0.1, q0.2) :: l0 from hl] at hr
        refine (rAsk_event t.nodes t.to t.id t.seq Aw Ar _ lr.length cw cr q0.1 q0.2 l0 ok W (by rw [hl]; exact hr) hi hsq.1 (by omega) (by rw [e1]; exact (Evt.ok_small hok)) (by rw [e1]; exact hwf)).mono ?_
        rintro _ w' ⟨rfl, hb⟩
        exact ⟨by rw [e1, hE]; rfl, hb⟩
theorem evts_at {w : World} {ok : Nat → Prop} {v : Value} {l : List (Evt × Value)} (h : REvs w ok v l) {k : Nat} {p : Evt × Value} (hp : l[k]? = some p) {A : Option Addr} {n c : Nat} (hv : v = .slice A n c) :
    ∃ g o, A = some ⟨g, o, none⟩ ∧ ok g ∧ g < w.heap.size ∧ ∀ i u, (evC p.1 p.2)[i]? = some u → w.cell? ⟨g, o + k * 5 + i, none⟩ = some u := by
  subst hv
  exact h.1.row (k := k) (r := evC p.1 p.2) (by unfold evRows; rw [List.getElem?_map, hp]; rfl)
/-- One block of one's own is kept. -/
def Kq (w : World) (R : Obj) (W : World) : Prop := Below w.heap.size w W ∧ W.heap[w.heap.size]? = some R
theorem Kq.begin (w : World) (R : Obj) : Kq w R (w.alloc R) := ⟨(Below.refl _ _).alloc (Nat.le_refl _) R, Mem.new w R⟩
theorem Kq.step {w W W1 : World} {R : Obj} (h : Kq w R W) (hb : Below W.heap.size W W1) : Kq w R W1 := ⟨h.1.trans (hb.mono h.1.size), (hb.block _ (Mem.lt h.2)).trans h.2⟩
theorem Kq.alloc {w W : World} {R : Obj} (h : Kq w R W) (o : Obj) : Kq w R (W.alloc o) := h.step ((Below.refl _ _).alloc (Nat.le_refl _) o)
set_option maxRecDepth 100000 in
set_option maxHeartbeats 4000000 in
theorem told_any {w : World} {S ok : Nat → Prop} {b : Nat} {t : Tl} {vw vr : Value} {lw lr : List (Evt × Value)} {n : Nat} (h : Tm w S ok b t vw vr lw lr n) (hn : n ≤ 1000) :
    Calls Try.prog 16 #[.pointer (some ⟨b, 0, none⟩), rtl t.nodes t.to t.id t.seq vw vr] w fun r w' => r = .returned (.bool true) ∧ Below w.heap.size w w' := by
  obtain ⟨to, s, q, hto, hA, hR⟩ := ask_pair h hn
  obtain ⟨Aw, cw, rfl⟩ := rd_len h.wait
  obtain ⟨Ar, cr, rfl⟩ := rd_len h.refd
  have HT := Lib.hid h
  have HA := Lib.hid hA
  have HR := Lib.hid hR
  have hlw : lw.length = t.wait.length := by have := congrArg List.length h.ew; simpa using this
  have hlr : lr.length = t.refused.length := by have := congrArg List.length h.er; simpa using this
  have HLW := Lib.hid hlw
  have HLR := Lib.hid hlr
  have HTO := Lib.hid hto
  clear h hA hR hlw hlr hto
  have HK := Lib.hid (Kq.begin w (.cells #[.int .i64 t.nodes, .int .i64 t.to, .int .i64 t.id, .int .i64 t.seq, .slice Aw lw.length cw, .slice Ar lr.length cr] 28))
  go_enter Try.func16, Try.ntmps16
  go_wp2_with (go_at_call 28; refine (HA.out _ HK.out.1).mono ?_; rintro _ w1 ⟨rfl, hb1⟩; have HK := Lib.hid ((HK.out.step hb1).alloc (.cells #[.int .i64 to, .string s, .string ⟨#[]⟩, .int .i64 0, .int .i64 0] 63)); clear hb1; have r0 := Mem.cell HK.out.2 (j := 0) rfl; have r1 := Mem.cell HK.out.2 (j := 1) rfl; have r2 := Mem.cell HK.out.2 (j := 2) rfl; have r3 := Mem.cell HK.out.2 (j := 3) rfl; have r4 := Mem.cell HK.out.2 (j := 4) rfl; have r5 := Mem.cell HK.out.2 (j := 5) rfl)
  refine (HR.out _ HK.out.1).mono ?_
  rintro _ w3 ⟨rfl, hb3⟩
  have hx3 := (hb3.block _ (by simp)).trans (Mem.new w1 _)
  have HK3 := Lib.hid (HK.out.step hb3)
  have HX3 := Lib.hid hx3
  clear hb3 hx3 HK r0 r1 r2 r3 r4 r5
  have HT3 := Lib.hid (HT.out.tel.below HK3.out.1)
  go_wp2_with (go_at_call 29; refine (Session_any S b t _ HT3.out).mono ?_; rintro _ w4 ⟨rfl, hb4⟩)
  have HK4 := Lib.hid (HK3.out.step hb4)
  have hx4 := (hb4.block _ (Mem.lt HX3.out)).trans HX3.out
  have HX4 := Lib.hid hx4
  have HT4 := Lib.hid (HT3.out.below hb4)
  have z1 : w.heap.size < w4.heap.size := Mem.lt HK4.out.2
  have z2 : w1.heap.size < w4.heap.size := Mem.lt hx4
  have r1 := Mem.cell HK4.out.2 (j := 1) rfl
  have r2 := Mem.cell HK4.out.2 (j := 2) rfl
  have r3 := Mem.cell HK4.out.2 (j := 3) rfl
  have r4 := Mem.cell HK4.out.2 (j := 4) rfl
  have x0 := Mem.cell hx4 (j := 0) rfl
  have x1 := Mem.cell hx4 (j := 1) rfl
  have x2 := Mem.cell hx4 (j := 2) rfl
  have x3 := Mem.cell hx4 (j := 3) rfl
  have x4 := Mem.cell hx4 (j := 4) rfl
  have hto := HTO.out
  rw [HLW.out] at r4
  clear hb4 hx4 HX3 HK3 HT3
  have hq : q = false ∨ (q = true ∧ to = t.to) := by
    cases q
    · exact .inl rfl
    · exact .inr ⟨rfl, hto rfl⟩
  have hrl : ∀ p ∈ t.refused, p.1.fields.length ≤ 100 := fun p hp => by have := (HT.out.good p (.inr hp)).1.2.2.2.2.1; exact Nat.le_trans this (by decide)
  have HRL := Lib.hid hrl
  clear hto hrl
  rcases hq with rfl | ⟨rfl, rfl⟩
  all_goals
    refine Mem.wp_region_after (by kernel_rfl) (by kernel_rfl) ?_
    repeat (go_big_quiet_step ((go_at_call 30; exact Mem.After.call _ (Left_any S b t _ (HT4.out.below (Mem.After.h _))))))
    refine wpQuiet_nil ?_
    intro w5 hb5
    have HK5 := Lib.hid (HK4.out.step hb5)
    have HT5 := Lib.hid (HT4.out.below hb5)
    clear hb5
    have hmx : lr.length ≤ 1000 := by have := HT.out.refs; have := HLR.out; omega
    have hmx2 : ((lr.length : Nat) : Int) ≤ 1000 := by omega
    go_wp2_with fail
    refine (Refused_any S b t _ HT5.out (by have := HT.out.refs; omega) HRL.out).mono ?_
    rintro _ w6 ⟨v, l, rfl, hE, hl, hb6⟩
    have hel : l.map Prod.fst = lr.map Prod.fst := by rw [hl, HT.out.er]
    have hll : l.length = lr.length := by have := congrArg List.length hel; simpa using this
    have hre : REvs w6 (fun _ => True) v l := by
      have ho := hE.1
      rw [evs_flat] at ho
      exact ⟨(Rd_of_q (rows := evRows l) (Qu.q_of_own ho) (by simp [evRows]) (evRows_len l)).mono (fun _ _ => trivial), fun p hp => (hE.2 p hp).mono (fun _ _ => trivial)⟩
    obtain ⟨Al, cl, rfl⟩ := rd_len hre
    have hK6 := HK5.out.step hb6
    have r56 := Mem.cell hK6.2 (j := 5) rfl
    have hlr6 := HT.out.refd.below hK6.1
    have HRE := Lib.hid hre
    have HLR6 := Lib.hid hlr6
    have HK6 := Lib.hid hK6
    have HEL := Lib.hid hel
    rw [hll]
    clear hE hl hre hlr6 hK6 hel hb6
    have HLL := Lib.hid hll
    clear hll
    go_wp2_with fail
    go_loopw [12] (fun i wr => ∃ k : Nat, k ≤ lr.length ∧ i = .int .i64 k ∧ Below w6.heap.size w6 wr) (fun i _ => lr.length - (intOf i).toNat)
    case atStart => exact ⟨0, Nat.zero_le _, rfl, Below.refl _ _⟩
    case round =>
      obtain ⟨k, hk, rfl, hbel⟩ := hrel
      have hR : wr.cell? ⟨w.heap.size, 5, none⟩ = some (.slice Ar lr.length cr) := (hbel.cell (p := ⟨w.heap.size, 5, none⟩) (Mem.lt HK6.out.2)).trans r56
      have hR0 : w.heap.size < wr.heap.size := Nat.lt_of_lt_of_le (Mem.lt HK6.out.2) hbel.size
      by_cases hlt : k < lr.length
      · obtain ⟨p, hp⟩ : ∃ p, l[k]? = some p := ⟨_, List.getElem?_eq_getElem (by rw [HLL.out]; exact hlt)⟩
        obtain ⟨p', hp'⟩ : ∃ p', lr[k]? = some p' := ⟨_, List.getElem?_eq_getElem hlt⟩
        have hpp : p.1 = p'.1 := by
          have := congrArg (fun x => x[k]?) HEL.out
          simp only [List.getElem?_map, hp, hp', Option.map_some, Option.some.injEq] at this
          exact this
        obtain ⟨g, o, rfl, _, hg, hc⟩ := evts_at (HRE.out.below hbel) hp rfl
        obtain ⟨g', o', rfl, _, hg', hc'⟩ := evts_at (HLR6.out.below hbel) hp' rfl
        have he := (HRE.out.below hbel).2 p (List.mem_of_getElem? hp)
        have he' := (HLR6.out.below hbel).2 p' (List.mem_of_getElem? hp')
        have hfl : p'.1.fields.length ≤ 100 := by
          have h1 : p'.1 ∈ t.refused.map (fun p => p.1.num 0 0) := by rw [← HT.out.er]; exact List.mem_map.2 ⟨p', List.mem_of_getElem? hp', rfl⟩
          obtain ⟨x, hx, e⟩ := List.mem_map.1 h1
          rw [← e]
          exact HRL.out x hx
        obtain ⟨e1, v1⟩ := p
        obtain ⟨e2, v2⟩ := p'
        dsimp only at hpp he he' hfl hc hc'
        subst hpp
        have c0 : wr.cell? ⟨g, o + k * 5, none⟩ = some (.int .i64 e1.session) := hc 0 _ rfl
        have c1 := hc 1 _ rfl
        have c2 := hc 2 _ rfl
        have c3 := hc 3 _ rfl
        have c4 := hc 4 _ rfl
        have d0 : wr.cell? ⟨g', o' + k * 5, none⟩ = some (.int .i64 e1.session) := hc' 0 _ rfl
        have d1 := hc' 1 _ rfl
        have d2 := hc' 2 _ rfl
        have d3 := hc' 3 _ rfl
        have d4 := hc' 4 _ rfl
        obtain ⟨A1, k1, rfl⟩ := he.slice
        obtain ⟨A2, k2, rfl⟩ := he'.slice
        have HE := Lib.hid he
        have HE' := Lib.hid he'
        have HBEL := Lib.hid hbel
        clear he he' hbel hc hc' hp hp'
        have HS : ∀ W, Below wr.heap.size wr W → W.cell? ⟨w.heap.size, 5, none⟩ = some (.slice (some ⟨g', o', none⟩) lr.length cr) ∧ W.cell? ⟨g, o + k * 5, none⟩ = some (.int .i64 e1.session) ∧ W.cell? ⟨g, o + k * 5 + 1, none⟩ = some (.int .i64 e1.seq) ∧ W.cell? ⟨g, o + k * 5 + 2, none⟩ = some (.int .i64 e1.stamp) ∧ W.cell? ⟨g, o + k * 5 + 3, none⟩ = some (.string e1.kind) ∧ W.cell? ⟨g, o + k * 5 + 4, none⟩ = some (.slice A1 e1.fields.length k1) ∧
            W.cell? ⟨g', o' + k * 5, none⟩ = some (.int .i64 e1.session) ∧ W.cell? ⟨g', o' + k * 5 + 1, none⟩ = some (.int .i64 e1.seq) ∧ W.cell? ⟨g', o' + k * 5 + 2, none⟩ = some (.int .i64 e1.stamp) ∧ W.cell? ⟨g', o' + k * 5 + 3, none⟩ = some (.string e1.kind) ∧ W.cell? ⟨g', o' + k * 5 + 4, none⟩ = some (.slice A2 e1.fields.length k2) ∧ Below wr.heap.size wr W := fun W hW =>
          ⟨(hW.cell (p := ⟨w.heap.size, 5, none⟩) hR0).trans hR, (hW.cell (p := ⟨g, _, none⟩) hg).trans c0, (hW.cell (p := ⟨g, _, none⟩) hg).trans c1, (hW.cell (p := ⟨g, _, none⟩) hg).trans c2, (hW.cell (p := ⟨g, _, none⟩) hg).trans c3, (hW.cell (p := ⟨g, _, none⟩) hg).trans c4,
            (hW.cell (p := ⟨g', _, none⟩) hg').trans d0, (hW.cell (p := ⟨g', _, none⟩) hg').trans d1, (hW.cell (p := ⟨g', _, none⟩) hg').trans d2, (hW.cell (p := ⟨g', _, none⟩) hg').trans d3, (hW.cell (p := ⟨g', _, none⟩) hg').trans d4, hW⟩
        have HSS := Lib.hid HS
        clear HS
        go_wp2_with fail
        go_region_held3 (fun W => W.cell? ⟨w.heap.size, 5, none⟩ = some (.slice (some ⟨g', o', none⟩) lr.length cr) ∧ W.cell? ⟨g, o + k * 5, none⟩ = some (.int .i64 e1.session) ∧ W.cell? ⟨g, o + k * 5 + 1, none⟩ = some (.int .i64 e1.seq) ∧ W.cell? ⟨g, o + k * 5 + 2, none⟩ = some (.int .i64 e1.stamp) ∧ W.cell? ⟨g, o + k * 5 + 3, none⟩ = some (.string e1.kind) ∧ W.cell? ⟨g, o + k * 5 + 4, none⟩ = some (.slice A1 e1.fields.length k1) ∧
            W.cell? ⟨g', o' + k * 5, none⟩ = some (.int .i64 e1.session) ∧ W.cell? ⟨g', o' + k * 5 + 1, none⟩ = some (.int .i64 e1.seq) ∧ W.cell? ⟨g', o' + k * 5 + 2, none⟩ = some (.int .i64 e1.stamp) ∧ W.cell? ⟨g', o' + k * 5 + 3, none⟩ = some (.string e1.kind) ∧ W.cell? ⟨g', o' + k * 5 + 4, none⟩ = some (.slice A2 e1.fields.length k2) ∧ Below wr.heap.size wr W)
          (first | exact HSS.out _ HB8.out | exact HSS.out _ HB7.out | exact HSS.out _ (Below.refl _ _).drew)
          (first
            | (go_at_call 10
               refine (Ref_any e1 _ (fun _ => True) _ (HE.out.below (by obtain ⟨_, _, _, _, _, _, _, _, _, _, _, hh⟩ := ‹_ ∧ _›; exact hh)) hfl).mono ?_
               rintro _ w7 ⟨v7, rfl, hev7, hb7⟩
               obtain ⟨A7, k7, rfl⟩ := hev7.slice
               have HB7 := Lib.hid (Below.trans (by obtain ⟨_, _, _, _, _, _, _, _, _, _, _, hh⟩ := ‹_ ∧ _›; exact hh) (hb7.mono (by obtain ⟨_, _, _, _, _, _, _, _, _, _, _, hh⟩ := ‹_ ∧ _›; exact hh.size)))
               have HE7 := Lib.hid hev7
               clear hb7 hev7)
            | (go_at_call 47
               refine (Same_self e1 _ _ _ _ _ HE7.out (HE'.out.below HB7.out)).mono ?_
               rintro _ w8 ⟨rfl, hb8⟩
               have HB8 := Lib.hid (Below.trans HB7.out (hb8.mono HB7.out.size))
               clear hb8))
        go_wp2_with fail
        go_roundw
        case rel => exact ⟨k + 1, by omega, by go_num, HBEL.out.trans (HB8.out.mono HBEL.out.size)⟩
        case measure => simp [intOf]; omega
      · go_wp2_with fail
        go_ret
        exact ⟨rfl, HK6.out.1.trans (hbel.mono HK6.out.1.size)⟩
end Go.Proofs.Ytbiicflcjipeeaa
