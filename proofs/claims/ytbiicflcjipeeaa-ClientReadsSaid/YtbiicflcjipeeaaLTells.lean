/- The walk of the law ClientTells. -/
import Derived.Test.YtbiicflcjipeeaaLSt
import Derived.Deep.RegionHeld3
namespace Go.Proofs.Ytbiicflcjipeeaa
open Go.RowKit
set_option linter.unusedSimpArgs false
set_option linter.unusedVariables false
attribute [local go_sem] Mem.run_store_float Mem.After.cell
/-- An act's values. -/
structure ActV where
  kind : Int
  e : Evt
  vf : Value
  err : Int
  num : Int
  lead : Int
  n : Int
  Al : Option Addr
  nl : Nat
  cl : Nat
def ActV.cells (a : ActV) : List Value := [.int .i64 a.kind, .int .i64 a.e.session, .int .i64 a.e.seq, .int .i64 a.e.stamp, .string a.e.kind, a.vf, .int .i64 a.err, .int .i64 a.num, .int .i64 a.lead, .int .i64 a.n, .slice a.Al a.nl a.cl]
/-- Acts that are read. -/
def Acts (w : World) (v : Value) (l : List ActV) : Prop := Mem.Rd w (fun k => k < w.heap.size) 11 v (l.map ActV.cells) ∧ ∀ a ∈ l, EvR w (fun k => k < w.heap.size) a.e a.vf ∧ a.e.small ∧ a.e.wf ∧ IsI64 a.num
set_option maxRecDepth 100000 in
set_option maxHeartbeats 2000000 in
theorem tells_no (nodes : Int) (A : Option Addr) (n c : Nat) (w : World) (h : nodes < 1 ∨ 7 < nodes) :
    Calls Try.prog 3 #[.int .i64 nodes, .slice A n c] w fun r w' => r = .returned (.bool true) ∧ Below w.heap.size w w' := by
  have HH := Lib.hid h
  rcases h with h | h
  all_goals
    go_enter Try.func3, Try.ntmps3
    go_wp2_with (first
      | (go_at_call 7; refine (NewTeller_no _ _ HH.out).mono ?_; rintro _ w1 ⟨rfl, rfl⟩)
      | (go_at_call 8; refine (awake_any _).mono ?_; rintro _ w2 ⟨rfl, hb⟩))
    go_ret
    exact ⟨rfl, hb⟩
/-- What stands ahead of act number k: the document's teller lies in block rb, the program's in b; all is new. -/
def LRel (B rb b len : Nat) (w : World) (i : Value) (wr : World) : Prop := ∃ (k : Nat) (s : St) (S ok : Nat → Prop) (vw vr : Value), k ≤ len ∧ k ≤ 300 ∧ i = .int .i64 k ∧ Inv s k ∧ Prg wr S b s ∧ Doc wr ok s (rtl s.nodes s.to s.id s.seq vw vr) ∧
  wr.heap[rb]? = some (.cells #[.int .i64 s.nodes, .int .i64 s.to, .int .i64 s.id, .int .i64 s.seq, vw, vr] 28 (0, 0)) ∧
  (∀ k, S k → B ≤ k ∧ k < wr.heap.size ∧ k ≠ rb) ∧ (∀ k, ok k → B ≤ k ∧ k < wr.heap.size ∧ ¬ S k ∧ k ≠ rb) ∧ Below B w wr
/-- The same, of a state that is named. -/
def LB (B rb b n : Nat) (w wr : World) (s : St) (S ok : Nat → Prop) (vw vr : Value) : Prop := Inv s n ∧ Prg wr S b s ∧ Doc wr ok s (rtl s.nodes s.to s.id s.seq vw vr) ∧
  wr.heap[rb]? = some (.cells #[.int .i64 s.nodes, .int .i64 s.to, .int .i64 s.id, .int .i64 s.seq, vw, vr] 28 (0, 0)) ∧
  (∀ k, S k → B ≤ k ∧ k < wr.heap.size ∧ k ≠ rb) ∧ (∀ k, ok k → B ≤ k ∧ k < wr.heap.size ∧ ¬ S k ∧ k ≠ rb) ∧ Below B w wr
theorem LB.below {B rb b n : Nat} {w wr W : World} {s : St} {S ok : Nat → Prop} {vw vr : Value} (h : LB B rb b n w wr s S ok vw vr) (hB : B ≤ wr.heap.size) (hb : Below wr.heap.size wr W) : LB B rb b n w W s S ok vw vr := by
  obtain ⟨hI, hP, hD, hY, hS, hok, hbel⟩ := h
  have hz := hb.size
  exact ⟨hI, hP.below hb, hD.below hb, (hb.block _ (Mem.lt hY)).trans hY, fun j hj => by have := hS j hj; omega, fun j hj => by have := hok j hj; exact ⟨this.1, by omega, this.2.2⟩, hbel.trans (hb.mono hB)⟩
theorem LB.rel {B rb b len k : Nat} {w wr : World} {s : St} {S ok : Nat → Prop} {vw vr : Value} (h : LB B rb b (k + 1) w wr s S ok vw vr) (hk : k < len) (h3 : k < 300) : LRel B rb b len w (.int .i64 ((k : Int) + 1)) wr := by
  obtain ⟨hI, hP, hD, hY, hS, hok, hbel⟩ := h
  exact ⟨k + 1, s, S, ok, vw, vr, by omega, by omega, by go_num, hI, hP, hD, hY, hS, hok, hbel⟩
theorem LB.more {B rb b n : Nat} {w wr : World} {s : St} {S ok : Nat → Prop} {vw vr : Value} (h : LB B rb b n w wr s S ok vw vr) : LB B rb b (n + 1) w wr s S ok vw vr := ⟨h.1.more, h.2⟩
/-- Six cells written anew. -/
theorem set6 {w : World} {rb t : Nat} {c0 c1 c2 c3 c4 c5 : Value} (d0 d1 d2 d3 d4 d5 : Value) (h : w.heap[rb]? = some (.cells #[c0, c1, c2, c3, c4, c5] t (0, 0))) :
    Mem.Ch (fun k => k = rb) w ((((((w.setCell ⟨rb, 0, none⟩ d0).setCell ⟨rb, 1, none⟩ d1).setCell ⟨rb, 2, none⟩ d2).setCell ⟨rb, 3, none⟩ d3).setCell ⟨rb, 4, none⟩ d4).setCell ⟨rb, 5, none⟩ d5) ∧
    ((((((w.setCell ⟨rb, 0, none⟩ d0).setCell ⟨rb, 1, none⟩ d1).setCell ⟨rb, 2, none⟩ d2).setCell ⟨rb, 3, none⟩ d3).setCell ⟨rb, 4, none⟩ d4).setCell ⟨rb, 5, none⟩ d5).heap[rb]? = some (.cells #[d0, d1, d2, d3, d4, d5] t (0, 0)) ∧
    ((((((w.setCell ⟨rb, 0, none⟩ d0).setCell ⟨rb, 1, none⟩ d1).setCell ⟨rb, 2, none⟩ d2).setCell ⟨rb, 3, none⟩ d3).setCell ⟨rb, 4, none⟩ d4).setCell ⟨rb, 5, none⟩ d5).heap.size = w.heap.size := by
  refine ⟨((((((Mem.Ch.refl (fun k => k = rb) w).set (.inr rfl)).set (.inr rfl)).set (.inr rfl)).set (.inr rfl)).set (.inr rfl)).set (.inr rfl), ?_, by simp [World.setCell]⟩
  have := Mem.set (j := 5) (u := d5) (Mem.set (j := 4) (u := d4) (Mem.set (j := 3) (u := d3) (Mem.set (j := 2) (u := d2) (Mem.set (j := 1) (u := d1) (Mem.set (j := 0) (u := d0) h)))))
  simpa using this
/-- Both have done an act. -/
theorem LB.act {B rb b n : Nat} {w wr w3 W w4 : World} {s s' : St} {S ok okd S4 : Nat → Prop} {vw vr vw' vr' : Value} (h : LB B rb b n w wr s S ok vw vr) (hB : B ≤ wr.heap.size) (hrb : B ≤ rb)
    (h3 : Below wr.heap.size wr w3) (hd : Doc w3 okd s' (rtl s'.nodes s'.to s'.id s'.seq vw' vr')) (hokd : ∀ k, okd k → ok k ∨ wr.heap.size ≤ k)
    (hW : Mem.Ch (fun k => k = rb) w3 W) (hWr : W.heap[rb]? = some (.cells #[.int .i64 s'.nodes, .int .i64 s'.to, .int .i64 s'.id, .int .i64 s'.seq, vw', vr'] 28 (0, 0))) (hWz : W.heap.size = w3.heap.size)
    (h4 : Mem.Ch S W w4) (hp : Prg w4 S4 b s') (hS4 : ∀ k, S4 k → S k ∨ (w3.heap.size ≤ k ∧ k < w4.heap.size)) (hI : Inv s' (n + 1)) : LB B rb b (n + 1) w w4 s' S4 (fun k => okd k ∧ k < w3.heap.size) vw' vr' := by
  obtain ⟨_, hP, hD, hY, hS, hok, hbel⟩ := h
  have hlY := Mem.lt hY
  have z3 := h3.size
  have z4 := h4.size
  have nS : ¬ S rb := fun hh => (hS rb hh).2.2 rfl
  have nok : ∀ k, okd k → k < w3.heap.size → B ≤ k ∧ ¬ S k ∧ k ≠ rb := fun k hk hl => by
    rcases hokd k hk with h | h
    · have := hok k h; exact ⟨this.1, this.2.2.1, this.2.2.2⟩
    · exact ⟨by omega, fun hh => by have := hS k hh; omega, by omega⟩
  refine ⟨hI, hp, hd.lt.step (by omega) (fun k hk hl => ?_), h4.at_ hWr nS, fun k hk => ?_, fun k hk => ?_, ?_⟩
  · have := nok k hk.1 hk.2
    exact (h4.block k (by omega) this.2.1).trans (hW.block k hk.2 this.2.2)
  · rcases hS4 k hk with h | h
    · have := hS k h; omega
    · omega
  · have := nok k hk.1 hk.2
    refine ⟨this.1, by omega, fun hh => ?_, this.2.2⟩
    rcases hS4 k hh with h | h
    · exact this.2.1 h
    · omega
  · refine (hbel.trans (h3.mono hB)).trans ?_
    refine Below.trans (hW.below (fun k h1 h2 => by omega) (by omega)) (h4.below (fun k h1 h2 => by have := hS k h2; omega) (by omega))
set_option maxRecDepth 100000 in
set_option maxHeartbeats 4000000 in
theorem tells_yes (nodes : Int) (v : Value) (l : List ActV) (w : World) (h1 : 1 ≤ nodes) (h7 : nodes ≤ 7) (hR : Acts w v l) (hl : l.length ≤ 4611686018427387904) :
    Calls Try.prog 3 #[.int .i64 nodes, v] w fun r w' => r = .returned (.bool true) ∧ Below w.heap.size w w' := by
  obtain ⟨A, cap, rfl⟩ := hR.1.slice
  rw [List.length_map]
  have HR := Lib.hid hR
  clear hR
  have hl' : ((l.length : Nat) : Int) ≤ 4611686018427387904 := by omega
  go_enter Try.func3, Try.ntmps3
  go_wp2_with fail
  refine (NewTeller_yes nodes _ h1 h7).mono ?_
  rintro _ w1 ⟨b, rfl, hb1, hbb, ht1⟩
  have HT1 := Lib.hid ht1
  have HB1 := Lib.hid hb1
  have hz1 := hb1.size
  clear ht1 hb1
  have e0 : IntKind.i64.wrap nodes = nodes := IntWalk.i64_in _ (by omega)
  go_wp2_with fail
  refine (awake_any _).mono ?_
  rintro _ w2 ⟨rfl, hb2⟩
  have hY := (hb2.block _ (by simp)).trans (Mem.new w1 _)
  have hB2 : Below w.heap.size w w2 := (HB1.out.alloc hz1 _).trans (hb2.mono (by simp; omega))
  have hP : Prg w2 (fun k => w.heap.size ≤ k ∧ k < w1.heap.size) b ⟨nodes, 0, 0, 0, [], []⟩ := ⟨[], [], (HT1.out.below ((Below.refl _ _).alloc (Nat.le_refl _) _)).below hb2, rfl, rfl⟩
  have hD : Doc w2 (fun _ => False) ⟨nodes, 0, 0, 0, [], []⟩ (rtl nodes 0 0 0 (.slice none 0 0) (.slice none 0 0)) :=
    ⟨_, _, [], [], rfl, ⟨Mem.Rd.nil _ _ _, fun p hp => by simp at hp⟩, ⟨Mem.Rd.nil _ _ _, fun p hp => by simp at hp⟩, rfl, rfl⟩
  have hI : Inv ⟨nodes, 0, 0, 0, [], []⟩ 0 := ⟨h1, h7, by show (0 : Int) ≤ 0; omega, by show (0 : Int) < nodes; omega, fun e he => by simp at he, by show (0 : Int) ≤ 0; omega, by show (0 : Int) ≤ _; omega, by show (0 : Int) ≤ 0; omega, by show (0 : Int) ≤ _; omega, by simp⟩
  have hz2 : w1.heap.size < w2.heap.size := Mem.lt hY
  have HX := Lib.hid (And.intro hY (And.intro hB2 (And.intro hP (And.intro hD hI))))
  clear hY hB2 hP hD hI hb2 HT1 HB1
  go_wp2_with fail
  go_loopw [7] (fun i wr => LRel w.heap.size w1.heap.size b l.length w i wr) (fun i _ => l.length - (intOf i).toNat)
  case atStart => exact ⟨0, _, _, _, _, _, Nat.zero_le _, Nat.zero_le _, rfl, HX.out.2.2.2.2, HX.out.2.2.1, HX.out.2.2.2.1, HX.out.1, fun k hk => by have hk' : w.heap.size ≤ k ∧ k < w1.heap.size := hk; omega, fun k hk => hk.elim, HX.out.2.1⟩
  case round =>
    obtain ⟨k, s, S, ok, vw, vr, hk, hk3, rfl, hI, hP, hD, hY, hS, hok, hbel⟩ := hrel
    have hlY := Mem.lt hY
    have HX2 : Hid (LB w.heap.size w1.heap.size b k w wr s S ok vw vr) := Lib.hid ⟨hI, hP, hD, hY, hS, hok, hbel⟩
    have q0 := Mem.cell hY (j := 0) rfl
    have q1 := Mem.cell hY (j := 1) rfl
    have q2 := Mem.cell hY (j := 2) rfl
    have q3 := Mem.cell hY (j := 3) rfl
    have q4 := Mem.cell hY (j := 4) rfl
    have q5 := Mem.cell hY (j := 5) rfl
    clear hI hP hD hY hS hok hbel
    by_cases hlt : k < l.length
    · by_cases hlt3 : k < 300
      · obtain ⟨a, ha⟩ : ∃ a, l[k]? = some a := ⟨_, List.getElem?_eq_getElem hlt⟩
        obtain ⟨g, o, rfl, hgB, hgl, hrow⟩ := (Mem.Rd.below HR.out.1 HX2.out.2.2.2.2.2.2).row (k := k) (r := a.cells) (by rw [List.getElem?_map, ha]; rfl)
        have hA := HR.out.2 a (List.mem_of_getElem? ha)
        obtain ⟨Af, cf, hvf⟩ := hA.1.slice
        obtain ⟨kind, e, vf, err, num, lead, n, Al, nl, cl⟩ := a
        dsimp only [ActV.cells] at hvf hrow hA
        subst hvf
        have c0 : wr.cell? ⟨g, o + k * 11, none⟩ = some (.int .i64 kind) := hrow 0 _ rfl
        have c1 := hrow 1 _ rfl
        have c2 := hrow 2 _ rfl
        have c3 := hrow 3 _ rfl
        have c4 := hrow 4 _ rfl
        have c5 := hrow 5 _ rfl
        have c6 := hrow 6 _ rfl
        have c7 := hrow 7 _ rfl
        have c8 := hrow 8 _ rfl
        have c9 := hrow 9 _ rfl
        have c10 := hrow 10 _ rfl
        have HA := Lib.hid hA
        clear hrow hA ha
        have hlt' : (k : Int) < (l.length : Int) := by omega
        have hlt3' : (k : Int) < 300 := by omega
        by_cases hf : 20 < e.fields.length
        · have hf' : (20 : Int) < (e.fields.length : Int) := by omega
          go_wp2_with fail
          go_roundw
          case rel => exact LB.rel (LB.below HX2.out HX2.out.2.2.2.2.2.2.size ((Below.refl _ _).alloc (Nat.le_refl _) _)).more hlt hlt3
          case measure => simp [intOf]; omega
        · have hf' : ¬ (20 : Int) < (e.fields.length : Int) := by omega
          have hwr := HX2.out.2.2.2.2.2.2.size
          obtain ⟨X, hXe⟩ : ∃ X, X = Obj.cells #[.int .i64 kind, .int .i64 e.session, .int .i64 e.seq, .int .i64 e.stamp, .string e.kind, .slice Af e.fields.length cf, .int .i64 err, .int .i64 num, .int .i64 lead, .int .i64 n, .slice Al nl cl] 37 := ⟨_, rfl⟩
          have hbX := (Below.refl wr.heap.size wr).alloc (Nat.le_refl _) X
          have HL := Lib.hid (LB.below HX2.out hwr hbX)
          have hX := Mem.new wr X
          have HXX := Lib.hid (And.intro hXe (And.intro hbX hX))
          clear hXe hbX hX
          have hkk : (kind ≠ 0 ∧ kind ≠ 1 ∧ kind ≠ 2) ∨ kind = 0 ∨ kind = 1 ∨ kind = 2 := by omega
          rcases hkk with ⟨k0, k1, k2⟩ | rfl | rfl | rfl
          · have k0' : (kind == 0) = false := by simpa using k0
            have k1' : (kind == 1) = false := by simpa using k1
            have k2' : (kind == 2) = false := by simpa using k2
            clear k0 k1 k2
            go_wp2_with fail
            rw [← HXX.out.1]
            refine (told_st HL.out.2.1 HL.out.2.2.1 HL.out.1 (by omega)).mono ?_
            rintro _ w9 ⟨rfl, hb9⟩
            have HL9 := Lib.hid ((LB.below HL.out (by simp; omega) hb9).more)
            clear hb9
            go_wp2_with fail
            go_roundw
            case rel => exact HL9.out.rel hlt hlt3
            case measure => simp [intOf]; omega
          · -- ACT add
            have hfl : e.fields.length ≤ 100 := by omega
            have HSS := Lib.hid (show ∀ W : World, W.heap[wr.heap.size]? = some X → W.cell? ⟨wr.heap.size, 1, none⟩ = some (.int .i64 e.session) ∧ W.cell? ⟨wr.heap.size, 2, none⟩ = some (.int .i64 e.seq) ∧ W.cell? ⟨wr.heap.size, 3, none⟩ = some (.int .i64 e.stamp) ∧ W.cell? ⟨wr.heap.size, 4, none⟩ = some (.string e.kind) ∧ W.cell? ⟨wr.heap.size, 5, none⟩ = some (.slice Af e.fields.length cf) from fun W hW => by rw [HXX.out.1] at hW; exact ⟨Mem.cell hW rfl, Mem.cell hW rfl, Mem.cell hW rfl, Mem.cell hW rfl, Mem.cell hW rfl⟩)
            have HEX := Lib.hid (show EvR (wr.alloc X) (fun k => k < w.heap.size) e (.slice Af e.fields.length cf) from EvR.below HA.out.1 HL.out.2.2.2.2.2.2)
            go_wp2_with fail
            rw [← HXX.out.1]
            obtain ⟨y1, y2, y3, y4, y5⟩ := HSS.out _ HXX.out.2.2
            have ye0 := Mem.cell HL.out.2.2.2.1 (j := 0) rfl
            have ye1 := Mem.cell HL.out.2.2.2.1 (j := 1) rfl
            have ye2 := Mem.cell HL.out.2.2.2.1 (j := 2) rfl
            have ye3 := Mem.cell HL.out.2.2.2.1 (j := 3) rfl
            have ye4 := Mem.cell HL.out.2.2.2.1 (j := 4) rfl
            have ye5 := Mem.cell HL.out.2.2.2.1 (j := 5) rfl
            go_region_with (first
                | (go_at_call 10
                   refine (Ref_any e _ (fun k => k < w.heap.size) _ (EvR.below HEX.out (Below.refl _ _).drew) hfl).mono ?_
                   rintro _ w7 ⟨v7, rfl, hev7, hb7'⟩
                   obtain ⟨A7, k7, rfl⟩ := hev7.slice
                   have hb7 : Below (wr.alloc X).heap.size (wr.alloc X) w7 := (Below.refl _ _).drew.trans hb7'
                   have HX7 := Lib.hid ((hb7.block _ (by simp)).trans HXX.out.2.2)
                   have hY7 := (hb7.block _ (Mem.lt HL.out.2.2.2.1)).trans HL.out.2.2.2.1
                   have o0 := Mem.cell hY7 (j := 0) rfl
                   have o1 := Mem.cell hY7 (j := 1) rfl
                   have o2 := Mem.cell hY7 (j := 2) rfl
                   have o3 := Mem.cell hY7 (j := 3) rfl
                   have o4 := Mem.cell hY7 (j := 4) rfl
                   have o5 := Mem.cell hY7 (j := 5) rfl
                   have HD7 := Lib.hid ((Doc.below HL.out.2.2.1 hb7).mono (ok' := fun k => ok k ∨ (wr.alloc X).heap.size ≤ k) (fun k hk => .inl hk))
                   have HE7 := Lib.hid (EvR.mono (ok' := fun k => ok k ∨ (wr.alloc X).heap.size ≤ k) hev7 (fun k hk => .inr hk))
                   have HB7 := Lib.hid hb7
                   clear hev7 hb7 hb7' hY7)
                | (go_at_call 9
                   refine (add_doc HD7.out HE7.out HA.out.2.1).mono ?_
                   rintro _ w3 ⟨v3, rfl, hb3', hd3⟩
                   have hb3 : Below (wr.alloc X).heap.size (wr.alloc X) w3 := HB7.out.trans (hb3'.mono HB7.out.size)
                   have HX3 := Lib.hid ((hb3.block _ (by simp)).trans HXX.out.2.2)
                   obtain ⟨vw3, vr3, lw3, lr3, rfl, hrw, hrr, e3, e4⟩ := hd3
                   have HD3 : Hid (Doc w3 _ (s.add e).2 (rtl (s.add e).2.nodes (s.add e).2.to (s.add e).2.id (s.add e).2.seq vw3 vr3)) := Lib.hid ⟨vw3, vr3, lw3, lr3, rfl, hrw, hrr, e3, e4⟩
                   obtain ⟨A3, k3, rfl⟩ := rd_len hrw
                   obtain ⟨B3, m3, rfl⟩ := rd_len hrr
                   have hY3 := (hb3.block _ (Mem.lt HL.out.2.2.2.1)).trans HL.out.2.2.2.1
                   have p0 := Mem.cell hY3 (j := 0) rfl
                   have p1 := Mem.cell hY3 (j := 1) rfl
                   have p2 := Mem.cell hY3 (j := 2) rfl
                   have p3 := Mem.cell hY3 (j := 3) rfl
                   have p4 := Mem.cell hY3 (j := 4) rfl
                   have p5 := Mem.cell hY3 (j := 5) rfl
                   have f0 := Mem.free (j := 0) hY3
                   have f1 := Mem.free (j := 1) hY3
                   have f2 := Mem.free (j := 2) hY3
                   have f3 := Mem.free (j := 3) hY3
                   have f4 := Mem.free (j := 4) hY3
                   have f5 := Mem.free (j := 5) hY3
                   have HB3 := Lib.hid hb3
                   have HY3 := Lib.hid hY3
                   clear hrw hrr e3 e4 hb3 hY3
                   have HX9 := Lib.hid (show ∀ u0 u1 u2 u3 u4 u5, (((((((w3.setCell ⟨w1.heap.size, 0, none⟩ u0).setCell ⟨w1.heap.size, 1, none⟩ u1).setCell ⟨w1.heap.size, 2, none⟩ u2).setCell ⟨w1.heap.size, 3, none⟩ u3).setCell ⟨w1.heap.size, 4, none⟩ u4).setCell ⟨w1.heap.size, 5, none⟩ u5)).heap[wr.heap.size]? = some X from fun u0 u1 u2 u3 u4 u5 => ((set6 u0 u1 u2 u3 u4 u5 HY3.out).1.block _ (Mem.lt HX3.out) (by show ¬ wr.heap.size = w1.heap.size; omega)).trans HX3.out)
                   have hfar : ∀ u0 u1 u2 u3 u4 u5 j, (((((((w3.setCell ⟨w1.heap.size, 0, none⟩ u0).setCell ⟨w1.heap.size, 1, none⟩ u1).setCell ⟨w1.heap.size, 2, none⟩ u2).setCell ⟨w1.heap.size, 3, none⟩ u3).setCell ⟨w1.heap.size, 4, none⟩ u4).setCell ⟨w1.heap.size, 5, none⟩ u5)).cell? ⟨wr.heap.size, j, none⟩ = w3.cell? ⟨wr.heap.size, j, none⟩ := fun u0 u1 u2 u3 u4 u5 j => World.cell?_of_block (a := ⟨wr.heap.size, j, none⟩) ((set6 u0 u1 u2 u3 u4 u5 HY3.out).1.block _ (Mem.lt HX3.out) (by show ¬ wr.heap.size = w1.heap.size; omega))
                   obtain ⟨x1, x2, x3, x4, x5⟩ := HSS.out _ HX3.out
                   clear hb3'))
            all_goals
              go_wp2_with fail
              obtain ⟨hW1, hW2, hW3⟩ := set6 (.int .i64 (s.add e).2.nodes) (.int .i64 (s.add e).2.to) (.int .i64 (s.add e).2.id) (.int .i64 (s.add e).2.seq) (.slice A3 lw3.length k3) (.slice B3 lr3.length m3) HY3.out
              generalize ((((((w3.setCell ⟨w1.heap.size, 0, none⟩ (.int .i64 (s.add e).2.nodes)).setCell ⟨w1.heap.size, 1, none⟩ (.int .i64 (s.add e).2.to)).setCell ⟨w1.heap.size, 2, none⟩ (.int .i64 (s.add e).2.id)).setCell ⟨w1.heap.size, 3, none⟩ (.int .i64 (s.add e).2.seq)).setCell ⟨w1.heap.size, 4, none⟩ (.slice A3 lw3.length k3)).setCell ⟨w1.heap.size, 5, none⟩ (.slice B3 lr3.length m3)) = W at hW1 hW2 hW3 ⊢
              have hPW : Prg W S b s := (HL.out.2.1.below HB3.out).step (by rw [hW3]; exact Nat.le_refl _) (fun k hk hl => hW1.block k hl (HL.out.2.2.2.2.1 k hk).2.2) (fun _ h => h)
              have HPW := Lib.hid hPW
              have HW := Lib.hid (And.intro hW1 (And.intro hW2 hW3))
              clear hPW hW1 hW2 hW3
              have hEW : EvR W (fun k => k < w.heap.size) e (.slice Af e.fields.length cf) := EvR.step HEX.out (by have := HB3.out.size; have := HW.out.2.2; omega) (fun k hk hl => (HW.out.1.block k (by have := HB3.out.size; omega) (by show ¬ k = w1.heap.size; omega)).trans (HB3.out.block k hl))
              refine (add_prg HPW.out (fun k hk => by have := (HL.out.2.2.2.2.1 k hk).2.1; have := HB3.out.size; have := HW.out.2.2; omega) hEW HA.out.2.1 hfl).mono ?_
              rintro _ w4 ⟨rfl, hc4, hp4⟩
              have HL4 := Lib.hid (LB.act HL.out (by simp; omega) hz1 HB3.out HD3.out (fun k hk => by rcases hk with hk | hk; exact hk; exact .inr (by have := HB7.out.size; omega)) HW.out.1 HW.out.2.1 HW.out.2.2 hc4 hp4 (fun k hk => by rw [HW.out.2.2] at hk; exact hk) (HL.out.1.add e HA.out.2.2.1))
              have q40 := Mem.cell HL4.out.2.2.2.1 (j := 0) rfl
              have q41 := Mem.cell HL4.out.2.2.2.1 (j := 1) rfl
              have q42 := Mem.cell HL4.out.2.2.2.1 (j := 2) rfl
              have q43 := Mem.cell HL4.out.2.2.2.1 (j := 3) rfl
              have q44 := Mem.cell HL4.out.2.2.2.1 (j := 4) rfl
              have q45 := Mem.cell HL4.out.2.2.2.1 (j := 5) rfl
              clear hc4 hp4 p0 p1 p2 p3 p4 p5 f0 f1 f2 f3 f4 f5
              go_wp2_with fail
              refine (told_st HL4.out.2.1 HL4.out.2.2.1 HL4.out.1 (by omega)).mono ?_
              rintro _ w9 ⟨rfl, hb9⟩
              have HL9 := Lib.hid (LB.below HL4.out HL4.out.2.2.2.2.2.2.size hb9)
              clear hb9
              go_wp2_with fail
              go_roundw
              case rel => exact HL9.out.rel hlt hlt3
              case measure => simp [intOf]; omega
            -- END add
          · -- ACT told
            go_wp2_with fail
            rw [← HXX.out.1]
            refine (told_doc err num lead HL.out.2.2.1 HL.out.1 (by omega)).mono ?_
            rintro _ w3 ⟨v3, rfl, hb3, hd3⟩
            have hX3 := (hb3.block _ (by simp)).trans HXX.out.2.2
            rw [HXX.out.1] at hX3
            obtain ⟨vw3, vr3, lw3, lr3, rfl, hrw, hrr, e3, e4⟩ := hd3
            have HD3 : Hid (Doc w3 _ (s.told err num lead) (rtl (s.told err num lead).nodes (s.told err num lead).to (s.told err num lead).id (s.told err num lead).seq vw3 vr3)) := Lib.hid ⟨vw3, vr3, lw3, lr3, rfl, hrw, hrr, e3, e4⟩
            obtain ⟨A3, k3, rfl⟩ := rd_len hrw
            obtain ⟨B3, m3, rfl⟩ := rd_len hrr
            have hY3 := (hb3.block _ (Mem.lt HL.out.2.2.2.1)).trans HL.out.2.2.2.1
            have p0 := Mem.cell hY3 (j := 0) rfl
            have p1 := Mem.cell hY3 (j := 1) rfl
            have p2 := Mem.cell hY3 (j := 2) rfl
            have p3 := Mem.cell hY3 (j := 3) rfl
            have p4 := Mem.cell hY3 (j := 4) rfl
            have p5 := Mem.cell hY3 (j := 5) rfl
            have f0 := Mem.free (j := 0) hY3
            have f1 := Mem.free (j := 1) hY3
            have f2 := Mem.free (j := 2) hY3
            have f3 := Mem.free (j := 3) hY3
            have f4 := Mem.free (j := 4) hY3
            have f5 := Mem.free (j := 5) hY3
            have HB3 := Lib.hid hb3
            have HY3 := Lib.hid hY3
            clear hrw hrr e3 e4 hb3 hY3
            have x6 := Mem.cell hX3 (j := 6) rfl
            have x7 := Mem.cell hX3 (j := 7) rfl
            have x8 := Mem.cell hX3 (j := 8) rfl
            have hfar : ∀ u0 u1 u2 u3 u4 u5 j, (((((((w3.setCell ⟨w1.heap.size, 0, none⟩ u0).setCell ⟨w1.heap.size, 1, none⟩ u1).setCell ⟨w1.heap.size, 2, none⟩ u2).setCell ⟨w1.heap.size, 3, none⟩ u3).setCell ⟨w1.heap.size, 4, none⟩ u4).setCell ⟨w1.heap.size, 5, none⟩ u5)).cell? ⟨wr.heap.size, j, none⟩ = w3.cell? ⟨wr.heap.size, j, none⟩ := fun u0 u1 u2 u3 u4 u5 j => World.cell?_of_block (a := ⟨wr.heap.size, j, none⟩) ((set6 u0 u1 u2 u3 u4 u5 HY3.out).1.block _ (Mem.lt hX3) (by show ¬ wr.heap.size = w1.heap.size; omega))
            clear hX3
            go_wp2_with fail
            obtain ⟨hW1, hW2, hW3⟩ := set6 (.int .i64 (s.told err num lead).nodes) (.int .i64 (s.told err num lead).to) (.int .i64 (s.told err num lead).id) (.int .i64 (s.told err num lead).seq) (.slice A3 lw3.length k3) (.slice B3 lr3.length m3) HY3.out
            generalize ((((((w3.setCell ⟨w1.heap.size, 0, none⟩ (.int .i64 (s.told err num lead).nodes)).setCell ⟨w1.heap.size, 1, none⟩ (.int .i64 (s.told err num lead).to)).setCell ⟨w1.heap.size, 2, none⟩ (.int .i64 (s.told err num lead).id)).setCell ⟨w1.heap.size, 3, none⟩ (.int .i64 (s.told err num lead).seq)).setCell ⟨w1.heap.size, 4, none⟩ (.slice A3 lw3.length k3)).setCell ⟨w1.heap.size, 5, none⟩ (.slice B3 lr3.length m3)) = W at hW1 hW2 hW3 ⊢
            have hPW : Prg W S b s := (HL.out.2.1.below HB3.out).step (by rw [hW3]; exact Nat.le_refl _) (fun k hk hl => hW1.block k hl (HL.out.2.2.2.2.1 k hk).2.2) (fun _ h => h)
            have HPW := Lib.hid hPW
            have HW := Lib.hid (And.intro hW1 (And.intro hW2 hW3))
            clear hPW hW1 hW2 hW3
            refine (told_prg err num lead HPW.out HL.out.1 (by omega) (fun k hk => by have := (HL.out.2.2.2.2.1 k hk).2.1; have := HB3.out.size; have := HW.out.2.2; omega) HA.out.2.2.2).mono ?_
            rintro _ w4 ⟨rfl, hc4, hp4⟩
            have HL4 := Lib.hid (LB.act HL.out (by simp; omega) hz1 HB3.out HD3.out (fun k hk => hk) HW.out.1 HW.out.2.1 HW.out.2.2 hc4 hp4 (fun k hk => by rw [HW.out.2.2] at hk; exact hk) (HL.out.1.told err num lead))
            have q40 := Mem.cell HL4.out.2.2.2.1 (j := 0) rfl
            have q41 := Mem.cell HL4.out.2.2.2.1 (j := 1) rfl
            have q42 := Mem.cell HL4.out.2.2.2.1 (j := 2) rfl
            have q43 := Mem.cell HL4.out.2.2.2.1 (j := 3) rfl
            have q44 := Mem.cell HL4.out.2.2.2.1 (j := 4) rfl
            have q45 := Mem.cell HL4.out.2.2.2.1 (j := 5) rfl
            clear hc4 hp4 p0 p1 p2 p3 p4 p5 f0 f1 f2 f3 f4 f5
            go_wp2_with fail
            refine (told_st HL4.out.2.1 HL4.out.2.2.1 HL4.out.1 (by omega)).mono ?_
            rintro _ w9 ⟨rfl, hb9⟩
            have HL9 := Lib.hid (LB.below HL4.out HL4.out.2.2.2.2.2.2.size hb9)
            clear hb9
            go_wp2_with fail
            go_roundw
            case rel => exact HL9.out.rel hlt hlt3
            case measure => simp [intOf]; omega
            -- END told
          · -- ACT late
            go_wp2_with fail
            rw [← HXX.out.1]
            refine (late_doc HL.out.2.2.1 HL.out.1).mono ?_
            rintro _ w3 ⟨v3, rfl, hb3, hd3⟩
            obtain ⟨vw3, vr3, lw3, lr3, rfl, hrw, hrr, e3, e4⟩ := hd3
            have HD3 : Hid (Doc w3 _ s.late (rtl s.late.nodes s.late.to s.late.id s.late.seq vw3 vr3)) := Lib.hid ⟨vw3, vr3, lw3, lr3, rfl, hrw, hrr, e3, e4⟩
            obtain ⟨A3, k3, rfl⟩ := rd_len hrw
            obtain ⟨B3, m3, rfl⟩ := rd_len hrr
            have hY3 := (hb3.block _ (Mem.lt HL.out.2.2.2.1)).trans HL.out.2.2.2.1
            have p0 := Mem.cell hY3 (j := 0) rfl
            have p1 := Mem.cell hY3 (j := 1) rfl
            have p2 := Mem.cell hY3 (j := 2) rfl
            have p3 := Mem.cell hY3 (j := 3) rfl
            have p4 := Mem.cell hY3 (j := 4) rfl
            have p5 := Mem.cell hY3 (j := 5) rfl
            have f0 := Mem.free (j := 0) hY3
            have f1 := Mem.free (j := 1) hY3
            have f2 := Mem.free (j := 2) hY3
            have f3 := Mem.free (j := 3) hY3
            have f4 := Mem.free (j := 4) hY3
            have f5 := Mem.free (j := 5) hY3
            have HB3 := Lib.hid hb3
            have HY3 := Lib.hid hY3
            clear hrw hrr e3 e4 hb3 hY3
            go_wp2_with fail
            obtain ⟨hW1, hW2, hW3⟩ := set6 (.int .i64 s.late.nodes) (.int .i64 s.late.to) (.int .i64 s.late.id) (.int .i64 s.late.seq) (.slice A3 lw3.length k3) (.slice B3 lr3.length m3) HY3.out
            generalize ((((((w3.setCell ⟨w1.heap.size, 0, none⟩ (.int .i64 s.late.nodes)).setCell ⟨w1.heap.size, 1, none⟩ (.int .i64 s.late.to)).setCell ⟨w1.heap.size, 2, none⟩ (.int .i64 s.late.id)).setCell ⟨w1.heap.size, 3, none⟩ (.int .i64 s.late.seq)).setCell ⟨w1.heap.size, 4, none⟩ (.slice A3 lw3.length k3)).setCell ⟨w1.heap.size, 5, none⟩ (.slice B3 lr3.length m3)) = W at hW1 hW2 hW3 ⊢
            have hPW : Prg W S b s := (HL.out.2.1.below HB3.out).step (by rw [hW3]; exact Nat.le_refl _) (fun k hk hl => hW1.block k hl (HL.out.2.2.2.2.1 k hk).2.2) (fun _ h => h)
            have HPW := Lib.hid hPW
            have HW := Lib.hid (And.intro hW1 (And.intro hW2 hW3))
            clear hPW hW1 hW2 hW3
            refine (late_prg HPW.out HL.out.1).mono ?_
            rintro _ w4 ⟨rfl, hc4, hp4⟩
            have HL4 := Lib.hid (LB.act HL.out (by simp; omega) hz1 HB3.out HD3.out (fun k hk => hk) HW.out.1 HW.out.2.1 HW.out.2.2 hc4 hp4 (fun k hk => .inl hk) (HL.out.1.late))
            have q40 := Mem.cell HL4.out.2.2.2.1 (j := 0) rfl
            have q41 := Mem.cell HL4.out.2.2.2.1 (j := 1) rfl
            have q42 := Mem.cell HL4.out.2.2.2.1 (j := 2) rfl
            have q43 := Mem.cell HL4.out.2.2.2.1 (j := 3) rfl
            have q44 := Mem.cell HL4.out.2.2.2.1 (j := 4) rfl
            have q45 := Mem.cell HL4.out.2.2.2.1 (j := 5) rfl
            clear hc4 hp4 p0 p1 p2 p3 p4 p5 f0 f1 f2 f3 f4 f5
            go_wp2_with fail
            refine (told_st HL4.out.2.1 HL4.out.2.2.1 HL4.out.1 (by omega)).mono ?_
            rintro _ w9 ⟨rfl, hb9⟩
            have HL9 := Lib.hid (LB.below HL4.out HL4.out.2.2.2.2.2.2.size hb9)
            clear hb9
            go_wp2_with fail
            go_roundw
            case rel => exact HL9.out.rel hlt hlt3
            case measure => simp [intOf]; omega
            -- END late
      · go_wp2_with fail
        go_ret
        exact ⟨rfl, HX2.out.2.2.2.2.2.2⟩
    · go_wp2_with fail
      go_ret
      exact ⟨rfl, HX2.out.2.2.2.2.2.2⟩
end Go.Proofs.Ytbiicflcjipeeaa
