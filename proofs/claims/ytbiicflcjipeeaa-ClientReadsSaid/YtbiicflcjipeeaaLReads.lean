/- The walk of the law ClientReads. -/
import Derived.Test.YtbiicflcjipeeaaRd6
import Derived.Test.YtbiicflcjipeeaaWLast
namespace Go.Proofs.Ytbiicflcjipeeaa
open Go.RowKit Go.Proofs.YtbiicflcjipeeaaW.PrintLast
set_option linter.unusedSimpArgs false
set_option linter.unusedVariables false
attribute [local go_sem] Mem.run_store_float Mem.After.cell
/-- Acts that are read: each with its matches. -/
def RActs (w : World) (v : Value) (l : List (ActV × List (Value × List Int))) : Prop := Mem.Rd w (fun k => k < w.heap.size) 11 v (l.map fun a => a.1.cells) ∧
  ∀ a ∈ l, (∃ Af cf, a.1.vf = .slice Af a.1.e.fields.length cf) ∧ Pks w (fun k => k < w.heap.size) (.slice a.1.Al a.1.nl a.1.cl) a.2 ∧ IsI64 a.1.n
/-- What stands ahead of an act: the document's reader lies in block rb, the program's in b. -/
def RB (B rb b : Nat) (name : ByteArray) (most : Int) (n : Nat) (w wr : World) (s : Rs) (S ok : Nat → Prop) (vn vg : Value) : Prop := RInv s n ∧ PR wr S b name most s ∧ DR wr ok s (rrd s.nodes s.to s.at_ s.gone vn vg) ∧
  wr.heap[rb]? = some (.cells #[.int .i64 s.nodes, .int .i64 s.to, .int .i64 s.at_, .int .i64 s.gone, vn, vg] 58 (0, 0)) ∧
  (∀ k, S k → B ≤ k ∧ k < wr.heap.size ∧ k ≠ rb) ∧ (∀ k, ok k → k < wr.heap.size ∧ ¬ S k ∧ k ≠ rb) ∧ Below B w wr
theorem RB.below {B rb b n : Nat} {name : ByteArray} {most : Int} {w wr W : World} {s : Rs} {S ok : Nat → Prop} {vn vg : Value} (h : RB B rb b name most n w wr s S ok vn vg) (hB : B ≤ wr.heap.size) (hb : Below wr.heap.size wr W) : RB B rb b name most n w W s S ok vn vg := by
  obtain ⟨hI, hP, hD, hY, hS, hok, hbel⟩ := h
  have hz := hb.size
  exact ⟨hI, hP.below hb, hD.below hb, (hb.block _ (Mem.lt hY)).trans hY, fun j hj => by have := hS j hj; omega, fun j hj => by have := hok j hj; exact ⟨by omega, this.2⟩, hbel.trans (hb.mono hB)⟩
theorem RB.more {B rb b n : Nat} {name : ByteArray} {most : Int} {w wr : World} {s : Rs} {S ok : Nat → Prop} {vn vg : Value} (h : RB B rb b name most n w wr s S ok vn vg) : RB B rb b name most (n + 1) w wr s S ok vn vg := ⟨h.1.more, h.2⟩
def RRel (B rb b : Nat) (name : ByteArray) (most : Int) (len : Nat) (w : World) (i : Value) (wr : World) : Prop := ∃ (k : Nat) (s : Rs) (S ok : Nat → Prop) (vn vg : Value), k ≤ len ∧ k ≤ 200 ∧ i = .int .i64 k ∧ RB B rb b name most k w wr s S ok vn vg
theorem RB.rel {B rb b len k : Nat} {name : ByteArray} {most : Int} {w wr : World} {s : Rs} {S ok : Nat → Prop} {vn vg : Value} (h : RB B rb b name most (k + 1) w wr s S ok vn vg) (hk : k < len) (h3 : k < 200) : RRel B rb b name most len w (.int .i64 ((k : Int) + 1)) wr :=
  ⟨k + 1, s, S, ok, vn, vg, by omega, by omega, by go_num, h⟩
/-- Both have done an act. -/
theorem RB.act {B rb b n : Nat} {name : ByteArray} {most : Int} {w wr w3 W w4 : World} {s s' : Rs} {S ok okd S4 : Nat → Prop} {vn vg vn' vg' : Value} (h : RB B rb b name most n w wr s S ok vn vg) (hB : B ≤ wr.heap.size) (hrb : B ≤ rb)
    (h3 : Below wr.heap.size wr w3) (hd : DR w3 okd s' (rrd s'.nodes s'.to s'.at_ s'.gone vn' vg')) (hokd : ∀ k, okd k → ok k ∨ k < B ∨ wr.heap.size ≤ k)
    (hW : Mem.Ch (fun k => k = rb) w3 W) (hWr : W.heap[rb]? = some (.cells #[.int .i64 s'.nodes, .int .i64 s'.to, .int .i64 s'.at_, .int .i64 s'.gone, vn', vg'] 58 (0, 0))) (hWz : W.heap.size = w3.heap.size)
    (h4 : Mem.Ch S W w4) (hp : PR w4 S4 b name most s') (hS4 : ∀ k, S4 k → S k ∨ (w3.heap.size ≤ k ∧ k < w4.heap.size)) (hI : RInv s' (n + 1)) : RB B rb b name most (n + 1) w w4 s' S4 (fun k => okd k ∧ k < w3.heap.size) vn' vg' := by
  obtain ⟨_, hP, hD, hY, hS, hok, hbel⟩ := h
  have hlY := Mem.lt hY
  have z3 := h3.size
  have z4 := h4.size
  have nS : ¬ S rb := fun hh => (hS rb hh).2.2 rfl
  have nok : ∀ k, okd k → k < w3.heap.size → ¬ S k ∧ k ≠ rb := fun k hk hl => by
    rcases hokd k hk with h | h | h
    · have := hok k h; exact this.2
    · exact ⟨fun hh => by have := hS k hh; omega, by omega⟩
    · exact ⟨fun hh => by have := hS k hh; omega, by omega⟩
  refine ⟨hI, hp, hd.lt.step (by omega) (fun k hk hl => ?_), h4.at_ hWr nS, fun k hk => ?_, fun k hk => ?_, ?_⟩
  · have := nok k hk.1 hk.2
    exact (h4.block k (by omega) this.1).trans (hW.block k hk.2 this.2)
  · rcases hS4 k hk with h | h
    · have := hS k h; omega
    · omega
  · have := nok k hk.1 hk.2
    refine ⟨by omega, fun hh => ?_, this.2⟩
    rcases hS4 k hh with h | h
    · exact this.1 h
    · omega
  · refine (hbel.trans (h3.mono hB)).trans ?_
    refine Below.trans (hW.below (fun k h1 h2 => by omega) (by omega)) (h4.below (fun k h1 h2 => by have := hS k h2; omega) (by omega))
set_option maxRecDepth 100000 in
set_option maxHeartbeats 2000000 in
theorem reads_no (nodes most : Int) (name : ByteArray) (A : Option Addr) (n c : Nat) (w : World) (hs : name.size ≤ 140737488351232) (h : (nodes < 1 ∨ 7 < nodes) ∨ (1 ≤ nodes ∧ nodes ≤ 7 ∧ wordB name = false) ∨ (1 ≤ nodes ∧ nodes ≤ 7 ∧ wordB name = true ∧ most < 1)) :
    Calls Try.prog 4 #[.agg #[.int .i64 nodes, .string name], .int .i64 most, .slice A n c] w fun r w' => r = .returned (.bool true) ∧ Below w.heap.size w w' := by
  have HH := Lib.hid h
  have hbX := (Below.refl w.heap.size w).alloc (Nat.le_refl _) (.cells #[.int .i64 nodes, .string name] 51)
  have HX := Lib.hid hbX
  clear hbX
  rcases h with (h | h) | ⟨h1, h7, hw⟩ | ⟨h1, h7, hw, hm⟩
  case' inr.inl => have HW := Lib.hid hw; clear hw
  case' inr.inr => have HW := Lib.hid hw; clear hw
  all_goals
    go_enter Try.func4, Try.ntmps4
    go_wp2_with fail
    repeat (go_quiet (fail); try go_wp2_with fail)
    go_wp2_with (first
      | (go_at_call 17; refine (NewReader_no nodes most name _ hs HH.out).mono ?_; rintro _ w1 ⟨rfl, hb1⟩)
      | (go_at_call 18; refine (rWord_no name _ hs HW.out).mono ?_; rintro _ w2 ⟨rfl, rfl⟩)
      | (go_at_call 18; refine (rWord_yes name _ hs HW.out).mono ?_; rintro _ w2 ⟨rfl, rfl⟩)
      | (go_at_call 8; refine (awake_any _).mono ?_; rintro _ w2 ⟨rfl, hb⟩))
    go_ret
    have z1 : w.heap.size ≤ w1.heap.size := by have := hb1.size; simp at this; omega
    exact ⟨rfl, ((Mem.bdrewN HX.out _).trans (hb1.mono (by simp))).trans (hb.mono z1)⟩
set_option maxRecDepth 100000 in
set_option maxHeartbeats 8000000 in
theorem reads_yes (nodes most : Int) (name : ByteArray) (v : Value) (l : List (ActV × List (Value × List Int))) (w : World) (hs : name.size ≤ 140737488351232) (h1 : 1 ≤ nodes) (h7 : nodes ≤ 7) (hw : wordB name = true) (hm : 1 ≤ most) (hR : RActs w v l) (hl : l.length ≤ 4611686018427387904) :
    Calls Try.prog 4 #[.agg #[.int .i64 nodes, .string name], .int .i64 most, v] w fun r w' => r = .returned (.bool true) ∧ Below w.heap.size w w' := by
  obtain ⟨A, cap, rfl⟩ := hR.1.slice
  rw [List.length_map]
  have HR := Lib.hid hR
  have HW := Lib.hid hw
  have hbX := (Below.refl w.heap.size w).alloc (Nat.le_refl _) (.cells #[.int .i64 nodes, .string name] 51)
  have HXW := Lib.hid hbX
  clear hR hw hbX
  have hl' : ((l.length : Nat) : Int) ≤ 4611686018427387904 := by omega
  go_enter Try.func4, Try.ntmps4
  go_wp2_with fail
  repeat (go_quiet (fail); try go_wp2_with fail)
  refine (NewReader_yes nodes most name _ hs h1 h7 HW.out hm).mono ?_
  rintro _ w1 ⟨b, rfl, hb1', hbb', ht1⟩
  have hb1 : Below w.heap.size w w1 := (Mem.bdrewN HXW.out _).trans (hb1'.mono (by simp))
  have hz0 : w.heap.size ≤ b := by simp at hbb'; omega
  have HT1 := Lib.hid (ht1.mono (S' := fun k => w.heap.size ≤ k ∧ k < w1.heap.size) (fun k hk => by simp at hk; omega))
  have HB1 := Lib.hid hb1
  have hz1 := hb1.size
  clear ht1 hb1 hb1' hbb'
  have e0 : IntKind.i64.wrap nodes = nodes := IntWalk.i64_in _ (by omega)
  go_wp2_with (go_at_call 18; refine (rWord_yes name _ hs HW.out).mono ?_; rintro _ wy ⟨rfl, hwy⟩; subst hwy)
  refine (awake_any _).mono ?_
  rintro _ w2 ⟨rfl, hb2⟩
  have hY := (hb2.block _ (by simp)).trans (Mem.new w1 _)
  have hB2 : Below w.heap.size w w2 := (HB1.out.alloc hz1 _).trans (hb2.mono (by simp; omega))
  have hP : PR w2 (fun k => w.heap.size ≤ k ∧ k < w1.heap.size) b name most ⟨nodes, 0, 0, 0, []⟩ := ⟨[], (HT1.out.below ((Below.refl _ _).alloc (Nat.le_refl _) _)).below hb2, rfl⟩
  have hD : DR w2 (fun _ => False) ⟨nodes, 0, 0, 0, []⟩ (rrd nodes 0 0 0 (.slice none 0 0) (.slice none 0 0)) := ⟨_, _, [], [], rfl, ⟨Mem.Rd.nil _ _ _, by simp⟩, Pks.nil _ _, rfl, rfl⟩
  have hI : RInv ⟨nodes, 0, 0, 0, []⟩ 0 := ⟨h1, h7, by show (0 : Int) ≤ 0; omega, by show (0 : Int) < nodes; omega, by show (0 : Int) ≤ 0; omega, by show (0 : Int) ≤ 0; omega, by show (0 : Int) ≤ _; omega, by simp⟩
  have hz2 : w1.heap.size < w2.heap.size := Mem.lt hY
  have HX : Hid (RB w.heap.size w1.heap.size b name most 0 w w2 ⟨nodes, 0, 0, 0, []⟩ (fun k => w.heap.size ≤ k ∧ k < w1.heap.size) (fun _ => False) (.slice none 0 0) (.slice none 0 0)) := Lib.hid ⟨hI, hP, hD, hY, fun k hk => by have hk' : w.heap.size ≤ k ∧ k < w1.heap.size := hk; omega, fun k hk => hk.elim, hB2⟩
  clear hY hB2 hP hD hI hb2 HT1 HB1
  go_wp2_with fail
  go_loopw [11] (fun i wr => RRel w.heap.size w1.heap.size b name most l.length w i wr) (fun i _ => l.length - (intOf i).toNat)
  case atStart => exact ⟨0, _, _, _, _, _, Nat.zero_le _, Nat.zero_le _, rfl, HX.out⟩
  case round =>
    obtain ⟨k, s, S, ok, vn, vg, hk, hk2, rfl, hrb⟩ := hrel
    have HX2 := Lib.hid hrb
    have hlY := Mem.lt hrb.2.2.2.1
    obtain ⟨vn', vg', N, G, hveq, hN, hG, hGN, hzip⟩ := hrb.2.2.1
    injection hveq with hveq
    obtain ⟨hvn, hvg⟩ : vn = vn' ∧ vg = vg' := by simpa using hveq
    subst hvn
    subst hvg
    obtain ⟨An, cn, rfl⟩ := hN.slice
    obtain ⟨Ag, cg, rfl⟩ := hG.slice
    clear hN hG hGN hzip hveq hrb
    have HX := HX2
    by_cases hlt : k < l.length
    · by_cases hlt3 : k < 200
      · obtain ⟨⟨a, L⟩, ha⟩ : ∃ a, l[k]? = some a := ⟨_, List.getElem?_eq_getElem hlt⟩
        obtain ⟨g, o, rfl, hgB, hgl, hrow⟩ := (Mem.Rd.below HR.out.1 HX2.out.2.2.2.2.2.2).row (k := k) (r := a.cells) (by rw [List.getElem?_map, ha]; rfl)
        have hA := HR.out.2 (a, L) (List.mem_of_getElem? ha)
        obtain ⟨⟨Af, cf, hvf⟩, hPk, hn64⟩ := hA
        obtain ⟨Al0, cl0, hal⟩ := hPk.slice
        obtain ⟨kind, e, vf, err, num, lead, n, Al, nl, cl⟩ := a
        dsimp only [ActV.cells] at hvf hrow hPk hn64 hal
        subst hvf
        injection hal with q1 q2 q3
        subst q1; subst q2; subst q3
        have hn63 : n ≤ 9223372036854775807 := by unfold IsI64 at hn64; omega
        have c1 := hrow 1 _ rfl
        have c2 := hrow 2 _ rfl
        have c3 := hrow 3 _ rfl
        have c4 := hrow 4 _ rfl
        have c5 := hrow 5 _ rfl
        have c6 := hrow 6 _ rfl
        have c7 := hrow 7 _ rfl
        have c8 := hrow 8 _ rfl
        have c9 := hrow 9 _ rfl
        have c10 := hrow 10 _ rfl
        have c0 : wr.cell? ⟨g, o + k * 11, none⟩ = some (.int .i64 kind) := hrow 0 _ rfl
        have HP := Lib.hid hPk
        clear hrow hPk ha hn64
        have hlt' : (k : Int) < (l.length : Int) := by omega
        have hlt3' : (k : Int) < 200 := by omega
        have hwr := HX2.out.2.2.2.2.2.2.size
        by_cases hf : 20 < L.length
        · have hf' : (20 : Int) < (L.length : Int) := by omega
          go_wp2_with fail
          go_roundw
          case rel => exact RB.rel (RB.below HX2.out hwr ((Below.refl _ _).alloc (Nat.le_refl _) _)).more hlt hlt3
          case measure => simp [intOf]; omega
        · have hf' : ¬ (20 : Int) < (L.length : Int) := by omega
          have hl20 : L.length ≤ 20 := by omega
          obtain ⟨X, hXe⟩ : ∃ X, X = Obj.cells #[.int .i64 kind, .int .i64 e.session, .int .i64 e.seq, .int .i64 e.stamp, .string e.kind, .slice Af e.fields.length cf, .int .i64 err, .int .i64 num, .int .i64 lead, .int .i64 n, .slice Al L.length cl] 37 := ⟨_, rfl⟩
          have hbX := (Below.refl wr.heap.size wr).alloc (Nat.le_refl _) X
          have HL := Lib.hid (RB.below HX2.out hwr hbX)
          have hX := Mem.new wr X
          have HXX := Lib.hid (And.intro hXe (And.intro hbX hX))
          have HPX := Lib.hid (Pks.below HP.out HL.out.2.2.2.2.2.2)
          clear hXe hbX hX
          have q0 := Mem.cell HX2.out.2.2.2.1 (j := 0) rfl
          have q1 := Mem.cell HX2.out.2.2.2.1 (j := 1) rfl
          have q2 := Mem.cell HX2.out.2.2.2.1 (j := 2) rfl
          have q3 := Mem.cell HX2.out.2.2.2.1 (j := 3) rfl
          have q4 := Mem.cell HX2.out.2.2.2.1 (j := 4) rfl
          have q5 := Mem.cell HX2.out.2.2.2.1 (j := 5) rfl
          have hkk : (kind ≠ 3 ∧ kind ≠ 4) ∨ kind = 3 ∨ kind = 4 := by omega
          rcases hkk with ⟨k0, k1⟩ | rfl | rfl
          case' inl =>
            have k0' : (kind == 3) = false := by simpa using k0
            have k1' : (kind == 4) = false := by simpa using k1
            clear k0 k1
            go_wp2_with fail
            rw [← HXX.out.1]
            have HL4 := Lib.hid (RB.more HL.out)
            generalize wr.alloc X = W4 at HL4 ⊢
          case' inr.inl =>
            go_wp2_with fail
            rw [← HXX.out.1]
            have m0 := Mem.cell HL.out.2.2.2.1 (j := 0) rfl
            have m1 := Mem.cell HL.out.2.2.2.1 (j := 1) rfl
            have m2 := Mem.cell HL.out.2.2.2.1 (j := 2) rfl
            have m3 := Mem.cell HL.out.2.2.2.1 (j := 3) rfl
            have m4 := Mem.cell HL.out.2.2.2.1 (j := 4) rfl
            have m5 := Mem.cell HL.out.2.2.2.1 (j := 5) rfl
            obtain ⟨x6, x9, x10⟩ : (wr.alloc X).cell? ⟨wr.heap.size, 6, none⟩ = some (.int .i64 err) ∧ (wr.alloc X).cell? ⟨wr.heap.size, 9, none⟩ = some (.int .i64 n) ∧ (wr.alloc X).cell? ⟨wr.heap.size, 10, none⟩ = some (.slice Al L.length cl) := by
              have hX := HXX.out.2.2
              rw [HXX.out.1] at hX ⊢
              exact ⟨Mem.cell hX rfl, Mem.cell hX rfl, Mem.cell hX rfl⟩
            have HRI : Hid (RInv s k) := Lib.hid HL.out.1
            have hk1000 : k ≤ 1000 := by omega
            refine start_ (n := 11) (S := fun w' => w'.cell? ⟨w1.heap.size, 0, none⟩ = some (.int .i64 s.nodes) ∧ w'.cell? ⟨w1.heap.size, 1, none⟩ = some (.int .i64 s.to) ∧ w'.cell? ⟨w1.heap.size, 2, none⟩ = some (.int .i64 s.at_) ∧ w'.cell? ⟨w1.heap.size, 3, none⟩ = some (.int .i64 s.gone) ∧ w'.cell? ⟨w1.heap.size, 4, none⟩ = some (.slice An N.length cn) ∧ w'.cell? ⟨w1.heap.size, 5, none⟩ = some (.slice Ag G.length cg) ∧ w'.cell? ⟨wr.heap.size, 10, none⟩ = some (.slice Al L.length cl) ∧ w'.cell? ⟨wr.heap.size, 9, none⟩ = some (.int .i64 n) ∧ w'.cell? ⟨wr.heap.size, 6, none⟩ = some (.int .i64 err)) (ds := [10]) #[false, false, false, false, false, false, false, false, false, false, false] (by kernel_rfl) rfl rfl ⟨m0, m1, m2, m3, m4, m5, x10, x9, x6⟩ (fun hHeld => ?_)
            refine pure_ (i := 1) (N := some 76) (v := ?_) (a' := ?_) #[false, true, false, false, false, false, false, false, false, false, false] rfl rfl (by kernel_rfl) (fun _ _ _ h => h) (Or.inl ⟨by rfl, ?_⟩) ?_ ?_
            rotate_left
            · intro w'
              go_simp
              with_reducible rfl
            rotate_left
            · simp only [Act.put, List.setIfInBounds_toArray, List.set_cons_zero, List.set_cons_succ]
              rfl
            refine pure_ (i := 4) (N := some 79) (v := ?_) (a' := ?_) #[false, true, false, false, true, false, false, false, false, false, false] rfl rfl (by kernel_rfl) (fun _ _ _ h => h) (Or.inl ⟨by rfl, ?_⟩) ?_ ?_
            rotate_left
            · intro w'
              go_simp
              with_reducible rfl
            rotate_left
            · simp only [Act.put, List.setIfInBounds_toArray, List.set_cons_zero, List.set_cons_succ]
              rfl
            refine pure_ (i := 6) (N := some 81) (v := ?_) (a' := ?_) #[false, true, false, false, true, false, true, false, false, false, false] rfl rfl (by kernel_rfl) (fun _ _ _ h => h) (Or.inl ⟨by rfl, ?_⟩) ?_ ?_
            rotate_left
            · intro w'
              go_simp
              with_reducible rfl
            rotate_left
            · simp only [Act.put, List.setIfInBounds_toArray, List.set_cons_zero, List.set_cons_succ]
              rfl
            refine pure_ (i := 7) (N := some 82) (v := ?_) (a' := ?_) #[false, true, false, false, true, false, true, true, false, false, false] rfl rfl (by kernel_rfl) (fun _ _ _ h => h) (Or.inl ⟨by rfl, ?_⟩) ?_ ?_
            rotate_left
            · intro w'
              go_simp
              with_reducible rfl
            rotate_left
            · simp only [Act.put, List.setIfInBounds_toArray, List.set_cons_zero, List.set_cons_succ]
              rfl
            refine take_ (i := 0) (N := some 75) (v := ?_) (a' := ?_) #[true, true, false, false, true, false, true, true, false, false, false] rfl rfl (by kernel_rfl) (fun _ _ _ h => h) (Or.inl ⟨by rfl, ?_⟩) hHeld ?_ ?_
            rotate_left
            · rintro w' ⟨s0, s1, s2, s3, s4, s5, s6, s7, s8⟩
              go_simp
              with_reducible rfl
            rotate_left
            · simp only [Act.put, List.setIfInBounds_toArray, List.set_cons_zero, List.set_cons_succ]
              rfl
            refine take_ (i := 2) (N := some 77) (v := ?_) (a' := ?_) #[true, true, true, false, true, false, true, true, false, false, false] rfl rfl (by kernel_rfl) (fun _ _ _ h => h) (Or.inl ⟨by rfl, ?_⟩) hHeld ?_ ?_
            rotate_left
            · rintro w' ⟨s0, s1, s2, s3, s4, s5, s6, s7, s8⟩
              go_simp
              with_reducible rfl
            rotate_left
            · simp only [Act.put, List.setIfInBounds_toArray, List.set_cons_zero, List.set_cons_succ]
              rfl
            refine take_ (i := 5) (N := some 80) (v := ?_) (a' := ?_) #[true, true, true, false, true, true, true, true, false, false, false] rfl rfl (by kernel_rfl) (fun _ _ _ h => h) (Or.inl ⟨by rfl, ?_⟩) hHeld ?_ ?_
            rotate_left
            · rintro w' ⟨s0, s1, s2, s3, s4, s5, s6, s7, s8⟩
              go_simp
              with_reducible rfl
            rotate_left
            · simp only [Act.put, List.setIfInBounds_toArray, List.set_cons_zero, List.set_cons_succ]
              rfl
            refine take_ (i := 8) (N := some 83) (v := ?_) (a' := ?_) #[true, true, true, false, true, true, true, true, true, false, false] rfl rfl (by kernel_rfl) (fun _ _ _ h => h) (Or.inl ⟨by rfl, ?_⟩) hHeld ?_ ?_
            rotate_left
            · rintro w' ⟨s0, s1, s2, s3, s4, s5, s6, s7, s8⟩
              go_simp
              with_reducible rfl
            rotate_left
            · simp only [Act.put, List.setIfInBounds_toArray, List.set_cons_zero, List.set_cons_succ]
              rfl
            refine one_ (i := 3) (N := some 78) #[true, true, true, true, true, true, true, true, true, false, false] rfl rfl (by kernel_rfl) (by decide) (fun K hK => ?_)
            refine goes_ Try.func20 (by kernel_rfl) rfl #[.slice Al L.length cl] (by rfl) rfl rfl (by simp only [List.map_toArray, List.map_cons, List.map_nil]; rfl) ?_
            with_reducible refine (Rows_any _ _ L _ (HPX.out.below (Below.refl _ _).drew) (by omega)).mono ?_
            rintro _ w7 ⟨v7, rfl, hp7, hb7'⟩
            obtain ⟨A7, c7, rfl⟩ := hp7.slice
            have hb7 : Below (wr.alloc X).heap.size (wr.alloc X) w7 := (Below.refl _ _).drew.trans hb7'
            have hX7 := (hb7.block _ (by simp)).trans HXX.out.2.2
            have HX7 := Lib.hid hX7
            rw [HXX.out.1] at hX7
            have hY7 := (hb7.block _ (Mem.lt HL.out.2.2.2.1)).trans HL.out.2.2.2.1
            have HD7 := Lib.hid ((DR.below HL.out.2.2.1 hb7).mono (ok' := fun k => ok k ∨ k < w.heap.size ∨ (wr.alloc X).heap.size ≤ k) (fun k hk => .inl hk))
            have HP7 := Lib.hid (Pks.mono (ok' := fun k => ok k ∨ k < w.heap.size ∨ (wr.alloc X).heap.size ≤ k) hp7 (fun k hk => .inr hk))
            have HB7 := Lib.hid hb7
            clear hp7 hb7 hb7'
            refine ⟨_, rfl, ?_⟩
            refine hK.out _ _ ⟨Mem.cell hY7 rfl, Mem.cell hY7 rfl, Mem.cell hY7 rfl, Mem.cell hY7 rfl, Mem.cell hY7 rfl, Mem.cell hY7 rfl, Mem.cell hX7 rfl, Mem.cell hX7 rfl, Mem.cell hX7 rfl⟩ (fun hHeld => ?_)
            clear hK K
            refine norm_ (a' := ?_) ?_ ?_
            rotate_left
            · show Act.put _ (some 78) _ = _
              simp only [Act.put, List.setIfInBounds_toArray, List.set_cons_zero, List.set_cons_succ]
              rfl
            refine one_ (i := 9) (N := some 84) #[true, true, true, true, true, true, true, true, true, true, false] rfl rfl (by kernel_rfl) (by decide) (fun K hK => ?_)
            refine goes_ Try.func19 (by kernel_rfl) rfl #[rrd s.nodes s.to s.at_ s.gone (.slice An N.length cn) (.slice Ag G.length cg), .slice A7 L.length c7, .int .i64 n, .int .i64 err] (by rfl) rfl rfl (by simp only [List.map_toArray, List.map_cons, List.map_nil]; rfl) ?_
            with_reducible refine (told_dr n err HD7.out HRI.out hk1000 HP7.out hl20 hn63).mono ?_
            rintro _ w3 ⟨v3, rfl, hb3', hd3⟩
            have hb3 : Below (wr.alloc X).heap.size (wr.alloc X) w3 := HB7.out.trans (hb3'.mono HB7.out.size)
            have hX3 := (hb3.block _ (by simp)).trans HXX.out.2.2
            have HX3 := Lib.hid hX3
            rw [HXX.out.1] at hX3
            obtain ⟨vn3, vg3, N3, G3, rfl, hr1, hr2, hr3, hr4⟩ := hd3
            have HD3 : Hid (DR w3 _ (s.told L n err) (rrd (s.told L n err).nodes (s.told L n err).to (s.told L n err).at_ (s.told L n err).gone vn3 vg3)) := Lib.hid ⟨vn3, vg3, N3, G3, rfl, hr1, hr2, hr3, hr4⟩
            obtain ⟨A3, k3, rfl⟩ := hr1.slice
            obtain ⟨B3, m3, rfl⟩ := hr2.slice
            have hY3 := (hb3.block _ (Mem.lt HL.out.2.2.2.1)).trans HL.out.2.2.2.1
            have HY3 := Lib.hid hY3
            have f0 := Mem.free (j := 0) hY3
            have f1 := Mem.free (j := 1) hY3
            have f2 := Mem.free (j := 2) hY3
            have f3 := Mem.free (j := 3) hY3
            have f4 := Mem.free (j := 4) hY3
            have f5 := Mem.free (j := 5) hY3
            have p0 := Mem.cell hY3 (j := 0) rfl
            have p1 := Mem.cell hY3 (j := 1) rfl
            have p2 := Mem.cell hY3 (j := 2) rfl
            have p3 := Mem.cell hY3 (j := 3) rfl
            have p4 := Mem.cell hY3 (j := 4) rfl
            have p5 := Mem.cell hY3 (j := 5) rfl
            have HB3 := Lib.hid hb3
            clear hr1 hr2 hr3 hr4 hb3 hb3'
            refine ⟨_, rfl, ?_⟩
            refine hK.out _ _ ⟨Mem.cell hY3 rfl, Mem.cell hY3 rfl, Mem.cell hY3 rfl, Mem.cell hY3 rfl, Mem.cell hY3 rfl, Mem.cell hY3 rfl, Mem.cell hX3 rfl, Mem.cell hX3 rfl, Mem.cell hX3 rfl⟩ (fun hHeld => ?_)
            clear hK K
            refine norm_ (a' := ?_) ?_ ?_
            rotate_left
            · show Act.put _ (some 84) _ = _
              simp only [Act.put, List.setIfInBounds_toArray, List.set_cons_zero, List.set_cons_succ]
              rfl
            refine last_ (i := 10) (N := none) #[true, true, true, true, true, true, true, true, true, true, true] rfl rfl (by kernel_rfl) (by decide) (fun K hK => ?_)
            refine skip_ (w1 := ?_) (by rfl) rfl ?_ ?_
            rotate_left
            · go_simp
              rfl
            refine hK.out _ _ ?_
            clear hK K
            refine done_ (by kernel_rfl) ?_
            have x3s := HX3.out
            rw [HXX.out.1] at x3s
            have x10' := Mem.cell x3s (j := 10) rfl
            have x9' := Mem.cell x3s (j := 9) rfl
            have x6' := Mem.cell x3s (j := 6) rfl
            have hfar : ∀ u0 u1 u2 u3 u4 u5 j, (((((((w3.setCell ⟨w1.heap.size, 0, none⟩ u0).setCell ⟨w1.heap.size, 1, none⟩ u1).setCell ⟨w1.heap.size, 2, none⟩ u2).setCell ⟨w1.heap.size, 3, none⟩ u3).setCell ⟨w1.heap.size, 4, none⟩ u4).setCell ⟨w1.heap.size, 5, none⟩ u5)).cell? ⟨wr.heap.size, j, none⟩ = w3.cell? ⟨wr.heap.size, j, none⟩ := fun u0 u1 u2 u3 u4 u5 j => World.cell?_of_block (a := ⟨wr.heap.size, j, none⟩) ((set6 u0 u1 u2 u3 u4 u5 HY3.out).1.block _ (Mem.lt x3s) (by show ¬ wr.heap.size = w1.heap.size; omega))
            clear x3s hX7 hX3 hY7 hY3
            go_wp2_with fail
            obtain ⟨hW1, hW2, hW3⟩ := set6 (.int .i64 (s.told L n err).nodes) (.int .i64 (s.told L n err).to) (.int .i64 (s.told L n err).at_) (.int .i64 (s.told L n err).gone) (.slice A3 N3.length k3) (.slice B3 G3.length m3) HY3.out
            generalize ((((((w3.setCell ⟨w1.heap.size, 0, none⟩ (.int .i64 (s.told L n err).nodes)).setCell ⟨w1.heap.size, 1, none⟩ (.int .i64 (s.told L n err).to)).setCell ⟨w1.heap.size, 2, none⟩ (.int .i64 (s.told L n err).at_)).setCell ⟨w1.heap.size, 3, none⟩ (.int .i64 (s.told L n err).gone)).setCell ⟨w1.heap.size, 4, none⟩ (.slice A3 N3.length k3)).setCell ⟨w1.heap.size, 5, none⟩ (.slice B3 G3.length m3)) = W at hW1 hW2 hW3 ⊢
            have hPW : PR W S b name most s := (HL.out.2.1.below HB3.out).step (by rw [hW3]; exact Nat.le_refl _) (fun k hk hl => hW1.block k hl (HL.out.2.2.2.2.1 k hk).2.2) (fun _ h => h)
            have HPW := Lib.hid hPW
            have HWW := Lib.hid (And.intro hW1 (And.intro hW2 hW3))
            clear hPW hW1 hW2 hW3
            have hPkW : Pks W (fun k => k < w.heap.size) (.slice Al L.length cl) L := Pks.step HPX.out (by have := HB3.out.size; have := HWW.out.2.2; omega) (fun k hk hl => (HWW.out.1.block k (by have := HB3.out.size; omega) (by show ¬ k = w1.heap.size; omega)).trans (HB3.out.block k hl))
            refine (told_pr n err HPW.out HRI.out hk1000 (fun k hk => by have := (HL.out.2.2.2.2.1 k hk).2.1; have := HB3.out.size; have := HWW.out.2.2; omega) hPkW (fun k hk h => by have := HL.out.2.2.2.2.1 k h; omega) hl20 hn63).mono ?_
            rintro _ W4 ⟨rfl, hc4, hp4⟩
            have HL4 := Lib.hid (RB.act HL.out (by simp; omega) hz1 HB3.out HD3.out (fun k hk => by rcases hk with (hk | hk | hk) | hk; exact .inl hk; exact .inr (.inl hk); exact .inr (.inr hk); exact .inr (.inr (by have := HB7.out.size; omega))) HWW.out.1 HWW.out.2.1 HWW.out.2.2 hc4 hp4 (fun k hk => by rw [HWW.out.2.2] at hk; exact hk) (HRI.out.told L n err hl20 hn63))
            clear hc4 hp4
            generalize s.told L n err = s4 at HL4 ⊢
          case' inr.inr =>
            have HRI : Hid (RInv s k) := Lib.hid HL.out.1
            go_wp2_with fail
            rw [← HXX.out.1]
            refine (late_dr HL.out.2.2.1 HRI.out).mono ?_
            rintro _ w3 ⟨v3, rfl, hb3, hd3⟩
            obtain ⟨vn3, vg3, N3, G3, rfl, hr1, hr2, hr3, hr4⟩ := hd3
            have HD3 : Hid (DR w3 _ s.late (rrd s.late.nodes s.late.to s.late.at_ s.late.gone vn3 vg3)) := Lib.hid ⟨vn3, vg3, N3, G3, rfl, hr1, hr2, hr3, hr4⟩
            obtain ⟨A3, k3, rfl⟩ := hr1.slice
            obtain ⟨B3, m3, rfl⟩ := hr2.slice
            have hY3 := (hb3.block _ (Mem.lt HL.out.2.2.2.1)).trans HL.out.2.2.2.1
            have HY3 := Lib.hid hY3
            have f0 := Mem.free (j := 0) hY3
            have f1 := Mem.free (j := 1) hY3
            have f2 := Mem.free (j := 2) hY3
            have f3 := Mem.free (j := 3) hY3
            have f4 := Mem.free (j := 4) hY3
            have f5 := Mem.free (j := 5) hY3
            have p0 := Mem.cell hY3 (j := 0) rfl
            have p1 := Mem.cell hY3 (j := 1) rfl
            have p2 := Mem.cell hY3 (j := 2) rfl
            have p3 := Mem.cell hY3 (j := 3) rfl
            have p4 := Mem.cell hY3 (j := 4) rfl
            have p5 := Mem.cell hY3 (j := 5) rfl
            have HB3 := Lib.hid hb3
            clear hr1 hr2 hr3 hr4 hb3 hY3
            go_wp2_with fail
            obtain ⟨hW1, hW2, hW3⟩ := set6 (.int .i64 s.late.nodes) (.int .i64 s.late.to) (.int .i64 s.late.at_) (.int .i64 s.late.gone) (.slice A3 N3.length k3) (.slice B3 G3.length m3) HY3.out
            generalize ((((((w3.setCell ⟨w1.heap.size, 0, none⟩ (.int .i64 s.late.nodes)).setCell ⟨w1.heap.size, 1, none⟩ (.int .i64 s.late.to)).setCell ⟨w1.heap.size, 2, none⟩ (.int .i64 s.late.at_)).setCell ⟨w1.heap.size, 3, none⟩ (.int .i64 s.late.gone)).setCell ⟨w1.heap.size, 4, none⟩ (.slice A3 N3.length k3)).setCell ⟨w1.heap.size, 5, none⟩ (.slice B3 G3.length m3)) = W at hW1 hW2 hW3 ⊢
            have hPW : PR W S b name most s := (HL.out.2.1.below HB3.out).step (by rw [hW3]; exact Nat.le_refl _) (fun k hk hl => hW1.block k hl (HL.out.2.2.2.2.1 k hk).2.2) (fun _ h => h)
            have HPW := Lib.hid hPW
            have HWW := Lib.hid (And.intro hW1 (And.intro hW2 hW3))
            clear hPW hW1 hW2 hW3
            refine (late_pr HPW.out HRI.out).mono ?_
            rintro _ W4 ⟨rfl, hc4, hp4⟩
            have HL4 := Lib.hid (RB.act HL.out (by simp; omega) hz1 HB3.out HD3.out (fun k hk => by rcases hk with hk | hk; exact .inl hk; exact .inr (.inr hk)) HWW.out.1 HWW.out.2.1 HWW.out.2.2 hc4 hp4 (fun k hk => .inl hk) (HRI.out.late))
            clear hc4 hp4
          all_goals
            try go_wp2_with fail
            obtain ⟨s9, S9, ok9, vn9, vg9, HL9⟩ : ∃ s9 S9 ok9 vn9 vg9, Hid (RB w.heap.size w1.heap.size b name most (k + 1) w W4 s9 S9 ok9 vn9 vg9) := ⟨_, _, _, _, _, HL4⟩
            clear HL4
            obtain ⟨lg, hra, hlg⟩ := HL9.out.2.1
            refine (RdAsk_any S9 b _ W4 hra).mono ?_
            rintro _ w5 ⟨rfl, hb5⟩
            go_wp2_with fail
            obtain ⟨Y, hYe⟩ : ∃ Y, Y = Obj.cells #[.int .i64 s9.to, .string ⟨#[]⟩, .string name, .int .i64 s9.at_, .int .i64 most] 63 := ⟨_, rfl⟩
            rw [← hYe]
            have hY5 := Mem.new w5 Y
            have hbA : Below W4.heap.size W4 (w5.alloc Y) := hb5.alloc hb5.size Y
            have HL5 := Lib.hid (RB.below HL9.out HL9.out.2.2.2.2.2.2.size hbA)
            have HRA := Lib.hid (hra.below hbA)
            have hlen : lg.length ≤ 20 * (k + 1) := by have := HL9.out.1.len; rw [← hlg, List.length_map] at this; exact this
            have HLG := Lib.hid hlg
            clear hra hlg hbA hb5
            generalize w5.alloc Y = W5 at HL5 HRA hY5 ⊢
            rw [hYe] at hY5
            clear hYe HL9
            have y0 := Mem.cell hY5 (j := 0) rfl
            have y1 := Mem.cell hY5 (j := 1) rfl
            have y2 := Mem.cell hY5 (j := 2) rfl
            have y3 := Mem.cell hY5 (j := 3) rfl
            have y4 := Mem.cell hY5 (j := 4) rfl
            have d1 := Mem.cell HL5.out.2.2.2.1 (j := 1) rfl
            have d2 := Mem.cell HL5.out.2.2.2.1 (j := 2) rfl
            have d3 := Mem.cell HL5.out.2.2.2.1 (j := 3) rfl
            have zA := Mem.lt hY5
            have zB := Mem.lt HL5.out.2.2.2.1
            clear hY5
            refine Mem.wp_region_after (by kernel_rfl) (by kernel_rfl) ?_
            repeat (go_big_quiet_step (first | (go_at_call 24; exact Mem.After.call _ (RdAt_any S9 b _ _ (HRA.out.below (Mem.After.h _)))) | (go_at_call 25; exact Mem.After.call _ (RdGone_any S9 b _ _ (HRA.out.below (Mem.After.h _))))))
            refine wpQuiet_nil ?_
            intro w6 hb6
            have HL6 := Lib.hid (RB.below HL5.out HL5.out.2.2.2.2.2.2.size hb6)
            have HRA6 := Lib.hid (ReaderAt.below HRA.out hb6)
            clear hb6 y0 y1 y2 y3 y4 d1 d2 d3 zA zB HRA HL5
            go_wp2_with fail
            refine (RdGot_any S9 b _ _ HRA6.out (by show lg.length ≤ 100000; omega)).mono ?_
            rintro _ w7 ⟨v, lq, rfl, hE, hlq, hb7⟩
            have HL7 := Lib.hid (RB.below HL6.out HL6.out.2.2.2.2.2.2.size hb7)
            clear hb7 HL6 HRA6
            obtain ⟨Aq, cq, rfl, hcq⟩ := Qu.q_slice hE.1
            obtain ⟨vn8, vg8, N9, G9, hveq9, hN9, hG9, hGN9, hzip9⟩ := HL7.out.2.2.1
            injection hveq9 with hveq9
            obtain ⟨hvn9, hvg9⟩ : vn9 = vn8 ∧ vg9 = vg8 := by simpa using hveq9
            subst hvn9
            subst hvg9
            clear hveq9
            obtain ⟨An9, cn9, rfl⟩ := hN9.slice
            obtain ⟨Ag9, cg9, rfl⟩ := hG9.slice
            have hall : lq.map gv = N9.zip (G9.map Prod.snd) := by rw [hlq, hzip9]; exact HLG.out
            have hNl : N9.length = lq.length := by have := congrArg List.length hall; rw [zip_len hGN9, List.length_map] at this; exact this.symm
            have hGl : G9.length = lq.length := hGN9.trans hNl
            have hql : lq.length ≤ 100000 := by have := congrArg List.length hlq; simp only [List.length_map] at this; omega
            have hql' : ((lq.length : Nat) : Int) ≤ 100000 := by omega
            have d4 := Mem.cell HL7.out.2.2.2.1 (j := 4) rfl
            have d5 := Mem.cell HL7.out.2.2.2.1 (j := 5) rfl
            have zB := Mem.lt HL7.out.2.2.2.1
            have d5' : w7.cell? ⟨w1.heap.size, 5, none⟩ = some (.slice Ag9 lq.length cg9) := by rw [← hGl]; exact d5
            have d4' : w7.cell? ⟨w1.heap.size, 4, none⟩ = some (.slice An9 lq.length cn9) := by rw [← hNl]; exact d4
            have HE := Lib.hid hE
            have HN9 := Lib.hid hN9
            have HG9 := Lib.hid hG9
            have HALL := Lib.hid hall
            have HGL := Lib.hid hGl
            have HNL := Lib.hid hNl
            clear hE hN9 hG9 hall hGl hNl hlq hzip9 hGN9 d4 d5 HLG hlen
            go_wp2_with fail
            go_loopw [16] (fun i wq => ∃ k2 : Nat, k2 ≤ lq.length ∧ i = .int .i64 k2 ∧ Below w7.heap.size w7 wq) (fun i _ => lq.length - (intOf i).toNat)
            case atStart => exact ⟨0, Nat.zero_le _, rfl, Below.refl _ _⟩
            case round =>
              obtain ⟨k2, hk2', rfl, hbel⟩ := hrel
              have e5 : wr.cell? ⟨w1.heap.size, 5, none⟩ = some (.slice Ag9 lq.length cg9) := (hbel.cell (p := ⟨w1.heap.size, 5, none⟩) zB).trans d5'
              have e4 : wr.cell? ⟨w1.heap.size, 4, none⟩ = some (.slice An9 lq.length cn9) := (hbel.cell (p := ⟨w1.heap.size, 4, none⟩) zB).trans d4'
              have zr : w1.heap.size < wr.heap.size := Nat.lt_of_lt_of_le zB hbel.size
              by_cases hlt2 : k2 < lq.length
              · obtain ⟨⟨pn, pv, pl⟩, hp⟩ : ∃ p, lq[k2]? = some p := ⟨_, List.getElem?_eq_getElem hlt2⟩
                obtain ⟨nn, hnn⟩ : ∃ x, N9[k2]? = some x := ⟨_, List.getElem?_eq_getElem (by rw [HNL.out]; exact hlt2)⟩
                obtain ⟨⟨gv9, gl⟩, hgg⟩ : ∃ x, G9[k2]? = some x := ⟨_, List.getElem?_eq_getElem (by rw [HGL.out]; exact hlt2)⟩
                have hsame : pn = nn ∧ pl = gl := by
                  have h1 : (lq.map gv)[k2]? = some (pn, pl) := by rw [List.getElem?_map, hp]; rfl
                  have h2 : (N9.zip (G9.map Prod.snd))[k2]? = some (nn, gl) := by rw [List.getElem?_zip_eq_some]; exact ⟨hnn, by rw [List.getElem?_map, hgg]; rfl⟩
                  rw [HALL.out, h2] at h1
                  simp at h1
                  exact ⟨h1.1.symm, h1.2.symm⟩
                obtain ⟨rfl, rfl⟩ := hsame
                have hqr : Mem.Rd w7 _ 2 _ (lq.map gotC) := Rd_of_q (rows := lq.map gotC) (by have := HE.out.1; exact this) (by simp) (gotC_rows lq)
                obtain ⟨gq, oq, rfl, hgq, hgql, hrowq⟩ := (hqr.below hbel).row (k := k2) (r := gotC (pn, pv, pl)) (by rw [List.getElem?_map, hp]; rfl)
                have hpi := (HE.out.2 (pn, pv, pl) (List.mem_of_getElem? hp)).below hbel
                have hN9' : IntsR wr ok9 (.slice An9 lq.length cn9) N9 := by have := HN9.out.below hbel; rw [HNL.out] at this; exact this
                have hG9' : Pks wr ok9 (.slice Ag9 lq.length cg9) G9 := by have := HG9.out.below hbel; rw [HGL.out] at this; exact this
                obtain ⟨gn, on, rfl, _, hgnl, hrown⟩ := hN9'.1.row (k := k2) (r := intc pn) (by rw [List.getElem?_map, hnn]; rfl)
                obtain ⟨gg, og, rfl, _, hggl, hrowg⟩ := hG9'.1.row (k := k2) (r := pk (gv9, pl)) (by rw [List.getElem?_map, hgg]; rfl)
                have hgi := hG9'.2 (gv9, pl) (List.mem_of_getElem? hgg)
                obtain ⟨Ap, cp, hpv⟩ := hpi.slice
                obtain ⟨Ah, ch, hgv⟩ := hgi.slice
                dsimp only at hpv hgv hpi hgi
                subst hpv
                subst hgv
                have a0 : wr.cell? ⟨gq, oq + k2 * 2, none⟩ = some (.int .i64 pn) := hrowq 0 _ rfl
                have a1 : wr.cell? ⟨gq, oq + k2 * 2 + 1, none⟩ = some (.slice Ap pl.length cp) := hrowq 1 _ rfl
                have b0 : wr.cell? ⟨gn, on + k2, none⟩ = some (.int .i64 pn) := by have := hrown 0 _ rfl; simpa using this
                have b1 : wr.cell? ⟨gg, og + k2, none⟩ = some (.slice Ah pl.length ch) := by have := hrowg 0 _ rfl; simpa [pk] using this
                have hlt2' : (k2 : Int) < (lq.length : Int) := by omega
                have HPI := Lib.hid hpi
                have HGI := Lib.hid hgi
                have HBEL := Lib.hid hbel
                clear hrowq hrown hrowg hpi hgi hN9' hG9' hqr hp hnn hgg hbel
                go_wp2_with fail
                refine Mem.wp_region_after (by kernel_rfl) (by kernel_rfl) ?_
                repeat (go_big_quiet_step ((go_at_call 27; exact Mem.After.call _ (Order_self pl _ _ _ _ _ (HPI.out.below (Mem.After.h _)) (HGI.out.below (Mem.After.h _))))))
                refine wpQuiet_nil ?_
                intro w8 hb8
                go_wp2_with fail
                go_roundw
                case rel => exact ⟨k2 + 1, by omega, by go_num, HBEL.out.trans (hb8.mono HBEL.out.size)⟩
                case measure => simp [intOf]; omega
              · go_wp2_with fail
                go_roundw
                case rel => exact RB.rel (RB.below HL7.out HL7.out.2.2.2.2.2.2.size hbel) hlt hlt3
                case measure => simp [intOf]; omega
      · go_wp2_with fail
        go_ret
        exact ⟨rfl, HX2.out.2.2.2.2.2.2⟩
    · go_wp2_with fail
      go_ret
      exact ⟨rfl, HX2.out.2.2.2.2.2.2⟩
end Go.Proofs.Ytbiicflcjipeeaa
