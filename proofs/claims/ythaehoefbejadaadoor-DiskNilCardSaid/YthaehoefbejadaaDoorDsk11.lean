/- DiskSure: the walk. -/
import Derived.Test.YthaehoefbejadaaDoorDsk9
import Derived.Test.YthaehoefbejadaaDoorDsk10
import Derived.Test.YthaehoefbejadaaDoorDskS
import Derived.Test.YthaehoefbejadaaDoorFlat
namespace Go.Proofs.YthaehoefbejadaaDoor.Dsk
open Go.RowKit Go.Maps
set_option linter.unusedSimpArgs false
set_option linter.unusedVariables false
def sureK : ByteArray := ⟨#[115, 117, 114, 101]⟩
def s1 (s : ByteArray) : Dk := Dk.new.push (.put sureK s 0)
def s2 (s : ByteArray) : Dk := (s1 s).sync.2
theorem sureL : sureK.toList = [115, 117, 114, 101] := by decide +kernel
theorem meas1 {n k : Nat} (h : k < n) : n - (intOf (.int .i64 ((k : Int) + 1))).toNat < n - (intOf (.int .i64 (k : Int))).toNat := by
  show n - ((k : Int) + 1).toNat < n - ((k : Int)).toNat; omega
theorem nameS : nameP sureK = true := by decide
theorem splice0 (s : ByteArray) : splice ⟨#[]⟩ s 0 = s := by
  have hz : (0 : Nat) + s.size < (⟨#[]⟩ : ByteArray).size ↔ False := by
    constructor
    · intro h
      have : (⟨#[]⟩ : ByteArray).size = 0 := rfl
      omega
    · exact False.elim
  unfold splice
  rw [if_neg (by rw [hz]; exact id)]
  apply ByteArray.ext
  simp
theorem sinv1 (s : ByteArray) (h : s.size ≤ 3000) : Dk.Inv (s1 s) := Dk.inv_new.push ⟨by decide, by decide, by omega⟩
theorem sinv2 (s : ByteArray) (h : s.size ≤ 3000) : Dk.Inv (s2 s) := (sinv1 s h).sync
theorem skeeps (s : ByteArray) : Dk.Keeps sureK s (s2 s) := by
  refine ⟨?_, fun c hc => by cases hc⟩
  show (Chg.does (fun _ => none) (.put sureK s 0)) sureK = some s
  show (FM.set (fun _ => none) sureK (splice (FM.get (fun _ => none) sureK) s 0)) sureK = some s
  rw [FM.set_same]
  exact congrArg some (splice0 s)
theorem sbad (s : ByteArray) (h : s.size ≤ 3000) : ¬ Dk.new.bad sureK (0 : Nat) s := by
  have e : ((Dk.new.now.get sureK).size : Int) = 0 := by decide
  unfold Dk.bad
  rw [nameS, e]
  simp
  omega
theorem su1 (B p : Nat) (s : ByteArray) (hs : s.size ≤ 3000) (W : World) (hB : B ≤ W.heap.size) (h : DiskAt W (fun k => B ≤ k) p 0 Dk.new) :
    Calls Tryd.prog 11 #[.pointer (some ⟨p, 0, none⟩), .string ⟨#[115, 117, 114, 101]⟩, .int .i64 0, .string s] W fun r w' => r = .returned (.int .i64 0) ∧ Below B W w' ∧ DiskAt w' (fun k => B ≤ k) p 1 (s1 s) := by
  refine (Put_good _ p 0 Dk.new sureK 0 s W h Dk.inv_new rfl (by decide) (sbad s hs) (by decide) (by decide)).mono ?_
  rintro _ w' ⟨rfl, h1, h2⟩
  exact ⟨rfl, above hB h1 h2⟩
theorem DiskAt.kept {W : World} {B p N : Nat} {d : Dk} (h : DiskAt W (fun k => B ≤ k) p N d) : DiskAt W (fun k => B ≤ k ∧ k < W.heap.size) p N d := by
  obtain ⟨bs, bn, v, h⟩ := h
  obtain ⟨h1, h2, h3, h4, h5, h6, h7, h8, h9⟩ := h
  obtain ⟨_, _, hb1⟩ := h2.choose_spec.1.isMap
  obtain ⟨_, _, hb2⟩ := h3.isMap
  exact ⟨bs, bn, v, h1, h2, h3, h4, ⟨h5, Mem.lt h1⟩, ⟨h6, Mem.lt hb1⟩, ⟨h7, Mem.lt hb2⟩, fun k hk => ⟨h8 k hk, by obtain ⟨c, hc⟩ := row_cells h4 k hk; exact Mem.lt hc⟩, h9⟩
theorem su2 (B p : Nat) (s : ByteArray) (hs : s.size ≤ 3000) (W : World) (hB : B ≤ W.heap.size) (h : DiskAt W (fun k => B ≤ k) p 1 (s1 s)) :
    Calls Tryd.prog 12 #[.pointer (some ⟨p, 0, none⟩)] W fun r w' => r = .returned (.int .i64 0) ∧ Below B W w' ∧ DiskAt w' (fun k => B ≤ k ∧ k < w'.heap.size) p 2 (s2 s) := by
  refine (Sync_any _ p 1 (s1 s) W h (sinv1 s hs) (by decide)).mono ?_
  rintro _ w' ⟨rfl, h1, h2⟩
  obtain ⟨h3, h4⟩ := above hB h1 h2
  exact ⟨rfl, h3, h4.kept⟩
/-- Blocks from B on, but those from M0 to M1. -/
abbrev Off (B M0 M1 : Nat) : Nat → Prop := fun k => B ≤ k ∧ (k < M0 ∨ M1 ≤ k)
theorem act_rows (l : List Act) : ∀ r ∈ l.map Act.cells, r.length = 5 := by
  intro r hr
  obtain ⟨x, _, rfl⟩ := List.mem_map.1 hr
  rfl
theorem offS {B M0 M1 : Nat} {W w' : World} (h : M1 ≤ W.heap.size) (hM : M0 ≤ M1) (hB : B ≤ M0) : ∀ k, Gr (Off B M0 M1) W w' k → Off B M0 M1 k := fun k hk => by rcases hk with hk | hk; exact hk; exact ⟨by omega, .inr (by omega)⟩
theorem wake_keeps {K t : ByteArray} {d : Dk} (hi : Dk.Inv d) (hk : Dk.Keeps K t d) (hn : nameP K = true) : (if ({ d with down := false } : Dk).there K ≠ 0 then (⟨#[]⟩ : ByteArray) else ({ d with down := false } : Dk).now.get K) = t ∧ ({ d with down := false } : Dk).there K = 0 := by
  have h1 : d.now K = some t := hk.now hi
  have h0 : ({ d with down := false } : Dk).there K = 0 := by
    unfold Dk.there
    rw [if_neg (show ¬ (false = true) by decide), if_pos hn]
    show (if (d.now K).isSome then (0 : Int) else 4) = 0
    rw [h1]
    rfl
  rw [h0, if_neg (by decide)]
  refine ⟨?_, rfl⟩
  show (d.now K).getD ⟨#[]⟩ = t
  rw [h1]
  rfl
theorem fa1 (B p N : Nat) (d : Dk) (k : Int) (W : World) (hB : B ≤ W.heap.size) (h : DiskAt W (fun k => B ≤ k) p N d) (hk : k ≤ 9223372036854775807) (hi : Dk.Inv d) (hN : N < 1073741824) :
    Calls Tryd.prog 15 #[.pointer (some ⟨p, 0, none⟩), .int .i64 k] W fun r w' => r = .returned (.tuple #[]) ∧ Below B W w' ∧ DiskAt w' (fun k => B ≤ k) p N (d.fail k) := by
  refine (Fail_any _ p N d k W h hk hi hN).mono ?_
  rintro _ w' ⟨rfl, h1, h2⟩
  exact ⟨rfl, above hB h1 h2⟩
theorem fa2 (B p N : Nat) (d : Dk) (W : World) (hB : B ≤ W.heap.size) (h : DiskAt W (fun k => B ≤ k) p N d) :
    Calls Tryd.prog 16 #[.pointer (some ⟨p, 0, none⟩)] W fun r w' => r = .returned (.tuple #[]) ∧ Below B W w' ∧ DiskAt w' (fun k => B ≤ k) p N { d with down := false } := by
  refine (Wake_any _ p N d W h).mono ?_
  rintro _ w' ⟨rfl, h1, h2⟩
  exact ⟨rfl, h1.below (fun k hk => by omega) hB, h2⟩
theorem fa3 (B p N : Nat) (s : ByteArray) (d : Dk) (W : World) (h : DiskAt W (fun k => B ≤ k) p N { d with down := false }) (hi : Dk.Inv d) (hk : Dk.Keeps sureK s d) :
    Calls Tryd.prog 17 #[.pointer (some ⟨p, 0, none⟩), .string ⟨#[115, 117, 114, 101]⟩] W fun r w' => r = .returned (.tuple #[.string s, .int .i64 0]) ∧ Below W.heap.size W w' := by
  have := Read_any _ p N _ sureK W h (by decide)
  obtain ⟨e1, e2⟩ := wake_keeps hi hk nameS
  rw [e1, e2] at this
  exact this
theorem Rd_in {w : World} {ok : Nat → Prop} {sz : Nat} {v : Value} {rows : List (List Value)} (h : Mem.Rd w ok sz v rows) : Mem.Rd w (fun k => ok k ∧ k < w.heap.size) sz v rows := by
  obtain ⟨A, cap, e, h1, h2, h3, h4⟩ := h
  exact ⟨A, cap, e, h1, h2, fun hr => by obtain ⟨g, o, ea, hg, hl⟩ := h3 hr; exact ⟨g, o, ea, ⟨hg, hl⟩, hl⟩, h4⟩
theorem Rd_off {B M0 M1 : Nat} {w w1 : World} {sz : Nat} {v : Value} {rows : List (List Value)} (h : Mem.Rd w (fun k => M0 ≤ k ∧ k < M1) sz v rows) (hc : Mem.Ch (Off B M0 M1) w w1) : Mem.Rd w1 (fun k => M0 ≤ k ∧ k < M1) sz v rows :=
  h.step hc.size (fun k hk hl => hc.block k hl (fun ho => by rcases ho.2 with h | h <;> omega))
theorem again {B M0 M1 p j : Nat} {s : ByteArray} {d d' : Dk} {x : Act} {e : Int} {n : Nat} {w5 wr w6 : World} (hlt : j < n) (hsz : M1 ≤ wr.heap.size) (h45 : M0 ≤ M1) (h04 : B ≤ M0) (hx : x.fit) (hf : x.far sureK)
    (H : Mem.Ch (Off B M0 M1) w5 wr ∧ DiskAt wr (Off B M0 M1) p (2 + j) d ∧ Dk.Inv d ∧ Dk.Keeps sureK s d) (hc : Mem.Ch (Off B M0 M1) wr w6) (hD : DiskAt w6 (Gr (Off B M0 M1) wr w6) p (2 + j + 1) d') (hA : Acts d x e d') :
    ∃ (j' : Nat) (d : Dk), j' ≤ n ∧ Value.int .i64 ((j : Int) + 1) = .int .i64 (j' : Int) ∧ Mem.Ch (Off B M0 M1) w5 w6 ∧ DiskAt w6 (Off B M0 M1) p (2 + j') d ∧ Dk.Inv d ∧ Dk.Keeps sureK s d := by
  obtain ⟨h1, h2, h3, h4⟩ := H
  obtain ⟨h5, h6⟩ := hA.keep hx hf h3 h4
  exact ⟨j + 1, d', by omega, rfl, h1.trans' hc, hD.mono (offS hsz h45 h04), h5, h6⟩
set_option maxRecDepth 100000 in
set_option maxHeartbeats 4000000 in
theorem DiskSure_any (s : ByteArray) (l : List Act) (v : Value) (k : Int) (ok : Nat → Prop) (w : World) (h : Mem.Rd w ok 5 v (l.map Act.cells)) (hl : ∀ x ∈ l, x.fit) (hk : -9223372036854775808 ≤ k ∧ k ≤ 9223372036854775807) (hsm : s.size ≤ maxLen) :
    Calls Tryd.prog 3 #[.string s, v, .int .i64 k] w fun r w' => r = .returned (.bool true) ∧ Below w.heap.size w w' := by
  have tok1 : True := trivial
  obtain ⟨A0, cap0, rfl⟩ := h.slice
  have hll : (l.map Act.cells).length = l.length := List.length_map _
  rw [hll] at h ⊢
  have HR := Lib.hid h
  have HL := Lib.hid hl
  clear h hl hll
  by_cases hs : s.size ≤ 3000
  · have hs' : (s.size : Int) ≤ 3000 := by omega
    go_enter Tryd.func3, Tryd.ntmps3
    go_wp2_with (first
      | (go_at_call 9; refine (New_any _).mono ?_; rintro _ w1 ⟨p, rfl, hb1, hD1⟩; have hX1 := hD1.mono (S' := fun k => w.heap.size ≤ k) (fun k hk => hk.1))
      | (go_at_call 10; refine (awake_any _).mono ?_; rintro _ w2 ⟨rfl, hb2⟩; have hX2 := hX1.below hb2; have hb12 := hb1.trans (hb2.mono hb1.size))
      | (go_at_call 11; refine (su1 w.heap.size p s hs _ hb12.size hX2).mono ?_; rintro _ w3 ⟨rfl, hb3, hX3⟩; have hb13 := hb12.trans hb3)
      | (go_at_call 12; refine (su2 w.heap.size p s hs _ hb13.size hX3).mono ?_; rintro _ w4 ⟨rfl, hb4, hX4⟩; have hb14 := hb13.trans hb4)
      | (go_at_call 13; refine (most_any l _ ok _ (HR.out.below hb14)).mono ?_; rintro _ w5 ⟨vm, out, rfl, hown, hmem, hlen, hb5⟩; have hb15 := hb14.trans (hb5.mono hb14.size)))
    obtain ⟨Av, cv, rfl, hcv⟩ := Qu.q_slice (Qu.q_of_own hown)
    have hRd := Rd_in (Mem.Rd.of_owns (rows := out.map Act.cells) hown (List.length_map _).symm (act_rows out))
    have hD5 : DiskAt w5 (Off w.heap.size w4.heap.size w5.heap.size) p 2 (s2 s) := (hX4.below hb5).mono (fun k hk => ⟨hk.1, .inl hk.2⟩)
    have h45 := hb5.size
    have h04 := hb14.size
    have HB := Lib.hid hb15
    have HD := Lib.hid (And.intro hRd hD5)
    clear hb1 hD1 hX1 hb2 hX2 hb12 hb3 hX3 hb13 hb4 hX4 hb14 hb5 hb15 hown hRd hD5
    go_loopw [9] (fun i wr => ∃ (j : Nat) (d : Dk), j ≤ out.length ∧ i = .int .i64 j ∧ Mem.Ch (Off w.heap.size w4.heap.size w5.heap.size) w5 wr ∧ DiskAt wr (Off w.heap.size w4.heap.size w5.heap.size) p (2 + j) d ∧ Dk.Inv d ∧ Dk.Keeps sureK s d) (fun i _ => out.length - (intOf i).toNat)
    case atStart => exact ⟨0, s2 s, Nat.zero_le _, rfl, Mem.Ch.refl _ _, HD.out.2, sinv2 s hs, skeeps s⟩
    case round =>
      obtain ⟨j, d, hj, rfl, hch, hD, hinv, hkeep⟩ := hrel
      have hsz := hch.size
      by_cases hlt : j < out.length
      · obtain ⟨x, hx⟩ : ∃ x, out[j]? = some x := ⟨_, List.getElem?_eq_getElem hlt⟩
        obtain ⟨g, o, rfl, hg, hgl, hrow⟩ := (Rd_off HD.out.1 hch).row (k := j) (r := x.cells) (by rw [List.getElem?_map, hx]; rfl)
        have c0 : wr.cell? ⟨g, o + j * 5, none⟩ = some (.int .i64 x.kind) := hrow 0 _ rfl
        have c1 : wr.cell? ⟨g, o + j * 5 + 1, none⟩ = some (.string x.name) := hrow 1 _ rfl
        have c2 : wr.cell? ⟨g, o + j * 5 + 2, none⟩ = some (.int .i64 x.n) := hrow 2 _ rfl
        have c3 : wr.cell? ⟨g, o + j * 5 + 3, none⟩ = some (.int .i64 x.m) := hrow 3 _ rfl
        have c4 : wr.cell? ⟨g, o + j * 5 + 4, none⟩ = some (.string x.s) := hrow 4 _ rfl
        have hlt' : (j : Int) < (out.length : Int) := by omega
        have hkw : wrap64 ((j : Int) + 1) = (j : Int) + 1 := by unfold wrap64; omega
        have hfit := HL.out x (hmem x (List.mem_of_getElem? hx))
        have HX := Lib.hid (And.intro hch (And.intro hD (And.intro hinv hkeep)))
        clear hrow hch hD hinv hkeep hx
        have HF := Lib.hid (And.intro hfit (And.intro hsz (And.intro h45 h04)))
        have HM := Lib.hid (And.intro hmem hk)
        clear hfit hsz h45 h04 hmem hk hsm
        obtain ⟨kind, name, n1, m1, st⟩ := x
        dsimp only at c0 c1 c2 c3 c4
        by_cases e1 : name.toList = [115, 117, 114, 101]
        · go_wp2_with fail
          go_roundw
          case rel => exact ⟨j + 1, d, by omega, rfl, HX.out.1, HX.out.2.1.more (by omega), HX.out.2.2.1, HX.out.2.2.2⟩
          case measure => exact meas1 hlt
        · by_cases e2 : kind = 2
          · subst e2
            by_cases e3 : st.toList = [115, 117, 114, 101]
            · go_wp2_with fail
              go_roundw
              case rel => exact ⟨j + 1, d, by omega, rfl, HX.out.1, HX.out.2.1.more (by omega), HX.out.2.2.1, HX.out.2.2.2⟩
              case measure => exact meas1 hlt
            · have hfar : Act.far ⟨2, name, n1, m1, st⟩ sureK := ⟨fun e => e1 ((congrArg ByteArray.toList e).trans sureL), fun e => e3 ((congrArg ByteArray.toList e.2).trans sureL)⟩
              have HG := Lib.hid hfar
              have b1 : (name.toList == [115, 117, 114, 101]) = false := by simpa using e1
              have b3 : (st.toList == [115, 117, 114, 101]) = false := by simpa using e3
              clear hfar e1 e3
              go_wp2_with (go_at_call 14; refine (Does_any (Off w.heap.size w4.heap.size w5.heap.size) p (2 + j) d ⟨2, name, n1, m1, st⟩ _ HX.out.2.1 HX.out.2.2.1 HF.out.1 (by omega)).mono ?_; rintro _ w6 ⟨e, d', rfl, hc6, hD6, hA6⟩)
              go_roundw
              case rel => exact again hlt HF.out.2.1 HF.out.2.2.1 HF.out.2.2.2 HF.out.1 HG.out HX.out hc6 hD6 hA6
              case measure => exact meas1 hlt
          · have hfar : Act.far ⟨kind, name, n1, m1, st⟩ sureK := ⟨fun e => e1 ((congrArg ByteArray.toList e).trans sureL), fun e => e2 e.1⟩
            have HG := Lib.hid hfar
            have b1 : (name.toList == [115, 117, 114, 101]) = false := by simpa using e1
            clear hfar e1
            go_wp2_with (go_at_call 14; refine (Does_any (Off w.heap.size w4.heap.size w5.heap.size) p (2 + j) d ⟨kind, name, n1, m1, st⟩ _ HX.out.2.1 HX.out.2.2.1 HF.out.1 (by omega)).mono ?_; rintro _ w6 ⟨e, d', rfl, hc6, hD6, hA6⟩)
            go_roundw
            case rel => exact again hlt HF.out.2.1 HF.out.2.2.1 HF.out.2.2.2 HF.out.1 HG.out HX.out hc6 hD6 hA6
            case measure => exact meas1 hlt
      · have hge : (out.length : Int) ≤ (j : Int) := by omega
        have hX5 : DiskAt wr (fun k => w.heap.size ≤ k) p (2 + j) d := hD.mono (fun k hk => hk.1)
        have hb5 : Below w.heap.size w5 wr := hch.below (fun k hk hS => by have := hS.1; omega) (by omega)
        have hN : 2 + j < 1073741824 := by omega
        have hwr : w.heap.size ≤ wr.heap.size := by omega
        clear hch hD
        go_wp2_with (first
          | (go_at_call 15; refine (fa1 w.heap.size p _ d k _ hwr hX5 hk.2 hinv hN).mono ?_; rintro _ w6 ⟨rfl, hb6, hX6⟩; have hb56 := hb5.trans hb6)
          | (go_at_call 16; refine (fa2 w.heap.size p _ _ _ (Nat.le_trans hwr hb6.size) hX6).mono ?_; rintro _ w7 ⟨rfl, hb7, hX7⟩)
          | (go_at_call 17; refine (fa3 w.heap.size p _ s _ _ hX7 (hinv.fail k) (hkeep.fail k)).mono ?_; rintro _ w8 ⟨rfl, hb8⟩))
        go_ret
        exact ⟨rfl, ((HB.out.trans hb56).trans hb7).trans (hb8.mono (Nat.le_trans (Nat.le_trans hwr hb6.size) hb7.size))⟩
  · have hs' : 3000 < (s.size : Int) := by omega
    go_enter Tryd.func3, Tryd.ntmps3
    go_wp2_with (first
      | (go_at_call 9; refine (New_any _).mono ?_; rintro _ w1 ⟨p, rfl, hb1, hD1⟩)
      | (go_at_call 10; have _t := tok1; refine (awake_any _).mono ?_; rintro _ w2 ⟨rfl, hb2⟩; have hb12 := hb1.trans (hb2.mono hb1.size); clear tok1)
      | (go_at_call 10; refine (awake_any _).mono ?_; rintro _ w3 ⟨rfl, hb3⟩; have hb13 := hb12.trans (hb3.mono hb12.size)))
    go_ret
    exact ⟨rfl, hb13⟩
end Go.Proofs.YthaehoefbejadaaDoor.Dsk
