/- ShelfFalls: the walk (printed by tools/gen_falls2.py). -/
import Derived.Test.YtbpnhaeladcbnaaDoorShl19
namespace Go.Proofs.YtbpnhaeladcbnaaDoor
open Go.RowKit
set_option linter.unusedSimpArgs false
set_option linter.unusedVariables false
open Dsk (DiskAt Dk nameP FM Off)
open Shf
theorem Rnd.on {w wr W : World} {p M N N' : Nat} {d : Dk} {v : Vt} {s : Sn} {is : Bool} (h : Rnd w wr p M N d v s is) (hb : Below wr.heap.size wr W) (hN : N ≤ N') : Rnd w W p M N' d v s is :=
  ⟨h.bel.trans (hb.mono h.bel.size), (hb.block _ (Mem.lt h.V)).trans h.V, (hb.block _ (Mem.lt h.S)).trans h.S, (h.D.below hb).more hN, h.up, h.still, h.hv, h.hs, h.low⟩
theorem not_off0 {B M : Nat} : ¬ Off B M (M + 2) M := fun h => by rcases h.2 with h | h <;> omega
theorem not_off1 {B M : Nat} : ¬ Off B M (M + 2) (M + 1) := fun h => by rcases h.2 with h | h <;> omega
theorem DiskAt_set {W : World} {S : Nat → Prop} {p N g j : Nat} {d : Dk} {u : Value} (h : DiskAt W S p N d) (hg : ¬ S g) : DiskAt (W.setCell ⟨g, j, none⟩ u) S p N d :=
  h.step (by simp [World.setCell]) (fun k hk _ => Below.heap_setCell W ⟨g, j, none⟩ u k (by rintro rfl; exact hg hk)) (fun _ h => h)
theorem bel_set {w W : World} {g j : Nat} {u : Value} (h : Below w.heap.size w W) (hg : w.heap.size ≤ g) : Below w.heap.size w (W.setCell ⟨g, j, none⟩ u) := Mem.Ch.below (S := fun k => w.heap.size ≤ k) ((Mem.Ch.of_below h).set (.inr hg)) (fun k hk hS => absurd hk (by omega)) (Nat.le_refl _)
theorem not_of0 {B M q : Nat} : ¬ Of B M q M := fun h => not_off0 h.1
theorem not_of1 {B M q : Nat} : ¬ Of B M q (M + 1) := fun h => not_off1 h.1
theorem not_ofq {B M q : Nat} : ¬ Of B M q q := fun h => h.2 rfl
theorem ch_in {B M q : Nat} {W W' : World} (h : Mem.Ch (Of B M q) W W') (hB : B ≤ W.heap.size) : Below B W W' := h.below (fun k hk hS => absurd hS.1.1 (by omega)) hB
set_option maxRecDepth 100000 in
set_option maxHeartbeats 16000000 in
theorem ShelfFalls_any (l : List Sv) (v : Value) (n k : Int) (ok : Nat → Prop) (w : World) (h : Mem.Rd w ok 7 v (l.map Sv.cells)) (hl : ∀ x ∈ l, IsI64 x.v.to) (hn : IsI64 n) (hk : IsI64 k) :
    Calls Tryd.prog 3 #[v, .int .i64 n, .int .i64 k] w fun r w' => r = .returned (.bool true) ∧ Below w.heap.size w w' := by
  obtain ⟨A0, cap0, rfl⟩ := h.slice
  have hll : (l.map Sv.cells).length = l.length := List.length_map _
  rw [hll] at h ⊢
  have HR := Lib.hid h
  have HL := Lib.hid hl
  have HK := Lib.hid hk
  clear h hl hll hk hn
  go_enter Tryd.func3, Tryd.ntmps3
  go_wp2_with (first
    | (go_at_call 5; refine (Dsk.New_any _).mono ?_; rintro _ w1 ⟨p, rfl, hb1, hD1⟩)
    | (go_at_call 6; refine (awake7_any _).mono ?_; rintro _ w2 ⟨rfl, hb2⟩; have e1 : Below w1.heap.size w1 ((w1.alloc (.cells #[.int .i64 0, .int .i64 (-1)] 26)).alloc (.cells #[.int .i64 0, .int .i64 0, .int .i64 0, .string ⟨#[]⟩] 28)) := ((Below.refl _ _).alloc (Nat.le_refl _) _).alloc (by simp) _; have hD2 : DiskAt w2 (Off w.heap.size w1.heap.size (w1.heap.size + 2)) p 0 Dk.new := ((hD1.below e1).below hb2).mono (fun k hk => ⟨hk.1, .inl hk.2⟩); have V2 := (hb2.block w1.heap.size (by simp; omega)).trans (Mem.old (Mem.new w1 (.cells #[.int .i64 0, .int .i64 (-1)] 26)) _); have sn := Mem.new (w1.alloc (.cells #[.int .i64 0, .int .i64 (-1)] 26)) (.cells #[.int .i64 0, .int .i64 0, .int .i64 0, .string ⟨#[]⟩] 28); rw [show (w1.alloc (.cells #[.int .i64 0, .int .i64 (-1)] 26)).heap.size = w1.heap.size + 1 by simp] at sn; have S2 := (hb2.block (w1.heap.size + 1) (by simp)).trans sn; have a1 := hb1.trans (e1.mono hb1.size); have a2 := a1.trans (hb2.mono a1.size))
    | (go_at_call 7; refine (Dsk.Trip_any _ p 0 Dk.new _ k _ hD2).mono ?_; rintro _ w3 ⟨rfl, hc3, hD3⟩; have V3 := hc3.at_ V2 not_off0; have S3 := hc3.at_ S2 not_off1; have a3 := a2.trans (hc3.below (B := w.heap.size) (fun k hk hS => absurd hS.1 (by omega)) a2.size)))
  have h01 := hb1.size
  have HI := Lib.hid (show Rnd w w3 p w1.heap.size 0 _ ⟨0, -1⟩ ⟨0, 0, 0, ⟨#[]⟩⟩ false from ⟨a3, V3, S3, hD3, ⟨⟨HK.out.2, trivial, rfl⟩, rfl, show (-1 : Int) < 0 by decide⟩, ⟨rfl, rfl⟩, .inl ⟨rfl, rfl⟩, .inl ⟨rfl, rfl, rfl⟩, h01⟩)
  clear hb1 hD1 hb2 e1 hD2 V2 sn S2 a1 a2 hc3 hD3 V3 S3 a3
  go_loopw [10, 11] (fun sm i wr => ∃ (j : Nat) (d : Dk) (v : Vt) (s : Sn) (is : Bool), j ≤ l.length ∧ j ≤ 12 ∧ sm = .bool is ∧ i = .int .i64 (j : Int) ∧ Rnd w wr p w1.heap.size (5 * j) d v s is) (fun _ i _ => l.length - (intOf i).toNat)
  case atStart => exact ⟨0, _, _, _, _, Nat.zero_le _, Nat.zero_le _, rfl, rfl, HI.out⟩
  case round =>
    obtain ⟨j, d, ⟨va, vb⟩, ⟨sa, sb, sm, st⟩, is, hj, hj12, rfl, rfl, hr⟩ := hrel
    have hlen : (l.length : Int) ≤ 9223372036854775807 := by have := HR.out.len; rw [List.length_map] at this; omega
    by_cases hlt : j < l.length
    · have hlt' : (j : Int) < (l.length : Int) := by omega
      by_cases h12 : j < 12
      · skip
        obtain ⟨y, hy⟩ : ∃ y, l[j]? = some y := ⟨_, List.getElem?_eq_getElem hlt⟩
        have hi := HL.out y (List.mem_of_getElem? hy)
        obtain ⟨g, o, rfl, hg, hgl, hrow⟩ := (HR.out.below hr.bel).row (k := j) (r := y.cells) (by rw [List.getElem?_map, hy]; rfl)
        obtain ⟨xb, ⟨xa, xf⟩, ⟨xi, xt, xm, xs⟩⟩ := y
        have c0 : wr.cell? ⟨g, o + j * 7, none⟩ = some (.bool xb) := hrow 0 _ rfl
        have c1 : wr.cell? ⟨g, o + j * 7 + 1, none⟩ = some (.int .i64 xa) := hrow 1 _ rfl
        have c2 : wr.cell? ⟨g, o + j * 7 + 2, none⟩ = some (.int .i64 xf) := hrow 2 _ rfl
        have c3 : wr.cell? ⟨g, o + j * 7 + 3, none⟩ = some (.int .i64 xi) := hrow 3 _ rfl
        have c4 : wr.cell? ⟨g, o + j * 7 + 4, none⟩ = some (.int .i64 xt) := hrow 4 _ rfl
        have c5 : wr.cell? ⟨g, o + j * 7 + 5, none⟩ = some (.int .i64 xm) := hrow 5 _ rfl
        have c6 : wr.cell? ⟨g, o + j * 7 + 6, none⟩ = some (.string xs) := hrow 6 _ rfl
        have hkw : wrap64 ((j : Int) + 1) = (j : Int) + 1 := by unfold wrap64; omega
        have h12' : (j : Int) < 12 := by omega
        have hz : w1.heap.size + 2 ≤ wr.heap.size := by have := Mem.lt hr.S; omega
        have X4 := Mem.new wr (.cells #[.bool xb, .int .i64 xa, .int .i64 xf, .int .i64 xi, .int .i64 xt, .int .i64 xm, .string xs] 32)
        have HX := Lib.hid hr
        clear hrow hy hg
        have hi' : IsI64 xf := hi
        clear hi
        have b4 : Below wr.heap.size wr (wr.alloc (.cells #[.bool xb, .int .i64 xa, .int .i64 xf, .int .i64 xi, .int .i64 xt, .int .i64 xm, .string xs] 32)) := (Below.refl _ _).alloc (Nat.le_refl _) _
        clear hr
        by_cases hxl : (3000 : Int) < (xs.size : Int)
        · go_wp2_with fail
          go_roundw
          case rel => exact ⟨j + 1, d, ⟨va, vb⟩, ⟨sa, sb, sm, st⟩, is, hlt, by omega, rfl, by go_num, HX.out.on b4 (by omega)⟩
          case measure => first | exact fmeas hlt | (rw [hkw]; exact fmeas hlt)
        · have hxl' : (xs.size : Int) ≤ 3000 := by omega
          clear hxl
          by_cases hx : Sv.ok ⟨xb, ⟨xa, xf⟩, ⟨xi, xt, xm, xs⟩⟩
          · cases xb
            · have hok : Vt.ok ⟨xa, xf⟩ := by
                rcases hx with ⟨h1, h⟩ | ⟨h1, h⟩
                · exact h
                · cases h1
              have hvd := fun W => rvoted_any ⟨xa, xf⟩ W
              simp only [decide_eq_true hok] at hvd
              unfold Vt.val at hvd
              dsimp only at hvd
              have D4 : DiskAt (wr.alloc (.cells #[.bool false, .int .i64 xa, .int .i64 xf, .int .i64 xi, .int .i64 xt, .int .i64 xm, .string xs] 32)) (Of w.heap.size w1.heap.size wr.heap.size) p (5 * j) d := ((DiskAt_kept HX.out.D).below b4).mono (fun k hk => ⟨hk.1, by have := hk.2; omega⟩)
              have hS' : ∀ k, (wr.alloc (.cells #[.bool false, .int .i64 xa, .int .i64 xf, .int .i64 xi, .int .i64 xt, .int .i64 xm, .string xs] 32)).heap.size ≤ k → Of w.heap.size w1.heap.size wr.heap.size k := fun k hk => by
                have h2 : wr.heap.size + 1 ≤ k := by simpa using hk
                exact ⟨⟨by omega, .inr (by omega)⟩, by omega⟩
              have V4 := Mem.old HX.out.V (.cells #[.bool false, .int .i64 xa, .int .i64 xf, .int .i64 xi, .int .i64 xt, .int .i64 xm, .string xs] 32)
              have S4 := Mem.old HX.out.S (.cells #[.bool false, .int .i64 xa, .int .i64 xf, .int .i64 xi, .int .i64 xt, .int .i64 xm, .string xs] 32)
              have hsv := lsave_any _ p (5 * j) d ⟨false, ⟨xa, xf⟩, ⟨xi, xt, xm, xs⟩⟩ hi' hx _ hS' D4 HX.out.up (by omega)
              have hst := step_sv HX.out.up HX.out.still HX.out.hv HX.out.hs hi' hx
              generalize Sv.does ⟨false, ⟨xa, xf⟩, ⟨xi, xt, xm, xs⟩⟩ d = R at hsv hst
              obtain ⟨e, d2⟩ := R
              dsimp only at hsv hst
              obtain ⟨s1, s2, s3, hst⟩ := hst
              have hroom : d2.room < 0 := by rw [s3]; exact HX.out.up.room
              simp only [Bool.false_eq_true, reduceIte] at hst
              have HZ := Lib.hid (And.intro s1 (And.intro s2 hroom))
              clear hx hok hS' D4 s1 s2 s3 hroom
              rcases hst with ⟨rfl, s4, s5, s6⟩ | ⟨rfl, s4, s5⟩
              · have HN := Lib.hid (And.intro s5 s6)
                clear s5 s6
                go_wp2_with (first
                  | (go_at_call 8; refine hsv.mono ?_; rintro _ w5 ⟨rfl, hc5, hD5⟩; have V5 := hc5.at_ V4 not_of0; have S5 := hc5.at_ S4 not_of1; have X5 := hc5.at_ X4 not_ofq; have k4 := HX.out.bel.trans (b4.mono HX.out.bel.size); have k5 := k4.trans (ch_in hc5 k4.size); have cV0_5 : w5.cell? ⟨w1.heap.size, 0, none⟩ = some (.int .i64 va) := Mem.cell V5 rfl; have cV1_5 : w5.cell? ⟨w1.heap.size, 1, none⟩ = some (.int .i64 vb) := Mem.cell V5 rfl; have cS0_5 : w5.cell? ⟨w1.heap.size + 1, 0, none⟩ = some (.int .i64 sa) := Mem.cell S5 rfl; have cS1_5 : w5.cell? ⟨w1.heap.size + 1, 1, none⟩ = some (.int .i64 sb) := Mem.cell S5 rfl; have cS2_5 : w5.cell? ⟨w1.heap.size + 1, 2, none⟩ = some (.int .i64 sm) := Mem.cell S5 rfl; have cS3_5 : w5.cell? ⟨w1.heap.size + 1, 3, none⟩ = some (.string st) := Mem.cell S5 rfl; have fV0_5 : w5.frozen? ⟨w1.heap.size, 0, none⟩ = false := Mem.free V5; have fV1_5 : w5.frozen? ⟨w1.heap.size, 1, none⟩ = false := Mem.free V5; have fS0_5 : w5.frozen? ⟨w1.heap.size + 1, 0, none⟩ = false := Mem.free S5; have fS1_5 : w5.frozen? ⟨w1.heap.size + 1, 1, none⟩ = false := Mem.free S5; have fS2_5 : w5.frozen? ⟨w1.heap.size + 1, 2, none⟩ = false := Mem.free S5; have fS3_5 : w5.frozen? ⟨w1.heap.size + 1, 3, none⟩ = false := Mem.free S5; have cX0_5 : w5.cell? ⟨wr.heap.size, 0, none⟩ = some (.bool false) := Mem.cell X5 rfl; have cX1_5 : w5.cell? ⟨wr.heap.size, 1, none⟩ = some (.int .i64 xa) := Mem.cell X5 rfl; have cX2_5 : w5.cell? ⟨wr.heap.size, 2, none⟩ = some (.int .i64 xf) := Mem.cell X5 rfl; have cX3_5 : w5.cell? ⟨wr.heap.size, 3, none⟩ = some (.int .i64 xi) := Mem.cell X5 rfl; have cX4_5 : w5.cell? ⟨wr.heap.size, 4, none⟩ = some (.int .i64 xt) := Mem.cell X5 rfl; have cX5_5 : w5.cell? ⟨wr.heap.size, 5, none⟩ = some (.int .i64 xm) := Mem.cell X5 rfl; have cX6_5 : w5.cell? ⟨wr.heap.size, 6, none⟩ = some (.string xs) := Mem.cell X5 rfl; clear hc5)
                  | (go_at_call 9; refine (hvd _).mono ?_; rintro _ w6 ⟨rfl, hb6⟩; have V6 := (hb6.block w1.heap.size (Mem.lt V5)).trans V5; have S6 := (hb6.block (w1.heap.size + 1) (Mem.lt S5)).trans S5; have X6 := (hb6.block wr.heap.size (Mem.lt X5)).trans X5; have D6 := hD5.below hb6; have k6 := k5.trans (hb6.mono k5.size); have cV0_6 : w6.cell? ⟨w1.heap.size, 0, none⟩ = some (.int .i64 va) := Mem.cell V6 rfl; have cV1_6 : w6.cell? ⟨w1.heap.size, 1, none⟩ = some (.int .i64 vb) := Mem.cell V6 rfl; have cS0_6 : w6.cell? ⟨w1.heap.size + 1, 0, none⟩ = some (.int .i64 sa) := Mem.cell S6 rfl; have cS1_6 : w6.cell? ⟨w1.heap.size + 1, 1, none⟩ = some (.int .i64 sb) := Mem.cell S6 rfl; have cS2_6 : w6.cell? ⟨w1.heap.size + 1, 2, none⟩ = some (.int .i64 sm) := Mem.cell S6 rfl; have cS3_6 : w6.cell? ⟨w1.heap.size + 1, 3, none⟩ = some (.string st) := Mem.cell S6 rfl; have fV0_6 : w6.frozen? ⟨w1.heap.size, 0, none⟩ = false := Mem.free V6; have fV1_6 : w6.frozen? ⟨w1.heap.size, 1, none⟩ = false := Mem.free V6; have fS0_6 : w6.frozen? ⟨w1.heap.size + 1, 0, none⟩ = false := Mem.free S6; have fS1_6 : w6.frozen? ⟨w1.heap.size + 1, 1, none⟩ = false := Mem.free S6; have fS2_6 : w6.frozen? ⟨w1.heap.size + 1, 2, none⟩ = false := Mem.free S6; have fS3_6 : w6.frozen? ⟨w1.heap.size + 1, 3, none⟩ = false := Mem.free S6; have cX0_6 : w6.cell? ⟨wr.heap.size, 0, none⟩ = some (.bool false) := Mem.cell X6 rfl; have cX1_6 : w6.cell? ⟨wr.heap.size, 1, none⟩ = some (.int .i64 xa) := Mem.cell X6 rfl; have cX2_6 : w6.cell? ⟨wr.heap.size, 2, none⟩ = some (.int .i64 xf) := Mem.cell X6 rfl; have cX3_6 : w6.cell? ⟨wr.heap.size, 3, none⟩ = some (.int .i64 xi) := Mem.cell X6 rfl; have cX4_6 : w6.cell? ⟨wr.heap.size, 4, none⟩ = some (.int .i64 xt) := Mem.cell X6 rfl; have cX5_6 : w6.cell? ⟨wr.heap.size, 5, none⟩ = some (.int .i64 xm) := Mem.cell X6 rfl; have cX6_6 : w6.cell? ⟨wr.heap.size, 6, none⟩ = some (.string xs) := Mem.cell X6 rfl; clear hb6 V5 S5 X5 k5 hD5)
                  | (go_at_call 13; refine (loads_yes _ p _ d2 _ (DiskAt_set (DiskAt_set D6 not_of0) not_of0) s4 ⟨xa, xf⟩ ⟨sa, sb, sm, st⟩ is HN.out.1 HN.out.2).mono ?_; rintro _ w7 ⟨rfl, hb7⟩))
                go_roundw
                case rel => exact ⟨j + 1, d2, ⟨xa, xf⟩, ⟨sa, sb, sm, st⟩, is, hlt, by omega, rfl, by go_num, ⟨(bel_set (bel_set k6 (by omega)) (by omega)).trans (hb7.mono ((bel_set (bel_set k6 (by omega)) (by omega))).size), (hb7.block _ (Mem.lt (Mem.set (j := 1) (u := .int .i64 xf) (Mem.set (j := 0) (u := .int .i64 xa) V6)))).trans (Mem.set (j := 1) (u := .int .i64 xf) (Mem.set (j := 0) (u := .int .i64 xa) V6)), (hb7.block _ (Mem.lt (Mem.set_ne (Mem.set_ne S6 (by omega)) (by omega)))).trans (Mem.set_ne (Mem.set_ne S6 (by omega)) (by omega)), (((DiskAt_set (DiskAt_set D6 not_of0) not_of0).below hb7).mono (fun k hk => hk.1)).more (by omega), ⟨HZ.out.2.1, s4, HZ.out.2.2⟩, HZ.out.1, HN.out.1, HN.out.2, h01⟩⟩
                case measure => first | exact fmeas hlt | (rw [hkw]; exact fmeas hlt)
              · obtain ⟨v1, sn1, i1, hN1⟩ : ∃ v1 sn1 i1, VoteIn d2.now v1 ∧ SnapIn d2.now sn1 i1 ∧ ((v1 = ⟨va, vb⟩ ∧ sn1 = ⟨sa, sb, sm, st⟩ ∧ i1 = is) ∨ (v1 = ⟨xa, xf⟩ ∧ sn1 = ⟨sa, sb, sm, st⟩ ∧ i1 = is)) := by
                  rcases s5 with ⟨h1, h2⟩ | ⟨h1, h2⟩
                  · exact ⟨_, _, _, h1, h2, .inl ⟨rfl, rfl, rfl⟩⟩
                  · exact ⟨_, _, _, h1, h2, .inr ⟨rfl, rfl, rfl⟩⟩
                have HN1 := Lib.hid hN1
                have HU := Lib.hid (And.intro (show Up { d2 with down := false } from up_wake HZ.out.2.1 HZ.out.2.2) (show Still { d2 with down := false } from ⟨HZ.out.1.row, HZ.out.1.same⟩))
                clear s5 hN1
                go_wp2_with (first
                  | (go_at_call 8; refine hsv.mono ?_; rintro _ w5 ⟨rfl, hc5, hD5⟩; have V5 := hc5.at_ V4 not_of0; have S5 := hc5.at_ S4 not_of1; have X5 := hc5.at_ X4 not_ofq; have k4 := HX.out.bel.trans (b4.mono HX.out.bel.size); have k5 := k4.trans (ch_in hc5 k4.size); have cV0_5 : w5.cell? ⟨w1.heap.size, 0, none⟩ = some (.int .i64 va) := Mem.cell V5 rfl; have cV1_5 : w5.cell? ⟨w1.heap.size, 1, none⟩ = some (.int .i64 vb) := Mem.cell V5 rfl; have cS0_5 : w5.cell? ⟨w1.heap.size + 1, 0, none⟩ = some (.int .i64 sa) := Mem.cell S5 rfl; have cS1_5 : w5.cell? ⟨w1.heap.size + 1, 1, none⟩ = some (.int .i64 sb) := Mem.cell S5 rfl; have cS2_5 : w5.cell? ⟨w1.heap.size + 1, 2, none⟩ = some (.int .i64 sm) := Mem.cell S5 rfl; have cS3_5 : w5.cell? ⟨w1.heap.size + 1, 3, none⟩ = some (.string st) := Mem.cell S5 rfl; have fV0_5 : w5.frozen? ⟨w1.heap.size, 0, none⟩ = false := Mem.free V5; have fV1_5 : w5.frozen? ⟨w1.heap.size, 1, none⟩ = false := Mem.free V5; have fS0_5 : w5.frozen? ⟨w1.heap.size + 1, 0, none⟩ = false := Mem.free S5; have fS1_5 : w5.frozen? ⟨w1.heap.size + 1, 1, none⟩ = false := Mem.free S5; have fS2_5 : w5.frozen? ⟨w1.heap.size + 1, 2, none⟩ = false := Mem.free S5; have fS3_5 : w5.frozen? ⟨w1.heap.size + 1, 3, none⟩ = false := Mem.free S5; have cX0_5 : w5.cell? ⟨wr.heap.size, 0, none⟩ = some (.bool false) := Mem.cell X5 rfl; have cX1_5 : w5.cell? ⟨wr.heap.size, 1, none⟩ = some (.int .i64 xa) := Mem.cell X5 rfl; have cX2_5 : w5.cell? ⟨wr.heap.size, 2, none⟩ = some (.int .i64 xf) := Mem.cell X5 rfl; have cX3_5 : w5.cell? ⟨wr.heap.size, 3, none⟩ = some (.int .i64 xi) := Mem.cell X5 rfl; have cX4_5 : w5.cell? ⟨wr.heap.size, 4, none⟩ = some (.int .i64 xt) := Mem.cell X5 rfl; have cX5_5 : w5.cell? ⟨wr.heap.size, 5, none⟩ = some (.int .i64 xm) := Mem.cell X5 rfl; have cX6_5 : w5.cell? ⟨wr.heap.size, 6, none⟩ = some (.string xs) := Mem.cell X5 rfl; clear hc5)
                  | (go_at_call 9; refine (hvd _).mono ?_; rintro _ w6 ⟨rfl, hb6⟩; have V6 := (hb6.block w1.heap.size (Mem.lt V5)).trans V5; have S6 := (hb6.block (w1.heap.size + 1) (Mem.lt S5)).trans S5; have X6 := (hb6.block wr.heap.size (Mem.lt X5)).trans X5; have D6 := hD5.below hb6; have k6 := k5.trans (hb6.mono k5.size); have cV0_6 : w6.cell? ⟨w1.heap.size, 0, none⟩ = some (.int .i64 va) := Mem.cell V6 rfl; have cV1_6 : w6.cell? ⟨w1.heap.size, 1, none⟩ = some (.int .i64 vb) := Mem.cell V6 rfl; have cS0_6 : w6.cell? ⟨w1.heap.size + 1, 0, none⟩ = some (.int .i64 sa) := Mem.cell S6 rfl; have cS1_6 : w6.cell? ⟨w1.heap.size + 1, 1, none⟩ = some (.int .i64 sb) := Mem.cell S6 rfl; have cS2_6 : w6.cell? ⟨w1.heap.size + 1, 2, none⟩ = some (.int .i64 sm) := Mem.cell S6 rfl; have cS3_6 : w6.cell? ⟨w1.heap.size + 1, 3, none⟩ = some (.string st) := Mem.cell S6 rfl; have fV0_6 : w6.frozen? ⟨w1.heap.size, 0, none⟩ = false := Mem.free V6; have fV1_6 : w6.frozen? ⟨w1.heap.size, 1, none⟩ = false := Mem.free V6; have fS0_6 : w6.frozen? ⟨w1.heap.size + 1, 0, none⟩ = false := Mem.free S6; have fS1_6 : w6.frozen? ⟨w1.heap.size + 1, 1, none⟩ = false := Mem.free S6; have fS2_6 : w6.frozen? ⟨w1.heap.size + 1, 2, none⟩ = false := Mem.free S6; have fS3_6 : w6.frozen? ⟨w1.heap.size + 1, 3, none⟩ = false := Mem.free S6; have cX0_6 : w6.cell? ⟨wr.heap.size, 0, none⟩ = some (.bool false) := Mem.cell X6 rfl; have cX1_6 : w6.cell? ⟨wr.heap.size, 1, none⟩ = some (.int .i64 xa) := Mem.cell X6 rfl; have cX2_6 : w6.cell? ⟨wr.heap.size, 2, none⟩ = some (.int .i64 xf) := Mem.cell X6 rfl; have cX3_6 : w6.cell? ⟨wr.heap.size, 3, none⟩ = some (.int .i64 xi) := Mem.cell X6 rfl; have cX4_6 : w6.cell? ⟨wr.heap.size, 4, none⟩ = some (.int .i64 xt) := Mem.cell X6 rfl; have cX5_6 : w6.cell? ⟨wr.heap.size, 5, none⟩ = some (.int .i64 xm) := Mem.cell X6 rfl; have cX6_6 : w6.cell? ⟨wr.heap.size, 6, none⟩ = some (.string xs) := Mem.cell X6 rfl; clear hb6 V5 S5 X5 k5 hD5)
                  | (go_at_call 11; refine (fdown_any _ p _ d2 _ D6).mono ?_; rintro _ _ ⟨rfl, rfl⟩)
                  | (go_at_call 12; refine (Dsk.Wake_any _ p _ d2 _ D6).mono ?_; rintro _ w7 ⟨rfl, hc7, hD7⟩; have V7 := hc7.at_ V6 not_of0; have S7 := hc7.at_ S6 not_of1; have X7 := hc7.at_ X6 not_ofq; have k7 := k6.trans (ch_in hc7 k6.size); have cV0_7 : w7.cell? ⟨w1.heap.size, 0, none⟩ = some (.int .i64 va) := Mem.cell V7 rfl; have cV1_7 : w7.cell? ⟨w1.heap.size, 1, none⟩ = some (.int .i64 vb) := Mem.cell V7 rfl; have cS0_7 : w7.cell? ⟨w1.heap.size + 1, 0, none⟩ = some (.int .i64 sa) := Mem.cell S7 rfl; have cS1_7 : w7.cell? ⟨w1.heap.size + 1, 1, none⟩ = some (.int .i64 sb) := Mem.cell S7 rfl; have cS2_7 : w7.cell? ⟨w1.heap.size + 1, 2, none⟩ = some (.int .i64 sm) := Mem.cell S7 rfl; have cS3_7 : w7.cell? ⟨w1.heap.size + 1, 3, none⟩ = some (.string st) := Mem.cell S7 rfl; have fV0_7 : w7.frozen? ⟨w1.heap.size, 0, none⟩ = false := Mem.free V7; have fV1_7 : w7.frozen? ⟨w1.heap.size, 1, none⟩ = false := Mem.free V7; have fS0_7 : w7.frozen? ⟨w1.heap.size + 1, 0, none⟩ = false := Mem.free S7; have fS1_7 : w7.frozen? ⟨w1.heap.size + 1, 1, none⟩ = false := Mem.free S7; have fS2_7 : w7.frozen? ⟨w1.heap.size + 1, 2, none⟩ = false := Mem.free S7; have fS3_7 : w7.frozen? ⟨w1.heap.size + 1, 3, none⟩ = false := Mem.free S7; have cX0_7 : w7.cell? ⟨wr.heap.size, 0, none⟩ = some (.bool false) := Mem.cell X7 rfl; have cX1_7 : w7.cell? ⟨wr.heap.size, 1, none⟩ = some (.int .i64 xa) := Mem.cell X7 rfl; have cX2_7 : w7.cell? ⟨wr.heap.size, 2, none⟩ = some (.int .i64 xf) := Mem.cell X7 rfl; have cX3_7 : w7.cell? ⟨wr.heap.size, 3, none⟩ = some (.int .i64 xi) := Mem.cell X7 rfl; have cX4_7 : w7.cell? ⟨wr.heap.size, 4, none⟩ = some (.int .i64 xt) := Mem.cell X7 rfl; have cX5_7 : w7.cell? ⟨wr.heap.size, 5, none⟩ = some (.int .i64 xm) := Mem.cell X7 rfl; have cX6_7 : w7.cell? ⟨wr.heap.size, 6, none⟩ = some (.string xs) := Mem.cell X7 rfl; clear hc7 V6 S6 X6 k6 D6)
                  | (go_at_call 13; refine (loads_or _ p _ _ _ hD7 rfl v1 ⟨va, vb⟩ sn1 ⟨sa, sb, sm, st⟩ i1 is HN1.out.1 HN1.out.2.1).mono ?_; rintro _ w8 ⟨y, rfl, hy1, hy2, hb8⟩; have V8 := (hb8.block w1.heap.size (Mem.lt V7)).trans V7; have S8 := (hb8.block (w1.heap.size + 1) (Mem.lt S7)).trans S7; have X8 := (hb8.block wr.heap.size (Mem.lt X7)).trans X7; have D8 := hD7.below hb8; have k8 := k7.trans (hb8.mono k7.size); have cV0_8 : w8.cell? ⟨w1.heap.size, 0, none⟩ = some (.int .i64 va) := Mem.cell V8 rfl; have cV1_8 : w8.cell? ⟨w1.heap.size, 1, none⟩ = some (.int .i64 vb) := Mem.cell V8 rfl; have cS0_8 : w8.cell? ⟨w1.heap.size + 1, 0, none⟩ = some (.int .i64 sa) := Mem.cell S8 rfl; have cS1_8 : w8.cell? ⟨w1.heap.size + 1, 1, none⟩ = some (.int .i64 sb) := Mem.cell S8 rfl; have cS2_8 : w8.cell? ⟨w1.heap.size + 1, 2, none⟩ = some (.int .i64 sm) := Mem.cell S8 rfl; have cS3_8 : w8.cell? ⟨w1.heap.size + 1, 3, none⟩ = some (.string st) := Mem.cell S8 rfl; have fV0_8 : w8.frozen? ⟨w1.heap.size, 0, none⟩ = false := Mem.free V8; have fV1_8 : w8.frozen? ⟨w1.heap.size, 1, none⟩ = false := Mem.free V8; have fS0_8 : w8.frozen? ⟨w1.heap.size + 1, 0, none⟩ = false := Mem.free S8; have fS1_8 : w8.frozen? ⟨w1.heap.size + 1, 1, none⟩ = false := Mem.free S8; have fS2_8 : w8.frozen? ⟨w1.heap.size + 1, 2, none⟩ = false := Mem.free S8; have fS3_8 : w8.frozen? ⟨w1.heap.size + 1, 3, none⟩ = false := Mem.free S8; have cX0_8 : w8.cell? ⟨wr.heap.size, 0, none⟩ = some (.bool false) := Mem.cell X8 rfl; have cX1_8 : w8.cell? ⟨wr.heap.size, 1, none⟩ = some (.int .i64 xa) := Mem.cell X8 rfl; have cX2_8 : w8.cell? ⟨wr.heap.size, 2, none⟩ = some (.int .i64 xf) := Mem.cell X8 rfl; have cX3_8 : w8.cell? ⟨wr.heap.size, 3, none⟩ = some (.int .i64 xi) := Mem.cell X8 rfl; have cX4_8 : w8.cell? ⟨wr.heap.size, 4, none⟩ = some (.int .i64 xt) := Mem.cell X8 rfl; have cX5_8 : w8.cell? ⟨wr.heap.size, 5, none⟩ = some (.int .i64 xm) := Mem.cell X8 rfl; have cX6_8 : w8.cell? ⟨wr.heap.size, 6, none⟩ = some (.string xs) := Mem.cell X8 rfl; clear hb8 V7 S7 X7 k7 hD7; refine Hid.out ?_))
                cases y
                · have HN := Lib.hid (show VoteIn d2.now ⟨xa, xf⟩ ∧ SnapIn d2.now ⟨sa, sb, sm, st⟩ is from by
                    obtain ⟨h1, h2, h3⟩ := HN1.out
                    rcases h3 with ⟨q1, q2, q3⟩ | ⟨q1, q2, q3⟩
                    · exact absurd (hy2 q1 q2 q3) (by decide)
                    · rw [← q1, ← q2, ← q3]; exact ⟨h1, h2⟩)
                  clear hy1 hy2
                  refine Lib.hid ?_
                  go_wp2_with (go_at_call 13; refine (loads_yes _ p _ _ _ (DiskAt_set (DiskAt_set D8 not_of0) not_of0) rfl ⟨xa, xf⟩ ⟨sa, sb, sm, st⟩ is HN.out.1 HN.out.2).mono ?_; rintro _ w9 ⟨rfl, hb9⟩)
                  go_roundw
                  case rel => exact ⟨j + 1, { d2 with down := false }, ⟨xa, xf⟩, ⟨sa, sb, sm, st⟩, is, hlt, by omega, rfl, by go_num, ⟨(bel_set (bel_set k8 (by omega)) (by omega)).trans (hb9.mono ((bel_set (bel_set k8 (by omega)) (by omega))).size), (hb9.block _ (Mem.lt (Mem.set (j := 1) (u := .int .i64 xf) (Mem.set (j := 0) (u := .int .i64 xa) V8)))).trans (Mem.set (j := 1) (u := .int .i64 xf) (Mem.set (j := 0) (u := .int .i64 xa) V8)), (hb9.block _ (Mem.lt (Mem.set_ne (Mem.set_ne S8 (by omega)) (by omega)))).trans (Mem.set_ne (Mem.set_ne S8 (by omega)) (by omega)), (((DiskAt_set (DiskAt_set D8 not_of0) not_of0).below hb9).mono (fun k hk => hk.1)).more (by omega), HU.out.1, HU.out.2, HN.out.1, HN.out.2, h01⟩⟩
                  case measure => first | exact fmeas hlt | (rw [hkw]; exact fmeas hlt)
                · have HN := Lib.hid (show VoteIn d2.now ⟨va, vb⟩ ∧ SnapIn d2.now ⟨sa, sb, sm, st⟩ is from by
                    obtain ⟨q1, q2, q3⟩ := hy1 rfl
                    obtain ⟨h1, h2, h3⟩ := HN1.out
                    rw [← q1, ← q2, ← q3]; exact ⟨h1, h2⟩)
                  clear hy1 hy2
                  refine Lib.hid ?_
                  go_wp2_with fail
                  go_roundw
                  case rel => exact ⟨j + 1, { d2 with down := false }, ⟨va, vb⟩, ⟨sa, sb, sm, st⟩, is, hlt, by omega, rfl, by go_num, ⟨k8, V8, S8, (D8.mono (fun k hk => hk.1)).more (by omega), HU.out.1, HU.out.2, HN.out.1, HN.out.2, h01⟩⟩
                  case measure => first | exact fmeas hlt | (rw [hkw]; exact fmeas hlt)
            · have hok : Sn.ok ⟨xi, xt, xm, xs⟩ := by
                rcases hx with ⟨h1, h⟩ | ⟨h1, h⟩
                · cases h1
                · exact h
              have hvd := fun W => rmay_any ⟨xi, xt, xm, xs⟩ W
              simp only [decide_eq_true hok] at hvd
              unfold Sn.val at hvd
              dsimp only at hvd
              have D4 : DiskAt (wr.alloc (.cells #[.bool true, .int .i64 xa, .int .i64 xf, .int .i64 xi, .int .i64 xt, .int .i64 xm, .string xs] 32)) (Of w.heap.size w1.heap.size wr.heap.size) p (5 * j) d := ((DiskAt_kept HX.out.D).below b4).mono (fun k hk => ⟨hk.1, by have := hk.2; omega⟩)
              have hS' : ∀ k, (wr.alloc (.cells #[.bool true, .int .i64 xa, .int .i64 xf, .int .i64 xi, .int .i64 xt, .int .i64 xm, .string xs] 32)).heap.size ≤ k → Of w.heap.size w1.heap.size wr.heap.size k := fun k hk => by
                have h2 : wr.heap.size + 1 ≤ k := by simpa using hk
                exact ⟨⟨by omega, .inr (by omega)⟩, by omega⟩
              have V4 := Mem.old HX.out.V (.cells #[.bool true, .int .i64 xa, .int .i64 xf, .int .i64 xi, .int .i64 xt, .int .i64 xm, .string xs] 32)
              have S4 := Mem.old HX.out.S (.cells #[.bool true, .int .i64 xa, .int .i64 xf, .int .i64 xi, .int .i64 xt, .int .i64 xm, .string xs] 32)
              have hsv := lsave_any _ p (5 * j) d ⟨true, ⟨xa, xf⟩, ⟨xi, xt, xm, xs⟩⟩ hi' hx _ hS' D4 HX.out.up (by omega)
              have hst := step_sv HX.out.up HX.out.still HX.out.hv HX.out.hs hi' hx
              generalize Sv.does ⟨true, ⟨xa, xf⟩, ⟨xi, xt, xm, xs⟩⟩ d = R at hsv hst
              obtain ⟨e, d2⟩ := R
              dsimp only at hsv hst
              obtain ⟨s1, s2, s3, hst⟩ := hst
              have hroom : d2.room < 0 := by rw [s3]; exact HX.out.up.room
              simp only [Bool.false_eq_true, reduceIte] at hst
              have HZ := Lib.hid (And.intro s1 (And.intro s2 hroom))
              clear hx hok hS' D4 s1 s2 s3 hroom
              rcases hst with ⟨rfl, s4, s5, s6⟩ | ⟨rfl, s4, s5⟩
              · have HN := Lib.hid (And.intro s5 s6)
                clear s5 s6
                go_wp2_with (first
                  | (go_at_call 8; refine hsv.mono ?_; rintro _ w5 ⟨rfl, hc5, hD5⟩; have V5 := hc5.at_ V4 not_of0; have S5 := hc5.at_ S4 not_of1; have X5 := hc5.at_ X4 not_ofq; have k4 := HX.out.bel.trans (b4.mono HX.out.bel.size); have k5 := k4.trans (ch_in hc5 k4.size); have cV0_5 : w5.cell? ⟨w1.heap.size, 0, none⟩ = some (.int .i64 va) := Mem.cell V5 rfl; have cV1_5 : w5.cell? ⟨w1.heap.size, 1, none⟩ = some (.int .i64 vb) := Mem.cell V5 rfl; have cS0_5 : w5.cell? ⟨w1.heap.size + 1, 0, none⟩ = some (.int .i64 sa) := Mem.cell S5 rfl; have cS1_5 : w5.cell? ⟨w1.heap.size + 1, 1, none⟩ = some (.int .i64 sb) := Mem.cell S5 rfl; have cS2_5 : w5.cell? ⟨w1.heap.size + 1, 2, none⟩ = some (.int .i64 sm) := Mem.cell S5 rfl; have cS3_5 : w5.cell? ⟨w1.heap.size + 1, 3, none⟩ = some (.string st) := Mem.cell S5 rfl; have fV0_5 : w5.frozen? ⟨w1.heap.size, 0, none⟩ = false := Mem.free V5; have fV1_5 : w5.frozen? ⟨w1.heap.size, 1, none⟩ = false := Mem.free V5; have fS0_5 : w5.frozen? ⟨w1.heap.size + 1, 0, none⟩ = false := Mem.free S5; have fS1_5 : w5.frozen? ⟨w1.heap.size + 1, 1, none⟩ = false := Mem.free S5; have fS2_5 : w5.frozen? ⟨w1.heap.size + 1, 2, none⟩ = false := Mem.free S5; have fS3_5 : w5.frozen? ⟨w1.heap.size + 1, 3, none⟩ = false := Mem.free S5; have cX0_5 : w5.cell? ⟨wr.heap.size, 0, none⟩ = some (.bool true) := Mem.cell X5 rfl; have cX1_5 : w5.cell? ⟨wr.heap.size, 1, none⟩ = some (.int .i64 xa) := Mem.cell X5 rfl; have cX2_5 : w5.cell? ⟨wr.heap.size, 2, none⟩ = some (.int .i64 xf) := Mem.cell X5 rfl; have cX3_5 : w5.cell? ⟨wr.heap.size, 3, none⟩ = some (.int .i64 xi) := Mem.cell X5 rfl; have cX4_5 : w5.cell? ⟨wr.heap.size, 4, none⟩ = some (.int .i64 xt) := Mem.cell X5 rfl; have cX5_5 : w5.cell? ⟨wr.heap.size, 5, none⟩ = some (.int .i64 xm) := Mem.cell X5 rfl; have cX6_5 : w5.cell? ⟨wr.heap.size, 6, none⟩ = some (.string xs) := Mem.cell X5 rfl; clear hc5)
                  | (go_at_call 10; refine (hvd _).mono ?_; rintro _ w6 ⟨rfl, hb6⟩; have V6 := (hb6.block w1.heap.size (Mem.lt V5)).trans V5; have S6 := (hb6.block (w1.heap.size + 1) (Mem.lt S5)).trans S5; have X6 := (hb6.block wr.heap.size (Mem.lt X5)).trans X5; have D6 := hD5.below hb6; have k6 := k5.trans (hb6.mono k5.size); have cV0_6 : w6.cell? ⟨w1.heap.size, 0, none⟩ = some (.int .i64 va) := Mem.cell V6 rfl; have cV1_6 : w6.cell? ⟨w1.heap.size, 1, none⟩ = some (.int .i64 vb) := Mem.cell V6 rfl; have cS0_6 : w6.cell? ⟨w1.heap.size + 1, 0, none⟩ = some (.int .i64 sa) := Mem.cell S6 rfl; have cS1_6 : w6.cell? ⟨w1.heap.size + 1, 1, none⟩ = some (.int .i64 sb) := Mem.cell S6 rfl; have cS2_6 : w6.cell? ⟨w1.heap.size + 1, 2, none⟩ = some (.int .i64 sm) := Mem.cell S6 rfl; have cS3_6 : w6.cell? ⟨w1.heap.size + 1, 3, none⟩ = some (.string st) := Mem.cell S6 rfl; have fV0_6 : w6.frozen? ⟨w1.heap.size, 0, none⟩ = false := Mem.free V6; have fV1_6 : w6.frozen? ⟨w1.heap.size, 1, none⟩ = false := Mem.free V6; have fS0_6 : w6.frozen? ⟨w1.heap.size + 1, 0, none⟩ = false := Mem.free S6; have fS1_6 : w6.frozen? ⟨w1.heap.size + 1, 1, none⟩ = false := Mem.free S6; have fS2_6 : w6.frozen? ⟨w1.heap.size + 1, 2, none⟩ = false := Mem.free S6; have fS3_6 : w6.frozen? ⟨w1.heap.size + 1, 3, none⟩ = false := Mem.free S6; have cX0_6 : w6.cell? ⟨wr.heap.size, 0, none⟩ = some (.bool true) := Mem.cell X6 rfl; have cX1_6 : w6.cell? ⟨wr.heap.size, 1, none⟩ = some (.int .i64 xa) := Mem.cell X6 rfl; have cX2_6 : w6.cell? ⟨wr.heap.size, 2, none⟩ = some (.int .i64 xf) := Mem.cell X6 rfl; have cX3_6 : w6.cell? ⟨wr.heap.size, 3, none⟩ = some (.int .i64 xi) := Mem.cell X6 rfl; have cX4_6 : w6.cell? ⟨wr.heap.size, 4, none⟩ = some (.int .i64 xt) := Mem.cell X6 rfl; have cX5_6 : w6.cell? ⟨wr.heap.size, 5, none⟩ = some (.int .i64 xm) := Mem.cell X6 rfl; have cX6_6 : w6.cell? ⟨wr.heap.size, 6, none⟩ = some (.string xs) := Mem.cell X6 rfl; clear hb6 V5 S5 X5 k5 hD5)
                  | (go_at_call 13; refine (loads_yes _ p _ d2 _ (DiskAt_set (DiskAt_set (DiskAt_set (DiskAt_set D6 not_of1) not_of1) not_of1) not_of1) s4 ⟨va, vb⟩ ⟨xi, xt, xm, xs⟩ true HN.out.1 HN.out.2).mono ?_; rintro _ w7 ⟨rfl, hb7⟩))
                go_roundw
                case rel => exact ⟨j + 1, d2, ⟨va, vb⟩, ⟨xi, xt, xm, xs⟩, true, hlt, by omega, rfl, by go_num, ⟨(bel_set (bel_set (bel_set (bel_set k6 (by omega)) (by omega)) (by omega)) (by omega)).trans (hb7.mono ((bel_set (bel_set (bel_set (bel_set k6 (by omega)) (by omega)) (by omega)) (by omega))).size), (hb7.block _ (Mem.lt (Mem.set_ne (Mem.set_ne (Mem.set_ne (Mem.set_ne V6 (by omega)) (by omega)) (by omega)) (by omega)))).trans (Mem.set_ne (Mem.set_ne (Mem.set_ne (Mem.set_ne V6 (by omega)) (by omega)) (by omega)) (by omega)), (hb7.block _ (Mem.lt (Mem.set (j := 3) (u := .string xs) (Mem.set (j := 2) (u := .int .i64 xm) (Mem.set (j := 1) (u := .int .i64 xt) (Mem.set (j := 0) (u := .int .i64 xi) S6)))))).trans (Mem.set (j := 3) (u := .string xs) (Mem.set (j := 2) (u := .int .i64 xm) (Mem.set (j := 1) (u := .int .i64 xt) (Mem.set (j := 0) (u := .int .i64 xi) S6)))), (((DiskAt_set (DiskAt_set (DiskAt_set (DiskAt_set D6 not_of1) not_of1) not_of1) not_of1).below hb7).mono (fun k hk => hk.1)).more (by omega), ⟨HZ.out.2.1, s4, HZ.out.2.2⟩, HZ.out.1, HN.out.1, HN.out.2, h01⟩⟩
                case measure => first | exact fmeas hlt | (rw [hkw]; exact fmeas hlt)
              · obtain ⟨v1, sn1, i1, hN1⟩ : ∃ v1 sn1 i1, VoteIn d2.now v1 ∧ SnapIn d2.now sn1 i1 ∧ ((v1 = ⟨va, vb⟩ ∧ sn1 = ⟨sa, sb, sm, st⟩ ∧ i1 = is) ∨ (v1 = ⟨va, vb⟩ ∧ sn1 = ⟨xi, xt, xm, xs⟩ ∧ i1 = true)) := by
                  rcases s5 with ⟨h1, h2⟩ | ⟨h1, h2⟩
                  · exact ⟨_, _, _, h1, h2, .inl ⟨rfl, rfl, rfl⟩⟩
                  · exact ⟨_, _, _, h1, h2, .inr ⟨rfl, rfl, rfl⟩⟩
                have HN1 := Lib.hid hN1
                have HU := Lib.hid (And.intro (show Up { d2 with down := false } from up_wake HZ.out.2.1 HZ.out.2.2) (show Still { d2 with down := false } from ⟨HZ.out.1.row, HZ.out.1.same⟩))
                clear s5 hN1
                go_wp2_with (first
                  | (go_at_call 8; refine hsv.mono ?_; rintro _ w5 ⟨rfl, hc5, hD5⟩; have V5 := hc5.at_ V4 not_of0; have S5 := hc5.at_ S4 not_of1; have X5 := hc5.at_ X4 not_ofq; have k4 := HX.out.bel.trans (b4.mono HX.out.bel.size); have k5 := k4.trans (ch_in hc5 k4.size); have cV0_5 : w5.cell? ⟨w1.heap.size, 0, none⟩ = some (.int .i64 va) := Mem.cell V5 rfl; have cV1_5 : w5.cell? ⟨w1.heap.size, 1, none⟩ = some (.int .i64 vb) := Mem.cell V5 rfl; have cS0_5 : w5.cell? ⟨w1.heap.size + 1, 0, none⟩ = some (.int .i64 sa) := Mem.cell S5 rfl; have cS1_5 : w5.cell? ⟨w1.heap.size + 1, 1, none⟩ = some (.int .i64 sb) := Mem.cell S5 rfl; have cS2_5 : w5.cell? ⟨w1.heap.size + 1, 2, none⟩ = some (.int .i64 sm) := Mem.cell S5 rfl; have cS3_5 : w5.cell? ⟨w1.heap.size + 1, 3, none⟩ = some (.string st) := Mem.cell S5 rfl; have fV0_5 : w5.frozen? ⟨w1.heap.size, 0, none⟩ = false := Mem.free V5; have fV1_5 : w5.frozen? ⟨w1.heap.size, 1, none⟩ = false := Mem.free V5; have fS0_5 : w5.frozen? ⟨w1.heap.size + 1, 0, none⟩ = false := Mem.free S5; have fS1_5 : w5.frozen? ⟨w1.heap.size + 1, 1, none⟩ = false := Mem.free S5; have fS2_5 : w5.frozen? ⟨w1.heap.size + 1, 2, none⟩ = false := Mem.free S5; have fS3_5 : w5.frozen? ⟨w1.heap.size + 1, 3, none⟩ = false := Mem.free S5; have cX0_5 : w5.cell? ⟨wr.heap.size, 0, none⟩ = some (.bool true) := Mem.cell X5 rfl; have cX1_5 : w5.cell? ⟨wr.heap.size, 1, none⟩ = some (.int .i64 xa) := Mem.cell X5 rfl; have cX2_5 : w5.cell? ⟨wr.heap.size, 2, none⟩ = some (.int .i64 xf) := Mem.cell X5 rfl; have cX3_5 : w5.cell? ⟨wr.heap.size, 3, none⟩ = some (.int .i64 xi) := Mem.cell X5 rfl; have cX4_5 : w5.cell? ⟨wr.heap.size, 4, none⟩ = some (.int .i64 xt) := Mem.cell X5 rfl; have cX5_5 : w5.cell? ⟨wr.heap.size, 5, none⟩ = some (.int .i64 xm) := Mem.cell X5 rfl; have cX6_5 : w5.cell? ⟨wr.heap.size, 6, none⟩ = some (.string xs) := Mem.cell X5 rfl; clear hc5)
                  | (go_at_call 10; refine (hvd _).mono ?_; rintro _ w6 ⟨rfl, hb6⟩; have V6 := (hb6.block w1.heap.size (Mem.lt V5)).trans V5; have S6 := (hb6.block (w1.heap.size + 1) (Mem.lt S5)).trans S5; have X6 := (hb6.block wr.heap.size (Mem.lt X5)).trans X5; have D6 := hD5.below hb6; have k6 := k5.trans (hb6.mono k5.size); have cV0_6 : w6.cell? ⟨w1.heap.size, 0, none⟩ = some (.int .i64 va) := Mem.cell V6 rfl; have cV1_6 : w6.cell? ⟨w1.heap.size, 1, none⟩ = some (.int .i64 vb) := Mem.cell V6 rfl; have cS0_6 : w6.cell? ⟨w1.heap.size + 1, 0, none⟩ = some (.int .i64 sa) := Mem.cell S6 rfl; have cS1_6 : w6.cell? ⟨w1.heap.size + 1, 1, none⟩ = some (.int .i64 sb) := Mem.cell S6 rfl; have cS2_6 : w6.cell? ⟨w1.heap.size + 1, 2, none⟩ = some (.int .i64 sm) := Mem.cell S6 rfl; have cS3_6 : w6.cell? ⟨w1.heap.size + 1, 3, none⟩ = some (.string st) := Mem.cell S6 rfl; have fV0_6 : w6.frozen? ⟨w1.heap.size, 0, none⟩ = false := Mem.free V6; have fV1_6 : w6.frozen? ⟨w1.heap.size, 1, none⟩ = false := Mem.free V6; have fS0_6 : w6.frozen? ⟨w1.heap.size + 1, 0, none⟩ = false := Mem.free S6; have fS1_6 : w6.frozen? ⟨w1.heap.size + 1, 1, none⟩ = false := Mem.free S6; have fS2_6 : w6.frozen? ⟨w1.heap.size + 1, 2, none⟩ = false := Mem.free S6; have fS3_6 : w6.frozen? ⟨w1.heap.size + 1, 3, none⟩ = false := Mem.free S6; have cX0_6 : w6.cell? ⟨wr.heap.size, 0, none⟩ = some (.bool true) := Mem.cell X6 rfl; have cX1_6 : w6.cell? ⟨wr.heap.size, 1, none⟩ = some (.int .i64 xa) := Mem.cell X6 rfl; have cX2_6 : w6.cell? ⟨wr.heap.size, 2, none⟩ = some (.int .i64 xf) := Mem.cell X6 rfl; have cX3_6 : w6.cell? ⟨wr.heap.size, 3, none⟩ = some (.int .i64 xi) := Mem.cell X6 rfl; have cX4_6 : w6.cell? ⟨wr.heap.size, 4, none⟩ = some (.int .i64 xt) := Mem.cell X6 rfl; have cX5_6 : w6.cell? ⟨wr.heap.size, 5, none⟩ = some (.int .i64 xm) := Mem.cell X6 rfl; have cX6_6 : w6.cell? ⟨wr.heap.size, 6, none⟩ = some (.string xs) := Mem.cell X6 rfl; clear hb6 V5 S5 X5 k5 hD5)
                  | (go_at_call 11; refine (fdown_any _ p _ d2 _ D6).mono ?_; rintro _ _ ⟨rfl, rfl⟩)
                  | (go_at_call 12; refine (Dsk.Wake_any _ p _ d2 _ D6).mono ?_; rintro _ w7 ⟨rfl, hc7, hD7⟩; have V7 := hc7.at_ V6 not_of0; have S7 := hc7.at_ S6 not_of1; have X7 := hc7.at_ X6 not_ofq; have k7 := k6.trans (ch_in hc7 k6.size); have cV0_7 : w7.cell? ⟨w1.heap.size, 0, none⟩ = some (.int .i64 va) := Mem.cell V7 rfl; have cV1_7 : w7.cell? ⟨w1.heap.size, 1, none⟩ = some (.int .i64 vb) := Mem.cell V7 rfl; have cS0_7 : w7.cell? ⟨w1.heap.size + 1, 0, none⟩ = some (.int .i64 sa) := Mem.cell S7 rfl; have cS1_7 : w7.cell? ⟨w1.heap.size + 1, 1, none⟩ = some (.int .i64 sb) := Mem.cell S7 rfl; have cS2_7 : w7.cell? ⟨w1.heap.size + 1, 2, none⟩ = some (.int .i64 sm) := Mem.cell S7 rfl; have cS3_7 : w7.cell? ⟨w1.heap.size + 1, 3, none⟩ = some (.string st) := Mem.cell S7 rfl; have fV0_7 : w7.frozen? ⟨w1.heap.size, 0, none⟩ = false := Mem.free V7; have fV1_7 : w7.frozen? ⟨w1.heap.size, 1, none⟩ = false := Mem.free V7; have fS0_7 : w7.frozen? ⟨w1.heap.size + 1, 0, none⟩ = false := Mem.free S7; have fS1_7 : w7.frozen? ⟨w1.heap.size + 1, 1, none⟩ = false := Mem.free S7; have fS2_7 : w7.frozen? ⟨w1.heap.size + 1, 2, none⟩ = false := Mem.free S7; have fS3_7 : w7.frozen? ⟨w1.heap.size + 1, 3, none⟩ = false := Mem.free S7; have cX0_7 : w7.cell? ⟨wr.heap.size, 0, none⟩ = some (.bool true) := Mem.cell X7 rfl; have cX1_7 : w7.cell? ⟨wr.heap.size, 1, none⟩ = some (.int .i64 xa) := Mem.cell X7 rfl; have cX2_7 : w7.cell? ⟨wr.heap.size, 2, none⟩ = some (.int .i64 xf) := Mem.cell X7 rfl; have cX3_7 : w7.cell? ⟨wr.heap.size, 3, none⟩ = some (.int .i64 xi) := Mem.cell X7 rfl; have cX4_7 : w7.cell? ⟨wr.heap.size, 4, none⟩ = some (.int .i64 xt) := Mem.cell X7 rfl; have cX5_7 : w7.cell? ⟨wr.heap.size, 5, none⟩ = some (.int .i64 xm) := Mem.cell X7 rfl; have cX6_7 : w7.cell? ⟨wr.heap.size, 6, none⟩ = some (.string xs) := Mem.cell X7 rfl; clear hc7 V6 S6 X6 k6 D6)
                  | (go_at_call 13; refine (loads_or _ p _ _ _ hD7 rfl v1 ⟨va, vb⟩ sn1 ⟨sa, sb, sm, st⟩ i1 is HN1.out.1 HN1.out.2.1).mono ?_; rintro _ w8 ⟨y, rfl, hy1, hy2, hb8⟩; have V8 := (hb8.block w1.heap.size (Mem.lt V7)).trans V7; have S8 := (hb8.block (w1.heap.size + 1) (Mem.lt S7)).trans S7; have X8 := (hb8.block wr.heap.size (Mem.lt X7)).trans X7; have D8 := hD7.below hb8; have k8 := k7.trans (hb8.mono k7.size); have cV0_8 : w8.cell? ⟨w1.heap.size, 0, none⟩ = some (.int .i64 va) := Mem.cell V8 rfl; have cV1_8 : w8.cell? ⟨w1.heap.size, 1, none⟩ = some (.int .i64 vb) := Mem.cell V8 rfl; have cS0_8 : w8.cell? ⟨w1.heap.size + 1, 0, none⟩ = some (.int .i64 sa) := Mem.cell S8 rfl; have cS1_8 : w8.cell? ⟨w1.heap.size + 1, 1, none⟩ = some (.int .i64 sb) := Mem.cell S8 rfl; have cS2_8 : w8.cell? ⟨w1.heap.size + 1, 2, none⟩ = some (.int .i64 sm) := Mem.cell S8 rfl; have cS3_8 : w8.cell? ⟨w1.heap.size + 1, 3, none⟩ = some (.string st) := Mem.cell S8 rfl; have fV0_8 : w8.frozen? ⟨w1.heap.size, 0, none⟩ = false := Mem.free V8; have fV1_8 : w8.frozen? ⟨w1.heap.size, 1, none⟩ = false := Mem.free V8; have fS0_8 : w8.frozen? ⟨w1.heap.size + 1, 0, none⟩ = false := Mem.free S8; have fS1_8 : w8.frozen? ⟨w1.heap.size + 1, 1, none⟩ = false := Mem.free S8; have fS2_8 : w8.frozen? ⟨w1.heap.size + 1, 2, none⟩ = false := Mem.free S8; have fS3_8 : w8.frozen? ⟨w1.heap.size + 1, 3, none⟩ = false := Mem.free S8; have cX0_8 : w8.cell? ⟨wr.heap.size, 0, none⟩ = some (.bool true) := Mem.cell X8 rfl; have cX1_8 : w8.cell? ⟨wr.heap.size, 1, none⟩ = some (.int .i64 xa) := Mem.cell X8 rfl; have cX2_8 : w8.cell? ⟨wr.heap.size, 2, none⟩ = some (.int .i64 xf) := Mem.cell X8 rfl; have cX3_8 : w8.cell? ⟨wr.heap.size, 3, none⟩ = some (.int .i64 xi) := Mem.cell X8 rfl; have cX4_8 : w8.cell? ⟨wr.heap.size, 4, none⟩ = some (.int .i64 xt) := Mem.cell X8 rfl; have cX5_8 : w8.cell? ⟨wr.heap.size, 5, none⟩ = some (.int .i64 xm) := Mem.cell X8 rfl; have cX6_8 : w8.cell? ⟨wr.heap.size, 6, none⟩ = some (.string xs) := Mem.cell X8 rfl; clear hb8 V7 S7 X7 k7 hD7; refine Hid.out ?_))
                cases y
                · have HN := Lib.hid (show VoteIn d2.now ⟨va, vb⟩ ∧ SnapIn d2.now ⟨xi, xt, xm, xs⟩ true from by
                    obtain ⟨h1, h2, h3⟩ := HN1.out
                    rcases h3 with ⟨q1, q2, q3⟩ | ⟨q1, q2, q3⟩
                    · exact absurd (hy2 q1 q2 q3) (by decide)
                    · rw [← q1, ← q2, ← q3]; exact ⟨h1, h2⟩)
                  clear hy1 hy2
                  refine Lib.hid ?_
                  go_wp2_with (go_at_call 13; refine (loads_yes _ p _ _ _ (DiskAt_set (DiskAt_set (DiskAt_set (DiskAt_set D8 not_of1) not_of1) not_of1) not_of1) rfl ⟨va, vb⟩ ⟨xi, xt, xm, xs⟩ true HN.out.1 HN.out.2).mono ?_; rintro _ w9 ⟨rfl, hb9⟩)
                  go_roundw
                  case rel => exact ⟨j + 1, { d2 with down := false }, ⟨va, vb⟩, ⟨xi, xt, xm, xs⟩, true, hlt, by omega, rfl, by go_num, ⟨(bel_set (bel_set (bel_set (bel_set k8 (by omega)) (by omega)) (by omega)) (by omega)).trans (hb9.mono ((bel_set (bel_set (bel_set (bel_set k8 (by omega)) (by omega)) (by omega)) (by omega))).size), (hb9.block _ (Mem.lt (Mem.set_ne (Mem.set_ne (Mem.set_ne (Mem.set_ne V8 (by omega)) (by omega)) (by omega)) (by omega)))).trans (Mem.set_ne (Mem.set_ne (Mem.set_ne (Mem.set_ne V8 (by omega)) (by omega)) (by omega)) (by omega)), (hb9.block _ (Mem.lt (Mem.set (j := 3) (u := .string xs) (Mem.set (j := 2) (u := .int .i64 xm) (Mem.set (j := 1) (u := .int .i64 xt) (Mem.set (j := 0) (u := .int .i64 xi) S8)))))).trans (Mem.set (j := 3) (u := .string xs) (Mem.set (j := 2) (u := .int .i64 xm) (Mem.set (j := 1) (u := .int .i64 xt) (Mem.set (j := 0) (u := .int .i64 xi) S8)))), (((DiskAt_set (DiskAt_set (DiskAt_set (DiskAt_set D8 not_of1) not_of1) not_of1) not_of1).below hb9).mono (fun k hk => hk.1)).more (by omega), HU.out.1, HU.out.2, HN.out.1, HN.out.2, h01⟩⟩
                  case measure => first | exact fmeas hlt | (rw [hkw]; exact fmeas hlt)
                · have HN := Lib.hid (show VoteIn d2.now ⟨va, vb⟩ ∧ SnapIn d2.now ⟨sa, sb, sm, st⟩ is from by
                    obtain ⟨q1, q2, q3⟩ := hy1 rfl
                    obtain ⟨h1, h2, h3⟩ := HN1.out
                    rw [← q1, ← q2, ← q3]; exact ⟨h1, h2⟩)
                  clear hy1 hy2
                  refine Lib.hid ?_
                  go_wp2_with fail
                  go_roundw
                  case rel => exact ⟨j + 1, { d2 with down := false }, ⟨va, vb⟩, ⟨sa, sb, sm, st⟩, is, hlt, by omega, rfl, by go_num, ⟨k8, V8, S8, (D8.mono (fun k hk => hk.1)).more (by omega), HU.out.1, HU.out.2, HN.out.1, HN.out.2, h01⟩⟩
                  case measure => first | exact fmeas hlt | (rw [hkw]; exact fmeas hlt)
          · cases xb
            · have hno : ¬ Vt.ok ⟨xa, xf⟩ := fun h => hx (.inl ⟨rfl, h⟩)
              have hvd := fun W => rvoted_any ⟨xa, xf⟩ W
              simp only [decide_eq_false hno] at hvd
              clear hno
              unfold Vt.val at hvd
              dsimp only at hvd
              go_wp2_with (first
                | (go_at_call 8; refine (lsave_bad p ⟨false, ⟨xa, xf⟩, ⟨xi, xt, xm, xs⟩⟩ hi' hx _).mono ?_; rintro _ w5 ⟨rfl, hb5⟩; have X5 := (hb5.block wr.heap.size (by simp)).trans X4; have cX0_5 : w5.cell? ⟨wr.heap.size, 0, none⟩ = some (.bool false) := Mem.cell X5 rfl; have cX1_5 : w5.cell? ⟨wr.heap.size, 1, none⟩ = some (.int .i64 xa) := Mem.cell X5 rfl; have cX2_5 : w5.cell? ⟨wr.heap.size, 2, none⟩ = some (.int .i64 xf) := Mem.cell X5 rfl; have cX3_5 : w5.cell? ⟨wr.heap.size, 3, none⟩ = some (.int .i64 xi) := Mem.cell X5 rfl; have cX4_5 : w5.cell? ⟨wr.heap.size, 4, none⟩ = some (.int .i64 xt) := Mem.cell X5 rfl; have cX5_5 : w5.cell? ⟨wr.heap.size, 5, none⟩ = some (.int .i64 xm) := Mem.cell X5 rfl; have cX6_5 : w5.cell? ⟨wr.heap.size, 6, none⟩ = some (.string xs) := Mem.cell X5 rfl)
                | (go_at_call 9; refine (hvd _).mono ?_; rintro _ w6 ⟨rfl, hb6⟩; have X6 := (hb6.block wr.heap.size (Mem.lt X5)).trans X5; have cX0_6 : w6.cell? ⟨wr.heap.size, 0, none⟩ = some (.bool false) := Mem.cell X6 rfl; have cX1_6 : w6.cell? ⟨wr.heap.size, 1, none⟩ = some (.int .i64 xa) := Mem.cell X6 rfl; have cX2_6 : w6.cell? ⟨wr.heap.size, 2, none⟩ = some (.int .i64 xf) := Mem.cell X6 rfl; have cX3_6 : w6.cell? ⟨wr.heap.size, 3, none⟩ = some (.int .i64 xi) := Mem.cell X6 rfl; have cX4_6 : w6.cell? ⟨wr.heap.size, 4, none⟩ = some (.int .i64 xt) := Mem.cell X6 rfl; have cX5_6 : w6.cell? ⟨wr.heap.size, 5, none⟩ = some (.int .i64 xm) := Mem.cell X6 rfl; have cX6_6 : w6.cell? ⟨wr.heap.size, 6, none⟩ = some (.string xs) := Mem.cell X6 rfl))
              go_roundw
              case rel => exact ⟨j + 1, d, ⟨va, vb⟩, ⟨sa, sb, sm, st⟩, is, hlt, by omega, rfl, by go_num, ((HX.out.on b4 (Nat.le_refl _)).on hb5 (Nat.le_refl _)).on hb6 (by omega)⟩
              case measure => first | exact fmeas hlt | (rw [hkw]; exact fmeas hlt)
            · have hno : ¬ Sn.ok ⟨xi, xt, xm, xs⟩ := fun h => hx (.inr ⟨rfl, h⟩)
              have hvd := fun W => rmay_any ⟨xi, xt, xm, xs⟩ W
              simp only [decide_eq_false hno] at hvd
              clear hno
              unfold Sn.val at hvd
              dsimp only at hvd
              go_wp2_with (first
                | (go_at_call 8; refine (lsave_bad p ⟨true, ⟨xa, xf⟩, ⟨xi, xt, xm, xs⟩⟩ hi' hx _).mono ?_; rintro _ w5 ⟨rfl, hb5⟩; have X5 := (hb5.block wr.heap.size (by simp)).trans X4; have cX0_5 : w5.cell? ⟨wr.heap.size, 0, none⟩ = some (.bool true) := Mem.cell X5 rfl; have cX1_5 : w5.cell? ⟨wr.heap.size, 1, none⟩ = some (.int .i64 xa) := Mem.cell X5 rfl; have cX2_5 : w5.cell? ⟨wr.heap.size, 2, none⟩ = some (.int .i64 xf) := Mem.cell X5 rfl; have cX3_5 : w5.cell? ⟨wr.heap.size, 3, none⟩ = some (.int .i64 xi) := Mem.cell X5 rfl; have cX4_5 : w5.cell? ⟨wr.heap.size, 4, none⟩ = some (.int .i64 xt) := Mem.cell X5 rfl; have cX5_5 : w5.cell? ⟨wr.heap.size, 5, none⟩ = some (.int .i64 xm) := Mem.cell X5 rfl; have cX6_5 : w5.cell? ⟨wr.heap.size, 6, none⟩ = some (.string xs) := Mem.cell X5 rfl)
                | (go_at_call 10; refine (hvd _).mono ?_; rintro _ w6 ⟨rfl, hb6⟩; have X6 := (hb6.block wr.heap.size (Mem.lt X5)).trans X5; have cX0_6 : w6.cell? ⟨wr.heap.size, 0, none⟩ = some (.bool true) := Mem.cell X6 rfl; have cX1_6 : w6.cell? ⟨wr.heap.size, 1, none⟩ = some (.int .i64 xa) := Mem.cell X6 rfl; have cX2_6 : w6.cell? ⟨wr.heap.size, 2, none⟩ = some (.int .i64 xf) := Mem.cell X6 rfl; have cX3_6 : w6.cell? ⟨wr.heap.size, 3, none⟩ = some (.int .i64 xi) := Mem.cell X6 rfl; have cX4_6 : w6.cell? ⟨wr.heap.size, 4, none⟩ = some (.int .i64 xt) := Mem.cell X6 rfl; have cX5_6 : w6.cell? ⟨wr.heap.size, 5, none⟩ = some (.int .i64 xm) := Mem.cell X6 rfl; have cX6_6 : w6.cell? ⟨wr.heap.size, 6, none⟩ = some (.string xs) := Mem.cell X6 rfl))
              go_roundw
              case rel => exact ⟨j + 1, d, ⟨va, vb⟩, ⟨sa, sb, sm, st⟩, is, hlt, by omega, rfl, by go_num, ((HX.out.on b4 (Nat.le_refl _)).on hb5 (Nat.le_refl _)).on hb6 (by omega)⟩
              case measure => first | exact fmeas hlt | (rw [hkw]; exact fmeas hlt)
      · have h12' : ¬ (j : Int) < 12 := by omega
        obtain ⟨f1, f2, f3⟩ := still_fall k hr.up hr.still hr.hv hr.hs
        have HF := Lib.hid (And.intro f1 (And.intro f2 hr))
        have hz : w1.heap.size + 2 ≤ wr.heap.size := by have := Mem.lt hr.S; omega
        clear f1 f2 f3 hr
        go_wp2_with (first
          | (go_at_call 14; refine (Dsk.Fail_any _ p (5 * j) d k _ HF.out.2.2.D HK.out.2 HF.out.2.2.up.inv (by omega)).mono ?_; rintro _ w5 ⟨rfl, hc5, hD5⟩; have hD5' := hD5.mono (Dsk.offS hz (by omega) h01); have V5 := hc5.at_ HF.out.2.2.V not_off0; have S5 := hc5.at_ HF.out.2.2.S not_off1; have k5 := HF.out.2.2.bel.trans (hc5.below (B := w.heap.size) (fun k hk hS => absurd hS.1 (by omega)) HF.out.2.2.bel.size); clear hc5 hD5)
          | (go_at_call 12; refine (Dsk.Wake_any _ p _ _ _ hD5').mono ?_; rintro _ w6 ⟨rfl, hc6, hD6⟩; have V6 := hc6.at_ V5 not_off0; have S6 := hc6.at_ S5 not_off1; have k6 := k5.trans (hc6.below (B := w.heap.size) (fun k hk hS => absurd hS.1 (by omega)) k5.size); have cV0_6 : w6.cell? ⟨w1.heap.size, 0, none⟩ = some (.int .i64 va) := Mem.cell V6 rfl; have cV1_6 : w6.cell? ⟨w1.heap.size, 1, none⟩ = some (.int .i64 vb) := Mem.cell V6 rfl; have cS0_6 : w6.cell? ⟨w1.heap.size + 1, 0, none⟩ = some (.int .i64 sa) := Mem.cell S6 rfl; have cS1_6 : w6.cell? ⟨w1.heap.size + 1, 1, none⟩ = some (.int .i64 sb) := Mem.cell S6 rfl; have cS2_6 : w6.cell? ⟨w1.heap.size + 1, 2, none⟩ = some (.int .i64 sm) := Mem.cell S6 rfl; have cS3_6 : w6.cell? ⟨w1.heap.size + 1, 3, none⟩ = some (.string st) := Mem.cell S6 rfl; have fV0_6 : w6.frozen? ⟨w1.heap.size, 0, none⟩ = false := Mem.free V6; have fV1_6 : w6.frozen? ⟨w1.heap.size, 1, none⟩ = false := Mem.free V6; have fS0_6 : w6.frozen? ⟨w1.heap.size + 1, 0, none⟩ = false := Mem.free S6; have fS1_6 : w6.frozen? ⟨w1.heap.size + 1, 1, none⟩ = false := Mem.free S6; have fS2_6 : w6.frozen? ⟨w1.heap.size + 1, 2, none⟩ = false := Mem.free S6; have fS3_6 : w6.frozen? ⟨w1.heap.size + 1, 3, none⟩ = false := Mem.free S6; clear hc6 V5 S5 k5 hD5')
          | (go_at_call 13; refine (loads_yes _ p _ _ _ hD6 rfl ⟨va, vb⟩ ⟨sa, sb, sm, st⟩ is HF.out.1 HF.out.2.1).mono ?_; rintro _ w7 ⟨rfl, hb7⟩))
        go_ret
        exact ⟨rfl, k6.trans (hb7.mono k6.size)⟩
    · have hge : ¬ (j : Int) < (l.length : Int) := by omega
      obtain ⟨f1, f2, f3⟩ := still_fall k hr.up hr.still hr.hv hr.hs
      have HF := Lib.hid (And.intro f1 (And.intro f2 hr))
      have hz : w1.heap.size + 2 ≤ wr.heap.size := by have := Mem.lt hr.S; omega
      clear f1 f2 f3 hr
      go_wp2_with (first
        | (go_at_call 14; refine (Dsk.Fail_any _ p (5 * j) d k _ HF.out.2.2.D HK.out.2 HF.out.2.2.up.inv (by omega)).mono ?_; rintro _ w5 ⟨rfl, hc5, hD5⟩; have hD5' := hD5.mono (Dsk.offS hz (by omega) h01); have V5 := hc5.at_ HF.out.2.2.V not_off0; have S5 := hc5.at_ HF.out.2.2.S not_off1; have k5 := HF.out.2.2.bel.trans (hc5.below (B := w.heap.size) (fun k hk hS => absurd hS.1 (by omega)) HF.out.2.2.bel.size); clear hc5 hD5)
        | (go_at_call 12; refine (Dsk.Wake_any _ p _ _ _ hD5').mono ?_; rintro _ w6 ⟨rfl, hc6, hD6⟩; have V6 := hc6.at_ V5 not_off0; have S6 := hc6.at_ S5 not_off1; have k6 := k5.trans (hc6.below (B := w.heap.size) (fun k hk hS => absurd hS.1 (by omega)) k5.size); have cV0_6 : w6.cell? ⟨w1.heap.size, 0, none⟩ = some (.int .i64 va) := Mem.cell V6 rfl; have cV1_6 : w6.cell? ⟨w1.heap.size, 1, none⟩ = some (.int .i64 vb) := Mem.cell V6 rfl; have cS0_6 : w6.cell? ⟨w1.heap.size + 1, 0, none⟩ = some (.int .i64 sa) := Mem.cell S6 rfl; have cS1_6 : w6.cell? ⟨w1.heap.size + 1, 1, none⟩ = some (.int .i64 sb) := Mem.cell S6 rfl; have cS2_6 : w6.cell? ⟨w1.heap.size + 1, 2, none⟩ = some (.int .i64 sm) := Mem.cell S6 rfl; have cS3_6 : w6.cell? ⟨w1.heap.size + 1, 3, none⟩ = some (.string st) := Mem.cell S6 rfl; have fV0_6 : w6.frozen? ⟨w1.heap.size, 0, none⟩ = false := Mem.free V6; have fV1_6 : w6.frozen? ⟨w1.heap.size, 1, none⟩ = false := Mem.free V6; have fS0_6 : w6.frozen? ⟨w1.heap.size + 1, 0, none⟩ = false := Mem.free S6; have fS1_6 : w6.frozen? ⟨w1.heap.size + 1, 1, none⟩ = false := Mem.free S6; have fS2_6 : w6.frozen? ⟨w1.heap.size + 1, 2, none⟩ = false := Mem.free S6; have fS3_6 : w6.frozen? ⟨w1.heap.size + 1, 3, none⟩ = false := Mem.free S6; clear hc6 V5 S5 k5 hD5')
        | (go_at_call 13; refine (loads_yes _ p _ _ _ hD6 rfl ⟨va, vb⟩ ⟨sa, sb, sm, st⟩ is HF.out.1 HF.out.2.1).mono ?_; rintro _ w7 ⟨rfl, hb7⟩))
      go_ret
      exact ⟨rfl, k6.trans (hb7.mono k6.size)⟩
end Go.Proofs.YtbpnhaeladcbnaaDoor
