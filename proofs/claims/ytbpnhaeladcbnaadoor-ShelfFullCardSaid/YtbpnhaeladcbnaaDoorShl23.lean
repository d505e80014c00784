/- ShelfFull: the walk (printed by tools/gen_full.py). -/
import Derived.Test.YtbpnhaeladcbnaaDoorShl22
import Derived.Test.YtbpnhaeladcbnaaDoorShl8
namespace Go.Proofs.YtbpnhaeladcbnaaDoor
open Go.RowKit
set_option linter.unusedSimpArgs false
set_option linter.unusedVariables false
open Dsk (DiskAt Dk nameP FM Off)
open Shf
/-- What holds at each round. -/
structure RndF (w wr : World) (p M N : Nat) (d : Dk) (v : Vt) (s : Sn) (is : Bool) : Prop where
  bel : Below w.heap.size w wr
  V : wr.heap[M]? = some (.cells #[.int .i64 v.term, .int .i64 v.to] 26 (0, 0))
  S : wr.heap[M + 1]? = some (.cells #[.int .i64 s.index, .int .i64 s.term, .int .i64 s.mask, .string s.text] 28 (0, 0))
  D : DiskAt wr (Off w.heap.size M (M + 2)) p N d
  calm : Shf.Calm d
  bare : Bare d.now
  hv : VoteIn d.now v
  hs : SnapIn d.now s is
  low : w.heap.size ≤ M
theorem RndF.on {w wr W : World} {p M N N' : Nat} {d : Dk} {v : Vt} {s : Sn} {is : Bool} (h : RndF w wr p M N d v s is) (hb : Below wr.heap.size wr W) (hN : N ≤ N') : RndF w W p M N' d v s is :=
  ⟨h.bel.trans (hb.mono h.bel.size), (hb.block _ (Mem.lt h.V)).trans h.V, (hb.block _ (Mem.lt h.S)).trans h.S, (h.D.below hb).more hN, h.calm, h.bare, h.hv, h.hs, h.low⟩
theorem RndF.mid {w wr : World} {p M N : Nat} {d : Dk} {v : Vt} {s : Sn} {is : Bool} (h : RndF w wr p M N d v s is) (x : Sv) : Mid w (wr.alloc (.cells #[.bool x.snap, .int .i64 x.v.term, .int .i64 x.v.to, .int .i64 x.s.index, .int .i64 x.s.term, .int .i64 x.s.mask, .string x.s.text] 32)) p M wr.heap.size N d v s x := by
  have b4 : Below wr.heap.size wr (wr.alloc (.cells #[.bool x.snap, .int .i64 x.v.term, .int .i64 x.v.to, .int .i64 x.s.index, .int .i64 x.s.term, .int .i64 x.s.mask, .string x.s.text] 32)) := (Below.refl _ _).alloc (Nat.le_refl _) _
  exact ⟨h.bel.trans (b4.mono h.bel.size), Mem.old h.V _, Mem.old h.S _, Mem.new wr _, ((DiskAt_kept h.D).below b4).mono (fun k hk => ⟨hk.1, by have := hk.2; omega⟩)⟩
theorem Mid.rnd {w W : World} {p M q N N' : Nat} {d : Dk} {v : Vt} {s : Sn} {x : Sv} {is : Bool} (h : Mid w W p M q N d v s x) (hN : N ≤ N') (h1 : Shf.Calm d) (h2 : Bare d.now) (h3 : VoteIn d.now v) (h4 : SnapIn d.now s is) (h5 : w.heap.size ≤ M) : RndF w W p M N' d v s is :=
  ⟨h.bel, h.V, h.S, (h.D.mono (fun k hk => hk.1)).more hN, h1, h2, h3, h4, h5⟩
theorem Mid.drew {w W : World} {p M q N : Nat} {d : Dk} {v : Vt} {s : Sn} {x : Sv} (h : Mid w W p M q N d v s x) : Mid w W.drew p M q N d v s x := h.on ((Below.refl _ _).drew)
theorem Shf.Calm.room {d : Dk} (h : Shf.Calm d) (n : Int) : Shf.Calm { d with room := n } := ⟨⟨h.inv.kept, h.inv.valid, h.inv.now⟩, h.up, h.aft, ⟨h.still.row, h.still.same⟩⟩
theorem measF {n k : Nat} (h : k < n) : n - (intOf (.int .i64 ((k : Int) + 1))).toNat < n - (intOf (.int .i64 (k : Int))).toNat := by
  show n - ((k : Int) + 1).toNat < n - ((k : Int)).toNat; omega
set_option maxRecDepth 100000 in
set_option maxHeartbeats 16000000 in
theorem ShelfFull_any (l : List Sv) (v : Value) (rs : List Int) (v2 : Value) (ok ok2 : Nat → Prop) (w : World) (h : Mem.Rd w ok 7 v (l.map Sv.cells)) (h2 : Mem.Rd w ok2 1 v2 (rs.map (fun n => [.int .i64 n]))) (hl : ∀ x ∈ l, IsI64 x.v.to) :
    Calls Tryd.prog 4 #[v, v2] w fun r w' => r = .returned (.bool true) ∧ Below w.heap.size w w' := by
  have tokA : True := trivial
  obtain ⟨A0, cap0, rfl⟩ := h.slice
  have hll : (l.map Sv.cells).length = l.length := List.length_map _
  rw [hll] at h ⊢
  obtain ⟨A1, cap1, rfl⟩ := h2.slice
  have hlr : (rs.map (fun n => [Value.int .i64 n])).length = rs.length := List.length_map _
  rw [hlr] at h2 ⊢
  have HR := Lib.hid h
  have HR2 := Lib.hid h2
  have HL := Lib.hid hl
  clear h hl hll h2 hlr
  go_enter Tryd.func4, Tryd.ntmps4
  go_wp2_with (first
    | (go_at_call 5; refine (Dsk.New_any _).mono ?_; rintro _ w1 ⟨p, rfl, hb1, hD1⟩)
    | (go_at_call 6; refine (awake7_any _).mono ?_; rintro _ w2 ⟨rfl, hb2⟩; have e1 : Below w1.heap.size w1 ((w1.alloc (.cells #[.int .i64 0, .int .i64 (-1)] 26)).alloc (.cells #[.int .i64 0, .int .i64 0, .int .i64 0, .string ⟨#[]⟩] 28)) := ((Below.refl _ _).alloc (Nat.le_refl _) _).alloc (by simp) _; have hD2 : DiskAt w2 (Off w.heap.size w1.heap.size (w1.heap.size + 2)) p 0 Dk.new := ((hD1.below e1).below hb2).mono (fun k hk => ⟨hk.1, .inl hk.2⟩); have V2 := (hb2.block w1.heap.size (by simp; omega)).trans (Mem.old (Mem.new w1 (.cells #[.int .i64 0, .int .i64 (-1)] 26)) _); have sn := Mem.new (w1.alloc (.cells #[.int .i64 0, .int .i64 (-1)] 26)) (.cells #[.int .i64 0, .int .i64 0, .int .i64 0, .string ⟨#[]⟩] 28); rw [show (w1.alloc (.cells #[.int .i64 0, .int .i64 (-1)] 26)).heap.size = w1.heap.size + 1 by simp] at sn; have S2 := (hb2.block (w1.heap.size + 1) (by simp)).trans sn; have a1 := hb1.trans (e1.mono hb1.size); have a2 := a1.trans (hb2.mono a1.size)))
  have h01 := hb1.size
  have HI := Lib.hid (show RndF w w2 p w1.heap.size 0 _ ⟨0, -1⟩ ⟨0, 0, 0, ⟨#[]⟩⟩ false from ⟨a2, V2, S2, hD2, ⟨Dk.inv_new, rfl, rfl, ⟨rfl, rfl⟩⟩, ⟨rfl, rfl⟩, .inl ⟨rfl, rfl⟩, .inl ⟨rfl, rfl, rfl⟩, h01⟩)
  clear hb1 hD1 hb2 e1 hD2 V2 sn S2 a1 a2
  go_loopw [8, 9] (fun sm i wr => ∃ (j : Nat) (d : Dk) (v : Vt) (s : Sn) (is : Bool), j ≤ l.length ∧ j ≤ 12 ∧ sm = .bool is ∧ i = .int .i64 (j : Int) ∧ RndF w wr p w1.heap.size (5 * j) d v s is) (fun _ i _ => l.length - (intOf i).toNat)
  case atStart => exact ⟨0, _, _, _, _, Nat.zero_le _, Nat.zero_le _, rfl, rfl, HI.out⟩
  case round =>
    obtain ⟨j, d, ⟨va, vb⟩, ⟨sa, sb, sm, st⟩, is, hj, hj12, rfl, rfl, hr⟩ := hrel
    have hlen : (l.length : Int) ≤ 9223372036854775807 := by have := HR.out.len; rw [List.length_map] at this; omega
    have hlen2 : (rs.length : Int) ≤ 9223372036854775807 := by have := HR2.out.len; rw [List.length_map] at this; omega
    by_cases hlt : j < l.length
    · have hlt' : (j : Int) < (l.length : Int) := by omega
      by_cases h12 : j < 12
      · skip
        obtain ⟨y, hy⟩ : ∃ y, l[j]? = some y := ⟨_, List.getElem?_eq_getElem hlt⟩
        have hi := HL.out y (List.mem_of_getElem? hy)
        obtain ⟨g, o, rfl, hg, hgl, hrow⟩ := (HR.out.below hr.bel).row (k := j) (r := y.cells) (by rw [List.getElem?_map, hy]; rfl)
        have m4 := hr.mid y
        obtain ⟨xb, ⟨xa, xf⟩, ⟨xi, xt, xm, xs⟩⟩ := y
        have c0 : wr.cell? ⟨g, o + j * 7, none⟩ = some (.bool xb) := hrow 0 _ rfl
        have c1 : wr.cell? ⟨g, o + j * 7 + 1, none⟩ = some (.int .i64 xa) := hrow 1 _ rfl
        have c2 : wr.cell? ⟨g, o + j * 7 + 2, none⟩ = some (.int .i64 xf) := hrow 2 _ rfl
        have c3 : wr.cell? ⟨g, o + j * 7 + 3, none⟩ = some (.int .i64 xi) := hrow 3 _ rfl
        have c4 : wr.cell? ⟨g, o + j * 7 + 4, none⟩ = some (.int .i64 xt) := hrow 4 _ rfl
        have c5 : wr.cell? ⟨g, o + j * 7 + 5, none⟩ = some (.int .i64 xm) := hrow 5 _ rfl
        have c6 : wr.cell? ⟨g, o + j * 7 + 6, none⟩ = some (.string xs) := hrow 6 _ rfl
        have hkw : wrap64 ((j : Int) + 1) = (j : Int) + 1 := by unfold wrap64; omega
        have h12' : (j : Int) < 12 := by omega
        have hz : w1.heap.size + 2 ≤ wr.heap.size := by have := Mem.lt hr.S; omega
        have HX := Lib.hid hr
        clear hrow hy hg
        have hi' : IsI64 xf := hi
        clear hi
        have b4 : Below wr.heap.size wr (wr.alloc (.cells #[.bool xb, .int .i64 xa, .int .i64 xf, .int .i64 xi, .int .i64 xt, .int .i64 xm, .string xs] 32)) := (Below.refl _ _).alloc (Nat.le_refl _) _
        clear hr
        have X4 := m4.X
        by_cases hxl : (3000 : Int) < (xs.size : Int)
        · go_wp2_with fail
          go_roundw
          case rel => exact ⟨j + 1, d, ⟨va, vb⟩, ⟨sa, sb, sm, st⟩, is, hlt, by omega, rfl, by go_num, HX.out.on b4 (by omega)⟩
          case measure => first | exact measF hlt | (rw [hkw]; exact measF hlt)
        · have hxl' : (xs.size : Int) ≤ 3000 := by omega
          clear hxl
          go_wp2_with (go_at_call 15; refine (m4.room _).mono ?_; rintro _ w5 ⟨rfl, m5⟩; refine Hid.out ?_)
          by_cases hrm : j < rs.length
          · have hrm' : (j : Int) < (rs.length : Int) := by omega
            obtain ⟨n, hn⟩ : ∃ n, rs[j]? = some n := ⟨_, List.getElem?_eq_getElem hrm⟩
            obtain ⟨g2, o2, rfl, hg2, hgl2, hrow2⟩ := HR2.out.row (k := j) (r := [.int .i64 n]) (by rw [List.getElem?_map, hn]; rfl)
            have cr := hrow2 0 _ rfl
            simp only [Nat.mul_one, Nat.add_zero] at cr
            have cr5 := (m5.bel.cell (p := ⟨g2, o2 + j, none⟩) hgl2).trans cr
            clear hrow2 hn hg2
            have hd5 : d.down = false := HX.out.calm.up
            refine Lib.hid ?_
            go_wp2_with fail
            go_region_held3 (fun W => W.cell? ⟨g2, o2 + j, none⟩ = some (.int .i64 n) ∧ ∃ rr : Int, Mid w W p w1.heap.size wr.heap.size (5 * j) { d with room := rr } ⟨va, vb⟩ ⟨sa, sb, sm, st⟩ ⟨xb, ⟨xa, xf⟩, ⟨xi, xt, xm, xs⟩⟩)
              (first | exact ⟨c44, _, m44⟩ | exact ⟨c33, _, m33⟩ | exact ⟨cr5, _, m5.drew⟩)
              (first
                | (go_at_call 16; obtain ⟨hcc, ra, ma⟩ := ‹_ ∧ _›; refine (ma.used hd5).mono ?_; rintro _ w33 ⟨nu, rfl, m33⟩; have c33 := (m33.bel.cell (p := ⟨g2, o2 + j, none⟩) hgl2).trans cr)
                | (go_at_call 15; obtain ⟨hcc, ra, ma⟩ := ‹_ ∧ _›; refine (ma.room _).mono ?_; rintro _ w44 ⟨rfl, m44⟩; have c44 := (m44.bel.cell (p := ⟨g2, o2 + j, none⟩) hgl2).trans cr))
            obtain ⟨_, r6, m6⟩ := ‹_ ∧ _›
            have CK0 : Shf.Calm { d with room := r6 } ∧ Bare ({ d with room := r6 } : Dk).now ∧ VoteIn ({ d with room := r6 } : Dk).now ⟨va, vb⟩ ∧ SnapIn ({ d with room := r6 } : Dk).now ⟨sa, sb, sm, st⟩ is := ⟨HX.out.calm.room _, HX.out.bare, HX.out.hv, HX.out.hs⟩
            generalize ({ d with room := r6 } : Dk) = d6 at m6 CK0
            have CK := Lib.hid CK0
            clear CK0 m33 m44 c33 c44 cr5 m5 cr
            have cV0_6 : w44.cell? ⟨w1.heap.size, 0, none⟩ = some (.int .i64 va) := Mem.cell m6.V rfl; have cV1_6 : w44.cell? ⟨w1.heap.size, 1, none⟩ = some (.int .i64 vb) := Mem.cell m6.V rfl; have cS0_6 : w44.cell? ⟨w1.heap.size + 1, 0, none⟩ = some (.int .i64 sa) := Mem.cell m6.S rfl; have cS1_6 : w44.cell? ⟨w1.heap.size + 1, 1, none⟩ = some (.int .i64 sb) := Mem.cell m6.S rfl; have cS2_6 : w44.cell? ⟨w1.heap.size + 1, 2, none⟩ = some (.int .i64 sm) := Mem.cell m6.S rfl; have cS3_6 : w44.cell? ⟨w1.heap.size + 1, 3, none⟩ = some (.string st) := Mem.cell m6.S rfl; have cX0_6 : w44.cell? ⟨wr.heap.size, 0, none⟩ = some (.bool xb) := Mem.cell m6.X rfl; have cX1_6 : w44.cell? ⟨wr.heap.size, 1, none⟩ = some (.int .i64 xa) := Mem.cell m6.X rfl; have cX2_6 : w44.cell? ⟨wr.heap.size, 2, none⟩ = some (.int .i64 xf) := Mem.cell m6.X rfl; have cX3_6 : w44.cell? ⟨wr.heap.size, 3, none⟩ = some (.int .i64 xi) := Mem.cell m6.X rfl; have cX4_6 : w44.cell? ⟨wr.heap.size, 4, none⟩ = some (.int .i64 xt) := Mem.cell m6.X rfl; have cX5_6 : w44.cell? ⟨wr.heap.size, 5, none⟩ = some (.int .i64 xm) := Mem.cell m6.X rfl; have cX6_6 : w44.cell? ⟨wr.heap.size, 6, none⟩ = some (.string xs) := Mem.cell m6.X rfl
            by_cases hx : Sv.ok ⟨xb, ⟨xa, xf⟩, ⟨xi, xt, xm, xs⟩⟩
            · have hsv := m6.save hi' hx CK.out.1 CK.out.2.1 (by omega) h01 hz
              have hst := step_full CK.out.1 CK.out.2.1 CK.out.2.2.1 CK.out.2.2.2 hi' hx
              generalize Sv.full ⟨xb, ⟨xa, xf⟩, ⟨xi, xt, xm, xs⟩⟩ d6 = d7 at hsv hst
              have CN := Lib.hid hst
              clear hst hx
              unfold Sv.val at hsv
              dsimp only at hsv
              go_wp2_with (go_at_call 8; refine hsv.mono ?_; rintro _ w7 ⟨e7, rfl, h7⟩; refine Hid.out ?_)
              rcases h7 with ⟨rfl, m7⟩ | ⟨rfl, hr7, m7⟩
              · cases xb
                · simp only [Bool.false_eq_true, reduceIte] at CN
                  have cV0_7 : w7.cell? ⟨w1.heap.size, 0, none⟩ = some (.int .i64 va) := Mem.cell m7.V rfl; have cV1_7 : w7.cell? ⟨w1.heap.size, 1, none⟩ = some (.int .i64 vb) := Mem.cell m7.V rfl; have cS0_7 : w7.cell? ⟨w1.heap.size + 1, 0, none⟩ = some (.int .i64 sa) := Mem.cell m7.S rfl; have cS1_7 : w7.cell? ⟨w1.heap.size + 1, 1, none⟩ = some (.int .i64 sb) := Mem.cell m7.S rfl; have cS2_7 : w7.cell? ⟨w1.heap.size + 1, 2, none⟩ = some (.int .i64 sm) := Mem.cell m7.S rfl; have cS3_7 : w7.cell? ⟨w1.heap.size + 1, 3, none⟩ = some (.string st) := Mem.cell m7.S rfl; have cX0_7 : w7.cell? ⟨wr.heap.size, 0, none⟩ = some (.bool false) := Mem.cell m7.X rfl; have cX1_7 : w7.cell? ⟨wr.heap.size, 1, none⟩ = some (.int .i64 xa) := Mem.cell m7.X rfl; have cX2_7 : w7.cell? ⟨wr.heap.size, 2, none⟩ = some (.int .i64 xf) := Mem.cell m7.X rfl; have cX3_7 : w7.cell? ⟨wr.heap.size, 3, none⟩ = some (.int .i64 xi) := Mem.cell m7.X rfl; have cX4_7 : w7.cell? ⟨wr.heap.size, 4, none⟩ = some (.int .i64 xt) := Mem.cell m7.X rfl; have cX5_7 : w7.cell? ⟨wr.heap.size, 5, none⟩ = some (.int .i64 xm) := Mem.cell m7.X rfl; have cX6_7 : w7.cell? ⟨wr.heap.size, 6, none⟩ = some (.string xs) := Mem.cell m7.X rfl
                  have fV0 : w7.frozen? ⟨w1.heap.size, 0, none⟩ = false := Mem.free m7.V; have fV1 : w7.frozen? ⟨w1.heap.size, 1, none⟩ = false := Mem.free m7.V; have fS0 : w7.frozen? ⟨w1.heap.size + 1, 0, none⟩ = false := Mem.free m7.S; have fS1 : w7.frozen? ⟨w1.heap.size + 1, 1, none⟩ = false := Mem.free m7.S; have fS2 : w7.frozen? ⟨w1.heap.size + 1, 2, none⟩ = false := Mem.free m7.S; have fS3 : w7.frozen? ⟨w1.heap.size + 1, 3, none⟩ = false := Mem.free m7.S
                  have hw7 := m7.waits CN.out.1.up CN.out.1.still.row
                  refine Lib.hid ?_
                  go_wp2_with (first
                    | (go_at_call 17; refine hw7.mono ?_; rintro _ _ ⟨rfl, rfl⟩)
                    | (go_at_call 18; have _t := tokA; refine ((m7.setV (v' := ⟨xa, xf⟩) h01 hz).noNew CN.out.1.up (f := voteK) (by decide) (by decide +kernel) CN.out.2.1.v).mono ?_; rintro _ w8 ⟨⟨x8, rfl⟩, m8⟩; clear tokA)
                    | (go_at_call 18; refine (m8.noNew CN.out.1.up (f := snapK) (by decide) (by decide +kernel) CN.out.2.1.s).mono ?_; rintro _ w9 ⟨⟨x9, rfl⟩, m9⟩; have cV0_9 : w9.cell? ⟨w1.heap.size, 0, none⟩ = some (.int .i64 xa) := Mem.cell m9.V rfl; have cV1_9 : w9.cell? ⟨w1.heap.size, 1, none⟩ = some (.int .i64 xf) := Mem.cell m9.V rfl; have cS0_9 : w9.cell? ⟨w1.heap.size + 1, 0, none⟩ = some (.int .i64 sa) := Mem.cell m9.S rfl; have cS1_9 : w9.cell? ⟨w1.heap.size + 1, 1, none⟩ = some (.int .i64 sb) := Mem.cell m9.S rfl; have cS2_9 : w9.cell? ⟨w1.heap.size + 1, 2, none⟩ = some (.int .i64 sm) := Mem.cell m9.S rfl; have cS3_9 : w9.cell? ⟨w1.heap.size + 1, 3, none⟩ = some (.string st) := Mem.cell m9.S rfl; have cX0_9 : w9.cell? ⟨wr.heap.size, 0, none⟩ = some (.bool false) := Mem.cell m9.X rfl; have cX1_9 : w9.cell? ⟨wr.heap.size, 1, none⟩ = some (.int .i64 xa) := Mem.cell m9.X rfl; have cX2_9 : w9.cell? ⟨wr.heap.size, 2, none⟩ = some (.int .i64 xf) := Mem.cell m9.X rfl; have cX3_9 : w9.cell? ⟨wr.heap.size, 3, none⟩ = some (.int .i64 xi) := Mem.cell m9.X rfl; have cX4_9 : w9.cell? ⟨wr.heap.size, 4, none⟩ = some (.int .i64 xt) := Mem.cell m9.X rfl; have cX5_9 : w9.cell? ⟨wr.heap.size, 5, none⟩ = some (.int .i64 xm) := Mem.cell m9.X rfl; have cX6_9 : w9.cell? ⟨wr.heap.size, 6, none⟩ = some (.string xs) := Mem.cell m9.X rfl)
                    | (go_at_call 13; refine (m9.loads CN.out.1.up CN.out.2.2.1 CN.out.2.2.2).mono ?_; rintro _ w10 ⟨rfl, m10⟩))
                  go_roundw
                  case rel => exact ⟨j + 1, d7, ⟨xa, xf⟩, ⟨sa, sb, sm, st⟩, is, hlt, by omega, rfl, by go_num, m10.rnd (by omega) CN.out.1 CN.out.2.1 CN.out.2.2.1 CN.out.2.2.2 h01⟩
                  case measure => first | exact measF hlt | (rw [hkw]; exact measF hlt)
                · simp only [Bool.false_eq_true, reduceIte] at CN
                  have cV0_7 : w7.cell? ⟨w1.heap.size, 0, none⟩ = some (.int .i64 va) := Mem.cell m7.V rfl; have cV1_7 : w7.cell? ⟨w1.heap.size, 1, none⟩ = some (.int .i64 vb) := Mem.cell m7.V rfl; have cS0_7 : w7.cell? ⟨w1.heap.size + 1, 0, none⟩ = some (.int .i64 sa) := Mem.cell m7.S rfl; have cS1_7 : w7.cell? ⟨w1.heap.size + 1, 1, none⟩ = some (.int .i64 sb) := Mem.cell m7.S rfl; have cS2_7 : w7.cell? ⟨w1.heap.size + 1, 2, none⟩ = some (.int .i64 sm) := Mem.cell m7.S rfl; have cS3_7 : w7.cell? ⟨w1.heap.size + 1, 3, none⟩ = some (.string st) := Mem.cell m7.S rfl; have cX0_7 : w7.cell? ⟨wr.heap.size, 0, none⟩ = some (.bool true) := Mem.cell m7.X rfl; have cX1_7 : w7.cell? ⟨wr.heap.size, 1, none⟩ = some (.int .i64 xa) := Mem.cell m7.X rfl; have cX2_7 : w7.cell? ⟨wr.heap.size, 2, none⟩ = some (.int .i64 xf) := Mem.cell m7.X rfl; have cX3_7 : w7.cell? ⟨wr.heap.size, 3, none⟩ = some (.int .i64 xi) := Mem.cell m7.X rfl; have cX4_7 : w7.cell? ⟨wr.heap.size, 4, none⟩ = some (.int .i64 xt) := Mem.cell m7.X rfl; have cX5_7 : w7.cell? ⟨wr.heap.size, 5, none⟩ = some (.int .i64 xm) := Mem.cell m7.X rfl; have cX6_7 : w7.cell? ⟨wr.heap.size, 6, none⟩ = some (.string xs) := Mem.cell m7.X rfl
                  have fV0 : w7.frozen? ⟨w1.heap.size, 0, none⟩ = false := Mem.free m7.V; have fV1 : w7.frozen? ⟨w1.heap.size, 1, none⟩ = false := Mem.free m7.V; have fS0 : w7.frozen? ⟨w1.heap.size + 1, 0, none⟩ = false := Mem.free m7.S; have fS1 : w7.frozen? ⟨w1.heap.size + 1, 1, none⟩ = false := Mem.free m7.S; have fS2 : w7.frozen? ⟨w1.heap.size + 1, 2, none⟩ = false := Mem.free m7.S; have fS3 : w7.frozen? ⟨w1.heap.size + 1, 3, none⟩ = false := Mem.free m7.S
                  have hw7 := m7.waits CN.out.1.up CN.out.1.still.row
                  refine Lib.hid ?_
                  go_wp2_with (first
                    | (go_at_call 17; refine hw7.mono ?_; rintro _ _ ⟨rfl, rfl⟩)
                    | (go_at_call 18; have _t := tokA; refine ((m7.setS (s' := ⟨xi, xt, xm, xs⟩) h01 hz).noNew CN.out.1.up (f := voteK) (by decide) (by decide +kernel) CN.out.2.1.v).mono ?_; rintro _ w8 ⟨⟨x8, rfl⟩, m8⟩; clear tokA)
                    | (go_at_call 18; refine (m8.noNew CN.out.1.up (f := snapK) (by decide) (by decide +kernel) CN.out.2.1.s).mono ?_; rintro _ w9 ⟨⟨x9, rfl⟩, m9⟩; have cV0_9 : w9.cell? ⟨w1.heap.size, 0, none⟩ = some (.int .i64 va) := Mem.cell m9.V rfl; have cV1_9 : w9.cell? ⟨w1.heap.size, 1, none⟩ = some (.int .i64 vb) := Mem.cell m9.V rfl; have cS0_9 : w9.cell? ⟨w1.heap.size + 1, 0, none⟩ = some (.int .i64 xi) := Mem.cell m9.S rfl; have cS1_9 : w9.cell? ⟨w1.heap.size + 1, 1, none⟩ = some (.int .i64 xt) := Mem.cell m9.S rfl; have cS2_9 : w9.cell? ⟨w1.heap.size + 1, 2, none⟩ = some (.int .i64 xm) := Mem.cell m9.S rfl; have cS3_9 : w9.cell? ⟨w1.heap.size + 1, 3, none⟩ = some (.string xs) := Mem.cell m9.S rfl; have cX0_9 : w9.cell? ⟨wr.heap.size, 0, none⟩ = some (.bool true) := Mem.cell m9.X rfl; have cX1_9 : w9.cell? ⟨wr.heap.size, 1, none⟩ = some (.int .i64 xa) := Mem.cell m9.X rfl; have cX2_9 : w9.cell? ⟨wr.heap.size, 2, none⟩ = some (.int .i64 xf) := Mem.cell m9.X rfl; have cX3_9 : w9.cell? ⟨wr.heap.size, 3, none⟩ = some (.int .i64 xi) := Mem.cell m9.X rfl; have cX4_9 : w9.cell? ⟨wr.heap.size, 4, none⟩ = some (.int .i64 xt) := Mem.cell m9.X rfl; have cX5_9 : w9.cell? ⟨wr.heap.size, 5, none⟩ = some (.int .i64 xm) := Mem.cell m9.X rfl; have cX6_9 : w9.cell? ⟨wr.heap.size, 6, none⟩ = some (.string xs) := Mem.cell m9.X rfl)
                    | (go_at_call 13; refine (m9.loads CN.out.1.up CN.out.2.2.1 CN.out.2.2.2).mono ?_; rintro _ w10 ⟨rfl, m10⟩))
                  go_roundw
                  case rel => exact ⟨j + 1, d7, ⟨va, vb⟩, ⟨xi, xt, xm, xs⟩, true, hlt, by omega, rfl, by go_num, m10.rnd (by omega) CN.out.1 CN.out.2.1 CN.out.2.2.1 CN.out.2.2.2 h01⟩
                  case measure => first | exact measF hlt | (rw [hkw]; exact measF hlt)
              · skip
                have cV0_7 : w7.cell? ⟨w1.heap.size, 0, none⟩ = some (.int .i64 va) := Mem.cell m7.V rfl; have cV1_7 : w7.cell? ⟨w1.heap.size, 1, none⟩ = some (.int .i64 vb) := Mem.cell m7.V rfl; have cS0_7 : w7.cell? ⟨w1.heap.size + 1, 0, none⟩ = some (.int .i64 sa) := Mem.cell m7.S rfl; have cS1_7 : w7.cell? ⟨w1.heap.size + 1, 1, none⟩ = some (.int .i64 sb) := Mem.cell m7.S rfl; have cS2_7 : w7.cell? ⟨w1.heap.size + 1, 2, none⟩ = some (.int .i64 sm) := Mem.cell m7.S rfl; have cS3_7 : w7.cell? ⟨w1.heap.size + 1, 3, none⟩ = some (.string st) := Mem.cell m7.S rfl; have cX0_7 : w7.cell? ⟨wr.heap.size, 0, none⟩ = some (.bool xb) := Mem.cell m7.X rfl; have cX1_7 : w7.cell? ⟨wr.heap.size, 1, none⟩ = some (.int .i64 xa) := Mem.cell m7.X rfl; have cX2_7 : w7.cell? ⟨wr.heap.size, 2, none⟩ = some (.int .i64 xf) := Mem.cell m7.X rfl; have cX3_7 : w7.cell? ⟨wr.heap.size, 3, none⟩ = some (.int .i64 xi) := Mem.cell m7.X rfl; have cX4_7 : w7.cell? ⟨wr.heap.size, 4, none⟩ = some (.int .i64 xt) := Mem.cell m7.X rfl; have cX5_7 : w7.cell? ⟨wr.heap.size, 5, none⟩ = some (.int .i64 xm) := Mem.cell m7.X rfl; have cX6_7 : w7.cell? ⟨wr.heap.size, 6, none⟩ = some (.string xs) := Mem.cell m7.X rfl
                have hw7 := m7.waits CK.out.1.up CK.out.1.still.row
                refine Lib.hid ?_
                go_wp2_with (first
                  | (go_at_call 17; refine hw7.mono ?_; rintro _ _ ⟨rfl, rfl⟩)
                  | (go_at_call 18; have _t := tokA; refine (m7.noNew CK.out.1.up (f := voteK) (by decide) (by decide +kernel) CK.out.2.1.v).mono ?_; rintro _ w8 ⟨⟨x8, rfl⟩, m8⟩; clear tokA)
                  | (go_at_call 18; refine (m8.noNew CK.out.1.up (f := snapK) (by decide) (by decide +kernel) CK.out.2.1.s).mono ?_; rintro _ w9 ⟨⟨x9, rfl⟩, m9⟩; have cV0_9 : w9.cell? ⟨w1.heap.size, 0, none⟩ = some (.int .i64 va) := Mem.cell m9.V rfl; have cV1_9 : w9.cell? ⟨w1.heap.size, 1, none⟩ = some (.int .i64 vb) := Mem.cell m9.V rfl; have cS0_9 : w9.cell? ⟨w1.heap.size + 1, 0, none⟩ = some (.int .i64 sa) := Mem.cell m9.S rfl; have cS1_9 : w9.cell? ⟨w1.heap.size + 1, 1, none⟩ = some (.int .i64 sb) := Mem.cell m9.S rfl; have cS2_9 : w9.cell? ⟨w1.heap.size + 1, 2, none⟩ = some (.int .i64 sm) := Mem.cell m9.S rfl; have cS3_9 : w9.cell? ⟨w1.heap.size + 1, 3, none⟩ = some (.string st) := Mem.cell m9.S rfl; have cX0_9 : w9.cell? ⟨wr.heap.size, 0, none⟩ = some (.bool xb) := Mem.cell m9.X rfl; have cX1_9 : w9.cell? ⟨wr.heap.size, 1, none⟩ = some (.int .i64 xa) := Mem.cell m9.X rfl; have cX2_9 : w9.cell? ⟨wr.heap.size, 2, none⟩ = some (.int .i64 xf) := Mem.cell m9.X rfl; have cX3_9 : w9.cell? ⟨wr.heap.size, 3, none⟩ = some (.int .i64 xi) := Mem.cell m9.X rfl; have cX4_9 : w9.cell? ⟨wr.heap.size, 4, none⟩ = some (.int .i64 xt) := Mem.cell m9.X rfl; have cX5_9 : w9.cell? ⟨wr.heap.size, 5, none⟩ = some (.int .i64 xm) := Mem.cell m9.X rfl; have cX6_9 : w9.cell? ⟨wr.heap.size, 6, none⟩ = some (.string xs) := Mem.cell m9.X rfl)
                  | (go_at_call 13; refine (m9.loads CK.out.1.up CK.out.2.2.1 CK.out.2.2.2).mono ?_; rintro _ w10 ⟨rfl, m10⟩))
                go_roundw
                case rel => exact ⟨j + 1, d6, ⟨va, vb⟩, ⟨sa, sb, sm, st⟩, is, hlt, by omega, rfl, by go_num, m10.rnd (by omega) CK.out.1 CK.out.2.1 CK.out.2.2.1 CK.out.2.2.2 h01⟩
                case measure => first | exact measF hlt | (rw [hkw]; exact measF hlt)
            · have hsb := m6.saveBad hi' hx
              clear hx
              unfold Sv.val at hsb
              dsimp only at hsb
              go_wp2_with (go_at_call 8; refine hsb.mono ?_; rintro _ w7 ⟨rfl, m7⟩; refine Hid.out ?_)
              have cV0_7 : w7.cell? ⟨w1.heap.size, 0, none⟩ = some (.int .i64 va) := Mem.cell m7.V rfl; have cV1_7 : w7.cell? ⟨w1.heap.size, 1, none⟩ = some (.int .i64 vb) := Mem.cell m7.V rfl; have cS0_7 : w7.cell? ⟨w1.heap.size + 1, 0, none⟩ = some (.int .i64 sa) := Mem.cell m7.S rfl; have cS1_7 : w7.cell? ⟨w1.heap.size + 1, 1, none⟩ = some (.int .i64 sb) := Mem.cell m7.S rfl; have cS2_7 : w7.cell? ⟨w1.heap.size + 1, 2, none⟩ = some (.int .i64 sm) := Mem.cell m7.S rfl; have cS3_7 : w7.cell? ⟨w1.heap.size + 1, 3, none⟩ = some (.string st) := Mem.cell m7.S rfl; have cX0_7 : w7.cell? ⟨wr.heap.size, 0, none⟩ = some (.bool xb) := Mem.cell m7.X rfl; have cX1_7 : w7.cell? ⟨wr.heap.size, 1, none⟩ = some (.int .i64 xa) := Mem.cell m7.X rfl; have cX2_7 : w7.cell? ⟨wr.heap.size, 2, none⟩ = some (.int .i64 xf) := Mem.cell m7.X rfl; have cX3_7 : w7.cell? ⟨wr.heap.size, 3, none⟩ = some (.int .i64 xi) := Mem.cell m7.X rfl; have cX4_7 : w7.cell? ⟨wr.heap.size, 4, none⟩ = some (.int .i64 xt) := Mem.cell m7.X rfl; have cX5_7 : w7.cell? ⟨wr.heap.size, 5, none⟩ = some (.int .i64 xm) := Mem.cell m7.X rfl; have cX6_7 : w7.cell? ⟨wr.heap.size, 6, none⟩ = some (.string xs) := Mem.cell m7.X rfl
              have hw7 := m7.waits CK.out.1.up CK.out.1.still.row
              refine Lib.hid ?_
              go_wp2_with (first
                | (go_at_call 17; refine hw7.mono ?_; rintro _ _ ⟨rfl, rfl⟩)
                | (go_at_call 18; have _t := tokA; refine (m7.noNew CK.out.1.up (f := voteK) (by decide) (by decide +kernel) CK.out.2.1.v).mono ?_; rintro _ w8 ⟨⟨x8, rfl⟩, m8⟩; clear tokA)
                | (go_at_call 18; refine (m8.noNew CK.out.1.up (f := snapK) (by decide) (by decide +kernel) CK.out.2.1.s).mono ?_; rintro _ w9 ⟨⟨x9, rfl⟩, m9⟩; have cV0_9 : w9.cell? ⟨w1.heap.size, 0, none⟩ = some (.int .i64 va) := Mem.cell m9.V rfl; have cV1_9 : w9.cell? ⟨w1.heap.size, 1, none⟩ = some (.int .i64 vb) := Mem.cell m9.V rfl; have cS0_9 : w9.cell? ⟨w1.heap.size + 1, 0, none⟩ = some (.int .i64 sa) := Mem.cell m9.S rfl; have cS1_9 : w9.cell? ⟨w1.heap.size + 1, 1, none⟩ = some (.int .i64 sb) := Mem.cell m9.S rfl; have cS2_9 : w9.cell? ⟨w1.heap.size + 1, 2, none⟩ = some (.int .i64 sm) := Mem.cell m9.S rfl; have cS3_9 : w9.cell? ⟨w1.heap.size + 1, 3, none⟩ = some (.string st) := Mem.cell m9.S rfl; have cX0_9 : w9.cell? ⟨wr.heap.size, 0, none⟩ = some (.bool xb) := Mem.cell m9.X rfl; have cX1_9 : w9.cell? ⟨wr.heap.size, 1, none⟩ = some (.int .i64 xa) := Mem.cell m9.X rfl; have cX2_9 : w9.cell? ⟨wr.heap.size, 2, none⟩ = some (.int .i64 xf) := Mem.cell m9.X rfl; have cX3_9 : w9.cell? ⟨wr.heap.size, 3, none⟩ = some (.int .i64 xi) := Mem.cell m9.X rfl; have cX4_9 : w9.cell? ⟨wr.heap.size, 4, none⟩ = some (.int .i64 xt) := Mem.cell m9.X rfl; have cX5_9 : w9.cell? ⟨wr.heap.size, 5, none⟩ = some (.int .i64 xm) := Mem.cell m9.X rfl; have cX6_9 : w9.cell? ⟨wr.heap.size, 6, none⟩ = some (.string xs) := Mem.cell m9.X rfl)
                | (go_at_call 13; refine (m9.loads CK.out.1.up CK.out.2.2.1 CK.out.2.2.2).mono ?_; rintro _ w10 ⟨rfl, m10⟩))
              go_roundw
              case rel => exact ⟨j + 1, d6, ⟨va, vb⟩, ⟨sa, sb, sm, st⟩, is, hlt, by omega, rfl, by go_num, m10.rnd (by omega) CK.out.1 CK.out.2.1 CK.out.2.2.1 CK.out.2.2.2 h01⟩
              case measure => first | exact measF hlt | (rw [hkw]; exact measF hlt)
          · have hrm' : ¬ (j : Int) < (rs.length : Int) := by omega
            have hrm2 : (rs.length : Int) ≤ (j : Int) := by omega
            have CK0 : Shf.Calm { d with room := max (-1) (-1) } ∧ Bare ({ d with room := max (-1) (-1) } : Dk).now ∧ VoteIn ({ d with room := max (-1) (-1) } : Dk).now ⟨va, vb⟩ ∧ SnapIn ({ d with room := max (-1) (-1) } : Dk).now ⟨sa, sb, sm, st⟩ is := ⟨HX.out.calm.room _, HX.out.bare, HX.out.hv, HX.out.hs⟩
            have hneg : ({ d with room := max (-1) (-1) } : Dk).room < 0 := by show max (-1 : Int) (-1) < 0; decide
            generalize ({ d with room := max (-1) (-1) } : Dk) = d6 at m5 CK0 hneg
            have CK := Lib.hid CK0
            clear CK0
            have m6 := m5
            refine Lib.hid ?_
            have cV0_6 : w5.cell? ⟨w1.heap.size, 0, none⟩ = some (.int .i64 va) := Mem.cell m6.V rfl; have cV1_6 : w5.cell? ⟨w1.heap.size, 1, none⟩ = some (.int .i64 vb) := Mem.cell m6.V rfl; have cS0_6 : w5.cell? ⟨w1.heap.size + 1, 0, none⟩ = some (.int .i64 sa) := Mem.cell m6.S rfl; have cS1_6 : w5.cell? ⟨w1.heap.size + 1, 1, none⟩ = some (.int .i64 sb) := Mem.cell m6.S rfl; have cS2_6 : w5.cell? ⟨w1.heap.size + 1, 2, none⟩ = some (.int .i64 sm) := Mem.cell m6.S rfl; have cS3_6 : w5.cell? ⟨w1.heap.size + 1, 3, none⟩ = some (.string st) := Mem.cell m6.S rfl; have cX0_6 : w5.cell? ⟨wr.heap.size, 0, none⟩ = some (.bool xb) := Mem.cell m6.X rfl; have cX1_6 : w5.cell? ⟨wr.heap.size, 1, none⟩ = some (.int .i64 xa) := Mem.cell m6.X rfl; have cX2_6 : w5.cell? ⟨wr.heap.size, 2, none⟩ = some (.int .i64 xf) := Mem.cell m6.X rfl; have cX3_6 : w5.cell? ⟨wr.heap.size, 3, none⟩ = some (.int .i64 xi) := Mem.cell m6.X rfl; have cX4_6 : w5.cell? ⟨wr.heap.size, 4, none⟩ = some (.int .i64 xt) := Mem.cell m6.X rfl; have cX5_6 : w5.cell? ⟨wr.heap.size, 5, none⟩ = some (.int .i64 xm) := Mem.cell m6.X rfl; have cX6_6 : w5.cell? ⟨wr.heap.size, 6, none⟩ = some (.string xs) := Mem.cell m6.X rfl
            by_cases hx : Sv.ok ⟨xb, ⟨xa, xf⟩, ⟨xi, xt, xm, xs⟩⟩
            · have hsv := m6.save hi' hx CK.out.1 CK.out.2.1 (by omega) h01 hz
              have hst := step_full CK.out.1 CK.out.2.1 CK.out.2.2.1 CK.out.2.2.2 hi' hx
              generalize Sv.full ⟨xb, ⟨xa, xf⟩, ⟨xi, xt, xm, xs⟩⟩ d6 = d7 at hsv hst
              have CN := Lib.hid hst
              clear hst hx
              unfold Sv.val at hsv
              dsimp only at hsv
              go_wp2_with (go_at_call 8; refine hsv.mono ?_; rintro _ w7 ⟨e7, rfl, h7⟩; refine Hid.out ?_)
              rcases h7 with ⟨rfl, m7⟩ | ⟨rfl, hr7, m7⟩
              · cases xb
                · simp only [Bool.false_eq_true, reduceIte] at CN
                  have cV0_7 : w7.cell? ⟨w1.heap.size, 0, none⟩ = some (.int .i64 va) := Mem.cell m7.V rfl; have cV1_7 : w7.cell? ⟨w1.heap.size, 1, none⟩ = some (.int .i64 vb) := Mem.cell m7.V rfl; have cS0_7 : w7.cell? ⟨w1.heap.size + 1, 0, none⟩ = some (.int .i64 sa) := Mem.cell m7.S rfl; have cS1_7 : w7.cell? ⟨w1.heap.size + 1, 1, none⟩ = some (.int .i64 sb) := Mem.cell m7.S rfl; have cS2_7 : w7.cell? ⟨w1.heap.size + 1, 2, none⟩ = some (.int .i64 sm) := Mem.cell m7.S rfl; have cS3_7 : w7.cell? ⟨w1.heap.size + 1, 3, none⟩ = some (.string st) := Mem.cell m7.S rfl; have cX0_7 : w7.cell? ⟨wr.heap.size, 0, none⟩ = some (.bool false) := Mem.cell m7.X rfl; have cX1_7 : w7.cell? ⟨wr.heap.size, 1, none⟩ = some (.int .i64 xa) := Mem.cell m7.X rfl; have cX2_7 : w7.cell? ⟨wr.heap.size, 2, none⟩ = some (.int .i64 xf) := Mem.cell m7.X rfl; have cX3_7 : w7.cell? ⟨wr.heap.size, 3, none⟩ = some (.int .i64 xi) := Mem.cell m7.X rfl; have cX4_7 : w7.cell? ⟨wr.heap.size, 4, none⟩ = some (.int .i64 xt) := Mem.cell m7.X rfl; have cX5_7 : w7.cell? ⟨wr.heap.size, 5, none⟩ = some (.int .i64 xm) := Mem.cell m7.X rfl; have cX6_7 : w7.cell? ⟨wr.heap.size, 6, none⟩ = some (.string xs) := Mem.cell m7.X rfl
                  have fV0 : w7.frozen? ⟨w1.heap.size, 0, none⟩ = false := Mem.free m7.V; have fV1 : w7.frozen? ⟨w1.heap.size, 1, none⟩ = false := Mem.free m7.V; have fS0 : w7.frozen? ⟨w1.heap.size + 1, 0, none⟩ = false := Mem.free m7.S; have fS1 : w7.frozen? ⟨w1.heap.size + 1, 1, none⟩ = false := Mem.free m7.S; have fS2 : w7.frozen? ⟨w1.heap.size + 1, 2, none⟩ = false := Mem.free m7.S; have fS3 : w7.frozen? ⟨w1.heap.size + 1, 3, none⟩ = false := Mem.free m7.S
                  have hw7 := m7.waits CN.out.1.up CN.out.1.still.row
                  refine Lib.hid ?_
                  go_wp2_with (first
                    | (go_at_call 17; refine hw7.mono ?_; rintro _ _ ⟨rfl, rfl⟩)
                    | (go_at_call 18; have _t := tokA; refine ((m7.setV (v' := ⟨xa, xf⟩) h01 hz).noNew CN.out.1.up (f := voteK) (by decide) (by decide +kernel) CN.out.2.1.v).mono ?_; rintro _ w8 ⟨⟨x8, rfl⟩, m8⟩; clear tokA)
                    | (go_at_call 18; refine (m8.noNew CN.out.1.up (f := snapK) (by decide) (by decide +kernel) CN.out.2.1.s).mono ?_; rintro _ w9 ⟨⟨x9, rfl⟩, m9⟩; have cV0_9 : w9.cell? ⟨w1.heap.size, 0, none⟩ = some (.int .i64 xa) := Mem.cell m9.V rfl; have cV1_9 : w9.cell? ⟨w1.heap.size, 1, none⟩ = some (.int .i64 xf) := Mem.cell m9.V rfl; have cS0_9 : w9.cell? ⟨w1.heap.size + 1, 0, none⟩ = some (.int .i64 sa) := Mem.cell m9.S rfl; have cS1_9 : w9.cell? ⟨w1.heap.size + 1, 1, none⟩ = some (.int .i64 sb) := Mem.cell m9.S rfl; have cS2_9 : w9.cell? ⟨w1.heap.size + 1, 2, none⟩ = some (.int .i64 sm) := Mem.cell m9.S rfl; have cS3_9 : w9.cell? ⟨w1.heap.size + 1, 3, none⟩ = some (.string st) := Mem.cell m9.S rfl; have cX0_9 : w9.cell? ⟨wr.heap.size, 0, none⟩ = some (.bool false) := Mem.cell m9.X rfl; have cX1_9 : w9.cell? ⟨wr.heap.size, 1, none⟩ = some (.int .i64 xa) := Mem.cell m9.X rfl; have cX2_9 : w9.cell? ⟨wr.heap.size, 2, none⟩ = some (.int .i64 xf) := Mem.cell m9.X rfl; have cX3_9 : w9.cell? ⟨wr.heap.size, 3, none⟩ = some (.int .i64 xi) := Mem.cell m9.X rfl; have cX4_9 : w9.cell? ⟨wr.heap.size, 4, none⟩ = some (.int .i64 xt) := Mem.cell m9.X rfl; have cX5_9 : w9.cell? ⟨wr.heap.size, 5, none⟩ = some (.int .i64 xm) := Mem.cell m9.X rfl; have cX6_9 : w9.cell? ⟨wr.heap.size, 6, none⟩ = some (.string xs) := Mem.cell m9.X rfl)
                    | (go_at_call 13; refine (m9.loads CN.out.1.up CN.out.2.2.1 CN.out.2.2.2).mono ?_; rintro _ w10 ⟨rfl, m10⟩))
                  go_roundw
                  case rel => exact ⟨j + 1, d7, ⟨xa, xf⟩, ⟨sa, sb, sm, st⟩, is, hlt, by omega, rfl, by go_num, m10.rnd (by omega) CN.out.1 CN.out.2.1 CN.out.2.2.1 CN.out.2.2.2 h01⟩
                  case measure => first | exact measF hlt | (rw [hkw]; exact measF hlt)
                · simp only [Bool.false_eq_true, reduceIte] at CN
                  have cV0_7 : w7.cell? ⟨w1.heap.size, 0, none⟩ = some (.int .i64 va) := Mem.cell m7.V rfl; have cV1_7 : w7.cell? ⟨w1.heap.size, 1, none⟩ = some (.int .i64 vb) := Mem.cell m7.V rfl; have cS0_7 : w7.cell? ⟨w1.heap.size + 1, 0, none⟩ = some (.int .i64 sa) := Mem.cell m7.S rfl; have cS1_7 : w7.cell? ⟨w1.heap.size + 1, 1, none⟩ = some (.int .i64 sb) := Mem.cell m7.S rfl; have cS2_7 : w7.cell? ⟨w1.heap.size + 1, 2, none⟩ = some (.int .i64 sm) := Mem.cell m7.S rfl; have cS3_7 : w7.cell? ⟨w1.heap.size + 1, 3, none⟩ = some (.string st) := Mem.cell m7.S rfl; have cX0_7 : w7.cell? ⟨wr.heap.size, 0, none⟩ = some (.bool true) := Mem.cell m7.X rfl; have cX1_7 : w7.cell? ⟨wr.heap.size, 1, none⟩ = some (.int .i64 xa) := Mem.cell m7.X rfl; have cX2_7 : w7.cell? ⟨wr.heap.size, 2, none⟩ = some (.int .i64 xf) := Mem.cell m7.X rfl; have cX3_7 : w7.cell? ⟨wr.heap.size, 3, none⟩ = some (.int .i64 xi) := Mem.cell m7.X rfl; have cX4_7 : w7.cell? ⟨wr.heap.size, 4, none⟩ = some (.int .i64 xt) := Mem.cell m7.X rfl; have cX5_7 : w7.cell? ⟨wr.heap.size, 5, none⟩ = some (.int .i64 xm) := Mem.cell m7.X rfl; have cX6_7 : w7.cell? ⟨wr.heap.size, 6, none⟩ = some (.string xs) := Mem.cell m7.X rfl
                  have fV0 : w7.frozen? ⟨w1.heap.size, 0, none⟩ = false := Mem.free m7.V; have fV1 : w7.frozen? ⟨w1.heap.size, 1, none⟩ = false := Mem.free m7.V; have fS0 : w7.frozen? ⟨w1.heap.size + 1, 0, none⟩ = false := Mem.free m7.S; have fS1 : w7.frozen? ⟨w1.heap.size + 1, 1, none⟩ = false := Mem.free m7.S; have fS2 : w7.frozen? ⟨w1.heap.size + 1, 2, none⟩ = false := Mem.free m7.S; have fS3 : w7.frozen? ⟨w1.heap.size + 1, 3, none⟩ = false := Mem.free m7.S
                  have hw7 := m7.waits CN.out.1.up CN.out.1.still.row
                  refine Lib.hid ?_
                  go_wp2_with (first
                    | (go_at_call 17; refine hw7.mono ?_; rintro _ _ ⟨rfl, rfl⟩)
                    | (go_at_call 18; have _t := tokA; refine ((m7.setS (s' := ⟨xi, xt, xm, xs⟩) h01 hz).noNew CN.out.1.up (f := voteK) (by decide) (by decide +kernel) CN.out.2.1.v).mono ?_; rintro _ w8 ⟨⟨x8, rfl⟩, m8⟩; clear tokA)
                    | (go_at_call 18; refine (m8.noNew CN.out.1.up (f := snapK) (by decide) (by decide +kernel) CN.out.2.1.s).mono ?_; rintro _ w9 ⟨⟨x9, rfl⟩, m9⟩; have cV0_9 : w9.cell? ⟨w1.heap.size, 0, none⟩ = some (.int .i64 va) := Mem.cell m9.V rfl; have cV1_9 : w9.cell? ⟨w1.heap.size, 1, none⟩ = some (.int .i64 vb) := Mem.cell m9.V rfl; have cS0_9 : w9.cell? ⟨w1.heap.size + 1, 0, none⟩ = some (.int .i64 xi) := Mem.cell m9.S rfl; have cS1_9 : w9.cell? ⟨w1.heap.size + 1, 1, none⟩ = some (.int .i64 xt) := Mem.cell m9.S rfl; have cS2_9 : w9.cell? ⟨w1.heap.size + 1, 2, none⟩ = some (.int .i64 xm) := Mem.cell m9.S rfl; have cS3_9 : w9.cell? ⟨w1.heap.size + 1, 3, none⟩ = some (.string xs) := Mem.cell m9.S rfl; have cX0_9 : w9.cell? ⟨wr.heap.size, 0, none⟩ = some (.bool true) := Mem.cell m9.X rfl; have cX1_9 : w9.cell? ⟨wr.heap.size, 1, none⟩ = some (.int .i64 xa) := Mem.cell m9.X rfl; have cX2_9 : w9.cell? ⟨wr.heap.size, 2, none⟩ = some (.int .i64 xf) := Mem.cell m9.X rfl; have cX3_9 : w9.cell? ⟨wr.heap.size, 3, none⟩ = some (.int .i64 xi) := Mem.cell m9.X rfl; have cX4_9 : w9.cell? ⟨wr.heap.size, 4, none⟩ = some (.int .i64 xt) := Mem.cell m9.X rfl; have cX5_9 : w9.cell? ⟨wr.heap.size, 5, none⟩ = some (.int .i64 xm) := Mem.cell m9.X rfl; have cX6_9 : w9.cell? ⟨wr.heap.size, 6, none⟩ = some (.string xs) := Mem.cell m9.X rfl)
                    | (go_at_call 13; refine (m9.loads CN.out.1.up CN.out.2.2.1 CN.out.2.2.2).mono ?_; rintro _ w10 ⟨rfl, m10⟩))
                  go_roundw
                  case rel => exact ⟨j + 1, d7, ⟨va, vb⟩, ⟨xi, xt, xm, xs⟩, true, hlt, by omega, rfl, by go_num, m10.rnd (by omega) CN.out.1 CN.out.2.1 CN.out.2.2.1 CN.out.2.2.2 h01⟩
                  case measure => first | exact measF hlt | (rw [hkw]; exact measF hlt)
              · exact absurd hr7 (by omega)
            · have hsb := m6.saveBad hi' hx
              clear hx
              unfold Sv.val at hsb
              dsimp only at hsb
              go_wp2_with (go_at_call 8; refine hsb.mono ?_; rintro _ w7 ⟨rfl, m7⟩; refine Hid.out ?_)
              have cV0_7 : w7.cell? ⟨w1.heap.size, 0, none⟩ = some (.int .i64 va) := Mem.cell m7.V rfl; have cV1_7 : w7.cell? ⟨w1.heap.size, 1, none⟩ = some (.int .i64 vb) := Mem.cell m7.V rfl; have cS0_7 : w7.cell? ⟨w1.heap.size + 1, 0, none⟩ = some (.int .i64 sa) := Mem.cell m7.S rfl; have cS1_7 : w7.cell? ⟨w1.heap.size + 1, 1, none⟩ = some (.int .i64 sb) := Mem.cell m7.S rfl; have cS2_7 : w7.cell? ⟨w1.heap.size + 1, 2, none⟩ = some (.int .i64 sm) := Mem.cell m7.S rfl; have cS3_7 : w7.cell? ⟨w1.heap.size + 1, 3, none⟩ = some (.string st) := Mem.cell m7.S rfl; have cX0_7 : w7.cell? ⟨wr.heap.size, 0, none⟩ = some (.bool xb) := Mem.cell m7.X rfl; have cX1_7 : w7.cell? ⟨wr.heap.size, 1, none⟩ = some (.int .i64 xa) := Mem.cell m7.X rfl; have cX2_7 : w7.cell? ⟨wr.heap.size, 2, none⟩ = some (.int .i64 xf) := Mem.cell m7.X rfl; have cX3_7 : w7.cell? ⟨wr.heap.size, 3, none⟩ = some (.int .i64 xi) := Mem.cell m7.X rfl; have cX4_7 : w7.cell? ⟨wr.heap.size, 4, none⟩ = some (.int .i64 xt) := Mem.cell m7.X rfl; have cX5_7 : w7.cell? ⟨wr.heap.size, 5, none⟩ = some (.int .i64 xm) := Mem.cell m7.X rfl; have cX6_7 : w7.cell? ⟨wr.heap.size, 6, none⟩ = some (.string xs) := Mem.cell m7.X rfl
              have hw7 := m7.waits CK.out.1.up CK.out.1.still.row
              refine Lib.hid ?_
              go_wp2_with (first
                | (go_at_call 17; refine hw7.mono ?_; rintro _ _ ⟨rfl, rfl⟩)
                | (go_at_call 18; have _t := tokA; refine (m7.noNew CK.out.1.up (f := voteK) (by decide) (by decide +kernel) CK.out.2.1.v).mono ?_; rintro _ w8 ⟨⟨x8, rfl⟩, m8⟩; clear tokA)
                | (go_at_call 18; refine (m8.noNew CK.out.1.up (f := snapK) (by decide) (by decide +kernel) CK.out.2.1.s).mono ?_; rintro _ w9 ⟨⟨x9, rfl⟩, m9⟩; have cV0_9 : w9.cell? ⟨w1.heap.size, 0, none⟩ = some (.int .i64 va) := Mem.cell m9.V rfl; have cV1_9 : w9.cell? ⟨w1.heap.size, 1, none⟩ = some (.int .i64 vb) := Mem.cell m9.V rfl; have cS0_9 : w9.cell? ⟨w1.heap.size + 1, 0, none⟩ = some (.int .i64 sa) := Mem.cell m9.S rfl; have cS1_9 : w9.cell? ⟨w1.heap.size + 1, 1, none⟩ = some (.int .i64 sb) := Mem.cell m9.S rfl; have cS2_9 : w9.cell? ⟨w1.heap.size + 1, 2, none⟩ = some (.int .i64 sm) := Mem.cell m9.S rfl; have cS3_9 : w9.cell? ⟨w1.heap.size + 1, 3, none⟩ = some (.string st) := Mem.cell m9.S rfl; have cX0_9 : w9.cell? ⟨wr.heap.size, 0, none⟩ = some (.bool xb) := Mem.cell m9.X rfl; have cX1_9 : w9.cell? ⟨wr.heap.size, 1, none⟩ = some (.int .i64 xa) := Mem.cell m9.X rfl; have cX2_9 : w9.cell? ⟨wr.heap.size, 2, none⟩ = some (.int .i64 xf) := Mem.cell m9.X rfl; have cX3_9 : w9.cell? ⟨wr.heap.size, 3, none⟩ = some (.int .i64 xi) := Mem.cell m9.X rfl; have cX4_9 : w9.cell? ⟨wr.heap.size, 4, none⟩ = some (.int .i64 xt) := Mem.cell m9.X rfl; have cX5_9 : w9.cell? ⟨wr.heap.size, 5, none⟩ = some (.int .i64 xm) := Mem.cell m9.X rfl; have cX6_9 : w9.cell? ⟨wr.heap.size, 6, none⟩ = some (.string xs) := Mem.cell m9.X rfl)
                | (go_at_call 13; refine (m9.loads CK.out.1.up CK.out.2.2.1 CK.out.2.2.2).mono ?_; rintro _ w10 ⟨rfl, m10⟩))
              go_roundw
              case rel => exact ⟨j + 1, d6, ⟨va, vb⟩, ⟨sa, sb, sm, st⟩, is, hlt, by omega, rfl, by go_num, m10.rnd (by omega) CK.out.1 CK.out.2.1 CK.out.2.2.1 CK.out.2.2.2 h01⟩
              case measure => first | exact measF hlt | (rw [hkw]; exact measF hlt)
      · have h12' : ¬ (j : Int) < 12 := by omega
        go_wp2_with fail
        go_ret
        exact ⟨rfl, hr.bel⟩
    · have hge : ¬ (j : Int) < (l.length : Int) := by omega
      go_wp2_with fail
      go_ret
      exact ⟨rfl, hr.bel⟩
end Go.Proofs.YtbpnhaeladcbnaaDoor
