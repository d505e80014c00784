/- shelf: the law's example: awake. -/
import Derived.Test.YtbpnhaeladcbnaaDoorShl6
namespace Go.Proofs.YtbpnhaeladcbnaaDoor
open Go.RowKit
set_option linter.unusedSimpArgs false
set_option linter.unusedVariables false
open Sp (bs)
open Dsk (DiskAt Dk Gr)
namespace Shf
def vn : ByteArray := voteK ++ newK
def v3 : Vt := ⟨3, 1⟩
def t3 : ByteArray := bs (Sp.num 3) ++ bs (Sp.intB 1)
def p3 : ByteArray := Crc.packB t3
def d1 : Dk := Dk.new.push (.put vn p3 0)
def d2 : Dk := d1.push (.move vn voteK)
def d3 : Dk := d2.sync.2
theorem text3 : v3.text = (t3, 0) := by unfold Vt.text; rw [if_pos (by decide)]; rfl
theorem size3 : t3.size ≤ 1048576 := by decide +kernel
theorem psize : p3.size ≤ 140737488351232 := by decide +kernel
theorem inv1 : Dk.Inv d1 := Dk.inv_new.push ⟨by decide +kernel, by decide +kernel, by decide +kernel⟩
theorem inv2 : Dk.Inv d2 := inv1.push ⟨by decide +kernel, by decide +kernel⟩
theorem there0v : Dk.new.there vn = 4 := by decide +kernel
theorem there0 : Dk.new.there voteK = 4 := by decide +kernel
theorem there0s : Dk.new.there snapK = 4 := by decide +kernel
theorem there1 : d1.there vn = 0 := by decide +kernel
theorem there3 : d3.there voteK = 0 := by decide +kernel
theorem get3 : d3.now.get voteK = p3 := by decide +kernel
theorem nbad : ¬ Dk.new.bad vn (0 : Nat) p3 := by
  unfold Dk.bad
  decide +kernel
theorem move1 : d1.move vn voteK = (0, d2) := by
  unfold Dk.move
  rw [if_neg (fun h => absurd h.2 (by decide +kernel)), if_neg (by rw [there1]; decide)]
  rfl
theorem unpack3 : Crc.unpackP p3 = (t3, ⟨#[]⟩, 0) := by decide +kernel
theorem read3 : (Vt.read t3).1.term = 3 ∧ (Vt.read t3).1.to = 1 ∧ (Vt.read t3).2 = 0 := by decide +kernel
end Shf
open Shf
set_option maxRecDepth 100000 in
set_option maxHeartbeats 4000000 in
theorem save_new (S : Nat → Prop) (p : Nat) (f : ByteArray) (hf : f = voteK) (w : World) (hS : ∀ k, w.heap.size ≤ k → S k) (h : DiskAt w S p 0 Dk.new) :
    Calls Tryd.prog 31 #[.pointer (some ⟨p, 0, none⟩), .string f, .string t3] w fun r w' => r = .returned (.int .i64 0) ∧ Mem.Ch S w w' ∧ DiskAt w' S p 3 d3 := by
  have hp := fun W => pack_any t3 W size3
  have hgr : ∀ {W w' : World}, w.heap.size ≤ W.heap.size → ∀ k, Gr S W w' k → S k := fun hW k hk => by
    rcases hk with hk | hk
    · exact hk
    · exact hS k (Nat.le_trans hW hk.1)
  have hrd : ∀ W, DiskAt W S p 0 Dk.new → Calls Tryd.prog 18 #[.pointer (some ⟨p, 0, none⟩), .string (f ++ ⟨#[46, 110, 101, 119]⟩)] W fun r w' => r = .returned (.tuple #[.string ⟨#[]⟩, .int .i64 4]) ∧ Below W.heap.size W w' := fun W hW => by
    subst hf
    have := Dsk.Read_any _ p 0 Dk.new vn W hW (by decide +kernel)
    rw [there0v] at this
    exact this
  have hpt : ∀ W, w.heap.size ≤ W.heap.size → DiskAt W S p 0 Dk.new → Calls Tryd.prog 49 #[.pointer (some ⟨p, 0, none⟩), .string (f ++ ⟨#[46, 110, 101, 119]⟩), .int .i64 0, .string (Crc.packB t3)] W fun r w' => r = .returned (.int .i64 0) ∧ Mem.Ch S W w' ∧ DiskAt w' S p 1 d1 := fun W hB hW => by
    subst hf
    refine (Dsk.Put_good _ p 0 Dk.new vn 0 p3 W hW Dk.inv_new rfl (by decide +kernel) nbad (by decide) (by decide)).mono ?_
    rintro _ w' ⟨rfl, h1, h2⟩
    exact ⟨rfl, h1, h2.mono (hgr hB)⟩
  have hmv : ∀ W, w.heap.size ≤ W.heap.size → DiskAt W S p 1 d1 → Calls Tryd.prog 51 #[.pointer (some ⟨p, 0, none⟩), .string (f ++ ⟨#[46, 110, 101, 119]⟩), .string f] W fun r w' => r = .returned (.int .i64 0) ∧ Mem.Ch S W w' ∧ DiskAt w' S p 2 d2 := fun W hB hW => by
    subst hf
    have := Dsk.Move_any _ p 1 d1 vn voteK W hW inv1 (by decide +kernel) (by decide +kernel) (by decide)
    rw [move1] at this
    refine this.mono ?_
    rintro _ w' ⟨rfl, h1, h2⟩
    exact ⟨rfl, h1, h2.mono (hgr hB)⟩
  have hsy : ∀ W, w.heap.size ≤ W.heap.size → DiskAt W S p 2 d2 → Calls Tryd.prog 50 #[.pointer (some ⟨p, 0, none⟩)] W fun r w' => r = .returned (.int .i64 0) ∧ Mem.Ch S W w' ∧ DiskAt w' S p 3 d3 := fun W hB hW => by
    refine (Dsk.Sync_any _ p 2 d2 W hW inv2 (by decide)).mono ?_
    rintro _ w' ⟨rfl, h1, h2⟩
    exact ⟨rfl, h1, h2.mono (hgr hB)⟩
  have hfz : f.size ≤ 4 := by rw [hf]; decide
  have H := Lib.hid h
  clear h hf
  go_enter Tryd.func31, Tryd.ntmps31
  go_wp2_with (first
    | (go_at_call 47; refine (hp _).mono ?_; rintro _ w2 ⟨rfl, hb2⟩; have h2 := H.out.below hb2; have b2 : Mem.Ch S w w2 := Mem.Ch.of_below' hb2)
    | (go_at_call 18; refine (hrd _ h2).mono ?_; rintro _ w3 ⟨rfl, hb3⟩; have h3 := h2.below hb3; have b3 := b2.trans' (Mem.Ch.of_below' hb3))
    | (go_at_call 49; refine (hpt _ b3.size h3).mono ?_; rintro _ w4 ⟨rfl, hb4, h4⟩; have b4 := b3.trans' hb4)
    | (go_at_call 51; refine (hmv _ b4.size h4).mono ?_; rintro _ w5 ⟨rfl, hb5, h5⟩; have b5 := b4.trans' hb5)
    | (go_at_call 50; refine (hsy _ b5.size h5).mono ?_; rintro _ w6 ⟨rfl, hb6, h6⟩; have b6 := b5.trans' hb6))
  go_ret
  exact ⟨rfl, b6, h6⟩
theorem got_of {S : Nat → Prop} {p N : Nat} {d : Dk} {f x : ByteArray} {e : Int} {w : World} (h : DiskAt w S p N d) (hf : f.size ≤ maxLen) (hx : (if d.there f ≠ 0 then (⟨#[]⟩ : ByteArray) else d.now.get f) = x) (he : d.there f = e) : Got (.pointer (some ⟨p, 0, none⟩)) f x e w := by
  intro W hW
  have := Dsk.Read_any S p N d f W (h.below hW) hf
  rw [hx, he] at this
  exact this
theorem loadV_new {S : Nat → Prop} {p : Nat} {w : World} (h : DiskAt w S p 0 Dk.new) : Calls Tryd.prog 19 #[.pointer (some ⟨p, 0, none⟩)] w fun r w' => r = .returned (.tuple #[.agg #[.int .i64 0, .int .i64 (-1)], .int .i64 0]) ∧ Below w.heap.size w w' :=
  loadV_none _ w (load_bad _ _ 4 (by decide) w (got_of h (by decide) (by rw [if_pos]; decide +kernel) there0))
theorem loadS_new {S : Nat → Prop} {p : Nat} {w : World} (h : DiskAt w S p 0 Dk.new) : Calls Tryd.prog 20 #[.pointer (some ⟨p, 0, none⟩)] w fun r w' => r = .returned (.tuple #[.agg #[.int .i64 0, .int .i64 0, .int .i64 0, .string ⟨#[]⟩], .bool false, .int .i64 0]) ∧ Below w.heap.size w w' :=
  loadS_none _ w (load_bad _ _ 4 (by decide) w (got_of h (by decide) (by rw [if_pos]; decide +kernel) there0s))
theorem loadV_3 {S : Nat → Prop} {p : Nat} {w : World} (h : DiskAt w S p 3 d3) : Calls Tryd.prog 19 #[.pointer (some ⟨p, 0, none⟩)] w fun r w' => r = .returned (.tuple #[.agg #[.int .i64 3, .int .i64 1], .int .i64 0]) ∧ Below w.heap.size w w' := by
  have := loadV_ok (.pointer (some ⟨p, 0, none⟩)) w t3 (by decide +kernel) (load_good _ _ p3 t3 w (got_of h (by decide) (by rw [if_neg (by rw [show d3.there ⟨#[118, 111, 116, 101]⟩ = 0 from there3]; decide)]; exact get3) there3) psize unpack3)
  obtain ⟨e1, e2, e3⟩ := read3
  unfold Vt.val at this
  rw [e1, e2, e3] at this
  exact this
end Go.Proofs.YtbpnhaeladcbnaaDoor
