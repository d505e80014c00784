/- What a saving leaves of the files, wherever the power fails: plain. -/
import Derived.Test.YtbpnhaeladcbnaaDoorShl13
namespace Go.Proofs.YtbpnhaeladcbnaaDoor
open Go.RowKit
set_option linter.unusedSimpArgs false
set_option linter.unusedVariables false
open Sp (bs)
open Dsk (DiskAt Dk Gr nameP Chg FM fallen play Valid splice)
namespace Shf
theorem splice_new (pk : ByteArray) : splice ⟨#[]⟩ pk 0 = pk := by
  unfold splice
  rw [if_neg (by rw [Nat.zero_add]; show ¬ pk.size < 0; omega)]
  apply ByteArray.ext
  simp
/-- The files F are those of F0 but for f, which is as it was or pk, and for g, whatever it is. -/
structure Near (F0 F : FM) (f g pk : ByteArray) : Prop where
  one : F f = F0 f ∨ F f = some pk
  rest : ∀ x, x ≠ f → x ≠ g → F x = F0 x
theorem Near.refl (F : FM) (f g pk : ByteArray) : Near F F f g pk := ⟨.inl rfl, fun _ _ _ => rfl⟩
theorem Near.set {F0 F : FM} {f g pk x : ByteArray} (h : Near F0 F f g pk) (hfg : f ≠ g) : Near F0 (F.set g x) f g pk :=
  ⟨by rw [FM.set_other F x hfg]; exact h.one, fun y h1 h2 => by rw [FM.set_other F x h2]; exact h.rest y h1 h2⟩
theorem Near.del {F0 F : FM} {f g pk : ByteArray} (h : Near F0 F f g pk) (hfg : f ≠ g) : Near F0 (F.del g) f g pk :=
  ⟨by rw [FM.del_other F hfg]; exact h.one, fun y h1 h2 => by rw [FM.del_other F h2]; exact h.rest y h1 h2⟩
theorem put_does {F : FM} {g pk : ByteArray} (h : F g = none) : (Chg.put g pk 0).does F = F.set g pk := by
  show F.set g (splice (F.get g) pk 0) = F.set g pk
  have e : F.get g = ⟨#[]⟩ := by unfold FM.get; rw [h]; rfl
  rw [e, splice_new]
theorem move_does {F : FM} {f g pk : ByteArray} : (Chg.move g f).does (F.set g pk) = ((F.set g pk).del g).set f pk := by
  show ((F.set g pk).del g).set f ((F.set g pk).get g) = _
  rw [FM.get_set_same]
theorem Near.move {F0 F : FM} {f g pk : ByteArray} (h : Near F0 F f g pk) (hfg : f ≠ g) : Near F0 (((F.set g pk).del g).set f pk) f g pk :=
  ⟨.inr (FM.set_same _ _ _), fun y h1 h2 => by rw [FM.set_other _ _ h1, FM.del_other _ h2, FM.set_other _ _ h2]; exact h.rest y h1 h2⟩
theorem fall_nil {F0 F : FM} {f g pk : ByteArray} (h : Near F0 F f g pk) (k : Int) : Near F0 (fallen F [] k) f g pk := by
  unfold fallen
  exact h
theorem fall_move {F0 F : FM} {f g pk : ByteArray} (h : Near F0 F f g pk) (hfg : f ≠ g) (k : Int) : Near F0 (fallen (F.set g pk) [.move g f] k) f g pk := by
  by_cases hk : ((Chg.move g f).cost : Int) ≤ k
  · rw [Dsk.fallen_le hk, move_does]
    exact fall_nil (h.move hfg) _
  · rw [Dsk.fallen_other (by intro _ _ _ e; cases e) hk]
    exact h.set hfg
theorem fall_put {F0 F : FM} {f g pk : ByteArray} (h : Near F0 F f g pk) (hfg : f ≠ g) (hn : F g = none) (l : List Chg) (hl : l = [] ∨ l = [.move g f]) (k : Int) : Near F0 (fallen F (.put g pk 0 :: l) k) f g pk := by
  by_cases hk : ((Chg.put g pk 0).cost : Int) ≤ k
  · rw [Dsk.fallen_le hk, put_does hn]
    rcases hl with rfl | rfl
    · exact fall_nil (h.set hfg) _
    · exact fall_move h hfg _
  · rw [Dsk.fallen_put (by simpa [Chg.cost] using hk)]
    split
    · rw [put_does hn]
      exact h.set hfg
    · exact h
theorem fall_drop {F0 F : FM} {f g pk : ByteArray} (h : Near F0 F f g pk) (hfg : f ≠ g) (l : List Chg) (hl : l = [] ∨ l = [.put g pk 0] ∨ l = [.put g pk 0, .move g f]) (k : Int) : Near F0 (fallen F (.drop g :: l) k) f g pk := by
  have hd : (F.del g) g = none := by unfold FM.del; rw [if_pos rfl]
  by_cases hk : ((Chg.drop g).cost : Int) ≤ k
  · rw [Dsk.fallen_le hk]
    show Near F0 (fallen (F.del g) l _) f g pk
    rcases hl with rfl | rfl | rfl
    · exact fall_nil (h.del hfg) _
    · exact fall_put (h.del hfg) hfg hd [] (.inl rfl) _
    · exact fall_put (h.del hfg) hfg hd _ (.inr rfl) _
  · rw [Dsk.fallen_other (by intro _ _ _ e; cases e) hk]
    exact h
/-- Nothing waits. -/
structure Still (d : Dk) : Prop where
  row : d.row = []
  same : d.sure = d.now
/-- What a saving leaves. -/
def Out (d : Dk) (f g pk : ByteArray) (R : Int × Dk) : Prop :=
  Still R.2 ∧ Dk.Inv R.2 ∧ R.2.room = d.room ∧ ((R.1 = 0 ∧ R.2.down = false ∧ R.2.now f = some pk ∧ ∀ x, x ≠ f → x ≠ g → R.2.now x = d.now x) ∨ (R.1 = 8 ∧ R.2.down = true ∧ Near d.now R.2.now f g pk))
theorem lay_trip {x : Dk} {c : Chg} (h : (x.lay c).1 ≠ 0) : x.lay c = (8, (x.push c).fail x.keep) := by
  unfold Dk.lay at h ⊢
  split
  · rfl
  · rename_i ht; rw [if_neg ht] at h; exact absurd rfl h
theorem out_fail {d y : Dk} {f g pk : ByteArray} {k : Int} (hi : Dk.Inv y) (hu : y.down = false) (hr : y.room = d.room) (hN : Near d.now (fallen y.sure y.row k) f g pk) : Out d f g pk (8, y.fail k) := by
  have e : y.fail k = { y with sure := fallen y.sure y.row k, now := fallen y.sure y.row k, row := [], down := true, after := 0 } := by unfold Dk.fail; rw [if_neg (by rw [hu]; decide)]
  refine ⟨?_, hi.fail k, ?_, .inr ⟨rfl, ?_, ?_⟩⟩
  · rw [e]; exact ⟨rfl, rfl⟩
  · rw [e]; exact hr
  · rw [e]
  · rw [e]; exact hN
theorem tail_out {d x : Dk} {f pk : ByteArray} (hu : Up x) (hr : x.room = d.room) (hsure : x.sure = d.now)
    (hfall : ∀ l k, (l = [Chg.put (f ++ newK) pk 0] ∨ l = [Chg.put (f ++ newK) pk 0, .move (f ++ newK) f]) → Near d.now (fallen d.now (x.row ++ l) k) f (f ++ newK) pk)
    (hg : x.now (f ++ newK) = none) (hrest : ∀ y, y ≠ f ++ newK → x.now y = d.now y) (hok : (Chg.put (f ++ newK) pk 0).ok x.now) (hfs : f.size ≤ 1000) (hfg : f ≠ f ++ newK) : Out d f (f ++ newK) pk (tailD x f pk) := by
  have hp := hu.push hok
  have hmo : (Chg.move (f ++ newK) f).ok (x.push (.put (f ++ newK) pk 0)).now := ⟨new_size hfs, by unfold maxLen; omega⟩
  have hm := hp.push hmo
  unfold tailD
  by_cases h1 : (x.lay (.put (f ++ newK) pk 0)).1 ≠ 0
  · rw [if_pos h1, lay_trip h1]
    refine out_fail hp.inv hp.up hr ?_
    show Near d.now (fallen x.sure (x.row ++ [Chg.put (f ++ newK) pk 0]) _) f (f ++ newK) pk
    rw [hsure]
    exact hfall _ _ (.inl rfl)
  · rw [if_neg h1]
    have hnm : ∀ k, Near d.now (fallen d.now (x.row ++ [Chg.put (f ++ newK) pk 0] ++ [Chg.move (f ++ newK) f]) k) f (f ++ newK) pk := fun k => by
      rw [List.append_assoc]
      exact hfall _ k (.inr rfl)
    by_cases h2 : ((x.push (.put (f ++ newK) pk 0)).lay (.move (f ++ newK) f)).1 ≠ 0
    · rw [if_pos h2, lay_trip h2]
      refine out_fail hm.inv hm.up hr ?_
      show Near d.now (fallen x.sure (x.row ++ [Chg.put (f ++ newK) pk 0] ++ [Chg.move (f ++ newK) f]) _) f (f ++ newK) pk
      rw [hsure]
      exact hnm _
    · rw [if_neg h2]
      generalize hy : (x.push (.put (f ++ newK) pk 0)).push (.move (f ++ newK) f) = y at hm
      have hyr : y.room = d.room := by rw [← hy]; exact hr
      have hys : y.sure = d.now := by rw [← hy]; exact hsure
      have hyw : y.row = x.row ++ [Chg.put (f ++ newK) pk 0] ++ [Chg.move (f ++ newK) f] := by rw [← hy]; rfl
      have hyn : y.now = ((x.now.set (f ++ newK) pk).del (f ++ newK)).set f pk := by
        rw [← hy]
        show (Chg.move (f ++ newK) f).does ((Chg.put (f ++ newK) pk 0).does x.now) = _
        rw [put_does hg, move_does]
      unfold Dk.sync
      rw [if_neg (by rw [hm.up]; decide)]
      split
      · refine out_fail (d := d) (y := y.counted) hm.inv.counted hm.up hyr ?_
        show Near d.now (fallen y.sure y.row _) f (f ++ newK) pk
        rw [hys, hyw]
        exact hnm _
      · rename_i ht
        have hsy : y.sync = (0, { y.counted with sure := y.now, row := [] }) := by unfold Dk.sync; rw [if_neg (by rw [hm.up]; decide), if_neg ht]
        have hinv := hm.inv.sync
        rw [hsy] at hinv
        refine ⟨⟨rfl, rfl⟩, hinv, hyr, .inl ⟨rfl, hm.up, ?_, fun z hz1 hz2 => ?_⟩⟩
        · show y.now f = some pk
          rw [hyn]; exact FM.set_same _ _ _
        · show y.now z = d.now z
          rw [hyn, FM.set_other _ _ hz1, FM.del_other _ hz2, FM.set_other _ _ hz2]
          exact hrest z hz2
theorem save_out {d : Dk} {f pk : ByteArray} (hu : Up d) (hs : Still d) (hn : nameP (f ++ newK) = true) (hpk : pk.size ≤ 4194304) (hfs : f.size ≤ 1000) (hfg : f ≠ f ++ newK) : Out d f (f ++ newK) pk (saveD d f pk) := by
  unfold saveD
  by_cases h0 : d.there (f ++ newK) = 0
  · rw [if_pos h0]
    have hdo : (Chg.drop (f ++ newK)).ok d.now := new_size hfs
    have hx := hu.push hdo
    by_cases h1 : (d.lay (.drop (f ++ newK))).1 ≠ 0
    · rw [if_pos h1, lay_trip h1]
      refine out_fail hx.inv hx.up rfl ?_
      show Near d.now (fallen d.sure (d.row ++ [Chg.drop (f ++ newK)]) _) f (f ++ newK) pk
      rw [hs.row, hs.same]
      exact fall_drop (Near.refl _ _ _ _) hfg [] (.inl rfl) _
    · rw [if_neg h1]
      refine tail_out hx rfl hs.same (fun l k hl => ?_) ?_ (fun y hy => ?_) ⟨new_size hfs, Nat.zero_le _, by omega⟩ hfs hfg
      · show Near d.now (fallen d.now ((d.row ++ [Chg.drop (f ++ newK)]) ++ l) k) f (f ++ newK) pk
        rw [hs.row]
        exact fall_drop (Near.refl _ _ _ _) hfg l (.inr hl) k
      · show (FM.del d.now (f ++ newK)) (f ++ newK) = none
        unfold FM.del
        rw [if_pos rfl]
      · exact FM.del_other _ hy
  · rw [if_neg h0]
    have hg : d.now (f ++ newK) = none := by
      unfold Dk.there at h0
      rw [if_neg (by rw [hu.up]; decide), if_pos hn] at h0
      cases hh : d.now (f ++ newK) with
      | none => rfl
      | some y => rw [hh] at h0; exact absurd rfl h0
    refine tail_out hu rfl hs.same (fun l k hl => ?_) hg (fun y _ => rfl) ⟨new_size hfs, Nat.zero_le _, by omega⟩ hfs hfg
    rw [hs.row]
    rcases hl with rfl | rfl
    · exact fall_put (Near.refl _ _ _ _) hfg hg [] (.inl rfl) k
    · exact fall_put (Near.refl _ _ _ _) hfg hg _ (.inr rfl) k
end Shf
end Go.Proofs.YtbpnhaeladcbnaaDoor
