/- disk.Used: the bytes of all files. -/
import Derived.Test.YtpdceondgbgpkaaDoorDskU
import Derived.Test.YtpdceondgbgpkaaDoorDskNp
import Derived.Test.YtpdceondgbgpkaaDoorDskSm
namespace Go.Proofs.YtpdceondgbgpkaaDoor.Dsk
open Go.RowKit Go.Maps
set_option linter.unusedSimpArgs false
set_option linter.unusedVariables false
def sizes (F : FM) (ss : List (List UInt8)) : Nat := (ss.map (fun x => (F.get ⟨x.toArray⟩).size)).sum
theorem sizes_snoc (F : FM) (ss : List (List UInt8)) (x : List UInt8) : sizes F (ss ++ [x]) = sizes F ss + (F.get ⟨x.toArray⟩).size := by
  unfold sizes
  rw [List.map_append, List.sum_append]
  simp
theorem sum_of {w : World} {b n : Nat} {D : DataW Unit} {F : FM} (hown : w.ownsMap Tryd.prog 9 (plainElem Tryd.prog 9) b n D) (hF : Files D F) {ss : List (List UInt8)} (hp : ss.Perm (strKeys D)) : Sum F (sizes F ss) := by
  refine ⟨ss.map (fun x => ByteArray.mk x.toArray), ?_, fun s => ?_, ?_⟩
  · refine List.pairwise_map.2 ((hp.nodup_iff.2 (nodup_keys hown key_law Tryd.underlying9)).imp (fun {a b} hne e => hne ?_))
    exact congrArg (fun q : ByteArray => q.data.toList) e
  · rw [List.mem_map, ← hF.has, ← mem_keys hown Tryd.underlying9]
    constructor
    · rintro ⟨x, hx, rfl⟩
      exact hp.mem_iff.1 hx
    · intro hx
      exact ⟨s.data.toList, hp.mem_iff.2 hx, by apply ByteArray.ext; exact Array.ext' rfl⟩
  · unfold sizes
    rw [List.map_map]
    rfl
theorem wrap_add (a b : Int) : wrap64 (wrap64 a + b) = wrap64 (a + b) := by unfold wrap64; omega
set_option maxRecDepth 100000 in
set_option maxHeartbeats 4000000 in
theorem Used_up (S : Nat → Prop) (p N : Nat) (d : Dk) (u : Nat) (w : World) (h : DiskAt w S p N d) (hd : d.down = false) (hu : Sum d.now u) (hlu : u ≤ 9223372036854775807) :
    Calls Tryd.prog 16 #[.pointer (some ⟨p, 0, none⟩)] w fun r w' => r = .returned (.int .i64 (u : Int)) ∧ Below w.heap.size w w' := by
  obtain ⟨bs, bn, v, h⟩ := h
  have hr := ready_any S p N d bs bn v w h
  rw [hd, if_neg (by decide)] at hr
  have c1 := h.c1
  obtain ⟨D, hown, hF⟩ := h.now
  have hlt := hown.lt
  have HW := Lib.hid hown
  have HF := Lib.hid (And.intro hF (And.intro hu hlu))
  clear h hown hF hu hlu
  go_enter Tryd.func16, Tryd.ntmps16
  go_wp2_with (first
    | (go_at_call 25; refine hr.mono ?_; rintro _ w1 ⟨rfl, rfl⟩)
    | (at_range; refine wpList_range_own _ rfl _ _ rfl 9 9 key_law Tryd.underlying40 _ bn N D rfl HW.out ?_; intro w2 hrg hg2 hs2))
  go_frame
  go_loopw [3] (fun n wr => ∃ (x : Int) (ss : List (List UInt8)) (left : Lit → Bool) (cnt : Nat), n = .int .i64 x ∧ x = wrap64 (sizes d.now ss : Nat) ∧ Collected D left ss ∧ wr.ranges Tryd.prog 9 (plainElem Tryd.prog 9) bn w1.heap.size N D left cnt ∧ Below w1.heap.size w1 wr) (fun _ wr => wr.rangeLeft bn w1.heap.size)
  case atStart => exact ⟨0, [], _, _, rfl, (by simp [sizes, wrap64]), Collected.start D, hrg, ⟨hg2.os, hg2.tape, hg2.output, hg2.size, fun k hk => hg2.block k hk (by simp)⟩⟩
  case round =>
    obtain ⟨x, ss, left, cnt, rfl, hx, hcol, hrg', hbel⟩ := hrel
    have hle := hrg'.left_eq
    have HX := Lib.hid (And.intro hx hcol)
    clear hx hcol
    go_wp2_with (at_next; refine wpList_next_ranges _ rfl _ rfl 9 key_law (plainElem Tryd.prog 9) Value.string Value.string inv_key inv_val bn w1.heap.size N D left cnt rfl hrg' ?_ ?_)
    · intro hall hsz0
      go_wp2_with fail
      go_ret
      have hp := HX.out.2.perm HW.out key_law Tryd.underlying9 hsz0
      have e1 : sizes d.now ss = u := (sum_of HW.out HF.out.1 hp).one HF.out.2.1
      have e2 : x = (u : Int) := by
        have h1 := HX.out.1
        have h2 := HF.out.2.2
        rw [e1] at h1
        rw [h1]
        unfold wrap64
        omega
      rw [e2]
      exact ⟨rfl, hbel⟩
    · intro xk c kl y1 y2 w3 cnt' hkey hleft hpl hat hrg3 hlt3 hg3 hs3 hen
      have hle3 := hrg3.left_eq
      obtain ⟨xs, hxs, rfl, _⟩ := Maps.keyOf_str Tryd.underlying9 hkey
      have hxk : xk = ⟨xs.toArray⟩ := by injection hxs
      have hg : d.now.get ⟨xs.toArray⟩ = c := by
        have hh : has D (.string xs) = true := has_true_of_atKey hat
        have hf := HF.out.1.has ⟨xs.toArray⟩
        rw [show (Lit.string (ByteArray.mk xs.toArray).data.toList) = .string xs from rfl, hh] at hf
        obtain ⟨c2, hc2, hy⟩ := plainElem_string_inv Tryd.underlying9 hpl
        unfold FM.get
        cases hF : d.now ⟨xs.toArray⟩ with
        | none => rw [hF] at hf; cases hf
        | some v0 =>
          have ha := HF.out.1.at_ ⟨xs.toArray⟩ v0 y1 hF
          have hc : c2 = c := by injection hc2 with hc2; exact hc2.symm
          have hy1 : y1 = DataW.lit (.string c2.data.toList) := congrArg Prod.fst hy.1
          rw [show (Lit.string (ByteArray.mk xs.toArray).data.toList) = .string xs from rfl, hat y1, hy1, hc] at ha
          have he : c.data.toList = v0.data.toList := by injection ha with ha; injection ha
          show v0 = c
          exact ByteArray.ext (Array.toList_inj.1 he.symm)
      have hcol := HX.out.2.step hleft hat
      have hsz := sizes_snoc d.now ss xs
      rw [hg] at hsz
      have HC := Lib.hid (And.intro hcol hsz)
      clear hcol hsz hg
      go_wp2_with fail
      go_roundw
      case rel =>
        refine ⟨_, ss ++ [xs], _, cnt', rfl, ?_, HC.out.1, hrg3, hbel.trans ⟨hg3.os, hg3.tape, hg3.output, hg3.size, fun k hk => hg3.block k (Nat.lt_of_lt_of_le hk hbel.size) (fun e => by have := Option.some.inj e; omega)⟩⟩
        rw [HC.out.2, HX.out.1, wrap_add]
        congr 1
      case measure => rw [hle3, hle]; exact hlt3
end Go.Proofs.YtpdceondgbgpkaaDoor.Dsk
