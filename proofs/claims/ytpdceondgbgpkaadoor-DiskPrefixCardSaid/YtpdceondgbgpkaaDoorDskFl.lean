/- The law's Files: a disk's files, by their names. -/
import Derived.Test.YtpdceondgbgpkaaDoorDskNm
import Derived.Test.YtpdceondgbgpkaaDoorDsk6
import Derived.Test.YtpdceondgbgpkaaDoorQueue
import Derived.Test.YtpdceondgbgpkaaDoorDskFc
import Derived.Test.YtpdceondgbgpkaaDoorFlat
namespace Go.Proofs.YtpdceondgbgpkaaDoor.Dsk
open Go.RowKit Go.Maps
set_option linter.unusedSimpArgs false
set_option linter.unusedVariables false
def Dk.fileS (d : Dk) (s : ByteArray) : ByteArray := if d.there s ≠ 0 then ⟨#[]⟩ else d.now.get s
def Dk.pairs (d : Dk) (l : List ByteArray) : List (ByteArray × ByteArray) := l.map (fun s => (s, d.fileS s))
def flC (d : Dk) (l : List ByteArray) : List Value := ((d.pairs l).map fc).flatten
theorem flC_snoc (d : Dk) (l : List ByteArray) (s : ByteArray) : flC d (l ++ [s]) = flC d l ++ [.string s, .string (d.fileS s)] := by
  unfold flC Dk.pairs
  rw [List.map_append, List.map_append, List.flatten_append]
  rfl
theorem fc_rows (x : List (ByteArray × ByteArray)) : ∀ r ∈ x.map fc, r.length = 2 := by
  intro r hr
  obtain ⟨y, _, rfl⟩ := List.mem_map.1 hr
  rfl
theorem info_file : (Tryd.prog.info? 55).map (fun i => (i.zero, i.size, i.bytes)) = some (some (.agg #[.string ⟨#[]⟩, .string ⟨#[]⟩]), 2, 32) := by kernel_rfl
set_option maxRecDepth 100000 in
set_option maxHeartbeats 4000000 in
theorem Files_upL (S : Nat → Prop) (p N : Nat) (d : Dk) (w : World) (h : DiskAt w S p N d) (hd : d.down = false) (hN : N ≤ 1000000000) :
    Calls Tryd.prog 9 #[.pointer (some ⟨p, 0, none⟩)] w fun r w' => ∃ v l, r = .returned v ∧ NamesOf d.now l ∧ l.length ≤ N ∧ Mem.Rd w' (fun k => w.heap.size ≤ k) 2 v ((d.pairs l).map fc) ∧ Below w.heap.size w w' := by
  have hn := Names_up S p N d w h hd hN
  have hrd := fun f (hf : f.size ≤ maxLen) W (hb : Below w.heap.size w W) => Read_any S p N d f W (h.below hb) hf
  obtain ⟨i0, hi, hz0, hz1, hz2⟩ := info_parts info_file
  clear h
  go_enter Tryd.func9, Tryd.ntmps9
  go_wp2_with (go_at_call 24; refine hn.mono ?_; rintro _ w1 ⟨v, l, rfl, hl, hlN, hls, hR, hb1⟩)
  obtain ⟨A0, cap0, rfl⟩ := hR.slice
  have hll : (l.map (fun s => [Value.string s])).length = l.length := List.length_map _
  rw [hll] at hR ⊢
  have HR := Lib.hid (And.intro hR (And.intro hl (And.intro hls hb1)))
  clear hR hl hls hb1 hn hll
  go_loopw [3, 5] (fun v i wr => ∃ k : Nat, k ≤ l.length ∧ i = .int .i64 (k : Int) ∧ wr.ownsRow w1.heap.size 55 2 v k (flC d (l.take k)) ∧ Below w1.heap.size w1 wr) (fun _ i _ => l.length - (intOf i).toNat)
  case atStart => exact ⟨0, Nat.zero_le _, rfl, World.ownsRow_nil _ _ _ _, Below.refl _ _⟩
  case round =>
    obtain ⟨k, hk, rfl, hown, hbel⟩ := hrel
    obtain ⟨Ao, co, rfl, hco⟩ := Qu.q_slice (Qu.q_of_own hown)
    by_cases hlt : k < l.length
    · obtain ⟨x, hx⟩ : ∃ x, l[k]? = some x := ⟨_, List.getElem?_eq_getElem hlt⟩
      obtain ⟨g, o, rfl, hg, hgl, hrow⟩ := (Mem.Rd.below HR.out.1 hbel).row (k := k) (r := [.string x]) (by rw [List.getElem?_map, hx]; rfl)
      have c0 : wr.cell? ⟨g, o + k, none⟩ = some (.string x) := by have := hrow 0 _ rfl; simpa using this
      have hlt' : (k : Int) < (l.length : Int) := by omega
      have hkw : wrap64 ((k : Int) + 1) = (k : Int) + 1 := by unfold wrap64; omega
      have hxs := HR.out.2.2.1 x (List.mem_of_getElem? hx)
      have hrx := hrd x hxs wr (HR.out.2.2.2.trans (hbel.mono HR.out.2.2.2.size))
      have hss : (if d.there x ≠ 0 then (⟨#[]⟩ : ByteArray) else d.now.get x) = d.fileS x := rfl
      rw [hss] at hrx
      have hsn : flC d (l.take (k + 1)) = flC d (l.take k) ++ [.string x, .string (d.fileS x)] := by rw [List.take_add_one, hx]; exact flC_snoc d _ x
      have HO := Lib.hid (And.intro hown hbel)
      have HM := Lib.hid hsn
      clear hown hbel hx hrow hss hsn hxs
      generalize d.fileS x = y at hrx HM
      go_wp2_with (first
        | (go_at_call 19; refine hrx.mono ?_; rintro _ w2 ⟨rfl, hb2⟩; have c2 := (hb2.cell (p := ⟨g, o + k, none⟩) hgl).trans c0; have hown2 := own_stay HO.out.1 (fun q hq => hb2.block q (by obtain ⟨cc, hcc⟩ := row_cells HO.out.1 q hq; exact Mem.lt hcc)); have hbel2 := HO.out.2.trans (hb2.mono HO.out.2.size))
        | (at_builtin; refine Mem.append_one rfl (.tmp 25) (.tmp 32) 31 rfl w1.heap.size 55 i0 _ 2 32 Tryd.underlying31 hi hz0 hz1 hz2 rfl (by decide) w2 _ k (flC d (l.take k)) (by rfl) hown2 [.string x, .string y] rfl (by intro u hu; simp only [List.mem_cons, List.not_mem_nil, or_false] at hu; rcases hu with rfl | rfl <;> rfl) (by rfl) (by unfold maxLen; omega) (by omega) hbel2.size ?_; intro v3 w3 hown3 hg3 ho3))
      go_roundw
      case rel =>
        refine ⟨k + 1, hlt, by go_num, by rw [HM.out]; exact hown3, ?_⟩
        have hs0 := hbel2.size
        exact Below.grown (hbel2.alloc hs0 _) hg3 (Nat.le_trans hs0 (by simp)) (Mem.own_base hown2)
      case measure => first | exact measS hlt | (rw [hkw]; exact measS hlt)
    · have hge : ¬ (k : Int) < (l.length : Int) := by omega
      have hkl : k = l.length := by omega
      subst hkl
      rw [List.take_length] at hown
      go_wp2_with fail
      go_ret
      refine ⟨_, rfl, l, HR.out.2.1, hlN, (Mem.Rd.of_owns (rows := (d.pairs l).map fc) hown (by simp [Dk.pairs]) (fc_rows _)).mono (fun k hk => Nat.le_trans HR.out.2.2.2.size hk), HR.out.2.2.2.trans (hbel.mono HR.out.2.2.2.size)⟩
theorem Files_up (S : Nat → Prop) (p N : Nat) (d : Dk) (w : World) (h : DiskAt w S p N d) (hd : d.down = false) (hN : N ≤ 1000000000) :
    Calls Tryd.prog 9 #[.pointer (some ⟨p, 0, none⟩)] w fun r w' => ∃ v l, r = .returned v ∧ NamesOf d.now l ∧ Mem.Rd w' (fun k => w.heap.size ≤ k) 2 v ((d.pairs l).map fc) ∧ Below w.heap.size w w' := by
  refine (Files_upL S p N d w h hd hN).mono ?_
  rintro _ w' ⟨v, l, rfl, h1, _, h2, h3⟩
  exact ⟨v, l, rfl, h1, h2, h3⟩
end Go.Proofs.YtpdceondgbgpkaaDoor.Dsk
