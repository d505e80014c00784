/- The text of an event. -/
import Derived.Test.YtbiicflcjipeeaaEnc
namespace Go.Proofs.Ytbiicflcjipeeaa
open Go.RowKit
set_option linter.unusedSimpArgs false
set_option linter.unusedVariables false
open Sp (fold intB textS bs)
attribute [local go_sem] Mem.run_store_float Mem.After.cell
def numS (n : Int) : ByteArray := bs (Sp.num n.toNat)
theorem numS_size (n : Int) (h : n < 18446744073709551616) : (numS n).size ≤ 9 := num_size' n h
theorem NumS_any (n : Int) (w : World) (h1 : IsU64 n) : Calls Try.prog 53 #[.int .u64 n] w fun e w' => e = .returned (.string (numS n)) ∧ Below w.heap.size w w' := Num_any n w h1
theorem rNumS_any (n : Int) (w : World) (h1 : IsU64 n) : Calls Try.prog 88 #[.int .u64 n] w fun e w' => e = .returned (.string (numS n)) ∧ Below w.heap.size w w' := rNum_any n w h1
def hdS (e : Evt) : ByteArray := numS e.session ++ numS e.seq ++ numS e.stamp ++ textS e.kind ++ numS e.fields.length
def fldS (s : ByteArray) (f : Fld) : ByteArray := s ++ (textS f.name ++ valS f.v)
def encS (e : Evt) : ByteArray := e.fields.foldl fldS (hdS e)
theorem EvR.slice {w : World} {ok : Nat → Prop} {e : Evt} {vf : Value} (h : EvR w ok e vf) : ∃ A cap, vf = .slice A e.fields.length cap := by
  obtain ⟨A, cap, e1⟩ := Mem.Rd.slice h
  exact ⟨A, cap, by rw [e1, List.length_map]⟩
theorem EvR.below {w w1 : World} {ok : Nat → Prop} {e : Evt} {vf : Value} (h : EvR w ok e vf) (hb : Below w.heap.size w w1) : EvR w1 ok e vf := Mem.Rd.below h hb
/-- The whole numbers of an event are such. -/
def Evt.wf (e : Evt) : Prop := IsI64 e.session ∧ IsI64 e.seq ∧ IsI64 e.stamp ∧ ∀ f ∈ e.fields, IsI64 f.v.kind ∧ IsI64 f.v.n
theorem hd_size (e : Evt) (h : e.ok) : (hdS e).size ≤ 100 := by
  obtain ⟨h1, h2, h3, h4, h5, _⟩ := h
  unfold inB at h1 h2 h3
  have a1 := numS_size e.session (by omega)
  have a2 := numS_size e.seq (by omega)
  have a3 := numS_size e.stamp (by omega)
  have a4 := text_size e.kind (by have := h4.2; omega)
  have a5 := numS_size e.fields.length (by omega)
  have := h4.2
  unfold hdS
  simp only [ByteArray.size_append]
  omega
theorem fld_size (s : ByteArray) (f : Fld) (hw : Word f.name) (hm : f.v.may) (hn : IsI64 f.v.n) : (fldS s f).size ≤ s.size + 200 := by
  have a1 := text_size f.name (by have := hw.2; omega)
  have a2 := val_size f.v hn hm
  have := hw.2
  unfold fldS
  simp only [ByteArray.size_append]
  omega
theorem foldl_snoc (l : List Fld) (k : Nat) (f : Fld) (s : ByteArray) (h : l[k]? = some f) : (l.take (k + 1)).foldl fldS s = fldS ((l.take k).foldl fldS s) f := by
  rw [List.take_add_one, h]
  simp
theorem foldl_size (l : List Fld) (s : ByteArray) (h : ∀ f ∈ l, Word f.name ∧ f.v.may ∧ IsI64 f.v.n) : (l.foldl fldS s).size ≤ s.size + 200 * l.length := by
  induction l generalizing s with
  | nil => simp
  | cons f l ih =>
    have h1 := ih (fldS s f) (fun g hg => h g (List.mem_cons_of_mem _ hg))
    obtain ⟨a, b, c⟩ := h f List.mem_cons_self
    have h2 := fld_size s f a b c
    simp only [List.foldl_cons, List.length_cons]
    omega
theorem fields_ok (e : Evt) (h : e.ok) (hw : e.wf) : ∀ f ∈ e.fields, Word f.name ∧ f.v.may ∧ IsI64 f.v.n := by
  intro f hf
  obtain ⟨i, hi⟩ := List.mem_iff_getElem?.1 hf
  have := h.2.2.2.2.2 i f hi
  exact ⟨this.1, this.2.1, (hw.2.2.2 f hf).2⟩
theorem enc_size (e : Evt) (h : e.ok) (hw : e.wf) : (encS e).size ≤ 1700 := by
  have h1 := foldl_size e.fields (hdS e) (fields_ok e h hw)
  have h2 := hd_size e h
  have := h.2.2.2.2.1
  unfold encS
  omega
theorem Evt.ok_small {e : Evt} (h : e.ok) : e.small := by
  refine ⟨by have := h.2.2.2.1.2; omega, fun f hf => ?_⟩
  obtain ⟨i, hi⟩ := List.mem_iff_getElem?.1 hf
  have h1 := h.2.2.2.2.2 i f hi
  have h2 := h1.2.1
  unfold Val.may at h2
  exact ⟨by have := h1.1.2; omega, by omega⟩
set_option maxRecDepth 100000 in
set_option maxHeartbeats 2000000 in
theorem Encode_no (e : Evt) (vf : Value) (ok : Nat → Prop) (w : World) (hs : e.small) (hr : EvR w ok e vf) (h : ¬ e.ok) :
    Calls Try.prog 81 #[.agg #[.int .i64 e.session, .int .i64 e.seq, .int .i64 e.stamp, .string e.kind, vf]] w fun r w' => r = .returned (.tuple #[.string (bs []), .int .i64 1]) ∧ Below w.heap.size w w' := by
  have HC := Lib.hid (chk_no h)
  have hc := Check_any e vf ok _ hs (hr.below ((Below.refl _ _).alloc (Nat.le_refl _) (Obj.cells #[.int .i64 e.session, .int .i64 e.seq, .int .i64 e.stamp, .string e.kind, vf] 31)))
  rw [HC.out] at hc
  have HCC := Lib.hid hc
  clear hc hs hr h
  go_enter Try.func81, Try.ntmps81
  go_wp2_with fail
  refine HCC.out.mono ?_
  rintro _ w1 ⟨rfl, hb1⟩
  go_wp2_with fail
  go_ret2
  exact ⟨rfl, ((Below.refl _ _).alloc (Nat.le_refl _) _).trans (hb1.mono (by simp))⟩
set_option maxRecDepth 100000 in
set_option maxHeartbeats 2000000 in
theorem Encode_yes (e : Evt) (vf : Value) (ok : Nat → Prop) (w : World) (hr : EvR w ok e vf) (h : e.ok) (hw : e.wf) :
    Calls Try.prog 81 #[.agg #[.int .i64 e.session, .int .i64 e.seq, .int .i64 e.stamp, .string e.kind, vf]] w fun r w' => r = .returned (.tuple #[.string (encS e), .int .i64 0]) ∧ Below w.heap.size w w' := by
  obtain ⟨A, cap, rfl⟩ := hr.slice
  have HC := Lib.hid (chk_ok h)
  have hc := Check_any e _ ok _ (Evt.ok_small h) (hr.below ((Below.refl _ _).alloc (Nat.le_refl _) (Obj.cells #[.int .i64 e.session, .int .i64 e.seq, .int .i64 e.stamp, .string e.kind, .slice A e.fields.length cap] 31)))
  rw [HC.out] at hc
  have HCC := Lib.hid hc
  clear hc
  have HH := Lib.hid h
  have HR := Lib.hid hr
  have HW := Lib.hid hw
  obtain ⟨⟨q1, q1'⟩, ⟨q2, q2'⟩, ⟨q3, q3'⟩, q4, q5, _⟩ := h
  have a1 := numS_size e.session (by omega)
  have a2 := numS_size e.seq (by omega)
  have a3 := numS_size e.stamp (by omega)
  have q4' := q4.2
  have a4 := text_size e.kind (by omega)
  have a5 := numS_size e.fields.length (by omega)
  clear hr hw q4
  go_enter Try.func81, Try.ntmps81
  go_wp2_with fail
  refine HCC.out.mono ?_
  rintro _ w1 ⟨rfl, hb1⟩
  have hB := (hb1.block w.heap.size (by simp)).trans (Mem.new _ _)
  have b1 : w1.cell? ⟨w.heap.size, 0, none⟩ = some (.int .i64 e.session) := Mem.cell hB rfl
  have b2 : w1.cell? ⟨w.heap.size, 1, none⟩ = some (.int .i64 e.seq) := Mem.cell hB rfl
  have b3 : w1.cell? ⟨w.heap.size, 2, none⟩ = some (.int .i64 e.stamp) := Mem.cell hB rfl
  have b4 : w1.cell? ⟨w.heap.size, 3, none⟩ = some (.string e.kind) := Mem.cell hB rfl
  have b5 : w1.cell? ⟨w.heap.size, 4, none⟩ = some (.slice A e.fields.length cap) := Mem.cell hB rfl
  have hbel : Below w.heap.size w w1 := ((Below.refl _ _).alloc (Nat.le_refl _) _).trans (hb1.mono (by simp))
  have hl := Mem.lt hB
  have HB := Lib.hid hB
  clear hB hb1
  go_wp2_with fail
  refine Mem.wp_region_after (by kernel_rfl) (by kernel_rfl) ?_
  repeat (go_big_quiet_step ((first | (go_at_call 53; exact Mem.After.call _ (NumS_any _ _ (by exact ⟨by omega, by omega⟩))) | (go_at_call 82; exact Mem.After.call _ (Text_any _ _ (by omega))))))
  refine wpQuiet_nil ?_
  intro w2 hb2
  have b5' : w2.cell? ⟨w.heap.size, 4, none⟩ = some (.slice A e.fields.length cap) := (hb2.cell (p := ⟨w.heap.size, 4, none⟩) hl).trans b5
  have hbel2 := hbel.trans (hb2.mono hbel.size)
  clear b1 b2 b3 b4 b5 a1 a2 a3 a4 a5 q1 q1' q2 q2' q3 q3' q4' HB hl
  go_wp2_with fail
  go_loopw [5, 40] (fun s i wr => ∃ k : Nat, k ≤ e.fields.length ∧ i = .int .i64 k ∧ s = .string ((e.fields.take k).foldl fldS (hdS e)) ∧ Below w.heap.size w wr) (fun _ i _ => e.fields.length - (intOf i).toNat)
  case atStart => exact ⟨0, Nat.zero_le _, rfl, rfl, hbel2⟩
  case round =>
    obtain ⟨k, hk, rfl, rfl, hbel3⟩ := hrel
    clear hbel hb2 b5' hbel2
    by_cases hlt : k < e.fields.length
    · obtain ⟨f, hf⟩ : ∃ f, e.fields[k]? = some f := ⟨_, List.getElem?_eq_getElem hlt⟩
      obtain ⟨g, o, rfl, hg, hgl, hrow⟩ := (Mem.Rd.below HR.out hbel3).row (k := k) (r := f.cells) (by rw [List.getElem?_map, hf]; rfl)
      have c0 : wr.cell? ⟨g, o + k * 5, none⟩ = some (.string f.name) := hrow 0 _ rfl
      have c1 := hrow 1 _ rfl
      have c2 := hrow 2 _ rfl
      have c3 := hrow 3 _ rfl
      have c4 := hrow 4 _ rfl
      have HS := Lib.hid (foldl_snoc e.fields k f (hdS e) hf)
      obtain ⟨m1, m2, m3⟩ := fields_ok e HH.out HW.out f (List.mem_of_getElem? hf)
      have z0 := foldl_size (e.fields.take k) (hdS e) (fun f hf => fields_ok e HH.out HW.out f (List.mem_of_mem_take hf))
      have z1 := hd_size e HH.out
      have z2 : (e.fields.take k).length ≤ 8 := by rw [List.length_take]; omega
      have z3 : ((e.fields.take k).foldl fldS (hdS e)).size ≤ 2000 := by omega
      have z4 := text_size f.name (by have := m1.2; omega)
      have z5 := val_size f.v m3 m2
      have z6 := m1.2.2
      have M2 := Lib.hid m2
      clear hf hrow z0 z1 z2 m1 m2 HR
      obtain ⟨s, hs⟩ : ∃ s, s = (e.fields.take k).foldl fldS (hdS e) := ⟨_, rfl⟩
      rw [← hs] at z3 ⊢
      have HSS := Lib.hid hs
      clear hs
      go_wp2_with fail
      refine Mem.wp_region_after (by kernel_rfl) (by kernel_rfl) ?_
      repeat (go_big_quiet_step ((first | (go_at_call 82; exact Mem.After.call _ (Text_any _ _ (by omega))) | (go_at_call 91; exact Mem.After.call _ (value_any f.v _ m3 M2.out)))))
      refine wpQuiet_nil ?_
      intro w3 hb3
      go_wp2_with fail
      go_roundw
      case rel => exact ⟨k + 1, by omega, by go_num, by rw [HS.out, ← HSS.out]; rfl, (hbel3.alloc hbel3.size _).trans (hb3.mono (by have := hbel3.size; simp; omega))⟩
      case measure => simp [intOf]; try omega
    · obtain rfl : k = e.fields.length := by omega
      have HE : Hid (encS e = (e.fields.take e.fields.length).foldl fldS (hdS e)) := Lib.hid (by rw [List.take_length]; rfl)
      go_wp2_with fail
      go_ret2
      exact ⟨by rw [HE.out, List.take_length]; rfl, hbel3⟩
end Go.Proofs.Ytbiicflcjipeeaa
