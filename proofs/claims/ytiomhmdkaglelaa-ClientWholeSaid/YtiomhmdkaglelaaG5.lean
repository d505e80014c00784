/- The text of an event. · Events, as an argument's data say them. · The document's text of an event. · The texts of the commands that a teller asks: sm's. -/
import Derived.Test.YtiomhmdkaglelaaG4
import Derived.Test.YtiomhmdkaglelaaG1
namespace Go.Proofs.Ytiomhmdkaglelaa
open Go.RowKit
set_option linter.unusedSimpArgs false
set_option linter.unusedVariables false
open Sp (fold intB textS bs)
attribute [local go_sem] Mem.run_store_float Mem.After.cell
def numS (n : Int) : ByteArray := bs (Sp.num n.toNat)
theorem numS_size (n : Int) (h : n < 18446744073709551616) : (numS n).size ≤ 9 := num_size' n h
theorem NumS_any (n : Int) (w : World) (h1 : IsU64 n) : Calls Try.prog 27 #[.int .u64 n] w fun e w' => e = .returned (.string (numS n)) ∧ Below w.heap.size w w' := Num_any n w h1
def hdS (e : Evt) : ByteArray := numS e.session ++ numS e.seq ++ numS e.stamp ++ textS e.kind ++ numS e.fields.length
def fldS (s : ByteArray) (f : Fld) : ByteArray := s ++ (textS f.name ++ valS f.v)
def encS (e : Evt) : ByteArray := e.fields.foldl fldS (hdS e)
theorem EvR.slice {w : World} {ok : Nat → Prop} {e : Evt} {vf : Value} (h : EvR w ok e vf) : ∃ A cap, vf = .slice A e.fields.length cap := by
  obtain ⟨A, cap, e1⟩ := Mem.Rd.slice h
  exact ⟨A, cap, by rw [e1, List.length_map]⟩
theorem EvR.below {w w1 : World} {ok : Nat → Prop} {e : Evt} {vf : Value} (h : EvR w ok e vf) (hb : Below w.heap.size w w1) : EvR w1 ok e vf := Mem.Rd.below h hb
/-- The whole numbers of an event are such. -/
def Evt.wf (e : Evt) : Prop := IsI64 e.session ∧ IsI64 e.seq ∧ IsI64 e.stamp ∧ ∀ f ∈ e.fields, IsI64 f.v.kind ∧ IsI64 f.v.n
theorem hd_size (e : Evt) (h : e.ok) : (hdS e).size ≤ 100 := by
  obtain ⟨h1, h2, h3, h4, h5, _⟩ := h
  unfold inB at h1 h2 h3
  have a1 := numS_size e.session (by omega)
  have a2 := numS_size e.seq (by omega)
  have a3 := numS_size e.stamp (by omega)
  have a4 := text_size e.kind (by have := h4.2; omega)
  have a5 := numS_size e.fields.length (by omega)
  have := h4.2
  unfold hdS
  simp only [ByteArray.size_append]
  omega
theorem fld_size (s : ByteArray) (f : Fld) (hw : Word f.name) (hm : f.v.may) (hn : IsI64 f.v.n) : (fldS s f).size ≤ s.size + 200 := by
  have a1 := text_size f.name (by have := hw.2; omega)
  have a2 := val_size f.v hn hm
  have := hw.2
  unfold fldS
  simp only [ByteArray.size_append]
  omega
theorem foldl_snoc (l : List Fld) (k : Nat) (f : Fld) (s : ByteArray) (h : l[k]? = some f) : (l.take (k + 1)).foldl fldS s = fldS ((l.take k).foldl fldS s) f := by
  rw [List.take_add_one, h]
  simp
theorem foldl_size (l : List Fld) (s : ByteArray) (h : ∀ f ∈ l, Word f.name ∧ f.v.may ∧ IsI64 f.v.n) : (l.foldl fldS s).size ≤ s.size + 200 * l.length := by
  induction l generalizing s with
  | nil => simp
  | cons f l ih =>
    have h1 := ih (fldS s f) (fun g hg => h g (List.mem_cons_of_mem _ hg))
    obtain ⟨a, b, c⟩ := h f List.mem_cons_self
    have h2 := fld_size s f a b c
    simp only [List.foldl_cons, List.length_cons]
    omega
theorem fields_ok (e : Evt) (h : e.ok) (hw : e.wf) : ∀ f ∈ e.fields, Word f.name ∧ f.v.may ∧ IsI64 f.v.n := by
  intro f hf
  obtain ⟨i, hi⟩ := List.mem_iff_getElem?.1 hf
  have := h.2.2.2.2.2 i f hi
  exact ⟨this.1, this.2.1, (hw.2.2.2 f hf).2⟩
theorem enc_size (e : Evt) (h : e.ok) (hw : e.wf) : (encS e).size ≤ 1700 := by
  have h1 := foldl_size e.fields (hdS e) (fields_ok e h hw)
  have h2 := hd_size e h
  have := h.2.2.2.2.1
  unfold encS
  omega
theorem Evt.ok_small {e : Evt} (h : e.ok) : e.small := by
  refine ⟨by have := h.2.2.2.1.2; omega, fun f hf => ?_⟩
  obtain ⟨i, hi⟩ := List.mem_iff_getElem?.1 hf
  have h1 := h.2.2.2.2.2 i f hi
  have h2 := h1.2.1
  unfold Val.may at h2
  exact ⟨by have := h1.1.2; omega, by omega⟩
set_option maxRecDepth 100000 in
set_option maxHeartbeats 2000000 in
theorem Encode_no (e : Evt) (vf : Value) (ok : Nat → Prop) (w : World) (hs : e.small) (hr : EvR w ok e vf) (h : ¬ e.ok) :
    Calls Try.prog 56 #[.agg #[.int .i64 e.session, .int .i64 e.seq, .int .i64 e.stamp, .string e.kind, vf]] w fun r w' => r = .returned (.tuple #[.string (bs []), .int .i64 1]) ∧ Below w.heap.size w w' := by
  have HC := Lib.hid (chk_no h)
  have hc := Check_any e vf ok _ hs (hr.below ((Below.refl _ _).alloc (Nat.le_refl _) (Obj.cells #[.int .i64 e.session, .int .i64 e.seq, .int .i64 e.stamp, .string e.kind, vf] 36)))
  rw [HC.out] at hc
  have HCC := Lib.hid hc
  clear hc hs hr h
  go_enter Try.func56, Try.ntmps56
  go_wp2_with fail
  refine HCC.out.mono ?_
  rintro _ w1 ⟨rfl, hb1⟩
  go_wp2_with fail
  go_ret2
  exact ⟨rfl, ((Below.refl _ _).alloc (Nat.le_refl _) _).trans (hb1.mono (by simp))⟩
set_option maxRecDepth 100000 in
set_option maxHeartbeats 2000000 in
theorem Encode_yes (e : Evt) (vf : Value) (ok : Nat → Prop) (w : World) (hr : EvR w ok e vf) (h : e.ok) (hw : e.wf) :
    Calls Try.prog 56 #[.agg #[.int .i64 e.session, .int .i64 e.seq, .int .i64 e.stamp, .string e.kind, vf]] w fun r w' => r = .returned (.tuple #[.string (encS e), .int .i64 0]) ∧ Below w.heap.size w w' := by
  obtain ⟨A, cap, rfl⟩ := hr.slice
  have HC := Lib.hid (chk_ok h)
  have hc := Check_any e _ ok _ (Evt.ok_small h) (hr.below ((Below.refl _ _).alloc (Nat.le_refl _) (Obj.cells #[.int .i64 e.session, .int .i64 e.seq, .int .i64 e.stamp, .string e.kind, .slice A e.fields.length cap] 36)))
  rw [HC.out] at hc
  have HCC := Lib.hid hc
  clear hc
  have HH := Lib.hid h
  have HR := Lib.hid hr
  have HW := Lib.hid hw
  obtain ⟨⟨q1, q1'⟩, ⟨q2, q2'⟩, ⟨q3, q3'⟩, q4, q5, _⟩ := h
  have a1 := numS_size e.session (by omega)
  have a2 := numS_size e.seq (by omega)
  have a3 := numS_size e.stamp (by omega)
  have q4' := q4.2
  have a4 := text_size e.kind (by omega)
  have a5 := numS_size e.fields.length (by omega)
  clear hr hw q4
  go_enter Try.func56, Try.ntmps56
  go_wp2_with fail
  refine HCC.out.mono ?_
  rintro _ w1 ⟨rfl, hb1⟩
  have hB := (hb1.block w.heap.size (by simp)).trans (Mem.new _ _)
  have b1 : w1.cell? ⟨w.heap.size, 0, none⟩ = some (.int .i64 e.session) := Mem.cell hB rfl
  have b2 : w1.cell? ⟨w.heap.size, 1, none⟩ = some (.int .i64 e.seq) := Mem.cell hB rfl
  have b3 : w1.cell? ⟨w.heap.size, 2, none⟩ = some (.int .i64 e.stamp) := Mem.cell hB rfl
  have b4 : w1.cell? ⟨w.heap.size, 3, none⟩ = some (.string e.kind) := Mem.cell hB rfl
  have b5 : w1.cell? ⟨w.heap.size, 4, none⟩ = some (.slice A e.fields.length cap) := Mem.cell hB rfl
  have hbel : Below w.heap.size w w1 := ((Below.refl _ _).alloc (Nat.le_refl _) _).trans (hb1.mono (by simp))
  have hl := Mem.lt hB
  have HB := Lib.hid hB
  clear hB hb1
  go_wp2_with fail
  refine Mem.wp_region_after (by kernel_rfl) (by kernel_rfl) ?_
  repeat (go_big_quiet_step ((first | (go_at_call 27; exact Mem.After.call _ (NumS_any _ _ (by exact ⟨by omega, by omega⟩))) | (go_at_call 57; exact Mem.After.call _ (Text_any _ _ (by omega))))))
  refine wpQuiet_nil ?_
  intro w2 hb2
  have b5' : w2.cell? ⟨w.heap.size, 4, none⟩ = some (.slice A e.fields.length cap) := (hb2.cell (p := ⟨w.heap.size, 4, none⟩) hl).trans b5
  have hbel2 := hbel.trans (hb2.mono hbel.size)
  clear b1 b2 b3 b4 b5 a1 a2 a3 a4 a5 q1 q1' q2 q2' q3 q3' q4' HB hl
  go_wp2_with fail
  go_loopw [5, 40] (fun s i wr => ∃ k : Nat, k ≤ e.fields.length ∧ i = .int .i64 k ∧ s = .string ((e.fields.take k).foldl fldS (hdS e)) ∧ Below w.heap.size w wr) (fun _ i _ => e.fields.length - (intOf i).toNat)
  case atStart => exact ⟨0, Nat.zero_le _, rfl, rfl, hbel2⟩
  case round =>
    obtain ⟨k, hk, rfl, rfl, hbel3⟩ := hrel
    clear hbel hb2 b5' hbel2
    by_cases hlt : k < e.fields.length
    · obtain ⟨f, hf⟩ : ∃ f, e.fields[k]? = some f := ⟨_, List.getElem?_eq_getElem hlt⟩
      obtain ⟨g, o, rfl, hg, hgl, hrow⟩ := (Mem.Rd.below HR.out hbel3).row (k := k) (r := f.cells) (by rw [List.getElem?_map, hf]; rfl)
      have c0 : wr.cell? ⟨g, o + k * 5, none⟩ = some (.string f.name) := hrow 0 _ rfl
      have c1 := hrow 1 _ rfl
      have c2 := hrow 2 _ rfl
      have c3 := hrow 3 _ rfl
      have c4 := hrow 4 _ rfl
      have HS := Lib.hid (foldl_snoc e.fields k f (hdS e) hf)
      obtain ⟨m1, m2, m3⟩ := fields_ok e HH.out HW.out f (List.mem_of_getElem? hf)
      have z0 := foldl_size (e.fields.take k) (hdS e) (fun f hf => fields_ok e HH.out HW.out f (List.mem_of_mem_take hf))
      have z1 := hd_size e HH.out
      have z2 : (e.fields.take k).length ≤ 8 := by rw [List.length_take]; omega
      have z3 : ((e.fields.take k).foldl fldS (hdS e)).size ≤ 2000 := by omega
      have z4 := text_size f.name (by have := m1.2; omega)
      have z5 := val_size f.v m3 m2
      have z6 := m1.2.2
      have M2 := Lib.hid m2
      clear hf hrow z0 z1 z2 m1 m2 HR
      obtain ⟨s, hs⟩ : ∃ s, s = (e.fields.take k).foldl fldS (hdS e) := ⟨_, rfl⟩
      rw [← hs] at z3 ⊢
      have HSS := Lib.hid hs
      clear hs
      go_wp2_with fail
      refine Mem.wp_region_after (by kernel_rfl) (by kernel_rfl) ?_
      repeat (go_big_quiet_step ((first | (go_at_call 57; exact Mem.After.call _ (Text_any _ _ (by omega))) | (go_at_call 58; exact Mem.After.call _ (value_any f.v _ m3 M2.out)))))
      refine wpQuiet_nil ?_
      intro w3 hb3
      go_wp2_with fail
      go_roundw
      case rel => exact ⟨k + 1, by omega, by go_num, by rw [HS.out, ← HSS.out]; rfl, (hbel3.alloc hbel3.size _).trans (hb3.mono (by have := hbel3.size; simp; omega))⟩
      case measure => simp [intOf]; try omega
    · obtain rfl : k = e.fields.length := by omega
      have HE : Hid (encS e = (e.fields.take e.fields.length).foldl fldS (hdS e)) := Lib.hid (by rw [List.take_length]; rfl)
      go_wp2_with fail
      go_ret2
      exact ⟨by rw [HE.out, List.take_length]; rfl, hbel3⟩
end Go.Proofs.Ytiomhmdkaglelaa
namespace Go.Proofs.Ytiomhmdkaglelaa.Seen
open Go.RowKit
set_option linter.unusedVariables false
theorem wf64 {n : Int} (h : (Lit.int .i64 n).wf = true) : IsI64 n := by
  unfold IsI64
  have h1 : decide (IntKind.i64.min ≤ n) = true ∧ decide (n ≤ IntKind.i64.max) = true := by simpa [Lit.wf] using h
  have e1 : IntKind.i64.min = -9223372036854775808 := by decide
  have e2 : IntKind.i64.max = 9223372036854775807 := by decide
  have h2 := of_decide_eq_true h1.1
  have h3 := of_decide_eq_true h1.2
  omega
section
variable {H : Type} {enc : TypeId × Value → H} {W : World} {cs : List Value}
theorem one {P : Program} {t : Nat} {cs : List Value} {k : IntKind} (ht : P.underlying t = some (.int k)) (h : Sees enc P W t cs) : ∃ n, cs = [.int k n] := by
  obtain ⟨n, h, _⟩ := int ht h
  exact ⟨n, h⟩
theorem i64 {P : Program} {t : Nat} {cs : List Value} (ht : P.underlying t = some (.int .i64)) (h : Sees enc P W t cs) : ∃ n, cs = [.int .i64 n] ∧ IsI64 n := by
  obtain ⟨n, h, hw⟩ := int ht h
  exact ⟨n, h, wf64 hw⟩
theorem val (h : Sees enc Try.prog W 109 cs) : ∃ v : Val, cs = v.cells ∧ IsI64 v.kind ∧ IsI64 v.n ∧ v.s.size ≤ 140737488351232 := by
  have hl := (struct Try.underlying109 h).1.trans (show Try.prog.cellsOf 109 = 4 by kernel_rfl)
  obtain ⟨a, b, c, d, rfl⟩ : ∃ a b c d, cs = [a, b, c, d] := by
    match cs, hl with
    | [a, b, c, d], _ => exact ⟨a, b, c, d, rfl⟩
  obtain ⟨k, e1, hk⟩ := i64 Try.underlying3 (part Try.underlying109 h 0 3 0 1 rfl (by kernel_rfl))
  obtain ⟨n, e2, hn⟩ := i64 Try.underlying3 (part Try.underlying109 h 1 3 1 1 rfl (by kernel_rfl))
  obtain ⟨f, e3⟩ := float Try.underlying107 (part Try.underlying109 h 2 107 2 1 rfl (by kernel_rfl))
  obtain ⟨s, e4, hs⟩ := str Try.underlying9 (part Try.underlying109 h 3 9 3 1 rfl (by kernel_rfl))
  simp at e1 e2 e3 e4
  subst e1; subst e2; subst e3; subst e4
  exact ⟨⟨k, n, f, s⟩, rfl, hk, hn, hs⟩
theorem fld (h : Sees enc Try.prog W 111 cs) : ∃ f : Fld, cs = f.cells ∧ IsI64 f.v.kind ∧ IsI64 f.v.n ∧ f.name.size ≤ 140737488351232 ∧ f.v.s.size ≤ 140737488351232 := by
  have hl := (struct Try.underlying111 h).1.trans (show Try.prog.cellsOf 111 = 5 by kernel_rfl)
  obtain ⟨a, b, c, d, g, rfl⟩ : ∃ a b c d g, cs = [a, b, c, d, g] := by
    match cs, hl with
    | [a, b, c, d, g], _ => exact ⟨a, b, c, d, g, rfl⟩
  obtain ⟨s, e1, hs⟩ := str Try.underlying9 (part Try.underlying111 h 0 9 0 1 rfl (by kernel_rfl))
  obtain ⟨v, e2, h1, h2, h3⟩ := val (part Try.underlying111 h 1 109 1 4 rfl (by kernel_rfl))
  simp at e1
  subst e1
  exact ⟨⟨s, v⟩, by rw [show [Value.string s, b, c, d, g] = Value.string s :: [b, c, d, g] from rfl, show [b, c, d, g] = v.cells from e2]; rfl, h1, h2, hs, h3⟩
/-- Rows, each of which is the cells of something. -/
theorem rows_of {α : Type} (f : α → List Value) (p : α → Prop) : ∀ rs : List (List Value), (∀ r ∈ rs, ∃ x, r = f x ∧ p x) → ∃ xs : List α, rs = xs.map f ∧ ∀ x ∈ xs, p x
  | [], _ => ⟨[], rfl, fun x hx => by simp at hx⟩
  | r :: rs, h => by
    obtain ⟨x, rfl, hx⟩ := h r List.mem_cons_self
    obtain ⟨xs, rfl, hxs⟩ := rows_of f p rs (fun r hr => h r (List.mem_cons_of_mem _ hr))
    exact ⟨x :: xs, rfl, fun y hy => by rcases List.mem_cons.1 hy with rfl | h; exact hx; exact hxs y h⟩
theorem evt (h : Sees enc Try.prog W 36 cs) : ∃ (e : Evt) (vf : Value), cs = [.int .i64 e.session, .int .i64 e.seq, .int .i64 e.stamp, .string e.kind, vf] ∧ EvR W (fun g => g < W.heap.size) e vf ∧ e.small ∧ e.wf := by
  have hl := (struct Try.underlying36 h).1.trans (show Try.prog.cellsOf 36 = 5 by kernel_rfl)
  obtain ⟨a, b, c, d, g, rfl⟩ : ∃ a b c d g, cs = [a, b, c, d, g] := by
    match cs, hl with
    | [a, b, c, d, g], _ => exact ⟨a, b, c, d, g, rfl⟩
  obtain ⟨x, e1, h1⟩ := i64 Try.underlying3 (part Try.underlying36 h 0 3 0 1 rfl (by kernel_rfl))
  obtain ⟨y, e2, h2⟩ := i64 Try.underlying3 (part Try.underlying36 h 1 3 1 1 rfl (by kernel_rfl))
  obtain ⟨z, e3, h3⟩ := i64 Try.underlying3 (part Try.underlying36 h 2 3 2 1 rfl (by kernel_rfl))
  obtain ⟨k, e4, h4⟩ := str Try.underlying9 (part Try.underlying36 h 3 9 3 1 rfl (by kernel_rfl))
  obtain ⟨v, rs, e5, hR, hz, hrs⟩ := rows 5 Try.underlying34 (by kernel_rfl) (by omega) (part Try.underlying36 h 4 34 4 1 rfl (by kernel_rfl))
  simp at e1 e2 e3 e4 e5
  subst e1; subst e2; subst e3; subst e4; subst e5
  obtain ⟨fs, rfl, hfs⟩ := rows_of Fld.cells (fun f => IsI64 f.v.kind ∧ IsI64 f.v.n ∧ f.name.size ≤ 140737488351232 ∧ f.v.s.size ≤ 140737488351232) rs (fun r hr => fld (hrs r hr).2)
  exact ⟨⟨x, y, z, k, fs⟩, _, rfl, hR, ⟨h4, fun f hf => ⟨(hfs f hf).2.2.1, (hfs f hf).2.2.2⟩⟩, h1, h2, h3, fun f hf => ⟨(hfs f hf).1, (hfs f hf).2.1⟩⟩
theorem reply (h : Sees enc Try.prog W 38 cs) : ∃ a b : Int, cs = [.int .i64 a, .int .i64 b] ∧ IsI64 b := by
  have hl := (struct Try.underlying38 h).1.trans (show Try.prog.cellsOf 38 = 2 by kernel_rfl)
  obtain ⟨a, b, rfl⟩ : ∃ a b, cs = [a, b] := by
    match cs, hl with
    | [a, b], _ => exact ⟨a, b, rfl⟩
  obtain ⟨x, e1, h1⟩ := i64 Try.underlying31 (part Try.underlying38 h 0 31 0 1 rfl (by kernel_rfl))
  obtain ⟨y, e2, h2⟩ := i64 Try.underlying3 (part Try.underlying38 h 1 3 1 1 rfl (by kernel_rfl))
  simp at e1 e2
  subst e1; subst e2
  exact ⟨x, y, rfl, h2⟩
end
end Go.Proofs.Ytiomhmdkaglelaa.Seen
namespace Go.Proofs.Ytiomhmdkaglelaa
open Go.RowKit
set_option linter.unusedSimpArgs false
set_option linter.unusedVariables false
open Sp (fold intB textS bs)
attribute [local go_sem] Mem.run_store_float Mem.After.cell
end Go.Proofs.Ytiomhmdkaglelaa
namespace Go.Proofs.Ytiomhmdkaglelaa
open Go.RowKit
set_option linter.unusedSimpArgs false
set_option linter.unusedVariables false
open Sp (fold intB textS bs)
attribute [local go_sem] Mem.run_store_float Mem.After.cell
def emptyB (e : Evt) : Bool := (e.session == 0) && (e.seq == 0) && (e.stamp == 0) && e.kind.toList.isEmpty && ((e.fields.length : Int) == 0)
theorem emptyB_zero : emptyB ⟨0, 0, 0, ⟨#[]⟩, []⟩ = true := by unfold emptyB; simp only [empty_eq]; decide
set_option maxRecDepth 100000 in
set_option maxHeartbeats 2000000 in
theorem empty_any (e : Evt) (A : Option Addr) (cap : Nat) (w : World) :
    Calls Try.prog 55 #[.agg #[.int .i64 e.session, .int .i64 e.seq, .int .i64 e.stamp, .string e.kind, .slice A e.fields.length cap]] w fun r w' => r = .returned (.bool (emptyB e)) ∧ Below w.heap.size w w' := by
  obtain ⟨session, seq, stamp, kind, fields⟩ := e
  dsimp only
  go_enter Try.func55, Try.ntmps55
  go_wp2_with fail
  all_goals
    go_ret
    refine ⟨Mem.ret_bool ?_, (Below.refl _ _).alloc (Nat.le_refl _) _⟩
    unfold emptyB
    simp [*]
set_option maxRecDepth 100000 in
set_option maxHeartbeats 2000000 in
theorem body_open (w : World) :
    Calls Try.prog 49 #[.agg #[.int .i64 1, .int .i64 0, .int .i64 0, .int .i64 0, .string ⟨#[]⟩, .slice none 0 0, .int .i64 0, .string ⟨#[]⟩, .string ⟨#[]⟩, .int .i64 0]] w fun r w' => r = .returned (.tuple #[.string ⟨#[]⟩, .bool true]) ∧ Below w.heap.size w w' := by
  have he : ∀ w, Calls Try.prog 55 #[.agg #[.int .i64 0, .int .i64 0, .int .i64 0, .string ⟨#[]⟩, .slice none 0 0]] w fun r w' => r = .returned (.bool true) ∧ Below w.heap.size w w' := fun w =>
    (empty_any ⟨0, 0, 0, ⟨#[]⟩, []⟩ none 0 w).mono fun _ _ ⟨h, hb⟩ => ⟨by rw [h, emptyB_zero], hb⟩
  have hwd : wordB ⟨#[]⟩ = false := wordB_false (fun h => absurd h.2.1 (by decide))
  have HE := Lib.hid he
  clear he
  go_enter Try.func49, Try.ntmps49
  go_wp2_with fail
  refine Mem.wp_region_after (by kernel_rfl) (by kernel_rfl) ?_
  repeat (go_big_quiet_step ((go_at_call 55; exact Mem.After.call _ (HE.out _))))
  refine wpQuiet_nil ?_
  intro w1 hb1
  have hB := (hb1.block w.heap.size (by simp)).trans (Mem.new _ _)
  have b0 := Mem.cell hB (j := 0) rfl
  have b7 := Mem.cell hB (j := 7) rfl
  have hbel : Below w.heap.size w w1 := ((Below.refl _ _).alloc (Nat.le_refl _) _).trans (hb1.mono (by simp))
  clear hB hb1
  go_wp2_with (go_at_call 19; refine (Word_any _ _ (by decide)).mono ?_; rintro _ w' ⟨rfl, rfl⟩)
  go_ret2
  exact ⟨rfl, hbel⟩
set_option maxRecDepth 100000 in
set_option maxHeartbeats 2000000 in
theorem Write_open (w : World) :
    Calls Try.prog 41 #[.agg #[.int .i64 1, .int .i64 0, .int .i64 0, .int .i64 0, .string ⟨#[]⟩, .slice none 0 0, .int .i64 0, .string ⟨#[]⟩, .string ⟨#[]⟩, .int .i64 0]] w fun r w' => r = .returned (.tuple #[.string (numS 1), .int .i64 0]) ∧ Below w.heap.size w w' := by
  go_enter Try.func41, Try.ntmps41
  go_wp2_with fail
  refine (body_open _).mono ?_
  rintro _ w1 ⟨rfl, hb1⟩
  have hB := (hb1.block w.heap.size (by simp)).trans (Mem.new _ _)
  have b0 := Mem.cell hB (j := 0) rfl
  have hbel : Below w.heap.size w w1 := ((Below.refl _ _).alloc (Nat.le_refl _) _).trans (hb1.mono (by simp))
  have hz := numS_size 1 (by decide)
  clear hB hb1
  go_wp2_with (go_at_call 27; refine (NumS_any _ _ ⟨by decide, by decide⟩).mono ?_; rintro _ w2 ⟨rfl, hb2⟩)
  go_ret2
  refine ⟨?_, hbel.trans (hb2.mono hbel.size)⟩
  have e : numS 1 ++ ⟨#[]⟩ = numS 1 := by apply ByteArray.ext; simp
  simp [e]
/-- What an event's command says: its bytes, if it may be. -/
def cmdOk (e : Evt) : Prop := e.ok ∧ 0 < e.session ∧ 0 < e.seq
noncomputable def cmdB (e : Evt) : Bool := @decide (cmdOk e) (Classical.propDecidable _)
theorem cmdB_iff {e : Evt} : cmdB e = true ↔ cmdOk e := by unfold cmdB; simp
theorem cmdB_no {e : Evt} : cmdB e = false ↔ ¬ cmdOk e := by unfold cmdB; simp
set_option maxRecDepth 100000 in
set_option maxHeartbeats 2000000 in
theorem body_event (e : Evt) (vf : Value) (ok : Nat → Prop) (w : World) (hs : e.small) (hr : EvR w ok e vf) (hw : e.wf) :
    Calls Try.prog 49 #[.agg #[.int .i64 2, .int .i64 e.session, .int .i64 e.seq, .int .i64 e.stamp, .string e.kind, vf, .int .i64 0, .string ⟨#[]⟩, .string ⟨#[]⟩, .int .i64 0]] w
      fun r w' => ∃ s, r = .returned (.tuple #[.string s, .bool (cmdB e)]) ∧ (cmdOk e → s = encS e) ∧ Below w.heap.size w w' := by
  obtain ⟨A, cap, rfl⟩ := hr.slice
  have HE := Lib.hid (fun w => empty_any e A cap w)
  have hwd : wordB ⟨#[]⟩ = false := wordB_false (fun h => absurd h.2.1 (by decide))
  have HR := Lib.hid hr
  have HS := Lib.hid hs
  have HW := Lib.hid hw
  clear hr hs hw
  go_enter Try.func49, Try.ntmps49
  go_wp2_with fail
  refine Mem.wp_region_after (by kernel_rfl) (by kernel_rfl) ?_
  repeat (go_big_quiet_step ((go_at_call 55; exact Mem.After.call _ (HE.out _))))
  refine wpQuiet_nil ?_
  intro w1 hb1
  have hB := (hb1.block w.heap.size (by simp)).trans (Mem.new _ _)
  have b0 := Mem.cell hB (j := 0) rfl
  have b1 := Mem.cell hB (j := 1) rfl
  have b2 := Mem.cell hB (j := 2) rfl
  have b3 := Mem.cell hB (j := 3) rfl
  have b4 := Mem.cell hB (j := 4) rfl
  have b5 := Mem.cell hB (j := 5) rfl
  have b7 := Mem.cell hB (j := 7) rfl
  have hbel : Below w.heap.size w w1 := ((Below.refl _ _).alloc (Nat.le_refl _) _).trans (hb1.mono (by simp))
  have hl := Mem.lt hB
  clear hB hb1
  go_wp2_with (go_at_call 19; refine (Word_any _ _ (by decide)).mono ?_; rintro _ w' ⟨rfl, rfl⟩)
  by_cases hok : e.ok
  · refine (Encode_yes e _ ok _ (HR.out.below hbel) hok HW.out).mono ?_
    rintro _ w2 ⟨rfl, hb2⟩
    have d1 : w2.cell? ⟨w.heap.size, 1, none⟩ = some (.int .i64 e.session) := (hb2.cell (p := ⟨w.heap.size, 1, none⟩) hl).trans b1
    have d2 : w2.cell? ⟨w.heap.size, 2, none⟩ = some (.int .i64 e.seq) := (hb2.cell (p := ⟨w.heap.size, 2, none⟩) hl).trans b2
    have HO := Lib.hid hok
    clear b0 b1 b2 b3 b4 b5 b7 hok
    by_cases h1 : 0 < e.session
    all_goals by_cases h2 : 0 < e.seq
    all_goals
      go_wp2_with fail
      go_ret2
      refine ⟨encS e, ?_, fun _ => rfl, hbel.trans (hb2.mono hbel.size)⟩
      first
      | (rw [cmdB_iff.2 ⟨HO.out, h1, h2⟩]; rfl)
      | (rw [cmdB_no.2 (fun h => by have := h.2.1; omega)]; rfl)
      | (rw [cmdB_no.2 (fun h => by have := h.2.2; omega)]; rfl)
  · refine (Encode_no e _ ok _ HS.out (HR.out.below hbel) hok).mono ?_
    rintro _ w2 ⟨rfl, hb2⟩
    have hc : cmdB e = false := cmdB_no.2 (fun h => hok h.1)
    have HO := Lib.hid hok
    have HC := Lib.hid hc
    clear b0 b1 b2 b3 b4 b5 b7 hok hc
    go_wp2_with fail
    go_ret2
    exact ⟨bs [], by rw [HC.out]; rfl, fun h => absurd h.1 HO.out, hbel.trans (hb2.mono hbel.size)⟩
/-- An event's command, as a text; none: it may not be. -/
noncomputable def cmdS (e : Evt) : ByteArray := if cmdB e then numS 2 ++ encS e else bs []
noncomputable def cmdE (e : Evt) : Int := if cmdB e then 0 else 1
set_option maxRecDepth 100000 in
set_option maxHeartbeats 2000000 in
theorem Write_event (e : Evt) (vf : Value) (ok : Nat → Prop) (w : World) (hs : e.small) (hr : EvR w ok e vf) (hw : e.wf) :
    Calls Try.prog 41 #[.agg #[.int .i64 2, .int .i64 e.session, .int .i64 e.seq, .int .i64 e.stamp, .string e.kind, vf, .int .i64 0, .string ⟨#[]⟩, .string ⟨#[]⟩, .int .i64 0]] w
      fun r w' => r = .returned (.tuple #[.string (cmdS e), .int .i64 (cmdE e)]) ∧ Below w.heap.size w w' := by
  obtain ⟨A, cap, rfl⟩ := hr.slice
  have HR := Lib.hid hr
  have HW := Lib.hid hw
  have HS := Lib.hid hs
  clear hr hw hs
  go_enter Try.func41, Try.ntmps41
  go_wp2_with fail
  refine (body_event e _ ok _ HS.out (HR.out.below ((Below.refl _ _).alloc (Nat.le_refl _) _)) HW.out).mono ?_
  rintro _ w1 ⟨s, rfl, hs, hb1⟩
  have hB := (hb1.block w.heap.size (by simp)).trans (Mem.new _ _)
  have b0 := Mem.cell hB (j := 0) rfl
  have hbel : Below w.heap.size w w1 := ((Below.refl _ _).alloc (Nat.le_refl _) _).trans (hb1.mono (by simp))
  have hz := numS_size 2 (by decide)
  clear hB hb1
  cases hc : cmdB e
  · have HC : Hid (cmdS e = bs [] ∧ cmdE e = 1) := Lib.hid (by unfold cmdS cmdE; rw [hc]; exact ⟨rfl, rfl⟩)
    clear hs
    go_wp2_with fail
    go_ret2
    exact ⟨by rw [HC.out.1, HC.out.2]; rfl, hbel⟩
  · have HC : Hid (cmdS e = numS 2 ++ s ∧ cmdE e = 0) := Lib.hid (by unfold cmdS cmdE; rw [hc, hs (cmdB_iff.1 hc)]; exact ⟨rfl, rfl⟩)
    have hz2 : s.size ≤ 1700 := by rw [hs (cmdB_iff.1 hc)]; exact enc_size e (cmdB_iff.1 hc).1 HW.out
    clear hs
    go_wp2_with (go_at_call 27; refine (NumS_any _ _ ⟨by decide, by decide⟩).mono ?_; rintro _ w2 ⟨rfl, hb2⟩)
    go_ret2
    exact ⟨by rw [HC.out.1, HC.out.2]; rfl, hbel.trans (hb2.mono hbel.size)⟩
end Go.Proofs.Ytiomhmdkaglelaa
