/- disk: the maps of files as blocks; disk.done. -/
import Derived.Test.YtpdceondgbgpkaaDoorRows
import Derived.Test.YtpdceondgbgpkaaDoorDiskP
import Derived.Test.YtpdceondgbgpkaaDoorMem
import Derived.Maps.OwnSet
import Derived.Maps.StringElems
import Derived.BigRegion
import Derived.WalkSpells
import Derived.WalkLawsBesides
import Derived.Laws.IdiomStrings
import Derived.Lib.Hide
namespace Go.Proofs.YtpdceondgbgpkaaDoor.Dsk
open Go.RowKit Go.Maps
open Go.WideMaps (keyOf_string_mk)
set_option linter.unusedSimpArgs false
set_option linter.unusedVariables false
theorem key_law : Maps.Keyed Tryd.prog 9 := Maps.string_keyed Tryd.underlying9
/-- Block b holds files. -/
def Own (w : World) (b n : Nat) (F : FM) : Prop := ∃ D : DataW Unit, w.ownsMap Tryd.prog 9 (plainElem Tryd.prog 9) b n D ∧ Files D F
namespace Own
variable {w w' : World} {b n : Nat} {F : FM}
theorem lt (h : Own w b n F) : b < w.heap.size := by obtain ⟨D, h, _⟩ := h; exact h.lt
theorem mono (h : Own w b n F) {n' : Nat} (hn : n ≤ n') : Own w b n' F := by obtain ⟨D, h, hF⟩ := h; exact ⟨D, h.mono hn, hF⟩
theorem step (h : Own w b n F) (hb : w'.heap[b]? = w.heap[b]?) : Own w' b n F := by
  obtain ⟨D, ⟨es, clock, hm, F', hs, hD⟩, hF⟩ := h
  exact ⟨D, ⟨es, clock, hb.trans hm, F', hs, hD⟩, hF⟩
theorem alloc (h : Own w b n F) (o : Obj) : Own (w.alloc o) b n F := h.step (Below.heap_alloc w o b h.lt)
theorem set (h : Own w b n F) {g j : Nat} {u : Value} (hne : g ≠ b) : Own (w.setCell ⟨g, j, none⟩ u) b n F := h.step (Below.heap_setCell w ⟨g, j, none⟩ u b (fun e => hne e.symm))
theorem made (w : World) : Own (w.alloc (.map #[] 0)) w.heap.size 0 (fun _ => none) := ⟨_, World.ownsMap_made w _ _ _, Files.empty⟩
theorem lookup (h : Own w b n F) {k : ByteArray} (hk : k.size ≤ maxLen) : (Instr.lookup 40 (.map (some b)) (.string k) false).run Tryd.prog w = .ok (.string (F.get k)) w ∧ (F.get k).size ≤ maxLen := by
  obtain ⟨D, h, hF⟩ := h
  obtain ⟨v, ps, hrun, hv⟩ := h.lookup key_law Tryd.underlying40 (Tryd.zeroValue9 w) (plainElem_string Tryd.underlying9 (s := ⟨#[]⟩) (by decide)) (keyOf_string_mk Tryd.underlying9 hk)
  obtain ⟨s, rfl, hs, hsz⟩ := plainElem_string_inv Tryd.underlying9 hv
  have he := hF.get k
  rw [show (Lit.string (⟨#[]⟩ : ByteArray).data.toList) = .string [] from rfl] at hs
  rw [he] at hs
  have : F.get k = s := by
    exact Files.keyEq.1 (DataW.lit.inj (congrArg Prod.fst hs))
  rw [this]
  exact ⟨hrun, hsz⟩
theorem look_ok (h : Own w b n F) {k : ByteArray} (hk : k.size ≤ maxLen) : (Instr.lookup 40 (.map (some b)) (.string k) true).run Tryd.prog w = .ok (.tuple #[.string (F.get k), .bool (F k).isSome]) w := by
  obtain ⟨D, h, hF⟩ := h
  obtain ⟨v, ps, hrun, hv⟩ := h.look_ok key_law Tryd.underlying40 (Tryd.zeroValue9 w) (plainElem_string Tryd.underlying9 (s := ⟨#[]⟩) (by decide)) (keyOf_string_mk Tryd.underlying9 hk)
  obtain ⟨s, rfl, hs, hsz⟩ := plainElem_string_inv Tryd.underlying9 hv
  rw [show (Lit.string (⟨#[]⟩ : ByteArray).data.toList) = .string [] from rfl, hF.get k] at hs
  have : F.get k = s := by
    exact Files.keyEq.1 (DataW.lit.inj (congrArg Prod.fst hs))
  rw [hrun, this, hF.has]
theorem store (h : Own w b n F) (hn : n < maxLen) {k v : ByteArray} (hk : k.size ≤ maxLen) (hv : v.size ≤ maxLen) :
    ∃ w', (Instr.mapUpdate 40 (.map (some b)) (.string k) (.string v)).run Tryd.prog w = .ok () w' ∧ Own w' b (n + 1) (F.set k v) ∧ w.grownBy w' (some b) := by
  obtain ⟨D, h, hF⟩ := h
  obtain ⟨w', hrun, h', hg⟩ := h.update key_law Tryd.underlying40 hn (keyOf_string_mk Tryd.underlying9 hk) (plainElem_string Tryd.underlying9 hv)
  exact ⟨w', hrun, ⟨_, h', hF.put k v⟩, hg⟩
theorem drop (h : Own w b n F) {k : ByteArray} (hk : k.size ≤ maxLen) (ty : TypeId) :
    ∃ w', (Builtin.delete_ #[40, 9] ty #[.map (some b), .string k]).run Tryd.prog w = .ok (.tuple #[]) w' ∧ Own w' b n (F.del k) ∧ w.grownBy w' (some b) := by
  obtain ⟨D, h, hF⟩ := h
  obtain ⟨w', hrun, h', hg⟩ := h.drop key_law Tryd.underlying40 (keyOf_string_mk Tryd.underlying9 hk) ty
  exact ⟨w', hrun, ⟨_, h', hF.del k⟩, hg.grown⟩
end Own
/-- A change as the program holds it. -/
def Chg.val : Chg → Value
  | .put n s a => .iface 60 (.agg #[.string n, .string s, .int .i64 a])
  | .trim n k => .iface 70 (.agg #[.string n, .int .i64 k])
  | .move n t => .iface 72 (.agg #[.string n, .string t])
  | .drop n => .iface 74 (.agg #[.string n])
/-! ### a type switch on a struct's type -/
theorem ta_hit {P : Program} {t : TypeId} (h : (P.underlying t).map (fun d => match d with | .struct _ => true | _ => false) = some true) (xT : TypeId) (v : Value) (w : World) :
    (Instr.typeAssert (.iface t v) xT t true).run P w = .ok (.tuple #[v, .bool true]) w := by
  obtain ⟨d, hd, hs⟩ := Option.map_eq_some_iff.1 h
  cases d <;> simp at hs
  simp [Instr.typeAssert, run_underlying hd]
theorem ta_miss {P : Program} {t t' : TypeId} {z : Value} (h : (P.underlying t).map (fun d => match d with | .struct _ => true | _ => false) = some true) (hz : (P.info? t).map (·.zero) = some (some z)) (hne : t' ≠ t) (xT : TypeId) (v : Value) (w : World) :
    (Instr.typeAssert (.iface t' v) xT t true).run P w = .ok (.tuple #[z, .bool false]) w := by
  obtain ⟨d, hd, hs⟩ := Option.map_eq_some_iff.1 h
  obtain ⟨j, hj, hz'⟩ := Option.map_eq_some_iff.1 hz
  cases d <;> simp at hs
  simp [Instr.typeAssert, run_underlying hd, hne, zeroValue, typeInfo, hj, hz']
theorem hit_put (v : Value) (w : World) : (Instr.typeAssert (.iface 60 v) 57 60 true).run Tryd.prog w = .ok (.tuple #[v, .bool true]) w := ta_hit (by kernel_rfl) _ _ _
theorem hit_trim (v : Value) (w : World) : (Instr.typeAssert (.iface 70 v) 57 70 true).run Tryd.prog w = .ok (.tuple #[v, .bool true]) w := ta_hit (by kernel_rfl) _ _ _
theorem hit_move (v : Value) (w : World) : (Instr.typeAssert (.iface 72 v) 57 72 true).run Tryd.prog w = .ok (.tuple #[v, .bool true]) w := ta_hit (by kernel_rfl) _ _ _
theorem hit_drop (v : Value) (w : World) : (Instr.typeAssert (.iface 74 v) 57 74 true).run Tryd.prog w = .ok (.tuple #[v, .bool true]) w := ta_hit (by kernel_rfl) _ _ _
theorem miss_put (t : TypeId) (hne : t ≠ 60) (v : Value) (w : World) : (Instr.typeAssert (.iface t v) 57 60 true).run Tryd.prog w = .ok (.tuple #[.agg #[.string ⟨#[]⟩, .string ⟨#[]⟩, .int .i64 0], .bool false]) w := ta_miss (by kernel_rfl) (by kernel_rfl) hne _ _ _
theorem miss_trim (t : TypeId) (hne : t ≠ 70) (v : Value) (w : World) : (Instr.typeAssert (.iface t v) 57 70 true).run Tryd.prog w = .ok (.tuple #[.agg #[.string ⟨#[]⟩, .int .i64 0], .bool false]) w := ta_miss (by kernel_rfl) (by kernel_rfl) hne _ _ _
theorem miss_move (t : TypeId) (hne : t ≠ 72) (v : Value) (w : World) : (Instr.typeAssert (.iface t v) 57 72 true).run Tryd.prog w = .ok (.tuple #[.agg #[.string ⟨#[]⟩, .string ⟨#[]⟩], .bool false]) w := ta_miss (by kernel_rfl) (by kernel_rfl) hne _ _ _
/-- What is left of a world in which one block alone was turned, and others were made. -/
theorem ch_grown {w w1 : World} {o : Obj} {b : Nat} (hlt : b < w.heap.size) (hg : (w.alloc o).grownBy w1 (some b)) : Mem.Ch (fun i => i = b) w w1 :=
  ((Mem.Ch.refl _ w).alloc o).grown hg (fun k hk => .inr (by cases hk; rfl))
set_option maxRecDepth 100000 in
set_option maxHeartbeats 2000000 in
theorem done_drop (b n : Nat) (F : FM) (k : ByteArray) (w : World) (h : Own w b n F) (hk : k.size ≤ maxLen) :
    Calls Tryd.prog 26 #[.map (some b), (Chg.drop k).val] w fun r w' => r = .returned (.tuple #[]) ∧ Mem.Ch (fun i => i = b) w w' ∧ Own w' b n (F.del k) := by
  have hlt := h.lt
  have hO := h.alloc (.cells #[.string k] 74)
  obtain ⟨w1, hd, hO1, hg⟩ := hO.drop hk 0
  have m1 := miss_put 74 (by decide)
  have m2 := miss_trim 74 (by decide)
  have m3 := miss_move 74 (by decide)
  have m4 := hit_drop
  unfold Chg.val
  go_enter Tryd.func26, Tryd.ntmps26
  go_wp2
  go_end0
  exact ⟨rfl, ch_grown hlt hg, hO1⟩
set_option maxRecDepth 100000 in
set_option maxHeartbeats 2000000 in
theorem done_move (b n : Nat) (F : FM) (k t : ByteArray) (w : World) (h : Own w b n F) (hk : k.size ≤ maxLen) (ht : t.size ≤ maxLen) (hn : n < maxLen) :
    Calls Tryd.prog 26 #[.map (some b), (Chg.move k t).val] w fun r w' => r = .returned (.tuple #[]) ∧ Mem.Ch (fun i => i = b) w w' ∧ Own w' b (n + 1) ((F.del k).set t (F.get k)) := by
  have hlt := h.lt
  have hO := h.alloc (.cells #[.string k, .string t] 72)
  obtain ⟨hl, hsz⟩ := hO.lookup hk
  obtain ⟨w1, hd, hO1, hg⟩ := hO.drop hk 0
  obtain ⟨w2, hu, hO2, hg2⟩ := hO1.store hn ht hsz
  have hb1 : w1.heap[w.heap.size]? = some (.cells #[.string k, .string t] 72 (0, 0)) := (hg.block _ (by simp) (by simp; omega)).trans (Mem.new w _)
  have c1 := Mem.cell hb1 (j := 1) rfl
  have m1 := miss_put 72 (by decide)
  have m2 := miss_trim 72 (by decide)
  have m4 := hit_move
  unfold Chg.val
  go_enter Tryd.func26, Tryd.ntmps26
  go_wp2
  go_end0
  exact ⟨rfl, (ch_grown hlt hg).grown hg2 (fun i hi => .inr (by cases hi; rfl)), hO2⟩
set_option maxRecDepth 100000 in
set_option maxHeartbeats 2000000 in
theorem done_trim (b n : Nat) (F : FM) (k : ByteArray) (m : Nat) (w : World) (h : Own w b n F) (hk : k.size ≤ maxLen) (hm : m ≤ (F.get k).size) (hn : n < maxLen) :
    Calls Tryd.prog 26 #[.map (some b), (Chg.trim k m).val] w fun r w' => r = .returned (.tuple #[]) ∧ Mem.Ch (fun i => i = b) w w' ∧ Own w' b (n + 1) (F.set k ((F.get k).extract 0 m)) := by
  have hlt := h.lt
  have hO : Own (w.alloc (.cells #[.string k, .int .i64 m] 70)).drew b n F := h.alloc (.cells #[.string k, .int .i64 m] 70)
  obtain ⟨hl, hsz⟩ := hO.lookup hk
  obtain ⟨w2, hu, hO2, hg2⟩ := hO.store hn hk (v := (F.get k).extract 0 m) (by rw [ByteArray.size_extract]; omega)
  have m1 := miss_put 70 (by decide)
  have m2 := hit_trim
  unfold Chg.val
  go_enter Tryd.func26, Tryd.ntmps26
  go_wp2
  go_region
  all_goals go_wp2
  all_goals go_end0
  all_goals exact ⟨rfl, (ch_grown (o := .cells #[.string k, .int .i64 m] 70) hlt ⟨hg2.os, hg2.tape, hg2.output, hg2.size, hg2.block⟩), hO2⟩
set_option maxRecDepth 100000 in
set_option maxHeartbeats 2000000 in
theorem done_put_end (b n : Nat) (F : FM) (k s : ByteArray) (a : Nat) (w : World) (h : Own w b n F) (hk : k.size ≤ maxLen) (ha : a ≤ (F.get k).size) (hs : a + s.size ≤ 1099511627776) (hn : n < maxLen) (he : ¬ a + s.size < (F.get k).size) :
    Calls Tryd.prog 26 #[.map (some b), (Chg.put k s a).val] w fun r w' => r = .returned (.tuple #[]) ∧ Mem.Ch (fun i => i = b) w w' ∧ Own w' b (n + 1) (F.set k (splice (F.get k) s a)) := by
  have hlt := h.lt
  have hO := h.alloc (.cells #[.string k, .string s, .int .i64 a] 60)
  have hO' : Own (w.alloc (.cells #[.string k, .string s, .int .i64 a] 60)).drew b n F := hO
  obtain ⟨hl, hsz⟩ := hO.lookup hk
  have hsp := splice_size (F.get k) s a ha
  unfold splice at hsp ⊢
  rw [if_neg he] at hsp ⊢
  have hmx : (maxLen : Nat) = 9223372036854775807 := rfl
  obtain ⟨w2, hu, hO2, hg2⟩ := hO'.store hn hk (v := (F.get k).extract 0 a ++ s ++ ⟨#[]⟩) (by omega)
  have hw : IntKind.i64.wrap ((a : Int) + (s.size : Int)) = (a + s.size : Nat) := by simp [IntKind.wrap, IntKind.bits]; omega
  have m1 := hit_put
  unfold Chg.val
  go_enter Tryd.func26, Tryd.ntmps26
  go_wp2
  go_region
  all_goals go_wp2
  all_goals go_end0
  all_goals exact ⟨rfl, (ch_grown (o := .cells #[.string k, .string s, .int .i64 a] 60) hlt ⟨hg2.os, hg2.tape, hg2.output, hg2.size, hg2.block⟩), hO2⟩
set_option maxRecDepth 100000 in
set_option maxHeartbeats 2000000 in
theorem done_put_in (b n : Nat) (F : FM) (k s : ByteArray) (a : Nat) (w : World) (h : Own w b n F) (hk : k.size ≤ maxLen) (ha : a ≤ (F.get k).size) (hs : a + s.size ≤ 1099511627776) (hn : n < maxLen) (he : a + s.size < (F.get k).size) :
    Calls Tryd.prog 26 #[.map (some b), (Chg.put k s a).val] w fun r w' => r = .returned (.tuple #[]) ∧ Mem.Ch (fun i => i = b) w w' ∧ Own w' b (n + 1) (F.set k (splice (F.get k) s a)) := by
  have hlt := h.lt
  have hO := h.alloc (.cells #[.string k, .string s, .int .i64 a] 60)
  have hO' : Own (w.alloc (.cells #[.string k, .string s, .int .i64 a] 60)).drew b n F := hO
  obtain ⟨hl, hsz⟩ := hO.lookup hk
  have hsp := splice_size (F.get k) s a ha
  unfold splice at hsp ⊢
  rw [if_pos he] at hsp ⊢
  have hmx : (maxLen : Nat) = 9223372036854775807 := rfl
  obtain ⟨w2, hu, hO2, hg2⟩ := hO'.store hn hk (v := (F.get k).extract 0 a ++ s ++ (F.get k).extract (a + s.size) (F.get k).size) (by omega)
  have hw : IntKind.i64.wrap ((a : Int) + (s.size : Int)) = (a + s.size : Nat) := by simp [IntKind.wrap, IntKind.bits]; omega
  have m1 := hit_put
  unfold Chg.val
  go_enter Tryd.func26, Tryd.ntmps26
  go_wp2
  go_region
  all_goals go_wp2
  all_goals go_end0
  all_goals exact ⟨rfl, (ch_grown (o := .cells #[.string k, .string s, .int .i64 a] 60) hlt ⟨hg2.os, hg2.tape, hg2.output, hg2.size, hg2.block⟩), hO2⟩
/-- A change that may be, done. -/
theorem done_any (b n : Nat) (F : FM) (c : Chg) (w : World) (h : Own w b n F) (hc : c.ok F) (hn : n < maxLen) :
    Calls Tryd.prog 26 #[.map (some b), c.val] w fun r w' => r = .returned (.tuple #[]) ∧ Mem.Ch (fun i => i = b) w w' ∧ Own w' b (n + 1) (c.does F) := by
  cases c with
  | put k s a =>
    by_cases he : a + s.size < (F.get k).size
    · exact done_put_in b n F k s a w h hc.1 hc.2.1 hc.2.2 hn he
    · exact done_put_end b n F k s a w h hc.1 hc.2.1 hc.2.2 hn he
  | trim k m => exact done_trim b n F k m w h hc.1 hc.2 hn
  | move k t => exact done_move b n F k t w h hc.1 hc.2 hn
  | drop k => exact (done_drop b n F k w h hc).mono fun _ _ ⟨h1, h2, h3⟩ => ⟨h1, h2, h3.mono (Nat.le_succ n)⟩
end Go.Proofs.YtpdceondgbgpkaaDoor.Dsk
