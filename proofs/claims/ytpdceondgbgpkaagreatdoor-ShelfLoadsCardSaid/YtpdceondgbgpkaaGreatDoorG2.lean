/- disk: the maps of files as blocks; disk.done. · disk: a disk as the program holds it; its small functions. · A file's cells; small facts. · Rows of cells, one behind the other. -/
import Derived.Test.YtpdceondgbgpkaaGreatDoorRows
import Derived.Test.YtpdceondgbgpkaaGreatDoorG1
import Derived.Maps.OwnSet
import Derived.Maps.StringElems
import Derived.BigRegion
import Derived.WalkSpells
import Derived.WalkLawsBesides
import Derived.Laws.IdiomStrings
import Derived.Lib.Hide
namespace Go.Proofs.YtpdceondgbgpkaaGreatDoor.Dsk
open Go.RowKit Go.Maps
open Go.WideMaps (keyOf_string_mk)
set_option linter.unusedSimpArgs false
set_option linter.unusedVariables false
theorem key_law : Maps.Keyed Tryz.prog 9 := Maps.string_keyed Tryz.underlying9
/-- Block b holds files. -/
def Own (w : World) (b n : Nat) (F : FM) : Prop := ∃ D : DataW Unit, w.ownsMap Tryz.prog 9 (plainElem Tryz.prog 9) b n D ∧ Files D F
namespace Own
variable {w w' : World} {b n : Nat} {F : FM}
theorem lt (h : Own w b n F) : b < w.heap.size := by obtain ⟨D, h, _⟩ := h; exact h.lt
theorem mono (h : Own w b n F) {n' : Nat} (hn : n ≤ n') : Own w b n' F := by obtain ⟨D, h, hF⟩ := h; exact ⟨D, h.mono hn, hF⟩
theorem step (h : Own w b n F) (hb : w'.heap[b]? = w.heap[b]?) : Own w' b n F := by
  obtain ⟨D, ⟨es, clock, hm, F', hs, hD⟩, hF⟩ := h
  exact ⟨D, ⟨es, clock, hb.trans hm, F', hs, hD⟩, hF⟩
theorem alloc (h : Own w b n F) (o : Obj) : Own (w.alloc o) b n F := h.step (Below.heap_alloc w o b h.lt)
theorem set (h : Own w b n F) {g j : Nat} {u : Value} (hne : g ≠ b) : Own (w.setCell ⟨g, j, none⟩ u) b n F := h.step (Below.heap_setCell w ⟨g, j, none⟩ u b (fun e => hne e.symm))
theorem made (w : World) : Own (w.alloc (.map #[] 0)) w.heap.size 0 (fun _ => none) := ⟨_, World.ownsMap_made w _ _ _, Files.empty⟩
theorem lookup (h : Own w b n F) {k : ByteArray} (hk : k.size ≤ maxLen) : (Instr.lookup 48 (.map (some b)) (.string k) false).run Tryz.prog w = .ok (.string (F.get k)) w ∧ (F.get k).size ≤ maxLen := by
  obtain ⟨D, h, hF⟩ := h
  obtain ⟨v, ps, hrun, hv⟩ := h.lookup key_law Tryz.underlying48 (Tryz.zeroValue9 w) (plainElem_string Tryz.underlying9 (s := ⟨#[]⟩) (by decide)) (keyOf_string_mk Tryz.underlying9 hk)
  obtain ⟨s, rfl, hs, hsz⟩ := plainElem_string_inv Tryz.underlying9 hv
  have he := hF.get k
  rw [show (Lit.string (⟨#[]⟩ : ByteArray).data.toList) = .string [] from rfl] at hs
  rw [he] at hs
  have : F.get k = s := by
    exact Files.keyEq.1 (DataW.lit.inj (congrArg Prod.fst hs))
  rw [this]
  exact ⟨hrun, hsz⟩
theorem look_ok (h : Own w b n F) {k : ByteArray} (hk : k.size ≤ maxLen) : (Instr.lookup 48 (.map (some b)) (.string k) true).run Tryz.prog w = .ok (.tuple #[.string (F.get k), .bool (F k).isSome]) w := by
  obtain ⟨D, h, hF⟩ := h
  obtain ⟨v, ps, hrun, hv⟩ := h.look_ok key_law Tryz.underlying48 (Tryz.zeroValue9 w) (plainElem_string Tryz.underlying9 (s := ⟨#[]⟩) (by decide)) (keyOf_string_mk Tryz.underlying9 hk)
  obtain ⟨s, rfl, hs, hsz⟩ := plainElem_string_inv Tryz.underlying9 hv
  rw [show (Lit.string (⟨#[]⟩ : ByteArray).data.toList) = .string [] from rfl, hF.get k] at hs
  have : F.get k = s := by
    exact Files.keyEq.1 (DataW.lit.inj (congrArg Prod.fst hs))
  rw [hrun, this, hF.has]
theorem store (h : Own w b n F) (hn : n < maxLen) {k v : ByteArray} (hk : k.size ≤ maxLen) (hv : v.size ≤ maxLen) :
    ∃ w', (Instr.mapUpdate 48 (.map (some b)) (.string k) (.string v)).run Tryz.prog w = .ok () w' ∧ Own w' b (n + 1) (F.set k v) ∧ w.grownBy w' (some b) := by
  obtain ⟨D, h, hF⟩ := h
  obtain ⟨w', hrun, h', hg⟩ := h.update key_law Tryz.underlying48 hn (keyOf_string_mk Tryz.underlying9 hk) (plainElem_string Tryz.underlying9 hv)
  exact ⟨w', hrun, ⟨_, h', hF.put k v⟩, hg⟩
theorem drop (h : Own w b n F) {k : ByteArray} (hk : k.size ≤ maxLen) (ty : TypeId) :
    ∃ w', (Builtin.delete_ #[48, 9] ty #[.map (some b), .string k]).run Tryz.prog w = .ok (.tuple #[]) w' ∧ Own w' b n (F.del k) ∧ w.grownBy w' (some b) := by
  obtain ⟨D, h, hF⟩ := h
  obtain ⟨w', hrun, h', hg⟩ := h.drop key_law Tryz.underlying48 (keyOf_string_mk Tryz.underlying9 hk) ty
  exact ⟨w', hrun, ⟨_, h', hF.del k⟩, hg.grown⟩
end Own
/-- A change as the program holds it. -/
def Chg.val : Chg → Value
  | .put n s a => .iface 55 (.agg #[.string n, .string s, .int .i64 a])
  | .trim n k => .iface 119 (.agg #[.string n, .int .i64 k])
  | .move n t => .iface 121 (.agg #[.string n, .string t])
  | .drop n => .iface 123 (.agg #[.string n])
/-! ### a type switch on a struct's type -/
theorem ta_hit {P : Program} {t : TypeId} (h : (P.underlying t).map (fun d => match d with | .struct _ => true | _ => false) = some true) (xT : TypeId) (v : Value) (w : World) :
    (Instr.typeAssert (.iface t v) xT t true).run P w = .ok (.tuple #[v, .bool true]) w := by
  obtain ⟨d, hd, hs⟩ := Option.map_eq_some_iff.1 h
  cases d <;> simp at hs
  simp [Instr.typeAssert, run_underlying hd]
theorem ta_miss {P : Program} {t t' : TypeId} {z : Value} (h : (P.underlying t).map (fun d => match d with | .struct _ => true | _ => false) = some true) (hz : (P.info? t).map (·.zero) = some (some z)) (hne : t' ≠ t) (xT : TypeId) (v : Value) (w : World) :
    (Instr.typeAssert (.iface t' v) xT t true).run P w = .ok (.tuple #[z, .bool false]) w := by
  obtain ⟨d, hd, hs⟩ := Option.map_eq_some_iff.1 h
  obtain ⟨j, hj, hz'⟩ := Option.map_eq_some_iff.1 hz
  cases d <;> simp at hs
  simp [Instr.typeAssert, run_underlying hd, hne, zeroValue, typeInfo, hj, hz']
theorem hit_put (v : Value) (w : World) : (Instr.typeAssert (.iface 55 v) 75 55 true).run Tryz.prog w = .ok (.tuple #[v, .bool true]) w := ta_hit (by kernel_rfl) _ _ _
theorem hit_trim (v : Value) (w : World) : (Instr.typeAssert (.iface 119 v) 75 119 true).run Tryz.prog w = .ok (.tuple #[v, .bool true]) w := ta_hit (by kernel_rfl) _ _ _
theorem hit_move (v : Value) (w : World) : (Instr.typeAssert (.iface 121 v) 75 121 true).run Tryz.prog w = .ok (.tuple #[v, .bool true]) w := ta_hit (by kernel_rfl) _ _ _
theorem hit_drop (v : Value) (w : World) : (Instr.typeAssert (.iface 123 v) 75 123 true).run Tryz.prog w = .ok (.tuple #[v, .bool true]) w := ta_hit (by kernel_rfl) _ _ _
theorem miss_put (t : TypeId) (hne : t ≠ 55) (v : Value) (w : World) : (Instr.typeAssert (.iface t v) 75 55 true).run Tryz.prog w = .ok (.tuple #[.agg #[.string ⟨#[]⟩, .string ⟨#[]⟩, .int .i64 0], .bool false]) w := ta_miss (by kernel_rfl) (by kernel_rfl) hne _ _ _
theorem miss_trim (t : TypeId) (hne : t ≠ 119) (v : Value) (w : World) : (Instr.typeAssert (.iface t v) 75 119 true).run Tryz.prog w = .ok (.tuple #[.agg #[.string ⟨#[]⟩, .int .i64 0], .bool false]) w := ta_miss (by kernel_rfl) (by kernel_rfl) hne _ _ _
theorem miss_move (t : TypeId) (hne : t ≠ 121) (v : Value) (w : World) : (Instr.typeAssert (.iface t v) 75 121 true).run Tryz.prog w = .ok (.tuple #[.agg #[.string ⟨#[]⟩, .string ⟨#[]⟩], .bool false]) w := ta_miss (by kernel_rfl) (by kernel_rfl) hne _ _ _
/-- What is left of a world in which one block alone was turned, and others were made. -/
theorem ch_grown {w w1 : World} {o : Obj} {b : Nat} (hlt : b < w.heap.size) (hg : (w.alloc o).grownBy w1 (some b)) : Mem.Ch (fun i => i = b) w w1 :=
  ((Mem.Ch.refl _ w).alloc o).grown hg (fun k hk => .inr (by cases hk; rfl))
set_option maxRecDepth 100000 in
set_option maxHeartbeats 2000000 in
theorem done_drop (b n : Nat) (F : FM) (k : ByteArray) (w : World) (h : Own w b n F) (hk : k.size ≤ maxLen) :
    Calls Tryz.prog 32 #[.map (some b), (Chg.drop k).val] w fun r w' => r = .returned (.tuple #[]) ∧ Mem.Ch (fun i => i = b) w w' ∧ Own w' b n (F.del k) := by
  have hlt := h.lt
  have hO := h.alloc (.cells #[.string k] 123)
  obtain ⟨w1, hd, hO1, hg⟩ := hO.drop hk 0
  have m1 := miss_put 123 (by decide)
  have m2 := miss_trim 123 (by decide)
  have m3 := miss_move 123 (by decide)
  have m4 := hit_drop
  unfold Chg.val
  go_enter Tryz.func32, Tryz.ntmps32
  go_wp2
  go_end0
  exact ⟨rfl, ch_grown hlt hg, hO1⟩
set_option maxRecDepth 100000 in
set_option maxHeartbeats 2000000 in
theorem done_move (b n : Nat) (F : FM) (k t : ByteArray) (w : World) (h : Own w b n F) (hk : k.size ≤ maxLen) (ht : t.size ≤ maxLen) (hn : n < maxLen) :
    Calls Tryz.prog 32 #[.map (some b), (Chg.move k t).val] w fun r w' => r = .returned (.tuple #[]) ∧ Mem.Ch (fun i => i = b) w w' ∧ Own w' b (n + 1) ((F.del k).set t (F.get k)) := by
  have hlt := h.lt
  have hO := h.alloc (.cells #[.string k, .string t] 121)
  obtain ⟨hl, hsz⟩ := hO.lookup hk
  obtain ⟨w1, hd, hO1, hg⟩ := hO.drop hk 0
  obtain ⟨w2, hu, hO2, hg2⟩ := hO1.store hn ht hsz
  have hb1 : w1.heap[w.heap.size]? = some (.cells #[.string k, .string t] 121 (0, 0)) := (hg.block _ (by simp) (by simp; omega)).trans (Mem.new w _)
  have c1 := Mem.cell hb1 (j := 1) rfl
  have m1 := miss_put 121 (by decide)
  have m2 := miss_trim 121 (by decide)
  have m4 := hit_move
  unfold Chg.val
  go_enter Tryz.func32, Tryz.ntmps32
  go_wp2
  go_end0
  exact ⟨rfl, (ch_grown hlt hg).grown hg2 (fun i hi => .inr (by cases hi; rfl)), hO2⟩
set_option maxRecDepth 100000 in
set_option maxHeartbeats 2000000 in
theorem done_trim (b n : Nat) (F : FM) (k : ByteArray) (m : Nat) (w : World) (h : Own w b n F) (hk : k.size ≤ maxLen) (hm : m ≤ (F.get k).size) (hn : n < maxLen) :
    Calls Tryz.prog 32 #[.map (some b), (Chg.trim k m).val] w fun r w' => r = .returned (.tuple #[]) ∧ Mem.Ch (fun i => i = b) w w' ∧ Own w' b (n + 1) (F.set k ((F.get k).extract 0 m)) := by
  have hlt := h.lt
  have hO : Own (w.alloc (.cells #[.string k, .int .i64 m] 119)).drew b n F := h.alloc (.cells #[.string k, .int .i64 m] 119)
  obtain ⟨hl, hsz⟩ := hO.lookup hk
  obtain ⟨w2, hu, hO2, hg2⟩ := hO.store hn hk (v := (F.get k).extract 0 m) (by rw [ByteArray.size_extract]; omega)
  have m1 := miss_put 119 (by decide)
  have m2 := hit_trim
  unfold Chg.val
  go_enter Tryz.func32, Tryz.ntmps32
  go_wp2
  go_region
  all_goals go_wp2
  all_goals go_end0
  all_goals exact ⟨rfl, (ch_grown (o := .cells #[.string k, .int .i64 m] 119) hlt ⟨hg2.os, hg2.tape, hg2.output, hg2.size, hg2.block⟩), hO2⟩
set_option maxRecDepth 100000 in
set_option maxHeartbeats 2000000 in
theorem done_put_end (b n : Nat) (F : FM) (k s : ByteArray) (a : Nat) (w : World) (h : Own w b n F) (hk : k.size ≤ maxLen) (ha : a ≤ (F.get k).size) (hs : a + s.size ≤ 1099511627776) (hn : n < maxLen) (he : ¬ a + s.size < (F.get k).size) :
    Calls Tryz.prog 32 #[.map (some b), (Chg.put k s a).val] w fun r w' => r = .returned (.tuple #[]) ∧ Mem.Ch (fun i => i = b) w w' ∧ Own w' b (n + 1) (F.set k (splice (F.get k) s a)) := by
  have hlt := h.lt
  have hO := h.alloc (.cells #[.string k, .string s, .int .i64 a] 55)
  have hO' : Own (w.alloc (.cells #[.string k, .string s, .int .i64 a] 55)).drew b n F := hO
  obtain ⟨hl, hsz⟩ := hO.lookup hk
  have hsp := splice_size (F.get k) s a ha
  unfold splice at hsp ⊢
  rw [if_neg he] at hsp ⊢
  have hmx : (maxLen : Nat) = 9223372036854775807 := rfl
  obtain ⟨w2, hu, hO2, hg2⟩ := hO'.store hn hk (v := (F.get k).extract 0 a ++ s ++ ⟨#[]⟩) (by omega)
  have hw : IntKind.i64.wrap ((a : Int) + (s.size : Int)) = (a + s.size : Nat) := by simp [IntKind.wrap, IntKind.bits]; omega
  have m1 := hit_put
  unfold Chg.val
  go_enter Tryz.func32, Tryz.ntmps32
  go_wp2
  go_region
  all_goals go_wp2
  all_goals go_end0
  all_goals exact ⟨rfl, (ch_grown (o := .cells #[.string k, .string s, .int .i64 a] 55) hlt ⟨hg2.os, hg2.tape, hg2.output, hg2.size, hg2.block⟩), hO2⟩
set_option maxRecDepth 100000 in
set_option maxHeartbeats 2000000 in
theorem done_put_in (b n : Nat) (F : FM) (k s : ByteArray) (a : Nat) (w : World) (h : Own w b n F) (hk : k.size ≤ maxLen) (ha : a ≤ (F.get k).size) (hs : a + s.size ≤ 1099511627776) (hn : n < maxLen) (he : a + s.size < (F.get k).size) :
    Calls Tryz.prog 32 #[.map (some b), (Chg.put k s a).val] w fun r w' => r = .returned (.tuple #[]) ∧ Mem.Ch (fun i => i = b) w w' ∧ Own w' b (n + 1) (F.set k (splice (F.get k) s a)) := by
  have hlt := h.lt
  have hO := h.alloc (.cells #[.string k, .string s, .int .i64 a] 55)
  have hO' : Own (w.alloc (.cells #[.string k, .string s, .int .i64 a] 55)).drew b n F := hO
  obtain ⟨hl, hsz⟩ := hO.lookup hk
  have hsp := splice_size (F.get k) s a ha
  unfold splice at hsp ⊢
  rw [if_pos he] at hsp ⊢
  have hmx : (maxLen : Nat) = 9223372036854775807 := rfl
  obtain ⟨w2, hu, hO2, hg2⟩ := hO'.store hn hk (v := (F.get k).extract 0 a ++ s ++ (F.get k).extract (a + s.size) (F.get k).size) (by omega)
  have hw : IntKind.i64.wrap ((a : Int) + (s.size : Int)) = (a + s.size : Nat) := by simp [IntKind.wrap, IntKind.bits]; omega
  have m1 := hit_put
  unfold Chg.val
  go_enter Tryz.func32, Tryz.ntmps32
  go_wp2
  go_region
  all_goals go_wp2
  all_goals go_end0
  all_goals exact ⟨rfl, (ch_grown (o := .cells #[.string k, .string s, .int .i64 a] 55) hlt ⟨hg2.os, hg2.tape, hg2.output, hg2.size, hg2.block⟩), hO2⟩
/-- A change that may be, done. -/
theorem done_any (b n : Nat) (F : FM) (c : Chg) (w : World) (h : Own w b n F) (hc : c.ok F) (hn : n < maxLen) :
    Calls Tryz.prog 32 #[.map (some b), c.val] w fun r w' => r = .returned (.tuple #[]) ∧ Mem.Ch (fun i => i = b) w w' ∧ Own w' b (n + 1) (c.does F) := by
  cases c with
  | put k s a =>
    by_cases he : a + s.size < (F.get k).size
    · exact done_put_in b n F k s a w h hc.1 hc.2.1 hc.2.2 hn he
    · exact done_put_end b n F k s a w h hc.1 hc.2.1 hc.2.2 hn he
  | trim k m => exact done_trim b n F k m w h hc.1 hc.2 hn
  | move k t => exact done_move b n F k t w h hc.1 hc.2 hn
  | drop k => exact (done_drop b n F k w h hc).mono fun _ _ ⟨h1, h2, h3⟩ => ⟨h1, h2, h3.mono (Nat.le_succ n)⟩
end Go.Proofs.YtpdceondgbgpkaaGreatDoor.Dsk
namespace Go.Proofs.YtpdceondgbgpkaaGreatDoor.Dsk
open Go.RowKit Go.Maps
set_option linter.unusedSimpArgs false
set_option linter.unusedVariables false
def cellsOf (d : Dk) (bs bn : Nat) (v : Value) : Array Value := #[.map (some bs), .map (some bn), v, .int .i64 d.room, .int .i64 d.calls, .int .i64 d.after, .int .i64 d.keep, .bool d.down]
/-- Block p is a disk; its blocks are of S; at most N entries. -/
structure At (w : World) (S : Nat → Prop) (p N : Nat) (d : Dk) (bs bn : Nat) (v : Value) : Prop where
  blk : w.heap[p]? = some (.cells (cellsOf d bs bn v) 51 (0, 0))
  sure : ∃ m, Own w bs m d.sure ∧ m + d.row.length ≤ N
  now : Own w bn N d.now
  row : w.ownsRow 0 75 1 v d.row.length (d.row.map Chg.val)
  sp : S p
  ss : S bs
  sn : S bn
  sr : ∀ k, v.ownBlock = some k → S k
  ne : bn ≠ bs
def DiskAt (w : World) (S : Nat → Prop) (p N : Nat) (d : Dk) : Prop := ∃ bs bn v, At w S p N d bs bn v
theorem Own.isMap {w : World} {b n : Nat} {F : FM} (h : Own w b n F) : ∃ es c, w.heap[b]? = some (.map es c) := by obtain ⟨D, ⟨es, c, h, _⟩, _⟩ := h; exact ⟨es, c, h⟩
theorem Own.ne_cells {w : World} {b n g t : Nat} {F : FM} {c : Array Value} (h : Own w b n F) (hg : w.heap[g]? = some (.cells c t (0, 0))) : g ≠ b := by
  rintro rfl
  obtain ⟨es, k, h⟩ := h.isMap
  rw [h] at hg
  cases hg
theorem row_cells {w : World} {base e size n : Nat} {v : Value} {xs : List Value} (h : w.ownsRow base e size v n xs) (k : Nat) (hk : v.ownBlock = some k) : ∃ c, w.heap[k]? = some (.cells c e (0, 0)) := by
  rcases h.2 with ⟨rfl, _⟩ | ⟨g, cap, cur, rfl, hg, hh, _⟩
  · simp [Value.ownBlock] at hk
  · have : g = k := by simpa [Value.ownBlock] using hk
    subst this
    exact ⟨cur, hh⟩
theorem own_stay {w w1 : World} {base e size n : Nat} {v : Value} {xs : List Value} (h : w.ownsRow base e size v n xs) (hm : ∀ k, v.ownBlock = some k → w1.heap[k]? = w.heap[k]?) : w1.ownsRow base e size v n xs := by
  obtain ⟨h1, h2⟩ := h
  refine ⟨h1, ?_⟩
  rcases h2 with ⟨rfl, h0⟩ | ⟨g, cap, cur, rfl, hg, hb, r⟩
  · exact .inl ⟨rfl, h0⟩
  · exact .inr ⟨g, cap, cur, rfl, hg, (hm g rfl).trans hb, r⟩
namespace At
variable {w w1 : World} {S S' : Nat → Prop} {p N bs bn : Nat} {d d' : Dk} {v : Value}
theorem c0 (h : At w S p N d bs bn v) : w.cell? ⟨p, 0, none⟩ = some (.map (some bs)) := Mem.cell h.blk rfl
theorem c1 (h : At w S p N d bs bn v) : w.cell? ⟨p, 1, none⟩ = some (.map (some bn)) := Mem.cell h.blk rfl
theorem c2 (h : At w S p N d bs bn v) : w.cell? ⟨p, 2, none⟩ = some v := Mem.cell h.blk rfl
theorem c3 (h : At w S p N d bs bn v) : w.cell? ⟨p, 3, none⟩ = some (.int .i64 d.room) := Mem.cell h.blk rfl
theorem c4 (h : At w S p N d bs bn v) : w.cell? ⟨p, 4, none⟩ = some (.int .i64 d.calls) := Mem.cell h.blk rfl
theorem c5 (h : At w S p N d bs bn v) : w.cell? ⟨p, 5, none⟩ = some (.int .i64 d.after) := Mem.cell h.blk rfl
theorem c6 (h : At w S p N d bs bn v) : w.cell? ⟨p, 6, none⟩ = some (.int .i64 d.keep) := Mem.cell h.blk rfl
theorem c7 (h : At w S p N d bs bn v) : w.cell? ⟨p, 7, none⟩ = some (.bool d.down) := Mem.cell h.blk rfl
theorem fr (h : At w S p N d bs bn v) (j : Nat) : w.frozen? ⟨p, j, none⟩ = false := Mem.free h.blk
theorem pS (h : At w S p N d bs bn v) : p ≠ bs := by obtain ⟨m, h1, _⟩ := h.sure; exact h1.ne_cells h.blk
theorem pN (h : At w S p N d bs bn v) : p ≠ bn := h.now.ne_cells h.blk
theorem rP (h : At w S p N d bs bn v) (k : Nat) (hk : v.ownBlock = some k) : k ≠ p := by
  rintro rfl
  obtain ⟨c, hc⟩ := row_cells h.row k hk
  have := h.blk
  rw [hc] at this
  injection this with this
  injection this with _ this
  exact absurd this (by decide)
theorem rS (h : At w S p N d bs bn v) (k : Nat) (hk : v.ownBlock = some k) : k ≠ bs := by obtain ⟨m, h1, _⟩ := h.sure; obtain ⟨c, hc⟩ := row_cells h.row k hk; exact h1.ne_cells hc
theorem rN (h : At w S p N d bs bn v) (k : Nat) (hk : v.ownBlock = some k) : k ≠ bn := by obtain ⟨c, hc⟩ := row_cells h.row k hk; exact h.now.ne_cells hc
theorem step (h : At w S p N d bs bn v) (hs : w.heap.size ≤ w1.heap.size) (hm : ∀ k, S k → k < w.heap.size → w1.heap[k]? = w.heap[k]?) (hS : ∀ k, S k → S' k) : At w1 S' p N d bs bn v where
  blk := (hm p h.sp (Mem.lt h.blk)).trans h.blk
  sure := by obtain ⟨m, h1, h2⟩ := h.sure; exact ⟨m, h1.step (hm bs h.ss h1.lt), h2⟩
  now := h.now.step (hm bn h.sn h.now.lt)
  row := own_stay h.row (fun k hk => hm k (h.sr k hk) (by obtain ⟨c, hc⟩ := row_cells h.row k hk; exact Mem.lt hc))
  sp := hS _ h.sp
  ss := hS _ h.ss
  sn := hS _ h.sn
  sr k hk := hS _ (h.sr k hk)
  ne := h.ne
theorem below (h : At w S p N d bs bn v) (hb : Below w.heap.size w w1) : At w1 S p N d bs bn v := h.step hb.size (fun k _ hk => hb.block k hk) (fun _ h => h)
theorem more (h : At w S p N d bs bn v) {N' : Nat} (hn : N ≤ N') : At w S p N' d bs bn v := { h with sure := by obtain ⟨m, h1, h2⟩ := h.sure; exact ⟨m, h1, by omega⟩, now := h.now.mono hn }
/-- The disk's own block alone was turned: numbers in it. -/
theorem turn (h : At w S p N d bs bn v) (hp : w1.heap[p]? = some (.cells (cellsOf d' bs bn v) 51 (0, 0))) (ho : ∀ k, k ≠ p → w1.heap[k]? = w.heap[k]?) (e1 : d'.sure = d.sure) (e2 : d'.now = d.now) (e3 : d'.row = d.row) : At w1 S p N d' bs bn v where
  blk := hp
  sure := by obtain ⟨m, h1, h2⟩ := h.sure; exact ⟨m, by rw [e1]; exact h1.step (ho bs (Ne.symm h.pS)), by rw [e3]; exact h2⟩
  now := by rw [e2]; exact h.now.step (ho bn (Ne.symm h.pN))
  row := by rw [e3]; exact own_stay h.row (fun k hk => ho k (h.rP k hk))
  sp := h.sp
  ss := h.ss
  sn := h.sn
  sr := h.sr
  ne := h.ne
end At
namespace DiskAt
variable {w w1 : World} {S S' : Nat → Prop} {p N : Nat} {d : Dk}
theorem step (h : DiskAt w S p N d) (hs : w.heap.size ≤ w1.heap.size) (hm : ∀ k, S k → k < w.heap.size → w1.heap[k]? = w.heap[k]?) (hS : ∀ k, S k → S' k) : DiskAt w1 S' p N d := by
  obtain ⟨bs, bn, v, h⟩ := h
  exact ⟨bs, bn, v, h.step hs hm hS⟩
theorem below (h : DiskAt w S p N d) (hb : Below w.heap.size w w1) : DiskAt w1 S p N d := h.step hb.size (fun k _ hk => hb.block k hk) (fun _ h => h)
theorem mono (h : DiskAt w S p N d) (hS : ∀ k, S k → S' k) : DiskAt w S' p N d := h.step (Nat.le_refl _) (fun _ _ _ => rfl) hS
theorem more (h : DiskAt w S p N d) {N' : Nat} (hn : N ≤ N') : DiskAt w S p N' d := by
  obtain ⟨bs, bn, v, h⟩ := h
  exact ⟨bs, bn, v, h.more hn⟩
end DiskAt
set_option maxRecDepth 100000 in
set_option maxHeartbeats 2000000 in
theorem ready_any (S : Nat → Prop) (p N : Nat) (d : Dk) (bs bn : Nat) (v : Value) (w : World) (h : At w S p N d bs bn v) :
    Calls Tryz.prog 14 #[.pointer (some ⟨p, 0, none⟩)] w fun r w' => r = .returned (.int .i64 (if d.down then 8 else 0)) ∧ w' = w := by
  have c7 := h.c7
  clear h
  cases hd : d.down <;> rw [hd] at c7
  · go_enter Tryz.func14, Tryz.ntmps14
    go_wp2
    go_ret
    exact ⟨rfl, rfl⟩
  · go_enter Tryz.func14, Tryz.ntmps14
    go_wp2
    go_ret
    exact ⟨rfl, rfl⟩
set_option maxRecDepth 100000 in
set_option maxHeartbeats 2000000 in
theorem ready_nil (w : World) : Calls Tryz.prog 14 #[.pointer none] w fun r w' => r = .returned (.int .i64 1) ∧ w' = w := by
  go_enter Tryz.func14, Tryz.ntmps14
  go_wp2
  go_ret
  exact ⟨rfl, rfl⟩
set_option maxRecDepth 100000 in
set_option maxHeartbeats 2000000 in
theorem count_any (S : Nat → Prop) (p N : Nat) (d : Dk) (bs bn : Nat) (v : Value) (w : World) (h : At w S p N d bs bn v) :
    Calls Tryz.prog 18 #[.pointer (some ⟨p, 0, none⟩)] w fun r w' => r = .returned (.bool d.trips) ∧ Mem.Ch (fun k => k = p) w w' ∧ At w' S p N d.counted bs bn v := by
  have H := Lib.hid h
  have c4 := h.c4
  have c5 := h.c5
  have hf := h.fr 4
  have hf5 := h.fr 5
  clear h
  by_cases ha : d.after = 0
  · have e1 : d.trips = false := if_pos ha
    have e2 : d.counted.after = d.after := by show (if _ then _ else _) = _; rw [if_pos ha, ha]
    rw [e1]
    go_enter Tryz.func18, Tryz.ntmps18
    go_wp2
    go_ret
    refine ⟨rfl, (Mem.Ch.refl (fun k => k = p) w).set (g := p) (.inr rfl), H.out.turn ?_ (fun k hk => Below.heap_setCell w ⟨p, 4, none⟩ _ k hk) rfl rfl rfl⟩
    rw [Mem.set H.out.blk]
    unfold cellsOf
    rw [e2]
    rfl
  · have e1 : d.trips = (wrap64 (d.after - 1) == 0) := if_neg ha
    have e2 : d.counted.after = wrap64 (d.after - 1) := if_neg ha
    rw [e1]
    go_enter Tryz.func18, Tryz.ntmps18
    go_wp2
    go_ret
    refine ⟨rfl, ((Mem.Ch.refl (fun k => k = p) w).set (g := p) (j := 4) (.inr rfl)).set (g := p) (j := 5) (.inr rfl), H.out.turn ?_ (fun k hk => (Below.heap_setCell _ ⟨p, 5, none⟩ _ k hk).trans (Below.heap_setCell w ⟨p, 4, none⟩ _ k hk)) rfl rfl rfl⟩
    rw [Mem.set (Mem.set H.out.blk)]
    unfold cellsOf
    rw [e2]
    rfl
set_option maxRecDepth 100000 in
set_option maxHeartbeats 2000000 in
theorem cost_put (n s : ByteArray) (a : Int) (w : World) (hs : s.size ≤ 1099511627776) : Calls Tryz.prog 137 #[.agg #[.string n, .string s, .int .i64 a]] w fun r w' => r = .returned (.int .i64 (1 + s.size : Nat)) ∧ Below w.heap.size w w' := by
  have hw : wrap64 (1 + (s.size : Int)) = ((1 + s.size : Nat) : Int) := by unfold wrap64; omega
  go_enter Tryz.func137, Tryz.ntmps137
  go_wp2
  go_ret
  exact ⟨by simp, by first | exact Below.refl _ _ | exact (Below.refl _ _).alloc (Nat.le_refl _) _⟩
set_option maxRecDepth 100000 in
set_option maxHeartbeats 2000000 in
theorem cost_trim (n : ByteArray) (k : Int) (w : World) : Calls Tryz.prog 139 #[.agg #[.string n, .int .i64 k]] w fun r w' => r = .returned (.int .i64 1) ∧ Below w.heap.size w w' := by
  go_enter Tryz.func139, Tryz.ntmps139
  go_wp2
  go_ret
  exact ⟨rfl, by first | exact Below.refl _ _ | exact (Below.refl _ _).alloc (Nat.le_refl _) _⟩
set_option maxRecDepth 100000 in
set_option maxHeartbeats 2000000 in
theorem cost_move (n t : ByteArray) (w : World) : Calls Tryz.prog 140 #[.agg #[.string n, .string t]] w fun r w' => r = .returned (.int .i64 1) ∧ Below w.heap.size w w' := by
  go_enter Tryz.func140, Tryz.ntmps140
  go_wp2
  go_ret
  exact ⟨rfl, by first | exact Below.refl _ _ | exact (Below.refl _ _).alloc (Nat.le_refl _) _⟩
set_option maxRecDepth 100000 in
set_option maxHeartbeats 2000000 in
theorem cost_drop (n : ByteArray) (w : World) : Calls Tryz.prog 141 #[.agg #[.string n]] w fun r w' => r = .returned (.int .i64 1) ∧ Below w.heap.size w w' := by
  go_enter Tryz.func141, Tryz.ntmps141
  go_wp2
  go_ret
  exact ⟨rfl, by first | exact Below.refl _ _ | exact (Below.refl _ _).alloc (Nat.le_refl _) _⟩
set_option maxRecDepth 100000 in
set_option maxHeartbeats 2000000 in
theorem Fail_down (S : Nat → Prop) (p N : Nat) (d : Dk) (k : Int) (w : World) (h : DiskAt w S p N d) (hd : d.down = true) :
    Calls Tryz.prog 19 #[.pointer (some ⟨p, 0, none⟩), .int .i64 k] w fun r w' => r = .returned (.tuple #[]) ∧ w' = w := by
  obtain ⟨bs, bn, v, h⟩ := h
  have hr := ready_any S p N d bs bn v w h
  rw [if_pos hd] at hr
  have H := Lib.hid h
  clear h
  go_enter Tryz.func19, Tryz.ntmps19
  go_wp2_with (go_at_call 14; refine hr.mono ?_; rintro _ w1 ⟨rfl, rfl⟩)
  exact bodyPost_ret (v := .tuple #[]) (by simp [results, Tryz.results19, go_sem, *]) rfl ⟨rfl, rfl⟩
end Go.Proofs.YtpdceondgbgpkaaGreatDoor.Dsk
namespace Go.Proofs.YtpdceondgbgpkaaGreatDoor.Dsk
open Go.RowKit
/-- A file's cells: its name, its bytes. -/
def fc (x : ByteArray × ByteArray) : List Value := [.string x.1, .string x.2]
theorem measS {n k : Nat} (h : k < n) : n - (intOf (.int .i64 ((k : Int) + 1))).toNat < n - (intOf (.int .i64 (k : Int))).toNat := by
  show n - ((k : Int) + 1).toNat < n - ((k : Int)).toNat; omega
theorem toList_ne {a b : ByteArray} (h : a ≠ b) : ¬ a.toList = b.toList := fun e => h (by
  rw [ByteArray.toList_eq, ByteArray.toList_eq] at e
  exact ByteArray.ext (Array.toList_inj.1 e))
end Go.Proofs.YtpdceondgbgpkaaGreatDoor.Dsk
namespace Go.Proofs.YtpdceondgbgpkaaGreatDoor
open Go.RowKit
namespace Mem
theorem flat_length (sz : Nat) : ∀ rows : List (List Value), (∀ r ∈ rows, r.length = sz) → rows.flatten.length = rows.length * sz
  | [], _ => by simp
  | r :: rows, h => by
    rw [List.flatten_cons, List.length_append, h r List.mem_cons_self, flat_length sz rows (fun x hx => h x (List.mem_cons_of_mem _ hx)), List.length_cons, Nat.add_mul, Nat.one_mul, Nat.add_comm]
theorem flat_get (sz : Nat) : ∀ (rows : List (List Value)) (k i : Nat) (r : List Value) (c : Value), (∀ r ∈ rows, r.length = sz) → rows[k]? = some r → r[i]? = some c → rows.flatten[k * sz + i]? = some c
  | [], k, i, r, c, _, h1, _ => by simp at h1
  | r0 :: rows, 0, i, r, c, h, h1, h2 => by
    have e : r0 = r := by simpa using h1
    subst e
    have hi := (List.getElem?_eq_some_iff.1 h2).1
    rw [List.flatten_cons, Nat.zero_mul, Nat.zero_add, List.getElem?_append_left hi]
    exact h2
  | r0 :: rows, k + 1, i, r, c, h, h1, h2 => by
    have h0 := h r0 List.mem_cons_self
    rw [List.flatten_cons, List.getElem?_append_right (by rw [h0, Nat.add_mul]; omega), h0, show (k + 1) * sz + i - sz = k * sz + i by rw [Nat.add_mul]; omega]
    exact flat_get sz rows k i r c (fun x hx => h x (List.mem_cons_of_mem _ hx)) (by simpa using h1) h2
theorem flat_at (sz : Nat) (hsz : 0 < sz) : ∀ (rows : List (List Value)) (j : Nat) (c : Value), (∀ r ∈ rows, r.length = sz) → rows.flatten[j]? = some c → ∃ r, rows[j / sz]? = some r ∧ r[j % sz]? = some c
  | [], j, c, _, h => by simp at h
  | r0 :: rows, j, c, h, h1 => by
    have h0 := h r0 List.mem_cons_self
    rw [List.flatten_cons] at h1
    by_cases hj : j < sz
    · rw [List.getElem?_append_left (by omega)] at h1
      rw [Nat.div_eq_of_lt hj, Nat.mod_eq_of_lt hj]
      exact ⟨r0, rfl, h1⟩
    · rw [List.getElem?_append_right (by omega), h0] at h1
      obtain ⟨r, a, b⟩ := flat_at sz hsz rows (j - sz) c (fun x hx => h x (List.mem_cons_of_mem _ hx)) h1
      have e : j = (j - sz) + sz := by omega
      refine ⟨r, ?_, ?_⟩
      · rw [e, Nat.add_div_right _ hsz]; simpa using a
      · rw [e, Nat.add_mod_right]; exact b
/-- What the call owns is read. -/
theorem Rd.of_owns {w : World} {base e sz n : Nat} {v : Value} {rows : List (List Value)} (h : w.ownsRow base e sz v n rows.flatten) (hn : n = rows.length) (hr : ∀ r ∈ rows, r.length = sz) : Rd w (fun k => base ≤ k) sz v rows := by
  subst hn
  obtain ⟨h1, h2⟩ := h
  rcases h2 with ⟨rfl, h0⟩ | ⟨g, cap, cur, rfl, hg, hb, hc, hm, hs, ht⟩
  · obtain rfl : rows = [] := List.length_eq_zero_iff.1 h0
    exact Rd.nil _ _ _
  · refine ⟨some ⟨g, 0, none⟩, cap, rfl, hc, hm, fun _ => ⟨g, 0, rfl, hg, lt hb⟩, fun g' o' ea k i r c hk hi => ?_⟩
    cases ea
    have hlen := hr r (List.mem_of_getElem? hk)
    have hi' := (List.getElem?_eq_some_iff.1 hi).1
    refine ⟨by omega, ?_⟩
    have hf := flat_get sz rows k i r c hr hk hi
    rw [Nat.zero_add]
    refine cell hb ?_
    rw [← Array.getElem?_toList]
    rw [← ht, List.getElem?_take] at hf
    split at hf
    · exact hf
    · cases hf
end Mem
end Go.Proofs.YtpdceondgbgpkaaGreatDoor
