/- DiskNil: the walk. -/
import Derived.Test.YthaehoefbejadaaDoorDskO
namespace Go.Proofs.YthaehoefbejadaaDoor.Dsk
open Go.RowKit Go.Maps
set_option linter.unusedSimpArgs false
set_option linter.unusedVariables false
def nmB : ByteArray := ⟨#[98]⟩
def e1 : Dk := Dk.new.push (.put nmA nmB 0)
def e2 : Dk := e1.sync.2
def e3 : Dk := e2.fail 0
def e4 : Dk := { e3 with down := false }
theorem einv1 : Dk.Inv e1 := Dk.inv_new.push ⟨by decide, by decide, by decide⟩
theorem einv2 : Dk.Inv e2 := einv1.sync
theorem einv3 : Dk.Inv e3 := einv2.fail 0
theorem ebad1 : ¬ Dk.new.bad nmA (0 : Nat) nmB := by
  unfold Dk.bad
  rw [nameA]
  decide
theorem eget4 : e4.now.get nmA = nmB := by decide
theorem ethere3 : e3.there nmA = 8 := by decide
theorem ethere4 : e4.there nmA = 0 := by decide
abbrev X0 (w : World) (x : Act) : World := w.alloc (.cells #[.int .i64 x.kind, .string x.name, .int .i64 x.n, .int .i64 x.m, .string x.s] 31)
/-- The world behind; the disk there. The argument's block stays. -/
structure Is (w : World) (x : Act) (W : World) (p N : Nat) (d : Dk) : Prop where
  b : Below (w.heap.size + 1) (X0 w x) W
  d : DiskAt W (fun k => w.heap.size + 1 ≤ k) p N d
namespace Is
variable {w W W' : World} {x : Act} {p N N' : Nat} {d d' : Dk}
theorem size (h : Is w x W p N d) : w.heap.size + 1 ≤ W.heap.size := by have := h.b.size; simpa using this
theorem on (h : Is w x W p N d) (hb : Below W.heap.size W W') : Is w x W' p N d := ⟨h.b.trans (hb.mono h.size), h.d.below hb⟩
theorem cells (h : Is w x W p N d) : W.cell? ⟨w.heap.size, 0, none⟩ = some (.int .i64 x.kind) ∧ W.cell? ⟨w.heap.size, 1, none⟩ = some (.string x.name) ∧ W.cell? ⟨w.heap.size, 2, none⟩ = some (.int .i64 x.n) ∧ W.cell? ⟨w.heap.size, 3, none⟩ = some (.int .i64 x.m) ∧ W.cell? ⟨w.heap.size, 4, none⟩ = some (.string x.s) := by
  have e : W.heap[w.heap.size]? = some (.cells #[.int .i64 x.kind, .string x.name, .int .i64 x.n, .int .i64 x.m, .string x.s] 31 (0, 0)) := (h.b.block w.heap.size (Nat.lt_succ_self _)).trans (Mem.new w _)
  exact ⟨Mem.cell e rfl, Mem.cell e rfl, Mem.cell e rfl, Mem.cell e rfl, Mem.cell e rfl⟩
theorem below (h : Is w x W p N d) : Below w.heap.size w W := ((Below.refl _ w).alloc (Nat.le_refl _) _).trans (h.b.mono (Nat.le_succ _))
theorem gr (h : Is w x W p N d) (h1 : Mem.Ch (fun k => w.heap.size + 1 ≤ k) W W') (h2 : DiskAt W' (Gr (fun k => w.heap.size + 1 ≤ k) W W') p N' d') : Is w x W' p N' d' := by
  obtain ⟨h3, h4⟩ := above h.size h1 h2
  exact ⟨h.b.trans h3, h4⟩
end Is
section
variable {w W w0 : World} {x : Act} {p N : Nat}
theorem is_new {kind n m : Int} {name s : ByteArray} (hb : Below (X0 w ⟨kind, name, n, m, s⟩).heap.size (X0 w ⟨kind, name, n, m, s⟩) W) (hD : DiskAt W (fun k => (X0 w ⟨kind, name, n, m, s⟩).heap.size ≤ k ∧ k < W.heap.size) p 0 Dk.new) : Is w ⟨kind, name, n, m, s⟩ W p 0 Dk.new := by
  have e : (X0 w ⟨kind, name, n, m, s⟩).heap.size = w.heap.size + 1 := by simp
  rw [e] at hb hD
  exact ⟨hb, hD.mono (fun k hk => hk.1)⟩
theorem en1 (h : Is w x W p 0 Dk.new) : Calls Tryd.prog 11 #[.pointer (some ⟨p, 0, none⟩), .string ⟨#[97]⟩, .int .i64 0, .string ⟨#[98]⟩] W fun r w' => r = .returned (.int .i64 0) ∧ Is w x w' p 1 e1 := by
  refine (Put_good _ p 0 Dk.new nmA 0 nmB W h.d Dk.inv_new rfl (by decide) ebad1 (by decide) (by decide)).mono ?_
  rintro _ w' ⟨rfl, h1, h2⟩
  exact ⟨rfl, h.gr h1 h2⟩
theorem en2 (h : Is w x W p 1 e1) : Calls Tryd.prog 12 #[.pointer (some ⟨p, 0, none⟩)] W fun r w' => r = .returned (.int .i64 0) ∧ Is w x w' p 2 e2 := by
  refine (Sync_any _ p 1 e1 W h.d einv1 (by decide)).mono ?_
  rintro _ w' ⟨rfl, h1, h2⟩
  exact ⟨rfl, h.gr h1 h2⟩
theorem en3 (h : Is w x W p 2 e2) : Calls Tryd.prog 15 #[.pointer (some ⟨p, 0, none⟩), .int .i64 0] W fun r w' => r = .returned (.tuple #[]) ∧ Is w x w' p 2 e3 := by
  refine (Fail_any _ p 2 e2 0 W h.d (by decide) einv2 (by decide)).mono ?_
  rintro _ w' ⟨rfl, h1, h2⟩
  exact ⟨rfl, h.gr h1 h2⟩
theorem en4 (hx : x.fit) (hk : 0 ≤ x.kind ∧ x.kind ≤ 4) (h : Is w x W p 2 e3) : Calls Tryd.prog 14 #[.pointer (some ⟨p, 0, none⟩), x.val] W fun r w' => r = .returned (.int .i64 8) ∧ Is w x w' p 3 e3 := by
  refine (Does_any _ p 2 e3 x W h.d einv3 hx (by decide)).mono ?_
  rintro _ w' ⟨e, d', rfl, h1, h2, h3⟩
  obtain ⟨rfl, rfl⟩ := acts_down h3 rfl hk
  exact ⟨rfl, h.gr h1 h2⟩
theorem en5 (h : Is w x W p N e3) : Calls Tryd.prog 17 #[.pointer (some ⟨p, 0, none⟩), .string ⟨#[97]⟩] W fun r w' => r = .returned (.tuple #[.string ⟨#[]⟩, .int .i64 8]) ∧ Is w x w' p N e3 := by
  have := Read_any _ p N e3 nmA W h.d (by decide)
  rw [ethere3] at this
  refine this.mono ?_
  rintro _ w' ⟨rfl, hb⟩
  exact ⟨rfl, h.on hb⟩
theorem en6 (h : Is w x W p N e3) : Calls Tryd.prog 16 #[.pointer (some ⟨p, 0, none⟩)] W fun r w' => r = .returned (.tuple #[]) ∧ Is w x w' p N e4 := by
  refine (Wake_any _ p N e3 W h.d).mono ?_
  rintro _ w' ⟨rfl, h1, h2⟩
  exact ⟨rfl, h.gr h1 (h2.mono (fun k hk => .inl hk))⟩
theorem en7 (h : Is w x W p N e4) : Calls Tryd.prog 17 #[.pointer (some ⟨p, 0, none⟩), .string ⟨#[97]⟩] W fun r w' => r = .returned (.tuple #[.string ⟨#[98]⟩, .int .i64 0]) ∧ Is w x w' p N e4 := by
  have := Read_any _ p N e4 nmA W h.d (by decide)
  rw [ethere4, eget4] at this
  refine this.mono ?_
  rintro _ w' ⟨rfl, hb⟩
  exact ⟨rfl, h.on hb⟩
theorem en8 (hk : 0 ≤ x.kind ∧ x.kind ≤ 4) {d : Dk} (h : Is w x W p N d) : Calls Tryd.prog 14 #[.pointer none, x.val] W fun r w' => r = .returned (.int .i64 1) ∧ Is w x w' p N d := by
  have := Does_nil x W
  rw [if_pos hk] at this
  refine this.mono ?_
  rintro _ w' ⟨rfl, hb⟩
  exact ⟨rfl, h.on hb⟩
theorem en9 (hk : ¬ (0 ≤ x.kind ∧ x.kind ≤ 4)) {d : Dk} (h : Is w x W p N d) : Calls Tryd.prog 14 #[.pointer none, x.val] W fun r w' => r = .returned (.int .i64 0) ∧ Is w x w' p N d := by
  have := Does_nil x W
  rw [if_neg hk] at this
  refine this.mono ?_
  rintro _ w' ⟨rfl, hb⟩
  exact ⟨rfl, h.on hb⟩
theorem en10 (h : Is w x W p N e3) : Calls Tryd.prog 36 #[.pointer (some ⟨p, 0, none⟩)] W fun r w' => r = .returned (.bool true) ∧ w' = W := Down_any _ p N e3 W h.d
theorem en11 (h : Is w x W p N e4) : Calls Tryd.prog 36 #[.pointer (some ⟨p, 0, none⟩)] W fun r w' => r = .returned (.bool false) ∧ w' = W := Down_any _ p N e4 W h.d
theorem en12 (h : Is w x W p N e4) : Calls Tryd.prog 10 #[] W fun r w' => r = .returned (.bool true) ∧ Is w x w' p N e4 := by
  refine (awake_any W).mono ?_
  rintro _ w' ⟨rfl, hb⟩
  exact ⟨rfl, h.on hb⟩
end
set_option maxRecDepth 100000 in
set_option maxHeartbeats 8000000 in
theorem DiskNil_yes (kind n m : Int) (name s : ByteArray) (hx : Act.fit ⟨kind, name, n, m, s⟩) (k0 : 0 ≤ kind) (k4 : kind ≤ 4) (w : World) :
    Calls Tryd.prog 8 #[.agg #[.int .i64 kind, .string name, .int .i64 n, .int .i64 m, .string s]] w fun r w' => r = .returned (.bool true) ∧ Below w.heap.size w w' := by
  have tok1 : True := trivial
  have tok2 : True := trivial
  have tok3 : True := trivial
  have tok4 : True := trivial
  have tok5 : True := trivial
  have tkNames : True := trivial
  have tkUsed : True := trivial
  have tkWaits : True := trivial
  have tkDown : True := trivial
  have HK := Lib.hid (And.intro hx (show 0 ≤ (Act.mk kind name n m s).kind ∧ (Act.mk kind name n m s).kind ≤ 4 from ⟨k0, k4⟩))
  clear hx
  go_enter Tryd.func8, Tryd.ntmps8
  go_wp2_with (first
    | (go_at_call 9; refine (New_any _).mono ?_; rintro _ w1 ⟨p, rfl, hb1, hD1⟩; have hI1 := is_new hb1 hD1; clear hb1 hD1)
    | (go_at_call 11; refine (en1 hI1).mono ?_; rintro _ w2 ⟨rfl, hI2⟩)
    | (go_at_call 12; refine (en2 hI2).mono ?_; rintro _ w3 ⟨rfl, hI3⟩)
    | (go_at_call 15; refine (en3 hI3).mono ?_; rintro _ w4 ⟨rfl, hI4⟩; clear hI1 hI2 hI3; obtain ⟨c0, c1, c2, c3, c4⟩ := hI4.cells)
    | (go_at_call 14; have _t := tok1; refine (en8 HK.out.2 hI4).mono ?_; rintro _ w5 ⟨rfl, hI5⟩; clear tok1 c0 c1 c2 c3 c4; obtain ⟨c0, c1, c2, c3, c4⟩ := hI5.cells)
    | (go_at_call 14; have _t := tok2; refine (en4 HK.out.1 HK.out.2 hI5).mono ?_; rintro _ w6 ⟨rfl, hI6⟩; clear tok2 c0 c1 c2 c3 c4; obtain ⟨c0, c1, c2, c3, c4⟩ := hI6.cells)
    | (go_at_call 14; refine (en8 HK.out.2 hI6).mono ?_; rintro _ w7 ⟨rfl, hI7⟩; clear c0 c1 c2 c3 c4; obtain ⟨c0, c1, c2, c3, c4⟩ := hI7.cells)
    | (go_at_call 17; have _t := tok3; refine (Read_nil _ _).mono ?_; rintro _ _ ⟨rfl, rfl⟩; clear tok3)
    | (go_at_call 17; have _t := tok4; refine (en5 hI7).mono ?_; rintro _ w8 ⟨rfl, hI8⟩; clear tok4)
    | (go_at_call 32; have _t := tkNames; refine (Names_nil _).mono ?_; rintro _ _ ⟨rfl, rfl⟩; clear tkNames)
    | (go_at_call 32; refine (Names_down _ p 3 e3 _ hI8.d rfl).mono ?_; rintro _ _ ⟨rfl, rfl⟩)
    | (go_at_call 33; have _t := tkUsed; refine (Used_nil _).mono ?_; rintro _ _ ⟨rfl, rfl⟩; clear tkUsed)
    | (go_at_call 33; refine (Used_down _ p 3 e3 _ hI8.d rfl).mono ?_; rintro _ _ ⟨rfl, rfl⟩)
    | (go_at_call 34; have _t := tkWaits; refine (Waits_nil _).mono ?_; rintro _ _ ⟨rfl, rfl⟩; clear tkWaits)
    | (go_at_call 34; refine (Waits_down _ p 3 e3 _ hI8.d rfl).mono ?_; rintro _ _ ⟨rfl, rfl⟩)
    | (go_at_call 35; refine (Calls_nil _).mono ?_; rintro _ _ ⟨rfl, rfl⟩)
    | (go_at_call 36; have _t := tkDown; refine (Down_nil _).mono ?_; rintro _ _ ⟨rfl, rfl⟩; clear tkDown)
    | (go_at_call 36; have _t := tok5; refine (en10 hI8).mono ?_; rintro _ _ ⟨rfl, rfl⟩; clear tok5)
    | (go_at_call 16; refine (en6 hI8).mono ?_; rintro _ w9 ⟨rfl, hI9⟩)
    | (go_at_call 17; refine (en7 hI9).mono ?_; rintro _ w10 ⟨rfl, hI10⟩)
    | (go_at_call 10; refine (en12 hI10).mono ?_; rintro _ w11 ⟨rfl, hI11⟩)
    | (go_at_call 36; refine (en11 hI11).mono ?_; rintro _ _ ⟨rfl, rfl⟩))
  go_ret
  exact ⟨rfl, hI11.below⟩
set_option maxRecDepth 100000 in
set_option maxHeartbeats 8000000 in
theorem DiskNil_low (kind n m : Int) (name s : ByteArray) (hx : Act.fit ⟨kind, name, n, m, s⟩) (k0 : kind < 0) (w : World) :
    Calls Tryd.prog 8 #[.agg #[.int .i64 kind, .string name, .int .i64 n, .int .i64 m, .string s]] w fun r w' => r = .returned (.bool true) ∧ Below w.heap.size w w' := by
  have tok1 : True := trivial
  have tok2 : True := trivial
  have tok3 : True := trivial
  have tok4 : True := trivial
  have tok5 : True := trivial
  have tkNames : True := trivial
  have tkUsed : True := trivial
  have tkWaits : True := trivial
  have tkDown : True := trivial
  have HK := Lib.hid (And.intro hx (show ¬ (0 ≤ (Act.mk kind name n m s).kind ∧ (Act.mk kind name n m s).kind ≤ 4) from fun h => by have h1 : 0 ≤ kind := h.1; have h2 : kind ≤ 4 := h.2; omega))
  clear hx
  go_enter Tryd.func8, Tryd.ntmps8
  go_wp2_with (first
    | (go_at_call 9; refine (New_any _).mono ?_; rintro _ w1 ⟨p, rfl, hb1, hD1⟩; have hI1 := is_new hb1 hD1; clear hb1 hD1)
    | (go_at_call 11; refine (en1 hI1).mono ?_; rintro _ w2 ⟨rfl, hI2⟩)
    | (go_at_call 12; refine (en2 hI2).mono ?_; rintro _ w3 ⟨rfl, hI3⟩)
    | (go_at_call 15; refine (en3 hI3).mono ?_; rintro _ w4 ⟨rfl, hI4⟩; clear hI1 hI2 hI3; obtain ⟨c0, c1, c2, c3, c4⟩ := hI4.cells)
    | (go_at_call 14; refine (en9 HK.out.2 hI4).mono ?_; rintro _ w7 ⟨rfl, hI7⟩; clear c0 c1 c2 c3 c4; obtain ⟨c0, c1, c2, c3, c4⟩ := hI7.cells)
    | (go_at_call 17; have _t := tok3; refine (Read_nil _ _).mono ?_; rintro _ _ ⟨rfl, rfl⟩; clear tok3)
    | (go_at_call 17; have _t := tok4; refine (en5 hI7).mono ?_; rintro _ w8 ⟨rfl, hI8⟩; clear tok4)
    | (go_at_call 32; have _t := tkNames; refine (Names_nil _).mono ?_; rintro _ _ ⟨rfl, rfl⟩; clear tkNames)
    | (go_at_call 32; refine (Names_down _ p 2 e3 _ hI8.d rfl).mono ?_; rintro _ _ ⟨rfl, rfl⟩)
    | (go_at_call 33; have _t := tkUsed; refine (Used_nil _).mono ?_; rintro _ _ ⟨rfl, rfl⟩; clear tkUsed)
    | (go_at_call 33; refine (Used_down _ p 2 e3 _ hI8.d rfl).mono ?_; rintro _ _ ⟨rfl, rfl⟩)
    | (go_at_call 34; have _t := tkWaits; refine (Waits_nil _).mono ?_; rintro _ _ ⟨rfl, rfl⟩; clear tkWaits)
    | (go_at_call 34; refine (Waits_down _ p 2 e3 _ hI8.d rfl).mono ?_; rintro _ _ ⟨rfl, rfl⟩)
    | (go_at_call 35; refine (Calls_nil _).mono ?_; rintro _ _ ⟨rfl, rfl⟩)
    | (go_at_call 36; have _t := tkDown; refine (Down_nil _).mono ?_; rintro _ _ ⟨rfl, rfl⟩; clear tkDown)
    | (go_at_call 36; have _t := tok5; refine (en10 hI8).mono ?_; rintro _ _ ⟨rfl, rfl⟩; clear tok5)
    | (go_at_call 16; refine (en6 hI8).mono ?_; rintro _ w9 ⟨rfl, hI9⟩)
    | (go_at_call 17; refine (en7 hI9).mono ?_; rintro _ w10 ⟨rfl, hI10⟩)
    | (go_at_call 10; refine (en12 hI10).mono ?_; rintro _ w11 ⟨rfl, hI11⟩)
    | (go_at_call 36; refine (en11 hI11).mono ?_; rintro _ _ ⟨rfl, rfl⟩))
  go_ret
  exact ⟨rfl, hI11.below⟩
set_option maxRecDepth 100000 in
set_option maxHeartbeats 8000000 in
theorem DiskNil_high (kind n m : Int) (name s : ByteArray) (hx : Act.fit ⟨kind, name, n, m, s⟩) (k0 : 4 < kind) (w : World) :
    Calls Tryd.prog 8 #[.agg #[.int .i64 kind, .string name, .int .i64 n, .int .i64 m, .string s]] w fun r w' => r = .returned (.bool true) ∧ Below w.heap.size w w' := by
  have tok1 : True := trivial
  have tok2 : True := trivial
  have tok3 : True := trivial
  have tok4 : True := trivial
  have tok5 : True := trivial
  have tkNames : True := trivial
  have tkUsed : True := trivial
  have tkWaits : True := trivial
  have tkDown : True := trivial
  have HK := Lib.hid (And.intro hx (show ¬ (0 ≤ (Act.mk kind name n m s).kind ∧ (Act.mk kind name n m s).kind ≤ 4) from fun h => by have h1 : 0 ≤ kind := h.1; have h2 : kind ≤ 4 := h.2; omega))
  clear hx
  go_enter Tryd.func8, Tryd.ntmps8
  go_wp2_with (first
    | (go_at_call 9; refine (New_any _).mono ?_; rintro _ w1 ⟨p, rfl, hb1, hD1⟩; have hI1 := is_new hb1 hD1; clear hb1 hD1)
    | (go_at_call 11; refine (en1 hI1).mono ?_; rintro _ w2 ⟨rfl, hI2⟩)
    | (go_at_call 12; refine (en2 hI2).mono ?_; rintro _ w3 ⟨rfl, hI3⟩)
    | (go_at_call 15; refine (en3 hI3).mono ?_; rintro _ w4 ⟨rfl, hI4⟩; clear hI1 hI2 hI3; obtain ⟨c0, c1, c2, c3, c4⟩ := hI4.cells)
    | (go_at_call 14; refine (en9 HK.out.2 hI4).mono ?_; rintro _ w7 ⟨rfl, hI7⟩; clear c0 c1 c2 c3 c4; obtain ⟨c0, c1, c2, c3, c4⟩ := hI7.cells)
    | (go_at_call 17; have _t := tok3; refine (Read_nil _ _).mono ?_; rintro _ _ ⟨rfl, rfl⟩; clear tok3)
    | (go_at_call 17; have _t := tok4; refine (en5 hI7).mono ?_; rintro _ w8 ⟨rfl, hI8⟩; clear tok4)
    | (go_at_call 32; have _t := tkNames; refine (Names_nil _).mono ?_; rintro _ _ ⟨rfl, rfl⟩; clear tkNames)
    | (go_at_call 32; refine (Names_down _ p 2 e3 _ hI8.d rfl).mono ?_; rintro _ _ ⟨rfl, rfl⟩)
    | (go_at_call 33; have _t := tkUsed; refine (Used_nil _).mono ?_; rintro _ _ ⟨rfl, rfl⟩; clear tkUsed)
    | (go_at_call 33; refine (Used_down _ p 2 e3 _ hI8.d rfl).mono ?_; rintro _ _ ⟨rfl, rfl⟩)
    | (go_at_call 34; have _t := tkWaits; refine (Waits_nil _).mono ?_; rintro _ _ ⟨rfl, rfl⟩; clear tkWaits)
    | (go_at_call 34; refine (Waits_down _ p 2 e3 _ hI8.d rfl).mono ?_; rintro _ _ ⟨rfl, rfl⟩)
    | (go_at_call 35; refine (Calls_nil _).mono ?_; rintro _ _ ⟨rfl, rfl⟩)
    | (go_at_call 36; have _t := tkDown; refine (Down_nil _).mono ?_; rintro _ _ ⟨rfl, rfl⟩; clear tkDown)
    | (go_at_call 36; have _t := tok5; refine (en10 hI8).mono ?_; rintro _ _ ⟨rfl, rfl⟩; clear tok5)
    | (go_at_call 16; refine (en6 hI8).mono ?_; rintro _ w9 ⟨rfl, hI9⟩)
    | (go_at_call 17; refine (en7 hI9).mono ?_; rintro _ w10 ⟨rfl, hI10⟩)
    | (go_at_call 10; refine (en12 hI10).mono ?_; rintro _ w11 ⟨rfl, hI11⟩)
    | (go_at_call 36; refine (en11 hI11).mono ?_; rintro _ _ ⟨rfl, rfl⟩))
  go_ret
  exact ⟨rfl, hI11.below⟩
theorem DiskNil_any (x : Act) (hx : x.fit) (w : World) :
    Calls Tryd.prog 8 #[.agg #[.int .i64 x.kind, .string x.name, .int .i64 x.n, .int .i64 x.m, .string x.s]] w fun r w' => r = .returned (.bool true) ∧ Below w.heap.size w w' := by
  obtain ⟨kind, name, n, m, s⟩ := x
  by_cases h0 : kind < 0
  · exact DiskNil_low kind n m name s hx h0 w
  · by_cases h4 : 4 < kind
    · exact DiskNil_high kind n m name s hx h4 w
    · exact DiskNil_yes kind n m name s hx (by omega) (by omega) w
end Go.Proofs.YthaehoefbejadaaDoor.Dsk
