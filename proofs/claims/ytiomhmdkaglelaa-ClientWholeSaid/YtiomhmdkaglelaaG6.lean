/- Whether two events are the same, as the document has it: what its users need of it. · The texts of the commands that a teller asks: the document's. · A row of the call's own that may begin inside its block (a queue): lines of the print's words, turned to this seat. · A teller in memory. -/
import Derived.Test.YtiomhmdkaglelaaG5
import Derived.WalkKit
import Derived.Maps.AppendAt
import Derived.ArgAppend
import Derived.Deep.AppendLies
import Derived.Deep.OwnRows
import Derived.Laws.IdiomCopy
import Derived.Laws.Rows
import Derived.Deep.RegionLaw
import Derived.Laws.OwnMore
namespace Go.Proofs.Ytiomhmdkaglelaa
open Go.RowKit
set_option linter.unusedSimpArgs false
set_option linter.unusedVariables false
open Sp (fold intB textS bs)
attribute [local go_sem] Mem.run_store_float Mem.After.cell
end Go.Proofs.Ytiomhmdkaglelaa
namespace Go.Proofs.Ytiomhmdkaglelaa
open Go.RowKit
set_option linter.unusedSimpArgs false
set_option linter.unusedVariables false
open Sp (fold intB textS bs)
attribute [local go_sem] Mem.run_store_float Mem.After.cell
end Go.Proofs.Ytiomhmdkaglelaa
namespace Go.Proofs.Ytiomhmdkaglelaa.Qu
open Go.RowKit
theorem blk_set {w : World} {g : Nat} {t : TypeId} {cs : Array Value} (h : w.heap[g]? = some (.cells cs t (0, 0))) (i : Nat) (u : Value) : (w.setCell ⟨g, i, none⟩ u).heap[g]? = some (.cells (cs.setIfInBounds i u) t (0, 0)) := by
  simp [World.setCell, Array.getElem?_modify, h]
theorem blk_frozen {w : World} {g : Nat} {t : TypeId} {cs : Array Value} (h : w.heap[g]? = some (.cells cs t (0, 0))) (i : Nat) : w.frozen? ⟨g, i, none⟩ = false := by simp [World.frozen?, h]
/-- A row of one's own that may begin inside its block. -/
def QRow (w : World) (base : Nat) (e : TypeId) (size : Nat) (v : Value) (n : Nat) (xs : List Value) : Prop :=
  xs.length = n * size ∧
  ((n = 0 ∧ ∃ A, v = .slice A 0 0 ∧ ∀ a, A = some a → base ≤ a.block ∧ ∃ cur, w.heap[a.block]? = some (.cells cur e (0, 0))) ∨
   ∃ g off cap cur, v = .slice (some ⟨g, off * size, none⟩) n cap ∧ base ≤ g ∧ w.heap[g]? = some (.cells cur e (0, 0)) ∧ n ≤ cap ∧ off + cap ≤ maxLen ∧ cur.size = (off + cap) * size ∧ (cur.toList.drop (off * size)).take (n * size) = xs)
section
variable {w w1 : World} {base n size : Nat} {e : TypeId} {v : Value} {xs : List Value}
theorem q_of_own (h : w.ownsRow base e size v n xs) : QRow w base e size v n xs := by
  obtain ⟨h1, h2⟩ := h
  refine ⟨h1, ?_⟩
  rcases h2 with ⟨rfl, h0⟩ | ⟨g, cap, cur, rfl, hb, hh, hnc, hcm, hcs, ht⟩
  · exact .inl ⟨h0, none, rfl, fun a ha => by cases ha⟩
  · exact .inr ⟨g, 0, cap, cur, by rw [Nat.zero_mul], hb, hh, hnc, by rw [Nat.zero_add]; exact hcm, by rw [Nat.zero_add]; exact hcs, by rw [Nat.zero_mul, List.drop_zero]; exact ht⟩
theorem q_move (h : QRow w base e size v n xs) (hm : ∀ k, v.ownBlock = some k → w1.heap[k]? = w.heap[k]?) : QRow w1 base e size v n xs := by
  obtain ⟨h1, h2⟩ := h
  refine ⟨h1, ?_⟩
  rcases h2 with ⟨h0, A, rfl, hA⟩ | ⟨g, off, cap, cur, rfl, hg, hh, r⟩
  · refine .inl ⟨h0, A, rfl, fun a ha => ?_⟩
    obtain ⟨hb, cur, hc⟩ := hA a ha
    subst ha
    exact ⟨hb, cur, (hm a.block (by simp [Value.ownBlock])).trans hc⟩
  · exact .inr ⟨g, off, cap, cur, rfl, hg, (hm g (by simp [Value.ownBlock])).trans hh, r⟩
theorem q_typed (h : QRow w base e size v n xs) (k : Nat) (hk : v.ownBlock = some k) : base ≤ k ∧ ∃ cells, w.heap[k]? = some (.cells cells e (0, 0)) := by
  rcases h.2 with ⟨_, A, rfl, hA⟩ | ⟨g, off, cap, cur, rfl, hg, hh, r⟩
  · cases A with
    | none => simp [Value.ownBlock] at hk
    | some a =>
      have : a.block = k := by simpa [Value.ownBlock] using hk
      subst this
      exact hA a rfl
  · have : g = k := by simpa [Value.ownBlock] using hk
    subst this
    exact ⟨hg, cur, hh⟩
theorem q_lt (h : QRow w base e size v n xs) (k : Nat) (hk : v.ownBlock = some k) : k < w.heap.size := by
  obtain ⟨_, cells, hc⟩ := q_typed h k hk
  exact (Array.getElem?_eq_some_iff.1 hc).1
theorem q_lower {base' : Nat} (h : QRow w base e size v n xs) (hb : base' ≤ base) : QRow w base' e size v n xs := by
  obtain ⟨h1, h2⟩ := h
  refine ⟨h1, ?_⟩
  rcases h2 with ⟨h0, A, rfl, hA⟩ | ⟨g, off, cap, cur, rfl, hg, r⟩
  · exact .inl ⟨h0, A, rfl, fun a ha => ⟨Nat.le_trans hb (hA a ha).1, (hA a ha).2⟩⟩
  · exact .inr ⟨g, off, cap, cur, rfl, Nat.le_trans hb hg, r⟩
theorem q_slice (h : QRow w base e size v n xs) : ∃ A c, v = .slice A n c ∧ n ≤ c := by
  rcases h.2 with ⟨h0, A, rfl, _⟩ | ⟨g, off, cap, cur, rfl, hg, hh, hnc, r⟩
  · exact ⟨A, 0, by rw [h0], by omega⟩
  · exact ⟨_, cap, rfl, hnc⟩
theorem q_max (h : QRow w base e size v n xs) : n ≤ 9223372036854775807 := by
  rcases h.2 with ⟨h0, _⟩ | ⟨g, off, cap, cur, rfl, hg, hh, hnc, hm, r⟩
  · omega
  · simp only [maxLen] at hm
    omega
theorem add_at (g o j : Nat) : (⟨g, o, none⟩ : Addr).add j = ⟨g, o + j, none⟩ := by unfold Addr.add; split <;> simp_all
theorem q_cells {A : Option Addr} {c : Nat} (h : QRow w base e size (.slice A n c) n xs) (hn : 0 < n) : ∃ ad, A = some ad ∧ ∀ j u, xs[j]? = some u → w.cell? (ad.add j) = some u := by
  rcases h.2 with ⟨h0, _⟩ | ⟨g, off, cap, cur, he, hg, hh, hnc, hm, hcs, ht⟩
  · omega
  · injection he with ha _ hc
    subst ha
    refine ⟨_, rfl, fun j u hu => ?_⟩
    rw [add_at, cell_of_row w g _ cur e (0, 0) hh]
    rw [← ht, List.getElem?_take] at hu
    split at hu
    · rw [List.getElem?_drop] at hu
      rw [← Array.getElem?_toList]
      exact hu
    · cases hu
theorem q_take {A : Option Addr} {c m : Nat} (h : QRow w base e size (.slice A n c) n xs) (hm : m ≤ n) : QRow w base e size (.slice A m c) m (xs.take (m * size)) := by
  obtain ⟨h1, h2⟩ := h
  refine ⟨by rw [List.length_take, h1]; exact Nat.min_eq_left (Nat.mul_le_mul_right _ hm), ?_⟩
  rcases h2 with ⟨h0, A', he, hA⟩ | ⟨g, off, cap, cur, he, hb, hh, hnc, hcm, hcs, ht⟩
  · injection he with ha hb hc
    subst ha; subst hc
    exact .inl ⟨by omega, A, by rw [show m = 0 by omega], hA⟩
  · injection he with ha _ hc
    subst ha; subst hc
    refine .inr ⟨g, off, c, cur, rfl, hb, hh, by omega, hcm, hcs, ?_⟩
    rw [← ht, List.take_take, Nat.min_eq_left (Nat.mul_le_mul_right _ hm)]
theorem q_drop {A : Option Addr} {c k : Nat} (h : QRow w base e size (.slice A n c) n xs) (hk : k ≤ n) : QRow w base e size (.slice (if c = k then A else A.map (·.add (k * size))) (n - k) (c - k)) (n - k) (xs.drop (k * size)) := by
  obtain ⟨h1, h2⟩ := h
  refine ⟨by rw [List.length_drop, h1, Nat.sub_mul], ?_⟩
  rcases h2 with ⟨h0, A', he, hA⟩ | ⟨g, off, cap, cur, he, hb, hh, hnc, hcm, hcs, ht⟩
  · injection he with ha hb hc
    subst ha; subst hc
    have hk0 : k = 0 := by omega
    subst hk0
    exact .inl ⟨by omega, A, by rw [if_pos rfl, h0], hA⟩
  · injection he with ha _ hc
    subst ha; subst hc
    by_cases hck : c = k
    · rw [if_pos hck]
      refine .inl ⟨by omega, some ⟨g, off * size, none⟩, ?_, fun a ha => ?_⟩
      · rw [show n - k = 0 by omega, show c - k = 0 by omega]
      · injection ha with ha
        subst ha
        exact ⟨hb, cur, hh⟩
    · rw [if_neg hck]
      refine .inr ⟨g, off + k, c - k, cur, ?_, hb, hh, by omega, by omega, by rw [hcs]; congr 1; omega, ?_⟩
      · rw [Option.map_some, add_at, Nat.add_mul]
      · rw [← ht, List.drop_take, List.drop_drop, Nat.add_mul, Nat.sub_mul]
/-- What a run of cells written leaves. -/
theorem setCells_far {g : Nat} : ∀ (vs : List Value) (o : Nat) {w : World} (k : Nat), k ≠ g → (w.setCells g o vs).heap[k]? = w.heap[k]?
  | [], _, _, _, _ => rfl
  | v :: r, o, w, k, hk => by
    rw [World.setCells, setCells_far r (o + 1) k hk]
    exact Below.heap_setCell w ⟨g, o, none⟩ v k hk
theorem setCells_same (g : Nat) : ∀ (vs : List Value) (o : Nat) (w : World), (w.setCells g o vs).os = w.os ∧ (w.setCells g o vs).tape = w.tape ∧ (w.setCells g o vs).output = w.output ∧ (w.setCells g o vs).heap.size = w.heap.size
  | [], _, _ => ⟨rfl, rfl, rfl, rfl⟩
  | v :: r, o, w => by
    obtain ⟨h1, h2, h3, h4⟩ := setCells_same g r (o + 1) (w.setCell ⟨g, o, none⟩ v)
    rw [World.setCells]
    exact ⟨h1, h2, h3, by rw [h4]; simp [World.setCell]⟩
theorem setCells_row {g : Nat} {e : TypeId} : ∀ (vs : List Value) (o : Nat) (w : World) (cur : Array Value), w.heap[g]? = some (.cells cur e (0, 0)) → o + vs.length ≤ cur.size →
    ∃ cur', (w.setCells g o vs).heap[g]? = some (.cells cur' e (0, 0)) ∧ cur'.size = cur.size ∧ cur'.toList = cur.toList.take o ++ vs ++ cur.toList.drop (o + vs.length)
  | [], o, w, cur, h, _ => ⟨cur, h, rfl, by simp⟩
  | v :: r, o, w, cur, h, hl => by
    have h2 := blk_set h o v
    simp only [List.length_cons] at hl
    obtain ⟨cur', h3, h4, h5⟩ := setCells_row r (o + 1) (w.setCell ⟨g, o, none⟩ v) _ h2 (by simp; omega)
    refine ⟨cur', h3, by rw [h4]; simp, ?_⟩
    rw [h5, Array.toList_setIfInBounds]
    have ho : o < cur.toList.length := by rw [Array.length_toList]; omega
    rw [List.take_set, List.drop_set_of_lt (by omega)]
    simp only [List.length_cons]
    rw [show o + 1 + r.length = o + (r.length + 1) by omega]
    congr 1
    rw [List.take_succ_eq_append_getElem ho, List.set_append_right _ _ (by rw [List.length_take]; omega)]
    have ho' : o < cur.size := by omega
    simp [Nat.min_eq_left (Nat.le_of_lt ho')]
end
section
variable {P : Program}
theorem q_append (w : World) (base : Nat) (t ty e : TypeId) (i : TypeInfo) (z : Value) (size bytes : Nat) (ht : P.underlying t = some (.slice e)) (hi : P.info? e = some i) (hz : i.zero = some z)
    (hsize : i.size = size) (hby : i.bytes = bytes) (hzs : z.cells.size = size) (hsz : 0 < size)
    (v : Value) (n : Nat) (xs : List Value) (hown : QRow w base e size v n xs)
    (a : Addr) (m c : Nat) (news : List Value) (hl : news.length = m * size) (hnews : ∀ j u, news[j]? = some u → w.cell? (a.add j) = some u) (h1 : ∀ u ∈ news, u.oneCell' = true) (hm : 0 < m)
    (h63 : n + m ≤ maxLen) (hbytes : (n + m) * bytes ≤ 140737488355328) (hbase : base ≤ w.heap.size) :
    ∃ v' w', (Builtin.append_ #[t, t] ty #[v, .slice (some a) m c]).run P w = .ok v' w' ∧ QRow w' base e size v' (n + m) (xs ++ news) ∧ w.grownBy w' v.ownBlock ∧ (v'.ownBlock = v.ownBlock ∨ ∃ b, v'.ownBlock = some b ∧ w.heap.size ≤ b) := by
  have grows : ∀ (b : Addr) (cap : Nat), cap < n + m → (∀ j u, xs[j]? = some u → w.cell? (b.add j) = some u) → v = .slice (some b) n cap →
      ∃ v' w', (Builtin.append_ #[t, t] ty #[v, .slice (some a) m c]).run P w = .ok v' w' ∧ QRow w' base e size v' (n + m) (xs ++ news) ∧ w.grownBy w' v.ownBlock ∧ (v'.ownBlock = v.ownBlock ∨ ∃ b, v'.ownBlock = some b ∧ w.heap.size ≤ b) := by
    intro b cap hcap hcells hv
    obtain ⟨v', w', hr, ho, hg⟩ := run_append_arg_grows (P := P) (w := w) t ty e i z size bytes ht hi hz hsize hby hzs hsz b n cap xs hown.1 hcells a m c news hl hnews hcap h63 hbytes
    refine ⟨v', w', by rw [hv]; exact hr, q_lower (q_of_own ho) hbase, ⟨hg.os, hg.tape, hg.output, hg.size, fun k hk _ => hg.block k hk (by simp)⟩, ?_⟩
    obtain ⟨g', cap', he, hb, _⟩ := ho.form (by omega)
    exact .inr ⟨g', by rw [he]; simp [Value.ownBlock], hb⟩
  rcases hown.2 with ⟨h0, A, hv, hA⟩ | ⟨g, off, cap, cur, hv, hbg, hg, hnc, hcm, hcs, htake⟩
  · cases A with
    | none =>
      subst h0
      have ho : w.ownsRow base e size v 0 xs := ⟨hown.1, .inl ⟨hv, rfl⟩⟩
      obtain ⟨v', w', hr, ho', hg, _, hat⟩ := run_append_own_at (P := P) w base t ty e i z size bytes ht hi hz hsize hby hzs hsz v 0 xs ho a m c news hl hnews h1 h63 hbytes hbase
      refine ⟨v', w', hr, q_of_own ho', hg, ?_⟩
      rcases hat with hat | hat
      · exact .inl hat
      · exact .inr ⟨_, hat, Nat.le_refl _⟩
    | some b =>
      have hx : xs = [] := List.eq_nil_of_length_eq_zero (by rw [hown.1, h0, Nat.zero_mul])
      exact grows b 0 (by omega) (fun j u hu => by rw [hx] at hu; simp at hu) (by rw [hv, h0])
  · by_cases hroom : n + m ≤ cap
    · have hfit : off * size + n * size + news.length ≤ cur.size := by
        rw [hl, hcs, ← Nat.add_mul, ← Nat.add_mul]
        exact Nat.mul_le_mul_right _ (by omega)
      subst hsize
      have hr := run_append_room_cells (P := P) (w := w) t ty e i ht hi g (off * i.size) n cap a m c news hl hnews h1 hroom
        (fun j hj => by rw [cell_of_row w g _ cur e (0, 0) hg]; simp; omega) (fun j _ => blk_frozen hg _)
      obtain ⟨cur', h3, h4, h5⟩ := setCells_row news (off * i.size + n * i.size) w cur hg hfit
      obtain ⟨s1, s2, s3, s4⟩ := setCells_same g news (off * i.size + n * i.size) w
      refine ⟨_, _, by rw [hv]; exact hr, ⟨by rw [List.length_append, hown.1, hl, Nat.add_mul], .inr ⟨g, off, cap, cur', rfl, hbg, h3, hroom, hcm, by rw [h4, hcs], ?_⟩⟩,
        ⟨s1, s2, s3, by rw [s4]; exact Nat.le_refl _, fun k _ hk => setCells_far news _ k (fun he => hk (by rw [hv, he]; simp [Value.ownBlock]))⟩, .inl (by rw [hv]; rfl)⟩
      rw [h5, List.append_assoc, List.drop_append_of_le_length (by rw [List.length_take, Array.length_toList]; omega), List.drop_take]
      rw [show off * i.size + n * i.size - off * i.size = n * i.size by omega, htake]
      rw [← List.append_assoc]
      exact List.take_left' (by rw [List.length_append, hown.1, hl, Nat.add_mul])
    · refine grows ⟨g, off * size, none⟩ cap (by omega) (fun j u hu => ?_) hv
      rw [add_at, cell_of_row w g _ cur e (0, 0) hg]
      rw [← htake, List.getElem?_take] at hu
      split at hu
      · rw [List.getElem?_drop] at hu
        rw [← Array.getElem?_toList]
        exact hu
      · cases hu
end
end Go.Proofs.Ytiomhmdkaglelaa.Qu
namespace Go.Proofs.Ytiomhmdkaglelaa
open Go.RowKit
set_option linter.unusedSimpArgs false
set_option linter.unusedVariables false
open Sp (fold intB textS bs)
attribute [local go_sem] Mem.run_store_float Mem.After.cell
/-- An event's cells, its fields' slice being vf. -/
def evC (e : Evt) (vf : Value) : List Value := [.int .i64 e.session, .int .i64 e.seq, .int .i64 e.stamp, .string e.kind, vf]
/-- The cells of events in line. -/
def evs (l : List (Evt × Value)) : List Value := l.flatMap fun p => evC p.1 p.2
structure Tl where
  nodes : Int
  to : Int
  id : Int
  seq : Int
  wait : List (Evt × Value)
  refused : List (Evt × Value)
/-- Block b is a teller; all its memory lies in S. -/
def TellerAt (w : World) (S : Nat → Prop) (b : Nat) (t : Tl) : Prop :=
  ∃ q vw vr, w.heap[b]? = some (.cells #[.pointer (some ⟨q, 0, none⟩), .int .i64 t.id, .int .i64 t.seq, vw, vr] 95 (0, 0)) ∧
    w.heap[q]? = some (.cells #[.int .i64 t.nodes, .int .i64 t.to] 64 (0, 0)) ∧ S b ∧ S q ∧ q ≠ b ∧
    Qu.QRow w 0 36 5 vw t.wait.length (evs t.wait) ∧ Qu.QRow w 0 36 5 vr t.refused.length (evs t.refused) ∧
    (∀ k, vw.ownBlock = some k → S k ∧ k ≠ b ∧ k ≠ q ∧ vr.ownBlock ≠ some k) ∧ (∀ k, vr.ownBlock = some k → S k ∧ k ≠ b ∧ k ≠ q) ∧
    ∀ p, p ∈ t.wait ∨ p ∈ t.refused → EvR w (fun k => S k ∧ k ≠ b ∧ k ≠ q ∧ some k ≠ vw.ownBlock ∧ some k ≠ vr.ownBlock) p.1 p.2
theorem EvR.step {w w1 : World} {ok : Nat → Prop} {e : Evt} {vf : Value} (h : EvR w ok e vf) (hs : w.heap.size ≤ w1.heap.size) (hm : ∀ k, ok k → k < w.heap.size → w1.heap[k]? = w.heap[k]?) : EvR w1 ok e vf := Mem.Rd.step h hs hm
theorem EvR.mono {w : World} {ok ok' : Nat → Prop} {e : Evt} {vf : Value} (h : EvR w ok e vf) (hm : ∀ k, ok k → ok' k) : EvR w ok' e vf := Mem.Rd.mono h hm
/-- Nothing of the teller's has changed. -/
theorem TellerAt.step {w w1 : World} {S S' : Nat → Prop} {b : Nat} {t : Tl} (h : TellerAt w S b t) (hs : w.heap.size ≤ w1.heap.size) (hm : ∀ k, S k → k < w.heap.size → w1.heap[k]? = w.heap[k]?) (hS : ∀ k, S k → S' k) : TellerAt w1 S' b t := by
  obtain ⟨q, vw, vr, hb, hq, sb, sq, hne, hw, hr, dw, dr, hf⟩ := h
  refine ⟨q, vw, vr, (hm b sb (Mem.lt hb)).trans hb, (hm q sq (Mem.lt hq)).trans hq, hS b sb, hS q sq, hne, Qu.q_move hw (fun k hk => hm k (dw k hk).1 (Qu.q_lt hw k hk)), Qu.q_move hr (fun k hk => hm k (dr k hk).1 (Qu.q_lt hr k hk)),
    fun k hk => ⟨hS k (dw k hk).1, (dw k hk).2⟩, fun k hk => ⟨hS k (dr k hk).1, (dr k hk).2⟩, fun p hp => ?_⟩
  exact ((hf p hp).step hs (fun k hk hl => hm k hk.1 hl)).mono (fun k hk => ⟨hS k hk.1, hk.2⟩)
theorem TellerAt.below {w w1 : World} {S : Nat → Prop} {b : Nat} {t : Tl} (h : TellerAt w S b t) (hb : Below w.heap.size w w1) : TellerAt w1 S b t := h.step hb.size (fun k _ hk => hb.block k hk) (fun _ h => h)
theorem TellerAt.ch {w w1 : World} {S C : Nat → Prop} {b : Nat} {t : Tl} (h : TellerAt w S b t) (hb : Mem.Ch C w w1) (hd : ∀ k, S k → ¬ C k) : TellerAt w1 S b t := h.step hb.size (fun k hS hk => hb.block k hk (hd k hS)) (fun _ h => h)
def nextTo (to nodes : Int) : Int := (to + 1) % nodes
set_option maxRecDepth 100000 in
set_option maxHeartbeats 2000000 in
theorem askerLate_any (q : Nat) (nodes to : Int) (w : World) (hq : w.heap[q]? = some (.cells #[.int .i64 nodes, .int .i64 to] 64 (0, 0))) (h1 : 1 ≤ nodes) (h2 : nodes ≤ 7) (h3 : 0 ≤ to) (h4 : to < nodes) :
    Calls Try.prog 38 #[.pointer (some ⟨q, 0, none⟩)] w fun r w' => r = .returned (.tuple #[]) ∧ Mem.Ch (fun k => k = q) w w' ∧ w'.heap.size = w.heap.size ∧ w'.heap[q]? = some (.cells #[.int .i64 nodes, .int .i64 (nextTo to nodes)] 64 (0, 0)) := by
  have c0 : w.cell? ⟨q, 0, none⟩ = some (.int .i64 nodes) := Mem.cell hq rfl
  have c1 : w.cell? ⟨q, 1, none⟩ = some (.int .i64 to) := Mem.cell hq rfl
  have f1 : w.frozen? ⟨q, 1, none⟩ = false := Mem.free hq
  have HQ := Lib.hid hq
  clear hq
  go_enter Try.func38, Try.ntmps38
  go_wp2_with fail
  go_region
  all_goals
    go_end0
    exact ⟨rfl, ((Mem.Ch.refl (fun k => k = q) _).set (.inr rfl)).drew, by simp [World.setCell], Mem.set HQ.out⟩
/-- The head of a teller was written, nothing else. -/
theorem TellerAt.hdr {w w1 : World} {S : Nat → Prop} {b q : Nat} {vw vr : Value} {t t1 : Tl}
    (sb : S b) (sq : S q) (hne : q ≠ b) (hw : Qu.QRow w 0 36 5 vw t.wait.length (evs t.wait)) (hr : Qu.QRow w 0 36 5 vr t.refused.length (evs t.refused))
    (dw : ∀ k, vw.ownBlock = some k → S k ∧ k ≠ b ∧ k ≠ q ∧ vr.ownBlock ≠ some k) (dr : ∀ k, vr.ownBlock = some k → S k ∧ k ≠ b ∧ k ≠ q)
    (hf : ∀ p, p ∈ t.wait ∨ p ∈ t.refused → EvR w (fun k => S k ∧ k ≠ b ∧ k ≠ q ∧ some k ≠ vw.ownBlock ∧ some k ≠ vr.ownBlock) p.1 p.2)
    (hch : Mem.Ch (fun k => k = q ∨ k = b) w w1)
    (hb1 : w1.heap[b]? = some (.cells #[.pointer (some ⟨q, 0, none⟩), .int .i64 t1.id, .int .i64 t1.seq, vw, vr] 95 (0, 0)))
    (hq1 : w1.heap[q]? = some (.cells #[.int .i64 t1.nodes, .int .i64 t1.to] 64 (0, 0))) (ew : t1.wait = t.wait) (er : t1.refused = t.refused) : TellerAt w1 S b t1 := by
  refine ⟨q, vw, vr, hb1, hq1, sb, sq, hne, ?_, ?_, dw, dr, ?_⟩
  · rw [ew]; exact Qu.q_move hw (fun k hk => hch.block k (Qu.q_lt hw k hk) (fun h => by have := dw k hk; omega))
  · rw [er]; exact Qu.q_move hr (fun k hk => hch.block k (Qu.q_lt hr k hk) (fun h => by have := dr k hk; omega))
  · intro p hp
    rw [ew, er] at hp
    exact (hf p hp).step hch.size (fun k hk hl => hch.block k hl (fun h => by have := hk.2; omega))
/-- What a teller's numbers are. -/
def Tl.fit (t : Tl) : Prop := 1 ≤ t.nodes ∧ t.nodes ≤ 7 ∧ 0 ≤ t.to ∧ t.to < t.nodes
def leadTo (to nodes i : Int) : Int := if 0 ≤ i ∧ i < nodes then i else nextTo to nodes
set_option maxRecDepth 100000 in
set_option maxHeartbeats 2000000 in
theorem lead_any (q : Nat) (nodes to i : Int) (w : World) (hq : w.heap[q]? = some (.cells #[.int .i64 nodes, .int .i64 to] 64 (0, 0))) (h1 : 1 ≤ nodes) (h2 : nodes ≤ 7) (h3 : 0 ≤ to) (h4 : to < nodes) :
    Calls Try.prog 42 #[.pointer (some ⟨q, 0, none⟩), .int .i64 i] w fun r w' => r = .returned (.tuple #[]) ∧ Mem.Ch (fun k => k = q) w w' ∧ w'.heap.size = w.heap.size ∧
      w'.heap[q]? = some (.cells #[.int .i64 nodes, .int .i64 (leadTo to nodes i)] 64 (0, 0)) := by
  have c0 : w.cell? ⟨q, 0, none⟩ = some (.int .i64 nodes) := Mem.cell hq rfl
  have c1 : w.cell? ⟨q, 1, none⟩ = some (.int .i64 to) := Mem.cell hq rfl
  have f1 : w.frozen? ⟨q, 1, none⟩ = false := Mem.free hq
  have HQ := Lib.hid hq
  clear hq
  by_cases hin : 0 ≤ i ∧ i < nodes
  · obtain ⟨i0, i1⟩ := hin
    have HE : Hid (leadTo to nodes i = i) := Lib.hid (if_pos ⟨i0, i1⟩)
    go_enter Try.func42, Try.ntmps42
    go_wp2_with fail
    go_end0
    exact ⟨rfl, (Mem.Ch.refl (fun k => k = q) _).set (.inr rfl), by simp [World.setCell], by rw [HE.out]; exact Mem.set HQ.out⟩
  · have HE : Hid (leadTo to nodes i = nextTo to nodes) := Lib.hid (if_neg hin)
    have hc : i < 0 ∨ nodes ≤ i := by omega
    rcases hc with hc | hc
    all_goals
      go_enter Try.func42, Try.ntmps42
      go_wp2_with (go_at_call 38; refine (askerLate_any q nodes to _ HQ.out h1 h2 h3 h4).mono ?_; rintro _ w1 ⟨rfl, hc1, hz1, hq1⟩)
      refine bodyPost_ret (results_none rfl _ _ _) rfl ?_
      exact ⟨rfl, hc1, hz1, by rw [HE.out]; exact hq1⟩
set_option maxRecDepth 100000 in
set_option maxHeartbeats 2000000 in
theorem Late_any (S : Nat → Prop) (b : Nat) (t : Tl) (w : World) (h : TellerAt w S b t) (hf : t.fit) :
    Calls Try.prog 24 #[.pointer (some ⟨b, 0, none⟩)] w fun r w' => r = .returned (.tuple #[]) ∧ Mem.Ch S w w' ∧ TellerAt w' S b { t with to := nextTo t.to t.nodes } := by
  obtain ⟨q, vw, vr, hb, hq, sb, sq, hne, hw, hr, dw, dr, hff⟩ := h
  obtain ⟨f1, f2, f3, f4⟩ := hf
  have b0 : w.cell? ⟨b, 0, none⟩ = some (.pointer (some ⟨q, 0, none⟩)) := Mem.cell hb rfl
  have HH := Lib.hid (And.intro hb (And.intro hw (And.intro hr (And.intro dw (And.intro dr hff)))))
  have HQ := Lib.hid hq
  clear hb hw hr dw dr hff hq
  go_enter Try.func24, Try.ntmps24
  go_wp2_with (go_at_call 38; refine (askerLate_any q t.nodes t.to _ HQ.out f1 f2 f3 f4).mono ?_; rintro _ w1 ⟨rfl, hc1, hz1, hq1⟩)
  go_end0
  obtain ⟨hb, hw, hr, dw, dr, hff⟩ := HH.out
  exact ⟨rfl, hc1.mono (fun k _ hk => by rw [hk]; exact sq), TellerAt.hdr (t1 := { t with to := nextTo t.to t.nodes }) sb sq hne hw hr dw dr hff (hc1.mono (fun k _ hk => .inl hk)) (hc1.at_ hb (fun h => hne h.symm)) hq1 rfl rfl⟩
set_option maxRecDepth 100000 in
set_option maxHeartbeats 2000000 in
theorem some_yes (n : Int) (w : World) (h1 : 1 ≤ n) (h7 : n ≤ 7) : Calls Try.prog 18 #[.int .i64 n] w fun r w' => r = .returned (.bool true) ∧ w = w' := by
  go_enter Try.func18, Try.ntmps18
  go_wp2_with fail
  go_ret
  exact ⟨Mem.ret_bool (by first | rfl | (simp; omega)), rfl⟩
set_option maxRecDepth 100000 in
set_option maxHeartbeats 2000000 in
theorem some_no (n : Int) (w : World) (h : n < 1 ∨ 7 < n) : Calls Try.prog 18 #[.int .i64 n] w fun r w' => r = .returned (.bool false) ∧ w = w' := by
  rcases h with h | h
  all_goals
    go_enter Try.func18, Try.ntmps18
    go_wp2_with fail
    all_goals
      go_ret
      exact ⟨Mem.ret_bool (by first | rfl | (simp; omega)), rfl⟩
set_option maxRecDepth 100000 in
set_option maxHeartbeats 2000000 in
theorem NewTeller_no (n : Int) (w : World) (h : n < 1 ∨ 7 < n) : Calls Try.prog 20 #[.int .i64 n] w fun r w' => r = .returned (.pointer none) ∧ w = w' := by
  have HH := Lib.hid h
  clear h
  go_enter Try.func20, Try.ntmps20
  go_wp2_with (go_at_call 18; refine (some_no n _ HH.out).mono ?_; rintro _ w1 ⟨rfl, rfl⟩)
  go_ret
  exact ⟨rfl, rfl⟩
set_option maxRecDepth 100000 in
set_option maxHeartbeats 2000000 in
theorem NewTeller_yes (n : Int) (w : World) (h1 : 1 ≤ n) (h7 : n ≤ 7) : Calls Try.prog 20 #[.int .i64 n] w fun r w' => ∃ b, r = .returned (.pointer (some ⟨b, 0, none⟩)) ∧ Below w.heap.size w w' ∧ w.heap.size ≤ b ∧ TellerAt w' (fun k => w.heap.size ≤ k ∧ k < w'.heap.size) b ⟨n, 0, 0, 0, [], []⟩ := by
  go_enter Try.func20, Try.ntmps20
  go_wp2_with (go_at_call 18; refine (some_yes n _ h1 h7).mono ?_; rintro _ w1 ⟨rfl, rfl⟩)
  go_ret
  refine ⟨w.heap.size + 1, rfl, ((Below.refl _ _).alloc (Nat.le_refl _) _).alloc (by simp) _, by omega, w.heap.size, .slice none 0 0, .slice none 0 0, ?_, Mem.old (Mem.new _ _) _, ⟨by omega, by simp⟩, ⟨by omega, by simp; omega⟩, by omega, ?_, ?_, ?_, ?_, ?_⟩
  · have := Mem.new (w.alloc (Obj.cells #[Value.int IntKind.i64 n, Value.int IntKind.i64 0] 64)) (Obj.cells #[Value.pointer (some ⟨w.heap.size, 0, none⟩), Value.int IntKind.i64 0, Value.int IntKind.i64 0, Value.slice none 0 0, Value.slice none 0 0] 95)
    simpa using this
  · exact Qu.q_of_own (World.ownsRow_nil _ _ _ _)
  · exact Qu.q_of_own (World.ownsRow_nil _ _ _ _)
  · intro k hk; simp [Value.ownBlock] at hk
  · intro k hk; simp [Value.ownBlock] at hk
  · intro p hp; simp at hp
end Go.Proofs.Ytiomhmdkaglelaa
