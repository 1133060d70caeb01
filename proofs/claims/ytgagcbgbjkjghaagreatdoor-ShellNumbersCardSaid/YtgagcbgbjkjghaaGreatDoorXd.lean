/- Lemmas and walks: Walks: what reading an op leaves in memory. The plain law of reading ops: one step at a time. No program in this text. Walks: the program's reading of an op. Printed by mkE1.py. Walks: the program's reading of a write. Printed by mkE1.py. The walk of script.Parse, joined. Walks: decimal numerals. Walks: the reference's text of an op. Walks: the reference's text as a block's bytes. Walks: the reference's numbers. What the reference's reading of an op leaves in memory; what it reads. The plain law: numerals, hex digits and words are read as they were written. No program in this text. The plain functions of answers: their texts. No program in this text. Walks: the reference's Answer. -/
import Derived.Deep.RegionHeld3
import Derived.IntWalk
import Derived.StillTailTactics
import Derived.Deep.DeepCutAuto
import Derived.Test.YtgagcbgbjkjghaaGreatDoorXb
import Derived.Test.YtgagcbgbjkjghaaGreatDoorXc
namespace Go.Proofs.YtgagcbgbjkjghaaGreatDoor.Scr
open Go.RowKit Go.Lib

/-- where Parse stands: its result's block, its reader, its op. -/
def St (w0 w : World) (ws : List (List UInt8)) (bad : Bool) (k h a n : Int) (pv : Value) : Prop :=
  Below w0.heap.size w0 w ∧ Rd w (w0.heap.size + 1 + 1) ws bad ∧
  w.heap[w0.heap.size]? = some (.cells #[.int .i64 0, .int .i64 0, .int .i64 0, .int .i64 0, .slice none 0 0] 116 (0, 0)) ∧
  w.heap[w0.heap.size + 1 + 1 + 1]? = some (.cells #[.int .i64 k, .int .i64 h, .int .i64 a, .int .i64 n, pv] 116 (0, 0)) ∧ ∃ p m c, pv = .slice p m c

theorem hp_new (w : World) (o : Obj) : (w.alloc o).heap[w.heap.size]? = some o := by rw [show (w.alloc o).heap = w.heap.push o from rfl]; simp
theorem hp_old {w : World} {o : Obj} {g : Nat} {x : Obj} (h : w.heap[g]? = some x) : (w.alloc o).heap[g]? = some x := below_heap (Below.of_alloc _ _) h
theorem sz_alloc (w : World) (o : Obj) : (w.alloc o).heap.size = w.heap.size + 1 := by simp

theorem _root_.Go.Proofs.YtgagcbgbjkjghaaGreatDoor.Ss.ne2 {w : World} {b off g : Nat} {ws : List (List UInt8)} {C : Array Value} {t : TypeId} {rf : Nat × Nat} (hne : ws ≠ []) (hc : ∀ j (h : j < ws.length), w.cell? ⟨b, off + j, none⟩ = some (.string ⟨ws[j].toArray⟩))
    (hg : w.heap[g]? = some (.cells C t rf)) (hC : ∀ (i : Nat) (s : ByteArray), C[i]? ≠ some (Value.string s)) : b ≠ g := by
  rintro rfl
  have h0 := hc 0 (List.length_pos_iff.2 hne)
  rw [cell_of_row _ _ _ _ _ _ hg] at h0
  exact hC _ _ h0

/-- these puts lie in blocks of their own. -/
def PsT (w : World) (a : Option Addr) (l : List (Int × List UInt8)) : Prop :=
  l = [] ∨ ∃ g cs, a = some ⟨g, 0, none⟩ ∧ w.heap[g]? = some (.cells cs 138 (0, 0)) ∧ ∀ j (h : j < l.length), cs[j * 2]? = some (.int .i64 l[j].1) ∧ ∃ D, cs[j * 2 + 1]? = some (.slice (some ⟨D, 0, none⟩) 40 40) ∧ w.heap[D]? = some (.cells (Lib.byteCells l[j].2).toArray 5 (0, 0)) ∧ l[j].2.length = 40
/-- what Parse hands back. -/
def ParseR (w : World) (r : Option OpD) (e : Ending) (w' : World) : Prop :=
  Below w.heap.size w w' ∧ match r with
  | none => e = .returned (.tuple #[.agg #[.int .i64 0, .int .i64 0, .int .i64 0, .int .i64 0, .slice none 0 0], .int .i64 13])
  | some (k, h, a, n, l) => ∃ pa m c, e = .returned (.tuple #[.agg #[.int .i64 k, .int .i64 h, .int .i64 a, .int .i64 n, .slice pa m c], .int .i64 0]) ∧ l.length = m ∧ m ≤ c ∧ PsT w' pa l ∧ (k ≠ 3 → pa = none ∧ c = 0)

theorem St.below {w0 w w' : World} {ws : List (List UInt8)} {bad : Bool} {k h a n : Int} {pv : Value} (hS : St w0 w ws bad k h a n pv) (hb : Below w.heap.size w w') : St w0 w' ws bad k h a n pv := by
  obtain ⟨h1, h2, h3, h4, h5⟩ := hS
  exact ⟨below_step h1 (by have := (Array.getElem?_eq_some_iff.1 h3).1; omega) hb, h2.keep hb, below_heap hb h3, below_heap hb h4, h5⟩

theorem St.next {w0 w w' : World} {ws : List (List UInt8)} {bad bad' : Bool} {k h a n : Int} {pv : Value} (ws' : List (List UInt8)) (hS : St w0 w ws bad k h a n pv) (hg : w.grownBy w' (some (w0.heap.size + 1 + 1))) (hR : Rd w' (w0.heap.size + 1 + 1) ws' bad') : St w0 w' ws' bad' k h a n pv := by
  obtain ⟨h1, h2, h3, h4, h5⟩ := hS
  have s3 := (Array.getElem?_eq_some_iff.1 h3).1
  have s4 := (Array.getElem?_eq_some_iff.1 h4).1
  refine ⟨h1.trans (grown_below hg (by omega) (by omega)), hR, ?_, ?_, h5⟩
  · exact (hg.block _ s3 (by simp; omega)).trans h3
  · exact (hg.block _ s4 (by simp)).trans h4

theorem St.cells {w0 w : World} {ws : List (List UInt8)} {bad : Bool} {k h a n : Int} {pv : Value} (hS : St w0 w ws bad k h a n pv) (i : Nat) (v : Value) {k' h' a' n' : Int} {pv' : Value}
    (he : (#[.int .i64 k, .int .i64 h, .int .i64 a, .int .i64 n, pv] : Array Value).set! i v = #[.int .i64 k', .int .i64 h', .int .i64 a', .int .i64 n', pv']) (hp' : ∃ p m c, pv' = .slice p m c) :
    St w0 (w.setCell ⟨w0.heap.size + 1 + 1 + 1, i, none⟩ v) ws bad k' h' a' n' pv' := by
  obtain ⟨h1, ⟨a0, c, hg, hss, hc, hlo⟩, h3, h4, p, m, c5, rfl⟩ := hS
  refine ⟨h1.setCell (by show _ ≤ w0.heap.size + 1 + 1 + 1; omega) _, ⟨a0, c, ?_, ?_, hc, hlo⟩, ?_, ?_, hp'⟩
  · rw [Below.heap_setCell _ _ _ _ (by show _ ≠ w0.heap.size + 1 + 1 + 1; omega)]; exact hg
  · refine hss.grown (grown_set w _ i v) fun b off ha hne => ?_
    have := hlo hne b off ha
    omega
  · rw [Below.heap_setCell _ _ _ _ (by show _ ≠ w0.heap.size + 1 + 1 + 1; omega)]; exact h3
  · rw [Lib.heap_setCell_same h4, ← he, Array.set!_eq_setIfInBounds]

theorem row_five {w : World} {g : Nat} {v0 v1 v2 v3 v4 : Value} (h : w.heap[g]? = some (.cells #[v0, v1, v2, v3, v4] 116 (0, 0))) :
    (w.cell? ⟨g, 0, none⟩ = some v0 ∧ w.cell? ⟨g, 1, none⟩ = some v1 ∧ w.cell? ⟨g, 2, none⟩ = some v2 ∧ w.cell? ⟨g, 3, none⟩ = some v3 ∧ w.cell? ⟨g, 4, none⟩ = some v4) ∧
    (∀ i, w.frozen? ⟨g, i, none⟩ = false) := by
  refine ⟨⟨?_, ?_, ?_, ?_, ?_⟩, fun i => frozen_of_row _ _ _ _ _ h⟩ <;> rw [cell_of_row _ _ _ _ _ _ h] <;> rfl

theorem st_start (w : World) (L : List (List UInt8)) : St w ((((w.alloc (.cells #[.int .i64 0, .int .i64 0, .int .i64 0, .int .i64 0, .slice none 0 0] 116)).alloc (.cells (strCells L).toArray 9)).alloc
    (.cells #[.slice (some ⟨w.heap.size + 1, 0, none⟩) L.length L.length, .bool false] 191)).alloc (.cells #[.int .i64 0, .int .i64 0, .int .i64 0, .int .i64 0, .slice none 0 0] 116)) L false 0 0 0 0 (.slice none 0 0) := by
  have hc : ∀ (b : World) (j : Nat) (hj : j < L.length), b.heap[w.heap.size + 1]? = some (.cells (strCells L).toArray 9 (0, 0)) → b.cell? ⟨w.heap.size + 1, 0 + j, none⟩ = some (.string ⟨L[j].toArray⟩) := by
    intro b j hj hb
    rw [cell_of_row _ _ _ _ _ _ hb]
    simp [strCells, hj]
  unfold St
  generalize (.cells #[.int .i64 0, .int .i64 0, .int .i64 0, .int .i64 0, .slice none 0 0] 116 : Obj) = o1 at *
  have h1 := hp_new w o1
  have s1 := sz_alloc w o1
  have b1 := Below.of_alloc w o1
  generalize w.alloc o1 = w1 at *
  have h2 := hp_new w1 (.cells (strCells L).toArray 9)
  have b2 := b1.alloc (by omega) (.cells (strCells L).toArray 9)
  have s2 := sz_alloc w1 (.cells (strCells L).toArray 9)
  have h12 := hp_old (o := .cells (strCells L).toArray 9) h1
  generalize w1.alloc (.cells (strCells L).toArray 9) = w2 at *
  rw [s1] at h2 s2
  have h3 := hp_new w2 (.cells #[.slice (some ⟨w.heap.size + 1, 0, none⟩) L.length L.length, .bool false] 191)
  have b3 := b2.alloc (by omega) (.cells #[.slice (some ⟨w.heap.size + 1, 0, none⟩) L.length L.length, .bool false] 191)
  have s3 := sz_alloc w2 (.cells #[.slice (some ⟨w.heap.size + 1, 0, none⟩) L.length L.length, .bool false] 191)
  have h13 := hp_old (o := .cells #[.slice (some ⟨w.heap.size + 1, 0, none⟩) L.length L.length, .bool false] 191) h12
  have h23 := hp_old (o := .cells #[.slice (some ⟨w.heap.size + 1, 0, none⟩) L.length L.length, .bool false] 191) h2
  generalize w2.alloc (.cells #[.slice (some ⟨w.heap.size + 1, 0, none⟩) L.length L.length, .bool false] 191) = w3 at *
  rw [s2] at h3 s3
  have h4 := hp_new w3 o1
  have b4 := b3.alloc (by omega) o1
  have h14 := hp_old (o := o1) h13
  have h24 := hp_old (o := o1) h23
  have h34 := hp_old (o := o1) h3
  rw [s3] at h4
  refine ⟨b4, ⟨some ⟨w.heap.size + 1, 0, none⟩, L.length, h34, Or.inr ⟨_, 0, rfl, ?_, fun j hj => hc _ j hj h24⟩, Nat.le_refl _, fun _ b off e => by injection e with e; injection e; omega⟩, h14, h4, _, _, _, rfl⟩
  exact (Array.getElem?_eq_some_iff.1 h24).1

theorem parseR_none {w w' : World} {e : Ending} {r : Option OpD} (hr : r = none) (hb : Below w.heap.size w w') (he : e = .returned (.tuple #[.agg #[.int .i64 0, .int .i64 0, .int .i64 0, .int .i64 0, .slice none 0 0], .int .i64 13])) : ParseR w r e w' := by
  subst hr; exact ⟨hb, he⟩
theorem parseR_some {w w' : World} {e : Ending} {r : Option OpD} {k h a n : Int} {l : List (Int × List UInt8)} {pa : Option Addr} {m c : Nat} (hr : r = some (k, h, a, n, l)) (hb : Below w.heap.size w w')
    (he : e = .returned (.tuple #[.agg #[.int .i64 k, .int .i64 h, .int .i64 a, .int .i64 n, .slice pa m c], .int .i64 0])) (hm : l.length = m) (hc : m ≤ c) (hP : PsT w' pa l) (hK : k ≠ 3 → pa = none ∧ c = 0) : ParseR w r e w' := by
  subst hr; exact ⟨hb, pa, m, c, he, hm, hc, hP, hK⟩

theorem St.low {w0 w w' : World} {ws : List (List UInt8)} {bad : Bool} {k h a n : Int} {pv : Value} (hS : St w0 w ws bad k h a n pv) (hb : Below (w0.heap.size + 1 + 1 + 1 + 1) w w') : St w0 w' ws bad k h a n pv := by
  obtain ⟨h1, ⟨a0, c, hg, hss, hc, hlo⟩, h3, h4, h5⟩ := hS
  refine ⟨h1.trans (hb.mono (by omega)), ⟨a0, c, (hb.block _ (by omega)).trans hg, ?_, hc, hlo⟩, (hb.block _ (by omega)).trans h3, (hb.block _ (by omega)).trans h4, h5⟩
  rcases hss with h0 | ⟨b, off, ha, hlt, hcc⟩
  · exact Or.inl h0
  · by_cases hne : ws = []
    · exact Or.inl hne
    · exact Or.inr ⟨b, off, ha, Nat.lt_of_lt_of_le hlt hb.size, fun j hj => (hb.cell (by have := hlo hne b off ha; show b < _; omega)).trans (hcc j hj)⟩

theorem St.bad {w0 w : World} {ws : List (List UInt8)} {bad : Bool} {k h a n : Int} {pv : Value} (hS : St w0 w ws bad k h a n pv) (b : Bool) : St w0 (w.setCell ⟨w0.heap.size + 1 + 1, 1, none⟩ (.bool b)) ws b k h a n pv :=
  hS.next ws (grown_set w _ 1 _) (hS.2.1.set b)

/-- five cells of a block are set. -/
def set5 (w : World) (g : Nat) (v0 v1 v2 v3 v4 : Value) : World := ((((w.setCell ⟨g, 0, none⟩ v0).setCell ⟨g, 1, none⟩ v1).setCell ⟨g, 2, none⟩ v2).setCell ⟨g, 3, none⟩ v3).setCell ⟨g, 4, none⟩ v4
theorem set5_grown (w : World) (g : Nat) (v0 v1 v2 v3 v4 : Value) : w.grownBy (set5 w g v0 v1 v2 v3 v4) (some g) :=
  grownBy_trans (grown_set _ _ _ _) (grownBy_trans (grown_set _ _ _ _) (grownBy_trans (grown_set _ _ _ _) (grownBy_trans (grown_set _ _ _ _) (grown_set _ _ _ _))))
theorem set5_row {w : World} {g : Nat} {u0 u1 u2 u3 u4 : Value} (h : w.heap[g]? = some (.cells #[u0, u1, u2, u3, u4] 116 (0, 0))) (v0 v1 v2 v3 v4 : Value) : (set5 w g v0 v1 v2 v3 v4).heap[g]? = some (.cells #[v0, v1, v2, v3, v4] 116 (0, 0)) := by
  unfold set5
  rw [Lib.heap_setCell_same (Lib.heap_setCell_same (Lib.heap_setCell_same (Lib.heap_setCell_same (Lib.heap_setCell_same h _) _) _) _) _]
  rfl

/-- the cells of puts, where their bytes lie from block B on. -/
def PD (w : World) (B : Nat) (l : List (Int × List UInt8)) (xs : List Value) : Prop :=
  xs.length = l.length * 2 ∧ ∀ j (h : j < l.length), ∃ g, xs[j * 2]? = some (.int .i64 l[j].1) ∧ xs[j * 2 + 1]? = some (.slice (some ⟨g, 0, none⟩) 40 40) ∧ B ≤ g ∧
    w.heap[g]? = some (.cells (Lib.byteCells l[j].2).toArray 5 (0, 0)) ∧ l[j].2.length = 40 ∧ -9223372036854775808 ≤ l[j].1 ∧ l[j].1 ≤ 9223372036854775807

theorem PD.grown {w w' : World} {B : Nat} {l : List (Int × List UInt8)} {xs : List Value} {row : Option Nat} (h : PD w B l xs) (hg : w.grownBy w' row) (hr : ∀ g C fr, row = some g → B ≤ g → w.heap[g]? ≠ some (.cells C 5 fr)) : PD w' B l xs := by
  refine ⟨h.1, fun j hj => ?_⟩
  obtain ⟨g, h1, h2, h3, h4, h5⟩ := h.2 j hj
  refine ⟨g, h1, h2, h3, (hg.block g (Array.getElem?_eq_some_iff.1 h4).1 ?_).trans h4, h5⟩
  intro e
  exact hr g _ _ e.symm h3 h4

theorem PD.low {w w' : World} {B x : Nat} {l : List (Int × List UInt8)} {xs : List Value} (h : PD w B l xs) (hg : w.grownBy w' (some x)) (hx : x < B) : PD w' B l xs :=
  h.grown hg fun g C fr e hB => by injection e; omega

theorem PD.keep {w w' : World} {B : Nat} {l : List (Int × List UInt8)} {xs : List Value} (h : PD w B l xs) (hb : Below w.heap.size w w') : PD w' B l xs :=
  h.grown (below_grownBy hb none) fun g C fr e hB => by cases e

theorem PD.own {w w' : World} {B n : Nat} {l : List (Int × List UInt8)} {xs ys : List Value} {v : Value} (h : PD w B l xs) (ho : w.ownsRow B 138 2 v n ys) (hg : w.grownBy w' v.ownBlock) : PD w' B l xs :=
  h.grown hg fun g C fr e hB => by
    rcases ho.2 with ⟨rfl, _⟩ | ⟨g', cap, cur, rfl, _, hh, _⟩
    · cases e
    · obtain rfl : g' = g := by injection e
      rw [hh]
      intro e
      injection e with e
      injection e with e1 e2
      cases e2

theorem PD.snoc {w : World} {B : Nat} {l : List (Int × List UInt8)} {xs : List Value} (h : PD w B l xs) {n : Int} {d : List UInt8} {g : Nat} (hB : B ≤ g) (hg : w.heap[g]? = some (.cells (Lib.byteCells d).toArray 5 (0, 0))) (hd : d.length = 40)
    (h0 : -9223372036854775808 ≤ n) (h1 : n ≤ 9223372036854775807) : PD w B (l ++ [(n, d)]) (xs ++ [.int .i64 n, .slice (some ⟨g, 0, none⟩) 40 40]) := by
  refine ⟨by simp [h.1]; omega, fun j hj => ?_⟩
  rw [List.length_append, List.length_singleton] at hj
  rcases Nat.lt_or_ge j l.length with hlt | hge
  · obtain ⟨g', a1, a2, a3, a4, a5⟩ := h.2 j hlt
    refine ⟨g', ?_, ?_, a3, ?_⟩
    · rw [List.getElem?_append_left (by rw [h.1]; omega), List.getElem_append_left hlt]; exact a1
    · rw [List.getElem?_append_left (by rw [h.1]; omega)]; exact a2
    · rw [List.getElem_append_left hlt]; exact ⟨a4, a5⟩
  · obtain rfl : j = l.length := by omega
    refine ⟨g, ?_, ?_, hB, ?_⟩
    · rw [List.getElem?_append_right (by rw [h.1]; omega), h.1]; simp
    · rw [List.getElem?_append_right (by rw [h.1]; omega), h.1, show l.length * 2 + 1 - l.length * 2 = 1 by omega]; rfl
    · simp only [List.getElem_concat_length]; exact ⟨hg, hd, h0, h1⟩

theorem PD.ps {w : World} {B n : Nat} {l : List (Int × List UInt8)} {xs : List Value} {v : Value} (h : PD w B l xs) (ho : w.ownsRow B 138 2 v n xs) : ∃ pa c, v = .slice pa n c ∧ n ≤ c ∧ l.length = n ∧ Ps w pa l := by
  have hn : l.length = n := by have := ho.1; have := h.1; omega
  rcases ho.2 with ⟨rfl, rfl⟩ | ⟨g', cap, cur, rfl, _, hh, hc, _⟩
  · exact ⟨none, 0, rfl, Nat.le_refl _, hn, Or.inl (List.eq_nil_of_length_eq_zero hn)⟩
  · refine ⟨_, cap, rfl, hc, hn, Or.inr ⟨g', 0, rfl, fun j hj => ?_⟩⟩
    obtain ⟨g, a1, a2, a3, a4, a5, a6, a7⟩ := h.2 j hj
    refine ⟨?_, a6, a7, some ⟨g, 0, none⟩, 40, ?_, by omega, by rw [a5]; decide, ?_⟩
    · rw [ho.cellAt _ (by omega), Nat.zero_add]; exact a1
    · rw [ho.cellAt _ (by omega), Nat.zero_add, a5]; exact a2
    · exact Or.inr ⟨g, 0, rfl, (Array.getElem?_eq_some_iff.1 a4).1, fun i hi => by rw [cell_of_row _ _ _ _ _ _ a4]; simp [Lib.byteCells, hi]⟩

end Go.Proofs.YtgagcbgbjkjghaaGreatDoor.Scr
namespace Go.Proofs.YtgagcbgbjkjghaaGreatDoor.Scr

theorem nextS_mem (ws : List (List UInt8)) (bad : Bool) (x : List UInt8) (h : x ∈ nextS ws bad) : x ∈ ws := by
  unfold nextS at h
  split at h
  · exact h
  · exact List.mem_of_mem_tail h

theorem parse_cand {s : List UInt8} {f : List UInt8} {rest : List (List UInt8)} (hw : words s = f :: rest) :
    parseA s = match candA f rest with | some o => if textO o = s then some o else none | none => none := by
  unfold parseA
  rw [hw]
  rfl

theorem kind_of {f : List UInt8} {k : Int} (h : kindI f = k) :
    (k = 0 → f = wordL 1) ∧ (k = 1 → f = wordL 2) ∧ (k = 2 → f = wordL 3) ∧ (k = 3 → f = wordL 4) ∧ (k = 4 → f = wordL 5) ∧ (k = -1 → f ≠ wordL 1 ∧ f ≠ wordL 2 ∧ f ≠ wordL 3 ∧ f ≠ wordL 4 ∧ f ≠ wordL 5) := by
  unfold kindI at h
  split at h
  · subst h; simp [*]
  split at h
  · subst h; simp [*]
  split at h
  · subst h; simp [*]
  split at h
  · subst h; simp [*]
  split at h
  · subst h; simp [*]
  · subst h; simp [*]

theorem candA_begin {f : List UInt8} (h : kindI f = 0) {rest : List (List UInt8)} : candA f rest = some (1, 0, 0, 0, []) := by
  obtain rfl := (kind_of h).1 rfl
  rfl
theorem candA_read {f : List UInt8} (h : kindI f = 1) {rest : List (List UInt8)} : candA f rest = candR rest := by
  obtain rfl := (kind_of h).2.1 rfl
  rfl
theorem candA_write {f : List UInt8} (h : kindI f = 2) {rest : List (List UInt8)} : candA f rest = candW rest := by
  obtain rfl := (kind_of h).2.2.1 rfl
  rfl
theorem candA_commit {f : List UInt8} (h : kindI f = 3) {rest : List (List UInt8)} : candA f rest = candC 4 rest := by
  obtain rfl := (kind_of h).2.2.2.1 rfl
  rfl
theorem candA_abort {f : List UInt8} (h : kindI f = 4) {rest : List (List UInt8)} : candA f rest = candC 5 rest := by
  obtain rfl := (kind_of h).2.2.2.2.1 rfl
  rfl
theorem candA_other {f : List UInt8} (h : kindI f = -1) {rest : List (List UInt8)} : candA f rest = none := by
  obtain ⟨h1, h2, h3, h4, h5⟩ := (kind_of h).2.2.2.2.2 rfl
  unfold candA
  rw [if_neg h1, if_neg h2, if_neg h3, if_neg h4, if_neg h5]

theorem candC_num (k : Int) (rest : List (List UInt8)) (n : Int) (b : Bool) (hb : (nextB rest false || (atoiIn (nextW rest false)).isNone) = b) (hv : ∀ v, atoiIn (nextW rest false) = some v → n = v) :
    (b = false → candC k rest = some (k, n, 0, 0, [])) ∧ (b = true → candC k rest = none) := by
  subst hb
  cases rest with
  | nil => simp [nextB, candC]
  | cons x r =>
    have e : nextW (x :: r) false = x := rfl
    rw [e] at *
    cases h : atoiIn x with
    | none => simp [nextB, candC, h]
    | some v => simp [nextB, candC, h, hv v h]

theorem candR_num (rest : List (List UInt8)) (n4 n5 n6 : Int) (b4 b5 b6 : Bool) (ws4 ws5 : List (List UInt8)) (hb4 : (nextB rest false || (atoiIn (nextW rest false)).isNone) = b4) (hw4 : nextS rest false = ws4)
    (hb5 : (nextB ws4 b4 || (atoiIn (nextW ws4 b4)).isNone) = b5) (hw5 : nextS ws4 b4 = ws5) (hb6 : (nextB ws5 b5 || (atoiIn (nextW ws5 b5)).isNone) = b6)
    (hv4 : ∀ v, atoiIn (nextW rest false) = some v → n4 = v) (hv5 : ∀ v, atoiIn (nextW ws4 b4) = some v → n5 = v) (hv6 : ∀ v, atoiIn (nextW ws5 b5) = some v → n6 = v) :
    (b6 = false → candR rest = some (2, n4, n5, n6, [])) ∧ (b6 = true → candR rest = none) := by
  have up5 : b4 = true → b5 = true := fun h => by rw [← hb5, h]; simp [nextB]
  have up6 : b5 = true → b6 = true := fun h => by rw [← hb6, h]; simp [nextB]
  have bad : b6 = true → (b6 = false → candR rest = some (2, n4, n5, n6, [])) := fun h e => by rw [h] at e; cases e
  cases rest with
  | nil =>
    have h4 : b4 = true := by rw [← hb4]; rfl
    exact ⟨bad (up6 (up5 h4)), fun _ => rfl⟩
  | cons x r =>
    have e4 : ws4 = r := hw4.symm
    subst e4
    cases hx : atoiIn x with
    | none =>
      have h4 : b4 = true := by rw [← hb4]; show (_ || (atoiIn x).isNone) = true; rw [hx]; simp
      refine ⟨bad (up6 (up5 h4)), fun _ => ?_⟩
      unfold candR; split
      · rename_i e; cases e; rw [hx]
      · rfl
    | some v4 =>
      have h4 : b4 = false := by rw [← hb4]; show (nextB (x :: ws4) false || (atoiIn x).isNone) = false; rw [hx]; rfl
      subst h4
      have := hv4 v4 hx
      subst this
      cases ws4 with
      | nil =>
        have h5 : b5 = true := by rw [← hb5]; rfl
        exact ⟨bad (up6 h5), fun _ => rfl⟩
      | cons y r =>
        have e5 : ws5 = r := hw5.symm
        subst e5
        cases hy : atoiIn y with
        | none =>
          have h5 : b5 = true := by rw [← hb5]; show (_ || (atoiIn y).isNone) = true; rw [hy]; simp
          refine ⟨bad (up6 h5), fun _ => ?_⟩
          unfold candR; split
          · rename_i e; cases e; rw [hx, hy]
          · rfl
        | some v5 =>
          have h5 : b5 = false := by rw [← hb5]; show (nextB (y :: ws5) false || (atoiIn y).isNone) = false; rw [hy]; rfl
          subst h5
          have := hv5 v5 hy
          subst this
          cases ws5 with
          | nil =>
            have h6 : b6 = true := by rw [← hb6]; rfl
            exact ⟨bad h6, fun _ => rfl⟩
          | cons z r =>
            cases hz : atoiIn z with
            | none =>
              have h6 : b6 = true := by rw [← hb6]; show (_ || (atoiIn z).isNone) = true; rw [hz]; simp
              refine ⟨bad h6, fun _ => ?_⟩
              simp [candR, hx, hy, hz]
            | some v6 =>
              have h6 : b6 = false := by rw [← hb6]; show (nextB (z :: r) false || (atoiIn z).isNone) = false; rw [hz]; rfl
              have := hv6 v6 hz
              subst this
              subst h6
              exact ⟨fun _ => by simp [candR, hx, hy, hz], fun e => by cases e⟩

/-- what a round of the loop over puts reads. -/
theorem loopW_num (a : List UInt8) (r : List (List UInt8)) (puts : List (Int × List UInt8)) (n : Int) (b1 b2 : Bool) (ws1 : List (List UInt8)) (hb1 : (nextB (a :: r) false || (atoiIn (nextW (a :: r) false)).isNone) = b1) (hw1 : nextS (a :: r) false = ws1)
    (hb2 : (nextB ws1 b1 || (unbytesT (nextW ws1 b1)).isNone) = b2) (hv : ∀ v, atoiIn (nextW (a :: r) false) = some v → n = v) :
    (b2 = true → loopW (a :: r) puts = none) ∧ (b2 = false → ∃ d, unbytesT (nextW ws1 b1) = some d ∧ loopW (a :: r) puts = loopW (nextS ws1 b1) (puts ++ [(n, d)])) := by
  have e1 : ws1 = r := hw1.symm
  subst e1
  have up : b1 = true → b2 = true := fun h => by rw [← hb2, h]; simp [nextB]
  cases ws1 with
  | nil =>
    have h2 : b2 = true := by rw [← hb2]; simp [nextB]
    exact ⟨fun _ => rfl, fun e => by rw [h2] at e; cases e⟩
  | cons b r =>
    cases ha : atoiIn a with
    | none =>
      have h1 : b1 = true := by rw [← hb1]; show (_ || (atoiIn a).isNone) = true; rw [ha]; simp
      refine ⟨fun _ => by simp [loopW, ha], fun e => by rw [up h1] at e; cases e⟩
    | some v =>
      have h1 : b1 = false := by rw [← hb1]; show (nextB (a :: b :: r) false || (atoiIn a).isNone) = false; rw [ha]; rfl
      subst h1
      have := hv v ha
      subst this
      cases hu : unbytesT b with
      | none =>
        have h2 : b2 = true := by rw [← hb2]; show (_ || (unbytesT b).isNone) = true; rw [hu]; simp
        exact ⟨fun _ => by simp [loopW, ha, hu], fun e => by rw [h2] at e; cases e⟩
      | some d =>
        have h2 : b2 = false := by rw [← hb2]; show (nextB (b :: r) false || (unbytesT b).isNone) = false; rw [hu]; rfl
        exact ⟨fun e => (by rw [h2] at e; cases e), fun _ => ⟨d, hu, by simp [loopW, ha, hu]; rfl⟩⟩

end Go.Proofs.YtgagcbgbjkjghaaGreatDoor.Scr
namespace Go.Proofs.YtgagcbgbjkjghaaGreatDoor.Scr
open Go.RowKit Go.Lib

set_option maxRecDepth 100000 in
set_option maxHeartbeats 2000000 in
theorem parse_begin (s : ByteArray) (f : List UInt8) (rest : List (List UInt8)) (w : World) (hG : Gl w) (hs : s.size ≤ 1000000) (hw : Hid (words s.data.toList = f :: rest)) (hm : (f :: rest).length ≤ 100000) (hx : ∀ x ∈ f :: rest, x.length ≤ 1000000) (hk : Hid (kindI f = 0)) :
    Calls Tryz.prog 53 #[.string s] w (ParseR w (parseA s.data.toList)) := by
  have hA := parse_cand hw.out
  rw [candA_begin hk.out] at hA
  have hA1 := Lib.hid hA
  clear hA
  have HX := Lib.hid hx
  clear hx
  go_enter Tryz.func53, Tryz.ntmps53
  go_wp2_with fail
  go_step3
  go_wp2_with fail
  refine (split_any s _ (by omega) (hG.keep (Below.of_alloc _ _))).mono ?_
  rintro e w1 ⟨rfl, rfl⟩
  rw [hw.out]
  go_wp2_with fail
  have hS := st_start w (f :: rest)
  refine (next_any _ (f :: rest) false _ hS.2.1 (by omega)).mono ?_
  rintro e w1 ⟨rfl, hR1, hg1⟩
  have hS1 := hS.next _ hg1 hR1
  clear hS
  go_wp2_with fail
  refine (indexFunc_any _ _ (nextW (f :: rest) false) _ ?_ ?_).mono ?_
  · exact (cell_of_row _ _ _ _ _ _ (hp_old (hp_new _ _))).trans rfl
  · rw [← sz_alloc w1]; exact hp_new _ _
  rintro e w2 ⟨rfl, n, hn⟩
  have hS2 : St w w2 rest false 0 0 0 0 (.slice none 0 0) := by
    subst hn
    exact hS1.below (below_drewN (((Below.of_alloc _ _)).alloc (by simp) _) n)
  have hkk : kindI (nextW (f :: rest) false) = 0 := hk.out
  clear hS1 hR1 hg1 hn hk
  rw [hkk]
  obtain ⟨hb2, -, hr0, ho, -⟩ := id hS2
  obtain ⟨⟨eo0, eo1, eo2, eo3, eo4⟩, fo⟩ := row_five ho
  have fo0 := fo 0
  clear fo ho hr0
  have hrl : rest.length < 100000 := by rw [List.length_cons] at hm; omega
  go_wp2_with fail
  have hSa := hS2.cells 0 (.int .i64 1) (k' := 1) (h' := 0) (a' := 0) (n' := 0) rfl ⟨_, _, _, rfl⟩
  generalize w2.setCell ⟨w.heap.size + 1 + 1 + 1, 0, none⟩ (.int .i64 1) = w3 at *
  clear hS2 hb2 eo0 eo1 eo2 eo3 eo4 fo0 hkk
  obtain ⟨hb3, ⟨ra, rc, hrb, -, -, -⟩, hr3, ho3, -⟩ := id hSa
  obtain ⟨⟨eo0, eo1, eo2, eo3, eo4⟩, fo⟩ := row_five ho3
  obtain ⟨⟨er0, er1, er2, er3, er4⟩, fr⟩ := row_five hr3
  have fr0 := fr 0
  have fr1 := fr 1
  have fr2 := fr 2
  have fr3 := fr 3
  have fr4 := fr 4
  have eb : w3.cell? ⟨w.heap.size + 1 + 1, 1, none⟩ = some (.bool false) := by rw [cell_of_row _ _ _ _ _ _ hrb]; rfl
  have fb : w3.frozen? ⟨w.heap.size + 1 + 1, 1, none⟩ = false := frozen_of_row _ _ _ _ _ hrb
  clear hrb ho3 hr3 fr fo
  go_step3
  go_wp2_with fail
  have hS3 := hSa
  clear hSa hb3
  have hb3 := hS3.1
  generalize w3 = w3 at *
  refine (text_any 1 0 0 0 none 0 0 [] w3 (hG.keep hb3) rfl (by omega) (by omega) (by omega) (by omega) (by omega) (by omega) (Or.inl rfl) (by decide)).mono ?_
  rintro e w4 ⟨rfl, hb4⟩
  have hS4 := hS3.below hb4
  clear hS3 hb3 er0 er1 er2 er3 er4 fr0 fr1 fr2 fr3 fr4 eb fb eo0 eo1 eo2 eo3 eo4 hb4
  obtain ⟨hb3, -, hr3, ho3, -⟩ := id hS4
  obtain ⟨⟨eo0, eo1, eo2, eo3, eo4⟩, -⟩ := row_five ho3
  obtain ⟨⟨er0, er1, er2, er3, er4⟩, fr⟩ := row_five hr3
  have fr0 := fr 0
  have fr1 := fr 1
  have fr2 := fr 2
  have fr3 := fr 3
  have fr4 := fr 4
  clear ho3 hr3 fr
  go_wp2_with fail
  · rename_i hne
    rw [Exit.noGoto_ret]
    refine bodyPost_ret (v := .tuple #[.agg #[.int .i64 0, .int .i64 0, .int .i64 0, .int .i64 0, .slice none 0 0], .int .i64 13]) (by simp [results, Tryz.results53, go_sem, er0, er1, er2, er3, er4]) rfl ?_
    have h := hA1.out
    rw [toList_data] at hne
    exact parseR_none (h.trans (if_neg (by intro e; rw [show textT 1 0 0 0 [] = s.data.toList from e] at hne; simp at hne))) (hb3.grown (set5_grown w4 w.heap.size _ _ _ _ _) hb3.size (fun x hx => by injection hx; omega)) rfl
  · rename_i hne
    rw [Exit.noGoto_ret]
    refine bodyPost_ret (v := .tuple #[.agg #[.int .i64 1, .int .i64 0, .int .i64 0, .int .i64 0, .slice none 0 0], .int .i64 0]) (by simp [results, Tryz.results53, go_sem, er0, er1, er2, er3, er4]) rfl ?_
    have h := hA1.out
    rw [toList_data] at hne
    exact parseR_some (h.trans (if_pos (by simp at hne; exact hne))) (hb3.grown (set5_grown w4 w.heap.size _ _ _ _ _) hb3.size (fun x hx => by injection hx; omega)) rfl rfl (Nat.le_refl _) (Or.inl rfl) (fun _ => ⟨rfl, rfl⟩)

set_option maxRecDepth 100000 in
set_option maxHeartbeats 2000000 in
theorem parse_other (s : ByteArray) (f : List UInt8) (rest : List (List UInt8)) (w : World) (hG : Gl w) (hs : s.size ≤ 1000000) (hw : Hid (words s.data.toList = f :: rest)) (hm : (f :: rest).length ≤ 100000) (hx : ∀ x ∈ f :: rest, x.length ≤ 1000000) (hk : Hid (kindI f = -1)) :
    Calls Tryz.prog 53 #[.string s] w (ParseR w (parseA s.data.toList)) := by
  have hA := parse_cand hw.out
  rw [candA_other hk.out] at hA
  have hA1 := Lib.hid hA
  clear hA
  have HX := Lib.hid hx
  clear hx
  go_enter Tryz.func53, Tryz.ntmps53
  go_wp2_with fail
  go_step3
  go_wp2_with fail
  refine (split_any s _ (by omega) (hG.keep (Below.of_alloc _ _))).mono ?_
  rintro e w1 ⟨rfl, rfl⟩
  rw [hw.out]
  go_wp2_with fail
  have hS := st_start w (f :: rest)
  refine (next_any _ (f :: rest) false _ hS.2.1 (by omega)).mono ?_
  rintro e w1 ⟨rfl, hR1, hg1⟩
  have hS1 := hS.next _ hg1 hR1
  clear hS
  go_wp2_with fail
  refine (indexFunc_any _ _ (nextW (f :: rest) false) _ ?_ ?_).mono ?_
  · exact (cell_of_row _ _ _ _ _ _ (hp_old (hp_new _ _))).trans rfl
  · rw [← sz_alloc w1]; exact hp_new _ _
  rintro e w2 ⟨rfl, n, hn⟩
  have hS2 : St w w2 rest false 0 0 0 0 (.slice none 0 0) := by
    subst hn
    exact hS1.below (below_drewN (((Below.of_alloc _ _)).alloc (by simp) _) n)
  have hkk : kindI (nextW (f :: rest) false) = -1 := hk.out
  clear hS1 hR1 hg1 hn hk
  rw [hkk]
  obtain ⟨hb2, -, hr0, ho, -⟩ := id hS2
  obtain ⟨⟨eo0, eo1, eo2, eo3, eo4⟩, fo⟩ := row_five ho
  have fo0 := fo 0
  clear fo ho hr0
  have hrl : rest.length < 100000 := by rw [List.length_cons] at hm; omega
  go_wp2_with fail
  have hSa := hS2.cells 0 (.int .i64 0) (k' := 0) (h' := 0) (a' := 0) (n' := 0) rfl ⟨_, _, _, rfl⟩
  generalize w2.setCell ⟨w.heap.size + 1 + 1 + 1, 0, none⟩ (.int .i64 0) = w3 at *
  clear hS2 hb2 eo0 eo1 eo2 eo3 eo4 fo0 hkk
  obtain ⟨hb3, ⟨ra, rc, hrb, -, -, -⟩, hr3, ho3, -⟩ := id hSa
  obtain ⟨⟨eo0, eo1, eo2, eo3, eo4⟩, fo⟩ := row_five ho3
  obtain ⟨⟨er0, er1, er2, er3, er4⟩, fr⟩ := row_five hr3
  have fr0 := fr 0
  have fr1 := fr 1
  have fr2 := fr 2
  have fr3 := fr 3
  have fr4 := fr 4
  have eb : w3.cell? ⟨w.heap.size + 1 + 1, 1, none⟩ = some (.bool false) := by rw [cell_of_row _ _ _ _ _ _ hrb]; rfl
  have fb : w3.frozen? ⟨w.heap.size + 1 + 1, 1, none⟩ = false := frozen_of_row _ _ _ _ _ hrb
  clear hrb ho3 hr3 fr fo
  go_step3
  go_wp2_with fail
  have hS3 := hSa.bad true
  clear hb3
  have hb3 := hS3.1
  all_goals
    rw [Exit.noGoto_ret]
    refine bodyPost_ret (v := .tuple #[.agg #[.int .i64 0, .int .i64 0, .int .i64 0, .int .i64 0, .slice none 0 0], .int .i64 13]) (by simp [results, Tryz.results53, go_sem, er0, er1, er2, er3, er4]) rfl ?_
    exact parseR_none hA1.out (hb3.grown (set5_grown _ w.heap.size _ _ _ _ _) hb3.size (fun x hx => by injection hx; omega)) rfl

set_option maxRecDepth 100000 in
set_option maxHeartbeats 2000000 in
theorem parse_commit (s : ByteArray) (f : List UInt8) (rest : List (List UInt8)) (w : World) (hG : Gl w) (hs : s.size ≤ 1000000) (hw : Hid (words s.data.toList = f :: rest)) (hm : (f :: rest).length ≤ 100000) (hx : ∀ x ∈ f :: rest, x.length ≤ 1000000) (hk : Hid (kindI f = 3)) :
    Calls Tryz.prog 53 #[.string s] w (ParseR w (parseA s.data.toList)) := by
  have hA := parse_cand hw.out
  rw [candA_commit hk.out] at hA
  have hA1 := Lib.hid hA
  clear hA
  have HX := Lib.hid hx
  clear hx
  go_enter Tryz.func53, Tryz.ntmps53
  go_wp2_with fail
  go_step3
  go_wp2_with fail
  refine (split_any s _ (by omega) (hG.keep (Below.of_alloc _ _))).mono ?_
  rintro e w1 ⟨rfl, rfl⟩
  rw [hw.out]
  go_wp2_with fail
  have hS := st_start w (f :: rest)
  refine (next_any _ (f :: rest) false _ hS.2.1 (by omega)).mono ?_
  rintro e w1 ⟨rfl, hR1, hg1⟩
  have hS1 := hS.next _ hg1 hR1
  clear hS
  go_wp2_with fail
  refine (indexFunc_any _ _ (nextW (f :: rest) false) _ ?_ ?_).mono ?_
  · exact (cell_of_row _ _ _ _ _ _ (hp_old (hp_new _ _))).trans rfl
  · rw [← sz_alloc w1]; exact hp_new _ _
  rintro e w2 ⟨rfl, n, hn⟩
  have hS2 : St w w2 rest false 0 0 0 0 (.slice none 0 0) := by
    subst hn
    exact hS1.below (below_drewN (((Below.of_alloc _ _)).alloc (by simp) _) n)
  have hkk : kindI (nextW (f :: rest) false) = 3 := hk.out
  clear hS1 hR1 hg1 hn hk
  rw [hkk]
  obtain ⟨hb2, -, hr0, ho, -⟩ := id hS2
  obtain ⟨⟨eo0, eo1, eo2, eo3, eo4⟩, fo⟩ := row_five ho
  have fo0 := fo 0
  clear fo ho hr0
  have hrl : rest.length < 100000 := by rw [List.length_cons] at hm; omega
  go_wp2_with fail
  have hSa := hS2.cells 0 (.int .i64 4) (k' := 4) (h' := 0) (a' := 0) (n' := 0) rfl ⟨_, _, _, rfl⟩
  generalize w2.setCell ⟨w.heap.size + 1 + 1 + 1, 0, none⟩ (.int .i64 4) = w3 at *
  clear hS2 hb2 eo0 eo1 eo2 eo3 eo4 fo0 hkk
  obtain ⟨-, -, -, ho, -⟩ := id hSa
  obtain ⟨⟨ek, -⟩, -⟩ := row_five ho
  clear ho
  go_step3
  have hla := Nat.le_refl rest.length
  have hma : ∀ x ∈ rest, x ∈ f :: rest := fun x hx => List.mem_cons_of_mem _ hx
  have HA := Lib.hid hA1
  clear hA1
  go_wp2_with fail
  refine (rnum_any _ rest false _ w hG hSa.1 (by omega) hSa.2.1 (by have := hla; omega) (fun x hx => HX.out x (hma x hx))).mono ?_
  rintro e w4 ⟨n4, rfl, n4a, n4b, hR4, hv4, hg4⟩
  have hv4 := Lib.hid hv4
  replace hSa := hSa.next _ hg4 hR4
  try clear ek
  replace hla := Nat.le_trans (nextS_length rest false) hla
  replace hma := fun x hx => hma x (nextS_mem rest false x hx)
  clear hR4 hg4
  have hc := candC_num 4 rest n4 _ rfl hv4.out
  clear hla hma hv4
  generalize (nextB rest false || (atoiIn (nextW rest false)).isNone) = b4 at *
  generalize nextS rest false = ws4 at *
  cases b4
  · have hA1 := Lib.hid (HA.out.trans (by rw [hc.1 rfl]))
    clear hc HA
    obtain ⟨hb3, ⟨ra, rc, hrb, -, -, -⟩, hr3, ho3, -⟩ := id hSa
    obtain ⟨⟨eo0, eo1, eo2, eo3, eo4⟩, fo⟩ := row_five ho3
    obtain ⟨⟨er0, er1, er2, er3, er4⟩, fr⟩ := row_five hr3
    have fr0 := fr 0
    have fr1 := fr 1
    have fr2 := fr 2
    have fr3 := fr 3
    have fr4 := fr 4
    have fo1 := fo 1
    have eb : w4.cell? ⟨w.heap.size + 1 + 1, 1, none⟩ = some (.bool false) := by rw [cell_of_row _ _ _ _ _ _ hrb]; rfl
    have fb : w4.frozen? ⟨w.heap.size + 1 + 1, 1, none⟩ = false := frozen_of_row _ _ _ _ _ hrb
    clear hrb ho3 hr3 fr fo
    go_wp2_with fail
    have hS3 := hSa.cells 1 (.int .i64 n4) (k' := 4) (h' := n4) (a' := 0) (n' := 0) rfl ⟨_, _, _, rfl⟩
    clear hSa hb3
    have hb3 := hS3.1
    generalize w4.setCell ⟨w.heap.size + 1 + 1 + 1, 1, none⟩ (.int .i64 n4) = w3 at *
    refine (text_any 4 n4 0 0 none 0 0 [] w3 (hG.keep hb3) rfl (by omega) (by omega) (by omega) (by omega) (by omega) (by omega) (Or.inl rfl) (by decide)).mono ?_
    rintro e w4 ⟨rfl, hb4⟩
    have hS4 := hS3.below hb4
    clear hS3 hb3 er0 er1 er2 er3 er4 fr0 fr1 fr2 fr3 fr4 eb fb eo0 eo1 eo2 eo3 eo4 hb4
    obtain ⟨hb3, -, hr3, ho3, -⟩ := id hS4
    obtain ⟨⟨eo0, eo1, eo2, eo3, eo4⟩, -⟩ := row_five ho3
    obtain ⟨⟨er0, er1, er2, er3, er4⟩, fr⟩ := row_five hr3
    have fr0 := fr 0
    have fr1 := fr 1
    have fr2 := fr 2
    have fr3 := fr 3
    have fr4 := fr 4
    clear ho3 hr3 fr
    go_wp2_with fail
    · rename_i hne
      rw [Exit.noGoto_ret]
      refine bodyPost_ret (v := .tuple #[.agg #[.int .i64 0, .int .i64 0, .int .i64 0, .int .i64 0, .slice none 0 0], .int .i64 13]) (by simp [results, Tryz.results53, go_sem, er0, er1, er2, er3, er4]) rfl ?_
      have h := hA1.out
      rw [toList_data] at hne
      exact parseR_none (h.trans (if_neg (by intro e; rw [show textT 4 n4 0 0 [] = s.data.toList from e] at hne; simp at hne))) (hb3.grown (set5_grown w4 w.heap.size _ _ _ _ _) hb3.size (fun x hx => by injection hx; omega)) rfl
    · rename_i hne
      rw [Exit.noGoto_ret]
      refine bodyPost_ret (v := .tuple #[.agg #[.int .i64 4, .int .i64 n4, .int .i64 0, .int .i64 0, .slice none 0 0], .int .i64 0]) (by simp [results, Tryz.results53, go_sem, er0, er1, er2, er3, er4]) rfl ?_
      have h := hA1.out
      rw [toList_data] at hne
      exact parseR_some (h.trans (if_pos (by simp at hne; exact hne))) (hb3.grown (set5_grown w4 w.heap.size _ _ _ _ _) hb3.size (fun x hx => by injection hx; omega)) rfl rfl (Nat.le_refl _) (Or.inl rfl) (fun _ => ⟨rfl, rfl⟩)
  · have hA1 : Hid (parseA s.data.toList = none) := Lib.hid (HA.out.trans (by rw [hc.2 rfl]))
    clear hc HA
    obtain ⟨hb3, ⟨ra, rc, hrb, -, -, -⟩, hr3, ho3, -⟩ := id hSa
    obtain ⟨⟨eo0, eo1, eo2, eo3, eo4⟩, fo⟩ := row_five ho3
    obtain ⟨⟨er0, er1, er2, er3, er4⟩, fr⟩ := row_five hr3
    have fr0 := fr 0
    have fr1 := fr 1
    have fr2 := fr 2
    have fr3 := fr 3
    have fr4 := fr 4
    have fo1 := fo 1
    have eb : w4.cell? ⟨w.heap.size + 1 + 1, 1, none⟩ = some (.bool true) := by rw [cell_of_row _ _ _ _ _ _ hrb]; rfl
    clear hrb ho3 hr3 fr fo
    go_wp2_with fail
    have hS3 := hSa.cells 1 (.int .i64 n4) (k' := 4) (h' := n4) (a' := 0) (n' := 0) rfl ⟨_, _, _, rfl⟩
    clear hb3
    have hb3 := hS3.1
    all_goals
      rw [Exit.noGoto_ret]
      refine bodyPost_ret (v := .tuple #[.agg #[.int .i64 0, .int .i64 0, .int .i64 0, .int .i64 0, .slice none 0 0], .int .i64 13]) (by simp [results, Tryz.results53, go_sem, er0, er1, er2, er3, er4]) rfl ?_
      exact parseR_none hA1.out (hb3.grown (set5_grown _ w.heap.size _ _ _ _ _) hb3.size (fun x hx => by injection hx; omega)) rfl

set_option maxRecDepth 100000 in
set_option maxHeartbeats 2000000 in
theorem parse_abort (s : ByteArray) (f : List UInt8) (rest : List (List UInt8)) (w : World) (hG : Gl w) (hs : s.size ≤ 1000000) (hw : Hid (words s.data.toList = f :: rest)) (hm : (f :: rest).length ≤ 100000) (hx : ∀ x ∈ f :: rest, x.length ≤ 1000000) (hk : Hid (kindI f = 4)) :
    Calls Tryz.prog 53 #[.string s] w (ParseR w (parseA s.data.toList)) := by
  have hA := parse_cand hw.out
  rw [candA_abort hk.out] at hA
  have hA1 := Lib.hid hA
  clear hA
  have HX := Lib.hid hx
  clear hx
  go_enter Tryz.func53, Tryz.ntmps53
  go_wp2_with fail
  go_step3
  go_wp2_with fail
  refine (split_any s _ (by omega) (hG.keep (Below.of_alloc _ _))).mono ?_
  rintro e w1 ⟨rfl, rfl⟩
  rw [hw.out]
  go_wp2_with fail
  have hS := st_start w (f :: rest)
  refine (next_any _ (f :: rest) false _ hS.2.1 (by omega)).mono ?_
  rintro e w1 ⟨rfl, hR1, hg1⟩
  have hS1 := hS.next _ hg1 hR1
  clear hS
  go_wp2_with fail
  refine (indexFunc_any _ _ (nextW (f :: rest) false) _ ?_ ?_).mono ?_
  · exact (cell_of_row _ _ _ _ _ _ (hp_old (hp_new _ _))).trans rfl
  · rw [← sz_alloc w1]; exact hp_new _ _
  rintro e w2 ⟨rfl, n, hn⟩
  have hS2 : St w w2 rest false 0 0 0 0 (.slice none 0 0) := by
    subst hn
    exact hS1.below (below_drewN (((Below.of_alloc _ _)).alloc (by simp) _) n)
  have hkk : kindI (nextW (f :: rest) false) = 4 := hk.out
  clear hS1 hR1 hg1 hn hk
  rw [hkk]
  obtain ⟨hb2, -, hr0, ho, -⟩ := id hS2
  obtain ⟨⟨eo0, eo1, eo2, eo3, eo4⟩, fo⟩ := row_five ho
  have fo0 := fo 0
  clear fo ho hr0
  have hrl : rest.length < 100000 := by rw [List.length_cons] at hm; omega
  go_wp2_with fail
  have hSa := hS2.cells 0 (.int .i64 5) (k' := 5) (h' := 0) (a' := 0) (n' := 0) rfl ⟨_, _, _, rfl⟩
  generalize w2.setCell ⟨w.heap.size + 1 + 1 + 1, 0, none⟩ (.int .i64 5) = w3 at *
  clear hS2 hb2 eo0 eo1 eo2 eo3 eo4 fo0 hkk
  obtain ⟨-, -, -, ho, -⟩ := id hSa
  obtain ⟨⟨ek, -⟩, -⟩ := row_five ho
  clear ho
  go_step3
  have hla := Nat.le_refl rest.length
  have hma : ∀ x ∈ rest, x ∈ f :: rest := fun x hx => List.mem_cons_of_mem _ hx
  have HA := Lib.hid hA1
  clear hA1
  go_wp2_with fail
  refine (rnum_any _ rest false _ w hG hSa.1 (by omega) hSa.2.1 (by have := hla; omega) (fun x hx => HX.out x (hma x hx))).mono ?_
  rintro e w4 ⟨n4, rfl, n4a, n4b, hR4, hv4, hg4⟩
  have hv4 := Lib.hid hv4
  replace hSa := hSa.next _ hg4 hR4
  try clear ek
  replace hla := Nat.le_trans (nextS_length rest false) hla
  replace hma := fun x hx => hma x (nextS_mem rest false x hx)
  clear hR4 hg4
  have hc := candC_num 5 rest n4 _ rfl hv4.out
  clear hla hma hv4
  generalize (nextB rest false || (atoiIn (nextW rest false)).isNone) = b4 at *
  generalize nextS rest false = ws4 at *
  cases b4
  · have hA1 := Lib.hid (HA.out.trans (by rw [hc.1 rfl]))
    clear hc HA
    obtain ⟨hb3, ⟨ra, rc, hrb, -, -, -⟩, hr3, ho3, -⟩ := id hSa
    obtain ⟨⟨eo0, eo1, eo2, eo3, eo4⟩, fo⟩ := row_five ho3
    obtain ⟨⟨er0, er1, er2, er3, er4⟩, fr⟩ := row_five hr3
    have fr0 := fr 0
    have fr1 := fr 1
    have fr2 := fr 2
    have fr3 := fr 3
    have fr4 := fr 4
    have fo1 := fo 1
    have eb : w4.cell? ⟨w.heap.size + 1 + 1, 1, none⟩ = some (.bool false) := by rw [cell_of_row _ _ _ _ _ _ hrb]; rfl
    have fb : w4.frozen? ⟨w.heap.size + 1 + 1, 1, none⟩ = false := frozen_of_row _ _ _ _ _ hrb
    clear hrb ho3 hr3 fr fo
    go_wp2_with fail
    have hS3 := hSa.cells 1 (.int .i64 n4) (k' := 5) (h' := n4) (a' := 0) (n' := 0) rfl ⟨_, _, _, rfl⟩
    clear hSa hb3
    have hb3 := hS3.1
    generalize w4.setCell ⟨w.heap.size + 1 + 1 + 1, 1, none⟩ (.int .i64 n4) = w3 at *
    refine (text_any 5 n4 0 0 none 0 0 [] w3 (hG.keep hb3) rfl (by omega) (by omega) (by omega) (by omega) (by omega) (by omega) (Or.inl rfl) (by decide)).mono ?_
    rintro e w4 ⟨rfl, hb4⟩
    have hS4 := hS3.below hb4
    clear hS3 hb3 er0 er1 er2 er3 er4 fr0 fr1 fr2 fr3 fr4 eb fb eo0 eo1 eo2 eo3 eo4 hb4
    obtain ⟨hb3, -, hr3, ho3, -⟩ := id hS4
    obtain ⟨⟨eo0, eo1, eo2, eo3, eo4⟩, -⟩ := row_five ho3
    obtain ⟨⟨er0, er1, er2, er3, er4⟩, fr⟩ := row_five hr3
    have fr0 := fr 0
    have fr1 := fr 1
    have fr2 := fr 2
    have fr3 := fr 3
    have fr4 := fr 4
    clear ho3 hr3 fr
    go_wp2_with fail
    · rename_i hne
      rw [Exit.noGoto_ret]
      refine bodyPost_ret (v := .tuple #[.agg #[.int .i64 0, .int .i64 0, .int .i64 0, .int .i64 0, .slice none 0 0], .int .i64 13]) (by simp [results, Tryz.results53, go_sem, er0, er1, er2, er3, er4]) rfl ?_
      have h := hA1.out
      rw [toList_data] at hne
      exact parseR_none (h.trans (if_neg (by intro e; rw [show textT 5 n4 0 0 [] = s.data.toList from e] at hne; simp at hne))) (hb3.grown (set5_grown w4 w.heap.size _ _ _ _ _) hb3.size (fun x hx => by injection hx; omega)) rfl
    · rename_i hne
      rw [Exit.noGoto_ret]
      refine bodyPost_ret (v := .tuple #[.agg #[.int .i64 5, .int .i64 n4, .int .i64 0, .int .i64 0, .slice none 0 0], .int .i64 0]) (by simp [results, Tryz.results53, go_sem, er0, er1, er2, er3, er4]) rfl ?_
      have h := hA1.out
      rw [toList_data] at hne
      exact parseR_some (h.trans (if_pos (by simp at hne; exact hne))) (hb3.grown (set5_grown w4 w.heap.size _ _ _ _ _) hb3.size (fun x hx => by injection hx; omega)) rfl rfl (Nat.le_refl _) (Or.inl rfl) (fun _ => ⟨rfl, rfl⟩)
  · have hA1 : Hid (parseA s.data.toList = none) := Lib.hid (HA.out.trans (by rw [hc.2 rfl]))
    clear hc HA
    obtain ⟨hb3, ⟨ra, rc, hrb, -, -, -⟩, hr3, ho3, -⟩ := id hSa
    obtain ⟨⟨eo0, eo1, eo2, eo3, eo4⟩, fo⟩ := row_five ho3
    obtain ⟨⟨er0, er1, er2, er3, er4⟩, fr⟩ := row_five hr3
    have fr0 := fr 0
    have fr1 := fr 1
    have fr2 := fr 2
    have fr3 := fr 3
    have fr4 := fr 4
    have fo1 := fo 1
    have eb : w4.cell? ⟨w.heap.size + 1 + 1, 1, none⟩ = some (.bool true) := by rw [cell_of_row _ _ _ _ _ _ hrb]; rfl
    clear hrb ho3 hr3 fr fo
    go_wp2_with fail
    have hS3 := hSa.cells 1 (.int .i64 n4) (k' := 5) (h' := n4) (a' := 0) (n' := 0) rfl ⟨_, _, _, rfl⟩
    clear hb3
    have hb3 := hS3.1
    all_goals
      rw [Exit.noGoto_ret]
      refine bodyPost_ret (v := .tuple #[.agg #[.int .i64 0, .int .i64 0, .int .i64 0, .int .i64 0, .slice none 0 0], .int .i64 13]) (by simp [results, Tryz.results53, go_sem, er0, er1, er2, er3, er4]) rfl ?_
      exact parseR_none hA1.out (hb3.grown (set5_grown _ w.heap.size _ _ _ _ _) hb3.size (fun x hx => by injection hx; omega)) rfl

set_option maxRecDepth 100000 in
set_option maxHeartbeats 2000000 in
theorem parse_read (s : ByteArray) (f : List UInt8) (rest : List (List UInt8)) (w : World) (hG : Gl w) (hs : s.size ≤ 1000000) (hw : Hid (words s.data.toList = f :: rest)) (hm : (f :: rest).length ≤ 100000) (hx : ∀ x ∈ f :: rest, x.length ≤ 1000000) (hk : Hid (kindI f = 1)) :
    Calls Tryz.prog 53 #[.string s] w (ParseR w (parseA s.data.toList)) := by
  have hA := parse_cand hw.out
  rw [candA_read hk.out] at hA
  have hA1 := Lib.hid hA
  clear hA
  have HX := Lib.hid hx
  clear hx
  go_enter Tryz.func53, Tryz.ntmps53
  go_wp2_with fail
  go_step3
  go_wp2_with fail
  refine (split_any s _ (by omega) (hG.keep (Below.of_alloc _ _))).mono ?_
  rintro e w1 ⟨rfl, rfl⟩
  rw [hw.out]
  go_wp2_with fail
  have hS := st_start w (f :: rest)
  refine (next_any _ (f :: rest) false _ hS.2.1 (by omega)).mono ?_
  rintro e w1 ⟨rfl, hR1, hg1⟩
  have hS1 := hS.next _ hg1 hR1
  clear hS
  go_wp2_with fail
  refine (indexFunc_any _ _ (nextW (f :: rest) false) _ ?_ ?_).mono ?_
  · exact (cell_of_row _ _ _ _ _ _ (hp_old (hp_new _ _))).trans rfl
  · rw [← sz_alloc w1]; exact hp_new _ _
  rintro e w2 ⟨rfl, n, hn⟩
  have hS2 : St w w2 rest false 0 0 0 0 (.slice none 0 0) := by
    subst hn
    exact hS1.below (below_drewN (((Below.of_alloc _ _)).alloc (by simp) _) n)
  have hkk : kindI (nextW (f :: rest) false) = 1 := hk.out
  clear hS1 hR1 hg1 hn hk
  rw [hkk]
  obtain ⟨hb2, -, hr0, ho, -⟩ := id hS2
  obtain ⟨⟨eo0, eo1, eo2, eo3, eo4⟩, fo⟩ := row_five ho
  have fo0 := fo 0
  clear fo ho hr0
  have hrl : rest.length < 100000 := by rw [List.length_cons] at hm; omega
  go_wp2_with fail
  have hSa := hS2.cells 0 (.int .i64 2) (k' := 2) (h' := 0) (a' := 0) (n' := 0) rfl ⟨_, _, _, rfl⟩
  generalize w2.setCell ⟨w.heap.size + 1 + 1 + 1, 0, none⟩ (.int .i64 2) = w3 at *
  clear hS2 hb2 eo0 eo1 eo2 eo3 eo4 fo0 hkk
  obtain ⟨-, -, -, ho, -⟩ := id hSa
  obtain ⟨⟨ek, -⟩, -⟩ := row_five ho
  clear ho
  go_step3
  have hla := Nat.le_refl rest.length
  have hma : ∀ x ∈ rest, x ∈ f :: rest := fun x hx => List.mem_cons_of_mem _ hx
  have HA := Lib.hid hA1
  clear hA1
  go_wp2_with fail
  refine (rnum_any _ rest false _ w hG hSa.1 (by omega) hSa.2.1 (by have := hla; omega) (fun x hx => HX.out x (hma x hx))).mono ?_
  rintro e w4 ⟨n4, rfl, n4a, n4b, hR4, hv4, hg4⟩
  have hv4 := Lib.hid hv4
  replace hSa := hSa.next _ hg4 hR4
  try clear ek
  replace hla := Nat.le_trans (nextS_length rest false) hla
  replace hma := fun x hx => hma x (nextS_mem rest false x hx)
  clear hR4 hg4
  generalize hb4 : (nextB rest false || (atoiIn (nextW rest false)).isNone) = b4 at hSa
  generalize hws4 : nextS rest false = ws4 at hSa hla hma
  have hb4 := Lib.hid hb4
  have hws4 := Lib.hid hws4
  go_wp2_with fail
  refine (rnum_any _ ws4 b4 _ w hG hSa.1 (by omega) hSa.2.1 (by have := hla; omega) (fun x hx => HX.out x (hma x hx))).mono ?_
  rintro e w5 ⟨n5, rfl, n5a, n5b, hR5, hv5, hg5⟩
  have hv5 := Lib.hid hv5
  replace hSa := hSa.next _ hg5 hR5
  try clear ek
  replace hla := Nat.le_trans (nextS_length ws4 b4) hla
  replace hma := fun x hx => hma x (nextS_mem ws4 b4 x hx)
  clear hR5 hg5
  generalize hb5 : (nextB ws4 b4 || (atoiIn (nextW ws4 b4)).isNone) = b5 at hSa
  generalize hws5 : nextS ws4 b4 = ws5 at hSa hla hma
  have hb5 := Lib.hid hb5
  have hws5 := Lib.hid hws5
  go_wp2_with fail
  refine (rnum_any _ ws5 b5 _ w hG hSa.1 (by omega) hSa.2.1 (by have := hla; omega) (fun x hx => HX.out x (hma x hx))).mono ?_
  rintro e w6 ⟨n6, rfl, n6a, n6b, hR6, hv6, hg6⟩
  have hv6 := Lib.hid hv6
  replace hSa := hSa.next _ hg6 hR6
  try clear ek
  replace hla := Nat.le_trans (nextS_length ws5 b5) hla
  replace hma := fun x hx => hma x (nextS_mem ws5 b5 x hx)
  clear hR6 hg6
  generalize hb6 : (nextB ws5 b5 || (atoiIn (nextW ws5 b5)).isNone) = b6 at hSa
  generalize hws6 : nextS ws5 b5 = ws6 at hSa hla hma
  have hb6 := Lib.hid hb6
  have hc := Lib.hid (candR_num rest n4 n5 n6 b4 b5 b6 ws4 ws5 hb4.out hws4.out hb5.out hws5.out hb6.out hv4.out hv5.out hv6.out)
  clear hb4 hb5 hb6 hws4 hws5 hv4 hv5 hv6 hws6
  clear hla hma
  cases b6
  · have hA1 := Lib.hid (HA.out.trans (by rw [hc.out.1 rfl]))
    clear hc HA
    obtain ⟨hb3, ⟨ra, rc, hrb, -, -, -⟩, hr3, ho3, -⟩ := id hSa
    obtain ⟨⟨eo0, eo1, eo2, eo3, eo4⟩, fo⟩ := row_five ho3
    obtain ⟨⟨er0, er1, er2, er3, er4⟩, fr⟩ := row_five hr3
    have fr0 := fr 0
    have fr1 := fr 1
    have fr2 := fr 2
    have fr3 := fr 3
    have fr4 := fr 4
    have fo1 := fo 1
    have fo2 := fo 2
    have fo3 := fo 3
    have eb : w6.cell? ⟨w.heap.size + 1 + 1, 1, none⟩ = some (.bool false) := by rw [cell_of_row _ _ _ _ _ _ hrb]; rfl
    have fb : w6.frozen? ⟨w.heap.size + 1 + 1, 1, none⟩ = false := frozen_of_row _ _ _ _ _ hrb
    clear hrb ho3 hr3 fr fo
    go_wp2_with fail
    have hS3 := ((hSa.cells 1 (.int .i64 n4) (k' := 2) (h' := n4) (a' := 0) (n' := 0) rfl ⟨_, _, _, rfl⟩).cells 2 (.int .i64 n5) (k' := 2) (h' := n4) (a' := n5) (n' := 0) rfl ⟨_, _, _, rfl⟩).cells 3 (.int .i64 n6) (k' := 2) (h' := n4) (a' := n5) (n' := n6) rfl ⟨_, _, _, rfl⟩
    clear hSa hb3
    have hb3 := hS3.1
    generalize ((w6.setCell ⟨w.heap.size + 1 + 1 + 1, 1, none⟩ (.int .i64 n4)).setCell ⟨w.heap.size + 1 + 1 + 1, 2, none⟩ (.int .i64 n5)).setCell ⟨w.heap.size + 1 + 1 + 1, 3, none⟩ (.int .i64 n6) = w3 at *
    refine (text_any 2 n4 n5 n6 none 0 0 [] w3 (hG.keep hb3) rfl (by omega) (by omega) (by omega) (by omega) (by omega) (by omega) (Or.inl rfl) (by decide)).mono ?_
    rintro e w4 ⟨rfl, hb4⟩
    have hS4 := hS3.below hb4
    clear hS3 hb3 er0 er1 er2 er3 er4 fr0 fr1 fr2 fr3 fr4 eb fb eo0 eo1 eo2 eo3 eo4 hb4
    obtain ⟨hb3, -, hr3, ho3, -⟩ := id hS4
    obtain ⟨⟨eo0, eo1, eo2, eo3, eo4⟩, -⟩ := row_five ho3
    obtain ⟨⟨er0, er1, er2, er3, er4⟩, fr⟩ := row_five hr3
    have fr0 := fr 0
    have fr1 := fr 1
    have fr2 := fr 2
    have fr3 := fr 3
    have fr4 := fr 4
    clear ho3 hr3 fr
    go_wp2_with fail
    · rename_i hne
      rw [Exit.noGoto_ret]
      refine bodyPost_ret (v := .tuple #[.agg #[.int .i64 0, .int .i64 0, .int .i64 0, .int .i64 0, .slice none 0 0], .int .i64 13]) (by simp [results, Tryz.results53, go_sem, er0, er1, er2, er3, er4]) rfl ?_
      have h := hA1.out
      rw [toList_data] at hne
      exact parseR_none (h.trans (if_neg (by intro e; rw [show textT 2 n4 n5 n6 [] = s.data.toList from e] at hne; simp at hne))) (hb3.grown (set5_grown w4 w.heap.size _ _ _ _ _) hb3.size (fun x hx => by injection hx; omega)) rfl
    · rename_i hne
      rw [Exit.noGoto_ret]
      refine bodyPost_ret (v := .tuple #[.agg #[.int .i64 2, .int .i64 n4, .int .i64 n5, .int .i64 n6, .slice none 0 0], .int .i64 0]) (by simp [results, Tryz.results53, go_sem, er0, er1, er2, er3, er4]) rfl ?_
      have h := hA1.out
      rw [toList_data] at hne
      exact parseR_some (h.trans (if_pos (by simp at hne; exact hne))) (hb3.grown (set5_grown w4 w.heap.size _ _ _ _ _) hb3.size (fun x hx => by injection hx; omega)) rfl rfl (Nat.le_refl _) (Or.inl rfl) (fun _ => ⟨rfl, rfl⟩)
  · have hA1 : Hid (parseA s.data.toList = none) := Lib.hid (HA.out.trans (by rw [hc.out.2 rfl]))
    clear hc HA
    obtain ⟨hb3, ⟨ra, rc, hrb, -, -, -⟩, hr3, ho3, -⟩ := id hSa
    obtain ⟨⟨eo0, eo1, eo2, eo3, eo4⟩, fo⟩ := row_five ho3
    obtain ⟨⟨er0, er1, er2, er3, er4⟩, fr⟩ := row_five hr3
    have fr0 := fr 0
    have fr1 := fr 1
    have fr2 := fr 2
    have fr3 := fr 3
    have fr4 := fr 4
    have fo1 := fo 1
    have fo2 := fo 2
    have fo3 := fo 3
    have eb : w6.cell? ⟨w.heap.size + 1 + 1, 1, none⟩ = some (.bool true) := by rw [cell_of_row _ _ _ _ _ _ hrb]; rfl
    clear hrb ho3 hr3 fr fo
    go_wp2_with fail
    have hS3 := ((hSa.cells 1 (.int .i64 n4) (k' := 2) (h' := n4) (a' := 0) (n' := 0) rfl ⟨_, _, _, rfl⟩).cells 2 (.int .i64 n5) (k' := 2) (h' := n4) (a' := n5) (n' := 0) rfl ⟨_, _, _, rfl⟩).cells 3 (.int .i64 n6) (k' := 2) (h' := n4) (a' := n5) (n' := n6) rfl ⟨_, _, _, rfl⟩
    clear hb3
    have hb3 := hS3.1
    all_goals
      rw [Exit.noGoto_ret]
      refine bodyPost_ret (v := .tuple #[.agg #[.int .i64 0, .int .i64 0, .int .i64 0, .int .i64 0, .slice none 0 0], .int .i64 13]) (by simp [results, Tryz.results53, go_sem, er0, er1, er2, er3, er4]) rfl ?_
      exact parseR_none hA1.out (hb3.grown (set5_grown _ w.heap.size _ _ _ _ _) hb3.size (fun x hx => by injection hx; omega)) rfl

end Go.Proofs.YtgagcbgbjkjghaaGreatDoor.Scr
namespace Go.Proofs.YtgagcbgbjkjghaaGreatDoor.Scr
open Go.RowKit Go.Lib

theorem ty22 : Tryz.prog.underlying 111 = some (.slice 138) := by kernel_rfl
theorem inf42 : (Tryz.prog.info? 138).map (fun i => (i.zero, i.size, i.bytes)) = some (some (.agg #[.int .i64 0, .slice none 0 0]), 2, 32) := by kernel_rfl

/-- where the loop over puts stands. -/
def WInv (w : World) (rest : List (List UInt8)) (h : Int) (wr : World) (ws : List (List UInt8)) (bad : Bool) (puts : List (Int × List UInt8)) (pv : Value) (xs : List Value) : Prop :=
  St w wr ws bad 3 h 0 0 pv ∧ (bad = true → candW rest = none) ∧ (bad = false → candW rest = (loopW ws puts).map fun l => (3, h, 0, 0, l)) ∧
  (bad = false → wr.ownsRow (w.heap.size + 1 + 1 + 1 + 1) 138 2 pv puts.length xs ∧ PD wr (w.heap.size + 1 + 1 + 1 + 1) puts xs) ∧ puts.length + ws.length ≤ rest.length ∧ (∀ x ∈ ws, x ∈ rest)

/-- how many words a reader still has. -/
def restOf (w : World) (g : Nat) : Nat := match w.cell? ⟨g, 0, none⟩ with | some (.slice _ n _) => n | _ => 0
theorem restOf_rd {w : World} {g : Nat} {ws : List (List UInt8)} {bad : Bool} (h : Rd w g ws bad) : restOf w g = ws.length := by
  obtain ⟨a, c, hg, _⟩ := h
  unfold restOf
  rw [cell_of_row _ _ _ _ _ _ hg]
  rfl

theorem PD.psT {w : World} {B n c : Nat} {l : List (Int × List UInt8)} {xs : List Value} {pa : Option Addr} (h : PD w B l xs) (ho : w.ownsRow B 138 2 (.slice pa n c) n xs) : PsT w pa l := by
  have hn : l.length = n := by have := ho.1; have := h.1; omega
  rcases ho.2 with ⟨e, h0⟩ | ⟨g', cap, cur, e, _, hh, hc, _, _, htk⟩
  · exact Or.inl (List.eq_nil_of_length_eq_zero (by omega))
  · cases e
    have hcur : ∀ i, i < n * 2 → cur[i]? = xs[i]? := fun i hi => by
      rw [← htk, List.getElem?_take_of_lt hi, Array.getElem?_toList]
    refine Or.inr ⟨g', cur, rfl, hh, fun j hj => ?_⟩
    obtain ⟨g, a1, a2, a3, a4, a5, a6, a7⟩ := h.2 j hj
    exact ⟨by rw [hcur _ (by omega)]; exact a1, g, by rw [hcur _ (by omega)]; exact a2, a4, a5⟩
theorem PD.ps' {w : World} {B n c : Nat} {l : List (Int × List UInt8)} {xs : List Value} {pa : Option Addr} (h : PD w B l xs) (ho : w.ownsRow B 138 2 (.slice pa n c) n xs) : Ps w pa l := by
  obtain ⟨pa', c', e, _, _, hp⟩ := h.ps ho
  cases e
  exact hp

theorem own_slice {w : World} {base e size n : Nat} {v : Value} {xs : List Value} (h : w.ownsRow base e size v n xs) : ∃ pa c, v = .slice pa n c := by
  rcases h.2 with ⟨rfl, rfl⟩ | ⟨g, cap, cur, rfl, _⟩
  · exact ⟨_, _, rfl⟩
  · exact ⟨_, _, rfl⟩

theorem own_other {w w' : World} {base e size n x : Nat} {v : Value} {xs : List Value} (h : w.ownsRow base e size v n xs) (hg : w.grownBy w' (some x)) (hx : x < base) : w'.ownsRow base e size v n xs :=
  h.kept hg (by
    cases hv : v.ownBlock with
    | none => exact Or.inl rfl
    | some g => exact Or.inr (by intro e; injection e with e; have := (h.lt g hv).1; omega))

theorem candW_num (rest : List (List UInt8)) (n : Int) (b : Bool) (hb : (nextB rest false || (atoiIn (nextW rest false)).isNone) = b) (hv : ∀ v, atoiIn (nextW rest false) = some v → n = v) :
    (b = true → candW rest = none) ∧ (b = false → candW rest = (loopW (nextS rest false) []).map fun l => (3, n, 0, 0, l)) := by
  subst hb
  cases rest with
  | nil => simp [nextB, candW]
  | cons x r =>
    have e : nextW (x :: r) false = x := rfl
    have e2 : nextS (x :: r) false = r := rfl
    rw [e] at *
    rw [e2]
    cases h : atoiIn x with
    | none => simp [nextB, candW, h]
    | some v =>
      obtain rfl := hv v h
      simp only [nextB, candW, h]
      cases loopW r [] <;> simp

theorem WInv.step {w w5 w6 w' : World} {rest r : List (List UInt8)} {a : List UInt8} {h n5 : Int} {puts : List (Int × List UInt8)} {pv : Value} {xs : List Value} {da pa' : Option Addr} {dm dc c' : Nat} {b1 : Bool} {ws1 : List (List UInt8)}
    (hl : puts.length + (r.length + 1) ≤ rest.length) (hM : ∀ x ∈ a :: r, x ∈ rest) (hA : candW rest = (loopW (a :: r) puts).map fun l => (3, h, 0, 0, l))
    (hb1 : (nextB (a :: r) false || (atoiIn (nextW (a :: r) false)).isNone) = b1) (hw1 : nextS (a :: r) false = ws1) (hv : ∀ v, atoiIn (nextW (a :: r) false) = some v → n5 = v) (h0 : -9223372036854775808 ≤ n5) (h1 : n5 ≤ 9223372036854775807)
    (hd : ∀ d, unbytesT (nextW ws1 b1) = some d → Forty w5 w6 (.slice da dm dc) d) (h5 : w.heap.size + 1 + 1 + 1 + 1 ≤ w5.heap.size) (hPD : PD w6 (w.heap.size + 1 + 1 + 1 + 1) puts xs) (hown : w6.ownsRow (w.heap.size + 1 + 1 + 1 + 1) 138 2 pv puts.length xs)
    (hap : AppendedV (w.heap.size + 1 + 1 + 1 + 1) 138 2 w6 pv (puts.length + 1) (xs ++ [.int .i64 n5, .slice da dm dc]) (.slice pa' (puts.length + 1) c') w') {ws2 : List (List UInt8)} {b2 : Bool}
    (hS : St w w' ws2 b2 3 h 0 0 pv) (hw2 : ws2 = nextS ws1 b1) (hb2 : b2 = (nextB ws1 b1 || (unbytesT (nextW ws1 b1)).isNone)) :
    (∃ ws bad q pv ys, WInv w rest h (w'.setCell ⟨w.heap.size + 1 + 1 + 1, 4, none⟩ (.slice pa' (puts.length + 1) c')) ws bad q pv ys) ∧ restOf (w'.setCell ⟨w.heap.size + 1 + 1 + 1, 4, none⟩ (.slice pa' (puts.length + 1) c')) (w.heap.size + 1 + 1) ≤ r.length := by
  have hS8 := hS.cells 4 (.slice pa' (puts.length + 1) c') (k' := 3) (h' := h) (a' := 0) (n' := 0) rfl ⟨_, _, _, rfl⟩
  have hl1 : ws1.length ≤ r.length := by rw [← hw1]; exact Nat.le_refl _
  have hl2 : ws2.length ≤ r.length := by rw [hw2]; exact Nat.le_trans (nextS_length _ _) hl1
  have hm2 : ∀ x ∈ ws2, x ∈ rest := fun x hx => hM x (List.mem_cons_of_mem _ (by rw [hw2] at hx; have := nextS_mem _ _ x hx; rw [← hw1] at this; exact this))
  have hst := loopW_num a r puts n5 b1 b2 ws1 hb1 hw1 hb2.symm hv
  refine ⟨?_, by rw [restOf_rd hS8.2.1]; exact hl2⟩
  have hset := grown_set w' (w.heap.size + 1 + 1 + 1) 4 (.slice pa' (puts.length + 1) c')
  cases b2 with
  | true => exact ⟨_, _, [], _, [], hS8, fun _ => by rw [hA, hst.1 rfl]; rfl, fun e => (by cases e), fun e => (by cases e), by simp; omega, hm2⟩
  | false =>
    obtain ⟨d, hd1, hd2⟩ := hst.2 rfl
    obtain ⟨g, e, hg, hgb, hgd⟩ := hd d hd1
    cases e
    have hP7 := (hPD.own hown hap.2.2)
    have hne : some g ≠ pv.ownBlock := by
      intro e
      rcases hown.2 with ⟨rfl, _⟩ | ⟨g', cap, cur, rfl, _, hh, _⟩
      · cases e
      · obtain rfl : g = g' := by injection e
        rw [hgb] at hh
        injection hh with hh
        injection hh with e1 e2
        cases e2
    have hgb7 := (hap.2.2.block g (Array.getElem?_eq_some_iff.1 hgb).1 hne).trans hgb
    have hP8 := hP7.snoc (n := n5) (d := d) (g := g) (by omega) hgb7 hgd h0 h1
    refine ⟨_, _, puts ++ [(n5, d)], _, _, hS8, fun e => (by cases e), fun _ => by rw [hA, hd2, hw2], fun _ => ⟨?_, hP8.low hset (by omega)⟩, by rw [List.length_append, List.length_singleton]; omega, hm2⟩
    rw [List.length_append, List.length_singleton]
    exact own_other hap.1 hset (by omega)

set_option maxRecDepth 100000 in
set_option maxHeartbeats 2000000 in
theorem parse_write (s : ByteArray) (f : List UInt8) (rest : List (List UInt8)) (w : World) (hG : Gl w) (hs : s.size ≤ 1000000) (hw : Hid (words s.data.toList = f :: rest)) (hm : (f :: rest).length ≤ 100000) (hx : ∀ x ∈ f :: rest, x.length ≤ 1000000) (hk : Hid (kindI f = 2)) :
    Calls Tryz.prog 53 #[.string s] w (ParseR w (parseA s.data.toList)) := by
  have hA := parse_cand hw.out
  rw [candA_write hk.out] at hA
  have hA1 := Lib.hid hA
  clear hA
  have HX := Lib.hid hx
  clear hx
  go_enter Tryz.func53, Tryz.ntmps53
  go_wp2_with fail
  go_step3
  go_wp2_with fail
  refine (split_any s _ (by omega) (hG.keep (Below.of_alloc _ _))).mono ?_
  rintro e w1 ⟨rfl, rfl⟩
  rw [hw.out]
  go_wp2_with fail
  have hS := st_start w (f :: rest)
  refine (next_any _ (f :: rest) false _ hS.2.1 (by omega)).mono ?_
  rintro e w1 ⟨rfl, hR1, hg1⟩
  have hS1 := hS.next _ hg1 hR1
  clear hS
  go_wp2_with fail
  refine (indexFunc_any _ _ (nextW (f :: rest) false) _ ?_ ?_).mono ?_
  · exact (cell_of_row _ _ _ _ _ _ (hp_old (hp_new _ _))).trans rfl
  · rw [← sz_alloc w1]; exact hp_new _ _
  rintro e w2 ⟨rfl, n, hn⟩
  have hS2 : St w w2 rest false 0 0 0 0 (.slice none 0 0) := by
    subst hn
    exact hS1.below (below_drewN (((Below.of_alloc _ _)).alloc (by simp) _) n)
  have hkk : kindI (nextW (f :: rest) false) = 2 := hk.out
  clear hS1 hR1 hg1 hn hk
  rw [hkk]
  obtain ⟨hb2, -, hr0, ho, -⟩ := id hS2
  obtain ⟨⟨eo0, eo1, eo2, eo3, eo4⟩, fo⟩ := row_five ho
  have fo0 := fo 0
  clear fo ho hr0
  have hrl : rest.length < 100000 := by rw [List.length_cons] at hm; omega
  go_wp2_with fail
  have hSa := hS2.cells 0 (.int .i64 3) (k' := 3) (h' := 0) (a' := 0) (n' := 0) rfl ⟨_, _, _, rfl⟩
  generalize w2.setCell ⟨w.heap.size + 1 + 1 + 1, 0, none⟩ (.int .i64 3) = w3 at *
  clear hS2 hb2 eo0 eo1 eo2 eo3 eo4 fo0 hkk
  obtain ⟨-, -, -, ho, -⟩ := id hSa
  obtain ⟨⟨ek, -⟩, -⟩ := row_five ho
  clear ho
  go_step3
  have hla := Nat.le_refl rest.length
  have hma : ∀ x ∈ rest, x ∈ f :: rest := fun x hx => List.mem_cons_of_mem _ hx
  have HA := Lib.hid hA1
  clear hA1
  go_wp2_with fail
  refine (rnum_any _ rest false _ w hG hSa.1 (by omega) hSa.2.1 (by have := hla; omega) (fun x hx => HX.out x (hma x hx))).mono ?_
  rintro e w4 ⟨n4, rfl, n4a, n4b, hR4, hv4, hg4⟩
  have hv4 := Lib.hid hv4
  replace hSa := hSa.next _ hg4 hR4
  try clear ek
  replace hla := Nat.le_trans (nextS_length rest false) hla
  replace hma := fun x hx => hma x (nextS_mem rest false x hx)
  clear hR4 hg4
  have hc := candW_num rest n4 _ rfl hv4.out
  have hns := fun x => nextS_mem rest false x
  have hnl := nextS_length rest false
  clear hla hma hv4
  generalize (nextB rest false || (atoiIn (nextW rest false)).isNone) = b4 at *
  generalize nextS rest false = ws4 at *
  obtain ⟨-, -, -, ho, -⟩ := id hSa
  obtain ⟨⟨eo0, eo1, eo2, eo3, eo4⟩, fo⟩ := row_five ho
  have fo1 := fo 1
  clear fo ho
  go_wp2_with fail
  have hW : WInv w rest n4 (w4.setCell ⟨w.heap.size + 1 + 1 + 1, 1, none⟩ (.int .i64 n4)) ws4 b4 [] (.slice none 0 0) [] :=
    ⟨hSa.cells 1 (.int .i64 n4) (k' := 3) (h' := n4) (a' := 0) (n' := 0) rfl ⟨_, _, _, rfl⟩, hc.1, hc.2, fun _ => ⟨World.ownsRow_nil _ _ _ _, rfl, fun j hj => absurd hj (by simp)⟩, by simpa using hnl, fun x hx => hns x hx⟩
  clear hSa hc hns hnl eo0 eo1 eo2 eo3 eo4 fo1
  go_loopw [] (fun wr => ∃ ws bad puts pv xs, WInv w rest n4 wr ws bad puts pv xs) (fun wr => restOf wr (w.heap.size + 1 + 1))
  case atStart => exact ⟨_, _, _, _, _, hW⟩
  case round =>
    obtain ⟨ws, bad, puts, pv, xs, hSa, hA0, hA2, hO, hl, hmem⟩ := hrel
    have HA0 := Lib.hid hA0
    have HA2 := Lib.hid hA2
    have HM := Lib.hid hmem
    clear hA0 hA2 hmem
    cases bad with
    | true =>
      have hA1 : Hid (parseA s.data.toList = none) := Lib.hid (HA.out.trans (by rw [HA0.out rfl]))
      clear HA HA0 HA2 HM
      obtain ⟨hb3, ⟨ra, rc, hrb, -, -, -⟩, hr3, ho3, -⟩ := id hSa
      obtain ⟨⟨eo0, eo1, eo2, eo3, eo4⟩, fo⟩ := row_five ho3
      obtain ⟨⟨er0, er1, er2, er3, er4⟩, fr⟩ := row_five hr3
      have fr0 := fr 0
      have fr1 := fr 1
      have fr2 := fr 2
      have fr3 := fr 3
      have fr4 := fr 4
      have eb : wr.cell? ⟨w.heap.size + 1 + 1, 1, none⟩ = some (.bool true) := by rw [cell_of_row _ _ _ _ _ _ hrb]; rfl
      have el : wr.cell? ⟨w.heap.size + 1 + 1, 0, none⟩ = some (.slice ra ws.length rc) := by rw [cell_of_row _ _ _ _ _ _ hrb]; rfl
      clear hrb ho3 hr3 fr fo
      go_wp2_with fail
      have hS3 := hSa
      clear hb3
      have hb3 := hS3.1
      all_goals
        rw [Exit.noGoto_ret]
        refine bodyPost_ret (v := .tuple #[.agg #[.int .i64 0, .int .i64 0, .int .i64 0, .int .i64 0, .slice none 0 0], .int .i64 13]) (by simp [results, Tryz.results53, go_sem, er0, er1, er2, er3, er4]) rfl ?_
        exact parseR_none hA1.out (hb3.grown (set5_grown _ w.heap.size _ _ _ _ _) hb3.size (fun x hx => by injection hx; omega)) rfl
    | false =>
      obtain ⟨hown, hPD⟩ := hO rfl
      clear hO
      cases ws with
      | nil =>
        have hA1 : Hid (parseA s.data.toList = if textO (3, n4, 0, 0, puts) = s.data.toList then some (3, n4, 0, 0, puts) else none) := Lib.hid (HA.out.trans (by rw [HA2.out rfl]; rfl))
        obtain ⟨pa, c, rfl, hmc, -, hps⟩ := hPD.ps hown
        clear HA HA0 HA2 HM
        have HP := Lib.hid hps
        clear hps
        obtain ⟨hb3, ⟨ra, rc, hrb, -, -, -⟩, hr3, ho3, -⟩ := id hSa
        obtain ⟨⟨eo0, eo1, eo2, eo3, eo4⟩, fo⟩ := row_five ho3
        obtain ⟨⟨er0, er1, er2, er3, er4⟩, fr⟩ := row_five hr3
        have fr0 := fr 0
        have fr1 := fr 1
        have fr2 := fr 2
        have fr3 := fr 3
        have fr4 := fr 4
        have eb : wr.cell? ⟨w.heap.size + 1 + 1, 1, none⟩ = some (.bool false) := by rw [cell_of_row _ _ _ _ _ _ hrb]; rfl
        have fb : wr.frozen? ⟨w.heap.size + 1 + 1, 1, none⟩ = false := frozen_of_row _ _ _ _ _ hrb
        have el : wr.cell? ⟨w.heap.size + 1 + 1, 0, none⟩ = some (.slice ra 0 rc) := by rw [cell_of_row _ _ _ _ _ _ hrb]; rfl
        clear hrb ho3 hr3 fr fo
        go_wp2_with fail
        have hS3 := hSa
        clear hSa hb3
        have hb3 := hS3.1
        generalize wr = w3 at *
        refine (text_any 3 n4 0 0 pa puts.length c puts w3 (hG.keep hb3) rfl (by omega) (by omega) (by omega) (by omega) (by omega) (by omega) HP.out (fun _ => by omega)).mono ?_
        rintro e w4 ⟨rfl, hb4⟩
        have hown4 := own_on hb4 hown
        have hPD4 := hPD.keep hb4
        clear hown hPD HP
        have hS4 := hS3.below hb4
        clear hS3 hb3 er0 er1 er2 er3 er4 fr0 fr1 fr2 fr3 fr4 eb fb eo0 eo1 eo2 eo3 eo4 hb4
        obtain ⟨hb3, -, hr3, ho3, -⟩ := id hS4
        obtain ⟨⟨eo0, eo1, eo2, eo3, eo4⟩, -⟩ := row_five ho3
        obtain ⟨⟨er0, er1, er2, er3, er4⟩, fr⟩ := row_five hr3
        have fr0 := fr 0
        have fr1 := fr 1
        have fr2 := fr 2
        have fr3 := fr 3
        have fr4 := fr 4
        clear ho3 hr3 fr
        go_wp2_with fail
        · rename_i hne
          rw [Exit.noGoto_ret]
          refine bodyPost_ret (v := .tuple #[.agg #[.int .i64 0, .int .i64 0, .int .i64 0, .int .i64 0, .slice none 0 0], .int .i64 13]) (by simp [results, Tryz.results53, go_sem, er0, er1, er2, er3, er4]) rfl ?_
          have h := hA1.out
          rw [toList_data] at hne
          exact parseR_none (h.trans (if_neg (by intro e; rw [show textT 3 n4 0 0 puts = s.data.toList from e] at hne; simp at hne))) (hb3.grown (set5_grown w4 w.heap.size _ _ _ _ _) hb3.size (fun x hx => by injection hx; omega)) rfl
        · rename_i hne
          rw [Exit.noGoto_ret]
          refine bodyPost_ret (v := .tuple #[.agg #[.int .i64 3, .int .i64 n4, .int .i64 0, .int .i64 0, .slice pa puts.length c], .int .i64 0]) (by simp [results, Tryz.results53, go_sem, er0, er1, er2, er3, er4]) rfl ?_
          have h := hA1.out
          rw [toList_data] at hne
          exact parseR_some (h.trans (if_pos (by simp at hne; exact hne))) (hb3.grown (set5_grown w4 w.heap.size _ _ _ _ _) hb3.size (fun x hx => by injection hx; omega)) rfl rfl hmc (PD.psT (hPD4.low (set5_grown _ _ _ _ _ _ _) (by omega)) (own_other hown4 (set5_grown _ _ _ _ _ _ _) (by omega))) (fun h => absurd rfl h)
      | cons a r =>
        obtain ⟨hb3, ⟨ra, rc, hrb, -, -, -⟩, hr3, ho3, -⟩ := id hSa
        obtain ⟨⟨eo0, eo1, eo2, eo3, eo4⟩, fo⟩ := row_five ho3
        obtain ⟨⟨er0, er1, er2, er3, er4⟩, fr⟩ := row_five hr3
        have fr0 := fr 0
        have fr1 := fr 1
        have fr2 := fr 2
        have fr3 := fr 3
        have fr4 := fr 4
        have fo4 := fo 4
        have eb : wr.cell? ⟨w.heap.size + 1 + 1, 1, none⟩ = some (.bool false) := by rw [cell_of_row _ _ _ _ _ _ hrb]; rfl
        have fb : wr.frozen? ⟨w.heap.size + 1 + 1, 1, none⟩ = false := frozen_of_row _ _ _ _ _ hrb
        have el : wr.cell? ⟨w.heap.size + 1 + 1, 0, none⟩ = some (.slice ra (r.length + 1) rc) := by rw [cell_of_row _ _ _ _ _ _ hrb]; rfl
        clear hrb ho3 hr3 fr fo
        clear hb3 er0 er1 er2 er3 er4 fr0 fr1 fr2 fr3 fr4 eo0 eo1 eo2 eo3
        simp only [List.length_cons] at hl
        go_wp2_with fail
        have hSd := hSa.below ((Below.refl _ wr).drew)
        have hownd := own_on ((Below.refl _ wr).drew) hown
        have hPDd := hPD.keep ((Below.refl _ wr).drew)
        have e4 : wr.drew.cell? ⟨w.heap.size + 1 + 1 + 1, 4, none⟩ = some pv := eo4
        clear el eb fb eo4 fo4
        go_region_law
          (first
            | (go_simp; go_at_call 114; refine (rnum_any _ (a :: r) false _ w hG hSd.1 (by omega) hSd.2.1 (by have := hl; simp only [List.length_cons]; omega) (fun x hx => HX.out x (List.mem_cons_of_mem _ (HM.out x hx)))).mono ?_; rintro e w5 ⟨n5, rfl, n5a, n5b, hR5, hv5, hg5⟩; have HV5 := Lib.hid hv5; clear hv5; replace hSd := hSd.next _ hg5 hR5; replace hownd := own_other hownd hg5 (by omega); replace hPDd := hPDd.low hg5 (by omega); replace e4 := hg5.cell e4 (by simp); have hz5 : w.heap.size + 1 + 1 + 1 + 1 ≤ w5.heap.size := (by have := (Array.getElem?_eq_some_iff.1 hSd.2.2.2.1).1; omega); clear hR5 hg5)
            | (go_simp; go_at_call 115; refine (rdata_any _ _ _ _ hSd.2.1 (by have := nextS_length (a :: r) false; simp only [List.length_cons] at this; omega)).mono ?_; rintro e w6 ⟨v6, rfl, ⟨da, dm, dc, rfl⟩, hR6, hd6, hg6⟩; have HD6 := Lib.hid hd6; clear hd6; replace hSd := hSd.next _ hg6 hR6; replace hownd := own_other hownd hg6 (by omega); replace hPDd := hPDd.low hg6 (by omega); replace e4 := hg6.cell e4 (by simp); have e4a : ∀ o, (w6.alloc o).cell? ⟨w.heap.size + 1 + 1 + 1, 4, none⟩ = some pv := (fun o => below_keep (Below.of_alloc _ _) e4); clear hR6 hg6)
            | (refine step_append_lit rfl (.tmp 61) (.tmp 67) 111 138 rfl ty22 inf42 rfl (by decide) (w.heap.size + 1 + 1 + 1 + 1) _ [.int .i64 n5, .slice da dm dc] 1 rfl _ puts.length _ rfl hownd (by omega) (by decide) (by have := (Array.getElem?_eq_some_iff.1 hSd.2.2.2.1).1; omega) (k := 0) rfl (by simp [Value.oneCell']) rfl 1 rfl ?_; intro v' w' hap; obtain ⟨pa', c', rfl⟩ := own_slice hap.1; have hS7 := hSd.low hap.2.1; obtain ⟨⟨-, -, -, -, e7⟩, f7⟩ := row_five hS7.2.2.2.1; have f74 := f7 4; clear f7))
        all_goals
          have hap : AppendedV (w.heap.size + 1 + 1 + 1 + 1) 138 2 w6 pv (puts.length + 1) (xs ++ [.int .i64 n5, .slice da dm dc]) (.slice pa' (puts.length + 1) c') w' := hap
          have hstep := WInv.step hl HM.out (HA2.out (by simp)) rfl rfl HV5.out n5a n5b HD6.out hz5 hPDd hownd hap hS7 rfl rfl
          have hr0 := restOf_rd hSa.2.1
          clear hS7 hap HD6 HV5 HA2 HA0 HM hSd hPDd hownd e7 f74 e4 e4a
          generalize w'.setCell ⟨w.heap.size + 1 + 1 + 1, 4, none⟩ (.slice pa' (puts.length + 1) c') = w8 at *
          go_roundw
          case rel => exact ⟨_, _, _, _, _, _, _, _, _, _, _, _, _, _, _, _, _, _, _, _, _, _, _, hstep.1, rfl⟩
          case measure => rw [hr0]; have := hstep.2; simp only [List.length_cons]; omega
end Go.Proofs.YtgagcbgbjkjghaaGreatDoor.Scr
namespace Go.Proofs.YtgagcbgbjkjghaaGreatDoor.Scr
open Go.RowKit Go.Lib

theorem words_mem_length : ∀ (l x : List UInt8), x ∈ words l → x.length ≤ l.length
  | [], x, h => by simp [words] at h; subst h; simp
  | c :: r, x, h => by
    unfold words at h
    split at h
    · rcases List.mem_cons.1 h with rfl | h
      · simp
      · have := words_mem_length r x h; simp; omega
    · split at h
      · rename_i w ws hw
        rcases List.mem_cons.1 h with rfl | h
        · have := words_mem_length r w (by rw [hw]; simp); simp; omega
        · have := words_mem_length r x (by rw [hw]; simp [h]); simp; omega
      · rcases List.mem_cons.1 h with rfl | h
        · simp
        · cases h

theorem kindI_range (f : List UInt8) : kindI f = 0 ∨ kindI f = 1 ∨ kindI f = 2 ∨ kindI f = 3 ∨ kindI f = 4 ∨ kindI f = -1 := by
  unfold kindI
  repeat' split
  all_goals simp

/-- script.Parse. -/
theorem parse_any (s : ByteArray) (w : World) (hG : Gl w) (hs : s.size ≤ 1000000) (hm : (words s.data.toList).length ≤ 100000) :
    Calls Tryz.prog 53 #[.string s] w (ParseR w (parseA s.data.toList)) := by
  have hx : ∀ x ∈ words s.data.toList, x.length ≤ 1000000 := fun x h => by
    have := words_mem_length _ x h
    have e : s.data.toList.length = s.size := by simp
    omega
  cases hw : words s.data.toList with
  | nil => exact absurd hw (words_ne _)
  | cons f rest =>
    rw [hw] at hm hx
    rcases kindI_range f with h | h | h | h | h | h
    · exact parse_begin s f rest w hG hs (Lib.hid hw) hm hx (Lib.hid h)
    · exact parse_read s f rest w hG hs (Lib.hid hw) hm hx (Lib.hid h)
    · exact parse_write s f rest w hG hs (Lib.hid hw) hm hx (Lib.hid h)
    · exact parse_commit s f rest w hG hs (Lib.hid hw) hm hx (Lib.hid h)
    · exact parse_abort s f rest w hG hs (Lib.hid hw) hm hx (Lib.hid h)
    · exact parse_other s f rest w hG hs (Lib.hid hw) hm hx (Lib.hid h)
end Go.Proofs.YtgagcbgbjkjghaaGreatDoor.Scr
namespace Go.Proofs.YtgagcbgbjkjghaaGreatDoor.Scr
open Go.RowKit Go.Lib

/-- the cell of a digit. -/
theorem digit_cell (u : Nat) : #[Value.int IntKind.u8 (48 + (u : Int) % 10)] = (Lib.byteCells [UInt8.ofNat (48 + u % 10)]).toArray := by
  have h : ((UInt8.ofNat (48 + u % 10)).toNat : Int) = 48 + (u : Int) % 10 := by
    rw [UInt8.toNat_ofNat']; omega
  simp only [Lib.byteCells, List.map_cons, List.map_nil, h]

set_option maxRecDepth 100000 in
set_option maxHeartbeats 400000 in
theorem decimal_zero (w : World) :
    Calls Tryz.prog 10 #[.int .i64 0] w fun e w' => e = .returned (.string ⟨(Lib.itoa 0).toArray⟩) ∧ Below w.heap.size w w' := by
  have h0 : Lib.itoa 0 = [48] := by decide +kernel
  have H0 := Lib.hid h0
  clear h0
  go_enter Tryz.func10, Tryz.ntmps10
  go_wp2
  go_ret
  exact ⟨by rw [H0.out]; rfl, Below.refl _ _⟩

set_option maxRecDepth 100000 in
set_option maxHeartbeats 400000 in
theorem decimal_pos (n : Nat) (w : World) (h0 : 0 < n) (h1 : n ≤ 9223372036854775807) :
    Calls Tryz.prog 10 #[.int .i64 n] w fun e w' => e = .returned (.string ⟨(decD n).toArray⟩) ∧ Below w.heap.size w w' := by
  have hz : ((n : Int) == 0) = false := by rw [beq_eq_false_iff_ne]; omega
  have hw : IntKind.u64.wrap (n : Int) = (n : Int) := by rw [IntKind.wrap_u64]; omega
  have hlen := decD_length n 20 (by omega)
  go_enter Tryz.func10, Tryz.ntmps10
  go_wp2
  go_loopw [3, 4] (fun us v wr => ∃ (u : Nat) (l : List UInt8), u ≤ n ∧ decD n = decD u ++ l ∧ us = .int .u64 u ∧ wr.ownsRow w.heap.size 5 1 v l.length (Lib.byteCells l) ∧ Below w.heap.size w wr) (fun us _ _ => (intOf us).toNat)
  case atStart => exact ⟨n, [], Nat.le_refl _, by simp, rfl, World.ownsRow_nil _ _ _ _, Below.refl _ _⟩
  case round =>
    obtain ⟨u, l, hu, hd, rfl, hown, hbel⟩ := hrel
    have HD := Lib.hid hd
    have hll : l.length ≤ 20 := by rw [hd, List.length_append] at hlen; omega
    clear hd
    have hsz := hbel.size
    by_cases hu0 : 0 < u
    · go_wp2_with (at_builtin; refine wpList_append_row rfl (.tmp 19) (.tmp 20) 23 5 rfl ty35 inf5 w.heap.size _ 1 [UInt8.ofNat (48 + u % 10)] rfl (own_lit _ (digit_cell u) hsz (by simp [maxLen])) w.heap.size _ l.length l rfl (hown.alloc _) ?_ ?_ ?_; omega; (simp; omega); intro v' w' hap)
      have hd2 := decD_step hu0 HD.out
      have HD2 := Lib.hid hd2
      have hown2 := hap.1
      have hbel2 := (hbel.alloc hsz _).trans hap.2.1
      clear hd2 hap hown HD hbel
      go_wp2
      go_roundw
      case rel => exact ⟨u / 10, UInt8.ofNat (48 + u % 10) :: l, by omega, HD2.out, by go_num, by rw [List.length_cons, Nat.add_comm]; exact hown2, hbel2⟩
      case measure => simp [intOf]; omega
    · obtain rfl : u = 0 := by omega
      have hcv := fun (w : World) (h : wr.heap = w.heap) => own_convert (P := Tryz.prog) (w := w) (src := 23) (dst := 9) (e := 5) ty35 ty5 ty9 (by unfold World.ownsRow at hown ⊢; rw [← h]; exact hown)
      go_wp2
      go_ret
      exact ⟨by rw [HD.out, decD_zero]; rfl, hbel⟩

set_option maxRecDepth 100000 in
set_option maxHeartbeats 400000 in
theorem decimal_neg (n : Int) (N : Nat) (w : World) (h0 : n < 0) (hN : -n ≤ N) (hN' : N ≤ -n) (h1 : -9223372036854775808 ≤ n) :
    Calls Tryz.prog 10 #[.int .i64 n] w fun e w' => e = .returned (.string ⟨(45 :: decD N).toArray⟩) ∧ Below w.heap.size w w' := by
  have hz : (n == 0) = false := by rw [beq_eq_false_iff_ne]; omega
  have hw : IntKind.u64.wrap (-IntKind.u64.wrap n) = (N : Int) := by rw [IntKind.wrap_u64, IntKind.wrap_u64]; omega
  have hlen := decD_length N 20 (by omega)
  have hNp : 0 < N := by omega
  have hNb : N ≤ 9223372036854775808 := by omega
  clear hN hN'
  go_enter Tryz.func10, Tryz.ntmps10
  go_wp2
  go_loopw [3, 4] (fun us v wr => ∃ (u : Nat) (l : List UInt8), u ≤ N ∧ decD N = decD u ++ l ∧ us = .int .u64 u ∧ wr.ownsRow w.heap.size 5 1 v l.length (Lib.byteCells l) ∧ Below w.heap.size w wr) (fun us _ _ => (intOf us).toNat)
  case atStart => exact ⟨N, [], Nat.le_refl _, by simp, rfl, World.ownsRow_nil _ _ _ _, Below.refl _ _⟩
  case round =>
    obtain ⟨u, l, hu, hd, rfl, hown, hbel⟩ := hrel
    have HD := Lib.hid hd
    have hll : l.length ≤ 20 := by rw [hd, List.length_append] at hlen; omega
    clear hd
    have hsz := hbel.size
    by_cases hu0 : 0 < u
    · go_wp2_with (at_builtin; refine wpList_append_row rfl (.tmp 19) (.tmp 20) 23 5 rfl ty35 inf5 w.heap.size _ 1 [UInt8.ofNat (48 + u % 10)] rfl (own_lit _ (digit_cell u) hsz (by simp [maxLen])) w.heap.size _ l.length l rfl (hown.alloc _) ?_ ?_ ?_; omega; (simp; omega); intro v' w' hap)
      have hd2 := decD_step hu0 HD.out
      have HD2 := Lib.hid hd2
      have hown2 := hap.1
      have hbel2 := (hbel.alloc hsz _).trans hap.2.1
      clear hd2 hap hown HD hbel
      go_wp2
      go_roundw
      case rel => exact ⟨u / 10, UInt8.ofNat (48 + u % 10) :: l, by omega, HD2.out, by go_num, by rw [List.length_cons, Nat.add_comm]; exact hown2, hbel2⟩
      case measure => simp [intOf]; omega
    · obtain rfl : u = 0 := by omega
      go_wp2_with (at_builtin; refine wpList_append_row rfl (.tmp 26) (.tmp 27) 23 5 rfl ty35 inf5 w.heap.size _ 1 [45] rfl (own_lit _ rfl hsz (by simp [maxLen])) w.heap.size _ l.length l rfl (hown.alloc _) ?_ ?_ ?_; omega; (simp; omega); intro v' w' hap; have hcv := own_convert (P := Tryz.prog) (src := 23) (dst := 9) ty35 ty5 ty9 hap.1)
      have hown2 := hap.1
      have hbel2 := (hbel.alloc hsz _).trans hap.2.1
      clear hcv hap hown hbel
      go_ret
      exact ⟨by rw [HD.out, decD_zero]; rfl, hbel2⟩

/-- scarpref1.Decimal: the numeral that strconv.Itoa writes. -/
theorem decimal_any (n : Int) (w : World) (h0 : -9223372036854775808 ≤ n) (h1 : n ≤ 9223372036854775807) :
    Calls Tryz.prog 10 #[.int .i64 n] w fun e w' => e = .returned (.string ⟨(Lib.itoa n).toArray⟩) ∧ Below w.heap.size w w' := by
  by_cases hz : n = 0
  · subst hz; exact decimal_zero w
  by_cases hp : 0 < n
  · obtain ⟨m, rfl⟩ := Int.eq_ofNat_of_zero_le (Int.le_of_lt hp)
    have e : Lib.itoa (m : Int) = decD m := by unfold Lib.itoa; rw [if_neg (by omega), decD_eq m (by omega)]; rfl
    rw [e]
    exact decimal_pos m w (by omega) (by omega)
  · have e : Lib.itoa n = 45 :: decD n.natAbs := by unfold Lib.itoa; rw [if_pos (by omega), decD_eq _ (by omega)]
    rw [e]
    exact decimal_neg n n.natAbs w (by omega) (by omega) (by omega) h0

end Go.Proofs.YtgagcbgbjkjghaaGreatDoor.Scr
namespace Go.Proofs.YtgagcbgbjkjghaaGreatDoor.Scr
open Go.RowKit Go.Lib

/-- what is written ahead of the puts. -/
def writeT (h : Int) (l : List (Int × List UInt8)) : List UInt8 := [119, 114, 105, 116, 101, 32] ++ Lib.itoa h ++ putsT l

theorem textT_puts {k h a n : Int} (l : List (Int × List UInt8)) (hk : k ≠ 3) : textT k h a n l = textT k h a n [] := by
  unfold textT
  rw [if_neg hk, if_neg hk]

end Go.Proofs.YtgagcbgbjkjghaaGreatDoor.Scr
namespace Go.Proofs.YtgagcbgbjkjghaaGreatDoor.Scr
open Go.RowKit Go.Lib

end Go.Proofs.YtgagcbgbjkjghaaGreatDoor.Scr
namespace Go.Proofs.YtgagcbgbjkjghaaGreatDoor.Scr
open Go.RowKit Go.Lib

/-- what num hands back. -/
def NumR (w : World) (r : Option Int) (e : Ending) (w' : World) : Prop :=
  Below w.heap.size w w' ∧ e = match r with
    | none => .returned (.tuple #[.int .i64 0, .bool false])
    | some n => .returned (.tuple #[.int .i64 n, .bool true])

theorem numT_none {s : List UInt8} {k : Nat} (hk : k ≤ s.length) (h : preN s (negN s) k = none) : numT s = none := by
  unfold numT
  rw [preN_none s _ h _ hk]

theorem numR_no {w w' : World} {s : List UInt8} (hb : Below w.heap.size w w') (h : numT s = none) : NumR w (numT s) (.returned (.tuple #[.int .i64 0, .bool false])) w' := by
  rw [h]; exact ⟨hb, rfl⟩

theorem numT_range {s : List UInt8} {n : Nat} {neg : Bool} (hneg : negN s = neg) (h : preN s neg s.length = some n) (hr : ¬ (signN neg n ≤ 1099511627776 ∧ -1099511627776 ≤ signN neg n)) : numT s = none := by
  unfold numT
  rw [hneg, h]
  simp only
  rw [if_neg (fun hh => hr ⟨hh.1, hh.2.1⟩)]

theorem numT_text {s : ByteArray} {n : Nat} {neg : Bool} (hneg : negN s.data.toList = neg) (h : preN s.data.toList neg s.data.toList.length = some n) (hr : (!Lib.itoa (signN neg n) == s.toList) = true) : numT s.data.toList = none := by
  unfold numT
  rw [hneg, h]
  simp only
  rw [toList_data] at hr
  rw [if_neg (fun hh => by rw [hh.2.2] at hr; simp at hr)]

theorem numT_yes {s : ByteArray} {n : Nat} {neg : Bool} (hneg : negN s.data.toList = neg) (h : preN s.data.toList neg s.data.toList.length = some n) (h1 : signN neg n ≤ 1099511627776) (h2 : -1099511627776 ≤ signN neg n) (hr : (!Lib.itoa (signN neg n) == s.toList) = false) : numT s.data.toList = some (signN neg n) := by
  unfold numT
  rw [hneg, h]
  simp only
  rw [toList_data] at hr
  rw [if_pos ⟨h1, h2, by simpa using hr⟩]

end Go.Proofs.YtgagcbgbjkjghaaGreatDoor.Scr
namespace Go.Proofs.YtgagcbgbjkjghaaGreatDoor.Scr
open Go.RowKit Go.Lib

/-- the puts that words are; the last word alone is left out. -/
def loopR : List (List UInt8) → List (Int × List UInt8) → Option (List (Int × List UInt8))
  | a :: b :: r, p => match numT a, unbytesT b with
    | some v, some d => loopR r (p ++ [(v, d)])
    | _, _ => none
  | _, p => some p

def headB (K : Int) : List (List UInt8) → Option Int
  | [] => some 0
  | x :: _ => if K = 1 then some 0 else numT x
def candB (K : Int) (rest : List (List UInt8)) : Option OpD :=
  match headB K rest with
  | none => none
  | some h =>
    if K = 2 then (match rest with
      | [_, y, z] => (match numT y, numT z with | some a, some n => some (2, h, a, n, []) | _, _ => none)
      | _ => some (2, h, 0, 0, []))
    else if K = 3 then (loopR rest.tail []).map fun l => (3, h, 0, 0, l)
    else if K = 0 then none
    else some (K, h, 0, 0, [])
/-- what the reference's Parse reads. -/
def parseB (s : List UInt8) : Option OpD :=
  match words s with
  | [] => none
  | f :: rest => match candB (kindI f + 1) rest with
    | some o => if textO o = s then some o else none
    | none => none

theorem parse_candB {s : List UInt8} {f : List UInt8} {rest : List (List UInt8)} (hw : words s = f :: rest) :
    parseB s = match candB (kindI f + 1) rest with | some o => if textO o = s then some o else none | none => none := by
  unfold parseB
  rw [hw]

theorem numT_bd {s : List UInt8} {v : Int} (h : numT s = some v) : -1099511627776 ≤ v ∧ v ≤ 1099511627776 ∧ Lib.itoa v = s := by
  unfold numT at h
  split at h
  · cases h
  · split at h
    · rename_i hc
      injection h with h
      subst h
      exact ⟨hc.2.1, hc.1, hc.2.2⟩
    · cases h

theorem kind_test {f : List UInt8} {K : Int} (h : kindI f + 1 = K) {m : Nat} (h1 : 1 ≤ m) (h5 : m ≤ 5) : (f == wordL m) = decide (K = m) := by
  have hk := kind_of (f := f) rfl
  have e : ∀ (i : Int), 1 ≤ i → i ≤ 5 → kindI (wordL i) = i - 1 := by
    intro i a b
    obtain rfl | rfl | rfl | rfl | rfl : i = 1 ∨ i = 2 ∨ i = 3 ∨ i = 4 ∨ i = 5 := by omega
    all_goals rfl
  by_cases hf : f = wordL m
  · have := e m (by omega) (by omega)
    rw [← hf] at this
    rw [beq_iff_eq.2 hf]
    symm
    rw [decide_eq_true_iff]
    omega
  · have : (f == wordL m) = false := by rw [beq_eq_false_iff_ne]; exact hf
    rw [this]
    symm
    rw [decide_eq_false_iff_not]
    intro hK
    apply hf
    subst hK
    have : m = 1 ∨ m = 2 ∨ m = 3 ∨ m = 4 ∨ m = 5 := by omega
    rcases this with rfl | rfl | rfl | rfl | rfl
    · exact hk.1 (by omega)
    · exact hk.2.1 (by omega)
    · exact hk.2.2.1 (by omega)
    · exact hk.2.2.2.1 (by omega)
    · exact hk.2.2.2.2.1 (by omega)

/-- where the reference's Parse stands: its result's block, the words' block, its op. -/
def RS (w0 w : World) (lb og : Nat) (L : List (List UInt8)) (k h a n : Int) (pv : Value) : Prop :=
  Below w0.heap.size w0 w ∧ w0.heap.size < lb ∧ lb < og ∧ (∀ j (h : j < L.length), w.cell? ⟨lb, j, none⟩ = some (.string ⟨L[j].toArray⟩)) ∧
  w.heap[w0.heap.size]? = some (.cells #[.int .i64 0, .int .i64 0, .int .i64 0, .int .i64 0, .slice none 0 0] 116 (0, 0)) ∧
  w.heap[og]? = some (.cells #[.int .i64 k, .int .i64 h, .int .i64 a, .int .i64 n, pv] 116 (0, 0)) ∧ ∃ p m c, pv = .slice p m c

theorem RS.below {w0 w w' : World} {lb og : Nat} {L : List (List UInt8)} {k h a n : Int} {pv : Value} (hS : RS w0 w lb og L k h a n pv) (hb : Below w.heap.size w w') : RS w0 w' lb og L k h a n pv := by
  obtain ⟨h1, h2, h3, h4, h5, h6, h7⟩ := hS
  exact ⟨below_step h1 (by have := (Array.getElem?_eq_some_iff.1 h5).1; omega) hb, h2, h3, fun j hj => below_keep hb (h4 j hj), below_heap hb h5, below_heap hb h6, h7⟩

theorem RS.low {w0 w w' : World} {lb og : Nat} {L : List (List UInt8)} {k h a n : Int} {pv : Value} (hS : RS w0 w lb og L k h a n pv) (hb : Below (og + 1) w w') : RS w0 w' lb og L k h a n pv := by
  obtain ⟨h1, h2, h3, h4, h5, h6, h7⟩ := hS
  exact ⟨h1.trans (hb.mono (by omega)), h2, h3, fun j hj => (hb.cell (by show lb < _; omega)).trans (h4 j hj), (hb.block _ (by omega)).trans h5, (hb.block _ (by omega)).trans h6, h7⟩

theorem RS.cells {w0 w : World} {lb og : Nat} {L : List (List UInt8)} {k h a n : Int} {pv : Value} (hS : RS w0 w lb og L k h a n pv) (i : Nat) (v : Value) {k' h' a' n' : Int} {pv' : Value}
    (he : (#[.int .i64 k, .int .i64 h, .int .i64 a, .int .i64 n, pv] : Array Value).set! i v = #[.int .i64 k', .int .i64 h', .int .i64 a', .int .i64 n', pv']) (hp' : ∃ p m c, pv' = .slice p m c) :
    RS w0 (w.setCell ⟨og, i, none⟩ v) lb og L k' h' a' n' pv' := by
  obtain ⟨h1, h2, h3, h4, h5, h6, h7⟩ := hS
  refine ⟨h1.setCell (by show _ ≤ og; omega) _, h2, h3, fun j hj => (grown_set w og i v).cell (h4 j hj) (by simp; omega), ?_, ?_, hp'⟩
  · rw [Below.heap_setCell _ _ _ _ (by show _ ≠ og; omega)]; exact h5
  · rw [Lib.heap_setCell_same h6, ← he, Array.set!_eq_setIfInBounds]

theorem own_words {w : World} {base n : Nat} {v : Value} {f : List UInt8} {rest : List (List UInt8)} (h : w.ownsRow base 9 1 v n (strCells (f :: rest))) :
    ∃ lb c, v = .slice (some ⟨lb, 0, none⟩) (rest.length + 1) c ∧ rest.length + 1 ≤ c ∧ base ≤ lb ∧ lb < w.heap.size ∧ ∀ j (h : j < (f :: rest).length), w.cell? ⟨lb, j, none⟩ = some (.string ⟨(f :: rest)[j].toArray⟩) := by
  have hn : n = rest.length + 1 := by have := h.1; simp [strCells] at this; omega
  subst hn
  rcases h.2 with ⟨_, h0⟩ | ⟨g, cap, cur, rfl, hg, hh, hc, _⟩
  · cases h0
  · refine ⟨g, cap, rfl, hc, hg, (Array.getElem?_eq_some_iff.1 hh).1, fun j hj => ?_⟩
    rw [h.cellAt j (by simpa using hj)]
    have e : ∀ (ws : List (List UInt8)) (j : Nat) (hj : j < ws.length), (strCells ws)[j]? = some (.string ⟨ws[j].toArray⟩) := by intro ws j hj; simp [strCells, hj]
    exact e _ j hj

theorem rs_start {w w1 : World} {lb : Nat} {L : List (List UInt8)} (hb : Below (w.alloc (.cells #[.int .i64 0, .int .i64 0, .int .i64 0, .int .i64 0, .slice none 0 0] 116)).heap.size (w.alloc (.cells #[.int .i64 0, .int .i64 0, .int .i64 0, .int .i64 0, .slice none 0 0] 116)) w1)
    (hL : lb < w1.heap.size ∧ ∀ j (h : j < L.length), w1.cell? ⟨lb, j, none⟩ = some (.string ⟨L[j].toArray⟩)) (hlb : (w.alloc (.cells #[.int .i64 0, .int .i64 0, .int .i64 0, .int .i64 0, .slice none 0 0] 116)).heap.size ≤ lb) :
    RS w (w1.alloc (.cells #[.int .i64 0, .int .i64 0, .int .i64 0, .int .i64 0, .slice none 0 0] 116)) lb w1.heap.size L 0 0 0 0 (.slice none 0 0) := by
  rw [sz_alloc] at hlb
  refine ⟨below_step (below_step (Below.of_alloc _ _) (Nat.le_refl _) hb) (by have := hb.size; rw [sz_alloc] at this; omega) (Below.of_alloc _ _), hlb, hL.1, fun j hj => below_keep (Below.of_alloc _ _) (hL.2 j hj), hp_old (below_heap hb (hp_new _ _)), hp_new _ _, _, _, _, rfl⟩

theorem rstep {w w8 w' : World} {lb og : Nat} {L : List (List UInt8)} {v n5 : Int} {puts : List (Int × List UInt8)} {pv : Value} {xs : List Value} {pa' : Option Addr} {c' g8 : Nat} {d : List UInt8} {pv' : Value}
    (hS : RS w w' lb og L 3 v 0 0 pv') (hown : w8.ownsRow (og + 1) 138 2 pv puts.length xs) (hPD : PD w8 (og + 1) puts xs)
    (hap : AppendedV (og + 1) 138 2 w8 pv (puts.length + 1) (xs ++ [.int .i64 n5, .slice (some ⟨g8, 0, none⟩) 40 40]) (.slice pa' (puts.length + 1) c') w')
    (hg : og + 1 ≤ g8) (hgb : w8.heap[g8]? = some (.cells (Lib.byteCells d).toArray 5 (0, 0))) (hd : d.length = 40) (h0 : -9223372036854775808 ≤ n5) (h1 : n5 ≤ 9223372036854775807) :
    RS w (w'.setCell ⟨og, 4, none⟩ (.slice pa' (puts.length + 1) c')) lb og L 3 v 0 0 (.slice pa' (puts.length + 1) c') ∧
    (w'.setCell ⟨og, 4, none⟩ (.slice pa' (puts.length + 1) c')).ownsRow (og + 1) 138 2 (.slice pa' (puts.length + 1) c') (puts ++ [(n5, d)]).length (xs ++ [.int .i64 n5, .slice (some ⟨g8, 0, none⟩) 40 40]) ∧
    PD (w'.setCell ⟨og, 4, none⟩ (.slice pa' (puts.length + 1) c')) (og + 1) (puts ++ [(n5, d)]) (xs ++ [.int .i64 n5, .slice (some ⟨g8, 0, none⟩) 40 40]) := by
  have hset := grown_set w' og 4 (.slice pa' (puts.length + 1) c')
  have hP7 := (hPD.own hown hap.2.2)
  have hne : some g8 ≠ pv.ownBlock := by
    intro e
    rcases hown.2 with ⟨rfl, _⟩ | ⟨g', cap, cur, rfl, _, hh, _⟩
    · cases e
    · obtain rfl : g8 = g' := by injection e
      rw [hgb] at hh
      injection hh with hh
      injection hh with e1 e2
      cases e2
  have hgb7 := (hap.2.2.block g8 (Array.getElem?_eq_some_iff.1 hgb).1 hne).trans hgb
  have hP8 := hP7.snoc (n := n5) (d := d) (g := g8) (by omega) hgb7 hd h0 h1
  refine ⟨hS.cells 4 _ rfl ⟨_, _, _, rfl⟩, ?_, hP8.low hset (by omega)⟩
  rw [List.length_append, List.length_singleton]
  exact own_other hap.1 hset (by omega)

theorem candB_few {x : List UInt8} {r : List (List UInt8)} {v : Int} (hv : numT x = some v) (h : r.length ≠ 2) : candB 2 (x :: r) = some (2, v, 0, 0, []) := by
  match r, h with
  | [], _ => simp [candB, headB, hv]
  | [_], _ => simp [candB, headB, hv]
  | [_, _], h => exact absurd rfl h
  | _ :: _ :: _ :: _, _ => simp [candB, headB, hv]

theorem loopR_step {r : List (List UInt8)} {p : Nat} (h : p + 1 < r.length) (q : List (Int × List UInt8)) :
    loopR (r.drop p) q = match numT r[p], unbytesT r[p + 1] with | some v, some d => loopR (r.drop (p + 2)) (q ++ [(v, d)]) | _, _ => none := by
  rw [List.drop_eq_getElem_cons (by omega), List.drop_eq_getElem_cons h]
  rfl
theorem loopR_end {r : List (List UInt8)} {p : Nat} (h : ¬ p + 1 < r.length) (q : List (Int × List UInt8)) : loopR (r.drop p) q = some q := by
  have hl : (r.drop p).length ≤ 1 := by rw [List.length_drop]; omega
  match hd : r.drop p, hl with
  | [], _ => rfl
  | [_], _ => rfl

end Go.Proofs.YtgagcbgbjkjghaaGreatDoor.Scr
namespace Go.Proofs.YtgagcbgbjkjghaaGreatDoor.Scr
open Go.Lib

theorem decDigits_cut {u : Nat} (h : ¬ u < 10) : decDigits u = decDigits (u / 10) ++ [UInt8.ofNat (48 + u % 10)] := by
  rw [decDigits, dif_neg h]
theorem ofNat_dig {n : Nat} (h : n < 10) : (UInt8.ofNat (48 + n)).toNat = 48 + n := by
  rw [UInt8.toNat_ofNat']; omega
theorem decDigits_dig (u : Nat) : ∀ c ∈ decDigits u, 48 ≤ c.toNat ∧ c.toNat ≤ 57 := by
  induction u using Nat.strongRecOn with
  | ind u ih =>
    intro c hc
    by_cases h : u < 10
    · rw [decDigits_one h] at hc
      rw [List.mem_singleton.1 hc, ofNat_dig h]; omega
    · rw [decDigits_cut h] at hc
      rcases List.mem_append.1 hc with hc | hc
      · exact ih _ (by omega) c hc
      · rw [List.mem_singleton.1 hc, ofNat_dig (by omega)]; omega
theorem decDigits_ne (u : Nat) : decDigits u ≠ [] := by
  by_cases h : u < 10
  · rw [decDigits_one h]; simp
  · rw [decDigits_cut h]; simp

theorem parseUint10_app (acc : Nat) (l r : List UInt8) (v : Nat) (h : parseUint10 acc l = .ok v) : parseUint10 acc (l ++ r) = parseUint10 v r := by
  induction l generalizing acc with
  | nil => simp only [parseUint10] at h; injection h with h; subst h; rfl
  | cons c l ih =>
    simp only [parseUint10, List.cons_append] at h ⊢
    split at h
    · rename_i h1
      rw [if_pos h1]
      split at h
      · cases h
      · rename_i h2
        rw [if_neg h2]
        split at h
        · cases h
        · rename_i h3
          rw [if_neg h3]
          exact ih _ h
    · cases h
theorem parseUint10_dec (u : Nat) (h : u < 1844674407370955162) : parseUint10 0 (decDigits u) = .ok u := by
  induction u using Nat.strongRecOn with
  | ind u ih =>
    by_cases h1 : u < 10
    · rw [decDigits_one h1]
      have e := ofNat_dig h1
      simp only [parseUint10, e]
      rw [if_pos (by omega), if_neg (by omega), if_neg (by omega)]
      congr 1; omega
    · rw [decDigits_cut h1, parseUint10_app 0 _ _ (u / 10) (ih _ (by omega) (by omega))]
      have e := ofNat_dig (n := u % 10) (by omega)
      simp only [parseUint10, e]
      rw [if_pos (by omega), if_neg (by omega), if_neg (by omega)]
      congr 1; omega

/-- from -2^40 to 2^40. -/
def RR (v : Int) : Prop := -1099511627776 ≤ v ∧ v ≤ 1099511627776

theorem atoiIn_itoa {v : Int} (h : RR v) : atoiIn (itoa v) = some v := by
  obtain ⟨h0, h1⟩ := h
  have key : atoiAll (itoa v) = .ok v := by
    unfold itoa
    split
    · rename_i hn
      have hp := parseUint10_dec v.natAbs (by omega)
      unfold atoiAll
      simp only [show (45 : UInt8).toNat = 45 from rfl, or_true, if_true]
      unfold parseMag
      rw [if_neg (decDigits_ne _), hp]
      simp only
      rw [if_neg (by omega), if_neg (by omega)]
      congr 1; omega
    · rename_i hn
      have hp := parseUint10_dec v.toNat (by omega)
      cases hd : decDigits v.toNat with
      | nil => exact absurd hd (decDigits_ne _)
      | cons c r =>
        have hc := decDigits_dig v.toNat c (by rw [hd]; simp)
        unfold atoiAll
        simp only
        rw [if_neg (by omega)]
        unfold parseMag
        rw [if_neg (by simp), ← hd, hp]
        simp only
        rw [if_neg (by omega), if_neg (by omega), if_neg (by omega)]
        congr 1; omega
  unfold atoiIn
  rw [key]
  simp only
  rw [if_pos ⟨h0, h1⟩]
theorem atoiIn_RR {l : List UInt8} {v : Int} (h : atoiIn l = some v) : RR v := by
  unfold atoiIn at h
  split at h
  · split at h
    · rename_i hc; injection h with h; subst h; exact hc
    · cases h
  · cases h

theorem preN_app (l t : List UInt8) (neg : Bool) (k : Nat) (h : k ≤ l.length) : preN (l ++ t) neg k = preN l neg k := by
  induction k with
  | zero => rfl
  | succ k ih =>
    have e : (l ++ t).getD k 0 = l.getD k 0 := by
      rw [List.getD_eq_getElem?_getD, List.getD_eq_getElem?_getD, List.getElem?_append_left (by omega)]
    simp only [preN]
    rw [ih (by omega), e]
theorem preN_dec (u : Nat) (h : u ≤ 1099511627776) : preN (decDigits u) false (decDigits u).length = some u := by
  induction u using Nat.strongRecOn with
  | ind u ih =>
    by_cases h1 : u < 10
    · rw [decDigits_one h1]
      have e := ofNat_dig h1
      have hg : [UInt8.ofNat (48 + u)].getD 0 0 = UInt8.ofNat (48 + u) := rfl
      show preN _ false (0 + 1) = _
      rw [preN_succ _ _ 0 0 rfl, hg, e, if_neg (by simp), if_pos (by omega)]
      congr 1; omega
    · rw [decDigits_cut h1, List.length_append, List.length_singleton]
      have e := ofNat_dig (n := u % 10) (by omega)
      have hi := ih (u / 10) (by omega) (by omega)
      rw [← preN_app _ [UInt8.ofNat (48 + u % 10)] _ _ (Nat.le_refl _)] at hi
      have hg : (decDigits (u / 10) ++ [UInt8.ofNat (48 + u % 10)]).getD (decDigits (u / 10)).length 0 = UInt8.ofNat (48 + u % 10) := by
        rw [List.getD_eq_getElem?_getD, List.getElem?_append_right (Nat.le_refl _)]; simp
      rw [preN_succ _ _ _ _ hi, hg, e, if_neg (by simp), if_pos (by omega)]
      congr 1; omega
theorem preN_neg (l : List UInt8) (k : Nat) : preN (45 :: l) true (k + 1) = preN l false k := by
  induction k with
  | zero => rw [preN_succ _ _ 0 0 rfl, if_pos ⟨rfl, rfl⟩]; rfl
  | succ k ih =>
    have e : (45 :: l).getD (k + 1) 0 = l.getD k 0 := rfl
    rw [preN, ih]
    cases hp : preN l false k with
    | none => simp only; rw [preN, hp]
    | some n => rw [preN_succ _ _ _ _ hp, e]; simp
theorem numT_itoa {v : Int} (h : RR v) : numT (itoa v) = some v := by
  obtain ⟨h0, h1⟩ := h
  by_cases hn : v < 0
  · have e : itoa v = 45 :: decDigits v.natAbs := by unfold itoa; rw [if_pos hn]
    have hN : negN (itoa v) = true := by rw [e]; rfl
    have hp : preN (itoa v) true (itoa v).length = some v.natAbs := by
      rw [e, List.length_cons, preN_neg]; exact preN_dec _ (by omega)
    have hs : signN true v.natAbs = v := by unfold signN; rw [if_pos rfl]; omega
    unfold numT
    rw [hN, hp]
    simp only
    rw [hs, if_pos ⟨h1, h0, rfl⟩]
  · have e : itoa v = decDigits v.toNat := by unfold itoa; rw [if_neg hn]
    have hN : negN (itoa v) = false := by
      rw [e]
      unfold negN
      rw [decide_eq_false_iff_not]
      intro hh
      cases hd : decDigits v.toNat with
      | nil => exact decDigits_ne _ hd
      | cons c r =>
        have hc := decDigits_dig v.toNat c (by rw [hd]; simp)
        rw [hd] at hh
        simp at hh
        subst hh
        have : (45 : UInt8).toNat = 45 := rfl
        omega
    have hp : preN (itoa v) false (itoa v).length = some v.toNat := by rw [e]; exact preN_dec _ (by omega)
    have hs : signN false v.toNat = v := by unfold signN; rw [if_neg (by simp)]; omega
    unfold numT
    rw [hN, hp]
    simp only
    rw [hs, if_pos ⟨h1, h0, rfl⟩]

/-! hex digits -/
theorem dig_hexc {n : Nat} (h : n < 16) : dig ((hexc n).toNat : Int) = n := by
  have key : ∀ y : Fin 16, dig ((hexc y.val).toNat : Int) = y.val := by decide +kernel
  exact key ⟨n, h⟩
theorem hexs_cons (c : UInt8) (l : List UInt8) : hexs (c :: l) = hexc (c.toNat / 16) :: hexc (c.toNat % 16) :: hexs l := by simp [hexs, hex2]
theorem hexs_getD (l : List UInt8) (i : Nat) (h : i < l.length) : (hexs l).getD (2 * i) 0 = hexc (l[i].toNat / 16) ∧ (hexs l).getD (2 * i + 1) 0 = hexc (l[i].toNat % 16) := by
  induction l generalizing i with
  | nil => simp at h
  | cons c l ih =>
    rw [hexs_cons]
    cases i with
    | zero => exact ⟨rfl, rfl⟩
    | succ i =>
      have := ih i (by simpa using h)
      rw [show 2 * (i + 1) = 2 * i + 1 + 1 by omega]
      simpa using this
theorem keep_zero (l : List UInt8) (h : keep l = 0) : l = List.replicate l.length 0 := by
  induction l with
  | nil => rfl
  | cons c l ih =>
    simp only [keep] at h
    split at h
    · rename_i h0
      split at h
      · rename_i hc
        rw [List.length_cons, List.replicate_succ, ← ih h0, hc]
      · cases h
    · cases h
theorem keep_tail (l : List UInt8) : l = trim0 l ++ List.replicate (l.length - keep l) 0 := by
  induction l with
  | nil => rfl
  | cons c l ih =>
    unfold trim0
    by_cases h0 : keep l = 0
    · have e := keep_zero l h0
      by_cases hc : c = 0
      · have hk : keep (c :: l) = 0 := by simp [keep, h0, hc]
        rw [hk, List.take_zero, List.nil_append, Nat.sub_zero, List.length_cons, List.replicate_succ, ← e, hc]
      · have hk : keep (c :: l) = 1 := by simp [keep, h0, hc]
        rw [hk, List.take_succ_cons, List.take_zero, List.length_cons, Nat.add_sub_cancel, ← e]; rfl
    · have hk : keep (c :: l) = keep l + 1 := by simp [keep, h0]
      rw [hk, List.take_succ_cons, List.length_cons, Nat.add_sub_add_right, List.cons_append]
      exact congrArg (c :: ·) ih
theorem trim0_len (l : List UInt8) : (trim0 l).length = keep l := by unfold trim0; rw [List.length_take]; have := keep_le l; omega

theorem unbytesT_bytes {d : List UInt8} (h : d.length = 40) : unbytesT (bytesT d) = some d := by
  have hk := keep_le d
  by_cases h0 : keep d = 0
  · have e : bytesT d = [45] := by unfold bytesT; rw [if_pos h0]
    have := keep_zero d h0
    rw [e]
    unfold unbytesT
    rw [if_pos rfl, ← h, ← this]
  · have e : bytesT d = hexs (trim0 d) := by unfold bytesT; rw [if_neg h0]
    have hl : (bytesT d).length = 2 * keep d := by rw [e, hexs_length, trim0_len]
    have hget : ∀ i, i < keep d → hiD (bytesT d) i = (((trim0 d).getD i 0).toNat / 16 : Nat) ∧ loD (bytesT d) i = (((trim0 d).getD i 0).toNat % 16 : Nat) := by
      intro i hi
      have hi' : i < (trim0 d).length := by rw [trim0_len]; exact hi
      have hg := hexs_getD (trim0 d) i hi'
      have hb : (trim0 d).getD i 0 = (trim0 d)[i] := by rw [List.getD_eq_getElem?_getD, List.getElem?_eq_getElem hi']; rfl
      have hlt := (trim0 d)[i].toNat_lt
      unfold hiD loD
      rw [e, hg.1, hg.2, hb, dig_hexc (by omega), dig_hexc (by omega)]
      exact ⟨rfl, rfl⟩
    have hok : (List.range (keep d)).all (okD (bytesT d)) = true := by
      rw [List.all_eq_true]
      intro i hi
      have := hget i (List.mem_range.1 hi)
      exact okD_good (by rw [this.1, this.2]; omega)
    have hbyte : ∀ i, i < keep d → byteD (bytesT d) i = (trim0 d).getD i 0 := by
      intro i hi
      have hg := hget i hi
      have := byteD_toNat (s := bytesT d) (i := i) (by rw [hg.1, hg.2]; omega)
      rw [hg.1, hg.2] at this
      apply UInt8.toNat_inj.1
      omega
    have hf : fortyD (bytesT d) (keep d) = d := by
      have e2 : (List.range (keep d)).map (byteD (bytesT d)) = trim0 d := by
        apply List.ext_getElem
        · rw [List.length_map, List.length_range, trim0_len]
        · intro i h1 h2
          rw [List.getElem_map, List.getElem_range, hbyte i (by rw [trim0_len] at h2; exact h2), List.getD_eq_getElem?_getD, List.getElem?_eq_getElem h2]; rfl
      unfold fortyD
      rw [e2, ← h, ← keep_tail d]
    unfold unbytesT
    rw [if_neg (by intro hh; rw [hh] at hl; simp at hl; omega), if_neg (by rw [hl]; omega), hl, show 2 * keep d / 2 = keep d by omega]
    unfold unbytesN
    rw [if_pos hok, hf, if_pos rfl]
theorem unbytesT_len {s d : List UInt8} (h : unbytesT s = some d) : d.length = 40 := by
  unfold unbytesT at h
  split at h
  · injection h with h; subst h; simp
  · split at h
    · cases h
    · rename_i h2
      unfold unbytesN at h
      split at h
      · split at h
        · injection h with h; subst h; exact fortyD_length _ _ (by omega)
        · cases h
      · cases h

/-! words -/
theorem itoa_chars (v : Int) : ∀ c ∈ itoa v, c.toNat = 45 ∨ 48 ≤ c.toNat ∧ c.toNat ≤ 57 := by
  intro c hc
  unfold itoa at hc
  split at hc
  · rcases List.mem_cons.1 hc with rfl | hc
    · exact Or.inl rfl
    · exact Or.inr (decDigits_dig _ c hc)
  · exact Or.inr (decDigits_dig _ c hc)
theorem itoa_ne (v : Int) : itoa v ≠ [] := by
  unfold itoa
  split
  · simp
  · exact decDigits_ne _
theorem hexc_chars {n : Nat} (h : n < 16) : (48 ≤ (hexc n).toNat ∧ (hexc n).toNat ≤ 57) ∨ (97 ≤ (hexc n).toNat ∧ (hexc n).toNat ≤ 102) := by
  have key : ∀ y : Fin 16, (48 ≤ (hexc y.val).toNat ∧ (hexc y.val).toNat ≤ 57) ∨ (97 ≤ (hexc y.val).toNat ∧ (hexc y.val).toNat ≤ 102) := by decide +kernel
  exact key ⟨n, h⟩
theorem bytesT_chars (d : List UInt8) : ∀ c ∈ bytesT d, c.toNat = 45 ∨ (48 ≤ c.toNat ∧ c.toNat ≤ 57) ∨ (97 ≤ c.toNat ∧ c.toNat ≤ 102) := by
  intro c hc
  unfold bytesT at hc
  split at hc
  · rw [List.mem_singleton.1 hc]; exact Or.inl rfl
  · unfold hexs at hc
    obtain ⟨x, _, hx⟩ := List.mem_flatMap.1 hc
    have := x.toNat_lt
    unfold hex2 at hx
    rcases List.mem_cons.1 hx with rfl | hx
    · exact Or.inr (hexc_chars (by omega))
    · rw [List.mem_singleton.1 hx]; exact Or.inr (hexc_chars (by omega))
theorem bytesT_ne (d : List UInt8) : bytesT d ≠ [] := by
  unfold bytesT
  split
  · simp
  · rename_i h
    intro e
    have := congrArg List.length e
    rw [hexs_length, trim0_len] at this
    simp at this
    omega
theorem wordL_chars (k : Int) : ∀ c ∈ wordL k, c.toNat ≠ 32 ∧ c.toNat ≠ 120 ∧ c.toNat ≠ 10 := by
  intro c hc
  unfold wordL at hc
  repeat' split at hc
  all_goals revert c; decide

theorem words_join (ws : List (List UInt8)) (hne : ws ≠ []) (h : ∀ x ∈ ws, ∀ c ∈ x, c ≠ 32) : words (join ws [32]) = ws := by
  cases ws with
  | nil => exact absurd rfl hne
  | cons w r =>
    rw [join_cons]
    clear hne
    induction r generalizing w with
    | nil => simp [joinTail]; exact words_none w (h w (by simp))
    | cons v r ih =>
      have e : joinTail [32] (v :: r) = 32 :: (v ++ joinTail [32] r) := by simp [joinTail]
      rw [e, words_cut w _ (h w (by simp)), ih v fun x hx => h x (by simp [List.mem_cons.1 hx])]

end Go.Proofs.YtgagcbgbjkjghaaGreatDoor.Scr
namespace Go.Proofs.YtgagcbgbjkjghaaGreatDoor.Scr
open Go.Lib

def opWord (k : Int) : List UInt8 := if wordL k = [] then [111, 112] else wordL k
/-- the j-th block's bytes. -/
def piece (d : List UInt8) (j : Nat) : List UInt8 := (d.drop (40 * j)).take 40
/-- the words of the first j blocks. -/
def pieceW (d : List UInt8) (j : Nat) : List (List UInt8) := (List.range j).map fun i => bytesT (piece d i)
def nPc (d : List UInt8) : Nat := (d.length + 39) / 40
/-- the words of an answer. -/
def ansW (k z h t : Int) (d : List UInt8) : List (List UInt8) :=
  if z ≠ 0 then [opWord k, itoa h, [101, 114, 114, 111, 114, 32] ++ itoa z]
  else if k = 1 ∨ k = 4 then [opWord k, itoa h, [111, 107], [97, 116], itoa t]
  else if k = 2 then [opWord k, itoa h, [111, 107]] ++ pieceW d (nPc d)
  else [opWord k, itoa h, [111, 107]]
def ansT (k z h t : Int) (d : List UInt8) : List UInt8 := join (ansW k z h t d) [32]

theorem pieceW_succ (d : List UInt8) (j : Nat) : pieceW d (j + 1) = pieceW d j ++ [bytesT (piece d j)] := by
  unfold pieceW; rw [List.range_succ, List.map_append]; rfl
theorem pieceW_length (d : List UInt8) (j : Nat) : (pieceW d j).length = j := by unfold pieceW; simp
theorem piece_length (d : List UInt8) (j : Nat) : (piece d j).length = min 40 (d.length - 40 * j) := by unfold piece; simp
theorem nPc_end {d : List UInt8} {j : Nat} (h1 : d.length ≤ 40 * j) (h2 : 40 * j < d.length + 40) : j = nPc d := by unfold nPc; omega
theorem opWord_length (k : Int) : (opWord k).length ≤ 6 := by
  unfold opWord wordL
  repeat' split
  all_goals decide
theorem joinTail_length (ws : List (List UInt8)) (n : Nat) (h : ∀ x ∈ ws, x.length ≤ n) : (joinTail [32] ws).length ≤ (n + 1) * ws.length := by
  induction ws with
  | nil => simp [joinTail]
  | cons w r ih =>
    have e : joinTail [32] (w :: r) = 32 :: (w ++ joinTail [32] r) := by simp [joinTail]
    have h0 := h w (by simp)
    have h1 := ih fun x hx => h x (by simp [hx])
    rw [e, List.length_cons, List.length_append, List.length_cons, Nat.mul_succ]
    omega
theorem pieceW_mem {d : List UInt8} {j : Nat} : ∀ x ∈ pieceW d j, x.length ≤ 81 := by
  intro x hx
  unfold pieceW at hx
  obtain ⟨i, _, rfl⟩ := List.mem_map.1 hx
  have := bytesT_length (piece d i)
  have h2 := piece_length d i
  omega
theorem joinTail_snoc (ws : List (List UInt8)) (w : List UInt8) : joinTail [32] (ws ++ [w]) = joinTail [32] ws ++ 32 :: w := by
  induction ws with
  | nil => simp [joinTail]
  | cons v r ih =>
    have e : ∀ v r, joinTail [32] (v :: r) = 32 :: (v ++ joinTail [32] r) := fun v r => by simp [joinTail]
    rw [List.cons_append, e, e, ih]; simp
/-- the text of a read's answer, as far as j blocks. -/
def readT (k h : Int) (d : List UInt8) (j : Nat) : List UInt8 := opWord k ++ 32 :: (itoa h ++ [32, 111, 107] ++ joinTail [32] (pieceW d j))
theorem readT_succ (k h : Int) (d : List UInt8) (j : Nat) : readT k h d (j + 1) = readT k h d j ++ 32 :: bytesT (piece d j) := by
  unfold readT; rw [pieceW_succ, joinTail_snoc]; simp
theorem readT_zero (k h : Int) (d : List UInt8) : readT k h d 0 = opWord k ++ 32 :: (itoa h ++ [32, 111, 107]) := by
  unfold readT pieceW; simp [joinTail]
theorem readT_length (k h : Int) (d : List UInt8) (j : Nat) (h0 : -9223372036854775808 ≤ h) (h1 : h ≤ 9223372036854775807) : (readT k h d j).length ≤ 30 + 82 * j := by
  have a := opWord_length k
  have b := itoa_length h0 h1
  have c := joinTail_length (pieceW d j) 81 pieceW_mem
  rw [pieceW_length] at c
  unfold readT
  simp; omega
theorem ansT_err {k z h t : Int} {d : List UInt8} (hz : z ≠ 0) : ansT k z h t d = opWord k ++ 32 :: (itoa h ++ ([32, 101, 114, 114, 111, 114, 32] ++ itoa z)) := by
  unfold ansT ansW; rw [if_pos hz]; simp [join_cons, joinTail]
theorem ansT_at {k z h t : Int} {d : List UInt8} (hz : z = 0) (hk : k = 1 ∨ k = 4) : ansT k z h t d = opWord k ++ 32 :: (itoa h ++ ([32, 111, 107, 32, 97, 116, 32] ++ itoa t)) := by
  unfold ansT ansW; rw [if_neg (by omega), if_pos hk]; simp [join_cons, joinTail]
theorem ansT_read {k z h t : Int} {d : List UInt8} (hz : z = 0) (hk : k = 2) : ansT k z h t d = readT k h d (nPc d) := by
  unfold ansT ansW readT; rw [if_neg (by omega), if_neg (by omega), if_pos hk]; simp [join_cons, joinTail]
theorem ansT_else {k z h t : Int} {d : List UInt8} (hz : z = 0) (hk : k ≠ 1 ∧ k ≠ 4 ∧ k ≠ 2) : ansT k z h t d = opWord k ++ 32 :: (itoa h ++ [32, 111, 107]) := by
  unfold ansT ansW; rw [if_neg (by omega), if_neg (by omega), if_neg (by omega)]; simp [join_cons, joinTail]
theorem opWord_none {k : Int} (h : wordL k = []) : opWord k = [111, 112] := if_pos h
theorem opWord_some {k : Int} (h : wordL k ≠ []) : opWord k = wordL k := if_neg h
end Go.Proofs.YtgagcbgbjkjghaaGreatDoor.Scr
namespace Go.Proofs.YtgagcbgbjkjghaaGreatDoor.Scr
open Go.RowKit Go.Lib

theorem bs_piece {w : World} {b off : Nat} {d : List UInt8} (hb : b < w.heap.size) (hc : ∀ j (h : j < d.length), w.cell? ⟨b, off + j, none⟩ = some (.int .u8 d[j].toNat)) (j : Nat) : Bs w (some ⟨b, off + 40 * j, none⟩) (piece d j) := by
  refine Or.inr ⟨b, off + 40 * j, rfl, hb, fun i hi => ?_⟩
  have hl := piece_length d j
  have h1 : 40 * j + i < d.length := by omega
  have h2 := hc (40 * j + i) h1
  rw [← Nat.add_assoc] at h2
  rw [h2]
  have e : (piece d j)[i]? = d[40 * j + i]? := by unfold piece; rw [List.getElem?_take_of_lt (by omega), List.getElem?_drop]
  rw [List.getElem?_eq_getElem hi, List.getElem?_eq_getElem h1] at e
  injection e with e
  rw [e]

end Go.Proofs.YtgagcbgbjkjghaaGreatDoor.Scr
