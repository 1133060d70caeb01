/- Walks: what reading an op leaves in memory. -/
import Derived.Test.YtfdkafmomkkapaaDoorC3
import Derived.Test.YtfdkafmomkkapaaDoorD5
namespace Go.Proofs.YtfdkafmomkkapaaDoor
open Go.RowKit Go.Lib

/-- where Parse stands: its result's block, its reader, its op. -/
def St (w0 w : World) (ws : List (List UInt8)) (bad : Bool) (k h a n : Int) (pv : Value) : Prop :=
  Below w0.heap.size w0 w ∧ Rd w (w0.heap.size + 1 + 1) ws bad ∧
  w.heap[w0.heap.size]? = some (.cells #[.int .i64 0, .int .i64 0, .int .i64 0, .int .i64 0, .slice none 0 0] 24 (0, 0)) ∧
  w.heap[w0.heap.size + 1 + 1 + 1]? = some (.cells #[.int .i64 k, .int .i64 h, .int .i64 a, .int .i64 n, pv] 24 (0, 0)) ∧ ∃ p m c, pv = .slice p m c

theorem hp_new (w : World) (o : Obj) : (w.alloc o).heap[w.heap.size]? = some o := by rw [show (w.alloc o).heap = w.heap.push o from rfl]; simp
theorem hp_old {w : World} {o : Obj} {g : Nat} {x : Obj} (h : w.heap[g]? = some x) : (w.alloc o).heap[g]? = some x := below_heap (Below.of_alloc _ _) h
theorem sz_alloc (w : World) (o : Obj) : (w.alloc o).heap.size = w.heap.size + 1 := by simp

theorem Ss.ne2 {w : World} {b off g : Nat} {ws : List (List UInt8)} {C : Array Value} {t : TypeId} {rf : Nat × Nat} (hne : ws ≠ []) (hc : ∀ j (h : j < ws.length), w.cell? ⟨b, off + j, none⟩ = some (.string ⟨ws[j].toArray⟩))
    (hg : w.heap[g]? = some (.cells C t rf)) (hC : ∀ (i : Nat) (s : ByteArray), C[i]? ≠ some (Value.string s)) : b ≠ g := by
  rintro rfl
  have h0 := hc 0 (List.length_pos_iff.2 hne)
  rw [cell_of_row _ _ _ _ _ _ hg] at h0
  exact hC _ _ h0

/-- what Parse hands back. -/
def ParseR (w : World) (r : Option OpD) (e : Ending) (w' : World) : Prop :=
  Below w.heap.size w w' ∧ match r with
  | none => e = .returned (.tuple #[.agg #[.int .i64 0, .int .i64 0, .int .i64 0, .int .i64 0, .slice none 0 0], .int .i64 13])
  | some (k, h, a, n, l) => ∃ pa m c, e = .returned (.tuple #[.agg #[.int .i64 k, .int .i64 h, .int .i64 a, .int .i64 n, .slice pa m c], .int .i64 0]) ∧ l.length = m ∧ m ≤ c ∧ Ps w' pa l

theorem St.below {w0 w w' : World} {ws : List (List UInt8)} {bad : Bool} {k h a n : Int} {pv : Value} (hS : St w0 w ws bad k h a n pv) (hb : Below w.heap.size w w') : St w0 w' ws bad k h a n pv := by
  obtain ⟨h1, h2, h3, h4, h5⟩ := hS
  exact ⟨below_step h1 (by have := (Array.getElem?_eq_some_iff.1 h3).1; omega) hb, h2.keep hb, below_heap hb h3, below_heap hb h4, h5⟩

theorem St.next {w0 w w' : World} {ws : List (List UInt8)} {bad bad' : Bool} {k h a n : Int} {pv : Value} (ws' : List (List UInt8)) (hS : St w0 w ws bad k h a n pv) (hg : w.grownBy w' (some (w0.heap.size + 1 + 1))) (hR : Rd w' (w0.heap.size + 1 + 1) ws' bad') : St w0 w' ws' bad' k h a n pv := by
  obtain ⟨h1, h2, h3, h4, h5⟩ := hS
  have s3 := (Array.getElem?_eq_some_iff.1 h3).1
  have s4 := (Array.getElem?_eq_some_iff.1 h4).1
  refine ⟨h1.trans (grown_below hg (by omega) (by omega)), hR, ?_, ?_, h5⟩
  · exact (hg.block _ s3 (by simp; omega)).trans h3
  · exact (hg.block _ s4 (by simp)).trans h4

theorem St.cells {w0 w : World} {ws : List (List UInt8)} {bad : Bool} {k h a n : Int} {pv : Value} (hS : St w0 w ws bad k h a n pv) (i : Nat) (v : Value) {k' h' a' n' : Int} {pv' : Value}
    (he : (#[.int .i64 k, .int .i64 h, .int .i64 a, .int .i64 n, pv] : Array Value).set! i v = #[.int .i64 k', .int .i64 h', .int .i64 a', .int .i64 n', pv']) (hp' : ∃ p m c, pv' = .slice p m c) :
    St w0 (w.setCell ⟨w0.heap.size + 1 + 1 + 1, i, none⟩ v) ws bad k' h' a' n' pv' := by
  obtain ⟨h1, ⟨a0, c, hg, hss, hc, hlo⟩, h3, h4, p, m, c5, rfl⟩ := hS
  refine ⟨h1.setCell (by show _ ≤ w0.heap.size + 1 + 1 + 1; omega) _, ⟨a0, c, ?_, ?_, hc, hlo⟩, ?_, ?_, hp'⟩
  · rw [Below.heap_setCell _ _ _ _ (by show _ ≠ w0.heap.size + 1 + 1 + 1; omega)]; exact hg
  · refine hss.grown (grown_set w _ i v) fun b off ha hne => ?_
    have := hlo hne b off ha
    omega
  · rw [Below.heap_setCell _ _ _ _ (by show _ ≠ w0.heap.size + 1 + 1 + 1; omega)]; exact h3
  · rw [Lib.heap_setCell_same h4, ← he, Array.set!_eq_setIfInBounds]

theorem row_five {w : World} {g : Nat} {v0 v1 v2 v3 v4 : Value} (h : w.heap[g]? = some (.cells #[v0, v1, v2, v3, v4] 24 (0, 0))) :
    (w.cell? ⟨g, 0, none⟩ = some v0 ∧ w.cell? ⟨g, 1, none⟩ = some v1 ∧ w.cell? ⟨g, 2, none⟩ = some v2 ∧ w.cell? ⟨g, 3, none⟩ = some v3 ∧ w.cell? ⟨g, 4, none⟩ = some v4) ∧
    (∀ i, w.frozen? ⟨g, i, none⟩ = false) := by
  refine ⟨⟨?_, ?_, ?_, ?_, ?_⟩, fun i => frozen_of_row _ _ _ _ _ h⟩ <;> rw [cell_of_row _ _ _ _ _ _ h] <;> rfl

theorem st_start (w : World) (L : List (List UInt8)) : St w ((((w.alloc (.cells #[.int .i64 0, .int .i64 0, .int .i64 0, .int .i64 0, .slice none 0 0] 24)).alloc (.cells (strCells L).toArray 9)).alloc
    (.cells #[.slice (some ⟨w.heap.size + 1, 0, none⟩) L.length L.length, .bool false] 71)).alloc (.cells #[.int .i64 0, .int .i64 0, .int .i64 0, .int .i64 0, .slice none 0 0] 24)) L false 0 0 0 0 (.slice none 0 0) := by
  have hc : ∀ (b : World) (j : Nat) (hj : j < L.length), b.heap[w.heap.size + 1]? = some (.cells (strCells L).toArray 9 (0, 0)) → b.cell? ⟨w.heap.size + 1, 0 + j, none⟩ = some (.string ⟨L[j].toArray⟩) := by
    intro b j hj hb
    rw [cell_of_row _ _ _ _ _ _ hb]
    simp [strCells, hj]
  unfold St
  generalize (.cells #[.int .i64 0, .int .i64 0, .int .i64 0, .int .i64 0, .slice none 0 0] 24 : Obj) = o1 at *
  have h1 := hp_new w o1
  have s1 := sz_alloc w o1
  have b1 := Below.of_alloc w o1
  generalize w.alloc o1 = w1 at *
  have h2 := hp_new w1 (.cells (strCells L).toArray 9)
  have b2 := b1.alloc (by omega) (.cells (strCells L).toArray 9)
  have s2 := sz_alloc w1 (.cells (strCells L).toArray 9)
  have h12 := hp_old (o := .cells (strCells L).toArray 9) h1
  generalize w1.alloc (.cells (strCells L).toArray 9) = w2 at *
  rw [s1] at h2 s2
  have h3 := hp_new w2 (.cells #[.slice (some ⟨w.heap.size + 1, 0, none⟩) L.length L.length, .bool false] 71)
  have b3 := b2.alloc (by omega) (.cells #[.slice (some ⟨w.heap.size + 1, 0, none⟩) L.length L.length, .bool false] 71)
  have s3 := sz_alloc w2 (.cells #[.slice (some ⟨w.heap.size + 1, 0, none⟩) L.length L.length, .bool false] 71)
  have h13 := hp_old (o := .cells #[.slice (some ⟨w.heap.size + 1, 0, none⟩) L.length L.length, .bool false] 71) h12
  have h23 := hp_old (o := .cells #[.slice (some ⟨w.heap.size + 1, 0, none⟩) L.length L.length, .bool false] 71) h2
  generalize w2.alloc (.cells #[.slice (some ⟨w.heap.size + 1, 0, none⟩) L.length L.length, .bool false] 71) = w3 at *
  rw [s2] at h3 s3
  have h4 := hp_new w3 o1
  have b4 := b3.alloc (by omega) o1
  have h14 := hp_old (o := o1) h13
  have h24 := hp_old (o := o1) h23
  have h34 := hp_old (o := o1) h3
  rw [s3] at h4
  refine ⟨b4, ⟨some ⟨w.heap.size + 1, 0, none⟩, L.length, h34, Or.inr ⟨_, 0, rfl, ?_, fun j hj => hc _ j hj h24⟩, Nat.le_refl _, fun _ b off e => by injection e with e; injection e; omega⟩, h14, h4, _, _, _, rfl⟩
  exact (Array.getElem?_eq_some_iff.1 h24).1

theorem parseR_none {w w' : World} {e : Ending} {r : Option OpD} (hr : r = none) (hb : Below w.heap.size w w') (he : e = .returned (.tuple #[.agg #[.int .i64 0, .int .i64 0, .int .i64 0, .int .i64 0, .slice none 0 0], .int .i64 13])) : ParseR w r e w' := by
  subst hr; exact ⟨hb, he⟩
theorem parseR_some {w w' : World} {e : Ending} {r : Option OpD} {k h a n : Int} {l : List (Int × List UInt8)} {pa : Option Addr} {m c : Nat} (hr : r = some (k, h, a, n, l)) (hb : Below w.heap.size w w')
    (he : e = .returned (.tuple #[.agg #[.int .i64 k, .int .i64 h, .int .i64 a, .int .i64 n, .slice pa m c], .int .i64 0])) (hm : l.length = m) (hc : m ≤ c) (hP : Ps w' pa l) : ParseR w r e w' := by
  subst hr; exact ⟨hb, pa, m, c, he, hm, hc, hP⟩

theorem St.low {w0 w w' : World} {ws : List (List UInt8)} {bad : Bool} {k h a n : Int} {pv : Value} (hS : St w0 w ws bad k h a n pv) (hb : Below (w0.heap.size + 1 + 1 + 1 + 1) w w') : St w0 w' ws bad k h a n pv := by
  obtain ⟨h1, ⟨a0, c, hg, hss, hc, hlo⟩, h3, h4, h5⟩ := hS
  refine ⟨h1.trans (hb.mono (by omega)), ⟨a0, c, (hb.block _ (by omega)).trans hg, ?_, hc, hlo⟩, (hb.block _ (by omega)).trans h3, (hb.block _ (by omega)).trans h4, h5⟩
  rcases hss with h0 | ⟨b, off, ha, hlt, hcc⟩
  · exact Or.inl h0
  · by_cases hne : ws = []
    · exact Or.inl hne
    · exact Or.inr ⟨b, off, ha, Nat.lt_of_lt_of_le hlt hb.size, fun j hj => (hb.cell (by have := hlo hne b off ha; show b < _; omega)).trans (hcc j hj)⟩

theorem St.bad {w0 w : World} {ws : List (List UInt8)} {bad : Bool} {k h a n : Int} {pv : Value} (hS : St w0 w ws bad k h a n pv) (b : Bool) : St w0 (w.setCell ⟨w0.heap.size + 1 + 1, 1, none⟩ (.bool b)) ws b k h a n pv :=
  hS.next ws (grown_set w _ 1 _) (hS.2.1.set b)

/-- five cells of a block are set. -/
def set5 (w : World) (g : Nat) (v0 v1 v2 v3 v4 : Value) : World := ((((w.setCell ⟨g, 0, none⟩ v0).setCell ⟨g, 1, none⟩ v1).setCell ⟨g, 2, none⟩ v2).setCell ⟨g, 3, none⟩ v3).setCell ⟨g, 4, none⟩ v4
theorem set5_grown (w : World) (g : Nat) (v0 v1 v2 v3 v4 : Value) : w.grownBy (set5 w g v0 v1 v2 v3 v4) (some g) :=
  grownBy_trans (grown_set _ _ _ _) (grownBy_trans (grown_set _ _ _ _) (grownBy_trans (grown_set _ _ _ _) (grownBy_trans (grown_set _ _ _ _) (grown_set _ _ _ _))))
theorem set5_row {w : World} {g : Nat} {u0 u1 u2 u3 u4 : Value} (h : w.heap[g]? = some (.cells #[u0, u1, u2, u3, u4] 24 (0, 0))) (v0 v1 v2 v3 v4 : Value) : (set5 w g v0 v1 v2 v3 v4).heap[g]? = some (.cells #[v0, v1, v2, v3, v4] 24 (0, 0)) := by
  unfold set5
  rw [Lib.heap_setCell_same (Lib.heap_setCell_same (Lib.heap_setCell_same (Lib.heap_setCell_same (Lib.heap_setCell_same h _) _) _) _) _]
  rfl

/-- the cells of puts, where their bytes lie from block B on. -/
def PD (w : World) (B : Nat) (l : List (Int × List UInt8)) (xs : List Value) : Prop :=
  xs.length = l.length * 2 ∧ ∀ j (h : j < l.length), ∃ g, xs[j * 2]? = some (.int .i64 l[j].1) ∧ xs[j * 2 + 1]? = some (.slice (some ⟨g, 0, none⟩) 40 40) ∧ B ≤ g ∧
    w.heap[g]? = some (.cells (byteCells l[j].2).toArray 5 (0, 0)) ∧ l[j].2.length = 40 ∧ -9223372036854775808 ≤ l[j].1 ∧ l[j].1 ≤ 9223372036854775807

theorem PD.grown {w w' : World} {B : Nat} {l : List (Int × List UInt8)} {xs : List Value} {row : Option Nat} (h : PD w B l xs) (hg : w.grownBy w' row) (hr : ∀ g C fr, row = some g → B ≤ g → w.heap[g]? ≠ some (.cells C 5 fr)) : PD w' B l xs := by
  refine ⟨h.1, fun j hj => ?_⟩
  obtain ⟨g, h1, h2, h3, h4, h5⟩ := h.2 j hj
  refine ⟨g, h1, h2, h3, (hg.block g (Array.getElem?_eq_some_iff.1 h4).1 ?_).trans h4, h5⟩
  intro e
  exact hr g _ _ e.symm h3 h4

theorem PD.low {w w' : World} {B x : Nat} {l : List (Int × List UInt8)} {xs : List Value} (h : PD w B l xs) (hg : w.grownBy w' (some x)) (hx : x < B) : PD w' B l xs :=
  h.grown hg fun g C fr e hB => by injection e; omega

theorem PD.keep {w w' : World} {B : Nat} {l : List (Int × List UInt8)} {xs : List Value} (h : PD w B l xs) (hb : Below w.heap.size w w') : PD w' B l xs :=
  h.grown (below_grownBy hb none) fun g C fr e hB => by cases e

theorem PD.own {w w' : World} {B n : Nat} {l : List (Int × List UInt8)} {xs ys : List Value} {v : Value} (h : PD w B l xs) (ho : w.ownsRow B 42 2 v n ys) (hg : w.grownBy w' v.ownBlock) : PD w' B l xs :=
  h.grown hg fun g C fr e hB => by
    rcases ho.2 with ⟨rfl, _⟩ | ⟨g', cap, cur, rfl, _, hh, _⟩
    · cases e
    · obtain rfl : g' = g := by injection e
      rw [hh]
      intro e
      injection e with e
      injection e with e1 e2
      cases e2

theorem PD.snoc {w : World} {B : Nat} {l : List (Int × List UInt8)} {xs : List Value} (h : PD w B l xs) {n : Int} {d : List UInt8} {g : Nat} (hB : B ≤ g) (hg : w.heap[g]? = some (.cells (byteCells d).toArray 5 (0, 0))) (hd : d.length = 40)
    (h0 : -9223372036854775808 ≤ n) (h1 : n ≤ 9223372036854775807) : PD w B (l ++ [(n, d)]) (xs ++ [.int .i64 n, .slice (some ⟨g, 0, none⟩) 40 40]) := by
  refine ⟨by simp [h.1]; omega, fun j hj => ?_⟩
  rw [List.length_append, List.length_singleton] at hj
  rcases Nat.lt_or_ge j l.length with hlt | hge
  · obtain ⟨g', a1, a2, a3, a4, a5⟩ := h.2 j hlt
    refine ⟨g', ?_, ?_, a3, ?_⟩
    · rw [List.getElem?_append_left (by rw [h.1]; omega), List.getElem_append_left hlt]; exact a1
    · rw [List.getElem?_append_left (by rw [h.1]; omega)]; exact a2
    · rw [List.getElem_append_left hlt]; exact ⟨a4, a5⟩
  · obtain rfl : j = l.length := by omega
    refine ⟨g, ?_, ?_, hB, ?_⟩
    · rw [List.getElem?_append_right (by rw [h.1]; omega), h.1]; simp
    · rw [List.getElem?_append_right (by rw [h.1]; omega), h.1, show l.length * 2 + 1 - l.length * 2 = 1 by omega]; rfl
    · simp only [List.getElem_concat_length]; exact ⟨hg, hd, h0, h1⟩

theorem PD.ps {w : World} {B n : Nat} {l : List (Int × List UInt8)} {xs : List Value} {v : Value} (h : PD w B l xs) (ho : w.ownsRow B 42 2 v n xs) : ∃ pa c, v = .slice pa n c ∧ n ≤ c ∧ l.length = n ∧ Ps w pa l := by
  have hn : l.length = n := by have := ho.1; have := h.1; omega
  rcases ho.2 with ⟨rfl, rfl⟩ | ⟨g', cap, cur, rfl, _, hh, hc, _⟩
  · exact ⟨none, 0, rfl, Nat.le_refl _, hn, Or.inl (List.eq_nil_of_length_eq_zero hn)⟩
  · refine ⟨_, cap, rfl, hc, hn, Or.inr ⟨g', 0, rfl, fun j hj => ?_⟩⟩
    obtain ⟨g, a1, a2, a3, a4, a5, a6, a7⟩ := h.2 j hj
    refine ⟨?_, a6, a7, some ⟨g, 0, none⟩, 40, ?_, by omega, by rw [a5]; decide, ?_⟩
    · rw [ho.cellAt _ (by omega), Nat.zero_add]; exact a1
    · rw [ho.cellAt _ (by omega), Nat.zero_add, a5]; exact a2
    · exact Or.inr ⟨g, 0, rfl, (Array.getElem?_eq_some_iff.1 a4).1, fun i hi => by rw [cell_of_row _ _ _ _ _ _ a4]; simp [byteCells, hi]⟩

end Go.Proofs.YtfdkafmomkkapaaDoor
