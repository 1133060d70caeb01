/- What the reference's reading of an op leaves in memory; what it reads. -/
import Derived.Test.YtfdkafmomkkapaaDoorE3
import Derived.Test.YtfdkafmomkkapaaDoorA5
import Derived.Test.YtfdkafmomkkapaaDoorA7
import Derived.Test.YtfdkafmomkkapaaDoorA8
import Derived.Test.YtfdkafmomkkapaaDoorB1
namespace Go.Proofs.YtfdkafmomkkapaaDoor
open Go.RowKit Go.Lib

/-- the puts that words are; the last word alone is left out. -/
def loopR : List (List UInt8) → List (Int × List UInt8) → Option (List (Int × List UInt8))
  | a :: b :: r, p => match numT a, unbytesT b with
    | some v, some d => loopR r (p ++ [(v, d)])
    | _, _ => none
  | _, p => some p

def headB (K : Int) : List (List UInt8) → Option Int
  | [] => some 0
  | x :: _ => if K = 1 then some 0 else numT x
def candB (K : Int) (rest : List (List UInt8)) : Option OpD :=
  match headB K rest with
  | none => none
  | some h =>
    if K = 2 then (match rest with
      | [_, y, z] => (match numT y, numT z with | some a, some n => some (2, h, a, n, []) | _, _ => none)
      | _ => some (2, h, 0, 0, []))
    else if K = 3 then (loopR rest.tail []).map fun l => (3, h, 0, 0, l)
    else if K = 0 then none
    else some (K, h, 0, 0, [])
/-- what the reference's Parse reads. -/
def parseB (s : List UInt8) : Option OpD :=
  match words s with
  | [] => none
  | f :: rest => match candB (kindI f + 1) rest with
    | some o => if textO o = s then some o else none
    | none => none

theorem parse_candB {s : List UInt8} {f : List UInt8} {rest : List (List UInt8)} (hw : words s = f :: rest) :
    parseB s = match candB (kindI f + 1) rest with | some o => if textO o = s then some o else none | none => none := by
  unfold parseB
  rw [hw]

theorem numT_bd {s : List UInt8} {v : Int} (h : numT s = some v) : -1099511627776 ≤ v ∧ v ≤ 1099511627776 ∧ Lib.itoa v = s := by
  unfold numT at h
  split at h
  · cases h
  · split at h
    · rename_i hc
      injection h with h
      subst h
      exact ⟨hc.2.1, hc.1, hc.2.2⟩
    · cases h

theorem kind_test {f : List UInt8} {K : Int} (h : kindI f + 1 = K) {m : Nat} (h1 : 1 ≤ m) (h5 : m ≤ 5) : (f == wordL m) = decide (K = m) := by
  have hk := kind_of (f := f) rfl
  have e : ∀ (i : Int), 1 ≤ i → i ≤ 5 → kindI (wordL i) = i - 1 := by
    intro i a b
    obtain rfl | rfl | rfl | rfl | rfl : i = 1 ∨ i = 2 ∨ i = 3 ∨ i = 4 ∨ i = 5 := by omega
    all_goals rfl
  by_cases hf : f = wordL m
  · have := e m (by omega) (by omega)
    rw [← hf] at this
    rw [beq_iff_eq.2 hf]
    symm
    rw [decide_eq_true_iff]
    omega
  · have : (f == wordL m) = false := by rw [beq_eq_false_iff_ne]; exact hf
    rw [this]
    symm
    rw [decide_eq_false_iff_not]
    intro hK
    apply hf
    subst hK
    have : m = 1 ∨ m = 2 ∨ m = 3 ∨ m = 4 ∨ m = 5 := by omega
    rcases this with rfl | rfl | rfl | rfl | rfl
    · exact hk.1 (by omega)
    · exact hk.2.1 (by omega)
    · exact hk.2.2.1 (by omega)
    · exact hk.2.2.2.1 (by omega)
    · exact hk.2.2.2.2.1 (by omega)

/-- where the reference's Parse stands: its result's block, the words' block, its op. -/
def RS (w0 w : World) (lb og : Nat) (L : List (List UInt8)) (k h a n : Int) (pv : Value) : Prop :=
  Below w0.heap.size w0 w ∧ w0.heap.size < lb ∧ lb < og ∧ (∀ j (h : j < L.length), w.cell? ⟨lb, j, none⟩ = some (.string ⟨L[j].toArray⟩)) ∧
  w.heap[w0.heap.size]? = some (.cells #[.int .i64 0, .int .i64 0, .int .i64 0, .int .i64 0, .slice none 0 0] 24 (0, 0)) ∧
  w.heap[og]? = some (.cells #[.int .i64 k, .int .i64 h, .int .i64 a, .int .i64 n, pv] 24 (0, 0)) ∧ ∃ p m c, pv = .slice p m c

theorem RS.below {w0 w w' : World} {lb og : Nat} {L : List (List UInt8)} {k h a n : Int} {pv : Value} (hS : RS w0 w lb og L k h a n pv) (hb : Below w.heap.size w w') : RS w0 w' lb og L k h a n pv := by
  obtain ⟨h1, h2, h3, h4, h5, h6, h7⟩ := hS
  exact ⟨below_step h1 (by have := (Array.getElem?_eq_some_iff.1 h5).1; omega) hb, h2, h3, fun j hj => below_keep hb (h4 j hj), below_heap hb h5, below_heap hb h6, h7⟩

theorem RS.low {w0 w w' : World} {lb og : Nat} {L : List (List UInt8)} {k h a n : Int} {pv : Value} (hS : RS w0 w lb og L k h a n pv) (hb : Below (og + 1) w w') : RS w0 w' lb og L k h a n pv := by
  obtain ⟨h1, h2, h3, h4, h5, h6, h7⟩ := hS
  exact ⟨h1.trans (hb.mono (by omega)), h2, h3, fun j hj => (hb.cell (by show lb < _; omega)).trans (h4 j hj), (hb.block _ (by omega)).trans h5, (hb.block _ (by omega)).trans h6, h7⟩

theorem RS.cells {w0 w : World} {lb og : Nat} {L : List (List UInt8)} {k h a n : Int} {pv : Value} (hS : RS w0 w lb og L k h a n pv) (i : Nat) (v : Value) {k' h' a' n' : Int} {pv' : Value}
    (he : (#[.int .i64 k, .int .i64 h, .int .i64 a, .int .i64 n, pv] : Array Value).set! i v = #[.int .i64 k', .int .i64 h', .int .i64 a', .int .i64 n', pv']) (hp' : ∃ p m c, pv' = .slice p m c) :
    RS w0 (w.setCell ⟨og, i, none⟩ v) lb og L k' h' a' n' pv' := by
  obtain ⟨h1, h2, h3, h4, h5, h6, h7⟩ := hS
  refine ⟨h1.setCell (by show _ ≤ og; omega) _, h2, h3, fun j hj => (grown_set w og i v).cell (h4 j hj) (by simp; omega), ?_, ?_, hp'⟩
  · rw [Below.heap_setCell _ _ _ _ (by show _ ≠ og; omega)]; exact h5
  · rw [Lib.heap_setCell_same h6, ← he, Array.set!_eq_setIfInBounds]

theorem own_words {w : World} {base n : Nat} {v : Value} {f : List UInt8} {rest : List (List UInt8)} (h : w.ownsRow base 9 1 v n (strCells (f :: rest))) :
    ∃ lb c, v = .slice (some ⟨lb, 0, none⟩) (rest.length + 1) c ∧ rest.length + 1 ≤ c ∧ base ≤ lb ∧ lb < w.heap.size ∧ ∀ j (h : j < (f :: rest).length), w.cell? ⟨lb, j, none⟩ = some (.string ⟨(f :: rest)[j].toArray⟩) := by
  have hn : n = rest.length + 1 := by have := h.1; simp [strCells] at this; omega
  subst hn
  rcases h.2 with ⟨_, h0⟩ | ⟨g, cap, cur, rfl, hg, hh, hc, _⟩
  · cases h0
  · refine ⟨g, cap, rfl, hc, hg, (Array.getElem?_eq_some_iff.1 hh).1, fun j hj => ?_⟩
    rw [h.cellAt j (by simpa using hj)]
    have e : ∀ (ws : List (List UInt8)) (j : Nat) (hj : j < ws.length), (strCells ws)[j]? = some (.string ⟨ws[j].toArray⟩) := by intro ws j hj; simp [strCells, hj]
    exact e _ j hj

theorem rs_start {w w1 : World} {lb : Nat} {L : List (List UInt8)} (hb : Below (w.alloc (.cells #[.int .i64 0, .int .i64 0, .int .i64 0, .int .i64 0, .slice none 0 0] 24)).heap.size (w.alloc (.cells #[.int .i64 0, .int .i64 0, .int .i64 0, .int .i64 0, .slice none 0 0] 24)) w1)
    (hL : lb < w1.heap.size ∧ ∀ j (h : j < L.length), w1.cell? ⟨lb, j, none⟩ = some (.string ⟨L[j].toArray⟩)) (hlb : (w.alloc (.cells #[.int .i64 0, .int .i64 0, .int .i64 0, .int .i64 0, .slice none 0 0] 24)).heap.size ≤ lb) :
    RS w (w1.alloc (.cells #[.int .i64 0, .int .i64 0, .int .i64 0, .int .i64 0, .slice none 0 0] 24)) lb w1.heap.size L 0 0 0 0 (.slice none 0 0) := by
  rw [sz_alloc] at hlb
  refine ⟨below_step (below_step (Below.of_alloc _ _) (Nat.le_refl _) hb) (by have := hb.size; rw [sz_alloc] at this; omega) (Below.of_alloc _ _), hlb, hL.1, fun j hj => below_keep (Below.of_alloc _ _) (hL.2 j hj), hp_old (below_heap hb (hp_new _ _)), hp_new _ _, _, _, _, rfl⟩

theorem rstep {w w8 w' : World} {lb og : Nat} {L : List (List UInt8)} {v n5 : Int} {puts : List (Int × List UInt8)} {pv : Value} {xs : List Value} {pa' : Option Addr} {c' g8 : Nat} {d : List UInt8} {pv' : Value}
    (hS : RS w w' lb og L 3 v 0 0 pv') (hown : w8.ownsRow (og + 1) 42 2 pv puts.length xs) (hPD : PD w8 (og + 1) puts xs)
    (hap : AppendedV (og + 1) 42 2 w8 pv (puts.length + 1) (xs ++ [.int .i64 n5, .slice (some ⟨g8, 0, none⟩) 40 40]) (.slice pa' (puts.length + 1) c') w')
    (hg : og + 1 ≤ g8) (hgb : w8.heap[g8]? = some (.cells (byteCells d).toArray 5 (0, 0))) (hd : d.length = 40) (h0 : -9223372036854775808 ≤ n5) (h1 : n5 ≤ 9223372036854775807) :
    RS w (w'.setCell ⟨og, 4, none⟩ (.slice pa' (puts.length + 1) c')) lb og L 3 v 0 0 (.slice pa' (puts.length + 1) c') ∧
    (w'.setCell ⟨og, 4, none⟩ (.slice pa' (puts.length + 1) c')).ownsRow (og + 1) 42 2 (.slice pa' (puts.length + 1) c') (puts ++ [(n5, d)]).length (xs ++ [.int .i64 n5, .slice (some ⟨g8, 0, none⟩) 40 40]) ∧
    PD (w'.setCell ⟨og, 4, none⟩ (.slice pa' (puts.length + 1) c')) (og + 1) (puts ++ [(n5, d)]) (xs ++ [.int .i64 n5, .slice (some ⟨g8, 0, none⟩) 40 40]) := by
  have hset := grown_set w' og 4 (.slice pa' (puts.length + 1) c')
  have hP7 := (hPD.own hown hap.2.2)
  have hne : some g8 ≠ pv.ownBlock := by
    intro e
    rcases hown.2 with ⟨rfl, _⟩ | ⟨g', cap, cur, rfl, _, hh, _⟩
    · cases e
    · obtain rfl : g8 = g' := by injection e
      rw [hgb] at hh
      injection hh with hh
      injection hh with e1 e2
      cases e2
  have hgb7 := (hap.2.2.block g8 (Array.getElem?_eq_some_iff.1 hgb).1 hne).trans hgb
  have hP8 := hP7.snoc (n := n5) (d := d) (g := g8) (by omega) hgb7 hd h0 h1
  refine ⟨hS.cells 4 _ rfl ⟨_, _, _, rfl⟩, ?_, hP8.low hset (by omega)⟩
  rw [List.length_append, List.length_singleton]
  exact own_other hap.1 hset (by omega)

theorem candB_few {x : List UInt8} {r : List (List UInt8)} {v : Int} (hv : numT x = some v) (h : r.length ≠ 2) : candB 2 (x :: r) = some (2, v, 0, 0, []) := by
  match r, h with
  | [], _ => simp [candB, headB, hv]
  | [_], _ => simp [candB, headB, hv]
  | [_, _], h => exact absurd rfl h
  | _ :: _ :: _ :: _, _ => simp [candB, headB, hv]

theorem num_word (x : List UInt8) (r : Option Int) (w : World) (hx : x.length ≤ 1000000) (h : numT x = r) : Calls Tryd.prog 47 #[.string ⟨x.toArray⟩] w (NumR w r) := by
  subst h
  exact num_any ⟨x.toArray⟩ w (by show x.toArray.size ≤ _; simpa using hx)
theorem unb_word (x : List UInt8) (r : Option (List UInt8)) (w : World) (h : unbytesT x = r) : Calls Tryd.prog 22 #[.string ⟨x.toArray⟩] w (UnB w r) := by
  subst h
  exact runbytes_any ⟨x.toArray⟩ w

theorem loopR_step {r : List (List UInt8)} {p : Nat} (h : p + 1 < r.length) (q : List (Int × List UInt8)) :
    loopR (r.drop p) q = match numT r[p], unbytesT r[p + 1] with | some v, some d => loopR (r.drop (p + 2)) (q ++ [(v, d)]) | _, _ => none := by
  rw [List.drop_eq_getElem_cons (by omega), List.drop_eq_getElem_cons h]
  rfl
theorem loopR_end {r : List (List UInt8)} {p : Nat} (h : ¬ p + 1 < r.length) (q : List (Int × List UInt8)) : loopR (r.drop p) q = some q := by
  have hl : (r.drop p).length ≤ 1 := by rw [List.length_drop]; omega
  match hd : r.drop p, hl with
  | [], _ => rfl
  | [_], _ => rfl

end Go.Proofs.YtfdkafmomkkapaaDoor
