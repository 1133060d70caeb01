/- Lemmas and walks. -/
import Derived.Deep.CutBlock
import Derived.Test.YtelakcjbknbehaaGreatEe
import Derived.Test.YtelakcjbknbehaaGreatEf
import Derived.Test.YtelakcjbknbehaaGreatEg
import Derived.Test.YtelakcjbknbehaaGreatEi
namespace Go.Proofs.YtelakcjbknbehaaGreat
open Go.RowKit Go.Lib

def bufA (b : Int) (d : List UInt8) : Bool → List (Int × List UInt8) → List (Int × List UInt8)
 | true, [] => []
 | false, [] => [(b, d)]
 | true, p :: l => (if p.1 = b then [] else [p]) ++ bufA b d true l
 | false, p :: l => if b ≤ p.1 then (b, d) :: ((if p.1 = b then [] else [p]) ++ bufA b d true l) else p :: bufA b d false l
def bufPut (l : List (Int × List UInt8)) (b : Int) (d : List UInt8) : List (Int × List UInt8) := bufA b d false l
theorem bufG_nil (b : Int) : bufG [] b = none := rfl
theorem bufG_cons (p : Int × List UInt8) (l : List (Int × List UInt8)) (b : Int) : bufG (p :: l) b = if p.1 = b then some p.2 else bufG l b := by
 unfold bufG
 rw [List.find?_cons]
 by_cases h : p.1 = b <;> simp [h]
theorem bufA_true (b : Int) (d : List UInt8) (c : Int) (hc : c ≠ b) : ∀ l, bufG (bufA b d true l) c = bufG l c
 | [] => rfl
 | p :: l => by
  unfold bufA
  by_cases h : p.1 = b
  ·rw [if_pos h, List.nil_append, bufA_true b d c hc l, bufG_cons, if_neg (by omega)]
  ·rw [if_neg h, List.cons_append, List.nil_append, bufG_cons, bufG_cons, bufA_true b d c hc l]
theorem bufG_put (b : Int) (d : List UInt8) (c : Int) : ∀ l, bufG (bufPut l b d) c = if c = b then some d else bufG l c
 | [] => by
  show bufG [(b, d)] c = _
  rw [bufG_cons]
  by_cases h : c = b
  ·rw [if_pos h.symm, if_pos h]
  ·rw [if_neg (Ne.symm h), if_neg h]
 | p :: l => by
  have ih := bufG_put b d c l
  unfold bufPut at ih ⊢
  unfold bufA
  by_cases h1 : b ≤ p.1
  ·rw [if_pos h1, bufG_cons]
   by_cases h : c = b
   ·rw [if_pos h.symm, if_pos h]
   ·rw [if_neg (Ne.symm h), if_neg h]
    exact (bufA_true b d c h (p :: l))
  ·rw [if_neg h1, bufG_cons, ih, bufG_cons]
   by_cases h : c = b
   ·rw [if_neg (by omega), if_pos h, if_pos h]
   ·rw [if_neg h, if_neg h]
theorem bufA_len (b : Int) (d : List UInt8) : ∀ k l, (bufA b d k l).length ≤ l.length + (if k then 0 else 1)
 | true, [] => by simp [bufA]
 | false, [] => by simp [bufA]
 | true, p :: l => by
  have := bufA_len b d true l
  unfold bufA
  by_cases h : p.1 = b <;> simp [h] at * <;> omega
 | false, p :: l => by
  have h1 := bufA_len b d true l
  have h2 := bufA_len b d false l
  unfold bufA
  by_cases h : b ≤ p.1
  ·rw [if_pos h]
   by_cases h' : p.1 = b <;> simp [h'] at * <;> omega
  ·rw [if_neg h]
   simp at *
   omega
def RiseL (l : List (Int × List UInt8)) : Prop := l.Pairwise fun p q => p.1 < q.1
theorem bufA_mem (b : Int) (d : List UInt8) : ∀ k l, ∀ x ∈ bufA b d k l, x ∈ l ∨ x = (b, d)
 | true, [], x, hx => by cases hx
 | false, [], x, hx => by right; simpa [bufA] using hx
 | true, p :: l, x, hx => by
  unfold bufA at hx
  rcases List.mem_append.1 hx with h | h
  ·by_cases e : p.1 = b
   ·rw [if_pos e] at h; cases h
   ·rw [if_neg e] at h; left; rw [List.mem_singleton] at h; rw [h]; exact List.mem_cons_self
  ·rcases bufA_mem b d true l x h with h | h
   ·exact Or.inl (List.mem_cons_of_mem _ h)
   ·exact Or.inr h
 | false, p :: l, x, hx => by
  unfold bufA at hx
  by_cases h1 : b ≤ p.1
  ·rw [if_pos h1] at hx
   rcases List.mem_cons.1 hx with h | h
   ·exact Or.inr h
   ·rcases List.mem_append.1 h with h | h
    ·by_cases e : p.1 = b
     ·rw [if_pos e] at h; cases h
     ·rw [if_neg e] at h; left; rw [List.mem_singleton] at h; rw [h]; exact List.mem_cons_self
    ·rcases bufA_mem b d true l x h with h | h
     ·exact Or.inl (List.mem_cons_of_mem _ h)
     ·exact Or.inr h
  ·rw [if_neg h1] at hx
   rcases List.mem_cons.1 hx with h | h
   ·left; rw [h]; exact List.mem_cons_self
   ·rcases bufA_mem b d false l x h with h | h
    ·exact Or.inl (List.mem_cons_of_mem _ h)
    ·exact Or.inr h
theorem bufA_rise (b : Int) (d : List UInt8) : ∀ k l, RiseL l → RiseL (bufA b d k l) ∧ (k = true → ∀ x ∈ bufA b d k l, x ∈ l)
 | true, [], h => ⟨List.Pairwise.nil, fun _ x hx => by cases hx⟩
 | false, [], h => ⟨List.pairwise_singleton _ _, fun e => by cases e⟩
 | true, p :: l, h => by
  have hc := List.pairwise_cons.1 h
  obtain ⟨i1, i2⟩ := bufA_rise b d true l hc.2
  unfold bufA
  by_cases e : p.1 = b
  ·rw [if_pos e, List.nil_append]
   exact ⟨i1, fun _ x hx => List.mem_cons_of_mem _ (i2 rfl x hx)⟩
  ·rw [if_neg e]
   refine ⟨List.pairwise_cons.2 ⟨fun x hx => hc.1 x (i2 rfl x hx), i1⟩, fun _ x hx => ?_⟩
   rcases List.mem_cons.1 hx with h | h
   ·rw [h]; exact List.mem_cons_self
   ·exact List.mem_cons_of_mem _ (i2 rfl x h)
 | false, p :: l, h => by
  have hc := List.pairwise_cons.1 h
  obtain ⟨i1, i2⟩ := bufA_rise b d true l hc.2
  obtain ⟨j1, -⟩ := bufA_rise b d false l hc.2
  refine ⟨?_, fun e => by cases e⟩
  unfold bufA
  by_cases h1 : b ≤ p.1
  ·rw [if_pos h1]
   by_cases e : p.1 = b
   ·rw [if_pos e, List.nil_append]
    exact List.pairwise_cons.2 ⟨fun x hx => by have := hc.1 x (i2 rfl x hx); show b < x.1; omega, i1⟩
   ·rw [if_neg e]
    refine List.pairwise_cons.2 ⟨fun x hx => ?_, List.pairwise_cons.2 ⟨fun x hx => hc.1 x (i2 rfl x hx), i1⟩⟩
    rcases List.mem_cons.1 hx with hx | hx
    ·rw [hx]; show b < p.1; omega
    ·have := hc.1 x (i2 rfl x hx); show b < x.1; omega
  ·rw [if_neg h1]
   refine List.pairwise_cons.2 ⟨fun x hx => ?_, j1⟩
   rcases bufA_mem b d false l x hx with hx | hx
   ·exact hc.1 x hx
   ·rw [hx]; show p.1 < b; omega
def mergeR (t : Int) : List (Int × Int × List UInt8) → List (Int × List UInt8) → List (Int × Int × List UInt8)
 | [], ps => ps.map fun p => (p.1, t, p.2)
 | v :: L, ps => ((ps.takeWhile fun p => decide (p.1 < v.1)).map fun p => (p.1, t, p.2)) ++ v :: mergeR t L (ps.dropWhile fun p => decide (p.1 < v.1))
theorem mergeR_nil (t : Int) (p : Int × List UInt8) (ps : List (Int × List UInt8)) : mergeR t [] (p :: ps) = (p.1, t, p.2) :: mergeR t [] ps := rfl
theorem mergeR_lt (t : Int) {v : Int × Int × List UInt8} {L : List (Int × Int × List UInt8)} {p : Int × List UInt8} {ps : List (Int × List UInt8)} (h : p.1 < v.1) : mergeR t (v :: L) (p :: ps) = (p.1, t, p.2) :: mergeR t (v :: L) ps := by
 unfold mergeR
 rw [List.takeWhile_cons_of_pos (by simpa using h), List.dropWhile_cons_of_pos (by simpa using h)]
 rfl
theorem mergeR_ge (t : Int) {v : Int × Int × List UInt8} {L : List (Int × Int × List UInt8)} {p : Int × List UInt8} {ps : List (Int × List UInt8)} (h : ¬ p.1 < v.1) : mergeR t (v :: L) (p :: ps) = v :: mergeR t L (p :: ps) := by
 rw [mergeR, List.takeWhile_cons_of_neg (by simpa using h), List.dropWhile_cons_of_neg (by simpa using h)]
 rfl
theorem mergeR_end (t : Int) {v : Int × Int × List UInt8} {L : List (Int × Int × List UInt8)} : mergeR t (v :: L) [] = v :: mergeR t L [] := rfl
theorem mergeR_len (t : Int) : ∀ L ps, (mergeR t L ps).length = L.length + ps.length
 | [], ps => by simp [mergeR]
 | v :: L, [] => by rw [mergeR_end, List.length_cons, mergeR_len t L []]; simp
 | v :: L, p :: ps => by
  by_cases h : p.1 < v.1
  ·rw [mergeR_lt t h, List.length_cons, mergeR_len t (v :: L) ps]; simp; omega
  ·rw [mergeR_ge t h, List.length_cons, mergeR_len t L (p :: ps)]; simp; omega
theorem mergeR_mem (t : Int) : ∀ L ps x, x ∈ mergeR t L ps → x ∈ L ∨ ∃ p ∈ ps, x = (p.1, t, p.2)
 | [], ps, x, hx => by
  obtain ⟨p, hp, e⟩ := List.mem_map.1 hx
  exact Or.inr ⟨p, hp, e.symm⟩
 | v :: L, [], x, hx => by
  rw [mergeR_end] at hx
  rcases List.mem_cons.1 hx with h | h
  ·exact Or.inl (by rw [h]; exact List.mem_cons_self)
  ·rcases mergeR_mem t L [] x h with h | ⟨p, hp, -⟩
   ·exact Or.inl (List.mem_cons_of_mem _ h)
   ·cases hp
 | v :: L, p :: ps, x, hx => by
  by_cases h : p.1 < v.1
  ·rw [mergeR_lt t h] at hx
   rcases List.mem_cons.1 hx with h | h
   ·exact Or.inr ⟨p, List.mem_cons_self, h⟩
   ·rcases mergeR_mem t (v :: L) ps x h with h | ⟨q, hq, e⟩
    ·exact Or.inl h
    ·exact Or.inr ⟨q, List.mem_cons_of_mem _ hq, e⟩
  ·rw [mergeR_ge t h] at hx
   rcases List.mem_cons.1 hx with h | h
   ·exact Or.inl (by rw [h]; exact List.mem_cons_self)
   ·rcases mergeR_mem t L (p :: ps) x h with h | h
    ·exact Or.inl (List.mem_cons_of_mem _ h)
    ·exact Or.inr h
def SortV (L : List (Int × Int × List UInt8)) : Prop := L.Pairwise fun p q => p.1 ≤ q.1
theorem mergeR_sort (t : Int) : ∀ L ps, SortV L → RiseL ps → SortV (mergeR t L ps)
 | [], ps, _, h => by
  unfold SortV mergeR
  rw [List.pairwise_map]
  exact h.imp (fun h => by show _ ≤ _; exact Int.le_of_lt h)
 | v :: L, [], h, _ => by
  have hc := List.pairwise_cons.1 h
  rw [mergeR_end]
  refine List.pairwise_cons.2 ⟨fun x hx => ?_, mergeR_sort t L [] hc.2 List.Pairwise.nil⟩
  rcases mergeR_mem t L [] x hx with h | ⟨p, hp, -⟩
  ·exact hc.1 x h
  ·cases hp
 | v :: L, p :: ps, h, hp => by
  have hc := List.pairwise_cons.1 h
  have hq := List.pairwise_cons.1 hp
  by_cases hl : p.1 < v.1
  ·rw [mergeR_lt t hl]
   refine List.pairwise_cons.2 ⟨fun x hx => ?_, mergeR_sort t (v :: L) ps h hq.2⟩
   show p.1 ≤ x.1
   rcases mergeR_mem t (v :: L) ps x hx with h | ⟨q, hq', e⟩
   ·rcases List.mem_cons.1 h with h | h
    ·rw [h]; omega
    ·have := hc.1 x h; omega
   ·rw [e]; have := hq.1 q hq'; show p.1 ≤ q.1; omega
  ·rw [mergeR_ge t hl]
   refine List.pairwise_cons.2 ⟨fun x hx => ?_, mergeR_sort t L (p :: ps) hc.2 hp⟩
   rcases mergeR_mem t L (p :: ps) x hx with h | ⟨q, hq', e⟩
   ·exact hc.1 x h
   ·rw [e]
    show v.1 ≤ q.1
    rcases List.mem_cons.1 hq' with h | h
    ·rw [h]; omega
    ·have := hq.1 q h; omega
def verF (b at_ : Int) (r : List UInt8 × Int) (x : Int × Int × List UInt8) : List UInt8 × Int := if x.1 = b ∧ x.2.1 ≤ at_ then (x.2.2, x.2.1) else r
theorem verF_none (b at_ : Int) : ∀ (l : List (Int × Int × List UInt8)) (r : List UInt8 × Int), (∀ x ∈ l, ¬ (x.1 = b ∧ x.2.1 ≤ at_)) → l.foldl (verF b at_) r = r
 | [], r, _ => rfl
 | x :: l, r, h => by
  rw [List.foldl_cons, show verF b at_ r x = r from if_neg (h x List.mem_cons_self)]
  exact verF_none b at_ l r (fun y hy => h y (List.mem_cons_of_mem _ hy))
theorem mergeR_other (t b at_ : Int) : ∀ (L : List (Int × Int × List UInt8)) (ps : List (Int × List UInt8)) (r : List UInt8 × Int), (∀ p ∈ ps, ¬ (p.1 = b ∧ t ≤ at_)) → (mergeR t L ps).foldl (verF b at_) r = L.foldl (verF b at_) r
 | [], ps, r, h => verF_none b at_ _ r (fun x hx => by
   obtain ⟨p, hp, e⟩ := List.mem_map.1 hx
   rw [← e]
   exact h p hp)
 | v :: L, [], r, h => by
  rw [mergeR_end, List.foldl_cons, List.foldl_cons, mergeR_other t b at_ L [] _ h]
 | v :: L, p :: ps, r, h => by
  by_cases hl : p.1 < v.1
  ·rw [mergeR_lt t hl, List.foldl_cons, show verF b at_ r (p.1, t, p.2) = r from if_neg (h p List.mem_cons_self)]
   exact mergeR_other t b at_ (v :: L) ps r (fun q hq => h q (List.mem_cons_of_mem _ hq))
  ·rw [mergeR_ge t hl, List.foldl_cons, List.foldl_cons, mergeR_other t b at_ L (p :: ps) _ h]
theorem mergeR_this (t at_ : Int) (ht : t ≤ at_) {b : Int} {d : List UInt8} : ∀ (L : List (Int × Int × List UInt8)) (ps : List (Int × List UInt8)) (r : List UInt8 × Int), SortV L → RiseL ps → (b, d) ∈ ps → (mergeR t L ps).foldl (verF b at_) r = (d, t)
 | L, [], r, _, _, h => by cases h
 | [], p :: ps, r, hL, hp, h => by
  have hq := List.pairwise_cons.1 hp
  rw [mergeR_nil, List.foldl_cons]
  rcases List.mem_cons.1 h with e | e
  ·subst e
   rw [show verF b at_ r (b, t, d) = (d, t) from if_pos ⟨rfl, ht⟩]
   refine verF_none b at_ _ _ (fun x hx hh => ?_)
   obtain ⟨q, hq', e⟩ := List.mem_map.1 hx
   have h1 := hq.1 q hq'
   have h2 := hh.1
   rw [← e] at h2
   have h3 : q.1 = b := h2
   have h4 : b < q.1 := h1
   omega
  ·exact mergeR_this t at_ ht [] ps _ hL hq.2 e
 | v :: L, p :: ps, r, hL, hp, h => by
  have hq := List.pairwise_cons.1 hp
  have hc := List.pairwise_cons.1 hL
  by_cases hl : p.1 < v.1
  ·rw [mergeR_lt t hl, List.foldl_cons]
   rcases List.mem_cons.1 h with e | e
   ·subst e
    rw [show verF b at_ r (b, t, d) = (d, t) from if_pos ⟨rfl, ht⟩]
    refine verF_none b at_ _ _ (fun x hx hh => ?_)
    have hl' : b < v.1 := hl
    rcases mergeR_mem t (v :: L) ps x hx with h | ⟨q, hq', e⟩
    ·rcases List.mem_cons.1 h with h | h
     ·rw [h] at hh; have := hh.1; omega
     ·have := hc.1 x h; have := hh.1; omega
    ·have h1 := hq.1 q hq'
     have h2 := hh.1
     rw [e] at h2
     have h3 : q.1 = b := h2
     have h4 : b < q.1 := h1
     omega
   ·exact mergeR_this t at_ ht (v :: L) ps _ hL hq.2 e
  ·rw [mergeR_ge t hl, List.foldl_cons]
   exact mergeR_this t at_ ht L (p :: ps) _ hc.2 hp h
theorem verG_fold (l : List (Int × Int × List UInt8)) (b at_ : Int) : verG l b at_ = l.foldl (verF b at_) (zeroB, 0) := rfl
theorem verG_merge {t at_ b : Int} {L : List (Int × Int × List UInt8)} {ps : List (Int × List UInt8)} (hL : SortV L) (hp : RiseL ps) (ht : t ≤ at_) : (verG (mergeR t L ps) b at_).1 = (bufG ps b).getD (verG L b at_).1 := by
 rw [verG_fold, verG_fold]
 cases h : bufG ps b with
 | none =>
  rw [mergeR_other t b at_ L ps _ (fun p hp hh => by
   unfold bufG at h
   rw [Option.map_eq_none_iff, List.find?_eq_none] at h
   exact h p hp (by simpa using hh.1))]
  rfl
 | some d =>
  have hm : (b, d) ∈ ps := by
   unfold bufG at h
   rw [Option.map_eq_some_iff] at h
   obtain ⟨p, h1, h2⟩ := h
   have h3 := List.mem_of_find?_eq_some h1
   have h4 : p.1 = b := by simpa using List.find?_some h1
   rw [← h2, ← h4]
   exact h3
  rw [mergeR_this t at_ ht L ps _ hL hp hm]
  rfl
theorem lt_cell {w : World} {g o : Nat} {v : Value} (h : w.cell? ⟨g, o, none⟩ = some v) : g < w.heap.size := by
 rcases Nat.lt_or_ge g w.heap.size with h1 | h1
 ·exact h1
 ·unfold World.cell? at h
  rw [Array.getElem?_eq_none h1] at h
  cases h
def puCells (l : List (Int × Value)) : List Value := l.flatMap fun p => [.int .i64 p.1, p.2]
theorem puCells_app (a b : List (Int × Value)) : puCells (a ++ b) = puCells a ++ puCells b := by simp [puCells]
def PuV (w : World) (vs : List (Int × Value)) (l : List (Int × List UInt8)) : Prop := vs.length = l.length ∧ ∀ i (h : i < l.length) (h' : i < vs.length), vs[i].1 = l[i].1 ∧ DatX w vs[i].2 l[i].2
theorem PuV.nil (w : World) : PuV w [] [] := ⟨rfl, fun i h => by cases h⟩
theorem PuV.keepA {w w' : World} {T : List Nat} {vs : List (Int × Value)} {l : List (Int × List UInt8)} (h : PuV w vs l) (hc : Chg T w w') (hT : Av w T [5]) : PuV w' vs l := ⟨h.1, fun i hi hi' => ⟨(h.2 i hi hi').1, (h.2 i hi hi').2.keepA hc hT⟩⟩
theorem PuV.keep {w w' : World} {vs : List (Int × Value)} {l : List (Int × List UInt8)} (h : PuV w vs l) (hc : Chg [] w w') : PuV w' vs l := h.keepA hc (Av.nil _ _)
theorem PuV.snoc {w : World} {vs : List (Int × Value)} {l : List (Int × List UInt8)} {b : Int} {v : Value} {d : List UInt8} (h : PuV w vs l) (hd : DatX w v d) : PuV w (vs ++ [(b, v)]) (l ++ [(b, d)]) := by
 refine ⟨by simp [h.1], fun i hi hi' => ?_⟩
 by_cases hl : i < l.length
 ·have hl' : i < vs.length := by rw [h.1]; exact hl
  rw [List.getElem_append_left hl, List.getElem_append_left hl']
  exact h.2 i hl hl'
 ·have e : i = l.length := by simp at hi; omega
  subst e
  have e2 : vs.length = l.length := h.1
  rw [List.getElem_append_right (by omega), List.getElem_append_right (by omega)]
  simp [e2, hd]
theorem puCells_at (vs : List (Int × Value)) (i : Nat) (h : i < vs.length) : (puCells vs)[i * 2]? = some (.int .i64 vs[i].1) ∧ (puCells vs)[i * 2 + 1]? = some vs[i].2 := by
 induction vs generalizing i with
 | nil => cases h
 | cons p l ih =>
  cases i with
  | zero => exact ⟨rfl, rfl⟩
  | succ i =>
   have := ih i (by simpa using h)
   rw [show (i + 1) * 2 = i * 2 + 2 by omega, show i * 2 + 2 + 1 = i * 2 + 1 + 2 by omega]
   exact this
theorem PuX.own {w : World} {base n : Nat} {v : Value} {vs : List (Int × Value)} {l : List (Int × List UInt8)} (h : w.ownsRow base 50 2 v n (puCells vs)) (hv : PuV w vs l) (hn : n = l.length) : PuX w v l := by
 subst hn
 obtain ⟨pa, c, rfl, hc⟩ := own_form h
 refine ⟨pa, c, rfl, hc, fun i hi => ?_⟩
 have hi' : i < vs.length := by rw [hv.1]; exact hi
 rcases h.2 with ⟨e, h0⟩ | ⟨g, cap, cur, e, hA, hg, h1, h2, h3, h4⟩
 ·omega
 ·cases e
  have key : ∀ j, j < l.length * 2 → w.cell? ⟨g, 0 + j, none⟩ = (puCells vs)[j]? := fun j hj => by
   have e1 : (puCells vs)[j]? = cur.toList[j]? := by
    rw [← h4, List.getElem?_take, if_pos hj]
   rw [e1, Nat.zero_add]
   unfold World.cell?
   rw [hg]
   simp
  have hp := puCells_at vs i hi'
  have hq := hv.2 i hi hi'
  refine ⟨g, 0, vs[i].2, rfl, ⟨_, hg⟩, ?_, ?_, hq.2⟩
  ·rw [key _ (by omega), hp.1, hq.1]
  ·rw [show 0 + i * 2 + 1 = 0 + (i * 2 + 1) by omega, key _ (by omega), hp.2]
theorem step_append_copy {ops : Array Oper} {o : Oper} {a : Act} {w : World} {K : Act → World → Prop} {Q : Exit → Act → World → Prop} {E : Prop} (hgd : o.guard = none) (s x : Operand)
  (ho : o.op = .call { callee := .builtin .append, args := #[s, x], argTypes := #[47, 47] }) {z : Nat} {v : Value} {l : List UInt8} (hs : a.eval s = .slice (some ⟨z, 0, none⟩) 0 0) (hx : a.eval x = v) (hz : w.heap[z]? = some (.cells #[] 5 (0, 0))) (hd : DatX w v l)
  (h : ∀ g o' c w', Chg [z] w w' → DatX w' (.slice (some ⟨g, o', none⟩) 40 c) l → K (a.put o.dst (.slice (some ⟨g, o', none⟩) 40 c)) w') :
  if Region.wanted o (yielded ops a.tmps) = true then Oper.wp Tryz.prog o a w K Q else E := by
 obtain ⟨v', w', hr, k, hd'⟩ := run_copy40 w o.type hz hd
 obtain ⟨g, o', c, rfl, hd2⟩ := hd'
 exact step_append_run hgd s x 47 47 ho _ _ hs hx _ w' hr (h g o' c w' k ⟨g, o', c, rfl, hd2⟩)
theorem tyPut : Tryz.prog.underlying 85 = some (.slice 50) := by kernel_rfl
theorem put_end {wr w6 : World} {K : Nat} {b : Int} {v : Value} {d : List UInt8} (K6 : Chg [] wr w6) (b6 : w6.heap[K]? = some (.cells #[.int .i64 0, .slice none 0 0] 50 (0, 0))) (hK : wr.heap.size ≤ K) (hd : DatX w6 v d) :
  ((w6.setCell ⟨K, 0, none⟩ (.int .i64 b)).setCell ⟨K, 1, none⟩ v).heap[K]? = some (.cells #[.int .i64 b, v] 50 (0, 0)) ∧ Chg [] wr ((w6.setCell ⟨K, 0, none⟩ (.int .i64 b)).setCell ⟨K, 1, none⟩ v) ∧ DatX ((w6.setCell ⟨K, 0, none⟩ (.int .i64 b)).setCell ⟨K, 1, none⟩ v) v d := by
 have h1 := heap_set b6 0 (.int .i64 b) rfl
 exact ⟨heap_set h1 1 v rfl, (K6.new_set hK _ _).new_set hK _ _, (hd.keepA (Chg.set w6 K 0 _) (Av.row b6 (by decide))).keepA (Chg.set _ K 1 _) (Av.row h1 (by decide))⟩
set_option maxRecDepth 100000 in
set_option maxHeartbeats 8000000 in
theorem rbuf_write (w : World) {U E eo cp : Nat} {b : Int} {d : List UInt8} {dv : Value} {P : List (Int × List UInt8)} (h : RbAt w U P) (hP : P.length < 16) (hb0 : 0 ≤ b) (hb1 : b < 258)
  (e0 : w.cell? ⟨E, eo, none⟩ = some (.int .i64 b)) (e1 : w.cell? ⟨E, eo + 1, none⟩ = some dv) (hd : DatX w dv d) :
  Calls Tryz.prog 100 #[.pointer (some ⟨U, 0, none⟩), .slice (some ⟨E, eo, none⟩) 1 cp] w fun e w' => e = .returned (.int .i64 0) ∧ Chg [U] w w' ∧ RbAt w' U (bufPut P b d) := by
 have n0 : decide (b < 0) = false := decide_eq_false (by omega)
 have n1 : decide (258 ≤ b) = false := decide_eq_false (by omega)
 obtain ⟨pv, hU, pa, c, rfl, hc, hx⟩ := h
 obtain ⟨n, hn⟩ : ∃ n, n = P.length := ⟨_, rfl⟩
 rw [← hn] at hU hP hc
 have hPX : PuX w (.slice pa n c) P := ⟨pa, c, by rw [hn], by omega, hx⟩
 have hR : RbAt w U P := ⟨_, hU, hPX⟩
 obtain ⟨g, o, cd, rfl, hcd, hdl, hdb, hdt⟩ := hd
 have HH := Lib.hid (And.intro hU (And.intro hPX (And.intro hR (And.intro hn (And.intro (And.intro hcd (And.intro hdl (And.intro hdb hdt))) (And.intro e0 e1))))))
 have HX0 := Lib.hid hx
 clear hU hPX hR hn hx hcd hdl hdb hdt hc
 go_enter Tryz.func100, Tryz.ntmps100
 go_wp2_with fail
 go_loopw [5] (fun iv wr => (iv = .int .i64 0 ∨ iv = .int .i64 1) ∧ Chg [] w wr) (fun iv _ => 1 - (intOf iv).toNat)
 case atStart => exact ⟨Or.inl rfl, Chg.refl _ _⟩
 case round =>
  obtain ⟨rfl | rfl, kr⟩ := hrel
  ·have u0 : wr.cell? ⟨U, 0, none⟩ = some (.int .i64 258) := cell_is (kr.heap HH.out.1 (by simp)) 0 rfl
   have e0 := kr.cell HH.out.2.2.2.2.2.1 (by simp)
   have HK := Lib.hid kr
   clear kr
   go_wp2_with fail
   go_quiet (fail)
   go_wp2_with fail
   go_roundw
   case rel => exact ⟨Or.inr rfl, HK.out.drewN nq⟩
   case measure => simp [intOf]
  ·have HK := Lib.hid kr
   clear kr
   go_wp2_with fail
   go_loopw [6] (fun iv wx => (iv = .int .i64 0 ∨ iv = .int .i64 1) ∧ Chg [] w wx) (fun iv _ => 1 - (intOf iv).toNat)
   case atStart => exact ⟨Or.inl rfl, HK.out⟩
   case round =>
    obtain ⟨rfl | rfl, kr⟩ := hrel
    ·have e1 := kr.cell HH.out.2.2.2.2.2.2 (by simp)
     have HK := Lib.hid kr
     clear kr
     go_wp2_with fail
     go_roundw
     case rel => exact ⟨Or.inr rfl, HK.out⟩
     case measure => simp [intOf]
    ·have HK := Lib.hid kr
     clear kr
     go_wp2_with fail
     go_loopw [7, 8, 9, 10, 11] (fun fv iv _ _ _ wx => (iv = .int .i64 0 ∧ fv = .int .i64 0 ∨ iv = .int .i64 1 ∧ ∃ f : Int, fv = .int .i64 f ∧ 0 ≤ f ∧ f ≤ 1) ∧ Chg [] w wx) (fun _ iv _ _ _ _ => 1 - (intOf iv).toNat)
     case atStart => exact ⟨Or.inl ⟨rfl, rfl⟩, HK.out⟩
     case round =>
      obtain ⟨⟨rfl, rfl⟩ | ⟨rfl, f, rfl, hf0, hf1⟩, kr⟩ := hrel
      ·have HK := Lib.hid kr
       clear kr
       go_wp2_with fail
       go_loopw [9] (fun iv wx => iv = .int .i64 0 ∧ wx = wr) (fun _ _ => 0)
       case atStart => exact ⟨rfl, (by first | trivial | rfl)⟩
       case round =>
        obtain ⟨rfl, rfl⟩ := hrel
        have e0 := HK.out.cell HH.out.2.2.2.2.2.1 (by simp)
        have HG := Lib.hid (rbuf_get1 wr (b := b) (HH.out.2.2.1.keep HK.out) (by have := HH.out.2.2.2.1; omega))
        go_wp2_with fail
        refine HG.out.mono ?_
        rintro e w4 ⟨xv, rfl, rfl, -⟩
        generalize (bufG P b).isSome = ow
        cases ow
        ·go_wp2_with fail
         go_roundw
         case rel => exact ⟨Or.inr ⟨rfl, 1, rfl, by omega, by omega⟩, HK.out⟩
         case measure => simp [intOf]
        ·go_wp2_with fail
         go_roundw
         case rel => exact ⟨Or.inr ⟨rfl, 0, rfl, by omega, by omega⟩, HK.out⟩
         case measure => simp [intOf]
      ·have hUr := kr.heap HH.out.1 (by simp)
       have u1 : wr.cell? ⟨U, 1, none⟩ = some (.int .i64 16) := cell_is hUr 1 rfl
       have u2 : wr.cell? ⟨U, 2, none⟩ = some (.slice pa n c) := cell_is hUr 2 rfl
       have hnf : decide (16 < (n : Int) + f) = false := decide_eq_false (by omega)
       have HK := Lib.hid kr
       clear kr hUr
       go_wp2_with fail
       go_quiet (fail)
       go_wp2_with fail
       have kq : Chg [] w (wr.drewN nq) := HK.out.drewN nq
       generalize wr.drewN nq = w1 at *
       have HK1 := Lib.hid kq
       clear kq u1 u2 HK
       go_loopw [12, 13, 14, 15, 16] (fun iv _ _ _ _ wx => (iv = .int .i64 0 ∧ wx = w1) ∨ (iv = .int .i64 1 ∧ Chg [U] w wx ∧ RbAt wx U (bufPut P b d))) (fun iv _ _ _ _ _ => 1 - (intOf iv).toNat)
       case atStart => exact Or.inl ⟨rfl, rfl⟩
       case round =>
        rcases hrel with ⟨rfl, rfl⟩ | ⟨rfl, kr, hR⟩
        ·have e0 := HK1.out.cell HH.out.2.2.2.2.2.1 (by simp)
         have e1 := HK1.out.cell HH.out.2.2.2.2.2.2 (by simp)
         have hE := lt_cell e0
         have hd : DatX wr (.slice (some ⟨g, o, none⟩) 40 cd) d := (show DatX w _ d from ⟨g, o, cd, rfl, HH.out.2.2.2.2.1⟩).keep HK1.out
         have zA : (wr.alloc (.cells #[] 5)).drew.heap[wr.heap.size]? = some (.cells #[] 5 (0, 0)) := heap_new wr _
         have kA : Chg [] wr (wr.alloc (.cells #[] 5)).drew := ((Chg.refl [] wr).then_alloc _).drew
         have dA := hd.keep kA
         obtain ⟨zAC', bAC'⟩ := two_new wr (.cells #[] 5) (.cells #[.int .i64 0, .slice none 0 0] 50)
         have zAC : ((wr.alloc (.cells #[] 5)).alloc (.cells #[.int .i64 0, .slice none 0 0] 50)).drew.heap[wr.heap.size]? = some (.cells #[] 5 (0, 0)) := zAC'
         have bAC : ((wr.alloc (.cells #[] 5)).alloc (.cells #[.int .i64 0, .slice none 0 0] 50)).drew.heap[wr.heap.size + 1]? = some (.cells #[.int .i64 0, .slice none 0 0] 50 (0, 0)) := bAC'
         have kAC : Chg [] wr ((wr.alloc (.cells #[] 5)).alloc (.cells #[.int .i64 0, .slice none 0 0] 50)).drew := (((Chg.refl [] wr).then_alloc _).then_alloc _).drew
         have dAC := hd.keep kAC
         obtain ⟨bCA', zCA'⟩ := two_new wr (.cells #[.int .i64 0, .slice none 0 0] 50) (.cells #[] 5)
         have bCA : ((wr.alloc (.cells #[.int .i64 0, .slice none 0 0] 50)).alloc (.cells #[] 5)).drew.heap[wr.heap.size]? = some (.cells #[.int .i64 0, .slice none 0 0] 50 (0, 0)) := bCA'
         have zCA : ((wr.alloc (.cells #[.int .i64 0, .slice none 0 0] 50)).alloc (.cells #[] 5)).drew.heap[wr.heap.size + 1]? = some (.cells #[] 5 (0, 0)) := zCA'
         have kCA : Chg [] wr ((wr.alloc (.cells #[.int .i64 0, .slice none 0 0] 50)).alloc (.cells #[] 5)).drew := (((Chg.refl [] wr).then_alloc _).then_alloc _).drew
         have dCA := hd.keep kCA
         clear zAC' bAC' bCA' zCA'
         have e0d : wr.drew.cell? ⟨E, eo, none⟩ = some (.int .i64 b) := e0
         have e1d : wr.drew.cell? ⟨E, eo + 1, none⟩ = some (.slice (some ⟨g, o, none⟩) 40 cd) := e1
         have e0a : ∀ ob, (wr.alloc ob).cell? ⟨E, eo, none⟩ = some (.int .i64 b) := fun ob => (Chg.alloc (S := []) wr ob).cell e0 (by simp)
         have e1a : ∀ ob, (wr.alloc ob).cell? ⟨E, eo + 1, none⟩ = some (.slice (some ⟨g, o, none⟩) 40 cd) := fun ob => (Chg.alloc (S := []) wr ob).cell e1 (by simp)
         have e0b : ∀ ob oc, ((wr.alloc ob).alloc oc).cell? ⟨E, eo, none⟩ = some (.int .i64 b) := fun ob oc => (Chg.alloc (S := []) _ oc).cell (e0a ob) (by simp)
         have e1b : ∀ ob oc, ((wr.alloc ob).alloc oc).cell? ⟨E, eo + 1, none⟩ = some (.slice (some ⟨g, o, none⟩) 40 cd) := fun ob oc => (Chg.alloc (S := []) _ oc).cell (e1a ob) (by simp)
         have HE := Lib.hid hE
         clear hd hE
         go_upto_region 30 with fail
         go_cut [13] from 111 to 124 (fun xv wx => ∃ K g6 o6 c6, xv = .pointer (some ⟨K, 0, none⟩) ∧ wx.heap[K]? = some (.cells #[.int .i64 b, .slice (some ⟨g6, o6, none⟩) 40 c6] 50 (0, 0)) ∧ Chg [] wr wx ∧ DatX wx (.slice (some ⟨g6, o6, none⟩) 40 c6) d)
         case first =>
          go_region_law
           (first
            | (refine step_append_copy rfl (.tmp 116) (.tmp 121) rfl rfl rfl zA dA ?_; intro g6 o6 c6 w6 k6 hd6; have K6 : Chg [] wr w6 := kA.trans k6 (fun x hx hlt => by rw [List.mem_singleton] at hx; omega); have e06 := K6.cell e0 (by simp); have e06a : ∀ ob, (w6.alloc ob).cell? ⟨E, eo, none⟩ = some (.int .i64 b) := (fun ob => (Chg.alloc (S := []) w6 ob).cell e06 (by simp)); have HF := Lib.hid (And.intro K6 (hd6.keep (Chg.alloc (S := []) w6 (.cells #[.int .i64 b, .slice (some ⟨g6, o6, none⟩) 40 c6] 50)))))
            | (refine step_append_copy rfl (.tmp 116) (.tmp 121) rfl rfl rfl zAC dAC ?_; intro g6 o6 c6 w6 k6 hd6; have K6 : Chg [] wr w6 := kAC.trans k6 (fun x hx hlt => by rw [List.mem_singleton] at hx; omega); have e06 := K6.cell e0 (by simp); have b6 := k6.heap bAC (by simp); have q0 := cell_is b6 0 rfl; have q1 := cell_is b6 1 rfl; have f0 := unfrozen b6 0; have f1 := unfrozen b6 1; have HF := Lib.hid (And.intro K6 (And.intro b6 hd6)))
            | (refine step_append_copy rfl (.tmp 116) (.tmp 121) rfl rfl rfl zCA dCA ?_; intro g6 o6 c6 w6 k6 hd6; have K6 : Chg [] wr w6 := kCA.trans k6 (fun x hx hlt => by rw [List.mem_singleton] at hx; omega); have e06 := K6.cell e0 (by simp); have b6 := k6.heap bCA (by simp); have q0 := cell_is b6 0 rfl; have q1 := cell_is b6 1 rfl; have f0 := unfrozen b6 0; have f1 := unfrozen b6 1; have HF := Lib.hid (And.intro K6 (And.intro b6 hd6))))
          all_goals
           go_wp2_with fail
           go_meet
           first
            | exact ⟨_, g6, o6, c6, rfl, heap_new w6 _, HF.out.1.then_alloc _, HF.out.2⟩
            | (have hp := put_end (b := b) HF.out.1 HF.out.2.1 (by omega) HF.out.2.2; exact ⟨_, g6, o6, c6, rfl, hp.1, hp.2.1, hp.2.2⟩)
         case rest =>
          obtain ⟨K, g6, o6, c6, rfl, hK, kc, hD⟩ := hcut
          have HC := Lib.hid (And.intro hK kc)
          have HD := Lib.hid hD
          clear hK kc hD e0 e1 e0d e1d e0a e1a e0b e1b zA kA dA zAC bAC kAC dAC bCA zCA kCA dCA
          go_wp2_with fail
          have hzb := Nat.le_refl wc.heap.size
          go_loopw [14, 15, 16] (fun ov dv iv wx => ∃ (k : Nat) (dn : Bool) (out : List (Int × List UInt8)) (vs : List (Int × Value)), iv = .int .i64 k ∧ k ≤ n ∧ dv = .bool dn ∧ wx.ownsRow wc.heap.size 50 2 ov vs.length (puCells vs) ∧ PuV wc vs out ∧ out ++ bufA b d dn (P.drop k) = bufPut P b d ∧ out.length ≤ 2 * k ∧ Chg [] wc wx) (fun _ _ iv _ => n - (intOf iv).toNat)
          case atStart => exact ⟨0, false, [], [], rfl, Nat.zero_le _, rfl, World.ownsRow_nil _ _ _ _, PuV.nil _, rfl, Nat.zero_le _, Chg.refl _ _⟩
          case round =>
           obtain ⟨k, dn, out, vs, rfl, hk, rfl, ho, hv, hp, hol, kr⟩ := hrel
           have hKr := kr.heap HC.out.1 (by simp)
           have hUr := kr.heap ((HK1.out.then HC.out.2).heap HH.out.1 (by simp)) (by simp)
           have u2 : wr.cell? ⟨U, 2, none⟩ = some (.slice pa n c) := cell_is hUr 2 rfl
           have k0 : wr.cell? ⟨K, 0, none⟩ = some (.int .i64 b) := cell_is hKr 0 rfl
           have k1 : wr.cell? ⟨K, 1, none⟩ = some (.slice (some ⟨g6, o6, none⟩) 40 c6) := cell_is hKr 1 rfl
           have HR := Lib.hid (And.intro ho (And.intro hv (And.intro hp (And.intro kr hol))))
           clear ho hv hp kr hol hKr hUr
           by_cases hlt : k < n
           ·have hlti : (k : Int) < n := by omega
            have hil : k < P.length := by have := HH.out.2.2.2.1; omega
            obtain ⟨gp, op, up, hpa, -, dd0, dd1, hDD⟩ := HX0.out k hil
            subst hpa
            obtain ⟨gd, od, cu, rfl, hDD⟩ := hDD
            have hDD : DatX w (.slice (some ⟨gd, od, none⟩) 40 cu) P[k].2 := ⟨gd, od, cu, rfl, hDD⟩
            have hdr : P.drop k = P[k] :: P.drop (k + 1) := List.drop_eq_getElem_cons hil
            obtain ⟨p, dp, hpk⟩ : ∃ p dp, P[k] = (p, dp) := ⟨_, _, rfl⟩
            rw [hpk] at dd0 hDD hdr
            simp only at dd0 hDD
            have kwc := HK1.out.then HC.out.2
            have d0c := kwc.cell dd0 (by simp)
            have d1c := kwc.cell dd1 (by simp)
            have d0 := HR.out.2.2.2.1.cell d0c (by simp)
            have d1 := HR.out.2.2.2.1.cell d1c (by simp)
            have HP := Lib.hid (And.intro hdr (hDD.keep kwc))
            have HC2 := Lib.hid (And.intro ((HK1.out.then HC.out.2).heap HH.out.1 (by simp)) (And.intro d0c d1c))
            obtain ⟨m, hm⟩ : ∃ m, m = vs.length := ⟨_, rfl⟩
            have hm2 : m ≤ 100 := by have := HR.out.2.1.1; have := HR.out.2.2.2.2; omega
            rw [← hm] at HR
            have HM := Lib.hid hm
            obtain ⟨pv, cv, rfl, -⟩ := own_form HR.out.1
            clear hdr hDD hpk d0c d1c dd0 dd1 hm kwc
            cases dn with
            | false =>
             by_cases hbp : b ≤ p
             ·by_cases hpb : p = b
              ·have hpb' := hpb.symm
               subst hpb'
               have dB : decide (b ≤ b) = true := decide_eq_true hbp
               go_wp2_with fail
               go_quiet (fail)
               have kq : Chg [] wc (wr.drewN nq) := HR.out.2.2.2.1.drewN nq
               have HO := Lib.hid (show (wr.drewN nq).ownsRow wc.heap.size 50 2 (.slice pv m cv) m (puCells vs) from own_kp HR.out.1 ((Chg.refl [] wr).drewN nq) (fun g hg hm => by cases hm))
               have hz2 : wc.heap.size ≤ (wr.drewN nq).heap.size := kq.size
               have HKQ := Lib.hid kq
               have u2 : (wr.drewN nq).cell? ⟨U, 2, none⟩ = some (.slice (some ⟨gp, op, none⟩) n c) := cell_is (kq.heap HC2.out.1 (by simp)) 2 rfl
               have k0 : (wr.drewN nq).cell? ⟨K, 0, none⟩ = some (.int .i64 b) := cell_is (kq.heap HC.out.1 (by simp)) 0 rfl
               have k1 : (wr.drewN nq).cell? ⟨K, 1, none⟩ = some (.slice (some ⟨g6, o6, none⟩) 40 c6) := cell_is (kq.heap HC.out.1 (by simp)) 1 rfl
               have d0 := kq.cell HC2.out.2.1 (by simp)
               have d1 := kq.cell HC2.out.2.2 (by simp)
               clear kq
               generalize wr.drewN nq = w2 at *
               go_wp2_with (at_builtin; refine wpList_append_lit rfl (.tmp 148) (.tmp 150) 85 50 rfl tyPut inf92 rfl (by decide) wc.heap.size w2 [.int .i64 b, .slice (some ⟨g6, o6, none⟩) 40 c6] 1 rfl (.slice pv m cv) m (puCells vs) rfl HO.out (by omega) (by decide) hz2 (k := 0) rfl (by simp [Value.oneCell']) rfl 1 rfl ?_; intro v3 w3 hap)
               have k3 : Chg [] wc w3 := app_new HKQ.out HO.out (Nat.le_refl _) hap
               have o3 : w3.ownsRow wc.heap.size 50 2 v3 (m + 1) (puCells (vs ++ [(b, .slice (some ⟨g6, o6, none⟩) 40 c6)])) := by rw [puCells_app]; exact hap.1
               have HO3 := Lib.hid (And.intro k3 o3)
               clear u2 k0 k1 d0 d1
               have u2 : w3.cell? ⟨U, 2, none⟩ = some (.slice (some ⟨gp, op, none⟩) n c) := cell_is (k3.heap HC2.out.1 (by simp)) 2 rfl
               have k0 : w3.cell? ⟨K, 0, none⟩ = some (.int .i64 b) := cell_is (k3.heap HC.out.1 (by simp)) 0 rfl
               have k1 : w3.cell? ⟨K, 1, none⟩ = some (.slice (some ⟨g6, o6, none⟩) 40 c6) := cell_is (k3.heap HC.out.1 (by simp)) 1 rfl
               have d0 := k3.cell HC2.out.2.1 (by simp)
               have d1 := k3.cell HC2.out.2.2 (by simp)
               obtain ⟨pv3, cv3, rfl, -⟩ := own_form o3
               clear hap k3 o3 HO hz2
               go_wp2_with fail
               go_quiet (fail)
               have kq3 : Chg [] wc (w3.drewN nq) := HO3.out.1.drewN nq
               have HO4 := Lib.hid (show (w3.drewN nq).ownsRow wc.heap.size 50 2 (.slice pv3 (m + 1) cv3) (m + 1) (puCells (vs ++ [(b, .slice (some ⟨g6, o6, none⟩) 40 c6)])) from own_kp HO3.out.2 ((Chg.refl [] w3).drewN nq) (fun g hg hm => by cases hm))
               clear u2 k0 k1 d0 d1
               have H5 := Lib.hid (And.intro kq3 HO4.out)
               clear kq3
               go_wp2_with fail
               go_roundw
               case rel =>
                have hvv : PuV wc (vs ++ [(b, .slice (some ⟨g6, o6, none⟩) 40 c6)]) (out ++ [(b, d)]) := HR.out.2.1.snoc (b := b) HD.out
                refine ⟨k + 1, true, (out ++ [(b, d)]), (vs ++ [(b, .slice (some ⟨g6, o6, none⟩) 40 c6)]), by go_num, hlt, rfl, ?_, hvv, ?_, ?_, H5.out.1⟩
                ·have e := H5.out.2
                 simpa [← HM.out, Nat.add_assoc] using e
                ·rw [← HR.out.2.2.1, HP.out.1]
                 simp [bufA]
                ·have := HR.out.2.2.2.2
                 simp
                 omega
               case measure => simp [intOf]; omega
              ·have dB : decide (b ≤ p) = true := decide_eq_true hbp
               have q1 : (p == b) = false := beq_eq_false_iff_ne.2 hpb
               have q2 : decide (p = b) = false := decide_eq_false hpb
               go_wp2_with fail
               go_quiet (fail)
               have kq : Chg [] wc (wr.drewN nq) := HR.out.2.2.2.1.drewN nq
               have HO := Lib.hid (show (wr.drewN nq).ownsRow wc.heap.size 50 2 (.slice pv m cv) m (puCells vs) from own_kp HR.out.1 ((Chg.refl [] wr).drewN nq) (fun g hg hm => by cases hm))
               have hz2 : wc.heap.size ≤ (wr.drewN nq).heap.size := kq.size
               have HKQ := Lib.hid kq
               have u2 : (wr.drewN nq).cell? ⟨U, 2, none⟩ = some (.slice (some ⟨gp, op, none⟩) n c) := cell_is (kq.heap HC2.out.1 (by simp)) 2 rfl
               have k0 : (wr.drewN nq).cell? ⟨K, 0, none⟩ = some (.int .i64 b) := cell_is (kq.heap HC.out.1 (by simp)) 0 rfl
               have k1 : (wr.drewN nq).cell? ⟨K, 1, none⟩ = some (.slice (some ⟨g6, o6, none⟩) 40 c6) := cell_is (kq.heap HC.out.1 (by simp)) 1 rfl
               have d0 := kq.cell HC2.out.2.1 (by simp)
               have d1 := kq.cell HC2.out.2.2 (by simp)
               clear kq
               generalize wr.drewN nq = w2 at *
               go_wp2_with (at_builtin; refine wpList_append_lit rfl (.tmp 148) (.tmp 150) 85 50 rfl tyPut inf92 rfl (by decide) wc.heap.size w2 [.int .i64 b, .slice (some ⟨g6, o6, none⟩) 40 c6] 1 rfl (.slice pv m cv) m (puCells vs) rfl HO.out (by omega) (by decide) hz2 (k := 0) rfl (by simp [Value.oneCell']) rfl 1 rfl ?_; intro v3 w3 hap)
               have k3 : Chg [] wc w3 := app_new HKQ.out HO.out (Nat.le_refl _) hap
               have o3 : w3.ownsRow wc.heap.size 50 2 v3 (m + 1) (puCells (vs ++ [(b, .slice (some ⟨g6, o6, none⟩) 40 c6)])) := by rw [puCells_app]; exact hap.1
               have HO3 := Lib.hid (And.intro k3 o3)
               clear u2 k0 k1 d0 d1
               have u2 : w3.cell? ⟨U, 2, none⟩ = some (.slice (some ⟨gp, op, none⟩) n c) := cell_is (k3.heap HC2.out.1 (by simp)) 2 rfl
               have k0 : w3.cell? ⟨K, 0, none⟩ = some (.int .i64 b) := cell_is (k3.heap HC.out.1 (by simp)) 0 rfl
               have k1 : w3.cell? ⟨K, 1, none⟩ = some (.slice (some ⟨g6, o6, none⟩) 40 c6) := cell_is (k3.heap HC.out.1 (by simp)) 1 rfl
               have d0 := k3.cell HC2.out.2.1 (by simp)
               have d1 := k3.cell HC2.out.2.2 (by simp)
               obtain ⟨pv3, cv3, rfl, -⟩ := own_form o3
               clear hap k3 o3 HO hz2
               go_wp2_with fail
               go_quiet (fail)
               have kq3 : Chg [] wc (w3.drewN nq) := HO3.out.1.drewN nq
               have HO4 := Lib.hid (show (w3.drewN nq).ownsRow wc.heap.size 50 2 (.slice pv3 (m + 1) cv3) (m + 1) (puCells (vs ++ [(b, .slice (some ⟨g6, o6, none⟩) 40 c6)])) from own_kp HO3.out.2 ((Chg.refl [] w3).drewN nq) (fun g hg hm => by cases hm))
               clear u2 k0 k1 d0 d1
               have u2 : (w3.drewN nq).cell? ⟨U, 2, none⟩ = some (.slice (some ⟨gp, op, none⟩) n c) := cell_is (kq3.heap HC2.out.1 (by simp)) 2 rfl
               have k0 : (w3.drewN nq).cell? ⟨K, 0, none⟩ = some (.int .i64 b) := cell_is (kq3.heap HC.out.1 (by simp)) 0 rfl
               have k1 : (w3.drewN nq).cell? ⟨K, 1, none⟩ = some (.slice (some ⟨g6, o6, none⟩) 40 c6) := cell_is (kq3.heap HC.out.1 (by simp)) 1 rfl
               have d0 := kq3.cell HC2.out.2.1 (by simp)
               have d1 := kq3.cell HC2.out.2.2 (by simp)
               have hz4 : wc.heap.size ≤ (w3.drewN nq).heap.size := kq3.size
               have HK4 := Lib.hid kq3
               clear kq3
               generalize w3.drewN nq = w4 at *
               go_wp2_with (at_builtin; refine wpList_append_lit rfl (.tmp 163) (.tmp 171) 85 50 rfl tyPut inf92 rfl (by decide) wc.heap.size w4 [.int .i64 p, .slice (some ⟨gd, od, none⟩) 40 cu] 1 rfl (.slice pv3 (m + 1) cv3) (m + 1) (puCells (vs ++ [(b, .slice (some ⟨g6, o6, none⟩) 40 c6)])) rfl HO4.out (by omega) (by decide) hz4 (k := 0) rfl (by simp [Value.oneCell']) rfl 1 rfl ?_; intro v5 w5 hap)
               have k5 : Chg [] wc w5 := app_new HK4.out HO4.out (Nat.le_refl _) hap
               have H5 := Lib.hid (And.intro k5 (show w5.ownsRow wc.heap.size 50 2 v5 ((m + 1) + 1) (puCells ((vs ++ [(b, .slice (some ⟨g6, o6, none⟩) 40 c6)]) ++ [(p, .slice (some ⟨gd, od, none⟩) 40 cu)])) from by rw [puCells_app]; exact hap.1))
               clear hap k5
               go_wp2_with fail
               go_roundw
               case rel =>
                have hvv : PuV wc ((vs ++ [(b, .slice (some ⟨g6, o6, none⟩) 40 c6)]) ++ [(p, .slice (some ⟨gd, od, none⟩) 40 cu)]) ((out ++ [(b, d)]) ++ [(p, dp)]) := (HR.out.2.1.snoc (b := b) HD.out).snoc HP.out.2
                refine ⟨k + 1, true, ((out ++ [(b, d)]) ++ [(p, dp)]), ((vs ++ [(b, .slice (some ⟨g6, o6, none⟩) 40 c6)]) ++ [(p, .slice (some ⟨gd, od, none⟩) 40 cu)]), by go_num, hlt, rfl, ?_, hvv, ?_, ?_, H5.out.1⟩
                ·have e := H5.out.2
                 simpa [← HM.out, Nat.add_assoc] using e
                ·rw [← HR.out.2.2.1, HP.out.1]
                 simp [bufA, hbp, hpb]
                ·have := HR.out.2.2.2.2
                 simp
                 omega
               case measure => simp [intOf]; omega
             ·have hpb : ¬ p = b := by omega
              have dB : decide (b ≤ p) = false := decide_eq_false hbp
              have q1 : (p == b) = false := beq_eq_false_iff_ne.2 hpb
              have q2 : decide (p = b) = false := decide_eq_false hpb
              go_wp2_with fail
              go_quiet (fail)
              have kq : Chg [] wc (wr.drewN nq) := HR.out.2.2.2.1.drewN nq
              have HKQ := Lib.hid kq
              have u2 : (wr.drewN nq).cell? ⟨U, 2, none⟩ = some (.slice (some ⟨gp, op, none⟩) n c) := cell_is (kq.heap HC2.out.1 (by simp)) 2 rfl
              have k0 : (wr.drewN nq).cell? ⟨K, 0, none⟩ = some (.int .i64 b) := cell_is (kq.heap HC.out.1 (by simp)) 0 rfl
              have k1 : (wr.drewN nq).cell? ⟨K, 1, none⟩ = some (.slice (some ⟨g6, o6, none⟩) 40 c6) := cell_is (kq.heap HC.out.1 (by simp)) 1 rfl
              have d0 := kq.cell HC2.out.2.1 (by simp)
              have d1 := kq.cell HC2.out.2.2 (by simp)
              have HO3 := Lib.hid (And.intro kq (show (wr.drewN nq).ownsRow wc.heap.size 50 2 (.slice pv m cv) m (puCells vs) from own_kp HR.out.1 ((Chg.refl [] wr).drewN nq) (fun g hg hm => by cases hm)))
              clear kq
              generalize wr.drewN nq = w3 at *
              go_wp2_with fail
              go_quiet (fail)
              have kq3 : Chg [] wc (w3.drewN nq) := HO3.out.1.drewN nq
              have HO4 := Lib.hid (show (w3.drewN nq).ownsRow wc.heap.size 50 2 (.slice pv m cv) m (puCells vs) from own_kp HO3.out.2 ((Chg.refl [] w3).drewN nq) (fun g hg hm => by cases hm))
              clear u2 k0 k1 d0 d1
              have u2 : (w3.drewN nq).cell? ⟨U, 2, none⟩ = some (.slice (some ⟨gp, op, none⟩) n c) := cell_is (kq3.heap HC2.out.1 (by simp)) 2 rfl
              have k0 : (w3.drewN nq).cell? ⟨K, 0, none⟩ = some (.int .i64 b) := cell_is (kq3.heap HC.out.1 (by simp)) 0 rfl
              have k1 : (w3.drewN nq).cell? ⟨K, 1, none⟩ = some (.slice (some ⟨g6, o6, none⟩) 40 c6) := cell_is (kq3.heap HC.out.1 (by simp)) 1 rfl
              have d0 := kq3.cell HC2.out.2.1 (by simp)
              have d1 := kq3.cell HC2.out.2.2 (by simp)
              have hz4 : wc.heap.size ≤ (w3.drewN nq).heap.size := kq3.size
              have HK4 := Lib.hid kq3
              clear kq3
              generalize w3.drewN nq = w4 at *
              go_wp2_with (at_builtin; refine wpList_append_lit rfl (.tmp 163) (.tmp 171) 85 50 rfl tyPut inf92 rfl (by decide) wc.heap.size w4 [.int .i64 p, .slice (some ⟨gd, od, none⟩) 40 cu] 1 rfl (.slice pv m cv) m (puCells vs) rfl HO4.out (by omega) (by decide) hz4 (k := 0) rfl (by simp [Value.oneCell']) rfl 1 rfl ?_; intro v5 w5 hap)
              have k5 : Chg [] wc w5 := app_new HK4.out HO4.out (Nat.le_refl _) hap
              have H5 := Lib.hid (And.intro k5 (show w5.ownsRow wc.heap.size 50 2 v5 (m + 1) (puCells (vs ++ [(p, .slice (some ⟨gd, od, none⟩) 40 cu)])) from by rw [puCells_app]; exact hap.1))
              clear hap k5
              go_wp2_with fail
              go_roundw
              case rel =>
               have hvv : PuV wc (vs ++ [(p, .slice (some ⟨gd, od, none⟩) 40 cu)]) (out ++ [(p, dp)]) := HR.out.2.1.snoc HP.out.2
               refine ⟨k + 1, false, (out ++ [(p, dp)]), (vs ++ [(p, .slice (some ⟨gd, od, none⟩) 40 cu)]), by go_num, hlt, rfl, ?_, hvv, ?_, ?_, H5.out.1⟩
               ·have e := H5.out.2
                simpa [← HM.out, Nat.add_assoc] using e
               ·rw [← HR.out.2.2.1, HP.out.1]
                simp [bufA, hbp, hpb]
               ·have := HR.out.2.2.2.2
                simp
                omega
              case measure => simp [intOf]; omega
            | true =>
             by_cases hpb : p = b
             ·have hpb' := hpb.symm
              subst hpb'
              go_wp2_with fail
              go_quiet (fail)
              have kq : Chg [] wc (wr.drewN nq) := HR.out.2.2.2.1.drewN nq
              have HKQ := Lib.hid kq
              have u2 : (wr.drewN nq).cell? ⟨U, 2, none⟩ = some (.slice (some ⟨gp, op, none⟩) n c) := cell_is (kq.heap HC2.out.1 (by simp)) 2 rfl
              have k0 : (wr.drewN nq).cell? ⟨K, 0, none⟩ = some (.int .i64 b) := cell_is (kq.heap HC.out.1 (by simp)) 0 rfl
              have k1 : (wr.drewN nq).cell? ⟨K, 1, none⟩ = some (.slice (some ⟨g6, o6, none⟩) 40 c6) := cell_is (kq.heap HC.out.1 (by simp)) 1 rfl
              have d0 := kq.cell HC2.out.2.1 (by simp)
              have d1 := kq.cell HC2.out.2.2 (by simp)
              have HO3 := Lib.hid (And.intro kq (show (wr.drewN nq).ownsRow wc.heap.size 50 2 (.slice pv m cv) m (puCells vs) from own_kp HR.out.1 ((Chg.refl [] wr).drewN nq) (fun g hg hm => by cases hm)))
              clear kq
              generalize wr.drewN nq = w3 at *
              go_wp2_with fail
              go_quiet (fail)
              have kq3 : Chg [] wc (w3.drewN nq) := HO3.out.1.drewN nq
              have HO4 := Lib.hid (show (w3.drewN nq).ownsRow wc.heap.size 50 2 (.slice pv m cv) m (puCells vs) from own_kp HO3.out.2 ((Chg.refl [] w3).drewN nq) (fun g hg hm => by cases hm))
              clear u2 k0 k1 d0 d1
              have H5 := Lib.hid (And.intro kq3 HO4.out)
              clear kq3
              go_wp2_with fail
              go_roundw
              case rel =>
               have hvv : PuV wc vs out := HR.out.2.1
               refine ⟨k + 1, true, out, vs, by go_num, hlt, rfl, ?_, hvv, ?_, ?_, H5.out.1⟩
               ·have e := H5.out.2
                simpa [← HM.out, Nat.add_assoc] using e
               ·rw [← HR.out.2.2.1, HP.out.1]
                simp [bufA]
               ·have := HR.out.2.2.2.2
                simp
                omega
              case measure => simp [intOf]; omega
             ·have q1 : (p == b) = false := beq_eq_false_iff_ne.2 hpb
              have q2 : decide (p = b) = false := decide_eq_false hpb
              go_wp2_with fail
              go_quiet (fail)
              have kq : Chg [] wc (wr.drewN nq) := HR.out.2.2.2.1.drewN nq
              have HKQ := Lib.hid kq
              have u2 : (wr.drewN nq).cell? ⟨U, 2, none⟩ = some (.slice (some ⟨gp, op, none⟩) n c) := cell_is (kq.heap HC2.out.1 (by simp)) 2 rfl
              have k0 : (wr.drewN nq).cell? ⟨K, 0, none⟩ = some (.int .i64 b) := cell_is (kq.heap HC.out.1 (by simp)) 0 rfl
              have k1 : (wr.drewN nq).cell? ⟨K, 1, none⟩ = some (.slice (some ⟨g6, o6, none⟩) 40 c6) := cell_is (kq.heap HC.out.1 (by simp)) 1 rfl
              have d0 := kq.cell HC2.out.2.1 (by simp)
              have d1 := kq.cell HC2.out.2.2 (by simp)
              have HO3 := Lib.hid (And.intro kq (show (wr.drewN nq).ownsRow wc.heap.size 50 2 (.slice pv m cv) m (puCells vs) from own_kp HR.out.1 ((Chg.refl [] wr).drewN nq) (fun g hg hm => by cases hm)))
              clear kq
              generalize wr.drewN nq = w3 at *
              go_wp2_with fail
              go_quiet (fail)
              have kq3 : Chg [] wc (w3.drewN nq) := HO3.out.1.drewN nq
              have HO4 := Lib.hid (show (w3.drewN nq).ownsRow wc.heap.size 50 2 (.slice pv m cv) m (puCells vs) from own_kp HO3.out.2 ((Chg.refl [] w3).drewN nq) (fun g hg hm => by cases hm))
              clear u2 k0 k1 d0 d1
              have u2 : (w3.drewN nq).cell? ⟨U, 2, none⟩ = some (.slice (some ⟨gp, op, none⟩) n c) := cell_is (kq3.heap HC2.out.1 (by simp)) 2 rfl
              have k0 : (w3.drewN nq).cell? ⟨K, 0, none⟩ = some (.int .i64 b) := cell_is (kq3.heap HC.out.1 (by simp)) 0 rfl
              have k1 : (w3.drewN nq).cell? ⟨K, 1, none⟩ = some (.slice (some ⟨g6, o6, none⟩) 40 c6) := cell_is (kq3.heap HC.out.1 (by simp)) 1 rfl
              have d0 := kq3.cell HC2.out.2.1 (by simp)
              have d1 := kq3.cell HC2.out.2.2 (by simp)
              have hz4 : wc.heap.size ≤ (w3.drewN nq).heap.size := kq3.size
              have HK4 := Lib.hid kq3
              clear kq3
              generalize w3.drewN nq = w4 at *
              go_wp2_with (at_builtin; refine wpList_append_lit rfl (.tmp 163) (.tmp 171) 85 50 rfl tyPut inf92 rfl (by decide) wc.heap.size w4 [.int .i64 p, .slice (some ⟨gd, od, none⟩) 40 cu] 1 rfl (.slice pv m cv) m (puCells vs) rfl HO4.out (by omega) (by decide) hz4 (k := 0) rfl (by simp [Value.oneCell']) rfl 1 rfl ?_; intro v5 w5 hap)
              have k5 : Chg [] wc w5 := app_new HK4.out HO4.out (Nat.le_refl _) hap
              have H5 := Lib.hid (And.intro k5 (show w5.ownsRow wc.heap.size 50 2 v5 (m + 1) (puCells (vs ++ [(p, .slice (some ⟨gd, od, none⟩) 40 cu)])) from by rw [puCells_app]; exact hap.1))
              clear hap k5
              go_wp2_with fail
              go_roundw
              case rel =>
               have hvv : PuV wc (vs ++ [(p, .slice (some ⟨gd, od, none⟩) 40 cu)]) (out ++ [(p, dp)]) := HR.out.2.1.snoc HP.out.2
               refine ⟨k + 1, true, (out ++ [(p, dp)]), (vs ++ [(p, .slice (some ⟨gd, od, none⟩) 40 cu)]), by go_num, hlt, rfl, ?_, hvv, ?_, ?_, H5.out.1⟩
               ·have e := H5.out.2
                simpa [← HM.out, Nat.add_assoc] using e
               ·rw [← HR.out.2.2.1, HP.out.1]
                simp [bufA, hpb]
               ·have := HR.out.2.2.2.2
                simp
                omega
              case measure => simp [intOf]; omega
           ·obtain rfl : k = n := by omega
            have hdr : P.drop k = [] := List.drop_eq_nil_of_le (by have := HH.out.2.2.2.1; omega)
            have hUc := (HK1.out.then HC.out.2).heap HH.out.1 (by simp)
            have hfin : ∀ (w9 : World) (v9 : Value) (m9 : Nat) (vs9 : List (Int × Value)), Chg [] wc w9 → w9.ownsRow wc.heap.size 50 2 v9 m9 (puCells vs9) → PuV wc vs9 (bufPut P b d) → m9 = (bufPut P b d).length → Chg [U] w (w9.setCell ⟨U, 2, none⟩ v9) ∧ RbAt (w9.setCell ⟨U, 2, none⟩ v9) U (bufPut P b d) := fun w9 v9 m9 vs9 k9 o9 p9 hm9 => by
             have hU9 := k9.heap hUc (by simp)
             have kS := Chg.set w9 U 2 v9
             refine ⟨(((HK1.out.then HC.out.2).then k9).mono (fun x hx _ => by cases hx)).then kS, v9, heap_set hU9 2 _ rfl, PuX.own (own_kp o9 kS (fun g hg hm => ?_)) ((p9.keep k9).keepA kS (Av.row hU9 (by decide))) hm9⟩
             obtain ⟨-, cs, hh⟩ := own_elem o9 hg
             rw [List.mem_singleton] at hm
             rw [hm, hU9] at hh
             cases hh
            have HFin := Lib.hid hfin
            have HD0 := Lib.hid hdr
            have fU := unfrozen (HR.out.2.2.2.1.heap hUc (by simp)) 2
            obtain ⟨m, hm⟩ : ∃ m, m = vs.length := ⟨_, rfl⟩
            have hm2 : m ≤ 100 := by have := HR.out.2.1.1; have := HR.out.2.2.2.2; omega
            rw [← hm] at HR
            have HM := Lib.hid hm
            obtain ⟨pv, cv, rfl, -⟩ := own_form HR.out.1
            have hz2 : wc.heap.size ≤ wr.heap.size := HR.out.2.2.2.1.size
            clear hdr hfin hm
            cases dn with
            | false =>
             go_wp2_with (at_builtin; refine wpList_append_lit rfl (.tmp 175) (.tmp 177) 85 50 rfl tyPut inf92 rfl (by decide) wc.heap.size wr [.int .i64 b, .slice (some ⟨g6, o6, none⟩) 40 c6] 1 rfl (.slice pv m cv) m (puCells vs) rfl HR.out.1 (by omega) (by decide) hz2 (k := 0) rfl (by simp [Value.oneCell']) rfl 1 rfl ?_; intro v3 w3 hap; obtain ⟨pv3, cv3, hv3, -⟩ := own_form hap.1; subst hv3; have k3 : Chg [] wc w3 := app_new HR.out.2.2.2.1 HR.out.1 (Nat.le_refl _) hap; have cU3 := cell_is (k3.heap hUc (by simp)) 2 rfl; have fU3 := unfrozen (k3.heap hUc (by simp)) 2; have HAP := Lib.hid (And.intro k3 hap); clear hap k3)
             obtain ⟨k3, hap⟩ := HAP.out
             have o3 : w3.ownsRow wc.heap.size 50 2 (.slice pv3 (m + 1) cv3) (m + 1) (puCells (vs ++ [(b, .slice (some ⟨g6, o6, none⟩) 40 c6)])) := by rw [puCells_app]; exact hap.1
             have e9 : out ++ [(b, d)] = bufPut P b d := by rw [← HR.out.2.2.1, HD0.out]; rfl
             have HF := Lib.hid (HFin.out w3 (.slice pv3 (m + 1) cv3) (m + 1) _ k3 o3 (by rw [← e9]; exact HR.out.2.1.snoc (b := b) HD.out) (by rw [← e9]; have := HR.out.2.1.1; have := HM.out; simp; omega))
             clear hap k3 o3 e9
             go_wp2_with fail
             go_roundw
             case rel => exact Or.inr ⟨rfl, HF.out⟩
             case measure => simp [intOf]
            | true =>
             have e9 : out = bufPut P b d := by rw [← HR.out.2.2.1, HD0.out]; simp [bufA]
             have HF := Lib.hid (HFin.out wr (.slice pv m cv) m vs HR.out.2.2.2.1 HR.out.1 (by rw [← e9]; exact HR.out.2.1) (by rw [← e9]; have := HR.out.2.1.1; have := HM.out; omega))
             clear e9
             go_wp2_with fail
             go_roundw
             case rel => exact Or.inr ⟨rfl, HF.out⟩
             case measure => simp [intOf]
        ·have HR := Lib.hid (And.intro kr hR)
         clear kr hR
         go_wp2_with fail
         go_ret
         exact ⟨rfl, HR.out⟩
def RdX (w w' : World) (Q V : Nat) (T : List Nat) : Prop := ∃ s s', w.cell? ⟨Q, 4, none⟩ = some s ∧ w'.cell? ⟨Q, 4, none⟩ = some s' ∧ (∀ x ∈ T, x = V ∨ x = Q ∨ s.ownBlock = some x) ∧ ∀ g, s'.ownBlock = some g → s.ownBlock = some g ∨ w.heap.size ≤ g
def RdW (base : Nat) (d : Ids) (w w' : World) : Prop := ∃ T, Chg T w w' ∧ (∀ x ∈ T, base ≤ x ∧ ∀ cs t fr, w.heap[x]? = some (.cells cs t fr) → t = 274 ∨ t = 305 ∨ t = 255) ∧ RdX w w' d.Q d.V T
theorem RdW.ow {base : Nat} {d : Ids} {w w' : World} (h : RdW base d w w') : Ow base w w' := by obtain ⟨T, h1, h2, -⟩ := h; exact ⟨T, h1, h2⟩
theorem RdW.ahead {base : Nat} {d : Ids} {w w1 w' : World} (h : RdW base d w1 w') (k : Chg [] w w1) (hq : d.Q < w.heap.size) : RdW base d w w' := by
 obtain ⟨T, h1, h2, s, s', e1, e2, e3, e4⟩ := h
 refine ⟨T, (k.mono (fun x hx _ => by cases hx)).then h1, fun x hx => ⟨(h2 x hx).1, fun cs t fr hh => (h2 x hx).2 cs t fr (k.heap hh (by simp))⟩, s, s', ?_, e2, e3, fun g hg => ?_⟩
 ·have hb := k.block d.Q hq (by simp)
  rw [← e1]
  unfold World.cell?
  rw [hb]
 ·rcases e4 g hg with h | h
  ·exact Or.inl h
  ·exact Or.inr (Nat.le_trans k.size h)
theorem RdW.mk {base n : Nat} {d : Ids} {w w1 w1d w6 : World} {t : Int} {T : List Nat} (k0 : Chg [] w w1d) (k6 : Chg T w1d w6) (hT : Rt w1d base T) (hX : RdX w1d w6 d.Q d.V T) (_ : VwT w1 base d.Q d.X d.W d.V t n) (_ : Chg [] w1 w1d) (hq : d.Q < w.heap.size) : RdW base d w w6 := by
 refine RdW.ahead ⟨T, k6, fun x hx => ⟨(hT x hx).1, fun cs t fr hh => ?_⟩, hX⟩ k0 hq
 obtain ⟨_, cs', t', fr', h1, h2⟩ := hT x hx
 rw [hh] at h1
 cases h1
 exact h2
theorem step_append_rx {ops : Array Oper} {o : Oper} {a : Act} {w : World} {K : Act → World → Prop} {Q : Exit → Act → World → Prop} {E : Prop} (hgd : o.guard = none) (s x : Operand)
  (ho : o.op = .call { callee := .builtin .append, args := #[s, x], argTypes := #[178, 178] }) (base : Nat) (v : Value) (n : Nat) (xs : List Value) (hs : a.eval s = v) (hown : w.ownsRow base 255 3 v n xs) (b c : Nat) (u0 u1 u2 : Value)
  (hx : a.eval x = .slice (some ⟨b, 0, none⟩) 1 c) (c0 : w.cell? ⟨b, 0, none⟩ = some u0) (c1 : w.cell? ⟨b, 1, none⟩ = some u1) (c2 : w.cell? ⟨b, 2, none⟩ = some u2) (h1 : u0.oneCell' = true ∧ u1.oneCell' = true ∧ u2.oneCell' = true) (hn : n ≤ 1000000) (hbase : base ≤ w.heap.size)
  (h : ∀ g cap w', w'.ownsRow base 255 3 (.slice (some ⟨g, 0, none⟩) (n + 1) cap) (n + 1) (xs ++ [u0, u1, u2]) → Chg v.ownBlock.toList w w' → (v.ownBlock = some g ∨ g = w.heap.size) → K (a.put o.dst (.slice (some ⟨g, 0, none⟩) (n + 1) cap)) w') :
  if Region.wanted o (yielded ops a.tmps) = true then Oper.wp Tryz.prog o a w K Q else E := by
 obtain ⟨i, hi0, hz, hz1, hz2⟩ := info_parts inf285
 refine step_append_lies w hgd s x 178 ho base 255 i _ 3 40 ty68 hi0 hz hz1 hz2 rfl (by decide) v n xs hs hown ⟨b, 0, none⟩ 1 c [u0, u1, u2] hx rfl ?_ ?_ (by decide) (by unfold maxLen; omega) (by omega) hbase _ rfl ?_
 ·intro j u hu
  rw [add_lit, Nat.zero_add]
  match j with
  | 0 => cases hu; exact c0
  | 1 => cases hu; exact c1
  | 2 => cases hu; exact c2
  | j + 3 => simp at hu
 ·intro u hu
  simp at hu
  rcases hu with rfl | rfl | rfl
  ·exact h1.1
  ·exact h1.2.1
  ·exact h1.2.2
 ·intro g cap w' h2 h3 h4 _
  refine h g cap w' h2 ?_ h4
  cases hv : v.ownBlock with
  | none => rw [hv] at h3; exact Chg.of_grown0 h3
  | some k => rw [hv] at h3; exact Chg.of_grown h3
theorem gread_endx {w wb wc w5 : World} {base Q X W V n m g g5 cp5 : Nat} {t : Int} {s : Value} {xs : List Value} {ys : List Value} {l : List UInt8} {Cb : Array Value} (HRt : Rt w base (V :: Q :: s.ownBlock.toList)) (k9 : Chg [V] w wb) (ky : Chg [] wb wc) (hm : m ≤ 17 * n + 100000) (hB : Bs wb (some ⟨g, 0, none⟩) l)
  (gy : wc.heap[g]? = some (.cells Cb 5 (0, 0))) (hgn : g ∉ s.ownBlock.toList) (hgQ : Q ∉ [g]) (oy : wc.ownsRow base 255 3 s m xs) (qy : ViewT wc Q X W V t s) (hQn : Q ∉ s.ownBlock.toList) (sb : SpV wc base V (n + 1))
  (o5 : w5.ownsRow base 255 3 (.slice (some ⟨g5, 0, none⟩) (m + 1) cp5) (m + 1) ys) (k5 : Chg s.ownBlock.toList wc w5) (l5 : s.ownBlock = some g5 ∨ g5 = wc.heap.size) (s0 : w.cell? ⟨Q, 4, none⟩ = some s) :
  ∃ T, Chg T w (w5.setCell ⟨Q, 4, none⟩ (.slice (some ⟨g5, 0, none⟩) (m + 1) cp5)) ∧ Rt w base T ∧ RdX w (w5.setCell ⟨Q, 4, none⟩ (.slice (some ⟨g5, 0, none⟩) (m + 1) cp5)) Q V T ∧ Bs (w5.setCell ⟨Q, 4, none⟩ (.slice (some ⟨g5, 0, none⟩) (m + 1) cp5)) (some ⟨g, 0, none⟩) l ∧ VwT (w5.setCell ⟨Q, 4, none⟩ (.slice (some ⟨g5, 0, none⟩) (m + 1) cp5)) base Q X W V t (n + 1) ∧ SpV (w5.setCell ⟨Q, 4, none⟩ (.slice (some ⟨g5, 0, none⟩) (m + 1) cp5)) base V (n + 1) := by
 have q5 := k5.heap qy hQn
 have g5h := k5.heap gy hgn
 have kS := Chg.set w5 Q 4 (.slice (some ⟨g5, 0, none⟩) (m + 1) cp5)
 have hgQ' : g ∉ [Q] := by simpa using (fun e => hgQ (by simp [e]))
 have hav : Av wc s.ownBlock.toList [79, 305] := by
  intro x hx cs t fr hh
  rcases oy.2 with ⟨rfl, _⟩ | ⟨k, cap, cur, rfl, hb, hk, rest⟩
  ·simp [Value.ownBlock] at hx
  ·simp [Value.ownBlock] at hx
   subst hx
   rw [hk] at hh
   cases hh
   simp
 have hq1 : Av w5 [Q] [79, 305] := fun x hx cs t fr hh => by
  rw [List.mem_singleton] at hx; subst hx; rw [q5] at hh; cases hh; simp
 have hq2 : Av w5 [Q] [255] := fun x hx cs t fr hh => by
  rw [List.mem_singleton] at hx; subst hx; rw [q5] at hh; cases hh; simp
 refine ⟨V :: Q :: s.ownBlock.toList, ?_, HRt, ⟨s, _, s0, cell_is (heap_set q5 4 _ rfl) 4 rfl, fun x hx => by simpa using hx, fun x hx => ?_⟩, ((hB.chg ky).chgT k5 hgn).chgT kS hgQ', ⟨_, m + 1, ys, heap_set q5 4 _ rfl, by omega, ownsRow_av o5 kS hq2⟩, (sb.keep k5 hav).keep kS hq1⟩
 rotate_left
 ·have e1 : g5 = x := by simpa [Value.ownBlock] using hx
  rcases l5 with h | h
  ·exact Or.inl (by rw [h, e1])
  ·have h1 := k9.size
   have h2 := ky.size
   exact Or.inr (by omega)
 refine (((k9.mono ?_).then (ky.mono ?_)).then (k5.mono ?_)).then (kS.mono ?_)
 ·intro x hx _; simp at hx; simp [hx]
 ·intro x hx _; cases hx
 ·intro x hx _; simp only [List.mem_cons]; exact Or.inr (Or.inr hx)
 ·intro x hx _; simp at hx; simp [hx]
set_option maxRecDepth 100000 in
set_option maxHeartbeats 20000000 in
theorem gread_x (w : World) {base Q X rx W rw V n lo : Nat} {last t : Int} {Lv : List (Int × Value)} {vs : Int → List (Int × List UInt8)} {L : List (Int × Value)} {b : Int} {l : List UInt8} (hX : VerG w lo X rx last Lv vs) (hW : BufAt w W rw L) (hB : BlkT w L (vs b) t b l) (hV : VwT w base Q X W V t n) (hS : SpV w base V n) (hn : n ≤ 60) (hbase : base ≤ Q ∧ base ≤ V) (h0 : 0 ≤ b) (h1 : b < 258) :
  Calls Tryz.prog 170 #[.pointer (some ⟨Q, 0, none⟩), .agg #[.int .i64 b, .int .i64 1]] w fun e w' =>
  ∃ g c' T, e = .returned (.tuple #[.slice (some ⟨g, 0, none⟩) 40 c', .int .i64 0]) ∧ 40 ≤ c' ∧ Chg T w w' ∧ Rt w base T ∧ RdX w w' Q V T ∧ w.heap.size ≤ g ∧ Bs w' (some ⟨g, 0, none⟩) l ∧ VwT w' base Q X W V t (n + 1) ∧ SpV w' base V (n + 1) := by
 have k0 : Chg [] w (w.alloc (.cells #[.int .i64 b, .int .i64 1] 79)) := Chg.alloc w _
 have K0 := heap_new w (.cells #[.int .i64 b, .int .i64 1] 79)
 have hX1 := hX.keep k0
 have hW1 := hW.keep k0 (by simp) (by simp)
 have hB1 := hB.keep k0
 obtain ⟨s, m, xs, qw, hm, how⟩ := hV
 have q := k0.heap qw (by simp)
 have ho := ownsRow_chg how k0
 have hS1 := hS.keep0 k0
 have HRt : Rt w base (V :: Q :: s.ownBlock.toList) := by
  intro x hx
  simp only [List.mem_cons] at hx
  rcases hx with rfl | rfl | hx
  ·exact ⟨hbase.2, _, _, _, hS.choose_spec.choose_spec.1, by simp⟩
  ·exact ⟨hbase.1, _, _, _, qw, by simp⟩
  ·rcases how.2 with ⟨rfl, _⟩ | ⟨k, cap, cur, rfl, hb, hk, rest⟩
   ·simp [Value.ownBlock] at hx
   ·simp [Value.ownBlock] at hx
    subst hx
    exact ⟨hb, _, _, _, hk, by simp⟩
 have HS0 : Hid (w.cell? ⟨Q, 4, none⟩ = some s) := Lib.hid (cell_is qw 4 rfl)
 clear qw how
 have q0 : (w.alloc (.cells #[.int .i64 b, .int .i64 1] 79)).cell? ⟨Q, 0, none⟩ = some (.pointer (some ⟨X, 0, none⟩)) := cell_is q 0 rfl
 have q1 : (w.alloc (.cells #[.int .i64 b, .int .i64 1] 79)).cell? ⟨Q, 1, none⟩ = some (.pointer (some ⟨W, 0, none⟩)) := cell_is q 1 rfl
 have q2 : (w.alloc (.cells #[.int .i64 b, .int .i64 1] 79)).cell? ⟨Q, 2, none⟩ = some (.int .i64 t) := cell_is q 2 rfl
 have q3 : (w.alloc (.cells #[.int .i64 b, .int .i64 1] 79)).cell? ⟨Q, 3, none⟩ = some (.pointer (some ⟨V, 0, none⟩)) := cell_is q 3 rfl
 have a0 : (w.alloc (.cells #[.int .i64 b, .int .i64 1] 79)).cell? ⟨w.heap.size, 0, none⟩ = some (.int .i64 b) := cell_is K0 0 rfl
 have a1 : (w.alloc (.cells #[.int .i64 b, .int .i64 1] 79)).cell? ⟨w.heap.size, 1, none⟩ = some (.int .i64 1) := cell_is K0 1 rfl
 go_enter Tryz.func170, Tryz.ntmps170
 go_wp2_with fail
 go_step3
 go_wp2_with fail
 generalize w.alloc (.cells #[.int .i64 b, .int .i64 1] 79) = w1 at *
 generalize hK : w.heap.size = K at *
 go_region_held3 (fun wx => wx.cell? ⟨Q, 0, none⟩ = some (.pointer (some ⟨X, 0, none⟩)) ∧ wx.cell? ⟨Q, 2, none⟩ = some (.int .i64 t) ∧ wx.cell? ⟨K, 0, none⟩ = some (.int .i64 b) ∧ wx.cell? ⟨K, 1, none⟩ = some (.int .i64 1))
  (first | (exact ⟨q0, q2, a0, a1⟩) | (exact ⟨k2.cell q0 (by simp), k2.cell q2 (by simp), k2.cell a0 (by simp), k2.cell a1 (by simp)⟩))
  (first | (go_at_call 215; refine (grange_one w1.drew (t := t) (hX1.keep (Chg.refl [] w1).drew) h0 h1).mono ?_; rintro e w2 ⟨g, c', rfl, hc', k2, o2, hy40⟩))
 have HY := Lib.hid hy40
 clear hy40
 have kk2 := (Chg.refl [] w1).drew.then k2
 have q := kk2.heap q (by simp)
 have K0 := kk2.heap K0 (by simp)
 have ho := ownsRow_chg ho kk2
 have hW2 := hW1.keep kk2 (by simp) (by simp)
 have hB2 := hB1.keep kk2
 have hS2 := hS1.keep0 kk2
 have hK2 : K ≤ w2.heap.size := by have := k0.size; have := kk2.size; omega
 have ho2 : w2.ownsRow K 5 1 (.slice (some ⟨g, 0, none⟩) 40 c') 40 (Lib.byteCells (bytT (vs b) t)) := ownsRow_base o2 (by have := k0.size; show K ≤ w1.heap.size; omega)
 have kk := k0.then kk2
 clear q0 q1 q2 q3 a0 a1 hX1 hW1 hB1 hS1 o2 k0 k2 kk2
 have q3 : w2.cell? ⟨Q, 3, none⟩ = some (.pointer (some ⟨V, 0, none⟩)) := cell_is q 3 rfl
 have a0 : w2.cell? ⟨K, 0, none⟩ = some (.int .i64 b) := cell_is K0 0 rfl
 have a1 : w2.cell? ⟨K, 1, none⟩ = some (.int .i64 1) := cell_is K0 1 rfl
 go_wp2_with fail
 have kx : Chg [] w2 (w2.drew.alloc (.cells #[.int .i64 b, .int .i64 1] 79)) := (Chg.refl [] w2).drew.then_alloc _
 have kx0 := heap_new w2.drew (.cells #[.int .i64 b, .int .i64 1] 79)
 have hVK : V ≠ K := by obtain ⟨_, _, hh, _⟩ := hS2; exact heap_ne hh K0 (by simp)
 have hVQ : V ≠ Q := by obtain ⟨_, _, hh, _⟩ := hS2; exact heap_ne hh q (by simp)
 have hbw : base ≤ (w2.drew.alloc (.cells #[.int .i64 b, .int .i64 1] 79)).heap.size := by have := heap_lt q; have := kx.size; omega
 have kx2 : Chg [V] w2 (w2.drew.alloc (.cells #[.int .i64 b, .int .i64 1] 79)) := kx.mono (fun x hx _ => by cases hx)
 go_region_held3 (fun wx => wx.cell? ⟨Q, 3, none⟩ = some (.pointer (some ⟨V, 0, none⟩)) ∧ wx.cell? ⟨K, 0, none⟩ = some (.int .i64 b) ∧ wx.cell? ⟨K, 1, none⟩ = some (.int .i64 1))
  (first | (exact ⟨q3, a0, a1⟩) | (exact ⟨kx.cell q3 (by simp), kx.cell a0 (by simp), kx.cell a1 (by simp)⟩) | (exact ⟨(kx2.then k3).cell q3 (by simpa using hVQ.symm), (kx2.then k3).cell a0 (by simpa using hVK.symm), (kx2.then k3).cell a1 (by simpa using hVK.symm)⟩))
  (first | (go_at_call 216; refine (iadd_one (w2.drew.alloc (.cells #[.int .i64 b, .int .i64 1] 79)) (base := base) (V := V) (n := n) (E := w2.drew.heap.size) (hS2.keep0 kx) hn hbw h0 h1 (cell_is kx0 0 rfl) (cell_is kx0 1 rfl)).mono ?_; rintro e w3 ⟨rfl, k3, hS3⟩))
 have k4 := kx2.then k3
 have hR4 : Rt w2 base [V] := fun x hx => by
  rw [List.mem_singleton] at hx
  subst hx
  obtain ⟨_, _, hh, _⟩ := hS2
  exact ⟨hbase.2, _, _, _, hh, by simp⟩
 have q := k4.heap q (by simpa using hVQ.symm)
 have K0 := k4.heap K0 (by simpa using hVK.symm)
 have hW3 := hW2.keep k4 (hR4.cells hW2.1 (by simp)) (hR4.map hW2.2)
 have hB3 := hB2.keepT k4 hR4
 have hz : Bs w2 (some ⟨g, 0, none⟩) (bytT (vs b) t) ∧ Bt w2 g ∧ K ≤ g := by
  rcases ho2.2 with ⟨e, h0⟩ | ⟨g', cap, cur, e, hA, hgt, _⟩
  ·cases h0
  ·cases e; exact ⟨Bs.own ho2, ⟨_, hgt⟩, hA⟩
 have hgV : g ∉ [V] := hR4.cells hz.2.1.choose_spec (by simp)
 have kw3 : Chg [V] w w3 := (kk.mono (fun x hx _ => by cases hx)).then k4
 have hRw : Rt w base [V] := fun x hx => by
  rw [List.mem_singleton] at hx
  subst hx
  obtain ⟨_, _, hh, _⟩ := hS
  exact ⟨hbase.2, _, _, _, hh, by simp⟩
 have ho3 := ownsRow_chgV ho k4 hS2.choose_spec.choose_spec.1
 obtain ⟨cur, hg3, hcur⟩ : ∃ cur, w3.heap[g]? = some (.cells cur 5 (0, 0)) ∧ cur.size = c' * 1 ∧ cur.toList.take (40 * 1) = Lib.byteCells (bytT (vs b) t) := by
  rcases ho2.2 with ⟨e, h0⟩ | ⟨g', cap, cur, e, hA, hgt, _, _, hsz, htk⟩
  ·cases h0
  ·cases e; exact ⟨cur, k4.heap hgt hgV, hsz, htk⟩
 have HC := Lib.hid hcur
 clear hcur
 have hgK := hz.2.2
 clear q3 a0 a1 hW2 hB2 hS2 hz ho2 kx kx2 kx0 k3 k4 hR4 hgV hX hW hS kk hbw hB
 clear ho
 have a0 : w3.cell? ⟨K, 0, none⟩ = some (.int .i64 b) := cell_is K0 0 rfl
 have a1 : w3.cell? ⟨K, 1, none⟩ = some (.int .i64 1) := cell_is K0 1 rfl
 have q1 : w3.cell? ⟨Q, 1, none⟩ = some (.pointer (some ⟨W, 0, none⟩)) := cell_is q 1 rfl
 have q4 : w3.cell? ⟨Q, 4, none⟩ = some s := cell_is q 4 rfl
 go_wp2_with fail
 go_step3
 go_wp2_with fail
 have hb0 : IntKind.i64.wrap b = b := by rw [IntKind.wrap_i64]; omega
 go_loopw [55] (fun i wr => (i = .int .i64 0 ∧ wr = w3) ∨ (i = .int .i64 1 ∧ ∃ T, Chg T w wr ∧ Rt w base T ∧ RdX w wr Q V T ∧ Bs wr (some ⟨g, 0, none⟩) l ∧ VwT wr base Q X W V t (n + 1) ∧ SpV wr base V (n + 1))) (fun i _ => 1 - (intOf i).toNat)
 case atStart => exact Or.inl ⟨rfl, rfl⟩
 case round =>
  rcases hrel with ⟨rfl, rfl⟩ | ⟨rfl, T, kT, hT, hX9, hBs, hVw, hSp⟩
  ·rcases hB3 with ⟨hg0, rfl⟩ | ⟨gb, cb, hg1, hbs, hl40, hbt⟩
   ·go_wp2_with fail
    go_region_held3 (fun wx => wx.cell? ⟨Q, 1, none⟩ = some (.pointer (some ⟨W, 0, none⟩)) ∧ wx.cell? ⟨K, 0, none⟩ = some (.int .i64 b)) (first | (exact ⟨q1, a0⟩))
     (first | (go_at_call 217; refine (bget_none wr.drew (hW3.keep (Chg.refl [] wr).drew (by simp) (by simp)) hg0).mono ?_; rintro e wa ⟨rfl, rfl⟩))
    have k7 : Chg [] wr wr.drew := (Chg.refl [] wr).drew
    have hgb : wr.drew.heap[g]? = some (.cells cur 5 (0, 0)) := hg3
    have qb : ViewT wr.drew Q X W V t s := q
    have Kb : wr.drew.heap[K]? = some (.cells #[.int .i64 b, .int .i64 1] 79 (0, 0)) := K0
    have ob := ownsRow_chg ho3 k7
    have sb := hS3.keep0 k7
    have k9 : Chg [V] w wr.drew := kw3.drew
    have hBb : Bs wr.drew (some ⟨g, 0, none⟩) (bytT (vs b) t) := Bs.block hgb (by have := HC.out.2; rw [HY.out]; simpa using this)
    have hKQ : K ≠ Q := heap_ne Kb qb (by simp)
    have hgQ : Q ∉ [g] := by simpa using heap_ne qb hgb (by simp)
    clear hg3 q K0 ho3 hS3 kw3 k7 hW3 q1 a0 a1 q4
    generalize wr.drew = wb at *
    have a0 : wb.cell? ⟨K, 0, none⟩ = some (.int .i64 b) := cell_is Kb 0 rfl
    have q4 : wb.cell? ⟨Q, 4, none⟩ = some s := cell_is qb 4 rfl
    have a0d : wb.drew.cell? ⟨K, 0, none⟩ = some (.int .i64 b) := a0
    have q4d : wb.drew.cell? ⟨Q, 4, none⟩ = some s := q4
    have HBb := Lib.hid hBb
    go_wp2_with fail
    go_region_law
     (first
      | (go_simp; go_at_call 126; refine (clone_bs wb.drew (l := bytT (vs b) t) (m := 40) HY.out (by decide) (by decide) (HBb.out.chg (Chg.refl [] wb).drew)).mono ?_; rintro e w6 ⟨g2, c2, rfl, k6, _, _⟩; have a06 := k6.cell a0d (by simp); have q46 := k6.cell q4d (by simp); have ky : Chg [] wb (w6.alloc (.cells #[.int .i64 b, .slice (some ⟨g2, 0, none⟩) 40 c2, .bool false] 255)) := ((Chg.refl [] wb).drew.then k6).then_alloc _; have y0 := heap_new w6 (.cells #[.int .i64 b, .slice (some ⟨g2, 0, none⟩) 40 c2, .bool false] 255); have oy := ownsRow_chg ob ky; have qy := ky.heap qb (by simp); have q4y := cell_is qy 4 rfl; have a0y := cell_is (ky.heap Kb (by simp)) 0 rfl; have hQn := own_block_ne oy qy (by decide); have hby : base ≤ (w6.alloc (.cells #[.int .i64 b, .slice (some ⟨g2, 0, none⟩) 40 c2, .bool false] 255)).heap.size := (by have := heap_lt qy; omega); have gy := ky.heap hgb (by simp); have hgn := own_block_ne oy gy (by decide))
      | (refine step_append_rx rfl (.tmp 100) (.tmp 108) rfl base _ m xs rfl oy w6.heap.size 1 _ _ _ rfl (cell_is y0 0 rfl) (cell_is y0 1 rfl) (cell_is y0 2 rfl) ⟨rfl, rfl, rfl⟩ (by omega) hby ?_; intro g5 cp5 w5 o5 k5 l5; have q5 := k5.heap qy hQn; have q45 := cell_is q5 4 rfl; have f45 := unfrozen q5 4))
    all_goals
     have HZ := Lib.hid (gread_endx HRt k9 ky hm HBb.out gy hgn hgQ oy qy hQn (sb.keep0 ky) (g5 := g5) (cp5 := cp5) (w5 := w5) o5 k5 l5 HS0.out)
     clear HBb gy hgn sb o5 k5 q5 f45 q45 hBb
     go_wp2_with fail
     go_roundw
     case rel => exact Or.inr ⟨rfl, HZ.out⟩
     case measure => decide
   ·have HG := Lib.hid hg1
    have HL := Lib.hid hl40
    have HB := Lib.hid hbs
    clear hg1 hl40 hbs
    go_wp2_with fail
    go_region_held3 (fun wx => wx.cell? ⟨Q, 1, none⟩ = some (.pointer (some ⟨W, 0, none⟩)) ∧ wx.cell? ⟨K, 0, none⟩ = some (.int .i64 b)) (first | (exact ⟨q1, a0⟩) | (exact ⟨k6.cell q1 (by simp), k6.cell a0 (by simp)⟩))
     (first | (go_at_call 217; refine (bget_some wr.drew (hW3.keep (Chg.refl [] wr).drew (by simp) (by simp)) HG.out HB.out HL.out).mono ?_; rintro e wa ⟨g2, c2, rfl, k6, hbs6, l6⟩))
    have k7 := (Chg.refl [] wr).drew.then k6
    have hga := k7.heap hg3 (by simp)
    have hqa := k7.heap q (by simp)
    have hKa := k7.heap K0 (by simp)
    have hoa := ownsRow_chg ho3 k7
    have hSa := hS3.keep0 k7
    have k8 := kw3.then (k7.mono (T := [V]) (fun x hx _ => by cases hx))
    have hsrc : ∀ j v, (Lib.byteCells l)[j]? = some v → wa.cell? ((⟨g2, 0, none⟩ : Addr).add j) = some v := hbs6.cells_at
    have hlc : (Lib.byteCells l).length = 40 := by simpa [Lib.byteCells] using HL.out
    have H1 := Lib.hid hsrc
    have H2 := Lib.hid hlc
    have hfit : 0 + (Lib.byteCells l).length ≤ cur.size := by have := HC.out.1; omega
    have H3 := Lib.hid hfit
    clear hsrc hlc hfit
    go_wp2_with (refine wpList_copy_own rfl (.tmp 78) (.tmp 79) 47 47 rfl 5 ty23 (by kernel_rfl) g 0 40 c' ⟨g2, 0, none⟩ 40 c2 rfl rfl cur 5 hga (Lib.byteCells l) H2.out H1.out H3.out (fun v hv => byteCells_one l v hv) ?_)
    have kb : Chg [g] wa (wa.setRow g (List.take 0 cur.toList ++ (Lib.byteCells l ++ List.drop (0 + (Lib.byteCells l).length) cur.toList)).toArray) := chg_setRow _ _ _
    have hgb := setRow_heap wa g cur (List.take 0 cur.toList ++ (Lib.byteCells l ++ List.drop (0 + (Lib.byteCells l).length) cur.toList)).toArray 5 (0, 0) hga
    have hBb : Bs (wa.setRow g (List.take 0 cur.toList ++ (Lib.byteCells l ++ List.drop (0 + (Lib.byteCells l).length) cur.toList)).toArray) (some ⟨g, 0, none⟩) l := Bs.block hgb (by rw [HL.out, List.take_zero, List.nil_append, List.toList_toArray]; rw [show (40 : Nat) = (Lib.byteCells l).length from H2.out.symm]; exact List.take_left)
    generalize hwb : (wa.setRow g (List.take 0 cur.toList ++ (Lib.byteCells l ++ List.drop (0 + (Lib.byteCells l).length) cur.toList)).toArray) = wb at *
    clear hwb
    generalize (List.take 0 cur.toList ++ (Lib.byteCells l ++ List.drop (0 + (Lib.byteCells l).length) cur.toList)).toArray = Cb at hgb
    simp only [Act.put, List.setIfInBounds_toArray, List.set_cons_zero, List.set_cons_succ]
    have hgQ : Q ∉ [g] := by simpa using heap_ne hqa hga (by simp)
    have hgK2 : K ∉ [g] := by simpa using heap_ne hKa hga (by simp)
    have qb := kb.heap hqa hgQ
    have Kb := kb.heap hKa hgK2
    have ob := ownsRow_chg2 hoa kb hga
    have sb := hSa.keep kb (fun x hx cs t fr hh => by rw [List.mem_singleton] at hx; subst hx; rw [hga] at hh; cases hh; simp)
    have k9 : Chg [V] w wb := k8.trans kb (fun x hx hlt => by rw [List.mem_singleton] at hx; omega)
    have hKQ : K ≠ Q := heap_ne Kb qb (by simp)
    clear hga hqa hKa hoa hSa k7 k8 kb H1 H2 H3 hbs6 k6
    have a0 : wb.cell? ⟨K, 0, none⟩ = some (.int .i64 b) := cell_is Kb 0 rfl
    have q4 : wb.cell? ⟨Q, 4, none⟩ = some s := cell_is qb 4 rfl
    have ky : Chg [] wb (wb.drew.alloc (.cells #[.int .i64 b, .slice (some ⟨g2, 0, none⟩) 40 c2, .bool true] 255)) := (Chg.refl [] wb).drew.then_alloc _
    have y0 := heap_new wb.drew (.cells #[.int .i64 b, .slice (some ⟨g2, 0, none⟩) 40 c2, .bool true] 255)
    have oy := ownsRow_chg ob ky
    have qy := ky.heap qb (by simp)
    have Ky := ky.heap Kb (by simp)
    have q4y := cell_is qy 4 rfl
    have a0y := cell_is Ky 0 rfl
    have hQn := own_block_ne oy qy (by decide)
    have hKn := own_block_ne oy Ky (by decide)
    have hby : base ≤ (wb.drew.alloc (.cells #[.int .i64 b, .slice (some ⟨g2, 0, none⟩) 40 c2, .bool true] 255)).heap.size := by have := heap_lt qy; omega
    have q4d : wb.drew.cell? ⟨Q, 4, none⟩ = some s := q4
    have q4e : (wb.alloc (.cells #[.int .i64 b, .slice (some ⟨g2, 0, none⟩) 40 c2, .bool true] 255)).cell? ⟨Q, 4, none⟩ = some s := q4y
    have a0e : (wb.alloc (.cells #[.int .i64 b, .slice (some ⟨g2, 0, none⟩) 40 c2, .bool true] 255)).cell? ⟨K, 0, none⟩ = some (.int .i64 b) := a0y
    have a0d : wb.drew.cell? ⟨K, 0, none⟩ = some (.int .i64 b) := a0
    have gy := ky.heap hgb (by simp)
    have hgn := own_block_ne oy gy (by decide)
    have HF := Lib.hid (fun (g5 cp5 : Nat) (w5 : World) (o5 : w5.ownsRow base 255 3 (.slice (some ⟨g5, 0, none⟩) (m + 1) cp5) (m + 1) (xs ++ [.int .i64 b, .slice (some ⟨g2, 0, none⟩) 40 c2, .bool true])) (k5 : Chg s.ownBlock.toList (wb.drew.alloc (.cells #[.int .i64 b, .slice (some ⟨g2, 0, none⟩) 40 c2, .bool true] 255)) w5) (l5 : s.ownBlock = some g5 ∨ g5 = (wb.drew.alloc (.cells #[.int .i64 b, .slice (some ⟨g2, 0, none⟩) 40 c2, .bool true] 255)).heap.size) =>
     gread_endx HRt k9 ky hm hBb gy hgn hgQ oy qy hQn (sb.keep0 ky) o5 k5 l5 HS0.out)
    clear hBb gy hgn sb
    go_region_law
     (first | (refine step_append_rx rfl (.tmp 85) (.tmp 92) rfl base _ m xs rfl oy wb.drew.heap.size 1 _ _ _ rfl (cell_is y0 0 rfl) (cell_is y0 1 rfl) (cell_is y0 2 rfl) ⟨rfl, rfl, rfl⟩ (by omega) hby ?_; intro g5 cp5 w5 o5 k5 l5; have q5 := k5.heap qy hQn; have q45 := cell_is q5 4 rfl; have f45 := unfrozen q5 4; have a05 := k5.cell a0y hKn))
    all_goals
     have HZ := Lib.hid (HF.out g5 cp5 w5 o5 k5 l5)
     clear HF o5 k5 q5 f45 q45
     go_wp2_with fail
     go_roundw
     case rel => exact Or.inr ⟨rfl, HZ.out⟩
     case measure => decide
  ·have hgw : w.heap.size ≤ g := by omega
   go_wp2_with fail
   simp only [Exit.noGoto]
   go_ret2
   exact ⟨g, c', T, rfl, hc', kT, hT, hX9, hgw, hBs, hVw, hSp⟩
section
variable {base : Nat} {d : Ids} {p : Par} {F : World → Prop}
set_option maxRecDepth 100000 in
set_option maxHeartbeats 2000000 in
theorem tread_x (w : World) {q : Int → List UInt8} {L : List (Int × Value)} {n : Nat} {b : Int} (hf : Fr base d p F) (h : Su w base d p F q L n) (hn : n ≤ 60) (h0 : 0 ≤ b) (h1 : b < 258) :
  Calls Tryz.prog 99 #[.pointer (some ⟨d.M, 0, none⟩), .int .i64 p.h, .agg #[.int .i64 b, .int .i64 1]] w fun e w' =>
  ∃ g c', e = .returned (.tuple #[.slice (some ⟨g, 0, none⟩) 40 c', .int .i64 0]) ∧ 40 ≤ c' ∧ RdW base d w w' ∧ Su w' base d p F q L (n + 1) ∧ w.heap.size ≤ g ∧ Bs w' (some ⟨g, 0, none⟩) (q b) := by
 have k0 : Chg [] w (w.alloc (.cells #[.int .i64 b, .int .i64 1] 79)) := Chg.alloc w _
 have K0 := heap_new w (.cells #[.int .i64 b, .int .i64 1] 79)
 have hlt : d.Q < w.heap.size := (by obtain ⟨_, _, _, hq, -, -⟩ := h.vw; exact heap_lt hq)
 have h2 := h.keep hf k0
 have HO := Lib.hid (topen_gen _ (hf.need _ h2.env) h2.tx)
 clear h
 go_enter Tryz.func99, Tryz.ntmps99
 go_wp2_with fail
 generalize w.alloc (.cells #[.int .i64 b, .int .i64 1] 79) = w1 at *
 generalize hK : w.heap.size = K at *
 refine HO.out.mono ?_
 rintro e w2 ⟨rfl, rfl⟩
 have t5 : w1.cell? ⟨d.T, 5, none⟩ = some (.pointer (some ⟨d.Q, 0, none⟩)) := cell_is h2.tx 5 rfl
 have a0 : w1.cell? ⟨K, 0, none⟩ = some (.int .i64 b) := cell_is K0 0 rfl
 have a1 : w1.cell? ⟨K, 1, none⟩ = some (.int .i64 1) := cell_is K0 1 rfl
 go_wp2_with fail
 have hbuf := h2.buf
 have hq := h2.blk
 have h3 := h2.keep hf (Chg.refl [] w1).drew
 go_region_held3 (fun wx => wx.cell? ⟨d.T, 5, none⟩ = some (.pointer (some ⟨d.Q, 0, none⟩)) ∧ wx.cell? ⟨K, 0, none⟩ = some (.int .i64 b) ∧ wx.cell? ⟨K, 1, none⟩ = some (.int .i64 1))
  (first | (exact ⟨t5, a0, a1⟩) | (exact ⟨cell_is t6 5 rfl, cell_is K6 0 rfl, cell_is K6 1 rfl⟩))
  (first | (go_at_call 170; refine (gread_x w1.drew (hf.need _ h3.env).ver (hbuf.keep (Chg.refl [] w1).drew (by simp) (by simp)) (hq b h0 h1) h3.vw h3.sp hn ⟨h3.high.1, h3.high.2.1⟩ h0 h1).mono ?_; rintro e w6 ⟨g, c', T, rfl, hc', k6, hT, hX9, hg, hB6, hV6, hS6⟩; have t6 := k6.heap h3.tx (hT.cells h3.tx (by simp)); have K6 := k6.heap K0 (hT.cells K0 (by simp))))
 have hlow : ∀ x ∈ T, base ≤ x := fun x hx => (hT x hx).1
 have how0 : Ow base w1.drew w6 := ow_rt k6 hT
 have hfin : Su w6 base d p F q L (n + 1) := ⟨hf.keep _ _ how0 h3.env, t6, (hbuf.keep (Chg.refl [] w1).drew (by simp) (by simp)).keep k6 (hT.cells hbuf.1 (by simp)) (hT.map hbuf.2), h2.keys, fun x hx hx' => ((hq x hx hx').keep (Chg.refl [] w1).drew).keepT k6 hT, hV6, hS6, h3.high⟩
 have how : RdW base d w w6 := RdW.mk k0.drew k6 hT hX9 h2.vw (Chg.refl [] w1).drew (by omega)
 have hsz : w.heap.size ≤ g := by have := k0.size; have h9 : w1.drew.heap.size = w1.heap.size := rfl; omega
 clear hq hbuf h2 h3 hV6 hS6 k6 hT t6 K6 how0
 go_wp2_with fail
 go_ret2
 exact ⟨g, c', rfl, hc', how, hfin, hsz, hB6⟩
set_option maxRecDepth 100000 in
set_option maxHeartbeats 2000000 in
theorem sread_x (w : World) {q : Int → List UInt8} {L : List (Int × Value)} {n : Nat} {b : Int} (hf : Fr base d p F) (h : Su w base d p F q L n) (hn : n ≤ 60) (h0 : 0 ≤ b) (h1 : b < 258) :
  Calls Tryz.prog 39 #[.pointer (some ⟨d.P, 0, none⟩), .int .i64 p.h, .agg #[.int .i64 b, .int .i64 1]] w fun e w' =>
  ∃ g c', e = .returned (.tuple #[.slice (some ⟨g, 0, none⟩) 40 c', .int .i64 0]) ∧ 40 ≤ c' ∧ RdW base d w w' ∧ Su w' base d p F q L (n + 1) ∧ w.heap.size ≤ g ∧ Bs w' (some ⟨g, 0, none⟩) (q b) := by
 have k0 : Chg [] w (w.alloc (.cells #[.int .i64 b, .int .i64 1] 79)) := Chg.alloc w _
 have K0 := heap_new w (.cells #[.int .i64 b, .int .i64 1] 79)
 have hlt : d.Q < w.heap.size := (by obtain ⟨_, _, _, hq, -, -⟩ := h.vw; exact heap_lt hq)
 have h2 := h.keep hf k0
 have HO := Lib.hid (dead_gen _ (hf.need _ h2.env))
 clear h
 go_enter Tryz.func39, Tryz.ntmps39
 go_wp2_with fail
 generalize w.alloc (.cells #[.int .i64 b, .int .i64 1] 79) = w1 at *
 generalize hK : w.heap.size = K at *
 refine HO.out.mono ?_
 rintro e w2 ⟨rfl, rfl⟩
 have t5 : w1.cell? ⟨d.P, 5, none⟩ = some (.pointer (some ⟨d.M, 0, none⟩)) := (hf.need _ h2.env).p5
 have a0 : w1.cell? ⟨K, 0, none⟩ = some (.int .i64 b) := cell_is K0 0 rfl
 have a1 : w1.cell? ⟨K, 1, none⟩ = some (.int .i64 1) := cell_is K0 1 rfl
 go_wp2_with fail
 have h3 := h2.keep hf (Chg.refl [] w1).drew
 go_region_held3 (fun wx => wx.cell? ⟨d.P, 5, none⟩ = some (.pointer (some ⟨d.M, 0, none⟩)) ∧ wx.cell? ⟨K, 0, none⟩ = some (.int .i64 b) ∧ wx.cell? ⟨K, 1, none⟩ = some (.int .i64 1))
  (first | (exact ⟨t5, a0, a1⟩) | (exact ⟨t6, cell_is K6 0 rfl, cell_is K6 1 rfl⟩))
  (first | (go_at_call 99; refine (tread_x w1.drew hf h3 hn h0 h1).mono ?_; rintro e w6 ⟨g, c', rfl, hc', k6, h6, hg, hB6⟩; have t6 := (hf.need _ h6.env).p5; have K6 := k6.ow.heap K0 (by simp)))
 have hQ4 : d.Q < w.heap.size := (by omega)
 have hsz : w.heap.size ≤ g := by have := k0.size; have h9 : w1.drew.heap.size = w1.heap.size := rfl; omega
 have how := k6.ahead k0.drew hQ4
 clear h2 h3 t6 K6 k6
 go_wp2_with fail
 go_ret2
 exact ⟨g, c', rfl, hc', how, h6, hsz, hB6⟩
end
set_option maxRecDepth 100000 in
theorem sbegin_q (w : World) {lw : Nat} {d : Ids} {s : Gs} {g : Gd} (h : Sto w lw d s g) (hLb : s.Lb = []) (h0 : 0 ≤ s.last) (h1 : s.last ≤ 1099511627776) (hb0 : 0 ≤ s.bl) (hb1 : s.bl ≤ 1000000) :
  Calls Tryz.prog 16 #[.pointer (some ⟨d.P, 0, none⟩)] w fun e w' => e = .returned (.tuple #[.int .i64 (s.bl + 1), .int .i64 0]) ∧ BegT w w' lw d s g ∧ Chg [d.B, d.rb, d.r] w w' := by
 have HD := Lib.hid (dead_g w h.store)
 have p5 : w.cell? ⟨d.P, 5, none⟩ = some (.pointer (some ⟨d.M, 0, none⟩)) := cell_is h.store 5 rfl
 have HB := Lib.hid (tbegin_gen w h.mx hLb h0 h1 hb0 hb1)
 have HS := Lib.hid h
 clear h hLb h0 h1 hb0 hb1
 go_enter Tryz.func16, Tryz.ntmps16
 go_wp2_with fail
 refine HD.out.mono ?_
 rintro e w1 ⟨rfl, rfl⟩
 go_wp2_with fail
 refine HB.out.mono ?_
 rintro e w1 ⟨rfl, T, W, rw, Q, V, k1, hx, hT, hb, hv, hs, n1, n2, n3, b1, b2, b3, b4, b5⟩
 have hF : BegT w w1 lw d s g := by
  have hS := HS.out
  have avB : Av w [d.B, d.rb, d.r] [102, 210, 5, 128, 129, 132, 47] := fun x hx cs t fr hh => by
   simp at hx
   rcases hx with rfl | rfl | rfl
   ·rw [hS.mx.book.1] at hh; cases hh; simp
   ·exact absurd rfl (map_cells hS.mx.book.2 hh)
   ·exact absurd rfl (map_cells hS.mx.map hh)
  have sub : ∀ ts : List Nat, (∀ t ∈ ts, t ∈ [102, 210, 5, 128, 129, 132, 47]) → Av w [d.B, d.rb, d.r] ts := fun ts hts x hx cs t fr hh ht => avB x hx cs t fr hh (hts t ht)
  have hSto : Sto w1 lw { d with T := T, W := W, rw := rw, Q := Q, V := V } (begS s T) g :=
   ⟨k1.heap hS.store (avB.ne hS.store (by simp)), k1.heap hS.slot (avB.ne hS.slot (by simp)), hS.text.keep k1 (sub _ (by decide)), hS.dev.keep k1 (sub _ (by decide)), hx, hS.ap, hS.keys, hS.bnd, hS.bndZ, Nat.le_trans hS.slo k1.size, hS.dlo⟩
  refine ⟨T, W, rw, Q, V, ⟨[d.B, d.rb, d.r], k1, fun x hx _ => ?_⟩, b1, hSto, hT, hb, (fun x hx => by cases hx), fun b _ _ => Or.inl ⟨rfl, rfl⟩, ⟨_, 0, [], hv, Nat.zero_le _, World.ownsRow_nil _ _ _ _⟩, ⟨_, [], hs, Nat.le_refl _, World.ownsRow_nil _ _ _ _⟩, b4, b5, b3⟩
  have hbn := hS.bnd
  simp at hx
  rcases hx with rfl | rfl | rfl
  ·exact ⟨by omega, fun cs t fr hh => by rw [hS.mx.book.1] at hh; cases hh; simp⟩
  ·exact ⟨by omega, fun cs t fr hh => absurd rfl (map_cells hS.mx.book.2 hh)⟩
  ·exact ⟨by omega, fun cs t fr hh => absurd rfl (map_cells hS.mx.map hh)⟩
 have HF := Lib.hid (And.intro hF k1)
 clear hF hx hT hb hv hs k1 b1 b2 b3 b4 b5 n1 n2 n3
 go_wp2_with fail
 go_ret2
 exact ⟨rfl, HF.out⟩
def Nl0 (v : Value) : Prop := ∃ p c, v = .slice p 0 c
def FsR (so : Option Nat) (w w' : World) : Prop := ∃ U, Chg U w w' ∧ ∀ x ∈ U, ∀ cs t fr, w.heap[x]? = some (.cells cs t fr) → t ∉ [120, 167, 180, 173, 247, 163, 259, 185, 50, 79, 5] ∧ (t = 3 → cs.size = 0) ∧ (t = 255 → so = some x)
theorem FsR.of_chg {so : Option Nat} {w w' : World} (h : Chg [] w w') : FsR so w w' := ⟨[], h, fun x hx => by cases hx⟩
structure RfO (w : World) (lo G Y D V U n k : Nat) (Tv : Value) (xs : List Value) (num giv dn : Int) (L : List (Int × Int × List UInt8)) (S : List (Int × Int)) (P : List (Int × List UInt8)) : Prop where
 m : ∃ a b qv qhv, RmS w G Y a b Tv qv qhv (n + 1 : Nat) num giv dn 0 ∧ Int1 w a (n + 1 : Nat) ∧ Int1 w b dn ∧ Nl0 qv ∧ Nl0 qhv
 T : w.ownsRow lo 163 1 Tv (n + 1) (xs ++ [.pointer (some ⟨D, 0, none⟩)])
 d : RtAt w D V U 1 0 0
 v : RvAt w lo V Y U dn S k
 u : RbAt w U P
 y : RyAt w Y L dn
 low : lo ≤ G ∧ lo ≤ Y ∧ lo ≤ D ∧ lo ≤ V ∧ lo ≤ U ∧ lo ≤ w.heap.size
theorem RfO.keepS {w w' : World} {so : Option Nat} {lo G Y D V U n k : Nat} {Tv : Value} {xs : List Value} {num giv dn : Int} {L : List (Int × Int × List UInt8)} {S : List (Int × Int)} {P : List (Int × List UInt8)} (h : RfO w lo G Y D V U n k Tv xs num giv dn L S P) (hk : FsR so w w') (hne : ∀ rv, w.cell? ⟨V, 5, none⟩ = some rv → ∀ g, rv.ownBlock = some g → so ≠ some g) : RfO w' lo G Y D V U n k Tv xs num giv dn L S P ∧ w'.cell? ⟨V, 5, none⟩ = w.cell? ⟨V, 5, none⟩ := by
 obtain ⟨X, h1, h2⟩ := hk
 have av : Av w X [120, 167, 180, 173, 247, 163, 259, 185, 50, 79, 5] := fun x hx cs t fr hh ht => (h2 x hx cs t fr hh).1 ht
 have sub : ∀ ts : List Nat, (∀ t ∈ ts, t ∈ [120, 167, 180, 173, 247, 163, 259, 185, 50, 79, 5]) → Av w X ts := fun ts hts x hx cs t fr hh ht => av x hx cs t fr hh (hts t ht)
 have i3 : ∀ g ∈ X, ∀ cs fr, w.heap[g]? = some (.cells cs 3 fr) → cs.size = 0 := fun g hg cs fr hh => (h2 g hg cs 3 fr hh).2.1 rfl
 have own : ∀ {base e size n : Nat} {v : Value} {xs : List Value}, w.ownsRow base e size v n xs → e ∈ [120, 167, 180, 173, 247, 163, 259, 185, 50, 79, 5] → w'.ownsRow base e size v n xs := fun ho he => own_kp ho h1 (fun g hg hm => by
  obtain ⟨-, cs, hh⟩ := own_elem ho hg
  exact (h2 g hm cs _ _ hh).1 he)
 obtain ⟨a, b, qv, qhv, m1, m2, m3, m4, m5⟩ := h.m
 obtain ⟨sv, rv, xr, v1, v2, v3⟩ := h.v
 have hv' := h1.heap v1 (av.ne v1 (by simp))
 refine ⟨⟨⟨a, b, qv, qhv, h1.heap m1 (av.ne m1 (by simp)), m2.keepT h1 i3, m3.keepT h1 i3, m4, m5⟩, own h.T (by simp), h1.heap h.d (av.ne h.d (by simp)), ⟨sv, rv, xr, hv', own v2 (by simp), own_kp v3 h1 (fun g hg hm => ?_)⟩, h.u.keepA h1 (sub _ (by decide)), h.y.keepA h1 (sub _ (by decide)), ⟨h.low.1, h.low.2.1, h.low.2.2.1, h.low.2.2.2.1, h.low.2.2.2.2.1, Nat.le_trans h.low.2.2.2.2.2 h1.size⟩⟩, ?_⟩
 ·obtain ⟨-, cs, hh⟩ := own_elem v3 hg
  exact hne rv (cell_is v1 5 rfl) g hg ((h2 g hm cs _ _ hh).2.2 rfl)
 ·rw [cell_is hv' 5 rfl, cell_is v1 5 rfl]
def s00 (lw : Nat) : Gs := ⟨.slice none 0 0, 0, 0, 0, 0, 0, false, lw, 0, [], fun _ => [], 0, [], []⟩
def g00 (lw : Nat) (ops : Int) : Gd := ⟨0, 0, 1, .slice none 0 0, 0, lw, ops, fun _ => .slice none 0 0, fun _ => 0, fun _ => []⟩
def d00 (N A c : Nat) (Z : List Nat) (P S M X rx B rb r : Nat) : Ids := ⟨P, N, S, M, X, rx, B, rb, r, A, c, Z, 0, 0, 0, 0, 0⟩
theorem Mk.sto {w wx : World} {lw N A c : Nat} {ops : Int} {Z : List Nat} {P S M X rx B rb r : Nat} (h : Mk w wx N A c ops Z P S M X rx B rb r) (hx : ExAt wx S N A Z) (n1 : rx ≠ rb) (n2 : r ≠ rb) (n3 : r ≠ rx) (hb : lw ≤ P ∧ lw ≤ N ∧ lw ≤ S ∧ lw ≤ M ∧ lw ≤ X ∧ lw ≤ rx ∧ lw ≤ B ∧ lw ≤ rb ∧ lw ≤ r) (hZ : ∀ z ∈ Z, lw ≤ z) (hl : lw ≤ wx.heap.size) :
  Sto wx lw (d00 N A c Z P S M X rx B rb r) (s00 lw) (g00 lw ops) := by
 obtain ⟨k2, hD2, hP2, hS2, hm2, hx2, hb2, hr2⟩ := h
 exact ⟨hP2, hS2, Or.inl rfl, hD2.full hx lw, ⟨hm2, hx2.full lw, hb2, hr2, n1, n2, n3⟩, fun b c v u g _ h => (by cases h), fun p hp => (by cases hp), ⟨hb.1, hb.2.1, hb.2.2.1, hb.2.2.2.1, hb.2.2.2.2.1, hb.2.2.2.2.2.1, hb.2.2.2.2.2.2.1, hb.2.2.2.2.2.2.2.1, hb.2.2.2.2.2.2.2.2, Nat.le_refl _, Nat.le_refl _⟩, hZ, hl, hb.2.1⟩
theorem fs_begin {w w' : World} {lw : Nat} {d : Ids} {s : Gs} {g : Gd} (h : Sto w lw d s g) (k : Chg [d.B, d.rb, d.r] w w') : FsR none w w' := by
 refine ⟨_, k, fun x hx cs t fr hh => ?_⟩
 simp only [List.mem_cons, List.not_mem_nil, or_false] at hx
 rcases hx with rfl | rfl | rfl
 ·rw [h.mx.book.1] at hh; cases hh; exact ⟨by decide, fun e => absurd e (by decide), fun e => absurd e (by decide)⟩
 ·exact absurd rfl (map_cells h.mx.book.2 hh)
 ·exact absurd rfl (map_cells h.mx.map hh)
theorem fs_read {base n : Nat} {d : Ids} {w w' : World} {t : Int} (h : RdW base d w w') (hv : VwT w base d.Q d.X d.W d.V t n) (hs : SpV w base d.V n) : ∃ s, w.cell? ⟨d.Q, 4, none⟩ = some s ∧ FsR s.ownBlock w w' := by
 obtain ⟨T, h1, h2, s, s', e1, e2, e3, e4⟩ := h
 refine ⟨s, e1, T, h1, fun x hx cs t fr hh => ?_⟩
 obtain ⟨sv, m, xs, q1, q2, q3⟩ := hv
 obtain ⟨v, l, p1, -⟩ := hs
 rcases e3 x hx with rfl | rfl | hx'
 ·rw [show w.heap[d.V]? = _ from p1] at hh; cases hh; exact ⟨by decide, fun e => absurd e (by decide), fun e => absurd e (by decide)⟩
 ·rw [show w.heap[d.Q]? = _ from q1] at hh; cases hh; exact ⟨by decide, fun e => absurd e (by decide), fun e => absurd e (by decide)⟩
 ·rcases (h2 x hx).2 cs t fr hh with rfl | rfl | rfl
  ·exact ⟨by decide, fun e => absurd e (by decide), fun _ => hx'⟩
  ·exact ⟨by decide, fun e => absurd e (by decide), fun _ => hx'⟩
  ·exact ⟨by decide, fun e => absurd e (by decide), fun _ => hx'⟩
theorem fs_write {w w' : World} {W rw : Nat} {L : List (Int × Value)} (h : BufAt w W rw L) (k : Chg [rw] w w') : FsR none w w' := by
 refine ⟨_, k, fun x hx cs t fr hh => ?_⟩
 rw [List.mem_singleton] at hx
 subst hx
 exact absurd rfl (map_cells h.2 hh)
theorem fs_cs {lw : Nat} {w w' : World} (h : Cs lw w w') : FsR none w w' := by
 obtain ⟨U, h1, h2⟩ := h
 refine ⟨U, h1, fun x hx cs t fr hh => ?_⟩
 have ht := (h2 x hx (heap_lt hh)).2 cs t fr hh
 exact (show ∀ t ∈ [102, 195, 203, 270, 288, 128, 132, 47, 265, 210], t ∉ [120, 167, 180, 173, 247, 163, 259, 185, 50, 79, 5] ∧ (t = 3 → cs.size = 0) ∧ (t = 255 → none = some x) by
  intro t ht
  simp only [List.mem_cons, List.not_mem_nil, or_false] at ht
  rcases ht with rfl | rfl | rfl | rfl | rfl | rfl | rfl | rfl | rfl | rfl <;> exact ⟨by decide, fun e => absurd e (by decide), fun e => absurd e (by decide)⟩) t ht
theorem fs_cq {lw : Nat} {w w' : World} (h : Cq lw 0 w w') : FsR none w w' := by
 obtain ⟨U, h1, h2⟩ := h
 refine ⟨U, h1, fun x hx cs t fr hh => ?_⟩
 rcases (h2 x hx (heap_lt hh)).2 cs t fr hh with rfl | rfl | ⟨rfl, e⟩
 ·exact ⟨by decide, fun e => absurd e (by decide), fun e => absurd e (by decide)⟩
 ·exact ⟨by decide, fun e => absurd e (by decide), fun e => absurd e (by decide)⟩
 ·exact ⟨by decide, fun _ => e, fun e => absurd e (by decide)⟩
def FxR (lo : Nat) (ro : Option Nat) (w w' : World) : Prop := ∃ U, Chg U w w' ∧ ∀ x ∈ U, x < w.heap.size → lo ≤ x ∧ ∃ cs t, w.heap[x]? = some (.cells cs t (0, 0)) ∧ (t ∈ [120, 163, 167, 180, 173, 247] ∨ t = 255 ∧ ro = some x)
theorem FxR.size {lo : Nat} {ro : Option Nat} {w w' : World} (h : FxR lo ro w w') : w.heap.size ≤ w'.heap.size := by obtain ⟨U, h1, -⟩ := h; exact h1.size
theorem FxR.avx {lo : Nat} {ro : Option Nat} {w : World} {U : List Nat} (h : ∀ x ∈ U, x < w.heap.size → lo ≤ x ∧ ∃ cs t, w.heap[x]? = some (.cells cs t (0, 0)) ∧ (t ∈ [120, 163, 167, 180, 173, 247] ∨ t = 255 ∧ ro = some x)) (ts : List Nat) (hts : ∀ t ∈ ts, t ∉ [120, 163, 167, 180, 173, 247, 255]) : Av w U ts := fun x hx cs t fr hh ht => by
 obtain ⟨-, cs', t', e1, e2⟩ := h x hx (heap_lt hh)
 rw [hh] at e1
 cases e1
 have := hts _ ht
 rcases e2 with e2 | ⟨rfl, -⟩
 ·exact this (List.mem_append_left [255] e2)
 ·exact this (by simp)
theorem FxR.map {lo : Nat} {ro : Option Nat} {w : World} {U : List Nat} {r : Nat} {L : List (Int × Value)} (h : ∀ x ∈ U, x < w.heap.size → lo ≤ x ∧ ∃ cs t, w.heap[x]? = some (.cells cs t (0, 0)) ∧ (t ∈ [120, 163, 167, 180, 173, 247] ∨ t = 255 ∧ ro = some x)) (hm : MapAt w r L) : r ∉ U := fun hx => by
 obtain ⟨-, cs', t', e1, -⟩ := h r hx hm.lt
 exact absurd rfl (map_cells hm e1)
theorem Sto.keepX {lo : Nat} {ro : Option Nat} {w w' : World} {lw : Nat} {d : Ids} {s : Gs} {g : Gd} (h : Sto w lw d s g) (k : FxR lo ro w w') : Sto w' lw d s g := by
 obtain ⟨U, h1, h2⟩ := k
 exact h.keepA h1 (FxR.avx h2 _ (by decide)) (FxR.map h2 h.mx.ver.m) (FxR.map h2 h.mx.book.2) (FxR.map h2 h.mx.map)
theorem Wtx.keepX {lo : Nat} {ro : Option Nat} {w w' : World} {d : Ids} {s : Gs} {gq cq : Nat} {hdl : Int} {k : Nat} {t t0 : Int} {L : List (Int × Value)} {D : Int → List UInt8} (h : Wtx w d s gq cq hdl k t t0 L D) (kx : FxR lo ro w w') : Wtx w' d s gq cq hdl k t t0 L D := by
 obtain ⟨U, h1, h2⟩ := kx
 exact h.keepA h1 (FxR.avx h2 _ (by decide)) (FxR.map h2 h.buf.2)
theorem Su.keepX {lo : Nat} {ro : Option Nat} {w w' : World} {base lw : Nat} {d : Ids} {p : Par} {s : Gs} {g : Gd} {q : Int → List UInt8} {L : List (Int × Value)} {n : Nat} (h : Su w base d p (StoF lw d s g) q L n) (kx : FxR lo ro w w') (hne : ∀ s g, w.cell? ⟨d.Q, 4, none⟩ = some s → s.ownBlock = some g → ro ≠ some g) : Su w' base d p (StoF lw d s g) q L n ∧ w'.cell? ⟨d.Q, 4, none⟩ = w.cell? ⟨d.Q, 4, none⟩ := by
 have hsto : Sto w' lw d s g := Sto.keepX h.env kx
 obtain ⟨U, h1, h2⟩ := kx
 obtain ⟨sv, m, xs, q1, q2, q3⟩ := h.vw
 have q1' : ViewT w' d.Q d.X d.W d.V p.t sv := h1.heap q1 ((FxR.avx h2 [274] (by decide)).ne q1 (by simp))
 refine ⟨⟨hsto, h1.heap h.tx ((FxR.avx h2 [203] (by decide)).ne h.tx (by simp)), h.buf.keep h1 ((FxR.avx h2 [267] (by decide)).ne h.buf.1 (by simp)) (FxR.map h2 h.buf.2), h.keys, fun b b0 b1 => ?_, ⟨sv, m, xs, q1', q2, own_kp q3 h1 (fun x hx hm => ?_)⟩, h.sp.keep h1 (FxR.avx h2 _ (by decide)), h.high⟩, ?_⟩
 ·rcases h.blk b b0 b1 with e | ⟨x, c, e1, e2, e3, e4⟩
  ·exact Or.inl e
  ·have hn : x ∉ U := Bt.av e4 (FxR.avx h2 [5] (by decide)) (by simp)
   exact Or.inr ⟨x, c, e1, e2.chgT h1 hn, e3, Bt.keep e4 h1 hn⟩
 ·obtain ⟨-, cs, hh⟩ := own_elem q3 hx
  obtain ⟨-, cs', t', e1, e2⟩ := h2 x hm (heap_lt hh)
  rw [hh] at e1
  cases e1
  rcases e2 with e2 | ⟨-, e2⟩
  ·exact absurd e2 (by decide)
  ·exact hne sv x (cell_is q1 4 rfl) hx e2
 ·rw [cell_is q1' 4 rfl, cell_is q1 4 rfl]
theorem RfO.open_ {w : World} {lo G Y D V U n k : Nat} {Tv : Value} {xs : List Value} {num giv dn : Int} {L : List (Int × Int × List UInt8)} {S : List (Int × Int)} {P : List (Int × List UInt8)} (h : RfO w lo G Y D V U n k Tv xs num giv dn L S P) (hn : n ≤ 100000) :
  Calls Tryz.prog 96 #[.pointer (some ⟨G, 0, none⟩), .int .i64 (n + 1 : Nat)] w fun e w' => e = .returned (.pointer (some ⟨D, 0, none⟩)) ∧ w = w' := by
 obtain ⟨a, b, qv, qhv, m1, -⟩ := h.m
 exact ropen_last w m1 h.T h.d hn
theorem RfO.keepR {w w' : World} {lo G Y D V U n k k' : Nat} {Tv : Value} {xs : List Value} {num giv dn : Int} {L : List (Int × Int × List UInt8)} {S S' : List (Int × Int)} {P : List (Int × List UInt8)} (h : RfO w lo G Y D V U n k Tv xs num giv dn L S P) (hv : RvAt w' lo V Y U dn S' k') (hr : RrX w w' V) : RfO w' lo G Y D V U n k' Tv xs num giv dn L S' P ∧ FxR lo ((w.cell? ⟨V, 5, none⟩).bind Value.ownBlock) w w' := by
 obtain ⟨rv, rv', T, r1, r2, kT, hT, r4⟩ := hr
 obtain ⟨sv, rv0, xr, v1, v2, v3⟩ := h.v
 have e5 := (cell_is v1 5 rfl).symm.trans r1
 have e6 : rv0 = rv := by cases e5; rfl
 rw [e6] at v1 v3
 have hTy : ∀ x ∈ T, x < w.heap.size → ∃ cs t, w.heap[x]? = some (.cells cs t (0, 0)) ∧ (t = 180 ∨ t = 255 ∧ rv.ownBlock = some x) := fun x hx hl => by
  rcases hT x hx hl with rfl | e
  ·exact ⟨_, _, v1, Or.inl rfl⟩
  ·obtain ⟨-, cs, hh⟩ := own_elem v3 e
   exact ⟨_, _, hh, Or.inr ⟨rfl, e⟩⟩
 have av : ∀ ts : List Nat, 180 ∉ ts → 255 ∉ ts → Av w T ts := fun ts h1 h2 x hx cs t fr hh ht => by
  obtain ⟨cs', t', e1, e2⟩ := hTy x hx (heap_lt hh)
  rw [hh] at e1
  cases e1
  rcases e2 with rfl | ⟨rfl, -⟩
  ·exact h1 ht
  ·exact h2 ht
 have i3 : ∀ g ∈ T, ∀ cs fr, w.heap[g]? = some (.cells cs 3 fr) → cs.size = 0 := fun g hg cs fr hh => absurd List.mem_cons_self (av [3] (by decide) (by decide) g hg _ _ _ hh)
 obtain ⟨a, b, qv, qhv, m1, m2, m3, m4, m5⟩ := h.m
 refine ⟨⟨⟨a, b, qv, qhv, kT.heap m1 ((av [120] (by decide) (by decide)).ne m1 (by simp)), m2.keepT kT i3, m3.keepT kT i3, m4, m5⟩, own_kp h.T kT (fun g hg hm => ?_), kT.heap h.d ((av [167] (by decide) (by decide)).ne h.d (by simp)), hv, h.u.keepA kT (av _ (by decide) (by decide)), h.y.keepA kT (av _ (by decide) (by decide)), ⟨h.low.1, h.low.2.1, h.low.2.2.1, h.low.2.2.2.1, h.low.2.2.2.2.1, Nat.le_trans h.low.2.2.2.2.2 kT.size⟩⟩, T, kT, fun x hx hl => ?_⟩
 ·obtain ⟨-, cs, hh⟩ := own_elem h.T hg
  exact av [163] (by decide) (by decide) g hm _ _ _ hh (by simp)
 ·have hlx : lo ≤ x := by
   rcases hT x hx hl with rfl | e
   ·exact h.low.2.2.2.1
   ·exact (own_elem v3 e).1
  obtain ⟨cs, t, e1, e2⟩ := hTy x hx hl
  refine ⟨hlx, cs, t, e1, ?_⟩
  rcases e2 with rfl | ⟨rfl, e⟩
  ·exact Or.inl (by simp)
  ·exact Or.inr ⟨rfl, by rw [r1]; exact e⟩
theorem FxR.heap {lo : Nat} {ro : Option Nat} {w w' : World} (h : FxR lo ro w w') {x : Nat} {cs : Array Value} {t : TypeId} (hh : w.heap[x]? = some (.cells cs t (0, 0))) (ht : t ∉ [120, 163, 167, 180, 173, 247, 255]) : w'.heap[x]? = some (.cells cs t (0, 0)) := by
 obtain ⟨U, h1, h2⟩ := h
 exact h1.heap hh ((FxR.avx h2 [t] (fun t' ht' => by rw [List.mem_singleton] at ht'; rw [ht']; exact ht)).ne hh (by simp))
theorem FxR.ahead {lo : Nat} {ro : Option Nat} {w w1 w' : World} (h : FxR lo ro w1 w') (k : Chg [] w w1) : FxR lo ro w w' := by
 obtain ⟨U, h1, h2⟩ := h
 refine ⟨U, (k.mono (fun x hx _ => by cases hx)).then h1, fun x hx hl => ?_⟩
 obtain ⟨e0, cs, t, e1, e2⟩ := h2 x hx (Nat.lt_of_lt_of_le hl k.size)
 exact ⟨e0, cs, t, by rw [← k.block x hl (by simp)]; exact e1, e2⟩
theorem RrX.ahead {w w1 w' : World} {V : Nat} (h : RrX w1 w' V) (k : Chg [] w w1) (hc : w1.cell? ⟨V, 5, none⟩ = w.cell? ⟨V, 5, none⟩) : RrX w w' V := by
 obtain ⟨rv, rv', T, r1, r2, kT, hT, r4⟩ := h
 exact ⟨rv, rv', T, by rw [← hc]; exact r1, r2, (k.mono (fun x hx _ => by cases hx)).then kT, fun x hx hl => hT x hx (Nat.lt_of_lt_of_le hl k.size), fun g hg hl => r4 g hg (Nat.lt_of_lt_of_le hl k.size)⟩
set_option maxRecDepth 100000 in
set_option maxHeartbeats 4000000 in
theorem rmread (w : World) {lo G Y D V U n k m : Nat} {Tv : Value} {xs : List Value} {num giv dn : Int} {a : Nat} {L : List (Int × Int × List UInt8)} {S : List (Int × Int)} {P : List (Int × List UInt8)} (h : RfO w lo G Y D V U n k Tv xs num giv dn L S P) (hn : n ≤ 100000) (hP : P.length ≤ 1000) (hL : L.length ≤ 100000) (hS : S.length ≤ 63) (hSi : InE S) (hk : k ≤ 10000)
  (hm0 : 1 ≤ m) (hm1 : m ≤ 16) (ha : a + m ≤ 258) (hlo : lo ≤ w.heap.size) :
  Calls Tryz.prog 37 #[.pointer (some ⟨G, 0, none⟩), .int .i64 (n + 1 : Nat), .agg #[.int .i64 a, .int .i64 m]] w fun e w' => ∃ v, e = .returned (.tuple #[v, .int .i64 0]) ∧
   w'.ownsRow w.heap.size 5 1 v (40 * m) (Lib.byteCells ((List.range m).flatMap fun i => viewG P L dn (a + i : Nat))) ∧ RfO w' lo G Y D V U n (k + m) Tv xs num giv dn L (rput S (a, m)) P ∧ FxR lo ((w.cell? ⟨V, 5, none⟩).bind Value.ownBlock) w w' ∧ RrX w w' V := by
 have g0 := heap_new w (.cells #[.int .i64 a, .int .i64 m] 79)
 have k0 : Chg [] w (w.alloc (.cells #[.int .i64 a, .int .i64 m] 79)) := Chg.alloc w _
 have hF0 : ∀ w1, Chg [] w w1 → RfO w1 lo G Y D V U n k Tv xs num giv dn L S P ∧ w1.cell? ⟨V, 5, none⟩ = w.cell? ⟨V, 5, none⟩ := fun w1 k1 => h.keepS (so := none) (FsR.of_chg k1) (fun _ _ _ _ => by simp)
 obtain ⟨h1, -⟩ := hF0 _ k0
 have HO := Lib.hid (h1.open_ hn)
 have d3 : (w.alloc (.cells #[.int .i64 a, .int .i64 m] 79)).cell? ⟨D, 3, none⟩ = some (.pointer (some ⟨V, 0, none⟩)) := cell_is h1.d 3 rfl
 have a0 : (w.alloc (.cells #[.int .i64 a, .int .i64 m] 79)).cell? ⟨w.heap.size, 0, none⟩ = some (.int .i64 a) := cell_is g0 0 rfl
 have a1 : (w.alloc (.cells #[.int .i64 a, .int .i64 m] 79)).cell? ⟨w.heap.size, 1, none⟩ = some (.int .i64 m) := cell_is g0 1 rfl
 obtain ⟨h2, hc2⟩ := hF0 _ k0.drew
 have HV := Lib.hid (rview_read (w.alloc (.cells #[.int .i64 a, .int .i64 m] 79)).drew (m := m) h2.v h2.u h2.y hP hL hS hSi hk hm0 hm1 ha (by have := k0.size; show lo ≤ (w.alloc (.cells #[.int .i64 a, .int .i64 m] 79)).heap.size; omega))
 have HH := Lib.hid (And.intro h2 (And.intro k0.drew (And.intro hc2 (show (w.alloc (.cells #[.int .i64 a, .int .i64 m] 79)).drew.heap[w.heap.size]? = some (.cells #[.int .i64 a, .int .i64 m] 79 (0, 0)) from g0))))
 have hDl := heap_lt h.d
 clear h h1 h2 hc2 hF0 g0 k0
 go_enter Tryz.func37, Tryz.ntmps37
 go_wp2_with fail
 generalize hz : w.heap.size = z at *
 generalize w.alloc (.cells #[.int .i64 a, .int .i64 m] 79) = w1 at *
 refine HO.out.mono ?_
 rintro e w2 ⟨rfl, rfl⟩
 go_wp2_with fail
 go_region_held3 (fun wx => wx.cell? ⟨D, 3, none⟩ = some (.pointer (some ⟨V, 0, none⟩)) ∧ wx.cell? ⟨z, 0, none⟩ = some (.int .i64 a) ∧ wx.cell? ⟨z, 1, none⟩ = some (.int .i64 m))
  (first | (exact ⟨d3, a0, a1⟩) | (exact HS4.out))
  (first | (go_at_call 97; refine HV.out.mono ?_; rintro e w4 ⟨v4, rfl, o4, hv4, hr4⟩; have HS4 : Hid (w4.cell? ⟨D, 3, none⟩ = some (.pointer (some ⟨V, 0, none⟩)) ∧ w4.cell? ⟨z, 0, none⟩ = some (.int .i64 a) ∧ w4.cell? ⟨z, 1, none⟩ = some (.int .i64 m)) := Lib.hid ⟨cell_is (HH.out.1.keepR hv4 hr4).1.d 3 rfl, cell_is ((HH.out.1.keepR hv4 hr4).2.heap HH.out.2.2.2 (by decide)) 0 rfl, cell_is ((HH.out.1.keepR hv4 hr4).2.heap HH.out.2.2.2 (by decide)) 1 rfl⟩))
 have HF := Lib.hid (And.intro (HH.out.1.keepR hv4 hr4) (And.intro o4 (hr4.ahead HH.out.2.1 HH.out.2.2.1)))
 clear hv4 hr4 o4 HV
 go_wp2_with fail
 go_ret2
 obtain ⟨⟨f1, f2⟩, f3, f4⟩ := HF.out
 rw [HH.out.2.2.1] at f2
 exact ⟨v4, rfl, own_low f3 (by have := HH.out.2.1.size; omega), f1, f2.ahead HH.out.2.1, f4⟩
theorem RfO.keepU {w w' : World} {lo G Y D V U n k : Nat} {Tv : Value} {xs : List Value} {num giv dn : Int} {L : List (Int × Int × List UInt8)} {S : List (Int × Int)} {P P' : List (Int × List UInt8)} (h : RfO w lo G Y D V U n k Tv xs num giv dn L S P) (hc : Chg [U] w w') (hu : RbAt w' U P') : RfO w' lo G Y D V U n k Tv xs num giv dn L S P' ∧ FxR lo none w w' ∧ w'.cell? ⟨V, 5, none⟩ = w.cell? ⟨V, 5, none⟩ := by
 obtain ⟨v, u1, -⟩ := h.u
 have av : ∀ ts : List Nat, 173 ∉ ts → Av w [U] ts := fun ts hts => Av.row u1 hts
 have i3 : ∀ g ∈ [U], ∀ cs fr, w.heap[g]? = some (.cells cs 3 fr) → cs.size = 0 := fun g hg cs fr hh => absurd List.mem_cons_self (av [3] (by decide) g hg _ _ _ hh)
 have own : ∀ {base e size n : Nat} {v : Value} {xs : List Value}, w.ownsRow base e size v n xs → 173 ≠ e → w'.ownsRow base e size v n xs := fun ho he => own_kp ho hc (fun g hg hm => by
  obtain ⟨-, cs, hh⟩ := own_elem ho hg
  exact av [_] (by simpa using he) g hm _ _ _ hh (by simp))
 obtain ⟨a, b, qv, qhv, m1, m2, m3, m4, m5⟩ := h.m
 obtain ⟨sv, rv, xr, v1, v2, v3⟩ := h.v
 have hv' := hc.heap v1 ((av [180] (by decide)).ne v1 (by simp))
 refine ⟨⟨⟨a, b, qv, qhv, hc.heap m1 ((av [120] (by decide)).ne m1 (by simp)), m2.keepT hc i3, m3.keepT hc i3, m4, m5⟩, own h.T (by decide), hc.heap h.d ((av [167] (by decide)).ne h.d (by simp)), ⟨sv, rv, xr, hv', own v2 (by decide), own v3 (by decide)⟩, hu, h.y.keepA hc (av _ (by decide)), ⟨h.low.1, h.low.2.1, h.low.2.2.1, h.low.2.2.2.1, h.low.2.2.2.2.1, Nat.le_trans h.low.2.2.2.2.2 hc.size⟩⟩, ⟨[U], hc, fun x hx hl => ?_⟩, ?_⟩
 ·rw [List.mem_singleton] at hx
  subst hx
  exact ⟨h.low.2.2.2.2.1, _, _, u1, Or.inl (by simp)⟩
 ·rw [cell_is hv' 5 rfl, cell_is v1 5 rfl]
set_option maxRecDepth 100000 in
set_option maxHeartbeats 2000000 in
theorem rmwrite (w : World) {lo G Y D V U n k E eo cp : Nat} {Tv dv : Value} {xs : List Value} {num giv dn b : Int} {d : List UInt8} {L : List (Int × Int × List UInt8)} {S : List (Int × Int)} {P : List (Int × List UInt8)} (h : RfO w lo G Y D V U n k Tv xs num giv dn L S P) (hn : n ≤ 100000) (hP : P.length < 16) (hb0 : 0 ≤ b) (hb1 : b < 258)
  (e0 : w.cell? ⟨E, eo, none⟩ = some (.int .i64 b)) (e1 : w.cell? ⟨E, eo + 1, none⟩ = some dv) (hd : DatX w dv d) :
  Calls Tryz.prog 41 #[.pointer (some ⟨G, 0, none⟩), .int .i64 (n + 1 : Nat), .slice (some ⟨E, eo, none⟩) 1 cp] w fun e w' => e = .returned (.int .i64 0) ∧ RfO w' lo G Y D V U n k Tv xs num giv dn L S (bufPut P b d) ∧ FxR lo none w w' ∧ w'.cell? ⟨V, 5, none⟩ = w.cell? ⟨V, 5, none⟩ := by
 have HO := Lib.hid (h.open_ hn)
 have d4 : w.cell? ⟨D, 4, none⟩ = some (.pointer (some ⟨U, 0, none⟩)) := cell_is h.d 4 rfl
 have HW := Lib.hid (rbuf_write w (cp := cp) h.u hP hb0 hb1 e0 e1 hd)
 have HH := Lib.hid h
 clear h e0 e1 hd
 go_enter Tryz.func41, Tryz.ntmps41
 go_wp2_with fail
 refine HO.out.mono ?_
 rintro e w2 ⟨rfl, rfl⟩
 go_wp2_with fail
 refine HW.out.mono ?_
 rintro e w3 ⟨rfl, k3, hu3⟩
 have HF := Lib.hid (HH.out.keepU k3 hu3)
 clear k3 hu3 HW
 go_wp2_with fail
 go_ret
 exact ⟨rfl, HF.out⟩
set_option maxRecDepth 100000 in
set_option maxHeartbeats 2000000 in
theorem rplace_one (w : World) {G Y : Nat} {a b Tv qv qhv : Value} {x n num giv dn out : Int} (h : RmS w G Y a b Tv qv qhv n num giv dn out) (ha : Int1 w a x) : Calls Tryz.prog 218 #[.pointer (some ⟨G, 1, none⟩), .int .i64 x] w fun e w' => e = .returned (.int .i64 0) ∧ w = w' := by
 obtain ⟨g, c, rfl, hc, cs, hg, h0, h1⟩ := ha
 have c2 : w.cell? ⟨G, 2, none⟩ = some (.slice (some ⟨g, 0, none⟩) 1 c) := cell_is h 2 rfl
 have r0 : w.cell? ⟨g, 0, none⟩ = some (.int .i64 x) := cell_is hg 0 h0
 clear h hg h0
 go_enter Tryz.func218, Tryz.ntmps218
 go_wp2_with fail
 go_loopw [5] (fun iv wr => iv = .int .i64 0 ∧ wr = w) (fun _ _ => 0)
 case atStart => exact ⟨rfl, (by first | trivial | rfl)⟩
 case round =>
  obtain ⟨rfl, rfl⟩ := hrel
  go_wp2_with fail
  go_ret
  exact ⟨rfl, rfl⟩
theorem append_nil0 (w : World) (ty : TypeId) (p : Option Addr) (c : Nat) : (Builtin.append_ #[115, 115] ty #[.slice none 0 0, .slice p 0 c]).run Tryz.prog w = .ok (.slice none 0 0) w := by
 obtain ⟨i, hi0, hz, hz1, hz2⟩ := info_parts inf3
 cases p <;> simp [Builtin.append_, run_underlying ty62, sizeOf, typeInfo, hi0, Builtin.lenOf, Builtin.firstCells, loadCells, loadCellsFrom]
set_option maxRecDepth 100000 in
set_option maxHeartbeats 4000000 in
theorem rclose_one (w : World) {G Y : Nat} {a b Tv qv qhv : Value} {x y n num giv dn out : Int} (h : RmS w G Y a b Tv qv qhv n num giv dn out) (ha : Int1 w a x) (hb : Int1 w b y) : Calls Tryz.prog 171 #[.pointer (some ⟨G, 1, none⟩), .int .i64 x] w fun e w' =>
  e = .returned (.int .i64 0) ∧ RmS w' G Y (.slice none 0 0) (.slice none 0 0) Tv qv qhv n num giv dn out ∧ Chg [G] w w' := by
 have HP := Lib.hid (rplace_one w h ha)
 obtain ⟨g, c, rfl, hc, -⟩ := ha
 obtain ⟨g2, c2, rfl, hc2, -⟩ := hb
 have q2 : w.cell? ⟨G, 2, none⟩ = some (.slice (some ⟨g, 0, none⟩) 1 c) := cell_is h 2 rfl
 have q3 : w.cell? ⟨G, 3, none⟩ = some (.slice (some ⟨g2, 0, none⟩) 1 c2) := cell_is h 3 rfl
 have f2 := unfrozen h 2
 have h1 := heap_set h 2 (.slice none 0 0) rfl
 have q3s : (w.setCell ⟨G, 2, none⟩ (.slice none 0 0)).cell? ⟨G, 3, none⟩ = some (.slice (some ⟨g2, 0, none⟩) 1 c2) := cell_is h1 3 rfl
 have f3 := unfrozen h1 3
 have HF : Hid (RmS ((w.setCell ⟨G, 2, none⟩ (.slice none 0 0)).setCell ⟨G, 3, none⟩ (.slice none 0 0)) G Y (.slice none 0 0) (.slice none 0 0) Tv qv qhv n num giv dn out ∧ Chg [G] w ((w.setCell ⟨G, 2, none⟩ (.slice none 0 0)).setCell ⟨G, 3, none⟩ (.slice none 0 0))) := Lib.hid ⟨heap_set h1 3 _ rfl, (Chg.set w G 2 _).then (Chg.set _ G 3 _)⟩
 clear h h1
 go_enter Tryz.func171, Tryz.ntmps171
 go_wp2_with fail
 refine HP.out.mono ?_
 rintro e w1 ⟨rfl, rfl⟩
 go_wp2_with (at_builtin; first
  | (refine Lib.wpList_append_run _ rfl (.tmp 13) (.tmp 19) 115 115 rfl _ _ rfl rfl _ _ (append_nil0 _ _ _ _) ?_)
  | (refine Lib.wpList_append_run _ rfl (.tmp 21) (.tmp 27) 115 115 rfl _ _ rfl rfl _ _ (append_nil0 _ _ _ _) ?_)
  | (refine Lib.wpList_append_run _ rfl (.tmp 30) (.tmp 37) 115 115 rfl _ _ rfl rfl _ _ (append_nil0 _ _ _ _) ?_)
  | (refine Lib.wpList_append_run _ rfl (.tmp 42) (.tmp 49) 115 115 rfl _ _ rfl rfl _ _ (append_nil0 _ _ _ _) ?_))
 all_goals
  go_ret
  exact ⟨rfl, HF.out⟩
set_option maxRecDepth 100000 in
set_option maxHeartbeats 4000000 in
theorem rend_last (w : World) {lo G Y D V U n : Nat} {a b Tv qv qhv : Value} {xs : List Value} {y st tm cd st' tm' cd' num giv dn out : Int} (h : RmS w G Y a b Tv qv qhv (n + 1 : Nat) num giv dn out) (ha : Int1 w a (n + 1 : Nat)) (hb : Int1 w b y) (hT : w.ownsRow lo 163 1 Tv (n + 1) (xs ++ [.pointer (some ⟨D, 0, none⟩)])) (hD : RtAt w D V U st tm cd) (hn : n ≤ 100000) :
  Calls Tryz.prog 101 #[.pointer (some ⟨G, 0, none⟩), .int .i64 (n + 1 : Nat), .int .i64 st', .int .i64 tm', .int .i64 cd'] w fun e w' =>
  e = .returned (.tuple #[]) ∧ RmS w' G Y (.slice none 0 0) (.slice none 0 0) Tv qv qhv (n + 1 : Nat) num giv dn out ∧ Chg [G, D] w w' := by
 have hGD : G ≠ D := heap_ne h hD (by simp)
 have kD := (((Chg.refl [D] w).then (Chg.set w D 0 (.int .i64 st'))).then (Chg.set _ D 1 (.int .i64 tm'))).then (Chg.set _ D 2 (.int .i64 cd'))
 have h1 := heap_set hD 0 (.int .i64 st') rfl
 have h2 := heap_set h1 1 (.int .i64 tm') rfl
 have hm := kD.heap h (by simpa using hGD)
 have aD : ∀ g ∈ [D], ∀ cs fr, w.heap[g]? = some (.cells cs 3 fr) → cs.size = 0 := fun g hg cs fr hh => by
  rw [List.mem_singleton] at hg
  subst hg
  rw [hD] at hh
  cases hh
 have HC := Lib.hid (rclose_one _ hm (ha.keepT kD aD) (hb.keepT kD aD))
 obtain ⟨g, c, rfl, hc, hk⟩ := own_last hT
 have c5 : w.cell? ⟨G, 5, none⟩ = some (.slice (some ⟨g, 0, none⟩) (n + 1) c) := cell_is h 5 rfl
 have d0 := cell_is hD 0 rfl
 have d1 := cell_is h1 1 rfl
 have d2 := cell_is h2 2 rfl
 have f0 := unfrozen hD 0
 have f1 := unfrozen h1 1
 have f2 := unfrozen h2 2
 have HK := Lib.hid kD
 clear h ha hb hT hD h1 h2 hm kD aD
 go_enter Tryz.func101, Tryz.ntmps101
 go_wp2_with fail
 refine HC.out.mono ?_
 rintro e w2 ⟨rfl, h3, k3⟩
 have HF := Lib.hid (And.intro h3 ((HK.out.mono (T := [G, D]) (fun x hx _ => by rw [List.mem_singleton] at hx; simp [hx])).then (k3.mono (fun x hx _ => by rw [List.mem_singleton] at hx; simp [hx]))))
 clear h3 k3
 go_wp2_with fail
 refine bodyPost_end (v := .tuple #[]) (by simp [results, Tryz.results101]) rfl ?_
 exact ⟨rfl, HF.out⟩
end Go.Proofs.YtelakcjbknbehaaGreat
