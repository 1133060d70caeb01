/- Lemmas and walks. -/
import Derived.Shelf.SlSortCmp.SmallK
import Ieee.Arith
import Derived.Test.YtelakcjbknbehaaGreatEa
import Derived.Test.YtelakcjbknbehaaGreatEe
import Derived.Test.YtelakcjbknbehaaGreatEm
namespace Go.Proofs.YtelakcjbknbehaaGreat
open Go.Shelf Go.RowKit Go.Lib Go.Sort

theorem hlen2 (n : Nat) (W : World) (h : n ≤ 12) : Calls Tryz.prog 240 #[.int .u64 n] W fun e w' => (∃ l : Int, e = .returned (.int .i64 l)) ∧ w' = W :=
 (Any.bits_Len Tryz.bitsLen2 n W (by omega) (by omega)).mono fun _ _ ⟨he, hw⟩ => ⟨⟨_, he⟩, hw⟩
theorem size_insInner {α : Type} [Inhabited α] (lt : α → α → Bool) (a : Nat) : ∀ (j : Nat) (d : Array α), (insInner lt a j d).size = d.size := by
 intro j
 induction j with
 | zero => intro d; rfl
 | succ j ih =>
  intro d
  simp only [insInner]
  split
  ·rw [ih]; simp [swp]
  ·rfl
theorem size_insOuter {α : Type} [Inhabited α] (lt : α → α → Bool) (a b : Nat) : ∀ (n i : Nat) (d : Array α), b - i ≤ n → (insOuter lt a b i d).size = d.size := by
 intro n
 induction n with
 | zero =>
  intro i d h
  rw [insOuter, if_neg (by omega)]
 | succ n ih =>
  intro i d h
  rw [insOuter]
  split
  ·rw [ih _ _ (by omega), size_insInner]
  ·rfl
def sortedOf (l : List (Int × Int)) : List (Int × Int) := (Sort.insertionSort (ltOf fun x y : Int × Int => Lib.compareInt x.1 y.1) l.toArray 0 l.length).toList
set_option maxRecDepth 100000 in
theorem sort_spx (w : World) {g n cap : Nat} {cur : Array Value} {l : List (Int × Int)} (hb : w.heap[g]? = some (.cells cur 79 (0, 0))) (hs : Sp w g 0 l) (hl : l.length = n) (hn : n ≤ 12) :
  Calls Tryz.prog 281 #[.slice (some ⟨g, 0, none⟩) n cap, .func (.func 282) #[] #[]] w fun e w' => e = .returned (.tuple #[]) ∧ Chg [g] w w' ∧ (sortedOf l).length = n ∧ Sp w' g 0 (sortedOf l) := by
 subst hl
 have hl : l.length = l.length := rfl
 have eg : ∀ args w, (callFunc 282 args).run Tryz.prog w = .ok (.enter 282 args) w := enters_of Tryz.func282 (by kernel_rfl) rfl
 have hH : HoldsK encSp 2 w g 0 l.toArray := by
  intro j hj
  rw [size_flatK] at hj
  rw [get_flatK encSp 2 l.toArray j hj]
  exact ⟨hs j _ (spCells_get l j (by simpa using hj)), unfrozen hb _⟩
 have hcon := AnyQ.slices_SortFunc_small Tryz.sortSp 2 isAgg117 sizeOf117 encSp (fun _ => rfl) (fun x v hv => by simp [encSp] at hv; rcases hv with rfl | rfl <;> rfl) (fun x y => Lib.compareInt x.1 y.1) 282 #[] g 0 cap l.toArray w eg (cmpLays247 g 0 l.toArray.size w) hH (heap_lt hb) (by simpa [hl] using hn) hlen2
 change Calls Tryz.prog 281 _ _ _ at hcon
 have hz : l.toArray.size = l.length := by simp
 rw [hz] at hcon
 refine hcon.mono ?_
 rintro e w' ⟨rfl, m, os, rfl⟩
 have hsz : (Sort.insertionSort (ltOf fun x y : Int × Int => Lib.compareInt x.1 y.1) l.toArray 0 l.length).size = l.toArray.size := size_insOuter _ _ _ l.length _ _ (by omega)
 have hH2 := holdsK_sortWorldK_c encSp 2 w g 0 l.toArray _ m os hH (heap_lt hb) hsz
 refine ⟨rfl, ?_, by unfold sortedOf; simpa using hsz, ?_⟩
 ·exact ((chg_ahead w m).then (chg_mapBlock _ g _)).then (chg_grow _ os)
 ·unfold sortedOf
  intro j u hu
  have hj : j < (Sort.insertionSort (ltOf fun x y : Int × Int => Lib.compareInt x.1 y.1) l.toArray 0 l.length).size * 2 := by
   rcases Nat.lt_or_ge j ((Sort.insertionSort (ltOf fun x y : Int × Int => Lib.compareInt x.1 y.1) l.toArray 0 l.length).size * 2) with h | h
   ·exact h
   ·rw [List.getElem?_eq_none (by rw [spCells_len]; simpa using h)] at hu; cases hu
  rw [spCells_get _ j (by simpa using hj)] at hu
  have h2 := (hH2 j (by rw [size_flatK]; exact hj)).1
  rw [get_flatK encSp 2 _ j hj] at h2
  rw [h2]
  simpa using hu
def jstep (xs : List (Int × Int)) (e : Int × Int) : List (Int × Int) :=
 if h : 0 < xs.length then
  (if e.1 ≤ wrap64 ((xs[xs.length - 1]'(by omega)).1 + (xs[xs.length - 1]'(by omega)).2) then xs.set (xs.length - 1) ((xs[xs.length - 1]'(by omega)).1, max (xs[xs.length - 1]'(by omega)).2 (wrap64 (wrap64 (e.1 + e.2) - (xs[xs.length - 1]'(by omega)).1))) else xs ++ [e])
 else [e]
theorem jstep_join {xs : List (Int × Int)} {e : Int × Int} {k : Nat} {p q : Int} (hk : xs.length = k + 1) (hp : p = (xs[k]'(by omega)).1) (hq : q = (xs[k]'(by omega)).2) (h : e.1 ≤ wrap64 (p + q)) : jstep xs e = xs.set k (p, max q (wrap64 (wrap64 (e.1 + e.2) - p))) := by
 have e1 : xs.length - 1 = k := by omega
 unfold jstep
 rw [dif_pos (by omega)]
 simp only [e1, ← hp, ← hq]
 rw [if_pos h]
theorem jstep_push {xs : List (Int × Int)} {e : Int × Int} {k : Nat} {p q : Int} (hk : xs.length = k + 1) (hp : p = (xs[k]'(by omega)).1) (hq : q = (xs[k]'(by omega)).2) (h : ¬ e.1 ≤ wrap64 (p + q)) : jstep xs e = xs ++ [e] := by
 have e1 : xs.length - 1 = k := by omega
 unfold jstep
 rw [dif_pos (by omega)]
 simp only [e1, ← hp, ← hq]
 rw [if_neg h]
set_option maxRecDepth 100000 in
set_option maxHeartbeats 2000000 in
theorem joined_fold (w : World) {g0 o0 n cp : Nat} {l : List (Int × Int)} (hl : l.length = n) (h0 : 0 < n) (h1 : n ≤ 12) (hs : Sp w g0 o0 l) : Calls Tryz.prog 246 #[.slice (some ⟨g0, o0, none⟩) n cp] w fun e w' =>
  ∃ v l', e = .returned v ∧ Chg [] w w' ∧ l' = (sortedOf l).foldl jstep [] ∧ w'.ownsRow w.heap.size 79 2 v l'.length (spCells l') := by
 go_enter Tryz.func246, Tryz.ntmps246
 go_wp2_with fail
 go_step3
 go_wp2_with fail
 refine (clone_sp w hl h0 (by omega) hs).mono ?_
 rintro e w1 ⟨v, rfl, k1, o1⟩
 obtain ⟨g, cap, cur, rfl, hg0, hb1, hs1, hcap, -⟩ := own_sp o1 h0
 clear o1
 go_wp2_with fail
 refine (sort_spx w1 (cap := cap) hb1 hs1 hl h1).mono ?_
 rintro e w2 ⟨rfl, k2, hl2, hs2⟩
 generalize hL : sortedOf l = l2 at *
 have k3 : Chg [] w w2 := k1.trans k2 (fun x hx hlt => by simp at hx; omega)
 have hw := k3.size
 have HL2 := Lib.hid hl2
 clear hb1 hs1 hl hs k1 k2 hl2
 go_wp2_with fail
 go_step3
 go_wp2_with fail
 go_loopw [2, 12] (fun v i wr => ∃ iq k xs, i = .int .i64 ((iq : Nat) : Int) ∧ iq ≤ n ∧ k ≤ iq ∧ Chg [] w2 wr ∧ xs = (l2.take iq).foldl jstep [] ∧ ((v = .slice none 0 0 ∧ k = 0 ∧ xs = []) ∨ (0 < k ∧ wr.ownsRow w2.heap.size 79 2 v k (spCells xs)))) (fun _ i _ => n - (intOf i).toNat)
 case atStart => exact ⟨0, 0, [], rfl, Nat.zero_le _, Nat.le_refl _, Chg.refl _ _, rfl, Or.inl ⟨rfl, rfl, rfl⟩⟩
 case round =>
  obtain ⟨iq, k, xs, rfl, hi, hk, kr, hxs, hv⟩ := hrel
  rcases Nat.lt_or_ge iq n with hlt | hge
  ·have hS := hs2.keep kr
   obtain ⟨c0, c1⟩ := sp_at hS iq (by have := HL2.out; omega)
   have hnx : (l2.take (iq + 1)).foldl jstep [] = jstep xs (l2[iq]'(by have := HL2.out; omega)) := by rw [← List.take_append_getElem (by have := HL2.out; omega), List.foldl_append, hxs]; rfl
   generalize hE : (l2[iq]'(by have := HL2.out; omega)) = E0 at *
   obtain ⟨a, b⟩ := E0
   have HN := Lib.hid hnx
   clear hnx
   simp only [Nat.zero_add] at c0 c1
   have hlt' : (iq : Int) < n := by omega
   rcases hv with ⟨rfl, rfl, hx0⟩ | ⟨hk0, ho⟩
   ·subst hx0
    go_wp2_with fail
    have kz : Chg [] wr (wr.alloc (.cells #[.int .i64 a, .int .i64 b] 79)) := Chg.alloc wr _
    have z0 := heap_new wr (.cells #[.int .i64 a, .int .i64 b] 79)
    generalize hw5 : wr.alloc (.cells #[.int .i64 a, .int .i64 b] 79) = w5 at *
    generalize wr.heap.size = z at *
    have d0 : w5.cell? ⟨z, 0, none⟩ = some (.int .i64 a) := cell_is z0 0 rfl
    have d1 : w5.cell? ⟨z, 1, none⟩ = some (.int .i64 b) := cell_is z0 1 rfl
    go_quiet (fail)
    have kw : Chg [] w2 ((w5.drewN nq).alloc (.cells #[.int .i64 a, .int .i64 b] 79)) := ((kr.then kz).drewN nq).then_alloc _
    have hsz := kw.size
    have hnw := Lib.hid (sp_new (w5.drewN nq) a b)
    go_wp2_with (at_builtin; refine wpList_append_sp rfl (.tmp 58) (.tmp 60) rfl w2.heap.size _ 0 [] [(a, b)] rfl (World.ownsRow_nil _ _ _ _) (w5.drewN nq).heap.size 0 1 1 rfl rfl hnw.out (by omega) hsz ?_; intro v1 w6 h6)
    go_roundw
    case rel => exact ⟨iq + 1, 1, _, by go_num, hlt, by omega, Chg.of_below (kw.below0.trans h6.2.1), by rw [HN.out]; rfl, Or.inr ⟨by omega, h6.1⟩⟩
    case measure => simp [intOf]; omega
   ·obtain ⟨hb, cap', cur', rfl, hhb, hhc, hhs, hcc, hxl⟩ := own_sp ho hk0
    obtain ⟨k', rfl⟩ : ∃ k', k = k' + 1 := ⟨k - 1, by omega⟩
    obtain ⟨p0, q0⟩ := sp_at hhs k' (by omega)
    simp only [Nat.zero_add] at p0 q0
    obtain ⟨p, hp⟩ : ∃ p, p = (xs[k']'(by omega)).1 := ⟨_, rfl⟩
    obtain ⟨q, hq⟩ : ∃ q, q = (xs[k']'(by omega)).2 := ⟨_, rfl⟩
    rw [← hp] at p0
    rw [← hq] at q0
    have HJ := Lib.hid (fun hle => jstep_join (e := (a, b)) hxl hp hq hle)
    have HP := Lib.hid (fun hle => jstep_push (e := (a, b)) hxl hp hq hle)
    have HQ := Lib.hid hp
    clear hp hq
    go_wp2_with fail
    have kz : Chg [] wr (wr.alloc (.cells #[.int .i64 a, .int .i64 b] 79)) := Chg.alloc wr _
    have z0 := heap_new wr (.cells #[.int .i64 a, .int .i64 b] 79)
    generalize hw5 : wr.alloc (.cells #[.int .i64 a, .int .i64 b] 79) = w5 at *
    generalize wr.heap.size = z at *
    have d0 : w5.cell? ⟨z, 0, none⟩ = some (.int .i64 a) := cell_is z0 0 rfl
    have d1 : w5.cell? ⟨z, 1, none⟩ = some (.int .i64 b) := cell_is z0 1 rfl
    have p1 := kz.cell p0 (by simp)
    have q1 := kz.cell q0 (by simp)
    go_quiet (fail)
    by_cases hle : a ≤ wrap64 (p + q)
    ·go_wp2_with fail
     have p2 : (w5.drewN nq).cell? ⟨hb, k' * 2, none⟩ = some (.int .i64 p) := p1
     have q2 : (w5.drewN nq).cell? ⟨hb, k' * 2 + 1, none⟩ = some (.int .i64 q) := q1
     have f2 : (w5.drewN nq).frozen? ⟨hb, k' * 2 + 1, none⟩ = false := unfrozen (kz.heap hhc (by simp)) _
     have d2 : (w5.drewN nq).cell? ⟨z, 0, none⟩ = some (.int .i64 a) := d0
     have d3 : (w5.drewN nq).cell? ⟨z, 1, none⟩ = some (.int .i64 b) := d1
     have hkk : (k' : Int) < k' + 1 := by omega
     have k6 : Chg [] w2 (w5.drewN nq) := (kr.then kz).drewN nq
     have hd6 : (w5.drewN nq).drew.ownsRow w2.heap.size 79 2 (.slice (some ⟨hb, 0, none⟩) (k' + 1) cap') (k' + 1) (spCells xs) := ownsRow_chg ho ((kz.drewN nq).drew)
     clear d0 d1 p1 q1
     generalize w5.drewN nq = w6 at *
     go_still_tail 21, (by kernel_rfl)
     change wpList _ _ _ _ _ w6.drew
     have HS := Lib.hid (fun z => own_set hd6 k' (by omega) z)
     have k7 : Chg [] w2 w6.drew := k6.drew
     have q7 : w6.drew.cell? ⟨hb, k' * 2 + 1, none⟩ = some (.int .i64 q) := q2
     have f7 : w6.drew.frozen? ⟨hb, k' * 2 + 1, none⟩ = false := f2
     generalize w6.drew = w7 at *
     go_wp2_with fail
     go_roundw
     case rel => exact ⟨iq + 1, k' + 1, _, by go_num, hlt, by omega, k7.new_set hhb _ _, by rw [HN.out, HJ.out hle, ← HQ.out], Or.inr ⟨by omega, HS.out _⟩⟩
     case measure => simp [intOf]; omega
    ·have kw : Chg [] w2 ((w5.drewN nq).alloc (.cells #[.int .i64 a, .int .i64 b] 79)) := ((kr.then kz).drewN nq).then_alloc _
     have ow : ((w5.drewN nq).alloc (.cells #[.int .i64 a, .int .i64 b] 79)).ownsRow w2.heap.size 79 2 (.slice (some ⟨hb, 0, none⟩) (k' + 1) cap') (k' + 1) (spCells xs) := ownsRow_chg ho ((kz.drewN nq).then_alloc _)
     have hsz := kw.size
     have hnw := Lib.hid (sp_new (w5.drewN nq) a b)
     go_wp2_with (at_builtin; refine wpList_append_sp rfl (.tmp 58) (.tmp 60) rfl w2.heap.size _ (k' + 1) xs [(a, b)] rfl ow (w5.drewN nq).heap.size 0 1 1 rfl rfl hnw.out (by omega) hsz ?_; intro v1 w6 h6)
     go_roundw
     case rel => exact ⟨iq + 1, k' + 2, _, by go_num, hlt, by omega, Chg.of_below (kw.below0.trans h6.2.1), by rw [HN.out, HP.out (by omega)], Or.inr ⟨by omega, h6.1⟩⟩
     case measure => simp [intOf]; omega
  ·obtain rfl : iq = n := by omega
   have hnl : ¬ ((iq : Int) < iq) := by omega
   have hxs2 : xs = l2.foldl jstep [] := by rw [hxs, List.take_of_length_le (by have := HL2.out; omega)]
   rcases hv with ⟨rfl, rfl, hx0⟩ | ⟨hk0, ho⟩
   ·go_wp2_with fail
    go_ret
    exact ⟨_, _, rfl, k3.then kr, rfl, by rw [hL, ← hxs2, hx0]; exact World.ownsRow_nil _ _ _ _⟩
   ·go_wp2_with fail
    go_ret
    have hlx : xs.length = k := by have := ho.1; rw [spCells_len] at this; omega
    exact ⟨_, _, rfl, k3.then kr, rfl, by rw [hL, ← hxs2, hlx]; exact ownsRow_base ho hw⟩
end Go.Proofs.YtelakcjbknbehaaGreat
namespace Go.Proofs.YtelakcjbknbehaaGreat
open Go.RowKit Go.Lib

def SpX (w : World) (base V : Nat) (l : List (Int × Int)) : Prop := ∃ v, SpansAt w V v ∧ w.ownsRow base 79 2 v l.length (spCells l)
theorem SpX.keep {w w' : World} {S : List Nat} {base V : Nat} {l : List (Int × Int)} (h : SpX w base V l) (hc : Chg S w w') (hS : Av w S [79, 305]) : SpX w' base V l := by
 obtain ⟨v, h1, h3⟩ := h
 refine ⟨v, hc.heap h1 (hS.ne h1 (by simp)), h3.1, ?_⟩
 rcases h3.2 with hn | ⟨g, cap, cur, hv, hb, hg, rest⟩
 ·exact Or.inl hn
 ·exact Or.inr ⟨g, cap, cur, hv, hb, hc.heap hg (hS.ne hg (by simp)), rest⟩
theorem SpX.keep0 {w w' : World} {base V : Nat} {l : List (Int × Int)} (h : SpX w base V l) (hc : Chg [] w w') : SpX w' base V l := h.keep hc (Av.nil _ _)
def Ext (l : List (Int × Int)) (b _n : Int) : Prop := l = [] ∨ ∃ a k, l = [(a, k)] ∧ 0 ≤ a ∧ a ≤ b ∧ b ≤ a + k ∧ a + k ≤ 258
def addSp (l : List (Int × Int)) (b n : Int) : List (Int × Int) :=
 match l with
 | [] => [(b, n)]
 | (a, k) :: _ => [(a, max k (b + n - a))]
theorem addSp_len (l : List (Int × Int)) (b n : Int) : (addSp l b n).length = 1 := by
 unfold addSp
 split <;> rfl
theorem Ext.len {l : List (Int × Int)} {b n : Int} (h : Ext l b n) : l.length ≤ 1 := by
 rcases h with rfl | ⟨a, k, rfl, _⟩ <;> simp
theorem sorted_one (p : Int × Int) : sortedOf [p] = [p] := by
 unfold sortedOf Sort.insertionSort
 rw [Sort.insOuter, if_neg (by simp)]
theorem sorted_two {p q : Int × Int} (h : p.1 ≤ q.1) : sortedOf [p, q] = [p, q] := by
 have hc : ltOf (fun x y : Int × Int => Lib.compareInt x.1 y.1) q p = false := by
  unfold ltOf Lib.compareInt
  simp only [decide_eq_false_iff_not]
  split
  ·omega
  ·split <;> omega
 unfold sortedOf Sort.insertionSort
 rw [Sort.insOuter, if_pos (by simp), Sort.insOuter, if_neg (by simp)]
 simp [Sort.insInner, hc]
theorem join_ext {l : List (Int × Int)} {b n : Int} (hx : Ext l b n) (h0 : 0 ≤ b) (hn : 1 ≤ n) (h1 : b + n ≤ 258) : (sortedOf (l ++ [(b, n)])).foldl jstep [] = addSp l b n := by
 rcases hx with rfl | ⟨a, k, rfl, ha, hab, hbk, hk⟩
 ·rw [List.nil_append, sorted_one]; rfl
 ·rw [List.singleton_append, sorted_two (by exact hab)]
  show jstep [(a, k)] (b, n) = _
  rw [jstep_join (k := 0) (p := a) (q := k) rfl rfl rfl (by unfold wrap64; omega)]
  have e1 : wrap64 (b + n) = b + n := by unfold wrap64; omega
  have e2 : wrap64 (b + n - a) = b + n - a := by unfold wrap64; omega
  simp only [e1, e2, addSp, List.set_cons_zero]
set_option maxRecDepth 100000 in
theorem imay_x (w : World) {b n : Int} (h0 : 0 ≤ b) (hn : 1 ≤ n) (h1 : b + n ≤ 258) : Calls Tryz.prog 280 #[.agg #[.int .i64 b, .int .i64 n]] w fun e w' => e = .returned (.bool true) ∧ Chg [] w w' := by
 have kc : Chg [] w (w.alloc (.cells #[.int .i64 b, .int .i64 n] 79)) := Chg.alloc w _
 have n0 : decide (0 ≤ b) = true := decide_eq_true h0
 have n1 : decide (b ≤ 1048576) = true := decide_eq_true (by omega)
 have n2 : decide (1 ≤ n) = true := decide_eq_true hn
 have n3 : decide (n ≤ 1048576) = true := decide_eq_true (by omega)
 have hw : IntKind.i64.wrap (b + n) = b + n := by rw [IntKind.wrap_i64]; omega
 have n4 : decide (b + n ≤ 1048577) = true := decide_eq_true (by omega)
 go_enter Tryz.func280, Tryz.ntmps280
 go_wp2_with fail
 go_ret
 exact ⟨by first | rfl | (simp; omega), kc⟩
set_option maxRecDepth 100000 in
theorem inot_x (w : World) {b n : Int} (h0 : 0 ≤ b) (hn : 1 ≤ n) (h1 : b + n ≤ 258) : Calls Tryz.prog 279 #[.agg #[.int .i64 b, .int .i64 n]] w fun e w' => e = .returned (.bool false) ∧ Chg [] w w' := by
 have kc : Chg [] w (w.alloc (.cells #[.int .i64 b, .int .i64 n] 79)) := Chg.alloc w _
 go_enter Tryz.func279, Tryz.ntmps279
 go_wp2_with fail
 refine (imay_x _ h0 hn h1).mono ?_
 rintro e w2 ⟨rfl, k2⟩
 go_wp2_with fail
 go_ret
 exact ⟨rfl, kc.then k2⟩
set_option maxRecDepth 100000 in
theorem iall_x (w : World) {E eo cp : Nat} {b n : Int} (h0 : 0 ≤ b) (hn : 1 ≤ n) (h1 : b + n ≤ 258) (e0 : w.cell? ⟨E, eo, none⟩ = some (.int .i64 b)) (e1 : w.cell? ⟨E, eo + 1, none⟩ = some (.int .i64 n)) : Calls Tryz.prog 245 #[.slice (some ⟨E, eo, none⟩) 1 cp] w fun e w' => e = .returned (.bool true) ∧ Chg [] w w' := by
 go_enter Tryz.func245, Tryz.ntmps245
 go_wp2_with fail
 refine (contspan_one w e0 e1 (inot_x w h0 hn h1)).mono ?_
 rintro e w2 ⟨rfl, k2⟩
 go_wp2_with fail
 go_ret
 exact ⟨rfl, k2⟩
set_option maxRecDepth 100000 in
set_option maxHeartbeats 2000000 in
theorem iadd_ext (w : World) {base V E cp : Nat} {b n : Int} {l : List (Int × Int)} (h : SpX w base V l) (hx : Ext l b n) (hbase : base ≤ w.heap.size) (h0 : 0 ≤ b) (hn : 1 ≤ n) (h1 : b + n ≤ 258) (e0 : w.cell? ⟨E, 0, none⟩ = some (.int .i64 b)) (e1 : w.cell? ⟨E, 1, none⟩ = some (.int .i64 n)) :
  Calls Tryz.prog 216 #[.pointer (some ⟨V, 0, none⟩), .slice (some ⟨E, 0, none⟩) 1 cp] w fun e w' => e = .returned (.int .i64 0) ∧ Chg [V] w w' ∧ SpX w' base V (addSp l b n) := by
 have HJ := Lib.hid (join_ext hx h0 hn h1)
 have hl := hx.len
 obtain ⟨v, hV, ho⟩ := h
 obtain ⟨pa, c, rfl, hq⟩ := own_spq ho
 have hE : SpQ w (some ⟨E, 0, none⟩) [(b, n)] := Or.inr ⟨E, 0, rfl, fun j u hu => by
  rw [Nat.zero_add]
  match j with
  | 0 => cases hu; exact e0
  | 1 => cases hu; exact e1
  | j + 2 => simp [spCells] at hu⟩
 have v1 : w.cell? ⟨V, 1, none⟩ = some (.slice pa l.length c) := cell_is hV 1 rfl
 go_enter Tryz.func216, Tryz.ntmps216
 go_wp2_with fail
 refine (iall_x w (cp := cp) h0 hn h1 e0 e1).mono ?_
 rintro e w1 ⟨rfl, k1⟩
 have v2 := k1.cell v1 (by simp)
 have hq2 := hq.keep k1
 have hE2 := hE.keep k1
 have hV2 := k1.heap hV (by simp)
 have ho2 := ownsRow_chg ho k1
 clear e0 e1 v1 hV hq hE ho
 go_wp2_with fail
 have kx : Chg [] w1 (w1.alloc (.cells #[.slice pa l.length c, .slice (some ⟨E, 0, none⟩) 1 cp] 175)) := Chg.alloc _ _
 have x0 : (w1.alloc (.cells #[.slice pa l.length c, .slice (some ⟨E, 0, none⟩) 1 cp] 175)).cell? ⟨w1.heap.size, 0, none⟩ = some (.slice pa l.length c) := cell_is (heap_new w1 _) 0 rfl
 have x1 : (w1.alloc (.cells #[.slice pa l.length c, .slice (some ⟨E, 0, none⟩) 1 cp] 175)).cell? ⟨w1.heap.size, 1, none⟩ = some (.slice (some ⟨E, 0, none⟩) 1 cp) := cell_is (heap_new w1 _) 1 rfl
 refine (concat_two _ x0 x1 rfl rfl (by omega) (by omega) (by omega) (hq2.keep kx) (hE2.keep kx)).mono ?_
 rintro e w2 ⟨v', rfl, k2, o2⟩
 obtain ⟨g, cap, cur, rfl, hgb, hgc, hgs, _, hgl⟩ := own_sp o2 (by simp)
 have k3 := (k1.then kx).then k2
 go_wp2_with fail
 refine (joined_fold w2 hgl (by omega) (by omega) hgs).mono ?_
 rintro e w3 ⟨v3, l3, rfl, k4, hl3, o3⟩
 rw [HJ.out] at hl3
 rw [hl3, addSp_len] at o3
 clear hl3
 have k5 := k3.then k4
 have hV3 : SpansAt w3 V (.slice pa l.length c) := ((kx.then k2).then k4).heap hV2 (by simp)
 have c0 : w3.cell? ⟨V, 0, none⟩ = some (.int .i64 64) := cell_is hV3 0 rfl
 have c1 : w3.cell? ⟨V, 1, none⟩ = some (.slice pa l.length c) := cell_is hV3 1 rfl
 have f1 := unfrozen hV3 1
 obtain ⟨pq, cq, hv3, hcq⟩ := own_form o3
 subst hv3
 have hsz := k3.size
 have HF := Lib.hid (show SpX (w3.setCell ⟨V, 1, none⟩ (.slice pq 1 cq)) base V (addSp l b n) from by
  refine ⟨_, heap_set hV3 1 _ rfl, ?_⟩
  have kk := Chg.set w3 V 1 (.slice pq 1 cq)
  refine ownsRow_base (base := w2.heap.size) ?_ (by omega)
  rw [addSp_len]
  refine ownsRow_chg o3 kk ?_
  intro x hx
  have := heap_lt hV2
  have := (kx.then k2).size
  simp at hx
  omega)
 clear k3 k4 o3 hV3 hV2 x0 x1 hgs hgc o2 hq2 hE2
 go_wp2_with fail
 go_ret
 exact ⟨rfl, (k5.mono (T := [V]) (fun x hx _ => by cases hx)).then (Chg.set w3 V 1 _), HF.out⟩
theorem SpX.spv {w : World} {base V n : Nat} {l : List (Int × Int)} {b m : Int} (h : SpX w base V (addSp l b m)) : SpV w base V (n + 1) := by
 obtain ⟨v, h1, h2⟩ := h
 exact ⟨v, _, h1, by rw [addSp_len]; omega, h2⟩
structure Gx (w wr : World) (base Q X W V : Nat) (sl : List (Int × Int)) (K g c' m0 : Nat) (t b : Int) (m : Nat) (s0 : Value) (l : List UInt8) (j : Nat) : Prop where
 k : Chg (V :: Q :: s0.ownBlock.toList) w wr
 v : ∃ s mm xs, ViewT wr Q X W V t s ∧ mm ≤ m0 + j ∧ wr.ownsRow base 255 3 s mm xs ∧ ∀ x, s.ownBlock = some x → s0.ownBlock = some x ∨ w.heap.size ≤ x
 sp : SpX wr base V sl
 kb : wr.heap[K]? = some (.cells #[.int .i64 b, .int .i64 (m : Int)] 79 (0, 0))
 row : ∃ cur, wr.heap[g]? = some (.cells cur 5 (0, 0)) ∧ cur.size = c' ∧ cur.toList.take (40 * m) = Lib.byteCells l
theorem Gx.step {w wb wc w5 : World} {base Q X W V : Nat} {sl : List (Int × Int)} {K g c' m0 m mm g5 cp5 j : Nat} {t b : Int} {s0 s : Value} {xs ys : List Value} {l : List UInt8} {cur : Array Value} (hk : Chg (V :: Q :: s0.ownBlock.toList) w wb)
  (hs : ∀ x, s.ownBlock = some x → s0.ownBlock = some x ∨ w.heap.size ≤ x) (sb : SpX wb base V sl) (Kb : wb.heap[K]? = some (.cells #[.int .i64 b, .int .i64 (m : Int)] 79 (0, 0)))
  (hg : wb.heap[g]? = some (.cells cur 5 (0, 0))) (hc : cur.size = c' ∧ cur.toList.take (40 * m) = Lib.byteCells l) (ky : Chg [] wb wc) (qy : ViewT wc Q X W V t s) (oy : wc.ownsRow base 255 3 s mm xs) (hm : mm ≤ m0 + j)
  (o5 : w5.ownsRow base 255 3 (.slice (some ⟨g5, 0, none⟩) (mm + 1) cp5) (mm + 1) ys) (k5 : Chg s.ownBlock.toList wc w5) (l5 : s.ownBlock = some g5 ∨ g5 = wc.heap.size) :
  Gx w (w5.setCell ⟨Q, 4, none⟩ (.slice (some ⟨g5, 0, none⟩) (mm + 1) cp5)) base Q X W V sl K g c' m0 t b m s0 l (j + 1) := by
 have hav : Av wc s.ownBlock.toList [79, 305, 5, 274] := by
  intro x hx cs t fr hh
  rcases oy.2 with ⟨rfl, _⟩ | ⟨k, cap, cur, rfl, hb, hk, rest⟩
  ·simp [Value.ownBlock] at hx
  ·simp [Value.ownBlock] at hx
   subst hx
   rw [hk] at hh
   cases hh
   simp
 have q5 := k5.heap qy (hav.ne qy (by simp))
 have kS := Chg.set w5 Q 4 (.slice (some ⟨g5, 0, none⟩) (mm + 1) cp5)
 have hq1 : Av w5 [Q] [79, 305, 5, 255] := fun x hx cs t fr hh => by
  rw [List.mem_singleton] at hx; subst hx; rw [q5] at hh; cases hh; simp
 have gy := ky.heap hg (by simp)
 have Ky := ky.heap Kb (by simp)
 have g6 := k5.heap gy (hav.ne gy (by simp))
 have K6 := k5.heap Ky (hav.ne Ky (by simp))
 refine ⟨?_, ⟨_, mm + 1, ys, heap_set q5 4 _ rfl, by omega, ownsRow_av o5 kS (fun x hx cs t fr hh ht => hq1 x hx cs t fr hh (by simp at ht; simp [ht])), fun x hx => ?_⟩, ((sb.keep0 ky).keep k5 (fun x hx cs t fr hh ht => hav x hx cs t fr hh (by simp at ht; rcases ht with h | h <;> simp [h]))).keep kS (fun x hx cs t fr hh ht => hq1 x hx cs t fr hh (by simp at ht; rcases ht with h | h <;> simp [h])), kS.heap K6 (hq1.ne K6 (by simp)), cur, kS.heap g6 (hq1.ne g6 (by simp)), hc⟩
 ·refine ((hk.trans ky (fun x hx _ => by cases hx)).trans k5 (fun x hx hlt => ?_)).trans kS (fun x hx _ => by simp at hx; simp [hx])
  rcases hs x (by simpa using hx) with h | h
  ·simp [h]
  ·omega
 ·have e1 : g5 = x := by simpa [Value.ownBlock] using hx
  subst e1
  rcases l5 with h | h
  ·exact hs _ h
  ·have h1 := hk.size
   have h2 := ky.size
   exact Or.inr (by omega)
set_option maxRecDepth 100000 in
set_option maxHeartbeats 20000000 in
theorem gread_s (w : World) {base Q X rx W rw V n lo m : Nat} {last t : Int} {Lv : List (Int × Value)} {vs : Int → List (Int × List UInt8)} {L : List (Int × Value)} {b : Int} {qc : Int → List UInt8} (hX : VerG w lo X rx last Lv vs) (hW : BufAt w W rw L) (hB : ∀ i : Nat, i < m → BlkT w L (vs (b + (i : Int))) t (b + (i : Int)) (qc (b + (i : Int)))) (hV : VwT w base Q X W V t n) {sl : List (Int × Int)} (hS : SpX w base V sl) (hn : n ≤ 1000) (hEx : Ext sl b m) (hbase : base ≤ Q ∧ base ≤ V) (h0 : 0 ≤ b) (hm0 : 1 ≤ m) (hm1 : m ≤ 16) (h1 : b + m ≤ 258) :
  Calls Tryz.prog 170 #[.pointer (some ⟨Q, 0, none⟩), .agg #[.int .i64 b, .int .i64 m]] w fun e w' =>
  ∃ g c' T, e = .returned (.tuple #[.slice (some ⟨g, 0, none⟩) (40 * m) c', .int .i64 0]) ∧ 40 * m ≤ c' ∧ Chg T w w' ∧ Rt w base T ∧ RdX w w' Q V T ∧ w.heap.size ≤ g ∧ Bs w' (some ⟨g, 0, none⟩) (catQ qc b m) ∧ Bt w' g ∧ VwT w' base Q X W V t (n + 1) ∧ SpX w' base V (addSp sl b m) := by
 have k0 : Chg [] w (w.alloc (.cells #[.int .i64 b, .int .i64 m] 79)) := Chg.alloc w _
 have K0 := heap_new w (.cells #[.int .i64 b, .int .i64 m] 79)
 have hX1 := hX.keep k0
 have hY : ∀ i : Nat, i < m → (bytT (vs (b + (i : Int))) t).length = 40 := fun i hi => hX.len (by omega) (by omega) t
 have hq40 : ∀ i : Nat, i < m → (qc (b + (i : Int))).length = 40 := fun i hi => by
  rcases hB i hi with ⟨-, e⟩ | ⟨_, _, -, -, e, -⟩
  ·rw [e]; exact hY i hi
  ·exact e
 have HM := Lib.hid (fun i (hi : i < m) => And.intro (hq40 i hi) (hY i hi))
 obtain ⟨s, m0, xs, qw, hm, how⟩ := hV
 have q := k0.heap qw (by simp)
 have hS1 := hS.keep0 k0
 have HRt : Rt w base (V :: Q :: s.ownBlock.toList) := by
  intro x hx
  simp only [List.mem_cons] at hx
  rcases hx with rfl | rfl | hx
  ·exact ⟨hbase.2, _, _, _, hS.choose_spec.1, by simp⟩
  ·exact ⟨hbase.1, _, _, _, qw, by simp⟩
  ·rcases how.2 with ⟨rfl, _⟩ | ⟨k, cap, cur, rfl, hb, hk, rest⟩
   ·simp [Value.ownBlock] at hx
   ·simp [Value.ownBlock] at hx
    subst hx
    exact ⟨hb, _, _, _, hk, by simp⟩
 have HS0 : Hid (w.cell? ⟨Q, 4, none⟩ = some s) := Lib.hid (cell_is qw 4 rfl)
 have hQl := heap_lt qw
 have HW := Lib.hid hW
 have HB := Lib.hid hB
 have HO := Lib.hid how
 have HY := Lib.hid hY
 have c1 : ¬ ((m : Int) < 1) := by omega
 have c2 : ¬ ((m : Int) > 16) := by omega
 clear hY hq40 hW hB
 have q0 : (w.alloc (.cells #[.int .i64 b, .int .i64 m] 79)).cell? ⟨Q, 0, none⟩ = some (.pointer (some ⟨X, 0, none⟩)) := cell_is q 0 rfl
 have q2 : (w.alloc (.cells #[.int .i64 b, .int .i64 m] 79)).cell? ⟨Q, 2, none⟩ = some (.int .i64 t) := cell_is q 2 rfl
 have a0 : (w.alloc (.cells #[.int .i64 b, .int .i64 m] 79)).cell? ⟨w.heap.size, 0, none⟩ = some (.int .i64 b) := cell_is K0 0 rfl
 have a1 : (w.alloc (.cells #[.int .i64 b, .int .i64 m] 79)).cell? ⟨w.heap.size, 1, none⟩ = some (.int .i64 m) := cell_is K0 1 rfl
 go_enter Tryz.func170, Tryz.ntmps170
 go_wp2_with fail
 go_step3
 go_wp2_with fail
 generalize w.alloc (.cells #[.int .i64 b, .int .i64 m] 79) = w1 at *
 generalize hK : w.heap.size = K at *
 go_region_held3 (fun wx => wx.cell? ⟨Q, 0, none⟩ = some (.pointer (some ⟨X, 0, none⟩)) ∧ wx.cell? ⟨Q, 2, none⟩ = some (.int .i64 t) ∧ wx.cell? ⟨K, 0, none⟩ = some (.int .i64 b) ∧ wx.cell? ⟨K, 1, none⟩ = some (.int .i64 m))
  (first | (exact ⟨q0, q2, a0, a1⟩) | (exact ⟨k2.cell q0 (by simp), k2.cell q2 (by simp), k2.cell a0 (by simp), k2.cell a1 (by simp)⟩))
  (first | (go_at_call 215; refine (grange_m w1.drew (t := t) (n := m) (hX1.keep (Chg.refl [] w1).drew) h0 (by omega) h1).mono ?_; rintro e w2 ⟨g, c', rfl, hc', k2, o2⟩))
 have kk2 := (Chg.refl [] w1).drew.then k2
 have q := kk2.heap q (by simp)
 have K0 := kk2.heap K0 (by simp)
 have hS2 := hS1.keep0 kk2
 have hK2 : K ≤ w2.heap.size := by have := k0.size; have := kk2.size; omega
 have ho2 : w2.ownsRow K 5 1 (.slice (some ⟨g, 0, none⟩) (40 * m) c') (40 * m) (Lib.byteCells (catQ (fun x => bytT (vs x) t) b m)) := ownsRow_base o2 (by have := k0.size; show K ≤ w1.heap.size; omega)
 have kk := k0.then kk2
 clear q0 q2 a0 a1 hX1 hS1 o2 k0 k2 kk2
 have q3 : w2.cell? ⟨Q, 3, none⟩ = some (.pointer (some ⟨V, 0, none⟩)) := cell_is q 3 rfl
 have a0 : w2.cell? ⟨K, 0, none⟩ = some (.int .i64 b) := cell_is K0 0 rfl
 have a1 : w2.cell? ⟨K, 1, none⟩ = some (.int .i64 m) := cell_is K0 1 rfl
 go_wp2_with fail
 have kx : Chg [] w2 (w2.drew.alloc (.cells #[.int .i64 b, .int .i64 m] 79)) := (Chg.refl [] w2).drew.then_alloc _
 have kx0 := heap_new w2.drew (.cells #[.int .i64 b, .int .i64 m] 79)
 have hVK : V ≠ K := by obtain ⟨_, hh, _⟩ := hS2; exact heap_ne hh K0 (by simp)
 have hVQ : V ≠ Q := by obtain ⟨_, hh, _⟩ := hS2; exact heap_ne hh q (by simp)
 have hbw : base ≤ (w2.drew.alloc (.cells #[.int .i64 b, .int .i64 m] 79)).heap.size := by have := heap_lt q; have := kx.size; omega
 have kx2 : Chg [V] w2 (w2.drew.alloc (.cells #[.int .i64 b, .int .i64 m] 79)) := kx.mono (fun x hx _ => by cases hx)
 go_region_held3 (fun wx => wx.cell? ⟨Q, 3, none⟩ = some (.pointer (some ⟨V, 0, none⟩)) ∧ wx.cell? ⟨K, 0, none⟩ = some (.int .i64 b) ∧ wx.cell? ⟨K, 1, none⟩ = some (.int .i64 m))
  (first | (exact ⟨q3, a0, a1⟩) | (exact ⟨kx.cell q3 (by simp), kx.cell a0 (by simp), kx.cell a1 (by simp)⟩) | (exact ⟨(kx2.then k3).cell q3 (by simpa using hVQ.symm), (kx2.then k3).cell a0 (by simpa using hVK.symm), (kx2.then k3).cell a1 (by simpa using hVK.symm)⟩))
  (first | (go_at_call 216; refine (iadd_ext (w2.drew.alloc (.cells #[.int .i64 b, .int .i64 m] 79)) (base := base) (V := V) (n := m) (E := w2.drew.heap.size) (hS2.keep0 kx) hEx hbw h0 (by omega) h1 (cell_is kx0 0 rfl) (cell_is kx0 1 rfl)).mono ?_; rintro e w3 ⟨rfl, k3, hS3⟩))
 have k4 := kx2.then k3
 have q := k4.heap q (by simpa using hVQ.symm)
 have K0 := k4.heap K0 (by simpa using hVK.symm)
 obtain ⟨cur, hg3, hcur, hgK⟩ : ∃ cur, w3.heap[g]? = some (.cells cur 5 (0, 0)) ∧ (cur.size = c' ∧ cur.toList.take (40 * m) = Lib.byteCells (catQ (fun x => bytT (vs x) t) b m)) ∧ K ≤ g := by
  rcases ho2.2 with ⟨e, h0⟩ | ⟨g', cap, cur, e, hA, hgt, _, _, hsz, htk⟩
  ·omega
  ·cases e
   obtain ⟨_, hh, _⟩ := hS2
   exact ⟨cur, k4.heap hgt (by simpa using heap_ne hgt hh (by simp)), ⟨by omega, by simpa using htk⟩, hA⟩
 have kw3 : Chg (V :: Q :: s.ownBlock.toList) w w3 := (kk.mono (fun x hx _ => by cases hx)).then (k4.mono (fun x hx _ => by simp at hx; simp [hx]))
 have ho3 := ownsRow_chgV (ownsRow_chgV HO.out (kk.mono (T := [V]) (fun x hx _ => by cases hx)) hS.choose_spec.1) k4 hS2.choose_spec.1
 obtain ⟨yb, hyb⟩ : ∃ yb, yb = fun x => bytT (vs x) t := ⟨_, rfl⟩
 rw [← hyb] at hcur
 have hY2 : ∀ i : Nat, i < m → (qc (b + (i : Int))).length = 40 ∧ (yb (b + (i : Int))).length = 40 := fun i hi => by rw [hyb]; exact HM.out i hi
 have hmx : ∀ j, ∀ i : Nat, i < m → (mixQ qc yb b j (b + (i : Int))).length = 40 := fun j i hi => by
  unfold mixQ; split
  ·exact (hY2 i hi).1
  ·exact (hY2 i hi).2
 have hgm : Gx w w3 base Q X W V (addSp sl b m) K g c' m0 t b m s (catQ (mixQ qc yb b 0) b m) 0 :=
  ⟨kw3, ⟨s, m0, xs, q, by omega, ho3, fun x hx => Or.inl hx⟩, hS3, K0, cur, hg3, hcur.1, by
   rw [hcur.2, show catQ (mixQ qc yb b 0) b m = catQ yb b m from catQ_congr (fun i hi => by unfold mixQ; rw [if_neg (by omega)])]⟩
 have HMX := Lib.hid hmx
 have HYB := Lib.hid hyb
 have HY2 := Lib.hid hY2
 clear q q3 a0 a1 hS2 ho2 kx kx2 kx0 k3 k4 hX hS kk hbw hcur hS3 ho3 kw3 K0 hmx hyb hY2 HM HY hg3
 have hKg : w.heap.size ≤ g := by omega
 obtain ⟨_, _, _, q3, _, _, _⟩ := hgm.v
 have a0 : w3.cell? ⟨K, 0, none⟩ = some (.int .i64 b) := cell_is hgm.kb 0 rfl
 have a1 : w3.cell? ⟨K, 1, none⟩ = some (.int .i64 m) := cell_is hgm.kb 1 rfl
 clear q3
 go_wp2_with fail
 go_step3
 go_wp2_with fail
 go_loopw [8, 9, 10, 11, 55] (fun _ _ _ _ i wr => ∃ j : Nat, i = .int .i64 j ∧ j ≤ m ∧ Gx w wr base Q X W V (addSp sl b m) K g c' m0 t b m s (catQ (mixQ qc yb b j) b m) j) (fun _ _ _ _ i _ => m - (intOf i).toNat)
 case atStart => exact ⟨0, rfl, Nat.zero_le _, hgm⟩
 case round =>
  obtain ⟨j, rfl, hj, hz⟩ := hrel
  rcases Nat.lt_or_ge j m with hlt | hge
  ·have hlt' : (j : Int) < m := by omega
   obtain ⟨kr, ⟨sj, mm, xj, qr, hmm, hor, hso⟩, spr, Kr, curj, hgr, hcr⟩ := hz
   have hWr := HW.out.keep kr (HRt.cells HW.out.1 (by simp)) (HRt.map HW.out.2)
   have hBr := (HB.out j hlt).keepT kr HRt
   have q1 : wr.cell? ⟨Q, 1, none⟩ = some (.pointer (some ⟨W, 0, none⟩)) := cell_is qr 1 rfl
   have a0 : wr.cell? ⟨K, 0, none⟩ = some (.int .i64 b) := cell_is Kr 0 rfl
   have e1 : IntKind.i64.wrap ((j : Int) * 40) = ((40 * j : Nat) : Int) := by rw [IntKind.wrap_i64]; omega
   have e2 : IntKind.i64.wrap ((j : Int) + 1) = ((j + 1 : Nat) : Int) := by rw [IntKind.wrap_i64]; omega
   have e3 : IntKind.i64.wrap (((j + 1 : Nat) : Int) * 40) = ((40 * (j + 1) : Nat) : Int) := by rw [IntKind.wrap_i64]; omega
   have e4 : IntKind.i64.wrap (b + j) = b + j := by rw [IntKind.wrap_i64]; omega
   have HCR := Lib.hid hcr
   have HMS := Lib.hid (mixQ_step (q := qc) (y := yb) (b := b) hlt HY2.out)
   have HML := Lib.hid (catQ_len (fun i hi => HMX.out j i hi))
   clear hcr
   rcases hBr with ⟨hg0, hqy⟩ | ⟨gb, cb, hg1, hbs, hl40, hbt⟩
   ·have HSM := Lib.hid (show catQ (mixQ qc yb b (j + 1)) b m = catQ (mixQ qc yb b j) b m from catQ_congr (fun i hi => by
     unfold mixQ
     by_cases h : b + (i : Int) < b + j
     ·rw [if_pos h, if_pos (by omega)]
     ·rw [if_neg h]
      by_cases h2 : b + (i : Int) < b + ((j + 1 : Nat) : Int)
      ·rw [if_pos h2]
       obtain rfl : i = j := by omega
       rw [hqy, HYB.out]
      ·rw [if_neg h2]))
    clear hqy
    go_wp2_with fail
    rw [show (j + 1) * 40 - 40 * j = 40 by omega]
    go_region_held3 (fun wx => wx.cell? ⟨Q, 1, none⟩ = some (.pointer (some ⟨W, 0, none⟩)) ∧ wx.cell? ⟨K, 0, none⟩ = some (.int .i64 b)) (first | (exact ⟨q1, a0⟩))
     (first | (go_at_call 217; refine (bget_none wr.drew (hWr.keep (Chg.refl [] wr).drew (by simp) (by simp)) hg0).mono ?_; rintro e wa ⟨rfl, rfl⟩))
    have k7 : Chg [] wr wr.drew := (Chg.refl [] wr).drew
    have hgb : wr.drew.heap[g]? = some (.cells curj 5 (0, 0)) := hgr
    have qb : ViewT wr.drew Q X W V t sj := qr
    have Kb : wr.drew.heap[K]? = some (.cells #[.int .i64 b, .int .i64 m] 79 (0, 0)) := Kr
    have ob := ownsRow_chg hor k7
    have sb := spr.keep0 k7
    have k9 := kr.drew
    obtain ⟨lj, hlj⟩ : ∃ lj, lj = mixQ qc yb b j (b + (j : Int)) := ⟨_, rfl⟩
    have hlj40 : lj.length = 40 := by rw [hlj]; exact HMX.out j j hlt
    have hBb : Bs wr.drew (some ⟨g, 40 * j, none⟩) lj := by
     rw [hlj]
     exact Bs.catQ (Bs.block hgb (by rw [HML.out]; exact HCR.out.2)) (HMX.out j) hlt
    clear hlj
    have HL40 := Lib.hid hlj40
    clear hlj40 q1 a0 hor hgr qr Kr kr k7 spr hWr
    generalize wr.drew = wb at *
    have a0 : wb.cell? ⟨K, 0, none⟩ = some (.int .i64 b) := cell_is Kb 0 rfl
    have q4 : wb.cell? ⟨Q, 4, none⟩ = some sj := cell_is qb 4 rfl
    have a0d : wb.drew.cell? ⟨K, 0, none⟩ = some (.int .i64 b) := a0
    have q4d : wb.drew.cell? ⟨Q, 4, none⟩ = some sj := q4
    have HBb := Lib.hid hBb
    clear hBb
    go_wp2_with fail
    go_region_law
     (first
      | (go_simp; go_at_call 126; refine (clone_bs wb.drew (l := lj) (m := 40) HL40.out (by decide) (by decide) (HBb.out.chg (Chg.refl [] wb).drew)).mono ?_; rintro e w6 ⟨g2, c2, rfl, k6, _, _⟩; have a06 := k6.cell a0d (by simp); have q46 := k6.cell q4d (by simp); have ky : Chg [] wb (w6.alloc (.cells #[.int .i64 (b + j), .slice (some ⟨g2, 0, none⟩) 40 c2, .bool false] 255)) := ((Chg.refl [] wb).drew.then k6).then_alloc _; have y0 := heap_new w6 (.cells #[.int .i64 (b + j), .slice (some ⟨g2, 0, none⟩) 40 c2, .bool false] 255); have oy := ownsRow_chg ob ky; have qy := ky.heap qb (by simp); have q4y := cell_is qy 4 rfl; have a0y := cell_is (ky.heap Kb (by simp)) 0 rfl; have hQn := own_block_ne oy qy (by decide); have hby : base ≤ (w6.alloc (.cells #[.int .i64 (b + j), .slice (some ⟨g2, 0, none⟩) 40 c2, .bool false] 255)).heap.size := (by have := heap_lt qy; omega))
      | (refine step_append_rx rfl (.tmp 100) (.tmp 108) rfl base _ mm xj rfl oy w6.heap.size 1 _ _ _ rfl (cell_is y0 0 rfl) (cell_is y0 1 rfl) (cell_is y0 2 rfl) ⟨rfl, rfl, rfl⟩ (by omega) hby ?_; intro g5 cp5 w5 o5 k5 l5; have q5 := k5.heap qy hQn; have q45 := cell_is q5 4 rfl; have f45 := unfrozen q5 4))
    all_goals
     have HZ := Lib.hid (Gx.step (c' := c') k9 hso sb Kb hgb HCR.out ky qy oy hmm (g5 := g5) (cp5 := cp5) (w5 := w5) o5 k5 l5)
     clear HBb sb o5 k5 q5 f45 q45
     go_wp2_with fail
     go_roundw
     case rel => exact ⟨j + 1, by go_num, hlt, by rw [HSM.out]; exact HZ.out⟩
     case measure => simp [intOf]; omega
   ·have HG := Lib.hid hg1
    have HL := Lib.hid hl40
    have HBS := Lib.hid hbs
    clear hg1 hl40 hbs
    go_wp2_with fail
    rw [show (j + 1) * 40 - 40 * j = 40 by omega]
    go_region_held3 (fun wx => wx.cell? ⟨Q, 1, none⟩ = some (.pointer (some ⟨W, 0, none⟩)) ∧ wx.cell? ⟨K, 0, none⟩ = some (.int .i64 b)) (first | (exact ⟨q1, a0⟩) | (exact ⟨k6.cell q1 (by simp), k6.cell a0 (by simp)⟩))
     (first | (go_at_call 217; refine (bget_some wr.drew (hWr.keep (Chg.refl [] wr).drew (by simp) (by simp)) HG.out HBS.out HL.out).mono ?_; rintro e wa ⟨g2, c2, rfl, k6, hbs6, l6⟩))
    have k7 := (Chg.refl [] wr).drew.then k6
    have hga := k7.heap hgr (by simp)
    have hqa := k7.heap qr (by simp)
    have hKa := k7.heap Kr (by simp)
    have hoa := ownsRow_chg hor k7
    have hSa := spr.keep0 k7
    have k8 := kr.trans k7 (fun x hx _ => by cases hx)
    obtain ⟨lj, hlj⟩ : ∃ lj, lj = qc (b + (j : Int)) := ⟨_, rfl⟩
    rw [← hlj] at hbs6
    have HLJ := Lib.hid hlj
    have hL2 : lj.length = 40 := by rw [hlj]; exact HL.out
    have hsrc : ∀ j v, (Lib.byteCells lj)[j]? = some v → wa.cell? ((⟨g2, 0, none⟩ : Addr).add j) = some v := hbs6.cells_at
    have hlc : (Lib.byteCells lj).length = 40 := by simpa [Lib.byteCells] using hL2
    have hsz : 40 * m ≤ curj.size := by rw [HCR.out.1]; exact hc'
    have hfit : 40 * j + (Lib.byteCells lj).length ≤ curj.size := by omega
    have HCM := Lib.hid (copy_mid (cur := curj.toList) (l := lj) (k := 40 * j) HML.out HCR.out.2 (by omega))
    have HLJ2 := Lib.hid hL2
    have H1 := Lib.hid hsrc
    have H2 := Lib.hid hlc
    have H3 := Lib.hid hfit
    have H4 := Lib.hid hsz
    clear hsrc hlc hfit hlj hL2 hsz
    go_wp2_with (refine wpList_copy_own rfl (.tmp 78) (.tmp 79) 47 47 rfl 5 ty23 (by kernel_rfl) g (40 * j) 40 (c' - 40 * j) ⟨g2, 0, none⟩ 40 c2 rfl rfl curj 5 hga (Lib.byteCells lj) H2.out H1.out H3.out (fun v hv => byteCells_one lj v hv) ?_)
    have kb : Chg [g] wa (wa.setRow g (List.take (40 * j) curj.toList ++ (Lib.byteCells lj ++ List.drop (40 * j + (Lib.byteCells lj).length) curj.toList)).toArray) := chg_setRow _ _ _
    have hgb := setRow_heap wa g curj (List.take (40 * j) curj.toList ++ (Lib.byteCells lj ++ List.drop (40 * j + (Lib.byteCells lj).length) curj.toList)).toArray 5 (0, 0) hga
    have hcB : ((List.take (40 * j) curj.toList ++ (Lib.byteCells lj ++ List.drop (40 * j + (Lib.byteCells lj).length) curj.toList)).toArray).size = c' ∧ ((List.take (40 * j) curj.toList ++ (Lib.byteCells lj ++ List.drop (40 * j + (Lib.byteCells lj).length) curj.toList)).toArray).toList.take (40 * m) = Lib.byteCells (catQ (mixQ qc yb b (j + 1)) b m) := by
     refine ⟨?_, ?_⟩
     ·have h1 := HCR.out.1
      have h2 := H3.out
      have h4 := H2.out
      simp only [List.size_toArray, List.length_append, List.length_take, List.length_drop, Array.length_toList]
      omega
     ·rw [List.toList_toArray, HCM.out, HMS.out, HLJ2.out, HLJ.out]
    generalize hcb : (List.take (40 * j) curj.toList ++ (Lib.byteCells lj ++ List.drop (40 * j + (Lib.byteCells lj).length) curj.toList)).toArray = Cb at *
    generalize hwb : wa.setRow g Cb = wb at *
    clear hwb hcb
    simp only [Act.put, List.setIfInBounds_toArray, List.set_cons_zero, List.set_cons_succ]
    have hgQ : Q ∉ [g] := by simpa using heap_ne hqa hga (by simp)
    have hgK2 : K ∉ [g] := by simpa using heap_ne hKa hga (by simp)
    have qb := kb.heap hqa hgQ
    have Kb := kb.heap hKa hgK2
    have ob := ownsRow_chg2 hoa kb hga
    have sb := hSa.keep kb (fun x hx cs t fr hh => by rw [List.mem_singleton] at hx; subst hx; rw [hga] at hh; cases hh; simp)
    have k9 : Chg (V :: Q :: s.ownBlock.toList) w wb := k8.trans kb (fun x hx hlt => by rw [List.mem_singleton] at hx; omega)
    clear hga hqa hKa hoa hSa k7 k8 kb H1 H2 H3 H4 hbs6 k6 HCM HMS q1 a0 qr Kr kr hor spr hWr hgr
    have a0 : wb.cell? ⟨K, 0, none⟩ = some (.int .i64 b) := cell_is Kb 0 rfl
    have q4 : wb.cell? ⟨Q, 4, none⟩ = some sj := cell_is qb 4 rfl
    have ky : Chg [] wb (wb.drew.alloc (.cells #[.int .i64 (b + j), .slice (some ⟨g2, 0, none⟩) 40 c2, .bool true] 255)) := (Chg.refl [] wb).drew.then_alloc _
    have y0 := heap_new wb.drew (.cells #[.int .i64 (b + j), .slice (some ⟨g2, 0, none⟩) 40 c2, .bool true] 255)
    have oy := ownsRow_chg ob ky
    have qy := ky.heap qb (by simp)
    have Ky := ky.heap Kb (by simp)
    have q4y := cell_is qy 4 rfl
    have a0y := cell_is Ky 0 rfl
    have hQn := own_block_ne oy qy (by decide)
    have hKn := own_block_ne oy Ky (by decide)
    have hby : base ≤ (wb.drew.alloc (.cells #[.int .i64 (b + j), .slice (some ⟨g2, 0, none⟩) 40 c2, .bool true] 255)).heap.size := by have := heap_lt qy; omega
    have q4d : wb.drew.cell? ⟨Q, 4, none⟩ = some sj := q4
    have q4e : (wb.alloc (.cells #[.int .i64 (b + j), .slice (some ⟨g2, 0, none⟩) 40 c2, .bool true] 255)).cell? ⟨Q, 4, none⟩ = some sj := q4y
    have a0e : (wb.alloc (.cells #[.int .i64 (b + j), .slice (some ⟨g2, 0, none⟩) 40 c2, .bool true] 255)).cell? ⟨K, 0, none⟩ = some (.int .i64 b) := a0y
    have a0d : wb.drew.cell? ⟨K, 0, none⟩ = some (.int .i64 b) := a0
    have HF := Lib.hid (fun (g5 cp5 : Nat) (w5 : World) (o5 : w5.ownsRow base 255 3 (.slice (some ⟨g5, 0, none⟩) (mm + 1) cp5) (mm + 1) (xj ++ [.int .i64 (b + j), .slice (some ⟨g2, 0, none⟩) 40 c2, .bool true])) (k5 : Chg sj.ownBlock.toList (wb.drew.alloc (.cells #[.int .i64 (b + j), .slice (some ⟨g2, 0, none⟩) 40 c2, .bool true] 255)) w5) (l5 : sj.ownBlock = some g5 ∨ g5 = (wb.drew.alloc (.cells #[.int .i64 (b + j), .slice (some ⟨g2, 0, none⟩) 40 c2, .bool true] 255)).heap.size) =>
     Gx.step (c' := c') (l := catQ (mixQ qc yb b (j + 1)) b m) k9 hso sb Kb hgb hcB ky qy oy hmm o5 k5 l5)
    clear sb hcB
    go_region_law
     (first | (refine step_append_rx rfl (.tmp 85) (.tmp 92) rfl base _ mm xj rfl oy wb.drew.heap.size 1 _ _ _ rfl (cell_is y0 0 rfl) (cell_is y0 1 rfl) (cell_is y0 2 rfl) ⟨rfl, rfl, rfl⟩ (by omega) hby ?_; intro g5 cp5 w5 o5 k5 l5; have q5 := k5.heap qy hQn; have q45 := cell_is q5 4 rfl; have f45 := unfrozen q5 4; have a05 := k5.cell a0y hKn))
    all_goals
     have HZ := Lib.hid (HF.out g5 cp5 w5 o5 k5 l5)
     clear HF o5 k5 q5 f45 q45
     go_wp2_with fail
     go_roundw
     case rel => exact ⟨j + 1, by go_num, hlt, HZ.out⟩
     case measure => simp [intOf]; omega
  ·obtain rfl : j = m := by omega
   have hnl : ¬ ((j : Int) < j) := by omega
   obtain ⟨kr, ⟨sj, mm, xj, qr, hmm, hor, hso⟩, spr, Kr, curj, hgr, hcr⟩ := hz
   have hmm2 : mm ≤ 17 * (n + 1) + 100000 := by omega
   have HE := Lib.hid (show Bs wr (some ⟨g, 0, none⟩) (catQ qc b j) from Bs.block hgr (by
    rw [catQ_len (fun i hi => (HY2.out i hi).1), hcr.2, show catQ (mixQ qc yb b j) b j = catQ qc b j from catQ_congr (fun i hi => by unfold mixQ; rw [if_pos (by omega)])]))
   clear hcr hgm
   go_wp2_with fail
   try simp only [Exit.noGoto]
   go_ret2
   exact ⟨g, c', _, rfl, hc', kr, HRt, ⟨s, sj, HS0.out, cell_is qr 4 rfl, fun x hx => by simpa using hx, hso⟩, hKg, HE.out, ⟨_, hgr⟩, ⟨sj, mm, xj, qr, hmm2, hor⟩, spr⟩
section
variable {base : Nat} {d : Ids} {p : Par} {F : World → Prop}
set_option maxRecDepth 100000 in
set_option maxHeartbeats 2000000 in
theorem tread_s (w : World) {q : Int → List UInt8} {L : List (Int × Value)} {n m : Nat} {b : Int} (hf : Fr base d p F) (h : Su w base d p F q L n) {sl : List (Int × Int)} (hs : SpX w base d.V sl) (hEx : Ext sl b m) (hn : n ≤ 1000) (h0 : 0 ≤ b) (hm0 : 1 ≤ m) (hm1 : m ≤ 16) (h1 : b + m ≤ 258) :
  Calls Tryz.prog 99 #[.pointer (some ⟨d.M, 0, none⟩), .int .i64 p.h, .agg #[.int .i64 b, .int .i64 m]] w fun e w' =>
  ∃ g c', e = .returned (.tuple #[.slice (some ⟨g, 0, none⟩) (40 * m) c', .int .i64 0]) ∧ 40 * m ≤ c' ∧ RdW base d w w' ∧ Su w' base d p F q L (n + 1) ∧ SpX w' base d.V (addSp sl b m) ∧ w.heap.size ≤ g ∧ Bs w' (some ⟨g, 0, none⟩) (catQ q b m) ∧ Bt w' g := by
 have k0 : Chg [] w (w.alloc (.cells #[.int .i64 b, .int .i64 m] 79)) := Chg.alloc w _
 have K0 := heap_new w (.cells #[.int .i64 b, .int .i64 m] 79)
 have hlt : d.Q < w.heap.size := (by obtain ⟨_, _, _, hq, -, -⟩ := h.vw; exact heap_lt hq)
 have h2 := h.keep hf k0
 have hs2 := hs.keep0 k0
 have HO := Lib.hid (topen_gen _ (hf.need _ h2.env) h2.tx)
 clear h hs
 go_enter Tryz.func99, Tryz.ntmps99
 go_wp2_with fail
 generalize w.alloc (.cells #[.int .i64 b, .int .i64 m] 79) = w1 at *
 generalize hK : w.heap.size = K at *
 refine HO.out.mono ?_
 rintro e w2 ⟨rfl, rfl⟩
 have t5 : w1.cell? ⟨d.T, 5, none⟩ = some (.pointer (some ⟨d.Q, 0, none⟩)) := cell_is h2.tx 5 rfl
 have a0 : w1.cell? ⟨K, 0, none⟩ = some (.int .i64 b) := cell_is K0 0 rfl
 have a1 : w1.cell? ⟨K, 1, none⟩ = some (.int .i64 m) := cell_is K0 1 rfl
 go_wp2_with fail
 have hbuf := h2.buf
 have hq := h2.blk
 have h3 := h2.keep hf (Chg.refl [] w1).drew
 have hs3 := hs2.keep0 (Chg.refl [] w1).drew
 go_region_held3 (fun wx => wx.cell? ⟨d.T, 5, none⟩ = some (.pointer (some ⟨d.Q, 0, none⟩)) ∧ wx.cell? ⟨K, 0, none⟩ = some (.int .i64 b) ∧ wx.cell? ⟨K, 1, none⟩ = some (.int .i64 m))
  (first | (exact ⟨t5, a0, a1⟩) | (exact ⟨cell_is t6 5 rfl, cell_is K6 0 rfl, cell_is K6 1 rfl⟩))
  (first | (go_at_call 170; refine (gread_s w1.drew (hf.need _ h3.env).ver (hbuf.keep (Chg.refl [] w1).drew (by simp) (by simp)) (fun i hi => hq (b + (i : Int)) (by omega) (by omega)) h3.vw hs3 hn hEx ⟨h3.high.1, h3.high.2.1⟩ h0 hm0 hm1 h1).mono ?_; rintro e w6 ⟨g, c', T, rfl, hc', k6, hT, hX9, hg, hB6, hT6, hV6, hS6⟩; have t6 := k6.heap h3.tx (hT.cells h3.tx (by simp)); have K6 := k6.heap K0 (hT.cells K0 (by simp))))
 have hlow : ∀ x ∈ T, base ≤ x := fun x hx => (hT x hx).1
 have how0 : Ow base w1.drew w6 := ow_rt k6 hT
 have hfin : Su w6 base d p F q L (n + 1) := ⟨hf.keep _ _ how0 h3.env, t6, (hbuf.keep (Chg.refl [] w1).drew (by simp) (by simp)).keep k6 (hT.cells hbuf.1 (by simp)) (hT.map hbuf.2), h2.keys, fun x hx hx' => ((hq x hx hx').keep (Chg.refl [] w1).drew).keepT k6 hT, hV6, hS6.spv, h3.high⟩
 have how : RdW base d w w6 := RdW.mk k0.drew k6 hT hX9 h2.vw (Chg.refl [] w1).drew (by omega)
 have hsz : w.heap.size ≤ g := by have := k0.size; have h9 : w1.drew.heap.size = w1.heap.size := rfl; omega
 have HS6 := Lib.hid hS6
 clear hq hbuf h2 h3 hs2 hs3 hV6 hS6 k6 hT t6 K6 how0
 go_wp2_with fail
 go_ret2
 exact ⟨g, c', rfl, hc', how, hfin, HS6.out, hsz, hB6, hT6⟩
set_option maxRecDepth 100000 in
set_option maxHeartbeats 2000000 in
theorem sread_s (w : World) {q : Int → List UInt8} {L : List (Int × Value)} {n m : Nat} {b : Int} (hf : Fr base d p F) (h : Su w base d p F q L n) {sl : List (Int × Int)} (hs : SpX w base d.V sl) (hEx : Ext sl b m) (hn : n ≤ 1000) (h0 : 0 ≤ b) (hm0 : 1 ≤ m) (hm1 : m ≤ 16) (h1 : b + m ≤ 258) :
  Calls Tryz.prog 39 #[.pointer (some ⟨d.P, 0, none⟩), .int .i64 p.h, .agg #[.int .i64 b, .int .i64 m]] w fun e w' =>
  ∃ g c', e = .returned (.tuple #[.slice (some ⟨g, 0, none⟩) (40 * m) c', .int .i64 0]) ∧ 40 * m ≤ c' ∧ RdW base d w w' ∧ Su w' base d p F q L (n + 1) ∧ SpX w' base d.V (addSp sl b m) ∧ w.heap.size ≤ g ∧ Bs w' (some ⟨g, 0, none⟩) (catQ q b m) ∧ Bt w' g := by
 have k0 : Chg [] w (w.alloc (.cells #[.int .i64 b, .int .i64 m] 79)) := Chg.alloc w _
 have K0 := heap_new w (.cells #[.int .i64 b, .int .i64 m] 79)
 have hlt : d.Q < w.heap.size := (by obtain ⟨_, _, _, hq, -, -⟩ := h.vw; exact heap_lt hq)
 have h2 := h.keep hf k0
 have hs2 := hs.keep0 k0
 have HO := Lib.hid (dead_gen _ (hf.need _ h2.env))
 clear h hs
 go_enter Tryz.func39, Tryz.ntmps39
 go_wp2_with fail
 generalize w.alloc (.cells #[.int .i64 b, .int .i64 m] 79) = w1 at *
 generalize hK : w.heap.size = K at *
 refine HO.out.mono ?_
 rintro e w2 ⟨rfl, rfl⟩
 have t5 : w1.cell? ⟨d.P, 5, none⟩ = some (.pointer (some ⟨d.M, 0, none⟩)) := (hf.need _ h2.env).p5
 have a0 : w1.cell? ⟨K, 0, none⟩ = some (.int .i64 b) := cell_is K0 0 rfl
 have a1 : w1.cell? ⟨K, 1, none⟩ = some (.int .i64 m) := cell_is K0 1 rfl
 go_wp2_with fail
 have h3 := h2.keep hf (Chg.refl [] w1).drew
 have hs3 := hs2.keep0 (Chg.refl [] w1).drew
 go_region_held3 (fun wx => wx.cell? ⟨d.P, 5, none⟩ = some (.pointer (some ⟨d.M, 0, none⟩)) ∧ wx.cell? ⟨K, 0, none⟩ = some (.int .i64 b) ∧ wx.cell? ⟨K, 1, none⟩ = some (.int .i64 m))
  (first | (exact ⟨t5, a0, a1⟩) | (exact ⟨t6, cell_is K6 0 rfl, cell_is K6 1 rfl⟩))
  (first | (go_at_call 99; refine (tread_s w1.drew hf h3 hs3 hEx hn h0 hm0 hm1 h1).mono ?_; rintro e w6 ⟨g, c', rfl, hc', k6, h6, hx6, hg, hB6, hT6⟩; have t6 := (hf.need _ h6.env).p5; have K6 := k6.ow.heap K0 (by simp)))
 have hQ4 : d.Q < w.heap.size := (by omega)
 have hsz : w.heap.size ≤ g := by have := k0.size; have h9 : w1.drew.heap.size = w1.heap.size := rfl; omega
 have how := k6.ahead k0.drew hQ4
 have HS6 := Lib.hid hx6
 clear h2 h3 hs2 hs3 hx6 t6 K6 k6
 go_wp2_with fail
 go_ret2
 exact ⟨g, c', rfl, hc', how, h6, HS6.out, hsz, hB6, hT6⟩
end
theorem RdW.refl {w : World} {base n : Nat} {d : Ids} {t : Int} (h : VwT w base d.Q d.X d.W d.V t n) : RdW base d w w := by
 obtain ⟨s, m, xs, q1, -, -⟩ := h
 exact ⟨[], Chg.refl [] w, fun x hx => (by cases hx), s, s, cell_is q1 4 rfl, cell_is q1 4 rfl, fun x hx => (by cases hx), fun g hg => Or.inl hg⟩
theorem RdW.trans {w w1 w2 : World} {base : Nat} {d : Ids} (h : RdW base d w w1) (k : RdW base d w1 w2) : RdW base d w w2 := by
 obtain ⟨T, h1, h2, s, s', e1, e2, e3, e4⟩ := h
 obtain ⟨U, k1, k2, u, u', f1, f2, f3, f4⟩ := k
 have es : s' = u := by rw [e2] at f1; exact Option.some.inj f1
 subst es
 have hx3 : ∀ x ∈ U, x < w.heap.size → x = d.V ∨ x = d.Q ∨ s.ownBlock = some x := fun x hx hl => by
  rcases f3 x hx with h | h | h
  ·exact Or.inl h
  ·exact Or.inr (Or.inl h)
  ·rcases e4 x h with h | h
   ·exact Or.inr (Or.inr h)
   ·omega
 refine ⟨T ++ U.filter (fun x => decide (x < w.heap.size)), (h1.mono (fun x hx _ => List.mem_append_left _ hx)).trans k1 (fun x hx hl => List.mem_append_right _ (List.mem_filter.2 ⟨hx, decide_eq_true hl⟩)), fun x hx => ?_, s, u', e1, f2, fun x hx => ?_, fun g hg => ?_⟩
 ·rcases List.mem_append.1 hx with hx | hx
  ·exact h2 x hx
  ·obtain ⟨hx, hl⟩ := List.mem_filter.1 hx
   refine ⟨(k2 x hx).1, fun cs t fr hh => ?_⟩
   by_cases hT : x ∈ T
   ·exact (h2 x hT).2 cs t fr hh
   ·exact (k2 x hx).2 cs t fr (h1.heap hh hT)
 ·rcases List.mem_append.1 hx with hx | hx
  ·exact e3 x hx
  ·obtain ⟨hx, hl⟩ := List.mem_filter.1 hx
   exact hx3 x hx (of_decide_eq_true hl)
 ·have hz := h1.size
  rcases f4 g hg with h | h
  ·exact e4 g h
  ·exact Or.inr (by omega)
theorem RdW.thenC {w w1 w2 : World} {base : Nat} {d : Ids} (h : RdW base d w w1) (k : Chg [] w1 w2) (hq : d.Q < w1.heap.size) : RdW base d w w2 := by
 obtain ⟨T, h1, h2, s, s', e1, e2, e3, e4⟩ := h
 refine ⟨T, h1.then (k.mono (fun x hx _ => by cases hx)), h2, s, s', e1, ?_, e3, e4⟩
 have hb := k.block d.Q hq (by simp)
 rw [← e2]
 unfold World.cell?
 rw [hb]
theorem RdW.then_new {w w1 w2 : World} {base : Nat} {d : Ids} {U : List Nat} (h : RdW base d w w1) (k : Chg U w1 w2) (hU : ∀ x ∈ U, w.heap.size ≤ x) (hq : d.Q < w.heap.size) : RdW base d w w2 := by
 obtain ⟨T, h1, h2, s, s', e1, e2, e3, e4⟩ := h
 refine ⟨T, h1.trans k (fun x hx hlt => by have := hU x hx; omega), h2, s, s', e1, ?_, e3, e4⟩
 have hb := k.block d.Q (Nat.lt_of_lt_of_le hq h1.size) (fun hx => by have := hU _ hx; omega)
 rw [← e2]
 unfold World.cell?
 rw [hb]
theorem own_av33 {w : World} {b0 k : Nat} {v : Value} {xs : List Value} {ts : List Nat} (ho : w.ownsRow b0 33 1 v k xs) (ht : 33 ∉ ts) : Av w v.ownBlock.toList ts := by
 intro x hx cs t fr hh
 obtain ⟨-, cs', h2⟩ := own_elem ho (show v.ownBlock = some x by simpa using hx)
 rw [hh] at h2; cases h2; exact ht
def SpI (l : List (Int × Int)) (F n : Int) : Prop := (l = [] ∧ n = 0) ∨ ∃ k, l = [(F, k)] ∧ n ≤ k ∧ 1 ≤ k ∧ 0 ≤ F ∧ F + k ≤ 258
theorem SpI.ext {l : List (Int × Int)} {F n m : Int} (h : SpI l F n) (h0 : 0 ≤ n) : Ext l (F + n) m := by
 rcases h with ⟨e, -⟩ | ⟨k, e, h1, h2, h3, h4⟩
 ·exact Or.inl e
 ·exact Or.inr ⟨F, k, e, h3, by omega, by omega, h4⟩
theorem SpI.add {l : List (Int × Int)} {F n m : Int} (h : SpI l F n) (h0 : 0 ≤ F) (h1 : 1 ≤ m) (h2 : F + n + m ≤ 258) : SpI (addSp l (F + n) m) F (n + m) := by
 rcases h with ⟨rfl, rfl⟩ | ⟨k, rfl, h3, h4, h5, h6⟩
 ·exact Or.inr ⟨m, by simp [addSp], by omega, h1, h0, by omega⟩
 ·refine Or.inr ⟨max k (F + n + m - F), rfl, by omega, by omega, h5, by omega⟩
theorem SpI.weak {l : List (Int × Int)} {F n b : Int} (h : SpI l F n) (h0 : b ≤ n) (h1 : 0 ≤ b) : SpI l F b := by
 rcases h with ⟨e, h2⟩ | ⟨k, e, h3, h4⟩
 ·exact Or.inl ⟨e, by omega⟩
 ·exact Or.inr ⟨k, e, by omega, h4⟩
section
variable {base : Nat} {d : Ids} {p : Par} {F : World → Prop}
set_option maxRecDepth 100000 in
set_option maxHeartbeats 20000000 in
theorem qcells_s (w : World) {q : Int → List UInt8} {L : List (Int × Value)} {c : Nat → Nat} {k f n : Nat} (hf : Fr base d p F) (h : Su w base d p F q L k) (hq : CellQ q c) {sl : List (Int × Int)} (hs : SpX w base d.V sl) (hsl : SpI sl ((f / 5 : Nat) : Int) 0) (hk : k + readsC f n ≤ 1000) (hn : 0 < n) (hn2 : n ≤ 2000) (hfn : f + n ≤ 1290) :
  Calls Tryz.prog 15 #[.pointer (some ⟨d.P, 0, none⟩), .int .i64 p.h, .int .i64 f, .int .i64 n] w fun e w' =>
  ∃ g o cp k', e = .returned (.tuple #[.slice (some ⟨g, o, none⟩) n cp, .int .i64 0]) ∧ n ≤ cp ∧ w.heap.size ≤ g ∧ Ow base w w' ∧ Fl w' (some ⟨g, o, none⟩) (cellsC c f n) ∧ Su w' base d p F q L k' ∧ k' ≤ k + readsC f n ∧ (∃ cs, w'.heap[g]? = some (.cells cs 33 (0, 0))) ∧ RdW base d w w' ∧ ∃ sl', SpX w' base d.V sl' ∧ SpI sl' ((f / 5 : Nat) : Int) 0 := by
 have HC := Lib.hid (ccount_need w (hf.need _ h.env))
 have HV0 := Lib.hid h.vw
 have c1 : ¬ ((n : Int) < 0) := by omega
 have c2 : ¬ ((n : Int) > 2000) := by omega
 have c3 : ¬ ((f : Int) < 0) := by omega
 have hw : IntKind.i64.wrap (1290 - (n : Int)) = 1290 - n := by rw [IntKind.wrap_i64]; omega
 have c4 : ¬ ((f : Int) > 1290 - n) := by omega
 have c5 : (n : Int) ≠ 0 := by omega
 have HK := Lib.hid hk
 clear hk
 unfold readsC at HK ⊢
 obtain ⟨Fb, hF⟩ : ∃ Fb, f / 5 = Fb := ⟨_, rfl⟩
 obtain ⟨Lb, hL⟩ : ∃ Lb, (f + n - 1) / 5 = Lb := ⟨_, rfl⟩
 rw [hF, hL] at HK ⊢
 rw [hF] at hsl
 go_enter Tryz.func15, Tryz.ntmps15
 go_wp2_with fail
 go_step3
 go_wp2_with fail
 refine HC.out.mono ?_
 rintro e w1 ⟨rfl, k1⟩
 have h1 := h.keep hf k1
 have hs1 := hs.keep0 k1
 have henv := h1.env
 clear h hs HC
 have HSL := Lib.hid hsl
 clear hsl
 have hQ1 : d.Q < w1.heap.size := (by obtain ⟨_, _, _, hq, -, -⟩ := h1.vw; exact heap_lt hq)
 go_wp2_with fail
 have eF : (f : Int) / 5 = (Fb : Int) := by omega
 have eL : ((f : Int) + n - 1) / 5 = (Lb : Int) := by omega
 simp only [eF, eL]
 have hFL : Fb ≤ Lb ∧ Lb ≤ 257 ∧ 5 * Fb ≤ f ∧ f + n ≤ 5 * (Lb + 1) := by omega
 have HX := Lib.hid hFL
 clear eF eL hF hL hFL c1 c2 c3 c4 c5 hw
 have HCQ := Lib.hid hq
 have hu5 : ∀ b : Nat, b < 258 → unpackB (q (b : Int)) = some (rowC c b) := fun b hb => hq.unpack hb
 have hl40 : ∀ b : Nat, b < 258 → (q (b : Int)).length = 40 := fun b hb => hq.len hb
 have HU5 := Lib.hid hu5
 have HL40 := Lib.hid hl40
 have hw1 := k1.size
 clear hq hu5 hl40
 go_step3
 go_wp2_with fail
 go_loopw [13, 14, 15, 16, 17, 18, 19] (fun v i _ _ _ _ _ wr => ∃ j t : Nat, i = .int .i64 ((Fb + j : Nat) : Int) ∧ Hid (Fb + j ≤ Lb + 1 ∧ t * 16 ≤ j + 15 ∧ (Fb + j ≤ Lb → j = 16 * t)) ∧ RdW base d w1 wr ∧ (∃ sl, SpX wr base d.V sl ∧ SpI sl (Fb : Int) j) ∧ wr.ownsRow w1.heap.size 33 1 v (5 * j) (flCells (cellsC c (5 * Fb) (5 * j))) ∧ Su wr base d p F q L (k + t)) (fun _ i _ _ _ _ _ _ => Lb + 1 - (intOf i).toNat)
 case atStart => exact ⟨0, 0, rfl, Lib.hid (by have := HX.out; omega), RdW.refl h1.vw, ⟨_, hs1, HSL.out⟩, World.ownsRow_nil _ _ _ _, h1⟩
 case round =>
  obtain ⟨j, t, rfl, hjt, kr, ⟨sl1, hsx, hsi⟩, hor, hsr⟩ := hrel
  rcases Nat.lt_or_ge (Fb + j) (Lb + 1) with hlt | hge
  ·have hlt' : ((Fb + j : Nat) : Int) ≤ Lb := by omega
   go_wp2_with fail
   obtain ⟨s, hs, hs1, hs2, hs3, hs4⟩ : ∃ s : Nat, min 16 (wrap64 (wrap64 ((Lb : Int) - (Fb + j)) + 1)) = (s : Int) ∧ 1 ≤ s ∧ s ≤ 16 ∧ Fb + j + s ≤ Lb + 1 ∧ (Fb + j + s ≤ Lb → s = 16) := by
    refine ⟨min 16 (Lb + 1 - Fb - j), ?_, by omega, by omega, by omega, by omega⟩
    have := HX.out
    unfold wrap64
    omega
   simp only [hs]
   have hjt2 := hjt.out
   refine (sread_s wr (m := s) (b := ((Fb : Int) + (j : Int))) hf hsr hsx (hsi.ext (by omega)) (by have := HK.out; have := HX.out; omega) (by omega) hs1 hs2 (by have := HX.out; omega)).mono ?_
   rintro e w2 ⟨g, c', rfl, hc', k2, h2, hx2, hg, hB, hT⟩
   have hsi2 := hsi.add (m := (s : Int)) (by have := HX.out; omega) (by omega) (by have := HX.out; omega)
   have kr2 := kr.trans k2
   have ho2 := ownsRow_ow hor k2.ow
   have hsz2 := kr2.ow.size
   have HS := Lib.hid hs
   have HJT := Lib.hid hjt2
   have HS4 := Lib.hid (And.intro hs1 (And.intro hs2 (And.intro hs3 hs4)))
   have hl40s : ∀ i : Nat, i < s → (q ((Fb : Int) + (j : Int) + (i : Int))).length = 40 := fun i hi => by
    have := HL40.out (Fb + j + i) (by have := HX.out; omega)
    rw [← this]; congr 2
   have HLS := Lib.hid hl40s
   clear hsr kr k2 hor hs hg hsx hsi hjt2 hl40s hs4
   go_wp2_with fail
   go_loopw [13, 16, 18, 19] (fun v b _ _ wx => ∃ (i : Nat) (pa : Option Addr), i ≤ s ∧ b = .slice pa (40 * (s - i)) (c' - 40 * i) ∧ (i < s → pa = some ⟨g, 40 * i, none⟩) ∧ RdW base d w1 wx ∧ (∃ sl, SpX wx base d.V sl ∧ SpI sl (Fb : Int) ((j : Int) + s)) ∧ wx.ownsRow w1.heap.size 33 1 v (5 * (j + i)) (flCells (cellsC c (5 * Fb) (5 * (j + i)))) ∧ Su wx base d p F q L (k + t + 1) ∧ Bs wx (some ⟨g, 0, none⟩) (catQ q ((Fb : Int) + (j : Int)) s) ∧ Bt wx g) (fun _ b _ _ _ => lenV b)
   case atStart => exact ⟨0, _, by omega, rfl, fun _ => rfl, kr2, ⟨_, hx2, hsi2⟩, ho2, h2, hB, hT⟩
   case round =>
    obtain ⟨i, pa, hi, rfl, hpa, kx, ⟨sl2, hsx2, hsi3⟩, hox, hzx, hBx, hTx⟩ := hrel
    rcases Nat.lt_or_ge i s with hl | hl
    ·obtain rfl := hpa hl
     have hpos : 0 < 40 * (s - i) := by omega
     have hbi : (Fb : Int) + (j : Int) + (i : Int) = ((Fb + j + i : Nat) : Int) := by omega
     have hb258 : Fb + j + i < 258 := by have := HX.out; omega
     have hBi : Bs wr (some ⟨g, 40 * i, none⟩) (q ((Fb + j + i : Nat) : Int)) := by
      rw [← hbi]
      exact Bs.catQ hBx HLS.out hl
     have HU := Lib.hid (unpack_forty wr (c := c' - 40 * i) (HL40.out _ hb258) (by omega) hBi)
     clear hbi
     go_wp2_with fail
     refine HU.out.mono ?_
     rintro e w4 hu
     have hu5 := HU5.out _ hb258
     rcases hu with ⟨v5, xs5, hu6, rfl, k4, o5⟩ | ⟨hu6, _⟩
     rotate_left
     ·rw [hu5] at hu6; cases hu6
     obtain rfl : rowC c (Fb + j + i) = xs5 := by rw [hu5] at hu6; exact Option.some.inj hu6
     clear hu5 hu6 HU hBi
     obtain ⟨g5, c5, rfl, hF5, -, -⟩ := fl_own o5 (by decide)
     have kx4 := kx.thenC k4 (by obtain ⟨_, _, _, hq, -, -⟩ := hzx.vw; exact heap_lt hq)
     have hsx4 := hsx2.keep0 k4
     have hz4 := hzx.keep hf k4
     have hB4 := hBx.chg k4
     have hT4 : Bt w4 g := ⟨_, k4.heap hTx.choose_spec (by simp)⟩
     have ho4 := ownsRow_chg hox k4
     have hb4 := kx4.ow.size
     have HFl := Lib.hid hF5
     have HRL := Lib.hid (rowC_len c (Fb + j + i))
     clear kx hzx hBx hTx hox hF5 o5 hsx2
     go_wp2_with (at_builtin; refine wpList_append_fl rfl (.tmp 84) (.tmp 85) rfl w1.heap.size _ (5 * (j + i)) (cellsC c (5 * Fb) (5 * (j + i))) (rowC c (Fb + j + i)) rfl ho4 g5 0 5 c5 rfl HRL.out (by decide) HFl.out (by have := HX.out; omega) hb4 ?_; intro g9 cap9 w9 h9 k9)
     have hgn := own_block_ne ho4 hT4.choose_spec (by decide)
     have HB9 := Lib.hid (hB4.chgT k9 hgn)
     have HT9 := Lib.hid (show Bt w9 g from ⟨_, k9.heap hT4.choose_spec hgn⟩)
     have hV9 := hz4.vw
     have HK9 := Lib.hid (kx4.then_new k9 (own_lowF ho4) hQ1)
     have HS9 := Lib.hid (show ∃ sl, SpX w9 base d.V sl ∧ SpI sl (Fb : Int) ((j : Int) + s) from ⟨_, hsx4.keep k9 (own_av33 ho4 (by decide)), hsi3⟩)
     have HZ9 := Lib.hid (hz4.keepF ho4 k9 (hf.keep _ _ HK9.out.ow henv))
     have h9' : w9.ownsRow w1.heap.size 33 1 (.slice (some ⟨g9, 0, none⟩) (5 * (j + i) + 5) cap9) (5 * (j + (i + 1))) (flCells (cellsC c (5 * Fb) (5 * (j + (i + 1))))) := by
      have e1 : 5 * (j + (i + 1)) = 5 * (j + i) + 5 := by omega
      have e2 : cellsC c (5 * Fb) (5 * (j + (i + 1))) = cellsC c (5 * Fb) (5 * (j + i)) ++ rowC c (Fb + j + i) := by rw [← Nat.add_assoc, cellsC_row, Nat.add_assoc]
      rw [e2, e1]; exact h9
     clear hB4 hT4 hz4 ho4 h9 k9 k4 HFl HRL hsx4 hV9
     go_roundw
     case rel => exact ⟨i + 1, _, by omega, by congr 1 <;> omega, fun h => by rw [if_neg (by omega)]; congr 2, HK9.out, HS9.out, h9', HZ9.out, HB9.out, HT9.out⟩
     case measure => simp [lenV]; omega
    ·obtain rfl : i = s := by omega
     have hz0 : 40 * (i - i) = 0 := by omega
     have hnz : ¬ ((0 : Int) < ((40 * (i - i) : Nat) : Int)) := by omega
     have HA := Lib.hid (show Fb + (j + i) ≤ Lb + 1 ∧ (t + 1) * 16 ≤ (j + i) + 15 ∧ (Fb + (j + i) ≤ Lb → j + i = 16 * (t + 1)) by have h1 := HJT.out; have h2 := HS4.out; omega)
     have HR := Lib.hid (show Value.int IntKind.i64 (wrap64 ((Fb : Int) + j + i)) = Value.int IntKind.i64 ((Fb : Int) + ((j + i : Nat) : Int)) from congrArg _ (by have := HX.out; unfold wrap64; omega))
     have HSP := Lib.hid (show ∃ sl, SpX wr base d.V sl ∧ SpI sl (Fb : Int) ((j + i : Nat) : Int) from ⟨_, hsx2, by rw [Int.natCast_add]; exact hsi3⟩)
     clear hsx2
     have HZ := Lib.hid (show Su wr base d p F q L (k + (t + 1)) by rw [← Nat.add_assoc]; exact hzx)
     have HM := Lib.hid (meas_lt hs1 hs3 HX.out.2.1)
     go_wp2_with fail
     go_roundw
     case rel => exact ⟨_, _, _, _, ⟨j + i, rfl, t + 1, by first | exact ⟨HA, kx, HSP.out, hox, HZ.out⟩ | exact ⟨HA, HSP.out, hox, HZ.out⟩⟩, rfl, rfl, rfl, HR.out⟩
     case measure => exact HM.out
  ·have hnl : ¬ ((Fb + j : Nat) : Int) ≤ Lb := by omega
   have hjt2 := hjt.out
   obtain ⟨gv, cv, rfl, hFv, hgv, hle⟩ := fl_own hor (by have := HX.out; omega)
   have e1 : IntKind.i64.wrap ((Fb : Int) * 5) = ((5 * Fb : Nat) : Int) := by rw [IntKind.wrap_i64]; have := HX.out; omega
   have e2 : IntKind.i64.wrap ((f : Int) - ((5 * Fb : Nat) : Int)) = ((f - 5 * Fb : Nat) : Int) := by rw [IntKind.wrap_i64]; have := HX.out; omega
   have e3 : IntKind.i64.wrap (((f - 5 * Fb : Nat) : Int) + n) = ((f - 5 * Fb + n : Nat) : Int) := by rw [IntKind.wrap_i64]; have := HX.out; omega
   have e4 : f - 5 * Fb + n ≤ 5 * j := by have := HX.out; omega
   have e5 : 5 * Fb ≤ f := by have := HX.out; omega
   have HT33 := Lib.hid (own_elem hor (g := gv) rfl).2
   have HE := Lib.hid (fl_cut (f := f) (n := n) hFv e5 e4)
   have HK2 := Lib.hid (kr.ahead k1 (by obtain ⟨_, _, _, hq, -, -⟩ := HV0.out; exact heap_lt hq))
   have HSP := Lib.hid (And.intro hsx (hsi.weak (b := 0) (by omega) (by omega)))
   have HM := Lib.hid (show k + t ≤ k + ((Lb - Fb) / 16 + 1) by have := HX.out; omega)
   have HC := Lib.hid (show n ≤ cv - (f - 5 * Fb) by omega)
   have HG := Lib.hid (show w.heap.size ≤ gv by omega)
   clear hjt2 hjt
   go_wp2_with fail
   go_ret2
   exact ⟨gv, f - 5 * Fb, cv - (f - 5 * Fb), k + t, rfl, HC.out, HG.out, HK2.out.ow, HE.out, hsr, HM.out, HT33.out, HK2.out, _, HSP.out⟩
end
theorem rput_nil (a m : Int) : rput [] (a, m) = [(a, m)] := by
 unfold rput rputA
 rw [if_neg (by simp), show a + m - a = m by omega]
 rfl
theorem rput_one {F k a m : Int} (h0 : F ≤ a) (h1 : a ≤ F + k) (h2 : 0 ≤ m) : rput [(F, k)] (a, m) = [(F, max (a + m) (F + k) - F)] := by
 unfold rput rputA
 rw [if_neg (by show ¬ F + k < a; omega), if_neg (by show ¬ a + m < F; omega)]
 unfold rputA
 rw [if_neg (by simp), show min a F = F by omega]
 rfl
theorem SpI.put {l : List (Int × Int)} {F n m : Int} (h : SpI l F n) (hn : 0 ≤ n) (h0 : 0 ≤ F) (h1 : 1 ≤ m) (h2 : F + n + m ≤ 258) : SpI (rput l (F + n, m)) F (n + m) := by
 rcases h with ⟨rfl, rfl⟩ | ⟨k, rfl, h3, h4, h5, h6⟩
 ·exact Or.inr ⟨m, by rw [rput_nil]; simp, by omega, h1, h0, by omega⟩
 ·exact Or.inr ⟨max (F + n + m) (F + k) - F, rput_one (by omega) (by omega) (by omega), by omega, by omega, h5, by omega⟩
theorem SpI.len {l : List (Int × Int)} {F n : Int} (h : SpI l F n) : l.length ≤ 63 := by
 rcases h with ⟨rfl, -⟩ | ⟨k, rfl, -⟩ <;> simp
theorem SpI.inE {l : List (Int × Int)} {F n : Int} (h : SpI l F n) : InE l := by
 rcases h with ⟨rfl, -⟩ | ⟨k, rfl, -, h1, h2, h3⟩
 ·exact fun p hp => by cases hp
 ·intro p hp
  rw [List.mem_singleton] at hp
  subst hp
  exact ⟨h2, by show 0 ≤ k; omega, by show F + k ≤ _; omega⟩
theorem RrX.refl {w : World} {lo V Y U : Nat} {t : Int} {S : List (Int × Int)} {n : Nat} (h : RvAt w lo V Y U t S n) : RrX w w V := by
 obtain ⟨sv, rv, xs, v1, v2, v3⟩ := h
 exact ⟨rv, rv, [], cell_is v1 5 rfl, cell_is v1 5 rfl, Chg.refl _ _, fun x hx => (by cases hx), fun g hg _ => hg⟩
theorem RrX.trans {w w1 w2 : World} {V : Nat} (h : RrX w w1 V) (k : RrX w1 w2 V) : RrX w w2 V := by
 obtain ⟨rv, rv', T, r1, r2, h1, h2, h3⟩ := h
 obtain ⟨sv, sv', U, s1, s2, k1, k2, k3⟩ := k
 have e : rv' = sv := by rw [r2] at s1; exact Option.some.inj s1
 subst e
 have hz := h1.size
 refine ⟨rv, sv', T ++ U, r1, s2, (h1.mono (fun x hx _ => List.mem_append_left _ hx)).trans k1 (fun x hx _ => List.mem_append_right _ hx), fun x hx hl => ?_, fun g hg hl => h3 g (k3 g hg (by omega)) hl⟩
 rcases List.mem_append.1 hx with hx | hx
 ·exact h2 x hx hl
 ·rcases k2 x hx (by omega) with h | h
  ·exact Or.inl h
  ·exact Or.inr (h3 x h hl)
theorem RrX.then_new {w w1 w2 : World} {V : Nat} {X : List Nat} (h : RrX w w1 V) (k : Chg X w1 w2) (hX : ∀ x ∈ X, w.heap.size ≤ x) (hV : V < w.heap.size) : RrX w w2 V := by
 obtain ⟨rv, rv', T, r1, r2, h1, h2, h3⟩ := h
 refine ⟨rv, rv', T, r1, ?_, h1.trans k (fun x hx hlt => by have := hX x hx; omega), h2, h3⟩
 have hb := k.block V (Nat.lt_of_lt_of_le hV h1.size) (fun hx => by have := hX _ hx; omega)
 rw [← r2]
 unfold World.cell?
 rw [hb]
theorem RrX.size {w w1 : World} {V : Nat} (h : RrX w w1 V) : w.heap.size ≤ w1.heap.size := by
 obtain ⟨rv, rv', T, r1, r2, h1, h2, h3⟩ := h
 exact h1.size
theorem RvAt.keepA {w w' : World} {T : List Nat} {lo V Y U : Nat} {t : Int} {S : List (Int × Int)} {n : Nat} (h : RvAt w lo V Y U t S n) (hc : Chg T w w') (hT : Av w T [180, 79, 255]) : RvAt w' lo V Y U t S n := by
 obtain ⟨sv, rv, xs, v1, v2, v3⟩ := h
 refine ⟨sv, rv, xs, hc.heap v1 (hT.ne v1 (by simp)), own_kp v2 hc (fun g hg hm => ?_), own_kp v3 hc (fun g hg hm => ?_)⟩
 ·obtain ⟨-, cs, hh⟩ := own_elem v2 hg
  exact hT g hm _ _ _ hh (by simp)
 ·obtain ⟨-, cs, hh⟩ := own_elem v3 hg
  exact hT g hm _ _ _ hh (by simp)
theorem RvAt.lt {w : World} {lo V Y U : Nat} {t : Int} {S : List (Int × Int)} {n : Nat} (h : RvAt w lo V Y U t S n) : V < w.heap.size := by
 obtain ⟨sv, rv, xs, v1, -, -⟩ := h
 exact heap_lt v1
theorem own_av {w : World} {b0 e size k : Nat} {v : Value} {xs : List Value} {ts : List Nat} (ho : w.ownsRow b0 e size v k xs) (ht : e ∉ ts) : Av w v.ownBlock.toList ts := by
 intro x hx cs t fr hh
 obtain ⟨-, cs', h2⟩ := own_elem ho (show v.ownBlock = some x by simpa using hx)
 rw [hh] at h2; cases h2; exact ht
theorem own_frx {w w' : World} {lo b0 e size n : Nat} {ro : Option Nat} {v : Value} {xs : List Value} (h : w.ownsRow b0 e size v n xs) (k : FxR lo ro w w') (he : e ∉ [120, 163, 167, 180, 173, 247, 255]) : w'.ownsRow b0 e size v n xs := by
 refine ⟨h.1, ?_⟩
 rcases h.2 with hn | ⟨g, cap, cur, hv, hb, hg, rest⟩
 ·exact Or.inl hn
 ·exact Or.inr ⟨g, cap, cur, hv, hb, k.heap hg he, rest⟩
theorem catQ_flat (q : Int → List UInt8) (a : Nat) : ∀ m, (List.range m).flatMap (fun i => q ((a + i : Nat) : Int)) = catQ q (a : Int) m
 | 0 => rfl
 | m + 1 => by
  rw [List.range_succ, List.flatMap_append, catQ_flat q a m, catQ_succ]
  simp
end Go.Proofs.YtelakcjbknbehaaGreat
namespace Go.Proofs.YtelakcjbknbehaaGreat
open Ieee

def cutW (way : Toward) (neg : Bool) (n d : Nat) : Nat :=
 n / 2 ^ d + (match way with
  | .even => decide (2 ^ d < 2 * (n % 2 ^ d)) || (2 ^ d == 2 * (n % 2 ^ d) && n / 2 ^ d % 2 == 1)
  | .down => neg && n % 2 ^ d != 0
  | .up => !neg && n % 2 ^ d != 0
  | .zero => false).toNat
theorem cut_eq (way : Toward) (neg : Bool) (n d : Nat) : way.cut neg n d = cutW way neg n d := by
 unfold Toward.cut cutW
 simp only [Nat.one_shiftLeft]
 by_cases h : d ≤ n.log2 + 2
 ·rw [Nat.min_eq_left h]
  cases way <;> rfl
 ·rw [Nat.min_eq_right (by omega)]
  have h1 : n < 2 ^ (n.log2 + 1) := Nat.lt_log2_self
  have h2 : 2 ^ (n.log2 + 2) = 2 * 2 ^ (n.log2 + 1) := by rw [Nat.pow_succ]; omega
  have h3 : 2 ^ (n.log2 + 2) ≤ 2 ^ d := Nat.pow_le_pow_right (by decide) (by omega)
  have e1 : n / 2 ^ (n.log2 + 2) = 0 := Nat.div_eq_of_lt (by omega)
  have e2 : n / 2 ^ d = 0 := Nat.div_eq_of_lt (by omega)
  have e3 : n % 2 ^ (n.log2 + 2) = n := Nat.mod_eq_of_lt (by omega)
  have e4 : n % 2 ^ d = n := Nat.mod_eq_of_lt (by omega)
  rw [e1, e2, e3, e4]
  cases way with
  | even =>
   have c1 : ¬ 2 ^ (n.log2 + 2) < 2 * n := by omega
   have c2 : ¬ 2 ^ d < 2 * n := by omega
   simp [c1, c2]
  | down => rfl
  | up => rfl
  | zero => rfl
theorem cutW_shift (way : Toward) (neg : Bool) (n d j : Nat) : cutW way neg (n * 2 ^ j) (d + j) = cutW way neg n d := by
 have hp : 0 < 2 ^ j := Nat.pow_pos (by decide)
 unfold cutW
 rw [Nat.pow_add, Nat.mul_div_mul_right _ _ hp, Nat.mul_mod_mul_right]
 congr 2
 have a1 : (2 ^ d * 2 ^ j < 2 * (n % 2 ^ d * 2 ^ j)) ↔ (2 ^ d < 2 * (n % 2 ^ d)) := by
  rw [← Nat.mul_assoc]; exact Nat.mul_lt_mul_right hp
 have a2 : (2 ^ d * 2 ^ j == 2 * (n % 2 ^ d * 2 ^ j)) = (2 ^ d == 2 * (n % 2 ^ d)) := by
  rw [← Nat.mul_assoc, Bool.eq_iff_iff, beq_iff_eq, beq_iff_eq]; exact Nat.mul_left_inj (by omega)
 have a3 : (n % 2 ^ d * 2 ^ j != 0) = (n % 2 ^ d != 0) := by
  rw [Bool.eq_iff_iff, bne_iff_ne, bne_iff_ne, Ne, Ne, Nat.mul_eq_zero]; omega
 cases way with
 | even => simp only [a1, a2]
 | down => simp only [a3]
 | up => simp only [a3]
 | zero => rfl
theorem cutW_zero (way : Toward) (neg : Bool) (n : Nat) : cutW way neg n 0 = n := by
 unfold cutW
 rw [Nat.pow_zero, Nat.div_one, Nat.mod_one]
 cases way <;> simp
theorem cutW_exact (way : Toward) (neg : Bool) (n j : Nat) : cutW way neg (n * 2 ^ j) j = n := by
 have := cutW_shift way neg n 0 j
 rw [Nat.zero_add, cutW_zero] at this
 exact this
theorem cutW_split (way : Toward) (neg : Bool) (m a b c : Nat) (h : c = a + b) : cutW way neg (m * 2 ^ c) b = m * 2 ^ a := by
 rw [h, Nat.pow_add, ← Nat.mul_assoc, cutW_exact]

def units (m : Nat) (i : Int) : Nat := m * 2 ^ (i + 1074).toNat
def valR (r : Nat) : Nat := if r < 4503599627370496 then r else (4503599627370496 + r % 4503599627370496) * 2 ^ (r / 4503599627370496 - 1)
def rungOf (N : Nat) : Nat := if N = 0 then 0 else min ((N.log2 - 52) * 4503599627370496 + cutW .even false N (N.log2 - 52)) 9218868437227405312

theorem log2_mul (m j : Nat) (h : m ≠ 0) : (m * 2 ^ j).log2 = m.log2 + j := by
 have hp : 0 < 2 ^ j := Nat.pow_pos (by decide)
 rw [Nat.log2_eq_iff (by intro e; rcases Nat.mul_eq_zero.1 e with e | e <;> omega)]
 have h1 := Nat.log2_self_le h
 have h2 := @Nat.lt_log2_self m
 refine ⟨by rw [Nat.pow_add]; exact Nat.mul_le_mul_right _ h1, ?_⟩
 rw [show m.log2 + j + 1 = m.log2 + 1 + j by omega, Nat.pow_add]
 exact Nat.mul_lt_mul_of_pos_right h2 hp
theorem cutW_even (neg : Bool) (n d : Nat) : cutW .even neg n d = cutW .even false n d := rfl
theorem nearest_units (s : Bool) (m : Nat) (i : Int) (hi : -1074 ≤ i) : double.nearest s m i = double.word s (rungOf (units m i)) := by
 unfold Format.nearest rungOf
 by_cases hm : m = 0
 ·subst hm; rw [if_pos rfl, if_pos (by simp [units])]
 ·have hp : 0 < 2 ^ (i + 1074).toNat := Nat.pow_pos (by decide)
  have hu : units m i ≠ 0 := by unfold units; intro e; rcases Nat.mul_eq_zero.1 e with e | e <;> omega
  rw [if_neg hm, if_neg hu]
  have e1 : double.leastPlace = -1074 := by decide
  have e2 : double.binade = 4503599627370496 := by decide
  have e3 : double.infRung = 9218868437227405312 := by decide
  have e4 : double.fractionBits = 52 := rfl
  have hL : (units m i).log2 = m.log2 + (i + 1074).toNat := log2_mul _ _ hm
  simp only [e1, e2, e3, e4, cut_eq]
  obtain ⟨L, hLL⟩ : ∃ L, m.log2 = L := ⟨_, rfl⟩
  obtain ⟨j, hj⟩ : ∃ j : Nat, i + 1074 = j := ⟨(i + 1074).toNat, by omega⟩
  have hi' : i = (j : Int) - 1074 := by omega
  rw [hL, hLL]
  have ej : (i + 1074).toNat = j := by omega
  have k1 : (max (i + (L : Int) - ((52 : Nat) : Int)) (-1074) - -1074).toNat = L + j - 52 := by omega
  rw [ej, k1]
  have key : cutW .even s (m <<< (i - max (i + (L : Int) - ((52 : Nat) : Int)) (-1074)).toNat) (max (i + (L : Int) - ((52 : Nat) : Int)) (-1074) - i).toNat = cutW .even false (units m i) (L + j - 52) := by
   unfold units
   rw [ej, Nat.shiftLeft_eq]
   by_cases hc : 52 ≤ L
   ·have k2 : (i - max (i + (L : Int) - ((52 : Nat) : Int)) (-1074)).toNat = 0 := by omega
    have k3 : (max (i + (L : Int) - ((52 : Nat) : Int)) (-1074) - i).toNat = L - 52 := by omega
    have k4 : L + j - 52 = (L - 52) + j := by omega
    rw [k2, k3, k4, cutW_shift, Nat.pow_zero, Nat.mul_one]
    rfl
   ·have k3 : (max (i + (L : Int) - ((52 : Nat) : Int)) (-1074) - i).toNat = 0 := by omega
    have k5 : (i - max (i + (L : Int) - ((52 : Nat) : Int)) (-1074)).toNat = j - (L + j - 52) := by omega
    rw [k3, k5, cutW_zero]
    have := cutW_exact .even false (m * 2 ^ (j - (L + j - 52))) (L + j - 52)
    rw [Nat.mul_assoc, ← Nat.pow_add, show j - (L + j - 52) + (L + j - 52) = j by omega] at this
    rw [this]
  rw [key]
theorem integral_units (way : Toward) (s : Bool) (m : Nat) (i : Int) (hi : -1074 ≤ i) : (Datum.number s m i).integral way = .number s (cutW way s (units m i) 1074) 0 := by
 unfold Datum.integral
 simp only
 congr 1
 rw [cut_eq, Nat.shiftLeft_eq]
 unfold units
 by_cases h : 0 ≤ i
 ·rw [show (-i).toNat = 0 by omega, cutW_zero]
  exact (cutW_split way s m _ _ _ (by omega)).symm
 ·rw [show i.toNat = 0 by omega, Nat.pow_zero, Nat.mul_one]
  have := cutW_shift way s m (-i).toNat (i + 1074).toNat
  rw [show (-i).toNat + (i + 1074).toNat = 1074 by omega] at this
  exact this.symm

/-! rungs and units -/
theorem rung_rep (W j : Nat) (hW : W < 9007199254740992) (h0 : W ≠ 0) (hj : W.log2 + j ≤ 2097) : rungOf (W * 2 ^ j) < 9218868437227405312 ∧ valR (rungOf (W * 2 ^ j)) = W * 2 ^ j := by
 have hl := log2_mul W j h0
 have hp : 0 < 2 ^ j := Nat.pow_pos (by decide)
 have hN : W * 2 ^ j ≠ 0 := by intro e; rcases Nat.mul_eq_zero.1 e with e | e <;> omega
 have hW2 : W.log2 < 53 := (Nat.log2_lt h0).2 (by simpa using hW)
 unfold rungOf
 rw [if_neg hN, hl]
 by_cases hc : W.log2 + j ≤ 52
 ·have hb : W * 2 ^ j < 2 ^ 53 := (Nat.log2_lt hN).1 (by omega)
  rw [show W.log2 + j - 52 = 0 by omega, cutW_zero, Nat.zero_mul, Nat.zero_add]
  generalize W * 2 ^ j = N at *
  rw [show (2 : Nat) ^ 53 = 9007199254740992 by decide] at hb
  rw [Nat.min_eq_left (by omega)]
  refine ⟨by omega, ?_⟩
  unfold valR
  by_cases h1 : N < 4503599627370496
  ·rw [if_pos h1]
  ·rw [if_neg h1, show N / 4503599627370496 - 1 = 0 by omega, Nat.pow_zero]; omega
 ·obtain ⟨k, hk⟩ : ∃ k, W.log2 + j - 52 = k := ⟨_, rfl⟩
  obtain ⟨t, ht⟩ : ∃ t, j = t + k := ⟨j - k, by omega⟩
  have e1 : W * 2 ^ j = (W * 2 ^ t) * 2 ^ k := by rw [ht, Nat.pow_add, Nat.mul_assoc]
  have hlt := log2_mul W t h0
  have hNt : W * 2 ^ t ≠ 0 := by intro e; rw [e, Nat.zero_mul] at e1; exact hN e1
  have hb1 : W * 2 ^ t < 2 ^ 53 := (Nat.log2_lt hNt).1 (by omega)
  have hb2 : 2 ^ 52 ≤ W * 2 ^ t := (Nat.le_log2 hNt).1 (by omega)
  rw [hk, e1, cutW_exact]
  generalize W * 2 ^ t = M at *
  rw [show (2 : Nat) ^ 53 = 9007199254740992 by decide] at hb1
  rw [show (2 : Nat) ^ 52 = 4503599627370496 by decide] at hb2
  rw [Nat.min_eq_left (by omega)]
  refine ⟨by omega, ?_⟩
  unfold valR
  rw [if_neg (by omega), show (k * 4503599627370496 + M) / 4503599627370496 - 1 = k by omega, show 4503599627370496 + (k * 4503599627370496 + M) % 4503599627370496 = M by omega]
theorem valR_form (r : Nat) (h : r < 9218868437227405312) : ∃ W j, W < 9007199254740992 ∧ valR r = W * 2 ^ j ∧ j ≤ 2045 ∧ (j = 0 ∨ 4503599627370496 ≤ W) := by
 unfold valR
 by_cases h1 : r < 4503599627370496
 ·exact ⟨r, 0, by omega, by rw [if_pos h1, Nat.pow_zero, Nat.mul_one], by omega, Or.inl rfl⟩
 ·exact ⟨4503599627370496 + r % 4503599627370496, r / 4503599627370496 - 1, by omega, by rw [if_neg h1], by omega, Or.inr (by omega)⟩
theorem rungOf_valR (r : Nat) (h : r < 9218868437227405312) : rungOf (valR r) = r := by
 unfold valR
 by_cases h1 : r < 4503599627370496
 ·rw [if_pos h1]
  unfold rungOf
  by_cases h0 : r = 0
  ·rw [if_pos h0, h0]
  ·have hl : r.log2 < 52 := (Nat.log2_lt h0).2 (by simpa using h1)
   rw [if_neg h0, show r.log2 - 52 = 0 by omega, cutW_zero]; omega
 ·rw [if_neg h1]
  have hM : 4503599627370496 + r % 4503599627370496 ≠ 0 := by omega
  have hl : (4503599627370496 + r % 4503599627370496).log2 = 52 := by
   rw [Nat.log2_eq_iff hM]
   rw [show (2 : Nat) ^ 52 = 4503599627370496 by decide, show (2 : Nat) ^ (52 + 1) = 9007199254740992 by decide]; omega
  have hl2 := log2_mul _ (r / 4503599627370496 - 1) hM
  unfold rungOf
  have hp : 0 < 2 ^ (r / 4503599627370496 - 1) := Nat.pow_pos (by decide)
  rw [if_neg (by intro e; rcases Nat.mul_eq_zero.1 e with e | e <;> omega), hl2, hl, show 52 + (r / 4503599627370496 - 1) - 52 = r / 4503599627370496 - 1 by omega, cutW_exact]
  omega
theorem valR_zero {r : Nat} (h : valR r = 0) : r = 0 := by
 unfold valR at h
 split at h
 ·exact h
 ·have hp : 0 < 2 ^ (r / 4503599627370496 - 1) := Nat.pow_pos (by decide)
  rcases Nat.mul_eq_zero.1 h with h | h <;> omega
def pw (k : Nat) : Nat := 2 ^ k
theorem pw_eq (k : Nat) : pw k = 2 ^ k := rfl
theorem pw_pos (k : Nat) : 0 < pw k := Nat.pow_pos (by decide)
theorem pw_succ (k : Nat) : pw (k + 1) = 2 * pw k := Nat.pow_succ'
def T1 : Nat := pw 1074
theorem T1_pow : T1 = 2 ^ 1074 := pw_eq 1074
theorem T1_pos : 0 < T1 := pw_pos 1074
theorem T1_half' : T1 = 2 * pw 1073 := pw_succ 1073
theorem pw_le {i j : Nat} (h : i ≤ j) : pw i ≤ pw j := Nat.pow_le_pow_right (by decide) h
theorem pw_add (t k : Nat) : 2 ^ t * pw k = 2 ^ (t + k) := by rw [pw_eq, Nat.pow_add]
theorem pw_add' (k : Nat) : pw (52 + k) = 4503599627370496 * pw k := by
 have := pw_add 52 k
 rw [← pw_eq (52 + k), show (2 : Nat) ^ 52 = 4503599627370496 by decide] at this
 exact this.symm
theorem top_pow : pw (52 + 1075) = 9007199254740992 * T1 := by
 rw [pw_add', show 1075 = 1074 + 1 from rfl, pw_succ]
 have : T1 = pw 1074 := rfl
 rw [← this]; omega
theorem units_pw (m : Nat) (i : Int) : units m i = m * pw (i + 1074).toNat := rfl
def FinB (b : Nat) : Prop := b < 18446744073709551616 ∧ magB b < 9218868437227405312
def negB (b : Nat) : Bool := decide (9223372036854775808 ≤ b)
def sgnI (s : Bool) (n : Nat) : Int := if s then -(n : Int) else (n : Int)
def rv (b : Nat) : Int := sgnI (negB b) (valR (magB b))

theorem read_fin {b : Nat} (h : FinB b) : ∃ m i, double.read b = .number (negB b) m i ∧ -1074 ≤ i ∧ units m i = valR (magB b) ∧ (m < 4503599627370496 → i = -1074) ∧ m < 9007199254740992 := by
 obtain ⟨h1, h2⟩ := h
 unfold Format.read
 have e1 : double.signWeight = 9223372036854775808 := by decide
 have e2 : double.binade = 4503599627370496 := by decide
 have e3 : double.infRung = 9218868437227405312 := by decide
 have e4 : double.leastPlace = -1074 := by decide
 simp only [e1, e2, e3, e4]
 have hs : (b / 9223372036854775808 % 2 == 1) = negB b := by
  unfold negB
  rw [Bool.eq_iff_iff, beq_iff_eq, decide_eq_true_iff]; omega
 rw [hs]
 unfold magB at h2 ⊢
 generalize b % 9223372036854775808 = r at *
 by_cases h3 : r < 4503599627370496
 ·rw [if_pos h3]
  refine ⟨r, -1074, rfl, by omega, ?_, fun _ => rfl, by omega⟩
  unfold units valR
  rw [if_pos h3]; simp
 ·rw [if_neg h3, if_pos h2]
  refine ⟨4503599627370496 + r % 4503599627370496, -1074 + ((r / 4503599627370496 - 1 : Nat) : Int), rfl, by omega, ?_, fun h => by omega, by omega⟩
  unfold units valR
  rw [if_neg h3, show (-1074 + ((r / 4503599627370496 - 1 : Nat) : Int) + 1074).toNat = r / 4503599627370496 - 1 by omega]
theorem sgn_mul (s : Bool) (n k : Nat) : sgnI s n * (k : Int) = sgnI s (n * k) := by
 unfold sgnI; cases s <;> simp [Int.neg_mul]
theorem signed_eq (s : Bool) (m k : Nat) : signed s m k = sgnI s (m * 2 ^ k) := by
 unfold signed sgnI; rw [Nat.shiftLeft_eq]
theorem units_base (m : Nat) (i base : Int) (h1 : -1074 ≤ base) (h2 : base ≤ i) : m * 2 ^ (i - base).toNat * 2 ^ (base + 1074).toNat = units m i := by
 unfold units
 rw [Nat.mul_assoc, ← Nat.pow_add]; congr 2; omega
theorem compare_mul (a b : Int) (k : Nat) (hk : 0 < k) : compare (a * (k : Int)) (b * (k : Int)) = compare a b := by
 have hk' : (0 : Int) < k := by omega
 rcases Int.lt_trichotomy a b with h | h | h
 ·rw [Int.compare_eq_lt.2 h, Int.compare_eq_lt.2 (Int.mul_lt_mul_of_pos_right h hk')]
 ·subst h; rw [Int.compare_eq_eq.2 rfl, Int.compare_eq_eq.2 rfl]
 ·rw [Int.compare_eq_gt.2 h, Int.compare_eq_gt.2 (Int.mul_lt_mul_of_pos_right h hk')]
theorem order_num (s t : Bool) (m n : Nat) (i j : Int) (hi : -1074 ≤ i) (hj : -1074 ≤ j) :
  (Datum.number s m i).order (.number t n j) = some (compare (sgnI s (units m i)) (sgnI t (units n j))) := by
 unfold Datum.order
 simp only
 rw [signed_eq, signed_eq]
 congr 1
 have hp : 0 < 2 ^ (min i j + 1074).toNat := Nat.pow_pos (by decide)
 rw [← compare_mul _ _ _ hp, sgn_mul, sgn_mul, units_base _ _ _ (by omega) (by omega), units_base _ _ _ (by omega) (by omega)]
theorem order_fin {b c : Nat} (hb : FinB b) (hc : FinB c) : double.order b c = some (compare (rv b) (rv c)) := by
 obtain ⟨m, i, e1, h1, h2, _⟩ := read_fin hb
 obtain ⟨n, j, e2, h3, h4, _⟩ := read_fin hc
 unfold Format.order
 rw [e1, e2, order_num _ _ _ _ _ _ h1 h3, h2, h4]
 rfl
theorem word_eq (s : Bool) (r : Nat) : double.word s r = if s then 9223372036854775808 + r else r := by
 unfold Format.word; rw [show double.signWeight = 9223372036854775808 by decide]
theorem mag_word {s : Bool} {r : Nat} (h : r < 9223372036854775808) : magB (double.word s r) = r := by
 rw [word_eq]; unfold magB; cases s
 ·rw [if_neg (by decide)]; omega
 ·rw [if_pos rfl]; omega
theorem neg_word {s : Bool} {r : Nat} (h : r < 9223372036854775808) : negB (double.word s r) = s := by
 rw [word_eq]; unfold negB; cases s
 ·rw [if_neg (by decide)]; exact decide_eq_false (by omega)
 ·rw [if_pos rfl]; exact decide_eq_true (by omega)
theorem word_lt {s : Bool} {r : Nat} (h : r < 9223372036854775808) : double.word s r < 18446744073709551616 := by
 rw [word_eq]; split <;> omega
theorem word_fin {s : Bool} {r : Nat} (h : r < 9218868437227405312) : FinB (double.word s r) := ⟨word_lt (by omega), by rw [mag_word (by omega)]; exact h⟩
theorem word_rv {s : Bool} {r : Nat} (h : r < 9218868437227405312) : rv (double.word s r) = sgnI s (valR r) := by
 unfold rv; rw [mag_word (by omega), neg_word (by omega)]
theorem word_self {b : Nat} (h : b < 18446744073709551616) : double.word (negB b) (magB b) = b := by
 rw [word_eq]; unfold negB magB
 by_cases g : 9223372036854775808 ≤ b
 ·rw [decide_eq_true g, if_pos rfl]; omega
 ·rw [decide_eq_false g, if_neg (by decide)]; omega
/-! made whole -/
def wholeN (way : Toward) (b : Nat) : Nat := cutW way (negB b) (valR (magB b)) 1074
def wholeB (way : Toward) (b : Nat) : Nat := double.write ((double.read b).integral way)
theorem cutW_le (way : Toward) (s : Bool) (n d : Nat) : cutW way s n d ≤ n / 2 ^ d + 1 := by
 unfold cutW
 have hb : ∀ b : Bool, b.toNat ≤ 1 := by intro b; cases b <;> simp
 exact Nat.add_le_add_left (hb _) _
theorem units_zero (W : Nat) : units W 0 = W * T1 := by
 rw [units_pw, show ((0 : Int) + 1074).toNat = 1074 by omega]; exact rfl
theorem write_num (s : Bool) (m : Nat) (i : Int) (hi : -1074 ≤ i) : double.write (.number s m i) = double.word s (rungOf (units m i)) := nearest_units s m i hi
theorem whole_write {b : Nat} (way : Toward) (h : FinB b) : wholeB way b = double.word (negB b) (rungOf (wholeN way b * T1)) := by
 obtain ⟨m, i, e1, h1, h2, _⟩ := read_fin h
 unfold wholeB wholeN
 rw [e1, integral_units way _ _ _ h1, write_num _ _ _ (by omega), units_zero, h2]
theorem whole_rep (way : Toward) (s : Bool) (r : Nat) (h : r < 9218868437227405312) :
  rungOf (cutW way s (valR r) 1074 * T1) < 9218868437227405312 ∧ valR (rungOf (cutW way s (valR r) 1074 * T1)) = cutW way s (valR r) 1074 * T1 := by
 obtain ⟨M, j, hM, he, hj, _⟩ := valR_form r h
 by_cases hc : 1074 ≤ j
 ·obtain ⟨t, rfl⟩ : ∃ t, j = t + 1074 := ⟨j - 1074, by omega⟩
  have e2 : cutW way s (valR r) 1074 * T1 = valR r := by
   rw [he, cutW_split way s M t 1074 _ rfl, Nat.mul_assoc]
   exact congrArg (M * ·) (pw_add t 1074)
  rw [e2, rungOf_valR r h]
  exact ⟨h, rfl⟩
 ·have hd : valR r / T1 ≤ 4503599627370496 := by
   have h3 : valR r < 4503599627370497 * T1 := by
    rw [he, ← pw_eq, T1_half']
    have h4 : M * pw j ≤ M * pw 1073 := Nat.mul_le_mul_left _ (pw_le (by omega))
    have hp := pw_pos 1073
    generalize pw 1073 = P at *
    have h6 : M * P ≤ 9007199254740991 * P := Nat.mul_le_mul_right _ (by omega)
    omega
   have := (Nat.div_lt_iff_lt_mul T1_pos).2 h3
   omega
  have hW := cutW_le way s (valR r) 1074
  rw [← T1_pow] at hW
  obtain ⟨W, hWe⟩ : ∃ W, cutW way s (valR r) 1074 = W := ⟨_, rfl⟩
  rw [hWe] at hW ⊢
  have hW2 : W < 9007199254740992 := by omega
  by_cases h0 : W = 0
  ·subst h0
   rw [Nat.zero_mul]
   exact ⟨by decide, by decide⟩
  ·have hl : W.log2 < 53 := (Nat.log2_lt h0).2 (by simpa using hW2)
   have hr := rung_rep W 1074 hW2 h0 (by omega)
   rw [← T1_pow] at hr
   exact hr
theorem whole_fin {b : Nat} (way : Toward) (h : FinB b) : FinB (wholeB way b) ∧ negB (wholeB way b) = negB b ∧ valR (magB (wholeB way b)) = wholeN way b * T1 := by
 have h1 := whole_rep way (negB b) (magB b) h.2
 rw [whole_write way h]
 refine ⟨word_fin h1.1, neg_word (by unfold wholeN; omega), ?_⟩
 rw [mag_word (by unfold wholeN; omega)]
 exact h1.2
def IsWhole (b : Nat) : Prop := valR (magB b) % T1 = 0
instance (b : Nat) : Decidable (IsWhole b) := by unfold IsWhole; infer_instance
theorem whole_of (way : Toward) {b : Nat} (h : IsWhole b) : wholeN way b * T1 = valR (magB b) := by
 unfold IsWhole at h
 have e : valR (magB b) = valR (magB b) / T1 * T1 := by have := Nat.div_add_mod (valR (magB b)) T1; rw [Nat.mul_comm] at this; omega
 unfold wholeN
 generalize valR (magB b) = N at *
 have e2 : cutW way (negB b) (N / T1 * T1) 1074 = N / T1 := by
  have := cutW_exact way (negB b) (N / T1) 1074
  rw [← T1_pow] at this
  exact this
 rw [← e] at e2
 rw [e2]; exact e.symm
theorem valR_mono {r q : Nat} (h : r ≤ q) : valR r ≤ valR q := by
 unfold valR
 by_cases h1 : q < 4503599627370496
 ·rw [if_pos h1, if_pos (by omega)]; exact h
 ·rw [if_neg h1]
  by_cases h2 : r < 4503599627370496
  ·rw [if_pos h2]
   have hp : 1 ≤ 2 ^ (q / 4503599627370496 - 1) := Nat.pow_pos (by decide)
   have := Nat.mul_le_mul_left (4503599627370496 + q % 4503599627370496) hp
   omega
  ·rw [if_neg h2]
   by_cases h3 : r / 4503599627370496 = q / 4503599627370496
   ·rw [h3]; exact Nat.mul_le_mul_right _ (by omega)
   ·have h4 : r / 4503599627370496 < q / 4503599627370496 := by omega
    have e : (2 : Nat) ^ (q / 4503599627370496 - 1) = 2 ^ (r / 4503599627370496 - 1) * 2 ^ (q / 4503599627370496 - r / 4503599627370496) := by
     rw [← Nat.pow_add]; congr 1; omega
    have h5 : 2 ≤ 2 ^ (q / 4503599627370496 - r / 4503599627370496) := by
     have := Nat.pow_le_pow_right (n := 2) (by decide) (show 1 ≤ q / 4503599627370496 - r / 4503599627370496 by omega)
     simpa using this
    rw [e]
    have h6 : (4503599627370496 + r % 4503599627370496) * 2 ^ (r / 4503599627370496 - 1) ≤ (2 * 4503599627370496) * 2 ^ (r / 4503599627370496 - 1) := Nat.mul_le_mul_right _ (by omega)
    have h7 : 4503599627370496 * (2 ^ (r / 4503599627370496 - 1) * 2) ≤ (4503599627370496 + q % 4503599627370496) * (2 ^ (r / 4503599627370496 - 1) * 2 ^ (q / 4503599627370496 - r / 4503599627370496)) :=
     Nat.mul_le_mul (by omega) (Nat.mul_le_mul_left _ h5)
    have h8 : 2 * 4503599627370496 * 2 ^ (r / 4503599627370496 - 1) = 4503599627370496 * (2 ^ (r / 4503599627370496 - 1) * 2) := by
     generalize 2 ^ (r / 4503599627370496 - 1) = P; omega
    omega
theorem valR_pow (k : Nat) : valR ((k + 1) * 4503599627370496) = pw (52 + k) := by
 unfold valR
 rw [if_neg (by omega), show (k + 1) * 4503599627370496 % 4503599627370496 = 0 by omega, show (k + 1) * 4503599627370496 / 4503599627370496 - 1 = k by omega, Nat.add_zero, ← pw_eq k, ← pw_add', show (52 : Nat) + k = 52 + k from rfl]
theorem fin_num {b : Nat} (h : b < 9218868437227405312) : FinB b ∧ rv b = valR b ∧ FinB (9223372036854775808 + b) ∧ rv (9223372036854775808 + b) = -(valR b : Int) := by
 have w0 : double.word false b = b := by rw [word_eq]; rfl
 have w1 : double.word true b = 9223372036854775808 + b := by rw [word_eq]; rfl
 have f0 := word_fin (s := false) h
 have f1 := word_fin (s := true) h
 have r0 := word_rv (s := false) h
 have r1 := word_rv (s := true) h
 rw [w0] at f0 r0
 rw [w1] at f1 r1
 exact ⟨f0, r0, f1, r1⟩
/-! the difference -/
theorem sum_rv (s t : Bool) (m n : Nat) (i j : Int) (hi : -1074 ≤ i) (hj : -1074 ≤ j) :
  ∃ g, ((Datum.number s m i).sum (.number t n j)).map double.write = some (double.word g (rungOf (sgnI s (units m i) + sgnI t (units n j)).natAbs)) ∧
   (0 < sgnI s (units m i) + sgnI t (units n j) → g = false) ∧ (sgnI s (units m i) + sgnI t (units n j) < 0 → g = true) := by
 unfold Datum.sum
 simp only [Option.map_some]
 rw [write_num _ _ _ (by omega), signed_eq, signed_eq]
 have hk : (0 : Int) < ((2 ^ (min i j + 1074).toNat : Nat) : Int) := by
  have : 0 < 2 ^ (min i j + 1074).toNat := Nat.pow_pos (by decide)
  omega
 have e : (sgnI s (m * 2 ^ (i - min i j).toNat) + sgnI t (n * 2 ^ (j - min i j).toNat)) * ((2 ^ (min i j + 1074).toNat : Nat) : Int) = sgnI s (units m i) + sgnI t (units n j) := by
  rw [Int.add_mul, sgn_mul, sgn_mul, units_base _ _ _ (by omega) (by omega), units_base _ _ _ (by omega) (by omega)]
 have eu : units (sgnI s (m * 2 ^ (i - min i j).toNat) + sgnI t (n * 2 ^ (j - min i j).toNat)).natAbs (min i j) = (sgnI s (units m i) + sgnI t (units n j)).natAbs := by
  rw [← e, Int.natAbs_mul, Int.natAbs_natCast]
  rfl
 refine ⟨_, congrArg some (congrArg _ (congrArg rungOf eu)), ?_, ?_⟩
 ·intro h
  rw [← e] at h
  have h2 := Int.pos_of_mul_pos_left h hk
  rw [if_neg (by omega)]; exact decide_eq_false (by omega)
 ·intro h
  rw [← e] at h
  have h2 := Int.neg_of_mul_neg_left h hk
  rw [if_neg (by omega)]; exact decide_eq_true h2
theorem sub_rv {b c : Nat} (hb : FinB b) (hc : FinB c) : ∃ g, double.sub b c = some (double.word g (rungOf (rv b - rv c).natAbs)) ∧ (0 < rv b - rv c → g = false) ∧ (rv b - rv c < 0 → g = true) := by
 obtain ⟨m, i, e1, h1, h2, _⟩ := read_fin hb
 obtain ⟨n, j, e2, h3, h4, _⟩ := read_fin hc
 have := sum_rv (negB b) (!negB c) m n i j h1 h3
 have e : sgnI (negB b) (units m i) + sgnI (!negB c) (units n j) = rv b - rv c := by
  unfold rv; rw [h2, h4]; unfold sgnI; cases negB b <;> cases negB c <;> simp <;> omega
 rw [e] at this
 unfold Format.sub
 rw [e1, e2]
 exact this
theorem zero_fin : FinB 0 ∧ rv 0 = 0 := ⟨by unfold FinB; decide, by decide⟩
/-! ints -/
def intB (n : Int) : Nat := double.write (.number (decide (n < 0)) n.natAbs 0)
theorem int_rep {n : Nat} (h : n ≤ 9007199254740992) : rungOf (n * T1) < 9218868437227405312 ∧ valR (rungOf (n * T1)) = n * T1 := by
 by_cases h0 : n = 0
 ·subst h0; rw [Nat.zero_mul]; exact ⟨by decide, by decide⟩
 ·by_cases h1 : n = 9007199254740992
  ·subst h1
   rw [← top_pow, ← valR_pow 1075, rungOf_valR _ (by decide)]
   exact ⟨by decide, rfl⟩
  ·have h2 : n < 9007199254740992 := by omega
   have hl : n.log2 < 53 := (Nat.log2_lt h0).2 (by simpa using h2)
   have hr := rung_rep n 1074 h2 h0 (by omega)
   rw [← T1_pow] at hr
   exact hr
theorem int_rv {n : Int} (h : n.natAbs ≤ 9007199254740992) : FinB (intB n) ∧ rv (intB n) = n * (T1 : Int) ∧ negB (intB n) = decide (n < 0) ∧ valR (magB (intB n)) = n.natAbs * T1 := by
 have hr := int_rep h
 unfold intB
 rw [write_num _ _ _ (by omega), units_zero]
 refine ⟨word_fin hr.1, ?_, neg_word (by omega), by rw [mag_word (by omega)]; exact hr.2⟩
 rw [word_rv hr.1, hr.2, ← sgn_mul]
 congr 1
 unfold sgnI
 by_cases g : n < 0
 ·rw [decide_eq_true g, if_pos rfl]; omega
 ·rw [decide_eq_false g, if_neg (by decide)]; omega
def toI (b : Nat) : Int := sgnI (negB b) (wholeN .zero b)
theorem toInt_fin {b : Nat} (h : FinB b) : (double.read b).toInt .zero = some (toI b) := by
 obtain ⟨m, i, e1, h1, h2, _⟩ := read_fin h
 unfold Datum.toInt
 rw [e1, integral_units .zero _ _ _ h1, h2]
 simp only
 rw [signed_eq, Nat.pow_zero, Nat.mul_one]
 rfl
theorem toI_whole {b : Nat} (h : IsWhole b) : toI b * (T1 : Int) = rv b := by
 unfold toI rv
 rw [sgn_mul, whole_of .zero h]
theorem T1_posI : (0 : Int) < (T1 : Int) := by have := T1_pos; omega
/-! one divided by a number -/
theorem rung_pos {N : Nat} (h : N ≠ 0) : rungOf N ≠ 0 ∧ rungOf N ≤ 9218868437227405312 := by
 refine ⟨?_, by unfold rungOf; split <;> omega⟩
 unfold rungOf
 rw [if_neg h]
 by_cases hc : N.log2 ≤ 52
 ·rw [show N.log2 - 52 = 0 by omega, cutW_zero]; omega
 ·have : 1 * 4503599627370496 ≤ (N.log2 - 52) * 4503599627370496 := Nat.mul_le_mul_right _ (by omega)
  omega
theorem read_inf {b : Nat} (h : b < 18446744073709551616) (hm : magB b = 9218868437227405312) : double.read b = .infinity (negB b) := by
 have hw := word_self h
 rw [hm] at hw
 rw [← hw]
 cases negB b <;> decide +kernel
theorem nan_order {b : Nat} (h : isNaNB b = true) (c : Nat) : double.order b c = none := by
 have hn := read_nan (b := b)
 rw [h] at hn
 unfold Format.order
 generalize double.read b = d at *
 cases d with
 | nan s t => cases double.read c <;> rfl
 | number s m e => cases hn
 | infinity s => cases hn
theorem kinds {b : Nat} (h : b < 18446744073709551616) : isNaNB b = true ∨ (isNaNB b = false ∧ magB b = 9218868437227405312) ∨ (isNaNB b = false ∧ FinB b) := by
 unfold isNaNB FinB
 rcases Nat.lt_trichotomy (magB b) 9218868437227405312 with h1 | h1 | h1
 ·exact Or.inr (Or.inr ⟨decide_eq_false (by omega), h, h1⟩)
 ·exact Or.inr (Or.inl ⟨decide_eq_false (by omega), h1⟩)
 ·exact Or.inl (decide_eq_true h1)
theorem fin_not_nan {b : Nat} (h : FinB b) : isNaNB b = false := decide_eq_false (by have := h.2; omega)
theorem signW : double.signWeight = 9223372036854775808 := by decide
def WhB (b : Nat) (n : Int) : Prop := FinB b ∧ rv b = n * (T1 : Int)
theorem wh_int {n : Int} (h : n.natAbs ≤ 9007199254740992) : WhB (intB n) n := ⟨(int_rv h).1, (int_rv h).2.1⟩
theorem WhB.toI {b : Nat} {n : Int} (h : WhB b n) : toI b = n := by
 have hw : IsWhole b := by
  have h2 := h.2
  unfold rv at h2
  unfold IsWhole
  have hd : (T1 : Int) ∣ (valR (magB b) : Int) := by
   unfold sgnI at h2
   split at h2
   ·exact ⟨-n, by rw [Int.mul_comm, Int.neg_mul, ← h2]; omega⟩
   ·exact ⟨n, by rw [Int.mul_comm, ← h2]⟩
  exact Nat.mod_eq_zero_of_dvd (Int.natCast_dvd_natCast.1 hd)
 have h3 := toI_whole hw
 rw [h.2] at h3
 have hT := T1_posI
 exact Int.eq_of_mul_eq_mul_right (by omega) h3
theorem WhB.toInt {b : Nat} {n : Int} (h : WhB b n) : (double.read b).toInt .zero = some n := by rw [toInt_fin h.1, h.toI]
def rngD (n d : Nat) : Nat := if n = 0 then 0 else min ((n.log2 - (52 + d)) * 4503599627370496 + cutW .even false n (n.log2 - (52 + d) + d)) 9218868437227405312
theorem rngD_zero (n : Nat) : rngD n 0 = rungOf n := by
 unfold rngD rungOf
 simp only [Nat.add_zero]
theorem mul_pow_ne {m : Nat} (k : Nat) (h : m ≠ 0) : m * 2 ^ k ≠ 0 := by
 have hp : 0 < 2 ^ k := Nat.pow_pos (by decide)
 intro e
 rcases Nat.mul_eq_zero.1 e with e | e <;> omega
theorem rngD_shift (m d k : Nat) : rngD (m * 2 ^ k) (d + k) = rngD m d := by
 unfold rngD
 by_cases h : m = 0
 ·rw [if_pos h, h, Nat.zero_mul, if_pos rfl]
 ·rw [if_neg h, if_neg (mul_pow_ne k h), log2_mul m k h, show m.log2 + k - (52 + (d + k)) = m.log2 - (52 + d) by omega,
   show m.log2 - (52 + d) + (d + k) = m.log2 - (52 + d) + d + k by omega, cutW_shift]
theorem nearest_low (s : Bool) (m d : Nat) : double.nearest s m (-1074 - (d : Int)) = double.word s (rngD m d) := by
 unfold Format.nearest rngD
 by_cases h : m = 0
 ·rw [if_pos h, if_pos h]
 ·rw [if_neg h, if_neg h]
  have e1 : double.fractionBits = 52 := rfl
  have e2 : double.leastPlace = -1074 := by decide
  have e3 : double.binade = 4503599627370496 := by decide
  have e4 : double.infRung = 9218868437227405312 := by decide
  simp only [e1, e2, e3, e4]
  have e5 : (-1074 - (d : Int) - max (-1074 - (d : Int) + (m.log2 : Int) - ((52 : Nat) : Int)) (-1074)).toNat = 0 := by omega
  have e6 : (max (-1074 - (d : Int) + (m.log2 : Int) - ((52 : Nat) : Int)) (-1074) - (-1074 - (d : Int))).toNat = m.log2 - (52 + d) + d := by omega
  have e7 : (max (-1074 - (d : Int) + (m.log2 : Int) - ((52 : Nat) : Int)) (-1074) - -1074).toNat = m.log2 - (52 + d) := by omega
  rw [e5, e6, e7, Nat.shiftLeft_zero, cut_eq, cutW_even]
theorem nearest_rngD (s : Bool) (m : Nat) (i : Int) (d : Nat) (h : -1074 - (d : Int) ≤ i) : double.nearest s m i = double.word s (rngD (m * 2 ^ (i + 1074 + d).toNat) d) := by
 by_cases h0 : -1074 ≤ i
 ·rw [nearest_units s m i h0]
  have := rngD_shift (units m i) 0 d
  rw [rngD_zero, Nat.zero_add] at this
  rw [← this]
  unfold units
  rw [Nat.mul_assoc, ← Nat.pow_add, show (i + 1074).toNat + d = (i + 1074 + d).toNat by omega]
 ·obtain ⟨e, rfl⟩ : ∃ e : Nat, i = -1074 - (e : Int) := ⟨(-1074 - i).toNat, by omega⟩
  rw [nearest_low]
  obtain ⟨k, rfl⟩ : ∃ k, d = e + k := ⟨d - e, by omega⟩
  rw [show (-1074 - (e : Int) + 1074 + ((e + k : Nat) : Int)).toNat = k by omega, rngD_shift]
theorem cutW_mono {n m : Nat} (d : Nat) (h : n ≤ m) : cutW .even false n d ≤ cutW .even false m d := by
 have hp : 0 < 2 ^ d := Nat.pow_pos (by decide)
 unfold cutW
 simp only []
 generalize hP : 2 ^ d = p at *
 have hq : n / p ≤ m / p := Nat.div_le_div_right h
 have h1 := Nat.div_add_mod n p
 have h2 := Nat.div_add_mod m p
 have l1 := Nat.mod_lt n hp
 have l2 := Nat.mod_lt m hp
 by_cases e : n / p = m / p
 ·rw [e] at h1 ⊢
  have hr : n % p ≤ m % p := by omega
  generalize n % p = r at *
  generalize m % p = t at *
  generalize m / p = q at *
  apply Nat.add_le_add_left
  by_cases c1 : p < 2 * t
  ·have : (decide (p < 2 * t) || (p == 2 * t && q % 2 == 1)) = true := by rw [decide_eq_true c1]; rfl
   rw [this]
   exact Bool.toNat_le _
  ·have c2 : ¬ p < 2 * r := by omega
   rw [decide_eq_false c1, decide_eq_false c2]
   by_cases c3 : p = 2 * r
   ·have : r = t := by omega
    subst this; exact Nat.le_refl _
   ·have : (p == 2 * r) = false := by rw [beq_eq_false_iff_ne]; exact c3
    rw [this]
    exact Nat.zero_le _
 ·have : n / p + 1 ≤ m / p := by omega
  have b1 := Bool.toNat_le (decide (p < 2 * (n % p)) || (p == 2 * (n % p) && n / p % 2 == 1))
  omega
theorem cutW_top {n d : Nat} (h : n.log2 ≤ 52 + d) : cutW .even false n d ≤ 9007199254740992 := by
 have h1 := cutW_le .even false n d
 have h2 : n < 2 ^ (n.log2 + 1) := Nat.lt_log2_self
 have h3 : 2 ^ (n.log2 + 1) ≤ 2 ^ (53 + d) := Nat.pow_le_pow_right (by decide) (by omega)
 have h4 : n / 2 ^ d < 9007199254740992 := by
  rw [Nat.div_lt_iff_lt_mul (Nat.pow_pos (by decide))]
  have : (9007199254740992 : Nat) = 2 ^ 53 := by decide
  rw [this, ← Nat.pow_add]
  omega
 omega
theorem cutW_low {n d : Nat} (h0 : n ≠ 0) (h : 52 + d ≤ n.log2) : 4503599627370496 ≤ cutW .even false n d := by
 have h1 : 2 ^ n.log2 ≤ n := Nat.log2_self_le h0
 have h2 : 2 ^ (52 + d) ≤ 2 ^ n.log2 := Nat.pow_le_pow_right (by decide) h
 have h3 : 4503599627370496 ≤ n / 2 ^ d := by
  rw [Nat.le_div_iff_mul_le (Nat.pow_pos (by decide))]
  have : (4503599627370496 : Nat) = 2 ^ 52 := by decide
  rw [this, ← Nat.pow_add]
  omega
 unfold cutW
 omega
theorem rngD_mono {n m : Nat} (d : Nat) (h : n ≤ m) : rngD n d ≤ rngD m d := by
 unfold rngD
 by_cases hn : n = 0
 ·rw [if_pos hn]; exact Nat.zero_le _
 ·have hm : m ≠ 0 := by omega
  rw [if_neg hn, if_neg hm]
  have hl : n.log2 ≤ m.log2 := by
   have := Nat.log2_self_le hn
   rw [Nat.le_log2 hm]
   omega
  have key : (n.log2 - (52 + d)) * 4503599627370496 + cutW .even false n (n.log2 - (52 + d) + d) ≤ (m.log2 - (52 + d)) * 4503599627370496 + cutW .even false m (m.log2 - (52 + d) + d) := by
   by_cases e : n.log2 - (52 + d) = m.log2 - (52 + d)
   ·rw [e]
    exact Nat.add_le_add_left (cutW_mono _ h) _
   ·have t1 := cutW_top (n := n) (d := n.log2 - (52 + d) + d) (by omega)
    have t2 := cutW_low (n := m) (d := m.log2 - (52 + d) + d) hm (by omega)
    have t3 : (n.log2 - (52 + d) + 1) * 4503599627370496 ≤ (m.log2 - (52 + d)) * 4503599627370496 := Nat.mul_le_mul_right _ (by omega)
    omega
  omega
theorem rungOf_mono {n m : Nat} (h : n ≤ m) : rungOf n ≤ rungOf m := by
 have := rngD_mono 0 h
 rw [rngD_zero, rngD_zero] at this
 exact this
theorem rngD_exact (n d : Nat) : rngD (n * 2 ^ d) d = rungOf n := by
 have := rngD_shift n 0 d
 rw [Nat.zero_add, rngD_zero] at this
 exact this
theorem rngD_le {n d K : Nat} (h : n ≤ K * 2 ^ d) : rngD n d ≤ rungOf K := by
 rw [← rngD_exact K d]; exact rngD_mono d h
theorem rv_neg {b : Nat} (h : negB b = true) : rv b = -(valR (magB b) : Int) := by unfold rv sgnI; rw [h, if_pos rfl]
theorem rv_pos {b : Nat} (h : negB b = false) : rv b = (valR (magB b) : Int) := by unfold rv sgnI; rw [h, if_neg (by decide)]
theorem valR_0 : valR 0 = 0 := by decide
theorem rung_mag {b : Nat} (h : FinB b) : rungOf (valR (magB b)) = magB b := rungOf_valR _ h.2
theorem fl_between {g : Bool} {X : Int} (hp : 0 < X → g = false) (hn : X < 0 → g = true) {lo hi : Nat} (hl : FinB lo) (hh : FinB hi) (h1 : rv lo ≤ X) (h2 : X ≤ rv hi) :
  FinB (double.word g (rungOf X.natAbs)) ∧ rv lo ≤ rv (double.word g (rungOf X.natAbs)) ∧ rv (double.word g (rungOf X.natAbs)) ≤ rv hi := by
 have kh : 0 < X → rungOf X.natAbs ≤ magB hi := fun h0 => by
  rw [← rung_mag hh]
  refine rungOf_mono ?_
  cases e : negB hi
  ·rw [rv_pos e] at h2; omega
  ·rw [rv_neg e] at h2; omega
 have kl : X < 0 → rungOf X.natAbs ≤ magB lo := fun h0 => by
  rw [← rung_mag hl]
  refine rungOf_mono ?_
  cases e : negB lo
  ·rw [rv_pos e] at h1; omega
  ·rw [rv_neg e] at h1; omega
 have jl : 0 < rv lo → magB lo ≤ rungOf X.natAbs := fun h0 => by
  rw [← rung_mag hl]
  refine rungOf_mono ?_
  cases e : negB lo
  ·rw [rv_pos e] at h1 h0; omega
  ·rw [rv_neg e] at h0; omega
 have jh : rv hi < 0 → magB hi ≤ rungOf X.natAbs := fun h0 => by
  rw [← rung_mag hh]
  refine rungOf_mono ?_
  cases e : negB hi
  ·rw [rv_pos e] at h0; omega
  ·rw [rv_neg e] at h2 h0; omega
 have th := hh.2
 have tl := hl.2
 have hf : rungOf X.natAbs < 9218868437227405312 := by
  rcases Int.lt_trichotomy X 0 with h | h | h
  ·have := kl h; omega
  ·rw [h]; decide
  ·have := kh h; omega
 rw [word_rv hf]
 refine ⟨word_fin hf, ?_⟩
 rcases Int.lt_trichotomy X 0 with h | h | h
 ·rw [hn h]
  unfold sgnI
  rw [if_pos rfl]
  have a := valR_mono (kl h)
  constructor
  ·cases e : negB lo
   ·rw [rv_pos e] at h1; omega
   ·rw [rv_neg e]; omega
  ·by_cases c : rv hi < 0
   ·have b := valR_mono (jh c)
    cases e : negB hi
    ·rw [rv_pos e] at c; omega
    ·rw [rv_neg e]; omega
   ·omega
 ·have : sgnI g (valR (rungOf X.natAbs)) = 0 := by
   rw [h, show rungOf (0 : Int).natAbs = 0 by decide, valR_0]
   cases g <;> rfl
  rw [this]
  omega
 ·rw [hp h]
  unfold sgnI
  rw [if_neg (by decide)]
  have a := valR_mono (kh h)
  constructor
  ·by_cases c : 0 < rv lo
   ·have b := valR_mono (jl c)
    cases e : negB lo
    ·rw [rv_pos e]; omega
    ·rw [rv_neg e] at c; omega
   ·omega
  ·cases e : negB hi
   ·rw [rv_pos e]; omega
   ·rw [rv_neg e] at h2; omega
theorem sub_between {b c lo hi : Nat} (hb : FinB b) (hc : FinB c) (hl : FinB lo) (hh : FinB hi) (h1 : rv lo ≤ rv b - rv c) (h2 : rv b - rv c ≤ rv hi) :
  ∃ z, double.sub b c = some z ∧ FinB z ∧ rv lo ≤ rv z ∧ rv z ≤ rv hi := by
 obtain ⟨g, e, hp, hn⟩ := sub_rv hb hc
 exact ⟨_, e, fl_between hp hn hl hh h1 h2⟩
/-! whole numbers -/
/-! products -/
theorem mul_rv {b c : Nat} (hb : FinB b) (hc : FinB c) : double.mul b c = some (double.word (negB b ^^ negB c) (rngD (valR (magB b) * valR (magB c)) 1074)) := by
 obtain ⟨m, i, e1, h1, h2, _⟩ := read_fin hb
 obtain ⟨n, j, e2, h3, h4, _⟩ := read_fin hc
 unfold Format.mul
 rw [e1, e2]
 show some (double.nearest (negB b ^^ negB c) (m * n) (i + j)) = _
 rw [nearest_rngD _ _ _ 1074 (by omega), ← h2, ← h4]
 unfold units
 rw [show (i + j + 1074 + ((1074 : Nat) : Int)).toNat = (i + 1074).toNat + (j + 1074).toNat by omega, Nat.pow_add, Nat.mul_mul_mul_comm]
theorem rngD_le0 {n K d T : Nat} (e : T = 2 ^ d) (h : n ≤ K * T) : rngD n d ≤ rungOf K := by
 subst e
 exact rngD_le h
theorem rngD_le1 {n K : Nat} (h : n ≤ K * T1) : rngD n 1074 ≤ rungOf K := rngD_le0 T1_pow h
theorem mul_part {b c : Nat} (hb : FinB b) (hc : FinB c) (h0 : 0 ≤ rv b) (h1 : rv b ≤ (T1 : Int)) (h2 : 0 ≤ rv c) : ∃ z, double.mul b c = some z ∧ FinB z ∧ 0 ≤ rv z ∧ rv z ≤ rv c := by
 have vb : (valR (magB b) : Int) = rv b := by
  cases e : negB b
  ·rw [rv_pos e]
  ·rw [rv_neg e] at h0 ⊢; omega
 have vc : (valR (magB c) : Int) = rv c := by
  cases e : negB c
  ·rw [rv_pos e]
  ·rw [rv_neg e] at h2 ⊢; omega
 have hr : rngD (valR (magB b) * valR (magB c)) 1074 ≤ magB c := by
  have hx : valR (magB b) * valR (magB c) ≤ valR (magB c) * T1 := by
   rw [Nat.mul_comm]
   exact Nat.mul_le_mul_left _ (by omega)
  have := rngD_le1 hx
  rw [rung_mag hc] at this
  exact this
 have hf : rngD (valR (magB b) * valR (magB c)) 1074 < 9218868437227405312 := by have := hc.2; omega
 have hv := valR_mono hr
 refine ⟨_, mul_rv hb hc, word_fin hf, ?_⟩
 rw [word_rv hf]
 cases eg : (negB b ^^ negB c)
 ·unfold sgnI
  rw [if_neg (by decide)]
  omega
 ·have hz : valR (magB b) * valR (magB c) = 0 := by
   cases eb : negB b
   ·have ec : negB c = true := by rw [eb] at eg; cases h : negB c <;> simp [h] at eg ⊢
    rw [rv_neg ec] at vc
    have : valR (magB c) = 0 := by omega
    rw [this, Nat.mul_zero]
   ·rw [rv_neg eb] at vb
    have : valR (magB b) = 0 := by omega
    rw [this, Nat.zero_mul]
  rw [hz] at hv ⊢
  rw [show rngD 0 1074 = 0 by unfold rngD; rw [if_pos rfl], valR_0]
  unfold sgnI
  rw [if_pos rfl]
  omega
end Go.Proofs.YtelakcjbknbehaaGreat
