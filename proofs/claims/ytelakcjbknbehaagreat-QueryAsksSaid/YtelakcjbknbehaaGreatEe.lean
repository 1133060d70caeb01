/- Lemmas and walks. -/
import Derived.Lib.AppendZeros
import Derived.Deep.RegionHeld3
import Derived.Deep.QuietTactic
import Derived.BigQuiet
import Derived.StillTailTactics
import Derived.Deep.AppendLies
import Derived.WideShapes
import Derived.Laws.IdiomRangeMap
import Derived.Test.YtelakcjbknbehaaGreatProg
import Derived.Test.YtelakcjbknbehaaGreatEa
import Derived.Test.YtelakcjbknbehaaGreatEb
import Derived.Test.YtelakcjbknbehaaGreatEd
namespace Go.Proofs.YtelakcjbknbehaaGreat
open Go.RowKit Go.Lib

def SpQ (w : World) (pa : Option Addr) (l : List (Int × Int)) : Prop := (l = [] ∧ pa = none) ∨ ∃ b o, pa = some ⟨b, o, none⟩ ∧ Sp w b o l
theorem SpQ.keep {w w' : World} {pa : Option Addr} {l : List (Int × Int)} (h : SpQ w pa l) (hc : Chg [] w w') : SpQ w' pa l := by
 rcases h with h | ⟨b, o, h1, h2⟩
 ·exact Or.inl h
 ·exact Or.inr ⟨b, o, h1, h2.keep hc⟩
set_option maxRecDepth 100000 in
set_option maxHeartbeats 1000000 in
theorem grow_nil (w : World) {k : Nat} (h0 : 0 < k) (h1 : k ≤ 1000) : Calls Tryz.prog 284 #[.slice none 0 0, .int .i64 k] w fun e w' => ∃ v, e = .returned v ∧ Chg [] w w' ∧ w'.ownsRow w.heap.size 79 2 v 0 (spCells []) := by
 obtain ⟨i, hi0, hz, hz1, hz2⟩ := info_parts inf117
 have hr := fun ty => run_append_nil_zeros (P := Tryz.prog) w 175 3 ty 79 i (.agg #[.int .i64 0, .int .i64 0]) .i64 .i64 ty217 (by kernel_rfl) hi0 hz k h0 (by omega) (by omega) (by rw [hz2]; omega)
 have hge := grownCap_ge w k 0 79
 have hle := grownCap_le_maxLen w k 0 79 (by unfold maxLen; omega)
 have hsz : (Builtin.zeroCells (Value.agg #[.int .i64 0, .int .i64 0]).cells k ++ Builtin.zeroCells (Value.agg #[.int .i64 0, .int .i64 0]).cells (grownCap w k 0 79 - k)).size = grownCap w k 0 79 * 2 := by
  simp only [Array.size_append, size_zeroCells, Value.cells]
  simp
  omega
 generalize (Builtin.zeroCells (Value.agg #[.int .i64 0, .int .i64 0]).cells k ++ Builtin.zeroCells (Value.agg #[.int .i64 0, .int .i64 0]).cells (grownCap w k 0 79 - k)) = Z at *
 generalize grownCap w k 0 79 = G at *
 clear hi0 hz hz1 hz2
 have hk : ¬ ((k : Int) < 0) := by omega
 have hk2 : (k : Int) > 0 := by omega
 have hG63 : G ≤ 9223372036854775807 := by unfold maxLen at hle; omega
 have hf : (w.drew.alloc (.cells Z 79)).ownsRow w.heap.size 79 2 (.slice (some ⟨w.heap.size, 0, none⟩) 0 G) 0 (spCells []) := by
  refine ⟨rfl, Or.inr ⟨w.heap.size, G, Z, rfl, Nat.le_refl _, heap_new w.drew _, Nat.zero_le _, hle, hsz, by simp [spCells]⟩⟩
 have kc : Chg [] w (w.drew.alloc (.cells Z 79)) := (Chg.refl [] w).drew.then_alloc _
 go_enter Tryz.func284, Tryz.ntmps284
 go_wp2_with (at_builtin; refine Lib.wpList_append_run (w := w) rfl (.tmp 20) (.tmp 21) 175 3 rfl (.slice none 0 0) (.int .i64 k) rfl rfl _ _ (hr _) ?_)
 go_ret
 exact ⟨_, rfl, kc, hf⟩
theorem append_sp_q (w : World) (ty base : Nat) (v : Value) (n : Nat) (xs l : List (Int × Int)) (hown : w.ownsRow base 79 2 v n (spCells xs)) (pa : Option Addr) (m c : Nat) (hl : l.length = m) (hs : SpQ w pa l) (hn : n + m ≤ 1000000) (hbase : base ≤ w.heap.size) :
  ∃ v' w', (Builtin.append_ #[175, 175] ty #[v, .slice pa m c]).run Tryz.prog w = .ok v' w' ∧ AppendedV base 79 2 w v (n + m) (spCells (xs ++ l)) v' w' := by
 rcases hs with ⟨rfl, rfl⟩ | ⟨b, o, rfl, hs⟩
 ·obtain rfl : 0 = m := hl
  obtain ⟨i, hi0, hz, hz1, hz2⟩ := info_parts inf117
  refine ⟨v, w, ?_, by simpa using hown, Below.refl _ _, World.grownBy.refl w _⟩
  rcases hown.2 with ⟨rfl, rfl⟩ | ⟨g, cap, cur, rfl, _, _, hnc, _⟩
  ·simp [Builtin.append_, run_underlying ty217, sizeOf, typeInfo, hi0, Builtin.lenOf, Builtin.firstCells]
  ·simp [Builtin.append_, run_underlying ty217, sizeOf, typeInfo, hi0, Builtin.lenOf, Builtin.firstCells, hnc, storeCells]
 ·exact append_sp_own w ty base v n xs l hown b o m c hl hs hn hbase
theorem wpList_append_spq {ops : Array Oper} {rest : List Oper} {o : Oper} {a : Act} {w : World} {Q : Exit → Act → World → Prop} (hg : o.guard = none) (s x : Operand)
  (ho : o.op = .call { callee := .builtin .append, args := #[s, x], argTypes := #[175, 175] }) (base : Nat) (v : Value) (n : Nat) (xs l : List (Int × Int)) (hs : a.eval s = v) (hown : w.ownsRow base 79 2 v n (spCells xs))
  (pa : Option Addr) (m c : Nat) (hx : a.eval x = .slice pa m c) (hl : l.length = m) (hr : SpQ w pa l) (hn : n + m ≤ 1000000) (hbase : base ≤ w.heap.size)
  (h : ∀ v' w', AppendedV base 79 2 w v (n + m) (spCells (xs ++ l)) v' w' → wpList Tryz.prog ops Q rest (a.put o.dst v') w') : wpList Tryz.prog ops Q (o :: rest) a w := by
 obtain ⟨v', w', h1, h2⟩ := append_sp_q w o.type base v n xs l hown pa m c hl hr hn hbase
 exact Lib.wpList_append_run w hg s x 175 175 ho v (.slice pa m c) hs hx v' w' h1 (h v' w' h2)
set_option maxRecDepth 100000 in
set_option maxHeartbeats 2000000 in
theorem concat_two (w : World) {E cp m c m2 c2 : Nat} {pa pb : Option Addr} {l l2 : List (Int × Int)} (e0 : w.cell? ⟨E, 0, none⟩ = some (.slice pa m c)) (e1 : w.cell? ⟨E, 1, none⟩ = some (.slice pb m2 c2)) (hl : l.length = m) (hl2 : l2.length = m2) (hm : m ≤ 100) (hm2 : m2 ≤ 100) (hm0 : 0 < m + m2)
  (hs : SpQ w pa l) (hs2 : SpQ w pb l2) : Calls Tryz.prog 247 #[.slice (some ⟨E, 0, none⟩) 2 cp] w fun e w' => ∃ v, e = .returned v ∧ Chg [] w w' ∧ w'.ownsRow w.heap.size 79 2 v (m + m2) (spCells (l ++ l2)) := by
 have HS := Lib.hid hs
 have HS2 := Lib.hid hs2
 have HL := Lib.hid hl
 have HL2 := Lib.hid hl2
 clear hs hs2 hl hl2
 go_enter Tryz.func247, Tryz.ntmps247
 go_wp2_with fail
 go_loop [3, 11] (fun s i => (i = .int .i64 0 ∧ s = .int .i64 0) ∨ (i = .int .i64 1 ∧ s = .int .i64 m) ∨ (i = .int .i64 2 ∧ s = .int .i64 ((m + m2 : Nat) : Int))) (fun _ i => 2 - (intOf i).toNat)
 case atStart => exact Or.inl ⟨rfl, rfl⟩
 case round =>
  rcases hrel with ⟨rfl, rfl⟩ | ⟨rfl, rfl⟩ | ⟨rfl, rfl⟩
  ·go_wp2_with fail
   go_round
   case rel => exact Or.inr (Or.inl ⟨rfl, by go_num⟩)
   case measure => decide
  ·go_wp2_with fail
   go_round
   case rel => exact Or.inr (Or.inr ⟨rfl, by go_num⟩)
   case measure => decide
  ·go_wp2_with fail
   refine (grow_nil w hm0 (by omega)).mono ?_
   rintro e w1 ⟨v0, rfl, kc, ho0⟩
   have E0 := Lib.hid e0
   have E1 := Lib.hid e1
   have f0 := kc.cell e0 (by simp)
   have HA := Lib.hid (HS.out.keep kc)
   have hsz := kc.size
   clear e0 e1
   go_wp2_with fail
   go_loopw [6, 27] (fun v i wr => (i = .int .i64 0 ∧ v = v0 ∧ wr = w1) ∨ (i = .int .i64 1 ∧ Chg [] w wr ∧ wr.ownsRow w.heap.size 79 2 v m (spCells l)) ∨ (i = .int .i64 2 ∧ Chg [] w wr ∧ wr.ownsRow w.heap.size 79 2 v (m + m2) (spCells (l ++ l2)))) (fun _ i _ => 2 - (intOf i).toNat)
   case atStart => exact Or.inl ⟨rfl, rfl, rfl⟩
   case round =>
    rcases hrel with ⟨rfl, rfl, rfl⟩ | ⟨rfl, k1, o1⟩ | ⟨rfl, k1, o1⟩
    ·go_wp2_with (at_builtin; refine wpList_append_spq rfl (.tmp 31) (.tmp 32) rfl w.heap.size _ 0 [] l rfl ho0 pa m c rfl HL.out HA.out (by omega) hsz ?_; intro v1 w2 h1)
     go_roundw
     case rel => exact Or.inr (Or.inl ⟨rfl, Chg.of_below (kc.below0.trans h1.2.1), by simpa using h1.1⟩)
     case measure => decide
    ·have f1 := k1.cell E1.out (by simp)
     have HB := Lib.hid (HS2.out.keep k1)
     have hsz1 := k1.size
     clear f0
     go_wp2_with (at_builtin; refine wpList_append_spq rfl (.tmp 31) (.tmp 32) rfl w.heap.size _ m l l2 rfl o1 pb m2 c2 rfl HL2.out HB.out (by omega) hsz1 ?_; intro v1 w2 h1)
     go_roundw
     case rel => exact Or.inr (Or.inr ⟨rfl, Chg.of_below (k1.below0.trans h1.2.1), h1.1⟩)
     case measure => decide
    ·go_wp2_with fail
     go_ret
     exact ⟨_, rfl, k1, o1⟩
end Go.Proofs.YtelakcjbknbehaaGreat
namespace Go.Proofs.YtelakcjbknbehaaGreat
open Go.Shelf Go.RowKit Go.Lib Go.Sort

def encSp (x : Int × Int) : List Value := [.int .i64 x.1, .int .i64 x.2]
set_option maxRecDepth 100000 in
set_option maxHeartbeats 1000000 in
theorem closure247 (x y : Int × Int) (W : World) : Calls Tryz.prog 282 #[.agg #[.int .i64 x.1, .int .i64 x.2], .agg #[.int .i64 y.1, .int .i64 y.2]] W fun e w' => e = .returned (.int .i64 (Lib.compareInt x.1 y.1)) ∧ ∃ q os', w' = grow (W.drewN q) os' := by
 have hcon := fun W' => AnyG.cmp_Compare_int Tryz.cmpInt x.1 y.1 W'
 change ∀ W', Calls Tryz.prog 283 _ _ _ at hcon
 generalize Lib.compareInt x.1 y.1 = r at hcon ⊢
 go_enter Tryz.func282, Tryz.ntmps282
 go_wp2_with (go_at_call 283; refine (hcon _).mono ?_; rintro e w' ⟨rfl, rfl⟩)
 go_ret
 exact ⟨rfl, 0, _, by rw [alloc_eq_grow, alloc_eq_grow, grow_grow]; rfl⟩
theorem cmpLays247 (blk off size : Nat) (w : World) : CmpLays Tryz.prog 282 #[] encSp 2 (fun x y => Lib.compareInt x.1 y.1) blk off size w :=
 fun _ _ _ _ x y => closure247 x y _
theorem isAgg117 (w : World) : (isAgg 79).run Tryz.prog w = .ok true w := by kernel_rfl
theorem sizeOf117 (w : World) : (Go.sizeOf 79).run Tryz.prog w = .ok 2 w := by kernel_rfl
theorem spCells_get (l : List (Int × Int)) (j : Nat) (h : j < l.length * 2) : (spCells l)[j]? = some ((encSp l.toArray[j / 2]!)[j % 2]!) := by
 induction l generalizing j with
 | nil => simp at h
 | cons p l ih =>
  have e : spCells (p :: l) = .int .i64 p.1 :: .int .i64 p.2 :: spCells l := rfl
  rw [e]
  match j with
  | 0 => simp [encSp]
  | 1 => simp [encSp]
  | j + 2 =>
   have := ih j (by simp only [List.length_cons] at h; omega)
   rw [List.getElem?_cons_succ, List.getElem?_cons_succ, this]
   have e1 : (j + 2) / 2 = j / 2 + 1 := by omega
   have e2 : (j + 2) % 2 = j % 2 := by omega
   rw [e1, e2]
   simp
theorem chg_mapBlock (w : World) (g : Nat) (f : Array Value → Array Value) : Chg [g] w (mapBlock w g f) :=
 ⟨rfl, rfl, rfl, by simp [mapBlock], fun k _ hs => by
  have : g ≠ k := by intro e; exact hs (by rw [e]; simp)
  simp [mapBlock, Array.getElem?_modify, this]⟩
theorem chg_grow {S : List Nat} (w : World) (os : Array Obj) : Chg S w (grow w os) :=
 ⟨rfl, rfl, rfl, by simp, fun k hk _ => heap_grow_old w os hk⟩
theorem chg_ahead {S : List Nat} (w : World) (n : Nat) : Chg S w (Sort.ahead w n) := ⟨rfl, rfl, rfl, Nat.le_refl _, fun _ _ _ => rfl⟩
theorem ltSp (x y : Int × Int) : (ltOf fun x y : Int × Int => Lib.compareInt x.1 y.1) x y = decide (x.1 < y.1) := by
 unfold ltOf Lib.compareInt
 by_cases h1 : x.1 < y.1
 ·simp [h1]
 ·by_cases h2 : y.1 < x.1 <;> simp [h1, h2]
theorem swoSp : SWO (ltOf fun x y : Int × Int => Lib.compareInt x.1 y.1) where
 irrefl x := by rw [ltSp]; simp
 trans x y z h1 h2 := by rw [ltSp] at *; simp at *; omega
 ntrans x y z h1 h2 := by rw [ltSp] at *; simp at *; omega
set_option maxRecDepth 100000 in
theorem sort_sp (w : World) {g n cap : Nat} {cur : Array Value} {l : List (Int × Int)} (hb : w.heap[g]? = some (.cells cur 79 (0, 0))) (hs : Sp w g 0 l) (hl : l.length = n) (hn : n ≤ 1000) :
  Calls Tryz.prog 281 #[.slice (some ⟨g, 0, none⟩) n cap, .func (.func 282) #[] #[]] w fun e w' => e = .returned (.tuple #[]) ∧ Chg [g] w w' ∧ ∃ l', l'.length = n ∧ Sp w' g 0 l' := by
 have eg : ∀ args w, (callFunc 282 args).run Tryz.prog w = .ok (.enter 282 args) w := enters_of Tryz.func282 (by kernel_rfl) rfl
 have hH : HoldsK encSp 2 w g 0 l.toArray := by
  intro j hj
  rw [size_flatK] at hj
  rw [get_flatK encSp 2 l.toArray j hj]
  exact ⟨hs j _ (spCells_get l j (by simpa using hj)), unfrozen hb _⟩
 have hcon := AnyQ.slices_SortFunc Tryz.sortSp 2 isAgg117 sizeOf117 encSp (fun _ => rfl) (fun x v hv => by simp [encSp] at hv; rcases hv with rfl | rfl <;> rfl) (fun x y => Lib.compareInt x.1 y.1) swoSp 282 #[] g 0 cap l.toArray w eg (cmpLays247 g 0 l.toArray.size w) hH (heap_lt hb) (by simp [hl]; omega)
 change Calls Tryz.prog 281 _ _ _ at hcon
 have hz : l.toArray.size = n := by simpa using hl
 rw [hz] at hcon
 refine hcon.mono ?_
 rintro e w' ⟨rfl, d', m, os, hP, -, rfl⟩
 have hsz : d'.size = l.toArray.size := hP.1
 have hH2 := holdsK_sortWorldK_c encSp 2 w g 0 l.toArray _ m os hH (heap_lt hb) hsz
 refine ⟨rfl, ?_, d'.toList, by simpa [hl] using hsz, ?_⟩
 ·exact ((chg_ahead w m).then (chg_mapBlock _ g _)).then (chg_grow _ os)
 ·intro j u hu
  have hj : j < d'.size * 2 := by
   rcases Nat.lt_or_ge j (d'.size * 2) with h | h
   ·exact h
   ·rw [List.getElem?_eq_none (by rw [spCells_len]; simpa using h)] at hu; cases hu
  rw [spCells_get _ j (by simpa using hj)] at hu
  have h2 := (hH2 j (by rw [size_flatK]; exact hj)).1
  rw [get_flatK encSp 2 _ j hj] at h2
  rw [h2]
  simpa using hu
end Go.Proofs.YtelakcjbknbehaaGreat
namespace Go.Proofs.YtelakcjbknbehaaGreat
open Go.RowKit Go.Lib

theorem add_lit (b o j : Nat) : (⟨b, o, none⟩ : Addr).add j = ⟨b, o + j, none⟩ := by unfold Addr.add; split <;> simp_all
theorem own_sp {w : World} {base n : Nat} {v : Value} {xs : List (Int × Int)} (h : w.ownsRow base 79 2 v n (spCells xs)) (hn : 0 < n) :
  ∃ g cap cur, v = .slice (some ⟨g, 0, none⟩) n cap ∧ base ≤ g ∧ w.heap[g]? = some (.cells cur 79 (0, 0)) ∧ Sp w g 0 xs ∧ n ≤ cap ∧ xs.length = n := by
 have hl := h.1
 rw [spCells_len] at hl
 rcases h.2 with ⟨rfl, h0⟩ | ⟨g, cap, cur, hv, hb, hg, hc, hm, hs, ht⟩
 ·omega
 ·subst hv
  exact ⟨g, cap, cur, rfl, hb, hg, fun j u hu => by have := h.cells (g := g) rfl j u hu; rw [add_lit] at this; exact this, hc, by omega⟩
theorem sp_at {w : World} {b o : Nat} {l : List (Int × Int)} (h : Sp w b o l) (i : Nat) (hi : i < l.length) : w.cell? ⟨b, o + i * 2, none⟩ = some (.int .i64 l[i].1) ∧ w.cell? ⟨b, o + (i * 2 + 1), none⟩ = some (.int .i64 l[i].2) := by
 have e1 : (i * 2) / 2 = i := by omega
 have e2 : (i * 2) % 2 = 0 := by omega
 have e3 : (i * 2 + 1) / 2 = i := by omega
 have e4 : (i * 2 + 1) % 2 = 1 := by omega
 have h1 := h (i * 2) _ (spCells_get l (i * 2) (by omega))
 have h2 := h (i * 2 + 1) _ (spCells_get l (i * 2 + 1) (by omega))
 rw [e1, e2] at h1
 rw [e3, e4] at h2
 simp [hi, encSp] at h1 h2
 exact ⟨h1, h2⟩
theorem spCells_set (xs : List (Int × Int)) (j : Nat) (h : j < xs.length) (z : Int) : (spCells xs).set (j * 2 + 1) (.int .i64 z) = spCells (xs.set j (xs[j].1, z)) := by
 induction xs generalizing j with
 | nil => simp at h
 | cons p l ih =>
  cases j with
  | zero => rfl
  | succ j =>
   have h' : j < l.length := by simpa using h
   have := ih j h'
   have e : ∀ q : Int × Int, ∀ m, spCells (q :: m) = .int .i64 q.1 :: .int .i64 q.2 :: spCells m := fun _ _ => rfl
   rw [List.set_cons_succ, e, e, show (j + 1) * 2 + 1 = (j * 2 + 1) + 1 + 1 by omega, List.set_cons_succ, List.set_cons_succ, this]
   rfl
theorem own_set {w : World} {base n g cap : Nat} {xs : List (Int × Int)} (h : w.ownsRow base 79 2 (.slice (some ⟨g, 0, none⟩) n cap) n (spCells xs)) (j : Nat) (hj : j < xs.length) (z : Int) :
  (w.setCell ⟨g, j * 2 + 1, none⟩ (.int .i64 z)).ownsRow base 79 2 (.slice (some ⟨g, 0, none⟩) n cap) n (spCells (xs.set j (xs[j].1, z))) := by
 have hl := h.1
 rw [spCells_len] at hl
 rcases h.2 with ⟨e, h0⟩ | ⟨g', cap', cur, hv, hb, hg, hc, hm, hs, ht⟩
 ·cases e
 ·cases hv
  refine ⟨by rw [spCells_len, List.length_set]; exact hl, Or.inr ⟨g, cap, cur.setIfInBounds (j * 2 + 1) (.int .i64 z), rfl, hb, heap_set hg _ _ rfl, hc, hm, by simpa using hs, ?_⟩⟩
  rw [← spCells_set xs j hj z, ← ht, Array.toList_setIfInBounds, List.take_set]
theorem ownsRow_chg {w w' : World} {S : List Nat} {base n e size : Nat} {v : Value} {xs : List Value} (h : w.ownsRow base e size v n xs) (hc : Chg S w w') (hS : ∀ x ∈ S, x < base := by simp) : w'.ownsRow base e size v n xs := by
 refine ⟨h.1, ?_⟩
 rcases h.2 with hn | ⟨g, cap, cur, hv, hb, hg, rest⟩
 ·exact Or.inl hn
 ·exact Or.inr ⟨g, cap, cur, hv, hb, hc.heap hg (fun hm => by have := hS g hm; omega), rest⟩
theorem ownsRow_base {w : World} {b base n e size : Nat} {v : Value} {xs : List Value} (h : w.ownsRow base e size v n xs) (hb : b ≤ base) : w.ownsRow b e size v n xs := by
 refine ⟨h.1, ?_⟩
 rcases h.2 with hn | ⟨g, cap, cur, hv, h1, hg, rest⟩
 ·exact Or.inl hn
 ·exact Or.inr ⟨g, cap, cur, hv, Nat.le_trans hb h1, hg, rest⟩
theorem sp_new (w : World) (a b : Int) : Sp (w.alloc (.cells #[.int .i64 a, .int .i64 b] 79)) w.heap.size 0 [(a, b)] := by
 have h := heap_new w (.cells #[.int .i64 a, .int .i64 b] 79)
 intro j u hu
 rw [Nat.zero_add]
 match j with
 | 0 => cases hu; exact cell_is h 0 rfl
 | 1 => cases hu; exact cell_is h 1 rfl
 | j + 2 => simp [spCells] at hu
set_option maxRecDepth 100000 in
set_option maxHeartbeats 2000000 in
theorem joined_any (w : World) {g0 o0 n cp : Nat} {l : List (Int × Int)} (hl : l.length = n) (h0 : 0 < n) (h1 : n ≤ 64) (hs : Sp w g0 o0 l) : Calls Tryz.prog 246 #[.slice (some ⟨g0, o0, none⟩) n cp] w fun e w' =>
  ∃ v k l', e = .returned v ∧ Chg [] w w' ∧ k ≤ n ∧ l'.length = k ∧ w'.ownsRow w.heap.size 79 2 v k (spCells l') := by
 go_enter Tryz.func246, Tryz.ntmps246
 go_wp2_with fail
 go_step3
 go_wp2_with fail
 refine (clone_sp w hl h0 (by omega) hs).mono ?_
 rintro e w1 ⟨v, rfl, k1, o1⟩
 obtain ⟨g, cap, cur, rfl, hg0, hb1, hs1, hcap, -⟩ := own_sp o1 h0
 clear o1
 go_wp2_with fail
 refine (sort_sp w1 (cap := cap) hb1 hs1 hl (by omega)).mono ?_
 rintro e w2 ⟨rfl, k2, l2, hl2, hs2⟩
 have k3 : Chg [] w w2 := k1.trans k2 (fun x hx hlt => by simp at hx; omega)
 have hw := k3.size
 have HL2 := Lib.hid hl2
 clear hb1 hs1 hl hs k1 k2 hl2
 go_wp2_with fail
 go_step3
 go_wp2_with fail
 go_loopw [2, 12] (fun v i wr => ∃ iq k xs, i = .int .i64 ((iq : Nat) : Int) ∧ iq ≤ n ∧ k ≤ iq ∧ Chg [] w2 wr ∧ ((v = .slice none 0 0 ∧ k = 0 ∧ xs = []) ∨ (0 < k ∧ wr.ownsRow w2.heap.size 79 2 v k (spCells xs)))) (fun _ i _ => n - (intOf i).toNat)
 case atStart => exact ⟨0, 0, [], rfl, Nat.zero_le _, Nat.le_refl _, Chg.refl _ _, Or.inl ⟨rfl, rfl, rfl⟩⟩
 case round =>
  obtain ⟨iq, k, xs, rfl, hi, hk, kr, hv⟩ := hrel
  rcases Nat.lt_or_ge iq n with hlt | hge
  ·have hS := hs2.keep kr
   obtain ⟨c0, c1⟩ := sp_at hS iq (by have := HL2.out; omega)
   generalize (l2[iq]'(by have := HL2.out; omega)).1 = a at *
   generalize (l2[iq]'(by have := HL2.out; omega)).2 = b at *
   simp only [Nat.zero_add] at c0 c1
   have hlt' : (iq : Int) < n := by omega
   rcases hv with ⟨rfl, rfl, rfl⟩ | ⟨hk0, ho⟩
   ·go_wp2_with fail
    have kz : Chg [] wr (wr.alloc (.cells #[.int .i64 a, .int .i64 b] 79)) := Chg.alloc wr _
    have z0 := heap_new wr (.cells #[.int .i64 a, .int .i64 b] 79)
    generalize hw5 : wr.alloc (.cells #[.int .i64 a, .int .i64 b] 79) = w5 at *
    generalize wr.heap.size = z at *
    have d0 : w5.cell? ⟨z, 0, none⟩ = some (.int .i64 a) := cell_is z0 0 rfl
    have d1 : w5.cell? ⟨z, 1, none⟩ = some (.int .i64 b) := cell_is z0 1 rfl
    go_quiet (fail)
    have kw : Chg [] w2 ((w5.drewN nq).alloc (.cells #[.int .i64 a, .int .i64 b] 79)) := ((kr.then kz).drewN nq).then_alloc _
    have hsz := kw.size
    have hnw := Lib.hid (sp_new (w5.drewN nq) a b)
    go_wp2_with (at_builtin; refine wpList_append_sp rfl (.tmp 58) (.tmp 60) rfl w2.heap.size _ 0 [] [(a, b)] rfl (World.ownsRow_nil _ _ _ _) (w5.drewN nq).heap.size 0 1 1 rfl rfl hnw.out (by omega) hsz ?_; intro v1 w6 h6)
    go_roundw
    case rel => exact ⟨iq + 1, 1, _, by go_num, hlt, by omega, Chg.of_below (kw.below0.trans h6.2.1), Or.inr ⟨by omega, h6.1⟩⟩
    case measure => simp [intOf]; omega
   ·obtain ⟨hb, cap', cur', rfl, hhb, hhc, hhs, hcc, hxl⟩ := own_sp ho hk0
    obtain ⟨k', rfl⟩ : ∃ k', k = k' + 1 := ⟨k - 1, by omega⟩
    obtain ⟨p0, q0⟩ := sp_at hhs k' (by omega)
    simp only [Nat.zero_add] at p0 q0
    obtain ⟨p, hp⟩ : ∃ p, p = (xs[k']'(by omega)).1 := ⟨_, rfl⟩
    obtain ⟨q, hq⟩ : ∃ q, q = (xs[k']'(by omega)).2 := ⟨_, rfl⟩
    rw [← hp] at p0
    rw [← hq] at q0
    clear hp hq
    go_wp2_with fail
    have kz : Chg [] wr (wr.alloc (.cells #[.int .i64 a, .int .i64 b] 79)) := Chg.alloc wr _
    have z0 := heap_new wr (.cells #[.int .i64 a, .int .i64 b] 79)
    generalize hw5 : wr.alloc (.cells #[.int .i64 a, .int .i64 b] 79) = w5 at *
    generalize wr.heap.size = z at *
    have d0 : w5.cell? ⟨z, 0, none⟩ = some (.int .i64 a) := cell_is z0 0 rfl
    have d1 : w5.cell? ⟨z, 1, none⟩ = some (.int .i64 b) := cell_is z0 1 rfl
    have p1 := kz.cell p0 (by simp)
    have q1 := kz.cell q0 (by simp)
    go_quiet (fail)
    by_cases hle : a ≤ wrap64 (p + q)
    ·go_wp2_with fail
     have p2 : (w5.drewN nq).cell? ⟨hb, k' * 2, none⟩ = some (.int .i64 p) := p1
     have q2 : (w5.drewN nq).cell? ⟨hb, k' * 2 + 1, none⟩ = some (.int .i64 q) := q1
     have f2 : (w5.drewN nq).frozen? ⟨hb, k' * 2 + 1, none⟩ = false := unfrozen (kz.heap hhc (by simp)) _
     have d2 : (w5.drewN nq).cell? ⟨z, 0, none⟩ = some (.int .i64 a) := d0
     have d3 : (w5.drewN nq).cell? ⟨z, 1, none⟩ = some (.int .i64 b) := d1
     have hkk : (k' : Int) < k' + 1 := by omega
     have k6 : Chg [] w2 (w5.drewN nq) := (kr.then kz).drewN nq
     have hd6 : (w5.drewN nq).drew.ownsRow w2.heap.size 79 2 (.slice (some ⟨hb, 0, none⟩) (k' + 1) cap') (k' + 1) (spCells xs) := ownsRow_chg ho ((kz.drewN nq).drew)
     clear d0 d1 p1 q1
     generalize w5.drewN nq = w6 at *
     go_still_tail 21, (by kernel_rfl)
     change wpList _ _ _ _ _ w6.drew
     have HS := Lib.hid (fun z => own_set hd6 k' (by omega) z)
     have k7 : Chg [] w2 w6.drew := k6.drew
     have q7 : w6.drew.cell? ⟨hb, k' * 2 + 1, none⟩ = some (.int .i64 q) := q2
     have f7 : w6.drew.frozen? ⟨hb, k' * 2 + 1, none⟩ = false := f2
     generalize w6.drew = w7 at *
     go_wp2_with fail
     go_roundw
     case rel => exact ⟨iq + 1, k' + 1, _, by go_num, hlt, by omega, k7.new_set hhb _ _, Or.inr ⟨by omega, HS.out _⟩⟩
     case measure => simp [intOf]; omega
    ·have kw : Chg [] w2 ((w5.drewN nq).alloc (.cells #[.int .i64 a, .int .i64 b] 79)) := ((kr.then kz).drewN nq).then_alloc _
     have ow : ((w5.drewN nq).alloc (.cells #[.int .i64 a, .int .i64 b] 79)).ownsRow w2.heap.size 79 2 (.slice (some ⟨hb, 0, none⟩) (k' + 1) cap') (k' + 1) (spCells xs) := ownsRow_chg ho ((kz.drewN nq).then_alloc _)
     have hsz := kw.size
     have hnw := Lib.hid (sp_new (w5.drewN nq) a b)
     go_wp2_with (at_builtin; refine wpList_append_sp rfl (.tmp 58) (.tmp 60) rfl w2.heap.size _ (k' + 1) xs [(a, b)] rfl ow (w5.drewN nq).heap.size 0 1 1 rfl rfl hnw.out (by omega) hsz ?_; intro v1 w6 h6)
     go_roundw
     case rel => exact ⟨iq + 1, k' + 2, _, by go_num, hlt, by omega, Chg.of_below (kw.below0.trans h6.2.1), Or.inr ⟨by omega, h6.1⟩⟩
     case measure => simp [intOf]; omega
  ·obtain rfl : iq = n := by omega
   have hnl : ¬ ((iq : Int) < iq) := by omega
   rcases hv with ⟨rfl, rfl, rfl⟩ | ⟨hk0, ho⟩
   ·go_wp2_with fail
    go_ret
    exact ⟨_, 0, [], rfl, k3.then kr, Nat.zero_le _, rfl, World.ownsRow_nil _ _ _ _⟩
   ·go_wp2_with fail
    go_ret
    exact ⟨_, k, xs, rfl, k3.then kr, hk, by have := ho.1; rw [spCells_len] at this; omega, ownsRow_base ho hw⟩
def SpV (w : World) (base V n : Nat) : Prop := ∃ v l, SpansAt w V v ∧ l.length ≤ n ∧ w.ownsRow base 79 2 v l.length (spCells l)
def Av (w : World) (S ts : List Nat) : Prop := ∀ x ∈ S, ∀ cs t fr, w.heap[x]? = some (.cells cs t fr) → t ∉ ts
theorem Av.ne {w : World} {S ts : List Nat} (h : Av w S ts) {g : Nat} {cs : Array Value} {t : TypeId} {fr : Nat × Nat} (hg : w.heap[g]? = some (.cells cs t fr)) (ht : t ∈ ts) : g ∉ S := fun hm => h g hm cs t fr hg ht
theorem Av.nil (w : World) (ts : List Nat) : Av w [] ts := fun x hx => by cases hx
theorem SpV.keep {w w' : World} {S : List Nat} {base V n : Nat} (h : SpV w base V n) (hc : Chg S w w') (hS : Av w S [79, 305]) : SpV w' base V n := by
 obtain ⟨v, l, h1, h2, h3⟩ := h
 refine ⟨v, l, hc.heap h1 (hS.ne h1 (by simp)), h2, h3.1, ?_⟩
 rcases h3.2 with hn | ⟨g, cap, cur, hv, hb, hg, rest⟩
 ·exact Or.inl hn
 ·exact Or.inr ⟨g, cap, cur, hv, hb, hc.heap hg (hS.ne hg (by simp)), rest⟩
theorem SpV.keep0 {w w' : World} {base V n : Nat} (h : SpV w base V n) (hc : Chg [] w w') : SpV w' base V n := h.keep hc (Av.nil _ _)
theorem own_spq {w : World} {base : Nat} {v : Value} {l : List (Int × Int)} (h : w.ownsRow base 79 2 v l.length (spCells l)) : ∃ pa c, v = .slice pa l.length c ∧ SpQ w pa l := by
 cases l with
 | nil =>
  rcases h.2 with ⟨rfl, h0⟩ | ⟨g, cap, cur, rfl, _⟩
  ·exact ⟨none, 0, rfl, Or.inl ⟨rfl, rfl⟩⟩
  ·exact ⟨_, cap, rfl, Or.inr ⟨g, 0, rfl, fun j u hu => by simp [spCells] at hu⟩⟩
 | cons p l =>
  obtain ⟨g, cap, cur, hv, _, _, hs, _, _⟩ := own_sp h (by simp)
  exact ⟨_, cap, hv, Or.inr ⟨g, 0, rfl, hs⟩⟩
set_option maxRecDepth 100000 in
set_option maxHeartbeats 2000000 in
theorem iadd_one (w : World) {base V n E cp : Nat} {b : Int} (h : SpV w base V n) (hn : n ≤ 60) (hbase : base ≤ w.heap.size) (h0 : 0 ≤ b) (h1 : b < 258) (e0 : w.cell? ⟨E, 0, none⟩ = some (.int .i64 b)) (e1 : w.cell? ⟨E, 1, none⟩ = some (.int .i64 1)) :
  Calls Tryz.prog 216 #[.pointer (some ⟨V, 0, none⟩), .slice (some ⟨E, 0, none⟩) 1 cp] w fun e w' => e = .returned (.int .i64 0) ∧ Chg [V] w w' ∧ SpV w' base V (n + 1) := by
 obtain ⟨v, l, hV, hl, ho⟩ := h
 obtain ⟨pa, c, rfl, hq⟩ := own_spq ho
 have hE : SpQ w (some ⟨E, 0, none⟩) [(b, 1)] := Or.inr ⟨E, 0, rfl, fun j u hu => by
  rw [Nat.zero_add]
  match j with
  | 0 => cases hu; exact e0
  | 1 => cases hu; exact e1
  | j + 2 => simp [spCells] at hu⟩
 have v1 : w.cell? ⟨V, 1, none⟩ = some (.slice pa l.length c) := cell_is hV 1 rfl
 go_enter Tryz.func216, Tryz.ntmps216
 go_wp2_with fail
 refine (iall_one w (cp := cp) h0 h1 e0 e1).mono ?_
 rintro e w1 ⟨rfl, k1⟩
 have v2 := k1.cell v1 (by simp)
 have hq2 := hq.keep k1
 have hE2 := hE.keep k1
 have hV2 := k1.heap hV (by simp)
 have ho2 := ownsRow_chg ho k1
 clear e0 e1 v1 hV hq hE ho
 go_wp2_with fail
 have kx : Chg [] w1 (w1.alloc (.cells #[.slice pa l.length c, .slice (some ⟨E, 0, none⟩) 1 cp] 175)) := Chg.alloc _ _
 have x0 : (w1.alloc (.cells #[.slice pa l.length c, .slice (some ⟨E, 0, none⟩) 1 cp] 175)).cell? ⟨w1.heap.size, 0, none⟩ = some (.slice pa l.length c) := cell_is (heap_new w1 _) 0 rfl
 have x1 : (w1.alloc (.cells #[.slice pa l.length c, .slice (some ⟨E, 0, none⟩) 1 cp] 175)).cell? ⟨w1.heap.size, 1, none⟩ = some (.slice (some ⟨E, 0, none⟩) 1 cp) := cell_is (heap_new w1 _) 1 rfl
 refine (concat_two _ x0 x1 rfl rfl (by omega) (by omega) (by omega) (hq2.keep kx) (hE2.keep kx)).mono ?_
 rintro e w2 ⟨v', rfl, k2, o2⟩
 obtain ⟨g, cap, cur, rfl, hgb, hgc, hgs, _, hgl⟩ := own_sp o2 (by simp)
 have k3 := (k1.then kx).then k2
 go_wp2_with fail
 refine (joined_any w2 hgl (by omega) (by omega) hgs).mono ?_
 rintro e w3 ⟨v3, k, l3, rfl, k4, hk, hl3, o3⟩
 have k5 := k3.then k4
 have hV3 : SpansAt w3 V (.slice pa l.length c) := ((kx.then k2).then k4).heap hV2 (by simp)
 have c0 : w3.cell? ⟨V, 0, none⟩ = some (.int .i64 64) := cell_is hV3 0 rfl
 have c1 : w3.cell? ⟨V, 1, none⟩ = some (.slice pa l.length c) := cell_is hV3 1 rfl
 have f1 := unfrozen hV3 1
 obtain ⟨pq, cq, hv3, hcq⟩ := own_form o3
 subst hv3
 have hsz := k3.size
 have HF := Lib.hid (show SpV (w3.setCell ⟨V, 1, none⟩ (.slice pq k cq)) base V (n + 1) from by
  refine ⟨_, l3, heap_set hV3 1 _ rfl, by omega, ?_⟩
  have kk := Chg.set w3 V 1 (.slice pq k cq)
  refine ownsRow_base (base := w2.heap.size) ?_ (by omega)
  rw [hl3]
  refine ownsRow_chg o3 kk ?_
  intro x hx
  have := heap_lt hV2
  have := (kx.then k2).size
  simp at hx
  omega)
 clear k3 k4 o3 hV3 hV2 x0 x1 hgs hgc o2 hq2 hE2
 have hcmp : ¬ ((k : Int) > 64) := by omega
 go_wp2_with fail
 go_ret
 exact ⟨rfl, (k5.mono (T := [V]) (fun x hx _ => by cases hx)).then (Chg.set w3 V 1 _), HF.out⟩
theorem ty68 : Tryz.prog.underlying 178 = some (.slice 255) := by kernel_rfl
theorem inf285 : (Tryz.prog.info? 255).map (fun i => (i.zero, i.size, i.bytes)) = some (some (.agg #[.int .i64 0, .slice none 0 0, .bool false]), 3, 40) := by kernel_rfl
def Rt (w : World) (base : Nat) (T : List Nat) : Prop := ∀ x ∈ T, base ≤ x ∧ ∃ cs t fr, w.heap[x]? = some (.cells cs t fr) ∧ (t = 274 ∨ t = 305 ∨ t = 255)
theorem Rt.cells {w : World} {base : Nat} {T : List Nat} (h : Rt w base T) {g : Nat} {cs : Array Value} {t : TypeId} {fr : Nat × Nat} (hg : w.heap[g]? = some (.cells cs t fr)) (ht : t ≠ 274 ∧ t ≠ 305 ∧ t ≠ 255) : g ∉ T := by
 intro hm
 obtain ⟨_, cs', t', fr', h1, h2⟩ := h g hm
 rw [hg] at h1
 cases h1
 rcases h2 with h | h | h
 ·exact ht.1 h
 ·exact ht.2.1 h
 ·exact ht.2.2 h
theorem Rt.map {w : World} {base : Nat} {T : List Nat} (h : Rt w base T) {r : Nat} {L : List (Int × Value)} (hg : MapAt w r L) : r ∉ T := by
 intro hm
 obtain ⟨_, cs', t', fr', h1, _⟩ := h r hm
 exact map_cells hg h1 rfl
theorem Rt.nil (w : World) (base : Nat) : Rt w base [] := fun x hx => by cases hx
theorem ownsRow_chgV {w w' : World} {V : Nat} {base n : Nat} {v : Value} {xs : List Value} {v2 : Value} (h : w.ownsRow base 255 3 v n xs) (hc : Chg [V] w w') (hV : SpansAt w V v2) : w'.ownsRow base 255 3 v n xs := by
 refine ⟨h.1, ?_⟩
 rcases h.2 with hn | ⟨g, cap, cur, hv, hb, hg, rest⟩
 ·exact Or.inl hn
 ·exact Or.inr ⟨g, cap, cur, hv, hb, hc.heap hg (by simpa using heap_ne hg hV (by simp)), rest⟩
theorem chg_setRow (w : World) (g : Nat) (cs : Array Value) : Chg [g] w (w.setRow g cs) := ⟨rfl, rfl, rfl, by simp [World.setRow], fun k _ hs => setRow_other w g k cs (fun e => hs (by simp [e]))⟩
theorem ownsRow_chg2 {w w' : World} {g : Nat} {base n : Nat} {v : Value} {xs : List Value} {cs : Array Value} (h : w.ownsRow base 255 3 v n xs) (hc : Chg [g] w w') (hV : w.heap[g]? = some (.cells cs 5 (0, 0))) : w'.ownsRow base 255 3 v n xs := by
 refine ⟨h.1, ?_⟩
 rcases h.2 with hn | ⟨k, cap, cur, hv, hb, hg, rest⟩
 ·exact Or.inl hn
 ·exact Or.inr ⟨k, cap, cur, hv, hb, hc.heap hg (by simpa using heap_ne hg hV (by simp)), rest⟩
theorem own_block_ne {w : World} {g : Nat} {base n e size : Nat} {v : Value} {xs : List Value} {cs : Array Value} {t : TypeId} {fr : Nat × Nat} (h : w.ownsRow base e size v n xs) (hg : w.heap[g]? = some (.cells cs t fr)) (ht : t ≠ e) : g ∉ v.ownBlock.toList := by
 rcases h.2 with ⟨rfl, _⟩ | ⟨k, cap, cur, rfl, hb, hk, rest⟩
 ·simp [Value.ownBlock]
 ·simpa [Value.ownBlock] using heap_ne hg hk (by intro e; cases e; exact ht rfl)
theorem ownsRow_av {w w' : World} {S : List Nat} {base n e size : Nat} {v : Value} {xs : List Value} (h : w.ownsRow base e size v n xs) (hc : Chg S w w') (hS : Av w S [e]) : w'.ownsRow base e size v n xs := by
 refine ⟨h.1, ?_⟩
 rcases h.2 with hn | ⟨g, cap, cur, hv, hb, hg, rest⟩
 ·exact Or.inl hn
 ·exact Or.inr ⟨g, cap, cur, hv, hb, hc.heap hg (hS.ne hg (by simp)), rest⟩
theorem Bs.cells_at {w : World} {g : Nat} {l : List UInt8} (h : Bs w (some ⟨g, 0, none⟩) l) : ∀ j v, (Lib.byteCells l)[j]? = some v → w.cell? ((⟨g, 0, none⟩ : Addr).add j) = some v := by
 intro j u hu
 rcases h with rfl | ⟨b, off, e, hb, hc⟩
 ·simp [Lib.byteCells] at hu
 ·cases e
  have hj : j < l.length := by
   rcases Nat.lt_or_ge j l.length with h | h
   ·exact h
   ·rw [List.getElem?_eq_none (by simpa [Lib.byteCells] using h)] at hu; cases hu
  rw [add_lit, hc j hj, ← hu]
  simp [Lib.byteCells, hj]
theorem byteCells_one (l : List UInt8) : ∀ v ∈ Lib.byteCells l, v.oneCell' = true := by
 intro u hu
 simp only [Lib.byteCells, List.mem_map] at hu
 obtain ⟨x, _, rfl⟩ := hu
 rfl
structure Ids where
 P : Nat
 N : Nat
 S : Nat
 M : Nat
 X : Nat
 rx : Nat
 B : Nat
 rb : Nat
 r : Nat
 A : Nat
 c : Nat
 Z : List Nat
 T : Nat
 W : Nat
 rw : Nat
 Q : Nat
 V : Nat
def Ow (base : Nat) (w w' : World) : Prop := ∃ T, Chg T w w' ∧ ∀ x ∈ T, base ≤ x ∧ ∀ cs t fr, w.heap[x]? = some (.cells cs t fr) → t = 274 ∨ t = 305 ∨ t = 255
theorem Ow.refl (base : Nat) (w : World) : Ow base w w := ⟨[], Chg.refl _ _, fun x hx => by cases hx⟩
theorem Ow.of_chg {base : Nat} {w w' : World} (h : Chg [] w w') : Ow base w w' := ⟨[], h, fun x hx => by cases hx⟩
theorem Ow.trans {base : Nat} {a b c : World} (h : Ow base a b) (k : Ow base b c) : Ow base a c := by
 obtain ⟨T, h1, h2⟩ := h
 obtain ⟨U, k1, k2⟩ := k
 refine ⟨T ++ U, (h1.mono (fun x hx _ => List.mem_append_left _ hx)).then (k1.mono (fun x hx _ => List.mem_append_right _ hx)), fun x hx => ?_⟩
 by_cases hT : x ∈ T
 ·exact h2 x hT
 ·rcases List.mem_append.1 hx with hx | hx
  ·exact absurd hx hT
  ·exact ⟨(k2 x hx).1, fun cs t fr hh => (k2 x hx).2 cs t fr (h1.heap hh hT)⟩
theorem Ow.then {base : Nat} {a b c : World} (h : Ow base a b) (k : Chg [] b c) : Ow base a c := h.trans (Ow.of_chg k)
theorem Ow.heap {base : Nat} {w w' : World} (h : Ow base w w') {g : Nat} {cs : Array Value} {t : TypeId} {fr : Nat × Nat} (hg : w.heap[g]? = some (.cells cs t fr)) (ht : t ≠ 274 ∧ t ≠ 305 ∧ t ≠ 255) : w'.heap[g]? = some (.cells cs t fr) := by
 obtain ⟨T, h1, h2⟩ := h
 refine h1.heap hg (fun hm => ?_)
 rcases (h2 g hm).2 cs t fr hg with h | h | h
 ·exact ht.1 h
 ·exact ht.2.1 h
 ·exact ht.2.2 h
theorem Ow.size {base : Nat} {w w' : World} (h : Ow base w w') : w.heap.size ≤ w'.heap.size := by obtain ⟨T, h1, _⟩ := h; exact h1.size
theorem av_map {w : World} {r : Nat} {L : List (Int × Value)} (h : MapAt w r L) (ts : List Nat) : Av w [r] ts := fun x hx cs t fr hh => by rw [List.mem_singleton] at hx; subst hx; exact absurd rfl (map_cells h hh)
def putQ (q : Int → List UInt8) (b : Int) (l : List UInt8) (x : Int) : List UInt8 := if x = b then l else q x
def isB (e : Ending) : Prop := ∃ r : Bool, e = .returned (.bool r)
set_option maxRecDepth 100000 in
theorem imay_any (w : World) (b n : Int) : Calls Tryz.prog 280 #[.agg #[.int .i64 b, .int .i64 n]] w fun e w' => isB e ∧ Chg [] w w' := by
 have kc : Chg [] w (w.alloc (.cells #[.int .i64 b, .int .i64 n] 79)) := Chg.alloc w _
 by_cases h0 : 0 ≤ b
 ·by_cases h1 : b ≤ 1048576
  ·by_cases h2 : 1 ≤ n
   ·by_cases h3 : n ≤ 1048576
    ·have n0 : decide (0 ≤ b) = true := decide_eq_true h0
     have n1 : decide (b ≤ 1048576) = true := decide_eq_true h1
     have n2 : decide (1 ≤ n) = true := decide_eq_true h2
     have n3 : decide (n ≤ 1048576) = true := decide_eq_true h3
     go_enter Tryz.func280, Tryz.ntmps280
     go_wp2_with fail
     go_ret
     exact ⟨⟨_, rfl⟩, kc⟩
    ·have n0 : decide (0 ≤ b) = true := decide_eq_true h0
     have n1 : decide (b ≤ 1048576) = true := decide_eq_true h1
     have n2 : decide (1 ≤ n) = true := decide_eq_true h2
     have n3 : decide (n ≤ 1048576) = false := decide_eq_false h3
     go_enter Tryz.func280, Tryz.ntmps280
     go_wp2_with fail
     go_ret
     exact ⟨⟨_, rfl⟩, kc⟩
   ·have n0 : decide (0 ≤ b) = true := decide_eq_true h0
    have n1 : decide (b ≤ 1048576) = true := decide_eq_true h1
    have n2 : decide (1 ≤ n) = false := decide_eq_false h2
    go_enter Tryz.func280, Tryz.ntmps280
    go_wp2_with fail
    go_ret
    exact ⟨⟨_, rfl⟩, kc⟩
  ·have n0 : decide (0 ≤ b) = true := decide_eq_true h0
   have n1 : decide (b ≤ 1048576) = false := decide_eq_false h1
   go_enter Tryz.func280, Tryz.ntmps280
   go_wp2_with fail
   go_ret
   exact ⟨⟨_, rfl⟩, kc⟩
 ·have n0 : decide (0 ≤ b) = false := decide_eq_false h0
  go_enter Tryz.func280, Tryz.ntmps280
  go_wp2_with fail
  go_ret
  exact ⟨⟨_, rfl⟩, kc⟩
set_option maxRecDepth 100000 in
theorem inot_any (w : World) (b n : Int) : Calls Tryz.prog 279 #[.agg #[.int .i64 b, .int .i64 n]] w fun e w' => isB e ∧ Chg [] w w' := by
 have kc : Chg [] w (w.alloc (.cells #[.int .i64 b, .int .i64 n] 79)) := Chg.alloc w _
 go_enter Tryz.func279, Tryz.ntmps279
 go_wp2_with fail
 refine (imay_any _ b n).mono ?_
 rintro e w2 ⟨⟨r, rfl⟩, k2⟩
 cases r
 all_goals
  go_wp2_with fail
  go_ret
  exact ⟨⟨_, rfl⟩, kc.then k2⟩
theorem SpQ.get {w : World} {pa : Option Addr} {l : List (Int × Int)} (h : SpQ w pa l) (j : Nat) (hj : j < l.length) : ∃ b o, pa = some ⟨b, o, none⟩ ∧ w.cell? ⟨b, o + j * 2, none⟩ = some (.int .i64 l[j].1) ∧ w.cell? ⟨b, o + j * 2 + 1, none⟩ = some (.int .i64 l[j].2) := by
 rcases h with ⟨rfl, _⟩ | ⟨b, o, rfl, h⟩
 ·simp at hj
 ·have hc : ∀ (l : List (Int × Int)) (j : Nat) (hj : j < l.length), (spCells l)[j * 2]? = some (.int .i64 l[j].1) ∧ (spCells l)[j * 2 + 1]? = some (.int .i64 l[j].2) := by
   intro l
   induction l with
   | nil => intro j hj; simp at hj
   | cons p l ih =>
    intro j hj
    cases j with
    | zero => exact ⟨rfl, rfl⟩
    | succ j =>
     have := ih j (by simpa using hj)
     have e1 : (j + 1) * 2 = j * 2 + 1 + 1 := by omega
     have e2 : spCells (p :: l) = .int .i64 p.1 :: .int .i64 p.2 :: spCells l := rfl
     rw [e1, e2]
     simpa using this
  obtain ⟨h1, h2⟩ := hc l j hj
  exact ⟨b, o, rfl, h _ _ h1, by have := h _ _ h2; rwa [← Nat.add_assoc] at this⟩
set_option maxRecDepth 100000 in
set_option maxHeartbeats 1000000 in
theorem idxspan_any (w : World) {pa : Option Addr} {m c : Nat} {l : List (Int × Int)} (hl : l.length = m) (hm : m ≤ 1000) (hs : SpQ w pa l) : Calls Tryz.prog 298 #[.slice pa m c, .func (.func 279) #[] #[]] w fun e w' => ∃ i : Int, e = .returned (.int .i64 i) ∧ Chg [] w w' ∧ -1 ≤ i ∧ i ≤ 1000 := by
 have HS := Lib.hid hs
 clear hs
 go_enter Tryz.func298, Tryz.ntmps298
 go_wp2_with fail
 go_loopw [8] (fun i wr => ∃ j : Nat, j ≤ m ∧ i = .int .i64 j ∧ Chg [] w wr) (fun i _ => m - (intOf i).toNat)
 case atStart => exact ⟨0, by omega, rfl, Chg.refl _ _⟩
 case round =>
  obtain ⟨j, hj, rfl, kr⟩ := hrel
  by_cases hlt : j < m
  ·obtain ⟨b, o, rfl, c0, c1⟩ := (HS.out.keep kr).get j (by omega)
   generalize (l[j]'(by omega)).1 = x at *
   generalize (l[j]'(by omega)).2 = y at *
   go_wp2_with fail
   refine (inot_any wr x y).mono ?_
   rintro e w2 ⟨⟨r, rfl⟩, k2⟩
   have k3 := kr.then k2
   cases r
   ·go_wp2_with fail
    go_roundw
    case rel => exact ⟨j + 1, by omega, by simp, k3⟩
    case measure => simp [intOf]; omega
   ·go_wp2_with fail
    go_ret
    exact ⟨_, rfl, k3, by omega, by omega⟩
  ·obtain rfl : j = m := by omega
   go_wp2_with fail
   go_ret
   exact ⟨_, rfl, kr, by omega, by omega⟩
set_option maxRecDepth 100000 in
theorem contspan_any (w : World) {pa : Option Addr} {m c : Nat} {l : List (Int × Int)} (hl : l.length = m) (hm : m ≤ 1000) (hs : SpQ w pa l) : Calls Tryz.prog 278 #[.slice pa m c, .func (.func 279) #[] #[]] w fun e w' => isB e ∧ Chg [] w w' := by
 have HI := Lib.hid (idxspan_any w (c := c) hl hm hs)
 clear hs
 go_enter Tryz.func278, Tryz.ntmps278
 go_wp2_with fail
 refine HI.out.mono ?_
 rintro e w2 ⟨i, rfl, k, -, -⟩
 go_wp2_with fail
 go_ret
 exact ⟨⟨_, rfl⟩, k⟩
set_option maxRecDepth 100000 in
theorem iall_any (w : World) {pa : Option Addr} {m c : Nat} {l : List (Int × Int)} (hl : l.length = m) (hm : m ≤ 1000) (hs : SpQ w pa l) : Calls Tryz.prog 245 #[.slice pa m c] w fun e w' => isB e ∧ Chg [] w w' := by
 have HI := Lib.hid (contspan_any w (c := c) hl hm hs)
 clear hs
 go_enter Tryz.func245, Tryz.ntmps245
 go_wp2_with fail
 refine HI.out.mono ?_
 rintro e w2 ⟨⟨r, rfl⟩, k⟩
 go_wp2_with fail
 go_ret
 exact ⟨⟨_, rfl⟩, k⟩
def SpW (w : World) (base V : Nat) (most : Nat) (n : Nat) : Prop := ∃ v l, w.heap[V]? = some (.cells #[.int .i64 most, v] 305 (0, 0)) ∧ l.length ≤ n ∧ w.ownsRow base 79 2 v l.length (spCells l)
theorem SpV.to {w : World} {base V n : Nat} (h : SpV w base V n) : SpW w base V 64 n := h
theorem SpW.keep {w w' : World} {S : List Nat} {base V most n : Nat} (h : SpW w base V most n) (hc : Chg S w w') (hS : Av w S [79, 305]) : SpW w' base V most n := by
 obtain ⟨v, l, h1, h2, h3⟩ := h
 exact ⟨v, l, hc.heap h1 (hS.ne h1 (by simp)), h2, ownsRow_av h3 hc (fun x hx cs t fr hh ht => hS x hx cs t fr hh (by simp at ht; simp [ht]))⟩
theorem SpW.keep0 {w w' : World} {base V most n : Nat} (h : SpW w base V most n) (hc : Chg [] w w') : SpW w' base V most n := h.keep hc (Av.nil _ _)
set_option maxRecDepth 100000 in
set_option maxHeartbeats 2000000 in
theorem iadd_any (w : World) {base V most n m c0' : Nat} {pe : Option Addr} {l2 : List (Int × Int)} (h : SpW w base V most n) (hn : n + m ≤ 16) (hbase : base ≤ w.heap.size) (hl2 : l2.length = m) (hE : SpQ w pe l2) :
  Calls Tryz.prog 216 #[.pointer (some ⟨V, 0, none⟩), .slice pe m c0'] w fun e w' => ∃ r : Int, e = .returned (.int .i64 r) ∧ Chg [V] w w' ∧ SpW w' base V most (n + m) := by
 obtain ⟨v, l, hV, hl, ho⟩ := h
 obtain ⟨pa, c, rfl, hq⟩ := own_spq ho
 have v1 : w.cell? ⟨V, 1, none⟩ = some (.slice pa l.length c) := cell_is hV 1 rfl
 go_enter Tryz.func216, Tryz.ntmps216
 go_wp2_with fail
 refine (iall_any w (c := c0') hl2 (by omega) hE).mono ?_
 rintro e w1 ⟨⟨r, rfl⟩, k1⟩
 have v2 := k1.cell v1 (by simp)
 have hq2 := hq.keep k1
 have hE2 := hE.keep k1
 have hV2 := k1.heap hV (by simp)
 have ho2 := ownsRow_chg ho k1
 have H0 := Lib.hid (show SpW w1 base V most (n + m) from ⟨_, l, hV2, by omega, ho2⟩)
 clear v1 hV hq hE ho
 have k1V : Chg [V] w w1 := k1.mono (fun x hx _ => by cases hx)
 cases r
 ·go_wp2_with fail
  go_ret
  exact ⟨_, rfl, k1V, H0.out⟩
 ·by_cases hm : m = 0
  ·subst hm
   go_wp2_with fail
   go_ret
   exact ⟨_, rfl, k1V, H0.out⟩
  ·have hmi : ¬ (m : Int) = 0 := by omega
   go_wp2_with fail
   have kx : Chg [] w1 (w1.alloc (.cells #[.slice pa l.length c, .slice pe m c0'] 175)) := Chg.alloc _ _
   have x0 : (w1.alloc (.cells #[.slice pa l.length c, .slice pe m c0'] 175)).cell? ⟨w1.heap.size, 0, none⟩ = some (.slice pa l.length c) := cell_is (heap_new w1 _) 0 rfl
   have x1 : (w1.alloc (.cells #[.slice pa l.length c, .slice pe m c0'] 175)).cell? ⟨w1.heap.size, 1, none⟩ = some (.slice pe m c0') := cell_is (heap_new w1 _) 1 rfl
   refine (concat_two _ x0 x1 rfl hl2 (by omega) (by omega) (by omega) (hq2.keep kx) (hE2.keep kx)).mono ?_
   rintro e w2 ⟨v', rfl, k2, o2⟩
   obtain ⟨g, cap, cur, rfl, hgb, hgc, hgs, _, hgl⟩ := own_sp o2 (by omega)
   have k3 := (k1.then kx).then k2
   go_wp2_with fail
   refine (joined_any w2 hgl (by omega) (by omega) hgs).mono ?_
   rintro e w3 ⟨v3, k, l3, rfl, k4, hk, hl3, o3⟩
   have k5 := k3.then k4
   have hV3 : w3.heap[V]? = some (.cells #[.int .i64 most, .slice pa l.length c] 305 (0, 0)) := ((kx.then k2).then k4).heap hV2 (by simp)
   have c0 : w3.cell? ⟨V, 0, none⟩ = some (.int .i64 most) := cell_is hV3 0 rfl
   have c1 : w3.cell? ⟨V, 1, none⟩ = some (.slice pa l.length c) := cell_is hV3 1 rfl
   have f1 := unfrozen hV3 1
   obtain ⟨pq, cq, hv3, hcq⟩ := own_form o3
   subst hv3
   have hsz := k3.size
   have HF := Lib.hid (show SpW (w3.setCell ⟨V, 1, none⟩ (.slice pq k cq)) base V most (n + m) from by
    refine ⟨_, l3, heap_set hV3 1 _ rfl, by omega, ?_⟩
    have kk := Chg.set w3 V 1 (.slice pq k cq)
    refine ownsRow_base (base := w2.heap.size) ?_ (by omega)
    rw [hl3]
    refine ownsRow_chg o3 kk ?_
    intro x hx
    have := heap_lt hV2
    have := (kx.then k2).size
    simp at hx
    omega)
   have HN := Lib.hid (show SpW w3 base V most (n + m) from ⟨_, l, hV3, by omega, ownsRow_chg ho2 ((kx.then k2).then k4)⟩)
   have k5V : Chg [V] w w3 := k5.mono (fun x hx _ => by cases hx)
   clear k3 k4 o3 hV3 hV2 x0 x1 hgs hgc o2 hq2 hE2 ho2 H0
   by_cases hcmp : (k : Int) > most
   ·go_wp2_with fail
    go_ret
    exact ⟨_, rfl, k5V, HN.out⟩
   ·go_wp2_with fail
    go_ret
    exact ⟨_, rfl, k5V.then (Chg.set w3 V 1 _), HF.out⟩
def VRow (w : World) (lo : Nat) (v : Value) (l : List (Int × List UInt8)) : Prop :=
 ∃ xs, w.ownsRow lo 288 2 v l.length xs ∧ ∀ i (h : i < l.length), xs[i * 2]? = some (.int .i64 l[i].1) ∧ ∃ g c, xs[i * 2 + 1]? = some (.slice (some ⟨g, 0, none⟩) 40 c) ∧ Bs w (some ⟨g, 0, none⟩) l[i].2 ∧ l[i].2.length = 40 ∧ Bt w g
structure VerG (w : World) (lo X rx : Nat) (last : Int) (L : List (Int × Value)) (vs : Int → List (Int × List UInt8)) : Prop where
 x : w.heap[X]? = some (.cells #[.int .i64 258, .map (some rx), .int .i64 last] 270 (0, 0))
 m : MapAt w rx L
 row : ∀ b, 0 ≤ b → b < 258 → (getL L b = none ∧ vs b = []) ∨ ∃ v, getL L b = some v ∧ VRow w lo v (vs b) ∧ vs b ≠ []
 small : ∀ b, (vs b).length ≤ 1000000
theorem VRow.keep {w w' : World} {T : List Nat} {lo : Nat} {v : Value} {l : List (Int × List UInt8)} (h : VRow w lo v l) (hc : Chg T w w') (hT : Av w T [5]) (hv : ∀ g, v.ownBlock = some g → g ∉ T) : VRow w' lo v l := by
 obtain ⟨xs, ho, hx⟩ := h
 refine ⟨xs, ?_, fun i hi => ?_⟩
 ·refine ⟨ho.1, ?_⟩
  rcases ho.2 with hn | ⟨g, cap, cur, rfl, hb, hg, rest⟩
  ·exact Or.inl hn
  ·exact Or.inr ⟨g, cap, cur, rfl, hb, hc.heap hg (hv g rfl), rest⟩
 ·obtain ⟨h0, g, c, h1, h2, h3, cs, h4⟩ := hx i hi
  have hg : g ∉ T := hT.ne h4 (by simp)
  exact ⟨h0, g, c, h1, h2.chgT hc hg, h3, cs, hc.heap h4 hg⟩
theorem VRow.block {w : World} {lo : Nat} {v : Value} {l : List (Int × List UInt8)} (h : VRow w lo v l) : ∀ g, v.ownBlock = some g → ∃ cs, w.heap[g]? = some (.cells cs 288 (0, 0)) := by
 intro g hg
 obtain ⟨xs, ho, -⟩ := h
 exact (own_elem ho hg).2
theorem VerG.keepA {w w' : World} {T : List Nat} {lo X rx : Nat} {last : Int} {L : List (Int × Value)} {vs : Int → List (Int × List UInt8)} (h : VerG w lo X rx last L vs) (hc : Chg T w w') (hT : Av w T [270, 288, 5]) (hm : rx ∉ T) : VerG w' lo X rx last L vs := by
 refine ⟨hc.heap h.x (hT.ne h.x (by simp)), h.m.keep hc hm, fun b h0 h1 => ?_, h.small⟩
 rcases h.row b h0 h1 with hn | ⟨v, h2, h3, h4⟩
 ·exact Or.inl hn
 ·refine Or.inr ⟨v, h2, h3.keep hc (fun x hx cs t fr hh ht => hT x hx cs t fr hh (by simp at ht; simp [ht])) (fun g hg => ?_), h4⟩
  obtain ⟨cs, hb⟩ := h3.block g hg
  exact hT.ne hb (by simp)
theorem VerG.keep {w w' : World} {lo X rx : Nat} {last : Int} {L : List (Int × Value)} {vs : Int → List (Int × List UInt8)} (h : VerG w lo X rx last L vs) (hc : Chg [] w w') : VerG w' lo X rx last L vs := h.keepA hc (Av.nil _ _) (by simp)
theorem VerAt.full {w : World} {X rx : Nat} (h : VerAt w X rx) (lo : Nat) : VerG w lo X rx 0 [] (fun _ => []) := ⟨h.1, h.2, fun _ _ _ => Or.inl ⟨rfl, rfl⟩, fun _ => by simp⟩
def verT (l : List (Int × List UInt8)) (t : Int) : Option (Int × List UInt8) := l.reverse.find? (fun p => decide (p.1 ≤ t))
def bytT (l : List (Int × List UInt8)) (t : Int) : List UInt8 := ((verT l t).map Prod.snd).getD zeroB
set_option maxRecDepth 100000 in
theorem gblocks_any (w : World) {lo X rx : Nat} {last : Int} {L : List (Int × Value)} {vs : Int → List (Int × List UInt8)} (h : VerG w lo X rx last L vs) : Calls Tryz.prog 116 #[.pointer (some ⟨X, 0, none⟩)] w fun e w' => e = .returned (.int .i64 258) ∧ w = w' := by
 have c0 : w.cell? ⟨X, 0, none⟩ = some (.int .i64 258) := cell_is h.x 0 rfl
 clear h
 go_enter Tryz.func116, Tryz.ntmps116
 go_wp2_with fail
 go_ret
 exact ⟨rfl, rfl⟩
set_option maxRecDepth 100000 in
theorem gblock_any (w : World) {lo X rx : Nat} {last : Int} {L : List (Int × Value)} {vs : Int → List (Int × List UInt8)} {b : Int} (h : VerG w lo X rx last L vs) (h0 : 0 ≤ b) (h1 : b < 258) : Calls Tryz.prog 198 #[.pointer (some ⟨X, 0, none⟩), .int .i64 b] w fun e w' => e = .returned (.bool true) ∧ w = w' := by
 have HB := Lib.hid (gblocks_any w h)
 clear h
 go_enter Tryz.func198, Tryz.ntmps198
 go_wp2_with fail
 refine HB.out.mono ?_
 rintro e w1 ⟨rfl, rfl⟩
 go_wp2_with fail
 go_ret
 exact ⟨by simp, rfl⟩
set_option maxRecDepth 100000 in
set_option maxHeartbeats 1000000 in
theorem gwithin_one (w : World) {lo X rx : Nat} {last : Int} {L : List (Int × Value)} {vs : Int → List (Int × List UInt8)} {b : Int} (h : VerG w lo X rx last L vs) (h0 : 0 ≤ b) (h1 : b < 258) : Calls Tryz.prog 243 #[.pointer (some ⟨X, 0, none⟩), .agg #[.int .i64 b, .int .i64 1]] w fun e w' => e = .returned (.bool true) ∧ Chg [] w w' := by
 have kc : Chg [] w (w.alloc (.cells #[.int .i64 b, .int .i64 1] 79)) := Chg.alloc w _
 have h2 : VerG (w.alloc (.cells #[.int .i64 b, .int .i64 1] 79)) lo X rx last L vs := h.keep kc
 have a0 : (w.alloc (.cells #[.int .i64 b, .int .i64 1] 79)).cell? ⟨w.heap.size, 0, none⟩ = some (.int .i64 b) := cell_is (heap_new w _) 0 rfl
 have a1 : (w.alloc (.cells #[.int .i64 b, .int .i64 1] 79)).cell? ⟨w.heap.size, 1, none⟩ = some (.int .i64 1) := cell_is (heap_new w _) 1 rfl
 have n0 : decide (0 ≤ b) = true := decide_eq_true h0
 clear h
 go_enter Tryz.func243, Tryz.ntmps243
 go_wp2_with fail
 generalize w.alloc (.cells #[.int .i64 b, .int .i64 1] 79) = w1 at *
 generalize w.heap.size = z at *
 have h3 : VerG w1.drew lo X rx last L vs := h2.keep (Chg.refl [] w1).drew
 go_region_held3 (fun wx => wx.cell? ⟨z, 0, none⟩ = some (.int .i64 b) ∧ wx.cell? ⟨z, 1, none⟩ = some (.int .i64 1)) (first | (exact ⟨a0, a1⟩))
  (first | (go_at_call 116; refine (gblocks_any w1.drew h3).mono ?_; rintro e w2 ⟨rfl, rfl⟩))
 all_goals
  go_wp2_with fail
  go_ret
  exact ⟨by simp [show IntKind.i64.wrap 257 = 257 by decide]; omega, kc.drew⟩
theorem lookup258g {w : World} {r : Nat} {L : List (Int × Value)} (hM : MapAt w r L) (k : Int) :
  (Instr.lookup 268 (.map (some r)) (.int .i64 k) false).run Tryz.prog w = .ok ((getL L k).getD (.slice none 0 0)) w := lookup258 hM k false
set_option maxRecDepth 100000 in
set_option maxHeartbeats 1000000 in
theorem gat_any (w : World) {lo X rx : Nat} {last : Int} {L : List (Int × Value)} {vs : Int → List (Int × List UInt8)} {b t : Int} (h : VerG w lo X rx last L vs) (h0 : 0 ≤ b) (h1 : b < 258) : Calls Tryz.prog 200 #[.pointer (some ⟨X, 0, none⟩), .int .i64 b, .int .i64 t] w fun e w' =>
  w = w' ∧ ((e = .returned (.int .i64 (-1)) ∧ verT (vs b) t = none) ∨ ∃ k : Nat, e = .returned (.int .i64 k) ∧ ∃ hk : k < (vs b).length, verT (vs b) t = some (vs b)[k]) := by
 have c1 : w.cell? ⟨X, 1, none⟩ = some (.map (some rx)) := cell_is h.x 1 rfl
 have hl := lookup258g h.m b
 have hrow : ∃ pa c xs, (getL L b).getD (.slice none 0 0) = .slice pa (vs b).length c ∧ (vs b).length ≤ c ∧ w.ownsRow lo 288 2 (.slice pa (vs b).length c) (vs b).length xs ∧ ∀ i (h : i < (vs b).length), xs[i * 2]? = some (.int .i64 (vs b)[i].1) := by
  rcases h.row b h0 h1 with ⟨e1, e2⟩ | ⟨v, e1, ⟨xs, ho, hx⟩, -⟩
  ·rw [e1, e2]
   exact ⟨none, 0, [], rfl, Nat.le_refl _, World.ownsRow_nil _ _ _ _, fun i h => by simp at h⟩
  ·obtain ⟨pa, c, rfl, hc⟩ := own_form ho
   rw [e1]
   exact ⟨pa, c, xs, rfl, hc, ho, fun i hi => (hx i hi).1⟩
 have hsm := h.small b
 obtain ⟨pa, c, xs, e1, hcap, ho, hx⟩ := hrow
 rw [e1] at hl
 clear h e1
 have HO := Lib.hid ho
 have HX := Lib.hid hx
 clear ho hx
 generalize vs b = l at *
 go_enter Tryz.func200, Tryz.ntmps200
 go_wp2_with fail
 go_step3
 go_wp2_with fail
 go_step3
 go_wp2_with fail
 go_loop [8] (fun i => ∃ k : Nat, k ≤ l.length ∧ i = .int .i64 ((k : Int) - 1) ∧ verT (l.take k) t = verT l t) (fun i => (intOf i + 1).toNat)
 case atStart => exact ⟨l.length, Nat.le_refl _, rfl, by rw [List.take_length]⟩
 case round =>
  obtain ⟨k, hk, rfl, hv⟩ := hrel
  by_cases hk0 : k = 0
  ·subst hk0
   have e1 : ((0 : Nat) : Int) - 1 = -1 := rfl
   rw [e1]
   go_wp2_with fail
   go_ret
   exact ⟨rfl, Or.inl ⟨rfl, by rw [← hv]; rfl⟩⟩
  ·obtain ⟨j, rfl⟩ : ∃ j, k = j + 1 := ⟨k - 1, by omega⟩
   have hj : j < l.length := by omega
   have e1 : ((j + 1 : Nat) : Int) - 1 = j := by omega
   rw [e1]
   have hkn : ¬ l.length = 0 := by omega
   obtain ⟨g, cap, cur, hcur, hpa, hcells⟩ : ∃ g cap cur, w.heap[g]? = some (.cells cur 288 (0, 0)) ∧ Value.slice pa l.length c = .slice (some ⟨g, 0, none⟩) l.length cap ∧ w.cell? ⟨g, j * 2, none⟩ = some (.int .i64 l[j].1) := by
    rcases HO.out.2 with ⟨_, h0⟩ | ⟨g, cap, cur, e, hA, hg, hc1, hc2, hc3, ht⟩
    ·exact absurd h0 hkn
    ·refine ⟨g, cap, cur, hg, e, cell_is hg (j * 2) ?_⟩
     have h1 := HX.out j hj
     rw [← ht] at h1
     rw [List.getElem?_take_of_lt (by omega), Array.getElem?_toList] at h1
     exact h1
   cases hpa
   have hs : verT (l.take (j + 1)) t = if l[j].1 ≤ t then some l[j] else verT (l.take j) t := by
    unfold verT
    rw [List.take_succ_eq_append_getElem hj, List.reverse_append]
    by_cases hle : l[j].1 ≤ t
    ·simp [hle]
    ·simp [hle]
   rw [hv] at hs
   have HS := Lib.hid hs
   clear hs hv
   by_cases hle : l[j].1 ≤ t
   ·have e2 : decide (l[j].1 ≤ t) = true := decide_eq_true hle
    have HR := Lib.hid (show verT l t = some l[j] by rw [HS.out, if_pos hle])
    clear hle HS
    generalize hlj : l[j].1 = tj at *
    go_wp2_with fail
    go_ret
    exact ⟨rfl, Or.inr ⟨j, rfl, hj, HR.out⟩⟩
   ·have e2 : decide (l[j].1 ≤ t) = false := decide_eq_false hle
    have HR := Lib.hid (show verT l t = verT (l.take j) t by rw [HS.out, if_neg hle])
    clear hle HS
    generalize hlj : l[j].1 = tj at *
    go_wp2_with fail
    go_round
    case rel => exact ⟨j, by omega, by simp, HR.out.symm⟩
    case measure => simp [intOf]
theorem VRow.get {w : World} {lo : Nat} {v : Value} {l : List (Int × List UInt8)} (h : VRow w lo v l) (k : Nat) (hk : k < l.length) : ∃ g cap gd cd, v = .slice (some ⟨g, 0, none⟩) l.length cap ∧ l.length ≤ cap ∧
  w.cell? ⟨g, k * 2, none⟩ = some (.int .i64 l[k].1) ∧ w.cell? ⟨g, k * 2 + 1, none⟩ = some (.slice (some ⟨gd, 0, none⟩) 40 cd) ∧ Bs w (some ⟨gd, 0, none⟩) l[k].2 ∧ l[k].2.length = 40 ∧ Bt w gd := by
 obtain ⟨xs, ho, hx⟩ := h
 obtain ⟨h0, gd, cd, h1, h2, h3, h4⟩ := hx k hk
 rcases ho.2 with ⟨_, e⟩ | ⟨g, cap, cur, rfl, hA, hg, hc1, hc2, hc3, ht⟩
 ·omega
 ·refine ⟨g, cap, gd, cd, rfl, hc1, cell_is hg _ ?_, cell_is hg _ ?_, h2, h3, h4⟩
  ·rw [← ht, List.getElem?_take_of_lt (by omega), Array.getElem?_toList] at h0
   exact h0
  ·rw [← ht, List.getElem?_take_of_lt (by omega), Array.getElem?_toList] at h1
   exact h1
set_option maxRecDepth 100000 in
set_option maxHeartbeats 2000000 in
theorem gget_any (w : World) {lo X rx : Nat} {last : Int} {L : List (Int × Value)} {vs : Int → List (Int × List UInt8)} {b t : Int} (h : VerG w lo X rx last L vs) (h0 : 0 ≤ b) (h1 : b < 258) : Calls Tryz.prog 244 #[.pointer (some ⟨X, 0, none⟩), .int .i64 b, .int .i64 t] w fun e w' =>
  ∃ g c tm, e = .returned (.tuple #[.slice (some ⟨g, 0, none⟩) 40 c, .int .i64 tm]) ∧ Chg [] w w' ∧ Bs w' (some ⟨g, 0, none⟩) (bytT (vs b) t) ∧ w.heap.size ≤ g ∧ (bytT (vs b) t).length = 40 := by
 have hmk := make40
 have HB := Lib.hid (gblock_any w h h0 h1)
 have HA := Lib.hid (gat_any w (b := b) (t := t) h h0 h1)
 have kc : Chg [] w (w.alloc (.cells zero40 5)) := Chg.alloc w _
 have hz : Bs (w.alloc (.cells zero40 5)) (some ⟨w.heap.size, 0, none⟩) zeroB := by
  rw [zero40_is]
  exact Bs.row (heap_new w _)
 have c1 : w.cell? ⟨X, 1, none⟩ = some (.map (some rx)) := cell_is h.x 1 rfl
 have HL := Lib.hid (lookup258g h.m b)
 have HR := Lib.hid (h.row b h0 h1)
 have hsm := h.small b
 clear h
 go_enter Tryz.func244, Tryz.ntmps244
 go_wp2_with fail
 refine HB.out.mono ?_
 rintro e w1 ⟨rfl, rfl⟩
 go_wp2_with fail
 refine HA.out.mono ?_
 rintro e w1 ⟨rfl, ⟨rfl, hv⟩ | ⟨k, rfl, hk, hv⟩⟩
 ·have hy : bytT (vs b) t = zeroB := by unfold bytT; rw [hv]; rfl
  go_wp2_with fail
  go_ret2
  exact ⟨_, _, _, rfl, kc, by rw [hy]; exact hz, Nat.le_refl _, by rw [hy]; rfl⟩
 ·have hy : bytT (vs b) t = (vs b)[k].2 := by unfold bytT; rw [hv]; rfl
  rcases HR.out with ⟨_, e⟩ | ⟨v, e1, hr, _⟩
  ·rw [e] at hk; simp at hk
  ·obtain ⟨g, cap, gd, cd, rfl, hcap, d0, d1, hb2, hl2, -⟩ := hr.get k hk
   have hl := HL.out
   rw [e1, Option.getD_some] at hl
   have HB2 := Lib.hid hb2
   have HL2 := Lib.hid hl2
   have HY := Lib.hid hy
   have hkk : (k : Int) < (vs b).length := by omega
   clear kc hz hb2 hl2 hy hr e1 hv
   generalize hj : (vs b)[k].1 = tj at *
   go_wp2_with fail
   have ka : Chg [] w (w.alloc (.cells #[.int .i64 tj, .slice (some ⟨gd, 0, none⟩) 40 cd] 288)) := Chg.alloc w _
   have za := heap_new w (.cells #[.int .i64 tj, .slice (some ⟨gd, 0, none⟩) 40 cd] 288)
   have HB3 := Lib.hid ((HB2.out.chg ka).chg (Chg.refl [] _).drew)
   generalize w.alloc (.cells #[.int .i64 tj, .slice (some ⟨gd, 0, none⟩) 40 cd] 288) = w2 at *
   generalize hzz : w.heap.size = z at *
   have e0 : w2.cell? ⟨z, 0, none⟩ = some (.int .i64 tj) := cell_is za 0 rfl
   have e1 : w2.cell? ⟨z, 1, none⟩ = some (.slice (some ⟨gd, 0, none⟩) 40 cd) := cell_is za 1 rfl
   go_region_held3 (fun wx => wx.cell? ⟨z, 0, none⟩ = some (.int .i64 tj) ∧ wx.cell? ⟨z, 1, none⟩ = some (.slice (some ⟨gd, 0, none⟩) 40 cd)) (first | (with_reducible exact ⟨f0, f1⟩) | (exact ⟨e0, e1⟩))
    (first | (go_at_call 126; refine (clone_bs w2.drew HL2.out (by decide) (by decide) HB3.out).mono ?_; rintro e w6 ⟨g6, c6, rfl, k6, b6, l6⟩; have f0 := k6.cell (show w2.drew.cell? ⟨z, 0, none⟩ = _ from e0) (by simp); have f1 := k6.cell (show w2.drew.cell? ⟨z, 1, none⟩ = _ from e1) (by simp)))
   all_goals
    have hsz := ka.size
    have hd : w2.drew.heap.size = w2.heap.size := rfl
    go_wp2_with fail
    go_ret2
    exact ⟨g6, c6, tj, rfl, ka.drew.then k6, by rw [HY.out]; exact b6, by omega, by rw [HY.out]; exact HL2.out⟩
set_option maxRecDepth 100000 in
set_option maxHeartbeats 1000000 in
theorem grange_one (w : World) {lo X rx : Nat} {last : Int} {L : List (Int × Value)} {vs : Int → List (Int × List UInt8)} {b t : Int} (h : VerG w lo X rx last L vs) (h0 : 0 ≤ b) (h1 : b < 258) : Calls Tryz.prog 215 #[.pointer (some ⟨X, 0, none⟩), .agg #[.int .i64 b, .int .i64 1], .int .i64 t] w fun e w' =>
  ∃ g c', e = .returned (.tuple #[.slice (some ⟨g, 0, none⟩) 40 c', .int .i64 0]) ∧ 40 ≤ c' ∧ Chg [] w w' ∧ w'.ownsRow w.heap.size 5 1 (.slice (some ⟨g, 0, none⟩) 40 c') 40 (Lib.byteCells (bytT (vs b) t)) ∧ (bytT (vs b) t).length = 40 := by
 have kc : Chg [] w (w.alloc (.cells #[.int .i64 b, .int .i64 1] 79)) := Chg.alloc w _
 have h2 : VerG (w.alloc (.cells #[.int .i64 b, .int .i64 1] 79)) lo X rx last L vs := h.keep kc
 have a0 : (w.alloc (.cells #[.int .i64 b, .int .i64 1] 79)).cell? ⟨w.heap.size, 0, none⟩ = some (.int .i64 b) := cell_is (heap_new w _) 0 rfl
 have a1 : (w.alloc (.cells #[.int .i64 b, .int .i64 1] 79)).cell? ⟨w.heap.size, 1, none⟩ = some (.int .i64 1) := cell_is (heap_new w _) 1 rfl
 clear h
 go_enter Tryz.func215, Tryz.ntmps215
 go_wp2_with fail
 generalize w.alloc (.cells #[.int .i64 b, .int .i64 1] 79) = w1 at *
 generalize hz : w.heap.size = z at *
 refine (gwithin_one w1 h2 h0 h1).mono ?_
 rintro e w2 ⟨rfl, k2⟩
 have h3 : VerG w2 lo X rx last L vs := h2.keep k2
 have b0 := k2.cell a0 (by simp)
 have b1 := k2.cell a1 (by simp)
 have kk := kc.then k2
 have hs2 := kk.size
 clear h2 a0 a1 kc k2
 go_wp2_with fail
 go_loopw [6, 17] (fun v i wr => (i = .int .i64 0 ∧ v = .slice none 0 0 ∧ wr = w2) ∨ (i = .int .i64 1 ∧ Chg [] w wr ∧ wr.ownsRow z 5 1 v 40 (Lib.byteCells (bytT (vs b) t)) ∧ (bytT (vs b) t).length = 40)) (fun _ i _ => 1 - (intOf i).toNat)
 case atStart => exact Or.inl ⟨rfl, rfl, rfl⟩
 case round =>
  rcases hrel with ⟨rfl, rfl, rfl⟩ | ⟨rfl, k5, ho, hl⟩
  ·go_wp2_with fail
   refine (gget_any wr (t := t) h3 h0 h1).mono ?_
   rintro e w3 ⟨g, cg, tm, rfl, k3, hb3, l3, hlen⟩
   have hs3 : z ≤ w3.heap.size := Nat.le_trans (by omega) k3.size
   have HB3 := Lib.hid hb3
   have HLn := Lib.hid hlen
   clear hb3 hlen
   go_wp2_with (at_builtin; refine wpList_append_bs rfl (.tmp 30) (.tmp 31) 47 5 rfl ty23 inf5c z _ 0 [] rfl (World.ownsRow_nil _ _ _ _) _ 40 cg (bytT (vs b) t) rfl HLn.out HB3.out (by omega) hs3 ?_; intro v1 w4 h4)
   go_roundw
   case rel => exact Or.inr ⟨rfl, Chg.of_below ((kk.then k3).below0.trans (by rw [hz]; exact h4.2.1)), by simpa using h4.1, HLn.out⟩
   case measure => decide
  ·go_wp2_with fail
   go_ret2
   rcases ho.2 with ⟨e, h0⟩ | ⟨g, cap, cur, e, hA, hr⟩
   ·cases h0
   ·subst hz
    refine ⟨g, cap, by rw [e]; rfl, ?_, k5, by rw [← e]; exact ho, hl⟩
    have := own_form ho
    obtain ⟨pa, c, h5, h6⟩ := this
    rw [e] at h5
    cases h5
    exact h6
def ViewT (w : World) (Q X W V : Nat) (t : Int) (v : Value) : Prop := w.heap[Q]? = some (.cells #[.pointer (some ⟨X, 0, none⟩), .pointer (some ⟨W, 0, none⟩), .int .i64 t, .pointer (some ⟨V, 0, none⟩), v] 274 (0, 0))
def VwT (w : World) (base Q X W V : Nat) (t : Int) (n : Nat) : Prop := ∃ s m xs, ViewT w Q X W V t s ∧ m ≤ 17 * n + 100000 ∧ w.ownsRow base 255 3 s m xs
theorem VwT.keep {w w' : World} {S : List Nat} {base Q X W V n : Nat} {t : Int} (h : VwT w base Q X W V t n) (hc : Chg S w w') (hS : Av w S [274, 255]) : VwT w' base Q X W V t n := by
 obtain ⟨s, m, xs, h1, h2, h3⟩ := h
 refine ⟨s, m, xs, hc.heap h1 (hS.ne h1 (by simp)), h2, h3.1, ?_⟩
 rcases h3.2 with hn | ⟨g, cap, cur, hv, hb, hg, rest⟩
 ·exact Or.inl hn
 ·exact Or.inr ⟨g, cap, cur, hv, hb, hc.heap hg (hS.ne hg (by simp)), rest⟩
def BlkT (w : World) (L : List (Int × Value)) (vb : List (Int × List UInt8)) (t b : Int) (l : List UInt8) : Prop := (getL L b = none ∧ l = bytT vb t) ∨ ∃ g c, getL L b = some (.slice (some ⟨g, 0, none⟩) 40 c) ∧ Bs w (some ⟨g, 0, none⟩) l ∧ l.length = 40 ∧ Bt w g
theorem BlkT.keepT {w w' : World} {T : List Nat} {base : Nat} {L : List (Int × Value)} {vb : List (Int × List UInt8)} {t b : Int} {l : List UInt8} (h : BlkT w L vb t b l) (hc : Chg T w w') (hT : Rt w base T) : BlkT w' L vb t b l := by
 rcases h with h | ⟨g, c, h1, h2, h3, cs, hcs⟩
 ·exact Or.inl h
 ·have hg := hT.cells hcs (by simp)
  exact Or.inr ⟨g, c, h1, h2.chgT hc hg, h3, cs, hc.heap hcs hg⟩
theorem BlkT.keep {w w' : World} {L : List (Int × Value)} {vb : List (Int × List UInt8)} {t b : Int} {l : List UInt8} (h : BlkT w L vb t b l) (hc : Chg [] w w') : BlkT w' L vb t b l := h.keepT hc (Rt.nil w 0)
set_option maxRecDepth 100000 in
theorem inewm_any (w : World) (k : Nat) : Calls Tryz.prog 181 #[.int .i64 k] w fun e w' => ∃ V, e = .returned (.pointer (some ⟨V, 0, none⟩)) ∧ Chg [] w w' ∧ SpW w' w.heap.size V k 0 ∧ w.heap.size ≤ V := by
 have h1 := heap_new w (.cells #[.int .i64 k, .slice none 0 0] 305)
 have hc : Chg [] w (w.alloc (.cells #[.int .i64 k, .slice none 0 0] 305)) := Chg.alloc w _
 go_enter Tryz.func181, Tryz.ntmps181
 go_wp2_with fail
 go_ret
 exact ⟨_, rfl, hc, ⟨_, [], h1, Nat.le_refl _, World.ownsRow_nil _ _ _ _⟩, Nat.le_refl _⟩
set_option maxRecDepth 100000 in
set_option maxHeartbeats 1000000 in
theorem clonesp_any (w : World) {pa : Option Addr} {m c : Nat} {l : List (Int × Int)} (hl : l.length = m) (hm : m ≤ 1000) (hs : SpQ w pa l) (hn0 : pa = none → m = 0 ∧ c = 0) : Calls Tryz.prog 250 #[.slice pa m c] w fun e w' => ∃ pb cb, e = .returned (.slice pb m cb) ∧ Chg [] w w' ∧ SpQ w' pb l := by
 rcases hs with ⟨rfl, rfl⟩ | ⟨b, o, rfl, hs⟩
 ·obtain ⟨rfl, rfl⟩ := hn0 rfl
  have hq : ∀ w, (binOp .eql 175 (.slice none 0 0) (.slice none 0 0)).run Tryz.prog w = .ok (.bool true) w := fun w => by kernel_rfl
  go_enter Tryz.func250, Tryz.ntmps250
  go_wp2_with fail
  go_ret
  first | exact ⟨none, 0, rfl, Chg.refl _ _, Or.inl ⟨rfl, rfl⟩⟩ | exact ⟨none, ⟨0, rfl⟩, Chg.refl _ _, Or.inl ⟨rfl, rfl⟩⟩ | exact ⟨Chg.refl _ _, Or.inl ⟨rfl, rfl⟩⟩
 ·have hq : ∀ w, (binOp .eql 175 (.slice (some ⟨b, o, none⟩) m c) (.slice none 0 0)).run Tryz.prog w = .ok (.bool false) w := fun w => Lib.run_eql_slice_nil w 175 79 _ _ _ 0 0 ty217
  have HB := Lib.hid (show SpQ w (some ⟨b, o, none⟩) l from Or.inr ⟨b, o, rfl, hs⟩)
  have HL := Lib.hid hl
  clear hs hl
  go_enter Tryz.func250, Tryz.ntmps250
  go_wp2_with (first | (at_builtin; refine wpList_append_spq rfl (.tmp 5) (.tmp 6) rfl w.heap.size _ 0 [] l rfl (own_empty2 w) (some ⟨b, o, none⟩) m c rfl HL.out (HB.out.keep (Chg.alloc w _)) (by omega) (by simp) ?_; intro v1 w1 h1))
  go_ret
  have h2 : w1.ownsRow w.heap.size 79 2 v1 l.length (spCells l) := by simpa [HL.out] using h1.1
  obtain ⟨pb, cb, rfl, hq⟩ := own_spq h2
  exact ⟨pb, cb, by show Ending.returned (.slice pb l.length cb) = _; rw [HL.out], Chg.of_below ((Below.of_alloc w _).trans h1.2.1), hq⟩
set_option maxRecDepth 100000 in
theorem extents_any (w : World) {base V most n : Nat} (h : SpW w base V most n) (hn : n ≤ 1000) : Calls Tryz.prog 226 #[.pointer (some ⟨V, 0, none⟩)] w fun e w' => ∃ pb m cb l, e = .returned (.slice pb m cb) ∧ Chg [] w w' ∧ SpQ w' pb l ∧ l.length = m ∧ m ≤ n := by
 obtain ⟨v, l, hV, hl, ho⟩ := h
 obtain ⟨pa, c, rfl, hq⟩ := own_spq ho
 have v1 : w.cell? ⟨V, 1, none⟩ = some (.slice pa l.length c) := cell_is hV 1 rfl
 have h0 : pa = none → l.length = 0 ∧ c = 0 := by
  rintro rfl
  rcases ho.2 with ⟨e, h0⟩ | ⟨g, cap, cur, e, _⟩
  ·injection e with _ _ e3; exact ⟨h0, e3⟩
  ·injection e with e1; cases e1
 have HC := Lib.hid (clonesp_any w (c := c) rfl (by omega) hq h0)
 clear hV ho hq h0
 go_enter Tryz.func226, Tryz.ntmps226
 go_wp2_with fail
 refine HC.out.mono ?_
 rintro e w1 ⟨pb, cb, rfl, k, hq⟩
 go_wp2_with fail
 go_ret
 exact ⟨pb, l.length, cb, l, rfl, k, hq, rfl, hl⟩
def isI (e : Ending) : Prop := ∃ r : Int, e = .returned (.int .i64 r)
set_option maxRecDepth 100000 in
set_option maxHeartbeats 1000000 in
theorem count_any (w : World) {base V most n : Nat} (h : SpW w base V most n) (hn : n ≤ 1000) : Calls Tryz.prog 225 #[.pointer (some ⟨V, 0, none⟩)] w fun e w' => isI e ∧ Chg [] w w' := by
 have HE := Lib.hid (extents_any w h hn)
 clear h
 go_enter Tryz.func225, Tryz.ntmps225
 go_wp2_with fail
 refine HE.out.mono ?_
 rintro e w1 ⟨pb, m, cb, l, rfl, k1, hq, hl, hm⟩
 have HQ := Lib.hid hq
 clear hq
 go_wp2_with fail
 go_loopw [2, 4, 8] (fun s _ i wr => ∃ (j : Nat) (r : Int), j ≤ m ∧ i = .int .i64 j ∧ s = .int .i64 r ∧ Chg [] w1 wr) (fun _ _ i _ => m - (intOf i).toNat)
 case atStart => exact ⟨0, 0, by omega, rfl, rfl, Chg.refl _ _⟩
 case round =>
  obtain ⟨j, r, hj, rfl, rfl, kr⟩ := hrel
  by_cases hlt : j < m
  ·obtain ⟨b, o, rfl, c0, c1⟩ := (HQ.out.keep kr).get j (by omega)
   generalize (l[j]'(by omega)).1 = x at *
   generalize (l[j]'(by omega)).2 = y at *
   go_wp2_with fail
   go_roundw
   case rel => exact ⟨j + 1, _, by omega, by simp, rfl, kr.then_alloc _⟩
   case measure => simp [intOf]; omega
  ·obtain rfl : j = m := by omega
   go_wp2_with fail
   go_ret
   exact ⟨⟨_, rfl⟩, k1.then kr⟩
set_option maxRecDepth 100000 in
set_option maxHeartbeats 1000000 in
theorem vset_any (w : World) {base Q X W V n : Nat} {t : Int} (h : VwT w base Q X W V t n) (hs : SpV w base V n) (hn : n ≤ 16) : Calls Tryz.prog 189 #[.pointer (some ⟨Q, 0, none⟩)] w fun e w' => ∃ U lo, e = .returned (.pointer (some ⟨U, 0, none⟩)) ∧ Chg [] w w' ∧ SpW w' lo U 64 n ∧ w.heap.size ≤ U := by
 obtain ⟨s, m, xs, hq, -, -⟩ := h
 have HN := Lib.hid (inewm_any w 64)
 have hsz := heap_lt hq
 have HQ := Lib.hid hq
 have HS := Lib.hid hs.to
 clear hq hs
 go_enter Tryz.func189, Tryz.ntmps189
 go_wp2_with fail
 refine HN.out.mono ?_
 rintro e w1 ⟨U, rfl, k1, hU, lU⟩
 have q3 : w1.cell? ⟨Q, 3, none⟩ = some (.pointer (some ⟨V, 0, none⟩)) := cell_is (k1.heap HQ.out (by simp)) 3 rfl
 have hs1 := HS.out.keep0 k1
 have HU := Lib.hid hU
 clear hU
 go_wp2_with fail
 refine (extents_any w1 hs1 (by omega)).mono ?_
 rintro e w2 ⟨pb, m2, cb, l, rfl, k2, hq2, hl2, hm2⟩
 have hU2 := HU.out.keep0 k2
 go_wp2_with fail
 refine (iadd_any w2 (m := m2) hU2 (by omega) (by have := (k1.then k2).size; omega) hl2 hq2).mono ?_
 rintro e w3 ⟨r, rfl, k3, hU3⟩
 go_wp2_with fail
 go_ret
 refine ⟨U, w.heap.size, rfl, (k1.then k2).trans k3 (fun x hx hlt => by rw [List.mem_singleton] at hx; omega), ?_, lU⟩
 obtain ⟨v, l3, h1, h2, h3⟩ := hU3
 exact ⟨v, l3, h1, by omega, h3⟩
end Go.Proofs.YtelakcjbknbehaaGreat
namespace Go.Proofs.YtelakcjbknbehaaGreat
open Go.RowKit Go.Maps Go.Sort Go.Shelf

def delL : List (Int × Value) → Int → List (Int × Value)
 | [], _ => []
 | p :: l, k => if k = p.1 then l else p :: delL l k
theorem delL_none {L : List (Int × Value)} {k : Int} {i : Nat} (h : findL L k i = none) : delL L k = L := by
 induction L generalizing i with
 | nil => rfl
 | cons p l ih =>
  simp only [findL] at h
  split at h
  ·cases h
  ·rename_i hk
   simp only [delL, if_neg hk, ih h]
theorem delL_some {L : List (Int × Value)} {k : Int} {i : Nat} {x : Nat × Value} (h : findL L k i = some x) : delL L k = L.eraseIdx (x.1 - i) := by
 induction L generalizing i with
 | nil => cases h
 | cons p l ih =>
  simp only [findL] at h
  split at h
  ·rename_i hk
   injection h with h
   subst h
   simp [delL, hk]
  ·rename_i hk
   have h2 := findL_ge h
   have e : x.1 - i = (x.1 - (i + 1)) + 1 := by omega
   rw [e]
   simp only [delL, if_neg hk, ih h, List.eraseIdx_cons_succ]
theorem erase_map {α β : Type} (f : α → β) (l : List α) (i : Nat) : (l.eraseIdx i).map f = (l.map f).eraseIdx i := by
 induction l generalizing i with
 | nil => rfl
 | cons a l ih =>
  cases i with
  | zero => rfl
  | succ i => simp [ih]
theorem run_delete_im {P : Program} {w : World} {mty kt et : TypeId} (hm : P.underlying mty = some (.map kt et)) (hk : P.underlying kt = some (.int .i64)) {r : Nat} {L : List (Int × Value)} (hM : MapAt w r L) (k : Int) (ty : TypeId) :
  ∃ w', (Builtin.delete_ #[mty, kt] ty #[.map (some r), .int .i64 k]).run P w = .ok (.tuple #[]) w' ∧ MapAt w' r (delL L k) ∧ Chg [r] w w' ∧ w'.heap.size = w.heap.size := by
 obtain ⟨es, clock, hb, hI, hS⟩ := hM
 have hf := findNow_im .i64 k es.toList L hI 0
 have hc : ∀ e, (Instr.checkKey e 10000 kt (.int .i64 k)).run P w = .ok () w := fun e => MapKept.run_checkKey (k := .int .i64 k) hk (by simp [MapKept.IsKey]) e 9999
 cases hfl : findL L k 0 with
 | none =>
  rw [hfl] at hf
  refine ⟨mapSet w r (.map es clock), ?_, ⟨_, _, mapSet_heap hb, ?_, hS⟩, mapSet_chg _ _ _, by simp [mapSet]⟩
  ·simp [Builtin.delete_, run_underlying hm, MapKept.run_getObj_map hb, hc, MapKept.run_findKey hk hf, MapKept.run_setObj_map _ hb, Result.andThen, mapSet]
  ·rw [delL_none hfl]
   exact hI
 | some x =>
  rw [hfl] at hf
  obtain ⟨i, u⟩ := x
  refine ⟨mapSet w r (.map (es.eraseIdxIfInBounds i) clock), ?_, ⟨_, _, mapSet_heap hb, ?_, MapKept.stamped_erase hS i⟩, mapSet_chg _ _ _, by simp [mapSet]⟩
  ·simp [Builtin.delete_, run_underlying hm, MapKept.run_getObj_map hb, hc, MapKept.run_findKey hk hf, MapKept.run_setObj_map _ hb, Result.andThen, mapSet]
  ·rw [delL_some hfl]
   unfold IM at hI ⊢
   have e : (es.eraseIdxIfInBounds i).toList = es.toList.eraseIdx i := by
    unfold Array.eraseIdxIfInBounds
    split
    ·simp
    ·rename_i h
     rw [List.eraseIdx_of_length_le]
     simpa using h
   rw [e, Nat.sub_zero, erase_map, erase_map, hI]
def sortI (l : List Int) : List Int := l.mergeSort (fun x y => decide (x ≤ y))
theorem sortI_perm (l : List Int) : (sortI l).Perm l := List.mergeSort_perm l _
theorem sortI_length (l : List Int) : (sortI l).length = l.length := (sortI_perm l).length_eq
theorem owns_any {w : World} {r : Nat} {L : List (Int × Value)} (h : MapAt w r L) (k : TypeId) (hk : Tryz.prog.underlying k = some (.int .i64)) (hw : ∀ p ∈ L, (Lit.int .i64 p.1).wf = true) (hl : L.length ≤ maxLen) :
  ∃ D : DataW Unit, w.ownsMap Tryz.prog k (fun _ => some (.nil, [])) r L.length D ∧ (intKeys D).Perm (L.map Prod.fst) ∧ Maps.size D = L.length := by
 obtain ⟨es, clock, hb, hI, hS⟩ := h
 have hrd : ∀ x ∈ es.toList, ∃ a : Int, Go.WideElems.rd Tryz.prog k (fun _ => some ((.nil : DataW Unit), [])) x = some (.int .i64 a, .nil) ∧ x.key = .int .i64 a := by
  intro x hx
  have h1 : (x.key, x.val) ∈ es.toList.map (fun e => (e.key, e.val)) := List.mem_map.2 ⟨x, hx, rfl⟩
  rw [hI] at h1
  obtain ⟨p, hp, e⟩ := List.mem_map.1 h1
  have e1 : x.key = .int .i64 p.1 := (congrArg Prod.fst e).symm
  refine ⟨p.1, ?_, e1⟩
  unfold Go.WideElems.rd
  rw [e1, Go.Maps.keyOf_int_mk hk (hw p hp)]
  rfl
 have hlen : es.size = L.length := by
  have := congrArg List.length hI
  simpa using this
 have hmap : (es.toList.map (Go.WideElems.rg Tryz.prog k (fun _ => some ((.nil : DataW Unit), [])))).map (fun p => Go.intOf p.1) = L.map Prod.fst := by
  have e1 : (es.toList.map (Go.WideElems.rg Tryz.prog k (fun _ => some ((.nil : DataW Unit), [])))).map (fun p => Go.intOf p.1) = es.toList.map (fun x => match x.key with | .int _ a => a | _ => 0) := by
   rw [List.map_map]
   refine List.map_congr_left (fun x hx => ?_)
   obtain ⟨a, h1, h2⟩ := hrd x hx
   simp only [Function.comp, Go.WideElems.rg, h1, Option.getD_some, h2]
   rfl
  have e2 : es.toList.map (fun x => match x.key with | .int _ a => a | _ => 0) = (es.toList.map (fun e => (e.key, e.val))).map (fun p => match p.1 with | .int _ a => a | _ => 0) := by
   rw [List.map_map]; rfl
  rw [e1, e2, hI, List.map_map]
  rfl
 refine ⟨.map ((es.toList.map (Go.WideElems.rg Tryz.prog k (fun _ => some (.nil, [])))).foldr DataW.insert []), ⟨es, clock, hb, ⟨by omega, hS, fun x hx => ?_⟩, by omega, rfl⟩, ?_, ?_⟩
 ·obtain ⟨a, h1, _⟩ := hrd x hx
  exact ⟨_, h1⟩
 ·rw [← hmap]
  exact (Go.WideShapes.sorted_perm _).map _
 ·rw [Maps.size_eq, (Go.WideShapes.sorted_perm _).length_eq, List.length_map, Array.length_toList, hlen]
set_option maxRecDepth 100000 in
theorem sortedA_any (W : World) {r : Nat} {L : List (Int × Value)} (h : MapAt W r L) (hw : ∀ p ∈ L, (Lit.int .i64 p.1).wf = true) (hl : L.length ≤ 100000) :
  Calls Tryz.prog 163 #[.func (.func 212) #[] #[.pointer (some ⟨W.heap.size, 0, none⟩)]] (W.alloc (.cells #[.map (some r)] 149)) fun e w' => ∃ v, e = .returned v ∧ w'.ownsRow W.heap.size 3 1 v L.length ((sortI (L.map Prod.fst)).map encZ) ∧ Chg [] W w' := by
 obtain ⟨D, hown, hp, hsz⟩ := owns_any (h.keep (Chg.alloc (S := []) W (.cells #[.map (some r)] 149)) (by simp)) 3 (by kernel_rfl) hw (by unfold maxLen; omega)
 have hseq : SeqGives Fence.wide 2 Tryz.prog 212 #[.pointer (some ⟨W.heap.size, 0, none⟩)] encZ (fun ss => ss.Perm (intKeys D)) (Maps.size D) (W.alloc (.cells #[.map (some r)] 149)) :=
  AnyZI.keys_gives (ρ := Tryz.keysA_ren) { Tryz.keysA with } Fence.wide _ trivial rfl (by omega) W.heap.size r L.length D _ (by simp) (by simp) hown
 have cS := AnyZI.sorted_in Tryz.sortedA Fence.wide 5 trivial trivial trivial trivial rfl (by omega) (sorts_all _) (enters_of Tryz.func211 (by kernel_rfl) rfl) 212 #[.pointer (some ⟨W.heap.size, 0, none⟩)] trivial (enters_of Tryz.func212 (by kernel_rfl) rfl) _ (Maps.size D) (by rw [hsz]; unfold maxLen; omega) (by rw [hsz]; omega) _ hseq
 refine (callsIn_wide.1 cS).mono ?_
 rintro e w' ⟨v, ss, rfl, hS, hrow, hnil, hbl⟩
 have hs : ss.mergeSort (fun x y => decide (x ≤ y)) = sortI (L.map Prod.fst) := mergeSort_of_perm_i (hS.trans hp)
 have hsl : ss.length = L.length := by rw [(hS.trans hp).length_eq, List.length_map]
 rw [hs, hsl] at hrow
 exact ⟨v, rfl, own_base hrow (by simp), (Chg.alloc W _).then (Chg.of_below hbl)⟩
end Go.Proofs.YtelakcjbknbehaaGreat
namespace Go.Proofs.YtelakcjbknbehaaGreat
open Go.RowKit Go.Lib

theorem wf_i64 {x : Int} (h0 : -9223372036854775808 ≤ x) (h1 : x ≤ 9223372036854775807) : (Lit.int .i64 x).wf = true := by
 have e1 : IntKind.i64.min = -9223372036854775808 := by decide
 have e2 : IntKind.i64.max = 9223372036854775807 := by decide
 simp only [Lit.wf, e1, e2, Bool.and_eq_true, decide_eq_true_eq]
 omega
theorem ty69 : Tryz.prog.underlying 85 = some (.slice 50) := by kernel_rfl
theorem inf92 : (Tryz.prog.info? 50).map (fun i => (i.zero, i.size, i.bytes)) = some (some (.agg #[.int .i64 0, .slice none 0 0]), 2, 32) := by kernel_rfl
def PutsAt (w : World) (base : Nat) (v : Value) (l : List (Int × List UInt8)) : Prop :=
 ∃ xs, w.ownsRow base 50 2 v l.length xs ∧ ∀ i (h : i < l.length), xs[i * 2]? = some (.int .i64 l[i].1) ∧ ∃ g c, xs[i * 2 + 1]? = some (.slice (some ⟨g, 0, none⟩) 40 c) ∧ Bs w (some ⟨g, 0, none⟩) l[i].2 ∧ l[i].2.length = 40 ∧ Bt w g
theorem PutsAt.nil (w : World) (base : Nat) : PutsAt w base (.slice none 0 0) [] := ⟨[], World.ownsRow_nil _ _ _ _, fun i h => by simp at h⟩
theorem PutsAt.block {w : World} {lo : Nat} {v : Value} {l : List (Int × List UInt8)} (h : PutsAt w lo v l) : ∀ g, v.ownBlock = some g → lo ≤ g ∧ ∃ cs, w.heap[g]? = some (.cells cs 50 (0, 0)) := by
 intro g hg
 obtain ⟨xs, ho, -⟩ := h
 exact own_elem ho hg
theorem PutsAt.keep {w w' : World} {T : List Nat} {lo : Nat} {v : Value} {l : List (Int × List UInt8)} (h : PutsAt w lo v l) (hc : Chg T w w') (hT : Av w T [5]) (hv : ∀ g, v.ownBlock = some g → g ∉ T) : PutsAt w' lo v l := by
 obtain ⟨xs, ho, hx⟩ := h
 refine ⟨xs, ?_, fun i hi => ?_⟩
 ·refine ⟨ho.1, ?_⟩
  rcases ho.2 with hn | ⟨g, cap, cur, rfl, hb, hg, rest⟩
  ·exact Or.inl hn
  ·exact Or.inr ⟨g, cap, cur, rfl, hb, hc.heap hg (hv g rfl), rest⟩
 ·obtain ⟨h0, g, c, h1, h2, h3, cs, h4⟩ := hx i hi
  have hg : g ∉ T := hT.ne h4 (by simp)
  exact ⟨h0, g, c, h1, h2.chgT hc hg, h3, cs, hc.heap h4 hg⟩
theorem PutsAt.keep0 {w w' : World} {lo : Nat} {v : Value} {l : List (Int × List UInt8)} (h : PutsAt w lo v l) (hc : Chg [] w w') : PutsAt w' lo v l := h.keep hc (Av.nil _ _) (fun _ _ => by simp)
theorem PutsAt.push {w w' : World} {base gb cb n : Nat} {v v' : Value} {l : List (Int × List UInt8)} {k : Int} {b : List UInt8} {xs : List Value} (hx : ∀ i (h : i < l.length), xs[i * 2]? = some (.int .i64 l[i].1) ∧ ∃ g c, xs[i * 2 + 1]? = some (.slice (some ⟨g, 0, none⟩) 40 c) ∧ Bs w (some ⟨g, 0, none⟩) l[i].2 ∧ l[i].2.length = 40 ∧ Bt w g)
  (hl : xs.length = l.length * 2) (hn : n = l.length) (hv : ∀ g, v.ownBlock = some g → ∃ cs, w.heap[g]? = some (.cells cs 50 (0, 0))) (ho : w'.ownsRow base 50 2 v' (n + 1) (xs ++ [.int .i64 k, .slice (some ⟨gb, 0, none⟩) 40 cb])) (hc : Chg v.ownBlock.toList w w')
  (hb : Bs w (some ⟨gb, 0, none⟩) b) (hb4 : b.length = 40) (hbt : Bt w gb) : PutsAt w' base v' (l ++ [(k, b)]) := by
 subst hn
 have hne : ∀ {g}, Bt w g → g ∉ v.ownBlock.toList := by
  rintro g ⟨cs2, h2⟩ hm
  obtain ⟨cs, h1⟩ := hv g (by simpa using hm)
  rw [h1] at h2
  cases h2
 have keepB : ∀ {g}, Bt w g → Bt w' g := fun {g} h => by
  obtain ⟨cs, h2⟩ := id h
  exact ⟨cs, hc.heap h2 (hne h)⟩
 refine ⟨_, by rw [List.length_append]; exact ho, fun i hi => ?_⟩
 by_cases h : i < l.length
 ·obtain ⟨h0, g, c, h1, h2, h3, h4⟩ := hx i h
  rw [List.getElem_append_left h]
  exact ⟨by rw [List.getElem?_append_left (by omega)]; exact h0, g, c, by rw [List.getElem?_append_left (by omega)]; exact h1, h2.chgT hc (hne h4), h3, keepB h4⟩
 ·have hi2 : i = l.length := by simp at hi; omega
  subst hi2
  have e : (l ++ [(k, b)])[l.length]'(by simp) = (k, b) := by simp
  rw [e]
  exact ⟨by rw [← hl]; simp, gb, cb, by rw [← hl, List.getElem?_append_right (by omega)]; simp, hb.chgT hc (hne hbt), hb4, keepB hbt⟩
def BufD (w : World) (L : List (Int × Value)) (D : Int → List UInt8) : Prop := ∀ k v, getL L k = some v → ∃ g c, v = .slice (some ⟨g, 0, none⟩) 40 c ∧ Bs w (some ⟨g, 0, none⟩) (D k) ∧ (D k).length = 40 ∧ Bt w g
theorem BufD.keep {w w' : World} {L : List (Int × Value)} {D : Int → List UInt8} (h : BufD w L D) (hc : Chg [] w w') : BufD w' L D := fun k v hv => by
 obtain ⟨g, c, h1, h2, h3, cs, h4⟩ := h k v hv
 exact ⟨g, c, h1, h2.chg hc, h3, cs, hc.heap h4 (by simp)⟩
def putsL (L : List (Int × Value)) (D : Int → List UInt8) : List (Int × List UInt8) := (sortI (L.map Prod.fst)).map fun k => (k, D k)
theorem putsL_length (L : List (Int × Value)) (D : Int → List UInt8) : (putsL L D).length = L.length := by simp [putsL, sortI_length]
theorem getL_key {L : List (Int × Value)} {k : Int} (h : k ∈ L.map Prod.fst) : ∃ v, getL L k = some v := by
 induction L with
 | nil => simp at h
 | cons p l ih =>
  simp only [getL]
  by_cases e : k = p.1
  ·exact ⟨_, if_pos e⟩
  ·rw [if_neg e]
   simp only [List.map_cons, List.mem_cons] at h
   exact ih (h.resolve_left e)
set_option maxRecDepth 100000 in
set_option maxHeartbeats 2000000 in
theorem bputs_any (w : World) {W rw : Nat} {L : List (Int × Value)} {D : Int → List UInt8} (h : BufAt w W rw L) (hD : BufD w L D) (hk : ∀ x ∈ L, 0 ≤ x.1 ∧ x.1 < 258) (hl : L.length ≤ 1000) : Calls Tryz.prog 186 #[.pointer (some ⟨W, 0, none⟩)] w fun e w' =>
  ∃ v, e = .returned v ∧ Chg [] w w' ∧ PutsAt w' w.heap.size v (putsL L D) := by
 have c2 : w.cell? ⟨W, 2, none⟩ = some (.map (some rw)) := cell_is h.1 2 rfl
 have HS := Lib.hid (sortedA_any w h.2 (fun p hp => wf_i64 (by have := hk p hp; omega) (by have := hk p hp; omega)) (by omega))
 have HB := Lib.hid h
 have HD := Lib.hid hD
 have HK := Lib.hid hk
 clear h hD hk
 go_enter Tryz.func186, Tryz.ntmps186
 go_wp2_with (first
  | (go_at_call 164; refine (keysA_any (some rw) _).mono ?_; rintro e w1 ⟨rfl, rfl⟩)
  | (go_at_call 163; refine HS.out.mono ?_; rintro e w2 ⟨v2, rfl, o2, k2⟩; obtain ⟨pk, ck, rfl, hck⟩ := own_form o2))
 have hsl : (sortI (L.map Prod.fst)).length = L.length := by rw [sortI_length, List.length_map]
 have hmem : ∀ k, k ∈ sortI (L.map Prod.fst) → ∃ v, getL L k = some v := fun k hk => getL_key ((sortI_perm _).mem_iff.1 hk)
 have hpl : putsL L D = (sortI (L.map Prod.fst)).map fun k => (k, D k) := rfl
 have HP := Lib.hid hpl
 have HM := Lib.hid hmem
 have O2 := Lib.hid o2
 clear hmem hpl o2
 generalize hks : sortI (L.map Prod.fst) = ks at *
 have c22 := k2.cell c2 (by simp)
 generalize hn : L.length = n at *
 have hcki : (n : Int) ≤ ck := by omega
 go_loopw [2, 4, 14] (fun v _ i wr => ∃ j : Nat, j ≤ n ∧ i = .int .i64 j ∧ Chg [] w2 wr ∧ PutsAt wr w2.heap.size v ((ks.take j).map fun k => (k, D k))) (fun _ _ i _ => n - (intOf i).toNat)
 case atStart => exact ⟨0, by omega, rfl, Chg.refl _ _, PutsAt.nil _ _⟩
 case round =>
  obtain ⟨j, hj, rfl, kr, hp⟩ := hrel
  by_cases hlt : j < n
  ·have hjk : j < ks.length := by omega
   obtain ⟨v, hv⟩ := HM.out ks[j] (List.getElem_mem hjk)
   obtain ⟨g, cg, rfl, hb, hb4, hbt⟩ := HD.out _ _ hv
   have kwr : Chg [] w wr := k2.then kr
   have hlook : (Instr.lookup 149 (.map (some rw)) (.int .i64 ks[j]) false).run Tryz.prog wr = .ok (.slice (some ⟨g, 0, none⟩) 40 cg) wr := by
    have := lookup151 (HB.out.2.keep kwr (by simp)) ks[j] false
    rw [hv] at this
    exact this
   have ck0 : ∃ gk, pk = some ⟨gk, 0, none⟩ ∧ wr.cell? ⟨gk, j, none⟩ = some (.int .i64 ks[j]) := by
    rcases O2.out.2 with ⟨_, h0⟩ | ⟨gk, cap, cur, e, hA, hg, hc1, hc2, hc3, ht⟩
    ·omega
    ·injection e with e1
     refine ⟨gk, e1, kr.cell (cell_is hg j ?_) (by simp)⟩
     have h1 : (ks.map encZ)[j]? = some (.int .i64 ks[j]) := by simp [hjk]
     rw [← ht, List.getElem?_take_of_lt (by omega), Array.getElem?_toList] at h1
     exact h1
   obtain ⟨gk, rfl, ck1⟩ := ck0
   have cw2 := kr.cell c22 (by simp)
   have HBs := Lib.hid (hb.chg kwr)
   have HPt := Lib.hid hp
   have HTk := Lib.hid (show (ks.take (j + 1)).map (fun k => (k, D k)) = (ks.take j).map (fun k => (k, D k)) ++ [(ks[j], D ks[j])] by rw [List.take_succ_eq_append_getElem hjk, List.map_append]; rfl)
   have HL4 := Lib.hid hb4
   have HBt := Lib.hid hbt
   clear hb hp hb4 hbt hv
   generalize ks[j] = k at *
   go_wp2_with fail
   refine (clone_bt wr HL4.out (by decide) (by decide) HBs.out).mono ?_
   rintro e w3 ⟨g2, c2, rfl, k3, b3, l3, t3⟩
   obtain ⟨xs, ho3, hx3⟩ := HPt.out.keep0 k3
   have hpl3 : ((ks.take j).map fun k => (k, D k)).length = j := by simp; omega
   have hb23 := (HPt.out.keep0 k3).block
   have hs3 : w2.heap.size ≤ w3.heap.size := (kr.then k3).size
   have B3 := Lib.hid b3
   have T3 := Lib.hid t3
   have HX3 := Lib.hid hx3
   have HO3 := Lib.hid ho3
   have H23 := Lib.hid hb23
   clear b3 t3 hx3 hb23 ho3
   go_wp2_with (at_builtin; refine wpList_append_lit rfl (.tmp 18) (.tmp 28) 85 50 rfl ty69 inf92 rfl (by decide) w2.heap.size w3 [.int .i64 k, .slice (some ⟨g2, 0, none⟩) 40 c2] 1 rfl _ ((ks.take j).map fun k => (k, D k)).length xs rfl HO3.out (by omega) (by decide) hs3 (k := 0) rfl (by simp [Value.oneCell']) rfl 1 rfl ?_; intro v' w4 hap)
   have hxl : xs.length = ((ks.take j).map fun k => (k, D k)).length * 2 := HO3.out.1
   have hfin : PutsAt w4 w2.heap.size v' (((ks.take j).map fun k => (k, D k)) ++ [(k, D k)]) := PutsAt.push HX3.out hxl rfl (fun g hg => (H23.out g hg).2) hap.1 (Chg.own hap.2.2 (fun g hg _ => by have hg2 : u2.ownBlock = some g := hg; simp [hg2])) B3.out HL4.out T3.out
   rw [← HTk.out] at hfin
   go_roundw
   case rel => exact ⟨j + 1, by omega, by simp, Chg.of_below ((kr.then k3).below0.trans hap.2.1), hfin⟩
   case measure => simp [intOf]; omega
  ·obtain rfl : j = n := by omega
   go_wp2_with fail
   go_ret
   refine ⟨_, rfl, k2.then kr, ?_⟩
   rw [HP.out]
   rw [List.take_of_length_le (by omega)] at hp
   obtain ⟨xs, ho, hx⟩ := hp
   exact ⟨xs, own_base ho k2.size, hx⟩
set_option maxRecDepth 100000 in
theorem blen_any (w : World) {W rw : Nat} {L : List (Int × Value)} {D : Int → List UInt8} (h : BufAt w W rw L) (hD : BufD w L D) (hk : ∀ x ∈ L, 0 ≤ x.1 ∧ x.1 < 258) (hl : L.length ≤ 1000) : Calls Tryz.prog 120 #[.pointer (some ⟨W, 0, none⟩)] w fun e w' => e = .returned (.int .i64 L.length) ∧ Chg [] w w' := by
 have HP := Lib.hid (bputs_any w h hD hk hl)
 clear h hD hk
 go_enter Tryz.func120, Tryz.ntmps120
 go_wp2_with fail
 refine HP.out.mono ?_
 rintro e w1 ⟨v, rfl, k, xs, ho, -⟩
 obtain ⟨pa, c, rfl, -⟩ := own_form ho
 go_wp2_with fail
 go_ret
 exact ⟨by rw [← putsL_length L D]; rfl, k⟩
theorem PutsAt.get {w : World} {lo : Nat} {v : Value} {l : List (Int × List UInt8)} (h : PutsAt w lo v l) (k : Nat) (hk : k < l.length) : ∃ g cap gd cd, v = .slice (some ⟨g, 0, none⟩) l.length cap ∧ l.length ≤ cap ∧
  w.cell? ⟨g, k * 2, none⟩ = some (.int .i64 l[k].1) ∧ w.cell? ⟨g, k * 2 + 1, none⟩ = some (.slice (some ⟨gd, 0, none⟩) 40 cd) ∧ Bs w (some ⟨gd, 0, none⟩) l[k].2 ∧ l[k].2.length = 40 ∧ Bt w gd := by
 obtain ⟨xs, ho, hx⟩ := h
 obtain ⟨h0, gd, cd, h1, h2, h3, h4⟩ := hx k hk
 rcases ho.2 with ⟨_, e⟩ | ⟨g, cap, cur, rfl, hA, hg, hc1, hc2, hc3, ht⟩
 ·omega
 ·refine ⟨g, cap, gd, cd, rfl, hc1, cell_is hg _ ?_, cell_is hg _ ?_, h2, h3, h4⟩
  ·rw [← ht, List.getElem?_take_of_lt (by omega), Array.getElem?_toList] at h0
   exact h0
  ·rw [← ht, List.getElem?_take_of_lt (by omega), Array.getElem?_toList] at h1
   exact h1
set_option maxRecDepth 100000 in
set_option maxHeartbeats 2000000 in
theorem bset_any (w : World) {W rw : Nat} {L : List (Int × Value)} {D : Int → List UInt8} (h : BufAt w W rw L) (hD : BufD w L D) (hk : ∀ x ∈ L, 0 ≤ x.1 ∧ x.1 < 258) (hl : L.length ≤ 16) : Calls Tryz.prog 190 #[.pointer (some ⟨W, 0, none⟩)] w fun e w' =>
  ∃ U lo most, e = .returned (.pointer (some ⟨U, 0, none⟩)) ∧ Chg [] w w' ∧ SpW w' lo U most 16 ∧ w.heap.size ≤ U := by
 have HP := Lib.hid (bputs_any w h hD hk (by omega))
 clear h hD hk
 go_enter Tryz.func190, Tryz.ntmps190
 go_wp2_with fail
 refine HP.out.mono ?_
 rintro e w1 ⟨v, rfl, k1, hp⟩
 obtain ⟨pa, c, rfl, hcap⟩ := own_form hp.choose_spec.1
 have hpl : (putsL L D).length ≤ 16 := by rw [putsL_length]; exact hl
 have HPt := Lib.hid hp
 clear hp
 generalize putsL L D = l at *
 go_wp2_with fail
 refine (inewm_any w1 l.length).mono ?_
 rintro e w2 ⟨U, rfl, k2, hU, lU⟩
 have HPt2 := Lib.hid (HPt.out.keep0 k2)
 go_wp2_with fail
 go_loopw [6, 14] (fun _ i wr => ∃ j : Nat, j ≤ l.length ∧ i = .int .i64 j ∧ Chg [U] w2 wr ∧ SpW wr w1.heap.size U l.length j) (fun _ i _ => l.length - (intOf i).toNat)
 case atStart => exact ⟨0, by omega, rfl, Chg.refl _ _, hU⟩
 case round =>
  obtain ⟨j, hj, rfl, kr, hs⟩ := hrel
  by_cases hlt : j < l.length
  ·obtain ⟨g, cap, gd, cd, hv, -, d0, d1, -, -, -⟩ := HPt2.out.get j hlt
   cases hv
   have hU312 : ∃ v0, w2.heap[U]? = some (.cells #[.int .i64 l.length, v0] 305 (0, 0)) := ⟨_, hU.choose_spec.choose_spec.1⟩
   have hg92 : ∃ cs, w2.heap[g]? = some (.cells cs 50 (0, 0)) := (HPt2.out.block g rfl).2
   have hgU : g ∉ [U] := by
    obtain ⟨v0, h1⟩ := hU312
    obtain ⟨cs, h2⟩ := hg92
    intro hm
    rw [List.mem_singleton] at hm
    rw [hm, h1] at h2
    cases h2
   have e0 := kr.cell d0 hgU
   have e1 := kr.cell d1 hgU
   have hS := Lib.hid hs
   clear hs hU hU312 hg92 d0 d1
   generalize (l[j]).1 = b at *
   go_wp2_with fail
   have kA : Chg [] wr ((wr.alloc (.cells #[.int .i64 b, .slice (some ⟨gd, 0, none⟩) 40 cd] 50)).alloc (.cells #[.int .i64 b, .int .i64 1] 79)) := chg_two wr _ _
   have hE := (two_new wr (.cells #[.int .i64 b, .slice (some ⟨gd, 0, none⟩) 40 cd] 50) (.cells #[.int .i64 b, .int .i64 1] 79)).2
   have hSpQ : SpQ ((wr.alloc (.cells #[.int .i64 b, .slice (some ⟨gd, 0, none⟩) 40 cd] 50)).alloc (.cells #[.int .i64 b, .int .i64 1] 79)) (some ⟨wr.heap.size + 1, 0, none⟩) [(b, 1)] := Or.inr ⟨_, 0, rfl, fun i u hu => by
    rw [Nat.zero_add]
    match i with
    | 0 => cases hu; exact cell_is hE 0 rfl
    | 1 => cases hu; exact cell_is hE 1 rfl
    | i + 2 => simp [spCells] at hu⟩
   refine (iadd_any _ (n := j) (m := 1) (hS.out.keep0 kA) (by omega) (by have := kA.size; have := k2.size; have := kr.size; omega) rfl hSpQ).mono ?_
   rintro e w3 ⟨r, rfl, k3, hs3⟩
   have kk : Chg [U] w2 w3 := (kr.then (kA.mono (fun x hx _ => by cases hx))).then k3
   clear hSpQ hE kA e0 e1
   go_wp2_with fail
   go_roundw
   case rel => exact ⟨j + 1, by omega, by simp, kk, hs3⟩
   case measure => simp [intOf]; omega
  ·obtain rfl : j = l.length := by omega
   go_wp2_with fail
   go_ret
   obtain ⟨v, l3, h1, h2, h3⟩ := hs
   exact ⟨U, _, _, rfl, (k1.then k2).trans kr (fun x hx hlt => by rw [List.mem_singleton] at hx; have := k1.size; omega), ⟨v, l3, h1, by omega, h3⟩, by have := k1.size; omega⟩
set_option maxRecDepth 100000 in
theorem xgone_any (w : World) {X : Nat} (h : w.cell? ⟨X, 0, none⟩ = some (.int .i64 258)) : Calls Tryz.prog 196 #[.pointer (some ⟨X, 0, none⟩)] w fun e w' => e = .returned (.bool false) ∧ w = w' := by
 go_enter Tryz.func196, Tryz.ntmps196
 go_wp2_with fail
 go_ret
 exact ⟨rfl, rfl⟩

structure Par where
 h : Int
 t : Int
 lo : Nat
 last : Int
 Lv : List (Int × Value)
 vs : Int → List (Int × List UInt8)
structure Need (w : World) (d : Ids) (p : Par) : Prop where
 p0 : w.cell? ⟨d.P, 0, none⟩ = some (.pointer (some ⟨d.N, 0, none⟩))
 p5 : w.cell? ⟨d.P, 5, none⟩ = some (.pointer (some ⟨d.M, 0, none⟩))
 p9 : w.cell? ⟨d.P, 9, none⟩ = some (.bool false)
 hdr : ∃ ops rds, w.heap[d.N]? = some (.cells #[.int .i64 8, .int .i64 96, .slice (some ⟨d.A, 0, none⟩) 8 d.c, .int .i64 ops, .int .i64 rds, .bool false, .int .i64 0, .bool false] 128 (0, 0))
 m0 : w.cell? ⟨d.M, 0, none⟩ = some (.pointer (some ⟨d.X, 0, none⟩))
 m2 : w.cell? ⟨d.M, 2, none⟩ = some (.map (some d.r))
 map : ∃ Lr, MapAt w d.r Lr ∧ getL Lr p.h = some (.pointer (some ⟨d.T, 0, none⟩))
 ver : VerG w p.lo d.X d.rx p.last p.Lv p.vs
structure Fr (base : Nat) (d : Ids) (p : Par) (F : World → Prop) : Prop where
 need : ∀ w, F w → Need w d p
 keep : ∀ a b, Ow base a b → F a → F b
def TxT (w : World) (T W Q : Nat) (t : Int) : Prop := w.heap[T]? = some (.cells #[.int .i64 1, .int .i64 0, .int .i64 0, .int .i64 t, .pointer (some ⟨W, 0, none⟩), .pointer (some ⟨Q, 0, none⟩)] 203 (0, 0))
structure Su (w : World) (base : Nat) (d : Ids) (p : Par) (F : World → Prop) (q : Int → List UInt8) (L : List (Int × Value)) (n : Nat) : Prop where
 env : F w
 tx : TxT w d.T d.W d.Q p.t
 buf : BufAt w d.W d.rw L
 keys : ∀ x ∈ L, 0 ≤ x.1 ∧ x.1 < 258
 blk : ∀ b, 0 ≤ b → b < 258 → BlkT w L (p.vs b) p.t b (q b)
 vw : VwT w base d.Q d.X d.W d.V p.t n
 sp : SpV w base d.V n
 high : base ≤ d.Q ∧ base ≤ d.V ∧ base ≤ d.rw
theorem ow_rt {base : Nat} {w w' : World} {T : List Nat} (h : Chg T w w') (hT : Rt w base T) : Ow base w w' := by
 refine ⟨T, h, fun x hx => ⟨(hT x hx).1, fun cs t fr hh => ?_⟩⟩
 obtain ⟨_, cs', t', fr', h1, h2⟩ := hT x hx
 rw [hh] at h1
 cases h1
 exact h2
section
variable {base : Nat} {d : Ids} {p : Par} {F : World → Prop}
theorem Su.keep {w w' : World} {q : Int → List UInt8} {L : List (Int × Value)} {n : Nat} (hf : Fr base d p F) (h : Su w base d p F q L n) (hc : Chg [] w w') : Su w' base d p F q L n :=
 ⟨hf.keep w w' (Ow.of_chg hc) h.env, hc.heap h.tx (by simp), h.buf.keep hc (by simp) (by simp), h.keys, fun b hb hb' => (h.blk b hb hb').keep hc, h.vw.keep hc (Av.nil _ _), h.sp.keep0 hc, h.high⟩
set_option maxRecDepth 100000 in
theorem dead_gen (w : World) (h : Need w d p) : Calls Tryz.prog 53 #[.pointer (some ⟨d.P, 0, none⟩)] w fun e w' => e = .returned (.bool false) ∧ w = w' := by
 have c0 := h.p0
 have c9 := h.p9
 clear h
 go_enter Tryz.func53, Tryz.ntmps53
 go_wp2_with fail
 go_ret
 exact ⟨rfl, rfl⟩
set_option maxRecDepth 100000 in
theorem tgone_gen (w : World) (h : Need w d p) : Calls Tryz.prog 113 #[.pointer (some ⟨d.M, 0, none⟩)] w fun e w' => e = .returned (.bool false) ∧ w = w' := by
 have c0 := h.m0
 clear h
 go_enter Tryz.func113, Tryz.ntmps113
 go_wp2_with fail
 go_ret
 exact ⟨rfl, rfl⟩
set_option maxRecDepth 100000 in
theorem topen_gen (w : World) (h : Need w d p) (hT : TxT w d.T d.W d.Q p.t) : Calls Tryz.prog 118 #[.pointer (some ⟨d.M, 0, none⟩), .int .i64 p.h] w fun e w' => e = .returned (.pointer (some ⟨d.T, 0, none⟩)) ∧ w = w' := by
 have HG := Lib.hid (tgone_gen w h)
 have c2 := h.m2
 obtain ⟨Lr, hm, hg⟩ := h.map
 have hl : (Instr.lookup 193 (.map (some d.r)) (.int .i64 p.h) true).run Tryz.prog w = .ok (.tuple #[.pointer (some ⟨d.T, 0, none⟩), .bool true]) w := by
  have := lookup178 hm p.h true
  rw [hg] at this
  exact this
 have t0 : w.cell? ⟨d.T, 0, none⟩ = some (.int .i64 1) := cell_is hT 0 rfl
 clear h hT hg hm
 go_enter Tryz.func118, Tryz.ntmps118
 go_wp2_with fail
 refine HG.out.mono ?_
 rintro e w1 ⟨rfl, rfl⟩
 go_wp2_with fail
 go_ret
 exact ⟨rfl, rfl⟩
set_option maxRecDepth 100000 in
theorem twrite_gen (w : World) {q : Int → List UInt8} {L : List (Int × Value)} {n E eo cp D o c : Nat} {b : Int} {l : List UInt8} (hf : Fr base d p F) (h : Su w base d p F q L n)
  (e0 : w.cell? ⟨E, eo, none⟩ = some (.int .i64 b)) (e1 : w.cell? ⟨E, eo + 1, none⟩ = some (.slice (some ⟨D, o, none⟩) 40 c)) (hb : Bs w (some ⟨D, o, none⟩) l) (hl : l.length = 40) (h0 : 0 ≤ b) (h1 : b < 258) (hroom : L.length ≤ 15) :
  Calls Tryz.prog 55 #[.pointer (some ⟨d.M, 0, none⟩), .int .i64 p.h, .slice (some ⟨E, eo, none⟩) 1 cp] w fun e w' =>
  ∃ g c', e = .returned (.int .i64 0) ∧ Chg [d.rw] w w' ∧ BufAt w' d.W d.rw (putL L b (.slice (some ⟨g, 0, none⟩) 40 c')) ∧ Bs w' (some ⟨g, 0, none⟩) l ∧ Bt w' g := by
 have t4 : w.cell? ⟨d.T, 4, none⟩ = some (.pointer (some ⟨d.W, 0, none⟩)) := cell_is h.tx 4 rfl
 have HO := Lib.hid (topen_gen w (hf.need _ h.env) h.tx)
 have HW := Lib.hid (wwrite_one w (cp := cp) h.buf e0 e1 hb hl h0 h1 hroom)
 clear h e0 e1 hb hl
 go_enter Tryz.func55, Tryz.ntmps55
 go_wp2_with fail
 refine HO.out.mono ?_
 rintro e w1 ⟨rfl, rfl⟩
 go_wp2_with fail
 refine HW.out.mono ?_
 rintro e w1 ⟨g, c', rfl, k, hbf, hbs, hbt⟩
 go_wp2_with fail
 go_ret
 exact ⟨g, c', rfl, k, hbf, hbs, hbt⟩
theorem putL_keys {L : List (Int × Value)} {b : Int} {v : Value} {P : Int → Prop} (h : ∀ x ∈ L, P x.1) (hb : P b) : ∀ x ∈ putL L b v, P x.1 := by
 induction L with
 | nil => intro x hx; simp [putL] at hx; subst hx; exact hb
 | cons a l ih =>
  intro x hx
  simp only [putL] at hx
  split at hx
  ·rcases List.mem_cons.1 hx with rfl | hx
   ·exact hb
   ·exact h x (List.mem_cons_of_mem _ hx)
  ·rcases List.mem_cons.1 hx with rfl | hx
   ·exact h _ List.mem_cons_self
   ·exact ih (fun y hy => h y (List.mem_cons_of_mem _ hy)) x hx
end
set_option maxRecDepth 100000 in
theorem rmay_min (w : World) : Calls Tryz.prog 165 #[.agg #[.int .i64 8, .int .i64 96]] w fun e w' => e = .returned (.bool true) ∧ Chg [] w w' := by
 go_enter Tryz.func165, Tryz.ntmps165
 go_wp2_with fail
 go_ret
 exact ⟨rfl, Chg.alloc _ _⟩
set_option maxRecDepth 100000 in
theorem rsplit_min (w : World) : Calls Tryz.prog 92 #[.agg #[.int .i64 8, .int .i64 96]] w fun e w' => e = .returned (.tuple #[.agg #[.int .i64 0, .int .i64 3, .int .i64 6, .int .i64 7], .int .i64 0]) ∧ Chg [] w w' := by
 go_enter Tryz.func92, Tryz.ntmps92
 go_wp2_with fail
 obtain ⟨g0, g1⟩ := two_new w (.cells #[.int .i64 8, .int .i64 96] 67) (.cells #[.int .i64 0, .int .i64 0, .int .i64 0, .int .i64 0] 156)
 have hc := chg_two w (.cells #[.int .i64 8, .int .i64 96] 67) (.cells #[.int .i64 0, .int .i64 0, .int .i64 0, .int .i64 0] 156)
 generalize (w.alloc (.cells #[.int .i64 8, .int .i64 96] 67)).alloc (.cells #[.int .i64 0, .int .i64 0, .int .i64 0, .int .i64 0] 156) = w1 at *
 refine (rmay_min w1).mono ?_
 rintro e w2 ⟨rfl, hc2⟩
 have k0 := hc2.heap g0 (by simp)
 have k1 := hc2.heap g1 (by simp)
 have hc3 := hc.then hc2
 have a0 : w2.cell? ⟨w.heap.size, 0, none⟩ = some (.int .i64 8) := cell_is k0 0 rfl
 have a1 : w2.cell? ⟨w.heap.size, 1, none⟩ = some (.int .i64 96) := cell_is k0 1 rfl
 clear g0 g1 k0 hc hc2
 have b0 := unfrozen k1 0
 have b1 := unfrozen k1 1
 have b2 := unfrozen k1 2
 have b3 := unfrozen k1 3
 have c0 := cell_is k1 0 rfl
 have c1 := cell_is k1 1 rfl
 have c2 := cell_is k1 2 rfl
 have c3 := cell_is k1 3 rfl
 go_wp2_with fail
 refine bodyPost_ret (v := .tuple #[.agg #[.int .i64 0, .int .i64 3, .int .i64 6, .int .i64 7], .int .i64 0]) (by simp [results, Tryz.results92, go_sem, c0, c1, c2, c3]) rfl ?_
 exact ⟨rfl, (((hc3.new_set (by omega) _ _).new_set (by omega) _ _).new_set (by omega) _ _).new_set (by omega) _ _⟩
set_option maxRecDepth 100000 in
theorem rcap_min (w : World) : Calls Tryz.prog 35 #[.agg #[.int .i64 8, .int .i64 96]] w fun e w' => e = .returned (.int .i64 258) ∧ Chg [] w w' := by
 go_enter Tryz.func35, Tryz.ntmps35
 go_wp2_with fail
 have g0 := heap_new w (.cells #[.int .i64 8, .int .i64 96] 67)
 have hc : Chg [] w (w.alloc (.cells #[.int .i64 8, .int .i64 96] 67)) := Chg.alloc _ _
 generalize w.alloc (.cells #[.int .i64 8, .int .i64 96] 67) = w1 at *
 refine (rsplit_min w1).mono ?_
 rintro e w2 ⟨rfl, hc2⟩
 have k0 := hc2.heap g0 (by simp)
 have hc3 := hc.then hc2
 have a1a : ∀ o, (w2.alloc o).cell? ⟨w.heap.size, 1, none⟩ = some (.int .i64 96) := fun o => cell_is (heap_old k0) 1 rfl
 clear g0 k0 hc hc2
 go_wp2_with fail
 go_ret
 exact ⟨rfl, hc3.then_alloc _⟩
theorem step_append_run {P : Program} {ops : Array Oper} {o : Oper} {a : Act} {w : World} {K : Act → World → Prop} {Q : Exit → Act → World → Prop} {E : Prop} (hgd : o.guard = none) (s x : Operand) (t t' : TypeId)
  (ho : o.op = .call { callee := .builtin .append, args := #[s, x], argTypes := #[t, t'] }) (v y : Value) (hs : a.eval s = v) (hx : a.eval x = y) (v' : Value) (w' : World) (hr : (Builtin.append_ #[t, t'] o.type #[v, y]).run P w = .ok v' w') (h : K (a.put o.dst v') w') :
  if Region.wanted o (yielded ops a.tmps) = true then Oper.wp P o a w K Q else E := by
 have hw : Region.wanted o (yielded ops a.tmps) = true := by simp [Region.wanted, hgd]
 rw [if_pos hw]
 unfold Oper.wp execOp
 simp only [ho, resolve, invoke, builtin, Sem.run_bind, Sem.run_pure, Result.andThen_ok, List.map_toArray, List.map_cons, List.map_nil, hs, hx, hr]
 exact h
theorem ty62 : Tryz.prog.underlying 115 = some (.slice 3) := by kernel_rfl
theorem inf3 : (Tryz.prog.info? 3).map (fun i => (i.zero, i.size, i.bytes)) = some (some (.int .i64 0), 1, 8) := by kernel_rfl
theorem ty161 : Tryz.prog.underlying 118 = some (.slice 163) := by kernel_rfl
theorem inf206 : (Tryz.prog.info? 163).map (fun i => (i.zero, i.size, i.bytes)) = some (some (.pointer none), 1, 8) := by kernel_rfl
theorem append_none (w : World) (z : Nat) (ty : TypeId) : (Builtin.append_ #[115, 115] ty #[.slice (some ⟨z, 0, none⟩) 0 0, .slice none 0 0]).run Tryz.prog w = .ok (.slice (some ⟨z, 0, none⟩) 0 0) w := by
 obtain ⟨i, hi0, hz, hz1, hz2⟩ := info_parts inf3
 simp [Builtin.append_, run_underlying ty62, sizeOf, typeInfo, hi0, Builtin.lenOf, Builtin.firstCells, storeCells]
theorem own0 (w : World) (z : Nat) (hz : w.heap[z]? = some (.cells #[] 3 (0, 0))) : w.ownsRow 0 3 1 (.slice (some ⟨z, 0, none⟩) 0 0) 0 [] :=
 ⟨rfl, Or.inr ⟨z, 0, #[], rfl, Nat.zero_le _, hz, Nat.le_refl _, by unfold maxLen; omega, rfl, rfl⟩⟩
theorem Av.row {w : World} {g : Nat} {cs : Array Value} {t : TypeId} {fr : Nat × Nat} (h : w.heap[g]? = some (.cells cs t fr)) {ts : List Nat} (ht : t ∉ ts) : Av w [g] ts := fun x hx cs' t' fr' hh => by
 rw [List.mem_singleton] at hx; subst hx; rw [h] at hh; cases hh; exact ht
def MgrG (w : World) (M X B r : Nat) (qv : Value) (out num bas last given : Int) (rd : Bool) : Prop :=
 w.heap[M]? = some (.cells #[.pointer (some ⟨X, 0, none⟩), .pointer (some ⟨B, 0, none⟩), .map (some r), qv, .int .i64 out, .int .i64 num, .int .i64 bas, .int .i64 last, .int .i64 given, .bool rd] 195 (0, 0))
set_option maxRecDepth 100000 in
theorem waiting_none (w : World) {M X B r cq : Nat} {pq : Option Addr} {out num bas last given : Int} {rd : Bool} (h : MgrG w M X B r (.slice pq 0 cq) out num bas last given rd) : Calls Tryz.prog 133 #[.pointer (some ⟨M, 0, none⟩)] w fun e w' => e = .returned (.slice none 0 0) ∧ w = w' := by
 have m3 : w.cell? ⟨M, 3, none⟩ = some (.slice pq 0 cq) := cell_is h 3 rfl
 clear h
 go_enter Tryz.func133, Tryz.ntmps133
 go_wp2_with fail
 go_loopw [2, 4, 5, 11] (fun v _ _ i wr => i = .int .i64 0 ∧ w = wr ∧ v = .slice none 0 0) (fun _ _ _ _ _ => 0)
 case atStart => exact ⟨rfl, rfl, rfl⟩
 case round =>
  obtain ⟨rfl, rfl, rfl⟩ := hrel
  go_wp2_with fail
  go_ret
  exact ⟨rfl, rfl⟩
theorem own_some {w : World} {base e size n : Nat} {v : Value} {xs : List Value} (h : w.ownsRow base e size v n xs) (hn : 0 < n) : ∃ g c, v = .slice (some ⟨g, 0, none⟩) n c := by
 rcases h.2 with ⟨_, h0⟩ | ⟨g, cap, cur, rfl, _⟩
 ·omega
 ·exact ⟨g, cap, rfl⟩
def TxW (w : World) (T W Q : Nat) (k t : Int) : Prop := w.heap[T]? = some (.cells #[.int .i64 2, .int .i64 k, .int .i64 0, .int .i64 t, .pointer (some ⟨W, 0, none⟩), .pointer (some ⟨Q, 0, none⟩)] 203 (0, 0))
set_option maxRecDepth 100000 in
theorem scommit_one (w : World) {d : Ids} {p : Par} {P : World → Prop} (hN : Need w d p) (hC : Calls Tryz.prog 56 #[.pointer (some ⟨d.M, 0, none⟩), .int .i64 p.h] w fun e w' => e = .returned (.int .i64 0) ∧ P w') :
  Calls Tryz.prog 19 #[.pointer (some ⟨d.P, 0, none⟩), .int .i64 p.h] w fun e w' => e = .returned (.int .i64 0) ∧ P w' := by
 have c5 := hN.p5
 have HO := Lib.hid (dead_gen w hN)
 have HC := Lib.hid hC
 clear hN hC
 go_enter Tryz.func19, Tryz.ntmps19
 go_wp2_with fail
 refine HO.out.mono ?_
 rintro e w1 ⟨rfl, rfl⟩
 go_wp2_with fail
 refine HC.out.mono ?_
 rintro e w1 ⟨rfl, hp⟩
 have HPp := Lib.hid hp
 clear hp
 go_wp2_with fail
 go_ret
 exact ⟨rfl, HPp.out⟩
theorem ty100 : Tryz.prog.underlying 106 = some (.slice 185) := by kernel_rfl
theorem inf189 : (Tryz.prog.info? 185).map (fun i => (i.zero, i.size, i.bytes)) = some (some (.agg #[.int .i64 0, .slice none 0 0]), 2, 32) := by kernel_rfl
theorem step_append_tx {ops : Array Oper} {o : Oper} {a : Act} {w : World} {K : Act → World → Prop} {Q : Exit → Act → World → Prop} {E : Prop} (hgd : o.guard = none) (s x : Operand)
  (ho : o.op = .call { callee := .builtin .append, args := #[s, x], argTypes := #[106, 106] }) (b c : Nat) (u0 u1 : Value) (hs : a.eval s = .slice none 0 0)
  (hx : a.eval x = .slice (some ⟨b, 0, none⟩) 1 c) (c0 : w.cell? ⟨b, 0, none⟩ = some u0) (c1 : w.cell? ⟨b, 1, none⟩ = some u1) (h1 : u0.oneCell' = true ∧ u1.oneCell' = true)
  (h : ∀ g cap w', w'.ownsRow w.heap.size 185 2 (.slice (some ⟨g, 0, none⟩) 1 cap) 1 [u0, u1] → Chg [] w w' → K (a.put o.dst (.slice (some ⟨g, 0, none⟩) 1 cap)) w') :
  if Region.wanted o (yielded ops a.tmps) = true then Oper.wp Tryz.prog o a w K Q else E := by
 obtain ⟨i, hi0, hz, hz1, hz2⟩ := info_parts inf189
 refine step_append_lies w hgd s x 106 ho w.heap.size 185 i _ 2 32 ty100 hi0 hz hz1 hz2 rfl (by decide) _ 0 [] hs (World.ownsRow_nil _ _ _ _) ⟨b, 0, none⟩ 1 c [u0, u1] hx rfl ?_ ?_ (by decide) (by unfold maxLen; omega) (by omega) (Nat.le_refl _) _ rfl ?_
 ·intro j u hu
  rw [add_lit, Nat.zero_add]
  match j with
  | 0 => cases hu; exact c0
  | 1 => cases hu; exact c1
  | j + 2 => simp at hu
 ·intro u hu
  simp at hu
  rcases hu with rfl | rfl
  ·exact h1.1
  ·exact h1.2
 ·intro g cap w' h2 h3 _ _
  exact h g cap w' h2 (Chg.of_grown0 h3)
def TxOne (w : World) (lo : Nat) (v : Value) (k : Int) (l : List (Int × List UInt8)) : Prop :=
 ∃ g c cs pv, v = .slice (some ⟨g, 0, none⟩) 1 c ∧ 1 ≤ c ∧ lo ≤ g ∧ w.heap[g]? = some (.cells cs 185 (0, 0)) ∧ cs[0]? = some (.int .i64 k) ∧ cs[1]? = some pv ∧ PutsAt w lo pv l
theorem TxOne.keep {w w' : World} {lo : Nat} {v : Value} {k : Int} {l : List (Int × List UInt8)} (h : TxOne w lo v k l) (hc : Chg [] w w') : TxOne w' lo v k l := by
 obtain ⟨g, c, cs, pv, h1, h2, h3, h4, h5, h6, h7⟩ := h
 exact ⟨g, c, cs, pv, h1, h2, h3, hc.heap h4 (by simp), h5, h6, h7.keep0 hc⟩
theorem tx_of_own {w : World} {b lo g c : Nat} {k : Int} {pv : Value} {l : List (Int × List UInt8)} (ho : w.ownsRow b 185 2 (.slice (some ⟨g, 0, none⟩) 1 c) 1 [.int .i64 k, pv]) (hb : lo ≤ b) (hp : PutsAt w lo pv l) : TxOne w lo (.slice (some ⟨g, 0, none⟩) 1 c) k l := by
 rcases ho.2 with ⟨e, _⟩ | ⟨g', cap, cur, e, hA, hg, hc1, hc2, hc3, ht⟩
 ·cases e
 ·cases e
  have h0 : cur[0]? = some (.int .i64 k) := by
   have : (cur.toList.take (1 * 2))[0]? = some (.int .i64 k) := by rw [ht]; rfl
   rwa [List.getElem?_take_of_lt (by omega), Array.getElem?_toList] at this
  have h1 : cur[1]? = some pv := by
   have : (cur.toList.take (1 * 2))[1]? = some pv := by rw [ht]; rfl
   rwa [List.getElem?_take_of_lt (by omega), Array.getElem?_toList] at this
  exact ⟨g, c, cur, pv, rfl, hc1, by omega, hg, h0, h1, hp⟩
set_option maxRecDepth 100000 in
set_option maxHeartbeats 4000000 in
theorem waiting_one (w : World) {M X B r cq gq T W rw Q : Nat} {out num bas last given k t h : Int} {rd : Bool} {Lr L : List (Int × Value)} {D : Int → List UInt8} (hM : MgrG w M X B r (.slice (some ⟨gq, 0, none⟩) 1 cq) out num bas last given rd)
  (hq : w.cell? ⟨gq, 0, none⟩ = some (.int .i64 h)) (hr : MapAt w r Lr) (hg : getL Lr h = some (.pointer (some ⟨T, 0, none⟩))) (hT : TxW w T W Q k t) (hb : BufAt w W rw L) (hD : BufD w L D) (hk : ∀ x ∈ L, 0 ≤ x.1 ∧ x.1 < 258) (hl : L.length ≤ 1000) :
  Calls Tryz.prog 133 #[.pointer (some ⟨M, 0, none⟩)] w fun e w' => ∃ v, e = .returned v ∧ Chg [] w w' ∧ TxOne w' w.heap.size v k (putsL L D) := by
 have m3 : w.cell? ⟨M, 3, none⟩ = some (.slice (some ⟨gq, 0, none⟩) 1 cq) := cell_is hM 3 rfl
 have m2 : w.cell? ⟨M, 2, none⟩ = some (.map (some r)) := cell_is hM 2 rfl
 have t1 : w.cell? ⟨T, 1, none⟩ = some (.int .i64 k) := cell_is hT 1 rfl
 have t4 : w.cell? ⟨T, 4, none⟩ = some (.pointer (some ⟨W, 0, none⟩)) := cell_is hT 4 rfl
 have hlook : (Instr.lookup 193 (.map (some r)) (.int .i64 h) false).run Tryz.prog w = .ok (.pointer (some ⟨T, 0, none⟩)) w := by
  have := lookup178 hr h false
  rw [hg] at this
  exact this
 have kd : Chg [] w w.drew := (Chg.refl [] w).drew
 have HP := Lib.hid (bputs_any w.drew (hb.keep kd (by simp) (by simp)) (hD.keep kd) hk hl)
 have t1d : w.drew.cell? ⟨T, 1, none⟩ = some (.int .i64 k) := t1
 have t4d : w.drew.cell? ⟨T, 4, none⟩ = some (.pointer (some ⟨W, 0, none⟩)) := t4
 clear hM hr hg hT hb hD hk
 go_enter Tryz.func133, Tryz.ntmps133
 go_wp2_with fail
 go_loopw [2, 4, 5, 11] (fun v _ _ i wr => (i = .int .i64 0 ∧ w = wr ∧ v = .slice none 0 0) ∨ (i = .int .i64 1 ∧ Chg [] w wr ∧ TxOne wr w.heap.size v k (putsL L D))) (fun _ _ _ i _ => 1 - (intOf i).toNat)
 case atStart => exact Or.inl ⟨rfl, rfl, rfl⟩
 case round =>
  rcases hrel with ⟨rfl, rfl, rfl⟩ | ⟨rfl, kr, hv⟩
  ·go_wp2_with fail
   go_region_law
    (first
     | (go_simp; go_at_call 186; refine HP.out.mono ?_; rintro e w6 ⟨pv, rfl, k6, hp6⟩; obtain ⟨pb, cb, rfl, hcb⟩ := own_form hp6.choose_spec.1; have t16 := k6.cell t1d (by simp); have kA : Chg [] w (w6.alloc (.cells #[.int .i64 k, (.slice pb (putsL L D).length cb)] 185)) := (kd.then k6).then_alloc _; have y0 := heap_new w6 (.cells #[.int .i64 k, (.slice pb (putsL L D).length cb)] 185); have hp7 := hp6.keep0 (Chg.alloc (S := []) w6 (.cells #[.int .i64 k, (.slice pb (putsL L D).length cb)] 185)))
     | (refine step_append_tx rfl (.tmp 21) (.tmp 32) rfl w6.heap.size 1 _ _ rfl rfl (cell_is y0 0 rfl) (cell_is y0 1 rfl) ⟨rfl, rfl⟩ ?_; intro g5 cp5 w5 o5 k5))
   all_goals
    have HF := Lib.hid (show Chg [] w w5 ∧ TxOne w5 w.heap.size (.slice (some ⟨g5, 0, none⟩) 1 cp5) k (putsL L D) from by
     refine ⟨kA.then k5, tx_of_own o5 kA.size ?_⟩
     obtain ⟨xs, ho, hx⟩ := hp7.keep0 k5
     exact ⟨xs, own_base ho (kd.size), hx⟩)
    clear kA y0 hp6 hp7 o5 k5 k6
    go_wp2_with fail
    go_roundw
    case rel => exact Or.inr ⟨rfl, HF.out⟩
    case measure => decide
  ·go_wp2_with fail
   go_ret
   exact ⟨_, rfl, kr, hv⟩
end Go.Proofs.YtelakcjbknbehaaGreat
