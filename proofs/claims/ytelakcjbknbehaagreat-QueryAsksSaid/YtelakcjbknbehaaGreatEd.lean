/- Lemmas and walks. -/
import Derived.Test.YtelakcjbknbehaaGreatProg
import Derived.WalkLawsBesides
import Derived.Deep.RegionWith
import Derived.Shelf.SlIterI.Nil
import Derived.Shelf.SortM.Plain
import Derived.Shelf.SortM.SortNone
import Derived.Shelf.SlSortCmp.WholeK
import Derived.Shelf.SlicesG.Cmp
import Derived.Shelf.Small.Bits
import Derived.Deep.RegionHeld3
import Derived.Test.YtelakcjbknbehaaGreatEa
import Derived.Test.YtelakcjbknbehaaGreatEb
namespace Go.Proofs.YtelakcjbknbehaaGreat
open Go.RowKit Go.Lib

theorem heap_old {w : World} {o : Obj} {g : Nat} {x : Obj} (h : w.heap[g]? = some x) : (w.alloc o).heap[g]? = some x := (Chg.alloc (S := []) w o).heap h (by simp)
theorem Chg.new_set {S : List Nat} {a b : World} (h : Chg S a b) {g : Nat} (hg : a.heap.size ≤ g) (i : Nat) (v : Value) : Chg S a (b.setCell ⟨g, i, none⟩ v) := h.then_set (fun hl => by omega) i v
theorem two_new (w : World) (o p : Obj) : ((w.alloc o).alloc p).heap[w.heap.size]? = some o ∧ ((w.alloc o).alloc p).heap[w.heap.size + 1]? = some p := by
 refine ⟨heap_old (heap_new w o), ?_⟩
 have := heap_new (w.alloc o) p
 rw [show (w.alloc o).heap.size = w.heap.size + 1 by simp] at this
 exact this
theorem chg_two (w : World) (o p : Obj) : Chg [] w ((w.alloc o).alloc p) := (Chg.alloc w o).then_alloc p

set_option maxRecDepth 100000 in
theorem may_min (w : World) : Calls Tryz.prog 151 #[.agg #[.int .i64 8, .int .i64 96]] w fun e w' => e = .returned (.bool true) ∧ Chg [] w w' := by
 go_enter Tryz.func151, Tryz.ntmps151
 go_wp2_with fail
 go_ret
 exact ⟨rfl, Chg.alloc _ _⟩
set_option maxRecDepth 100000 in
theorem split_min (w : World) : Calls Tryz.prog 78 #[.agg #[.int .i64 8, .int .i64 96]] w fun e w' => e = .returned (.tuple #[.agg #[.int .i64 0, .int .i64 3, .int .i64 6, .int .i64 7], .int .i64 0]) ∧ Chg [] w w' := by
 go_enter Tryz.func78, Tryz.ntmps78
 go_wp2_with fail
 obtain ⟨g0, g1⟩ := two_new w (.cells #[.int .i64 8, .int .i64 96] 67) (.cells #[.int .i64 0, .int .i64 0, .int .i64 0, .int .i64 0] 98)
 have hc := chg_two w (.cells #[.int .i64 8, .int .i64 96] 67) (.cells #[.int .i64 0, .int .i64 0, .int .i64 0, .int .i64 0] 98)
 generalize (w.alloc (.cells #[.int .i64 8, .int .i64 96] 67)).alloc (.cells #[.int .i64 0, .int .i64 0, .int .i64 0, .int .i64 0] 98) = w1 at *
 refine (may_min w1).mono ?_
 rintro e w2 ⟨rfl, hc2⟩
 have k0 := hc2.heap g0 (by simp)
 have k1 := hc2.heap g1 (by simp)
 have hc3 := hc.then hc2
 have a0 : w2.cell? ⟨w.heap.size, 0, none⟩ = some (.int .i64 8) := cell_is k0 0 rfl
 have a1 : w2.cell? ⟨w.heap.size, 1, none⟩ = some (.int .i64 96) := cell_is k0 1 rfl
 clear g0 g1 k0 hc hc2
 have b0 := unfrozen k1 0
 have b1 := unfrozen k1 1
 have b2 := unfrozen k1 2
 have b3 := unfrozen k1 3
 have c0 := cell_is k1 0 rfl
 have c1 := cell_is k1 1 rfl
 have c2 := cell_is k1 2 rfl
 have c3 := cell_is k1 3 rfl
 go_wp2_with fail
 refine bodyPost_ret (v := .tuple #[.agg #[.int .i64 0, .int .i64 3, .int .i64 6, .int .i64 7], .int .i64 0]) (by simp [results, Tryz.results78, go_sem, c0, c1, c2, c3]) rfl ?_
 exact ⟨rfl, (((hc3.new_set (by omega) _ _).new_set (by omega) _ _).new_set (by omega) _ _).new_set (by omega) _ _⟩
set_option maxRecDepth 100000 in
theorem cap_min (w : World) : Calls Tryz.prog 88 #[.agg #[.int .i64 8, .int .i64 96]] w fun e w' => e = .returned (.int .i64 258) ∧ Chg [] w w' := by
 go_enter Tryz.func88, Tryz.ntmps88
 go_wp2_with fail
 have g0 := heap_new w (.cells #[.int .i64 8, .int .i64 96] 67)
 have hc : Chg [] w (w.alloc (.cells #[.int .i64 8, .int .i64 96] 67)) := Chg.alloc _ _
 generalize w.alloc (.cells #[.int .i64 8, .int .i64 96] 67) = w1 at *
 refine (split_min w1).mono ?_
 rintro e w2 ⟨rfl, hc2⟩
 have k0 := hc2.heap g0 (by simp)
 have hc3 := hc.then hc2
 have a0 : w2.cell? ⟨w.heap.size, 0, none⟩ = some (.int .i64 8) := cell_is k0 0 rfl
 have a1 : w2.cell? ⟨w.heap.size, 1, none⟩ = some (.int .i64 96) := cell_is k0 1 rfl
 have a0a : ∀ o, (w2.alloc o).cell? ⟨w.heap.size, 0, none⟩ = some (.int .i64 8) := fun o => cell_is (heap_old k0) 0 rfl
 have a1a : ∀ o, (w2.alloc o).cell? ⟨w.heap.size, 1, none⟩ = some (.int .i64 96) := fun o => cell_is (heap_old k0) 1 rfl
 clear g0 k0 hc hc2
 go_wp2_with fail
 go_ret
 exact ⟨rfl, hc3.then_alloc _⟩

def DevAt (w : World) (N A c : Nat) (ops : Int) (Z : List Nat) : Prop :=
 w.heap[N]? = some (.cells #[.int .i64 8, .int .i64 96, .slice (some ⟨A, 0, none⟩) 8 c, .int .i64 ops, .int .i64 0, .bool false, .int .i64 0, .bool false] 128 (0, 0)) ∧ 8 ≤ c ∧ Z.length = 8 ∧
 (∀ j (h : j < Z.length), w.cell? ⟨A, j, none⟩ = some (.pointer (some ⟨Z[j], 0, none⟩))) ∧
 (∀ j (h : j < Z.length), w.heap[Z[j]]? = some (.cells #[.slice none 0 0, .int .i64 0] 132 (0, 0)))
theorem DevAt.keep {w w' : World} {S : List Nat} {N A c : Nat} {ops : Int} {Z : List Nat} (h : DevAt w N A c ops Z) (hc : Chg S w w') (h1 : N ∉ S) (h2 : A ∉ S) (h3 : ∀ z ∈ Z, z ∉ S) : DevAt w' N A c ops Z := by
 obtain ⟨a, b, d, e, f⟩ := h
 exact ⟨hc.heap a h1, b, d, fun j hj => hc.cell (e j hj) h2, fun j hj => hc.heap (f j hj) (h3 _ (List.getElem_mem hj))⟩
set_option maxRecDepth 100000 in
theorem gone_any (w : World) {N A c : Nat} {ops : Int} {Z : List Nat} (h : DevAt w N A c ops Z) : Calls Tryz.prog 152 #[.pointer (some ⟨N, 0, none⟩)] w fun e w' => e = .returned (.bool false) ∧ w = w' := by
 obtain ⟨h1, -⟩ := h
 have e2 : w.cell? ⟨N, 2, none⟩ = some (.slice (some ⟨A, 0, none⟩) 8 c) := cell_is h1 2 rfl
 clear h1
 go_enter Tryz.func152, Tryz.ntmps152
 go_wp2_with fail
 go_ret
 exact ⟨rfl, rfl⟩
set_option maxRecDepth 100000 in
theorem geometry_any (w : World) {N A c : Nat} {ops : Int} {Z : List Nat} (h : DevAt w N A c ops Z) : Calls Tryz.prog 79 #[.pointer (some ⟨N, 0, none⟩)] w fun e w' => e = .returned (.agg #[.int .i64 8, .int .i64 96]) ∧ Chg [] w w' := by
 go_enter Tryz.func79, Tryz.ntmps79
 go_wp2_with fail
 have g0 := heap_new w (.cells #[.int .i64 0, .int .i64 0] 67)
 have hc : Chg [] w (w.alloc (.cells #[.int .i64 0, .int .i64 0] 67)) := Chg.alloc _ _
 have h2 := h.keep hc (by simp) (by simp) (by simp)
 have hN := heap_lt h.1
 generalize w.alloc (.cells #[.int .i64 0, .int .i64 0] 67) = w1 at *
 refine (gone_any w1 h2).mono ?_
 rintro e w2 ⟨rfl, rfl⟩
 have e0 : w1.cell? ⟨N, 0, none⟩ = some (.int .i64 8) := cell_is h2.1 0 rfl
 have e1 : w1.cell? ⟨N, 1, none⟩ = some (.int .i64 96) := cell_is h2.1 1 rfl
 have c0 := cell_is g0 0 rfl
 have c1 := cell_is g0 1 rfl
 have f0 := unfrozen g0 0
 have f1 := unfrozen g0 1
 clear h h2 g0
 go_wp2_with fail
 refine bodyPost_ret (v := .agg #[.int .i64 8, .int .i64 96]) (by simp [results, Tryz.results79, go_sem, c0, c1]) rfl ?_
 exact ⟨rfl, (hc.new_set (by omega) _ _).new_set (by omega) _ _⟩
set_option maxRecDepth 100000 in
theorem at_any (w : World) {N A c : Nat} {ops : Int} {Z : List Nat} (h : DevAt w N A c ops Z) (j : Nat) (hj : j < Z.length) : Calls Tryz.prog 131 #[.pointer (some ⟨N, 0, none⟩), .int .i64 j] w fun e w' => e = .returned (.pointer (some ⟨Z[j], 0, none⟩)) ∧ w = w' := by
 have HG := Lib.hid (gone_any w h)
 obtain ⟨h1, hc, hz, h4, -⟩ := h
 have e2 : w.cell? ⟨N, 2, none⟩ = some (.slice (some ⟨A, 0, none⟩) 8 c) := cell_is h1 2 rfl
 have e3 := h4 j hj
 have hj8 : j < 8 := by omega
 clear h1 h4
 generalize Z[j] = z at *
 go_enter Tryz.func131, Tryz.ntmps131
 go_wp2_with fail
 refine HG.out.mono ?_
 rintro e w1 ⟨rfl, rfl⟩
 go_wp2_with fail
 go_ret
 exact ⟨rfl, rfl⟩
set_option maxRecDepth 100000 in
theorem pointer_any (w : World) {N A c : Nat} {ops : Int} {Z : List Nat} (h : DevAt w N A c ops Z) (j : Nat) (hj : j < Z.length) : Calls Tryz.prog 59 #[.pointer (some ⟨N, 0, none⟩), .int .i64 j] w fun e w' => e = .returned (.tuple #[.int .i64 0, .int .i64 0]) ∧ w = w' := by
 have HA := Lib.hid (at_any w h j hj)
 have h5 := h.2.2.2.2 j hj
 have e0 : w.cell? ⟨Z[j], 0, none⟩ = some (.slice none 0 0) := cell_is h5 0 rfl
 clear h5
 generalize Z[j] = z at *
 go_enter Tryz.func59, Tryz.ntmps59
 go_wp2_with fail
 refine HA.out.mono ?_
 rintro e w1 ⟨rfl, rfl⟩
 go_wp2_with fail
 go_ret2
 exact ⟨rfl, rfl⟩
def DevOk (N A : Nat) (Z : List Nat) : Prop := A ≠ N ∧ N ∉ Z ∧ A ∉ Z
theorem DevAt.ops {w : World} {N A c : Nat} {ops : Int} {Z : List Nat} (h : DevAt w N A c ops Z) (hd : DevOk N A Z) (n : Int) : DevAt (w.setCell ⟨N, 3, none⟩ (.int .i64 n)) N A c n Z := by
 obtain ⟨a, b, d, e, f⟩ := h
 have hc := Chg.set w N 3 (.int .i64 n)
 refine ⟨heap_set a 3 _ rfl, b, d, fun j hj => hc.cell (e j hj) (by simpa using hd.1), fun j hj => hc.heap (f j hj) ?_⟩
 have := hd.2.1
 intro hm
 rw [List.mem_singleton] at hm
 exact this (hm ▸ List.getElem_mem hj)
theorem DevAt.off {w : World} {N A c : Nat} {ops : Int} {Z : List Nat} (h : DevAt w N A c ops Z) (hd : DevOk N A Z) : DevAt (w.setCell ⟨N, 7, none⟩ (.bool false)) N A c ops Z := by
 obtain ⟨a, b, d, e, f⟩ := h
 have hc := Chg.set w N 7 (.bool false)
 refine ⟨heap_set a 7 _ rfl, b, d, fun j hj => hc.cell (e j hj) (by simpa using hd.1), fun j hj => hc.heap (f j hj) ?_⟩
 have := hd.2.1
 intro hm
 rw [List.mem_singleton] at hm
 exact this (hm ▸ List.getElem_mem hj)
set_option maxRecDepth 100000 in
theorem begin_any (w : World) {N A c : Nat} {ops : Int} {Z : List Nat} (h : DevAt w N A c ops Z) (hd : DevOk N A Z) (h0 : 0 ≤ ops) (h1 : ops ≤ 1000000) : Calls Tryz.prog 132 #[.pointer (some ⟨N, 0, none⟩)] w fun e w' => e = .returned (.bool true) ∧ Chg [N] w w' ∧ DevAt w' N A c (ops + 1) Z := by
 have hfin : ∀ w', w' = (w.setCell ⟨N, 3, none⟩ (.int .i64 (ops + 1))).setCell ⟨N, 7, none⟩ (.bool false) → Chg [N] w w' ∧ DevAt w' N A c (ops + 1) Z := by
  rintro w' rfl
  exact ⟨(Chg.set w N 3 _).then (Chg.set _ N 7 _), (h.ops hd _).off hd⟩
 have e3 : w.cell? ⟨N, 3, none⟩ = some (.int .i64 ops) := cell_is h.1 3 rfl
 have e5 : w.cell? ⟨N, 5, none⟩ = some (.bool false) := cell_is h.1 5 rfl
 have e7 : w.cell? ⟨N, 7, none⟩ = some (.bool false) := cell_is h.1 7 rfl
 have f3 := unfrozen h.1 3
 have f7 := unfrozen h.1 7
 have HF := Lib.hid hfin
 clear h hfin
 go_enter Tryz.func132, Tryz.ntmps132
 go_wp2_with fail
 go_ret
 exact ⟨rfl, HF.out _ rfl⟩
theorem DevAt.good {w : World} {N A c : Nat} {ops : Int} {Z : List Nat} (h : DevAt w N A c ops Z) (hd : DevOk N A Z) (z : Nat) (hz : z ∈ Z) : DevAt (w.setCell ⟨z, 1, none⟩ (.int .i64 0)) N A c ops Z := by
 obtain ⟨a, b, d, e, f⟩ := h
 have hc := Chg.set w z 1 (.int .i64 0)
 have hN : N ≠ z := fun e => hd.2.1 (e ▸ hz)
 have hA : A ≠ z := fun e => hd.2.2 (e ▸ hz)
 refine ⟨hc.heap a (by simpa using hN), b, d, fun j hj => hc.cell (e j hj) (by simpa using hA), fun j hj => ?_⟩
 by_cases hj2 : Z[j] = z
 ·rw [hj2]; exact heap_set (hj2 ▸ f j hj) 1 _ rfl
 ·exact heap_set_ne (f j hj) hj2 1 _
set_option maxRecDepth 100000 in
set_option maxHeartbeats 1000000 in
theorem flush_any (w : World) {N A c : Nat} {ops : Int} {Z : List Nat} (h : DevAt w N A c ops Z) (hd : DevOk N A Z) (h0 : 0 ≤ ops) (h1 : ops ≤ 1000000) : Calls Tryz.prog 137 #[.pointer (some ⟨N, 0, none⟩)] w fun e w' => e = .returned (.int .i64 0) ∧ Chg (N :: Z) w w' ∧ DevAt w' N A c (ops + 1) Z := by
 have HG := Lib.hid (gone_any w h)
 have HB := Lib.hid (begin_any w h hd h0 h1)
 clear h
 go_enter Tryz.func137, Tryz.ntmps137
 go_wp2_with fail
 refine HG.out.mono ?_
 rintro e w1 ⟨rfl, rfl⟩
 go_wp2_with fail
 refine HB.out.mono ?_
 rintro e w1 ⟨rfl, hc1, h2⟩
 have hC1 : Chg (N :: Z) w w1 := hc1.mono (fun x hx _ => by rw [List.mem_singleton] at hx; simp [hx])
 have e2 : w1.cell? ⟨N, 2, none⟩ = some (.slice (some ⟨A, 0, none⟩) 8 c) := cell_is h2.1 2 rfl
 have hc8 := h2.2.1
 clear hc1 HG HB
 go_wp2_with fail
 go_loopw [17] (fun i wr => ∃ j : Nat, i = .int .i64 j ∧ j ≤ 8 ∧ DevAt wr N A c (ops + 1) Z ∧ Chg (N :: Z) w wr) (fun i _ => 8 - (intOf i).toNat)
 case atStart => exact ⟨0, rfl, by omega, h2, hC1⟩
 case round =>
  obtain ⟨j, rfl, hj, hD, hC⟩ := hrel
  by_cases hlt : j < 8
  ·have hjz : j < Z.length := by have := hD.2.2.1; omega
   have hm : Z[j] ∈ Z := List.getElem_mem hjz
   have hfin : ∀ w', w' = wr.setCell ⟨Z[j], 1, none⟩ (.int .i64 0) → DevAt w' N A c (ops + 1) Z ∧ Chg (N :: Z) w w' := by
    rintro w' rfl
    exact ⟨hD.good hd _ hm, hC.then_set (fun _ => List.mem_cons_of_mem _ hm) _ _⟩
   have a0 := hD.2.2.2.1 j hjz
   have k0 := hD.2.2.2.2 j hjz
   have b0 : wr.cell? ⟨Z[j], 0, none⟩ = some (.slice none 0 0) := cell_is k0 0 rfl
   have b1 : wr.cell? ⟨Z[j], 1, none⟩ = some (.int .i64 0) := cell_is k0 1 rfl
   have f1 := unfrozen k0 1
   have HF := Lib.hid hfin
   clear hfin hD hC k0 h2 hC1 e2 hm
   generalize Z[j] = z at *
   go_wp2_with fail
   go_roundw
   case rel => exact ⟨j + 1, by go_num, by omega, HF.out _ rfl⟩
   case measure => simp [intOf]; omega
  ·go_wp2_with fail
   go_ret
   exact ⟨rfl, hC, hD⟩
theorem ty128 : Tryz.prog.underlying 126 = some (.slice 129) := by kernel_rfl
theorem inf131 : (Tryz.prog.info? 129).map (fun i => (i.zero, i.size, i.bytes)) = some (some (.pointer none), 1, 8) := by kernel_rfl
def ptrs (Z : List Nat) : List Value := Z.map (fun z => Value.pointer (some ⟨z, 0, none⟩))
def NewInv (w wr : World) (N : Nat) (Z : List Nat) (v : Value) : Prop :=
 Chg [] w wr ∧ w.heap.size ≤ N ∧ N + 1 ≤ wr.heap.size ∧ (∃ p m c, v = .slice p m c) ∧
 wr.heap[N]? = some (.cells #[.int .i64 8, .int .i64 96, v, .int .i64 0, .int .i64 0, .bool false, .int .i64 0, .bool false] 128 (0, 0)) ∧
 wr.ownsRow (N + 1) 129 1 v Z.length (ptrs Z) ∧ ∀ z ∈ Z, N < z ∧ wr.heap[z]? = some (.cells #[.slice none 0 0, .int .i64 0] 132 (0, 0))
theorem grown_set (w : World) (g i : Nat) (v : Value) : w.grownBy (w.setCell ⟨g, i, none⟩ v) (some g) :=
 ⟨rfl, rfl, rfl, by simp [World.setCell], fun k _ hk => Below.heap_setCell _ _ _ _ (by intro e; exact hk (by rw [e]))⟩
theorem own_other {w w' : World} {base e size n x : Nat} {v : Value} {xs : List Value} (h : w.ownsRow base e size v n xs) (hg : w.grownBy w' (some x)) (hx : x < base) : w'.ownsRow base e size v n xs :=
 h.kept hg (by
  cases hv : v.ownBlock with
  | none => exact Or.inl rfl
  | some g => exact Or.inr (by intro e; injection e with e; have := (h.lt g hv).1; omega))
theorem own_slice {w : World} {base e size n : Nat} {v : Value} {xs : List Value} (h : w.ownsRow base e size v n xs) : ∃ pa c, v = .slice pa n c := by
 rcases h.2 with ⟨rfl, rfl⟩ | ⟨g, cap, cur, rfl, _⟩
 ·exact ⟨_, _, rfl⟩
 ·exact ⟨_, _, rfl⟩
theorem own_elem {w : World} {base e size n g : Nat} {v : Value} {xs : List Value} (h : w.ownsRow base e size v n xs) (hg : v.ownBlock = some g) : base ≤ g ∧ ∃ cur, w.heap[g]? = some (.cells cur e (0, 0)) := by
 rcases h.2 with ⟨rfl, _⟩ | ⟨g', cap, cur, rfl, hb, hh, _⟩
 ·cases hg
 ·obtain rfl : g' = g := by injection hg
  exact ⟨hb, _, hh⟩
theorem Chg.own {w w' : World} {v : Value} (h : w.grownBy w' v.ownBlock) {S : List Nat} (hS : ∀ g, v.ownBlock = some g → g < w.heap.size → g ∈ S) : Chg S w w' :=
 ⟨h.os, h.tape, h.output, h.size, fun k hk hs => h.block k hk (fun e => hs (hS k e.symm hk))⟩
theorem grown_heap {w w' : World} {v : Value} (h : w.grownBy w' v.ownBlock) {g : Nat} {o : Obj} (hg : w.heap[g]? = some o) (hne : v.ownBlock ≠ some g) : w'.heap[g]? = some o :=
 (h.block g (heap_lt hg) (fun e => hne e.symm)).trans hg
theorem NewInv.step {w wr w1 w2 : World} {N : Nat} {Z : List Nat} {v v' : Value} (h : NewInv w wr N Z v) (hw1 : w1 = wr.alloc (.cells #[.slice none 0 0, .int .i64 0] 132))
  (hap : AppendedV (N + 1) 129 1 w1 v (Z.length + 1) (ptrs Z ++ [.pointer (some ⟨wr.heap.size, 0, none⟩)]) v' w2) : NewInv w (w2.setCell ⟨N, 2, none⟩ v') N (Z ++ [wr.heap.size]) v' := by
 obtain ⟨hc, hN, hN1, hv, hb, ho, hz⟩ := h
 obtain ⟨ho2, hb2, hg2⟩ := hap
 have hs1 : w1.heap.size = wr.heap.size + 1 := by rw [hw1]; simp
 have hc1 : Chg [] wr w1 := by rw [hw1]; exact Chg.alloc _ _
 have hnew : w1.heap[wr.heap.size]? = some (.cells #[.slice none 0 0, .int .i64 0] 132 (0, 0)) := by rw [hw1]; exact heap_new _ _
 have ho1 : w1.ownsRow (N + 1) 129 1 v Z.length (ptrs Z) := by rw [hw1]; exact ho.alloc _
 have hno : ∀ g cs, w1.heap[g]? = some (.cells cs 132 (0, 0)) → v.ownBlock ≠ some g := by
  intro g cs hg e
  obtain ⟨_, cur, hh⟩ := own_elem ho1 e
  rw [hg] at hh
  injection hh with hh
  injection hh with e1 e2
  cases e2
 have hNo : v.ownBlock ≠ some N := by
  intro e
  have := (own_elem ho1 e).1
  omega
 have hbN := grown_heap hg2 (hc1.heap hb (by simp)) hNo
 have hset := Chg.set w2 N 2 v'
 obtain ⟨pa, c, hv'⟩ := own_slice ho2
 have hall : Chg [] w w2 := by
  cases hob : v.ownBlock with
  | none => rw [hob] at hg2; exact (hc.then hc1).then (Chg.of_grown0 hg2)
  | some g =>
   rw [hob] at hg2
   have := (own_elem ho1 hob).1
   exact (hc.then hc1).trans (Chg.of_grown hg2) (fun x hx hl => by rw [List.mem_singleton] at hx; omega)
 have hsz := hg2.size
 refine ⟨hall.new_set (by omega) _ _, hN, Nat.le_trans hN1 (by have := hset.size; omega), ⟨_, _, _, hv'⟩, heap_set hbN 2 _ rfl, ?_, ?_⟩
 ·have e : (Z ++ [wr.heap.size]).length = Z.length + 1 := by simp
  have e2 : ptrs (Z ++ [wr.heap.size]) = ptrs Z ++ [.pointer (some ⟨wr.heap.size, 0, none⟩)] := by simp [ptrs]
  rw [e, e2]
  exact own_other ho2 (grown_set w2 N 2 v') (by omega)
 ·intro z hm
  rcases List.mem_append.1 hm with hm | hm
  ·obtain ⟨h1, h2⟩ := hz z hm
   exact ⟨h1, heap_set_ne (grown_heap hg2 (hc1.heap h2 (by simp)) (hno z _ (hc1.heap h2 (by simp)))) (by omega) _ _⟩
  ·rw [List.mem_singleton] at hm
   subst hm
   exact ⟨by omega, heap_set_ne (grown_heap hg2 hnew (hno _ _ hnew)) (by omega) _ _⟩
theorem NewInv.cell {w wr w1 w2 : World} {N : Nat} {Z : List Nat} {v v' : Value} {xs : List Value} {n : Nat} (h : NewInv w wr N Z v) (hw1 : w1 = wr.alloc (.cells #[.slice none 0 0, .int .i64 0] 132))
  (hap : AppendedV (N + 1) 129 1 w1 v n xs v' w2) : w2.cell? ⟨N, 2, none⟩ = some v ∧ w2.frozen? ⟨N, 2, none⟩ = false := by
 obtain ⟨hc, hN, hN1, hv, hb, ho, hz⟩ := h
 have hc1 : Chg [] wr w1 := by rw [hw1]; exact Chg.alloc _ _
 have ho1 : w1.ownsRow (N + 1) 129 1 v Z.length (ptrs Z) := by rw [hw1]; exact ho.alloc _
 have hNo : v.ownBlock ≠ some N := by
  intro e
  have := (own_elem ho1 e).1
  omega
 have hbN := grown_heap hap.2.2 (hc1.heap hb (by simp)) hNo
 exact ⟨cell_is hbN 2 rfl, unfrozen hbN 2⟩
set_option maxRecDepth 100000 in
theorem clone_nil (w : World) : Calls Tryz.prog 126 #[.slice none 0 0] w fun e w' => e = .returned (.slice none 0 0) ∧ w = w' := by
 have hn : ∀ w, (binOp .eql 47 (.slice none 0 0) (.slice none 0 0)).run Tryz.prog w = .ok (.bool true) w := fun w => run_eql_nil_slice w 47 5 none 0 0 0 0 Tryz.underlying47
 go_enter Tryz.func126, Tryz.ntmps126
 go_wp2_with fail
 go_ret
 exact ⟨rfl, rfl⟩
set_option maxRecDepth 100000 in
theorem idxf_nil (fv : Value) (w : World) : Calls Tryz.prog 159 #[.slice none 0 0, fv] w fun e w' => e = .returned (.int .i64 (-1)) ∧ w = w' := by
 go_enter Tryz.func159, Tryz.ntmps159
 go_wp2_with fail
 go_loop [8] (fun a => a = .int .i64 0) (fun _ => 0)
 case atStart => rfl
 case round =>
  subst hrel
  go_wp2_with fail
  go_ret
  exact ⟨rfl, rfl⟩
set_option maxRecDepth 100000 in
theorem contf_nil (fv : Value) (w : World) : Calls Tryz.prog 84 #[.slice none 0 0, fv] w fun e w' => e = .returned (.bool false) ∧ w = w' := by
 go_enter Tryz.func84, Tryz.ntmps84
 go_wp2_with fail
 refine (idxf_nil fv w).mono ?_
 rintro e w1 ⟨rfl, rfl⟩
 go_wp2_with fail
 go_ret
 exact ⟨rfl, rfl⟩
set_option maxRecDepth 100000 in
theorem read_nil (w : World) : Calls Tryz.prog 155 #[.slice none 0 0] w fun e w' => e = .returned (.tuple #[.slice none 0 0, .int .i64 0]) ∧ w = w' := by
 go_enter Tryz.func155, Tryz.ntmps155
 go_wp2_with fail
 go_step3
 go_wp2_with fail
 go_step3
 go_wp2_with fail
 go_loop [10] (fun a => a = .int .i64 0) (fun _ => 0)
 case atStart => rfl
 case round =>
  subst hrel
  go_wp2_with fail
  go_ret2
  exact ⟨rfl, rfl⟩

def SlotAt (w : World) (S N : Nat) : Prop :=
 w.heap[S]? = some (.cells #[.pointer (some ⟨N, 0, none⟩), .int .i64 0, .int .i64 3, .int .i64 6, .int .i64 96, .int .i64 1, .slice none 0 0, .int .i64 0, .bool false] 210 (0, 0))
theorem slot_cells {w : World} {S N : Nat} (h : SlotAt w S N) : w.cell? ⟨S, 0, none⟩ = some (.pointer (some ⟨N, 0, none⟩)) ∧ w.cell? ⟨S, 1, none⟩ = some (.int .i64 0) ∧ w.cell? ⟨S, 2, none⟩ = some (.int .i64 3) ∧
  w.cell? ⟨S, 3, none⟩ = some (.int .i64 6) ∧ w.cell? ⟨S, 4, none⟩ = some (.int .i64 96) ∧ w.cell? ⟨S, 5, none⟩ = some (.int .i64 1) ∧ w.cell? ⟨S, 6, none⟩ = some (.slice none 0 0) ∧ w.cell? ⟨S, 7, none⟩ = some (.int .i64 0) ∧ w.cell? ⟨S, 8, none⟩ = some (.bool false) :=
 ⟨cell_is h 0 rfl, cell_is h 1 rfl, cell_is h 2 rfl, cell_is h 3 rfl, cell_is h 4 rfl, cell_is h 5 rfl, cell_is h 6 rfl, cell_is h 7 rfl, cell_is h 8 rfl⟩
set_option maxRecDepth 100000 in
theorem load_any (w : World) {S N : Nat} (h : SlotAt w S N) : Calls Tryz.prog 81 #[.pointer (some ⟨S, 0, none⟩)] w fun e w' => e = .returned (.tuple #[.slice none 0 0, .int .i64 0]) ∧ Chg [] w w' := by
 obtain ⟨-, -, -, -, -, -, c6, c7, -⟩ := slot_cells h
 clear h
 go_enter Tryz.func81, Tryz.ntmps81
 go_wp2_with fail
 have c6d : w.drew.cell? ⟨S, 6, none⟩ = some (.slice none 0 0) := c6
 have c7d : w.drew.cell? ⟨S, 7, none⟩ = some (.int .i64 0) := c7
 go_region_with (go_at_call 126; refine (clone_nil _).mono ?_; rintro e w1 ⟨rfl, rfl⟩)
 all_goals
  go_wp2_with fail
  go_ret2
  exact ⟨rfl, (Chg.refl _ w).drew⟩
set_option maxRecDepth 100000 in
theorem blocks0 (w : World) {S N A c : Nat} {ops : Int} {Z : List Nat} (h : SlotAt w S N) (hD : DevAt w N A c ops Z) : Calls Tryz.prog 153 #[.pointer (some ⟨S, 0, none⟩), .int .i64 0] w fun e w' => e = .returned (.slice none 0 0) ∧ w = w' := by
 obtain ⟨c0, c1, c2, c3, c4, -, -, -, -⟩ := slot_cells h
 have HP := Lib.hid (pointer_any w hD 0 (by have := hD.2.2.1; omega))
 clear h hD
 go_enter Tryz.func153, Tryz.ntmps153
 go_wp2_with fail
 go_loop [4, 5] (fun a b => a = .slice none 0 0 ∧ b = .int .i64 0) (fun _ _ => 0)
 case atStart => exact ⟨rfl, rfl⟩
 case round =>
  obtain ⟨rfl, rfl⟩ := hrel
  go_wp2_with fail
  refine HP.out.mono ?_
  rintro e w1 ⟨rfl, rfl⟩
  go_wp2_with fail
  go_loop [4, 38] (fun b a => b = .slice none 0 0 ∧ a = .int .i64 0) (fun _ _ => 0)
  case atStart => exact ⟨rfl, rfl⟩
  case round =>
   obtain ⟨rfl, rfl⟩ := hrel
   go_wp2_with fail
   go_ret
   exact ⟨rfl, rfl⟩
set_option maxRecDepth 100000 in
theorem blocks1 (w : World) {S N A c : Nat} {ops : Int} {Z : List Nat} (h : SlotAt w S N) (hD : DevAt w N A c ops Z) : Calls Tryz.prog 153 #[.pointer (some ⟨S, 0, none⟩), .int .i64 1] w fun e w' => e = .returned (.slice none 0 0) ∧ w = w' := by
 obtain ⟨c0, c1, c2, c3, c4, -, -, -, -⟩ := slot_cells h
 have HP := Lib.hid (pointer_any w hD 3 (by have := hD.2.2.1; omega))
 clear h hD
 go_enter Tryz.func153, Tryz.ntmps153
 go_wp2_with fail
 go_loop [4, 5] (fun a b => a = .slice none 0 0 ∧ b = .int .i64 3) (fun _ _ => 0)
 case atStart => exact ⟨rfl, rfl⟩
 case round =>
  obtain ⟨rfl, rfl⟩ := hrel
  go_wp2_with fail
  refine HP.out.mono ?_
  rintro e w1 ⟨rfl, rfl⟩
  go_wp2_with fail
  go_loop [4, 38] (fun b a => b = .slice none 0 0 ∧ a = .int .i64 0) (fun _ _ => 0)
  case atStart => exact ⟨rfl, rfl⟩
  case round =>
   obtain ⟨rfl, rfl⟩ := hrel
   go_wp2_with fail
   go_ret
   exact ⟨rfl, rfl⟩
theorem SlotAt.keep {w w' : World} {T : List Nat} {S N : Nat} (h : SlotAt w S N) (hc : Chg T w w') (hs : S ∉ T) : SlotAt w' S N := hc.heap h hs
def OpenR (w : World) (N A c : Nat) (ops : Int) (Z : List Nat) (e : Ending) (w' : World) : Prop :=
 ∃ S, e = .returned (.tuple #[.pointer (some ⟨S, 0, none⟩), .int .i64 0]) ∧ Chg (N :: Z) w w' ∧ DevAt w' N A c (ops + 1) Z ∧ SlotAt w' S N ∧ w.heap.size ≤ S
set_option maxRecDepth 100000 in
set_option maxHeartbeats 1000000 in
theorem open_any (w : World) {N A c : Nat} {ops : Int} {Z : List Nat} (hD : DevAt w N A c ops Z) (hd : DevOk N A Z) (hlt : ∀ z ∈ Z, z < w.heap.size) (h0 : 0 ≤ ops) (h1 : ops ≤ 1000000) : Calls Tryz.prog 80 #[.pointer (some ⟨N, 0, none⟩), .int .i64 0, .int .i64 3, .int .i64 6] w (OpenR w N A c ops Z) := by
 go_enter Tryz.func80, Tryz.ntmps80
 go_wp2_with fail
 refine (geometry_any w hD).mono ?_
 rintro e w1 ⟨rfl, hc1⟩
 have hD1 := hD.keep hc1 (by simp) (by simp) (by simp)
 go_wp2_with fail
 have g1 := (two_new w1 (.cells #[.int .i64 8, .int .i64 96] 67) (.cells #[.pointer (some ⟨N, 0, none⟩), .int .i64 0, .int .i64 3, .int .i64 6, .int .i64 96, .int .i64 1, .slice none 0 0, .int .i64 0, .bool false] 210)).2
 have hc2 := hc1.then (chg_two w1 (.cells #[.int .i64 8, .int .i64 96] 67) (.cells #[.pointer (some ⟨N, 0, none⟩), .int .i64 0, .int .i64 3, .int .i64 6, .int .i64 96, .int .i64 1, .slice none 0 0, .int .i64 0, .bool false] 210))
 have hsz := hc1.size
 generalize (w1.alloc (.cells #[.int .i64 8, .int .i64 96] 67)).alloc (.cells #[.pointer (some ⟨N, 0, none⟩), .int .i64 0, .int .i64 3, .int .i64 6, .int .i64 96, .int .i64 1, .slice none 0 0, .int .i64 0, .bool false] 210) = w2 at *
 have hS : SlotAt w2 (w1.heap.size + 1) N := g1
 have hD2 := hD.keep hc2 (by simp) (by simp) (by simp)
 have hNS : w1.heap.size + 1 ∉ N :: Z := by
  have hN := heap_lt hD.1
  intro hm
  rcases List.mem_cons.1 hm with hm | hm
  ·omega
  ·have := hlt _ hm; omega
 have hS0 : w.heap.size ≤ w1.heap.size + 1 := by omega
 generalize w1.heap.size + 1 = S at *
 have c7 := (slot_cells hS).2.2.2.2.2.2.2.1
 clear hD hD1 g1 hc1
 go_loop [51] (fun i => i = .int .i64 0 ∨ i = .int .i64 1 ∨ i = .int .i64 2) (fun i => 2 - (intOf i).toNat)
 case atStart => exact Or.inl rfl
 case round =>
  rcases hrel with rfl | rfl | rfl
  ·go_wp2_with fail
   refine (blocks0 w2 hS hD2).mono ?_
   rintro e w3 ⟨rfl, rfl⟩
   go_wp2_with fail
   refine (contf_nil _ w2).mono ?_
   rintro e w3 ⟨rfl, rfl⟩
   go_wp2_with fail
   refine (read_nil w2).mono ?_
   rintro e w3 ⟨rfl, rfl⟩
   go_wp2_with fail
   go_round
   case rel => exact Or.inr (Or.inl rfl)
   case measure => decide
  ·go_wp2_with fail
   refine (blocks1 w2 hS hD2).mono ?_
   rintro e w3 ⟨rfl, rfl⟩
   go_wp2_with fail
   refine (contf_nil _ w2).mono ?_
   rintro e w3 ⟨rfl, rfl⟩
   go_wp2_with fail
   refine (read_nil w2).mono ?_
   rintro e w3 ⟨rfl, rfl⟩
   go_wp2_with fail
   go_round
   case rel => exact Or.inr (Or.inr rfl)
   case measure => decide
  ·go_wp2_with fail
   refine (flush_any w2 hD2 hd h0 h1).mono ?_
   rintro e w3 ⟨rfl, hc3, hD3⟩
   have hS3 := hS.keep hc3 hNS
   have hc4 : Chg (N :: Z) w w3 := (hc2.mono (T := N :: Z) (fun x hx _ => by cases hx)).then hc3
   go_wp2_with fail
   go_ret2
   exact ⟨S, rfl, hc4, hD3, hS3, hS0⟩
def StateAt (w : World) (R r : Nat) : Prop := w.heap[R]? = some (.cells #[.int .i64 0, .map (some r)] 151 (0, 0)) ∧ MapAt w r []
set_option maxRecDepth 100000 in
theorem parse_nil (w : World) : Calls Tryz.prog 82 #[.slice none 0 0] w fun e w' => ∃ R r, e = .returned (.tuple #[.pointer (some ⟨R, 0, none⟩), .bool true]) ∧ Chg [] w w' ∧ StateAt w' R r ∧ w.heap.size ≤ R ∧ w.heap.size ≤ r := by
 have hm := @run_makeMap Tryz.prog
 have h2 := two_new w (.map #[] 0) (.cells #[.int .i64 0, .map (some w.heap.size)] 151)
 have hc := chg_two w (.map #[] 0) (.cells #[.int .i64 0, .map (some w.heap.size)] 151)
 have HF : Hid (∃ R r, R = w.heap.size + 1 ∧ Chg [] w ((w.alloc (.map #[] 0)).alloc (.cells #[.int .i64 0, .map (some w.heap.size)] 151)) ∧ StateAt ((w.alloc (.map #[] 0)).alloc (.cells #[.int .i64 0, .map (some w.heap.size)] 151)) R r ∧ w.heap.size ≤ R ∧ w.heap.size ≤ r) :=
  Lib.hid ⟨_, w.heap.size, rfl, hc, ⟨h2.2, ⟨#[], 0, h2.1, rfl, MapKept.stamped_empty 0⟩⟩, by omega, Nat.le_refl _⟩
 clear h2 hc
 go_enter Tryz.func82, Tryz.ntmps82
 go_wp2_with fail
 go_ret2
 obtain ⟨R, r, rfl, h1, h2, h3, h4⟩ := HF.out
 exact ⟨_, r, rfl, h1, h2, h3, h4⟩

def StoreAt (w : World) (P N S : Nat) (m : Option Addr) : Prop :=
 w.heap[P]? = some (.cells #[.pointer (some ⟨N, 0, none⟩), .int .i64 0, .int .i64 3, .int .i64 6, .int .i64 7, .pointer m, .pointer (some ⟨S, 0, none⟩), .int .i64 0, .int .i64 0, .bool false] 102 (0, 0))
theorem store_cells {w : World} {P N S : Nat} {m : Option Addr} (h : StoreAt w P N S m) : w.cell? ⟨P, 0, none⟩ = some (.pointer (some ⟨N, 0, none⟩)) ∧ w.cell? ⟨P, 1, none⟩ = some (.int .i64 0) ∧ w.cell? ⟨P, 2, none⟩ = some (.int .i64 3) ∧ w.cell? ⟨P, 3, none⟩ = some (.int .i64 6) ∧
  w.cell? ⟨P, 4, none⟩ = some (.int .i64 7) ∧ w.cell? ⟨P, 5, none⟩ = some (.pointer m) ∧ w.cell? ⟨P, 6, none⟩ = some (.pointer (some ⟨S, 0, none⟩)) ∧ w.cell? ⟨P, 7, none⟩ = some (.int .i64 0) ∧ w.cell? ⟨P, 8, none⟩ = some (.int .i64 0) ∧ w.cell? ⟨P, 9, none⟩ = some (.bool false) :=
 ⟨cell_is h 0 rfl, cell_is h 1 rfl, cell_is h 2 rfl, cell_is h 3 rfl, cell_is h 4 rfl, cell_is h 5 rfl, cell_is h 6 rfl, cell_is h 7 rfl, cell_is h 8 rfl, cell_is h 9 rfl⟩
theorem StoreAt.keep {w w' : World} {T : List Nat} {P N S : Nat} {m : Option Addr} (h : StoreAt w P N S m) (hc : Chg T w w') (hs : P ∉ T) : StoreAt w' P N S m := hc.heap h hs
theorem field_size (w : World) : (Instr.field 67 (.agg #[.int .i64 8, .int .i64 96]) 1).run Tryz.prog w = .ok (.int .i64 96) w := by kernel_rfl
set_option maxRecDepth 100000 in
set_option maxHeartbeats 1000000 in
theorem log_any (w : World) {P N S A c : Nat} {m : Option Addr} {ops : Int} {Z : List Nat} (h : StoreAt w P N S m) (hD : DevAt w N A c ops Z) : Calls Tryz.prog 83 #[.pointer (some ⟨P, 0, none⟩)] w fun e w' => e = .returned (.tuple #[.slice none 0 0, .slice none 0 0]) ∧ Chg [] w w' := by
 obtain ⟨c0, -⟩ := store_cells h
 have hfs := field_size
 go_enter Tryz.func83, Tryz.ntmps83
 go_wp2_with fail
 refine (geometry_any w hD).mono ?_
 rintro e w1 ⟨rfl, hc1⟩
 have hD1 := hD.keep hc1 (by simp) (by simp) (by simp)
 have hS1 := h.keep hc1 (by simp)
 clear c0
 obtain ⟨c0, -, -, c3, c4, -⟩ := store_cells hS1
 have h6 := Lib.hid (pointer_any w1 hD1 6 (by have := hD.2.2.1; omega))
 have h7 := Lib.hid (pointer_any w1 hD1 7 (by have := hD.2.2.1; omega))
 clear hS1 h hD hD1
 go_wp2_with fail
 go_loop [2, 3, 5, 6] (fun a b g z => a = .slice none 0 0 ∧ b = .slice none 0 0 ∧ (∃ x, g = .bool x) ∧ (z = .int .i64 6 ∨ z = .int .i64 7 ∨ z = .int .i64 8)) (fun _ _ _ z => 8 - (intOf z).toNat)
 case atStart => exact ⟨rfl, rfl, ⟨_, rfl⟩, Or.inl rfl⟩
 case round =>
  obtain ⟨rfl, rfl, ⟨x, rfl⟩, rfl | rfl | rfl⟩ := hrel
  ·go_wp2_with fail
   go_step3
   go_wp2_with fail
   refine h6.out.mono ?_
   rintro e w2 ⟨rfl, rfl⟩
   go_wp2_with fail
   go_step3
   go_wp2_with fail
   go_loop [2, 3, 42] (fun a b k => a = .slice none 0 0 ∧ b = .slice none 0 0 ∧ k = .int .i64 0) (fun _ _ _ => 0)
   case atStart => exact ⟨rfl, rfl, rfl⟩
   case round =>
    obtain ⟨rfl, rfl, rfl⟩ := hrel
    cases x
    all_goals
     go_wp2_with fail
     exact ⟨⟨rfl, rfl, ⟨_, rfl⟩, by simp⟩, by decide⟩
  ·go_wp2_with fail
   go_step3
   go_wp2_with fail
   refine h7.out.mono ?_
   rintro e w2 ⟨rfl, rfl⟩
   go_wp2_with fail
   go_step3
   go_wp2_with fail
   go_loop [2, 3, 42] (fun a b k => a = .slice none 0 0 ∧ b = .slice none 0 0 ∧ k = .int .i64 0) (fun _ _ _ => 0)
   case atStart => exact ⟨rfl, rfl, rfl⟩
   case round =>
    obtain ⟨rfl, rfl, rfl⟩ := hrel
    cases x
    all_goals
     go_wp2_with fail
     exact ⟨⟨rfl, rfl, ⟨_, rfl⟩, by simp⟩, by decide⟩
  ·go_wp2_with fail
   go_ret2
   exact ⟨rfl, hc1⟩
set_option maxRecDepth 100000 in
set_option maxHeartbeats 1000000 in
theorem replay_any (w : World) {P N S R : Nat} {m : Option Addr} (h : StoreAt w P N S m) (hS : SlotAt w S N) : Calls Tryz.prog 86 #[.pointer (some ⟨P, 0, none⟩), .pointer (some ⟨R, 0, none⟩), .slice none 0 0] w fun e w' => e = .returned (.bool false) ∧ Chg [] w w' := by
 obtain ⟨-, -, -, -, -, -, c6, -⟩ := store_cells h
 go_enter Tryz.func86, Tryz.ntmps86
 go_wp2_with fail
 go_step3
 go_wp2_with fail
 refine (load_any w hS).mono ?_
 rintro e w1 ⟨rfl, hc1⟩
 have h1 := h.keep hc1 (by simp)
 clear c6
 obtain ⟨-, -, -, -, -, -, -, c7, -⟩ := store_cells h1
 clear h1 h hS
 go_wp2_with fail
 go_step3
 go_wp2_with fail
 go_loop [6] (fun a => a = .bool false) (fun _ => 0)
 case atStart => rfl
 case round =>
  subst hrel
  go_wp2_with fail
  go_ret
  exact ⟨rfl, hc1⟩
theorem MapAt.none {w : World} {r : Nat} (h : MapAt w r []) : ∃ clock, w.heap[r]? = some (.map #[] clock) := by
 obtain ⟨es, clock, hb, hI, _⟩ := h
 have : es = #[] := by
  have := congrArg List.length hI
  apply Array.eq_empty_of_size_eq_zero
  simpa using this
 subst this
 exact ⟨clock, hb⟩
theorem run_len_im {P : Program} {w : World} {t k e : TypeId} (ht : P.underlying t = some (.map k e)) {r : Nat} {L : List (Int × Value)} (h : MapAt w r L) (ty : TypeId) : (Builtin.len_ #[t] ty #[.map (some r)]).run P w = .ok (.int .i64 L.length) w := by
 obtain ⟨es, clock, hb, hl⟩ := h.len
 simp [Builtin.len_, run_underlying ht, MapKept.run_getObj_map hb, goInt, Result.andThen, hl]
theorem ty178 : Tryz.prog.underlying 193 = some (.map 3 199) := by kernel_rfl
def VerAt (w : World) (X rx : Nat) : Prop := w.heap[X]? = some (.cells #[.int .i64 258, .map (some rx), .int .i64 0] 270 (0, 0)) ∧ MapAt w rx []
def BookAt (w : World) (B rb : Nat) (last : Int) (L : List (Int × Value)) : Prop := w.heap[B]? = some (.cells #[.int .i64 16, .int .i64 last, .map (some rb)] 265 (0, 0)) ∧ MapAt w rb L
set_option maxRecDepth 100000 in
theorem xnew_any (w : World) : Calls Tryz.prog 161 #[.int .i64 258] w fun e w' => ∃ X rx, e = .returned (.tuple #[.pointer (some ⟨X, 0, none⟩), .int .i64 0]) ∧ Chg [] w w' ∧ VerAt w' X rx ∧ w.heap.size ≤ X ∧ w.heap.size ≤ rx := by
 have hm := @run_makeMap Tryz.prog
 have h2 := two_new w (.map #[] 0) (.cells #[.int .i64 258, .map (some w.heap.size), .int .i64 0] 270)
 have hc := chg_two w (.map #[] 0) (.cells #[.int .i64 258, .map (some w.heap.size), .int .i64 0] 270)
 have HF := Lib.hid (show ∃ rx, rx = w.heap.size ∧ VerAt ((w.alloc (.map #[] 0)).alloc (.cells #[.int .i64 258, .map (some w.heap.size), .int .i64 0] 270)) (w.heap.size + 1) rx from ⟨_, rfl, h2.2, ⟨#[], 0, h2.1, rfl, MapKept.stamped_empty 0⟩⟩)
 clear h2
 go_enter Tryz.func161, Tryz.ntmps161
 go_wp2_with fail
 go_ret2
 obtain ⟨rx, rfl, h1⟩ := HF.out
 exact ⟨_, _, rfl, hc, h1, by omega, Nat.le_refl _⟩
set_option maxRecDepth 100000 in
theorem hnew_any (w : World) : Calls Tryz.prog 162 #[.int .i64 16] w fun e w' => ∃ B rb, e = .returned (.pointer (some ⟨B, 0, none⟩)) ∧ Chg [] w w' ∧ BookAt w' B rb 0 [] ∧ w.heap.size ≤ B ∧ w.heap.size ≤ rb := by
 have hm := @run_makeMap Tryz.prog
 have h2 := two_new w (.map #[] 0) (.cells #[.int .i64 16, .int .i64 0, .map (some w.heap.size)] 265)
 have hc := chg_two w (.map #[] 0) (.cells #[.int .i64 16, .int .i64 0, .map (some w.heap.size)] 265)
 have HF := Lib.hid (show ∃ rx, rx = w.heap.size ∧ BookAt ((w.alloc (.map #[] 0)).alloc (.cells #[.int .i64 16, .int .i64 0, .map (some w.heap.size)] 265)) (w.heap.size + 1) rx 0 [] from ⟨_, rfl, h2.2, ⟨#[], 0, h2.1, rfl, MapKept.stamped_empty 0⟩⟩)
 clear h2
 go_enter Tryz.func162, Tryz.ntmps162
 go_wp2_with fail
 go_ret
 obtain ⟨rx, rfl, h1⟩ := HF.out
 exact ⟨_, _, rfl, hc, h1, by omega, Nat.le_refl _⟩
def MgrAt (w : World) (M X B r : Nat) : Prop :=
 w.heap[M]? = some (.cells #[.pointer (some ⟨X, 0, none⟩), .pointer (some ⟨B, 0, none⟩), .map (some r), .slice none 0 0, .int .i64 0, .int .i64 0, .int .i64 0, .int .i64 0, .int .i64 0, .bool false] 195 (0, 0))
set_option maxRecDepth 100000 in
theorem tnew_any (w : World) : Calls Tryz.prog 87 #[.int .i64 258, .int .i64 0] w fun e w' => ∃ M X rx B rb r, e = .returned (.tuple #[.pointer (some ⟨M, 0, none⟩), .int .i64 0]) ∧ Chg [] w w' ∧ MgrAt w' M X B r ∧ VerAt w' X rx ∧ BookAt w' B rb 0 [] ∧ MapAt w' r [] ∧
  w.heap.size ≤ M ∧ w.heap.size ≤ X ∧ w.heap.size ≤ rx ∧ w.heap.size ≤ B ∧ w.heap.size ≤ rb ∧ w.heap.size ≤ r ∧ rx ≠ rb ∧ r ≠ rb ∧ r ≠ rx := by
 have hm := @run_makeMap Tryz.prog
 go_enter Tryz.func87, Tryz.ntmps87
 go_wp2_with fail
 refine (xnew_any w).mono ?_
 rintro e w1 ⟨X, rx, rfl, hc1, hX, l1, l2⟩
 go_wp2_with fail
 refine (hnew_any w1).mono ?_
 rintro e w2 ⟨B, rb, rfl, hc2, hB, l3, l4⟩
 have hs1 := hc1.size
 have hs2 := hc2.size
 have hq1 := hX.2.lt
 have hq2 := hB.2.lt
 have hX2 : VerAt w2 X rx := ⟨hc2.heap hX.1 (by simp), hX.2.keep hc2 (by simp)⟩
 have hc := hc1.then hc2
 have h2 := two_new w2 (.map #[] 0) (.cells #[.pointer (some ⟨X, 0, none⟩), .pointer (some ⟨B, 0, none⟩), .map (some w2.heap.size), .slice none 0 0, .int .i64 0, .int .i64 0, .int .i64 0, .int .i64 0, .int .i64 0, .bool false] 195)
 have hc3 := chg_two w2 (.map #[] 0) (.cells #[.pointer (some ⟨X, 0, none⟩), .pointer (some ⟨B, 0, none⟩), .map (some w2.heap.size), .slice none 0 0, .int .i64 0, .int .i64 0, .int .i64 0, .int .i64 0, .int .i64 0, .bool false] 195)
 go_wp2_with fail
 go_ret2
 exact ⟨w2.heap.size + 1, X, rx, B, rb, w2.heap.size, rfl, hc.then hc3, h2.2, ⟨hc3.heap hX2.1 (by simp), hX2.2.keep hc3 (by simp)⟩, ⟨hc3.heap hB.1 (by simp), hB.2.keep hc3 (by simp)⟩, ⟨#[], 0, h2.1, rfl, MapKept.stamped_empty 0⟩, by omega, by omega, by omega, by omega, by omega, by omega, by omega, by omega, by omega⟩
set_option maxRecDepth 100000 in
theorem tgone_any (w : World) {M X B r : Nat} (h : MgrAt w M X B r) : Calls Tryz.prog 113 #[.pointer (some ⟨M, 0, none⟩)] w fun e w' => e = .returned (.bool false) ∧ w = w' := by
 have c0 : w.cell? ⟨M, 0, none⟩ = some (.pointer (some ⟨X, 0, none⟩)) := cell_is h 0 rfl
 clear h
 go_enter Tryz.func113, Tryz.ntmps113
 go_wp2_with fail
 go_ret
 exact ⟨rfl, rfl⟩
set_option maxRecDepth 100000 in
theorem tload_any (w : World) {M X B r : Nat} (h : MgrAt w M X B r) (hr : MapAt w r []) : Calls Tryz.prog 89 #[.pointer (some ⟨M, 0, none⟩), .slice none 0 0] w fun e w' => e = .returned (.int .i64 0) ∧ w = w' := by
 have HG := Lib.hid (tgone_any w h)
 have c2 : w.cell? ⟨M, 2, none⟩ = some (.map (some r)) := cell_is h 2 rfl
 have c6 : w.cell? ⟨M, 6, none⟩ = some (.int .i64 0) := cell_is h 6 rfl
 have hlen : (Builtin.len_ #[193] 3 #[.map (some r)]).run Tryz.prog w = .ok (.int .i64 0) w := run_len_im ty178 hr 3
 clear h hr
 go_enter Tryz.func89, Tryz.ntmps89
 go_wp2_with fail
 refine HG.out.mono ?_
 rintro e w1 ⟨rfl, rfl⟩
 go_wp2_with fail
 go_ret
 exact ⟨rfl, rfl⟩
end Go.Proofs.YtelakcjbknbehaaGreat
namespace Go.Proofs
open Go.Shelf
def Tryz.keysA_ren : Go.Shelf.Ren := ⟨fun | 7 => 164 | 10 => 212 | n => n, fun | 23 => 149 | 26 => 3 | 3 => 47 | 28 => 243 | 0 => 0 | 27 => 242 | 33 => 260 | 4 => 4 | n => n, fun | n => n⟩
theorem Tryz.keysA : Go.Proofs.SlLaysZI.n7 Tryz.prog Tryz.keysA_ren := {
 mixed := by kernel_rfl
 f7 := ⟨Tryz.f164.name, by decide, Tryz.func164.trans (congrArg some (by kernel_rfl))⟩
 f10 := ⟨Tryz.f212.name, by decide, Tryz.func212.trans (congrArg some (by kernel_rfl))⟩
 t0 := Tryz.underlying0
 a0 := Tryz.isAgg0
 z0 := Tryz.sizeOf0
 v0 := Tryz.zeroValue0
 t4 := Tryz.underlying4
 a4 := Tryz.isAgg4
 z4 := Tryz.sizeOf4
 v4 := Tryz.zeroValue4
 t23 := Tryz.underlying149
 a23 := Tryz.isAgg149
 z23 := Tryz.sizeOf149
 v23 := Tryz.zeroValue149
 t26 := Tryz.underlying3
 a26 := Tryz.isAgg3
 z26 := Tryz.sizeOf3
 v26 := Tryz.zeroValue3
 t27 := Tryz.underlying242
 a27 := Tryz.isAgg242
 z27 := Tryz.sizeOf242
 v27 := Tryz.zeroValue242
 t28 := Tryz.underlying243
 a28 := Tryz.isAgg243
 z28 := Tryz.sizeOf243
 v28 := Tryz.zeroValue243
 t33 := Tryz.underlying260
 a33 := Tryz.isAgg260
 z33 := Tryz.sizeOf260
 v33 := Tryz.zeroValue260 }
def Tryz.keysB_ren : Go.Shelf.Ren := ⟨fun | 7 => 249 | 10 => 285 | n => n, fun | 23 => 263 | 26 => 3 | 3 => 3 | 28 => 243 | 0 => 0 | 27 => 242 | 33 => 260 | 4 => 4 | n => n, fun | n => n⟩
theorem Tryz.keysB : Go.Proofs.SlLaysZI.n7 Tryz.prog Tryz.keysB_ren := {
 mixed := by kernel_rfl
 f7 := ⟨Tryz.f249.name, by decide, Tryz.func249.trans (congrArg some (by kernel_rfl))⟩
 f10 := ⟨Tryz.f285.name, by decide, Tryz.func285.trans (congrArg some (by kernel_rfl))⟩
 t0 := Tryz.underlying0
 a0 := Tryz.isAgg0
 z0 := Tryz.sizeOf0
 v0 := Tryz.zeroValue0
 t4 := Tryz.underlying4
 a4 := Tryz.isAgg4
 z4 := Tryz.sizeOf4
 v4 := Tryz.zeroValue4
 t23 := Tryz.underlying263
 a23 := Tryz.isAgg263
 z23 := Tryz.sizeOf263
 v23 := Tryz.zeroValue263
 t26 := Tryz.underlying3
 a26 := Tryz.isAgg3
 z26 := Tryz.sizeOf3
 v26 := Tryz.zeroValue3
 t27 := Tryz.underlying242
 a27 := Tryz.isAgg242
 z27 := Tryz.sizeOf242
 v27 := Tryz.zeroValue242
 t28 := Tryz.underlying243
 a28 := Tryz.isAgg243
 z28 := Tryz.sizeOf243
 v28 := Tryz.zeroValue243
 t33 := Tryz.underlying260
 a33 := Tryz.isAgg260
 z33 := Tryz.sizeOf260
 v33 := Tryz.zeroValue260 }
def Tryz.sortedA_ren : Go.Shelf.Ren := ⟨fun | 6 => 163 | 8 => 210 | 9 => 211 | 11 => 241 | 13 => 240 | 12 => 242 | 23 => 267 | 24 => 268 | 14 => 269 | 15 => 270 | 16 => 271 | 17 => 272 | 18 => 273 | 19 => 274 | 20 => 275 | 21 => 276 | 22 => 277 | 25 => 294 | 26 => 290 | 27 => 291 | 28 => 295 | 29 => 296 | 30 => 297 | 31 => 303 | n => n, fun | 26 => 3 | 28 => 243 | 24 => 115 | 0 => 0 | 3 => 3 | 37 => 256 | 48 => 214 | 50 => 92 | 4 => 4 | 40 => 337 | 39 => 336 | 45 => 329 | 5 => 5 | 9 => 9 | 51 => 357 | 55 => 361 | 57 => 368 | 58 => 62 | 33 => 260 | n => n, fun | n => n⟩
theorem Tryz.sortedA : Go.Proofs.SlLaysZI.n6 Tryz.prog Tryz.sortedA_ren := {
 mixed := by kernel_rfl
 f6 := ⟨Tryz.f163.name, by decide, Tryz.func163.trans (congrArg some (by kernel_rfl))⟩
 f8 := ⟨Tryz.f210.name, by decide, Tryz.func210.trans (congrArg some (by kernel_rfl))⟩
 f11 := ⟨Tryz.f241.name, by decide, Tryz.func241.trans (congrArg some (by kernel_rfl))⟩
 t0 := Tryz.underlying0
 a0 := Tryz.isAgg0
 z0 := Tryz.sizeOf0
 v0 := Tryz.zeroValue0
 t24 := Tryz.underlying115
 a24 := Tryz.isAgg115
 z24 := Tryz.sizeOf115
 v24 := Tryz.zeroValue115
 t26 := Tryz.underlying3
 a26 := Tryz.isAgg3
 z26 := Tryz.sizeOf3
 v26 := Tryz.zeroValue3
 t28 := Tryz.underlying243
 a28 := Tryz.isAgg243
 z28 := Tryz.sizeOf243
 v28 := Tryz.zeroValue243
 i26 := by kernel_rfl }
def Tryz.sortA_ren : Go.Shelf.Ren := ⟨fun | 5 => 211 | 8 => 240 | 7 => 242 | 19 => 267 | 20 => 268 | 10 => 269 | 11 => 270 | 12 => 271 | 13 => 272 | 14 => 273 | 15 => 274 | 16 => 275 | 17 => 276 | 18 => 277 | 30 => 294 | 31 => 290 | 32 => 291 | 33 => 295 | 34 => 296 | 35 => 297 | 40 => 303 | n => n, fun | 23 => 115 | 25 => 3 | 3 => 3 | 32 => 256 | 22 => 115 | 0 => 0 | 44 => 214 | 46 => 92 | 4 => 4 | 36 => 337 | 35 => 336 | 41 => 329 | 5 => 5 | 9 => 9 | 53 => 357 | 57 => 361 | 63 => 368 | 64 => 62 | n => n, fun | n => n⟩
theorem Tryz.sortA : Go.Proofs.SlLaysM.n5 Tryz.prog Tryz.sortA_ren := {
 mixed := by kernel_rfl
 f5 := ⟨Tryz.f211.name, by decide, Tryz.func211.trans (congrArg some (by kernel_rfl))⟩
 f7 := ⟨Tryz.f242.name, by decide, Tryz.func242.trans (congrArg some (by kernel_rfl))⟩
 f8 := Tryz.func240.trans (congrArg some (by kernel_rfl))
 f10 := ⟨Tryz.f269.name, by decide, Tryz.func269.trans (congrArg some (by kernel_rfl))⟩
 f11 := ⟨Tryz.f270.name, by decide, Tryz.func270.trans (congrArg some (by kernel_rfl))⟩
 f12 := ⟨Tryz.f271.name, by decide, Tryz.func271.trans (congrArg some (by kernel_rfl))⟩
 f13 := ⟨Tryz.f272.name, by decide, Tryz.func272.trans (congrArg some (by kernel_rfl))⟩
 f14 := ⟨Tryz.f273.name, by decide, Tryz.func273.trans (congrArg some (by kernel_rfl))⟩
 f15 := ⟨Tryz.f274.name, by decide, Tryz.func274.trans (congrArg some (by kernel_rfl))⟩
 f16 := ⟨Tryz.f275.name, by decide, Tryz.func275.trans (congrArg some (by kernel_rfl))⟩
 f17 := ⟨Tryz.f276.name, by decide, Tryz.func276.trans (congrArg some (by kernel_rfl))⟩
 f18 := ⟨Tryz.f277.name, by decide, Tryz.func277.trans (congrArg some (by kernel_rfl))⟩
 f19 := Tryz.func267.trans (congrArg some (by kernel_rfl))
 f20 := Tryz.func268.trans (congrArg some (by kernel_rfl))
 f30 := ⟨Tryz.f294.name, by decide, Tryz.func294.trans (congrArg some (by kernel_rfl))⟩
 f31 := Tryz.func290.trans (congrArg some (by kernel_rfl))
 f32 := Tryz.func291.trans (congrArg some (by kernel_rfl))
 f33 := ⟨Tryz.f295.name, by decide, Tryz.func295.trans (congrArg some (by kernel_rfl))⟩
 f34 := ⟨Tryz.f296.name, by decide, Tryz.func296.trans (congrArg some (by kernel_rfl))⟩
 f35 := ⟨Tryz.f297.name, by decide, Tryz.func297.trans (congrArg some (by kernel_rfl))⟩
 f40 := ⟨Tryz.f303.name, by decide, Tryz.func303.trans (congrArg some (by kernel_rfl))⟩
 t0 := Tryz.underlying0
 a0 := Tryz.isAgg0
 z0 := Tryz.sizeOf0
 v0 := Tryz.zeroValue0
 t3 := Tryz.underlying3
 a3 := Tryz.isAgg3
 z3 := Tryz.sizeOf3
 v3 := Tryz.zeroValue3
 t4 := Tryz.underlying4
 a4 := Tryz.isAgg4
 z4 := Tryz.sizeOf4
 v4 := Tryz.zeroValue4
 t5 := Tryz.underlying5
 a5 := Tryz.isAgg5
 z5 := Tryz.sizeOf5
 v5 := Tryz.zeroValue5
 t9 := Tryz.underlying9
 a9 := Tryz.isAgg9
 z9 := Tryz.sizeOf9
 v9 := Tryz.zeroValue9
 t22 := Tryz.underlying115
 a22 := Tryz.isAgg115
 z22 := Tryz.sizeOf115
 v22 := Tryz.zeroValue115
 t23 := Tryz.underlying115
 a23 := Tryz.isAgg115
 z23 := Tryz.sizeOf115
 v23 := Tryz.zeroValue115
 t25 := Tryz.underlying3
 a25 := Tryz.isAgg3
 z25 := Tryz.sizeOf3
 v25 := Tryz.zeroValue3
 t32 := Tryz.underlying256
 a32 := Tryz.isAgg256
 z32 := Tryz.sizeOf256
 v32 := Tryz.zeroValue256
 t35 := Tryz.underlying336
 a35 := Tryz.isAgg336
 z35 := Tryz.sizeOf336
 v35 := Tryz.zeroValue336
 t36 := Tryz.underlying337
 a36 := Tryz.isAgg337
 z36 := Tryz.sizeOf337
 v36 := Tryz.zeroValue337
 t41 := Tryz.underlying329
 a41 := Tryz.isAgg329
 z41 := Tryz.sizeOf329
 v41 := Tryz.zeroValue329
 t44 := Tryz.underlying214
 a44 := Tryz.isAgg214
 z44 := Tryz.sizeOf214
 v44 := Tryz.zeroValue214
 t46 := Tryz.underlying92
 a46 := Tryz.isAgg92
 z46 := Tryz.sizeOf92
 v46 := Tryz.zeroValue92
 t53 := Tryz.underlying357
 a53 := Tryz.isAgg357
 z53 := Tryz.sizeOf357
 v53 := Tryz.zeroValue357
 t57 := Tryz.underlying361
 a57 := Tryz.isAgg361
 z57 := Tryz.sizeOf361
 v57 := Tryz.zeroValue361
 t63 := Tryz.underlying368
 a63 := Tryz.isAgg368
 z63 := Tryz.sizeOf368
 v63 := Tryz.zeroValue368
 t64 := Tryz.underlying62
 a64 := Tryz.isAgg62
 z64 := Tryz.sizeOf62
 v64 := Tryz.zeroValue62 }
def Tryz.sortSp_ren : Go.Shelf.Ren := ⟨fun | 6 => 281 | 15 => 240 | 14 => 299 | 28 => 267 | 29 => 268 | 20 => 304 | 21 => 305 | 22 => 306 | 23 => 307 | 24 => 308 | 25 => 309 | 26 => 310 | 27 => 311 | 46 => 312 | 47 => 290 | 48 => 291 | 49 => 313 | 50 => 314 | 57 => 315 | n => n, fun | 22 => 175 | 24 => 79 | 25 => 352 | 3 => 3 | 39 => 256 | 0 => 0 | 53 => 214 | 55 => 92 | 4 => 4 | 46 => 337 | 45 => 336 | 50 => 329 | 5 => 5 | 9 => 9 | 66 => 357 | 70 => 361 | 76 => 368 | 77 => 62 | n => n, fun | n => n⟩
theorem Tryz.sortSp : Go.Proofs.SlLaysF0.n6 Tryz.prog Tryz.sortSp_ren := {
 mixed := by kernel_rfl
 f6 := ⟨Tryz.f281.name, by decide, Tryz.func281.trans (congrArg some (by kernel_rfl))⟩
 f14 := ⟨Tryz.f299.name, by decide, Tryz.func299.trans (congrArg some (by kernel_rfl))⟩
 f15 := Tryz.func240.trans (congrArg some (by kernel_rfl))
 f20 := ⟨Tryz.f304.name, by decide, Tryz.func304.trans (congrArg some (by kernel_rfl))⟩
 f21 := ⟨Tryz.f305.name, by decide, Tryz.func305.trans (congrArg some (by kernel_rfl))⟩
 f22 := ⟨Tryz.f306.name, by decide, Tryz.func306.trans (congrArg some (by kernel_rfl))⟩
 f23 := ⟨Tryz.f307.name, by decide, Tryz.func307.trans (congrArg some (by kernel_rfl))⟩
 f24 := ⟨Tryz.f308.name, by decide, Tryz.func308.trans (congrArg some (by kernel_rfl))⟩
 f25 := ⟨Tryz.f309.name, by decide, Tryz.func309.trans (congrArg some (by kernel_rfl))⟩
 f26 := ⟨Tryz.f310.name, by decide, Tryz.func310.trans (congrArg some (by kernel_rfl))⟩
 f27 := ⟨Tryz.f311.name, by decide, Tryz.func311.trans (congrArg some (by kernel_rfl))⟩
 f28 := Tryz.func267.trans (congrArg some (by kernel_rfl))
 f29 := Tryz.func268.trans (congrArg some (by kernel_rfl))
 f46 := ⟨Tryz.f312.name, by decide, Tryz.func312.trans (congrArg some (by kernel_rfl))⟩
 f47 := Tryz.func290.trans (congrArg some (by kernel_rfl))
 f48 := Tryz.func291.trans (congrArg some (by kernel_rfl))
 f49 := ⟨Tryz.f313.name, by decide, Tryz.func313.trans (congrArg some (by kernel_rfl))⟩
 f50 := ⟨Tryz.f314.name, by decide, Tryz.func314.trans (congrArg some (by kernel_rfl))⟩
 f57 := ⟨Tryz.f315.name, by decide, Tryz.func315.trans (congrArg some (by kernel_rfl))⟩
 t0 := Tryz.underlying0
 a0 := Tryz.isAgg0
 z0 := Tryz.sizeOf0
 v0 := Tryz.zeroValue0
 t3 := Tryz.underlying3
 a3 := Tryz.isAgg3
 z3 := Tryz.sizeOf3
 v3 := Tryz.zeroValue3
 t4 := Tryz.underlying4
 a4 := Tryz.isAgg4
 z4 := Tryz.sizeOf4
 v4 := Tryz.zeroValue4
 t5 := Tryz.underlying5
 a5 := Tryz.isAgg5
 z5 := Tryz.sizeOf5
 v5 := Tryz.zeroValue5
 t9 := Tryz.underlying9
 a9 := Tryz.isAgg9
 z9 := Tryz.sizeOf9
 v9 := Tryz.zeroValue9
 t22 := Tryz.underlying175
 a22 := Tryz.isAgg175
 z22 := Tryz.sizeOf175
 v22 := Tryz.zeroValue175
 t25 := Tryz.underlying352
 a25 := Tryz.isAgg352
 z25 := Tryz.sizeOf352
 v25 := Tryz.zeroValue352
 t39 := Tryz.underlying256
 a39 := Tryz.isAgg256
 z39 := Tryz.sizeOf256
 v39 := Tryz.zeroValue256
 t45 := Tryz.underlying336
 a45 := Tryz.isAgg336
 z45 := Tryz.sizeOf336
 v45 := Tryz.zeroValue336
 t46 := Tryz.underlying337
 a46 := Tryz.isAgg337
 z46 := Tryz.sizeOf337
 v46 := Tryz.zeroValue337
 t50 := Tryz.underlying329
 a50 := Tryz.isAgg329
 z50 := Tryz.sizeOf329
 v50 := Tryz.zeroValue329
 t53 := Tryz.underlying214
 a53 := Tryz.isAgg214
 z53 := Tryz.sizeOf214
 v53 := Tryz.zeroValue214
 t55 := Tryz.underlying92
 a55 := Tryz.isAgg92
 z55 := Tryz.sizeOf92
 v55 := Tryz.zeroValue92
 t66 := Tryz.underlying357
 a66 := Tryz.isAgg357
 z66 := Tryz.sizeOf357
 v66 := Tryz.zeroValue357
 t70 := Tryz.underlying361
 a70 := Tryz.isAgg361
 z70 := Tryz.sizeOf361
 v70 := Tryz.zeroValue361
 t76 := Tryz.underlying368
 a76 := Tryz.isAgg368
 z76 := Tryz.sizeOf368
 v76 := Tryz.zeroValue368
 t77 := Tryz.underlying62
 a77 := Tryz.isAgg62
 z77 := Tryz.sizeOf62
 v77 := Tryz.zeroValue62 }
def Tryz.cmpInt_ren : Go.Shelf.Ren := ⟨fun | 5 => 283 | 7 => 297 | n => n, fun | 22 => 3 | 3 => 3 | 4 => 4 | n => n, fun | n => n⟩
theorem Tryz.cmpInt : Go.Proofs.SlLaysC2.n5 Tryz.prog Tryz.cmpInt_ren := {
 mixed := by kernel_rfl
 f5 := ⟨Tryz.f283.name, by decide, Tryz.func283.trans (congrArg some (by kernel_rfl))⟩
 f7 := ⟨Tryz.f297.name, by decide, Tryz.func297.trans (congrArg some (by kernel_rfl))⟩
 t3 := Tryz.underlying3
 a3 := Tryz.isAgg3
 z3 := Tryz.sizeOf3
 v3 := Tryz.zeroValue3
 t4 := Tryz.underlying4
 a4 := Tryz.isAgg4
 z4 := Tryz.sizeOf4
 v4 := Tryz.zeroValue4
 t22 := Tryz.underlying3
 a22 := Tryz.isAgg3
 z22 := Tryz.sizeOf3
 v22 := Tryz.zeroValue3 }
def Tryz.bitsLen2_ren : Go.Shelf.Ren := ⟨fun | 125 => 240 | 128 => 267 | 129 => 268 | n => n, fun | 46 => 256 | 3 => 3 | 51 => 214 | 53 => 92 | 4 => 4 | 5 => 5 | 9 => 9 | n => n, fun | n => n⟩
theorem Tryz.bitsLen2 : Go.Proofs.Lays.n125 Tryz.prog Tryz.bitsLen2_ren := {
 mixed := by kernel_rfl
 f125 := Tryz.func240.trans (congrArg some (by kernel_rfl))
 f128 := Tryz.func267.trans (congrArg some (by kernel_rfl))
 f129 := Tryz.func268.trans (congrArg some (by kernel_rfl))
 t3 := Tryz.underlying3
 a3 := Tryz.isAgg3
 z3 := Tryz.sizeOf3
 v3 := Tryz.zeroValue3
 t4 := Tryz.underlying4
 a4 := Tryz.isAgg4
 z4 := Tryz.sizeOf4
 v4 := Tryz.zeroValue4
 t5 := Tryz.underlying5
 a5 := Tryz.isAgg5
 z5 := Tryz.sizeOf5
 v5 := Tryz.zeroValue5
 t9 := Tryz.underlying9
 a9 := Tryz.isAgg9
 z9 := Tryz.sizeOf9
 v9 := Tryz.zeroValue9
 t46 := Tryz.underlying256
 a46 := Tryz.isAgg256
 z46 := Tryz.sizeOf256
 v46 := Tryz.zeroValue256
 t51 := Tryz.underlying214
 a51 := Tryz.isAgg214
 z51 := Tryz.sizeOf214
 v51 := Tryz.zeroValue214
 t53 := Tryz.underlying92
 a53 := Tryz.isAgg92
 z53 := Tryz.sizeOf92
 v53 := Tryz.zeroValue92 }
end Go.Proofs
namespace Go.Proofs.YtelakcjbknbehaaGreat
open Go.RowKit Go.Maps Go.Sort Go.Shelf


theorem sorts_all (m : Nat) : AnyZI.SortsIn Tryz.prog Tryz.sortedA_ren Fence.wide m :=
  ⟨fun blk off cap ss W hH hblk hsz => callsIn_wide.2 (AnyM.slices_Sort_int Tryz.sortA blk off cap ss W hH hblk hsz),
   fun p cap W => callsIn_wide.2 (AnyM.slices_Sort_int_none Tryz.sortA p cap W)⟩
theorem keysA_any (mb : Option Nat) (W : World) : Calls Tryz.prog 164 #[.map mb] W fun e w' => e = .returned (.func (.func 212) #[] #[.pointer (some ⟨W.heap.size, 0, none⟩)]) ∧ w' = W.alloc (.cells #[.map mb] 149) :=
  callsIn_wide.1 (AnyZI.keys_in Tryz.keysA Fence.wide 5 trivial rfl mb W)
theorem keysB_any (mb : Option Nat) (W : World) : Calls Tryz.prog 249 #[.map mb] W fun e w' => e = .returned (.func (.func 285) #[] #[.pointer (some ⟨W.heap.size, 0, none⟩)]) ∧ w' = W.alloc (.cells #[.map mb] 263) :=
  callsIn_wide.1 (AnyZI.keys_in Tryz.keysB Fence.wide 5 trivial rfl mb W)
theorem owns_none (R : Value → Option (DataW Unit × List MemPlace)) {w : World} {r : Nat} (h : MapAt w r []) (k : TypeId) : w.ownsMap Tryz.prog k R r 0 (.map []) := by
  obtain ⟨clock, hb⟩ := h.none
  refine ⟨#[], clock, hb, ?_, by simp, by simp⟩
  constructor
  all_goals first | (intro a ha; simp at ha) | exact Nat.zero_le _ | (simp [MapKept.Stamped])
set_option maxRecDepth 100000 in
theorem sortedA_none (W : World) {r : Nat} (h : MapAt W r []) : Calls Tryz.prog 163 #[.func (.func 212) #[] #[.pointer (some ⟨W.heap.size, 0, none⟩)]] (W.alloc (.cells #[.map (some r)] 149)) fun e w' => e = .returned (.slice none 0 0) ∧ Chg [] W w' := by
  obtain ⟨clock, hb⟩ := h.none
  have hr : r < W.heap.size := heap_lt hb
  have hseq : SeqGives Fence.wide 2 Tryz.prog 212 #[.pointer (some ⟨W.heap.size, 0, none⟩)] encZ (fun ss => ss.Perm (intKeys (.map [] : DataW Unit))) (Maps.size (.map [] : DataW Unit)) (W.alloc (.cells #[.map (some r)] 149)) :=
    AnyZI.keys_gives (ρ := Tryz.keysA_ren) { Tryz.keysA with } Fence.wide _ trivial rfl (by omega) W.heap.size r 0 _ _ (by simp) (by simp) (owns_none (fun _ => none) (h.keep (Chg.alloc (S := []) W _) (by simp)) _)
  have cS := AnyZI.sorted_in Tryz.sortedA Fence.wide 5 trivial trivial trivial trivial rfl (by omega) (sorts_all _) (enters_of Tryz.func211 (by kernel_rfl) rfl) 212 #[.pointer (some ⟨W.heap.size, 0, none⟩)] trivial (enters_of Tryz.func212 (by kernel_rfl) rfl) _ _ (by decide) (by decide) _ hseq
  refine (callsIn_wide.1 cS).mono ?_
  rintro e w' ⟨v, ss, rfl, hS, hrow, hnil, hbl⟩
  obtain rfl : ss = [] := by simpa [intKeys] using hS
  exact ⟨by rw [hnil.2 rfl], (Chg.alloc W _).then (Chg.of_below hbl)⟩
set_option maxRecDepth 100000 in
theorem sortedB_none (W : World) {r : Nat} (h : MapAt W r []) : Calls Tryz.prog 163 #[.func (.func 285) #[] #[.pointer (some ⟨W.heap.size, 0, none⟩)]] (W.alloc (.cells #[.map (some r)] 263)) fun e w' => e = .returned (.slice none 0 0) ∧ Chg [] W w' := by
  obtain ⟨clock, hb⟩ := h.none
  have hr : r < W.heap.size := heap_lt hb
  have hseq : SeqGives Fence.wide 2 Tryz.prog 285 #[.pointer (some ⟨W.heap.size, 0, none⟩)] encZ (fun ss => ss.Perm (intKeys (.map [] : DataW Unit))) (Maps.size (.map [] : DataW Unit)) (W.alloc (.cells #[.map (some r)] 263)) :=
    AnyZI.keys_gives (ρ := Tryz.keysB_ren) { Tryz.keysB with } Fence.wide _ trivial rfl (by omega) W.heap.size r 0 _ _ (by simp) (by simp) (owns_none (fun _ => none) (h.keep (Chg.alloc (S := []) W _) (by simp)) _)
  have cS := AnyZI.sorted_in Tryz.sortedA Fence.wide 5 trivial trivial trivial trivial rfl (by omega) (sorts_all _) (enters_of Tryz.func211 (by kernel_rfl) rfl) 285 #[.pointer (some ⟨W.heap.size, 0, none⟩)] trivial (enters_of Tryz.func285 (by kernel_rfl) rfl) _ _ (by decide) (by decide) _ hseq
  refine (callsIn_wide.1 cS).mono ?_
  rintro e w' ⟨v, ss, rfl, hS, hrow, hnil, hbl⟩
  obtain rfl : ss = [] := by simpa [intKeys] using hS
  exact ⟨by rw [hnil.2 rfl], (Chg.alloc W _).then (Chg.of_below hbl)⟩
end Go.Proofs.YtelakcjbknbehaaGreat
namespace Go.Proofs.YtelakcjbknbehaaGreat
open Go.RowKit Go.Lib

set_option maxRecDepth 100000 in
theorem puts_any (w : World) {R r : Nat} (h : StateAt w R r) : Calls Tryz.prog 90 #[.pointer (some ⟨R, 0, none⟩)] w fun e w' => e = .returned (.slice none 0 0) ∧ Chg [] w w' := by
 have c1 : w.cell? ⟨R, 1, none⟩ = some (.map (some r)) := cell_is h.1 1 rfl
 have HS := Lib.hid (sortedA_none w h.2)
 clear h
 go_enter Tryz.func90, Tryz.ntmps90
 go_wp2_with fail
 refine (keysA_any _ w).mono ?_
 rintro e w1 ⟨rfl, rfl⟩
 go_wp2_with fail
 refine HS.out.mono ?_
 rintro e w1 ⟨rfl, hc⟩
 go_wp2_with fail
 go_loop [2, 12] (fun a i => a = .slice none 0 0 ∧ i = .int .i64 0) (fun _ _ => 0)
 case atStart => exact ⟨rfl, rfl⟩
 case round =>
  obtain ⟨rfl, rfl⟩ := hrel
  go_wp2_with fail
  go_ret
  exact ⟨rfl, hc⟩
def Bk (w wx : World) (N A c : Nat) (ops : Int) (Z : List Nat) (P S R r : Nat) : Prop :=
 Chg (N :: Z) w wx ∧ (∃ m, StoreAt wx P N S m) ∧ SlotAt wx S N ∧ DevAt wx N A c ops Z ∧ StateAt wx R r
theorem Bk.keep {w w1 w2 : World} {N A c : Nat} {ops : Int} {Z : List Nat} {P S R r : Nat} (h : Bk w w1 N A c ops Z P S R r) (hc : Chg [] w1 w2) : Bk w w2 N A c ops Z P S R r := by
 obtain ⟨a, ⟨m, b⟩, d, e, f⟩ := h
 exact ⟨a.then (hc.mono (fun x hx _ => by cases hx)), ⟨m, b.keep hc (by simp)⟩, d.keep hc (by simp), e.keep hc (by simp) (by simp) (by simp), ⟨hc.heap f.1 (by simp), f.2.keep hc (by simp)⟩⟩
theorem Bk.drew {w w1 : World} {N A c : Nat} {ops : Int} {Z : List Nat} {P S R r : Nat} (h : Bk w w1 N A c ops Z P S R r) : Bk w w1.drew N A c ops Z P S R r := h.keep (Chg.refl [] w1).drew
theorem Bk.r0 {w wx : World} {N A c : Nat} {ops : Int} {Z : List Nat} {P S R r : Nat} (h : Bk w wx N A c ops Z P S R r) : wx.cell? ⟨R, 0, none⟩ = some (.int .i64 0) := cell_is h.2.2.2.2.1 0 rfl
theorem Bk.dev {w wx : World} {N A c : Nat} {ops : Int} {Z : List Nat} {P S R r : Nat} (h : Bk w wx N A c ops Z P S R r) : DevAt wx N A c ops Z := h.2.2.2.1
theorem Bk.set {w wx : World} {N A c : Nat} {ops : Int} {Z : List Nat} {P S R r : Nat} (h : Bk w wx N A c ops Z P S R r) (hP : w.heap.size ≤ P) (hN : N ≠ P) (hA : A ≠ P) (hZ : ∀ z ∈ Z, z ≠ P) (hS : S ≠ P) (hR : R ≠ P) (hr : r ≠ P) (q : Option Addr) :
  Bk w (wx.setCell ⟨P, 5, none⟩ (.pointer q)) N A c ops Z P S R r ∧ StoreAt (wx.setCell ⟨P, 5, none⟩ (.pointer q)) P N S q := by
 obtain ⟨a, ⟨m, b⟩, d, e, f⟩ := h
 have k := Chg.set wx P 5 (.pointer q)
 have b2 : StoreAt (wx.setCell ⟨P, 5, none⟩ (.pointer q)) P N S q := heap_set b 5 _ rfl
 exact ⟨⟨a.new_set hP 5 _, ⟨q, b2⟩, d.keep k (by simpa using hS), e.keep k (by simpa using hN) (by simpa using hA) (fun z hz => by simpa using hZ z hz), ⟨k.heap f.1 (by simpa using hR), f.2.keep k (by simpa using hr)⟩⟩, b2⟩
theorem Bk.p5 {w wx : World} {N A c : Nat} {ops : Int} {Z : List Nat} {P S R r : Nat} (h : Bk w wx N A c ops Z P S R r) : (∃ m, wx.cell? ⟨P, 5, none⟩ = some (.pointer m)) ∧ wx.frozen? ⟨P, 5, none⟩ = false := by
 obtain ⟨a, ⟨m, b⟩, d, e, f⟩ := h
 exact ⟨⟨m, cell_is b 5 rfl⟩, unfrozen b 5⟩
def Mk (w wx : World) (N A c : Nat) (ops : Int) (Z : List Nat) (P S M X rx B rb r : Nat) : Prop :=
 Chg (N :: Z) w wx ∧ DevAt wx N A c ops Z ∧ StoreAt wx P N S (some ⟨M, 0, none⟩) ∧ SlotAt wx S N ∧ MgrAt wx M X B r ∧ VerAt wx X rx ∧ BookAt wx B rb 0 [] ∧ MapAt wx r []
theorem Mk.keep {w w1 w2 : World} {N A c : Nat} {ops : Int} {Z : List Nat} {P S M X rx B rb r : Nat} (h : Mk w w1 N A c ops Z P S M X rx B rb r) (hc : Chg [] w1 w2) : Mk w w2 N A c ops Z P S M X rx B rb r := by
 obtain ⟨a, d, b, e, f, g, i, j⟩ := h
 exact ⟨a.then (hc.mono (fun x hx _ => by cases hx)), d.keep hc (by simp) (by simp) (by simp), b.keep hc (by simp), e.keep hc (by simp), hc.heap f (by simp), ⟨hc.heap g.1 (by simp), g.2.keep hc (by simp)⟩, ⟨hc.heap i.1 (by simp), i.2.keep hc (by simp)⟩, j.keep hc (by simp)⟩
theorem Mk.p5 {w wx : World} {N A c : Nat} {ops : Int} {Z : List Nat} {P S M X rx B rb r : Nat} (h : Mk w wx N A c ops Z P S M X rx B rb r) : wx.cell? ⟨P, 5, none⟩ = some (.pointer (some ⟨M, 0, none⟩)) := cell_is h.2.2.1 5 rfl
theorem Mk.drew {w w1 : World} {N A c : Nat} {ops : Int} {Z : List Nat} {P S M X rx B rb r : Nat} (h : Mk w w1 N A c ops Z P S M X rx B rb r) : Mk w w1.drew N A c ops Z P S M X rx B rb r := h.keep (Chg.refl [] w1).drew
theorem DevAt.A_lt {w : World} {N A c : Nat} {ops : Int} {Z : List Nat} (h : DevAt w N A c ops Z) : A < w.heap.size := by
 obtain ⟨-, -, h8, h, -⟩ := h
 exact World.block_lt_of_cell? _ _ (h 0 (by omega))
set_option maxRecDepth 100000 in
set_option maxHeartbeats 2000000 in
theorem mount_any (w : World) {N A c : Nat} {ops : Int} {Z : List Nat} (hD : DevAt w N A c ops Z) (hd : DevOk N A Z) (hlt : ∀ z ∈ Z, z < w.heap.size) (h0 : 0 ≤ ops) (h1 : ops ≤ 1000000) : Calls Tryz.prog 33 #[.pointer (some ⟨N, 0, none⟩)] w fun e w' =>
  ∃ P S M X rx B rb r, e = .returned (.tuple #[.pointer (some ⟨P, 0, none⟩), .int .i64 0]) ∧ Mk w w' N A c (ops + 1) Z P S M X rx B rb r ∧
   w.heap.size ≤ P ∧ w.heap.size ≤ S ∧ w.heap.size ≤ M ∧ w.heap.size ≤ X ∧ w.heap.size ≤ rx ∧ w.heap.size ≤ B ∧ w.heap.size ≤ rb ∧ w.heap.size ≤ r ∧ rx ≠ rb ∧ r ≠ rb ∧ r ≠ rx := by
 go_enter Tryz.func33, Tryz.ntmps33
 go_wp2_with fail
 refine (geometry_any w hD).mono ?_
 rintro e w1 ⟨rfl, hc1⟩
 go_wp2_with fail
 refine (split_min w1).mono ?_
 rintro e w2 ⟨rfl, hc2⟩
 have hc := hc1.then hc2
 have hsz := hc.size
 clear hc1 hc2
 go_wp2_with fail
 obtain ⟨-, g1⟩ := two_new w2 (.cells #[.int .i64 0, .int .i64 3, .int .i64 6, .int .i64 7] 98) (.cells #[.pointer (some ⟨N, 0, none⟩), .int .i64 0, .int .i64 3, .int .i64 6, .int .i64 7, .pointer none, .pointer none, .int .i64 0, .int .i64 0, .bool false] 102)
 have hc3 := hc.then (chg_two w2 (.cells #[.int .i64 0, .int .i64 3, .int .i64 6, .int .i64 7] 98) (.cells #[.pointer (some ⟨N, 0, none⟩), .int .i64 0, .int .i64 3, .int .i64 6, .int .i64 7, .pointer none, .pointer none, .int .i64 0, .int .i64 0, .bool false] 102))
 generalize (w2.alloc (.cells #[.int .i64 0, .int .i64 3, .int .i64 6, .int .i64 7] 98)).alloc (.cells #[.pointer (some ⟨N, 0, none⟩), .int .i64 0, .int .i64 3, .int .i64 6, .int .i64 7, .pointer none, .pointer none, .int .i64 0, .int .i64 0, .bool false] 102) = w3 at *
 have hN := heap_lt hD.1
 have hA := hD.A_lt
 have hPl : w.heap.size ≤ w2.heap.size + 1 := by omega
 generalize w2.heap.size + 1 = P at *
 generalize w2.heap.size = q at *
 have hPZ : P ∉ N :: Z := by
  intro hm
  rcases List.mem_cons.1 hm with hm | hm
  ·omega
  ·have := hlt _ hm; omega
 have hD3 := hD.keep hc3 (by simp) (by simp) (by simp)
 have hlt3 : ∀ z ∈ Z, z < w3.heap.size := fun z hz => Nat.lt_of_lt_of_le (hlt z hz) hc3.size
 refine (open_any w3 hD3 hd hlt3 h0 h1).mono ?_
 rintro e w4 ⟨S, rfl, hc4, hD4, hS4, l4⟩
 have g4 := hc4.heap g1 hPZ
 have hPs : w.heap.size ≤ S := Nat.le_trans hc3.size l4
 have hc5 : Chg (N :: Z) w w4 := (hc3.mono (T := N :: Z) (fun x hx _ => by cases hx)).then hc4
 have hSP : S ≠ P := by have := heap_lt g1; omega
 have c6 := cell_is g4 6 rfl
 have f6 := unfrozen g4 6
 have g5 : StoreAt (w4.setCell ⟨P, 6, none⟩ (.pointer (some ⟨S, 0, none⟩))) P N S none := heap_set g4 6 _ rfl
 have hc6 : Chg (N :: Z) w (w4.setCell ⟨P, 6, none⟩ (.pointer (some ⟨S, 0, none⟩))) := hc5.new_set hPl 6 _
 have hS6 : SlotAt (w4.setCell ⟨P, 6, none⟩ (.pointer (some ⟨S, 0, none⟩))) S N := heap_set_ne hS4 hSP 6 _
 have hD6 := hD4.keep (Chg.set w4 P 6 (.pointer (some ⟨S, 0, none⟩))) (by simpa using fun e => hPZ (by simp [e])) (by simpa using fun e => by omega) (fun z hz => by simpa using fun e => hPZ (by simp [← e, hz]))
 clear g4 hS4 hD4 hc5 hc4 hc3 g1 hD hD3 hlt3
 clear hc
 go_wp2_with fail
 generalize w4.setCell ⟨P, 6, none⟩ (.pointer (some ⟨S, 0, none⟩)) = w5 at *
 refine (load_any w5 hS6).mono ?_
 rintro e w6 ⟨rfl, k6⟩
 have g6 := g5.keep k6 (by simp)
 have S6 := hS6.keep k6 (by simp)
 have D6 := hD6.keep k6 (by simp) (by simp) (by simp)
 have hc7 : Chg (N :: Z) w w6 := hc6.then (k6.mono (fun x hx _ => by cases hx))
 clear hc6 hS6 g5 hD6 k6
 go_wp2_with fail
 refine (parse_nil w6).mono ?_
 rintro e w7 ⟨R, r, rfl, k6, hR, l5, l6⟩
 have hs6 := hc7.size
 have hRP : R ≠ P := by have := heap_lt g6; omega
 have hrP : r ≠ P := by have := heap_lt g6; omega
 have g7 := g6.keep k6 (by simp)
 have S7 := S6.keep k6 (by simp)
 have D7 := D6.keep k6 (by simp) (by simp) (by simp)
 have hc8 : Chg (N :: Z) w w7 := hc7.then (k6.mono (fun x hx _ => by cases hx))
 clear hc7 S6 g6 D6 k6
 go_wp2_with fail
 refine (log_any w7 g7 D7).mono ?_
 rintro e w8 ⟨rfl, k6⟩
 have hR8 : StateAt w8 R r := ⟨k6.heap hR.1 (by simp), hR.2.keep k6 (by simp)⟩
 have g8 := g7.keep k6 (by simp)
 have S8 := S7.keep k6 (by simp)
 have D8 := D7.keep k6 (by simp) (by simp) (by simp)
 have hc9 : Chg (N :: Z) w w8 := hc8.then (k6.mono (fun x hx _ => by cases hx))
 clear hc8 S7 g7 D7 k6 hR
 go_wp2_with fail
 refine (contf_nil _ w8).mono ?_
 rintro e w9 ⟨rfl, rfl⟩
 go_wp2_with fail
 refine (contf_nil _ w8).mono ?_
 rintro e w9 ⟨rfl, rfl⟩
 go_wp2_with fail
 refine (replay_any w8 g8 S8).mono ?_
 rintro e w9 ⟨rfl, k6⟩
 have hR9 : StateAt w9 R r := ⟨k6.heap hR8.1 (by simp), hR8.2.keep k6 (by simp)⟩
 have g9 := g8.keep k6 (by simp)
 have S9 := S8.keep k6 (by simp)
 have D9 := D8.keep k6 (by simp) (by simp) (by simp)
 have hc10 : Chg (N :: Z) w w9 := hc9.then (k6.mono (fun x hx _ => by cases hx))
 clear hc9 S8 g8 D8 k6 hR8
 go_wp2_with fail
 have hB : Bk w w9 N A c (ops + 1) Z P S R r := ⟨hc10, ⟨none, g9⟩, S9, D9, hR9⟩
 clear hc10 g9 S9 D9 hR9
 have hNP : N ≠ P := by omega
 have hAP : A ≠ P := by omega
 have hZP : ∀ z ∈ Z, z ≠ P := fun z hz => by have := hlt z hz; omega
 go_region_held3 (fun wx => Bk w wx N A c (ops + 1) Z P S R r ∧ wx.cell? ⟨R, 0, none⟩ = some (.int .i64 0))
  (first
   | (exact ⟨hB, hB.r0⟩)
   | (exact ⟨hB.drew, hB.drew.r0⟩)
   | (exact ⟨(hB.set hPl hNP hAP hZP hSP hRP hrP _).1, (hB.set hPl hNP hAP hZP hSP hRP hrP _).1.r0⟩))
  (first
   | (go_at_call 79; (first | refine (geometry_any _ hB.drew.dev).mono ?_ | refine (geometry_any _ hB.dev).mono ?_); rintro e wb ⟨rfl, k1⟩; (first | replace hB := hB.keep k1 | replace hB := hB.drew.keep k1))
   | (go_at_call 88; refine (cap_min _).mono ?_; rintro e wb ⟨rfl, k2⟩; (first | replace hB := hB.keep k2 | replace hB := hB.drew.keep k2))
   | (go_at_call 87; obtain ⟨mm, hmm⟩ := hB.2.1; have hPb := heap_lt hmm; refine (tnew_any _).mono ?_; rintro e wb ⟨M, X, rx, B, rb, rc, rfl, k3, hM, hX, hBk, hrc, l10, l11, l12, l13, l14, l15, n1, n2, n3⟩; (first | replace hB := hB.keep k3 | replace hB := hB.drew.keep k3); obtain ⟨⟨m5, p5⟩, f5⟩ := hB.p5))
 have hB2 := hB.set hPl hNP hAP hZP hSP hRP hrP (some ⟨M, 0, none⟩)
 have hMP : M ≠ P := by omega
 have hXP : X ≠ P := by omega
 have hxP : rx ≠ P := by omega
 have hBP : B ≠ P := by omega
 have hbP : rb ≠ P := by omega
 have hcP : rc ≠ P := by omega
 have kS := Chg.set wb P 5 (.pointer (some ⟨M, 0, none⟩))
 have hK : Mk w (wb.setCell ⟨P, 5, none⟩ (.pointer (some ⟨M, 0, none⟩))) N A c (ops + 1) Z P S M X rx B rb rc :=
  ⟨hB2.1.1, hB2.1.dev, hB2.2, hB2.1.2.2.1, kS.heap hM (by simpa using hMP), ⟨kS.heap hX.1 (by simpa using hXP), hX.2.keep kS (by simpa using hxP)⟩, ⟨kS.heap hBk.1 (by simpa using hBP), hBk.2.keep kS (by simpa using hbP)⟩, hrc.keep kS (by simpa using hcP)⟩
 have hst := hB2.1.2.2.2.2
 clear hB2 kS hM hX hBk hrc hB k1 k2 k3 f5 p5
 generalize wb.setCell ⟨P, 5, none⟩ (.pointer (some ⟨M, 0, none⟩)) = v1 at *
 go_wp2_with fail
 go_region_held3 (fun wx => Mk w wx N A c (ops + 1) Z P S M X rx B rb rc ∧ wx.cell? ⟨P, 5, none⟩ = some (.pointer (some ⟨M, 0, none⟩)))
  (first
   | (exact ⟨hK, hK.p5⟩)
   | (exact ⟨hK.drew, hK.drew.p5⟩))
  (first
   | (go_at_call 90; refine (puts_any v1.drew (R := R) (r := r) hst).mono ?_; rintro e v2 ⟨rfl, k1⟩; replace hK := hK.drew.keep k1)
   | (go_at_call 89; refine (tload_any _ hK.2.2.2.2.1 hK.2.2.2.2.2.2.2).mono ?_; rintro e v3 ⟨rfl, rfl⟩))
 go_wp2_with fail
 go_ret2
 exact ⟨P, S, M, X, rx, B, rb, rc, rfl, hK, hPl, hPs, by omega, by omega, by omega, by omega, by omega, by omega, n1, n2, n3⟩
set_option maxRecDepth 100000 in
theorem room_any (w : World) {B rb : Nat} {last : Int} {L : List (Int × Value)} (h : BookAt w B rb last L) : Calls Tryz.prog 180 #[.pointer (some ⟨B, 0, none⟩)] w fun e w' => e = .returned (.int .i64 16) ∧ w = w' := by
 have c0 : w.cell? ⟨B, 0, none⟩ = some (.int .i64 16) := cell_is h.1 0 rfl
 clear h
 go_enter Tryz.func180, Tryz.ntmps180
 go_wp2_with fail
 go_ret
 exact ⟨rfl, rfl⟩
set_option maxRecDepth 100000 in
theorem list_none (w : World) {B rb : Nat} {last : Int} (h : BookAt w B rb last []) : Calls Tryz.prog 222 #[.pointer (some ⟨B, 0, none⟩)] w fun e w' => e = .returned (.slice none 0 0) ∧ Chg [] w w' := by
 have c2 : w.cell? ⟨B, 2, none⟩ = some (.map (some rb)) := cell_is h.1 2 rfl
 have HS := Lib.hid (sortedB_none w h.2)
 clear h
 go_enter Tryz.func222, Tryz.ntmps222
 go_wp2_with fail
 refine (keysB_any _ w).mono ?_
 rintro e w1 ⟨rfl, rfl⟩
 go_wp2_with fail
 refine HS.out.mono ?_
 rintro e w1 ⟨rfl, hc⟩
 go_wp2_with fail
 go_ret
 exact ⟨rfl, hc⟩
set_option maxRecDepth 100000 in
theorem count_none (w : World) {B rb : Nat} {last : Int} (h : BookAt w B rb last []) : Calls Tryz.prog 179 #[.pointer (some ⟨B, 0, none⟩)] w fun e w' => e = .returned (.int .i64 0) ∧ Chg [] w w' := by
 have HS := Lib.hid (list_none w h)
 clear h
 go_enter Tryz.func179, Tryz.ntmps179
 go_wp2_with fail
 refine HS.out.mono ?_
 rintro e w1 ⟨rfl, hc⟩
 go_wp2_with fail
 go_ret
 exact ⟨rfl, hc⟩
theorem BookAt.keep {w w' : World} {T : List Nat} {B rb : Nat} {last : Int} {L : List (Int × Value)} (h : BookAt w B rb last L) (hc : Chg T w w') (h1 : B ∉ T) (h2 : rb ∉ T) : BookAt w' B rb last L := ⟨hc.heap h.1 h1, h.2.keep hc h2⟩
def BufAt (w : World) (W rw : Nat) (L : List (Int × Value)) : Prop := w.heap[W]? = some (.cells #[.int .i64 258, .int .i64 16, .map (some rw)] 267 (0, 0)) ∧ MapAt w rw L
theorem BufAt.keep {w w' : World} {T : List Nat} {W rw : Nat} {L : List (Int × Value)} (h : BufAt w W rw L) (hc : Chg T w w') (h1 : W ∉ T) (h2 : rw ∉ T) : BufAt w' W rw L := ⟨hc.heap h.1 h1, h.2.keep hc h2⟩
set_option maxRecDepth 100000 in
theorem wnew_any (w : World) : Calls Tryz.prog 115 #[.int .i64 258, .int .i64 16] w fun e w' => ∃ W rw, e = .returned (.tuple #[.pointer (some ⟨W, 0, none⟩), .int .i64 0]) ∧ Chg [] w w' ∧ BufAt w' W rw [] ∧ w.heap.size ≤ W ∧ w.heap.size ≤ rw := by
 have hm := @run_makeMap Tryz.prog
 have h2 := two_new w (.map #[] 0) (.cells #[.int .i64 258, .int .i64 16, .map (some w.heap.size)] 267)
 have hc := chg_two w (.map #[] 0) (.cells #[.int .i64 258, .int .i64 16, .map (some w.heap.size)] 267)
 have HF := Lib.hid (show ∃ rx, rx = w.heap.size ∧ BufAt ((w.alloc (.map #[] 0)).alloc (.cells #[.int .i64 258, .int .i64 16, .map (some w.heap.size)] 267)) (w.heap.size + 1) rx [] from ⟨_, rfl, h2.2, ⟨#[], 0, h2.1, rfl, MapKept.stamped_empty 0⟩⟩)
 clear h2
 go_enter Tryz.func115, Tryz.ntmps115
 go_wp2_with fail
 go_ret2
 obtain ⟨rx, rfl, h1⟩ := HF.out
 exact ⟨_, _, rfl, hc, h1, by omega, Nat.le_refl _⟩
def SpansAt (w : World) (V : Nat) (v : Value) : Prop := w.heap[V]? = some (.cells #[.int .i64 64, v] 305 (0, 0))
set_option maxRecDepth 100000 in
theorem inew_any (w : World) : Calls Tryz.prog 181 #[.int .i64 64] w fun e w' => ∃ V, e = .returned (.pointer (some ⟨V, 0, none⟩)) ∧ Chg [] w w' ∧ SpansAt w' V (.slice none 0 0) ∧ w.heap.size ≤ V := by
 have h1 := heap_new w (.cells #[.int .i64 64, .slice none 0 0] 305)
 go_enter Tryz.func181, Tryz.ntmps181
 go_wp2_with fail
 go_ret
 exact ⟨_, rfl, Chg.alloc w _, h1, Nat.le_refl _⟩
theorem map_cells {w : World} {a b : Nat} {cs : Array Value} {t : TypeId} {fr : Nat × Nat} {L : List (Int × Value)} (h : MapAt w a L) (h' : w.heap[b]? = some (.cells cs t fr)) : a ≠ b := by
 rintro rfl
 obtain ⟨es, clock, hb, -⟩ := h
 rw [hb] at h'
 cases h'
noncomputable def updW (w : World) (mty : TypeId) (r : Nat) (k : Int) (v : Value) : World :=
 match (Instr.mapUpdate mty (.map (some r)) (.int .i64 k) v).run Tryz.prog w with
 | .ok _ w' => w'
 | _ => w
theorem updW_is {mty kt et : TypeId} (hm : Tryz.prog.underlying mty = some (.map kt et)) (hk : Tryz.prog.underlying kt = some (.int .i64)) {w : World} {r : Nat} {L : List (Int × Value)} (hM : MapAt w r L) (k : Int) (v : Value) :
  (Instr.mapUpdate mty (.map (some r)) (.int .i64 k) v).run Tryz.prog w = .ok () (updW w mty r k v) ∧ MapAt (updW w mty r k v) r (putL L k v) ∧ Chg [r] w (updW w mty r k v) := by
 obtain ⟨w', h1, h2, h3, -⟩ := run_update_im hm hk hM k v
 have : updW w mty r k v = w' := by unfold updW; rw [h1]
 rw [this]
 exact ⟨h1, h2, h3⟩
theorem upd178 {w : World} {r : Nat} {L : List (Int × Value)} (hM : MapAt w r L) (k : Int) (v : Value) :
  (Instr.mapUpdate 193 (.map (some r)) (.int .i64 k) v).run Tryz.prog w = .ok () (updW w 193 r k v) ∧ MapAt (updW w 193 r k v) r (putL L k v) ∧ Chg [r] w (updW w 193 r k v) :=
 updW_is (kt := 3) (et := 199) (by kernel_rfl) (by kernel_rfl) hM k v
theorem lookup178 {w : World} {r : Nat} {L : List (Int × Value)} (hM : MapAt w r L) (k : Int) (c : Bool) :
  (Instr.lookup 193 (.map (some r)) (.int .i64 k) c).run Tryz.prog w = .ok (if c then .tuple #[(getL L k).getD (.pointer none), .bool (getL L k).isSome] else (getL L k).getD (.pointer none)) w :=
 run_lookup_im (mty := 193) (kt := 3) (et := 199) (by kernel_rfl) (by kernel_rfl) (by kernel_rfl) hM k c
set_option maxRecDepth 100000 in
theorem far_one (w : World) {W rw K D o : Nat} {L : List (Int × Value)} {b : Int} {c : Nat} (h : BufAt w W rw L) (hK : w.cell? ⟨K, 0, none⟩ = some (.pointer (some ⟨W, 0, none⟩))) (h0 : 0 ≤ b) (h1 : b < 258) :
  Calls Tryz.prog 183 #[.agg #[.int .i64 b, .slice (some ⟨D, o, none⟩) 40 c], .pointer (some ⟨K, 0, none⟩)] w fun e w' => e = .returned (.bool false) ∧ Chg [] w w' := by
 have g := heap_new w (.cells #[.int .i64 b, .slice (some ⟨D, o, none⟩) 40 c] 50)
 have kc : Chg [] w (w.alloc (.cells #[.int .i64 b, .slice (some ⟨D, o, none⟩) 40 c] 50)) := Chg.alloc w _
 have a0 : (w.alloc (.cells #[.int .i64 b, .slice (some ⟨D, o, none⟩) 40 c] 50)).cell? ⟨w.heap.size, 0, none⟩ = some (.int .i64 b) := cell_is g 0 rfl
 have a1 : (w.alloc (.cells #[.int .i64 b, .slice (some ⟨D, o, none⟩) 40 c] 50)).cell? ⟨K, 0, none⟩ = some (.pointer (some ⟨W, 0, none⟩)) := kc.cell hK (by simp)
 have a2 : (w.alloc (.cells #[.int .i64 b, .slice (some ⟨D, o, none⟩) 40 c] 50)).cell? ⟨W, 0, none⟩ = some (.int .i64 258) := cell_is (kc.heap h.1 (by simp)) 0 rfl
 clear h hK g
 have n0 : decide (b < 0) = false := decide_eq_false (by omega)
 have n1 : decide (258 ≤ b) = false := decide_eq_false (by omega)
 go_enter Tryz.func183, Tryz.ntmps183
 go_wp2_with fail
 generalize w.alloc (.cells #[.int .i64 b, .slice (some ⟨D, o, none⟩) 40 c] 50) = w1 at *
 generalize w.heap.size = z at *
 go_region_held3 (fun wx => wx.cell? ⟨z, 0, none⟩ = some (.int .i64 b) ∧ wx.cell? ⟨K, 0, none⟩ = some (.pointer (some ⟨W, 0, none⟩)) ∧ wx.cell? ⟨W, 0, none⟩ = some (.int .i64 258)) (first | (exact ⟨a0, a1, a2⟩)) (fail)
 go_wp2_with fail
 go_ret
 exact ⟨by simp, kc.drew⟩
set_option maxRecDepth 100000 in
theorem short_one (w : World) {D o : Nat} {b : Int} {c : Nat} :
  Calls Tryz.prog 184 #[.agg #[.int .i64 b, .slice (some ⟨D, o, none⟩) 40 c]] w fun e w' => e = .returned (.bool false) ∧ Chg [] w w' := by
 have g := heap_new w (.cells #[.int .i64 b, .slice (some ⟨D, o, none⟩) 40 c] 50)
 have kc : Chg [] w (w.alloc (.cells #[.int .i64 b, .slice (some ⟨D, o, none⟩) 40 c] 50)) := Chg.alloc w _
 go_enter Tryz.func184, Tryz.ntmps184
 go_wp2_with fail
 go_ret
 exact ⟨rfl, kc⟩
set_option maxRecDepth 100000 in
set_option maxHeartbeats 1000000 in
theorem idxput_far (w : World) {E eo cp : Nat} {b : Int} {v : Value} {K : Nat} (e0 : w.cell? ⟨E, eo, none⟩ = some (.int .i64 b)) (e1 : w.cell? ⟨E, eo + 1, none⟩ = some v)
  (hg : Calls Tryz.prog 183 #[.agg #[.int .i64 b, v], .pointer (some ⟨K, 0, none⟩)] w fun e w' => e = .returned (.bool false) ∧ Chg [] w w') : Calls Tryz.prog 223 #[.slice (some ⟨E, eo, none⟩) 1 cp, .func (.func 183) #[] #[.pointer (some ⟨K, 0, none⟩)]] w fun e w' => e = .returned (.int .i64 (-1)) ∧ Chg [] w w' := by
 go_enter Tryz.func223, Tryz.ntmps223
 go_wp2_with fail
 go_loopw [8] (fun i wr => (i = .int .i64 0 ∧ wr = w) ∨ (i = .int .i64 1 ∧ Chg [] w wr)) (fun i _ => 1 - (intOf i).toNat)
 case atStart => exact Or.inl ⟨rfl, rfl⟩
 case round =>
  rcases hrel with ⟨rfl, rfl⟩ | ⟨rfl, hc⟩
  ·go_wp2_with fail
   refine hg.mono ?_
   rintro e w2 ⟨rfl, hc⟩
   go_wp2_with fail
   go_round
   case rel => exact Or.inr ⟨rfl, hc⟩
   case measure => decide
  ·go_wp2_with fail
   go_ret
   exact ⟨rfl, hc⟩
set_option maxRecDepth 100000 in
theorem contput_far (w : World) {E eo cp : Nat} {b : Int} {v : Value} {K : Nat} (e0 : w.cell? ⟨E, eo, none⟩ = some (.int .i64 b)) (e1 : w.cell? ⟨E, eo + 1, none⟩ = some v)
  (hg : Calls Tryz.prog 183 #[.agg #[.int .i64 b, v], .pointer (some ⟨K, 0, none⟩)] w fun e w' => e = .returned (.bool false) ∧ Chg [] w w') : Calls Tryz.prog 182 #[.slice (some ⟨E, eo, none⟩) 1 cp, .func (.func 183) #[] #[.pointer (some ⟨K, 0, none⟩)]] w fun e w' => e = .returned (.bool false) ∧ Chg [] w w' := by
 go_enter Tryz.func182, Tryz.ntmps182
 go_wp2_with fail
 refine (idxput_far w e0 e1 hg).mono ?_
 rintro e w2 ⟨rfl, hc⟩
 go_wp2_with fail
 go_ret
 exact ⟨rfl, hc⟩
set_option maxRecDepth 100000 in
set_option maxHeartbeats 1000000 in
theorem idxput_short (w : World) {E eo cp : Nat} {b : Int} {v : Value}  (e0 : w.cell? ⟨E, eo, none⟩ = some (.int .i64 b)) (e1 : w.cell? ⟨E, eo + 1, none⟩ = some v)
  (hg : Calls Tryz.prog 184 #[.agg #[.int .i64 b, v]] w fun e w' => e = .returned (.bool false) ∧ Chg [] w w') : Calls Tryz.prog 223 #[.slice (some ⟨E, eo, none⟩) 1 cp, .func (.func 184) #[] #[]] w fun e w' => e = .returned (.int .i64 (-1)) ∧ Chg [] w w' := by
 go_enter Tryz.func223, Tryz.ntmps223
 go_wp2_with fail
 go_loopw [8] (fun i wr => (i = .int .i64 0 ∧ wr = w) ∨ (i = .int .i64 1 ∧ Chg [] w wr)) (fun i _ => 1 - (intOf i).toNat)
 case atStart => exact Or.inl ⟨rfl, rfl⟩
 case round =>
  rcases hrel with ⟨rfl, rfl⟩ | ⟨rfl, hc⟩
  ·go_wp2_with fail
   refine hg.mono ?_
   rintro e w2 ⟨rfl, hc⟩
   go_wp2_with fail
   go_round
   case rel => exact Or.inr ⟨rfl, hc⟩
   case measure => decide
  ·go_wp2_with fail
   go_ret
   exact ⟨rfl, hc⟩
set_option maxRecDepth 100000 in
theorem contput_short (w : World) {E eo cp : Nat} {b : Int} {v : Value}  (e0 : w.cell? ⟨E, eo, none⟩ = some (.int .i64 b)) (e1 : w.cell? ⟨E, eo + 1, none⟩ = some v)
  (hg : Calls Tryz.prog 184 #[.agg #[.int .i64 b, v]] w fun e w' => e = .returned (.bool false) ∧ Chg [] w w') : Calls Tryz.prog 182 #[.slice (some ⟨E, eo, none⟩) 1 cp, .func (.func 184) #[] #[]] w fun e w' => e = .returned (.bool false) ∧ Chg [] w w' := by
 go_enter Tryz.func182, Tryz.ntmps182
 go_wp2_with fail
 refine (idxput_short w e0 e1 hg).mono ?_
 rintro e w2 ⟨rfl, hc⟩
 go_wp2_with fail
 go_ret
 exact ⟨rfl, hc⟩
theorem upd268 {w : World} {r : Nat} {L : List (Int × Value)} (hM : MapAt w r L) (k : Int) (v : Value) :
  (Instr.mapUpdate 263 (.map (some r)) (.int .i64 k) v).run Tryz.prog w = .ok () (updW w 263 r k v) ∧ MapAt (updW w 263 r k v) r (putL L k v) ∧ Chg [r] w (updW w 263 r k v) :=
 updW_is (kt := 3) (et := 3) (by kernel_rfl) (by kernel_rfl) hM k v
theorem lookup268 {w : World} {r : Nat} {L : List (Int × Value)} (hM : MapAt w r L) (k : Int) (c : Bool) :
  (Instr.lookup 263 (.map (some r)) (.int .i64 k) c).run Tryz.prog w = .ok (if c then .tuple #[(getL L k).getD (.int .i64 0), .bool (getL L k).isSome] else (getL L k).getD (.int .i64 0)) w :=
 run_lookup_im (mty := 263) (kt := 3) (et := 3) (by kernel_rfl) (by kernel_rfl) (by kernel_rfl) hM k c
set_option maxRecDepth 100000 in
set_option maxHeartbeats 1000000 in
theorem twice_one (w : World) {E eo cp : Nat} {b : Int} {D o c : Nat} (e0 : w.cell? ⟨E, eo, none⟩ = some (.int .i64 b)) (e1 : w.cell? ⟨E, eo + 1, none⟩ = some (.slice (some ⟨D, o, none⟩) 40 c)) :
  Calls Tryz.prog 185 #[.slice (some ⟨E, eo, none⟩) 1 cp] w fun e w' => e = .returned (.bool false) ∧ Chg [] w w' := by
 have hm := @run_makeMap Tryz.prog
 have k1 : Chg [] w (w.alloc (.map #[] 0)) := Chg.alloc w _
 have m1 : MapAt (w.alloc (.map #[] 0)) w.heap.size [] := ⟨#[], 0, heap_new w _, rfl, MapKept.stamped_empty 0⟩
 have a0 := k1.cell e0 (by simp)
 have a1 := k1.cell e1 (by simp)
 go_enter Tryz.func185, Tryz.ntmps185
 go_wp2_with fail
 go_step3
 go_wp2_with fail
 generalize hw1 : w.alloc (.map #[] 0) = w1 at *
 generalize hR : w.heap.size = R at *
 have k2 : Chg [] w1 (w1.alloc (.cells #[.int .i64 b, .slice (some ⟨D, o, none⟩) 40 c] 50)) := Chg.alloc w1 _
 have g2 := heap_new w1 (.cells #[.int .i64 b, .slice (some ⟨D, o, none⟩) 40 c] 50)
 have m2 : MapAt (w1.alloc (.cells #[.int .i64 b, .slice (some ⟨D, o, none⟩) 40 c] 50)) R [] := m1.keep k2 (by simp)
 have l2 : (Instr.lookup 263 (.map (some R)) (.int .i64 b) false).run Tryz.prog (w1.alloc (.cells #[.int .i64 b, .slice (some ⟨D, o, none⟩) 40 c] 50)) = .ok (.int .i64 0) (w1.alloc (.cells #[.int .i64 b, .slice (some ⟨D, o, none⟩) 40 c] 50)) := lookup268 m2 b false
 obtain ⟨u2, m3, k3⟩ := upd268 m2 b (.int .i64 1)
 have l3 : (Instr.lookup 263 (.map (some R)) (.int .i64 b) false).run Tryz.prog (updW (w1.alloc (.cells #[.int .i64 b, .slice (some ⟨D, o, none⟩) 40 c] 50)) 263 R b (.int .i64 1)) = .ok (.int .i64 1) (updW (w1.alloc (.cells #[.int .i64 b, .slice (some ⟨D, o, none⟩) 40 c] 50)) 263 R b (.int .i64 1)) := by
  rw [lookup268 m3 b false]
  simp [putL, getL]
 have hne : w1.heap.size ≠ R := by have := m1.lt; omega
 have c3 : (updW (w1.alloc (.cells #[.int .i64 b, .slice (some ⟨D, o, none⟩) 40 c] 50)) 263 R b (.int .i64 1)).cell? ⟨w1.heap.size, 0, none⟩ = some (.int .i64 b) := k3.cell (cell_is g2 0 rfl) (by simpa using hne)
 have kk : Chg [] w (updW (w1.alloc (.cells #[.int .i64 b, .slice (some ⟨D, o, none⟩) 40 c] 50)) 263 R b (.int .i64 1)) := by
  refine (k1.then k2).trans k3 ?_
  intro x hx hl
  simp at hx
  omega
 clear m1 m2 m3 g2 k2 k3 hw1
 go_step3
 go_wp2_with fail
 go_loopw [9] (fun i wr => (i = .int .i64 0 ∧ wr = w1) ∨ (i = .int .i64 1 ∧ Chg [] w wr)) (fun i _ => 1 - (intOf i).toNat)
 case atStart => exact Or.inl ⟨rfl, rfl⟩
 case round =>
  rcases hrel with ⟨rfl, rfl⟩ | ⟨rfl, hc⟩
  ·go_wp2_with fail
   go_roundw
   case rel => exact Or.inr ⟨rfl, kk⟩
   case measure => decide
  ·go_wp2_with fail
   simp only [Exit.noGoto]
   go_ret
   exact ⟨rfl, hc⟩
theorem ty23 : Tryz.prog.underlying 47 = some (.slice 5) := Tryz.underlying47
theorem inf5c : (Tryz.prog.info? 5).map (fun i => (i.zero, i.size, i.bytes)) = some (some (.int .u8 0), 1, 1) := by kernel_rfl
def Bt (w : World) (g : Nat) : Prop := ∃ cs, w.heap[g]? = some (.cells cs 5 (0, 0))
set_option maxRecDepth 100000 in
set_option maxHeartbeats 1000000 in
theorem clone_bt (w : World) {D o c m : Nat} {l : List UInt8} (hl : l.length = m) (hm0 : 0 < m) (hm1 : m ≤ 100000) (hb : Bs w (some ⟨D, o, none⟩) l) : Calls Tryz.prog 126 #[.slice (some ⟨D, o, none⟩) m c] w fun e w' =>
  ∃ g c', e = .returned (.slice (some ⟨g, 0, none⟩) m c') ∧ Chg [] w w' ∧ Bs w' (some ⟨g, 0, none⟩) l ∧ w.heap.size ≤ g ∧ Bt w' g := by
 have hn : ∀ w, (binOp .eql 47 (.slice (some ⟨D, o, none⟩) m c) (.slice none 0 0)).run Tryz.prog w = .ok (.bool false) w := fun w => Lib.run_eql_slice_nil w 47 5 _ _ _ 0 0 Tryz.underlying47
 have HB := Lib.hid hb
 have HL := Lib.hid hl
 clear hb hl
 go_enter Tryz.func126, Tryz.ntmps126
 go_wp2_with (first | (at_builtin; refine wpList_append_bs rfl (.tmp 5) (.tmp 6) 47 5 rfl ty23 inf5c w.heap.size _ 0 [] rfl (own_empty w 5) _ m c l rfl HL.out (HB.out.keep (Below.of_alloc _ _)) (by omega) (by simp) ?_; intro v1 w1 h1; have hs1 : w.heap.size ≤ w1.heap.size := Nat.le_trans (by simp) h1.2.1.size))
 go_ret
 have hB : Below w.heap.size w w1 := (Below.of_alloc w _).trans h1.2.1
 have hb1 := h1.1
 rcases hb1.2 with ⟨e, h0⟩ | ⟨g, cap, cur, e, hA, hgt, -⟩
 ·omega
 ·rw [e] at hb1
  refine ⟨g, cap, ?_, Chg.of_below hB, by simpa using Bs.own hb1, hA, _, hgt⟩
  show Ending.returned v1 = _
  rw [e, Nat.zero_add]
theorem clone_bs (w : World) {D o c m : Nat} {l : List UInt8} (hl : l.length = m) (hm0 : 0 < m) (hm1 : m ≤ 100000) (hb : Bs w (some ⟨D, o, none⟩) l) : Calls Tryz.prog 126 #[.slice (some ⟨D, o, none⟩) m c] w fun e w' =>
  ∃ g c', e = .returned (.slice (some ⟨g, 0, none⟩) m c') ∧ Chg [] w w' ∧ Bs w' (some ⟨g, 0, none⟩) l ∧ w.heap.size ≤ g :=
 (clone_bt w hl hm0 hm1 hb).mono fun _ _ ⟨g, c', h1, h2, h3, h4, _⟩ => ⟨g, c', h1, h2, h3, h4⟩
theorem ty151 : Tryz.prog.underlying 149 = some (.map 3 47) := by kernel_rfl
theorem upd151 {w : World} {r : Nat} {L : List (Int × Value)} (hM : MapAt w r L) (k : Int) (v : Value) :
  (Instr.mapUpdate 149 (.map (some r)) (.int .i64 k) v).run Tryz.prog w = .ok () (updW w 149 r k v) ∧ MapAt (updW w 149 r k v) r (putL L k v) ∧ Chg [r] w (updW w 149 r k v) :=
 updW_is (kt := 3) (et := 47) (by kernel_rfl) (by kernel_rfl) hM k v
theorem lookup151 {w : World} {r : Nat} {L : List (Int × Value)} (hM : MapAt w r L) (k : Int) (c : Bool) :
  (Instr.lookup 149 (.map (some r)) (.int .i64 k) c).run Tryz.prog w = .ok (if c then .tuple #[(getL L k).getD (.slice none 0 0), .bool (getL L k).isSome] else (getL L k).getD (.slice none 0 0)) w :=
 run_lookup_im (mty := 149) (kt := 3) (et := 47) (by kernel_rfl) (by kernel_rfl) (by kernel_rfl) hM k c
structure Wr (w : World) (K W rw E eo D o c : Nat) (b : Int) (L : List (Int × Value)) (l : List UInt8) : Prop where
 k : w.cell? ⟨K, 0, none⟩ = some (.pointer (some ⟨W, 0, none⟩))
 buf : BufAt w W rw L
 e0 : w.cell? ⟨E, eo, none⟩ = some (.int .i64 b)
 e1 : w.cell? ⟨E, eo + 1, none⟩ = some (.slice (some ⟨D, o, none⟩) 40 c)
 bs : Bs w (some ⟨D, o, none⟩) l
theorem Bs.chg {w w' : World} {a : Option Addr} {l : List UInt8} (h : Bs w a l) (hc : Chg [] w w') : Bs w' a l := h.below hc.below0 (Nat.le_refl _)
theorem Wr.keep {w w' : World} {K W rw E eo D o c : Nat} {b : Int} {L : List (Int × Value)} {l : List UInt8} (h : Wr w K W rw E eo D o c b L l) (hc : Chg [] w w') : Wr w' K W rw E eo D o c b L l :=
 ⟨hc.cell h.k (by simp), h.buf.keep hc (by simp) (by simp), hc.cell h.e0 (by simp), hc.cell h.e1 (by simp), h.bs.chg hc⟩
theorem Wr.c1 {w : World} {K W rw E eo D o c : Nat} {b : Int} {L : List (Int × Value)} {l : List UInt8} (h : Wr w K W rw E eo D o c b L l) : w.cell? ⟨W, 1, none⟩ = some (.int .i64 16) := cell_is h.buf.1 1 rfl
theorem Wr.c2 {w : World} {K W rw E eo D o c : Nat} {b : Int} {L : List (Int × Value)} {l : List UInt8} (h : Wr w K W rw E eo D o c b L l) : w.cell? ⟨W, 2, none⟩ = some (.map (some rw)) := cell_is h.buf.1 2 rfl
theorem cell_map {w : World} {a K i : Nat} {v : Value} {L : List (Int × Value)} (h : MapAt w a L) (hc : w.cell? ⟨K, i, none⟩ = some v) : K ≠ a := by
 rintro rfl
 obtain ⟨es, clock, hb, -⟩ := h
 unfold World.cell? at hc
 rw [hb] at hc
 simp at hc
theorem Bs.chgT {w w' : World} {T : List Nat} {g o : Nat} {l : List UInt8} (h : Bs w (some ⟨g, o, none⟩) l) (hc : Chg T w w') (hg : g ∉ T) : Bs w' (some ⟨g, o, none⟩) l := by
 rcases h with h | ⟨b, off, he, hb, hcs⟩
 ·exact Or.inl h
 ·refine Or.inr ⟨b, off, he, Nat.lt_of_lt_of_le hb hc.size, fun j hj => hc.cell (hcs j hj) ?_⟩
  cases he
  exact hg
set_option maxRecDepth 100000 in
set_option maxHeartbeats 2000000 in
theorem wwrite_one (w : World) {W rw E eo cp D o c : Nat} {b : Int} {L : List (Int × Value)} {l : List UInt8} (h : BufAt w W rw L) (e0 : w.cell? ⟨E, eo, none⟩ = some (.int .i64 b)) (e1 : w.cell? ⟨E, eo + 1, none⟩ = some (.slice (some ⟨D, o, none⟩) 40 c))
  (hb : Bs w (some ⟨D, o, none⟩) l) (hl : l.length = 40) (h0 : 0 ≤ b) (h1 : b < 258) (hroom : L.length ≤ 15) : Calls Tryz.prog 119 #[.pointer (some ⟨W, 0, none⟩), .slice (some ⟨E, eo, none⟩) 1 cp] w fun e w' =>
  ∃ g c', e = .returned (.int .i64 0) ∧ Chg [rw] w w' ∧ BufAt w' W rw (putL L b (.slice (some ⟨g, 0, none⟩) 40 c')) ∧ Bs w' (some ⟨g, 0, none⟩) l ∧ Bt w' g := by
 have k1 : Chg [] w (w.alloc (.cells #[.pointer (some ⟨W, 0, none⟩)] 196)) := Chg.alloc w _
 have H : Wr (w.alloc (.cells #[.pointer (some ⟨W, 0, none⟩)] 196)) w.heap.size W rw E eo D o c b L l :=
  ⟨cell_is (heap_new w _) 0 rfl, h.keep k1 (by simp) (by simp), k1.cell e0 (by simp), k1.cell e1 (by simp), hb.chg k1⟩
 clear h hb e0 e1
 go_enter Tryz.func119, Tryz.ntmps119
 go_wp2_with fail
 generalize w.alloc (.cells #[.pointer (some ⟨W, 0, none⟩)] 196) = w1 at *
 generalize w.heap.size = K at *
 refine (contput_far w1 H.e0 H.e1 (far_one w1 H.buf H.k h0 h1)).mono ?_
 rintro e w2 ⟨rfl, k2⟩
 have H2 := H.keep k2
 have kk2 := k1.then k2
 clear H k1 k2
 go_wp2_with fail
 refine (contput_short w2 H2.e0 H2.e1 (short_one w2)).mono ?_
 rintro e w3 ⟨rfl, k3⟩
 have H3 := H2.keep k3
 have kk3 := kk2.then k3
 clear H2 kk2 k3
 go_wp2_with fail
 refine (twice_one w3 H3.e0 H3.e1).mono ?_
 rintro e w4 ⟨rfl, k4⟩
 have H4 := H3.keep k4
 have kk4 := kk3.then k4
 clear H3 kk3 k4
 have c1 := H4.c1
 have c2 := H4.c2
 have c0 := H4.k
 have hlen : (Builtin.len_ #[149] 3 #[.map (some rw)]).run Tryz.prog w4 = .ok (.int .i64 L.length) w4 := run_len_im ty151 H4.buf.2 3
 go_wp2_with fail
 have k5 : Chg [] w4 (w4.alloc (.cells #[.int .i64 b, .slice (some ⟨D, o, none⟩) 40 c] 50)) := Chg.alloc w4 _
 have g5 : (w4.alloc (.cells #[.int .i64 b, .slice (some ⟨D, o, none⟩) 40 c] 50)).cell? ⟨w4.heap.size, 0, none⟩ = some (.int .i64 b) := cell_is (heap_new w4 _) 0 rfl
 have H5 := H4.keep k5
 have d0 := H5.k
 have d2 := H5.c2
 have hlk : (Instr.lookup 149 (.map (some rw)) (.int .i64 b) true).run Tryz.prog (w4.alloc (.cells #[.int .i64 b, .slice (some ⟨D, o, none⟩) 40 c] 50)).drew = .ok (.tuple #[(getL L b).getD (.slice none 0 0), .bool (getL L b).isSome]) (w4.alloc (.cells #[.int .i64 b, .slice (some ⟨D, o, none⟩) 40 c] 50)).drew := lookup151 (w := (w4.alloc (.cells #[.int .i64 b, .slice (some ⟨D, o, none⟩) 40 c] 50)).drew) H5.buf.2 b true
 have e0 := H4.e0
 have e1 := H4.e1
 clear c0 c1 c2 hlen
 generalize hgl : getL L b = gl at *
 go_loopw [5, 37] (fun x i wr => (i = .int .i64 0 ∧ x = .int .i64 L.length ∧ wr = w4) ∨ (i = .int .i64 1 ∧ (∃ n : Nat, x = .int .i64 n ∧ n ≤ 16) ∧ Wr wr K W rw E eo D o c b L l ∧ Chg [] w wr)) (fun _ i _ => 1 - (intOf i).toNat)
 case atStart => exact Or.inl ⟨rfl, rfl, rfl⟩
 case round =>
  rcases hrel with ⟨rfl, rfl, rfl⟩ | ⟨rfl, ⟨n, rfl, hn⟩, H6, kk6⟩
  ·go_wp2_with fail
   generalize wr.alloc (.cells #[.int .i64 b, .slice (some ⟨D, o, none⟩) 40 c] 50) = w5 at *
   generalize wr.heap.size = z at *
   go_region_held3 (fun wx => wx.cell? ⟨K, 0, none⟩ = some (.pointer (some ⟨W, 0, none⟩)) ∧ wx.cell? ⟨W, 2, none⟩ = some (.map (some rw)) ∧ wx.cell? ⟨z, 0, none⟩ = some (.int .i64 b)) (first | (exact ⟨d0, d2, g5⟩)) (fail)
   cases gl with
   | none =>
    go_wp2_with fail
    go_roundw
    case rel => exact Or.inr ⟨rfl, ⟨L.length + 1, by go_num, by omega⟩, H5.keep (Chg.refl [] w5).drew, kk4.then (k5.then (Chg.refl [] w5).drew)⟩
    case measure => decide
   | some y =>
    go_wp2_with fail
    go_roundw
    case rel => exact Or.inr ⟨rfl, ⟨L.length, rfl, by omega⟩, H5.keep (Chg.refl [] w5).drew, kk4.then (k5.then (Chg.refl [] w5).drew)⟩
    case measure => decide
  ·have c0 := H6.k
   have c1 := H6.c1
   have hng : ¬ (16 : Int) < n := by omega
   clear H5 H4 d0 d2 hlk g5 k5 e0 e1 kk4
   go_wp2_with fail
   have k7 : Chg [] wr (wr.alloc (.cells #[.int .i64 b, .slice (some ⟨D, o, none⟩) 40 c] 50)) := Chg.alloc wr _
   have g7 : (wr.alloc (.cells #[.int .i64 b, .slice (some ⟨D, o, none⟩) 40 c] 50)).cell? ⟨wr.heap.size, 0, none⟩ = some (.int .i64 b) := cell_is (heap_new wr _) 0 rfl
   have g8 : (wr.alloc (.cells #[.int .i64 b, .slice (some ⟨D, o, none⟩) 40 c] 50)).cell? ⟨wr.heap.size, 1, none⟩ = some (.slice (some ⟨D, o, none⟩) 40 c) := cell_is (heap_new wr _) 1 rfl
   have H7 := H6.keep k7
   have d0 := H7.k
   have d2 := H7.c2
   have e0 := H6.e0
   have e1 := H6.e1
   generalize hwq : wr = wq at *
   clear c0 c1
   go_loopw [64] (fun i wr => (i = .int .i64 0 ∧ wr = wq) ∨ (i = .int .i64 1 ∧ ∃ g c', Chg [rw] w wr ∧ BufAt wr W rw (putL L b (.slice (some ⟨g, 0, none⟩) 40 c')) ∧ Bs wr (some ⟨g, 0, none⟩) l ∧ Bt wr g)) (fun i _ => 1 - (intOf i).toNat)
   case atStart => exact Or.inl ⟨rfl, rfl⟩
   case round =>
    rcases hrel with ⟨rfl, rfl⟩ | ⟨rfl, g, c', kf, hbf, hbs, hbt⟩
    ·go_wp2_with fail
     generalize wr.alloc (.cells #[.int .i64 b, .slice (some ⟨D, o, none⟩) 40 c] 50) = w5 at *
     generalize wr.heap.size = z at *
     have H7d := H7.keep (Chg.refl [] w5).drew
     have hsz := H7.buf.2.lt
     go_region_held3 (fun wx => wx.cell? ⟨K, 0, none⟩ = some (.pointer (some ⟨W, 0, none⟩)) ∧ wx.cell? ⟨W, 2, none⟩ = some (.map (some rw)) ∧ wx.cell? ⟨z, 0, none⟩ = some (.int .i64 b) ∧ wx.cell? ⟨z, 1, none⟩ = some (.slice (some ⟨D, o, none⟩) 40 c))
      (first
       | (exact ⟨d0, d2, g7, g8⟩)
       | (exact ⟨H8.k, H8.c2, q7, q8⟩)
       | (exact ⟨k9.cell H8.k (by simpa using cell_map H8.buf.2 H8.k), k9.cell H8.c2 (by simpa using cell_map H8.buf.2 H8.c2), k9.cell q7 (by simpa using cell_map H8.buf.2 q7), k9.cell q8 (by simpa using cell_map H8.buf.2 q8)⟩))
      (first
       | (go_at_call 126; refine (clone_bt w5.drew (l := l) hl (by decide) (by decide) H7d.bs).mono ?_; rintro e w6 ⟨g, c', rfl, k8, hb8, l8, ht8⟩; have H8 := H7d.keep k8; have q7 : w6.cell? ⟨z, 0, none⟩ = some (.int .i64 b) := k8.cell g7 (by simp); have q8 : w6.cell? ⟨z, 1, none⟩ = some (.slice (some ⟨D, o, none⟩) 40 c) := k8.cell g8 (by simp); obtain ⟨hmu, m8, k9⟩ := upd151 H8.buf.2 b (.slice (some ⟨g, 0, none⟩) 40 c')))
     have hgr : g ≠ rw := by
      have : w5.drew.heap.size = w5.heap.size := rfl
      omega
     have kall : Chg [rw] w w6 := (kk6.then ((k7.then (Chg.refl [] w5).drew).then k8)).mono (fun x hx _ => by cases hx)
     have hbuf : BufAt (updW w6 149 rw b (.slice (some ⟨g, 0, none⟩) 40 c')) W rw (putL L b (.slice (some ⟨g, 0, none⟩) 40 c')) := ⟨k9.heap H8.buf.1 (by simpa using (map_cells H8.buf.2 H8.buf.1).symm), m8⟩
     have hbs9 := hb8.chgT k9 (by simpa using hgr)
     have hbt9 : Bt (updW w6 149 rw b (.slice (some ⟨g, 0, none⟩) 40 c')) g := by obtain ⟨cs, hcs⟩ := ht8; exact ⟨cs, k9.heap hcs (by simpa using hgr)⟩
     clear ht8
     have kf := kall.then k9
     clear hmu
     go_wp2_with fail
     go_roundw
     case rel => exact Or.inr ⟨rfl, g, c', kf, hbuf, hbs9, hbt9⟩
     case measure => decide
    ·go_wp2_with fail
     go_ret
     exact ⟨g, c', rfl, kf, hbf, hbs, hbt⟩

set_option maxRecDepth 100000 in
theorem bget_none (w : World) {W rw : Nat} {L : List (Int × Value)} {b : Int} (h : BufAt w W rw L) (hg : getL L b = none) : Calls Tryz.prog 217 #[.pointer (some ⟨W, 0, none⟩), .int .i64 b] w fun e w' => e = .returned (.tuple #[.slice none 0 0, .bool false]) ∧ w = w' := by
 have c2 : w.cell? ⟨W, 2, none⟩ = some (.map (some rw)) := cell_is h.1 2 rfl
 have hl : (Instr.lookup 149 (.map (some rw)) (.int .i64 b) true).run Tryz.prog w = .ok (.tuple #[.slice none 0 0, .bool false]) w := by
  rw [lookup151 h.2 b true, hg]
  rfl
 clear h
 go_enter Tryz.func217, Tryz.ntmps217
 go_wp2_with fail
 refine (clone_nil w).mono ?_
 rintro e w1 ⟨rfl, rfl⟩
 go_wp2_with fail
 go_ret2
 exact ⟨rfl, rfl⟩
set_option maxRecDepth 100000 in
theorem bget_some (w : World) {W rw g c : Nat} {L : List (Int × Value)} {b : Int} {l : List UInt8} (h : BufAt w W rw L) (hg : getL L b = some (.slice (some ⟨g, 0, none⟩) 40 c)) (hb : Bs w (some ⟨g, 0, none⟩) l) (hl : l.length = 40) : Calls Tryz.prog 217 #[.pointer (some ⟨W, 0, none⟩), .int .i64 b] w fun e w' =>
  ∃ g' c', e = .returned (.tuple #[.slice (some ⟨g', 0, none⟩) 40 c', .bool true]) ∧ Chg [] w w' ∧ Bs w' (some ⟨g', 0, none⟩) l ∧ w.heap.size ≤ g' := by
 have c2 : w.cell? ⟨W, 2, none⟩ = some (.map (some rw)) := cell_is h.1 2 rfl
 have hlk : (Instr.lookup 149 (.map (some rw)) (.int .i64 b) true).run Tryz.prog w = .ok (.tuple #[.slice (some ⟨g, 0, none⟩) 40 c, .bool true]) w := by
  rw [lookup151 h.2 b true, hg]
  rfl
 have HC := Lib.hid (clone_bs w (c := c) hl (by decide) (by decide) hb)
 clear h hb
 go_enter Tryz.func217, Tryz.ntmps217
 go_wp2_with fail
 refine HC.out.mono ?_
 rintro e w1 ⟨g', c', rfl, hc, hb1, l1⟩
 go_wp2_with fail
 go_ret2
 exact ⟨g', c', rfl, hc, hb1, l1⟩

theorem lookup258 {w : World} {r : Nat} {L : List (Int × Value)} (hM : MapAt w r L) (k : Int) (c : Bool) :
  (Instr.lookup 268 (.map (some r)) (.int .i64 k) c).run Tryz.prog w = .ok (if c then .tuple #[(getL L k).getD (.slice none 0 0), .bool (getL L k).isSome] else (getL L k).getD (.slice none 0 0)) w :=
 run_lookup_im (mty := 268) (kt := 3) (et := 286) (by kernel_rfl) (by kernel_rfl) (by kernel_rfl) hM k c
def zero40 : Array Value := (List.replicate 40 (Value.int .u8 0)).toArray
theorem make40 (w : World) : (Instr.makeSlice 47 (.int .i64 40) (.int .i64 40)).run Tryz.prog w = .ok (.slice (some ⟨w.heap.size, 0, none⟩) 40 40) (w.alloc (.cells zero40 5)) := by kernel_rfl
theorem zero40_is : zero40 = (Lib.byteCells zeroB).toArray := by kernel_rfl

set_option maxRecDepth 100000 in
set_option maxHeartbeats 1000000 in
theorem idxspan_one (w : World) {E eo cp : Nat} {b : Int} {n : Int}  (e0 : w.cell? ⟨E, eo, none⟩ = some (.int .i64 b)) (e1 : w.cell? ⟨E, eo + 1, none⟩ = some (.int .i64 n))
  (hg : Calls Tryz.prog 279 #[.agg #[.int .i64 b, .int .i64 n]] w fun e w' => e = .returned (.bool false) ∧ Chg [] w w') : Calls Tryz.prog 298 #[.slice (some ⟨E, eo, none⟩) 1 cp, .func (.func 279) #[] #[]] w fun e w' => e = .returned (.int .i64 (-1)) ∧ Chg [] w w' := by
 go_enter Tryz.func298, Tryz.ntmps298
 go_wp2_with fail
 go_loopw [8] (fun i wr => (i = .int .i64 0 ∧ wr = w) ∨ (i = .int .i64 1 ∧ Chg [] w wr)) (fun i _ => 1 - (intOf i).toNat)
 case atStart => exact Or.inl ⟨rfl, rfl⟩
 case round =>
  rcases hrel with ⟨rfl, rfl⟩ | ⟨rfl, hc⟩
  ·go_wp2_with fail
   refine hg.mono ?_
   rintro e w2 ⟨rfl, hc⟩
   go_wp2_with fail
   go_round
   case rel => exact Or.inr ⟨rfl, hc⟩
   case measure => decide
  ·go_wp2_with fail
   go_ret
   exact ⟨rfl, hc⟩
set_option maxRecDepth 100000 in
theorem contspan_one (w : World) {E eo cp : Nat} {b : Int} {n : Int}  (e0 : w.cell? ⟨E, eo, none⟩ = some (.int .i64 b)) (e1 : w.cell? ⟨E, eo + 1, none⟩ = some (.int .i64 n))
  (hg : Calls Tryz.prog 279 #[.agg #[.int .i64 b, .int .i64 n]] w fun e w' => e = .returned (.bool false) ∧ Chg [] w w') : Calls Tryz.prog 278 #[.slice (some ⟨E, eo, none⟩) 1 cp, .func (.func 279) #[] #[]] w fun e w' => e = .returned (.bool false) ∧ Chg [] w w' := by
 go_enter Tryz.func278, Tryz.ntmps278
 go_wp2_with fail
 refine (idxspan_one w e0 e1 hg).mono ?_
 rintro e w2 ⟨rfl, hc⟩
 go_wp2_with fail
 go_ret
 exact ⟨rfl, hc⟩
set_option maxRecDepth 100000 in
theorem imay_one (w : World) {b : Int} (h0 : 0 ≤ b) (h1 : b < 258) : Calls Tryz.prog 280 #[.agg #[.int .i64 b, .int .i64 1]] w fun e w' => e = .returned (.bool true) ∧ Chg [] w w' := by
 have kc : Chg [] w (w.alloc (.cells #[.int .i64 b, .int .i64 1] 79)) := Chg.alloc w _
 have n0 : decide (0 ≤ b) = true := decide_eq_true h0
 have n1 : decide (b ≤ 1048576) = true := decide_eq_true (by omega)
 have n2 : decide (b + 1 ≤ 1048576) = true := decide_eq_true (by omega)
 go_enter Tryz.func280, Tryz.ntmps280
 go_wp2_with fail
 go_ret
 exact ⟨by first | rfl | (simp; omega), kc⟩
set_option maxRecDepth 100000 in
theorem inot_one (w : World) {b : Int} (h0 : 0 ≤ b) (h1 : b < 258) : Calls Tryz.prog 279 #[.agg #[.int .i64 b, .int .i64 1]] w fun e w' => e = .returned (.bool false) ∧ Chg [] w w' := by
 have kc : Chg [] w (w.alloc (.cells #[.int .i64 b, .int .i64 1] 79)) := Chg.alloc w _
 go_enter Tryz.func279, Tryz.ntmps279
 go_wp2_with fail
 refine (imay_one _ h0 h1).mono ?_
 rintro e w2 ⟨rfl, k2⟩
 go_wp2_with fail
 go_ret
 exact ⟨rfl, kc.then k2⟩
set_option maxRecDepth 100000 in
theorem iall_one (w : World) {E eo cp : Nat} {b : Int} (h0 : 0 ≤ b) (h1 : b < 258) (e0 : w.cell? ⟨E, eo, none⟩ = some (.int .i64 b)) (e1 : w.cell? ⟨E, eo + 1, none⟩ = some (.int .i64 1)) : Calls Tryz.prog 245 #[.slice (some ⟨E, eo, none⟩) 1 cp] w fun e w' => e = .returned (.bool true) ∧ Chg [] w w' := by
 go_enter Tryz.func245, Tryz.ntmps245
 go_wp2_with fail
 refine (contspan_one w e0 e1 (inot_one w h0 h1)).mono ?_
 rintro e w2 ⟨rfl, k2⟩
 go_wp2_with fail
 go_ret
 exact ⟨rfl, k2⟩
def spCells (l : List (Int × Int)) : List Value := l.flatMap fun p => [.int .i64 p.1, .int .i64 p.2]
theorem spCells_len (l : List (Int × Int)) : (spCells l).length = l.length * 2 := by
 induction l with
 | nil => rfl
 | cons p l ih => simp only [spCells, List.flatMap_cons, List.length_append, List.length_cons, List.length_nil] at ih ⊢; omega
theorem spCells_one (l : List (Int × Int)) : ∀ u ∈ spCells l, u.oneCell' = true := by
 intro u hu
 simp only [spCells, List.mem_flatMap, List.mem_cons, List.not_mem_nil, or_false] at hu
 obtain ⟨p, _, rfl | rfl⟩ := hu <;> rfl
def Sp (w : World) (b o : Nat) (l : List (Int × Int)) : Prop := ∀ j u, (spCells l)[j]? = some u → w.cell? ⟨b, o + j, none⟩ = some u
theorem Sp.keep {w w' : World} {b o : Nat} {l : List (Int × Int)} (h : Sp w b o l) (hc : Chg [] w w') : Sp w' b o l := fun j u hu => hc.cell (h j u hu) (by simp)
theorem ty217 : Tryz.prog.underlying 175 = some (.slice 79) := by kernel_rfl
theorem inf117 : (Tryz.prog.info? 79).map (fun i => (i.zero, i.size, i.bytes)) = some (some (.agg #[.int .i64 0, .int .i64 0]), 2, 16) := by kernel_rfl
theorem append_sp_own (w : World) (ty base : Nat) (v : Value) (n : Nat) (xs l : List (Int × Int)) (hown : w.ownsRow base 79 2 v n (spCells xs)) (b o m c : Nat) (hl : l.length = m) (hs : Sp w b o l) (hn : n + m ≤ 1000000) (hbase : base ≤ w.heap.size) :
  ∃ v' w', (Builtin.append_ #[175, 175] ty #[v, .slice (some ⟨b, o, none⟩) m c]).run Tryz.prog w = .ok v' w' ∧ AppendedV base 79 2 w v (n + m) (spCells (xs ++ l)) v' w' := by
 obtain ⟨i, hi0, hz, hz1, hz2⟩ := info_parts inf117
 obtain ⟨v', w', h2, h3, h4, _⟩ := run_append_own (P := Tryz.prog) w base 175 ty 79 i (.agg #[.int .i64 0, .int .i64 0]) 2 16 ty217 hi0 hz hz1 hz2 rfl (by decide) v n (spCells xs) hown ⟨b, o, none⟩ m c (spCells l) (by rw [spCells_len, hl])
  (fun j u hu => by
   have ha : (⟨b, o, none⟩ : Addr).add j = ⟨b, o + j, none⟩ := by unfold Addr.add; split <;> simp_all
   rw [ha]; exact hs j u hu) (spCells_one l) (by unfold maxLen; omega) (by omega) hbase
 exact ⟨v', w', h2, by rw [show spCells (xs ++ l) = spCells xs ++ spCells l by simp [spCells]]; exact h3, below_grown hown h4 hbase, h4⟩
theorem wpList_append_sp {ops : Array Oper} {rest : List Oper} {o : Oper} {a : Act} {w : World} {Q : Exit → Act → World → Prop} (hg : o.guard = none) (s x : Operand)
  (ho : o.op = .call { callee := .builtin .append, args := #[s, x], argTypes := #[175, 175] }) (base : Nat) (v : Value) (n : Nat) (xs l : List (Int × Int)) (hs : a.eval s = v) (hown : w.ownsRow base 79 2 v n (spCells xs))
  (b eo m c : Nat) (hx : a.eval x = .slice (some ⟨b, eo, none⟩) m c) (hl : l.length = m) (hr : Sp w b eo l) (hn : n + m ≤ 1000000) (hbase : base ≤ w.heap.size)
  (h : ∀ v' w', AppendedV base 79 2 w v (n + m) (spCells (xs ++ l)) v' w' → wpList Tryz.prog ops Q rest (a.put o.dst v') w') : wpList Tryz.prog ops Q (o :: rest) a w := by
 obtain ⟨v', w', h1, h2⟩ := append_sp_own w o.type base v n xs l hown b eo m c hl hr hn hbase
 exact Lib.wpList_append_run w hg s x 175 175 ho v (.slice (some ⟨b, eo, none⟩) m c) hs hx v' w' h1 (h v' w' h2)
theorem own_empty2 (w : World) : (w.alloc (.cells #[] 79)).ownsRow w.heap.size 79 2 (.slice (some ⟨w.heap.size, 0, none⟩) 0 0) 0 (spCells []) := by
 refine ⟨rfl, Or.inr ⟨w.heap.size, 0, #[], rfl, Nat.le_refl _, ?_⟩⟩
 simp
 exact ⟨(Array.getElem?_eq_some_iff.1 (heap_new w (.cells #[] 79))).2, rfl⟩
set_option maxRecDepth 100000 in
set_option maxHeartbeats 1000000 in
theorem clone_sp (w : World) {D o c m : Nat} {l : List (Int × Int)} (hl : l.length = m) (hm0 : 0 < m) (hm1 : m ≤ 1000) (hb : Sp w D o l) : Calls Tryz.prog 250 #[.slice (some ⟨D, o, none⟩) m c] w fun e w' =>
  ∃ v, e = .returned v ∧ Chg [] w w' ∧ w'.ownsRow w.heap.size 79 2 v m (spCells l) := by
 have hn : ∀ w, (binOp .eql 175 (.slice (some ⟨D, o, none⟩) m c) (.slice none 0 0)).run Tryz.prog w = .ok (.bool false) w := fun w => Lib.run_eql_slice_nil w 175 79 _ _ _ 0 0 ty217
 have HB := Lib.hid hb
 have HL := Lib.hid hl
 clear hb hl
 go_enter Tryz.func250, Tryz.ntmps250
 go_wp2_with (first | (at_builtin; refine wpList_append_sp rfl (.tmp 5) (.tmp 6) rfl w.heap.size _ 0 [] l rfl (own_empty2 w) D o m c rfl HL.out (HB.out.keep (Chg.alloc w _)) (by omega) (by simp) ?_; intro v1 w1 h1))
 go_ret
 exact ⟨v1, rfl, Chg.of_below ((Below.of_alloc w _).trans h1.2.1), by simpa using h1.1⟩
end Go.Proofs.YtelakcjbknbehaaGreat
