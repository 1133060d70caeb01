/- Lemmas and walks: Walks: space at the least geometry; an empty device. Walks: an empty device is made, and flushed. Walks: a schedule's block; which client is meant; how many of its ops wait. Walks: slots of an empty device. Walks: a copy of bytes; one put is written into a buffer. Walks: an op in memory of its own; an answer too. Walks: ops wait: Add of a schedule. Tools: a row that lies somewhere in its block, as a cut slice does; append onto it. No program in this text. Walks: ops wait: Add of a schedule, onto a row that was cut. Printed by mkKk.py. Walks: what Mount reads of an empty device. Walks: a manager without transactions. -/
import Derived.Test.YtliicpedddcfiaaGreatProg
import Derived.WalkLawsBesides
import Derived.Deep.RegionWith
import Derived.Deep.AppendLies
import Derived.Deep.RegionHeld3
import Derived.Deep.AppendSrc
import Derived.Test.YtliicpedddcfiaaGreatAb
namespace Go.Proofs.YtliicpedddcfiaaGreat
open Go.RowKit Go.Lib

theorem heap_old {w : World} {o : Obj} {g : Nat} {x : Obj} (h : w.heap[g]? = some x) : (w.alloc o).heap[g]? = some x := (Chg.alloc (S := []) w o).heap h (by simp)
theorem Chg.new_set {S : List Nat} {a b : World} (h : Chg S a b) {g : Nat} (hg : a.heap.size ≤ g) (i : Nat) (v : Value) : Chg S a (b.setCell ⟨g, i, none⟩ v) := h.then_set (fun hl => by omega) i v
theorem two_new (w : World) (o p : Obj) : ((w.alloc o).alloc p).heap[w.heap.size]? = some o ∧ ((w.alloc o).alloc p).heap[w.heap.size + 1]? = some p := by
  refine ⟨heap_old (heap_new w o), ?_⟩
  have := heap_new (w.alloc o) p
  rw [show (w.alloc o).heap.size = w.heap.size + 1 by simp] at this
  exact this
theorem chg_two (w : World) (o p : Obj) : Chg [] w ((w.alloc o).alloc p) := (Chg.alloc w o).then_alloc p

set_option maxRecDepth 100000 in
theorem may_min (w : World) : Calls Tryz.prog 67 #[.agg #[.int .i64 8, .int .i64 96]] w fun e w' => e = .returned (.bool true) ∧ Chg [] w w' := by
  go_enter Tryz.func67, Tryz.ntmps67
  go_wp2_with fail
  go_ret
  exact ⟨rfl, Chg.alloc _ _⟩
set_option maxRecDepth 100000 in
theorem split_min (w : World) : Calls Tryz.prog 32 #[.agg #[.int .i64 8, .int .i64 96]] w fun e w' => e = .returned (.tuple #[.agg #[.int .i64 0, .int .i64 3, .int .i64 6, .int .i64 7], .int .i64 0]) ∧ Chg [] w w' := by
  go_enter Tryz.func32, Tryz.ntmps32
  go_wp2_with fail
  obtain ⟨g0, g1⟩ := two_new w (.cells #[.int .i64 8, .int .i64 96] 28) (.cells #[.int .i64 0, .int .i64 0, .int .i64 0, .int .i64 0] 99)
  have hc := chg_two w (.cells #[.int .i64 8, .int .i64 96] 28) (.cells #[.int .i64 0, .int .i64 0, .int .i64 0, .int .i64 0] 99)
  generalize (w.alloc (.cells #[.int .i64 8, .int .i64 96] 28)).alloc (.cells #[.int .i64 0, .int .i64 0, .int .i64 0, .int .i64 0] 99) = w1 at *
  refine (may_min w1).mono ?_
  rintro e w2 ⟨rfl, hc2⟩
  have k0 := hc2.heap g0 (by simp)
  have k1 := hc2.heap g1 (by simp)
  have hc3 := hc.then hc2
  have a0 : w2.cell? ⟨w.heap.size, 0, none⟩ = some (.int .i64 8) := cell_is k0 0 rfl
  have a1 : w2.cell? ⟨w.heap.size, 1, none⟩ = some (.int .i64 96) := cell_is k0 1 rfl
  clear g0 g1 k0 hc hc2
  have b0 := unfrozen k1 0
  have b1 := unfrozen k1 1
  have b2 := unfrozen k1 2
  have b3 := unfrozen k1 3
  have c0 := cell_is k1 0 rfl
  have c1 := cell_is k1 1 rfl
  have c2 := cell_is k1 2 rfl
  have c3 := cell_is k1 3 rfl
  go_wp2_with fail
  refine bodyPost_ret (v := .tuple #[.agg #[.int .i64 0, .int .i64 3, .int .i64 6, .int .i64 7], .int .i64 0]) (by simp [results, Tryz.results32, go_sem, c0, c1, c2, c3]) rfl ?_
  exact ⟨rfl, (((hc3.new_set (by omega) _ _).new_set (by omega) _ _).new_set (by omega) _ _).new_set (by omega) _ _⟩
set_option maxRecDepth 100000 in
theorem cap_min (w : World) : Calls Tryz.prog 42 #[.agg #[.int .i64 8, .int .i64 96]] w fun e w' => e = .returned (.int .i64 258) ∧ Chg [] w w' := by
  go_enter Tryz.func42, Tryz.ntmps42
  go_wp2_with fail
  have g0 := heap_new w (.cells #[.int .i64 8, .int .i64 96] 28)
  have hc : Chg [] w (w.alloc (.cells #[.int .i64 8, .int .i64 96] 28)) := Chg.alloc _ _
  generalize w.alloc (.cells #[.int .i64 8, .int .i64 96] 28) = w1 at *
  refine (split_min w1).mono ?_
  rintro e w2 ⟨rfl, hc2⟩
  have k0 := hc2.heap g0 (by simp)
  have hc3 := hc.then hc2
  have a0 : w2.cell? ⟨w.heap.size, 0, none⟩ = some (.int .i64 8) := cell_is k0 0 rfl
  have a1 : w2.cell? ⟨w.heap.size, 1, none⟩ = some (.int .i64 96) := cell_is k0 1 rfl
  have a0a : ∀ o, (w2.alloc o).cell? ⟨w.heap.size, 0, none⟩ = some (.int .i64 8) := fun o => cell_is (heap_old k0) 0 rfl
  have a1a : ∀ o, (w2.alloc o).cell? ⟨w.heap.size, 1, none⟩ = some (.int .i64 96) := fun o => cell_is (heap_old k0) 1 rfl
  clear g0 k0 hc hc2
  go_wp2_with fail
  go_ret
  exact ⟨rfl, hc3.then_alloc _⟩

/-- block N is a device of eight empty zones, whose pointers lie in block A. -/
def DevAt (w : World) (N A c : Nat) (ops : Int) (Z : List Nat) : Prop :=
  w.heap[N]? = some (.cells #[.int .i64 8, .int .i64 96, .slice (some ⟨A, 0, none⟩) 8 c, .int .i64 ops, .int .i64 0, .bool false, .int .i64 0, .bool false] 93 (0, 0)) ∧ 8 ≤ c ∧ Z.length = 8 ∧
  (∀ j (h : j < Z.length), w.cell? ⟨A, j, none⟩ = some (.pointer (some ⟨Z[j], 0, none⟩))) ∧
  (∀ j (h : j < Z.length), w.heap[Z[j]]? = some (.cells #[.slice none 0 0, .int .i64 0] 97 (0, 0)))
theorem DevAt.keep {w w' : World} {S : List Nat} {N A c : Nat} {ops : Int} {Z : List Nat} (h : DevAt w N A c ops Z) (hc : Chg S w w') (h1 : N ∉ S) (h2 : A ∉ S) (h3 : ∀ z ∈ Z, z ∉ S) : DevAt w' N A c ops Z := by
  obtain ⟨a, b, d, e, f⟩ := h
  exact ⟨hc.heap a h1, b, d, fun j hj => hc.cell (e j hj) h2, fun j hj => hc.heap (f j hj) (h3 _ (List.getElem_mem hj))⟩
set_option maxRecDepth 100000 in
theorem gone_any (w : World) {N A c : Nat} {ops : Int} {Z : List Nat} (h : DevAt w N A c ops Z) : Calls Tryz.prog 56 #[.pointer (some ⟨N, 0, none⟩)] w fun e w' => e = .returned (.bool false) ∧ w = w' := by
  obtain ⟨h1, -⟩ := h
  have e2 : w.cell? ⟨N, 2, none⟩ = some (.slice (some ⟨A, 0, none⟩) 8 c) := cell_is h1 2 rfl
  clear h1
  go_enter Tryz.func56, Tryz.ntmps56
  go_wp2_with fail
  go_ret
  exact ⟨rfl, rfl⟩
set_option maxRecDepth 100000 in
theorem geometry_any (w : World) {N A c : Nat} {ops : Int} {Z : List Nat} (h : DevAt w N A c ops Z) : Calls Tryz.prog 33 #[.pointer (some ⟨N, 0, none⟩)] w fun e w' => e = .returned (.agg #[.int .i64 8, .int .i64 96]) ∧ Chg [] w w' := by
  go_enter Tryz.func33, Tryz.ntmps33
  go_wp2_with fail
  have g0 := heap_new w (.cells #[.int .i64 0, .int .i64 0] 28)
  have hc : Chg [] w (w.alloc (.cells #[.int .i64 0, .int .i64 0] 28)) := Chg.alloc _ _
  have h2 := h.keep hc (by simp) (by simp) (by simp)
  have hN := heap_lt h.1
  generalize w.alloc (.cells #[.int .i64 0, .int .i64 0] 28) = w1 at *
  refine (gone_any w1 h2).mono ?_
  rintro e w2 ⟨rfl, rfl⟩
  have e0 : w1.cell? ⟨N, 0, none⟩ = some (.int .i64 8) := cell_is h2.1 0 rfl
  have e1 : w1.cell? ⟨N, 1, none⟩ = some (.int .i64 96) := cell_is h2.1 1 rfl
  have c0 := cell_is g0 0 rfl
  have c1 := cell_is g0 1 rfl
  have f0 := unfrozen g0 0
  have f1 := unfrozen g0 1
  clear h h2 g0
  go_wp2_with fail
  refine bodyPost_ret (v := .agg #[.int .i64 8, .int .i64 96]) (by simp [results, Tryz.results33, go_sem, c0, c1]) rfl ?_
  exact ⟨rfl, (hc.new_set (by omega) _ _).new_set (by omega) _ _⟩
set_option maxRecDepth 100000 in
theorem at_any (w : World) {N A c : Nat} {ops : Int} {Z : List Nat} (h : DevAt w N A c ops Z) (j : Nat) (hj : j < Z.length) : Calls Tryz.prog 108 #[.pointer (some ⟨N, 0, none⟩), .int .i64 j] w fun e w' => e = .returned (.pointer (some ⟨Z[j], 0, none⟩)) ∧ w = w' := by
  have HG := Lib.hid (gone_any w h)
  obtain ⟨h1, hc, hz, h4, -⟩ := h
  have e2 : w.cell? ⟨N, 2, none⟩ = some (.slice (some ⟨A, 0, none⟩) 8 c) := cell_is h1 2 rfl
  have e3 := h4 j hj
  have hj8 : j < 8 := by omega
  clear h1 h4
  generalize Z[j] = z at *
  go_enter Tryz.func108, Tryz.ntmps108
  go_wp2_with fail
  refine HG.out.mono ?_
  rintro e w1 ⟨rfl, rfl⟩
  go_wp2_with fail
  go_ret
  exact ⟨rfl, rfl⟩
set_option maxRecDepth 100000 in
theorem pointer_any (w : World) {N A c : Nat} {ops : Int} {Z : List Nat} (h : DevAt w N A c ops Z) (j : Nat) (hj : j < Z.length) : Calls Tryz.prog 74 #[.pointer (some ⟨N, 0, none⟩), .int .i64 j] w fun e w' => e = .returned (.tuple #[.int .i64 0, .int .i64 0]) ∧ w = w' := by
  have HA := Lib.hid (at_any w h j hj)
  have h5 := h.2.2.2.2 j hj
  have e0 : w.cell? ⟨Z[j], 0, none⟩ = some (.slice none 0 0) := cell_is h5 0 rfl
  clear h5
  generalize Z[j] = z at *
  go_enter Tryz.func74, Tryz.ntmps74
  go_wp2_with fail
  refine HA.out.mono ?_
  rintro e w1 ⟨rfl, rfl⟩
  go_wp2_with fail
  go_ret2
  exact ⟨rfl, rfl⟩
/-- the device's own block lies apart from its zones. -/
def DevOk (N A : Nat) (Z : List Nat) : Prop := A ≠ N ∧ N ∉ Z ∧ A ∉ Z
theorem DevAt.ops {w : World} {N A c : Nat} {ops : Int} {Z : List Nat} (h : DevAt w N A c ops Z) (hd : DevOk N A Z) (n : Int) : DevAt (w.setCell ⟨N, 3, none⟩ (.int .i64 n)) N A c n Z := by
  obtain ⟨a, b, d, e, f⟩ := h
  have hc := Chg.set w N 3 (.int .i64 n)
  refine ⟨heap_set a 3 _ rfl, b, d, fun j hj => hc.cell (e j hj) (by simpa using hd.1), fun j hj => hc.heap (f j hj) ?_⟩
  have := hd.2.1
  intro hm
  rw [List.mem_singleton] at hm
  exact this (hm ▸ List.getElem_mem hj)
theorem DevAt.off {w : World} {N A c : Nat} {ops : Int} {Z : List Nat} (h : DevAt w N A c ops Z) (hd : DevOk N A Z) : DevAt (w.setCell ⟨N, 7, none⟩ (.bool false)) N A c ops Z := by
  obtain ⟨a, b, d, e, f⟩ := h
  have hc := Chg.set w N 7 (.bool false)
  refine ⟨heap_set a 7 _ rfl, b, d, fun j hj => hc.cell (e j hj) (by simpa using hd.1), fun j hj => hc.heap (f j hj) ?_⟩
  have := hd.2.1
  intro hm
  rw [List.mem_singleton] at hm
  exact this (hm ▸ List.getElem_mem hj)
set_option maxRecDepth 100000 in
theorem begin_any (w : World) {N A c : Nat} {ops : Int} {Z : List Nat} (h : DevAt w N A c ops Z) (hd : DevOk N A Z) (h0 : 0 ≤ ops) (h1 : ops ≤ 1000000) : Calls Tryz.prog 106 #[.pointer (some ⟨N, 0, none⟩)] w fun e w' => e = .returned (.bool true) ∧ Chg [N] w w' ∧ DevAt w' N A c (ops + 1) Z := by
  have hfin : ∀ w', w' = (w.setCell ⟨N, 3, none⟩ (.int .i64 (ops + 1))).setCell ⟨N, 7, none⟩ (.bool false) → Chg [N] w w' ∧ DevAt w' N A c (ops + 1) Z := by
    rintro w' rfl
    exact ⟨(Chg.set w N 3 _).then (Chg.set _ N 7 _), (h.ops hd _).off hd⟩
  have e3 : w.cell? ⟨N, 3, none⟩ = some (.int .i64 ops) := cell_is h.1 3 rfl
  have e5 : w.cell? ⟨N, 5, none⟩ = some (.bool false) := cell_is h.1 5 rfl
  have e7 : w.cell? ⟨N, 7, none⟩ = some (.bool false) := cell_is h.1 7 rfl
  have f3 := unfrozen h.1 3
  have f7 := unfrozen h.1 7
  have HF := Lib.hid hfin
  clear h hfin
  go_enter Tryz.func106, Tryz.ntmps106
  go_wp2_with fail
  go_ret
  exact ⟨rfl, HF.out _ rfl⟩
end Go.Proofs.YtliicpedddcfiaaGreat
namespace Go.Proofs.YtliicpedddcfiaaGreat
open Go.RowKit Go.Lib

theorem DevAt.good {w : World} {N A c : Nat} {ops : Int} {Z : List Nat} (h : DevAt w N A c ops Z) (hd : DevOk N A Z) (z : Nat) (hz : z ∈ Z) : DevAt (w.setCell ⟨z, 1, none⟩ (.int .i64 0)) N A c ops Z := by
  obtain ⟨a, b, d, e, f⟩ := h
  have hc := Chg.set w z 1 (.int .i64 0)
  have hN : N ≠ z := fun e => hd.2.1 (e ▸ hz)
  have hA : A ≠ z := fun e => hd.2.2 (e ▸ hz)
  refine ⟨hc.heap a (by simpa using hN), b, d, fun j hj => hc.cell (e j hj) (by simpa using hA), fun j hj => ?_⟩
  by_cases hj2 : Z[j] = z
  · rw [hj2]; exact heap_set (hj2 ▸ f j hj) 1 _ rfl
  · exact heap_set_ne (f j hj) hj2 1 _
set_option maxRecDepth 100000 in
set_option maxHeartbeats 1000000 in
theorem flush_any (w : World) {N A c : Nat} {ops : Int} {Z : List Nat} (h : DevAt w N A c ops Z) (hd : DevOk N A Z) (h0 : 0 ≤ ops) (h1 : ops ≤ 1000000) : Calls Tryz.prog 71 #[.pointer (some ⟨N, 0, none⟩)] w fun e w' => e = .returned (.int .i64 0) ∧ Chg (N :: Z) w w' ∧ DevAt w' N A c (ops + 1) Z := by
  have HG := Lib.hid (gone_any w h)
  have HB := Lib.hid (begin_any w h hd h0 h1)
  clear h
  go_enter Tryz.func71, Tryz.ntmps71
  go_wp2_with fail
  refine HG.out.mono ?_
  rintro e w1 ⟨rfl, rfl⟩
  go_wp2_with fail
  refine HB.out.mono ?_
  rintro e w1 ⟨rfl, hc1, h2⟩
  have hC1 : Chg (N :: Z) w w1 := hc1.mono (fun x hx _ => by rw [List.mem_singleton] at hx; simp [hx])
  have e2 : w1.cell? ⟨N, 2, none⟩ = some (.slice (some ⟨A, 0, none⟩) 8 c) := cell_is h2.1 2 rfl
  have hc8 := h2.2.1
  clear hc1 HG HB
  go_wp2_with fail
  go_loopw [17] (fun i wr => ∃ j : Nat, i = .int .i64 j ∧ j ≤ 8 ∧ DevAt wr N A c (ops + 1) Z ∧ Chg (N :: Z) w wr) (fun i _ => 8 - (intOf i).toNat)
  case atStart => exact ⟨0, rfl, by omega, h2, hC1⟩
  case round =>
    obtain ⟨j, rfl, hj, hD, hC⟩ := hrel
    by_cases hlt : j < 8
    · have hjz : j < Z.length := by have := hD.2.2.1; omega
      have hm : Z[j] ∈ Z := List.getElem_mem hjz
      have hfin : ∀ w', w' = wr.setCell ⟨Z[j], 1, none⟩ (.int .i64 0) → DevAt w' N A c (ops + 1) Z ∧ Chg (N :: Z) w w' := by
        rintro w' rfl
        exact ⟨hD.good hd _ hm, hC.then_set (fun _ => List.mem_cons_of_mem _ hm) _ _⟩
      have a0 := hD.2.2.2.1 j hjz
      have k0 := hD.2.2.2.2 j hjz
      have b0 : wr.cell? ⟨Z[j], 0, none⟩ = some (.slice none 0 0) := cell_is k0 0 rfl
      have b1 : wr.cell? ⟨Z[j], 1, none⟩ = some (.int .i64 0) := cell_is k0 1 rfl
      have f1 := unfrozen k0 1
      have HF := Lib.hid hfin
      clear hfin hD hC k0 h2 hC1 e2 hm
      generalize Z[j] = z at *
      go_wp2_with fail
      go_roundw
      case rel => exact ⟨j + 1, by go_num, by omega, HF.out _ rfl⟩
      case measure => simp [intOf]; omega
    · go_wp2_with fail
      go_ret
      exact ⟨rfl, hC, hD⟩
theorem ty128 : Tryz.prog.underlying 91 = some (.slice 94) := by kernel_rfl
theorem inf131 : (Tryz.prog.info? 94).map (fun i => (i.zero, i.size, i.bytes)) = some (some (.pointer none), 1, 8) := by kernel_rfl
def ptrs (Z : List Nat) : List Value := Z.map (fun z => Value.pointer (some ⟨z, 0, none⟩))
/-- where the making of a device stands: its block is N. -/
def NewInv (w wr : World) (N : Nat) (Z : List Nat) (v : Value) : Prop :=
  Chg [] w wr ∧ w.heap.size ≤ N ∧ N + 1 ≤ wr.heap.size ∧ (∃ p m c, v = .slice p m c) ∧
  wr.heap[N]? = some (.cells #[.int .i64 8, .int .i64 96, v, .int .i64 0, .int .i64 0, .bool false, .int .i64 0, .bool false] 93 (0, 0)) ∧
  wr.ownsRow (N + 1) 94 1 v Z.length (ptrs Z) ∧ ∀ z ∈ Z, N < z ∧ wr.heap[z]? = some (.cells #[.slice none 0 0, .int .i64 0] 97 (0, 0))
theorem grown_set (w : World) (g i : Nat) (v : Value) : w.grownBy (w.setCell ⟨g, i, none⟩ v) (some g) :=
  ⟨rfl, rfl, rfl, by simp [World.setCell], fun k _ hk => Below.heap_setCell _ _ _ _ (by intro e; exact hk (by rw [e]))⟩
theorem own_other {w w' : World} {base e size n x : Nat} {v : Value} {xs : List Value} (h : w.ownsRow base e size v n xs) (hg : w.grownBy w' (some x)) (hx : x < base) : w'.ownsRow base e size v n xs :=
  h.kept hg (by
    cases hv : v.ownBlock with
    | none => exact Or.inl rfl
    | some g => exact Or.inr (by intro e; injection e with e; have := (h.lt g hv).1; omega))
theorem own_slice {w : World} {base e size n : Nat} {v : Value} {xs : List Value} (h : w.ownsRow base e size v n xs) : ∃ pa c, v = .slice pa n c := by
  rcases h.2 with ⟨rfl, rfl⟩ | ⟨g, cap, cur, rfl, _⟩
  · exact ⟨_, _, rfl⟩
  · exact ⟨_, _, rfl⟩
/-- the own block of a row holds elements of its type. -/
theorem own_elem {w : World} {base e size n g : Nat} {v : Value} {xs : List Value} (h : w.ownsRow base e size v n xs) (hg : v.ownBlock = some g) : base ≤ g ∧ ∃ cur, w.heap[g]? = some (.cells cur e (0, 0)) := by
  rcases h.2 with ⟨rfl, _⟩ | ⟨g', cap, cur, rfl, hb, hh, _⟩
  · cases hg
  · obtain rfl : g' = g := by injection hg
    exact ⟨hb, _, hh⟩
theorem Chg.own {w w' : World} {v : Value} (h : w.grownBy w' v.ownBlock) {S : List Nat} (hS : ∀ g, v.ownBlock = some g → g < w.heap.size → g ∈ S) : Chg S w w' :=
  ⟨h.os, h.tape, h.output, h.size, fun k hk hs => h.block k hk (fun e => hs (hS k e.symm hk))⟩
theorem grown_heap {w w' : World} {v : Value} (h : w.grownBy w' v.ownBlock) {g : Nat} {o : Obj} (hg : w.heap[g]? = some o) (hne : v.ownBlock ≠ some g) : w'.heap[g]? = some o :=
  (h.block g (heap_lt hg) (fun e => hne e.symm)).trans hg
theorem NewInv.step {w wr w1 w2 : World} {N : Nat} {Z : List Nat} {v v' : Value} (h : NewInv w wr N Z v) (hw1 : w1 = wr.alloc (.cells #[.slice none 0 0, .int .i64 0] 97))
    (hap : AppendedV (N + 1) 94 1 w1 v (Z.length + 1) (ptrs Z ++ [.pointer (some ⟨wr.heap.size, 0, none⟩)]) v' w2) : NewInv w (w2.setCell ⟨N, 2, none⟩ v') N (Z ++ [wr.heap.size]) v' := by
  obtain ⟨hc, hN, hN1, hv, hb, ho, hz⟩ := h
  obtain ⟨ho2, hb2, hg2⟩ := hap
  have hs1 : w1.heap.size = wr.heap.size + 1 := by rw [hw1]; simp
  have hc1 : Chg [] wr w1 := by rw [hw1]; exact Chg.alloc _ _
  have hnew : w1.heap[wr.heap.size]? = some (.cells #[.slice none 0 0, .int .i64 0] 97 (0, 0)) := by rw [hw1]; exact heap_new _ _
  have ho1 : w1.ownsRow (N + 1) 94 1 v Z.length (ptrs Z) := by rw [hw1]; exact ho.alloc _
  have hno : ∀ g cs, w1.heap[g]? = some (.cells cs 97 (0, 0)) → v.ownBlock ≠ some g := by
    intro g cs hg e
    obtain ⟨_, cur, hh⟩ := own_elem ho1 e
    rw [hg] at hh
    injection hh with hh
    injection hh with e1 e2
    cases e2
  have hNo : v.ownBlock ≠ some N := by
    intro e
    have := (own_elem ho1 e).1
    omega
  have hbN := grown_heap hg2 (hc1.heap hb (by simp)) hNo
  have hset := Chg.set w2 N 2 v'
  obtain ⟨pa, c, hv'⟩ := own_slice ho2
  have hall : Chg [] w w2 := by
    cases hob : v.ownBlock with
    | none => rw [hob] at hg2; exact (hc.then hc1).then (Chg.of_grown0 hg2)
    | some g =>
      rw [hob] at hg2
      have := (own_elem ho1 hob).1
      exact (hc.then hc1).trans (Chg.of_grown hg2) (fun x hx hl => by rw [List.mem_singleton] at hx; omega)
  have hsz := hg2.size
  refine ⟨hall.new_set (by omega) _ _, hN, Nat.le_trans hN1 (by have := hset.size; omega), ⟨_, _, _, hv'⟩, heap_set hbN 2 _ rfl, ?_, ?_⟩
  · have e : (Z ++ [wr.heap.size]).length = Z.length + 1 := by simp
    have e2 : ptrs (Z ++ [wr.heap.size]) = ptrs Z ++ [.pointer (some ⟨wr.heap.size, 0, none⟩)] := by simp [ptrs]
    rw [e, e2]
    exact own_other ho2 (grown_set w2 N 2 v') (by omega)
  · intro z hm
    rcases List.mem_append.1 hm with hm | hm
    · obtain ⟨h1, h2⟩ := hz z hm
      exact ⟨h1, heap_set_ne (grown_heap hg2 (hc1.heap h2 (by simp)) (hno z _ (hc1.heap h2 (by simp)))) (by omega) _ _⟩
    · rw [List.mem_singleton] at hm
      subst hm
      exact ⟨by omega, heap_set_ne (grown_heap hg2 hnew (hno _ _ hnew)) (by omega) _ _⟩
theorem NewInv.cell {w wr w1 w2 : World} {N : Nat} {Z : List Nat} {v v' : Value} {xs : List Value} {n : Nat} (h : NewInv w wr N Z v) (hw1 : w1 = wr.alloc (.cells #[.slice none 0 0, .int .i64 0] 97))
    (hap : AppendedV (N + 1) 94 1 w1 v n xs v' w2) : w2.cell? ⟨N, 2, none⟩ = some v ∧ w2.frozen? ⟨N, 2, none⟩ = false := by
  obtain ⟨hc, hN, hN1, hv, hb, ho, hz⟩ := h
  have hc1 : Chg [] wr w1 := by rw [hw1]; exact Chg.alloc _ _
  have ho1 : w1.ownsRow (N + 1) 94 1 v Z.length (ptrs Z) := by rw [hw1]; exact ho.alloc _
  have hNo : v.ownBlock ≠ some N := by
    intro e
    have := (own_elem ho1 e).1
    omega
  have hbN := grown_heap hap.2.2 (hc1.heap hb (by simp)) hNo
  exact ⟨cell_is hbN 2 rfl, unfrozen hbN 2⟩
/-- what New hands back at the least geometry. -/
def NewR (w : World) (e : Ending) (w' : World) : Prop :=
  ∃ N A c Z, e = .returned (.tuple #[.pointer (some ⟨N, 0, none⟩), .int .i64 0]) ∧ Chg [] w w' ∧ DevAt w' N A c 0 Z ∧ DevOk N A Z ∧ w.heap.size ≤ N ∧ w.heap.size ≤ A ∧ ∀ z ∈ Z, w.heap.size ≤ z
theorem NewInv.done {w wr : World} {N : Nat} {Z : List Nat} {v : Value} (h : NewInv w wr N Z v) (h8 : Z.length = 8) : NewR w (.returned (.tuple #[.pointer (some ⟨N, 0, none⟩), .int .i64 0])) wr := by
  obtain ⟨hc, hN, hN1, hv, hb, ho, hz⟩ := h
  rcases ho.2 with ⟨rfl, h0⟩ | ⟨A, c, cur, rfl, hA, hh, hle, _, hcs, htk⟩
  · omega
  · refine ⟨N, A, c, Z, rfl, hc, ⟨by rw [h8] at hb; exact hb, by omega, h8, ?_, fun j hj => (hz _ (List.getElem_mem hj)).2⟩, ⟨by omega, ?_, ?_⟩, hN, by omega, fun z hm => by have := (hz z hm).1; omega⟩
    · intro j hj
      refine cell_is hh j ?_
      have h1 : (cur.toList.take (Z.length * 1))[j]? = (ptrs Z)[j]? := by rw [htk]
      rw [List.getElem?_take_of_lt (by omega), Array.getElem?_toList] at h1
      rw [h1]
      simp [ptrs, hj]
    · intro hm; have := (hz _ hm).1; omega
    · intro hm
      have h2 := (hz _ hm).2
      rw [hh] at h2
      injection h2 with h2
      injection h2 with e1 e2
      cases e2
set_option maxRecDepth 100000 in
set_option maxHeartbeats 1000000 in
theorem new_any (w : World) : Calls Tryz.prog 17 #[.agg #[.int .i64 8, .int .i64 96]] w (NewR w) := by
  go_enter Tryz.func17, Tryz.ntmps17
  go_wp2_with fail
  have hI : NewInv w ((w.alloc (.cells #[.int .i64 8, .int .i64 96] 28)).alloc (.cells #[.int .i64 8, .int .i64 96, .slice none 0 0, .int .i64 0, .int .i64 0, .bool false, .int .i64 0, .bool false] 93)) (w.heap.size + 1) [] (.slice none 0 0) :=
    ⟨chg_two w _ _, by omega, by simp, ⟨_, _, _, rfl⟩, (two_new w _ _).2, World.ownsRow_nil _ _ _ _, fun z hz => by cases hz⟩
  go_loopw [28] (fun i wr => ∃ (j : Nat) (Z : List Nat) (v : Value), i = .int .i64 j ∧ Z.length = j ∧ j ≤ 8 ∧ NewInv w wr (w.heap.size + 1) Z v) (fun i _ => 8 - (intOf i).toNat)
  case atStart => exact ⟨0, [], _, rfl, rfl, by omega, hI⟩
  case round =>
    obtain ⟨j, Z, v, rfl, rfl, hj, hN⟩ := hrel
    clear hI
    by_cases hlt : Z.length < 8
    · obtain ⟨p, m, c, rfl⟩ := hN.2.2.2.1
      have hb := hN.2.2.2.2.1
      have ho := hN.2.2.2.2.2.1
      have hsz := hN.2.2.1
      have e2 : wr.cell? ⟨w.heap.size + 1, 2, none⟩ = some (.slice p m c) := cell_is hb 2 rfl
      have HS := Lib.hid (fun v' w2 => NewInv.step (v' := v') (w2 := w2) hN rfl)
      have HK := Lib.hid (fun v' w2 n xs => NewInv.cell (v' := v') (w2 := w2) (n := n) (xs := xs) hN rfl)
      have hown := ho.alloc (.cells #[.slice none 0 0, .int .i64 0] 97)
      have hlt2 : w.heap.size + 1 + 1 ≤ (wr.alloc (.cells #[.slice none 0 0, .int .i64 0] 97)).heap.size := by simp; omega
      clear hN hb ho
      go_wp2_with (at_builtin; refine wpList_append_lit rfl (.tmp 34) (.tmp 37) 91 94 rfl ty128 inf131 rfl (by decide) (w.heap.size + 1 + 1) _ [.pointer (some ⟨wr.heap.size, 0, none⟩)] 1 rfl _ Z.length (ptrs Z) rfl hown (by omega) (by decide) hlt2 (k := 0) rfl (by simp [Value.oneCell']) rfl 1 (by simp [go_sem]) ?_; intro v' w2 hap; obtain ⟨pa', c', rfl⟩ := own_slice hap.1; obtain ⟨k1, k2⟩ := HK.out _ _ _ _ hap)
      have hst := HS.out _ _ hap
      go_roundw
      case rel => exact ⟨Z.length + 1, Z ++ [wr.heap.size], _, by go_num, by simp, by omega, hst⟩
      case measure => simp [intOf]; omega
    · have hD := hN.done (by omega)
      go_wp2_with fail
      go_ret2
      exact hD
end Go.Proofs.YtliicpedddcfiaaGreat
namespace Go.Proofs.YtliicpedddcfiaaGreat
open Go.RowKit Go.Lib

/-- block K is a schedule, cell for cell. -/
def SchB (w : World) (K : Nat) (cs : Array Value) : Prop := w.heap[K]? = some (.cells cs 72 (0, 0))
set_option maxRecDepth 100000 in
theorem sgone_any (w : World) {K P : Nat} {cs : Array Value} (h : SchB w K cs) (h1 : cs[1]? = some (.pointer (some ⟨P, 0, none⟩))) : Calls Tryz.prog 25 #[.pointer (some ⟨K, 0, none⟩)] w fun e w' => e = .returned (.bool false) ∧ w = w' := by
  have c1 : w.cell? ⟨K, 1, none⟩ = some (.pointer (some ⟨P, 0, none⟩)) := cell_is h 1 h1
  clear h h1
  go_enter Tryz.func25, Tryz.ntmps25
  go_wp2_with fail
  go_ret
  exact ⟨rfl, rfl⟩
set_option maxRecDepth 100000 in
theorem sgone_nil (w : World) : Calls Tryz.prog 25 #[.pointer none] w fun e w' => e = .returned (.bool true) ∧ w = w' := by
  go_enter Tryz.func25, Tryz.ntmps25
  go_wp2_with fail
  go_ret
  exact ⟨rfl, rfl⟩
/-- the place of a client in its schedule. -/
def cli (a : Int) : Nat := 2 + 4 * (a.toNat - 1)
set_option maxRecDepth 100000 in
theorem client_in (w : World) {K P : Nat} {a : Int} {cs : Array Value} (h : SchB w K cs) (h1 : cs[1]? = some (.pointer (some ⟨P, 0, none⟩))) (ha : 1 ≤ a ∧ a ≤ 8) :
    Calls Tryz.prog 19 #[.pointer (some ⟨K, 0, none⟩), .int .i64 a] w fun e w' => e = .returned (.pointer (some ⟨K, cli a, none⟩)) ∧ w = w' := by
  have HG := Lib.hid (sgone_any w h h1)
  clear h h1
  have hc : a = 1 ∨ a = 2 ∨ a = 3 ∨ a = 4 ∨ a = 5 ∨ a = 6 ∨ a = 7 ∨ a = 8 := by omega
  clear ha
  rcases hc with rfl | rfl | rfl | rfl | rfl | rfl | rfl | rfl
  all_goals
    go_enter Tryz.func19, Tryz.ntmps19
    go_wp2_with fail
    refine HG.out.mono ?_
    rintro e w1 ⟨rfl, rfl⟩
    go_wp2_with fail
    go_ret
    exact ⟨rfl, rfl⟩
set_option maxRecDepth 100000 in
theorem client_out (w : World) {K P : Nat} {a : Int} {cs : Array Value} (h : SchB w K cs) (h1 : cs[1]? = some (.pointer (some ⟨P, 0, none⟩))) (ha : a < 1 ∨ 8 < a) :
    Calls Tryz.prog 19 #[.pointer (some ⟨K, 0, none⟩), .int .i64 a] w fun e w' => e = .returned (.pointer none) ∧ w = w' := by
  have HG := Lib.hid (sgone_any w h h1)
  clear h h1
  by_cases hlt : a < 1
  · have n1 : decide (a < 1) = true := decide_eq_true hlt
    go_enter Tryz.func19, Tryz.ntmps19
    go_wp2_with fail
    refine HG.out.mono ?_
    rintro e w1 ⟨rfl, rfl⟩
    go_wp2_with fail
    go_ret
    exact ⟨rfl, rfl⟩
  · have n1 : decide (a < 1) = false := decide_eq_false hlt
    have n2 : decide (8 < a) = true := decide_eq_true (by omega)
    go_enter Tryz.func19, Tryz.ntmps19
    go_wp2_with fail
    refine HG.out.mono ?_
    rintro e w1 ⟨rfl, rfl⟩
    go_wp2_with fail
    go_ret
    exact ⟨rfl, rfl⟩
set_option maxRecDepth 100000 in
theorem left_in (w : World) {K P n c : Nat} {a : Int} {p : Option Addr} {cs : Array Value} (h : SchB w K cs) (h1 : cs[1]? = some (.pointer (some ⟨P, 0, none⟩))) (ha : 1 ≤ a ∧ a ≤ 8) (ho : cs[cli a]? = some (.slice p n c)) :
    Calls Tryz.prog 12 #[.pointer (some ⟨K, 0, none⟩), .int .i64 a] w fun e w' => e = .returned (.int .i64 n) ∧ w = w' := by
  have HC := Lib.hid (client_in w h h1 ha)
  have c0 : w.cell? ⟨K, cli a, none⟩ = some (.slice p n c) := cell_is h _ ho
  generalize cli a = o at *
  clear h h1 ha ho
  go_enter Tryz.func12, Tryz.ntmps12
  go_wp2_with fail
  refine HC.out.mono ?_
  rintro e w1 ⟨rfl, rfl⟩
  go_wp2_with fail
  go_ret
  exact ⟨rfl, rfl⟩
set_option maxRecDepth 100000 in
theorem left_out (w : World) {K P : Nat} {a : Int} {cs : Array Value} (h : SchB w K cs) (h1 : cs[1]? = some (.pointer (some ⟨P, 0, none⟩))) (ha : a < 1 ∨ 8 < a) :
    Calls Tryz.prog 12 #[.pointer (some ⟨K, 0, none⟩), .int .i64 a] w fun e w' => e = .returned (.int .i64 0) ∧ w = w' := by
  have HC := Lib.hid (client_out w h h1 ha)
  clear h h1 ha
  go_enter Tryz.func12, Tryz.ntmps12
  go_wp2_with fail
  refine HC.out.mono ?_
  rintro e w1 ⟨rfl, rfl⟩
  go_wp2_with fail
  go_ret
  exact ⟨rfl, rfl⟩
set_option maxRecDepth 100000 in
theorem step_out (w : World) {K P : Nat} {a : Int} {cs : Array Value} (h : SchB w K cs) (h1 : cs[1]? = some (.pointer (some ⟨P, 0, none⟩))) (ha : a < 1 ∨ 8 < a) :
    Calls Tryz.prog 10 #[.pointer (some ⟨K, 0, none⟩), .int .i64 a] w fun e w' => ∃ v, e = .returned (.tuple #[v, .int .i64 1]) ∧ Chg [] w w' := by
  have k0 : Chg [] w (w.alloc (.cells #[.int .i64 0, .int .i64 0, .int .i64 0, .int .i64 0, .slice none 0 0] 39)) := Chg.alloc w _
  have HC := Lib.hid (client_out _ (k0.heap h (by simp)) h1 ha)
  have HK := Lib.hid k0
  clear h h1 ha k0
  go_enter Tryz.func10, Tryz.ntmps10
  go_wp2_with fail
  refine HC.out.mono ?_
  rintro e w1 ⟨rfl, rfl⟩
  go_wp2_with fail
  refine bodyPost_ret (v := .tuple #[.agg #[.int .i64 0, .int .i64 0, .int .i64 0, .int .i64 0, .slice none 0 0], .int .i64 1]) (by simp [results, Tryz.results10, go_sem]) rfl ?_
  exact ⟨_, rfl, HK.out⟩
end Go.Proofs.YtliicpedddcfiaaGreat
namespace Go.Proofs.YtliicpedddcfiaaGreat
open Go.RowKit Go.Lib

set_option maxRecDepth 100000 in
theorem clone_nil (w : World) : Calls Tryz.prog 47 #[.slice none 0 0] w fun e w' => e = .returned (.slice none 0 0) ∧ w = w' := by
  have hn : ∀ w, (binOp .eql 34 (.slice none 0 0) (.slice none 0 0)).run Tryz.prog w = .ok (.bool true) w := fun w => run_eql_nil_slice w 34 5 none 0 0 0 0 Tryz.underlying34
  go_enter Tryz.func47, Tryz.ntmps47
  go_wp2_with fail
  go_ret
  exact ⟨rfl, rfl⟩
set_option maxRecDepth 100000 in
theorem idxf_nil (fv : Value) (w : World) : Calls Tryz.prog 76 #[.slice none 0 0, fv] w fun e w' => e = .returned (.int .i64 (-1)) ∧ w = w' := by
  go_enter Tryz.func76, Tryz.ntmps76
  go_wp2_with fail
  go_loop [8] (fun a => a = .int .i64 0) (fun _ => 0)
  case atStart => rfl
  case round =>
    subst hrel
    go_wp2_with fail
    go_ret
    exact ⟨rfl, rfl⟩
set_option maxRecDepth 100000 in
theorem contf_nil (fv : Value) (w : World) : Calls Tryz.prog 38 #[.slice none 0 0, fv] w fun e w' => e = .returned (.bool false) ∧ w = w' := by
  go_enter Tryz.func38, Tryz.ntmps38
  go_wp2_with fail
  refine (idxf_nil fv w).mono ?_
  rintro e w1 ⟨rfl, rfl⟩
  go_wp2_with fail
  go_ret
  exact ⟨rfl, rfl⟩
set_option maxRecDepth 100000 in
theorem read_nil (w : World) : Calls Tryz.prog 70 #[.slice none 0 0] w fun e w' => e = .returned (.tuple #[.slice none 0 0, .int .i64 0]) ∧ w = w' := by
  go_enter Tryz.func70, Tryz.ntmps70
  go_wp2_with fail
  go_step3
  go_wp2_with fail
  go_step3
  go_wp2_with fail
  go_loop [10] (fun a => a = .int .i64 0) (fun _ => 0)
  case atStart => rfl
  case round =>
    subst hrel
    go_wp2_with fail
    go_ret2
    exact ⟨rfl, rfl⟩

/-- block S is two slots of the device N, both empty. -/
def SlotAt (w : World) (S N : Nat) : Prop :=
  w.heap[S]? = some (.cells #[.pointer (some ⟨N, 0, none⟩), .int .i64 0, .int .i64 3, .int .i64 6, .int .i64 96, .int .i64 1, .slice none 0 0, .int .i64 0, .bool false] 159 (0, 0))
theorem slot_cells {w : World} {S N : Nat} (h : SlotAt w S N) : w.cell? ⟨S, 0, none⟩ = some (.pointer (some ⟨N, 0, none⟩)) ∧ w.cell? ⟨S, 1, none⟩ = some (.int .i64 0) ∧ w.cell? ⟨S, 2, none⟩ = some (.int .i64 3) ∧
    w.cell? ⟨S, 3, none⟩ = some (.int .i64 6) ∧ w.cell? ⟨S, 4, none⟩ = some (.int .i64 96) ∧ w.cell? ⟨S, 5, none⟩ = some (.int .i64 1) ∧ w.cell? ⟨S, 6, none⟩ = some (.slice none 0 0) ∧ w.cell? ⟨S, 7, none⟩ = some (.int .i64 0) ∧ w.cell? ⟨S, 8, none⟩ = some (.bool false) :=
  ⟨cell_is h 0 rfl, cell_is h 1 rfl, cell_is h 2 rfl, cell_is h 3 rfl, cell_is h 4 rfl, cell_is h 5 rfl, cell_is h 6 rfl, cell_is h 7 rfl, cell_is h 8 rfl⟩
set_option maxRecDepth 100000 in
theorem load_any (w : World) {S N : Nat} (h : SlotAt w S N) : Calls Tryz.prog 35 #[.pointer (some ⟨S, 0, none⟩)] w fun e w' => e = .returned (.tuple #[.slice none 0 0, .int .i64 0]) ∧ Chg [] w w' := by
  obtain ⟨-, -, -, -, -, -, c6, c7, -⟩ := slot_cells h
  clear h
  go_enter Tryz.func35, Tryz.ntmps35
  go_wp2_with fail
  have c6d : w.drew.cell? ⟨S, 6, none⟩ = some (.slice none 0 0) := c6
  have c7d : w.drew.cell? ⟨S, 7, none⟩ = some (.int .i64 0) := c7
  go_region_with (go_at_call 47; refine (clone_nil _).mono ?_; rintro e w1 ⟨rfl, rfl⟩)
  all_goals
    go_wp2_with fail
    go_ret2
    exact ⟨rfl, (Chg.refl _ w).drew⟩
set_option maxRecDepth 100000 in
theorem blocks0 (w : World) {S N A c : Nat} {ops : Int} {Z : List Nat} (h : SlotAt w S N) (hD : DevAt w N A c ops Z) : Calls Tryz.prog 68 #[.pointer (some ⟨S, 0, none⟩), .int .i64 0] w fun e w' => e = .returned (.slice none 0 0) ∧ w = w' := by
  obtain ⟨c0, c1, c2, c3, c4, -, -, -, -⟩ := slot_cells h
  have HP := Lib.hid (pointer_any w hD 0 (by have := hD.2.2.1; omega))
  clear h hD
  go_enter Tryz.func68, Tryz.ntmps68
  go_wp2_with fail
  go_loop [4, 5] (fun a b => a = .slice none 0 0 ∧ b = .int .i64 0) (fun _ _ => 0)
  case atStart => exact ⟨rfl, rfl⟩
  case round =>
    obtain ⟨rfl, rfl⟩ := hrel
    go_wp2_with fail
    refine HP.out.mono ?_
    rintro e w1 ⟨rfl, rfl⟩
    go_wp2_with fail
    go_loop [4, 38] (fun b a => b = .slice none 0 0 ∧ a = .int .i64 0) (fun _ _ => 0)
    case atStart => exact ⟨rfl, rfl⟩
    case round =>
      obtain ⟨rfl, rfl⟩ := hrel
      go_wp2_with fail
      go_ret
      exact ⟨rfl, rfl⟩
set_option maxRecDepth 100000 in
theorem blocks1 (w : World) {S N A c : Nat} {ops : Int} {Z : List Nat} (h : SlotAt w S N) (hD : DevAt w N A c ops Z) : Calls Tryz.prog 68 #[.pointer (some ⟨S, 0, none⟩), .int .i64 1] w fun e w' => e = .returned (.slice none 0 0) ∧ w = w' := by
  obtain ⟨c0, c1, c2, c3, c4, -, -, -, -⟩ := slot_cells h
  have HP := Lib.hid (pointer_any w hD 3 (by have := hD.2.2.1; omega))
  clear h hD
  go_enter Tryz.func68, Tryz.ntmps68
  go_wp2_with fail
  go_loop [4, 5] (fun a b => a = .slice none 0 0 ∧ b = .int .i64 3) (fun _ _ => 0)
  case atStart => exact ⟨rfl, rfl⟩
  case round =>
    obtain ⟨rfl, rfl⟩ := hrel
    go_wp2_with fail
    refine HP.out.mono ?_
    rintro e w1 ⟨rfl, rfl⟩
    go_wp2_with fail
    go_loop [4, 38] (fun b a => b = .slice none 0 0 ∧ a = .int .i64 0) (fun _ _ => 0)
    case atStart => exact ⟨rfl, rfl⟩
    case round =>
      obtain ⟨rfl, rfl⟩ := hrel
      go_wp2_with fail
      go_ret
      exact ⟨rfl, rfl⟩
theorem SlotAt.keep {w w' : World} {T : List Nat} {S N : Nat} (h : SlotAt w S N) (hc : Chg T w w') (hs : S ∉ T) : SlotAt w' S N := hc.heap h hs
/-- what slot.Open hands back at an empty device. -/
def OpenR (w : World) (N A c : Nat) (ops : Int) (Z : List Nat) (e : Ending) (w' : World) : Prop :=
  ∃ S, e = .returned (.tuple #[.pointer (some ⟨S, 0, none⟩), .int .i64 0]) ∧ Chg (N :: Z) w w' ∧ DevAt w' N A c (ops + 1) Z ∧ SlotAt w' S N ∧ w.heap.size ≤ S
set_option maxRecDepth 100000 in
set_option maxHeartbeats 1000000 in
theorem open_any (w : World) {N A c : Nat} {ops : Int} {Z : List Nat} (hD : DevAt w N A c ops Z) (hd : DevOk N A Z) (hlt : ∀ z ∈ Z, z < w.heap.size) (h0 : 0 ≤ ops) (h1 : ops ≤ 1000000) : Calls Tryz.prog 34 #[.pointer (some ⟨N, 0, none⟩), .int .i64 0, .int .i64 3, .int .i64 6] w (OpenR w N A c ops Z) := by
  go_enter Tryz.func34, Tryz.ntmps34
  go_wp2_with fail
  refine (geometry_any w hD).mono ?_
  rintro e w1 ⟨rfl, hc1⟩
  have hD1 := hD.keep hc1 (by simp) (by simp) (by simp)
  go_wp2_with fail
  have g1 := (two_new w1 (.cells #[.int .i64 8, .int .i64 96] 28) (.cells #[.pointer (some ⟨N, 0, none⟩), .int .i64 0, .int .i64 3, .int .i64 6, .int .i64 96, .int .i64 1, .slice none 0 0, .int .i64 0, .bool false] 159)).2
  have hc2 := hc1.then (chg_two w1 (.cells #[.int .i64 8, .int .i64 96] 28) (.cells #[.pointer (some ⟨N, 0, none⟩), .int .i64 0, .int .i64 3, .int .i64 6, .int .i64 96, .int .i64 1, .slice none 0 0, .int .i64 0, .bool false] 159))
  have hsz := hc1.size
  generalize (w1.alloc (.cells #[.int .i64 8, .int .i64 96] 28)).alloc (.cells #[.pointer (some ⟨N, 0, none⟩), .int .i64 0, .int .i64 3, .int .i64 6, .int .i64 96, .int .i64 1, .slice none 0 0, .int .i64 0, .bool false] 159) = w2 at *
  have hS : SlotAt w2 (w1.heap.size + 1) N := g1
  have hD2 := hD.keep hc2 (by simp) (by simp) (by simp)
  have hNS : w1.heap.size + 1 ∉ N :: Z := by
    have hN := heap_lt hD.1
    intro hm
    rcases List.mem_cons.1 hm with hm | hm
    · omega
    · have := hlt _ hm; omega
  have hS0 : w.heap.size ≤ w1.heap.size + 1 := by omega
  generalize w1.heap.size + 1 = S at *
  have c7 := (slot_cells hS).2.2.2.2.2.2.2.1
  clear hD hD1 g1 hc1
  go_loop [51] (fun i => i = .int .i64 0 ∨ i = .int .i64 1 ∨ i = .int .i64 2) (fun i => 2 - (intOf i).toNat)
  case atStart => exact Or.inl rfl
  case round =>
    rcases hrel with rfl | rfl | rfl
    · go_wp2_with fail
      refine (blocks0 w2 hS hD2).mono ?_
      rintro e w3 ⟨rfl, rfl⟩
      go_wp2_with fail
      refine (contf_nil _ w2).mono ?_
      rintro e w3 ⟨rfl, rfl⟩
      go_wp2_with fail
      refine (read_nil w2).mono ?_
      rintro e w3 ⟨rfl, rfl⟩
      go_wp2_with fail
      go_round
      case rel => exact Or.inr (Or.inl rfl)
      case measure => decide
    · go_wp2_with fail
      refine (blocks1 w2 hS hD2).mono ?_
      rintro e w3 ⟨rfl, rfl⟩
      go_wp2_with fail
      refine (contf_nil _ w2).mono ?_
      rintro e w3 ⟨rfl, rfl⟩
      go_wp2_with fail
      refine (read_nil w2).mono ?_
      rintro e w3 ⟨rfl, rfl⟩
      go_wp2_with fail
      go_round
      case rel => exact Or.inr (Or.inr rfl)
      case measure => decide
    · go_wp2_with fail
      refine (flush_any w2 hD2 hd h0 h1).mono ?_
      rintro e w3 ⟨rfl, hc3, hD3⟩
      have hS3 := hS.keep hc3 hNS
      have hc4 : Chg (N :: Z) w w3 := (hc2.mono (T := N :: Z) (fun x hx _ => by cases hx)).then hc3
      go_wp2_with fail
      go_ret2
      exact ⟨S, rfl, hc4, hD3, hS3, hS0⟩
end Go.Proofs.YtliicpedddcfiaaGreat
namespace Go.Proofs.YtliicpedddcfiaaGreat
open Go.RowKit Go.Lib

theorem ty23 : Tryz.prog.underlying 34 = some (.slice 5) := Tryz.underlying34
theorem inf5c : (Tryz.prog.info? 5).map (fun i => (i.zero, i.size, i.bytes)) = some (some (.int .u8 0), 1, 1) := by kernel_rfl
/-- block g is a row of bytes. -/
def Bt (w : World) (g : Nat) : Prop := ∃ cs, w.heap[g]? = some (.cells cs 5 (0, 0))
set_option maxRecDepth 100000 in
set_option maxHeartbeats 1000000 in
theorem clone_bt (w : World) {D o c m : Nat} {l : List UInt8} (hl : l.length = m) (hm0 : 0 < m) (hm1 : m ≤ 1000) (hb : Bs w (some ⟨D, o, none⟩) l) : Calls Tryz.prog 47 #[.slice (some ⟨D, o, none⟩) m c] w fun e w' =>
    ∃ g c', e = .returned (.slice (some ⟨g, 0, none⟩) m c') ∧ Chg [] w w' ∧ Bs w' (some ⟨g, 0, none⟩) l ∧ w.heap.size ≤ g ∧ Bt w' g := by
  have hn : ∀ w, (binOp .eql 34 (.slice (some ⟨D, o, none⟩) m c) (.slice none 0 0)).run Tryz.prog w = .ok (.bool false) w := fun w => Lib.run_eql_slice_nil w 34 5 _ _ _ 0 0 Tryz.underlying34
  have HB := Lib.hid hb
  have HL := Lib.hid hl
  clear hb hl
  go_enter Tryz.func47, Tryz.ntmps47
  go_wp2_with (first | (at_builtin; refine wpList_append_bs rfl (.tmp 5) (.tmp 6) 34 5 rfl ty23 inf5c w.heap.size _ 0 [] rfl (own_empty w 5) _ m c l rfl HL.out (HB.out.keep (Below.of_alloc _ _)) (by omega) (by simp) ?_; intro v1 w1 h1; have hs1 : w.heap.size ≤ w1.heap.size := Nat.le_trans (by simp) h1.2.1.size))
  go_ret
  have hB : Below w.heap.size w w1 := (Below.of_alloc w _).trans h1.2.1
  have hb1 := h1.1
  rcases hb1.2 with ⟨e, h0⟩ | ⟨g, cap, cur, e, hA, hgt, -⟩
  · omega
  · rw [e] at hb1
    refine ⟨g, cap, ?_, Chg.of_below hB, by simpa using Bs.own hb1, hA, _, hgt⟩
    show Ending.returned v1 = _
    rw [e, Nat.zero_add]
theorem clone_bs (w : World) {D o c m : Nat} {l : List UInt8} (hl : l.length = m) (hm0 : 0 < m) (hm1 : m ≤ 1000) (hb : Bs w (some ⟨D, o, none⟩) l) : Calls Tryz.prog 47 #[.slice (some ⟨D, o, none⟩) m c] w fun e w' =>
    ∃ g c', e = .returned (.slice (some ⟨g, 0, none⟩) m c') ∧ Chg [] w w' ∧ Bs w' (some ⟨g, 0, none⟩) l ∧ w.heap.size ≤ g :=
  (clone_bt w hl hm0 hm1 hb).mono fun _ _ ⟨g, c', h1, h2, h3, h4, _⟩ => ⟨g, c', h1, h2, h3, h4⟩
end Go.Proofs.YtliicpedddcfiaaGreat
namespace Go.Proofs.YtliicpedddcfiaaGreat
open Go.RowKit Go.Lib

theorem ty35 : Tryz.prog.underlying 31 = some (.slice 37) := by kernel_rfl
theorem inf43 : (Tryz.prog.info? 37).map (fun i => (i.zero, i.size, i.bytes)) = some (some (.agg #[.int .i64 0, .slice none 0 0]), 2, 32) := by kernel_rfl
set_option maxRecDepth 100000 in
theorem pclone_nil (w : World) : Calls Tryz.prog 46 #[.slice none 0 0] w fun e w' => e = .returned (.slice none 0 0) ∧ w = w' := by
  have hn : ∀ w, (binOp .eql 31 (.slice none 0 0) (.slice none 0 0)).run Tryz.prog w = .ok (.bool true) w := fun w => run_eql_nil_slice w 31 37 none 0 0 0 0 ty35
  go_enter Tryz.func46, Tryz.ntmps46
  go_wp2_with fail
  go_ret
  exact ⟨rfl, rfl⟩
/-- a put is put behind an empty row of puts. -/
theorem wpList_append_put {ops : Array Oper} {rest : List Oper} {o : Oper} {a : Act} {w : World} {Q : Exit → Act → World → Prop} (hgd : o.guard = none) (s x : Operand)
    (ho : o.op = .call { callee := .builtin .append, args := #[s, x], argTypes := #[31, 31] }) (z b bo c : Nat) (u0 u1 : Value) (hs : a.eval s = .slice (some ⟨z, 0, none⟩) 0 0) (hz : w.heap[z]? = some (.cells #[] 37 (0, 0)))
    (hx : a.eval x = .slice (some ⟨b, bo, none⟩) 1 c) (c0 : w.cell? ⟨b, bo, none⟩ = some u0) (c1 : w.cell? ⟨b, bo + 1, none⟩ = some u1) (h1 : u0.oneCell' = true ∧ u1.oneCell' = true)
    (h : ∀ g cap w', Chg [z] w w' → w'.ownsRow z 37 2 (.slice (some ⟨g, 0, none⟩) 1 cap) 1 [u0, u1] → wpList Tryz.prog ops Q rest (a.put o.dst (.slice (some ⟨g, 0, none⟩) 1 cap)) w') : wpList Tryz.prog ops Q (o :: rest) a w := by
  obtain ⟨i, hi0, hz0, hz1, hz2⟩ := info_parts inf43
  have hown : w.ownsRow z 37 2 (.slice (some ⟨z, 0, none⟩) 0 0) 0 [] := ⟨rfl, Or.inr ⟨z, 0, #[], rfl, Nat.le_refl _, hz, Nat.le_refl _, by unfold maxLen; omega, rfl, rfl⟩⟩
  refine wpList_append_lies w hgd s x 31 ho z 37 i _ 2 32 ty35 hi0 hz0 hz1 hz2 rfl (by decide) _ 0 [] hs hown ⟨b, bo, none⟩ 1 c [u0, u1] hx rfl ?_ ?_ (by decide) (by unfold maxLen; omega) (by omega) (Nat.le_of_lt (heap_lt hz)) _ rfl ?_
  · intro j u hu
    rw [show (⟨b, bo, none⟩ : Addr).add j = ⟨b, bo + j, none⟩ from by unfold Addr.add; split <;> simp_all]
    match j with
    | 0 => cases hu; exact c0
    | 1 => cases hu; exact c1
    | j + 2 => simp at hu
  · intro u hu
    simp at hu
    rcases hu with rfl | rfl
    · exact h1.1
    · exact h1.2
  · intro g cap w' h2 h3 _ _
    exact h g cap w' (Chg.of_grown h3) h2
set_option maxRecDepth 100000 in
theorem pclone_one (w : World) {E eo c : Nat} {u0 u1 : Value} (h0 : w.cell? ⟨E, eo, none⟩ = some u0) (h1 : w.cell? ⟨E, eo + 1, none⟩ = some u1) (ho : u0.oneCell' = true ∧ u1.oneCell' = true) : Calls Tryz.prog 46 #[.slice (some ⟨E, eo, none⟩) 1 c] w fun e w' =>
    ∃ g c', e = .returned (.slice (some ⟨g, 0, none⟩) 1 c') ∧ Chg [] w w' ∧ w'.ownsRow w.heap.size 37 2 (.slice (some ⟨g, 0, none⟩) 1 c') 1 [u0, u1] := by
  have hn : ∀ w, (binOp .eql 31 (.slice (some ⟨E, eo, none⟩) 1 c) (.slice none 0 0)).run Tryz.prog w = .ok (.bool false) w := fun w => Lib.run_eql_slice_nil w 31 37 _ _ _ 0 0 ty35
  have k0 : Chg [] w (w.alloc (.cells #[] 37)) := Chg.alloc w _
  have hb := k0.cell h0 (by simp)
  have hb1 := k0.cell h1 (by simp)
  have hz := heap_new w (.cells #[] 37)
  clear h0 h1
  go_enter Tryz.func46, Tryz.ntmps46
  go_wp2_with (first | (at_builtin; refine wpList_append_put rfl (.tmp 5) (.tmp 6) rfl w.heap.size E eo c u0 u1 rfl hz rfl hb hb1 ho ?_; intro g2 c2 w2 k2 o2))
  go_ret
  exact ⟨g2, c2, rfl, k0.trans k2 (fun x hx hlt => by simp at hx; omega), o2⟩
/-- one put that is an op's own: block E holds it, its bytes are in block D. -/
def PutOf (w : World) (lo : Nat) (pv : Value) (b : Int) (l : List UInt8) : Prop :=
  ∃ E c D cd cs, pv = .slice (some ⟨E, 0, none⟩) 1 c ∧ lo ≤ E ∧ lo ≤ D ∧ w.heap[E]? = some (.cells cs 37 (0, 0)) ∧ cs[0]? = some (.int .i64 b) ∧ cs[1]? = some (.slice (some ⟨D, 0, none⟩) 40 cd) ∧ Bs w (some ⟨D, 0, none⟩) l ∧ l.length = 40 ∧ Bt w D
theorem Bs.chgB {w w' : World} {T : List Nat} {g o : Nat} {l : List UInt8} (h : Bs w (some ⟨g, o, none⟩) l) (hc : Chg T w w') (hg : g ∉ T) : Bs w' (some ⟨g, o, none⟩) l := by
  rcases h with h | ⟨b, off, he, hb, hcs⟩
  · exact Or.inl h
  · refine Or.inr ⟨b, off, he, Nat.lt_of_lt_of_le hb hc.size, fun j hj => hc.cell (hcs j hj) ?_⟩
    cases he
    exact hg
theorem PutOf.keepT {w w' : World} {U : List Nat} {lo : Nat} {pv : Value} {b : Int} {l : List UInt8} (h : PutOf w lo pv b l) (hc : Chg U w w') (hU : ∀ x ∈ U, x < w.heap.size → ∀ cs t fr, w.heap[x]? = some (.cells cs t fr) → t ≠ 37 ∧ t ≠ 5) : PutOf w' lo pv b l := by
  obtain ⟨E, c, D, cd, cs, h1, h2, h3, h4, h5, h6, h7, h8, ct, h9⟩ := h
  have nD : D ∉ U := fun hx => (hU D hx (heap_lt h9) _ _ _ h9).2 rfl
  exact ⟨E, c, D, cd, cs, h1, h2, h3, hc.heap h4 (fun hx => (hU E hx (heap_lt h4) _ _ _ h4).1 rfl), h5, h6, h7.chgB hc nD, h8, ct, hc.heap h9 nD⟩
theorem set5 {w : World} {g : Nat} {t : TypeId} {a0 a1 a2 a3 a4 : Value} (b0 b1 b2 b3 b4 : Value) (h : w.heap[g]? = some (.cells #[a0, a1, a2, a3, a4] t (0, 0))) :
    (((((w.setCell ⟨g, 0, none⟩ b0).setCell ⟨g, 1, none⟩ b1).setCell ⟨g, 2, none⟩ b2).setCell ⟨g, 3, none⟩ b3).setCell ⟨g, 4, none⟩ b4).heap[g]? = some (.cells #[b0, b1, b2, b3, b4] t (0, 0)) ∧
    Chg [g] w (((((w.setCell ⟨g, 0, none⟩ b0).setCell ⟨g, 1, none⟩ b1).setCell ⟨g, 2, none⟩ b2).setCell ⟨g, 3, none⟩ b3).setCell ⟨g, 4, none⟩ b4) :=
  ⟨heap_set (heap_set (heap_set (heap_set (heap_set h 0 b0 rfl) 1 b1 rfl) 2 b2 rfl) 3 b3 rfl) 4 b4 rfl,
    ((((Chg.set w g 0 b0).then (Chg.set _ g 1 b1)).then (Chg.set _ g 2 b2)).then (Chg.set _ g 3 b3)).then (Chg.set _ g 4 b4)⟩
theorem heap_new2 (w : World) (o p : Obj) : ((w.alloc o).alloc p).heap[w.heap.size]? = some o ∧ ((w.alloc o).alloc p).heap[w.heap.size + 1]? = some p := by
  refine ⟨(Chg.alloc (S := []) _ _).heap (heap_new w _) (by simp), ?_⟩
  have := heap_new (w.alloc o) p
  rwa [show (w.alloc o).heap.size = w.heap.size + 1 from by rw [show (w.alloc o).heap = w.heap.push o from rfl, Array.size_push]] at this
set_option maxRecDepth 100000 in
theorem own_none (w : World) {k h a l : Int} : Calls Tryz.prog 20 #[.agg #[.int .i64 k, .int .i64 h, .int .i64 a, .int .i64 l, .slice none 0 0]] w fun e w' =>
    e = .returned (.agg #[.int .i64 k, .int .i64 h, .int .i64 a, .int .i64 l, .slice none 0 0]) ∧ Chg [] w w' := by
  have kk : Chg [] w ((w.alloc (.cells #[.int .i64 k, .int .i64 h, .int .i64 a, .int .i64 l, .slice none 0 0] 33)).alloc (.cells #[.int .i64 0, .int .i64 0, .int .i64 0, .int .i64 0, .slice none 0 0] 33)) := (Chg.alloc w _).then_alloc _
  have hlen : ∀ wx : World, (Builtin.len_ #[31] 3 #[.slice none 0 0]).run Tryz.prog wx = .ok (.int .i64 0) wx := fun wx => rfl
  obtain ⟨y1, y2⟩ := heap_new2 w (.cells #[.int .i64 k, .int .i64 h, .int .i64 a, .int .i64 l, .slice none 0 0] 33) (.cells #[.int .i64 0, .int .i64 0, .int .i64 0, .int .i64 0, .slice none 0 0] 33)
  go_enter Tryz.func20, Tryz.ntmps20
  go_wp2_with fail
  refine (pclone_nil _).mono ?_
  rintro e w1 ⟨rfl, rfl⟩
  go_wp2_with fail
  generalize (w.alloc (.cells #[.int .i64 k, .int .i64 h, .int .i64 a, .int .i64 l, .slice none 0 0] 33)).alloc (.cells #[.int .i64 0, .int .i64 0, .int .i64 0, .int .i64 0, .slice none 0 0] 33) = w0 at *
  have hzl := heap_lt y1
  generalize hz : w.heap.size = z at *
  have c0 : w0.cell? ⟨z, 0, none⟩ = some (.int .i64 k) := cell_is y1 0 rfl
  have c1 : w0.cell? ⟨z, 1, none⟩ = some (.int .i64 h) := cell_is y1 1 rfl
  have c2 : w0.cell? ⟨z, 2, none⟩ = some (.int .i64 a) := cell_is y1 2 rfl
  have c3 : w0.cell? ⟨z, 3, none⟩ = some (.int .i64 l) := cell_is y1 3 rfl
  have c4 : w0.cell? ⟨z, 4, none⟩ = some (.slice none 0 0) := cell_is y1 4 rfl
  have d0 : w0.cell? ⟨z + 1, 0, none⟩ = some (.int .i64 0) := cell_is y2 0 rfl
  have d1 : w0.cell? ⟨z + 1, 1, none⟩ = some (.int .i64 0) := cell_is y2 1 rfl
  have d2 : w0.cell? ⟨z + 1, 2, none⟩ = some (.int .i64 0) := cell_is y2 2 rfl
  have d3 : w0.cell? ⟨z + 1, 3, none⟩ = some (.int .i64 0) := cell_is y2 3 rfl
  have d4 : w0.cell? ⟨z + 1, 4, none⟩ = some (.slice none 0 0) := cell_is y2 4 rfl
  have e0 := unfrozen y2 0
  have e1 := unfrozen y2 1
  have e2 := unfrozen y2 2
  have e3 := unfrozen y2 3
  have e4 := unfrozen y2 4
  go_loopw [3, 11] (fun _ i wr => i = .int .i64 0 ∧ wr = w0) (fun _ _ _ => 0)
  case atStart => exact ⟨rfl, rfl⟩
  case round =>
    obtain ⟨rfl, rfl⟩ := hrel
    go_wp2_with fail
    obtain ⟨y5, k5⟩ := set5 (.int .i64 k) (.int .i64 h) (.int .i64 a) (.int .i64 l) (.slice none 0 0) y2
    have hfin := kk.trans k5 (fun x hx hlt => by simp at hx; omega)
    have r0 := cell_is y5 0 rfl
    have r1 := cell_is y5 1 rfl
    have r2 := cell_is y5 2 rfl
    have r3 := cell_is y5 3 rfl
    have r4 := cell_is y5 4 rfl
    refine bodyPost_ret (v := .agg #[.int .i64 k, .int .i64 h, .int .i64 a, .int .i64 l, .slice none 0 0]) (by simp [results, Tryz.results20, go_sem, r0, r1, r2, r3, r4]) rfl ?_
    exact ⟨rfl, hfin⟩
set_option maxRecDepth 100000 in
set_option maxHeartbeats 1000000 in
theorem own_one (w : World) {k h a l b : Int} {E eo c D cd : Nat} {dl : List UInt8} (u0 : w.cell? ⟨E, eo, none⟩ = some (.int .i64 b)) (u1 : w.cell? ⟨E, eo + 1, none⟩ = some (.slice (some ⟨D, 0, none⟩) 40 cd)) (hb : Bs w (some ⟨D, 0, none⟩) dl) (hl : dl.length = 40) :
    Calls Tryz.prog 20 #[.agg #[.int .i64 k, .int .i64 h, .int .i64 a, .int .i64 l, .slice (some ⟨E, eo, none⟩) 1 c]] w fun e w' =>
    ∃ pv, e = .returned (.agg #[.int .i64 k, .int .i64 h, .int .i64 a, .int .i64 l, pv]) ∧ Chg [] w w' ∧ PutOf w' w.heap.size pv b dl := by
  have kk : Chg [] w ((w.alloc (.cells #[.int .i64 k, .int .i64 h, .int .i64 a, .int .i64 l, .slice (some ⟨E, eo, none⟩) 1 c] 33)).alloc (.cells #[.int .i64 0, .int .i64 0, .int .i64 0, .int .i64 0, .slice none 0 0] 33)) := (Chg.alloc w _).then_alloc _
  obtain ⟨y1, y2⟩ := heap_new2 w (.cells #[.int .i64 k, .int .i64 h, .int .i64 a, .int .i64 l, .slice (some ⟨E, eo, none⟩) 1 c] 33) (.cells #[.int .i64 0, .int .i64 0, .int .i64 0, .int .i64 0, .slice none 0 0] 33)
  go_enter Tryz.func20, Tryz.ntmps20
  go_wp2_with fail
  generalize (w.alloc (.cells #[.int .i64 k, .int .i64 h, .int .i64 a, .int .i64 l, .slice (some ⟨E, eo, none⟩) 1 c] 33)).alloc (.cells #[.int .i64 0, .int .i64 0, .int .i64 0, .int .i64 0, .slice none 0 0] 33) = w0 at *
  have hzl := heap_lt y1
  generalize hz : w.heap.size = z at *
  refine (pclone_one w0 (kk.cell u0 (by simp)) (kk.cell u1 (by simp)) ⟨rfl, rfl⟩).mono ?_
  rintro e w1 ⟨g, c1, rfl, k1, o1⟩
  have x1 := k1.heap y1 (by simp)
  have x2 := k1.heap y2 (by simp)
  have f4 : w1.cell? ⟨z, 4, none⟩ = some (.slice (some ⟨E, eo, none⟩) 1 c) := cell_is x1 4 rfl
  have q4 := unfrozen x1 4
  have xg : ∃ cur, w1.heap[g]? = some (.cells cur 37 (0, 0)) ∧ cur[0]? = some (.int .i64 b) ∧ cur[1]? = some (.slice (some ⟨D, 0, none⟩) 40 cd) ∧ w0.heap.size ≤ g := by
    rcases o1.2 with ⟨e, _⟩ | ⟨g', cap, cur, e, hA, hg, hc1, hc2, hc3, ht⟩
    · cases e
    · cases e
      refine ⟨cur, hg, ?_, ?_, hA⟩
      · have : (cur.toList.take (1 * 2))[0]? = some (.int .i64 b) := by rw [ht]; rfl
        rwa [List.getElem?_take_of_lt (by omega), Array.getElem?_toList] at this
      · have : (cur.toList.take (1 * 2))[1]? = some (.slice (some ⟨D, 0, none⟩) 40 cd) := by rw [ht]; rfl
        rwa [List.getElem?_take_of_lt (by omega), Array.getElem?_toList] at this
  obtain ⟨cur, xg, cu0, cu1, hg⟩ := xg
  go_wp2_with fail
  have m1 : (w1.setCell ⟨z, 4, none⟩ (.slice (some ⟨g, 0, none⟩) 1 c1)).heap[z]? = some (.cells #[.int .i64 k, .int .i64 h, .int .i64 a, .int .i64 l, .slice (some ⟨g, 0, none⟩) 1 c1] 33 (0, 0)) := heap_set x1 4 _ rfl
  have hgz : g ≠ z := by omega
  have hg1 : z + 1 < g := by have := heap_lt y2; omega
  have mg : (w1.setCell ⟨z, 4, none⟩ (.slice (some ⟨g, 0, none⟩) 1 c1)).heap[g]? = some (.cells cur 37 (0, 0)) := heap_set_ne xg hgz _ _
  have m2 := heap_set_ne x2 (show z + 1 ≠ z by omega) 4 (.slice (some ⟨g, 0, none⟩) 1 c1)
  have k2 : Chg [] w (w1.setCell ⟨z, 4, none⟩ (.slice (some ⟨g, 0, none⟩) 1 c1)) := (kk.then k1).trans (Chg.set w1 z 4 _) (fun x hx hlt => by simp at hx; omega)
  generalize w1.setCell ⟨z, 4, none⟩ (.slice (some ⟨g, 0, none⟩) 1 c1) = w2 at *
  have HB := Lib.hid (hb.keep k2.below0)
  clear hb u0 u1 x1 x2 xg o1 f4 q4 y1 y2 k1
  go_loopw [3, 11] (fun _ i wr => (i = .int .i64 0 ∧ w2 = wr) ∨ (i = .int .i64 1 ∧ Chg [] w wr ∧ wr.heap[z]? = some (.cells #[.int .i64 k, .int .i64 h, .int .i64 a, .int .i64 l, .slice (some ⟨g, 0, none⟩) 1 c1] 33 (0, 0)) ∧ wr.heap[z + 1]? = some (.cells #[.int .i64 0, .int .i64 0, .int .i64 0, .int .i64 0, .slice none 0 0] 33 (0, 0)) ∧ PutOf wr z (.slice (some ⟨g, 0, none⟩) 1 c1) b dl)) (fun _ i _ => 1 - (intOf i).toNat)
  case atStart => exact Or.inl ⟨rfl, rfl⟩
  case round =>
    rcases hrel with ⟨rfl, rfl⟩ | ⟨rfl, kr, y1, y2, hp⟩
    · have v4 : w2.cell? ⟨z, 4, none⟩ = some (.slice (some ⟨g, 0, none⟩) 1 c1) := cell_is m1 4 rfl
      have t0 : w2.cell? ⟨g, 0, none⟩ = some (.int .i64 b) := cell_is mg 0 cu0
      have t1 : w2.cell? ⟨g, 1, none⟩ = some (.slice (some ⟨D, 0, none⟩) 40 cd) := cell_is mg 1 cu1
      have kd : Chg [] w2 w2.drew := (Chg.refl [] w2).drew
      go_wp2_with fail
      have t1d : w2.drew.cell? ⟨g, 1, none⟩ = some (.slice (some ⟨D, 0, none⟩) 40 cd) := t1
      have v4d : w2.drew.cell? ⟨z, 4, none⟩ = some (.slice (some ⟨g, 0, none⟩) 1 c1) := v4
      go_region_law
        (first
          | (go_simp; go_at_call 47; refine (clone_bt w2.drew hl (by decide) (by decide) (HB.out.keep kd.below0)).mono ?_; rintro e w3 ⟨D2, cd2, rfl, k3, hB3, hD3, hT3⟩; have fz := unfrozen (k3.heap mg (by simp)) 1; have s1 := k3.cell t1d (by simp); have s4 := k3.cell v4d (by simp); have m13 := k3.heap m1 (by simp)))
      all_goals
        have mg3 : (w3.setCell ⟨g, 1, none⟩ (.slice (some ⟨D2, 0, none⟩) 40 cd2)).heap[g]? = _ := heap_set (k3.heap mg (by simp)) 1 _ rfl
        have m14 := heap_set_ne m13 (Ne.symm hgz) 1 (.slice (some ⟨D2, 0, none⟩) 40 cd2)
        have m24 := heap_set_ne (k3.heap m2 (by simp)) (show z + 1 ≠ g by omega) 1 (.slice (some ⟨D2, 0, none⟩) 40 cd2)
        have hDg : D2 ≠ g := by have := heap_lt mg; have : w2.drew.heap.size = w2.heap.size := rfl; omega
        have ks : Chg [g] w3 (w3.setCell ⟨g, 1, none⟩ (.slice (some ⟨D2, 0, none⟩) 40 cd2)) := Chg.set _ _ _ _
        have kf : Chg [] w (w3.setCell ⟨g, 1, none⟩ (.slice (some ⟨D2, 0, none⟩) 40 cd2)) := ((k2.drew).then k3).trans ks (fun x hx hlt => by simp at hx; omega)
        have hp : PutOf (w3.setCell ⟨g, 1, none⟩ (.slice (some ⟨D2, 0, none⟩) 40 cd2)) z (.slice (some ⟨g, 0, none⟩) 1 c1) b dl := by
          obtain ⟨ct, hT⟩ := hT3
          refine ⟨g, c1, D2, cd2, _, rfl, by omega, by have : w2.drew.heap.size = w2.heap.size := rfl; have := heap_lt mg; omega, mg3, ?_, ?_, hB3.chgB ks (by simpa using hDg), hl, ct, heap_set_ne hT hDg _ _⟩
          · rw [Array.getElem?_setIfInBounds_ne (by decide)]; exact cu0
          · rw [Array.getElem?_setIfInBounds_self_of_lt (by have := (Array.getElem?_eq_some_iff.1 cu1).1; exact this)]
        have HF := Lib.hid (And.intro kf (And.intro m14 (And.intro m24 hp)))
        clear kf m14 m24 hp ks mg3 k3 hB3 hT3 m13 s1 s4 t1 t1d t0 v4 v4d
        go_wp2_with fail
        go_roundw
        case rel => exact Or.inr ⟨rfl, HF.out⟩
        case measure => decide
    · have c0 := cell_is y1 0 rfl
      have c1' := cell_is y1 1 rfl
      have c2 := cell_is y1 2 rfl
      have c3 := cell_is y1 3 rfl
      have c4 := cell_is y1 4 rfl
      have d0 := cell_is y2 0 rfl
      have d1 := cell_is y2 1 rfl
      have d2 := cell_is y2 2 rfl
      have d3 := cell_is y2 3 rfl
      have d4 := cell_is y2 4 rfl
      have e0 := unfrozen y2 0
      have e1 := unfrozen y2 1
      have e2 := unfrozen y2 2
      have e3 := unfrozen y2 3
      have e4 := unfrozen y2 4
      have HF := Lib.hid (And.intro kr hp)
      clear kr hp
      go_wp2_with fail
      obtain ⟨y5, k5⟩ := set5 (.int .i64 k) (.int .i64 h) (.int .i64 a) (.int .i64 l) (.slice (some ⟨g, 0, none⟩) 1 c1) y2
      have hfin := HF.out.1.trans k5 (fun x hx hlt => by simp at hx; omega)
      have hpf : PutOf _ z (.slice (some ⟨g, 0, none⟩) 1 c1) b dl := HF.out.2.keepT k5 (fun x hx _ cs t fr hh => by
        rw [List.mem_singleton] at hx
        subst hx
        rw [y2] at hh
        cases hh
        exact ⟨by decide, by decide⟩)
      have r0 := cell_is y5 0 rfl
      have r1 := cell_is y5 1 rfl
      have r2 := cell_is y5 2 rfl
      have r3 := cell_is y5 3 rfl
      have r4 := cell_is y5 4 rfl
      refine bodyPost_ret (v := .agg #[.int .i64 k, .int .i64 h, .int .i64 a, .int .i64 l, .slice (some ⟨g, 0, none⟩) 1 c1]) (by simp [results, Tryz.results20, go_sem, r0, r1, r2, r3, r4]) rfl ?_
      exact ⟨_, rfl, hfin, by rw [hz]; exact hpf⟩
set_option maxRecDepth 100000 in
theorem kept_nil (w : World) {k h a l : Int} : Calls Tryz.prog 23 #[.agg #[.int .i64 k, .int .i64 h, .int .i64 a, .int .i64 l, .slice none 0 0]] w fun e w' =>
    e = .returned (.agg #[.int .i64 k, .int .i64 h, .int .i64 a, .int .i64 l, .slice none 0 0]) ∧ Chg [] w w' := by
  have kk : Chg [] w ((w.alloc (.cells #[.int .i64 k, .int .i64 h, .int .i64 a, .int .i64 l, .slice none 0 0] 39)).alloc (.cells #[.int .i64 0, .int .i64 0, .int .i64 0, .int .i64 0, .slice none 0 0] 39)) := (Chg.alloc w _).then_alloc _
  obtain ⟨y1, y2⟩ := heap_new2 w (.cells #[.int .i64 k, .int .i64 h, .int .i64 a, .int .i64 l, .slice none 0 0] 39) (.cells #[.int .i64 0, .int .i64 0, .int .i64 0, .int .i64 0, .slice none 0 0] 39)
  go_enter Tryz.func23, Tryz.ntmps23
  go_wp2_with fail
  refine (clone_nil _).mono ?_
  rintro e w1 ⟨rfl, rfl⟩
  generalize (w.alloc (.cells #[.int .i64 k, .int .i64 h, .int .i64 a, .int .i64 l, .slice none 0 0] 39)).alloc (.cells #[.int .i64 0, .int .i64 0, .int .i64 0, .int .i64 0, .slice none 0 0] 39) = w0 at *
  have hzl := heap_lt y1
  generalize hz : w.heap.size = z at *
  have c0 : w0.cell? ⟨z, 0, none⟩ = some (.int .i64 k) := cell_is y1 0 rfl
  have c1 : w0.cell? ⟨z, 1, none⟩ = some (.int .i64 h) := cell_is y1 1 rfl
  have c2 : w0.cell? ⟨z, 2, none⟩ = some (.int .i64 a) := cell_is y1 2 rfl
  have c3 : w0.cell? ⟨z, 3, none⟩ = some (.int .i64 l) := cell_is y1 3 rfl
  have c4 : w0.cell? ⟨z, 4, none⟩ = some (.slice none 0 0) := cell_is y1 4 rfl
  have d0 : w0.cell? ⟨z + 1, 0, none⟩ = some (.int .i64 0) := cell_is y2 0 rfl
  have d1 : w0.cell? ⟨z + 1, 1, none⟩ = some (.int .i64 0) := cell_is y2 1 rfl
  have d2 : w0.cell? ⟨z + 1, 2, none⟩ = some (.int .i64 0) := cell_is y2 2 rfl
  have d3 : w0.cell? ⟨z + 1, 3, none⟩ = some (.int .i64 0) := cell_is y2 3 rfl
  have d4 : w0.cell? ⟨z + 1, 4, none⟩ = some (.slice none 0 0) := cell_is y2 4 rfl
  have e0 := unfrozen y2 0
  have e1 := unfrozen y2 1
  have e2 := unfrozen y2 2
  have e3 := unfrozen y2 3
  have e4 := unfrozen y2 4
  have q4 := unfrozen y1 4
  go_wp2_with fail
  have y2' := heap_set_ne y2 (show z + 1 ≠ z by omega) 4 (.slice none 0 0)
  have k4 := Chg.set w0 z 4 (.slice none 0 0)
  obtain ⟨y5, k5⟩ := set5 (.int .i64 k) (.int .i64 h) (.int .i64 a) (.int .i64 l) (.slice none 0 0) y2'
  have hfin := (kk.trans k4 (fun x hx hlt => by simp at hx; omega)).trans k5 (fun x hx hlt => by simp at hx; omega)
  have r0 := cell_is y5 0 rfl
  have r1 := cell_is y5 1 rfl
  have r2 := cell_is y5 2 rfl
  have r3 := cell_is y5 3 rfl
  have r4 := cell_is y5 4 rfl
  refine bodyPost_ret (v := .agg #[.int .i64 k, .int .i64 h, .int .i64 a, .int .i64 l, .slice none 0 0]) (by simp [results, Tryz.results23, go_sem, r0, r1, r2, r3, r4]) rfl ?_
  exact ⟨rfl, hfin⟩
end Go.Proofs.YtliicpedddcfiaaGreat
namespace Go.Proofs.YtliicpedddcfiaaGreat
open Go.RowKit Go.Lib

theorem ty78 : Tryz.prog.underlying 65 = some (.slice 33) := by kernel_rfl
theorem inf64 : (Tryz.prog.info? 33).map (fun i => (i.zero, i.size, i.bytes)) = some (some (.agg #[.int .i64 0, .int .i64 0, .int .i64 0, .int .i64 0, .slice none 0 0]), 5, 56) := by kernel_rfl
/-- an op: its numbers and its put, if it has one. -/
structure OpS where
  k : Int
  h : Int
  a : Int
  l : Int
  p : Option (Int × List UInt8)
/-- these cells are an op that was given. -/
def OpG (w : World) (s : OpS) (u : List Value) : Prop :=
  ∃ pv, u = [.int .i64 s.k, .int .i64 s.h, .int .i64 s.a, .int .i64 s.l, pv] ∧
    ((s.p = none ∧ pv = .slice none 0 0) ∨ ∃ b dl E eo c D cd, s.p = some (b, dl) ∧ pv = .slice (some ⟨E, eo, none⟩) 1 c ∧ w.cell? ⟨E, eo, none⟩ = some (.int .i64 b) ∧ w.cell? ⟨E, eo + 1, none⟩ = some (.slice (some ⟨D, 0, none⟩) 40 cd) ∧ Bs w (some ⟨D, 0, none⟩) dl ∧ dl.length = 40 ∧ ∃ eb db, w.heap[E]? = some (.cells eb 37 (0, 0)) ∧ w.heap[D]? = some (.cells db 5 (0, 0)))
/-- these cells are an op of one's own. -/
def OpV (w : World) (lo : Nat) (s : OpS) (u : List Value) : Prop :=
  ∃ pv, u = [.int .i64 s.k, .int .i64 s.h, .int .i64 s.a, .int .i64 s.l, pv] ∧
    ((s.p = none ∧ pv = .slice none 0 0) ∨ ∃ b dl, s.p = some (b, dl) ∧ PutOf w lo pv b dl)
def OpsL (w : World) (lo : Nat) : List OpS → List Value → Prop
  | [], xs => xs = []
  | s :: ss, xs => ∃ u ys, xs = u ++ ys ∧ OpV w lo s u ∧ OpsL w lo ss ys
theorem OpV.keepT {w w' : World} {U : List Nat} {lo : Nat} {s : OpS} {u : List Value} (h : OpV w lo s u) (hc : Chg U w w') (hU : ∀ x ∈ U, x < w.heap.size → ∀ cs t fr, w.heap[x]? = some (.cells cs t fr) → t ≠ 37 ∧ t ≠ 5) : OpV w' lo s u := by
  obtain ⟨pv, h1, h2 | ⟨b, dl, h2, h3⟩⟩ := h
  · exact ⟨pv, h1, Or.inl h2⟩
  · exact ⟨pv, h1, Or.inr ⟨b, dl, h2, h3.keepT hc hU⟩⟩
theorem OpV.low {w : World} {lo lo' : Nat} {s : OpS} {u : List Value} (h : OpV w lo s u) (hl : lo' ≤ lo) : OpV w lo' s u := by
  obtain ⟨pv, h1, h2 | ⟨b, dl, h2, E, c, D, cd, cs, h3, h4, h5, h6⟩⟩ := h
  · exact ⟨pv, h1, Or.inl h2⟩
  · exact ⟨pv, h1, Or.inr ⟨b, dl, h2, E, c, D, cd, cs, h3, by omega, by omega, h6⟩⟩
theorem OpV.form {w : World} {lo : Nat} {s : OpS} {u : List Value} (h : OpV w lo s u) : ∃ pp pn pc, u = [.int .i64 s.k, .int .i64 s.h, .int .i64 s.a, .int .i64 s.l, .slice pp pn pc] := by
  obtain ⟨pv, rfl, ⟨-, rfl⟩ | ⟨b, dl, -, E, c, D, cd, cs, rfl, -⟩⟩ := h <;> exact ⟨_, _, _, rfl⟩
theorem OpV.len {w : World} {lo : Nat} {s : OpS} {u : List Value} (h : OpV w lo s u) : u.length = 5 := by
  obtain ⟨pv, h1, -⟩ := h
  rw [h1]; rfl
theorem OpsL.keepT {w w' : World} {U : List Nat} {lo : Nat} {ss : List OpS} {xs : List Value} (h : OpsL w lo ss xs) (hc : Chg U w w') (hU : ∀ x ∈ U, x < w.heap.size → ∀ cs t fr, w.heap[x]? = some (.cells cs t fr) → t ≠ 37 ∧ t ≠ 5) : OpsL w' lo ss xs := by
  induction ss generalizing xs with
  | nil => exact h
  | cons s ss ih =>
    obtain ⟨u, ys, h1, h2, h3⟩ := h
    exact ⟨u, ys, h1, h2.keepT hc hU, ih h3⟩
theorem OpsL.snoc {w : World} {lo : Nat} {ss : List OpS} {xs : List Value} {s : OpS} {u : List Value} (h : OpsL w lo ss xs) (hu : OpV w lo s u) : OpsL w lo (ss ++ [s]) (xs ++ u) := by
  induction ss generalizing xs with
  | nil =>
    rw [show xs = [] from h]
    exact ⟨u, [], by simp, hu, rfl⟩
  | cons s ss ih =>
    obtain ⟨u', ys, h1, h2, h3⟩ := h
    exact ⟨u', ys ++ u, by rw [h1, List.append_assoc], h2, ih h3⟩
theorem OpG.keepT {w w' : World} {U : List Nat} {s : OpS} {u : List Value} (h : OpG w s u) (hc : Chg U w w') (hU : ∀ x ∈ U, x < w.heap.size → ∀ cs t fr, w.heap[x]? = some (.cells cs t fr) → t ≠ 37 ∧ t ≠ 5) : OpG w' s u := by
  obtain ⟨pv, h1, h2 | ⟨b, dl, E, eo, c, D, cd, h2, h3, h4, h5, h6, h7, eb, db, h8, h9⟩⟩ := h
  · exact ⟨pv, h1, Or.inl h2⟩
  · have nE : E ∉ U := fun hx => (hU E hx (heap_lt h8) _ _ _ h8).1 rfl
    have nD : D ∉ U := fun hx => (hU D hx (heap_lt h9) _ _ _ h9).2 rfl
    exact ⟨pv, h1, Or.inr ⟨b, dl, E, eo, c, D, cd, h2, h3, hc.cell h4 nE, hc.cell h5 nE, h6.chgB hc nD, h7, eb, db, hc.heap h8 nE, hc.heap h9 nD⟩⟩
/-- an op is made one's own. -/
theorem own_any (w : World) {s : OpS} {u : List Value} (h : OpG w s u) : Calls Tryz.prog 20 #[.agg u.toArray] w fun e w' => ∃ u', e = .returned (.agg u'.toArray) ∧ Chg [] w w' ∧ OpV w' w.heap.size s u' := by
  obtain ⟨pv, rfl, ⟨h2, rfl⟩ | ⟨b, dl, E, eo, c, D, cd, h2, rfl, h4, h5, h6, h7, -⟩⟩ := h
  · refine (own_none w).mono ?_
    rintro e w' ⟨rfl, hc⟩
    exact ⟨_, rfl, hc, _, rfl, Or.inl ⟨h2, rfl⟩⟩
  · refine (own_one w h4 h5 h6 h7).mono ?_
    rintro e w' ⟨pv, rfl, hc, hp⟩
    exact ⟨_, rfl, hc, _, rfl, Or.inr ⟨b, dl, h2, hp⟩⟩
theorem own_chgB {w w' : World} {S : List Nat} {base e size n : Nat} {v : Value} {xs : List Value} (h : w.ownsRow base e size v n xs) (hc : Chg S w w') (hS : ∀ g, v.ownBlock = some g → g ∉ S) : w'.ownsRow base e size v n xs := by
  refine ⟨h.1, ?_⟩
  rcases h.2 with ⟨e, h0⟩ | ⟨g, cap, cur, e, hA, hg, h3⟩
  · exact Or.inl ⟨e, h0⟩
  · exact Or.inr ⟨g, cap, cur, e, hA, hc.heap hg (hS g (by rw [e]; rfl)), h3⟩
theorem Chg.of_grownO {w w' : World} {ob : Option Nat} (h : w.grownBy w' ob) : Chg ob.toList w w' := by
  cases ob with
  | none => exact Chg.of_grown0 h
  | some g => exact Chg.of_grown h
/-- an op is put behind a row of ops, as a step of a region that draws. -/
theorem step_append_op {ops : Array Oper} {o : Oper} {a : Act} {w : World} {K : Act → World → Prop} {Q : Exit → Act → World → Prop} {E : Prop} (hgd : o.guard = none) (s x : Operand)
    (ho : o.op = .call { callee := .builtin .append, args := #[s, x], argTypes := #[65, 65] }) (base b c n : Nat) (v u0 u1 u2 u3 u4 : Value) (xs : List Value) (hs : a.eval s = v) (hown : w.ownsRow base 33 5 v n xs) (hbase : base ≤ w.heap.size) (hn : n ≤ 1000)
    (hx : a.eval x = .slice (some ⟨b, 0, none⟩) 1 c) (hb : w.heap[b]? = some (.cells #[u0, u1, u2, u3, u4] 33 (0, 0))) (h1 : u0.oneCell' = true ∧ u1.oneCell' = true ∧ u2.oneCell' = true ∧ u3.oneCell' = true ∧ u4.oneCell' = true)
    (h : ∀ g cap w', w'.ownsRow base 33 5 (.slice (some ⟨g, 0, none⟩) (n + 1) cap) (n + 1) (xs ++ [u0, u1, u2, u3, u4]) → Chg v.ownBlock.toList w w' → (v.ownBlock = some g ∨ g = w.heap.size) → K (a.put o.dst (.slice (some ⟨g, 0, none⟩) (n + 1) cap)) w') :
    if Region.wanted o (yielded ops a.tmps) = true then Oper.wp Tryz.prog o a w K Q else E := by
  obtain ⟨i, hi0, hz, hz1, hz2⟩ := info_parts inf64
  refine step_append_lies w hgd s x 65 ho base 33 i _ 5 56 ty78 hi0 hz hz1 hz2 rfl (by decide) v n xs hs hown ⟨b, 0, none⟩ 1 c [u0, u1, u2, u3, u4] hx rfl ?_ ?_ (by decide) (by unfold maxLen; omega) (by omega) hbase _ rfl ?_
  · intro j u hu
    rw [show (⟨b, 0, none⟩ : Addr).add j = ⟨b, 0 + j, none⟩ from by unfold Addr.add; split <;> simp_all, Nat.zero_add]
    exact cell_is hb j (by simpa using hu)
  · intro u hu
    simp at hu
    obtain ⟨h2, h3, h4, h5, h6⟩ := h1
    rcases hu with rfl | rfl | rfl | rfl | rfl <;> assumption
  · intro g cap w' h2 h3 h4 _
    exact h g cap w' h2 (Chg.of_grownO h3) h4
/-- the ops that are handed to Add: block E holds them. -/
def OpsG (w : World) (E : Nat) (ss : List OpS) : Prop :=
  (∃ eb, w.heap[E]? = some (.cells eb 33 (0, 0))) ∧ ∀ i s, ss[i]? = some s → ∃ u, OpG w s u ∧ ∀ j x, u[j]? = some x → w.cell? ⟨E, 5 * i + j, none⟩ = some x
theorem OpsG.keepT {w w' : World} {U : List Nat} {E : Nat} {ss : List OpS} (h : OpsG w E ss) (hc : Chg U w w') (hE : E ∉ U) (hU : ∀ x ∈ U, x < w.heap.size → ∀ cs t fr, w.heap[x]? = some (.cells cs t fr) → t ≠ 37 ∧ t ≠ 5) : OpsG w' E ss := by
  obtain ⟨⟨eb, h1⟩, h2⟩ := h
  refine ⟨⟨eb, hc.heap h1 hE⟩, fun i s hs => ?_⟩
  obtain ⟨u, h3, h4⟩ := h2 i s hs
  exact ⟨u, h3.keepT hc hU, fun j x hx => hc.cell (h4 j x hx) hE⟩
theorem own_not {w : World} {base e size n K t : Nat} {v : Value} {xs : List Value} {cs : Array Value} (h : w.ownsRow base e size v n xs) (hK : w.heap[K]? = some (.cells cs t (0, 0))) (ht : t ≠ e) : K ∉ v.ownBlock.toList := by
  intro hx
  obtain ⟨-, cur, hc⟩ := own_elem h (show v.ownBlock = some K by simpa using hx)
  rw [hc] at hK
  cases hK
  exact ht rfl
/-- what Add leaves behind i ops. -/
structure AddR (w wr : World) (K o lo : Nat) (cs : Array Value) (v : Value) (ss : List OpS) (cs' : Array Value) (v' : Value) (xs' : List Value) : Prop where
  blk : SchB wr K cs'
  at_ : cs'[o]? = some v'
  rest : ∀ j, j ≠ o → cs'[j]? = cs[j]?
  own : wr.ownsRow lo 33 5 v' ss.length xs'
  ops : OpsL wr lo ss xs'
  chg : Chg (K :: v.ownBlock.toList) w wr
  new : ∀ g, v'.ownBlock = some g → v.ownBlock = some g ∨ w.heap.size ≤ g
theorem AddR.step {w wr w5 w6 wa w7 : World} {K o lo j n g7 c7 : Nat} {cs cs' : Array Value} {v : Value} {old ss : List OpS} {pv' : Option Addr} {cv' : Nat} {xs' u' : List Value} (hr : AddR w wr K o lo cs v (old ++ ss.take j) cs' (.slice pv' n cv') xs') (hlt : j < ss.length) (hnn : n = old.length + j) (hnl : (old ++ ss.take j).length = old.length + j)
    (hav : ∀ x ∈ K :: v.ownBlock.toList, x < w.heap.size → ∀ cs t fr, w.heap[x]? = some (.cells cs t fr) → t ≠ 37 ∧ t ≠ 5) (kB : Chg [] wr w5) (k6 : Chg [] w5.drew w6) (hu6 : OpV w6 w5.drew.heap.size ss[j] u') (kA : Chg [] w6 wa) (o7 : w7.ownsRow lo 33 5 (.slice (some ⟨g7, 0, none⟩) (n + 1) c7) (n + 1) (xs' ++ u')) (k7 : Chg (Value.slice pv' n cv').ownBlock.toList wa w7) (n7 : (Value.slice pv' n cv').ownBlock = some g7 ∨ g7 = wa.heap.size) (B7 : SchB w7 K cs') (hlo : lo ≤ w.heap.size) :
    AddR w (w7.setCell ⟨K, o, none⟩ (.slice (some ⟨g7, 0, none⟩) (n + 1) c7)) K o lo cs v (old ++ ss.take (j + 1)) (cs'.setIfInBounds o (.slice (some ⟨g7, 0, none⟩) (n + 1) c7)) (.slice (some ⟨g7, 0, none⟩) (n + 1) c7) (xs' ++ u') := by
  have e1 : old ++ ss.take (j + 1) = (old ++ ss.take j) ++ [ss[j]] := by rw [List.take_succ_eq_append_getElem hlt, List.append_assoc]
  have kS : Chg [K] w7 (w7.setCell ⟨K, o, none⟩ (.slice (some ⟨g7, 0, none⟩) (n + 1) c7)) := Chg.set _ _ _ _
  have hsz := hr.chg.size
  have kra : Chg [] wr wa := (kB.drew.then k6).then kA
  have hown6 : wa.ownsRow lo 33 5 (.slice pv' n cv') n xs' := by
    have := hr.own
    rw [hnl, ← hnn] at this
    exact own_keep this kra.below0
  have hrow : ∀ x ∈ (Value.slice pv' n cv').ownBlock.toList, x < wa.heap.size → ∀ cs t fr, wa.heap[x]? = some (.cells cs t fr) → t ≠ 37 ∧ t ≠ 5 := by
    intro x hx _ cs2 t fr hh
    obtain ⟨-, cur, hc⟩ := own_elem hown6 (show (Value.slice pv' n cv').ownBlock = some x by simpa using hx)
    rw [hc] at hh
    cases hh
    exact ⟨by decide, by decide⟩
  have hKr : ∀ x ∈ [K], x < w7.heap.size → ∀ cs t fr, w7.heap[x]? = some (.cells cs t fr) → t ≠ 37 ∧ t ≠ 5 := by
    intro x hx _ cs2 t fr hh
    rw [List.mem_singleton] at hx
    subst hx
    rw [show w7.heap[x]? = _ from B7] at hh
    cases hh
    exact ⟨by decide, by decide⟩
  have hot : o < cs'.size := (Array.getElem?_eq_some_iff.1 hr.at_).1
  have hra : wr.heap.size ≤ w5.drew.heap.size := kB.size
  refine ⟨heap_set B7 o _ rfl, by rw [Array.getElem?_setIfInBounds_self_of_lt hot], fun i hi => by rw [Array.getElem?_setIfInBounds_ne (Ne.symm hi)]; exact hr.rest i hi, ?_, ?_, ?_, ?_⟩
  · rw [e1, List.length_append, hnl, ← hnn]
    refine own_chgB o7 kS (fun g hg => ?_)
    intro hm
    rw [List.mem_singleton] at hm
    subst hm
    obtain ⟨-, cur, hc⟩ := own_elem o7 hg
    rw [show w7.heap[g]? = _ from B7] at hc
    cases hc
  · rw [e1]
    refine OpsL.snoc ((((hr.ops.keepT kra (fun x hx => by cases hx)).keepT k7 hrow).keepT kS hKr)) ((((hu6.low (by omega)).keepT kA (fun x hx => by cases hx)).keepT k7 hrow).keepT kS hKr)
  · refine ((hr.chg.trans kra (fun x hx => by cases hx)).trans k7 (fun x hx hlt => ?_)).trans kS (fun x hx _ => by simp at hx; simp [hx])
    rcases hr.new x (by simpa using hx) with h | h
    · simp [h]
    · omega
  · intro g hg
    cases hg
    rcases n7 with h | h
    · exact hr.new _ h
    · right
      show w.heap.size ≤ g7
      have := kra.size
      omega
set_option maxRecDepth 100000 in
set_option maxHeartbeats 4000000 in
theorem sadd_ok (w : World) {K P E c lo : Nat} {a : Int} {cs : Array Value} {v : Value} {old ss : List OpS} {xs : List Value} (h : SchB w K cs) (h1 : cs[1]? = some (.pointer (some ⟨P, 0, none⟩))) (ha : 1 ≤ a ∧ a ≤ 8) (hv : cs[cli a]? = some v)
    (ho : w.ownsRow lo 33 5 v old.length xs) (hold : OpsL w lo old xs) (hlo : lo ≤ w.heap.size) (hE : OpsG w E ss) (hne : v.ownBlock ≠ some E) (hn : old.length + ss.length ≤ 200) :
    Calls Tryz.prog 8 #[.pointer (some ⟨K, 0, none⟩), .int .i64 a, .slice (some ⟨E, 0, none⟩) ss.length c] w fun e w' => e = .returned (.int .i64 0) ∧ ∃ cs' v' xs', AddR w w' K (cli a) lo cs v (old ++ ss) cs' v' xs' := by
  have HC := Lib.hid (client_in w h h1 ha)
  obtain ⟨pv, cv, rfl, hcv⟩ := own_form ho
  have c0 : w.cell? ⟨K, cli a, none⟩ = some (.slice pv old.length cv) := cell_is h _ hv
  have hR : AddR w w K (cli a) lo cs (.slice pv old.length cv) (old ++ ss.take 0) cs (.slice pv old.length cv) xs := ⟨h, hv, fun _ _ => rfl, by simpa using ho, by simpa using hold, Chg.refl _ _, fun g hg => Or.inl hg⟩
  have n1 : decide ((200 : Int) - (old.length : Int) < (ss.length : Int)) = false := decide_eq_false (by omega)
  have hw1 : IntKind.i64.wrap ((200 : Int) - (old.length : Int)) = (200 : Int) - (old.length : Int) := by rw [IntKind.wrap_i64]; omega
  have hav : ∀ x ∈ K :: (Value.slice pv old.length cv).ownBlock.toList, x < w.heap.size → ∀ cs t fr, w.heap[x]? = some (.cells cs t fr) → t ≠ 37 ∧ t ≠ 5 := by
    intro x hx _ cs2 t fr hh
    rcases List.mem_cons.1 hx with rfl | hx
    · rw [show w.heap[x]? = _ from h] at hh
      cases hh
      exact ⟨by decide, by decide⟩
    · obtain ⟨-, cur, hc⟩ := own_elem ho (show (Value.slice pv old.length cv).ownBlock = some x by simpa using hx)
      rw [hc] at hh
      cases hh
      exact ⟨by decide, by decide⟩
  have hEn : E ∉ K :: (Value.slice pv old.length cv).ownBlock.toList := by
    intro hx
    rcases List.mem_cons.1 hx with e | hx
    · obtain ⟨⟨eb, h3⟩, -⟩ := hE
      exact heap_ne h3 h (by simp) e
    · exact hne (by simpa using hx)
  have HAv := Lib.hid (And.intro hav hEn)
  have HE := Lib.hid hE
  have HR := Lib.hid hR
  generalize cli a = o at *
  clear h h1 hv ho hold hE ha hR hav hEn
  go_enter Tryz.func8, Tryz.ntmps8
  go_wp2_with fail
  refine HC.out.mono ?_
  rintro e w1 ⟨rfl, rfl⟩
  go_wp2_with fail
  go_loopw [9, 28] (fun _ i wr => ∃ j : Nat, i = .int .i64 (j : Int) ∧ j ≤ ss.length ∧ ∃ cs' v' xs', AddR w wr K o lo cs (.slice pv old.length cv) (old ++ ss.take j) cs' v' xs') (fun _ i _ => ss.length - (intOf i).toNat)
  case atStart => exact ⟨0, rfl, Nat.zero_le _, _, _, _, HR.out⟩
  case round =>
    obtain ⟨j, rfl, hj, cs', v', xs', hr⟩ := hrel
    by_cases hlt : j < ss.length
    · have n2 : decide ((j : Int) < (ss.length : Int)) = true := decide_eq_true (by omega)
      have hEr : OpsG wr E ss := HE.out.keepT hr.chg HAv.out.2 HAv.out.1
      obtain ⟨u, hu, hcell⟩ := hEr.2 j ss[j] (List.getElem?_eq_getElem hlt)
      have hu0 := hu
      obtain ⟨pu, rfl, hu2⟩ := hu
      obtain ⟨pp, pn, pc, rfl⟩ : ∃ pp pn pc, pu = .slice pp pn pc := by
        rcases hu2 with ⟨-, rfl⟩ | ⟨_, _, _, _, _, _, _, -, rfl, -⟩ <;> exact ⟨_, _, _, rfl⟩
      have a0 : wr.cell? ⟨E, j * 5, none⟩ = some (.int .i64 ss[j].k) := by rw [Nat.mul_comm]; exact hcell 0 _ rfl
      have a1 : wr.cell? ⟨E, j * 5 + 1, none⟩ = some (.int .i64 ss[j].h) := by rw [Nat.mul_comm]; exact hcell 1 _ rfl
      have a2 : wr.cell? ⟨E, j * 5 + 2, none⟩ = some (.int .i64 ss[j].a) := by rw [Nat.mul_comm]; exact hcell 2 _ rfl
      have a3 : wr.cell? ⟨E, j * 5 + 3, none⟩ = some (.int .i64 ss[j].l) := by rw [Nat.mul_comm]; exact hcell 3 _ rfl
      have a4 : wr.cell? ⟨E, j * 5 + 4, none⟩ = some (.slice pp pn pc) := by rw [Nat.mul_comm]; exact hcell 4 _ rfl
      have yB := heap_new wr (.cells #[.int .i64 0, .int .i64 0, .int .i64 0, .int .i64 0, .slice none 0 0] 33)
      have kB : Chg [] wr (wr.alloc (.cells #[.int .i64 0, .int .i64 0, .int .i64 0, .int .i64 0, .slice none 0 0] 33)) := Chg.alloc wr _
      have d0 := cell_is yB 0 rfl
      have d1 := cell_is yB 1 rfl
      have d2 := cell_is yB 2 rfl
      have d3 := cell_is yB 3 rfl
      have d4 := cell_is yB 4 rfl
      have e0 := unfrozen yB 0
      have e1 := unfrozen yB 1
      have e2 := unfrozen yB 2
      have e3 := unfrozen yB 3
      have e4 := unfrozen yB 4
      clear hu2 hcell hEr
      go_wp2_with fail
      clear d0 d1 d2 d3 d4 e0 e1 e2 e3 e4 yB kB
      have yB := heap_new wr (.cells #[.int .i64 ss[j].k, .int .i64 ss[j].h, .int .i64 ss[j].a, .int .i64 ss[j].l, .slice pp pn pc] 33)
      have kB : Chg [] wr (wr.alloc (.cells #[.int .i64 ss[j].k, .int .i64 ss[j].h, .int .i64 ss[j].a, .int .i64 ss[j].l, .slice pp pn pc] 33)) := Chg.alloc wr _
      generalize wr.alloc (.cells #[.int .i64 ss[j].k, .int .i64 ss[j].h, .int .i64 ss[j].a, .int .i64 ss[j].l, .slice pp pn pc] 33) = w5 at *
      generalize hBz : wr.heap.size = B at *
      have kd : Chg [] w5 w5.drew := (Chg.refl [] w5).drew
      have hnl : (old ++ ss.take j).length = old.length + j := by simp; omega
      have hown := hr.own
      rw [hnl] at hown
      obtain ⟨n, hnn⟩ : ∃ n, n = old.length + j := ⟨_, rfl⟩
      rw [← hnn] at hown
      obtain ⟨pv', cv', rfl, hcv'⟩ := own_form hown
      have hn200 : n ≤ 199 := by omega
      have HN := Lib.hid (And.intro hnn hnl)
      clear hnn hnl
      have s0 : w5.cell? ⟨K, o, none⟩ = some (.slice pv' n cv') := kB.cell (cell_is hr.blk o hr.at_) (by simp)
      have s0d : w5.drew.cell? ⟨K, o, none⟩ = some (.slice pv' n cv') := s0
      have b0 : w5.cell? ⟨B, 0, none⟩ = some (.int .i64 ss[j].k) := cell_is yB 0 rfl
      have b1 : w5.cell? ⟨B, 1, none⟩ = some (.int .i64 ss[j].h) := cell_is yB 1 rfl
      have b2 : w5.cell? ⟨B, 2, none⟩ = some (.int .i64 ss[j].a) := cell_is yB 2 rfl
      have b3 : w5.cell? ⟨B, 3, none⟩ = some (.int .i64 ss[j].l) := cell_is yB 3 rfl
      have b4 : w5.cell? ⟨B, 4, none⟩ = some (.slice pp pn pc) := cell_is yB 4 rfl
      have b0d : w5.drew.cell? ⟨B, 0, none⟩ = some (.int .i64 ss[j].k) := b0
      have b1d : w5.drew.cell? ⟨B, 1, none⟩ = some (.int .i64 ss[j].h) := b1
      have b2d : w5.drew.cell? ⟨B, 2, none⟩ = some (.int .i64 ss[j].a) := b2
      have b3d : w5.drew.cell? ⟨B, 3, none⟩ = some (.int .i64 ss[j].l) := b3
      have b4d : w5.drew.cell? ⟨B, 4, none⟩ = some (.slice pp pn pc) := b4
      have HW := Lib.hid (own_any w5.drew (hu0.keepT (kB.drew) (fun x hx => by cases hx)))
      go_region_law
        (first
          | (go_simp; go_at_call 20; refine HW.out.mono ?_; rintro e w6 ⟨u', rfl, k6, hu6⟩; obtain ⟨qp, qn, qc, rfl⟩ := hu6.form; have s6 := k6.cell s0d (by simp); have kA : Chg [] w6 (w6.alloc (.cells #[.int .i64 ss[j].k, .int .i64 ss[j].h, .int .i64 ss[j].a, .int .i64 ss[j].l, .slice qp qn qc] 33)) := Chg.alloc w6 _; have y6 := heap_new w6 (.cells #[.int .i64 ss[j].k, .int .i64 ss[j].h, .int .i64 ss[j].a, .int .i64 ss[j].l, .slice qp qn qc] 33); have s7 := kA.cell s6 (by simp); have hb7 : lo ≤ (w6.alloc (.cells #[.int .i64 ss[j].k, .int .i64 ss[j].h, .int .i64 ss[j].a, .int .i64 ss[j].l, .slice qp qn qc] 33)).heap.size := (by have := ((hr.chg.size)); have := ((kB.drew.then k6).then kA).size; omega))
          | (refine step_append_op rfl (.tmp 36) (.tmp 39) rfl lo w6.heap.size 1 n (.slice pv' n cv') _ _ _ _ _ xs' rfl (own_keep hown ((kB.drew.then k6).then kA).below0) hb7 (by omega) rfl y6 ⟨rfl, rfl, rfl, rfl, rfl⟩ ?_; intro g7 c7 w7 o7 k7 n7; have B7 : SchB w7 K cs' := k7.heap (kA.heap (k6.heap (kB.drew.heap hr.blk (by simp)) (by simp)) (by simp)) (own_not (own_keep hown ((kB.drew.then k6).then kA).below0) (kA.heap (k6.heap (kB.drew.heap hr.blk (by simp)) (by simp)) (by simp)) (by decide)); have s8 := cell_is B7 o hr.at_; have f8 := unfrozen B7 o))
      all_goals
        have hF := AddR.step hr hlt HN.out.1 HN.out.2 (HAv.out.1) kB k6 hu6 kA o7 k7 n7 B7 hlo
        have HF := Lib.hid hF
        have n5 : IntKind.i64.wrap ((j : Int) + 1) = ((j + 1 : Nat) : Int) := by rw [IntKind.wrap_i64]; push_cast; omega
        clear hF o7 k7 n7 B7 s8 f8 kA k6 hu6 y6 s6 s7 hb7 b0 b1 b2 b3 b4 b0d b1d b2d b3d b4d s0 s0d yB
        go_wp2_with fail
        go_roundw
        case rel => exact ⟨j + 1, rfl, hlt, _, _, _, HF.out⟩
        case measure => simp [intOf]; omega
    · have n2 : decide ((j : Int) < (ss.length : Int)) = false := decide_eq_false (by omega)
      have hje : j = ss.length := by omega
      subst hje
      rw [List.take_length] at hr
      have HF := Lib.hid hr
      clear hr
      go_wp2_with fail
      go_ret
      exact ⟨rfl, _, _, _, HF.out⟩
end Go.Proofs.YtliicpedddcfiaaGreat
namespace Go.Proofs.YtliicpedddcfiaaGreat
open Go.RowKit Go.Lib

/-- v is a row of n elements, somewhere in its block. -/
def RowO (w : World) (base e size : Nat) (v : Value) (n : Nat) (xs : List Value) : Prop :=
  xs.length = n * size ∧ ((v = .slice none 0 0 ∧ n = 0) ∨
    ∃ g o cap cur, v = .slice (some ⟨g, o, none⟩) n cap ∧ base ≤ g ∧ w.heap[g]? = some (.cells cur e (0, 0)) ∧ n ≤ cap ∧ cap ≤ maxLen ∧ o + cap * size ≤ cur.size ∧ ∀ j, j < n * size → cur[o + j]? = xs[j]?)
theorem RowO.of_own {w : World} {base e size n : Nat} {v : Value} {xs : List Value} (h : w.ownsRow base e size v n xs) : RowO w base e size v n xs := by
  refine ⟨h.1, ?_⟩
  rcases h.2 with h | ⟨g, cap, cur, h1, h2, h3, h4, h5, h6, h7⟩
  · exact Or.inl h
  · refine Or.inr ⟨g, 0, cap, cur, h1, h2, h3, h4, h5, by omega, fun j hj => ?_⟩
    rw [← h7, List.getElem?_take_of_lt hj, Array.getElem?_toList, Nat.zero_add]
theorem RowO.form {w : World} {base e size n : Nat} {v : Value} {xs : List Value} (h : RowO w base e size v n xs) : ∃ pa c, v = .slice pa n c ∧ n ≤ c := by
  rcases h.2 with ⟨rfl, rfl⟩ | ⟨g, o, cap, cur, rfl, _, _, hc, _⟩
  · exact ⟨none, 0, rfl, Nat.le_refl _⟩
  · exact ⟨_, cap, rfl, hc⟩
theorem RowO.elem {w : World} {base e size n g : Nat} {v : Value} {xs : List Value} (h : RowO w base e size v n xs) (hg : v.ownBlock = some g) : base ≤ g ∧ ∃ cur, w.heap[g]? = some (.cells cur e (0, 0)) := by
  rcases h.2 with ⟨rfl, _⟩ | ⟨g', o, cap, cur, rfl, hb, hh, _⟩
  · cases hg
  · obtain rfl : g' = g := by injection hg
    exact ⟨hb, _, hh⟩
theorem RowO.chgB {w w' : World} {S : List Nat} {base e size n : Nat} {v : Value} {xs : List Value} (h : RowO w base e size v n xs) (hc : Chg S w w') (hS : ∀ g, v.ownBlock = some g → g ∉ S) : RowO w' base e size v n xs := by
  refine ⟨h.1, ?_⟩
  rcases h.2 with ⟨e, h0⟩ | ⟨g, o, cap, cur, e, hA, hg, h3⟩
  · exact Or.inl ⟨e, h0⟩
  · exact Or.inr ⟨g, o, cap, cur, e, hA, hc.heap hg (hS g (by rw [e]; rfl)), h3⟩
theorem RowO.keep0 {w w' : World} {base e size n : Nat} {v : Value} {xs : List Value} (h : RowO w base e size v n xs) (hc : Chg [] w w') : RowO w' base e size v n xs := h.chgB hc (fun _ _ hm => by cases hm)
theorem RowO.not {w : World} {base e size n K t : Nat} {v : Value} {xs : List Value} {cs : Array Value} (h : RowO w base e size v n xs) (hK : w.heap[K]? = some (.cells cs t (0, 0))) (ht : t ≠ e) : K ∉ v.ownBlock.toList := by
  intro hx
  obtain ⟨-, cur, hc⟩ := h.elem (show v.ownBlock = some K by simpa using hx)
  rw [hc] at hK
  cases hK
  exact ht rfl
theorem RowO.av {w : World} {base e size n : Nat} {v : Value} {xs : List Value} (h : RowO w base e size v n xs) : ∀ x ∈ v.ownBlock.toList, base ≤ x ∧ ∀ cs t fr, w.heap[x]? = some (.cells cs t fr) → t = e := fun x hx => by
  obtain ⟨h1, cur, hc⟩ := h.elem (show v.ownBlock = some x by simpa using hx)
  refine ⟨h1, fun cs t fr hh => ?_⟩
  rw [hc] at hh
  cases hh
  rfl
/-- the first cells of a row, where its elements lie. -/
theorem RowO.at_ {w : World} {base e size n : Nat} {v : Value} {xs : List Value} (h : RowO w base e size v n xs) (hn : 0 < n) : ∃ g o c, v = .slice (some ⟨g, o, none⟩) n c ∧ n ≤ c ∧ base ≤ g ∧ (∃ cur, w.heap[g]? = some (.cells cur e (0, 0))) ∧ ∀ j u, xs[j]? = some u → w.cell? ⟨g, o + j, none⟩ = some u := by
  rcases h.2 with ⟨rfl, h0⟩ | ⟨g, o, cap, cur, rfl, hb, hh, hc, _, _, hx⟩
  · omega
  · refine ⟨g, o, cap, rfl, hc, hb, ⟨cur, hh⟩, fun j u hu => cell_is hh _ ?_⟩
    have hj := (List.getElem?_eq_some_iff.1 hu).1
    rw [h.1] at hj
    rw [hx j hj]; exact hu
theorem setCells_block (w : World) (g e : Nat) (vs : List Value) : ∀ (o : Nat) (cur : Array Value), w.heap[g]? = some (.cells cur e (0, 0)) → ∃ cur', (w.setCells g o vs).heap[g]? = some (.cells cur' e (0, 0)) ∧ cur'.size = cur.size := by
  induction vs generalizing w with
  | nil => intro o cur h; exact ⟨cur, h, rfl⟩
  | cons v vs ih =>
    intro o cur h
    obtain ⟨cur', h1, h2⟩ := ih (w.setCell ⟨g, o, none⟩ v) (o + 1) _ (heap_set h o v rfl)
    exact ⟨cur', h1, by rw [h2, Array.size_setIfInBounds]⟩
theorem setCells_chg (w : World) (g : Nat) (vs : List Value) : ∀ o : Nat, Chg [g] w (w.setCells g o vs) := by
  induction vs generalizing w with
  | nil => intro o; exact Chg.refl _ _
  | cons v vs ih => intro o; exact (Chg.set w g o v).then (ih _ (o + 1))
/-- append onto such a row. -/
theorem run_append_rowO {P : Program} (w : World) (t ty : TypeId) (base : Nat) (e : TypeId) (i : TypeInfo) (z : Value) (size bytes : Nat) (ht : P.underlying t = some (.slice e)) (hi : P.info? e = some i) (hz : i.zero = some z)
    (hsize : i.size = size) (hby : i.bytes = bytes) (hzs : z.cells.size = size) (hsz : 0 < size)
    (v : Value) (n : Nat) (xs : List Value) (hown : RowO w base e size v n xs)
    (ad : Addr) (m c : Nat) (news : List Value) (hl : news.length = m * size) (hnews : ∀ j u, news[j]? = some u → w.cell? (ad.add j) = some u) (h1 : ∀ u ∈ news, u.oneCell' = true)
    (hm : 0 < m) (h63 : n + m ≤ maxLen) (hbytes : (n + m) * bytes ≤ 140737488355328) (hbase : base ≤ w.heap.size) :
    ∃ g o cap w', (Builtin.append_ #[t, t] ty #[v, .slice (some ad) m c]).run P w = .ok (.slice (some ⟨g, o, none⟩) (n + m) cap) w' ∧
      RowO w' base e size (.slice (some ⟨g, o, none⟩) (n + m) cap) (n + m) (xs ++ news) ∧ Chg v.ownBlock.toList w w' ∧ (v.ownBlock = some g ∨ g = w.heap.size) := by
  rcases hown.2 with ⟨rfl, rfl⟩ | ⟨g, o, cap, cur, rfl, hb, hg, hc, hmax, hcs, hx⟩
  · have hx : xs = [] := List.eq_nil_of_length_eq_zero (by simpa using hown.1)
    subst hx
    obtain ⟨g, cap, w', hr, h2, h3, h4, -⟩ := run_append_lies (P := P) w t ty base e i z size bytes ht hi hz hsize hby hzs hsz (.slice none 0 0) 0 [] (World.ownsRow_nil _ _ _ _) ad m c news hl hnews h1 hm h63 hbytes hbase _ rfl
    exact ⟨g, 0, cap, w', hr, RowO.of_own h2, Chg.of_grownO h3, h4⟩
  · subst hsize
    subst hby
    have hs : Src P i.size t (.slice (some ad) m c) m news w := Src.ofSlice w ht ad m c news hl hnews h1
    have hlen : (xs ++ news).length = (n + m) * i.size := by rw [List.length_append, hown.1, hl, Nat.add_mul]
    by_cases hroom : n + m ≤ cap
    · have hmul : (n + m) * i.size ≤ cap * i.size := Nat.mul_le_mul_right _ hroom
      rw [Nat.add_mul, ← hl] at hmul
      have hcell : ∀ j, j < cur.size → (w.cell? ⟨g, j, none⟩).isSome = true := fun j hj => by rw [cell_is hg j (Array.getElem?_eq_getElem hj)]; rfl
      have hsome : ∀ j, j < news.length → (w.cell? ⟨g, o + n * i.size + j, none⟩).isSome = true := fun j hj => hcell _ (by omega)
      have hr := run_append_room_src (P := P) w t t ty e i ht hi g o n cap (.slice (some ad) m c) m news hs hroom hsome (fun j _ => unfrozen hg _)
      obtain ⟨cur', hg', hsz'⟩ := setCells_block w g e news (o + n * i.size) cur hg
      refine ⟨g, o, cap, _, hr, ⟨hlen, Or.inr ⟨g, o, cap, cur', rfl, hb, hg', hroom, hmax, by omega, fun j hj => ?_⟩⟩, setCells_chg w g news _, Or.inl rfl⟩
      rw [← cell_of_row _ g (o + j) cur' e (0, 0) hg']
      rw [Nat.add_mul, ← hl] at hj
      by_cases hjn : j < n * i.size
      · rw [World.cell?_setCells_out g news _ w ⟨g, o + j, none⟩ (fun _ _ => Or.inl (by show o + j < o + n * i.size; omega)), cell_of_row _ g (o + j) cur e (0, 0) hg, hx j hjn, List.getElem?_append_left (by rw [hown.1]; exact hjn)]
      · have hj' : j - n * i.size < news.length := by omega
        have := World.cell?_setCells_in g news (o + n * i.size) w hsome (j - n * i.size) hj'
        rw [show o + n * i.size + (j - n * i.size) = o + j by omega] at this
        rw [this, List.getElem?_append_right (by rw [hown.1]; omega), hown.1, List.getElem?_eq_getElem hj']
    · have hold : (Builtin.firstCells i.size n (.slice (some ⟨g, o, none⟩) n cap)).run P w.drew = .ok xs.toArray w.drew := by
        refine run_firstCells_some w.drew i.size n ⟨g, o, none⟩ n cap xs hown.1 (fun j u hu => ?_)
        rw [Addr.add_lit]
        have hj := (List.getElem?_eq_some_iff.1 hu).1
        rw [hown.1] at hj
        have : w.cell? ⟨g, o + j, none⟩ = some u := cell_is hg _ (by rw [hx j hj]; exact hu)
        exact this
      have hr := run_append_grow_src (P := P) w t t ty e i z ht hi hz (some ⟨g, o, none⟩) n cap xs hold (.slice (some ad) m c) m news hs (by omega) (by simp only [maxLen] at h63; omega) (growslice_fits (by omega) hbytes)
      have hge := grownCap_ge w (n + m) cap e
      have hcm := grownCap_le_maxLen w (n + m) cap e h63
      have hk : Chg (Value.slice (some ⟨g, o, none⟩) n cap).ownBlock.toList w (w.drew.alloc (.cells ((xs ++ news).toArray ++ Builtin.zeroCells z.cells (grownCap w (n + m) cap e - (n + m))) e)) := (Chg.refl _ w).drew.then (Chg.alloc _ _)
      have hnew : (w.drew.alloc (.cells ((xs ++ news).toArray ++ Builtin.zeroCells z.cells (grownCap w (n + m) cap e - (n + m))) e)).heap[w.heap.size]? = _ := heap_new w.drew _
      refine ⟨_, 0, _, _, hr, ⟨hlen, Or.inr ⟨w.heap.size, 0, _, _, rfl, hbase, hnew, hge, hcm, ?_, fun j hj => ?_⟩⟩, hk, Or.inr rfl⟩
      · rw [Array.size_append, List.size_toArray, hlen, size_zeroCells, hzs, ← Nat.add_mul, Nat.zero_add]
        exact Nat.mul_le_mul_right _ (by omega)
      · rw [Nat.zero_add, Array.getElem?_append_left (by rw [List.size_toArray, hlen]; exact hj), List.getElem?_toArray]
/-- the law as a step of a region that draws, for an op. -/
theorem step_append_opO {ops : Array Oper} {o : Oper} {a : Act} {w : World} {K : Act → World → Prop} {E : Prop} (hgd : o.guard = none) (s x : Operand)
    (ho : o.op = .call { callee := .builtin .append, args := #[s, x], argTypes := #[65, 65] }) (base b c n : Nat) (v u0 u1 u2 u3 u4 : Value) (xs : List Value) (hs : a.eval s = v) (hown : RowO w base 33 5 v n xs) (hbase : base ≤ w.heap.size) (hn : n ≤ 1000)
    (hx : a.eval x = .slice (some ⟨b, 0, none⟩) 1 c) (hb : w.heap[b]? = some (.cells #[u0, u1, u2, u3, u4] 33 (0, 0))) (h1 : u0.oneCell' = true ∧ u1.oneCell' = true ∧ u2.oneCell' = true ∧ u3.oneCell' = true ∧ u4.oneCell' = true)
    {Q : Exit → Act → World → Prop} (h : ∀ g o2 cap w', RowO w' base 33 5 (.slice (some ⟨g, o2, none⟩) (n + 1) cap) (n + 1) (xs ++ [u0, u1, u2, u3, u4]) → Chg v.ownBlock.toList w w' → (v.ownBlock = some g ∨ g = w.heap.size) → K (a.put o.dst (.slice (some ⟨g, o2, none⟩) (n + 1) cap)) w') :
    if Region.wanted o (yielded ops a.tmps) = true then Oper.wp Tryz.prog o a w K Q else E := by
  obtain ⟨i, hi0, hz, hz1, hz2⟩ := info_parts inf64
  have hw : Region.wanted o (yielded ops a.tmps) = true := by simp [Region.wanted, hgd]
  rw [if_pos hw]
  obtain ⟨g, o2, cap, w', hr, h2, h3, h4⟩ := run_append_rowO (P := Tryz.prog) w 65 o.type base 33 i _ 5 56 ty78 hi0 hz hz1 hz2 rfl (by decide) v n xs hown ⟨b, 0, none⟩ 1 c [u0, u1, u2, u3, u4] rfl (by
    intro j u hu
    rw [show (⟨b, 0, none⟩ : Addr).add j = ⟨b, 0 + j, none⟩ from by unfold Addr.add; split <;> simp_all, Nat.zero_add]
    exact cell_is hb j (by simpa using hu)) (by
    intro u hu
    simp at hu
    obtain ⟨h2, h3, h4, h5, h6⟩ := h1
    rcases hu with rfl | rfl | rfl | rfl | rfl <;> assumption) (by decide) (by unfold maxLen; omega) (by omega) hbase
  unfold Oper.wp execOp
  simp only [ho, resolve, invoke, builtin, Sem.run_bind, Sem.run_pure, Result.andThen_ok, List.map_toArray, List.map_cons, List.map_nil, hs, hx, hr]
  exact h g o2 cap w' h2 h3 h4
end Go.Proofs.YtliicpedddcfiaaGreat
namespace Go.Proofs.YtliicpedddcfiaaGreat
open Go.RowKit Go.Lib

/-- what Add leaves behind i ops. -/
structure AddO (w wr : World) (K o lo : Nat) (cs : Array Value) (v : Value) (ss : List OpS) (cs' : Array Value) (v' : Value) (xs' : List Value) : Prop where
  blk : SchB wr K cs'
  at_ : cs'[o]? = some v'
  rest : ∀ j, j ≠ o → cs'[j]? = cs[j]?
  own : RowO wr lo 33 5 v' ss.length xs'
  ops : OpsL wr lo ss xs'
  chg : Chg (K :: v.ownBlock.toList) w wr
  new : ∀ g, v'.ownBlock = some g → v.ownBlock = some g ∨ w.heap.size ≤ g
theorem AddO.step {w wr w5 w6 wa w7 : World} {K o lo j n g7 q7 c7 : Nat} {cs cs' : Array Value} {v : Value} {old ss : List OpS} {pv' : Option Addr} {cv' : Nat} {xs' u' : List Value} (hr : AddO w wr K o lo cs v (old ++ ss.take j) cs' (.slice pv' n cv') xs') (hlt : j < ss.length) (hnn : n = old.length + j) (hnl : (old ++ ss.take j).length = old.length + j)
    (hav : ∀ x ∈ K :: v.ownBlock.toList, x < w.heap.size → ∀ cs t fr, w.heap[x]? = some (.cells cs t fr) → t ≠ 37 ∧ t ≠ 5) (kB : Chg [] wr w5) (k6 : Chg [] w5.drew w6) (hu6 : OpV w6 w5.drew.heap.size ss[j] u') (kA : Chg [] w6 wa) (o7 : RowO w7 lo 33 5 (.slice (some ⟨g7, q7, none⟩) (n + 1) c7) (n + 1) (xs' ++ u')) (k7 : Chg (Value.slice pv' n cv').ownBlock.toList wa w7) (n7 : (Value.slice pv' n cv').ownBlock = some g7 ∨ g7 = wa.heap.size) (B7 : SchB w7 K cs') (hlo : lo ≤ w.heap.size) :
    AddO w (w7.setCell ⟨K, o, none⟩ (.slice (some ⟨g7, q7, none⟩) (n + 1) c7)) K o lo cs v (old ++ ss.take (j + 1)) (cs'.setIfInBounds o (.slice (some ⟨g7, q7, none⟩) (n + 1) c7)) (.slice (some ⟨g7, q7, none⟩) (n + 1) c7) (xs' ++ u') := by
  have e1 : old ++ ss.take (j + 1) = (old ++ ss.take j) ++ [ss[j]] := by rw [List.take_succ_eq_append_getElem hlt, List.append_assoc]
  have kS : Chg [K] w7 (w7.setCell ⟨K, o, none⟩ (.slice (some ⟨g7, q7, none⟩) (n + 1) c7)) := Chg.set _ _ _ _
  have hsz := hr.chg.size
  have kra : Chg [] wr wa := (kB.drew.then k6).then kA
  have hown6 : RowO wa lo 33 5 (.slice pv' n cv') n xs' := by
    have := hr.own
    rw [hnl, ← hnn] at this
    exact RowO.keep0 this kra
  have hrow : ∀ x ∈ (Value.slice pv' n cv').ownBlock.toList, x < wa.heap.size → ∀ cs t fr, wa.heap[x]? = some (.cells cs t fr) → t ≠ 37 ∧ t ≠ 5 := by
    intro x hx _ cs2 t fr hh
    obtain ⟨-, cur, hc⟩ := RowO.elem hown6 (show (Value.slice pv' n cv').ownBlock = some x by simpa using hx)
    rw [hc] at hh
    cases hh
    exact ⟨by decide, by decide⟩
  have hKr : ∀ x ∈ [K], x < w7.heap.size → ∀ cs t fr, w7.heap[x]? = some (.cells cs t fr) → t ≠ 37 ∧ t ≠ 5 := by
    intro x hx _ cs2 t fr hh
    rw [List.mem_singleton] at hx
    subst hx
    rw [show w7.heap[x]? = _ from B7] at hh
    cases hh
    exact ⟨by decide, by decide⟩
  have hot : o < cs'.size := (Array.getElem?_eq_some_iff.1 hr.at_).1
  have hra : wr.heap.size ≤ w5.drew.heap.size := kB.size
  refine ⟨heap_set B7 o _ rfl, by rw [Array.getElem?_setIfInBounds_self_of_lt hot], fun i hi => by rw [Array.getElem?_setIfInBounds_ne (Ne.symm hi)]; exact hr.rest i hi, ?_, ?_, ?_, ?_⟩
  · rw [e1, List.length_append, hnl, ← hnn]
    refine RowO.chgB o7 kS (fun g hg => ?_)
    intro hm
    rw [List.mem_singleton] at hm
    subst hm
    obtain ⟨-, cur, hc⟩ := RowO.elem o7 hg
    rw [show w7.heap[g]? = _ from B7] at hc
    cases hc
  · rw [e1]
    refine OpsL.snoc ((((hr.ops.keepT kra (fun x hx => by cases hx)).keepT k7 hrow).keepT kS hKr)) ((((hu6.low (by omega)).keepT kA (fun x hx => by cases hx)).keepT k7 hrow).keepT kS hKr)
  · refine ((hr.chg.trans kra (fun x hx => by cases hx)).trans k7 (fun x hx hlt => ?_)).trans kS (fun x hx _ => by simp at hx; simp [hx])
    rcases hr.new x (by simpa using hx) with h | h
    · simp [h]
    · omega
  · intro g hg
    cases hg
    rcases n7 with h | h
    · exact hr.new _ h
    · right
      show w.heap.size ≤ g7
      have := kra.size
      omega
set_option maxRecDepth 100000 in
set_option maxHeartbeats 4000000 in
theorem sadd_o (w : World) {K P E c lo : Nat} {a : Int} {cs : Array Value} {v : Value} {old ss : List OpS} {xs : List Value} (h : SchB w K cs) (h1 : cs[1]? = some (.pointer (some ⟨P, 0, none⟩))) (ha : 1 ≤ a ∧ a ≤ 8) (hv : cs[cli a]? = some v)
    (ho : RowO w lo 33 5 v old.length xs) (hold : OpsL w lo old xs) (hlo : lo ≤ w.heap.size) (hE : OpsG w E ss) (hne : v.ownBlock ≠ some E) (hn : old.length + ss.length ≤ 200) :
    Calls Tryz.prog 8 #[.pointer (some ⟨K, 0, none⟩), .int .i64 a, .slice (some ⟨E, 0, none⟩) ss.length c] w fun e w' => e = .returned (.int .i64 0) ∧ ∃ cs' v' xs', AddO w w' K (cli a) lo cs v (old ++ ss) cs' v' xs' := by
  have HC := Lib.hid (client_in w h h1 ha)
  obtain ⟨pv, cv, rfl, hcv⟩ := RowO.form ho
  have c0 : w.cell? ⟨K, cli a, none⟩ = some (.slice pv old.length cv) := cell_is h _ hv
  have hR : AddO w w K (cli a) lo cs (.slice pv old.length cv) (old ++ ss.take 0) cs (.slice pv old.length cv) xs := ⟨h, hv, fun _ _ => rfl, by simpa using ho, by simpa using hold, Chg.refl _ _, fun g hg => Or.inl hg⟩
  have n1 : decide ((200 : Int) - (old.length : Int) < (ss.length : Int)) = false := decide_eq_false (by omega)
  have hw1 : IntKind.i64.wrap ((200 : Int) - (old.length : Int)) = (200 : Int) - (old.length : Int) := by rw [IntKind.wrap_i64]; omega
  have hav : ∀ x ∈ K :: (Value.slice pv old.length cv).ownBlock.toList, x < w.heap.size → ∀ cs t fr, w.heap[x]? = some (.cells cs t fr) → t ≠ 37 ∧ t ≠ 5 := by
    intro x hx _ cs2 t fr hh
    rcases List.mem_cons.1 hx with rfl | hx
    · rw [show w.heap[x]? = _ from h] at hh
      cases hh
      exact ⟨by decide, by decide⟩
    · obtain ⟨-, cur, hc⟩ := RowO.elem ho (show (Value.slice pv old.length cv).ownBlock = some x by simpa using hx)
      rw [hc] at hh
      cases hh
      exact ⟨by decide, by decide⟩
  have hEn : E ∉ K :: (Value.slice pv old.length cv).ownBlock.toList := by
    intro hx
    rcases List.mem_cons.1 hx with e | hx
    · obtain ⟨⟨eb, h3⟩, -⟩ := hE
      exact heap_ne h3 h (by simp) e
    · exact hne (by simpa using hx)
  have HAv := Lib.hid (And.intro hav hEn)
  have HE := Lib.hid hE
  have HR := Lib.hid hR
  generalize cli a = o at *
  clear h h1 hv ho hold hE ha hR hav hEn
  go_enter Tryz.func8, Tryz.ntmps8
  go_wp2_with fail
  refine HC.out.mono ?_
  rintro e w1 ⟨rfl, rfl⟩
  go_wp2_with fail
  go_loopw [9, 28] (fun _ i wr => ∃ j : Nat, i = .int .i64 (j : Int) ∧ j ≤ ss.length ∧ ∃ cs' v' xs', AddO w wr K o lo cs (.slice pv old.length cv) (old ++ ss.take j) cs' v' xs') (fun _ i _ => ss.length - (intOf i).toNat)
  case atStart => exact ⟨0, rfl, Nat.zero_le _, _, _, _, HR.out⟩
  case round =>
    obtain ⟨j, rfl, hj, cs', v', xs', hr⟩ := hrel
    by_cases hlt : j < ss.length
    · have n2 : decide ((j : Int) < (ss.length : Int)) = true := decide_eq_true (by omega)
      have hEr : OpsG wr E ss := HE.out.keepT hr.chg HAv.out.2 HAv.out.1
      obtain ⟨u, hu, hcell⟩ := hEr.2 j ss[j] (List.getElem?_eq_getElem hlt)
      have hu0 := hu
      obtain ⟨pu, rfl, hu2⟩ := hu
      obtain ⟨pp, pn, pc, rfl⟩ : ∃ pp pn pc, pu = .slice pp pn pc := by
        rcases hu2 with ⟨-, rfl⟩ | ⟨_, _, _, _, _, _, _, -, rfl, -⟩ <;> exact ⟨_, _, _, rfl⟩
      have a0 : wr.cell? ⟨E, j * 5, none⟩ = some (.int .i64 ss[j].k) := by rw [Nat.mul_comm]; exact hcell 0 _ rfl
      have a1 : wr.cell? ⟨E, j * 5 + 1, none⟩ = some (.int .i64 ss[j].h) := by rw [Nat.mul_comm]; exact hcell 1 _ rfl
      have a2 : wr.cell? ⟨E, j * 5 + 2, none⟩ = some (.int .i64 ss[j].a) := by rw [Nat.mul_comm]; exact hcell 2 _ rfl
      have a3 : wr.cell? ⟨E, j * 5 + 3, none⟩ = some (.int .i64 ss[j].l) := by rw [Nat.mul_comm]; exact hcell 3 _ rfl
      have a4 : wr.cell? ⟨E, j * 5 + 4, none⟩ = some (.slice pp pn pc) := by rw [Nat.mul_comm]; exact hcell 4 _ rfl
      have yB := heap_new wr (.cells #[.int .i64 0, .int .i64 0, .int .i64 0, .int .i64 0, .slice none 0 0] 33)
      have kB : Chg [] wr (wr.alloc (.cells #[.int .i64 0, .int .i64 0, .int .i64 0, .int .i64 0, .slice none 0 0] 33)) := Chg.alloc wr _
      have d0 := cell_is yB 0 rfl
      have d1 := cell_is yB 1 rfl
      have d2 := cell_is yB 2 rfl
      have d3 := cell_is yB 3 rfl
      have d4 := cell_is yB 4 rfl
      have e0 := unfrozen yB 0
      have e1 := unfrozen yB 1
      have e2 := unfrozen yB 2
      have e3 := unfrozen yB 3
      have e4 := unfrozen yB 4
      clear hu2 hcell hEr
      go_wp2_with fail
      clear d0 d1 d2 d3 d4 e0 e1 e2 e3 e4 yB kB
      have yB := heap_new wr (.cells #[.int .i64 ss[j].k, .int .i64 ss[j].h, .int .i64 ss[j].a, .int .i64 ss[j].l, .slice pp pn pc] 33)
      have kB : Chg [] wr (wr.alloc (.cells #[.int .i64 ss[j].k, .int .i64 ss[j].h, .int .i64 ss[j].a, .int .i64 ss[j].l, .slice pp pn pc] 33)) := Chg.alloc wr _
      generalize wr.alloc (.cells #[.int .i64 ss[j].k, .int .i64 ss[j].h, .int .i64 ss[j].a, .int .i64 ss[j].l, .slice pp pn pc] 33) = w5 at *
      generalize hBz : wr.heap.size = B at *
      have kd : Chg [] w5 w5.drew := (Chg.refl [] w5).drew
      have hnl : (old ++ ss.take j).length = old.length + j := by simp; omega
      have hown := hr.own
      rw [hnl] at hown
      obtain ⟨n, hnn⟩ : ∃ n, n = old.length + j := ⟨_, rfl⟩
      rw [← hnn] at hown
      obtain ⟨pv', cv', rfl, hcv'⟩ := RowO.form hown
      have hn200 : n ≤ 199 := by omega
      have HN := Lib.hid (And.intro hnn hnl)
      clear hnn hnl
      have s0 : w5.cell? ⟨K, o, none⟩ = some (.slice pv' n cv') := kB.cell (cell_is hr.blk o hr.at_) (by simp)
      have s0d : w5.drew.cell? ⟨K, o, none⟩ = some (.slice pv' n cv') := s0
      have b0 : w5.cell? ⟨B, 0, none⟩ = some (.int .i64 ss[j].k) := cell_is yB 0 rfl
      have b1 : w5.cell? ⟨B, 1, none⟩ = some (.int .i64 ss[j].h) := cell_is yB 1 rfl
      have b2 : w5.cell? ⟨B, 2, none⟩ = some (.int .i64 ss[j].a) := cell_is yB 2 rfl
      have b3 : w5.cell? ⟨B, 3, none⟩ = some (.int .i64 ss[j].l) := cell_is yB 3 rfl
      have b4 : w5.cell? ⟨B, 4, none⟩ = some (.slice pp pn pc) := cell_is yB 4 rfl
      have b0d : w5.drew.cell? ⟨B, 0, none⟩ = some (.int .i64 ss[j].k) := b0
      have b1d : w5.drew.cell? ⟨B, 1, none⟩ = some (.int .i64 ss[j].h) := b1
      have b2d : w5.drew.cell? ⟨B, 2, none⟩ = some (.int .i64 ss[j].a) := b2
      have b3d : w5.drew.cell? ⟨B, 3, none⟩ = some (.int .i64 ss[j].l) := b3
      have b4d : w5.drew.cell? ⟨B, 4, none⟩ = some (.slice pp pn pc) := b4
      have HW := Lib.hid (own_any w5.drew (hu0.keepT (kB.drew) (fun x hx => by cases hx)))
      go_region_law
        (first
          | (go_simp; go_at_call 20; refine HW.out.mono ?_; rintro e w6 ⟨u', rfl, k6, hu6⟩; obtain ⟨qp, qn, qc, rfl⟩ := hu6.form; have s6 := k6.cell s0d (by simp); have kA : Chg [] w6 (w6.alloc (.cells #[.int .i64 ss[j].k, .int .i64 ss[j].h, .int .i64 ss[j].a, .int .i64 ss[j].l, .slice qp qn qc] 33)) := Chg.alloc w6 _; have y6 := heap_new w6 (.cells #[.int .i64 ss[j].k, .int .i64 ss[j].h, .int .i64 ss[j].a, .int .i64 ss[j].l, .slice qp qn qc] 33); have s7 := kA.cell s6 (by simp); have hb7 : lo ≤ (w6.alloc (.cells #[.int .i64 ss[j].k, .int .i64 ss[j].h, .int .i64 ss[j].a, .int .i64 ss[j].l, .slice qp qn qc] 33)).heap.size := (by have := ((hr.chg.size)); have := ((kB.drew.then k6).then kA).size; omega))
          | (refine step_append_opO rfl (.tmp 36) (.tmp 39) rfl lo w6.heap.size 1 n (.slice pv' n cv') _ _ _ _ _ xs' rfl (RowO.keep0 hown ((kB.drew.then k6).then kA)) hb7 (by omega) rfl y6 ⟨rfl, rfl, rfl, rfl, rfl⟩ ?_; intro g7 q7 c7 w7 o7 k7 n7; have B7 : SchB w7 K cs' := k7.heap (kA.heap (k6.heap (kB.drew.heap hr.blk (by simp)) (by simp)) (by simp)) (RowO.not (RowO.keep0 hown ((kB.drew.then k6).then kA)) (kA.heap (k6.heap (kB.drew.heap hr.blk (by simp)) (by simp)) (by simp)) (by decide)); have s8 := cell_is B7 o hr.at_; have f8 := unfrozen B7 o))
      all_goals
        have hF := AddO.step hr hlt HN.out.1 HN.out.2 (HAv.out.1) kB k6 hu6 kA o7 k7 n7 B7 hlo
        have HF := Lib.hid hF
        have n5 : IntKind.i64.wrap ((j : Int) + 1) = ((j + 1 : Nat) : Int) := by rw [IntKind.wrap_i64]; push_cast; omega
        clear hF o7 k7 n7 B7 s8 f8 kA k6 hu6 y6 s6 s7 hb7 b0 b1 b2 b3 b4 b0d b1d b2d b3d b4d s0 s0d yB
        go_wp2_with fail
        go_roundw
        case rel => exact ⟨j + 1, rfl, hlt, _, _, _, HF.out⟩
        case measure => simp [intOf]; omega
    · have n2 : decide ((j : Int) < (ss.length : Int)) = false := decide_eq_false (by omega)
      have hje : j = ss.length := by omega
      subst hje
      rw [List.take_length] at hr
      have HF := Lib.hid hr
      clear hr
      go_wp2_with fail
      go_ret
      exact ⟨rfl, _, _, _, HF.out⟩
end Go.Proofs.YtliicpedddcfiaaGreat
namespace Go.Proofs.YtliicpedddcfiaaGreat
open Go.RowKit Go.Lib

/-- block R is a state: the last time, and a map of blocks. -/
def StateAt (w : World) (R r : Nat) : Prop := w.heap[R]? = some (.cells #[.int .i64 0, .map (some r)] 123 (0, 0)) ∧ MapAt w r []
set_option maxRecDepth 100000 in
theorem parse_nil (w : World) : Calls Tryz.prog 36 #[.slice none 0 0] w fun e w' => ∃ R r, e = .returned (.tuple #[.pointer (some ⟨R, 0, none⟩), .bool true]) ∧ Chg [] w w' ∧ StateAt w' R r ∧ w.heap.size ≤ R ∧ w.heap.size ≤ r := by
  have hm := @run_makeMap Tryz.prog
  have h2 := two_new w (.map #[] 0) (.cells #[.int .i64 0, .map (some w.heap.size)] 123)
  have hc := chg_two w (.map #[] 0) (.cells #[.int .i64 0, .map (some w.heap.size)] 123)
  have HF : Hid (∃ R r, R = w.heap.size + 1 ∧ Chg [] w ((w.alloc (.map #[] 0)).alloc (.cells #[.int .i64 0, .map (some w.heap.size)] 123)) ∧ StateAt ((w.alloc (.map #[] 0)).alloc (.cells #[.int .i64 0, .map (some w.heap.size)] 123)) R r ∧ w.heap.size ≤ R ∧ w.heap.size ≤ r) :=
    Lib.hid ⟨_, w.heap.size, rfl, hc, ⟨h2.2, ⟨#[], 0, h2.1, rfl, MapKept.stamped_empty 0⟩⟩, by omega, Nat.le_refl _⟩
  clear h2 hc
  go_enter Tryz.func36, Tryz.ntmps36
  go_wp2_with fail
  go_ret2
  obtain ⟨R, r, rfl, h1, h2, h3, h4⟩ := HF.out
  exact ⟨_, r, rfl, h1, h2, h3, h4⟩

/-- block P is a store on the device N, with a manager and slots. -/
def StoreAt (w : World) (P N S : Nat) (m : Option Addr) : Prop :=
  w.heap[P]? = some (.cells #[.pointer (some ⟨N, 0, none⟩), .int .i64 0, .int .i64 3, .int .i64 6, .int .i64 7, .pointer m, .pointer (some ⟨S, 0, none⟩), .int .i64 0, .int .i64 0, .bool false] 105 (0, 0))
theorem store_cells {w : World} {P N S : Nat} {m : Option Addr} (h : StoreAt w P N S m) : w.cell? ⟨P, 0, none⟩ = some (.pointer (some ⟨N, 0, none⟩)) ∧ w.cell? ⟨P, 1, none⟩ = some (.int .i64 0) ∧ w.cell? ⟨P, 2, none⟩ = some (.int .i64 3) ∧ w.cell? ⟨P, 3, none⟩ = some (.int .i64 6) ∧
    w.cell? ⟨P, 4, none⟩ = some (.int .i64 7) ∧ w.cell? ⟨P, 5, none⟩ = some (.pointer m) ∧ w.cell? ⟨P, 6, none⟩ = some (.pointer (some ⟨S, 0, none⟩)) ∧ w.cell? ⟨P, 7, none⟩ = some (.int .i64 0) ∧ w.cell? ⟨P, 8, none⟩ = some (.int .i64 0) ∧ w.cell? ⟨P, 9, none⟩ = some (.bool false) :=
  ⟨cell_is h 0 rfl, cell_is h 1 rfl, cell_is h 2 rfl, cell_is h 3 rfl, cell_is h 4 rfl, cell_is h 5 rfl, cell_is h 6 rfl, cell_is h 7 rfl, cell_is h 8 rfl, cell_is h 9 rfl⟩
theorem StoreAt.keep {w w' : World} {T : List Nat} {P N S : Nat} {m : Option Addr} (h : StoreAt w P N S m) (hc : Chg T w w') (hs : P ∉ T) : StoreAt w' P N S m := hc.heap h hs
theorem field_size (w : World) : (Instr.field 28 (.agg #[.int .i64 8, .int .i64 96]) 1).run Tryz.prog w = .ok (.int .i64 96) w := by kernel_rfl
set_option maxRecDepth 100000 in
set_option maxHeartbeats 1000000 in
theorem log_any (w : World) {P N S A c : Nat} {m : Option Addr} {ops : Int} {Z : List Nat} (h : StoreAt w P N S m) (hD : DevAt w N A c ops Z) : Calls Tryz.prog 37 #[.pointer (some ⟨P, 0, none⟩)] w fun e w' => e = .returned (.tuple #[.slice none 0 0, .slice none 0 0]) ∧ Chg [] w w' := by
  obtain ⟨c0, -⟩ := store_cells h
  have hfs := field_size
  go_enter Tryz.func37, Tryz.ntmps37
  go_wp2_with fail
  refine (geometry_any w hD).mono ?_
  rintro e w1 ⟨rfl, hc1⟩
  have hD1 := hD.keep hc1 (by simp) (by simp) (by simp)
  have hS1 := h.keep hc1 (by simp)
  clear c0
  obtain ⟨c0, -, -, c3, c4, -⟩ := store_cells hS1
  have h6 := Lib.hid (pointer_any w1 hD1 6 (by have := hD.2.2.1; omega))
  have h7 := Lib.hid (pointer_any w1 hD1 7 (by have := hD.2.2.1; omega))
  clear hS1 h hD hD1
  go_wp2_with fail
  go_loop [2, 3, 5, 6] (fun a b g z => a = .slice none 0 0 ∧ b = .slice none 0 0 ∧ (∃ x, g = .bool x) ∧ (z = .int .i64 6 ∨ z = .int .i64 7 ∨ z = .int .i64 8)) (fun _ _ _ z => 8 - (intOf z).toNat)
  case atStart => exact ⟨rfl, rfl, ⟨_, rfl⟩, Or.inl rfl⟩
  case round =>
    obtain ⟨rfl, rfl, ⟨x, rfl⟩, rfl | rfl | rfl⟩ := hrel
    · go_wp2_with fail
      go_step3
      go_wp2_with fail
      refine h6.out.mono ?_
      rintro e w2 ⟨rfl, rfl⟩
      go_wp2_with fail
      go_step3
      go_wp2_with fail
      go_loop [2, 3, 42] (fun a b k => a = .slice none 0 0 ∧ b = .slice none 0 0 ∧ k = .int .i64 0) (fun _ _ _ => 0)
      case atStart => exact ⟨rfl, rfl, rfl⟩
      case round =>
        obtain ⟨rfl, rfl, rfl⟩ := hrel
        cases x
        all_goals
          go_wp2_with fail
          exact ⟨⟨rfl, rfl, ⟨_, rfl⟩, by simp⟩, by decide⟩
    · go_wp2_with fail
      go_step3
      go_wp2_with fail
      refine h7.out.mono ?_
      rintro e w2 ⟨rfl, rfl⟩
      go_wp2_with fail
      go_step3
      go_wp2_with fail
      go_loop [2, 3, 42] (fun a b k => a = .slice none 0 0 ∧ b = .slice none 0 0 ∧ k = .int .i64 0) (fun _ _ _ => 0)
      case atStart => exact ⟨rfl, rfl, rfl⟩
      case round =>
        obtain ⟨rfl, rfl, rfl⟩ := hrel
        cases x
        all_goals
          go_wp2_with fail
          exact ⟨⟨rfl, rfl, ⟨_, rfl⟩, by simp⟩, by decide⟩
    · go_wp2_with fail
      go_ret2
      exact ⟨rfl, hc1⟩
set_option maxRecDepth 100000 in
set_option maxHeartbeats 1000000 in
theorem replay_any (w : World) {P N S R : Nat} {m : Option Addr} (h : StoreAt w P N S m) (hS : SlotAt w S N) : Calls Tryz.prog 40 #[.pointer (some ⟨P, 0, none⟩), .pointer (some ⟨R, 0, none⟩), .slice none 0 0] w fun e w' => e = .returned (.bool false) ∧ Chg [] w w' := by
  obtain ⟨-, -, -, -, -, -, c6, -⟩ := store_cells h
  go_enter Tryz.func40, Tryz.ntmps40
  go_wp2_with fail
  go_step3
  go_wp2_with fail
  refine (load_any w hS).mono ?_
  rintro e w1 ⟨rfl, hc1⟩
  have h1 := h.keep hc1 (by simp)
  clear c6
  obtain ⟨-, -, -, -, -, -, -, c7, -⟩ := store_cells h1
  clear h1 h hS
  go_wp2_with fail
  go_step3
  go_wp2_with fail
  go_loop [6] (fun a => a = .bool false) (fun _ => 0)
  case atStart => rfl
  case round =>
    subst hrel
    go_wp2_with fail
    go_ret
    exact ⟨rfl, hc1⟩
end Go.Proofs.YtliicpedddcfiaaGreat
namespace Go.Proofs.YtliicpedddcfiaaGreat
open Go.RowKit Go.Lib

theorem MapAt.none {w : World} {r : Nat} (h : MapAt w r []) : ∃ clock, w.heap[r]? = some (.map #[] clock) := by
  obtain ⟨es, clock, hb, hI, _⟩ := h
  have : es = #[] := by
    have := congrArg List.length hI
    apply Array.eq_empty_of_size_eq_zero
    simpa using this
  subst this
  exact ⟨clock, hb⟩
theorem run_len_im {P : Program} {w : World} {t k e : TypeId} (ht : P.underlying t = some (.map k e)) {r : Nat} {L : List (Int × Value)} (h : MapAt w r L) (ty : TypeId) : (Builtin.len_ #[t] ty #[.map (some r)]).run P w = .ok (.int .i64 L.length) w := by
  obtain ⟨es, clock, hb, hl⟩ := h.len
  simp [Builtin.len_, run_underlying ht, MapKept.run_getObj_map hb, goInt, Result.andThen, hl]
theorem ty178 : Tryz.prog.underlying 182 = some (.map 3 207) := by kernel_rfl
/-- block X is a map of versions of 258 blocks; block rx holds them. -/
def VerAt (w : World) (X rx : Nat) : Prop := w.heap[X]? = some (.cells #[.int .i64 258, .map (some rx), .int .i64 0] 237 (0, 0)) ∧ MapAt w rx []
/-- block B is a book of handles. -/
def BookAt (w : World) (B rb : Nat) (last : Int) (L : List (Int × Value)) : Prop := w.heap[B]? = some (.cells #[.int .i64 16, .int .i64 last, .map (some rb)] 240 (0, 0)) ∧ MapAt w rb L
set_option maxRecDepth 100000 in
theorem xnew_any (w : World) : Calls Tryz.prog 78 #[.int .i64 258] w fun e w' => ∃ X rx, e = .returned (.tuple #[.pointer (some ⟨X, 0, none⟩), .int .i64 0]) ∧ Chg [] w w' ∧ VerAt w' X rx ∧ w.heap.size ≤ X ∧ w.heap.size ≤ rx := by
  have hm := @run_makeMap Tryz.prog
  have h2 := two_new w (.map #[] 0) (.cells #[.int .i64 258, .map (some w.heap.size), .int .i64 0] 237)
  have hc := chg_two w (.map #[] 0) (.cells #[.int .i64 258, .map (some w.heap.size), .int .i64 0] 237)
  have HF := Lib.hid (show ∃ rx, rx = w.heap.size ∧ VerAt ((w.alloc (.map #[] 0)).alloc (.cells #[.int .i64 258, .map (some w.heap.size), .int .i64 0] 237)) (w.heap.size + 1) rx from ⟨_, rfl, h2.2, ⟨#[], 0, h2.1, rfl, MapKept.stamped_empty 0⟩⟩)
  clear h2
  go_enter Tryz.func78, Tryz.ntmps78
  go_wp2_with fail
  go_ret2
  obtain ⟨rx, rfl, h1⟩ := HF.out
  exact ⟨_, _, rfl, hc, h1, by omega, Nat.le_refl _⟩
set_option maxRecDepth 100000 in
theorem hnew_any (w : World) : Calls Tryz.prog 79 #[.int .i64 16] w fun e w' => ∃ B rb, e = .returned (.pointer (some ⟨B, 0, none⟩)) ∧ Chg [] w w' ∧ BookAt w' B rb 0 [] ∧ w.heap.size ≤ B ∧ w.heap.size ≤ rb := by
  have hm := @run_makeMap Tryz.prog
  have h2 := two_new w (.map #[] 0) (.cells #[.int .i64 16, .int .i64 0, .map (some w.heap.size)] 240)
  have hc := chg_two w (.map #[] 0) (.cells #[.int .i64 16, .int .i64 0, .map (some w.heap.size)] 240)
  have HF := Lib.hid (show ∃ rx, rx = w.heap.size ∧ BookAt ((w.alloc (.map #[] 0)).alloc (.cells #[.int .i64 16, .int .i64 0, .map (some w.heap.size)] 240)) (w.heap.size + 1) rx 0 [] from ⟨_, rfl, h2.2, ⟨#[], 0, h2.1, rfl, MapKept.stamped_empty 0⟩⟩)
  clear h2
  go_enter Tryz.func79, Tryz.ntmps79
  go_wp2_with fail
  go_ret
  obtain ⟨rx, rfl, h1⟩ := HF.out
  exact ⟨_, _, rfl, hc, h1, by omega, Nat.le_refl _⟩
/-- block M is a manager: its versions X, its book B, its transactions in map r. -/
def MgrAt (w : World) (M X B r : Nat) : Prop :=
  w.heap[M]? = some (.cells #[.pointer (some ⟨X, 0, none⟩), .pointer (some ⟨B, 0, none⟩), .map (some r), .slice none 0 0, .int .i64 0, .int .i64 0, .int .i64 0, .int .i64 0, .int .i64 0, .bool false] 184 (0, 0))
set_option maxRecDepth 100000 in
theorem tnew_any (w : World) : Calls Tryz.prog 41 #[.int .i64 258, .int .i64 0] w fun e w' => ∃ M X rx B rb r, e = .returned (.tuple #[.pointer (some ⟨M, 0, none⟩), .int .i64 0]) ∧ Chg [] w w' ∧ MgrAt w' M X B r ∧ VerAt w' X rx ∧ BookAt w' B rb 0 [] ∧ MapAt w' r [] ∧
    w.heap.size ≤ M ∧ w.heap.size ≤ X ∧ w.heap.size ≤ rx ∧ w.heap.size ≤ B ∧ w.heap.size ≤ rb ∧ w.heap.size ≤ r ∧ rx ≠ rb ∧ r ≠ rb ∧ r ≠ rx := by
  have hm := @run_makeMap Tryz.prog
  go_enter Tryz.func41, Tryz.ntmps41
  go_wp2_with fail
  refine (xnew_any w).mono ?_
  rintro e w1 ⟨X, rx, rfl, hc1, hX, l1, l2⟩
  go_wp2_with fail
  refine (hnew_any w1).mono ?_
  rintro e w2 ⟨B, rb, rfl, hc2, hB, l3, l4⟩
  have hs1 := hc1.size
  have hs2 := hc2.size
  have hq1 := hX.2.lt
  have hq2 := hB.2.lt
  have hX2 : VerAt w2 X rx := ⟨hc2.heap hX.1 (by simp), hX.2.keep hc2 (by simp)⟩
  have hc := hc1.then hc2
  have h2 := two_new w2 (.map #[] 0) (.cells #[.pointer (some ⟨X, 0, none⟩), .pointer (some ⟨B, 0, none⟩), .map (some w2.heap.size), .slice none 0 0, .int .i64 0, .int .i64 0, .int .i64 0, .int .i64 0, .int .i64 0, .bool false] 184)
  have hc3 := chg_two w2 (.map #[] 0) (.cells #[.pointer (some ⟨X, 0, none⟩), .pointer (some ⟨B, 0, none⟩), .map (some w2.heap.size), .slice none 0 0, .int .i64 0, .int .i64 0, .int .i64 0, .int .i64 0, .int .i64 0, .bool false] 184)
  go_wp2_with fail
  go_ret2
  exact ⟨w2.heap.size + 1, X, rx, B, rb, w2.heap.size, rfl, hc.then hc3, h2.2, ⟨hc3.heap hX2.1 (by simp), hX2.2.keep hc3 (by simp)⟩, ⟨hc3.heap hB.1 (by simp), hB.2.keep hc3 (by simp)⟩, ⟨#[], 0, h2.1, rfl, MapKept.stamped_empty 0⟩, by omega, by omega, by omega, by omega, by omega, by omega, by omega, by omega, by omega⟩
set_option maxRecDepth 100000 in
theorem tgone_any (w : World) {M X B r : Nat} (h : MgrAt w M X B r) : Calls Tryz.prog 80 #[.pointer (some ⟨M, 0, none⟩)] w fun e w' => e = .returned (.bool false) ∧ w = w' := by
  have c0 : w.cell? ⟨M, 0, none⟩ = some (.pointer (some ⟨X, 0, none⟩)) := cell_is h 0 rfl
  clear h
  go_enter Tryz.func80, Tryz.ntmps80
  go_wp2_with fail
  go_ret
  exact ⟨rfl, rfl⟩
set_option maxRecDepth 100000 in
theorem tload_any (w : World) {M X B r : Nat} (h : MgrAt w M X B r) (hr : MapAt w r []) : Calls Tryz.prog 43 #[.pointer (some ⟨M, 0, none⟩), .slice none 0 0] w fun e w' => e = .returned (.int .i64 0) ∧ w = w' := by
  have HG := Lib.hid (tgone_any w h)
  have c2 : w.cell? ⟨M, 2, none⟩ = some (.map (some r)) := cell_is h 2 rfl
  have c6 : w.cell? ⟨M, 6, none⟩ = some (.int .i64 0) := cell_is h 6 rfl
  have hlen : (Builtin.len_ #[182] 3 #[.map (some r)]).run Tryz.prog w = .ok (.int .i64 0) w := run_len_im ty178 hr 3
  clear h hr
  go_enter Tryz.func43, Tryz.ntmps43
  go_wp2_with fail
  refine HG.out.mono ?_
  rintro e w1 ⟨rfl, rfl⟩
  go_wp2_with fail
  go_ret
  exact ⟨rfl, rfl⟩
end Go.Proofs.YtliicpedddcfiaaGreat
