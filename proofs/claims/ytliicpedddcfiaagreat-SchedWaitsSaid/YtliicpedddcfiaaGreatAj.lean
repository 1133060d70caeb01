/- Lemmas and walks: Any client: Qm's walks at its cells. Printed by mkCo.py. Any client: Qn's walks at its cells. Printed by mkCo.py. Any client: Qo's walks at its cells. Printed by mkCo.py. A schedule whose clients are told by a function: what is kept, a client's step that is told, and one that waits. Walks: what waits, of many transactions (txn.waiting). Walks: spans are sorted and joined, told exactly. Walks: a transaction begins beside others. Printed by mkMi.py out of Ua. -/
import Derived.Test.YtliicpedddcfiaaGreatAc
import Derived.Test.YtliicpedddcfiaaGreatAd
import Derived.Test.YtliicpedddcfiaaGreatAe
import Derived.Test.YtliicpedddcfiaaGreatAf
import Derived.Test.YtliicpedddcfiaaGreatAg
import Derived.Test.YtliicpedddcfiaaGreatAh
import Derived.Test.YtliicpedddcfiaaGreatAi
namespace Go.Proofs.YtliicpedddcfiaaGreat.Co
open Go.RowKit Go.Lib

/-- a predicate that is kept while the schedule's block and boxes of answers in A change. -/
structure ClA (A : Nat → Prop) (P : World → Prop) : Prop where
  keep : ∀ a b S, P a → Chg S a b → Tp a S [72, 39] → (∀ x ∈ S, A x) → P b
theorem ClA.box {A : Nat → Prop} {P : World → Prop} (h : ClA A P) {a b : World} {S : List Nat} (hp : P a) (hc : Chg S a b) (ht : Tp a S [39]) (hl : ∀ x ∈ S, A x) : P b :=
  h.keep a b S hp hc (fun x hx => by obtain ⟨cs, t, h1, h2⟩ := ht x hx; exact ⟨cs, t, h1, by simp at h2; simp [h2]⟩) hl
set_option maxRecDepth 100000 in
set_option maxHeartbeats 4000000 in
theorem ccall_c (w : World) {A : Nat → Prop} {oo : Nat} {K Bb : Nat} {P : Array Value → World → Prop} {oh oa ol x0 x1 x2 x3 : Int} {pp : Option Addr} {pn pc : Nat} {fl : Bool} (hA : ∀ x, w.heap.size ≤ x → A x) (hP : ∀ cs, ClA A (P cs))
    (HC : ∀ wx, Chg [] w wx → Calls Tryz.prog 92 #[.pointer (some ⟨K, 0, none⟩), .pointer (some ⟨K, oo, none⟩), .pointer (some ⟨Bb, 0, none⟩), .agg #[.int .i64 4, .int .i64 0, .int .i64 oh, .int .i64 0, .slice none 0 0]] wx (DoR wx K P x0 x1 x2 x3 fl)) :
    Calls Tryz.prog 51 #[.pointer (some ⟨K, 0, none⟩), .pointer (some ⟨K, oo, none⟩), .pointer (some ⟨Bb, 0, none⟩), .agg #[.int .i64 4, .int .i64 oh, .int .i64 oa, .int .i64 ol, .slice pp pn pc], .agg #[.int .i64 4, .int .i64 0, .int .i64 oh, .int .i64 0, .slice none 0 0]] w (DoR w K P x0 x1 x2 x3 fl) := by
  have HAb := Lib.hid hA
  clear hA
  have kk : Chg [] w (((w.alloc (.cells #[.int .i64 4, .int .i64 oh, .int .i64 oa, .int .i64 ol, .slice pp pn pc] 33)).alloc (.cells #[.int .i64 4, .int .i64 0, .int .i64 oh, .int .i64 0, .slice none 0 0] 39)).alloc (.cells #[.int .i64 0, .int .i64 0, .int .i64 0, .int .i64 0, .slice none 0 0] 39)) := ((Chg.alloc w _).then_alloc _).then_alloc _
  obtain ⟨y1, y2, y3⟩ := heap_new3 w (.cells #[.int .i64 4, .int .i64 oh, .int .i64 oa, .int .i64 ol, .slice pp pn pc] 33) (.cells #[.int .i64 4, .int .i64 0, .int .i64 oh, .int .i64 0, .slice none 0 0] 39) (.cells #[.int .i64 0, .int .i64 0, .int .i64 0, .int .i64 0, .slice none 0 0] 39)
  generalize hw0 : ((w.alloc (.cells #[.int .i64 4, .int .i64 oh, .int .i64 oa, .int .i64 ol, .slice pp pn pc] 33)).alloc (.cells #[.int .i64 4, .int .i64 0, .int .i64 oh, .int .i64 0, .slice none 0 0] 39)).alloc (.cells #[.int .i64 0, .int .i64 0, .int .i64 0, .int .i64 0, .slice none 0 0] 39) = w0 at *
  have hz1 := heap_lt y1
  generalize hz : w.heap.size = z at *
  have z0 := cell_is y1 0 rfl
  have a0 := cell_is y2 0 rfl
  have a1 := cell_is y2 1 rfl
  have a2 := cell_is y2 2 rfl
  have a3 := cell_is y2 3 rfl
  have a4 := cell_is y2 4 rfl
  have HCo := Lib.hid (HC w0 kk)
  have HX := Lib.hid (And.intro y3 kk)
  clear HC y2 y3 kk
  go_enter Tryz.func51, Tryz.ntmps51
  go_wp2_with fail
  refine HCo.out.mono ?_
  rintro e w1 ⟨rfl, cs, hp, hK, h66⟩
  have y31 := h66 _ _ HX.out.1
  have t0 := cell_is y31 0 rfl
  have t1 := cell_is y31 1 rfl
  have t2 := cell_is y31 2 rfl
  have t3 := cell_is y31 3 rfl
  have t4 := cell_is y31 4 rfl
  have e0 := unfrozen y31 0
  have e1 := unfrozen y31 1
  have e2 := unfrozen y31 2
  have e3 := unfrozen y31 3
  have e4 := unfrozen y31 4
  have HR := Lib.hid (And.intro hp (And.intro hK h66))
  clear hp hK h66 z0 a0 a1 a2 a3 a4 y1
  go_wp2_with fail
  obtain ⟨y11, k11⟩ := set5 (.int .i64 x0) (.int .i64 x1) (.int .i64 x2) (.int .i64 x3) (.slice none 0 0) y31
  generalize ((((w1.setCell ⟨z + 2, 0, none⟩ (.int .i64 x0)).setCell ⟨z + 2, 1, none⟩ (.int .i64 x1)).setCell ⟨z + 2, 2, none⟩ (.int .i64 x2)).setCell ⟨z + 2, 3, none⟩ (.int .i64 x3)).setCell ⟨z + 2, 4, none⟩ (.slice none 0 0) = w6 at *
  have r0 := cell_is y11 0 rfl
  have r1 := cell_is y11 1 rfl
  have r2 := cell_is y11 2 rfl
  have r3 := cell_is y11 3 rfl
  have r4 := cell_is y11 4 rfl
  obtain ⟨hp, hK, h66⟩ := HR.out
  have tp : Tp w1 [z + 2] [39] := fun x hx => by
    rw [List.mem_singleton] at hx
    subst hx
    exact ⟨_, _, y31, by simp⟩
  refine bodyPost_ret (v := .tuple #[.agg #[.int .i64 x0, .int .i64 x1, .int .i64 x2, .int .i64 x3, .slice none 0 0], .bool fl]) (by simp [results, Tryz.results51, go_sem, r0, r1, r2, r3, r4]) rfl ?_
  refine ⟨rfl, cs, (hP cs).box hp k11 tp (fun x hx => by rw [List.mem_singleton] at hx; exact HAb.out x (by omega)), k11.heap hK ?_, ((K66.of0 HX.out.2).trans h66).new k11 (fun x hx => by rw [List.mem_singleton] at hx; omega)⟩
  intro hm
  rw [List.mem_singleton] at hm
  exact heap_ne hK y31 (by simp) hm
set_option maxRecDepth 100000 in
set_option maxHeartbeats 4000000 in
theorem do_call (w : World) {A : Nat → Prop} {oo : Nat} {K Bb gb nb cb : Nat} {P : Array Value → World → Prop} {kind oa ol h x0 x1 x2 x3 : Int} {pp : Option Addr} {pn pc : Nat} {fl : Bool} (hk : kind = 3 ∨ kind = 4) (hA : ∀ x, w.heap.size ≤ x → A x) (hP : ∀ cs, ClA A (P cs))
    (c3 : w.cell? ⟨K, oo + 1, none⟩ = some (.slice (some ⟨gb, 0, none⟩) nb cb)) (hnb : 0 < nb) (g0 : w.cell? ⟨gb, 0, none⟩ = some (.pointer (some ⟨Bb, 0, none⟩))) (b0 : w.cell? ⟨Bb, 0, none⟩ = some (.int .i64 h)) (hh : 0 < h)
    (HC : ∀ wx, Chg [] w wx → Calls Tryz.prog 51 #[.pointer (some ⟨K, 0, none⟩), .pointer (some ⟨K, oo, none⟩), .pointer (some ⟨Bb, 0, none⟩), .agg #[.int .i64 kind, .int .i64 0, .int .i64 oa, .int .i64 ol, .slice pp pn pc], .agg #[.int .i64 kind, .int .i64 0, .int .i64 0, .int .i64 0, .slice none 0 0]] wx (DoR wx K P x0 x1 x2 x3 fl)) :
    Calls Tryz.prog 22 #[.pointer (some ⟨K, 0, none⟩), .pointer (some ⟨K, oo, none⟩), .agg #[.int .i64 kind, .int .i64 0, .int .i64 oa, .int .i64 ol, .slice pp pn pc]] w (DoR w K P x0 x1 x2 x3 fl) := by
  have HAb := Lib.hid hA
  clear hA
  have kk : Chg [] w ((w.alloc (.cells #[.int .i64 kind, .int .i64 0, .int .i64 oa, .int .i64 ol, .slice pp pn pc] 33)).alloc (.cells #[.int .i64 0, .int .i64 0, .int .i64 0, .int .i64 0, .slice none 0 0] 39)) := (Chg.alloc w _).then_alloc _
  obtain ⟨y1, y2⟩ := heap_new2 w (.cells #[.int .i64 kind, .int .i64 0, .int .i64 oa, .int .i64 ol, .slice pp pn pc] 33) (.cells #[.int .i64 0, .int .i64 0, .int .i64 0, .int .i64 0, .slice none 0 0] 39)
  generalize hw0 : (w.alloc (.cells #[.int .i64 kind, .int .i64 0, .int .i64 oa, .int .i64 ol, .slice pp pn pc] 33)).alloc (.cells #[.int .i64 0, .int .i64 0, .int .i64 0, .int .i64 0, .slice none 0 0] 39) = w0 at *
  have hz1 := heap_lt y1
  generalize hz : w.heap.size = z at *
  have z0 := cell_is y1 0 rfl
  have z1 := cell_is y1 1 rfl
  have z2 := cell_is y1 2 rfl
  have z3 := cell_is y1 3 rfl
  have z4 := cell_is y1 4 rfl
  have t0 := cell_is y2 0 rfl
  have t1 := cell_is y2 1 rfl
  have t2 := cell_is y2 2 rfl
  have t3 := cell_is y2 3 rfl
  have t4 := cell_is y2 4 rfl
  have e0 := unfrozen y2 0
  have e1 := unfrozen y2 1
  have e2 := unfrozen y2 2
  have e3 := unfrozen y2 3
  have e4 := unfrozen y2 4
  have m1 : decide (kind = 1) = false := decide_eq_false (by omega)
  have m2 : decide (kind = 2) = false := decide_eq_false (by omega)
  go_enter Tryz.func22, Tryz.ntmps22
  go_upto_region 1 with fail
  apply wp_scope_straight
  go_upto_region 2 with fail
  have v2 : (((((w0.setCell ⟨z + 1, 0, none⟩ (.int .i64 kind)).setCell ⟨z + 1, 1, none⟩ (.int .i64 0)).setCell ⟨z + 1, 2, none⟩ (.int .i64 0)).setCell ⟨z + 1, 3, none⟩ (.int .i64 0)).setCell ⟨z + 1, 4, none⟩ (.slice none 0 0)).heap[z + 1]? = some (.cells #[.int .i64 kind, .int .i64 0, .int .i64 0, .int .i64 0, .slice none 0 0] 39 (0, 0)) := (set5 _ _ _ _ _ y2).1
  have k2 := (set5 (.int .i64 kind) (.int .i64 0) (.int .i64 0) (.int .i64 0) (.slice none 0 0) y2).2
  generalize ((((w0.setCell ⟨z + 1, 0, none⟩ (.int .i64 kind)).setCell ⟨z + 1, 1, none⟩ (.int .i64 0)).setCell ⟨z + 1, 2, none⟩ (.int .i64 0)).setCell ⟨z + 1, 3, none⟩ (.int .i64 0)).setCell ⟨z + 1, 4, none⟩ (.slice none 0 0) = w1 at *
  have kk1 : Chg [] w w1 := kk.trans k2 (fun x hx hlt => by rw [List.mem_singleton] at hx; omega)
  have v1 := k2.heap y1 (by simp)
  clear z0 z1 z2 z3 z4 t0 t1 t2 t3 t4 e0 e1 e2 e3 e4
  have z0 := cell_is v1 0 rfl
  have z1 := cell_is v1 1 rfl
  have z2 := cell_is v1 2 rfl
  have z3 := cell_is v1 3 rfl
  have z4 := cell_is v1 4 rfl
  have t0 := cell_is v2 0 rfl
  have t1 := cell_is v2 1 rfl
  have t2 := cell_is v2 2 rfl
  have t3 := cell_is v2 3 rfl
  have t4 := cell_is v2 4 rfl
  have HA := Lib.hid (at_ok w1 (K := K) (o := oo) (kk1.cell c3 (by simp)) rfl hnb (kk1.cell g0 (by simp)) (kk1.cell b0 (by simp)) hh)
  have HCo := Lib.hid (HC w1 kk1)
  have HX := Lib.hid (And.intro v2 kk1)
  clear HC v2 kk1 v1 kk y1 y2 k2 c3 g0 b0
  go_wp2_with fail
  refine HA.out.mono ?_
  rintro e w2 ⟨rfl, rfl⟩
  have n3 : ∀ {p : Prop}, (kind = 3 → p) → (kind = 4 → p) → p := fun h3 h4 => hk.elim h3 h4
  rcases hk with rfl | rfl
  all_goals
    go_wp2_with fail
    apply wp_label
    go_wp2_with fail
    refine HCo.out.mono ?_
    rintro e w3 ⟨rfl, cs, hp, hK, h66⟩
    have y31 := h66 _ _ HX.out.1
    have s0 := cell_is y31 0 rfl
    have s1 := cell_is y31 1 rfl
    have s2 := cell_is y31 2 rfl
    have s3 := cell_is y31 3 rfl
    have s4 := cell_is y31 4 rfl
    have e0 := unfrozen y31 0
    have e1 := unfrozen y31 1
    have e2 := unfrozen y31 2
    have e3 := unfrozen y31 3
    have e4 := unfrozen y31 4
    have HR := Lib.hid (And.intro hp (And.intro hK h66))
    clear hp hK h66 z0 z1 z2 z3 z4 t0 t1 t2 t3 t4
    go_wp2_with fail
    obtain ⟨y11, k11⟩ := set5 (.int .i64 x0) (.int .i64 x1) (.int .i64 x2) (.int .i64 x3) (.slice none 0 0) y31
    generalize ((((w3.setCell ⟨z + 1, 0, none⟩ (.int .i64 x0)).setCell ⟨z + 1, 1, none⟩ (.int .i64 x1)).setCell ⟨z + 1, 2, none⟩ (.int .i64 x2)).setCell ⟨z + 1, 3, none⟩ (.int .i64 x3)).setCell ⟨z + 1, 4, none⟩ (.slice none 0 0) = w6 at *
    have r0 := cell_is y11 0 rfl
    have r1 := cell_is y11 1 rfl
    have r2 := cell_is y11 2 rfl
    have r3 := cell_is y11 3 rfl
    have r4 := cell_is y11 4 rfl
    obtain ⟨hp, hK, h66⟩ := HR.out
    have tp : Tp w3 [z + 1] [39] := fun x hx => by
      rw [List.mem_singleton] at hx
      subst hx
      exact ⟨_, _, y31, by simp⟩
    simp only [Exit.noGoto]
    refine bodyPost_ret (v := .tuple #[.agg #[.int .i64 x0, .int .i64 x1, .int .i64 x2, .int .i64 x3, .slice none 0 0], .bool fl]) (by simp [results, Tryz.results22, go_sem, r0, r1, r2, r3, r4]) rfl ?_
    refine ⟨rfl, cs, (hP cs).box hp k11 tp (fun x hx => by rw [List.mem_singleton] at hx; exact HAb.out x (by omega)), k11.heap hK ?_, ((K66.of0 HX.out.2).trans h66).new k11 (fun x hx => by rw [List.mem_singleton] at hx; omega)⟩
    intro hm
    rw [List.mem_singleton] at hm
    exact heap_ne hK y31 (by simp) hm
end Go.Proofs.YtliicpedddcfiaaGreat.Co
namespace Go.Proofs.YtliicpedddcfiaaGreat.Co
open Go.RowKit Go.Lib

set_option maxRecDepth 100000 in
set_option maxHeartbeats 4000000 in
theorem do_begin (w : World) {A : Nat → Prop} {oo : Nat} {K : Nat} {P : Array Value → World → Prop} {x0 x1 x2 x3 : Int} (hA : ∀ x, w.heap.size ≤ x → A x) (hP : ∀ cs, ClA A (P cs))
    (HC : ∀ wx, Chg [] w wx → Calls Tryz.prog 49 #[.pointer (some ⟨K, 0, none⟩), .pointer (some ⟨K, oo, none⟩), .agg #[.int .i64 1, .int .i64 0, .int .i64 0, .int .i64 0, .slice none 0 0]] wx fun e w' =>
      e = .returned (.agg #[.int .i64 x0, .int .i64 x1, .int .i64 x2, .int .i64 x3, .slice none 0 0]) ∧ ∃ cs, P cs w' ∧ SchB w' K cs ∧ K66 wx w') :
    Calls Tryz.prog 22 #[.pointer (some ⟨K, 0, none⟩), .pointer (some ⟨K, oo, none⟩), .agg #[.int .i64 1, .int .i64 0, .int .i64 0, .int .i64 0, .slice none 0 0]] w (DoR w K P x0 x1 x2 x3 true) := by
  have HAb := Lib.hid hA
  clear hA
  have kk : Chg [] w ((w.alloc (.cells #[.int .i64 1, .int .i64 0, .int .i64 0, .int .i64 0, .slice none 0 0] 33)).alloc (.cells #[.int .i64 0, .int .i64 0, .int .i64 0, .int .i64 0, .slice none 0 0] 39)) := (Chg.alloc w _).then_alloc _
  obtain ⟨y1, y2⟩ := heap_new2 w (.cells #[.int .i64 1, .int .i64 0, .int .i64 0, .int .i64 0, .slice none 0 0] 33) (.cells #[.int .i64 0, .int .i64 0, .int .i64 0, .int .i64 0, .slice none 0 0] 39)
  generalize hw0 : (w.alloc (.cells #[.int .i64 1, .int .i64 0, .int .i64 0, .int .i64 0, .slice none 0 0] 33)).alloc (.cells #[.int .i64 0, .int .i64 0, .int .i64 0, .int .i64 0, .slice none 0 0] 39) = w0 at *
  have hz1 := heap_lt y1
  generalize hz : w.heap.size = z at *
  have z0 := cell_is y1 0 rfl
  have z1 := cell_is y1 1 rfl
  have z2 := cell_is y1 2 rfl
  have z3 := cell_is y1 3 rfl
  have z4 := cell_is y1 4 rfl
  have t0 := cell_is y2 0 rfl
  have t1 := cell_is y2 1 rfl
  have t2 := cell_is y2 2 rfl
  have t3 := cell_is y2 3 rfl
  have t4 := cell_is y2 4 rfl
  have e0 := unfrozen y2 0
  have e1 := unfrozen y2 1
  have e2 := unfrozen y2 2
  have e3 := unfrozen y2 3
  have e4 := unfrozen y2 4
  go_enter Tryz.func22, Tryz.ntmps22
  go_upto_region 1 with fail
  apply wp_scope_straight
  go_upto_region 2 with fail
  have v2 : (((((w0.setCell ⟨z + 1, 0, none⟩ (.int .i64 1)).setCell ⟨z + 1, 1, none⟩ (.int .i64 0)).setCell ⟨z + 1, 2, none⟩ (.int .i64 0)).setCell ⟨z + 1, 3, none⟩ (.int .i64 0)).setCell ⟨z + 1, 4, none⟩ (.slice none 0 0)).heap[z + 1]? = some (.cells #[.int .i64 1, .int .i64 0, .int .i64 0, .int .i64 0, .slice none 0 0] 39 (0, 0)) := (set5 _ _ _ _ _ y2).1
  have k2 := (set5 (.int .i64 1) (.int .i64 0) (.int .i64 0) (.int .i64 0) (.slice none 0 0) y2).2
  generalize ((((w0.setCell ⟨z + 1, 0, none⟩ (.int .i64 1)).setCell ⟨z + 1, 1, none⟩ (.int .i64 0)).setCell ⟨z + 1, 2, none⟩ (.int .i64 0)).setCell ⟨z + 1, 3, none⟩ (.int .i64 0)).setCell ⟨z + 1, 4, none⟩ (.slice none 0 0) = w1 at *
  have kk1 : Chg [] w w1 := kk.trans k2 (fun x hx hlt => by rw [List.mem_singleton] at hx; omega)
  have v1 := k2.heap y1 (by simp)
  clear z0 z1 z2 z3 z4 t0 t1 t2 t3 t4 e0 e1 e2 e3 e4
  have z0 := cell_is v1 0 rfl
  have t0 := cell_is v2 0 rfl
  have t1 := cell_is v2 1 rfl
  have t2 := cell_is v2 2 rfl
  have t3 := cell_is v2 3 rfl
  have t4 := cell_is v2 4 rfl
  have HCo := Lib.hid (HC w1 kk1)
  have HX := Lib.hid (And.intro v2 kk1)
  clear HC v2 kk1 v1 kk y1 y2 k2
  go_wp2_with fail
  refine HCo.out.mono ?_
  rintro e w3 ⟨rfl, cs, hp, hK, h66⟩
  have y31 := h66 _ _ HX.out.1
  have s0 := cell_is y31 0 rfl
  have s1 := cell_is y31 1 rfl
  have s2 := cell_is y31 2 rfl
  have s3 := cell_is y31 3 rfl
  have s4 := cell_is y31 4 rfl
  have e0 := unfrozen y31 0
  have e1 := unfrozen y31 1
  have e2 := unfrozen y31 2
  have e3 := unfrozen y31 3
  have e4 := unfrozen y31 4
  have HR := Lib.hid (And.intro hp (And.intro hK h66))
  clear hp hK h66 z0 t0 t1 t2 t3 t4
  go_wp2_with fail
  obtain ⟨y11, k11⟩ := set5 (.int .i64 x0) (.int .i64 x1) (.int .i64 x2) (.int .i64 x3) (.slice none 0 0) y31
  generalize ((((w3.setCell ⟨z + 1, 0, none⟩ (.int .i64 x0)).setCell ⟨z + 1, 1, none⟩ (.int .i64 x1)).setCell ⟨z + 1, 2, none⟩ (.int .i64 x2)).setCell ⟨z + 1, 3, none⟩ (.int .i64 x3)).setCell ⟨z + 1, 4, none⟩ (.slice none 0 0) = w6 at *
  have r0 := cell_is y11 0 rfl
  have r1 := cell_is y11 1 rfl
  have r2 := cell_is y11 2 rfl
  have r3 := cell_is y11 3 rfl
  have r4 := cell_is y11 4 rfl
  obtain ⟨hp, hK, h66⟩ := HR.out
  have tp : Tp w3 [z + 1] [39] := fun x hx => by
    rw [List.mem_singleton] at hx
    subst hx
    exact ⟨_, _, y31, by simp⟩
  simp only [Exit.noGoto]
  refine bodyPost_ret (v := .tuple #[.agg #[.int .i64 x0, .int .i64 x1, .int .i64 x2, .int .i64 x3, .slice none 0 0], .bool true]) (by simp [results, Tryz.results22, go_sem, r0, r1, r2, r3, r4]) rfl ?_
  refine ⟨rfl, cs, (hP cs).box hp k11 tp (fun x hx => by rw [List.mem_singleton] at hx; exact HAb.out x (by omega)), k11.heap hK ?_, ((K66.of0 HX.out.2).trans h66).new k11 (fun x hx => by rw [List.mem_singleton] at hx; omega)⟩
  intro hm
  rw [List.mem_singleton] at hm
  exact heap_ne hK y31 (by simp) hm
set_option maxRecDepth 100000 in
set_option maxHeartbeats 8000000 in
theorem step_told (w : World) {A : Nat → Prop} {oo : Nat} {cl : Int} (hcl : 1 ≤ cl ∧ cl ≤ 8) (hoo : oo = cli cl) {K P0 lw g o m c na : Nat} {P : Array Value → World → Prop} {cs : Array Value} {kind oh oa ol ev x0 x1 x2 x3 : Int} {pp : Option Addr} {pn pc : Nat} {av : Value} {xa : List Value} {q : Bool} (hlw : lw ≤ w.heap.size) (hA : ∀ x, w.heap.size ≤ x → A x) (hKA : A K) (hP : ∀ cs, ClA A (P cs))
    (hB : SchB w K cs) (h1 : cs[1]? = some (.pointer (some ⟨P0, 0, none⟩))) (h2 : cs[oo]? = some (.slice (some ⟨g, o, none⟩) (m + 1) c)) (h35 : cs[35]? = some (.int .i64 ev)) (hev : 0 ≤ ev ∧ ev ≤ 1000000) (_hc : m + 1 ≤ c)
    (u0 : w.cell? ⟨g, o, none⟩ = some (.int .i64 kind)) (u1 : w.cell? ⟨g, o + 1, none⟩ = some (.int .i64 oh)) (u2 : w.cell? ⟨g, o + 2, none⟩ = some (.int .i64 oa)) (u3 : w.cell? ⟨g, o + 3, none⟩ = some (.int .i64 ol)) (u4 : w.cell? ⟨g, o + 4, none⟩ = some (.slice pp pn pc)) (hgK : g ≠ K)
    (HD : ∀ wx, Chg [K] w wx → SchB wx K (cs.setIfInBounds 35 (.int .i64 (ev + 1))) → Calls Tryz.prog 22 #[.pointer (some ⟨K, 0, none⟩), .pointer (some ⟨K, oo, none⟩), .agg #[.int .i64 kind, .int .i64 oh, .int .i64 oa, .int .i64 ol, .slice pp pn pc]] wx (DoR wx K P x0 x1 x2 x3 true))
    (hQ : ∀ cs2 w2, P cs2 w2 → cs2[oo]? = some (.slice (some ⟨g, o, none⟩) (m + 1) c) ∧ cs2[oo + 2]? = some av ∧ cs2[oo + 3]? = some (.bool q)) (hav : w.ownsRow lw 39 5 av na xa) (hvA : ∀ g, av.ownBlock = some g → A g) (hna : na ≤ 900) :
    Calls Tryz.prog 10 #[.pointer (some ⟨K, 0, none⟩), .int .i64 cl] w fun e w' => e = .returned (.tuple #[.agg #[.int .i64 x0, .int .i64 x1, .int .i64 x2, .int .i64 x3, .slice none 0 0], .int .i64 0]) ∧ ∃ av' cs2, P cs2 w' ∧
      SchB w' K (((cs2.setIfInBounds oo (cutV g o m c)).setIfInBounds (oo + 3) (.bool false)).setIfInBounds (oo + 2) av') ∧ w'.ownsRow lw 39 5 av' (na + 1) (xa ++ [.int .i64 x0, .int .i64 x1, .int .i64 x2, .int .i64 x3, .slice none 0 0]) ∧ (∀ x, av'.ownBlock = some x → av.ownBlock = some x ∨ w.heap.size ≤ x) ∧ ∀ (x : Nat) (cs3 : Array Value), w.heap[x]? = some (.cells cs3 39 (0, 0)) → av.ownBlock ≠ some x → w'.heap[x]? = some (.cells cs3 39 (0, 0)) := by
  have HAb := Lib.hid hA
  clear hA
  have hoo34 : oo + 3 < 34 := by rw [hoo]; unfold cli; omega
  have hoo2 : 2 ≤ oo := by rw [hoo]; unfold cli; omega
  have HOO := Lib.hid hoo
  clear hoo
  have k0 : Chg [] w (w.alloc (.cells #[.int .i64 0, .int .i64 0, .int .i64 0, .int .i64 0, .slice none 0 0] 39)) := Chg.alloc w _
  have y0 := heap_new w (.cells #[.int .i64 0, .int .i64 0, .int .i64 0, .int .i64 0, .slice none 0 0] 39)
  generalize hw0 : w.alloc (.cells #[.int .i64 0, .int .i64 0, .int .i64 0, .int .i64 0, .slice none 0 0] 39) = w0 at *
  generalize hz : w.heap.size = z at *
  have hKz : K < z := by rw [← hz]; exact heap_lt hB
  have hzl := heap_lt y0
  have B0 : SchB w0 K cs := k0.heap hB (by simp)
  have HCl : Hid (Calls Tryz.prog 19 #[.pointer (some ⟨K, 0, none⟩), .int .i64 cl] w0 fun e w' => e = .returned (.pointer (some ⟨K, oo, none⟩)) ∧ w0 = w') := Lib.hid (by have hci := client_in w0 B0 h1 hcl; rw [← HOO.out] at hci; exact hci)
  have c35 := cell_is B0 35 h35
  have f35 := unfrozen B0 35
  have n1 : IntKind.i64.wrap (ev + 1) = ev + 1 := by rw [IntKind.wrap_i64]; omega
  have hs35 : 35 < cs.size := (Array.getElem?_eq_some_iff.1 h35).1
  have HQ0 := Lib.hid (And.intro h2 (And.intro hQ hna))
  have HU := Lib.hid (And.intro u0 (And.intro u1 (And.intro u2 (And.intro u3 u4))))
  have HDo := Lib.hid HD
  have HZo := Lib.hid (show ∀ g', av.ownBlock = some g' → g' < z from fun g' hg' => by
    obtain ⟨-, cur, hh⟩ := own_elem hav hg'
    rw [← hz]
    exact heap_lt hh)
  have HB := Lib.hid (And.intro hB (And.intro k0 (And.intro y0 (And.intro B0 hav))))
  clear hB h1 h35 u0 u1 u2 u3 u4 HD hQ hav k0 y0 B0 h2
  go_enter Tryz.func10, Tryz.ntmps10
  go_wp2_with fail
  refine HCl.out.mono ?_
  rintro e w1 ⟨rfl, rfl⟩
  go_upto_region 5 with fail
  obtain ⟨hB, k0, y0, B0, hav⟩ := HB.out
  have B1 : SchB (w0.setCell ⟨K, 35, none⟩ (.int .i64 (ev + 1))) K (cs.setIfInBounds 35 (.int .i64 (ev + 1))) := heap_set B0 35 _ rfl
  have k1 : Chg [K] w0 (w0.setCell ⟨K, 35, none⟩ (.int .i64 (ev + 1))) := Chg.set _ _ _ _
  generalize w0.setCell ⟨K, 35, none⟩ (.int .i64 (ev + 1)) = w1 at *
  have k01 : Chg [K] w w1 := (k0.mono (fun x hx _ => by cases hx)).then k1
  have y1 := k1.heap y0 (by simp; omega)
  have c2 : w1.cell? ⟨K, oo, none⟩ = some (.slice (some ⟨g, o, none⟩) (m + 1) c) := cell_is B1 oo (by rw [Array.getElem?_setIfInBounds_ne (by omega)]; exact HQ0.out.1)
  have u0 := k01.cell HU.out.1 (by simpa using hgK)
  have u1 := k01.cell HU.out.2.1 (by simpa using hgK)
  have u2 := k01.cell HU.out.2.2.1 (by simpa using hgK)
  have u3 := k01.cell HU.out.2.2.2.1 (by simpa using hgK)
  have u4 := k01.cell HU.out.2.2.2.2 (by simpa using hgK)
  have n2 : decide (((m + 1 : Nat) : Int) = 0) = false := decide_eq_false (by omega)
  have n3 : decide ((m : Int) + 1 = 0) = false := decide_eq_false (by omega)
  have n4 : ¬ ((m : Int) + 1 = 0) := by omega
  have HD1 := Lib.hid (HDo.out w1 k01 B1)
  have HK0 := Lib.hid (show ∀ (x : Nat) (cs3 : Array Value), w.heap[x]? = some (.cells cs3 39 (0, 0)) → w1.heap[x]? = some (.cells cs3 39 (0, 0)) from fun x cs3 hx => k01.heap hx (by simpa using heap_ne hx hB (by simp)))
  have HX1 := Lib.hid (And.intro y1 (own_chgB hav k01 (fun g' hg' hm => by
    rw [List.mem_singleton] at hm
    subst hm
    obtain ⟨-, cur, hh⟩ := own_elem hav hg'
    rw [show w.heap[_]? = _ from hB] at hh
    cases hh)))
  clear hB k0 y0 B0 hav B1 k1 y1 c35 f35 n1 HB HDo HCl
  go_wp2_with fail
  refine HD1.out.mono ?_
  rintro e w2 ⟨rfl, cs2, hp, hK2, h66⟩
  have hq2 := HQ0.out.2.1 cs2 w2 hp
  have HQ := Lib.hid (And.intro HQ0.out.1 (And.intro hq2.1 (And.intro hq2.2.1 (And.intro hq2.2.2 HQ0.out.2.2))))
  clear hq2
  have HX2 := Lib.hid (And.intro hp (And.intro hK2 (And.intro (h66 _ _ HX1.out.1) (own_k66 HX1.out.2 h66))))
  have H66 := Lib.hid (show ∀ (x : Nat) (cs3 : Array Value), w.heap[x]? = some (.cells cs3 39 (0, 0)) → w2.heap[x]? = some (.cells cs3 39 (0, 0)) from fun x cs3 hx => h66 _ _ (HK0.out x cs3 hx))
  have hs12 : z < w2.heap.size := by have := heap_lt (h66 _ _ HX1.out.1); exact this
  clear hp hK2 h66 c2 u0 u1 u2 u3 u4 n2 n3 n4
  go_upto_region 11 with fail
  obtain ⟨hp, hK2, y2, hav2⟩ := HX2.out
  have k3 : Chg [] w2 (w2.alloc (.cells #[.int .i64 x0, .int .i64 x1, .int .i64 x2, .int .i64 x3, .slice none 0 0] 39)) := Chg.alloc w2 _
  have b3 := heap_new w2 (.cells #[.int .i64 x0, .int .i64 x1, .int .i64 x2, .int .i64 x3, .slice none 0 0] 39)
  generalize w2.alloc (.cells #[.int .i64 x0, .int .i64 x1, .int .i64 x2, .int .i64 x3, .slice none 0 0] 39) = w3 at *
  generalize hzb : w2.heap.size = zb at *
  have B3 : SchB w3 K cs2 := k3.heap hK2 (by simp)
  have y3 := k3.heap y2 (by simp)
  have hp3 := (hP cs2).box hp k3 (fun x hx => by cases hx) (fun x hx => by cases hx)
  have hav3 := own_keep hav2 k3.below0
  have H3 := Lib.hid (show ∀ (x : Nat) (cs3 : Array Value), w.heap[x]? = some (.cells cs3 39 (0, 0)) → w3.heap[x]? = some (.cells cs3 39 (0, 0)) from fun x cs3 hx => k3.heap (H66.out x cs3 hx) (by simp))
  have hKb : K < zb := by rw [← hzb]; exact heap_lt hK2
  have c2 := cell_is B3 oo HQ.out.2.1
  have c5 := cell_is B3 (oo + 3) HQ.out.2.2.2.1
  have f2 := unfrozen B3 oo
  have f5 := unfrozen B3 (oo + 3)
  clear hp hK2 y2 hav2 k3 HX2
  go_upto_region 12 with fail
  have hcut : cutV g o m c = .slice (if c = 1 then some ⟨g, o, none⟩ else some ⟨g, o + 5, none⟩) m (c - 1) := rfl
  generalize (if c = 1 then some (⟨g, o, none⟩ : Addr) else some ⟨g, o + 5, none⟩) = pq at *
  have HCut := Lib.hid hcut
  clear hcut
  have B4 : SchB ((w3.setCell ⟨K, oo, none⟩ (.slice pq m (c - 1))).setCell ⟨K, oo + 3, none⟩ (.bool false)) K ((cs2.setIfInBounds oo (.slice pq m (c - 1))).setIfInBounds (oo + 3) (.bool false)) := heap_set (heap_set B3 oo _ rfl) (oo + 3) _ rfl
  have k4 : Chg [K] w3 ((w3.setCell ⟨K, oo, none⟩ (.slice pq m (c - 1))).setCell ⟨K, oo + 3, none⟩ (.bool false)) := (Chg.set _ _ _ _).then (Chg.set _ _ _ _)
  generalize (w3.setCell ⟨K, oo, none⟩ (.slice pq m (c - 1))).setCell ⟨K, oo + 3, none⟩ (.bool false) = w4 at *
  have tpK : Tp w3 [K] [72, 39] := fun x hx => by
    rw [List.mem_singleton] at hx
    subst hx
    exact ⟨_, _, B3, by simp⟩
  have hp4 := (hP cs2).keep _ _ _ hp3 k4 tpK (fun x hx => by rw [List.mem_singleton] at hx; rw [hx]; exact hKA)
  have H4 := Lib.hid (show ∀ (x : Nat) (cs3 : Array Value), w.heap[x]? = some (.cells cs3 39 (0, 0)) → w4.heap[x]? = some (.cells cs3 39 (0, 0)) from fun x cs3 hx => k4.heap (H3.out x cs3 hx) (by simpa using heap_ne (H3.out x cs3 hx) B3 (by simp)))
  have y4 := k4.heap y3 (by simp; omega)
  have b4 := k4.heap b3 (by simp; omega)
  have hav4 := own_chgB hav3 k4 (fun g' hg' hm => by
    rw [List.mem_singleton] at hm
    subst hm
    obtain ⟨-, cur, hh⟩ := own_elem hav3 hg'
    rw [show w3.heap[_]? = _ from B3] at hh
    cases hh)
  obtain ⟨pa, ca, rfl, hca⟩ := own_form hav4
  have e24 : (((cs2.setIfInBounds oo (Value.slice pq m (c - 1))).setIfInBounds (oo + 3) (.bool false))[oo + 2]? = some (.slice pa na ca)) := by
    rw [Array.getElem?_setIfInBounds_ne (by omega), Array.getElem?_setIfInBounds_ne (by omega)]
    exact HQ.out.2.2.1
  have HB4 := Lib.hid (And.intro B4 (And.intro hp4 (And.intro y4 (And.intro b4 (And.intro hav4 e24)))))
  have s4 : w4.cell? ⟨K, oo + 2, none⟩ = some (.slice pa na ca) := cell_is B4 (oo + 2) e24
  have s4d : w4.drew.cell? ⟨K, oo + 2, none⟩ = some (.slice pa na ca) := s4
  have d0 := cell_is b4 0 rfl
  have d1 := cell_is b4 1 rfl
  have d2 := cell_is b4 2 rfl
  have d3 := cell_is b4 3 rfl
  have d4 := cell_is b4 4 rfl
  have d0d : w4.drew.cell? ⟨zb, 0, none⟩ = some (.int .i64 x0) := d0
  have d1d : w4.drew.cell? ⟨zb, 1, none⟩ = some (.int .i64 x1) := d1
  have d2d : w4.drew.cell? ⟨zb, 2, none⟩ = some (.int .i64 x2) := d2
  have d3d : w4.drew.cell? ⟨zb, 3, none⟩ = some (.int .i64 x3) := d3
  have d4d : w4.drew.cell? ⟨zb, 4, none⟩ = some (.slice none 0 0) := d4
  have kA : Chg [] w4 (w4.alloc (.cells #[.int .i64 x0, .int .i64 x1, .int .i64 x2, .int .i64 x3, .slice none 0 0] 39)).drew := (Chg.alloc w4 _).drew
  have yA : (w4.alloc (.cells #[.int .i64 x0, .int .i64 x1, .int .i64 x2, .int .i64 x3, .slice none 0 0] 39)).drew.heap[w4.heap.size]? = _ := heap_new w4 (.cells #[.int .i64 x0, .int .i64 x1, .int .i64 x2, .int .i64 x3, .slice none 0 0] 39)
  have sA := kA.cell s4 (by simp)
  have BA := kA.heap B4 (by simp)
  have oA := own_keep hav4 kA.below0
  have hlA : lw ≤ (w4.alloc (.cells #[.int .i64 x0, .int .i64 x1, .int .i64 x2, .int .i64 x3, .slice none 0 0] 39)).drew.heap.size := by have := kA.size; have := heap_lt y4; omega
  have hna := HQ.out.2.2.2.2
  clear B4 hp4 y4 b4 hav4 e24 k4 hp3 y3 b3 hav3 B3 c2 c5 f2 f5 tpK
  go_region_law
    (first
      | (refine step_append_ans rfl (.tmp 62) (.tmp 64) rfl lw w4.heap.size 1 na (.slice pa na ca) _ _ _ _ _ xa rfl oA hlA (by omega) rfl yA ⟨rfl, rfl, rfl, rfl, rfl⟩ ?_; intro g7 c7 w7 o7 k7 n7; have B7 : SchB w7 K _ := k7.heap BA (own_not oA BA (by decide)); have s8 := cell_is B7 (oo + 2) HB4.out.2.2.2.2.2; have f8 := unfrozen B7 (oo + 2)))
  all_goals
    obtain ⟨B4, hp4, y4, b4, hav4, e24⟩ := HB4.out
    have B8 : SchB (w7.setCell ⟨K, oo + 2, none⟩ (.slice (some ⟨g7, 0, none⟩) (na + 1) c7)) K (((cs2.setIfInBounds oo (.slice pq m (c - 1))).setIfInBounds (oo + 3) (.bool false)).setIfInBounds (oo + 2) (.slice (some ⟨g7, 0, none⟩) (na + 1) c7)) := heap_set B7 (oo + 2) _ rfl
    have ks8 : Chg [K] w7 (w7.setCell ⟨K, oo + 2, none⟩ (.slice (some ⟨g7, 0, none⟩) (na + 1) c7)) := Chg.set _ _ _ _
    generalize w7.setCell ⟨K, oo + 2, none⟩ (.slice (some ⟨g7, 0, none⟩) (na + 1) c7) = w8 at *
    have o8 := own_chgB o7 ks8 (fun g' hg' hm => by
      rw [List.mem_singleton] at hm
      subst hm
      obtain ⟨-, cur, hh⟩ := own_elem o7 hg'
      rw [show w7.heap[_]? = _ from B7] at hh
      cases hh)
    have k48 : Chg (K :: (Value.slice pa na ca).ownBlock.toList) w4 w8 := ((kA.mono (fun x hx _ => by cases hx)).then (k7.mono (fun x hx _ => List.mem_cons_of_mem _ hx))).then (ks8.mono (fun x hx _ => by simp at hx; simp [hx]))
    have tp4 : Tp w4 (K :: (Value.slice pa na ca).ownBlock.toList) [72, 39] := fun x hx => by
      rcases List.mem_cons.1 hx with rfl | hx
      · exact ⟨_, _, B4, by simp⟩
      · obtain ⟨-, cur, hh⟩ := own_elem hav4 (show (Value.slice pa na ca).ownBlock = some x by simpa using hx)
        exact ⟨_, _, hh, by simp⟩
    have hp8 := (hP cs2).keep _ _ _ hp4 k48 tp4 (fun x hx => by
      rcases List.mem_cons.1 hx with rfl | hx
      · exact hKA
      · exact hvA x (by simpa using hx))
    have nin : ∀ x, K < x → z ≤ x → x ∉ K :: (Value.slice pa na ca).ownBlock.toList := fun x h1 h2 hx => by
      rcases List.mem_cons.1 hx with e | hx
      · omega
      · have := HZo.out x (by simpa using hx)
        omega
    have y8 := k48.heap y4 (nin z hKz (Nat.le_refl _))
    have b8 := k48.heap b4 (nin zb hKb (by omega))
    have H8 := Lib.hid (show ∀ (x : Nat) (cs3 : Array Value), w.heap[x]? = some (.cells cs3 39 (0, 0)) → (Value.slice pa na ca).ownBlock ≠ some x → w8.heap[x]? = some (.cells cs3 39 (0, 0)) from fun x cs3 hx hne => k48.heap (H4.out x cs3 hx) (fun hm => by
      rcases List.mem_cons.1 hm with e | hm
      · exact heap_ne (H4.out x cs3 hx) B4 (by simp) e
      · exact hne (by simpa using hm)))
    have hsz8 := k48.size
    have hN7 : (Value.slice pa na ca).ownBlock = some g7 ∨ z ≤ g7 := by
      rcases n7 with h | h
      · exact Or.inl h
      · have h1 := heap_lt y4
        have h2 := kA.size
        have h' : g7 = (w4.alloc (.cells #[.int .i64 x0, .int .i64 x1, .int .i64 x2, .int .i64 x3, .slice none 0 0] 39)).drew.heap.size := h
        exact Or.inr (by omega)
    have HN7 := Lib.hid hN7
    clear hN7
    have hg7z : g7 ≠ z := by
      rcases n7 with h | h
      · have := HZo.out g7 h
        omega
      · have h1 := heap_lt y4
        have h2 := kA.size
        have h' : g7 = (w4.alloc (.cells #[.int .i64 x0, .int .i64 x1, .int .i64 x2, .int .i64 x3, .slice none 0 0] 39)).drew.heap.size := h
        omega
    clear B4 hp4 y4 b4 hav4 e24 HB4 o7 k7 n7 B7 s8 f8 kA yA sA BA oA hlA s4 s4d d0 d1 d2 d3 d4 d0d d1d d2d d3d d4d k48 tp4 ks8
    have d0 := cell_is b8 0 rfl
    have d1 := cell_is b8 1 rfl
    have d2 := cell_is b8 2 rfl
    have d3 := cell_is b8 3 rfl
    have d4 := cell_is b8 4 rfl
    have HK8 := Lib.hid (And.intro B8 (And.intro hp8 o8))
    clear B8 hp8 o8
    go_wp2_with fail
    refine (kept_nil w8).mono ?_
    rintro e w9 ⟨rfl, k9⟩
    have y9 := k9.heap y8 (by simp)
    have t0 := cell_is y9 0 rfl
    have t1 := cell_is y9 1 rfl
    have t2 := cell_is y9 2 rfl
    have t3 := cell_is y9 3 rfl
    have t4 := cell_is y9 4 rfl
    have e0 := unfrozen y9 0
    have e1 := unfrozen y9 1
    have e2 := unfrozen y9 2
    have e3 := unfrozen y9 3
    have e4 := unfrozen y9 4
    go_wp2_with fail
    obtain ⟨y11, k11⟩ := set5 (.int .i64 x0) (.int .i64 x1) (.int .i64 x2) (.int .i64 x3) (.slice none 0 0) y9
    generalize ((((w9.setCell ⟨z, 0, none⟩ (.int .i64 x0)).setCell ⟨z, 1, none⟩ (.int .i64 x1)).setCell ⟨z, 2, none⟩ (.int .i64 x2)).setCell ⟨z, 3, none⟩ (.int .i64 x3)).setCell ⟨z, 4, none⟩ (.slice none 0 0) = w10 at *
    have r0 := cell_is y11 0 rfl
    have r1 := cell_is y11 1 rfl
    have r2 := cell_is y11 2 rfl
    have r3 := cell_is y11 3 rfl
    have r4 := cell_is y11 4 rfl
    obtain ⟨B8, hp8, o8⟩ := HK8.out
    have kf : Chg [z] w8 w10 := (k9.mono (fun x hx _ => by cases hx)).then k11
    have tp8 : Tp w8 [z] [39] := fun x hx => by
      rw [List.mem_singleton] at hx
      subst hx
      exact ⟨_, _, y8, by simp⟩
    refine bodyPost_ret (v := .tuple #[.agg #[.int .i64 x0, .int .i64 x1, .int .i64 x2, .int .i64 x3, .slice none 0 0], .int .i64 0]) (by simp [results, Tryz.results10, go_sem, r0, r1, r2, r3, r4]) rfl ?_
    refine ⟨rfl, _, cs2, (hP cs2).box hp8 kf tp8 (fun x hx => by rw [List.mem_singleton] at hx; exact HAb.out x (by omega)), (by rw [HCut.out]; exact kf.heap B8 (by intro hm; rw [List.mem_singleton] at hm; omega)), own_chgB o8 kf (fun g' hg' hm => ?_), fun x hx => (by cases hx; exact HN7.out), fun x cs3 hx hne => kf.heap (H8.out x cs3 hx hne) (by have := heap_lt hx; simp; omega)⟩
    rw [List.mem_singleton] at hm
    cases hg'
    exact hg7z hm
end Go.Proofs.YtliicpedddcfiaaGreat.Co
namespace Go.Proofs.YtliicpedddcfiaaGreat.Co
open Go.RowKit Go.Lib

set_option maxRecDepth 100000 in
set_option maxHeartbeats 8000000 in
theorem step_wait (w : World) {A : Nat → Prop} {oo : Nat} {cl : Int} (hcl : 1 ≤ cl ∧ cl ≤ 8) (hoo : oo = cli cl) {K P0 g o m c : Nat} {P : Array Value → World → Prop} {cs : Array Value} {kind oh oa ol ev x0 x1 x2 x3 : Int} {pp : Option Addr} {pn pc : Nat} {q : Bool} (hA : ∀ x, w.heap.size ≤ x → A x) (hKA : A K) (hP : ∀ cs, ClA A (P cs))
    (hB : SchB w K cs) (h1 : cs[1]? = some (.pointer (some ⟨P0, 0, none⟩))) (h2 : cs[oo]? = some (.slice (some ⟨g, o, none⟩) (m + 1) c)) (h35 : cs[35]? = some (.int .i64 ev)) (hev : 0 ≤ ev ∧ ev ≤ 1000000) (_hc : m + 1 ≤ c)
    (u0 : w.cell? ⟨g, o, none⟩ = some (.int .i64 kind)) (u1 : w.cell? ⟨g, o + 1, none⟩ = some (.int .i64 oh)) (u2 : w.cell? ⟨g, o + 2, none⟩ = some (.int .i64 oa)) (u3 : w.cell? ⟨g, o + 3, none⟩ = some (.int .i64 ol)) (u4 : w.cell? ⟨g, o + 4, none⟩ = some (.slice pp pn pc)) (hgK : g ≠ K)
    (HD : ∀ wx, Chg [K] w wx → SchB wx K (cs.setIfInBounds 35 (.int .i64 (ev + 1))) → Calls Tryz.prog 22 #[.pointer (some ⟨K, 0, none⟩), .pointer (some ⟨K, oo, none⟩), .agg #[.int .i64 kind, .int .i64 oh, .int .i64 oa, .int .i64 ol, .slice pp pn pc]] wx (DoR wx K P x0 x1 x2 x3 false))
    (hQ : ∀ cs2 w2, P cs2 w2 → cs2[oo + 3]? = some (.bool q)) :
    Calls Tryz.prog 10 #[.pointer (some ⟨K, 0, none⟩), .int .i64 cl] w fun e w' => e = .returned (.tuple #[.agg #[.int .i64 0, .int .i64 0, .int .i64 0, .int .i64 0, .slice none 0 0], .int .i64 16]) ∧ ∃ cs2, P cs2 w' ∧ SchB w' K (cs2.setIfInBounds (oo + 3) (.bool true)) ∧ K66 w w' := by
  have HAb := Lib.hid hA
  clear hA
  have hoo34 : oo + 3 < 34 := by rw [hoo]; unfold cli; omega
  have hoo2 : 2 ≤ oo := by rw [hoo]; unfold cli; omega
  have HOO := Lib.hid hoo
  clear hoo
  have k0 : Chg [] w (w.alloc (.cells #[.int .i64 0, .int .i64 0, .int .i64 0, .int .i64 0, .slice none 0 0] 39)) := Chg.alloc w _
  have y0 := heap_new w (.cells #[.int .i64 0, .int .i64 0, .int .i64 0, .int .i64 0, .slice none 0 0] 39)
  generalize hw0 : w.alloc (.cells #[.int .i64 0, .int .i64 0, .int .i64 0, .int .i64 0, .slice none 0 0] 39) = w0 at *
  generalize hz : w.heap.size = z at *
  have hKz : K < z := by rw [← hz]; exact heap_lt hB
  have hzl := heap_lt y0
  have B0 : SchB w0 K cs := k0.heap hB (by simp)
  have HCl : Hid (Calls Tryz.prog 19 #[.pointer (some ⟨K, 0, none⟩), .int .i64 cl] w0 fun e w' => e = .returned (.pointer (some ⟨K, oo, none⟩)) ∧ w0 = w') := Lib.hid (by have hci := client_in w0 B0 h1 hcl; rw [← HOO.out] at hci; exact hci)
  have c35 := cell_is B0 35 h35
  have f35 := unfrozen B0 35
  have n1 : IntKind.i64.wrap (ev + 1) = ev + 1 := by rw [IntKind.wrap_i64]; omega
  have hs35 : 35 < cs.size := (Array.getElem?_eq_some_iff.1 h35).1
  have HQ0 := Lib.hid (And.intro h2 hQ)
  have HU := Lib.hid (And.intro u0 (And.intro u1 (And.intro u2 (And.intro u3 u4))))
  have HDo := Lib.hid HD
  have HB := Lib.hid (And.intro hB (And.intro k0 (And.intro y0 B0)))
  clear hB h1 h35 u0 u1 u2 u3 u4 HD hQ k0 y0 B0 h2
  go_enter Tryz.func10, Tryz.ntmps10
  go_wp2_with fail
  refine HCl.out.mono ?_
  rintro e w1 ⟨rfl, rfl⟩
  go_upto_region 5 with fail
  obtain ⟨hB, k0, y0, B0⟩ := HB.out
  have kw0 : K66 w w0 := K66.of0 k0
  have B1 : SchB (w0.setCell ⟨K, 35, none⟩ (.int .i64 (ev + 1))) K (cs.setIfInBounds 35 (.int .i64 (ev + 1))) := heap_set B0 35 _ rfl
  have k1 : Chg [K] w0 (w0.setCell ⟨K, 35, none⟩ (.int .i64 (ev + 1))) := Chg.set _ _ _ _
  generalize w0.setCell ⟨K, 35, none⟩ (.int .i64 (ev + 1)) = w1 at *
  have k01 : Chg [K] w w1 := (k0.mono (fun x hx _ => by cases hx)).then k1
  have y1 := k1.heap y0 (by simp; omega)
  have c2 : w1.cell? ⟨K, oo, none⟩ = some (.slice (some ⟨g, o, none⟩) (m + 1) c) := cell_is B1 oo (by rw [Array.getElem?_setIfInBounds_ne (by omega)]; exact HQ0.out.1)
  have u0 := k01.cell HU.out.1 (by simpa using hgK)
  have u1 := k01.cell HU.out.2.1 (by simpa using hgK)
  have u2 := k01.cell HU.out.2.2.1 (by simpa using hgK)
  have u3 := k01.cell HU.out.2.2.2.1 (by simpa using hgK)
  have u4 := k01.cell HU.out.2.2.2.2 (by simpa using hgK)
  have n2 : decide (((m + 1 : Nat) : Int) = 0) = false := decide_eq_false (by omega)
  have n3 : decide ((m : Int) + 1 = 0) = false := decide_eq_false (by omega)
  have n4 : ¬ ((m : Int) + 1 = 0) := by omega
  have HD1 := Lib.hid (HDo.out w1 k01 B1)
  have kw1 : K66 w w1 := fun x cs3 hx => k1.heap (kw0 x cs3 hx) (by
    intro hm
    rw [List.mem_singleton] at hm
    subst hm
    have := kw0 x cs3 hx
    rw [show w0.heap[_]? = _ from B0] at this
    cases this)
  have HX1 := Lib.hid (And.intro y1 kw1)
  clear hB k0 y0 B0 kw0 kw1 B1 k1 y1 c35 f35 n1 HB HDo HCl
  go_wp2_with fail
  refine HD1.out.mono ?_
  rintro e w2 ⟨rfl, cs2, hp, hK2, h66⟩
  have HQ := Lib.hid (And.intro HQ0.out.1 (HQ0.out.2 cs2 w2 hp))
  have y2 := h66 _ _ HX1.out.1
  have hs12 : z < w2.heap.size := heap_lt y2
  have kw2 := HX1.out.2.trans h66
  have k3 : Chg [] w2 (w2.alloc (.cells #[.int .i64 x0, .int .i64 x1, .int .i64 x2, .int .i64 x3, .slice none 0 0] 39)) := Chg.alloc w2 _
  have B3 : SchB (w2.alloc (.cells #[.int .i64 x0, .int .i64 x1, .int .i64 x2, .int .i64 x3, .slice none 0 0] 39)) K cs2 := k3.heap hK2 (by simp)
  have y3 := k3.heap y2 (by simp)
  have HX2 := Lib.hid (And.intro hp (And.intro hK2 (And.intro y2 (And.intro kw2 (And.intro k3 (And.intro B3 y3))))))
  clear hp hK2 h66 c2 u0 u1 u2 u3 u4 n2 n3 n4 y2 kw2 k3 B3 y3
  go_upto_region 8 with fail
  obtain ⟨hp, hK2, y2, kw2, k3, B3, y3⟩ := HX2.out
  generalize w2.alloc (.cells #[.int .i64 x0, .int .i64 x1, .int .i64 x2, .int .i64 x3, .slice none 0 0] 39) = w3 at *
  have hp3 := (hP cs2).box hp k3 (fun x hx => by cases hx) (fun x hx => by cases hx)
  have kw3 := kw2.trans (K66.of0 k3)
  have c5 := cell_is B3 (oo + 3) HQ.out.2
  have f5 := unfrozen B3 (oo + 3)
  have B4 : SchB (w3.setCell ⟨K, oo + 3, none⟩ (.bool true)) K (cs2.setIfInBounds (oo + 3) (.bool true)) := heap_set B3 (oo + 3) _ rfl
  have k4 : Chg [K] w3 (w3.setCell ⟨K, oo + 3, none⟩ (.bool true)) := Chg.set _ _ _ _
  have HX4 := Lib.hid (And.intro hp3 (And.intro kw3 (And.intro B4 (And.intro k4 (And.intro B3 y3)))))
  clear hp hK2 y2 kw2 k3 HX2 hp3 kw3 B4 k4 y3
  go_upto_region 10 with fail
  obtain ⟨hp3, kw3, B4, k4, B3', y3⟩ := HX4.out
  generalize w3.setCell ⟨K, oo + 3, none⟩ (.bool true) = w4 at *
  have hp4 := (hP cs2).keep _ _ _ hp3 k4 (fun x hx => by
    rw [List.mem_singleton] at hx
    subst hx
    exact ⟨_, _, B3, by simp⟩) (fun x hx => by rw [List.mem_singleton] at hx; rw [hx]; exact hKA)
  have kw4 : K66 w w4 := fun x cs3 hx => k4.heap (kw3 x cs3 hx) (by
    intro hm
    rw [List.mem_singleton] at hm
    subst hm
    have := kw3 x cs3 hx
    rw [show w3.heap[_]? = _ from B3] at this
    cases this)
  have y4 := k4.heap y3 (by simp; omega)
  have t0 := cell_is y4 0 rfl
  have t1 := cell_is y4 1 rfl
  have t2 := cell_is y4 2 rfl
  have t3 := cell_is y4 3 rfl
  have t4 := cell_is y4 4 rfl
  have e0 := unfrozen y4 0
  have e1 := unfrozen y4 1
  have e2 := unfrozen y4 2
  have e3 := unfrozen y4 3
  have e4 := unfrozen y4 4
  have HX5 := Lib.hid (And.intro hp4 (And.intro kw4 (And.intro B4 y4)))
  clear hp3 kw3 B4 k4 B3' y3 hp4 kw4 y4 HX4 c5 f5 B3
  go_wp2_with fail
  obtain ⟨hp4, kw4, B4, y4⟩ := HX5.out
  obtain ⟨y11, k11⟩ := set5 (.int .i64 0) (.int .i64 0) (.int .i64 0) (.int .i64 0) (.slice none 0 0) y4
  generalize ((((w4.setCell ⟨z, 0, none⟩ (.int .i64 0)).setCell ⟨z, 1, none⟩ (.int .i64 0)).setCell ⟨z, 2, none⟩ (.int .i64 0)).setCell ⟨z, 3, none⟩ (.int .i64 0)).setCell ⟨z, 4, none⟩ (.slice none 0 0) = w10 at *
  have r0 := cell_is y11 0 rfl
  have r1 := cell_is y11 1 rfl
  have r2 := cell_is y11 2 rfl
  have r3 := cell_is y11 3 rfl
  have r4 := cell_is y11 4 rfl
  have tp8 : Tp w4 [z] [39] := fun x hx => by
    rw [List.mem_singleton] at hx
    subst hx
    exact ⟨_, _, y4, by simp⟩
  refine bodyPost_ret (v := .tuple #[.agg #[.int .i64 0, .int .i64 0, .int .i64 0, .int .i64 0, .slice none 0 0], .int .i64 16]) (by simp [results, Tryz.results10, go_sem, r0, r1, r2, r3, r4]) rfl ?_
  exact ⟨rfl, cs2, (hP cs2).box hp4 k11 tp8 (fun x hx => by rw [List.mem_singleton] at hx; exact HAb.out x (by omega)), k11.heap B4 (by intro hm; rw [List.mem_singleton] at hm; omega), kw4.new k11 (fun x hx => by rw [List.mem_singleton] at hx; omega)⟩
end Go.Proofs.YtliicpedddcfiaaGreat.Co
namespace Go.Proofs.YtliicpedddcfiaaGreat.Sw
open Go.RowKit Go.Lib

theorem chgK {w : World} {K : Nat} {cs : Array Value} (hB : SchB w K cs) : Tp w [K] [72] := fun y hy => by
  rw [List.mem_singleton] at hy
  subst hy
  exact ⟨_, _, hB, by simp⟩
/-- a client's ops that wait. -/
def OpsA (w : World) (lw : Nat) (o : Value) (ss : List OpS) : Prop := ∃ xs, RowO w lw 33 5 o ss.length xs ∧ OpsL w lw ss xs
theorem OpsA.keepT {w w' : World} {S : List Nat} {lw : Nat} {o : Value} {ss : List OpS} (h : OpsA w lw o ss) (hc : Chg S w w') (hS : ∀ x ∈ S, x < w.heap.size → ∀ cs t fr, w.heap[x]? = some (.cells cs t fr) → t ∉ [33, 37, 5]) : OpsA w' lw o ss := by
  obtain ⟨xs, h1, h2⟩ := h
  refine ⟨xs, h1.chgB hc (fun g hg hm => ?_), h2.keepT hc (fun x hx hl cs t fr hh => ?_)⟩
  · obtain ⟨-, cur, hh⟩ := h1.elem hg
    exact hS g hm (heap_lt hh) _ _ _ hh (by decide)
  · have := hS x hx hl cs t fr hh
    simp at this
    exact ⟨this.2.1, this.2.2⟩
theorem OpsA.nil (w : World) (lw : Nat) : OpsA w lw (.slice none 0 0) [] := ⟨[], RowO.of_own (World.ownsRow_nil _ _ _ _), rfl⟩
/-- the first op's cells. -/
theorem OpsA.head {w : World} {lw : Nat} {o : Value} {s : OpS} {ss : List OpS} (h : OpsA w lw o (s :: ss)) :
    ∃ g off c pp pn pc, o = .slice (some ⟨g, off, none⟩) (ss.length + 1) c ∧ ss.length + 1 ≤ c ∧ (∃ cur, w.heap[g]? = some (.cells cur 33 (0, 0))) ∧
      w.cell? ⟨g, off, none⟩ = some (.int .i64 s.k) ∧ w.cell? ⟨g, off + 1, none⟩ = some (.int .i64 s.h) ∧ w.cell? ⟨g, off + 2, none⟩ = some (.int .i64 s.a) ∧ w.cell? ⟨g, off + 3, none⟩ = some (.int .i64 s.l) ∧ w.cell? ⟨g, off + 4, none⟩ = some (.slice pp pn pc) ∧
      OpV w lw s [.int .i64 s.k, .int .i64 s.h, .int .i64 s.a, .int .i64 s.l, .slice pp pn pc] := by
  obtain ⟨xs, h1, u, ys, rfl, h2, h3⟩ := h
  obtain ⟨g, off, c, e, hc, -, hg, hcell⟩ := h1.at_ (by simp)
  obtain ⟨pp, pn, pc, rfl⟩ := h2.form
  exact ⟨g, off, c, pp, pn, pc, e, by simpa using hc, hg, hcell 0 _ rfl, hcell 1 _ rfl, hcell 2 _ rfl, hcell 3 _ rfl, hcell 4 _ rfl, h2⟩
/-- the first op is taken away. -/
theorem OpsA.cut {w : World} {lw g off c : Nat} {s : OpS} {ss : List OpS} (h : OpsA w lw (.slice (some ⟨g, off, none⟩) (ss.length + 1) c) (s :: ss)) : OpsA w lw (cutV g off ss.length c) ss := by
  obtain ⟨xs, h1, u, ys, rfl, h2, h3⟩ := h
  have hu := h2.len
  have hl := h1.1
  rw [List.length_append, hu, List.length_cons, Nat.add_mul] at hl
  rcases h1.2 with ⟨e, _⟩ | ⟨g', o', cap, cur, e, hb, hg, hn, hmax, hcs, hx⟩
  · cases e
  · cases e
    refine ⟨ys, ⟨by omega, Or.inr ?_⟩, h3⟩
    unfold cutV
    by_cases h1c : c = 1
    · subst h1c
      have h0 : ss.length = 0 := by rw [List.length_cons] at hn; omega
      exact ⟨g, off, 0, cur, by simp, hb, hg, by omega, by omega, by omega, fun j hj => by omega⟩
    · refine ⟨g, off + 5, c - 1, cur, by rw [if_neg h1c], hb, hg, by rw [List.length_cons] at hn; omega, by omega, ?_, fun j hj => ?_⟩
      · have : 1 ≤ c := by rw [List.length_cons] at hn; omega
        obtain ⟨k, rfl⟩ : ∃ k, c = k + 1 := ⟨c - 1, by omega⟩
        rw [Nat.add_mul] at hcs
        show off + 5 + (k + 1 - 1) * 5 ≤ cur.size
        rw [Nat.add_sub_cancel]
        omega
      · have := hx (5 + j) (by simp; omega)
        rw [← Nat.add_assoc] at this
        rw [this, List.getElem?_append_right (by omega), hu, Nat.add_sub_cancel_left]
/-- a client as its cells tell it. -/
structure Cln where
  o : Value
  ss : List OpS
  bv : Value
  bs : List Nat
  av : Value
  na : Nat
  q : Bool
def ptrs (bs : List Nat) : List Value := bs.map fun b => .pointer (some ⟨b, 0, none⟩)
def upd (cl : Nat → Cln) (j : Nat) (c : Cln) : Nat → Cln := fun k => if k = j then c else cl k
theorem upd_same (cl : Nat → Cln) (j : Nat) (c : Cln) : upd cl j c j = c := if_pos rfl
theorem upd_ne {cl : Nat → Cln} {j k : Nat} {c : Cln} (h : k ≠ j) : upd cl j c k = cl k := if_neg h
theorem upd_two (cl : Nat → Cln) (j : Nat) (c c' : Cln) : upd (upd cl j c) j c' = upd cl j c' := funext fun k => by
  by_cases h : k = j
  · rw [h, upd_same, upd_same]
  · rw [upd_ne h, upd_ne h, upd_ne h]
/-- a schedule's clients, beside its block and the answers' rows. -/
structure SchM (w : World) (lw P : Nat) (cl : Nat → Cln) (al : Value) (na : Nat) (ev : Int) (cs : Array Value) : Prop where
  c1 : cs[1]? = some (.pointer (some ⟨P, 0, none⟩))
  c34 : cs[34]? = some al
  c35 : cs[35]? = some (.int .i64 ev)
  cell : ∀ j, j < 8 → cs[2 + 4 * j]? = some (cl j).o ∧ cs[2 + 4 * j + 1]? = some (cl j).bv ∧ cs[2 + 4 * j + 2]? = some (cl j).av ∧ cs[2 + 4 * j + 3]? = some (.bool (cl j).q)
  ops : ∀ j, j < 8 → OpsA w lw (cl j).o (cl j).ss
  ob : ∀ j, j < 8 → w.ownsRow lw 83 1 (cl j).bv (cl j).bs.length (ptrs (cl j).bs)
  oa : ∃ xa, w.ownsRow lw 83 1 al na xa
  ne : ∀ j, j < 8 → ∀ x, (cl j).bv.ownBlock = some x → al.ownBlock ≠ some x
  nb : ∀ j k, j < 8 → k < 8 → j ≠ k → ∀ x, (cl j).bv.ownBlock = some x → (cl k).bv.ownBlock ≠ some x
/-- the answers' rows, each in a block of its own. -/
structure AnsAt (w : World) (lw : Nat) (cl : Nat → Cln) : Prop where
  own : ∀ j, j < 8 → ∃ xs, w.ownsRow lw 39 5 (cl j).av (cl j).na xs
  ne : ∀ j k, j < 8 → k < 8 → j ≠ k → ∀ x, (cl j).av.ownBlock = some x → (cl k).av.ownBlock ≠ some x
theorem SchM.keep {w w' : World} {S : List Nat} {lw P na : Nat} {cl : Nat → Cln} {al : Value} {ev : Int} {cs : Array Value} (h : SchM w lw P cl al na ev cs) (hc : Chg S w w') (hS : ∀ x ∈ S, x < w.heap.size → ∀ cs t fr, w.heap[x]? = some (.cells cs t fr) → t ∉ [33, 37, 5, 83]) : SchM w' lw P cl al na ev cs := by
  have h83 : ∀ {v n xs}, w.ownsRow lw 83 1 v n xs → w'.ownsRow lw 83 1 v n xs := fun ho => own_chgB ho hc (fun g hg hm => by
    obtain ⟨-, cur, hh⟩ := own_elem ho hg
    exact hS g hm (heap_lt hh) _ _ _ hh (by decide))
  refine ⟨h.c1, h.c34, h.c35, h.cell, fun j hj => (h.ops j hj).keepT hc (fun x hx hl cs t fr hh hm => hS x hx hl cs t fr hh ?_), fun j hj => h83 (h.ob j hj), h.oa.imp fun _ ho => h83 ho, h.ne, h.nb⟩
  simp only [List.mem_cons, List.not_mem_nil, or_false] at hm ⊢
  rcases hm with rfl | rfl | rfl <;> simp
theorem SchM.tp {w w' : World} {S ts : List Nat} {lw P na : Nat} {cl : Nat → Cln} {al : Value} {ev : Int} {cs : Array Value} (h : SchM w lw P cl al na ev cs) (hc : Chg S w w') (ht : Tp w S ts) (hts : ∀ t ∈ ts, t ∉ [33, 37, 5, 83]) : SchM w' lw P cl al na ev cs :=
  h.keep hc (fun x hx _ cs t fr hh => by
    obtain ⟨cs2, t2, h2, h3⟩ := ht x hx
    rw [h2] at hh
    cases hh
    exact hts _ h3)
theorem SchM.keep0 {w w' : World} {lw P na : Nat} {cl : Nat → Cln} {al : Value} {ev : Int} {cs : Array Value} (h : SchM w lw P cl al na ev cs) (hc : Chg [] w w') : SchM w' lw P cl al na ev cs := h.keep hc (fun x hx => by cases hx)
theorem SchM.cs_ {w w' : World} {lw P na : Nat} {cl : Nat → Cln} {al : Value} {ev : Int} {cs : Array Value} (h : SchM w lw P cl al na ev cs) (hc : Cs lw w w') : SchM w' lw P cl al na ev cs := by
  obtain ⟨U, h1, h2⟩ := hc
  refine h.keep h1 (fun x hx hl cs t fr hh hm => ?_)
  exact (by decide : ∀ u ∈ ([105, 184, 212, 237, 247, 93, 97, 34, 3, 240, 159] : List Nat), u ∉ [33, 37, 5, 83]) t ((h2 x hx hl).2 cs t fr hh) hm
theorem SchM.ow {w w' : World} {base lw P na : Nat} {cl : Nat → Cln} {al : Value} {ev : Int} {cs : Array Value} (h : SchM w lw P cl al na ev cs) (hc : Ow base w w') : SchM w' lw P cl al na ev cs := by
  obtain ⟨U, h1, h2⟩ := hc
  refine h.keep h1 (fun x hx hl cs t fr hh hm => ?_)
  rcases (h2 x hx).2 cs t fr hh with rfl | rfl | rfl <;> exact absurd hm (by decide)
/-- another count of the steps. -/
theorem SchM.tick {w : World} {lw P na : Nat} {cl : Nat → Cln} {al : Value} {ev ev' : Int} {cs : Array Value} (h : SchM w lw P cl al na ev cs) : SchM w lw P cl al na ev' (cs.setIfInBounds 35 (.int .i64 ev')) := by
  have hs : 35 < cs.size := (Array.getElem?_eq_some_iff.1 h.c35).1
  have hn : ∀ i, i ≠ 35 → (cs.setIfInBounds 35 (.int .i64 ev'))[i]? = cs[i]? := fun i hi => Array.getElem?_setIfInBounds_ne (Ne.symm hi)
  refine ⟨by rw [hn 1 (by decide)]; exact h.c1, by rw [hn 34 (by decide)]; exact h.c34, by rw [Array.getElem?_setIfInBounds_self_of_lt hs], fun j hj => ?_, h.ops, h.ob, h.oa, h.ne, h.nb⟩
  rw [hn _ (by omega), hn _ (by omega), hn _ (by omega), hn _ (by omega)]
  exact h.cell j hj
theorem SchM.size {w : World} {lw P na : Nat} {cl : Nat → Cln} {al : Value} {ev : Int} {cs : Array Value} (h : SchM w lw P cl al na ev cs) : 35 < cs.size := (Array.getElem?_eq_some_iff.1 h.c35).1
/-- a client's ops, answers and flag are turned. -/
theorem SchM.turn {w : World} {lw P na : Nat} {cl : Nat → Cln} {al : Value} {ev : Int} {cs cs' : Array Value} {j : Nat} {c : Cln} (h : SchM w lw P cl al na ev cs) (hj : j < 8) (hb : c.bv = (cl j).bv ∧ c.bs = (cl j).bs) (ho : OpsA w lw c.o c.ss)
    (hc : cs'[2 + 4 * j]? = some c.o ∧ cs'[2 + 4 * j + 2]? = some c.av ∧ cs'[2 + 4 * j + 3]? = some (.bool c.q)) (hr : ∀ i, i ≠ 2 + 4 * j → i ≠ 2 + 4 * j + 2 → i ≠ 2 + 4 * j + 3 → cs'[i]? = cs[i]?) : SchM w lw P (upd cl j c) al na ev cs' := by
  refine ⟨by rw [hr 1 (by omega) (by omega) (by omega)]; exact h.c1, by rw [hr 34 (by omega) (by omega) (by omega)]; exact h.c34, by rw [hr 35 (by omega) (by omega) (by omega)]; exact h.c35, fun k hk => ?_, fun k hk => ?_, fun k hk => ?_, h.oa, fun k hk x hx => ?_, fun k l hk hl hkl x hx => ?_⟩
  · by_cases e : k = j
    · subst e
      rw [upd_same, hr (2 + 4 * k + 1) (by omega) (by omega) (by omega), hb.1]
      exact ⟨hc.1, (h.cell k hk).2.1, hc.2.1, hc.2.2⟩
    · rw [upd_ne e, hr _ (by omega) (by omega) (by omega), hr _ (by omega) (by omega) (by omega), hr _ (by omega) (by omega) (by omega), hr _ (by omega) (by omega) (by omega)]
      exact h.cell k hk
  · by_cases e : k = j
    · subst e
      rw [upd_same]
      exact ho
    · rw [upd_ne e]
      exact h.ops k hk
  · by_cases e : k = j
    · subst e
      rw [upd_same, hb.1, hb.2]
      exact h.ob k hk
    · rw [upd_ne e]
      exact h.ob k hk
  · have e2 : (upd cl j c k).bv = (cl k).bv := by
      by_cases e : k = j
      · subst e; rw [upd_same, hb.1]
      · rw [upd_ne e]
    rw [e2] at hx
    exact h.ne k hk x hx
  · have e2 : ∀ k, (upd cl j c k).bv = (cl k).bv := fun k => by
      by_cases e : k = j
      · subst e; rw [upd_same, hb.1]
      · rw [upd_ne e]
    rw [e2] at hx ⊢
    exact h.nb k l hk hl hkl x hx
theorem AnsAt.keep {w w' : World} {S : List Nat} {lw : Nat} {cl : Nat → Cln} (h : AnsAt w lw cl) (hc : Chg S w w') (hS : ∀ x ∈ S, x < w.heap.size → ∀ cs t fr, w.heap[x]? = some (.cells cs t fr) → t ≠ 39) : AnsAt w' lw cl :=
  ⟨fun j hj => by
    obtain ⟨xs, ho⟩ := h.own j hj
    exact ⟨xs, own_chgB ho hc (fun g hg hm => by
      obtain ⟨-, cur, hh⟩ := own_elem ho hg
      exact hS g hm (heap_lt hh) _ _ _ hh rfl)⟩, h.ne⟩
theorem AnsAt.k66 {w w' : World} {lw : Nat} {cl : Nat → Cln} (h : AnsAt w lw cl) (k : K66 w w') : AnsAt w' lw cl :=
  ⟨fun j hj => by
    obtain ⟨xs, ho⟩ := h.own j hj
    exact ⟨xs, own_k66 ho k⟩, h.ne⟩
theorem AnsAt.congr {w : World} {lw : Nat} {cl cl' : Nat → Cln} (h : AnsAt w lw cl) (he : ∀ k, k < 8 → (cl' k).av = (cl k).av ∧ (cl' k).na = (cl k).na) : AnsAt w lw cl' :=
  ⟨fun j hj => by rw [(he j hj).1, (he j hj).2]; exact h.own j hj, fun j k hj hk hjk x hx => by rw [(he j hj).1] at hx; rw [(he k hk).1]; exact h.ne j k hj hk hjk x hx⟩
/-- a row kept, block by block. -/
theorem own_by {w w' : World} {lw n : Nat} {v : Value} {xs : List Value} (h : w.ownsRow lw 39 5 v n xs) (k : ∀ g cs, v.ownBlock = some g → w.heap[g]? = some (.cells cs 39 (0, 0)) → w'.heap[g]? = some (.cells cs 39 (0, 0))) : w'.ownsRow lw 39 5 v n xs := by
  refine ⟨h.1, ?_⟩
  rcases h.2 with h2 | ⟨g, cap, cur, e, hA, hg, hr⟩
  · exact Or.inl h2
  · exact Or.inr ⟨g, cap, cur, e, hA, k g cur (by rw [e]; rfl) hg, hr⟩
/-- a schedule with its clients. -/
def SchG (w : World) (lw K P : Nat) (cl : Nat → Cln) (na : Nat) (ev : Int) : Prop := ∃ al cs, SchM w lw P cl al na ev cs ∧ SchB w K cs ∧ AnsAt w lw cl
theorem SchG.keep {w w' : World} {S : List Nat} {lw K P na : Nat} {cl : Nat → Cln} {ev : Int} (h : SchG w lw K P cl na ev) (hc : Chg S w w') (hS : ∀ x ∈ S, x < w.heap.size → ∀ cs t fr, w.heap[x]? = some (.cells cs t fr) → t ∉ [33, 37, 5, 83, 72, 39]) : SchG w' lw K P cl na ev := by
  obtain ⟨al, cs, h1, h2, h3⟩ := h
  refine ⟨al, cs, h1.keep hc (fun x hx hl cs t fr hh hm => hS x hx hl cs t fr hh (by revert hm; simp only [List.mem_cons, List.not_mem_nil, or_false]; rintro (rfl | rfl | rfl | rfl) <;> simp)), hc.heap h2 (fun hm => hS K hm (heap_lt h2) _ _ _ h2 (by decide)), h3.keep hc (fun x hx hl cs t fr hh e => hS x hx hl cs t fr hh (by subst e; decide))⟩
theorem SchG.keep0 {w w' : World} {lw K P na : Nat} {cl : Nat → Cln} {ev : Int} (h : SchG w lw K P cl na ev) (hc : Chg [] w w') : SchG w' lw K P cl na ev := h.keep hc (fun x hx => by cases hx)
theorem SchG.cs_ {w w' : World} {lw K P na : Nat} {cl : Nat → Cln} {ev : Int} (h : SchG w lw K P cl na ev) (hc : Cs lw w w') : SchG w' lw K P cl na ev := by
  obtain ⟨U, h1, h2⟩ := hc
  exact h.keep h1 (fun x hx hl cs t fr hh hm => (by decide : ∀ u ∈ ([105, 184, 212, 237, 247, 93, 97, 34, 3, 240, 159] : List Nat), u ∉ [33, 37, 5, 83, 72, 39]) t ((h2 x hx hl).2 cs t fr hh) hm)
/-- what stands beside, and is kept while the schedule and answers change. -/
def Kept (lw : Nat) (S1 : List Nat → Nat → World → Prop) : Prop := ∀ bs na a b S, S1 bs na a → Chg S a b → Tp a S [72, 39] → (∀ x ∈ S, lw ≤ x) → S1 bs na b
/-- what an op leaves: the client's begins may be more. -/
def PM (lw P : Nat) (cl : Nat → Cln) (j : Nat) (ev : Int) (S1 : List Nat → Nat → World → Prop) (cs : Array Value) (w : World) : Prop :=
  ∃ bv bs al na, SchM w lw P (upd cl j { cl j with bv := bv, bs := bs }) al na ev cs ∧ S1 bs na w
theorem PM.cl {lw P : Nat} {cl : Nat → Cln} {j : Nat} {ev : Int} {S1 : List Nat → Nat → World → Prop} (h : Kept lw S1) (cs : Array Value) : Co.ClA (fun x => lw ≤ x) (PM lw P cl j ev S1 cs) := ⟨fun a b S hp hc ht hl => by
  obtain ⟨bv, bs, al, na, h1, h2⟩ := hp
  exact ⟨bv, bs, al, na, h1.tp hc ht (by decide), h _ _ _ _ _ h2 hc ht hl⟩⟩
theorem PM.own {lw P : Nat} {cl : Nat → Cln} {j : Nat} {ev : Int} {S1 : List Nat → Nat → World → Prop} {cs : Array Value} {w : World} (h : PM lw P cl j ev S1 cs w) (hj : j < 8) : cs[2 + 4 * j]? = some (cl j).o ∧ cs[2 + 4 * j + 2]? = some (cl j).av ∧ cs[2 + 4 * j + 3]? = some (.bool (cl j).q) := by
  obtain ⟨bv, bs, al, na, h1, -⟩ := h
  have := h1.cell j hj
  rw [upd_same] at this
  exact ⟨this.1, this.2.2⟩
theorem cli_nat (j : Nat) : 2 + 4 * j = cli ((j + 1 : Nat) : Int) := by unfold cli; omega
set_option maxHeartbeats 1000000 in
/-- a client's step that is told. -/
theorem told_gen (w : World) {j K P lw na : Nat} {cl : Nat → Cln} {ev : Int} {s : OpS} {ss : List OpS} {S1 : List Nat → Nat → World → Prop} {x0 x1 x2 x3 : Int} (hj : j < 8) (h : SchG w lw K P cl na ev) (hss : (cl j).ss = s :: ss) (hev : 0 ≤ ev ∧ ev ≤ 1000000) (hKl : lw ≤ K) (hlw : lw ≤ w.heap.size) (hna : (cl j).na ≤ 900) (hS1 : Kept lw S1)
    (HD : ∀ wx cs1 al pp pn pc, Chg [K] w wx → SchB wx K cs1 → SchM wx lw P cl al na (ev + 1) cs1 → OpV wx lw s [.int .i64 s.k, .int .i64 s.h, .int .i64 s.a, .int .i64 s.l, .slice pp pn pc] →
      Calls Tryz.prog 22 #[.pointer (some ⟨K, 0, none⟩), .pointer (some ⟨K, 2 + 4 * j, none⟩), .agg #[.int .i64 s.k, .int .i64 s.h, .int .i64 s.a, .int .i64 s.l, .slice pp pn pc]] wx (DoR wx K (PM lw P cl j (ev + 1) S1) x0 x1 x2 x3 true)) :
    Calls Tryz.prog 10 #[.pointer (some ⟨K, 0, none⟩), .int .i64 ((j + 1 : Nat) : Int)] w fun e w' => e = .returned (.tuple #[.agg #[.int .i64 x0, .int .i64 x1, .int .i64 x2, .int .i64 x3, .slice none 0 0], .int .i64 0]) ∧
      ∃ c na', SchG w' lw K P (upd cl j c) na' (ev + 1) ∧ c.ss = ss ∧ c.na = (cl j).na + 1 ∧ c.q = false ∧ S1 c.bs na' w' := by
  obtain ⟨al, cs, hM, hB, hA⟩ := h
  have hops := hM.ops j hj
  have hcell := hM.cell j hj
  rw [hss] at hops
  obtain ⟨g, off, c, pp, pn, pc, eo, hc, ⟨cur, hg⟩, q0, q1, q2, q3, q4, hov⟩ := hops.head
  have hgK : g ≠ K := heap_ne hg hB (by simp)
  obtain ⟨xa, hav⟩ := hA.own j hj
  refine (Co.step_told w (A := fun x => lw ≤ x) (P := PM lw P cl j (ev + 1) S1) (q := (cl j).q) (av := (cl j).av) (na := (cl j).na) (xa := xa) (m := ss.length) (x0 := x0) (x1 := x1) (x2 := x2) (x3 := x3) (cl := ((j + 1 : Nat) : Int)) ⟨by omega, by omega⟩ (cli_nat j) hlw (fun x hx => Nat.le_trans hlw hx) hKl (fun cs => PM.cl hS1 cs) hB hM.c1 (by rw [hcell.1, eo]) hM.c35 hev hc q0 q1 q2 q3 q4 hgK ?_ ?_ hav (fun g hg => (own_elem hav hg).1) hna).mono ?_
  · intro wx kx hBx
    have tK := chgK hB
    exact HD wx _ al pp pn pc kx hBx (hM.tick.tp kx tK (by decide)) (hov.keepT kx (fun y hy _ cs t fr hh => by
      obtain ⟨cs2, t2, h2, h3⟩ := tK y hy
      rw [h2] at hh
      cases hh
      rw [List.mem_singleton] at h3
      subst h3
      exact ⟨by decide, by decide⟩))
  · intro cs2 w2 hp
    have := hp.own hj
    rw [eo] at this
    exact this
  · rintro e w' ⟨rfl, av', cs2, ⟨bv, bs, al', na', h1, h2⟩, hB', ho, hnew, h39⟩
    have hs := h1.size
    refine ⟨rfl, ⟨cutV g off ss.length c, ss, bv, bs, av', (cl j).na + 1, false⟩, na', ⟨al', _, ?_, hB', ?_⟩, rfl, rfl, rfl, h2⟩
    · have h3 := h1.turn (c := ⟨cutV g off ss.length c, ss, bv, bs, av', (cl j).na + 1, false⟩) (cs' := ((cs2.setIfInBounds (2 + 4 * j) (cutV g off ss.length c)).setIfInBounds (2 + 4 * j + 3) (.bool false)).setIfInBounds (2 + 4 * j + 2) av') hj (by rw [upd_same]; exact ⟨rfl, rfl⟩) (by
        have h4 := h1.ops j hj
        rw [upd_same] at h4
        have h5 : OpsA w' lw (cl j).o (cl j).ss := h4
        rw [eo, hss] at h5
        exact h5.cut) ?_ ?_
      · rw [upd_two] at h3
        exact h3
      · refine ⟨?_, ?_, ?_⟩
        · rw [Array.getElem?_setIfInBounds_ne (by omega), Array.getElem?_setIfInBounds_ne (by omega), Array.getElem?_setIfInBounds_self_of_lt (by omega)]
        · rw [Array.getElem?_setIfInBounds_self_of_lt (by simp; omega)]
        · rw [Array.getElem?_setIfInBounds_ne (by omega), Array.getElem?_setIfInBounds_self_of_lt (by simp; omega)]
      · intro i i1 i2 i3
        rw [Array.getElem?_setIfInBounds_ne (by omega), Array.getElem?_setIfInBounds_ne (by omega), Array.getElem?_setIfInBounds_ne (by omega)]
    · have hoth : ∀ k, k < 8 → k ≠ j → ∃ xs, w'.ownsRow lw 39 5 (cl k).av (cl k).na xs := fun k hk hkj => by
        obtain ⟨xs, hk2⟩ := hA.own k hk
        exact ⟨xs, own_by hk2 (fun g cs hg hh => h39 g cs hh (hA.ne k j hk hj hkj g hg))⟩
      have hlt : ∀ k, k < 8 → ∀ x, (cl k).av.ownBlock = some x → x < w.heap.size := fun k hk x hx => by
        obtain ⟨xs, hk2⟩ := hA.own k hk
        obtain ⟨-, cur, hh⟩ := own_elem hk2 hx
        exact heap_lt hh
      refine ⟨fun k hk => ?_, fun k l hk hl hkl x hx => ?_⟩
      · by_cases e : k = j
        · subst e
          rw [upd_same]
          exact ⟨_, ho⟩
        · rw [upd_ne e]
          exact hoth k hk e
      · by_cases e : k = j
        · subst e
          rw [upd_same] at hx
          rw [upd_ne (Ne.symm hkl)]
          intro hx2
          rcases hnew x hx with h | h
          · exact hA.ne k l hk hl hkl x h hx2
          · have := hlt l hl x hx2
            omega
        · rw [upd_ne e] at hx
          by_cases e2 : l = j
          · subst e2
            rw [upd_same]
            intro hx2
            rcases hnew x hx2 with h | h
            · exact hA.ne k l hk hl hkl x hx h
            · have := hlt k hk x hx
              omega
          · rw [upd_ne e2]
            exact hA.ne k l hk hl hkl x hx
set_option maxHeartbeats 1000000 in
/-- a client's step that waits. -/
theorem wait_gen (w : World) {j K P lw na : Nat} {cl : Nat → Cln} {ev : Int} {s : OpS} {ss : List OpS} {S1 : List Nat → Nat → World → Prop} {x0 x1 x2 x3 : Int} (hj : j < 8) (h : SchG w lw K P cl na ev) (hss : (cl j).ss = s :: ss) (hev : 0 ≤ ev ∧ ev ≤ 1000000) (hKl : lw ≤ K) (hlw : lw ≤ w.heap.size) (hS1 : Kept lw S1)
    (HD : ∀ wx cs1 al pp pn pc, Chg [K] w wx → SchB wx K cs1 → SchM wx lw P cl al na (ev + 1) cs1 → OpV wx lw s [.int .i64 s.k, .int .i64 s.h, .int .i64 s.a, .int .i64 s.l, .slice pp pn pc] →
      Calls Tryz.prog 22 #[.pointer (some ⟨K, 0, none⟩), .pointer (some ⟨K, 2 + 4 * j, none⟩), .agg #[.int .i64 s.k, .int .i64 s.h, .int .i64 s.a, .int .i64 s.l, .slice pp pn pc]] wx (DoR wx K (PM lw P cl j (ev + 1) S1) x0 x1 x2 x3 false)) :
    Calls Tryz.prog 10 #[.pointer (some ⟨K, 0, none⟩), .int .i64 ((j + 1 : Nat) : Int)] w fun e w' => e = .returned (.tuple #[.agg #[.int .i64 0, .int .i64 0, .int .i64 0, .int .i64 0, .slice none 0 0], .int .i64 16]) ∧
      ∃ c na', SchG w' lw K P (upd cl j c) na' (ev + 1) ∧ c.ss = s :: ss ∧ c.na = (cl j).na ∧ c.q = true ∧ S1 c.bs na' w' := by
  obtain ⟨al, cs, hM, hB, hA⟩ := h
  have hops := hM.ops j hj
  have hcell := hM.cell j hj
  rw [hss] at hops
  obtain ⟨g, off, c, pp, pn, pc, eo, hc, ⟨cur, hg⟩, q0, q1, q2, q3, q4, hov⟩ := hops.head
  have hgK : g ≠ K := heap_ne hg hB (by simp)
  refine (Co.step_wait w (A := fun x => lw ≤ x) (P := PM lw P cl j (ev + 1) S1) (q := (cl j).q) (m := ss.length) (x0 := x0) (x1 := x1) (x2 := x2) (x3 := x3) (cl := ((j + 1 : Nat) : Int)) ⟨by omega, by omega⟩ (cli_nat j) (fun x hx => Nat.le_trans hlw hx) hKl (fun cs => PM.cl hS1 cs) hB hM.c1 (by rw [hcell.1, eo]) hM.c35 hev hc q0 q1 q2 q3 q4 hgK ?_ ?_).mono ?_
  · intro wx kx hBx
    have tK := chgK hB
    exact HD wx _ al pp pn pc kx hBx (hM.tick.tp kx tK (by decide)) (hov.keepT kx (fun y hy _ cs t fr hh => by
      obtain ⟨cs2, t2, h2, h3⟩ := tK y hy
      rw [h2] at hh
      cases hh
      rw [List.mem_singleton] at h3
      subst h3
      exact ⟨by decide, by decide⟩))
  · intro cs2 w2 hp
    exact (hp.own hj).2.2
  · rintro e w' ⟨rfl, cs2, ⟨bv, bs, al', na', h1, h2⟩, hB', h66⟩
    have hs := h1.size
    have hw := h1.cell j hj
    rw [upd_same] at hw
    refine ⟨rfl, ⟨(cl j).o, s :: ss, bv, bs, (cl j).av, (cl j).na, true⟩, na', ⟨al', _, ?_, hB', ?_⟩, rfl, rfl, rfl, h2⟩
    · have h3 := h1.turn (c := ⟨(cl j).o, s :: ss, bv, bs, (cl j).av, (cl j).na, true⟩) (cs' := cs2.setIfInBounds (2 + 4 * j + 3) (.bool true)) hj (by rw [upd_same]; exact ⟨rfl, rfl⟩) (by
        have h4 := h1.ops j hj
        rw [upd_same] at h4
        have h5 : OpsA w' lw (cl j).o (cl j).ss := h4
        rw [hss] at h5
        exact h5) ?_ ?_
      · rw [upd_two] at h3
        exact h3
      · refine ⟨?_, ?_, ?_⟩
        · rw [Array.getElem?_setIfInBounds_ne (by omega)]; exact hw.1
        · rw [Array.getElem?_setIfInBounds_ne (by omega)]; exact hw.2.2.1
        · rw [Array.getElem?_setIfInBounds_self_of_lt (by omega)]
      · intro i i1 i2 i3
        rw [Array.getElem?_setIfInBounds_ne (by omega)]
    · refine (hA.k66 h66).congr (fun k hk => ?_)
      by_cases e : k = j
      · subst e
        rw [upd_same]
        exact ⟨rfl, rfl⟩
      · rw [upd_ne e]
        exact ⟨rfl, rfl⟩
end Go.Proofs.YtliicpedddcfiaaGreat.Sw
namespace Go.Proofs.YtliicpedddcfiaaGreat
open Go.RowKit Go.Lib

/-- one transaction's part is put behind those of an own row, as a step of a region that draws. -/
theorem step_append_txn {ops : Array Oper} {o : Oper} {a : Act} {w : World} {K : Act → World → Prop} {Q : Exit → Act → World → Prop} {E : Prop} (hgd : o.guard = none) (s x : Operand)
    (ho : o.op = .call { callee := .builtin .append, args := #[s, x], argTypes := #[132, 132] }) (base : Nat) (v : Value) (n : Nat) (xs : List Value) (hs : a.eval s = v) (hown : w.ownsRow base 176 2 v n xs) (b c : Nat) (u0 u1 : Value)
    (hx : a.eval x = .slice (some ⟨b, 0, none⟩) 1 c) (c0 : w.cell? ⟨b, 0, none⟩ = some u0) (c1 : w.cell? ⟨b, 1, none⟩ = some u1) (h1 : u0.oneCell' = true ∧ u1.oneCell' = true) (hn : n ≤ 1000000) (hbase : base ≤ w.heap.size)
    (h : ∀ g cap w', w'.ownsRow base 176 2 (.slice (some ⟨g, 0, none⟩) (n + 1) cap) (n + 1) (xs ++ [u0, u1]) → Chg v.ownBlock.toList w w' → K (a.put o.dst (.slice (some ⟨g, 0, none⟩) (n + 1) cap)) w') :
    if Region.wanted o (yielded ops a.tmps) = true then Oper.wp Tryz.prog o a w K Q else E := by
  obtain ⟨i, hi0, hz, hz1, hz2⟩ := info_parts inf189
  refine step_append_lies w hgd s x 132 ho base 176 i _ 2 32 ty100 hi0 hz hz1 hz2 rfl (by decide) v n xs hs hown ⟨b, 0, none⟩ 1 c [u0, u1] hx rfl ?_ ?_ (by decide) (by unfold maxLen; omega) (by omega) hbase _ rfl ?_
  · intro j u hu
    rw [add_lit, Nat.zero_add]
    match j with
    | 0 => cases hu; exact c0
    | 1 => cases hu; exact c1
    | j + 2 => simp at hu
  · intro u hu
    simp at hu
    rcases hu with rfl | rfl
    · exact h1.1
    · exact h1.2
  · intro g cap w' h2 h3 _ _
    refine h g cap w' h2 ?_
    cases hv : v.ownBlock with
    | none => rw [hv] at h3; exact Chg.of_grown0 h3
    | some k => rw [hv] at h3; exact Chg.of_grown h3
/-- transactions' parts in an own row: the time and the puts of each. -/
def TxsAt (w : World) (lo : Nat) (v : Value) (l : List (Nat × List (Int × List UInt8))) : Prop :=
  ∃ xs, w.ownsRow lo 176 2 v l.length xs ∧ ∀ i (h : i < l.length), xs[i * 2]? = some (.int .i64 (l[i].1 : Nat)) ∧ ∃ pb cb, xs[i * 2 + 1]? = some (.slice pb l[i].2.length cb) ∧ PutsAt w lo (.slice pb l[i].2.length cb) l[i].2
theorem TxsAt.nil (w : World) (lo : Nat) : TxsAt w lo (.slice none 0 0) [] := ⟨[], World.ownsRow_nil _ _ _ _, fun i h => by simp at h⟩
theorem TxsAt.keep {w w' : World} {lo : Nat} {v : Value} {l : List (Nat × List (Int × List UInt8))} (h : TxsAt w lo v l) (hc : Chg [] w w') : TxsAt w' lo v l := by
  obtain ⟨xs, ho, hx⟩ := h
  refine ⟨xs, own_keep ho hc.below0, fun i hi => ?_⟩
  obtain ⟨h0, pb, cb, h1, h2⟩ := hx i hi
  exact ⟨h0, pb, cb, h1, h2.keep0 hc⟩
theorem TxsAt.push {w w' : World} {lo g cap : Nat} {v : Value} {l : List (Nat × List (Int × List UInt8))} {k : Nat} {pb : Option Addr} {cb : Nat} {p : List (Int × List UInt8)} {xs : List Value} (hx : ∀ i (h : i < l.length), xs[i * 2]? = some (.int .i64 (l[i].1 : Nat)) ∧ ∃ pb cb, xs[i * 2 + 1]? = some (.slice pb l[i].2.length cb) ∧ PutsAt w lo (.slice pb l[i].2.length cb) l[i].2)
    (hl : xs.length = l.length * 2) (hv : ∀ g, v.ownBlock = some g → ∃ cs, w.heap[g]? = some (.cells cs 176 (0, 0))) (ho : w'.ownsRow lo 176 2 (.slice (some ⟨g, 0, none⟩) (l.length + 1) cap) (l.length + 1) (xs ++ [.int .i64 k, .slice pb p.length cb])) (hc : Chg v.ownBlock.toList w w') (hp : PutsAt w lo (.slice pb p.length cb) p) : TxsAt w' lo (.slice (some ⟨g, 0, none⟩) (l.length + 1) cap) (l ++ [(k, p)]) := by
  have av : Av w v.ownBlock.toList [37, 5] := fun x hx cs t fr hh ht => by
    obtain ⟨cs2, h2⟩ := hv x (by simpa using hx)
    rw [h2] at hh
    cases hh
    simp at ht
  have keepP : ∀ {pv q}, PutsAt w lo pv q → PutsAt w' lo pv q := fun {pv q} h => h.keep hc (fun x hx cs t fr hh ht => av x hx cs t fr hh (by simp at ht; simp [ht])) (fun g' hg' hm => by
    obtain ⟨-, cs, h1⟩ := h.block g' hg'
    exact av g' hm cs _ _ h1 (by simp))
  refine ⟨_, by rw [List.length_append]; exact ho, fun i hi => ?_⟩
  by_cases h : i < l.length
  · obtain ⟨h0, pb', cb', h1, h2⟩ := hx i h
    rw [List.getElem_append_left h]
    exact ⟨by rw [List.getElem?_append_left (by omega)]; exact h0, pb', cb', by rw [List.getElem?_append_left (by omega)]; exact h1, keepP h2⟩
  · have hi2 : i = l.length := by simp at hi; omega
    subst hi2
    have e : (l ++ [(k, p)])[l.length]'(by simp) = (k, p) := by simp
    rw [e]
    exact ⟨by rw [← hl]; simp, pb, cb, by rw [← hl, List.getElem?_append_right (by omega)]; simp, keepP hp⟩
/-- a transaction that waits: its handle, its blocks, its times, its buffer. -/
structure Wt where
  h : Int
  T : Nat
  W : Nat
  rw : Nat
  Q : Nat
  k : Nat
  t : Int
  L : List (Int × Value)
  D : Int → List UInt8
/-- .. in memory. -/
structure WtOk (w : World) (Lr : List (Int × Value)) (x : Wt) : Prop where
  tab : getL Lr x.h = some (.pointer (some ⟨x.T, 0, none⟩))
  tx : TxW w x.T x.W x.Q x.k x.t
  buf : BufAt w x.W x.rw x.L
  bd : BufD w x.L x.D
  bk : ∀ p ∈ x.L, 0 ≤ p.1 ∧ p.1 < 258
  len : x.L.length ≤ 16
theorem WtOk.keep {w w' : World} {Lr : List (Int × Value)} {x : Wt} (h : WtOk w Lr x) (hc : Chg [] w w') : WtOk w' Lr x := ⟨h.tab, hc.heap h.tx (by simp), h.buf.keep hc (by simp) (by simp), h.bd.keep hc, h.bk, h.len⟩
/-- what waits, in plain words. -/
def wtL (xs : List Wt) : List (Nat × List (Int × List UInt8)) := xs.map fun x => (x.k, putsL x.L x.D)
theorem wtL_length (xs : List Wt) : (wtL xs).length = xs.length := by simp [wtL]
theorem wtL_take (xs : List Wt) (j : Nat) (h : j < xs.length) : wtL (xs.take (j + 1)) = wtL (xs.take j) ++ [((xs[j]).k, putsL (xs[j]).L (xs[j]).D)] := by
  rw [List.take_succ_eq_append_getElem h, wtL, List.map_append]
  rfl
set_option maxRecDepth 100000 in
set_option maxHeartbeats 8000000 in
theorem waiting_many (w : World) {M X B r cq n lq : Nat} {pq : Option Addr} {out num bas last given : Int} {rd : Bool} {Lr : List (Int × Value)} {xs : List Wt} (hM : MgrG w M X B r (.slice pq n cq) out num bas last given rd)
    (hq : w.ownsRow lq 3 1 (.slice pq n cq) n ((xs.map (fun x => x.h)).map encZ)) (hn : xs.length = n) (hn1 : n ≤ 1000) (hr : MapAt w r Lr) (hx : ∀ x ∈ xs, WtOk w Lr x) :
    Calls Tryz.prog 93 #[.pointer (some ⟨M, 0, none⟩)] w fun e w' => ∃ v, e = .returned v ∧ Chg [] w w' ∧ TxsAt w' w.heap.size v (wtL xs) := by
  have m3 : w.cell? ⟨M, 3, none⟩ = some (.slice pq n cq) := cell_is hM 3 rfl
  have m2 : w.cell? ⟨M, 2, none⟩ = some (.map (some r)) := cell_is hM 2 rfl
  obtain ⟨pa', cq', e', hcq⟩ := own_form hq
  cases e'
  have HQ := Lib.hid hq
  have HR := Lib.hid hr
  have HX := Lib.hid hx
  have hcqi : (n : Int) ≤ cq := by omega
  clear hM hr hx hq
  go_enter Tryz.func93, Tryz.ntmps93
  go_wp2_with fail
  go_loopw [2, 4, 5, 11] (fun v _ _ i wr => ∃ j : Nat, j ≤ n ∧ i = .int .i64 j ∧ Chg [] w wr ∧ TxsAt wr w.heap.size v (wtL (xs.take j))) (fun _ _ _ i _ => n - (intOf i).toNat)
  case atStart => exact ⟨0, by omega, rfl, Chg.refl _ _, TxsAt.nil _ _⟩
  case round =>
    obtain ⟨j, hj, rfl, kr, hv⟩ := hrel
    by_cases hlt : j < n
    · have hjx : j < xs.length := by omega
      have hW := (HX.out xs[j] (List.getElem_mem hjx)).keep kr
      have hqe : ∃ gq, pq = some ⟨gq, 0, none⟩ ∧ wr.cell? ⟨gq, j, none⟩ = some (.int .i64 (xs[j]).h) := by
        rcases HQ.out.2 with ⟨_, h0⟩ | ⟨gk, cap, cur, e, hA, hg, hc1, hc2, hc3, ht⟩
        · omega
        · injection e with e1
          refine ⟨gk, e1, kr.cell (cell_is hg j ?_) (by simp)⟩
          have h1 : ((xs.map (fun x => x.h)).map encZ)[j]? = some (.int .i64 (xs[j]).h) := by simp [hjx]
          rw [← ht, List.getElem?_take_of_lt (by omega), Array.getElem?_toList] at h1
          exact h1
      obtain ⟨gq, rfl, q0⟩ := hqe
      have htk := wtL_take xs j hjx
      have HTk := Lib.hid htk
      clear htk
      generalize xs[j] = x at *
      have hlook : (Instr.lookup 182 (.map (some r)) (.int .i64 x.h) false).run Tryz.prog wr = .ok (.pointer (some ⟨x.T, 0, none⟩)) wr := by
        have := lookup178 (HR.out.keep kr (by simp)) x.h false
        rw [hW.tab] at this
        exact this
      have m2r := kr.cell m2 (by simp)
      have t1 : wr.cell? ⟨x.T, 1, none⟩ = some (.int .i64 x.k) := cell_is hW.tx 1 rfl
      have t4 : wr.cell? ⟨x.T, 4, none⟩ = some (.pointer (some ⟨x.W, 0, none⟩)) := cell_is hW.tx 4 rfl
      have kd : Chg [] wr wr.drew := (Chg.refl [] wr).drew
      have hpl : (putsL x.L x.D).length ≤ 16 := by rw [putsL_length]; exact hW.len
      have HP := Lib.hid (bputs_any wr.drew (hW.buf.keep kd (by simp) (by simp)) (hW.bd.keep kd) hW.bk (by have := hW.len; omega))
      have t1d : wr.drew.cell? ⟨x.T, 1, none⟩ = some (.int .i64 x.k) := t1
      have t4d : wr.drew.cell? ⟨x.T, 4, none⟩ = some (.pointer (some ⟨x.W, 0, none⟩)) := t4
      obtain ⟨xv, ho, hxv⟩ := hv
      have hwl : (wtL (xs.take j)).length = j := by rw [wtL_length, List.length_take]; omega
      rw [hwl] at ho
      obtain ⟨pv, cv, rfl, -⟩ := own_form ho
      have HV := Lib.hid (And.intro ho (And.intro hxv kr))
      clear hW ho hxv kr
      go_wp2_with fail
      go_region_law
        (first
          | (go_simp; go_at_call 100; refine HP.out.mono ?_; rintro e w6 ⟨p6, rfl, k6, hp6⟩; obtain ⟨pb, cb, rfl, hcb⟩ := own_form hp6.choose_spec.1; have t16 := k6.cell t1d (by simp); have kA : Chg [] wr (w6.alloc (.cells #[.int .i64 x.k, (.slice pb (putsL x.L x.D).length cb)] 176)) := (kd.then k6).then_alloc _; have y0 := heap_new w6 (.cells #[.int .i64 x.k, (.slice pb (putsL x.L x.D).length cb)] 176); have hp7 := hp6.keep0 (Chg.alloc (S := []) w6 (.cells #[.int .i64 x.k, (.slice pb (putsL x.L x.D).length cb)] 176)); have oA := own_keep HV.out.1 kA.below0; have hbA : w.heap.size ≤ (w6.alloc (.cells #[.int .i64 x.k, (.slice pb (putsL x.L x.D).length cb)] 176)).heap.size := (HV.out.2.2.then kA).size)
          | (refine step_append_txn rfl (.tmp 21) (.tmp 32) rfl w.heap.size (.slice pv j cv) j xv rfl oA w6.heap.size 1 _ _ rfl (cell_is y0 0 rfl) (cell_is y0 1 rfl) ⟨rfl, rfl⟩ (by omega) hbA ?_; intro g5 cp5 w5 o5 k5))
      all_goals
        have HF := Lib.hid (show Chg [] w w5 ∧ TxsAt w5 w.heap.size (.slice (some ⟨g5, 0, none⟩) (j + 1) cp5) (wtL (xs.take (j + 1))) from by
          refine ⟨(HV.out.2.2.then kA).trans k5 (fun y hy hl => ?_), ?_⟩
          · obtain ⟨hge, -⟩ := own_elem oA (show (Value.slice pv j cv).ownBlock = some y by simpa using hy)
            omega
          · rw [HTk.out]
            have hp8 : PutsAt (w6.alloc (.cells #[.int .i64 x.k, (.slice pb (putsL x.L x.D).length cb)] 176)) w.heap.size (.slice pb (putsL x.L x.D).length cb) (putsL x.L x.D) := by
              obtain ⟨ys, ho8, hx8⟩ := hp7
              exact ⟨ys, own_base ho8 (Nat.le_trans HV.out.2.2.size kd.size), hx8⟩
            have hpush := TxsAt.push (w := w6.alloc (.cells #[.int .i64 x.k, (.slice pb (putsL x.L x.D).length cb)] 176)) (w' := w5) (lo := w.heap.size) (g := g5) (cap := cp5) (v := .slice pv j cv) (l := wtL (xs.take j)) (k := x.k) (pb := pb) (cb := cb) (p := putsL x.L x.D) (xs := xv)
              (fun i hi => by obtain ⟨h0, pb', cb', h1, h2⟩ := HV.out.2.1 i hi; exact ⟨h0, pb', cb', h1, h2.keep0 kA⟩) (by rw [hwl]; have := oA.1; omega) (fun g' hg' => (own_elem oA hg').2) (by rw [hwl]; exact o5) k5 hp8
            rw [hwl] at hpush
            exact hpush)
        clear kA y0 hp6 hp7 o5 k5 k6 oA hbA
        go_wp2_with fail
        go_roundw
        case rel => exact ⟨j + 1, hlt, by go_num, HF.out⟩
        case measure => simp [intOf]; omega
    · obtain rfl : n = j := by omega
      have hx2 : xs.take n = xs := List.take_of_length_le (by omega)
      rw [hx2] at hv
      go_wp2_with fail
      go_ret
      exact ⟨_, rfl, kr, hv⟩
theorem TxsAt.get {w : World} {lo n cap : Nat} {pv : Option Addr} {l : List (Nat × List (Int × List UInt8))} (h : TxsAt w lo (.slice pv n cap) l) (i : Nat) (hi : i < l.length) : ∃ g pb cb, pv = some ⟨g, 0, none⟩ ∧ w.cell? ⟨g, i * 2, none⟩ = some (.int .i64 (l[i].1 : Nat)) ∧ w.cell? ⟨g, i * 2 + 1, none⟩ = some (.slice pb l[i].2.length cb) ∧ PutsAt w lo (.slice pb l[i].2.length cb) l[i].2 := by
  obtain ⟨xs, ho, hx⟩ := h
  obtain ⟨h0, pb, cb, h1, h2⟩ := hx i hi
  rcases ho.2 with ⟨_, e⟩ | ⟨g, cap', cur, e, hA, hg, hc1, hc2, hc3, ht⟩
  · omega
  · have hpv : pv = some ⟨g, 0, none⟩ := by injection e
    refine ⟨g, pb, cb, hpv, cell_is hg _ ?_, cell_is hg _ ?_, h2⟩
    · rw [← ht, List.getElem?_take_of_lt (by omega), Array.getElem?_toList] at h0
      exact h0
    · rw [← ht, List.getElem?_take_of_lt (by omega), Array.getElem?_toList] at h1
      exact h1
end Go.Proofs.YtliicpedddcfiaaGreat
namespace Go.Proofs.YtliicpedddcfiaaGreat
open Go.Shelf Go.RowKit Go.Lib Go.Sort

/-- spans, sorted as the program sorts them. -/
def sortedOf (l : List (Int × Int)) : List (Int × Int) := (Sort.insertionSort (ltOf fun x y : Int × Int => Lib.compareInt x.1 y.1) l.toArray 0 l.length).toList
set_option maxRecDepth 100000 in
theorem sort_spx (w : World) {g n cap : Nat} {cur : Array Value} {l : List (Int × Int)} (hb : w.heap[g]? = some (.cells cur 197 (0, 0))) (hs : Sp w g 0 l) (hl : l.length = n) (hn : n ≤ 12) :
    Calls Tryz.prog 208 #[.slice (some ⟨g, 0, none⟩) n cap, .func (.func 209) #[] #[]] w fun e w' => e = .returned (.tuple #[]) ∧ Chg [g] w w' ∧ (sortedOf l).length = n ∧ Sp w' g 0 (sortedOf l) := by
  subst hl
  have hl : l.length = l.length := rfl
  have eg : ∀ args w, (callFunc 209 args).run Tryz.prog w = .ok (.enter 209 args) w := enters_of Tryz.func209 (by kernel_rfl) rfl
  have hH : HoldsK encSp 2 w g 0 l.toArray := by
    intro j hj
    rw [size_flatK] at hj
    rw [get_flatK encSp 2 l.toArray j hj]
    exact ⟨hs j _ (spCells_get l j (by simpa using hj)), unfrozen hb _⟩
  have hcon := AnyQ.slices_SortFunc_small Tryz.sortSp 2 isAgg117 sizeOf117 encSp (fun _ => rfl) (fun x v hv => by simp [encSp] at hv; rcases hv with rfl | rfl <;> rfl) (fun x y => Lib.compareInt x.1 y.1) 209 #[] g 0 cap l.toArray w eg (cmpLays247 g 0 l.toArray.size w) hH (heap_lt hb) (by simpa [hl] using hn) hlen2
  change Calls Tryz.prog 208 _ _ _ at hcon
  have hz : l.toArray.size = l.length := by simp
  rw [hz] at hcon
  refine hcon.mono ?_
  rintro e w' ⟨rfl, m, os, rfl⟩
  have hsz : (Sort.insertionSort (ltOf fun x y : Int × Int => Lib.compareInt x.1 y.1) l.toArray 0 l.length).size = l.toArray.size := size_insOuter _ _ _ l.length _ _ (by omega)
  have hH2 := holdsK_sortWorldK_c encSp 2 w g 0 l.toArray _ m os hH (heap_lt hb) hsz
  refine ⟨rfl, ?_, by unfold sortedOf; simpa using hsz, ?_⟩
  · exact ((chg_ahead w m).then (chg_mapBlock _ g _)).then (chg_grow _ os)
  · unfold sortedOf
    intro j u hu
    have hj : j < (Sort.insertionSort (ltOf fun x y : Int × Int => Lib.compareInt x.1 y.1) l.toArray 0 l.length).size * 2 := by
      rcases Nat.lt_or_ge j ((Sort.insertionSort (ltOf fun x y : Int × Int => Lib.compareInt x.1 y.1) l.toArray 0 l.length).size * 2) with h | h
      · exact h
      · rw [List.getElem?_eq_none (by rw [spCells_len]; simpa using h)] at hu; cases hu
    rw [spCells_get _ j (by simpa using hj)] at hu
    have h2 := (hH2 j (by rw [size_flatK]; exact hj)).1
    rw [get_flatK encSp 2 _ j hj] at h2
    rw [h2]
    simpa using hu
/-- one span more, behind joined ones. -/
def jstep (xs : List (Int × Int)) (e : Int × Int) : List (Int × Int) :=
  if h : 0 < xs.length then
    (if e.1 ≤ wrap64 ((xs[xs.length - 1]'(by omega)).1 + (xs[xs.length - 1]'(by omega)).2) then xs.set (xs.length - 1) ((xs[xs.length - 1]'(by omega)).1, max (xs[xs.length - 1]'(by omega)).2 (wrap64 (wrap64 (e.1 + e.2) - (xs[xs.length - 1]'(by omega)).1))) else xs ++ [e])
  else [e]
theorem jstep_join {xs : List (Int × Int)} {e : Int × Int} {k : Nat} {p q : Int} (hk : xs.length = k + 1) (hp : p = (xs[k]'(by omega)).1) (hq : q = (xs[k]'(by omega)).2) (h : e.1 ≤ wrap64 (p + q)) : jstep xs e = xs.set k (p, max q (wrap64 (wrap64 (e.1 + e.2) - p))) := by
  have e1 : xs.length - 1 = k := by omega
  unfold jstep
  rw [dif_pos (by omega)]
  simp only [e1, ← hp, ← hq]
  rw [if_pos h]
theorem jstep_push {xs : List (Int × Int)} {e : Int × Int} {k : Nat} {p q : Int} (hk : xs.length = k + 1) (hp : p = (xs[k]'(by omega)).1) (hq : q = (xs[k]'(by omega)).2) (h : ¬ e.1 ≤ wrap64 (p + q)) : jstep xs e = xs ++ [e] := by
  have e1 : xs.length - 1 = k := by omega
  unfold jstep
  rw [dif_pos (by omega)]
  simp only [e1, ← hp, ← hq]
  rw [if_neg h]
set_option maxRecDepth 100000 in
set_option maxHeartbeats 2000000 in
theorem joined_fold (w : World) {g0 o0 n cp : Nat} {l : List (Int × Int)} (hl : l.length = n) (h0 : 0 < n) (h1 : n ≤ 12) (hs : Sp w g0 o0 l) : Calls Tryz.prog 196 #[.slice (some ⟨g0, o0, none⟩) n cp] w fun e w' =>
    ∃ v l', e = .returned v ∧ Chg [] w w' ∧ l' = (sortedOf l).foldl jstep [] ∧ w'.ownsRow w.heap.size 197 2 v l'.length (spCells l') := by
  go_enter Tryz.func196, Tryz.ntmps196
  go_wp2_with fail
  go_step3
  go_wp2_with fail
  refine (clone_sp w hl h0 (by omega) hs).mono ?_
  rintro e w1 ⟨v, rfl, k1, o1⟩
  obtain ⟨g, cap, cur, rfl, hg0, hb1, hs1, hcap, -⟩ := own_sp o1 h0
  clear o1
  go_wp2_with fail
  refine (sort_spx w1 (cap := cap) hb1 hs1 hl h1).mono ?_
  rintro e w2 ⟨rfl, k2, hl2, hs2⟩
  generalize hL : sortedOf l = l2 at *
  have k3 : Chg [] w w2 := k1.trans k2 (fun x hx hlt => by simp at hx; omega)
  have hw := k3.size
  have HL2 := Lib.hid hl2
  clear hb1 hs1 hl hs k1 k2 hl2
  go_wp2_with fail
  go_step3
  go_wp2_with fail
  go_loopw [2, 12] (fun v i wr => ∃ iq k xs, i = .int .i64 ((iq : Nat) : Int) ∧ iq ≤ n ∧ k ≤ iq ∧ Chg [] w2 wr ∧ xs = (l2.take iq).foldl jstep [] ∧ ((v = .slice none 0 0 ∧ k = 0 ∧ xs = []) ∨ (0 < k ∧ wr.ownsRow w2.heap.size 197 2 v k (spCells xs)))) (fun _ i _ => n - (intOf i).toNat)
  case atStart => exact ⟨0, 0, [], rfl, Nat.zero_le _, Nat.le_refl _, Chg.refl _ _, rfl, Or.inl ⟨rfl, rfl, rfl⟩⟩
  case round =>
    obtain ⟨iq, k, xs, rfl, hi, hk, kr, hxs, hv⟩ := hrel
    rcases Nat.lt_or_ge iq n with hlt | hge
    · have hS := hs2.keep kr
      obtain ⟨c0, c1⟩ := sp_at hS iq (by have := HL2.out; omega)
      have hnx : (l2.take (iq + 1)).foldl jstep [] = jstep xs (l2[iq]'(by have := HL2.out; omega)) := by rw [← List.take_append_getElem (by have := HL2.out; omega), List.foldl_append, hxs]; rfl
      generalize hE : (l2[iq]'(by have := HL2.out; omega)) = E0 at *
      obtain ⟨a, b⟩ := E0
      have HN := Lib.hid hnx
      clear hnx
      simp only [Nat.zero_add] at c0 c1
      have hlt' : (iq : Int) < n := by omega
      rcases hv with ⟨rfl, rfl, hx0⟩ | ⟨hk0, ho⟩
      · subst hx0
        go_wp2_with fail
        have kz : Chg [] wr (wr.alloc (.cells #[.int .i64 a, .int .i64 b] 197)) := Chg.alloc wr _
        have z0 := heap_new wr (.cells #[.int .i64 a, .int .i64 b] 197)
        generalize hw5 : wr.alloc (.cells #[.int .i64 a, .int .i64 b] 197) = w5 at *
        generalize wr.heap.size = z at *
        have d0 : w5.cell? ⟨z, 0, none⟩ = some (.int .i64 a) := cell_is z0 0 rfl
        have d1 : w5.cell? ⟨z, 1, none⟩ = some (.int .i64 b) := cell_is z0 1 rfl
        go_quiet (fail)
        have kw : Chg [] w2 ((w5.drewN nq).alloc (.cells #[.int .i64 a, .int .i64 b] 197)) := ((kr.then kz).drewN nq).then_alloc _
        have hsz := kw.size
        have hnw := Lib.hid (sp_new (w5.drewN nq) a b)
        go_wp2_with (at_builtin; refine wpList_append_sp rfl (.tmp 58) (.tmp 60) rfl w2.heap.size _ 0 [] [(a, b)] rfl (World.ownsRow_nil _ _ _ _) (w5.drewN nq).heap.size 0 1 1 rfl rfl hnw.out (by omega) hsz ?_; intro v1 w6 h6)
        go_roundw
        case rel => exact ⟨iq + 1, 1, _, by go_num, hlt, by omega, Chg.of_below (kw.below0.trans h6.2.1), by rw [HN.out]; rfl, Or.inr ⟨by omega, h6.1⟩⟩
        case measure => simp [intOf]; omega
      · obtain ⟨hb, cap', cur', rfl, hhb, hhc, hhs, hcc, hxl⟩ := own_sp ho hk0
        obtain ⟨k', rfl⟩ : ∃ k', k = k' + 1 := ⟨k - 1, by omega⟩
        obtain ⟨p0, q0⟩ := sp_at hhs k' (by omega)
        simp only [Nat.zero_add] at p0 q0
        obtain ⟨p, hp⟩ : ∃ p, p = (xs[k']'(by omega)).1 := ⟨_, rfl⟩
        obtain ⟨q, hq⟩ : ∃ q, q = (xs[k']'(by omega)).2 := ⟨_, rfl⟩
        rw [← hp] at p0
        rw [← hq] at q0
        have HJ := Lib.hid (fun hle => jstep_join (e := (a, b)) hxl hp hq hle)
        have HP := Lib.hid (fun hle => jstep_push (e := (a, b)) hxl hp hq hle)
        have HQ := Lib.hid hp
        clear hp hq
        go_wp2_with fail
        have kz : Chg [] wr (wr.alloc (.cells #[.int .i64 a, .int .i64 b] 197)) := Chg.alloc wr _
        have z0 := heap_new wr (.cells #[.int .i64 a, .int .i64 b] 197)
        generalize hw5 : wr.alloc (.cells #[.int .i64 a, .int .i64 b] 197) = w5 at *
        generalize wr.heap.size = z at *
        have d0 : w5.cell? ⟨z, 0, none⟩ = some (.int .i64 a) := cell_is z0 0 rfl
        have d1 : w5.cell? ⟨z, 1, none⟩ = some (.int .i64 b) := cell_is z0 1 rfl
        have p1 := kz.cell p0 (by simp)
        have q1 := kz.cell q0 (by simp)
        go_quiet (fail)
        by_cases hle : a ≤ wrap64 (p + q)
        · go_wp2_with fail
          have p2 : (w5.drewN nq).cell? ⟨hb, k' * 2, none⟩ = some (.int .i64 p) := p1
          have q2 : (w5.drewN nq).cell? ⟨hb, k' * 2 + 1, none⟩ = some (.int .i64 q) := q1
          have f2 : (w5.drewN nq).frozen? ⟨hb, k' * 2 + 1, none⟩ = false := unfrozen (kz.heap hhc (by simp)) _
          have d2 : (w5.drewN nq).cell? ⟨z, 0, none⟩ = some (.int .i64 a) := d0
          have d3 : (w5.drewN nq).cell? ⟨z, 1, none⟩ = some (.int .i64 b) := d1
          have hkk : (k' : Int) < k' + 1 := by omega
          have k6 : Chg [] w2 (w5.drewN nq) := (kr.then kz).drewN nq
          have hd6 : (w5.drewN nq).drew.ownsRow w2.heap.size 197 2 (.slice (some ⟨hb, 0, none⟩) (k' + 1) cap') (k' + 1) (spCells xs) := ownsRow_chg ho ((kz.drewN nq).drew)
          clear d0 d1 p1 q1
          generalize w5.drewN nq = w6 at *
          go_still_tail 21, (by kernel_rfl)
          change wpList _ _ _ _ _ w6.drew
          have HS := Lib.hid (fun z => own_set hd6 k' (by omega) z)
          have k7 : Chg [] w2 w6.drew := k6.drew
          have q7 : w6.drew.cell? ⟨hb, k' * 2 + 1, none⟩ = some (.int .i64 q) := q2
          have f7 : w6.drew.frozen? ⟨hb, k' * 2 + 1, none⟩ = false := f2
          generalize w6.drew = w7 at *
          go_wp2_with fail
          go_roundw
          case rel => exact ⟨iq + 1, k' + 1, _, by go_num, hlt, by omega, k7.new_set hhb _ _, by rw [HN.out, HJ.out hle, ← HQ.out], Or.inr ⟨by omega, HS.out _⟩⟩
          case measure => simp [intOf]; omega
        · have kw : Chg [] w2 ((w5.drewN nq).alloc (.cells #[.int .i64 a, .int .i64 b] 197)) := ((kr.then kz).drewN nq).then_alloc _
          have ow : ((w5.drewN nq).alloc (.cells #[.int .i64 a, .int .i64 b] 197)).ownsRow w2.heap.size 197 2 (.slice (some ⟨hb, 0, none⟩) (k' + 1) cap') (k' + 1) (spCells xs) := ownsRow_chg ho ((kz.drewN nq).then_alloc _)
          have hsz := kw.size
          have hnw := Lib.hid (sp_new (w5.drewN nq) a b)
          go_wp2_with (at_builtin; refine wpList_append_sp rfl (.tmp 58) (.tmp 60) rfl w2.heap.size _ (k' + 1) xs [(a, b)] rfl ow (w5.drewN nq).heap.size 0 1 1 rfl rfl hnw.out (by omega) hsz ?_; intro v1 w6 h6)
          go_roundw
          case rel => exact ⟨iq + 1, k' + 2, _, by go_num, hlt, by omega, Chg.of_below (kw.below0.trans h6.2.1), by rw [HN.out, HP.out (by omega)], Or.inr ⟨by omega, h6.1⟩⟩
          case measure => simp [intOf]; omega
    · obtain rfl : iq = n := by omega
      have hnl : ¬ ((iq : Int) < iq) := by omega
      have hxs2 : xs = l2.foldl jstep [] := by rw [hxs, List.take_of_length_le (by have := HL2.out; omega)]
      rcases hv with ⟨rfl, rfl, hx0⟩ | ⟨hk0, ho⟩
      · go_wp2_with fail
        go_ret
        exact ⟨_, _, rfl, k3.then kr, rfl, by rw [hL, ← hxs2, hx0]; exact World.ownsRow_nil _ _ _ _⟩
      · go_wp2_with fail
        go_ret
        have hlx : xs.length = k := by have := ho.1; rw [spCells_len] at this; omega
        exact ⟨_, _, rfl, k3.then kr, rfl, by rw [hL, ← hxs2, hlx]; exact ownsRow_base ho hw⟩
end Go.Proofs.YtliicpedddcfiaaGreat
namespace Go.Proofs.YtliicpedddcfiaaGreat
open Go.RowKit Go.Lib Go.Maps Go.Sort Go.Shelf

set_option maxRecDepth 100000 in
/-- slices.Sorted(maps.Keys(m)). -/
theorem sortedB_any (W : World) {r : Nat} {L : List (Int × Value)} (h : MapAt W r L) (hw : ∀ p ∈ L, (Lit.int .i64 p.1).wf = true) (hl : L.length ≤ 100000) :
    Calls Tryz.prog 82 #[.func (.func 216) #[] #[.pointer (some ⟨W.heap.size, 0, none⟩)]] (W.alloc (.cells #[.map (some r)] 238)) fun e w' => ∃ v, e = .returned v ∧ w'.ownsRow W.heap.size 3 1 v L.length ((sortI (L.map Prod.fst)).map encZ) ∧ Chg [] W w' := by
  obtain ⟨D, hown, hp, hsz⟩ := owns_any (h.keep (Chg.alloc (S := []) W (.cells #[.map (some r)] 238)) (by simp)) 3 (by kernel_rfl) hw (by unfold maxLen; omega)
  have hseq : SeqGives Fence.wide 2 Tryz.prog 216 #[.pointer (some ⟨W.heap.size, 0, none⟩)] encZ (fun ss => ss.Perm (intKeys D)) (Maps.size D) (W.alloc (.cells #[.map (some r)] 238)) :=
    AnyZI.keys_gives (ρ := Tryz.keysB_ren) { Tryz.keysB with } Fence.wide _ trivial rfl (by omega) W.heap.size r L.length D _ (by simp) (by simp) hown
  have cS := AnyZI.sorted_in Tryz.sortedA Fence.wide 5 trivial trivial trivial trivial rfl (by omega) (sorts_all _) (enters_of Tryz.func117 (by kernel_rfl) rfl) 216 #[.pointer (some ⟨W.heap.size, 0, none⟩)] trivial (enters_of Tryz.func216 (by kernel_rfl) rfl) _ (Maps.size D) (by rw [hsz]; unfold maxLen; omega) (by rw [hsz]; omega) _ hseq
  refine (callsIn_wide.1 cS).mono ?_
  rintro e w' ⟨v, ss, rfl, hS, hrow, hnil, hbl⟩
  have hs : ss.mergeSort (fun x y => decide (x ≤ y)) = sortI (L.map Prod.fst) := mergeSort_of_perm_i (hS.trans hp)
  have hsl : ss.length = L.length := by rw [(hS.trans hp).length_eq, List.length_map]
  rw [hs, hsl] at hrow
  exact ⟨v, rfl, own_base hrow (by simp), (Chg.alloc W _).then (Chg.of_below hbl)⟩
set_option maxRecDepth 100000 in
theorem bcount_any (w : World) {B rb : Nat} {last : Int} {L : List (Int × Value)} (h : BookAt w B rb last L) (hk : ∀ p ∈ L, 0 ≤ p.1 ∧ p.1 ≤ 1000000) (hl : L.length ≤ 1000) : Calls Tryz.prog 174 #[.pointer (some ⟨B, 0, none⟩)] w fun e w' => e = .returned (.int .i64 L.length) ∧ Chg [] w w' := by
  have c2 : w.cell? ⟨B, 2, none⟩ = some (.map (some rb)) := cell_is h.1 2 rfl
  have HS := Lib.hid (sortedB_any w h.2 (fun p hp => wf_i64 (by have := hk p hp; omega) (by have := hk p hp; omega)) (by omega))
  have HL : Hid (Calls Tryz.prog 192 #[.pointer (some ⟨B, 0, none⟩)] w fun e w' => ∃ pa c, e = .returned (.slice pa L.length c) ∧ Chg [] w w') := Lib.hid (by
    clear h
    go_enter Tryz.func192, Tryz.ntmps192
    go_wp2_with (first
      | (go_at_call 202; refine (keysB_any (some rb) _).mono ?_; rintro e w1 ⟨rfl, rfl⟩)
      | (go_at_call 82; refine HS.out.mono ?_; rintro e w2 ⟨v2, rfl, o2, k2⟩; obtain ⟨pk, ck, rfl, hck⟩ := own_form o2))
    go_ret
    exact ⟨pk, ck, rfl, k2⟩)
  clear h HS
  go_enter Tryz.func174, Tryz.ntmps174
  go_wp2_with fail
  refine HL.out.mono ?_
  rintro e w1 ⟨pa, c, rfl, hc⟩
  go_wp2_with fail
  go_ret
  exact ⟨rfl, hc⟩
set_option maxRecDepth 100000 in
theorem hopen_many (w : World) {B rb : Nat} {bl t : Int} {L : List (Int × Value)} (h : BookAt w B rb bl L) (hk : ∀ p ∈ L, 0 ≤ p.1 ∧ p.1 ≤ 1000000) (hl : L.length < 16) (h0 : 0 ≤ t) (h1 : t ≤ 1099511627776) (hb0 : 0 ≤ bl) (hb1 : bl ≤ 1000000) : Calls Tryz.prog 144 #[.pointer (some ⟨B, 0, none⟩), .int .i64 t] w fun e w' => e = .returned (.tuple #[.int .i64 (bl + 1), .int .i64 0]) ∧ Chg [B, rb] w w' ∧ BookAt w' B rb (bl + 1) (putL L (bl + 1) (.int .i64 t)) := by
  have n0 : decide (t < 0) = false := decide_eq_false (by omega)
  have n1 : decide (1099511627776 < t) = false := decide_eq_false (by omega)
  have hw : wrap64 (bl + 1) = bl + 1 := by unfold wrap64; omega
  clear h0 h1
  go_enter Tryz.func144, Tryz.ntmps144
  go_wp2_with fail
  have hlt : (L.length : Int) < 16 := by omega
  refine (bcount_any w h hk (by omega)).mono ?_
  rintro e w1 ⟨rfl, hc⟩
  have h1 := h.keep hc (by simp) (by simp)
  go_wp2_with fail
  refine (room_any w1 h1).mono ?_
  rintro e w2 ⟨rfl, rfl⟩
  have c1 : w1.cell? ⟨B, 1, none⟩ = some (.int .i64 bl) := cell_is h1.1 1 rfl
  have f1 := unfrozen h1.1 1
  have h2 : (w1.setCell ⟨B, 1, none⟩ (.int .i64 (bl + 1))).heap[B]? = some (.cells #[.int .i64 16, .int .i64 (bl + 1), .map (some rb)] 240 (0, 0)) := heap_set h1.1 1 _ rfl
  have hne : rb ≠ B := map_cells h1.2 h1.1
  have k2 := Chg.set w1 B 1 (.int .i64 (bl + 1))
  have m2 : MapAt (w1.setCell ⟨B, 1, none⟩ (.int .i64 (bl + 1))) rb L := h1.2.keep k2 (by simpa using hne)
  have hc2 : Chg [B, rb] w (w1.setCell ⟨B, 1, none⟩ (.int .i64 (bl + 1))) := (hc.mono (T := [B, rb]) (fun x hx _ => by cases hx)).then (k2.mono (fun x hx _ => by simp at hx; simp [hx]))
  clear h1 h
  go_wp2_with fail
  generalize w1.setCell ⟨B, 1, none⟩ (.int .i64 (bl + 1)) = w2 at *
  have e1 : w2.cell? ⟨B, 1, none⟩ = some (.int .i64 (bl + 1)) := cell_is h2 1 rfl
  have e2 : w2.cell? ⟨B, 2, none⟩ = some (.map (some rb)) := cell_is h2 2 rfl
  have m3 : MapAt w2.drew rb L := m2
  obtain ⟨w3, hmu, m4, k3, hs3⟩ := run_update_im (P := Tryz.prog) (mty := 238) (kt := 3) (et := 3) (by kernel_rfl) (by kernel_rfl) m3 (bl + 1) (.int .i64 t)
  go_region_held3 (fun wx => wx.cell? ⟨B, 1, none⟩ = some (.int .i64 (bl + 1)) ∧ wx.cell? ⟨B, 2, none⟩ = some (.map (some rb))) (first | (exact ⟨e1, e2⟩) | (exact ⟨k3.cell e1 (by simpa using hne.symm), k3.cell e2 (by simpa using hne.symm)⟩)) (fail)
  have g3 : w3.heap[B]? = some (.cells #[.int .i64 16, .int .i64 (bl + 1), .map (some rb)] 240 (0, 0)) := k3.heap (g := B) h2 (by simpa using hne.symm)
  have e3 : w3.cell? ⟨B, 1, none⟩ = some (.int .i64 (bl + 1)) := cell_is g3 1 rfl
  clear e1 e2 hmu
  go_wp2_with fail
  go_ret2
  exact ⟨rfl, hc2.then (Chg.trans (Chg.refl [B, rb] w2).drew k3 (fun x hx _ => by simp at hx; simp [hx])), g3, m4⟩
/-- what a manager's Begin leaves. -/
def BegRm (w w' : World) (M X rx B rb r : Nat) (s : Gs) : Prop := ∃ T W rw Q V, Chg [B, rb, r] w w' ∧ Mx w' M X rx B rb r { s with bl := s.bl + 1, Lb := putL s.Lb (s.bl + 1) (.int .i64 s.last), Lr := putL s.Lr (s.bl + 1) (.pointer (some ⟨T, 0, none⟩)) } ∧ TxT w' T W Q s.last ∧ BufAt w' W rw [] ∧ ViewT w' Q X W V s.last (.slice none 0 0) ∧ SpansAt w' V (.slice none 0 0) ∧ rw ≠ r ∧ rw ≠ rb ∧ rw ≠ rx ∧ w.heap.size ≤ T ∧ w.heap.size ≤ W ∧ w.heap.size ≤ rw ∧ w.heap.size ≤ Q ∧ w.heap.size ≤ V
set_option maxRecDepth 100000 in
set_option maxHeartbeats 1000000 in
theorem tbegin_many (w : World) {M X rx B rb r : Nat} {s : Gs} (h : Mx w M X rx B rb r s) (hLk : ∀ p ∈ s.Lb, 0 ≤ p.1 ∧ p.1 ≤ 1000000) (hLl : s.Lb.length < 16) (h0 : 0 ≤ s.last) (h1 : s.last ≤ 1099511627776) (hb0 : 0 ≤ s.bl) (hb1 : s.bl ≤ 1000000) : Calls Tryz.prog 126 #[.pointer (some ⟨M, 0, none⟩)] w fun e w' =>
    e = .returned (.tuple #[.int .i64 (s.bl + 1), .int .i64 0]) ∧ BegRm w w' M X rx B rb r s := by
  have hh := h.keep (Chg.refl [] w).drew
  have hbk := hh.book
  have HO := Lib.hid (hopen_many w.drew (t := s.last) hbk hLk hLl h0 h1 hb0 hb1)
  obtain ⟨t, ht⟩ : ∃ t, t = s.last := ⟨_, rfl⟩
  obtain ⟨bl, hbl⟩ : ∃ t, t = s.bl := ⟨_, rfl⟩
  obtain ⟨bn, hbn⟩ : ∃ t, t = bl + 1 := ⟨_, rfl⟩
  obtain ⟨c0, c1, c2, c7⟩ := h.cells
  rw [← hbl, ← hbn] at HO ⊢
  rw [← ht] at HO c7
  have HG := Lib.hid (tgone_x w h)
  have HT := Lib.hid ht
  have HBl := Lib.hid hbl
  have HBn := Lib.hid hbn
  have HM := Lib.hid h
  have HH := Lib.hid hh
  clear h0 h1 hb0 hb1 hLk hLl hbk ht hbl hbn h hh
  go_enter Tryz.func126, Tryz.ntmps126
  go_wp2_with fail
  refine HG.out.mono ?_
  rintro e w1 ⟨rfl, rfl⟩
  go_wp2_with fail
  go_region_held3 (fun wx => wx.cell? ⟨M, 1, none⟩ = some (.pointer (some ⟨B, 0, none⟩)) ∧ wx.cell? ⟨M, 7, none⟩ = some (.int .i64 t)) (first | (exact ⟨c1, c7⟩) | (exact ⟨h2.cells.2.1, by rw [HT.out]; exact h2.cells.2.2.2⟩))
    (first
      | (go_at_call 144; refine HO.out.mono ?_; rintro e w2 ⟨rfl, k2, hb2⟩; have h2 := HH.out.opened k2 hb2))
  clear c0 c1 c2 c7 HO HG HH
  obtain ⟨c0, c1, c2, c7⟩ := h2.cells
  have c7' : w2.cell? ⟨M, 7, none⟩ = some (.int .i64 t) := by rw [HT.out]; exact c7
  clear c7
  have HB := Lib.hid (gblocks_any w2 h2.ver)
  have H2 := Lib.hid h2
  clear h2
  go_wp2_with fail
  refine HB.out.mono ?_
  rintro e w3 ⟨rfl, rfl⟩
  go_wp2_with fail
  refine (wnew_any w2).mono ?_
  rintro e w3 ⟨W, rw, rfl, k3, hW, l1, l2⟩
  have h3 := H2.out.keep k3
  clear c0 c1 c2 c7' HB
  obtain ⟨c0, c1, c2, c7⟩ := h3.cells
  have c7' : w3.cell? ⟨M, 7, none⟩ = some (.int .i64 t) := by rw [HT.out]; exact c7
  clear c7
  have H3 := Lib.hid h3
  have HW := Lib.hid hW
  clear h3 hW
  go_wp2_with fail
  go_region_held3 (fun wx => wx.cell? ⟨M, 0, none⟩ = some (.pointer (some ⟨X, 0, none⟩)) ∧ wx.cell? ⟨M, 1, none⟩ = some (.pointer (some ⟨B, 0, none⟩)) ∧ wx.cell? ⟨M, 2, none⟩ = some (.map (some r)) ∧ wx.cell? ⟨M, 7, none⟩ = some (.int .i64 t))
    (first
      | (exact ⟨c0, c1, c2, c7'⟩)
      | (rw [HT.out]; exact H4.out.cells)
      | (rw [HT.out]; exact (H4.out.keep (Chg.alloc (S := []) _ _)).cells)
      | (rw [HT.out]; exact ((H4.out.keep (Chg.alloc (S := []) w4 _)).table (upd178 (H4.out.keep (Chg.alloc (S := []) w4 _)).map _ _).2.2 (upd178 (H4.out.keep (Chg.alloc (S := []) w4 _)).map _ _).2.1).cells))
    (first
      | (go_at_call 146; refine (vnew_gen w3.drew X W t).mono ?_; rintro e w4 ⟨Q, V, rfl, k4, hQ, hV, l3, l4⟩; have H4 := Lib.hid ((H3.out.keep (Chg.refl [] w3).drew).keep k4); have hmu : ∀ o v, (Instr.mapUpdate 182 (.map (some r)) (.int .i64 bn) v).run Tryz.prog (w4.alloc o) = .ok () (updW (w4.alloc o) 182 r bn v) := fun o v => (upd178 (H4.out.map.keep (Chg.alloc (S := []) w4 o) (by simp)) bn v).1))
  have q1 := H2.out.map.lt
  have q2 := H2.out.book.2.lt
  have q3 := H2.out.ver.m.lt
  have h5 := H4.out.keep (Chg.alloc (S := []) w4 (.cells #[.int .i64 1, .int .i64 0, .int .i64 0, .int .i64 t, .pointer (some ⟨W, 0, none⟩), .pointer (some ⟨Q, 0, none⟩)] 212))
  have hT : TxT (w4.alloc (.cells #[.int .i64 1, .int .i64 0, .int .i64 0, .int .i64 t, .pointer (some ⟨W, 0, none⟩), .pointer (some ⟨Q, 0, none⟩)] 212)) w4.heap.size W Q t := heap_new w4 _
  have kx := Chg.alloc (S := []) w4 (.cells #[.int .i64 1, .int .i64 0, .int .i64 0, .int .i64 t, .pointer (some ⟨W, 0, none⟩), .pointer (some ⟨Q, 0, none⟩)] 212)
  have hW5 := HW.out.keep (((Chg.refl [] w3).drew.then k4).then kx) (by simp) (by simp)
  have hQ5 := kx.heap hQ (by simp)
  have hV5 := kx.heap hV (by simp)
  have kk := ((k2.mono (T := [B, rb, r]) (fun x hx _ => by simp at hx; rcases hx with rfl | rfl <;> simp)).then (k3.mono (fun x hx _ => by cases hx))).then ((((Chg.refl [] w3).drew.then k4).then kx).mono (fun x hx _ => by cases hx))
  have s4 := k4.size
  generalize w4.alloc (.cells #[.int .i64 1, .int .i64 0, .int .i64 0, .int .i64 t, .pointer (some ⟨W, 0, none⟩), .pointer (some ⟨Q, 0, none⟩)] 212) = w5 at *
  obtain ⟨-, mm, k6⟩ := upd178 h5.map bn (.pointer (some ⟨w4.heap.size, 0, none⟩))
  have h6 := h5.table k6 mm
  have t6 : TxT (updW w5 182 r bn (.pointer (some ⟨w4.heap.size, 0, none⟩))) w4.heap.size W Q t := k6.heap hT (by simpa using (map_cells h5.map hT).symm)
  have nr : rw ≠ r := by omega
  have b6 := hW5.keep k6 (by simpa using (map_cells h5.map hW5.1).symm) (by simpa using nr)
  have v6 := k6.heap hQ5 (by simpa using (map_cells h5.map hQ5).symm)
  have s6 := k6.heap hV5 (by simpa using (map_cells h5.map hV5).symm)
  have kf := kk.then (k6.mono (T := [B, rb, r]) (fun x hx _ => by simp at hx; simp [hx]))
  have hb1 : w.heap.size ≤ rw ∧ w.heap.size ≤ W := by have := k2.size; have h9 : w.drew.heap.size = w.heap.size := rfl; omega
  have hb2 : w.heap.size ≤ Q ∧ w.heap.size ≤ V := by have := k2.size; have := k3.size; have h9 : w.drew.heap.size = w.heap.size := rfl; have h8 : w3.drew.heap.size = w3.heap.size := rfl; omega
  have hb3 : w.heap.size ≤ w4.heap.size := by have := k2.size; have := k3.size; have h9 : w.drew.heap.size = w.heap.size := rfl; have h8 : w3.drew.heap.size = w3.heap.size := rfl; omega
  have n2 : rw ≠ rb := by omega
  have n3 : rw ≠ rx := by omega
  generalize w4.heap.size = T at *
  have HF := Lib.hid h6
  clear hmu q1 q2 q3 h5 h6 H4 H3 H2 HM kk hW5 hQ5 hV5 mm
  go_wp2_with fail
  go_ret2
  refine ⟨rfl, T, W, rw, Q, V, ?_⟩
  rw [← HBl.out, ← HBn.out, ← HT.out]
  have hF := HF.out
  rw [← HT.out] at hF
  exact ⟨(Chg.refl [B, rb, r] w).drew.then kf, hF, t6, b6, v6, s6, nr, n2, n3, hb3, hb1.2, hb1.1, hb2⟩
/-- the manager behind a Begin. -/
def begM (s : Gs) (T : Nat) : Gs := { s with bl := s.bl + 1, Lb := putL s.Lb (s.bl + 1) (.int .i64 s.last), Lr := putL s.Lr (s.bl + 1) (.pointer (some ⟨T, 0, none⟩)) }
/-- what a store's Begin leaves. -/
def BegN (w w' : World) (lw : Nat) (d : Ids) (s : Gs) (g : Gd) : Prop := ∃ T W rw Q V, Chg [d.B, d.rb, d.r] w w' ∧ w.heap.size ≤ T ∧
  Su w' w.heap.size { d with T := T, W := W, rw := rw, Q := Q, V := V } (begP s) (StoF lw { d with T := T, W := W, rw := rw, Q := Q, V := V } (begM s T) g) (fun b => bytT (s.vs b) s.last) [] 0
set_option maxRecDepth 100000 in
theorem sbegin_many (w : World) {lw : Nat} {d : Ids} {s : Gs} {g : Gd} (h : Sto w lw d s g) (hLk : ∀ p ∈ s.Lb, 0 ≤ p.1 ∧ p.1 ≤ 1000000) (hLl : s.Lb.length < 16) (h0 : 0 ≤ s.last) (h1 : s.last ≤ 1099511627776) (hb0 : 0 ≤ s.bl) (hb1 : s.bl ≤ 1000000) :
    Calls Tryz.prog 88 #[.pointer (some ⟨d.P, 0, none⟩)] w fun e w' => e = .returned (.tuple #[.int .i64 (s.bl + 1), .int .i64 0]) ∧ BegN w w' lw d s g := by
  have HD := Lib.hid (dead_g w h.store)
  have p5 : w.cell? ⟨d.P, 5, none⟩ = some (.pointer (some ⟨d.M, 0, none⟩)) := cell_is h.store 5 rfl
  have HB := Lib.hid (tbegin_many w h.mx hLk hLl h0 h1 hb0 hb1)
  have HS := Lib.hid h
  clear h hLk hLl h0 h1 hb0 hb1
  go_enter Tryz.func88, Tryz.ntmps88
  go_wp2_with fail
  refine HD.out.mono ?_
  rintro e w1 ⟨rfl, rfl⟩
  go_wp2_with fail
  refine HB.out.mono ?_
  rintro e w1 ⟨rfl, T, W, rw, Q, V, k1, hx, hT, hb, hv, hs, n1, n2, n3, b1, b2, b3, b4, b5⟩
  have hF : BegN w w1 lw d s g := by
    have hS := HS.out
    have avB : Av w [d.B, d.rb, d.r] [105, 159, 5, 93, 94, 97, 34] := fun x hx cs t fr hh => by
      simp at hx
      rcases hx with rfl | rfl | rfl
      · rw [hS.mx.book.1] at hh; cases hh; simp
      · exact absurd rfl (map_cells hS.mx.book.2 hh)
      · exact absurd rfl (map_cells hS.mx.map hh)
    have sub : ∀ ts : List Nat, (∀ t ∈ ts, t ∈ [105, 159, 5, 93, 94, 97, 34]) → Av w [d.B, d.rb, d.r] ts := fun ts hts x hx cs t fr hh ht => avB x hx cs t fr hh (hts t ht)
    have hSto : Sto w1 lw { d with T := T, W := W, rw := rw, Q := Q, V := V } (begM s T) g :=
      ⟨k1.heap hS.store (avB.ne hS.store (by simp)), k1.heap hS.slot (avB.ne hS.slot (by simp)), hS.text.keep k1 (sub _ (by decide)), hS.dev.keep k1 (sub _ (by decide)), hx, hS.ap, hS.keys, hS.bnd, hS.bndZ, Nat.le_trans hS.slo k1.size, hS.dlo⟩
    refine ⟨T, W, rw, Q, V, k1, b1, hSto, hT, hb, (fun x hx => by cases hx), fun b _ _ => Or.inl ⟨rfl, rfl⟩, ⟨_, 0, [], hv, Nat.le_refl _, World.ownsRow_nil _ _ _ _⟩, ⟨_, [], hs, Nat.le_refl _, World.ownsRow_nil _ _ _ _⟩, b4, b5, b3⟩
  have HF := Lib.hid hF
  clear hF hx hT hb hv hs k1 b1 b2 b3 b4 b5 n1 n2 n3
  go_wp2_with fail
  go_ret2
  exact ⟨rfl, HF.out⟩
end Go.Proofs.YtliicpedddcfiaaGreat
