/- Lemmas and walks: Walks: a client's step. Walks: a client's step that waits; a schedule's Flush. Walks: the first client's begin, as a step. Walks: a store's history of a transaction; what a crash leaves of it. Printed by mkKc.py. Walks: a history without reads and writes is copied. Walks: a history with one write and no reads is copied. Printed by mkKs.py. The second client: Qg's walks at its cells. Printed by mkC2.py. The second client: Qj's walks at its cells. Printed by mkC2.py. The second client: a block is read. Printed by mkKf2.py. -/
import Derived.Test.YtliicpedddcfiaaGreatAh
import Derived.Test.YtliicpedddcfiaaGreatAi
namespace Go.Proofs.YtliicpedddcfiaaGreat
open Go.RowKit Go.Lib

theorem own_k66 {w w' : World} {lo n : Nat} {v : Value} {xs : List Value} (h : w.ownsRow lo 39 5 v n xs) (k : K66 w w') : w'.ownsRow lo 39 5 v n xs := by
  refine ⟨h.1, ?_⟩
  rcases h.2 with ⟨e, h0⟩ | ⟨g, cap, cur, e, hA, hg, h3⟩
  · exact Or.inl ⟨e, h0⟩
  · exact Or.inr ⟨g, cap, cur, e, hA, k g cur hg, h3⟩
set_option maxRecDepth 100000 in
set_option maxHeartbeats 4000000 in
theorem do_begin (w : World) {K lw : Nat} {P : Array Value → World → Prop} {x0 x1 x2 x3 : Int} (hlw : lw ≤ w.heap.size) (hP : ∀ cs, Cl lw (P cs))
    (HC : ∀ wx, Chg [] w wx → Calls Tryz.prog 49 #[.pointer (some ⟨K, 0, none⟩), .pointer (some ⟨K, 2, none⟩), .agg #[.int .i64 1, .int .i64 0, .int .i64 0, .int .i64 0, .slice none 0 0]] wx fun e w' =>
      e = .returned (.agg #[.int .i64 x0, .int .i64 x1, .int .i64 x2, .int .i64 x3, .slice none 0 0]) ∧ ∃ cs, P cs w' ∧ SchB w' K cs ∧ K66 wx w') :
    Calls Tryz.prog 22 #[.pointer (some ⟨K, 0, none⟩), .pointer (some ⟨K, 2, none⟩), .agg #[.int .i64 1, .int .i64 0, .int .i64 0, .int .i64 0, .slice none 0 0]] w (DoR w K P x0 x1 x2 x3 true) := by
  have kk : Chg [] w ((w.alloc (.cells #[.int .i64 1, .int .i64 0, .int .i64 0, .int .i64 0, .slice none 0 0] 33)).alloc (.cells #[.int .i64 0, .int .i64 0, .int .i64 0, .int .i64 0, .slice none 0 0] 39)) := (Chg.alloc w _).then_alloc _
  obtain ⟨y1, y2⟩ := heap_new2 w (.cells #[.int .i64 1, .int .i64 0, .int .i64 0, .int .i64 0, .slice none 0 0] 33) (.cells #[.int .i64 0, .int .i64 0, .int .i64 0, .int .i64 0, .slice none 0 0] 39)
  generalize hw0 : (w.alloc (.cells #[.int .i64 1, .int .i64 0, .int .i64 0, .int .i64 0, .slice none 0 0] 33)).alloc (.cells #[.int .i64 0, .int .i64 0, .int .i64 0, .int .i64 0, .slice none 0 0] 39) = w0 at *
  have hz1 := heap_lt y1
  generalize hz : w.heap.size = z at *
  have z0 := cell_is y1 0 rfl
  have z1 := cell_is y1 1 rfl
  have z2 := cell_is y1 2 rfl
  have z3 := cell_is y1 3 rfl
  have z4 := cell_is y1 4 rfl
  have t0 := cell_is y2 0 rfl
  have t1 := cell_is y2 1 rfl
  have t2 := cell_is y2 2 rfl
  have t3 := cell_is y2 3 rfl
  have t4 := cell_is y2 4 rfl
  have e0 := unfrozen y2 0
  have e1 := unfrozen y2 1
  have e2 := unfrozen y2 2
  have e3 := unfrozen y2 3
  have e4 := unfrozen y2 4
  go_enter Tryz.func22, Tryz.ntmps22
  go_upto_region 1 with fail
  apply wp_scope_straight
  go_upto_region 2 with fail
  have v2 : (((((w0.setCell ⟨z + 1, 0, none⟩ (.int .i64 1)).setCell ⟨z + 1, 1, none⟩ (.int .i64 0)).setCell ⟨z + 1, 2, none⟩ (.int .i64 0)).setCell ⟨z + 1, 3, none⟩ (.int .i64 0)).setCell ⟨z + 1, 4, none⟩ (.slice none 0 0)).heap[z + 1]? = some (.cells #[.int .i64 1, .int .i64 0, .int .i64 0, .int .i64 0, .slice none 0 0] 39 (0, 0)) := (set5 _ _ _ _ _ y2).1
  have k2 := (set5 (.int .i64 1) (.int .i64 0) (.int .i64 0) (.int .i64 0) (.slice none 0 0) y2).2
  generalize ((((w0.setCell ⟨z + 1, 0, none⟩ (.int .i64 1)).setCell ⟨z + 1, 1, none⟩ (.int .i64 0)).setCell ⟨z + 1, 2, none⟩ (.int .i64 0)).setCell ⟨z + 1, 3, none⟩ (.int .i64 0)).setCell ⟨z + 1, 4, none⟩ (.slice none 0 0) = w1 at *
  have kk1 : Chg [] w w1 := kk.trans k2 (fun x hx hlt => by rw [List.mem_singleton] at hx; omega)
  have v1 := k2.heap y1 (by simp)
  clear z0 z1 z2 z3 z4 t0 t1 t2 t3 t4 e0 e1 e2 e3 e4
  have z0 := cell_is v1 0 rfl
  have t0 := cell_is v2 0 rfl
  have t1 := cell_is v2 1 rfl
  have t2 := cell_is v2 2 rfl
  have t3 := cell_is v2 3 rfl
  have t4 := cell_is v2 4 rfl
  have HCo := Lib.hid (HC w1 kk1)
  have HX := Lib.hid (And.intro v2 kk1)
  clear HC v2 kk1 v1 kk y1 y2 k2
  go_wp2_with fail
  refine HCo.out.mono ?_
  rintro e w3 ⟨rfl, cs, hp, hK, h66⟩
  have y31 := h66 _ _ HX.out.1
  have s0 := cell_is y31 0 rfl
  have s1 := cell_is y31 1 rfl
  have s2 := cell_is y31 2 rfl
  have s3 := cell_is y31 3 rfl
  have s4 := cell_is y31 4 rfl
  have e0 := unfrozen y31 0
  have e1 := unfrozen y31 1
  have e2 := unfrozen y31 2
  have e3 := unfrozen y31 3
  have e4 := unfrozen y31 4
  have HR := Lib.hid (And.intro hp (And.intro hK h66))
  clear hp hK h66 z0 t0 t1 t2 t3 t4
  go_wp2_with fail
  obtain ⟨y11, k11⟩ := set5 (.int .i64 x0) (.int .i64 x1) (.int .i64 x2) (.int .i64 x3) (.slice none 0 0) y31
  generalize ((((w3.setCell ⟨z + 1, 0, none⟩ (.int .i64 x0)).setCell ⟨z + 1, 1, none⟩ (.int .i64 x1)).setCell ⟨z + 1, 2, none⟩ (.int .i64 x2)).setCell ⟨z + 1, 3, none⟩ (.int .i64 x3)).setCell ⟨z + 1, 4, none⟩ (.slice none 0 0) = w6 at *
  have r0 := cell_is y11 0 rfl
  have r1 := cell_is y11 1 rfl
  have r2 := cell_is y11 2 rfl
  have r3 := cell_is y11 3 rfl
  have r4 := cell_is y11 4 rfl
  obtain ⟨hp, hK, h66⟩ := HR.out
  have tp : Tp w3 [z + 1] [39] := fun x hx => by
    rw [List.mem_singleton] at hx
    subst hx
    exact ⟨_, _, y31, by simp⟩
  simp only [Exit.noGoto]
  refine bodyPost_ret (v := .tuple #[.agg #[.int .i64 x0, .int .i64 x1, .int .i64 x2, .int .i64 x3, .slice none 0 0], .bool true]) (by simp [results, Tryz.results22, go_sem, r0, r1, r2, r3, r4]) rfl ?_
  refine ⟨rfl, cs, (hP cs).box hp k11 tp (fun x hx => by rw [List.mem_singleton] at hx; omega), k11.heap hK ?_, ((K66.of0 HX.out.2).trans h66).new k11 (fun x hx => by rw [List.mem_singleton] at hx; omega)⟩
  intro hm
  rw [List.mem_singleton] at hm
  exact heap_ne hK y31 (by simp) hm
theorem ty79 : Tryz.prog.underlying 67 = some (.slice 39) := by kernel_rfl
theorem inf66 : (Tryz.prog.info? 39).map (fun i => (i.zero, i.size, i.bytes)) = some (some (.agg #[.int .i64 0, .int .i64 0, .int .i64 0, .int .i64 0, .slice none 0 0]), 5, 56) := by kernel_rfl
/-- an answer is put behind a row of answers, as a step of a region that draws. -/
theorem step_append_ans {ops : Array Oper} {o : Oper} {a : Act} {w : World} {K : Act → World → Prop} {Q : Exit → Act → World → Prop} {E : Prop} (hgd : o.guard = none) (s x : Operand)
    (ho : o.op = .call { callee := .builtin .append, args := #[s, x], argTypes := #[67, 67] }) (base b c n : Nat) (v u0 u1 u2 u3 u4 : Value) (xs : List Value) (hs : a.eval s = v) (hown : w.ownsRow base 39 5 v n xs) (hbase : base ≤ w.heap.size) (hn : n ≤ 1000)
    (hx : a.eval x = .slice (some ⟨b, 0, none⟩) 1 c) (hb : w.heap[b]? = some (.cells #[u0, u1, u2, u3, u4] 39 (0, 0))) (h1 : u0.oneCell' = true ∧ u1.oneCell' = true ∧ u2.oneCell' = true ∧ u3.oneCell' = true ∧ u4.oneCell' = true)
    (h : ∀ g cap w', w'.ownsRow base 39 5 (.slice (some ⟨g, 0, none⟩) (n + 1) cap) (n + 1) (xs ++ [u0, u1, u2, u3, u4]) → Chg v.ownBlock.toList w w' → (v.ownBlock = some g ∨ g = w.heap.size) → K (a.put o.dst (.slice (some ⟨g, 0, none⟩) (n + 1) cap)) w') :
    if Region.wanted o (yielded ops a.tmps) = true then Oper.wp Tryz.prog o a w K Q else E := by
  obtain ⟨i, hi0, hz, hz1, hz2⟩ := info_parts inf66
  refine step_append_lies w hgd s x 67 ho base 39 i _ 5 56 ty79 hi0 hz hz1 hz2 rfl (by decide) v n xs hs hown ⟨b, 0, none⟩ 1 c [u0, u1, u2, u3, u4] hx rfl ?_ ?_ (by decide) (by unfold maxLen; omega) (by omega) hbase _ rfl ?_
  · intro j u hu
    rw [show (⟨b, 0, none⟩ : Addr).add j = ⟨b, 0 + j, none⟩ from by unfold Addr.add; split <;> simp_all, Nat.zero_add]
    exact cell_is hb j (by simpa using hu)
  · intro u hu
    simp at hu
    obtain ⟨h2, h3, h4, h5, h6⟩ := h1
    rcases hu with rfl | rfl | rfl | rfl | rfl <;> assumption
  · intro g cap w' h2 h3 h4 _
    exact h g cap w' h2 (Chg.of_grownO h3) h4
/-- the ops behind the first one. -/
def cutV (g o m c : Nat) : Value := .slice (if c = 1 then some ⟨g, o, none⟩ else some ⟨g, o + 5, none⟩) m (c - 1)
set_option maxRecDepth 100000 in
set_option maxHeartbeats 8000000 in
theorem step_told (w : World) {K P0 lw g o m c na : Nat} {P : Array Value → World → Prop} {cs : Array Value} {kind oh oa ol ev x0 x1 x2 x3 : Int} {pp : Option Addr} {pn pc : Nat} {av : Value} {xa : List Value} {q : Bool} (hlw : lw ≤ w.heap.size) (hKl : lw ≤ K) (hP : ∀ cs, Cl lw (P cs))
    (hB : SchB w K cs) (h1 : cs[1]? = some (.pointer (some ⟨P0, 0, none⟩))) (h2 : cs[2]? = some (.slice (some ⟨g, o, none⟩) (m + 1) c)) (h35 : cs[35]? = some (.int .i64 ev)) (hev : 0 ≤ ev ∧ ev ≤ 1000000) (_hc : m + 1 ≤ c)
    (u0 : w.cell? ⟨g, o, none⟩ = some (.int .i64 kind)) (u1 : w.cell? ⟨g, o + 1, none⟩ = some (.int .i64 oh)) (u2 : w.cell? ⟨g, o + 2, none⟩ = some (.int .i64 oa)) (u3 : w.cell? ⟨g, o + 3, none⟩ = some (.int .i64 ol)) (u4 : w.cell? ⟨g, o + 4, none⟩ = some (.slice pp pn pc)) (hgK : g ≠ K)
    (HD : ∀ wx, Chg [K] w wx → SchB wx K (cs.setIfInBounds 35 (.int .i64 (ev + 1))) → Calls Tryz.prog 22 #[.pointer (some ⟨K, 0, none⟩), .pointer (some ⟨K, 2, none⟩), .agg #[.int .i64 kind, .int .i64 oh, .int .i64 oa, .int .i64 ol, .slice pp pn pc]] wx (DoR wx K P x0 x1 x2 x3 true))
    (hQ : ∀ cs2 w2, P cs2 w2 → cs2[2]? = some (.slice (some ⟨g, o, none⟩) (m + 1) c) ∧ cs2[4]? = some av ∧ cs2[5]? = some (.bool q)) (hav : w.ownsRow lw 39 5 av na xa) (hna : na ≤ 900) :
    Calls Tryz.prog 10 #[.pointer (some ⟨K, 0, none⟩), .int .i64 1] w fun e w' => e = .returned (.tuple #[.agg #[.int .i64 x0, .int .i64 x1, .int .i64 x2, .int .i64 x3, .slice none 0 0], .int .i64 0]) ∧ ∃ av' cs2, P cs2 w' ∧
      SchB w' K (((cs2.setIfInBounds 2 (cutV g o m c)).setIfInBounds 5 (.bool false)).setIfInBounds 4 av') ∧ w'.ownsRow lw 39 5 av' (na + 1) (xa ++ [.int .i64 x0, .int .i64 x1, .int .i64 x2, .int .i64 x3, .slice none 0 0]) := by
  have k0 : Chg [] w (w.alloc (.cells #[.int .i64 0, .int .i64 0, .int .i64 0, .int .i64 0, .slice none 0 0] 39)) := Chg.alloc w _
  have y0 := heap_new w (.cells #[.int .i64 0, .int .i64 0, .int .i64 0, .int .i64 0, .slice none 0 0] 39)
  generalize hw0 : w.alloc (.cells #[.int .i64 0, .int .i64 0, .int .i64 0, .int .i64 0, .slice none 0 0] 39) = w0 at *
  generalize hz : w.heap.size = z at *
  have hKz : K < z := by rw [← hz]; exact heap_lt hB
  have hzl := heap_lt y0
  have B0 : SchB w0 K cs := k0.heap hB (by simp)
  have HCl : Hid (Calls Tryz.prog 19 #[.pointer (some ⟨K, 0, none⟩), .int .i64 1] w0 fun e w' => e = .returned (.pointer (some ⟨K, 2, none⟩)) ∧ w0 = w') := Lib.hid (client_in w0 B0 h1 ⟨by decide, by decide⟩)
  have c35 := cell_is B0 35 h35
  have f35 := unfrozen B0 35
  have n1 : IntKind.i64.wrap (ev + 1) = ev + 1 := by rw [IntKind.wrap_i64]; omega
  have hs35 : 35 < cs.size := (Array.getElem?_eq_some_iff.1 h35).1
  have HQ0 := Lib.hid (And.intro h2 (And.intro hQ hna))
  have HU := Lib.hid (And.intro u0 (And.intro u1 (And.intro u2 (And.intro u3 u4))))
  have HDo := Lib.hid HD
  have HZo := Lib.hid (show ∀ g', av.ownBlock = some g' → g' < z from fun g' hg' => by
    obtain ⟨-, cur, hh⟩ := own_elem hav hg'
    rw [← hz]
    exact heap_lt hh)
  have HB := Lib.hid (And.intro hB (And.intro k0 (And.intro y0 (And.intro B0 hav))))
  clear hB h1 h35 u0 u1 u2 u3 u4 HD hQ hav k0 y0 B0 h2
  go_enter Tryz.func10, Tryz.ntmps10
  go_wp2_with fail
  refine HCl.out.mono ?_
  rintro e w1 ⟨rfl, rfl⟩
  go_upto_region 5 with fail
  obtain ⟨hB, k0, y0, B0, hav⟩ := HB.out
  have B1 : SchB (w0.setCell ⟨K, 35, none⟩ (.int .i64 (ev + 1))) K (cs.setIfInBounds 35 (.int .i64 (ev + 1))) := heap_set B0 35 _ rfl
  have k1 : Chg [K] w0 (w0.setCell ⟨K, 35, none⟩ (.int .i64 (ev + 1))) := Chg.set _ _ _ _
  generalize w0.setCell ⟨K, 35, none⟩ (.int .i64 (ev + 1)) = w1 at *
  have k01 : Chg [K] w w1 := (k0.mono (fun x hx _ => by cases hx)).then k1
  have y1 := k1.heap y0 (by simp; omega)
  have c2 : w1.cell? ⟨K, 2, none⟩ = some (.slice (some ⟨g, o, none⟩) (m + 1) c) := cell_is B1 2 (by rw [Array.getElem?_setIfInBounds_ne (by decide)]; exact HQ0.out.1)
  have u0 := k01.cell HU.out.1 (by simpa using hgK)
  have u1 := k01.cell HU.out.2.1 (by simpa using hgK)
  have u2 := k01.cell HU.out.2.2.1 (by simpa using hgK)
  have u3 := k01.cell HU.out.2.2.2.1 (by simpa using hgK)
  have u4 := k01.cell HU.out.2.2.2.2 (by simpa using hgK)
  have n2 : decide (((m + 1 : Nat) : Int) = 0) = false := decide_eq_false (by omega)
  have n3 : decide ((m : Int) + 1 = 0) = false := decide_eq_false (by omega)
  have n4 : ¬ ((m : Int) + 1 = 0) := by omega
  have HD1 := Lib.hid (HDo.out w1 k01 B1)
  have HX1 := Lib.hid (And.intro y1 (own_chgB hav k01 (fun g' hg' hm => by
    rw [List.mem_singleton] at hm
    subst hm
    obtain ⟨-, cur, hh⟩ := own_elem hav hg'
    rw [show w.heap[_]? = _ from hB] at hh
    cases hh)))
  clear hB k0 y0 B0 hav B1 k1 y1 c35 f35 n1 HB HDo HCl
  go_wp2_with fail
  refine HD1.out.mono ?_
  rintro e w2 ⟨rfl, cs2, hp, hK2, h66⟩
  have hq2 := HQ0.out.2.1 cs2 w2 hp
  have HQ := Lib.hid (And.intro HQ0.out.1 (And.intro hq2.1 (And.intro hq2.2.1 (And.intro hq2.2.2 HQ0.out.2.2))))
  clear hq2
  have HX2 := Lib.hid (And.intro hp (And.intro hK2 (And.intro (h66 _ _ HX1.out.1) (own_k66 HX1.out.2 h66))))
  have hs12 : z < w2.heap.size := by have := heap_lt (h66 _ _ HX1.out.1); exact this
  clear hp hK2 h66 c2 u0 u1 u2 u3 u4 n2 n3 n4
  go_upto_region 11 with fail
  obtain ⟨hp, hK2, y2, hav2⟩ := HX2.out
  have k3 : Chg [] w2 (w2.alloc (.cells #[.int .i64 x0, .int .i64 x1, .int .i64 x2, .int .i64 x3, .slice none 0 0] 39)) := Chg.alloc w2 _
  have b3 := heap_new w2 (.cells #[.int .i64 x0, .int .i64 x1, .int .i64 x2, .int .i64 x3, .slice none 0 0] 39)
  generalize w2.alloc (.cells #[.int .i64 x0, .int .i64 x1, .int .i64 x2, .int .i64 x3, .slice none 0 0] 39) = w3 at *
  generalize hzb : w2.heap.size = zb at *
  have B3 : SchB w3 K cs2 := k3.heap hK2 (by simp)
  have y3 := k3.heap y2 (by simp)
  have hp3 := (hP cs2).box hp k3 (fun x hx => by cases hx) (fun x hx => by cases hx)
  have hav3 := own_keep hav2 k3.below0
  have hKb : K < zb := by rw [← hzb]; exact heap_lt hK2
  have c2 := cell_is B3 2 HQ.out.2.1
  have c5 := cell_is B3 5 HQ.out.2.2.2.1
  have f2 := unfrozen B3 2
  have f5 := unfrozen B3 5
  clear hp hK2 y2 hav2 k3 HX2
  go_upto_region 12 with fail
  have hcut : cutV g o m c = .slice (if c = 1 then some ⟨g, o, none⟩ else some ⟨g, o + 5, none⟩) m (c - 1) := rfl
  generalize (if c = 1 then some (⟨g, o, none⟩ : Addr) else some ⟨g, o + 5, none⟩) = pq at *
  have HCut := Lib.hid hcut
  clear hcut
  have B4 : SchB ((w3.setCell ⟨K, 2, none⟩ (.slice pq m (c - 1))).setCell ⟨K, 5, none⟩ (.bool false)) K ((cs2.setIfInBounds 2 (.slice pq m (c - 1))).setIfInBounds 5 (.bool false)) := heap_set (heap_set B3 2 _ rfl) 5 _ rfl
  have k4 : Chg [K] w3 ((w3.setCell ⟨K, 2, none⟩ (.slice pq m (c - 1))).setCell ⟨K, 5, none⟩ (.bool false)) := (Chg.set _ _ _ _).then (Chg.set _ _ _ _)
  generalize (w3.setCell ⟨K, 2, none⟩ (.slice pq m (c - 1))).setCell ⟨K, 5, none⟩ (.bool false) = w4 at *
  have tpK : Tp w3 [K] [72, 39] := fun x hx => by
    rw [List.mem_singleton] at hx
    subst hx
    exact ⟨_, _, B3, by simp⟩
  have hp4 := (hP cs2).keep _ _ _ hp3 k4 tpK (fun x hx => by rw [List.mem_singleton] at hx; omega)
  have y4 := k4.heap y3 (by simp; omega)
  have b4 := k4.heap b3 (by simp; omega)
  have hav4 := own_chgB hav3 k4 (fun g' hg' hm => by
    rw [List.mem_singleton] at hm
    subst hm
    obtain ⟨-, cur, hh⟩ := own_elem hav3 hg'
    rw [show w3.heap[_]? = _ from B3] at hh
    cases hh)
  obtain ⟨pa, ca, rfl, hca⟩ := own_form hav4
  have e24 : (((cs2.setIfInBounds 2 (Value.slice pq m (c - 1))).setIfInBounds 5 (.bool false))[4]? = some (.slice pa na ca)) := by
    rw [Array.getElem?_setIfInBounds_ne (by decide), Array.getElem?_setIfInBounds_ne (by decide)]
    exact HQ.out.2.2.1
  have HB4 := Lib.hid (And.intro B4 (And.intro hp4 (And.intro y4 (And.intro b4 (And.intro hav4 e24)))))
  have s4 : w4.cell? ⟨K, 4, none⟩ = some (.slice pa na ca) := cell_is B4 4 e24
  have s4d : w4.drew.cell? ⟨K, 4, none⟩ = some (.slice pa na ca) := s4
  have d0 := cell_is b4 0 rfl
  have d1 := cell_is b4 1 rfl
  have d2 := cell_is b4 2 rfl
  have d3 := cell_is b4 3 rfl
  have d4 := cell_is b4 4 rfl
  have d0d : w4.drew.cell? ⟨zb, 0, none⟩ = some (.int .i64 x0) := d0
  have d1d : w4.drew.cell? ⟨zb, 1, none⟩ = some (.int .i64 x1) := d1
  have d2d : w4.drew.cell? ⟨zb, 2, none⟩ = some (.int .i64 x2) := d2
  have d3d : w4.drew.cell? ⟨zb, 3, none⟩ = some (.int .i64 x3) := d3
  have d4d : w4.drew.cell? ⟨zb, 4, none⟩ = some (.slice none 0 0) := d4
  have kA : Chg [] w4 (w4.alloc (.cells #[.int .i64 x0, .int .i64 x1, .int .i64 x2, .int .i64 x3, .slice none 0 0] 39)).drew := (Chg.alloc w4 _).drew
  have yA : (w4.alloc (.cells #[.int .i64 x0, .int .i64 x1, .int .i64 x2, .int .i64 x3, .slice none 0 0] 39)).drew.heap[w4.heap.size]? = _ := heap_new w4 (.cells #[.int .i64 x0, .int .i64 x1, .int .i64 x2, .int .i64 x3, .slice none 0 0] 39)
  have sA := kA.cell s4 (by simp)
  have BA := kA.heap B4 (by simp)
  have oA := own_keep hav4 kA.below0
  have hlA : lw ≤ (w4.alloc (.cells #[.int .i64 x0, .int .i64 x1, .int .i64 x2, .int .i64 x3, .slice none 0 0] 39)).drew.heap.size := by have := kA.size; have := heap_lt y4; omega
  have hna := HQ.out.2.2.2.2
  clear B4 hp4 y4 b4 hav4 e24 k4 hp3 y3 b3 hav3 B3 c2 c5 f2 f5 tpK
  go_region_law
    (first
      | (refine step_append_ans rfl (.tmp 62) (.tmp 64) rfl lw w4.heap.size 1 na (.slice pa na ca) _ _ _ _ _ xa rfl oA hlA (by omega) rfl yA ⟨rfl, rfl, rfl, rfl, rfl⟩ ?_; intro g7 c7 w7 o7 k7 n7; have B7 : SchB w7 K _ := k7.heap BA (own_not oA BA (by decide)); have s8 := cell_is B7 4 HB4.out.2.2.2.2.2; have f8 := unfrozen B7 4))
  all_goals
    obtain ⟨B4, hp4, y4, b4, hav4, e24⟩ := HB4.out
    have B8 : SchB (w7.setCell ⟨K, 4, none⟩ (.slice (some ⟨g7, 0, none⟩) (na + 1) c7)) K (((cs2.setIfInBounds 2 (.slice pq m (c - 1))).setIfInBounds 5 (.bool false)).setIfInBounds 4 (.slice (some ⟨g7, 0, none⟩) (na + 1) c7)) := heap_set B7 4 _ rfl
    have ks8 : Chg [K] w7 (w7.setCell ⟨K, 4, none⟩ (.slice (some ⟨g7, 0, none⟩) (na + 1) c7)) := Chg.set _ _ _ _
    generalize w7.setCell ⟨K, 4, none⟩ (.slice (some ⟨g7, 0, none⟩) (na + 1) c7) = w8 at *
    have o8 := own_chgB o7 ks8 (fun g' hg' hm => by
      rw [List.mem_singleton] at hm
      subst hm
      obtain ⟨-, cur, hh⟩ := own_elem o7 hg'
      rw [show w7.heap[_]? = _ from B7] at hh
      cases hh)
    have k48 : Chg (K :: (Value.slice pa na ca).ownBlock.toList) w4 w8 := ((kA.mono (fun x hx _ => by cases hx)).then (k7.mono (fun x hx _ => List.mem_cons_of_mem _ hx))).then (ks8.mono (fun x hx _ => by simp at hx; simp [hx]))
    have tp4 : Tp w4 (K :: (Value.slice pa na ca).ownBlock.toList) [72, 39] := fun x hx => by
      rcases List.mem_cons.1 hx with rfl | hx
      · exact ⟨_, _, B4, by simp⟩
      · obtain ⟨-, cur, hh⟩ := own_elem hav4 (show (Value.slice pa na ca).ownBlock = some x by simpa using hx)
        exact ⟨_, _, hh, by simp⟩
    have hp8 := (hP cs2).keep _ _ _ hp4 k48 tp4 (fun x hx => by
      rcases List.mem_cons.1 hx with rfl | hx
      · exact hKl
      · exact (own_elem hav4 (show (Value.slice pa na ca).ownBlock = some x by simpa using hx)).1)
    have nin : ∀ x, K < x → z ≤ x → x ∉ K :: (Value.slice pa na ca).ownBlock.toList := fun x h1 h2 hx => by
      rcases List.mem_cons.1 hx with e | hx
      · omega
      · have := HZo.out x (by simpa using hx)
        omega
    have y8 := k48.heap y4 (nin z hKz (Nat.le_refl _))
    have b8 := k48.heap b4 (nin zb hKb (by omega))
    have hsz8 := k48.size
    have hg7z : g7 ≠ z := by
      rcases n7 with h | h
      · have := HZo.out g7 h
        omega
      · have h1 := heap_lt y4
        have h2 := kA.size
        have h' : g7 = (w4.alloc (.cells #[.int .i64 x0, .int .i64 x1, .int .i64 x2, .int .i64 x3, .slice none 0 0] 39)).drew.heap.size := h
        omega
    clear B4 hp4 y4 b4 hav4 e24 HB4 o7 k7 n7 B7 s8 f8 kA yA sA BA oA hlA s4 s4d d0 d1 d2 d3 d4 d0d d1d d2d d3d d4d k48 tp4 ks8
    have d0 := cell_is b8 0 rfl
    have d1 := cell_is b8 1 rfl
    have d2 := cell_is b8 2 rfl
    have d3 := cell_is b8 3 rfl
    have d4 := cell_is b8 4 rfl
    have HK8 := Lib.hid (And.intro B8 (And.intro hp8 o8))
    clear B8 hp8 o8
    go_wp2_with fail
    refine (kept_nil w8).mono ?_
    rintro e w9 ⟨rfl, k9⟩
    have y9 := k9.heap y8 (by simp)
    have t0 := cell_is y9 0 rfl
    have t1 := cell_is y9 1 rfl
    have t2 := cell_is y9 2 rfl
    have t3 := cell_is y9 3 rfl
    have t4 := cell_is y9 4 rfl
    have e0 := unfrozen y9 0
    have e1 := unfrozen y9 1
    have e2 := unfrozen y9 2
    have e3 := unfrozen y9 3
    have e4 := unfrozen y9 4
    go_wp2_with fail
    obtain ⟨y11, k11⟩ := set5 (.int .i64 x0) (.int .i64 x1) (.int .i64 x2) (.int .i64 x3) (.slice none 0 0) y9
    generalize ((((w9.setCell ⟨z, 0, none⟩ (.int .i64 x0)).setCell ⟨z, 1, none⟩ (.int .i64 x1)).setCell ⟨z, 2, none⟩ (.int .i64 x2)).setCell ⟨z, 3, none⟩ (.int .i64 x3)).setCell ⟨z, 4, none⟩ (.slice none 0 0) = w10 at *
    have r0 := cell_is y11 0 rfl
    have r1 := cell_is y11 1 rfl
    have r2 := cell_is y11 2 rfl
    have r3 := cell_is y11 3 rfl
    have r4 := cell_is y11 4 rfl
    obtain ⟨B8, hp8, o8⟩ := HK8.out
    have kf : Chg [z] w8 w10 := (k9.mono (fun x hx _ => by cases hx)).then k11
    have tp8 : Tp w8 [z] [39] := fun x hx => by
      rw [List.mem_singleton] at hx
      subst hx
      exact ⟨_, _, y8, by simp⟩
    refine bodyPost_ret (v := .tuple #[.agg #[.int .i64 x0, .int .i64 x1, .int .i64 x2, .int .i64 x3, .slice none 0 0], .int .i64 0]) (by simp [results, Tryz.results10, go_sem, r0, r1, r2, r3, r4]) rfl ?_
    refine ⟨rfl, _, cs2, (hP cs2).box hp8 kf tp8 (fun x hx => by rw [List.mem_singleton] at hx; omega), (by rw [HCut.out]; exact kf.heap B8 (by intro hm; rw [List.mem_singleton] at hm; omega)), own_chgB o8 kf (fun g' hg' hm => ?_)⟩
    rw [List.mem_singleton] at hm
    cases hg'
    exact hg7z hm
end Go.Proofs.YtliicpedddcfiaaGreat
namespace Go.Proofs.YtliicpedddcfiaaGreat
open Go.RowKit Go.Lib

set_option maxRecDepth 100000 in
set_option maxHeartbeats 8000000 in
theorem step_wait (w : World) {K P0 lw g o m c : Nat} {P : Array Value → World → Prop} {cs : Array Value} {kind oh oa ol ev x0 x1 x2 x3 : Int} {pp : Option Addr} {pn pc : Nat} {q : Bool} (hlw : lw ≤ w.heap.size) (hKl : lw ≤ K) (hP : ∀ cs, Cl lw (P cs))
    (hB : SchB w K cs) (h1 : cs[1]? = some (.pointer (some ⟨P0, 0, none⟩))) (h2 : cs[2]? = some (.slice (some ⟨g, o, none⟩) (m + 1) c)) (h35 : cs[35]? = some (.int .i64 ev)) (hev : 0 ≤ ev ∧ ev ≤ 1000000) (_hc : m + 1 ≤ c)
    (u0 : w.cell? ⟨g, o, none⟩ = some (.int .i64 kind)) (u1 : w.cell? ⟨g, o + 1, none⟩ = some (.int .i64 oh)) (u2 : w.cell? ⟨g, o + 2, none⟩ = some (.int .i64 oa)) (u3 : w.cell? ⟨g, o + 3, none⟩ = some (.int .i64 ol)) (u4 : w.cell? ⟨g, o + 4, none⟩ = some (.slice pp pn pc)) (hgK : g ≠ K)
    (HD : ∀ wx, Chg [K] w wx → SchB wx K (cs.setIfInBounds 35 (.int .i64 (ev + 1))) → Calls Tryz.prog 22 #[.pointer (some ⟨K, 0, none⟩), .pointer (some ⟨K, 2, none⟩), .agg #[.int .i64 kind, .int .i64 oh, .int .i64 oa, .int .i64 ol, .slice pp pn pc]] wx (DoR wx K P x0 x1 x2 x3 false))
    (hQ : ∀ cs2 w2, P cs2 w2 → cs2[5]? = some (.bool q)) :
    Calls Tryz.prog 10 #[.pointer (some ⟨K, 0, none⟩), .int .i64 1] w fun e w' => e = .returned (.tuple #[.agg #[.int .i64 0, .int .i64 0, .int .i64 0, .int .i64 0, .slice none 0 0], .int .i64 16]) ∧ ∃ cs2, P cs2 w' ∧ SchB w' K (cs2.setIfInBounds 5 (.bool true)) ∧ K66 w w' := by
  have k0 : Chg [] w (w.alloc (.cells #[.int .i64 0, .int .i64 0, .int .i64 0, .int .i64 0, .slice none 0 0] 39)) := Chg.alloc w _
  have y0 := heap_new w (.cells #[.int .i64 0, .int .i64 0, .int .i64 0, .int .i64 0, .slice none 0 0] 39)
  generalize hw0 : w.alloc (.cells #[.int .i64 0, .int .i64 0, .int .i64 0, .int .i64 0, .slice none 0 0] 39) = w0 at *
  generalize hz : w.heap.size = z at *
  have hKz : K < z := by rw [← hz]; exact heap_lt hB
  have hzl := heap_lt y0
  have B0 : SchB w0 K cs := k0.heap hB (by simp)
  have HCl : Hid (Calls Tryz.prog 19 #[.pointer (some ⟨K, 0, none⟩), .int .i64 1] w0 fun e w' => e = .returned (.pointer (some ⟨K, 2, none⟩)) ∧ w0 = w') := Lib.hid (client_in w0 B0 h1 ⟨by decide, by decide⟩)
  have c35 := cell_is B0 35 h35
  have f35 := unfrozen B0 35
  have n1 : IntKind.i64.wrap (ev + 1) = ev + 1 := by rw [IntKind.wrap_i64]; omega
  have hs35 : 35 < cs.size := (Array.getElem?_eq_some_iff.1 h35).1
  have HQ0 := Lib.hid (And.intro h2 hQ)
  have HU := Lib.hid (And.intro u0 (And.intro u1 (And.intro u2 (And.intro u3 u4))))
  have HDo := Lib.hid HD
  have HB := Lib.hid (And.intro hB (And.intro k0 (And.intro y0 B0)))
  clear hB h1 h35 u0 u1 u2 u3 u4 HD hQ k0 y0 B0 h2
  go_enter Tryz.func10, Tryz.ntmps10
  go_wp2_with fail
  refine HCl.out.mono ?_
  rintro e w1 ⟨rfl, rfl⟩
  go_upto_region 5 with fail
  obtain ⟨hB, k0, y0, B0⟩ := HB.out
  have kw0 : K66 w w0 := K66.of0 k0
  have B1 : SchB (w0.setCell ⟨K, 35, none⟩ (.int .i64 (ev + 1))) K (cs.setIfInBounds 35 (.int .i64 (ev + 1))) := heap_set B0 35 _ rfl
  have k1 : Chg [K] w0 (w0.setCell ⟨K, 35, none⟩ (.int .i64 (ev + 1))) := Chg.set _ _ _ _
  generalize w0.setCell ⟨K, 35, none⟩ (.int .i64 (ev + 1)) = w1 at *
  have k01 : Chg [K] w w1 := (k0.mono (fun x hx _ => by cases hx)).then k1
  have y1 := k1.heap y0 (by simp; omega)
  have c2 : w1.cell? ⟨K, 2, none⟩ = some (.slice (some ⟨g, o, none⟩) (m + 1) c) := cell_is B1 2 (by rw [Array.getElem?_setIfInBounds_ne (by decide)]; exact HQ0.out.1)
  have u0 := k01.cell HU.out.1 (by simpa using hgK)
  have u1 := k01.cell HU.out.2.1 (by simpa using hgK)
  have u2 := k01.cell HU.out.2.2.1 (by simpa using hgK)
  have u3 := k01.cell HU.out.2.2.2.1 (by simpa using hgK)
  have u4 := k01.cell HU.out.2.2.2.2 (by simpa using hgK)
  have n2 : decide (((m + 1 : Nat) : Int) = 0) = false := decide_eq_false (by omega)
  have n3 : decide ((m : Int) + 1 = 0) = false := decide_eq_false (by omega)
  have n4 : ¬ ((m : Int) + 1 = 0) := by omega
  have HD1 := Lib.hid (HDo.out w1 k01 B1)
  have kw1 : K66 w w1 := fun x cs3 hx => k1.heap (kw0 x cs3 hx) (by
    intro hm
    rw [List.mem_singleton] at hm
    subst hm
    have := kw0 x cs3 hx
    rw [show w0.heap[_]? = _ from B0] at this
    cases this)
  have HX1 := Lib.hid (And.intro y1 kw1)
  clear hB k0 y0 B0 kw0 kw1 B1 k1 y1 c35 f35 n1 HB HDo HCl
  go_wp2_with fail
  refine HD1.out.mono ?_
  rintro e w2 ⟨rfl, cs2, hp, hK2, h66⟩
  have HQ := Lib.hid (And.intro HQ0.out.1 (HQ0.out.2 cs2 w2 hp))
  have y2 := h66 _ _ HX1.out.1
  have hs12 : z < w2.heap.size := heap_lt y2
  have kw2 := HX1.out.2.trans h66
  have k3 : Chg [] w2 (w2.alloc (.cells #[.int .i64 x0, .int .i64 x1, .int .i64 x2, .int .i64 x3, .slice none 0 0] 39)) := Chg.alloc w2 _
  have B3 : SchB (w2.alloc (.cells #[.int .i64 x0, .int .i64 x1, .int .i64 x2, .int .i64 x3, .slice none 0 0] 39)) K cs2 := k3.heap hK2 (by simp)
  have y3 := k3.heap y2 (by simp)
  have HX2 := Lib.hid (And.intro hp (And.intro hK2 (And.intro y2 (And.intro kw2 (And.intro k3 (And.intro B3 y3))))))
  clear hp hK2 h66 c2 u0 u1 u2 u3 u4 n2 n3 n4 y2 kw2 k3 B3 y3
  go_upto_region 8 with fail
  obtain ⟨hp, hK2, y2, kw2, k3, B3, y3⟩ := HX2.out
  generalize w2.alloc (.cells #[.int .i64 x0, .int .i64 x1, .int .i64 x2, .int .i64 x3, .slice none 0 0] 39) = w3 at *
  have hp3 := (hP cs2).box hp k3 (fun x hx => by cases hx) (fun x hx => by cases hx)
  have kw3 := kw2.trans (K66.of0 k3)
  have c5 := cell_is B3 5 HQ.out.2
  have f5 := unfrozen B3 5
  have B4 : SchB (w3.setCell ⟨K, 5, none⟩ (.bool true)) K (cs2.setIfInBounds 5 (.bool true)) := heap_set B3 5 _ rfl
  have k4 : Chg [K] w3 (w3.setCell ⟨K, 5, none⟩ (.bool true)) := Chg.set _ _ _ _
  have HX4 := Lib.hid (And.intro hp3 (And.intro kw3 (And.intro B4 (And.intro k4 (And.intro B3 y3)))))
  clear hp hK2 y2 kw2 k3 HX2 hp3 kw3 B4 k4 y3
  go_upto_region 10 with fail
  obtain ⟨hp3, kw3, B4, k4, B3', y3⟩ := HX4.out
  generalize w3.setCell ⟨K, 5, none⟩ (.bool true) = w4 at *
  have hp4 := (hP cs2).keep _ _ _ hp3 k4 (fun x hx => by
    rw [List.mem_singleton] at hx
    subst hx
    exact ⟨_, _, B3, by simp⟩) (fun x hx => by rw [List.mem_singleton] at hx; omega)
  have kw4 : K66 w w4 := fun x cs3 hx => k4.heap (kw3 x cs3 hx) (by
    intro hm
    rw [List.mem_singleton] at hm
    subst hm
    have := kw3 x cs3 hx
    rw [show w3.heap[_]? = _ from B3] at this
    cases this)
  have y4 := k4.heap y3 (by simp; omega)
  have t0 := cell_is y4 0 rfl
  have t1 := cell_is y4 1 rfl
  have t2 := cell_is y4 2 rfl
  have t3 := cell_is y4 3 rfl
  have t4 := cell_is y4 4 rfl
  have e0 := unfrozen y4 0
  have e1 := unfrozen y4 1
  have e2 := unfrozen y4 2
  have e3 := unfrozen y4 3
  have e4 := unfrozen y4 4
  have HX5 := Lib.hid (And.intro hp4 (And.intro kw4 (And.intro B4 y4)))
  clear hp3 kw3 B4 k4 B3' y3 hp4 kw4 y4 HX4 c5 f5 B3
  go_wp2_with fail
  obtain ⟨hp4, kw4, B4, y4⟩ := HX5.out
  obtain ⟨y11, k11⟩ := set5 (.int .i64 0) (.int .i64 0) (.int .i64 0) (.int .i64 0) (.slice none 0 0) y4
  generalize ((((w4.setCell ⟨z, 0, none⟩ (.int .i64 0)).setCell ⟨z, 1, none⟩ (.int .i64 0)).setCell ⟨z, 2, none⟩ (.int .i64 0)).setCell ⟨z, 3, none⟩ (.int .i64 0)).setCell ⟨z, 4, none⟩ (.slice none 0 0) = w10 at *
  have r0 := cell_is y11 0 rfl
  have r1 := cell_is y11 1 rfl
  have r2 := cell_is y11 2 rfl
  have r3 := cell_is y11 3 rfl
  have r4 := cell_is y11 4 rfl
  have tp8 : Tp w4 [z] [39] := fun x hx => by
    rw [List.mem_singleton] at hx
    subst hx
    exact ⟨_, _, y4, by simp⟩
  refine bodyPost_ret (v := .tuple #[.agg #[.int .i64 0, .int .i64 0, .int .i64 0, .int .i64 0, .slice none 0 0], .int .i64 16]) (by simp [results, Tryz.results10, go_sem, r0, r1, r2, r3, r4]) rfl ?_
  exact ⟨rfl, cs2, (hP cs2).box hp4 k11 tp8 (fun x hx => by rw [List.mem_singleton] at hx; omega), k11.heap B4 (by intro hm; rw [List.mem_singleton] at hm; omega), kw4.new k11 (fun x hx => by rw [List.mem_singleton] at hx; omega)⟩
set_option maxRecDepth 100000 in
set_option maxHeartbeats 4000000 in
theorem sched_flush (w : World) {K P0 : Nat} {cs : Array Value} {ev r : Int} {Q : World → Prop} (hB : SchB w K cs) (h1 : cs[1]? = some (.pointer (some ⟨P0, 0, none⟩))) (h35 : cs[35]? = some (.int .i64 ev)) (hev : 0 ≤ ev ∧ ev ≤ 1000000)
    (HF : ∀ wx, Chg [K] w wx → SchB wx K (cs.setIfInBounds 35 (.int .i64 (ev + 1))) → Calls Tryz.prog 26 #[.pointer (some ⟨P0, 0, none⟩)] wx fun e w' => e = .returned (.int .i64 r) ∧ Q w') :
    Calls Tryz.prog 13 #[.pointer (some ⟨K, 0, none⟩)] w fun e w' => e = .returned (.int .i64 r) ∧ Q w' := by
  have HG := Lib.hid (sgone_any w hB h1)
  have c35 := cell_is hB 35 h35
  have f35 := unfrozen hB 35
  have n1 : IntKind.i64.wrap (ev + 1) = ev + 1 := by rw [IntKind.wrap_i64]; omega
  have B1 : SchB (w.setCell ⟨K, 35, none⟩ (.int .i64 (ev + 1))) K (cs.setIfInBounds 35 (.int .i64 (ev + 1))) := heap_set hB 35 _ rfl
  have k1 : Chg [K] w (w.setCell ⟨K, 35, none⟩ (.int .i64 (ev + 1))) := Chg.set _ _ _ _
  have c1 := cell_is B1 1 (show (cs.setIfInBounds 35 (.int .i64 (ev + 1)))[1]? = _ from by rw [Array.getElem?_setIfInBounds_ne (by decide)]; exact h1)
  have HFl := Lib.hid (HF _ k1 B1)
  clear hB h1 h35 B1 k1 HF
  go_enter Tryz.func13, Tryz.ntmps13
  go_wp2_with fail
  refine HG.out.mono ?_
  rintro e w1 ⟨rfl, rfl⟩
  go_upto_region 4 with fail
  generalize w.setCell ⟨K, 35, none⟩ (.int .i64 (ev + 1)) = w2 at *
  go_wp2_with fail
  refine HFl.out.mono ?_
  rintro e w3 ⟨rfl, hq⟩
  have HQ := Lib.hid hq
  clear hq
  go_wp2_with fail
  go_ret
  exact ⟨rfl, HQ.out⟩
end Go.Proofs.YtliicpedddcfiaaGreat
namespace Go.Proofs.YtliicpedddcfiaaGreat
open Go.RowKit Go.Lib

/-- what changes lies at lw or behind it. -/
def Up (lw : Nat) (w w' : World) : Prop := ∃ U, Chg U w w' ∧ ∀ x ∈ U, x < w.heap.size → lw ≤ x
theorem Up.of0 {lw : Nat} {w w' : World} (h : Chg [] w w') : Up lw w w' := ⟨[], h, fun x hx => by cases hx⟩
theorem Up.of_lo {lw : Nat} {w w' : World} (h : Lo lw w w') : Up lw w w' := by
  obtain ⟨U, h1, h2⟩ := h
  exact ⟨U, h1, fun x hx hl => (h2 x hx hl).1⟩
theorem Up.of_ow {base lw : Nat} {w w' : World} (h : Ow base w w') (hb : lw ≤ base) : Up lw w w' := by
  obtain ⟨U, h1, h2⟩ := h
  exact ⟨U, h1, fun x hx _ => Nat.le_trans hb (h2 x hx).1⟩
theorem Up.then {lw : Nat} {a b c : World} {S : List Nat} (h : Up lw a b) (k : Chg S b c) (hS : ∀ x ∈ S, x < b.heap.size → lw ≤ x) : Up lw a c := by
  obtain ⟨U, h1, h2⟩ := h
  refine ⟨U ++ S, (h1.mono (fun x hx _ => List.mem_append_left _ hx)).trans k (fun x hx _ => List.mem_append_right _ hx), fun x hx hlt => ?_⟩
  rcases List.mem_append.1 hx with h | h
  · exact h2 x h hlt
  · exact hS x h (Nat.lt_of_lt_of_le hlt h1.size)
theorem Up.trans {lw : Nat} {a b c : World} (h : Up lw a b) (k : Up lw b c) : Up lw a c := by
  obtain ⟨S, k1, k2⟩ := k
  exact h.then k1 k2
theorem Up.chg0 {lw : Nat} {w0 w w' : World} (h : Chg [] w0 w) (k : Up lw w w') (hl : w0.heap.size ≤ lw) : Chg [] w0 w' := by
  obtain ⟨U, k1, k2⟩ := k
  exact h.trans k1 (fun x hx hlt => by have := k2 x hx (Nat.lt_of_lt_of_le hlt h.size); omega)
/-- the three ops of the law, in a row of their own. -/
structure OpW (w : World) (lw g E D : Nat) (cE cD : Nat) (r : List UInt8) : Prop where
  row : ∃ cur, w.heap[g]? = some (.cells cur 33 (0, 0)) ∧ cur[0]? = some (.int .i64 1) ∧ cur[1]? = some (.int .i64 0) ∧ cur[2]? = some (.int .i64 0) ∧ cur[3]? = some (.int .i64 0) ∧ cur[4]? = some (.slice none 0 0) ∧
    cur[5]? = some (.int .i64 3) ∧ cur[6]? = some (.int .i64 0) ∧ cur[7]? = some (.int .i64 0) ∧ cur[8]? = some (.int .i64 0) ∧ cur[9]? = some (.slice (some ⟨E, 0, none⟩) 1 cE) ∧
    cur[10]? = some (.int .i64 4) ∧ cur[11]? = some (.int .i64 0) ∧ cur[12]? = some (.int .i64 0) ∧ cur[13]? = some (.int .i64 0) ∧ cur[14]? = some (.slice none 0 0)
  put : ∃ cs, w.heap[E]? = some (.cells cs 37 (0, 0)) ∧ cs[0]? = some (.int .i64 1) ∧ cs[1]? = some (.slice (some ⟨D, 0, none⟩) 40 cD)
  bs : Bs w (some ⟨D, 0, none⟩) r
  len : r.length = 40
  bt : Bt w D
theorem OpW.keep {w w' : World} {S : List Nat} {lw g E D cE cD : Nat} {r : List UInt8} (h : OpW w lw g E D cE cD r) (hc : Chg S w w') (hS : ∀ x ∈ S, x < w.heap.size → ∀ cs t fr, w.heap[x]? = some (.cells cs t fr) → t ≠ 33 ∧ t ≠ 37 ∧ t ≠ 5) : OpW w' lw g E D cE cD r := by
  obtain ⟨⟨cur, h1, h1'⟩, ⟨cs, h2, h2'⟩, h3, h4, ct, h5⟩ := h
  have nD : D ∉ S := fun hx => (hS D hx (heap_lt h5) _ _ _ h5).2.2 rfl
  exact ⟨⟨cur, hc.heap h1 (fun hx => (hS g hx (heap_lt h1) _ _ _ h1).1 rfl), h1'⟩, ⟨cs, hc.heap h2 (fun hx => (hS E hx (heap_lt h2) _ _ _ h2).2.1 rfl), h2'⟩, h3.chgB hc nD, h4, ct, hc.heap h5 nD⟩
/-- what stands beside the store: how far it is from w0, the law's world, the ops. -/
structure Bas (w0 : World) (lw C K R g E D cE cD : Nat) (r : List UInt8) (w : World) : Prop where
  up : Up lw w0 w
  wd : w.heap[C]? = some (.cells #[.pointer (some ⟨K, 0, none⟩), .pointer (some ⟨R, 0, none⟩), .int .i64 0] 58 (0, 0))
  ops : OpW w lw g E D cE cD r
theorem Bas.keep {w0 w w' : World} {S : List Nat} {lw C K R g E D cE cD : Nat} {r : List UInt8} (h : Bas w0 lw C K R g E D cE cD r w) (hc : Chg S w w') (hS : ∀ x ∈ S, x < w.heap.size → lw ≤ x ∧ ∀ cs t fr, w.heap[x]? = some (.cells cs t fr) → t ∉ [33, 37, 5, 58]) : Bas w0 lw C K R g E D cE cD r w' := by
  refine ⟨h.up.then hc (fun x hx hl => (hS x hx hl).1), hc.heap h.wd (fun hx => (hS C hx (heap_lt h.wd)).2 _ _ _ h.wd (by decide)), h.ops.keep hc (fun x hx hl cs t fr hh => ?_)⟩
  have := (hS x hx hl).2 cs t fr hh
  simp at this
  exact ⟨this.1, this.2.1, this.2.2.1⟩
theorem Bas.lo {w0 w w' : World} {lw C K R g E D cE cD : Nat} {r : List UInt8} (h : Bas w0 lw C K R g E D cE cD r w) (hc : Lo lw w w') : Bas w0 lw C K R g E D cE cD r w' := by
  obtain ⟨U, h1, h2⟩ := hc
  refine h.keep h1 (fun x hx hl => ⟨(h2 x hx hl).1, fun cs t fr hh hm => (h2 x hx hl).2 cs t fr hh ?_⟩)
  revert hm
  revert t
  simp only [List.mem_cons, List.not_mem_nil, or_false]
  intro t _ hm
  rcases hm with h | h | h | h <;> simp [h]
theorem Bas.tp {w0 w w' : World} {S ts : List Nat} {lw C K R g E D cE cD : Nat} {r : List UInt8} (h : Bas w0 lw C K R g E D cE cD r w) (hc : Chg S w w') (ht : Tp w S ts) (hts : ∀ t ∈ ts, t ∉ [33, 37, 5, 58]) (hl : ∀ x ∈ S, lw ≤ x) : Bas w0 lw C K R g E D cE cD r w' :=
  h.keep hc (fun x hx _ => ⟨hl x hx, fun cs t fr hh => by
    obtain ⟨cs2, t2, h2, h3⟩ := ht x hx
    rw [h2] at hh
    cases hh
    exact hts _ h3⟩)
/-- the one begin. -/
def Beg1 (w : World) (lw Bb : Nat) (bv : Value) (h f t : Int) : Prop := w.ownsRow lw 83 1 bv 1 [.pointer (some ⟨Bb, 0, none⟩)] ∧ w.heap[Bb]? = some (.cells (begC h f t) 85 (0, 0)) ∧ lw ≤ Bb
theorem Beg1.keep {w w' : World} {S : List Nat} {lw Bb : Nat} {bv : Value} {h f t : Int} (hb : Beg1 w lw Bb bv h f t) (hc : Chg S w w') (hS : ∀ x ∈ S, x < w.heap.size → ∀ cs t fr, w.heap[x]? = some (.cells cs t fr) → t ≠ 83 ∧ t ≠ 85) : Beg1 w' lw Bb bv h f t := by
  refine ⟨own_chgB hb.1 hc (fun g hg hm => ?_), hc.heap hb.2.1 (fun hm => (hS Bb hm (heap_lt hb.2.1) _ _ _ hb.2.1).2 rfl), hb.2.2⟩
  obtain ⟨-, cur, hh⟩ := own_elem hb.1 hg
  exact (hS g hm (heap_lt hh) _ _ _ hh).1 rfl
theorem Beg1.at_ {w : World} {lw Bb : Nat} {bv : Value} {h f t : Int} (hb : Beg1 w lw Bb bv h f t) : ∃ g c, bv = .slice (some ⟨g, 0, none⟩) 1 c ∧ w.cell? ⟨g, 0, none⟩ = some (.pointer (some ⟨Bb, 0, none⟩)) := by
  rcases hb.1.2 with ⟨e, h0⟩ | ⟨g, cap, cur, e, hA, hg, hc1, hc2, hc3, ht⟩
  · cases h0
  · refine ⟨g, cap, e, cell_is hg 0 ?_⟩
    have : (cur.toList.take (1 * 1))[0]? = some (.pointer (some ⟨Bb, 0, none⟩)) := by rw [ht]; rfl
    rwa [List.getElem?_take_of_lt (by omega), Array.getElem?_toList] at this
/-- a store's ids with its transaction's. -/
def dT (d : Ids) (T W rw Q V : Nat) : Ids := { d with T := T, W := W, rw := rw, Q := Q, V := V }
/-- an open transaction. -/
def Opn (w : World) (lw : Nat) (d : Ids) (ops : Int) (T base : Nat) (W rw Q V : Nat) (q : Int → List UInt8) (L : List (Int × Value)) : Prop :=
  Su w base (dT d T W rw Q V) (begP (s00 lw)) (StoF lw (dT d T W rw Q V) (begS (s00 lw) T) (g00 lw ops)) q L 0 ∧ (d.rx < base ∧ d.rb < base ∧ d.r < base) ∧ lw ≤ T ∧ lw ≤ base
theorem Opn.keep {w w' : World} {S ts : List Nat} {lw : Nat} {d : Ids} {ops : Int} {T base W rw Q V : Nat} {q : Int → List UInt8} {L : List (Int × Value)} (h : Opn w lw d ops T base W rw Q V q L) (hc : Chg S w w') (tp : Tp w S ts) (hts : ∀ t ∈ ts, t ∈ [72, 39, 85, 83]) : Opn w' lw d ops T base W rw Q V q L := by
  obtain ⟨hS, hr⟩ := h
  have hSto : Sto w lw (dT d T W rw Q V) (begS (s00 lw) T) (g00 lw ops) := hS.env
  have hd : ∀ t ∈ ts, t ∉ [105, 159, 93, 94, 97, 34, 5, 184, 237, 247, 240] := fun t ht => (by decide : ∀ u ∈ ([72, 39, 85, 83] : List Nat), u ∉ [105, 159, 93, 94, 97, 34, 5, 184, 237, 247, 240]) t (hts t ht)
  have hSto2 := hSto.keepA hc (tp.av (fun t ht hm => hd t ht (by revert hm; simp only [List.mem_cons, List.not_mem_nil, or_false]; omega))) (tp.map hSto.mx.ver.m) (tp.map hSto.mx.book.2) (tp.map hSto.mx.map)
  exact ⟨hS.keepA hc (tp.av (fun t ht => (by decide : ∀ u ∈ ([72, 39, 85, 83] : List Nat), u ∉ _) t (hts t ht))) (tp.map hS.buf.2) hSto2, hr⟩
end Go.Proofs.YtliicpedddcfiaaGreat
namespace Go.Proofs.YtliicpedddcfiaaGreat
open Go.RowKit Go.Lib

set_option maxHeartbeats 8000000 in
theorem set7 {w : World} {g : Nat} {t : TypeId} {a0 a1 a2 a3 a4 a5 a6 : Value} (b0 b1 b2 b3 b4 b5 b6 : Value) (h : w.heap[g]? = some (.cells #[a0, a1, a2, a3, a4, a5, a6] t (0, 0))) :
    (((((((w.setCell ⟨g, 0, none⟩ b0).setCell ⟨g, 1, none⟩ b1).setCell ⟨g, 2, none⟩ b2).setCell ⟨g, 3, none⟩ b3).setCell ⟨g, 4, none⟩ b4).setCell ⟨g, 5, none⟩ b5).setCell ⟨g, 6, none⟩ b6).heap[g]? = some (.cells #[b0, b1, b2, b3, b4, b5, b6] t (0, 0)) ∧
      Chg [g] w (((((((w.setCell ⟨g, 0, none⟩ b0).setCell ⟨g, 1, none⟩ b1).setCell ⟨g, 2, none⟩ b2).setCell ⟨g, 3, none⟩ b3).setCell ⟨g, 4, none⟩ b4).setCell ⟨g, 5, none⟩ b5).setCell ⟨g, 6, none⟩ b6) :=
  ⟨heap_set (heap_set (heap_set (heap_set (heap_set (heap_set (heap_set h 0 b0 rfl) 1 b1 rfl) 2 b2 rfl) 3 b3 rfl) 4 b4 rfl) 5 b5 rfl) 6 b6 rfl,
    ((((((Chg.set w g 0 b0).then (Chg.set _ g 1 b1)).then (Chg.set _ g 2 b2)).then (Chg.set _ g 3 b3)).then (Chg.set _ g 4 b4)).then (Chg.set _ g 5 b5)).then (Chg.set _ g 6 b6)⟩
theorem tp51 {w : World} {R : Nat} {cs : Array Value} (h : w.heap[R]? = some (.cells cs 51 (0, 0))) : Tp w [R] [51] := fun x hx => by
  rw [List.mem_singleton] at hx
  subst hx
  exact ⟨_, _, h, by simp⟩
set_option maxRecDepth 100000 in
set_option maxHeartbeats 4000000 in
theorem shist (w : World) {P M : Nat} {h st tm t : Int} {PR PP : Value → World → Prop} (p5 : w.cell? ⟨P, 5, none⟩ = some (.pointer (some ⟨M, 0, none⟩))) (kR : K51 PR) (kP : K51 PP)
    (HH : ∀ wx, Chg [] w wx → Calls Tryz.prog 63 #[.pointer (some ⟨M, 0, none⟩), .int .i64 h] wx (HiR wx st tm t PR PP)) :
    Calls Tryz.prog 30 #[.pointer (some ⟨P, 0, none⟩), .int .i64 h] w (HiR w st tm t PR PP) := by
  have k0 : Chg [] w (w.alloc (.cells #[.int .i64 0, .int .i64 0, .int .i64 0, .int .i64 0, .int .i64 0, .slice none 0 0, .slice none 0 0] 51)) := Chg.alloc w _
  have K0 := heap_new w (.cells #[.int .i64 0, .int .i64 0, .int .i64 0, .int .i64 0, .int .i64 0, .slice none 0 0, .slice none 0 0] 51)
  have hR0 : w.heap.size ≤ w.heap.size := Nat.le_refl _
  have HM := Lib.hid (mgr_of _ (k0.cell p5 (by simp)))
  have HX := Lib.hid (HH _ k0)
  have HC := Lib.hid (And.intro kR kP)
  clear p5 HH kR kP
  go_enter Tryz.func30, Tryz.ntmps30
  go_wp2_with fail
  generalize w.alloc (.cells #[.int .i64 0, .int .i64 0, .int .i64 0, .int .i64 0, .int .i64 0, .slice none 0 0, .slice none 0 0] 51) = w1 at *
  generalize hR : w.heap.size = R at hR0 K0 ⊢
  refine HM.out.mono ?_
  rintro e w2 ⟨rfl, rfl⟩
  go_wp2_with fail
  refine HX.out.mono ?_
  rintro e w2 ⟨p, n, c, p2, n2, c2, rfl, k2, hPR, hPP⟩
  have K2 := k2.heap K0 (by simp)
  have c0 : w2.cell? ⟨R, 0, none⟩ = some (.int .i64 0) := cell_is K2 0 rfl
  have f0 : w2.frozen? ⟨R, 0, none⟩ = false := unfrozen K2 0
  have c1 : w2.cell? ⟨R, 1, none⟩ = some (.int .i64 0) := cell_is K2 1 rfl
  have f1 : w2.frozen? ⟨R, 1, none⟩ = false := unfrozen K2 1
  have c2' : w2.cell? ⟨R, 2, none⟩ = some (.int .i64 0) := cell_is K2 2 rfl
  have f2 : w2.frozen? ⟨R, 2, none⟩ = false := unfrozen K2 2
  have c3 : w2.cell? ⟨R, 3, none⟩ = some (.int .i64 0) := cell_is K2 3 rfl
  have f3 : w2.frozen? ⟨R, 3, none⟩ = false := unfrozen K2 3
  have c4 : w2.cell? ⟨R, 4, none⟩ = some (.int .i64 0) := cell_is K2 4 rfl
  have f4 : w2.frozen? ⟨R, 4, none⟩ = false := unfrozen K2 4
  have c5 : w2.cell? ⟨R, 5, none⟩ = some (.slice none 0 0) := cell_is K2 5 rfl
  have f5 : w2.frozen? ⟨R, 5, none⟩ = false := unfrozen K2 5
  have c6 : w2.cell? ⟨R, 6, none⟩ = some (.slice none 0 0) := cell_is K2 6 rfl
  have f6 : w2.frozen? ⟨R, 6, none⟩ = false := unfrozen K2 6
  have hRl : w.heap.size ≤ R := by omega
  have hs := set7 (.int .i64 st) (.int .i64 t) (.int .i64 tm) (.int .i64 0) (.int .i64 0) (.slice p n c) (.slice p2 n2 c2) K2
  have hf : HiR w st tm t PR PP (.returned (.agg #[.int .i64 st, .int .i64 t, .int .i64 tm, .int .i64 0, .int .i64 0, .slice p n c, .slice p2 n2 c2])) (((((((w2.setCell ⟨R, 0, none⟩ (.int .i64 st)).setCell ⟨R, 1, none⟩ (.int .i64 t)).setCell ⟨R, 2, none⟩ (.int .i64 tm)).setCell ⟨R, 3, none⟩ (.int .i64 0)).setCell ⟨R, 4, none⟩ (.int .i64 0)).setCell ⟨R, 5, none⟩ (.slice p n c)).setCell ⟨R, 6, none⟩ (.slice p2 n2 c2)) :=
    ⟨p, n, c, p2, n2, c2, rfl, (k0.then k2).trans hs.2 (fun x hx hlt => by rw [List.mem_singleton] at hx; omega), HC.out.1 _ _ _ [R] hPR hs.2 (tp51 K2), HC.out.2 _ _ _ [R] hPP hs.2 (tp51 K2)⟩
  have HF := Lib.hid hf
  clear hf hs hPR hPP k2 k0 K0 K2 HX HM HC
  go_wp2_with fail
  refine bodyPost_ret (v := .agg #[.int .i64 st, .int .i64 t, .int .i64 tm, .int .i64 0, .int .i64 0, .slice p n c, .slice p2 n2 c2]) (by simp [results, Tryz.results30, go_sem, c0, c1, c2', c3, c4, c5, c6]) rfl ?_
  exact HF.out
/-- a state behind a crash. -/
def endS (st : Int) : Int := if st = 1 then 4 else st
/-- a history that stands in block N, behind the one of ended's result. -/
def EndM (w wx : World) (R N : Nat) (st tm t : Int) (PR PP : Value → World → Prop) : Prop :=
  ∃ p n c p2 n2 c2, Chg [] w wx ∧ wx.heap[N]? = some (.cells #[.int .i64 st, .int .i64 t, .int .i64 tm, .int .i64 0, .int .i64 0, .slice p n c, .slice p2 n2 c2] 51 (0, 0)) ∧ wx.heap[R]? = some (.cells #[.int .i64 0, .int .i64 0, .int .i64 0, .int .i64 0, .int .i64 0, .slice none 0 0, .slice none 0 0] 51 (0, 0)) ∧ R < N ∧ w.heap.size ≤ R ∧ PR (.slice p n c) wx ∧ PP (.slice p2 n2 c2) wx
theorem endA {w w1 w2 : World} {R n c n2 c2 : Nat} {p p2 : Option Addr} {st tm t : Int} {PR PP : Value → World → Prop} (K0 : w1.heap[R]? = some (.cells #[.int .i64 0, .int .i64 0, .int .i64 0, .int .i64 0, .int .i64 0, .slice none 0 0, .slice none 0 0] 51 (0, 0))) (_ya : (w1.alloc (.cells #[.int .i64 0, .int .i64 0, .int .i64 0, .int .i64 0, .int .i64 0, .slice none 0 0, .slice none 0 0] 51)).drew.heap[w1.heap.size]? = some (.cells #[.int .i64 0, .int .i64 0, .int .i64 0, .int .i64 0, .int .i64 0, .slice none 0 0, .slice none 0 0] 51 (0, 0))) (ka : Chg [] w (w1.alloc (.cells #[.int .i64 0, .int .i64 0, .int .i64 0, .int .i64 0, .int .i64 0, .slice none 0 0, .slice none 0 0] 51)).drew) (k2 : Chg [] (w1.alloc (.cells #[.int .i64 0, .int .i64 0, .int .i64 0, .int .i64 0, .int .i64 0, .slice none 0 0, .slice none 0 0] 51)).drew w2) (hPR : PR (.slice p n c) w2) (hPP : PP (.slice p2 n2 c2) w2) (kR : K51 PR) (kP : K51 PP)
    (K2 : w2.heap[w1.heap.size]? = some (.cells #[.int .i64 0, .int .i64 0, .int .i64 0, .int .i64 0, .int .i64 0, .slice none 0 0, .slice none 0 0] 51 (0, 0))) (hwR : w.heap.size ≤ R) : EndM w (((((((w2.setCell ⟨w1.heap.size, 0, none⟩ (.int .i64 st)).setCell ⟨w1.heap.size, 1, none⟩ (.int .i64 t)).setCell ⟨w1.heap.size, 2, none⟩ (.int .i64 tm)).setCell ⟨w1.heap.size, 3, none⟩ (.int .i64 0)).setCell ⟨w1.heap.size, 4, none⟩ (.int .i64 0)).setCell ⟨w1.heap.size, 5, none⟩ (.slice p n c)).setCell ⟨w1.heap.size, 6, none⟩ (.slice p2 n2 c2)) R w1.heap.size st tm t PR PP := by
  have hR1 : R < w1.heap.size := heap_lt K0
  have R2 := k2.heap (show (w1.alloc (.cells #[.int .i64 0, .int .i64 0, .int .i64 0, .int .i64 0, .int .i64 0, .slice none 0 0, .slice none 0 0] 51)).drew.heap[R]? = some (.cells #[.int .i64 0, .int .i64 0, .int .i64 0, .int .i64 0, .int .i64 0, .slice none 0 0, .slice none 0 0] 51 (0, 0)) from (Chg.alloc (S := []) w1 _).heap K0 (by simp)) (by simp)
  obtain ⟨K3, kE⟩ := set7 (.int .i64 st) (.int .i64 t) (.int .i64 tm) (.int .i64 0) (.int .i64 0) (.slice p n c) (.slice p2 n2 c2) K2
  exact ⟨p, n, c, p2, n2, c2, (ka.then k2).trans kE (fun x hx hlt => by rw [List.mem_singleton] at hx; omega), K3, kE.heap R2 (by simp; omega), hR1, hwR, kR _ _ _ [w1.heap.size] hPR kE (tp51 K2), kP _ _ _ [w1.heap.size] hPP kE (tp51 K2)⟩
theorem endB {w w1 w2 : World} {R n c n2 c2 : Nat} {p p2 : Option Addr} {st tm t : Int} {PR PP : Value → World → Prop} (K0 : w1.heap[R]? = some (.cells #[.int .i64 0, .int .i64 0, .int .i64 0, .int .i64 0, .int .i64 0, .slice none 0 0, .slice none 0 0] 51 (0, 0))) (kd : Chg [] w w1.drew) (k2 : Chg [] w1.drew w2) (hPR : PR (.slice p n c) w2) (hPP : PP (.slice p2 n2 c2) w2) (kR : K51 PR) (kP : K51 PP) (hwR : w.heap.size ≤ R) :
    EndM w (w2.alloc (.cells #[.int .i64 st, .int .i64 t, .int .i64 tm, .int .i64 0, .int .i64 0, .slice p n c, .slice p2 n2 c2] 51)) R w2.heap.size st tm t PR PP := by
  have R2 := k2.heap (show w1.drew.heap[R]? = some (.cells #[.int .i64 0, .int .i64 0, .int .i64 0, .int .i64 0, .int .i64 0, .slice none 0 0, .slice none 0 0] 51 (0, 0)) from K0) (by simp)
  have kE : Chg [] w2 (w2.alloc (.cells #[.int .i64 st, .int .i64 t, .int .i64 tm, .int .i64 0, .int .i64 0, .slice p n c, .slice p2 n2 c2] 51)) := Chg.alloc w2 _
  exact ⟨p, n, c, p2, n2, c2, (kd.then k2).then kE, heap_new w2 _, kE.heap R2 (by simp), heap_lt R2, hwR, kR _ _ _ [] hPR kE (Tp.nil _ _), kP _ _ _ [] hPP kE (Tp.nil _ _)⟩
set_option maxRecDepth 100000 in
set_option maxHeartbeats 8000000 in
theorem ended_ok (w : World) {K P Bb : Nat} {h st tm t : Int} {cs bc : Array Value} {PR PP : Value → World → Prop} (hB : SchB w K cs) (h1 : cs[1]? = some (.pointer (some ⟨P, 0, none⟩))) (hb : w.heap[Bb]? = some (.cells bc 85 (0, 0))) (hb0 : bc[0]? = some (.int .i64 h)) (kR : K51 PR) (kP : K51 PP)
    (HH : ∀ wx, Chg [] w wx → Calls Tryz.prog 30 #[.pointer (some ⟨P, 0, none⟩), .int .i64 h] wx (HiR wx st tm t PR PP)) :
    Calls Tryz.prog 28 #[.pointer (some ⟨K, 0, none⟩), .pointer (some ⟨Bb, 0, none⟩)] w (HiR w (endS st) tm t PR PP) := by
  have k0 : Chg [] w (w.alloc (.cells #[.int .i64 0, .int .i64 0, .int .i64 0, .int .i64 0, .int .i64 0, .slice none 0 0, .slice none 0 0] 51)) := Chg.alloc w _
  have K0 := heap_new w (.cells #[.int .i64 0, .int .i64 0, .int .i64 0, .int .i64 0, .int .i64 0, .slice none 0 0, .slice none 0 0] 51)
  have a1 := k0.cell (cell_is hB 1 h1) (by simp)
  have b0 := k0.cell (cell_is hb 0 hb0) (by simp)
  have hR0 : w.heap.size ≤ w.heap.size := Nat.le_refl _
  have HA := Lib.hid (And.intro (cell_is hB 1 h1) (cell_is hb 0 hb0))
  have HX := Lib.hid HH
  have HC := Lib.hid (And.intro kR kP)
  clear hB h1 hb hb0 HH kR kP
  go_enter Tryz.func28, Tryz.ntmps28
  go_upto_region 1 with fail
  generalize w.alloc (.cells #[.int .i64 0, .int .i64 0, .int .i64 0, .int .i64 0, .int .i64 0, .slice none 0 0, .slice none 0 0] 51) = w1 at *
  have a1d : w1.drew.cell? ⟨K, 1, none⟩ = some (.pointer (some ⟨P, 0, none⟩)) := a1
  have b0d : w1.drew.cell? ⟨Bb, 0, none⟩ = some (.int .i64 h) := b0
  have kd : Chg [] w w1.drew := k0.drew
  have ka : Chg [] w (w1.alloc (.cells #[.int .i64 0, .int .i64 0, .int .i64 0, .int .i64 0, .int .i64 0, .slice none 0 0, .slice none 0 0] 51)).drew := (k0.then_alloc _).drew
  have a1a : (w1.alloc (.cells #[.int .i64 0, .int .i64 0, .int .i64 0, .int .i64 0, .int .i64 0, .slice none 0 0, .slice none 0 0] 51)).drew.cell? ⟨K, 1, none⟩ = some (.pointer (some ⟨P, 0, none⟩)) := (Chg.alloc (S := []) w1 _).cell a1 (by simp)
  have b0a : (w1.alloc (.cells #[.int .i64 0, .int .i64 0, .int .i64 0, .int .i64 0, .int .i64 0, .slice none 0 0, .slice none 0 0] 51)).drew.cell? ⟨Bb, 0, none⟩ = some (.int .i64 h) := (Chg.alloc (S := []) w1 _).cell b0 (by simp)
  have ya : (w1.alloc (.cells #[.int .i64 0, .int .i64 0, .int .i64 0, .int .i64 0, .int .i64 0, .slice none 0 0, .slice none 0 0] 51)).drew.heap[w1.heap.size]? = some (.cells #[.int .i64 0, .int .i64 0, .int .i64 0, .int .i64 0, .int .i64 0, .slice none 0 0, .slice none 0 0] 51 (0, 0)) := heap_new w1 _
  obtain ⟨R, hR⟩ : ∃ R, w.heap.size = R := ⟨_, rfl⟩
  rw [hR] at K0
  rw [hR]
  go_cut [5] from 6 (fun v wx => ∃ N, v = .pointer (some ⟨N, 0, none⟩) ∧ EndM w wx R N st tm t PR PP)
  case first =>
    rename_i j1 k1 hj hk
    have hS : ∀ wx, Chg [] w wx → wx.cell? ⟨K, 1, none⟩ = some (.pointer (some ⟨P, 0, none⟩)) ∧ wx.cell? ⟨Bb, 0, none⟩ = some (.int .i64 h) := fun wx kx => ⟨kx.cell HA.out.1 (by simp), kx.cell HA.out.2 (by simp)⟩
    have hwl : w.heap.size ≤ w1.heap.size := k0.size
    go_region_held3 (fun wx => wx.cell? ⟨K, 1, none⟩ = some (.pointer (some ⟨P, 0, none⟩)) ∧ wx.cell? ⟨Bb, 0, none⟩ = some (.int .i64 h))
      (first | (with_reducible exact hS _ kd) | (with_reducible exact hS _ ka) | (with_reducible exact hS _ (kd.then_alloc _)) | (with_reducible exact hS _ kw2) | (with_reducible exact hS _ (kw2.then_alloc _)) | (with_reducible exact hS _ (kS _ _ _ _ _ _ _)))
      (first
        | (go_at_call 30; (with_reducible refine Calls.mono (HX.out w1.drew kd) ?_); rintro e w2 ⟨p, n, c, p2, n2, c2, rfl, k2, hPR, hPP⟩; have kw2 : Chg [] w w2 := kd.then k2)
        | (go_at_call 30; (with_reducible refine Calls.mono (HX.out (w1.alloc (.cells #[.int .i64 0, .int .i64 0, .int .i64 0, .int .i64 0, .int .i64 0, .slice none 0 0, .slice none 0 0] 51)).drew ka) ?_); rintro e w2 ⟨p, n, c, p2, n2, c2, rfl, k2, hPR, hPP⟩; have kw2 : Chg [] w w2 := ka.then k2; have K2 := k2.heap ya (by simp); have q0 : w2.cell? ⟨w1.heap.size, 0, none⟩ = some (.int .i64 0) := cell_is K2 0 rfl; have g0 : w2.frozen? ⟨w1.heap.size, 0, none⟩ = false := unfrozen K2 0; have q1 : w2.cell? ⟨w1.heap.size, 1, none⟩ = some (.int .i64 0) := cell_is K2 1 rfl; have g1 : w2.frozen? ⟨w1.heap.size, 1, none⟩ = false := unfrozen K2 1; have q2 : w2.cell? ⟨w1.heap.size, 2, none⟩ = some (.int .i64 0) := cell_is K2 2 rfl; have g2 : w2.frozen? ⟨w1.heap.size, 2, none⟩ = false := unfrozen K2 2; have q3 : w2.cell? ⟨w1.heap.size, 3, none⟩ = some (.int .i64 0) := cell_is K2 3 rfl; have g3 : w2.frozen? ⟨w1.heap.size, 3, none⟩ = false := unfrozen K2 3; have q4 : w2.cell? ⟨w1.heap.size, 4, none⟩ = some (.int .i64 0) := cell_is K2 4 rfl; have g4 : w2.frozen? ⟨w1.heap.size, 4, none⟩ = false := unfrozen K2 4; have q5 : w2.cell? ⟨w1.heap.size, 5, none⟩ = some (.slice none 0 0) := cell_is K2 5 rfl; have g5 : w2.frozen? ⟨w1.heap.size, 5, none⟩ = false := unfrozen K2 5; have q6 : w2.cell? ⟨w1.heap.size, 6, none⟩ = some (.slice none 0 0) := cell_is K2 6 rfl; have g6 : w2.frozen? ⟨w1.heap.size, 6, none⟩ = false := unfrozen K2 6; have kS : ∀ a b c x y p q, Chg [] w (((((((w2.setCell ⟨w1.heap.size, 0, none⟩ a).setCell ⟨w1.heap.size, 1, none⟩ b).setCell ⟨w1.heap.size, 2, none⟩ c).setCell ⟨w1.heap.size, 3, none⟩ x).setCell ⟨w1.heap.size, 4, none⟩ y).setCell ⟨w1.heap.size, 5, none⟩ p).setCell ⟨w1.heap.size, 6, none⟩ q) := fun a b c x y p q => ((((((kw2.new_set hwl _ _).new_set hwl _ _).new_set hwl _ _).new_set hwl _ _).new_set hwl _ _).new_set hwl _ _).new_set hwl _ _))
    all_goals
      refine hk _ _ ?_
      refine Met.intro ?_
      refine hj _ _ ?_
      repeat apply Exists.intro
      refine ⟨?_, rfl⟩
      first
        | (have hK := K2
           exact ⟨_, rfl, endA (w := w) (w1 := w1) (w2 := w2) (R := R) (n := n) (c := c) (n2 := n2) (c2 := c2) (p := p) (p2 := p2) (st := st) (tm := tm) (t := t) (PR := PR) (PP := PP) K0 ya ka k2 hPR hPP HC.out.1 HC.out.2 K2 (Nat.le_of_eq hR)⟩)
        | exact ⟨_, rfl, endB (w := w) (w1 := w1) (w2 := w2) (R := R) (n := n) (c := c) (n2 := n2) (c2 := c2) (p := p) (p2 := p2) (st := st) (tm := tm) (t := t) (PR := PR) (PP := PP) K0 kd k2 hPR hPP HC.out.1 HC.out.2 (Nat.le_of_eq hR)⟩
  case rest =>
    obtain ⟨N, rfl, p, n, c, p2, n2, c2, kF, K3, R3, hRN, hwR, hPR3, hPP3⟩ := hcut
    have hRn : R ≠ N := by omega
    clear K0 ya ka kd a1 b0 a1d b0d a1a b0a k0 HX HA hR0
    generalize wc = w3 at *
    by_cases hst : st = 1
    · subst hst
      have q0 : w3.cell? ⟨N, 0, none⟩ = some (.int .i64 1) := cell_is K3 0 rfl
      have g0 : w3.frozen? ⟨N, 0, none⟩ = false := unfrozen K3 0
      go_upto_region 4 with fail
      obtain ⟨K4, k4⟩ : (w3.setCell ⟨N, 0, none⟩ (.int .i64 4)).heap[N]? = some (.cells #[.int .i64 4, .int .i64 t, .int .i64 tm, .int .i64 0, .int .i64 0, .slice p n c, .slice p2 n2 c2] 51 (0, 0)) ∧ Chg [N] w3 (w3.setCell ⟨N, 0, none⟩ (.int .i64 4)) := ⟨heap_set K3 0 _ rfl, Chg.set _ _ _ _⟩
      have R4 := k4.heap R3 (by simpa using hRn)
      have hPR4 := HC.out.1 _ _ _ [N] hPR3 k4 (tp51 K3)
      have hPP4 := HC.out.2 _ _ _ [N] hPP3 k4 (tp51 K3)
      have kF4 := kF.trans k4 (fun x hx hlt => by rw [List.mem_singleton] at hx; omega)
      clear q0 g0 k4 K3 R3 hPR3 hPP3 kF
      generalize w3.setCell ⟨N, 0, none⟩ (.int .i64 4) = w4 at *
      have a0 : w4.cell? ⟨N, 0, none⟩ = some (.int .i64 4) := cell_is K4 0 rfl
      have a1 : w4.cell? ⟨N, 1, none⟩ = some (.int .i64 t) := cell_is K4 1 rfl
      have a2 : w4.cell? ⟨N, 2, none⟩ = some (.int .i64 tm) := cell_is K4 2 rfl
      have a3 : w4.cell? ⟨N, 3, none⟩ = some (.int .i64 0) := cell_is K4 3 rfl
      have a4 : w4.cell? ⟨N, 4, none⟩ = some (.int .i64 0) := cell_is K4 4 rfl
      have a5 : w4.cell? ⟨N, 5, none⟩ = some (.slice p n c) := cell_is K4 5 rfl
      have a6 : w4.cell? ⟨N, 6, none⟩ = some (.slice p2 n2 c2) := cell_is K4 6 rfl
      have r0 : w4.cell? ⟨R, 0, none⟩ = some (.int .i64 0) := cell_is R4 0 rfl
      have z0 : w4.frozen? ⟨R, 0, none⟩ = false := unfrozen R4 0
      have r1 : w4.cell? ⟨R, 1, none⟩ = some (.int .i64 0) := cell_is R4 1 rfl
      have z1 : w4.frozen? ⟨R, 1, none⟩ = false := unfrozen R4 1
      have r2 : w4.cell? ⟨R, 2, none⟩ = some (.int .i64 0) := cell_is R4 2 rfl
      have z2 : w4.frozen? ⟨R, 2, none⟩ = false := unfrozen R4 2
      have r3 : w4.cell? ⟨R, 3, none⟩ = some (.int .i64 0) := cell_is R4 3 rfl
      have z3 : w4.frozen? ⟨R, 3, none⟩ = false := unfrozen R4 3
      have r4 : w4.cell? ⟨R, 4, none⟩ = some (.int .i64 0) := cell_is R4 4 rfl
      have z4 : w4.frozen? ⟨R, 4, none⟩ = false := unfrozen R4 4
      have r5 : w4.cell? ⟨R, 5, none⟩ = some (.slice none 0 0) := cell_is R4 5 rfl
      have z5 : w4.frozen? ⟨R, 5, none⟩ = false := unfrozen R4 5
      have r6 : w4.cell? ⟨R, 6, none⟩ = some (.slice none 0 0) := cell_is R4 6 rfl
      have z6 : w4.frozen? ⟨R, 6, none⟩ = false := unfrozen R4 6
      obtain ⟨K5, k5⟩ := set7 (.int .i64 4) (.int .i64 t) (.int .i64 tm) (.int .i64 0) (.int .i64 0) (.slice p n c) (.slice p2 n2 c2) R4
      have hPR5 := HC.out.1 _ _ _ [R] hPR4 k5 (tp51 R4)
      have hPP5 := HC.out.2 _ _ _ [R] hPP4 k5 (tp51 R4)
      have HF := Lib.hid (show HiR w (endS 1) tm t PR PP (.returned (.agg #[.int .i64 4, .int .i64 t, .int .i64 tm, .int .i64 0, .int .i64 0, .slice p n c, .slice p2 n2 c2])) _ from ⟨p, n, c, p2, n2, c2, rfl, kF4.trans k5 (fun x hx hlt => by rw [List.mem_singleton] at hx; omega), hPR5, hPP5⟩)
      clear hPR5 hPP5 k5 K5 hPR4 hPP4 kF4 K4 R4
      go_wp2_with fail
      refine bodyPost_ret (v := .agg #[.int .i64 4, .int .i64 t, .int .i64 tm, .int .i64 0, .int .i64 0, .slice p n c, .slice p2 n2 c2]) (by simp [results, Tryz.results28, go_sem, r0, r1, r2, r3, r4, r5, r6]) rfl ?_
      exact HF.out
    · have n1 : decide (st = 1) = false := decide_eq_false hst
      have hes : endS st = st := if_neg hst
      have a0 : w3.cell? ⟨N, 0, none⟩ = some (.int .i64 st) := cell_is K3 0 rfl
      have a1 : w3.cell? ⟨N, 1, none⟩ = some (.int .i64 t) := cell_is K3 1 rfl
      have a2 : w3.cell? ⟨N, 2, none⟩ = some (.int .i64 tm) := cell_is K3 2 rfl
      have a3 : w3.cell? ⟨N, 3, none⟩ = some (.int .i64 0) := cell_is K3 3 rfl
      have a4 : w3.cell? ⟨N, 4, none⟩ = some (.int .i64 0) := cell_is K3 4 rfl
      have a5 : w3.cell? ⟨N, 5, none⟩ = some (.slice p n c) := cell_is K3 5 rfl
      have a6 : w3.cell? ⟨N, 6, none⟩ = some (.slice p2 n2 c2) := cell_is K3 6 rfl
      have r0 : w3.cell? ⟨R, 0, none⟩ = some (.int .i64 0) := cell_is R3 0 rfl
      have z0 : w3.frozen? ⟨R, 0, none⟩ = false := unfrozen R3 0
      have r1 : w3.cell? ⟨R, 1, none⟩ = some (.int .i64 0) := cell_is R3 1 rfl
      have z1 : w3.frozen? ⟨R, 1, none⟩ = false := unfrozen R3 1
      have r2 : w3.cell? ⟨R, 2, none⟩ = some (.int .i64 0) := cell_is R3 2 rfl
      have z2 : w3.frozen? ⟨R, 2, none⟩ = false := unfrozen R3 2
      have r3 : w3.cell? ⟨R, 3, none⟩ = some (.int .i64 0) := cell_is R3 3 rfl
      have z3 : w3.frozen? ⟨R, 3, none⟩ = false := unfrozen R3 3
      have r4 : w3.cell? ⟨R, 4, none⟩ = some (.int .i64 0) := cell_is R3 4 rfl
      have z4 : w3.frozen? ⟨R, 4, none⟩ = false := unfrozen R3 4
      have r5 : w3.cell? ⟨R, 5, none⟩ = some (.slice none 0 0) := cell_is R3 5 rfl
      have z5 : w3.frozen? ⟨R, 5, none⟩ = false := unfrozen R3 5
      have r6 : w3.cell? ⟨R, 6, none⟩ = some (.slice none 0 0) := cell_is R3 6 rfl
      have z6 : w3.frozen? ⟨R, 6, none⟩ = false := unfrozen R3 6
      obtain ⟨K5, k5⟩ := set7 (.int .i64 st) (.int .i64 t) (.int .i64 tm) (.int .i64 0) (.int .i64 0) (.slice p n c) (.slice p2 n2 c2) R3
      have hPR5 := HC.out.1 _ _ _ [R] hPR3 k5 (tp51 R3)
      have hPP5 := HC.out.2 _ _ _ [R] hPP3 k5 (tp51 R3)
      have HF := Lib.hid (show HiR w (endS st) tm t PR PP (.returned (.agg #[.int .i64 st, .int .i64 t, .int .i64 tm, .int .i64 0, .int .i64 0, .slice p n c, .slice p2 n2 c2])) _ from ⟨p, n, c, p2, n2, c2, by rw [hes], kF.trans k5 (fun x hx hlt => by rw [List.mem_singleton] at hx; omega), hPR5, hPP5⟩)
      clear hPR5 hPP5 k5 K5 hPR3 hPP3 kF K3 R3
      go_wp2_with fail
      refine bodyPost_ret (v := .agg #[.int .i64 st, .int .i64 t, .int .i64 tm, .int .i64 0, .int .i64 0, .slice p n c, .slice p2 n2 c2]) (by simp [results, Tryz.results28, go_sem, r0, r1, r2, r3, r4, r5, r6]) rfl ?_
      exact HF.out
end Go.Proofs.YtliicpedddcfiaaGreat
namespace Go.Proofs.YtliicpedddcfiaaGreat
open Go.RowKit Go.Lib

set_option maxRecDepth 100000 in
theorem rclone_nil (w : World) : Calls Tryz.prog 61 #[.slice none 0 0] w fun e w' => e = .returned (.slice none 0 0) ∧ w = w' := by
  have hn : ∀ w, (binOp .eql 49 (.slice none 0 0) (.slice none 0 0)).run Tryz.prog w = .ok (.bool true) w := fun w => by kernel_rfl
  go_enter Tryz.func61, Tryz.ntmps61
  go_wp2_with fail
  go_ret
  exact ⟨rfl, rfl⟩
set_option maxRecDepth 100000 in
set_option maxHeartbeats 8000000 in
theorem copied_nil (w : World) {st t tm fr to_ : Int} : Calls Tryz.prog 29 #[.agg #[.int .i64 st, .int .i64 t, .int .i64 tm, .int .i64 fr, .int .i64 to_, .slice none 0 0, .slice none 0 0]] w fun e w' => e = .returned (.agg #[.int .i64 st, .int .i64 t, .int .i64 tm, .int .i64 fr, .int .i64 to_, .slice none 0 0, .slice none 0 0]) ∧ Chg [] w w' := by
  have kk : Chg [] w ((w.alloc (.cells #[.int .i64 st, .int .i64 t, .int .i64 tm, .int .i64 fr, .int .i64 to_, .slice none 0 0, .slice none 0 0] 51)).alloc (.cells #[.int .i64 0, .int .i64 0, .int .i64 0, .int .i64 0, .int .i64 0, .slice none 0 0, .slice none 0 0] 51)) := (Chg.alloc w _).then_alloc _
  obtain ⟨y1, y2⟩ := heap_new2 w (.cells #[.int .i64 st, .int .i64 t, .int .i64 tm, .int .i64 fr, .int .i64 to_, .slice none 0 0, .slice none 0 0] 51) (.cells #[.int .i64 0, .int .i64 0, .int .i64 0, .int .i64 0, .int .i64 0, .slice none 0 0, .slice none 0 0] 51)
  generalize hw0 : (w.alloc (.cells #[.int .i64 st, .int .i64 t, .int .i64 tm, .int .i64 fr, .int .i64 to_, .slice none 0 0, .slice none 0 0] 51)).alloc (.cells #[.int .i64 0, .int .i64 0, .int .i64 0, .int .i64 0, .int .i64 0, .slice none 0 0, .slice none 0 0] 51) = w0 at *
  have hz1 := heap_lt y1
  generalize hz : w.heap.size = z at *
  have kd : Chg [] w w0.drew := kk.drew
  have d0 : w0.drew.cell? ⟨z, 0, none⟩ = some (.int .i64 st) := cell_is y1 0 rfl
  have e0 : w0.drew.frozen? ⟨z, 0, none⟩ = false := unfrozen y1 0
  have d1 : w0.drew.cell? ⟨z, 1, none⟩ = some (.int .i64 t) := cell_is y1 1 rfl
  have e1 : w0.drew.frozen? ⟨z, 1, none⟩ = false := unfrozen y1 1
  have d2 : w0.drew.cell? ⟨z, 2, none⟩ = some (.int .i64 tm) := cell_is y1 2 rfl
  have e2 : w0.drew.frozen? ⟨z, 2, none⟩ = false := unfrozen y1 2
  have d3 : w0.drew.cell? ⟨z, 3, none⟩ = some (.int .i64 fr) := cell_is y1 3 rfl
  have e3 : w0.drew.frozen? ⟨z, 3, none⟩ = false := unfrozen y1 3
  have d4 : w0.drew.cell? ⟨z, 4, none⟩ = some (.int .i64 to_) := cell_is y1 4 rfl
  have e4 : w0.drew.frozen? ⟨z, 4, none⟩ = false := unfrozen y1 4
  have d5 : w0.drew.cell? ⟨z, 5, none⟩ = some (.slice none 0 0) := cell_is y1 5 rfl
  have e5 : w0.drew.frozen? ⟨z, 5, none⟩ = false := unfrozen y1 5
  have d6 : w0.drew.cell? ⟨z, 6, none⟩ = some (.slice none 0 0) := cell_is y1 6 rfl
  have e6 : w0.drew.frozen? ⟨z, 6, none⟩ = false := unfrozen y1 6
  have y5 : (w0.setCell ⟨z, 5, none⟩ (.slice none 0 0)).drew.heap[z]? = some (.cells #[.int .i64 st, .int .i64 t, .int .i64 tm, .int .i64 fr, .int .i64 to_, .slice none 0 0, .slice none 0 0] 51 (0, 0)) := heap_set y1 5 _ rfl
  have q5 : (w0.setCell ⟨z, 5, none⟩ (.slice none 0 0)).drew.cell? ⟨z, 6, none⟩ = some (.slice none 0 0) := cell_is y5 6 rfl
  have p5 : (w0.setCell ⟨z, 5, none⟩ (.slice none 0 0)).drew.frozen? ⟨z, 6, none⟩ = false := unfrozen y5 6
  have y6 : (w0.setCell ⟨z, 6, none⟩ (.slice none 0 0)).drew.heap[z]? = some (.cells #[.int .i64 st, .int .i64 t, .int .i64 tm, .int .i64 fr, .int .i64 to_, .slice none 0 0, .slice none 0 0] 51 (0, 0)) := heap_set y1 6 _ rfl
  have q6 : (w0.setCell ⟨z, 6, none⟩ (.slice none 0 0)).drew.cell? ⟨z, 5, none⟩ = some (.slice none 0 0) := cell_is y6 5 rfl
  have p6 : (w0.setCell ⟨z, 6, none⟩ (.slice none 0 0)).drew.frozen? ⟨z, 5, none⟩ = false := unfrozen y6 5
  go_enter Tryz.func29, Tryz.ntmps29
  go_upto_region 1 with fail
  go_region_law
    (first
      | (go_simp; go_at_call 61; refine (rclone_nil _).mono ?_; rintro e w1 ⟨rfl, rfl⟩)
      | (go_simp; go_at_call 46; refine (pclone_nil _).mono ?_; rintro e w1 ⟨rfl, rfl⟩))
  all_goals
    have y7 : (((w0.setCell ⟨z, 5, none⟩ (.slice none 0 0)).setCell ⟨z, 6, none⟩ (.slice none 0 0)).drew).heap[z]? = some (.cells #[.int .i64 st, .int .i64 t, .int .i64 tm, .int .i64 fr, .int .i64 to_, .slice none 0 0, .slice none 0 0] 51 (0, 0)) := heap_set (heap_set y1 5 _ rfl) 6 _ rfl
    have x7 : (((w0.setCell ⟨z, 5, none⟩ (.slice none 0 0)).setCell ⟨z, 6, none⟩ (.slice none 0 0)).drew).heap[z + 1]? = some (.cells #[.int .i64 0, .int .i64 0, .int .i64 0, .int .i64 0, .int .i64 0, .slice none 0 0, .slice none 0 0] 51 (0, 0)) := heap_set_ne (heap_set_ne y2 (by omega) 5 _) (by omega) 6 _
    have k7 : Chg [z] w0 (((w0.setCell ⟨z, 5, none⟩ (.slice none 0 0)).setCell ⟨z, 6, none⟩ (.slice none 0 0)).drew) := ((Chg.set _ _ _ _).then (Chg.set _ _ _ _)).drew
    have kf : Chg [] w (((w0.setCell ⟨z, 5, none⟩ (.slice none 0 0)).setCell ⟨z, 6, none⟩ (.slice none 0 0)).drew) := kk.trans k7 (fun x hx hlt => by rw [List.mem_singleton] at hx; omega)
    generalize ((w0.setCell ⟨z, 5, none⟩ (.slice none 0 0)).setCell ⟨z, 6, none⟩ (.slice none 0 0)).drew = w3 at *
    clear k7 kk kd y1 y2 y5 y6 q5 q6 p5 p6 d0 d1 d2 d3 d4 d5 d6 e0 e1 e2 e3 e4 e5 e6
    have d0 : w3.cell? ⟨z, 0, none⟩ = some (.int .i64 st) := cell_is y7 0 rfl
    have t0 : w3.cell? ⟨z + 1, 0, none⟩ = some (.int .i64 0) := cell_is x7 0 rfl
    have e0 : w3.frozen? ⟨z + 1, 0, none⟩ = false := unfrozen x7 0
    have d1 : w3.cell? ⟨z, 1, none⟩ = some (.int .i64 t) := cell_is y7 1 rfl
    have t1 : w3.cell? ⟨z + 1, 1, none⟩ = some (.int .i64 0) := cell_is x7 1 rfl
    have e1 : w3.frozen? ⟨z + 1, 1, none⟩ = false := unfrozen x7 1
    have d2 : w3.cell? ⟨z, 2, none⟩ = some (.int .i64 tm) := cell_is y7 2 rfl
    have t2 : w3.cell? ⟨z + 1, 2, none⟩ = some (.int .i64 0) := cell_is x7 2 rfl
    have e2 : w3.frozen? ⟨z + 1, 2, none⟩ = false := unfrozen x7 2
    have d3 : w3.cell? ⟨z, 3, none⟩ = some (.int .i64 fr) := cell_is y7 3 rfl
    have t3 : w3.cell? ⟨z + 1, 3, none⟩ = some (.int .i64 0) := cell_is x7 3 rfl
    have e3 : w3.frozen? ⟨z + 1, 3, none⟩ = false := unfrozen x7 3
    have d4 : w3.cell? ⟨z, 4, none⟩ = some (.int .i64 to_) := cell_is y7 4 rfl
    have t4 : w3.cell? ⟨z + 1, 4, none⟩ = some (.int .i64 0) := cell_is x7 4 rfl
    have e4 : w3.frozen? ⟨z + 1, 4, none⟩ = false := unfrozen x7 4
    have d5 : w3.cell? ⟨z, 5, none⟩ = some (.slice none 0 0) := cell_is y7 5 rfl
    have t5 : w3.cell? ⟨z + 1, 5, none⟩ = some (.slice none 0 0) := cell_is x7 5 rfl
    have e5 : w3.frozen? ⟨z + 1, 5, none⟩ = false := unfrozen x7 5
    have d6 : w3.cell? ⟨z, 6, none⟩ = some (.slice none 0 0) := cell_is y7 6 rfl
    have t6 : w3.cell? ⟨z + 1, 6, none⟩ = some (.slice none 0 0) := cell_is x7 6 rfl
    have e6 : w3.frozen? ⟨z + 1, 6, none⟩ = false := unfrozen x7 6
    obtain ⟨K5, k5⟩ := set7 (.int .i64 st) (.int .i64 t) (.int .i64 tm) (.int .i64 fr) (.int .i64 to_) (.slice none 0 0) (.slice none 0 0) x7
    have HF := Lib.hid (kf.trans k5 (fun x hx hlt => by rw [List.mem_singleton] at hx; omega))
    clear K5 k5 kf y7 x7
    go_wp2_with fail
    go_loopw [16] (fun i wr => i = .int .i64 0 ∧ w3 = wr) (fun _ _ => 0)
    case atStart => exact ⟨rfl, rfl⟩
    case round =>
      obtain ⟨rfl, rfl⟩ := hrel
      go_wp2_with fail
      go_loopw [35] (fun i wr => i = .int .i64 0 ∧ w3 = wr) (fun _ _ => 0)
      case atStart => exact ⟨rfl, rfl⟩
      case round =>
        obtain ⟨rfl, rfl⟩ := hrel
        go_wp2_with fail
        refine bodyPost_ret (v := .agg #[.int .i64 st, .int .i64 t, .int .i64 tm, .int .i64 fr, .int .i64 to_, .slice none 0 0, .slice none 0 0]) (by simp [results, Tryz.results29, go_sem, t0, t1, t2, t3, t4, t5, t6]) rfl ?_
        exact ⟨rfl, HF.out⟩
end Go.Proofs.YtliicpedddcfiaaGreat
namespace Go.Proofs.YtliicpedddcfiaaGreat
open Go.RowKit Go.Lib

set_option maxRecDepth 100000 in
set_option maxHeartbeats 8000000 in
theorem copied_put (w : World) {E c D cd : Nat} {b st t tm fr to_ : Int} {dl : List UInt8} (u0 : w.cell? ⟨E, 0, none⟩ = some (.int .i64 b)) (u1 : w.cell? ⟨E, 1, none⟩ = some (.slice (some ⟨D, 0, none⟩) 40 cd)) (hb : Bs w (some ⟨D, 0, none⟩) dl) (hl : dl.length = 40) :
    Calls Tryz.prog 29 #[.agg #[.int .i64 st, .int .i64 t, .int .i64 tm, .int .i64 fr, .int .i64 to_, .slice none 0 0, .slice (some ⟨E, 0, none⟩) 1 c]] w fun e w' => ∃ g c2, e = .returned (.agg #[.int .i64 st, .int .i64 t, .int .i64 tm, .int .i64 fr, .int .i64 to_, .slice none 0 0, .slice (some ⟨g, 0, none⟩) 1 c2]) ∧ Chg [] w w' := by
  have kk : Chg [] w ((w.alloc (.cells #[.int .i64 st, .int .i64 t, .int .i64 tm, .int .i64 fr, .int .i64 to_, .slice none 0 0, .slice (some ⟨E, 0, none⟩) 1 c] 51)).alloc (.cells #[.int .i64 0, .int .i64 0, .int .i64 0, .int .i64 0, .int .i64 0, .slice none 0 0, .slice none 0 0] 51)) := (Chg.alloc w _).then_alloc _
  obtain ⟨y1, y2⟩ := heap_new2 w (.cells #[.int .i64 st, .int .i64 t, .int .i64 tm, .int .i64 fr, .int .i64 to_, .slice none 0 0, .slice (some ⟨E, 0, none⟩) 1 c] 51) (.cells #[.int .i64 0, .int .i64 0, .int .i64 0, .int .i64 0, .int .i64 0, .slice none 0 0, .slice none 0 0] 51)
  generalize hw0 : (w.alloc (.cells #[.int .i64 st, .int .i64 t, .int .i64 tm, .int .i64 fr, .int .i64 to_, .slice none 0 0, .slice (some ⟨E, 0, none⟩) 1 c] 51)).alloc (.cells #[.int .i64 0, .int .i64 0, .int .i64 0, .int .i64 0, .int .i64 0, .slice none 0 0, .slice none 0 0] 51) = w0 at *
  have hz1 := heap_lt y1
  generalize hz : w.heap.size = z at *
  have kd : Chg [] w w0.drew := kk.drew
  have HB := Lib.hid (And.intro u0 (And.intro u1 (And.intro hb hl)))
  have d5 : w0.drew.cell? ⟨z, 5, none⟩ = some (.slice none 0 0) := cell_is y1 5 rfl
  have e5 : w0.drew.frozen? ⟨z, 5, none⟩ = false := unfrozen y1 5
  have d6 : w0.drew.cell? ⟨z, 6, none⟩ = some (.slice (some ⟨E, 0, none⟩) 1 c) := cell_is y1 6 rfl
  have e6 : w0.drew.frozen? ⟨z, 6, none⟩ = false := unfrozen y1 6
  have y5 : (w0.setCell ⟨z, 5, none⟩ (.slice none 0 0)).drew.heap[z]? = some (.cells #[.int .i64 st, .int .i64 t, .int .i64 tm, .int .i64 fr, .int .i64 to_, .slice none 0 0, .slice (some ⟨E, 0, none⟩) 1 c] 51 (0, 0)) := heap_set y1 5 _ rfl
  have q5 : (w0.setCell ⟨z, 5, none⟩ (.slice none 0 0)).drew.cell? ⟨z, 6, none⟩ = some (.slice (some ⟨E, 0, none⟩) 1 c) := cell_is y5 6 rfl
  have p5 : (w0.setCell ⟨z, 5, none⟩ (.slice none 0 0)).drew.frozen? ⟨z, 6, none⟩ = false := unfrozen y5 6
  have k5 : Chg [] w (w0.setCell ⟨z, 5, none⟩ (.slice none 0 0)).drew := (kk.trans (Chg.set w0 z 5 _) (fun x hx hlt => by rw [List.mem_singleton] at hx; omega)).drew
  clear u0 u1 hb hl
  go_enter Tryz.func29, Tryz.ntmps29
  go_upto_region 1 with fail
  go_region_law
    (first
      | (go_simp; go_at_call 61; refine (rclone_nil _).mono ?_; rintro e wn ⟨rfl, rfl⟩)
      | (go_simp; go_at_call 46; (with_reducible refine Calls.mono (pclone_one w0.drew (kd.cell HB.out.1 (by simp)) (kd.cell HB.out.2.1 (by simp)) ⟨rfl, rfl⟩) ?_); rintro e w1 ⟨g, cg, rfl, k1, o1⟩
         have kw1 : Chg [] w w1 := kd.then k1
         have x1 := k1.heap (show w0.drew.heap[z]? = _ from y1) (by simp)
         have x2 := k1.heap (show w0.drew.heap[z + 1]? = _ from y2) (by simp)
         have a5 := cell_is x1 5 rfl
         have b5 := unfrozen x1 5
         have a6 := cell_is x1 6 rfl
         have b6 := unfrozen x1 6
         have c6 : (w1.setCell ⟨z, 6, none⟩ (.slice (some ⟨g, 0, none⟩) 1 cg)).cell? ⟨z, 5, none⟩ = some (.slice none 0 0) := cell_is (heap_set x1 6 _ rfl) 5 rfl
         have f6 : (w1.setCell ⟨z, 6, none⟩ (.slice (some ⟨g, 0, none⟩) 1 cg)).frozen? ⟨z, 5, none⟩ = false := unfrozen (heap_set x1 6 _ rfl) 5
         have c5 : (w1.setCell ⟨z, 5, none⟩ (.slice none 0 0)).cell? ⟨z, 6, none⟩ = some (.slice (some ⟨E, 0, none⟩) 1 c) := cell_is (heap_set x1 5 _ rfl) 6 rfl
         have f5 : (w1.setCell ⟨z, 5, none⟩ (.slice none 0 0)).frozen? ⟨z, 6, none⟩ = false := unfrozen (heap_set x1 5 _ rfl) 6)
      | (go_simp; go_at_call 46; (with_reducible refine Calls.mono (pclone_one (w0.setCell ⟨z, 5, none⟩ (.slice none 0 0)).drew (k5.cell HB.out.1 (by simp)) (k5.cell HB.out.2.1 (by simp)) ⟨rfl, rfl⟩) ?_); rintro e w1 ⟨g, cg, rfl, k1, o1⟩
         have kw1 : Chg [] w w1 := k5.then k1
         have x1 := k1.heap y5 (by simp)
         have x2 := k1.heap (show (w0.setCell ⟨z, 5, none⟩ (.slice none 0 0)).drew.heap[z + 1]? = _ from heap_set_ne y2 (by omega) 5 _) (by simp)
         have a6 := cell_is x1 6 rfl
         have b6 := unfrozen x1 6))
  all_goals
    have W3 : Hid (∃ w3, w3 = (w1.setCell ⟨z, 5, none⟩ (.slice none 0 0)).setCell ⟨z, 6, none⟩ (.slice (some ⟨g, 0, none⟩) 1 cg) ∧ w3.heap[z]? = some (.cells #[.int .i64 st, .int .i64 t, .int .i64 tm, .int .i64 fr, .int .i64 to_, .slice none 0 0, .slice (some ⟨g, 0, none⟩) 1 cg] 51 (0, 0)) ∧ w3.heap[z + 1]? = some (.cells #[.int .i64 0, .int .i64 0, .int .i64 0, .int .i64 0, .int .i64 0, .slice none 0 0, .slice none 0 0] 51 (0, 0)) ∧ Chg [] w w3 ∧ ∃ cur, w3.heap[g]? = some (.cells cur 37 (0, 0)) ∧ cur[0]? = some (.int .i64 b) ∧ cur[1]? = some (.slice (some ⟨D, 0, none⟩) 40 cd) ∧ z + 1 < g) := by
      have xg : ∃ cur, w1.heap[g]? = some (.cells cur 37 (0, 0)) ∧ cur[0]? = some (.int .i64 b) ∧ cur[1]? = some (.slice (some ⟨D, 0, none⟩) 40 cd) ∧ w0.heap.size ≤ g := by
        rcases o1.2 with ⟨e, _⟩ | ⟨g', cap, cur, e, hA, hg, hc1, hc2, hc3, ht⟩
        · cases e
        · cases e
          refine ⟨cur, hg, ?_, ?_, hA⟩
          · have : (cur.toList.take (1 * 2))[0]? = some (.int .i64 b) := by rw [ht]; rfl
            rwa [List.getElem?_take_of_lt (by omega), Array.getElem?_toList] at this
          · have : (cur.toList.take (1 * 2))[1]? = some (.slice (some ⟨D, 0, none⟩) 40 cd) := by rw [ht]; rfl
            rwa [List.getElem?_take_of_lt (by omega), Array.getElem?_toList] at this
      obtain ⟨cur, xg, cu0, cu1, hg⟩ := xg
      have hgz : z + 1 < g := by have := heap_lt y2; omega
      have k7 : Chg [z] w1 ((w1.setCell ⟨z, 5, none⟩ (.slice none 0 0)).setCell ⟨z, 6, none⟩ (.slice (some ⟨g, 0, none⟩) 1 cg)) := (Chg.set _ _ _ _).then (Chg.set _ _ _ _)
      exact Lib.hid ⟨_, rfl, heap_set (heap_set x1 5 _ rfl) 6 _ rfl, k7.heap x2 (by simp), kw1.trans k7 (fun x hx hlt => by rw [List.mem_singleton] at hx; omega), cur, k7.heap xg (by simp; omega), cu0, cu1, hgz⟩
    obtain ⟨w3, hw3, y7, x7, kf, cur, xg, cu0, cu1, hgz⟩ := W3.out
    rw [← hw3]
    have HG := Lib.hid hgz
    clear W3 hw3 kk kd k1 kw1 k5 y1 y2 y5 x1 x2 q5 p5 d5 d6 e5 e6 a5 a6 b5 b6 c5 c6 f5 f6 o1
    have hgz1 : g ≠ z := by have := HG.out; omega
    have hgz2 : g ≠ z + 1 := by have := HG.out; omega
    have r5 : w3.cell? ⟨z, 5, none⟩ = some (.slice none 0 0) := cell_is y7 5 rfl
    go_wp2_with fail
    go_loopw [16] (fun i wr => i = .int .i64 0 ∧ w3 = wr) (fun _ _ => 0)
    case atStart => exact ⟨rfl, rfl⟩
    case round =>
      obtain ⟨rfl, rfl⟩ := hrel
      have r6 : w3.cell? ⟨z, 6, none⟩ = some (.slice (some ⟨g, 0, none⟩) 1 cg) := cell_is y7 6 rfl
      clear r5
      go_wp2_with fail
      go_loopw [4, 35] (fun _ i wr => (i = .int .i64 0 ∧ w3 = wr) ∨ (i = .int .i64 1 ∧ Chg [] w wr ∧ wr.heap[z]? = some (.cells #[.int .i64 st, .int .i64 t, .int .i64 tm, .int .i64 fr, .int .i64 to_, .slice none 0 0, .slice (some ⟨g, 0, none⟩) 1 cg] 51 (0, 0)) ∧ wr.heap[z + 1]? = some (.cells #[.int .i64 0, .int .i64 0, .int .i64 0, .int .i64 0, .int .i64 0, .slice none 0 0, .slice none 0 0] 51 (0, 0)))) (fun _ i _ => 1 - (intOf i).toNat)
      case atStart => exact Or.inl ⟨rfl, rfl⟩
      case round =>
        rcases hrel with ⟨rfl, rfl⟩ | ⟨rfl, kr, y8, x8⟩
        · have kd : Chg [] w3 w3.drew := (Chg.refl [] w3).drew
          have r6 : w3.cell? ⟨z, 6, none⟩ = some (.slice (some ⟨g, 0, none⟩) 1 cg) := cell_is y7 6 rfl
          have t1 : w3.cell? ⟨g, 1, none⟩ = some (.slice (some ⟨D, 0, none⟩) 40 cd) := cell_is xg 1 cu1
          have r6d : w3.drew.cell? ⟨z, 6, none⟩ = some (.slice (some ⟨g, 0, none⟩) 1 cg) := r6
          have t1d : w3.drew.cell? ⟨g, 1, none⟩ = some (.slice (some ⟨D, 0, none⟩) 40 cd) := t1
          go_wp2_with fail
          go_region_law
            (first
              | (go_simp; go_at_call 47; refine (clone_bt w3.drew HB.out.2.2.2 (by decide) (by decide) (HB.out.2.2.1.keep (kf.then kd).below0)).mono ?_; rintro e w4 ⟨D2, cd2, rfl, k3, hB3, hD3, hT3⟩; have fz := unfrozen (k3.heap xg (by simp)) 1; have s1 := k3.cell t1d (by simp); have s6 := k3.cell r6d (by simp)))
          all_goals
            have ks : Chg [g] w4 (w4.setCell ⟨g, 1, none⟩ (.slice (some ⟨D2, 0, none⟩) 40 cd2)) := Chg.set _ _ _ _
            have kw4 := kf.then ((kd.then k3))
            have hgs : w.heap.size ≤ g := by have := HG.out; omega
            have HF := Lib.hid (And.intro (kw4.trans ks (fun x hx hlt => by rw [List.mem_singleton] at hx; omega)) (And.intro (ks.heap ((kd.then k3).heap y7 (by simp)) (by simpa using Ne.symm hgz1)) (ks.heap ((kd.then k3).heap x7 (by simp)) (by simpa using Ne.symm hgz2))))
            clear ks kw4 k3 hB3 hD3 hT3 fz s1 s6 t1 t1d r6 r6d kd
            go_wp2_with fail
            go_roundw
            case rel => exact Or.inr ⟨rfl, HF.out⟩
            case measure => decide
        · clear r6 xg cu0 cu1 y7 x7 kf
          have d0 : wr.cell? ⟨z, 0, none⟩ = some (.int .i64 st) := cell_is y8 0 rfl
          have t0 : wr.cell? ⟨z + 1, 0, none⟩ = some (.int .i64 0) := cell_is x8 0 rfl
          have e0 : wr.frozen? ⟨z + 1, 0, none⟩ = false := unfrozen x8 0
          have d1 : wr.cell? ⟨z, 1, none⟩ = some (.int .i64 t) := cell_is y8 1 rfl
          have t1 : wr.cell? ⟨z + 1, 1, none⟩ = some (.int .i64 0) := cell_is x8 1 rfl
          have e1 : wr.frozen? ⟨z + 1, 1, none⟩ = false := unfrozen x8 1
          have d2 : wr.cell? ⟨z, 2, none⟩ = some (.int .i64 tm) := cell_is y8 2 rfl
          have t2 : wr.cell? ⟨z + 1, 2, none⟩ = some (.int .i64 0) := cell_is x8 2 rfl
          have e2 : wr.frozen? ⟨z + 1, 2, none⟩ = false := unfrozen x8 2
          have d3 : wr.cell? ⟨z, 3, none⟩ = some (.int .i64 fr) := cell_is y8 3 rfl
          have t3 : wr.cell? ⟨z + 1, 3, none⟩ = some (.int .i64 0) := cell_is x8 3 rfl
          have e3 : wr.frozen? ⟨z + 1, 3, none⟩ = false := unfrozen x8 3
          have d4 : wr.cell? ⟨z, 4, none⟩ = some (.int .i64 to_) := cell_is y8 4 rfl
          have t4 : wr.cell? ⟨z + 1, 4, none⟩ = some (.int .i64 0) := cell_is x8 4 rfl
          have e4 : wr.frozen? ⟨z + 1, 4, none⟩ = false := unfrozen x8 4
          have d5 : wr.cell? ⟨z, 5, none⟩ = some (.slice none 0 0) := cell_is y8 5 rfl
          have t5 : wr.cell? ⟨z + 1, 5, none⟩ = some (.slice none 0 0) := cell_is x8 5 rfl
          have e5 : wr.frozen? ⟨z + 1, 5, none⟩ = false := unfrozen x8 5
          have d6 : wr.cell? ⟨z, 6, none⟩ = some (.slice (some ⟨g, 0, none⟩) 1 cg) := cell_is y8 6 rfl
          have t6 : wr.cell? ⟨z + 1, 6, none⟩ = some (.slice none 0 0) := cell_is x8 6 rfl
          have e6 : wr.frozen? ⟨z + 1, 6, none⟩ = false := unfrozen x8 6
          obtain ⟨K5, k5⟩ := set7 (.int .i64 st) (.int .i64 t) (.int .i64 tm) (.int .i64 fr) (.int .i64 to_) (.slice none 0 0) (.slice (some ⟨g, 0, none⟩) 1 cg) x8
          have HF := Lib.hid (kr.trans k5 (fun x hx hlt => by rw [List.mem_singleton] at hx; omega))
          clear K5 k5 kr y8 x8
          go_wp2_with fail
          refine bodyPost_ret (v := .agg #[.int .i64 st, .int .i64 t, .int .i64 tm, .int .i64 fr, .int .i64 to_, .slice none 0 0, .slice (some ⟨g, 0, none⟩) 1 cg]) (by simp [results, Tryz.results29, go_sem, t0, t1, t2, t3, t4, t5, t6]) rfl ?_
          exact ⟨g, cg, rfl, HF.out⟩
end Go.Proofs.YtliicpedddcfiaaGreat
namespace Go.Proofs.YtliicpedddcfiaaGreat.C2
open Go.RowKit Go.Lib

/-- a schedule's cells, where only the first client has done something. -/
def sch (N P : Nat) (o b a : Value) (q : Bool) (al : Value) (ev : Int) : Array Value :=
  #[.pointer (some ⟨N, 0, none⟩), .pointer (some ⟨P, 0, none⟩), .slice none 0 0, .slice none 0 0, .slice none 0 0, .bool false, o, b, a, .bool q, .slice none 0 0, .slice none 0 0, .slice none 0 0, .bool false, .slice none 0 0, .slice none 0 0, .slice none 0 0, .bool false, .slice none 0 0, .slice none 0 0, .slice none 0 0, .bool false, .slice none 0 0, .slice none 0 0, .slice none 0 0, .bool false, .slice none 0 0, .slice none 0 0, .slice none 0 0, .bool false, .slice none 0 0, .slice none 0 0, .slice none 0 0, .bool false, al, .int .i64 ev]
/-- what a client's begin leaves. -/
def CBeg (w w' : World) (lw K : Nat) (d : Ids) (s : Gs) (g : Gd) (o av : Value) (q : Bool) (ev : Int) (nb na : Nat) (xb xa : List Value) : Prop :=
  ∃ T W rw Q V base Bb bv al, Lo lw w w' ∧ w.heap.size ≤ T ∧ w.heap.size ≤ base ∧ lw ≤ Bb ∧ SchB w' K (sch d.N d.P o bv av q al ev) ∧
    w'.ownsRow lw 83 1 bv (nb + 1) (xb ++ [.pointer (some ⟨Bb, 0, none⟩)]) ∧ w'.ownsRow lw 83 1 al (na + 1) (xa ++ [.pointer (some ⟨Bb, 0, none⟩)]) ∧ w'.heap[Bb]? = some (.cells (begC (s.bl + 1) ev 0) 85 (0, 0)) ∧
    Su w' base { d with T := T, W := W, rw := rw, Q := Q, V := V } (begP s) (StoF lw { d with T := T, W := W, rw := rw, Q := Q, V := V } (begS s T) g) (fun b => bytT (s.vs b) s.last) [] 0 ∧ d.rx < base ∧ d.rb < base ∧ d.r < base ∧ (∀ x, bv.ownBlock = some x → al.ownBlock ≠ some x) ∧ ∀ (B : Nat) (cs : Array Value), w.heap[B]? = some (.cells cs 85 (0, 0)) → w'.heap[B]? = some (.cells cs 85 (0, 0))
set_option maxRecDepth 100000 in
set_option maxHeartbeats 4000000 in
theorem cbegin_ok (w : World) {K lw nb na : Nat} {d : Ids} {s : Gs} {g : Gd} {o bv av al : Value} {q : Bool} {ev : Int} {xb xa : List Value} (h : Sto w lw d s g) (hB : SchB w K (sch d.N d.P o bv av q al ev)) (hob : w.ownsRow lw 83 1 bv nb xb) (hoa : w.ownsRow lw 83 1 al na xa)
    (hne : ∀ x, bv.ownBlock = some x → al.ownBlock ≠ some x) (hnb : nb ≤ 900) (hna : na ≤ 900) (hLb : s.Lb = []) (h0 : 0 ≤ s.last) (h1 : s.last ≤ 1099511627776) (hb0 : 0 ≤ s.bl) (hb1 : s.bl ≤ 1000000) (hK : lw ≤ K) (hl : lw ≤ w.heap.size) :
    Calls Tryz.prog 49 #[.pointer (some ⟨K, 0, none⟩), .pointer (some ⟨K, 6, none⟩), .agg #[.int .i64 1, .int .i64 0, .int .i64 0, .int .i64 0, .slice none 0 0]] w fun e w' =>
      e = .returned (.agg #[.int .i64 1, .int .i64 0, .int .i64 nb, .int .i64 s.last, .slice none 0 0]) ∧ CBeg w w' lw K d s g o av q ev nb na xb xa := by
  have kk : Chg [] w ((w.alloc (.cells #[.int .i64 1, .int .i64 0, .int .i64 0, .int .i64 0, .slice none 0 0] 39)).alloc (.cells #[.int .i64 0, .int .i64 0, .int .i64 0, .int .i64 0, .slice none 0 0] 39)) := (Chg.alloc w _).then_alloc _
  obtain ⟨y1, y2⟩ := heap_new2 w (.cells #[.int .i64 1, .int .i64 0, .int .i64 0, .int .i64 0, .slice none 0 0] 39) (.cells #[.int .i64 0, .int .i64 0, .int .i64 0, .int .i64 0, .slice none 0 0] 39)
  generalize hw0 : (w.alloc (.cells #[.int .i64 1, .int .i64 0, .int .i64 0, .int .i64 0, .slice none 0 0] 39)).alloc (.cells #[.int .i64 0, .int .i64 0, .int .i64 0, .int .i64 0, .slice none 0 0] 39) = w0 at *
  have hz1 := heap_lt y1
  generalize hz : w.heap.size = z at *
  have H0 := h.keep kk
  have B0 : SchB w0 K (sch d.N d.P o bv av q al ev) := kk.heap hB (by simp)
  have hKz : K < z := by rw [← hz]; exact heap_lt hB
  have hob0 := own_keep hob kk.below0
  have hoa0 := own_keep hoa kk.below0
  have HLa := Lib.hid (last_ok w0 (P := d.P) (cell_is H0.store 5 rfl) (cell_is H0.mx.mgr 0 rfl) (cell_is H0.mx.mgr 7 rfl))
  have HBe := Lib.hid (sbegin_gen w0 H0 hLb h0 h1 hb0 hb1)
  have k1 : w0.cell? ⟨K, 1, none⟩ = some (.pointer (some ⟨d.P, 0, none⟩)) := cell_is B0 1 rfl
  have HH := Lib.hid (And.intro H0 (And.intro B0 (And.intro hob0 (And.intro hoa0 (And.intro y1 (And.intro y2 kk))))))
  clear H0 B0 hob0 hoa0 h hB hob hoa kk y1 y2
  go_enter Tryz.func49, Tryz.ntmps49
  go_wp2_with fail
  refine HLa.out.mono ?_
  rintro e w1 ⟨rfl, rfl⟩
  go_wp2_with fail
  refine HBe.out.mono ?_
  rintro e w2 ⟨rfl, T, W, rw, Q, V, cs2, hT, hSu⟩
  obtain ⟨H0, B0, hob0, hoa0, y1, y2, kk⟩ := HH.out
  have B2 : SchB w2 K _ := cs2.heap B0 (by decide)
  have z2 := cs2.heap y1 (by decide)
  have x2 := cs2.heap y2 (by decide)
  have hob2 := own_cs hob0 cs2 (by decide)
  have hoa2 := own_cs hoa0 cs2 (by decide)
  have HLt := Lib.hid (show d.rx < w0.heap.size ∧ d.rb < w0.heap.size ∧ d.r < w0.heap.size from ⟨H0.mx.ver.m.lt, H0.mx.book.2.lt, H0.mx.map.lt⟩)
  have HL2 := Lib.hid (And.intro ((Lo.of0 (lw := lw) kk).trans (Lo.of_cs cs2)) (And.intro hSu (And.intro hT kk.size)))
  have H85 := Lib.hid (show ∀ (B : Nat) (cs : Array Value), w.heap[B]? = some (.cells cs 85 (0, 0)) → w2.heap[B]? = some (.cells cs 85 (0, 0)) from fun B cs hh => cs2.heap (kk.heap hh (by simp)) (by decide))
  have hs2 := cs2.size
  have HO2 := Lib.hid (And.intro B2 (And.intro z2 (And.intro x2 (And.intro hob2 hoa2))))
  clear H0 B0 hob0 hoa0 y1 y2 kk cs2 hSu hT HLa HBe HH k1
  have q1 := cell_is z2 1 rfl
  have q2 := cell_is z2 2 rfl
  have f1 := unfrozen z2 1
  have f2 := unfrozen z2 2
  go_upto_region 4 with fail
  have z3 : ((w2.setCell ⟨z, 2, none⟩ (.int .i64 0)).setCell ⟨z, 1, none⟩ (.int .i64 0)).heap[z]? = some (.cells #[.int .i64 1, .int .i64 0, .int .i64 0, .int .i64 0, .slice none 0 0] 39 (0, 0)) := heap_set (heap_set z2 2 _ rfl) 1 _ rfl
  have k3 : Chg [z] w2 ((w2.setCell ⟨z, 2, none⟩ (.int .i64 0)).setCell ⟨z, 1, none⟩ (.int .i64 0)) := (Chg.set _ _ _ _).then (Chg.set _ _ _ _)
  generalize (w2.setCell ⟨z, 2, none⟩ (.int .i64 0)).setCell ⟨z, 1, none⟩ (.int .i64 0) = w3 at *
  have B3 : SchB w3 K _ := k3.heap B2 (by simp; omega)
  have x3 := k3.heap x2 (by simp)
  have nz : ∀ {v n xs}, w2.ownsRow lw 83 1 v n xs → ∀ g, v.ownBlock = some g → g ∉ [z] := fun ho g hg hm => by
    rw [List.mem_singleton] at hm
    subst hm
    obtain ⟨-, cur, hh⟩ := own_elem ho hg
    rw [z2] at hh
    cases hh
  have hob3 := own_chgB hob2 k3 (nz hob2)
  have hoa3 := own_chgB hoa2 k3 (nz hoa2)
  have hs3 := k3.size
  clear q1 q2 f1 f2 nz hob2 hoa2
  have c35 : w3.cell? ⟨K, 35, none⟩ = some (.int .i64 ev) := cell_is B3 35 rfl
  go_upto_region 6 with fail
  have k4 : Chg [] w3 (w3.alloc (.cells #[.int .i64 (s.bl + 1), .int .i64 ev, .int .i64 0, .int .i64 0, .int .i64 0, .int .i64 0, .int .i64 0, .int .i64 0, .slice none 0 0, .slice none 0 0] 85)) := Chg.alloc w3 _
  have yb := heap_new w3 (.cells #[.int .i64 (s.bl + 1), .int .i64 ev, .int .i64 0, .int .i64 0, .int .i64 0, .int .i64 0, .int .i64 0, .int .i64 0, .slice none 0 0, .slice none 0 0] 85)
  generalize w3.alloc (.cells #[.int .i64 (s.bl + 1), .int .i64 ev, .int .i64 0, .int .i64 0, .int .i64 0, .int .i64 0, .int .i64 0, .int .i64 0, .slice none 0 0, .slice none 0 0] 85) = w4 at *
  generalize hb : w3.heap.size = Bb at *
  have B4 : SchB w4 K _ := k4.heap B3 (by simp)
  have z4 := k4.heap z3 (by simp)
  have x4 := k4.heap x3 (by simp)
  have hob4 := own_keep hob3 k4.below0
  have hoa4 := own_keep hoa3 k4.below0
  have hs4 := k4.size
  obtain ⟨pb, cb, rfl, hcb⟩ := own_form hob4
  obtain ⟨pa, ca, rfl, hca⟩ := own_form hoa4
  have c3 : w4.cell? ⟨K, 7, none⟩ = some (.slice pb nb cb) := cell_is B4 7 rfl
  have q2 := cell_is z4 2 rfl
  have q3 := cell_is z4 3 rfl
  have f2 := unfrozen z4 2
  have f3 := unfrozen z4 3
  clear c35 z3 x3 hob3 hoa3 B3
  go_upto_region 7 with fail
  have z5 : ((w4.setCell ⟨z, 2, none⟩ (.int .i64 nb)).setCell ⟨z, 3, none⟩ (.int .i64 s.last)).heap[z]? = some (.cells #[.int .i64 1, .int .i64 0, .int .i64 nb, .int .i64 s.last, .slice none 0 0] 39 (0, 0)) := heap_set (heap_set z4 2 _ rfl) 3 _ rfl
  have k5 : Chg [z] w4 ((w4.setCell ⟨z, 2, none⟩ (.int .i64 nb)).setCell ⟨z, 3, none⟩ (.int .i64 s.last)) := (Chg.set _ _ _ _).then (Chg.set _ _ _ _)
  generalize (w4.setCell ⟨z, 2, none⟩ (.int .i64 nb)).setCell ⟨z, 3, none⟩ (.int .i64 s.last) = w5 at *
  have B5 : SchB w5 K _ := k5.heap B4 (by simp; omega)
  have x5 := k5.heap x4 (by simp)
  have b5 := k5.heap yb (by simp; omega)
  have nz : ∀ {v n xs}, w4.ownsRow lw 83 1 v n xs → ∀ g, v.ownBlock = some g → g ∉ [z] := fun ho g hg hm => by
    rw [List.mem_singleton] at hm
    subst hm
    obtain ⟨-, cur, hh⟩ := own_elem ho hg
    rw [z4] at hh
    cases hh
  have hob5 := own_chgB hob4 k5 (nz hob4)
  have hoa5 := own_chgB hoa4 k5 (nz hoa4)
  have hs5 := k5.size
  have c3 : w5.cell? ⟨K, 7, none⟩ = some (.slice pb nb cb) := cell_is B5 7 rfl
  have kp : Chg [] w5 (w5.alloc (.cells #[.pointer (some ⟨Bb, 0, none⟩)] 83)) := Chg.alloc w5 _
  have yp := heap_new w5 (.cells #[.pointer (some ⟨Bb, 0, none⟩)] 83)
  have op := own_keep hob5 kp.below0
  have hlp : lw ≤ (w5.alloc (.cells #[.pointer (some ⟨Bb, 0, none⟩)] 83)).heap.size := by have := kp.size; omega
  have Bp : SchB (w5.alloc (.cells #[.pointer (some ⟨Bb, 0, none⟩)] 83)) K _ := kp.heap B5 (by simp)
  clear q2 q3 f2 f3 nz hob4 hoa4 z4 x4 B4 yb
  go_upto_region 8 with (first | (at_builtin; refine wpList_append_beg rfl (.tmp 48) (.tmp 50) rfl lw w5.heap.size 1 nb (.slice pb nb cb) _ xb rfl op hlp (by omega) rfl (cell_is yp 0 rfl) rfl ?_; intro g7 c7 w7 o7 k7 n7; have B7 : SchB w7 K _ := k7.heap Bp (own_not op Bp (by decide)); have s7 := cell_is B7 7 rfl; have f7 := unfrozen B7 7))
  have ks8 : Chg [K] w7 (w7.setCell ⟨K, 7, none⟩ (.slice (some ⟨g7, 0, none⟩) (nb + 1) c7)) := Chg.set _ _ _ _
  have B8 : SchB (w7.setCell ⟨K, 7, none⟩ (.slice (some ⟨g7, 0, none⟩) (nb + 1) c7)) K (sch d.N d.P o (.slice (some ⟨g7, 0, none⟩) (nb + 1) c7) av q (.slice pa na ca) ev) := heap_set B7 7 _ rfl
  generalize w7.setCell ⟨K, 7, none⟩ (.slice (some ⟨g7, 0, none⟩) (nb + 1) c7) = w8 at *
  have z7 := k7.heap (kp.heap z5 (by simp)) (own_not op (kp.heap z5 (by simp)) (by decide))
  have x7 := k7.heap (kp.heap x5 (by simp)) (own_not op (kp.heap x5 (by simp)) (by decide))
  have b7 := k7.heap (kp.heap b5 (by simp)) (own_not op (kp.heap b5 (by simp)) (by decide))
  have hkK : ∀ {x : Nat} {cs : Array Value} {t : TypeId}, w7.heap[x]? = some (.cells cs t (0, 0)) → t ≠ 72 → x ∉ [K] := fun hx ht hm => by
    rw [List.mem_singleton] at hm
    subst hm
    rw [show w7.heap[_]? = _ from B7] at hx
    cases hx
    exact ht rfl
  have z8 := ks8.heap z7 (hkK z7 (by decide))
  have x8 := ks8.heap x7 (hkK x7 (by decide))
  have b8 := ks8.heap b7 (hkK b7 (by decide))
  have oa7 := own_chgB (own_keep hoa5 kp.below0) k7 (fun g hg hm => hne g (by simpa using hm) hg)
  have nK : ∀ {v n xs}, w7.ownsRow lw 83 1 v n xs → ∀ g, v.ownBlock = some g → g ∉ [K] := fun ho g hg => by
    obtain ⟨-, cur, hh⟩ := own_elem ho hg
    exact hkK hh (by decide)
  have oa8 := own_chgB oa7 ks8 (nK oa7)
  have o8 := own_chgB o7 ks8 (nK o7)
  have hs71 := kp.size
  have hs72 := k7.size
  have hs73 := ks8.size
  have hg7 : ∀ x, (Value.slice (some ⟨g7, 0, none⟩) (nb + 1) c7).ownBlock = some x → (Value.slice pa na ca).ownBlock ≠ some x := fun x hx ha => by
    cases hx
    rcases n7 with h | h
    · exact hne g7 h ha
    · have := (own_elem hoa5 ha).2
      obtain ⟨cur, hh⟩ := this
      have : g7 < w5.heap.size := heap_lt hh
      have h' : g7 = (w5.alloc (.cells #[.pointer (some ⟨Bb, 0, none⟩)] 83)).heap.size := h
      omega
  have k58 : Chg (K :: z :: (z + 1) :: ((Value.slice pb nb cb).ownBlock.toList ++ (Value.slice pa na ca).ownBlock.toList)) w2 w8 :=
    (((((k3.mono (fun x hx _ => by simp at hx; simp [hx])).then (k4.mono (fun x hx _ => by cases hx))).then (k5.mono (fun x hx _ => by simp at hx; simp [hx]))).then (kp.mono (fun x hx _ => by cases hx))).then (k7.mono (fun x hx _ => by simp only [List.mem_cons, List.mem_append]; exact Or.inr (Or.inr (Or.inr (Or.inl hx)))))).then (ks8.mono (fun x hx _ => by simp at hx; simp [hx]))
  have c34 : w8.cell? ⟨K, 34, none⟩ = some (.slice pa na ca) := cell_is B8 34 rfl
  have kq : Chg [] w8 (w8.alloc (.cells #[.pointer (some ⟨Bb, 0, none⟩)] 83)) := Chg.alloc w8 _
  have yq := heap_new w8 (.cells #[.pointer (some ⟨Bb, 0, none⟩)] 83)
  have oq := own_keep oa8 kq.below0
  have hlq : lw ≤ (w8.alloc (.cells #[.pointer (some ⟨Bb, 0, none⟩)] 83)).heap.size := by have := kq.size; omega
  have Bq : SchB (w8.alloc (.cells #[.pointer (some ⟨Bb, 0, none⟩)] 83)) K _ := kq.heap B8 (by simp)
  clear z7 x7 b7 oa7 nK ks8 o7 k7 n7 B7 s7 f7 hkK kp yp op hlp Bp c3 z5 x5 b5 hob5 hoa5 B5 k3 k4 k5
  go_upto_region 9 with (first | (at_builtin; refine wpList_append_beg rfl (.tmp 58) (.tmp 60) rfl lw w8.heap.size 1 na (.slice pa na ca) _ xa rfl oq hlq (by omega) rfl (cell_is yq 0 rfl) rfl ?_; intro g9 c9 w9 o9 k9 n9; have B9 : SchB w9 K _ := k9.heap Bq (own_not oq Bq (by decide)); have s9 := cell_is B9 34 rfl; have f9 := unfrozen B9 34))
  have ks10 : Chg [K] w9 (w9.setCell ⟨K, 34, none⟩ (.slice (some ⟨g9, 0, none⟩) (na + 1) c9)) := Chg.set _ _ _ _
  have B10 : SchB (w9.setCell ⟨K, 34, none⟩ (.slice (some ⟨g9, 0, none⟩) (na + 1) c9)) K (sch d.N d.P o (.slice (some ⟨g7, 0, none⟩) (nb + 1) c7) av q (.slice (some ⟨g9, 0, none⟩) (na + 1) c9) ev) := heap_set B9 34 _ rfl
  generalize w9.setCell ⟨K, 34, none⟩ (.slice (some ⟨g9, 0, none⟩) (na + 1) c9) = w10 at *
  have hkK : ∀ {x : Nat} {cs : Array Value} {t : TypeId}, w9.heap[x]? = some (.cells cs t (0, 0)) → t ≠ 72 → x ∉ [K] := fun hx ht hm => by
    rw [List.mem_singleton] at hm
    subst hm
    rw [show w9.heap[_]? = _ from B9] at hx
    cases hx
    exact ht rfl
  have z9 := k9.heap (kq.heap z8 (by simp)) (own_not oq (kq.heap z8 (by simp)) (by decide))
  have x9 := k9.heap (kq.heap x8 (by simp)) (own_not oq (kq.heap x8 (by simp)) (by decide))
  have b9 := k9.heap (kq.heap b8 (by simp)) (own_not oq (kq.heap b8 (by simp)) (by decide))
  have z10 := ks10.heap z9 (hkK z9 (by decide))
  have x10 := ks10.heap x9 (hkK x9 (by decide))
  have b10 := ks10.heap b9 (hkK b9 (by decide))
  have nK : ∀ {v n xs}, w9.ownsRow lw 83 1 v n xs → ∀ g, v.ownBlock = some g → g ∉ [K] := fun ho g hg => by
    obtain ⟨-, cur, hh⟩ := own_elem ho hg
    exact hkK hh (by decide)
  have ob9 := own_chgB (own_keep o8 kq.below0) k9 (fun g hg hm => hg7 g hg (by simpa using hm))
  have ob10 := own_chgB ob9 ks10 (nK ob9)
  have oa10 := own_chgB o9 ks10 (nK o9)
  have k10 : Chg (K :: z :: (z + 1) :: ((Value.slice pb nb cb).ownBlock.toList ++ (Value.slice pa na ca).ownBlock.toList)) w2 w10 :=
    ((k58.then (kq.mono (fun x hx _ => by cases hx))).then (k9.mono (fun x hx _ => by simp only [List.mem_cons, List.mem_append]; exact Or.inr (Or.inr (Or.inr (Or.inr hx)))))).then (ks10.mono (fun x hx _ => by simp at hx; simp [hx]))
  have hdis : ∀ x, (Value.slice (some ⟨g7, 0, none⟩) (nb + 1) c7).ownBlock = some x → (Value.slice (some ⟨g9, 0, none⟩) (na + 1) c9).ownBlock ≠ some x := fun x hx hx9 => by
    cases hx
    cases hx9
    rcases n9 with h | h
    · exact hg7 g7 rfl h
    · obtain ⟨-, cur, hh⟩ := own_elem o8 (g := g7) rfl
      have := heap_lt hh
      have := kq.size
      omega
  clear z9 x9 b9 ob9 nK ks10 o9 k9 n9 B9 s9 f9 hkK kq yq oq hlq Bq c34 z8 x8 b8 oa8 o8 B8 k58
  have d0 := cell_is z10 0 rfl
  have d1 := cell_is z10 1 rfl
  have d2 := cell_is z10 2 rfl
  have d3 := cell_is z10 3 rfl
  have d4 := cell_is z10 4 rfl
  have t0 := cell_is x10 0 rfl
  have t1 := cell_is x10 1 rfl
  have t2 := cell_is x10 2 rfl
  have t3 := cell_is x10 3 rfl
  have t4 := cell_is x10 4 rfl
  have e0 := unfrozen x10 0
  have e1 := unfrozen x10 1
  have e2 := unfrozen x10 2
  have e3 := unfrozen x10 3
  have e4 := unfrozen x10 4
  go_wp2_with fail
  obtain ⟨y11, k11⟩ := set5 (.int .i64 1) (.int .i64 0) (.int .i64 nb) (.int .i64 s.last) (.slice none 0 0) x10
  generalize ((((w10.setCell ⟨z + 1, 0, none⟩ (.int .i64 1)).setCell ⟨z + 1, 1, none⟩ (.int .i64 0)).setCell ⟨z + 1, 2, none⟩ (.int .i64 nb)).setCell ⟨z + 1, 3, none⟩ (.int .i64 s.last)).setCell ⟨z + 1, 4, none⟩ (.slice none 0 0) = w11 at *
  have r0 := cell_is y11 0 rfl
  have r1 := cell_is y11 1 rfl
  have r2 := cell_is y11 2 rfl
  have r3 := cell_is y11 3 rfl
  have r4 := cell_is y11 4 rfl
  have B11 := k11.heap B10 (by intro hm; rw [List.mem_singleton] at hm; omega)
  have hzw : z + 1 < w2.heap.size := heap_lt HO2.out.2.2.1
  have b11 := k11.heap b10 (by intro hm; rw [List.mem_singleton] at hm; omega)
  have nx : ∀ {v n xs}, w10.ownsRow lw 83 1 v n xs → ∀ g, v.ownBlock = some g → g ∉ [z + 1] := fun ho g hg hm => by
    rw [List.mem_singleton] at hm
    subst hm
    obtain ⟨-, cur, hh⟩ := own_elem ho hg
    rw [x10] at hh
    cases hh
  have ob11 := own_chgB ob10 k11 (nx ob10)
  have oa11 := own_chgB oa10 k11 (nx oa10)
  have kf := k10.then (k11.mono (fun x hx _ => by simp at hx; simp [hx]))
  have tp : Tp w2 (K :: z :: (z + 1) :: ((Value.slice pb nb cb).ownBlock.toList ++ (Value.slice pa na ca).ownBlock.toList)) [72, 39, 83] := fun x hx => by
    obtain ⟨t1, t2, t3, t4, t5⟩ := HO2.out
    simp only [List.mem_cons, List.mem_append] at hx
    rcases hx with rfl | rfl | rfl | hx | hx
    · exact ⟨_, _, t1, by simp⟩
    · exact ⟨_, _, t2, by simp⟩
    · exact ⟨_, _, t3, by simp⟩
    · obtain ⟨-, cur, hh⟩ := own_elem t4 (show (Value.slice pb nb cb).ownBlock = some x by simpa using hx)
      exact ⟨_, _, hh, by simp⟩
    · obtain ⟨-, cur, hh⟩ := own_elem t5 (show (Value.slice pa na ca).ownBlock = some x by simpa using hx)
      exact ⟨_, _, hh, by simp⟩
  obtain ⟨hLo, hSu, hT, hsz⟩ := HL2.out
  have hSto : Sto w2 lw { d with T := T, W := W, rw := rw, Q := Q, V := V } (begS s T) g := hSu.env
  have hSto2 := hSto.keepA kf (tp.av (by decide)) (tp.map hSto.mx.ver.m) (tp.map hSto.mx.book.2) (tp.map hSto.mx.map)
  have hSu2 := hSu.keepA kf (tp.av (by decide)) (tp.map hSu.buf.2) hSto2
  have hLf : Lo lw w w11 := hLo.then_chg kf (fun x hx hxl => by
    obtain ⟨t1, t2, t3, t4, t5⟩ := HO2.out
    simp only [List.mem_cons, List.mem_append] at hx
    rcases hx with rfl | rfl | rfl | hx | hx
    · exact ⟨hK, fun cs t fr hh => by rw [show w2.heap[_]? = _ from t1] at hh; cases hh; decide⟩
    · omega
    · omega
    · obtain ⟨e1, cur, e2⟩ := own_elem t4 (show (Value.slice pb nb cb).ownBlock = some x by simpa using hx)
      exact ⟨e1, fun cs t fr hh => by rw [e2] at hh; cases hh; decide⟩
    · obtain ⟨e1, cur, e2⟩ := own_elem t5 (show (Value.slice pa na ca).ownBlock = some x by simpa using hx)
      exact ⟨e1, fun cs t fr hh => by rw [e2] at hh; cases hh; decide⟩)
  refine bodyPost_ret (v := .agg #[.int .i64 1, .int .i64 0, .int .i64 nb, .int .i64 s.last, .slice none 0 0]) (by simp [results, Tryz.results49, go_sem, r0, r1, r2, r3, r4]) rfl ?_
  have hlt := HLt.out
  have h85 : ∀ (B : Nat) (cs : Array Value), w.heap[B]? = some (.cells cs 85 (0, 0)) → w11.heap[B]? = some (.cells cs 85 (0, 0)) := fun B cs hh => kf.heap (H85.out B cs hh) (fun hm => by
    obtain ⟨cs3, t3, e1, e2⟩ := tp B hm
    rw [H85.out B cs hh] at e1
    cases e1
    simp at e2)
  exact ⟨rfl, T, W, rw, Q, V, w0.heap.size, Bb, _, _, hLf, by omega, by omega, by omega, B11, ob11, oa11, b11, hSu2, hlt.1, hlt.2.1, hlt.2.2, hdis, h85⟩
end Go.Proofs.YtliicpedddcfiaaGreat.C2
namespace Go.Proofs.YtliicpedddcfiaaGreat.C2
open Go.RowKit Go.Lib

set_option maxRecDepth 100000 in
set_option maxHeartbeats 4000000 in
theorem ccall_write (w : World) {K Bb base E c cd D n : Nat} {d : Ids} {p : Par} {F : World → Prop} {q : Int → List UInt8} {L : List (Int × Value)} {cs bc : Array Value} {oh oa ol b : Int} {l : List UInt8} (hB : SchB w K cs) (h1 : cs[1]? = some (.pointer (some ⟨d.P, 0, none⟩)))
    (hb : w.heap[Bb]? = some (.cells bc 85 (0, 0))) (hbc : bc[0]? = some (.int .i64 p.h)) (hf : Fr base d p F) (h : Su w base d p F q L n) (e0 : w.cell? ⟨E, 0, none⟩ = some (.int .i64 b)) (e1 : w.cell? ⟨E, 1, none⟩ = some (.slice (some ⟨D, 0, none⟩) 40 cd)) (hbs : Bs w (some ⟨D, 0, none⟩) l) (hl : l.length = 40) (h0 : 0 ≤ b) (h2 : b < 258) (hroom : L.length ≤ 15) :
    Calls Tryz.prog 51 #[.pointer (some ⟨K, 0, none⟩), .pointer (some ⟨K, 6, none⟩), .pointer (some ⟨Bb, 0, none⟩), .agg #[.int .i64 3, .int .i64 oh, .int .i64 oa, .int .i64 ol, .slice (some ⟨E, 0, none⟩) 1 c], .agg #[.int .i64 3, .int .i64 0, .int .i64 oh, .int .i64 0, .slice none 0 0]] w fun e w' =>
      e = .returned (.tuple #[.agg #[.int .i64 3, .int .i64 0, .int .i64 oh, .int .i64 0, .slice none 0 0], .bool true]) ∧ Ow base w w' ∧ ∃ v, Su w' base d p F (putQ q b l) (putL L b v) n := by
  have kk : Chg [] w (((w.alloc (.cells #[.int .i64 3, .int .i64 oh, .int .i64 oa, .int .i64 ol, .slice (some ⟨E, 0, none⟩) 1 c] 33)).alloc (.cells #[.int .i64 3, .int .i64 0, .int .i64 oh, .int .i64 0, .slice none 0 0] 39)).alloc (.cells #[.int .i64 0, .int .i64 0, .int .i64 0, .int .i64 0, .slice none 0 0] 39)) := ((Chg.alloc w _).then_alloc _).then_alloc _
  obtain ⟨y1, y2, y3⟩ := heap_new3 w (.cells #[.int .i64 3, .int .i64 oh, .int .i64 oa, .int .i64 ol, .slice (some ⟨E, 0, none⟩) 1 c] 33) (.cells #[.int .i64 3, .int .i64 0, .int .i64 oh, .int .i64 0, .slice none 0 0] 39) (.cells #[.int .i64 0, .int .i64 0, .int .i64 0, .int .i64 0, .slice none 0 0] 39)
  generalize hw0 : ((w.alloc (.cells #[.int .i64 3, .int .i64 oh, .int .i64 oa, .int .i64 ol, .slice (some ⟨E, 0, none⟩) 1 c] 33)).alloc (.cells #[.int .i64 3, .int .i64 0, .int .i64 oh, .int .i64 0, .slice none 0 0] 39)).alloc (.cells #[.int .i64 0, .int .i64 0, .int .i64 0, .int .i64 0, .slice none 0 0] 39) = w0 at *
  have hz1 := heap_lt y1
  generalize hz : w.heap.size = z at *
  have k1 : w0.cell? ⟨K, 1, none⟩ = some (.pointer (some ⟨d.P, 0, none⟩)) := kk.cell (cell_is hB 1 h1) (by simp)
  have b0 : w0.cell? ⟨Bb, 0, none⟩ = some (.int .i64 p.h) := kk.cell (cell_is hb 0 hbc) (by simp)
  have z0 := cell_is y1 0 rfl
  have z4 := cell_is y1 4 rfl
  have kd : Chg [] w w0.drew := kk.drew
  have HW := Lib.hid (swrite_gen w0.drew (cp := c) hf (h.keep hf kd) (kd.cell e0 (by simp)) (kd.cell e1 (by simp)) (hbs.keep kd.below0) hl h0 h2 hroom)
  have y2d : w0.drew.heap[z + 1]? = _ := y2
  have y3d : w0.drew.heap[z + 2]? = _ := y3
  have HX := Lib.hid (And.intro y2d (And.intro y3d (And.intro kd (show w0.drew.heap.size = w0.heap.size from rfl))))
  have HF := Lib.hid hf
  have HE := Lib.hid h.env
  have hbz : base ≤ z := by have h9 := h.high.1; have : d.Q < w.heap.size := (by obtain ⟨v, m, xs, hv, -⟩ := h.vw; exact heap_lt hv); omega
  clear hB h1 hb hbc hf h e0 e1 hbs y2 y3 y2d y3d kk
  go_enter Tryz.func51, Tryz.ntmps51
  go_wp2_with fail
  go_still_tail 10, (by kernel_rfl)
  change wpList _ _ _ _ _ w0.drew
  generalize w0.drew = w1 at *
  go_wp2_with fail
  refine HW.out.mono ?_
  rintro e w2 ⟨v, rfl, hO, hS⟩
  obtain ⟨y2d, y3d, kd, hsd⟩ := HX.out
  have u2 := hO.heap y2d ⟨by decide, by decide, by decide⟩
  have u3 := hO.heap y3d ⟨by decide, by decide, by decide⟩
  have q1 := cell_is u2 1 rfl
  have g1 := unfrozen u2 1
  have HR := Lib.hid (And.intro hO (And.intro hS (And.intro kd y2d)))
  clear hO hS kd y2d y3d
  go_upto_region 12 with fail
  have v2 : (w2.setCell ⟨z + 1, 1, none⟩ (.int .i64 0)).heap[z + 1]? = some (.cells #[.int .i64 3, .int .i64 0, .int .i64 oh, .int .i64 0, .slice none 0 0] 39 (0, 0)) := heap_set u2 1 _ rfl
  have v3 := heap_set_ne u3 (show z + 2 ≠ z + 1 by omega) 1 (.int .i64 0)
  have ks : Chg [z + 1] w2 (w2.setCell ⟨z + 1, 1, none⟩ (.int .i64 0)) := Chg.set _ _ _ _
  generalize w2.setCell ⟨z + 1, 1, none⟩ (.int .i64 0) = w3 at *
  have d0 := cell_is v2 0 rfl
  have d1 := cell_is v2 1 rfl
  have d2 := cell_is v2 2 rfl
  have d3 := cell_is v2 3 rfl
  have d4 := cell_is v2 4 rfl
  have t0 := cell_is v3 0 rfl
  have t1 := cell_is v3 1 rfl
  have t2 := cell_is v3 2 rfl
  have t3 := cell_is v3 3 rfl
  have t4 := cell_is v3 4 rfl
  have f0 := unfrozen v3 0
  have f1 := unfrozen v3 1
  have f2 := unfrozen v3 2
  have f3 := unfrozen v3 3
  have f4 := unfrozen v3 4
  clear q1 g1
  go_wp2_with fail
  obtain ⟨y11, k11⟩ := set5 (.int .i64 3) (.int .i64 0) (.int .i64 oh) (.int .i64 0) (.slice none 0 0) v3
  generalize ((((w3.setCell ⟨z + 2, 0, none⟩ (.int .i64 3)).setCell ⟨z + 2, 1, none⟩ (.int .i64 0)).setCell ⟨z + 2, 2, none⟩ (.int .i64 oh)).setCell ⟨z + 2, 3, none⟩ (.int .i64 0)).setCell ⟨z + 2, 4, none⟩ (.slice none 0 0) = w4 at *
  have r0 := cell_is y11 0 rfl
  have r1 := cell_is y11 1 rfl
  have r2 := cell_is y11 2 rfl
  have r3 := cell_is y11 3 rfl
  have r4 := cell_is y11 4 rfl
  obtain ⟨hO, hS, kd, y2d⟩ := HR.out
  have kf : Chg [z + 1, z + 2] w2 w4 := (ks.mono (fun x hx _ => by simp at hx; simp [hx])).then (k11.mono (fun x hx _ => by simp at hx; simp [hx]))
  have tp : Tp w2 [z + 1, z + 2] [39] := fun x hx => by
    simp at hx
    rcases hx with rfl | rfl
    · exact ⟨_, _, u2, by simp⟩
    · exact ⟨_, _, u3, by simp⟩
  have hOf : Ow base w w4 := by
    obtain ⟨T, hT1, hT2⟩ := (Ow.of_chg (base := base) kd).trans hO
    refine ⟨T, hT1.trans kf (fun x hx hlt => by simp at hx; omega), hT2⟩
  refine bodyPost_ret (v := .tuple #[.agg #[.int .i64 3, .int .i64 0, .int .i64 oh, .int .i64 0, .slice none 0 0], .bool true]) (by simp [results, Tryz.results51, go_sem, r0, r1, r2, r3, r4]) rfl ?_
  exact ⟨rfl, hOf, v, hS.keepA kf (tp.av (by decide)) (tp.map hS.buf.2) (HF.out.keep w w4 hOf HE.out)⟩
end Go.Proofs.YtliicpedddcfiaaGreat.C2
namespace Go.Proofs.YtliicpedddcfiaaGreat.C2
open Go.RowKit Go.Lib

set_option maxRecDepth 100000 in
set_option maxHeartbeats 4000000 in
theorem ccall_read (w : World) {K Bb base n : Nat} {pp : Option Addr} {pn pc : Nat} {d : Ids} {p : Par} {F : World → Prop} {q : Int → List UInt8} {L : List (Int × Value)} {cs bc : Array Value} {oh b : Int} (hB : SchB w K cs) (h1 : cs[1]? = some (.pointer (some ⟨d.P, 0, none⟩)))
    (hb : w.heap[Bb]? = some (.cells bc 85 (0, 0))) (hbc : bc[0]? = some (.int .i64 p.h)) (hf : Fr base d p F) (h : Su w base d p F q L n) (h0 : 0 ≤ b) (h2 : b < 258) (hn : n ≤ 11) :
    Calls Tryz.prog 51 #[.pointer (some ⟨K, 0, none⟩), .pointer (some ⟨K, 6, none⟩), .pointer (some ⟨Bb, 0, none⟩), .agg #[.int .i64 2, .int .i64 oh, .int .i64 b, .int .i64 1, .slice pp pn pc], .agg #[.int .i64 2, .int .i64 0, .int .i64 oh, .int .i64 0, .slice none 0 0]] w fun e w' =>
      ∃ g c2, e = .returned (.tuple #[.agg #[.int .i64 2, .int .i64 0, .int .i64 oh, .int .i64 0, .slice (some ⟨g, 0, none⟩) 40 c2], .bool true]) ∧ Ow base w w' ∧ Su w' base d p F q L (n + 1) ∧ Bs w' (some ⟨g, 0, none⟩) (q b) ∧ w.heap.size ≤ g := by
  have kk : Chg [] w (((w.alloc (.cells #[.int .i64 2, .int .i64 oh, .int .i64 b, .int .i64 1, .slice pp pn pc] 33)).alloc (.cells #[.int .i64 2, .int .i64 0, .int .i64 oh, .int .i64 0, .slice none 0 0] 39)).alloc (.cells #[.int .i64 0, .int .i64 0, .int .i64 0, .int .i64 0, .slice none 0 0] 39)) := ((Chg.alloc w _).then_alloc _).then_alloc _
  obtain ⟨y1, y2, y3⟩ := heap_new3 w (.cells #[.int .i64 2, .int .i64 oh, .int .i64 b, .int .i64 1, .slice pp pn pc] 33) (.cells #[.int .i64 2, .int .i64 0, .int .i64 oh, .int .i64 0, .slice none 0 0] 39) (.cells #[.int .i64 0, .int .i64 0, .int .i64 0, .int .i64 0, .slice none 0 0] 39)
  generalize hw0 : ((w.alloc (.cells #[.int .i64 2, .int .i64 oh, .int .i64 b, .int .i64 1, .slice pp pn pc] 33)).alloc (.cells #[.int .i64 2, .int .i64 0, .int .i64 oh, .int .i64 0, .slice none 0 0] 39)).alloc (.cells #[.int .i64 0, .int .i64 0, .int .i64 0, .int .i64 0, .slice none 0 0] 39) = w0 at *
  have hz1 := heap_lt y1
  generalize hz : w.heap.size = z at *
  have k1 : w0.cell? ⟨K, 1, none⟩ = some (.pointer (some ⟨d.P, 0, none⟩)) := kk.cell (cell_is hB 1 h1) (by simp)
  have b0 : w0.cell? ⟨Bb, 0, none⟩ = some (.int .i64 p.h) := kk.cell (cell_is hb 0 hbc) (by simp)
  have z0 := cell_is y1 0 rfl
  have z2 := cell_is y1 2 rfl
  have z3 := cell_is y1 3 rfl
  have kd : Chg [] w w0.drew := kk.drew
  have HW := Lib.hid (sread_gen w0.drew (b := b) hf (h.keep hf kd) hn h0 h2)
  have y2d : w0.drew.heap[z + 1]? = _ := y2
  have y3d : w0.drew.heap[z + 2]? = _ := y3
  have HX := Lib.hid (And.intro y2d (And.intro y3d (And.intro kd (show w0.drew.heap.size = w0.heap.size from rfl))))
  have HF := Lib.hid hf
  have HE := Lib.hid h.env
  have hbz : base ≤ z := by have h9 := h.high.1; have : d.Q < w.heap.size := (by obtain ⟨v, m, xs, hv, -⟩ := h.vw; exact heap_lt hv); omega
  have HKB := Lib.hid (show w0.drew.heap[K]? = some (.cells cs 72 (0, 0)) ∧ w0.drew.heap[Bb]? = some (.cells bc 85 (0, 0)) ∧ w0.drew.heap[z]? = _ from ⟨kd.heap hB (by simp), kd.heap hb (by simp), y1⟩)
  have HC1 := Lib.hid (And.intro h1 hbc)
  clear hB h1 hb hbc hf h y2 y3 y2d y3d kk
  go_enter Tryz.func51, Tryz.ntmps51
  go_upto_region 3 with fail
  obtain ⟨hKd, hBd, hzd⟩ := HKB.out
  have fA : w0.drew.cell? ⟨K, 1, none⟩ = some (.pointer (some ⟨d.P, 0, none⟩)) ∧ w0.drew.cell? ⟨Bb, 0, none⟩ = some (.int .i64 p.h) ∧ w0.drew.cell? ⟨z, 2, none⟩ = some (.int .i64 b) ∧ w0.drew.cell? ⟨z, 3, none⟩ = some (.int .i64 1) := ⟨cell_is hKd 1 HC1.out.1, cell_is hBd 0 HC1.out.2, cell_is hzd 2 rfl, cell_is hzd 3 rfl⟩
  clear hKd hBd hzd k1 b0 z0 z2 z3 y1
  go_region_held3 (fun wx => wx.cell? ⟨K, 1, none⟩ = some (.pointer (some ⟨d.P, 0, none⟩)) ∧ wx.cell? ⟨Bb, 0, none⟩ = some (.int .i64 p.h) ∧ wx.cell? ⟨z, 2, none⟩ = some (.int .i64 b) ∧ wx.cell? ⟨z, 3, none⟩ = some (.int .i64 1))
    (first | (with_reducible exact fA) | (with_reducible exact f2) | (with_reducible exact fS _ _) | (with_reducible exact fT _ _ _ _))
    (first
      | (go_at_call 89; refine HW.out.mono ?_; rintro e w2 ⟨g, c2, rfl, hc2, hO, hS, hg, hbg⟩
         obtain ⟨y2d, y3d, kd, hsd⟩ := HX.out
         obtain ⟨hKd, hBd, hzd⟩ := HKB.out
         have u2 := hO.heap y2d ⟨by decide, by decide, by decide⟩
         have u3 := hO.heap y3d ⟨by decide, by decide, by decide⟩
         have uK := hO.heap hKd ⟨by decide, by decide, by decide⟩
         have uB := hO.heap hBd ⟨by decide, by decide, by decide⟩
         have uz := hO.heap hzd ⟨by decide, by decide, by decide⟩
         have nK : K ≠ z + 1 := heap_ne uK u2 (by simp)
         have nB : Bb ≠ z + 1 := heap_ne uB u2 (by simp)
         have f2 : w2.cell? ⟨K, 1, none⟩ = some (.pointer (some ⟨d.P, 0, none⟩)) ∧ w2.cell? ⟨Bb, 0, none⟩ = some (.int .i64 p.h) ∧ w2.cell? ⟨z, 2, none⟩ = some (.int .i64 b) ∧ w2.cell? ⟨z, 3, none⟩ = some (.int .i64 1) := ⟨cell_is uK 1 HC1.out.1, cell_is uB 0 HC1.out.2, cell_is uz 2 rfl, cell_is uz 3 rfl⟩
         have fS : ∀ i v, (w2.setCell ⟨z + 1, i, none⟩ v).cell? ⟨K, 1, none⟩ = some (.pointer (some ⟨d.P, 0, none⟩)) ∧ (w2.setCell ⟨z + 1, i, none⟩ v).cell? ⟨Bb, 0, none⟩ = some (.int .i64 p.h) ∧ (w2.setCell ⟨z + 1, i, none⟩ v).cell? ⟨z, 2, none⟩ = some (.int .i64 b) ∧ (w2.setCell ⟨z + 1, i, none⟩ v).cell? ⟨z, 3, none⟩ = some (.int .i64 1) := fun i v => ⟨cell_is (heap_set_ne uK nK i v) 1 HC1.out.1, cell_is (heap_set_ne uB nB i v) 0 HC1.out.2, cell_is (heap_set_ne uz (by omega) i v) 2 rfl, cell_is (heap_set_ne uz (by omega) i v) 3 rfl⟩
         have fT : ∀ i v j u, ((w2.setCell ⟨z + 1, i, none⟩ v).setCell ⟨z + 1, j, none⟩ u).cell? ⟨K, 1, none⟩ = some (.pointer (some ⟨d.P, 0, none⟩)) ∧ ((w2.setCell ⟨z + 1, i, none⟩ v).setCell ⟨z + 1, j, none⟩ u).cell? ⟨Bb, 0, none⟩ = some (.int .i64 p.h) ∧ ((w2.setCell ⟨z + 1, i, none⟩ v).setCell ⟨z + 1, j, none⟩ u).cell? ⟨z, 2, none⟩ = some (.int .i64 b) ∧ ((w2.setCell ⟨z + 1, i, none⟩ v).setCell ⟨z + 1, j, none⟩ u).cell? ⟨z, 3, none⟩ = some (.int .i64 1) := fun i v j u => ⟨cell_is (heap_set_ne (heap_set_ne uK nK i v) nK j u) 1 HC1.out.1, cell_is (heap_set_ne (heap_set_ne uB nB i v) nB j u) 0 HC1.out.2, cell_is (heap_set_ne (heap_set_ne uz (by omega) i v) (by omega) j u) 2 rfl, cell_is (heap_set_ne (heap_set_ne uz (by omega) i v) (by omega) j u) 3 rfl⟩
         have q1 := cell_is u2 1 rfl
         have g1 := unfrozen u2 1
         have q4 := cell_is u2 4 rfl
         have g4 := unfrozen u2 4))
  have HR := Lib.hid (And.intro hO (And.intro hS (And.intro kd (And.intro y2d (And.intro y3d (And.intro hg (And.intro hbg hsd)))))))
  clear hO hS kd y2d y3d hg hbg hsd fA f2 fS fT hKd hBd hzd uK uB uz nK nB
  go_upto_region 12 with fail
  have v2 : ((w2.setCell ⟨z + 1, 4, none⟩ (.slice (some ⟨g, 0, none⟩) 40 c2)).setCell ⟨z + 1, 1, none⟩ (.int .i64 0)).heap[z + 1]? = some (.cells #[.int .i64 2, .int .i64 0, .int .i64 oh, .int .i64 0, .slice (some ⟨g, 0, none⟩) 40 c2] 39 (0, 0)) := heap_set (heap_set u2 4 _ rfl) 1 _ rfl
  have v3 := heap_set_ne (heap_set_ne u3 (show z + 2 ≠ z + 1 by omega) 4 (.slice (some ⟨g, 0, none⟩) 40 c2)) (show z + 2 ≠ z + 1 by omega) 1 (.int .i64 0)
  have ks : Chg [z + 1] w2 ((w2.setCell ⟨z + 1, 4, none⟩ (.slice (some ⟨g, 0, none⟩) 40 c2)).setCell ⟨z + 1, 1, none⟩ (.int .i64 0)) := (Chg.set _ _ _ _).then (Chg.set _ _ _ _)
  generalize (w2.setCell ⟨z + 1, 4, none⟩ (.slice (some ⟨g, 0, none⟩) 40 c2)).setCell ⟨z + 1, 1, none⟩ (.int .i64 0) = w3 at *
  have d0 := cell_is v2 0 rfl
  have d1 := cell_is v2 1 rfl
  have d2 := cell_is v2 2 rfl
  have d3 := cell_is v2 3 rfl
  have d4 := cell_is v2 4 rfl
  have t0 := cell_is v3 0 rfl
  have t1 := cell_is v3 1 rfl
  have t2 := cell_is v3 2 rfl
  have t3 := cell_is v3 3 rfl
  have t4 := cell_is v3 4 rfl
  have f0 := unfrozen v3 0
  have f1 := unfrozen v3 1
  have f2 := unfrozen v3 2
  have f3 := unfrozen v3 3
  have f4 := unfrozen v3 4
  clear q1 g1 q4 g4
  go_wp2_with fail
  obtain ⟨y11, k11⟩ := set5 (.int .i64 2) (.int .i64 0) (.int .i64 oh) (.int .i64 0) (.slice (some ⟨g, 0, none⟩) 40 c2) v3
  generalize ((((w3.setCell ⟨z + 2, 0, none⟩ (.int .i64 2)).setCell ⟨z + 2, 1, none⟩ (.int .i64 0)).setCell ⟨z + 2, 2, none⟩ (.int .i64 oh)).setCell ⟨z + 2, 3, none⟩ (.int .i64 0)).setCell ⟨z + 2, 4, none⟩ (.slice (some ⟨g, 0, none⟩) 40 c2) = w4 at *
  have r0 := cell_is y11 0 rfl
  have r1 := cell_is y11 1 rfl
  have r2 := cell_is y11 2 rfl
  have r3 := cell_is y11 3 rfl
  have r4 := cell_is y11 4 rfl
  obtain ⟨hO, hS, kd, y2d, y3d, hg, hbg, hsd⟩ := HR.out
  have kf : Chg [z + 1, z + 2] w2 w4 := (ks.mono (fun x hx _ => by simp at hx; simp [hx])).then (k11.mono (fun x hx _ => by simp at hx; simp [hx]))
  have tp : Tp w2 [z + 1, z + 2] [39] := fun x hx => by
    simp at hx
    rcases hx with rfl | rfl
    · exact ⟨_, _, u2, by simp⟩
    · exact ⟨_, _, u3, by simp⟩
  have hOf : Ow base w w4 := by
    obtain ⟨T, hT1, hT2⟩ := (Ow.of_chg (base := base) kd).trans hO
    refine ⟨T, hT1.trans kf (fun x hx hlt => by simp at hx; omega), hT2⟩
  refine bodyPost_ret (v := .tuple #[.agg #[.int .i64 2, .int .i64 0, .int .i64 oh, .int .i64 0, .slice (some ⟨g, 0, none⟩) 40 c2], .bool true]) (by simp [results, Tryz.results51, go_sem, r0, r1, r2, r3, r4]) rfl ?_
  have hz3 := heap_lt y3d
  have hbf : Bs w4 (some ⟨g, 0, none⟩) (q b) := hbg.chgB kf (by simp; omega)
  exact ⟨g, c2, rfl, hOf, hS.keepA kf (tp.av (by decide)) (tp.map hS.buf.2) (HF.out.keep w w4 hOf HE.out), hbf, by omega⟩
end Go.Proofs.YtliicpedddcfiaaGreat.C2
