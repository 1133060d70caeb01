/- The statement SchedNothing: nothing is no schedule; for every input that can be read. -/
import Derived.Deep.QuietTactic
import Derived.Test.YtkhionhicegfmaaGreatRows
import Derived.ProofKit
import Derived.OpenShut
import Derived.Lib.SlBytesRowKit
import Derived.Lib.SmallJoins
import Derived.Deep.Slices
import Derived.Deep.Fields
import Derived.ChangeMaps5
import Derived.Test.YtkhionhicegfmaaGreatBb
import Derived.Test.YtkhionhicegfmaaGreatBi
namespace Go.Proofs.YtkhionhicegfmaaGreat
open Go.RowKit Go.Lib

/-- what a commit that waits leaves. -/
def CAsk (w w' : World) (lw : Nat) (d : Ids) (s : Gs) (g : Gd) (p : Par) (L : List (Int × Value)) (q : Int → List UInt8) (k : Nat) : Prop :=
  ∃ gq cq, Sto w' lw d (comS s gq cq) g ∧ Wtx w' d (comS s gq cq) gq cq p.h k p.t p.t L q ∧ Cs lw w w'
set_option maxRecDepth 100000 in
set_option maxHeartbeats 4000000 in
theorem commit_ask (w : World) {K Bb lw base n k : Nat} {d : Ids} {s : Gs} {g : Gd} {p : Par} {q : Int → List UInt8} {L : List (Int × Value)} {cs bc : Array Value} {oh : Int} (hB : SchB w K cs) (h1 : cs[1]? = some (.pointer (some ⟨d.P, 0, none⟩))) (h5 : cs[5]? = some (.bool false))
    (hb : w.heap[Bb]? = some (.cells bc 161 (0, 0))) (hbc : bc[0]? = some (.int .i64 p.h)) (hf : Fr base d p (StoF lw d s g)) (h : Su w base d p (StoF lw d s g) q L n) (htab : getL s.Lr p.h = some (.pointer (some ⟨d.T, 0, none⟩))) (hlw : lw ≤ w.heap.size) (_hTl : lw ≤ d.T)
    (hC : ∀ wx, Chg [] w wx → Calls Tryz.prog 19 #[.pointer (some ⟨d.P, 0, none⟩), .int .i64 p.h] wx fun e w' => e = .returned (.int .i64 0) ∧ ComR wx w' lw d s g p L q k) :
    Calls Tryz.prog 176 #[.pointer (some ⟨K, 0, none⟩), .pointer (some ⟨K, 2, none⟩), .pointer (some ⟨Bb, 0, none⟩), .agg #[.int .i64 4, .int .i64 0, .int .i64 oh, .int .i64 0, .slice none 0 0]] w fun e w' =>
      e = .returned (.tuple #[.agg #[.int .i64 0, .int .i64 0, .int .i64 0, .int .i64 0, .slice none 0 0], .bool false]) ∧ CAsk w w' lw d s g p L q k := by
  have kk : Chg [] w ((w.alloc (.cells #[.int .i64 4, .int .i64 0, .int .i64 oh, .int .i64 0, .slice none 0 0] 66)).alloc (.cells #[.int .i64 0, .int .i64 0, .int .i64 0, .int .i64 0, .slice none 0 0] 66)) := (Chg.alloc w _).then_alloc _
  obtain ⟨y1, y2⟩ := heap_new2 w (.cells #[.int .i64 4, .int .i64 0, .int .i64 oh, .int .i64 0, .slice none 0 0] 66) (.cells #[.int .i64 0, .int .i64 0, .int .i64 0, .int .i64 0, .slice none 0 0] 66)
  generalize hw0 : (w.alloc (.cells #[.int .i64 4, .int .i64 0, .int .i64 oh, .int .i64 0, .slice none 0 0] 66)).alloc (.cells #[.int .i64 0, .int .i64 0, .int .i64 0, .int .i64 0, .slice none 0 0] 66) = w0 at *
  have hz1 := heap_lt y1
  generalize hz : w.heap.size = z at *
  have k1 : w0.cell? ⟨K, 1, none⟩ = some (.pointer (some ⟨d.P, 0, none⟩)) := kk.cell (cell_is hB 1 h1) (by simp)
  have k5 : w0.cell? ⟨K, 5, none⟩ = some (.bool false) := kk.cell (cell_is hB 5 h5) (by simp)
  have b0 : w0.cell? ⟨Bb, 0, none⟩ = some (.int .i64 p.h) := kk.cell (cell_is hb 0 hbc) (by simp)
  have h2 := h.keep hf kk
  have hS2 : Sto w0 lw d s g := h2.env
  have hN := hf.need w0 h2.env
  have HR1 := Lib.hid (result_ok w0.drew (P := d.P) (M := d.M) (X := d.X) hN.p5 hN.m0 hN.m2 hS2.mx.map htab (cell_is h2.tx 0 rfl) (cell_is h2.tx 1 rfl) (cell_is h2.tx 2 rfl))
  have y1d : w0.drew.heap[z]? = _ := y1
  have y2d : w0.drew.heap[z + 1]? = _ := y2
  have B0 : w0.drew.heap[K]? = _ := kk.heap hB (by simp)
  have b0d : w0.drew.heap[Bb]? = _ := kk.heap hb (by simp)
  have HX := Lib.hid (And.intro y1d (And.intro y2d (And.intro B0 (And.intro b0d (And.intro kk.drew (show w0.drew.heap.size = w0.heap.size from rfl))))))
  have HCo := Lib.hid hC
  have h1' := Lib.hid h1
  have h2' := Lib.hid hbc
  clear hB h1 h5 hb hbc hf h h2 hS2 hN hC y1 y2 y1d y2d B0 b0d kk
  go_enter Tryz.func176, Tryz.ntmps176
  go_wp2_with fail
  go_region_held3 (fun wx => wx.cell? ⟨K, 1, none⟩ = some (.pointer (some ⟨d.P, 0, none⟩)) ∧ wx.cell? ⟨Bb, 0, none⟩ = some (.int .i64 p.h))
    (first | (exact ⟨k1, b0⟩) | (exact ⟨k3.cell k1 (by simp), k3.cell b0 (by simp)⟩))
    (first | (go_at_call 22; refine HR1.out.mono ?_; rintro e w3 ⟨rfl, k3⟩))
  obtain ⟨y1d, y2d, B0, b0d, kd, hsd⟩ := HX.out
  have kk3 := kd.then k3
  have y13 := k3.heap y1d (by simp)
  have y23 := k3.heap y2d (by simp)
  have B3 := k3.heap B0 (by simp)
  have b3 := k3.heap b0d (by simp)
  have c1 : w3.cell? ⟨K, 1, none⟩ = some (.pointer (some ⟨d.P, 0, none⟩)) := cell_is B3 1 h1'.out
  have c2 : w3.cell? ⟨Bb, 0, none⟩ = some (.int .i64 p.h) := cell_is b3 0 h2'.out
  have HC3 := Lib.hid (HCo.out w3.drew kk3.drew)
  have y13d : w3.drew.heap[z]? = _ := y13
  have y23d : w3.drew.heap[z + 1]? = _ := y23
  have B3d : w3.drew.heap[K]? = _ := B3
  have b3d : w3.drew.heap[Bb]? = _ := b3
  have HX3 := Lib.hid (And.intro y13d (And.intro y23d (And.intro B3d (And.intro b3d kk3.drew))))
  clear y1d y2d B0 b0d kd kk3 y13 y23 B3 b3 y13d y23d B3d b3d k1 k5 b0 HX HR1 k3
  go_wp2_with fail
  go_still_tail 8, (by kernel_rfl)
  change wpList _ _ _ _ _ w3.drew
  generalize w3.drew = w4 at *
  go_wp2_with fail
  refine HC3.out.mono ?_
  rintro e w5 ⟨rfl, gq, cq, hS5, hW5, cs5⟩
  obtain ⟨y14, y24, B4, b4, kk4⟩ := HX3.out
  have y15 := cs5.heap y14 (by decide)
  have y25 := cs5.heap y24 (by decide)
  have B5 := cs5.heap B4 (by decide)
  have b5 := cs5.heap b4 (by decide)
  have q1 := cell_is y15 1 rfl
  have g1 := unfrozen y15 1
  have HS5 := Lib.hid (And.intro hS5 (And.intro hW5 ((Cs.of_chg (lw := lw) kk4).trans cs5)))
  clear hS5 hW5 cs5 kk4 y14 y24 B4 b4 HX3 HC3 c1 c2
  go_upto_region 4 with fail
  have v1 : (w5.setCell ⟨z, 1, none⟩ (.int .i64 0)).heap[z]? = some (.cells #[.int .i64 4, .int .i64 0, .int .i64 oh, .int .i64 0, .slice none 0 0] 66 (0, 0)) := heap_set y15 1 _ rfl
  have ks : Chg [z] w5 (w5.setCell ⟨z, 1, none⟩ (.int .i64 0)) := Chg.set _ _ _ _
  generalize w5.setCell ⟨z, 1, none⟩ (.int .i64 0) = w6 at *
  have tpz : Tp w5 [z] [66] := fun x hx => by
    rw [List.mem_singleton] at hx
    subst hx
    exact ⟨_, _, y15, by simp⟩
  obtain ⟨hS5, hW5, hL5⟩ := HS5.out
  have hS6 : Sto w6 lw d (comS s gq cq) g := hS5.keepA ks (tpz.av (by decide)) (tpz.map hS5.mx.ver.m) (tpz.map hS5.mx.book.2) (tpz.map hS5.mx.map)
  have hW6 := hW5.keepA ks (tpz.av (by decide)) (tpz.map hW5.buf.2)
  have hL6 : Cs lw w w6 := hL5.new_chg ks (fun x hx => by rw [List.mem_singleton] at hx; omega)
  have hzK : ∀ {x : Nat} {cs : Array Value} {t : TypeId}, w5.heap[x]? = some (.cells cs t (0, 0)) → t ≠ 66 → x ∉ [z] := fun hx ht hm => by
    rw [List.mem_singleton] at hm
    subst hm
    rw [y15] at hx
    cases hx
    exact ht rfl
  have B6 := ks.heap B5 (hzK B5 (by decide))
  have b6 := ks.heap b5 (hzK b5 (by decide))
  have y26 := ks.heap y25 (by intro hm; rw [List.mem_singleton] at hm; omega)
  have c0 := cell_is v1 1 rfl
  have c1 : w6.cell? ⟨K, 1, none⟩ = some (.pointer (some ⟨d.P, 0, none⟩)) := cell_is B6 1 h1'.out
  have c2 : w6.cell? ⟨Bb, 0, none⟩ = some (.int .i64 p.h) := cell_is b6 0 h2'.out
  have kd6 : Chg [] w6 w6.drew := (Chg.refl [] w6).drew
  have hS6d := hS6.keep kd6
  have HR2 := Lib.hid (result_ok w6.drew (P := d.P) (M := d.M) (X := d.X) (cell_is hS6d.store 5 rfl) (cell_is hS6d.mx.mgr 0 rfl) (cell_is hS6d.mx.mgr 2 rfl) hS6d.mx.map hW6.tab (cell_is (show w6.drew.heap[d.T]? = _ from hW6.tx) 0 rfl) (cell_is (show w6.drew.heap[d.T]? = _ from hW6.tx) 1 rfl) (cell_is (show w6.drew.heap[d.T]? = _ from hW6.tx) 2 rfl))
  have y26d : w6.drew.heap[z + 1]? = _ := y26
  have HX6 := Lib.hid (And.intro y26d (And.intro hS6d (And.intro (hW6.keep kd6) (hL6.trans (Cs.of_chg kd6)))))
  clear hS5 hW5 hL5 hS6 hW6 hL6 hzK B6 b6 y26 kd6 hS6d HS5 tpz ks v1 y15 y25 B5 b5 q1 g1 y26d
  go_wp2_with fail
  go_region_held3 (fun wx => wx.cell? ⟨K, 1, none⟩ = some (.pointer (some ⟨d.P, 0, none⟩)) ∧ wx.cell? ⟨Bb, 0, none⟩ = some (.int .i64 p.h))
    (first | (exact ⟨c1, c2⟩) | (exact ⟨k7.cell c1 (by simp), k7.cell c2 (by simp)⟩))
    (first | (go_at_call 22; refine HR2.out.mono ?_; rintro e w7 ⟨rfl, k7⟩))
  obtain ⟨y26, hS6, hW6, hL6⟩ := HX6.out
  have y27 := k7.heap y26 (by simp)
  have t0 := cell_is y27 0 rfl
  have t1 := cell_is y27 1 rfl
  have t2 := cell_is y27 2 rfl
  have t3 := cell_is y27 3 rfl
  have t4 := cell_is y27 4 rfl
  have f0 := unfrozen y27 0
  have f1 := unfrozen y27 1
  have f2 := unfrozen y27 2
  have f3 := unfrozen y27 3
  have f4 := unfrozen y27 4
  have HX7 := Lib.hid (And.intro (hS6.keep k7) (And.intro (hW6.keep k7) (hL6.trans (Cs.of_chg k7))))
  clear y26 hS6 hW6 hL6 c0 c1 c2 HX6 HR2 k7
  go_wp2_with fail
  obtain ⟨y11, k11⟩ := set5 (.int .i64 0) (.int .i64 0) (.int .i64 0) (.int .i64 0) (.slice none 0 0) y27
  generalize ((((w7.setCell ⟨z + 1, 0, none⟩ (.int .i64 0)).setCell ⟨z + 1, 1, none⟩ (.int .i64 0)).setCell ⟨z + 1, 2, none⟩ (.int .i64 0)).setCell ⟨z + 1, 3, none⟩ (.int .i64 0)).setCell ⟨z + 1, 4, none⟩ (.slice none 0 0) = w8 at *
  have r0 := cell_is y11 0 rfl
  have r1 := cell_is y11 1 rfl
  have r2 := cell_is y11 2 rfl
  have r3 := cell_is y11 3 rfl
  have r4 := cell_is y11 4 rfl
  obtain ⟨hS7, hW7, hL7⟩ := HX7.out
  have tp : Tp w7 [z + 1] [66] := fun x hx => by
    rw [List.mem_singleton] at hx
    subst hx
    exact ⟨_, _, y27, by simp⟩
  refine bodyPost_ret (v := .tuple #[.agg #[.int .i64 0, .int .i64 0, .int .i64 0, .int .i64 0, .slice none 0 0], .bool false]) (by simp [results, Tryz.results176, go_sem, r0, r1, r2, r3, r4]) rfl ?_
  exact ⟨rfl, gq, cq, hS7.keepA k11 (tp.av (by decide)) (tp.map hS7.mx.ver.m) (tp.map hS7.mx.book.2) (tp.map hS7.mx.map), hW7.keepA k11 (tp.av (by decide)) (tp.map hW7.buf.2), hL7.new_chg k11 (fun x hx => by rw [List.mem_singleton] at hx; omega)⟩
/-- what a commit that is told leaves. -/
def CTold (w w' : World) (lw Bb : Nat) (d : Ids) (s : Gs) (g : Gd) (bc : Array Value) (ev : Int) : Prop :=
  Sto w' lw d s g ∧ Chg [Bb] w w' ∧ w'.heap[Bb]? = some (.cells (bc.setIfInBounds 2 (.int .i64 ev)) 161 (0, 0))
set_option maxRecDepth 100000 in
set_option maxHeartbeats 4000000 in
theorem commit_told (w : World) {K Bb lw : Nat} {d : Ids} {s : Gs} {g : Gd} {cs bc : Array Value} {oh h k ev x2 : Int} (hB : SchB w K cs) (h1 : cs[1]? = some (.pointer (some ⟨d.P, 0, none⟩))) (h5 : cs[5]? = some (.bool true)) (h35 : cs[35]? = some (.int .i64 ev))
    (hb : w.heap[Bb]? = some (.cells bc 161 (0, 0))) (hbc : bc[0]? = some (.int .i64 h)) (hb2 : bc[2]? = some (.int .i64 x2)) (hS : Sto w lw d s g) (htab : getL s.Lr h = some (.pointer (some ⟨d.T, 0, none⟩))) (t0 : w.cell? ⟨d.T, 0, none⟩ = some (.int .i64 3)) (t1 : w.cell? ⟨d.T, 1, none⟩ = some (.int .i64 k)) (t2 : w.cell? ⟨d.T, 2, none⟩ = some (.int .i64 0)) :
    Calls Tryz.prog 176 #[.pointer (some ⟨K, 0, none⟩), .pointer (some ⟨K, 2, none⟩), .pointer (some ⟨Bb, 0, none⟩), .agg #[.int .i64 4, .int .i64 0, .int .i64 oh, .int .i64 0, .slice none 0 0]] w fun e w' =>
      e = .returned (.tuple #[.agg #[.int .i64 4, .int .i64 0, .int .i64 oh, .int .i64 k, .slice none 0 0], .bool true]) ∧ CTold w w' lw Bb d s g bc ev := by
  have kk : Chg [] w ((w.alloc (.cells #[.int .i64 4, .int .i64 0, .int .i64 oh, .int .i64 0, .slice none 0 0] 66)).alloc (.cells #[.int .i64 0, .int .i64 0, .int .i64 0, .int .i64 0, .slice none 0 0] 66)) := (Chg.alloc w _).then_alloc _
  obtain ⟨y1, y2⟩ := heap_new2 w (.cells #[.int .i64 4, .int .i64 0, .int .i64 oh, .int .i64 0, .slice none 0 0] 66) (.cells #[.int .i64 0, .int .i64 0, .int .i64 0, .int .i64 0, .slice none 0 0] 66)
  generalize hw0 : (w.alloc (.cells #[.int .i64 4, .int .i64 0, .int .i64 oh, .int .i64 0, .slice none 0 0] 66)).alloc (.cells #[.int .i64 0, .int .i64 0, .int .i64 0, .int .i64 0, .slice none 0 0] 66) = w0 at *
  have hz1 := heap_lt y1
  generalize hz : w.heap.size = z at *
  have k1 : w0.cell? ⟨K, 1, none⟩ = some (.pointer (some ⟨d.P, 0, none⟩)) := kk.cell (cell_is hB 1 h1) (by simp)
  have k5 : w0.cell? ⟨K, 5, none⟩ = some (.bool true) := kk.cell (cell_is hB 5 h5) (by simp)
  have b0 : w0.cell? ⟨Bb, 0, none⟩ = some (.int .i64 h) := kk.cell (cell_is hb 0 hbc) (by simp)
  have kd := kk.drew
  have hSd := hS.keep kd
  have HR := Lib.hid (result_ok w0.drew (P := d.P) (M := d.M) (X := d.X) (cell_is hSd.store 5 rfl) (cell_is hSd.mx.mgr 0 rfl) (cell_is hSd.mx.mgr 2 rfl) hSd.mx.map htab (kd.cell t0 (by simp)) (kd.cell t1 (by simp)) (kd.cell t2 (by simp)))
  have y1d : w0.drew.heap[z]? = _ := y1
  have y2d : w0.drew.heap[z + 1]? = _ := y2
  have hKz : K < z ∧ Bb < z := by rw [← hz]; exact ⟨heap_lt hB, heap_lt hb⟩
  have hKB : K ≠ Bb := heap_ne hB hb (by simp)
  have HX := Lib.hid (And.intro y1d (And.intro y2d (And.intro (kd.heap hB (by simp)) (And.intro (kd.heap hb (by simp)) (And.intro kd hSd)))))
  have H1 := Lib.hid (And.intro h1 (And.intro h35 (And.intro hbc hb2)))
  clear hB h1 h5 h35 hb hbc hb2 hS t0 t1 t2 htab y1 y2 y1d y2d kk kd hSd
  go_enter Tryz.func176, Tryz.ntmps176
  go_wp2_with fail
  go_region_held3 (fun wx => wx.cell? ⟨K, 1, none⟩ = some (.pointer (some ⟨d.P, 0, none⟩)) ∧ wx.cell? ⟨Bb, 0, none⟩ = some (.int .i64 h))
    (first | (exact ⟨k1, b0⟩) | (exact ⟨k3.cell k1 (by simp), k3.cell b0 (by simp)⟩))
    (first | (go_at_call 22; refine HR.out.mono ?_; rintro e w3 ⟨rfl, k3⟩))
  obtain ⟨y1d, y2d, B0, b0d, kd, hSd⟩ := HX.out
  have y13 := k3.heap y1d (by simp)
  have y23 := k3.heap y2d (by simp)
  have B3 := k3.heap B0 (by simp)
  have b3 := k3.heap b0d (by simp)
  have q3 := cell_is y13 3 rfl
  have g3 := unfrozen y13 3
  have HY := Lib.hid (And.intro (hSd.keep k3) (kd.then k3))
  clear y1d y2d B0 b0d kd hSd HX HR k1 k5 b0 k3
  go_upto_region 16 with fail
  have v1 : (w3.setCell ⟨z, 3, none⟩ (.int .i64 k)).heap[z]? = some (.cells #[.int .i64 4, .int .i64 0, .int .i64 oh, .int .i64 k, .slice none 0 0] 66 (0, 0)) := heap_set y13 3 _ rfl
  have ks : Chg [z] w3 (w3.setCell ⟨z, 3, none⟩ (.int .i64 k)) := Chg.set _ _ _ _
  generalize w3.setCell ⟨z, 3, none⟩ (.int .i64 k) = w4 at *
  have y24 := ks.heap y23 (by simp)
  have B4 := ks.heap B3 (by simp; omega)
  have b4 := ks.heap b3 (by simp; omega)
  have c35 := cell_is B4 35 H1.out.2.1
  have c2 := cell_is b4 2 H1.out.2.2.2
  have f2 := unfrozen b4 2
  clear q3 g3
  go_upto_region 17 with fail
  have b5 : (w4.setCell ⟨Bb, 2, none⟩ (.int .i64 ev)).heap[Bb]? = some (.cells (bc.setIfInBounds 2 (.int .i64 ev)) 161 (0, 0)) := heap_set b4 2 _ rfl
  have k5 : Chg [Bb] w4 (w4.setCell ⟨Bb, 2, none⟩ (.int .i64 ev)) := Chg.set _ _ _ _
  generalize w4.setCell ⟨Bb, 2, none⟩ (.int .i64 ev) = w5 at *
  have v5 := k5.heap v1 (by simp; omega)
  have y25 := k5.heap y24 (by simp; omega)
  have d0 := cell_is v5 0 rfl
  have d1 := cell_is v5 1 rfl
  have d2 := cell_is v5 2 rfl
  have d3 := cell_is v5 3 rfl
  have d4 := cell_is v5 4 rfl
  have t0 := cell_is y25 0 rfl
  have t1 := cell_is y25 1 rfl
  have t2 := cell_is y25 2 rfl
  have t3 := cell_is y25 3 rfl
  have t4 := cell_is y25 4 rfl
  have e0 := unfrozen y25 0
  have e1 := unfrozen y25 1
  have e2 := unfrozen y25 2
  have e3 := unfrozen y25 3
  have e4 := unfrozen y25 4
  clear c35 c2 f2
  go_wp2_with fail
  obtain ⟨y11, k11⟩ := set5 (.int .i64 4) (.int .i64 0) (.int .i64 oh) (.int .i64 k) (.slice none 0 0) y25
  generalize ((((w5.setCell ⟨z + 1, 0, none⟩ (.int .i64 4)).setCell ⟨z + 1, 1, none⟩ (.int .i64 0)).setCell ⟨z + 1, 2, none⟩ (.int .i64 oh)).setCell ⟨z + 1, 3, none⟩ (.int .i64 k)).setCell ⟨z + 1, 4, none⟩ (.slice none 0 0) = w6 at *
  have r0 := cell_is y11 0 rfl
  have r1 := cell_is y11 1 rfl
  have r2 := cell_is y11 2 rfl
  have r3 := cell_is y11 3 rfl
  have r4 := cell_is y11 4 rfl
  obtain ⟨hS3, k3⟩ := HY.out
  have kf : Chg [Bb, z, z + 1] w3 w6 := ((ks.mono (fun x hx _ => by simp at hx; simp [hx])).then (k5.mono (fun x hx _ => by simp at hx; simp [hx]))).then (k11.mono (fun x hx _ => by simp at hx; simp [hx]))
  have tp : Tp w3 [Bb, z, z + 1] [161, 66] := fun x hx => by
    simp at hx
    rcases hx with rfl | rfl | rfl
    · exact ⟨_, _, b3, by simp⟩
    · exact ⟨_, _, y13, by simp⟩
    · exact ⟨_, _, y23, by simp⟩
  refine bodyPost_ret (v := .tuple #[.agg #[.int .i64 4, .int .i64 0, .int .i64 oh, .int .i64 k, .slice none 0 0], .bool true]) (by simp [results, Tryz.results176, go_sem, r0, r1, r2, r3, r4]) rfl ?_
  exact ⟨rfl, hS3.keepA kf (tp.av (by decide)) (tp.map hS3.mx.ver.m) (tp.map hS3.mx.book.2) (tp.map hS3.mx.map), (k3.mono (T := [Bb]) (fun x hx _ => by cases hx)).trans kf (fun x hx hlt => by simp at hx; simp; omega), k11.heap b5 (by simp; omega)⟩
end Go.Proofs.YtkhionhicegfmaaGreat
namespace Go.Proofs.YtkhionhicegfmaaGreat
open Go.RowKit Go.Lib

/-- answers that stand in memory are kept. -/
def K66 (a b : World) : Prop := ∀ (x : Nat) (cs : Array Value), a.heap[x]? = some (Obj.cells cs 66 (0, 0)) → b.heap[x]? = some (Obj.cells cs 66 (0, 0))
theorem K66.of0 {a b : World} (h : Chg [] a b) : K66 a b := fun _ _ hx => h.heap hx (by simp)
theorem K66.trans {a b c : World} (h : K66 a b) (k : K66 b c) : K66 a c := fun x cs hx => k x cs (h x cs hx)
theorem K66.new {a b c : World} {S : List Nat} (h : K66 a b) (k : Chg S b c) (hS : ∀ x ∈ S, a.heap.size ≤ x) : K66 a c := fun x cs hx =>
  k.heap (h x cs hx) (fun hm => by have := hS x hm; have := heap_lt hx; omega)
/-- what a schedule and its answers do not touch. -/
structure Cl (lw : Nat) (P : World → Prop) : Prop where
  keep : ∀ a b S, P a → Chg S a b → Tp a S [149, 66] → (∀ x ∈ S, lw ≤ x) → P b
theorem Cl.box {lw : Nat} {P : World → Prop} (h : Cl lw P) {a b : World} {S : List Nat} (hp : P a) (hc : Chg S a b) (ht : Tp a S [66]) (hl : ∀ x ∈ S, lw ≤ x) : P b :=
  h.keep a b S hp hc (fun x hx => by obtain ⟨cs, t, h1, h2⟩ := ht x hx; exact ⟨cs, t, h1, by simp at h2; simp [h2]⟩) hl
/-- what an op's call hands back. -/
def DoR (w : World) (K : Nat) (P : Array Value → World → Prop) (x0 x1 x2 x3 : Int) (fl : Bool) (e : Ending) (w' : World) : Prop :=
  e = .returned (.tuple #[.agg #[.int .i64 x0, .int .i64 x1, .int .i64 x2, .int .i64 x3, .slice none 0 0], .bool fl]) ∧ ∃ cs, P cs w' ∧ SchB w' K cs ∧ K66 w w'
set_option maxRecDepth 100000 in
set_option maxHeartbeats 4000000 in
theorem ccall_c (w : World) {K Bb lw : Nat} {P : Array Value → World → Prop} {oh oa ol x0 x1 x2 x3 : Int} {pp : Option Addr} {pn pc : Nat} {fl : Bool} (hlw : lw ≤ w.heap.size) (hP : ∀ cs, Cl lw (P cs))
    (HC : ∀ wx, Chg [] w wx → Calls Tryz.prog 176 #[.pointer (some ⟨K, 0, none⟩), .pointer (some ⟨K, 2, none⟩), .pointer (some ⟨Bb, 0, none⟩), .agg #[.int .i64 4, .int .i64 0, .int .i64 oh, .int .i64 0, .slice none 0 0]] wx (DoR wx K P x0 x1 x2 x3 fl)) :
    Calls Tryz.prog 140 #[.pointer (some ⟨K, 0, none⟩), .pointer (some ⟨K, 2, none⟩), .pointer (some ⟨Bb, 0, none⟩), .agg #[.int .i64 4, .int .i64 oh, .int .i64 oa, .int .i64 ol, .slice pp pn pc], .agg #[.int .i64 4, .int .i64 0, .int .i64 oh, .int .i64 0, .slice none 0 0]] w (DoR w K P x0 x1 x2 x3 fl) := by
  have kk : Chg [] w (((w.alloc (.cells #[.int .i64 4, .int .i64 oh, .int .i64 oa, .int .i64 ol, .slice pp pn pc] 64)).alloc (.cells #[.int .i64 4, .int .i64 0, .int .i64 oh, .int .i64 0, .slice none 0 0] 66)).alloc (.cells #[.int .i64 0, .int .i64 0, .int .i64 0, .int .i64 0, .slice none 0 0] 66)) := ((Chg.alloc w _).then_alloc _).then_alloc _
  obtain ⟨y1, y2, y3⟩ := heap_new3 w (.cells #[.int .i64 4, .int .i64 oh, .int .i64 oa, .int .i64 ol, .slice pp pn pc] 64) (.cells #[.int .i64 4, .int .i64 0, .int .i64 oh, .int .i64 0, .slice none 0 0] 66) (.cells #[.int .i64 0, .int .i64 0, .int .i64 0, .int .i64 0, .slice none 0 0] 66)
  generalize hw0 : ((w.alloc (.cells #[.int .i64 4, .int .i64 oh, .int .i64 oa, .int .i64 ol, .slice pp pn pc] 64)).alloc (.cells #[.int .i64 4, .int .i64 0, .int .i64 oh, .int .i64 0, .slice none 0 0] 66)).alloc (.cells #[.int .i64 0, .int .i64 0, .int .i64 0, .int .i64 0, .slice none 0 0] 66) = w0 at *
  have hz1 := heap_lt y1
  generalize hz : w.heap.size = z at *
  have z0 := cell_is y1 0 rfl
  have a0 := cell_is y2 0 rfl
  have a1 := cell_is y2 1 rfl
  have a2 := cell_is y2 2 rfl
  have a3 := cell_is y2 3 rfl
  have a4 := cell_is y2 4 rfl
  have HCo := Lib.hid (HC w0 kk)
  have HX := Lib.hid (And.intro y3 kk)
  clear HC y2 y3 kk
  go_enter Tryz.func140, Tryz.ntmps140
  go_wp2_with fail
  refine HCo.out.mono ?_
  rintro e w1 ⟨rfl, cs, hp, hK, h66⟩
  have y31 := h66 _ _ HX.out.1
  have t0 := cell_is y31 0 rfl
  have t1 := cell_is y31 1 rfl
  have t2 := cell_is y31 2 rfl
  have t3 := cell_is y31 3 rfl
  have t4 := cell_is y31 4 rfl
  have e0 := unfrozen y31 0
  have e1 := unfrozen y31 1
  have e2 := unfrozen y31 2
  have e3 := unfrozen y31 3
  have e4 := unfrozen y31 4
  have HR := Lib.hid (And.intro hp (And.intro hK h66))
  clear hp hK h66 z0 a0 a1 a2 a3 a4 y1
  go_wp2_with fail
  obtain ⟨y11, k11⟩ := set5 (.int .i64 x0) (.int .i64 x1) (.int .i64 x2) (.int .i64 x3) (.slice none 0 0) y31
  generalize ((((w1.setCell ⟨z + 2, 0, none⟩ (.int .i64 x0)).setCell ⟨z + 2, 1, none⟩ (.int .i64 x1)).setCell ⟨z + 2, 2, none⟩ (.int .i64 x2)).setCell ⟨z + 2, 3, none⟩ (.int .i64 x3)).setCell ⟨z + 2, 4, none⟩ (.slice none 0 0) = w6 at *
  have r0 := cell_is y11 0 rfl
  have r1 := cell_is y11 1 rfl
  have r2 := cell_is y11 2 rfl
  have r3 := cell_is y11 3 rfl
  have r4 := cell_is y11 4 rfl
  obtain ⟨hp, hK, h66⟩ := HR.out
  have tp : Tp w1 [z + 2] [66] := fun x hx => by
    rw [List.mem_singleton] at hx
    subst hx
    exact ⟨_, _, y31, by simp⟩
  refine bodyPost_ret (v := .tuple #[.agg #[.int .i64 x0, .int .i64 x1, .int .i64 x2, .int .i64 x3, .slice none 0 0], .bool fl]) (by simp [results, Tryz.results140, go_sem, r0, r1, r2, r3, r4]) rfl ?_
  refine ⟨rfl, cs, (hP cs).box hp k11 tp (fun x hx => by rw [List.mem_singleton] at hx; omega), k11.heap hK ?_, ((K66.of0 HX.out.2).trans h66).new k11 (fun x hx => by rw [List.mem_singleton] at hx; omega)⟩
  intro hm
  rw [List.mem_singleton] at hm
  exact heap_ne hK y31 (by simp) hm
set_option maxRecDepth 100000 in
set_option maxHeartbeats 4000000 in
theorem do_call (w : World) {K Bb lw gb nb cb : Nat} {P : Array Value → World → Prop} {kind oa ol h x0 x1 x2 x3 : Int} {pp : Option Addr} {pn pc : Nat} {fl : Bool} (hk : kind = 3 ∨ kind = 4) (hlw : lw ≤ w.heap.size) (hP : ∀ cs, Cl lw (P cs))
    (c3 : w.cell? ⟨K, 3, none⟩ = some (.slice (some ⟨gb, 0, none⟩) nb cb)) (hnb : 0 < nb) (g0 : w.cell? ⟨gb, 0, none⟩ = some (.pointer (some ⟨Bb, 0, none⟩))) (b0 : w.cell? ⟨Bb, 0, none⟩ = some (.int .i64 h)) (hh : 0 < h)
    (HC : ∀ wx, Chg [] w wx → Calls Tryz.prog 140 #[.pointer (some ⟨K, 0, none⟩), .pointer (some ⟨K, 2, none⟩), .pointer (some ⟨Bb, 0, none⟩), .agg #[.int .i64 kind, .int .i64 0, .int .i64 oa, .int .i64 ol, .slice pp pn pc], .agg #[.int .i64 kind, .int .i64 0, .int .i64 0, .int .i64 0, .slice none 0 0]] wx (DoR wx K P x0 x1 x2 x3 fl)) :
    Calls Tryz.prog 85 #[.pointer (some ⟨K, 0, none⟩), .pointer (some ⟨K, 2, none⟩), .agg #[.int .i64 kind, .int .i64 0, .int .i64 oa, .int .i64 ol, .slice pp pn pc]] w (DoR w K P x0 x1 x2 x3 fl) := by
  have kk : Chg [] w ((w.alloc (.cells #[.int .i64 kind, .int .i64 0, .int .i64 oa, .int .i64 ol, .slice pp pn pc] 64)).alloc (.cells #[.int .i64 0, .int .i64 0, .int .i64 0, .int .i64 0, .slice none 0 0] 66)) := (Chg.alloc w _).then_alloc _
  obtain ⟨y1, y2⟩ := heap_new2 w (.cells #[.int .i64 kind, .int .i64 0, .int .i64 oa, .int .i64 ol, .slice pp pn pc] 64) (.cells #[.int .i64 0, .int .i64 0, .int .i64 0, .int .i64 0, .slice none 0 0] 66)
  generalize hw0 : (w.alloc (.cells #[.int .i64 kind, .int .i64 0, .int .i64 oa, .int .i64 ol, .slice pp pn pc] 64)).alloc (.cells #[.int .i64 0, .int .i64 0, .int .i64 0, .int .i64 0, .slice none 0 0] 66) = w0 at *
  have hz1 := heap_lt y1
  generalize hz : w.heap.size = z at *
  have z0 := cell_is y1 0 rfl
  have z1 := cell_is y1 1 rfl
  have z2 := cell_is y1 2 rfl
  have z3 := cell_is y1 3 rfl
  have z4 := cell_is y1 4 rfl
  have t0 := cell_is y2 0 rfl
  have t1 := cell_is y2 1 rfl
  have t2 := cell_is y2 2 rfl
  have t3 := cell_is y2 3 rfl
  have t4 := cell_is y2 4 rfl
  have e0 := unfrozen y2 0
  have e1 := unfrozen y2 1
  have e2 := unfrozen y2 2
  have e3 := unfrozen y2 3
  have e4 := unfrozen y2 4
  have m1 : decide (kind = 1) = false := decide_eq_false (by omega)
  have m2 : decide (kind = 2) = false := decide_eq_false (by omega)
  go_enter Tryz.func85, Tryz.ntmps85
  go_upto_region 1 with fail
  apply wp_scope_straight
  go_upto_region 2 with fail
  have v2 : (((((w0.setCell ⟨z + 1, 0, none⟩ (.int .i64 kind)).setCell ⟨z + 1, 1, none⟩ (.int .i64 0)).setCell ⟨z + 1, 2, none⟩ (.int .i64 0)).setCell ⟨z + 1, 3, none⟩ (.int .i64 0)).setCell ⟨z + 1, 4, none⟩ (.slice none 0 0)).heap[z + 1]? = some (.cells #[.int .i64 kind, .int .i64 0, .int .i64 0, .int .i64 0, .slice none 0 0] 66 (0, 0)) := (set5 _ _ _ _ _ y2).1
  have k2 := (set5 (.int .i64 kind) (.int .i64 0) (.int .i64 0) (.int .i64 0) (.slice none 0 0) y2).2
  generalize ((((w0.setCell ⟨z + 1, 0, none⟩ (.int .i64 kind)).setCell ⟨z + 1, 1, none⟩ (.int .i64 0)).setCell ⟨z + 1, 2, none⟩ (.int .i64 0)).setCell ⟨z + 1, 3, none⟩ (.int .i64 0)).setCell ⟨z + 1, 4, none⟩ (.slice none 0 0) = w1 at *
  have kk1 : Chg [] w w1 := kk.trans k2 (fun x hx hlt => by rw [List.mem_singleton] at hx; omega)
  have v1 := k2.heap y1 (by simp)
  clear z0 z1 z2 z3 z4 t0 t1 t2 t3 t4 e0 e1 e2 e3 e4
  have z0 := cell_is v1 0 rfl
  have z1 := cell_is v1 1 rfl
  have z2 := cell_is v1 2 rfl
  have z3 := cell_is v1 3 rfl
  have z4 := cell_is v1 4 rfl
  have t0 := cell_is v2 0 rfl
  have t1 := cell_is v2 1 rfl
  have t2 := cell_is v2 2 rfl
  have t3 := cell_is v2 3 rfl
  have t4 := cell_is v2 4 rfl
  have HA := Lib.hid (at_ok w1 (K := K) (o := 2) (kk1.cell c3 (by simp)) rfl hnb (kk1.cell g0 (by simp)) (kk1.cell b0 (by simp)) hh)
  have HCo := Lib.hid (HC w1 kk1)
  have HX := Lib.hid (And.intro v2 kk1)
  clear HC v2 kk1 v1 kk y1 y2 k2 c3 g0 b0
  go_wp2_with fail
  refine HA.out.mono ?_
  rintro e w2 ⟨rfl, rfl⟩
  have n3 : ∀ {p : Prop}, (kind = 3 → p) → (kind = 4 → p) → p := fun h3 h4 => hk.elim h3 h4
  rcases hk with rfl | rfl
  all_goals
    go_wp2_with fail
    apply wp_label
    go_wp2_with fail
    refine HCo.out.mono ?_
    rintro e w3 ⟨rfl, cs, hp, hK, h66⟩
    have y31 := h66 _ _ HX.out.1
    have s0 := cell_is y31 0 rfl
    have s1 := cell_is y31 1 rfl
    have s2 := cell_is y31 2 rfl
    have s3 := cell_is y31 3 rfl
    have s4 := cell_is y31 4 rfl
    have e0 := unfrozen y31 0
    have e1 := unfrozen y31 1
    have e2 := unfrozen y31 2
    have e3 := unfrozen y31 3
    have e4 := unfrozen y31 4
    have HR := Lib.hid (And.intro hp (And.intro hK h66))
    clear hp hK h66 z0 z1 z2 z3 z4 t0 t1 t2 t3 t4
    go_wp2_with fail
    obtain ⟨y11, k11⟩ := set5 (.int .i64 x0) (.int .i64 x1) (.int .i64 x2) (.int .i64 x3) (.slice none 0 0) y31
    generalize ((((w3.setCell ⟨z + 1, 0, none⟩ (.int .i64 x0)).setCell ⟨z + 1, 1, none⟩ (.int .i64 x1)).setCell ⟨z + 1, 2, none⟩ (.int .i64 x2)).setCell ⟨z + 1, 3, none⟩ (.int .i64 x3)).setCell ⟨z + 1, 4, none⟩ (.slice none 0 0) = w6 at *
    have r0 := cell_is y11 0 rfl
    have r1 := cell_is y11 1 rfl
    have r2 := cell_is y11 2 rfl
    have r3 := cell_is y11 3 rfl
    have r4 := cell_is y11 4 rfl
    obtain ⟨hp, hK, h66⟩ := HR.out
    have tp : Tp w3 [z + 1] [66] := fun x hx => by
      rw [List.mem_singleton] at hx
      subst hx
      exact ⟨_, _, y31, by simp⟩
    simp only [Exit.noGoto]
    refine bodyPost_ret (v := .tuple #[.agg #[.int .i64 x0, .int .i64 x1, .int .i64 x2, .int .i64 x3, .slice none 0 0], .bool fl]) (by simp [results, Tryz.results85, go_sem, r0, r1, r2, r3, r4]) rfl ?_
    refine ⟨rfl, cs, (hP cs).box hp k11 tp (fun x hx => by rw [List.mem_singleton] at hx; omega), k11.heap hK ?_, ((K66.of0 HX.out.2).trans h66).new k11 (fun x hx => by rw [List.mem_singleton] at hx; omega)⟩
    intro hm
    rw [List.mem_singleton] at hm
    exact heap_ne hK y31 (by simp) hm
end Go.Proofs.YtkhionhicegfmaaGreat
namespace Go.Proofs.YtkhionhicegfmaaGreat
open Go.RowKit Go.Lib

theorem own_k66 {w w' : World} {lo n : Nat} {v : Value} {xs : List Value} (h : w.ownsRow lo 66 5 v n xs) (k : K66 w w') : w'.ownsRow lo 66 5 v n xs := by
  refine ⟨h.1, ?_⟩
  rcases h.2 with ⟨e, h0⟩ | ⟨g, cap, cur, e, hA, hg, h3⟩
  · exact Or.inl ⟨e, h0⟩
  · exact Or.inr ⟨g, cap, cur, e, hA, k g cur hg, h3⟩
set_option maxRecDepth 100000 in
set_option maxHeartbeats 4000000 in
theorem do_begin (w : World) {K lw : Nat} {P : Array Value → World → Prop} {x0 x1 x2 x3 : Int} (hlw : lw ≤ w.heap.size) (hP : ∀ cs, Cl lw (P cs))
    (HC : ∀ wx, Chg [] w wx → Calls Tryz.prog 138 #[.pointer (some ⟨K, 0, none⟩), .pointer (some ⟨K, 2, none⟩), .agg #[.int .i64 1, .int .i64 0, .int .i64 0, .int .i64 0, .slice none 0 0]] wx fun e w' =>
      e = .returned (.agg #[.int .i64 x0, .int .i64 x1, .int .i64 x2, .int .i64 x3, .slice none 0 0]) ∧ ∃ cs, P cs w' ∧ SchB w' K cs ∧ K66 wx w') :
    Calls Tryz.prog 85 #[.pointer (some ⟨K, 0, none⟩), .pointer (some ⟨K, 2, none⟩), .agg #[.int .i64 1, .int .i64 0, .int .i64 0, .int .i64 0, .slice none 0 0]] w (DoR w K P x0 x1 x2 x3 true) := by
  have kk : Chg [] w ((w.alloc (.cells #[.int .i64 1, .int .i64 0, .int .i64 0, .int .i64 0, .slice none 0 0] 64)).alloc (.cells #[.int .i64 0, .int .i64 0, .int .i64 0, .int .i64 0, .slice none 0 0] 66)) := (Chg.alloc w _).then_alloc _
  obtain ⟨y1, y2⟩ := heap_new2 w (.cells #[.int .i64 1, .int .i64 0, .int .i64 0, .int .i64 0, .slice none 0 0] 64) (.cells #[.int .i64 0, .int .i64 0, .int .i64 0, .int .i64 0, .slice none 0 0] 66)
  generalize hw0 : (w.alloc (.cells #[.int .i64 1, .int .i64 0, .int .i64 0, .int .i64 0, .slice none 0 0] 64)).alloc (.cells #[.int .i64 0, .int .i64 0, .int .i64 0, .int .i64 0, .slice none 0 0] 66) = w0 at *
  have hz1 := heap_lt y1
  generalize hz : w.heap.size = z at *
  have z0 := cell_is y1 0 rfl
  have z1 := cell_is y1 1 rfl
  have z2 := cell_is y1 2 rfl
  have z3 := cell_is y1 3 rfl
  have z4 := cell_is y1 4 rfl
  have t0 := cell_is y2 0 rfl
  have t1 := cell_is y2 1 rfl
  have t2 := cell_is y2 2 rfl
  have t3 := cell_is y2 3 rfl
  have t4 := cell_is y2 4 rfl
  have e0 := unfrozen y2 0
  have e1 := unfrozen y2 1
  have e2 := unfrozen y2 2
  have e3 := unfrozen y2 3
  have e4 := unfrozen y2 4
  go_enter Tryz.func85, Tryz.ntmps85
  go_upto_region 1 with fail
  apply wp_scope_straight
  go_upto_region 2 with fail
  have v2 : (((((w0.setCell ⟨z + 1, 0, none⟩ (.int .i64 1)).setCell ⟨z + 1, 1, none⟩ (.int .i64 0)).setCell ⟨z + 1, 2, none⟩ (.int .i64 0)).setCell ⟨z + 1, 3, none⟩ (.int .i64 0)).setCell ⟨z + 1, 4, none⟩ (.slice none 0 0)).heap[z + 1]? = some (.cells #[.int .i64 1, .int .i64 0, .int .i64 0, .int .i64 0, .slice none 0 0] 66 (0, 0)) := (set5 _ _ _ _ _ y2).1
  have k2 := (set5 (.int .i64 1) (.int .i64 0) (.int .i64 0) (.int .i64 0) (.slice none 0 0) y2).2
  generalize ((((w0.setCell ⟨z + 1, 0, none⟩ (.int .i64 1)).setCell ⟨z + 1, 1, none⟩ (.int .i64 0)).setCell ⟨z + 1, 2, none⟩ (.int .i64 0)).setCell ⟨z + 1, 3, none⟩ (.int .i64 0)).setCell ⟨z + 1, 4, none⟩ (.slice none 0 0) = w1 at *
  have kk1 : Chg [] w w1 := kk.trans k2 (fun x hx hlt => by rw [List.mem_singleton] at hx; omega)
  have v1 := k2.heap y1 (by simp)
  clear z0 z1 z2 z3 z4 t0 t1 t2 t3 t4 e0 e1 e2 e3 e4
  have z0 := cell_is v1 0 rfl
  have t0 := cell_is v2 0 rfl
  have t1 := cell_is v2 1 rfl
  have t2 := cell_is v2 2 rfl
  have t3 := cell_is v2 3 rfl
  have t4 := cell_is v2 4 rfl
  have HCo := Lib.hid (HC w1 kk1)
  have HX := Lib.hid (And.intro v2 kk1)
  clear HC v2 kk1 v1 kk y1 y2 k2
  go_wp2_with fail
  refine HCo.out.mono ?_
  rintro e w3 ⟨rfl, cs, hp, hK, h66⟩
  have y31 := h66 _ _ HX.out.1
  have s0 := cell_is y31 0 rfl
  have s1 := cell_is y31 1 rfl
  have s2 := cell_is y31 2 rfl
  have s3 := cell_is y31 3 rfl
  have s4 := cell_is y31 4 rfl
  have e0 := unfrozen y31 0
  have e1 := unfrozen y31 1
  have e2 := unfrozen y31 2
  have e3 := unfrozen y31 3
  have e4 := unfrozen y31 4
  have HR := Lib.hid (And.intro hp (And.intro hK h66))
  clear hp hK h66 z0 t0 t1 t2 t3 t4
  go_wp2_with fail
  obtain ⟨y11, k11⟩ := set5 (.int .i64 x0) (.int .i64 x1) (.int .i64 x2) (.int .i64 x3) (.slice none 0 0) y31
  generalize ((((w3.setCell ⟨z + 1, 0, none⟩ (.int .i64 x0)).setCell ⟨z + 1, 1, none⟩ (.int .i64 x1)).setCell ⟨z + 1, 2, none⟩ (.int .i64 x2)).setCell ⟨z + 1, 3, none⟩ (.int .i64 x3)).setCell ⟨z + 1, 4, none⟩ (.slice none 0 0) = w6 at *
  have r0 := cell_is y11 0 rfl
  have r1 := cell_is y11 1 rfl
  have r2 := cell_is y11 2 rfl
  have r3 := cell_is y11 3 rfl
  have r4 := cell_is y11 4 rfl
  obtain ⟨hp, hK, h66⟩ := HR.out
  have tp : Tp w3 [z + 1] [66] := fun x hx => by
    rw [List.mem_singleton] at hx
    subst hx
    exact ⟨_, _, y31, by simp⟩
  simp only [Exit.noGoto]
  refine bodyPost_ret (v := .tuple #[.agg #[.int .i64 x0, .int .i64 x1, .int .i64 x2, .int .i64 x3, .slice none 0 0], .bool true]) (by simp [results, Tryz.results85, go_sem, r0, r1, r2, r3, r4]) rfl ?_
  refine ⟨rfl, cs, (hP cs).box hp k11 tp (fun x hx => by rw [List.mem_singleton] at hx; omega), k11.heap hK ?_, ((K66.of0 HX.out.2).trans h66).new k11 (fun x hx => by rw [List.mem_singleton] at hx; omega)⟩
  intro hm
  rw [List.mem_singleton] at hm
  exact heap_ne hK y31 (by simp) hm
theorem ty79 : Tryz.prog.underlying 79 = some (.slice 66) := by kernel_rfl
theorem inf66 : (Tryz.prog.info? 66).map (fun i => (i.zero, i.size, i.bytes)) = some (some (.agg #[.int .i64 0, .int .i64 0, .int .i64 0, .int .i64 0, .slice none 0 0]), 5, 56) := by kernel_rfl
/-- an answer is put behind a row of answers, as a step of a region that draws. -/
theorem step_append_ans {ops : Array Oper} {o : Oper} {a : Act} {w : World} {K : Act → World → Prop} {Q : Exit → Act → World → Prop} {E : Prop} (hgd : o.guard = none) (s x : Operand)
    (ho : o.op = .call { callee := .builtin .append, args := #[s, x], argTypes := #[79, 79] }) (base b c n : Nat) (v u0 u1 u2 u3 u4 : Value) (xs : List Value) (hs : a.eval s = v) (hown : w.ownsRow base 66 5 v n xs) (hbase : base ≤ w.heap.size) (hn : n ≤ 1000)
    (hx : a.eval x = .slice (some ⟨b, 0, none⟩) 1 c) (hb : w.heap[b]? = some (.cells #[u0, u1, u2, u3, u4] 66 (0, 0))) (h1 : u0.oneCell' = true ∧ u1.oneCell' = true ∧ u2.oneCell' = true ∧ u3.oneCell' = true ∧ u4.oneCell' = true)
    (h : ∀ g cap w', w'.ownsRow base 66 5 (.slice (some ⟨g, 0, none⟩) (n + 1) cap) (n + 1) (xs ++ [u0, u1, u2, u3, u4]) → Chg v.ownBlock.toList w w' → (v.ownBlock = some g ∨ g = w.heap.size) → K (a.put o.dst (.slice (some ⟨g, 0, none⟩) (n + 1) cap)) w') :
    if Region.wanted o (yielded ops a.tmps) = true then Oper.wp Tryz.prog o a w K Q else E := by
  obtain ⟨i, hi0, hz, hz1, hz2⟩ := info_parts inf66
  refine step_append_lies w hgd s x 79 ho base 66 i _ 5 56 ty79 hi0 hz hz1 hz2 rfl (by decide) v n xs hs hown ⟨b, 0, none⟩ 1 c [u0, u1, u2, u3, u4] hx rfl ?_ ?_ (by decide) (by unfold maxLen; omega) (by omega) hbase _ rfl ?_
  · intro j u hu
    rw [show (⟨b, 0, none⟩ : Addr).add j = ⟨b, 0 + j, none⟩ from by unfold Addr.add; split <;> simp_all, Nat.zero_add]
    exact cell_is hb j (by simpa using hu)
  · intro u hu
    simp at hu
    obtain ⟨h2, h3, h4, h5, h6⟩ := h1
    rcases hu with rfl | rfl | rfl | rfl | rfl <;> assumption
  · intro g cap w' h2 h3 h4 _
    exact h g cap w' h2 (Chg.of_grownO h3) h4
/-- the ops behind the first one. -/
def cutV (g o m c : Nat) : Value := .slice (if c = 1 then some ⟨g, o, none⟩ else some ⟨g, o + 5, none⟩) m (c - 1)
set_option maxRecDepth 100000 in
set_option maxHeartbeats 8000000 in
theorem step_told (w : World) {K P0 lw g o m c na : Nat} {P : Array Value → World → Prop} {cs : Array Value} {kind oh oa ol ev x0 x1 x2 x3 : Int} {pp : Option Addr} {pn pc : Nat} {av : Value} {xa : List Value} {q : Bool} (hlw : lw ≤ w.heap.size) (hKl : lw ≤ K) (hP : ∀ cs, Cl lw (P cs))
    (hB : SchB w K cs) (h1 : cs[1]? = some (.pointer (some ⟨P0, 0, none⟩))) (h2 : cs[2]? = some (.slice (some ⟨g, o, none⟩) (m + 1) c)) (h35 : cs[35]? = some (.int .i64 ev)) (hev : 0 ≤ ev ∧ ev ≤ 1000000) (_hc : m + 1 ≤ c)
    (u0 : w.cell? ⟨g, o, none⟩ = some (.int .i64 kind)) (u1 : w.cell? ⟨g, o + 1, none⟩ = some (.int .i64 oh)) (u2 : w.cell? ⟨g, o + 2, none⟩ = some (.int .i64 oa)) (u3 : w.cell? ⟨g, o + 3, none⟩ = some (.int .i64 ol)) (u4 : w.cell? ⟨g, o + 4, none⟩ = some (.slice pp pn pc)) (hgK : g ≠ K)
    (HD : ∀ wx, Chg [K] w wx → SchB wx K (cs.setIfInBounds 35 (.int .i64 (ev + 1))) → Calls Tryz.prog 85 #[.pointer (some ⟨K, 0, none⟩), .pointer (some ⟨K, 2, none⟩), .agg #[.int .i64 kind, .int .i64 oh, .int .i64 oa, .int .i64 ol, .slice pp pn pc]] wx (DoR wx K P x0 x1 x2 x3 true))
    (hQ : ∀ cs2 w2, P cs2 w2 → cs2[2]? = some (.slice (some ⟨g, o, none⟩) (m + 1) c) ∧ cs2[4]? = some av ∧ cs2[5]? = some (.bool q)) (hav : w.ownsRow lw 66 5 av na xa) (hna : na ≤ 900) :
    Calls Tryz.prog 35 #[.pointer (some ⟨K, 0, none⟩), .int .i64 1] w fun e w' => e = .returned (.tuple #[.agg #[.int .i64 x0, .int .i64 x1, .int .i64 x2, .int .i64 x3, .slice none 0 0], .int .i64 0]) ∧ ∃ av' cs2, P cs2 w' ∧
      SchB w' K (((cs2.setIfInBounds 2 (cutV g o m c)).setIfInBounds 5 (.bool false)).setIfInBounds 4 av') ∧ w'.ownsRow lw 66 5 av' (na + 1) (xa ++ [.int .i64 x0, .int .i64 x1, .int .i64 x2, .int .i64 x3, .slice none 0 0]) := by
  have k0 : Chg [] w (w.alloc (.cells #[.int .i64 0, .int .i64 0, .int .i64 0, .int .i64 0, .slice none 0 0] 66)) := Chg.alloc w _
  have y0 := heap_new w (.cells #[.int .i64 0, .int .i64 0, .int .i64 0, .int .i64 0, .slice none 0 0] 66)
  generalize hw0 : w.alloc (.cells #[.int .i64 0, .int .i64 0, .int .i64 0, .int .i64 0, .slice none 0 0] 66) = w0 at *
  generalize hz : w.heap.size = z at *
  have hKz : K < z := by rw [← hz]; exact heap_lt hB
  have hzl := heap_lt y0
  have B0 : SchB w0 K cs := k0.heap hB (by simp)
  have HCl : Hid (Calls Tryz.prog 83 #[.pointer (some ⟨K, 0, none⟩), .int .i64 1] w0 fun e w' => e = .returned (.pointer (some ⟨K, 2, none⟩)) ∧ w0 = w') := Lib.hid (client_in w0 B0 h1 ⟨by decide, by decide⟩)
  have c35 := cell_is B0 35 h35
  have f35 := unfrozen B0 35
  have n1 : IntKind.i64.wrap (ev + 1) = ev + 1 := by rw [IntKind.wrap_i64]; omega
  have hs35 : 35 < cs.size := (Array.getElem?_eq_some_iff.1 h35).1
  have HQ0 := Lib.hid (And.intro h2 (And.intro hQ hna))
  have HU := Lib.hid (And.intro u0 (And.intro u1 (And.intro u2 (And.intro u3 u4))))
  have HDo := Lib.hid HD
  have HZo := Lib.hid (show ∀ g', av.ownBlock = some g' → g' < z from fun g' hg' => by
    obtain ⟨-, cur, hh⟩ := own_elem hav hg'
    rw [← hz]
    exact heap_lt hh)
  have HB := Lib.hid (And.intro hB (And.intro k0 (And.intro y0 (And.intro B0 hav))))
  clear hB h1 h35 u0 u1 u2 u3 u4 HD hQ hav k0 y0 B0 h2
  go_enter Tryz.func35, Tryz.ntmps35
  go_wp2_with fail
  refine HCl.out.mono ?_
  rintro e w1 ⟨rfl, rfl⟩
  go_upto_region 5 with fail
  obtain ⟨hB, k0, y0, B0, hav⟩ := HB.out
  have B1 : SchB (w0.setCell ⟨K, 35, none⟩ (.int .i64 (ev + 1))) K (cs.setIfInBounds 35 (.int .i64 (ev + 1))) := heap_set B0 35 _ rfl
  have k1 : Chg [K] w0 (w0.setCell ⟨K, 35, none⟩ (.int .i64 (ev + 1))) := Chg.set _ _ _ _
  generalize w0.setCell ⟨K, 35, none⟩ (.int .i64 (ev + 1)) = w1 at *
  have k01 : Chg [K] w w1 := (k0.mono (fun x hx _ => by cases hx)).then k1
  have y1 := k1.heap y0 (by simp; omega)
  have c2 : w1.cell? ⟨K, 2, none⟩ = some (.slice (some ⟨g, o, none⟩) (m + 1) c) := cell_is B1 2 (by rw [Array.getElem?_setIfInBounds_ne (by decide)]; exact HQ0.out.1)
  have u0 := k01.cell HU.out.1 (by simpa using hgK)
  have u1 := k01.cell HU.out.2.1 (by simpa using hgK)
  have u2 := k01.cell HU.out.2.2.1 (by simpa using hgK)
  have u3 := k01.cell HU.out.2.2.2.1 (by simpa using hgK)
  have u4 := k01.cell HU.out.2.2.2.2 (by simpa using hgK)
  have n2 : decide (((m + 1 : Nat) : Int) = 0) = false := decide_eq_false (by omega)
  have n3 : decide ((m : Int) + 1 = 0) = false := decide_eq_false (by omega)
  have n4 : ¬ ((m : Int) + 1 = 0) := by omega
  have HD1 := Lib.hid (HDo.out w1 k01 B1)
  have HX1 := Lib.hid (And.intro y1 (own_chgB hav k01 (fun g' hg' hm => by
    rw [List.mem_singleton] at hm
    subst hm
    obtain ⟨-, cur, hh⟩ := own_elem hav hg'
    rw [show w.heap[_]? = _ from hB] at hh
    cases hh)))
  clear hB k0 y0 B0 hav B1 k1 y1 c35 f35 n1 HB HDo HCl
  go_wp2_with fail
  refine HD1.out.mono ?_
  rintro e w2 ⟨rfl, cs2, hp, hK2, h66⟩
  have hq2 := HQ0.out.2.1 cs2 w2 hp
  have HQ := Lib.hid (And.intro HQ0.out.1 (And.intro hq2.1 (And.intro hq2.2.1 (And.intro hq2.2.2 HQ0.out.2.2))))
  clear hq2
  have HX2 := Lib.hid (And.intro hp (And.intro hK2 (And.intro (h66 _ _ HX1.out.1) (own_k66 HX1.out.2 h66))))
  have hs12 : z < w2.heap.size := by have := heap_lt (h66 _ _ HX1.out.1); exact this
  clear hp hK2 h66 c2 u0 u1 u2 u3 u4 n2 n3 n4
  go_upto_region 11 with fail
  obtain ⟨hp, hK2, y2, hav2⟩ := HX2.out
  have k3 : Chg [] w2 (w2.alloc (.cells #[.int .i64 x0, .int .i64 x1, .int .i64 x2, .int .i64 x3, .slice none 0 0] 66)) := Chg.alloc w2 _
  have b3 := heap_new w2 (.cells #[.int .i64 x0, .int .i64 x1, .int .i64 x2, .int .i64 x3, .slice none 0 0] 66)
  generalize w2.alloc (.cells #[.int .i64 x0, .int .i64 x1, .int .i64 x2, .int .i64 x3, .slice none 0 0] 66) = w3 at *
  generalize hzb : w2.heap.size = zb at *
  have B3 : SchB w3 K cs2 := k3.heap hK2 (by simp)
  have y3 := k3.heap y2 (by simp)
  have hp3 := (hP cs2).box hp k3 (fun x hx => by cases hx) (fun x hx => by cases hx)
  have hav3 := own_keep hav2 k3.below0
  have hKb : K < zb := by rw [← hzb]; exact heap_lt hK2
  have c2 := cell_is B3 2 HQ.out.2.1
  have c5 := cell_is B3 5 HQ.out.2.2.2.1
  have f2 := unfrozen B3 2
  have f5 := unfrozen B3 5
  clear hp hK2 y2 hav2 k3 HX2
  go_upto_region 12 with fail
  have hcut : cutV g o m c = .slice (if c = 1 then some ⟨g, o, none⟩ else some ⟨g, o + 5, none⟩) m (c - 1) := rfl
  generalize (if c = 1 then some (⟨g, o, none⟩ : Addr) else some ⟨g, o + 5, none⟩) = pq at *
  have HCut := Lib.hid hcut
  clear hcut
  have B4 : SchB ((w3.setCell ⟨K, 2, none⟩ (.slice pq m (c - 1))).setCell ⟨K, 5, none⟩ (.bool false)) K ((cs2.setIfInBounds 2 (.slice pq m (c - 1))).setIfInBounds 5 (.bool false)) := heap_set (heap_set B3 2 _ rfl) 5 _ rfl
  have k4 : Chg [K] w3 ((w3.setCell ⟨K, 2, none⟩ (.slice pq m (c - 1))).setCell ⟨K, 5, none⟩ (.bool false)) := (Chg.set _ _ _ _).then (Chg.set _ _ _ _)
  generalize (w3.setCell ⟨K, 2, none⟩ (.slice pq m (c - 1))).setCell ⟨K, 5, none⟩ (.bool false) = w4 at *
  have tpK : Tp w3 [K] [149, 66] := fun x hx => by
    rw [List.mem_singleton] at hx
    subst hx
    exact ⟨_, _, B3, by simp⟩
  have hp4 := (hP cs2).keep _ _ _ hp3 k4 tpK (fun x hx => by rw [List.mem_singleton] at hx; omega)
  have y4 := k4.heap y3 (by simp; omega)
  have b4 := k4.heap b3 (by simp; omega)
  have hav4 := own_chgB hav3 k4 (fun g' hg' hm => by
    rw [List.mem_singleton] at hm
    subst hm
    obtain ⟨-, cur, hh⟩ := own_elem hav3 hg'
    rw [show w3.heap[_]? = _ from B3] at hh
    cases hh)
  obtain ⟨pa, ca, rfl, hca⟩ := own_form hav4
  have e24 : (((cs2.setIfInBounds 2 (Value.slice pq m (c - 1))).setIfInBounds 5 (.bool false))[4]? = some (.slice pa na ca)) := by
    rw [Array.getElem?_setIfInBounds_ne (by decide), Array.getElem?_setIfInBounds_ne (by decide)]
    exact HQ.out.2.2.1
  have HB4 := Lib.hid (And.intro B4 (And.intro hp4 (And.intro y4 (And.intro b4 (And.intro hav4 e24)))))
  have s4 : w4.cell? ⟨K, 4, none⟩ = some (.slice pa na ca) := cell_is B4 4 e24
  have s4d : w4.drew.cell? ⟨K, 4, none⟩ = some (.slice pa na ca) := s4
  have d0 := cell_is b4 0 rfl
  have d1 := cell_is b4 1 rfl
  have d2 := cell_is b4 2 rfl
  have d3 := cell_is b4 3 rfl
  have d4 := cell_is b4 4 rfl
  have d0d : w4.drew.cell? ⟨zb, 0, none⟩ = some (.int .i64 x0) := d0
  have d1d : w4.drew.cell? ⟨zb, 1, none⟩ = some (.int .i64 x1) := d1
  have d2d : w4.drew.cell? ⟨zb, 2, none⟩ = some (.int .i64 x2) := d2
  have d3d : w4.drew.cell? ⟨zb, 3, none⟩ = some (.int .i64 x3) := d3
  have d4d : w4.drew.cell? ⟨zb, 4, none⟩ = some (.slice none 0 0) := d4
  have kA : Chg [] w4 (w4.alloc (.cells #[.int .i64 x0, .int .i64 x1, .int .i64 x2, .int .i64 x3, .slice none 0 0] 66)).drew := (Chg.alloc w4 _).drew
  have yA : (w4.alloc (.cells #[.int .i64 x0, .int .i64 x1, .int .i64 x2, .int .i64 x3, .slice none 0 0] 66)).drew.heap[w4.heap.size]? = _ := heap_new w4 (.cells #[.int .i64 x0, .int .i64 x1, .int .i64 x2, .int .i64 x3, .slice none 0 0] 66)
  have sA := kA.cell s4 (by simp)
  have BA := kA.heap B4 (by simp)
  have oA := own_keep hav4 kA.below0
  have hlA : lw ≤ (w4.alloc (.cells #[.int .i64 x0, .int .i64 x1, .int .i64 x2, .int .i64 x3, .slice none 0 0] 66)).drew.heap.size := by have := kA.size; have := heap_lt y4; omega
  have hna := HQ.out.2.2.2.2
  clear B4 hp4 y4 b4 hav4 e24 k4 hp3 y3 b3 hav3 B3 c2 c5 f2 f5 tpK
  go_region_law
    (first
      | (refine step_append_ans rfl (.tmp 62) (.tmp 64) rfl lw w4.heap.size 1 na (.slice pa na ca) _ _ _ _ _ xa rfl oA hlA (by omega) rfl yA ⟨rfl, rfl, rfl, rfl, rfl⟩ ?_; intro g7 c7 w7 o7 k7 n7; have B7 : SchB w7 K _ := k7.heap BA (own_not oA BA (by decide)); have s8 := cell_is B7 4 HB4.out.2.2.2.2.2; have f8 := unfrozen B7 4))
  all_goals
    obtain ⟨B4, hp4, y4, b4, hav4, e24⟩ := HB4.out
    have B8 : SchB (w7.setCell ⟨K, 4, none⟩ (.slice (some ⟨g7, 0, none⟩) (na + 1) c7)) K (((cs2.setIfInBounds 2 (.slice pq m (c - 1))).setIfInBounds 5 (.bool false)).setIfInBounds 4 (.slice (some ⟨g7, 0, none⟩) (na + 1) c7)) := heap_set B7 4 _ rfl
    have ks8 : Chg [K] w7 (w7.setCell ⟨K, 4, none⟩ (.slice (some ⟨g7, 0, none⟩) (na + 1) c7)) := Chg.set _ _ _ _
    generalize w7.setCell ⟨K, 4, none⟩ (.slice (some ⟨g7, 0, none⟩) (na + 1) c7) = w8 at *
    have o8 := own_chgB o7 ks8 (fun g' hg' hm => by
      rw [List.mem_singleton] at hm
      subst hm
      obtain ⟨-, cur, hh⟩ := own_elem o7 hg'
      rw [show w7.heap[_]? = _ from B7] at hh
      cases hh)
    have k48 : Chg (K :: (Value.slice pa na ca).ownBlock.toList) w4 w8 := ((kA.mono (fun x hx _ => by cases hx)).then (k7.mono (fun x hx _ => List.mem_cons_of_mem _ hx))).then (ks8.mono (fun x hx _ => by simp at hx; simp [hx]))
    have tp4 : Tp w4 (K :: (Value.slice pa na ca).ownBlock.toList) [149, 66] := fun x hx => by
      rcases List.mem_cons.1 hx with rfl | hx
      · exact ⟨_, _, B4, by simp⟩
      · obtain ⟨-, cur, hh⟩ := own_elem hav4 (show (Value.slice pa na ca).ownBlock = some x by simpa using hx)
        exact ⟨_, _, hh, by simp⟩
    have hp8 := (hP cs2).keep _ _ _ hp4 k48 tp4 (fun x hx => by
      rcases List.mem_cons.1 hx with rfl | hx
      · exact hKl
      · exact (own_elem hav4 (show (Value.slice pa na ca).ownBlock = some x by simpa using hx)).1)
    have nin : ∀ x, K < x → z ≤ x → x ∉ K :: (Value.slice pa na ca).ownBlock.toList := fun x h1 h2 hx => by
      rcases List.mem_cons.1 hx with e | hx
      · omega
      · have := HZo.out x (by simpa using hx)
        omega
    have y8 := k48.heap y4 (nin z hKz (Nat.le_refl _))
    have b8 := k48.heap b4 (nin zb hKb (by omega))
    have hsz8 := k48.size
    have hg7z : g7 ≠ z := by
      rcases n7 with h | h
      · have := HZo.out g7 h
        omega
      · have h1 := heap_lt y4
        have h2 := kA.size
        have h' : g7 = (w4.alloc (.cells #[.int .i64 x0, .int .i64 x1, .int .i64 x2, .int .i64 x3, .slice none 0 0] 66)).drew.heap.size := h
        omega
    clear B4 hp4 y4 b4 hav4 e24 HB4 o7 k7 n7 B7 s8 f8 kA yA sA BA oA hlA s4 s4d d0 d1 d2 d3 d4 d0d d1d d2d d3d d4d k48 tp4 ks8
    have d0 := cell_is b8 0 rfl
    have d1 := cell_is b8 1 rfl
    have d2 := cell_is b8 2 rfl
    have d3 := cell_is b8 3 rfl
    have d4 := cell_is b8 4 rfl
    have HK8 := Lib.hid (And.intro B8 (And.intro hp8 o8))
    clear B8 hp8 o8
    go_wp2_with fail
    refine (kept_nil w8).mono ?_
    rintro e w9 ⟨rfl, k9⟩
    have y9 := k9.heap y8 (by simp)
    have t0 := cell_is y9 0 rfl
    have t1 := cell_is y9 1 rfl
    have t2 := cell_is y9 2 rfl
    have t3 := cell_is y9 3 rfl
    have t4 := cell_is y9 4 rfl
    have e0 := unfrozen y9 0
    have e1 := unfrozen y9 1
    have e2 := unfrozen y9 2
    have e3 := unfrozen y9 3
    have e4 := unfrozen y9 4
    go_wp2_with fail
    obtain ⟨y11, k11⟩ := set5 (.int .i64 x0) (.int .i64 x1) (.int .i64 x2) (.int .i64 x3) (.slice none 0 0) y9
    generalize ((((w9.setCell ⟨z, 0, none⟩ (.int .i64 x0)).setCell ⟨z, 1, none⟩ (.int .i64 x1)).setCell ⟨z, 2, none⟩ (.int .i64 x2)).setCell ⟨z, 3, none⟩ (.int .i64 x3)).setCell ⟨z, 4, none⟩ (.slice none 0 0) = w10 at *
    have r0 := cell_is y11 0 rfl
    have r1 := cell_is y11 1 rfl
    have r2 := cell_is y11 2 rfl
    have r3 := cell_is y11 3 rfl
    have r4 := cell_is y11 4 rfl
    obtain ⟨B8, hp8, o8⟩ := HK8.out
    have kf : Chg [z] w8 w10 := (k9.mono (fun x hx _ => by cases hx)).then k11
    have tp8 : Tp w8 [z] [66] := fun x hx => by
      rw [List.mem_singleton] at hx
      subst hx
      exact ⟨_, _, y8, by simp⟩
    refine bodyPost_ret (v := .tuple #[.agg #[.int .i64 x0, .int .i64 x1, .int .i64 x2, .int .i64 x3, .slice none 0 0], .int .i64 0]) (by simp [results, Tryz.results35, go_sem, r0, r1, r2, r3, r4]) rfl ?_
    refine ⟨rfl, _, cs2, (hP cs2).box hp8 kf tp8 (fun x hx => by rw [List.mem_singleton] at hx; omega), (by rw [HCut.out]; exact kf.heap B8 (by intro hm; rw [List.mem_singleton] at hm; omega)), own_chgB o8 kf (fun g' hg' hm => ?_)⟩
    rw [List.mem_singleton] at hm
    cases hg'
    exact hg7z hm
end Go.Proofs.YtkhionhicegfmaaGreat
namespace Go.Proofs.YtkhionhicegfmaaGreat
open Go.RowKit Go.Lib

set_option maxRecDepth 100000 in
set_option maxHeartbeats 8000000 in
theorem step_wait (w : World) {K P0 lw g o m c : Nat} {P : Array Value → World → Prop} {cs : Array Value} {kind oh oa ol ev x0 x1 x2 x3 : Int} {pp : Option Addr} {pn pc : Nat} {q : Bool} (hlw : lw ≤ w.heap.size) (hKl : lw ≤ K) (hP : ∀ cs, Cl lw (P cs))
    (hB : SchB w K cs) (h1 : cs[1]? = some (.pointer (some ⟨P0, 0, none⟩))) (h2 : cs[2]? = some (.slice (some ⟨g, o, none⟩) (m + 1) c)) (h35 : cs[35]? = some (.int .i64 ev)) (hev : 0 ≤ ev ∧ ev ≤ 1000000) (_hc : m + 1 ≤ c)
    (u0 : w.cell? ⟨g, o, none⟩ = some (.int .i64 kind)) (u1 : w.cell? ⟨g, o + 1, none⟩ = some (.int .i64 oh)) (u2 : w.cell? ⟨g, o + 2, none⟩ = some (.int .i64 oa)) (u3 : w.cell? ⟨g, o + 3, none⟩ = some (.int .i64 ol)) (u4 : w.cell? ⟨g, o + 4, none⟩ = some (.slice pp pn pc)) (hgK : g ≠ K)
    (HD : ∀ wx, Chg [K] w wx → SchB wx K (cs.setIfInBounds 35 (.int .i64 (ev + 1))) → Calls Tryz.prog 85 #[.pointer (some ⟨K, 0, none⟩), .pointer (some ⟨K, 2, none⟩), .agg #[.int .i64 kind, .int .i64 oh, .int .i64 oa, .int .i64 ol, .slice pp pn pc]] wx (DoR wx K P x0 x1 x2 x3 false))
    (hQ : ∀ cs2 w2, P cs2 w2 → cs2[5]? = some (.bool q)) :
    Calls Tryz.prog 35 #[.pointer (some ⟨K, 0, none⟩), .int .i64 1] w fun e w' => e = .returned (.tuple #[.agg #[.int .i64 0, .int .i64 0, .int .i64 0, .int .i64 0, .slice none 0 0], .int .i64 16]) ∧ ∃ cs2, P cs2 w' ∧ SchB w' K (cs2.setIfInBounds 5 (.bool true)) ∧ K66 w w' := by
  have k0 : Chg [] w (w.alloc (.cells #[.int .i64 0, .int .i64 0, .int .i64 0, .int .i64 0, .slice none 0 0] 66)) := Chg.alloc w _
  have y0 := heap_new w (.cells #[.int .i64 0, .int .i64 0, .int .i64 0, .int .i64 0, .slice none 0 0] 66)
  generalize hw0 : w.alloc (.cells #[.int .i64 0, .int .i64 0, .int .i64 0, .int .i64 0, .slice none 0 0] 66) = w0 at *
  generalize hz : w.heap.size = z at *
  have hKz : K < z := by rw [← hz]; exact heap_lt hB
  have hzl := heap_lt y0
  have B0 : SchB w0 K cs := k0.heap hB (by simp)
  have HCl : Hid (Calls Tryz.prog 83 #[.pointer (some ⟨K, 0, none⟩), .int .i64 1] w0 fun e w' => e = .returned (.pointer (some ⟨K, 2, none⟩)) ∧ w0 = w') := Lib.hid (client_in w0 B0 h1 ⟨by decide, by decide⟩)
  have c35 := cell_is B0 35 h35
  have f35 := unfrozen B0 35
  have n1 : IntKind.i64.wrap (ev + 1) = ev + 1 := by rw [IntKind.wrap_i64]; omega
  have hs35 : 35 < cs.size := (Array.getElem?_eq_some_iff.1 h35).1
  have HQ0 := Lib.hid (And.intro h2 hQ)
  have HU := Lib.hid (And.intro u0 (And.intro u1 (And.intro u2 (And.intro u3 u4))))
  have HDo := Lib.hid HD
  have HB := Lib.hid (And.intro hB (And.intro k0 (And.intro y0 B0)))
  clear hB h1 h35 u0 u1 u2 u3 u4 HD hQ k0 y0 B0 h2
  go_enter Tryz.func35, Tryz.ntmps35
  go_wp2_with fail
  refine HCl.out.mono ?_
  rintro e w1 ⟨rfl, rfl⟩
  go_upto_region 5 with fail
  obtain ⟨hB, k0, y0, B0⟩ := HB.out
  have kw0 : K66 w w0 := K66.of0 k0
  have B1 : SchB (w0.setCell ⟨K, 35, none⟩ (.int .i64 (ev + 1))) K (cs.setIfInBounds 35 (.int .i64 (ev + 1))) := heap_set B0 35 _ rfl
  have k1 : Chg [K] w0 (w0.setCell ⟨K, 35, none⟩ (.int .i64 (ev + 1))) := Chg.set _ _ _ _
  generalize w0.setCell ⟨K, 35, none⟩ (.int .i64 (ev + 1)) = w1 at *
  have k01 : Chg [K] w w1 := (k0.mono (fun x hx _ => by cases hx)).then k1
  have y1 := k1.heap y0 (by simp; omega)
  have c2 : w1.cell? ⟨K, 2, none⟩ = some (.slice (some ⟨g, o, none⟩) (m + 1) c) := cell_is B1 2 (by rw [Array.getElem?_setIfInBounds_ne (by decide)]; exact HQ0.out.1)
  have u0 := k01.cell HU.out.1 (by simpa using hgK)
  have u1 := k01.cell HU.out.2.1 (by simpa using hgK)
  have u2 := k01.cell HU.out.2.2.1 (by simpa using hgK)
  have u3 := k01.cell HU.out.2.2.2.1 (by simpa using hgK)
  have u4 := k01.cell HU.out.2.2.2.2 (by simpa using hgK)
  have n2 : decide (((m + 1 : Nat) : Int) = 0) = false := decide_eq_false (by omega)
  have n3 : decide ((m : Int) + 1 = 0) = false := decide_eq_false (by omega)
  have n4 : ¬ ((m : Int) + 1 = 0) := by omega
  have HD1 := Lib.hid (HDo.out w1 k01 B1)
  have kw1 : K66 w w1 := fun x cs3 hx => k1.heap (kw0 x cs3 hx) (by
    intro hm
    rw [List.mem_singleton] at hm
    subst hm
    have := kw0 x cs3 hx
    rw [show w0.heap[_]? = _ from B0] at this
    cases this)
  have HX1 := Lib.hid (And.intro y1 kw1)
  clear hB k0 y0 B0 kw0 kw1 B1 k1 y1 c35 f35 n1 HB HDo HCl
  go_wp2_with fail
  refine HD1.out.mono ?_
  rintro e w2 ⟨rfl, cs2, hp, hK2, h66⟩
  have HQ := Lib.hid (And.intro HQ0.out.1 (HQ0.out.2 cs2 w2 hp))
  have y2 := h66 _ _ HX1.out.1
  have hs12 : z < w2.heap.size := heap_lt y2
  have kw2 := HX1.out.2.trans h66
  have k3 : Chg [] w2 (w2.alloc (.cells #[.int .i64 x0, .int .i64 x1, .int .i64 x2, .int .i64 x3, .slice none 0 0] 66)) := Chg.alloc w2 _
  have B3 : SchB (w2.alloc (.cells #[.int .i64 x0, .int .i64 x1, .int .i64 x2, .int .i64 x3, .slice none 0 0] 66)) K cs2 := k3.heap hK2 (by simp)
  have y3 := k3.heap y2 (by simp)
  have HX2 := Lib.hid (And.intro hp (And.intro hK2 (And.intro y2 (And.intro kw2 (And.intro k3 (And.intro B3 y3))))))
  clear hp hK2 h66 c2 u0 u1 u2 u3 u4 n2 n3 n4 y2 kw2 k3 B3 y3
  go_upto_region 8 with fail
  obtain ⟨hp, hK2, y2, kw2, k3, B3, y3⟩ := HX2.out
  generalize w2.alloc (.cells #[.int .i64 x0, .int .i64 x1, .int .i64 x2, .int .i64 x3, .slice none 0 0] 66) = w3 at *
  have hp3 := (hP cs2).box hp k3 (fun x hx => by cases hx) (fun x hx => by cases hx)
  have kw3 := kw2.trans (K66.of0 k3)
  have c5 := cell_is B3 5 HQ.out.2
  have f5 := unfrozen B3 5
  have B4 : SchB (w3.setCell ⟨K, 5, none⟩ (.bool true)) K (cs2.setIfInBounds 5 (.bool true)) := heap_set B3 5 _ rfl
  have k4 : Chg [K] w3 (w3.setCell ⟨K, 5, none⟩ (.bool true)) := Chg.set _ _ _ _
  have HX4 := Lib.hid (And.intro hp3 (And.intro kw3 (And.intro B4 (And.intro k4 (And.intro B3 y3)))))
  clear hp hK2 y2 kw2 k3 HX2 hp3 kw3 B4 k4 y3
  go_upto_region 10 with fail
  obtain ⟨hp3, kw3, B4, k4, B3', y3⟩ := HX4.out
  generalize w3.setCell ⟨K, 5, none⟩ (.bool true) = w4 at *
  have hp4 := (hP cs2).keep _ _ _ hp3 k4 (fun x hx => by
    rw [List.mem_singleton] at hx
    subst hx
    exact ⟨_, _, B3, by simp⟩) (fun x hx => by rw [List.mem_singleton] at hx; omega)
  have kw4 : K66 w w4 := fun x cs3 hx => k4.heap (kw3 x cs3 hx) (by
    intro hm
    rw [List.mem_singleton] at hm
    subst hm
    have := kw3 x cs3 hx
    rw [show w3.heap[_]? = _ from B3] at this
    cases this)
  have y4 := k4.heap y3 (by simp; omega)
  have t0 := cell_is y4 0 rfl
  have t1 := cell_is y4 1 rfl
  have t2 := cell_is y4 2 rfl
  have t3 := cell_is y4 3 rfl
  have t4 := cell_is y4 4 rfl
  have e0 := unfrozen y4 0
  have e1 := unfrozen y4 1
  have e2 := unfrozen y4 2
  have e3 := unfrozen y4 3
  have e4 := unfrozen y4 4
  have HX5 := Lib.hid (And.intro hp4 (And.intro kw4 (And.intro B4 y4)))
  clear hp3 kw3 B4 k4 B3' y3 hp4 kw4 y4 HX4 c5 f5 B3
  go_wp2_with fail
  obtain ⟨hp4, kw4, B4, y4⟩ := HX5.out
  obtain ⟨y11, k11⟩ := set5 (.int .i64 0) (.int .i64 0) (.int .i64 0) (.int .i64 0) (.slice none 0 0) y4
  generalize ((((w4.setCell ⟨z, 0, none⟩ (.int .i64 0)).setCell ⟨z, 1, none⟩ (.int .i64 0)).setCell ⟨z, 2, none⟩ (.int .i64 0)).setCell ⟨z, 3, none⟩ (.int .i64 0)).setCell ⟨z, 4, none⟩ (.slice none 0 0) = w10 at *
  have r0 := cell_is y11 0 rfl
  have r1 := cell_is y11 1 rfl
  have r2 := cell_is y11 2 rfl
  have r3 := cell_is y11 3 rfl
  have r4 := cell_is y11 4 rfl
  have tp8 : Tp w4 [z] [66] := fun x hx => by
    rw [List.mem_singleton] at hx
    subst hx
    exact ⟨_, _, y4, by simp⟩
  refine bodyPost_ret (v := .tuple #[.agg #[.int .i64 0, .int .i64 0, .int .i64 0, .int .i64 0, .slice none 0 0], .int .i64 16]) (by simp [results, Tryz.results35, go_sem, r0, r1, r2, r3, r4]) rfl ?_
  exact ⟨rfl, cs2, (hP cs2).box hp4 k11 tp8 (fun x hx => by rw [List.mem_singleton] at hx; omega), k11.heap B4 (by intro hm; rw [List.mem_singleton] at hm; omega), kw4.new k11 (fun x hx => by rw [List.mem_singleton] at hx; omega)⟩
set_option maxRecDepth 100000 in
set_option maxHeartbeats 4000000 in
theorem sched_flush (w : World) {K P0 : Nat} {cs : Array Value} {ev r : Int} {Q : World → Prop} (hB : SchB w K cs) (h1 : cs[1]? = some (.pointer (some ⟨P0, 0, none⟩))) (h35 : cs[35]? = some (.int .i64 ev)) (hev : 0 ≤ ev ∧ ev ≤ 1000000)
    (HF : ∀ wx, Chg [K] w wx → SchB wx K (cs.setIfInBounds 35 (.int .i64 (ev + 1))) → Calls Tryz.prog 20 #[.pointer (some ⟨P0, 0, none⟩)] wx fun e w' => e = .returned (.int .i64 r) ∧ Q w') :
    Calls Tryz.prog 38 #[.pointer (some ⟨K, 0, none⟩)] w fun e w' => e = .returned (.int .i64 r) ∧ Q w' := by
  have HG := Lib.hid (sgone_any w hB h1)
  have c35 := cell_is hB 35 h35
  have f35 := unfrozen hB 35
  have n1 : IntKind.i64.wrap (ev + 1) = ev + 1 := by rw [IntKind.wrap_i64]; omega
  have B1 : SchB (w.setCell ⟨K, 35, none⟩ (.int .i64 (ev + 1))) K (cs.setIfInBounds 35 (.int .i64 (ev + 1))) := heap_set hB 35 _ rfl
  have k1 : Chg [K] w (w.setCell ⟨K, 35, none⟩ (.int .i64 (ev + 1))) := Chg.set _ _ _ _
  have c1 := cell_is B1 1 (show (cs.setIfInBounds 35 (.int .i64 (ev + 1)))[1]? = _ from by rw [Array.getElem?_setIfInBounds_ne (by decide)]; exact h1)
  have HFl := Lib.hid (HF _ k1 B1)
  clear hB h1 h35 B1 k1 HF
  go_enter Tryz.func38, Tryz.ntmps38
  go_wp2_with fail
  refine HG.out.mono ?_
  rintro e w1 ⟨rfl, rfl⟩
  go_upto_region 4 with fail
  generalize w.setCell ⟨K, 35, none⟩ (.int .i64 (ev + 1)) = w2 at *
  go_wp2_with fail
  refine HFl.out.mono ?_
  rintro e w3 ⟨rfl, hq⟩
  have HQ := Lib.hid hq
  clear hq
  go_wp2_with fail
  go_ret
  exact ⟨rfl, HQ.out⟩
end Go.Proofs.YtkhionhicegfmaaGreat
namespace Go.Proofs.YtkhionhicegfmaaGreat
open Go.RowKit Go.Lib

/-- what changes lies at lw or behind it. -/
def Up (lw : Nat) (w w' : World) : Prop := ∃ U, Chg U w w' ∧ ∀ x ∈ U, x < w.heap.size → lw ≤ x
theorem Up.of0 {lw : Nat} {w w' : World} (h : Chg [] w w') : Up lw w w' := ⟨[], h, fun x hx => by cases hx⟩
theorem Up.of_lo {lw : Nat} {w w' : World} (h : Lo lw w w') : Up lw w w' := by
  obtain ⟨U, h1, h2⟩ := h
  exact ⟨U, h1, fun x hx hl => (h2 x hx hl).1⟩
theorem Up.of_ow {base lw : Nat} {w w' : World} (h : Ow base w w') (hb : lw ≤ base) : Up lw w w' := by
  obtain ⟨U, h1, h2⟩ := h
  exact ⟨U, h1, fun x hx _ => Nat.le_trans hb (h2 x hx).1⟩
theorem Up.then {lw : Nat} {a b c : World} {S : List Nat} (h : Up lw a b) (k : Chg S b c) (hS : ∀ x ∈ S, x < b.heap.size → lw ≤ x) : Up lw a c := by
  obtain ⟨U, h1, h2⟩ := h
  refine ⟨U ++ S, (h1.mono (fun x hx _ => List.mem_append_left _ hx)).trans k (fun x hx _ => List.mem_append_right _ hx), fun x hx hlt => ?_⟩
  rcases List.mem_append.1 hx with h | h
  · exact h2 x h hlt
  · exact hS x h (Nat.lt_of_lt_of_le hlt h1.size)
theorem Up.trans {lw : Nat} {a b c : World} (h : Up lw a b) (k : Up lw b c) : Up lw a c := by
  obtain ⟨S, k1, k2⟩ := k
  exact h.then k1 k2
theorem Up.chg0 {lw : Nat} {w0 w w' : World} (h : Chg [] w0 w) (k : Up lw w w') (hl : w0.heap.size ≤ lw) : Chg [] w0 w' := by
  obtain ⟨U, k1, k2⟩ := k
  exact h.trans k1 (fun x hx hlt => by have := k2 x hx (Nat.lt_of_lt_of_le hlt h.size); omega)
/-- the three ops of the law, in a row of their own. -/
structure OpW (w : World) (lw g E D : Nat) (cE cD : Nat) (r : List UInt8) : Prop where
  row : ∃ cur, w.heap[g]? = some (.cells cur 64 (0, 0)) ∧ cur[0]? = some (.int .i64 1) ∧ cur[1]? = some (.int .i64 0) ∧ cur[2]? = some (.int .i64 0) ∧ cur[3]? = some (.int .i64 0) ∧ cur[4]? = some (.slice none 0 0) ∧
    cur[5]? = some (.int .i64 3) ∧ cur[6]? = some (.int .i64 0) ∧ cur[7]? = some (.int .i64 0) ∧ cur[8]? = some (.int .i64 0) ∧ cur[9]? = some (.slice (some ⟨E, 0, none⟩) 1 cE) ∧
    cur[10]? = some (.int .i64 4) ∧ cur[11]? = some (.int .i64 0) ∧ cur[12]? = some (.int .i64 0) ∧ cur[13]? = some (.int .i64 0) ∧ cur[14]? = some (.slice none 0 0)
  put : ∃ cs, w.heap[E]? = some (.cells cs 43 (0, 0)) ∧ cs[0]? = some (.int .i64 1) ∧ cs[1]? = some (.slice (some ⟨D, 0, none⟩) 40 cD)
  bs : Bs w (some ⟨D, 0, none⟩) r
  len : r.length = 40
  bt : Bt w D
theorem OpW.keep {w w' : World} {S : List Nat} {lw g E D cE cD : Nat} {r : List UInt8} (h : OpW w lw g E D cE cD r) (hc : Chg S w w') (hS : ∀ x ∈ S, x < w.heap.size → ∀ cs t fr, w.heap[x]? = some (.cells cs t fr) → t ≠ 64 ∧ t ≠ 43 ∧ t ≠ 5) : OpW w' lw g E D cE cD r := by
  obtain ⟨⟨cur, h1, h1'⟩, ⟨cs, h2, h2'⟩, h3, h4, ct, h5⟩ := h
  have nD : D ∉ S := fun hx => (hS D hx (heap_lt h5) _ _ _ h5).2.2 rfl
  exact ⟨⟨cur, hc.heap h1 (fun hx => (hS g hx (heap_lt h1) _ _ _ h1).1 rfl), h1'⟩, ⟨cs, hc.heap h2 (fun hx => (hS E hx (heap_lt h2) _ _ _ h2).2.1 rfl), h2'⟩, h3.chgB hc nD, h4, ct, hc.heap h5 nD⟩
/-- what stands beside the store: how far it is from w0, the law's world, the ops. -/
structure Bas (w0 : World) (lw C K R g E D cE cD : Nat) (r : List UInt8) (w : World) : Prop where
  up : Up lw w0 w
  wd : w.heap[C]? = some (.cells #[.pointer (some ⟨K, 0, none⟩), .pointer (some ⟨R, 0, none⟩), .int .i64 0] 77 (0, 0))
  ops : OpW w lw g E D cE cD r
theorem Bas.keep {w0 w w' : World} {S : List Nat} {lw C K R g E D cE cD : Nat} {r : List UInt8} (h : Bas w0 lw C K R g E D cE cD r w) (hc : Chg S w w') (hS : ∀ x ∈ S, x < w.heap.size → lw ≤ x ∧ ∀ cs t fr, w.heap[x]? = some (.cells cs t fr) → t ∉ [64, 43, 5, 77]) : Bas w0 lw C K R g E D cE cD r w' := by
  refine ⟨h.up.then hc (fun x hx hl => (hS x hx hl).1), hc.heap h.wd (fun hx => (hS C hx (heap_lt h.wd)).2 _ _ _ h.wd (by decide)), h.ops.keep hc (fun x hx hl cs t fr hh => ?_)⟩
  have := (hS x hx hl).2 cs t fr hh
  simp at this
  exact ⟨this.1, this.2.1, this.2.2.1⟩
theorem Bas.lo {w0 w w' : World} {lw C K R g E D cE cD : Nat} {r : List UInt8} (h : Bas w0 lw C K R g E D cE cD r w) (hc : Lo lw w w') : Bas w0 lw C K R g E D cE cD r w' := by
  obtain ⟨U, h1, h2⟩ := hc
  refine h.keep h1 (fun x hx hl => ⟨(h2 x hx hl).1, fun cs t fr hh hm => (h2 x hx hl).2 cs t fr hh ?_⟩)
  revert hm
  revert t
  simp only [List.mem_cons, List.not_mem_nil, or_false]
  intro t _ hm
  rcases hm with h | h | h | h <;> simp [h]
theorem Bas.tp {w0 w w' : World} {S ts : List Nat} {lw C K R g E D cE cD : Nat} {r : List UInt8} (h : Bas w0 lw C K R g E D cE cD r w) (hc : Chg S w w') (ht : Tp w S ts) (hts : ∀ t ∈ ts, t ∉ [64, 43, 5, 77]) (hl : ∀ x ∈ S, lw ≤ x) : Bas w0 lw C K R g E D cE cD r w' :=
  h.keep hc (fun x hx _ => ⟨hl x hx, fun cs t fr hh => by
    obtain ⟨cs2, t2, h2, h3⟩ := ht x hx
    rw [h2] at hh
    cases hh
    exact hts _ h3⟩)
/-- the one begin. -/
def Beg1 (w : World) (lw Bb : Nat) (bv : Value) (h f t : Int) : Prop := w.ownsRow lw 158 1 bv 1 [.pointer (some ⟨Bb, 0, none⟩)] ∧ w.heap[Bb]? = some (.cells (begC h f t) 161 (0, 0)) ∧ lw ≤ Bb
theorem Beg1.keep {w w' : World} {S : List Nat} {lw Bb : Nat} {bv : Value} {h f t : Int} (hb : Beg1 w lw Bb bv h f t) (hc : Chg S w w') (hS : ∀ x ∈ S, x < w.heap.size → ∀ cs t fr, w.heap[x]? = some (.cells cs t fr) → t ≠ 158 ∧ t ≠ 161) : Beg1 w' lw Bb bv h f t := by
  refine ⟨own_chgB hb.1 hc (fun g hg hm => ?_), hc.heap hb.2.1 (fun hm => (hS Bb hm (heap_lt hb.2.1) _ _ _ hb.2.1).2 rfl), hb.2.2⟩
  obtain ⟨-, cur, hh⟩ := own_elem hb.1 hg
  exact (hS g hm (heap_lt hh) _ _ _ hh).1 rfl
theorem Beg1.at_ {w : World} {lw Bb : Nat} {bv : Value} {h f t : Int} (hb : Beg1 w lw Bb bv h f t) : ∃ g c, bv = .slice (some ⟨g, 0, none⟩) 1 c ∧ w.cell? ⟨g, 0, none⟩ = some (.pointer (some ⟨Bb, 0, none⟩)) := by
  rcases hb.1.2 with ⟨e, h0⟩ | ⟨g, cap, cur, e, hA, hg, hc1, hc2, hc3, ht⟩
  · cases h0
  · refine ⟨g, cap, e, cell_is hg 0 ?_⟩
    have : (cur.toList.take (1 * 1))[0]? = some (.pointer (some ⟨Bb, 0, none⟩)) := by rw [ht]; rfl
    rwa [List.getElem?_take_of_lt (by omega), Array.getElem?_toList] at this
/-- a store's ids with its transaction's. -/
def dT (d : Ids) (T W rw Q V : Nat) : Ids := { d with T := T, W := W, rw := rw, Q := Q, V := V }
/-- an open transaction. -/
def Opn (w : World) (lw : Nat) (d : Ids) (ops : Int) (T base : Nat) (W rw Q V : Nat) (q : Int → List UInt8) (L : List (Int × Value)) : Prop :=
  Su w base (dT d T W rw Q V) (begP (s00 lw)) (StoF lw (dT d T W rw Q V) (begS (s00 lw) T) (g00 lw ops)) q L 0 ∧ (d.rx < base ∧ d.rb < base ∧ d.r < base) ∧ lw ≤ T ∧ lw ≤ base
theorem Opn.keep {w w' : World} {S ts : List Nat} {lw : Nat} {d : Ids} {ops : Int} {T base W rw Q V : Nat} {q : Int → List UInt8} {L : List (Int × Value)} (h : Opn w lw d ops T base W rw Q V q L) (hc : Chg S w w') (tp : Tp w S ts) (hts : ∀ t ∈ ts, t ∈ [149, 66, 161, 158]) : Opn w' lw d ops T base W rw Q V q L := by
  obtain ⟨hS, hr⟩ := h
  have hSto : Sto w lw (dT d T W rw Q V) (begS (s00 lw) T) (g00 lw ops) := hS.env
  have hd : ∀ t ∈ ts, t ∉ [105, 166, 93, 94, 97, 40, 5, 189, 253, 262, 256] := fun t ht => (by decide : ∀ u ∈ ([149, 66, 161, 158] : List Nat), u ∉ [105, 166, 93, 94, 97, 40, 5, 189, 253, 262, 256]) t (hts t ht)
  have hSto2 := hSto.keepA hc (tp.av (fun t ht hm => hd t ht (by revert hm; simp only [List.mem_cons, List.not_mem_nil, or_false]; omega))) (tp.map hSto.mx.ver.m) (tp.map hSto.mx.book.2) (tp.map hSto.mx.map)
  exact ⟨hS.keepA hc (tp.av (fun t ht => (by decide : ∀ u ∈ ([149, 66, 161, 158] : List Nat), u ∉ _) t (hts t ht))) (tp.map hS.buf.2) hSto2, hr⟩
end Go.Proofs.YtkhionhicegfmaaGreat
namespace Go.Proofs.YtkhionhicegfmaaGreat
open Go.RowKit Go.Lib

/-- the law's places: the start, its world, the schedule, the ops. -/
structure Pl25 where
  w0 : World
  lw : Nat
  C : Nat
  K : Nat
  R : Nat
  g : Nat
  E : Nat
  D : Nat
  cE : Nat
  cD : Nat
  r : List UInt8
  d : Ids
  ops : Int
/-- a schedule whose first client has a transaction that is open. -/
def PO (x : Pl25) (o av : Value) (q : Bool) (fr ev : Int) (k : Nat) (cs : Array Value) (w : World) : Prop :=
  ∃ T base W rw Q V Bb bv al qf L, cs = sch x.d.N x.d.P o bv av q al ev ∧ Beg1 w x.lw Bb bv 1 fr 0 ∧ Opn w x.lw x.d x.ops T base W rw Q V qf L ∧ L.length = k ∧ Bas x.w0 x.lw x.C x.K x.R x.g x.E x.D x.cE x.cD x.r w
theorem PO.cl (x : Pl25) (o av : Value) (q : Bool) (fr ev : Int) (k : Nat) (cs : Array Value) : Cl x.lw (PO x o av q fr ev k cs) := ⟨fun a b S h hc ht hl => by
  obtain ⟨T, base, W, rw, Q, V, Bb, bv, al, qf, L, h1, h2, h3, h4, h5⟩ := h
  refine ⟨T, base, W, rw, Q, V, Bb, bv, al, qf, L, h1, h2.keep hc (fun y hy _ cs t fr hh => ?_), h3.keep hc ht (by decide), h4, h5.tp hc ht (by decide) hl⟩
  obtain ⟨cs2, t2, e1, e2⟩ := ht y hy
  rw [e1] at hh
  cases hh
  simp at e2
  rcases e2 with rfl | rfl <;> exact ⟨by decide, by decide⟩⟩
/-- a stage: the schedule's cells, the answers' row. -/
def Stg (x : Pl25) (o av : Value) (q : Bool) (fr ev : Int) (k na : Nat) (w : World) : Prop := ∃ cs xs, PO x o av q fr ev k cs w ∧ SchB w x.K cs ∧ w.ownsRow x.lw 66 5 av na xs
theorem chgK {w : World} {K : Nat} {cs : Array Value} (hB : SchB w K cs) : Tp w [K] [149] := fun y hy => by
  rw [List.mem_singleton] at hy
  subst hy
  exact ⟨_, _, hB, by simp⟩
theorem nil66 (w : World) (lw : Nat) : w.ownsRow lw 66 5 (.slice none 0 0) 0 [] := World.ownsRow_nil _ _ _ _
set_option maxRecDepth 100000 in
theorem st1 (x : Pl25) (w : World) {c : Nat} (hS : Sto w x.lw x.d (s00 x.lw) (g00 x.lw x.ops)) (hB : SchB w x.K (sch x.d.N x.d.P (.slice (some ⟨x.g, 0, none⟩) 3 c) (.slice none 0 0) (.slice none 0 0) false (.slice none 0 0) 0)) (hb : Bas x.w0 x.lw x.C x.K x.R x.g x.E x.D x.cE x.cD x.r w) (hKl : x.lw ≤ x.K) (hlw : x.lw ≤ w.heap.size) (hc : 3 ≤ c) :
    Calls Tryz.prog 35 #[.pointer (some ⟨x.K, 0, none⟩), .int .i64 1] w fun e w' => ∃ v av, e = .returned (.tuple #[v, .int .i64 0]) ∧ Stg x (.slice (some ⟨x.g, 5, none⟩) 2 (c - 1)) av false 1 1 0 1 w' := by
  obtain ⟨cur, hr, q0, q1, q2, q3, q4, -⟩ := hb.ops.row
  have hgK : x.g ≠ x.K := heap_ne hr hB (by simp)
  refine (step_told w (P := PO x (.slice (some ⟨x.g, 0, none⟩) 3 c) (.slice none 0 0) false 1 1 0) (q := false) (av := .slice none 0 0) (na := 0) (xa := []) (m := 2) (x0 := 1) (x1 := 0) (x2 := 0) (x3 := 0) hlw hKl (fun cs => PO.cl x _ _ _ _ _ _ cs) hB rfl rfl rfl ⟨by decide, by decide⟩ hc (cell_is hr 0 q0) (cell_is hr 1 q1) (cell_is hr 2 q2) (cell_is hr 3 q3) (cell_is hr 4 q4) hgK ?_ ?_ (nil66 _ _) (by decide)).mono ?_
  · intro wx kx hBx
    have tK := chgK hB
    have hSx := hS.keepA kx (tK.av (by decide)) (tK.map hS.mx.ver.m) (tK.map hS.mx.book.2) (tK.map hS.mx.map)
    have hbx := hb.tp kx tK (by decide) (fun y hy => by rw [List.mem_singleton] at hy; omega)
    have hlx : x.lw ≤ wx.heap.size := Nat.le_trans hlw kx.size
    refine do_begin wx hlx (fun cs => PO.cl x _ _ _ _ _ _ cs) (fun wy ky => ?_)
    have hSy := hSx.keep ky
    refine (cbegin_ok wy (K := x.K) (o := .slice (some ⟨x.g, 0, none⟩) 3 c) (bv := .slice none 0 0) (av := .slice none 0 0) (al := .slice none 0 0) (q := false) (ev := 1) (nb := 0) (na := 0) (xb := []) (xa := []) hSy (ky.heap hBx (by simp)) (World.ownsRow_nil _ _ _ _) (World.ownsRow_nil _ _ _ _) (fun y hy => by cases hy) (by decide) (by decide) rfl (show (0 : Int) ≤ 0 by decide) (show (0 : Int) ≤ 1099511627776 by decide) (show (0 : Int) ≤ 0 by decide) (show (0 : Int) ≤ 1000000 by decide) hKl (Nat.le_trans hlx ky.size)).mono ?_
    rintro e w' ⟨rfl, T, W, rw, Q, V, base, Bb, bv, al, hLo, hT, hbase, hBl, hB', ob, oa, hBb, hSu, hlt⟩
    refine ⟨rfl, _, ⟨T, base, W, rw, Q, V, Bb, bv, al, _, [], rfl, ⟨ob, hBb, hBl⟩, ⟨hSu, hlt, by have := ky.size; omega, by have := ky.size; omega⟩, rfl, (hbx.keep ky (fun y hy => by cases hy)).lo hLo⟩, hB', fun y cs hy => hLo.heap hy (by decide)⟩
  · rintro cs2 w2 ⟨T, base, W, rw, Q, V, Bb, bv, al, qf, L, rfl, -⟩
    exact ⟨rfl, rfl, rfl⟩
  · rintro e w' ⟨rfl, av', cs2, hP, hB', ho⟩
    obtain ⟨T, base, W, rw, Q, V, Bb, bv, al, qf, L, rfl, h2⟩ := hP
    have hcut : cutV x.g 0 2 c = .slice (some ⟨x.g, 5, none⟩) 2 (c - 1) := by unfold cutV; rw [if_neg (by omega)]
    rw [hcut] at hB'
    exact ⟨_, av', rfl, _, _, ⟨T, base, W, rw, Q, V, Bb, bv, al, qf, L, rfl, h2⟩, hB', ho⟩
theorem Tp.k66 {w : World} {S : List Nat} (h : Tp w S [149]) : Tp w S [149, 66] := fun y hy => by
  obtain ⟨cs, t, h1, h2⟩ := h y hy
  exact ⟨cs, t, h1, by simp at h2; simp [h2]⟩
set_option maxRecDepth 100000 in
theorem st2 (x : Pl25) (w : World) {c na : Nat} {av : Value} (h : Stg x (.slice (some ⟨x.g, 5, none⟩) 2 c) av false 1 1 0 na w) (hKl : x.lw ≤ x.K) (hlw : x.lw ≤ w.heap.size) (hc : 2 ≤ c) (hna : na ≤ 900) :
    Calls Tryz.prog 35 #[.pointer (some ⟨x.K, 0, none⟩), .int .i64 1] w fun e w' => ∃ v av, e = .returned (.tuple #[v, .int .i64 0]) ∧ Stg x (.slice (some ⟨x.g, 10, none⟩) 1 (c - 1)) av false 1 2 1 (na + 1) w' := by
  obtain ⟨cs, xs, hP, hB, ho⟩ := h
  have hPw := hP
  obtain ⟨T, base, W, rw, Q, V, Bb, bv, al, qf, L, rfl, -, -, -, hb⟩ := hPw
  obtain ⟨cur, hr, -, -, -, -, -, q0, q1, q2, q3, q4, -⟩ := hb.ops.row
  have hgK : x.g ≠ x.K := heap_ne hr hB (by simp)
  refine (step_told w (P := PO x (.slice (some ⟨x.g, 5, none⟩) 2 c) av false 1 2 1) (q := false) (av := av) (na := na) (m := 1) (x0 := 3) (x1 := 0) (x2 := 0) (x3 := 0) hlw hKl (fun cs => PO.cl x _ _ _ _ _ _ cs) hB rfl rfl rfl ⟨by decide, by decide⟩ hc (cell_is hr 5 q0) (cell_is hr 6 q1) (cell_is hr 7 q2) (cell_is hr 8 q3) (cell_is hr 9 q4) hgK ?_ ?_ ho hna).mono ?_
  · intro wx kx hBx
    have hx := (PO.cl x _ _ _ _ _ _ _).keep w wx _ hP kx (chgK hB).k66 (fun y hy => by rw [List.mem_singleton] at hy; omega)
    obtain ⟨T, base, W, rw, Q, V, Bb, bv, al, qf, L, hcs, hbg, hop, hL, hbx⟩ := hx
    rw [hcs] at hBx
    have hlx : x.lw ≤ wx.heap.size := Nat.le_trans hlw kx.size
    obtain ⟨gb, cb, rfl, g0⟩ := hbg.at_
    refine do_call wx (kind := 3) (h := 1) (nb := 1) (Or.inl rfl) hlx (fun cs => PO.cl x _ _ _ _ _ _ cs) (cell_is hBx 3 rfl) (by decide) g0 (cell_is hbg.2.1 0 rfl) (by decide) (fun wy ky => ?_)
    have hf : Fr base (dT x.d T W rw Q V) (begP (s00 x.lw)) (StoF x.lw (dT x.d T W rw Q V) (begS (s00 x.lw) T) (g00 x.lw x.ops)) := fr_sto hop.2.1 rfl rfl rfl rfl rfl
    obtain ⟨ce, hE, e0, e1⟩ := hbx.ops.put
    have hby := hbx.keep ky (fun y hy => by cases hy)
    refine (ccall_write wy (K := x.K) (Bb := Bb) (b := 1) (d := dT x.d T W rw Q V) (p := begP (s00 x.lw)) (ky.heap hBx (by simp)) rfl (ky.heap hbg.2.1 (by simp)) rfl hf (hop.1.keep hf ky) (ky.cell (cell_is hE 0 e0) (by simp)) (ky.cell (cell_is hE 1 e1) (by simp)) hby.ops.bs hby.ops.len (by decide) (by decide) (by omega)).mono ?_
    rintro e w' ⟨rfl, hO, v, hSu⟩
    have hLL : L = [] := List.length_eq_zero_iff.1 hL
    subst hLL
    refine ⟨rfl, _, ⟨T, base, W, rw, Q, V, Bb, _, al, _, _, rfl, ?_, ⟨hSu, hop.2⟩, rfl, hby.lo (Lo.of_ow hO hop.2.2.2)⟩, hO.heap (ky.heap hBx (by simp)) ⟨by decide, by decide, by decide⟩, fun y cs hy => hO.heap hy ⟨by decide, by decide, by decide⟩⟩
    obtain ⟨U, hU1, hU2⟩ := hO
    refine (hbg.keep ky (fun y hy => by cases hy)).keep hU1 (fun y hy _ cs t fr hh => ?_)
    rcases (hU2 y hy).2 cs t fr hh with rfl | rfl | rfl <;> exact ⟨by decide, by decide⟩
  · rintro cs2 w2 ⟨T, base, W, rw, Q, V, Bb, bv, al, qf, L, rfl, -⟩
    exact ⟨rfl, rfl, rfl⟩
  · rintro e w' ⟨rfl, av', cs2, hP, hB', ho⟩
    obtain ⟨T, base, W, rw, Q, V, Bb, bv, al, qf, L, rfl, h2⟩ := hP
    have hcut : cutV x.g 5 1 c = .slice (some ⟨x.g, 10, none⟩) 1 (c - 1) := by unfold cutV; rw [if_neg (by omega)]
    rw [hcut] at hB'
    exact ⟨_, av', rfl, _, _, ⟨T, base, W, rw, Q, V, Bb, bv, al, qf, L, rfl, h2⟩, hB', ho⟩
end Go.Proofs.YtkhionhicegfmaaGreat
namespace Go.Proofs.YtkhionhicegfmaaGreat
open Go.RowKit Go.Lib

/-- a schedule whose first client's transaction waits. -/
def PW (x : Pl25) (o av : Value) (q : Bool) (fr ev : Int) (cs : Array Value) (w : World) : Prop :=
  ∃ T W rw Q V Bb bv al qf L gq cq, cs = sch x.d.N x.d.P o bv av q al ev ∧ Beg1 w x.lw Bb bv 1 fr 0 ∧ Sto w x.lw (dT x.d T W rw Q V) (comS (begS (s00 x.lw) T) gq cq) (g00 x.lw x.ops) ∧ Wtx w (dT x.d T W rw Q V) (comS (begS (s00 x.lw) T) gq cq) gq cq 1 1 0 0 L qf ∧ x.lw ≤ T ∧ L.length = 1 ∧ Bas x.w0 x.lw x.C x.K x.R x.g x.E x.D x.cE x.cD x.r w
theorem beg_ne {a : World} {S : List Nat} {ts : List Nat} (ht : Tp a S ts) (hts : ∀ t ∈ ts, t ≠ 158 ∧ t ≠ 161) : ∀ y ∈ S, y < a.heap.size → ∀ cs t fr, a.heap[y]? = some (.cells cs t fr) → t ≠ 158 ∧ t ≠ 161 := fun y hy _ cs t fr hh => by
  obtain ⟨cs2, t2, e1, e2⟩ := ht y hy
  rw [e1] at hh
  cases hh
  exact hts _ e2
theorem Sto.tp149 {w w' : World} {S : List Nat} {lw : Nat} {d : Ids} {s : Gs} {g : Gd} (h : Sto w lw d s g) (hc : Chg S w w') (tp : Tp w S [149, 66]) : Sto w' lw d s g :=
  h.keepA hc (tp.av (by decide)) (tp.map h.mx.ver.m) (tp.map h.mx.book.2) (tp.map h.mx.map)
theorem PW.cl (x : Pl25) (o av : Value) (q : Bool) (fr ev : Int) (cs : Array Value) : Cl x.lw (PW x o av q fr ev cs) := ⟨fun a b S h hc ht hl => by
  obtain ⟨T, W, rw, Q, V, Bb, bv, al, qf, L, gq, cq, h1, h2, h3, h4, h5, h6, h7⟩ := h
  exact ⟨T, W, rw, Q, V, Bb, bv, al, qf, L, gq, cq, h1, h2.keep hc (beg_ne ht (by decide)), h3.tp149 hc ht, h4.keepA hc (ht.av (by decide)) (ht.map h4.buf.2), h5, h6, h7.tp hc ht (by decide) hl⟩⟩
def StgW (x : Pl25) (o av : Value) (q : Bool) (fr ev : Int) (na : Nat) (w : World) : Prop := ∃ cs xs, PW x o av q fr ev cs w ∧ SchB w x.K cs ∧ w.ownsRow x.lw 66 5 av na xs
set_option maxRecDepth 100000 in
theorem st3 (x : Pl25) (w : World) {c na : Nat} {av : Value} (h : Stg x (.slice (some ⟨x.g, 10, none⟩) 1 c) av false 1 2 1 na w) (hKl : x.lw ≤ x.K) (hlw : x.lw ≤ w.heap.size) (hc : 1 ≤ c) :
    Calls Tryz.prog 35 #[.pointer (some ⟨x.K, 0, none⟩), .int .i64 1] w fun e w' => e = .returned (.tuple #[.agg #[.int .i64 0, .int .i64 0, .int .i64 0, .int .i64 0, .slice none 0 0], .int .i64 16]) ∧ StgW x (.slice (some ⟨x.g, 10, none⟩) 1 c) av true 1 3 na w' := by
  obtain ⟨cs, xs, hP, hB, ho⟩ := h
  have hPw := hP
  obtain ⟨T, base, W, rw, Q, V, Bb, bv, al, qf, L, rfl, -, -, -, hb⟩ := hPw
  obtain ⟨cur, hr, -, -, -, -, -, -, -, -, -, -, q0, q1, q2, q3, q4⟩ := hb.ops.row
  have hgK : x.g ≠ x.K := heap_ne hr hB (by simp)
  refine (step_wait w (P := PW x (.slice (some ⟨x.g, 10, none⟩) 1 c) av false 1 3) (q := false) (m := 0) (x0 := 0) (x1 := 0) (x2 := 0) (x3 := 0) hlw hKl (fun cs => PW.cl x _ _ _ _ _ cs) hB rfl rfl rfl ⟨by decide, by decide⟩ hc (cell_is hr 10 q0) (cell_is hr 11 q1) (cell_is hr 12 q2) (cell_is hr 13 q3) (cell_is hr 14 q4) hgK ?_ ?_).mono ?_
  · intro wx kx hBx
    have hx := (PO.cl x _ _ _ _ _ _ _).keep w wx _ hP kx (chgK hB).k66 (fun y hy => by rw [List.mem_singleton] at hy; omega)
    obtain ⟨T, base, W, rw, Q, V, Bb, bv, al, qf, L, hcs, hbg, hop, hL, hbx⟩ := hx
    rw [hcs] at hBx
    have hlx : x.lw ≤ wx.heap.size := Nat.le_trans hlw kx.size
    obtain ⟨gb, cb, rfl, g0⟩ := hbg.at_
    refine do_call wx (kind := 4) (h := 1) (nb := 1) (Or.inr rfl) hlx (fun cs => PW.cl x _ _ _ _ _ cs) (cell_is hBx 3 rfl) (by decide) g0 (cell_is hbg.2.1 0 rfl) (by decide) (fun wy ky => ?_)
    refine ccall_c wy (Nat.le_trans hlx ky.size) (fun cs => PW.cl x _ _ _ _ _ cs) (fun wz kz => ?_)
    have kyz := ky.then kz
    have hf : Fr base (dT x.d T W rw Q V) (begP (s00 x.lw)) (StoF x.lw (dT x.d T W rw Q V) (begS (s00 x.lw) T) (g00 x.lw x.ops)) := fr_sto hop.2.1 rfl rfl rfl rfl rfl
    have hbz := hbx.keep kyz (fun y hy => by cases hy)
    have hBz := kyz.heap hBx (by simp)
    have hbgz := hbg.keep kyz (fun y hy => by cases hy)
    refine (commit_ask wz (k := 1) (n := 0) (K := x.K) (Bb := Bb) (d := dT x.d T W rw Q V) (p := begP (s00 x.lw)) hBz rfl rfl hbgz.2.1 rfl hf (hop.1.keep hf kyz) rfl (Nat.le_trans hlx kyz.size) hop.2.2.1 (fun wv kv => scommit_sto wv (loq := x.lw) (n := 0) (k := 1) hf (hop.1.keep hf (kyz.then kv)) rfl (World.ownsRow_nil _ _ _ _) (Nat.le_trans hlx (kyz.then kv).size) (Nat.le_refl _) rfl ⟨fun p hp => (by cases hp), fun b y hy => (by cases hy)⟩ rfl (show (0 : Int) < 1099511627776 by decide) (show (0 : Int) ≤ 0 by decide) (by omega) (by omega) (by decide) rfl rfl hop.2.2.1)).mono ?_
    rintro e w' ⟨rfl, gq, cq, hS', hW', hcs'⟩
    have hLo := Lo.of_cs hcs'
    obtain ⟨U, hU1, hU2⟩ := hcs'
    refine ⟨rfl, _, ⟨T, W, rw, Q, V, Bb, _, al, _, L, gq, cq, rfl, ?_, hS', hW', hop.2.2.1, hL, hbz.lo hLo⟩, hU1.heap hBz (fun hm => ?_), fun y cs hy => hLo.heap hy (by decide)⟩
    · refine hbgz.keep hU1 (fun y hy hl cs t fr hh => ?_)
      exact (by decide : ∀ u ∈ ([105, 189, 202, 253, 262, 93, 97, 40, 3, 256, 166] : List Nat), u ≠ 158 ∧ u ≠ 161) t ((hU2 y hy hl).2 cs t fr hh)
    · exact (by decide : (149 : Nat) ∉ ([105, 189, 202, 253, 262, 93, 97, 40, 3, 256, 166] : List Nat)) ((hU2 x.K hm (heap_lt hBz)).2 _ _ _ hBz)
  · rintro cs2 w2 ⟨T, W, rw, Q, V, Bb, bv, al, qf, L, gq, cq, rfl, -⟩
    rfl
  · rintro e w' ⟨rfl, cs2, hP, hB', h66⟩
    obtain ⟨T, W, rw, Q, V, Bb, bv, al, qf, L, gq, cq, rfl, h2⟩ := hP
    exact ⟨rfl, _, xs, ⟨T, W, rw, Q, V, Bb, bv, al, qf, L, gq, cq, rfl, h2⟩, hB', own_k66 ho h66⟩
end Go.Proofs.YtkhionhicegfmaaGreat
namespace Go.Proofs.YtkhionhicegfmaaGreat
open Go.RowKit Go.Lib

/-- a schedule whose first client's transaction is committed, and was not told of it. -/
def StgD (x : Pl25) (o av : Value) (q : Bool) (fr ev : Int) (na : Nat) (w : World) : Prop :=
  ∃ T W rw Q V Bb bv al s g xs, SchB w x.K (sch x.d.N x.d.P o bv av q al ev) ∧ Beg1 w x.lw Bb bv 1 fr 0 ∧ Sto w x.lw (dT x.d T W rw Q V) s g ∧ getL s.Lr 1 = some (.pointer (some ⟨T, 0, none⟩)) ∧
    w.heap[T]? = some (.cells #[.int .i64 3, .int .i64 1, .int .i64 0, .int .i64 0, .pointer (some ⟨W, 0, none⟩), .pointer (some ⟨Q, 0, none⟩)] 202 (0, 0)) ∧ Bas x.w0 x.lw x.C x.K x.R x.g x.E x.D x.cE x.cD x.r w ∧ w.ownsRow x.lw 66 5 av na xs
set_option maxRecDepth 100000 in
theorem st4 (x : Pl25) (w : World) {o av : Value} {na : Nat} (h : StgW x o av true 1 3 na w) (hKl : x.lw ≤ x.K) (hlw : x.lw ≤ w.heap.size) (hops : 0 ≤ x.ops ∧ x.ops ≤ 2) :
    Calls Tryz.prog 38 #[.pointer (some ⟨x.K, 0, none⟩)] w fun e w' => e = .returned (.int .i64 0) ∧ StgD x o av true 1 4 na w' := by
  obtain ⟨cs, xs, hP, hB, ho⟩ := h
  have hPw := hP
  obtain ⟨T0, W0, rw0, Q0, V0, Bb0, bv0, al0, qf0, L0, gq0, cq0, rfl, -⟩ := hPw
  refine sched_flush w hB rfl rfl ⟨by decide, by decide⟩ (fun wx kx hBx => ?_)
  have hx := (PW.cl x _ _ _ _ _ _).keep w wx _ hP kx (chgK hB).k66 (fun y hy => by rw [List.mem_singleton] at hy; omega)
  obtain ⟨T, W, rw, Q, V, Bb, bv, al, qf, L, gq, cq, hcs, hbg, hS, hW, hT, hL, hb⟩ := hx
  rw [hcs] at hBx
  have hox := own_chgB ho kx (fun g hg hm => by
    rw [List.mem_singleton] at hm
    subst hm
    obtain ⟨-, cur, hh⟩ := own_elem ho hg
    rw [show w.heap[_]? = _ from hB] at hh
    cases hh)
  refine (sflush_tx wx (k := 1) hS hW rfl hT (Nat.le_trans hlw kx.size) (by decide) (show (0 : Int) < 1 by decide) (by decide) (fun c => (show 0 + 16 < 1000000 by decide)) (show (0 : Int) ≤ 0 by decide) (show (0 : Int) ≤ 100000000 by decide) (by show 0 + L.length + 1 ≤ 96; omega) (by show 0 + L.length + 1 ≤ 96; omega) (show 0 ≤ x.ops by omega) (show x.ops ≤ 100000 by omega) (show 0 < 4294967296 by decide) (show 0 < 1000000000 by decide)).mono ?_
  rintro e w' ⟨rfl, z6, Lv6, v6, hS6, cs6, -, hT6⟩
  have hLo := Lo.of_cs cs6
  refine ⟨rfl, T, W, rw, Q, V, Bb, bv, al, _, _, xs, cs6.heap hBx (by decide), ?_, hS6, rfl, hT6, hb.lo hLo, own_cs hox cs6 (by decide)⟩
  obtain ⟨U, hU1, hU2⟩ := cs6
  refine hbg.keep hU1 (fun y hy hl cs t fr hh => ?_)
  exact (by decide : ∀ u ∈ ([105, 189, 202, 253, 262, 93, 97, 40, 3, 256, 166] : List Nat), u ≠ 158 ∧ u ≠ 161) t ((hU2 y hy hl).2 cs t fr hh)
/-- .. and was told of it. -/
def PE (x : Pl25) (o av : Value) (cs : Array Value) (w : World) : Prop := (∃ bv al, cs = sch x.d.N x.d.P o bv av true al 5) ∧ Up x.lw x.w0 w
theorem PE.cl (x : Pl25) (o av : Value) (cs : Array Value) : Cl x.lw (PE x o av cs) := ⟨fun _ _ _ h hc _ hl => ⟨h.1, h.2.then hc (fun y hy _ => hl y hy)⟩⟩
set_option maxRecDepth 100000 in
theorem st5 (x : Pl25) (w : World) {c na : Nat} {av : Value} (h : StgD x (.slice (some ⟨x.g, 10, none⟩) 1 c) av true 1 4 na w) (hKl : x.lw ≤ x.K) (hlw : x.lw ≤ w.heap.size) (hc : 1 ≤ c) (hna : na ≤ 900) :
    Calls Tryz.prog 35 #[.pointer (some ⟨x.K, 0, none⟩), .int .i64 1] w fun e w' => e = .returned (.tuple #[.agg #[.int .i64 4, .int .i64 0, .int .i64 0, .int .i64 1, .slice none 0 0], .int .i64 0]) ∧ Up x.lw x.w0 w' := by
  obtain ⟨T, W, rw, Q, V, Bb, bv, al, s, g, xs, hB, hbg, hS, htab, hT, hb, ho⟩ := h
  obtain ⟨cur, hr, -, -, -, -, -, -, -, -, -, -, q0, q1, q2, q3, q4⟩ := hb.ops.row
  have hgK : x.g ≠ x.K := heap_ne hr hB (by simp)
  refine (step_told w (P := PE x (.slice (some ⟨x.g, 10, none⟩) 1 c) av) (q := true) (av := av) (na := na) (m := 0) (x0 := 4) (x1 := 0) (x2 := 0) (x3 := 1) hlw hKl (fun cs => PE.cl x _ _ cs) hB rfl rfl rfl ⟨by decide, by decide⟩ hc (cell_is hr 10 q0) (cell_is hr 11 q1) (cell_is hr 12 q2) (cell_is hr 13 q3) (cell_is hr 14 q4) hgK ?_ ?_ ho hna).mono ?_
  · intro wx kx hBx
    have tK := (chgK hB).k66
    have hlK : ∀ y ∈ [x.K], x.lw ≤ y := fun y hy => by rw [List.mem_singleton] at hy; omega
    have hSx := hS.tp149 kx tK
    have hbgx := hbg.keep kx (beg_ne tK (by decide))
    have hbx := hb.tp kx tK (by decide) hlK
    have hTK : T ∉ [x.K] := by
      intro hm
      rw [List.mem_singleton] at hm
      subst hm
      rw [show w.heap[x.K]? = _ from hB] at hT
      cases hT
    have hTx := kx.heap hT hTK
    have hlx : x.lw ≤ wx.heap.size := Nat.le_trans hlw kx.size
    obtain ⟨gb, cb, rfl, g0⟩ := hbgx.at_
    refine do_call wx (kind := 4) (h := 1) (nb := 1) (Or.inr rfl) hlx (fun cs => PE.cl x _ _ cs) (cell_is hBx 3 rfl) (by decide) g0 (cell_is hbgx.2.1 0 rfl) (by decide) (fun wy ky => ?_)
    refine ccall_c wy (Nat.le_trans hlx ky.size) (fun cs => PE.cl x _ _ cs) (fun wz kz => ?_)
    have kyz := ky.then kz
    have hBz : SchB wz x.K _ := kyz.heap hBx (by simp)
    have hbgz := hbgx.keep kyz (fun y hy => by cases hy)
    have hTz := kyz.heap hTx (by simp)
    refine (commit_told wz (K := x.K) (Bb := Bb) (d := dT x.d T W rw Q V) (h := 1) (k := 1) (ev := 5) (x2 := 0) hBz rfl rfl rfl hbgz.2.1 rfl rfl (hSx.keep kyz) htab (cell_is hTz 0 rfl) (cell_is hTz 1 rfl) (cell_is hTz 2 rfl)).mono ?_
    rintro e w' ⟨rfl, -, hch, -⟩
    refine ⟨rfl, _, ⟨⟨_, _, rfl⟩, (hbx.up.then kyz (fun y hy => by cases hy)).then hch (fun y hy _ => by rw [List.mem_singleton] at hy; subst hy; exact hbgz.2.2)⟩, hch.heap hBz ?_, fun y cs hy => hch.heap hy ?_⟩
    · intro hm
      rw [List.mem_singleton] at hm
      exact heap_ne hBz hbgz.2.1 (by simp) hm
    · intro hm
      rw [List.mem_singleton] at hm
      subst hm
      rw [hbgz.2.1] at hy
      cases hy
  · rintro cs2 w2 ⟨⟨bv, al, rfl⟩, -⟩
    exact ⟨rfl, rfl, rfl⟩
  · rintro e w' ⟨rfl, av', cs2, hP, -, -⟩
    exact ⟨rfl, hP.2⟩
end Go.Proofs.YtkhionhicegfmaaGreat
namespace Go.Proofs.YtkhionhicegfmaaGreat
open Go.RowKit Go.Lib

set_option maxRecDepth 100000 in
theorem bytes_none (w : World) : Calls Tryz.prog 24 #[.slice none 0 0, .slice none 0 0] w fun e w' => e = .returned (.bool true) ∧ w = w' := by
  go_enter Tryz.func24, Tryz.ntmps24
  go_wp2_with fail
  go_loopw [5] (fun i wr => i = .int .i64 0 ∧ w = wr) (fun _ _ => 0)
  case atStart => exact ⟨rfl, rfl⟩
  case round =>
    obtain ⟨rfl, rfl⟩ := hrel
    go_wp2_with fail
    go_ret
    exact ⟨rfl, rfl⟩
set_option maxRecDepth 100000 in
set_option maxHeartbeats 1000000 in
theorem answer_same (w : World) {a b c d : Int} : Calls Tryz.prog 36 #[.agg #[.int .i64 a, .int .i64 b, .int .i64 c, .int .i64 d, .slice none 0 0], .agg #[.int .i64 a, .int .i64 b, .int .i64 c, .int .i64 d, .slice none 0 0]] w fun e w' => e = .returned (.bool true) ∧ Chg [] w w' := by
  have kk : Chg [] w ((w.alloc (.cells #[.int .i64 a, .int .i64 b, .int .i64 c, .int .i64 d, .slice none 0 0] 66)).alloc (.cells #[.int .i64 a, .int .i64 b, .int .i64 c, .int .i64 d, .slice none 0 0] 66)) := (Chg.alloc w _).then_alloc _
  obtain ⟨y1, y2⟩ := heap_new2 w (.cells #[.int .i64 a, .int .i64 b, .int .i64 c, .int .i64 d, .slice none 0 0] 66) (.cells #[.int .i64 a, .int .i64 b, .int .i64 c, .int .i64 d, .slice none 0 0] 66)
  have hz1 := heap_lt y1
  have HQ := Lib.hid kk
  generalize hw0 : (w.alloc (.cells #[.int .i64 a, .int .i64 b, .int .i64 c, .int .i64 d, .slice none 0 0] 66)).alloc (.cells #[.int .i64 a, .int .i64 b, .int .i64 c, .int .i64 d, .slice none 0 0] 66) = w0 at *
  have c0 := cell_is y1 0 rfl
  have c1 := cell_is y1 1 rfl
  have c2 := cell_is y1 2 rfl
  have c3 := cell_is y1 3 rfl
  have c4 := cell_is y1 4 rfl
  have d0 := cell_is y2 0 rfl
  have d1 := cell_is y2 1 rfl
  have d2 := cell_is y2 2 rfl
  have d3 := cell_is y2 3 rfl
  have d4 := cell_is y2 4 rfl
  generalize hz : w.heap.size = z at *
  go_enter Tryz.func36, Tryz.ntmps36
  go_wp2_with fail
  refine (bytes_none _).mono ?_
  rintro e w1 ⟨rfl, rfl⟩
  go_wp2_with fail
  go_ret
  exact ⟨rfl, HQ.out⟩
end Go.Proofs.YtkhionhicegfmaaGreat
namespace Go.Proofs.YtkhionhicegfmaaGreat
open Go.RowKit Go.Lib

theorem sch_set (N P : Nat) (o o' b a : Value) (q : Bool) (al : Value) (ev : Int) {cs' : Array Value} (h2 : cs'[2]? = some o') (hr : ∀ j, j ≠ 2 → cs'[j]? = (sch N P o b a q al ev)[j]?) : cs' = sch N P o' b a q al ev := by
  refine Array.ext_getElem? (fun i => ?_)
  by_cases hi : i = 2
  · subst hi
    rw [h2]
    rfl
  · rw [hr i hi, show sch N P o' b a q al ev = (sch N P o b a q al ev).setIfInBounds 2 o' from rfl, Array.getElem?_setIfInBounds_ne (Ne.symm hi)]
set_option maxRecDepth 100000 in
theorem add25 (wx : World) {w1 : World} {lw C K R D E0 Eo : Nat} {d : Ids} {ops : Int} {r : List UInt8} (k : Chg [] w1 wx) (hS : Sto w1 lw d (s00 lw) (g00 lw ops)) (hK : SchB w1 K (sch d.N d.P (.slice none 0 0) (.slice none 0 0) (.slice none 0 0) false (.slice none 0 0) 0))
    (hC : w1.heap[C]? = some (.cells #[.pointer (some ⟨K, 0, none⟩), .pointer (some ⟨R, 0, none⟩), .int .i64 0] 77 (0, 0))) (hlw : lw ≤ w1.heap.size) (hKl : lw ≤ K) (hD : Fo wx D r) (hE0 : wx.heap[E0]? = some (.cells #[.int .i64 1, .slice (some ⟨D, 0, none⟩) 40 40] 43 (0, 0)))
    (hEo : wx.heap[Eo]? = some (.cells #[.int .i64 1, .int .i64 0, .int .i64 0, .int .i64 0, .slice none 0 0, .int .i64 3, .int .i64 0, .int .i64 0, .int .i64 0, .slice (some ⟨E0, 0, none⟩) 1 1, .int .i64 4, .int .i64 0, .int .i64 0, .int .i64 0, .slice none 0 0] 64 (0, 0))) :
    Calls Tryz.prog 34 #[.pointer (some ⟨K, 0, none⟩), .int .i64 1, .slice (some ⟨Eo, 0, none⟩) 3 3] wx fun e w' => e = .returned (.int .i64 0) ∧ ∃ g E D' cE cD c, 3 ≤ c ∧ Sto w' lw d (s00 lw) (g00 lw ops) ∧
      SchB w' K (sch d.N d.P (.slice (some ⟨g, 0, none⟩) 3 c) (.slice none 0 0) (.slice none 0 0) false (.slice none 0 0) 0) ∧ Bas w1 lw C K R g E D' cE cD r w' := by
  have hKx : SchB wx K _ := k.heap hK (by simp)
  have hG : OpsG wx Eo [⟨1, 0, 0, 0, none⟩, ⟨3, 0, 0, 0, some (1, r)⟩, ⟨4, 0, 0, 0, none⟩] := by
    refine ⟨⟨_, hEo⟩, fun i s hs => ?_⟩
    match i with
    | 0 =>
      cases hs
      refine ⟨_, ⟨_, rfl, Or.inl ⟨rfl, rfl⟩⟩, fun j y hy => ?_⟩
      match j with
      | 0 => cases hy; exact cell_is hEo 0 rfl
      | 1 => cases hy; exact cell_is hEo 1 rfl
      | 2 => cases hy; exact cell_is hEo 2 rfl
      | 3 => cases hy; exact cell_is hEo 3 rfl
      | 4 => cases hy; exact cell_is hEo 4 rfl
      | j + 5 => simp at hy
    | 1 =>
      cases hs
      refine ⟨_, ⟨_, rfl, Or.inr ⟨1, r, E0, 0, 1, D, 40, rfl, rfl, cell_is hE0 0 rfl, cell_is hE0 1 rfl, hD.bs, hD.1, _, _, hE0, hD.2⟩⟩, fun j y hy => ?_⟩
      match j with
      | 0 => cases hy; exact cell_is hEo 5 rfl
      | 1 => cases hy; exact cell_is hEo 6 rfl
      | 2 => cases hy; exact cell_is hEo 7 rfl
      | 3 => cases hy; exact cell_is hEo 8 rfl
      | 4 => cases hy; exact cell_is hEo 9 rfl
      | j + 5 => simp at hy
    | 2 =>
      cases hs
      refine ⟨_, ⟨_, rfl, Or.inl ⟨rfl, rfl⟩⟩, fun j y hy => ?_⟩
      match j with
      | 0 => cases hy; exact cell_is hEo 10 rfl
      | 1 => cases hy; exact cell_is hEo 11 rfl
      | 2 => cases hy; exact cell_is hEo 12 rfl
      | 3 => cases hy; exact cell_is hEo 13 rfl
      | 4 => cases hy; exact cell_is hEo 14 rfl
      | j + 5 => simp at hy
    | i + 3 => simp at hs
  refine (sadd_ok wx (c := 3) (lo := lw) (old := []) (xs := []) hKx rfl ⟨by decide, by decide⟩ rfl (World.ownsRow_nil _ _ _ _) rfl (Nat.le_trans hlw k.size) hG (by intro h; cases h) (show 0 + 3 ≤ 200 by decide)).mono ?_
  rintro e w' ⟨rfl, cs', v', xs', hr⟩
  refine ⟨rfl, ?_⟩
  have hown : w'.ownsRow lw 64 5 v' 3 xs' := hr.own
  obtain ⟨g, c, rfl⟩ := own_some hown (by decide)
  have hcs : cs' = _ := sch_set _ _ _ _ _ _ _ _ _ hr.at_ hr.rest
  have hB : SchB w' K _ := hcs ▸ hr.blk
  have hch : Chg [K] wx w' := hr.chg
  have hops : OpsL w' lw [⟨1, 0, 0, 0, none⟩, ⟨3, 0, 0, 0, some (1, r)⟩, ⟨4, 0, 0, 0, none⟩] xs' := hr.ops
  obtain ⟨u1, y1, rfl, ⟨p1, rfl, h1⟩, u2, y2, rfl, ⟨p2, rfl, h2⟩, u3, y3, rfl, ⟨p3, rfl, h3⟩, rfl⟩ := hops
  obtain ⟨-, rfl⟩ : (none : Option (Int × List UInt8)) = none ∧ p1 = .slice none 0 0 := by
    rcases h1 with h | ⟨b, dl, h, -⟩
    · exact h
    · cases h
  obtain ⟨-, rfl⟩ : (none : Option (Int × List UInt8)) = none ∧ p3 = .slice none 0 0 := by
    rcases h3 with h | ⟨b, dl, h, -⟩
    · exact h
    · cases h
  obtain ⟨E, cE, D', cD, ce, rfl, hlE, hlD, hE, hce0, hce1, hbs, hl, hbt⟩ : PutOf w' lw p2 1 r := by
    rcases h2 with ⟨h, -⟩ | ⟨b, dl, h, hp⟩
    · cases h
    · cases h
      exact hp
  have tK : Tp wx [K] [149, 66] := (chgK hKx).k66
  rcases hown.2 with ⟨e, h0⟩ | ⟨g', cap, cur, e, hA, hg, hc1, hc2, hc3, ht⟩
  · cases h0
  cases e
  have hcell : ∀ i v, i < 15 → ([.int .i64 1, .int .i64 0, .int .i64 0, .int .i64 0, .slice none 0 0] ++ ([.int .i64 3, .int .i64 0, .int .i64 0, .int .i64 0, .slice (some ⟨E, 0, none⟩) 1 cE] ++ ([.int .i64 4, .int .i64 0, .int .i64 0, .int .i64 0, .slice none 0 0] ++ [])) : List Value)[i]? = some v → cur[i]? = some v := fun i v hi hv => by
    have : (cur.toList.take (3 * 5))[i]? = some v := by rw [ht]; exact hv
    rwa [List.getElem?_take_of_lt (by omega), Array.getElem?_toList] at this
  refine ⟨g, E, D', cE, cD, c, by simpa using hc1, (hS.keep k).tp149 hch tK, hB, (Up.of0 k).then hch (fun y hy _ => by rw [List.mem_singleton] at hy; omega), hch.heap (k.heap hC (by simp)) ?_, ⟨⟨cur, hg, hcell 0 _ (by decide) rfl, hcell 1 _ (by decide) rfl, hcell 2 _ (by decide) rfl, hcell 3 _ (by decide) rfl, hcell 4 _ (by decide) rfl, hcell 5 _ (by decide) rfl, hcell 6 _ (by decide) rfl, hcell 7 _ (by decide) rfl, hcell 8 _ (by decide) rfl, hcell 9 _ (by decide) rfl, hcell 10 _ (by decide) rfl, hcell 11 _ (by decide) rfl, hcell 12 _ (by decide) rfl, hcell 13 _ (by decide) rfl, hcell 14 _ (by decide) rfl⟩, ⟨ce, hE, hce0, hce1⟩, hbs, hl, hbt⟩⟩
  intro hm
  rw [List.mem_singleton] at hm
  exact heap_ne (k.heap hC (by simp)) hKx (by simp) hm
end Go.Proofs.YtkhionhicegfmaaGreat
namespace Go.Proofs.YtkhionhicegfmaaGreat
open Go.RowKit Go.Lib

theorem Stg.size {x : Pl25} {o av : Value} {q : Bool} {fr ev : Int} {k na : Nat} {w : World} (h : Stg x o av q fr ev k na w) (h0 : x.lw ≤ x.w0.heap.size) : x.lw ≤ w.heap.size := by
  obtain ⟨cs, xs, ⟨T, base, W, rw, Q, V, Bb, bv, al, qf, L, -, -, -, -, hb⟩, -⟩ := h
  obtain ⟨U, h1, -⟩ := hb.up
  exact Nat.le_trans h0 h1.size
theorem StgW.size {x : Pl25} {o av : Value} {q : Bool} {fr ev : Int} {na : Nat} {w : World} (h : StgW x o av q fr ev na w) (h0 : x.lw ≤ x.w0.heap.size) : x.lw ≤ w.heap.size := by
  obtain ⟨cs, xs, ⟨T, W, rw, Q, V, Bb, bv, al, qf, L, gq, cq, -, -, -, -, -, -, hb⟩, -⟩ := h
  obtain ⟨U, h1, -⟩ := hb.up
  exact Nat.le_trans h0 h1.size
theorem StgD.size {x : Pl25} {o av : Value} {q : Bool} {fr ev : Int} {na : Nat} {w : World} (h : StgD x o av q fr ev na w) (h0 : x.lw ≤ x.w0.heap.size) : x.lw ≤ w.heap.size := by
  obtain ⟨T, W, rw, Q, V, Bb, bv, al, s, g, xs, -, -, -, -, -, hb, -⟩ := h
  obtain ⟨U, h1, -⟩ := hb.up
  exact Nat.le_trans h0 h1.size
theorem Stg.wd {x : Pl25} {o av : Value} {q : Bool} {fr ev : Int} {k na : Nat} {w : World} (h : Stg x o av q fr ev k na w) : w.cell? ⟨x.C, 0, none⟩ = some (.pointer (some ⟨x.K, 0, none⟩)) := by
  obtain ⟨cs, xs, ⟨T, base, W, rw, Q, V, Bb, bv, al, qf, L, -, -, -, -, hb⟩, -⟩ := h
  exact cell_is hb.wd 0 rfl
theorem StgW.wd {x : Pl25} {o av : Value} {q : Bool} {fr ev : Int} {na : Nat} {w : World} (h : StgW x o av q fr ev na w) : w.cell? ⟨x.C, 0, none⟩ = some (.pointer (some ⟨x.K, 0, none⟩)) := by
  obtain ⟨cs, xs, ⟨T, W, rw, Q, V, Bb, bv, al, qf, L, gq, cq, -, -, -, -, -, -, hb⟩, -⟩ := h
  exact cell_is hb.wd 0 rfl
theorem StgD.wd {x : Pl25} {o av : Value} {q : Bool} {fr ev : Int} {na : Nat} {w : World} (h : StgD x o av q fr ev na w) : w.cell? ⟨x.C, 0, none⟩ = some (.pointer (some ⟨x.K, 0, none⟩)) := by
  obtain ⟨T, W, rw, Q, V, Bb, bv, al, s, g, xs, -, -, -, -, -, hb, -⟩ := h
  exact cell_is hb.wd 0 rfl
theorem StgW.keep {x : Pl25} {o av : Value} {q : Bool} {fr ev : Int} {na : Nat} {w w' : World} (h : StgW x o av q fr ev na w) (hc : Chg [] w w') : StgW x o av q fr ev na w' := by
  obtain ⟨cs, xs, h1, h2, h3⟩ := h
  exact ⟨cs, xs, (PW.cl x _ _ _ _ _ _).keep w w' [] h1 hc (fun y hy => by cases hy) (fun y hy => by cases hy), hc.heap h2 (by simp), own_keep h3 hc.below0⟩
set_option maxRecDepth 100000 in
set_option maxHeartbeats 4000000 in
theorem awake25 (w : World) : Calls Tryz.prog 31 #[] w fun e w' => e = .returned (.bool true) ∧ Chg [] w w' := by
  go_enter Tryz.func31, Tryz.ntmps31
  go_wp2_with fail
  refine (fresh25 w).mono ?_
  rintro e w1 ⟨C, K, R, d, ops, lw, rfl, k1, hl0, hKl, hCl, hlw, hC, hS, hops, hK⟩
  have c0 : w1.cell? ⟨C, 0, none⟩ = some (.pointer (some ⟨K, 0, none⟩)) := cell_is hC 0 rfl
  have c0d : w1.drew.cell? ⟨C, 0, none⟩ = some (.pointer (some ⟨K, 0, none⟩)) := c0
  have kd : Chg [] w1 w1.drew := (Chg.refl [] w1).drew
  have HX := Lib.hid (And.intro k1 (And.intro hC (And.intro hS (And.intro hK kd))))
  have HI := Lib.hid (And.intro hl0 (And.intro hKl (And.intro hCl (And.intro hlw hops))))
  clear k1 hC hS hK kd hl0 hKl hCl hlw hops
  go_wp2_with fail
  go_region_law
    (first
      | (go_simp; go_at_call 18; refine (data_ok w1.drew 1).mono ?_; rintro e w2 ⟨D, r, rfl, k2, hD, hF⟩; have s2 := k2.cell c0d (by simp); have kA : Chg [] w2 (w2.alloc (.cells #[.int .i64 1, .slice (some ⟨D, 0, none⟩) 40 40] 43)) := Chg.alloc w2 _; have sA := kA.cell s2 (by simp); have kB : Chg [] w2 ((w2.alloc (.cells #[.int .i64 1, .slice (some ⟨D, 0, none⟩) 40 40] 43)).alloc (.cells #[.int .i64 1, .int .i64 0, .int .i64 0, .int .i64 0, .slice none 0 0, .int .i64 3, .int .i64 0, .int .i64 0, .int .i64 0, .slice (some ⟨w2.heap.size, 0, none⟩) 1 1, .int .i64 4, .int .i64 0, .int .i64 0, .int .i64 0, .slice none 0 0] 64)) := kA.then_alloc _; have sB := kB.cell s2 (by simp); have y2 := heap_new2 w2 (.cells #[.int .i64 1, .slice (some ⟨D, 0, none⟩) 40 40] 43) (.cells #[.int .i64 1, .int .i64 0, .int .i64 0, .int .i64 0, .slice none 0 0, .int .i64 3, .int .i64 0, .int .i64 0, .int .i64 0, .slice (some ⟨w2.heap.size, 0, none⟩) 1 1, .int .i64 4, .int .i64 0, .int .i64 0, .int .i64 0, .slice none 0 0] 64); have hFB : Fo ((w2.alloc (.cells #[.int .i64 1, .slice (some ⟨D, 0, none⟩) 40 40] 43)).alloc (.cells #[.int .i64 1, .int .i64 0, .int .i64 0, .int .i64 0, .slice none 0 0, .int .i64 3, .int .i64 0, .int .i64 0, .int .i64 0, .slice (some ⟨w2.heap.size, 0, none⟩) 1 1, .int .i64 4, .int .i64 0, .int .i64 0, .int .i64 0, .slice none 0 0] 64)) D r := ⟨hF.1, kB.heap hF.2 (by simp)⟩)
      | (go_simp; go_at_call 34; refine (add25 _ (R := R) ((HX.out.2.2.2.2.then k2).then kB) HX.out.2.2.1 HX.out.2.2.2.1 HX.out.2.1 HI.out.2.2.2.1 HI.out.2.1 hFB y2.1 y2.2).mono ?_; rintro e w5 ⟨rfl, g, E, D', cE, cD, c, hc3, hS5, hB5, hb5⟩; have s5 : w5.cell? ⟨C, 0, none⟩ = some (.pointer (some ⟨K, 0, none⟩)) := cell_is hb5.wd 0 rfl))
  all_goals
    have hs5 : lw ≤ w5.heap.size := by
      obtain ⟨U, h1, -⟩ := hb5.up
      exact Nat.le_trans HI.out.2.2.2.1 h1.size
    have H5 := Lib.hid (st1 ⟨w1, lw, C, K, R, g, E, D', cE, cD, r, d, ops⟩ w5 hS5 hB5 hb5 HI.out.2.1 hs5 hc3)
    clear c0 c0d k2 hF s2 kA sA kB sB y2 hFB hS5 hB5 hb5 hs5
    go_wp2_with fail
    refine H5.out.mono ?_
    rintro e w6 ⟨v6, av6, rfl, h6⟩
    have s6 : w6.cell? ⟨C, 0, none⟩ = some (.pointer (some ⟨K, 0, none⟩)) := h6.wd
    have H6 := Lib.hid (st2 _ w6 h6 HI.out.2.1 (h6.size HI.out.2.2.2.1) (by omega) (by decide))
    clear H5 s5 h6
    go_wp2_with fail
    refine H6.out.mono ?_
    rintro e w7 ⟨v7, av7, rfl, h7⟩
    have s7 : w7.cell? ⟨C, 0, none⟩ = some (.pointer (some ⟨K, 0, none⟩)) := h7.wd
    have H7 := Lib.hid (st3 _ w7 h7 HI.out.2.1 (h7.size HI.out.2.2.2.1) (by omega))
    clear H6 s6 h7
    go_wp2_with fail
    refine H7.out.mono ?_
    rintro e w8 ⟨rfl, h8⟩
    have k8 : Chg [] w8 (w8.alloc (.cells #[.int .i64 0, .int .i64 0, .int .i64 0, .int .i64 0, .slice none 0 0] 66)) := Chg.alloc w8 _
    have h8' := h8.keep k8
    have s8 : (w8.alloc (.cells #[.int .i64 0, .int .i64 0, .int .i64 0, .int .i64 0, .slice none 0 0] 66)).cell? ⟨C, 0, none⟩ = some (.pointer (some ⟨K, 0, none⟩)) := h8'.wd
    have H8 := Lib.hid (st4 _ _ h8' HI.out.2.1 (h8'.size HI.out.2.2.2.1) HI.out.2.2.2.2)
    clear H7 s7 h8 k8 h8'
    go_wp2_with fail
    refine H8.out.mono ?_
    rintro e w9 ⟨rfl, h9⟩
    have s9 : w9.cell? ⟨C, 0, none⟩ = some (.pointer (some ⟨K, 0, none⟩)) := h9.wd
    have H9 := Lib.hid (st5 _ w9 h9 HI.out.2.1 (h9.size HI.out.2.2.2.1) (by omega) (by decide))
    clear H8 s8 h9
    go_wp2_with fail
    refine H9.out.mono ?_
    rintro e w10 ⟨rfl, h10⟩
    have k10 := Lib.hid (Up.chg0 HX.out.1 h10 HI.out.1)
    have y10 := heap_new w10 (.cells #[.int .i64 4, .int .i64 0, .int .i64 0, .int .i64 1, .slice none 0 0] 66)
    have d0 := cell_is y10 0 rfl
    have d1 := cell_is y10 1 rfl
    have d2 := cell_is y10 2 rfl
    have d3 := cell_is y10 3 rfl
    have d4 := cell_is y10 4 rfl
    clear H9 s9 h10
    go_wp2_with fail
    refine (answer_same _).mono ?_
    rintro e w11 ⟨rfl, k11⟩
    have k12 := Lib.hid ((k10.out.then_alloc _).then k11)
    clear k11 d0 d1 d2 d3 d4 y10
    go_wp2_with fail
    go_ret
    exact ⟨rfl, k12.out⟩
end Go.Proofs.YtkhionhicegfmaaGreat
namespace Go.Proofs.YtkhionhicegfmaaGreat
open Go.RowKit Go.Lib

theorem snew_ok (w : World) (z s : Int) (h : MayP z s) (h16 : z ≤ 16) : Calls Tryz.prog 32 #[.agg #[.int .i64 z, .int .i64 s]] w fun e w' => ∃ K, e = .returned (.tuple #[.pointer (some ⟨K, 0, none⟩), .int .i64 0]) ∧ Chg [] w w' := by
  obtain ⟨n, rfl⟩ : ∃ n : Nat, z = n := ⟨z.toNat, by unfold MayP at h; omega⟩
  obtain ⟨m, rfl⟩ : ∃ m : Nat, s = m := ⟨s.toNat, by unfold MayP at h; omega⟩
  unfold MayP at h
  obtain ⟨md, hi, en, hl⟩ : ∃ md hi en, LayP n md hi en := by
    have : n = 8 ∨ n = 9 ∨ n = 10 ∨ n = 11 ∨ n = 12 ∨ n = 13 ∨ n = 14 ∨ n = 15 ∨ n = 16 := by omega
    rcases this with rfl | rfl | rfl | rfl | rfl | rfl | rfl | rfl | rfl
    · exact ⟨3, 6, 7, by simp [LayP]⟩
    · exact ⟨3, 6, 8, by simp [LayP]⟩
    · exact ⟨3, 6, 9, by simp [LayP]⟩
    · exact ⟨4, 8, 10, by simp [LayP]⟩
    · exact ⟨4, 8, 11, by simp [LayP]⟩
    · exact ⟨4, 8, 12, by simp [LayP]⟩
    · exact ⟨5, 10, 13, by simp [LayP]⟩
    · exact ⟨5, 10, 14, by simp [LayP]⟩
    · exact ⟨6, 12, 15, by simp [LayP]⟩
  exact @snew_g ⟨n, md, hi, en, m, hl, by omega⟩ w
set_option maxRecDepth 100000 in
set_option maxHeartbeats 4000000 in
theorem law8_big (z s a : Int) (w : World) (h : MayP z s) (h16 : 16 < z) : Calls Tryz.prog 8 #[.agg #[.int .i64 z, .int .i64 s], .int .i64 a] w fun e w' => e = .returned (.bool true) ∧ Chg [] w w' := by
  have k0 : Chg [] w (w.alloc (.cells #[.int .i64 z, .int .i64 s] 29)) := Chg.alloc w _
  have y0 := heap_new w (.cells #[.int .i64 z, .int .i64 s] 29)
  have n1 : decide (MayP z s) = true := decide_eq_true h
  have n2 : decide (16 < z) = true := decide_eq_true h16
  go_enter Tryz.func8, Tryz.ntmps8
  go_wp2_with fail
  refine (rmay_any _ z s).mono ?_
  rintro e w1 ⟨rfl, k1⟩
  have y1 := k1.heap y0 (by simp)
  have c0 := cell_is y1 0 rfl
  have c1 := cell_is y1 1 rfl
  have HK := Lib.hid (k0.then k1)
  clear k0 k1 y0 y1
  rw [n1]
  go_wp2_with fail
  refine (awake25 w1).mono ?_
  rintro e w2 ⟨rfl, k2⟩
  have HK2 := Lib.hid (HK.out.then k2)
  clear k2
  go_wp2_with fail
  go_ret
  exact ⟨rfl, HK2.out⟩
set_option maxRecDepth 100000 in
set_option maxHeartbeats 4000000 in
theorem law8_in (z s a : Int) (w : World) (h : MayP z s) (h16 : ¬ 16 < z) : Calls Tryz.prog 8 #[.agg #[.int .i64 z, .int .i64 s], .int .i64 a] w fun e w' => e = .returned (.bool true) ∧ Chg [] w w' := by
  have k0 : Chg [] w (w.alloc (.cells #[.int .i64 z, .int .i64 s] 29)) := Chg.alloc w _
  have y0 := heap_new w (.cells #[.int .i64 z, .int .i64 s] 29)
  have n1 : decide (MayP z s) = true := decide_eq_true h
  have n2 : decide (16 < z) = false := decide_eq_false h16
  go_enter Tryz.func8, Tryz.ntmps8
  go_wp2_with fail
  refine (rmay_any _ z s).mono ?_
  rintro e w1 ⟨rfl, k1⟩
  have y1 := k1.heap y0 (by simp)
  have c0 := cell_is y1 0 rfl
  have c1 := cell_is y1 1 rfl
  have HK := Lib.hid (And.intro (k0.then k1) y1)
  clear k0 k1 y0 y1
  rw [n1]
  go_wp2_with fail
  refine (snew_ok w1 z s h (by omega)).mono ?_
  rintro e w2 ⟨K, rfl, k2⟩
  have y2 := k2.heap HK.out.2 (by simp)
  have HK2 := Lib.hid (And.intro (HK.out.1.then k2) y2)
  clear k2 c0 c1 y2
  go_wp2_with fail
  refine (step_nil w2 a).mono ?_
  rintro e w3 ⟨rfl, k3⟩
  have k4 : Chg [] w2 (w3.alloc (.cells #[.int .i64 0, .int .i64 0, .int .i64 0, .int .i64 0, .slice none 0 0] 66)) := k3.then_alloc _
  have y4 := k4.heap HK2.out.2 (by simp)
  have HK4 := Lib.hid (And.intro (HK2.out.1.then k4) y4)
  go_upto_region 6 with fail
  generalize w3.alloc (.cells #[.int .i64 0, .int .i64 0, .int .i64 0, .int .i64 0, .slice none 0 0] 66) = w4 at *
  have c0 := cell_is y4 0 rfl
  have c1 := cell_is y4 1 rfl
  clear k3 k4 y4
  go_wp2_with fail
  refine (rmay_any _ z s).mono ?_
  rintro e w5 ⟨rfl, k5⟩
  have y5 := k5.heap HK4.out.2 (by simp)
  have d0 := cell_is y5 0 rfl
  have d1 := cell_is y5 1 rfl
  have HK5 := Lib.hid (And.intro (HK4.out.1.then k5) y5)
  clear k5 c0 c1 y5
  rw [n1]
  go_wp2_with fail
  refine (rmay_any _ z s).mono ?_
  rintro e w6 ⟨rfl, k6⟩
  have HK6 := Lib.hid (HK5.out.1.then k6)
  clear k6 d0 d1
  rw [n1]
  go_wp2_with fail
  refine (add_nil w6 a).mono ?_
  rintro e w7 ⟨rfl, rfl⟩
  go_wp2_with fail
  refine (left_nil w6 a).mono ?_
  rintro e w7 ⟨rfl, rfl⟩
  go_wp2_with fail
  refine (hist_nil w6).mono ?_
  rintro e w7 ⟨rfl, rfl⟩
  go_wp2_with fail
  refine (store_nil w6).mono ?_
  rintro e w7 ⟨rfl, rfl⟩
  go_wp2_with fail
  refine (awake25 w6).mono ?_
  rintro e w7 ⟨rfl, k7⟩
  have HK7 := Lib.hid (HK6.out.then k7)
  clear k7
  go_wp2_with fail
  go_ret
  exact ⟨rfl, HK7.out⟩
set_option maxRecDepth 100000 in
set_option maxHeartbeats 4000000 in
theorem law8_no (z s a : Int) (w : World) (h : ¬ MayP z s) : Calls Tryz.prog 8 #[.agg #[.int .i64 z, .int .i64 s], .int .i64 a] w fun e w' => e = .returned (.bool true) ∧ Chg [] w w' := by
  have k0 : Chg [] w (w.alloc (.cells #[.int .i64 z, .int .i64 s] 29)) := Chg.alloc w _
  have y0 := heap_new w (.cells #[.int .i64 z, .int .i64 s] 29)
  have n1 : decide (MayP z s) = false := decide_eq_false h
  go_enter Tryz.func8, Tryz.ntmps8
  go_wp2_with fail
  refine (rmay_any _ z s).mono ?_
  rintro e w1 ⟨rfl, k1⟩
  have y1 := k1.heap y0 (by simp)
  have c0 := cell_is y1 0 rfl
  have c1 := cell_is y1 1 rfl
  have HK := Lib.hid (And.intro (k0.then k1) y1)
  clear k0 k1 y0 y1
  rw [n1]
  go_wp2_with fail
  refine (snew_bad w1 z s h).mono ?_
  rintro e w2 ⟨rfl, k2⟩
  have y2 := k2.heap HK.out.2 (by simp)
  have HK2 := Lib.hid (And.intro (HK.out.1.then k2) y2)
  clear k2 c0 c1 y2
  go_wp2_with fail
  refine (step_nil w2 a).mono ?_
  rintro e w3 ⟨rfl, k3⟩
  have k4 : Chg [] w2 (w3.alloc (.cells #[.int .i64 0, .int .i64 0, .int .i64 0, .int .i64 0, .slice none 0 0] 66)) := k3.then_alloc _
  have y4 := k4.heap HK2.out.2 (by simp)
  have HK4 := Lib.hid (And.intro (HK2.out.1.then k4) y4)
  go_upto_region 6 with fail
  generalize w3.alloc (.cells #[.int .i64 0, .int .i64 0, .int .i64 0, .int .i64 0, .slice none 0 0] 66) = w4 at *
  have c0 := cell_is y4 0 rfl
  have c1 := cell_is y4 1 rfl
  clear k3 k4 y4
  go_wp2_with fail
  refine (rmay_any _ z s).mono ?_
  rintro e w5 ⟨rfl, k5⟩
  have y5 := k5.heap HK4.out.2 (by simp)
  have d0 := cell_is y5 0 rfl
  have d1 := cell_is y5 1 rfl
  have HK5 := Lib.hid (And.intro (HK4.out.1.then k5) y5)
  clear k5 c0 c1 y5
  rw [n1]
  go_wp2_with fail
  refine (rmay_any _ z s).mono ?_
  rintro e w6 ⟨rfl, k6⟩
  have HK6 := Lib.hid (HK5.out.1.then k6)
  clear k6 d0 d1
  rw [n1]
  go_wp2_with fail
  refine (add_nil w6 a).mono ?_
  rintro e w7 ⟨rfl, rfl⟩
  go_wp2_with fail
  refine (left_nil w6 a).mono ?_
  rintro e w7 ⟨rfl, rfl⟩
  go_wp2_with fail
  refine (hist_nil w6).mono ?_
  rintro e w7 ⟨rfl, rfl⟩
  go_wp2_with fail
  refine (store_nil w6).mono ?_
  rintro e w7 ⟨rfl, rfl⟩
  go_wp2_with fail
  refine (awake25 w6).mono ?_
  rintro e w7 ⟨rfl, k7⟩
  have HK7 := Lib.hid (HK6.out.then k7)
  clear k7
  go_wp2_with fail
  go_ret
  exact ⟨rfl, HK7.out⟩
theorem law8_any (z s a : Int) (w : World) : Calls Tryz.prog 8 #[.agg #[.int .i64 z, .int .i64 s], .int .i64 a] w fun e w' => e = .returned (.bool true) ∧ Chg [] w w' := by
  by_cases h : MayP z s
  · by_cases h16 : 16 < z
    · exact law8_big z s a w h h16
    · exact law8_in z s a w h h16
  · exact law8_no z s a w h
end Go.Proofs.YtkhionhicegfmaaGreat
namespace Go.Proofs.YtkhionhicegfmaaGreat
open Go.ChangeShapes Go.WideShapes Go.ChangeAt Go.RowKit Go.Deep Go.Joins
set_option maxRecDepth 100000

theorem ownk : ownKnob Tryz.prog.godebug = none := by kernel_rfl
/-- what a contract with 'Below' gives of a row's sentence. -/
theorem post_below {H : Type} {enc : TypeId × Value → H} {f : Func} {s : ChangeSpec} {W W' : World} {args : Array Value} {v : Value} {ds gs : List (DataW H)} {before pa pv : List MemPlace} (hb : Below W.heap.size W W')
    (hW : DataW.Whole enc Tryz.prog f.params.toList s.vars false W args.toList ds gs before)
    (hres : DataW.TrodAll enc Tryz.prog W' W.heap.size (fun _ => false) false f.resultTypes.toList (v.resultList f.resultTypes.size) (s.fn H (ds ++ gs)).results [])
    (hargs : DataW.TrodAll enc Tryz.prog W' 0 (fun b => decide (b < W.heap.size)) true f.params.toList args.toList (s.fn H (ds ++ gs)).args pa)
    (hvars : DataW.TrodVars enc Tryz.prog W' (fun b => decide (b < W.heap.size)) s.vars (s.fn H (ds ++ gs)).vars pv) :
    s.post enc Tryz.prog f false true false false W args v W' :=
  ⟨ds, gs, before, [], pa, pv, hW, hres, hargs, hvars, hb.frame _, fun h => by cases h⟩

end Go.Proofs.YtkhionhicegfmaaGreat
namespace Go.Proofs.YtkhionhicegfmaaGreat
open Go.ChangeShapes Go.WideShapes Go.ChangeAt Go.RowKit Go.Deep Go.Joins
set_option maxRecDepth 100000
theorem laidOut0 : laidOutB Tryz.prog = true := by kernel_rfl
theorem read29 : Tryz.prog.readableRec 29 = true := by kernel_rfl
theorem typesN : 100 < Tryz.prog.types.size := by have h : decide (100 < Tryz.prog.types.size) = true := by kernel_rfl
                                                  exact of_decide_eq_true h
theorem cells3 : Tryz.prog.cellsOf 3 = 1 := by kernel_rfl
theorem cells29 : Tryz.prog.cellsOf 29 = 2 := by kernel_rfl
section
variable {H : Type} {enc : TypeId × Value → H} {W : World}
theorem int_trod {fuel : Nat} {v : Value} {y : DataW H × List MemPlace} (hf : DataW.trod enc Tryz.prog W 0 (fun _ => true) true fuel 3 [v] = some y) : ∃ n : Int, v = .int .i64 n := by
  obtain ⟨n, hc, _, hw⟩ := DataW.trod_int Tryz.underlying3 hf
  simp only [List.cons.injEq, and_true] at hc
  exact ⟨n, hc⟩
/-- an argument of type api.Geometry, opened. -/
theorem open_geo {base : Nat} {v1 : Value} {d1 : DataW H} {p1 : List MemPlace} (hval : Value.okWide Tryz.prog W .any base 29 v1) (h1 : DataW.Trod enc Tryz.prog W 0 (fun _ => true) true 29 v1 d1 p1) : ∃ z s : Int, v1 = .agg #[.int .i64 z, .int .i64 s] := by
  obtain ⟨cs, rfl, hsz⟩ := okWide_struct Tryz.underlying29 hval
  obtain ⟨l⟩ := cs
  obtain ⟨fuel, hf⟩ := h1
  have hf' : DataW.trod enc Tryz.prog W 0 (fun _ => true) true fuel 29 l = some (d1, p1) := by simpa [Value.cells] using hf
  obtain ⟨xs, n, _, _, hlen, hxs, hg⟩ := DataW.trod_struct Tryz.underlying29 hf'
  rw [cells29] at hlen
  match l, hlen with
  | [c0, c1], _ =>
    have hxs' : xs.length = 2 := hxs
    match xs, hxs' with
    | [x0, x1], _ =>
      have g0 : DataW.trod enc Tryz.prog W 0 (fun _ => true) true n 3 [c0] = some x0 := by simpa [cells3] using hg 0 _ rfl
      have g1 : DataW.trod enc Tryz.prog W 0 (fun _ => true) true n 3 [c1] = some x1 := by simpa [cells3] using hg 1 _ rfl
      obtain ⟨k, rfl⟩ := int_trod (y := x0) g0
      obtain ⟨h, rfl⟩ := int_trod (y := x1) g1
      exact ⟨k, h, rfl⟩
end
namespace Law8
theorem contract (H : Type) (enc : TypeId × Value → H) (W : World) (base : Nat) (args : Array Value) (ds gs : List (DataW H)) (before : List MemPlace)
    (hval : ∀ (j : Nat) t v, Tryz.f8.params[j]? = some t → args[j]? = some v → Value.okWide Tryz.prog W .any base t v)
    (hW : DataW.Whole enc Tryz.prog Tryz.f8.params.toList Rows.schedNothingSpec.vars false W args.toList ds gs before) :
    Calls Tryz.prog 8 args W fun e W' => ∃ v, e = .returned v ∧ Rows.schedNothingSpec.post enc Tryz.prog Tryz.f8 false true false false W args v W' := by
  have hW' := hW
  obtain ⟨p, q, hA0, hV, rfl, hfz, hnd⟩ := hW
  have hA : DataW.TrodAll enc Tryz.prog W 0 (fun _ => true) true Tryz.f8.params.toList args.toList ds p := hA0
  rw [Tryz.params8] at hA hval
  obtain ⟨v0, v1, d0, d1, p0, p1, rfl, rfl, rfl, h00, h01⟩ := trodAll_two hA
  obtain ⟨rfl, rfl⟩ := trodVars_none hV
  have hlt : ∀ x ∈ p0 ++ p1, x.block < W.heap.size := fun x hx => hW'.lt x (by simpa using hx)
  obtain ⟨z, s, rfl⟩ := open_geo (hval 0 29 v0 rfl rfl) h00
  obtain ⟨a1, rfl, rfl, rfl, w1⟩ := open_int Tryz.underlying3 (hval 1 3 v1 rfl rfl) h01
  refine (law8_any z s a1 W).mono fun e W' ⟨he, hc⟩ => ?_
  have hb := hc.below0
  subst he
  exact ⟨_, rfl, post_below hb hW' (trodAll_mk1 (shut_bool Tryz.underlying4 _))
    (trodAll_mk2 (Below.trod laidOut0 read29 (Nat.lt_trans (by decide) typesN) h00 hb (fun x hx => hlt x (List.mem_append_left _ hx))) (shut_int Tryz.underlying3 w1)) rfl⟩
theorem lifted (os : Os) (started : os.Started) (H : Type) (enc : TypeId × Value → H) :
    ReturnsInHanded {} Tryz.checked os 8 .any (Rows.schedNothingSpec.pre6 enc Tryz.prog Tryz.f8 Rows.schedNothingRow.domain false) (Rows.schedNothingSpec.post enc Tryz.prog Tryz.f8 false true false false) := by
  refine returnsInHanded_of_change (C := Tryz.checked) ownk started (by kernel_rfl) Tryz.func8
    (ChangeSpec.witness6 (enc := enc) (C := Tryz.checked) false ⟨#[], #[.agg #[.int .i64 0, .int .i64 0], .int .i64 0], []⟩ 8 (by kernel_rfl) (by kernel_rfl) (by kernel_rfl) (by kernel_rfl)) ?_
  intro W base args ds gs before hval0 hW hcnd _
  exact contract H enc W base args ds gs before hval0 hW
theorem over : Rows.schedNothingRow.holds Tryz.pinned (OpenSpec.ofChange Rows.schedNothingSpec) :=
  OpenClaim.holds_of_wide 8 Tryz.f8 rfl rfl rfl rfl rfl rfl rfl ⟨rfl, rfl, rfl, rfl, rfl⟩ rfl rfl rfl rfl rfl (by kernel_rfl) Tryz.func8 (by kernel_rfl)
    (of_decide_eq_true (by kernel_rfl)) (by unfold Func.isWrapper; first | (rw [if_pos (by decide +kernel)]; kernel_rfl) | (rw [if_neg (by decide +kernel)]; exact ⟨rfl, rfl⟩))
    (fun os started H enc _ => lifted os started H enc)
theorem said : Rows.SchedNothingSaid := over
end Law8
end Go.Proofs.YtkhionhicegfmaaGreat
