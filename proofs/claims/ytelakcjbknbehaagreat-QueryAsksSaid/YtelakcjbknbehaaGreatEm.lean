/- Lemmas and walks. -/
import Derived.Deep.QuietTactic
import Derived.Deep.CutBlock
import Derived.Test.YtelakcjbknbehaaGreatEe
import Derived.Test.YtelakcjbknbehaaGreatEh
import Derived.Test.YtelakcjbknbehaaGreatEi
import Derived.Test.YtelakcjbknbehaaGreatEl
namespace Go.Proofs.YtelakcjbknbehaaGreat
open Go.RowKit Go.Lib

theorem Bs.catQ {w : World} {g : Nat} {z : Int → List UInt8} {b : Int} {m j : Nat} (h : Bs w (some ⟨g, 0, none⟩) (catQ z b m)) (hl : ∀ i : Nat, i < m → (z (b + (i : Int))).length = 40) (hj : j < m) : Bs w (some ⟨g, 40 * j, none⟩) (z (b + (j : Int))) := by
 obtain ⟨R, e⟩ : ∃ R, Go.Proofs.YtelakcjbknbehaaGreat.catQ z b m = Go.Proofs.YtelakcjbknbehaaGreat.catQ z b j ++ (z (b + (j : Int)) ++ R) := by
  obtain ⟨k, rfl⟩ : ∃ k, m = (j + 1) + k := ⟨m - (j + 1), by omega⟩
  exact ⟨_, by rw [catQ_split, catQ_succ, List.append_assoc]⟩
 have l1 : (Go.Proofs.YtelakcjbknbehaaGreat.catQ z b j).length = 40 * j := catQ_len (fun i hi => hl i (by omega))
 have h40 := hl j hj
 have hlen := catQ_len hl
 rcases h with h | ⟨b', off, he, hb, hc⟩
 ·rw [h] at hlen; simp at hlen; omega
 ·cases he
  refine Or.inr ⟨g, 40 * j, rfl, hb, fun i hi => ?_⟩
  have hb2 : 40 * j + i < (Go.Proofs.YtelakcjbknbehaaGreat.catQ z b m).length := by rw [hlen]; omega
  have h2 := hc (40 * j + i) hb2
  rw [Nat.zero_add] at h2
  have e2 : (Go.Proofs.YtelakcjbknbehaaGreat.catQ z b m)[40 * j + i]? = some (z (b + (j : Int)))[i] := by
   rw [e, List.getElem?_append_right (by omega), l1, Nat.add_sub_cancel_left, List.getElem?_append_left hi, List.getElem?_eq_getElem hi]
  rw [List.getElem?_eq_getElem hb2] at e2
  rw [h2, Option.some.inj e2]
theorem copy_mid {cur : List Value} {M l : List UInt8} {k n : Nat} (hM : M.length = n) (hc : cur.take n = Lib.byteCells M) (hk : k + l.length ≤ n) :
  (cur.take k ++ (Lib.byteCells l ++ cur.drop (k + (Lib.byteCells l).length))).take n = Lib.byteCells (M.take k ++ (l ++ M.drop (k + l.length))) := by
 obtain ⟨R, hR⟩ : ∃ R, cur = Lib.byteCells M ++ R := ⟨cur.drop n, by rw [← hc, List.take_append_drop]⟩
 have hA : (Lib.byteCells M).length = n := by simp [Lib.byteCells, hM]
 have hl : (Lib.byteCells l).length = l.length := by simp [Lib.byteCells]
 have e1 : Lib.byteCells (M.take k) = (Lib.byteCells M).take k := by simp [Lib.byteCells, List.map_take]
 have e2 : Lib.byteCells (M.drop (k + l.length)) = (Lib.byteCells M).drop (k + l.length) := by simp [Lib.byteCells, List.map_drop]
 have e3 : (Lib.byteCells M ++ R).take k = (Lib.byteCells M).take k := List.take_append_of_le_length (by omega)
 have e4 : (Lib.byteCells M ++ R).drop (k + l.length) = (Lib.byteCells M).drop (k + l.length) ++ R := List.drop_append_of_le_length (by omega)
 rw [hl, hR, e3, e4, byteCells_app, byteCells_app, e1, e2, ← List.append_assoc (Lib.byteCells l), ← List.append_assoc]
 exact List.take_left' (by simp only [List.length_append, List.length_take, List.length_drop, hA, hl]; omega)
structure Gm (w wr : World) (base Q X W V n K g c' m0 : Nat) (t b : Int) (m : Nat) (s0 : Value) (l : List UInt8) (j : Nat) : Prop where
 k : Chg (V :: Q :: s0.ownBlock.toList) w wr
 v : ∃ s mm xs, ViewT wr Q X W V t s ∧ mm ≤ m0 + j ∧ wr.ownsRow base 255 3 s mm xs ∧ ∀ x, s.ownBlock = some x → s0.ownBlock = some x ∨ w.heap.size ≤ x
 sp : SpV wr base V (n + 1)
 kb : wr.heap[K]? = some (.cells #[.int .i64 b, .int .i64 (m : Int)] 79 (0, 0))
 row : ∃ cur, wr.heap[g]? = some (.cells cur 5 (0, 0)) ∧ cur.size = c' ∧ cur.toList.take (40 * m) = Lib.byteCells l
theorem Gm.step {w wb wc w5 : World} {base Q X W V n K g c' m0 m mm g5 cp5 j : Nat} {t b : Int} {s0 s : Value} {xs ys : List Value} {l : List UInt8} {cur : Array Value} (hk : Chg (V :: Q :: s0.ownBlock.toList) w wb)
  (hs : ∀ x, s.ownBlock = some x → s0.ownBlock = some x ∨ w.heap.size ≤ x) (sb : SpV wb base V (n + 1)) (Kb : wb.heap[K]? = some (.cells #[.int .i64 b, .int .i64 (m : Int)] 79 (0, 0)))
  (hg : wb.heap[g]? = some (.cells cur 5 (0, 0))) (hc : cur.size = c' ∧ cur.toList.take (40 * m) = Lib.byteCells l) (ky : Chg [] wb wc) (qy : ViewT wc Q X W V t s) (oy : wc.ownsRow base 255 3 s mm xs) (hm : mm ≤ m0 + j)
  (o5 : w5.ownsRow base 255 3 (.slice (some ⟨g5, 0, none⟩) (mm + 1) cp5) (mm + 1) ys) (k5 : Chg s.ownBlock.toList wc w5) (l5 : s.ownBlock = some g5 ∨ g5 = wc.heap.size) :
  Gm w (w5.setCell ⟨Q, 4, none⟩ (.slice (some ⟨g5, 0, none⟩) (mm + 1) cp5)) base Q X W V n K g c' m0 t b m s0 l (j + 1) := by
 have hav : Av wc s.ownBlock.toList [79, 305, 5, 274] := by
  intro x hx cs t fr hh
  rcases oy.2 with ⟨rfl, _⟩ | ⟨k, cap, cur, rfl, hb, hk, rest⟩
  ·simp [Value.ownBlock] at hx
  ·simp [Value.ownBlock] at hx
   subst hx
   rw [hk] at hh
   cases hh
   simp
 have q5 := k5.heap qy (hav.ne qy (by simp))
 have kS := Chg.set w5 Q 4 (.slice (some ⟨g5, 0, none⟩) (mm + 1) cp5)
 have hq1 : Av w5 [Q] [79, 305, 5, 255] := fun x hx cs t fr hh => by
  rw [List.mem_singleton] at hx; subst hx; rw [q5] at hh; cases hh; simp
 have gy := ky.heap hg (by simp)
 have Ky := ky.heap Kb (by simp)
 have g6 := k5.heap gy (hav.ne gy (by simp))
 have K6 := k5.heap Ky (hav.ne Ky (by simp))
 refine ⟨?_, ⟨_, mm + 1, ys, heap_set q5 4 _ rfl, by omega, ownsRow_av o5 kS (fun x hx cs t fr hh ht => hq1 x hx cs t fr hh (by simp at ht; simp [ht])), fun x hx => ?_⟩, ((sb.keep0 ky).keep k5 (fun x hx cs t fr hh ht => hav x hx cs t fr hh (by simp at ht; rcases ht with h | h <;> simp [h]))).keep kS (fun x hx cs t fr hh ht => hq1 x hx cs t fr hh (by simp at ht; rcases ht with h | h <;> simp [h])), kS.heap K6 (hq1.ne K6 (by simp)), cur, kS.heap g6 (hq1.ne g6 (by simp)), hc⟩
 ·refine ((hk.trans ky (fun x hx _ => by cases hx)).trans k5 (fun x hx hlt => ?_)).trans kS (fun x hx _ => by simp at hx; simp [hx])
  rcases hs x (by simpa using hx) with h | h
  ·simp [h]
  ·omega
 ·have e1 : g5 = x := by simpa [Value.ownBlock] using hx
  subst e1
  rcases l5 with h | h
  ·exact hs _ h
  ·have h1 := hk.size
   have h2 := ky.size
   exact Or.inr (by omega)
set_option maxRecDepth 100000 in
set_option maxHeartbeats 20000000 in
theorem gread_m (w : World) {base Q X rx W rw V n lo m : Nat} {last t : Int} {Lv : List (Int × Value)} {vs : Int → List (Int × List UInt8)} {L : List (Int × Value)} {b : Int} {qc : Int → List UInt8} (hX : VerG w lo X rx last Lv vs) (hW : BufAt w W rw L) (hB : ∀ i : Nat, i < m → BlkT w L (vs (b + (i : Int))) t (b + (i : Int)) (qc (b + (i : Int)))) (hV : VwT w base Q X W V t n) (hS : SpV w base V n) (hn : n ≤ 60) (hbase : base ≤ Q ∧ base ≤ V) (h0 : 0 ≤ b) (hm0 : 1 ≤ m) (hm1 : m ≤ 16) (h1 : b + m ≤ 258) :
  Calls Tryz.prog 170 #[.pointer (some ⟨Q, 0, none⟩), .agg #[.int .i64 b, .int .i64 m]] w fun e w' =>
  ∃ g c' T, e = .returned (.tuple #[.slice (some ⟨g, 0, none⟩) (40 * m) c', .int .i64 0]) ∧ 40 * m ≤ c' ∧ Chg T w w' ∧ Rt w base T ∧ RdX w w' Q V T ∧ w.heap.size ≤ g ∧ Bs w' (some ⟨g, 0, none⟩) (catQ qc b m) ∧ Bt w' g ∧ VwT w' base Q X W V t (n + 1) ∧ SpV w' base V (n + 1) := by
 have k0 : Chg [] w (w.alloc (.cells #[.int .i64 b, .int .i64 m] 79)) := Chg.alloc w _
 have K0 := heap_new w (.cells #[.int .i64 b, .int .i64 m] 79)
 have hX1 := hX.keep k0
 have hY : ∀ i : Nat, i < m → (bytT (vs (b + (i : Int))) t).length = 40 := fun i hi => hX.len (by omega) (by omega) t
 have hq40 : ∀ i : Nat, i < m → (qc (b + (i : Int))).length = 40 := fun i hi => by
  rcases hB i hi with ⟨-, e⟩ | ⟨_, _, -, -, e, -⟩
  ·rw [e]; exact hY i hi
  ·exact e
 have HM := Lib.hid (fun i (hi : i < m) => And.intro (hq40 i hi) (hY i hi))
 obtain ⟨s, m0, xs, qw, hm, how⟩ := hV
 have q := k0.heap qw (by simp)
 have hS1 := hS.keep0 k0
 have HRt : Rt w base (V :: Q :: s.ownBlock.toList) := by
  intro x hx
  simp only [List.mem_cons] at hx
  rcases hx with rfl | rfl | hx
  ·exact ⟨hbase.2, _, _, _, hS.choose_spec.choose_spec.1, by simp⟩
  ·exact ⟨hbase.1, _, _, _, qw, by simp⟩
  ·rcases how.2 with ⟨rfl, _⟩ | ⟨k, cap, cur, rfl, hb, hk, rest⟩
   ·simp [Value.ownBlock] at hx
   ·simp [Value.ownBlock] at hx
    subst hx
    exact ⟨hb, _, _, _, hk, by simp⟩
 have HS0 : Hid (w.cell? ⟨Q, 4, none⟩ = some s) := Lib.hid (cell_is qw 4 rfl)
 have hQl := heap_lt qw
 have HW := Lib.hid hW
 have HB := Lib.hid hB
 have HO := Lib.hid how
 have HY := Lib.hid hY
 have c1 : ¬ ((m : Int) < 1) := by omega
 have c2 : ¬ ((m : Int) > 16) := by omega
 clear hY hq40 hW hB
 have q0 : (w.alloc (.cells #[.int .i64 b, .int .i64 m] 79)).cell? ⟨Q, 0, none⟩ = some (.pointer (some ⟨X, 0, none⟩)) := cell_is q 0 rfl
 have q2 : (w.alloc (.cells #[.int .i64 b, .int .i64 m] 79)).cell? ⟨Q, 2, none⟩ = some (.int .i64 t) := cell_is q 2 rfl
 have a0 : (w.alloc (.cells #[.int .i64 b, .int .i64 m] 79)).cell? ⟨w.heap.size, 0, none⟩ = some (.int .i64 b) := cell_is K0 0 rfl
 have a1 : (w.alloc (.cells #[.int .i64 b, .int .i64 m] 79)).cell? ⟨w.heap.size, 1, none⟩ = some (.int .i64 m) := cell_is K0 1 rfl
 go_enter Tryz.func170, Tryz.ntmps170
 go_wp2_with fail
 go_step3
 go_wp2_with fail
 generalize w.alloc (.cells #[.int .i64 b, .int .i64 m] 79) = w1 at *
 generalize hK : w.heap.size = K at *
 go_region_held3 (fun wx => wx.cell? ⟨Q, 0, none⟩ = some (.pointer (some ⟨X, 0, none⟩)) ∧ wx.cell? ⟨Q, 2, none⟩ = some (.int .i64 t) ∧ wx.cell? ⟨K, 0, none⟩ = some (.int .i64 b) ∧ wx.cell? ⟨K, 1, none⟩ = some (.int .i64 m))
  (first | (exact ⟨q0, q2, a0, a1⟩) | (exact ⟨k2.cell q0 (by simp), k2.cell q2 (by simp), k2.cell a0 (by simp), k2.cell a1 (by simp)⟩))
  (first | (go_at_call 215; refine (grange_m w1.drew (t := t) (n := m) (hX1.keep (Chg.refl [] w1).drew) h0 (by omega) h1).mono ?_; rintro e w2 ⟨g, c', rfl, hc', k2, o2⟩))
 have kk2 := (Chg.refl [] w1).drew.then k2
 have q := kk2.heap q (by simp)
 have K0 := kk2.heap K0 (by simp)
 have hS2 := hS1.keep0 kk2
 have hK2 : K ≤ w2.heap.size := by have := k0.size; have := kk2.size; omega
 have ho2 : w2.ownsRow K 5 1 (.slice (some ⟨g, 0, none⟩) (40 * m) c') (40 * m) (Lib.byteCells (catQ (fun x => bytT (vs x) t) b m)) := ownsRow_base o2 (by have := k0.size; show K ≤ w1.heap.size; omega)
 have kk := k0.then kk2
 clear q0 q2 a0 a1 hX1 hS1 o2 k0 k2 kk2
 have q3 : w2.cell? ⟨Q, 3, none⟩ = some (.pointer (some ⟨V, 0, none⟩)) := cell_is q 3 rfl
 have a0 : w2.cell? ⟨K, 0, none⟩ = some (.int .i64 b) := cell_is K0 0 rfl
 have a1 : w2.cell? ⟨K, 1, none⟩ = some (.int .i64 m) := cell_is K0 1 rfl
 go_wp2_with fail
 have kx : Chg [] w2 (w2.drew.alloc (.cells #[.int .i64 b, .int .i64 m] 79)) := (Chg.refl [] w2).drew.then_alloc _
 have kx0 := heap_new w2.drew (.cells #[.int .i64 b, .int .i64 m] 79)
 have hVK : V ≠ K := by obtain ⟨_, _, hh, _⟩ := hS2; exact heap_ne hh K0 (by simp)
 have hVQ : V ≠ Q := by obtain ⟨_, _, hh, _⟩ := hS2; exact heap_ne hh q (by simp)
 have hbw : base ≤ (w2.drew.alloc (.cells #[.int .i64 b, .int .i64 m] 79)).heap.size := by have := heap_lt q; have := kx.size; omega
 have kx2 : Chg [V] w2 (w2.drew.alloc (.cells #[.int .i64 b, .int .i64 m] 79)) := kx.mono (fun x hx _ => by cases hx)
 go_region_held3 (fun wx => wx.cell? ⟨Q, 3, none⟩ = some (.pointer (some ⟨V, 0, none⟩)) ∧ wx.cell? ⟨K, 0, none⟩ = some (.int .i64 b) ∧ wx.cell? ⟨K, 1, none⟩ = some (.int .i64 m))
  (first | (exact ⟨q3, a0, a1⟩) | (exact ⟨kx.cell q3 (by simp), kx.cell a0 (by simp), kx.cell a1 (by simp)⟩) | (exact ⟨(kx2.then k3).cell q3 (by simpa using hVQ.symm), (kx2.then k3).cell a0 (by simpa using hVK.symm), (kx2.then k3).cell a1 (by simpa using hVK.symm)⟩))
  (first | (go_at_call 216; refine (iadd_m (w2.drew.alloc (.cells #[.int .i64 b, .int .i64 m] 79)) (base := base) (V := V) (n := n) (E := w2.drew.heap.size) (hS2.keep0 kx) hn hbw h0 (by omega) h1 (cell_is kx0 0 rfl) (cell_is kx0 1 rfl)).mono ?_; rintro e w3 ⟨rfl, k3, hS3⟩))
 have k4 := kx2.then k3
 have q := k4.heap q (by simpa using hVQ.symm)
 have K0 := k4.heap K0 (by simpa using hVK.symm)
 obtain ⟨cur, hg3, hcur, hgK⟩ : ∃ cur, w3.heap[g]? = some (.cells cur 5 (0, 0)) ∧ (cur.size = c' ∧ cur.toList.take (40 * m) = Lib.byteCells (catQ (fun x => bytT (vs x) t) b m)) ∧ K ≤ g := by
  rcases ho2.2 with ⟨e, h0⟩ | ⟨g', cap, cur, e, hA, hgt, _, _, hsz, htk⟩
  ·omega
  ·cases e
   obtain ⟨_, _, hh, _⟩ := hS2
   exact ⟨cur, k4.heap hgt (by simpa using heap_ne hgt hh (by simp)), ⟨by omega, by simpa using htk⟩, hA⟩
 have kw3 : Chg (V :: Q :: s.ownBlock.toList) w w3 := (kk.mono (fun x hx _ => by cases hx)).then (k4.mono (fun x hx _ => by simp at hx; simp [hx]))
 have ho3 := ownsRow_chgV (ownsRow_chgV HO.out (kk.mono (T := [V]) (fun x hx _ => by cases hx)) hS.choose_spec.choose_spec.1) k4 hS2.choose_spec.choose_spec.1
 obtain ⟨yb, hyb⟩ : ∃ yb, yb = fun x => bytT (vs x) t := ⟨_, rfl⟩
 rw [← hyb] at hcur
 have hY2 : ∀ i : Nat, i < m → (qc (b + (i : Int))).length = 40 ∧ (yb (b + (i : Int))).length = 40 := fun i hi => by rw [hyb]; exact HM.out i hi
 have hmx : ∀ j, ∀ i : Nat, i < m → (mixQ qc yb b j (b + (i : Int))).length = 40 := fun j i hi => by
  unfold mixQ; split
  ·exact (hY2 i hi).1
  ·exact (hY2 i hi).2
 have hgm : Gm w w3 base Q X W V n K g c' m0 t b m s (catQ (mixQ qc yb b 0) b m) 0 :=
  ⟨kw3, ⟨s, m0, xs, q, by omega, ho3, fun x hx => Or.inl hx⟩, hS3, K0, cur, hg3, hcur.1, by
   rw [hcur.2, show catQ (mixQ qc yb b 0) b m = catQ yb b m from catQ_congr (fun i hi => by unfold mixQ; rw [if_neg (by omega)])]⟩
 have HMX := Lib.hid hmx
 have HYB := Lib.hid hyb
 have HY2 := Lib.hid hY2
 clear q q3 a0 a1 hS2 ho2 kx kx2 kx0 k3 k4 hX hS kk hbw hcur hS3 ho3 kw3 K0 hmx hyb hY2 HM HY hg3
 have hKg : w.heap.size ≤ g := by omega
 obtain ⟨_, _, _, q3, _, _, _⟩ := hgm.v
 have a0 : w3.cell? ⟨K, 0, none⟩ = some (.int .i64 b) := cell_is hgm.kb 0 rfl
 have a1 : w3.cell? ⟨K, 1, none⟩ = some (.int .i64 m) := cell_is hgm.kb 1 rfl
 clear q3
 go_wp2_with fail
 go_step3
 go_wp2_with fail
 go_loopw [8, 9, 10, 11, 55] (fun _ _ _ _ i wr => ∃ j : Nat, i = .int .i64 j ∧ j ≤ m ∧ Gm w wr base Q X W V n K g c' m0 t b m s (catQ (mixQ qc yb b j) b m) j) (fun _ _ _ _ i _ => m - (intOf i).toNat)
 case atStart => exact ⟨0, rfl, Nat.zero_le _, hgm⟩
 case round =>
  obtain ⟨j, rfl, hj, hz⟩ := hrel
  rcases Nat.lt_or_ge j m with hlt | hge
  ·have hlt' : (j : Int) < m := by omega
   obtain ⟨kr, ⟨sj, mm, xj, qr, hmm, hor, hso⟩, spr, Kr, curj, hgr, hcr⟩ := hz
   have hWr := HW.out.keep kr (HRt.cells HW.out.1 (by simp)) (HRt.map HW.out.2)
   have hBr := (HB.out j hlt).keepT kr HRt
   have q1 : wr.cell? ⟨Q, 1, none⟩ = some (.pointer (some ⟨W, 0, none⟩)) := cell_is qr 1 rfl
   have a0 : wr.cell? ⟨K, 0, none⟩ = some (.int .i64 b) := cell_is Kr 0 rfl
   have e1 : IntKind.i64.wrap ((j : Int) * 40) = ((40 * j : Nat) : Int) := by rw [IntKind.wrap_i64]; omega
   have e2 : IntKind.i64.wrap ((j : Int) + 1) = ((j + 1 : Nat) : Int) := by rw [IntKind.wrap_i64]; omega
   have e3 : IntKind.i64.wrap (((j + 1 : Nat) : Int) * 40) = ((40 * (j + 1) : Nat) : Int) := by rw [IntKind.wrap_i64]; omega
   have e4 : IntKind.i64.wrap (b + j) = b + j := by rw [IntKind.wrap_i64]; omega
   have HCR := Lib.hid hcr
   have HMS := Lib.hid (mixQ_step (q := qc) (y := yb) (b := b) hlt HY2.out)
   have HML := Lib.hid (catQ_len (fun i hi => HMX.out j i hi))
   clear hcr
   rcases hBr with ⟨hg0, hqy⟩ | ⟨gb, cb, hg1, hbs, hl40, hbt⟩
   ·have HSM := Lib.hid (show catQ (mixQ qc yb b (j + 1)) b m = catQ (mixQ qc yb b j) b m from catQ_congr (fun i hi => by
     unfold mixQ
     by_cases h : b + (i : Int) < b + j
     ·rw [if_pos h, if_pos (by omega)]
     ·rw [if_neg h]
      by_cases h2 : b + (i : Int) < b + ((j + 1 : Nat) : Int)
      ·rw [if_pos h2]
       obtain rfl : i = j := by omega
       rw [hqy, HYB.out]
      ·rw [if_neg h2]))
    clear hqy
    go_wp2_with fail
    rw [show (j + 1) * 40 - 40 * j = 40 by omega]
    go_region_held3 (fun wx => wx.cell? ⟨Q, 1, none⟩ = some (.pointer (some ⟨W, 0, none⟩)) ∧ wx.cell? ⟨K, 0, none⟩ = some (.int .i64 b)) (first | (exact ⟨q1, a0⟩))
     (first | (go_at_call 217; refine (bget_none wr.drew (hWr.keep (Chg.refl [] wr).drew (by simp) (by simp)) hg0).mono ?_; rintro e wa ⟨rfl, rfl⟩))
    have k7 : Chg [] wr wr.drew := (Chg.refl [] wr).drew
    have hgb : wr.drew.heap[g]? = some (.cells curj 5 (0, 0)) := hgr
    have qb : ViewT wr.drew Q X W V t sj := qr
    have Kb : wr.drew.heap[K]? = some (.cells #[.int .i64 b, .int .i64 m] 79 (0, 0)) := Kr
    have ob := ownsRow_chg hor k7
    have sb := spr.keep0 k7
    have k9 := kr.drew
    obtain ⟨lj, hlj⟩ : ∃ lj, lj = mixQ qc yb b j (b + (j : Int)) := ⟨_, rfl⟩
    have hlj40 : lj.length = 40 := by rw [hlj]; exact HMX.out j j hlt
    have hBb : Bs wr.drew (some ⟨g, 40 * j, none⟩) lj := by
     rw [hlj]
     exact Bs.catQ (Bs.block hgb (by rw [HML.out]; exact HCR.out.2)) (HMX.out j) hlt
    clear hlj
    have HL40 := Lib.hid hlj40
    clear hlj40 q1 a0 hor hgr qr Kr kr k7 spr hWr
    generalize wr.drew = wb at *
    have a0 : wb.cell? ⟨K, 0, none⟩ = some (.int .i64 b) := cell_is Kb 0 rfl
    have q4 : wb.cell? ⟨Q, 4, none⟩ = some sj := cell_is qb 4 rfl
    have a0d : wb.drew.cell? ⟨K, 0, none⟩ = some (.int .i64 b) := a0
    have q4d : wb.drew.cell? ⟨Q, 4, none⟩ = some sj := q4
    have HBb := Lib.hid hBb
    clear hBb
    go_wp2_with fail
    go_region_law
     (first
      | (go_simp; go_at_call 126; refine (clone_bs wb.drew (l := lj) (m := 40) HL40.out (by decide) (by decide) (HBb.out.chg (Chg.refl [] wb).drew)).mono ?_; rintro e w6 ⟨g2, c2, rfl, k6, _, _⟩; have a06 := k6.cell a0d (by simp); have q46 := k6.cell q4d (by simp); have ky : Chg [] wb (w6.alloc (.cells #[.int .i64 (b + j), .slice (some ⟨g2, 0, none⟩) 40 c2, .bool false] 255)) := ((Chg.refl [] wb).drew.then k6).then_alloc _; have y0 := heap_new w6 (.cells #[.int .i64 (b + j), .slice (some ⟨g2, 0, none⟩) 40 c2, .bool false] 255); have oy := ownsRow_chg ob ky; have qy := ky.heap qb (by simp); have q4y := cell_is qy 4 rfl; have a0y := cell_is (ky.heap Kb (by simp)) 0 rfl; have hQn := own_block_ne oy qy (by decide); have hby : base ≤ (w6.alloc (.cells #[.int .i64 (b + j), .slice (some ⟨g2, 0, none⟩) 40 c2, .bool false] 255)).heap.size := (by have := heap_lt qy; omega))
      | (refine step_append_rx rfl (.tmp 100) (.tmp 108) rfl base _ mm xj rfl oy w6.heap.size 1 _ _ _ rfl (cell_is y0 0 rfl) (cell_is y0 1 rfl) (cell_is y0 2 rfl) ⟨rfl, rfl, rfl⟩ (by omega) hby ?_; intro g5 cp5 w5 o5 k5 l5; have q5 := k5.heap qy hQn; have q45 := cell_is q5 4 rfl; have f45 := unfrozen q5 4))
    all_goals
     have HZ := Lib.hid (Gm.step (c' := c') k9 hso sb Kb hgb HCR.out ky qy oy hmm (g5 := g5) (cp5 := cp5) (w5 := w5) o5 k5 l5)
     clear HBb sb o5 k5 q5 f45 q45
     go_wp2_with fail
     go_roundw
     case rel => exact ⟨j + 1, by go_num, hlt, by rw [HSM.out]; exact HZ.out⟩
     case measure => simp [intOf]; omega
   ·have HG := Lib.hid hg1
    have HL := Lib.hid hl40
    have HBS := Lib.hid hbs
    clear hg1 hl40 hbs
    go_wp2_with fail
    rw [show (j + 1) * 40 - 40 * j = 40 by omega]
    go_region_held3 (fun wx => wx.cell? ⟨Q, 1, none⟩ = some (.pointer (some ⟨W, 0, none⟩)) ∧ wx.cell? ⟨K, 0, none⟩ = some (.int .i64 b)) (first | (exact ⟨q1, a0⟩) | (exact ⟨k6.cell q1 (by simp), k6.cell a0 (by simp)⟩))
     (first | (go_at_call 217; refine (bget_some wr.drew (hWr.keep (Chg.refl [] wr).drew (by simp) (by simp)) HG.out HBS.out HL.out).mono ?_; rintro e wa ⟨g2, c2, rfl, k6, hbs6, l6⟩))
    have k7 := (Chg.refl [] wr).drew.then k6
    have hga := k7.heap hgr (by simp)
    have hqa := k7.heap qr (by simp)
    have hKa := k7.heap Kr (by simp)
    have hoa := ownsRow_chg hor k7
    have hSa := spr.keep0 k7
    have k8 := kr.trans k7 (fun x hx _ => by cases hx)
    obtain ⟨lj, hlj⟩ : ∃ lj, lj = qc (b + (j : Int)) := ⟨_, rfl⟩
    rw [← hlj] at hbs6
    have HLJ := Lib.hid hlj
    have hL2 : lj.length = 40 := by rw [hlj]; exact HL.out
    have hsrc : ∀ j v, (Lib.byteCells lj)[j]? = some v → wa.cell? ((⟨g2, 0, none⟩ : Addr).add j) = some v := hbs6.cells_at
    have hlc : (Lib.byteCells lj).length = 40 := by simpa [Lib.byteCells] using hL2
    have hsz : 40 * m ≤ curj.size := by rw [HCR.out.1]; exact hc'
    have hfit : 40 * j + (Lib.byteCells lj).length ≤ curj.size := by omega
    have HCM := Lib.hid (copy_mid (cur := curj.toList) (l := lj) (k := 40 * j) HML.out HCR.out.2 (by omega))
    have HLJ2 := Lib.hid hL2
    have H1 := Lib.hid hsrc
    have H2 := Lib.hid hlc
    have H3 := Lib.hid hfit
    have H4 := Lib.hid hsz
    clear hsrc hlc hfit hlj hL2 hsz
    go_wp2_with (refine wpList_copy_own rfl (.tmp 78) (.tmp 79) 47 47 rfl 5 ty23 (by kernel_rfl) g (40 * j) 40 (c' - 40 * j) ⟨g2, 0, none⟩ 40 c2 rfl rfl curj 5 hga (Lib.byteCells lj) H2.out H1.out H3.out (fun v hv => byteCells_one lj v hv) ?_)
    have kb : Chg [g] wa (wa.setRow g (List.take (40 * j) curj.toList ++ (Lib.byteCells lj ++ List.drop (40 * j + (Lib.byteCells lj).length) curj.toList)).toArray) := chg_setRow _ _ _
    have hgb := setRow_heap wa g curj (List.take (40 * j) curj.toList ++ (Lib.byteCells lj ++ List.drop (40 * j + (Lib.byteCells lj).length) curj.toList)).toArray 5 (0, 0) hga
    have hcB : ((List.take (40 * j) curj.toList ++ (Lib.byteCells lj ++ List.drop (40 * j + (Lib.byteCells lj).length) curj.toList)).toArray).size = c' ∧ ((List.take (40 * j) curj.toList ++ (Lib.byteCells lj ++ List.drop (40 * j + (Lib.byteCells lj).length) curj.toList)).toArray).toList.take (40 * m) = Lib.byteCells (catQ (mixQ qc yb b (j + 1)) b m) := by
     refine ⟨?_, ?_⟩
     ·have h1 := HCR.out.1
      have h2 := H3.out
      have h4 := H2.out
      simp only [List.size_toArray, List.length_append, List.length_take, List.length_drop, Array.length_toList]
      omega
     ·rw [List.toList_toArray, HCM.out, HMS.out, HLJ2.out, HLJ.out]
    generalize hcb : (List.take (40 * j) curj.toList ++ (Lib.byteCells lj ++ List.drop (40 * j + (Lib.byteCells lj).length) curj.toList)).toArray = Cb at *
    generalize hwb : wa.setRow g Cb = wb at *
    clear hwb hcb
    simp only [Act.put, List.setIfInBounds_toArray, List.set_cons_zero, List.set_cons_succ]
    have hgQ : Q ∉ [g] := by simpa using heap_ne hqa hga (by simp)
    have hgK2 : K ∉ [g] := by simpa using heap_ne hKa hga (by simp)
    have qb := kb.heap hqa hgQ
    have Kb := kb.heap hKa hgK2
    have ob := ownsRow_chg2 hoa kb hga
    have sb := hSa.keep kb (fun x hx cs t fr hh => by rw [List.mem_singleton] at hx; subst hx; rw [hga] at hh; cases hh; simp)
    have k9 : Chg (V :: Q :: s.ownBlock.toList) w wb := k8.trans kb (fun x hx hlt => by rw [List.mem_singleton] at hx; omega)
    clear hga hqa hKa hoa hSa k7 k8 kb H1 H2 H3 H4 hbs6 k6 HCM HMS q1 a0 qr Kr kr hor spr hWr hgr
    have a0 : wb.cell? ⟨K, 0, none⟩ = some (.int .i64 b) := cell_is Kb 0 rfl
    have q4 : wb.cell? ⟨Q, 4, none⟩ = some sj := cell_is qb 4 rfl
    have ky : Chg [] wb (wb.drew.alloc (.cells #[.int .i64 (b + j), .slice (some ⟨g2, 0, none⟩) 40 c2, .bool true] 255)) := (Chg.refl [] wb).drew.then_alloc _
    have y0 := heap_new wb.drew (.cells #[.int .i64 (b + j), .slice (some ⟨g2, 0, none⟩) 40 c2, .bool true] 255)
    have oy := ownsRow_chg ob ky
    have qy := ky.heap qb (by simp)
    have Ky := ky.heap Kb (by simp)
    have q4y := cell_is qy 4 rfl
    have a0y := cell_is Ky 0 rfl
    have hQn := own_block_ne oy qy (by decide)
    have hKn := own_block_ne oy Ky (by decide)
    have hby : base ≤ (wb.drew.alloc (.cells #[.int .i64 (b + j), .slice (some ⟨g2, 0, none⟩) 40 c2, .bool true] 255)).heap.size := by have := heap_lt qy; omega
    have q4d : wb.drew.cell? ⟨Q, 4, none⟩ = some sj := q4
    have q4e : (wb.alloc (.cells #[.int .i64 (b + j), .slice (some ⟨g2, 0, none⟩) 40 c2, .bool true] 255)).cell? ⟨Q, 4, none⟩ = some sj := q4y
    have a0e : (wb.alloc (.cells #[.int .i64 (b + j), .slice (some ⟨g2, 0, none⟩) 40 c2, .bool true] 255)).cell? ⟨K, 0, none⟩ = some (.int .i64 b) := a0y
    have a0d : wb.drew.cell? ⟨K, 0, none⟩ = some (.int .i64 b) := a0
    have HF := Lib.hid (fun (g5 cp5 : Nat) (w5 : World) (o5 : w5.ownsRow base 255 3 (.slice (some ⟨g5, 0, none⟩) (mm + 1) cp5) (mm + 1) (xj ++ [.int .i64 (b + j), .slice (some ⟨g2, 0, none⟩) 40 c2, .bool true])) (k5 : Chg sj.ownBlock.toList (wb.drew.alloc (.cells #[.int .i64 (b + j), .slice (some ⟨g2, 0, none⟩) 40 c2, .bool true] 255)) w5) (l5 : sj.ownBlock = some g5 ∨ g5 = (wb.drew.alloc (.cells #[.int .i64 (b + j), .slice (some ⟨g2, 0, none⟩) 40 c2, .bool true] 255)).heap.size) =>
     Gm.step (c' := c') (l := catQ (mixQ qc yb b (j + 1)) b m) k9 hso sb Kb hgb hcB ky qy oy hmm o5 k5 l5)
    clear sb hcB
    go_region_law
     (first | (refine step_append_rx rfl (.tmp 85) (.tmp 92) rfl base _ mm xj rfl oy wb.drew.heap.size 1 _ _ _ rfl (cell_is y0 0 rfl) (cell_is y0 1 rfl) (cell_is y0 2 rfl) ⟨rfl, rfl, rfl⟩ (by omega) hby ?_; intro g5 cp5 w5 o5 k5 l5; have q5 := k5.heap qy hQn; have q45 := cell_is q5 4 rfl; have f45 := unfrozen q5 4; have a05 := k5.cell a0y hKn))
    all_goals
     have HZ := Lib.hid (HF.out g5 cp5 w5 o5 k5 l5)
     clear HF o5 k5 q5 f45 q45
     go_wp2_with fail
     go_roundw
     case rel => exact ⟨j + 1, by go_num, hlt, HZ.out⟩
     case measure => simp [intOf]; omega
  ·obtain rfl : j = m := by omega
   have hnl : ¬ ((j : Int) < j) := by omega
   obtain ⟨kr, ⟨sj, mm, xj, qr, hmm, hor, hso⟩, spr, Kr, curj, hgr, hcr⟩ := hz
   have hmm2 : mm ≤ 17 * (n + 1) + 100000 := by omega
   have HE := Lib.hid (show Bs wr (some ⟨g, 0, none⟩) (catQ qc b j) from Bs.block hgr (by
    rw [catQ_len (fun i hi => (HY2.out i hi).1), hcr.2, show catQ (mixQ qc yb b j) b j = catQ qc b j from catQ_congr (fun i hi => by unfold mixQ; rw [if_pos (by omega)])]))
   clear hcr hgm
   go_wp2_with fail
   try simp only [Exit.noGoto]
   go_ret2
   exact ⟨g, c', _, rfl, hc', kr, HRt, ⟨s, sj, HS0.out, cell_is qr 4 rfl, fun x hx => by simpa using hx, hso⟩, hKg, HE.out, ⟨_, hgr⟩, ⟨sj, mm, xj, qr, hmm2, hor⟩, spr⟩
section
variable {base : Nat} {d : Ids} {p : Par} {F : World → Prop}
set_option maxRecDepth 100000 in
set_option maxHeartbeats 2000000 in
theorem tread_m (w : World) {q : Int → List UInt8} {L : List (Int × Value)} {n m : Nat} {b : Int} (hf : Fr base d p F) (h : Su w base d p F q L n) (hn : n ≤ 60) (h0 : 0 ≤ b) (hm0 : 1 ≤ m) (hm1 : m ≤ 16) (h1 : b + m ≤ 258) :
  Calls Tryz.prog 99 #[.pointer (some ⟨d.M, 0, none⟩), .int .i64 p.h, .agg #[.int .i64 b, .int .i64 m]] w fun e w' =>
  ∃ g c', e = .returned (.tuple #[.slice (some ⟨g, 0, none⟩) (40 * m) c', .int .i64 0]) ∧ 40 * m ≤ c' ∧ RdW base d w w' ∧ Su w' base d p F q L (n + 1) ∧ w.heap.size ≤ g ∧ Bs w' (some ⟨g, 0, none⟩) (catQ q b m) ∧ Bt w' g := by
 have k0 : Chg [] w (w.alloc (.cells #[.int .i64 b, .int .i64 m] 79)) := Chg.alloc w _
 have K0 := heap_new w (.cells #[.int .i64 b, .int .i64 m] 79)
 have hlt : d.Q < w.heap.size := (by obtain ⟨_, _, _, hq, -, -⟩ := h.vw; exact heap_lt hq)
 have h2 := h.keep hf k0
 have HO := Lib.hid (topen_gen _ (hf.need _ h2.env) h2.tx)
 clear h
 go_enter Tryz.func99, Tryz.ntmps99
 go_wp2_with fail
 generalize w.alloc (.cells #[.int .i64 b, .int .i64 m] 79) = w1 at *
 generalize hK : w.heap.size = K at *
 refine HO.out.mono ?_
 rintro e w2 ⟨rfl, rfl⟩
 have t5 : w1.cell? ⟨d.T, 5, none⟩ = some (.pointer (some ⟨d.Q, 0, none⟩)) := cell_is h2.tx 5 rfl
 have a0 : w1.cell? ⟨K, 0, none⟩ = some (.int .i64 b) := cell_is K0 0 rfl
 have a1 : w1.cell? ⟨K, 1, none⟩ = some (.int .i64 m) := cell_is K0 1 rfl
 go_wp2_with fail
 have hbuf := h2.buf
 have hq := h2.blk
 have h3 := h2.keep hf (Chg.refl [] w1).drew
 go_region_held3 (fun wx => wx.cell? ⟨d.T, 5, none⟩ = some (.pointer (some ⟨d.Q, 0, none⟩)) ∧ wx.cell? ⟨K, 0, none⟩ = some (.int .i64 b) ∧ wx.cell? ⟨K, 1, none⟩ = some (.int .i64 m))
  (first | (exact ⟨t5, a0, a1⟩) | (exact ⟨cell_is t6 5 rfl, cell_is K6 0 rfl, cell_is K6 1 rfl⟩))
  (first | (go_at_call 170; refine (gread_m w1.drew (hf.need _ h3.env).ver (hbuf.keep (Chg.refl [] w1).drew (by simp) (by simp)) (fun i hi => hq (b + (i : Int)) (by omega) (by omega)) h3.vw h3.sp hn ⟨h3.high.1, h3.high.2.1⟩ h0 hm0 hm1 h1).mono ?_; rintro e w6 ⟨g, c', T, rfl, hc', k6, hT, hX9, hg, hB6, hT6, hV6, hS6⟩; have t6 := k6.heap h3.tx (hT.cells h3.tx (by simp)); have K6 := k6.heap K0 (hT.cells K0 (by simp))))
 have hlow : ∀ x ∈ T, base ≤ x := fun x hx => (hT x hx).1
 have how0 : Ow base w1.drew w6 := ow_rt k6 hT
 have hfin : Su w6 base d p F q L (n + 1) := ⟨hf.keep _ _ how0 h3.env, t6, (hbuf.keep (Chg.refl [] w1).drew (by simp) (by simp)).keep k6 (hT.cells hbuf.1 (by simp)) (hT.map hbuf.2), h2.keys, fun x hx hx' => ((hq x hx hx').keep (Chg.refl [] w1).drew).keepT k6 hT, hV6, hS6, h3.high⟩
 have how : RdW base d w w6 := RdW.mk k0.drew k6 hT hX9 h2.vw (Chg.refl [] w1).drew (by omega)
 have hsz : w.heap.size ≤ g := by have := k0.size; have h9 : w1.drew.heap.size = w1.heap.size := rfl; omega
 clear hq hbuf h2 h3 hV6 hS6 k6 hT t6 K6 how0
 go_wp2_with fail
 go_ret2
 exact ⟨g, c', rfl, hc', how, hfin, hsz, hB6, hT6⟩
set_option maxRecDepth 100000 in
set_option maxHeartbeats 2000000 in
theorem sread_m (w : World) {q : Int → List UInt8} {L : List (Int × Value)} {n m : Nat} {b : Int} (hf : Fr base d p F) (h : Su w base d p F q L n) (hn : n ≤ 60) (h0 : 0 ≤ b) (hm0 : 1 ≤ m) (hm1 : m ≤ 16) (h1 : b + m ≤ 258) :
  Calls Tryz.prog 39 #[.pointer (some ⟨d.P, 0, none⟩), .int .i64 p.h, .agg #[.int .i64 b, .int .i64 m]] w fun e w' =>
  ∃ g c', e = .returned (.tuple #[.slice (some ⟨g, 0, none⟩) (40 * m) c', .int .i64 0]) ∧ 40 * m ≤ c' ∧ RdW base d w w' ∧ Su w' base d p F q L (n + 1) ∧ w.heap.size ≤ g ∧ Bs w' (some ⟨g, 0, none⟩) (catQ q b m) ∧ Bt w' g := by
 have k0 : Chg [] w (w.alloc (.cells #[.int .i64 b, .int .i64 m] 79)) := Chg.alloc w _
 have K0 := heap_new w (.cells #[.int .i64 b, .int .i64 m] 79)
 have hlt : d.Q < w.heap.size := (by obtain ⟨_, _, _, hq, -, -⟩ := h.vw; exact heap_lt hq)
 have h2 := h.keep hf k0
 have HO := Lib.hid (dead_gen _ (hf.need _ h2.env))
 clear h
 go_enter Tryz.func39, Tryz.ntmps39
 go_wp2_with fail
 generalize w.alloc (.cells #[.int .i64 b, .int .i64 m] 79) = w1 at *
 generalize hK : w.heap.size = K at *
 refine HO.out.mono ?_
 rintro e w2 ⟨rfl, rfl⟩
 have t5 : w1.cell? ⟨d.P, 5, none⟩ = some (.pointer (some ⟨d.M, 0, none⟩)) := (hf.need _ h2.env).p5
 have a0 : w1.cell? ⟨K, 0, none⟩ = some (.int .i64 b) := cell_is K0 0 rfl
 have a1 : w1.cell? ⟨K, 1, none⟩ = some (.int .i64 m) := cell_is K0 1 rfl
 go_wp2_with fail
 have h3 := h2.keep hf (Chg.refl [] w1).drew
 go_region_held3 (fun wx => wx.cell? ⟨d.P, 5, none⟩ = some (.pointer (some ⟨d.M, 0, none⟩)) ∧ wx.cell? ⟨K, 0, none⟩ = some (.int .i64 b) ∧ wx.cell? ⟨K, 1, none⟩ = some (.int .i64 m))
  (first | (exact ⟨t5, a0, a1⟩) | (exact ⟨t6, cell_is K6 0 rfl, cell_is K6 1 rfl⟩))
  (first | (go_at_call 99; refine (tread_m w1.drew hf h3 hn h0 hm0 hm1 h1).mono ?_; rintro e w6 ⟨g, c', rfl, hc', k6, h6, hg, hB6, hT6⟩; have t6 := (hf.need _ h6.env).p5; have K6 := k6.ow.heap K0 (by simp)))
 have hQ4 : d.Q < w.heap.size := (by omega)
 have hsz : w.heap.size ≤ g := by have := k0.size; have h9 : w1.drew.heap.size = w1.heap.size := rfl; omega
 have how := k6.ahead k0.drew hQ4
 clear h2 h3 t6 K6 k6
 go_wp2_with fail
 go_ret2
 exact ⟨g, c', rfl, hc', how, h6, hsz, hB6, hT6⟩
end
set_option maxRecDepth 100000 in
theorem geom_need (w : World) {N A c : Nat} (h : ∃ ops rds, w.heap[N]? = some (.cells #[.int .i64 8, .int .i64 96, .slice (some ⟨A, 0, none⟩) 8 c, .int .i64 ops, .int .i64 rds, .bool false, .int .i64 0, .bool false] 128 (0, 0))) : Calls Tryz.prog 79 #[.pointer (some ⟨N, 0, none⟩)] w fun e w' => e = .returned (.agg #[.int .i64 8, .int .i64 96]) ∧ Chg [] w w' := by
 obtain ⟨ops, rds, h⟩ := h
 have hgone : ∀ w1 : World, w1.heap[N]? = some (.cells #[.int .i64 8, .int .i64 96, .slice (some ⟨A, 0, none⟩) 8 c, .int .i64 ops, .int .i64 rds, .bool false, .int .i64 0, .bool false] 128 (0, 0)) → Calls Tryz.prog 152 #[.pointer (some ⟨N, 0, none⟩)] w1 fun e w' => e = .returned (.bool false) ∧ w1 = w' := by
  intro w1 h1
  have e2 : w1.cell? ⟨N, 2, none⟩ = some (.slice (some ⟨A, 0, none⟩) 8 c) := cell_is h1 2 rfl
  clear h h1
  go_enter Tryz.func152, Tryz.ntmps152
  go_wp2_with fail
  go_ret
  exact ⟨rfl, rfl⟩
 have HG := Lib.hid hgone
 clear hgone
 go_enter Tryz.func79, Tryz.ntmps79
 go_wp2_with fail
 have g0 := heap_new w (.cells #[.int .i64 0, .int .i64 0] 67)
 have hc : Chg [] w (w.alloc (.cells #[.int .i64 0, .int .i64 0] 67)) := Chg.alloc _ _
 have h2 := hc.heap h (by simp)
 have hN := heap_lt h
 generalize w.alloc (.cells #[.int .i64 0, .int .i64 0] 67) = w1 at *
 refine (HG.out w1 h2).mono ?_
 rintro e w2 ⟨rfl, rfl⟩
 have e0 : w1.cell? ⟨N, 0, none⟩ = some (.int .i64 8) := cell_is h2 0 rfl
 have e1 : w1.cell? ⟨N, 1, none⟩ = some (.int .i64 96) := cell_is h2 1 rfl
 have c0 := cell_is g0 0 rfl
 have c1 := cell_is g0 1 rfl
 have f0 := unfrozen g0 0
 have f1 := unfrozen g0 1
 clear h h2 g0
 go_wp2_with fail
 refine bodyPost_ret (v := .agg #[.int .i64 8, .int .i64 96]) (by simp [results, Tryz.results79, go_sem, c0, c1]) rfl ?_
 exact ⟨rfl, (hc.new_set (by omega) _ _).new_set (by omega) _ _⟩
theorem wpList_append_fl {ops : Array Oper} {rest : List Oper} {o : Oper} {a : Act} {w : World} {Q : Exit → Act → World → Prop} (hg : o.guard = none) (s x : Operand)
  (ho : o.op = .call { callee := .builtin .append, args := #[s, x], argTypes := #[38, 38] }) (base : Nat) (v : Value) (n : Nat) (xs l : List Nat) (hs : a.eval s = v) (hown : w.ownsRow base 33 1 v n (flCells xs))
  (b eo m c : Nat) (hx : a.eval x = .slice (some ⟨b, eo, none⟩) m c) (hl : l.length = m) (hm : 0 < m) (hr : Fl w (some ⟨b, eo, none⟩) l) (hn : n + m ≤ 1000000) (hbase : base ≤ w.heap.size)
  (h : ∀ g cap w', w'.ownsRow base 33 1 (.slice (some ⟨g, 0, none⟩) (n + m) cap) (n + m) (flCells (xs ++ l)) → Chg v.ownBlock.toList w w' → wpList Tryz.prog ops Q rest (a.put o.dst (.slice (some ⟨g, 0, none⟩) (n + m) cap)) w') : wpList Tryz.prog ops Q (o :: rest) a w := by
 obtain ⟨i, hi0, hz, hz1, hz2⟩ := info_parts inf42
 refine wpList_append_lies w hg s x 38 ho base 33 i _ 1 8 ty22 hi0 hz hz1 hz2 rfl (by decide) v n (flCells xs) hs hown ⟨b, eo, none⟩ m c (flCells l) hx (by simp [flCells, hl]) ?_ (flCells_one l) hm (by unfold maxLen; omega) (by omega) hbase _ rfl ?_
 ·intro j u hu
  rcases hr with rfl | ⟨b', o', e, hc⟩
  ·simp [flCells] at hu
  ·cases e
   have hj : j < l.length := by
    rcases Nat.lt_or_ge j l.length with h | h
    ·exact h
    ·rw [List.getElem?_eq_none (by simpa [flCells] using h)] at hu; cases hu
   rw [add_lit, hc j hj, ← hu]
   simp [flCells, hj]
 ·intro g cap w' h2 h3 _ _
  refine h g cap w' (by unfold flCells at *; simpa using h2) ?_
  cases hv : v.ownBlock with
  | none => rw [hv] at h3; exact Chg.of_grown0 h3
  | some k => rw [hv] at h3; exact Chg.of_grown h3
def cellsC (c : Nat → Nat) (f n : Nat) : List Nat := (List.range n).map fun i => c (f + i)
theorem cellsC_len (c : Nat → Nat) (f n : Nat) : (cellsC c f n).length = n := by simp [cellsC]
theorem cellsC_get (c : Nat → Nat) (f n j : Nat) (h : j < (cellsC c f n).length) : (cellsC c f n)[j] = c (f + j) := by simp [cellsC]
theorem cellsC_split (c : Nat → Nat) (f a b : Nat) : cellsC c f (a + b) = cellsC c f a ++ cellsC c (f + a) b := by
 unfold cellsC
 rw [List.range_add, List.map_append, List.map_map]
 congr 1
 apply List.map_congr_left
 intro x _
 simp [Nat.add_assoc]
theorem cellsC_row (c : Nat → Nat) (F j : Nat) : cellsC c (5 * F) (5 * (j + 1)) = cellsC c (5 * F) (5 * j) ++ rowC c (F + j) := by
 rw [show 5 * (j + 1) = 5 * j + 5 by omega, cellsC_split]
 congr 1
 unfold cellsC rowC
 apply List.map_congr_left
 intro x _
 congr 1
 omega
theorem fl_cut {w : World} {g f n : Nat} {c : Nat → Nat} {F k : Nat} (h : Fl w (some ⟨g, 0, none⟩) (cellsC c (5 * F) k)) (hf : 5 * F ≤ f) (hk : f - 5 * F + n ≤ k) : Fl w (some ⟨g, f - 5 * F, none⟩) (cellsC c f n) := by
 rcases h with h | ⟨b, o', e, h⟩
 ·refine Or.inl ?_
  have := congrArg List.length h
  rw [cellsC_len] at this
  simp only [List.length_nil] at this
  obtain rfl : n = 0 := by omega
  rfl
 ·cases e
  refine Or.inr ⟨g, f - 5 * F, rfl, fun j hj => ?_⟩
  rw [cellsC_len] at hj
  have h2 := h (f - 5 * F + j) (by rw [cellsC_len]; omega)
  rw [Nat.zero_add] at h2
  rw [h2, cellsC_get, cellsC_get]
  congr 3
  omega
theorem fl_own {w : World} {b0 n : Nat} {v : Value} {xs : List Nat} (h : w.ownsRow b0 33 1 v n (flCells xs)) (hn : 0 < n) : ∃ g c, v = .slice (some ⟨g, 0, none⟩) n c ∧ Fl w (some ⟨g, 0, none⟩) xs ∧ b0 ≤ g ∧ n ≤ c := by
 rcases h.2 with ⟨_, h0⟩ | ⟨g, cap, cur, rfl, hb, hg, hc, hm, hs, ht⟩
 ·omega
 ·refine ⟨g, cap, rfl, Or.inr ⟨g, 0, rfl, fun j hj => ?_⟩, hb, hc⟩
  rw [Nat.zero_add]
  have hl : (flCells xs)[j]? = some (.float .f64 xs[j]) := by simp [flCells, hj]
  rw [← ht, List.getElem?_take] at hl
  split at hl
  ·exact cell_is hg j (by simpa using hl)
  ·cases hl
def lenV : Value → Nat
 | .slice _ n _ => n
 | _ => 0
theorem meas_lt {L F j i : Nat} (hi : 1 ≤ i) (h : F + j + i ≤ L + 1) (hL : L ≤ 257) : L + 1 - (intOf (Value.int IntKind.i64 (wrap64 ((F : Int) + j + i)))).toNat < L + 1 - (intOf (Value.int IntKind.i64 ((F : Int) + j))).toNat := by
 have e : wrap64 ((F : Int) + j + i) = ((F + j + i : Nat) : Int) := by unfold wrap64; omega
 rw [e]
 show L + 1 - (((F + j + i : Nat) : Int)).toNat < L + 1 - ((F : Int) + j).toNat
 omega
theorem own_lowF {w : World} {b0 e size n : Nat} {v : Value} {xs : List Value} (h : w.ownsRow b0 e size v n xs) : ∀ x ∈ v.ownBlock.toList, b0 ≤ x := by
 intro x hx
 exact (own_elem h (by simpa using hx)).1
theorem Ow.then_new {base : Nat} {a b c : World} {U : List Nat} (h : Ow base a b) (k : Chg U b c) (hU : ∀ x ∈ U, a.heap.size ≤ x) : Ow base a c := by
 obtain ⟨T, h1, h2⟩ := h
 exact ⟨T, h1.trans k (fun x hx hlt => by have := hU x hx; omega), h2⟩
theorem ownsRow_ow {w w' : World} {base b0 n : Nat} {v : Value} {xs : List Value} (h : w.ownsRow b0 33 1 v n xs) (k : Ow base w w') : w'.ownsRow b0 33 1 v n xs := by
 refine ⟨h.1, ?_⟩
 rcases h.2 with hn | ⟨g, cap, cur, hv, hb, hg, rest⟩
 ·exact Or.inl hn
 ·exact Or.inr ⟨g, cap, cur, hv, hb, k.heap hg (by simp), rest⟩
section
variable {base : Nat} {d : Ids} {p : Par} {F : World → Prop}
theorem Su.keepF {w w' : World} {b0 k n : Nat} {q : Int → List UInt8} {L : List (Int × Value)} {v : Value} {xs : List Value} (h : Su w base d p F q L n) (ho : w.ownsRow b0 33 1 v k xs) (hc : Chg v.ownBlock.toList w w') (he : F w') : Su w' base d p F q L n := by
 have av : ∀ ts : List Nat, 33 ∉ ts → Av w v.ownBlock.toList ts := by
  intro ts ht x hx cs t fr hh
  obtain ⟨-, cs', h2⟩ := own_elem ho (show v.ownBlock = some x by simpa using hx)
  rw [hh] at h2; cases h2; exact ht
 have nm : ∀ {r : Nat} {L : List (Int × Value)}, MapAt w r L → r ∉ v.ownBlock.toList := by
  intro r L hg hm
  obtain ⟨-, cs', h2⟩ := own_elem ho (show v.ownBlock = some r by simpa using hm)
  exact map_cells hg h2 rfl
 refine ⟨he, hc.heap h.tx ((av [203] (by decide)).ne h.tx (by simp)), h.buf.keep hc ((av [267] (by decide)).ne h.buf.1 (by simp)) (nm h.buf.2), h.keys, fun b h0 h1 => ?_, h.vw.keep hc (av _ (by decide)), h.sp.keep hc (av _ (by decide)), h.high⟩
 rcases h.blk b h0 h1 with e | ⟨g, c, e1, e2, e3, cs, hcs⟩
 ·exact Or.inl e
 ·have hg := (av [5] (by decide)).ne hcs (by simp)
  exact Or.inr ⟨g, c, e1, e2.chgT hc hg, e3, cs, hc.heap hcs hg⟩
set_option maxRecDepth 100000 in
theorem sblocks_need (w : World) (h : Need w d p) : Calls Tryz.prog 111 #[.pointer (some ⟨d.P, 0, none⟩)] w fun e w' => e = .returned (.int .i64 258) ∧ Chg [] w w' := by
 have c0 := h.p0
 have HG := Lib.hid (geom_need w h.hdr)
 clear h
 go_enter Tryz.func111, Tryz.ntmps111
 go_wp2_with fail
 refine HG.out.mono ?_
 rintro e w1 ⟨rfl, hc1⟩
 go_wp2_with fail
 refine (cap_min w1).mono ?_
 rintro e w2 ⟨rfl, hc2⟩
 go_wp2_with fail
 go_ret
 exact ⟨rfl, hc1.then hc2⟩
set_option maxRecDepth 100000 in
theorem ccount_need (w : World) (h : Need w d p) : Calls Tryz.prog 51 #[.pointer (some ⟨d.P, 0, none⟩)] w fun e w' => e = .returned (.int .i64 1290) ∧ Chg [] w w' := by
 have HG := Lib.hid (sblocks_need w h)
 clear h
 go_enter Tryz.func51, Tryz.ntmps51
 go_wp2_with fail
 refine HG.out.mono ?_
 rintro e w1 ⟨rfl, hc1⟩
 go_wp2_with fail
 go_ret
 exact ⟨rfl, hc1⟩
def readsC (f n : Nat) : Nat := ((f + n - 1) / 5 - f / 5) / 16 + 1
set_option maxRecDepth 100000 in
set_option maxHeartbeats 20000000 in
theorem qcells_c (w : World) {q : Int → List UInt8} {L : List (Int × Value)} {c : Nat → Nat} {k f n : Nat} (hf : Fr base d p F) (h : Su w base d p F q L k) (hq : CellQ q c) (hk : k + readsC f n ≤ 60) (hn : 0 < n) (hn2 : n ≤ 2000) (hfn : f + n ≤ 1290) :
  Calls Tryz.prog 15 #[.pointer (some ⟨d.P, 0, none⟩), .int .i64 p.h, .int .i64 f, .int .i64 n] w fun e w' =>
  ∃ g o cp k', e = .returned (.tuple #[.slice (some ⟨g, o, none⟩) n cp, .int .i64 0]) ∧ n ≤ cp ∧ w.heap.size ≤ g ∧ Ow base w w' ∧ Fl w' (some ⟨g, o, none⟩) (cellsC c f n) ∧ Su w' base d p F q L k' ∧ k' ≤ k + readsC f n := by
 have HC := Lib.hid (ccount_need w (hf.need _ h.env))
 have c1 : ¬ ((n : Int) < 0) := by omega
 have c2 : ¬ ((n : Int) > 2000) := by omega
 have c3 : ¬ ((f : Int) < 0) := by omega
 have hw : IntKind.i64.wrap (1290 - (n : Int)) = 1290 - n := by rw [IntKind.wrap_i64]; omega
 have c4 : ¬ ((f : Int) > 1290 - n) := by omega
 have c5 : (n : Int) ≠ 0 := by omega
 have HK := Lib.hid hk
 clear hk
 unfold readsC at HK ⊢
 obtain ⟨Fb, hF⟩ : ∃ Fb, f / 5 = Fb := ⟨_, rfl⟩
 obtain ⟨Lb, hL⟩ : ∃ Lb, (f + n - 1) / 5 = Lb := ⟨_, rfl⟩
 rw [hF, hL] at HK ⊢
 go_enter Tryz.func15, Tryz.ntmps15
 go_wp2_with fail
 go_step3
 go_wp2_with fail
 refine HC.out.mono ?_
 rintro e w1 ⟨rfl, k1⟩
 have h1 := h.keep hf k1
 have henv := h1.env
 clear h HC
 go_wp2_with fail
 have eF : (f : Int) / 5 = (Fb : Int) := by omega
 have eL : ((f : Int) + n - 1) / 5 = (Lb : Int) := by omega
 simp only [eF, eL]
 have hFL : Fb ≤ Lb ∧ Lb ≤ 257 ∧ 5 * Fb ≤ f ∧ f + n ≤ 5 * (Lb + 1) := by omega
 have HX := Lib.hid hFL
 clear eF eL hF hL hFL c1 c2 c3 c4 c5 hw
 have HCQ := Lib.hid hq
 have hu5 : ∀ b : Nat, b < 258 → unpackB (q (b : Int)) = some (rowC c b) := fun b hb => hq.unpack hb
 have hl40 : ∀ b : Nat, b < 258 → (q (b : Int)).length = 40 := fun b hb => hq.len hb
 have HU5 := Lib.hid hu5
 have HL40 := Lib.hid hl40
 have hw1 := k1.size
 clear hq hu5 hl40
 go_step3
 go_wp2_with fail
 go_loopw [13, 14, 15, 16, 17, 18, 19] (fun v i _ _ _ _ _ wr => ∃ j t : Nat, i = .int .i64 ((Fb + j : Nat) : Int) ∧ Hid (Fb + j ≤ Lb + 1 ∧ t * 16 ≤ j + 15 ∧ (Fb + j ≤ Lb → j = 16 * t)) ∧ Ow base w1 wr ∧ wr.ownsRow w1.heap.size 33 1 v (5 * j) (flCells (cellsC c (5 * Fb) (5 * j))) ∧ Su wr base d p F q L (k + t)) (fun _ i _ _ _ _ _ _ => Lb + 1 - (intOf i).toNat)
 case atStart => exact ⟨0, 0, rfl, Lib.hid (by have := HX.out; omega), Ow.refl _ _, World.ownsRow_nil _ _ _ _, h1⟩
 case round =>
  obtain ⟨j, t, rfl, hjt, kr, hor, hsr⟩ := hrel
  rcases Nat.lt_or_ge (Fb + j) (Lb + 1) with hlt | hge
  ·have hlt' : ((Fb + j : Nat) : Int) ≤ Lb := by omega
   go_wp2_with fail
   obtain ⟨s, hs, hs1, hs2, hs3, hs4⟩ : ∃ s : Nat, min 16 (wrap64 (wrap64 ((Lb : Int) - (Fb + j)) + 1)) = (s : Int) ∧ 1 ≤ s ∧ s ≤ 16 ∧ Fb + j + s ≤ Lb + 1 ∧ (Fb + j + s ≤ Lb → s = 16) := by
    refine ⟨min 16 (Lb + 1 - Fb - j), ?_, by omega, by omega, by omega, by omega⟩
    have := HX.out
    unfold wrap64
    omega
   simp only [hs]
   have hjt2 := hjt.out
   refine (sread_m wr (m := s) (b := ((Fb : Int) + (j : Int))) hf hsr (by have := HK.out; have := HX.out; omega) (by omega) hs1 hs2 (by have := HX.out; omega)).mono ?_
   rintro e w2 ⟨g, c', rfl, hc', k2, h2, hg, hB, hT⟩
   have kr2 := kr.trans k2.ow
   have ho2 := ownsRow_ow hor k2.ow
   have hsz2 := kr2.size
   have HS := Lib.hid hs
   have HJT := Lib.hid hjt2
   have HS4 := Lib.hid (And.intro hs1 (And.intro hs2 (And.intro hs3 hs4)))
   have hl40s : ∀ i : Nat, i < s → (q ((Fb : Int) + (j : Int) + (i : Int))).length = 40 := fun i hi => by
    have := HL40.out (Fb + j + i) (by have := HX.out; omega)
    rw [← this]; congr 2
   have HLS := Lib.hid hl40s
   clear hsr kr k2 hor hs hg hjt2 hl40s hs4
   go_wp2_with fail
   go_loopw [13, 16, 18, 19] (fun v b _ _ wx => ∃ (i : Nat) (pa : Option Addr), i ≤ s ∧ b = .slice pa (40 * (s - i)) (c' - 40 * i) ∧ (i < s → pa = some ⟨g, 40 * i, none⟩) ∧ Ow base w1 wx ∧ wx.ownsRow w1.heap.size 33 1 v (5 * (j + i)) (flCells (cellsC c (5 * Fb) (5 * (j + i)))) ∧ Su wx base d p F q L (k + t + 1) ∧ Bs wx (some ⟨g, 0, none⟩) (catQ q ((Fb : Int) + (j : Int)) s) ∧ Bt wx g) (fun _ b _ _ _ => lenV b)
   case atStart => exact ⟨0, _, by omega, rfl, fun _ => rfl, kr2, ho2, h2, hB, hT⟩
   case round =>
    obtain ⟨i, pa, hi, rfl, hpa, kx, hox, hzx, hBx, hTx⟩ := hrel
    rcases Nat.lt_or_ge i s with hl | hl
    ·obtain rfl := hpa hl
     have hpos : 0 < 40 * (s - i) := by omega
     have hbi : (Fb : Int) + (j : Int) + (i : Int) = ((Fb + j + i : Nat) : Int) := by omega
     have hb258 : Fb + j + i < 258 := by have := HX.out; omega
     have hBi : Bs wr (some ⟨g, 40 * i, none⟩) (q ((Fb + j + i : Nat) : Int)) := by
      rw [← hbi]
      exact Bs.catQ hBx HLS.out hl
     have HU := Lib.hid (unpack_forty wr (c := c' - 40 * i) (HL40.out _ hb258) (by omega) hBi)
     clear hbi
     go_wp2_with fail
     refine HU.out.mono ?_
     rintro e w4 hu
     have hu5 := HU5.out _ hb258
     rcases hu with ⟨v5, xs5, hu6, rfl, k4, o5⟩ | ⟨hu6, _⟩
     rotate_left
     ·rw [hu5] at hu6; cases hu6
     obtain rfl : rowC c (Fb + j + i) = xs5 := by rw [hu5] at hu6; exact Option.some.inj hu6
     clear hu5 hu6 HU hBi
     obtain ⟨g5, c5, rfl, hF5, -, -⟩ := fl_own o5 (by decide)
     have kx4 := kx.then k4
     have hz4 := hzx.keep hf k4
     have hB4 := hBx.chg k4
     have hT4 : Bt w4 g := ⟨_, k4.heap hTx.choose_spec (by simp)⟩
     have ho4 := ownsRow_chg hox k4
     have hb4 := kx4.size
     have HFl := Lib.hid hF5
     have HRL := Lib.hid (rowC_len c (Fb + j + i))
     clear kx hzx hBx hTx hox hF5 o5
     go_wp2_with (at_builtin; refine wpList_append_fl rfl (.tmp 84) (.tmp 85) rfl w1.heap.size _ (5 * (j + i)) (cellsC c (5 * Fb) (5 * (j + i))) (rowC c (Fb + j + i)) rfl ho4 g5 0 5 c5 rfl HRL.out (by decide) HFl.out (by have := HX.out; omega) hb4 ?_; intro g9 cap9 w9 h9 k9)
     have hgn := own_block_ne ho4 hT4.choose_spec (by decide)
     have HB9 := Lib.hid (hB4.chgT k9 hgn)
     have HT9 := Lib.hid (show Bt w9 g from ⟨_, k9.heap hT4.choose_spec hgn⟩)
     have HK9 := Lib.hid (kx4.then_new k9 (own_lowF ho4))
     have HZ9 := Lib.hid (hz4.keepF ho4 k9 (hf.keep _ _ HK9.out henv))
     have h9' : w9.ownsRow w1.heap.size 33 1 (.slice (some ⟨g9, 0, none⟩) (5 * (j + i) + 5) cap9) (5 * (j + (i + 1))) (flCells (cellsC c (5 * Fb) (5 * (j + (i + 1))))) := by
      have e1 : 5 * (j + (i + 1)) = 5 * (j + i) + 5 := by omega
      have e2 : cellsC c (5 * Fb) (5 * (j + (i + 1))) = cellsC c (5 * Fb) (5 * (j + i)) ++ rowC c (Fb + j + i) := by rw [← Nat.add_assoc, cellsC_row, Nat.add_assoc]
      rw [e2, e1]; exact h9
     clear hB4 hT4 hz4 ho4 h9 k9 k4 HFl HRL
     go_roundw
     case rel => exact ⟨i + 1, _, by omega, by congr 1 <;> omega, fun h => by rw [if_neg (by omega)]; congr 2, HK9.out, h9', HZ9.out, HB9.out, HT9.out⟩
     case measure => simp [lenV]; omega
    ·obtain rfl : i = s := by omega
     have hz0 : 40 * (i - i) = 0 := by omega
     have hnz : ¬ ((0 : Int) < ((40 * (i - i) : Nat) : Int)) := by omega
     have HA := Lib.hid (show Fb + (j + i) ≤ Lb + 1 ∧ (t + 1) * 16 ≤ (j + i) + 15 ∧ (Fb + (j + i) ≤ Lb → j + i = 16 * (t + 1)) by have h1 := HJT.out; have h2 := HS4.out; omega)
     have HR := Lib.hid (show Value.int IntKind.i64 (wrap64 ((Fb : Int) + j + i)) = Value.int IntKind.i64 ((Fb : Int) + ((j + i : Nat) : Int)) from congrArg _ (by have := HX.out; unfold wrap64; omega))
     have HZ := Lib.hid (show Su wr base d p F q L (k + (t + 1)) by rw [← Nat.add_assoc]; exact hzx)
     have HM := Lib.hid (meas_lt hs1 hs3 HX.out.2.1)
     go_wp2_with fail
     go_roundw
     case rel => exact ⟨_, _, _, _, ⟨j + i, rfl, t + 1, by first | exact ⟨HA, kx, hox, HZ.out⟩ | exact ⟨HA, hox, HZ.out⟩⟩, rfl, rfl, rfl, HR.out⟩
     case measure => exact HM.out
  ·have hnl : ¬ ((Fb + j : Nat) : Int) ≤ Lb := by omega
   have hjt2 := hjt.out
   obtain ⟨gv, cv, rfl, hFv, hgv, hle⟩ := fl_own hor (by have := HX.out; omega)
   have e1 : IntKind.i64.wrap ((Fb : Int) * 5) = ((5 * Fb : Nat) : Int) := by rw [IntKind.wrap_i64]; have := HX.out; omega
   have e2 : IntKind.i64.wrap ((f : Int) - ((5 * Fb : Nat) : Int)) = ((f - 5 * Fb : Nat) : Int) := by rw [IntKind.wrap_i64]; have := HX.out; omega
   have e3 : IntKind.i64.wrap (((f - 5 * Fb : Nat) : Int) + n) = ((f - 5 * Fb + n : Nat) : Int) := by rw [IntKind.wrap_i64]; have := HX.out; omega
   have e4 : f - 5 * Fb + n ≤ 5 * j := by have := HX.out; omega
   have e5 : 5 * Fb ≤ f := by have := HX.out; omega
   have HE := Lib.hid (fl_cut (f := f) (n := n) hFv e5 e4)
   have HK2 := Lib.hid ((Ow.of_chg (base := base) k1).trans kr)
   have HM := Lib.hid (show k + t ≤ k + ((Lb - Fb) / 16 + 1) by have := HX.out; omega)
   have HC := Lib.hid (show n ≤ cv - (f - 5 * Fb) by omega)
   have HG := Lib.hid (show w.heap.size ≤ gv by omega)
   clear hjt2 hjt
   go_wp2_with fail
   go_ret2
   exact ⟨gv, f - 5 * Fb, cv - (f - 5 * Fb), k + t, rfl, HC.out, HG.out, HK2.out, HE.out, hsr, HM.out⟩
end
theorem res4 {P : Program} {fn : Func} {t u v x : Tmp} (h : fn.results = #[.tmp t, .tmp u, .tmp v, .tmp x]) (tmps : Array Value) (w : World) :
    (results fn tmps).run P w = .ok (.tuple #[tmps.getD t undef, tmps.getD u undef, tmps.getD v undef, tmps.getD x undef]) w := by
  simp [results, h]
def ArgX (w : World) (pa : Option Addr) (l : List (Int × Nat)) : Prop := l = [] ∨ ∃ A o, pa = some ⟨A, o, none⟩ ∧ A < w.heap.size ∧ ClX w A o l
theorem chg_kp {w a b : World} (h : Chg [] w a) (k : Kp w.heap.size a b) : Chg [] w b := by
  obtain ⟨U, h1, h2⟩ := k
  exact h.trans h1 (fun x hx hlt => by
    have := h2 x hx (Nat.lt_of_lt_of_le hlt h.size)
    omega)
def FqR (w : World) (l : List (Int × Nat)) (e : Ending) (w' : World) : Prop :=
  ∃ n P G, e = .returned (.tuple #[.pointer (some ⟨P, 0, none⟩), .pointer (some ⟨G, 0, none⟩), .int .i64 (n + 1 : Nat), .bool true]) ∧ n ≤ 6 ∧ Chg [] w w' ∧ FrO w' w.heap.size n 0 0 0 0 P G (putC (fun _ => 0) l) (putC (fun _ => 0) l)
theorem putC_can {c : Nat → Nat} (h : ∀ i, CanB (c i)) {l : List (Int × Nat)} (hx : ∀ x ∈ l, x.2 < 18446744073709551616) : ∀ i, CanB (putC c l i) := by
  induction l generalizing c with
  | nil => exact h
  | cons x l ih =>
    refine ih (c := setC c (rnd x.1).toNat x.2) (fun i => ?_) (fun y hy => hx y (List.mem_cons_of_mem _ hy))
    unfold setC
    split
    · exact canB_can (hx x List.mem_cons_self)
    · exact h i
theorem canB_lt {x : Nat} (h : x < 18446744073709551616) : canB x < 18446744073709551616 := (canB_can h).1
theorem by_own {w : World} {b : Nat} {v : Value} {l : List UInt8} (h : w.ownsRow b 5 1 v 40 (Lib.byteCells l)) : ∃ g c, v = .slice (some ⟨g, 0, none⟩) 40 c ∧ 40 ≤ c ∧ b ≤ g ∧ Bs w (some ⟨g, 0, none⟩) l ∧ Bt w g := by
  have hb : ∀ {pa m c}, v = .slice pa m c → Bs w pa l := fun e => Bs.own (e ▸ h)
  rcases h.2 with ⟨_, h0⟩ | ⟨g, cap, cur, rfl, hA, hg, hc, -⟩
  · cases h0
  · exact ⟨g, cap, rfl, hc, hA, hb rfl, _, hg⟩
theorem fl_set {w : World} {b m x : Nat} {v : Value} {l : List Nat} (h : w.ownsRow b 33 1 v 5 (flCells l)) (hm : m < 5) : ∃ g c, v = .slice (some ⟨g, 0, none⟩) 5 c ∧ b ≤ g ∧ (∃ cs, w.heap[g]? = some (.cells cs 33 (0, 0))) ∧ (∃ y, w.cell? ⟨g, m, none⟩ = some y) ∧ w.frozen? ⟨g, m, none⟩ = false ∧
    Fl (w.setCell ⟨g, m, none⟩ (.float .f64 x)) (some ⟨g, 0, none⟩) (l.set m x) ∧ Chg [g] w (w.setCell ⟨g, m, none⟩ (.float .f64 x)) := by
  have hl : l.length = 5 := by have := h.1; simpa [flCells] using this
  rcases h.2 with ⟨_, h0⟩ | ⟨g, cap, cur, rfl, hb, hg, hc, -, hs, ht⟩
  · cases h0
  · have hcl : ∀ j, j < 5 → cur[j]? = (flCells l)[j]? := fun j hj => by
      rw [← ht, List.getElem?_take_of_lt (by omega), Array.getElem?_toList]
    have hsz : m < cur.size := by
      have := hcl m hm
      rw [List.getElem?_eq_getElem (by simp [flCells]; omega)] at this
      exact (Array.getElem?_eq_some_iff.1 this).1
    refine ⟨g, cap, rfl, hb, ⟨_, hg⟩, ⟨cur[m], cell_is hg m (Array.getElem?_eq_getElem hsz)⟩, unfrozen hg _, Or.inr ⟨g, 0, rfl, fun j hj => ?_⟩, Chg.set _ _ _ _⟩
    rw [List.length_set] at hj
    rw [Nat.zero_add]
    refine cell_is (heap_set hg m _ rfl) j ?_
    have h1 := hcl j (by omega)
    rw [Array.getElem?_setIfInBounds]
    by_cases e : m = j
    · subst e
      simp [hsz]
    · rw [if_neg e, h1, List.getElem?_eq_getElem (by simp [flCells]; omega)]
      simp [flCells, e]
set_option maxRecDepth 100000 in
set_option maxHeartbeats 20000000 in
theorem fresh_any (w : World) {pa : Option Addr} {N cp : Nat} {l : List (Int × Nat)} (hl : l.length = N) (hN : N ≤ 60) (hA : ArgX w pa l) (hx : ∀ x ∈ l, x.2 < 18446744073709551616) : Calls Tryz.prog 9 #[.slice pa N cp] w (FqR w l) := by
  have HA := Lib.hid hA
  have HX := Lib.hid hx
  have HL := Lib.hid hl
  have HN := Lib.hid hN
  clear hA hx hl hN
  have kg : Chg [] w (w.alloc (.cells #[.int .i64 8, .int .i64 96] 67)) := Chg.alloc w _
  have g0 := heap_new w (.cells #[.int .i64 8, .int .i64 96] 67)
  have a0 : (w.alloc (.cells #[.int .i64 8, .int .i64 96] 67)).cell? ⟨w.heap.size, 0, none⟩ = some (.int .i64 8) := cell_is g0 0 rfl
  have a1 : (w.alloc (.cells #[.int .i64 8, .int .i64 96] 67)).cell? ⟨w.heap.size, 1, none⟩ = some (.int .i64 96) := cell_is g0 1 rfl
  go_enter Tryz.func9, Tryz.ntmps9
  go_wp2_with fail
  generalize w.alloc (.cells #[.int .i64 8, .int .i64 96] 67) = w0 at *
  generalize hz0 : w.heap.size = z0 at *
  refine (new_any2 w0).mono ?_
  rintro e w1 ⟨N', A', c', Z, rfl, k1, hD, hO, lN, lA, lZ, hAx, hZn⟩
  have g1 := k1.heap g0 (by simp)
  have hs0 := kg.size
  have hs1 := k1.size
  have hZl : ∀ z ∈ Z, z < w1.heap.size := fun z hz => by
    obtain ⟨j, hj, e⟩ := List.getElem_of_mem hz
    rw [← e]
    exact heap_lt (hD.2.2.2.2 j hj)
  have HM := Lib.hid (mount_any w1 hD hO hZl (by omega) (by omega))
  have HK := Lib.hid (And.intro (kg.then k1) (And.intro hO (And.intro lN (And.intro lZ (And.intro hAx hZn)))))
  have h0l := heap_lt g0
  clear a0 a1 g0 hD hAx hZn hZl
  go_wp2_with fail
  refine HM.out.mono ?_
  rintro e w2 ⟨P, S, M, X, rx, B, rb, r, rfl, hM, lP, lS, lM, lX, lrx, lB, lrb, lr, n1, n2, n3⟩
  have hS2 : ∃ d s g, d.P = P ∧ s.bl = 0 ∧ Srs w2 z0 d s g (fun _ => zeroB) 0 ∧ Chg [] w w2 := by
    obtain ⟨kk, hO, lN, lZ, hAx, hZn⟩ := HK.out
    subst hz0
    exact srs_up kk hO (by omega) (fun z hz => by have := lZ z hz; omega) hAx hZn hM lP lS lM lX lrx lB lrb lr n1 n2 n3
  have g2 := hM.1.heap g1 (by
    intro hm
    rcases List.mem_cons.1 hm with e | hm
    · omega
    · have := lZ _ hm; omega)
  have b0 : w2.cell? ⟨z0, 0, none⟩ = some (.int .i64 8) := cell_is g2 0 rfl
  have b1 : w2.cell? ⟨z0, 1, none⟩ = some (.int .i64 96) := cell_is g2 1 rfl
  clear HM HK hM lP lS lM lX lrx lB lrb lr n1 n2 n3 g1 g2 hO lN lA lZ k1
  go_wp2_with fail
  refine (rcap_min w2).mono ?_
  rintro e w3 ⟨rfl, k3⟩
  obtain ⟨d, s, g, hdP, hsb, hSr, kk2⟩ := hS2
  have hS3 := hSr.keep k3
  have kk3 := kk2.then k3
  clear b0 b1 hSr
  go_wp2_with fail
  refine (rf_new w3).mono ?_
  rintro e w4 ⟨G, Y, rfl, k4, hR4⟩
  have hFR : FrR w4 z0 0 P G (fun _ => 0) := hdP ▸ FrR.new (hS3.keep k4) hR4 (by have := kk3.size; omega) hsb
  have HF := Lib.hid hFR
  have HC := Lib.hid (kk3.then k4)
  clear hFR hS3 hR4 k3 k4 kk2 kk3 hdP hsb
  go_wp2_with fail
  go_loopw [13, 14, 15, 16, 17, 18, 19, 20, 21, 22, 23, 24, 25, 26, 27] (fun a _ _ _ _ _ _ _ _ _ _ _ _ _ _ wr => ∃ at_ n : Nat, a = .int .i64 at_ ∧ Hid (at_ = 10 * n) ∧ n ≤ 6 ∧ Chg [] w wr ∧ FrR wr z0 n P G (putC (fun _ => 0) (l.take at_))) (fun a _ _ _ _ _ _ _ _ _ _ _ _ _ _ _ => N + 10 - (intOf a).toNat)
  case atStart => exact ⟨0, 0, rfl, Lib.hid rfl, Nat.zero_le _, HC.out, HF.out⟩
  case round =>
    obtain ⟨at_, n, rfl, hat, hn, kr, hfr⟩ := hrel
    clear HF HC
    by_cases hlt : at_ < N
    · have hlt' : (at_ : Int) < N := by omega
      obtain ⟨hd, hhd⟩ : ∃ hd : Int, hd = ((n + 1 : Nat) : Int) := ⟨_, rfl⟩
      have HB := Lib.hid (frr_begin wr hfr (by omega))
      rw [← hhd] at HB
      have HHD := Lib.hid hhd
      clear hhd hfr
      go_wp2_with fail
      refine HB.out.mono ?_
      rintro e w5 ⟨rfl, hfb, k5⟩
      have kr5 := chg_kp kr (hz0 ▸ k5)
      have HB2 := Lib.hid (frb_begin w5 hfb (by omega))
      rw [← HHD.out] at HB2
      clear HB hfb k5 kr
      go_wp2_with fail
      refine HB2.out.mono ?_
      rintro e w6 ⟨rfl, hfo, k6⟩
      have kr6 := chg_kp kr5 (hz0 ▸ k6)
      have HFO := Lib.hid hfo
      have HC6 := Lib.hid kr6
      clear HB2 hfo k6 kr5 kr6
      go_wp2_with fail
      go_loopw [18, 19, 20, 21, 22, 23, 24, 25, 26, 27] (fun i _ _ _ _ _ _ _ _ _ wx => ∃ ii k : Nat, i = .int .i64 ii ∧ Hid (ii = at_ + k) ∧ k ≤ 10 ∧ ii ≤ N ∧ Chg [] w wx ∧ FrO wx z0 n k k k k P G (putC (fun _ => 0) (l.take ii)) (putC (fun _ => 0) (l.take ii))) (fun i _ _ _ _ _ _ _ _ _ _ => N - (intOf i).toNat)
      case atStart => exact ⟨at_, 0, rfl, Lib.hid rfl, Nat.zero_le _, by omega, HC6.out, HFO.out⟩
      case round =>
        obtain ⟨ii, k, rfl, hii, hk, hiN, kx, hfo⟩ := hrel
        clear HFO HC6
        by_cases hgo : ii < N ∧ k < 10
        · obtain ⟨hiN2, hk10⟩ := hgo
          have hlt1 : (ii : Int) < N := by omega
          have hw10 : IntKind.i64.wrap ((at_ : Int) + 10) = ((at_ + 10 : Nat) : Int) := by have := HN.out; rw [IntKind.wrap_i64]; omega
          have hlt2 : (ii : Int) < (at_ : Int) + 10 := by have := hii.out; omega
          have hil : ii < l.length := by have := HL.out; omega
          obtain ⟨x1, x2, hxe⟩ : ∃ x1 x2, l[ii] = (x1, x2) := ⟨_, _, rfl⟩
          have hx2 : x2 < 18446744073709551616 := by have := HX.out _ (List.getElem_mem hil); rw [hxe] at this; exact this
          obtain ⟨A, o, hpa, hAl, hAc⟩ : ∃ A o, pa = some ⟨A, o, none⟩ ∧ A < w.heap.size ∧ ClX w A o l := by
            rcases HA.out with e | h
            · rw [e] at hil; simp at hil
            · exact h
          subst hpa
          have c0 : wr.cell? ⟨A, o + ii * 2, none⟩ = some (.int .i64 x1) := by rw [kx.cell (hAc ii hil).1 (by simp), hxe]
          have c1 : wr.cell? ⟨A, o + ii * 2 + 1, none⟩ = some (.float .f64 x2) := by rw [kx.cell (hAc ii hil).2 (by simp), hxe]
          obtain ⟨r, hr⟩ : ∃ r : Nat, rnd x1 = (r : Int) := ⟨(rnd x1).toNat, by have := (rnd_lt x1).1; omega⟩
          have hr2 : r < 1290 := by have := (rnd_lt x1).2; omega
          have HRD := Lib.hid (fun w => (round_ok w x1))
          rw [hr] at HRD
          have HCN := Lib.hid (show putC (fun _ => 0) (l.take (ii + 1)) = setC (putC (fun _ => 0) (l.take ii)) r x2 by rw [putC_take _ _ _ hil, hxe]; simp only [hr]; rfl)
          obtain ⟨F, hF⟩ : ∃ F, r / 5 = F := ⟨_, rfl⟩
          obtain ⟨m, hm⟩ : ∃ m, r % 5 = m := ⟨_, rfl⟩
          have hF258 : F < 258 := by omega
          have eF : (r : Int) / 5 = (F : Int) := by omega
          have em : (r : Int) % 5 = (m : Int) := by omega
          have HFM := Lib.hid (And.intro hF hm)
          have HXE := Lib.hid hxe
          have hi60 : ii < 60 := by have := HN.out; omega
          have HB1 := Lib.hid (show k + 1 ≤ 10 ∧ ii + 1 ≤ N ∧ N - (ii + 1) < N - ii by omega)
          clear hF hm hxe hr
          go_wp2_with fail
          refine (HRD.out _).mono ?_
          rintro e w7 ⟨rfl, rfl⟩
          have hcan : ∀ i, CanB (putC (fun _ => 0) (l.take ii) i) := putC_can (fun _ => can_zero) (fun y hy => HX.out y (List.mem_of_mem_take hy))
          have HRR := Lib.hid (fro_read_r wr (b := F) hfo (by omega) (by omega) (by omega) hF258)
          rw [← HHD.out] at HRR
          obtain ⟨cc, hcc⟩ : ∃ cc, cc = putC (fun _ => 0) (l.take ii) := ⟨_, rfl⟩
          rw [← hcc] at HRR hcan HCN
          have HCC := Lib.hid hcc
          have HCA := Lib.hid hcan
          have hx8 : (putC (fun _ => 0) (l.take (ii + 1))) = setC cc r x2 := HCN.out
          clear hfo hcc hcan hx8
          go_wp2_with fail
          try simp only [eF]
          refine HRR.out.mono ?_
          rintro e w8 ⟨v8, rfl, hv8, hfo8, k8⟩
          have kx8 := chg_kp kx (hz0 ▸ k8)
          obtain ⟨g8, c8, rfl, hc8, hg8, hB8, hT8⟩ := by_own hv8
          have HUN := Lib.hid (runpack_forty w8 (l := packB (rowC cc F)) (by rw [packB_len, rowC_len]) hc8 hB8)
          clear HRR hv8 k8 kx
          go_wp2_with fail
          refine HUN.out.mono ?_
          rintro e w9 hu
          have hu5 : unpackB (packB (rowC cc F)) = some (rowC cc F) := unpack_can (rowC_len _ _) (rowC_can HCA.out _)
          rcases hu with ⟨v9, xs9, hu6, rfl, k9, o9⟩ | ⟨hu6, _⟩
          rotate_left
          · rw [hu5] at hu6; cases hu6
          obtain rfl : rowC cc F = xs9 := by rw [hu5] at hu6; exact Option.some.inj hu6
          clear hu5 hu6 HUN
          have hfo9 := hfo8.keep k9
          have kx9 := kx8.then k9
          have hB9 := hB8.chg k9
          have hT9 : Bt w9 g8 := ⟨_, k9.heap hT8.choose_spec (by simp)⟩
          have hm5 : m < 5 := by have := HFM.out; omega
          obtain ⟨g9, c9, rfl, hg9, ⟨cs9, hcs9⟩, ⟨y9, hy9⟩, f9, hF9, kS9⟩ := fl_set (x := x2) o9 hm5
          have hAg : A ∉ [g9] := by have := kx8.size; simp; omega
          have a90 : w9.cell? ⟨A, o + ii * 2, none⟩ = some (.int .i64 x1) := by have := kx9.cell (hAc ii hil).1 (by simp); rw [HXE.out] at this; exact this
          have a91 : w9.cell? ⟨A, o + ii * 2 + 1, none⟩ = some (.float .f64 x2) := by have := kx9.cell (hAc ii hil).2 (by simp); rw [HXE.out] at this; exact this
          have b90 := kS9.cell a90 hAg
          have b91 := kS9.cell a91 hAg
          have k10 : Chg [] w8 (w9.setCell ⟨g9, m, none⟩ (.float .f64 x2)).drew := (k9.trans kS9 (fun x hx hlt => by simp at hx; omega)).drew
          have hm5' : (m : Int) < 5 := by omega
          have hm0' : (0 : Int) ≤ m := by omega
          have em2 : (r : Int).tmod 5 = (m : Int) := by rw [Int.tmod_eq_emod_of_nonneg (by omega)]; exact em
          have em3 : ((r % 5 : Nat) : Int) = (m : Int) := by have := HFM.out; omega
          have em4 : IntKind.i64.wrap (m : Int) = (m : Int) := by rw [IntKind.wrap_i64]; omega
          have hst : ∀ a v m w, (store a (.float .f64 v) m).run Tryz.prog w = stored Tryz.prog w a (.float .f64 v) m := fun a v m w => run_store Tryz.prog w a _ m rfl
          have hfo10 := hfo8.keep k10
          have kx10 := kx8.then k10
          have hB10 := hB8.chg k10
          have hT10 : Bt (w9.setCell ⟨g9, m, none⟩ (.float .f64 x2)).drew g8 := ⟨_, k10.heap hT8.choose_spec (by simp)⟩
          have HP := Lib.hid (rpack_any (w9.setCell ⟨g9, m, none⟩ (.float .f64 x2)).drew (m := 5) (c := c9) (by rw [List.length_set, rowC_len]) (by decide) (hF9.keep (Chg.refl [] _).drew) (fun y hy => by
            rcases List.mem_or_eq_of_mem_set hy with h | h
            · exact canB_lt ((rowC_can HCA.out _ y h).1)
            · rw [h]; exact canB_lt hx2))
          clear hfo9 kx9 hB9 hT9 hB8 hT8 hfo8 kx8 k9 o9 hF9 hcs9 kS9 k10
          go_wp2_with fail
          go_region_held3 (fun wx => wx.cell? ⟨A, o + ii * 2, none⟩ = some (.int .i64 x1) ∧ wx.cell? ⟨A, o + ii * 2 + 1, none⟩ = some (.float .f64 x2)) (first | (exact ⟨a90, a91⟩) | (exact ⟨b90, b91⟩))
            (first | (go_at_call 10; refine (HRD.out _).mono ?_; rintro e wa ⟨rfl, rfl⟩))
          generalize (w9.setCell ⟨g9, m, none⟩ (.float .f64 x2)).drew = w10 at *
          clear a90 a91 b90 b91 hy9 f9
          go_wp2_with fail
          refine HP.out.mono ?_
          rintro e w11 ⟨v11, rfl, k11, -, hv11⟩
          obtain ⟨g11, c11, rfl, hB11, hg11, hc11, hT11⟩ := hv11 (by trivial)
          have hfo11 := hfo10.keep k11
          have kx11 := kx10.then k11
          have hB811 := hB10.chg k11
          have hT811 : Bt w11 g8 := ⟨_, k11.heap hT10.choose_spec (by simp)⟩
          have HSR := Lib.hid (fro_read_s w11 (b := F) hfo11 (by omega) hF258)
          rw [← HHD.out] at HSR
          clear HP hv11 hfo11 k11 hfo10 kx10 hB10 hT10
          go_wp2_with fail
          refine HSR.out.mono ?_
          rintro e w12 ⟨g12, c12, rfl, hc12, hg12, hB12, hfo12, ⟨so, hfs⟩, k12⟩
          have kx12 := chg_kp kx11 (hz0 ▸ k12)
          obtain ⟨X12, kX, hX12, -, -⟩ := hfs.parts
          have hav := hX12 [5] (by decide)
          have hB812 := hB811.chgT kX (hav.ne hT811.choose_spec (by simp))
          have hB1112 := hB11.chgT kX (hav.ne hT11.choose_spec (by simp))
          have hT1112 : Bt w12 g11 := ⟨_, kX.heap hT11.choose_spec (hav.ne hT11.choose_spec (by simp))⟩
          have hp40 : (packB (rowC cc F)).length = 40 := by rw [packB_len, rowC_len]
          have HAL := Lib.hid (alike_same w12 (a := g12) (b := g8) (ca := c12) (cb := c8) (m := 40) (oa := 0) (ob := 0) (l := packB (rowC cc F)) hp40 (by decide) (fun j hj => hB12.at_ j hj) (fun j hj => hB812.at_ j hj))
          clear HSR hfs kX hX12 hav hB811 hT811 hB11 hT11 hB12 hB812 kx11 k12
          go_wp2_with fail
          refine HAL.out.mono ?_
          rintro e w13 ⟨rfl, k13⟩
          have hfo13 := hfo12.keep k13
          have kx13 := kx12.then k13
          have hB13 := hB1112.chg k13
          have hT13 : Bt w13 g11 := ⟨_, k13.heap hT1112.choose_spec (by simp)⟩
          have hwl : (packB ((rowC cc F).set m x2)).length = 40 := by rw [packB_len, List.length_set, rowC_len]
          clear HAL hfo12 kx12 hB1112 hT1112 k13
          go_wp2_with fail
          have kp : Chg [] w13 (w13.alloc (.cells #[.int .i64 F, .slice (some ⟨g11, 0, none⟩) 40 c11] 50)) := Chg.alloc w13 _
          have p0 := heap_new w13 (.cells #[.int .i64 F, .slice (some ⟨g11, 0, none⟩) 40 c11] 50)
          have HWS := Lib.hid (fro_write_s (w13.alloc (.cells #[.int .i64 F, .slice (some ⟨g11, 0, none⟩) 40 c11] 50)) (cp := 1) (i := r) (x := x2) (E := w13.heap.size) (eo := 0) (hfo13.keep kp) (by omega) hr2 hx2 (by rw [HFM.out.1]; exact cell_is p0 0 rfl) (cell_is p0 1 rfl) (by rw [HFM.out.1, HFM.out.2]; exact hB13.chg kp))
          rw [← HHD.out] at HWS
          have hB14 := hB13.chg kp
          have hT14 : Bt (w13.alloc (.cells #[.int .i64 F, .slice (some ⟨g11, 0, none⟩) 40 c11] 50)) g11 := ⟨_, kp.heap hT13.choose_spec (by simp)⟩
          have kx14 := kx13.then kp
          clear hfo13 kx13 hB13 hT13 p0
          generalize w13.alloc (.cells #[.int .i64 F, .slice (some ⟨g11, 0, none⟩) 40 c11] 50) = w14 at *
          refine HWS.out.mono ?_
          rintro e w15 ⟨rfl, hfo15, hfs, k15⟩
          obtain ⟨X15, kX, hX15, -, -⟩ := hfs.parts
          have hav := hX15 [5] (by decide)
          have hD15 : DatX w15 (.slice (some ⟨g11, 0, none⟩) 40 c11) (packB ((rowC cc F).set m x2)) := ⟨g11, 0, c11, rfl, hc11, hwl, hB14.chgT kX (hav.ne hT14.choose_spec (by simp)), _, kX.heap hT14.choose_spec (hav.ne hT14.choose_spec (by simp))⟩
          have kx15 := chg_kp kx14 (hz0 ▸ k15)
          clear HWS hfs kX hX15 hav hB14 hT14 k15 kx14 kp
          go_wp2_with fail
          have kp : Chg [] w15 (w15.alloc (.cells #[.int .i64 F, .slice (some ⟨g11, 0, none⟩) 40 c11] 50)) := Chg.alloc w15 _
          have p0 := heap_new w15 (.cells #[.int .i64 F, .slice (some ⟨g11, 0, none⟩) 40 c11] 50)
          have HWR := Lib.hid (fro_write_r (w15.alloc (.cells #[.int .i64 F, .slice (some ⟨g11, 0, none⟩) 40 c11] 50)) (cp := 1) (i := r) (x := x2) (E := w15.heap.size) (eo := 0) (hfo15.keep kp) (by omega) (by omega) hr2 hx2 (by rw [HFM.out.1]; exact cell_is p0 0 rfl) (cell_is p0 1 rfl) (by rw [HFM.out.1, HFM.out.2]; exact hD15.keep kp))
          rw [← HHD.out] at HWR
          have kx16 := kx15.then kp
          clear hfo15 kx15 hD15 p0 kp
          generalize w15.alloc (.cells #[.int .i64 F, .slice (some ⟨g11, 0, none⟩) 40 c11] 50) = w16 at *
          refine HWR.out.mono ?_
          rintro e w17 ⟨rfl, hfo17, k17⟩
          have kx17 := chg_kp kx16 (hz0 ▸ k17)
          rw [← HCN.out] at hfo17
          have HFO := Lib.hid hfo17
          have HK1 := Lib.hid (show ii + 1 = at_ + (k + 1) by have := hii.out; omega)
          clear HWR hfo17 k17 kx16
          go_wp2_with fail
          go_roundw
          case rel => exact ⟨ii + 1, k + 1, by go_num, HK1, HB1.out.1, HB1.out.2.1, kx17, HFO.out⟩
          case measure => simp [intOf]; exact HB1.out.2.2
        · have hk0 : 0 < k := by have := hii.out; omega
          have HTK := Lib.hid (show l.take ii = l.take (at_ + 10) by
            have h1 := hii.out
            have h2 := HL.out
            by_cases h : ii < N
            · rw [show ii = at_ + 10 by omega]
            · rw [List.take_of_length_le (by omega), List.take_of_length_le (by omega)])
          have HC1 := Lib.hid (fro_commit wr hfo (by omega) (by omega) (by omega) (by omega))
          rw [← HHD.out] at HC1
          have hn6 : n + 1 ≤ 6 := by have := HN.out; have := hat.out; omega
          have hw10 : IntKind.i64.wrap ((at_ : Int) + 10) = ((at_ + 10 : Nat) : Int) := by have := HN.out; rw [IntKind.wrap_i64]; omega
          clear hfo
          by_cases hiN2 : ii < N
          all_goals
            first
              | (have hlt1 : (ii : Int) < N := by omega
                 have hlt2 : ¬ (ii : Int) < (at_ : Int) + 10 := by have := hii.out; omega
                 go_wp2_with fail)
              | (have hlt1 : ¬ (ii : Int) < N := by omega
                 go_wp2_with fail)
            refine HC1.out.mono ?_
            rintro e w7 ⟨rfl, h7, k7⟩
            have kx7 := chg_kp kx (hz0 ▸ k7)
            have HC2 := Lib.hid (frc_commit w7 h7 (by omega))
            rw [← HHD.out] at HC2
            clear h7 k7
            go_wp2_with fail
            refine HC2.out.mono ?_
            rintro e w8 ⟨rfl, h8, k8⟩
            have kx8 := chg_kp kx7 (hz0 ▸ k8)
            have HC3 := Lib.hid (frc_check w8 h8 (by omega))
            clear h8 k8 HC2 kx7
            go_wp2_with fail
            refine HC3.out.mono ?_
            rintro e w9 ⟨rfl, h9, k9⟩
            have kx9 := chg_kp kx8 (hz0 ▸ k9)
            have HC4 := Lib.hid (frc_flush w9 h9 (by omega))
            clear h9 k9 HC3 kx8
            go_wp2_with fail
            refine HC4.out.mono ?_
            rintro e w10 ⟨rfl, h10, k10⟩
            have kx10 := chg_kp kx9 (hz0 ▸ k10)
            have HC5 := Lib.hid (frc_done w10 h10 (by omega))
            clear h10 k10 HC4 kx9
            go_wp2_with fail
            refine HC5.out.mono ?_
            rintro e w11 ⟨rfl, h11, k11⟩
            have kx11 := chg_kp kx10 (hz0 ▸ k11)
            rw [HTK.out] at h11
            have H11 := Lib.hid h11
            have HAT := Lib.hid (show at_ + 10 = 10 * (n + 1) by have := hat.out; omega)
            have HMS := Lib.hid (show N + 10 - (at_ + 10) < N + 10 - at_ by omega)
            clear h11 k11 HC5 kx10
            go_wp2_with fail
            refine ⟨⟨at_ + 10, n + 1, by go_num, HAT, hn6, kx11, H11.out⟩, ?_⟩
            have e1 : (intOf (Value.int IntKind.i64 ((at_ : Int) + 10))).toNat = at_ + 10 := by show ((at_ : Int) + 10).toNat = _; omega
            rw [e1]
            exact HMS.out
    · obtain ⟨hd, hhd⟩ : ∃ hd : Int, hd = ((n + 1 : Nat) : Int) := ⟨_, rfl⟩
      have hlt' : ¬ (at_ : Int) < N := by omega
      rw [List.take_of_length_le (by have := HL.out; omega)] at hfr
      have HB := Lib.hid (frr_begin wr hfr (by omega))
      rw [← hhd] at HB
      have HHD := Lib.hid hhd
      clear hhd hfr
      go_wp2_with fail
      refine HB.out.mono ?_
      rintro e w5 ⟨rfl, hfb, k5⟩
      have kr5 := chg_kp kr (hz0 ▸ k5)
      have HB2 := Lib.hid (frb_begin w5 hfb (by omega))
      rw [← HHD.out] at HB2
      clear HB hfb k5 kr
      go_wp2_with fail
      refine HB2.out.mono ?_
      rintro e w6 ⟨rfl, hfo, k6⟩
      have kr6 := chg_kp kr5 (hz0 ▸ k6)
      have HFO := Lib.hid hfo
      have HC6 := Lib.hid kr6
      clear HB2 hfo k6 kr5 kr6
      go_wp2_with fail
      try simp only [Exit.inBlock, Exit.then]
      refine bodyPost_ret (res4 rfl _ _) rfl ?_
      exact ⟨n, P, G, by rw [HHD.out]; rfl, hn, HC6.out, by rw [hz0]; exact HFO.out⟩
theorem and_sign {b : Nat} (h : b < 18446744073709551616) : bits .and .u64 (b : Int) 9223372036854775808 = if b < 9223372036854775808 then 0 else 9223372036854775808 := by
 have h1 := u64_and_nat b 9223372036854775808 h (by decide)
 have e : b &&& 9223372036854775808 = b / 2 ^ 63 % 2 * 2 ^ 63 := nat_bit 63 b
 rw [show ((9223372036854775808 : Int)) = ((9223372036854775808 : Nat) : Int) from rfl, h1, e]
 by_cases hb : b < 9223372036854775808
 ·rw [if_pos hb, show b / 2 ^ 63 = 0 from Nat.div_eq_of_lt (by simpa using hb)]; rfl
 ·rw [if_neg hb, show b / 2 ^ 63 = 1 by omega]
theorem xor_sign {b : Nat} (h : b < 9223372036854775808) : bits .xor .u64 (b : Int) 9223372036854775808 = ((b + 9223372036854775808 : Nat) : Int) := by
 have h1 := u64_xor_nat b 9223372036854775808 (by omega) (by decide)
 rw [show ((9223372036854775808 : Int)) = ((9223372036854775808 : Nat) : Int) from rfl, h1]
 have e : b ^^^ 2 ^ 63 = 2 ^ 63 ||| b := by
  apply Nat.eq_of_testBit_eq
  intro k
  rw [Nat.testBit_xor, Nat.testBit_or, Nat.testBit_two_pow]
  by_cases hk : 63 = k
  ·subst hk
   rw [Nat.testBit_lt_two_pow (by simpa using h)]
   rfl
  ·simp [hk]
 have e2 : (2 ^ 63 : Nat) ||| b = 2 ^ 63 + b := nat_join 63 _ _ (Nat.mod_self _) (by simpa using h)
 rw [show (9223372036854775808 : Nat) = 2 ^ 63 from rfl, e, e2, Nat.add_comm]
theorem xor_max {b : Nat} (h : b < 18446744073709551616) : bits .xor .u64 18446744073709551615 (b : Int) = ((18446744073709551615 - b : Nat) : Int) := by
 have h1 := u64_xor_nat 18446744073709551615 b (by decide) h
 rw [show ((18446744073709551615 : Int)) = ((18446744073709551615 : Nat) : Int) from rfl, h1]
 congr 1
 have e : (18446744073709551615 - b : Nat) = 2 ^ 64 - (b + 1) := by omega
 rw [e]
 apply Nat.eq_of_testBit_eq
 intro k
 rw [Nat.testBit_two_pow_sub_succ (by omega), Nat.testBit_xor, show (18446744073709551615 : Nat) = 2 ^ 64 - 1 from rfl, Nat.testBit_two_pow_sub_one]
 by_cases hk : k < 64
 ·simp [hk]
 ·have : b.testBit k = false := Nat.testBit_lt_two_pow (Nat.lt_of_lt_of_le h (show 2 ^ 64 ≤ 2 ^ k from Nat.pow_le_pow_right (by decide) (by omega)))
  simp [hk, this]
def keyB (x : Nat) : Nat := if x < 9223372036854775808 then x + 9223372036854775808 else 18446744073709551615 - x
def cmpK (a b : Nat) : Int := if a < b then -1 else if b < a then 1 else 0

theorem canB_of {x : Nat} (h : CanB x) : canB x = x := canB_self h
set_option maxRecDepth 100000 in
theorem key_any (x : Nat) (w : World) (h : CanB x) : Calls Tryz.prog 221 #[.float .f64 x] w fun e w' => e = .returned (.int .u64 (keyB x)) ∧ w = w' := by
 have HB := Lib.hid (fbits_any x w)
 rw [canB_of h] at HB
 have hA := and_sign h.1
 have hlt := h.1
 clear h
 go_enter Tryz.func221, Tryz.ntmps221
 go_wp2_with fail
 refine HB.out.mono ?_
 rintro e w1 ⟨rfl, rfl⟩
 by_cases hb : x < 9223372036854775808
 ·have hX := xor_sign hb
  rw [if_pos hb] at hA
  have HK := Lib.hid (show keyB x = x + 9223372036854775808 from if_pos hb)
  go_wp2_with fail
  go_ret
  exact ⟨by rw [HK.out, Int.natCast_add]; rfl, rfl⟩
 ·rw [if_neg hb] at hA
  have HK := Lib.hid (show keyB x = 18446744073709551615 - x from if_neg hb)
  go_wp2_with fail
  go_ret
  exact ⟨by rw [HK.out, ← xor_max hlt]; rfl, rfl⟩
set_option maxRecDepth 100000 in
theorem rkey_any (x : Nat) (w : World) (h : CanB x) : Calls Tryz.prog 110 #[.float .f64 x] w fun e w' => e = .returned (.int .u64 (keyB x)) ∧ w = w' := by
 have HB := Lib.hid (rbits_any x w)
 rw [canB_of h] at HB
 have hA := and_sign h.1
 have hlt := h.1
 clear h
 go_enter Tryz.func110, Tryz.ntmps110
 go_wp2_with fail
 refine HB.out.mono ?_
 rintro e w1 ⟨rfl, rfl⟩
 by_cases hb : x < 9223372036854775808
 ·have hX := xor_sign hb
  rw [if_pos hb] at hA
  have HK := Lib.hid (show keyB x = x + 9223372036854775808 from if_pos hb)
  go_wp2_with fail
  go_ret
  exact ⟨by rw [HK.out, Int.natCast_add]; rfl, rfl⟩
 ·rw [if_neg hb] at hA
  have HK := Lib.hid (show keyB x = 18446744073709551615 - x from if_neg hb)
  go_wp2_with fail
  go_ret
  exact ⟨by rw [HK.out, ← xor_max hlt]; rfl, rfl⟩
set_option maxRecDepth 100000 in
theorem isnan_u64 (a : Nat) (w : World) : Calls Tryz.prog 248 #[.int .u64 a] w fun e w' => e = .returned (.bool false) ∧ w = w' := by
 go_enter Tryz.func248, Tryz.ntmps248
 go_wp2_with fail
 go_ret
 exact ⟨rfl, rfl⟩
set_option maxRecDepth 100000 in
theorem cmp_u64 (a b : Nat) (w : World) : Calls Tryz.prog 220 #[.int .u64 a, .int .u64 b] w fun e w' => e = .returned (.int .i64 (cmpK a b)) ∧ w = w' := by
 go_enter Tryz.func220, Tryz.ntmps220
 go_wp2_with fail
 refine (isnan_u64 a w).mono ?_
 rintro e w1 ⟨rfl, rfl⟩
 go_wp2_with fail
 refine (isnan_u64 b w).mono ?_
 rintro e w1 ⟨rfl, rfl⟩
 by_cases h1 : a < b
 ·have HC := Lib.hid (show cmpK a b = -1 from if_pos h1)
  have h2 : (a : Int) < b := by omega
  go_wp2_with fail
  go_ret
  exact ⟨by rw [HC.out]; rfl, rfl⟩
 ·have h2 : ¬ (a : Int) < b := by omega
  by_cases h3 : b < a
  ·have HC := Lib.hid (show cmpK a b = 1 by unfold cmpK; rw [if_neg h1, if_pos h3])
   have h4 : (b : Int) < a := by omega
   go_wp2_with fail
   go_ret
   exact ⟨by rw [HC.out]; rfl, rfl⟩
  ·have HC := Lib.hid (show cmpK a b = 0 by unfold cmpK; rw [if_neg h1, if_neg h3])
   have h4 : ¬ (b : Int) < a := by omega
   go_wp2_with fail
   go_ret
   exact ⟨by rw [HC.out]; rfl, rfl⟩
set_option maxRecDepth 100000 in
theorem fcmp_any (x y : Nat) (w : World) (hx : CanB x) (hy : CanB y) : Calls Tryz.prog 178 #[.float .f64 x, .float .f64 y] w fun e w' => e = .returned (.int .i64 (cmpK (keyB x) (keyB y))) ∧ w = w' := by
 have H1 := Lib.hid (key_any x w hx)
 have H2 := Lib.hid (key_any y w hy)
 have H3 := Lib.hid (cmp_u64 (keyB x) (keyB y) w)
 generalize keyB x = a at *
 generalize keyB y = b at *
 generalize cmpK a b = c at *
 clear hx hy
 go_enter Tryz.func178, Tryz.ntmps178
 go_wp2_with fail
 refine H1.out.mono ?_
 rintro e w1 ⟨rfl, rfl⟩
 go_wp2_with fail
 refine H2.out.mono ?_
 rintro e w1 ⟨rfl, rfl⟩
 go_wp2_with fail
 refine H3.out.mono ?_
 rintro e w1 ⟨rfl, rfl⟩
 go_wp2_with fail
 go_ret
 exact ⟨rfl, rfl⟩
set_option maxRecDepth 100000 in
theorem rcmp_any (x y : Nat) (w : World) (hx : CanB x) (hy : CanB y) : Calls Tryz.prog 49 #[.float .f64 x, .float .f64 y] w fun e w' => e = .returned (.int .i64 (cmpK (keyB x) (keyB y))) ∧ w = w' := by
 have H1 := Lib.hid (rkey_any x w hx)
 have H2 := Lib.hid (rkey_any y w hy)
 generalize keyB x = a at *
 generalize keyB y = b at *
 clear hx hy
 go_enter Tryz.func49, Tryz.ntmps49
 go_wp2_with fail
 refine H1.out.mono ?_
 rintro e w1 ⟨rfl, rfl⟩
 go_wp2_with fail
 refine H2.out.mono ?_
 rintro e w1 ⟨rfl, rfl⟩
 by_cases h1 : a < b
 ·have HC := Lib.hid (show cmpK a b = -1 from if_pos h1)
  have h2 : (a : Int) < b := by omega
  go_wp2_with fail
  go_ret
  exact ⟨by rw [HC.out]; rfl, rfl⟩
 ·have h2 : ¬ (a : Int) < b := by omega
  by_cases h3 : b < a
  ·have HC := Lib.hid (show cmpK a b = 1 by unfold cmpK; rw [if_neg h1, if_pos h3])
   have h4 : (b : Int) < a := by omega
   go_wp2_with fail
   go_ret
   exact ⟨by rw [HC.out]; rfl, rfl⟩
  ·have HC := Lib.hid (show cmpK a b = 0 by unfold cmpK; rw [if_neg h1, if_neg h3])
   have h4 : ¬ (b : Int) < a := by omega
   go_wp2_with fail
   go_ret
   exact ⟨by rw [HC.out]; rfl, rfl⟩
def mostK (a x : Nat) : Nat := if keyB a < keyB x then x else a
def maxB (l : List Nat) : Nat := if nanB ∈ l then nanB else l.foldl mostK (l.headD 0)
theorem nan_can {x : Nat} (h : CanB x) : isNaNB x = true ↔ x = nanB := ⟨h.2, fun e => by subst e; decide⟩
theorem mostK_pick {a x : Nat} (h : keyB a < keyB x) : mostK a x = x := if_pos h
theorem mostK_keep {a x : Nat} (h : ¬ keyB a < keyB x) : mostK a x = a := if_neg h
theorem fl_at {w : World} {g o : Nat} {l : List Nat} (h : Fl w (some ⟨g, o, none⟩) l) (j : Nat) (hj : j < l.length) : w.cell? ⟨g, o + j, none⟩ = some (.float .f64 l[j]) := by
 rcases h with h | ⟨b, o', e, h⟩
 ·subst h; cases hj
 ·cases e; exact h j hj
set_option maxRecDepth 100000 in
set_option maxHeartbeats 4000000 in
theorem fmost_any (w : World) {g o n cp : Nat} {l : List Nat} (hl : l.length = n) (hn : 0 < n) (hn2 : n ≤ 1000000) (hF : Fl w (some ⟨g, o, none⟩) l) (hc : ∀ x ∈ l, CanB x) :
  Calls Tryz.prog 108 #[.slice (some ⟨g, o, none⟩) n cp, .int .i64 1] w fun e w' => e = .returned (.tuple #[.float .f64 (maxB l), .int .i64 0]) ∧ w = w' := by
 have HF := Lib.hid hF
 have HL := Lib.hid hl
 have HC := Lib.hid hc
 have hn0 : ((n : Int) == 0) = false := beq_false_of_ne (by omega)
 have hnp : (0 : Int) < n := by omega
 obtain ⟨x0, hx0⟩ : ∃ x0, x0 = l.headD 0 := ⟨_, rfl⟩
 have c0 : w.cell? ⟨g, o, none⟩ = some (.float .f64 x0) := by
  have := fl_at hF 0 (by omega)
  rw [hx0]
  cases l with
  | nil => simp at hl; omega
  | cons a l => simpa using this
 have hm0 : x0 ∈ l := by
  rw [hx0]
  cases l with
  | nil => simp at hl; omega
  | cons a l => exact List.mem_cons_self
 have HX0 := Lib.hid (And.intro hx0 hm0)
 clear hF hl hc hx0 hm0
 go_enter Tryz.func108, Tryz.ntmps108
 go_wp2_with fail
 go_loopw [6, 8, 17] (fun out _ i wr => w = wr ∧ ∃ (j : Nat) (y : Nat), j ≤ n ∧ i = .int .i64 j ∧ out = .float .f64 y ∧ Hid (y = (l.take j).foldl mostK x0 ∧ nanB ∉ l.take j ∧ y ∈ l)) (fun _ _ i _ => n - (intOf i).toNat)
 case atStart => exact ⟨rfl, 0, x0, Nat.zero_le _, rfl, rfl, Lib.hid ⟨rfl, by simp, HX0.out.2⟩⟩
 case round =>
  obtain ⟨rfl, j, y, hj, rfl, rfl, hy⟩ := hrel
  rcases Nat.lt_or_ge j n with hlt | hge
  ·have hlt' : (j : Int) < n := by omega
   have hjl : j < l.length := by have := HL.out; omega
   obtain ⟨x, hx⟩ : ∃ x, x = l[j] := ⟨_, rfl⟩
   have cj : w.cell? ⟨g, o + j, none⟩ = some (.float .f64 x) := by rw [hx]; exact fl_at HF.out j hjl
   have hxl : x ∈ l := by rw [hx]; exact List.getElem_mem _
   have hxc := HC.out x hxl
   have hor := order_fmt x
   have HTK := Lib.hid (show l.take (j + 1) = l.take j ++ [x] by rw [hx]; exact List.take_succ_eq_append_getElem hjl)
   have HXL := Lib.hid hxl
   clear hx hxl
   cases hnan : isNaNB x with
   | true =>
    rw [hnan] at hor
    have HN := Lib.hid (show maxB l = nanB by
     have e := (nan_can hxc).1 hnan
     exact if_pos (e ▸ HXL.out))
    have HE := Lib.hid ((nan_can hxc).1 hnan)
    have HCAN := Lib.hid (canB_of hxc)
    have HB := Lib.hid (fbits_any x w)
    rw [HCAN.out] at HB
    have HFR := Lib.hid (fromBits_any x w)
    rw [HCAN.out] at HFR
    clear hnan hxc
    go_wp2_with fail
    refine HB.out.mono ?_
    rintro e w1 ⟨rfl, rfl⟩
    go_wp2_with fail
    refine HFR.out.mono ?_
    rintro e w1 ⟨rfl, rfl⟩
    go_wp2_with fail
    go_ret2
    exact ⟨by rw [HN.out, ← HE.out]; rfl, rfl⟩
   | false =>
    rw [hnan] at hor
    have hxn : x ≠ nanB := fun e => by rw [(nan_can hxc).2 e] at hnan; cases hnan
    have HXN := Lib.hid hxn
    have hyc := HC.out y hy.out.2.2
    have HK := Lib.hid (fcmp_any x y w hxc hyc)
    clear hnan hxc hyc hxn
    have HTN := Lib.hid (show nanB ∉ l.take (j + 1) by rw [HTK.out]; simp; exact ⟨hy.out.2.1, fun e => HXN.out e.symm⟩)
    have HFD := Lib.hid (show (l.take (j + 1)).foldl mostK x0 = mostK y x by rw [HTK.out, List.foldl_append, ← hy.out.1]; rfl)
    by_cases hk : keyB y < keyB x
    ·have e1 : cmpK (keyB x) (keyB y) = 1 := by unfold cmpK; rw [if_neg (by omega), if_pos hk]
     rw [e1] at HK
     have HM := Lib.hid (mostK_pick hk)
     clear hk e1
     go_wp2_with fail
     refine HK.out.mono ?_
     rintro e w1 ⟨rfl, rfl⟩
     go_wp2_with fail
     go_roundw
     case rel => exact ⟨trivial, j + 1, x, hlt, by go_num, rfl, Lib.hid ⟨by rw [HFD.out, HM.out], HTN.out, HXL.out⟩⟩
     case measure => simp [intOf]; omega
    ·obtain ⟨c, hc, hc2⟩ : ∃ c, cmpK (keyB x) (keyB y) = c ∧ (c = 0 ∨ c = -1) := by
      refine ⟨_, rfl, ?_⟩
      by_cases h1 : keyB x < keyB y
      ·exact Or.inr (if_pos h1)
      ·exact Or.inl (by unfold cmpK; rw [if_neg h1, if_neg hk])
     rw [hc] at HK
     have HM := Lib.hid (mostK_keep hk)
     clear hk hc
     rcases hc2 with rfl | rfl
     all_goals
      go_wp2_with fail
      refine HK.out.mono ?_
      rintro e w1 ⟨rfl, rfl⟩
      go_wp2_with fail
      go_roundw
      case rel => exact ⟨trivial, j + 1, y, hlt, by go_num, rfl, Lib.hid ⟨by rw [HFD.out, HM.out], HTN.out, hy.out.2.2⟩⟩
      case measure => simp [intOf]; omega
  ·obtain rfl : j = n := by omega
   have hnl : ¬ ((j : Int) < j) := by omega
   have HE := Lib.hid (show maxB l = y by
    have h1 := hy.out
    rw [List.take_of_length_le (by have := HL.out; omega)] at h1
    unfold maxB
    rw [if_neg h1.2.1, h1.1, HX0.out.1])
   clear hy
   go_wp2_with fail
   go_ret2
   exact ⟨by rw [HE.out]; rfl, rfl⟩
set_option maxRecDepth 100000 in
set_option maxHeartbeats 4000000 in
theorem rmost_any (w : World) {g o n cp : Nat} {l : List Nat} (hl : l.length = n) (hn : 0 < n) (hn2 : n ≤ 1000000) (hF : Fl w (some ⟨g, o, none⟩) l) (hc : ∀ x ∈ l, CanB x) :
  Calls Tryz.prog 13 #[.slice (some ⟨g, o, none⟩) n cp, .int .i64 1] w fun e w' => e = .returned (.tuple #[.float .f64 (maxB l), .int .i64 0]) ∧ Chg [] w w' := by
 have HF := Lib.hid hF
 have HL := Lib.hid hl
 have HC := Lib.hid hc
 have hn0 : ((n : Int) == 0) = false := beq_false_of_ne (by omega)
 have hnp : (0 : Int) < n := by omega
 obtain ⟨x0, hx0⟩ : ∃ x0, x0 = l.headD 0 := ⟨_, rfl⟩
 have c0 : w.cell? ⟨g, o, none⟩ = some (.float .f64 x0) := by
  have := fl_at hF 0 (by omega)
  rw [hx0]
  cases l with
  | nil => simp at hl; omega
  | cons a l => simpa using this
 have hm0 : x0 ∈ l := by
  rw [hx0]
  cases l with
  | nil => simp at hl; omega
  | cons a l => exact List.mem_cons_self
 have HX0 := Lib.hid (And.intro hx0 hm0)
 clear hF hl hc hx0 hm0
 go_enter Tryz.func13, Tryz.ntmps13
 go_wp2_with fail
 go_loopw [6, 7] (fun out i wr => ∃ (j y : Nat), Chg [] w wr ∧ j ≤ n ∧ i = .int .i64 j ∧ out = .float .f64 y ∧ Hid (y = (l.take j).foldl mostK x0 ∧ nanB ∉ l.take j ∧ y ∈ l)) (fun _ i _ => n - (intOf i).toNat)
 case atStart => exact ⟨0, x0, Chg.refl _ _, Nat.zero_le _, rfl, rfl, Lib.hid ⟨rfl, by simp, HX0.out.2⟩⟩
 case round =>
  obtain ⟨j, y, kr, hj, rfl, rfl, hy⟩ := hrel
  rcases Nat.lt_or_ge j n with hlt | hge
  ·have hlt' : (j : Int) < n := by omega
   have hjl : j < l.length := by have := HL.out; omega
   obtain ⟨x, hx⟩ : ∃ x, x = l[j] := ⟨_, rfl⟩
   have cj : wr.cell? ⟨g, o + j, none⟩ = some (.float .f64 x) := by rw [hx]; exact kr.cell (fl_at HF.out j hjl) (by simp)
   have hxl : x ∈ l := by rw [hx]; exact List.getElem_mem _
   have hxc := HC.out x hxl
   have hor := order_fmt x
   have HTK := Lib.hid (show l.take (j + 1) = l.take j ++ [x] by rw [hx]; exact List.take_succ_eq_append_getElem hjl)
   have HXL := Lib.hid hxl
   clear hx hxl
   cases hnan : isNaNB x with
   | true =>
    rw [hnan] at hor
    have HN := Lib.hid (show maxB l = nanB by
     have e := (nan_can hxc).1 hnan
     exact if_pos (e ▸ HXL.out))
    have HFR := Lib.hid (fun w => rfrom_any 9221120237041090560 w (by decide))
    rw [show canB 9221120237041090560 = nanB from by decide] at HFR
    clear hnan hxc
    go_wp2_with fail
    go_region_held3 (fun wx => wx.cell? ⟨g, o + j, none⟩ = some (.float .f64 x)) (first | (exact cj)) (first | fail)
    go_wp2_with fail
    refine (HFR.out _).mono ?_
    rintro e w1 ⟨rfl, rfl⟩
    go_wp2_with fail
    go_ret2
    exact ⟨by rw [HN.out]; rfl, kr.drew⟩
   | false =>
    rw [hnan] at hor
    have hxn : x ≠ nanB := fun e => by rw [(nan_can hxc).2 e] at hnan; cases hnan
    have HXN := Lib.hid hxn
    have hyc := HC.out y hy.out.2.2
    have HK := Lib.hid (fun w => rcmp_any x y w hxc hyc)
    clear hnan hxc hyc hxn
    have HTN := Lib.hid (show nanB ∉ l.take (j + 1) by rw [HTK.out]; simp; exact ⟨hy.out.2.1, fun e => HXN.out e.symm⟩)
    have HFD := Lib.hid (show (l.take (j + 1)).foldl mostK x0 = mostK y x by rw [HTK.out, List.foldl_append, ← hy.out.1]; rfl)
    by_cases hk : keyB y < keyB x
    ·have e1 : cmpK (keyB x) (keyB y) = 1 := by unfold cmpK; rw [if_neg (by omega), if_pos hk]
     rw [e1] at HK
     have HM := Lib.hid (mostK_pick hk)
     clear hk e1
     go_wp2_with fail
     go_region_held3 (fun wx => wx.cell? ⟨g, o + j, none⟩ = some (.float .f64 x)) (first | (exact cj)) (first | fail)
     have cj2 : wr.drew.cell? ⟨g, o + j, none⟩ = some (.float .f64 x) := cj
     go_wp2_with fail
     refine (HK.out _).mono ?_
     rintro e w1 ⟨rfl, rfl⟩
     go_wp2_with fail
     go_roundw
     case rel => exact ⟨j + 1, x, kr.drew, hlt, by go_num, rfl, Lib.hid ⟨by rw [HFD.out, HM.out], HTN.out, HXL.out⟩⟩
     case measure => simp [intOf]; omega
    ·obtain ⟨c, hc, hc2⟩ : ∃ c, cmpK (keyB x) (keyB y) = c ∧ (c = 0 ∨ c = -1) := by
      refine ⟨_, rfl, ?_⟩
      by_cases h1 : keyB x < keyB y
      ·exact Or.inr (if_pos h1)
      ·exact Or.inl (by unfold cmpK; rw [if_neg h1, if_neg hk])
     rw [hc] at HK
     have HM := Lib.hid (mostK_keep hk)
     clear hk hc
     rcases hc2 with rfl | rfl
     all_goals
      go_wp2_with fail
      go_region_held3 (fun wx => wx.cell? ⟨g, o + j, none⟩ = some (.float .f64 x)) (first | (exact cj)) (first | fail)
      have cj2 : wr.drew.cell? ⟨g, o + j, none⟩ = some (.float .f64 x) := cj
      go_wp2_with fail
      refine (HK.out _).mono ?_
      rintro e w1 ⟨rfl, rfl⟩
      go_wp2_with fail
      go_roundw
      case rel => exact ⟨j + 1, y, kr.drew, hlt, by go_num, rfl, Lib.hid ⟨by rw [HFD.out, HM.out], HTN.out, hy.out.2.2⟩⟩
      case measure => simp [intOf]; omega
  ·obtain rfl : j = n := by omega
   have hnl : ¬ ((j : Int) < j) := by omega
   have HE := Lib.hid (show maxB l = y by
    have h1 := hy.out
    rw [List.take_of_length_le (by have := HL.out; omega)] at h1
    unfold maxB
    rw [if_neg h1.2.1, h1.1, HX0.out.1])
   clear hy
   go_wp2_with fail
   go_ret2
   exact ⟨by rw [HE.out]; rfl, kr⟩
def clsB (x : Nat) : Int :=
 if isNaNB x then 1 else
  let c : Int := if magB x = 0 then 6 else if magB x < 4503599627370496 then 7 else if (FloatKind.f64.format.order (magB x) 9218868437227405311 == some .gt) then 9 else 8
  if x < 9223372036854775808 then c else 11 - c
set_option maxRecDepth 100000 in
theorem abs_any (b : Nat) (w : World) (h : b < 18446744073709551616) : Calls Tryz.prog 144 #[.float .f64 b] w fun e w' => e = .returned (.float .f64 (magB b)) ∧ w = w' := by
 have hb := run_bits b
 have hf := fun n : Int => run_from n
 have hA := andNot_sign h
 clear h
 go_enter Tryz.func144, Tryz.ntmps144
 go_wp2_with fail
 go_ret
 exact ⟨rfl, rfl⟩
set_option maxRecDepth 100000 in
theorem isinf_any (b : Nat) (w : World) (h : b < 18446744073709551616) (t : Bool) (ht : (FloatKind.f64.format.order (magB b) 9218868437227405311 == some .gt) = t) : Calls Tryz.prog 107 #[.float .f64 b, .int .i64 0] w fun e w' => e = .returned (.bool t) ∧ w = w' := by
 have HA := Lib.hid (abs_any b w h)
 clear h
 generalize magB b = m at *
 go_enter Tryz.func107, Tryz.ntmps107
 go_wp2_with fail
 refine HA.out.mono ?_
 rintro e w1 ⟨rfl, rfl⟩
 go_wp2_with fail
 go_ret
 exact ⟨by first | rfl | rw [← ht], rfl⟩
set_option maxRecDepth 100000 in
set_option maxHeartbeats 2000000 in
theorem class_any (x : Nat) (w : World) (h : x < 18446744073709551616) : Calls Tryz.prog 44 #[.float .f64 x] w fun e w' => e = .returned (.int .i64 (clsB x)) ∧ w = w' := by
 have hor := order_fmt x
 have hr := run_bits x
 obtain ⟨c, hc⟩ : ∃ c, c = clsB x := ⟨_, rfl⟩
 rw [← hc]
 unfold clsB at hc
 cases hnan : isNaNB x with
 | true =>
  rw [hnan] at hor
  rw [if_pos hnan] at hc
  clear hnan
  have HC := Lib.hid hc
  clear hc
  go_enter Tryz.func44, Tryz.ntmps44
  go_wp2_with fail
  go_ret
  exact ⟨by rw [HC.out]; rfl, rfl⟩
 | false =>
  rw [hnan] at hor
  rw [if_neg (by rw [hnan]; decide)] at hc
  clear hnan
  have hA := and_sign h
  have hN := andNot_sign h
  obtain ⟨t, ht⟩ : ∃ t, (FloatKind.f64.format.order (magB x) 9218868437227405311 == some .gt) = t := ⟨_, rfl⟩
  have HI := Lib.hid (isinf_any x w h t ht)
  have hm0 : 0 ≤ magB x := Nat.zero_le _
  rw [ht] at hc
  clear ht
  have HC := Lib.hid hc
  clear hc h
  generalize hmx : magB x = m at *
  clear hmx
  have key : ∀ k : Int, (if m = 0 then (6 : Int) else if m < 4503599627370496 then 7 else if t = true then 9 else 8) = k → ∀ s : Bool, (s = true ↔ ¬ x < 9223372036854775808) → c = if s then 11 - k else k := by
   intro k hk s hs
   rw [HC.out]
   show (if x < 9223372036854775808 then _ else _) = _
   rw [hk]
   by_cases hx : x < 9223372036854775808
   ·rw [if_pos hx, if_neg (fun e => (hs.1 e) hx)]
   ·rw [if_neg hx, if_pos (hs.2 hx)]
  have HKY := Lib.hid key
  clear key HC
  by_cases hx : x < 9223372036854775808
  all_goals
   first | rw [if_pos hx] at hA | rw [if_neg hx] at hA
   by_cases h0 : m = 0
   ·subst h0
    have HE := Lib.hid (HKY.out 6 (if_pos rfl))
    go_enter Tryz.func44, Tryz.ntmps44
    go_wp2_with fail
    go_ret
    first | exact ⟨by rw [HE.out true (by simp [hx])]; rfl, rfl⟩ | exact ⟨by rw [HE.out false (by simp [hx])]; rfl, rfl⟩
   ·have h0' : ((m : Int) == 0) = false := beq_false_of_ne (by omega)
    by_cases h1 : m < 4503599627370496
    ·have h1' : (m : Int) < 4503599627370496 := by omega
     have HE := Lib.hid (HKY.out 7 (by rw [if_neg h0, if_pos h1]))
     go_enter Tryz.func44, Tryz.ntmps44
     go_wp2_with fail
     go_ret
     first | exact ⟨by rw [HE.out true (by simp [hx])]; rfl, rfl⟩ | exact ⟨by rw [HE.out false (by simp [hx])]; rfl, rfl⟩
    ·have h1' : ¬ (m : Int) < 4503599627370496 := by omega
     cases t with
     | true =>
      have HE := Lib.hid (HKY.out 9 (by rw [if_neg h0, if_neg h1, if_pos rfl]))
      go_enter Tryz.func44, Tryz.ntmps44
      go_wp2_with fail
      refine HI.out.mono ?_
      rintro e w1 ⟨rfl, rfl⟩
      go_wp2_with fail
      go_ret
      first | exact ⟨by rw [HE.out true (by simp [hx])]; rfl, rfl⟩ | exact ⟨by rw [HE.out false (by simp [hx])]; rfl, rfl⟩
     | false =>
      have HE := Lib.hid (HKY.out 8 (by rw [if_neg h0, if_neg h1]; rfl))
      go_enter Tryz.func44, Tryz.ntmps44
      go_wp2_with fail
      refine HI.out.mono ?_
      rintro e w1 ⟨rfl, rfl⟩
      go_wp2_with fail
      go_ret
      first | exact ⟨by rw [HE.out true (by simp [hx])]; rfl, rfl⟩ | exact ⟨by rw [HE.out false (by simp [hx])]; rfl, rfl⟩
def QO (w : World) (lw P : Nat) (hd : Int) (c : Nat → Nat) (k : Nat) : Prop :=
 ∃ base d p F q L, d.P = P ∧ p.h = hd ∧ lw ≤ base ∧ Fr base d p F ∧ Su w base d p F q L k ∧ CellQ q c
theorem QO.keep {w w' : World} {lw P k : Nat} {hd : Int} {c : Nat → Nat} (h : QO w lw P hd c k) (hc : Chg [] w w') : QO w' lw P hd c k := by
 obtain ⟨base, d, p, F, q, L, h1, h2, h3, h4, h5, h6⟩ := h
 exact ⟨base, d, p, F, q, L, h1, h2, h3, h4, h5.keep h4 hc, h6⟩
theorem FrO.qo {w : World} {lw n P G : Nat} {cs cr : Nat → Nat} (h : FrO w lw n 0 0 0 0 P G cs cr) : QO w lw P (n + 1 : Nat) cs 0 := by
 obtain ⟨d, s, g, q0, base, q, Ls, lo, Y, D, V, U, Tv, xs, L, S, Pz, j, h1, h2, h3, h4, h5, h6, h7⟩ := h.all
 exact ⟨base, d, begP s, _, q, Ls, h1, by show s.bl + 1 = _; rw [h4]; rfl, h2.so.low.1, h2.so.fr, h2.so.su, h6⟩
theorem kp_ow {lw base : Nat} {w w' : World} (h : Ow base w w') (hb : lw ≤ base) : Kp lw w w' := Kp.of_ow h hb
section
variable {lw P k : Nat} {hd : Int} {c : Nat → Nat}
theorem qo_cells (w : World) {f n : Nat} (h : QO w lw P hd c k) (hk : k + readsC f n ≤ 60) (hn : 0 < n) (hn2 : n ≤ 2000) (hfn : f + n ≤ 1290) :
  Calls Tryz.prog 15 #[.pointer (some ⟨P, 0, none⟩), .int .i64 hd, .int .i64 f, .int .i64 n] w fun e w' =>
  ∃ g o cp k', e = .returned (.tuple #[.slice (some ⟨g, o, none⟩) n cp, .int .i64 0]) ∧ n ≤ cp ∧ w.heap.size ≤ g ∧ Kp lw w w' ∧ Fl w' (some ⟨g, o, none⟩) (cellsC c f n) ∧ QO w' lw P hd c k' ∧ k' ≤ k + readsC f n := by
 obtain ⟨base, d, p, F, q, L, rfl, rfl, h3, h4, h5, h6⟩ := h
 refine (qcells_c w h4 h5 h6 hk hn hn2 hfn).mono ?_
 rintro e w' ⟨g, o, cp, k', rfl, a1, a2, a3, a4, a5, a6⟩
 exact ⟨g, o, cp, k', rfl, a1, a2, kp_ow a3 h3, a4, ⟨base, d, p, F, q, L, rfl, rfl, h3, h4, a5, h6⟩, a6⟩
set_option maxRecDepth 100000 in
set_option maxHeartbeats 2000000 in
theorem qo_none (w : World) {f : Nat} (h : QO w lw P hd c k) (hfn : f ≤ 1290) :
  Calls Tryz.prog 15 #[.pointer (some ⟨P, 0, none⟩), .int .i64 hd, .int .i64 f, .int .i64 0] w fun e w' => e = .returned (.tuple #[.slice none 0 0, .int .i64 0]) ∧ Chg [] w w' := by
 obtain ⟨base, d, p, F, q, L, rfl, rfl, h3, h4, h5, h6⟩ := h
 have HC := Lib.hid (ccount_need w (h4.need _ h5.env))
 have c3 : ¬ ((f : Int) < 0) := by omega
 have c4 : ¬ ((f : Int) > 1290) := by omega
 clear h4 h5 h6
 go_enter Tryz.func15, Tryz.ntmps15
 go_wp2_with fail
 go_step3
 go_wp2_with fail
 refine HC.out.mono ?_
 rintro e w1 ⟨rfl, k1⟩
 go_wp2_with fail
 simp only [Exit.noGoto]
 go_ret2
 exact ⟨rfl, k1⟩
def cntC (cl : Int) (l : List Nat) : Nat := l.countP (fun x => clsB x == cl)
theorem cntC_take (cl : Int) (l : List Nat) (j : Nat) (h : j < l.length) : cntC cl (l.take (j + 1)) = cntC cl (l.take j) + if clsB l[j] == cl then 1 else 0 := by
 unfold cntC
 rw [List.take_succ_eq_append_getElem h, List.countP_append, List.countP_singleton]
theorem cellsC_can {c : Nat → Nat} (h : ∀ i, CanB (c i)) (f n : Nat) : ∀ x ∈ cellsC c f n, CanB x := fun x hx => by
 unfold cellsC at hx
 obtain ⟨i, -, rfl⟩ := List.mem_map.1 hx
 exact h _
theorem QO.can {w : World} (h : QO w lw P hd c k) : ∀ i, CanB (c i) := by
 obtain ⟨base, d, p, F, q, L, h1, h2, h3, h4, h5, h6⟩ := h
 exact h6.1
set_option maxRecDepth 100000 in
set_option maxHeartbeats 4000000 in
theorem qo_count (w : World) {f n : Nat} (cl : Int) (h : QO w lw P hd c k) (hk : k + readsC f n ≤ 60) (hn2 : n ≤ 2000) (hfn : f + n ≤ 1290) :
  Calls Tryz.prog 11 #[.pointer (some ⟨P, 0, none⟩), .int .i64 hd, .int .i64 f, .int .i64 n, .int .i64 cl] w fun e w' =>
  ∃ k', e = .returned (.tuple #[.int .i64 (cntC cl (cellsC c f n)), .int .i64 0]) ∧ Kp lw w w' ∧ QO w' lw P hd c k' ∧ k' ≤ k + readsC f n := by
 rcases Nat.eq_zero_or_pos n with rfl | hn
 ·have HC := Lib.hid (qo_none w h (by omega))
  have HQ := Lib.hid (fun w' (hc : Chg [] w w') => h.keep hc)
  clear h
  go_enter Tryz.func11, Tryz.ntmps11
  go_wp2_with fail
  refine HC.out.mono ?_
  rintro e w1 ⟨rfl, k1⟩
  go_wp2_with fail
  go_loopw [14, 16, 30] (fun k _ i wr => k = .int .i64 0 ∧ i = .int .i64 0 ∧ w1 = wr) (fun _ _ _ _ => 0)
  case atStart => exact ⟨rfl, rfl, rfl⟩
  case round =>
   obtain ⟨rfl, rfl, rfl⟩ := hrel
   go_wp2_with fail
   go_ret2
   exact ⟨_, rfl, Kp.of_chg k1, HQ.out _ k1, Nat.le_add_right _ _⟩
 ·have HC := Lib.hid (qo_cells w h hk hn hn2 hfn)
  have HCAN := Lib.hid (cellsC_can h.can f n)
  clear h
  go_enter Tryz.func11, Tryz.ntmps11
  go_wp2_with fail
  refine HC.out.mono ?_
  rintro e w1 ⟨g, o, cp, k', rfl, hcp, hg, k1, hF, hq, hk'⟩
  obtain ⟨l, hl⟩ : ∃ l, l = cellsC c f n := ⟨_, rfl⟩
  rw [← hl] at hF HCAN
  have hlen : l.length = n := by rw [hl, cellsC_len]
  have HL := Lib.hid (And.intro hl hlen)
  have HF := Lib.hid hF
  have HQ := Lib.hid (And.intro k1 (And.intro hq hk'))
  clear HC hF hq hk' k1 hl hlen
  go_wp2_with fail
  go_loopw [14, 16, 30] (fun k _ i wr => w1 = wr ∧ ∃ j m : Nat, j ≤ n ∧ i = .int .i64 j ∧ k = .int .i64 m ∧ Hid (m = cntC cl (l.take j) ∧ m ≤ j)) (fun _ _ i _ => n - (intOf i).toNat)
  case atStart => exact ⟨rfl, 0, 0, Nat.zero_le _, rfl, rfl, Lib.hid ⟨rfl, Nat.le_refl _⟩⟩
  case round =>
   obtain ⟨rfl, j, m, hj, rfl, rfl, hm⟩ := hrel
   rcases Nat.lt_or_ge j n with hlt | hge
   ·have hlt' : (j : Int) < n := by omega
    have hjl : j < l.length := by rw [HL.out.2]; exact hlt
    obtain ⟨x, hx⟩ : ∃ x, x = l[j] := ⟨_, rfl⟩
    have cj : w1.cell? ⟨g, o + j, none⟩ = some (.float .f64 x) := by rw [hx]; exact fl_at HF.out j hjl
    have hxc := HCAN.out x (by rw [hx]; exact List.getElem_mem _)
    have HT := Lib.hid (cntC_take cl l j hjl)
    rw [← hx] at HT
    have HK := Lib.hid (class_any x w1 hxc.1)
    have hm2 : m < 2000 := by have := hm.out.2; omega
    clear hx hxc
    by_cases he : clsB x = cl
    ·have HN := Lib.hid (show m + 1 = cntC cl (l.take (j + 1)) ∧ m + 1 ≤ j + 1 by
      have h1 := hm.out
      rw [HT.out, if_pos (by simpa using he), ← h1.1]
      exact ⟨rfl, by omega⟩)
     rw [he] at HK
     clear he
     go_wp2_with fail
     refine HK.out.mono ?_
     rintro e w2 ⟨rfl, rfl⟩
     go_wp2_with fail
     go_roundw
     case rel => exact ⟨trivial, j + 1, m + 1, hlt, by go_num, by go_num, HN⟩
     case measure => simp [intOf]; omega
    ·have HN := Lib.hid (show m = cntC cl (l.take (j + 1)) ∧ m ≤ j + 1 by
      have h1 := hm.out
      rw [HT.out, if_neg (by simpa using he), ← h1.1]
      exact ⟨rfl, by omega⟩)
     have he2 : (clsB x == cl) = false := by simpa using he
     generalize clsB x = y at *
     clear he
     go_wp2_with fail
     refine HK.out.mono ?_
     rintro e w2 ⟨rfl, rfl⟩
     go_wp2_with fail
     go_roundw
     case rel => exact ⟨trivial, j + 1, m, hlt, by go_num, rfl, HN⟩
     case measure => simp [intOf]; omega
   ·obtain rfl : j = n := by omega
    have hnl : ¬ ((j : Int) < j) := by omega
    have HE := Lib.hid (show (m : Int) = ((cntC cl (cellsC c f j) : Nat) : Int) by
     have h1 := hm.out.1
     rw [List.take_of_length_le (by rw [HL.out.2]; exact Nat.le_refl _)] at h1
     rw [h1, HL.out.1])
    clear hm
    go_wp2_with fail
    go_ret2
    exact ⟨by rw [← HE.out]; rfl, HQ.out.1, k', HQ.out.2⟩
set_option maxRecDepth 100000 in
theorem fmax_any (w : World) {g o n cp : Nat} {l : List Nat} (hl : l.length = n) (hn : 0 < n) (hn2 : n ≤ 1000000) (hF : Fl w (some ⟨g, o, none⟩) l) (hc : ∀ x ∈ l, CanB x) :
  Calls Tryz.prog 46 #[.slice (some ⟨g, o, none⟩) n cp] w fun e w' => e = .returned (.tuple #[.float .f64 (maxB l), .int .i64 0]) ∧ w = w' := by
 have H47 : Calls Tryz.prog 47 #[.slice (some ⟨g, o, none⟩) n cp] w fun e w' => e = .returned (.tuple #[.float .f64 (maxB l), .int .i64 0]) ∧ w = w' := by
  have HM := Lib.hid (fmost_any w (cp := cp) hl hn hn2 hF hc)
  clear hl hF hc
  go_enter Tryz.func47, Tryz.ntmps47
  go_wp2_with fail
  refine HM.out.mono ?_
  rintro e w2 ⟨rfl, rfl⟩
  go_wp2_with fail
  go_ret2
  exact ⟨rfl, rfl⟩
 have HM := Lib.hid H47
 clear hl hF hc H47
 go_enter Tryz.func46, Tryz.ntmps46
 go_wp2_with fail
 refine HM.out.mono ?_
 rintro e w2 ⟨rfl, rfl⟩
 go_wp2_with fail
 go_ret2
 exact ⟨rfl, rfl⟩
end
def zeroF (n : Nat) : List Nat := List.replicate n 0
theorem class_zero (w : World) : Calls Tryz.prog 44 #[.float .f64 0] w fun e w' => e = .returned (.int .i64 6) ∧ w = w' :=
 (class_any 0 w (by decide)).mono fun _ _ h => by rw [show clsB 0 = 6 from rfl] at h; exact h
set_option maxRecDepth 100000 in
theorem negative_zero (w : World) {g o k c : Nat} (h : Fl w (some ⟨g, o, none⟩) (zeroF k)) (hk : 0 < k) : Calls Tryz.prog 142 #[.slice (some ⟨g, o, none⟩) k c] w fun e w' => e = .returned (.bool false) ∧ w = w' := by
 have c0 : w.cell? ⟨g, o, none⟩ = some (.float .f64 0) := by
  rcases h with h | ⟨b, o', e, h⟩
  ·have := congrArg List.length h
   simp [zeroF] at this
   omega
  ·cases e
   have := h 0 (by simp [zeroF]; omega)
   simpa [zeroF] using this
 have hp : (0 : Int) < k := by omega
 go_enter Tryz.func142, Tryz.ntmps142
 go_wp2_with fail
 go_loopw [7] (fun i wr => i = .int .i64 0 ∧ w = wr) (fun _ _ => 0)
 case atStart => exact ⟨rfl, rfl⟩
 case round =>
  obtain ⟨rfl, rfl⟩ := hrel
  go_wp2_with fail
  refine (class_zero _).mono ?_
  rintro e w2 ⟨rfl, rfl⟩
  go_wp2_with fail
  go_ret
  exact ⟨rfl, rfl⟩
set_option maxRecDepth 100000 in
theorem plain_zero (w : World) : Calls Tryz.prog 145 #[.float .f64 0] w fun e w' => e = .returned (.float .f64 0) ∧ w = w' := by
 have hc : canB 0 = 0 := by decide
 go_enter Tryz.func145, Tryz.ntmps145
 go_wp2_with (first
  | (go_at_call 177; refine (fbits_any 0 _).mono ?_; rintro e w1 ⟨rfl, rfl⟩; rw [hc])
  | (go_at_call 176; refine (fromBits_any 0 _).mono ?_; rintro e w1 ⟨rfl, rfl⟩; rw [hc]))
 go_ret
 exact ⟨rfl, rfl⟩
theorem abs_zero (w : World) : Calls Tryz.prog 144 #[.float .f64 0] w fun e w' => e = .returned (.float .f64 0) ∧ w = w' :=
 (abs_any 0 w (by decide)).mono fun _ _ h => by rw [show magB 0 = 0 by decide] at h; exact h
set_option maxRecDepth 100000 in
set_option maxHeartbeats 2000000 in
theorem fsum_zero (w : World) {g o k c : Nat} (h : Fl w (some ⟨g, o, none⟩) (zeroF k)) (hk : 0 < k) (hk2 : k ≤ 1000000) : Calls Tryz.prog 67 #[.slice (some ⟨g, o, none⟩) k c] w fun e w' => e = .returned (.float .f64 0) ∧ w = w' := by
 have hN := Lib.hid (negative_zero w (c := c) h hk)
 have hcell : ∀ j, j < k → w.cell? ⟨g, o + j, none⟩ = some (.float .f64 0) := by
  intro j hj
  rcases h with h | ⟨b, o', e, h⟩
  ·have := congrArg List.length h
   simp [zeroF] at this
   omega
  ·cases e
   have := h j (by simp [zeroF]; omega)
   simpa [zeroF] using this
 have ha : ∀ w, (binOp .add 33 (.float .f64 0) (.float .f64 0)).run Tryz.prog w = .ok (.float .f64 0) w := fun w => by kernel_rfl
 have hs : ∀ w, (binOp .sub 33 (.float .f64 0) (.float .f64 0)).run Tryz.prog w = .ok (.float .f64 0) w := fun w => by kernel_rfl
 have hg : ∀ w, (binOp .geq 33 (.float .f64 0) (.float .f64 0)).run Tryz.prog w = .ok (.bool true) w := fun w => by kernel_rfl
 have hq : ∀ w, (binOp .neq 33 (.float .f64 0) (.float .f64 0)).run Tryz.prog w = .ok (.bool false) w := fun w => by kernel_rfl
 clear h
 go_enter Tryz.func67, Tryz.ntmps67
 go_wp2_with fail
 refine hN.out.mono ?_
 rintro e w1 ⟨rfl, rfl⟩
 go_wp2_with fail
 go_loopw [3, 4, 13] (fun s t i wr => s = .float .f64 0 ∧ t = .float .f64 0 ∧ w = wr ∧ ∃ j : Nat, j ≤ k ∧ i = .int .i64 j) (fun _ _ i _ => k - (intOf i).toNat)
 case atStart => exact ⟨rfl, rfl, rfl, 0, Nat.zero_le _, rfl⟩
 case round =>
  obtain ⟨rfl, rfl, rfl, j, hj, rfl⟩ := hrel
  rcases Nat.lt_or_ge j k with hl | hl
  ·have hl' : (j : Int) < k := by omega
   have hcj := hcell j hl
   go_wp2_with (first | (go_at_call 144; refine (abs_zero _).mono ?_; rintro e w2 ⟨rfl, rfl⟩))
   go_roundw
   case rel => exact ⟨rfl, rfl, trivial, j + 1, hl, by go_num⟩
   case measure => simp [intOf]; omega
  ·obtain rfl : j = k := by omega
   have hnl : ¬ ((j : Int) < j) := by omega
   go_wp2_with (first | (go_at_call 145; refine (plain_zero _).mono ?_; rintro e w2 ⟨rfl, rfl⟩))
   go_ret
   exact ⟨rfl, rfl⟩
set_option maxRecDepth 100000 in
theorem sum71 (w : World) {v : Value} (h : Calls Tryz.prog 67 #[v] w fun e w' => e = .returned (.float .f64 0) ∧ w = w') : Calls Tryz.prog 66 #[v] w fun e w' => e = .returned (.tuple #[.float .f64 0, .int .i64 0]) ∧ w = w' := by
 go_enter Tryz.func66, Tryz.ntmps66
 go_wp2_with (first | (go_at_call 67; refine h.mono ?_; rintro e w2 ⟨rfl, rfl⟩))
 go_ret2
 exact ⟨rfl, rfl⟩

section
variable {lw P k : Nat} {hd : Int}
set_option maxRecDepth 100000 in
set_option maxHeartbeats 2000000 in
theorem qo_sum0 (w : World) {f n : Nat} (h : QO w lw P hd (fun _ => 0) k) (hk : k + readsC f n ≤ 60) (hn : 0 < n) (hn2 : n ≤ 2000) (hfn : f + n ≤ 1290) :
  Calls Tryz.prog 26 #[.pointer (some ⟨P, 0, none⟩), .int .i64 hd, .int .i64 f, .int .i64 n] w fun e w' =>
  ∃ k', e = .returned (.tuple #[.float .f64 0, .int .i64 0]) ∧ Kp lw w w' ∧ QO w' lw P hd (fun _ => 0) k' ∧ k' ≤ k + readsC f n := by
 have H45 : Calls Tryz.prog 45 #[.pointer (some ⟨P, 0, none⟩), .int .i64 hd, .int .i64 f, .int .i64 n, .func (.func 66) #[] #[]] w fun e w' =>
  ∃ k', e = .returned (.tuple #[.float .f64 0, .int .i64 0]) ∧ Kp lw w w' ∧ QO w' lw P hd (fun _ => 0) k' ∧ k' ≤ k + readsC f n := by
  have HC := Lib.hid (qo_cells w h hk hn hn2 hfn)
  clear h
  go_enter Tryz.func45, Tryz.ntmps45
  go_wp2_with fail
  refine HC.out.mono ?_
  rintro e w1 ⟨g, o, cp, k', rfl, hcp, hg, k1, hF, hq, hk'⟩
  have hz : cellsC (fun _ => 0) f n = zeroF n := by
   apply List.ext_getElem
   ·rw [cellsC_len]; simp [zeroF]
   ·intro i h1 h2; rw [cellsC_get]; simp [zeroF]
  rw [hz] at hF
  have HS := Lib.hid (sum71 w1 (fsum_zero w1 (c := cp) hF hn (by omega)))
  clear HC hF hz
  go_wp2_with (first | (go_at_call 66; refine HS.out.mono ?_; rintro e w2 ⟨rfl, rfl⟩))
  go_ret2
  exact ⟨k', rfl, k1, hq, hk'⟩
 have HQ := Lib.hid H45
 clear h H45
 go_enter Tryz.func26, Tryz.ntmps26
 go_wp2_with fail
 refine HQ.out.mono ?_
 rintro e w1 ⟨k', rfl, hr⟩
 go_wp2_with fail
 go_ret2
 exact ⟨k', rfl, hr⟩
end
set_option maxRecDepth 100000 in
set_option maxHeartbeats 2000000 in
theorem awake27 (w : World) : Calls Tryz.prog 8 #[] w fun e w' => e = .returned (.bool true) ∧ Chg [] w w' := by
 have hq : ∀ w, (binOp .eql 33 (.float .f64 0) (.float .f64 0)).run Tryz.prog w = .ok (.bool true) w := fun w => by kernel_rfl
 have HFR := Lib.hid (fresh_any w (pa := none) (N := 0) (cp := 0) (l := []) rfl (by decide) (Or.inl rfl) (fun x hx => by cases hx))
 go_enter Tryz.func8, Tryz.ntmps8
 go_wp2_with fail
 refine HFR.out.mono ?_
 rintro e w1 ⟨n, P, G, rfl, hn, k1, hfo⟩
 obtain ⟨hd, hhd⟩ : ∃ hd : Int, hd = ((n + 1 : Nat) : Int) := ⟨_, rfl⟩
 have hqo := hfo.qo
 rw [← hhd] at hqo ⊢
 have HQ := Lib.hid (qo_sum0 w1 (f := 0) (n := 20) hqo (by decide) (by decide) (by decide) (by decide))
 clear HFR hfo hqo hhd
 go_wp2_with fail
 refine HQ.out.mono ?_
 rintro e w2 ⟨k', rfl, k2, h2, hk2⟩
 have r1 : readsC 0 20 = 1 := by decide
 have r2 : readsC 3 20 = 1 := by decide
 have HN := Lib.hid (qo_count w2 (f := 3) (n := 20) 6 h2 (by omega) (by decide) (by decide))
 rw [show cntC 6 (cellsC (fun _ => 0) 3 20) = 20 from rfl] at HN
 have k3 := chg_kp k1 k2
 clear HQ h2 k2 k1
 go_wp2_with fail
 refine HN.out.mono ?_
 rintro e w3 ⟨k'', rfl, k4, -, -⟩
 have HC := Lib.hid (chg_kp k3 k4)
 clear HN k3 k4
 go_wp2_with fail
 go_ret
 exact ⟨rfl, HC.out⟩
section
variable {lw base T W rw Q V k j : Nat} {hr t : Int} {qR : Int → List UInt8} {d : Ids} {s : Gs} {g : Gd} {q0 q : Int → List UInt8}
end

section
variable {base : Nat} {d : Ids} {p : Par} {F : World → Prop}
end
def K33 (w w' : World) : Prop := ∃ U, Chg U w w' ∧ ∀ x ∈ U, ∀ cs fr, w.heap[x]? ≠ some (.cells cs 33 fr)
section
variable {lw base T W rw Q V k j : Nat} {hr t : Int} {qR : Int → List UInt8} {d : Ids} {s : Gs} {g : Gd} {q : Int → List UInt8}
end
end Go.Proofs.YtelakcjbknbehaaGreat
