/- Lemmas and walks. -/
import Derived.Deep.RegionHeld3
import Derived.Deep.CutBlock
import Derived.Test.YtelakcjbknbehaaGreatEd
import Derived.Test.YtelakcjbknbehaaGreatEe
import Derived.Test.YtelakcjbknbehaaGreatEf
import Derived.Test.YtelakcjbknbehaaGreatEg
import Derived.Test.YtelakcjbknbehaaGreatEh
import Derived.Test.YtelakcjbknbehaaGreatEj
namespace Go.Proofs.YtelakcjbknbehaaGreat
open Go.RowKit Go.Lib

def Tx1 (w : World) (v : Value) (t : Int) (pv : Value) : Prop := ∃ g c, v = .slice (some ⟨g, 0, none⟩) 1 c ∧ 1 ≤ c ∧ ∃ cs : Array Value, w.heap[g]? = some (.cells cs 185 (0, 0)) ∧ cs[0]? = some (.int .i64 t) ∧ cs[1]? = some pv
theorem Tx1.keepA {w w' : World} {T : List Nat} {v pv : Value} {t : Int} (h : Tx1 w v t pv) (hc : Chg T w w') (hT : Av w T [185]) : Tx1 w' v t pv := by
 obtain ⟨g, c, e, h1, cs, h2, h3, h4⟩ := h
 exact ⟨g, c, e, h1, cs, hc.heap h2 (hT.ne h2 (by simp)), h3, h4⟩
theorem Tx1.keep {w w' : World} {v pv : Value} {t : Int} (h : Tx1 w v t pv) (hc : Chg [] w w') : Tx1 w' v t pv := h.keepA hc (Av.nil _ _)
def Nl (v : Value) : Prop := ∃ p c, v = .slice p 0 c
set_option maxRecDepth 100000 in
set_option maxHeartbeats 2000000 in
theorem rform_one (w : World) {v : Value} {t : Int} {pb : Option Addr} {m cb : Nat} (h : Tx1 w v t (.slice pb m cb)) (hm : m ≤ 16) : Calls Tryz.prog 174 #[v] w fun e w' => e = .returned (.int .i64 1) ∧ w = w' := by
 obtain ⟨g, c, rfl, hc, cs, hg, h0, h1⟩ := h
 have r1 : w.cell? ⟨g, 1, none⟩ = some (.slice pb m cb) := cell_is hg 1 h1
 clear hg h0 h1
 go_enter Tryz.func174, Tryz.ntmps174
 go_wp2_with fail
 go_loopw [3, 4] (fun nv kv wr => (nv = .int .i64 0 ∧ kv = .int .i64 0 ∨ nv = .int .i64 1 ∧ kv = .int .i64 m) ∧ wr = w) (fun nv _ _ => 1 - (intOf nv).toNat)
 case atStart => exact ⟨Or.inl ⟨rfl, rfl⟩, (by first | trivial | rfl)⟩
 case round =>
  obtain ⟨⟨rfl, rfl⟩ | ⟨rfl, rfl⟩, rfl⟩ := hrel
  ·go_wp2_with fail
   go_roundw
   case rel => exact ⟨Or.inr ⟨rfl, by simp⟩, trivial⟩
   case measure => simp [intOf]
  ·go_wp2_with fail
   go_ret
   exact ⟨rfl, rfl⟩
set_option maxRecDepth 100000 in
set_option maxHeartbeats 4000000 in
theorem rbatch_one (w : World) {G Y : Nat} {a b Tv qv qhv : Value} {n num giv dn t : Int} {pb : Option Addr} {m cb : Nat} (h : RmS w G Y a b Tv qv qhv n num giv dn 0) (hq : Tx1 w qv t (.slice pb m cb)) (hm : m ≤ 16) (hn0 : 0 ≤ num) (hn1 : num ≤ 1000000) :
  Calls Tryz.prog 104 #[.pointer (some ⟨G, 0, none⟩)] w fun e w' => e = .returned (.tuple #[.agg #[.int .i64 (num + 1), qv], .int .i64 0]) ∧ RmS w' G Y a b Tv qv qhv n num giv dn 1 ∧ Chg [G] w w' := by
 have k0 : Chg [] w (w.alloc (.cells #[.int .i64 0, .slice none 0 0] 108)) := Chg.alloc w _
 have z0 := heap_new w (.cells #[.int .i64 0, .slice none 0 0] 108)
 have hm1 := k0.heap h (by simp)
 have HF := Lib.hid (rform_one _ (hq.keep k0) hm)
 obtain ⟨g, c, rfl, hc, -⟩ := hq
 have c8 : (w.alloc (.cells #[.int .i64 0, .slice none 0 0] 108)).cell? ⟨G, 8, none⟩ = some (.int .i64 0) := cell_is hm1 8 rfl
 have c6 : (w.alloc (.cells #[.int .i64 0, .slice none 0 0] 108)).cell? ⟨G, 6, none⟩ = some (.slice (some ⟨g, 0, none⟩) 1 c) := cell_is hm1 6 rfl
 have f8 := unfrozen hm1 8
 have HH := Lib.hid (And.intro hm1 (And.intro z0 k0))
 clear h hm1 z0 k0
 go_enter Tryz.func104, Tryz.ntmps104
 go_wp2_with fail
 generalize hz : w.heap.size = z at *
 generalize hw1 : w.alloc (.cells #[.int .i64 0, .slice none 0 0] 108) = w1 at *
 refine HF.out.mono ?_
 rintro e w2 ⟨rfl, rfl⟩
 go_wp2_with fail
 have hG2 := heap_set HH.out.1 8 (.int .i64 1) rfl
 have hzG : z ≠ G := heap_ne HH.out.2.1 HH.out.1 (by simp)
 have hz2 := (Chg.set w1 G 8 (.int .i64 1)).heap HH.out.2.1 (by simpa using hzG)
 have HK := Lib.hid (((HH.out.2.2.mono (T := [G]) (fun x hx _ => by cases hx)).then (Chg.set w1 G 8 (.int .i64 1))))
 have HG2 := Lib.hid hG2
 generalize w1.setCell ⟨G, 8, none⟩ (.int .i64 1) = w3 at *
 have c8 : w3.cell? ⟨G, 8, none⟩ = some (.int .i64 1) := cell_is hG2 8 rfl
 have c9 : w3.cell? ⟨G, 9, none⟩ = some (.int .i64 num) := cell_is hG2 9 rfl
 have c6 : w3.cell? ⟨G, 6, none⟩ = some (.slice (some ⟨g, 0, none⟩) 1 c) := cell_is hG2 6 rfl
 have q0 : w3.cell? ⟨z, 0, none⟩ = some (.int .i64 0) := cell_is hz2 0 rfl
 have q1 : w3.cell? ⟨z, 1, none⟩ = some (.slice none 0 0) := cell_is hz2 1 rfl
 have p0 := unfrozen hz2 0
 have p1 := unfrozen hz2 1
 have hci : (1 : Int) ≤ c := by omega
 have hwn : IntKind.i64.wrap (num + 1) = num + 1 := by rw [IntKind.wrap_i64]; omega
 clear HF
 go_region_held3 (fun wx => wx.cell? ⟨G, 8, none⟩ = some (.int .i64 1) ∧ wx.cell? ⟨G, 9, none⟩ = some (.int .i64 num) ∧ wx.cell? ⟨G, 6, none⟩ = some (.slice (some ⟨g, 0, none⟩) 1 c))
  (first | (exact ⟨c8, c9, c6⟩) | (exact ⟨((Chg.set _ z 0 _).then (Chg.set _ z 1 _)).cell c8 (by simpa using hzG.symm), ((Chg.set _ z 0 _).then (Chg.set _ z 1 _)).cell c9 (by simpa using hzG.symm), ((Chg.set _ z 0 _).then (Chg.set _ z 1 _)).cell c6 (by simpa using hzG.symm)⟩))
  (fail)
 go_wp2_with fail
 refine bodyPost_ret (v := .tuple #[.agg #[.int .i64 (num + 1), .slice (some ⟨g, 0, none⟩) 1 c], .int .i64 0]) (by simp [results, Tryz.results104, go_sem, q0, q1]) rfl ?_
 have kz := ((Chg.refl [z] w3).then (Chg.set w3 z 0 (.int .i64 (num + 1)))).then (Chg.set _ z 1 (.slice (some ⟨g, 0, none⟩) 1 c))
 refine ⟨rfl, kz.heap HG2.out (by simpa using hzG.symm), ?_⟩
 have hzn : w.heap.size ≤ z := by omega
 refine (HK.out.trans kz (fun x hx hlt => ?_)).drew
 rw [List.mem_singleton] at hx
 omega
def veCells (l : List (Int × Int × Value)) : List Value := l.flatMap fun p => [.int .i64 p.1, .int .i64 p.2.1, p.2.2]
theorem veCells_app (a b : List (Int × Int × Value)) : veCells (a ++ b) = veCells a ++ veCells b := by simp [veCells]
def VeV (w : World) (vs : List (Int × Int × Value)) (l : List (Int × Int × List UInt8)) : Prop := vs.length = l.length ∧ ∀ i (h : i < l.length) (h' : i < vs.length), vs[i].1 = l[i].1 ∧ vs[i].2.1 = l[i].2.1 ∧ DatX w vs[i].2.2 l[i].2.2
theorem VeV.nil (w : World) : VeV w [] [] := ⟨rfl, fun i h => by cases h⟩
theorem VeV.keepA {w w' : World} {T : List Nat} {vs : List (Int × Int × Value)} {l : List (Int × Int × List UInt8)} (h : VeV w vs l) (hc : Chg T w w') (hT : Av w T [5]) : VeV w' vs l := ⟨h.1, fun i hi hi' => ⟨(h.2 i hi hi').1, (h.2 i hi hi').2.1, (h.2 i hi hi').2.2.keepA hc hT⟩⟩
theorem VeV.keep {w w' : World} {vs : List (Int × Int × Value)} {l : List (Int × Int × List UInt8)} (h : VeV w vs l) (hc : Chg [] w w') : VeV w' vs l := h.keepA hc (Av.nil _ _)
theorem VeV.snoc {w : World} {vs : List (Int × Int × Value)} {l : List (Int × Int × List UInt8)} {b t : Int} {v : Value} {d : List UInt8} (h : VeV w vs l) (hd : DatX w v d) : VeV w (vs ++ [(b, t, v)]) (l ++ [(b, t, d)]) := by
 refine ⟨by simp [h.1], fun i hi hi' => ?_⟩
 by_cases hl : i < l.length
 ·have hl' : i < vs.length := by rw [h.1]; exact hl
  rw [List.getElem_append_left hl, List.getElem_append_left hl']
  exact h.2 i hl hl'
 ·have e : i = l.length := by simp at hi; omega
  subst e
  have e2 : vs.length = l.length := h.1
  rw [List.getElem_append_right (by omega), List.getElem_append_right (by omega)]
  simp [e2, hd]
theorem veCells_at (vs : List (Int × Int × Value)) (i : Nat) (h : i < vs.length) : (veCells vs)[i * 3]? = some (.int .i64 vs[i].1) ∧ (veCells vs)[i * 3 + 1]? = some (.int .i64 vs[i].2.1) ∧ (veCells vs)[i * 3 + 2]? = some vs[i].2.2 := by
 induction vs generalizing i with
 | nil => cases h
 | cons p l ih =>
  cases i with
  | zero => exact ⟨rfl, rfl, rfl⟩
  | succ i =>
   have := ih i (by simpa using h)
   rw [show (i + 1) * 3 = i * 3 + 3 by omega, show i * 3 + 3 + 1 = i * 3 + 1 + 3 by omega, show i * 3 + 3 + 2 = i * 3 + 2 + 3 by omega]
   exact this
theorem VeX.own {w : World} {base n : Nat} {v : Value} {vs : List (Int × Int × Value)} {l : List (Int × Int × List UInt8)} (h : w.ownsRow base 259 3 v n (veCells vs)) (hv : VeV w vs l) (hn : n = l.length) : VeX w v l := by
 subst hn
 obtain ⟨pa, c, rfl, hc⟩ := own_form h
 refine ⟨pa, c, rfl, hc, fun i hi => ?_⟩
 have hi' : i < vs.length := by rw [hv.1]; exact hi
 rcases h.2 with ⟨e, h0⟩ | ⟨g, cap, cur, e, hA, hg, h1, h2, h3, h4⟩
 ·omega
 ·cases e
  have key : ∀ j, j < l.length * 3 → w.cell? ⟨g, 0 + j, none⟩ = (veCells vs)[j]? := fun j hj => by
   have e1 : (veCells vs)[j]? = cur.toList[j]? := by
    rw [← h4, List.getElem?_take, if_pos hj]
   rw [e1, Nat.zero_add]
   unfold World.cell?
   rw [hg]
   simp
  have hp := veCells_at vs i hi'
  have hq := hv.2 i hi hi'
  refine ⟨g, 0, vs[i].2.2, rfl, ⟨_, hg⟩, ?_, ?_, ?_, hq.2.2⟩
  ·rw [key _ (by omega), hp.1, hq.1]
  ·rw [show 0 + i * 3 + 1 = 0 + (i * 3 + 1) by omega, key _ (by omega), hp.2.1, hq.2.1]
  ·rw [show 0 + i * 3 + 2 = 0 + (i * 3 + 2) by omega, key _ (by omega), hp.2.2]
theorem tyVe : Tryz.prog.underlying 245 = some (.slice 259) := by kernel_rfl
theorem infVe : (Tryz.prog.info? 259).map (fun i => (i.zero, i.size, i.bytes)) = some (some (.agg #[.int .i64 0, .int .i64 0, .slice none 0 0]), 3, 40) := by kernel_rfl
set_option maxRecDepth 100000 in
set_option maxHeartbeats 8000000 in
theorem rmap_apply (w : World) {Y : Nat} {vb : Value} {L : List (Int × Int × List UInt8)} {P : List (Int × List UInt8)} {last t : Int} (h : RyAt w Y L last) (hP : PuX w vb P) (hN : L.length ≤ 100000) (h0 : 0 < P.length) (h16 : P.length ≤ 16) (ht0 : last < t) (ht1 : t ≤ 1099511627776) (hr : RiseL P) (hk : ∀ p ∈ P, 0 ≤ p.1 ∧ p.1 < 258) :
  Calls Tryz.prog 175 #[.pointer (some ⟨Y, 0, none⟩), .agg #[.int .i64 t, vb]] w fun e w' => e = .returned (.int .i64 0) ∧ Chg [Y] w w' ∧ RyAt w' Y (mergeR t L P) t := by
 have q0 : decide (t ≤ last) = false := decide_eq_false (by omega)
 have q1 : decide (1099511627776 < t) = false := decide_eq_false (by omega)
 obtain ⟨pv, hY, pl, cl, rfl, hcl, hxl⟩ := h
 obtain ⟨pb, cb, rfl, hcb, hxb⟩ := hP
 obtain ⟨gb, ob, rfl⟩ : ∃ gb ob, pb = some ⟨gb, ob, none⟩ := by
  obtain ⟨g, o, u, e, -⟩ := hxb 0 h0
  exact ⟨g, o, e⟩
 have hcb' : ∀ i (h : i < P.length), w.cell? ⟨gb, ob + i * 2, none⟩ = some (.int .i64 P[i].1) ∧ ∃ g o c, w.cell? ⟨gb, ob + i * 2 + 1, none⟩ = some (.slice (some ⟨g, o, none⟩) 40 c) ∧ DatX w (.slice (some ⟨g, o, none⟩) 40 c) P[i].2 := fun i hi => by
  obtain ⟨g, o, u, e, -, c0, c1, hD⟩ := hxb i hi
  cases e
  obtain ⟨gd, od, cd, rfl, hD'⟩ := hD
  exact ⟨c0, gd, od, cd, c1, gd, od, cd, rfl, hD'⟩
 obtain ⟨N, hNe⟩ : ∃ N, N = L.length := ⟨_, rfl⟩
 obtain ⟨n, hne⟩ : ∃ n, n = P.length := ⟨_, rfl⟩
 rw [← hNe] at hY hcl hN
 rw [← hne] at hcb h0 h16 ⊢
 have hn0 : ((n : Int) == 0) = false := beq_eq_false_iff_ne.2 (by omega)
 have g0 := heap_new w (.cells #[.int .i64 t, .slice (some ⟨gb, ob, none⟩) n cb] 185)
 have k0 : Chg [] w (w.alloc (.cells #[.int .i64 t, .slice (some ⟨gb, ob, none⟩) n cb] 185)) := Chg.alloc w _
 obtain ⟨z, hz⟩ : ∃ z, z = w.heap.size := ⟨_, rfl⟩
 rw [← hz] at g0
 have y2 : (w.alloc (.cells #[.int .i64 t, .slice (some ⟨gb, ob, none⟩) n cb] 185)).cell? ⟨Y, 2, none⟩ = some (.int .i64 last) := cell_is (k0.heap hY (by simp)) 2 rfl
 have z0 : (w.alloc (.cells #[.int .i64 t, .slice (some ⟨gb, ob, none⟩) n cb] 185)).cell? ⟨z, 0, none⟩ = some (.int .i64 t) := cell_is g0 0 rfl
 have HH := Lib.hid (And.intro hY (And.intro hxl (And.intro hcb' (And.intro hNe (And.intro hne (And.intro hr (And.intro hk hz)))))))
 have HG := Lib.hid (And.intro g0 k0)
 clear hY hxl hxb hcb' hNe hne hr hk g0 k0 hcl hcb
 go_enter Tryz.func175, Tryz.ntmps175
 go_wp2_with fail
 rw [← hz]
 clear hz
 generalize w.alloc (.cells #[.int .i64 t, .slice (some ⟨gb, ob, none⟩) n cb] 185) = w1 at *
 go_quiet (fail)
 have kq : Chg [] w1 (w1.drewN nq) := (Chg.refl [] w1).drewN nq
 have z1 : (w1.drewN nq).cell? ⟨z, 1, none⟩ = some (.slice (some ⟨gb, ob, none⟩) n cb) := cell_is (kq.heap HG.out.1 (by simp)) 1 rfl
 generalize w1.drewN nq = w2 at *
 have H2 := Lib.hid (And.intro (kq.heap HG.out.1 (by simp)) (HG.out.2.then kq))
 clear kq HG y2 z0
 go_wp2_with fail
 go_loopw [5] (fun iv wr => ∃ j : Nat, iv = .int .i64 (j + 1 : Nat) ∧ j + 1 ≤ n ∧ Chg [] w2 wr) (fun iv _ => n - (intOf iv).toNat)
 case atStart => exact ⟨0, rfl, h0, Chg.refl _ _⟩
 case round =>
  obtain ⟨j, rfl, hj, kr⟩ := hrel
  have z1r : wr.cell? ⟨z, 1, none⟩ = some (.slice (some ⟨gb, ob, none⟩) n cb) := cell_is (kr.heap H2.out.1 (by simp)) 1 rfl
  by_cases hlt : j + 1 < n
  ·have hlti : ((j + 1 : Nat) : Int) < n := by omega
   have hj1 : j + 1 < P.length := by have := HH.out.2.2.2.2.1; omega
   have kw := H2.out.2.then kr
   have d0 := kw.cell (HH.out.2.2.1 j (by omega)).1 (by simp)
   have d1 := kw.cell (HH.out.2.2.1 (j + 1) hj1).1 (by simp)
   have hlt2 : P[j].1 < P[j + 1].1 := List.pairwise_iff_getElem.1 HH.out.2.2.2.2.2.1 j (j + 1) (by omega) hj1 (by omega)
   generalize P[j].1 = x at *
   generalize P[j + 1].1 = y at *
   have hle : decide (y ≤ x) = false := decide_eq_false (by omega)
   have HK := Lib.hid kr
   clear kr kw
   go_wp2_with fail
   go_quiet (fail)
   go_wp2_with fail
   go_roundw
   case rel => exact ⟨j + 1, by go_num, hlt, HK.out.drewN nq⟩
   case measure => simp [intOf]; omega
  ·have hjn : n = j + 1 := by omega
   subst hjn
   have HK := Lib.hid kr
   clear kr
   go_wp2_with fail
   go_loopw [6] (fun iv wx => ∃ i : Nat, iv = .int .i64 i ∧ i ≤ j + 1 ∧ Chg [] w2 wx) (fun iv _ => j + 1 - (intOf iv).toNat)
   case atStart => exact ⟨0, rfl, Nat.zero_le _, HK.out⟩
   case round =>
    obtain ⟨i, rfl, hi, kr⟩ := hrel
    have z1r : wr.cell? ⟨z, 1, none⟩ = some (.slice (some ⟨gb, ob, none⟩) (j + 1) cb) := cell_is (kr.heap H2.out.1 (by simp)) 1 rfl
    by_cases hlt : i < j + 1
    ·have hlti : (i : Int) < (j + 1 : Nat) := by omega
     have hil : i < P.length := by have := HH.out.2.2.2.2.1; omega
     have kw := H2.out.2.then kr
     have d0 := kw.cell (HH.out.2.2.1 i hil).1 (by simp)
     have y0 : wr.cell? ⟨Y, 0, none⟩ = some (.int .i64 258) := cell_is (kw.heap HH.out.1 (by simp)) 0 rfl
     have hkk := HH.out.2.2.2.2.2.2.1 _ (List.getElem_mem hil)
     generalize P[i].1 = x at *
     have e1 : decide (x < 0) = false := decide_eq_false (by omega)
     have e2 : decide (258 ≤ x) = false := decide_eq_false (by omega)
     have HK := Lib.hid kr
     clear kr kw hkk
     go_wp2_with fail
     go_quiet (fail)
     go_wp2_with fail
     go_roundw
     case rel => exact ⟨i + 1, by go_num, hlt, HK.out.drewN nq⟩
     case measure => simp [intOf]; omega
    ·obtain rfl : i = j + 1 := by omega
     have HK := Lib.hid kr
     clear kr
     go_wp2_with fail
     go_loopw [7] (fun iv wx => ∃ i : Nat, iv = .int .i64 i ∧ i ≤ j + 1 ∧ Chg [] w2 wx) (fun iv _ => j + 1 - (intOf iv).toNat)
     case atStart => exact ⟨0, rfl, Nat.zero_le _, HK.out⟩
     case round =>
      obtain ⟨i, rfl, hi, kr⟩ := hrel
      have z1r : wr.cell? ⟨z, 1, none⟩ = some (.slice (some ⟨gb, ob, none⟩) (j + 1) cb) := cell_is (kr.heap H2.out.1 (by simp)) 1 rfl
      by_cases hlt : i < j + 1
      ·have hlti : (i : Int) < (j + 1 : Nat) := by omega
       have hil : i < P.length := by have := HH.out.2.2.2.2.1; omega
       have kw := H2.out.2.then kr
       obtain ⟨gd, od, cd, d1, -⟩ := (HH.out.2.2.1 i hil).2
       have d1 := kw.cell d1 (by simp)
       have HK := Lib.hid kr
       clear kr kw
       go_wp2_with fail
       go_roundw
       case rel => exact ⟨i + 1, by go_num, hlt, HK.out⟩
       case measure => simp [intOf]; omega
      ·obtain rfl : i = j + 1 := by omega
       generalize hjn : j + 1 = n at *
       clear hjn h0 hn0 hlt
       have HB := Lib.hid (And.intro (H2.out.2.then kr) (kr.heap H2.out.1 (by simp)))
       clear kr z1
       generalize wr = wB at *
       have hzB := Nat.le_refl wB.heap.size
       go_wp2_with fail
       clear z1r
       go_loopw [8, 9, 10] (fun ov kv iv wx => ∃ (i k : Nat) (out : List (Int × Int × List UInt8)) (vs : List (Int × Int × Value)), iv = .int .i64 i ∧ kv = .int .i64 k ∧ i ≤ N + 1 ∧ k ≤ n ∧ wx.ownsRow wB.heap.size 259 3 ov vs.length (veCells vs) ∧ VeV wx vs out ∧ (i ≤ N → out ++ mergeR t (L.drop i) (P.drop k) = mergeR t L P) ∧ (i = N + 1 → out = mergeR t L P) ∧ Chg [] wB wx) (fun _ _ iv _ => N + 1 - (intOf iv).toNat)
       case atStart => exact ⟨0, 0, [], [], rfl, rfl, by omega, Nat.zero_le _, World.ownsRow_nil _ _ _ _, VeV.nil _, fun _ => rfl, (fun h => by omega), Chg.refl _ _⟩
       case round =>
        obtain ⟨i, k, out, vs, rfl, rfl, hi, hk, ho, hv, hm, he, kr⟩ := hrel
        have y1 : wr.cell? ⟨Y, 1, none⟩ = some (.slice pl N cl) := cell_is ((HB.out.1.then kr).heap HH.out.1 (by simp)) 1 rfl
        by_cases hiN : i ≤ N
        ·have hiNi : (i : Int) ≤ N := by omega
         have HR := Lib.hid (And.intro ho (And.intro hv (And.intro (hm hiN) kr)))
         clear ho hv hm he kr
         go_wp2_with fail
         clear y1
         go_loopw [8, 9] (fun ov kv wx => ∃ (k : Nat) (out : List (Int × Int × List UInt8)) (vs : List (Int × Int × Value)), kv = .int .i64 k ∧ k ≤ n ∧ wx.ownsRow wB.heap.size 259 3 ov vs.length (veCells vs) ∧ VeV wx vs out ∧ out ++ mergeR t (L.drop i) (P.drop k) = mergeR t L P ∧ Chg [] wB wx) (fun _ kv _ => n - (intOf kv).toNat)
         case atStart => exact ⟨k, out, vs, rfl, hk, HR.out⟩
         case round =>
          clear HR hk
          obtain ⟨k, out, vs, rfl, hk, ho, hv, hm, kr⟩ := hrel
          have kw := HB.out.1.then kr
          have y1 : wr.cell? ⟨Y, 1, none⟩ = some (.slice pl N cl) := cell_is (kw.heap HH.out.1 (by simp)) 1 rfl
          have z1r : wr.cell? ⟨z, 1, none⟩ = some (.slice (some ⟨gb, ob, none⟩) n cb) := cell_is (kr.heap HB.out.2 (by simp)) 1 rfl
          have z0r : wr.cell? ⟨z, 0, none⟩ = some (.int .i64 t) := cell_is (kr.heap HB.out.2 (by simp)) 0 rfl
          have hvl : vs.length ≤ 100016 := by
           have e1 := congrArg List.length hm
           rw [List.length_append, mergeR_len, mergeR_len] at e1
           have := hv.1
           have := HH.out.2.2.2.1
           have := HH.out.2.2.2.2.1
           omega
          obtain ⟨m, hmv⟩ : ∃ m, m = vs.length := ⟨_, rfl⟩
          rw [← hmv] at ho hvl
          obtain ⟨pv, cv, rfl, -⟩ := own_form ho
          have HR := Lib.hid (And.intro ho (And.intro hv (And.intro hm (And.intro kr hmv))))
          have HKw := Lib.hid kw
          clear ho hv hm kr hmv kw
          by_cases hkn : k < n
          ·have hkni : (k : Int) < n := by omega
           have hkP : k < P.length := by have := HH.out.2.2.2.2.1; omega
           have d0 := HKw.out.cell (HH.out.2.2.1 k hkP).1 (by simp)
           obtain ⟨gd, od, cd, d1, hDk⟩ := (HH.out.2.2.1 k hkP).2
           have d1 := HKw.out.cell d1 (by simp)
           have hdp : P.drop k = P[k] :: P.drop (k + 1) := List.drop_eq_getElem_cons hkP
           obtain ⟨x, dx, hpx⟩ : ∃ x dx, P[k] = (x, dx) := ⟨_, _, rfl⟩
           rw [hpx] at d0 hDk hdp
           simp only at d0 hDk
           have HP9 := Lib.hid (And.intro hdp (hDk.keep HKw.out))
           clear hDk hdp hpx
           by_cases hiE : i = N
           ·have hdn : L.drop i = [] := List.drop_eq_nil_of_le (by have := HH.out.2.2.2.1; omega)
            have HDn := Lib.hid hdn
            clear hdn
            subst hiE
            go_wp2_with fail
            go_quiet (fail)
            have kq : Chg [] wr (wr.drewN nq) := (Chg.refl [] wr).drewN nq
            have HQ := Lib.hid kq
            have d0 := kq.cell d0 (by simp)
            have d1 := kq.cell d1 (by simp)
            have z0r := kq.cell z0r (by simp)
            have z1r := kq.cell z1r (by simp)
            have hD4 := HP9.out.2.keep kq
            have hO4 : (wr.drewN nq).ownsRow wB.heap.size 259 3 (.slice pv m cv) m (veCells vs) := own_kp HR.out.1 kq (fun g hg hm => by cases hm)
            have hV4 := HR.out.2.1.keep kq
            have hB4 : Chg [] wB (wr.drewN nq) := HR.out.2.2.2.1.then kq
            clear kq
            generalize wr.drewN nq = w4 at *
            have hz5 : (w4.alloc (.cells #[] 5)).drew.heap[w4.heap.size]? = some (.cells #[] 5 (0, 0)) := heap_new w4 _
            have ka : Chg [] w4 (w4.alloc (.cells #[] 5)).drew := ((Chg.refl [] w4).then_alloc _).drew
            obtain ⟨v6, w6, hrun, k6, hd6⟩ := run_copy40 _ 47 hz5 (hD4.keep ka)
            have hK6 : Chg [] w4 w6 := ka.trans k6 (fun x hx hlt => by rw [List.mem_singleton] at hx; omega)
            obtain ⟨g6, o6, c6, rfl, hd6⟩ := hd6
            have hD6 : DatX w6 (.slice (some ⟨g6, o6, none⟩) 40 c6) dx := ⟨g6, o6, c6, rfl, hd6⟩
            have d06 := hK6.cell d0 (by simp)
            have z06 := hK6.cell z0r (by simp)
            have z16 := hK6.cell z1r (by simp)
            have d16 := hK6.cell d1 (by simp)
            have d0d : w4.drew.cell? ⟨gb, ob + k * 2, none⟩ = some (.int .i64 x) := d0
            have d1d : w4.drew.cell? ⟨gb, ob + k * 2 + 1, none⟩ = some (.slice (some ⟨gd, od, none⟩) 40 cd) := d1
            have z0d : w4.drew.cell? ⟨z, 0, none⟩ = some (.int .i64 t) := z0r
            have z1d : w4.drew.cell? ⟨z, 1, none⟩ = some (.slice (some ⟨gb, ob, none⟩) n cb) := z1r
            have d0a : ∀ o, (w4.alloc o).cell? ⟨gb, ob + k * 2, none⟩ = some (.int .i64 x) := fun o => (Chg.alloc (S := []) w4 o).cell d0 (by simp)
            have d1a : ∀ o, (w4.alloc o).cell? ⟨gb, ob + k * 2 + 1, none⟩ = some (.slice (some ⟨gd, od, none⟩) 40 cd) := fun o => (Chg.alloc (S := []) w4 o).cell d1 (by simp)
            have z0a : ∀ o, (w4.alloc o).cell? ⟨z, 0, none⟩ = some (.int .i64 t) := fun o => (Chg.alloc (S := []) w4 o).cell z0r (by simp)
            have z1a : ∀ o, (w4.alloc o).cell? ⟨z, 1, none⟩ = some (.slice (some ⟨gb, ob, none⟩) n cb) := fun o => (Chg.alloc (S := []) w4 o).cell z1r (by simp)
            obtain ⟨ii, hi0, hz0, hz1, hz2⟩ := info_parts infVe
            obtain ⟨E, hE⟩ : ∃ E : Array Value, E = #[.int .i64 x, .int .i64 t, .slice (some ⟨g6, o6, none⟩) 40 c6] := ⟨_, rfl⟩
            have hnew := heap_new w6 (.cells E 259)
            have hal : ∀ j u, E.toList[j]? = some u → (w6.alloc (.cells E 259)).cell? ((⟨w6.heap.size, 0, none⟩ : Addr).add j) = some u := fun j u hu => by
             rw [add_lit, Nat.zero_add]
             exact cell_is hnew j (by simpa using hu)
            have hO6 := own_kp hO4 hK6 (fun g hg hm => by cases hm)
            have hB6 := hB4.then hK6
            obtain ⟨v7, w7, hrun7, ho7, hg7, -, hb7⟩ := run_append_own_at (P := Tryz.prog) (w6.alloc (.cells E 259)) wB.heap.size 245 245 259 ii _ 3 40 tyVe hi0 hz0 hz1 hz2 rfl (by decide) (.slice pv m cv) m (veCells vs) (hO6.alloc _) ⟨w6.heap.size, 0, none⟩ 1 1 E.toList (by rw [hE]; rfl) hal (by rw [hE]; simp [Value.oneCell']) (by unfold maxLen; omega) (by omega) (by have := hB6.size; have := (Chg.alloc (S := []) w6 (.cells E 259)).size; omega)
            have kb7 : Chg (Value.slice pv m cv).ownBlock.toList (w6.alloc (.cells E 259)) w7 := Chg.own hg7 (fun g hg _ => by simp [hg])
            have kE : Chg [] w6 (w6.alloc (.cells E 259)) := Chg.alloc w6 _
            have z0E := kE.cell z06 (by simp)
            have z1E := kE.cell z16 (by simp)
            have d0E := kE.cell d06 (by simp)
            have d1E := kE.cell d16 (by simp)
            have nb : ∀ {g : Nat}, g < wB.heap.size → g ∉ (Value.slice pv m cv).ownBlock.toList := fun hg hm => by have := (own_elem hO6 (show (Value.slice pv m cv).ownBlock = some _ by simpa using hm)).1; omega
            have hzl := lt_cell (cell_is (w := wB) HB.out.2 0 rfl : wB.cell? ⟨z, 0, none⟩ = some (.int .i64 t))
            have hgl := lt_cell (HB.out.1.cell (HH.out.2.2.1 k hkP).1 (by simp))
            have z07 := kb7.cell z0E (nb hzl)
            have z17 := kb7.cell z1E (nb hzl)
            have d07 := kb7.cell d0E (nb hgl)
            have d17 := kb7.cell d1E (nb hgl)
            have av7 : Av (w6.alloc (.cells E 259)) (Value.slice pv m cv).ownBlock.toList [5] := fun x hx cs t fr hh => by
             obtain ⟨-, cs', hh'⟩ := own_elem (own_kp hO6 kE (fun g hg hm => by cases hm)) (show (Value.slice pv m cv).ownBlock = some x by simpa using hx)
             rw [hh] at hh'
             cases hh'
             decide
            have hv7 : VeV w7 (vs ++ [(x, t, .slice (some ⟨g6, o6, none⟩) 40 c6)]) (out ++ [(x, t, dx)]) := (((hV4.keep hK6).keep kE).keepA kb7 av7).snoc ((hD6.keep kE).keepA kb7 av7)
            have hB7 : Chg [] wB w7 := (hB6.then kE).trans kb7 (fun y hy hlt => by
             have := (own_elem (own_kp hO6 kE (fun g hg hm => by cases hm)) (show (Value.slice pv m cv).ownBlock = some y by simpa using hy)).1
             omega)
            have ho7' : w7.ownsRow wB.heap.size 259 3 v7 (m + 1) (veCells (vs ++ [(x, t, .slice (some ⟨g6, o6, none⟩) 40 c6)])) := by rw [veCells_app]; rw [hE] at ho7; exact ho7
            have H7 := Lib.hid (And.intro ho7' (And.intro hv7 hB7))
            clear hal hnew ho7 ho7' hb7 hg7 kb7 kE av7 hv7 hB7 hO6 hB6 hO4 hV4 hB4 hD4 hD6 hd6 ka hz5 k6 hK6
            subst hE
            go_upto_region 26 with fail
            go_cut [8] from 130 to 150 (fun ov wx => ov = v7 ∧ wx = w7)
            case first =>
             go_region_held3 (fun wx => wx.cell? ⟨z, 0, none⟩ = some (.int .i64 t) ∧ wx.cell? ⟨z, 1, none⟩ = some (.slice (some ⟨gb, ob, none⟩) n cb) ∧ wx.cell? ⟨gb, ob + k * 2, none⟩ = some (.int .i64 x) ∧ wx.cell? ⟨gb, ob + k * 2 + 1, none⟩ = some (.slice (some ⟨gd, od, none⟩) 40 cd))
              (first
               | (exact ⟨z0d, z1d, d0d, d1d⟩)
               | (exact ⟨z0a _, z1a _, d0a _, d1a _⟩)
               | (exact ⟨z06, z16, d06, d16⟩)
               | (exact ⟨z0E, z1E, d0E, d1E⟩)
               | (exact ⟨z07, z17, d07, d17⟩))
              (first
               | (refine step_append_run rfl (.tmp 139) (.tmp 145) 47 47 rfl _ _ rfl rfl _ w6 hrun ?_)
               | (refine step_append_run rfl (.tmp 130) (.tmp 148) 245 245 rfl _ _ rfl rfl _ w7 hrun7 ?_))
             all_goals
              go_wp2_with fail
              go_meet
              exact ⟨rfl, rfl⟩
            case rest =>
             obtain ⟨rfl, rfl⟩ := hcut
             go_wp2_with fail
             go_roundw
             case rel =>
              refine ⟨k + 1, _, _, by go_num, hkn, ?_, H7.out.2.1, ?_, H7.out.2.2⟩
              ·have e := H7.out.1
               have e9 := HR.out.2.2.2.2
               rw [List.length_append, ← e9]
               exact e
              ·rw [← HR.out.2.2.1, HP9.out.1, HDn.out, mergeR_nil]
               simp
             case measure => simp [intOf]; omega
           ·have hiL : i < L.length := by have := HH.out.2.2.2.1; omega
            have hiq : ((i : Int) == N) = false := beq_eq_false_iff_ne.2 (by omega)
            have hiq2 : decide ((i : Int) = N) = false := decide_eq_false (by omega)
            obtain ⟨gl, ol, ul, rfl, -, l0, l1, l2, hDl⟩ := HH.out.2.1 i hiL
            obtain ⟨g9, o9, c9, rfl, hDl⟩ := hDl
            have hDl : DatX w (.slice (some ⟨g9, o9, none⟩) 40 c9) L[i].2.2 := ⟨g9, o9, c9, rfl, hDl⟩
            have hdl : L.drop i = L[i] :: L.drop (i + 1) := List.drop_eq_getElem_cons hiL
            obtain ⟨a9, t9, d9, hv9⟩ : ∃ a9 t9 d9, L[i] = (a9, t9, d9) := ⟨_, _, _, rfl⟩
            rw [hv9] at l0 l1 hDl hdl
            simp only at l0 l1 hDl
            have l0 := HKw.out.cell l0 (by simp)
            have l1 := HKw.out.cell l1 (by simp)
            have l2 := HKw.out.cell l2 (by simp)
            have HL9 := Lib.hid (And.intro hdl (hDl.keep HKw.out))
            clear hDl hdl hv9
            by_cases hxa : x < a9
            ·have hxd : decide (x < a9) = true := decide_eq_true hxa
             have HXA := Lib.hid (show (x, dx).1 < (a9, t9, d9).1 from hxa)
             go_wp2_with fail
             go_quiet (fail)
             have kq : Chg [] wr (wr.drewN nq) := (Chg.refl [] wr).drewN nq
             have HQ := Lib.hid kq
             have d0 := kq.cell d0 (by simp)
             have d1 := kq.cell d1 (by simp)
             have z0r := kq.cell z0r (by simp)
             have z1r := kq.cell z1r (by simp)
             have hD4 := HP9.out.2.keep kq
             have hO4 : (wr.drewN nq).ownsRow wB.heap.size 259 3 (.slice pv m cv) m (veCells vs) := own_kp HR.out.1 kq (fun g hg hm => by cases hm)
             have hV4 := HR.out.2.1.keep kq
             have hB4 : Chg [] wB (wr.drewN nq) := HR.out.2.2.2.1.then kq
             clear kq
             generalize wr.drewN nq = w4 at *
             have hz5 : (w4.alloc (.cells #[] 5)).drew.heap[w4.heap.size]? = some (.cells #[] 5 (0, 0)) := heap_new w4 _
             have ka : Chg [] w4 (w4.alloc (.cells #[] 5)).drew := ((Chg.refl [] w4).then_alloc _).drew
             obtain ⟨v6, w6, hrun, k6, hd6⟩ := run_copy40 _ 47 hz5 (hD4.keep ka)
             have hK6 : Chg [] w4 w6 := ka.trans k6 (fun x hx hlt => by rw [List.mem_singleton] at hx; omega)
             obtain ⟨g6, o6, c6, rfl, hd6⟩ := hd6
             have hD6 : DatX w6 (.slice (some ⟨g6, o6, none⟩) 40 c6) dx := ⟨g6, o6, c6, rfl, hd6⟩
             have d06 := hK6.cell d0 (by simp)
             have z06 := hK6.cell z0r (by simp)
             have z16 := hK6.cell z1r (by simp)
             have d16 := hK6.cell d1 (by simp)
             have d0d : w4.drew.cell? ⟨gb, ob + k * 2, none⟩ = some (.int .i64 x) := d0
             have d1d : w4.drew.cell? ⟨gb, ob + k * 2 + 1, none⟩ = some (.slice (some ⟨gd, od, none⟩) 40 cd) := d1
             have z0d : w4.drew.cell? ⟨z, 0, none⟩ = some (.int .i64 t) := z0r
             have z1d : w4.drew.cell? ⟨z, 1, none⟩ = some (.slice (some ⟨gb, ob, none⟩) n cb) := z1r
             have d0a : ∀ o, (w4.alloc o).cell? ⟨gb, ob + k * 2, none⟩ = some (.int .i64 x) := fun o => (Chg.alloc (S := []) w4 o).cell d0 (by simp)
             have d1a : ∀ o, (w4.alloc o).cell? ⟨gb, ob + k * 2 + 1, none⟩ = some (.slice (some ⟨gd, od, none⟩) 40 cd) := fun o => (Chg.alloc (S := []) w4 o).cell d1 (by simp)
             have z0a : ∀ o, (w4.alloc o).cell? ⟨z, 0, none⟩ = some (.int .i64 t) := fun o => (Chg.alloc (S := []) w4 o).cell z0r (by simp)
             have z1a : ∀ o, (w4.alloc o).cell? ⟨z, 1, none⟩ = some (.slice (some ⟨gb, ob, none⟩) n cb) := fun o => (Chg.alloc (S := []) w4 o).cell z1r (by simp)
             obtain ⟨ii, hi0, hz0, hz1, hz2⟩ := info_parts infVe
             obtain ⟨E, hE⟩ : ∃ E : Array Value, E = #[.int .i64 x, .int .i64 t, .slice (some ⟨g6, o6, none⟩) 40 c6] := ⟨_, rfl⟩
             have hnew := heap_new w6 (.cells E 259)
             have hal : ∀ j u, E.toList[j]? = some u → (w6.alloc (.cells E 259)).cell? ((⟨w6.heap.size, 0, none⟩ : Addr).add j) = some u := fun j u hu => by
              rw [add_lit, Nat.zero_add]
              exact cell_is hnew j (by simpa using hu)
             have hO6 := own_kp hO4 hK6 (fun g hg hm => by cases hm)
             have hB6 := hB4.then hK6
             obtain ⟨v7, w7, hrun7, ho7, hg7, -, hb7⟩ := run_append_own_at (P := Tryz.prog) (w6.alloc (.cells E 259)) wB.heap.size 245 245 259 ii _ 3 40 tyVe hi0 hz0 hz1 hz2 rfl (by decide) (.slice pv m cv) m (veCells vs) (hO6.alloc _) ⟨w6.heap.size, 0, none⟩ 1 1 E.toList (by rw [hE]; rfl) hal (by rw [hE]; simp [Value.oneCell']) (by unfold maxLen; omega) (by omega) (by have := hB6.size; have := (Chg.alloc (S := []) w6 (.cells E 259)).size; omega)
             have kb7 : Chg (Value.slice pv m cv).ownBlock.toList (w6.alloc (.cells E 259)) w7 := Chg.own hg7 (fun g hg _ => by simp [hg])
             have kE : Chg [] w6 (w6.alloc (.cells E 259)) := Chg.alloc w6 _
             have z0E := kE.cell z06 (by simp)
             have z1E := kE.cell z16 (by simp)
             have d0E := kE.cell d06 (by simp)
             have d1E := kE.cell d16 (by simp)
             have nb : ∀ {g : Nat}, g < wB.heap.size → g ∉ (Value.slice pv m cv).ownBlock.toList := fun hg hm => by have := (own_elem hO6 (show (Value.slice pv m cv).ownBlock = some _ by simpa using hm)).1; omega
             have hzl := lt_cell (cell_is (w := wB) HB.out.2 0 rfl : wB.cell? ⟨z, 0, none⟩ = some (.int .i64 t))
             have hgl := lt_cell (HB.out.1.cell (HH.out.2.2.1 k hkP).1 (by simp))
             have z07 := kb7.cell z0E (nb hzl)
             have z17 := kb7.cell z1E (nb hzl)
             have d07 := kb7.cell d0E (nb hgl)
             have d17 := kb7.cell d1E (nb hgl)
             have av7 : Av (w6.alloc (.cells E 259)) (Value.slice pv m cv).ownBlock.toList [5] := fun x hx cs t fr hh => by
              obtain ⟨-, cs', hh'⟩ := own_elem (own_kp hO6 kE (fun g hg hm => by cases hm)) (show (Value.slice pv m cv).ownBlock = some x by simpa using hx)
              rw [hh] at hh'
              cases hh'
              decide
             have hv7 : VeV w7 (vs ++ [(x, t, .slice (some ⟨g6, o6, none⟩) 40 c6)]) (out ++ [(x, t, dx)]) := (((hV4.keep hK6).keep kE).keepA kb7 av7).snoc ((hD6.keep kE).keepA kb7 av7)
             have hB7 : Chg [] wB w7 := (hB6.then kE).trans kb7 (fun y hy hlt => by
              have := (own_elem (own_kp hO6 kE (fun g hg hm => by cases hm)) (show (Value.slice pv m cv).ownBlock = some y by simpa using hy)).1
              omega)
             have ho7' : w7.ownsRow wB.heap.size 259 3 v7 (m + 1) (veCells (vs ++ [(x, t, .slice (some ⟨g6, o6, none⟩) 40 c6)])) := by rw [veCells_app]; rw [hE] at ho7; exact ho7
             have H7 := Lib.hid (And.intro ho7' (And.intro hv7 hB7))
             clear hal hnew ho7 ho7' hb7 hg7 kb7 kE av7 hv7 hB7 hO6 hB6 hO4 hV4 hB4 hD4 hD6 hd6 ka hz5 k6 hK6
             subst hE
             go_upto_region 26 with fail
             go_cut [8] from 130 to 150 (fun ov wx => ov = v7 ∧ wx = w7)
             case first =>
              go_region_held3 (fun wx => wx.cell? ⟨z, 0, none⟩ = some (.int .i64 t) ∧ wx.cell? ⟨z, 1, none⟩ = some (.slice (some ⟨gb, ob, none⟩) n cb) ∧ wx.cell? ⟨gb, ob + k * 2, none⟩ = some (.int .i64 x) ∧ wx.cell? ⟨gb, ob + k * 2 + 1, none⟩ = some (.slice (some ⟨gd, od, none⟩) 40 cd))
               (first
                | (exact ⟨z0d, z1d, d0d, d1d⟩)
                | (exact ⟨z0a _, z1a _, d0a _, d1a _⟩)
                | (exact ⟨z06, z16, d06, d16⟩)
                | (exact ⟨z0E, z1E, d0E, d1E⟩)
                | (exact ⟨z07, z17, d07, d17⟩))
               (first
                | (refine step_append_run rfl (.tmp 139) (.tmp 145) 47 47 rfl _ _ rfl rfl _ w6 hrun ?_)
                | (refine step_append_run rfl (.tmp 130) (.tmp 148) 245 245 rfl _ _ rfl rfl _ w7 hrun7 ?_))
              all_goals
               go_wp2_with fail
               go_meet
               exact ⟨rfl, rfl⟩
             case rest =>
              obtain ⟨rfl, rfl⟩ := hcut
              go_wp2_with fail
              go_roundw
              case rel =>
               refine ⟨k + 1, _, _, by go_num, hkn, ?_, H7.out.2.1, ?_, H7.out.2.2⟩
               ·have e := H7.out.1
                have e9 := HR.out.2.2.2.2
                rw [List.length_append, ← e9]
                exact e
               ·rw [← HR.out.2.2.1, HP9.out.1, HL9.out.1, mergeR_lt t (v := (a9, t9, d9)) (p := (x, dx)) HXA.out]
                simp
              case measure => simp [intOf]; omega
            ·have hxd : decide (x < a9) = false := decide_eq_false hxa
             have HXA := Lib.hid (show ¬ (x, dx).1 < (a9, t9, d9).1 from hxa)
             have hiNl : (i : Int) < N := by omega
             go_wp2_with fail
             go_quiet (fail)
             have kq : Chg [] wr (wr.drewN nq) := (Chg.refl [] wr).drewN nq
             have HQ := Lib.hid kq
             have y1 := kq.cell y1 (by simp)
             have l0 := kq.cell l0 (by simp)
             have l1 := kq.cell l1 (by simp)
             have l2 := kq.cell l2 (by simp)
             have HO4 : Hid ((wr.drewN nq).ownsRow wB.heap.size 259 3 (.slice pv m cv) m (veCells vs)) := Lib.hid (own_kp HR.out.1 kq (fun g hg hm => by cases hm))
             have hB4 : Chg [] wB (wr.drewN nq) := HR.out.2.2.2.1.then kq
             have HB4 := Lib.hid hB4
             have hz4 : wB.heap.size ≤ (wr.drewN nq).heap.size := hB4.size
             clear kq hB4
             generalize wr.drewN nq = w4 at *
             go_wp2_with (at_builtin; refine wpList_append_lit rfl (.tmp 159) (.tmp 167) 245 259 rfl tyVe infVe rfl (by decide) wB.heap.size w4 [.int .i64 a9, .int .i64 t9, .slice (some ⟨g9, o9, none⟩) 40 c9] 1 rfl (.slice pv m cv) m (veCells vs) rfl HO4.out (by omega) (by decide) hz4 (k := 0) rfl (by simp [Value.oneCell']) rfl 1 rfl ?_; intro v3 w3 hap)
             have k3 : Chg [] wB w3 := app_new HB4.out HO4.out (Nat.le_refl _) hap
             have kb3 : Chg (Value.slice pv m cv).ownBlock.toList w4 w3 := Chg.own hap.2.2 (fun g hg _ => by simp [hg])
             have av3 : Av w4 (Value.slice pv m cv).ownBlock.toList [5] := fun x hx cs t fr hh => by
              obtain ⟨-, cs', hh'⟩ := own_elem HO4.out (show (Value.slice pv m cv).ownBlock = some x by simpa using hx)
              rw [hh] at hh'
              cases hh'
              decide
             have o3 : w3.ownsRow wB.heap.size 259 3 v3 (m + 1) (veCells (vs ++ [(a9, t9, .slice (some ⟨g9, o9, none⟩) 40 c9)])) := by rw [veCells_app]; exact hap.1
             have hv3 : VeV w3 (vs ++ [(a9, t9, .slice (some ⟨g9, o9, none⟩) 40 c9)]) (out ++ [(a9, t9, d9)]) := ((HR.out.2.1.keep HQ.out).keepA kb3 av3).snoc ((HL9.out.2.keep HQ.out).keepA kb3 av3)
             have H3 := Lib.hid (And.intro o3 (And.intro hv3 k3))
             clear hap k3 kb3 av3 o3 hv3
             go_wp2_with fail
             go_roundw
             case rel =>
              refine ⟨i + 1, _, _, _, by go_num, rfl, by omega, hk, ?_, H3.out.2.1, fun _ => ?_, (fun h => by omega), H3.out.2.2⟩
              ·have e := H3.out.1
               have e9 := HR.out.2.2.2.2
               rw [List.length_append, ← e9]
               exact e
              ·rw [← HR.out.2.2.1, HL9.out.1, HP9.out.1, mergeR_ge t (v := (a9, t9, d9)) (p := (x, dx)) (by have := HXA.out; show ¬ x < a9; omega)]
               simp
             case measure => simp [intOf]; omega
          ·obtain rfl : k = n := by omega
           by_cases hiE : i = N
           ·subst hiE
            go_wp2_with fail
            go_quiet (fail)
            have kq : Chg [] wr (wr.drewN nq) := (Chg.refl [] wr).drewN nq
            have HQ := Lib.hid kq
            have y1 := kq.cell y1 (by simp)
            clear kq
            go_wp2_with fail
            go_roundw
            case rel =>
             refine ⟨i + 1, _, out, vs, by go_num, rfl, by omega, hk, ?_, HR.out.2.1.keep HQ.out, (fun h => by omega), fun _ => ?_, HR.out.2.2.2.1.then HQ.out⟩
             ·have e9 := HR.out.2.2.2.2
              rw [← e9]
              exact own_kp HR.out.1 HQ.out (fun g hg hm => by cases hm)
             ·have e := HR.out.2.2.1
              rw [List.drop_eq_nil_of_le (by have := HH.out.2.2.2.1; omega), List.drop_eq_nil_of_le (by have := HH.out.2.2.2.2.1; omega)] at e
              simpa [mergeR] using e
            case measure => simp [intOf]
           ·have hiL : i < L.length := by have := HH.out.2.2.2.1; omega
            have hiNl : (i : Int) < N := by omega
            obtain ⟨gl, ol, ul, rfl, -, l0, l1, l2, hDl⟩ := HH.out.2.1 i hiL
            obtain ⟨g9, o9, c9, rfl, hDl⟩ := hDl
            have hDl : DatX w (.slice (some ⟨g9, o9, none⟩) 40 c9) L[i].2.2 := ⟨g9, o9, c9, rfl, hDl⟩
            have hdl : L.drop i = L[i] :: L.drop (i + 1) := List.drop_eq_getElem_cons hiL
            obtain ⟨a9, t9, d9, hv9⟩ : ∃ a9 t9 d9, L[i] = (a9, t9, d9) := ⟨_, _, _, rfl⟩
            rw [hv9] at l0 l1 hDl hdl
            simp only at l0 l1 hDl
            have l0 := HKw.out.cell l0 (by simp)
            have l1 := HKw.out.cell l1 (by simp)
            have l2 := HKw.out.cell l2 (by simp)
            have HL9 := Lib.hid (And.intro hdl (hDl.keep HKw.out))
            clear hDl hdl hv9
            go_wp2_with fail
            go_quiet (fail)
            have kq : Chg [] wr (wr.drewN nq) := (Chg.refl [] wr).drewN nq
            have HQ := Lib.hid kq
            have y1 := kq.cell y1 (by simp)
            have l0 := kq.cell l0 (by simp)
            have l1 := kq.cell l1 (by simp)
            have l2 := kq.cell l2 (by simp)
            have HO4 : Hid ((wr.drewN nq).ownsRow wB.heap.size 259 3 (.slice pv m cv) m (veCells vs)) := Lib.hid (own_kp HR.out.1 kq (fun g hg hm => by cases hm))
            have hB4 : Chg [] wB (wr.drewN nq) := HR.out.2.2.2.1.then kq
            have HB4 := Lib.hid hB4
            have hz4 : wB.heap.size ≤ (wr.drewN nq).heap.size := hB4.size
            clear kq hB4
            generalize wr.drewN nq = w4 at *
            go_wp2_with (at_builtin; refine wpList_append_lit rfl (.tmp 159) (.tmp 167) 245 259 rfl tyVe infVe rfl (by decide) wB.heap.size w4 [.int .i64 a9, .int .i64 t9, .slice (some ⟨g9, o9, none⟩) 40 c9] 1 rfl (.slice pv m cv) m (veCells vs) rfl HO4.out (by omega) (by decide) hz4 (k := 0) rfl (by simp [Value.oneCell']) rfl 1 rfl ?_; intro v3 w3 hap)
            have k3 : Chg [] wB w3 := app_new HB4.out HO4.out (Nat.le_refl _) hap
            have kb3 : Chg (Value.slice pv m cv).ownBlock.toList w4 w3 := Chg.own hap.2.2 (fun g hg _ => by simp [hg])
            have av3 : Av w4 (Value.slice pv m cv).ownBlock.toList [5] := fun x hx cs t fr hh => by
             obtain ⟨-, cs', hh'⟩ := own_elem HO4.out (show (Value.slice pv m cv).ownBlock = some x by simpa using hx)
             rw [hh] at hh'
             cases hh'
             decide
            have o3 : w3.ownsRow wB.heap.size 259 3 v3 (m + 1) (veCells (vs ++ [(a9, t9, .slice (some ⟨g9, o9, none⟩) 40 c9)])) := by rw [veCells_app]; exact hap.1
            have hv3 : VeV w3 (vs ++ [(a9, t9, .slice (some ⟨g9, o9, none⟩) 40 c9)]) (out ++ [(a9, t9, d9)]) := ((HR.out.2.1.keep HQ.out).keepA kb3 av3).snoc ((HL9.out.2.keep HQ.out).keepA kb3 av3)
            have H3 := Lib.hid (And.intro o3 (And.intro hv3 k3))
            clear hap k3 kb3 av3 o3 hv3
            go_wp2_with fail
            go_roundw
            case rel =>
             refine ⟨i + 1, _, _, _, by go_num, rfl, by omega, hk, ?_, H3.out.2.1, fun _ => ?_, (fun h => by omega), H3.out.2.2⟩
             ·have e := H3.out.1
              have e9 := HR.out.2.2.2.2
              rw [List.length_append, ← e9]
              exact e
             ·rw [← HR.out.2.2.1, HL9.out.1, List.drop_eq_nil_of_le (show P.length ≤ k by have := HH.out.2.2.2.2.1; omega), mergeR_end]
              simp
            case measure => simp [intOf]; omega
        ·have hie : i = N + 1 := by omega
         have hUY := (HB.out.1.then kr).heap HH.out.1 (by simp)
         have fy1 := unfrozen hUY 1
         have hY1 := fun v => heap_set hUY 1 v rfl
         obtain ⟨m, hmv⟩ : ∃ m, m = vs.length := ⟨_, rfl⟩
         rw [← hmv] at ho
         obtain ⟨pv, cv, rfl, -⟩ := own_form ho
         have z0r : wr.cell? ⟨z, 0, none⟩ = some (.int .i64 t) := cell_is (kr.heap HB.out.2 (by simp)) 0 rfl
         have hzY : z ≠ Y := heap_ne (kr.heap HB.out.2 (by simp)) hUY (by simp)
         have z0s : (wr.setCell ⟨Y, 1, none⟩ (.slice pv m cv)).cell? ⟨z, 0, none⟩ = some (.int .i64 t) := (Chg.set wr Y 1 _).cell z0r (by simpa using hzY)
         have y2s : (wr.setCell ⟨Y, 1, none⟩ (.slice pv m cv)).cell? ⟨Y, 2, none⟩ = some (.int .i64 last) := cell_is (hY1 (.slice pv m cv)) 2 rfl
         have fy2 := unfrozen (hY1 (.slice pv m cv)) 2
         have hF : Chg [Y] w ((wr.setCell ⟨Y, 1, none⟩ (.slice pv m cv)).setCell ⟨Y, 2, none⟩ (.int .i64 t)) ∧ RyAt ((wr.setCell ⟨Y, 1, none⟩ (.slice pv m cv)).setCell ⟨Y, 2, none⟩ (.int .i64 t)) Y (mergeR t L P) t := by
          have k1 := Chg.set wr Y 1 (.slice pv m cv)
          have k2 := Chg.set (wr.setCell ⟨Y, 1, none⟩ (.slice pv m cv)) Y 2 (.int .i64 t)
          have nY : ∀ g, (Value.slice pv m cv).ownBlock = some g → g ∉ [Y] := fun g hg hm => by
           obtain ⟨-, cs, hh⟩ := own_elem ho hg
           rw [List.mem_singleton] at hm
           rw [hm, hUY] at hh
           cases hh
          have hv2 := (hv.keepA k1 (Av.row hUY (by decide))).keepA k2 (Av.row (hY1 (.slice pv m cv)) (by decide))
          rw [he hie] at hv2
          refine ⟨(((HB.out.1.then kr).mono (fun x hx _ => by cases hx)).then k1).then k2, _, heap_set (hY1 (.slice pv m cv)) 2 _ rfl, VeX.own (own_kp (own_kp ho k1 nY) k2 nY) hv2 ?_⟩
          rw [hmv, hv2.1]
         have HF := Lib.hid hF
         clear ho hv hm he kr hF hUY hY1 hmv
         subst hie
         go_wp2_with fail
         go_ret
         exact ⟨rfl, HF.out⟩
set_option maxRecDepth 100000 in
set_option maxHeartbeats 8000000 in
theorem rdone_one (w : World) {lo G Y D V U n m cb : Nat} {a b Tv qv qhv : Value} {pb : Option Addr} {xs : List Value} {L : List (Int × Int × List UInt8)} {P : List (Int × List UInt8)} {y st tm cd num giv dn t last : Int} (h : RmS w G Y a b Tv qv qhv (n + 1 : Nat) num giv dn 1) (ha : Int1 w a (n + 1 : Nat)) (hb : Int1 w b y) (hT : w.ownsRow lo 163 1 Tv (n + 1) (xs ++ [.pointer (some ⟨D, 0, none⟩)])) (hD : RtAt w D V U st tm cd) (hn : n ≤ 100000)
  (hq : Tx1 w qv t (.slice pb m cb)) (hP : PuX w (.slice pb m cb) P) (hqh : Int1 w qhv (n + 1 : Nat)) (hY : RyAt w Y L last) (hN : L.length ≤ 100000) (h0 : 0 < P.length) (h16 : P.length ≤ 16) (ht0 : last < t) (ht1 : t ≤ 1099511627776) (hr : RiseL P) (hk : ∀ p ∈ P, 0 ≤ p.1 ∧ p.1 < 258) (hn0 : 0 ≤ num) (hn1 : num ≤ 1000000) :
  Calls Tryz.prog 105 #[.pointer (some ⟨G, 0, none⟩), .int .i64 0] w fun e w' => e = .returned (.int .i64 0) ∧ ∃ qv' qhv', RmS w' G Y (.slice none 0 0) (.slice none 0 0) Tv qv' qhv' (n + 1 : Nat) (num + 1) giv t 0 ∧ Nl qv' ∧ Nl qhv' ∧ RyAt w' Y (mergeR t L P) t ∧ Chg [G, Y, D] w w' := by
 have hwn : IntKind.i64.wrap (num + 1) = num + 1 := by rw [IntKind.wrap_i64]; omega
 obtain ⟨g, c, rfl, hc, cs, hg, e0, e1⟩ := hq
 obtain ⟨gh, ch, rfl, hch, csh, hgh, eh0, eh1⟩ := hqh
 have q0 : w.cell? ⟨g, 0, none⟩ = some (.int .i64 t) := cell_is hg 0 e0
 have q1 : w.cell? ⟨g, 1, none⟩ = some (.slice pb m cb) := cell_is hg 1 e1
 have r0 : w.cell? ⟨gh, 0, none⟩ = some (.int .i64 (n + 1 : Nat)) := cell_is hgh 0 eh0
 have c8 : w.cell? ⟨G, 8, none⟩ = some (.int .i64 1) := cell_is h 8 rfl
 have c6 : w.cell? ⟨G, 6, none⟩ = some (.slice (some ⟨g, 0, none⟩) 1 c) := cell_is h 6 rfl
 have hYh : ∃ v, w.heap[Y]? = some (.cells #[.int .i64 258, v, .int .i64 last] 247 (0, 0)) := by obtain ⟨v, hh, -⟩ := hY; exact ⟨v, hh⟩
 have HH := Lib.hid (And.intro h (And.intro ha (And.intro hb (And.intro hT (And.intro hD (And.intro hP (And.intro hY (And.intro hYh (And.intro hg hgh)))))))))
 have HC := Lib.hid (And.intro hr hk)
 clear h ha hb hT hD hP hY hYh hg hgh hr hk e0 e1 eh0 eh1
 go_enter Tryz.func105, Tryz.ntmps105
 go_wp2_with fail
 go_loopw [5, 6] (fun iv _ wr => (iv = .int .i64 0 ∧ wr = w) ∨ (iv = .int .i64 1 ∧ RmS wr G Y (.slice none 0 0) (.slice none 0 0) Tv (.slice (some ⟨g, 0, none⟩) 1 c) (.slice (some ⟨gh, 0, none⟩) 1 ch) (n + 1 : Nat) num giv t 1 ∧ RyAt wr Y (mergeR t L P) t ∧ Chg [G, Y, D] w wr)) (fun iv _ _ => 1 - (intOf iv).toNat)
 case atStart => exact Or.inl ⟨rfl, rfl⟩
 case round =>
  rcases hrel with ⟨rfl, rfl⟩ | ⟨rfl, hm, hy, kr⟩
  ·have kz : Chg [] wr (wr.alloc (.cells #[.int .i64 t, .slice pb m cb] 185)) := Chg.alloc wr _
   have z0 := heap_new wr (.cells #[.int .i64 t, .slice pb m cb] 185)
   go_wp2_with fail
   generalize hz : wr.heap.size = z at *
   generalize hw1 : wr.alloc (.cells #[.int .i64 t, .slice pb m cb] 185) = w1 at *
   have hG1 := kz.heap HH.out.1 (by simp)
   have g0 : w1.cell? ⟨G, 0, none⟩ = some (.pointer (some ⟨Y, 0, none⟩)) := cell_is hG1 0 rfl
   have b0 : w1.cell? ⟨z, 0, none⟩ = some (.int .i64 t) := cell_is z0 0 rfl
   have b1 : w1.cell? ⟨z, 1, none⟩ = some (.slice pb m cb) := cell_is z0 1 rfl
   have kd : Chg [] wr w1.drew := kz.drew
   have HA := Lib.hid (rmap_apply w1.drew (HH.out.2.2.2.2.2.2.1.keep kd) (HH.out.2.2.2.2.2.1.keep kd) hN h0 h16 ht0 ht1 HC.out.1 HC.out.2)
   have nYG : Y ≠ G := by obtain ⟨v, hh⟩ := HH.out.2.2.2.2.2.2.2.1; exact heap_ne hh HH.out.1 (by simp)
   have nYz : Y ≠ z := by obtain ⟨v, hh⟩ := HH.out.2.2.2.2.2.2.2.1; exact heap_ne (kz.heap hh (by simp)) z0 (by simp)
   have HZ := Lib.hid (And.intro kd (And.intro z0 hz))
   have HG1 := Lib.hid hG1
   clear kz z0 hw1 hG1
   go_region_held3 (fun wx => wx.cell? ⟨G, 0, none⟩ = some (.pointer (some ⟨Y, 0, none⟩)) ∧ wx.cell? ⟨z, 0, none⟩ = some (.int .i64 t) ∧ wx.cell? ⟨z, 1, none⟩ = some (.slice pb m cb))
    (first | (exact ⟨g0, b0, b1⟩) | (exact ⟨k2.cell g0 (by simpa using nYG.symm), k2.cell b0 (by simpa using nYz.symm), k2.cell b1 (by simpa using nYz.symm)⟩))
    (first | (go_at_call 175; refine HA.out.mono ?_; rintro e w2 ⟨rfl, k2, hy2⟩))
   have hG2 := k2.heap (show w1.drew.heap[G]? = _ from HG1.out) (by simpa using nYG.symm)
   have hz2 := k2.heap (show w1.drew.heap[z]? = _ from HZ.out.2.1) (by simpa using nYz.symm)
   have b0 : w2.cell? ⟨z, 0, none⟩ = some (.int .i64 t) := cell_is hz2 0 rfl
   have g11 : w2.cell? ⟨G, 11, none⟩ = some (.int .i64 dn) := cell_is hG2 11 rfl
   have f11 := unfrozen hG2 11
   have hG3 := heap_set hG2 11 (.int .i64 t) rfl
   have kS := Chg.set w2 G 11 (.int .i64 t)
   have nzG : z ≠ G := heap_ne hz2 hG2 (by simp)
   have k3 : Chg [G, Y, D] wr (w2.setCell ⟨G, 11, none⟩ (.int .i64 t)) := (((HZ.out.1.mono (fun x hx _ => by cases hx)).then (k2.mono (fun x hx _ => by rw [List.mem_singleton] at hx; simp [hx]))).then (kS.mono (fun x hx _ => by rw [List.mem_singleton] at hx; simp [hx])))
   have kGY : Chg [G, Y] wr (w2.setCell ⟨G, 11, none⟩ (.int .i64 t)) := (((HZ.out.1.mono (fun x hx _ => by cases hx)).then (k2.mono (fun x hx _ => by rw [List.mem_singleton] at hx; simp [hx]))).then (kS.mono (fun x hx _ => by rw [List.mem_singleton] at hx; simp [hx])))
   have avGY : Av wr [G, Y] [3, 163, 167, 185] := fun x hx cs t fr hh => by
    simp only [List.mem_cons, List.not_mem_nil, or_false] at hx
    rcases hx with rfl | rfl
    ·rw [HH.out.1] at hh; cases hh; decide
    ·obtain ⟨v, h9⟩ := HH.out.2.2.2.2.2.2.2.1; rw [h9] at hh; cases hh; decide
   have hi3 : ∀ {v : Value} {x : Int}, Int1 wr v x → Int1 (w2.setCell ⟨G, 11, none⟩ (.int .i64 t)) v x := fun hv => hv.keepT kGY (fun x hx cs fr hh => absurd (List.mem_cons_self) (avGY x hx _ _ _ hh))
   have hT3 := own_kp HH.out.2.2.2.1 kGY (fun x hx hm => by
    obtain ⟨-, cs, hh⟩ := own_elem HH.out.2.2.2.1 hx
    exact avGY x hm _ _ _ hh (by simp))
   have hD3 := kGY.heap HH.out.2.2.2.2.1 (avGY.ne HH.out.2.2.2.2.1 (by simp))
   have hqh3 := kGY.heap HH.out.2.2.2.2.2.2.2.2.2 (avGY.ne HH.out.2.2.2.2.2.2.2.2.2 (by simp))
   have hy3 : RyAt (w2.setCell ⟨G, 11, none⟩ (.int .i64 t)) Y (mergeR t L P) t := hy2.keepA kS (Av.row hG2 (by decide))
   have HE := Lib.hid (rend_last ((w2.setCell ⟨G, 11, none⟩ (.int .i64 t)).drew) (st' := 3) (tm' := t) (cd' := 0) (show RmS (w2.setCell ⟨G, 11, none⟩ (.int .i64 t)).drew G Y a b Tv _ _ (n + 1 : Nat) num giv t 1 from hG3) ((hi3 HH.out.2.1).keepT (Chg.refl [] _).drew (fun g hg => by cases hg)) ((hi3 HH.out.2.2.1).keepT (Chg.refl [] _).drew (fun g hg => by cases hg)) (show (w2.setCell ⟨G, 11, none⟩ (.int .i64 t)).drew.ownsRow lo 163 1 Tv (n + 1) _ from hT3) (show RtAt (w2.setCell ⟨G, 11, none⟩ (.int .i64 t)).drew D V U st tm cd from hD3) hn)
   have r3 : (w2.setCell ⟨G, 11, none⟩ (.int .i64 t)).cell? ⟨gh, 0, none⟩ = some (.int .i64 (n + 1 : Nat)) := by
    have e := cell_is hqh3 0 (show _ from by
     have := r0
     unfold World.cell? at this
     rw [HH.out.2.2.2.2.2.2.2.2.2] at this
     simpa using this)
    exact e
   have b3 : (w2.setCell ⟨G, 11, none⟩ (.int .i64 t)).cell? ⟨z, 0, none⟩ = some (.int .i64 t) := cell_is (kS.heap hz2 (by simpa using nzG)) 0 rfl
   have g7 : (w2.setCell ⟨G, 11, none⟩ (.int .i64 t)).cell? ⟨G, 7, none⟩ = some (.slice (some ⟨gh, 0, none⟩) 1 ch) := cell_is hG3 7 rfl
   have HN2 := Lib.hid hD3
   have hnh : gh ∉ [G, D] := fun hm => by
    simp only [List.mem_cons, List.not_mem_nil, or_false] at hm
    rcases hm with rfl | rfl
    ·rw [hG3] at hqh3; cases hqh3
    ·rw [hD3] at hqh3; cases hqh3
   have hz3 := kS.heap hz2 (by simpa using nzG)
   have hnz : z ∉ [G, D] := fun hm => by
    simp only [List.mem_cons, List.not_mem_nil, or_false] at hm
    rcases hm with rfl | rfl
    ·exact nzG rfl
    ·rw [hD3] at hz3; cases hz3
   have HN := Lib.hid (And.intro hnh hnz)
   clear hz3
   have HF3 := Lib.hid (And.intro hG3 (And.intro hy3 (And.intro k3 (And.intro hqh3 nYG))))
   go_wp2_with fail
   generalize hw3 : w2.setCell ⟨G, 11, none⟩ (.int .i64 t) = w3 at *
   clear g0 b1 hG2 hz2 hG3 kS k3 kGY avGY hi3 hT3 hD3 hqh3 hy3 hy2 HG1 HA q0 q1
   clear hw3
   obtain ⟨hd, hde⟩ : ∃ hd : Int, hd = (n + 1 : Nat) := ⟨_, rfl⟩
   rw [← hde] at r3 HE
   have HDE := Lib.hid hde
   clear hde
   go_region_held3 (fun wx => wx.cell? ⟨G, 7, none⟩ = some (.slice (some ⟨gh, 0, none⟩) 1 ch) ∧ wx.cell? ⟨gh, 0, none⟩ = some (.int .i64 hd) ∧ wx.cell? ⟨z, 0, none⟩ = some (.int .i64 t))
    (first | (exact ⟨g7, r3, b3⟩) | (exact ⟨cell_is h4 7 rfl, k4.cell (show w3.drew.cell? _ = _ from r3) HN.out.1, k4.cell (show w3.drew.cell? _ = _ from b3) HN.out.2⟩))
    (first | (go_at_call 101; refine HE.out.mono ?_; rintro e w4 ⟨rfl, h4, k4⟩))
   have avGD : Av w3.drew [G, D] [247, 5, 259] := fun x hx cs t fr hh => by
    simp only [List.mem_cons, List.not_mem_nil, or_false] at hx
    rcases hx with rfl | rfl
    ·rw [show w3.drew.heap[x]? = _ from HF3.out.1] at hh; cases hh; decide
    ·rw [show w3.drew.heap[x]? = _ from HN2.out] at hh; cases hh; decide
   have HF4 := Lib.hid (show RyAt w4 Y (mergeR t L P) t ∧ Chg [G, Y, D] wr w4 from ⟨(HF3.out.2.1.keep (Chg.refl [] w3).drew).keepA k4 avGD, HF3.out.2.2.1.then (((Chg.refl [G, Y, D] w3).drew).then (k4.mono (fun x hx _ => by simp only [List.mem_cons, List.not_mem_nil, or_false] at hx ⊢; rcases hx with rfl | rfl <;> simp)))⟩)
   rw [HDE.out] at h4
   have H4 := Lib.hid h4
   clear h4 k4 avGD
   go_wp2_with fail
   go_roundw
   case rel => exact Or.inr ⟨rfl, H4.out, HF4.out⟩
   case measure => simp [intOf]
  ·have hm0 := hm
   have c9 : wr.cell? ⟨G, 9, none⟩ = some (.int .i64 num) := cell_is hm 9 rfl
   have c8 : wr.cell? ⟨G, 8, none⟩ = some (.int .i64 1) := cell_is hm 8 rfl
   have f9 := unfrozen hm 9
   have h1 := heap_set hm 9 (.int .i64 (num + 1)) rfl
   have k1 := Chg.set wr G 9 (.int .i64 (num + 1))
   have h1' : RmS (wr.setCell ⟨G, 9, none⟩ (.int .i64 (num + 1))) G Y (.slice none 0 0) (.slice none 0 0) Tv (.slice (some ⟨g, 0, none⟩) 1 c) (.slice (some ⟨gh, 0, none⟩) 1 ch) (n + 1 : Nat) (num + 1) giv t 1 := h1
   have HF := Lib.hid (And.intro (hy.keepA k1 (Av.row hm0 (by decide))) (kr.then (k1.mono (fun x hx _ => by rw [List.mem_singleton] at hx; simp [hx]))))
   clear hm0 hy kr k1 h1
   go_wp2_with fail
   generalize wr.setCell ⟨G, 9, none⟩ (.int .i64 (num + 1)) = w5 at *
   have HM5 := Lib.hid h1'
   have c6 : w5.cell? ⟨G, 6, none⟩ = some (.slice (some ⟨g, 0, none⟩) 1 c) := cell_is h1' 6 rfl
   have c8 : w5.cell? ⟨G, 8, none⟩ = some (.int .i64 1) := cell_is h1' 8 rfl
   have c6d : w5.drew.cell? ⟨G, 6, none⟩ = some (.slice (some ⟨g, 0, none⟩) 1 c) := c6
   have c8d : w5.drew.cell? ⟨G, 8, none⟩ = some (.int .i64 1) := c8
   have f6 := unfrozen h1' 6
   have f6d := unfrozen (show w5.drew.heap[G]? = _ from h1') 6
   have hci : (1 : Int) ≤ c := by omega
   have hchi : (1 : Int) ≤ ch := by omega
   clear h1'
   go_upto_region 14 with fail
   go_cut [] from 70 (fun wx => ∃ qv', Nl qv' ∧ RmS wx G Y (.slice none 0 0) (.slice none 0 0) Tv qv' (.slice (some ⟨gh, 0, none⟩) 1 ch) (n + 1 : Nat) (num + 1) giv t 1 ∧ Chg [G] w5 wx)
   case first =>
    go_region_law (fail)
    all_goals go_wp2_with fail
    all_goals go_meet
    all_goals exact ⟨_, ⟨_, _, rfl⟩, heap_set (show w5.drew.heap[G]? = _ from HM5.out) 6 _ rfl, ((Chg.refl [G] w5).drew).then (Chg.set _ G 6 _)⟩
   case rest =>
    obtain ⟨qv', hqv, hm6, k6⟩ := hcut
    have HF6 := Lib.hid (And.intro (HF.out.1.keepA k6 (Av.row HM5.out (by decide))) (HF.out.2.then (k6.mono (fun x hx _ => by rw [List.mem_singleton] at hx; simp [hx]))))
    have HM6 := Lib.hid (And.intro hm6 hqv)
    have c7 : wc.cell? ⟨G, 7, none⟩ = some (.slice (some ⟨gh, 0, none⟩) 1 ch) := cell_is hm6 7 rfl
    have c8 : wc.cell? ⟨G, 8, none⟩ = some (.int .i64 1) := cell_is hm6 8 rfl
    have c7d : wc.drew.cell? ⟨G, 7, none⟩ = some (.slice (some ⟨gh, 0, none⟩) 1 ch) := c7
    have c8d : wc.drew.cell? ⟨G, 8, none⟩ = some (.int .i64 1) := c8
    have f7 := unfrozen hm6 7
    have f7d := unfrozen (show wc.drew.heap[G]? = _ from hm6) 7
    clear hm6 k6 hqv HM5 HF c6 c6d f6 f6d
    go_upto_region 15 with fail
    generalize wc = w6 at *
    go_cut [] from 82 (fun wx => ∃ qh', Nl qh' ∧ RmS wx G Y (.slice none 0 0) (.slice none 0 0) Tv qv' qh' (n + 1 : Nat) (num + 1) giv t 1 ∧ Chg [G] w6 wx)
    case first =>
     go_region_law (fail)
     all_goals go_wp2_with fail
     all_goals go_meet
     all_goals exact ⟨_, ⟨_, _, rfl⟩, heap_set (show w6.drew.heap[G]? = _ from HM6.out.1) 7 _ rfl, ((Chg.refl [G] w6).drew).then (Chg.set _ G 7 _)⟩
    case rest =>
     obtain ⟨qh', hqh, hm7, k7⟩ := hcut
     have HF7 := Lib.hid (And.intro (HF6.out.1.keepA k7 (Av.row HM6.out.1 (by decide))) (HF6.out.2.then (k7.mono (fun x hx _ => by rw [List.mem_singleton] at hx; simp [hx]))))
     have c8 : wc.cell? ⟨G, 8, none⟩ = some (.int .i64 1) := cell_is hm7 8 rfl
     have f8 := unfrozen hm7 8
     have k8 := Chg.set wc G 8 (.int .i64 0)
     have HE := Lib.hid (show ∃ qv' qhv', RmS (wc.setCell ⟨G, 8, none⟩ (.int .i64 0)) G Y (.slice none 0 0) (.slice none 0 0) Tv qv' qhv' (n + 1 : Nat) (num + 1) giv t 0 ∧ Nl qv' ∧ Nl qhv' ∧ RyAt (wc.setCell ⟨G, 8, none⟩ (.int .i64 0)) Y (mergeR t L P) t ∧ Chg [G, Y, D] w (wc.setCell ⟨G, 8, none⟩ (.int .i64 0)) from
      ⟨qv', qh', heap_set hm7 8 _ rfl, HM6.out.2, hqh, HF7.out.1.keepA k8 (Av.row hm7 (by decide)), HF7.out.2.then (k8.mono (fun x hx _ => by rw [List.mem_singleton] at hx; simp [hx]))⟩)
     clear hm7 k7 hqh k8
     go_wp2_with fail
     go_ret
     exact ⟨rfl, HE.out⟩
set_option maxRecDepth 100000 in
set_option maxHeartbeats 8000000 in
theorem rflush_one (w : World) {lo G Y D V U n : Nat} {a b Tv qv qhv pv : Value} {xs : List Value} {L : List (Int × Int × List UInt8)} {P : List (Int × List UInt8)} {y st tm cd num giv dn t last : Int} (h : RmS w G Y a b Tv qv qhv (n + 1 : Nat) num giv dn 0) (ha : Int1 w a (n + 1 : Nat)) (hb : Int1 w b y) (hT : w.ownsRow lo 163 1 Tv (n + 1) (xs ++ [.pointer (some ⟨D, 0, none⟩)])) (hD : RtAt w D V U st tm cd) (hn : n ≤ 100000)
  (hq : Tx1 w qv t pv) (hP : PuX w pv P) (hqh : Int1 w qhv (n + 1 : Nat)) (hY : RyAt w Y L last) (hN : L.length ≤ 100000) (h0 : 0 < P.length) (h16 : P.length ≤ 16) (ht0 : last < t) (ht1 : t ≤ 1099511627776) (hr : RiseL P) (hk : ∀ p ∈ P, 0 ≤ p.1 ∧ p.1 < 258) (hn0 : 0 ≤ num) (hn1 : num ≤ 1000000) :
  Calls Tryz.prog 43 #[.pointer (some ⟨G, 0, none⟩)] w fun e w' => e = .returned (.int .i64 0) ∧ ∃ qv' qhv', RmS w' G Y (.slice none 0 0) (.slice none 0 0) Tv qv' qhv' (n + 1 : Nat) (num + 1) giv t 0 ∧ Nl qv' ∧ Nl qhv' ∧ RyAt w' Y (mergeR t L P) t ∧ Chg [G, Y, D] w w' := by
 obtain ⟨pb, cb, rfl, hcb, hxb⟩ := hP
 have HB := Lib.hid (rbatch_one w h hq (by omega) hn0 hn1)
 have HP : PuX w (.slice pb P.length cb) P := ⟨pb, cb, rfl, hcb, hxb⟩
 have av : ∀ ts : List Nat, 120 ∉ ts → Av w [G] ts := fun ts hts => Av.row h hts
 have a3 : ∀ g ∈ [G], ∀ cs fr, w.heap[g]? = some (.cells cs 3 fr) → cs.size = 0 := fun g hg cs fr hh => by
  rw [List.mem_singleton] at hg
  subst hg
  rw [h] at hh
  cases hh
 have HD := Lib.hid (fun (w2 : World) (k2 : Chg [G] w w2) (h2 : RmS w2 G Y a b Tv qv qhv (n + 1 : Nat) num giv dn 1) =>
  rdone_one w2 h2 (ha.keepT k2 a3) (hb.keepT k2 a3) (own_kp hT k2 (fun g hg hm => by
   obtain ⟨-, cs, hh⟩ := own_elem hT hg
   exact av [163] (by decide) g hm _ _ _ hh (by simp))) (k2.heap hD ((av [167] (by decide)).ne hD (by simp))) hn (hq.keepA k2 (av _ (by decide))) (HP.keepA k2 (av _ (by decide))) (hqh.keepT k2 a3) (hY.keepA k2 (av _ (by decide))) hN h0 h16 ht0 ht1 hr hk hn0 hn1)
 obtain ⟨g, c, rfl, -⟩ := hq
 clear h ha hb hT hD hxb HP av a3 hY hqh
 go_enter Tryz.func43, Tryz.ntmps43
 go_wp2_with fail
 refine HB.out.mono ?_
 rintro e w1 ⟨rfl, h1, k1⟩
 have ka : Chg [] w1 (w1.alloc (.cells #[.int .i64 (num + 1), .slice (some ⟨g, 0, none⟩) 1 c] 108)) := Chg.alloc w1 _
 have HK := Lib.hid (k1.then (ka.mono (fun x hx _ => by cases hx)))
 have HX := Lib.hid (HD.out _ HK.out (ka.heap h1 (by simp)))
 clear h1 k1 ka HB HD
 go_wp2_with fail
 refine HX.out.mono ?_
 rintro e w3 ⟨rfl, qv', qhv', q1, q2, q3, q4, q5⟩
 have HF := Lib.hid (And.intro q1 (And.intro q2 (And.intro q3 (And.intro q4 ((HK.out.mono (T := [G, Y, D]) (fun x hx _ => by rw [List.mem_singleton] at hx; simp [hx])).then q5)))))
 clear q1 q2 q3 q4 q5 HX
 go_wp2_with fail
 go_ret
 exact ⟨rfl, qv', qhv', HF.out⟩
theorem rputA_pos : ∀ (l : List (Int × Int)) (f e : Int) (d : Bool) (out : List (Int × Int)), (d = true → out ≠ []) → 0 < (rputA l f e d out).length
 | [], f, e, d, out, h => by
  unfold rputA
  cases d
  ·simp
  ·simpa [List.length_pos_iff] using h rfl
 | x :: l, f, e, d, out, h => by
  unfold rputA
  split
  ·exact rputA_pos l f e d _ (fun _ => by simp)
  ·split
   ·exact rputA_pos l f e true _ (fun _ => by simp)
   ·exact rputA_pos l _ _ d out h
theorem rput_pos (l : List (Int × Int)) (x : Int × Int) : 0 < (rput l x).length := rputA_pos l _ _ false [] (fun h => by cases h)
set_option maxRecDepth 100000 in
set_option maxHeartbeats 4000000 in
theorem rbuf_set (w : World) {U : Nat} {P : List (Int × List UInt8)} (h : RbAt w U P) (hP : P.length ≤ 16) (hk : ∀ p ∈ P, 0 ≤ p.1 ∧ p.1 < 258) :
  Calls Tryz.prog 103 #[.pointer (some ⟨U, 0, none⟩)] w fun e w' => ∃ B pa m c, e = .returned (.pointer (some ⟨B, 0, none⟩)) ∧ Chg [] w w' ∧ w'.heap[B]? = some (.cells #[.int .i64 1048576, .slice pa m c] 177 (0, 0)) ∧ (0 < P.length → 0 < m) ∧ m ≤ P.length := by
 obtain ⟨pv, hU, pa, c, rfl, hc, hx⟩ := h
 obtain ⟨n, hn⟩ : ∃ n, n = P.length := ⟨_, rfl⟩
 rw [← hn] at hU hP hc ⊢
 have HH := Lib.hid (And.intro hU (And.intro hx (And.intro hn hk)))
 clear hU hx hn hk hc
 go_enter Tryz.func103, Tryz.ntmps103
 go_wp2_with fail
 have k0 : Chg [] w (w.alloc (.cells #[.int .i64 1048576, .slice none 0 0] 177)) := Chg.alloc w _
 have hB0 := heap_new w (.cells #[.int .i64 1048576, .slice none 0 0] 177)
 generalize hw1 : w.alloc (.cells #[.int .i64 1048576, .slice none 0 0] 177) = w1 at *
 obtain ⟨B, hB⟩ : ∃ B, B = w.heap.size := ⟨_, rfl⟩
 rw [← hB] at hB0 ⊢
 have H0 := Lib.hid (And.intro k0 (And.intro hB0 hB))
 clear k0 hB0 hB hw1
 go_loopw [4] (fun iv wr => ∃ (i : Nat) (v : Value) (S : List (Int × Int)), iv = .int .i64 i ∧ i ≤ n ∧ wr.heap[B]? = some (.cells #[.int .i64 1048576, v] 177 (0, 0)) ∧ wr.ownsRow 0 79 2 v S.length (spCells S) ∧ InE S ∧ S.length ≤ i ∧ (0 < i → 0 < S.length) ∧ Chg [] w wr) (fun iv _ => n - (intOf iv).toNat)
 case atStart => exact ⟨0, _, [], rfl, Nat.zero_le _, H0.out.2.1, World.ownsRow_nil _ _ _ _, (fun p hp => by cases hp), Nat.zero_le _, (fun h => by omega), H0.out.1⟩
 case round =>
  obtain ⟨i, v, S, rfl, hi, hB, ho, hE, hl, hp, kr⟩ := hrel
  have u2 : wr.cell? ⟨U, 2, none⟩ = some (.slice pa n c) := cell_is (kr.heap HH.out.1 (by simp)) 2 rfl
  have HR := Lib.hid (And.intro hB (And.intro ho (And.intro hE (And.intro hl (And.intro hp kr)))))
  clear hB ho hE hl hp kr
  by_cases hlt : i < n
  ·have hlti : (i : Int) < n := by omega
   have hil : i < P.length := by have := HH.out.2.2.1; omega
   obtain ⟨g, o, u, rfl, -, d0, -, -⟩ := HH.out.2.1 i hil
   have d0 := HR.out.2.2.2.2.2.cell d0 (by simp)
   have hkk := HH.out.2.2.2 _ (List.getElem_mem hil)
   obtain ⟨b, hb⟩ : ∃ b, b = P[i].1 := ⟨_, rfl⟩
   rw [← hb] at d0 hkk
   clear hb
   have ka : Chg [] wr (wr.alloc (.cells #[.int .i64 b, .int .i64 1] 79)) := Chg.alloc wr _
   have a0 := heap_new wr (.cells #[.int .i64 b, .int .i64 1] 79)
   have hSp : Sp (wr.alloc (.cells #[.int .i64 b, .int .i64 1] 79)) wr.heap.size 0 [(b, 1)] := fun j u hu => by
    match j with
    | 0 => cases hu; exact cell_is a0 0 rfl
    | 1 => cases hu; exact cell_is a0 1 rfl
    | j + 2 => simp [spCells] at hu
   have hme : MayE b 1 := by unfold MayE; omega
   have HA := Lib.hid (radd_one (wr.alloc (.cells #[.int .i64 b, .int .i64 1] 79)) (B := B) (o := 0) (c := 1) (ka.heap HR.out.1 (by simp)) rfl rfl ((ExR.own HR.out.2.1 rfl).keep ka) (by have := HR.out.2.2.2.1; omega) HR.out.2.2.1 hme hSp (by have := HR.out.2.2.2.1; have := rput_len S (b, 1); omega))
   have HKA := Lib.hid (And.intro ka hkk)
   clear ka a0 hSp hme hkk
   go_wp2_with fail
   refine HA.out.mono ?_
   rintro e w3 ⟨rfl, v', hB3, k3, ho3⟩
   have HF := Lib.hid (And.intro hB3 (And.intro k3 ho3))
   clear hB3 k3 ho3 HA
   go_wp2_with fail
   go_roundw
   case rel =>
    have hl := rput_len S (b, 1)
    have hS := HR.out.2.2.2.1
    have hBs : w.heap.size ≤ B := by rw [H0.out.2.2]; exact Nat.le_refl _
    refine ⟨i + 1, v', rput S (b, 1), by go_num, hlt, HF.out.1, own_low HF.out.2.2 (Nat.zero_le _), rput_in HR.out.2.2.1 (fun p hp => ?_), by omega, fun _ => rput_pos _ _, (HR.out.2.2.2.2.2.then HKA.out.1).trans HF.out.2.1 (fun x hx hlt => by rw [List.mem_singleton] at hx; omega)⟩
    rw [List.mem_singleton] at hp
    rw [hp]
    exact ⟨HKA.out.2.1, by show (0 : Int) ≤ 1; omega, by have := HKA.out.2.2; show b + 1 ≤ _; omega⟩
   case measure => simp [intOf]; omega
  ·obtain rfl : i = n := by omega
   go_wp2_with fail
   go_ret
   obtain ⟨pS, cS, rfl, -⟩ := own_form HR.out.2.1
   exact ⟨B, pS, _, cS, rfl, HR.out.2.2.2.2.2, HR.out.1, HR.out.2.2.2.2.1, HR.out.2.2.2.1⟩
set_option maxRecDepth 100000 in
set_option maxHeartbeats 4000000 in
theorem rvalid_old (w : World) {Y V B m c cq : Nat} {pa pq : Option Addr} {L : List (Int × Int × List UInt8)} {last t : Int} (h : RyAt w Y L last) (hL : L.length ≤ 100000) (hB : w.heap[B]? = some (.cells #[.int .i64 1048576, .slice pa m c] 177 (0, 0))) (hm : 0 < m) (hm1 : m ≤ 1000) (ht : ∀ x ∈ L, x.2.1 ≤ t) :
  Calls Tryz.prog 102 #[.pointer (some ⟨Y, 0, none⟩), .slice pq 0 cq, .int .i64 t, .pointer (some ⟨V, 3, none⟩), .pointer (some ⟨B, 0, none⟩)] w fun e w' => e = .returned (.int .i64 0) ∧ w = w' := by
 have b1 : w.cell? ⟨B, 1, none⟩ = some (.slice pa m c) := cell_is hB 1 rfl
 obtain ⟨pv, hY, pl, cl, rfl, hcl, hx⟩ := h
 obtain ⟨n, hn⟩ : ∃ n, n = L.length := ⟨_, rfl⟩
 rw [← hn] at hY hL hcl
 have y1 : w.cell? ⟨Y, 1, none⟩ = some (.slice pl n cl) := cell_is hY 1 rfl
 have hm0 : ((m : Int) == 0) = false := beq_eq_false_iff_ne.2 (by omega)
 have HH := Lib.hid (And.intro hx (And.intro hn ht))
 clear hx hn ht hY hB
 go_enter Tryz.func102, Tryz.ntmps102
 go_wp2_with fail
 go_loopw [11] (fun iv wr => ∃ i : Nat, iv = .int .i64 i ∧ i ≤ n ∧ wr = w) (fun iv _ => n - (intOf iv).toNat)
 case atStart => exact ⟨0, rfl, Nat.zero_le _, (by first | trivial | rfl)⟩
 case round =>
  obtain ⟨i, rfl, hi, rfl⟩ := hrel
  by_cases hlt : i < n
  ·have hlti : (i : Int) < n := by omega
   have hil : i < L.length := by have := HH.out.2.1; omega
   obtain ⟨g, o, u, rfl, -, -, d1, -, -⟩ := HH.out.1 i hil
   have hq := HH.out.2.2 _ (List.getElem_mem hil)
   obtain ⟨k, hk⟩ : ∃ k, k = L[i].2.1 := ⟨_, rfl⟩
   rw [← hk] at d1 hq
   clear hk
   have hd : decide (t < k) = false := decide_eq_false (by omega)
   go_wp2_with fail
   go_roundw
   case rel => exact ⟨i + 1, by go_num, hlt, trivial⟩
   case measure => simp [intOf]; omega
  ·obtain rfl : i = n := by omega
   go_wp2_with fail
   go_loopw [12] (fun iv wx => iv = .int .i64 0 ∧ wx = wr) (fun _ _ => 0)
   case atStart => exact ⟨rfl, (by first | trivial | rfl)⟩
   case round =>
    obtain ⟨rfl, rfl⟩ := hrel
    go_wp2_with fail
    go_ret
    exact ⟨rfl, rfl⟩
section
variable {P : Program} {ops : Array Oper} {Q : Exit → Act → World → Prop} {S : World → Prop} {f : Nat → Bool}
def AnyK (P : Program) (ops : Array Oper) (Q : Exit → Act → World → Prop) (S : World → Prop) (f : Nat → Bool) : Nat → Array Bool → Act → World → Prop
 | 0, listed, a, w => Region.ready .any ops listed = [] ∧ Q .normal a w
 | n + 1, listed, a, w => (Region.ready .any ops listed = [] → Q .normal a w) ∧
  ∀ i, i ∈ Region.ready .any ops listed → wpOp P ops Q i (fun a' w' => (f i = true → S w') ∧ AnyK P ops Q S f n (listed.setIfInBounds i true) a' w') a w
theorem AnyK.any {n : Nat} {listed : Array Bool} {a : Act} {w : World} (h : AnyK P ops Q S f n listed a w) : wpAny P .any ops Q n listed a w := by
 induction n generalizing listed a w with
 | zero => exact h
 | succ n ih => exact ⟨h.1, fun i hi => wpOp_mono (fun a' w' hk => ih hk.2) (h.2 i hi)⟩
def waitsK (ops : Array Oper) (f : Nat → Bool) (i : Nat) : Bool :=
 (List.range ops.size).all fun j => f j || ((ops[j]?).map fun o => o.after.any fun e => Region.binds .any e && e.on == i).getD true
theorem waitsK.spec {i j : Nat} {oj : Oper} (h : waitsK ops f i = true) (hj : ops[j]? = some oj) (hno : ∀ e, e ∈ oj.after → Region.binds .any e = true → e.on ≠ i) : f j = true := by
 unfold waitsK at h
 rw [List.all_eq_true] at h
 have h1 := h j (List.mem_range.2 (Array.getElem?_eq_some_iff.1 hj).1)
 rw [hj] at h1
 simp only [Option.map_some, Option.getD_some, Bool.or_eq_true] at h1
 rcases h1 with h1 | h1
 ·exact h1
 ·obtain ⟨e, he, hb⟩ := Array.any_eq_true'.1 h1
  simp only [Bool.and_eq_true, beq_iff_eq] at hb
  exact absurd hb.2 (hno e he hb.1)
theorem AnyK.first {i : Nat} {oi : Oper} {v : Value} (hi : ops[i]? = some oi) (hs : Region.noSelect ops = true) (hQ : ∀ c a w, Q (.panic c) (a.put oi.dst v) w → Q (.panic c) a w) (hw : waitsK ops f i = true) (n : Nat) :
  ∀ (listed : Array Bool) (a : Act) (w : World), (∀ j oj, ops[j]? = some oj → j ≠ i → listed.getD j true = false → (∀ e, e ∈ oj.after → Region.binds .any e = true → e.on ≠ i) → oi.apart ops oj = true) →
   i ∈ Region.ready .any ops listed → YieldsIf P ops S oi v a → S w → AnyK P ops Q S f n (listed.setIfInBounds i true) (a.put oi.dst v) w → AnyK P ops Q S f (n + 1) listed a w := by
 induction n with
 | zero =>
  intro listed a w _ hr hy hS H
  refine ⟨fun h => absurd hr (by rw [h]; exact List.not_mem_nil), fun j hj => ?_⟩
  rcases Nat.decEq j i with hne | rfl
  ·have := ready_mono hj hne
   rw [H.1] at this
   exact absurd this List.not_mem_nil
  ·exact hy.wpOp hi hS ⟨fun _ => hS, H⟩
 | succ n ih =>
  intro listed a w hap hr hy hS H
  refine ⟨fun h => absurd hr (by rw [h]; exact List.not_mem_nil), fun j hj => ?_⟩
  rcases Nat.decEq j i with hne | rfl
  ·obtain ⟨hjl, oj, hoj, hja⟩ := mem_ready.1 hj
   have hno : ∀ e, e ∈ oj.after → Region.binds .any e = true → e.on ≠ i := fun e he hb hei => by
    have h1 := hja e he hb
    have h2 := (mem_ready.1 hr).1
    rw [hei] at h1
    cases hq : listed[i]? with
    | none => simp [Array.getD_eq_getD_getElem?, hq] at h1
    | some b => simp [Array.getD_eq_getD_getElem?, hq] at h1 h2; rw [h1] at h2; cases h2
   have hfj := waitsK.spec hw hoj hno
   refine wpOp_mono (fun a' w' hk => ⟨fun _ => hk.2.1 hfj, ih _ a' w' ?_ (ready_mono hr (Ne.symm hne)) hk.1 (hk.2.1 hfj) ?_⟩) (wpOp_putIf hoj (hap j oj hoj hne hjl hno) (fun cs b => Region.noSelect_spec hs i oi cs b hi) (fun cs b => Region.noSelect_spec hs j oj cs b hoj) hQ hy (H.2 j (ready_mono hj hne)))
   ·intro k ok hok hki hkl hkn
    refine hap k ok hok hki ?_ hkn
    rcases Nat.decEq j k with hjk | rfl
    ·rwa [getD_set_ne true hjk] at hkl
    ·exact hjl
   ·rw [Array.setIfInBounds_comm _ _ hne]
    exact hk.2.2
  ·exact hy.wpOp hi hS ⟨fun _ => hS, H⟩
theorem AnyK.take {i : Nat} {oi : Oper} {v : Value} {n : Nat} {listed : Array Bool} {a : Act} {w : World} (hi : ops[i]? = some oi) (hs : Region.noSelect ops = true) (hf : Region.free .any ops listed i = true) (hr : (Region.ready .any ops listed).contains i = true)
  (hw : waitsK ops f i = true) (hQ : ∀ c a w, Q (.panic c) (a.put oi.dst v) w → Q (.panic c) a w) (hy : YieldsIf P ops S oi v a) (hS : S w) (h : AnyK P ops Q S f n (listed.setIfInBounds i true) (a.put oi.dst v) w) : AnyK P ops Q S f (n + 1) listed a w :=
 AnyK.first hi hs hQ hw n listed a w (fun j oj hj hne hl hno => Region.free_spec hi hf j oj hj hne hl hno) (by simpa using hr) hy hS h
def AllK (P : Program) (ops : Array Oper) (Q : Exit → Act → World → Prop) (S : World → Prop) (f : Nat → Bool) (n : Nat) (listed : Array Bool) (a : Act) (w : World) (rs : List Nat) : Prop :=
 ∀ i, i ∈ rs → wpOp P ops Q i (fun a' w' => (f i = true → S w') ∧ AnyK P ops Q S f n (listed.setIfInBounds i true) a' w') a w
theorem AllK.nil {n : Nat} {listed : Array Bool} {a : Act} {w : World} : AllK P ops Q S f n listed a w [] := fun _ h => absurd h List.not_mem_nil
theorem AllK.cons {n : Nat} {listed : Array Bool} {a : Act} {w : World} {i : Nat} {o : Oper} {rs : List Nat} (ho : ops[i]? = some o)
  (h : ∀ K' : Act → World → Prop, Shut (∀ a w, (f i = true → S w) → AnyK P ops Q S f n (listed.setIfInBounds i true) a w → K' a w) → if Region.wanted o (yielded ops a.tmps) = true then Oper.wp P o a w K' Q else K' (a.put o.dst undef) w)
  (hs : AllK P ops Q S f n listed a w rs) : AllK P ops Q S f n listed a w (i :: rs) := fun j hj => by
 rcases List.mem_cons.1 hj with rfl | hj
 ·exact wpOp_step ho (fun K' hK => h K' (fun a w h1 h2 => hK a w ⟨h1, h2⟩))
 ·exact hs j hj
theorem AnyK.ready {rs : List Nat} {n : Nat} {listed : Array Bool} {a : Act} {w : World} (hr : Region.ready .any ops listed = rs) (hne : rs ≠ []) (h : AllK P ops Q S f n listed a w rs) : AnyK P ops Q S f (n + 1) listed a w :=
 ⟨fun h0 => absurd (hr.symm.trans h0) hne, fun i hi => h i (hr ▸ hi)⟩
theorem AnyK.done {n : Nat} {listed : Array Bool} {a : Act} {w : World} (hr : Region.ready .any ops listed = []) (h : Q .normal a w) : AnyK P ops Q S f n listed a w := by
 cases n with
 | zero => exact ⟨hr, h⟩
 | succ n => exact ⟨fun _ => h, fun i hi => absurd hi (by rw [hr]; exact List.not_mem_nil)⟩
theorem region_anyK {id : Nat} {a : Act} {w : World} (S : World → Prop) (f : Nat → Bool) (hm : P.follows .mixedOrders = true) (h : AnyK P ops Q S f ops.size (Array.replicate ops.size false) a w.drew) : (Code.region id ops true).wp P Q a w :=
 wp_region_any hm h.any
end
theorem tyTx : Tryz.prog.underlying 106 = some (.slice 185) := by kernel_rfl
theorem infTx : (Tryz.prog.info? 185).map (fun i => (i.zero, i.size, i.bytes)) = some (some (.agg #[.int .i64 0, .slice none 0 0]), 2, 32) := by kernel_rfl
theorem append_nl6 (w : World) (z : Nat) (ty : TypeId) (p : Option Addr) (c : Nat) : (Builtin.append_ #[106, 106] ty #[.slice (some ⟨z, 0, none⟩) 0 0, .slice p 0 c]).run Tryz.prog w = .ok (.slice (some ⟨z, 0, none⟩) 0 0) w := by
 obtain ⟨i, hi0, hz, hz1, hz2⟩ := info_parts infTx
 cases p <;> simp [Builtin.append_, run_underlying tyTx, sizeOf, typeInfo, hi0, Builtin.lenOf, Builtin.firstCells, storeCells, loadCells, loadCellsFrom]
theorem append_nl3 (w : World) (z : Nat) (ty : TypeId) (p : Option Addr) (c : Nat) : (Builtin.append_ #[115, 115] ty #[.slice (some ⟨z, 0, none⟩) 0 0, .slice p 0 c]).run Tryz.prog w = .ok (.slice (some ⟨z, 0, none⟩) 0 0) w := by
 obtain ⟨i, hi0, hz, hz1, hz2⟩ := info_parts inf3
 cases p <;> simp [Builtin.append_, run_underlying ty62, sizeOf, typeInfo, hi0, Builtin.lenOf, Builtin.firstCells, storeCells, loadCells, loadCellsFrom]
theorem own0t (w : World) (z : Nat) (hz : w.heap[z]? = some (.cells #[] 185 (0, 0))) : w.ownsRow 0 185 2 (.slice (some ⟨z, 0, none⟩) 0 0) 0 [] :=
 ⟨rfl, Or.inr ⟨z, 0, #[], rfl, Nat.zero_le _, hz, Nat.le_refl _, by unfold maxLen; omega, rfl, rfl⟩⟩
theorem step_append_t2 {ops : Array Oper} {o : Oper} {a : Act} {w : World} {K : Act → World → Prop} {Q : Exit → Act → World → Prop} {E : Prop} (hgd : o.guard = none) (s x : Operand)
  (ho : o.op = .call { callee := .builtin .append, args := #[s, x], argTypes := #[106, 106] }) (z b c : Nat) (u0 u1 : Value) (hs : a.eval s = .slice (some ⟨z, 0, none⟩) 0 0) (hz : w.heap[z]? = some (.cells #[] 185 (0, 0)))
  (hx : a.eval x = .slice (some ⟨b, 0, none⟩) 1 c) (hb : w.heap[b]? = some (.cells #[u0, u1] 185 (0, 0))) (h1 : u0.oneCell' = true ∧ u1.oneCell' = true)
  (h : ∀ g cap w', Chg [z] w w' → w'.ownsRow 0 185 2 (.slice (some ⟨g, 0, none⟩) 1 cap) 1 [u0, u1] → K (a.put o.dst (.slice (some ⟨g, 0, none⟩) 1 cap)) w') :
  if Region.wanted o (yielded ops a.tmps) = true then Oper.wp Tryz.prog o a w K Q else E := by
 obtain ⟨i, hi0, hz0, hz1, hz2⟩ := info_parts infTx
 refine step_append_lies w hgd s x 106 ho 0 185 i _ 2 32 tyTx hi0 hz0 hz1 hz2 rfl (by decide) _ 0 [] hs (own0t w z hz) ⟨b, 0, none⟩ 1 c [u0, u1] hx rfl ?_ ?_ (by decide) (by unfold maxLen; omega) (by omega) (Nat.zero_le _) _ rfl ?_
 ·intro j u hu
  rw [add_lit, Nat.zero_add]
  match j with
  | 0 => cases hu; exact cell_is hb 0 rfl
  | 1 => cases hu; exact cell_is hb 1 rfl
  | j + 2 => simp at hu
 ·intro u hu
  simp at hu
  rcases hu with rfl | rfl
  ·exact h1.1
  ·exact h1.2
 ·intro g cap w' h2 h3 _ _
  exact h g cap w' (Chg.of_grown h3) h2
theorem Tx1.own {w : World} {base g c : Nat} {t : Int} {pv : Value} (h : w.ownsRow base 185 2 (.slice (some ⟨g, 0, none⟩) 1 c) 1 [.int .i64 t, pv]) : Tx1 w (.slice (some ⟨g, 0, none⟩) 1 c) t pv := by
 rcases h.2 with ⟨e, h0⟩ | ⟨g', cap, cur, e, hA, hg, h1, h2, h3, h4⟩
 ·omega
 ·cases e
  refine ⟨g, c, rfl, h1, cur, hg, ?_, ?_⟩
  ·have := congrArg (fun l => l[0]?) h4
   simpa [List.getElem?_take] using this
  ·have := congrArg (fun l => l[1]?) h4
   simpa [List.getElem?_take] using this
set_option maxRecDepth 100000 in
set_option maxHeartbeats 8000000 in
theorem rcommit_one (w : World) {lo G Y D V U n k : Nat} {a b Tv qv qhv : Value} {xs : List Value} {L : List (Int × Int × List UInt8)} {P : List (Int × List UInt8)} {S : List (Int × Int)} {tm cd num giv dn t last : Int} (h : RmS w G Y a b Tv qv qhv (n + 1 : Nat) num giv dn 0) (hT : w.ownsRow lo 163 1 Tv (n + 1) (xs ++ [.pointer (some ⟨D, 0, none⟩)])) (hD : RtAt w D V U 1 tm cd) (hV : RvAt w lo V Y U t S k) (hU : RbAt w U P) (hn : n ≤ 100000)
  (hq : Nl qv) (hqh : Nl qhv) (hY : RyAt w Y L last) (hN : L.length ≤ 100000) (h0 : 0 < P.length) (h16 : P.length ≤ 16) (hk : ∀ p ∈ P, 0 ≤ p.1 ∧ p.1 < 258) (hol : ∀ x ∈ L, x.2.1 ≤ t) (hg0 : 0 ≤ giv) (hg1 : giv ≤ 1000000) :
  Calls Tryz.prog 42 #[.pointer (some ⟨G, 0, none⟩), .int .i64 (n + 1 : Nat)] w fun e w' => e = .returned (.int .i64 0) ∧ ∃ qv' qhv' pv, RmS w' G Y a b Tv qv' qhv' (n + 1 : Nat) num (giv + 1) dn 0 ∧ Tx1 w' qv' (giv + 1) pv ∧ PuX w' pv P ∧ Int1 w' qhv' (n + 1 : Nat) ∧ RtAt w' D V U 2 (giv + 1) cd ∧ Chg [G, D] w w' := by
 have HO := Lib.hid (ropen_last w h hT hD hn)
 obtain ⟨pq, cq, rfl⟩ := hq
 obtain ⟨ph, ch, rfl⟩ := hqh
 obtain ⟨sv, rv, xr, hVh, hVs, hVr⟩ := hV
 obtain ⟨pv, hUh, hPx⟩ := hU
 obtain ⟨pa, cp, rfl, hcp, hpx⟩ := id hPx
 obtain ⟨m, hm⟩ : ∃ m, m = P.length := ⟨_, rfl⟩
 rw [← hm] at hUh hPx h0 h16
 have hm0 : ((m : Int) == 0) = false := beq_eq_false_iff_ne.2 (by omega)
 have hgd : decide (1099511627776 ≤ giv) = false := decide_eq_false (by omega)
 have d4 : w.cell? ⟨D, 4, none⟩ = some (.pointer (some ⟨U, 0, none⟩)) := cell_is hD 4 rfl
 have u2 : w.cell? ⟨U, 2, none⟩ = some (.slice pa m cp) := cell_is hUh 2 rfl
 have g12 : w.cell? ⟨G, 12, none⟩ = some (.bool false) := cell_is h 12 rfl
 have g0 : w.cell? ⟨G, 0, none⟩ = some (.pointer (some ⟨Y, 0, none⟩)) := cell_is h 0 rfl
 have g6 : w.cell? ⟨G, 6, none⟩ = some (.slice pq 0 cq) := cell_is h 6 rfl
 have d3 : w.cell? ⟨D, 3, none⟩ = some (.pointer (some ⟨V, 0, none⟩)) := cell_is hD 3 rfl
 have v2 : w.cell? ⟨V, 2, none⟩ = some (.int .i64 t) := cell_is hVh 2 rfl
 have HS := Lib.hid (rbuf_set w.drew (U := U) (P := P) ⟨_, hUh, hPx⟩ (by omega) hk)
 have HH := Lib.hid (And.intro h (And.intro hD (And.intro hUh (And.intro hPx (And.intro hY hm)))))
 have HV := Lib.hid (fun (w2 : World) (k2 : Chg [] w w2) (B : Nat) (pS : Option Addr) (mS cS : Nat) (hB : w2.heap[B]? = some (.cells #[.int .i64 1048576, .slice pS mS cS] 177 (0, 0))) (h1 : 0 < mS) (h2 : mS ≤ 1000) => rvalid_old w2 (V := V) (cq := cq) (pq := pq) (t := t) (hY.keep k2) hN hB h1 h2 hol)
 clear h hT hD hVh hVs hVr hUh hPx hpx hY hm hcp hol
 go_enter Tryz.func42, Tryz.ntmps42
 go_wp2_with fail
 refine HO.out.mono ?_
 rintro e w1 ⟨rfl, rfl⟩
 go_wp2_with fail
 go_region_held3 (fun wx => wx.cell? ⟨G, 0, none⟩ = some (.pointer (some ⟨Y, 0, none⟩)) ∧ wx.cell? ⟨G, 6, none⟩ = some (.slice pq 0 cq) ∧ wx.cell? ⟨D, 3, none⟩ = some (.pointer (some ⟨V, 0, none⟩)) ∧ wx.cell? ⟨V, 2, none⟩ = some (.int .i64 t) ∧ wx.cell? ⟨D, 4, none⟩ = some (.pointer (some ⟨U, 0, none⟩)))
  (first | (exact ⟨g0, g6, d3, v2, d4⟩) | (exact ⟨k2.cell g0 (by simp), k2.cell g6 (by simp), k2.cell d3 (by simp), k2.cell v2 (by simp), k2.cell d4 (by simp)⟩))
  (first
   | (go_at_call 103; refine HS.out.mono ?_; rintro e w2 ⟨B, pS, mS, cS, rfl, k2, hB, hm1, hm2⟩; have hvl := HV.out w2 (((Chg.refl [] w).drew).then k2) B pS mS cS hB (hm1 (by have := HH.out.2.2.2.2.2; omega)) (by have := HH.out.2.2.2.2.2; omega))
   | (go_at_call 102; refine hvl.mono ?_; rintro e w3 ⟨rfl, rfl⟩))
 have K2 : Chg [] w w2 := ((Chg.refl [] w).drew).then k2
 have nGD : G ≠ D := heap_ne HH.out.1 HH.out.2.1 (by simp)
 have hG2 := K2.heap HH.out.1 (by simp)
 have hD2 := K2.heap HH.out.2.1 (by simp)
 have hU2 := K2.heap HH.out.2.2.1 (by simp)
 have g10 : w2.cell? ⟨G, 10, none⟩ = some (.int .i64 giv) := cell_is hG2 10 rfl
 have f10 := unfrozen hG2 10
 have hGA := heap_set hG2 10 (.int .i64 (giv + 1)) rfl
 have kA := Chg.set w2 G 10 (.int .i64 (giv + 1))
 have hDA := kA.heap hD2 (by simpa using nGD.symm)
 have d0A := cell_is hDA 0 rfl
 have f0A := unfrozen hDA 0
 have hDB := heap_set hDA 0 (.int .i64 2) rfl
 have kB := Chg.set (w2.setCell ⟨G, 10, none⟩ (.int .i64 (giv + 1))) D 0 (.int .i64 2)
 have hGB := kB.heap hGA (by simpa using nGD)
 have g10B : ((w2.setCell ⟨G, 10, none⟩ (.int .i64 (giv + 1))).setCell ⟨D, 0, none⟩ (.int .i64 2)).cell? ⟨G, 10, none⟩ = some (.int .i64 (giv + 1)) := cell_is hGB 10 rfl
 have d1B := cell_is hDB 1 rfl
 have f1B := unfrozen hDB 1
 have hDC := heap_set hDB 1 (.int .i64 (giv + 1)) rfl
 have kC := Chg.set ((w2.setCell ⟨G, 10, none⟩ (.int .i64 (giv + 1))).setCell ⟨D, 0, none⟩ (.int .i64 2)) D 1 (.int .i64 (giv + 1))
 have hGC := kC.heap hGB (by simpa using nGD)
 have nU : U ∉ [G, D] := fun hm => by
  simp only [List.mem_cons, List.not_mem_nil, or_false] at hm
  rcases hm with rfl | rfl
  ·rw [hG2] at hU2; cases hU2
  ·rw [hD2] at hU2; cases hU2
 have kk : Chg [G, D] w (((w2.setCell ⟨G, 10, none⟩ (.int .i64 (giv + 1))).setCell ⟨D, 0, none⟩ (.int .i64 2)).setCell ⟨D, 1, none⟩ (.int .i64 (giv + 1))) :=
  (((K2.mono (fun x hx _ => by cases hx)).then (kA.mono (fun x hx _ => by rw [List.mem_singleton] at hx; simp [hx]))).then (kB.mono (fun x hx _ => by rw [List.mem_singleton] at hx; simp [hx]))).then (kC.mono (fun x hx _ => by rw [List.mem_singleton] at hx; simp [hx]))
 have hUC := kk.heap HH.out.2.2.1 nU
 have avW : Av w [G, D] [5, 50] := fun x hx cs t fr hh => by
  simp only [List.mem_cons, List.not_mem_nil, or_false] at hx
  rcases hx with rfl | rfl
  ·rw [HH.out.1] at hh; cases hh; decide
  ·rw [HH.out.2.1] at hh; cases hh; decide
 have hPC := HH.out.2.2.2.1.keepA kk avW
 have HC := Lib.hid (And.intro (show RmS _ G Y a b Tv (.slice pq 0 cq) (.slice ph 0 ch) (n + 1 : Nat) num (giv + 1) dn 0 from hGC) (And.intro (show RtAt _ D V U 2 (giv + 1) cd from hDC) (And.intro hUC (And.intro hPC (And.intro kk nGD)))))
 clear hvl hm1 hm2 hB k2 K2 hG2 hD2 hU2 hGA kA hDA hDB kB hGB hDC kC hGC nU kk hUC avW hPC HS HV g0 g6 d3 v2 d4 u2 g12
 go_upto_region 19 with fail
 go_cut [] from 7 to 95 (fun wx => wx = ((w2.setCell ⟨G, 10, none⟩ (.int .i64 (giv + 1))).setCell ⟨D, 0, none⟩ (.int .i64 2)).setCell ⟨D, 1, none⟩ (.int .i64 (giv + 1)))
 case first =>
  go_wp2_with fail
  go_meet
  rfl
 case rest =>
  rw [← hcut] at HC
  clear hcut g10 f10 d0A f0A g10B d1B f1B
  generalize wc = wC at *
  obtain ⟨g1, hg1⟩ : ∃ g1 : Int, g1 = giv + 1 := ⟨_, rfl⟩
  rw [← hg1] at HC
  have HG1 := Lib.hid hg1
  clear hg1
  obtain ⟨hGC, hDC, hUC, hPC, kk, nGD⟩ := HC.out
  have hGl := heap_lt hGC
  have hS : ∀ wx, Chg [] wC wx → wx.cell? ⟨G, 10, none⟩ = some (.int .i64 g1) ∧ wx.cell? ⟨D, 4, none⟩ = some (.pointer (some ⟨U, 0, none⟩)) ∧ wx.cell? ⟨U, 2, none⟩ = some (.slice pa m cp) := fun wx kx => ⟨cell_is (kx.heap hGC (by simp)) 10 rfl, cell_is (kx.heap hDC (by simp)) 4 rfl, cell_is (kx.heap hUC (by simp)) 2 rfl⟩
  have h6 : ∀ wx, Chg [] wC wx → wx.cell? ⟨G, 6, none⟩ = some (.slice pq 0 cq) := fun wx kx => cell_is (kx.heap hGC (by simp)) 6 rfl
  have kd : Chg [] wC wC.drew := (Chg.refl [] wC).drew
  have hSF : ∀ wx, Chg [] wC wx → wx.cell? ⟨G, 10, none⟩ = some (.int .i64 g1) ∧ wx.cell? ⟨D, 4, none⟩ = some (.pointer (some ⟨U, 0, none⟩)) ∧ wx.cell? ⟨U, 2, none⟩ = some (.slice pa m cp) ∧ wx.cell? ⟨G, 6, none⟩ = some (.slice pq 0 cq) := fun wx kx => ⟨(hS wx kx).1, (hS wx kx).2.1, (hS wx kx).2.2, h6 wx kx⟩
  have g6 := h6 _ (Chg.refl [] wC)
  have g6d := h6 _ kd
  have g6a : ∀ o, (wC.alloc o).cell? ⟨G, 6, none⟩ = some (.slice pq 0 cq) := fun o => h6 _ (Chg.alloc wC o)
  have g6b : ∀ o p, ((wC.alloc o).alloc p).cell? ⟨G, 6, none⟩ = some (.slice pq 0 cq) := fun o p => h6 _ ((Chg.alloc wC o).then_alloc p)
  have s0 := hS _ (Chg.refl [] wC)
  have g10 := s0.1
  have d4 := s0.2.1
  have u2 := s0.2.2
  have sd := hS _ kd
  have g10d := sd.1
  have d4d := sd.2.1
  have u2d := sd.2.2
  have g10a : ∀ o, (wC.alloc o).cell? ⟨G, 10, none⟩ = some (.int .i64 g1) := fun o => (hS _ (Chg.alloc wC o)).1
  have d4a : ∀ o, (wC.alloc o).cell? ⟨D, 4, none⟩ = some (.pointer (some ⟨U, 0, none⟩)) := fun o => (hS _ (Chg.alloc wC o)).2.1
  have u2a : ∀ o, (wC.alloc o).cell? ⟨U, 2, none⟩ = some (.slice pa m cp) := fun o => (hS _ (Chg.alloc wC o)).2.2
  clear s0 sd
  obtain ⟨zA', bA'⟩ := two_new wC (.cells #[] 185) (.cells #[.int .i64 g1, .slice pa m cp] 185)
  obtain ⟨bB', zB'⟩ := two_new wC (.cells #[.int .i64 g1, .slice pa m cp] 185) (.cells #[] 185)
  have zA : ((wC.alloc (.cells #[] 185)).alloc (.cells #[.int .i64 g1, .slice pa m cp] 185)).drew.heap[wC.heap.size]? = some (.cells #[] 185 (0, 0)) := zA'
  have bA : ((wC.alloc (.cells #[] 185)).alloc (.cells #[.int .i64 g1, .slice pa m cp] 185)).drew.heap[wC.heap.size + 1]? = some (.cells #[.int .i64 g1, .slice pa m cp] 185 (0, 0)) := bA'
  have zB : ((wC.alloc (.cells #[.int .i64 g1, .slice pa m cp] 185)).alloc (.cells #[] 185)).drew.heap[wC.heap.size + 1]? = some (.cells #[] 185 (0, 0)) := zB'
  have bB : ((wC.alloc (.cells #[.int .i64 g1, .slice pa m cp] 185)).alloc (.cells #[] 185)).drew.heap[wC.heap.size]? = some (.cells #[.int .i64 g1, .slice pa m cp] 185 (0, 0)) := bB'
  have kA : Chg [] wC ((wC.alloc (.cells #[] 185)).alloc (.cells #[.int .i64 g1, .slice pa m cp] 185)).drew := ((Chg.alloc wC _).then_alloc _).drew
  have kB : Chg [] wC ((wC.alloc (.cells #[.int .i64 g1, .slice pa m cp] 185)).alloc (.cells #[] 185)).drew := ((Chg.alloc wC _).then_alloc _).drew
  clear zA' bA' zB' bB'
  have nUG : U ≠ G := heap_ne hUC hGC (by simp)
  have HS2 := Lib.hid hSF
  have HGC := Lib.hid hGC
  clear hS hSF h6 hGC hDC hUC hPC kk
  go_upto_region 20 with fail
  go_cut [] from 95 (fun wx => ∃ qv', Tx1 wx qv' g1 (.slice pa m cp) ∧ RmS wx G Y a b Tv qv' (.slice ph 0 ch) (n + 1 : Nat) num g1 dn 0 ∧ Chg [G] wC wx)
  case first =>
   refine region_anyK (fun wx => wx.cell? ⟨G, 10, none⟩ = some (.int .i64 g1) ∧ wx.cell? ⟨D, 4, none⟩ = some (.pointer (some ⟨U, 0, none⟩)) ∧ wx.cell? ⟨U, 2, none⟩ = some (.slice pa m cp) ∧ wx.cell? ⟨G, 6, none⟩ = some (.slice pq 0 cq)) (fun j => !(j == 23)) (by kernel_rfl) ?_
   have hSd := HS2.out _ kd
   refine AnyK.take (i := 0) (v := ?v1) rfl (by kernel_rfl) (by kernel_rfl) (by kernel_rfl) (by kernel_rfl) (fun _ _ _ h => h) (Or.inl ⟨by rfl, ?hy1⟩) hSd ?_
   case hy1 =>
    intro w hSw
    try dsimp only at hSw
    go_simp
    try with_reducible rfl
   try simp only [Act.put, List.setIfInBounds_toArray]
   refine AnyK.take (i := 2) (v := ?v2) rfl (by kernel_rfl) (by kernel_rfl) (by kernel_rfl) (by kernel_rfl) (fun _ _ _ h => h) (Or.inl ⟨by rfl, ?hy2⟩) hSd ?_
   case hy2 =>
    intro w hSw
    try dsimp only at hSw
    go_simp
    try with_reducible rfl
   try simp only [Act.put]
   refine AnyK.take (i := 3) (v := ?v3) rfl (by kernel_rfl) (by kernel_rfl) (by kernel_rfl) (by kernel_rfl) (fun _ _ _ h => h) (Or.inl ⟨by rfl, ?hy3⟩) hSd ?_
   case hy3 =>
    intro w hSw
    try dsimp only at hSw
    go_simp
    try with_reducible rfl
   try simp only [Act.put]
   refine AnyK.take (i := 4) (v := ?v4) rfl (by kernel_rfl) (by kernel_rfl) (by kernel_rfl) (by kernel_rfl) (fun _ _ _ h => h) (Or.inl ⟨by rfl, ?hy4⟩) hSd ?_
   case hy4 =>
    intro w hSw
    try dsimp only at hSw
    go_simp
    try with_reducible rfl
   try simp only [Act.put]
   refine AnyK.take (i := 5) (v := ?v5) rfl (by kernel_rfl) (by kernel_rfl) (by kernel_rfl) (by kernel_rfl) (fun _ _ _ h => h) (Or.inl ⟨by rfl, ?hy5⟩) hSd ?_
   case hy5 =>
    intro w hSw
    try dsimp only at hSw
    go_simp
    try with_reducible rfl
   try simp only [Act.put]
   refine AnyK.take (i := 7) (v := ?v6) rfl (by kernel_rfl) (by kernel_rfl) (by kernel_rfl) (by kernel_rfl) (fun _ _ _ h => h) (Or.inl ⟨by rfl, ?hy6⟩) hSd ?_
   case hy6 =>
    intro w hSw
    try dsimp only at hSw
    go_simp
    try with_reducible rfl
   try simp only [Act.put]
   refine AnyK.take (i := 8) (v := ?v7) rfl (by kernel_rfl) (by kernel_rfl) (by kernel_rfl) (by kernel_rfl) (fun _ _ _ h => h) (Or.inl ⟨by rfl, ?hy7⟩) hSd ?_
   case hy7 =>
    intro w hSw
    try dsimp only at hSw
    go_simp
    try with_reducible rfl
   try simp only [Act.put]
   refine AnyK.take (i := 9) (v := ?v8) rfl (by kernel_rfl) (by kernel_rfl) (by kernel_rfl) (by kernel_rfl) (fun _ _ _ h => h) (Or.inl ⟨by rfl, ?hy8⟩) hSd ?_
   case hy8 =>
    intro w hSw
    try dsimp only at hSw
    go_simp
    try with_reducible rfl
   try simp only [Act.put]
   refine AnyK.take (i := 10) (v := ?v9) rfl (by kernel_rfl) (by kernel_rfl) (by kernel_rfl) (by kernel_rfl) (fun _ _ _ h => h) (Or.inl ⟨by rfl, ?hy9⟩) hSd ?_
   case hy9 =>
    intro w hSw
    try dsimp only at hSw
    go_simp
    try with_reducible rfl
   try simp only [Act.put]
   refine AnyK.take (i := 11) (v := ?v10) rfl (by kernel_rfl) (by kernel_rfl) (by kernel_rfl) (by kernel_rfl) (fun _ _ _ h => h) (Or.inl ⟨by rfl, ?hy10⟩) hSd ?_
   case hy10 =>
    intro w hSw
    try dsimp only at hSw
    go_simp
    try with_reducible rfl
   try simp only [Act.put]
   refine AnyK.take (i := 12) (v := ?v11) rfl (by kernel_rfl) (by kernel_rfl) (by kernel_rfl) (by kernel_rfl) (fun _ _ _ h => h) (Or.inl ⟨by rfl, ?hy11⟩) hSd ?_
   case hy11 =>
    intro w hSw
    try dsimp only at hSw
    go_simp
    try with_reducible rfl
   try simp only [Act.put]
   refine AnyK.take (i := 13) (v := ?v12) rfl (by kernel_rfl) (by kernel_rfl) (by kernel_rfl) (by kernel_rfl) (fun _ _ _ h => h) (Or.inl ⟨by rfl, ?hy12⟩) hSd ?_
   case hy12 =>
    intro w hSw
    try dsimp only at hSw
    go_simp
    try with_reducible rfl
   try simp only [Act.put]
   refine AnyK.take (i := 14) (v := ?v13) rfl (by kernel_rfl) (by kernel_rfl) (by kernel_rfl) (by kernel_rfl) (fun _ _ _ h => h) (Or.inl ⟨by rfl, ?hy13⟩) hSd ?_
   case hy13 =>
    intro w hSw
    try dsimp only at hSw
    go_simp
    try with_reducible rfl
   try simp only [Act.put]
   refine AnyK.take (i := 15) (v := ?v14) rfl (by kernel_rfl) (by kernel_rfl) (by kernel_rfl) (by kernel_rfl) (fun _ _ _ h => h) (Or.inl ⟨by rfl, ?hy14⟩) hSd ?_
   case hy14 =>
    intro w hSw
    try dsimp only at hSw
    go_simp
    try with_reducible rfl
   try simp only [Act.put]
   refine AnyK.take (i := 16) (v := ?v15) rfl (by kernel_rfl) (by kernel_rfl) (by kernel_rfl) (by kernel_rfl) (fun _ _ _ h => h) (Or.inl ⟨by rfl, ?hy15⟩) hSd ?_
   case hy15 =>
    intro w hSw
    try dsimp only at hSw
    go_simp
    try with_reducible rfl
   try simp only [Act.put]
   refine AnyK.take (i := 17) (v := ?v16) rfl (by kernel_rfl) (by kernel_rfl) (by kernel_rfl) (by kernel_rfl) (fun _ _ _ h => h) (Or.inl ⟨by rfl, ?hy16⟩) hSd ?_
   case hy16 =>
    intro w hSw
    try dsimp only at hSw
    go_simp
    try with_reducible rfl
   try simp only [Act.put]
   refine AnyK.take (i := 18) (v := ?v17) rfl (by kernel_rfl) (by kernel_rfl) (by kernel_rfl) (by kernel_rfl) (fun _ _ _ h => h) (Or.inl ⟨by rfl, ?hy17⟩) hSd ?_
   case hy17 =>
    intro w hSw
    try dsimp only at hSw
    go_simp
    try with_reducible rfl
   try simp only [Act.put]
   refine AnyK.ready (rs := [1, 19]) (by kernel_rfl) (by simp) ?_
   refine AllK.cons (i := 1) rfl (fun K hK => ?_) ?_
   ·go_simp
    refine hK.out _ _ (fun _ => by first | exact HS2.out _ (Chg.alloc wC _).drew | exact HS2.out _ ((Chg.alloc wC _).then_alloc _).drew | exact HS2.out _ k6) ?_
    clear hK K
    try simp only [Act.put, List.setIfInBounds_toArray, List.set_cons_zero, List.set_cons_succ]
    refine AnyK.ready (rs := [6, 19]) (by kernel_rfl) (by simp) ?_
    refine AllK.cons (i := 6) rfl (fun K hK => ?_) ?_
    ·refine step_append_run rfl (.tmp 96) (.tmp 100) 106 106 rfl _ _ rfl rfl _ _ (append_nl6 _ _ _ _ _) ?_
     refine hK.out _ _ (fun _ => by first | exact HS2.out _ (Chg.alloc wC _).drew | exact HS2.out _ ((Chg.alloc wC _).then_alloc _).drew | exact HS2.out _ k6) ?_
     clear hK K
     try simp only [Act.put, List.setIfInBounds_toArray]
     refine AnyK.ready (rs := [19]) (by kernel_rfl) (by simp) ?_
     refine AllK.cons (i := 19) rfl (fun K hK => ?_) ?_
     ·go_simp
      refine hK.out _ _ (fun _ => by first | exact HS2.out _ (Chg.alloc wC _).drew | exact HS2.out _ ((Chg.alloc wC _).then_alloc _).drew | exact HS2.out _ k6) ?_
      clear hK K
      try simp only [Act.put, List.setIfInBounds_toArray, List.set_cons_zero, List.set_cons_succ]
      refine AnyK.ready (rs := [20]) (by kernel_rfl) (by simp) ?_
      refine AllK.cons (i := 20) rfl (fun K hK => ?_) ?_
      ·refine step_append_t2 rfl (.tmp 101) (.tmp 114) rfl wC.heap.size (wC.heap.size + 1) 1 _ _ rfl zA rfl bA ⟨rfl, rfl⟩ ?_
       intro g5 cp5 w5 k5 o5
       have k6 : Chg [] wC w5 := kA.trans k5 (by intro x hx hlt; rw [List.mem_singleton] at hx; omega)
       have r5 := k6.heap HGC.out (by simp)
       have c5 := cell_is r5 6 rfl
       have f5 := unfrozen r5 6
       refine hK.out _ _ (fun _ => by first | exact HS2.out _ (Chg.alloc wC _).drew | exact HS2.out _ ((Chg.alloc wC _).then_alloc _).drew | exact HS2.out _ k6) ?_
       clear hK K
       try simp only [Act.put, List.setIfInBounds_toArray]
       refine AnyK.ready (rs := [21]) (by kernel_rfl) (by simp) ?_
       refine AllK.cons (i := 21) rfl (fun K hK => ?_) ?_
       ·go_simp
        refine hK.out _ _ (fun _ => by first | exact HS2.out _ (Chg.alloc wC _).drew | exact HS2.out _ ((Chg.alloc wC _).then_alloc _).drew | exact HS2.out _ k6) ?_
        clear hK K
        try simp only [Act.put, List.setIfInBounds_toArray, List.set_cons_zero, List.set_cons_succ]
        refine AnyK.ready (rs := [22]) (by kernel_rfl) (by simp) ?_
        refine AllK.cons (i := 22) rfl (fun K hK => ?_) ?_
        ·go_simp
         refine hK.out _ _ (fun _ => by first | exact HS2.out _ (Chg.alloc wC _).drew | exact HS2.out _ ((Chg.alloc wC _).then_alloc _).drew | exact HS2.out _ k6) ?_
         clear hK K
         try simp only [Act.put, List.setIfInBounds_toArray, List.set_cons_zero, List.set_cons_succ]
         refine AnyK.ready (rs := [23]) (by kernel_rfl) (by simp) ?_
         refine AllK.cons (i := 23) rfl (fun K hK => ?_) ?_
         ·go_simp
          refine hK.out _ _ (fun h => absurd h (by decide)) ?_
          clear hK K
          try simp only [Act.put, List.setIfInBounds_toArray, List.set_cons_zero, List.set_cons_succ]
          refine AnyK.done (by kernel_rfl) ?_
          have hT1 : Tx1 (w5.setCell ⟨G, 6, none⟩ (.slice (some ⟨g5, 0, none⟩) 1 cp5)) (.slice (some ⟨g5, 0, none⟩) 1 cp5) g1 (.slice pa m cp) := (Tx1.own o5).keepA (Chg.set w5 G 6 _) (Av.row r5 (by decide))
          have HT1 := Lib.hid (And.intro hT1 (And.intro r5 k6))
          clear hT1 r5 k6 k5 o5 c5 f5
          go_wp2_with fail
          go_meet
          exact ⟨_, HT1.out.1, heap_set HT1.out.2.1 6 _ rfl, (HT1.out.2.2.mono (fun x hx _ => by cases hx)).then (Chg.set w5 G 6 _)⟩
         exact AllK.nil
        exact AllK.nil
       exact AllK.nil
      exact AllK.nil
     exact AllK.nil
    refine AllK.cons (i := 19) rfl (fun K hK => ?_) ?_
    ·go_simp
     refine hK.out _ _ (fun _ => by first | exact HS2.out _ (Chg.alloc wC _).drew | exact HS2.out _ ((Chg.alloc wC _).then_alloc _).drew | exact HS2.out _ k6) ?_
     clear hK K
     try simp only [Act.put, List.setIfInBounds_toArray, List.set_cons_zero, List.set_cons_succ]
     refine AnyK.ready (rs := [6]) (by kernel_rfl) (by simp) ?_
     refine AllK.cons (i := 6) rfl (fun K hK => ?_) ?_
     ·refine step_append_run rfl (.tmp 96) (.tmp 100) 106 106 rfl _ _ rfl rfl _ _ (append_nl6 _ _ _ _ _) ?_
      refine hK.out _ _ (fun _ => by first | exact HS2.out _ (Chg.alloc wC _).drew | exact HS2.out _ ((Chg.alloc wC _).then_alloc _).drew | exact HS2.out _ k6) ?_
      clear hK K
      try simp only [Act.put, List.setIfInBounds_toArray]
      refine AnyK.ready (rs := [20]) (by kernel_rfl) (by simp) ?_
      refine AllK.cons (i := 20) rfl (fun K hK => ?_) ?_
      ·refine step_append_t2 rfl (.tmp 101) (.tmp 114) rfl wC.heap.size (wC.heap.size + 1) 1 _ _ rfl zA rfl bA ⟨rfl, rfl⟩ ?_
       intro g5 cp5 w5 k5 o5
       have k6 : Chg [] wC w5 := kA.trans k5 (by intro x hx hlt; rw [List.mem_singleton] at hx; omega)
       have r5 := k6.heap HGC.out (by simp)
       have c5 := cell_is r5 6 rfl
       have f5 := unfrozen r5 6
       refine hK.out _ _ (fun _ => by first | exact HS2.out _ (Chg.alloc wC _).drew | exact HS2.out _ ((Chg.alloc wC _).then_alloc _).drew | exact HS2.out _ k6) ?_
       clear hK K
       try simp only [Act.put]
       refine AnyK.ready (rs := [21]) (by kernel_rfl) (by simp) ?_
       refine AllK.cons (i := 21) rfl (fun K hK => ?_) ?_
       ·go_simp
        refine hK.out _ _ (fun _ => by first | exact HS2.out _ (Chg.alloc wC _).drew | exact HS2.out _ ((Chg.alloc wC _).then_alloc _).drew | exact HS2.out _ k6) ?_
        clear hK K
        try simp only [Act.put, List.setIfInBounds_toArray, List.set_cons_zero, List.set_cons_succ]
        refine AnyK.ready (rs := [22]) (by kernel_rfl) (by simp) ?_
        refine AllK.cons (i := 22) rfl (fun K hK => ?_) ?_
        ·go_simp
         refine hK.out _ _ (fun _ => by first | exact HS2.out _ (Chg.alloc wC _).drew | exact HS2.out _ ((Chg.alloc wC _).then_alloc _).drew | exact HS2.out _ k6) ?_
         clear hK K
         try simp only [Act.put, List.setIfInBounds_toArray, List.set_cons_zero, List.set_cons_succ]
         refine AnyK.ready (rs := [23]) (by kernel_rfl) (by simp) ?_
         refine AllK.cons (i := 23) rfl (fun K hK => ?_) ?_
         ·go_simp
          refine hK.out _ _ (fun h => absurd h (by decide)) ?_
          clear hK K
          try simp only [Act.put, List.setIfInBounds_toArray, List.set_cons_zero, List.set_cons_succ]
          refine AnyK.done (by kernel_rfl) ?_
          have hT1 : Tx1 (w5.setCell ⟨G, 6, none⟩ (.slice (some ⟨g5, 0, none⟩) 1 cp5)) (.slice (some ⟨g5, 0, none⟩) 1 cp5) g1 (.slice pa m cp) := (Tx1.own o5).keepA (Chg.set w5 G 6 _) (Av.row r5 (by decide))
          have HT1 := Lib.hid (And.intro hT1 (And.intro r5 k6))
          clear hT1 r5 k6 k5 o5 c5 f5
          go_wp2_with fail
          go_meet
          exact ⟨_, HT1.out.1, heap_set HT1.out.2.1 6 _ rfl, (HT1.out.2.2.mono (fun x hx _ => by cases hx)).then (Chg.set w5 G 6 _)⟩
         exact AllK.nil
        exact AllK.nil
       exact AllK.nil
      exact AllK.nil
     exact AllK.nil
    exact AllK.nil
   refine AllK.cons (i := 19) rfl (fun K hK => ?_) ?_
   ·go_simp
    refine hK.out _ _ (fun _ => by first | exact HS2.out _ (Chg.alloc wC _).drew | exact HS2.out _ ((Chg.alloc wC _).then_alloc _).drew | exact HS2.out _ k6) ?_
    clear hK K
    try simp only [Act.put, List.setIfInBounds_toArray, List.set_cons_zero, List.set_cons_succ]
    refine AnyK.ready (rs := [1]) (by kernel_rfl) (by simp) ?_
    refine AllK.cons (i := 1) rfl (fun K hK => ?_) ?_
    ·go_simp
     refine hK.out _ _ (fun _ => by first | exact HS2.out _ (Chg.alloc wC _).drew | exact HS2.out _ ((Chg.alloc wC _).then_alloc _).drew | exact HS2.out _ k6) ?_
     clear hK K
     try simp only [Act.put, List.setIfInBounds_toArray, List.set_cons_zero, List.set_cons_succ]
     refine AnyK.ready (rs := [6]) (by kernel_rfl) (by simp) ?_
     refine AllK.cons (i := 6) rfl (fun K hK => ?_) ?_
     ·refine step_append_run rfl (.tmp 96) (.tmp 100) 106 106 rfl _ _ rfl rfl _ _ (append_nl6 _ _ _ _ _) ?_
      refine hK.out _ _ (fun _ => by first | exact HS2.out _ (Chg.alloc wC _).drew | exact HS2.out _ ((Chg.alloc wC _).then_alloc _).drew | exact HS2.out _ k6) ?_
      clear hK K
      try simp only [Act.put, List.setIfInBounds_toArray]
      refine AnyK.ready (rs := [20]) (by kernel_rfl) (by simp) ?_
      refine AllK.cons (i := 20) rfl (fun K hK => ?_) ?_
      ·refine step_append_t2 rfl (.tmp 101) (.tmp 114) rfl (wC.heap.size + 1) wC.heap.size 1 _ _ rfl zB rfl bB ⟨rfl, rfl⟩ ?_
       intro g5 cp5 w5 k5 o5
       have k6 : Chg [] wC w5 := kB.trans k5 (by intro x hx hlt; rw [List.mem_singleton] at hx; omega)
       have r5 := k6.heap HGC.out (by simp)
       have c5 := cell_is r5 6 rfl
       have f5 := unfrozen r5 6
       refine hK.out _ _ (fun _ => by first | exact HS2.out _ (Chg.alloc wC _).drew | exact HS2.out _ ((Chg.alloc wC _).then_alloc _).drew | exact HS2.out _ k6) ?_
       clear hK K
       try simp only [Act.put]
       refine AnyK.ready (rs := [21]) (by kernel_rfl) (by simp) ?_
       refine AllK.cons (i := 21) rfl (fun K hK => ?_) ?_
       ·go_simp
        refine hK.out _ _ (fun _ => by first | exact HS2.out _ (Chg.alloc wC _).drew | exact HS2.out _ ((Chg.alloc wC _).then_alloc _).drew | exact HS2.out _ k6) ?_
        clear hK K
        try simp only [Act.put, List.setIfInBounds_toArray, List.set_cons_zero, List.set_cons_succ]
        refine AnyK.ready (rs := [22]) (by kernel_rfl) (by simp) ?_
        refine AllK.cons (i := 22) rfl (fun K hK => ?_) ?_
        ·go_simp
         refine hK.out _ _ (fun _ => by first | exact HS2.out _ (Chg.alloc wC _).drew | exact HS2.out _ ((Chg.alloc wC _).then_alloc _).drew | exact HS2.out _ k6) ?_
         clear hK K
         try simp only [Act.put, List.setIfInBounds_toArray, List.set_cons_zero, List.set_cons_succ]
         refine AnyK.ready (rs := [23]) (by kernel_rfl) (by simp) ?_
         refine AllK.cons (i := 23) rfl (fun K hK => ?_) ?_
         ·go_simp
          refine hK.out _ _ (fun h => absurd h (by decide)) ?_
          clear hK K
          try simp only [Act.put, List.setIfInBounds_toArray, List.set_cons_zero, List.set_cons_succ]
          refine AnyK.done (by kernel_rfl) ?_
          have hT1 : Tx1 (w5.setCell ⟨G, 6, none⟩ (.slice (some ⟨g5, 0, none⟩) 1 cp5)) (.slice (some ⟨g5, 0, none⟩) 1 cp5) g1 (.slice pa m cp) := (Tx1.own o5).keepA (Chg.set w5 G 6 _) (Av.row r5 (by decide))
          have HT1 := Lib.hid (And.intro hT1 (And.intro r5 k6))
          clear hT1 r5 k6 k5 o5 c5 f5
          go_wp2_with fail
          go_meet
          exact ⟨_, HT1.out.1, heap_set HT1.out.2.1 6 _ rfl, (HT1.out.2.2.mono (fun x hx _ => by cases hx)).then (Chg.set w5 G 6 _)⟩
         exact AllK.nil
        exact AllK.nil
       exact AllK.nil
      exact AllK.nil
     exact AllK.nil
    exact AllK.nil
   exact AllK.nil
  case rest =>
   obtain ⟨qv', hq1, hm1, k1⟩ := hcut
   have hGl := heap_lt hm1
   have c7 : wc.cell? ⟨G, 7, none⟩ = some (.slice ph 0 ch) := cell_is hm1 7 rfl
   have c7a : ∀ o, (wc.alloc o).cell? ⟨G, 7, none⟩ = some (.slice ph 0 ch) := fun o => cell_is (heap_old hm1) 7 rfl
   obtain ⟨hd, hde⟩ : ∃ hd : Int, hd = (n : Int) + 1 := ⟨_, rfl⟩
   obtain ⟨zA, bA⟩ := two_new wc (.cells #[] 3) (.cells #[.int .i64 ((n : Int) + 1)] 3)
   have rA : RmS ((wc.alloc (.cells #[] 3)).alloc (.cells #[.int .i64 ((n : Int) + 1)] 3)) G Y a b Tv qv' (.slice ph 0 ch) (n + 1 : Nat) num g1 dn 0 := heap_old (heap_old hm1)
   have kA0 : Chg [] wc ((wc.alloc (.cells #[] 3)).alloc (.cells #[.int .i64 ((n : Int) + 1)] 3)) := (Chg.alloc wc _).then_alloc _
   have nA : G ∉ [wc.heap.size] := by simp; omega
   have HF := Lib.hid (fun (g5 cp5 : Nat) (w5 : World) (k5 : Chg [wc.heap.size] ((wc.alloc (.cells #[] 3)).alloc (.cells #[.int .i64 ((n : Int) + 1)] 3)) w5) (o5 : w5.ownsRow 0 3 1 (.slice (some ⟨g5, 0, none⟩) 1 cp5) 1 [.int .i64 ((n : Int) + 1)]) =>
    (show ∃ qv' qhv' pv, RmS (w5.setCell ⟨G, 7, none⟩ (.slice (some ⟨g5, 0, none⟩) 1 cp5)) G Y a b Tv qv' qhv' (n + 1 : Nat) num (giv + 1) dn 0 ∧ Tx1 (w5.setCell ⟨G, 7, none⟩ (.slice (some ⟨g5, 0, none⟩) 1 cp5)) qv' (giv + 1) pv ∧ PuX (w5.setCell ⟨G, 7, none⟩ (.slice (some ⟨g5, 0, none⟩) 1 cp5)) pv P ∧ Int1 (w5.setCell ⟨G, 7, none⟩ (.slice (some ⟨g5, 0, none⟩) 1 cp5)) qhv' (n + 1 : Nat) ∧ RtAt (w5.setCell ⟨G, 7, none⟩ (.slice (some ⟨g5, 0, none⟩) 1 cp5)) D V U 2 (giv + 1) cd ∧ Chg [G, D] w (w5.setCell ⟨G, 7, none⟩ (.slice (some ⟨g5, 0, none⟩) 1 cp5)) from by
     have HC' := HC.out
     rw [← HG1.out]
     obtain ⟨hGC, hDC, hUC, hPC, kk, nGD⟩ := HC'
     have kk2 : Chg [G] wc (w5.setCell ⟨G, 7, none⟩ (.slice (some ⟨g5, 0, none⟩) 1 cp5)) := ((kA0.mono (T := [G]) (fun x hx _ => by cases hx)).trans k5 (by intro x hx hlt; rw [List.mem_singleton] at hx; omega)).then (Chg.set w5 G 7 _)
     have kT := k1.then kk2
     refine ⟨qv', _, _, heap_set (k5.heap rA nA) 7 _ rfl, hq1.keepA kk2 (Av.row hm1 (by decide)), hPC.keepA kT (Av.row hGC (by decide)), Int1.own (own_setC (G := G) (i := 7) (u := .slice (some ⟨g5, 0, none⟩) 1 cp5) o5 (k5.heap rA nA) (by decide)), kT.heap hDC (by simpa using nGD.symm), kk.then (kT.mono (fun x hx _ => by rw [List.mem_singleton] at hx; simp [hx]))⟩))
   clear hq1 k1 hde
   go_wp2_with (at_builtin; first
    | (refine Lib.wpList_append_run _ rfl (.tmp 119) (.tmp 123) 115 115 rfl _ _ rfl rfl _ _ (append_nl3 _ _ _ _ _) ?_)
    | (refine wpList_append_i2 rfl (.tmp 124) (.tmp 126) rfl wc.heap.size (wc.heap.size + 1) 1 _ rfl zA rfl (cell_is bA 0 rfl) ?_; intro g5 cp5 w5 k5 o5; have r5 := k5.heap rA nA; have c5 := cell_is r5 7 rfl; have f5 := unfrozen r5 7))
   have hf := Lib.hid (HF.out g5 cp5 w5 k5 o5)
   go_ret
   exact ⟨rfl, hf.out⟩
section
variable {base : Nat} {d : Ids} {p : Par} {F : World → Prop}
set_option maxRecDepth 100000 in
theorem swrite_x (w : World) {q : Int → List UInt8} {L : List (Int × Value)} {n E eo cp D o c : Nat} {b : Int} {l : List UInt8} (hf : Fr base d p F) (h : Su w base d p F q L n)
  (e0 : w.cell? ⟨E, eo, none⟩ = some (.int .i64 b)) (e1 : w.cell? ⟨E, eo + 1, none⟩ = some (.slice (some ⟨D, o, none⟩) 40 c)) (hb : Bs w (some ⟨D, o, none⟩) l) (hl : l.length = 40) (h0 : 0 ≤ b) (h1 : b < 258) (hroom : L.length ≤ 15) :
  Calls Tryz.prog 17 #[.pointer (some ⟨d.P, 0, none⟩), .int .i64 p.h, .slice (some ⟨E, eo, none⟩) 1 cp] w fun e w' =>
  ∃ v, e = .returned (.int .i64 0) ∧ Ow base w w' ∧ Chg [d.rw] w w' ∧ Su w' base d p F (putQ q b l) (putL L b v) n := by
 have c5 := (hf.need _ h.env).p5
 have HO := Lib.hid (dead_gen w (hf.need _ h.env))
 have HW := Lib.hid (twrite_gen w (cp := cp) hf h e0 e1 hb hl h0 h1 hroom)
 have HS := Lib.hid h
 have HF := Lib.hid hf
 clear h e0 e1 hb hf
 go_enter Tryz.func17, Tryz.ntmps17
 go_wp2_with fail
 refine HO.out.mono ?_
 rintro e w1 ⟨rfl, rfl⟩
 go_wp2_with fail
 refine HW.out.mono ?_
 rintro e w1 ⟨g, c', rfl, kc, hbf, hbs, hbt⟩
 go_wp2_with fail
 go_ret
 have h := HS.out
 have hr : ∀ {x : Nat} {cs : Array Value} {t : TypeId}, w.heap[x]? = some (.cells cs t (0, 0)) → x ∉ [d.rw] := fun hx => by simpa using (map_cells h.buf.2 hx).symm
 have how : Ow base w w1 := by
  refine ⟨[d.rw], kc, fun x hx => ?_⟩
  rw [List.mem_singleton] at hx
  subst hx
  exact ⟨h.high.2.2, fun cs t fr hh => absurd rfl (map_cells h.buf.2 hh)⟩
 refine ⟨_, rfl, how, kc, HF.out.keep _ _ how h.env, kc.heap h.tx (hr h.tx), hbf, putL_keys (P := fun x => 0 ≤ x ∧ x < 258) h.keys ⟨h0, h1⟩, fun x hx hx' => ?_, h.vw.keep kc (av_map h.buf.2 _), h.sp.keep kc (av_map h.buf.2 _), h.high⟩
 unfold putQ
 by_cases hxb : x = b
 ·rw [if_pos hxb]
  exact Or.inr ⟨g, c', by rw [getL_put, if_pos hxb], hbs, hl, hbt⟩
 ·rw [if_neg hxb]
  rcases h.blk x hx hx' with ⟨hg, hz⟩ | ⟨g2, c2, hg, hb2, hl2, cs, ht2⟩
  ·exact Or.inl ⟨by rw [getL_put, if_neg hxb]; exact hg, hz⟩
  ·exact Or.inr ⟨g2, c2, by rw [getL_put, if_neg hxb]; exact hg, hb2.chgT kc (hr ht2), hl2, cs, kc.heap ht2 (hr ht2)⟩
end



theorem nodup_subK (l : List Int) : ∀ S : List Int, l.Nodup → (∀ x ∈ l, x ∈ S) → l.length ≤ S.length := by
 induction l with
 | nil => intro S _ _; exact Nat.zero_le _
 | cons a l ih =>
  intro S hn hs
  simp only [List.nodup_cons] at hn
  have ha := hs a List.mem_cons_self
  have := ih (S.erase a) hn.2 (fun x hx => by
   have hne : x ≠ a := fun e => hn.1 (e ▸ hx)
   exact (List.mem_erase_of_ne hne).2 (hs x (List.mem_cons_of_mem _ hx)))
  rw [List.length_erase_of_mem ha] at this
  have := List.length_pos_of_mem ha
  simp only [List.length_cons]
  omega
variable {base : Nat} {d : Ids} {p : Par} {F : World → Prop}


end Go.Proofs.YtelakcjbknbehaaGreat
