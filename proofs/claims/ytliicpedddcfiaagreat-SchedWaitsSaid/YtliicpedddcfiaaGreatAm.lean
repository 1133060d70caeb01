/- The statement SchedWaits: a commit that waits is told nothing till its batch is done, however often it is stepped; others go on meanwhile; for every input that can be read. -/
import Derived.Deep.QuietTactic
import Derived.Test.YtliicpedddcfiaaGreatRows
import Derived.ProofKit
import Derived.OpenShut
import Derived.Lib.SlBytesRowKit
import Derived.Lib.SmallJoins
import Derived.Deep.Slices
import Derived.Deep.Fields
import Derived.ChangeMaps5
import Derived.Test.YtliicpedddcfiaaGreatAb
import Derived.Test.YtliicpedddcfiaaGreatAc
import Derived.Test.YtliicpedddcfiaaGreatAl
namespace Go.Proofs.YtliicpedddcfiaaGreat.Sw
open Go.RowKit Go.Lib

set_option maxRecDepth 100000 in
set_option maxHeartbeats 4000000 in
theorem commit_again (w : World) {K Bb lw : Nat} {d : Ids} {s : Gs} {g : Gd} {oo T : Nat} {cs bc : Array Value} {oh h k : Int} (hB : SchB w K cs) (h1 : cs[1]? = some (.pointer (some ⟨d.P, 0, none⟩))) (h5 : cs[oo + 3]? = some (.bool true))
    (hb : w.heap[Bb]? = some (.cells bc 85 (0, 0))) (hbc : bc[0]? = some (.int .i64 h)) (hS : Sto w lw d s g) (htab : getL s.Lr h = some (.pointer (some ⟨T, 0, none⟩))) (t0 : w.cell? ⟨T, 0, none⟩ = some (.int .i64 2)) (t1 : w.cell? ⟨T, 1, none⟩ = some (.int .i64 k)) (t2 : w.cell? ⟨T, 2, none⟩ = some (.int .i64 0)) :
    Calls Tryz.prog 92 #[.pointer (some ⟨K, 0, none⟩), .pointer (some ⟨K, oo, none⟩), .pointer (some ⟨Bb, 0, none⟩), .agg #[.int .i64 4, .int .i64 0, .int .i64 oh, .int .i64 0, .slice none 0 0]] w fun e w' =>
      e = .returned (.tuple #[.agg #[.int .i64 0, .int .i64 0, .int .i64 0, .int .i64 0, .slice none 0 0], .bool false]) ∧ Chg [] w w' := by
  have kk : Chg [] w ((w.alloc (.cells #[.int .i64 4, .int .i64 0, .int .i64 oh, .int .i64 0, .slice none 0 0] 39)).alloc (.cells #[.int .i64 0, .int .i64 0, .int .i64 0, .int .i64 0, .slice none 0 0] 39)) := (Chg.alloc w _).then_alloc _
  obtain ⟨y1, y2⟩ := heap_new2 w (.cells #[.int .i64 4, .int .i64 0, .int .i64 oh, .int .i64 0, .slice none 0 0] 39) (.cells #[.int .i64 0, .int .i64 0, .int .i64 0, .int .i64 0, .slice none 0 0] 39)
  generalize hw0 : (w.alloc (.cells #[.int .i64 4, .int .i64 0, .int .i64 oh, .int .i64 0, .slice none 0 0] 39)).alloc (.cells #[.int .i64 0, .int .i64 0, .int .i64 0, .int .i64 0, .slice none 0 0] 39) = w0 at *
  have hz1 := heap_lt y1
  generalize hz : w.heap.size = z at *
  have k1 : w0.cell? ⟨K, 1, none⟩ = some (.pointer (some ⟨d.P, 0, none⟩)) := kk.cell (cell_is hB 1 h1) (by simp)
  have k5 : w0.cell? ⟨K, oo + 3, none⟩ = some (.bool true) := kk.cell (cell_is hB (oo + 3) h5) (by simp)
  have b0 : w0.cell? ⟨Bb, 0, none⟩ = some (.int .i64 h) := kk.cell (cell_is hb 0 hbc) (by simp)
  have kd := kk.drew
  have hSd := hS.keep kd
  have HR := Lib.hid (result_ok w0.drew (P := d.P) (M := d.M) (X := d.X) (cell_is hSd.store 5 rfl) (cell_is hSd.mx.mgr 0 rfl) (cell_is hSd.mx.mgr 2 rfl) hSd.mx.map htab (kd.cell t0 (by simp)) (kd.cell t1 (by simp)) (kd.cell t2 (by simp)))
  have y1d : w0.drew.heap[z]? = _ := y1
  have y2d : w0.drew.heap[z + 1]? = _ := y2
  have HX := Lib.hid (And.intro y2d kd)
  clear hB h1 h5 hb hbc hS t0 t1 t2 htab y1 y2 y1d y2d kk kd hSd
  go_enter Tryz.func92, Tryz.ntmps92
  go_wp2_with fail
  go_region_held3 (fun wx => wx.cell? ⟨K, 1, none⟩ = some (.pointer (some ⟨d.P, 0, none⟩)) ∧ wx.cell? ⟨Bb, 0, none⟩ = some (.int .i64 h))
    (first | (exact ⟨k1, b0⟩) | (exact ⟨k3.cell k1 (by simp), k3.cell b0 (by simp)⟩))
    (first | (go_at_call 130; refine HR.out.mono ?_; rintro e w3 ⟨rfl, k3⟩))
  obtain ⟨y2d, kd⟩ := HX.out
  have y27 := k3.heap y2d (by simp)
  have t0 := cell_is y27 0 rfl
  have t1 := cell_is y27 1 rfl
  have t2 := cell_is y27 2 rfl
  have t3 := cell_is y27 3 rfl
  have t4 := cell_is y27 4 rfl
  have f0 := unfrozen y27 0
  have f1 := unfrozen y27 1
  have f2 := unfrozen y27 2
  have f3 := unfrozen y27 3
  have f4 := unfrozen y27 4
  have HX7 := Lib.hid (kd.then k3)
  clear y2d kd HX HR k1 k5 b0 k3
  go_wp2_with fail
  obtain ⟨y11, k11⟩ := set5 (.int .i64 0) (.int .i64 0) (.int .i64 0) (.int .i64 0) (.slice none 0 0) y27
  generalize ((((w3.setCell ⟨z + 1, 0, none⟩ (.int .i64 0)).setCell ⟨z + 1, 1, none⟩ (.int .i64 0)).setCell ⟨z + 1, 2, none⟩ (.int .i64 0)).setCell ⟨z + 1, 3, none⟩ (.int .i64 0)).setCell ⟨z + 1, 4, none⟩ (.slice none 0 0) = w8 at *
  have r0 := cell_is y11 0 rfl
  have r1 := cell_is y11 1 rfl
  have r2 := cell_is y11 2 rfl
  have r3 := cell_is y11 3 rfl
  have r4 := cell_is y11 4 rfl
  refine bodyPost_ret (v := .tuple #[.agg #[.int .i64 0, .int .i64 0, .int .i64 0, .int .i64 0, .slice none 0 0], .bool false]) (by simp [results, Tryz.results92, go_sem, r0, r1, r2, r3, r4]) rfl ?_
  refine ⟨rfl, (HX7.out).trans k11 (fun x hx hlt => ?_)⟩
  rw [List.mem_singleton] at hx
  omega
theorem SchM.same {w : World} {lw P na : Nat} {cl : Nat → Cln} {al : Value} {ev : Int} {cs : Array Value} {j : Nat} (h : SchM w lw P cl al na ev cs) : SchM w lw P (upd cl j { cl j with bv := (cl j).bv, bs := (cl j).bs }) al na ev cs := by
  have e : upd cl j { cl j with bv := (cl j).bv, bs := (cl j).bs } = cl := funext fun k => by
    by_cases h : k = j
    · subst h; rw [upd_same]
    · rw [upd_ne h]
  rw [e]
  exact h
theorem stoT {w : World} {lw : Nat} {d : Ids} {s : Gs} {g : Gd} (h : Sto w lw d s g) (T W rw Q V : Nat) : Sto w lw (dT d T W rw Q V) s g := ⟨h.store, h.slot, h.text, h.dev, h.mx, h.ap, h.keys, h.bnd, h.bndZ, h.slo, h.dlo⟩
theorem stoU {w : World} {lw : Nat} {d : Ids} {s : Gs} {g : Gd} {T W rw Q V : Nat} (h : Sto w lw (dT d T W rw Q V) s g) : Sto w lw d s g := ⟨h.store, h.slot, h.text, h.dev, h.mx, h.ap, h.keys, h.bnd, h.bndZ, h.slo, h.dlo⟩
/-- a client's first begin. -/
theorem SchM.first {w : World} {lw P na : Nat} {cl : Nat → Cln} {al : Value} {ev : Int} {cs : Array Value} {j Bb : Nat} {bs : List Nat} (h : SchM w lw P cl al na ev cs) (hj : j < 8) (hb : (cl j).bs = Bb :: bs) : ∃ gb cb, (cl j).bv = .slice (some ⟨gb, 0, none⟩) (bs.length + 1) cb ∧ w.cell? ⟨gb, 0, none⟩ = some (.pointer (some ⟨Bb, 0, none⟩)) := by
  have ho := h.ob j hj
  rw [hb] at ho
  rcases ho.2 with ⟨e, h0⟩ | ⟨g, cap, cur, e, hA, hg, hc1, hc2, hc3, ht⟩
  · cases h0
  · refine ⟨g, cap, e, cell_is hg 0 ?_⟩
    have : (cur.toList.take ((Bb :: bs).length * 1))[0]? = some (.pointer (some ⟨Bb, 0, none⟩)) := by rw [ht]; rfl
    rwa [List.getElem?_take_of_lt (by simp), Array.getElem?_toList] at this
/-- a transaction with one write. -/
def SWri (w0 : World) (lw : Nat) (d : Ids) (s : Gs) (g : Gd) (xs : List Wt) (bl : List (Nat × Array Value)) (bs0 : List Nat) (na0 z : Nat) (b : Int) (l : List UInt8) (bs : List Nat) (na : Nat) (w : World) : Prop :=
  ∃ T base W rw Q V v, bs = bs0 ∧ na = na0 ∧ OpnG w lw d s g T base W rw Q V (putQ (fun b => bytT (s.vs b) s.last) b l) [(b, v)] ∧ QAt w lw (begM s T) xs ∧ Low d xs T base ∧ Bes w0 lw bl w ∧ z ≤ T ∧ z ≤ base
theorem SWri.kept {w0 : World} {lw : Nat} {d : Ids} {s : Gs} {g : Gd} {xs : List Wt} {bl : List (Nat × Array Value)} {bs0 : List Nat} {na0 z : Nat} {b : Int} {l : List UInt8} : Kept lw (SWri w0 lw d s g xs bl bs0 na0 z b l) := fun bs na a b S h hc ht hl => by
  obtain ⟨T, base, W, rw, Q, V, v, h1, h2, h3, h4, h5, h6, h7⟩ := h
  exact ⟨T, base, W, rw, Q, V, v, h1, h2, h3.keep hc ht (by decide), QAt.tp h4 hc ht (by decide), h5, h6.tp hc ht (by decide) hl, h7⟩
set_option maxHeartbeats 1000000 in
/-- a client writes a block. -/
theorem do_wri (w w0 : World) {j K lw na Bb : Nat} {d : Ids} {s : Gs} {g : Gd} {cl : Nat → Cln} {al : Value} {ev : Int} {cs bc : Array Value} {xs : List Wt} {bl : List (Nat × Array Value)} {S : OpS} {pp : Option Addr} {pn pc z : Nat} {T base W rw Q V : Nat} {b : Int} {l : List UInt8} (hj : j < 8) (hop : S = ⟨3, 0, 0, 0, some (b, l)⟩) (h0 : 0 ≤ b) (h2 : b < 258) (hM : SchM w lw d.P cl al na ev cs) (hB : SchB w K cs) (hv : OpV w lw S [.int .i64 S.k, .int .i64 S.h, .int .i64 S.a, .int .i64 S.l, .slice pp pn pc])
    (hbs : (cl j).bs = [Bb]) (hbc : bc[0]? = some (.int .i64 (s.bl + 1))) (hbl : 0 ≤ s.bl) (hO : OpnG w lw d s g T base W rw Q V (fun b => bytT (s.vs b) s.last) []) (hq : QAt w lw (begM s T) xs) (hL : Low d xs T base) (hb : Bes w0 lw bl w) (hin : (Bb, bc) ∈ bl) (hz : z ≤ T ∧ z ≤ base) (hlw : lw ≤ w.heap.size) :
    Calls Tryz.prog 22 #[.pointer (some ⟨K, 0, none⟩), .pointer (some ⟨K, 2 + 4 * j, none⟩), .agg #[.int .i64 S.k, .int .i64 S.h, .int .i64 S.a, .int .i64 S.l, .slice pp pn pc]] w
      (DoR w K (PM lw d.P cl j ev (SWri w0 lw d s g xs bl (cl j).bs na z b l)) 3 0 0 0 true) := by
  subst hop
  have hBb := hb.bg _ hin
  obtain ⟨gb, cb, eb, g0⟩ := hM.first hj hbs
  have hcell := hM.cell j hj
  refine Co.do_call w (A := fun x => lw ≤ x) (kind := 3) (h := s.bl + 1) (Bb := Bb) (nb := 1) (Or.inl rfl) (fun x hx => Nat.le_trans hlw hx) (fun cs => PM.cl SWri.kept cs) (cell_is hB (2 + 4 * j + 1) (by rw [hcell.2.1, eb]; rfl)) (by decide) g0 (cell_is hBb 0 hbc) (by omega) (fun wy ky => ?_)
  obtain ⟨pv, epv, ⟨hn, -⟩ | ⟨b', dl', hp, E, cE, D, cD, ce, e1, -, -, e2, e3, e4, e5, e6, -⟩⟩ := hv.keepT ky (fun y hy => by cases hy)
  · cases hn
  cases hp
  subst e1
  simp at epv
  obtain ⟨rfl, rfl, rfl⟩ := epv
  have hf := hO.fr
  refine (Co.ccall_write wy (K := K) (Bb := Bb) (b := b) (d := dT d T W rw Q V) (p := begP s) (ky.heap hB (by simp)) hM.c1 (ky.heap hBb (by simp)) hbc hf (hO.1.keep hf ky) (cell_is e2 0 e3) (cell_is e2 1 e4) e5 e6 h0 h2 (by simp)).mono ?_
  rintro e w' ⟨rfl, hOw, v, hSu⟩
  have hqy := hq.keep ky
  refine ⟨rfl, cs, ⟨(cl j).bv, (cl j).bs, al, na, ((hM.keep0 ky).ow hOw).same, T, base, W, rw, Q, V, v, rfl, rfl, ⟨hSu, hO.2⟩, ?_, hL, (hb.keep0 ky).ow hOw hO.2.2.2, hz⟩, hOw.heap (ky.heap hB (by simp)) ⟨by decide, by decide, by decide⟩, fun y cs hy => hOw.heap hy ⟨by decide, by decide, by decide⟩⟩
  obtain ⟨U, u1, u2⟩ := hOw
  exact hqy.keepA u1 (fun x hx cs t fr hh hm => by
    rcases (u2 x hx).2 cs t fr hh with rfl | rfl | rfl <;> exact absurd hm (by decide)) (fun x hx hm => by
    have h3 := (u2 _ hm).1
    have h4 := (hL x hx).2.1
    omega)
/-- a transaction asks to be committed. -/
def SAsk (w0 : World) (lw : Nat) (d : Ids) (s : Gs) (g : Gd) (xs : List Wt) (bl : List (Nat × Array Value)) (bs0 : List Nat) (na0 _z k : Nat) (b : Int) (l : List UInt8) (bs : List Nat) (na : Nat) (w : World) : Prop :=
  ∃ T W rw Q V v gq cq, bs = bs0 ∧ na = na0 ∧ Sto w lw (dT d T W rw Q V) (comQ (begM s T) gq (xs.length + 1) cq) g ∧ QAt w lw (comQ (begM s T) gq (xs.length + 1) cq) (xs ++ [wtOf (dT d T W rw Q V) (begP s) k b v (putQ (fun b => bytT (s.vs b) s.last) b l)]) ∧ Bes w0 lw bl w ∧ (∀ x ∈ xs, x.T ≠ T) ∧ rw ≠ d.rb ∧ rw ≠ d.r ∧ lw ≤ T
theorem SAsk.kept {w0 : World} {lw : Nat} {d : Ids} {s : Gs} {g : Gd} {xs : List Wt} {bl : List (Nat × Array Value)} {bs0 : List Nat} {na0 z k : Nat} {b : Int} {l : List UInt8} : Kept lw (SAsk w0 lw d s g xs bl bs0 na0 z k b l) := fun bs na a b S h hc ht hl => by
  obtain ⟨T, W, rw, Q, V, v, gq, cq, h1, h2, h3, h4, h5, h6⟩ := h
  exact ⟨T, W, rw, Q, V, v, gq, cq, h1, h2, h3.keepA hc (ht.av (by decide)) (ht.map h3.mx.ver.m) (ht.map h3.mx.book.2) (ht.map h3.mx.map), QAt.tp h4 hc ht (by decide), h5.tp hc ht (by decide) hl, h6⟩
set_option maxHeartbeats 1000000 in
/-- a client asks to commit: it waits. -/
theorem do_ask (w w0 : World) {j K lw na Bb k : Nat} {d : Ids} {s : Gs} {g : Gd} {cl : Nat → Cln} {al : Value} {ev : Int} {cs bc : Array Value} {xs : List Wt} {bl : List (Nat × Array Value)} {S : OpS} {pp : Option Addr} {pn pc z : Nat} {T base W rw Q V : Nat} {b : Int} {v : Value} {l : List UInt8} (hj : j < 8) (hop : S = ⟨4, 0, 0, 0, none⟩) (h0 : 0 ≤ b) (h2 : b < 258) (hM : SchM w lw d.P cl al na ev cs) (hB : SchB w K cs)
    (hbs : (cl j).bs = [Bb]) (hfl : (cl j).q = false) (hbc : bc[0]? = some (.int .i64 (s.bl + 1))) (hbl : 0 ≤ s.bl) (hO : OpnG w lw d s g T base W rw Q V (putQ (fun b => bytT (s.vs b) s.last) b l) [(b, v)]) (hq : QAt w lw (begM s T) xs) (hL : Low d xs T base) (hb : Bes w0 lw bl w) (hin : (Bb, bc) ∈ bl) (hlw : lw ≤ w.heap.size)
    (hn1 : xs.length ≤ 1000) (hxb : ∀ x ∈ xs, ∀ p ∈ putsL x.L x.D, p.1 ≠ b) (hrd : s.rd = false) (ho : OldV s.Lv s.vs s.last) (hg : s.given + 1 = (k : Nat)) (hg1 : s.given < 1099511627776) (hg0 : 0 ≤ s.given) :
    Calls Tryz.prog 22 #[.pointer (some ⟨K, 0, none⟩), .pointer (some ⟨K, 2 + 4 * j, none⟩), .agg #[.int .i64 S.k, .int .i64 S.h, .int .i64 S.a, .int .i64 S.l, .slice pp pn pc]] w
      (DoR w K (PM lw d.P cl j ev (SAsk w0 lw d s g xs bl (cl j).bs na z k b l)) 0 0 0 0 false) := by
  subst hop
  have hBb := hb.bg _ hin
  obtain ⟨gb, cb, eb, g0⟩ := hM.first hj hbs
  have hcell := hM.cell j hj
  refine Co.do_call w (A := fun x => lw ≤ x) (kind := 4) (h := s.bl + 1) (Bb := Bb) (nb := 1) (Or.inr rfl) (fun x hx => Nat.le_trans hlw hx) (fun cs => PM.cl SAsk.kept cs) (cell_is hB (2 + 4 * j + 1) (by rw [hcell.2.1, eb]; rfl)) (by decide) g0 (cell_is hBb 0 hbc) (by omega) (fun wy ky => ?_)
  refine Co.ccall_c wy (A := fun x => lw ≤ x) (fun x hx => Nat.le_trans (Nat.le_trans hlw ky.size) hx) (fun cs => PM.cl SAsk.kept cs) (fun wz kz => ?_)
  have kyz := ky.then kz
  have hf := hO.fr
  have hOz := hO.1.keep hf kyz
  have hqz := hq.keep kyz
  have htab : getL (begM s T).Lr (begP s).h = some (.pointer (some ⟨(dT d T W rw Q V).T, 0, none⟩)) := by
    show getL (putL s.Lr (s.bl + 1) (.pointer (some ⟨T, 0, none⟩))) (s.bl + 1) = _
    rw [getL_put, if_pos rfl]
    rfl
  obtain ⟨pq, cq, eqv, -⟩ := own_form hqz.q
  refine (commit_askM wz (k := k) (K := K) (Bb := Bb) (d := dT d T W rw Q V) (s := begM s T) (p := begP s) (oo := 2 + 4 * j) (xs := xs) (kyz.heap hB (by simp)) hM.c1 (by rw [hcell.2.2.2, hfl]) (kyz.heap hBb (by simp)) hbc hf hOz htab (Nat.le_trans hlw kyz.size) hO.2.2.1 (fun wv kv =>
    scommit_many wv (pq := pq) (cq := cq) (nq := xs.length) (k := k) hf (hO.1.keep hf (kyz.then kv)) eqv (by
      have := (hqz.keep kv).q
      rw [eqv] at this
      exact this) rfl hn1 (fun x hx => ⟨(hqz.keep kv).wt x hx, Nat.ne_of_lt (hL x hx).1⟩) hxb hrd ho hg hg1 hg0 h0 h2 htab hO.2.2.1)).mono ?_
  rintro e w' ⟨rfl, gq, cq', hS', hQ', hcs'⟩
  refine ⟨rfl, cs, ⟨(cl j).bv, (cl j).bs, al, na, ((hM.keep0 kyz).cs_ hcs').same, T, W, rw, Q, V, v, gq, cq', rfl, rfl, hS', hQ', (hb.keep0 kyz).cs_ hcs', fun x hx => Nat.ne_of_lt (hL x hx).1, ?_, ?_, hO.2.2.1⟩, hcs'.heap (kyz.heap hB (by simp)) (by decide), fun y cs hy => hcs'.heap hy (by decide)⟩
  · have h5 : base ≤ rw := hO.1.high.2.2
    have := hO.2.1
    omega
  · have h5 : base ≤ rw := hO.1.high.2.2
    have := hO.2.1
    omega
set_option maxHeartbeats 1000000 in
/-- a client whose transaction waits asks again. -/
theorem do_again (w : World) {j K lw na Bb : Nat} {d : Ids} {s : Gs} {g : Gd} {cl : Nat → Cln} {al : Value} {ev : Int} {cs bc : Array Value} {S : OpS} {pp : Option Addr} {pn pc : Nat} {x : Wt} {S1 : List Nat → Nat → World → Prop} (hj : j < 8) (hop : S = ⟨4, 0, 0, 0, none⟩) (hM : SchM w lw d.P cl al na ev cs) (hB : SchB w K cs)
    (hbs : (cl j).bs = [Bb]) (hfl : (cl j).q = true) (hbc : bc[0]? = some (.int .i64 x.h)) (hh : 0 < x.h) (hS : Sto w lw d s g) (hx : WtOk w s.Lr x) (hBb : w.heap[Bb]? = some (.cells bc 85 (0, 0))) (hlw : lw ≤ w.heap.size) (hS1 : Kept lw S1) (h1 : ∀ w', Chg [] w w' → S1 (cl j).bs na w') :
    Calls Tryz.prog 22 #[.pointer (some ⟨K, 0, none⟩), .pointer (some ⟨K, 2 + 4 * j, none⟩), .agg #[.int .i64 S.k, .int .i64 S.h, .int .i64 S.a, .int .i64 S.l, .slice pp pn pc]] w
      (DoR w K (PM lw d.P cl j ev S1) 0 0 0 0 false) := by
  subst hop
  obtain ⟨gb, cb, eb, g0⟩ := hM.first hj hbs
  have hcell := hM.cell j hj
  refine Co.do_call w (A := fun x => lw ≤ x) (kind := 4) (h := x.h) (Bb := Bb) (nb := 1) (Or.inr rfl) (fun x hx => Nat.le_trans hlw hx) (fun cs => PM.cl hS1 cs) (cell_is hB (2 + 4 * j + 1) (by rw [hcell.2.1, eb]; rfl)) (by decide) g0 (cell_is hBb 0 hbc) hh (fun wy ky => ?_)
  refine Co.ccall_c wy (A := fun x => lw ≤ x) (fun x hx => Nat.le_trans (Nat.le_trans hlw ky.size) hx) (fun cs => PM.cl hS1 cs) (fun wz kz => ?_)
  have kyz := ky.then kz
  have hxz := hx.keep kyz
  refine (commit_again wz (K := K) (Bb := Bb) (d := d) (s := s) (oo := 2 + 4 * j) (T := x.T) (k := x.k) (kyz.heap hB (by simp)) hM.c1 (by rw [hcell.2.2.2, hfl]) (kyz.heap hBb (by simp)) hbc (hS.keep kyz) hx.tab (cell_is hxz.tx 0 rfl) (cell_is hxz.tx 1 rfl) (cell_is hxz.tx 2 rfl)).mono ?_
  rintro e w' ⟨rfl, kw⟩
  have kall := kyz.then kw
  exact ⟨rfl, cs, ⟨(cl j).bv, (cl j).bs, al, na, (hM.keep0 kall).same, h1 _ kall⟩, kall.heap hB (by simp), fun y cs hy => kw.heap hy (by simp)⟩
set_option maxHeartbeats 1000000 in
/-- a client is told that its transaction is committed. -/
theorem do_told (w : World) {j K lw na Bb T : Nat} {d : Ids} {s : Gs} {g : Gd} {cl : Nat → Cln} {al : Value} {ev h k x2 : Int} {cs bc : Array Value} {S : OpS} {pp : Option Addr} {pn pc : Nat} {S1 : List Nat → Nat → World → Prop} (hj : j < 8) (hop : S = ⟨4, 0, 0, 0, none⟩) (hM : SchM w lw d.P cl al na ev cs) (hB : SchB w K cs)
    (hbs : (cl j).bs = [Bb]) (hfl : (cl j).q = true) (hbc : bc[0]? = some (.int .i64 h)) (hb2 : bc[2]? = some (.int .i64 x2)) (hh : 0 < h) (hS : Sto w lw d s g) (htab : getL s.Lr h = some (.pointer (some ⟨T, 0, none⟩))) (t0 : w.cell? ⟨T, 0, none⟩ = some (.int .i64 3)) (t1 : w.cell? ⟨T, 1, none⟩ = some (.int .i64 k)) (t2 : w.cell? ⟨T, 2, none⟩ = some (.int .i64 0)) (hBb : w.heap[Bb]? = some (.cells bc 85 (0, 0))) (hlw : lw ≤ w.heap.size) (hS1 : Kept lw S1)
    (h1 : ∀ w', Chg [Bb] w w' → w'.heap[Bb]? = some (.cells (bc.setIfInBounds 2 (.int .i64 ev)) 85 (0, 0)) → Sto w' lw d s g → S1 (cl j).bs na w') :
    Calls Tryz.prog 22 #[.pointer (some ⟨K, 0, none⟩), .pointer (some ⟨K, 2 + 4 * j, none⟩), .agg #[.int .i64 S.k, .int .i64 S.h, .int .i64 S.a, .int .i64 S.l, .slice pp pn pc]] w
      (DoR w K (PM lw d.P cl j ev S1) 4 0 0 k true) := by
  subst hop
  obtain ⟨gb, cb, eb, g0⟩ := hM.first hj hbs
  have hcell := hM.cell j hj
  refine Co.do_call w (A := fun x => lw ≤ x) (kind := 4) (h := h) (Bb := Bb) (nb := 1) (Or.inr rfl) (fun x hx => Nat.le_trans hlw hx) (fun cs => PM.cl hS1 cs) (cell_is hB (2 + 4 * j + 1) (by rw [hcell.2.1, eb]; rfl)) (by decide) g0 (cell_is hBb 0 hbc) hh (fun wy ky => ?_)
  refine Co.ccall_c wy (A := fun x => lw ≤ x) (fun x hx => Nat.le_trans (Nat.le_trans hlw ky.size) hx) (fun cs => PM.cl hS1 cs) (fun wz kz => ?_)
  have kyz := ky.then kz
  refine (commit_toldM wz (K := K) (Bb := Bb) (lw := lw) (d := dT d T 0 0 0 0) (s := s) (g := g) (oo := 2 + 4 * j) (h := h) (k := k) (x2 := x2) (kyz.heap hB (by simp)) hM.c1 (by rw [hcell.2.2.2, hfl]) hM.c35 (kyz.heap hBb (by simp)) hbc hb2 (stoT (hS.keep kyz) T 0 0 0 0) htab (kyz.cell t0 (by simp)) (kyz.cell t1 (by simp)) (kyz.cell t2 (by simp))).mono ?_
  rintro e w' ⟨rfl, hS', hc, hbb⟩
  have kall : Chg [Bb] w w' := (kyz.mono (fun x hx _ => by cases hx)).then hc
  have tB : Tp w [Bb] [85] := fun y hy => by
    rw [List.mem_singleton] at hy
    subst hy
    exact ⟨_, _, hBb, by simp⟩
  have hKB : K ∉ [Bb] := by
    intro hm
    rw [List.mem_singleton] at hm
    exact heap_ne hB hBb (by simp) hm
  refine ⟨rfl, cs, ⟨(cl j).bv, (cl j).bs, al, na, (hM.tp kall tB (by decide)).same, h1 _ kall hbb (stoU hS')⟩, kall.heap hB hKB, fun y cs hy => hc.heap hy (fun hm => ?_)⟩
  rw [List.mem_singleton] at hm
  subst hm
  rw [kyz.heap hBb (by simp)] at hy
  cases hy
end Go.Proofs.YtliicpedddcfiaaGreat.Sw
namespace Go.Proofs.YtliicpedddcfiaaGreat.Sw
open Go.RowKit Go.Lib

/-- the places: the start, below what nothing changes, the schedule, the store's blocks. -/
structure Pl3 where
  w0 : World
  lw : Nat
  K : Nat
  d : Ids
  ops : Int
  hK : lw ≤ K
  hw : lw ≤ w0.heap.size
  ho : 0 ≤ ops ∧ ops ≤ 2
/-- the store's counts while clients wait. -/
def sW (lw : Nat) (bl gv : Int) (qv : Value) (Lb Lr : List (Int × Value)) : Gs := ⟨qv, 0, 0, 0, 0, gv, false, lw, 0, [], fun _ => [], bl, Lb, Lr⟩
theorem begM_sW {lw T : Nat} {bl gv : Int} {qv : Value} {Lb Lr : List (Int × Value)} : begM (sW lw bl gv qv Lb Lr) T = sW lw (bl + 1) gv qv (putL Lb (bl + 1) (.int .i64 0)) (putL Lr (bl + 1) (.pointer (some ⟨T, 0, none⟩))) := rfl
theorem comQ_sW {lw g n c : Nat} {bl gv : Int} {qv : Value} {Lb Lr : List (Int × Value)} : comQ (sW lw bl gv qv Lb Lr) g n c = sW lw bl (gv + 1) (.slice (some ⟨g, 0, none⟩) n c) Lb Lr := rfl
theorem mem_putL {L : List (Int × Value)} {k : Int} {v : Value} {p : Int × Value} (h : p ∈ putL L k v) : p = (k, v) ∨ p ∈ L := by
  induction L with
  | nil => simp [putL] at h; exact Or.inl h
  | cons q l ih =>
    simp only [putL] at h
    split at h
    · rcases List.mem_cons.1 h with h | h
      · exact Or.inl h
      · exact Or.inr (List.mem_cons_of_mem _ h)
    · rcases List.mem_cons.1 h with h | h
      · exact Or.inr (h ▸ List.mem_cons_self)
      · rcases ih h with h | h
        · exact Or.inl h
        · exact Or.inr (List.mem_cons_of_mem _ h)
structure LbOk (i : Nat) (L : List (Int × Value)) : Prop where
  key : ∀ p ∈ L, 0 ≤ p.1 ∧ p.1 ≤ (i : Int)
  len : L.length ≤ i
  get : ∀ h : Int, 1 ≤ h → h ≤ i → getL L h = some (.int .i64 0)
theorem LbOk.more {i : Nat} {L : List (Int × Value)} (h : LbOk i L) : LbOk (i + 1) (putL L ((i : Int) + 1) (.int .i64 0)) := by
  refine ⟨fun p hp => ?_, ?_, fun k h1 h2 => ?_⟩
  · rcases mem_putL hp with rfl | hp
    · exact ⟨by show (0 : Int) ≤ (i : Int) + 1; omega, by show (i : Int) + 1 ≤ ((i + 1 : Nat) : Int); omega⟩
    · have := h.key p hp
      exact ⟨this.1, by omega⟩
  · have := putL_len L ((i : Int) + 1) (.int .i64 0)
    have := h.len
    omega
  · rw [getL_put]
    by_cases e : k = (i : Int) + 1
    · rw [if_pos e]
    · rw [if_neg e]
      exact h.get k h1 (by omega)
/-- those that wait. -/
structure WtsOk (x : Pl3) (i : Nat) (xs : List Wt) : Prop where
  len : xs.length = i
  at_ : ∀ a (h : a < xs.length), xs[a].h = (a : Int) + 1 ∧ xs[a].k = a + 1 ∧ ∃ v, xs[a].L = [((a : Int) + 1, v)]
  nd : (xs.map (·.T)).Nodup
  low : ∀ y ∈ xs, y.rw ≠ x.d.rb ∧ y.rw ≠ x.d.r ∧ x.lw ≤ y.T
theorem WtsOk.mem {x : Pl3} {i : Nat} {xs : List Wt} (h : WtsOk x i xs) {y : Wt} (hy : y ∈ xs) : ∃ a : Nat, a < i ∧ y.h = (a : Int) + 1 ∧ y.k = a + 1 ∧ ∃ v, y.L = [((a : Int) + 1, v)] := by
  obtain ⟨a, ha, rfl⟩ := List.getElem_of_mem hy
  exact ⟨a, by have := h.len; omega, h.at_ a ha⟩
theorem putsL_one (k : Int) (v : Value) (D : Int → List UInt8) : putsL [(k, v)] D = [(k, D k)] := by simp [putsL, sortI]
theorem WtsOk.more {x : Pl3} {i : Nat} {xs : List Wt} (h : WtsOk x i xs) {y : Wt} (hh : y.h = (i : Int) + 1) (hk : y.k = i + 1) (hL : ∃ v, y.L = [((i : Int) + 1, v)]) (hT : ∀ z ∈ xs, z.T ≠ y.T) (hl : y.rw ≠ x.d.rb ∧ y.rw ≠ x.d.r ∧ x.lw ≤ y.T) : WtsOk x (i + 1) (xs ++ [y]) := by
  have hn := h.len
  refine ⟨by rw [List.length_append, hn]; rfl, fun a ha => ?_, ?_, fun z hz => ?_⟩
  · by_cases e : a < xs.length
    · rw [List.getElem_append_left e]
      exact h.at_ a e
    · have e2 : a = i := by rw [List.length_append] at ha; simp at ha; omega
      subst e2
      rw [List.getElem_append_right (by omega)]
      simp only [hn, Nat.sub_self, List.getElem_cons_zero]
      exact ⟨hh, hk, hL⟩
  · rw [List.map_append, List.nodup_append]
    refine ⟨h.nd, by simp, fun a ha b hb => ?_⟩
    obtain ⟨z, hz, rfl⟩ := List.mem_map.1 ha
    simp at hb
    subst hb
    exact hT z hz
  · rcases List.mem_append.1 hz with hz | hz
    · exact h.low z hz
    · rw [List.mem_singleton] at hz
      subst hz
      exact hl
def opB : OpS := ⟨1, 0, 0, 0, none⟩
def opC : OpS := ⟨4, 0, 0, 0, none⟩
def opW (a : Nat) (l : List UInt8) : OpS := ⟨3, 0, 0, 0, some ((a : Int) + 1, l)⟩
/-- a client that waits. -/
def Wtg (bl : List (Nat × Array Value)) (a : Nat) (c : Cln) : Prop := c.ss = [opC, opB] ∧ c.na = 2 ∧ c.q = true ∧ ∃ Bb f, c.bs = [Bb] ∧ (Bb, begC ((a : Int) + 1) f 0) ∈ bl
/-- a client that nobody asked. -/
def Idle (c : Cln) : Prop := c.o = .slice none 0 0 ∧ c.ss = [] ∧ c.bs = [] ∧ c.na = 0 ∧ c.q = false
theorem Wtg.more {bl bl' : List (Nat × Array Value)} {a : Nat} {c : Cln} (h : Wtg bl a c) (hs : ∀ p ∈ bl, p ∈ bl') : Wtg bl' a c := by
  obtain ⟨h1, h2, h3, Bb, f, h4, h5⟩ := h
  exact ⟨h1, h2, h3, Bb, f, h4, hs _ h5⟩
/-- the clients ahead wait, those behind are idle, the one at hand is as told. -/
structure CI (i : Nat) (ss : List OpS) (bs : List Nat) (na : Nat) (q : Bool) (bl : List (Nat × Array Value)) (cl : Nat → Cln) : Prop where
  done : ∀ a, a < i → Wtg bl a (cl a)
  own : (cl i).ss = ss ∧ (cl i).bs = bs ∧ (cl i).na = na ∧ (cl i).q = q
  rest : ∀ a, i < a → a < 8 → Idle (cl a)
theorem CI.upd {i : Nat} {ss ss' : List OpS} {bs bs' : List Nat} {na na' : Nat} {q q' : Bool} {bl bl' : List (Nat × Array Value)} {cl : Nat → Cln} (h : CI i ss bs na q bl cl) (hs : ∀ p ∈ bl, p ∈ bl') {c : Cln} (hc : c.ss = ss' ∧ c.bs = bs' ∧ c.na = na' ∧ c.q = q') : CI i ss' bs' na' q' bl' (upd cl i c) := by
  refine ⟨fun a ha => ?_, by rw [upd_same]; exact hc, fun a h1 h2 => ?_⟩
  · rw [upd_ne (by omega)]; exact (h.done a ha).more hs
  · rw [upd_ne (by omega)]; exact h.rest a h1 h2
/-- a schedule whose first i clients wait. -/
structure Core (x : Pl3) (i : Nat) (qv : Value) (Lb Lr : List (Int × Value)) (xs : List Wt) : Prop where
  lb : LbOk i Lb
  wts : WtsOk x i xs
def Wst (x : Pl3) (i : Nat) (e : Int) (w : World) : Prop := ∃ qv Lb Lr xs cl bl ev, Core x i qv Lb Lr xs ∧ SchG w x.lw x.K x.d.P cl i ev ∧ Sto w x.lw x.d (sW x.lw i i qv Lb Lr) (g00 x.lw x.ops) ∧ QAt w x.lw (sW x.lw i i qv Lb Lr) xs ∧
  (∀ a, a < i → Wtg bl a (cl a)) ∧ (∀ a, i ≤ a → a < 8 → Idle (cl a)) ∧ Bes x.w0 x.lw bl w ∧ 0 ≤ ev ∧ ev ≤ e
/-- the next client has its ops. -/
def WA (x : Pl3) (i : Nat) (l : List UInt8) (e : Int) (w : World) : Prop := ∃ qv Lb Lr xs cl bl ev, Core x i qv Lb Lr xs ∧ SchG w x.lw x.K x.d.P cl i ev ∧ Sto w x.lw x.d (sW x.lw i i qv Lb Lr) (g00 x.lw x.ops) ∧ QAt w x.lw (sW x.lw i i qv Lb Lr) xs ∧
  CI i [opB, opW i l, opC, opB] [] 0 false bl cl ∧ Bes x.w0 x.lw bl w ∧ 0 ≤ ev ∧ ev ≤ e
/-- it has begun. -/
def WB (x : Pl3) (i : Nat) (l : List UInt8) (e : Int) (w : World) : Prop := ∃ qv Lb Lr xs cl bl ev T base W rw Q V Bb f, Core x i qv Lb Lr xs ∧ SchG w x.lw x.K x.d.P cl (i + 1) ev ∧ OpnG w x.lw x.d (sW x.lw i i qv Lb Lr) (g00 x.lw x.ops) T base W rw Q V (fun _ => bytT [] 0) [] ∧ QAt w x.lw (begM (sW x.lw i i qv Lb Lr) T) xs ∧ Low x.d xs T base ∧
  CI i [opW i l, opC, opB] [Bb] 1 false bl cl ∧ (Bb, begC ((i : Int) + 1) f 0) ∈ bl ∧ Bes x.w0 x.lw bl w ∧ 0 ≤ ev ∧ ev ≤ e
/-- it has written. -/
def WC (x : Pl3) (i : Nat) (l : List UInt8) (e : Int) (w : World) : Prop := ∃ qv Lb Lr xs cl bl ev T base W rw Q V Bb f v, Core x i qv Lb Lr xs ∧ SchG w x.lw x.K x.d.P cl (i + 1) ev ∧ OpnG w x.lw x.d (sW x.lw i i qv Lb Lr) (g00 x.lw x.ops) T base W rw Q V (putQ (fun _ => bytT [] 0) ((i : Int) + 1) l) [((i : Int) + 1, v)] ∧ QAt w x.lw (begM (sW x.lw i i qv Lb Lr) T) xs ∧ Low x.d xs T base ∧
  CI i [opC, opB] [Bb] 2 false bl cl ∧ (Bb, begC ((i : Int) + 1) f 0) ∈ bl ∧ Bes x.w0 x.lw bl w ∧ 0 ≤ ev ∧ ev ≤ e
theorem Up.size {lw : Nat} {w0 w : World} (h : Up lw w0 w) : w0.heap.size ≤ w.heap.size := by
  obtain ⟨U, h1, -⟩ := h
  exact h1.size
theorem Bes.size {x : Pl3} {bl : List (Nat × Array Value)} {w : World} (h : Bes x.w0 x.lw bl w) : x.lw ≤ w.heap.size := Nat.le_trans x.hw (Up.size h.up)
theorem Wst.size {x : Pl3} {i : Nat} {e : Int} {w : World} (h : Wst x i e w) : x.lw ≤ w.heap.size := by
  obtain ⟨_, _, _, _, _, _, _, -, -, -, -, -, -, hb, -⟩ := h
  exact Bes.size hb
theorem Wst.keep0 {x : Pl3} {i : Nat} {e : Int} {w w' : World} (h : Wst x i e w) (hc : Chg [] w w') : Wst x i e w' := by
  obtain ⟨qv, Lb, Lr, xs, cl, bl, ev, h1, h2, h3, h4, h5, h6, h7, h8⟩ := h
  exact ⟨qv, Lb, Lr, xs, cl, bl, ev, h1, h2.keep0 hc, h3.keep hc, h4.keep hc, h5, h6, h7.keep0 hc, h8⟩
set_option maxHeartbeats 1000000 in
/-- Add. -/
theorem sw_add (x : Pl3) (w : World) {i E c : Nat} {e : Int} {l : List UInt8} (hi : i < 8) (h : Wst x i e w) (hE : OpsG w E [opB, opW i l, opC, opB]) :
    Calls Tryz.prog 8 #[.pointer (some ⟨x.K, 0, none⟩), .int .i64 ((i + 1 : Nat) : Int), .slice (some ⟨E, 0, none⟩) 4 c] w fun e' w' => e' = .returned (.int .i64 0) ∧ WA x i l e w' := by
  have hsz := h.size
  obtain ⟨qv, Lb, Lr, xs, cl, bl, ev, h1, h2, h3, h4, h5, h6, h7, h8⟩ := h
  have hI := h6 i (Nat.le_refl _) hi
  refine (add_gen w (c := c) (ss := [opB, opW i l, opC, opB]) hi h2 hI.2.1 hI.1 hE x.hK hsz (by simp)).mono ?_
  rintro e' w' ⟨rfl, o', hG, hc⟩
  obtain ⟨al, cs, -, hB, -⟩ := h2
  have tK := chgK hB
  refine ⟨rfl, qv, Lb, Lr, xs, _, bl, ev, h1, hG, h3.keepA hc (tK.av (by decide)) (tK.map h3.mx.ver.m) (tK.map h3.mx.book.2) (tK.map h3.mx.map), QAt.tp h4 hc tK (by decide), ⟨fun a ha => ?_, ?_, fun a a1 a2 => ?_⟩, h7.tp hc tK (by decide) (fun y hy => by rw [List.mem_singleton] at hy; rw [hy]; exact x.hK), h8⟩
  · rw [upd_ne (by omega)]; exact h5 a ha
  · rw [upd_same]; exact ⟨rfl, hI.2.2⟩
  · rw [upd_ne (by omega)]; exact h6 a (by omega) a2
set_option maxHeartbeats 1000000 in
/-- it begins. -/
theorem sw_beg (x : Pl3) (w : World) {i : Nat} {e : Int} {l : List UInt8} (hi : i < 7) (he : e ≤ 1000000) (h : WA x i l e w) :
    Calls Tryz.prog 10 #[.pointer (some ⟨x.K, 0, none⟩), .int .i64 ((i + 1 : Nat) : Int)] w fun e' w' => (∃ v, e' = .returned v) ∧ WB x i l (e + 1) w' := by
  obtain ⟨qv, Lb, Lr, xs, cl, bl, ev, h1, h2, h3, h4, h5, h6, h7, h8⟩ := h
  have hsz := h6.size
  have hlb := h1.lb.len
  refine (told_gen w (j := i) (S1 := SBeg (fun _ => True) x.w0 x.lw x.d (sW x.lw i i qv Lb Lr) (g00 x.lw x.ops) xs bl (ev + 1) (cl i).bs i 0) (x0 := 1) (x1 := 0) (x2 := (cl i).bs.length) (x3 := 0) (by omega) h2 h5.own.1 ⟨h7, by omega⟩ x.hK hsz (by rw [h5.own.2.2.1]; decide) (SBeg.kept RK.true_) (fun wx cs1 al pp pn pc kx hBx hMx hov => ?_)).mono ?_
  · obtain ⟨al0, cs0, -, hB, -⟩ := h2
    have tK := chgK hB
    exact do_beg wx x.w0 RK.true_ trivial (s := sW x.lw i i qv Lb Lr) (xs := xs) (bl := bl) (by omega) rfl hMx hBx hov (h3.keepA kx (tK.av (by decide)) (tK.map h3.mx.ver.m) (tK.map h3.mx.book.2) (tK.map h3.mx.map)) (QAt.tp h4 kx tK (by decide))
      (fun y hy => by
        obtain ⟨a, ha, e1, -⟩ := h1.wts.mem hy
        have e2 := h1.wts.low y hy
        refine ⟨?_, e2.1, e2.2.1⟩
        show y.h ≠ (i : Int) + 1
        omega) (h6.tp kx tK (by decide) (fun y hy => by rw [List.mem_singleton] at hy; rw [hy]; exact x.hK)) x.hK (Nat.le_trans hsz kx.size) (Nat.zero_le _) (by rw [h5.own.2.1]; decide) (by omega)
      (fun p hp => by have := h1.lb.key p hp; exact ⟨this.1, by omega⟩) (by show Lb.length < 16; omega) (show (0 : Int) ≤ 0 by decide) (show (0 : Int) ≤ 1099511627776 by decide) (show (0 : Int) ≤ (i : Int) by omega) (show (i : Int) ≤ 1000000 by omega)
  · rintro e' w' ⟨rfl, c, na', hG, c1, c2, c3, T, base, W, rw, Q, V, Bb, b1, rfl, hO, hQ, hL, hBs, -, -⟩
    rw [h5.own.2.1] at b1
    refine ⟨⟨_, rfl⟩, qv, Lb, Lr, xs, _, _, ev + 1, T, base, W, rw, Q, V, Bb, ev + 1, h1, hG, hO, hQ, hL, h5.upd (fun p hp => List.mem_cons_of_mem _ hp) ⟨c1, b1, by rw [c2, h5.own.2.2.1], c3⟩, List.mem_cons_self, hBs, by omega, by omega⟩
set_option maxHeartbeats 1000000 in
/-- it writes. -/
theorem sw_wri (x : Pl3) (w : World) {i : Nat} {e : Int} {l : List UInt8} (hi : i < 7) (he : e ≤ 1000000) (h : WB x i l e w) :
    Calls Tryz.prog 10 #[.pointer (some ⟨x.K, 0, none⟩), .int .i64 ((i + 1 : Nat) : Int)] w fun e' w' => (∃ v, e' = .returned v) ∧ WC x i l (e + 1) w' := by
  obtain ⟨qv, Lb, Lr, xs, cl, bl, ev, T, base, W, rw, Q, V, Bb, f, h1, h2, h3, h4, hL, h5, hin, h6, h7, h8⟩ := h
  have hsz := h6.size
  refine (told_gen w (j := i) (S1 := SWri x.w0 x.lw x.d (sW x.lw i i qv Lb Lr) (g00 x.lw x.ops) xs bl (cl i).bs (i + 1) 0 ((i : Int) + 1) l) (x0 := 3) (x1 := 0) (x2 := 0) (x3 := 0) (by omega) h2 h5.own.1 ⟨h7, by omega⟩ x.hK hsz (by rw [h5.own.2.2.1]; decide) SWri.kept (fun wx cs1 al pp pn pc kx hBx hMx hov => ?_)).mono ?_
  · obtain ⟨al0, cs0, -, hB, -⟩ := h2
    have tK := chgK hB
    exact do_wri wx x.w0 (Bb := Bb) (bc := begC ((i : Int) + 1) f 0) (s := sW x.lw i i qv Lb Lr) (xs := xs) (bl := bl) (by omega) rfl (by omega) (by omega) hMx hBx hov h5.own.2.1 rfl (show (0 : Int) ≤ (i : Int) by omega) (h3.keep kx tK (by decide)) (QAt.tp h4 kx tK (by decide)) hL
      (h6.tp kx tK (by decide) (fun y hy => by rw [List.mem_singleton] at hy; rw [hy]; exact x.hK)) hin ⟨Nat.zero_le _, Nat.zero_le _⟩ (Nat.le_trans hsz kx.size)
  · rintro e' w' ⟨rfl, c, na', hG, c1, c2, c3, T, base, W, rw, Q, V, v, b1, rfl, hO, hQ, hL, hBs, -, -⟩
    rw [h5.own.2.1] at b1
    refine ⟨⟨_, rfl⟩, qv, Lb, Lr, xs, _, _, ev + 1, T, base, W, rw, Q, V, Bb, f, v, h1, hG, hO, hQ, hL, h5.upd (fun p hp => hp) ⟨c1, b1, by rw [c2, h5.own.2.2.1], c3⟩, hin, hBs, by omega, by omega⟩
set_option maxHeartbeats 1000000 in
/-- it asks to commit. -/
theorem sw_ask (x : Pl3) (w : World) {i : Nat} {e : Int} {l : List UInt8} (hi : i < 7) (he : e ≤ 1000000) (h : WC x i l e w) :
    Calls Tryz.prog 10 #[.pointer (some ⟨x.K, 0, none⟩), .int .i64 ((i + 1 : Nat) : Int)] w fun e' w' => e' = .returned (.tuple #[.agg #[.int .i64 0, .int .i64 0, .int .i64 0, .int .i64 0, .slice none 0 0], .int .i64 16]) ∧ Wst x (i + 1) (e + 1) w' := by
  obtain ⟨qv, Lb, Lr, xs, cl, bl, ev, T, base, W, rw, Q, V, Bb, f, v, h1, h2, h3, h4, hL, h5, hin, h6, h7, h8⟩ := h
  have hsz := h6.size
  have hn := h1.wts.len
  refine (wait_gen w (j := i) (S1 := SAsk x.w0 x.lw x.d (sW x.lw i i qv Lb Lr) (g00 x.lw x.ops) xs bl (cl i).bs (i + 1) 0 (i + 1) ((i : Int) + 1) l) (x0 := 0) (x1 := 0) (x2 := 0) (x3 := 0) (by omega) h2 h5.own.1 ⟨h7, by omega⟩ x.hK hsz SAsk.kept (fun wx cs1 al pp pn pc kx hBx hMx hov => ?_)).mono ?_
  · obtain ⟨al0, cs0, -, hB, -⟩ := h2
    have tK := chgK hB
    exact do_ask wx x.w0 (k := i + 1) (Bb := Bb) (bc := begC ((i : Int) + 1) f 0) (s := sW x.lw i i qv Lb Lr) (xs := xs) (bl := bl) (by omega) rfl (by omega) (by omega) hMx hBx h5.own.2.1 h5.own.2.2.2 rfl (show (0 : Int) ≤ (i : Int) by omega) (h3.keep kx tK (by decide)) (QAt.tp h4 kx tK (by decide)) hL
      (h6.tp kx tK (by decide) (fun y hy => by rw [List.mem_singleton] at hy; rw [hy]; exact x.hK)) hin (Nat.le_trans hsz kx.size) (by omega)
      (fun y hy p hp => by
        obtain ⟨a, ha, -, -, v', eL⟩ := h1.wts.mem hy
        rw [eL, putsL_one, List.mem_singleton] at hp
        subst hp
        show (a : Int) + 1 ≠ (i : Int) + 1
        omega) rfl ⟨fun p hp => (by cases hp), fun b y hy => (by cases hy)⟩ (show (i : Int) + 1 = ((i + 1 : Nat) : Int) by omega) (show (i : Int) < 1099511627776 by omega) (show (0 : Int) ≤ (i : Int) by omega)
  · rintro e' w' ⟨rfl, c, na', hG, c1, c2, c3, T, W, rw, Q, V, v, gq, cq, b1, rfl, hS, hQ, hBs, hT, r1, r2, r3⟩
    rw [h5.own.2.1] at b1
    rw [begM_sW, comQ_sW] at hS hQ
    have e1 : sW x.lw ((i : Int) + 1) ((i : Int) + 1) (.slice (some ⟨gq, 0, none⟩) (xs.length + 1) cq) (putL Lb ((i : Int) + 1) (.int .i64 0)) (putL Lr ((i : Int) + 1) (.pointer (some ⟨T, 0, none⟩))) = sW x.lw ((i + 1 : Nat) : Int) ((i + 1 : Nat) : Int) (.slice (some ⟨gq, 0, none⟩) (xs.length + 1) cq) (putL Lb ((i : Int) + 1) (.int .i64 0)) (putL Lr ((i : Int) + 1) (.pointer (some ⟨T, 0, none⟩))) := by push_cast; rfl
    rw [e1] at hS hQ
    have hc : CI i [opC, opB] [Bb] 2 true bl (upd cl i c) := h5.upd (fun p hp => hp) ⟨c1, b1, by rw [c2, h5.own.2.2.1], c3⟩
    refine ⟨rfl, _, _, _, _, _, bl, ev + 1, ⟨h1.lb.more, h1.wts.more rfl rfl ⟨v, rfl⟩ hT ⟨r1, r2, r3⟩⟩, hG, stoU hS, hQ, fun a ha => ?_, fun a a1 a2 => hc.rest a (by omega) a2, hBs, by omega, by omega⟩
    by_cases ea : a = i
    · subst ea
      exact ⟨hc.own.1, hc.own.2.2.1, hc.own.2.2.2, Bb, f, hc.own.2.1, hin⟩
    · exact hc.done a (by omega)
/-- what a step that waits again leaves. -/
def SAgn (x : Pl3) (s : Gs) (xs : List Wt) (bl : List (Nat × Array Value)) (bs0 : List Nat) (na0 : Nat) (bs : List Nat) (na : Nat) (w : World) : Prop := bs = bs0 ∧ na = na0 ∧ Sto w x.lw x.d s (g00 x.lw x.ops) ∧ QAt w x.lw s xs ∧ Bes x.w0 x.lw bl w
theorem SAgn.kept {x : Pl3} {s : Gs} {xs : List Wt} {bl : List (Nat × Array Value)} {bs0 : List Nat} {na0 : Nat} : Kept x.lw (SAgn x s xs bl bs0 na0) := fun bs na a b S h hc ht hl =>
  ⟨h.1, h.2.1, h.2.2.1.keepA hc (ht.av (by decide)) (ht.map h.2.2.1.mx.ver.m) (ht.map h.2.2.1.mx.book.2) (ht.map h.2.2.1.mx.map), QAt.tp h.2.2.2.1 hc ht (by decide), h.2.2.2.2.tp hc ht (by decide) hl⟩
set_option maxHeartbeats 1000000 in
/-- it asks again. -/
theorem sw_again (x : Pl3) (w : World) {i : Nat} {e : Int} (hi : i < 7) (he : e ≤ 1000000) (h : Wst x (i + 1) e w) :
    Calls Tryz.prog 10 #[.pointer (some ⟨x.K, 0, none⟩), .int .i64 ((i + 1 : Nat) : Int)] w fun e' w' => e' = .returned (.tuple #[.agg #[.int .i64 0, .int .i64 0, .int .i64 0, .int .i64 0, .slice none 0 0], .int .i64 16]) ∧ Wst x (i + 1) (e + 1) w' := by
  obtain ⟨qv, Lb, Lr, xs, cl, bl, ev, h1, h2, h3, h4, h5, h6, h7, h8, h9⟩ := h
  have hsz := h7.size
  have hn := h1.wts.len
  obtain ⟨o1, o2, o3, Bb, f, o4, hin⟩ := h5 i (by omega)
  have hat := h1.wts.at_ i (by omega)
  refine (wait_gen w (j := i) (S1 := SAgn x (sW x.lw (i + 1 : Nat) (i + 1 : Nat) qv Lb Lr) xs bl (cl i).bs (i + 1)) (x0 := 0) (x1 := 0) (x2 := 0) (x3 := 0) (by omega) h2 o1 ⟨h8, by omega⟩ x.hK hsz SAgn.kept (fun wx cs1 al pp pn pc kx hBx hMx hov => ?_)).mono ?_
  · obtain ⟨al0, cs0, -, hB, -⟩ := h2
    have tK := chgK hB
    have hSx := h3.keepA kx (tK.av (by decide)) (tK.map h3.mx.ver.m) (tK.map h3.mx.book.2) (tK.map h3.mx.map)
    have hQx := QAt.tp h4 kx tK (by decide)
    have hBe := h7.tp kx tK (by decide) (fun y hy => by rw [List.mem_singleton] at hy; rw [hy]; exact x.hK)
    exact do_again wx (x := xs[i]) (Bb := Bb) (bc := begC ((i : Int) + 1) f 0) (by omega) rfl hMx hBx o4 o3 (by rw [hat.1]; rfl) (by rw [hat.1]; omega) hSx (hQx.wt _ (List.getElem_mem _)) (hBe.bg _ hin) (Nat.le_trans hsz kx.size) SAgn.kept (fun w' k => ⟨rfl, rfl, hSx.keep k, hQx.keep k, hBe.keep0 k⟩)
  · rintro e' w' ⟨rfl, c, na', hG, c1, c2, c3, b1, rfl, hS, hQ, hBs⟩
    rw [o4] at b1
    refine ⟨rfl, qv, Lb, Lr, xs, _, bl, ev + 1, h1, hG, hS, hQ, fun a ha => ?_, fun a a1 a2 => by rw [upd_ne (by omega)]; exact h6 a a1 a2, hBs, by omega, by omega⟩
    by_cases ea : a = i
    · subst ea
      rw [upd_same]
      exact ⟨c1, by rw [c2, o2], c3, Bb, f, b1, hin⟩
    · rw [upd_ne ea]
      exact h5 a ha
end Go.Proofs.YtliicpedddcfiaaGreat.Sw
namespace Go.Proofs.YtliicpedddcfiaaGreat.Sw
open Go.RowKit Go.Lib

theorem putsN_one {l : TxL} (h : ∀ t ∈ l, t.2.length = 1) : ∀ n, n ≤ l.length → putsN l n = n
  | 0, _ => by simp [putsN]
  | n + 1, hn => by rw [putsN_succ (by omega), putsN_one h n (by omega), h _ (List.getElem_mem _)]
theorem formF_one : ∀ (l : TxL) (n p : Nat), (∀ t ∈ l, t.2.length = 1) → n + l.length ≤ 8 → p + l.length ≤ 32 → formF n p l = n + l.length
  | [], n, p, _, _, _ => rfl
  | t :: r, n, p, h, h1, h2 => by
    rw [List.length_cons] at h1 h2
    rw [formF, if_neg (by rw [h t List.mem_cons_self]; omega), formF_one r _ _ (fun t ht => h t (List.mem_cons_of_mem _ ht)) (by omega) (by rw [h t List.mem_cons_self]; omega), List.length_cons]
    omega
theorem delL_len (L : List (Int × Value)) (k : Int) : (delL L k).length ≤ L.length := by
  induction L with
  | nil => exact Nat.le_refl _
  | cons p l ih => simp only [delL]; split <;> simp only [List.length_cons] <;> omega
theorem delL_mem {L : List (Int × Value)} {k : Int} {p : Int × Value} (h : p ∈ delL L k) : p ∈ L := by
  induction L with
  | nil => exact h
  | cons q l ih =>
    simp only [delL] at h
    split at h
    · exact List.mem_cons_of_mem _ h
    · rcases List.mem_cons.1 h with h | h
      · exact h ▸ List.mem_cons_self
      · exact List.mem_cons_of_mem _ (ih h)
theorem lbN_sub (L : List (Int × Value)) (xs : List Wt) : ∀ j, j ≤ xs.length → (lbN L xs j).length ≤ L.length ∧ ∀ p ∈ lbN L xs j, p ∈ L
  | 0, _ => ⟨Nat.le_refl _, fun p hp => hp⟩
  | j + 1, hj => by
    obtain ⟨h1, h2⟩ := lbN_sub L xs j (by omega)
    rw [lbN_succ (by omega)]
    exact ⟨Nat.le_trans (delL_len _ _) h1, fun p hp => h2 p (delL_mem hp)⟩
section
variable {x : Pl3} {m : Nat} {xs : List Wt}
theorem WtsOk.wtl (h : WtsOk x m xs) : ∀ i (hi : i < (wtL xs).length), (wtL xs)[i].1 = i + 1 ∧ ∃ D, (wtL xs)[i].2 = [((i : Int) + 1, D)] := fun i hi => by
  have hi2 : i < xs.length := by rw [wtL_length] at hi; exact hi
  obtain ⟨h1, h2, v, h3⟩ := h.at_ i hi2
  have e : (wtL xs)[i] = (xs[i].k, putsL xs[i].L xs[i].D) := by simp [wtL]
  rw [e, h2, h3]
  exact ⟨rfl, xs[i].D ((i : Int) + 1), putsL_one _ _ _⟩
theorem WtsOk.wtm (h : WtsOk x m xs) : ∀ t ∈ wtL xs, ∃ i : Nat, i < m ∧ t.1 = i + 1 ∧ ∃ D, t.2 = [((i : Int) + 1, D)] := fun t ht => by
  obtain ⟨i, hi, rfl⟩ := List.getElem_of_mem ht
  have := h.len
  exact ⟨i, by rw [wtL_length] at hi; omega, h.wtl i hi⟩
theorem WtsOk.bat (h : WtsOk x m xs) (hm : 1 ≤ m ∧ m ≤ 7) : BatOk (wtL xs) := by
  have hl : (wtL xs).length = m := by rw [wtL_length, h.len]
  have h1 : ∀ t ∈ wtL xs, t.2.length = 1 := fun t ht => by
    obtain ⟨i, -, -, D, e⟩ := h.wtm t ht
    rw [e]; rfl
  refine ⟨⟨fun i hi => ?_, fun t ht => ?_, fun t ht => ?_, fun t ht => ?_, fun t ht p hp => ?_⟩, fun i hi => ?_, ⟨by omega, by omega⟩, ?_⟩
  · rw [(h.wtl i (by omega)).1, (h.wtl (i + 1) hi).1]; omega
  · obtain ⟨i, hi, e, -⟩ := h.wtm t ht
    omega
  · rw [h1 t ht]; omega
  · obtain ⟨i, -, -, D, e⟩ := h.wtm t ht
    intro a ha
    rw [e] at ha
    simp at ha
  · obtain ⟨i, hi, -, D, e⟩ := h.wtm t ht
    rw [e, List.mem_singleton] at hp
    subst hp
    show 0 ≤ (i : Int) + 1 ∧ (i : Int) + 1 < 258
    omega
  · rw [(h.wtl i (by omega)).1, (h.wtl (i + 1) hi).1]; omega
  · rw [putsN_one h1 _ (Nat.le_refl _)]; omega
theorem WtsOk.lastN_at (h : WtsOk x m xs) : ∀ i, i ≤ m → lastN 0 xs i = i
  | 0, _ => rfl
  | i + 1, hi => by
    have hl := h.len
    rw [lastN_succ (by omega), (h.at_ i (by omega)).2.1]
theorem WtsOk.qok (h : WtsOk x m xs) (hm : 1 ≤ m ∧ m ≤ 7) {Lb : List (Int × Value)} (hb : LbOk m Lb) {s : Gs} (e1 : s.Lb = Lb) (e2 : s.lastv = 0) (e3 : s.vs = fun _ => []) : QOk s xs := by
  have hl := h.len
  refine ⟨⟨by omega, by omega⟩, h.nd, ?_, fun y hy => ?_, fun y hy => ?_, fun i hi => ?_, fun y hy => ?_, fun c => by rw [e3]; show 0 + 16 * 8 < 1000000; decide⟩
  · refine List.pairwise_iff_getElem.2 (fun a b ha hb hab => ?_)
    simp only [List.length_map] at ha hb
    simp only [List.getElem_map]
    rw [(h.at_ a ha).1, (h.at_ b hb).1]
    omega
  · obtain ⟨a, ha, e, -⟩ := h.mem hy
    rw [e1]
    exact ⟨0, hb.get _ (by omega) (by omega)⟩
  · obtain ⟨a, ha, -, -, v, e⟩ := h.mem hy
    rw [e]
    exact Nat.one_pos
  · rw [e2, h.lastN_at i (by omega), (h.at_ i hi).2.1]
    omega
  · obtain ⟨a, ha, -, e, -⟩ := h.mem hy
    omega
end
/-- the cells of a transaction that is committed. -/
def TD (a : Nat) (c : Array Value) : Prop := c[0]? = some (.int .i64 3) ∧ c[1]? = some (.int .i64 ((a : Int) + 1)) ∧ c[2]? = some (.int .i64 0)
/-- behind the batch: i of the m clients were told, and began anew. -/
structure Cor2 (m i b : Nat) (s : Gs) (Tf : Nat → Nat) (tc : Nat → Array Value) (bl : List (Nat × Array Value)) (cl : Nat → Cln) : Prop where
  last : s.last = m
  cnt : s.bl = ((m + b : Nat) : Int)
  key : ∀ p ∈ s.Lb, 0 ≤ p.1 ∧ p.1 ≤ 1000000
  len : s.Lb.length ≤ m + b
  tab : ∀ a, i ≤ a → a < m → getL s.Lr ((a : Int) + 1) = some (.pointer (some ⟨Tf a, 0, none⟩))
  td : ∀ a, a < m → TD a (tc a)
  cl : ∀ a, i ≤ a → a < m → Wtg bl a (cl a)
def RT (m : Nat) (Tf : Nat → Nat) (tc : Nat → Array Value) (w : World) : Prop := ∀ a, a < m → w.heap[Tf a]? = some (.cells (tc a) 212 (0, 0))
theorem RT.rk (lw m : Nat) (Tf : Nat → Nat) (tc : Nat → Array Value) : RK lw (RT m Tf tc) := fun a b S h hc hS k hk =>
  hc.heap (h k hk) (fun hm => by
    have := (hS _ hm (heap_lt (h k hk))).2 _ _ _ (h k hk)
    revert this
    decide)
def Fst (x : Pl3) (m i : Nat) (e : Int) (w : World) : Prop := ∃ s g Tf tc bl cl ev, Cor2 m i i s Tf tc bl cl ∧ SchG w x.lw x.K x.d.P cl (m + i) ev ∧ Sto w x.lw x.d s g ∧ w.ownsRow x.lw 3 1 s.qv 0 [] ∧ RT m Tf tc w ∧ Bes x.w0 x.lw bl w ∧ 0 ≤ ev ∧ ev ≤ e
theorem Fst.up {x : Pl3} {m i : Nat} {e : Int} {w : World} (h : Fst x m i e w) : Up x.lw x.w0 w := by
  obtain ⟨_, _, _, _, _, _, _, -, -, -, -, -, hb, -⟩ := h
  exact hb.up
theorem Fst.keep0 {x : Pl3} {m i : Nat} {e : Int} {w w' : World} (h : Fst x m i e w) (hc : Chg [] w w') : Fst x m i e w' := by
  obtain ⟨s, g, Tf, tc, bl, cl, ev, h1, h2, h3, h4, h5, h6, h7⟩ := h
  exact ⟨s, g, Tf, tc, bl, cl, ev, h1, h2.keep0 hc, h3.keep hc, own_keep h4 hc.below0, (RT.rk x.lw m Tf tc).keep0 h5 hc, h6.keep0 hc, h7⟩
set_option maxHeartbeats 1000000 in
/-- Flush. -/
theorem sw_flush (x : Pl3) (w : World) {m : Nat} {e : Int} (hm : 1 ≤ m ∧ m ≤ 7) (he : e ≤ 1000000) (h : Wst x m e w) :
    Calls Tryz.prog 13 #[.pointer (some ⟨x.K, 0, none⟩)] w fun e' w' => e' = .returned (.int .i64 0) ∧ Fst x m 0 (e + 1) w' := by
  have hsz := h.size
  obtain ⟨qv, Lb, Lr, xs, cl, bl, ev, h1, h2, h3, h4, h5, h6, h7, h8, h9⟩ := h
  have hwl := h1.wts.len
  have hb := h1.wts.bat hm
  have hone : ∀ t ∈ wtL xs, t.2.length = 1 := fun t ht => by
    obtain ⟨i, -, -, D, e⟩ := h1.wts.wtm t ht
    rw [e]; rfl
  have hpn : putsN (wtL xs) (wtL xs).length = m := by rw [putsN_one hone _ (Nat.le_refl _), wtL_length, hwl]
  obtain ⟨al, cs, hM, hB, hA⟩ := h2
  have tK := chgK hB
  refine (sched_flush w hB hM.c1 hM.c35 ⟨h8, by omega⟩ (r := 0) (Q := Fst x m 0 (e + 1)) (fun wx kx hBx => ?_)).mono (fun e' w' hh => hh)
  have hSx := h3.keepA kx (tK.av (by decide)) (tK.map h3.mx.ver.m) (tK.map h3.mx.book.2) (tK.map h3.mx.map)
  have hQx := QAt.tp h4 kx tK (by decide)
  have hBe := h7.tp kx tK (by decide) (fun y hy => by rw [List.mem_singleton] at hy; rw [hy]; exact x.hK)
  have hMx := hM.tick (ev' := ev + 1) |>.tp kx tK (by decide)
  have hAx : AnsAt wx x.lw cl := hA.keep kx (fun y hy _ cs t fr hh e => by
    obtain ⟨cs2, t2, h2, h3⟩ := tK y hy
    rw [h2] at hh
    cases hh
    subst e
    revert h3
    decide)
  obtain ⟨pq, cq, eqv, -⟩ := own_form hQx.q
  refine (sflush_many wx (lq := x.lw) hSx ⟨⟨pq, cq, eqv, hQx.q⟩, hQx.wt, h1.wts.qok hm h1.lb rfl rfl rfl⟩ rfl (fun y hy => (h1.wts.low y hy).2.2) (Nat.le_trans hsz kx.size) hb (by
      rw [formF_one _ 0 0 hone (by rw [wtL_length]; omega) (by rw [wtL_length]; omega), wtL_length]; omega) (show (0 : Int) ≤ 0 by decide) (show (0 : Int) ≤ 100000000 by decide) (by rw [hpn]; show 0 + m + 1 ≤ 96; omega) (by rw [hpn]; show 0 + m + 1 ≤ 96; omega) (show 0 ≤ x.ops from x.ho.1) (show x.ops ≤ 100000 by have := x.ho; omega) (show 0 < 4294967296 by decide) (show 0 < 1000000000 by decide)).mono ?_
  rintro e' w' ⟨rfl, z, Lv', v6, hS', hcs, hq', hT⟩
  have hsub := lbN_sub Lb xs xs.length (Nat.le_refl _)
  have hG : SchG wx x.lw x.K x.d.P cl m (ev + 1) := ⟨al, _, hMx, hBx, hAx⟩
  refine ⟨rfl, _, _, fun a => if h : a < xs.length then xs[a].T else 0, fun a => if h : a < xs.length then #[.int .i64 3, .int .i64 xs[a].k, .int .i64 0, .int .i64 xs[a].t, .pointer (some ⟨xs[a].W, 0, none⟩), .pointer (some ⟨xs[a].Q, 0, none⟩)] else #[], bl, cl, ev + 1, ⟨?_, ?_, fun p hp => ?_, ?_, fun a _ ha => ?_, fun a ha => ?_, fun a _ ha => h5 a ha⟩, hG.cs_ hcs, hS', hq', fun a ha => ?_, hBe.cs_ hcs, by omega, by omega⟩
  · show lastN 0 xs xs.length = m
    rw [h1.wts.lastN_at _ (by omega), hwl]
  · rfl
  · have := h1.lb.key p (hsub.2 p hp)
    exact ⟨this.1, by omega⟩
  · have := h1.lb.len
    exact Nat.le_trans hsub.1 this
  · have ha2 : a < xs.length := by omega
    rw [dif_pos ha2, ← (h1.wts.at_ a ha2).1]
    exact (h4.wt _ (List.getElem_mem ha2)).tab
  · have ha2 : a < xs.length := by omega
    rw [dif_pos ha2]
    refine ⟨rfl, ?_, rfl⟩
    rw [(h1.wts.at_ a ha2).2.1]
    rfl
  · have ha2 : a < xs.length := by omega
    simp only [dif_pos ha2]
    exact hT _ (List.getElem_mem ha2)
/-- behind the answer, ahead of the new begin. -/
def FT (x : Pl3) (m i : Nat) (e : Int) (w : World) : Prop := ∃ s g Tf tc bl cl ev Bb, Cor2 m (i + 1) i s Tf tc bl cl ∧ (cl i).ss = [opB] ∧ (cl i).bs = [Bb] ∧ (cl i).na = 3 ∧ SchG w x.lw x.K x.d.P cl (m + i) ev ∧ Sto w x.lw x.d s g ∧ w.ownsRow x.lw 3 1 s.qv 0 [] ∧ RT m Tf tc w ∧ Bes x.w0 x.lw bl w ∧ 0 ≤ ev ∧ ev ≤ e
def STld (x : Pl3) (m : Nat) (s : Gs) (g : Gd) (Tf : Nat → Nat) (tc : Nat → Array Value) (bl : List (Nat × Array Value)) (bs0 : List Nat) (na0 : Nat) (bs : List Nat) (na : Nat) (w : World) : Prop :=
  bs = bs0 ∧ na = na0 ∧ Sto w x.lw x.d s g ∧ w.ownsRow x.lw 3 1 s.qv 0 [] ∧ RT m Tf tc w ∧ Bes x.w0 x.lw bl w
theorem STld.kept {x : Pl3} {m : Nat} {s : Gs} {g : Gd} {Tf : Nat → Nat} {tc : Nat → Array Value} {bl : List (Nat × Array Value)} {bs0 : List Nat} {na0 : Nat} : Kept x.lw (STld x m s g Tf tc bl bs0 na0) := fun bs na a b S h hc ht hl => by
  obtain ⟨h1, h2, h3, h4, h5, h6⟩ := h
  refine ⟨h1, h2, h3.keepA hc (ht.av (by decide)) (ht.map h3.mx.ver.m) (ht.map h3.mx.book.2) (ht.map h3.mx.map), own_chgB h4 hc (fun g hg hm => ?_), (RT.rk x.lw m Tf tc).tp h5 hc ht hl, h6.tp hc ht (by decide) hl⟩
  obtain ⟨-, cur, hh⟩ := own_elem h4 hg
  obtain ⟨cs2, t2, e1, e2⟩ := ht g hm
  rw [hh] at e1
  cases e1
  revert e2
  decide
theorem own3_tp {w w' : World} {S ts : List Nat} {lw : Nat} {v : Value} (h : w.ownsRow lw 3 1 v 0 []) (hc : Chg S w w') (ht : Tp w S ts) (hts : 3 ∉ ts) : w'.ownsRow lw 3 1 v 0 [] := own_chgB h hc (fun g hg hm => by
  obtain ⟨-, cur, hh⟩ := own_elem h hg
  obtain ⟨cs2, t2, e1, e2⟩ := ht g hm
  rw [hh] at e1
  cases e1
  exact hts e2)
set_option maxHeartbeats 1000000 in
/-- a client is told. -/
theorem sw_told (x : Pl3) (w : World) {m i : Nat} {e : Int} (hm : m ≤ 7) (hi : i < m) (he : e ≤ 1000000) (h : Fst x m i e w) :
    Calls Tryz.prog 10 #[.pointer (some ⟨x.K, 0, none⟩), .int .i64 ((i + 1 : Nat) : Int)] w fun e' w' => e' = .returned (.tuple #[.agg #[.int .i64 4, .int .i64 0, .int .i64 0, .int .i64 ((i + 1 : Nat) : Int), .slice none 0 0], .int .i64 0]) ∧ FT x m i (e + 1) w' := by
  obtain ⟨s, g, Tf, tc, bl, cl, ev, h1, h2, h3, h4, h5, h6, h7, h8⟩ := h
  have hsz := h6.size
  obtain ⟨o1, o2, o3, Bb, f, o4, hin⟩ := h1.cl i (Nat.le_refl _) hi
  have htd := h1.td i hi
  refine (told_gen w (j := i) (S1 := STld x m s g Tf tc (bl.filter fun p => decide (p.1 ≠ Bb)) (cl i).bs (m + i)) (x0 := 4) (x1 := 0) (x2 := 0) (x3 := ((i + 1 : Nat) : Int)) (by omega) h2 o1 ⟨h7, by omega⟩ x.hK hsz (by rw [o2]; decide) STld.kept (fun wx cs1 al pp pn pc kx hBx hMx hov => ?_)).mono ?_
  · obtain ⟨al0, cs0, -, hB, -⟩ := h2
    have tK := chgK hB
    have hSx := h3.keepA kx (tK.av (by decide)) (tK.map h3.mx.ver.m) (tK.map h3.mx.book.2) (tK.map h3.mx.map)
    have hBe := h6.tp kx tK (by decide) (fun y hy => by rw [List.mem_singleton] at hy; rw [hy]; exact x.hK)
    have hTx : RT m Tf tc wx := (RT.rk x.lw m Tf tc) _ _ _ h5 kx (fun y hy _ => ⟨by rw [List.mem_singleton] at hy; rw [hy]; exact x.hK, fun cs t fr hh => by
      rw [List.mem_singleton] at hy
      subst hy
      rw [show w.heap[_]? = _ from hB] at hh
      cases hh
      decide⟩)
    have hqx := own3_tp h4 kx tK (by decide)
    have hTi := hTx i hi
    have hbb := hBe.bg _ hin
    refine do_told wx (Bb := Bb) (T := Tf i) (bc := begC ((i : Int) + 1) f 0) (h := (i : Int) + 1) (k := ((i + 1 : Nat) : Int)) (x2 := 0) (by omega) rfl hMx hBx o4 o3 rfl rfl (by omega) hSx (h1.tab i (Nat.le_refl _) hi) (cell_is hTi 0 htd.1) (cell_is hTi 1 (by rw [htd.2.1]; rfl)) (cell_is hTi 2 htd.2.2) hbb (Nat.le_trans hsz kx.size) STld.kept (fun w' k _ hS' => ⟨rfl, rfl, hS', ?_, ?_, ?_⟩)
    · exact own3_tp hqx k (fun y hy => by rw [List.mem_singleton] at hy; subst hy; exact ⟨_, _, hbb, List.mem_singleton.2 rfl⟩) (by decide)
    · intro a ha
      exact k.heap (hTx a ha) (fun hm => by
        rw [List.mem_singleton] at hm
        have := hTx a ha
        rw [hm, hbb] at this
        simp at this)
    · refine ⟨hBe.up.then k (fun y hy _ => by rw [List.mem_singleton] at hy; rw [hy]; exact hBe.lo _ hin), fun p hp => ?_, fun p hp => hBe.lo p (List.mem_filter.1 hp).1⟩
      rw [List.mem_filter] at hp
      exact k.heap (hBe.bg p hp.1) (by simpa using hp.2)
  · rintro e' w' ⟨rfl, c, na', hG, c1, c2, c3, b1, rfl, hS, hq, hT, hBs⟩
    rw [o4] at b1
    refine ⟨rfl, s, g, Tf, tc, _, _, ev + 1, Bb, ⟨h1.last, h1.cnt, h1.key, h1.len, fun a a1 a2 => h1.tab a (by omega) a2, h1.td, fun a a1 a2 => ?_⟩, by rw [upd_same]; exact c1, by rw [upd_same]; exact b1, by rw [upd_same, c2, o2], hG, hS, hq, hT, hBs, by omega, by omega⟩
    rw [upd_ne (by omega)]
    obtain ⟨p1, p2, p3, Ba, fa, p4, pin⟩ := h1.cl a (by omega) a2
    refine ⟨p1, p2, p3, Ba, fa, p4, List.mem_filter.2 ⟨pin, ?_⟩⟩
    have q1 := h6.bg _ hin
    have q2 := h6.bg _ pin
    simp only [ne_eq, decide_not, Bool.not_eq_true', decide_eq_false_iff_not]
    intro hab
    rw [hab, q1] at q2
    simp only [begC, Option.some.injEq, Obj.cells.injEq, Array.mk.injEq, List.cons.injEq, Value.int.injEq] at q2
    omega
set_option maxHeartbeats 1000000 in
/-- a client begins anew. -/
theorem sw_beg2 (x : Pl3) (w : World) {m i : Nat} {e : Int} (hm : m ≤ 7) (hi : i < m) (he : e ≤ 1000000) (h : FT x m i e w) :
    Calls Tryz.prog 10 #[.pointer (some ⟨x.K, 0, none⟩), .int .i64 ((i + 1 : Nat) : Int)] w fun e' w' => e' = .returned (.tuple #[.agg #[.int .i64 1, .int .i64 0, .int .i64 1, .int .i64 m, .slice none 0 0], .int .i64 0]) ∧ Fst x m (i + 1) (e + 1) w' := by
  obtain ⟨s, g, Tf, tc, bl, cl, ev, Bb, h1, o1, o2, o3, h2, h3, h4, h5, h6, h7, h8⟩ := h
  have hsz := h6.size
  have hbl := h1.cnt
  have hlen := h1.len
  refine (told_gen w (j := i) (S1 := SBeg (RT m Tf tc) x.w0 x.lw x.d s g [] bl (ev + 1) (cl i).bs (m + i) 0) (x0 := 1) (x1 := 0) (x2 := (cl i).bs.length) (x3 := s.last) (by omega) h2 o1 ⟨h7, by omega⟩ x.hK hsz (by rw [o3]; decide) (SBeg.kept (RT.rk x.lw m Tf tc)) (fun wx cs1 al pp pn pc kx hBx hMx hov => ?_)).mono ?_
  · obtain ⟨al0, cs0, -, hB, -⟩ := h2
    have tK := chgK hB
    have hTx : RT m Tf tc wx := (RT.rk x.lw m Tf tc) _ _ _ h5 kx (fun y hy _ => ⟨by rw [List.mem_singleton] at hy; rw [hy]; exact x.hK, fun cs t fr hh => by
      rw [List.mem_singleton] at hy
      subst hy
      rw [show w.heap[_]? = _ from hB] at hh
      cases hh
      decide⟩)
    exact do_beg wx x.w0 (RT.rk x.lw m Tf tc) hTx (s := s) (xs := []) (bl := bl) (by omega) rfl hMx hBx hov (h3.keepA kx (tK.av (by decide)) (tK.map h3.mx.ver.m) (tK.map h3.mx.book.2) (tK.map h3.mx.map)) ⟨own3_tp h4 kx tK (by decide), fun y hy => by cases hy⟩
      (fun y hy => by cases hy) (h6.tp kx tK (by decide) (fun y hy => by rw [List.mem_singleton] at hy; rw [hy]; exact x.hK)) x.hK (Nat.le_trans hsz kx.size) (Nat.zero_le _) (by rw [o2]; simp) (by omega)
      h1.key (by omega) (by rw [h1.last]; omega) (by rw [h1.last]; omega) (by omega) (by omega)
  · rintro e' w' ⟨rfl, c, na', hG, c1, c2, c3, T, base, W, rw, Q, V, Bb', b1, rfl, hO, hQ, hL, hBs, -, hT⟩
    have hS : Sto w' x.lw (dT x.d T W rw Q V) (begM s T) g := hO.1.env
    refine ⟨by rw [o2, h1.last]; rfl, begM s T, g, Tf, tc, _, _, ev + 1, ⟨h1.last, ?_, fun p hp => ?_, ?_, fun a a1 a2 => ?_, h1.td, fun a a1 a2 => ?_⟩, hG, stoU hS, hQ.q, hT, hBs, by omega, by omega⟩
    · show s.bl + 1 = _
      omega
    · rcases mem_putL hp with rfl | hp
      · show 0 ≤ s.bl + 1 ∧ s.bl + 1 ≤ 1000000
        omega
      · exact h1.key p hp
    · have := putL_len s.Lb (s.bl + 1) (.int .i64 s.last)
      show (putL s.Lb (s.bl + 1) (.int .i64 s.last)).length ≤ _
      omega
    · show getL (putL s.Lr (s.bl + 1) (.pointer (some ⟨T, 0, none⟩))) _ = _
      rw [getL_put, if_neg (by omega)]
      exact h1.tab a a1 a2
    · rw [upd_ne (by omega)]
      exact (h1.cl a a1 a2).more (fun p hp => List.mem_cons_of_mem _ hp)
end Go.Proofs.YtliicpedddcfiaaGreat.Sw
namespace Go.Proofs.YtliicpedddcfiaaGreat
open Go.RowKit Go.Lib

/-- the law's places: the start, its world, the schedule, the ops. -/
structure Pl25 where
  w0 : World
  lw : Nat
  C : Nat
  K : Nat
  R : Nat
  g : Nat
  E : Nat
  D : Nat
  cE : Nat
  cD : Nat
  r : List UInt8
  d : Ids
  ops : Int
/-- a schedule whose first client has a transaction that is open. -/
def PO (x : Pl25) (o av : Value) (q : Bool) (fr ev : Int) (k : Nat) (cs : Array Value) (w : World) : Prop :=
  ∃ T base W rw Q V Bb bv al qf L, cs = sch x.d.N x.d.P o bv av q al ev ∧ Beg1 w x.lw Bb bv 1 fr 0 ∧ Opn w x.lw x.d x.ops T base W rw Q V qf L ∧ L.length = k ∧ Bas x.w0 x.lw x.C x.K x.R x.g x.E x.D x.cE x.cD x.r w
theorem PO.cl (x : Pl25) (o av : Value) (q : Bool) (fr ev : Int) (k : Nat) (cs : Array Value) : Cl x.lw (PO x o av q fr ev k cs) := ⟨fun a b S h hc ht hl => by
  obtain ⟨T, base, W, rw, Q, V, Bb, bv, al, qf, L, h1, h2, h3, h4, h5⟩ := h
  refine ⟨T, base, W, rw, Q, V, Bb, bv, al, qf, L, h1, h2.keep hc (fun y hy _ cs t fr hh => ?_), h3.keep hc ht (by decide), h4, h5.tp hc ht (by decide) hl⟩
  obtain ⟨cs2, t2, e1, e2⟩ := ht y hy
  rw [e1] at hh
  cases hh
  simp at e2
  rcases e2 with rfl | rfl <;> exact ⟨by decide, by decide⟩⟩
/-- a stage: the schedule's cells, the answers' row. -/
def Stg (x : Pl25) (o av : Value) (q : Bool) (fr ev : Int) (k na : Nat) (w : World) : Prop := ∃ cs xs, PO x o av q fr ev k cs w ∧ SchB w x.K cs ∧ w.ownsRow x.lw 39 5 av na xs
theorem chgK {w : World} {K : Nat} {cs : Array Value} (hB : SchB w K cs) : Tp w [K] [72] := fun y hy => by
  rw [List.mem_singleton] at hy
  subst hy
  exact ⟨_, _, hB, by simp⟩
theorem nil66 (w : World) (lw : Nat) : w.ownsRow lw 39 5 (.slice none 0 0) 0 [] := World.ownsRow_nil _ _ _ _
set_option maxRecDepth 100000 in
theorem st1 (x : Pl25) (w : World) {c : Nat} (hS : Sto w x.lw x.d (s00 x.lw) (g00 x.lw x.ops)) (hB : SchB w x.K (sch x.d.N x.d.P (.slice (some ⟨x.g, 0, none⟩) 3 c) (.slice none 0 0) (.slice none 0 0) false (.slice none 0 0) 0)) (hb : Bas x.w0 x.lw x.C x.K x.R x.g x.E x.D x.cE x.cD x.r w) (hKl : x.lw ≤ x.K) (hlw : x.lw ≤ w.heap.size) (hc : 3 ≤ c) :
    Calls Tryz.prog 10 #[.pointer (some ⟨x.K, 0, none⟩), .int .i64 1] w fun e w' => ∃ v av, e = .returned (.tuple #[v, .int .i64 0]) ∧ Stg x (.slice (some ⟨x.g, 5, none⟩) 2 (c - 1)) av false 1 1 0 1 w' := by
  obtain ⟨cur, hr, q0, q1, q2, q3, q4, -⟩ := hb.ops.row
  have hgK : x.g ≠ x.K := heap_ne hr hB (by simp)
  refine (step_told w (P := PO x (.slice (some ⟨x.g, 0, none⟩) 3 c) (.slice none 0 0) false 1 1 0) (q := false) (av := .slice none 0 0) (na := 0) (xa := []) (m := 2) (x0 := 1) (x1 := 0) (x2 := 0) (x3 := 0) hlw hKl (fun cs => PO.cl x _ _ _ _ _ _ cs) hB rfl rfl rfl ⟨by decide, by decide⟩ hc (cell_is hr 0 q0) (cell_is hr 1 q1) (cell_is hr 2 q2) (cell_is hr 3 q3) (cell_is hr 4 q4) hgK ?_ ?_ (nil66 _ _) (by decide)).mono ?_
  · intro wx kx hBx
    have tK := chgK hB
    have hSx := hS.keepA kx (tK.av (by decide)) (tK.map hS.mx.ver.m) (tK.map hS.mx.book.2) (tK.map hS.mx.map)
    have hbx := hb.tp kx tK (by decide) (fun y hy => by rw [List.mem_singleton] at hy; omega)
    have hlx : x.lw ≤ wx.heap.size := Nat.le_trans hlw kx.size
    refine do_begin wx hlx (fun cs => PO.cl x _ _ _ _ _ _ cs) (fun wy ky => ?_)
    have hSy := hSx.keep ky
    refine (cbegin_ok wy (K := x.K) (o := .slice (some ⟨x.g, 0, none⟩) 3 c) (bv := .slice none 0 0) (av := .slice none 0 0) (al := .slice none 0 0) (q := false) (ev := 1) (nb := 0) (na := 0) (xb := []) (xa := []) hSy (ky.heap hBx (by simp)) (World.ownsRow_nil _ _ _ _) (World.ownsRow_nil _ _ _ _) (fun y hy => by cases hy) (by decide) (by decide) rfl (show (0 : Int) ≤ 0 by decide) (show (0 : Int) ≤ 1099511627776 by decide) (show (0 : Int) ≤ 0 by decide) (show (0 : Int) ≤ 1000000 by decide) hKl (Nat.le_trans hlx ky.size)).mono ?_
    rintro e w' ⟨rfl, T, W, rw, Q, V, base, Bb, bv, al, hLo, hT, hbase, hBl, hB', ob, oa, hBb, hSu, hlt⟩
    refine ⟨rfl, _, ⟨T, base, W, rw, Q, V, Bb, bv, al, _, [], rfl, ⟨ob, hBb, hBl⟩, ⟨hSu, hlt, by have := ky.size; omega, by have := ky.size; omega⟩, rfl, (hbx.keep ky (fun y hy => by cases hy)).lo hLo⟩, hB', fun y cs hy => hLo.heap hy (by decide)⟩
  · rintro cs2 w2 ⟨T, base, W, rw, Q, V, Bb, bv, al, qf, L, rfl, -⟩
    exact ⟨rfl, rfl, rfl⟩
  · rintro e w' ⟨rfl, av', cs2, hP, hB', ho⟩
    obtain ⟨T, base, W, rw, Q, V, Bb, bv, al, qf, L, rfl, h2⟩ := hP
    have hcut : cutV x.g 0 2 c = .slice (some ⟨x.g, 5, none⟩) 2 (c - 1) := by unfold cutV; rw [if_neg (by omega)]
    rw [hcut] at hB'
    exact ⟨_, av', rfl, _, _, ⟨T, base, W, rw, Q, V, Bb, bv, al, qf, L, rfl, h2⟩, hB', ho⟩
theorem Tp.k66 {w : World} {S : List Nat} (h : Tp w S [72]) : Tp w S [72, 39] := fun y hy => by
  obtain ⟨cs, t, h1, h2⟩ := h y hy
  exact ⟨cs, t, h1, by simp at h2; simp [h2]⟩
set_option maxRecDepth 100000 in
theorem st2 (x : Pl25) (w : World) {c na : Nat} {av : Value} (h : Stg x (.slice (some ⟨x.g, 5, none⟩) 2 c) av false 1 1 0 na w) (hKl : x.lw ≤ x.K) (hlw : x.lw ≤ w.heap.size) (hc : 2 ≤ c) (hna : na ≤ 900) :
    Calls Tryz.prog 10 #[.pointer (some ⟨x.K, 0, none⟩), .int .i64 1] w fun e w' => ∃ v av, e = .returned (.tuple #[v, .int .i64 0]) ∧ Stg x (.slice (some ⟨x.g, 10, none⟩) 1 (c - 1)) av false 1 2 1 (na + 1) w' := by
  obtain ⟨cs, xs, hP, hB, ho⟩ := h
  have hPw := hP
  obtain ⟨T, base, W, rw, Q, V, Bb, bv, al, qf, L, rfl, -, -, -, hb⟩ := hPw
  obtain ⟨cur, hr, -, -, -, -, -, q0, q1, q2, q3, q4, -⟩ := hb.ops.row
  have hgK : x.g ≠ x.K := heap_ne hr hB (by simp)
  refine (step_told w (P := PO x (.slice (some ⟨x.g, 5, none⟩) 2 c) av false 1 2 1) (q := false) (av := av) (na := na) (m := 1) (x0 := 3) (x1 := 0) (x2 := 0) (x3 := 0) hlw hKl (fun cs => PO.cl x _ _ _ _ _ _ cs) hB rfl rfl rfl ⟨by decide, by decide⟩ hc (cell_is hr 5 q0) (cell_is hr 6 q1) (cell_is hr 7 q2) (cell_is hr 8 q3) (cell_is hr 9 q4) hgK ?_ ?_ ho hna).mono ?_
  · intro wx kx hBx
    have hx := (PO.cl x _ _ _ _ _ _ _).keep w wx _ hP kx (chgK hB).k66 (fun y hy => by rw [List.mem_singleton] at hy; omega)
    obtain ⟨T, base, W, rw, Q, V, Bb, bv, al, qf, L, hcs, hbg, hop, hL, hbx⟩ := hx
    rw [hcs] at hBx
    have hlx : x.lw ≤ wx.heap.size := Nat.le_trans hlw kx.size
    obtain ⟨gb, cb, rfl, g0⟩ := hbg.at_
    refine do_call wx (kind := 3) (h := 1) (nb := 1) (Or.inl rfl) hlx (fun cs => PO.cl x _ _ _ _ _ _ cs) (cell_is hBx 3 rfl) (by decide) g0 (cell_is hbg.2.1 0 rfl) (by decide) (fun wy ky => ?_)
    have hf : Fr base (dT x.d T W rw Q V) (begP (s00 x.lw)) (StoF x.lw (dT x.d T W rw Q V) (begS (s00 x.lw) T) (g00 x.lw x.ops)) := fr_sto hop.2.1 rfl rfl rfl rfl rfl
    obtain ⟨ce, hE, e0, e1⟩ := hbx.ops.put
    have hby := hbx.keep ky (fun y hy => by cases hy)
    refine (ccall_write wy (K := x.K) (Bb := Bb) (b := 1) (d := dT x.d T W rw Q V) (p := begP (s00 x.lw)) (ky.heap hBx (by simp)) rfl (ky.heap hbg.2.1 (by simp)) rfl hf (hop.1.keep hf ky) (ky.cell (cell_is hE 0 e0) (by simp)) (ky.cell (cell_is hE 1 e1) (by simp)) hby.ops.bs hby.ops.len (by decide) (by decide) (by omega)).mono ?_
    rintro e w' ⟨rfl, hO, v, hSu⟩
    have hLL : L = [] := List.length_eq_zero_iff.1 hL
    subst hLL
    refine ⟨rfl, _, ⟨T, base, W, rw, Q, V, Bb, _, al, _, _, rfl, ?_, ⟨hSu, hop.2⟩, rfl, hby.lo (Lo.of_ow hO hop.2.2.2)⟩, hO.heap (ky.heap hBx (by simp)) ⟨by decide, by decide, by decide⟩, fun y cs hy => hO.heap hy ⟨by decide, by decide, by decide⟩⟩
    obtain ⟨U, hU1, hU2⟩ := hO
    refine (hbg.keep ky (fun y hy => by cases hy)).keep hU1 (fun y hy _ cs t fr hh => ?_)
    rcases (hU2 y hy).2 cs t fr hh with rfl | rfl | rfl <;> exact ⟨by decide, by decide⟩
  · rintro cs2 w2 ⟨T, base, W, rw, Q, V, Bb, bv, al, qf, L, rfl, -⟩
    exact ⟨rfl, rfl, rfl⟩
  · rintro e w' ⟨rfl, av', cs2, hP, hB', ho⟩
    obtain ⟨T, base, W, rw, Q, V, Bb, bv, al, qf, L, rfl, h2⟩ := hP
    have hcut : cutV x.g 5 1 c = .slice (some ⟨x.g, 10, none⟩) 1 (c - 1) := by unfold cutV; rw [if_neg (by omega)]
    rw [hcut] at hB'
    exact ⟨_, av', rfl, _, _, ⟨T, base, W, rw, Q, V, Bb, bv, al, qf, L, rfl, h2⟩, hB', ho⟩
end Go.Proofs.YtliicpedddcfiaaGreat
namespace Go.Proofs.YtliicpedddcfiaaGreat
open Go.RowKit Go.Lib

/-- a schedule whose first client's transaction waits. -/
def PW (x : Pl25) (o av : Value) (q : Bool) (fr ev : Int) (cs : Array Value) (w : World) : Prop :=
  ∃ T W rw Q V Bb bv al qf L gq cq, cs = sch x.d.N x.d.P o bv av q al ev ∧ Beg1 w x.lw Bb bv 1 fr 0 ∧ Sto w x.lw (dT x.d T W rw Q V) (comS (begS (s00 x.lw) T) gq cq) (g00 x.lw x.ops) ∧ Wtx w (dT x.d T W rw Q V) (comS (begS (s00 x.lw) T) gq cq) gq cq 1 1 0 0 L qf ∧ x.lw ≤ T ∧ L.length = 1 ∧ Bas x.w0 x.lw x.C x.K x.R x.g x.E x.D x.cE x.cD x.r w
theorem beg_ne {a : World} {S : List Nat} {ts : List Nat} (ht : Tp a S ts) (hts : ∀ t ∈ ts, t ≠ 83 ∧ t ≠ 85) : ∀ y ∈ S, y < a.heap.size → ∀ cs t fr, a.heap[y]? = some (.cells cs t fr) → t ≠ 83 ∧ t ≠ 85 := fun y hy _ cs t fr hh => by
  obtain ⟨cs2, t2, e1, e2⟩ := ht y hy
  rw [e1] at hh
  cases hh
  exact hts _ e2
theorem Sto.tp149 {w w' : World} {S : List Nat} {lw : Nat} {d : Ids} {s : Gs} {g : Gd} (h : Sto w lw d s g) (hc : Chg S w w') (tp : Tp w S [72, 39]) : Sto w' lw d s g :=
  h.keepA hc (tp.av (by decide)) (tp.map h.mx.ver.m) (tp.map h.mx.book.2) (tp.map h.mx.map)
theorem PW.cl (x : Pl25) (o av : Value) (q : Bool) (fr ev : Int) (cs : Array Value) : Cl x.lw (PW x o av q fr ev cs) := ⟨fun a b S h hc ht hl => by
  obtain ⟨T, W, rw, Q, V, Bb, bv, al, qf, L, gq, cq, h1, h2, h3, h4, h5, h6, h7⟩ := h
  exact ⟨T, W, rw, Q, V, Bb, bv, al, qf, L, gq, cq, h1, h2.keep hc (beg_ne ht (by decide)), h3.tp149 hc ht, h4.keepA hc (ht.av (by decide)) (ht.map h4.buf.2), h5, h6, h7.tp hc ht (by decide) hl⟩⟩
def StgW (x : Pl25) (o av : Value) (q : Bool) (fr ev : Int) (na : Nat) (w : World) : Prop := ∃ cs xs, PW x o av q fr ev cs w ∧ SchB w x.K cs ∧ w.ownsRow x.lw 39 5 av na xs
set_option maxRecDepth 100000 in
theorem st3 (x : Pl25) (w : World) {c na : Nat} {av : Value} (h : Stg x (.slice (some ⟨x.g, 10, none⟩) 1 c) av false 1 2 1 na w) (hKl : x.lw ≤ x.K) (hlw : x.lw ≤ w.heap.size) (hc : 1 ≤ c) :
    Calls Tryz.prog 10 #[.pointer (some ⟨x.K, 0, none⟩), .int .i64 1] w fun e w' => e = .returned (.tuple #[.agg #[.int .i64 0, .int .i64 0, .int .i64 0, .int .i64 0, .slice none 0 0], .int .i64 16]) ∧ StgW x (.slice (some ⟨x.g, 10, none⟩) 1 c) av true 1 3 na w' := by
  obtain ⟨cs, xs, hP, hB, ho⟩ := h
  have hPw := hP
  obtain ⟨T, base, W, rw, Q, V, Bb, bv, al, qf, L, rfl, -, -, -, hb⟩ := hPw
  obtain ⟨cur, hr, -, -, -, -, -, -, -, -, -, -, q0, q1, q2, q3, q4⟩ := hb.ops.row
  have hgK : x.g ≠ x.K := heap_ne hr hB (by simp)
  refine (step_wait w (P := PW x (.slice (some ⟨x.g, 10, none⟩) 1 c) av false 1 3) (q := false) (m := 0) (x0 := 0) (x1 := 0) (x2 := 0) (x3 := 0) hlw hKl (fun cs => PW.cl x _ _ _ _ _ cs) hB rfl rfl rfl ⟨by decide, by decide⟩ hc (cell_is hr 10 q0) (cell_is hr 11 q1) (cell_is hr 12 q2) (cell_is hr 13 q3) (cell_is hr 14 q4) hgK ?_ ?_).mono ?_
  · intro wx kx hBx
    have hx := (PO.cl x _ _ _ _ _ _ _).keep w wx _ hP kx (chgK hB).k66 (fun y hy => by rw [List.mem_singleton] at hy; omega)
    obtain ⟨T, base, W, rw, Q, V, Bb, bv, al, qf, L, hcs, hbg, hop, hL, hbx⟩ := hx
    rw [hcs] at hBx
    have hlx : x.lw ≤ wx.heap.size := Nat.le_trans hlw kx.size
    obtain ⟨gb, cb, rfl, g0⟩ := hbg.at_
    refine do_call wx (kind := 4) (h := 1) (nb := 1) (Or.inr rfl) hlx (fun cs => PW.cl x _ _ _ _ _ cs) (cell_is hBx 3 rfl) (by decide) g0 (cell_is hbg.2.1 0 rfl) (by decide) (fun wy ky => ?_)
    refine ccall_c wy (Nat.le_trans hlx ky.size) (fun cs => PW.cl x _ _ _ _ _ cs) (fun wz kz => ?_)
    have kyz := ky.then kz
    have hf : Fr base (dT x.d T W rw Q V) (begP (s00 x.lw)) (StoF x.lw (dT x.d T W rw Q V) (begS (s00 x.lw) T) (g00 x.lw x.ops)) := fr_sto hop.2.1 rfl rfl rfl rfl rfl
    have hbz := hbx.keep kyz (fun y hy => by cases hy)
    have hBz := kyz.heap hBx (by simp)
    have hbgz := hbg.keep kyz (fun y hy => by cases hy)
    refine (commit_ask wz (k := 1) (n := 0) (K := x.K) (Bb := Bb) (d := dT x.d T W rw Q V) (p := begP (s00 x.lw)) hBz rfl rfl hbgz.2.1 rfl hf (hop.1.keep hf kyz) rfl (Nat.le_trans hlx kyz.size) hop.2.2.1 (fun wv kv => scommit_sto wv (loq := x.lw) (n := 0) (k := 1) hf (hop.1.keep hf (kyz.then kv)) rfl (World.ownsRow_nil _ _ _ _) (Nat.le_trans hlx (kyz.then kv).size) (Nat.le_refl _) rfl ⟨fun p hp => (by cases hp), fun b y hy => (by cases hy)⟩ rfl (show (0 : Int) < 1099511627776 by decide) (show (0 : Int) ≤ 0 by decide) (by omega) (by omega) (by decide) rfl rfl hop.2.2.1)).mono ?_
    rintro e w' ⟨rfl, gq, cq, hS', hW', hcs'⟩
    have hLo := Lo.of_cs hcs'
    obtain ⟨U, hU1, hU2⟩ := hcs'
    refine ⟨rfl, _, ⟨T, W, rw, Q, V, Bb, _, al, _, L, gq, cq, rfl, ?_, hS', hW', hop.2.2.1, hL, hbz.lo hLo⟩, hU1.heap hBz (fun hm => ?_), fun y cs hy => hLo.heap hy (by decide)⟩
    · refine hbgz.keep hU1 (fun y hy hl cs t fr hh => ?_)
      exact (by decide : ∀ u ∈ ([105, 184, 212, 237, 247, 93, 97, 34, 3, 240, 159] : List Nat), u ≠ 83 ∧ u ≠ 85) t ((hU2 y hy hl).2 cs t fr hh)
    · exact (by decide : (72 : Nat) ∉ ([105, 184, 212, 237, 247, 93, 97, 34, 3, 240, 159] : List Nat)) ((hU2 x.K hm (heap_lt hBz)).2 _ _ _ hBz)
  · rintro cs2 w2 ⟨T, W, rw, Q, V, Bb, bv, al, qf, L, gq, cq, rfl, -⟩
    rfl
  · rintro e w' ⟨rfl, cs2, hP, hB', h66⟩
    obtain ⟨T, W, rw, Q, V, Bb, bv, al, qf, L, gq, cq, rfl, h2⟩ := hP
    exact ⟨rfl, _, xs, ⟨T, W, rw, Q, V, Bb, bv, al, qf, L, gq, cq, rfl, h2⟩, hB', own_k66 ho h66⟩
end Go.Proofs.YtliicpedddcfiaaGreat
namespace Go.Proofs.YtliicpedddcfiaaGreat
open Go.RowKit Go.Lib

/-- a schedule whose first client's transaction is committed, and was not told of it. -/
def StgD (x : Pl25) (o av : Value) (q : Bool) (fr ev : Int) (na : Nat) (w : World) : Prop :=
  ∃ T W rw Q V Bb bv al s g xs, SchB w x.K (sch x.d.N x.d.P o bv av q al ev) ∧ Beg1 w x.lw Bb bv 1 fr 0 ∧ Sto w x.lw (dT x.d T W rw Q V) s g ∧ getL s.Lr 1 = some (.pointer (some ⟨T, 0, none⟩)) ∧
    w.heap[T]? = some (.cells #[.int .i64 3, .int .i64 1, .int .i64 0, .int .i64 0, .pointer (some ⟨W, 0, none⟩), .pointer (some ⟨Q, 0, none⟩)] 212 (0, 0)) ∧ Bas x.w0 x.lw x.C x.K x.R x.g x.E x.D x.cE x.cD x.r w ∧ w.ownsRow x.lw 39 5 av na xs
set_option maxRecDepth 100000 in
theorem st4 (x : Pl25) (w : World) {o av : Value} {na : Nat} (h : StgW x o av true 1 3 na w) (hKl : x.lw ≤ x.K) (hlw : x.lw ≤ w.heap.size) (hops : 0 ≤ x.ops ∧ x.ops ≤ 2) :
    Calls Tryz.prog 13 #[.pointer (some ⟨x.K, 0, none⟩)] w fun e w' => e = .returned (.int .i64 0) ∧ StgD x o av true 1 4 na w' := by
  obtain ⟨cs, xs, hP, hB, ho⟩ := h
  have hPw := hP
  obtain ⟨T0, W0, rw0, Q0, V0, Bb0, bv0, al0, qf0, L0, gq0, cq0, rfl, -⟩ := hPw
  refine sched_flush w hB rfl rfl ⟨by decide, by decide⟩ (fun wx kx hBx => ?_)
  have hx := (PW.cl x _ _ _ _ _ _).keep w wx _ hP kx (chgK hB).k66 (fun y hy => by rw [List.mem_singleton] at hy; omega)
  obtain ⟨T, W, rw, Q, V, Bb, bv, al, qf, L, gq, cq, hcs, hbg, hS, hW, hT, hL, hb⟩ := hx
  rw [hcs] at hBx
  have hox := own_chgB ho kx (fun g hg hm => by
    rw [List.mem_singleton] at hm
    subst hm
    obtain ⟨-, cur, hh⟩ := own_elem ho hg
    rw [show w.heap[_]? = _ from hB] at hh
    cases hh)
  refine (sflush_tx wx (k := 1) hS hW rfl hT (Nat.le_trans hlw kx.size) (by decide) (show (0 : Int) < 1 by decide) (by decide) (fun c => (show 0 + 16 < 1000000 by decide)) (show (0 : Int) ≤ 0 by decide) (show (0 : Int) ≤ 100000000 by decide) (by show 0 + L.length + 1 ≤ 96; omega) (by show 0 + L.length + 1 ≤ 96; omega) (show 0 ≤ x.ops by omega) (show x.ops ≤ 100000 by omega) (show 0 < 4294967296 by decide) (show 0 < 1000000000 by decide)).mono ?_
  rintro e w' ⟨rfl, z6, Lv6, v6, hS6, cs6, -, hT6⟩
  have hLo := Lo.of_cs cs6
  refine ⟨rfl, T, W, rw, Q, V, Bb, bv, al, _, _, xs, cs6.heap hBx (by decide), ?_, hS6, rfl, hT6, hb.lo hLo, own_cs hox cs6 (by decide)⟩
  obtain ⟨U, hU1, hU2⟩ := cs6
  refine hbg.keep hU1 (fun y hy hl cs t fr hh => ?_)
  exact (by decide : ∀ u ∈ ([105, 184, 212, 237, 247, 93, 97, 34, 3, 240, 159] : List Nat), u ≠ 83 ∧ u ≠ 85) t ((hU2 y hy hl).2 cs t fr hh)
/-- .. and was told of it. -/
def PE (x : Pl25) (o av : Value) (cs : Array Value) (w : World) : Prop := (∃ bv al, cs = sch x.d.N x.d.P o bv av true al 5) ∧ Up x.lw x.w0 w
theorem PE.cl (x : Pl25) (o av : Value) (cs : Array Value) : Cl x.lw (PE x o av cs) := ⟨fun _ _ _ h hc _ hl => ⟨h.1, h.2.then hc (fun y hy _ => hl y hy)⟩⟩
set_option maxRecDepth 100000 in
theorem st5 (x : Pl25) (w : World) {c na : Nat} {av : Value} (h : StgD x (.slice (some ⟨x.g, 10, none⟩) 1 c) av true 1 4 na w) (hKl : x.lw ≤ x.K) (hlw : x.lw ≤ w.heap.size) (hc : 1 ≤ c) (hna : na ≤ 900) :
    Calls Tryz.prog 10 #[.pointer (some ⟨x.K, 0, none⟩), .int .i64 1] w fun e w' => e = .returned (.tuple #[.agg #[.int .i64 4, .int .i64 0, .int .i64 0, .int .i64 1, .slice none 0 0], .int .i64 0]) ∧ Up x.lw x.w0 w' := by
  obtain ⟨T, W, rw, Q, V, Bb, bv, al, s, g, xs, hB, hbg, hS, htab, hT, hb, ho⟩ := h
  obtain ⟨cur, hr, -, -, -, -, -, -, -, -, -, -, q0, q1, q2, q3, q4⟩ := hb.ops.row
  have hgK : x.g ≠ x.K := heap_ne hr hB (by simp)
  refine (step_told w (P := PE x (.slice (some ⟨x.g, 10, none⟩) 1 c) av) (q := true) (av := av) (na := na) (m := 0) (x0 := 4) (x1 := 0) (x2 := 0) (x3 := 1) hlw hKl (fun cs => PE.cl x _ _ cs) hB rfl rfl rfl ⟨by decide, by decide⟩ hc (cell_is hr 10 q0) (cell_is hr 11 q1) (cell_is hr 12 q2) (cell_is hr 13 q3) (cell_is hr 14 q4) hgK ?_ ?_ ho hna).mono ?_
  · intro wx kx hBx
    have tK := (chgK hB).k66
    have hlK : ∀ y ∈ [x.K], x.lw ≤ y := fun y hy => by rw [List.mem_singleton] at hy; omega
    have hSx := hS.tp149 kx tK
    have hbgx := hbg.keep kx (beg_ne tK (by decide))
    have hbx := hb.tp kx tK (by decide) hlK
    have hTK : T ∉ [x.K] := by
      intro hm
      rw [List.mem_singleton] at hm
      subst hm
      rw [show w.heap[x.K]? = _ from hB] at hT
      cases hT
    have hTx := kx.heap hT hTK
    have hlx : x.lw ≤ wx.heap.size := Nat.le_trans hlw kx.size
    obtain ⟨gb, cb, rfl, g0⟩ := hbgx.at_
    refine do_call wx (kind := 4) (h := 1) (nb := 1) (Or.inr rfl) hlx (fun cs => PE.cl x _ _ cs) (cell_is hBx 3 rfl) (by decide) g0 (cell_is hbgx.2.1 0 rfl) (by decide) (fun wy ky => ?_)
    refine ccall_c wy (Nat.le_trans hlx ky.size) (fun cs => PE.cl x _ _ cs) (fun wz kz => ?_)
    have kyz := ky.then kz
    have hBz : SchB wz x.K _ := kyz.heap hBx (by simp)
    have hbgz := hbgx.keep kyz (fun y hy => by cases hy)
    have hTz := kyz.heap hTx (by simp)
    refine (commit_told wz (K := x.K) (Bb := Bb) (d := dT x.d T W rw Q V) (h := 1) (k := 1) (ev := 5) (x2 := 0) hBz rfl rfl rfl hbgz.2.1 rfl rfl (hSx.keep kyz) htab (cell_is hTz 0 rfl) (cell_is hTz 1 rfl) (cell_is hTz 2 rfl)).mono ?_
    rintro e w' ⟨rfl, -, hch, -⟩
    refine ⟨rfl, _, ⟨⟨_, _, rfl⟩, (hbx.up.then kyz (fun y hy => by cases hy)).then hch (fun y hy _ => by rw [List.mem_singleton] at hy; subst hy; exact hbgz.2.2)⟩, hch.heap hBz ?_, fun y cs hy => hch.heap hy ?_⟩
    · intro hm
      rw [List.mem_singleton] at hm
      exact heap_ne hBz hbgz.2.1 (by simp) hm
    · intro hm
      rw [List.mem_singleton] at hm
      subst hm
      rw [hbgz.2.1] at hy
      cases hy
  · rintro cs2 w2 ⟨⟨bv, al, rfl⟩, -⟩
    exact ⟨rfl, rfl, rfl⟩
  · rintro e w' ⟨rfl, av', cs2, hP, -, -⟩
    exact ⟨rfl, hP.2⟩
end Go.Proofs.YtliicpedddcfiaaGreat
namespace Go.Proofs.YtliicpedddcfiaaGreat
open Go.RowKit Go.Lib

set_option maxRecDepth 100000 in
theorem bytes_none (w : World) : Calls Tryz.prog 24 #[.slice none 0 0, .slice none 0 0] w fun e w' => e = .returned (.bool true) ∧ w = w' := by
  go_enter Tryz.func24, Tryz.ntmps24
  go_wp2_with fail
  go_loopw [5] (fun i wr => i = .int .i64 0 ∧ w = wr) (fun _ _ => 0)
  case atStart => exact ⟨rfl, rfl⟩
  case round =>
    obtain ⟨rfl, rfl⟩ := hrel
    go_wp2_with fail
    go_ret
    exact ⟨rfl, rfl⟩
set_option maxRecDepth 100000 in
set_option maxHeartbeats 1000000 in
theorem answer_same (w : World) {a b c d : Int} : Calls Tryz.prog 11 #[.agg #[.int .i64 a, .int .i64 b, .int .i64 c, .int .i64 d, .slice none 0 0], .agg #[.int .i64 a, .int .i64 b, .int .i64 c, .int .i64 d, .slice none 0 0]] w fun e w' => e = .returned (.bool true) ∧ Chg [] w w' := by
  have kk : Chg [] w ((w.alloc (.cells #[.int .i64 a, .int .i64 b, .int .i64 c, .int .i64 d, .slice none 0 0] 39)).alloc (.cells #[.int .i64 a, .int .i64 b, .int .i64 c, .int .i64 d, .slice none 0 0] 39)) := (Chg.alloc w _).then_alloc _
  obtain ⟨y1, y2⟩ := heap_new2 w (.cells #[.int .i64 a, .int .i64 b, .int .i64 c, .int .i64 d, .slice none 0 0] 39) (.cells #[.int .i64 a, .int .i64 b, .int .i64 c, .int .i64 d, .slice none 0 0] 39)
  have hz1 := heap_lt y1
  have HQ := Lib.hid kk
  generalize hw0 : (w.alloc (.cells #[.int .i64 a, .int .i64 b, .int .i64 c, .int .i64 d, .slice none 0 0] 39)).alloc (.cells #[.int .i64 a, .int .i64 b, .int .i64 c, .int .i64 d, .slice none 0 0] 39) = w0 at *
  have c0 := cell_is y1 0 rfl
  have c1 := cell_is y1 1 rfl
  have c2 := cell_is y1 2 rfl
  have c3 := cell_is y1 3 rfl
  have c4 := cell_is y1 4 rfl
  have d0 := cell_is y2 0 rfl
  have d1 := cell_is y2 1 rfl
  have d2 := cell_is y2 2 rfl
  have d3 := cell_is y2 3 rfl
  have d4 := cell_is y2 4 rfl
  generalize hz : w.heap.size = z at *
  go_enter Tryz.func11, Tryz.ntmps11
  go_wp2_with fail
  refine (bytes_none _).mono ?_
  rintro e w1 ⟨rfl, rfl⟩
  go_wp2_with fail
  go_ret
  exact ⟨rfl, HQ.out⟩
end Go.Proofs.YtliicpedddcfiaaGreat
namespace Go.Proofs.YtliicpedddcfiaaGreat
open Go.RowKit Go.Lib

theorem sch_set (N P : Nat) (o o' b a : Value) (q : Bool) (al : Value) (ev : Int) {cs' : Array Value} (h2 : cs'[2]? = some o') (hr : ∀ j, j ≠ 2 → cs'[j]? = (sch N P o b a q al ev)[j]?) : cs' = sch N P o' b a q al ev := by
  refine Array.ext_getElem? (fun i => ?_)
  by_cases hi : i = 2
  · subst hi
    rw [h2]
    rfl
  · rw [hr i hi, show sch N P o' b a q al ev = (sch N P o b a q al ev).setIfInBounds 2 o' from rfl, Array.getElem?_setIfInBounds_ne (Ne.symm hi)]
set_option maxRecDepth 100000 in
theorem add25 (wx : World) {w1 : World} {lw C K R D E0 Eo : Nat} {d : Ids} {ops : Int} {r : List UInt8} (k : Chg [] w1 wx) (hS : Sto w1 lw d (s00 lw) (g00 lw ops)) (hK : SchB w1 K (sch d.N d.P (.slice none 0 0) (.slice none 0 0) (.slice none 0 0) false (.slice none 0 0) 0))
    (hC : w1.heap[C]? = some (.cells #[.pointer (some ⟨K, 0, none⟩), .pointer (some ⟨R, 0, none⟩), .int .i64 0] 58 (0, 0))) (hlw : lw ≤ w1.heap.size) (hKl : lw ≤ K) (hD : Fo wx D r) (hE0 : wx.heap[E0]? = some (.cells #[.int .i64 1, .slice (some ⟨D, 0, none⟩) 40 40] 37 (0, 0)))
    (hEo : wx.heap[Eo]? = some (.cells #[.int .i64 1, .int .i64 0, .int .i64 0, .int .i64 0, .slice none 0 0, .int .i64 3, .int .i64 0, .int .i64 0, .int .i64 0, .slice (some ⟨E0, 0, none⟩) 1 1, .int .i64 4, .int .i64 0, .int .i64 0, .int .i64 0, .slice none 0 0] 33 (0, 0))) :
    Calls Tryz.prog 8 #[.pointer (some ⟨K, 0, none⟩), .int .i64 1, .slice (some ⟨Eo, 0, none⟩) 3 3] wx fun e w' => e = .returned (.int .i64 0) ∧ ∃ g E D' cE cD c, 3 ≤ c ∧ Sto w' lw d (s00 lw) (g00 lw ops) ∧
      SchB w' K (sch d.N d.P (.slice (some ⟨g, 0, none⟩) 3 c) (.slice none 0 0) (.slice none 0 0) false (.slice none 0 0) 0) ∧ Bas w1 lw C K R g E D' cE cD r w' := by
  have hKx : SchB wx K _ := k.heap hK (by simp)
  have hG : OpsG wx Eo [⟨1, 0, 0, 0, none⟩, ⟨3, 0, 0, 0, some (1, r)⟩, ⟨4, 0, 0, 0, none⟩] := by
    refine ⟨⟨_, hEo⟩, fun i s hs => ?_⟩
    match i with
    | 0 =>
      cases hs
      refine ⟨_, ⟨_, rfl, Or.inl ⟨rfl, rfl⟩⟩, fun j y hy => ?_⟩
      match j with
      | 0 => cases hy; exact cell_is hEo 0 rfl
      | 1 => cases hy; exact cell_is hEo 1 rfl
      | 2 => cases hy; exact cell_is hEo 2 rfl
      | 3 => cases hy; exact cell_is hEo 3 rfl
      | 4 => cases hy; exact cell_is hEo 4 rfl
      | j + 5 => simp at hy
    | 1 =>
      cases hs
      refine ⟨_, ⟨_, rfl, Or.inr ⟨1, r, E0, 0, 1, D, 40, rfl, rfl, cell_is hE0 0 rfl, cell_is hE0 1 rfl, hD.bs, hD.1, _, _, hE0, hD.2⟩⟩, fun j y hy => ?_⟩
      match j with
      | 0 => cases hy; exact cell_is hEo 5 rfl
      | 1 => cases hy; exact cell_is hEo 6 rfl
      | 2 => cases hy; exact cell_is hEo 7 rfl
      | 3 => cases hy; exact cell_is hEo 8 rfl
      | 4 => cases hy; exact cell_is hEo 9 rfl
      | j + 5 => simp at hy
    | 2 =>
      cases hs
      refine ⟨_, ⟨_, rfl, Or.inl ⟨rfl, rfl⟩⟩, fun j y hy => ?_⟩
      match j with
      | 0 => cases hy; exact cell_is hEo 10 rfl
      | 1 => cases hy; exact cell_is hEo 11 rfl
      | 2 => cases hy; exact cell_is hEo 12 rfl
      | 3 => cases hy; exact cell_is hEo 13 rfl
      | 4 => cases hy; exact cell_is hEo 14 rfl
      | j + 5 => simp at hy
    | i + 3 => simp at hs
  refine (sadd_ok wx (c := 3) (lo := lw) (old := []) (xs := []) hKx rfl ⟨by decide, by decide⟩ rfl (World.ownsRow_nil _ _ _ _) rfl (Nat.le_trans hlw k.size) hG (by intro h; cases h) (show 0 + 3 ≤ 200 by decide)).mono ?_
  rintro e w' ⟨rfl, cs', v', xs', hr⟩
  refine ⟨rfl, ?_⟩
  have hown : w'.ownsRow lw 33 5 v' 3 xs' := hr.own
  obtain ⟨g, c, rfl⟩ := own_some hown (by decide)
  have hcs : cs' = _ := sch_set _ _ _ _ _ _ _ _ _ hr.at_ hr.rest
  have hB : SchB w' K _ := hcs ▸ hr.blk
  have hch : Chg [K] wx w' := hr.chg
  have hops : OpsL w' lw [⟨1, 0, 0, 0, none⟩, ⟨3, 0, 0, 0, some (1, r)⟩, ⟨4, 0, 0, 0, none⟩] xs' := hr.ops
  obtain ⟨u1, y1, rfl, ⟨p1, rfl, h1⟩, u2, y2, rfl, ⟨p2, rfl, h2⟩, u3, y3, rfl, ⟨p3, rfl, h3⟩, rfl⟩ := hops
  obtain ⟨-, rfl⟩ : (none : Option (Int × List UInt8)) = none ∧ p1 = .slice none 0 0 := by
    rcases h1 with h | ⟨b, dl, h, -⟩
    · exact h
    · cases h
  obtain ⟨-, rfl⟩ : (none : Option (Int × List UInt8)) = none ∧ p3 = .slice none 0 0 := by
    rcases h3 with h | ⟨b, dl, h, -⟩
    · exact h
    · cases h
  obtain ⟨E, cE, D', cD, ce, rfl, hlE, hlD, hE, hce0, hce1, hbs, hl, hbt⟩ : PutOf w' lw p2 1 r := by
    rcases h2 with ⟨h, -⟩ | ⟨b, dl, h, hp⟩
    · cases h
    · cases h
      exact hp
  have tK : Tp wx [K] [72, 39] := (chgK hKx).k66
  rcases hown.2 with ⟨e, h0⟩ | ⟨g', cap, cur, e, hA, hg, hc1, hc2, hc3, ht⟩
  · cases h0
  cases e
  have hcell : ∀ i v, i < 15 → ([.int .i64 1, .int .i64 0, .int .i64 0, .int .i64 0, .slice none 0 0] ++ ([.int .i64 3, .int .i64 0, .int .i64 0, .int .i64 0, .slice (some ⟨E, 0, none⟩) 1 cE] ++ ([.int .i64 4, .int .i64 0, .int .i64 0, .int .i64 0, .slice none 0 0] ++ [])) : List Value)[i]? = some v → cur[i]? = some v := fun i v hi hv => by
    have : (cur.toList.take (3 * 5))[i]? = some v := by rw [ht]; exact hv
    rwa [List.getElem?_take_of_lt (by omega), Array.getElem?_toList] at this
  refine ⟨g, E, D', cE, cD, c, by simpa using hc1, (hS.keep k).tp149 hch tK, hB, (Up.of0 k).then hch (fun y hy _ => by rw [List.mem_singleton] at hy; omega), hch.heap (k.heap hC (by simp)) ?_, ⟨⟨cur, hg, hcell 0 _ (by decide) rfl, hcell 1 _ (by decide) rfl, hcell 2 _ (by decide) rfl, hcell 3 _ (by decide) rfl, hcell 4 _ (by decide) rfl, hcell 5 _ (by decide) rfl, hcell 6 _ (by decide) rfl, hcell 7 _ (by decide) rfl, hcell 8 _ (by decide) rfl, hcell 9 _ (by decide) rfl, hcell 10 _ (by decide) rfl, hcell 11 _ (by decide) rfl, hcell 12 _ (by decide) rfl, hcell 13 _ (by decide) rfl, hcell 14 _ (by decide) rfl⟩, ⟨ce, hE, hce0, hce1⟩, hbs, hl, hbt⟩⟩
  intro hm
  rw [List.mem_singleton] at hm
  exact heap_ne (k.heap hC (by simp)) hKx (by simp) hm
end Go.Proofs.YtliicpedddcfiaaGreat
namespace Go.Proofs.YtliicpedddcfiaaGreat
open Go.RowKit Go.Lib

theorem Stg.size {x : Pl25} {o av : Value} {q : Bool} {fr ev : Int} {k na : Nat} {w : World} (h : Stg x o av q fr ev k na w) (h0 : x.lw ≤ x.w0.heap.size) : x.lw ≤ w.heap.size := by
  obtain ⟨cs, xs, ⟨T, base, W, rw, Q, V, Bb, bv, al, qf, L, -, -, -, -, hb⟩, -⟩ := h
  obtain ⟨U, h1, -⟩ := hb.up
  exact Nat.le_trans h0 h1.size
theorem StgW.size {x : Pl25} {o av : Value} {q : Bool} {fr ev : Int} {na : Nat} {w : World} (h : StgW x o av q fr ev na w) (h0 : x.lw ≤ x.w0.heap.size) : x.lw ≤ w.heap.size := by
  obtain ⟨cs, xs, ⟨T, W, rw, Q, V, Bb, bv, al, qf, L, gq, cq, -, -, -, -, -, -, hb⟩, -⟩ := h
  obtain ⟨U, h1, -⟩ := hb.up
  exact Nat.le_trans h0 h1.size
theorem StgD.size {x : Pl25} {o av : Value} {q : Bool} {fr ev : Int} {na : Nat} {w : World} (h : StgD x o av q fr ev na w) (h0 : x.lw ≤ x.w0.heap.size) : x.lw ≤ w.heap.size := by
  obtain ⟨T, W, rw, Q, V, Bb, bv, al, s, g, xs, -, -, -, -, -, hb, -⟩ := h
  obtain ⟨U, h1, -⟩ := hb.up
  exact Nat.le_trans h0 h1.size
theorem Stg.wd {x : Pl25} {o av : Value} {q : Bool} {fr ev : Int} {k na : Nat} {w : World} (h : Stg x o av q fr ev k na w) : w.cell? ⟨x.C, 0, none⟩ = some (.pointer (some ⟨x.K, 0, none⟩)) := by
  obtain ⟨cs, xs, ⟨T, base, W, rw, Q, V, Bb, bv, al, qf, L, -, -, -, -, hb⟩, -⟩ := h
  exact cell_is hb.wd 0 rfl
theorem StgW.wd {x : Pl25} {o av : Value} {q : Bool} {fr ev : Int} {na : Nat} {w : World} (h : StgW x o av q fr ev na w) : w.cell? ⟨x.C, 0, none⟩ = some (.pointer (some ⟨x.K, 0, none⟩)) := by
  obtain ⟨cs, xs, ⟨T, W, rw, Q, V, Bb, bv, al, qf, L, gq, cq, -, -, -, -, -, -, hb⟩, -⟩ := h
  exact cell_is hb.wd 0 rfl
theorem StgD.wd {x : Pl25} {o av : Value} {q : Bool} {fr ev : Int} {na : Nat} {w : World} (h : StgD x o av q fr ev na w) : w.cell? ⟨x.C, 0, none⟩ = some (.pointer (some ⟨x.K, 0, none⟩)) := by
  obtain ⟨T, W, rw, Q, V, Bb, bv, al, s, g, xs, -, -, -, -, -, hb, -⟩ := h
  exact cell_is hb.wd 0 rfl
theorem StgW.keep {x : Pl25} {o av : Value} {q : Bool} {fr ev : Int} {na : Nat} {w w' : World} (h : StgW x o av q fr ev na w) (hc : Chg [] w w') : StgW x o av q fr ev na w' := by
  obtain ⟨cs, xs, h1, h2, h3⟩ := h
  exact ⟨cs, xs, (PW.cl x _ _ _ _ _ _).keep w w' [] h1 hc (fun y hy => by cases hy) (fun y hy => by cases hy), hc.heap h2 (by simp), own_keep h3 hc.below0⟩
set_option maxRecDepth 100000 in
set_option maxHeartbeats 4000000 in
theorem awake25 (w : World) : Calls Tryz.prog 5 #[] w fun e w' => e = .returned (.bool true) ∧ Chg [] w w' := by
  go_enter Tryz.func5, Tryz.ntmps5
  go_wp2_with fail
  refine (fresh25 w).mono ?_
  rintro e w1 ⟨C, K, R, d, ops, lw, rfl, k1, hl0, hKl, hCl, hlw, hC, hS, hops, hK⟩
  have c0 : w1.cell? ⟨C, 0, none⟩ = some (.pointer (some ⟨K, 0, none⟩)) := cell_is hC 0 rfl
  have c0d : w1.drew.cell? ⟨C, 0, none⟩ = some (.pointer (some ⟨K, 0, none⟩)) := c0
  have kd : Chg [] w1 w1.drew := (Chg.refl [] w1).drew
  have HX := Lib.hid (And.intro k1 (And.intro hC (And.intro hS (And.intro hK kd))))
  have HI := Lib.hid (And.intro hl0 (And.intro hKl (And.intro hCl (And.intro hlw hops))))
  clear k1 hC hS hK kd hl0 hKl hCl hlw hops
  go_wp2_with fail
  go_region_law
    (first
      | (go_simp; go_at_call 9; refine (data_ok w1.drew 1).mono ?_; rintro e w2 ⟨D, r, rfl, k2, hD, hF⟩; have s2 := k2.cell c0d (by simp); have kA : Chg [] w2 (w2.alloc (.cells #[.int .i64 1, .slice (some ⟨D, 0, none⟩) 40 40] 37)) := Chg.alloc w2 _; have sA := kA.cell s2 (by simp); have kB : Chg [] w2 ((w2.alloc (.cells #[.int .i64 1, .slice (some ⟨D, 0, none⟩) 40 40] 37)).alloc (.cells #[.int .i64 1, .int .i64 0, .int .i64 0, .int .i64 0, .slice none 0 0, .int .i64 3, .int .i64 0, .int .i64 0, .int .i64 0, .slice (some ⟨w2.heap.size, 0, none⟩) 1 1, .int .i64 4, .int .i64 0, .int .i64 0, .int .i64 0, .slice none 0 0] 33)) := kA.then_alloc _; have sB := kB.cell s2 (by simp); have y2 := heap_new2 w2 (.cells #[.int .i64 1, .slice (some ⟨D, 0, none⟩) 40 40] 37) (.cells #[.int .i64 1, .int .i64 0, .int .i64 0, .int .i64 0, .slice none 0 0, .int .i64 3, .int .i64 0, .int .i64 0, .int .i64 0, .slice (some ⟨w2.heap.size, 0, none⟩) 1 1, .int .i64 4, .int .i64 0, .int .i64 0, .int .i64 0, .slice none 0 0] 33); have hFB : Fo ((w2.alloc (.cells #[.int .i64 1, .slice (some ⟨D, 0, none⟩) 40 40] 37)).alloc (.cells #[.int .i64 1, .int .i64 0, .int .i64 0, .int .i64 0, .slice none 0 0, .int .i64 3, .int .i64 0, .int .i64 0, .int .i64 0, .slice (some ⟨w2.heap.size, 0, none⟩) 1 1, .int .i64 4, .int .i64 0, .int .i64 0, .int .i64 0, .slice none 0 0] 33)) D r := ⟨hF.1, kB.heap hF.2 (by simp)⟩)
      | (go_simp; go_at_call 8; refine (add25 _ (R := R) ((HX.out.2.2.2.2.then k2).then kB) HX.out.2.2.1 HX.out.2.2.2.1 HX.out.2.1 HI.out.2.2.2.1 HI.out.2.1 hFB y2.1 y2.2).mono ?_; rintro e w5 ⟨rfl, g, E, D', cE, cD, c, hc3, hS5, hB5, hb5⟩; have s5 : w5.cell? ⟨C, 0, none⟩ = some (.pointer (some ⟨K, 0, none⟩)) := cell_is hb5.wd 0 rfl))
  all_goals
    have hs5 : lw ≤ w5.heap.size := by
      obtain ⟨U, h1, -⟩ := hb5.up
      exact Nat.le_trans HI.out.2.2.2.1 h1.size
    have H5 := Lib.hid (st1 ⟨w1, lw, C, K, R, g, E, D', cE, cD, r, d, ops⟩ w5 hS5 hB5 hb5 HI.out.2.1 hs5 hc3)
    clear c0 c0d k2 hF s2 kA sA kB sB y2 hFB hS5 hB5 hb5 hs5
    go_wp2_with fail
    refine H5.out.mono ?_
    rintro e w6 ⟨v6, av6, rfl, h6⟩
    have s6 : w6.cell? ⟨C, 0, none⟩ = some (.pointer (some ⟨K, 0, none⟩)) := h6.wd
    have H6 := Lib.hid (st2 _ w6 h6 HI.out.2.1 (h6.size HI.out.2.2.2.1) (by omega) (by decide))
    clear H5 s5 h6
    go_wp2_with fail
    refine H6.out.mono ?_
    rintro e w7 ⟨v7, av7, rfl, h7⟩
    have s7 : w7.cell? ⟨C, 0, none⟩ = some (.pointer (some ⟨K, 0, none⟩)) := h7.wd
    have H7 := Lib.hid (st3 _ w7 h7 HI.out.2.1 (h7.size HI.out.2.2.2.1) (by omega))
    clear H6 s6 h7
    go_wp2_with fail
    refine H7.out.mono ?_
    rintro e w8 ⟨rfl, h8⟩
    have k8 : Chg [] w8 (w8.alloc (.cells #[.int .i64 0, .int .i64 0, .int .i64 0, .int .i64 0, .slice none 0 0] 39)) := Chg.alloc w8 _
    have h8' := h8.keep k8
    have s8 : (w8.alloc (.cells #[.int .i64 0, .int .i64 0, .int .i64 0, .int .i64 0, .slice none 0 0] 39)).cell? ⟨C, 0, none⟩ = some (.pointer (some ⟨K, 0, none⟩)) := h8'.wd
    have H8 := Lib.hid (st4 _ _ h8' HI.out.2.1 (h8'.size HI.out.2.2.2.1) HI.out.2.2.2.2)
    clear H7 s7 h8 k8 h8'
    go_wp2_with fail
    refine H8.out.mono ?_
    rintro e w9 ⟨rfl, h9⟩
    have s9 : w9.cell? ⟨C, 0, none⟩ = some (.pointer (some ⟨K, 0, none⟩)) := h9.wd
    have H9 := Lib.hid (st5 _ w9 h9 HI.out.2.1 (h9.size HI.out.2.2.2.1) (by omega) (by decide))
    clear H8 s8 h9
    go_wp2_with fail
    refine H9.out.mono ?_
    rintro e w10 ⟨rfl, h10⟩
    have k10 := Lib.hid (Up.chg0 HX.out.1 h10 HI.out.1)
    have y10 := heap_new w10 (.cells #[.int .i64 4, .int .i64 0, .int .i64 0, .int .i64 1, .slice none 0 0] 39)
    have d0 := cell_is y10 0 rfl
    have d1 := cell_is y10 1 rfl
    have d2 := cell_is y10 2 rfl
    have d3 := cell_is y10 3 rfl
    have d4 := cell_is y10 4 rfl
    clear H9 s9 h10
    go_wp2_with fail
    refine (answer_same _).mono ?_
    rintro e w11 ⟨rfl, k11⟩
    have k12 := Lib.hid ((k10.out.then_alloc _).then k11)
    clear k11 d0 d1 d2 d3 d4 y10
    go_wp2_with fail
    go_ret
    exact ⟨rfl, k12.out⟩
end Go.Proofs.YtliicpedddcfiaaGreat
namespace Go.Proofs.YtliicpedddcfiaaGreat.Sw
open Go.RowKit Go.Lib

theorem opsG4 {w : World} {E i : Nat} {l : List UInt8} {v : Value} (hE : w.heap[E]? = some (.cells #[.int .i64 1, .int .i64 0, .int .i64 0, .int .i64 0, .slice none 0 0, .int .i64 3, .int .i64 0, .int .i64 0, .int .i64 0, v, .int .i64 4, .int .i64 0, .int .i64 0, .int .i64 0, .slice none 0 0, .int .i64 1, .int .i64 0, .int .i64 0, .int .i64 0, .slice none 0 0] 33 (0, 0)))
    (hv : OpG w (opW i l) [.int .i64 3, .int .i64 0, .int .i64 0, .int .i64 0, v]) : OpsG w E [opB, opW i l, opC, opB] := by
  have h0 : ∀ {k : Int}, OpG w ⟨k, 0, 0, 0, none⟩ [.int .i64 k, .int .i64 0, .int .i64 0, .int .i64 0, .slice none 0 0] := ⟨_, rfl, Or.inl ⟨rfl, rfl⟩⟩
  refine ⟨⟨_, hE⟩, fun k s hs => ?_⟩
  match k, hs with
  | 0, hs =>
    cases hs
    refine ⟨_, h0, fun j x hx => ?_⟩
    match j, hx with
    | 0, hx => cases hx; exact cell_is hE 0 rfl
    | 1, hx => cases hx; exact cell_is hE 1 rfl
    | 2, hx => cases hx; exact cell_is hE 2 rfl
    | 3, hx => cases hx; exact cell_is hE 3 rfl
    | 4, hx => cases hx; exact cell_is hE 4 rfl
    | j + 5, hx => simp at hx
  | 1, hs =>
    cases hs
    refine ⟨_, hv, fun j x hx => ?_⟩
    match j, hx with
    | 0, hx => cases hx; exact cell_is hE 5 rfl
    | 1, hx => cases hx; exact cell_is hE 6 rfl
    | 2, hx => cases hx; exact cell_is hE 7 rfl
    | 3, hx => cases hx; exact cell_is hE 8 rfl
    | 4, hx => cases hx; exact cell_is hE 9 rfl
    | j + 5, hx => simp at hx
  | 2, hs =>
    cases hs
    refine ⟨_, h0, fun j x hx => ?_⟩
    match j, hx with
    | 0, hx => cases hx; exact cell_is hE 10 rfl
    | 1, hx => cases hx; exact cell_is hE 11 rfl
    | 2, hx => cases hx; exact cell_is hE 12 rfl
    | 3, hx => cases hx; exact cell_is hE 13 rfl
    | 4, hx => cases hx; exact cell_is hE 14 rfl
    | j + 5, hx => simp at hx
  | 3, hs =>
    cases hs
    refine ⟨_, h0, fun j x hx => ?_⟩
    match j, hx with
    | 0, hx => cases hx; exact cell_is hE 15 rfl
    | 1, hx => cases hx; exact cell_is hE 16 rfl
    | 2, hx => cases hx; exact cell_is hE 17 rfl
    | 3, hx => cases hx; exact cell_is hE 18 rfl
    | 4, hx => cases hx; exact cell_is hE 19 rfl
    | j + 5, hx => simp at hx
  | k + 4, hs => simp at hs
/-- the start. -/
theorem Wst.start {x : Pl3} {N : Nat} (hS : Sto x.w0 x.lw x.d (s00 x.lw) (g00 x.lw x.ops)) (hB : SchB x.w0 x.K (sch N x.d.P (.slice none 0 0) (.slice none 0 0) (.slice none 0 0) false (.slice none 0 0) 0)) : Wst x 0 0 x.w0 := by
  have hn : ∀ {e z}, x.w0.ownsRow x.lw e z (.slice none 0 0) 0 [] := World.ownsRow_nil _ _ _ _
  refine ⟨.slice none 0 0, [], [], [], fun _ => ⟨.slice none 0 0, [], .slice none 0 0, [], .slice none 0 0, 0, false⟩, [], 0, ⟨⟨fun p hp => (by cases hp), Nat.le_refl _, fun h h1 h2 => by omega⟩, ⟨rfl, fun a ha => absurd ha (Nat.not_lt_zero _), List.nodup_nil, fun y hy => (by cases hy)⟩⟩, ⟨.slice none 0 0, _, ⟨rfl, rfl, rfl, fun j hj => ?_, fun j _ => OpsA.nil _ _, fun j _ => hn, ⟨[], hn⟩, fun j _ y hy => (by cases hy), fun j k _ _ _ y hy => (by cases hy)⟩, hB, ⟨fun j _ => ⟨[], hn⟩, fun j k _ _ _ y hy => (by cases hy)⟩⟩, hS, ⟨hn, fun y hy => (by cases hy)⟩, fun a ha => absurd ha (Nat.not_lt_zero _), fun a _ _ => ⟨rfl, rfl, rfl, rfl, rfl⟩, ⟨Up.of0 (Chg.refl _ _), fun p hp => (by cases hp), fun p hp => (by cases hp)⟩, Int.le_refl _, Int.le_refl _⟩
  match j, hj with
  | 0, _ => exact ⟨rfl, rfl, rfl, rfl⟩
  | 1, _ => exact ⟨rfl, rfl, rfl, rfl⟩
  | 2, _ => exact ⟨rfl, rfl, rfl, rfl⟩
  | 3, _ => exact ⟨rfl, rfl, rfl, rfl⟩
  | 4, _ => exact ⟨rfl, rfl, rfl, rfl⟩
  | 5, _ => exact ⟨rfl, rfl, rfl, rfl⟩
  | 6, _ => exact ⟨rfl, rfl, rfl, rfl⟩
  | 7, _ => exact ⟨rfl, rfl, rfl, rfl⟩
  | j + 8, h => omega
theorem Wst.more {x : Pl3} {i : Nat} {e e' : Int} {w : World} (h : Wst x i e w) (he : e ≤ e') : Wst x i e' w := by
  obtain ⟨qv, Lb, Lr, xs, cl, bl, ev, h1, h2, h3, h4, h5, h6, h7, h8, h9⟩ := h
  exact ⟨qv, Lb, Lr, xs, cl, bl, ev, h1, h2, h3, h4, h5, h6, h7, h8, by omega⟩
theorem Fst.more {x : Pl3} {m i : Nat} {e e' : Int} {w : World} (h : Fst x m i e w) (he : e ≤ e') : Fst x m i e' w := by
  obtain ⟨s, g, Tf, tc, bl, cl, ev, h1, h2, h3, h4, h5, h6, h7, h8⟩ := h
  exact ⟨s, g, Tf, tc, bl, cl, ev, h1, h2, h3, h4, h5, h6, h7, by omega⟩
theorem FT.keep0 {x : Pl3} {m i : Nat} {e : Int} {w w' : World} (h : FT x m i e w) (hc : Chg [] w w') : FT x m i e w' := by
  obtain ⟨s, g, Tf, tc, bl, cl, ev, Bb, h1, o1, o2, o3, h2, h3, h4, h5, h6, h7⟩ := h
  exact ⟨s, g, Tf, tc, bl, cl, ev, Bb, h1, o1, o2, o3, h2.keep0 hc, h3.keep hc, own_keep h4 hc.below0, (RT.rk x.lw m Tf tc).keep0 h5 hc, h6.keep0 hc, h7⟩
/-- ahead of a step that waits: the commit was written, or was asked. -/
def WQ (x : Pl3) (i q : Nat) (l : List UInt8) (w : World) : Prop := (q = 0 ∧ WC x i l (30 * i + 2) w) ∨ (0 < q ∧ Wst x (i + 1) (30 * i + 2 + q) w)
theorem sw_wait (x : Pl3) (w : World) {i q : Nat} {l : List UInt8} (hi : i < 7) (hq : q ≤ 100) (h : WQ x i q l w) :
    Calls Tryz.prog 10 #[.pointer (some ⟨x.K, 0, none⟩), .int .i64 ((i + 1 : Nat) : Int)] w fun e' w' => e' = .returned (.tuple #[.agg #[.int .i64 0, .int .i64 0, .int .i64 0, .int .i64 0, .slice none 0 0], .int .i64 16]) ∧ Wst x (i + 1) (30 * i + 2 + ((q + 1 : Nat) : Int)) w' := by
  rcases h with ⟨rfl, h⟩ | ⟨_, h⟩
  · exact sw_ask x w hi (by omega) h
  · refine (sw_again x w hi (by omega) h).mono ?_
    rintro e' w' ⟨rfl, h'⟩
    refine ⟨rfl, ?_⟩
    rw [show (30 * (i : Int) + 2 + ((q + 1 : Nat) : Int)) = 30 * (i : Int) + 2 + (q : Int) + 1 by omega]
    exact h'
theorem sw_left (x : Pl3) (w : World) {i : Nat} {e : Int} (hi : i < 7) (h : Wst x (i + 1) e w) : Calls Tryz.prog 12 #[.pointer (some ⟨x.K, 0, none⟩), .int .i64 ((i + 1 : Nat) : Int)] w fun e' w' => e' = .returned (.int .i64 2) ∧ w = w' := by
  obtain ⟨qv, Lb, Lr, xs, cl, bl, ev, h1, ⟨al, cs, hM, hB, hA⟩, h3, h4, h5, h6, h7, h8, h9⟩ := h
  have hops := hM.ops i (by omega)
  rw [(h5 i (by omega)).1] at hops
  obtain ⟨g, off, c, pp, pn, pc, eo, -⟩ := hops.head
  have hcell := (hM.cell i (by omega)).1
  rw [eo] at hcell
  exact left_in w hB hM.c1 ⟨by omega, by omega⟩ (by rw [← cli_nat]; exact hcell)
set_option maxRecDepth 100000 in
set_option maxHeartbeats 8000000 in
theorem law3_in (n m : Nat) (b : Bool) (w : World) (hn : n ≤ 20) (hm : m ≤ 6) : Calls Tryz.prog 3 #[.int .i64 n, .int .i64 m, .bool b] w fun e w' => e = .returned (.bool true) ∧ Chg [] w w' := by
  have n1 : decide ((n : Int) < 0) = false := decide_eq_false (by omega)
  have n2 : decide (20 < (n : Int)) = false := decide_eq_false (by omega)
  have n3 : decide ((m : Int) < 0) = false := decide_eq_false (by omega)
  have n4 : decide (6 < (m : Int)) = false := decide_eq_false (by omega)
  obtain ⟨mm, hmm⟩ : ∃ mm, mm = m + 1 := ⟨_, rfl⟩
  have n5 : IntKind.i64.wrap ((m : Int) + 1) = (mm : Int) := by rw [IntKind.wrap_i64]; omega
  have HM := Lib.hid (show mm = m + 1 ∧ 1 ≤ mm ∧ mm ≤ 7 from ⟨hmm, by omega, by omega⟩)
  clear hmm
  go_enter Tryz.func3, Tryz.ntmps3
  go_wp2_with fail
  refine (least25 w).mono ?_
  rintro e w1 ⟨rfl, k1⟩
  go_wp2_with fail
  refine (snew_any w1).mono ?_
  rintro e w2 ⟨K, d, ops, rfl, k2, lK, hS, hops, hB⟩
  have hlw : w1.heap.size ≤ w2.heap.size := k2.size
  have hw1 : w.heap.size ≤ w1.heap.size := k1.size
  have k12 := k1.then k2
  clear k1 k2
  obtain ⟨x, hx0, hxK, hxl, hst⟩ : ∃ x : Pl3, x.w0 = w2 ∧ x.K = K ∧ x.lw = w1.heap.size ∧ Wst x 0 0 w2 := ⟨⟨w2, w1.heap.size, K, d, ops, lK, hlw, hops⟩, rfl, rfl, rfl, Wst.start (x := ⟨w2, w1.heap.size, K, d, ops, lK, hlw, hops⟩) hS hB⟩
  subst hxK
  have HI := Lib.hid (And.intro k12 (And.intro hx0 (And.intro hxl hw1)))
  clear k12 hS hB lK hlw hw1 hx0 hxl
  have H0 := Lib.hid hst
  clear hst hops
  go_wp2_with fail
  go_loopw [9, 10, 11, 12] (fun c _ _ _ wr => ∃ i k : Nat, c = .int .i64 (k : Int) ∧ (i + 1 = k ∧ k ≤ mm + 1) ∧ Wst x i (30 * i) wr) (fun c _ _ _ _ => m + 3 - (intOf c).toNat)
  case atStart => exact ⟨0, 1, rfl, ⟨rfl, by have := HM.out; omega⟩, H0.out⟩
  case round =>
    obtain ⟨i, k, rfl, hik, hj7⟩ := hrel
    have HK := Lib.hid hik
    have HJ := Lib.hid hj7
    have hk8 : k ≤ 8 := by have := HM.out; omega
    clear hik hj7
    by_cases hlt : k ≤ mm
    · have m1 : decide ((k : Int) ≤ (mm : Int)) = true := decide_eq_true (by omega)
      have m2 : IntKind.i64.wrap ((k : Int) + 1) = ((k + 1 : Nat) : Int) := by rw [IntKind.wrap_i64]; omega
      have HL := Lib.hid (show i < 7 by have := HM.out; have := HK.out; omega)
      go_wp2_with fail
      refine (data_ok wr k).mono ?_
      rintro e w3 ⟨D, l, rfl, k3, hD, hF⟩
      have y3 := heap_new2 w3 (.cells #[.int .i64 k, .slice (some ⟨D, 0, none⟩) 40 40] 37) (.cells #[.int .i64 1, .int .i64 0, .int .i64 0, .int .i64 0, .slice none 0 0, .int .i64 3, .int .i64 0, .int .i64 0, .int .i64 0, .slice (some ⟨w3.heap.size, 0, none⟩) 1 1, .int .i64 4, .int .i64 0, .int .i64 0, .int .i64 0, .slice none 0 0, .int .i64 1, .int .i64 0, .int .i64 0, .int .i64 0, .slice none 0 0] 33)
      have kB3 : Chg [] w3 ((w3.alloc (.cells #[.int .i64 k, .slice (some ⟨D, 0, none⟩) 40 40] 37)).alloc (.cells #[.int .i64 1, .int .i64 0, .int .i64 0, .int .i64 0, .slice none 0 0, .int .i64 3, .int .i64 0, .int .i64 0, .int .i64 0, .slice (some ⟨w3.heap.size, 0, none⟩) 1 1, .int .i64 4, .int .i64 0, .int .i64 0, .int .i64 0, .slice none 0 0, .int .i64 1, .int .i64 0, .int .i64 0, .int .i64 0, .slice none 0 0] 33)) := (Chg.alloc w3 _).then_alloc _
      have HA := Lib.hid (sw_add x ((w3.alloc (.cells #[.int .i64 k, .slice (some ⟨D, 0, none⟩) 40 40] 37)).alloc (.cells #[.int .i64 1, .int .i64 0, .int .i64 0, .int .i64 0, .slice none 0 0, .int .i64 3, .int .i64 0, .int .i64 0, .int .i64 0, .slice (some ⟨w3.heap.size, 0, none⟩) 1 1, .int .i64 4, .int .i64 0, .int .i64 0, .int .i64 0, .slice none 0 0, .int .i64 1, .int .i64 0, .int .i64 0, .int .i64 0, .slice none 0 0] 33)) (c := 4) (l := l) (by have := HL.out; omega) (HJ.out.keep0 (k3.then kB3))
        (opsG4 y3.2 ⟨_, rfl, Or.inr ⟨(i : Int) + 1, l, w3.heap.size, 0, 1, D, 40, rfl, rfl, (by rw [show (i : Int) + 1 = (k : Int) by have := HK.out; omega]; exact cell_is y3.1 0 rfl), cell_is y3.1 1 rfl, hF.bs.chg kB3, hF.1, _, _, y3.1, kB3.heap hF.2 (by simp)⟩⟩))
      rw [HK.out.1] at HA
      clear y3 kB3 k3 hD hF
      go_wp2_with fail
      refine HA.out.mono ?_
      rintro e w4 ⟨rfl, h4⟩
      have HB := Lib.hid (sw_beg x w4 HL.out (by have := HL.out; omega) h4)
      rw [HK.out.1] at HB
      clear HA h4
      go_wp2_with fail
      refine HB.out.mono ?_
      rintro e w5 ⟨⟨v5, rfl⟩, h5⟩
      have HC := Lib.hid (sw_wri x w5 HL.out (by have := HL.out; omega) h5)
      rw [HK.out.1] at HC
      clear HB h5
      go_wp2_with fail
      refine HC.out.mono ?_
      rintro e w6 ⟨⟨v6, rfl⟩, h6⟩
      have H6 : Hid (WQ x i 0 l w6) := Lib.hid (Or.inl ⟨rfl, by rw [show 30 * (i : Int) + 2 = 30 * (i : Int) + 1 + 1 by omega]; exact h6⟩)
      clear HC h6
      go_wp2_with fail
      clear m1
      go_loopw [10, 11, 12] (fun c _ _ wr => ∃ q : Nat, c = .int .i64 (q : Int) ∧ q ≤ n + 1 ∧ WQ x i q l wr) (fun c _ _ _ => n + 1 - (intOf c).toNat)
      case atStart => exact ⟨0, rfl, Nat.zero_le _, H6.out⟩
      case round =>
        obtain ⟨q, rfl, hq, hq7⟩ := hrel
        by_cases hlq : q ≤ n
        · have m1 : decide ((q : Int) ≤ (n : Int)) = true := decide_eq_true (by omega)
          have m3 : IntKind.i64.wrap ((q : Int) + 1) = ((q + 1 : Nat) : Int) := by rw [IntKind.wrap_i64]; omega
          have HS := Lib.hid (sw_wait x _ HL.out (by omega) hq7)
          rw [HK.out.1] at HS
          clear hq7
          go_wp2_with fail
          refine HS.out.mono ?_
          rintro e w8 ⟨rfl, h8⟩
          have kZ : Chg [] w8 (w8.alloc (.cells #[.int .i64 0, .int .i64 0, .int .i64 0, .int .i64 0, .slice none 0 0] 39)) := Chg.alloc w8 _
          have yZ := heap_new w8 (.cells #[.int .i64 0, .int .i64 0, .int .i64 0, .int .i64 0, .slice none 0 0] 39)
          have H8 := Lib.hid (And.intro h8 kZ)
          have d0 := cell_is yZ 0 rfl
          have d1 := cell_is yZ 1 rfl
          have d2 := cell_is yZ 2 rfl
          have d3 := cell_is yZ 3 rfl
          have d4 := cell_is yZ 4 rfl
          clear h8 kZ yZ HS
          go_wp2_with fail
          refine (answer_same _).mono ?_
          rintro e w9 ⟨rfl, k9⟩
          have h9 : Wst x (i + 1) (30 * i + 2 + ((q + 1 : Nat) : Int)) w9 := by
            rw [HK.out.1]
            exact H8.out.1.keep0 (H8.out.2.then k9)
          have HLf := Lib.hid (sw_left x w9 HL.out h9)
          rw [HK.out.1] at HLf
          have H9 := Lib.hid h9
          clear h9 k9 d0 d1 d2 d3 d4
          go_wp2_with fail
          refine HLf.out.mono ?_
          rintro e w10 ⟨rfl, rfl⟩
          go_wp2_with fail
          go_roundw
          case rel => exact ⟨q + 1, rfl, by omega, Or.inr ⟨Nat.succ_pos q, H9.out⟩⟩
          case measure => simp [intOf]; omega
        · have m1 : decide ((q : Int) ≤ (n : Int)) = false := decide_eq_false (by omega)
          have H7 : Hid (Wst x (i + 1) (30 * ((i + 1 : Nat) : Int)) wr) := Lib.hid (by
            rcases hq7 with ⟨rfl, -⟩ | ⟨_, h⟩
            · omega
            · exact h.more (by omega))
          clear hq7 H6
          go_wp2_with fail
          go_roundw
          case rel => exact ⟨i + 1, k + 1, rfl, ⟨by have := HK.out; omega, by omega⟩, H7.out⟩
          case measure => have := HM.out; simp [intOf]; omega
    · have m1 : decide ((k : Int) ≤ (mm : Int)) = false := decide_eq_false (by omega)
      have hkm : k = mm + 1 := by have := HK.out; omega
      have HW : Hid (Wst x mm (30 * mm) wr) := Lib.hid (by
        have e : i = mm := by have := HK.out; omega
        rw [← e]
        exact HJ.out)
      clear HJ H0 n1 n2 n3 n4 hkm
      have HF := Lib.hid (sw_flush x wr HM.out.2 (by have := HM.out; omega) HW.out)
      go_wp2_with fail
      refine HF.out.mono ?_
      rintro e w11 ⟨rfl, h11⟩
      have H11 : Hid (Fst x mm 0 700 w11) := Lib.hid (h11.more (by have := HM.out; omega))
      clear h11 HF HW m1
      go_wp2_with fail
      go_loopw [13, 14, 15, 16, 17] (fun c _ _ _ _ wr => ∃ i k : Nat, c = .int .i64 (k : Int) ∧ (i + 1 = k ∧ k ≤ mm + 1) ∧ Fst x mm i (700 + 2 * i) wr) (fun c _ _ _ _ _ => m + 3 - (intOf c).toNat)
      case atStart => exact ⟨0, 1, rfl, ⟨rfl, by have := HM.out; omega⟩, H11.out⟩
      case round =>
        obtain ⟨i, k, rfl, hik, hj7⟩ := hrel
        have HK2 := Lib.hid hik
        have HJ := Lib.hid hj7
        have hk8 : k ≤ 8 := by have := HM.out; omega
        clear hik hj7
        by_cases hlt : k ≤ mm
        · have m1 : decide ((k : Int) ≤ (mm : Int)) = true := decide_eq_true (by omega)
          have m2 : IntKind.i64.wrap ((k : Int) + 1) = ((k + 1 : Nat) : Int) := by rw [IntKind.wrap_i64]; omega
          have HT := Lib.hid (sw_told x wr (m := mm) (i := i) (by have := HM.out; omega) (by have := HK2.out; omega) (by have := HK2.out; omega) HJ.out)
          rw [HK2.out.1] at HT
          go_wp2_with fail
          refine HT.out.mono ?_
          rintro e w12 ⟨rfl, h12⟩
          have kZ : Chg [] w12 (w12.alloc (.cells #[.int .i64 4, .int .i64 0, .int .i64 0, .int .i64 k, .slice none 0 0] 39)) := Chg.alloc w12 _
          have yZ := heap_new w12 (.cells #[.int .i64 4, .int .i64 0, .int .i64 0, .int .i64 k, .slice none 0 0] 39)
          have H12 := Lib.hid (And.intro h12 kZ)
          have d0 := cell_is yZ 0 rfl
          have d1 := cell_is yZ 1 rfl
          have d2 := cell_is yZ 2 rfl
          have d3 := cell_is yZ 3 rfl
          have d4 := cell_is yZ 4 rfl
          clear h12 kZ yZ HT
          go_wp2_with fail
          refine (answer_same _).mono ?_
          rintro e w13 ⟨rfl, k13⟩
          have HG := Lib.hid (sw_beg2 x w13 (m := mm) (i := i) (by have := HM.out; omega) (by have := HK2.out; omega) (by have := HK2.out; omega) (H12.out.1.keep0 (H12.out.2.then k13)))
          rw [HK2.out.1] at HG
          clear k13 d0 d1 d2 d3 d4
          go_wp2_with fail
          refine HG.out.mono ?_
          rintro e w14 ⟨rfl, h14⟩
          have kZ : Chg [] w14 (w14.alloc (.cells #[.int .i64 1, .int .i64 0, .int .i64 1, .int .i64 mm, .slice none 0 0] 39)) := Chg.alloc w14 _
          have yZ := heap_new w14 (.cells #[.int .i64 1, .int .i64 0, .int .i64 1, .int .i64 mm, .slice none 0 0] 39)
          have H14 := Lib.hid (And.intro h14 kZ)
          have d0 := cell_is yZ 0 rfl
          have d1 := cell_is yZ 1 rfl
          have d2 := cell_is yZ 2 rfl
          have d3 := cell_is yZ 3 rfl
          have d4 := cell_is yZ 4 rfl
          clear h14 kZ yZ HG
          go_wp2_with fail
          refine (answer_same _).mono ?_
          rintro e w15 ⟨rfl, k15⟩
          have H15 : Hid (Fst x mm (i + 1) (700 + 2 * ((i + 1 : Nat) : Int)) w15) := Lib.hid (by
            have h15 := H14.out.1.keep0 (H14.out.2.then k15)
            rw [← HK2.out.1] at h15
            exact h15.more (by omega))
          clear k15 d0 d1 d2 d3 d4
          go_wp2_with fail
          go_roundw
          case rel => exact ⟨i + 1, k + 1, rfl, ⟨by have := HK2.out; omega, by omega⟩, H15.out⟩
          case measure => have := HM.out; simp [intOf]; omega
        · have m1 : decide ((k : Int) ≤ (mm : Int)) = false := decide_eq_false (by omega)
          have HZ : Hid (Chg [] w wr) := Lib.hid (Up.chg0 HI.out.1 (by rw [← HI.out.2.1]; exact HJ.out.up) (by rw [HI.out.2.2.1]; exact HI.out.2.2.2))
          clear HJ H11
          go_wp2_with fail
          refine (awake25 wr).mono ?_
          rintro e w16 ⟨rfl, k16⟩
          go_wp2_with fail
          go_ret
          exact ⟨rfl, HZ.out.then k16⟩
end Go.Proofs.YtliicpedddcfiaaGreat.Sw
namespace Go.Proofs.YtliicpedddcfiaaGreat
open Go.ChangeShapes Go.WideShapes Go.ChangeAt Go.RowKit Go.Deep Go.Joins
set_option maxRecDepth 100000

theorem ownk : ownKnob Tryz.prog.godebug = none := by kernel_rfl
/-- what a contract with 'Below' gives of a row's sentence. -/
theorem post_below {H : Type} {enc : TypeId × Value → H} {f : Func} {s : ChangeSpec} {W W' : World} {args : Array Value} {v : Value} {ds gs : List (DataW H)} {before pa pv : List MemPlace} (hb : Below W.heap.size W W')
    (hW : DataW.Whole enc Tryz.prog f.params.toList s.vars false W args.toList ds gs before)
    (hres : DataW.TrodAll enc Tryz.prog W' W.heap.size (fun _ => false) false f.resultTypes.toList (v.resultList f.resultTypes.size) (s.fn H (ds ++ gs)).results [])
    (hargs : DataW.TrodAll enc Tryz.prog W' 0 (fun b => decide (b < W.heap.size)) true f.params.toList args.toList (s.fn H (ds ++ gs)).args pa)
    (hvars : DataW.TrodVars enc Tryz.prog W' (fun b => decide (b < W.heap.size)) s.vars (s.fn H (ds ++ gs)).vars pv) :
    s.post enc Tryz.prog f false true false false W args v W' :=
  ⟨ds, gs, before, [], pa, pv, hW, hres, hargs, hvars, hb.frame _, fun h => by cases h⟩

end Go.Proofs.YtliicpedddcfiaaGreat
namespace Go.Proofs.YtliicpedddcfiaaGreat
open Go.ChangeShapes Go.WideShapes Go.ChangeAt Go.RowKit Go.Deep Go.Joins
set_option maxRecDepth 100000
theorem law3_far (n m : Int) (q : Bool) (w : World) (h : n < 0 ∨ 20 < n ∨ m < 0 ∨ 6 < m) : Calls Tryz.prog 3 #[.int .i64 n, .int .i64 m, .bool q] w fun e w' => e = .returned (.bool true) ∧ Chg [] w w' := by
  have HA := Lib.hid (awake25 w)
  by_cases h1 : n < 0
  · have n1 : decide (n < 0) = true := decide_eq_true h1
    clear h
    go_enter Tryz.func3, Tryz.ntmps3
    go_wp2_with fail
    refine HA.out.mono ?_
    rintro e w1 ⟨rfl, k⟩
    go_wp2_with fail
    go_ret
    exact ⟨rfl, k⟩
  have n1 : decide (n < 0) = false := decide_eq_false h1
  by_cases h2 : 20 < n
  · have n2 : decide (20 < n) = true := decide_eq_true h2
    clear h
    go_enter Tryz.func3, Tryz.ntmps3
    go_wp2_with fail
    refine HA.out.mono ?_
    rintro e w1 ⟨rfl, k⟩
    go_wp2_with fail
    go_ret
    exact ⟨rfl, k⟩
  have n2 : decide (20 < n) = false := decide_eq_false h2
  by_cases h3 : m < 0
  · have n3 : decide (m < 0) = true := decide_eq_true h3
    clear h
    go_enter Tryz.func3, Tryz.ntmps3
    go_wp2_with fail
    refine HA.out.mono ?_
    rintro e w1 ⟨rfl, k⟩
    go_wp2_with fail
    go_ret
    exact ⟨rfl, k⟩
  have n3 : decide (m < 0) = false := decide_eq_false h3
  have n4 : decide (6 < m) = true := decide_eq_true (by omega)
  clear h
  go_enter Tryz.func3, Tryz.ntmps3
  go_wp2_with fail
  refine HA.out.mono ?_
  rintro e w1 ⟨rfl, k⟩
  go_wp2_with fail
  go_ret
  exact ⟨rfl, k⟩
theorem law3_any (n m : Int) (q : Bool) (w : World) : Calls Tryz.prog 3 #[.int .i64 n, .int .i64 m, .bool q] w fun e w' => e = .returned (.bool true) ∧ Chg [] w w' := by
  by_cases h : n < 0 ∨ 20 < n ∨ m < 0 ∨ 6 < m
  · exact law3_far n m q w h
  obtain ⟨k, rfl⟩ : ∃ k : Nat, n = k := ⟨n.toNat, by omega⟩
  obtain ⟨l, rfl⟩ : ∃ l : Nat, m = l := ⟨m.toNat, by omega⟩
  exact Sw.law3_in k l q w (by omega) (by omega)
namespace Law3
theorem contract (H : Type) (enc : TypeId × Value → H) (W : World) (base : Nat) (args : Array Value) (ds gs : List (DataW H)) (before : List MemPlace)
    (hval : ∀ (j : Nat) t v, Tryz.f3.params[j]? = some t → args[j]? = some v → Value.okWide Tryz.prog W .any base t v)
    (hW : DataW.Whole enc Tryz.prog Tryz.f3.params.toList Rows.schedWaitsSpec.vars false W args.toList ds gs before) :
    Calls Tryz.prog 3 args W fun e W' => ∃ v, e = .returned v ∧ Rows.schedWaitsSpec.post enc Tryz.prog Tryz.f3 false true false false W args v W' := by
  have hW' := hW
  obtain ⟨p, q, hA0, hV, rfl, hfz, hnd⟩ := hW
  have hA : DataW.TrodAll enc Tryz.prog W 0 (fun _ => true) true Tryz.f3.params.toList args.toList ds p := hA0
  rw [Tryz.params3] at hA hval
  obtain ⟨v0, vs0, d0, ds0, p0, q0, hargs, rfl, rfl, h0, r0⟩ := trodAll_cons hA
  obtain ⟨v1, vs1, d1, ds1, p1, q1, rfl, rfl, rfl, h1, r1⟩ := trodAll_cons r0
  obtain ⟨v2, vs2, d2, ds2, p2, q2, rfl, rfl, rfl, h2, r2⟩ := trodAll_cons r1
  obtain ⟨rfl, rfl, rfl⟩ := trodAll_nil r2
  obtain rfl : args = #[v0, v1, v2] := by cases args; simp_all
  obtain ⟨rfl, rfl⟩ := trodVars_none hV
  obtain ⟨a0, rfl, rfl, rfl, w0⟩ := open_int Tryz.underlying3 (hval 0 3 v0 rfl rfl) h0
  obtain ⟨a1, rfl, rfl, rfl, w1⟩ := open_int Tryz.underlying3 (hval 1 3 v1 rfl rfl) h1
  obtain ⟨a2, rfl, rfl, rfl⟩ := open_bool Tryz.underlying4 (hval 2 4 v2 rfl rfl) h2
  refine (law3_any a0 a1 a2 W).mono fun e W' ⟨he, hc⟩ => ?_
  subst he
  exact ⟨_, rfl, post_below hc.below0 hW' (trodAll_mk1 (shut_bool Tryz.underlying4 _)) (trodAll_cons_mk (shut_int Tryz.underlying3 w0) (trodAll_cons_mk (shut_int Tryz.underlying3 w1) (trodAll_cons_mk (shut_bool Tryz.underlying4 _) trodAll_mk0))) rfl⟩
theorem lifted (os : Os) (started : os.Started) (H : Type) (enc : TypeId × Value → H) :
    ReturnsInHanded {} Tryz.checked os 3 .any (Rows.schedWaitsSpec.pre6 enc Tryz.prog Tryz.f3 Rows.schedWaitsRow.domain false) (Rows.schedWaitsSpec.post enc Tryz.prog Tryz.f3 false true false false) := by
  refine returnsInHanded_of_change (C := Tryz.checked) ownk started (by kernel_rfl) Tryz.func3
    (ChangeSpec.witness6 (enc := enc) (C := Tryz.checked) false ⟨#[], #[.int .i64 0, .int .i64 0, .bool false], []⟩ 8 (by kernel_rfl) (by kernel_rfl) (by kernel_rfl) (by kernel_rfl)) ?_
  intro W base args ds gs before hval0 hW hcnd _
  exact contract H enc W base args ds gs before hval0 hW
theorem over : Rows.schedWaitsRow.holds Tryz.pinned (OpenSpec.ofChange Rows.schedWaitsSpec) :=
  OpenClaim.holds_of_wide 3 Tryz.f3 rfl rfl rfl rfl rfl rfl rfl ⟨rfl, rfl, rfl, rfl, rfl⟩ rfl rfl rfl rfl rfl (by kernel_rfl) Tryz.func3 (by kernel_rfl)
    (of_decide_eq_true (by kernel_rfl)) (by unfold Func.isWrapper; first | (rw [if_pos (by decide +kernel)]; kernel_rfl) | (rw [if_neg (by decide +kernel)]; exact ⟨rfl, rfl⟩))
    (fun os started H enc _ => lifted os started H enc)
theorem said : Rows.SchedWaitsSaid := over
end Law3
end Go.Proofs.YtliicpedddcfiaaGreat
