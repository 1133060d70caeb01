/- The statement SchedCrash: behind a crash no begin of before is a transaction any more; what was asked is told nothing; all else that waits goes on; for every input that can be read. -/
import Derived.Test.YtliicpedddcfiaaGreatRows
import Derived.ProofKit
import Derived.OpenShut
import Derived.Lib.SlBytesRowKit
import Derived.Lib.SmallJoins
import Derived.Deep.Slices
import Derived.Deep.Fields
import Derived.ChangeMaps5
import Derived.Test.YtliicpedddcfiaaGreatAb
import Derived.Test.YtliicpedddcfiaaGreatAi
import Derived.Test.YtliicpedddcfiaaGreatAk
import Derived.Test.YtliicpedddcfiaaGreatAl
import Derived.Test.YtliicpedddcfiaaGreatAm
namespace Go.Proofs.YtliicpedddcfiaaGreat.C2
open Go.RowKit Go.Lib

theorem Sto.low {w : World} {lw lw' : Nat} {d : Ids} {s : Gs} {g : Gd} (h : Sto w lw d s g) (hl : lw' ≤ lw) : Sto w lw' d s g := by
  have hb := h.bnd
  exact ⟨h.store, h.slot, h.text, h.dev, h.mx, h.ap, h.keys, by omega, fun z hz => Nat.le_trans hl (h.bndZ z hz), h.slo, h.dlo⟩
theorem PD.cl (x : Pl) (o av : Value) (ss : List OpS) (st tm ev : Int) (cs : Array Value) : Cl x.lw (PD x o av ss st tm ev cs) := ⟨fun a b S h hc ht hl => by
  obtain ⟨bv, al, Bb, d, b', ops, p, n, c, p2, n2, c2, h1, h2, h3, h4, h5, h6, h7, h8⟩ := h
  exact ⟨bv, al, Bb, d, b', ops, p, n, c, p2, n2, c2, h1, h2.tp hc ht (by decide), h3.tp149 hc ht, h4, Nat.le_trans h5 hc.size, h6, PPut.kx _ (by decide) (by decide) _ _ _ _ h7 hc ht, h8.tp hc ht (by decide) hl⟩⟩
set_option maxRecDepth 100000 in
set_option maxHeartbeats 1000000 in
/-- an op on the transaction of before the crash. -/
theorem sd1 (x : Pl) (w : World) {ss : List OpS} {st tm ev : Int} {na : Nat} (h : StD x (⟨2, 0, 1, 1, none⟩ :: ss) st tm ev na w) (hev : 0 ≤ ev ∧ ev ≤ 1000000) (hKl : x.lw ≤ x.K) (hlw : x.lw ≤ w.heap.size) (hna : na ≤ 900) :
    Calls Tryz.prog 10 #[.pointer (some ⟨x.K, 0, none⟩), .int .i64 2] w fun e w' => e = .returned (.tuple #[.agg #[.int .i64 2, .int .i64 5, .int .i64 0, .int .i64 0, .slice none 0 0], .int .i64 0]) ∧ StD x ss st tm (ev + 1) (na + 1) w' := by
  obtain ⟨o, av, cs, xs, hP, hB, ho⟩ := h
  have hPw := hP
  obtain ⟨bv, al, Bb, d, b, ops, p, n, c, p2, n2, c2, rfl, -, -, -, -, -, -, hb⟩ := hPw
  obtain ⟨g, off, c0, pp, pn, pc, rfl, hc, ⟨cur, hg⟩, q0, q1, q2, q3, q4, hov⟩ := hb.ops.head
  have hgK : g ≠ x.K := heap_ne hg hB (by simp)
  refine (step_told w (P := PD x (.slice (some ⟨g, off, none⟩) (ss.length + 1) c0) av (⟨2, 0, 1, 1, none⟩ :: ss) st tm (ev + 1)) (q := false) (av := av) (na := na) (m := ss.length) (x0 := 2) (x1 := 5) (x2 := 0) (x3 := 0) hlw hKl (fun cs => PD.cl x _ _ _ _ _ _ cs) hB rfl rfl rfl hev hc q0 q1 q2 q3 q4 hgK ?_ ?_ ho hna).mono ?_
  · intro wx kx hBx
    have hx := (PD.cl x _ _ _ _ _ _ _).keep w wx _ hP kx (chgK hB).k66 (fun y hy => by rw [List.mem_singleton] at hy; omega)
    obtain ⟨bv, al, Bb, d, b, ops, p, n, c, p2, n2, c2, hcs, hx⟩ := hx
    rw [hcs] at hBx
    have hlx : x.lw ≤ wx.heap.size := Nat.le_trans hlw kx.size
    obtain ⟨⟨gb, cb, rfl, g0⟩, -⟩ := hx.1.one
    exact do_dead wx (P := PD x (.slice (some ⟨g, off, none⟩) (ss.length + 1) c0) av (⟨2, 0, 1, 1, none⟩ :: ss) st tm (ev + 1)) hlx (fun cs => PD.cl x _ _ _ _ _ _ cs) ⟨_, al, Bb, d, b, ops, p, n, c, p2, n2, c2, rfl, hx⟩ hBx (cell_is hBx 7 rfl) (by decide) g0 (cell_is hx.1.blk 0 rfl)
  · rintro cs2 w2 ⟨bv, al, Bb, d, b, ops, p, n, c, p2, n2, c2, rfl, -⟩
    exact ⟨rfl, rfl, rfl⟩
  · rintro e w' ⟨rfl, av', cs2, hP, hB', ho⟩
    obtain ⟨bv, al, Bb, d, b, ops, p, n, c, p2, n2, c2, rfl, h2, h3, h4, h5, h6, h7, h8⟩ := hP
    exact ⟨rfl, _, av', _, _, ⟨bv, al, Bb, d, b, ops, p, n, c, p2, n2, c2, rfl, h2, h3, h4, h5, h6, h7, h8.cut⟩, hB', ho⟩
/-- two begins, in a client's row and in the row of all. -/
structure Beg3 (w : World) (lw B1 B2 : Nat) (bv al : Value) (c1 c2 : Array Value) : Prop where
  ob : w.ownsRow lw 83 1 bv 2 [.pointer (some ⟨B1, 0, none⟩), .pointer (some ⟨B2, 0, none⟩)]
  oa : w.ownsRow lw 83 1 al 2 [.pointer (some ⟨B1, 0, none⟩), .pointer (some ⟨B2, 0, none⟩)]
  b1 : w.heap[B1]? = some (.cells c1 85 (0, 0))
  b2 : w.heap[B2]? = some (.cells c2 85 (0, 0))
theorem Beg3.keep {w w' : World} {S : List Nat} {lw B1 B2 : Nat} {bv al : Value} {c1 c2 : Array Value} (h : Beg3 w lw B1 B2 bv al c1 c2) (hc : Chg S w w') (hS : ∀ x ∈ S, x < w.heap.size → ∀ cs t fr, w.heap[x]? = some (.cells cs t fr) → t ≠ 83 ∧ t ≠ 85) : Beg3 w' lw B1 B2 bv al c1 c2 := by
  refine ⟨own_chgB h.ob hc (fun g hg hm => ?_), own_chgB h.oa hc (fun g hg hm => ?_), hc.heap h.b1 (fun hm => (hS B1 hm (heap_lt h.b1) _ _ _ h.b1).2 rfl), hc.heap h.b2 (fun hm => (hS B2 hm (heap_lt h.b2) _ _ _ h.b2).2 rfl)⟩
  · obtain ⟨-, cur, hh⟩ := own_elem h.ob hg
    exact (hS g hm (heap_lt hh) _ _ _ hh).1 rfl
  · obtain ⟨-, cur, hh⟩ := own_elem h.oa hg
    exact (hS g hm (heap_lt hh) _ _ _ hh).1 rfl
theorem Beg3.tp {w w' : World} {S ts : List Nat} {lw B1 B2 : Nat} {bv al : Value} {c1 c2 : Array Value} (h : Beg3 w lw B1 B2 bv al c1 c2) (hc : Chg S w w') (ht : Tp w S ts) (hts : ∀ t ∈ ts, t ≠ 83 ∧ t ≠ 85) : Beg3 w' lw B1 B2 bv al c1 c2 :=
  h.keep hc (fun x hx _ cs t fr hh => by
    obtain ⟨cs2, t2, h2, h3⟩ := ht x hx
    rw [h2] at hh
    cases hh
    exact hts _ h3)
theorem own_two {w : World} {lw B1 B2 : Nat} {v : Value} (h : w.ownsRow lw 83 1 v 2 [.pointer (some ⟨B1, 0, none⟩), .pointer (some ⟨B2, 0, none⟩)]) : ∃ g c, v = .slice (some ⟨g, 0, none⟩) 2 c ∧ w.cell? ⟨g, 0, none⟩ = some (.pointer (some ⟨B1, 0, none⟩)) ∧ w.cell? ⟨g, 1, none⟩ = some (.pointer (some ⟨B2, 0, none⟩)) ∧ ∃ cs, w.heap[g]? = some (.cells cs 83 (0, 0)) := by
  rcases h.2 with ⟨e, h0⟩ | ⟨g, cap, cur, e, hA, hg, hc1, hc2, hc3, ht⟩
  · cases h0
  · refine ⟨g, cap, e, cell_is hg 0 ?_, cell_is hg 1 ?_, cur, hg⟩
    · have : (cur.toList.take (2 * 1))[0]? = some (.pointer (some ⟨B1, 0, none⟩)) := by rw [ht]; rfl
      rwa [List.getElem?_take_of_lt (by omega), Array.getElem?_toList] at this
    · have : (cur.toList.take (2 * 1))[1]? = some (.pointer (some ⟨B2, 0, none⟩)) := by rw [ht]; rfl
      rwa [List.getElem?_take_of_lt (by omega), Array.getElem?_toList] at this
theorem Su.keepT2 {w w' : World} {S ts : List Nat} {lw base n : Nat} {d : Ids} {p : Par} {s : Gs} {g : Gd} {q : Int → List UInt8} {L : List (Int × Value)} (hS : Su w base d p (StoF lw d s g) q L n) (hc : Chg S w w') (tp : Tp w S ts) (hts : ∀ t ∈ ts, t ∈ [72, 39, 85, 83, 33]) : Su w' base d p (StoF lw d s g) q L n := by
  have hSto : Sto w lw d s g := hS.env
  have hd : ∀ t ∈ ts, t ∉ [105, 159, 93, 94, 97, 34, 5, 184, 237, 247, 240] := fun t ht => (by decide : ∀ u ∈ ([72, 39, 85, 83, 33] : List Nat), u ∉ [105, 159, 93, 94, 97, 34, 5, 184, 237, 247, 240]) t (hts t ht)
  have hSto2 := hSto.keepA hc (tp.av (fun t ht hm => hd t ht (by revert hm; simp only [List.mem_cons, List.not_mem_nil, or_false]; omega))) (tp.map hSto.mx.ver.m) (tp.map hSto.mx.book.2) (tp.map hSto.mx.map)
  exact hS.keepA hc (tp.av (fun t ht => (by decide : ∀ u ∈ ([72, 39, 85, 83, 33] : List Nat), u ∉ _) t (hts t ht))) (tp.map hS.buf.2) hSto2
/-- a stage behind a crash: one transaction is none any more, one is open. -/
def PE (x : Pl) (o av : Value) (ss : List OpS) (st tm ev fr2 : Int) (k : Nat) (cs : Array Value) (w : World) : Prop :=
  ∃ bv al B1 B2 d b ops base T W rw Q V p n c p2 n2 c2, cs = sch d.N d.P o bv av false al ev ∧ Beg3 w x.lw B1 B2 bv al (deadC 1 0 st 0 tm (.slice p n c) (.slice p2 n2 c2)) (begC 1 fr2 0) ∧ PNil (.slice p n c) w ∧ PPut (.slice p2 n2 c2) w ∧
    Su w base (dT d T W rw Q V) (begP (s00 b)) (StoF x.lw (dT d T W rw Q V) (begS (s00 b) T) (g00 b ops)) (fun i => bytT ((s00 b).vs i) (s00 b).last) [] k ∧ (d.rx < base ∧ d.rb < base ∧ d.r < base) ∧ x.lw ≤ base ∧ (k = 0 ∨ RdOne w base Q d.X W V 0 1) ∧ Bs2 x o ss w
theorem PE.cl (x : Pl) (o av : Value) (ss : List OpS) (st tm ev fr2 : Int) (k : Nat) (cs : Array Value) : Cl x.lw (PE x o av ss st tm ev fr2 k cs) := ⟨fun a b S h hc ht hl => by
  obtain ⟨bv, al, B1, B2, d, b', ops, base, T, W, rw, Q, V, p, n, c, p2, n2, c2, h1, h2, h3, h4, h5, h6, h7, h8, h9⟩ := h
  refine ⟨bv, al, B1, B2, d, b', ops, base, T, W, rw, Q, V, p, n, c, p2, n2, c2, h1, h2.tp hc ht (by decide), h3, PPut.kx _ (by decide) (by decide) _ _ _ _ h4 hc ht, Su.keepT2 h5 hc ht (by decide), h6, h7, ?_, h9.tp hc ht (by decide) hl⟩
  rcases h8 with h | h
  · exact Or.inl h
  · exact Or.inr (h.keep hc (ht.av (by decide)))⟩
def StE (x : Pl) (ss : List OpS) (st tm ev fr2 : Int) (k na : Nat) (w : World) : Prop := ∃ o av cs xs, PE x o av ss st tm ev fr2 k cs w ∧ SchB w x.K cs ∧ w.ownsRow x.lw 39 5 av na xs
set_option maxRecDepth 100000 in
set_option maxHeartbeats 1000000 in
theorem sd2 (x : Pl) (w : World) {ss : List OpS} {st tm ev : Int} {na : Nat} (h : StD x (⟨1, 0, 0, 0, none⟩ :: ss) st tm ev na w) (hev : 0 ≤ ev ∧ ev ≤ 1000000) (hKl : x.lw ≤ x.K) (hlw : x.lw ≤ w.heap.size) (hna : na ≤ 900) :
    Calls Tryz.prog 10 #[.pointer (some ⟨x.K, 0, none⟩), .int .i64 2] w fun e w' => e = .returned (.tuple #[.agg #[.int .i64 1, .int .i64 0, .int .i64 1, .int .i64 0, .slice none 0 0], .int .i64 0]) ∧ StE x ss st tm (ev + 1) (ev + 1) 0 (na + 1) w' := by
  obtain ⟨o, av, cs, xs, hP, hB, ho⟩ := h
  have hPw := hP
  obtain ⟨bv, al, Bb, d, b, ops, p, n, c, p2, n2, c2, rfl, -, -, -, -, -, -, hb⟩ := hPw
  obtain ⟨g, off, c0, pp, pn, pc, rfl, hc, ⟨cur, hg⟩, q0, q1, q2, q3, q4, hov⟩ := hb.ops.head
  obtain ⟨rfl, rfl, rfl⟩ := OpV.nil_of hov
  have hgK : g ≠ x.K := heap_ne hg hB (by simp)
  refine (step_told w (P := PE x (.slice (some ⟨g, off, none⟩) (ss.length + 1) c0) av (⟨1, 0, 0, 0, none⟩ :: ss) st tm (ev + 1) (ev + 1) 0) (q := false) (av := av) (na := na) (m := ss.length) (x0 := 1) (x1 := 0) (x2 := 1) (x3 := 0) hlw hKl (fun cs => PE.cl x _ _ _ _ _ _ _ _ cs) hB rfl rfl rfl hev hc q0 q1 q2 q3 q4 hgK ?_ ?_ ho hna).mono ?_
  · intro wx kx hBx
    have hx := (PD.cl x _ _ _ _ _ _ _).keep w wx _ hP kx (chgK hB).k66 (fun y hy => by rw [List.mem_singleton] at hy; omega)
    obtain ⟨bv, al, Bb, d, b, ops, p, n, c, p2, n2, c2, hcs, hbg, hSx, hlb, hbl, hR, hPu, hbx⟩ := hx
    rw [hcs] at hBx
    have hlx : x.lw ≤ wx.heap.size := Nat.le_trans hlw kx.size
    refine do_begin wx hlx (fun cs => PE.cl x _ _ _ _ _ _ _ _ cs) (fun wy ky => ?_)
    have hSy : Sto wy x.lw d (s00 b) (g00 b ops) := Sto.low (hSx.keep ky) hlb
    have hby := hbg.keep ky (fun y hy => by cases hy)
    have hPy := PPut.kx [] (by decide) (by decide) _ _ _ _ hPu ky (Tp.nil _ _)
    refine (cbegin_ok wy (K := x.K) (lw := x.lw) (o := .slice (some ⟨g, off, none⟩) (ss.length + 1) c0) (bv := bv) (av := av) (al := al) (q := false) (ev := ev + 1) (nb := 1) (na := 1) (xb := [.pointer (some ⟨Bb, 0, none⟩)]) (xa := [.pointer (some ⟨Bb, 0, none⟩)]) hSy (ky.heap hBx (by simp)) hby.ob hby.oa hby.ne (by decide) (by decide) rfl (show (0 : Int) ≤ 0 by decide) (show (0 : Int) ≤ 1099511627776 by decide) (show (0 : Int) ≤ 0 by decide) (show (0 : Int) ≤ 1000000 by decide) hKl (Nat.le_trans hlx ky.size)).mono ?_
    rintro e w' ⟨rfl, T, W, rw, Q, V, base, B2, bv2, al2, hLo, hT, hbase, hBl, hB', ob, oa, hBb, hSu, l1, l2, l3, -, h85⟩
    have hPw' : PPut (.slice p2 n2 c2) w' := by
      obtain ⟨lo, l, hp, hl⟩ := hPy
      obtain ⟨U, hU1, hU2⟩ := hLo
      refine ⟨lo, l, hp.keep hU1 (fun y hy cs t fr hh ht => (hU2 y hy (heap_lt hh)).2 cs t fr hh (by simp at ht; subst ht; decide)) (fun y hy hm => ?_), hl⟩
      obtain ⟨-, cs, hh⟩ := hp.block y hy
      exact (hU2 y hm (heap_lt hh)).2 _ _ _ hh (by decide)
    refine ⟨rfl, _, ⟨bv2, al2, Bb, B2, d, b, ops, base, T, W, rw, Q, V, p, n, c, p2, n2, c2, rfl, ⟨ob, oa, h85 _ _ hby.blk, hBb⟩, hR, hPw', hSu, ⟨l1, l2, l3⟩, by have := ky.size; omega, Or.inl rfl, (hbx.keep0 ky).lo hLo⟩, hB', fun y cs hy => hLo.heap hy (by decide)⟩
  · rintro cs2 w2 ⟨bv, al, B1, B2, d, b', ops, base, T, W, rw, Q, V, p, n, c, p2, n2, c2, rfl, -⟩
    exact ⟨rfl, rfl, rfl⟩
  · rintro e w' ⟨rfl, av', cs2, hP, hB', ho⟩
    obtain ⟨bv, al, B1, B2, d, b', ops, base, T, W, rw, Q, V, p, n, c, p2, n2, c2, rfl, h2, h3, h4, h5, h6, h7, h8, h9⟩ := hP
    exact ⟨rfl, _, av', _, _, ⟨bv, al, B1, B2, d, b', ops, base, T, W, rw, Q, V, p, n, c, p2, n2, c2, rfl, h2, h3, h4, h5, h6, h7, h8, h9.cut⟩, hB', ho⟩
set_option maxRecDepth 100000 in
set_option maxHeartbeats 1000000 in
theorem sd3 (x : Pl) (w00 w : World) {ss : List OpS} {st tm ev fr2 : Int} {na : Nat} (h00 : StE x (⟨2, 1, 1, 1, none⟩ :: ss) st tm ev fr2 0 na w00) (k00 : Chg [] w00 w) (hev : 0 ≤ ev ∧ ev ≤ 1000000) (hKl : x.lw ≤ x.K) (hlw : x.lw ≤ w.heap.size) (hna : na ≤ 900) :
    Calls Tryz.prog 10 #[.pointer (some ⟨x.K, 0, none⟩), .int .i64 2] w fun e w' => (∃ g2 c2', e = .returned (.tuple #[.agg #[.int .i64 2, .int .i64 0, .int .i64 1, .int .i64 0, .slice (some ⟨g2, 0, none⟩) 40 c2'], .int .i64 0]) ∧ Bs w' (some ⟨g2, 0, none⟩) zeroB) ∧ StE x ss st tm (ev + 1) fr2 1 (na + 1) w' ∧ ∀ (y : Nat) (cs3 : Array Value), w00.heap.size ≤ y → w.heap[y]? = some (.cells cs3 39 (0, 0)) → w'.heap[y]? = some (.cells cs3 39 (0, 0)) := by
  obtain ⟨o, av, cs, xs, hP00, hB00, ho00⟩ := h00
  have hP := (PE.cl x _ _ _ _ _ _ _ _ _).keep _ _ [] hP00 k00 (Tp.nil _ _) (fun y hy => by cases hy)
  have hB : SchB w x.K cs := k00.heap hB00 (by simp)
  have ho := own_keep ho00 k00.below0
  have hav0 : ∀ y, w00.heap.size ≤ y → av.ownBlock ≠ some y := fun y hy e => by
    obtain ⟨-, cur, hh⟩ := own_elem ho00 e
    have := heap_lt hh
    omega
  have hPw := hP
  obtain ⟨bv, al, B1, B2, d, b', ops, base, T, W, rw, Q, V, p, n, c, p2, n2, c2, rfl, -, -, -, -, -, -, -, hb⟩ := hPw
  obtain ⟨g, off, c0, pp, pn, pc, rfl, hc, ⟨cur, hg⟩, q0, q1, q2, q3, q4, hov⟩ := hb.ops.head
  have hgK : g ≠ x.K := heap_ne hg hB (by simp)
  refine (step_read w (P := PE x (.slice (some ⟨g, off, none⟩) (ss.length + 1) c0) av (⟨2, 1, 1, 1, none⟩ :: ss) st tm (ev + 1) fr2 1) (q := false) (av := av) (na := na) (m := ss.length) (x0 := 2) (x1 := 0) (x2 := 1) (x3 := 0) (l := zeroB) rfl hlw hKl (fun cs => PE.cl x _ _ _ _ _ _ _ _ cs) hB rfl rfl rfl hev hc q0 q1 q2 q3 q4 hgK ?_ ?_ ho hna).mono ?_
  · intro wx kx hBx
    have hx := (PE.cl x _ _ _ _ _ _ _ _ _).keep w wx _ hP kx (chgK hB).k66 (fun y hy => by rw [List.mem_singleton] at hy; omega)
    obtain ⟨bv, al, B1, B2, d, b', ops, base, T, W, rw, Q, V, p, n, c, p2, n2, c2, hcs, h2, h3, h4, h5, h6, h7, -, h9⟩ := hx
    rw [hcs] at hBx
    have hlx : x.lw ≤ wx.heap.size := Nat.le_trans hlw kx.size
    obtain ⟨gb, cb, rfl, -, g1, -⟩ := own_two h2.ob
    refine do_read wx hlx (fun cs => PE.cl x _ _ _ _ _ _ _ _ cs) (cell_is hBx 7 rfl) (by decide) g1 (cell_is h2.b2 0 rfl) (by decide) (fun wy ky => ?_)
    have hf : Fr base (dT d T W rw Q V) (begP (s00 b')) (StoF x.lw (dT d T W rw Q V) (begS (s00 b') T) (g00 b' ops)) := fr_sto h6 rfl rfl rfl rfl rfl
    have h2y := h2.keep ky (fun y hy => by cases hy)
    refine (ccall_readD wy (K := x.K) (Bb := B2) (b := 1) (d := dT d T W rw Q V) (p := begP (s00 b')) (ky.heap hBx (by simp)) rfl h2y.b2 rfl hf (h5.keep hf ky) (by decide) (by decide) (by decide) rfl rfl).mono ?_
    rintro e w' ⟨g2, c2', rfl, hO, hSu, hbs, hsz, hbt, hrd⟩
    have hLo := Lo.of_ow hO h7
    have hPw' : PPut (.slice p2 n2 c2) w' := by
      obtain ⟨lo, l, hp, hl⟩ := PPut.kx [] (by decide) (by decide) _ _ _ _ h4 ky (Tp.nil _ _)
      obtain ⟨U, hU1, hU2⟩ := hLo
      refine ⟨lo, l, hp.keep hU1 (fun y hy cs t fr hh ht => (hU2 y hy (heap_lt hh)).2 cs t fr hh (by simp at ht; subst ht; decide)) (fun y hy hm => ?_), hl⟩
      obtain ⟨-, cs, hh⟩ := hp.block y hy
      exact (hU2 y hm (heap_lt hh)).2 _ _ _ hh (by decide)
    refine ⟨g2, c2', rfl, hbs, hsz, hbt, _, ⟨_, al, B1, B2, d, b', ops, base, T, W, rw, Q, V, p, n, c, p2, n2, c2, rfl, ?_, h3, hPw', hSu, h6, h7, Or.inr hrd, (h9.keep0 ky).lo hLo⟩, hO.heap (ky.heap hBx (by simp)) ⟨by decide, by decide, by decide⟩, fun y cs hy => hO.heap hy ⟨by decide, by decide, by decide⟩⟩
    obtain ⟨U, hU1, hU2⟩ := hO
    refine h2y.keep hU1 (fun y hy _ cs t fr hh => ?_)
    rcases (hU2 y hy).2 cs t fr hh with rfl | rfl | rfl <;> exact ⟨by decide, by decide⟩
  · rintro cs2 w2 ⟨bv, al, B1, B2, d, b', ops, base, T, W, rw, Q, V, p, n, c, p2, n2, c2, rfl, -⟩
    exact ⟨rfl, rfl, rfl⟩
  · rintro e w' ⟨g2, c2', rfl, hbs, av', cs2, dv, hP, hB', ho, hk39⟩
    obtain ⟨bv, al, B1, B2, d, b', ops, base, T, W, rw, Q, V, p, n, c, p2, n2, c2, rfl, h2, h3, h4, h5, h6, h7, h8, h9⟩ := hP
    exact ⟨⟨g2, c2', rfl, hbs⟩, ⟨_, av', _, _, ⟨bv, al, B1, B2, d, b', ops, base, T, W, rw, Q, V, p, n, c, p2, n2, c2, rfl, h2, h3, h4, h5, h6, h7, h8, h9.cut⟩, hB', ho⟩, fun y cs3 hy hh => hk39 y cs3 hh (hav0 y hy)⟩
end Go.Proofs.YtliicpedddcfiaaGreat.C2
namespace Go.Proofs.YtliicpedddcfiaaGreat.C2
open Go.RowKit Go.Lib

theorem Bs2.size {x : Pl} {o : Value} {ss : List OpS} {w : World} (h : Bs2 x o ss w) (hl : x.lw ≤ x.w0.heap.size) : x.lw ≤ w.heap.size := by
  obtain ⟨U, h1, -⟩ := h.up
  exact Nat.le_trans hl h1.size
theorem Stg2.bs {x : Pl} {ss : List OpS} {q : Bool} {ev : Int} {k na : Nat} {w : World} (h : Stg2 x ss q ev k na w) : ∃ o, Bs2 x o ss w := by
  obtain ⟨o, av, cs, xs, ⟨T, base, W, rw, Q, V, Bb, bv, al, qf, L, rfl, h2, h3, h4, h5⟩, -⟩ := h
  exact ⟨o, h5⟩
theorem StC.bs {x : Pl} {ss : List OpS} {q : Bool} {st tm ev : Int} {na : Nat} {w : World} (h : StC x ss q st tm ev na w) : ∃ o, Bs2 x o ss w := by
  obtain ⟨o, av, bv, al, Bb, xs, T, base, W, rw, Q, V, s, L, D, hB, h2, h3, h4, h5, ho⟩ := h
  exact ⟨o, h5⟩
theorem StD.bs {x : Pl} {ss : List OpS} {st tm ev : Int} {na : Nat} {w : World} (h : StD x ss st tm ev na w) : ∃ o, Bs2 x o ss w := by
  obtain ⟨o, av, cs, xs, ⟨bv, al, Bb, d, b, ops, p, n, c, p2, n2, c2, -, -, -, -, -, -, -, hb⟩, -⟩ := h
  exact ⟨o, hb⟩
theorem StE.bs {x : Pl} {ss : List OpS} {st tm ev fr2 : Int} {k na : Nat} {w : World} (h : StE x ss st tm ev fr2 k na w) : ∃ o, Bs2 x o ss w := by
  obtain ⟨o, av, cs, xs, ⟨bv, al, B1, B2, d, b', ops, base, T, W, rw, Q, V, p, n, c, p2, n2, c2, -, -, -, -, -, -, -, -, hb⟩, -⟩ := h
  exact ⟨o, hb⟩
theorem StC.keep0 {x : Pl} {ss : List OpS} {q : Bool} {st tm ev : Int} {na : Nat} {w w' : World} (h : StC x ss q st tm ev na w) (hc : Chg [] w w') : StC x ss q st tm ev na w' := by
  obtain ⟨o, av, bv, al, Bb, xs, T, base, W, rw, Q, V, s, L, D, hB, h2, h3, h4, h5, ho⟩ := h
  exact ⟨o, av, bv, al, Bb, xs, T, base, W, rw, Q, V, s, L, D, hc.heap hB (by simp), h2.keep hc (fun y hy => by cases hy), h3.keep hc, h4.keep hc (Tp.nil _ []) (fun t ht => by cases ht), h5.keep0 hc, own_keep ho hc.below0⟩
theorem StW2.keep0 {x : Pl} {ss : List OpS} {q : Bool} {ev : Int} {na : Nat} {w w' : World} (h : StW2 x ss q ev na w) (hc : Chg [] w w') : StW2 x ss q ev na w' := by
  obtain ⟨o, av, cs, xs, hP, hB, ho⟩ := h
  exact ⟨o, av, cs, xs, (PW2.cl x _ _ _ _ _ _).keep _ _ [] hP hc (Tp.nil _ _) (fun y hy => by cases hy), hc.heap hB (by simp), own_keep ho hc.below0⟩
theorem StD.keep0 {x : Pl} {ss : List OpS} {st tm ev : Int} {na : Nat} {w w' : World} (h : StD x ss st tm ev na w) (hc : Chg [] w w') : StD x ss st tm ev na w' := by
  obtain ⟨o, av, cs, xs, hP, hB, ho⟩ := h
  exact ⟨o, av, cs, xs, (PD.cl x _ _ _ _ _ _ _).keep _ _ [] hP hc (Tp.nil _ _) (fun y hy => by cases hy), hc.heap hB (by simp), own_keep ho hc.below0⟩
theorem StE.keep0 {x : Pl} {ss : List OpS} {st tm ev fr2 : Int} {k na : Nat} {w w' : World} (h : StE x ss st tm ev fr2 k na w) (hc : Chg [] w w') : StE x ss st tm ev fr2 k na w' := by
  obtain ⟨o, av, cs, xs, hP, hB, ho⟩ := h
  exact ⟨o, av, cs, xs, (PE.cl x _ _ _ _ _ _ _ _ _).keep _ _ [] hP hc (Tp.nil _ _) (fun y hy => by cases hy), hc.heap hB (by simp), own_keep ho hc.below0⟩
/-- how many ops are left. -/
theorem StD.left {x : Pl} {ss : List OpS} {st tm ev : Int} {na : Nat} {w : World} (h : StD x ss st tm ev na w) : Calls Tryz.prog 12 #[.pointer (some ⟨x.K, 0, none⟩), .int .i64 2] w fun e w' => e = .returned (.int .i64 ss.length) ∧ w = w' := by
  obtain ⟨o, av, cs, xs, ⟨bv, al, Bb, d, b, ops, p, n, c, p2, n2, c2, rfl, -, -, -, -, -, -, hb⟩, hB, -⟩ := h
  obtain ⟨xs, hr, -⟩ := hb.ops
  obtain ⟨pa, ca, rfl, -⟩ := hr.form
  exact left_in w hB rfl ⟨by decide, by decide⟩ (show (sch d.N d.P (.slice pa ss.length ca) bv av false al ev)[cli 2]? = some (.slice pa ss.length ca) from rfl)
theorem KX.true (ts : List Nat) : KX ts (fun _ _ => True) := fun _ _ _ _ _ _ _ => trivial
/-- the histories at the last stage. -/
theorem StE.hists {x : Pl} {ss : List OpS} {st tm ev fr2 : Int} {na : Nat} {w : World} (h : StE x ss st tm ev fr2 1 na w) : Calls Tryz.prog 15 #[.pointer (some ⟨x.K, 0, none⟩)] w fun e w' =>
    ∃ g c, e = .returned (.slice (some ⟨g, 0, none⟩) 2 c) ∧ Chg [] w w' ∧ w'.cell? ⟨g, 0, none⟩ = some (.int .i64 st) ∧ w'.cell? ⟨g, 4, none⟩ = some (.int .i64 0) ∧ w'.cell? ⟨g, 7, none⟩ = some (.int .i64 1) := by
  obtain ⟨o, av, cs, xs, ⟨bv, al, B1, B2, d, b', ops, base, T, W, rw, Q, V, p, n, c, p2, n2, c2, rfl, h2, h3, h4, h5, h6, h7, h8, hb⟩, hB, -⟩ := h
  cases (show Value.slice p n c = .slice none 0 0 from h3)
  have hrd : RdOne w base Q d.X W V 0 1 := h8.resolve_left (by decide)
  obtain ⟨ga, ca, rfl, ga0, ga1, -⟩ := own_two h2.oa
  obtain ⟨lo, l, ⟨ys, ho, hx⟩, hl⟩ := h4
  obtain ⟨e0, gd, cd, e1, e2, e3, -⟩ := hx 0 (by omega)
  rw [hl] at ho
  obtain ⟨ge, ce, he⟩ : ∃ g c, Value.slice p2 n2 c2 = .slice (some ⟨g, 0, none⟩) 1 c := by
    rcases ho.2 with ⟨e, h0⟩ | ⟨g, cap, cur, e, -⟩
    · cases h0
    · exact ⟨g, cap, e⟩
  cases he
  have u0 := own_cells ho 0 _ e0
  have u1 := own_cells ho 1 _ e1
  have hSto : Sto w x.lw (dT d T W rw Q V) (begS (s00 b') T) (g00 b' ops) := h5.env
  refine hists_two w (K := x.K) (P := d.P) (PR := fun _ _ => True) (PP := fun _ _ => True) (st2 := 1) (tm2 := 0) (t2 := 0) hB rfl rfl ga0 ga1 h2.b1 h2.b2 (by decide) (fun wx kx => ?_) (fun wx kx => ?_)
  · refine (copied_put wx (kx.cell u0 (by simp)) (kx.cell u1 (by simp)) (e2.chg kx) e3).mono ?_
    rintro e w' ⟨g, c, rfl, k⟩
    exact ⟨g, c, rfl, k⟩
  · have hSx := hSto.keep kx
    refine shist wx (P := d.P) (M := d.M) (cell_is hSx.store 5 rfl) (KX.true _) (KX.true _) (fun wy ky => ?_)
    have kxy := kx.then ky
    have hSy := hSto.keep kxy
    refine thist wy (T := T) (W := W) (Q := Q) hSy.mx.cells.1 hSy.mx.cells.2.2.1 hSy.mx.map rfl (kxy.heap h5.tx (by simp)) (KX.true _) (KX.true _) (fun wz kz => ?_) (fun wz kz => ?_)
    · exact vreads1 wz (hrd.keep (kxy.then kz) (Av.nil _ _))
    · refine (bputs_any wz (h5.buf.keep (kxy.then kz) (by simp) (by simp)) (h5.bufD.keep (kxy.then kz)) h5.keys (by decide)).mono ?_
      rintro e w' ⟨v, rfl, k, ys, ho, -⟩
      obtain ⟨pa, c, rfl, -⟩ := own_form ho
      exact ⟨pa, _, c, rfl, k, trivial⟩
end Go.Proofs.YtliicpedddcfiaaGreat.C2
namespace Go.Proofs.YtliicpedddcfiaaGreat.C2
open Go.RowKit Go.Lib

theorem opsG1 {w : World} {E : Nat} {k h a l : Int} (hE : w.heap[E]? = some (.cells #[.int .i64 k, .int .i64 h, .int .i64 a, .int .i64 l, .slice none 0 0] 33 (0, 0))) : OpsG w E [⟨k, h, a, l, none⟩] := by
  refine ⟨⟨_, hE⟩, fun i s hs => ?_⟩
  match i, hs with
  | 0, hs =>
    cases hs
    exact ⟨_, ⟨_, rfl, Or.inl ⟨rfl, rfl⟩⟩, fun j x hx => by rw [Nat.mul_zero, Nat.zero_add]; exact cell_is hE j (by simpa using hx)⟩
  | i + 1, hs => simp at hs
theorem opsG2 {w : World} {E : Nat} {k h a l k2 h2 a2 l2 : Int} {v2 : Value} {s2 : OpS} (hE : w.heap[E]? = some (.cells #[.int .i64 k, .int .i64 h, .int .i64 a, .int .i64 l, .slice none 0 0, .int .i64 k2, .int .i64 h2, .int .i64 a2, .int .i64 l2, v2] 33 (0, 0)))
    (hv : OpG w s2 [.int .i64 k2, .int .i64 h2, .int .i64 a2, .int .i64 l2, v2]) : OpsG w E [⟨k, h, a, l, none⟩, s2] := by
  refine ⟨⟨_, hE⟩, fun i s hs => ?_⟩
  match i, hs with
  | 0, hs =>
    cases hs
    refine ⟨_, ⟨_, rfl, Or.inl ⟨rfl, rfl⟩⟩, fun j x hx => ?_⟩
    match j, hx with
    | 0, hx => cases hx; exact cell_is hE 0 rfl
    | 1, hx => cases hx; exact cell_is hE 1 rfl
    | 2, hx => cases hx; exact cell_is hE 2 rfl
    | 3, hx => cases hx; exact cell_is hE 3 rfl
    | 4, hx => cases hx; exact cell_is hE 4 rfl
    | j + 5, hx => simp at hx
  | 1, hs =>
    cases hs
    refine ⟨_, hv, fun j x hx => ?_⟩
    match j, hx with
    | 0, hx => cases hx; exact cell_is hE 5 rfl
    | 1, hx => cases hx; exact cell_is hE 6 rfl
    | 2, hx => cases hx; exact cell_is hE 7 rfl
    | 3, hx => cases hx; exact cell_is hE 8 rfl
    | 4, hx => cases hx; exact cell_is hE 9 rfl
    | j + 5, hx => simp at hx
  | i + 2, hs => simp at hs
theorem opG_none {w : World} {k h a l : Int} : OpG w ⟨k, h, a, l, none⟩ [.int .i64 k, .int .i64 h, .int .i64 a, .int .i64 l, .slice none 0 0] := ⟨_, rfl, Or.inl ⟨rfl, rfl⟩⟩
/-- the first Add. -/
theorem add_first (x : Pl) (w : World) {E c : Nat} {ss2 : List OpS} (hS : Sto x.w0 x.lw x.d (s00 x.lw) (g00 x.lw x.ops)) (hB : SchB x.w0 x.K (sch x.d.N x.d.P (.slice none 0 0) (.slice none 0 0) (.slice none 0 0) false (.slice none 0 0) 0)) (kc : Chg [] x.w0 w) (hE : OpsG w E ss2) (hEl : x.w0.heap.size ≤ E) (hKl : x.lw ≤ x.K) (hlw : x.lw ≤ x.w0.heap.size) (hn : ss2.length ≤ 200) :
    Calls Tryz.prog 8 #[.pointer (some ⟨x.K, 0, none⟩), .int .i64 2, .slice (some ⟨E, 0, none⟩) ss2.length c] w fun e w' => e = .returned (.int .i64 0) ∧ ∃ o', Sto w' x.lw x.d (s00 x.lw) (g00 x.lw x.ops) ∧ SchB w' x.K (sch x.d.N x.d.P o' (.slice none 0 0) (.slice none 0 0) false (.slice none 0 0) 0) ∧ Bs2 x o' ss2 w' := by
  refine (add_stage x x.w0 w (c := c) (ss := []) hB ⟨Up.of0 (Chg.refl _ _), OpsA.nil _ _⟩ kc hE hEl hKl hlw (by simpa using hn)).mono ?_
  rintro e w' ⟨rfl, o', S, hB', hb', hc, tp, -⟩
  have h2 := hS.keep kc
  exact ⟨rfl, o', h2.keepA hc (tp.av (by decide)) (tp.map h2.mx.ver.m) (tp.map h2.mx.book.2) (tp.map h2.mx.map), hB', hb'⟩
end Go.Proofs.YtliicpedddcfiaaGreat.C2
namespace Go.Proofs.YtliicpedddcfiaaGreat
open Go.RowKit Go.Lib

/-- a schedule whose first client's transaction is committed, and was not told of it. -/
def StgD (x : Pl25) (o av : Value) (q : Bool) (fr ev : Int) (na : Nat) (w : World) : Prop :=
  ∃ T W rw Q V Bb bv al s g xs, SchB w x.K (sch x.d.N x.d.P o bv av q al ev) ∧ Beg1 w x.lw Bb bv 1 fr 0 ∧ Sto w x.lw (dT x.d T W rw Q V) s g ∧ getL s.Lr 1 = some (.pointer (some ⟨T, 0, none⟩)) ∧
    w.heap[T]? = some (.cells #[.int .i64 3, .int .i64 1, .int .i64 0, .int .i64 0, .pointer (some ⟨W, 0, none⟩), .pointer (some ⟨Q, 0, none⟩)] 212 (0, 0)) ∧ Bas x.w0 x.lw x.C x.K x.R x.g x.E x.D x.cE x.cD x.r w ∧ w.ownsRow x.lw 39 5 av na xs
set_option maxRecDepth 100000 in
theorem st4 (x : Pl25) (w : World) {o av : Value} {na : Nat} (h : StgW x o av true 1 3 na w) (hKl : x.lw ≤ x.K) (hlw : x.lw ≤ w.heap.size) (hops : 0 ≤ x.ops ∧ x.ops ≤ 2) :
    Calls Tryz.prog 13 #[.pointer (some ⟨x.K, 0, none⟩)] w fun e w' => e = .returned (.int .i64 0) ∧ StgD x o av true 1 4 na w' := by
  obtain ⟨cs, xs, hP, hB, ho⟩ := h
  have hPw := hP
  obtain ⟨T0, W0, rw0, Q0, V0, Bb0, bv0, al0, qf0, L0, gq0, cq0, rfl, -⟩ := hPw
  refine sched_flush w hB rfl rfl ⟨by decide, by decide⟩ (fun wx kx hBx => ?_)
  have hx := (PW.cl x _ _ _ _ _ _).keep w wx _ hP kx (chgK hB).k66 (fun y hy => by rw [List.mem_singleton] at hy; omega)
  obtain ⟨T, W, rw, Q, V, Bb, bv, al, qf, L, gq, cq, hcs, hbg, hS, hW, hT, hL, hb⟩ := hx
  rw [hcs] at hBx
  have hox := own_chgB ho kx (fun g hg hm => by
    rw [List.mem_singleton] at hm
    subst hm
    obtain ⟨-, cur, hh⟩ := own_elem ho hg
    rw [show w.heap[_]? = _ from hB] at hh
    cases hh)
  refine (sflush_tx wx (k := 1) hS hW rfl hT (Nat.le_trans hlw kx.size) (by decide) (show (0 : Int) < 1 by decide) (by decide) (fun c => (show 0 + 16 < 1000000 by decide)) (show (0 : Int) ≤ 0 by decide) (show (0 : Int) ≤ 100000000 by decide) (by show 0 + L.length + 1 ≤ 96; omega) (by show 0 + L.length + 1 ≤ 96; omega) (show 0 ≤ x.ops by omega) (show x.ops ≤ 100000 by omega) (show 0 < 4294967296 by decide) (show 0 < 1000000000 by decide)).mono ?_
  rintro e w' ⟨rfl, z6, Lv6, v6, hS6, cs6, -, hT6⟩
  have hLo := Lo.of_cs cs6
  refine ⟨rfl, T, W, rw, Q, V, Bb, bv, al, _, _, xs, cs6.heap hBx (by decide), ?_, hS6, rfl, hT6, hb.lo hLo, own_cs hox cs6 (by decide)⟩
  obtain ⟨U, hU1, hU2⟩ := cs6
  refine hbg.keep hU1 (fun y hy hl cs t fr hh => ?_)
  exact (by decide : ∀ u ∈ ([105, 184, 212, 237, 247, 93, 97, 34, 3, 240, 159] : List Nat), u ≠ 83 ∧ u ≠ 85) t ((hU2 y hy hl).2 cs t fr hh)
/-- .. and was told of it. -/
def PE (x : Pl25) (o av : Value) (cs : Array Value) (w : World) : Prop := (∃ bv al, cs = sch x.d.N x.d.P o bv av true al 5) ∧ Up x.lw x.w0 w
theorem PE.cl (x : Pl25) (o av : Value) (cs : Array Value) : Cl x.lw (PE x o av cs) := ⟨fun _ _ _ h hc _ hl => ⟨h.1, h.2.then hc (fun y hy _ => hl y hy)⟩⟩
set_option maxRecDepth 100000 in
theorem st5 (x : Pl25) (w : World) {c na : Nat} {av : Value} (h : StgD x (.slice (some ⟨x.g, 10, none⟩) 1 c) av true 1 4 na w) (hKl : x.lw ≤ x.K) (hlw : x.lw ≤ w.heap.size) (hc : 1 ≤ c) (hna : na ≤ 900) :
    Calls Tryz.prog 10 #[.pointer (some ⟨x.K, 0, none⟩), .int .i64 1] w fun e w' => e = .returned (.tuple #[.agg #[.int .i64 4, .int .i64 0, .int .i64 0, .int .i64 1, .slice none 0 0], .int .i64 0]) ∧ Up x.lw x.w0 w' := by
  obtain ⟨T, W, rw, Q, V, Bb, bv, al, s, g, xs, hB, hbg, hS, htab, hT, hb, ho⟩ := h
  obtain ⟨cur, hr, -, -, -, -, -, -, -, -, -, -, q0, q1, q2, q3, q4⟩ := hb.ops.row
  have hgK : x.g ≠ x.K := heap_ne hr hB (by simp)
  refine (step_told w (P := PE x (.slice (some ⟨x.g, 10, none⟩) 1 c) av) (q := true) (av := av) (na := na) (m := 0) (x0 := 4) (x1 := 0) (x2 := 0) (x3 := 1) hlw hKl (fun cs => PE.cl x _ _ cs) hB rfl rfl rfl ⟨by decide, by decide⟩ hc (cell_is hr 10 q0) (cell_is hr 11 q1) (cell_is hr 12 q2) (cell_is hr 13 q3) (cell_is hr 14 q4) hgK ?_ ?_ ho hna).mono ?_
  · intro wx kx hBx
    have tK := (chgK hB).k66
    have hlK : ∀ y ∈ [x.K], x.lw ≤ y := fun y hy => by rw [List.mem_singleton] at hy; omega
    have hSx := hS.tp149 kx tK
    have hbgx := hbg.keep kx (beg_ne tK (by decide))
    have hbx := hb.tp kx tK (by decide) hlK
    have hTK : T ∉ [x.K] := by
      intro hm
      rw [List.mem_singleton] at hm
      subst hm
      rw [show w.heap[x.K]? = _ from hB] at hT
      cases hT
    have hTx := kx.heap hT hTK
    have hlx : x.lw ≤ wx.heap.size := Nat.le_trans hlw kx.size
    obtain ⟨gb, cb, rfl, g0⟩ := hbgx.at_
    refine do_call wx (kind := 4) (h := 1) (nb := 1) (Or.inr rfl) hlx (fun cs => PE.cl x _ _ cs) (cell_is hBx 3 rfl) (by decide) g0 (cell_is hbgx.2.1 0 rfl) (by decide) (fun wy ky => ?_)
    refine ccall_c wy (Nat.le_trans hlx ky.size) (fun cs => PE.cl x _ _ cs) (fun wz kz => ?_)
    have kyz := ky.then kz
    have hBz : SchB wz x.K _ := kyz.heap hBx (by simp)
    have hbgz := hbgx.keep kyz (fun y hy => by cases hy)
    have hTz := kyz.heap hTx (by simp)
    refine (commit_told wz (K := x.K) (Bb := Bb) (d := dT x.d T W rw Q V) (h := 1) (k := 1) (ev := 5) (x2 := 0) hBz rfl rfl rfl hbgz.2.1 rfl rfl (hSx.keep kyz) htab (cell_is hTz 0 rfl) (cell_is hTz 1 rfl) (cell_is hTz 2 rfl)).mono ?_
    rintro e w' ⟨rfl, -, hch, -⟩
    refine ⟨rfl, _, ⟨⟨_, _, rfl⟩, (hbx.up.then kyz (fun y hy => by cases hy)).then hch (fun y hy _ => by rw [List.mem_singleton] at hy; subst hy; exact hbgz.2.2)⟩, hch.heap hBz ?_, fun y cs hy => hch.heap hy ?_⟩
    · intro hm
      rw [List.mem_singleton] at hm
      exact heap_ne hBz hbgz.2.1 (by simp) hm
    · intro hm
      rw [List.mem_singleton] at hm
      subst hm
      rw [hbgz.2.1] at hy
      cases hy
  · rintro cs2 w2 ⟨⟨bv, al, rfl⟩, -⟩
    exact ⟨rfl, rfl, rfl⟩
  · rintro e w' ⟨rfl, av', cs2, hP, -, -⟩
    exact ⟨rfl, hP.2⟩
end Go.Proofs.YtliicpedddcfiaaGreat
namespace Go.Proofs.YtliicpedddcfiaaGreat
open Go.RowKit Go.Lib

theorem sch_set (N P : Nat) (o o' b a : Value) (q : Bool) (al : Value) (ev : Int) {cs' : Array Value} (h2 : cs'[2]? = some o') (hr : ∀ j, j ≠ 2 → cs'[j]? = (sch N P o b a q al ev)[j]?) : cs' = sch N P o' b a q al ev := by
  refine Array.ext_getElem? (fun i => ?_)
  by_cases hi : i = 2
  · subst hi
    rw [h2]
    rfl
  · rw [hr i hi, show sch N P o' b a q al ev = (sch N P o b a q al ev).setIfInBounds 2 o' from rfl, Array.getElem?_setIfInBounds_ne (Ne.symm hi)]
set_option maxRecDepth 100000 in
theorem add25 (wx : World) {w1 : World} {lw C K R D E0 Eo : Nat} {d : Ids} {ops : Int} {r : List UInt8} (k : Chg [] w1 wx) (hS : Sto w1 lw d (s00 lw) (g00 lw ops)) (hK : SchB w1 K (sch d.N d.P (.slice none 0 0) (.slice none 0 0) (.slice none 0 0) false (.slice none 0 0) 0))
    (hC : w1.heap[C]? = some (.cells #[.pointer (some ⟨K, 0, none⟩), .pointer (some ⟨R, 0, none⟩), .int .i64 0] 58 (0, 0))) (hlw : lw ≤ w1.heap.size) (hKl : lw ≤ K) (hD : Fo wx D r) (hE0 : wx.heap[E0]? = some (.cells #[.int .i64 1, .slice (some ⟨D, 0, none⟩) 40 40] 37 (0, 0)))
    (hEo : wx.heap[Eo]? = some (.cells #[.int .i64 1, .int .i64 0, .int .i64 0, .int .i64 0, .slice none 0 0, .int .i64 3, .int .i64 0, .int .i64 0, .int .i64 0, .slice (some ⟨E0, 0, none⟩) 1 1, .int .i64 4, .int .i64 0, .int .i64 0, .int .i64 0, .slice none 0 0] 33 (0, 0))) :
    Calls Tryz.prog 8 #[.pointer (some ⟨K, 0, none⟩), .int .i64 1, .slice (some ⟨Eo, 0, none⟩) 3 3] wx fun e w' => e = .returned (.int .i64 0) ∧ ∃ g E D' cE cD c, 3 ≤ c ∧ Sto w' lw d (s00 lw) (g00 lw ops) ∧
      SchB w' K (sch d.N d.P (.slice (some ⟨g, 0, none⟩) 3 c) (.slice none 0 0) (.slice none 0 0) false (.slice none 0 0) 0) ∧ Bas w1 lw C K R g E D' cE cD r w' := by
  have hKx : SchB wx K _ := k.heap hK (by simp)
  have hG : OpsG wx Eo [⟨1, 0, 0, 0, none⟩, ⟨3, 0, 0, 0, some (1, r)⟩, ⟨4, 0, 0, 0, none⟩] := by
    refine ⟨⟨_, hEo⟩, fun i s hs => ?_⟩
    match i with
    | 0 =>
      cases hs
      refine ⟨_, ⟨_, rfl, Or.inl ⟨rfl, rfl⟩⟩, fun j y hy => ?_⟩
      match j with
      | 0 => cases hy; exact cell_is hEo 0 rfl
      | 1 => cases hy; exact cell_is hEo 1 rfl
      | 2 => cases hy; exact cell_is hEo 2 rfl
      | 3 => cases hy; exact cell_is hEo 3 rfl
      | 4 => cases hy; exact cell_is hEo 4 rfl
      | j + 5 => simp at hy
    | 1 =>
      cases hs
      refine ⟨_, ⟨_, rfl, Or.inr ⟨1, r, E0, 0, 1, D, 40, rfl, rfl, cell_is hE0 0 rfl, cell_is hE0 1 rfl, hD.bs, hD.1, _, _, hE0, hD.2⟩⟩, fun j y hy => ?_⟩
      match j with
      | 0 => cases hy; exact cell_is hEo 5 rfl
      | 1 => cases hy; exact cell_is hEo 6 rfl
      | 2 => cases hy; exact cell_is hEo 7 rfl
      | 3 => cases hy; exact cell_is hEo 8 rfl
      | 4 => cases hy; exact cell_is hEo 9 rfl
      | j + 5 => simp at hy
    | 2 =>
      cases hs
      refine ⟨_, ⟨_, rfl, Or.inl ⟨rfl, rfl⟩⟩, fun j y hy => ?_⟩
      match j with
      | 0 => cases hy; exact cell_is hEo 10 rfl
      | 1 => cases hy; exact cell_is hEo 11 rfl
      | 2 => cases hy; exact cell_is hEo 12 rfl
      | 3 => cases hy; exact cell_is hEo 13 rfl
      | 4 => cases hy; exact cell_is hEo 14 rfl
      | j + 5 => simp at hy
    | i + 3 => simp at hs
  refine (sadd_ok wx (c := 3) (lo := lw) (old := []) (xs := []) hKx rfl ⟨by decide, by decide⟩ rfl (World.ownsRow_nil _ _ _ _) rfl (Nat.le_trans hlw k.size) hG (by intro h; cases h) (show 0 + 3 ≤ 200 by decide)).mono ?_
  rintro e w' ⟨rfl, cs', v', xs', hr⟩
  refine ⟨rfl, ?_⟩
  have hown : w'.ownsRow lw 33 5 v' 3 xs' := hr.own
  obtain ⟨g, c, rfl⟩ := own_some hown (by decide)
  have hcs : cs' = _ := sch_set _ _ _ _ _ _ _ _ _ hr.at_ hr.rest
  have hB : SchB w' K _ := hcs ▸ hr.blk
  have hch : Chg [K] wx w' := hr.chg
  have hops : OpsL w' lw [⟨1, 0, 0, 0, none⟩, ⟨3, 0, 0, 0, some (1, r)⟩, ⟨4, 0, 0, 0, none⟩] xs' := hr.ops
  obtain ⟨u1, y1, rfl, ⟨p1, rfl, h1⟩, u2, y2, rfl, ⟨p2, rfl, h2⟩, u3, y3, rfl, ⟨p3, rfl, h3⟩, rfl⟩ := hops
  obtain ⟨-, rfl⟩ : (none : Option (Int × List UInt8)) = none ∧ p1 = .slice none 0 0 := by
    rcases h1 with h | ⟨b, dl, h, -⟩
    · exact h
    · cases h
  obtain ⟨-, rfl⟩ : (none : Option (Int × List UInt8)) = none ∧ p3 = .slice none 0 0 := by
    rcases h3 with h | ⟨b, dl, h, -⟩
    · exact h
    · cases h
  obtain ⟨E, cE, D', cD, ce, rfl, hlE, hlD, hE, hce0, hce1, hbs, hl, hbt⟩ : PutOf w' lw p2 1 r := by
    rcases h2 with ⟨h, -⟩ | ⟨b, dl, h, hp⟩
    · cases h
    · cases h
      exact hp
  have tK : Tp wx [K] [72, 39] := (chgK hKx).k66
  rcases hown.2 with ⟨e, h0⟩ | ⟨g', cap, cur, e, hA, hg, hc1, hc2, hc3, ht⟩
  · cases h0
  cases e
  have hcell : ∀ i v, i < 15 → ([.int .i64 1, .int .i64 0, .int .i64 0, .int .i64 0, .slice none 0 0] ++ ([.int .i64 3, .int .i64 0, .int .i64 0, .int .i64 0, .slice (some ⟨E, 0, none⟩) 1 cE] ++ ([.int .i64 4, .int .i64 0, .int .i64 0, .int .i64 0, .slice none 0 0] ++ [])) : List Value)[i]? = some v → cur[i]? = some v := fun i v hi hv => by
    have : (cur.toList.take (3 * 5))[i]? = some v := by rw [ht]; exact hv
    rwa [List.getElem?_take_of_lt (by omega), Array.getElem?_toList] at this
  refine ⟨g, E, D', cE, cD, c, by simpa using hc1, (hS.keep k).tp149 hch tK, hB, (Up.of0 k).then hch (fun y hy _ => by rw [List.mem_singleton] at hy; omega), hch.heap (k.heap hC (by simp)) ?_, ⟨⟨cur, hg, hcell 0 _ (by decide) rfl, hcell 1 _ (by decide) rfl, hcell 2 _ (by decide) rfl, hcell 3 _ (by decide) rfl, hcell 4 _ (by decide) rfl, hcell 5 _ (by decide) rfl, hcell 6 _ (by decide) rfl, hcell 7 _ (by decide) rfl, hcell 8 _ (by decide) rfl, hcell 9 _ (by decide) rfl, hcell 10 _ (by decide) rfl, hcell 11 _ (by decide) rfl, hcell 12 _ (by decide) rfl, hcell 13 _ (by decide) rfl, hcell 14 _ (by decide) rfl⟩, ⟨ce, hE, hce0, hce1⟩, hbs, hl, hbt⟩⟩
  intro hm
  rw [List.mem_singleton] at hm
  exact heap_ne (k.heap hC (by simp)) hKx (by simp) hm
end Go.Proofs.YtliicpedddcfiaaGreat
namespace Go.Proofs.YtliicpedddcfiaaGreat
open Go.RowKit Go.Lib

theorem Stg.size {x : Pl25} {o av : Value} {q : Bool} {fr ev : Int} {k na : Nat} {w : World} (h : Stg x o av q fr ev k na w) (h0 : x.lw ≤ x.w0.heap.size) : x.lw ≤ w.heap.size := by
  obtain ⟨cs, xs, ⟨T, base, W, rw, Q, V, Bb, bv, al, qf, L, -, -, -, -, hb⟩, -⟩ := h
  obtain ⟨U, h1, -⟩ := hb.up
  exact Nat.le_trans h0 h1.size
theorem StgW.size {x : Pl25} {o av : Value} {q : Bool} {fr ev : Int} {na : Nat} {w : World} (h : StgW x o av q fr ev na w) (h0 : x.lw ≤ x.w0.heap.size) : x.lw ≤ w.heap.size := by
  obtain ⟨cs, xs, ⟨T, W, rw, Q, V, Bb, bv, al, qf, L, gq, cq, -, -, -, -, -, -, hb⟩, -⟩ := h
  obtain ⟨U, h1, -⟩ := hb.up
  exact Nat.le_trans h0 h1.size
theorem StgD.size {x : Pl25} {o av : Value} {q : Bool} {fr ev : Int} {na : Nat} {w : World} (h : StgD x o av q fr ev na w) (h0 : x.lw ≤ x.w0.heap.size) : x.lw ≤ w.heap.size := by
  obtain ⟨T, W, rw, Q, V, Bb, bv, al, s, g, xs, -, -, -, -, -, hb, -⟩ := h
  obtain ⟨U, h1, -⟩ := hb.up
  exact Nat.le_trans h0 h1.size
theorem Stg.wd {x : Pl25} {o av : Value} {q : Bool} {fr ev : Int} {k na : Nat} {w : World} (h : Stg x o av q fr ev k na w) : w.cell? ⟨x.C, 0, none⟩ = some (.pointer (some ⟨x.K, 0, none⟩)) := by
  obtain ⟨cs, xs, ⟨T, base, W, rw, Q, V, Bb, bv, al, qf, L, -, -, -, -, hb⟩, -⟩ := h
  exact cell_is hb.wd 0 rfl
theorem StgW.wd {x : Pl25} {o av : Value} {q : Bool} {fr ev : Int} {na : Nat} {w : World} (h : StgW x o av q fr ev na w) : w.cell? ⟨x.C, 0, none⟩ = some (.pointer (some ⟨x.K, 0, none⟩)) := by
  obtain ⟨cs, xs, ⟨T, W, rw, Q, V, Bb, bv, al, qf, L, gq, cq, -, -, -, -, -, -, hb⟩, -⟩ := h
  exact cell_is hb.wd 0 rfl
theorem StgD.wd {x : Pl25} {o av : Value} {q : Bool} {fr ev : Int} {na : Nat} {w : World} (h : StgD x o av q fr ev na w) : w.cell? ⟨x.C, 0, none⟩ = some (.pointer (some ⟨x.K, 0, none⟩)) := by
  obtain ⟨T, W, rw, Q, V, Bb, bv, al, s, g, xs, -, -, -, -, -, hb, -⟩ := h
  exact cell_is hb.wd 0 rfl
theorem StgW.keep {x : Pl25} {o av : Value} {q : Bool} {fr ev : Int} {na : Nat} {w w' : World} (h : StgW x o av q fr ev na w) (hc : Chg [] w w') : StgW x o av q fr ev na w' := by
  obtain ⟨cs, xs, h1, h2, h3⟩ := h
  exact ⟨cs, xs, (PW.cl x _ _ _ _ _ _).keep w w' [] h1 hc (fun y hy => by cases hy) (fun y hy => by cases hy), hc.heap h2 (by simp), own_keep h3 hc.below0⟩
set_option maxRecDepth 100000 in
set_option maxHeartbeats 4000000 in
theorem awake25 (w : World) : Calls Tryz.prog 5 #[] w fun e w' => e = .returned (.bool true) ∧ Chg [] w w' := by
  go_enter Tryz.func5, Tryz.ntmps5
  go_wp2_with fail
  refine (fresh25 w).mono ?_
  rintro e w1 ⟨C, K, R, d, ops, lw, rfl, k1, hl0, hKl, hCl, hlw, hC, hS, hops, hK⟩
  have c0 : w1.cell? ⟨C, 0, none⟩ = some (.pointer (some ⟨K, 0, none⟩)) := cell_is hC 0 rfl
  have c0d : w1.drew.cell? ⟨C, 0, none⟩ = some (.pointer (some ⟨K, 0, none⟩)) := c0
  have kd : Chg [] w1 w1.drew := (Chg.refl [] w1).drew
  have HX := Lib.hid (And.intro k1 (And.intro hC (And.intro hS (And.intro hK kd))))
  have HI := Lib.hid (And.intro hl0 (And.intro hKl (And.intro hCl (And.intro hlw hops))))
  clear k1 hC hS hK kd hl0 hKl hCl hlw hops
  go_wp2_with fail
  go_region_law
    (first
      | (go_simp; go_at_call 9; refine (data_ok w1.drew 1).mono ?_; rintro e w2 ⟨D, r, rfl, k2, hD, hF⟩; have s2 := k2.cell c0d (by simp); have kA : Chg [] w2 (w2.alloc (.cells #[.int .i64 1, .slice (some ⟨D, 0, none⟩) 40 40] 37)) := Chg.alloc w2 _; have sA := kA.cell s2 (by simp); have kB : Chg [] w2 ((w2.alloc (.cells #[.int .i64 1, .slice (some ⟨D, 0, none⟩) 40 40] 37)).alloc (.cells #[.int .i64 1, .int .i64 0, .int .i64 0, .int .i64 0, .slice none 0 0, .int .i64 3, .int .i64 0, .int .i64 0, .int .i64 0, .slice (some ⟨w2.heap.size, 0, none⟩) 1 1, .int .i64 4, .int .i64 0, .int .i64 0, .int .i64 0, .slice none 0 0] 33)) := kA.then_alloc _; have sB := kB.cell s2 (by simp); have y2 := heap_new2 w2 (.cells #[.int .i64 1, .slice (some ⟨D, 0, none⟩) 40 40] 37) (.cells #[.int .i64 1, .int .i64 0, .int .i64 0, .int .i64 0, .slice none 0 0, .int .i64 3, .int .i64 0, .int .i64 0, .int .i64 0, .slice (some ⟨w2.heap.size, 0, none⟩) 1 1, .int .i64 4, .int .i64 0, .int .i64 0, .int .i64 0, .slice none 0 0] 33); have hFB : Fo ((w2.alloc (.cells #[.int .i64 1, .slice (some ⟨D, 0, none⟩) 40 40] 37)).alloc (.cells #[.int .i64 1, .int .i64 0, .int .i64 0, .int .i64 0, .slice none 0 0, .int .i64 3, .int .i64 0, .int .i64 0, .int .i64 0, .slice (some ⟨w2.heap.size, 0, none⟩) 1 1, .int .i64 4, .int .i64 0, .int .i64 0, .int .i64 0, .slice none 0 0] 33)) D r := ⟨hF.1, kB.heap hF.2 (by simp)⟩)
      | (go_simp; go_at_call 8; refine (add25 _ (R := R) ((HX.out.2.2.2.2.then k2).then kB) HX.out.2.2.1 HX.out.2.2.2.1 HX.out.2.1 HI.out.2.2.2.1 HI.out.2.1 hFB y2.1 y2.2).mono ?_; rintro e w5 ⟨rfl, g, E, D', cE, cD, c, hc3, hS5, hB5, hb5⟩; have s5 : w5.cell? ⟨C, 0, none⟩ = some (.pointer (some ⟨K, 0, none⟩)) := cell_is hb5.wd 0 rfl))
  all_goals
    have hs5 : lw ≤ w5.heap.size := by
      obtain ⟨U, h1, -⟩ := hb5.up
      exact Nat.le_trans HI.out.2.2.2.1 h1.size
    have H5 := Lib.hid (st1 ⟨w1, lw, C, K, R, g, E, D', cE, cD, r, d, ops⟩ w5 hS5 hB5 hb5 HI.out.2.1 hs5 hc3)
    clear c0 c0d k2 hF s2 kA sA kB sB y2 hFB hS5 hB5 hb5 hs5
    go_wp2_with fail
    refine H5.out.mono ?_
    rintro e w6 ⟨v6, av6, rfl, h6⟩
    have s6 : w6.cell? ⟨C, 0, none⟩ = some (.pointer (some ⟨K, 0, none⟩)) := h6.wd
    have H6 := Lib.hid (st2 _ w6 h6 HI.out.2.1 (h6.size HI.out.2.2.2.1) (by omega) (by decide))
    clear H5 s5 h6
    go_wp2_with fail
    refine H6.out.mono ?_
    rintro e w7 ⟨v7, av7, rfl, h7⟩
    have s7 : w7.cell? ⟨C, 0, none⟩ = some (.pointer (some ⟨K, 0, none⟩)) := h7.wd
    have H7 := Lib.hid (st3 _ w7 h7 HI.out.2.1 (h7.size HI.out.2.2.2.1) (by omega))
    clear H6 s6 h7
    go_wp2_with fail
    refine H7.out.mono ?_
    rintro e w8 ⟨rfl, h8⟩
    have k8 : Chg [] w8 (w8.alloc (.cells #[.int .i64 0, .int .i64 0, .int .i64 0, .int .i64 0, .slice none 0 0] 39)) := Chg.alloc w8 _
    have h8' := h8.keep k8
    have s8 : (w8.alloc (.cells #[.int .i64 0, .int .i64 0, .int .i64 0, .int .i64 0, .slice none 0 0] 39)).cell? ⟨C, 0, none⟩ = some (.pointer (some ⟨K, 0, none⟩)) := h8'.wd
    have H8 := Lib.hid (st4 _ _ h8' HI.out.2.1 (h8'.size HI.out.2.2.2.1) HI.out.2.2.2.2)
    clear H7 s7 h8 k8 h8'
    go_wp2_with fail
    refine H8.out.mono ?_
    rintro e w9 ⟨rfl, h9⟩
    have s9 : w9.cell? ⟨C, 0, none⟩ = some (.pointer (some ⟨K, 0, none⟩)) := h9.wd
    have H9 := Lib.hid (st5 _ w9 h9 HI.out.2.1 (h9.size HI.out.2.2.2.1) (by omega) (by decide))
    clear H8 s8 h9
    go_wp2_with fail
    refine H9.out.mono ?_
    rintro e w10 ⟨rfl, h10⟩
    have k10 := Lib.hid (Up.chg0 HX.out.1 h10 HI.out.1)
    have y10 := heap_new w10 (.cells #[.int .i64 4, .int .i64 0, .int .i64 0, .int .i64 1, .slice none 0 0] 39)
    have d0 := cell_is y10 0 rfl
    have d1 := cell_is y10 1 rfl
    have d2 := cell_is y10 2 rfl
    have d3 := cell_is y10 3 rfl
    have d4 := cell_is y10 4 rfl
    clear H9 s9 h10
    go_wp2_with fail
    refine (answer_same _).mono ?_
    rintro e w11 ⟨rfl, k11⟩
    have k12 := Lib.hid ((k10.out.then_alloc _).then k11)
    clear k11 d0 d1 d2 d3 d4 y10
    go_wp2_with fail
    go_ret
    exact ⟨rfl, k12.out⟩
end Go.Proofs.YtliicpedddcfiaaGreat
namespace Go.Proofs.YtliicpedddcfiaaGreat.C2
open Go.RowKit Go.Lib

set_option maxRecDepth 100000 in
set_option maxHeartbeats 8000000 in
theorem law4_f (n : Nat) (w : World) (hn : n ≤ 10) : Calls Tryz.prog 4 #[.int .i64 n, .bool false] w fun e w' => e = .returned (.bool true) ∧ Chg [] w w' := by
  have n1 : decide ((n : Int) < 0) = false := decide_eq_false (by omega)
  have n2 : decide (10 < (n : Int)) = false := decide_eq_false (by omega)
  go_enter Tryz.func4, Tryz.ntmps4
  go_wp2_with fail
  refine (least25 w).mono ?_
  rintro e w1 ⟨rfl, k1⟩
  go_wp2_with fail
  refine (snew_any w1).mono ?_
  rintro e w2 ⟨K, d, ops, rfl, k2, lK, hS, hops, hB⟩
  have hlw : w1.heap.size ≤ w2.heap.size := k2.size
  have hw1 : w.heap.size ≤ w1.heap.size := k1.size
  have k12 := k1.then k2
  clear k1 k2 hops
  generalize w1.heap.size = lw at *
  have HI := Lib.hid (And.intro k12 (And.intro hS (And.intro hB (And.intro lK (And.intro hlw hw1)))))
  clear k12 hS hB lK hlw hw1
  go_wp2_with fail
  refine (data_ok w2 1).mono ?_
  rintro e w3 ⟨D, r, rfl, k3, hD, hF⟩
  have y3 := heap_new2 w3 (.cells #[.int .i64 1, .slice (some ⟨D, 0, none⟩) 40 40] 37) (.cells #[.int .i64 1, .int .i64 0, .int .i64 0, .int .i64 0, .slice none 0 0, .int .i64 3, .int .i64 0, .int .i64 0, .int .i64 0, .slice (some ⟨w3.heap.size, 0, none⟩) 1 1] 33)
  have kB3 : Chg [] w3 ((w3.alloc (.cells #[.int .i64 1, .slice (some ⟨D, 0, none⟩) 40 40] 37)).alloc (.cells #[.int .i64 1, .int .i64 0, .int .i64 0, .int .i64 0, .slice none 0 0, .int .i64 3, .int .i64 0, .int .i64 0, .int .i64 0, .slice (some ⟨w3.heap.size, 0, none⟩) 1 1] 33)) := (Chg.alloc w3 _).then_alloc _
  have HA := Lib.hid (add_first ⟨w2, lw, K, d, ops⟩ ((w3.alloc (.cells #[.int .i64 1, .slice (some ⟨D, 0, none⟩) 40 40] 37)).alloc (.cells #[.int .i64 1, .int .i64 0, .int .i64 0, .int .i64 0, .slice none 0 0, .int .i64 3, .int .i64 0, .int .i64 0, .int .i64 0, .slice (some ⟨w3.heap.size, 0, none⟩) 1 1] 33)) (c := 2) (ss2 := [⟨1, 0, 0, 0, none⟩, ⟨3, 0, 0, 0, some (1, r)⟩]) HI.out.2.1 HI.out.2.2.1 (k3.then kB3)
    (opsG2 y3.2 ⟨_, rfl, Or.inr ⟨1, r, w3.heap.size, 0, 1, D, 40, rfl, rfl, cell_is y3.1 0 rfl, cell_is y3.1 1 rfl, hF.bs.chg kB3, hF.1, _, _, y3.1, kB3.heap hF.2 (by simp)⟩⟩) (by have := k3.size; show w2.heap.size ≤ w3.heap.size + 1; omega) HI.out.2.2.2.1 HI.out.2.2.2.2.1 (show 2 ≤ 200 by decide))
  clear y3 kB3 k3 hD hF
  go_wp2_with fail
  refine HA.out.mono ?_
  rintro e w4 ⟨rfl, o4, hS4, hB4, hb4⟩
  have HB := Lib.hid (sb1 ⟨w2, lw, K, d, ops⟩ w4 hS4 hB4 hb4 HI.out.2.2.2.1 (hb4.size HI.out.2.2.2.2.1))
  clear HA hS4 hB4 hb4
  go_wp2_with fail
  refine HB.out.mono ?_
  rintro e w5 ⟨⟨v5, rfl⟩, h5⟩
  have HC := Lib.hid (sb2 ⟨w2, lw, K, d, ops⟩ w5 h5 ⟨by decide, by decide⟩ HI.out.2.2.2.1 (by obtain ⟨o, hb⟩ := h5.bs; exact hb.size HI.out.2.2.2.2.1) (by decide))
  clear HB h5
  go_wp2_with fail
  refine HC.out.mono ?_
  rintro e w6 ⟨⟨v6, rfl⟩, h6⟩
  clear HC
  have h7 : StC ⟨w2, lw, K, d, ops⟩ [] false 1 0 2 2 w6 := StC.of_open h6
  clear h6
  go_wp2_with fail
  have H7 := Lib.hid h7
  clear h7
  go_loopw [9] (fun i wr => ∃ j : Nat, i = .int .i64 (j : Int) ∧ j ≤ n ∧ StC ⟨w2, lw, K, d, ops⟩ ([] ++ List.replicate j ⟨2, 0, 1, 1, none⟩) false 1 0 2 2 wr) (fun i _ => n - (intOf i).toNat)
  case atStart => exact ⟨0, rfl, Nat.zero_le _, H7.out⟩
  case round =>
    obtain ⟨j, rfl, hj, hj7⟩ := hrel
    by_cases hlt : j < n
    · have m1 : decide ((j : Int) < (n : Int)) = true := decide_eq_true (by omega)
      have m2 : IntKind.i64.wrap ((j : Int) + 1) = ((j + 1 : Nat) : Int) := by rw [IntKind.wrap_i64]; push_cast; omega
      have kA : Chg [] wr (wr.alloc (.cells #[.int .i64 2, .int .i64 0, .int .i64 1, .int .i64 1, .slice none 0 0] 33)) := Chg.alloc wr _
      have HA := Lib.hid (StC.add ⟨w2, lw, K, d, ops⟩ wr (wr.alloc (.cells #[.int .i64 2, .int .i64 0, .int .i64 1, .int .i64 1, .slice none 0 0] 33)) (c := 1) hj7 kA (opsG1 (heap_new wr _)) (Nat.le_refl _) HI.out.2.2.2.1 (by obtain ⟨o, hb⟩ := hj7.bs; exact hb.size HI.out.2.2.2.2.1) (by simp; omega))
      clear hj7 kA
      go_wp2_with fail
      refine HA.out.mono ?_
      rintro e w8 ⟨rfl, h8⟩
      have H8 : Hid (StC ⟨w2, lw, K, d, ops⟩ ([] ++ List.replicate (j + 1) ⟨2, 0, 1, 1, none⟩) false 1 0 2 2 w8) := Lib.hid (by rw [List.replicate_succ', ← List.append_assoc]; exact h8)
      clear h8 HA
      go_wp2_with fail
      go_roundw
      case rel => exact ⟨j + 1, rfl, hlt, H8.out⟩
      case measure => simp [intOf]; omega
    · have hje : j = n := by omega
      subst hje
      have m1 : decide ((j : Int) < (j : Int)) = false := decide_eq_false (by omega)
      have H8 := Lib.hid hj7
      clear hj7 H7 n1 n2
      have kA : Chg [] wr (wr.alloc (.cells #[.int .i64 1, .int .i64 0, .int .i64 0, .int .i64 0, .slice none 0 0, .int .i64 2, .int .i64 1, .int .i64 1, .int .i64 1, .slice none 0 0] 33)) := Chg.alloc wr _
      have HA := Lib.hid (StC.add ⟨w2, lw, K, d, ops⟩ wr (wr.alloc (.cells #[.int .i64 1, .int .i64 0, .int .i64 0, .int .i64 0, .slice none 0 0, .int .i64 2, .int .i64 1, .int .i64 1, .int .i64 1, .slice none 0 0] 33)) (c := 2) (ss2 := [⟨1, 0, 0, 0, none⟩, ⟨2, 1, 1, 1, none⟩]) H8.out kA (opsG2 (heap_new wr _) opG_none) (Nat.le_refl _) HI.out.2.2.2.1 (by obtain ⟨o, hb⟩ := H8.out.bs; exact hb.size HI.out.2.2.2.2.1) (by simp; omega))
      clear kA H8
      go_wp2_with fail
      refine HA.out.mono ?_
      rintro e w9 ⟨rfl, h9⟩
      have HCr := Lib.hid (StC.crash ⟨w2, lw, K, d, ops⟩ w9 (ss' := List.replicate j ⟨2, 0, 1, 1, none⟩ ++ [⟨1, 0, 0, 0, none⟩, ⟨2, 1, 1, 1, none⟩]) h9 (Or.inl ⟨rfl, rfl⟩) ⟨by decide, by decide⟩ HI.out.2.2.2.1 (by obtain ⟨o, hb⟩ := h9.bs; exact hb.size HI.out.2.2.2.2.1))
      clear h9 HA
      go_wp2_with fail
      refine HCr.out.mono ?_
      rintro e w10 ⟨rfl, h10⟩
      have h10 : StD ⟨w2, lw, K, d, ops⟩ (List.replicate j ⟨2, 0, 1, 1, none⟩ ++ [⟨1, 0, 0, 0, none⟩, ⟨2, 1, 1, 1, none⟩]) 4 0 3 2 w10 := h10
      have HL : Hid (Calls Tryz.prog 12 #[.pointer (some ⟨K, 0, none⟩), .int .i64 2] w10 fun e w' => e = .returned (.int .i64 ((j : Int) + 2)) ∧ w10 = w') := Lib.hid (by
        exact h10.left.mono (fun e w' h => ⟨h.1.trans (congrArg (fun z => Ending.returned (Value.int .i64 z)) (by simp)), h.2⟩))
      have n3 : IntKind.i64.wrap ((j : Int) + 2) = (j : Int) + 2 := by rw [IntKind.wrap_i64]; omega
      have H10 := Lib.hid h10
      clear h10 HCr
      go_wp2_with fail
      refine HL.out.mono ?_
      rintro e w11 ⟨rfl, rfl⟩
      go_wp2_with fail
      clear n3 HL m1
      go_loopw [10, 11, 12] (fun i _ _ wr => ∃ k : Nat, i = .int .i64 (k : Int) ∧ k ≤ j ∧ StD ⟨w2, lw, K, d, ops⟩ (List.replicate (j - k) ⟨2, 0, 1, 1, none⟩ ++ [⟨1, 0, 0, 0, none⟩, ⟨2, 1, 1, 1, none⟩]) 4 0 (3 + (k : Int)) (2 + k) wr) (fun i _ _ _ => j - (intOf i).toNat)
      case atStart => exact ⟨0, rfl, Nat.zero_le _, by simpa using H10.out⟩
      case round =>
        obtain ⟨k, rfl, hk, hk7⟩ := hrel
        by_cases hlt : k < j
        · have m1 : decide ((k : Int) < (j : Int)) = true := decide_eq_true (by omega)
          have m2 : IntKind.i64.wrap ((k : Int) + 1) = ((k + 1 : Nat) : Int) := by rw [IntKind.wrap_i64]; push_cast; omega
          have e1 : List.replicate (j - k) (⟨2, 0, 1, 1, none⟩ : OpS) ++ [⟨1, 0, 0, 0, none⟩, ⟨2, 1, 1, 1, none⟩] = ⟨2, 0, 1, 1, none⟩ :: (List.replicate (j - (k + 1)) ⟨2, 0, 1, 1, none⟩ ++ [⟨1, 0, 0, 0, none⟩, ⟨2, 1, 1, 1, none⟩]) := by
            rw [show j - k = (j - (k + 1)) + 1 by omega, List.replicate_succ]; rfl
          rw [e1] at hk7
          have HS := Lib.hid (sd1 ⟨w2, lw, K, d, ops⟩ _ hk7 ⟨by omega, by omega⟩ HI.out.2.2.2.1 (by obtain ⟨o, hb⟩ := hk7.bs; exact hb.size HI.out.2.2.2.2.1) (by omega))
          clear hk7 e1
          go_wp2_with fail
          refine HS.out.mono ?_
          rintro e w12 ⟨rfl, h12⟩
          have kZ : Chg [] w12 (w12.alloc (.cells #[.int .i64 2, .int .i64 5, .int .i64 0, .int .i64 0, .slice none 0 0] 39)) := Chg.alloc w12 _
          have yZ := heap_new w12 (.cells #[.int .i64 2, .int .i64 5, .int .i64 0, .int .i64 0, .slice none 0 0] 39)
          have H12 := Lib.hid (And.intro h12 kZ)
          have d0 := cell_is yZ 0 rfl
          have d1 := cell_is yZ 1 rfl
          have d2 := cell_is yZ 2 rfl
          have d3 := cell_is yZ 3 rfl
          have d4 := cell_is yZ 4 rfl
          clear h12 kZ yZ HS
          go_wp2_with fail
          refine (answer_same _).mono ?_
          rintro e w13 ⟨rfl, k13⟩
          have H13 : Hid (StD ⟨w2, lw, K, d, ops⟩ (List.replicate (j - (k + 1)) ⟨2, 0, 1, 1, none⟩ ++ [⟨1, 0, 0, 0, none⟩, ⟨2, 1, 1, 1, none⟩]) 4 0 (3 + ((k + 1 : Nat) : Int)) (2 + (k + 1)) w13) := Lib.hid (by
            rw [show (3 : Int) + ((k + 1 : Nat) : Int) = 3 + (k : Int) + 1 by omega]
            exact H12.out.1.keep0 (H12.out.2.then k13))
          clear k13 d0 d1 d2 d3 d4
          go_wp2_with fail
          go_roundw
          case rel => exact ⟨k + 1, rfl, hlt, H13.out⟩
          case measure => simp [intOf]; omega
        · have hke : k = j := by omega
          subst hke
          have m1 : decide ((k : Int) < (k : Int)) = false := decide_eq_false (by omega)
          rw [Nat.sub_self] at hk7
          have HS := Lib.hid (sd2 ⟨w2, lw, K, d, ops⟩ _ (ss := [⟨2, 1, 1, 1, none⟩]) hk7 ⟨by omega, by omega⟩ HI.out.2.2.2.1 (by obtain ⟨o, hb⟩ := hk7.bs; exact hb.size HI.out.2.2.2.2.1) (by omega))
          clear hk7 H10
          go_wp2_with fail
          refine HS.out.mono ?_
          rintro e w14 ⟨rfl, h14⟩
          have kZ : Chg [] w14 (w14.alloc (.cells #[.int .i64 1, .int .i64 0, .int .i64 1, .int .i64 0, .slice none 0 0] 39)) := Chg.alloc w14 _
          have ya := heap_new w14 (.cells #[.int .i64 1, .int .i64 0, .int .i64 1, .int .i64 0, .slice none 0 0] 39)
          have HS3 := Lib.hid (sd3 ⟨w2, lw, K, d, ops⟩ w14 _ (ss := []) h14 kZ ⟨by omega, by omega⟩ HI.out.2.2.2.1 (by obtain ⟨o, hb⟩ := h14.bs; exact Nat.le_trans (hb.size HI.out.2.2.2.2.1) kZ.size) (by omega))
          have Hya := Lib.hid ya
          clear h14 kZ ya HS m1
          go_wp2_with fail
          refine HS3.out.mono ?_
          rintro e w15 ⟨⟨g2, c2, rfl, hbs⟩, h15, hk39⟩
          have ya := hk39 _ _ (Nat.le_refl _) Hya.out
          have kZ : Chg [] w15 (w15.alloc (.cells #[.int .i64 2, .int .i64 0, .int .i64 1, .int .i64 0, .slice (some ⟨g2, 0, none⟩) 40 c2] 39)) := Chg.alloc w15 _
          have yb := heap_new w15 (.cells #[.int .i64 2, .int .i64 0, .int .i64 1, .int .i64 0, .slice (some ⟨g2, 0, none⟩) 40 c2] 39)
          have h15 := h15.keep0 kZ
          have HH := Lib.hid h15.hists
          have kw : Chg [] w (w15.alloc (.cells #[.int .i64 2, .int .i64 0, .int .i64 1, .int .i64 0, .slice (some ⟨g2, 0, none⟩) 40 c2] 39)) := by
            obtain ⟨o, hb⟩ := h15.bs
            exact Up.chg0 HI.out.1 hb.up HI.out.2.2.2.2.2
          have HY := Lib.hid (And.intro (kZ.heap ya (by simp)) (And.intro yb (And.intro (hbs.chg kZ) kw)))
          clear h15 hk39 ya kZ yb hbs kw HS3 Hya
          go_wp2_with fail
          refine HH.out.mono ?_
          rintro e w16 ⟨gh, ch, rfl, k16, h0, h4, h7⟩
          have ya : w16.drew.heap[w14.heap.size]? = _ := k16.heap HY.out.1 (by simp)
          have yb : w16.drew.heap[w15.heap.size]? = _ := k16.heap HY.out.2.1 (by simp)
          have hbs : Bs w16.drew (some ⟨g2, 0, none⟩) zeroB := HY.out.2.2.1.chg k16.drew
          have kw := (HY.out.2.2.2.then k16).drew
          generalize w14.heap.size = za at *
          generalize w15.heap.size = zb at *
          have hS : ∀ wx : World, Chg [] w16.drew wx → wx.cell? ⟨gh, 0, none⟩ = some (.int .i64 4) ∧ wx.cell? ⟨gh, 4, none⟩ = some (.int .i64 0) ∧ wx.cell? ⟨gh, 7, none⟩ = some (.int .i64 1) ∧ wx.cell? ⟨za, 0, none⟩ = some (.int .i64 1) ∧ wx.cell? ⟨za, 1, none⟩ = some (.int .i64 0) ∧ wx.cell? ⟨za, 2, none⟩ = some (.int .i64 1) ∧ wx.cell? ⟨za, 3, none⟩ = some (.int .i64 0) ∧ wx.cell? ⟨za, 4, none⟩ = some (.slice none 0 0) ∧ wx.cell? ⟨zb, 0, none⟩ = some (.int .i64 2) ∧ wx.cell? ⟨zb, 1, none⟩ = some (.int .i64 0) ∧ wx.cell? ⟨zb, 2, none⟩ = some (.int .i64 1) ∧ wx.cell? ⟨zb, 3, none⟩ = some (.int .i64 0) ∧ wx.cell? ⟨zb, 4, none⟩ = some (.slice (some ⟨g2, 0, none⟩) 40 c2) := fun wx kx => ⟨kx.cell (show w16.drew.cell? _ = _ from h0) (by simp), kx.cell (show w16.drew.cell? _ = _ from h4) (by simp), kx.cell (show w16.drew.cell? _ = _ from h7) (by simp), kx.cell (cell_is ya 0 rfl) (by simp), kx.cell (cell_is ya 1 rfl) (by simp), kx.cell (cell_is ya 2 rfl) (by simp), kx.cell (cell_is ya 3 rfl) (by simp), kx.cell (cell_is ya 4 rfl) (by simp), kx.cell (cell_is yb 0 rfl) (by simp), kx.cell (cell_is yb 1 rfl) (by simp), kx.cell (cell_is yb 2 rfl) (by simp), kx.cell (cell_is yb 3 rfl) (by simp), kx.cell (cell_is yb 4 rfl) (by simp)⟩
          have HZ := Lib.hid (And.intro hbs kw)
          clear HH HY ya yb hbs kw h0 h4 h7 k16
          obtain ⟨Cz, hCz⟩ : ∃ C : Array Value, C = (Lib.byteCells zeroF).toArray := ⟨_, rfl⟩
          have hMk : ∀ wx : World, (Instr.makeSlice 34 (.int .i64 40) (.int .i64 40)).run Tryz.prog wx = .ok (.slice (some ⟨wx.heap.size, 0, none⟩) 40 40) (wx.alloc (.cells Cz 5)) := fun wx => by rw [hCz]; exact makeF wx
          have HBn : Hid (∀ wx : World, Bs (wx.alloc (.cells Cz 5)) (some ⟨wx.heap.size, 0, none⟩) zeroB) := Lib.hid (fun wx => by rw [hCz]; exact Fo.bs ⟨rfl, heap_new wx _⟩)
          have HLz : Hid (zeroB.length = 40) := Lib.hid rfl
          have HMk := Lib.hid hMk
          clear hCz hMk
          go_upto_region 32 with fail
          go_region_held3 (fun wx => wx.cell? ⟨gh, 0, none⟩ = some (.int .i64 4) ∧ wx.cell? ⟨gh, 4, none⟩ = some (.int .i64 0) ∧ wx.cell? ⟨gh, 7, none⟩ = some (.int .i64 1) ∧ wx.cell? ⟨za, 0, none⟩ = some (.int .i64 1) ∧ wx.cell? ⟨za, 1, none⟩ = some (.int .i64 0) ∧ wx.cell? ⟨za, 2, none⟩ = some (.int .i64 1) ∧ wx.cell? ⟨za, 3, none⟩ = some (.int .i64 0) ∧ wx.cell? ⟨za, 4, none⟩ = some (.slice none 0 0) ∧ wx.cell? ⟨zb, 0, none⟩ = some (.int .i64 2) ∧ wx.cell? ⟨zb, 1, none⟩ = some (.int .i64 0) ∧ wx.cell? ⟨zb, 2, none⟩ = some (.int .i64 1) ∧ wx.cell? ⟨zb, 3, none⟩ = some (.int .i64 0) ∧ wx.cell? ⟨zb, 4, none⟩ = some (.slice (some ⟨g2, 0, none⟩) 40 c2))
            (first | (with_reducible exact hS _ (Chg.refl _ _)) | (with_reducible exact hS _ ka) | (with_reducible exact hS _ kaz) | (with_reducible exact hS _ kb) | (with_reducible exact hS _ kc))
            (first
              | (go_at_call 11; (with_reducible refine Calls.mono (answer_data (wa.alloc (.cells Cz 5)) HBz.out.1 HBz.out.2 HLz.out) ?_); rintro e wb ⟨rfl, kb'⟩; have kb : Chg [] w16.drew wb := kaz.then kb')
              | (go_at_call 11; (with_reducible refine Calls.mono (answer_same w16.drew) ?_); rintro e wa ⟨rfl, ka⟩; have kaz : Chg [] w16.drew (wa.alloc (.cells Cz 5)) := ka.then_alloc _; have hM := HMk.out wa; have HBz := Lib.hid (And.intro (HZ.out.1.chg kaz) (HBn.out wa)))
              | (go_at_call 5; (with_reducible refine Calls.mono (awake25 wb) ?_); rintro e wc ⟨rfl, kc'⟩; have kc : Chg [] w16.drew wc := kb.then kc'))
          all_goals
            have HF := Lib.hid (HZ.out.2.then kc)
            clear hS
            go_wp2_with fail
            go_ret
            exact ⟨rfl, HF.out⟩
end Go.Proofs.YtliicpedddcfiaaGreat.C2
namespace Go.Proofs.YtliicpedddcfiaaGreat.C2
open Go.RowKit Go.Lib

set_option maxRecDepth 100000 in
set_option maxHeartbeats 8000000 in
theorem law4_t (n : Nat) (w : World) (hn : n ≤ 10) : Calls Tryz.prog 4 #[.int .i64 n, .bool true] w fun e w' => e = .returned (.bool true) ∧ Chg [] w w' := by
  have n1 : decide ((n : Int) < 0) = false := decide_eq_false (by omega)
  have n2 : decide (10 < (n : Int)) = false := decide_eq_false (by omega)
  go_enter Tryz.func4, Tryz.ntmps4
  go_wp2_with fail
  refine (least25 w).mono ?_
  rintro e w1 ⟨rfl, k1⟩
  go_wp2_with fail
  refine (snew_any w1).mono ?_
  rintro e w2 ⟨K, d, ops, rfl, k2, lK, hS, hops, hB⟩
  have hlw : w1.heap.size ≤ w2.heap.size := k2.size
  have hw1 : w.heap.size ≤ w1.heap.size := k1.size
  have k12 := k1.then k2
  clear k1 k2 hops
  generalize w1.heap.size = lw at *
  have HI := Lib.hid (And.intro k12 (And.intro hS (And.intro hB (And.intro lK (And.intro hlw hw1)))))
  clear k12 hS hB lK hlw hw1
  go_wp2_with fail
  refine (data_ok w2 1).mono ?_
  rintro e w3 ⟨D, r, rfl, k3, hD, hF⟩
  have y3 := heap_new2 w3 (.cells #[.int .i64 1, .slice (some ⟨D, 0, none⟩) 40 40] 37) (.cells #[.int .i64 1, .int .i64 0, .int .i64 0, .int .i64 0, .slice none 0 0, .int .i64 3, .int .i64 0, .int .i64 0, .int .i64 0, .slice (some ⟨w3.heap.size, 0, none⟩) 1 1] 33)
  have kB3 : Chg [] w3 ((w3.alloc (.cells #[.int .i64 1, .slice (some ⟨D, 0, none⟩) 40 40] 37)).alloc (.cells #[.int .i64 1, .int .i64 0, .int .i64 0, .int .i64 0, .slice none 0 0, .int .i64 3, .int .i64 0, .int .i64 0, .int .i64 0, .slice (some ⟨w3.heap.size, 0, none⟩) 1 1] 33)) := (Chg.alloc w3 _).then_alloc _
  have HA := Lib.hid (add_first ⟨w2, lw, K, d, ops⟩ ((w3.alloc (.cells #[.int .i64 1, .slice (some ⟨D, 0, none⟩) 40 40] 37)).alloc (.cells #[.int .i64 1, .int .i64 0, .int .i64 0, .int .i64 0, .slice none 0 0, .int .i64 3, .int .i64 0, .int .i64 0, .int .i64 0, .slice (some ⟨w3.heap.size, 0, none⟩) 1 1] 33)) (c := 2) (ss2 := [⟨1, 0, 0, 0, none⟩, ⟨3, 0, 0, 0, some (1, r)⟩]) HI.out.2.1 HI.out.2.2.1 (k3.then kB3)
    (opsG2 y3.2 ⟨_, rfl, Or.inr ⟨1, r, w3.heap.size, 0, 1, D, 40, rfl, rfl, cell_is y3.1 0 rfl, cell_is y3.1 1 rfl, hF.bs.chg kB3, hF.1, _, _, y3.1, kB3.heap hF.2 (by simp)⟩⟩) (by have := k3.size; show w2.heap.size ≤ w3.heap.size + 1; omega) HI.out.2.2.2.1 HI.out.2.2.2.2.1 (show 2 ≤ 200 by decide))
  clear y3 kB3 k3 hD hF
  go_wp2_with fail
  refine HA.out.mono ?_
  rintro e w4 ⟨rfl, o4, hS4, hB4, hb4⟩
  have HB := Lib.hid (sb1 ⟨w2, lw, K, d, ops⟩ w4 hS4 hB4 hb4 HI.out.2.2.2.1 (hb4.size HI.out.2.2.2.2.1))
  clear HA hS4 hB4 hb4
  go_wp2_with fail
  refine HB.out.mono ?_
  rintro e w5 ⟨⟨v5, rfl⟩, h5⟩
  have HC := Lib.hid (sb2 ⟨w2, lw, K, d, ops⟩ w5 h5 ⟨by decide, by decide⟩ HI.out.2.2.2.1 (by obtain ⟨o, hb⟩ := h5.bs; exact hb.size HI.out.2.2.2.2.1) (by decide))
  clear HB h5
  go_wp2_with fail
  refine HC.out.mono ?_
  rintro e w6 ⟨⟨v6, rfl⟩, h6⟩
  clear HC
  have kA : Chg [] w6 (w6.alloc (.cells #[.int .i64 4, .int .i64 0, .int .i64 0, .int .i64 0, .slice none 0 0] 33)) := Chg.alloc w6 _
  have HA7 := Lib.hid (Stg2.add ⟨w2, lw, K, d, ops⟩ w6 (w6.alloc (.cells #[.int .i64 4, .int .i64 0, .int .i64 0, .int .i64 0, .slice none 0 0] 33)) (c := 1) h6 kA (opsG1 (heap_new w6 _)) (Nat.le_refl _) HI.out.2.2.2.1 (by obtain ⟨o, hb⟩ := h6.bs; exact hb.size HI.out.2.2.2.2.1) (by decide))
  clear h6 kA
  go_wp2_with fail
  refine HA7.out.mono ?_
  rintro e w7 ⟨rfl, h6⟩
  have HS7 := Lib.hid (sc1 ⟨w2, lw, K, d, ops⟩ w7 (ss := []) h6 ⟨by decide, by decide⟩ HI.out.2.2.2.1 (by obtain ⟨o, hb⟩ := h6.bs; exact hb.size HI.out.2.2.2.2.1))
  clear h6 HA7
  go_wp2_with fail
  refine HS7.out.mono ?_
  rintro e w8 ⟨rfl, h8⟩
  have h7 : StC ⟨w2, lw, K, d, ops⟩ [⟨4, 0, 0, 0, none⟩] true 2 1 3 2 (w8.alloc (.cells #[.int .i64 0, .int .i64 0, .int .i64 0, .int .i64 0, .slice none 0 0] 39)) := StC.of_wait (h8.keep0 (Chg.alloc w8 _))
  clear h8 HS7
  go_wp2_with fail
  generalize w8.alloc (.cells #[.int .i64 0, .int .i64 0, .int .i64 0, .int .i64 0, .slice none 0 0] 39) = w6 at *
  have H7 := Lib.hid h7
  clear h7
  go_loopw [9] (fun i wr => ∃ j : Nat, i = .int .i64 (j : Int) ∧ j ≤ n ∧ StC ⟨w2, lw, K, d, ops⟩ ([⟨4, 0, 0, 0, none⟩] ++ List.replicate j ⟨2, 0, 1, 1, none⟩) true 2 1 3 2 wr) (fun i _ => n - (intOf i).toNat)
  case atStart => exact ⟨0, rfl, Nat.zero_le _, H7.out⟩
  case round =>
    obtain ⟨j, rfl, hj, hj7⟩ := hrel
    by_cases hlt : j < n
    · have m1 : decide ((j : Int) < (n : Int)) = true := decide_eq_true (by omega)
      have m2 : IntKind.i64.wrap ((j : Int) + 1) = ((j + 1 : Nat) : Int) := by rw [IntKind.wrap_i64]; push_cast; omega
      have kA : Chg [] wr (wr.alloc (.cells #[.int .i64 2, .int .i64 0, .int .i64 1, .int .i64 1, .slice none 0 0] 33)) := Chg.alloc wr _
      have HA := Lib.hid (StC.add ⟨w2, lw, K, d, ops⟩ wr (wr.alloc (.cells #[.int .i64 2, .int .i64 0, .int .i64 1, .int .i64 1, .slice none 0 0] 33)) (c := 1) hj7 kA (opsG1 (heap_new wr _)) (Nat.le_refl _) HI.out.2.2.2.1 (by obtain ⟨o, hb⟩ := hj7.bs; exact hb.size HI.out.2.2.2.2.1) (by simp; omega))
      clear hj7 kA
      go_wp2_with fail
      refine HA.out.mono ?_
      rintro e w8 ⟨rfl, h8⟩
      have H8 : Hid (StC ⟨w2, lw, K, d, ops⟩ ([⟨4, 0, 0, 0, none⟩] ++ List.replicate (j + 1) ⟨2, 0, 1, 1, none⟩) true 2 1 3 2 w8) := Lib.hid (by rw [List.replicate_succ', ← List.append_assoc]; exact h8)
      clear h8 HA
      go_wp2_with fail
      go_roundw
      case rel => exact ⟨j + 1, rfl, hlt, H8.out⟩
      case measure => simp [intOf]; omega
    · have hje : j = n := by omega
      subst hje
      have m1 : decide ((j : Int) < (j : Int)) = false := decide_eq_false (by omega)
      have H8 := Lib.hid hj7
      clear hj7 H7 n1 n2
      have kA : Chg [] wr (wr.alloc (.cells #[.int .i64 1, .int .i64 0, .int .i64 0, .int .i64 0, .slice none 0 0, .int .i64 2, .int .i64 1, .int .i64 1, .int .i64 1, .slice none 0 0] 33)) := Chg.alloc wr _
      have HA := Lib.hid (StC.add ⟨w2, lw, K, d, ops⟩ wr (wr.alloc (.cells #[.int .i64 1, .int .i64 0, .int .i64 0, .int .i64 0, .slice none 0 0, .int .i64 2, .int .i64 1, .int .i64 1, .int .i64 1, .slice none 0 0] 33)) (c := 2) (ss2 := [⟨1, 0, 0, 0, none⟩, ⟨2, 1, 1, 1, none⟩]) H8.out kA (opsG2 (heap_new wr _) opG_none) (Nat.le_refl _) HI.out.2.2.2.1 (by obtain ⟨o, hb⟩ := H8.out.bs; exact hb.size HI.out.2.2.2.2.1) (by simp; omega))
      clear kA H8
      go_wp2_with fail
      refine HA.out.mono ?_
      rintro e w9 ⟨rfl, h9⟩
      have HCr := Lib.hid (StC.crash ⟨w2, lw, K, d, ops⟩ w9 (ss' := List.replicate j ⟨2, 0, 1, 1, none⟩ ++ [⟨1, 0, 0, 0, none⟩, ⟨2, 1, 1, 1, none⟩]) h9 (Or.inr ⟨rfl, _, rfl⟩) ⟨by decide, by decide⟩ HI.out.2.2.2.1 (by obtain ⟨o, hb⟩ := h9.bs; exact hb.size HI.out.2.2.2.2.1))
      clear h9 HA
      go_wp2_with fail
      refine HCr.out.mono ?_
      rintro e w10 ⟨rfl, h10⟩
      have h10 : StD ⟨w2, lw, K, d, ops⟩ (List.replicate j ⟨2, 0, 1, 1, none⟩ ++ [⟨1, 0, 0, 0, none⟩, ⟨2, 1, 1, 1, none⟩]) 2 1 4 2 w10 := h10
      have HL : Hid (Calls Tryz.prog 12 #[.pointer (some ⟨K, 0, none⟩), .int .i64 2] w10 fun e w' => e = .returned (.int .i64 ((j : Int) + 2)) ∧ w10 = w') := Lib.hid (by
        exact h10.left.mono (fun e w' h => ⟨h.1.trans (congrArg (fun z => Ending.returned (Value.int .i64 z)) (by simp)), h.2⟩))
      have n3 : IntKind.i64.wrap ((j : Int) + 2) = (j : Int) + 2 := by rw [IntKind.wrap_i64]; omega
      have H10 := Lib.hid h10
      clear h10 HCr
      go_wp2_with fail
      refine HL.out.mono ?_
      rintro e w11 ⟨rfl, rfl⟩
      go_wp2_with fail
      clear n3 HL m1
      go_loopw [10, 11, 12] (fun i _ _ wr => ∃ k : Nat, i = .int .i64 (k : Int) ∧ k ≤ j ∧ StD ⟨w2, lw, K, d, ops⟩ (List.replicate (j - k) ⟨2, 0, 1, 1, none⟩ ++ [⟨1, 0, 0, 0, none⟩, ⟨2, 1, 1, 1, none⟩]) 2 1 (4 + (k : Int)) (2 + k) wr) (fun i _ _ _ => j - (intOf i).toNat)
      case atStart => exact ⟨0, rfl, Nat.zero_le _, by simpa using H10.out⟩
      case round =>
        obtain ⟨k, rfl, hk, hk7⟩ := hrel
        by_cases hlt : k < j
        · have m1 : decide ((k : Int) < (j : Int)) = true := decide_eq_true (by omega)
          have m2 : IntKind.i64.wrap ((k : Int) + 1) = ((k + 1 : Nat) : Int) := by rw [IntKind.wrap_i64]; push_cast; omega
          have e1 : List.replicate (j - k) (⟨2, 0, 1, 1, none⟩ : OpS) ++ [⟨1, 0, 0, 0, none⟩, ⟨2, 1, 1, 1, none⟩] = ⟨2, 0, 1, 1, none⟩ :: (List.replicate (j - (k + 1)) ⟨2, 0, 1, 1, none⟩ ++ [⟨1, 0, 0, 0, none⟩, ⟨2, 1, 1, 1, none⟩]) := by
            rw [show j - k = (j - (k + 1)) + 1 by omega, List.replicate_succ]; rfl
          rw [e1] at hk7
          have HS := Lib.hid (sd1 ⟨w2, lw, K, d, ops⟩ _ hk7 ⟨by omega, by omega⟩ HI.out.2.2.2.1 (by obtain ⟨o, hb⟩ := hk7.bs; exact hb.size HI.out.2.2.2.2.1) (by omega))
          clear hk7 e1
          go_wp2_with fail
          refine HS.out.mono ?_
          rintro e w12 ⟨rfl, h12⟩
          have kZ : Chg [] w12 (w12.alloc (.cells #[.int .i64 2, .int .i64 5, .int .i64 0, .int .i64 0, .slice none 0 0] 39)) := Chg.alloc w12 _
          have yZ := heap_new w12 (.cells #[.int .i64 2, .int .i64 5, .int .i64 0, .int .i64 0, .slice none 0 0] 39)
          have H12 := Lib.hid (And.intro h12 kZ)
          have d0 := cell_is yZ 0 rfl
          have d1 := cell_is yZ 1 rfl
          have d2 := cell_is yZ 2 rfl
          have d3 := cell_is yZ 3 rfl
          have d4 := cell_is yZ 4 rfl
          clear h12 kZ yZ HS
          go_wp2_with fail
          refine (answer_same _).mono ?_
          rintro e w13 ⟨rfl, k13⟩
          have H13 : Hid (StD ⟨w2, lw, K, d, ops⟩ (List.replicate (j - (k + 1)) ⟨2, 0, 1, 1, none⟩ ++ [⟨1, 0, 0, 0, none⟩, ⟨2, 1, 1, 1, none⟩]) 2 1 (4 + ((k + 1 : Nat) : Int)) (2 + (k + 1)) w13) := Lib.hid (by
            rw [show (4 : Int) + ((k + 1 : Nat) : Int) = 4 + (k : Int) + 1 by omega]
            exact H12.out.1.keep0 (H12.out.2.then k13))
          clear k13 d0 d1 d2 d3 d4
          go_wp2_with fail
          go_roundw
          case rel => exact ⟨k + 1, rfl, hlt, H13.out⟩
          case measure => simp [intOf]; omega
        · have hke : k = j := by omega
          subst hke
          have m1 : decide ((k : Int) < (k : Int)) = false := decide_eq_false (by omega)
          rw [Nat.sub_self] at hk7
          have HS := Lib.hid (sd2 ⟨w2, lw, K, d, ops⟩ _ (ss := [⟨2, 1, 1, 1, none⟩]) hk7 ⟨by omega, by omega⟩ HI.out.2.2.2.1 (by obtain ⟨o, hb⟩ := hk7.bs; exact hb.size HI.out.2.2.2.2.1) (by omega))
          clear hk7 H10
          go_wp2_with fail
          refine HS.out.mono ?_
          rintro e w14 ⟨rfl, h14⟩
          have kZ : Chg [] w14 (w14.alloc (.cells #[.int .i64 1, .int .i64 0, .int .i64 1, .int .i64 0, .slice none 0 0] 39)) := Chg.alloc w14 _
          have ya := heap_new w14 (.cells #[.int .i64 1, .int .i64 0, .int .i64 1, .int .i64 0, .slice none 0 0] 39)
          have HS3 := Lib.hid (sd3 ⟨w2, lw, K, d, ops⟩ w14 _ (ss := []) h14 kZ ⟨by omega, by omega⟩ HI.out.2.2.2.1 (by obtain ⟨o, hb⟩ := h14.bs; exact Nat.le_trans (hb.size HI.out.2.2.2.2.1) kZ.size) (by omega))
          have Hya := Lib.hid ya
          clear h14 kZ ya HS m1
          go_wp2_with fail
          refine HS3.out.mono ?_
          rintro e w15 ⟨⟨g2, c2, rfl, hbs⟩, h15, hk39⟩
          have ya := hk39 _ _ (Nat.le_refl _) Hya.out
          have kZ : Chg [] w15 (w15.alloc (.cells #[.int .i64 2, .int .i64 0, .int .i64 1, .int .i64 0, .slice (some ⟨g2, 0, none⟩) 40 c2] 39)) := Chg.alloc w15 _
          have yb := heap_new w15 (.cells #[.int .i64 2, .int .i64 0, .int .i64 1, .int .i64 0, .slice (some ⟨g2, 0, none⟩) 40 c2] 39)
          have h15 := h15.keep0 kZ
          have HH := Lib.hid h15.hists
          have kw : Chg [] w (w15.alloc (.cells #[.int .i64 2, .int .i64 0, .int .i64 1, .int .i64 0, .slice (some ⟨g2, 0, none⟩) 40 c2] 39)) := by
            obtain ⟨o, hb⟩ := h15.bs
            exact Up.chg0 HI.out.1 hb.up HI.out.2.2.2.2.2
          have HY := Lib.hid (And.intro (kZ.heap ya (by simp)) (And.intro yb (And.intro (hbs.chg kZ) kw)))
          clear h15 hk39 ya kZ yb hbs kw HS3 Hya
          go_wp2_with fail
          refine HH.out.mono ?_
          rintro e w16 ⟨gh, ch, rfl, k16, h0, h4, h7⟩
          have ya : w16.drew.heap[w14.heap.size]? = _ := k16.heap HY.out.1 (by simp)
          have yb : w16.drew.heap[w15.heap.size]? = _ := k16.heap HY.out.2.1 (by simp)
          have hbs : Bs w16.drew (some ⟨g2, 0, none⟩) zeroB := HY.out.2.2.1.chg k16.drew
          have kw := (HY.out.2.2.2.then k16).drew
          generalize w14.heap.size = za at *
          generalize w15.heap.size = zb at *
          have hS : ∀ wx : World, Chg [] w16.drew wx → wx.cell? ⟨gh, 0, none⟩ = some (.int .i64 2) ∧ wx.cell? ⟨gh, 4, none⟩ = some (.int .i64 0) ∧ wx.cell? ⟨gh, 7, none⟩ = some (.int .i64 1) ∧ wx.cell? ⟨za, 0, none⟩ = some (.int .i64 1) ∧ wx.cell? ⟨za, 1, none⟩ = some (.int .i64 0) ∧ wx.cell? ⟨za, 2, none⟩ = some (.int .i64 1) ∧ wx.cell? ⟨za, 3, none⟩ = some (.int .i64 0) ∧ wx.cell? ⟨za, 4, none⟩ = some (.slice none 0 0) ∧ wx.cell? ⟨zb, 0, none⟩ = some (.int .i64 2) ∧ wx.cell? ⟨zb, 1, none⟩ = some (.int .i64 0) ∧ wx.cell? ⟨zb, 2, none⟩ = some (.int .i64 1) ∧ wx.cell? ⟨zb, 3, none⟩ = some (.int .i64 0) ∧ wx.cell? ⟨zb, 4, none⟩ = some (.slice (some ⟨g2, 0, none⟩) 40 c2) := fun wx kx => ⟨kx.cell (show w16.drew.cell? _ = _ from h0) (by simp), kx.cell (show w16.drew.cell? _ = _ from h4) (by simp), kx.cell (show w16.drew.cell? _ = _ from h7) (by simp), kx.cell (cell_is ya 0 rfl) (by simp), kx.cell (cell_is ya 1 rfl) (by simp), kx.cell (cell_is ya 2 rfl) (by simp), kx.cell (cell_is ya 3 rfl) (by simp), kx.cell (cell_is ya 4 rfl) (by simp), kx.cell (cell_is yb 0 rfl) (by simp), kx.cell (cell_is yb 1 rfl) (by simp), kx.cell (cell_is yb 2 rfl) (by simp), kx.cell (cell_is yb 3 rfl) (by simp), kx.cell (cell_is yb 4 rfl) (by simp)⟩
          have HZ := Lib.hid (And.intro hbs kw)
          clear HH HY ya yb hbs kw h0 h4 h7 k16
          obtain ⟨Cz, hCz⟩ : ∃ C : Array Value, C = (Lib.byteCells zeroF).toArray := ⟨_, rfl⟩
          have hMk : ∀ wx : World, (Instr.makeSlice 34 (.int .i64 40) (.int .i64 40)).run Tryz.prog wx = .ok (.slice (some ⟨wx.heap.size, 0, none⟩) 40 40) (wx.alloc (.cells Cz 5)) := fun wx => by rw [hCz]; exact makeF wx
          have HBn : Hid (∀ wx : World, Bs (wx.alloc (.cells Cz 5)) (some ⟨wx.heap.size, 0, none⟩) zeroB) := Lib.hid (fun wx => by rw [hCz]; exact Fo.bs ⟨rfl, heap_new wx _⟩)
          have HLz : Hid (zeroB.length = 40) := Lib.hid rfl
          have HMk := Lib.hid hMk
          clear hCz hMk
          go_upto_region 32 with fail
          go_region_held3 (fun wx => wx.cell? ⟨gh, 0, none⟩ = some (.int .i64 2) ∧ wx.cell? ⟨gh, 4, none⟩ = some (.int .i64 0) ∧ wx.cell? ⟨gh, 7, none⟩ = some (.int .i64 1) ∧ wx.cell? ⟨za, 0, none⟩ = some (.int .i64 1) ∧ wx.cell? ⟨za, 1, none⟩ = some (.int .i64 0) ∧ wx.cell? ⟨za, 2, none⟩ = some (.int .i64 1) ∧ wx.cell? ⟨za, 3, none⟩ = some (.int .i64 0) ∧ wx.cell? ⟨za, 4, none⟩ = some (.slice none 0 0) ∧ wx.cell? ⟨zb, 0, none⟩ = some (.int .i64 2) ∧ wx.cell? ⟨zb, 1, none⟩ = some (.int .i64 0) ∧ wx.cell? ⟨zb, 2, none⟩ = some (.int .i64 1) ∧ wx.cell? ⟨zb, 3, none⟩ = some (.int .i64 0) ∧ wx.cell? ⟨zb, 4, none⟩ = some (.slice (some ⟨g2, 0, none⟩) 40 c2))
            (first | (with_reducible exact hS _ (Chg.refl _ _)) | (with_reducible exact hS _ ka) | (with_reducible exact hS _ kaz) | (with_reducible exact hS _ kb) | (with_reducible exact hS _ kc))
            (first
              | (go_at_call 11; (with_reducible refine Calls.mono (answer_data (wa.alloc (.cells Cz 5)) HBz.out.1 HBz.out.2 HLz.out) ?_); rintro e wb ⟨rfl, kb'⟩; have kb : Chg [] w16.drew wb := kaz.then kb')
              | (go_at_call 11; (with_reducible refine Calls.mono (answer_same w16.drew) ?_); rintro e wa ⟨rfl, ka⟩; have kaz : Chg [] w16.drew (wa.alloc (.cells Cz 5)) := ka.then_alloc _; have hM := HMk.out wa; have HBz := Lib.hid (And.intro (HZ.out.1.chg kaz) (HBn.out wa)))
              | (go_at_call 5; (with_reducible refine Calls.mono (awake25 wb) ?_); rintro e wc ⟨rfl, kc'⟩; have kc : Chg [] w16.drew wc := kb.then kc'))
          all_goals
            have HF := Lib.hid (HZ.out.2.then kc)
            clear hS
            go_wp2_with fail
            go_ret
            exact ⟨rfl, HF.out⟩
end Go.Proofs.YtliicpedddcfiaaGreat.C2
namespace Go.Proofs.YtliicpedddcfiaaGreat
open Go.ChangeShapes Go.WideShapes Go.ChangeAt Go.RowKit Go.Deep Go.Joins
set_option maxRecDepth 100000

theorem ownk : ownKnob Tryz.prog.godebug = none := by kernel_rfl
/-- what a contract with 'Below' gives of a row's sentence. -/
theorem post_below {H : Type} {enc : TypeId × Value → H} {f : Func} {s : ChangeSpec} {W W' : World} {args : Array Value} {v : Value} {ds gs : List (DataW H)} {before pa pv : List MemPlace} (hb : Below W.heap.size W W')
    (hW : DataW.Whole enc Tryz.prog f.params.toList s.vars false W args.toList ds gs before)
    (hres : DataW.TrodAll enc Tryz.prog W' W.heap.size (fun _ => false) false f.resultTypes.toList (v.resultList f.resultTypes.size) (s.fn H (ds ++ gs)).results [])
    (hargs : DataW.TrodAll enc Tryz.prog W' 0 (fun b => decide (b < W.heap.size)) true f.params.toList args.toList (s.fn H (ds ++ gs)).args pa)
    (hvars : DataW.TrodVars enc Tryz.prog W' (fun b => decide (b < W.heap.size)) s.vars (s.fn H (ds ++ gs)).vars pv) :
    s.post enc Tryz.prog f false true false false W args v W' :=
  ⟨ds, gs, before, [], pa, pv, hW, hres, hargs, hvars, hb.frame _, fun h => by cases h⟩

end Go.Proofs.YtliicpedddcfiaaGreat
namespace Go.Proofs.YtliicpedddcfiaaGreat
open Go.ChangeShapes Go.WideShapes Go.ChangeAt Go.RowKit Go.Deep Go.Joins
set_option maxRecDepth 100000
theorem law4_far (n : Int) (q : Bool) (w : World) (h : n < 0 ∨ 10 < n) : Calls Tryz.prog 4 #[.int .i64 n, .bool q] w fun e w' => e = .returned (.bool true) ∧ Chg [] w w' := by
  have HA := Lib.hid (awake25 w)
  by_cases h1 : n < 0
  · have n1 : decide (n < 0) = true := decide_eq_true h1
    clear h
    go_enter Tryz.func4, Tryz.ntmps4
    go_wp2_with fail
    refine HA.out.mono ?_
    rintro e w1 ⟨rfl, k⟩
    go_wp2_with fail
    go_ret
    exact ⟨rfl, k⟩
  · have n1 : decide (n < 0) = false := decide_eq_false h1
    have n2 : decide (10 < n) = true := decide_eq_true (by omega)
    clear h
    go_enter Tryz.func4, Tryz.ntmps4
    go_wp2_with fail
    refine HA.out.mono ?_
    rintro e w1 ⟨rfl, k⟩
    go_wp2_with fail
    go_ret
    exact ⟨rfl, k⟩
theorem law4_any (n : Int) (q : Bool) (w : World) : Calls Tryz.prog 4 #[.int .i64 n, .bool q] w fun e w' => e = .returned (.bool true) ∧ Chg [] w w' := by
  by_cases h : n < 0 ∨ 10 < n
  · exact law4_far n q w h
  obtain ⟨k, rfl⟩ : ∃ k : Nat, n = k := ⟨n.toNat, by omega⟩
  cases q with
  | false => exact C2.law4_f k w (by omega)
  | true => exact C2.law4_t k w (by omega)
namespace Law4
theorem contract (H : Type) (enc : TypeId × Value → H) (W : World) (base : Nat) (args : Array Value) (ds gs : List (DataW H)) (before : List MemPlace)
    (hval : ∀ (j : Nat) t v, Tryz.f4.params[j]? = some t → args[j]? = some v → Value.okWide Tryz.prog W .any base t v)
    (hW : DataW.Whole enc Tryz.prog Tryz.f4.params.toList Rows.schedCrashSpec.vars false W args.toList ds gs before) :
    Calls Tryz.prog 4 args W fun e W' => ∃ v, e = .returned v ∧ Rows.schedCrashSpec.post enc Tryz.prog Tryz.f4 false true false false W args v W' := by
  have hW' := hW
  obtain ⟨p, q, hA0, hV, rfl, hfz, hnd⟩ := hW
  have hA : DataW.TrodAll enc Tryz.prog W 0 (fun _ => true) true Tryz.f4.params.toList args.toList ds p := hA0
  rw [Tryz.params4] at hA hval
  obtain ⟨v0, vs0, d0, ds0, p0, q0, hargs, rfl, rfl, h0, r0⟩ := trodAll_cons hA
  obtain ⟨v1, vs1, d1, ds1, p1, q1, rfl, rfl, rfl, h1, r1⟩ := trodAll_cons r0
  obtain ⟨rfl, rfl, rfl⟩ := trodAll_nil r1
  obtain rfl : args = #[v0, v1] := by cases args; simp_all
  obtain ⟨rfl, rfl⟩ := trodVars_none hV
  obtain ⟨a0, rfl, rfl, rfl, w0⟩ := open_int Tryz.underlying3 (hval 0 3 v0 rfl rfl) h0
  obtain ⟨a1, rfl, rfl, rfl⟩ := open_bool Tryz.underlying4 (hval 1 4 v1 rfl rfl) h1
  refine (law4_any a0 a1 W).mono fun e W' ⟨he, hc⟩ => ?_
  subst he
  exact ⟨_, rfl, post_below hc.below0 hW' (trodAll_mk1 (shut_bool Tryz.underlying4 _)) (trodAll_cons_mk (shut_int Tryz.underlying3 w0) (trodAll_cons_mk (shut_bool Tryz.underlying4 _) trodAll_mk0)) rfl⟩
theorem lifted (os : Os) (started : os.Started) (H : Type) (enc : TypeId × Value → H) :
    ReturnsInHanded {} Tryz.checked os 4 .any (Rows.schedCrashSpec.pre6 enc Tryz.prog Tryz.f4 Rows.schedCrashRow.domain false) (Rows.schedCrashSpec.post enc Tryz.prog Tryz.f4 false true false false) := by
  refine returnsInHanded_of_change (C := Tryz.checked) ownk started (by kernel_rfl) Tryz.func4
    (ChangeSpec.witness6 (enc := enc) (C := Tryz.checked) false ⟨#[], #[.int .i64 0, .bool false], []⟩ 8 (by kernel_rfl) (by kernel_rfl) (by kernel_rfl) (by kernel_rfl)) ?_
  intro W base args ds gs before hval0 hW hcnd _
  exact contract H enc W base args ds gs before hval0 hW
theorem over : Rows.schedCrashRow.holds Tryz.pinned (OpenSpec.ofChange Rows.schedCrashSpec) :=
  OpenClaim.holds_of_wide 4 Tryz.f4 rfl rfl rfl rfl rfl rfl rfl ⟨rfl, rfl, rfl, rfl, rfl⟩ rfl rfl rfl rfl rfl (by kernel_rfl) Tryz.func4 (by kernel_rfl)
    (of_decide_eq_true (by kernel_rfl)) (by unfold Func.isWrapper; first | (rw [if_pos (by decide +kernel)]; kernel_rfl) | (rw [if_neg (by decide +kernel)]; exact ⟨rfl, rfl⟩))
    (fun os started H enc _ => lifted os started H enc)
theorem said : Rows.SchedCrashSaid := over
end Law4
end Go.Proofs.YtliicpedddcfiaaGreat
