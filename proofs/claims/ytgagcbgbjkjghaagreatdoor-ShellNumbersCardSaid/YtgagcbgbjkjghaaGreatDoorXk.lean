/- Lemmas and walks: Walks: a store's batch of one transaction is flushed. Walks: versions that are no newer than a time: nothing was written behind it. Walks: a transaction is checked, and may be committed, where all versions are no newer than its time and nothing waits. Walks: a store's Begin and Commit, in general. Walks: a new world of law 26, with all that its store holds. Walks: a schedule's block; which client is meant; how many of its ops wait. Walks: an op in memory of its own; an answer too. Walks: ops wait: Add of a schedule. Walks: a store's last time; what became of a transaction. Walks: a new schedule. Walks: a client begins a transaction. -/
import Derived.Maps.RangeRun
import Derived.Deep.AppendLies
import Derived.Deep.RegionHeld3
import Derived.Test.YtgagcbgbjkjghaaGreatDoorXf
import Derived.Test.YtgagcbgbjkjghaaGreatDoorXg
import Derived.Test.YtgagcbgbjkjghaaGreatDoorXh
import Derived.Test.YtgagcbgbjkjghaaGreatDoorXi
import Derived.Test.YtgagcbgbjkjghaaGreatDoorXj
namespace Go.Proofs.YtgagcbgbjkjghaaGreatDoor
open Go.RowKit Go.Lib

theorem BufD.keepA {w w' : World} {U : List Nat} {L : List (Int × Value)} {D : Int → List UInt8} (h : BufD w L D) (hc : Chg U w w') (hU : Av w U [5]) : BufD w' L D := fun k v hv => by
  obtain ⟨g, c, h1, h2, h3, h4⟩ := h k v hv
  have hn : g ∉ U := Bt.av h4 hU (by simp)
  exact ⟨g, c, h1, h2.chgT hc hn, h3, Bt.keep h4 hc hn⟩
theorem Cd.av {lo M T rb X rx : Nat} {w : World} {S ts : List Nat} {csM csT csX : Array Value} {L1 L2 : List (Int × Value)} (hS : ∀ x ∈ S, x < w.heap.size → x = M ∨ x = T ∨ x = rb ∨ x = X ∨ x = rx ∨ (lo ≤ x ∧ ∃ cs, w.heap[x]? = some (.cells cs 240 (0, 0))))
    (hM : w.heap[M]? = some (.cells csM 179 (0, 0))) (hT : w.heap[T]? = some (.cells csT 279 (0, 0))) (hX : w.heap[X]? = some (.cells csX 231 (0, 0))) (h1 : MapAt w rb L1) (h2 : MapAt w rx L2) (h : ∀ t ∈ ts, t ∉ [179, 279, 231, 240]) : Av w S ts := by
  intro x hx cs t fr hh ht
  have hn := h t ht
  rcases hS x hx (heap_lt hh) with rfl | rfl | rfl | rfl | rfl | ⟨-, cs2, h3⟩
  · rw [hM] at hh; cases hh; exact hn (by simp)
  · rw [hT] at hh; cases hh; exact hn (by simp)
  · exact map_cells h1 hh rfl
  · rw [hX] at hh; cases hh; exact hn (by simp)
  · exact map_cells h2 hh rfl
  · rw [h3] at hh; cases hh; exact hn (by simp)
theorem Cs.of_cd {lw lo M T rb X rx : Nat} {w w' : World} {csM csT csX : Array Value} {L1 L2 : List (Int × Value)} (h : Cd lo M T rb X rx w w')
    (hM : w.heap[M]? = some (.cells csM 179 (0, 0))) (hT : w.heap[T]? = some (.cells csT 279 (0, 0))) (hX : w.heap[X]? = some (.cells csX 231 (0, 0))) (h1 : MapAt w rb L1) (h2 : MapAt w rx L2) (hb : lw ≤ lo ∧ lw ≤ M ∧ lw ≤ T ∧ lw ≤ rb ∧ lw ≤ X ∧ lw ≤ rx) : Cs lw w w' := by
  obtain ⟨S, k1, k2⟩ := h
  refine ⟨S, k1, fun x hx hlt => ?_⟩
  obtain ⟨b1, b2, b3, b4, b5, b6⟩ := hb
  rcases k2 x hx hlt with rfl | rfl | rfl | rfl | rfl | ⟨hl, cs2, h3⟩
  · exact ⟨b2, fun cs t fr hh => by rw [hM] at hh; cases hh; simp⟩
  · exact ⟨b3, fun cs t fr hh => by rw [hT] at hh; cases hh; simp⟩
  · exact ⟨b4, fun cs t fr hh => absurd rfl (map_cells h1 hh)⟩
  · exact ⟨b5, fun cs t fr hh => by rw [hX] at hh; cases hh; simp⟩
  · exact ⟨b6, fun cs t fr hh => absurd rfl (map_cells h2 hh)⟩
  · exact ⟨by omega, fun cs t fr hh => by rw [h3] at hh; cases hh; simp⟩
/-- the blocks that a write of a batch changes. -/
theorem Sto.wtp {w : World} {lw : Nat} {d : Ids} {s : Gs} {g : Gd} (h : Sto w lw d s g) : Tp w (d.P :: d.N :: d.Z ++ (g.dv 6).ownBlock.toList) [91, 78, 82, 23] ∧ ∀ x ∈ d.P :: d.N :: d.Z ++ (g.dv 6).ownBlock.toList, lw ≤ x := by
  have hb := h.bnd
  refine ⟨fun x hx => ?_, fun x hx => ?_⟩
  · simp only [List.cons_append, List.mem_cons, List.mem_append] at hx
    rcases hx with rfl | rfl | hx | hx
    · exact ⟨_, _, h.store, by simp⟩
    · exact ⟨_, _, h.dev.hdr, by simp⟩
    · obtain ⟨i, hi, rfl⟩ := List.getElem_of_mem hx
      exact ⟨_, _, h.dev.zone i hi, by simp⟩
    · obtain ⟨cs, hh⟩ := (h.dev.rows 6 (by omega)).block x (by simpa using hx)
      exact ⟨_, _, hh, by simp⟩
  · simp only [List.cons_append, List.mem_cons, List.mem_append] at hx
    rcases hx with rfl | rfl | hx | hx
    · omega
    · omega
    · exact h.bndZ x hx
    · obtain ⟨xs, ho, -⟩ := h.dev.rows 6 (by omega)
      have := (own_elem ho (show (g.dv 6).ownBlock = some x by simpa using hx)).1
      omega
/-- what a transaction that waits holds beside the store. -/
structure Wtx (w : World) (d : Ids) (s : Gs) (gq cq : Nat) (hdl : Int) (k : Nat) (t t0 : Int) (L : List (Int × Value)) (D : Int → List UInt8) : Prop where
  qv : s.qv = .slice (some ⟨gq, 0, none⟩) 1 cq
  cq : 1 ≤ cq
  q : ∃ cs, w.heap[gq]? = some (.cells cs 3 (0, 0)) ∧ cs[0]? = some (.int .i64 hdl)
  tab : getL s.Lr hdl = some (.pointer (some ⟨d.T, 0, none⟩))
  tx : TxW w d.T d.W d.Q k t
  buf : BufAt w d.W d.rw L
  bd : BufD w L D
  bk : ∀ x ∈ L, 0 ≤ x.1 ∧ x.1 < 258
  len0 : 0 < L.length
  len : L.length ≤ 16
  book : getL s.Lb hdl = some (.int .i64 t0)
theorem Wtx.keepA {w w' : World} {U : List Nat} {d : Ids} {s : Gs} {gq cq : Nat} {hdl : Int} {k : Nat} {t t0 : Int} {L : List (Int × Value)} {D : Int → List UInt8} (h : Wtx w d s gq cq hdl k t t0 L D) (hc : Chg U w w') (hU : Av w U [3, 279, 334, 5]) (hr : d.rw ∉ U) : Wtx w' d s gq cq hdl k t t0 L D := by
  obtain ⟨cs, q1, q2⟩ := h.q
  exact ⟨h.qv, h.cq, ⟨cs, hc.heap q1 (hU.ne q1 (by simp)), q2⟩, h.tab, hc.heap h.tx (hU.ne h.tx (by simp)), h.buf.keep hc (hU.ne h.buf.1 (by simp)) hr, h.bd.keepA hc (fun x hx cs t fr hh ht => hU x hx cs t fr hh (by simp at ht; simp [ht])), h.bk, h.len0, h.len, h.book⟩
theorem Wtx.keep {w w' : World} {d : Ids} {s : Gs} {gq cq : Nat} {hdl : Int} {k : Nat} {t t0 : Int} {L : List (Int × Value)} {D : Int → List UInt8} (h : Wtx w d s gq cq hdl k t t0 L D) (hc : Chg [] w w') : Wtx w' d s gq cq hdl k t t0 L D := h.keepA hc (Av.nil _ _) (by simp)
/-- the manager behind a batch. -/
def doneS (s : Gs) (z : Nat) (k : Nat) (hdl : Int) (Lv' : List (Int × Value)) (l : List (Int × List UInt8)) : Gs :=
  { s with qv := .slice (some ⟨z, 0, none⟩) 0 0, out := 0, num := s.num + 1, last := k, lastv := k, Lv := Lv', vs := applyV s.vs k l, Lb := delL s.Lb hdl }
/-- the log behind a batch. -/
def doneG (g : Gd) (v6 : Value) (k : Nat) (l : List (Int × List UInt8)) : Gd :=
  { g with pos := g.pos + l.length + 1, num := g.num + 1, ops := g.ops + l.length + 2, dv := upF g.dv 6 v6, gs := goodF g.gs (upF g.zs 6 (g.zs 6 ++ batL g.cnt (g.num + 1) k l)) 8, zs := upF g.zs 6 (g.zs 6 ++ batL g.cnt (g.num + 1) k l) }
/-- what a flush of one transaction leaves. -/
def FlushR (w w' : World) (lw : Nat) (d : Ids) (s : Gs) (g : Gd) (k : Nat) (hdl : Int) (l : List (Int × List UInt8)) : Prop :=
  ∃ z Lv' v6, Sto w' lw d (doneS s z k hdl Lv' l) (doneG g v6 k l) ∧ Cs lw w w' ∧ w'.ownsRow lw 3 1 (.slice (some ⟨z, 0, none⟩) 0 0) 0 []
set_option maxRecDepth 100000 in
set_option maxHeartbeats 4000000 in
theorem sflush_ok (w : World) {lw : Nat} {d : Ids} {s : Gs} {g : Gd} {gq cq : Nat} {hdl : Int} {k : Nat} {t t0 : Int} {L : List (Int × Value)} {D : Int → List UInt8} (h : Sto w lw d s g) (hw : Wtx w d s gq cq hdl k t t0 L D) (hout : s.out = 0) (hT : lw ≤ d.T) (hlw : lw ≤ w.heap.size)
    (hk0 : 1 ≤ k) (hlast : s.lastv < k) (hk1 : k ≤ 1099511627776) (hs : ∀ c, (s.vs c).length + 16 < 1000000) (hn0 : 0 ≤ s.num) (hn1 : s.num ≤ 100000000) (hroom : (g.zs 6).length + L.length + 1 ≤ 96) (hpos : g.pos + L.length + 1 ≤ 96) (ho0 : 0 ≤ g.ops) (ho1 : g.ops ≤ 100000) (hcnt : g.cnt < 4294967296) (hnum : g.num < 1000000000) :
    Calls Tryz.prog 128 #[.pointer (some ⟨d.P, 0, none⟩)] w fun e w' => e = .returned (.int .i64 0) ∧ FlushR w w' lw d s g k hdl (putsL L D) := by
  have HD := Lib.hid (dead_g w h.store)
  have p5 : w.cell? ⟨d.P, 5, none⟩ = some (.pointer (some ⟨d.M, 0, none⟩)) := cell_is h.store 5 rfl
  have hm := h.mx.mgr
  rw [hw.qv, hout] at hm
  obtain ⟨cs, hq1, hq2⟩ := hw.q
  have hpl : (putsL L D).length = L.length := putsL_length L D
  have HB := Lib.hid (tbatch_one w (k := k) (l := putsL L D) hm (by have := hw.len; omega) hn0 (by omega) (fun w1 k1 => waiting_one w1 (k1.heap hm (by simp)) (k1.cell (cell_is hq1 0 hq2) (by simp)) (h.mx.map.keep k1 (by simp)) hw.tab (k1.heap hw.tx (by simp)) (hw.buf.keep k1 (by simp) (by simp)) (hw.bd.keep k1) hw.bk (by have := hw.len; omega)))
  have HS := Lib.hid h
  have HW := Lib.hid hw
  have HO := Lib.hid hout
  have HQv := Lib.hid hw.qv
  clear h hw hm hout hq1 hq2
  go_enter Tryz.func128, Tryz.ntmps128
  go_wp2_with fail
  refine HD.out.mono ?_
  rintro e w1 ⟨rfl, rfl⟩
  go_wp2_with fail
  refine HB.out.mono ?_
  rintro e w1 ⟨gt, ct, rfl, k1, hm1, ht1⟩
  have hS := HS.out
  have avM : ∀ ts, 179 ∉ ts → Av w [d.M] ts := fun ts h1 => Av.row hS.mx.mgr h1
  have nmM : ∀ {x L}, MapAt w x L → x ∉ [d.M] := fun hm => by simpa using map_cells hm hS.mx.mgr
  have S1 : Sto w1 lw d { s with out := 1 } g :=
    ⟨k1.heap hS.store ((avM [91] (by decide)).ne hS.store (by simp)), k1.heap hS.slot ((avM [152] (by decide)).ne hS.slot (by simp)), hS.text.keep k1 (avM _ (by decide)), hS.dev.keep k1 (avM _ (by decide)),
      hS.mx.chgM k1 (by rw [HQv.out]; exact hm1) rfl rfl rfl rfl rfl rfl rfl, hS.ap, hS.keys, hS.bnd, hS.bndZ, Nat.le_trans hS.slo k1.size, hS.dlo⟩
  have W1 := HW.out.keepA k1 (avM _ (by decide)) (nmM HW.out.buf.2)
  have c1 : Cs lw w w1 := Cs.of_tp (ts := [179]) k1 (fun x hx => by rw [List.mem_singleton] at hx; subst hx; exact ⟨_, _, hS.mx.mgr, by simp⟩) (by decide) (fun x hx => by rw [List.mem_singleton] at hx; subst hx; exact hS.bnd.2.2.2.1)
  have ka : Chg [] w1 (w1.alloc (.cells #[.int .i64 (s.num + 1), .slice (some ⟨gt, 0, none⟩) 1 ct] 167)) := Chg.alloc w1 _
  have A0 := heap_new w1 (.cells #[.int .i64 (s.num + 1), .slice (some ⟨gt, 0, none⟩) 1 ct] 167)
  have S2 := S1.keep ka
  have W2 := W1.keep ka
  have c2 := c1.trans (Cs.of_chg ka)
  have ht2 := ht1.keep ka
  have h6 : 6 < d.Z.length := by have := S2.dev.len; omega
  have hl0 : 0 < (putsL L D).length := by have := HW.out.len0; omega
  have hl16 : (putsL L D).length ≤ 16 := by have := HW.out.len; omega
  have hwr := swrite_log _ (num0 := s.num + 1) S2.store (fun w' k' => load_g w' (k'.heap S2.slot (by simp)) (S2.text.keep k' (Av.nil _ _))) S2.dev ho0 ho1 S2.dlo ht2 hk0 hk1 hcnt (by omega) hl0 hl16 (rise_puts D HW.out.buf.2.nodup) (putsL_in D HW.out.bk) (by rw [hpl]; exact hroom) (by rw [hpl]; exact hpos) h6
  have HWr := Lib.hid hwr
  have q5 : w1.cell? ⟨d.P, 5, none⟩ = some (.pointer (some ⟨d.M, 0, none⟩)) := cell_is S1.store 5 rfl
  have HS2 := Lib.hid S2
  have HW2 := Lib.hid W2
  have HC2 := Lib.hid c2
  have Hpl := Lib.hid hpl
  clear hwr S1 S2 W1 W2 c1 c2 ht1 ht2 hm1 k1 ka hS avM nmM hroom hpos hl0 hl16 HB HD hpl hk0
  go_wp2_with fail
  generalize w1.alloc (.cells #[.int .i64 (s.num + 1), .slice (some ⟨gt, 0, none⟩) 1 ct] 167) = w2 at *
  refine HWr.out.mono ?_
  rintro e w3 ⟨rfl, k3, hP3, v6, hd3⟩
  have S2 := HS2.out
  have tp := S2.wtp.1
  have S3x : Mx w3 d.M d.X d.rx d.B d.rb d.r { s with out := 1 } := S2.mx.keepA k3 (tp.av (by decide)) (tp.map S2.mx.ver.m) (tp.map S2.mx.book.2) (tp.map S2.mx.map)
  have slot3 := k3.heap S2.slot ((tp.av (ts' := [152]) (by decide)).ne S2.slot (by simp))
  have text3 := S2.text.keep k3 (tp.av (by decide))
  have W3 := HW2.out.keepA k3 (tp.av (by decide)) (tp.map HW2.out.buf.2)
  have c3 := HC2.out.trans (Cs.of_tp k3 tp (by decide) S2.wtp.2)
  obtain ⟨cs, hq1, hq2⟩ := W3.q
  have hdn := tdone_ok w3 S3x (show ({ s with out := 1 } : Gs).qv = _ from W3.qv) W3.cq rfl (cell_is hq1 0 hq2) W3.tab W3.tx W3.buf W3.bd W3.bk W3.len0 W3.len S2.ap S2.keys (Nat.le_trans S2.slo k3.size) hlast (by omega) hs W3.book hn0 (by show s.num ≤ _; omega)
  have HDn := Lib.hid hdn
  have r5 : w3.cell? ⟨d.P, 5, none⟩ = some (.pointer (some ⟨d.M, 0, none⟩)) := cell_is hP3 5 rfl
  have HS3 := Lib.hid (And.intro S3x (And.intro slot3 (And.intro text3 (And.intro hP3 hd3))))
  have HW3 := Lib.hid W3
  have HC3 := Lib.hid c3
  clear hdn S2 tp S3x slot3 text3 hP3 hd3 W3 c3 hq1 hq2 k3 HWr HC2 HW2 q5
  go_wp2_with fail
  refine HDn.out.mono ?_
  rintro e w4 ⟨rfl, z, ⟨⟨Lv', hx4, hap4, hk4⟩, hcd, -⟩, o4⟩
  have hF : FlushR w w4 lw d s g k hdl (putsL L D) := by
    obtain ⟨hx3, slot3, text3, hP3, hd3⟩ := HS3.out
    have c4 := HC3.out.trans (Cs.of_cd hcd hx3.mgr HW3.out.tx hx3.ver.x hx3.book.2 hx3.ver.m (by
      have := HS.out.bnd
      exact ⟨this.2.2.2.2.2.2.2.2.2.1, this.2.2.2.1, hT, this.2.2.2.2.2.2.2.1, this.2.2.2.2.1, this.2.2.2.2.2.1⟩))
    obtain ⟨U, kU, hU⟩ := hcd
    have av : ∀ ts : List Nat, (∀ t ∈ ts, t ∉ [179, 279, 231, 240]) → Av w3 U ts := fun ts hts => Cd.av hU hx3.mgr HW3.out.tx hx3.ver.x hx3.book.2 hx3.ver.m hts
    refine ⟨z, Lv', v6, ⟨?_, kU.heap slot3 ((av [152] (by decide)).ne slot3 (by simp)), text3.keep kU (av _ (by decide)), hd3.keep kU (av _ (by decide)), hx4, hap4, hk4, HS.out.bnd, HS.out.bndZ, Nat.le_trans HS.out.slo c4.size, HS.out.dlo⟩, c4, ownsRow_low o4 (Nat.le_trans hlw HC3.out.size)⟩
    exact kU.heap hP3 ((av [91] (by decide)).ne hP3 (by simp))
  have HF := Lib.hid hF
  clear hF hx4 hap4 hk4 hcd o4 HDn HS3 HW3 HC3 r5
  go_wp2_with fail
  go_ret
  exact ⟨rfl, HF.out⟩
end Go.Proofs.YtgagcbgbjkjghaaGreatDoor
namespace Go.Proofs.YtgagcbgbjkjghaaGreatDoor
open Go.RowKit Go.Lib

theorem getL_of_mem {L : List (Int × Value)} (hn : (L.map Prod.fst).Nodup) {p : Int × Value} (hp : p ∈ L) : getL L p.1 = some p.2 := by
  induction L with
  | nil => cases hp
  | cons a l ih =>
    rw [List.map_cons, List.nodup_cons] at hn
    simp only [getL]
    rcases List.mem_cons.1 hp with rfl | h
    · rw [if_pos rfl]
    · rw [if_neg (fun e => hn.1 (by rw [← e]; exact List.mem_map.2 ⟨p, h, rfl⟩))]
      exact ih hn.2 h
/-- a map's entries, one by one. -/
theorem MapAt.entries {w : World} {r : Nat} {L : List (Int × Value)} (h : MapAt w r L) : ∃ es clock, w.heap[r]? = some (.map es clock) ∧ MapKept.Stamped es clock ∧ ∀ e ∈ es.toList, ∃ k, e.key = .int .i64 k ∧ (k, e.val) ∈ L ∧ getL L k = some e.val := by
  have hn := h.nodup
  obtain ⟨es, clock, hb, hI, hS⟩ := h
  refine ⟨es, clock, hb, hS, fun e he => ?_⟩
  have h1 : (e.key, e.val) ∈ es.toList.map (fun e => (e.key, e.val)) := List.mem_map.2 ⟨e, he, rfl⟩
  rw [hI] at h1
  obtain ⟨p, hp, e1⟩ := List.mem_map.1 h1
  have e2 : e.key = .int .i64 p.1 := (congrArg Prod.fst e1).symm
  have e3 : e.val = p.2 := (congrArg Prod.snd e1).symm
  exact ⟨p.1, e2, by rw [e3]; exact hp, by rw [e3]; exact getL_of_mem hn hp⟩
/-- all versions are no newer than a time; the map's keys are blocks. -/
def OldV (L : List (Int × Value)) (vs : Int → List (Int × List UInt8)) (t : Int) : Prop := (∀ p ∈ L, 0 ≤ p.1 ∧ p.1 < 258) ∧ ∀ b, ∀ x ∈ vs b, x.1 ≤ t
set_option maxRecDepth 100000 in
set_option maxHeartbeats 1000000 in
theorem written_old (w : World) {lo X rx : Nat} {last : Int} {L : List (Int × Value)} {vs : Int → List (Int × List UInt8)} (h : VerG w lo X rx last L vs) (b n t : Int) (ho : OldV L vs t) : Calls Tryz.prog 387 #[.pointer (some ⟨X, 0, none⟩), .agg #[.int .i64 b, .int .i64 n], .int .i64 t] w fun e w' => e = .returned (.bool false) ∧ Chg [] w w' := by
  have kA : Chg [] w (w.alloc (.cells #[.int .i64 b, .int .i64 n] 342)) := Chg.alloc w _
  have A0 := heap_new w (.cells #[.int .i64 b, .int .i64 n] 342)
  have h2 := h.keep kA
  have x0 : (w.alloc (.cells #[.int .i64 b, .int .i64 n] 342)).cell? ⟨X, 0, none⟩ = some (.int .i64 258) := cell_is h2.x 0 rfl
  have x1 : (w.alloc (.cells #[.int .i64 b, .int .i64 n] 342)).cell? ⟨X, 1, none⟩ = some (.map (some rx)) := cell_is h2.x 1 rfl
  have a0 : (w.alloc (.cells #[.int .i64 b, .int .i64 n] 342)).cell? ⟨w.heap.size, 0, none⟩ = some (.int .i64 b) := cell_is A0 0 rfl
  have a1 : (w.alloc (.cells #[.int .i64 b, .int .i64 n] 342)).cell? ⟨w.heap.size, 1, none⟩ = some (.int .i64 n) := cell_is A0 1 rfl
  have HG := Lib.hid (xgone_any _ x0)
  have H2 := Lib.hid h2
  clear h h2 A0
  go_enter Tryz.func387, Tryz.ntmps387
  go_upto_region 1 with fail
  generalize w.alloc (.cells #[.int .i64 b, .int .i64 n] 342) = w1 at *
  generalize hz : w.heap.size = z at *
  go_cut [38] from 7 (fun v wx => (∃ r : Bool, v = .bool r) ∧ wx = w1)
  case first =>
    go_wp2_with fail
    refine HG.out.mono ?_
    rintro e w2 ⟨rfl, rfl⟩
    go_wp2_with fail
    all_goals
      go_meet
      exact ⟨⟨_, rfl⟩, rfl⟩
  case rest =>
    obtain ⟨⟨r, rfl⟩, rfl⟩ := hcut
    rename World => wd
    cases r
    · obtain ⟨es, clock, hm, hst, hen⟩ := H2.out.m.entries
      have hr1 := run_range_map (P := Tryz.prog) wd 229 3 238 rx es clock (by kernel_rfl) hm
      have HE := Lib.hid hen
      have HO := Lib.hid ho
      clear hen ho
      have kR : Chg [] wd (wd.alloc (.mapIter (some rx) clock #[] clock)) := Chg.alloc wd _
      have R0 := heap_new wd (.mapIter (some rx) clock #[] clock)
      go_wp2_with fail
      generalize hzR : wd.heap.size = R at *
      generalize wd.alloc (.mapIter (some rx) clock #[] clock) = w3 at *
      go_loopw [7, 8] (fun _ _ wr => ∃ seen, wr.heap[R]? = some (.mapIter (some rx) clock seen clock) ∧ Chg [] wd wr) (fun _ _ wr => (leftOf es (wr.iterSeen R)).size)
      case atStart => exact ⟨#[], R0, kR⟩
      case round =>
        obtain ⟨seen, hR, kr⟩ := hrel
        have hb1 : wr.heap[rx]? = some (.map es clock) := kr.heap hm (by simp)
        rcases run_next_at (P := Tryz.prog) wr 0 R rx clock clock seen es clock hR hb1 hst.1 (Nat.le_refl _) with ⟨h0, hrun⟩ | ⟨e, he, w2, hal2, hrun⟩
        · have hnx : ∀ ty, (Instr.next (.pointer (some ⟨R, 0, none⟩)) false ty).run Tryz.prog wr = _ := fun _ => hrun
          have kF : Chg [] w wr := kA.then kr
          go_wp2_with fail
          go_ret
          exact ⟨rfl, kF⟩
        · obtain ⟨k, hk, hL, hget⟩ := HE.out e (mem_left he).1
          obtain ⟨hk0, hk1⟩ := HO.out.1 _ hL
          have hk0' : 0 ≤ k := hk0
          have hk1' : k < 258 := hk1
          obtain ⟨v, hv, hrow, hne⟩ : ∃ v, e.val = v ∧ VRow wd lo v (vs k) ∧ vs k ≠ [] := by
            rcases H2.out.row k hk0' hk1' with ⟨e1, _⟩ | ⟨v, e1, e2, e3⟩
            · rw [hget] at e1; cases e1
            · rw [hget] at e1; cases e1; exact ⟨_, rfl, e2, e3⟩
          have h5 : ∃ w5, w5 = Go.ChangeMaps.setBlock w2 R (.mapIter (some rx) clock (seen.push e.born) clock) ∧ w5.heap[R]? = some (.mapIter (some rx) clock (seen.push e.born) clock) ∧ Chg [] wd w5 := by
            refine ⟨_, rfl, ?_, ?_⟩
            · have hl : R < w2.heap.size := by rcases hal2 with rfl | rfl <;> exact heap_lt hR
              simp [Go.ChangeMaps.setBlock, hl]
            · have kk : Chg [] wd w2 := by rcases hal2 with e | e <;> rw [e]; exact kr; exact kr.drew
              refine kk.trans (T := [R]) ⟨rfl, rfl, rfl, by simp [Go.ChangeMaps.setBlock], fun q _ hq => ?_⟩ (fun x hx hlt => by rw [List.mem_singleton] at hx; omega)
              have : R ≠ q := by intro e; exact hq (by rw [e]; simp)
              simp [Go.ChangeMaps.setBlock, this]
          obtain ⟨w5, e5, hR5, k5⟩ := h5
          rw [← e5] at hrun
          have hen := run_entry_at (P := Tryz.prog) w5 R rx clock seen es clock e hR5 (k5.heap hm (by simp)) (mem_left he).1 hst.2.1
          have HM := Lib.hid (left_shrinks es seen e he)
          obtain ⟨j, hj⟩ : ∃ j, (vs k).length = j + 1 := ⟨(vs k).length - 1, by have := List.length_pos_iff.2 hne; omega⟩
          obtain ⟨g, cap, gd, cd, rfl, hcap, d0, -, -, -, -⟩ := hrow.get j (by omega)
          have hsm := H2.out.small k
          have hold : ((vs k)[j]'(by omega)).1 ≤ t := HO.out.2 k _ (List.getElem_mem _)
          have d5 := k5.cell d0 (by simp)
          have y0 := k5.cell a0 (by simp)
          have y1 := k5.cell a1 (by simp)
          rw [hk, hv, hj] at hrun hen
          rw [hj] at hcap
          have kz : Chg [] w w5 := kA.then k5
          have hnx : ∀ ty, (Instr.next (.pointer (some ⟨R, 0, none⟩)) false ty).run Tryz.prog wr = _ := fun _ => hrun
          clear d0 hrow hL hget hk hv hne hal2 kr hb1 hrun e5
          generalize ((vs k)[j]'(by omega)).1 = tl at *
          go_upto_region 6 with fail
          have ej : wrap64 (((j + 1 : Nat) : Int) - 1) = j := by unfold wrap64; omega
          go_cut [72] from 44 (fun v wx => v = .bool false ∧ wx = w5)
          case first =>
            have hl1 : j < j + 1 := by omega
            have htl : decide (tl > t) = false := decide_eq_false (by omega)
            go_wp2_with fail
            all_goals
              go_meet
              exact ⟨by simp, rfl⟩
          case rest =>
            obtain ⟨rfl, rfl⟩ := hcut
            go_wp2_with fail
            go_roundw
            case rel => exact ⟨_, hR5, k5⟩
            case measure => simp only [World.iterSeen, hR5, hR]; exact HM.out
    · go_wp2_with fail
      go_ret
      exact ⟨rfl, kA⟩
end Go.Proofs.YtgagcbgbjkjghaaGreatDoor
namespace Go.Proofs.YtgagcbgbjkjghaaGreatDoor
open Go.RowKit Go.Lib

set_option maxRecDepth 100000 in
set_option maxHeartbeats 4000000 in
theorem check_old (w : World) {lo X rx lo1 U1 m1 n1 lo2 U2 m2 n2 cq : Nat} {pq : Option Addr} {last t : Int} {Lv : List (Int × Value)} {vs : Int → List (Int × List UInt8)} (h : VerG w lo X rx last Lv vs) (ho : OldV Lv vs t) (hr : SpW w lo1 U1 m1 n1) (hw : SpW w lo2 U2 m2 n2) (hn1 : n1 ≤ 1000) (hn2 : n2 ≤ 1000) :
    Calls Tryz.prog 374 #[.pointer (some ⟨X, 0, none⟩), .slice pq 0 cq, .int .i64 t, .pointer (some ⟨U1, 0, none⟩), .pointer (some ⟨U2, 0, none⟩)] w fun e w' => e = .returned (.int .i64 0) ∧ Chg [] w w' := by
  have HC := Lib.hid (count_any w hw hn2)
  have HV := Lib.hid h
  have HOl := Lib.hid ho
  have HR := Lib.hid hr
  have HW := Lib.hid hw
  clear h ho hr hw
  go_enter Tryz.func374, Tryz.ntmps374
  go_wp2_with fail
  go_step3
  go_wp2_with fail
  refine HC.out.mono ?_
  rintro e w1 ⟨⟨r, rfl⟩, k1⟩
  by_cases hr0 : r = 0
  · subst hr0
    go_wp2_with fail
    simp only [Exit.noGoto]
    go_ret
    exact ⟨rfl, k1⟩
  · go_wp2_with fail
    go_step3
    go_wp2_with fail
    have hrb : (r == 0) = false := by simpa using hr0
    rw [hrb]
    have hi0 : ∀ w, (Instr.index 450 (.agg #[.pointer (some ⟨U1, 0, none⟩), .pointer (some ⟨U2, 0, none⟩)]) (.int .i64 ((0 : Nat) : Int))).run Tryz.prog w = .ok (.pointer (some ⟨U1, 0, none⟩)) w := fun w => by kernel_rfl
    have hi1 : ∀ w, (Instr.index 450 (.agg #[.pointer (some ⟨U1, 0, none⟩), .pointer (some ⟨U2, 0, none⟩)]) (.int .i64 ((1 : Nat) : Int))).run Tryz.prog w = .ok (.pointer (some ⟨U2, 0, none⟩)) w := fun w => by kernel_rfl
    go_loopw [11, 13, 15, 17, 24] (fun e _ _ _ i wr => ∃ j : Nat, j ≤ 2 ∧ i = .int .i64 j ∧ e = .int .i64 0 ∧ Chg [] w1 wr) (fun _ _ _ _ i _ => 2 - (intOf i).toNat)
    case atStart => exact ⟨0, by omega, rfl, rfl, Chg.refl _ _⟩
    case round =>
      obtain ⟨j, hj, rfl, rfl, kr⟩ := hrel
      by_cases hj2 : j < 2
      · obtain ⟨U, lo3, m3, n3, hi, hS, hn3⟩ : ∃ U lo3 m3 n3, (∀ w, (Instr.index 450 (.agg #[.pointer (some ⟨U1, 0, none⟩), .pointer (some ⟨U2, 0, none⟩)]) (.int .i64 (j : Int))).run Tryz.prog w = .ok (.pointer (some ⟨U, 0, none⟩)) w) ∧ SpW wr lo3 U m3 n3 ∧ n3 ≤ 1000 := by
          have kk := k1.then kr
          rcases (show j = 0 ∨ j = 1 by omega) with rfl | rfl
          · exact ⟨U1, _, _, _, hi0, HR.out.keep0 kk, hn1⟩
          · exact ⟨U2, _, _, _, hi1, HW.out.keep0 kk, hn2⟩
        have HE := Lib.hid (extents_any wr hS hn3)
        clear hi0 hi1 hS
        go_wp2_with fail
        refine HE.out.mono ?_
        rintro e w2 ⟨pb, m, cb, l, rfl, k2, hq, hl, hm⟩
        have HQ := Lib.hid hq
        clear hq
        go_wp2_with fail
        go_loopw [11, 15, 30] (fun e _ i wz => ∃ q : Nat, q ≤ m ∧ i = .int .i64 q ∧ e = .int .i64 0 ∧ Chg [] w2 wz) (fun _ _ i _ => m - (intOf i).toNat)
        case atStart => exact ⟨0, by omega, rfl, rfl, Chg.refl _ _⟩
        case round =>
          obtain ⟨q, hq, rfl, rfl, kz⟩ := hrel
          rename World => wz
          have kk : Chg [] w1 wz := (kr.then k2).then kz
          by_cases hqm : q < m
          · obtain ⟨b, o, rfl, c0, c1⟩ := (HQ.out.keep kz).get q (by omega)
            generalize (l[q]'(by omega)).1 = x at *
            generalize (l[q]'(by omega)).2 = y at *
            have ka : Chg [] wz (wz.alloc (.cells #[.int .i64 x, .int .i64 y] 342)) := Chg.alloc wz _
            have HWr := Lib.hid (written_old (wz.alloc (.cells #[.int .i64 x, .int .i64 y] 342)) (HV.out.keep ((k1.then kk).then ka)) x y t HOl.out)
            go_wp2_with fail
            refine HWr.out.mono ?_
            rintro e w5 ⟨rfl, k5⟩
            go_wp2_with fail
            go_roundw
            case rel => exact ⟨q + 1, by omega, by simp, rfl, (kz.then ka).then k5⟩
            case measure => simp [intOf]; omega
          · obtain rfl : q = m := by omega
            go_wp2_with fail
            go_loopw [11, 17, 41] (fun e _ i wy => i = .int .i64 0 ∧ e = .int .i64 0 ∧ wy = wz) (fun _ _ _ _ => 0)
            case atStart => exact ⟨rfl, rfl, rfl⟩
            case round =>
              obtain ⟨rfl, rfl, rfl⟩ := hrel
              go_wp2_with fail
              go_roundw
              case rel => exact ⟨j + 1, by omega, by simp, rfl, kk⟩
              case measure => simp [intOf]; omega
      · obtain rfl : j = 2 := by omega
        go_wp2_with fail
        simp only [Exit.noGoto]
        go_ret
        exact ⟨rfl, k1.then kr⟩
set_option maxRecDepth 100000 in
set_option maxHeartbeats 4000000 in
theorem may_old (w : World) {M X B r cq lo rx T W rw Q V n base : Nat} {pq : Option Addr} {out num bas last given lastv t : Int} {Lv : List (Int × Value)} {vs : Int → List (Int × List UInt8)} {L : List (Int × Value)} {D : Int → List UInt8}
    (h : MgrG w M X B r (.slice pq 0 cq) out num bas last given false) (hg : given < 1099511627776) (hv : VerG w lo X rx lastv Lv vs) (ho : OldV Lv vs t) (hT : TxT w T W Q t) (hb : BufAt w W rw L) (hD : BufD w L D) (hk : ∀ x ∈ L, 0 ≤ x.1 ∧ x.1 < 258) (hl : L.length ≤ 12)
    (hV : VwT w base Q X W V t n) (hS : SpV w base V n) (hn : n ≤ 12) : Calls Tryz.prog 366 #[.pointer (some ⟨M, 0, none⟩), .pointer (some ⟨T, 0, none⟩)] w fun e w' => e = .returned (.int .i64 0) ∧ Chg [] w w' := by
  have m9 : w.cell? ⟨M, 9, none⟩ = some (.bool false) := cell_is h 9 rfl
  have m0 : w.cell? ⟨M, 0, none⟩ = some (.pointer (some ⟨X, 0, none⟩)) := cell_is h 0 rfl
  have m8 : w.cell? ⟨M, 8, none⟩ = some (.int .i64 given) := cell_is h 8 rfl
  have t3 : w.cell? ⟨T, 3, none⟩ = some (.int .i64 t) := cell_is hT 3 rfl
  have t4 : w.cell? ⟨T, 4, none⟩ = some (.pointer (some ⟨W, 0, none⟩)) := cell_is hT 4 rfl
  have t5 : w.cell? ⟨T, 5, none⟩ = some (.pointer (some ⟨Q, 0, none⟩)) := cell_is hT 5 rfl
  have kd : Chg [] w w.drew := (Chg.refl [] w).drew
  have HW := Lib.hid (waiting_none w.drew (kd.heap h (by simp)))
  have HV := Lib.hid (vset_any w.drew (hV.keep kd (Av.nil _ _)) (hS.keep0 kd) hn)
  have hS2 : ∀ wx, Chg [] w wx → wx.cell? ⟨M, 0, none⟩ = some (.pointer (some ⟨X, 0, none⟩)) ∧ wx.cell? ⟨T, 3, none⟩ = some (.int .i64 t) ∧ wx.cell? ⟨T, 4, none⟩ = some (.pointer (some ⟨W, 0, none⟩)) ∧ wx.cell? ⟨T, 5, none⟩ = some (.pointer (some ⟨Q, 0, none⟩)) :=
    fun wx k => ⟨k.cell m0 (by simp), k.cell t3 (by simp), k.cell t4 (by simp), k.cell t5 (by simp)⟩
  have HS2 := Lib.hid hS2
  have HBf := Lib.hid hb
  have HD := Lib.hid hD
  have HK := Lib.hid hk
  have HVr := Lib.hid hv
  have HOl := Lib.hid ho
  clear h hT hb hD hk hV hS hv ho hS2
  go_enter Tryz.func366, Tryz.ntmps366
  go_upto_region 3 with fail
  go_region_held3 (fun wx => wx.cell? ⟨M, 0, none⟩ = some (.pointer (some ⟨X, 0, none⟩)) ∧ wx.cell? ⟨T, 3, none⟩ = some (.int .i64 t) ∧ wx.cell? ⟨T, 4, none⟩ = some (.pointer (some ⟨W, 0, none⟩)) ∧ wx.cell? ⟨T, 5, none⟩ = some (.pointer (some ⟨Q, 0, none⟩)))
    (first
      | (with_reducible exact HS2.out _ kF) | (with_reducible exact HS2.out _ k3) | (with_reducible exact HS2.out _ k2) | (exact HS2.out _ kd))
    (first
      | (go_at_call 235; refine HW.out.mono ?_; rintro e w1 ⟨rfl, rfl⟩)
      | (go_at_call 375; refine HV.out.mono ?_; rintro e w2 ⟨U, loU, rfl, k2', hU, lU⟩; have k2 := kd.then k2')
      | (go_at_call 376; refine (bset_any w2 (HBf.out.keep k2 (by simp) (by simp)) (HD.out.keep k2) HK.out hl).mono ?_; rintro e w3 ⟨U2, loU2, most, rfl, k3', hU2, lU2⟩; have k3 := k2.then k3'; have hU3 := hU.keep0 k3')
      | (go_at_call 374; refine (check_old w3 (HVr.out.keep k3) HOl.out hU3 hU2 (by omega) (by omega)).mono ?_; rintro e w4 ⟨rfl, k4⟩; have kF := k3.then k4))
  all_goals
    have m84 := kF.cell m8 (by simp)
    have hng : ¬ (given ≥ 1099511627776) := by omega
    clear HW HV HS2 HBf HD HK HVr HOl hU hU2 hU3
    go_wp2_with fail
    go_ret
    exact ⟨rfl, kF⟩
set_option maxRecDepth 100000 in
set_option maxHeartbeats 4000000 in
theorem tcommit_old (w : World) {d : Ids} {p : Par} {cq n base loq : Nat} {pq : Option Addr} {out num bas last given : Int} {L : List (Int × Value)} {D : Int → List UInt8}
    (hN : Need w d p) (hv0 : OldV p.Lv p.vs p.t) (h : MgrG w d.M d.X d.B d.r (.slice pq 0 cq) out num bas last given false) (hg0 : 0 ≤ given) (hg : given < 1099511627776) (hq : w.ownsRow loq 3 1 (.slice pq 0 cq) 0 []) (hlq : loq ≤ w.heap.size) (hT : TxT w d.T d.W d.Q p.t) (hb : BufAt w d.W d.rw L) (hD : BufD w L D) (hk : ∀ x ∈ L, 0 ≤ x.1 ∧ x.1 < 258) (hl : L.length ≤ 12) (hl0 : 0 < L.length)
    (hV : VwT w base d.Q d.X d.W d.V p.t n) (hS : SpV w base d.V n) (hn : n ≤ 12) : Calls Tryz.prog 352 #[.pointer (some ⟨d.M, 0, none⟩), .int .i64 p.h] w fun e w' =>
    ∃ g c, e = .returned (.int .i64 0) ∧ Chg (d.M :: d.T :: (Value.slice pq 0 cq).ownBlock.toList) w w' ∧ MgrG w' d.M d.X d.B d.r (.slice (some ⟨g, 0, none⟩) 1 c) out num bas last (given + 1) false ∧ w'.ownsRow loq 3 1 (.slice (some ⟨g, 0, none⟩) 1 c) 1 [.int .i64 p.h] ∧ TxW w' d.T d.W d.Q (given + 1) p.t := by
  have HO := Lib.hid (topen_gen w hN hT)
  have t4 : w.cell? ⟨d.T, 4, none⟩ = some (.pointer (some ⟨d.W, 0, none⟩)) := cell_is hT 4 rfl
  have HLn := Lib.hid (blen_any w hb hD hk (by omega))
  have hver := hN.ver
  have HMy := Lib.hid (fun w1 (k : Chg [] w w1) => may_old w1 (k.heap h (by simp)) hg (hver.keep k) hv0 (k.heap hT (by simp)) (hb.keep k (by simp) (by simp)) (hD.keep k) hk hl (hV.keep k (Av.nil _ _)) (hS.keep0 k) hn)
  have hMT : d.M ≠ d.T := heap_ne h hT (by simp)
  have HM := Lib.hid h
  have HT := Lib.hid hT
  have HQ := Lib.hid hq
  have hl0i : ¬ (L.length : Int) = 0 := by omega
  have HL0 := Lib.hid hl0i
  clear hN hb hD hV hS hver h hT hq
  go_enter Tryz.func352, Tryz.ntmps352
  go_wp2_with fail
  refine HO.out.mono ?_
  rintro e w1 ⟨rfl, rfl⟩
  go_wp2_with fail
  refine HLn.out.mono ?_
  rintro e w1 ⟨rfl, k1⟩
  go_wp2_with fail
  refine (HMy.out w1 k1).mono ?_
  rintro e w2 ⟨rfl, k2'⟩
  have k2 := k1.then k2'
  have hM2 := k2.heap HM.out (by simp)
  have hT2 := k2.heap HT.out (by simp)
  have hq2 := ownsRow_av HQ.out k2 (Av.nil _ _)
  have hs2 := k2.size
  have m8 : w2.cell? ⟨d.M, 8, none⟩ = some (.int .i64 given) := cell_is hM2 8 rfl
  have f8 := unfrozen hM2 8
  have m3 : w2.cell? ⟨d.M, 3, none⟩ = some (.slice pq 0 cq) := cell_is hM2 3 rfl
  have f3 := unfrozen hM2 3
  have t0 : w2.cell? ⟨d.T, 0, none⟩ = some (.int .i64 1) := cell_is hT2 0 rfl
  have t1 : w2.cell? ⟨d.T, 1, none⟩ = some (.int .i64 0) := cell_is hT2 1 rfl
  have ft0 := unfrozen hT2 0
  have ft1 := unfrozen hT2 1
  have hgw : wrap64 (given + 1) = given + 1 := by unfold wrap64; omega
  have kS := ((((Chg.refl [] w2).mono (T := [d.M, d.T]) (fun x hx _ => by cases hx)).then_set (g := d.M) (fun _ => by simp) 8 (.int .i64 (given + 1))).then_set (g := d.T) (fun _ => by simp) 0 (.int .i64 2)).then_set (g := d.T) (fun _ => by simp) 1 (.int .i64 (given + 1))
  have hMS : MgrG (((w2.setCell ⟨d.M, 8, none⟩ (.int .i64 (given + 1))).setCell ⟨d.T, 0, none⟩ (.int .i64 2)).setCell ⟨d.T, 1, none⟩ (.int .i64 (given + 1))) d.M d.X d.B d.r (.slice pq 0 cq) out num bas last (given + 1) false :=
    heap_set_ne (heap_set_ne (heap_set hM2 8 _ rfl) hMT _ _) hMT _ _
  have hTS : TxW (((w2.setCell ⟨d.M, 8, none⟩ (.int .i64 (given + 1))).setCell ⟨d.T, 0, none⟩ (.int .i64 2)).setCell ⟨d.T, 1, none⟩ (.int .i64 (given + 1))) d.T d.W d.Q (given + 1) p.t :=
    heap_set (heap_set (heap_set_ne hT2 hMT.symm _ _) 0 _ rfl) 1 _ rfl
  have avS : Av w2 [d.M, d.T] [3] := fun x hx cs t fr hh => by
    simp at hx
    rcases hx with rfl | rfl
    · rw [show w2.heap[d.M]? = _ from hM2] at hh; cases hh; simp
    · rw [show w2.heap[d.T]? = _ from hT2] at hh; cases hh; simp
  have hqS := ownsRow_av hq2 kS avS
  clear HMy HLn HO k1 k2' t4
  go_upto_region 14 with fail
  have hsS : loq ≤ (((w2.setCell ⟨d.M, 8, none⟩ (.int .i64 (given + 1))).setCell ⟨d.T, 0, none⟩ (.int .i64 2)).setCell ⟨d.T, 1, none⟩ (.int .i64 (given + 1))).heap.size := by have := kS.size; omega
  clear m8 f8 m3 f3 t0 t1 ft0 ft1 avS hq2
  generalize ((w2.setCell ⟨d.M, 8, none⟩ (.int .i64 (given + 1))).setCell ⟨d.T, 0, none⟩ (.int .i64 2)).setCell ⟨d.T, 1, none⟩ (.int .i64 (given + 1)) = wS at *
  have m3 : wS.cell? ⟨d.M, 3, none⟩ = some (.slice pq 0 cq) := cell_is hMS 3 rfl
  go_wp2_with (at_builtin; refine wpList_append_lit rfl (.tmp 59) (.tmp 61) 29 3 rfl ty62 inf3 rfl (by decide) loq wS [.int .i64 p.h] 1 rfl (.slice pq 0 cq) 0 [] rfl hqS (by omega) (by decide) hsS (k := 0) rfl (by simp [Value.oneCell']) rfl 1 rfl ?_; intro v' w4 hap; obtain ⟨g4, c4, rfl⟩ := own_some hap.1 (by decide); have k4 : Chg (Value.slice pq 0 cq).ownBlock.toList wS w4 := Chg.own hap.2.2 (fun g hg _ => by have hg2 : (Value.slice pq 0 cq).ownBlock = some g := hg; simp [hg2]); have hM4 := k4.heap hMS (own_block_ne hqS hMS (by decide)); have m34 := cell_is hM4 3 rfl; have f34 := unfrozen hM4 3)
  have hT4 := k4.heap hTS (own_block_ne hqS hTS (by decide))
  have hset := Chg.set w4 d.M 3 (.slice (some ⟨g4, 0, none⟩) (0 + 1) c4)
  have hq4 := ownsRow_av hap.1 hset (Av.row hM4 (by decide))
  go_ret
  refine ⟨g4, c4, rfl, ?_, heap_set hM4 3 _ rfl, hq4, heap_set_ne hT4 hMT.symm _ _⟩
  refine (((k2.mono (fun x hx _ => by cases hx)).then (kS.mono ?_)).then (k4.mono ?_)).then (hset.mono ?_)
  · intro x hx _; simp only [List.mem_cons, List.not_mem_nil, or_false] at hx; rcases hx with rfl | rfl <;> simp
  · intro x hx _; exact List.mem_cons_of_mem _ (List.mem_cons_of_mem _ hx)
  · intro x hx _; rw [List.mem_singleton] at hx; subst hx; exact List.mem_cons_self
end Go.Proofs.YtgagcbgbjkjghaaGreatDoor
namespace Go.Proofs.YtgagcbgbjkjghaaGreatDoor
open Go.RowKit Go.Lib

/-- the manager behind a Begin. -/
def begS (s : Gs) (T : Nat) : Gs := { s with bl := s.bl + 1, Lb := [(s.bl + 1, .int .i64 s.last)], Lr := putL s.Lr (s.bl + 1) (.pointer (some ⟨T, 0, none⟩)) }
/-- a transaction that has begun. -/
def begP (s : Gs) : Par := ⟨s.bl + 1, s.last, s.lo, s.lastv, s.Lv, s.vs⟩
/-- a store about its transaction. -/
def StoF (lw : Nat) (d : Ids) (s : Gs) (g : Gd) (w : World) : Prop := Sto w lw d s g
theorem fr_sto {lw base : Nat} {d : Ids} {s : Gs} {g : Gd} {p : Par} (hl : d.rx < base ∧ d.rb < base ∧ d.r < base) (hg : getL s.Lr p.h = some (.pointer (some ⟨d.T, 0, none⟩))) (e1 : p.lo = s.lo) (e2 : p.last = s.lastv) (e3 : p.Lv = s.Lv) (e4 : p.vs = s.vs) : Fr base d p (StoF lw d s g) := by
  refine ⟨fun w h => ?_, fun a b ho h => ?_⟩
  · have h' : Sto w lw d s g := h
    exact ⟨cell_is h'.store 0 rfl, cell_is h'.store 5 rfl, cell_is h'.store 9 rfl, ⟨_, _, h'.dev.hdr⟩, h'.mx.cells.1, h'.mx.cells.2.2.1, ⟨_, h'.mx.map, hg⟩, by rw [e1, e2, e3, e4]; exact h'.mx.ver⟩
  · have h' : Sto a lw d s g := h
    obtain ⟨T, h1, h2⟩ := ho
    refine h'.keepA h1 (fun x hx cs t fr hh ht => ?_) (fun hm => ?_) (fun hm => ?_) (fun hm => ?_)
    · rcases (h2 x hx).2 cs t fr hh with rfl | rfl | rfl <;> simp at ht
    · have := (h2 _ hm).1; omega
    · have := (h2 _ hm).1; omega
    · have := (h2 _ hm).1; omega
/-- what a store's Begin leaves. -/
def BegT (w w' : World) (lw : Nat) (d : Ids) (s : Gs) (g : Gd) : Prop := ∃ T W rw Q V, Cs lw w w' ∧ w.heap.size ≤ T ∧
  Su w' w.heap.size { d with T := T, W := W, rw := rw, Q := Q, V := V } (begP s) (StoF lw { d with T := T, W := W, rw := rw, Q := Q, V := V } (begS s T) g) (fun b => bytT (s.vs b) s.last) [] 0
set_option maxRecDepth 100000 in
theorem sbegin_gen (w : World) {lw : Nat} {d : Ids} {s : Gs} {g : Gd} (h : Sto w lw d s g) (hLb : s.Lb = []) (h0 : 0 ≤ s.last) (h1 : s.last ≤ 1099511627776) (hb0 : 0 ≤ s.bl) (hb1 : s.bl ≤ 1000000) :
    Calls Tryz.prog 75 #[.pointer (some ⟨d.P, 0, none⟩)] w fun e w' => e = .returned (.tuple #[.int .i64 (s.bl + 1), .int .i64 0]) ∧ BegT w w' lw d s g := by
  have HD := Lib.hid (dead_g w h.store)
  have p5 : w.cell? ⟨d.P, 5, none⟩ = some (.pointer (some ⟨d.M, 0, none⟩)) := cell_is h.store 5 rfl
  have HB := Lib.hid (tbegin_gen w h.mx hLb h0 h1 hb0 hb1)
  have HS := Lib.hid h
  clear h hLb h0 h1 hb0 hb1
  go_enter Tryz.func75, Tryz.ntmps75
  go_wp2_with fail
  refine HD.out.mono ?_
  rintro e w1 ⟨rfl, rfl⟩
  go_wp2_with fail
  refine HB.out.mono ?_
  rintro e w1 ⟨rfl, T, W, rw, Q, V, k1, hx, hT, hb, hv, hs, n1, n2, n3, b1, b2, b3, b4, b5⟩
  have hF : BegT w w1 lw d s g := by
    have hS := HS.out
    have avB : Av w [d.B, d.rb, d.r] [91, 152, 5, 78, 79, 82, 23] := fun x hx cs t fr hh => by
      simp at hx
      rcases hx with rfl | rfl | rfl
      · rw [hS.mx.book.1] at hh; cases hh; simp
      · exact absurd rfl (map_cells hS.mx.book.2 hh)
      · exact absurd rfl (map_cells hS.mx.map hh)
    have sub : ∀ ts : List Nat, (∀ t ∈ ts, t ∈ [91, 152, 5, 78, 79, 82, 23]) → Av w [d.B, d.rb, d.r] ts := fun ts hts x hx cs t fr hh ht => avB x hx cs t fr hh (hts t ht)
    have hSto : Sto w1 lw { d with T := T, W := W, rw := rw, Q := Q, V := V } (begS s T) g :=
      ⟨k1.heap hS.store (avB.ne hS.store (by simp)), k1.heap hS.slot (avB.ne hS.slot (by simp)), hS.text.keep k1 (sub _ (by decide)), hS.dev.keep k1 (sub _ (by decide)), hx, hS.ap, hS.keys, hS.bnd, hS.bndZ, Nat.le_trans hS.slo k1.size, hS.dlo⟩
    refine ⟨T, W, rw, Q, V, ⟨[d.B, d.rb, d.r], k1, fun x hx _ => ?_⟩, b1, hSto, hT, hb, (fun x hx => by cases hx), fun b _ _ => Or.inl ⟨rfl, rfl⟩, ⟨_, 0, [], hv, Nat.le_refl _, World.ownsRow_nil _ _ _ _⟩, ⟨_, [], hs, Nat.le_refl _, World.ownsRow_nil _ _ _ _⟩, b4, b5, b3⟩
    have hbn := hS.bnd
    simp at hx
    rcases hx with rfl | rfl | rfl
    · exact ⟨by omega, fun cs t fr hh => by rw [hS.mx.book.1] at hh; cases hh; simp⟩
    · exact ⟨by omega, fun cs t fr hh => absurd rfl (map_cells hS.mx.book.2 hh)⟩
    · exact ⟨by omega, fun cs t fr hh => absurd rfl (map_cells hS.mx.map hh)⟩
  have HF := Lib.hid hF
  clear hF hx hT hb hv hs k1 b1 b2 b3 b4 b5 n1 n2 n3
  go_wp2_with fail
  go_ret2
  exact ⟨rfl, HF.out⟩
/-- a buffer's entries are what its transaction sees. -/
theorem Su.bufD {w : World} {base : Nat} {d : Ids} {p : Par} {F : World → Prop} {q : Int → List UInt8} {L : List (Int × Value)} {n : Nat} (h : Su w base d p F q L n) : BufD w L q := by
  intro k v hv
  have hk := h.keys (k, v) (getL_memk hv)
  rcases h.blk k hk.1 hk.2 with ⟨e, -⟩ | ⟨g, c, e, h1, h2, h3⟩
  · rw [e] at hv; cases hv
  · rw [e] at hv
    cases hv
    exact ⟨g, c, rfl, h1, h2, h3⟩
/-- the manager behind a Commit. -/
def comS (s : Gs) (g c : Nat) : Gs := { s with qv := .slice (some ⟨g, 0, none⟩) 1 c, given := s.given + 1 }
/-- what a Commit leaves. -/
def ComR (w w' : World) (lw : Nat) (d : Ids) (s : Gs) (g : Gd) (p : Par) (L : List (Int × Value)) (q : Int → List UInt8) (k : Nat) : Prop :=
  ∃ gq cq, Sto w' lw d (comS s gq cq) g ∧ Wtx w' d (comS s gq cq) gq cq p.h k p.t p.t L q ∧ Cs lw w w'
set_option maxRecDepth 100000 in
theorem scommit_sto (w : World) {lw base loq n k : Nat} {d : Ids} {s : Gs} {g : Gd} {p : Par} {q : Int → List UInt8} {L : List (Int × Value)} {pq : Option Addr} {cq : Nat} (hf : Fr base d p (StoF lw d s g)) (h : Su w base d p (StoF lw d s g) q L n) (hqv : s.qv = .slice pq 0 cq) (hq : w.ownsRow loq 3 1 (.slice pq 0 cq) 0 []) (hlq : loq ≤ w.heap.size) (hlw : lw ≤ loq)
    (hrd : s.rd = false) (ho : OldV p.Lv p.vs p.t) (hg : s.given + 1 = (k : Nat)) (hg1 : s.given < 1099511627776) (hg0 : 0 ≤ s.given) (hl : L.length ≤ 12) (hl0 : 0 < L.length) (hn : n ≤ 12) (htab : getL s.Lr p.h = some (.pointer (some ⟨d.T, 0, none⟩))) (hbook : getL s.Lb p.h = some (.int .i64 p.t)) (hT : lw ≤ d.T) :
    Calls Tryz.prog 341 #[.pointer (some ⟨d.P, 0, none⟩), .int .i64 p.h] w fun e w' => e = .returned (.int .i64 0) ∧ ComR w w' lw d s g p L q k := by
  have hS : Sto w lw d s g := h.env
  have hN := hf.need w h.env
  have hm := hS.mx.mgr
  rw [hqv, hrd] at hm
  refine scommit_one w hN ((tcommit_old w hN ho hm hg0 hg1 hq hlq h.tx h.buf h.bufD h.keys hl hl0 h.vw h.sp hn).mono ?_)
  rintro e w' ⟨gq, c, rfl, k1, hm', ho', hT'⟩
  refine ⟨rfl, gq, c, ?_⟩
  have tp : Tp w (d.M :: d.T :: (Value.slice pq 0 cq).ownBlock.toList) [179, 279, 3] := fun x hx => by
    simp only [List.mem_cons] at hx
    rcases hx with rfl | rfl | hx
    · exact ⟨_, _, hm, by simp⟩
    · exact ⟨_, _, h.tx, by simp⟩
    · obtain ⟨-, cs, hh⟩ := own_elem hq (show (Value.slice pq 0 cq).ownBlock = some x by simpa using hx)
      exact ⟨_, _, hh, by simp⟩
  have hbn := hS.bnd
  refine ⟨⟨k1.heap hS.store ((tp.av (ts' := [91]) (by decide)).ne hS.store (by simp)), k1.heap hS.slot ((tp.av (ts' := [152]) (by decide)).ne hS.slot (by simp)), hS.text.keep k1 (tp.av (by decide)), hS.dev.keep k1 (tp.av (by decide)),
    ⟨by show MgrG w' d.M d.X d.B d.r (.slice (some ⟨gq, 0, none⟩) 1 c) s.out s.num s.bas s.last (s.given + 1) s.rd; rw [hrd]; exact hm', hS.mx.ver.keepA k1 (tp.av (by decide)) (tp.map hS.mx.ver.m), ⟨k1.heap hS.mx.book.1 ((tp.av (ts' := [234]) (by decide)).ne hS.mx.book.1 (by simp)), hS.mx.book.2.keep k1 (tp.map hS.mx.book.2)⟩, hS.mx.map.keep k1 (tp.map hS.mx.map), hS.mx.n1, hS.mx.n2, hS.mx.n3⟩, hS.ap, hS.keys, hS.bnd, hS.bndZ, Nat.le_trans hS.slo k1.size, hS.dlo⟩, ?_, Cs.of_tp k1 tp (by decide) (fun x hx => ?_)⟩
  · refine ⟨rfl, ?_, ?_, htab, by rw [← hg]; exact hT', h.buf.keep k1 ((tp.av (ts' := [334]) (by decide)).ne h.buf.1 (by simp)) (tp.map h.buf.2), h.bufD.keepA k1 (tp.av (by decide)), h.keys, hl0, by omega, hbook⟩
    · obtain ⟨pz, cz', e, hle⟩ := own_form ho'
      cases e
      omega
    · rcases ho'.2 with ⟨e, h0⟩ | ⟨g', cap', cur', e, -, hh, -, -, -, ht⟩
      · omega
      · cases e
        refine ⟨_, hh, ?_⟩
        have := congrArg (fun l => l[0]?) ht
        simpa [List.getElem?_take] using this
  · simp only [List.mem_cons] at hx
    rcases hx with rfl | rfl | hx
    · omega
    · exact hT
    · have := (own_elem hq (show (Value.slice pq 0 cq).ownBlock = some x by simpa using hx)).1
      omega
end Go.Proofs.YtgagcbgbjkjghaaGreatDoor
namespace Go.Proofs.YtgagcbgbjkjghaaGreatDoor
open Go.RowKit Go.Lib

/-- a manager without transactions. -/
def s00 (lw : Nat) : Gs := ⟨.slice none 0 0, 0, 0, 0, 0, 0, false, lw, 0, [], fun _ => [], 0, [], []⟩
/-- an empty log on an empty device. -/
def g00 (lw : Nat) (ops : Int) : Gd := ⟨0, 0, 1, .slice none 0 0, 0, lw, ops, fun _ => .slice none 0 0, fun _ => 0, fun _ => []⟩
/-- the parts' places, without a transaction. -/
def d00 (N A c : Nat) (Z : List Nat) (P S M X rx B rb r : Nat) : Ids := ⟨P, N, S, M, X, rx, B, rb, r, A, c, Z, 0, 0, 0, 0, 0⟩
theorem Mk.sto {w wx : World} {lw N A c : Nat} {ops : Int} {Z : List Nat} {P S M X rx B rb r : Nat} (h : Mk w wx N A c ops Z P S M X rx B rb r) (hx : ExAt wx S N A Z) (n1 : rx ≠ rb) (n2 : r ≠ rb) (n3 : r ≠ rx) (hb : lw ≤ P ∧ lw ≤ N ∧ lw ≤ S ∧ lw ≤ M ∧ lw ≤ X ∧ lw ≤ rx ∧ lw ≤ B ∧ lw ≤ rb ∧ lw ≤ r) (hZ : ∀ z ∈ Z, lw ≤ z) (hl : lw ≤ wx.heap.size) :
    Sto wx lw (d00 N A c Z P S M X rx B rb r) (s00 lw) (g00 lw ops) := by
  obtain ⟨k2, hD2, hP2, hS2, hm2, hx2, hb2, hr2⟩ := h
  exact ⟨hP2, hS2, Or.inl rfl, hD2.full hx lw, ⟨hm2, hx2.full lw, hb2, hr2, n1, n2, n3⟩, fun b c v u g _ h => (by cases h), fun p hp => (by cases hp), ⟨hb.1, hb.2.1, hb.2.2.1, hb.2.2.2.1, hb.2.2.2.2.1, hb.2.2.2.2.2.1, hb.2.2.2.2.2.2.1, hb.2.2.2.2.2.2.2.1, hb.2.2.2.2.2.2.2.2, Nat.le_refl _, Nat.le_refl _⟩, hZ, hl, hb.2.1⟩
/-- a transaction's state is kept where other blocks change. -/
theorem Su.keepA {w w' : World} {U : List Nat} {base : Nat} {d : Ids} {p : Par} {F : World → Prop} {q : Int → List UInt8} {L : List (Int × Value)} {n : Nat} (h : Su w base d p F q L n) (hc : Chg U w w') (hU : Av w U [279, 334, 338, 322, 342, 395, 5]) (hr : d.rw ∉ U) (hF : F w') : Su w' base d p F q L n := by
  have sub : ∀ ts : List Nat, (∀ t ∈ ts, t ∈ [279, 334, 338, 322, 342, 395, 5]) → Av w U ts := fun ts hts x hx cs t fr hh ht => hU x hx cs t fr hh (hts t ht)
  refine ⟨hF, hc.heap h.tx (hU.ne h.tx (by simp)), h.buf.keep hc (hU.ne h.buf.1 (by simp)) hr, h.keys, fun b h0 h1 => ?_, h.vw.keep hc (sub _ (by decide)), h.sp.keep hc (sub _ (by decide)), h.high⟩
  rcases h.blk b h0 h1 with e | ⟨g, c, e1, e2, e3, e4⟩
  · exact Or.inl e
  · have hn : g ∉ U := Bt.av e4 hU (by simp)
    exact Or.inr ⟨g, c, e1, e2.chgT hc hn, e3, Bt.keep e4 hc hn⟩
end Go.Proofs.YtgagcbgbjkjghaaGreatDoor
namespace Go.Proofs.YtgagcbgbjkjghaaGreatDoor
open Go.RowKit Go.Lib

/-- block K is a schedule, cell for cell. -/
def SchB (w : World) (K : Nat) (cs : Array Value) : Prop := w.heap[K]? = some (.cells cs 64 (0, 0))
set_option maxRecDepth 100000 in
theorem sgone_any (w : World) {K P : Nat} {cs : Array Value} (h : SchB w K cs) (h1 : cs[1]? = some (.pointer (some ⟨P, 0, none⟩))) : Calls Tryz.prog 58 #[.pointer (some ⟨K, 0, none⟩)] w fun e w' => e = .returned (.bool false) ∧ w = w' := by
  have c1 : w.cell? ⟨K, 1, none⟩ = some (.pointer (some ⟨P, 0, none⟩)) := cell_is h 1 h1
  clear h h1
  go_enter Tryz.func58, Tryz.ntmps58
  go_wp2_with fail
  go_ret
  exact ⟨rfl, rfl⟩
set_option maxRecDepth 100000 in
theorem sgone_nil (w : World) : Calls Tryz.prog 58 #[.pointer none] w fun e w' => e = .returned (.bool true) ∧ w = w' := by
  go_enter Tryz.func58, Tryz.ntmps58
  go_wp2_with fail
  go_ret
  exact ⟨rfl, rfl⟩
/-- the place of a client in its schedule. -/
def cli (a : Int) : Nat := 2 + 4 * (a.toNat - 1)
set_option maxRecDepth 100000 in
theorem client_in (w : World) {K P : Nat} {a : Int} {cs : Array Value} (h : SchB w K cs) (h1 : cs[1]? = some (.pointer (some ⟨P, 0, none⟩))) (ha : 1 ≤ a ∧ a ≤ 8) :
    Calls Tryz.prog 117 #[.pointer (some ⟨K, 0, none⟩), .int .i64 a] w fun e w' => e = .returned (.pointer (some ⟨K, cli a, none⟩)) ∧ w = w' := by
  have HG := Lib.hid (sgone_any w h h1)
  clear h h1
  have hc : a = 1 ∨ a = 2 ∨ a = 3 ∨ a = 4 ∨ a = 5 ∨ a = 6 ∨ a = 7 ∨ a = 8 := by omega
  clear ha
  rcases hc with rfl | rfl | rfl | rfl | rfl | rfl | rfl | rfl
  all_goals
    go_enter Tryz.func117, Tryz.ntmps117
    go_wp2_with fail
    refine HG.out.mono ?_
    rintro e w1 ⟨rfl, rfl⟩
    go_wp2_with fail
    go_ret
    exact ⟨rfl, rfl⟩
set_option maxRecDepth 100000 in
theorem client_out (w : World) {K P : Nat} {a : Int} {cs : Array Value} (h : SchB w K cs) (h1 : cs[1]? = some (.pointer (some ⟨P, 0, none⟩))) (ha : a < 1 ∨ 8 < a) :
    Calls Tryz.prog 117 #[.pointer (some ⟨K, 0, none⟩), .int .i64 a] w fun e w' => e = .returned (.pointer none) ∧ w = w' := by
  have HG := Lib.hid (sgone_any w h h1)
  clear h h1
  by_cases hlt : a < 1
  · have n1 : decide (a < 1) = true := decide_eq_true hlt
    go_enter Tryz.func117, Tryz.ntmps117
    go_wp2_with fail
    refine HG.out.mono ?_
    rintro e w1 ⟨rfl, rfl⟩
    go_wp2_with fail
    go_ret
    exact ⟨rfl, rfl⟩
  · have n1 : decide (a < 1) = false := decide_eq_false hlt
    have n2 : decide (8 < a) = true := decide_eq_true (by omega)
    go_enter Tryz.func117, Tryz.ntmps117
    go_wp2_with fail
    refine HG.out.mono ?_
    rintro e w1 ⟨rfl, rfl⟩
    go_wp2_with fail
    go_ret
    exact ⟨rfl, rfl⟩
set_option maxRecDepth 100000 in
theorem step_out (w : World) {K P : Nat} {a : Int} {cs : Array Value} (h : SchB w K cs) (h1 : cs[1]? = some (.pointer (some ⟨P, 0, none⟩))) (ha : a < 1 ∨ 8 < a) :
    Calls Tryz.prog 138 #[.pointer (some ⟨K, 0, none⟩), .int .i64 a] w fun e w' => ∃ v, e = .returned (.tuple #[v, .int .i64 1]) ∧ Chg [] w w' := by
  have k0 : Chg [] w (w.alloc (.cells #[.int .i64 0, .int .i64 0, .int .i64 0, .int .i64 0, .slice none 0 0] 208)) := Chg.alloc w _
  have HC := Lib.hid (client_out _ (k0.heap h (by simp)) h1 ha)
  have HK := Lib.hid k0
  clear h h1 ha k0
  go_enter Tryz.func138, Tryz.ntmps138
  go_wp2_with fail
  refine HC.out.mono ?_
  rintro e w1 ⟨rfl, rfl⟩
  go_wp2_with fail
  refine bodyPost_ret (v := .tuple #[.agg #[.int .i64 0, .int .i64 0, .int .i64 0, .int .i64 0, .slice none 0 0], .int .i64 1]) (by simp [results, Tryz.results138, go_sem]) rfl ?_
  exact ⟨_, rfl, HK.out⟩
end Go.Proofs.YtgagcbgbjkjghaaGreatDoor
namespace Go.Proofs.YtgagcbgbjkjghaaGreatDoor
open Go.RowKit Go.Lib

theorem ty35 : Tryz.prog.underlying 111 = some (.slice 138) := by kernel_rfl
theorem inf43 : (Tryz.prog.info? 138).map (fun i => (i.zero, i.size, i.bytes)) = some (some (.agg #[.int .i64 0, .slice none 0 0]), 2, 32) := by kernel_rfl
set_option maxRecDepth 100000 in
theorem pclone_nil (w : World) : Calls Tryz.prog 174 #[.slice none 0 0] w fun e w' => e = .returned (.slice none 0 0) ∧ w = w' := by
  have hn : ∀ w, (binOp .eql 111 (.slice none 0 0) (.slice none 0 0)).run Tryz.prog w = .ok (.bool true) w := fun w => run_eql_nil_slice w 111 138 none 0 0 0 0 ty35
  go_enter Tryz.func174, Tryz.ntmps174
  go_wp2_with fail
  go_ret
  exact ⟨rfl, rfl⟩
/-- a put is put behind an empty row of puts. -/
theorem wpList_append_put {ops : Array Oper} {rest : List Oper} {o : Oper} {a : Act} {w : World} {Q : Exit → Act → World → Prop} (hgd : o.guard = none) (s x : Operand)
    (ho : o.op = .call { callee := .builtin .append, args := #[s, x], argTypes := #[111, 111] }) (z b bo c : Nat) (u0 u1 : Value) (hs : a.eval s = .slice (some ⟨z, 0, none⟩) 0 0) (hz : w.heap[z]? = some (.cells #[] 138 (0, 0)))
    (hx : a.eval x = .slice (some ⟨b, bo, none⟩) 1 c) (c0 : w.cell? ⟨b, bo, none⟩ = some u0) (c1 : w.cell? ⟨b, bo + 1, none⟩ = some u1) (h1 : u0.oneCell' = true ∧ u1.oneCell' = true)
    (h : ∀ g cap w', Chg [z] w w' → w'.ownsRow z 138 2 (.slice (some ⟨g, 0, none⟩) 1 cap) 1 [u0, u1] → wpList Tryz.prog ops Q rest (a.put o.dst (.slice (some ⟨g, 0, none⟩) 1 cap)) w') : wpList Tryz.prog ops Q (o :: rest) a w := by
  obtain ⟨i, hi0, hz0, hz1, hz2⟩ := info_parts inf43
  have hown : w.ownsRow z 138 2 (.slice (some ⟨z, 0, none⟩) 0 0) 0 [] := ⟨rfl, Or.inr ⟨z, 0, #[], rfl, Nat.le_refl _, hz, Nat.le_refl _, by unfold maxLen; omega, rfl, rfl⟩⟩
  refine wpList_append_lies w hgd s x 111 ho z 138 i _ 2 32 ty35 hi0 hz0 hz1 hz2 rfl (by decide) _ 0 [] hs hown ⟨b, bo, none⟩ 1 c [u0, u1] hx rfl ?_ ?_ (by decide) (by unfold maxLen; omega) (by omega) (Nat.le_of_lt (heap_lt hz)) _ rfl ?_
  · intro j u hu
    rw [show (⟨b, bo, none⟩ : Addr).add j = ⟨b, bo + j, none⟩ from by unfold Addr.add; split <;> simp_all]
    match j with
    | 0 => cases hu; exact c0
    | 1 => cases hu; exact c1
    | j + 2 => simp at hu
  · intro u hu
    simp at hu
    rcases hu with rfl | rfl
    · exact h1.1
    · exact h1.2
  · intro g cap w' h2 h3 _ _
    exact h g cap w' (Chg.of_grown h3) h2
set_option maxRecDepth 100000 in
theorem pclone_one (w : World) {E eo c : Nat} {u0 u1 : Value} (h0 : w.cell? ⟨E, eo, none⟩ = some u0) (h1 : w.cell? ⟨E, eo + 1, none⟩ = some u1) (ho : u0.oneCell' = true ∧ u1.oneCell' = true) : Calls Tryz.prog 174 #[.slice (some ⟨E, eo, none⟩) 1 c] w fun e w' =>
    ∃ g c', e = .returned (.slice (some ⟨g, 0, none⟩) 1 c') ∧ Chg [] w w' ∧ w'.ownsRow w.heap.size 138 2 (.slice (some ⟨g, 0, none⟩) 1 c') 1 [u0, u1] := by
  have hn : ∀ w, (binOp .eql 111 (.slice (some ⟨E, eo, none⟩) 1 c) (.slice none 0 0)).run Tryz.prog w = .ok (.bool false) w := fun w => Lib.run_eql_slice_nil w 111 138 _ _ _ 0 0 ty35
  have k0 : Chg [] w (w.alloc (.cells #[] 138)) := Chg.alloc w _
  have hb := k0.cell h0 (by simp)
  have hb1 := k0.cell h1 (by simp)
  have hz := heap_new w (.cells #[] 138)
  clear h0 h1
  go_enter Tryz.func174, Tryz.ntmps174
  go_wp2_with (first | (at_builtin; refine wpList_append_put rfl (.tmp 5) (.tmp 6) rfl w.heap.size E eo c u0 u1 rfl hz rfl hb hb1 ho ?_; intro g2 c2 w2 k2 o2))
  go_ret
  exact ⟨g2, c2, rfl, k0.trans k2 (fun x hx hlt => by simp at hx; omega), o2⟩
/-- one put that is an op's own: block E holds it, its bytes are in block D. -/
def PutOf (w : World) (lo : Nat) (pv : Value) (b : Int) (l : List UInt8) : Prop :=
  ∃ E c D cd cs, pv = .slice (some ⟨E, 0, none⟩) 1 c ∧ lo ≤ E ∧ lo ≤ D ∧ w.heap[E]? = some (.cells cs 138 (0, 0)) ∧ cs[0]? = some (.int .i64 b) ∧ cs[1]? = some (.slice (some ⟨D, 0, none⟩) 40 cd) ∧ Bs w (some ⟨D, 0, none⟩) l ∧ l.length = 40 ∧ Bt w D
theorem Bs.chgB {w w' : World} {T : List Nat} {g o : Nat} {l : List UInt8} (h : Bs w (some ⟨g, o, none⟩) l) (hc : Chg T w w') (hg : g ∉ T) : Bs w' (some ⟨g, o, none⟩) l := by
  rcases h with h | ⟨b, off, he, hb, hcs⟩
  · exact Or.inl h
  · refine Or.inr ⟨b, off, he, Nat.lt_of_lt_of_le hb hc.size, fun j hj => hc.cell (hcs j hj) ?_⟩
    cases he
    exact hg
theorem PutOf.keepT {w w' : World} {U : List Nat} {lo : Nat} {pv : Value} {b : Int} {l : List UInt8} (h : PutOf w lo pv b l) (hc : Chg U w w') (hU : ∀ x ∈ U, x < w.heap.size → ∀ cs t fr, w.heap[x]? = some (.cells cs t fr) → t ≠ 138 ∧ t ≠ 5) : PutOf w' lo pv b l := by
  obtain ⟨E, c, D, cd, cs, h1, h2, h3, h4, h5, h6, h7, h8, ct, h9⟩ := h
  have nD : D ∉ U := fun hx => (hU D hx (heap_lt h9) _ _ _ h9).2 rfl
  exact ⟨E, c, D, cd, cs, h1, h2, h3, hc.heap h4 (fun hx => (hU E hx (heap_lt h4) _ _ _ h4).1 rfl), h5, h6, h7.chgB hc nD, h8, ct, hc.heap h9 nD⟩
theorem set5 {w : World} {g : Nat} {t : TypeId} {a0 a1 a2 a3 a4 : Value} (b0 b1 b2 b3 b4 : Value) (h : w.heap[g]? = some (.cells #[a0, a1, a2, a3, a4] t (0, 0))) :
    (((((w.setCell ⟨g, 0, none⟩ b0).setCell ⟨g, 1, none⟩ b1).setCell ⟨g, 2, none⟩ b2).setCell ⟨g, 3, none⟩ b3).setCell ⟨g, 4, none⟩ b4).heap[g]? = some (.cells #[b0, b1, b2, b3, b4] t (0, 0)) ∧
    Chg [g] w (((((w.setCell ⟨g, 0, none⟩ b0).setCell ⟨g, 1, none⟩ b1).setCell ⟨g, 2, none⟩ b2).setCell ⟨g, 3, none⟩ b3).setCell ⟨g, 4, none⟩ b4) :=
  ⟨heap_set (heap_set (heap_set (heap_set (heap_set h 0 b0 rfl) 1 b1 rfl) 2 b2 rfl) 3 b3 rfl) 4 b4 rfl,
    ((((Chg.set w g 0 b0).then (Chg.set _ g 1 b1)).then (Chg.set _ g 2 b2)).then (Chg.set _ g 3 b3)).then (Chg.set _ g 4 b4)⟩
theorem heap_new2 (w : World) (o p : Obj) : ((w.alloc o).alloc p).heap[w.heap.size]? = some o ∧ ((w.alloc o).alloc p).heap[w.heap.size + 1]? = some p := by
  refine ⟨(Chg.alloc (S := []) _ _).heap (heap_new w _) (by simp), ?_⟩
  have := heap_new (w.alloc o) p
  rwa [show (w.alloc o).heap.size = w.heap.size + 1 from by rw [show (w.alloc o).heap = w.heap.push o from rfl, Array.size_push]] at this
set_option maxRecDepth 100000 in
theorem own_none (w : World) {k h a l : Int} : Calls Tryz.prog 118 #[.agg #[.int .i64 k, .int .i64 h, .int .i64 a, .int .i64 l, .slice none 0 0]] w fun e w' =>
    e = .returned (.agg #[.int .i64 k, .int .i64 h, .int .i64 a, .int .i64 l, .slice none 0 0]) ∧ Chg [] w w' := by
  have kk : Chg [] w ((w.alloc (.cells #[.int .i64 k, .int .i64 h, .int .i64 a, .int .i64 l, .slice none 0 0] 116)).alloc (.cells #[.int .i64 0, .int .i64 0, .int .i64 0, .int .i64 0, .slice none 0 0] 116)) := (Chg.alloc w _).then_alloc _
  have hlen : ∀ wx : World, (Builtin.len_ #[111] 3 #[.slice none 0 0]).run Tryz.prog wx = .ok (.int .i64 0) wx := fun wx => rfl
  obtain ⟨y1, y2⟩ := heap_new2 w (.cells #[.int .i64 k, .int .i64 h, .int .i64 a, .int .i64 l, .slice none 0 0] 116) (.cells #[.int .i64 0, .int .i64 0, .int .i64 0, .int .i64 0, .slice none 0 0] 116)
  go_enter Tryz.func118, Tryz.ntmps118
  go_wp2_with fail
  refine (pclone_nil _).mono ?_
  rintro e w1 ⟨rfl, rfl⟩
  go_wp2_with fail
  generalize (w.alloc (.cells #[.int .i64 k, .int .i64 h, .int .i64 a, .int .i64 l, .slice none 0 0] 116)).alloc (.cells #[.int .i64 0, .int .i64 0, .int .i64 0, .int .i64 0, .slice none 0 0] 116) = w0 at *
  have hzl := heap_lt y1
  generalize hz : w.heap.size = z at *
  have c0 : w0.cell? ⟨z, 0, none⟩ = some (.int .i64 k) := cell_is y1 0 rfl
  have c1 : w0.cell? ⟨z, 1, none⟩ = some (.int .i64 h) := cell_is y1 1 rfl
  have c2 : w0.cell? ⟨z, 2, none⟩ = some (.int .i64 a) := cell_is y1 2 rfl
  have c3 : w0.cell? ⟨z, 3, none⟩ = some (.int .i64 l) := cell_is y1 3 rfl
  have c4 : w0.cell? ⟨z, 4, none⟩ = some (.slice none 0 0) := cell_is y1 4 rfl
  have d0 : w0.cell? ⟨z + 1, 0, none⟩ = some (.int .i64 0) := cell_is y2 0 rfl
  have d1 : w0.cell? ⟨z + 1, 1, none⟩ = some (.int .i64 0) := cell_is y2 1 rfl
  have d2 : w0.cell? ⟨z + 1, 2, none⟩ = some (.int .i64 0) := cell_is y2 2 rfl
  have d3 : w0.cell? ⟨z + 1, 3, none⟩ = some (.int .i64 0) := cell_is y2 3 rfl
  have d4 : w0.cell? ⟨z + 1, 4, none⟩ = some (.slice none 0 0) := cell_is y2 4 rfl
  have e0 := unfrozen y2 0
  have e1 := unfrozen y2 1
  have e2 := unfrozen y2 2
  have e3 := unfrozen y2 3
  have e4 := unfrozen y2 4
  go_loopw [3, 11] (fun _ i wr => i = .int .i64 0 ∧ wr = w0) (fun _ _ _ => 0)
  case atStart => exact ⟨rfl, rfl⟩
  case round =>
    obtain ⟨rfl, rfl⟩ := hrel
    go_wp2_with fail
    obtain ⟨y5, k5⟩ := set5 (.int .i64 k) (.int .i64 h) (.int .i64 a) (.int .i64 l) (.slice none 0 0) y2
    have hfin := kk.trans k5 (fun x hx hlt => by simp at hx; omega)
    have r0 := cell_is y5 0 rfl
    have r1 := cell_is y5 1 rfl
    have r2 := cell_is y5 2 rfl
    have r3 := cell_is y5 3 rfl
    have r4 := cell_is y5 4 rfl
    refine bodyPost_ret (v := .agg #[.int .i64 k, .int .i64 h, .int .i64 a, .int .i64 l, .slice none 0 0]) (by simp [results, Tryz.results118, go_sem, r0, r1, r2, r3, r4]) rfl ?_
    exact ⟨rfl, hfin⟩
set_option maxRecDepth 100000 in
set_option maxHeartbeats 1000000 in
theorem own_one (w : World) {k h a l b : Int} {E eo c D cd : Nat} {dl : List UInt8} (u0 : w.cell? ⟨E, eo, none⟩ = some (.int .i64 b)) (u1 : w.cell? ⟨E, eo + 1, none⟩ = some (.slice (some ⟨D, 0, none⟩) 40 cd)) (hb : Bs w (some ⟨D, 0, none⟩) dl) (hl : dl.length = 40) :
    Calls Tryz.prog 118 #[.agg #[.int .i64 k, .int .i64 h, .int .i64 a, .int .i64 l, .slice (some ⟨E, eo, none⟩) 1 c]] w fun e w' =>
    ∃ pv, e = .returned (.agg #[.int .i64 k, .int .i64 h, .int .i64 a, .int .i64 l, pv]) ∧ Chg [] w w' ∧ PutOf w' w.heap.size pv b dl := by
  have kk : Chg [] w ((w.alloc (.cells #[.int .i64 k, .int .i64 h, .int .i64 a, .int .i64 l, .slice (some ⟨E, eo, none⟩) 1 c] 116)).alloc (.cells #[.int .i64 0, .int .i64 0, .int .i64 0, .int .i64 0, .slice none 0 0] 116)) := (Chg.alloc w _).then_alloc _
  obtain ⟨y1, y2⟩ := heap_new2 w (.cells #[.int .i64 k, .int .i64 h, .int .i64 a, .int .i64 l, .slice (some ⟨E, eo, none⟩) 1 c] 116) (.cells #[.int .i64 0, .int .i64 0, .int .i64 0, .int .i64 0, .slice none 0 0] 116)
  go_enter Tryz.func118, Tryz.ntmps118
  go_wp2_with fail
  generalize (w.alloc (.cells #[.int .i64 k, .int .i64 h, .int .i64 a, .int .i64 l, .slice (some ⟨E, eo, none⟩) 1 c] 116)).alloc (.cells #[.int .i64 0, .int .i64 0, .int .i64 0, .int .i64 0, .slice none 0 0] 116) = w0 at *
  have hzl := heap_lt y1
  generalize hz : w.heap.size = z at *
  refine (pclone_one w0 (kk.cell u0 (by simp)) (kk.cell u1 (by simp)) ⟨rfl, rfl⟩).mono ?_
  rintro e w1 ⟨g, c1, rfl, k1, o1⟩
  have x1 := k1.heap y1 (by simp)
  have x2 := k1.heap y2 (by simp)
  have f4 : w1.cell? ⟨z, 4, none⟩ = some (.slice (some ⟨E, eo, none⟩) 1 c) := cell_is x1 4 rfl
  have q4 := unfrozen x1 4
  have xg : ∃ cur, w1.heap[g]? = some (.cells cur 138 (0, 0)) ∧ cur[0]? = some (.int .i64 b) ∧ cur[1]? = some (.slice (some ⟨D, 0, none⟩) 40 cd) ∧ w0.heap.size ≤ g := by
    rcases o1.2 with ⟨e, _⟩ | ⟨g', cap, cur, e, hA, hg, hc1, hc2, hc3, ht⟩
    · cases e
    · cases e
      refine ⟨cur, hg, ?_, ?_, hA⟩
      · have : (cur.toList.take (1 * 2))[0]? = some (.int .i64 b) := by rw [ht]; rfl
        rwa [List.getElem?_take_of_lt (by omega), Array.getElem?_toList] at this
      · have : (cur.toList.take (1 * 2))[1]? = some (.slice (some ⟨D, 0, none⟩) 40 cd) := by rw [ht]; rfl
        rwa [List.getElem?_take_of_lt (by omega), Array.getElem?_toList] at this
  obtain ⟨cur, xg, cu0, cu1, hg⟩ := xg
  go_wp2_with fail
  have m1 : (w1.setCell ⟨z, 4, none⟩ (.slice (some ⟨g, 0, none⟩) 1 c1)).heap[z]? = some (.cells #[.int .i64 k, .int .i64 h, .int .i64 a, .int .i64 l, .slice (some ⟨g, 0, none⟩) 1 c1] 116 (0, 0)) := heap_set x1 4 _ rfl
  have hgz : g ≠ z := by omega
  have hg1 : z + 1 < g := by have := heap_lt y2; omega
  have mg : (w1.setCell ⟨z, 4, none⟩ (.slice (some ⟨g, 0, none⟩) 1 c1)).heap[g]? = some (.cells cur 138 (0, 0)) := heap_set_ne xg hgz _ _
  have m2 := heap_set_ne x2 (show z + 1 ≠ z by omega) 4 (.slice (some ⟨g, 0, none⟩) 1 c1)
  have k2 : Chg [] w (w1.setCell ⟨z, 4, none⟩ (.slice (some ⟨g, 0, none⟩) 1 c1)) := (kk.then k1).trans (Chg.set w1 z 4 _) (fun x hx hlt => by simp at hx; omega)
  generalize w1.setCell ⟨z, 4, none⟩ (.slice (some ⟨g, 0, none⟩) 1 c1) = w2 at *
  have HB := Lib.hid (hb.keep k2.below0)
  clear hb u0 u1 x1 x2 xg o1 f4 q4 y1 y2 k1
  go_loopw [3, 11] (fun _ i wr => (i = .int .i64 0 ∧ w2 = wr) ∨ (i = .int .i64 1 ∧ Chg [] w wr ∧ wr.heap[z]? = some (.cells #[.int .i64 k, .int .i64 h, .int .i64 a, .int .i64 l, .slice (some ⟨g, 0, none⟩) 1 c1] 116 (0, 0)) ∧ wr.heap[z + 1]? = some (.cells #[.int .i64 0, .int .i64 0, .int .i64 0, .int .i64 0, .slice none 0 0] 116 (0, 0)) ∧ PutOf wr z (.slice (some ⟨g, 0, none⟩) 1 c1) b dl)) (fun _ i _ => 1 - (intOf i).toNat)
  case atStart => exact Or.inl ⟨rfl, rfl⟩
  case round =>
    rcases hrel with ⟨rfl, rfl⟩ | ⟨rfl, kr, y1, y2, hp⟩
    · have v4 : w2.cell? ⟨z, 4, none⟩ = some (.slice (some ⟨g, 0, none⟩) 1 c1) := cell_is m1 4 rfl
      have t0 : w2.cell? ⟨g, 0, none⟩ = some (.int .i64 b) := cell_is mg 0 cu0
      have t1 : w2.cell? ⟨g, 1, none⟩ = some (.slice (some ⟨D, 0, none⟩) 40 cd) := cell_is mg 1 cu1
      have kd : Chg [] w2 w2.drew := (Chg.refl [] w2).drew
      go_wp2_with fail
      have t1d : w2.drew.cell? ⟨g, 1, none⟩ = some (.slice (some ⟨D, 0, none⟩) 40 cd) := t1
      have v4d : w2.drew.cell? ⟨z, 4, none⟩ = some (.slice (some ⟨g, 0, none⟩) 1 c1) := v4
      go_region_law
        (first
          | (go_simp; go_at_call 88; refine (clone_bt w2.drew hl (by decide) (by decide) (HB.out.keep kd.below0)).mono ?_; rintro e w3 ⟨D2, cd2, rfl, k3, hB3, hD3, hT3⟩; have fz := unfrozen (k3.heap mg (by simp)) 1; have s1 := k3.cell t1d (by simp); have s4 := k3.cell v4d (by simp); have m13 := k3.heap m1 (by simp)))
      all_goals
        have mg3 : (w3.setCell ⟨g, 1, none⟩ (.slice (some ⟨D2, 0, none⟩) 40 cd2)).heap[g]? = _ := heap_set (k3.heap mg (by simp)) 1 _ rfl
        have m14 := heap_set_ne m13 (Ne.symm hgz) 1 (.slice (some ⟨D2, 0, none⟩) 40 cd2)
        have m24 := heap_set_ne (k3.heap m2 (by simp)) (show z + 1 ≠ g by omega) 1 (.slice (some ⟨D2, 0, none⟩) 40 cd2)
        have hDg : D2 ≠ g := by have := heap_lt mg; have : w2.drew.heap.size = w2.heap.size := rfl; omega
        have ks : Chg [g] w3 (w3.setCell ⟨g, 1, none⟩ (.slice (some ⟨D2, 0, none⟩) 40 cd2)) := Chg.set _ _ _ _
        have kf : Chg [] w (w3.setCell ⟨g, 1, none⟩ (.slice (some ⟨D2, 0, none⟩) 40 cd2)) := ((k2.drew).then k3).trans ks (fun x hx hlt => by simp at hx; omega)
        have hp : PutOf (w3.setCell ⟨g, 1, none⟩ (.slice (some ⟨D2, 0, none⟩) 40 cd2)) z (.slice (some ⟨g, 0, none⟩) 1 c1) b dl := by
          obtain ⟨ct, hT⟩ := hT3
          refine ⟨g, c1, D2, cd2, _, rfl, by omega, by have : w2.drew.heap.size = w2.heap.size := rfl; have := heap_lt mg; omega, mg3, ?_, ?_, hB3.chgB ks (by simpa using hDg), hl, ct, heap_set_ne hT hDg _ _⟩
          · rw [Array.getElem?_setIfInBounds_ne (by decide)]; exact cu0
          · rw [Array.getElem?_setIfInBounds_self_of_lt (by have := (Array.getElem?_eq_some_iff.1 cu1).1; exact this)]
        have HF := Lib.hid (And.intro kf (And.intro m14 (And.intro m24 hp)))
        clear kf m14 m24 hp ks mg3 k3 hB3 hT3 m13 s1 s4 t1 t1d t0 v4 v4d
        go_wp2_with fail
        go_roundw
        case rel => exact Or.inr ⟨rfl, HF.out⟩
        case measure => decide
    · have c0 := cell_is y1 0 rfl
      have c1' := cell_is y1 1 rfl
      have c2 := cell_is y1 2 rfl
      have c3 := cell_is y1 3 rfl
      have c4 := cell_is y1 4 rfl
      have d0 := cell_is y2 0 rfl
      have d1 := cell_is y2 1 rfl
      have d2 := cell_is y2 2 rfl
      have d3 := cell_is y2 3 rfl
      have d4 := cell_is y2 4 rfl
      have e0 := unfrozen y2 0
      have e1 := unfrozen y2 1
      have e2 := unfrozen y2 2
      have e3 := unfrozen y2 3
      have e4 := unfrozen y2 4
      have HF := Lib.hid (And.intro kr hp)
      clear kr hp
      go_wp2_with fail
      obtain ⟨y5, k5⟩ := set5 (.int .i64 k) (.int .i64 h) (.int .i64 a) (.int .i64 l) (.slice (some ⟨g, 0, none⟩) 1 c1) y2
      have hfin := HF.out.1.trans k5 (fun x hx hlt => by simp at hx; omega)
      have hpf : PutOf _ z (.slice (some ⟨g, 0, none⟩) 1 c1) b dl := HF.out.2.keepT k5 (fun x hx _ cs t fr hh => by
        rw [List.mem_singleton] at hx
        subst hx
        rw [y2] at hh
        cases hh
        exact ⟨by decide, by decide⟩)
      have r0 := cell_is y5 0 rfl
      have r1 := cell_is y5 1 rfl
      have r2 := cell_is y5 2 rfl
      have r3 := cell_is y5 3 rfl
      have r4 := cell_is y5 4 rfl
      refine bodyPost_ret (v := .agg #[.int .i64 k, .int .i64 h, .int .i64 a, .int .i64 l, .slice (some ⟨g, 0, none⟩) 1 c1]) (by simp [results, Tryz.results118, go_sem, r0, r1, r2, r3, r4]) rfl ?_
      exact ⟨_, rfl, hfin, by rw [hz]; exact hpf⟩
set_option maxRecDepth 100000 in
theorem kept_nil (w : World) {k h a l : Int} : Calls Tryz.prog 197 #[.agg #[.int .i64 k, .int .i64 h, .int .i64 a, .int .i64 l, .slice none 0 0]] w fun e w' =>
    e = .returned (.agg #[.int .i64 k, .int .i64 h, .int .i64 a, .int .i64 l, .slice none 0 0]) ∧ Chg [] w w' := by
  have kk : Chg [] w ((w.alloc (.cells #[.int .i64 k, .int .i64 h, .int .i64 a, .int .i64 l, .slice none 0 0] 208)).alloc (.cells #[.int .i64 0, .int .i64 0, .int .i64 0, .int .i64 0, .slice none 0 0] 208)) := (Chg.alloc w _).then_alloc _
  obtain ⟨y1, y2⟩ := heap_new2 w (.cells #[.int .i64 k, .int .i64 h, .int .i64 a, .int .i64 l, .slice none 0 0] 208) (.cells #[.int .i64 0, .int .i64 0, .int .i64 0, .int .i64 0, .slice none 0 0] 208)
  go_enter Tryz.func197, Tryz.ntmps197
  go_wp2_with fail
  refine (clone_nil _).mono ?_
  rintro e w1 ⟨rfl, rfl⟩
  generalize (w.alloc (.cells #[.int .i64 k, .int .i64 h, .int .i64 a, .int .i64 l, .slice none 0 0] 208)).alloc (.cells #[.int .i64 0, .int .i64 0, .int .i64 0, .int .i64 0, .slice none 0 0] 208) = w0 at *
  have hzl := heap_lt y1
  generalize hz : w.heap.size = z at *
  have c0 : w0.cell? ⟨z, 0, none⟩ = some (.int .i64 k) := cell_is y1 0 rfl
  have c1 : w0.cell? ⟨z, 1, none⟩ = some (.int .i64 h) := cell_is y1 1 rfl
  have c2 : w0.cell? ⟨z, 2, none⟩ = some (.int .i64 a) := cell_is y1 2 rfl
  have c3 : w0.cell? ⟨z, 3, none⟩ = some (.int .i64 l) := cell_is y1 3 rfl
  have c4 : w0.cell? ⟨z, 4, none⟩ = some (.slice none 0 0) := cell_is y1 4 rfl
  have d0 : w0.cell? ⟨z + 1, 0, none⟩ = some (.int .i64 0) := cell_is y2 0 rfl
  have d1 : w0.cell? ⟨z + 1, 1, none⟩ = some (.int .i64 0) := cell_is y2 1 rfl
  have d2 : w0.cell? ⟨z + 1, 2, none⟩ = some (.int .i64 0) := cell_is y2 2 rfl
  have d3 : w0.cell? ⟨z + 1, 3, none⟩ = some (.int .i64 0) := cell_is y2 3 rfl
  have d4 : w0.cell? ⟨z + 1, 4, none⟩ = some (.slice none 0 0) := cell_is y2 4 rfl
  have e0 := unfrozen y2 0
  have e1 := unfrozen y2 1
  have e2 := unfrozen y2 2
  have e3 := unfrozen y2 3
  have e4 := unfrozen y2 4
  have q4 := unfrozen y1 4
  go_wp2_with fail
  have y2' := heap_set_ne y2 (show z + 1 ≠ z by omega) 4 (.slice none 0 0)
  have k4 := Chg.set w0 z 4 (.slice none 0 0)
  obtain ⟨y5, k5⟩ := set5 (.int .i64 k) (.int .i64 h) (.int .i64 a) (.int .i64 l) (.slice none 0 0) y2'
  have hfin := (kk.trans k4 (fun x hx hlt => by simp at hx; omega)).trans k5 (fun x hx hlt => by simp at hx; omega)
  have r0 := cell_is y5 0 rfl
  have r1 := cell_is y5 1 rfl
  have r2 := cell_is y5 2 rfl
  have r3 := cell_is y5 3 rfl
  have r4 := cell_is y5 4 rfl
  refine bodyPost_ret (v := .agg #[.int .i64 k, .int .i64 h, .int .i64 a, .int .i64 l, .slice none 0 0]) (by simp [results, Tryz.results197, go_sem, r0, r1, r2, r3, r4]) rfl ?_
  exact ⟨rfl, hfin⟩
end Go.Proofs.YtgagcbgbjkjghaaGreatDoor
namespace Go.Proofs.YtgagcbgbjkjghaaGreatDoor
open Go.RowKit Go.Lib

theorem ty78 : Tryz.prog.underlying 57 = some (.slice 116) := by kernel_rfl
theorem inf64 : (Tryz.prog.info? 116).map (fun i => (i.zero, i.size, i.bytes)) = some (some (.agg #[.int .i64 0, .int .i64 0, .int .i64 0, .int .i64 0, .slice none 0 0]), 5, 56) := by kernel_rfl
/-- an op: its numbers and its put, if it has one. -/
structure OpS where
  k : Int
  h : Int
  a : Int
  l : Int
  p : Option (Int × List UInt8)
/-- these cells are an op that was given. -/
def OpG (w : World) (s : OpS) (u : List Value) : Prop :=
  ∃ pv, u = [.int .i64 s.k, .int .i64 s.h, .int .i64 s.a, .int .i64 s.l, pv] ∧
    ((s.p = none ∧ pv = .slice none 0 0) ∨ ∃ b dl E eo c D cd, s.p = some (b, dl) ∧ pv = .slice (some ⟨E, eo, none⟩) 1 c ∧ w.cell? ⟨E, eo, none⟩ = some (.int .i64 b) ∧ w.cell? ⟨E, eo + 1, none⟩ = some (.slice (some ⟨D, 0, none⟩) 40 cd) ∧ Bs w (some ⟨D, 0, none⟩) dl ∧ dl.length = 40 ∧ ∃ eb db, w.heap[E]? = some (.cells eb 138 (0, 0)) ∧ w.heap[D]? = some (.cells db 5 (0, 0)))
/-- these cells are an op of one's own. -/
def OpV (w : World) (lo : Nat) (s : OpS) (u : List Value) : Prop :=
  ∃ pv, u = [.int .i64 s.k, .int .i64 s.h, .int .i64 s.a, .int .i64 s.l, pv] ∧
    ((s.p = none ∧ pv = .slice none 0 0) ∨ ∃ b dl, s.p = some (b, dl) ∧ PutOf w lo pv b dl)
def OpsL (w : World) (lo : Nat) : List OpS → List Value → Prop
  | [], xs => xs = []
  | s :: ss, xs => ∃ u ys, xs = u ++ ys ∧ OpV w lo s u ∧ OpsL w lo ss ys
theorem OpV.keepT {w w' : World} {U : List Nat} {lo : Nat} {s : OpS} {u : List Value} (h : OpV w lo s u) (hc : Chg U w w') (hU : ∀ x ∈ U, x < w.heap.size → ∀ cs t fr, w.heap[x]? = some (.cells cs t fr) → t ≠ 138 ∧ t ≠ 5) : OpV w' lo s u := by
  obtain ⟨pv, h1, h2 | ⟨b, dl, h2, h3⟩⟩ := h
  · exact ⟨pv, h1, Or.inl h2⟩
  · exact ⟨pv, h1, Or.inr ⟨b, dl, h2, h3.keepT hc hU⟩⟩
theorem OpV.low {w : World} {lo lo' : Nat} {s : OpS} {u : List Value} (h : OpV w lo s u) (hl : lo' ≤ lo) : OpV w lo' s u := by
  obtain ⟨pv, h1, h2 | ⟨b, dl, h2, E, c, D, cd, cs, h3, h4, h5, h6⟩⟩ := h
  · exact ⟨pv, h1, Or.inl h2⟩
  · exact ⟨pv, h1, Or.inr ⟨b, dl, h2, E, c, D, cd, cs, h3, by omega, by omega, h6⟩⟩
theorem OpV.form {w : World} {lo : Nat} {s : OpS} {u : List Value} (h : OpV w lo s u) : ∃ pp pn pc, u = [.int .i64 s.k, .int .i64 s.h, .int .i64 s.a, .int .i64 s.l, .slice pp pn pc] := by
  obtain ⟨pv, rfl, ⟨-, rfl⟩ | ⟨b, dl, -, E, c, D, cd, cs, rfl, -⟩⟩ := h <;> exact ⟨_, _, _, rfl⟩
theorem OpV.len {w : World} {lo : Nat} {s : OpS} {u : List Value} (h : OpV w lo s u) : u.length = 5 := by
  obtain ⟨pv, h1, -⟩ := h
  rw [h1]; rfl
theorem OpsL.keepT {w w' : World} {U : List Nat} {lo : Nat} {ss : List OpS} {xs : List Value} (h : OpsL w lo ss xs) (hc : Chg U w w') (hU : ∀ x ∈ U, x < w.heap.size → ∀ cs t fr, w.heap[x]? = some (.cells cs t fr) → t ≠ 138 ∧ t ≠ 5) : OpsL w' lo ss xs := by
  induction ss generalizing xs with
  | nil => exact h
  | cons s ss ih =>
    obtain ⟨u, ys, h1, h2, h3⟩ := h
    exact ⟨u, ys, h1, h2.keepT hc hU, ih h3⟩
theorem OpsL.snoc {w : World} {lo : Nat} {ss : List OpS} {xs : List Value} {s : OpS} {u : List Value} (h : OpsL w lo ss xs) (hu : OpV w lo s u) : OpsL w lo (ss ++ [s]) (xs ++ u) := by
  induction ss generalizing xs with
  | nil =>
    rw [show xs = [] from h]
    exact ⟨u, [], by simp, hu, rfl⟩
  | cons s ss ih =>
    obtain ⟨u', ys, h1, h2, h3⟩ := h
    exact ⟨u', ys ++ u, by rw [h1, List.append_assoc], h2, ih h3⟩
theorem OpG.keepT {w w' : World} {U : List Nat} {s : OpS} {u : List Value} (h : OpG w s u) (hc : Chg U w w') (hU : ∀ x ∈ U, x < w.heap.size → ∀ cs t fr, w.heap[x]? = some (.cells cs t fr) → t ≠ 138 ∧ t ≠ 5) : OpG w' s u := by
  obtain ⟨pv, h1, h2 | ⟨b, dl, E, eo, c, D, cd, h2, h3, h4, h5, h6, h7, eb, db, h8, h9⟩⟩ := h
  · exact ⟨pv, h1, Or.inl h2⟩
  · have nE : E ∉ U := fun hx => (hU E hx (heap_lt h8) _ _ _ h8).1 rfl
    have nD : D ∉ U := fun hx => (hU D hx (heap_lt h9) _ _ _ h9).2 rfl
    exact ⟨pv, h1, Or.inr ⟨b, dl, E, eo, c, D, cd, h2, h3, hc.cell h4 nE, hc.cell h5 nE, h6.chgB hc nD, h7, eb, db, hc.heap h8 nE, hc.heap h9 nD⟩⟩
/-- an op is made one's own. -/
theorem own_any (w : World) {s : OpS} {u : List Value} (h : OpG w s u) : Calls Tryz.prog 118 #[.agg u.toArray] w fun e w' => ∃ u', e = .returned (.agg u'.toArray) ∧ Chg [] w w' ∧ OpV w' w.heap.size s u' := by
  obtain ⟨pv, rfl, ⟨h2, rfl⟩ | ⟨b, dl, E, eo, c, D, cd, h2, rfl, h4, h5, h6, h7, -⟩⟩ := h
  · refine (own_none w).mono ?_
    rintro e w' ⟨rfl, hc⟩
    exact ⟨_, rfl, hc, _, rfl, Or.inl ⟨h2, rfl⟩⟩
  · refine (own_one w h4 h5 h6 h7).mono ?_
    rintro e w' ⟨pv, rfl, hc, hp⟩
    exact ⟨_, rfl, hc, _, rfl, Or.inr ⟨b, dl, h2, hp⟩⟩
theorem own_chgB {w w' : World} {S : List Nat} {base e size n : Nat} {v : Value} {xs : List Value} (h : w.ownsRow base e size v n xs) (hc : Chg S w w') (hS : ∀ g, v.ownBlock = some g → g ∉ S) : w'.ownsRow base e size v n xs := by
  refine ⟨h.1, ?_⟩
  rcases h.2 with ⟨e, h0⟩ | ⟨g, cap, cur, e, hA, hg, h3⟩
  · exact Or.inl ⟨e, h0⟩
  · exact Or.inr ⟨g, cap, cur, e, hA, hc.heap hg (hS g (by rw [e]; rfl)), h3⟩
theorem Chg.of_grownO {w w' : World} {ob : Option Nat} (h : w.grownBy w' ob) : Chg ob.toList w w' := by
  cases ob with
  | none => exact Chg.of_grown0 h
  | some g => exact Chg.of_grown h
/-- an op is put behind a row of ops, as a step of a region that draws. -/
theorem step_append_op {ops : Array Oper} {o : Oper} {a : Act} {w : World} {K : Act → World → Prop} {Q : Exit → Act → World → Prop} {E : Prop} (hgd : o.guard = none) (s x : Operand)
    (ho : o.op = .call { callee := .builtin .append, args := #[s, x], argTypes := #[57, 57] }) (base b c n : Nat) (v u0 u1 u2 u3 u4 : Value) (xs : List Value) (hs : a.eval s = v) (hown : w.ownsRow base 116 5 v n xs) (hbase : base ≤ w.heap.size) (hn : n ≤ 1000)
    (hx : a.eval x = .slice (some ⟨b, 0, none⟩) 1 c) (hb : w.heap[b]? = some (.cells #[u0, u1, u2, u3, u4] 116 (0, 0))) (h1 : u0.oneCell' = true ∧ u1.oneCell' = true ∧ u2.oneCell' = true ∧ u3.oneCell' = true ∧ u4.oneCell' = true)
    (h : ∀ g cap w', w'.ownsRow base 116 5 (.slice (some ⟨g, 0, none⟩) (n + 1) cap) (n + 1) (xs ++ [u0, u1, u2, u3, u4]) → Chg v.ownBlock.toList w w' → (v.ownBlock = some g ∨ g = w.heap.size) → K (a.put o.dst (.slice (some ⟨g, 0, none⟩) (n + 1) cap)) w') :
    if Region.wanted o (yielded ops a.tmps) = true then Oper.wp Tryz.prog o a w K Q else E := by
  obtain ⟨i, hi0, hz, hz1, hz2⟩ := info_parts inf64
  refine step_append_lies w hgd s x 57 ho base 116 i _ 5 56 ty78 hi0 hz hz1 hz2 rfl (by decide) v n xs hs hown ⟨b, 0, none⟩ 1 c [u0, u1, u2, u3, u4] hx rfl ?_ ?_ (by decide) (by unfold maxLen; omega) (by omega) hbase _ rfl ?_
  · intro j u hu
    rw [show (⟨b, 0, none⟩ : Addr).add j = ⟨b, 0 + j, none⟩ from by unfold Addr.add; split <;> simp_all, Nat.zero_add]
    exact cell_is hb j (by simpa using hu)
  · intro u hu
    simp at hu
    obtain ⟨h2, h3, h4, h5, h6⟩ := h1
    rcases hu with rfl | rfl | rfl | rfl | rfl <;> assumption
  · intro g cap w' h2 h3 h4 _
    exact h g cap w' h2 (Chg.of_grownO h3) h4
/-- the ops that are handed to Add: block E holds them. -/
def OpsG (w : World) (E : Nat) (ss : List OpS) : Prop :=
  (∃ eb, w.heap[E]? = some (.cells eb 116 (0, 0))) ∧ ∀ i s, ss[i]? = some s → ∃ u, OpG w s u ∧ ∀ j x, u[j]? = some x → w.cell? ⟨E, 5 * i + j, none⟩ = some x
theorem OpsG.keepT {w w' : World} {U : List Nat} {E : Nat} {ss : List OpS} (h : OpsG w E ss) (hc : Chg U w w') (hE : E ∉ U) (hU : ∀ x ∈ U, x < w.heap.size → ∀ cs t fr, w.heap[x]? = some (.cells cs t fr) → t ≠ 138 ∧ t ≠ 5) : OpsG w' E ss := by
  obtain ⟨⟨eb, h1⟩, h2⟩ := h
  refine ⟨⟨eb, hc.heap h1 hE⟩, fun i s hs => ?_⟩
  obtain ⟨u, h3, h4⟩ := h2 i s hs
  exact ⟨u, h3.keepT hc hU, fun j x hx => hc.cell (h4 j x hx) hE⟩
theorem own_not {w : World} {base e size n K t : Nat} {v : Value} {xs : List Value} {cs : Array Value} (h : w.ownsRow base e size v n xs) (hK : w.heap[K]? = some (.cells cs t (0, 0))) (ht : t ≠ e) : K ∉ v.ownBlock.toList := by
  intro hx
  obtain ⟨-, cur, hc⟩ := own_elem h (show v.ownBlock = some K by simpa using hx)
  rw [hc] at hK
  cases hK
  exact ht rfl
/-- what Add leaves behind i ops. -/
structure AddR (w wr : World) (K o lo : Nat) (cs : Array Value) (v : Value) (ss : List OpS) (cs' : Array Value) (v' : Value) (xs' : List Value) : Prop where
  blk : SchB wr K cs'
  at_ : cs'[o]? = some v'
  rest : ∀ j, j ≠ o → cs'[j]? = cs[j]?
  own : wr.ownsRow lo 116 5 v' ss.length xs'
  ops : OpsL wr lo ss xs'
  chg : Chg (K :: v.ownBlock.toList) w wr
  new : ∀ g, v'.ownBlock = some g → v.ownBlock = some g ∨ w.heap.size ≤ g
theorem AddR.step {w wr w5 w6 wa w7 : World} {K o lo j n g7 c7 : Nat} {cs cs' : Array Value} {v : Value} {old ss : List OpS} {pv' : Option Addr} {cv' : Nat} {xs' u' : List Value} (hr : AddR w wr K o lo cs v (old ++ ss.take j) cs' (.slice pv' n cv') xs') (hlt : j < ss.length) (hnn : n = old.length + j) (hnl : (old ++ ss.take j).length = old.length + j)
    (hav : ∀ x ∈ K :: v.ownBlock.toList, x < w.heap.size → ∀ cs t fr, w.heap[x]? = some (.cells cs t fr) → t ≠ 138 ∧ t ≠ 5) (kB : Chg [] wr w5) (k6 : Chg [] w5.drew w6) (hu6 : OpV w6 w5.drew.heap.size ss[j] u') (kA : Chg [] w6 wa) (o7 : w7.ownsRow lo 116 5 (.slice (some ⟨g7, 0, none⟩) (n + 1) c7) (n + 1) (xs' ++ u')) (k7 : Chg (Value.slice pv' n cv').ownBlock.toList wa w7) (n7 : (Value.slice pv' n cv').ownBlock = some g7 ∨ g7 = wa.heap.size) (B7 : SchB w7 K cs') (hlo : lo ≤ w.heap.size) :
    AddR w (w7.setCell ⟨K, o, none⟩ (.slice (some ⟨g7, 0, none⟩) (n + 1) c7)) K o lo cs v (old ++ ss.take (j + 1)) (cs'.setIfInBounds o (.slice (some ⟨g7, 0, none⟩) (n + 1) c7)) (.slice (some ⟨g7, 0, none⟩) (n + 1) c7) (xs' ++ u') := by
  have e1 : old ++ ss.take (j + 1) = (old ++ ss.take j) ++ [ss[j]] := by rw [List.take_succ_eq_append_getElem hlt, List.append_assoc]
  have kS : Chg [K] w7 (w7.setCell ⟨K, o, none⟩ (.slice (some ⟨g7, 0, none⟩) (n + 1) c7)) := Chg.set _ _ _ _
  have hsz := hr.chg.size
  have kra : Chg [] wr wa := (kB.drew.then k6).then kA
  have hown6 : wa.ownsRow lo 116 5 (.slice pv' n cv') n xs' := by
    have := hr.own
    rw [hnl, ← hnn] at this
    exact own_keep this kra.below0
  have hrow : ∀ x ∈ (Value.slice pv' n cv').ownBlock.toList, x < wa.heap.size → ∀ cs t fr, wa.heap[x]? = some (.cells cs t fr) → t ≠ 138 ∧ t ≠ 5 := by
    intro x hx _ cs2 t fr hh
    obtain ⟨-, cur, hc⟩ := own_elem hown6 (show (Value.slice pv' n cv').ownBlock = some x by simpa using hx)
    rw [hc] at hh
    cases hh
    exact ⟨by decide, by decide⟩
  have hKr : ∀ x ∈ [K], x < w7.heap.size → ∀ cs t fr, w7.heap[x]? = some (.cells cs t fr) → t ≠ 138 ∧ t ≠ 5 := by
    intro x hx _ cs2 t fr hh
    rw [List.mem_singleton] at hx
    subst hx
    rw [show w7.heap[x]? = _ from B7] at hh
    cases hh
    exact ⟨by decide, by decide⟩
  have hot : o < cs'.size := (Array.getElem?_eq_some_iff.1 hr.at_).1
  have hra : wr.heap.size ≤ w5.drew.heap.size := kB.size
  refine ⟨heap_set B7 o _ rfl, by rw [Array.getElem?_setIfInBounds_self_of_lt hot], fun i hi => by rw [Array.getElem?_setIfInBounds_ne (Ne.symm hi)]; exact hr.rest i hi, ?_, ?_, ?_, ?_⟩
  · rw [e1, List.length_append, hnl, ← hnn]
    refine own_chgB o7 kS (fun g hg => ?_)
    intro hm
    rw [List.mem_singleton] at hm
    subst hm
    obtain ⟨-, cur, hc⟩ := own_elem o7 hg
    rw [show w7.heap[g]? = _ from B7] at hc
    cases hc
  · rw [e1]
    refine OpsL.snoc ((((hr.ops.keepT kra (fun x hx => by cases hx)).keepT k7 hrow).keepT kS hKr)) ((((hu6.low (by omega)).keepT kA (fun x hx => by cases hx)).keepT k7 hrow).keepT kS hKr)
  · refine ((hr.chg.trans kra (fun x hx => by cases hx)).trans k7 (fun x hx hlt => ?_)).trans kS (fun x hx _ => by simp at hx; simp [hx])
    rcases hr.new x (by simpa using hx) with h | h
    · simp [h]
    · omega
  · intro g hg
    cases hg
    rcases n7 with h | h
    · exact hr.new _ h
    · right
      show w.heap.size ≤ g7
      have := kra.size
      omega
set_option maxRecDepth 100000 in
set_option maxHeartbeats 4000000 in
theorem sadd_ok (w : World) {K P E c lo : Nat} {a : Int} {cs : Array Value} {v : Value} {old ss : List OpS} {xs : List Value} (h : SchB w K cs) (h1 : cs[1]? = some (.pointer (some ⟨P, 0, none⟩))) (ha : 1 ≤ a ∧ a ≤ 8) (hv : cs[cli a]? = some v)
    (ho : w.ownsRow lo 116 5 v old.length xs) (hold : OpsL w lo old xs) (hlo : lo ≤ w.heap.size) (hE : OpsG w E ss) (hne : v.ownBlock ≠ some E) (hn : old.length + ss.length ≤ 200) :
    Calls Tryz.prog 54 #[.pointer (some ⟨K, 0, none⟩), .int .i64 a, .slice (some ⟨E, 0, none⟩) ss.length c] w fun e w' => e = .returned (.int .i64 0) ∧ ∃ cs' v' xs', AddR w w' K (cli a) lo cs v (old ++ ss) cs' v' xs' := by
  have HC := Lib.hid (client_in w h h1 ha)
  obtain ⟨pv, cv, rfl, hcv⟩ := own_form ho
  have c0 : w.cell? ⟨K, cli a, none⟩ = some (.slice pv old.length cv) := cell_is h _ hv
  have hR : AddR w w K (cli a) lo cs (.slice pv old.length cv) (old ++ ss.take 0) cs (.slice pv old.length cv) xs := ⟨h, hv, fun _ _ => rfl, by simpa using ho, by simpa using hold, Chg.refl _ _, fun g hg => Or.inl hg⟩
  have n1 : decide ((200 : Int) - (old.length : Int) < (ss.length : Int)) = false := decide_eq_false (by omega)
  have hw1 : IntKind.i64.wrap ((200 : Int) - (old.length : Int)) = (200 : Int) - (old.length : Int) := by rw [IntKind.wrap_i64]; omega
  have hav : ∀ x ∈ K :: (Value.slice pv old.length cv).ownBlock.toList, x < w.heap.size → ∀ cs t fr, w.heap[x]? = some (.cells cs t fr) → t ≠ 138 ∧ t ≠ 5 := by
    intro x hx _ cs2 t fr hh
    rcases List.mem_cons.1 hx with rfl | hx
    · rw [show w.heap[x]? = _ from h] at hh
      cases hh
      exact ⟨by decide, by decide⟩
    · obtain ⟨-, cur, hc⟩ := own_elem ho (show (Value.slice pv old.length cv).ownBlock = some x by simpa using hx)
      rw [hc] at hh
      cases hh
      exact ⟨by decide, by decide⟩
  have hEn : E ∉ K :: (Value.slice pv old.length cv).ownBlock.toList := by
    intro hx
    rcases List.mem_cons.1 hx with e | hx
    · obtain ⟨⟨eb, h3⟩, -⟩ := hE
      exact heap_ne h3 h (by simp) e
    · exact hne (by simpa using hx)
  have HAv := Lib.hid (And.intro hav hEn)
  have HE := Lib.hid hE
  have HR := Lib.hid hR
  generalize cli a = o at *
  clear h h1 hv ho hold hE ha hR hav hEn
  go_enter Tryz.func54, Tryz.ntmps54
  go_wp2_with fail
  refine HC.out.mono ?_
  rintro e w1 ⟨rfl, rfl⟩
  go_wp2_with fail
  go_loopw [9, 28] (fun _ i wr => ∃ j : Nat, i = .int .i64 (j : Int) ∧ j ≤ ss.length ∧ ∃ cs' v' xs', AddR w wr K o lo cs (.slice pv old.length cv) (old ++ ss.take j) cs' v' xs') (fun _ i _ => ss.length - (intOf i).toNat)
  case atStart => exact ⟨0, rfl, Nat.zero_le _, _, _, _, HR.out⟩
  case round =>
    obtain ⟨j, rfl, hj, cs', v', xs', hr⟩ := hrel
    by_cases hlt : j < ss.length
    · have n2 : decide ((j : Int) < (ss.length : Int)) = true := decide_eq_true (by omega)
      have hEr : OpsG wr E ss := HE.out.keepT hr.chg HAv.out.2 HAv.out.1
      obtain ⟨u, hu, hcell⟩ := hEr.2 j ss[j] (List.getElem?_eq_getElem hlt)
      have hu0 := hu
      obtain ⟨pu, rfl, hu2⟩ := hu
      obtain ⟨pp, pn, pc, rfl⟩ : ∃ pp pn pc, pu = .slice pp pn pc := by
        rcases hu2 with ⟨-, rfl⟩ | ⟨_, _, _, _, _, _, _, -, rfl, -⟩ <;> exact ⟨_, _, _, rfl⟩
      have a0 : wr.cell? ⟨E, j * 5, none⟩ = some (.int .i64 ss[j].k) := by rw [Nat.mul_comm]; exact hcell 0 _ rfl
      have a1 : wr.cell? ⟨E, j * 5 + 1, none⟩ = some (.int .i64 ss[j].h) := by rw [Nat.mul_comm]; exact hcell 1 _ rfl
      have a2 : wr.cell? ⟨E, j * 5 + 2, none⟩ = some (.int .i64 ss[j].a) := by rw [Nat.mul_comm]; exact hcell 2 _ rfl
      have a3 : wr.cell? ⟨E, j * 5 + 3, none⟩ = some (.int .i64 ss[j].l) := by rw [Nat.mul_comm]; exact hcell 3 _ rfl
      have a4 : wr.cell? ⟨E, j * 5 + 4, none⟩ = some (.slice pp pn pc) := by rw [Nat.mul_comm]; exact hcell 4 _ rfl
      have yB := heap_new wr (.cells #[.int .i64 0, .int .i64 0, .int .i64 0, .int .i64 0, .slice none 0 0] 116)
      have kB : Chg [] wr (wr.alloc (.cells #[.int .i64 0, .int .i64 0, .int .i64 0, .int .i64 0, .slice none 0 0] 116)) := Chg.alloc wr _
      have d0 := cell_is yB 0 rfl
      have d1 := cell_is yB 1 rfl
      have d2 := cell_is yB 2 rfl
      have d3 := cell_is yB 3 rfl
      have d4 := cell_is yB 4 rfl
      have e0 := unfrozen yB 0
      have e1 := unfrozen yB 1
      have e2 := unfrozen yB 2
      have e3 := unfrozen yB 3
      have e4 := unfrozen yB 4
      clear hu2 hcell hEr
      go_wp2_with fail
      clear d0 d1 d2 d3 d4 e0 e1 e2 e3 e4 yB kB
      have yB := heap_new wr (.cells #[.int .i64 ss[j].k, .int .i64 ss[j].h, .int .i64 ss[j].a, .int .i64 ss[j].l, .slice pp pn pc] 116)
      have kB : Chg [] wr (wr.alloc (.cells #[.int .i64 ss[j].k, .int .i64 ss[j].h, .int .i64 ss[j].a, .int .i64 ss[j].l, .slice pp pn pc] 116)) := Chg.alloc wr _
      generalize wr.alloc (.cells #[.int .i64 ss[j].k, .int .i64 ss[j].h, .int .i64 ss[j].a, .int .i64 ss[j].l, .slice pp pn pc] 116) = w5 at *
      generalize hBz : wr.heap.size = B at *
      have kd : Chg [] w5 w5.drew := (Chg.refl [] w5).drew
      have hnl : (old ++ ss.take j).length = old.length + j := by simp; omega
      have hown := hr.own
      rw [hnl] at hown
      obtain ⟨n, hnn⟩ : ∃ n, n = old.length + j := ⟨_, rfl⟩
      rw [← hnn] at hown
      obtain ⟨pv', cv', rfl, hcv'⟩ := own_form hown
      have hn200 : n ≤ 199 := by omega
      have HN := Lib.hid (And.intro hnn hnl)
      clear hnn hnl
      have s0 : w5.cell? ⟨K, o, none⟩ = some (.slice pv' n cv') := kB.cell (cell_is hr.blk o hr.at_) (by simp)
      have s0d : w5.drew.cell? ⟨K, o, none⟩ = some (.slice pv' n cv') := s0
      have b0 : w5.cell? ⟨B, 0, none⟩ = some (.int .i64 ss[j].k) := cell_is yB 0 rfl
      have b1 : w5.cell? ⟨B, 1, none⟩ = some (.int .i64 ss[j].h) := cell_is yB 1 rfl
      have b2 : w5.cell? ⟨B, 2, none⟩ = some (.int .i64 ss[j].a) := cell_is yB 2 rfl
      have b3 : w5.cell? ⟨B, 3, none⟩ = some (.int .i64 ss[j].l) := cell_is yB 3 rfl
      have b4 : w5.cell? ⟨B, 4, none⟩ = some (.slice pp pn pc) := cell_is yB 4 rfl
      have b0d : w5.drew.cell? ⟨B, 0, none⟩ = some (.int .i64 ss[j].k) := b0
      have b1d : w5.drew.cell? ⟨B, 1, none⟩ = some (.int .i64 ss[j].h) := b1
      have b2d : w5.drew.cell? ⟨B, 2, none⟩ = some (.int .i64 ss[j].a) := b2
      have b3d : w5.drew.cell? ⟨B, 3, none⟩ = some (.int .i64 ss[j].l) := b3
      have b4d : w5.drew.cell? ⟨B, 4, none⟩ = some (.slice pp pn pc) := b4
      have HW := Lib.hid (own_any w5.drew (hu0.keepT (kB.drew) (fun x hx => by cases hx)))
      go_region_law
        (first
          | (go_simp; go_at_call 118; refine HW.out.mono ?_; rintro e w6 ⟨u', rfl, k6, hu6⟩; obtain ⟨qp, qn, qc, rfl⟩ := hu6.form; have s6 := k6.cell s0d (by simp); have kA : Chg [] w6 (w6.alloc (.cells #[.int .i64 ss[j].k, .int .i64 ss[j].h, .int .i64 ss[j].a, .int .i64 ss[j].l, .slice qp qn qc] 116)) := Chg.alloc w6 _; have y6 := heap_new w6 (.cells #[.int .i64 ss[j].k, .int .i64 ss[j].h, .int .i64 ss[j].a, .int .i64 ss[j].l, .slice qp qn qc] 116); have s7 := kA.cell s6 (by simp); have hb7 : lo ≤ (w6.alloc (.cells #[.int .i64 ss[j].k, .int .i64 ss[j].h, .int .i64 ss[j].a, .int .i64 ss[j].l, .slice qp qn qc] 116)).heap.size := (by have := ((hr.chg.size)); have := ((kB.drew.then k6).then kA).size; omega))
          | (refine step_append_op rfl (.tmp 36) (.tmp 39) rfl lo w6.heap.size 1 n (.slice pv' n cv') _ _ _ _ _ xs' rfl (own_keep hown ((kB.drew.then k6).then kA).below0) hb7 (by omega) rfl y6 ⟨rfl, rfl, rfl, rfl, rfl⟩ ?_; intro g7 c7 w7 o7 k7 n7; have B7 : SchB w7 K cs' := k7.heap (kA.heap (k6.heap (kB.drew.heap hr.blk (by simp)) (by simp)) (by simp)) (own_not (own_keep hown ((kB.drew.then k6).then kA).below0) (kA.heap (k6.heap (kB.drew.heap hr.blk (by simp)) (by simp)) (by simp)) (by decide)); have s8 := cell_is B7 o hr.at_; have f8 := unfrozen B7 o))
      all_goals
        have hF := AddR.step hr hlt HN.out.1 HN.out.2 (HAv.out.1) kB k6 hu6 kA o7 k7 n7 B7 hlo
        have HF := Lib.hid hF
        have n5 : IntKind.i64.wrap ((j : Int) + 1) = ((j + 1 : Nat) : Int) := by rw [IntKind.wrap_i64]; push_cast; omega
        clear hF o7 k7 n7 B7 s8 f8 kA k6 hu6 y6 s6 s7 hb7 b0 b1 b2 b3 b4 b0d b1d b2d b3d b4d s0 s0d yB
        go_wp2_with fail
        go_roundw
        case rel => exact ⟨j + 1, rfl, hlt, _, _, _, HF.out⟩
        case measure => simp [intOf]; omega
    · have n2 : decide ((j : Int) < (ss.length : Int)) = false := decide_eq_false (by omega)
      have hje : j = ss.length := by omega
      subst hje
      rw [List.take_length] at hr
      have HF := Lib.hid hr
      clear hr
      go_wp2_with fail
      go_ret
      exact ⟨rfl, _, _, _, HF.out⟩
end Go.Proofs.YtgagcbgbjkjghaaGreatDoor
namespace Go.Proofs.YtgagcbgbjkjghaaGreatDoor
open Go.RowKit Go.Lib

set_option maxRecDepth 100000 in
theorem tgone0 (w : World) {M X : Nat} (m0 : w.cell? ⟨M, 0, none⟩ = some (.pointer (some ⟨X, 0, none⟩))) : Calls Tryz.prog 97 #[.pointer (some ⟨M, 0, none⟩)] w fun e w' => e = .returned (.bool false) ∧ w = w' := by
  go_enter Tryz.func97, Tryz.ntmps97
  go_wp2_with fail
  go_ret
  exact ⟨rfl, rfl⟩
set_option maxRecDepth 100000 in
theorem mgr_of (w : World) {P M : Nat} (p5 : w.cell? ⟨P, 5, none⟩ = some (.pointer (some ⟨M, 0, none⟩))) : Calls Tryz.prog 131 #[.pointer (some ⟨P, 0, none⟩)] w fun e w' => e = .returned (.pointer (some ⟨M, 0, none⟩)) ∧ w = w' := by
  go_enter Tryz.func131, Tryz.ntmps131
  go_wp2_with fail
  go_ret
  exact ⟨rfl, rfl⟩
set_option maxRecDepth 100000 in
theorem last_ok (w : World) {P M X : Nat} {k : Int} (p5 : w.cell? ⟨P, 5, none⟩ = some (.pointer (some ⟨M, 0, none⟩))) (m0 : w.cell? ⟨M, 0, none⟩ = some (.pointer (some ⟨X, 0, none⟩))) (m7 : w.cell? ⟨M, 7, none⟩ = some (.int .i64 k)) :
    Calls Tryz.prog 69 #[.pointer (some ⟨P, 0, none⟩)] w fun e w' => e = .returned (.int .i64 k) ∧ w = w' := by
  have HT : Hid (Calls Tryz.prog 135 #[.pointer (some ⟨M, 0, none⟩)] w fun e w' => e = .returned (.int .i64 k) ∧ w = w') := Lib.hid (by
    go_enter Tryz.func135, Tryz.ntmps135
    go_wp2_with fail
    refine (tgone0 w m0).mono ?_
    rintro e w1 ⟨rfl, rfl⟩
    go_wp2_with fail
    go_ret
    exact ⟨rfl, rfl⟩)
  go_enter Tryz.func69, Tryz.ntmps69
  go_wp2_with fail
  refine (mgr_of w p5).mono ?_
  rintro e w1 ⟨rfl, rfl⟩
  go_wp2_with fail
  refine HT.out.mono ?_
  rintro e w1 ⟨rfl, rfl⟩
  go_wp2_with fail
  go_ret
  exact ⟨rfl, rfl⟩
set_option maxRecDepth 100000 in
theorem result_ok (w : World) {P M X r T : Nat} {h a b c : Int} {L : List (Int × Value)} (p5 : w.cell? ⟨P, 5, none⟩ = some (.pointer (some ⟨M, 0, none⟩))) (m0 : w.cell? ⟨M, 0, none⟩ = some (.pointer (some ⟨X, 0, none⟩))) (m2 : w.cell? ⟨M, 2, none⟩ = some (.map (some r)))
    (hm : MapAt w r L) (hg : getL L h = some (.pointer (some ⟨T, 0, none⟩))) (t0 : w.cell? ⟨T, 0, none⟩ = some (.int .i64 a)) (t1 : w.cell? ⟨T, 1, none⟩ = some (.int .i64 b)) (t2 : w.cell? ⟨T, 2, none⟩ = some (.int .i64 c)) :
    Calls Tryz.prog 340 #[.pointer (some ⟨P, 0, none⟩), .int .i64 h] w fun e w' => e = .returned (.tuple #[.int .i64 a, .int .i64 b, .int .i64 c]) ∧ Chg [] w w' := by
  have hl : (Instr.lookup 177 (.map (some r)) (.int .i64 h) true).run Tryz.prog w = .ok (.tuple #[.pointer (some ⟨T, 0, none⟩), .bool true]) w := by
    have := lookup178 hm h true
    rw [hg] at this
    exact this
  have HT : Hid (Calls Tryz.prog 351 #[.pointer (some ⟨M, 0, none⟩), .int .i64 h] w fun e w' => e = .returned (.tuple #[.int .i64 a, .int .i64 b, .int .i64 c]) ∧ Chg [] w w') := Lib.hid (by
    clear hm hg
    go_enter Tryz.func351, Tryz.ntmps351
    go_wp2_with fail
    refine (tgone0 w m0).mono ?_
    rintro e w1 ⟨rfl, rfl⟩
    go_wp2_with fail
    go_quiet (fail)
    go_wp2_with fail
    go_ret3
    exact ⟨rfl, (Chg.refl [] w).drewN _⟩)
  clear hm hg hl
  go_enter Tryz.func340, Tryz.ntmps340
  go_wp2_with fail
  refine (mgr_of w p5).mono ?_
  rintro e w1 ⟨rfl, rfl⟩
  go_wp2_with fail
  refine HT.out.mono ?_
  rintro e w1 ⟨rfl, hc⟩
  go_wp2_with fail
  go_ret3
  exact ⟨rfl, hc⟩
end Go.Proofs.YtgagcbgbjkjghaaGreatDoor
namespace Go.Proofs.YtgagcbgbjkjghaaGreatDoor
open Go.RowKit Go.Lib

/-- a schedule's cells, where only the first client has done something. -/
def sch (N P : Nat) (o b a : Value) (q : Bool) (al : Value) (ev : Int) : Array Value :=
  #[.pointer (some ⟨N, 0, none⟩), .pointer (some ⟨P, 0, none⟩), o, b, a, .bool q, .slice none 0 0, .slice none 0 0, .slice none 0 0, .bool false, .slice none 0 0, .slice none 0 0, .slice none 0 0, .bool false, .slice none 0 0, .slice none 0 0, .slice none 0 0, .bool false, .slice none 0 0, .slice none 0 0, .slice none 0 0, .bool false, .slice none 0 0, .slice none 0 0, .slice none 0 0, .bool false, .slice none 0 0, .slice none 0 0, .slice none 0 0, .bool false, .slice none 0 0, .slice none 0 0, .slice none 0 0, .bool false, al, .int .i64 ev]
/-- what New leaves. -/
def NewT (w : World) (e : Ending) (w' : World) : Prop :=
  ∃ K d ops, e = .returned (.tuple #[.pointer (some ⟨K, 0, none⟩), .int .i64 0]) ∧ Chg [] w w' ∧ w.heap.size ≤ K ∧ Sto w' w.heap.size d (s00 w.heap.size) (g00 w.heap.size ops) ∧ (0 ≤ ops ∧ ops ≤ 2) ∧
    SchB w' K (sch d.N d.P (.slice none 0 0) (.slice none 0 0) (.slice none 0 0) false (.slice none 0 0) 0)
set_option maxRecDepth 100000 in
set_option maxHeartbeats 2000000 in
theorem snew_any (w : World) : Calls Tryz.prog 12 #[.agg #[.int .i64 8, .int .i64 96]] w (NewT w) := by
  have kg : Chg [] w (w.alloc (.cells #[.int .i64 8, .int .i64 96] 42)) := Chg.alloc w _
  have g0 := heap_new w (.cells #[.int .i64 8, .int .i64 96] 42)
  have a0 : (w.alloc (.cells #[.int .i64 8, .int .i64 96] 42)).cell? ⟨w.heap.size, 0, none⟩ = some (.int .i64 8) := cell_is g0 0 rfl
  have a1 : (w.alloc (.cells #[.int .i64 8, .int .i64 96] 42)).cell? ⟨w.heap.size, 1, none⟩ = some (.int .i64 96) := cell_is g0 1 rfl
  go_enter Tryz.func12, Tryz.ntmps12
  go_wp2_with fail
  generalize w.alloc (.cells #[.int .i64 8, .int .i64 96] 42) = w0 at *
  have hw0 := kg.size
  generalize hz0 : w.heap.size = z0 at *
  refine (new_any2 w0).mono ?_
  rintro e w1 ⟨N, A, c, Z, rfl, k1, hD, hO, lN, lA, lZ, hAx, hZn⟩
  have g1 := k1.heap g0 (by simp)
  have hs1 := k1.size
  have hAl := hD.A_lt
  have hNl := heap_lt hD.1
  have hZl : ∀ z ∈ Z, z < w1.heap.size := fun z hz => by
    obtain ⟨j, hj, e⟩ := List.getElem_of_mem hz
    rw [← e]
    exact heap_lt (hD.2.2.2.2 j hj)
  clear a0 a1
  go_wp2_with fail
  refine (mount_any w1 hD hO hZl (by omega) (by omega)).mono ?_
  rintro e w2 ⟨P, S, M, X, rx, B, rb, r, rfl, hM, lP, lS, lM, lX, lrx, lB, lrb, lr, n1, n2, n3⟩
  have h0l := heap_lt g0
  have k2 := hM.1
  have hX2 : ExAt w2 S N A Z := by
    obtain ⟨cs, hAx⟩ := hAx
    exact ⟨hM.2.2.2.1, ⟨cs, k2.heap hAx (by intro hm; rcases List.mem_cons.1 hm with e | hm; exact hO.1 e; exact hO.2.2 hm)⟩, hZn⟩
  have hs2 := k2.size
  have hSt := hM.sto (lw := z0) hX2 n1 n2 n3 (by omega) (fun z hz => by have := lZ z hz; omega) (by omega)
  have kk2 : Chg [] w w2 := (kg.then k1).trans k2 (fun x hx hlt => by
    rcases List.mem_cons.1 hx with e | hx
    · have := kg.size; omega
    · have := lZ x hx; have := kg.size; omega)
  clear hD hO hM hX2 k2 g1 g0 k1 kg
  go_wp2_with fail
  have k3 : Chg [] w2 (w2.alloc (.cells (sch N P (.slice none 0 0) (.slice none 0 0) (.slice none 0 0) false (.slice none 0 0) 0) 64)) := Chg.alloc w2 _
  have hK := heap_new w2 (.cells (sch N P (.slice none 0 0) (.slice none 0 0) (.slice none 0 0) false (.slice none 0 0) 0) 64)
  have hfin : ∃ ops, Sto (w2.alloc (.cells (sch N P (.slice none 0 0) (.slice none 0 0) (.slice none 0 0) false (.slice none 0 0) 0) 64)) z0 (d00 N A c Z P S M X rx B rb r) (s00 z0) (g00 z0 ops) ∧ (0 ≤ ops ∧ ops ≤ 2) := ⟨_, hSt.keep k3, by omega⟩
  obtain ⟨ops, hF, hops⟩ := hfin
  go_ret2
  exact ⟨_, d00 N A c Z P S M X rx B rb r, ops, rfl, kk2.then k3, by rw [hz0]; omega, by rw [hz0]; exact hF, hops, hK⟩
end Go.Proofs.YtgagcbgbjkjghaaGreatDoor
namespace Go.Proofs.YtgagcbgbjkjghaaGreatDoor
open Go.RowKit Go.Lib

/-- what changes lies at lw or behind it, and is no op, no put, no bytes, no answer, no world of the law. -/
def Lo (lw : Nat) (w w' : World) : Prop := ∃ U, Chg U w w' ∧ ∀ x ∈ U, x < w.heap.size → lw ≤ x ∧ ∀ cs t fr, w.heap[x]? = some (.cells cs t fr) → t ∉ [116, 138, 5, 37, 208]
theorem Lo.of0 {lw : Nat} {w w' : World} (h : Chg [] w w') : Lo lw w w' := ⟨[], h, fun x hx => by cases hx⟩
theorem Lo.of_cs {lw : Nat} {w w' : World} (h : Cs lw w w') : Lo lw w w' := by
  obtain ⟨U, h1, h2⟩ := h
  refine ⟨U, h1, fun x hx hl => ⟨(h2 x hx hl).1, fun cs t fr hh hm => ?_⟩⟩
  exact (by decide : ∀ u ∈ ([91, 179, 279, 231, 240, 78, 82, 23, 3, 234, 152] : List Nat), u ∉ [116, 138, 5, 37, 208]) t ((h2 x hx hl).2 cs t fr hh) hm
theorem Lo.of_ow {base lw : Nat} {w w' : World} (h : Ow base w w') (hb : lw ≤ base) : Lo lw w w' := by
  obtain ⟨U, h1, h2⟩ := h
  refine ⟨U, h1, fun x hx _ => ⟨Nat.le_trans hb (h2 x hx).1, fun cs t fr hh hm => ?_⟩⟩
  rcases (h2 x hx).2 cs t fr hh with rfl | rfl | rfl <;> simp at hm
theorem Lo.of_tp {lw : Nat} {w w' : World} {U ts : List Nat} (h : Chg U w w') (ht : Tp w U ts) (hts : ∀ t ∈ ts, t ∉ [116, 138, 5, 37, 208]) (hl : ∀ x ∈ U, lw ≤ x) : Lo lw w w' :=
  ⟨U, h, fun x hx _ => ⟨hl x hx, fun cs t fr hh => by
    obtain ⟨cs2, t2, h2, h3⟩ := ht x hx
    rw [h2] at hh
    cases hh
    exact hts _ h3⟩⟩
theorem Lo.trans {lw : Nat} {a b c : World} (h : Lo lw a b) (k : Lo lw b c) : Lo lw a c := by
  obtain ⟨S, h1, h2⟩ := h
  obtain ⟨U, k1, k2⟩ := k
  refine ⟨S ++ U, (h1.mono (fun x hx _ => List.mem_append_left _ hx)).trans k1 (fun x hx _ => List.mem_append_right _ hx), fun x hx hlt => ?_⟩
  by_cases hT : x ∈ S
  · exact h2 x hT hlt
  · rcases List.mem_append.1 hx with h | h
    · exact absurd h hT
    · obtain ⟨e1, e2⟩ := k2 x h (Nat.lt_of_lt_of_le hlt h1.size)
      exact ⟨e1, fun cs t fr hh => e2 cs t fr (by rw [h1.block x hlt hT]; exact hh)⟩
theorem Lo.then_chg {lw : Nat} {a b c : World} {S : List Nat} (h : Lo lw a b) (k : Chg S b c) (hS : ∀ x ∈ S, x < a.heap.size → lw ≤ x ∧ ∀ cs t fr, b.heap[x]? = some (.cells cs t fr) → t ∉ [116, 138, 5, 37, 208]) : Lo lw a c := by
  obtain ⟨U, h1, h2⟩ := h
  refine ⟨U ++ S, (h1.mono (fun x hx _ => List.mem_append_left _ hx)).trans k (fun x hx _ => List.mem_append_right _ hx), fun x hx hlt => ?_⟩
  by_cases hT : x ∈ U
  · exact h2 x hT hlt
  · rcases List.mem_append.1 hx with h | h
    · exact absurd h hT
    · obtain ⟨e1, e2⟩ := hS x h hlt
      exact ⟨e1, fun cs t fr hh => e2 cs t fr (by rw [h1.block x hlt hT]; exact hh)⟩
theorem Cs.new_chg {lw : Nat} {a b c : World} {S : List Nat} (h : Cs lw a b) (k : Chg S b c) (hS : ∀ x ∈ S, a.heap.size ≤ x) : Cs lw a c := by
  obtain ⟨U, h1, h2⟩ := h
  exact ⟨U, h1.trans k (fun x hx hlt => by have := hS x hx; omega), h2⟩
theorem Lo.chg0 {lw : Nat} {w0 w w' : World} (h : Chg [] w0 w) (k : Lo lw w w') (hl : w0.heap.size ≤ lw) : Chg [] w0 w' := by
  obtain ⟨U, k1, k2⟩ := k
  exact h.trans k1 (fun x hx hlt => by have := (k2 x hx (Nat.lt_of_lt_of_le hlt h.size)).1; omega)
theorem Lo.size {lw : Nat} {w w' : World} (h : Lo lw w w') : w.heap.size ≤ w'.heap.size := by obtain ⟨U, h1, -⟩ := h; exact h1.size
theorem Lo.heap {lw : Nat} {w w' : World} (h : Lo lw w w') {x : Nat} {cs : Array Value} {t : TypeId} {fr : Nat × Nat} (hh : w.heap[x]? = some (.cells cs t fr)) (ht : t ∈ [116, 138, 5, 37, 208]) : w'.heap[x]? = some (.cells cs t fr) := by
  obtain ⟨U, k1, k2⟩ := h
  exact k1.heap hh (fun hm => (k2 x hm (heap_lt hh)).2 cs t fr hh ht)
theorem ty144 : Tryz.prog.underlying 58 = some (.slice 126) := by kernel_rfl
theorem inf158 : (Tryz.prog.info? 126).map (fun i => (i.zero, i.size, i.bytes)) = some (some (.pointer none), 1, 8) := by kernel_rfl
/-- a begin is put behind a row of begins. -/
theorem wpList_append_beg {ops : Array Oper} {rest : List Oper} {o : Oper} {a : Act} {w : World} {Q : Exit → Act → World → Prop} (hgd : o.guard = none) (s x : Operand)
    (ho : o.op = .call { callee := .builtin .append, args := #[s, x], argTypes := #[58, 58] }) (base b c n : Nat) (v u : Value) (xs : List Value) (hs : a.eval s = v) (hown : w.ownsRow base 126 1 v n xs) (hbase : base ≤ w.heap.size) (hn : n ≤ 1000)
    (hx : a.eval x = .slice (some ⟨b, 0, none⟩) 1 c) (hb : w.cell? ⟨b, 0, none⟩ = some u) (h1 : u.oneCell' = true)
    (h : ∀ g cap w', w'.ownsRow base 126 1 (.slice (some ⟨g, 0, none⟩) (n + 1) cap) (n + 1) (xs ++ [u]) → Chg v.ownBlock.toList w w' → (v.ownBlock = some g ∨ g = w.heap.size) → wpList Tryz.prog ops Q rest (a.put o.dst (.slice (some ⟨g, 0, none⟩) (n + 1) cap)) w') : wpList Tryz.prog ops Q (o :: rest) a w := by
  obtain ⟨i, hi0, hz, hz1, hz2⟩ := info_parts inf158
  refine wpList_append_lies w hgd s x 58 ho base 126 i _ 1 8 ty144 hi0 hz hz1 hz2 rfl (by decide) v n xs hs hown ⟨b, 0, none⟩ 1 c [u] hx rfl ?_ ?_ (by decide) (by unfold maxLen; omega) (by omega) hbase _ rfl ?_
  · intro j t hu
    rw [show (⟨b, 0, none⟩ : Addr).add j = ⟨b, 0 + j, none⟩ from by unfold Addr.add; split <;> simp_all, Nat.zero_add]
    match j with
    | 0 => cases hu; exact hb
    | j + 1 => simp at hu
  · intro t hu
    simp at hu
    subst hu
    exact h1
  · intro g cap w' h2 h3 h4 _
    exact h g cap w' h2 (Chg.of_grownO h3) h4
set_option maxRecDepth 100000 in
theorem at_ok (w : World) {K : Nat} {o g c n Bb : Nat} {i h : Int} (c1 : w.cell? ⟨K, o + 1, none⟩ = some (.slice (some ⟨g, 0, none⟩) n c)) (i0 : i = 0) (hn : 0 < n) (g0 : w.cell? ⟨g, 0, none⟩ = some (.pointer (some ⟨Bb, 0, none⟩))) (b0 : w.cell? ⟨Bb, 0, none⟩ = some (.int .i64 h)) (hh : 0 < h) :
    Calls Tryz.prog 254 #[.pointer (some ⟨K, o, none⟩), .int .i64 i] w fun e w' => e = .returned (.pointer (some ⟨Bb, 0, none⟩)) ∧ w = w' := by
  subst i0
  have n1 : decide ((n : Int) ≤ 0) = false := decide_eq_false (by omega)
  have n2 : decide (h = 0) = false := decide_eq_false (by omega)
  go_enter Tryz.func254, Tryz.ntmps254
  go_wp2_with fail
  go_ret
  exact ⟨rfl, rfl⟩
end Go.Proofs.YtgagcbgbjkjghaaGreatDoor
