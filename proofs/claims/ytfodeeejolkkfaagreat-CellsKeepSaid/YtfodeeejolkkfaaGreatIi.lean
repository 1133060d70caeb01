/- The statement CellsKeep: what was set is got, the same to the last bit, behind a commit too; its neighbours stay; for every input that can be read. -/
import Derived.Maps.RangeRun
import Derived.Test.YtfodeeejolkkfaaGreatRows
import Derived.ProofKit
import Derived.OpenShut
import Derived.Lib.SlBytesRowKit
import Derived.Lib.SmallJoins
import Derived.Deep.Slices
import Derived.Deep.Fields
import Derived.ChangeMaps5
import Derived.Test.YtfodeeejolkkfaaGreatIe
import Derived.Test.YtfodeeejolkkfaaGreatIf
import Derived.Test.YtfodeeejolkkfaaGreatIg
import Derived.Test.YtfodeeejolkkfaaGreatIh
namespace Go.Proofs.YtfodeeejolkkfaaGreat
open Go.RowKit Go.Lib

/-- block S is two slots of the device N: the newer one, its text, how many texts there were. -/
def SlotG (w : World) (S N : Nat) (inn : Int) (tv : Value) (cnt : Nat) : Prop :=
  w.heap[S]? = some (.cells #[.pointer (some ⟨N, 0, none⟩), .int .i64 0, .int .i64 3, .int .i64 6, .int .i64 96, .int .i64 inn, tv, .int .i64 cnt, .bool false] 196 (0, 0))
/-- a text of the slots: none, or bytes. -/
def TextAt (w : World) (tv : Value) : Prop := tv = .slice none 0 0 ∨ ∃ g c m l, tv = .slice (some ⟨g, 0, none⟩) m c ∧ l.length = m ∧ 0 < m ∧ m ≤ 1000 ∧ Bs w (some ⟨g, 0, none⟩) l ∧ Bt w g
theorem TextAt.keep {w w' : World} {U : List Nat} {tv : Value} (h : TextAt w tv) (hc : Chg U w w') (hU : Av w U [5]) : TextAt w' tv := by
  rcases h with rfl | ⟨g, c, m, l, rfl, h1, h2, h3, h4, h5⟩
  · exact Or.inl rfl
  · have hn : g ∉ U := Bt.av h5 hU (by simp)
    exact Or.inr ⟨g, c, m, l, rfl, h1, h2, h3, h4.chgT hc hn, Bt.keep h5 hc hn⟩
/-- what Load hands back. -/
def LoadR (w : World) (cnt : Nat) (e : Ending) (w' : World) : Prop := ∃ u, e = .returned (.tuple #[u, .int .i64 cnt]) ∧ Chg [] w w'
set_option maxRecDepth 100000 in
theorem load_g (w : World) {S N : Nat} {inn : Int} {tv : Value} {cnt : Nat} (h : SlotG w S N inn tv cnt) (ht : TextAt w tv) : Calls Tryz.prog 80 #[.pointer (some ⟨S, 0, none⟩)] w (LoadR w cnt) := by
  rcases ht with rfl | ⟨g, c, m, l, rfl, hl, hm0, hm1, hb, -⟩
  · have c6 : w.cell? ⟨S, 6, none⟩ = some (.slice none 0 0) := cell_is h 6 rfl
    have c7 : w.cell? ⟨S, 7, none⟩ = some (.int .i64 cnt) := cell_is h 7 rfl
    clear h
    go_enter Tryz.func80, Tryz.ntmps80
    go_wp2_with fail
    have c6d : w.drew.cell? ⟨S, 6, none⟩ = some (.slice none 0 0) := c6
    have c7d : w.drew.cell? ⟨S, 7, none⟩ = some (.int .i64 cnt) := c7
    go_region_with (go_at_call 113; refine (clone_nil _).mono ?_; rintro e w1 ⟨rfl, rfl⟩)
    all_goals
      go_wp2_with fail
      go_ret2
      exact ⟨_, rfl, (Chg.refl _ w).drew⟩
  · have c6 : w.cell? ⟨S, 6, none⟩ = some (.slice (some ⟨g, 0, none⟩) m c) := cell_is h 6 rfl
    have c7 : w.cell? ⟨S, 7, none⟩ = some (.int .i64 cnt) := cell_is h 7 rfl
    have HB := Lib.hid hb
    have HL := Lib.hid (And.intro hl (And.intro hm0 hm1))
    clear h hb hl hm0 hm1
    go_enter Tryz.func80, Tryz.ntmps80
    go_wp2_with fail
    have c6d : w.drew.cell? ⟨S, 6, none⟩ = some (.slice (some ⟨g, 0, none⟩) m c) := c6
    have c7d : w.drew.cell? ⟨S, 7, none⟩ = some (.int .i64 cnt) := c7
    go_region_held3 (fun wx => wx.cell? ⟨S, 6, none⟩ = some (.slice (some ⟨g, 0, none⟩) m c) ∧ wx.cell? ⟨S, 7, none⟩ = some (.int .i64 cnt))
      (first | (exact ⟨c6, c7⟩) | (exact ⟨c6d, c7d⟩) | (exact ⟨k1.cell c6d (by simp), k1.cell c7d (by simp)⟩))
      (first
        | (go_at_call 113; refine (clone_bt w.drew HL.out.1 HL.out.2.1 HL.out.2.2 (HB.out.chg (Chg.refl [] w).drew)).mono ?_; rintro e w1 ⟨g', c', rfl, k1, -, -, -⟩))
    all_goals
      go_wp2_with fail
      go_ret2
      exact ⟨_, rfl, (Chg.refl [] w).drew.then k1⟩
theorem dead_g (w : World) {P N S M pos num : Nat} (h : StoreG w P N S M pos num) : Calls Tryz.prog 53 #[.pointer (some ⟨P, 0, none⟩)] w fun e w' => e = .returned (.bool false) ∧ w = w' := by
  have c0 : w.cell? ⟨P, 0, none⟩ = some (.pointer (some ⟨N, 0, none⟩)) := cell_is h 0 rfl
  have c9 : w.cell? ⟨P, 9, none⟩ = some (.bool false) := cell_is h 9 rfl
  clear h
  go_enter Tryz.func53, Tryz.ntmps53
  go_wp2_with fail
  go_ret
  exact ⟨rfl, rfl⟩
/-- all these blocks hold cells of these types. -/
def Tp (w : World) (U ts : List Nat) : Prop := ∀ x ∈ U, ∃ cs t, w.heap[x]? = some (.cells cs t (0, 0)) ∧ t ∈ ts
theorem Tp.av {w : World} {U ts ts' : List Nat} (h : Tp w U ts) (hd : ∀ t ∈ ts, t ∉ ts') : Av w U ts' := fun x hx cs t fr hh => by
  obtain ⟨cs2, t2, h2, h3⟩ := h x hx
  rw [h2] at hh
  cases hh
  exact hd _ h3
theorem Tp.map {w : World} {U ts : List Nat} {r : Nat} {L : List (Int × Value)} (h : Tp w U ts) (hm : MapAt w r L) : r ∉ U := fun hr => by
  obtain ⟨cs2, t2, h2, -⟩ := h r hr
  exact map_cells hm h2 rfl
theorem Mx.keepA {w w' : World} {U : List Nat} {M X rx B rb r : Nat} {s : Gs} (h : Mx w M X rx B rb r s) (hc : Chg U w w') (hU : Av w U [180, 260, 267, 5, 270]) (h1 : rx ∉ U) (h2 : rb ∉ U) (h3 : r ∉ U) : Mx w' M X rx B rb r s :=
  ⟨hc.heap h.mgr (hU.ne h.mgr (by simp)), h.ver.keepA hc (fun x hx cs t fr hh ht => hU x hx cs t fr hh (by simp at ht; rcases ht with rfl | rfl | rfl <;> simp)) h1, ⟨hc.heap h.book.1 (hU.ne h.book.1 (by simp)), h.book.2.keep hc h2⟩, h.map.keep hc h3, h.n1, h.n2, h.n3⟩
/-- .. when its own block alone has changed. -/
theorem Mx.chgM {w w' : World} {M X rx B rb r : Nat} {s s' : Gs} (h : Mx w M X rx B rb r s) (kS : Chg [M] w w') (hm : MgrG w' M X B r s'.qv s'.out s'.num s'.bas s'.last s'.given s'.rd) (e1 : s'.lo = s.lo) (e2 : s'.lastv = s.lastv) (e3 : s'.Lv = s.Lv) (e4 : s'.vs = s.vs) (e5 : s'.bl = s.bl) (e6 : s'.Lb = s.Lb) (e7 : s'.Lr = s.Lr) : Mx w' M X rx B rb r s' := by
  refine ⟨hm, ?_, ?_, ?_, h.n1, h.n2, h.n3⟩
  · rw [e1, e2, e3, e4]
    exact h.ver.keepA kS (Av.row h.mgr (by decide)) (by simpa using map_cells h.ver.m h.mgr)
  · rw [e5, e6]
    exact ⟨kS.heap h.book.1 (by simpa using heap_ne h.book.1 h.mgr (by simp)), h.book.2.keep kS (by simpa using map_cells h.book.2 h.mgr)⟩
  · rw [e7]
    exact h.map.keep kS (by simpa using map_cells h.map h.mgr)
/-- where a store's log, slots and device stand. -/
structure Gd where
  pos : Nat
  num : Nat
  inn : Int
  tv : Value
  cnt : Nat
  dlo : Nat
  ops : Int
  dv : Nat → Value
  gs : Nat → Nat
  zs : Nat → List (List UInt8)
/-- a store with all its parts, none of them below lw. -/
structure Sto (w : World) (lw : Nat) (d : Ids) (s : Gs) (g : Gd) : Prop where
  store : StoreG w d.P d.N d.S d.M g.pos g.num
  slot : SlotG w d.S d.N g.inn g.tv g.cnt
  text : TextAt w g.tv
  dev : DevG w g.dlo d.N d.A d.c g.ops d.Z g.dv g.gs g.zs
  mx : Mx w d.M d.X d.rx d.B d.rb d.r s
  ap : ApL s.Lv
  keys : ∀ p ∈ s.Lv, 0 ≤ p.1 ∧ p.1 < 258
  bnd : lw ≤ d.P ∧ lw ≤ d.N ∧ lw ≤ d.S ∧ lw ≤ d.M ∧ lw ≤ d.X ∧ lw ≤ d.rx ∧ lw ≤ d.B ∧ lw ≤ d.rb ∧ lw ≤ d.r ∧ lw ≤ s.lo ∧ lw ≤ g.dlo
  bndZ : ∀ z ∈ d.Z, lw ≤ z
  slo : s.lo ≤ w.heap.size
  dlo : g.dlo ≤ d.N
theorem Sto.keepA {w w' : World} {U : List Nat} {lw : Nat} {d : Ids} {s : Gs} {g : Gd} (h : Sto w lw d s g) (hc : Chg U w w') (hU : Av w U [99, 196, 130, 131, 134, 23, 5, 180, 260, 267, 270]) (h1 : d.rx ∉ U) (h2 : d.rb ∉ U) (h3 : d.r ∉ U) : Sto w' lw d s g := by
  have sub : ∀ ts : List Nat, (∀ t ∈ ts, t ∈ [99, 196, 130, 131, 134, 23, 5, 180, 260, 267, 270]) → Av w U ts := fun ts hts x hx cs t fr hh ht => hU x hx cs t fr hh (hts t ht)
  exact ⟨hc.heap h.store (hU.ne h.store (by simp)), hc.heap h.slot (hU.ne h.slot (by simp)), h.text.keep hc (sub _ (by decide)), h.dev.keep hc (sub _ (by decide)), h.mx.keepA hc (sub _ (by decide)) h1 h2 h3, h.ap, h.keys, h.bnd, h.bndZ, Nat.le_trans h.slo hc.size, h.dlo⟩
theorem Sto.keep {w w' : World} {lw : Nat} {d : Ids} {s : Gs} {g : Gd} (h : Sto w lw d s g) (hc : Chg [] w w') : Sto w' lw d s g := h.keepA hc (Av.nil _ _) (by simp) (by simp) (by simp)
/-- what of memory changes while a store works: nothing below lw. -/
def Cs (lw : Nat) (w w' : World) : Prop := ∃ U, Chg U w w' ∧ ∀ x ∈ U, x < w.heap.size → lw ≤ x ∧ ∀ cs t fr, w.heap[x]? = some (.cells cs t fr) → t ∈ [99, 180, 173, 260, 267, 130, 134, 23, 3, 270, 196]
theorem Cs.of_chg {lw : Nat} {w w' : World} (h : Chg [] w w') : Cs lw w w' := ⟨[], h, fun x hx => by cases hx⟩
theorem Cs.trans {lw : Nat} {a b c : World} (h : Cs lw a b) (k : Cs lw b c) : Cs lw a c := by
  obtain ⟨S, h1, h2⟩ := h
  obtain ⟨U, k1, k2⟩ := k
  refine ⟨S ++ U, (h1.mono (fun x hx _ => List.mem_append_left _ hx)).trans k1 (fun x hx _ => List.mem_append_right _ hx), fun x hx hlt => ?_⟩
  by_cases hT : x ∈ S
  · exact h2 x hT hlt
  · rcases List.mem_append.1 hx with h | h
    · exact absurd h hT
    · obtain ⟨e1, e2⟩ := k2 x h (Nat.lt_of_lt_of_le hlt h1.size)
      exact ⟨e1, fun cs t fr hh => e2 cs t fr (by rw [h1.block x hlt hT]; exact hh)⟩
theorem Cs.size {lw : Nat} {w w' : World} (h : Cs lw w w') : w.heap.size ≤ w'.heap.size := by obtain ⟨U, h1, -⟩ := h; exact h1.size
theorem Cs.chg0 {lw : Nat} {w0 w w' : World} (h : Chg [] w0 w) (k : Cs lw w w') (hl : w0.heap.size ≤ lw) : Chg [] w0 w' := by
  obtain ⟨U, k1, k2⟩ := k
  exact h.trans k1 (fun x hx hlt => by have := (k2 x hx (Nat.lt_of_lt_of_le hlt h.size)).1; omega)
theorem Cs.heap {lw : Nat} {w w' : World} (h : Cs lw w w') {x : Nat} {cs : Array Value} {t : TypeId} {fr : Nat × Nat} (hh : w.heap[x]? = some (.cells cs t fr)) (ht : t ∉ [99, 180, 173, 260, 267, 130, 134, 23, 3, 270, 196]) : w'.heap[x]? = some (.cells cs t fr) := by
  obtain ⟨U, k1, k2⟩ := h
  exact k1.heap hh (fun hm => ht ((k2 x hm (heap_lt hh)).2 cs t fr hh))
theorem Cs.of_tp {lw : Nat} {w w' : World} {U ts : List Nat} (h : Chg U w w') (ht : Tp w U ts) (hts : ∀ t ∈ ts, t ∈ [99, 180, 173, 260, 267, 130, 134, 23, 3, 270, 196]) (hl : ∀ x ∈ U, lw ≤ x) : Cs lw w w' :=
  ⟨U, h, fun x hx _ => ⟨hl x hx, fun cs t fr hh => by
    obtain ⟨cs2, t2, h2, h3⟩ := ht x hx
    rw [h2] at hh
    cases hh
    exact hts _ h3⟩⟩
end Go.Proofs.YtfodeeejolkkfaaGreat
namespace Go.Proofs.YtfodeeejolkkfaaGreat
open Go.RowKit Go.Lib

theorem BufD.keepA {w w' : World} {U : List Nat} {L : List (Int × Value)} {D : Int → List UInt8} (h : BufD w L D) (hc : Chg U w w') (hU : Av w U [5]) : BufD w' L D := fun k v hv => by
  obtain ⟨g, c, h1, h2, h3, h4⟩ := h k v hv
  have hn : g ∉ U := Bt.av h4 hU (by simp)
  exact ⟨g, c, h1, h2.chgT hc hn, h3, Bt.keep h4 hc hn⟩
theorem Cd.av {lo M T rb X rx : Nat} {w : World} {S ts : List Nat} {csM csT csX : Array Value} {L1 L2 : List (Int × Value)} (hS : ∀ x ∈ S, x < w.heap.size → x = M ∨ x = T ∨ x = rb ∨ x = X ∨ x = rx ∨ (lo ≤ x ∧ ∃ cs, w.heap[x]? = some (.cells cs 267 (0, 0))))
    (hM : w.heap[M]? = some (.cells csM 180 (0, 0))) (hT : w.heap[T]? = some (.cells csT 173 (0, 0))) (hX : w.heap[X]? = some (.cells csX 260 (0, 0))) (h1 : MapAt w rb L1) (h2 : MapAt w rx L2) (h : ∀ t ∈ ts, t ∉ [180, 173, 260, 267]) : Av w S ts := by
  intro x hx cs t fr hh ht
  have hn := h t ht
  rcases hS x hx (heap_lt hh) with rfl | rfl | rfl | rfl | rfl | ⟨-, cs2, h3⟩
  · rw [hM] at hh; cases hh; exact hn (by simp)
  · rw [hT] at hh; cases hh; exact hn (by simp)
  · exact map_cells h1 hh rfl
  · rw [hX] at hh; cases hh; exact hn (by simp)
  · exact map_cells h2 hh rfl
  · rw [h3] at hh; cases hh; exact hn (by simp)
theorem Cs.of_cd {lw lo M T rb X rx : Nat} {w w' : World} {csM csT csX : Array Value} {L1 L2 : List (Int × Value)} (h : Cd lo M T rb X rx w w')
    (hM : w.heap[M]? = some (.cells csM 180 (0, 0))) (hT : w.heap[T]? = some (.cells csT 173 (0, 0))) (hX : w.heap[X]? = some (.cells csX 260 (0, 0))) (h1 : MapAt w rb L1) (h2 : MapAt w rx L2) (hb : lw ≤ lo ∧ lw ≤ M ∧ lw ≤ T ∧ lw ≤ rb ∧ lw ≤ X ∧ lw ≤ rx) : Cs lw w w' := by
  obtain ⟨S, k1, k2⟩ := h
  refine ⟨S, k1, fun x hx hlt => ?_⟩
  obtain ⟨b1, b2, b3, b4, b5, b6⟩ := hb
  rcases k2 x hx hlt with rfl | rfl | rfl | rfl | rfl | ⟨hl, cs2, h3⟩
  · exact ⟨b2, fun cs t fr hh => by rw [hM] at hh; cases hh; simp⟩
  · exact ⟨b3, fun cs t fr hh => by rw [hT] at hh; cases hh; simp⟩
  · exact ⟨b4, fun cs t fr hh => absurd rfl (map_cells h1 hh)⟩
  · exact ⟨b5, fun cs t fr hh => by rw [hX] at hh; cases hh; simp⟩
  · exact ⟨b6, fun cs t fr hh => absurd rfl (map_cells h2 hh)⟩
  · exact ⟨by omega, fun cs t fr hh => by rw [h3] at hh; cases hh; simp⟩
/-- the blocks that a write of a batch changes. -/
theorem Sto.wtp {w : World} {lw : Nat} {d : Ids} {s : Gs} {g : Gd} (h : Sto w lw d s g) : Tp w (d.P :: d.N :: d.Z ++ (g.dv 6).ownBlock.toList) [99, 130, 134, 23] ∧ ∀ x ∈ d.P :: d.N :: d.Z ++ (g.dv 6).ownBlock.toList, lw ≤ x := by
  have hb := h.bnd
  refine ⟨fun x hx => ?_, fun x hx => ?_⟩
  · simp only [List.cons_append, List.mem_cons, List.mem_append] at hx
    rcases hx with rfl | rfl | hx | hx
    · exact ⟨_, _, h.store, by simp⟩
    · exact ⟨_, _, h.dev.hdr, by simp⟩
    · obtain ⟨i, hi, rfl⟩ := List.getElem_of_mem hx
      exact ⟨_, _, h.dev.zone i hi, by simp⟩
    · obtain ⟨cs, hh⟩ := (h.dev.rows 6 (by omega)).block x (by simpa using hx)
      exact ⟨_, _, hh, by simp⟩
  · simp only [List.cons_append, List.mem_cons, List.mem_append] at hx
    rcases hx with rfl | rfl | hx | hx
    · omega
    · omega
    · exact h.bndZ x hx
    · obtain ⟨xs, ho, -⟩ := h.dev.rows 6 (by omega)
      have := (own_elem ho (show (g.dv 6).ownBlock = some x by simpa using hx)).1
      omega
/-- what a transaction that waits holds beside the store. -/
structure Wtx (w : World) (d : Ids) (s : Gs) (gq cq : Nat) (hdl : Int) (k : Nat) (t t0 : Int) (L : List (Int × Value)) (D : Int → List UInt8) : Prop where
  qv : s.qv = .slice (some ⟨gq, 0, none⟩) 1 cq
  cq : 1 ≤ cq
  q : ∃ cs, w.heap[gq]? = some (.cells cs 3 (0, 0)) ∧ cs[0]? = some (.int .i64 hdl)
  tab : getL s.Lr hdl = some (.pointer (some ⟨d.T, 0, none⟩))
  tx : TxW w d.T d.W d.Q k t
  buf : BufAt w d.W d.rw L
  bd : BufD w L D
  bk : ∀ x ∈ L, 0 ≤ x.1 ∧ x.1 < 258
  len0 : 0 < L.length
  len : L.length ≤ 16
  book : getL s.Lb hdl = some (.int .i64 t0)
theorem Wtx.keepA {w w' : World} {U : List Nat} {d : Ids} {s : Gs} {gq cq : Nat} {hdl : Int} {k : Nat} {t t0 : Int} {L : List (Int × Value)} {D : Int → List UInt8} (h : Wtx w d s gq cq hdl k t t0 L D) (hc : Chg U w w') (hU : Av w U [3, 173, 272, 5]) (hr : d.rw ∉ U) : Wtx w' d s gq cq hdl k t t0 L D := by
  obtain ⟨cs, q1, q2⟩ := h.q
  exact ⟨h.qv, h.cq, ⟨cs, hc.heap q1 (hU.ne q1 (by simp)), q2⟩, h.tab, hc.heap h.tx (hU.ne h.tx (by simp)), h.buf.keep hc (hU.ne h.buf.1 (by simp)) hr, h.bd.keepA hc (fun x hx cs t fr hh ht => hU x hx cs t fr hh (by simp at ht; simp [ht])), h.bk, h.len0, h.len, h.book⟩
theorem Wtx.keep {w w' : World} {d : Ids} {s : Gs} {gq cq : Nat} {hdl : Int} {k : Nat} {t t0 : Int} {L : List (Int × Value)} {D : Int → List UInt8} (h : Wtx w d s gq cq hdl k t t0 L D) (hc : Chg [] w w') : Wtx w' d s gq cq hdl k t t0 L D := h.keepA hc (Av.nil _ _) (by simp)
/-- the manager behind a batch. -/
def doneS (s : Gs) (z : Nat) (k : Nat) (hdl : Int) (Lv' : List (Int × Value)) (l : List (Int × List UInt8)) : Gs :=
  { s with qv := .slice (some ⟨z, 0, none⟩) 0 0, out := 0, num := s.num + 1, last := k, lastv := k, Lv := Lv', vs := applyV s.vs k l, Lb := delL s.Lb hdl }
/-- the log behind a batch. -/
def doneG (g : Gd) (v6 : Value) (k : Nat) (l : List (Int × List UInt8)) : Gd :=
  { g with pos := g.pos + l.length + 1, num := g.num + 1, ops := g.ops + l.length + 2, dv := upF g.dv 6 v6, gs := goodF g.gs (upF g.zs 6 (g.zs 6 ++ batL g.cnt (g.num + 1) k l)) 8, zs := upF g.zs 6 (g.zs 6 ++ batL g.cnt (g.num + 1) k l) }
/-- what a flush of one transaction leaves. -/
def FlushR (w w' : World) (lw : Nat) (d : Ids) (s : Gs) (g : Gd) (k : Nat) (hdl : Int) (l : List (Int × List UInt8)) : Prop :=
  ∃ z Lv' v6, Sto w' lw d (doneS s z k hdl Lv' l) (doneG g v6 k l) ∧ Cs lw w w' ∧ w'.ownsRow lw 3 1 (.slice (some ⟨z, 0, none⟩) 0 0) 0 []
set_option maxRecDepth 100000 in
set_option maxHeartbeats 4000000 in
theorem sflush_ok (w : World) {lw : Nat} {d : Ids} {s : Gs} {g : Gd} {gq cq : Nat} {hdl : Int} {k : Nat} {t t0 : Int} {L : List (Int × Value)} {D : Int → List UInt8} (h : Sto w lw d s g) (hw : Wtx w d s gq cq hdl k t t0 L D) (hout : s.out = 0) (hT : lw ≤ d.T) (hlw : lw ≤ w.heap.size)
    (hk0 : 1 ≤ k) (hlast : s.lastv < k) (hk1 : k ≤ 1099511627776) (hs : ∀ c, (s.vs c).length + 16 < 1000000) (hn0 : 0 ≤ s.num) (hn1 : s.num ≤ 100000000) (hroom : (g.zs 6).length + L.length + 1 ≤ 96) (hpos : g.pos + L.length + 1 ≤ 96) (ho0 : 0 ≤ g.ops) (ho1 : g.ops ≤ 100000) (hcnt : g.cnt < 4294967296) (hnum : g.num < 1000000000) :
    Calls Tryz.prog 27 #[.pointer (some ⟨d.P, 0, none⟩)] w fun e w' => e = .returned (.int .i64 0) ∧ FlushR w w' lw d s g k hdl (putsL L D) := by
  have HD := Lib.hid (dead_g w h.store)
  have p5 : w.cell? ⟨d.P, 5, none⟩ = some (.pointer (some ⟨d.M, 0, none⟩)) := cell_is h.store 5 rfl
  have hm := h.mx.mgr
  rw [hw.qv, hout] at hm
  obtain ⟨cs, hq1, hq2⟩ := hw.q
  have hpl : (putsL L D).length = L.length := putsL_length L D
  have HB := Lib.hid (tbatch_one w (k := k) (l := putsL L D) hm (by have := hw.len; omega) hn0 (by omega) (fun w1 k1 => waiting_one w1 (k1.heap hm (by simp)) (k1.cell (cell_is hq1 0 hq2) (by simp)) (h.mx.map.keep k1 (by simp)) hw.tab (k1.heap hw.tx (by simp)) (hw.buf.keep k1 (by simp) (by simp)) (hw.bd.keep k1) hw.bk (by have := hw.len; omega)))
  have HS := Lib.hid h
  have HW := Lib.hid hw
  have HO := Lib.hid hout
  have HQv := Lib.hid hw.qv
  clear h hw hm hout hq1 hq2
  go_enter Tryz.func27, Tryz.ntmps27
  go_wp2_with fail
  refine HD.out.mono ?_
  rintro e w1 ⟨rfl, rfl⟩
  go_wp2_with fail
  refine HB.out.mono ?_
  rintro e w1 ⟨gt, ct, rfl, k1, hm1, ht1⟩
  have hS := HS.out
  have avM : ∀ ts, 180 ∉ ts → Av w [d.M] ts := fun ts h1 => Av.row hS.mx.mgr h1
  have nmM : ∀ {x L}, MapAt w x L → x ∉ [d.M] := fun hm => by simpa using map_cells hm hS.mx.mgr
  have S1 : Sto w1 lw d { s with out := 1 } g :=
    ⟨k1.heap hS.store ((avM [99] (by decide)).ne hS.store (by simp)), k1.heap hS.slot ((avM [196] (by decide)).ne hS.slot (by simp)), hS.text.keep k1 (avM _ (by decide)), hS.dev.keep k1 (avM _ (by decide)),
      hS.mx.chgM k1 (by rw [HQv.out]; exact hm1) rfl rfl rfl rfl rfl rfl rfl, hS.ap, hS.keys, hS.bnd, hS.bndZ, Nat.le_trans hS.slo k1.size, hS.dlo⟩
  have W1 := HW.out.keepA k1 (avM _ (by decide)) (nmM HW.out.buf.2)
  have c1 : Cs lw w w1 := Cs.of_tp (ts := [180]) k1 (fun x hx => by rw [List.mem_singleton] at hx; subst hx; exact ⟨_, _, hS.mx.mgr, by simp⟩) (by decide) (fun x hx => by rw [List.mem_singleton] at hx; subst hx; exact hS.bnd.2.2.2.1)
  have ka : Chg [] w1 (w1.alloc (.cells #[.int .i64 (s.num + 1), .slice (some ⟨gt, 0, none⟩) 1 ct] 102)) := Chg.alloc w1 _
  have A0 := heap_new w1 (.cells #[.int .i64 (s.num + 1), .slice (some ⟨gt, 0, none⟩) 1 ct] 102)
  have S2 := S1.keep ka
  have W2 := W1.keep ka
  have c2 := c1.trans (Cs.of_chg ka)
  have ht2 := ht1.keep ka
  have h6 : 6 < d.Z.length := by have := S2.dev.len; omega
  have hl0 : 0 < (putsL L D).length := by have := HW.out.len0; omega
  have hl16 : (putsL L D).length ≤ 16 := by have := HW.out.len; omega
  have hwr := swrite_log _ (num0 := s.num + 1) S2.store (fun w' k' => load_g w' (k'.heap S2.slot (by simp)) (S2.text.keep k' (Av.nil _ _))) S2.dev ho0 ho1 S2.dlo ht2 hk0 hk1 hcnt (by omega) hl0 hl16 (rise_puts D HW.out.buf.2.nodup) (putsL_in D HW.out.bk) (by rw [hpl]; exact hroom) (by rw [hpl]; exact hpos) h6
  have HWr := Lib.hid hwr
  have q5 : w1.cell? ⟨d.P, 5, none⟩ = some (.pointer (some ⟨d.M, 0, none⟩)) := cell_is S1.store 5 rfl
  have HS2 := Lib.hid S2
  have HW2 := Lib.hid W2
  have HC2 := Lib.hid c2
  have Hpl := Lib.hid hpl
  clear hwr S1 S2 W1 W2 c1 c2 ht1 ht2 hm1 k1 ka hS avM nmM hroom hpos hl0 hl16 HB HD hpl hk0
  go_wp2_with fail
  generalize w1.alloc (.cells #[.int .i64 (s.num + 1), .slice (some ⟨gt, 0, none⟩) 1 ct] 102) = w2 at *
  refine HWr.out.mono ?_
  rintro e w3 ⟨rfl, k3, hP3, v6, hd3⟩
  have S2 := HS2.out
  have tp := S2.wtp.1
  have S3x : Mx w3 d.M d.X d.rx d.B d.rb d.r { s with out := 1 } := S2.mx.keepA k3 (tp.av (by decide)) (tp.map S2.mx.ver.m) (tp.map S2.mx.book.2) (tp.map S2.mx.map)
  have slot3 := k3.heap S2.slot ((tp.av (ts' := [196]) (by decide)).ne S2.slot (by simp))
  have text3 := S2.text.keep k3 (tp.av (by decide))
  have W3 := HW2.out.keepA k3 (tp.av (by decide)) (tp.map HW2.out.buf.2)
  have c3 := HC2.out.trans (Cs.of_tp k3 tp (by decide) S2.wtp.2)
  obtain ⟨cs, hq1, hq2⟩ := W3.q
  have hdn := tdone_ok w3 S3x (show ({ s with out := 1 } : Gs).qv = _ from W3.qv) W3.cq rfl (cell_is hq1 0 hq2) W3.tab W3.tx W3.buf W3.bd W3.bk W3.len0 W3.len S2.ap S2.keys (Nat.le_trans S2.slo k3.size) hlast (by omega) hs W3.book hn0 (by show s.num ≤ _; omega)
  have HDn := Lib.hid hdn
  have r5 : w3.cell? ⟨d.P, 5, none⟩ = some (.pointer (some ⟨d.M, 0, none⟩)) := cell_is hP3 5 rfl
  have HS3 := Lib.hid (And.intro S3x (And.intro slot3 (And.intro text3 (And.intro hP3 hd3))))
  have HW3 := Lib.hid W3
  have HC3 := Lib.hid c3
  clear hdn S2 tp S3x slot3 text3 hP3 hd3 W3 c3 hq1 hq2 k3 HWr HC2 HW2 q5
  go_wp2_with fail
  refine HDn.out.mono ?_
  rintro e w4 ⟨rfl, z, ⟨⟨Lv', hx4, hap4, hk4⟩, hcd, -⟩, o4⟩
  have hF : FlushR w w4 lw d s g k hdl (putsL L D) := by
    obtain ⟨hx3, slot3, text3, hP3, hd3⟩ := HS3.out
    have c4 := HC3.out.trans (Cs.of_cd hcd hx3.mgr HW3.out.tx hx3.ver.x hx3.book.2 hx3.ver.m (by
      have := HS.out.bnd
      exact ⟨this.2.2.2.2.2.2.2.2.2.1, this.2.2.2.1, hT, this.2.2.2.2.2.2.2.1, this.2.2.2.2.1, this.2.2.2.2.2.1⟩))
    obtain ⟨U, kU, hU⟩ := hcd
    have av : ∀ ts : List Nat, (∀ t ∈ ts, t ∉ [180, 173, 260, 267]) → Av w3 U ts := fun ts hts => Cd.av hU hx3.mgr HW3.out.tx hx3.ver.x hx3.book.2 hx3.ver.m hts
    refine ⟨z, Lv', v6, ⟨?_, kU.heap slot3 ((av [196] (by decide)).ne slot3 (by simp)), text3.keep kU (av _ (by decide)), hd3.keep kU (av _ (by decide)), hx4, hap4, hk4, HS.out.bnd, HS.out.bndZ, Nat.le_trans HS.out.slo c4.size, HS.out.dlo⟩, c4, ownsRow_low o4 (Nat.le_trans hlw HC3.out.size)⟩
    exact kU.heap hP3 ((av [99] (by decide)).ne hP3 (by simp))
  have HF := Lib.hid hF
  clear hF hx4 hap4 hk4 hcd o4 HDn HS3 HW3 HC3 r5
  go_wp2_with fail
  go_ret
  exact ⟨rfl, HF.out⟩
end Go.Proofs.YtfodeeejolkkfaaGreat
namespace Go.Proofs.YtfodeeejolkkfaaGreat
open Go.RowKit Go.Lib

theorem getL_of_mem {L : List (Int × Value)} (hn : (L.map Prod.fst).Nodup) {p : Int × Value} (hp : p ∈ L) : getL L p.1 = some p.2 := by
  induction L with
  | nil => cases hp
  | cons a l ih =>
    rw [List.map_cons, List.nodup_cons] at hn
    simp only [getL]
    rcases List.mem_cons.1 hp with rfl | h
    · rw [if_pos rfl]
    · rw [if_neg (fun e => hn.1 (by rw [← e]; exact List.mem_map.2 ⟨p, h, rfl⟩))]
      exact ih hn.2 h
/-- a map's entries, one by one. -/
theorem MapAt.entries {w : World} {r : Nat} {L : List (Int × Value)} (h : MapAt w r L) : ∃ es clock, w.heap[r]? = some (.map es clock) ∧ MapKept.Stamped es clock ∧ ∀ e ∈ es.toList, ∃ k, e.key = .int .i64 k ∧ (k, e.val) ∈ L ∧ getL L k = some e.val := by
  have hn := h.nodup
  obtain ⟨es, clock, hb, hI, hS⟩ := h
  refine ⟨es, clock, hb, hS, fun e he => ?_⟩
  have h1 : (e.key, e.val) ∈ es.toList.map (fun e => (e.key, e.val)) := List.mem_map.2 ⟨e, he, rfl⟩
  rw [hI] at h1
  obtain ⟨p, hp, e1⟩ := List.mem_map.1 h1
  have e2 : e.key = .int .i64 p.1 := (congrArg Prod.fst e1).symm
  have e3 : e.val = p.2 := (congrArg Prod.snd e1).symm
  exact ⟨p.1, e2, by rw [e3]; exact hp, by rw [e3]; exact getL_of_mem hn hp⟩
/-- all versions are no newer than a time; the map's keys are blocks. -/
def OldV (L : List (Int × Value)) (vs : Int → List (Int × List UInt8)) (t : Int) : Prop := (∀ p ∈ L, 0 ≤ p.1 ∧ p.1 < 258) ∧ ∀ b, ∀ x ∈ vs b, x.1 ≤ t
set_option maxRecDepth 100000 in
set_option maxHeartbeats 1000000 in
theorem written_old (w : World) {lo X rx : Nat} {last : Int} {L : List (Int × Value)} {vs : Int → List (Int × List UInt8)} (h : VerG w lo X rx last L vs) (b n t : Int) (ho : OldV L vs t) : Calls Tryz.prog 195 #[.pointer (some ⟨X, 0, none⟩), .agg #[.int .i64 b, .int .i64 n], .int .i64 t] w fun e w' => e = .returned (.bool false) ∧ Chg [] w w' := by
  have kA : Chg [] w (w.alloc (.cells #[.int .i64 b, .int .i64 n] 117)) := Chg.alloc w _
  have A0 := heap_new w (.cells #[.int .i64 b, .int .i64 n] 117)
  have h2 := h.keep kA
  have x0 : (w.alloc (.cells #[.int .i64 b, .int .i64 n] 117)).cell? ⟨X, 0, none⟩ = some (.int .i64 258) := cell_is h2.x 0 rfl
  have x1 : (w.alloc (.cells #[.int .i64 b, .int .i64 n] 117)).cell? ⟨X, 1, none⟩ = some (.map (some rx)) := cell_is h2.x 1 rfl
  have a0 : (w.alloc (.cells #[.int .i64 b, .int .i64 n] 117)).cell? ⟨w.heap.size, 0, none⟩ = some (.int .i64 b) := cell_is A0 0 rfl
  have a1 : (w.alloc (.cells #[.int .i64 b, .int .i64 n] 117)).cell? ⟨w.heap.size, 1, none⟩ = some (.int .i64 n) := cell_is A0 1 rfl
  have HG := Lib.hid (xgone_any _ x0)
  have H2 := Lib.hid h2
  clear h h2 A0
  go_enter Tryz.func195, Tryz.ntmps195
  go_upto_region 1 with fail
  generalize w.alloc (.cells #[.int .i64 b, .int .i64 n] 117) = w1 at *
  generalize hz : w.heap.size = z at *
  go_cut [38] from 7 (fun v wx => (∃ r : Bool, v = .bool r) ∧ wx = w1)
  case first =>
    go_wp2_with fail
    refine HG.out.mono ?_
    rintro e w2 ⟨rfl, rfl⟩
    go_wp2_with fail
    all_goals
      go_meet
      exact ⟨⟨_, rfl⟩, rfl⟩
  case rest =>
    obtain ⟨⟨r, rfl⟩, rfl⟩ := hcut
    rename World => wd
    cases r
    · obtain ⟨es, clock, hm, hst, hen⟩ := H2.out.m.entries
      have hr1 := run_range_map (P := Tryz.prog) wd 258 3 265 rx es clock (by kernel_rfl) hm
      have HE := Lib.hid hen
      have HO := Lib.hid ho
      clear hen ho
      have kR : Chg [] wd (wd.alloc (.mapIter (some rx) clock #[] clock)) := Chg.alloc wd _
      have R0 := heap_new wd (.mapIter (some rx) clock #[] clock)
      go_wp2_with fail
      generalize hzR : wd.heap.size = R at *
      generalize wd.alloc (.mapIter (some rx) clock #[] clock) = w3 at *
      go_loopw [7, 8] (fun _ _ wr => ∃ seen, wr.heap[R]? = some (.mapIter (some rx) clock seen clock) ∧ Chg [] wd wr) (fun _ _ wr => (leftOf es (wr.iterSeen R)).size)
      case atStart => exact ⟨#[], R0, kR⟩
      case round =>
        obtain ⟨seen, hR, kr⟩ := hrel
        have hb1 : wr.heap[rx]? = some (.map es clock) := kr.heap hm (by simp)
        rcases run_next_at (P := Tryz.prog) wr 0 R rx clock clock seen es clock hR hb1 hst.1 (Nat.le_refl _) with ⟨h0, hrun⟩ | ⟨e, he, w2, hal2, hrun⟩
        · have hnx : ∀ ty, (Instr.next (.pointer (some ⟨R, 0, none⟩)) false ty).run Tryz.prog wr = _ := fun _ => hrun
          have kF : Chg [] w wr := kA.then kr
          go_wp2_with fail
          go_ret
          exact ⟨rfl, kF⟩
        · obtain ⟨k, hk, hL, hget⟩ := HE.out e (mem_left he).1
          obtain ⟨hk0, hk1⟩ := HO.out.1 _ hL
          have hk0' : 0 ≤ k := hk0
          have hk1' : k < 258 := hk1
          obtain ⟨v, hv, hrow, hne⟩ : ∃ v, e.val = v ∧ VRow wd lo v (vs k) ∧ vs k ≠ [] := by
            rcases H2.out.row k hk0' hk1' with ⟨e1, _⟩ | ⟨v, e1, e2, e3⟩
            · rw [hget] at e1; cases e1
            · rw [hget] at e1; cases e1; exact ⟨_, rfl, e2, e3⟩
          have h5 : ∃ w5, w5 = Go.ChangeMaps.setBlock w2 R (.mapIter (some rx) clock (seen.push e.born) clock) ∧ w5.heap[R]? = some (.mapIter (some rx) clock (seen.push e.born) clock) ∧ Chg [] wd w5 := by
            refine ⟨_, rfl, ?_, ?_⟩
            · have hl : R < w2.heap.size := by rcases hal2 with rfl | rfl <;> exact heap_lt hR
              simp [Go.ChangeMaps.setBlock, hl]
            · have kk : Chg [] wd w2 := by rcases hal2 with e | e <;> rw [e]; exact kr; exact kr.drew
              refine kk.trans (T := [R]) ⟨rfl, rfl, rfl, by simp [Go.ChangeMaps.setBlock], fun q _ hq => ?_⟩ (fun x hx hlt => by rw [List.mem_singleton] at hx; omega)
              have : R ≠ q := by intro e; exact hq (by rw [e]; simp)
              simp [Go.ChangeMaps.setBlock, this]
          obtain ⟨w5, e5, hR5, k5⟩ := h5
          rw [← e5] at hrun
          have hen := run_entry_at (P := Tryz.prog) w5 R rx clock seen es clock e hR5 (k5.heap hm (by simp)) (mem_left he).1 hst.2.1
          have HM := Lib.hid (left_shrinks es seen e he)
          obtain ⟨j, hj⟩ : ∃ j, (vs k).length = j + 1 := ⟨(vs k).length - 1, by have := List.length_pos_iff.2 hne; omega⟩
          obtain ⟨g, cap, gd, cd, rfl, hcap, d0, -, -, -, -⟩ := hrow.get j (by omega)
          have hsm := H2.out.small k
          have hold : ((vs k)[j]'(by omega)).1 ≤ t := HO.out.2 k _ (List.getElem_mem _)
          have d5 := k5.cell d0 (by simp)
          have y0 := k5.cell a0 (by simp)
          have y1 := k5.cell a1 (by simp)
          rw [hk, hv, hj] at hrun hen
          rw [hj] at hcap
          have kz : Chg [] w w5 := kA.then k5
          have hnx : ∀ ty, (Instr.next (.pointer (some ⟨R, 0, none⟩)) false ty).run Tryz.prog wr = _ := fun _ => hrun
          clear d0 hrow hL hget hk hv hne hal2 kr hb1 hrun e5
          generalize ((vs k)[j]'(by omega)).1 = tl at *
          go_upto_region 6 with fail
          have ej : wrap64 (((j + 1 : Nat) : Int) - 1) = j := by unfold wrap64; omega
          go_cut [72] from 44 (fun v wx => v = .bool false ∧ wx = w5)
          case first =>
            have hl1 : j < j + 1 := by omega
            have htl : decide (tl > t) = false := decide_eq_false (by omega)
            go_wp2_with fail
            all_goals
              go_meet
              exact ⟨by simp, rfl⟩
          case rest =>
            obtain ⟨rfl, rfl⟩ := hcut
            go_wp2_with fail
            go_roundw
            case rel => exact ⟨_, hR5, k5⟩
            case measure => simp only [World.iterSeen, hR5, hR]; exact HM.out
    · go_wp2_with fail
      go_ret
      exact ⟨rfl, kA⟩
end Go.Proofs.YtfodeeejolkkfaaGreat
namespace Go.Proofs.YtfodeeejolkkfaaGreat
open Go.RowKit Go.Lib

set_option maxRecDepth 100000 in
set_option maxHeartbeats 4000000 in
theorem check_old (w : World) {lo X rx lo1 U1 m1 n1 lo2 U2 m2 n2 cq : Nat} {pq : Option Addr} {last t : Int} {Lv : List (Int × Value)} {vs : Int → List (Int × List UInt8)} (h : VerG w lo X rx last Lv vs) (ho : OldV Lv vs t) (hr : SpW w lo1 U1 m1 n1) (hw : SpW w lo2 U2 m2 n2) (hn1 : n1 ≤ 1000) (hn2 : n2 ≤ 1000) :
    Calls Tryz.prog 155 #[.pointer (some ⟨X, 0, none⟩), .slice pq 0 cq, .int .i64 t, .pointer (some ⟨U1, 0, none⟩), .pointer (some ⟨U2, 0, none⟩)] w fun e w' => e = .returned (.int .i64 0) ∧ Chg [] w w' := by
  have HC := Lib.hid (count_any w hw hn2)
  have HV := Lib.hid h
  have HOl := Lib.hid ho
  have HR := Lib.hid hr
  have HW := Lib.hid hw
  clear h ho hr hw
  go_enter Tryz.func155, Tryz.ntmps155
  go_wp2_with fail
  go_step3
  go_wp2_with fail
  refine HC.out.mono ?_
  rintro e w1 ⟨⟨r, rfl⟩, k1⟩
  by_cases hr0 : r = 0
  · subst hr0
    go_wp2_with fail
    simp only [Exit.noGoto]
    go_ret
    exact ⟨rfl, k1⟩
  · go_wp2_with fail
    go_step3
    go_wp2_with fail
    have hrb : (r == 0) = false := by simpa using hr0
    rw [hrb]
    have hi0 : ∀ w, (Instr.index 299 (.agg #[.pointer (some ⟨U1, 0, none⟩), .pointer (some ⟨U2, 0, none⟩)]) (.int .i64 ((0 : Nat) : Int))).run Tryz.prog w = .ok (.pointer (some ⟨U1, 0, none⟩)) w := fun w => by kernel_rfl
    have hi1 : ∀ w, (Instr.index 299 (.agg #[.pointer (some ⟨U1, 0, none⟩), .pointer (some ⟨U2, 0, none⟩)]) (.int .i64 ((1 : Nat) : Int))).run Tryz.prog w = .ok (.pointer (some ⟨U2, 0, none⟩)) w := fun w => by kernel_rfl
    go_loopw [11, 13, 15, 17, 24] (fun e _ _ _ i wr => ∃ j : Nat, j ≤ 2 ∧ i = .int .i64 j ∧ e = .int .i64 0 ∧ Chg [] w1 wr) (fun _ _ _ _ i _ => 2 - (intOf i).toNat)
    case atStart => exact ⟨0, by omega, rfl, rfl, Chg.refl _ _⟩
    case round =>
      obtain ⟨j, hj, rfl, rfl, kr⟩ := hrel
      by_cases hj2 : j < 2
      · obtain ⟨U, lo3, m3, n3, hi, hS, hn3⟩ : ∃ U lo3 m3 n3, (∀ w, (Instr.index 299 (.agg #[.pointer (some ⟨U1, 0, none⟩), .pointer (some ⟨U2, 0, none⟩)]) (.int .i64 (j : Int))).run Tryz.prog w = .ok (.pointer (some ⟨U, 0, none⟩)) w) ∧ SpW wr lo3 U m3 n3 ∧ n3 ≤ 1000 := by
          have kk := k1.then kr
          rcases (show j = 0 ∨ j = 1 by omega) with rfl | rfl
          · exact ⟨U1, _, _, _, hi0, HR.out.keep0 kk, hn1⟩
          · exact ⟨U2, _, _, _, hi1, HW.out.keep0 kk, hn2⟩
        have HE := Lib.hid (extents_any wr hS hn3)
        clear hi0 hi1 hS
        go_wp2_with fail
        refine HE.out.mono ?_
        rintro e w2 ⟨pb, m, cb, l, rfl, k2, hq, hl, hm⟩
        have HQ := Lib.hid hq
        clear hq
        go_wp2_with fail
        go_loopw [11, 15, 30] (fun e _ i wz => ∃ q : Nat, q ≤ m ∧ i = .int .i64 q ∧ e = .int .i64 0 ∧ Chg [] w2 wz) (fun _ _ i _ => m - (intOf i).toNat)
        case atStart => exact ⟨0, by omega, rfl, rfl, Chg.refl _ _⟩
        case round =>
          obtain ⟨q, hq, rfl, rfl, kz⟩ := hrel
          rename World => wz
          have kk : Chg [] w1 wz := (kr.then k2).then kz
          by_cases hqm : q < m
          · obtain ⟨b, o, rfl, c0, c1⟩ := (HQ.out.keep kz).get q (by omega)
            generalize (l[q]'(by omega)).1 = x at *
            generalize (l[q]'(by omega)).2 = y at *
            have ka : Chg [] wz (wz.alloc (.cells #[.int .i64 x, .int .i64 y] 117)) := Chg.alloc wz _
            have HWr := Lib.hid (written_old (wz.alloc (.cells #[.int .i64 x, .int .i64 y] 117)) (HV.out.keep ((k1.then kk).then ka)) x y t HOl.out)
            go_wp2_with fail
            refine HWr.out.mono ?_
            rintro e w5 ⟨rfl, k5⟩
            go_wp2_with fail
            go_roundw
            case rel => exact ⟨q + 1, by omega, by simp, rfl, (kz.then ka).then k5⟩
            case measure => simp [intOf]; omega
          · obtain rfl : q = m := by omega
            go_wp2_with fail
            go_loopw [11, 17, 41] (fun e _ i wy => i = .int .i64 0 ∧ e = .int .i64 0 ∧ wy = wz) (fun _ _ _ _ => 0)
            case atStart => exact ⟨rfl, rfl, rfl⟩
            case round =>
              obtain ⟨rfl, rfl, rfl⟩ := hrel
              go_wp2_with fail
              go_roundw
              case rel => exact ⟨j + 1, by omega, by simp, rfl, kk⟩
              case measure => simp [intOf]; omega
      · obtain rfl : j = 2 := by omega
        go_wp2_with fail
        simp only [Exit.noGoto]
        go_ret
        exact ⟨rfl, k1.then kr⟩
set_option maxRecDepth 100000 in
set_option maxHeartbeats 4000000 in
theorem may_old (w : World) {M X B r cq lo rx T W rw Q V n base : Nat} {pq : Option Addr} {out num bas last given lastv t : Int} {Lv : List (Int × Value)} {vs : Int → List (Int × List UInt8)} {L : List (Int × Value)} {D : Int → List UInt8}
    (h : MgrG w M X B r (.slice pq 0 cq) out num bas last given false) (hg : given < 1099511627776) (hv : VerG w lo X rx lastv Lv vs) (ho : OldV Lv vs t) (hT : TxT w T W Q t) (hb : BufAt w W rw L) (hD : BufD w L D) (hk : ∀ x ∈ L, 0 ≤ x.1 ∧ x.1 < 258) (hl : L.length ≤ 12)
    (hV : VwT w base Q X W V t n) (hS : SpV w base V n) (hn : n ≤ 12) : Calls Tryz.prog 97 #[.pointer (some ⟨M, 0, none⟩), .pointer (some ⟨T, 0, none⟩)] w fun e w' => e = .returned (.int .i64 0) ∧ Chg [] w w' := by
  have m9 : w.cell? ⟨M, 9, none⟩ = some (.bool false) := cell_is h 9 rfl
  have m0 : w.cell? ⟨M, 0, none⟩ = some (.pointer (some ⟨X, 0, none⟩)) := cell_is h 0 rfl
  have m8 : w.cell? ⟨M, 8, none⟩ = some (.int .i64 given) := cell_is h 8 rfl
  have t3 : w.cell? ⟨T, 3, none⟩ = some (.int .i64 t) := cell_is hT 3 rfl
  have t4 : w.cell? ⟨T, 4, none⟩ = some (.pointer (some ⟨W, 0, none⟩)) := cell_is hT 4 rfl
  have t5 : w.cell? ⟨T, 5, none⟩ = some (.pointer (some ⟨Q, 0, none⟩)) := cell_is hT 5 rfl
  have kd : Chg [] w w.drew := (Chg.refl [] w).drew
  have HW := Lib.hid (waiting_none w.drew (kd.heap h (by simp)))
  have HV := Lib.hid (vset_any w.drew (hV.keep kd (Av.nil _ _)) (hS.keep0 kd) hn)
  have hS2 : ∀ wx, Chg [] w wx → wx.cell? ⟨M, 0, none⟩ = some (.pointer (some ⟨X, 0, none⟩)) ∧ wx.cell? ⟨T, 3, none⟩ = some (.int .i64 t) ∧ wx.cell? ⟨T, 4, none⟩ = some (.pointer (some ⟨W, 0, none⟩)) ∧ wx.cell? ⟨T, 5, none⟩ = some (.pointer (some ⟨Q, 0, none⟩)) :=
    fun wx k => ⟨k.cell m0 (by simp), k.cell t3 (by simp), k.cell t4 (by simp), k.cell t5 (by simp)⟩
  have HS2 := Lib.hid hS2
  have HBf := Lib.hid hb
  have HD := Lib.hid hD
  have HK := Lib.hid hk
  have HVr := Lib.hid hv
  have HOl := Lib.hid ho
  clear h hT hb hD hk hV hS hv ho hS2
  go_enter Tryz.func97, Tryz.ntmps97
  go_upto_region 3 with fail
  go_region_held3 (fun wx => wx.cell? ⟨M, 0, none⟩ = some (.pointer (some ⟨X, 0, none⟩)) ∧ wx.cell? ⟨T, 3, none⟩ = some (.int .i64 t) ∧ wx.cell? ⟨T, 4, none⟩ = some (.pointer (some ⟨W, 0, none⟩)) ∧ wx.cell? ⟨T, 5, none⟩ = some (.pointer (some ⟨Q, 0, none⟩)))
    (first
      | (with_reducible exact HS2.out _ kF) | (with_reducible exact HS2.out _ k3) | (with_reducible exact HS2.out _ k2) | (exact HS2.out _ kd))
    (first
      | (go_at_call 99; refine HW.out.mono ?_; rintro e w1 ⟨rfl, rfl⟩)
      | (go_at_call 156; refine HV.out.mono ?_; rintro e w2 ⟨U, loU, rfl, k2', hU, lU⟩; have k2 := kd.then k2')
      | (go_at_call 157; refine (bset_any w2 (HBf.out.keep k2 (by simp) (by simp)) (HD.out.keep k2) HK.out hl).mono ?_; rintro e w3 ⟨U2, loU2, most, rfl, k3', hU2, lU2⟩; have k3 := k2.then k3'; have hU3 := hU.keep0 k3')
      | (go_at_call 155; refine (check_old w3 (HVr.out.keep k3) HOl.out hU3 hU2 (by omega) (by omega)).mono ?_; rintro e w4 ⟨rfl, k4⟩; have kF := k3.then k4))
  all_goals
    have m84 := kF.cell m8 (by simp)
    have hng : ¬ (given ≥ 1099511627776) := by omega
    clear HW HV HS2 HBf HD HK HVr HOl hU hU2 hU3
    go_wp2_with fail
    go_ret
    exact ⟨rfl, kF⟩
set_option maxRecDepth 100000 in
set_option maxHeartbeats 4000000 in
theorem tcommit_old (w : World) {d : Ids} {p : Par} {cq n base loq : Nat} {pq : Option Addr} {out num bas last given : Int} {L : List (Int × Value)} {D : Int → List UInt8}
    (hN : Need w d p) (hv0 : OldV p.Lv p.vs p.t) (h : MgrG w d.M d.X d.B d.r (.slice pq 0 cq) out num bas last given false) (hg0 : 0 ≤ given) (hg : given < 1099511627776) (hq : w.ownsRow loq 3 1 (.slice pq 0 cq) 0 []) (hlq : loq ≤ w.heap.size) (hT : TxT w d.T d.W d.Q p.t) (hb : BufAt w d.W d.rw L) (hD : BufD w L D) (hk : ∀ x ∈ L, 0 ≤ x.1 ∧ x.1 < 258) (hl : L.length ≤ 12) (hl0 : 0 < L.length)
    (hV : VwT w base d.Q d.X d.W d.V p.t n) (hS : SpV w base d.V n) (hn : n ≤ 12) : Calls Tryz.prog 54 #[.pointer (some ⟨d.M, 0, none⟩), .int .i64 p.h] w fun e w' =>
    ∃ g c, e = .returned (.int .i64 0) ∧ Chg (d.M :: d.T :: (Value.slice pq 0 cq).ownBlock.toList) w w' ∧ MgrG w' d.M d.X d.B d.r (.slice (some ⟨g, 0, none⟩) 1 c) out num bas last (given + 1) false ∧ w'.ownsRow loq 3 1 (.slice (some ⟨g, 0, none⟩) 1 c) 1 [.int .i64 p.h] ∧ TxW w' d.T d.W d.Q (given + 1) p.t := by
  have HO := Lib.hid (topen_gen w hN hT)
  have t4 : w.cell? ⟨d.T, 4, none⟩ = some (.pointer (some ⟨d.W, 0, none⟩)) := cell_is hT 4 rfl
  have HLn := Lib.hid (blen_any w hb hD hk (by omega))
  have hver := hN.ver
  have HMy := Lib.hid (fun w1 (k : Chg [] w w1) => may_old w1 (k.heap h (by simp)) hg (hver.keep k) hv0 (k.heap hT (by simp)) (hb.keep k (by simp) (by simp)) (hD.keep k) hk hl (hV.keep k (Av.nil _ _)) (hS.keep0 k) hn)
  have hMT : d.M ≠ d.T := heap_ne h hT (by simp)
  have HM := Lib.hid h
  have HT := Lib.hid hT
  have HQ := Lib.hid hq
  have hl0i : ¬ (L.length : Int) = 0 := by omega
  have HL0 := Lib.hid hl0i
  clear hN hb hD hV hS hver h hT hq
  go_enter Tryz.func54, Tryz.ntmps54
  go_wp2_with fail
  refine HO.out.mono ?_
  rintro e w1 ⟨rfl, rfl⟩
  go_wp2_with fail
  refine HLn.out.mono ?_
  rintro e w1 ⟨rfl, k1⟩
  go_wp2_with fail
  refine (HMy.out w1 k1).mono ?_
  rintro e w2 ⟨rfl, k2'⟩
  have k2 := k1.then k2'
  have hM2 := k2.heap HM.out (by simp)
  have hT2 := k2.heap HT.out (by simp)
  have hq2 := ownsRow_av HQ.out k2 (Av.nil _ _)
  have hs2 := k2.size
  have m8 : w2.cell? ⟨d.M, 8, none⟩ = some (.int .i64 given) := cell_is hM2 8 rfl
  have f8 := unfrozen hM2 8
  have m3 : w2.cell? ⟨d.M, 3, none⟩ = some (.slice pq 0 cq) := cell_is hM2 3 rfl
  have f3 := unfrozen hM2 3
  have t0 : w2.cell? ⟨d.T, 0, none⟩ = some (.int .i64 1) := cell_is hT2 0 rfl
  have t1 : w2.cell? ⟨d.T, 1, none⟩ = some (.int .i64 0) := cell_is hT2 1 rfl
  have ft0 := unfrozen hT2 0
  have ft1 := unfrozen hT2 1
  have hgw : wrap64 (given + 1) = given + 1 := by unfold wrap64; omega
  have kS := ((((Chg.refl [] w2).mono (T := [d.M, d.T]) (fun x hx _ => by cases hx)).then_set (g := d.M) (fun _ => by simp) 8 (.int .i64 (given + 1))).then_set (g := d.T) (fun _ => by simp) 0 (.int .i64 2)).then_set (g := d.T) (fun _ => by simp) 1 (.int .i64 (given + 1))
  have hMS : MgrG (((w2.setCell ⟨d.M, 8, none⟩ (.int .i64 (given + 1))).setCell ⟨d.T, 0, none⟩ (.int .i64 2)).setCell ⟨d.T, 1, none⟩ (.int .i64 (given + 1))) d.M d.X d.B d.r (.slice pq 0 cq) out num bas last (given + 1) false :=
    heap_set_ne (heap_set_ne (heap_set hM2 8 _ rfl) hMT _ _) hMT _ _
  have hTS : TxW (((w2.setCell ⟨d.M, 8, none⟩ (.int .i64 (given + 1))).setCell ⟨d.T, 0, none⟩ (.int .i64 2)).setCell ⟨d.T, 1, none⟩ (.int .i64 (given + 1))) d.T d.W d.Q (given + 1) p.t :=
    heap_set (heap_set (heap_set_ne hT2 hMT.symm _ _) 0 _ rfl) 1 _ rfl
  have avS : Av w2 [d.M, d.T] [3] := fun x hx cs t fr hh => by
    simp at hx
    rcases hx with rfl | rfl
    · rw [show w2.heap[d.M]? = _ from hM2] at hh; cases hh; simp
    · rw [show w2.heap[d.T]? = _ from hT2] at hh; cases hh; simp
  have hqS := ownsRow_av hq2 kS avS
  clear HMy HLn HO k1 k2' t4
  go_upto_region 14 with fail
  have hsS : loq ≤ (((w2.setCell ⟨d.M, 8, none⟩ (.int .i64 (given + 1))).setCell ⟨d.T, 0, none⟩ (.int .i64 2)).setCell ⟨d.T, 1, none⟩ (.int .i64 (given + 1))).heap.size := by have := kS.size; omega
  clear m8 f8 m3 f3 t0 t1 ft0 ft1 avS hq2
  generalize ((w2.setCell ⟨d.M, 8, none⟩ (.int .i64 (given + 1))).setCell ⟨d.T, 0, none⟩ (.int .i64 2)).setCell ⟨d.T, 1, none⟩ (.int .i64 (given + 1)) = wS at *
  have m3 : wS.cell? ⟨d.M, 3, none⟩ = some (.slice pq 0 cq) := cell_is hMS 3 rfl
  go_wp2_with (at_builtin; refine wpList_append_lit rfl (.tmp 59) (.tmp 61) 62 3 rfl ty62 inf3 rfl (by decide) loq wS [.int .i64 p.h] 1 rfl (.slice pq 0 cq) 0 [] rfl hqS (by omega) (by decide) hsS (k := 0) rfl (by simp [Value.oneCell']) rfl 1 rfl ?_; intro v' w4 hap; obtain ⟨g4, c4, rfl⟩ := own_some hap.1 (by decide); have k4 : Chg (Value.slice pq 0 cq).ownBlock.toList wS w4 := Chg.own hap.2.2 (fun g hg _ => by have hg2 : (Value.slice pq 0 cq).ownBlock = some g := hg; simp [hg2]); have hM4 := k4.heap hMS (own_block_ne hqS hMS (by decide)); have m34 := cell_is hM4 3 rfl; have f34 := unfrozen hM4 3)
  have hT4 := k4.heap hTS (own_block_ne hqS hTS (by decide))
  have hset := Chg.set w4 d.M 3 (.slice (some ⟨g4, 0, none⟩) (0 + 1) c4)
  have hq4 := ownsRow_av hap.1 hset (Av.row hM4 (by decide))
  go_ret
  refine ⟨g4, c4, rfl, ?_, heap_set hM4 3 _ rfl, hq4, heap_set_ne hT4 hMT.symm _ _⟩
  refine (((k2.mono (fun x hx _ => by cases hx)).then (kS.mono ?_)).then (k4.mono ?_)).then (hset.mono ?_)
  · intro x hx _; simp only [List.mem_cons, List.not_mem_nil, or_false] at hx; rcases hx with rfl | rfl <;> simp
  · intro x hx _; exact List.mem_cons_of_mem _ (List.mem_cons_of_mem _ hx)
  · intro x hx _; rw [List.mem_singleton] at hx; subst hx; exact List.mem_cons_self
end Go.Proofs.YtfodeeejolkkfaaGreat
namespace Go.Proofs.YtfodeeejolkkfaaGreat
open Go.RowKit Go.Lib

/-- the manager behind a Begin. -/
def begS (s : Gs) (T : Nat) : Gs := { s with bl := s.bl + 1, Lb := [(s.bl + 1, .int .i64 s.last)], Lr := putL s.Lr (s.bl + 1) (.pointer (some ⟨T, 0, none⟩)) }
/-- a transaction that has begun. -/
def begP (s : Gs) : Par := ⟨s.bl + 1, s.last, s.lo, s.lastv, s.Lv, s.vs⟩
/-- a store about its transaction. -/
def StoF (lw : Nat) (d : Ids) (s : Gs) (g : Gd) (w : World) : Prop := Sto w lw d s g
theorem fr_sto {lw base : Nat} {d : Ids} {s : Gs} {g : Gd} {p : Par} (hl : d.rx < base ∧ d.rb < base ∧ d.r < base) (hg : getL s.Lr p.h = some (.pointer (some ⟨d.T, 0, none⟩))) (e1 : p.lo = s.lo) (e2 : p.last = s.lastv) (e3 : p.Lv = s.Lv) (e4 : p.vs = s.vs) : Fr base d p (StoF lw d s g) := by
  refine ⟨fun w h => ?_, fun a b ho h => ?_⟩
  · have h' : Sto w lw d s g := h
    exact ⟨cell_is h'.store 0 rfl, cell_is h'.store 5 rfl, cell_is h'.store 9 rfl, ⟨_, h'.dev.hdr⟩, h'.mx.cells.1, h'.mx.cells.2.2.1, ⟨_, h'.mx.map, hg⟩, by rw [e1, e2, e3, e4]; exact h'.mx.ver⟩
  · have h' : Sto a lw d s g := h
    obtain ⟨T, h1, h2⟩ := ho
    refine h'.keepA h1 (fun x hx cs t fr hh ht => ?_) (fun hm => ?_) (fun hm => ?_) (fun hm => ?_)
    · rcases (h2 x hx).2 cs t fr hh with rfl | rfl | rfl <;> simp at ht
    · have := (h2 _ hm).1; omega
    · have := (h2 _ hm).1; omega
    · have := (h2 _ hm).1; omega
/-- what a store's Begin leaves. -/
def BegT (w w' : World) (lw : Nat) (d : Ids) (s : Gs) (g : Gd) : Prop := ∃ T W rw Q V, Cs lw w w' ∧ w.heap.size ≤ T ∧
  Su w' w.heap.size { d with T := T, W := W, rw := rw, Q := Q, V := V } (begP s) (StoF lw { d with T := T, W := W, rw := rw, Q := Q, V := V } (begS s T) g) (fun b => bytT (s.vs b) s.last) [] 0
set_option maxRecDepth 100000 in
theorem sbegin_gen (w : World) {lw : Nat} {d : Ids} {s : Gs} {g : Gd} (h : Sto w lw d s g) (hLb : s.Lb = []) (h0 : 0 ≤ s.last) (h1 : s.last ≤ 1099511627776) (hb0 : 0 ≤ s.bl) (hb1 : s.bl ≤ 1000000) :
    Calls Tryz.prog 28 #[.pointer (some ⟨d.P, 0, none⟩)] w fun e w' => e = .returned (.tuple #[.int .i64 (s.bl + 1), .int .i64 0]) ∧ BegT w w' lw d s g := by
  have HD := Lib.hid (dead_g w h.store)
  have p5 : w.cell? ⟨d.P, 5, none⟩ = some (.pointer (some ⟨d.M, 0, none⟩)) := cell_is h.store 5 rfl
  have HB := Lib.hid (tbegin_gen w h.mx hLb h0 h1 hb0 hb1)
  have HS := Lib.hid h
  clear h hLb h0 h1 hb0 hb1
  go_enter Tryz.func28, Tryz.ntmps28
  go_wp2_with fail
  refine HD.out.mono ?_
  rintro e w1 ⟨rfl, rfl⟩
  go_wp2_with fail
  refine HB.out.mono ?_
  rintro e w1 ⟨rfl, T, W, rw, Q, V, k1, hx, hT, hb, hv, hs, n1, n2, n3, b1, b2, b3, b4, b5⟩
  have hF : BegT w w1 lw d s g := by
    have hS := HS.out
    have avB : Av w [d.B, d.rb, d.r] [99, 196, 5, 130, 131, 134, 23] := fun x hx cs t fr hh => by
      simp at hx
      rcases hx with rfl | rfl | rfl
      · rw [hS.mx.book.1] at hh; cases hh; simp
      · exact absurd rfl (map_cells hS.mx.book.2 hh)
      · exact absurd rfl (map_cells hS.mx.map hh)
    have sub : ∀ ts : List Nat, (∀ t ∈ ts, t ∈ [99, 196, 5, 130, 131, 134, 23]) → Av w [d.B, d.rb, d.r] ts := fun ts hts x hx cs t fr hh ht => avB x hx cs t fr hh (hts t ht)
    have hSto : Sto w1 lw { d with T := T, W := W, rw := rw, Q := Q, V := V } (begS s T) g :=
      ⟨k1.heap hS.store (avB.ne hS.store (by simp)), k1.heap hS.slot (avB.ne hS.slot (by simp)), hS.text.keep k1 (sub _ (by decide)), hS.dev.keep k1 (sub _ (by decide)), hx, hS.ap, hS.keys, hS.bnd, hS.bndZ, Nat.le_trans hS.slo k1.size, hS.dlo⟩
    refine ⟨T, W, rw, Q, V, ⟨[d.B, d.rb, d.r], k1, fun x hx _ => ?_⟩, b1, hSto, hT, hb, (fun x hx => by cases hx), fun b _ _ => Or.inl ⟨rfl, rfl⟩, ⟨_, 0, [], hv, Nat.le_refl _, World.ownsRow_nil _ _ _ _⟩, ⟨_, [], hs, Nat.le_refl _, World.ownsRow_nil _ _ _ _⟩, b4, b5, b3⟩
    have hbn := hS.bnd
    simp at hx
    rcases hx with rfl | rfl | rfl
    · exact ⟨by omega, fun cs t fr hh => by rw [hS.mx.book.1] at hh; cases hh; simp⟩
    · exact ⟨by omega, fun cs t fr hh => absurd rfl (map_cells hS.mx.book.2 hh)⟩
    · exact ⟨by omega, fun cs t fr hh => absurd rfl (map_cells hS.mx.map hh)⟩
  have HF := Lib.hid hF
  clear hF hx hT hb hv hs k1 b1 b2 b3 b4 b5 n1 n2 n3
  go_wp2_with fail
  go_ret2
  exact ⟨rfl, HF.out⟩
/-- a buffer's entries are what its transaction sees. -/
theorem Su.bufD {w : World} {base : Nat} {d : Ids} {p : Par} {F : World → Prop} {q : Int → List UInt8} {L : List (Int × Value)} {n : Nat} (h : Su w base d p F q L n) : BufD w L q := by
  intro k v hv
  have hk := h.keys (k, v) (getL_memk hv)
  rcases h.blk k hk.1 hk.2 with ⟨e, -⟩ | ⟨g, c, e, h1, h2, h3⟩
  · rw [e] at hv; cases hv
  · rw [e] at hv
    cases hv
    exact ⟨g, c, rfl, h1, h2, h3⟩
/-- the manager behind a Commit. -/
def comS (s : Gs) (g c : Nat) : Gs := { s with qv := .slice (some ⟨g, 0, none⟩) 1 c, given := s.given + 1 }
/-- what a Commit leaves. -/
def ComR (w w' : World) (lw : Nat) (d : Ids) (s : Gs) (g : Gd) (p : Par) (L : List (Int × Value)) (q : Int → List UInt8) (k : Nat) : Prop :=
  ∃ gq cq, Sto w' lw d (comS s gq cq) g ∧ Wtx w' d (comS s gq cq) gq cq p.h k p.t p.t L q ∧ Cs lw w w'
set_option maxRecDepth 100000 in
theorem scommit_sto (w : World) {lw base loq n k : Nat} {d : Ids} {s : Gs} {g : Gd} {p : Par} {q : Int → List UInt8} {L : List (Int × Value)} {pq : Option Addr} {cq : Nat} (hf : Fr base d p (StoF lw d s g)) (h : Su w base d p (StoF lw d s g) q L n) (hqv : s.qv = .slice pq 0 cq) (hq : w.ownsRow loq 3 1 (.slice pq 0 cq) 0 []) (hlq : loq ≤ w.heap.size) (hlw : lw ≤ loq)
    (hrd : s.rd = false) (ho : OldV p.Lv p.vs p.t) (hg : s.given + 1 = (k : Nat)) (hg1 : s.given < 1099511627776) (hg0 : 0 ≤ s.given) (hl : L.length ≤ 12) (hl0 : 0 < L.length) (hn : n ≤ 12) (htab : getL s.Lr p.h = some (.pointer (some ⟨d.T, 0, none⟩))) (hbook : getL s.Lb p.h = some (.int .i64 p.t)) (hT : lw ≤ d.T) :
    Calls Tryz.prog 26 #[.pointer (some ⟨d.P, 0, none⟩), .int .i64 p.h] w fun e w' => e = .returned (.int .i64 0) ∧ ComR w w' lw d s g p L q k := by
  have hS : Sto w lw d s g := h.env
  have hN := hf.need w h.env
  have hm := hS.mx.mgr
  rw [hqv, hrd] at hm
  refine scommit_one w hN ((tcommit_old w hN ho hm hg0 hg1 hq hlq h.tx h.buf h.bufD h.keys hl hl0 h.vw h.sp hn).mono ?_)
  rintro e w' ⟨gq, c, rfl, k1, hm', ho', hT'⟩
  refine ⟨rfl, gq, c, ?_⟩
  have tp : Tp w (d.M :: d.T :: (Value.slice pq 0 cq).ownBlock.toList) [180, 173, 3] := fun x hx => by
    simp only [List.mem_cons] at hx
    rcases hx with rfl | rfl | hx
    · exact ⟨_, _, hm, by simp⟩
    · exact ⟨_, _, h.tx, by simp⟩
    · obtain ⟨-, cs, hh⟩ := own_elem hq (show (Value.slice pq 0 cq).ownBlock = some x by simpa using hx)
      exact ⟨_, _, hh, by simp⟩
  have hbn := hS.bnd
  refine ⟨⟨k1.heap hS.store ((tp.av (ts' := [99]) (by decide)).ne hS.store (by simp)), k1.heap hS.slot ((tp.av (ts' := [196]) (by decide)).ne hS.slot (by simp)), hS.text.keep k1 (tp.av (by decide)), hS.dev.keep k1 (tp.av (by decide)),
    ⟨by show MgrG w' d.M d.X d.B d.r (.slice (some ⟨gq, 0, none⟩) 1 c) s.out s.num s.bas s.last (s.given + 1) s.rd; rw [hrd]; exact hm', hS.mx.ver.keepA k1 (tp.av (by decide)) (tp.map hS.mx.ver.m), ⟨k1.heap hS.mx.book.1 ((tp.av (ts' := [270]) (by decide)).ne hS.mx.book.1 (by simp)), hS.mx.book.2.keep k1 (tp.map hS.mx.book.2)⟩, hS.mx.map.keep k1 (tp.map hS.mx.map), hS.mx.n1, hS.mx.n2, hS.mx.n3⟩, hS.ap, hS.keys, hS.bnd, hS.bndZ, Nat.le_trans hS.slo k1.size, hS.dlo⟩, ?_, Cs.of_tp k1 tp (by decide) (fun x hx => ?_)⟩
  · refine ⟨rfl, ?_, ?_, htab, by rw [← hg]; exact hT', h.buf.keep k1 ((tp.av (ts' := [272]) (by decide)).ne h.buf.1 (by simp)) (tp.map h.buf.2), h.bufD.keepA k1 (tp.av (by decide)), h.keys, hl0, by omega, hbook⟩
    · obtain ⟨pz, cz', e, hle⟩ := own_form ho'
      cases e
      omega
    · rcases ho'.2 with ⟨e, h0⟩ | ⟨g', cap', cur', e, -, hh, -, -, -, ht⟩
      · omega
      · cases e
        refine ⟨_, hh, ?_⟩
        have := congrArg (fun l => l[0]?) ht
        simpa [List.getElem?_take] using this
  · simp only [List.mem_cons] at hx
    rcases hx with rfl | rfl | hx
    · omega
    · exact hT
    · have := (own_elem hq (show (Value.slice pq 0 cq).ownBlock = some x by simpa using hx)).1
      omega
end Go.Proofs.YtfodeeejolkkfaaGreat
namespace Go.Proofs.YtfodeeejolkkfaaGreat
open Go.RowKit Go.Lib

/-- a manager without transactions. -/
def s00 (lw : Nat) : Gs := ⟨.slice none 0 0, 0, 0, 0, 0, 0, false, lw, 0, [], fun _ => [], 0, [], []⟩
/-- an empty log on an empty device. -/
def g00 (lw : Nat) (ops : Int) : Gd := ⟨0, 0, 1, .slice none 0 0, 0, lw, ops, fun _ => .slice none 0 0, fun _ => 0, fun _ => []⟩
/-- the parts' places, without a transaction. -/
def d00 (N A c : Nat) (Z : List Nat) (P S M X rx B rb r : Nat) : Ids := ⟨P, N, S, M, X, rx, B, rb, r, A, c, Z, 0, 0, 0, 0, 0⟩
theorem Mk.sto {w wx : World} {lw N A c : Nat} {ops : Int} {Z : List Nat} {P S M X rx B rb r : Nat} (h : Mk w wx N A c ops Z P S M X rx B rb r) (hx : ExAt wx S N A Z) (n1 : rx ≠ rb) (n2 : r ≠ rb) (n3 : r ≠ rx) (hb : lw ≤ P ∧ lw ≤ N ∧ lw ≤ S ∧ lw ≤ M ∧ lw ≤ X ∧ lw ≤ rx ∧ lw ≤ B ∧ lw ≤ rb ∧ lw ≤ r) (hZ : ∀ z ∈ Z, lw ≤ z) (hl : lw ≤ wx.heap.size) :
    Sto wx lw (d00 N A c Z P S M X rx B rb r) (s00 lw) (g00 lw ops) := by
  obtain ⟨k2, hD2, hP2, hS2, hm2, hx2, hb2, hr2⟩ := h
  exact ⟨hP2, hS2, Or.inl rfl, hD2.full hx lw, ⟨hm2, hx2.full lw, hb2, hr2, n1, n2, n3⟩, fun b c v u g _ h => (by cases h), fun p hp => (by cases hp), ⟨hb.1, hb.2.1, hb.2.2.1, hb.2.2.2.1, hb.2.2.2.2.1, hb.2.2.2.2.2.1, hb.2.2.2.2.2.2.1, hb.2.2.2.2.2.2.2.1, hb.2.2.2.2.2.2.2.2, Nat.le_refl _, Nat.le_refl _⟩, hZ, hl, hb.2.1⟩
/-- a transaction's state is kept where other blocks change. -/
theorem Su.keepA {w w' : World} {U : List Nat} {base : Nat} {d : Ids} {p : Par} {F : World → Prop} {q : Int → List UInt8} {L : List (Int × Value)} {n : Nat} (h : Su w base d p F q L n) (hc : Chg U w w') (hU : Av w U [173, 272, 275, 285, 117, 312, 5]) (hr : d.rw ∉ U) (hF : F w') : Su w' base d p F q L n := by
  have sub : ∀ ts : List Nat, (∀ t ∈ ts, t ∈ [173, 272, 275, 285, 117, 312, 5]) → Av w U ts := fun ts hts x hx cs t fr hh ht => hU x hx cs t fr hh (hts t ht)
  refine ⟨hF, hc.heap h.tx (hU.ne h.tx (by simp)), h.buf.keep hc (hU.ne h.buf.1 (by simp)) hr, h.keys, fun b h0 h1 => ?_, h.vw.keep hc (sub _ (by decide)), h.sp.keep hc (sub _ (by decide)), h.high⟩
  rcases h.blk b h0 h1 with e | ⟨g, c, e1, e2, e3, e4⟩
  · exact Or.inl e
  · have hn : g ∉ U := Bt.av e4 hU (by simp)
    exact Or.inr ⟨g, c, e1, e2.chgT hc hn, e3, Bt.keep e4 hc hn⟩
/-- a world of law 26 that has begun its first transaction. -/
def FrS (lw : Nat) (w' : World) (P K G : Nat) (c : World → Prop) : Prop :=
  ∃ base d ops, d.P = P ∧ Sc w' base d (begP (s00 lw)) (StoF lw d (begS (s00 lw) d.T) (g00 lw ops)) f0 [] 0 ∧ (d.rx < base ∧ d.rb < base ∧ d.r < base) ∧ lw ≤ d.T ∧ lw ≤ base ∧ WdAt w' K P G 1 ∧ (0 ≤ ops ∧ ops ≤ 2) ∧ c w'
set_option maxRecDepth 100000 in
set_option maxHeartbeats 1000000 in
theorem wbegin3 (w : World) {lw N A c : Nat} {ops : Int} {Z : List Nat} {P S M X rx B rb r K G Y : Nat} (h : Sto w lw (d00 N A c Z P S M X rx B rb r) (s00 lw) (g00 lw ops)) (hG : RmAt w G Y (.slice none 0 0) (.slice none 0 0) (.slice none 0 0) 0) (hK : WdAt w K P G 0) (hb : lw ≤ G ∧ lw ≤ K) (hl : lw ≤ w.heap.size) (hops : 0 ≤ ops ∧ ops ≤ 2) :
    Calls Tryz.prog 45 #[.pointer (some ⟨K, 0, none⟩)] w fun e w' => e = .returned (.bool true) ∧ FrS lw w' P K G (fun w' => ∃ U, Chg U w w' ∧ ∀ x ∈ U, x < w.heap.size → lw ≤ x) := by
  have c0 : w.cell? ⟨K, 0, none⟩ = some (.pointer (some ⟨P, 0, none⟩)) := cell_is hK 0 rfl
  have HB : Hid (Calls Tryz.prog 28 #[.pointer (some ⟨P, 0, none⟩)] w fun e w' => e = .returned (.tuple #[.int .i64 1, .int .i64 0]) ∧ BegT w w' lw (d00 N A c Z P S M X rx B rb r) (s00 lw) (g00 lw ops)) :=
    Lib.hid (sbegin_gen w h rfl (show (0 : Int) ≤ 0 by decide) (show (0 : Int) ≤ 1099511627776 by decide) (show (0 : Int) ≤ 0 by decide) (show (0 : Int) ≤ 1000000 by decide))
  have hKG : K ≠ G := heap_ne hK hG (by simp)
  have HS := Lib.hid h
  clear h
  go_enter Tryz.func45, Tryz.ntmps45
  go_wp2_with fail
  refine HB.out.mono ?_
  rintro e w1 ⟨rfl, T, W, rw, Q, V, cs1, hT1, hSu⟩
  have hK1 : WdAt w1 K P G 0 := cs1.heap hK (by decide)
  have hG1 := cs1.heap hG (by decide)
  have c1 : w1.cell? ⟨K, 1, none⟩ = some (.pointer (some ⟨G, 0, none⟩)) := cell_is hK1 1 rfl
  have HSu := Lib.hid hSu
  clear hSu HB
  go_wp2_with fail
  refine (rbegin_one w1 hG1).mono ?_
  rintro e w2 ⟨rfl, k2⟩
  have hK2 : WdAt w2 K P G 0 := k2.heap hK1 (by simpa using hKG)
  have c2 : w2.cell? ⟨K, 2, none⟩ = some (.int .i64 0) := cell_is hK2 2 rfl
  have f2 := unfrozen hK2 2
  have k3 := Chg.set w2 K 2 (.int .i64 1)
  have hK3 : WdAt (w2.setCell ⟨K, 2, none⟩ (.int .i64 1)) K P G 1 := heap_set hK2 2 _ rfl
  have kk : Chg [G, K] w1 (w2.setCell ⟨K, 2, none⟩ (.int .i64 1)) := (k2.mono (fun x hx _ => by simp at hx; simp [hx])).then (k3.mono (fun x hx _ => by simp at hx; simp [hx]))
  have hF : FrS lw (w2.setCell ⟨K, 2, none⟩ (.int .i64 1)) P K G (fun w' => ∃ U, Chg U w w' ∧ ∀ x ∈ U, x < w.heap.size → lw ≤ x) := by
    have tp : Tp w1 [G, K] [163, 48] := fun x hx => by
      simp at hx
      rcases hx with rfl | rfl
      · exact ⟨_, _, hG1, by simp⟩
      · exact ⟨_, _, hK1, by simp⟩
    have hSu := HSu.out
    have hSto : Sto w1 lw { d00 N A c Z P S M X rx B rb r with T := T, W := W, rw := rw, Q := Q, V := V } (begS (s00 lw) T) (g00 lw ops) := hSu.env
    have hSto2 := hSto.keepA kk (tp.av (by decide)) (tp.map hSto.mx.ver.m) (tp.map hSto.mx.book.2) (tp.map hSto.mx.map)
    have h3 := hSu.keepA kk (tp.av (by decide)) (tp.map hSu.buf.2) hSto2
    have e0 : (fun b => bytT ((s00 lw).vs b) (s00 lw).last) = fun b => packB (f0 b) := by funext b; exact zero_pack.symm
    rw [e0] at h3
    obtain ⟨U, u1, u2⟩ := cs1
    have hs := HS.out.mx
    refine ⟨w.heap.size, _, ops, rfl, ⟨h3, f0_five⟩, ⟨hs.ver.m.lt, hs.book.2.lt, hs.map.lt⟩, Nat.le_trans hl hT1, hl, hK3, hops, U ++ [G, K], (u1.mono (fun x hx _ => List.mem_append_left _ hx)).trans kk (fun x hx _ => List.mem_append_right _ hx), fun x hx hlt => ?_⟩
    rcases List.mem_append.1 hx with hx | hx
    · exact (u2 x hx hlt).1
    · simp at hx
      rcases hx with rfl | rfl
      · exact hb.1
      · exact hb.2
  have HF := Lib.hid hF
  clear hF hG1 hK1 hK2 k2 k3 kk hK3 cs1 HSu HS hT1
  go_wp2_with fail
  go_ret
  exact ⟨rfl, HF.out⟩
/-- a new world of law 26. -/
def FrR3 (w : World) (e : Ending) (w' : World) : Prop :=
  ∃ P K G, e = .returned (.tuple #[.pointer (some ⟨K, 0, none⟩), .bool true]) ∧ FrS w.heap.size w' P K G (fun w' => Chg [] w w')
set_option maxRecDepth 100000 in
set_option maxHeartbeats 2000000 in
theorem fresh_any3 (w : World) : Calls Tryz.prog 16 #[] w (FrR3 w) := by
  have kg : Chg [] w (w.alloc (.cells #[.int .i64 8, .int .i64 96] 80)) := Chg.alloc w _
  have g0 := heap_new w (.cells #[.int .i64 8, .int .i64 96] 80)
  have a0 : (w.alloc (.cells #[.int .i64 8, .int .i64 96] 80)).cell? ⟨w.heap.size, 0, none⟩ = some (.int .i64 8) := cell_is g0 0 rfl
  have a1 : (w.alloc (.cells #[.int .i64 8, .int .i64 96] 80)).cell? ⟨w.heap.size, 1, none⟩ = some (.int .i64 96) := cell_is g0 1 rfl
  go_enter Tryz.func16, Tryz.ntmps16
  go_wp2_with fail
  generalize w.alloc (.cells #[.int .i64 8, .int .i64 96] 80) = w0 at *
  have hw0 := kg.size
  generalize hz0 : w.heap.size = z0 at *
  refine (new_any2 w0).mono ?_
  rintro e w1 ⟨N, A, c, Z, rfl, k1, hD, hO, lN, lA, lZ, hAx, hZn⟩
  have g1 := k1.heap g0 (by simp)
  have hs1 := k1.size
  have hAl := hD.A_lt
  have hNl := heap_lt hD.1
  have hZl : ∀ z ∈ Z, z < w1.heap.size := fun z hz => by
    obtain ⟨j, hj, e⟩ := List.getElem_of_mem hz
    rw [← e]
    exact heap_lt (hD.2.2.2.2 j hj)
  clear a0 a1
  go_wp2_with fail
  refine (mount_any w1 hD hO hZl (by omega) (by omega)).mono ?_
  rintro e w2 ⟨P, S, M, X, rx, B, rb, r, rfl, hM, lP, lS, lM, lX, lrx, lB, lrb, lr, n1, n2, n3⟩
  have h0l := heap_lt g0
  have k2 := hM.1
  have hX2 : ExAt w2 S N A Z := by
    obtain ⟨cs, hAx⟩ := hAx
    exact ⟨hM.2.2.2.1, ⟨cs, k2.heap hAx (by intro hm; rcases List.mem_cons.1 hm with e | hm; exact hO.1 e; exact hO.2.2 hm)⟩, hZn⟩
  have g2 := k2.heap g1 (by
    intro hm
    rcases List.mem_cons.1 hm with e | hm
    · omega
    · have := lZ _ hm; omega)
  have hs2 := k2.size
  have b0 : w2.cell? ⟨z0, 0, none⟩ = some (.int .i64 8) := cell_is g2 0 rfl
  have b1 : w2.cell? ⟨z0, 1, none⟩ = some (.int .i64 96) := cell_is g2 1 rfl
  have hSt := hM.sto (lw := z0) hX2 n1 n2 n3 (by omega) (fun z hz => by have := lZ z hz; omega) (by omega)
  have kk2 : Chg [] w w2 := (kg.then k1).trans k2 (fun x hx hlt => by
    rcases List.mem_cons.1 hx with e | hx
    · have := kg.size; omega
    · have := lZ x hx; have := kg.size; omega)
  clear hD hO hM hX2 k2 g1 g0 k1 kg
  go_wp2_with fail
  refine (rcap_min w2).mono ?_
  rintro e w3 ⟨rfl, k3⟩
  have h3 := hSt.keep k3
  have kk3 := kk2.then k3
  have hs3 := k3.size
  clear hSt b0 b1 g2
  go_wp2_with fail
  refine (rm_new w3).mono ?_
  rintro e w4 ⟨G, Y, rfl, k4, hG, lG⟩
  have h4 := h3.keep k4
  have kk4 := kk3.then k4
  have hs4 := k4.size
  clear h3
  go_wp2_with fail
  have k5 : Chg [] w4 (w4.alloc (.cells #[.pointer (some ⟨P, 0, none⟩), .pointer (some ⟨G, 0, none⟩), .int .i64 0] 48)) := Chg.alloc w4 _
  have hK := heap_new w4 (.cells #[.pointer (some ⟨P, 0, none⟩), .pointer (some ⟨G, 0, none⟩), .int .i64 0] 48)
  have h5 := h4.keep k5
  have hG5 := k5.heap hG (by simp)
  refine (wbegin3 _ h5 hG5 hK (by omega) (by have := k5.size; omega) (by omega)).mono ?_
  rintro e w6 ⟨rfl, base, d, ops, hP, hn, hlow, hdT, hbase, hw, hops, U, k6, hU⟩
  have hfin : Chg [] w w6 := (kk4.then k5).trans k6 (fun x hx hlt => by
    have := (kk4.then k5).size
    have := hU x hx (by omega)
    omega)
  have HF := Lib.hid (show FrS z0 w6 P w4.heap.size G (fun w' => Chg [] w w') from ⟨base, d, ops, hP, hn, hlow, hdT, hbase, hw, hops, hfin⟩)
  clear h4 h5 hG hG5 hK k5 k6 kk4 kk3 kk2 hn hlow hw hops hfin hU
  go_wp2_with fail
  go_ret2
  exact ⟨P, _, G, rfl, by rw [hz0]; exact HF.out⟩
end Go.Proofs.YtfodeeejolkkfaaGreat
namespace Go.Proofs.YtfodeeejolkkfaaGreat
open Go.RowKit Go.Lib

theorem Ow.chg0 {base : Nat} {w w1 w2 : World} (h : Chg [] w w1) (k : Ow base w1 w2) (hb : w.heap.size ≤ base) : Chg [] w w2 := by
  obtain ⟨T, h1, h2⟩ := k
  exact h.trans h1 (fun x hx hlt => by have := (h2 x hx).1; omega)
theorem WdAt.keep {base : Nat} {w w' : World} {K P G : Nat} {h : Int} (hw : WdAt w K P G h) (ho : Ow base w w') : WdAt w' K P G h := ho.heap hw (by simp)
theorem canS : canB 9223372036854775808 = 9223372036854775808 := by decide +kernel
theorem clsS : clsV 9223372036854775808 = 5 := by decide +kernel
theorem getS : getF (setF f0 7 9223372036854775808) 7 = 9223372036854775808 := by rw [getF_set _ _ _ _ (fun b => (f0_five b).1), if_pos rfl]
set_option maxRecDepth 100000 in
set_option maxHeartbeats 2000000 in
theorem awake_any (w : World) : Calls Tryz.prog 9 #[] w fun e w' => e = .returned (.bool true) ∧ Chg [] w w' := by
  obtain ⟨S, hS⟩ : ∃ S, S = 9223372036854775808 := ⟨_, rfl⟩
  have HF := Lib.hid (fun w => rfrom_any S w (by rw [hS]; decide))
  have hcS : canB S = S := by rw [hS]; exact canS
  have HC := Lib.hid hcS
  have HL := Lib.hid (show clsV S = 5 by rw [hS]; exact clsS)
  have HG := Lib.hid (show getF (setF f0 7 S) 7 = S by rw [hS]; exact getS)
  have hlt := Lib.hid (show S < 18446744073709551616 by rw [hS]; decide)
  have hS' := Lib.hid hS
  clear hS hcS
  go_enter Tryz.func9, Tryz.ntmps9
  go_wp2_with fail
  refine (fresh_any w).mono ?_
  rintro e w1 ⟨base, d, K, G, rfl, k1, hn, hw, hb⟩
  have c0 : w1.cell? ⟨K, 0, none⟩ = some (.pointer (some ⟨d.P, 0, none⟩)) := cell_is hw 0 rfl
  have c2 : w1.cell? ⟨K, 2, none⟩ = some (.int .i64 1) := cell_is hw 2 rfl
  go_wp2_with fail
  go_region_held3 (fun wx => wx.cell? ⟨K, 0, none⟩ = some (.pointer (some ⟨d.P, 0, none⟩)) ∧ wx.cell? ⟨K, 2, none⟩ = some (.int .i64 1))
    (first | (exact ⟨c0, c2⟩) | (exact ⟨cell_is hw3 0 rfl, cell_is hw3 2 rfl⟩))
    (first
      | (go_at_call 18; rw [show (9223372036854775808 : Int) = ((S : Nat) : Int) from by rw [hS'.out]; rfl]; refine (HF.out w1.drew).mono ?_; rintro e w2 ⟨rfl, rfl⟩; rw [HC.out])
      | (go_at_call 19; refine (cset_in w1.drew (m := 7) (hn.keep (Chg.refl [] w1).drew) (by omega) (by omega) (by omega) hlt.out).mono ?_; rintro e w3 ⟨rfl, o3, h3⟩; have hw3 := hw.keep ((Ow.of_chg (base := base) (Chg.refl [] w1).drew).trans o3)))
  rw [HC.out] at h3
  have k3 := Ow.chg0 k1.drew o3 hb
  clear c0 c2 hn hw o3
  have c0 : w3.cell? ⟨K, 0, none⟩ = some (.pointer (some ⟨d.P, 0, none⟩)) := cell_is hw3 0 rfl
  have c2 : w3.cell? ⟨K, 2, none⟩ = some (.int .i64 1) := cell_is hw3 2 rfl
  go_wp2_with fail
  go_region_held3 (fun wx => wx.cell? ⟨K, 0, none⟩ = some (.pointer (some ⟨d.P, 0, none⟩)) ∧ wx.cell? ⟨K, 2, none⟩ = some (.int .i64 1))
    (first | (exact ⟨c0, c2⟩) | (exact ⟨cell_is hw4 0 rfl, cell_is hw4 2 rfl⟩))
    (first
      | (go_at_call 21; refine (cget_in w3.drew (m := 7) (h3.keep (Chg.refl [] w3).drew) (by omega) (by omega)).mono ?_; rintro e w4 ⟨rfl, o4, h4⟩; have hw4 := hw3.keep ((Ow.of_chg (base := base) (Chg.refl [] w3).drew).trans o4)))
  have k4 := Ow.chg0 k3.drew o4 hb
  have c0 : w4.cell? ⟨K, 0, none⟩ = some (.pointer (some ⟨d.P, 0, none⟩)) := cell_is hw4 0 rfl
  obtain ⟨ops, hd⟩ := h4.st.sta.dev
  have HN := Lib.hid (ccount_any w4 h4.st.sta.store hd)
  have HX := Lib.hid (class_any S w4 (by rw [HC.out]; exact hlt.out))
  clear c2 h3 hw3 o4 h4 hw4 hd
  go_wp2_with fail
  rw [HG.out]
  refine HX.out.mono ?_
  rintro e w5 ⟨rfl, rfl⟩
  rw [HC.out, HL.out]
  go_wp2_with fail
  refine HN.out.mono ?_
  rintro e w5 ⟨rfl, k5⟩
  go_wp2_with fail
  go_ret
  exact ⟨rfl, k4.then k5⟩
end Go.Proofs.YtfodeeejolkkfaaGreat
namespace Go.Proofs.YtfodeeejolkkfaaGreat
open Go.RowKit Go.Lib

theorem applyV_not {vs : Int → List (Int × List UInt8)} {k b : Int} {l : List (Int × List UInt8)} (h : b ∉ l.map Prod.fst) : applyV vs k l b = vs b := by
  induction l generalizing vs with
  | nil => rfl
  | cons p l ih =>
    simp only [List.map_cons, List.mem_cons, not_or] at h
    show applyV (addV vs p.1 (k, p.2)) k l b = _
    rw [ih h.2]
    simp [addV, h.1]
theorem applyV_mem {vs : Int → List (Int × List UInt8)} {k b : Int} {d : List UInt8} {l : List (Int × List UInt8)} (hn : (l.map Prod.fst).Nodup) (h : (b, d) ∈ l) : applyV vs k l b = vs b ++ [(k, d)] := by
  induction l generalizing vs with
  | nil => cases h
  | cons p l ih =>
    simp only [List.map_cons, List.nodup_cons] at hn
    show applyV (addV vs p.1 (k, p.2)) k l b = _
    rcases List.mem_cons.1 h with rfl | h
    · rw [applyV_not hn.1]
      simp [addV]
    · have hne : b ≠ p.1 := fun e => hn.1 (by rw [← e]; exact List.mem_map.2 ⟨_, h, rfl⟩)
      rw [ih hn.2 h]
      simp [addV, hne]
theorem bytT_last (l : List (Int × List UInt8)) {k t : Int} (d : List UInt8) (h : k ≤ t) : bytT (l ++ [(k, d)]) t = d := by
  unfold bytT verT
  rw [List.reverse_append]
  simp [h]
theorem putsL_fst (L : List (Int × Value)) (D : Int → List UInt8) : (putsL L D).map Prod.fst = sortI (L.map Prod.fst) := by
  unfold putsL
  rw [List.map_map]
  simp [Function.comp_def]
/-- a block's bytes behind a transaction. -/
theorem bytT_apply {L : List (Int × Value)} {D : Int → List UInt8} {vs : Int → List (Int × List UInt8)} {k t b : Int} (hn : (L.map Prod.fst).Nodup) (h : k ≤ t) : bytT (applyV vs k (putsL L D) b) t = if b ∈ L.map Prod.fst then D b else bytT (vs b) t := by
  have hp := sortI_perm (L.map Prod.fst)
  by_cases hb : b ∈ L.map Prod.fst
  · have hm : (b, D b) ∈ putsL L D := List.mem_map.2 ⟨b, hp.mem_iff.2 hb, rfl⟩
    have hnd : ((putsL L D).map Prod.fst).Nodup := by rw [putsL_fst]; exact hp.nodup_iff.2 hn
    rw [if_pos hb, applyV_mem hnd hm, bytT_last _ _ h]
  · rw [if_neg hb, applyV_not (by rw [putsL_fst]; exact fun hm => hb (hp.mem_iff.1 hm))]
/-- the blocks that a transaction sees are those alone that there are. -/
theorem Su.congr {w : World} {base : Nat} {d : Ids} {p : Par} {F : World → Prop} {q q' : Int → List UInt8} {L : List (Int × Value)} {n : Nat} (h : Su w base d p F q L n) (hq : ∀ b, 0 ≤ b → b < 258 → q b = q' b) : Su w base d p F q' L n :=
  ⟨h.env, h.tx, h.buf, h.keys, fun b h0 h1 => hq b h0 h1 ▸ h.blk b h0 h1, h.vw, h.sp, h.high⟩
theorem getL_keyn {L : List (Int × Value)} {k : Int} (h : k ∉ L.map Prod.fst) : getL L k = none := by
  cases hg : getL L k with
  | none => rfl
  | some v => exact absurd (List.mem_map.2 ⟨_, getL_memk hg, rfl⟩) h
/-- .. behind its own commit. -/
theorem Su.seen {w : World} {base : Nat} {d : Ids} {p : Par} {F : World → Prop} {q : Int → List UInt8} {L : List (Int × Value)} {n : Nat} {k t : Int} (h : Su w base d p F q L n) (hkt : k ≤ t) (ho : OldV p.Lv p.vs p.t) (hpt : p.t ≤ t) (b : Int) (h0 : 0 ≤ b) (h1 : b < 258) : bytT (applyV p.vs k (putsL L q) b) t = q b := by
  rw [bytT_apply h.buf.2.nodup hkt]
  by_cases hb : b ∈ L.map Prod.fst
  · rw [if_pos hb]
  · rw [if_neg hb]
    rcases h.blk b h0 h1 with ⟨-, e⟩ | ⟨g, c, e, -⟩
    · rw [e]
      unfold bytT verT
      have hall : ∀ x ∈ (p.vs b).reverse, x.1 ≤ p.t := fun x hx => ho.2 b x (List.mem_reverse.1 hx)
      have hf : ∀ (l : List (Int × List UInt8)), (∀ x ∈ l, x.1 ≤ p.t) → l.find? (fun x => decide (x.1 ≤ t)) = l.find? (fun x => decide (x.1 ≤ p.t)) := by
        intro l hl
        cases l with
        | nil => rfl
        | cons x l =>
          have h2 := hl x List.mem_cons_self
          rw [List.find?_cons_of_pos (by simp; omega), List.find?_cons_of_pos (by simp; omega)]
      rw [hf _ hall]
    · rw [getL_keyn hb] at e
      cases e
set_option maxRecDepth 100000 in
theorem round89_any (w : World) (i : Int) (_hi : -9223372036854775808 ≤ i ∧ i ≤ 9223372036854775807) : Calls Tryz.prog 17 #[.int .i64 i, .int .i64 1289] w fun e w' => ∃ m : Nat, m < 1289 ∧ e = .returned (.int .i64 m) ∧ w = w' := by
  have h1 : -1289 < i.tmod 1289 ∧ i.tmod 1289 < 1289 := by
    have := Int.tmod_lt_of_pos i (b := 1289) (by omega)
    have := Int.lt_tmod_of_pos i (b := 1289) (by omega)
    omega
  go_enter Tryz.func17, Tryz.ntmps17
  go_wp2_with fail
  · obtain ⟨m, hm⟩ : ∃ m : Nat, i.tmod 1289 + 1289 = m := ⟨(i.tmod 1289 + 1289).toNat, by omega⟩
    go_ret
    exact ⟨m, by omega, by rw [← hm]; rfl, rfl⟩
  · obtain ⟨m, hm⟩ : ∃ m : Nat, i.tmod 1289 = m := ⟨(i.tmod 1289).toNat, by omega⟩
    go_ret
    exact ⟨m, by omega, by rw [← hm]; rfl, rfl⟩
end Go.Proofs.YtfodeeejolkkfaaGreat
namespace Go.Proofs.YtfodeeejolkkfaaGreat
open Go.RowKit Go.Lib

set_option maxRecDepth 100000 in
set_option maxHeartbeats 8000000 in
theorem law6_any (i : Int) (v u : Nat) (w : World) (hi : -9223372036854775808 ≤ i ∧ i ≤ 9223372036854775807) (hv : v < 18446744073709551616) (hu : u < 18446744073709551616) :
    Calls Tryz.prog 6 #[.int .i64 i, .int .u64 v, .int .u64 u] w fun e w' => e = .returned (.bool true) ∧ Chg [] w w' := by
  have HR := Lib.hid (fun w => round89_any w i hi)
  have HV := Lib.hid (fun w => rfrom_any v w hv)
  have HU := Lib.hid (fun w => rfrom_any u w hu)
  have hx : canB v < 18446744073709551616 := (canB_can hv).1
  have hy : canB u < 18446744073709551616 := (canB_can hu).1
  have HX := Lib.hid hx
  have HY := Lib.hid hy
  have HXX := Lib.hid (canB_canB v)
  have HYY := Lib.hid (canB_canB u)
  clear hi hv hu hx hy
  generalize canB v = x at *
  generalize canB u = y at *
  go_enter Tryz.func6, Tryz.ntmps6
  go_wp2_with fail
  refine (fresh_any3 w).mono ?_
  rintro e w1 ⟨P, K, G, rfl, base, d, ops, hP, hsc, hlow, hdT, hbase, hw1, hops, k1⟩
  subst hP
  have htab : getL (begS (s00 w.heap.size) d.T).Lr (begP (s00 w.heap.size)).h = some (.pointer (some ⟨d.T, 0, none⟩)) := rfl
  have hfr := fr_sto (lw := w.heap.size) (base := base) (d := d) (s := begS (s00 w.heap.size) d.T) (g := g00 w.heap.size ops) (p := begP (s00 w.heap.size)) hlow htab rfl rfl rfl rfl
  have HFr := Lib.hid hfr
  have HSc := Lib.hid hsc
  have HLw := Lib.hid (And.intro hlow (And.intro hdT (And.intro hbase hops)))
  clear hfr hsc hlow hdT hbase hops htab
  go_wp2_with fail
  refine (HR.out w1).mono ?_
  rintro e w2 ⟨m, hm, rfl, rfl⟩
  have HM := Lib.hid hm
  clear hm
  go_wp2_with fail
  refine (HV.out w1).mono ?_
  rintro e w2 ⟨rfl, rfl⟩
  go_wp2_with fail
  refine (HU.out w1).mono ?_
  rintro e w2 ⟨rfl, rfl⟩
  have c0 : w1.cell? ⟨K, 0, none⟩ = some (.pointer (some ⟨d.P, 0, none⟩)) := cell_is hw1 0 rfl
  have c2 : w1.cell? ⟨K, 2, none⟩ = some (.int .i64 1) := cell_is hw1 2 rfl
  have hm1 : IntKind.i64.wrap ((m : Int) + 1) = (m : Int) + 1 := by rw [IntKind.wrap_i64]; have := HM.out; omega
  go_wp2_with fail
  have hs1 : ∀ wx, Chg [] w1 wx → Calls Tryz.prog 19 #[.pointer (some ⟨d.P, 0, none⟩), .int .i64 1, .int .i64 m, .float .f64 x] wx fun e w' => e = .returned (.int .i64 0) ∧ Ow base wx w' ∧ ∃ v1, Sc w' base d (begP (s00 w.heap.size)) (StoF w.heap.size d (begS (s00 w.heap.size) d.T) (g00 w.heap.size ops)) (setF f0 m x) (putL [] (m / 5 : Nat) v1) 1 := fun wx kx =>
    (gset_in wx (m := m) (x := x) HFr.out (HSc.out.keep HFr.out kx) (by omega) (by simp) (by have := HM.out; omega) HX.out).mono (by
      rintro e w' ⟨v1, rfl, ho, hs⟩
      rw [HXX.out] at hs
      exact ⟨rfl, ho, v1, hs⟩)
  have HS1 := Lib.hid hs1
  have hs2 : ∀ wx v1, Sc wx base d (begP (s00 w.heap.size)) (StoF w.heap.size d (begS (s00 w.heap.size) d.T) (g00 w.heap.size ops)) (setF f0 m x) (putL [] (m / 5 : Nat) v1) 1 → Calls Tryz.prog 19 #[.pointer (some ⟨d.P, 0, none⟩), .int .i64 1, .int .i64 ((m : Int) + 1), .float .f64 y] wx fun e w' => e = .returned (.int .i64 0) ∧ Ow base wx w' ∧ ∃ v2, Sc w' base d (begP (s00 w.heap.size)) (StoF w.heap.size d (begS (s00 w.heap.size) d.T) (g00 w.heap.size ops)) (setF (setF f0 m x) (m + 1) y) (putL (putL [] (m / 5 : Nat) v1) ((m + 1) / 5 : Nat) v2) 2 := fun wx v1 h2 =>
    (gset_in wx (m := m + 1) (x := y) HFr.out h2 (by omega) (Nat.le_trans (putL_len _ _ _) (by decide)) (by have := HM.out; omega) HY.out).mono (by
      rintro e w' ⟨v2, rfl, ho, hs⟩
      rw [HYY.out] at hs
      exact ⟨rfl, ho, v2, hs⟩)
  have HS2 := Lib.hid hs2
  clear hs1 hs2
  go_region_held3 (fun wx => wx.cell? ⟨K, 0, none⟩ = some (.pointer (some ⟨d.P, 0, none⟩)) ∧ wx.cell? ⟨K, 2, none⟩ = some (.int .i64 1))
    (first | (exact ⟨c0, c2⟩) | (exact ⟨cell_is hw2 0 rfl, cell_is hw2 2 rfl⟩) | (exact ⟨cell_is hw3 0 rfl, cell_is hw3 2 rfl⟩))
    (first
      | (go_at_call 19; (with_reducible refine Calls.mono (HS1.out w1.drew (Chg.refl [] w1).drew) ?_); rintro e w2 ⟨rfl, o2, v1, h2⟩; have hw2 := hw1.keep ((Ow.of_chg (base := base) (Chg.refl [] w1).drew).trans o2))
      | (go_at_call 19; (with_reducible refine Calls.mono (HS2.out w2 v1 h2) ?_); rintro e w3 ⟨rfl, o3, v2, h3⟩; have hw3 := hw2.keep o3))
  have k3 := Ow.chg0 k1.drew (o2.trans o3) HLw.out.2.2.1
  have hfm : getF (setF (setF f0 m x) (m + 1) y) m = x := by
    rw [getF_set _ _ _ _ (fun b => (h2.five b).1), if_neg (by omega), getF_set _ _ _ _ (fun b => (f0_five b).1), if_pos rfl]
  have hfn : getF (setF (setF f0 m x) (m + 1) y) (m + 1) = y := by
    rw [getF_set _ _ _ _ (fun b => (h2.five b).1), if_pos rfl]
  have hl0 : 0 < (putL (putL [] (m / 5 : Nat) v1) ((m + 1) / 5 : Nat) v2).length := by
    simp only [putL]
    split <;> simp
  have hl2 : (putL (putL [] (m / 5 : Nat) v1) ((m + 1) / 5 : Nat) v2).length ≤ 2 := Nat.le_trans (putL_len _ _ _) (Nat.succ_le_succ (putL_len _ _ _))
  have HFm := Lib.hid hfm
  have HFn := Lib.hid hfn
  have HL := Lib.hid (And.intro hl0 hl2)
  clear c0 c2 hm1 h2 hw2 o2 o3 k1 hw1 HSc HS1 HS2 hfm hfn hl0 hl2
  generalize putL (putL [] (m / 5 : Nat) v1) ((m + 1) / 5 : Nat) v2 = L at *
  generalize setF (setF f0 m x) (m + 1) y = f at *
  have hg : ∀ wx, Chg [] w3 wx → Calls Tryz.prog 21 #[.pointer (some ⟨d.P, 0, none⟩), .int .i64 1, .int .i64 m] wx fun e w' => e = .returned (.tuple #[.float .f64 x, .int .i64 0]) ∧ Ow base wx w' ∧ Sc w' base d (begP (s00 w.heap.size)) (StoF w.heap.size d (begS (s00 w.heap.size) d.T) (g00 w.heap.size ops)) f L 3 := fun wx kx =>
    (gget_in wx (m := m) HFr.out (h3.keep HFr.out kx) (by omega) (by have := HM.out; omega)).mono (by
      rintro e w' ⟨rfl, ho, hs⟩
      exact ⟨by rw [HFm.out], ho, hs⟩)
  have HG := Lib.hid hg
  clear hg h3
  have c0 : w3.cell? ⟨K, 0, none⟩ = some (.pointer (some ⟨d.P, 0, none⟩)) := cell_is hw3 0 rfl
  have c2 : w3.cell? ⟨K, 2, none⟩ = some (.int .i64 1) := cell_is hw3 2 rfl
  go_wp2_with fail
  go_region_held3 (fun wx => wx.cell? ⟨K, 0, none⟩ = some (.pointer (some ⟨d.P, 0, none⟩)) ∧ wx.cell? ⟨K, 2, none⟩ = some (.int .i64 1))
    (first | (exact ⟨c0, c2⟩) | (exact ⟨cell_is hw4 0 rfl, cell_is hw4 2 rfl⟩))
    (first
      | (go_at_call 21; (with_reducible refine Calls.mono (HG.out w3.drew (Chg.refl [] w3).drew) ?_); rintro e w4 ⟨rfl, o4, h4⟩; have hw4 := hw3.keep ((Ow.of_chg (base := base) (Chg.refl [] w3).drew).trans o4)))
  have k4 := Ow.chg0 k3.drew o4 HLw.out.2.2.1
  clear c0 c2 o4 hw3 k3 HG
  have c0 : w4.cell? ⟨K, 0, none⟩ = some (.pointer (some ⟨d.P, 0, none⟩)) := cell_is hw4 0 rfl
  have c2 : w4.cell? ⟨K, 2, none⟩ = some (.int .i64 1) := cell_is hw4 2 rfl
  have HSm := Lib.hid (fun w z => (same_any' z z w).mono (fun e w' (h : e = .returned (.bool ((canB z : Int) == (canB z : Int))) ∧ w = w') => (show e = .returned (.bool true) ∧ w = w' from ⟨by rw [h.1, beq_self_eq_true], h.2⟩)))
  go_wp2_with fail
  have hq : ∀ wx, Chg [] w4 wx → Calls Tryz.prog 26 #[.pointer (some ⟨d.P, 0, none⟩), .int .i64 1] wx fun e w' => e = .returned (.int .i64 0) ∧ ComR wx w' w.heap.size d (begS (s00 w.heap.size) d.T) (g00 w.heap.size ops) (begP (s00 w.heap.size)) L (fun b => packB (f b)) 1 := fun wx kx =>
    scommit_sto wx (loq := w.heap.size) (n := 3) (k := 1) HFr.out (h4.keep HFr.out kx).st rfl (World.ownsRow_nil _ _ _ _) (Nat.le_trans k4.size kx.size) (Nat.le_refl _) rfl ⟨fun p hp => (by cases hp), fun b x hx => (by cases hx)⟩ rfl (show (0 : Int) < 1099511627776 by decide) (show (0 : Int) ≤ 0 by decide) (by have := HL.out.2; omega) HL.out.1 (by decide) rfl rfl HLw.out.2.1
  have HC := Lib.hid hq
  have hfl : ∀ wx gq cq, Sto wx w.heap.size d (comS (begS (s00 w.heap.size) d.T) gq cq) (g00 w.heap.size ops) → Wtx wx d (comS (begS (s00 w.heap.size) d.T) gq cq) gq cq 1 1 0 0 L (fun b => packB (f b)) → w.heap.size ≤ wx.heap.size → Calls Tryz.prog 27 #[.pointer (some ⟨d.P, 0, none⟩)] wx fun e w' => e = .returned (.int .i64 0) ∧ FlushR wx w' w.heap.size d (comS (begS (s00 w.heap.size) d.T) gq cq) (g00 w.heap.size ops) 1 1 (putsL L (fun b => packB (f b))) := fun wx gq cq h5 hw5 hl5 =>
    sflush_ok wx (k := 1) h5 hw5 rfl HLw.out.2.1 hl5 (by decide) (show (0 : Int) < 1 by decide) (by decide) (fun c => (show 0 + 16 < 1000000 by decide)) (show (0 : Int) ≤ 0 by decide) (show (0 : Int) ≤ 100000000 by decide) (by show 0 + L.length + 1 ≤ 96; have := HL.out.2; omega) (by show 0 + L.length + 1 ≤ 96; have := HL.out.2; omega) (by have := HLw.out.2.2.2; show 0 ≤ ops; omega) (by have := HLw.out.2.2.2; show ops ≤ 100000; omega) (show 0 < 4294967296 by decide) (show 0 < 1000000000 by decide)
  have HFl := Lib.hid hfl
  have HS4 := Lib.hid (fun b h0 h1 => h4.st.seen (k := 1) (t := 1) (by decide) ⟨fun p hp => (by cases hp), fun b x hx => (by cases hx)⟩ (show (0 : Int) ≤ 1 by decide) b h0 h1)
  have H5 := Lib.hid h4.five
  clear hq hfl h4
  have kd4 : Chg [] w4 w4.drew := (Chg.refl [] w4).drew
  have hw4d : w4.drew.heap[K]? = some (.cells #[.pointer (some ⟨d.P, 0, none⟩), .pointer (some ⟨G, 0, none⟩), .int .i64 1] 48 (0, 0)) := hw4
  go_region_held3 (fun wx => wx.cell? ⟨K, 0, none⟩ = some (.pointer (some ⟨d.P, 0, none⟩)) ∧ wx.cell? ⟨K, 2, none⟩ = some (.int .i64 1))
    (first | (exact ⟨c0, c2⟩) | (exact ⟨cell_is hw5 0 rfl, cell_is hw5 2 rfl⟩) | (exact ⟨cell_is hw6 0 rfl, cell_is hw6 2 rfl⟩))
    (first
      | (go_at_call 22; (with_reducible refine Calls.mono (HSm.out w4.drew x) ?_); rintro e wz ⟨rfl, rfl⟩)
      | (go_at_call 26; (with_reducible refine Calls.mono (HC.out w4.drew kd4) ?_); rintro e w5 ⟨rfl, gq, cq, h5, ht5, cs5⟩; have hw5 := cs5.heap hw4d (by decide))
      | (go_at_call 27; have q5 := HFl.out w5 gq cq h5 ht5 (Nat.le_trans k4.size cs5.size); (with_reducible refine Calls.mono q5 ?_); rintro e w6 ⟨rfl, z6, Lv6, v6, h6, cs6, o6⟩; have hw6 := cs6.heap hw5 (by decide)))
  have k6 : Chg [] w w6 := cs6.chg0 (cs5.chg0 k4.drew (Nat.le_refl _)) (Nat.le_refl _)
  have hb : Calls Tryz.prog 28 #[.pointer (some ⟨d.P, 0, none⟩)] w6 fun e w' => e = .returned (.tuple #[.int .i64 2, .int .i64 0]) ∧ BegT w6 w' w.heap.size d (doneS (comS (begS (s00 w.heap.size) d.T) gq cq) z6 1 1 Lv6 (putsL L (fun b => packB (f b)))) (doneG (g00 w.heap.size ops) v6 1 (putsL L (fun b => packB (f b)))) :=
    sbegin_gen w6 h6 rfl (show (0 : Int) ≤ 1 by decide) (show (1 : Int) ≤ 1099511627776 by decide) (show (0 : Int) ≤ 1 by decide) (show (1 : Int) ≤ 1000000 by decide)
  have HB := Lib.hid hb
  have HLt := Lib.hid (show d.rx < w6.heap.size ∧ d.rb < w6.heap.size ∧ d.r < w6.heap.size from ⟨h6.mx.ver.m.lt, h6.mx.book.2.lt, h6.mx.map.lt⟩)
  have HK6 := Lib.hid (Nat.le_trans k4.size (Nat.le_trans cs5.size cs6.size) : w.heap.size ≤ w6.heap.size)
  clear hb h6 o6 h5 ht5 cs5 cs6 k4 c0 c2 HC HFl HFr hw4 hw4d hw5 kd4 q5
  have c0 : w6.cell? ⟨K, 0, none⟩ = some (.pointer (some ⟨d.P, 0, none⟩)) := cell_is hw6 0 rfl
  have hm := HM.out
  go_wp2_with fail
  refine HB.out.mono ?_
  rintro e w7 ⟨rfl, T2, W2, rw2, Q2, V2, cs7, hT2, hSu⟩
  have hw7 := cs7.heap hw6 (by decide)
  have k7 : Chg [] w w7 := cs7.chg0 k6 (Nat.le_refl _)
  have htab : getL (begS (doneS (comS (begS (s00 w.heap.size) d.T) gq cq) z6 1 1 Lv6 (putsL L (fun b => packB (f b)))) T2).Lr (begP (doneS (comS (begS (s00 w.heap.size) d.T) gq cq) z6 1 1 Lv6 (putsL L (fun b => packB (f b))))).h = some (.pointer (some ⟨T2, 0, none⟩)) := (getL_put _ _ _ _).trans (if_pos rfl)
  have hfr := fr_sto (lw := w.heap.size) (base := w6.heap.size) (d := { d with T := T2, W := W2, rw := rw2, Q := Q2, V := V2 }) (g := doneG (g00 w.heap.size ops) v6 1 (putsL L (fun b => packB (f b)))) HLt.out htab rfl rfl rfl rfl
  have hsc : Sc w7 w6.heap.size _ _ _ f [] 0 := ⟨hSu.congr (q' := fun b => packB (f b)) HS4.out, H5.out⟩
  have hg1 : Calls Tryz.prog 21 #[.pointer (some ⟨d.P, 0, none⟩), .int .i64 2, .int .i64 m] w7 fun e w' => e = .returned (.tuple #[.float .f64 x, .int .i64 0]) ∧ Ow w6.heap.size w7 w' ∧ Calls Tryz.prog 21 #[.pointer (some ⟨d.P, 0, none⟩), .int .i64 2, .int .i64 ((m : Int) + 1)] w' fun e w'' => e = .returned (.tuple #[.float .f64 y, .int .i64 0]) ∧ Ow w6.heap.size w' w'' :=
    (gget_in w7 (m := m) hfr hsc (by omega) (by omega)).mono (by
      rintro e w' ⟨rfl, ho, hs⟩
      refine ⟨by rw [HFm.out], ho, ?_⟩
      exact (gget_in w' (m := m + 1) hfr hs (by omega) (by omega)).mono (by
        rintro e w'' ⟨rfl, ho', hs'⟩
        exact ⟨by rw [HFn.out], ho'⟩))
  have HG := Lib.hid hg1
  clear hg1 hsc hfr htab hSu c0 HB cs7 k6 hw6
  have c0 : w7.cell? ⟨K, 0, none⟩ = some (.pointer (some ⟨d.P, 0, none⟩)) := cell_is hw7 0 rfl
  go_wp2_with fail
  refine HG.out.mono ?_
  rintro e w8 ⟨rfl, o8, h8⟩
  have hw8 : WdAt w8 K d.P G 1 := WdAt.keep (show WdAt w7 K d.P G 1 from hw7) o8
  have k8 := Ow.chg0 k7 o8 HK6.out
  have H8 := Lib.hid h8
  clear h8 o8 k7 hw7 c0 HG
  have c0 : w8.cell? ⟨K, 0, none⟩ = some (.pointer (some ⟨d.P, 0, none⟩)) := cell_is hw8 0 rfl
  go_wp2_with fail
  refine H8.out.mono ?_
  rintro e w9 ⟨rfl, o9⟩
  have k9 := Ow.chg0 k8 o9 HK6.out
  clear H8 o9 k8 hw8 c0
  go_wp2_with fail
  refine (HSm.out w9 x).mono ?_
  rintro e wz ⟨rfl, rfl⟩
  go_wp2_with fail
  refine (HSm.out w9 y).mono ?_
  rintro e wz ⟨rfl, rfl⟩
  go_wp2_with fail
  refine (awake_any w9).mono ?_
  rintro e w10 ⟨rfl, k10⟩
  go_wp2_with fail
  go_ret
  exact ⟨rfl, k9.then k10⟩
end Go.Proofs.YtfodeeejolkkfaaGreat
namespace Go.Proofs.YtfodeeejolkkfaaGreat
open Go.ChangeShapes Go.WideShapes Go.ChangeAt Go.RowKit Go.Deep Go.Joins
set_option maxRecDepth 100000

theorem ownk : ownKnob Tryz.prog.godebug = none := by kernel_rfl
theorem laidOut0 : laidOutB Tryz.prog = true := by kernel_rfl
theorem read22 : Tryz.prog.readableRec 22 = true := by kernel_rfl
theorem read23 : Tryz.prog.readableRec 23 = true := by kernel_rfl
theorem typesN : 100 < Tryz.prog.types.size := by have h : decide (100 < Tryz.prog.types.size) = true := by kernel_rfl
                                                  exact of_decide_eq_true h
theorem cells5 : Tryz.prog.cellsOf 5 = 1 := by kernel_rfl
theorem cells42 : Tryz.prog.cellsOf 42 = 1 := by kernel_rfl

/-- what a contract with 'Below' gives of a row's sentence. -/
theorem post_below {H : Type} {enc : TypeId × Value → H} {f : Func} {s : ChangeSpec} {W W' : World} {args : Array Value} {v : Value} {ds gs : List (DataW H)} {before pa pv : List MemPlace} (hb : Below W.heap.size W W')
    (hW : DataW.Whole enc Tryz.prog f.params.toList s.vars false W args.toList ds gs before)
    (hres : DataW.TrodAll enc Tryz.prog W' W.heap.size (fun _ => false) false f.resultTypes.toList (v.resultList f.resultTypes.size) (s.fn H (ds ++ gs)).results [])
    (hargs : DataW.TrodAll enc Tryz.prog W' 0 (fun b => decide (b < W.heap.size)) true f.params.toList args.toList (s.fn H (ds ++ gs)).args pa)
    (hvars : DataW.TrodVars enc Tryz.prog W' (fun b => decide (b < W.heap.size)) s.vars (s.fn H (ds ++ gs)).vars pv) :
    s.post enc Tryz.prog f false true false false W args v W' :=
  ⟨ds, gs, before, [], pa, pv, hW, hres, hargs, hvars, hb.frame _, fun h => by cases h⟩

section
variable {H : Type} {enc : TypeId × Value → H} {W : World}
theorem bytes_trod {fuel : Nat} {v : Value} {y : DataW H × List MemPlace} (hf : DataW.trod enc Tryz.prog W 0 (fun _ => true) true fuel 23 [v] = some y) :
    ∃ (a0 : Option Addr) (m c : Nat) (l : List UInt8), v = .slice a0 m c ∧ l.length = m ∧ m ≤ c ∧ c ≤ maxLen ∧ Bs W a0 l := by
  rcases open_ints Tryz.underlying23 Tryz.underlying5 cells5 hf with ⟨hcs, hx⟩ | ⟨a, len, cap, zs, hcs, _, hl, hm, hz, hx, hcell, hwz⟩
  · simp only [List.cons.injEq, and_true] at hcs
    exact ⟨none, 0, 0, [], hcs, rfl, Nat.le_refl _, Nat.zero_le _, Or.inl rfl⟩
  · simp only [List.cons.injEq, and_true] at hcs
    simp only [if_true] at hz
    have hlen : ((zs.take len).map fun n => UInt8.ofNat n.toNat).length = len := by simp; omega
    refine ⟨some a, len, cap, (zs.take len).map fun n => UInt8.ofNat n.toNat, hcs, hlen, by omega, hm, ?_⟩
    by_cases h0 : len = 0
    · left; apply List.eq_nil_of_length_eq_zero; rw [hlen, h0]
    obtain ⟨b, off, sp⟩ := a
    have hsp : sp = none := by
      have := World.cell?_spot (hcell 0 (by omega))
      simpa [Addr.add] using this
    subst hsp
    refine Or.inr ⟨b, off, rfl, ?_, fun j hj => ?_⟩
    · have := World.block_lt_of_cell? _ _ (hcell 0 (by omega))
      rw [add_lit] at this; exact this
    · have hj' : j < len := by rw [hlen] at hj; exact hj
      have h2 := hcell j (by omega)
      rw [add_lit] at h2
      rw [h2]
      have hr := byte_of_wf (hwz (zs.getD j 0) (by rw [List.getD_eq_getElem?_getD, List.getElem?_eq_getElem (by omega)]; exact List.getElem_mem _))
      have hg : zs.getD j 0 = zs[j]'(by omega) := by rw [List.getD_eq_getElem?_getD, List.getElem?_eq_getElem (by omega)]; rfl
      rw [hg] at hr ⊢
      simp only [List.getElem_map, List.getElem_take]
      rw [UInt8.toNat_ofNat']
      congr 2
      omega
/-- an argument of type []byte, opened. -/
theorem open_bytes {base : Nat} {v1 : Value} {d1 : DataW H} {p1 : List MemPlace} (hval : Value.okWide Tryz.prog W .any base 23 v1) (h1 : DataW.Trod enc Tryz.prog W 0 (fun _ => true) true 23 v1 d1 p1) :
    ∃ (a0 : Option Addr) (m c : Nat) (l : List UInt8), v1 = .slice a0 m c ∧ l.length = m ∧ m ≤ c ∧ c ≤ maxLen ∧ Bs W a0 l := by
  obtain ⟨a1, len, cap, rfl⟩ := okWide_slice Tryz.underlying23 hval
  obtain ⟨fuel, hf⟩ := h1
  exact bytes_trod (y := (d1, p1)) (by simpa [Value.cells] using hf)
theorem float_cell {fuel : Nat} {v : Value} {x : DataW H × List MemPlace} (hf : DataW.trod enc Tryz.prog W 0 (fun _ => true) true fuel 42 [v] = some x) : ∃ b, v = .float .f64 b ∧ b < 18446744073709551616 := by
  cases fuel with
  | zero => simp [DataW.trod] at hf
  | succ n =>
    simp only [DataW.trod, Tryz.underlying42] at hf
    cases v with
    | float k' b =>
      by_cases hw : k' = FloatKind.f64 ∧ (Lit.float FloatKind.f64 b).wf = true
      · obtain ⟨rfl, hw⟩ := hw
        exact ⟨b, rfl, by simpa [Lit.wf] using hw⟩
      · simp only [] at hf
        by_cases hk : k' = FloatKind.f64
        · subst hk
          rw [if_neg hw] at hf
          cases hf
        · rw [if_neg (fun h => hk h.1)] at hf
          cases hf
    | _ => simp at hf
/-- an argument of type []float64, opened. -/
theorem open_floats {base : Nat} {v1 : Value} {d1 : DataW H} {p1 : List MemPlace} (hval : Value.okWide Tryz.prog W .any base 22 v1) (h1 : DataW.Trod enc Tryz.prog W 0 (fun _ => true) true 22 v1 d1 p1) :
    ∃ (a0 : Option Addr) (m c : Nat) (l : List Nat), v1 = .slice a0 m c ∧ l.length = m ∧ m ≤ c ∧ c ≤ maxLen ∧ Fl W a0 l ∧ ∀ x ∈ l, x < 18446744073709551616 := by
  obtain ⟨a1, len, cap, rfl⟩ := okWide_slice Tryz.underlying22 hval
  obtain ⟨fuel, hf⟩ := h1
  rcases open_slice1 Tryz.underlying22 cells42 (show DataW.trod enc Tryz.prog W 0 (fun _ => true) true fuel 22 [.slice a1 len cap] = some (d1, p1) by simpa [Value.cells] using hf) with ⟨hcs, hx⟩ | ⟨a, len', cap', m, n, V, D, Pl, hcs, _, hl, hm, hmm, hx, hcell⟩
  · simp only [List.cons.injEq, and_true] at hcs
    exact ⟨none, 0, 0, [], hcs, rfl, Nat.le_refl _, Nat.zero_le _, Or.inl rfl, fun x hx => by cases hx⟩
  · simp only [List.cons.injEq, and_true] at hcs
    simp only [if_true] at hmm
    have hk : ∀ i : Nat, ∃ b, i < len' → (W.cell? (a.add i) = some (.float .f64 b) ∧ b < 18446744073709551616) := by
      intro i
      by_cases hi : i < len'
      · obtain ⟨hc, ht⟩ := hcell i (by omega)
        obtain ⟨b, hb, hlt⟩ := float_cell ht
        exact ⟨b, fun _ => ⟨by rw [hc, hb], hlt⟩⟩
      · exact ⟨0, fun h => absurd h hi⟩
    obtain ⟨f, hf⟩ := Classical.axiomOfChoice hk
    refine ⟨some a, len', cap', (List.range len').map f, hcs, by simp, hl, hm, ?_, ?_⟩
    · by_cases h0 : len' = 0
      · left; rw [h0]; rfl
      · obtain ⟨b, off, sp⟩ := a
        have hsp : sp = none := by
          have := World.cell?_spot (hf 0 (by omega)).1
          simpa [Addr.add] using this
        subst hsp
        refine Or.inr ⟨b, off, rfl, fun j hj => ?_⟩
        have hj' : j < len' := by simpa using hj
        have := (hf j hj').1
        rw [add_lit] at this
        rw [this]
        simp
    · intro x hx
      simp only [List.mem_map, List.mem_range] at hx
      obtain ⟨i, hi, rfl⟩ := hx
      exact (hf i hi).2
end
end Go.Proofs.YtfodeeejolkkfaaGreat
namespace Go.Proofs.YtfodeeejolkkfaaGreat
open Go.ChangeShapes Go.WideShapes Go.ChangeAt Go.RowKit Go.Deep Go.Joins
set_option maxRecDepth 100000
namespace Law6
theorem contract (H : Type) (enc : TypeId × Value → H) (W : World) (base : Nat) (args : Array Value) (ds gs : List (DataW H)) (before : List MemPlace)
    (hval : ∀ (j : Nat) t v, Tryz.f6.params[j]? = some t → args[j]? = some v → Value.okWide Tryz.prog W .any base t v)
    (hW : DataW.Whole enc Tryz.prog Tryz.f6.params.toList Rows.cellsKeepSpec.vars false W args.toList ds gs before) :
    Calls Tryz.prog 6 args W fun e W' => ∃ v, e = .returned v ∧ Rows.cellsKeepSpec.post enc Tryz.prog Tryz.f6 false true false false W args v W' := by
  have hW' := hW
  obtain ⟨p, q, hA0, hV, rfl, hfz, hnd⟩ := hW
  have hA : DataW.TrodAll enc Tryz.prog W 0 (fun _ => true) true Tryz.f6.params.toList args.toList ds p := hA0
  rw [Tryz.params6] at hA hval
  obtain ⟨v0, vs0, d0, ds0, p0, q0, hargs, rfl, rfl, h0, r0⟩ := trodAll_cons hA
  obtain ⟨v1, vs1, d1, ds1, p1, q1, rfl, rfl, rfl, h1, r1⟩ := trodAll_cons r0
  obtain ⟨v2, vs2, d2, ds2, p2, q2, rfl, rfl, rfl, h2, r2⟩ := trodAll_cons r1
  obtain ⟨rfl, rfl, rfl⟩ := trodAll_nil r2
  obtain rfl : args = #[v0, v1, v2] := by cases args; simp_all
  obtain ⟨rfl, rfl⟩ := trodVars_none hV
  obtain ⟨a0, rfl, rfl, rfl, w0⟩ := open_int Tryz.underlying3 (hval 0 3 v0 rfl rfl) h0
  obtain ⟨a1, rfl, rfl, rfl, w1⟩ := open_int Tryz.underlying37 (hval 1 37 v1 rfl rfl) h1
  obtain ⟨a2, rfl, rfl, rfl, w2⟩ := open_int Tryz.underlying37 (hval 2 37 v2 rfl rfl) h2
  have b0 := bounds_i64 w0
  have b1 := bounds_u64 w1
  have b2 := bounds_u64 w2
  obtain ⟨n1, rfl⟩ : ∃ m : Nat, a1 = m := ⟨a1.toNat, by omega⟩
  obtain ⟨n2, rfl⟩ : ∃ m : Nat, a2 = m := ⟨a2.toNat, by omega⟩
  refine (law6_any a0 n1 n2 W (by omega) (by omega) (by omega)).mono fun e W' ⟨he, hc⟩ => ?_
  subst he
  exact ⟨_, rfl, post_below hc.below0 hW' (trodAll_mk1 (shut_bool Tryz.underlying4 _)) (trodAll_cons_mk (shut_int Tryz.underlying3 w0) (trodAll_cons_mk (shut_int Tryz.underlying37 w1) (trodAll_cons_mk (shut_int Tryz.underlying37 w2) trodAll_mk0))) rfl⟩
theorem lifted (os : Os) (started : os.Started) (H : Type) (enc : TypeId × Value → H) :
    ReturnsInHanded {} Tryz.checked os 6 .any (Rows.cellsKeepSpec.pre6 enc Tryz.prog Tryz.f6 Rows.cellsKeepRow.domain false) (Rows.cellsKeepSpec.post enc Tryz.prog Tryz.f6 false true false false) := by
  refine returnsInHanded_of_change (C := Tryz.checked) ownk started (by kernel_rfl) Tryz.func6
    (ChangeSpec.witness6 (enc := enc) (C := Tryz.checked) false ⟨#[], #[.int .i64 0, .int .u64 0, .int .u64 0], []⟩ 8 (by kernel_rfl) (by kernel_rfl) (by kernel_rfl) (by kernel_rfl)) ?_
  intro W base args ds gs before hval0 hW hcnd _
  exact contract H enc W base args ds gs before hval0 hW
theorem over : Rows.cellsKeepRow.holds Tryz.pinned (OpenSpec.ofChange Rows.cellsKeepSpec) :=
  OpenClaim.holds_of_wide 6 Tryz.f6 rfl rfl rfl rfl rfl rfl rfl ⟨rfl, rfl, rfl, rfl, rfl⟩ rfl rfl rfl rfl rfl (by kernel_rfl) Tryz.func6 (by kernel_rfl)
    (of_decide_eq_true (by kernel_rfl)) (by unfold Func.isWrapper; first | (rw [if_pos (by decide +kernel)]; kernel_rfl) | (rw [if_neg (by decide +kernel)]; exact ⟨rfl, rfl⟩))
    (fun os started H enc _ => lifted os started H enc)
theorem said : Rows.CellsKeepSaid := over
end Law6
end Go.Proofs.YtfodeeejolkkfaaGreat
