/- Lemmas and walks: Walks: a batch of one transaction is done. The state of a store, in general: its parts, kept together; how the slots' text is read. Walks: a store's batch of one transaction is flushed. Walks: versions that are no newer than a time: nothing was written behind it. Walks: a transaction is checked, and may be committed, where all versions are no newer than its time and nothing waits. Walks: a store's Begin and Commit, in general. Walks: a transaction is aborted: txn.end 96, Abort 59, store.Abort 29. Walks: a new world of law 26, with all that its store holds. Begin and a new world of law 26, the new view's reads told. Printed by mkNi.py. Walks: numbers read out of bytes, the least first; bytes compared. Walks: how far a zone is written (zdev.Pointer 62); a row that is no frame (store.strange 84). -/
import Derived.Maps.RangeRun
import Derived.Test.YtfodeeejolkkfaaGreatJe
import Derived.Test.YtfodeeejolkkfaaGreatJf
import Derived.Test.YtfodeeejolkkfaaGreatJg
import Derived.Test.YtfodeeejolkkfaaGreatJh
import Derived.Test.YtfodeeejolkkfaaGreatJi
namespace Go.Proofs.YtfodeeejolkkfaaGreat
open Go.RowKit Go.Lib

theorem sortI_pairwise (l : List Int) : (sortI l).Pairwise (fun a b => a ≤ b) := by
  have h := List.pairwise_mergeSort (le := fun x y : Int => decide (x ≤ y)) (fun a b c h1 h2 => by simp at *; omega) (fun a b => by simp; omega) l
  exact h.imp (fun h => by simpa using h)
/-- a buffer's puts rise. -/
theorem rise_puts {L : List (Int × Value)} (D : Int → List UInt8) (hn : (L.map Prod.fst).Nodup) : Rise (putsL L D) := by
  intro i hi
  have hp := sortI_pairwise (L.map Prod.fst)
  have hd : (sortI (L.map Prod.fst)).Nodup := (sortI_perm _).nodup_iff.2 hn
  have hlen : (putsL L D).length = (sortI (L.map Prod.fst)).length := by simp [putsL]
  have h1 := (List.pairwise_iff_getElem.1 hp) i (i + 1) (by omega) (by omega) (by omega)
  have h2 := (List.pairwise_iff_getElem.1 hd) i (i + 1) (by omega) (by omega) (by omega)
  have e : ∀ j (hj : j < (putsL L D).length), ((putsL L D)[j]).1 = (sortI (L.map Prod.fst))[j]'(by omega) := fun j hj => by simp [putsL]
  rw [e, e]
  omega
theorem putsL_in {L : List (Int × Value)} (D : Int → List UInt8) (hk : ∀ x ∈ L, 0 ≤ x.1 ∧ x.1 < 258) : ∀ x ∈ putsL L D, 0 ≤ x.1 ∧ x.1 < 258 := by
  intro x hx
  obtain ⟨k, hk1, rfl⟩ := List.mem_map.1 hx
  obtain ⟨p, hp, e⟩ := List.mem_map.1 ((sortI_perm _).mem_iff.1 hk1)
  show 0 ≤ k ∧ k < 258
  rw [← e]
  exact hk p hp
/-- what of memory changes where a batch is done. -/
def Cd (lo M T rb X rx : Nat) (w w' : World) : Prop := ∃ S, Chg S w w' ∧ ∀ x ∈ S, x < w.heap.size → x = M ∨ x = T ∨ x = rb ∨ x = X ∨ x = rx ∨ (lo ≤ x ∧ ∃ cs, w.heap[x]? = some (.cells cs 267 (0, 0)))
theorem Cd.of_cv {lo M T rb X rx : Nat} {w w' : World} (h : Cv lo X rx w w') : Cd lo M T rb X rx w w' := by
  obtain ⟨S, h1, h2⟩ := h
  refine ⟨S, h1, fun x hx hl => ?_⟩
  rcases h2 x hx hl with e | e | e
  · exact Or.inr (Or.inr (Or.inr (Or.inl e)))
  · exact Or.inr (Or.inr (Or.inr (Or.inr (Or.inl e))))
  · exact Or.inr (Or.inr (Or.inr (Or.inr (Or.inr e))))
theorem Cd.of_chg {lo M T rb X rx : Nat} {S : List Nat} {w w' : World} (h : Chg S w w') (hS : ∀ x ∈ S, x = M ∨ x = T ∨ x = rb ∨ x = X ∨ x = rx) : Cd lo M T rb X rx w w' :=
  ⟨S, h, fun x hx _ => by rcases hS x hx with e | e | e | e | e <;> simp [e]⟩
theorem Cd.trans {lo M T rb X rx : Nat} {a b c : World} (h : Cd lo M T rb X rx a b) (k : Cd lo M T rb X rx b c) : Cd lo M T rb X rx a c := by
  obtain ⟨S, h1, h2⟩ := h
  obtain ⟨U, k1, k2⟩ := k
  refine ⟨S ++ U, (h1.mono (fun x hx _ => List.mem_append_left _ hx)).trans k1 (fun x hx _ => List.mem_append_right _ hx), fun x hx hlt => ?_⟩
  by_cases hT : x ∈ S
  · exact h2 x hT hlt
  · rcases List.mem_append.1 hx with h | h
    · exact absurd h hT
    · rcases k2 x h (Nat.lt_of_lt_of_le hlt h1.size) with e | e | e | e | e | ⟨e, cs, hh⟩
      · exact Or.inl e
      · exact Or.inr (Or.inl e)
      · exact Or.inr (Or.inr (Or.inl e))
      · exact Or.inr (Or.inr (Or.inr (Or.inl e)))
      · exact Or.inr (Or.inr (Or.inr (Or.inr (Or.inl e))))
      · exact Or.inr (Or.inr (Or.inr (Or.inr (Or.inr ⟨e, cs, by rw [← h1.block x hlt hT]; exact hh⟩))))
/-- one batch is taken in: the manager behind it, but for its queue. -/
structure Dn (w wr : World) (M X rx B rb r T W Q : Nat) (s : Gs) (k t h : Int) (l : List (Int × List UInt8)) : Prop where
  mx : ∃ Lv', Mx wr M X rx B rb r { s with last := k, lastv := k, Lv := Lv', vs := applyV s.vs k l, Lb := delL s.Lb h } ∧ ApL Lv' ∧ ∀ p ∈ Lv', 0 ≤ p.1 ∧ p.1 < 258
  cd : Cd s.lo M T rb X rx w wr
  tx : wr.heap[T]? = some (.cells #[.int .i64 3, .int .i64 k, .int .i64 0, .int .i64 t, .pointer (some ⟨W, 0, none⟩), .pointer (some ⟨Q, 0, none⟩)] 173 (0, 0))
/-- .. behind Apply alone. -/
theorem Mx.applied {w w' : World} {M X rx B rb r : Nat} {s : Gs} {k : Int} {Lv' : List (Int × Value)} {vs' : Int → List (Int × List UInt8)} (h : Mx w M X rx B rb r s) (hc : Cv s.lo X rx w w') (hv : VerG w' s.lo X rx k Lv' vs') : Mx w' M X rx B rb r { s with lastv := k, Lv := Lv', vs := vs' } := by
  obtain ⟨S, h1, h2⟩ := hc
  have av : ∀ ts, 260 ∉ ts → 267 ∉ ts → Av w S ts := fun ts a b => Cv.av h2 h.ver.x h.ver.m a b
  exact ⟨h1.heap h.mgr ((av [180] (by decide) (by decide)).ne h.mgr (by simp)), hv, ⟨h1.heap h.book.1 ((av [270] (by decide) (by decide)).ne h.book.1 (by simp)), h.book.2.keep h1 (Cv.map h2 h.ver.x h.book.2 h.n1.symm)⟩, h.map.keep h1 (Cv.map h2 h.ver.x h.map h.n3), h.n1, h.n2, h.n3⟩
/-- .. behind a store into the manager. -/
theorem Mx.set {w : World} {M X rx B rb r : Nat} {s s' : Gs} (h : Mx w M X rx B rb r s) (i : Nat) (v : Value) (hm : MgrG (w.setCell ⟨M, i, none⟩ v) M X B r s'.qv s'.out s'.num s'.bas s'.last s'.given s'.rd) (e1 : s'.lo = s.lo) (e2 : s'.lastv = s.lastv) (e3 : s'.Lv = s.Lv) (e4 : s'.vs = s.vs) (e5 : s'.bl = s.bl) (e6 : s'.Lb = s.Lb) (e7 : s'.Lr = s.Lr) : Mx (w.setCell ⟨M, i, none⟩ v) M X rx B rb r s' := by
  have kS := Chg.set w M i v
  refine ⟨hm, ?_, ?_, ?_, h.n1, h.n2, h.n3⟩
  · rw [e1, e2, e3, e4]
    exact h.ver.keepA kS (Av.row h.mgr (by decide)) (by simpa using map_cells h.ver.m h.mgr)
  · rw [e5, e6]
    exact ⟨kS.heap h.book.1 (by simpa using heap_ne h.book.1 h.mgr (by simp)), h.book.2.keep kS (by simpa using map_cells h.book.2 h.mgr)⟩
  · rw [e7]
    exact h.map.keep kS (by simpa using map_cells h.map h.mgr)
theorem ownsRow_low {w : World} {b b' e size n : Nat} {v : Value} {xs : List Value} (h : w.ownsRow b e size v n xs) (hb : b' ≤ b) : w.ownsRow b' e size v n xs := by
  obtain ⟨h1, h2⟩ := h
  refine ⟨h1, ?_⟩
  rcases h2 with h2 | ⟨g, cap, cur, e1, e2, e3⟩
  · exact Or.inl h2
  · exact Or.inr ⟨g, cap, cur, e1, Nat.le_trans hb e2, e3⟩
theorem TxOne.hp {w : World} {lo g c : Nat} {k : Int} {l : List (Int × List UInt8)} (h : TxOne w lo (.slice (some ⟨g, 0, none⟩) 1 c) k l) : ∃ cs, w.heap[g]? = some (.cells cs 189 (0, 0)) := by
  obtain ⟨g', c', cs, pv, e, -, -, h4, -⟩ := h
  cases e
  exact ⟨cs, h4⟩
set_option maxRecDepth 100000 in
set_option maxHeartbeats 8000000 in
theorem tdone_ok (w : World) {M X rx B rb r gq cq T W rw Q : Nat} {s : Gs} {hdl k t t0 : Int} {L : List (Int × Value)} {D : Int → List UInt8} (hx : Mx w M X rx B rb r s) (hqv : s.qv = .slice (some ⟨gq, 0, none⟩) 1 cq) (hcq : 1 ≤ cq) (hout : s.out = 1)
    (hq : w.cell? ⟨gq, 0, none⟩ = some (.int .i64 hdl)) (hg : getL s.Lr hdl = some (.pointer (some ⟨T, 0, none⟩))) (hT : TxW w T W Q k t) (hb : BufAt w W rw L) (hD : BufD w L D) (hk : ∀ x ∈ L, 0 ≤ x.1 ∧ x.1 < 258) (hl0 : 0 < L.length) (hl : L.length ≤ 16)
    (hap : ApL s.Lv) (hkeys : ∀ p ∈ s.Lv, 0 ≤ p.1 ∧ p.1 < 258) (hlo : s.lo ≤ w.heap.size) (hlast : s.lastv < k) (hk1 : k ≤ 1099511627776) (hs : ∀ c, (s.vs c).length + 16 < 1000000) (hLb : getL s.Lb hdl = some (.int .i64 t0)) (hn0 : 0 ≤ s.num) (hn1 : s.num ≤ 1000000000) :
    Calls Tryz.prog 57 #[.pointer (some ⟨M, 0, none⟩), .int .i64 0] w fun e w' => e = .returned (.int .i64 0) ∧ ∃ z, Dn w w' M X rx B rb r T W Q { s with qv := .slice (some ⟨z, 0, none⟩) 0 0, out := 0, num := s.num + 1 } k t hdl (putsL L D) ∧ w'.ownsRow w.heap.size 3 1 (.slice (some ⟨z, 0, none⟩) 0 0) 0 [] := by
  have hm := hx.mgr
  rw [hqv, hout] at hm
  have HG := Lib.hid (tgone_x w hx)
  have m4 : w.cell? ⟨M, 4, none⟩ = some (.int .i64 1) := cell_is hm 4 rfl
  have m3 : w.cell? ⟨M, 3, none⟩ = some (.slice (some ⟨gq, 0, none⟩) 1 cq) := cell_is hm 3 rfl
  have HWt := Lib.hid (waiting_one w.drew (k := k) (t := t) (show MgrG w.drew M X B r _ _ _ _ _ _ _ from hm) hq hx.map hg hT (hb.keep (Chg.refl [] w).drew (by simp) (by simp)) (hD.keep (Chg.refl [] w).drew) hk (by omega))
  have hnd : (L.map Prod.fst).Nodup := hb.2.nodup
  have hr := rise_puts D hnd
  have hin := putsL_in D hk
  have hlen : (putsL L D).length = L.length := putsL_length L D
  rw [← hlen] at hl0 hl
  have HX := Lib.hid hx
  have HT := Lib.hid hT
  have HGt := Lib.hid hg
  have HLb := Lib.hid hLb
  have HR := Lib.hid hr
  have HIn := Lib.hid hin
  have HAp := Lib.hid hap
  have HKs := Lib.hid hkeys
  have HS := Lib.hid hs
  have HN := Lib.hid (And.intro hn0 hn1)
  have HLo := Lib.hid hlo
  have HLa := Lib.hid hlast
  have HQv := Lib.hid hqv
  have HOt := Lib.hid hout
  have HL := Lib.hid (And.intro hl0 hl)
  clear hx hm hqv hout hg hT hb hD hk hnd hr hin hlen hap hkeys hlo hlast hs hLb hn0 hn1 hl0 hl
  generalize putsL L D = l at *
  have kd : Chg [] w w.drew := (Chg.refl [] w).drew
  have m4d : w.drew.cell? ⟨M, 4, none⟩ = some (.int .i64 1) := m4
  have hcqi : (1 : Int) ≤ cq := by omega
  go_enter Tryz.func57, Tryz.ntmps57
  go_wp2_with fail
  refine HG.out.mono ?_
  rintro e w1 ⟨rfl, rfl⟩
  go_wp2_with fail
  go_region_held3 (fun wx => wx.cell? ⟨M, 4, none⟩ = some (.int .i64 1))
    (first | (exact m4) | (exact m4d) | (exact k2'.cell m4d (by simp)))
    (first
      | (go_at_call 99; refine HWt.out.mono ?_; rintro e w2 ⟨v, rfl, k2', ht⟩; obtain ⟨g, c, pb, cb, rfl, hc1, hlg, hglt, g0, g1, hcb, hp⟩ := ht.open_; have hc1i : (1 : Int) ≤ c := (by omega); obtain ⟨cg, hgh⟩ := ht.hp))
  have k2 := kd.then k2'
  have m42 := k2.cell m4 (by simp)
  have m32 := k2.cell m3 (by simp)
  have q2 := k2.cell hq (by simp)
  have HP2 := Lib.hid hp
  clear k2' m4 m3 m4d hq HWt HG hp ht kd
  have kd2 : Chg [] w2 w2.drew := (Chg.refl [] w2).drew
  have m42d : w2.drew.cell? ⟨M, 4, none⟩ = some (.int .i64 1) := m42
  have m32d : w2.drew.cell? ⟨M, 3, none⟩ = some (.slice (some ⟨gq, 0, none⟩) 1 cq) := m32
  have q2d : w2.drew.cell? ⟨gq, 0, none⟩ = some (.int .i64 hdl) := q2
  go_wp2_with fail
  go_region_held3 (fun wx => wx.cell? ⟨M, 4, none⟩ = some (.int .i64 1) ∧ wx.cell? ⟨M, 3, none⟩ = some (.slice (some ⟨gq, 0, none⟩) 1 cq))
    (first | (exact ⟨m42, m32⟩) | (exact ⟨m42d, m32d⟩) | (exact ⟨k3'.cell m42d (by simp), k3'.cell m32d (by simp)⟩))
    (first
      | (go_at_call 104; refine (iclone_one w2.drew q2d).mono ?_; rintro e w3 ⟨gz, cz, rfl, k3', o3⟩))
  have k3 := k2.then (kd2.then k3')
  have hg3 := (kd2.then k3').heap hgh (by simp)
  have g03 := (kd2.then k3').cell g0 (by simp)
  have g13 := (kd2.then k3').cell g1 (by simp)
  have HP3 := Lib.hid (HP2.out.keep0 (kd2.then k3'))
  have HX3 := Lib.hid (HX.out.keep k3)
  have T3 := k3.heap HT.out (by simp)
  have z3 : w3.cell? ⟨gz, 0, none⟩ = some (.int .i64 hdl) := by
    rcases o3.2 with ⟨e, h0⟩ | ⟨g', cap', cur', e, -, hh, -, -, -, ht⟩
    · omega
    · cases e
      refine cell_is hh 0 ?_
      have := congrArg (fun l => l[0]?) ht
      simpa [List.getElem?_take] using this
  have hcz : (1 : Int) ≤ cz := by
    obtain ⟨pz, cz', e, hle⟩ := own_form o3
    cases e
    omega
  have hlo3 : s.lo ≤ w3.heap.size := Nat.le_trans HLo.out k3.size
  clear k3' m42 m32 q2 m42d m32d q2d HP2 g0 g1 o3 kd2 hgh
  go_wp2_with fail
  go_loopw [6, 7, 35] (fun _ _ i wr => (i = .int .i64 0 ∧ wr = w3) ∨ (i = .int .i64 1 ∧ Dn w wr M X rx B rb r T W Q s k t hdl l)) (fun _ _ i _ => 1 - (intOf i).toNat)
  case atStart => exact Or.inl ⟨rfl, rfl⟩
  case round =>
    rcases hrel with ⟨rfl, rfl⟩ | ⟨rfl, hDn⟩
    · rename World => wr
      have HLn := HL.out
      have HAy := Lib.hid (apply_ok wr.drew (HX3.out.keep (Chg.refl [] wr).drew).ver HAp.out HKs.out hlo3 (HP3.out.keep0 (Chg.refl [] wr).drew) HIn.out HR.out HLn.1 HLn.2 HLa.out hk1 HS.out)
      have m0 : wr.cell? ⟨M, 0, none⟩ = some (.pointer (some ⟨X, 0, none⟩)) := HX3.out.cells.1
      clear HLn
      go_wp2_with fail
      have m0d : wr.drew.cell? ⟨M, 0, none⟩ = some (.pointer (some ⟨X, 0, none⟩)) := m0
      have g0d : wr.drew.cell? ⟨g, 0, none⟩ = some (.int .i64 k) := g03
      have g1d : wr.drew.cell? ⟨g, 1, none⟩ = some (.slice pb l.length cb) := g13
      have HHg := Lib.hid (show wr.drew.heap[g]? = some (.cells cg 189 (0, 0)) from hg3)
      have HXd := Lib.hid (HX3.out.keep (Chg.refl [] wr).drew)
      go_region_held3 (fun wx => wx.cell? ⟨M, 0, none⟩ = some (.pointer (some ⟨X, 0, none⟩)) ∧ wx.cell? ⟨g, 0, none⟩ = some (.int .i64 k) ∧ wx.cell? ⟨g, 1, none⟩ = some (.slice pb l.length cb))
        (first | (exact ⟨m0, g03, g13⟩) | (exact ⟨m0d, g0d, g1d⟩) | (exact ⟨kU.cell m0d hU1, kU.cell g0d hU2, kU.cell g1d hU2⟩))
        (first
          | (go_at_call 105; refine HAy.out.mono ?_; rintro e w6 ⟨rfl, hcv, Lv', hv', hap', hk'⟩; obtain ⟨U, kU, hU⟩ := id hcv; have hU1 := (Cv.av (ts := [180]) hU HXd.out.ver.x HXd.out.ver.m (by decide) (by decide)).ne HXd.out.mgr (by simp); have hU2 := (Cv.av (ts := [189]) hU HXd.out.ver.x HXd.out.ver.m (by decide) (by decide)).ne HHg.out (by simp)))
      have hx6 := HXd.out.applied hcv hv'
      have T6 := kU.heap (show wr.drew.heap[T]? = _ from T3) ((Cv.av (ts := [173]) hU HXd.out.ver.x HXd.out.ver.m (by decide) (by decide)).ne (show wr.drew.heap[T]? = _ from T3) (by simp))
      have m76 : w6.cell? ⟨M, 7, none⟩ = some (.int .i64 s.last) := hx6.cells.2.2.2
      have f76 := unfrozen hx6.mgr 7
      have g06 := kU.cell g0d hU2
      have hMT : T ≠ M := heap_ne T6 hx6.mgr (by simp)
      have hx7 := hx6.set (s' := { s with last := k, lastv := k, Lv := Lv', vs := applyV s.vs k l }) 7 (.int .i64 k) (heap_set hx6.mgr 7 _ rfl) rfl rfl rfl rfl rfl rfl rfl
      have T7 := heap_set_ne T6 hMT 7 (.int .i64 k)
      have HE := Lib.hid (tend_ok _ hx7.mgr hx7.map HGt.out T7 hx7.book HLb.out)
      have HX7 := Lib.hid hx7
      have HT7 := Lib.hid T7
      have HC7 := Lib.hid (((Cd.of_chg (lo := s.lo) (M := M) (T := T) (rb := rb) (X := X) (rx := rx) (k3.then (Chg.refl [] wr).drew) (fun x hx => by cases hx)).trans (Cd.of_cv hcv)).trans (Cd.of_chg (Chg.set w6 M 7 (.int .i64 k)) (fun x hx => by simp at hx; simp [hx])))
      have HA7 := Lib.hid (And.intro hap' hk')
      clear hx6 hx7 T6 T7 hcv hv' hap' hk' kU hU hU1 hU2 m0 m0d g0d g1d hMT HHg HXd HAy g03 g13 T3 HX3 HP3
      go_wp2_with fail
      refine HE.out.mono ?_
      rintro e w8 ⟨rfl, k8, hb8, T8⟩
      have hDn : Dn w w8 M X rx B rb r T W Q s k t hdl l := by
        have h7 := HX7.out
        have av : ∀ ts, 173 ∉ ts → Av (w6.setCell ⟨M, 7, none⟩ (.int .i64 k)) [T, rb] ts := fun ts h1 x hx cs t' fr hh => by
          simp at hx
          rcases hx with rfl | rfl
          · rw [HT7.out] at hh; cases hh; exact h1
          · exact absurd rfl (map_cells h7.book.2 hh)
        have nT : ∀ {x L}, MapAt (w6.setCell ⟨M, 7, none⟩ (.int .i64 k)) x L → x ≠ rb → x ∉ [T, rb] := fun hm hx => by simp; exact ⟨map_cells hm HT7.out, hx⟩
        exact ⟨⟨Lv', ⟨k8.heap h7.mgr ((av [180] (by decide)).ne h7.mgr (by simp)), h7.ver.keepA k8 (av _ (by decide)) (nT h7.ver.m h7.n1), hb8, h7.map.keep k8 (nT h7.map h7.n2), h7.n1, h7.n2, h7.n3⟩, HA7.out⟩, HC7.out.trans (Cd.of_chg k8 (fun x hx => by simp at hx; rcases hx with e | e <;> simp [e])), T8⟩
      have HDn := Lib.hid hDn
      clear hDn k8 hb8 T8 HX7 HT7 HC7 HA7 HE
      go_wp2_with fail
      exact ⟨Or.inr ⟨rfl, HDn.out⟩, by decide⟩
    · obtain ⟨⟨Lv', hx, hap', hk'⟩, hcd, hT8⟩ := hDn
      rename World => wr
      have hm := hx.mgr
      dsimp only at hm
      rw [HQv.out, HOt.out] at hm
      obtain ⟨hn0, hn1⟩ := HN.out
      have m5 : wr.cell? ⟨M, 5, none⟩ = some (.int .i64 s.num) := cell_is hm 5 rfl
      have f5 := unfrozen hm 5
      have hm5 : MgrG (wr.setCell ⟨M, 5, none⟩ (.int .i64 (s.num + 1))) M X B r (.slice (some ⟨gq, 0, none⟩) 1 cq) 1 (s.num + 1) s.bas k s.given s.rd := heap_set hm 5 _ rfl
      have n3 : (wr.setCell ⟨M, 5, none⟩ (.int .i64 (s.num + 1))).cell? ⟨M, 3, none⟩ = some (.slice (some ⟨gq, 0, none⟩) 1 cq) := cell_is hm5 3 rfl
      have n4 : (wr.setCell ⟨M, 5, none⟩ (.int .i64 (s.num + 1))).cell? ⟨M, 4, none⟩ = some (.int .i64 1) := cell_is hm5 4 rfl
      have HM := Lib.hid hm
      have HM5 := Lib.hid hm5
      have HXf := Lib.hid hx
      have HA7 := Lib.hid (And.intro hap' hk')
      have HCd := Lib.hid hcd
      clear hm hm5 hx hap' hk' hcd g03 g13 HX3 HP3 T3
      go_upto_region 15 with fail
      have hx5 := HXf.out.set (s' := { s with last := k, lastv := k, Lv := Lv', vs := applyV s.vs k l, Lb := delL s.Lb hdl, num := s.num + 1 }) 5 (.int .i64 (s.num + 1)) (by rw [HQv.out, HOt.out]; exact HM5.out) rfl rfl rfl rfl rfl rfl rfl
      have HX5 := Lib.hid hx5
      have k5 := Chg.set wr M 5 (.int .i64 (s.num + 1))
      have hMT : T ≠ M := heap_ne hT8 HM.out (by simp)
      have T5 := heap_set_ne hT8 hMT 5 (.int .i64 (s.num + 1))
      clear hx5 m5 f5 hn0 hn1 hT8
      generalize wr.setCell ⟨M, 5, none⟩ (.int .i64 (s.num + 1)) = w5 at *
      have kd5 : Chg [] w5 w5.drew := (Chg.refl [] w5).drew
      have n3d : w5.drew.cell? ⟨M, 3, none⟩ = some (.slice (some ⟨gq, 0, none⟩) 1 cq) := n3
      have n4d : w5.drew.cell? ⟨M, 4, none⟩ = some (.int .i64 1) := n4
      have hcq2 : cq = 1 ∨ ¬ cq = 1 := by omega
      rcases hcq2 with hcq1 | hcq1
      · subst hcq1
        go_region_law
          (first
            | (go_simp; go_at_call 104; refine (iclone_zero w5.drew gq _ _).mono ?_; rintro e w6 ⟨zq, rfl, k6, o6⟩; have f36 := unfrozen ((kd5.then k6).heap HM5.out (by simp)) 3; have m36 : w6.cell? ⟨M, 3, none⟩ = some _ := cell_is ((kd5.then k6).heap HM5.out (by simp)) 3 rfl))
        all_goals
          have k56 := kd5.then k6
          have hx6 := HX5.out.keep k56
          have hm6 := k56.heap HM5.out (by simp)
          have T6 := k56.heap T5 (by simp)
          have f46 := unfrozen hm6 4
          have m46 : w6.cell? ⟨M, 4, none⟩ = some (.int .i64 1) := cell_is hm6 4 rfl
          have hmA : MgrG (w6.setCell ⟨M, 3, none⟩ (.slice (some ⟨zq, 0, none⟩) 0 0)) M X B r (.slice (some ⟨zq, 0, none⟩) 0 0) 1 (s.num + 1) s.bas k s.given s.rd := heap_set hm6 3 _ rfl
          have hmB : MgrG ((w6.setCell ⟨M, 3, none⟩ (.slice (some ⟨zq, 0, none⟩) 0 0)).setCell ⟨M, 4, none⟩ (.int .i64 0)) M X B r (.slice (some ⟨zq, 0, none⟩) 0 0) 0 (s.num + 1) s.bas k s.given s.rd := heap_set hmA 4 _ rfl
          have hxA := hx6.set (s' := { s with last := k, lastv := k, Lv := Lv', vs := applyV s.vs k l, Lb := delL s.Lb hdl, num := s.num + 1, qv := .slice (some ⟨zq, 0, none⟩) 0 0 }) 3 (.slice (some ⟨zq, 0, none⟩) 0 0) (by rw [HOt.out]; exact hmA) rfl rfl rfl rfl rfl rfl rfl
          have hxB := hxA.set (s' := { s with last := k, lastv := k, Lv := Lv', vs := applyV s.vs k l, Lb := delL s.Lb hdl, num := s.num + 1, qv := .slice (some ⟨zq, 0, none⟩) 0 0, out := 0 }) 4 (.int .i64 0) hmB rfl rfl rfl rfl rfl rfl rfl
          have TB := heap_set_ne (heap_set_ne T6 hMT 3 (.slice (some ⟨zq, 0, none⟩) 0 0)) hMT 4 (.int .i64 0)
          have kA := Chg.set w6 M 3 (.slice (some ⟨zq, 0, none⟩) 0 0)
          have kB := Chg.set (w6.setCell ⟨M, 3, none⟩ (.slice (some ⟨zq, 0, none⟩) 0 0)) M 4 (.int .i64 0)
          have oB := ownsRow_av (ownsRow_av o6 kA (Av.row hm6 (by decide))) kB (Av.row hmA (by decide))
          have hszd : w.heap.size ≤ w5.drew.heap.size := by
            obtain ⟨S, hS, -⟩ := HCd.out
            exact Nat.le_trans hS.size k5.size
          have one : ∀ {a b : World}, Chg [M] a b → Cd s.lo M T rb X rx a b := fun h => Cd.of_chg h (fun x hx => by simp at hx; simp [hx])
          have HFin := Lib.hid (And.intro (Dn.mk (s := { s with qv := .slice (some ⟨zq, 0, none⟩) 0 0, out := 0, num := s.num + 1 }) (w := w) (l := l) ⟨Lv', hxB, HA7.out⟩ ((((HCd.out.trans (one k5)).trans (Cd.of_chg k56 (fun x hx => by cases hx))).trans (one kA)).trans (one kB)) TB) (ownsRow_low oB hszd))
          clear hx6 hm6 T6 hmA hmB hxA hxB TB kA kB oB one k56 k6 o6 HX5 HM5 HM T5 hMT
          go_wp2_with fail
          go_ret
          exact ⟨rfl, zq, HFin.out⟩
      · go_region_law
          (first
            | (go_simp; go_at_call 104; refine (iclone_zero w5.drew gq _ _).mono ?_; rintro e w6 ⟨zq, rfl, k6, o6⟩; have f36 := unfrozen ((kd5.then k6).heap HM5.out (by simp)) 3; have m36 : w6.cell? ⟨M, 3, none⟩ = some _ := cell_is ((kd5.then k6).heap HM5.out (by simp)) 3 rfl))
        all_goals
          have k56 := kd5.then k6
          have hx6 := HX5.out.keep k56
          have hm6 := k56.heap HM5.out (by simp)
          have T6 := k56.heap T5 (by simp)
          have f46 := unfrozen hm6 4
          have m46 : w6.cell? ⟨M, 4, none⟩ = some (.int .i64 1) := cell_is hm6 4 rfl
          have hmA : MgrG (w6.setCell ⟨M, 3, none⟩ (.slice (some ⟨zq, 0, none⟩) 0 0)) M X B r (.slice (some ⟨zq, 0, none⟩) 0 0) 1 (s.num + 1) s.bas k s.given s.rd := heap_set hm6 3 _ rfl
          have hmB : MgrG ((w6.setCell ⟨M, 3, none⟩ (.slice (some ⟨zq, 0, none⟩) 0 0)).setCell ⟨M, 4, none⟩ (.int .i64 0)) M X B r (.slice (some ⟨zq, 0, none⟩) 0 0) 0 (s.num + 1) s.bas k s.given s.rd := heap_set hmA 4 _ rfl
          have hxA := hx6.set (s' := { s with last := k, lastv := k, Lv := Lv', vs := applyV s.vs k l, Lb := delL s.Lb hdl, num := s.num + 1, qv := .slice (some ⟨zq, 0, none⟩) 0 0 }) 3 (.slice (some ⟨zq, 0, none⟩) 0 0) (by rw [HOt.out]; exact hmA) rfl rfl rfl rfl rfl rfl rfl
          have hxB := hxA.set (s' := { s with last := k, lastv := k, Lv := Lv', vs := applyV s.vs k l, Lb := delL s.Lb hdl, num := s.num + 1, qv := .slice (some ⟨zq, 0, none⟩) 0 0, out := 0 }) 4 (.int .i64 0) hmB rfl rfl rfl rfl rfl rfl rfl
          have TB := heap_set_ne (heap_set_ne T6 hMT 3 (.slice (some ⟨zq, 0, none⟩) 0 0)) hMT 4 (.int .i64 0)
          have kA := Chg.set w6 M 3 (.slice (some ⟨zq, 0, none⟩) 0 0)
          have kB := Chg.set (w6.setCell ⟨M, 3, none⟩ (.slice (some ⟨zq, 0, none⟩) 0 0)) M 4 (.int .i64 0)
          have oB := ownsRow_av (ownsRow_av o6 kA (Av.row hm6 (by decide))) kB (Av.row hmA (by decide))
          have hszd : w.heap.size ≤ w5.drew.heap.size := by
            obtain ⟨S, hS, -⟩ := HCd.out
            exact Nat.le_trans hS.size k5.size
          have one : ∀ {a b : World}, Chg [M] a b → Cd s.lo M T rb X rx a b := fun h => Cd.of_chg h (fun x hx => by simp at hx; simp [hx])
          have HFin := Lib.hid (And.intro (Dn.mk (s := { s with qv := .slice (some ⟨zq, 0, none⟩) 0 0, out := 0, num := s.num + 1 }) (w := w) (l := l) ⟨Lv', hxB, HA7.out⟩ ((((HCd.out.trans (one k5)).trans (Cd.of_chg k56 (fun x hx => by cases hx))).trans (one kA)).trans (one kB)) TB) (ownsRow_low oB hszd))
          clear hx6 hm6 T6 hmA hmB hxA hxB TB kA kB oB one k56 k6 o6 HX5 HM5 HM T5 hMT
          go_wp2_with fail
          go_ret
          exact ⟨rfl, zq, HFin.out⟩
end Go.Proofs.YtfodeeejolkkfaaGreat
namespace Go.Proofs.YtfodeeejolkkfaaGreat
open Go.RowKit Go.Lib

/-- block S is two slots of the device N: the newer one, its text, how many texts there were. -/
def SlotG (w : World) (S N : Nat) (inn : Int) (tv : Value) (cnt : Nat) : Prop :=
  w.heap[S]? = some (.cells #[.pointer (some ⟨N, 0, none⟩), .int .i64 0, .int .i64 3, .int .i64 6, .int .i64 96, .int .i64 inn, tv, .int .i64 cnt, .bool false] 196 (0, 0))
/-- a text of the slots: none, or bytes. -/
def TextAt (w : World) (tv : Value) : Prop := tv = .slice none 0 0 ∨ ∃ g c m l, tv = .slice (some ⟨g, 0, none⟩) m c ∧ l.length = m ∧ 0 < m ∧ m ≤ 1000 ∧ Bs w (some ⟨g, 0, none⟩) l ∧ Bt w g
theorem TextAt.keep {w w' : World} {U : List Nat} {tv : Value} (h : TextAt w tv) (hc : Chg U w w') (hU : Av w U [5]) : TextAt w' tv := by
  rcases h with rfl | ⟨g, c, m, l, rfl, h1, h2, h3, h4, h5⟩
  · exact Or.inl rfl
  · have hn : g ∉ U := Bt.av h5 hU (by simp)
    exact Or.inr ⟨g, c, m, l, rfl, h1, h2, h3, h4.chgT hc hn, Bt.keep h5 hc hn⟩
/-- what Load hands back. -/
def LoadR (w : World) (cnt : Nat) (e : Ending) (w' : World) : Prop := ∃ u, e = .returned (.tuple #[u, .int .i64 cnt]) ∧ Chg [] w w'
set_option maxRecDepth 100000 in
theorem load_g (w : World) {S N : Nat} {inn : Int} {tv : Value} {cnt : Nat} (h : SlotG w S N inn tv cnt) (ht : TextAt w tv) : Calls Tryz.prog 80 #[.pointer (some ⟨S, 0, none⟩)] w (LoadR w cnt) := by
  rcases ht with rfl | ⟨g, c, m, l, rfl, hl, hm0, hm1, hb, -⟩
  · have c6 : w.cell? ⟨S, 6, none⟩ = some (.slice none 0 0) := cell_is h 6 rfl
    have c7 : w.cell? ⟨S, 7, none⟩ = some (.int .i64 cnt) := cell_is h 7 rfl
    clear h
    go_enter Tryz.func80, Tryz.ntmps80
    go_wp2_with fail
    have c6d : w.drew.cell? ⟨S, 6, none⟩ = some (.slice none 0 0) := c6
    have c7d : w.drew.cell? ⟨S, 7, none⟩ = some (.int .i64 cnt) := c7
    go_region_with (go_at_call 113; refine (clone_nil _).mono ?_; rintro e w1 ⟨rfl, rfl⟩)
    all_goals
      go_wp2_with fail
      go_ret2
      exact ⟨_, rfl, (Chg.refl _ w).drew⟩
  · have c6 : w.cell? ⟨S, 6, none⟩ = some (.slice (some ⟨g, 0, none⟩) m c) := cell_is h 6 rfl
    have c7 : w.cell? ⟨S, 7, none⟩ = some (.int .i64 cnt) := cell_is h 7 rfl
    have HB := Lib.hid hb
    have HL := Lib.hid (And.intro hl (And.intro hm0 hm1))
    clear h hb hl hm0 hm1
    go_enter Tryz.func80, Tryz.ntmps80
    go_wp2_with fail
    have c6d : w.drew.cell? ⟨S, 6, none⟩ = some (.slice (some ⟨g, 0, none⟩) m c) := c6
    have c7d : w.drew.cell? ⟨S, 7, none⟩ = some (.int .i64 cnt) := c7
    go_region_held3 (fun wx => wx.cell? ⟨S, 6, none⟩ = some (.slice (some ⟨g, 0, none⟩) m c) ∧ wx.cell? ⟨S, 7, none⟩ = some (.int .i64 cnt))
      (first | (exact ⟨c6, c7⟩) | (exact ⟨c6d, c7d⟩) | (exact ⟨k1.cell c6d (by simp), k1.cell c7d (by simp)⟩))
      (first
        | (go_at_call 113; refine (clone_bt w.drew HL.out.1 HL.out.2.1 HL.out.2.2 (HB.out.chg (Chg.refl [] w).drew)).mono ?_; rintro e w1 ⟨g', c', rfl, k1, -, -, -⟩))
    all_goals
      go_wp2_with fail
      go_ret2
      exact ⟨_, rfl, (Chg.refl [] w).drew.then k1⟩
theorem dead_g (w : World) {P N S M pos num : Nat} (h : StoreG w P N S M pos num) : Calls Tryz.prog 53 #[.pointer (some ⟨P, 0, none⟩)] w fun e w' => e = .returned (.bool false) ∧ w = w' := by
  have c0 : w.cell? ⟨P, 0, none⟩ = some (.pointer (some ⟨N, 0, none⟩)) := cell_is h 0 rfl
  have c9 : w.cell? ⟨P, 9, none⟩ = some (.bool false) := cell_is h 9 rfl
  clear h
  go_enter Tryz.func53, Tryz.ntmps53
  go_wp2_with fail
  go_ret
  exact ⟨rfl, rfl⟩
/-- all these blocks hold cells of these types. -/
def Tp (w : World) (U ts : List Nat) : Prop := ∀ x ∈ U, ∃ cs t, w.heap[x]? = some (.cells cs t (0, 0)) ∧ t ∈ ts
theorem Tp.av {w : World} {U ts ts' : List Nat} (h : Tp w U ts) (hd : ∀ t ∈ ts, t ∉ ts') : Av w U ts' := fun x hx cs t fr hh => by
  obtain ⟨cs2, t2, h2, h3⟩ := h x hx
  rw [h2] at hh
  cases hh
  exact hd _ h3
theorem Tp.map {w : World} {U ts : List Nat} {r : Nat} {L : List (Int × Value)} (h : Tp w U ts) (hm : MapAt w r L) : r ∉ U := fun hr => by
  obtain ⟨cs2, t2, h2, -⟩ := h r hr
  exact map_cells hm h2 rfl
theorem Mx.keepA {w w' : World} {U : List Nat} {M X rx B rb r : Nat} {s : Gs} (h : Mx w M X rx B rb r s) (hc : Chg U w w') (hU : Av w U [180, 260, 267, 5, 270]) (h1 : rx ∉ U) (h2 : rb ∉ U) (h3 : r ∉ U) : Mx w' M X rx B rb r s :=
  ⟨hc.heap h.mgr (hU.ne h.mgr (by simp)), h.ver.keepA hc (fun x hx cs t fr hh ht => hU x hx cs t fr hh (by simp at ht; rcases ht with rfl | rfl | rfl <;> simp)) h1, ⟨hc.heap h.book.1 (hU.ne h.book.1 (by simp)), h.book.2.keep hc h2⟩, h.map.keep hc h3, h.n1, h.n2, h.n3⟩
/-- .. when its own block alone has changed. -/
theorem Mx.chgM {w w' : World} {M X rx B rb r : Nat} {s s' : Gs} (h : Mx w M X rx B rb r s) (kS : Chg [M] w w') (hm : MgrG w' M X B r s'.qv s'.out s'.num s'.bas s'.last s'.given s'.rd) (e1 : s'.lo = s.lo) (e2 : s'.lastv = s.lastv) (e3 : s'.Lv = s.Lv) (e4 : s'.vs = s.vs) (e5 : s'.bl = s.bl) (e6 : s'.Lb = s.Lb) (e7 : s'.Lr = s.Lr) : Mx w' M X rx B rb r s' := by
  refine ⟨hm, ?_, ?_, ?_, h.n1, h.n2, h.n3⟩
  · rw [e1, e2, e3, e4]
    exact h.ver.keepA kS (Av.row h.mgr (by decide)) (by simpa using map_cells h.ver.m h.mgr)
  · rw [e5, e6]
    exact ⟨kS.heap h.book.1 (by simpa using heap_ne h.book.1 h.mgr (by simp)), h.book.2.keep kS (by simpa using map_cells h.book.2 h.mgr)⟩
  · rw [e7]
    exact h.map.keep kS (by simpa using map_cells h.map h.mgr)
/-- where a store's log, slots and device stand. -/
structure Gd where
  pos : Nat
  num : Nat
  inn : Int
  tv : Value
  cnt : Nat
  dlo : Nat
  ops : Int
  dv : Nat → Value
  gs : Nat → Nat
  zs : Nat → List (List UInt8)
/-- a store with all its parts, none of them below lw. -/
structure Sto (w : World) (lw : Nat) (d : Ids) (s : Gs) (g : Gd) : Prop where
  store : StoreG w d.P d.N d.S d.M g.pos g.num
  slot : SlotG w d.S d.N g.inn g.tv g.cnt
  text : TextAt w g.tv
  dev : DevG w g.dlo d.N d.A d.c g.ops d.Z g.dv g.gs g.zs
  mx : Mx w d.M d.X d.rx d.B d.rb d.r s
  ap : ApL s.Lv
  keys : ∀ p ∈ s.Lv, 0 ≤ p.1 ∧ p.1 < 258
  bnd : lw ≤ d.P ∧ lw ≤ d.N ∧ lw ≤ d.S ∧ lw ≤ d.M ∧ lw ≤ d.X ∧ lw ≤ d.rx ∧ lw ≤ d.B ∧ lw ≤ d.rb ∧ lw ≤ d.r ∧ lw ≤ s.lo ∧ lw ≤ g.dlo
  bndZ : ∀ z ∈ d.Z, lw ≤ z
  slo : s.lo ≤ w.heap.size
  dlo : g.dlo ≤ d.N
theorem Sto.keepA {w w' : World} {U : List Nat} {lw : Nat} {d : Ids} {s : Gs} {g : Gd} (h : Sto w lw d s g) (hc : Chg U w w') (hU : Av w U [99, 196, 130, 131, 134, 23, 5, 180, 260, 267, 270]) (h1 : d.rx ∉ U) (h2 : d.rb ∉ U) (h3 : d.r ∉ U) : Sto w' lw d s g := by
  have sub : ∀ ts : List Nat, (∀ t ∈ ts, t ∈ [99, 196, 130, 131, 134, 23, 5, 180, 260, 267, 270]) → Av w U ts := fun ts hts x hx cs t fr hh ht => hU x hx cs t fr hh (hts t ht)
  exact ⟨hc.heap h.store (hU.ne h.store (by simp)), hc.heap h.slot (hU.ne h.slot (by simp)), h.text.keep hc (sub _ (by decide)), h.dev.keep hc (sub _ (by decide)), h.mx.keepA hc (sub _ (by decide)) h1 h2 h3, h.ap, h.keys, h.bnd, h.bndZ, Nat.le_trans h.slo hc.size, h.dlo⟩
theorem Sto.keep {w w' : World} {lw : Nat} {d : Ids} {s : Gs} {g : Gd} (h : Sto w lw d s g) (hc : Chg [] w w') : Sto w' lw d s g := h.keepA hc (Av.nil _ _) (by simp) (by simp) (by simp)
/-- what of memory changes while a store works: nothing below lw. -/
def Cs (lw : Nat) (w w' : World) : Prop := ∃ U, Chg U w w' ∧ ∀ x ∈ U, x < w.heap.size → lw ≤ x ∧ ∀ cs t fr, w.heap[x]? = some (.cells cs t fr) → t ∈ [99, 180, 173, 260, 267, 130, 134, 23, 3, 270, 196]
theorem Cs.of_chg {lw : Nat} {w w' : World} (h : Chg [] w w') : Cs lw w w' := ⟨[], h, fun x hx => by cases hx⟩
theorem Cs.trans {lw : Nat} {a b c : World} (h : Cs lw a b) (k : Cs lw b c) : Cs lw a c := by
  obtain ⟨S, h1, h2⟩ := h
  obtain ⟨U, k1, k2⟩ := k
  refine ⟨S ++ U, (h1.mono (fun x hx _ => List.mem_append_left _ hx)).trans k1 (fun x hx _ => List.mem_append_right _ hx), fun x hx hlt => ?_⟩
  by_cases hT : x ∈ S
  · exact h2 x hT hlt
  · rcases List.mem_append.1 hx with h | h
    · exact absurd h hT
    · obtain ⟨e1, e2⟩ := k2 x h (Nat.lt_of_lt_of_le hlt h1.size)
      exact ⟨e1, fun cs t fr hh => e2 cs t fr (by rw [h1.block x hlt hT]; exact hh)⟩
theorem Cs.size {lw : Nat} {w w' : World} (h : Cs lw w w') : w.heap.size ≤ w'.heap.size := by obtain ⟨U, h1, -⟩ := h; exact h1.size
theorem Cs.chg0 {lw : Nat} {w0 w w' : World} (h : Chg [] w0 w) (k : Cs lw w w') (hl : w0.heap.size ≤ lw) : Chg [] w0 w' := by
  obtain ⟨U, k1, k2⟩ := k
  exact h.trans k1 (fun x hx hlt => by have := (k2 x hx (Nat.lt_of_lt_of_le hlt h.size)).1; omega)
theorem Cs.heap {lw : Nat} {w w' : World} (h : Cs lw w w') {x : Nat} {cs : Array Value} {t : TypeId} {fr : Nat × Nat} (hh : w.heap[x]? = some (.cells cs t fr)) (ht : t ∉ [99, 180, 173, 260, 267, 130, 134, 23, 3, 270, 196]) : w'.heap[x]? = some (.cells cs t fr) := by
  obtain ⟨U, k1, k2⟩ := h
  exact k1.heap hh (fun hm => ht ((k2 x hm (heap_lt hh)).2 cs t fr hh))
theorem Cs.of_tp {lw : Nat} {w w' : World} {U ts : List Nat} (h : Chg U w w') (ht : Tp w U ts) (hts : ∀ t ∈ ts, t ∈ [99, 180, 173, 260, 267, 130, 134, 23, 3, 270, 196]) (hl : ∀ x ∈ U, lw ≤ x) : Cs lw w w' :=
  ⟨U, h, fun x hx _ => ⟨hl x hx, fun cs t fr hh => by
    obtain ⟨cs2, t2, h2, h3⟩ := ht x hx
    rw [h2] at hh
    cases hh
    exact hts _ h3⟩⟩
end Go.Proofs.YtfodeeejolkkfaaGreat
namespace Go.Proofs.YtfodeeejolkkfaaGreat
open Go.RowKit Go.Lib

theorem BufD.keepA {w w' : World} {U : List Nat} {L : List (Int × Value)} {D : Int → List UInt8} (h : BufD w L D) (hc : Chg U w w') (hU : Av w U [5]) : BufD w' L D := fun k v hv => by
  obtain ⟨g, c, h1, h2, h3, h4⟩ := h k v hv
  have hn : g ∉ U := Bt.av h4 hU (by simp)
  exact ⟨g, c, h1, h2.chgT hc hn, h3, Bt.keep h4 hc hn⟩
theorem Cd.av {lo M T rb X rx : Nat} {w : World} {S ts : List Nat} {csM csT csX : Array Value} {L1 L2 : List (Int × Value)} (hS : ∀ x ∈ S, x < w.heap.size → x = M ∨ x = T ∨ x = rb ∨ x = X ∨ x = rx ∨ (lo ≤ x ∧ ∃ cs, w.heap[x]? = some (.cells cs 267 (0, 0))))
    (hM : w.heap[M]? = some (.cells csM 180 (0, 0))) (hT : w.heap[T]? = some (.cells csT 173 (0, 0))) (hX : w.heap[X]? = some (.cells csX 260 (0, 0))) (h1 : MapAt w rb L1) (h2 : MapAt w rx L2) (h : ∀ t ∈ ts, t ∉ [180, 173, 260, 267]) : Av w S ts := by
  intro x hx cs t fr hh ht
  have hn := h t ht
  rcases hS x hx (heap_lt hh) with rfl | rfl | rfl | rfl | rfl | ⟨-, cs2, h3⟩
  · rw [hM] at hh; cases hh; exact hn (by simp)
  · rw [hT] at hh; cases hh; exact hn (by simp)
  · exact map_cells h1 hh rfl
  · rw [hX] at hh; cases hh; exact hn (by simp)
  · exact map_cells h2 hh rfl
  · rw [h3] at hh; cases hh; exact hn (by simp)
theorem Cs.of_cd {lw lo M T rb X rx : Nat} {w w' : World} {csM csT csX : Array Value} {L1 L2 : List (Int × Value)} (h : Cd lo M T rb X rx w w')
    (hM : w.heap[M]? = some (.cells csM 180 (0, 0))) (hT : w.heap[T]? = some (.cells csT 173 (0, 0))) (hX : w.heap[X]? = some (.cells csX 260 (0, 0))) (h1 : MapAt w rb L1) (h2 : MapAt w rx L2) (hb : lw ≤ lo ∧ lw ≤ M ∧ lw ≤ T ∧ lw ≤ rb ∧ lw ≤ X ∧ lw ≤ rx) : Cs lw w w' := by
  obtain ⟨S, k1, k2⟩ := h
  refine ⟨S, k1, fun x hx hlt => ?_⟩
  obtain ⟨b1, b2, b3, b4, b5, b6⟩ := hb
  rcases k2 x hx hlt with rfl | rfl | rfl | rfl | rfl | ⟨hl, cs2, h3⟩
  · exact ⟨b2, fun cs t fr hh => by rw [hM] at hh; cases hh; simp⟩
  · exact ⟨b3, fun cs t fr hh => by rw [hT] at hh; cases hh; simp⟩
  · exact ⟨b4, fun cs t fr hh => absurd rfl (map_cells h1 hh)⟩
  · exact ⟨b5, fun cs t fr hh => by rw [hX] at hh; cases hh; simp⟩
  · exact ⟨b6, fun cs t fr hh => absurd rfl (map_cells h2 hh)⟩
  · exact ⟨by omega, fun cs t fr hh => by rw [h3] at hh; cases hh; simp⟩
/-- the blocks that a write of a batch changes. -/
theorem Sto.wtp {w : World} {lw : Nat} {d : Ids} {s : Gs} {g : Gd} (h : Sto w lw d s g) : Tp w (d.P :: d.N :: d.Z ++ (g.dv 6).ownBlock.toList) [99, 130, 134, 23] ∧ ∀ x ∈ d.P :: d.N :: d.Z ++ (g.dv 6).ownBlock.toList, lw ≤ x := by
  have hb := h.bnd
  refine ⟨fun x hx => ?_, fun x hx => ?_⟩
  · simp only [List.cons_append, List.mem_cons, List.mem_append] at hx
    rcases hx with rfl | rfl | hx | hx
    · exact ⟨_, _, h.store, by simp⟩
    · exact ⟨_, _, h.dev.hdr, by simp⟩
    · obtain ⟨i, hi, rfl⟩ := List.getElem_of_mem hx
      exact ⟨_, _, h.dev.zone i hi, by simp⟩
    · obtain ⟨cs, hh⟩ := (h.dev.rows 6 (by omega)).block x (by simpa using hx)
      exact ⟨_, _, hh, by simp⟩
  · simp only [List.cons_append, List.mem_cons, List.mem_append] at hx
    rcases hx with rfl | rfl | hx | hx
    · omega
    · omega
    · exact h.bndZ x hx
    · obtain ⟨xs, ho, -⟩ := h.dev.rows 6 (by omega)
      have := (own_elem ho (show (g.dv 6).ownBlock = some x by simpa using hx)).1
      omega
/-- what a transaction that waits holds beside the store. -/
structure Wtx (w : World) (d : Ids) (s : Gs) (gq cq : Nat) (hdl : Int) (k : Nat) (t t0 : Int) (L : List (Int × Value)) (D : Int → List UInt8) : Prop where
  qv : s.qv = .slice (some ⟨gq, 0, none⟩) 1 cq
  cq : 1 ≤ cq
  q : ∃ cs, w.heap[gq]? = some (.cells cs 3 (0, 0)) ∧ cs[0]? = some (.int .i64 hdl)
  tab : getL s.Lr hdl = some (.pointer (some ⟨d.T, 0, none⟩))
  tx : TxW w d.T d.W d.Q k t
  buf : BufAt w d.W d.rw L
  bd : BufD w L D
  bk : ∀ x ∈ L, 0 ≤ x.1 ∧ x.1 < 258
  len0 : 0 < L.length
  len : L.length ≤ 16
  book : getL s.Lb hdl = some (.int .i64 t0)
theorem Wtx.keepA {w w' : World} {U : List Nat} {d : Ids} {s : Gs} {gq cq : Nat} {hdl : Int} {k : Nat} {t t0 : Int} {L : List (Int × Value)} {D : Int → List UInt8} (h : Wtx w d s gq cq hdl k t t0 L D) (hc : Chg U w w') (hU : Av w U [3, 173, 272, 5]) (hr : d.rw ∉ U) : Wtx w' d s gq cq hdl k t t0 L D := by
  obtain ⟨cs, q1, q2⟩ := h.q
  exact ⟨h.qv, h.cq, ⟨cs, hc.heap q1 (hU.ne q1 (by simp)), q2⟩, h.tab, hc.heap h.tx (hU.ne h.tx (by simp)), h.buf.keep hc (hU.ne h.buf.1 (by simp)) hr, h.bd.keepA hc (fun x hx cs t fr hh ht => hU x hx cs t fr hh (by simp at ht; simp [ht])), h.bk, h.len0, h.len, h.book⟩
theorem Wtx.keep {w w' : World} {d : Ids} {s : Gs} {gq cq : Nat} {hdl : Int} {k : Nat} {t t0 : Int} {L : List (Int × Value)} {D : Int → List UInt8} (h : Wtx w d s gq cq hdl k t t0 L D) (hc : Chg [] w w') : Wtx w' d s gq cq hdl k t t0 L D := h.keepA hc (Av.nil _ _) (by simp)
/-- the manager behind a batch. -/
def doneS (s : Gs) (z : Nat) (k : Nat) (hdl : Int) (Lv' : List (Int × Value)) (l : List (Int × List UInt8)) : Gs :=
  { s with qv := .slice (some ⟨z, 0, none⟩) 0 0, out := 0, num := s.num + 1, last := k, lastv := k, Lv := Lv', vs := applyV s.vs k l, Lb := delL s.Lb hdl }
/-- the log behind a batch. -/
def doneG (g : Gd) (v6 : Value) (k : Nat) (l : List (Int × List UInt8)) : Gd :=
  { g with pos := g.pos + l.length + 1, num := g.num + 1, ops := g.ops + l.length + 2, dv := upF g.dv 6 v6, gs := goodF g.gs (upF g.zs 6 (g.zs 6 ++ batL g.cnt (g.num + 1) k l)) 8, zs := upF g.zs 6 (g.zs 6 ++ batL g.cnt (g.num + 1) k l) }
/-- what a flush of one transaction leaves. -/
def FlushR (w w' : World) (lw : Nat) (d : Ids) (s : Gs) (g : Gd) (k : Nat) (hdl : Int) (l : List (Int × List UInt8)) : Prop :=
  ∃ z Lv' v6, Sto w' lw d (doneS s z k hdl Lv' l) (doneG g v6 k l) ∧ Cs lw w w' ∧ w'.ownsRow lw 3 1 (.slice (some ⟨z, 0, none⟩) 0 0) 0 []
set_option maxRecDepth 100000 in
set_option maxHeartbeats 4000000 in
theorem sflush_ok (w : World) {lw : Nat} {d : Ids} {s : Gs} {g : Gd} {gq cq : Nat} {hdl : Int} {k : Nat} {t t0 : Int} {L : List (Int × Value)} {D : Int → List UInt8} (h : Sto w lw d s g) (hw : Wtx w d s gq cq hdl k t t0 L D) (hout : s.out = 0) (hT : lw ≤ d.T) (hlw : lw ≤ w.heap.size)
    (hk0 : 1 ≤ k) (hlast : s.lastv < k) (hk1 : k ≤ 1099511627776) (hs : ∀ c, (s.vs c).length + 16 < 1000000) (hn0 : 0 ≤ s.num) (hn1 : s.num ≤ 100000000) (hroom : (g.zs 6).length + L.length + 1 ≤ 96) (hpos : g.pos + L.length + 1 ≤ 96) (ho0 : 0 ≤ g.ops) (ho1 : g.ops ≤ 100000) (hcnt : g.cnt < 4294967296) (hnum : g.num < 1000000000) :
    Calls Tryz.prog 27 #[.pointer (some ⟨d.P, 0, none⟩)] w fun e w' => e = .returned (.int .i64 0) ∧ FlushR w w' lw d s g k hdl (putsL L D) := by
  have HD := Lib.hid (dead_g w h.store)
  have p5 : w.cell? ⟨d.P, 5, none⟩ = some (.pointer (some ⟨d.M, 0, none⟩)) := cell_is h.store 5 rfl
  have hm := h.mx.mgr
  rw [hw.qv, hout] at hm
  obtain ⟨cs, hq1, hq2⟩ := hw.q
  have hpl : (putsL L D).length = L.length := putsL_length L D
  have HB := Lib.hid (tbatch_one w (k := k) (l := putsL L D) hm (by have := hw.len; omega) hn0 (by omega) (fun w1 k1 => waiting_one w1 (k1.heap hm (by simp)) (k1.cell (cell_is hq1 0 hq2) (by simp)) (h.mx.map.keep k1 (by simp)) hw.tab (k1.heap hw.tx (by simp)) (hw.buf.keep k1 (by simp) (by simp)) (hw.bd.keep k1) hw.bk (by have := hw.len; omega)))
  have HS := Lib.hid h
  have HW := Lib.hid hw
  have HO := Lib.hid hout
  have HQv := Lib.hid hw.qv
  clear h hw hm hout hq1 hq2
  go_enter Tryz.func27, Tryz.ntmps27
  go_wp2_with fail
  refine HD.out.mono ?_
  rintro e w1 ⟨rfl, rfl⟩
  go_wp2_with fail
  refine HB.out.mono ?_
  rintro e w1 ⟨gt, ct, rfl, k1, hm1, ht1⟩
  have hS := HS.out
  have avM : ∀ ts, 180 ∉ ts → Av w [d.M] ts := fun ts h1 => Av.row hS.mx.mgr h1
  have nmM : ∀ {x L}, MapAt w x L → x ∉ [d.M] := fun hm => by simpa using map_cells hm hS.mx.mgr
  have S1 : Sto w1 lw d { s with out := 1 } g :=
    ⟨k1.heap hS.store ((avM [99] (by decide)).ne hS.store (by simp)), k1.heap hS.slot ((avM [196] (by decide)).ne hS.slot (by simp)), hS.text.keep k1 (avM _ (by decide)), hS.dev.keep k1 (avM _ (by decide)),
      hS.mx.chgM k1 (by rw [HQv.out]; exact hm1) rfl rfl rfl rfl rfl rfl rfl, hS.ap, hS.keys, hS.bnd, hS.bndZ, Nat.le_trans hS.slo k1.size, hS.dlo⟩
  have W1 := HW.out.keepA k1 (avM _ (by decide)) (nmM HW.out.buf.2)
  have c1 : Cs lw w w1 := Cs.of_tp (ts := [180]) k1 (fun x hx => by rw [List.mem_singleton] at hx; subst hx; exact ⟨_, _, hS.mx.mgr, by simp⟩) (by decide) (fun x hx => by rw [List.mem_singleton] at hx; subst hx; exact hS.bnd.2.2.2.1)
  have ka : Chg [] w1 (w1.alloc (.cells #[.int .i64 (s.num + 1), .slice (some ⟨gt, 0, none⟩) 1 ct] 102)) := Chg.alloc w1 _
  have A0 := heap_new w1 (.cells #[.int .i64 (s.num + 1), .slice (some ⟨gt, 0, none⟩) 1 ct] 102)
  have S2 := S1.keep ka
  have W2 := W1.keep ka
  have c2 := c1.trans (Cs.of_chg ka)
  have ht2 := ht1.keep ka
  have h6 : 6 < d.Z.length := by have := S2.dev.len; omega
  have hl0 : 0 < (putsL L D).length := by have := HW.out.len0; omega
  have hl16 : (putsL L D).length ≤ 16 := by have := HW.out.len; omega
  have hwr := swrite_log _ (num0 := s.num + 1) S2.store (fun w' k' => load_g w' (k'.heap S2.slot (by simp)) (S2.text.keep k' (Av.nil _ _))) S2.dev ho0 ho1 S2.dlo ht2 hk0 hk1 hcnt (by omega) hl0 hl16 (rise_puts D HW.out.buf.2.nodup) (putsL_in D HW.out.bk) (by rw [hpl]; exact hroom) (by rw [hpl]; exact hpos) h6
  have HWr := Lib.hid hwr
  have q5 : w1.cell? ⟨d.P, 5, none⟩ = some (.pointer (some ⟨d.M, 0, none⟩)) := cell_is S1.store 5 rfl
  have HS2 := Lib.hid S2
  have HW2 := Lib.hid W2
  have HC2 := Lib.hid c2
  have Hpl := Lib.hid hpl
  clear hwr S1 S2 W1 W2 c1 c2 ht1 ht2 hm1 k1 ka hS avM nmM hroom hpos hl0 hl16 HB HD hpl hk0
  go_wp2_with fail
  generalize w1.alloc (.cells #[.int .i64 (s.num + 1), .slice (some ⟨gt, 0, none⟩) 1 ct] 102) = w2 at *
  refine HWr.out.mono ?_
  rintro e w3 ⟨rfl, k3, hP3, v6, hd3⟩
  have S2 := HS2.out
  have tp := S2.wtp.1
  have S3x : Mx w3 d.M d.X d.rx d.B d.rb d.r { s with out := 1 } := S2.mx.keepA k3 (tp.av (by decide)) (tp.map S2.mx.ver.m) (tp.map S2.mx.book.2) (tp.map S2.mx.map)
  have slot3 := k3.heap S2.slot ((tp.av (ts' := [196]) (by decide)).ne S2.slot (by simp))
  have text3 := S2.text.keep k3 (tp.av (by decide))
  have W3 := HW2.out.keepA k3 (tp.av (by decide)) (tp.map HW2.out.buf.2)
  have c3 := HC2.out.trans (Cs.of_tp k3 tp (by decide) S2.wtp.2)
  obtain ⟨cs, hq1, hq2⟩ := W3.q
  have hdn := tdone_ok w3 S3x (show ({ s with out := 1 } : Gs).qv = _ from W3.qv) W3.cq rfl (cell_is hq1 0 hq2) W3.tab W3.tx W3.buf W3.bd W3.bk W3.len0 W3.len S2.ap S2.keys (Nat.le_trans S2.slo k3.size) hlast (by omega) hs W3.book hn0 (by show s.num ≤ _; omega)
  have HDn := Lib.hid hdn
  have r5 : w3.cell? ⟨d.P, 5, none⟩ = some (.pointer (some ⟨d.M, 0, none⟩)) := cell_is hP3 5 rfl
  have HS3 := Lib.hid (And.intro S3x (And.intro slot3 (And.intro text3 (And.intro hP3 hd3))))
  have HW3 := Lib.hid W3
  have HC3 := Lib.hid c3
  clear hdn S2 tp S3x slot3 text3 hP3 hd3 W3 c3 hq1 hq2 k3 HWr HC2 HW2 q5
  go_wp2_with fail
  refine HDn.out.mono ?_
  rintro e w4 ⟨rfl, z, ⟨⟨Lv', hx4, hap4, hk4⟩, hcd, -⟩, o4⟩
  have hF : FlushR w w4 lw d s g k hdl (putsL L D) := by
    obtain ⟨hx3, slot3, text3, hP3, hd3⟩ := HS3.out
    have c4 := HC3.out.trans (Cs.of_cd hcd hx3.mgr HW3.out.tx hx3.ver.x hx3.book.2 hx3.ver.m (by
      have := HS.out.bnd
      exact ⟨this.2.2.2.2.2.2.2.2.2.1, this.2.2.2.1, hT, this.2.2.2.2.2.2.2.1, this.2.2.2.2.1, this.2.2.2.2.2.1⟩))
    obtain ⟨U, kU, hU⟩ := hcd
    have av : ∀ ts : List Nat, (∀ t ∈ ts, t ∉ [180, 173, 260, 267]) → Av w3 U ts := fun ts hts => Cd.av hU hx3.mgr HW3.out.tx hx3.ver.x hx3.book.2 hx3.ver.m hts
    refine ⟨z, Lv', v6, ⟨?_, kU.heap slot3 ((av [196] (by decide)).ne slot3 (by simp)), text3.keep kU (av _ (by decide)), hd3.keep kU (av _ (by decide)), hx4, hap4, hk4, HS.out.bnd, HS.out.bndZ, Nat.le_trans HS.out.slo c4.size, HS.out.dlo⟩, c4, ownsRow_low o4 (Nat.le_trans hlw HC3.out.size)⟩
    exact kU.heap hP3 ((av [99] (by decide)).ne hP3 (by simp))
  have HF := Lib.hid hF
  clear hF hx4 hap4 hk4 hcd o4 HDn HS3 HW3 HC3 r5
  go_wp2_with fail
  go_ret
  exact ⟨rfl, HF.out⟩
end Go.Proofs.YtfodeeejolkkfaaGreat
namespace Go.Proofs.YtfodeeejolkkfaaGreat
open Go.RowKit Go.Lib

theorem getL_of_mem {L : List (Int × Value)} (hn : (L.map Prod.fst).Nodup) {p : Int × Value} (hp : p ∈ L) : getL L p.1 = some p.2 := by
  induction L with
  | nil => cases hp
  | cons a l ih =>
    rw [List.map_cons, List.nodup_cons] at hn
    simp only [getL]
    rcases List.mem_cons.1 hp with rfl | h
    · rw [if_pos rfl]
    · rw [if_neg (fun e => hn.1 (by rw [← e]; exact List.mem_map.2 ⟨p, h, rfl⟩))]
      exact ih hn.2 h
/-- a map's entries, one by one. -/
theorem MapAt.entries {w : World} {r : Nat} {L : List (Int × Value)} (h : MapAt w r L) : ∃ es clock, w.heap[r]? = some (.map es clock) ∧ MapKept.Stamped es clock ∧ ∀ e ∈ es.toList, ∃ k, e.key = .int .i64 k ∧ (k, e.val) ∈ L ∧ getL L k = some e.val := by
  have hn := h.nodup
  obtain ⟨es, clock, hb, hI, hS⟩ := h
  refine ⟨es, clock, hb, hS, fun e he => ?_⟩
  have h1 : (e.key, e.val) ∈ es.toList.map (fun e => (e.key, e.val)) := List.mem_map.2 ⟨e, he, rfl⟩
  rw [hI] at h1
  obtain ⟨p, hp, e1⟩ := List.mem_map.1 h1
  have e2 : e.key = .int .i64 p.1 := (congrArg Prod.fst e1).symm
  have e3 : e.val = p.2 := (congrArg Prod.snd e1).symm
  exact ⟨p.1, e2, by rw [e3]; exact hp, by rw [e3]; exact getL_of_mem hn hp⟩
/-- all versions are no newer than a time; the map's keys are blocks. -/
def OldV (L : List (Int × Value)) (vs : Int → List (Int × List UInt8)) (t : Int) : Prop := (∀ p ∈ L, 0 ≤ p.1 ∧ p.1 < 258) ∧ ∀ b, ∀ x ∈ vs b, x.1 ≤ t
set_option maxRecDepth 100000 in
set_option maxHeartbeats 1000000 in
theorem written_old (w : World) {lo X rx : Nat} {last : Int} {L : List (Int × Value)} {vs : Int → List (Int × List UInt8)} (h : VerG w lo X rx last L vs) (b n t : Int) (ho : OldV L vs t) : Calls Tryz.prog 195 #[.pointer (some ⟨X, 0, none⟩), .agg #[.int .i64 b, .int .i64 n], .int .i64 t] w fun e w' => e = .returned (.bool false) ∧ Chg [] w w' := by
  have kA : Chg [] w (w.alloc (.cells #[.int .i64 b, .int .i64 n] 117)) := Chg.alloc w _
  have A0 := heap_new w (.cells #[.int .i64 b, .int .i64 n] 117)
  have h2 := h.keep kA
  have x0 : (w.alloc (.cells #[.int .i64 b, .int .i64 n] 117)).cell? ⟨X, 0, none⟩ = some (.int .i64 258) := cell_is h2.x 0 rfl
  have x1 : (w.alloc (.cells #[.int .i64 b, .int .i64 n] 117)).cell? ⟨X, 1, none⟩ = some (.map (some rx)) := cell_is h2.x 1 rfl
  have a0 : (w.alloc (.cells #[.int .i64 b, .int .i64 n] 117)).cell? ⟨w.heap.size, 0, none⟩ = some (.int .i64 b) := cell_is A0 0 rfl
  have a1 : (w.alloc (.cells #[.int .i64 b, .int .i64 n] 117)).cell? ⟨w.heap.size, 1, none⟩ = some (.int .i64 n) := cell_is A0 1 rfl
  have HG := Lib.hid (xgone_any _ x0)
  have H2 := Lib.hid h2
  clear h h2 A0
  go_enter Tryz.func195, Tryz.ntmps195
  go_upto_region 1 with fail
  generalize w.alloc (.cells #[.int .i64 b, .int .i64 n] 117) = w1 at *
  generalize hz : w.heap.size = z at *
  go_cut [38] from 7 (fun v wx => (∃ r : Bool, v = .bool r) ∧ wx = w1)
  case first =>
    go_wp2_with fail
    refine HG.out.mono ?_
    rintro e w2 ⟨rfl, rfl⟩
    go_wp2_with fail
    all_goals
      go_meet
      exact ⟨⟨_, rfl⟩, rfl⟩
  case rest =>
    obtain ⟨⟨r, rfl⟩, rfl⟩ := hcut
    rename World => wd
    cases r
    · obtain ⟨es, clock, hm, hst, hen⟩ := H2.out.m.entries
      have hr1 := run_range_map (P := Tryz.prog) wd 258 3 265 rx es clock (by kernel_rfl) hm
      have HE := Lib.hid hen
      have HO := Lib.hid ho
      clear hen ho
      have kR : Chg [] wd (wd.alloc (.mapIter (some rx) clock #[] clock)) := Chg.alloc wd _
      have R0 := heap_new wd (.mapIter (some rx) clock #[] clock)
      go_wp2_with fail
      generalize hzR : wd.heap.size = R at *
      generalize wd.alloc (.mapIter (some rx) clock #[] clock) = w3 at *
      go_loopw [7, 8] (fun _ _ wr => ∃ seen, wr.heap[R]? = some (.mapIter (some rx) clock seen clock) ∧ Chg [] wd wr) (fun _ _ wr => (leftOf es (wr.iterSeen R)).size)
      case atStart => exact ⟨#[], R0, kR⟩
      case round =>
        obtain ⟨seen, hR, kr⟩ := hrel
        have hb1 : wr.heap[rx]? = some (.map es clock) := kr.heap hm (by simp)
        rcases run_next_at (P := Tryz.prog) wr 0 R rx clock clock seen es clock hR hb1 hst.1 (Nat.le_refl _) with ⟨h0, hrun⟩ | ⟨e, he, w2, hal2, hrun⟩
        · have hnx : ∀ ty, (Instr.next (.pointer (some ⟨R, 0, none⟩)) false ty).run Tryz.prog wr = _ := fun _ => hrun
          have kF : Chg [] w wr := kA.then kr
          go_wp2_with fail
          go_ret
          exact ⟨rfl, kF⟩
        · obtain ⟨k, hk, hL, hget⟩ := HE.out e (mem_left he).1
          obtain ⟨hk0, hk1⟩ := HO.out.1 _ hL
          have hk0' : 0 ≤ k := hk0
          have hk1' : k < 258 := hk1
          obtain ⟨v, hv, hrow, hne⟩ : ∃ v, e.val = v ∧ VRow wd lo v (vs k) ∧ vs k ≠ [] := by
            rcases H2.out.row k hk0' hk1' with ⟨e1, _⟩ | ⟨v, e1, e2, e3⟩
            · rw [hget] at e1; cases e1
            · rw [hget] at e1; cases e1; exact ⟨_, rfl, e2, e3⟩
          have h5 : ∃ w5, w5 = Go.ChangeMaps.setBlock w2 R (.mapIter (some rx) clock (seen.push e.born) clock) ∧ w5.heap[R]? = some (.mapIter (some rx) clock (seen.push e.born) clock) ∧ Chg [] wd w5 := by
            refine ⟨_, rfl, ?_, ?_⟩
            · have hl : R < w2.heap.size := by rcases hal2 with rfl | rfl <;> exact heap_lt hR
              simp [Go.ChangeMaps.setBlock, hl]
            · have kk : Chg [] wd w2 := by rcases hal2 with e | e <;> rw [e]; exact kr; exact kr.drew
              refine kk.trans (T := [R]) ⟨rfl, rfl, rfl, by simp [Go.ChangeMaps.setBlock], fun q _ hq => ?_⟩ (fun x hx hlt => by rw [List.mem_singleton] at hx; omega)
              have : R ≠ q := by intro e; exact hq (by rw [e]; simp)
              simp [Go.ChangeMaps.setBlock, this]
          obtain ⟨w5, e5, hR5, k5⟩ := h5
          rw [← e5] at hrun
          have hen := run_entry_at (P := Tryz.prog) w5 R rx clock seen es clock e hR5 (k5.heap hm (by simp)) (mem_left he).1 hst.2.1
          have HM := Lib.hid (left_shrinks es seen e he)
          obtain ⟨j, hj⟩ : ∃ j, (vs k).length = j + 1 := ⟨(vs k).length - 1, by have := List.length_pos_iff.2 hne; omega⟩
          obtain ⟨g, cap, gd, cd, rfl, hcap, d0, -, -, -, -⟩ := hrow.get j (by omega)
          have hsm := H2.out.small k
          have hold : ((vs k)[j]'(by omega)).1 ≤ t := HO.out.2 k _ (List.getElem_mem _)
          have d5 := k5.cell d0 (by simp)
          have y0 := k5.cell a0 (by simp)
          have y1 := k5.cell a1 (by simp)
          rw [hk, hv, hj] at hrun hen
          rw [hj] at hcap
          have kz : Chg [] w w5 := kA.then k5
          have hnx : ∀ ty, (Instr.next (.pointer (some ⟨R, 0, none⟩)) false ty).run Tryz.prog wr = _ := fun _ => hrun
          clear d0 hrow hL hget hk hv hne hal2 kr hb1 hrun e5
          generalize ((vs k)[j]'(by omega)).1 = tl at *
          go_upto_region 6 with fail
          have ej : wrap64 (((j + 1 : Nat) : Int) - 1) = j := by unfold wrap64; omega
          go_cut [72] from 44 (fun v wx => v = .bool false ∧ wx = w5)
          case first =>
            have hl1 : j < j + 1 := by omega
            have htl : decide (tl > t) = false := decide_eq_false (by omega)
            go_wp2_with fail
            all_goals
              go_meet
              exact ⟨by simp, rfl⟩
          case rest =>
            obtain ⟨rfl, rfl⟩ := hcut
            go_wp2_with fail
            go_roundw
            case rel => exact ⟨_, hR5, k5⟩
            case measure => simp only [World.iterSeen, hR5, hR]; exact HM.out
    · go_wp2_with fail
      go_ret
      exact ⟨rfl, kA⟩
end Go.Proofs.YtfodeeejolkkfaaGreat
namespace Go.Proofs.YtfodeeejolkkfaaGreat
open Go.RowKit Go.Lib

set_option maxRecDepth 100000 in
set_option maxHeartbeats 4000000 in
theorem check_old (w : World) {lo X rx lo1 U1 m1 n1 lo2 U2 m2 n2 cq : Nat} {pq : Option Addr} {last t : Int} {Lv : List (Int × Value)} {vs : Int → List (Int × List UInt8)} (h : VerG w lo X rx last Lv vs) (ho : OldV Lv vs t) (hr : SpW w lo1 U1 m1 n1) (hw : SpW w lo2 U2 m2 n2) (hn1 : n1 ≤ 1000) (hn2 : n2 ≤ 1000) :
    Calls Tryz.prog 155 #[.pointer (some ⟨X, 0, none⟩), .slice pq 0 cq, .int .i64 t, .pointer (some ⟨U1, 0, none⟩), .pointer (some ⟨U2, 0, none⟩)] w fun e w' => e = .returned (.int .i64 0) ∧ Chg [] w w' := by
  have HC := Lib.hid (count_any w hw hn2)
  have HV := Lib.hid h
  have HOl := Lib.hid ho
  have HR := Lib.hid hr
  have HW := Lib.hid hw
  clear h ho hr hw
  go_enter Tryz.func155, Tryz.ntmps155
  go_wp2_with fail
  go_step3
  go_wp2_with fail
  refine HC.out.mono ?_
  rintro e w1 ⟨⟨r, rfl⟩, k1⟩
  by_cases hr0 : r = 0
  · subst hr0
    go_wp2_with fail
    simp only [Exit.noGoto]
    go_ret
    exact ⟨rfl, k1⟩
  · go_wp2_with fail
    go_step3
    go_wp2_with fail
    have hrb : (r == 0) = false := by simpa using hr0
    rw [hrb]
    have hi0 : ∀ w, (Instr.index 299 (.agg #[.pointer (some ⟨U1, 0, none⟩), .pointer (some ⟨U2, 0, none⟩)]) (.int .i64 ((0 : Nat) : Int))).run Tryz.prog w = .ok (.pointer (some ⟨U1, 0, none⟩)) w := fun w => by kernel_rfl
    have hi1 : ∀ w, (Instr.index 299 (.agg #[.pointer (some ⟨U1, 0, none⟩), .pointer (some ⟨U2, 0, none⟩)]) (.int .i64 ((1 : Nat) : Int))).run Tryz.prog w = .ok (.pointer (some ⟨U2, 0, none⟩)) w := fun w => by kernel_rfl
    go_loopw [11, 13, 15, 17, 24] (fun e _ _ _ i wr => ∃ j : Nat, j ≤ 2 ∧ i = .int .i64 j ∧ e = .int .i64 0 ∧ Chg [] w1 wr) (fun _ _ _ _ i _ => 2 - (intOf i).toNat)
    case atStart => exact ⟨0, by omega, rfl, rfl, Chg.refl _ _⟩
    case round =>
      obtain ⟨j, hj, rfl, rfl, kr⟩ := hrel
      by_cases hj2 : j < 2
      · obtain ⟨U, lo3, m3, n3, hi, hS, hn3⟩ : ∃ U lo3 m3 n3, (∀ w, (Instr.index 299 (.agg #[.pointer (some ⟨U1, 0, none⟩), .pointer (some ⟨U2, 0, none⟩)]) (.int .i64 (j : Int))).run Tryz.prog w = .ok (.pointer (some ⟨U, 0, none⟩)) w) ∧ SpW wr lo3 U m3 n3 ∧ n3 ≤ 1000 := by
          have kk := k1.then kr
          rcases (show j = 0 ∨ j = 1 by omega) with rfl | rfl
          · exact ⟨U1, _, _, _, hi0, HR.out.keep0 kk, hn1⟩
          · exact ⟨U2, _, _, _, hi1, HW.out.keep0 kk, hn2⟩
        have HE := Lib.hid (extents_any wr hS hn3)
        clear hi0 hi1 hS
        go_wp2_with fail
        refine HE.out.mono ?_
        rintro e w2 ⟨pb, m, cb, l, rfl, k2, hq, hl, hm⟩
        have HQ := Lib.hid hq
        clear hq
        go_wp2_with fail
        go_loopw [11, 15, 30] (fun e _ i wz => ∃ q : Nat, q ≤ m ∧ i = .int .i64 q ∧ e = .int .i64 0 ∧ Chg [] w2 wz) (fun _ _ i _ => m - (intOf i).toNat)
        case atStart => exact ⟨0, by omega, rfl, rfl, Chg.refl _ _⟩
        case round =>
          obtain ⟨q, hq, rfl, rfl, kz⟩ := hrel
          rename World => wz
          have kk : Chg [] w1 wz := (kr.then k2).then kz
          by_cases hqm : q < m
          · obtain ⟨b, o, rfl, c0, c1⟩ := (HQ.out.keep kz).get q (by omega)
            generalize (l[q]'(by omega)).1 = x at *
            generalize (l[q]'(by omega)).2 = y at *
            have ka : Chg [] wz (wz.alloc (.cells #[.int .i64 x, .int .i64 y] 117)) := Chg.alloc wz _
            have HWr := Lib.hid (written_old (wz.alloc (.cells #[.int .i64 x, .int .i64 y] 117)) (HV.out.keep ((k1.then kk).then ka)) x y t HOl.out)
            go_wp2_with fail
            refine HWr.out.mono ?_
            rintro e w5 ⟨rfl, k5⟩
            go_wp2_with fail
            go_roundw
            case rel => exact ⟨q + 1, by omega, by simp, rfl, (kz.then ka).then k5⟩
            case measure => simp [intOf]; omega
          · obtain rfl : q = m := by omega
            go_wp2_with fail
            go_loopw [11, 17, 41] (fun e _ i wy => i = .int .i64 0 ∧ e = .int .i64 0 ∧ wy = wz) (fun _ _ _ _ => 0)
            case atStart => exact ⟨rfl, rfl, rfl⟩
            case round =>
              obtain ⟨rfl, rfl, rfl⟩ := hrel
              go_wp2_with fail
              go_roundw
              case rel => exact ⟨j + 1, by omega, by simp, rfl, kk⟩
              case measure => simp [intOf]; omega
      · obtain rfl : j = 2 := by omega
        go_wp2_with fail
        simp only [Exit.noGoto]
        go_ret
        exact ⟨rfl, k1.then kr⟩
set_option maxRecDepth 100000 in
set_option maxHeartbeats 4000000 in
theorem may_old (w : World) {M X B r cq lo rx T W rw Q V n base : Nat} {pq : Option Addr} {out num bas last given lastv t : Int} {Lv : List (Int × Value)} {vs : Int → List (Int × List UInt8)} {L : List (Int × Value)} {D : Int → List UInt8}
    (h : MgrG w M X B r (.slice pq 0 cq) out num bas last given false) (hg : given < 1099511627776) (hv : VerG w lo X rx lastv Lv vs) (ho : OldV Lv vs t) (hT : TxT w T W Q t) (hb : BufAt w W rw L) (hD : BufD w L D) (hk : ∀ x ∈ L, 0 ≤ x.1 ∧ x.1 < 258) (hl : L.length ≤ 12)
    (hV : VwT w base Q X W V t n) (hS : SpV w base V n) (hn : n ≤ 12) : Calls Tryz.prog 97 #[.pointer (some ⟨M, 0, none⟩), .pointer (some ⟨T, 0, none⟩)] w fun e w' => e = .returned (.int .i64 0) ∧ Chg [] w w' := by
  have m9 : w.cell? ⟨M, 9, none⟩ = some (.bool false) := cell_is h 9 rfl
  have m0 : w.cell? ⟨M, 0, none⟩ = some (.pointer (some ⟨X, 0, none⟩)) := cell_is h 0 rfl
  have m8 : w.cell? ⟨M, 8, none⟩ = some (.int .i64 given) := cell_is h 8 rfl
  have t3 : w.cell? ⟨T, 3, none⟩ = some (.int .i64 t) := cell_is hT 3 rfl
  have t4 : w.cell? ⟨T, 4, none⟩ = some (.pointer (some ⟨W, 0, none⟩)) := cell_is hT 4 rfl
  have t5 : w.cell? ⟨T, 5, none⟩ = some (.pointer (some ⟨Q, 0, none⟩)) := cell_is hT 5 rfl
  have kd : Chg [] w w.drew := (Chg.refl [] w).drew
  have HW := Lib.hid (waiting_none w.drew (kd.heap h (by simp)))
  have HV := Lib.hid (vset_any w.drew (hV.keep kd (Av.nil _ _)) (hS.keep0 kd) hn)
  have hS2 : ∀ wx, Chg [] w wx → wx.cell? ⟨M, 0, none⟩ = some (.pointer (some ⟨X, 0, none⟩)) ∧ wx.cell? ⟨T, 3, none⟩ = some (.int .i64 t) ∧ wx.cell? ⟨T, 4, none⟩ = some (.pointer (some ⟨W, 0, none⟩)) ∧ wx.cell? ⟨T, 5, none⟩ = some (.pointer (some ⟨Q, 0, none⟩)) :=
    fun wx k => ⟨k.cell m0 (by simp), k.cell t3 (by simp), k.cell t4 (by simp), k.cell t5 (by simp)⟩
  have HS2 := Lib.hid hS2
  have HBf := Lib.hid hb
  have HD := Lib.hid hD
  have HK := Lib.hid hk
  have HVr := Lib.hid hv
  have HOl := Lib.hid ho
  clear h hT hb hD hk hV hS hv ho hS2
  go_enter Tryz.func97, Tryz.ntmps97
  go_upto_region 3 with fail
  go_region_held3 (fun wx => wx.cell? ⟨M, 0, none⟩ = some (.pointer (some ⟨X, 0, none⟩)) ∧ wx.cell? ⟨T, 3, none⟩ = some (.int .i64 t) ∧ wx.cell? ⟨T, 4, none⟩ = some (.pointer (some ⟨W, 0, none⟩)) ∧ wx.cell? ⟨T, 5, none⟩ = some (.pointer (some ⟨Q, 0, none⟩)))
    (first
      | (with_reducible exact HS2.out _ kF) | (with_reducible exact HS2.out _ k3) | (with_reducible exact HS2.out _ k2) | (exact HS2.out _ kd))
    (first
      | (go_at_call 99; refine HW.out.mono ?_; rintro e w1 ⟨rfl, rfl⟩)
      | (go_at_call 156; refine HV.out.mono ?_; rintro e w2 ⟨U, loU, rfl, k2', hU, lU⟩; have k2 := kd.then k2')
      | (go_at_call 157; refine (bset_any w2 (HBf.out.keep k2 (by simp) (by simp)) (HD.out.keep k2) HK.out hl).mono ?_; rintro e w3 ⟨U2, loU2, most, rfl, k3', hU2, lU2⟩; have k3 := k2.then k3'; have hU3 := hU.keep0 k3')
      | (go_at_call 155; refine (check_old w3 (HVr.out.keep k3) HOl.out hU3 hU2 (by omega) (by omega)).mono ?_; rintro e w4 ⟨rfl, k4⟩; have kF := k3.then k4))
  all_goals
    have m84 := kF.cell m8 (by simp)
    have hng : ¬ (given ≥ 1099511627776) := by omega
    clear HW HV HS2 HBf HD HK HVr HOl hU hU2 hU3
    go_wp2_with fail
    go_ret
    exact ⟨rfl, kF⟩
set_option maxRecDepth 100000 in
set_option maxHeartbeats 4000000 in
theorem tcommit_old (w : World) {d : Ids} {p : Par} {cq n base loq : Nat} {pq : Option Addr} {out num bas last given : Int} {L : List (Int × Value)} {D : Int → List UInt8}
    (hN : Need w d p) (hv0 : OldV p.Lv p.vs p.t) (h : MgrG w d.M d.X d.B d.r (.slice pq 0 cq) out num bas last given false) (hg0 : 0 ≤ given) (hg : given < 1099511627776) (hq : w.ownsRow loq 3 1 (.slice pq 0 cq) 0 []) (hlq : loq ≤ w.heap.size) (hT : TxT w d.T d.W d.Q p.t) (hb : BufAt w d.W d.rw L) (hD : BufD w L D) (hk : ∀ x ∈ L, 0 ≤ x.1 ∧ x.1 < 258) (hl : L.length ≤ 12) (hl0 : 0 < L.length)
    (hV : VwT w base d.Q d.X d.W d.V p.t n) (hS : SpV w base d.V n) (hn : n ≤ 12) : Calls Tryz.prog 54 #[.pointer (some ⟨d.M, 0, none⟩), .int .i64 p.h] w fun e w' =>
    ∃ g c, e = .returned (.int .i64 0) ∧ Chg (d.M :: d.T :: (Value.slice pq 0 cq).ownBlock.toList) w w' ∧ MgrG w' d.M d.X d.B d.r (.slice (some ⟨g, 0, none⟩) 1 c) out num bas last (given + 1) false ∧ w'.ownsRow loq 3 1 (.slice (some ⟨g, 0, none⟩) 1 c) 1 [.int .i64 p.h] ∧ TxW w' d.T d.W d.Q (given + 1) p.t := by
  have HO := Lib.hid (topen_gen w hN hT)
  have t4 : w.cell? ⟨d.T, 4, none⟩ = some (.pointer (some ⟨d.W, 0, none⟩)) := cell_is hT 4 rfl
  have HLn := Lib.hid (blen_any w hb hD hk (by omega))
  have hver := hN.ver
  have HMy := Lib.hid (fun w1 (k : Chg [] w w1) => may_old w1 (k.heap h (by simp)) hg (hver.keep k) hv0 (k.heap hT (by simp)) (hb.keep k (by simp) (by simp)) (hD.keep k) hk hl (hV.keep k (Av.nil _ _)) (hS.keep0 k) hn)
  have hMT : d.M ≠ d.T := heap_ne h hT (by simp)
  have HM := Lib.hid h
  have HT := Lib.hid hT
  have HQ := Lib.hid hq
  have hl0i : ¬ (L.length : Int) = 0 := by omega
  have HL0 := Lib.hid hl0i
  clear hN hb hD hV hS hver h hT hq
  go_enter Tryz.func54, Tryz.ntmps54
  go_wp2_with fail
  refine HO.out.mono ?_
  rintro e w1 ⟨rfl, rfl⟩
  go_wp2_with fail
  refine HLn.out.mono ?_
  rintro e w1 ⟨rfl, k1⟩
  go_wp2_with fail
  refine (HMy.out w1 k1).mono ?_
  rintro e w2 ⟨rfl, k2'⟩
  have k2 := k1.then k2'
  have hM2 := k2.heap HM.out (by simp)
  have hT2 := k2.heap HT.out (by simp)
  have hq2 := ownsRow_av HQ.out k2 (Av.nil _ _)
  have hs2 := k2.size
  have m8 : w2.cell? ⟨d.M, 8, none⟩ = some (.int .i64 given) := cell_is hM2 8 rfl
  have f8 := unfrozen hM2 8
  have m3 : w2.cell? ⟨d.M, 3, none⟩ = some (.slice pq 0 cq) := cell_is hM2 3 rfl
  have f3 := unfrozen hM2 3
  have t0 : w2.cell? ⟨d.T, 0, none⟩ = some (.int .i64 1) := cell_is hT2 0 rfl
  have t1 : w2.cell? ⟨d.T, 1, none⟩ = some (.int .i64 0) := cell_is hT2 1 rfl
  have ft0 := unfrozen hT2 0
  have ft1 := unfrozen hT2 1
  have hgw : wrap64 (given + 1) = given + 1 := by unfold wrap64; omega
  have kS := ((((Chg.refl [] w2).mono (T := [d.M, d.T]) (fun x hx _ => by cases hx)).then_set (g := d.M) (fun _ => by simp) 8 (.int .i64 (given + 1))).then_set (g := d.T) (fun _ => by simp) 0 (.int .i64 2)).then_set (g := d.T) (fun _ => by simp) 1 (.int .i64 (given + 1))
  have hMS : MgrG (((w2.setCell ⟨d.M, 8, none⟩ (.int .i64 (given + 1))).setCell ⟨d.T, 0, none⟩ (.int .i64 2)).setCell ⟨d.T, 1, none⟩ (.int .i64 (given + 1))) d.M d.X d.B d.r (.slice pq 0 cq) out num bas last (given + 1) false :=
    heap_set_ne (heap_set_ne (heap_set hM2 8 _ rfl) hMT _ _) hMT _ _
  have hTS : TxW (((w2.setCell ⟨d.M, 8, none⟩ (.int .i64 (given + 1))).setCell ⟨d.T, 0, none⟩ (.int .i64 2)).setCell ⟨d.T, 1, none⟩ (.int .i64 (given + 1))) d.T d.W d.Q (given + 1) p.t :=
    heap_set (heap_set (heap_set_ne hT2 hMT.symm _ _) 0 _ rfl) 1 _ rfl
  have avS : Av w2 [d.M, d.T] [3] := fun x hx cs t fr hh => by
    simp at hx
    rcases hx with rfl | rfl
    · rw [show w2.heap[d.M]? = _ from hM2] at hh; cases hh; simp
    · rw [show w2.heap[d.T]? = _ from hT2] at hh; cases hh; simp
  have hqS := ownsRow_av hq2 kS avS
  clear HMy HLn HO k1 k2' t4
  go_upto_region 14 with fail
  have hsS : loq ≤ (((w2.setCell ⟨d.M, 8, none⟩ (.int .i64 (given + 1))).setCell ⟨d.T, 0, none⟩ (.int .i64 2)).setCell ⟨d.T, 1, none⟩ (.int .i64 (given + 1))).heap.size := by have := kS.size; omega
  clear m8 f8 m3 f3 t0 t1 ft0 ft1 avS hq2
  generalize ((w2.setCell ⟨d.M, 8, none⟩ (.int .i64 (given + 1))).setCell ⟨d.T, 0, none⟩ (.int .i64 2)).setCell ⟨d.T, 1, none⟩ (.int .i64 (given + 1)) = wS at *
  have m3 : wS.cell? ⟨d.M, 3, none⟩ = some (.slice pq 0 cq) := cell_is hMS 3 rfl
  go_wp2_with (at_builtin; refine wpList_append_lit rfl (.tmp 59) (.tmp 61) 62 3 rfl ty62 inf3 rfl (by decide) loq wS [.int .i64 p.h] 1 rfl (.slice pq 0 cq) 0 [] rfl hqS (by omega) (by decide) hsS (k := 0) rfl (by simp [Value.oneCell']) rfl 1 rfl ?_; intro v' w4 hap; obtain ⟨g4, c4, rfl⟩ := own_some hap.1 (by decide); have k4 : Chg (Value.slice pq 0 cq).ownBlock.toList wS w4 := Chg.own hap.2.2 (fun g hg _ => by have hg2 : (Value.slice pq 0 cq).ownBlock = some g := hg; simp [hg2]); have hM4 := k4.heap hMS (own_block_ne hqS hMS (by decide)); have m34 := cell_is hM4 3 rfl; have f34 := unfrozen hM4 3)
  have hT4 := k4.heap hTS (own_block_ne hqS hTS (by decide))
  have hset := Chg.set w4 d.M 3 (.slice (some ⟨g4, 0, none⟩) (0 + 1) c4)
  have hq4 := ownsRow_av hap.1 hset (Av.row hM4 (by decide))
  go_ret
  refine ⟨g4, c4, rfl, ?_, heap_set hM4 3 _ rfl, hq4, heap_set_ne hT4 hMT.symm _ _⟩
  refine (((k2.mono (fun x hx _ => by cases hx)).then (kS.mono ?_)).then (k4.mono ?_)).then (hset.mono ?_)
  · intro x hx _; simp only [List.mem_cons, List.not_mem_nil, or_false] at hx; rcases hx with rfl | rfl <;> simp
  · intro x hx _; exact List.mem_cons_of_mem _ (List.mem_cons_of_mem _ hx)
  · intro x hx _; rw [List.mem_singleton] at hx; subst hx; exact List.mem_cons_self
end Go.Proofs.YtfodeeejolkkfaaGreat
namespace Go.Proofs.YtfodeeejolkkfaaGreat
open Go.RowKit Go.Lib

/-- the manager behind a Begin. -/
def begS (s : Gs) (T : Nat) : Gs := { s with bl := s.bl + 1, Lb := [(s.bl + 1, .int .i64 s.last)], Lr := putL s.Lr (s.bl + 1) (.pointer (some ⟨T, 0, none⟩)) }
/-- a transaction that has begun. -/
def begP (s : Gs) : Par := ⟨s.bl + 1, s.last, s.lo, s.lastv, s.Lv, s.vs⟩
/-- a store about its transaction. -/
def StoF (lw : Nat) (d : Ids) (s : Gs) (g : Gd) (w : World) : Prop := Sto w lw d s g
theorem fr_sto {lw base : Nat} {d : Ids} {s : Gs} {g : Gd} {p : Par} (hl : d.rx < base ∧ d.rb < base ∧ d.r < base) (hg : getL s.Lr p.h = some (.pointer (some ⟨d.T, 0, none⟩))) (e1 : p.lo = s.lo) (e2 : p.last = s.lastv) (e3 : p.Lv = s.Lv) (e4 : p.vs = s.vs) : Fr base d p (StoF lw d s g) := by
  refine ⟨fun w h => ?_, fun a b ho h => ?_⟩
  · have h' : Sto w lw d s g := h
    exact ⟨cell_is h'.store 0 rfl, cell_is h'.store 5 rfl, cell_is h'.store 9 rfl, ⟨_, h'.dev.hdr⟩, h'.mx.cells.1, h'.mx.cells.2.2.1, ⟨_, h'.mx.map, hg⟩, by rw [e1, e2, e3, e4]; exact h'.mx.ver⟩
  · have h' : Sto a lw d s g := h
    obtain ⟨T, h1, h2⟩ := ho
    refine h'.keepA h1 (fun x hx cs t fr hh ht => ?_) (fun hm => ?_) (fun hm => ?_) (fun hm => ?_)
    · rcases (h2 x hx).2 cs t fr hh with rfl | rfl | rfl <;> simp at ht
    · have := (h2 _ hm).1; omega
    · have := (h2 _ hm).1; omega
    · have := (h2 _ hm).1; omega
/-- what a store's Begin leaves. -/
def BegT (w w' : World) (lw : Nat) (d : Ids) (s : Gs) (g : Gd) : Prop := ∃ T W rw Q V, Cs lw w w' ∧ w.heap.size ≤ T ∧
  Su w' w.heap.size { d with T := T, W := W, rw := rw, Q := Q, V := V } (begP s) (StoF lw { d with T := T, W := W, rw := rw, Q := Q, V := V } (begS s T) g) (fun b => bytT (s.vs b) s.last) [] 0
set_option maxRecDepth 100000 in
theorem sbegin_gen (w : World) {lw : Nat} {d : Ids} {s : Gs} {g : Gd} (h : Sto w lw d s g) (hLb : s.Lb = []) (h0 : 0 ≤ s.last) (h1 : s.last ≤ 1099511627776) (hb0 : 0 ≤ s.bl) (hb1 : s.bl ≤ 1000000) :
    Calls Tryz.prog 28 #[.pointer (some ⟨d.P, 0, none⟩)] w fun e w' => e = .returned (.tuple #[.int .i64 (s.bl + 1), .int .i64 0]) ∧ BegT w w' lw d s g := by
  have HD := Lib.hid (dead_g w h.store)
  have p5 : w.cell? ⟨d.P, 5, none⟩ = some (.pointer (some ⟨d.M, 0, none⟩)) := cell_is h.store 5 rfl
  have HB := Lib.hid (tbegin_gen w h.mx hLb h0 h1 hb0 hb1)
  have HS := Lib.hid h
  clear h hLb h0 h1 hb0 hb1
  go_enter Tryz.func28, Tryz.ntmps28
  go_wp2_with fail
  refine HD.out.mono ?_
  rintro e w1 ⟨rfl, rfl⟩
  go_wp2_with fail
  refine HB.out.mono ?_
  rintro e w1 ⟨rfl, T, W, rw, Q, V, k1, hx, hT, hb, hv, hs, n1, n2, n3, b1, b2, b3, b4, b5⟩
  have hF : BegT w w1 lw d s g := by
    have hS := HS.out
    have avB : Av w [d.B, d.rb, d.r] [99, 196, 5, 130, 131, 134, 23] := fun x hx cs t fr hh => by
      simp at hx
      rcases hx with rfl | rfl | rfl
      · rw [hS.mx.book.1] at hh; cases hh; simp
      · exact absurd rfl (map_cells hS.mx.book.2 hh)
      · exact absurd rfl (map_cells hS.mx.map hh)
    have sub : ∀ ts : List Nat, (∀ t ∈ ts, t ∈ [99, 196, 5, 130, 131, 134, 23]) → Av w [d.B, d.rb, d.r] ts := fun ts hts x hx cs t fr hh ht => avB x hx cs t fr hh (hts t ht)
    have hSto : Sto w1 lw { d with T := T, W := W, rw := rw, Q := Q, V := V } (begS s T) g :=
      ⟨k1.heap hS.store (avB.ne hS.store (by simp)), k1.heap hS.slot (avB.ne hS.slot (by simp)), hS.text.keep k1 (sub _ (by decide)), hS.dev.keep k1 (sub _ (by decide)), hx, hS.ap, hS.keys, hS.bnd, hS.bndZ, Nat.le_trans hS.slo k1.size, hS.dlo⟩
    refine ⟨T, W, rw, Q, V, ⟨[d.B, d.rb, d.r], k1, fun x hx _ => ?_⟩, b1, hSto, hT, hb, (fun x hx => by cases hx), fun b _ _ => Or.inl ⟨rfl, rfl⟩, ⟨_, 0, [], hv, Nat.zero_le _, World.ownsRow_nil _ _ _ _⟩, ⟨_, [], hs, Nat.le_refl _, World.ownsRow_nil _ _ _ _⟩, b4, b5, b3⟩
    have hbn := hS.bnd
    simp at hx
    rcases hx with rfl | rfl | rfl
    · exact ⟨by omega, fun cs t fr hh => by rw [hS.mx.book.1] at hh; cases hh; simp⟩
    · exact ⟨by omega, fun cs t fr hh => absurd rfl (map_cells hS.mx.book.2 hh)⟩
    · exact ⟨by omega, fun cs t fr hh => absurd rfl (map_cells hS.mx.map hh)⟩
  have HF := Lib.hid hF
  clear hF hx hT hb hv hs k1 b1 b2 b3 b4 b5 n1 n2 n3
  go_wp2_with fail
  go_ret2
  exact ⟨rfl, HF.out⟩
/-- a buffer's entries are what its transaction sees. -/
theorem Su.bufD {w : World} {base : Nat} {d : Ids} {p : Par} {F : World → Prop} {q : Int → List UInt8} {L : List (Int × Value)} {n : Nat} (h : Su w base d p F q L n) : BufD w L q := by
  intro k v hv
  have hk := h.keys (k, v) (getL_memk hv)
  rcases h.blk k hk.1 hk.2 with ⟨e, -⟩ | ⟨g, c, e, h1, h2, h3⟩
  · rw [e] at hv; cases hv
  · rw [e] at hv
    cases hv
    exact ⟨g, c, rfl, h1, h2, h3⟩
/-- the manager behind a Commit. -/
def comS (s : Gs) (g c : Nat) : Gs := { s with qv := .slice (some ⟨g, 0, none⟩) 1 c, given := s.given + 1 }
/-- what a Commit leaves. -/
def ComR (w w' : World) (lw : Nat) (d : Ids) (s : Gs) (g : Gd) (p : Par) (L : List (Int × Value)) (q : Int → List UInt8) (k : Nat) : Prop :=
  ∃ gq cq, Sto w' lw d (comS s gq cq) g ∧ Wtx w' d (comS s gq cq) gq cq p.h k p.t p.t L q ∧ Cs lw w w'
set_option maxRecDepth 100000 in
theorem scommit_sto (w : World) {lw base loq n k : Nat} {d : Ids} {s : Gs} {g : Gd} {p : Par} {q : Int → List UInt8} {L : List (Int × Value)} {pq : Option Addr} {cq : Nat} (hf : Fr base d p (StoF lw d s g)) (h : Su w base d p (StoF lw d s g) q L n) (hqv : s.qv = .slice pq 0 cq) (hq : w.ownsRow loq 3 1 (.slice pq 0 cq) 0 []) (hlq : loq ≤ w.heap.size) (hlw : lw ≤ loq)
    (hrd : s.rd = false) (ho : OldV p.Lv p.vs p.t) (hg : s.given + 1 = (k : Nat)) (hg1 : s.given < 1099511627776) (hg0 : 0 ≤ s.given) (hl : L.length ≤ 12) (hl0 : 0 < L.length) (hn : n ≤ 12) (htab : getL s.Lr p.h = some (.pointer (some ⟨d.T, 0, none⟩))) (hbook : getL s.Lb p.h = some (.int .i64 p.t)) (hT : lw ≤ d.T) :
    Calls Tryz.prog 26 #[.pointer (some ⟨d.P, 0, none⟩), .int .i64 p.h] w fun e w' => e = .returned (.int .i64 0) ∧ ComR w w' lw d s g p L q k := by
  have hS : Sto w lw d s g := h.env
  have hN := hf.need w h.env
  have hm := hS.mx.mgr
  rw [hqv, hrd] at hm
  refine scommit_one w hN ((tcommit_old w hN ho hm hg0 hg1 hq hlq h.tx h.buf h.bufD h.keys hl hl0 h.vw h.sp hn).mono ?_)
  rintro e w' ⟨gq, c, rfl, k1, hm', ho', hT'⟩
  refine ⟨rfl, gq, c, ?_⟩
  have tp : Tp w (d.M :: d.T :: (Value.slice pq 0 cq).ownBlock.toList) [180, 173, 3] := fun x hx => by
    simp only [List.mem_cons] at hx
    rcases hx with rfl | rfl | hx
    · exact ⟨_, _, hm, by simp⟩
    · exact ⟨_, _, h.tx, by simp⟩
    · obtain ⟨-, cs, hh⟩ := own_elem hq (show (Value.slice pq 0 cq).ownBlock = some x by simpa using hx)
      exact ⟨_, _, hh, by simp⟩
  have hbn := hS.bnd
  refine ⟨⟨k1.heap hS.store ((tp.av (ts' := [99]) (by decide)).ne hS.store (by simp)), k1.heap hS.slot ((tp.av (ts' := [196]) (by decide)).ne hS.slot (by simp)), hS.text.keep k1 (tp.av (by decide)), hS.dev.keep k1 (tp.av (by decide)),
    ⟨by show MgrG w' d.M d.X d.B d.r (.slice (some ⟨gq, 0, none⟩) 1 c) s.out s.num s.bas s.last (s.given + 1) s.rd; rw [hrd]; exact hm', hS.mx.ver.keepA k1 (tp.av (by decide)) (tp.map hS.mx.ver.m), ⟨k1.heap hS.mx.book.1 ((tp.av (ts' := [270]) (by decide)).ne hS.mx.book.1 (by simp)), hS.mx.book.2.keep k1 (tp.map hS.mx.book.2)⟩, hS.mx.map.keep k1 (tp.map hS.mx.map), hS.mx.n1, hS.mx.n2, hS.mx.n3⟩, hS.ap, hS.keys, hS.bnd, hS.bndZ, Nat.le_trans hS.slo k1.size, hS.dlo⟩, ?_, Cs.of_tp k1 tp (by decide) (fun x hx => ?_)⟩
  · refine ⟨rfl, ?_, ?_, htab, by rw [← hg]; exact hT', h.buf.keep k1 ((tp.av (ts' := [272]) (by decide)).ne h.buf.1 (by simp)) (tp.map h.buf.2), h.bufD.keepA k1 (tp.av (by decide)), h.keys, hl0, by omega, hbook⟩
    · obtain ⟨pz, cz', e, hle⟩ := own_form ho'
      cases e
      omega
    · rcases ho'.2 with ⟨e, h0⟩ | ⟨g', cap', cur', e, -, hh, -, -, -, ht⟩
      · omega
      · cases e
        refine ⟨_, hh, ?_⟩
        have := congrArg (fun l => l[0]?) ht
        simpa [List.getElem?_take] using this
  · simp only [List.mem_cons] at hx
    rcases hx with rfl | rfl | hx
    · omega
    · exact hT
    · have := (own_elem hq (show (Value.slice pq 0 cq).ownBlock = some x by simpa using hx)).1
      omega
end Go.Proofs.YtfodeeejolkkfaaGreat
namespace Go.Proofs.YtfodeeejolkkfaaGreat
open Go.RowKit Go.Lib

set_option maxRecDepth 100000 in
set_option maxHeartbeats 1000000 in
theorem tend_ab (w : World) {M X B r T W Q rb : Nat} {qv : Value} {out num bas last given bl h t0 : Int} {rd : Bool} {Lr Lb : List (Int × Value)} {s0 c0 k t : Int} (hM : MgrG w M X B r qv out num bas last given rd) (hr : MapAt w r Lr) (hg : getL Lr h = some (.pointer (some ⟨T, 0, none⟩)))
    (hT : w.heap[T]? = some (.cells #[.int .i64 s0, .int .i64 k, .int .i64 c0, .int .i64 t, .pointer (some ⟨W, 0, none⟩), .pointer (some ⟨Q, 0, none⟩)] 173 (0, 0))) (hB : BookAt w B rb bl Lb) (hb : getL Lb h = some (.int .i64 t0)) :
    Calls Tryz.prog 96 #[.pointer (some ⟨M, 0, none⟩), .int .i64 h, .int .i64 4, .int .i64 0] w fun e w' => e = .returned (.tuple #[]) ∧ Chg [T, rb] w w' ∧ BookAt w' B rb bl (delL Lb h) := by
  have m2 : w.cell? ⟨M, 2, none⟩ = some (.map (some r)) := cell_is hM 2 rfl
  have m1 : w.cell? ⟨M, 1, none⟩ = some (.pointer (some ⟨B, 0, none⟩)) := cell_is hM 1 rfl
  have hl : (Instr.lookup 178 (.map (some r)) (.int .i64 h) false).run Tryz.prog w = .ok (.pointer (some ⟨T, 0, none⟩)) w := by
    have := lookup178 hr h false
    rw [hg] at this
    exact this
  have t0' : w.cell? ⟨T, 0, none⟩ = some (.int .i64 s0) := cell_is hT 0 rfl
  have t1' : w.cell? ⟨T, 1, none⟩ = some (.int .i64 k) := cell_is hT 1 rfl
  have t2' : w.cell? ⟨T, 2, none⟩ = some (.int .i64 c0) := cell_is hT 2 rfl
  have f0 := unfrozen hT 0
  have f1 := unfrozen hT 1
  have f2 := unfrozen hT 2
  have hBT : B ≠ T := heap_ne hB.1 hT (by simp)
  have hrT : rb ≠ T := map_cells hB.2 hT
  have hMT : M ≠ T := heap_ne hM hT (by simp)
  have kS : Chg [T] w (((w.setCell ⟨T, 0, none⟩ (.int .i64 4)).setCell ⟨T, 2, none⟩ (.int .i64 0)).setCell ⟨T, 1, none⟩ (.int .i64 0)) := (((Chg.refl [T] w).then_set (fun _ => by simp) 0 _).then_set (fun _ => by simp) 2 _).then_set (fun _ => by simp) 1 _
  have hBS := hB.keepT kS (by simpa using hBT) (by simpa using hrT)
  have HC := Lib.hid (bclose_ok _ hBS hb)
  have m1S := kS.cell m1 (by simpa using hMT)
  clear hM hr hg hT hB hb hBS
  go_enter Tryz.func96, Tryz.ntmps96
  go_wp2_with fail
  refine HC.out.mono ?_
  rintro e w2 ⟨rfl, h1, h2⟩
  go_wp2_with fail
  refine bodyPost_end (v := .tuple #[]) (by simp [results, Tryz.results96, go_sem]) rfl ?_
  exact ⟨rfl, (kS.mono (fun x hx _ => by simp at hx; simp [hx])).then (h2.mono (fun x hx _ => by simp at hx; simp [hx])), h1⟩
/-- a store behind an abort. -/
def abS (s : Gs) (h : Int) : Gs := { s with Lb := delL s.Lb h }
set_option maxRecDepth 100000 in
set_option maxHeartbeats 1000000 in
theorem tabort_ok (w : World) {lw base : Nat} {d : Ids} {s : Gs} {g : Gd} {p : Par} (hf : Fr base d p (StoF lw d s g)) (h : Sto w lw d s g) (hT : TxT w d.T d.W d.Q p.t) (htab : getL s.Lr p.h = some (.pointer (some ⟨d.T, 0, none⟩))) {t0 : Int} (hbook : getL s.Lb p.h = some (.int .i64 t0)) :
    Calls Tryz.prog 59 #[.pointer (some ⟨d.M, 0, none⟩), .int .i64 p.h] w fun e w' => e = .returned (.int .i64 0) ∧ Chg [d.T, d.rb] w w' ∧ BookAt w' d.B d.rb s.bl (delL s.Lb p.h) := by
  have HO := Lib.hid (topen_gen w (hf.need w h) hT)
  have HE := Lib.hid (tend_ab w h.mx.mgr h.mx.map htab hT h.mx.book hbook)
  clear hf h hT htab hbook
  go_enter Tryz.func59, Tryz.ntmps59
  go_wp2_with fail
  refine HO.out.mono ?_
  rintro e w1 ⟨rfl, rfl⟩
  go_wp2_with fail
  refine HE.out.mono ?_
  rintro e w2 ⟨rfl, h1, h2⟩
  go_wp2_with fail
  go_ret
  exact ⟨rfl, h1, h2⟩
theorem Sto.closed {w w' : World} {lw T : Nat} {d : Ids} {s : Gs} {g : Gd} {h : Int} {cs : Array Value} (hS : Sto w lw d s g) (hT : w.heap[T]? = some (.cells cs 173 (0, 0))) (hc : Chg [T, d.rb] w w') (hb : BookAt w' d.B d.rb s.bl (delL s.Lb h)) (hl : lw ≤ T) : Sto w' lw d (abS s h) g ∧ Cs lw w w' := by
  have av : Av w [T, d.rb] [99, 196, 130, 131, 134, 23, 5, 180, 260, 267, 270] := fun x hx cs t fr hh => by
    simp at hx
    rcases hx with rfl | rfl
    · rw [hT] at hh; cases hh; simp
    · exact absurd rfl (map_cells hS.mx.book.2 hh)
  have sub : ∀ ts : List Nat, (∀ t ∈ ts, t ∈ [99, 196, 130, 131, 134, 23, 5, 180, 260, 267, 270]) → Av w [T, d.rb] ts := fun ts hts x hx cs t fr hh ht => av x hx cs t fr hh (hts t ht)
  have nm : ∀ {x L}, MapAt w x L → x ≠ d.rb → x ∉ [T, d.rb] := fun hm hx => by simp; exact ⟨map_cells hm hT, hx⟩
  refine ⟨⟨hc.heap hS.store ((sub _ (by decide)).ne (ts := [99]) hS.store (by simp)), hc.heap hS.slot ((sub _ (by decide)).ne (ts := [196]) hS.slot (by simp)), hS.text.keep hc (sub _ (by decide)), hS.dev.keep hc (sub _ (by decide)), ?_, hS.ap, hS.keys, hS.bnd, hS.bndZ, Nat.le_trans hS.slo hc.size, hS.dlo⟩, [T, d.rb], hc, ?_⟩
  · exact ⟨hc.heap hS.mx.mgr ((sub [180] (by decide)).ne hS.mx.mgr (by simp)), hS.mx.ver.keepA hc (sub _ (by decide)) (nm hS.mx.ver.m hS.mx.n1), hb, hS.mx.map.keep hc (nm hS.mx.map hS.mx.n2), hS.mx.n1, hS.mx.n2, hS.mx.n3⟩
  · intro x hx _
    simp at hx
    rcases hx with rfl | rfl
    · exact ⟨hl, fun cs t fr hh => by rw [hT] at hh; cases hh; decide⟩
    · exact ⟨hS.bnd.2.2.2.2.2.2.2.1, fun cs t fr hh => absurd rfl (map_cells hS.mx.book.2 hh)⟩
set_option maxRecDepth 100000 in
set_option maxHeartbeats 1000000 in
theorem sabort_ok (w : World) {lw base : Nat} {d : Ids} {s : Gs} {g : Gd} {p : Par} (hf : Fr base d p (StoF lw d s g)) (h : Sto w lw d s g) (hT : TxT w d.T d.W d.Q p.t) (htab : getL s.Lr p.h = some (.pointer (some ⟨d.T, 0, none⟩))) {t0 : Int} (hbook : getL s.Lb p.h = some (.int .i64 t0)) (hl : lw ≤ d.T) :
    Calls Tryz.prog 29 #[.pointer (some ⟨d.P, 0, none⟩), .int .i64 p.h] w fun e w' => e = .returned (.int .i64 0) ∧ Sto w' lw d (abS s p.h) g ∧ Cs lw w w' ∧ Chg [d.T, d.rb] w w' := by
  have HD := Lib.hid (dead_g w h.store)
  have HA := Lib.hid (tabort_ok w hf h hT htab hbook)
  have HC := Lib.hid (fun w' (k : Chg [d.T, d.rb] w w') hb => h.closed (h := p.h) (w' := w') hT k hb hl)
  have c5 : w.cell? ⟨d.P, 5, none⟩ = some (.pointer (some ⟨d.M, 0, none⟩)) := (hf.need w h).p5
  clear hf h hT htab hbook hl
  go_enter Tryz.func29, Tryz.ntmps29
  go_wp2_with fail
  refine HD.out.mono ?_
  rintro e w1 ⟨rfl, rfl⟩
  go_wp2_with fail
  refine HA.out.mono ?_
  rintro e w2 ⟨rfl, h1, h2⟩
  have h3 := HC.out w2 h1 h2
  clear h2
  go_wp2_with fail
  go_ret
  exact ⟨rfl, h3.1, h3.2, h1⟩
end Go.Proofs.YtfodeeejolkkfaaGreat
namespace Go.Proofs.YtfodeeejolkkfaaGreat
open Go.RowKit Go.Lib

/-- a manager without transactions. -/
def s00 (lw : Nat) : Gs := ⟨.slice none 0 0, 0, 0, 0, 0, 0, false, lw, 0, [], fun _ => [], 0, [], []⟩
/-- an empty log on an empty device. -/
def g00 (lw : Nat) (ops : Int) : Gd := ⟨0, 0, 1, .slice none 0 0, 0, lw, ops, fun _ => .slice none 0 0, fun _ => 0, fun _ => []⟩
/-- the parts' places, without a transaction. -/
def d00 (N A c : Nat) (Z : List Nat) (P S M X rx B rb r : Nat) : Ids := ⟨P, N, S, M, X, rx, B, rb, r, A, c, Z, 0, 0, 0, 0, 0⟩
theorem Mk.sto {w wx : World} {lw N A c : Nat} {ops : Int} {Z : List Nat} {P S M X rx B rb r : Nat} (h : Mk w wx N A c ops Z P S M X rx B rb r) (hx : ExAt wx S N A Z) (n1 : rx ≠ rb) (n2 : r ≠ rb) (n3 : r ≠ rx) (hb : lw ≤ P ∧ lw ≤ N ∧ lw ≤ S ∧ lw ≤ M ∧ lw ≤ X ∧ lw ≤ rx ∧ lw ≤ B ∧ lw ≤ rb ∧ lw ≤ r) (hZ : ∀ z ∈ Z, lw ≤ z) (hl : lw ≤ wx.heap.size) :
    Sto wx lw (d00 N A c Z P S M X rx B rb r) (s00 lw) (g00 lw ops) := by
  obtain ⟨k2, hD2, hP2, hS2, hm2, hx2, hb2, hr2⟩ := h
  exact ⟨hP2, hS2, Or.inl rfl, hD2.full hx lw, ⟨hm2, hx2.full lw, hb2, hr2, n1, n2, n3⟩, fun b c v u g _ h => (by cases h), fun p hp => (by cases hp), ⟨hb.1, hb.2.1, hb.2.2.1, hb.2.2.2.1, hb.2.2.2.2.1, hb.2.2.2.2.2.1, hb.2.2.2.2.2.2.1, hb.2.2.2.2.2.2.2.1, hb.2.2.2.2.2.2.2.2, Nat.le_refl _, Nat.le_refl _⟩, hZ, hl, hb.2.1⟩
/-- a transaction's state is kept where other blocks change. -/
theorem Su.keepA {w w' : World} {U : List Nat} {base : Nat} {d : Ids} {p : Par} {F : World → Prop} {q : Int → List UInt8} {L : List (Int × Value)} {n : Nat} (h : Su w base d p F q L n) (hc : Chg U w w') (hU : Av w U [173, 272, 275, 285, 117, 312, 5]) (hr : d.rw ∉ U) (hF : F w') : Su w' base d p F q L n := by
  have sub : ∀ ts : List Nat, (∀ t ∈ ts, t ∈ [173, 272, 275, 285, 117, 312, 5]) → Av w U ts := fun ts hts x hx cs t fr hh ht => hU x hx cs t fr hh (hts t ht)
  refine ⟨hF, hc.heap h.tx (hU.ne h.tx (by simp)), h.buf.keep hc (hU.ne h.buf.1 (by simp)) hr, h.keys, fun b h0 h1 => ?_, h.vw.keep hc (sub _ (by decide)), h.sp.keep hc (sub _ (by decide)), h.high⟩
  rcases h.blk b h0 h1 with e | ⟨g, c, e1, e2, e3, e4⟩
  · exact Or.inl e
  · have hn : g ∉ U := Bt.av e4 hU (by simp)
    exact Or.inr ⟨g, c, e1, e2.chgT hc hn, e3, Bt.keep e4 hc hn⟩
/-- a world of law 26 that has begun its first transaction. -/
def FrS (lw : Nat) (w' : World) (P K G : Nat) (c : World → Prop) : Prop :=
  ∃ base d ops, d.P = P ∧ Sc w' base d (begP (s00 lw)) (StoF lw d (begS (s00 lw) d.T) (g00 lw ops)) f0 [] 0 ∧ (d.rx < base ∧ d.rb < base ∧ d.r < base) ∧ lw ≤ d.T ∧ lw ≤ base ∧ WdAt w' K P G 1 ∧ (0 ≤ ops ∧ ops ≤ 2) ∧ c w'
set_option maxRecDepth 100000 in
set_option maxHeartbeats 1000000 in
theorem wbegin3 (w : World) {lw N A c : Nat} {ops : Int} {Z : List Nat} {P S M X rx B rb r K G Y : Nat} (h : Sto w lw (d00 N A c Z P S M X rx B rb r) (s00 lw) (g00 lw ops)) (hG : RmAt w G Y (.slice none 0 0) (.slice none 0 0) (.slice none 0 0) 0) (hK : WdAt w K P G 0) (hb : lw ≤ G ∧ lw ≤ K) (hl : lw ≤ w.heap.size) (hops : 0 ≤ ops ∧ ops ≤ 2) :
    Calls Tryz.prog 45 #[.pointer (some ⟨K, 0, none⟩)] w fun e w' => e = .returned (.bool true) ∧ FrS lw w' P K G (fun w' => ∃ U, Chg U w w' ∧ ∀ x ∈ U, x < w.heap.size → lw ≤ x) := by
  have c0 : w.cell? ⟨K, 0, none⟩ = some (.pointer (some ⟨P, 0, none⟩)) := cell_is hK 0 rfl
  have HB : Hid (Calls Tryz.prog 28 #[.pointer (some ⟨P, 0, none⟩)] w fun e w' => e = .returned (.tuple #[.int .i64 1, .int .i64 0]) ∧ BegT w w' lw (d00 N A c Z P S M X rx B rb r) (s00 lw) (g00 lw ops)) :=
    Lib.hid (sbegin_gen w h rfl (show (0 : Int) ≤ 0 by decide) (show (0 : Int) ≤ 1099511627776 by decide) (show (0 : Int) ≤ 0 by decide) (show (0 : Int) ≤ 1000000 by decide))
  have hKG : K ≠ G := heap_ne hK hG (by simp)
  have HS := Lib.hid h
  clear h
  go_enter Tryz.func45, Tryz.ntmps45
  go_wp2_with fail
  refine HB.out.mono ?_
  rintro e w1 ⟨rfl, T, W, rw, Q, V, cs1, hT1, hSu⟩
  have hK1 : WdAt w1 K P G 0 := cs1.heap hK (by decide)
  have hG1 := cs1.heap hG (by decide)
  have c1 : w1.cell? ⟨K, 1, none⟩ = some (.pointer (some ⟨G, 0, none⟩)) := cell_is hK1 1 rfl
  have HSu := Lib.hid hSu
  clear hSu HB
  go_wp2_with fail
  refine (rbegin_one w1 hG1).mono ?_
  rintro e w2 ⟨rfl, k2⟩
  have hK2 : WdAt w2 K P G 0 := k2.heap hK1 (by simpa using hKG)
  have c2 : w2.cell? ⟨K, 2, none⟩ = some (.int .i64 0) := cell_is hK2 2 rfl
  have f2 := unfrozen hK2 2
  have k3 := Chg.set w2 K 2 (.int .i64 1)
  have hK3 : WdAt (w2.setCell ⟨K, 2, none⟩ (.int .i64 1)) K P G 1 := heap_set hK2 2 _ rfl
  have kk : Chg [G, K] w1 (w2.setCell ⟨K, 2, none⟩ (.int .i64 1)) := (k2.mono (fun x hx _ => by simp at hx; simp [hx])).then (k3.mono (fun x hx _ => by simp at hx; simp [hx]))
  have hF : FrS lw (w2.setCell ⟨K, 2, none⟩ (.int .i64 1)) P K G (fun w' => ∃ U, Chg U w w' ∧ ∀ x ∈ U, x < w.heap.size → lw ≤ x) := by
    have tp : Tp w1 [G, K] [163, 48] := fun x hx => by
      simp at hx
      rcases hx with rfl | rfl
      · exact ⟨_, _, hG1, by simp⟩
      · exact ⟨_, _, hK1, by simp⟩
    have hSu := HSu.out
    have hSto : Sto w1 lw { d00 N A c Z P S M X rx B rb r with T := T, W := W, rw := rw, Q := Q, V := V } (begS (s00 lw) T) (g00 lw ops) := hSu.env
    have hSto2 := hSto.keepA kk (tp.av (by decide)) (tp.map hSto.mx.ver.m) (tp.map hSto.mx.book.2) (tp.map hSto.mx.map)
    have h3 := hSu.keepA kk (tp.av (by decide)) (tp.map hSu.buf.2) hSto2
    have e0 : (fun b => bytT ((s00 lw).vs b) (s00 lw).last) = fun b => packB (f0 b) := by funext b; exact zero_pack.symm
    rw [e0] at h3
    obtain ⟨U, u1, u2⟩ := cs1
    have hs := HS.out.mx
    refine ⟨w.heap.size, _, ops, rfl, ⟨h3, f0_five⟩, ⟨hs.ver.m.lt, hs.book.2.lt, hs.map.lt⟩, Nat.le_trans hl hT1, hl, hK3, hops, U ++ [G, K], (u1.mono (fun x hx _ => List.mem_append_left _ hx)).trans kk (fun x hx _ => List.mem_append_right _ hx), fun x hx hlt => ?_⟩
    rcases List.mem_append.1 hx with hx | hx
    · exact (u2 x hx hlt).1
    · simp at hx
      rcases hx with rfl | rfl
      · exact hb.1
      · exact hb.2
  have HF := Lib.hid hF
  clear hF hG1 hK1 hK2 k2 k3 kk hK3 cs1 HSu HS hT1
  go_wp2_with fail
  go_ret
  exact ⟨rfl, HF.out⟩
/-- a new world of law 26. -/
def FrR3 (w : World) (e : Ending) (w' : World) : Prop :=
  ∃ P K G, e = .returned (.tuple #[.pointer (some ⟨K, 0, none⟩), .bool true]) ∧ FrS w.heap.size w' P K G (fun w' => Chg [] w w')
set_option maxRecDepth 100000 in
set_option maxHeartbeats 2000000 in
theorem fresh_any3 (w : World) : Calls Tryz.prog 16 #[] w (FrR3 w) := by
  have kg : Chg [] w (w.alloc (.cells #[.int .i64 8, .int .i64 96] 80)) := Chg.alloc w _
  have g0 := heap_new w (.cells #[.int .i64 8, .int .i64 96] 80)
  have a0 : (w.alloc (.cells #[.int .i64 8, .int .i64 96] 80)).cell? ⟨w.heap.size, 0, none⟩ = some (.int .i64 8) := cell_is g0 0 rfl
  have a1 : (w.alloc (.cells #[.int .i64 8, .int .i64 96] 80)).cell? ⟨w.heap.size, 1, none⟩ = some (.int .i64 96) := cell_is g0 1 rfl
  go_enter Tryz.func16, Tryz.ntmps16
  go_wp2_with fail
  generalize w.alloc (.cells #[.int .i64 8, .int .i64 96] 80) = w0 at *
  have hw0 := kg.size
  generalize hz0 : w.heap.size = z0 at *
  refine (new_any2 w0).mono ?_
  rintro e w1 ⟨N, A, c, Z, rfl, k1, hD, hO, lN, lA, lZ, hAx, hZn⟩
  have g1 := k1.heap g0 (by simp)
  have hs1 := k1.size
  have hAl := hD.A_lt
  have hNl := heap_lt hD.1
  have hZl : ∀ z ∈ Z, z < w1.heap.size := fun z hz => by
    obtain ⟨j, hj, e⟩ := List.getElem_of_mem hz
    rw [← e]
    exact heap_lt (hD.2.2.2.2 j hj)
  clear a0 a1
  go_wp2_with fail
  refine (mount_any w1 hD hO hZl (by omega) (by omega)).mono ?_
  rintro e w2 ⟨P, S, M, X, rx, B, rb, r, rfl, hM, lP, lS, lM, lX, lrx, lB, lrb, lr, n1, n2, n3⟩
  have h0l := heap_lt g0
  have k2 := hM.1
  have hX2 : ExAt w2 S N A Z := by
    obtain ⟨cs, hAx⟩ := hAx
    exact ⟨hM.2.2.2.1, ⟨cs, k2.heap hAx (by intro hm; rcases List.mem_cons.1 hm with e | hm; exact hO.1 e; exact hO.2.2 hm)⟩, hZn⟩
  have g2 := k2.heap g1 (by
    intro hm
    rcases List.mem_cons.1 hm with e | hm
    · omega
    · have := lZ _ hm; omega)
  have hs2 := k2.size
  have b0 : w2.cell? ⟨z0, 0, none⟩ = some (.int .i64 8) := cell_is g2 0 rfl
  have b1 : w2.cell? ⟨z0, 1, none⟩ = some (.int .i64 96) := cell_is g2 1 rfl
  have hSt := hM.sto (lw := z0) hX2 n1 n2 n3 (by omega) (fun z hz => by have := lZ z hz; omega) (by omega)
  have kk2 : Chg [] w w2 := (kg.then k1).trans k2 (fun x hx hlt => by
    rcases List.mem_cons.1 hx with e | hx
    · have := kg.size; omega
    · have := lZ x hx; have := kg.size; omega)
  clear hD hO hM hX2 k2 g1 g0 k1 kg
  go_wp2_with fail
  refine (rcap_min w2).mono ?_
  rintro e w3 ⟨rfl, k3⟩
  have h3 := hSt.keep k3
  have kk3 := kk2.then k3
  have hs3 := k3.size
  clear hSt b0 b1 g2
  go_wp2_with fail
  refine (rm_new w3).mono ?_
  rintro e w4 ⟨G, Y, rfl, k4, hG, lG⟩
  have h4 := h3.keep k4
  have kk4 := kk3.then k4
  have hs4 := k4.size
  clear h3
  go_wp2_with fail
  have k5 : Chg [] w4 (w4.alloc (.cells #[.pointer (some ⟨P, 0, none⟩), .pointer (some ⟨G, 0, none⟩), .int .i64 0] 48)) := Chg.alloc w4 _
  have hK := heap_new w4 (.cells #[.pointer (some ⟨P, 0, none⟩), .pointer (some ⟨G, 0, none⟩), .int .i64 0] 48)
  have h5 := h4.keep k5
  have hG5 := k5.heap hG (by simp)
  refine (wbegin3 _ h5 hG5 hK (by omega) (by have := k5.size; omega) (by omega)).mono ?_
  rintro e w6 ⟨rfl, base, d, ops, hP, hn, hlow, hdT, hbase, hw, hops, U, k6, hU⟩
  have hfin : Chg [] w w6 := (kk4.then k5).trans k6 (fun x hx hlt => by
    have := (kk4.then k5).size
    have := hU x hx (by omega)
    omega)
  have HF := Lib.hid (show FrS z0 w6 P w4.heap.size G (fun w' => Chg [] w w') from ⟨base, d, ops, hP, hn, hlow, hdT, hbase, hw, hops, hfin⟩)
  clear h4 h5 hG hG5 hK k5 k6 kk4 kk3 kk2 hn hlow hw hops hfin hU
  go_wp2_with fail
  go_ret2
  exact ⟨P, _, G, rfl, by rw [hz0]; exact HF.out⟩
end Go.Proofs.YtfodeeejolkkfaaGreat
namespace Go.Proofs.YtfodeeejolkkfaaGreat
open Go.RowKit Go.Lib

def BegX (w w' : World) (lw : Nat) (d : Ids) (s : Gs) (g : Gd) : Prop := ∃ T W rw Q V, Cs lw w w' ∧ w.heap.size ≤ T ∧
  Su w' w.heap.size { d with T := T, W := W, rw := rw, Q := Q, V := V } (begP s) (StoF lw { d with T := T, W := W, rw := rw, Q := Q, V := V } (begS s T) g) (fun b => bytT (s.vs b) s.last) [] 0 ∧ VwX w' w.heap.size Q d.X W V s.last 0 ∧ Chg [d.B, d.rb, d.r] w w'
set_option maxRecDepth 100000 in
theorem sbegin_x (w : World) {lw : Nat} {d : Ids} {s : Gs} {g : Gd} (h : Sto w lw d s g) (hLb : s.Lb = []) (h0 : 0 ≤ s.last) (h1 : s.last ≤ 1099511627776) (hb0 : 0 ≤ s.bl) (hb1 : s.bl ≤ 1000000) :
    Calls Tryz.prog 28 #[.pointer (some ⟨d.P, 0, none⟩)] w fun e w' => e = .returned (.tuple #[.int .i64 (s.bl + 1), .int .i64 0]) ∧ BegX w w' lw d s g := by
  have HD := Lib.hid (dead_g w h.store)
  have p5 : w.cell? ⟨d.P, 5, none⟩ = some (.pointer (some ⟨d.M, 0, none⟩)) := cell_is h.store 5 rfl
  have HB := Lib.hid (tbegin_gen w h.mx hLb h0 h1 hb0 hb1)
  have HS := Lib.hid h
  clear h hLb h0 h1 hb0 hb1
  go_enter Tryz.func28, Tryz.ntmps28
  go_wp2_with fail
  refine HD.out.mono ?_
  rintro e w1 ⟨rfl, rfl⟩
  go_wp2_with fail
  refine HB.out.mono ?_
  rintro e w1 ⟨rfl, T, W, rw, Q, V, k1, hx, hT, hb, hv, hs, n1, n2, n3, b1, b2, b3, b4, b5⟩
  have hF : BegX w w1 lw d s g := by
    have hS := HS.out
    have avB : Av w [d.B, d.rb, d.r] [99, 196, 5, 130, 131, 134, 23] := fun x hx cs t fr hh => by
      simp at hx
      rcases hx with rfl | rfl | rfl
      · rw [hS.mx.book.1] at hh; cases hh; simp
      · exact absurd rfl (map_cells hS.mx.book.2 hh)
      · exact absurd rfl (map_cells hS.mx.map hh)
    have sub : ∀ ts : List Nat, (∀ t ∈ ts, t ∈ [99, 196, 5, 130, 131, 134, 23]) → Av w [d.B, d.rb, d.r] ts := fun ts hts x hx cs t fr hh ht => avB x hx cs t fr hh (hts t ht)
    have hSto : Sto w1 lw { d with T := T, W := W, rw := rw, Q := Q, V := V } (begS s T) g :=
      ⟨k1.heap hS.store (avB.ne hS.store (by simp)), k1.heap hS.slot (avB.ne hS.slot (by simp)), hS.text.keep k1 (sub _ (by decide)), hS.dev.keep k1 (sub _ (by decide)), hx, hS.ap, hS.keys, hS.bnd, hS.bndZ, Nat.le_trans hS.slo k1.size, hS.dlo⟩
    refine ⟨T, W, rw, Q, V, ⟨[d.B, d.rb, d.r], k1, fun x hx _ => ?_⟩, b1, ⟨hSto, hT, hb, (fun x hx => by cases hx), fun b _ _ => Or.inl ⟨rfl, rfl⟩, ⟨_, 0, [], hv, Nat.zero_le _, World.ownsRow_nil _ _ _ _⟩, ⟨_, [], hs, Nat.le_refl _, World.ownsRow_nil _ _ _ _⟩, b4, b5, b3⟩, ⟨_, 0, [], hv, Nat.le_refl _, World.ownsRow_nil _ _ _ _⟩, k1⟩
    have hbn := hS.bnd
    simp at hx
    rcases hx with rfl | rfl | rfl
    · exact ⟨by omega, fun cs t fr hh => by rw [hS.mx.book.1] at hh; cases hh; simp⟩
    · exact ⟨by omega, fun cs t fr hh => absurd rfl (map_cells hS.mx.book.2 hh)⟩
    · exact ⟨by omega, fun cs t fr hh => absurd rfl (map_cells hS.mx.map hh)⟩
  have HF := Lib.hid hF
  clear hF hx hT hb hv hs k1 b1 b2 b3 b4 b5 n1 n2 n3
  go_wp2_with fail
  go_ret2
  exact ⟨rfl, HF.out⟩

def FrX (lw : Nat) (w' : World) (P K G : Nat) (c : World → Prop) : Prop :=
  ∃ base d ops, d.P = P ∧ Sc w' base d (begP (s00 lw)) (StoF lw d (begS (s00 lw) d.T) (g00 lw ops)) f0 [] 0 ∧ VwX w' base d.Q d.X d.W d.V 0 0 ∧ (d.rx < base ∧ d.rb < base ∧ d.r < base) ∧ lw ≤ d.T ∧ lw ≤ base ∧ WdAt w' K P G 1 ∧ (0 ≤ ops ∧ ops ≤ 2) ∧ c w'
set_option maxRecDepth 100000 in
set_option maxHeartbeats 1000000 in
theorem wbegin_x (w : World) {lw N A c : Nat} {ops : Int} {Z : List Nat} {P S M X rx B rb r K G Y : Nat} (h : Sto w lw (d00 N A c Z P S M X rx B rb r) (s00 lw) (g00 lw ops)) (hG : RmAt w G Y (.slice none 0 0) (.slice none 0 0) (.slice none 0 0) 0) (hK : WdAt w K P G 0) (hb : lw ≤ G ∧ lw ≤ K) (hl : lw ≤ w.heap.size) (hops : 0 ≤ ops ∧ ops ≤ 2) :
    Calls Tryz.prog 45 #[.pointer (some ⟨K, 0, none⟩)] w fun e w' => e = .returned (.bool true) ∧ FrX lw w' P K G (fun w' => ∃ U, Chg U w w' ∧ ∀ x ∈ U, x < w.heap.size → lw ≤ x) := by
  have c0 : w.cell? ⟨K, 0, none⟩ = some (.pointer (some ⟨P, 0, none⟩)) := cell_is hK 0 rfl
  have HB : Hid (Calls Tryz.prog 28 #[.pointer (some ⟨P, 0, none⟩)] w fun e w' => e = .returned (.tuple #[.int .i64 1, .int .i64 0]) ∧ BegX w w' lw (d00 N A c Z P S M X rx B rb r) (s00 lw) (g00 lw ops)) :=
    Lib.hid (sbegin_x w h rfl (show (0 : Int) ≤ 0 by decide) (show (0 : Int) ≤ 1099511627776 by decide) (show (0 : Int) ≤ 0 by decide) (show (0 : Int) ≤ 1000000 by decide))
  have hKG : K ≠ G := heap_ne hK hG (by simp)
  have HS := Lib.hid h
  clear h
  go_enter Tryz.func45, Tryz.ntmps45
  go_wp2_with fail
  refine HB.out.mono ?_
  rintro e w1 ⟨rfl, T, W, rw, Q, V, cs1, hT1, hSu, hVx, -⟩
  have hK1 : WdAt w1 K P G 0 := cs1.heap hK (by decide)
  have hG1 := cs1.heap hG (by decide)
  have c1 : w1.cell? ⟨K, 1, none⟩ = some (.pointer (some ⟨G, 0, none⟩)) := cell_is hK1 1 rfl
  have HSu := Lib.hid hSu
  have HVx := Lib.hid hVx
  clear hSu HB hVx
  go_wp2_with fail
  refine (rbegin_one w1 hG1).mono ?_
  rintro e w2 ⟨rfl, k2⟩
  have hK2 : WdAt w2 K P G 0 := k2.heap hK1 (by simpa using hKG)
  have c2 : w2.cell? ⟨K, 2, none⟩ = some (.int .i64 0) := cell_is hK2 2 rfl
  have f2 := unfrozen hK2 2
  have k3 := Chg.set w2 K 2 (.int .i64 1)
  have hK3 : WdAt (w2.setCell ⟨K, 2, none⟩ (.int .i64 1)) K P G 1 := heap_set hK2 2 _ rfl
  have kk : Chg [G, K] w1 (w2.setCell ⟨K, 2, none⟩ (.int .i64 1)) := (k2.mono (fun x hx _ => by simp at hx; simp [hx])).then (k3.mono (fun x hx _ => by simp at hx; simp [hx]))
  have hF : FrX lw (w2.setCell ⟨K, 2, none⟩ (.int .i64 1)) P K G (fun w' => ∃ U, Chg U w w' ∧ ∀ x ∈ U, x < w.heap.size → lw ≤ x) := by
    have tp : Tp w1 [G, K] [163, 48] := fun x hx => by
      simp at hx
      rcases hx with rfl | rfl
      · exact ⟨_, _, hG1, by simp⟩
      · exact ⟨_, _, hK1, by simp⟩
    have hSu := HSu.out
    have hSto : Sto w1 lw { d00 N A c Z P S M X rx B rb r with T := T, W := W, rw := rw, Q := Q, V := V } (begS (s00 lw) T) (g00 lw ops) := hSu.env
    have hSto2 := hSto.keepA kk (tp.av (by decide)) (tp.map hSto.mx.ver.m) (tp.map hSto.mx.book.2) (tp.map hSto.mx.map)
    have h3 := hSu.keepA kk (tp.av (by decide)) (tp.map hSu.buf.2) hSto2
    have e0 : (fun b => bytT ((s00 lw).vs b) (s00 lw).last) = fun b => packB (f0 b) := by funext b; exact zero_pack.symm
    rw [e0] at h3
    obtain ⟨U, u1, u2⟩ := cs1
    have hs := HS.out.mx
    refine ⟨w.heap.size, _, ops, rfl, ⟨h3, f0_five⟩, HVx.out.keep kk (tp.av (by decide)), ⟨hs.ver.m.lt, hs.book.2.lt, hs.map.lt⟩, Nat.le_trans hl hT1, hl, hK3, hops, U ++ [G, K], (u1.mono (fun x hx _ => List.mem_append_left _ hx)).trans kk (fun x hx _ => List.mem_append_right _ hx), fun x hx hlt => ?_⟩
    rcases List.mem_append.1 hx with hx | hx
    · exact (u2 x hx hlt).1
    · simp at hx
      rcases hx with rfl | rfl
      · exact hb.1
      · exact hb.2
  have HF := Lib.hid hF
  clear hF hG1 hK1 hK2 k2 k3 kk hK3 cs1 HSu HVx HS hT1
  go_wp2_with fail
  go_ret
  exact ⟨rfl, HF.out⟩
/-- a new world of law 26. -/
def FrRX (w : World) (e : Ending) (w' : World) : Prop :=
  ∃ P K G, e = .returned (.tuple #[.pointer (some ⟨K, 0, none⟩), .bool true]) ∧ FrX w.heap.size w' P K G (fun w' => Chg [] w w')
set_option maxRecDepth 100000 in
set_option maxHeartbeats 2000000 in
theorem fresh_x (w : World) : Calls Tryz.prog 16 #[] w (FrRX w) := by
  have kg : Chg [] w (w.alloc (.cells #[.int .i64 8, .int .i64 96] 80)) := Chg.alloc w _
  have g0 := heap_new w (.cells #[.int .i64 8, .int .i64 96] 80)
  have a0 : (w.alloc (.cells #[.int .i64 8, .int .i64 96] 80)).cell? ⟨w.heap.size, 0, none⟩ = some (.int .i64 8) := cell_is g0 0 rfl
  have a1 : (w.alloc (.cells #[.int .i64 8, .int .i64 96] 80)).cell? ⟨w.heap.size, 1, none⟩ = some (.int .i64 96) := cell_is g0 1 rfl
  go_enter Tryz.func16, Tryz.ntmps16
  go_wp2_with fail
  generalize w.alloc (.cells #[.int .i64 8, .int .i64 96] 80) = w0 at *
  have hw0 := kg.size
  generalize hz0 : w.heap.size = z0 at *
  refine (new_any2 w0).mono ?_
  rintro e w1 ⟨N, A, c, Z, rfl, k1, hD, hO, lN, lA, lZ, hAx, hZn⟩
  have g1 := k1.heap g0 (by simp)
  have hs1 := k1.size
  have hAl := hD.A_lt
  have hNl := heap_lt hD.1
  have hZl : ∀ z ∈ Z, z < w1.heap.size := fun z hz => by
    obtain ⟨j, hj, e⟩ := List.getElem_of_mem hz
    rw [← e]
    exact heap_lt (hD.2.2.2.2 j hj)
  clear a0 a1
  go_wp2_with fail
  refine (mount_any w1 hD hO hZl (by omega) (by omega)).mono ?_
  rintro e w2 ⟨P, S, M, X, rx, B, rb, r, rfl, hM, lP, lS, lM, lX, lrx, lB, lrb, lr, n1, n2, n3⟩
  have h0l := heap_lt g0
  have k2 := hM.1
  have hX2 : ExAt w2 S N A Z := by
    obtain ⟨cs, hAx⟩ := hAx
    exact ⟨hM.2.2.2.1, ⟨cs, k2.heap hAx (by intro hm; rcases List.mem_cons.1 hm with e | hm; exact hO.1 e; exact hO.2.2 hm)⟩, hZn⟩
  have g2 := k2.heap g1 (by
    intro hm
    rcases List.mem_cons.1 hm with e | hm
    · omega
    · have := lZ _ hm; omega)
  have hs2 := k2.size
  have b0 : w2.cell? ⟨z0, 0, none⟩ = some (.int .i64 8) := cell_is g2 0 rfl
  have b1 : w2.cell? ⟨z0, 1, none⟩ = some (.int .i64 96) := cell_is g2 1 rfl
  have hSt := hM.sto (lw := z0) hX2 n1 n2 n3 (by omega) (fun z hz => by have := lZ z hz; omega) (by omega)
  have kk2 : Chg [] w w2 := (kg.then k1).trans k2 (fun x hx hlt => by
    rcases List.mem_cons.1 hx with e | hx
    · have := kg.size; omega
    · have := lZ x hx; have := kg.size; omega)
  clear hD hO hM hX2 k2 g1 g0 k1 kg
  go_wp2_with fail
  refine (rcap_min w2).mono ?_
  rintro e w3 ⟨rfl, k3⟩
  have h3 := hSt.keep k3
  have kk3 := kk2.then k3
  have hs3 := k3.size
  clear hSt b0 b1 g2
  go_wp2_with fail
  refine (rm_new w3).mono ?_
  rintro e w4 ⟨G, Y, rfl, k4, hG, lG⟩
  have h4 := h3.keep k4
  have kk4 := kk3.then k4
  have hs4 := k4.size
  clear h3
  go_wp2_with fail
  have k5 : Chg [] w4 (w4.alloc (.cells #[.pointer (some ⟨P, 0, none⟩), .pointer (some ⟨G, 0, none⟩), .int .i64 0] 48)) := Chg.alloc w4 _
  have hK := heap_new w4 (.cells #[.pointer (some ⟨P, 0, none⟩), .pointer (some ⟨G, 0, none⟩), .int .i64 0] 48)
  have h5 := h4.keep k5
  have hG5 := k5.heap hG (by simp)
  refine (wbegin_x _ h5 hG5 hK (by omega) (by have := k5.size; omega) (by omega)).mono ?_
  rintro e w6 ⟨rfl, base, d, ops, hP, hn, hvx, hlow, hdT, hbase, hw, hops, U, k6, hU⟩
  have hfin : Chg [] w w6 := (kk4.then k5).trans k6 (fun x hx hlt => by
    have := (kk4.then k5).size
    have := hU x hx (by omega)
    omega)
  have HF := Lib.hid (show FrX z0 w6 P w4.heap.size G (fun w' => Chg [] w w') from ⟨base, d, ops, hP, hn, hvx, hlow, hdT, hbase, hw, hops, hfin⟩)
  clear h4 h5 hG hG5 hK k5 k6 kk4 kk3 kk2 hn hvx hlow hw hops hfin hU
  go_wp2_with fail
  go_ret2
  exact ⟨P, _, G, rfl, by rw [hz0]; exact HF.out⟩
end Go.Proofs.YtfodeeejolkkfaaGreat
namespace Go.Proofs.YtfodeeejolkkfaaGreat
open Go.RowKit Go.Lib

theorem Bs.at_ {w : World} {D o : Nat} {l : List UInt8} (h : Bs w (some ⟨D, o, none⟩) l) (j : Nat) (hj : j < l.length) : w.cell? ⟨D, o + j, none⟩ = some (.int .u8 (l[j].toNat)) := by
  rcases h with h | ⟨b', o', e, hb, h⟩
  · rw [h] at hj; simp at hj
  · cases e
    exact h j hj
theorem leB_at (v n j : Nat) (h : j < n) : ((leB v n)[j]'(by rw [leB_length]; exact h)).toNat = v / 256 ^ j % 256 := by
  simp [leB]
theorem pow256_le (j : Nat) (h : j < 8) : 256 ^ j * 256 ≤ 18446744073709551616 := by
  have h1 : 256 ^ j ≤ 256 ^ 7 := Nat.pow_le_pow_right (by decide) (by omega)
  have h2 : (256 : Nat) ^ 7 = 72057594037927936 := by decide
  omega
theorem or_le (v j : Nat) (h : j < 8) : bits .or .u64 ((v : Int) % 256 ^ j) (IntKind.u64.wrap ((v : Int) / 256 ^ j % 256 * 2 ^ (8 * j))) = ((v % 256 ^ (j + 1) : Nat) : Int) := by
  have hp := pow256_le j h
  have hp0 : 0 < 256 ^ j := Nat.pos_of_ne_zero (by simp)
  have e2 : (2 : Int) ^ (8 * j) = ((256 ^ j : Nat) : Int) := by
    rw [Int.pow_mul, Int.natCast_pow]
    rfl
  have e3 : (256 : Int) ^ j = ((256 ^ j : Nat) : Int) := by rw [Int.natCast_pow]; rfl
  have e5 : 256 ^ (j + 1) = 256 ^ j * 256 := Nat.pow_succ 256 j
  have e6 : v % 256 ^ (j + 1) = v % 256 ^ j + 256 ^ j * (v / 256 ^ j % 256) := Nat.mod_pow_succ
  have e7 : 256 ^ j = 2 ^ (8 * j) := by rw [Nat.pow_mul]
  rw [e2, e3]
  have hb : v / 256 ^ j % 256 ≤ 255 := by omega
  have ha : v % 256 ^ j < 256 ^ j := Nat.mod_lt _ hp0
  have hmul : v / 256 ^ j % 256 * 256 ^ j ≤ 255 * 256 ^ j := Nat.mul_le_mul_right _ hb
  have hor := Nat.shiftLeft_add_eq_or_of_lt (b := v % 256 ^ j) (i := 8 * j) (by rw [← e7]; exact ha) (v / 256 ^ j % 256)
  rw [Nat.shiftLeft_eq, ← e7] at hor
  have g1 : ((v : Int) % ((256 ^ j : Nat) : Int)) = ((v % 256 ^ j : Nat) : Int) := rfl
  have g2 : ((v : Int) / ((256 ^ j : Nat) : Int) % 256 * ((256 ^ j : Nat) : Int)) = ((v / 256 ^ j % 256 * 256 ^ j : Nat) : Int) := by
    rw [Int.natCast_mul]
    rfl
  rw [g1, g2]
  generalize 256 ^ j = P at *
  generalize v / P % 256 = b at *
  generalize v % P = a at *
  have hbP : b * P ≤ 255 * P := hmul
  have e8 : IntKind.u64.wrap ((b * P : Nat) : Int) = ((b * P : Nat) : Int) := by
    rw [IntKind.wrap_u64]
    omega
  rw [e8, u64_or_nat _ _ (by omega) (by omega), Nat.or_comm, ← hor, e6]
  congr 1
  rw [Nat.mul_comm]
  omega
set_option maxRecDepth 100000 in
set_option maxHeartbeats 1000000 in
theorem bget_le (w : World) {D o c m n v : Nat} {l : List UInt8} (hB : Bs w (some ⟨D, o, none⟩) l) (hl : l.length = m) (hn : n ≤ 8) (hnm : n ≤ m) (hm : m ≤ 1000) (hpre : l.take n = leB v n) :
    Calls Tryz.prog 183 #[.slice (some ⟨D, o, none⟩) m c, .int .i64 n] w fun e w' => e = .returned (.tuple #[.int .u64 (v % 256 ^ n : Nat), .bool true]) ∧ w = w' := by
  have hc : ∀ j, j < n → w.cell? ⟨D, o + j, none⟩ = some (.int .u8 ((v / 256 ^ j % 256 : Nat) : Int)) := by
    intro j hj
    have hj2 : j < l.length := by omega
    rw [hB.at_ j hj2]
    have e : l[j] = (leB v n)[j]'(by rw [leB_length]; exact hj) := by
      have h1 : (l.take n)[j]'(by simp; omega) = l[j] := by simp
      rw [← h1]
      simp only [hpre]
    rw [e, leB_at v n j hj]
  have HC := Lib.hid hc
  have hlt0 : ¬ (m : Int) < n := by omega
  have hnm1 : (n : Int) ≤ m := by omega
  clear hB hl hpre hc
  go_enter Tryz.func183, Tryz.ntmps183
  go_wp2_with fail
  go_loop [4, 6, 12] (fun a _ i => ∃ j : Nat, j ≤ n ∧ i = .int .i64 j ∧ a = .int .u64 (v % 256 ^ j : Nat)) (fun _ _ i => n - (intOf i).toNat)
  case atStart => exact ⟨0, by omega, rfl, by simp [Nat.mod_one]⟩
  case round =>
    obtain ⟨j, hj, rfl, rfl⟩ := hrel
    by_cases hlt : j < n
    · have cj := HC.out j hlt
      have hji : (j : Int) < n := by omega
      have hjm : (j : Int) < m := by omega
      have hj8 : j < 8 := by omega
      have HOr := Lib.hid (or_le v j hj8)
      clear hj8
      go_wp2_with fail
      exact ⟨⟨j + 1, by omega, by go_num, congrArg (Value.int IntKind.u64) HOr.out⟩, by simp [intOf]; omega⟩
    · obtain rfl : j = n := by omega
      go_wp2_with fail
      go_ret2
      exact ⟨rfl, rfl⟩
set_option maxRecDepth 100000 in
set_option maxHeartbeats 1000000 in
theorem clone_btc (w : World) {D o c m : Nat} {l : List UInt8} (hl : l.length = m) (hm0 : 0 < m) (hm1 : m ≤ 1000) (hb : Bs w (some ⟨D, o, none⟩) l) : Calls Tryz.prog 113 #[.slice (some ⟨D, o, none⟩) m c] w fun e w' =>
    ∃ g c', e = .returned (.slice (some ⟨g, 0, none⟩) m c') ∧ Chg [] w w' ∧ Bs w' (some ⟨g, 0, none⟩) l ∧ w.heap.size ≤ g ∧ Bt w' g ∧ m ≤ c' := by
  have hn : ∀ w, (binOp .eql 23 (.slice (some ⟨D, o, none⟩) m c) (.slice none 0 0)).run Tryz.prog w = .ok (.bool false) w := fun w => Lib.run_eql_slice_nil w 23 5 _ _ _ 0 0 Tryz.underlying23
  have HB := Lib.hid hb
  have HL := Lib.hid hl
  clear hb hl
  go_enter Tryz.func113, Tryz.ntmps113
  go_wp2_with (first | (at_builtin; refine wpList_append_bs rfl (.tmp 5) (.tmp 6) 23 5 rfl ty23 inf5c w.heap.size _ 0 [] rfl (own_empty w 5) _ m c l rfl HL.out (HB.out.keep (Below.of_alloc _ _)) (by omega) (by simp) ?_; intro v1 w1 h1; have hs1 : w.heap.size ≤ w1.heap.size := Nat.le_trans (by simp) h1.2.1.size))
  go_ret
  have hB : Below w.heap.size w w1 := (Below.of_alloc w _).trans h1.2.1
  have hb1 := h1.1
  rcases hb1.2 with ⟨e, h0⟩ | ⟨g, cap, cur, e, hA, hgt, hle, -⟩
  · omega
  · rw [e] at hb1
    refine ⟨g, cap, ?_, Chg.of_below hB, by simpa using Bs.own hb1, hA, ⟨_, hgt⟩, by omega⟩
    show Ending.returned v1 = _
    rw [e, Nat.zero_add]
theorem lt_pow4 {v : Nat} (h : v < 4294967296) : v % 256 ^ 4 = v := Nat.mod_eq_of_lt (show v < 256 ^ 4 from h)
theorem lt_pow8 {v : Nat} (h : v < 18446744073709551616) : v % 256 ^ 8 = v := Nat.mod_eq_of_lt (show v < 256 ^ 8 from h)
set_option maxRecDepth 100000 in
theorem get64_le (w : World) {D o c m v : Nat} {l : List UInt8} (hB : Bs w (some ⟨D, o, none⟩) l) (hl : l.length = m) (hnm : 8 ≤ m) (hm : m ≤ 1000) (hpre : l.take 8 = leB v 8) (hv : v < 18446744073709551616) :
    Calls Tryz.prog 143 #[.slice (some ⟨D, o, none⟩) m c] w fun e w' => e = .returned (.tuple #[.int .u64 v, .bool true]) ∧ w = w' := by
  have h := bget_le w (c := c) hB hl (by decide) hnm hm hpre
  rw [lt_pow8 hv] at h
  have H := Lib.hid h
  clear h hB hl hnm hm hpre
  go_enter Tryz.func143, Tryz.ntmps143
  go_wp2_with fail
  refine H.out.mono ?_
  rintro e w1 ⟨rfl, rfl⟩
  go_wp2_with fail
  go_ret2
  exact ⟨rfl, rfl⟩
set_option maxRecDepth 100000 in
theorem get32_le (w : World) {D o c m v : Nat} {l : List UInt8} (hB : Bs w (some ⟨D, o, none⟩) l) (hl : l.length = m) (hnm : 4 ≤ m) (hm : m ≤ 1000) (hpre : l.take 4 = leB v 4) (hv : v < 4294967296) :
    Calls Tryz.prog 144 #[.slice (some ⟨D, o, none⟩) m c] w fun e w' => e = .returned (.tuple #[.int .u32 v, .bool true]) ∧ w = w' := by
  have h := bget_le w (c := c) hB hl (by decide) hnm hm hpre
  rw [lt_pow4 hv] at h
  have H := Lib.hid h
  have hw : IntKind.u32.wrap (v : Int) = v := by rw [IntKind.wrap_u32]; omega
  clear h hB hl hnm hm hpre
  go_enter Tryz.func144, Tryz.ntmps144
  go_wp2_with fail
  refine H.out.mono ?_
  rintro e w1 ⟨rfl, rfl⟩
  go_wp2_with fail
  go_ret2
  exact ⟨rfl, rfl⟩
set_option maxRecDepth 100000 in
set_option maxHeartbeats 1000000 in
theorem eq_same (w : World) {D o c E p c' m : Nat} {l : List UInt8} (hB : Bs w (some ⟨D, o, none⟩) l) (hB2 : Bs w (some ⟨E, p, none⟩) l) (hl : l.length = m) (hm : m ≤ 1000) :
    Calls Tryz.prog 182 #[.slice (some ⟨D, o, none⟩) m c, .slice (some ⟨E, p, none⟩) m c'] w fun e w' => e = .returned (.bool true) ∧ Chg [] w w' := by
  have HB := Lib.hid hB
  have HB2 := Lib.hid hB2
  have HL := Lib.hid hl
  clear hB hB2 hl
  go_enter Tryz.func182, Tryz.ntmps182
  go_wp2_with fail
  go_loopw [5, 13] (fun _ i wr => ∃ j : Nat, j ≤ m ∧ i = .int .i64 j ∧ Chg [] w wr) (fun _ i _ => m - (intOf i).toNat)
  case atStart => exact ⟨0, by omega, rfl, Chg.refl _ _⟩
  case round =>
    obtain ⟨j, hj, rfl, kr⟩ := hrel
    by_cases hlt : j < m
    · have hj2 : j < l.length := by have := HL.out; omega
      have d0 := (HB.out.chg kr).at_ j hj2
      have d1 := (HB2.out.chg kr).at_ j hj2
      have hji : (j : Int) < m := by omega
      generalize (l[j]'hj2).toNat = x at *
      have hx : ((x : Int) != (x : Int)) = false := bne_self_eq_false _
      go_wp2_with fail
      go_quiet (fail)
      go_wp2_with fail
      exact ⟨⟨j + 1, by omega, by go_num, kr.drewN nq⟩, by simp [intOf]; omega⟩
    · obtain rfl : j = m := by omega
      go_wp2_with fail
      go_ret
      exact ⟨rfl, kr⟩
end Go.Proofs.YtfodeeejolkkfaaGreat
namespace Go.Proofs.YtfodeeejolkkfaaGreat
open Go.RowKit Go.Lib

theorem RowsAt.len {w : World} {base : Nat} {v : Value} {l : List (List UInt8)} (h : RowsAt w base v l) : ∃ pa c, v = .slice pa l.length c := by
  obtain ⟨xs, ho, -⟩ := h
  rcases ho.2 with ⟨h1, h0⟩ | ⟨g, cap, cur, e1, _, _, h1, _⟩
  · rw [h0]; exact ⟨_, _, h1⟩
  · exact ⟨_, _, e1⟩
set_option maxRecDepth 100000 in
set_option maxHeartbeats 1000000 in
theorem pointer_ok (w : World) {base N A c : Nat} {ops : Int} {Z : List Nat} {vs : Nat → Value} {gs : Nat → Nat} {zs : Nat → List (List UInt8)} (h : DevG w base N A c ops Z vs gs zs) (j : Nat) (hj : j < Z.length) :
    Calls Tryz.prog 62 #[.pointer (some ⟨N, 0, none⟩), .int .i64 j] w fun e w' => e = .returned (.tuple #[.int .i64 (zs j).length, .int .i64 0]) ∧ w = w' := by
  have HD := Lib.hid (dat_any w h j hj)
  obtain ⟨pa, cc, hv⟩ := (h.rows j (by have := h.len; omega)).len
  have z0 : w.cell? ⟨Z[j], 0, none⟩ = some (.slice pa (zs j).length cc) := by rw [← hv]; exact cell_is (h.zone j hj) 0 rfl
  clear h hv
  generalize Z[j] = z at *
  clear hj
  go_enter Tryz.func62, Tryz.ntmps62
  go_wp2_with fail
  refine HD.out.mono ?_
  rintro e w1 ⟨rfl, rfl⟩
  go_wp2_with fail
  go_ret2
  exact ⟨rfl, rfl⟩
set_option maxRecDepth 100000 in
theorem strange_any (w : World) {g o m c : Nat} {a : UInt8} {l : List UInt8} (h : Bs w (some ⟨g, o, none⟩) (a :: l)) (hm : 0 < m) :
    Calls Tryz.prog 84 #[.slice (some ⟨g, o, none⟩) m c] w fun e w' => e = .returned (.bool (decide (¬ ((a.toNat : Int) = 1) ∧ ¬ ((a.toNat : Int) = 2)))) ∧ w = w' := by
  have h0 : w.cell? ⟨g, o, none⟩ = some (.int .u8 a.toNat) := by have := h.at_ 0 (by simp); simpa using this
  clear h
  go_enter Tryz.func84, Tryz.ntmps84
  by_cases h1 : (a.toNat : Int) = 1
  · have d1 : decide ((a.toNat : Int) = 1) = true := by simp [h1]
    go_wp2_with fail
    go_ret
    exact ⟨by simp [h1], rfl⟩
  · have d1 : decide ((a.toNat : Int) = 1) = false := by simp [h1]
    by_cases h2 : (a.toNat : Int) = 2
    all_goals
      go_wp2_with fail
      go_ret
      exact ⟨by simp [h1, h2], rfl⟩
end Go.Proofs.YtfodeeejolkkfaaGreat
