/- Lemmas and walks: Walks: a batch of one transaction is done. The state of a store, in general: its parts, kept together; how the slots' text is read. Walks: how far a zone is written (zdev.Pointer 62); a row that is no frame (store.strange 84). Walks: a device with any count of ops and of reads: its parts, a block is read, it is flushed. Walks: slots of a device whose zones for the slots are empty. Walks: what stands in a log's zones is read. Walks: a frame is read. -/
import Derived.Test.YtkhionhicegfmaaGreatDe
import Derived.Test.YtkhionhicegfmaaGreatDg
namespace Go.Proofs.YtkhionhicegfmaaGreat
open Go.RowKit Go.Lib

theorem sortI_pairwise (l : List Int) : (sortI l).Pairwise (fun a b => a ≤ b) := by
  have h := List.pairwise_mergeSort (le := fun x y : Int => decide (x ≤ y)) (fun a b c h1 h2 => by simp at *; omega) (fun a b => by simp; omega) l
  exact h.imp (fun h => by simpa using h)
/-- a buffer's puts rise. -/
theorem rise_puts {L : List (Int × Value)} (D : Int → List UInt8) (hn : (L.map Prod.fst).Nodup) : Rise (putsL L D) := by
  intro i hi
  have hp := sortI_pairwise (L.map Prod.fst)
  have hd : (sortI (L.map Prod.fst)).Nodup := (sortI_perm _).nodup_iff.2 hn
  have hlen : (putsL L D).length = (sortI (L.map Prod.fst)).length := by simp [putsL]
  have h1 := (List.pairwise_iff_getElem.1 hp) i (i + 1) (by omega) (by omega) (by omega)
  have h2 := (List.pairwise_iff_getElem.1 hd) i (i + 1) (by omega) (by omega) (by omega)
  have e : ∀ j (hj : j < (putsL L D).length), ((putsL L D)[j]).1 = (sortI (L.map Prod.fst))[j]'(by omega) := fun j hj => by simp [putsL]
  rw [e, e]
  omega
theorem putsL_in {L : List (Int × Value)} (D : Int → List UInt8) (hk : ∀ x ∈ L, 0 ≤ x.1 ∧ x.1 < 258) : ∀ x ∈ putsL L D, 0 ≤ x.1 ∧ x.1 < 258 := by
  intro x hx
  obtain ⟨k, hk1, rfl⟩ := List.mem_map.1 hx
  obtain ⟨p, hp, e⟩ := List.mem_map.1 ((sortI_perm _).mem_iff.1 hk1)
  show 0 ≤ k ∧ k < 258
  rw [← e]
  exact hk p hp
/-- what of memory changes where a batch is done. -/
def Cd (lo M T rb X rx : Nat) (w w' : World) : Prop := ∃ S, Chg S w w' ∧ ∀ x ∈ S, x < w.heap.size → x = M ∨ x = T ∨ x = rb ∨ x = X ∨ x = rx ∨ (lo ≤ x ∧ ∃ cs, w.heap[x]? = some (.cells cs 262 (0, 0)))
theorem Cd.of_cv {lo M T rb X rx : Nat} {w w' : World} (h : Cv lo X rx w w') : Cd lo M T rb X rx w w' := by
  obtain ⟨S, h1, h2⟩ := h
  refine ⟨S, h1, fun x hx hl => ?_⟩
  rcases h2 x hx hl with e | e | e
  · exact Or.inr (Or.inr (Or.inr (Or.inl e)))
  · exact Or.inr (Or.inr (Or.inr (Or.inr (Or.inl e))))
  · exact Or.inr (Or.inr (Or.inr (Or.inr (Or.inr e))))
theorem Cd.of_chg {lo M T rb X rx : Nat} {S : List Nat} {w w' : World} (h : Chg S w w') (hS : ∀ x ∈ S, x = M ∨ x = T ∨ x = rb ∨ x = X ∨ x = rx) : Cd lo M T rb X rx w w' :=
  ⟨S, h, fun x hx _ => by rcases hS x hx with e | e | e | e | e <;> simp [e]⟩
theorem Cd.trans {lo M T rb X rx : Nat} {a b c : World} (h : Cd lo M T rb X rx a b) (k : Cd lo M T rb X rx b c) : Cd lo M T rb X rx a c := by
  obtain ⟨S, h1, h2⟩ := h
  obtain ⟨U, k1, k2⟩ := k
  refine ⟨S ++ U, (h1.mono (fun x hx _ => List.mem_append_left _ hx)).trans k1 (fun x hx _ => List.mem_append_right _ hx), fun x hx hlt => ?_⟩
  by_cases hT : x ∈ S
  · exact h2 x hT hlt
  · rcases List.mem_append.1 hx with h | h
    · exact absurd h hT
    · rcases k2 x h (Nat.lt_of_lt_of_le hlt h1.size) with e | e | e | e | e | ⟨e, cs, hh⟩
      · exact Or.inl e
      · exact Or.inr (Or.inl e)
      · exact Or.inr (Or.inr (Or.inl e))
      · exact Or.inr (Or.inr (Or.inr (Or.inl e)))
      · exact Or.inr (Or.inr (Or.inr (Or.inr (Or.inl e))))
      · exact Or.inr (Or.inr (Or.inr (Or.inr (Or.inr ⟨e, cs, by rw [← h1.block x hlt hT]; exact hh⟩))))
/-- one batch is taken in: the manager behind it, but for its queue. -/
structure Dn (w wr : World) (M X rx B rb r T W Q : Nat) (s : Gs) (k t h : Int) (l : List (Int × List UInt8)) : Prop where
  mx : ∃ Lv', Mx wr M X rx B rb r { s with last := k, lastv := k, Lv := Lv', vs := applyV s.vs k l, Lb := delL s.Lb h } ∧ ApL Lv' ∧ ∀ p ∈ Lv', 0 ≤ p.1 ∧ p.1 < 258
  cd : Cd s.lo M T rb X rx w wr
  tx : wr.heap[T]? = some (.cells #[.int .i64 3, .int .i64 k, .int .i64 0, .int .i64 t, .pointer (some ⟨W, 0, none⟩), .pointer (some ⟨Q, 0, none⟩)] 202 (0, 0))
/-- .. behind Apply alone. -/
theorem Mx.applied {w w' : World} {M X rx B rb r : Nat} {s : Gs} {k : Int} {Lv' : List (Int × Value)} {vs' : Int → List (Int × List UInt8)} (h : Mx w M X rx B rb r s) (hc : Cv s.lo X rx w w') (hv : VerG w' s.lo X rx k Lv' vs') : Mx w' M X rx B rb r { s with lastv := k, Lv := Lv', vs := vs' } := by
  obtain ⟨S, h1, h2⟩ := hc
  have av : ∀ ts, 253 ∉ ts → 262 ∉ ts → Av w S ts := fun ts a b => Cv.av h2 h.ver.x h.ver.m a b
  exact ⟨h1.heap h.mgr ((av [189] (by decide) (by decide)).ne h.mgr (by simp)), hv, ⟨h1.heap h.book.1 ((av [256] (by decide) (by decide)).ne h.book.1 (by simp)), h.book.2.keep h1 (Cv.map h2 h.ver.x h.book.2 h.n1.symm)⟩, h.map.keep h1 (Cv.map h2 h.ver.x h.map h.n3), h.n1, h.n2, h.n3⟩
/-- .. behind a store into the manager. -/
theorem Mx.set {w : World} {M X rx B rb r : Nat} {s s' : Gs} (h : Mx w M X rx B rb r s) (i : Nat) (v : Value) (hm : MgrG (w.setCell ⟨M, i, none⟩ v) M X B r s'.qv s'.out s'.num s'.bas s'.last s'.given s'.rd) (e1 : s'.lo = s.lo) (e2 : s'.lastv = s.lastv) (e3 : s'.Lv = s.Lv) (e4 : s'.vs = s.vs) (e5 : s'.bl = s.bl) (e6 : s'.Lb = s.Lb) (e7 : s'.Lr = s.Lr) : Mx (w.setCell ⟨M, i, none⟩ v) M X rx B rb r s' := by
  have kS := Chg.set w M i v
  refine ⟨hm, ?_, ?_, ?_, h.n1, h.n2, h.n3⟩
  · rw [e1, e2, e3, e4]
    exact h.ver.keepA kS (Av.row h.mgr (by decide)) (by simpa using map_cells h.ver.m h.mgr)
  · rw [e5, e6]
    exact ⟨kS.heap h.book.1 (by simpa using heap_ne h.book.1 h.mgr (by simp)), h.book.2.keep kS (by simpa using map_cells h.book.2 h.mgr)⟩
  · rw [e7]
    exact h.map.keep kS (by simpa using map_cells h.map h.mgr)
theorem ownsRow_low {w : World} {b b' e size n : Nat} {v : Value} {xs : List Value} (h : w.ownsRow b e size v n xs) (hb : b' ≤ b) : w.ownsRow b' e size v n xs := by
  obtain ⟨h1, h2⟩ := h
  refine ⟨h1, ?_⟩
  rcases h2 with h2 | ⟨g, cap, cur, e1, e2, e3⟩
  · exact Or.inl h2
  · exact Or.inr ⟨g, cap, cur, e1, Nat.le_trans hb e2, e3⟩
theorem TxOne.hp {w : World} {lo g c : Nat} {k : Int} {l : List (Int × List UInt8)} (h : TxOne w lo (.slice (some ⟨g, 0, none⟩) 1 c) k l) : ∃ cs, w.heap[g]? = some (.cells cs 181 (0, 0)) := by
  obtain ⟨g', c', cs, pv, e, -, -, h4, -⟩ := h
  cases e
  exact ⟨cs, h4⟩
set_option maxRecDepth 100000 in
set_option maxHeartbeats 8000000 in
theorem tdone_ok (w : World) {M X rx B rb r gq cq T W rw Q : Nat} {s : Gs} {hdl k t t0 : Int} {L : List (Int × Value)} {D : Int → List UInt8} (hx : Mx w M X rx B rb r s) (hqv : s.qv = .slice (some ⟨gq, 0, none⟩) 1 cq) (hcq : 1 ≤ cq) (hout : s.out = 1)
    (hq : w.cell? ⟨gq, 0, none⟩ = some (.int .i64 hdl)) (hg : getL s.Lr hdl = some (.pointer (some ⟨T, 0, none⟩))) (hT : TxW w T W Q k t) (hb : BufAt w W rw L) (hD : BufD w L D) (hk : ∀ x ∈ L, 0 ≤ x.1 ∧ x.1 < 258) (hl0 : 0 < L.length) (hl : L.length ≤ 16)
    (hap : ApL s.Lv) (hkeys : ∀ p ∈ s.Lv, 0 ≤ p.1 ∧ p.1 < 258) (hlo : s.lo ≤ w.heap.size) (hlast : s.lastv < k) (hk1 : k ≤ 1099511627776) (hs : ∀ c, (s.vs c).length + 16 < 1000000) (hLb : getL s.Lb hdl = some (.int .i64 t0)) (hn0 : 0 ≤ s.num) (hn1 : s.num ≤ 1000000000) :
    Calls Tryz.prog 67 #[.pointer (some ⟨M, 0, none⟩), .int .i64 0] w fun e w' => e = .returned (.int .i64 0) ∧ ∃ z, Dn w w' M X rx B rb r T W Q { s with qv := .slice (some ⟨z, 0, none⟩) 0 0, out := 0, num := s.num + 1 } k t hdl (putsL L D) ∧ w'.ownsRow w.heap.size 3 1 (.slice (some ⟨z, 0, none⟩) 0 0) 0 [] := by
  have hm := hx.mgr
  rw [hqv, hout] at hm
  have HG := Lib.hid (tgone_x w hx)
  have m4 : w.cell? ⟨M, 4, none⟩ = some (.int .i64 1) := cell_is hm 4 rfl
  have m3 : w.cell? ⟨M, 3, none⟩ = some (.slice (some ⟨gq, 0, none⟩) 1 cq) := cell_is hm 3 rfl
  have HWt := Lib.hid (waiting_one w.drew (k := k) (t := t) (show MgrG w.drew M X B r _ _ _ _ _ _ _ from hm) hq hx.map hg hT (hb.keep (Chg.refl [] w).drew (by simp) (by simp)) (hD.keep (Chg.refl [] w).drew) hk (by omega))
  have hnd : (L.map Prod.fst).Nodup := hb.2.nodup
  have hr := rise_puts D hnd
  have hin := putsL_in D hk
  have hlen : (putsL L D).length = L.length := putsL_length L D
  rw [← hlen] at hl0 hl
  have HX := Lib.hid hx
  have HT := Lib.hid hT
  have HGt := Lib.hid hg
  have HLb := Lib.hid hLb
  have HR := Lib.hid hr
  have HIn := Lib.hid hin
  have HAp := Lib.hid hap
  have HKs := Lib.hid hkeys
  have HS := Lib.hid hs
  have HN := Lib.hid (And.intro hn0 hn1)
  have HLo := Lib.hid hlo
  have HLa := Lib.hid hlast
  have HQv := Lib.hid hqv
  have HOt := Lib.hid hout
  have HL := Lib.hid (And.intro hl0 hl)
  clear hx hm hqv hout hg hT hb hD hk hnd hr hin hlen hap hkeys hlo hlast hs hLb hn0 hn1 hl0 hl
  generalize putsL L D = l at *
  have kd : Chg [] w w.drew := (Chg.refl [] w).drew
  have m4d : w.drew.cell? ⟨M, 4, none⟩ = some (.int .i64 1) := m4
  have hcqi : (1 : Int) ≤ cq := by omega
  go_enter Tryz.func67, Tryz.ntmps67
  go_wp2_with fail
  refine HG.out.mono ?_
  rintro e w1 ⟨rfl, rfl⟩
  go_wp2_with fail
  go_region_held3 (fun wx => wx.cell? ⟨M, 4, none⟩ = some (.int .i64 1))
    (first | (exact m4) | (exact m4d) | (exact k2'.cell m4d (by simp)))
    (first
      | (go_at_call 120; refine HWt.out.mono ?_; rintro e w2 ⟨v, rfl, k2', ht⟩; obtain ⟨g, c, pb, cb, rfl, hc1, hlg, hglt, g0, g1, hcb, hp⟩ := ht.open_; have hc1i : (1 : Int) ≤ c := (by omega); obtain ⟨cg, hgh⟩ := ht.hp))
  have k2 := kd.then k2'
  have m42 := k2.cell m4 (by simp)
  have m32 := k2.cell m3 (by simp)
  have q2 := k2.cell hq (by simp)
  have HP2 := Lib.hid hp
  clear k2' m4 m3 m4d hq HWt HG hp ht kd
  have kd2 : Chg [] w2 w2.drew := (Chg.refl [] w2).drew
  have m42d : w2.drew.cell? ⟨M, 4, none⟩ = some (.int .i64 1) := m42
  have m32d : w2.drew.cell? ⟨M, 3, none⟩ = some (.slice (some ⟨gq, 0, none⟩) 1 cq) := m32
  have q2d : w2.drew.cell? ⟨gq, 0, none⟩ = some (.int .i64 hdl) := q2
  go_wp2_with fail
  go_region_held3 (fun wx => wx.cell? ⟨M, 4, none⟩ = some (.int .i64 1) ∧ wx.cell? ⟨M, 3, none⟩ = some (.slice (some ⟨gq, 0, none⟩) 1 cq))
    (first | (exact ⟨m42, m32⟩) | (exact ⟨m42d, m32d⟩) | (exact ⟨k3'.cell m42d (by simp), k3'.cell m32d (by simp)⟩))
    (first
      | (go_at_call 124; refine (iclone_one w2.drew q2d).mono ?_; rintro e w3 ⟨gz, cz, rfl, k3', o3⟩))
  have k3 := k2.then (kd2.then k3')
  have hg3 := (kd2.then k3').heap hgh (by simp)
  have g03 := (kd2.then k3').cell g0 (by simp)
  have g13 := (kd2.then k3').cell g1 (by simp)
  have HP3 := Lib.hid (HP2.out.keep0 (kd2.then k3'))
  have HX3 := Lib.hid (HX.out.keep k3)
  have T3 := k3.heap HT.out (by simp)
  have z3 : w3.cell? ⟨gz, 0, none⟩ = some (.int .i64 hdl) := by
    rcases o3.2 with ⟨e, h0⟩ | ⟨g', cap', cur', e, -, hh, -, -, -, ht⟩
    · omega
    · cases e
      refine cell_is hh 0 ?_
      have := congrArg (fun l => l[0]?) ht
      simpa [List.getElem?_take] using this
  have hcz : (1 : Int) ≤ cz := by
    obtain ⟨pz, cz', e, hle⟩ := own_form o3
    cases e
    omega
  have hlo3 : s.lo ≤ w3.heap.size := Nat.le_trans HLo.out k3.size
  clear k3' m42 m32 q2 m42d m32d q2d HP2 g0 g1 o3 kd2 hgh
  go_wp2_with fail
  go_loopw [6, 7, 35] (fun _ _ i wr => (i = .int .i64 0 ∧ wr = w3) ∨ (i = .int .i64 1 ∧ Dn w wr M X rx B rb r T W Q s k t hdl l)) (fun _ _ i _ => 1 - (intOf i).toNat)
  case atStart => exact Or.inl ⟨rfl, rfl⟩
  case round =>
    rcases hrel with ⟨rfl, rfl⟩ | ⟨rfl, hDn⟩
    · rename World => wr
      have HLn := HL.out
      have HAy := Lib.hid (apply_ok wr.drew (HX3.out.keep (Chg.refl [] wr).drew).ver HAp.out HKs.out hlo3 (HP3.out.keep0 (Chg.refl [] wr).drew) HIn.out HR.out HLn.1 HLn.2 HLa.out hk1 HS.out)
      have m0 : wr.cell? ⟨M, 0, none⟩ = some (.pointer (some ⟨X, 0, none⟩)) := HX3.out.cells.1
      clear HLn
      go_wp2_with fail
      have m0d : wr.drew.cell? ⟨M, 0, none⟩ = some (.pointer (some ⟨X, 0, none⟩)) := m0
      have g0d : wr.drew.cell? ⟨g, 0, none⟩ = some (.int .i64 k) := g03
      have g1d : wr.drew.cell? ⟨g, 1, none⟩ = some (.slice pb l.length cb) := g13
      have HHg := Lib.hid (show wr.drew.heap[g]? = some (.cells cg 181 (0, 0)) from hg3)
      have HXd := Lib.hid (HX3.out.keep (Chg.refl [] wr).drew)
      go_region_held3 (fun wx => wx.cell? ⟨M, 0, none⟩ = some (.pointer (some ⟨X, 0, none⟩)) ∧ wx.cell? ⟨g, 0, none⟩ = some (.int .i64 k) ∧ wx.cell? ⟨g, 1, none⟩ = some (.slice pb l.length cb))
        (first | (exact ⟨m0, g03, g13⟩) | (exact ⟨m0d, g0d, g1d⟩) | (exact ⟨kU.cell m0d hU1, kU.cell g0d hU2, kU.cell g1d hU2⟩))
        (first
          | (go_at_call 106; refine HAy.out.mono ?_; rintro e w6 ⟨rfl, hcv, Lv', hv', hap', hk'⟩; obtain ⟨U, kU, hU⟩ := id hcv; have hU1 := (Cv.av (ts := [189]) hU HXd.out.ver.x HXd.out.ver.m (by decide) (by decide)).ne HXd.out.mgr (by simp); have hU2 := (Cv.av (ts := [181]) hU HXd.out.ver.x HXd.out.ver.m (by decide) (by decide)).ne HHg.out (by simp)))
      have hx6 := HXd.out.applied hcv hv'
      have T6 := kU.heap (show wr.drew.heap[T]? = _ from T3) ((Cv.av (ts := [202]) hU HXd.out.ver.x HXd.out.ver.m (by decide) (by decide)).ne (show wr.drew.heap[T]? = _ from T3) (by simp))
      have m76 : w6.cell? ⟨M, 7, none⟩ = some (.int .i64 s.last) := hx6.cells.2.2.2
      have f76 := unfrozen hx6.mgr 7
      have g06 := kU.cell g0d hU2
      have hMT : T ≠ M := heap_ne T6 hx6.mgr (by simp)
      have hx7 := hx6.set (s' := { s with last := k, lastv := k, Lv := Lv', vs := applyV s.vs k l }) 7 (.int .i64 k) (heap_set hx6.mgr 7 _ rfl) rfl rfl rfl rfl rfl rfl rfl
      have T7 := heap_set_ne T6 hMT 7 (.int .i64 k)
      have HE := Lib.hid (tend_ok _ hx7.mgr hx7.map HGt.out T7 hx7.book HLb.out)
      have HX7 := Lib.hid hx7
      have HT7 := Lib.hid T7
      have HC7 := Lib.hid (((Cd.of_chg (lo := s.lo) (M := M) (T := T) (rb := rb) (X := X) (rx := rx) (k3.then (Chg.refl [] wr).drew) (fun x hx => by cases hx)).trans (Cd.of_cv hcv)).trans (Cd.of_chg (Chg.set w6 M 7 (.int .i64 k)) (fun x hx => by simp at hx; simp [hx])))
      have HA7 := Lib.hid (And.intro hap' hk')
      clear hx6 hx7 T6 T7 hcv hv' hap' hk' kU hU hU1 hU2 m0 m0d g0d g1d hMT HHg HXd HAy g03 g13 T3 HX3 HP3
      go_wp2_with fail
      refine HE.out.mono ?_
      rintro e w8 ⟨rfl, k8, hb8, T8⟩
      have hDn : Dn w w8 M X rx B rb r T W Q s k t hdl l := by
        have h7 := HX7.out
        have av : ∀ ts, 202 ∉ ts → Av (w6.setCell ⟨M, 7, none⟩ (.int .i64 k)) [T, rb] ts := fun ts h1 x hx cs t' fr hh => by
          simp at hx
          rcases hx with rfl | rfl
          · rw [HT7.out] at hh; cases hh; exact h1
          · exact absurd rfl (map_cells h7.book.2 hh)
        have nT : ∀ {x L}, MapAt (w6.setCell ⟨M, 7, none⟩ (.int .i64 k)) x L → x ≠ rb → x ∉ [T, rb] := fun hm hx => by simp; exact ⟨map_cells hm HT7.out, hx⟩
        exact ⟨⟨Lv', ⟨k8.heap h7.mgr ((av [189] (by decide)).ne h7.mgr (by simp)), h7.ver.keepA k8 (av _ (by decide)) (nT h7.ver.m h7.n1), hb8, h7.map.keep k8 (nT h7.map h7.n2), h7.n1, h7.n2, h7.n3⟩, HA7.out⟩, HC7.out.trans (Cd.of_chg k8 (fun x hx => by simp at hx; rcases hx with e | e <;> simp [e])), T8⟩
      have HDn := Lib.hid hDn
      clear hDn k8 hb8 T8 HX7 HT7 HC7 HA7 HE
      go_wp2_with fail
      exact ⟨Or.inr ⟨rfl, HDn.out⟩, by decide⟩
    · obtain ⟨⟨Lv', hx, hap', hk'⟩, hcd, hT8⟩ := hDn
      rename World => wr
      have hm := hx.mgr
      dsimp only at hm
      rw [HQv.out, HOt.out] at hm
      obtain ⟨hn0, hn1⟩ := HN.out
      have m5 : wr.cell? ⟨M, 5, none⟩ = some (.int .i64 s.num) := cell_is hm 5 rfl
      have f5 := unfrozen hm 5
      have hm5 : MgrG (wr.setCell ⟨M, 5, none⟩ (.int .i64 (s.num + 1))) M X B r (.slice (some ⟨gq, 0, none⟩) 1 cq) 1 (s.num + 1) s.bas k s.given s.rd := heap_set hm 5 _ rfl
      have n3 : (wr.setCell ⟨M, 5, none⟩ (.int .i64 (s.num + 1))).cell? ⟨M, 3, none⟩ = some (.slice (some ⟨gq, 0, none⟩) 1 cq) := cell_is hm5 3 rfl
      have n4 : (wr.setCell ⟨M, 5, none⟩ (.int .i64 (s.num + 1))).cell? ⟨M, 4, none⟩ = some (.int .i64 1) := cell_is hm5 4 rfl
      have HM := Lib.hid hm
      have HM5 := Lib.hid hm5
      have HXf := Lib.hid hx
      have HA7 := Lib.hid (And.intro hap' hk')
      have HCd := Lib.hid hcd
      clear hm hm5 hx hap' hk' hcd g03 g13 HX3 HP3 T3
      go_upto_region 15 with fail
      have hx5 := HXf.out.set (s' := { s with last := k, lastv := k, Lv := Lv', vs := applyV s.vs k l, Lb := delL s.Lb hdl, num := s.num + 1 }) 5 (.int .i64 (s.num + 1)) (by rw [HQv.out, HOt.out]; exact HM5.out) rfl rfl rfl rfl rfl rfl rfl
      have HX5 := Lib.hid hx5
      have k5 := Chg.set wr M 5 (.int .i64 (s.num + 1))
      have hMT : T ≠ M := heap_ne hT8 HM.out (by simp)
      have T5 := heap_set_ne hT8 hMT 5 (.int .i64 (s.num + 1))
      clear hx5 m5 f5 hn0 hn1 hT8
      generalize wr.setCell ⟨M, 5, none⟩ (.int .i64 (s.num + 1)) = w5 at *
      have kd5 : Chg [] w5 w5.drew := (Chg.refl [] w5).drew
      have n3d : w5.drew.cell? ⟨M, 3, none⟩ = some (.slice (some ⟨gq, 0, none⟩) 1 cq) := n3
      have n4d : w5.drew.cell? ⟨M, 4, none⟩ = some (.int .i64 1) := n4
      have hcq2 : cq = 1 ∨ ¬ cq = 1 := by omega
      rcases hcq2 with hcq1 | hcq1
      · subst hcq1
        go_region_law
          (first
            | (go_simp; go_at_call 124; refine (iclone_zero w5.drew gq _ _).mono ?_; rintro e w6 ⟨zq, rfl, k6, o6⟩; have f36 := unfrozen ((kd5.then k6).heap HM5.out (by simp)) 3; have m36 : w6.cell? ⟨M, 3, none⟩ = some _ := cell_is ((kd5.then k6).heap HM5.out (by simp)) 3 rfl))
        all_goals
          have k56 := kd5.then k6
          have hx6 := HX5.out.keep k56
          have hm6 := k56.heap HM5.out (by simp)
          have T6 := k56.heap T5 (by simp)
          have f46 := unfrozen hm6 4
          have m46 : w6.cell? ⟨M, 4, none⟩ = some (.int .i64 1) := cell_is hm6 4 rfl
          have hmA : MgrG (w6.setCell ⟨M, 3, none⟩ (.slice (some ⟨zq, 0, none⟩) 0 0)) M X B r (.slice (some ⟨zq, 0, none⟩) 0 0) 1 (s.num + 1) s.bas k s.given s.rd := heap_set hm6 3 _ rfl
          have hmB : MgrG ((w6.setCell ⟨M, 3, none⟩ (.slice (some ⟨zq, 0, none⟩) 0 0)).setCell ⟨M, 4, none⟩ (.int .i64 0)) M X B r (.slice (some ⟨zq, 0, none⟩) 0 0) 0 (s.num + 1) s.bas k s.given s.rd := heap_set hmA 4 _ rfl
          have hxA := hx6.set (s' := { s with last := k, lastv := k, Lv := Lv', vs := applyV s.vs k l, Lb := delL s.Lb hdl, num := s.num + 1, qv := .slice (some ⟨zq, 0, none⟩) 0 0 }) 3 (.slice (some ⟨zq, 0, none⟩) 0 0) (by rw [HOt.out]; exact hmA) rfl rfl rfl rfl rfl rfl rfl
          have hxB := hxA.set (s' := { s with last := k, lastv := k, Lv := Lv', vs := applyV s.vs k l, Lb := delL s.Lb hdl, num := s.num + 1, qv := .slice (some ⟨zq, 0, none⟩) 0 0, out := 0 }) 4 (.int .i64 0) hmB rfl rfl rfl rfl rfl rfl rfl
          have TB := heap_set_ne (heap_set_ne T6 hMT 3 (.slice (some ⟨zq, 0, none⟩) 0 0)) hMT 4 (.int .i64 0)
          have kA := Chg.set w6 M 3 (.slice (some ⟨zq, 0, none⟩) 0 0)
          have kB := Chg.set (w6.setCell ⟨M, 3, none⟩ (.slice (some ⟨zq, 0, none⟩) 0 0)) M 4 (.int .i64 0)
          have oB := ownsRow_av (ownsRow_av o6 kA (Av.row hm6 (by decide))) kB (Av.row hmA (by decide))
          have hszd : w.heap.size ≤ w5.drew.heap.size := by
            obtain ⟨S, hS, -⟩ := HCd.out
            exact Nat.le_trans hS.size k5.size
          have one : ∀ {a b : World}, Chg [M] a b → Cd s.lo M T rb X rx a b := fun h => Cd.of_chg h (fun x hx => by simp at hx; simp [hx])
          have HFin := Lib.hid (And.intro (Dn.mk (s := { s with qv := .slice (some ⟨zq, 0, none⟩) 0 0, out := 0, num := s.num + 1 }) (w := w) (l := l) ⟨Lv', hxB, HA7.out⟩ ((((HCd.out.trans (one k5)).trans (Cd.of_chg k56 (fun x hx => by cases hx))).trans (one kA)).trans (one kB)) TB) (ownsRow_low oB hszd))
          clear hx6 hm6 T6 hmA hmB hxA hxB TB kA kB oB one k56 k6 o6 HX5 HM5 HM T5 hMT
          go_wp2_with fail
          go_ret
          exact ⟨rfl, zq, HFin.out⟩
      · go_region_law
          (first
            | (go_simp; go_at_call 124; refine (iclone_zero w5.drew gq _ _).mono ?_; rintro e w6 ⟨zq, rfl, k6, o6⟩; have f36 := unfrozen ((kd5.then k6).heap HM5.out (by simp)) 3; have m36 : w6.cell? ⟨M, 3, none⟩ = some _ := cell_is ((kd5.then k6).heap HM5.out (by simp)) 3 rfl))
        all_goals
          have k56 := kd5.then k6
          have hx6 := HX5.out.keep k56
          have hm6 := k56.heap HM5.out (by simp)
          have T6 := k56.heap T5 (by simp)
          have f46 := unfrozen hm6 4
          have m46 : w6.cell? ⟨M, 4, none⟩ = some (.int .i64 1) := cell_is hm6 4 rfl
          have hmA : MgrG (w6.setCell ⟨M, 3, none⟩ (.slice (some ⟨zq, 0, none⟩) 0 0)) M X B r (.slice (some ⟨zq, 0, none⟩) 0 0) 1 (s.num + 1) s.bas k s.given s.rd := heap_set hm6 3 _ rfl
          have hmB : MgrG ((w6.setCell ⟨M, 3, none⟩ (.slice (some ⟨zq, 0, none⟩) 0 0)).setCell ⟨M, 4, none⟩ (.int .i64 0)) M X B r (.slice (some ⟨zq, 0, none⟩) 0 0) 0 (s.num + 1) s.bas k s.given s.rd := heap_set hmA 4 _ rfl
          have hxA := hx6.set (s' := { s with last := k, lastv := k, Lv := Lv', vs := applyV s.vs k l, Lb := delL s.Lb hdl, num := s.num + 1, qv := .slice (some ⟨zq, 0, none⟩) 0 0 }) 3 (.slice (some ⟨zq, 0, none⟩) 0 0) (by rw [HOt.out]; exact hmA) rfl rfl rfl rfl rfl rfl rfl
          have hxB := hxA.set (s' := { s with last := k, lastv := k, Lv := Lv', vs := applyV s.vs k l, Lb := delL s.Lb hdl, num := s.num + 1, qv := .slice (some ⟨zq, 0, none⟩) 0 0, out := 0 }) 4 (.int .i64 0) hmB rfl rfl rfl rfl rfl rfl rfl
          have TB := heap_set_ne (heap_set_ne T6 hMT 3 (.slice (some ⟨zq, 0, none⟩) 0 0)) hMT 4 (.int .i64 0)
          have kA := Chg.set w6 M 3 (.slice (some ⟨zq, 0, none⟩) 0 0)
          have kB := Chg.set (w6.setCell ⟨M, 3, none⟩ (.slice (some ⟨zq, 0, none⟩) 0 0)) M 4 (.int .i64 0)
          have oB := ownsRow_av (ownsRow_av o6 kA (Av.row hm6 (by decide))) kB (Av.row hmA (by decide))
          have hszd : w.heap.size ≤ w5.drew.heap.size := by
            obtain ⟨S, hS, -⟩ := HCd.out
            exact Nat.le_trans hS.size k5.size
          have one : ∀ {a b : World}, Chg [M] a b → Cd s.lo M T rb X rx a b := fun h => Cd.of_chg h (fun x hx => by simp at hx; simp [hx])
          have HFin := Lib.hid (And.intro (Dn.mk (s := { s with qv := .slice (some ⟨zq, 0, none⟩) 0 0, out := 0, num := s.num + 1 }) (w := w) (l := l) ⟨Lv', hxB, HA7.out⟩ ((((HCd.out.trans (one k5)).trans (Cd.of_chg k56 (fun x hx => by cases hx))).trans (one kA)).trans (one kB)) TB) (ownsRow_low oB hszd))
          clear hx6 hm6 T6 hmA hmB hxA hxB TB kA kB oB one k56 k6 o6 HX5 HM5 HM T5 hMT
          go_wp2_with fail
          go_ret
          exact ⟨rfl, zq, HFin.out⟩
end Go.Proofs.YtkhionhicegfmaaGreat
namespace Go.Proofs.YtkhionhicegfmaaGreat
open Go.RowKit Go.Lib

/-- block S is two slots of the device N: the newer one, its text, how many texts there were. -/
def SlotG (w : World) (S N : Nat) (inn : Int) (tv : Value) (cnt : Nat) : Prop :=
  w.heap[S]? = some (.cells #[.pointer (some ⟨N, 0, none⟩), .int .i64 0, .int .i64 3, .int .i64 6, .int .i64 96, .int .i64 inn, tv, .int .i64 cnt, .bool false] 166 (0, 0))
/-- a text of the slots: none, or bytes. -/
def TextAt (w : World) (tv : Value) : Prop := tv = .slice none 0 0 ∨ ∃ g c m l, tv = .slice (some ⟨g, 0, none⟩) m c ∧ l.length = m ∧ 0 < m ∧ m ≤ 1000 ∧ Bs w (some ⟨g, 0, none⟩) l ∧ Bt w g
theorem TextAt.keep {w w' : World} {U : List Nat} {tv : Value} (h : TextAt w tv) (hc : Chg U w w') (hU : Av w U [5]) : TextAt w' tv := by
  rcases h with rfl | ⟨g, c, m, l, rfl, h1, h2, h3, h4, h5⟩
  · exact Or.inl rfl
  · have hn : g ∉ U := Bt.av h5 hU (by simp)
    exact Or.inr ⟨g, c, m, l, rfl, h1, h2, h3, h4.chgT hc hn, Bt.keep h5 hc hn⟩
/-- what Load hands back. -/
def LoadR (w : World) (cnt : Nat) (e : Ending) (w' : World) : Prop := ∃ u, e = .returned (.tuple #[u, .int .i64 cnt]) ∧ Chg [] w w'
set_option maxRecDepth 100000 in
theorem load_g (w : World) {S N : Nat} {inn : Int} {tv : Value} {cnt : Nat} (h : SlotG w S N inn tv cnt) (ht : TextAt w tv) : Calls Tryz.prog 48 #[.pointer (some ⟨S, 0, none⟩)] w (LoadR w cnt) := by
  rcases ht with rfl | ⟨g, c, m, l, rfl, hl, hm0, hm1, hb, -⟩
  · have c6 : w.cell? ⟨S, 6, none⟩ = some (.slice none 0 0) := cell_is h 6 rfl
    have c7 : w.cell? ⟨S, 7, none⟩ = some (.int .i64 cnt) := cell_is h 7 rfl
    clear h
    go_enter Tryz.func48, Tryz.ntmps48
    go_wp2_with fail
    have c6d : w.drew.cell? ⟨S, 6, none⟩ = some (.slice none 0 0) := c6
    have c7d : w.drew.cell? ⟨S, 7, none⟩ = some (.int .i64 cnt) := c7
    go_region_with (go_at_call 97; refine (clone_nil _).mono ?_; rintro e w1 ⟨rfl, rfl⟩)
    all_goals
      go_wp2_with fail
      go_ret2
      exact ⟨_, rfl, (Chg.refl _ w).drew⟩
  · have c6 : w.cell? ⟨S, 6, none⟩ = some (.slice (some ⟨g, 0, none⟩) m c) := cell_is h 6 rfl
    have c7 : w.cell? ⟨S, 7, none⟩ = some (.int .i64 cnt) := cell_is h 7 rfl
    have HB := Lib.hid hb
    have HL := Lib.hid (And.intro hl (And.intro hm0 hm1))
    clear h hb hl hm0 hm1
    go_enter Tryz.func48, Tryz.ntmps48
    go_wp2_with fail
    have c6d : w.drew.cell? ⟨S, 6, none⟩ = some (.slice (some ⟨g, 0, none⟩) m c) := c6
    have c7d : w.drew.cell? ⟨S, 7, none⟩ = some (.int .i64 cnt) := c7
    go_region_held3 (fun wx => wx.cell? ⟨S, 6, none⟩ = some (.slice (some ⟨g, 0, none⟩) m c) ∧ wx.cell? ⟨S, 7, none⟩ = some (.int .i64 cnt))
      (first | (exact ⟨c6, c7⟩) | (exact ⟨c6d, c7d⟩) | (exact ⟨k1.cell c6d (by simp), k1.cell c7d (by simp)⟩))
      (first
        | (go_at_call 97; refine (clone_bt w.drew HL.out.1 HL.out.2.1 HL.out.2.2 (HB.out.chg (Chg.refl [] w).drew)).mono ?_; rintro e w1 ⟨g', c', rfl, k1, -, -, -⟩))
    all_goals
      go_wp2_with fail
      go_ret2
      exact ⟨_, rfl, (Chg.refl [] w).drew.then k1⟩
theorem dead_g (w : World) {P N S M pos num : Nat} (h : StoreG w P N S M pos num) : Calls Tryz.prog 30 #[.pointer (some ⟨P, 0, none⟩)] w fun e w' => e = .returned (.bool false) ∧ w = w' := by
  have c0 : w.cell? ⟨P, 0, none⟩ = some (.pointer (some ⟨N, 0, none⟩)) := cell_is h 0 rfl
  have c9 : w.cell? ⟨P, 9, none⟩ = some (.bool false) := cell_is h 9 rfl
  clear h
  go_enter Tryz.func30, Tryz.ntmps30
  go_wp2_with fail
  go_ret
  exact ⟨rfl, rfl⟩
/-- all these blocks hold cells of these types. -/
def Tp (w : World) (U ts : List Nat) : Prop := ∀ x ∈ U, ∃ cs t, w.heap[x]? = some (.cells cs t (0, 0)) ∧ t ∈ ts
theorem Tp.av {w : World} {U ts ts' : List Nat} (h : Tp w U ts) (hd : ∀ t ∈ ts, t ∉ ts') : Av w U ts' := fun x hx cs t fr hh => by
  obtain ⟨cs2, t2, h2, h3⟩ := h x hx
  rw [h2] at hh
  cases hh
  exact hd _ h3
theorem Tp.map {w : World} {U ts : List Nat} {r : Nat} {L : List (Int × Value)} (h : Tp w U ts) (hm : MapAt w r L) : r ∉ U := fun hr => by
  obtain ⟨cs2, t2, h2, -⟩ := h r hr
  exact map_cells hm h2 rfl
theorem Mx.keepA {w w' : World} {U : List Nat} {M X rx B rb r : Nat} {s : Gs} (h : Mx w M X rx B rb r s) (hc : Chg U w w') (hU : Av w U [189, 253, 262, 5, 256]) (h1 : rx ∉ U) (h2 : rb ∉ U) (h3 : r ∉ U) : Mx w' M X rx B rb r s :=
  ⟨hc.heap h.mgr (hU.ne h.mgr (by simp)), h.ver.keepA hc (fun x hx cs t fr hh ht => hU x hx cs t fr hh (by simp at ht; rcases ht with rfl | rfl | rfl <;> simp)) h1, ⟨hc.heap h.book.1 (hU.ne h.book.1 (by simp)), h.book.2.keep hc h2⟩, h.map.keep hc h3, h.n1, h.n2, h.n3⟩
/-- .. when its own block alone has changed. -/
theorem Mx.chgM {w w' : World} {M X rx B rb r : Nat} {s s' : Gs} (h : Mx w M X rx B rb r s) (kS : Chg [M] w w') (hm : MgrG w' M X B r s'.qv s'.out s'.num s'.bas s'.last s'.given s'.rd) (e1 : s'.lo = s.lo) (e2 : s'.lastv = s.lastv) (e3 : s'.Lv = s.Lv) (e4 : s'.vs = s.vs) (e5 : s'.bl = s.bl) (e6 : s'.Lb = s.Lb) (e7 : s'.Lr = s.Lr) : Mx w' M X rx B rb r s' := by
  refine ⟨hm, ?_, ?_, ?_, h.n1, h.n2, h.n3⟩
  · rw [e1, e2, e3, e4]
    exact h.ver.keepA kS (Av.row h.mgr (by decide)) (by simpa using map_cells h.ver.m h.mgr)
  · rw [e5, e6]
    exact ⟨kS.heap h.book.1 (by simpa using heap_ne h.book.1 h.mgr (by simp)), h.book.2.keep kS (by simpa using map_cells h.book.2 h.mgr)⟩
  · rw [e7]
    exact h.map.keep kS (by simpa using map_cells h.map h.mgr)
/-- where a store's log, slots and device stand. -/
structure Gd where
  pos : Nat
  num : Nat
  inn : Int
  tv : Value
  cnt : Nat
  dlo : Nat
  ops : Int
  dv : Nat → Value
  gs : Nat → Nat
  zs : Nat → List (List UInt8)
/-- a store with all its parts, none of them below lw. -/
structure Sto (w : World) (lw : Nat) (d : Ids) (s : Gs) (g : Gd) : Prop where
  store : StoreG w d.P d.N d.S d.M g.pos g.num
  slot : SlotG w d.S d.N g.inn g.tv g.cnt
  text : TextAt w g.tv
  dev : DevG w g.dlo d.N d.A d.c g.ops d.Z g.dv g.gs g.zs
  mx : Mx w d.M d.X d.rx d.B d.rb d.r s
  ap : ApL s.Lv
  keys : ∀ p ∈ s.Lv, 0 ≤ p.1 ∧ p.1 < 258
  bnd : lw ≤ d.P ∧ lw ≤ d.N ∧ lw ≤ d.S ∧ lw ≤ d.M ∧ lw ≤ d.X ∧ lw ≤ d.rx ∧ lw ≤ d.B ∧ lw ≤ d.rb ∧ lw ≤ d.r ∧ lw ≤ s.lo ∧ lw ≤ g.dlo
  bndZ : ∀ z ∈ d.Z, lw ≤ z
  slo : s.lo ≤ w.heap.size
  dlo : g.dlo ≤ d.N
theorem Sto.keepA {w w' : World} {U : List Nat} {lw : Nat} {d : Ids} {s : Gs} {g : Gd} (h : Sto w lw d s g) (hc : Chg U w w') (hU : Av w U [105, 166, 93, 94, 97, 40, 5, 189, 253, 262, 256]) (h1 : d.rx ∉ U) (h2 : d.rb ∉ U) (h3 : d.r ∉ U) : Sto w' lw d s g := by
  have sub : ∀ ts : List Nat, (∀ t ∈ ts, t ∈ [105, 166, 93, 94, 97, 40, 5, 189, 253, 262, 256]) → Av w U ts := fun ts hts x hx cs t fr hh ht => hU x hx cs t fr hh (hts t ht)
  exact ⟨hc.heap h.store (hU.ne h.store (by simp)), hc.heap h.slot (hU.ne h.slot (by simp)), h.text.keep hc (sub _ (by decide)), h.dev.keep hc (sub _ (by decide)), h.mx.keepA hc (sub _ (by decide)) h1 h2 h3, h.ap, h.keys, h.bnd, h.bndZ, Nat.le_trans h.slo hc.size, h.dlo⟩
theorem Sto.keep {w w' : World} {lw : Nat} {d : Ids} {s : Gs} {g : Gd} (h : Sto w lw d s g) (hc : Chg [] w w') : Sto w' lw d s g := h.keepA hc (Av.nil _ _) (by simp) (by simp) (by simp)
/-- what of memory changes while a store works: nothing below lw. -/
def Cs (lw : Nat) (w w' : World) : Prop := ∃ U, Chg U w w' ∧ ∀ x ∈ U, x < w.heap.size → lw ≤ x ∧ ∀ cs t fr, w.heap[x]? = some (.cells cs t fr) → t ∈ [105, 189, 202, 253, 262, 93, 97, 40, 3, 256, 166]
theorem Cs.of_chg {lw : Nat} {w w' : World} (h : Chg [] w w') : Cs lw w w' := ⟨[], h, fun x hx => by cases hx⟩
theorem Cs.trans {lw : Nat} {a b c : World} (h : Cs lw a b) (k : Cs lw b c) : Cs lw a c := by
  obtain ⟨S, h1, h2⟩ := h
  obtain ⟨U, k1, k2⟩ := k
  refine ⟨S ++ U, (h1.mono (fun x hx _ => List.mem_append_left _ hx)).trans k1 (fun x hx _ => List.mem_append_right _ hx), fun x hx hlt => ?_⟩
  by_cases hT : x ∈ S
  · exact h2 x hT hlt
  · rcases List.mem_append.1 hx with h | h
    · exact absurd h hT
    · obtain ⟨e1, e2⟩ := k2 x h (Nat.lt_of_lt_of_le hlt h1.size)
      exact ⟨e1, fun cs t fr hh => e2 cs t fr (by rw [h1.block x hlt hT]; exact hh)⟩
theorem Cs.size {lw : Nat} {w w' : World} (h : Cs lw w w') : w.heap.size ≤ w'.heap.size := by obtain ⟨U, h1, -⟩ := h; exact h1.size
theorem Cs.chg0 {lw : Nat} {w0 w w' : World} (h : Chg [] w0 w) (k : Cs lw w w') (hl : w0.heap.size ≤ lw) : Chg [] w0 w' := by
  obtain ⟨U, k1, k2⟩ := k
  exact h.trans k1 (fun x hx hlt => by have := (k2 x hx (Nat.lt_of_lt_of_le hlt h.size)).1; omega)
theorem Cs.heap {lw : Nat} {w w' : World} (h : Cs lw w w') {x : Nat} {cs : Array Value} {t : TypeId} {fr : Nat × Nat} (hh : w.heap[x]? = some (.cells cs t fr)) (ht : t ∉ [105, 189, 202, 253, 262, 93, 97, 40, 3, 256, 166]) : w'.heap[x]? = some (.cells cs t fr) := by
  obtain ⟨U, k1, k2⟩ := h
  exact k1.heap hh (fun hm => ht ((k2 x hm (heap_lt hh)).2 cs t fr hh))
theorem Cs.of_tp {lw : Nat} {w w' : World} {U ts : List Nat} (h : Chg U w w') (ht : Tp w U ts) (hts : ∀ t ∈ ts, t ∈ [105, 189, 202, 253, 262, 93, 97, 40, 3, 256, 166]) (hl : ∀ x ∈ U, lw ≤ x) : Cs lw w w' :=
  ⟨U, h, fun x hx _ => ⟨hl x hx, fun cs t fr hh => by
    obtain ⟨cs2, t2, h2, h3⟩ := ht x hx
    rw [h2] at hh
    cases hh
    exact hts _ h3⟩⟩
end Go.Proofs.YtkhionhicegfmaaGreat
namespace Go.Proofs.YtkhionhicegfmaaGreat
open Go.RowKit Go.Lib

theorem RowsAt.len {w : World} {base : Nat} {v : Value} {l : List (List UInt8)} (h : RowsAt w base v l) : ∃ pa c, v = .slice pa l.length c := by
  obtain ⟨xs, ho, -⟩ := h
  rcases ho.2 with ⟨h1, h0⟩ | ⟨g, cap, cur, e1, _, _, h1, _⟩
  · rw [h0]; exact ⟨_, _, h1⟩
  · exact ⟨_, _, e1⟩
set_option maxRecDepth 100000 in
set_option maxHeartbeats 1000000 in
theorem pointer_ok (w : World) {base N A c : Nat} {ops : Int} {Z : List Nat} {vs : Nat → Value} {gs : Nat → Nat} {zs : Nat → List (List UInt8)} (h : DevG w base N A c ops Z vs gs zs) (j : Nat) (hj : j < Z.length) :
    Calls Tryz.prog 70 #[.pointer (some ⟨N, 0, none⟩), .int .i64 j] w fun e w' => e = .returned (.tuple #[.int .i64 (zs j).length, .int .i64 0]) ∧ w = w' := by
  have HD := Lib.hid (dat_any w h j hj)
  obtain ⟨pa, cc, hv⟩ := (h.rows j (by have := h.len; omega)).len
  have z0 : w.cell? ⟨Z[j], 0, none⟩ = some (.slice pa (zs j).length cc) := by rw [← hv]; exact cell_is (h.zone j hj) 0 rfl
  clear h hv
  generalize Z[j] = z at *
  clear hj
  go_enter Tryz.func70, Tryz.ntmps70
  go_wp2_with fail
  refine HD.out.mono ?_
  rintro e w1 ⟨rfl, rfl⟩
  go_wp2_with fail
  go_ret2
  exact ⟨rfl, rfl⟩
set_option maxRecDepth 100000 in
theorem strange_any (w : World) {g o m c : Nat} {a : UInt8} {l : List UInt8} (h : Bs w (some ⟨g, o, none⟩) (a :: l)) (hm : 0 < m) :
    Calls Tryz.prog 52 #[.slice (some ⟨g, o, none⟩) m c] w fun e w' => e = .returned (.bool (decide (¬ ((a.toNat : Int) = 1) ∧ ¬ ((a.toNat : Int) = 2)))) ∧ w = w' := by
  have h0 : w.cell? ⟨g, o, none⟩ = some (.int .u8 a.toNat) := by have := h.at_ 0 (by simp); simpa using this
  clear h
  go_enter Tryz.func52, Tryz.ntmps52
  by_cases h1 : (a.toNat : Int) = 1
  · have d1 : decide ((a.toNat : Int) = 1) = true := by simp [h1]
    go_wp2_with fail
    go_ret
    exact ⟨by simp [h1], rfl⟩
  · have d1 : decide ((a.toNat : Int) = 1) = false := by simp [h1]
    by_cases h2 : (a.toNat : Int) = 2
    all_goals
      go_wp2_with fail
      go_ret
      exact ⟨by simp [h1, h2], rfl⟩
end Go.Proofs.YtkhionhicegfmaaGreat
namespace Go.Proofs.YtkhionhicegfmaaGreat
open Go.RowKit Go.Lib

/-- block N is a device of eight zones: zone j has the row vs j of the blocks zs j, of which gs j are for good. -/
structure DevK (w : World) (base N A c : Nat) (ops rds : Int) (Z : List Nat) (vs : Nat → Value) (gs : Nat → Nat) (zs : Nat → List (List UInt8)) : Prop where
  hdr : w.heap[N]? = some (.cells #[.int .i64 8, .int .i64 96, .slice (some ⟨A, 0, none⟩) 8 c, .int .i64 ops, .int .i64 rds, .bool false, .int .i64 0, .bool false] 93 (0, 0))
  cap : 8 ≤ c
  len : Z.length = 8
  tA : ∃ cs, w.heap[A]? = some (.cells cs 94 (0, 0))
  ptr : ∀ j (h : j < Z.length), w.cell? ⟨A, j, none⟩ = some (.pointer (some ⟨Z[j], 0, none⟩))
  zone : ∀ j (h : j < Z.length), w.heap[Z[j]]? = some (.cells #[vs j, .int .i64 (gs j : Nat)] 97 (0, 0))
  rows : ∀ j, j < 8 → RowsAt w base (vs j) (zs j)
  apart : ∀ i j g, i < 8 → j < 8 → i ≠ j → (vs i).ownBlock = some g → (vs j).ownBlock ≠ some g
  nodup : Z.Nodup
/-- .. when the blocks that change are none of a device's. -/
theorem DevK.keep {w w' : World} {T : List Nat} {base N A c : Nat} {ops rds : Int} {Z : List Nat} {vs : Nat → Value} {gs : Nat → Nat} {zs : Nat → List (List UInt8)} (h : DevK w base N A c ops rds Z vs gs zs) (hc : Chg T w w') (hT : Av w T [93, 94, 97, 40, 5]) : DevK w' base N A c ops rds Z vs gs zs := by
  have hA : A ∉ T := by
    obtain ⟨cs, hA⟩ := h.tA
    exact hT.ne hA (by simp)
  refine ⟨hc.heap h.hdr (hT.ne h.hdr (by simp)), h.cap, h.len, ?_, fun j hj => hc.cell (h.ptr j hj) hA, fun j hj => hc.heap (h.zone j hj) (hT.ne (h.zone j hj) (by simp)), fun j hj => (h.rows j hj).keep hc (fun x hx cs t fr hh ht => hT x hx cs t fr hh (by simp at ht; simp [ht])) (fun g hg => ?_), h.apart, h.nodup⟩
  · obtain ⟨cs, hA'⟩ := h.tA
    exact ⟨cs, hc.heap hA' hA⟩
  · obtain ⟨cs, hb⟩ := (h.rows j hj).block g hg
    exact hT.ne hb (by simp)
/-- a new device has read nothing. -/
theorem DevG.k {w : World} {base N A c : Nat} {ops : Int} {Z : List Nat} {vs : Nat → Value} {gs : Nat → Nat} {zs : Nat → List (List UInt8)} (h : DevG w base N A c ops Z vs gs zs) : DevK w base N A c ops 0 Z vs gs zs := ⟨h.hdr, h.cap, h.len, h.tA, h.ptr, h.zone, h.rows, h.apart, h.nodup⟩
set_option maxRecDepth 100000 in
theorem kgone (w : World) {base N A c : Nat} {ops rds : Int} {Z : List Nat} {vs : Nat → Value} {gs : Nat → Nat} {zs : Nat → List (List UInt8)} (h : DevK w base N A c ops rds Z vs gs zs) : Calls Tryz.prog 73 #[.pointer (some ⟨N, 0, none⟩)] w fun e w' => e = .returned (.bool false) ∧ w = w' := by
  have e2 : w.cell? ⟨N, 2, none⟩ = some (.slice (some ⟨A, 0, none⟩) 8 c) := cell_is h.hdr 2 rfl
  clear h
  go_enter Tryz.func73, Tryz.ntmps73
  go_wp2_with fail
  go_ret
  exact ⟨rfl, rfl⟩
set_option maxRecDepth 100000 in
theorem kat (w : World) {base N A c : Nat} {ops rds : Int} {Z : List Nat} {vs : Nat → Value} {gs : Nat → Nat} {zs : Nat → List (List UInt8)} (h : DevK w base N A c ops rds Z vs gs zs) (j : Nat) (hj : j < Z.length) : Calls Tryz.prog 130 #[.pointer (some ⟨N, 0, none⟩), .int .i64 j] w fun e w' => e = .returned (.pointer (some ⟨Z[j], 0, none⟩)) ∧ w = w' := by
  have HG := Lib.hid (kgone w h)
  have hc := h.cap
  have hz := h.len
  have e2 : w.cell? ⟨N, 2, none⟩ = some (.slice (some ⟨A, 0, none⟩) 8 c) := cell_is h.hdr 2 rfl
  have e3 := h.ptr j hj
  have hj8 : j < 8 := by omega
  clear h
  generalize Z[j] = z at *
  go_enter Tryz.func130, Tryz.ntmps130
  go_wp2_with fail
  refine HG.out.mono ?_
  rintro e w1 ⟨rfl, rfl⟩
  go_wp2_with fail
  go_ret
  exact ⟨rfl, rfl⟩
set_option maxRecDepth 100000 in
theorem kbegin (w : World) {base N A c : Nat} {ops rds : Int} {Z : List Nat} {vs : Nat → Value} {gs : Nat → Nat} {zs : Nat → List (List UInt8)} (h : DevK w base N A c ops rds Z vs gs zs) (h0 : 0 ≤ ops) (h1 : ops ≤ 1000000) : Calls Tryz.prog 131 #[.pointer (some ⟨N, 0, none⟩)] w fun e w' => e = .returned (.bool true) ∧ Chg [N] w w' ∧ DevK w' base N A c (ops + 1) rds Z vs gs zs := by
  have hfin : ∀ w', w' = (w.setCell ⟨N, 3, none⟩ (.int .i64 (ops + 1))).setCell ⟨N, 7, none⟩ (.bool false) → Chg [N] w w' ∧ DevK w' base N A c (ops + 1) rds Z vs gs zs := by
    rintro w' rfl
    have hc := (Chg.set w N 3 (.int .i64 (ops + 1))).then (Chg.set _ N 7 (.bool false))
    have hne : ∀ {g : Nat} {cs : Array Value} {t : TypeId}, w.heap[g]? = some (.cells cs t (0, 0)) → t ≠ 93 → g ∉ [N] := by
      intro g cs t hg ht hm
      rw [List.mem_singleton] at hm
      subst hm
      rw [h.hdr] at hg
      cases hg
      exact ht rfl
    obtain ⟨cA, hA⟩ := h.tA
    refine ⟨hc, heap_set (heap_set h.hdr 3 _ rfl) 7 _ rfl, h.cap, h.len, ⟨cA, hc.heap hA (hne hA (by decide))⟩, fun j hj => hc.cell (h.ptr j hj) (hne hA (by decide)), fun j hj => hc.heap (h.zone j hj) (hne (h.zone j hj) (by decide)), fun j hj => (h.rows j hj).keep hc (Av.row h.hdr (by simp)) (fun g hg => ?_), h.apart, h.nodup⟩
    obtain ⟨cs, hb⟩ := (h.rows j hj).block g hg
    exact hne hb (by decide)
  have e3 : w.cell? ⟨N, 3, none⟩ = some (.int .i64 ops) := cell_is h.hdr 3 rfl
  have e5 : w.cell? ⟨N, 5, none⟩ = some (.bool false) := cell_is h.hdr 5 rfl
  have e7 : w.cell? ⟨N, 7, none⟩ = some (.bool false) := cell_is h.hdr 7 rfl
  have f3 := unfrozen h.hdr 3
  have f7 := unfrozen h.hdr 7
  have HF := Lib.hid hfin
  clear h hfin
  go_enter Tryz.func131, Tryz.ntmps131
  go_wp2_with fail
  go_ret
  exact ⟨rfl, HF.out _ rfl⟩
/-- .. when what is for good of a zone is turned. -/
theorem DevK.setGood {w : World} {base N A c : Nat} {ops rds : Int} {Z : List Nat} {vs : Nat → Value} {gs : Nat → Nat} {zs : Nat → List (List UInt8)} (h : DevK w base N A c ops rds Z vs gs zs) {j : Nat} (hj : j < Z.length) (n : Nat) :
    DevK (w.setCell ⟨Z[j], 1, none⟩ (.int .i64 n)) base N A c ops rds Z vs (upF gs j n) zs := by
  have hc := Chg.set w Z[j] 1 (.int .i64 n)
  have hzj := h.zone j hj
  have ht : ∀ {g : Nat} {cs : Array Value} {t : TypeId}, w.heap[g]? = some (.cells cs t (0, 0)) → t ≠ 97 → g ∉ [Z[j]] := by
    intro g cs t hg h1 hm
    rw [List.mem_singleton] at hm
    subst hm
    rw [hzj] at hg; cases hg; exact h1 rfl
  obtain ⟨cA, hA⟩ := h.tA
  refine ⟨hc.heap h.hdr (ht h.hdr (by decide)), h.cap, h.len, ⟨cA, hc.heap hA (ht hA (by decide))⟩, fun k hk => hc.cell (h.ptr k hk) (ht hA (by decide)), fun k hk => ?_, fun k hk => (h.rows k hk).keep hc (Av.row hzj (by simp)) (fun g hg => ?_), h.apart, h.nodup⟩
  · by_cases hkj : k = j
    · subst hkj
      simpa [upF] using heap_set hzj 1 (.int .i64 n) rfl
    · simpa [upF, hkj] using hc.heap (h.zone k hk) (by simpa using nodup_ne h.nodup hk hj hkj)
  · obtain ⟨cs, hb⟩ := (h.rows k hk).block g hg
    exact ht hb (by decide)
set_option maxRecDepth 100000 in
set_option maxHeartbeats 1000000 in
theorem kflush (w : World) {base N A c : Nat} {ops rds : Int} {Z : List Nat} {vs : Nat → Value} {gs : Nat → Nat} {zs : Nat → List (List UInt8)} (h : DevK w base N A c ops rds Z vs gs zs) (h0 : 0 ≤ ops) (h1 : ops ≤ 1000000) : Calls Tryz.prog 96 #[.pointer (some ⟨N, 0, none⟩)] w fun e w' =>
    e = .returned (.int .i64 0) ∧ Chg (N :: Z) w w' ∧ DevK w' base N A c (ops + 1) rds Z vs (goodF gs zs 8) zs := by
  have HG := Lib.hid (kgone w h)
  have HB := Lib.hid (kbegin w h h0 h1)
  clear h
  go_enter Tryz.func96, Tryz.ntmps96
  go_wp2_with fail
  refine HG.out.mono ?_
  rintro e w1 ⟨rfl, rfl⟩
  go_wp2_with fail
  refine HB.out.mono ?_
  rintro e w1 ⟨rfl, hc1, h2⟩
  have hC1 : Chg (N :: Z) w w1 := hc1.mono (fun x hx _ => by rw [List.mem_singleton] at hx; simp [hx])
  have e2 : w1.cell? ⟨N, 2, none⟩ = some (.slice (some ⟨A, 0, none⟩) 8 c) := cell_is h2.hdr 2 rfl
  have hc8 := h2.cap
  have hg0 : goodF gs zs 0 = gs := by funext k; simp [goodF]
  rw [← hg0] at h2
  clear hc1 HG HB
  go_wp2_with fail
  go_loopw [17] (fun i wr => ∃ j : Nat, i = .int .i64 j ∧ j ≤ 8 ∧ DevK wr base N A c (ops + 1) rds Z vs (goodF gs zs j) zs ∧ Chg (N :: Z) w wr) (fun i _ => 8 - (intOf i).toNat)
  case atStart => exact ⟨0, rfl, by omega, h2, hC1⟩
  case round =>
    obtain ⟨j, rfl, hj, hD, hC⟩ := hrel
    by_cases hlt : j < 8
    · have hjz : j < Z.length := by have := hD.len; omega
      have hm : Z[j] ∈ Z := List.getElem_mem hjz
      obtain ⟨xs, ho, -⟩ := hD.rows j hlt
      obtain ⟨pa, cv, hv, -⟩ := own_form ho
      have hfin : ∀ w', w' = wr.setCell ⟨Z[j], 1, none⟩ (.int .i64 (zs j).length) → DevK w' base N A c (ops + 1) rds Z vs (goodF gs zs (j + 1)) zs ∧ Chg (N :: Z) w w' := by
        rintro w' rfl
        exact ⟨goodF_succ gs zs j ▸ hD.setGood hjz _, hC.then_set (fun _ => List.mem_cons_of_mem _ hm) _ _⟩
      have a0 := hD.ptr j hjz
      have k0 := hD.zone j hjz
      rw [hv] at k0
      have b0 : wr.cell? ⟨Z[j], 0, none⟩ = some (.slice pa (zs j).length cv) := cell_is k0 0 rfl
      have b1 : wr.cell? ⟨Z[j], 1, none⟩ = some (.int .i64 (goodF gs zs j j : Nat)) := cell_is k0 1 rfl
      have f1 := unfrozen k0 1
      have HF := Lib.hid hfin
      clear hfin hD hC k0 h2 hC1 e2 hm ho hv
      generalize Z[j] = z at *
      go_wp2_with fail
      go_roundw
      case rel => exact ⟨j + 1, by go_num, by omega, HF.out _ rfl⟩
      case measure => simp [intOf]; omega
    · obtain rfl : j = 8 := by omega
      go_wp2_with fail
      go_ret
      exact ⟨rfl, hC, hD⟩
set_option maxRecDepth 100000 in
set_option maxHeartbeats 1000000 in
theorem kpointer (w : World) {base N A c : Nat} {ops rds : Int} {Z : List Nat} {vs : Nat → Value} {gs : Nat → Nat} {zs : Nat → List (List UInt8)} (h : DevK w base N A c ops rds Z vs gs zs) (j : Nat) (hj : j < Z.length) :
    Calls Tryz.prog 70 #[.pointer (some ⟨N, 0, none⟩), .int .i64 j] w fun e w' => e = .returned (.tuple #[.int .i64 (zs j).length, .int .i64 0]) ∧ w = w' := by
  have HD := Lib.hid (kat w h j hj)
  obtain ⟨pa, cc, hv⟩ := (h.rows j (by have := h.len; omega)).len
  have z0 : w.cell? ⟨Z[j], 0, none⟩ = some (.slice pa (zs j).length cc) := by rw [← hv]; exact cell_is (h.zone j hj) 0 rfl
  clear h hv
  generalize Z[j] = z at *
  clear hj
  go_enter Tryz.func70, Tryz.ntmps70
  go_wp2_with fail
  refine HD.out.mono ?_
  rintro e w1 ⟨rfl, rfl⟩
  go_wp2_with fail
  go_ret2
  exact ⟨rfl, rfl⟩
theorem RowsAt.at2 {w : World} {base : Nat} {v : Value} {l : List (List UInt8)} (h : RowsAt w base v l) (k : Nat) (hk : k < l.length) : ∃ g cap gd cd, v = .slice (some ⟨g, 0, none⟩) l.length cap ∧ l.length ≤ cap ∧
    w.cell? ⟨g, k, none⟩ = some (.slice (some ⟨gd, 0, none⟩) 64 cd) ∧ Bs w (some ⟨gd, 0, none⟩) l[k] ∧ l[k].length = 64 ∧ (∃ cs, w.heap[g]? = some (.cells cs 40 (0, 0))) ∧ Bt w gd := by
  obtain ⟨xs, ho, hx⟩ := h
  obtain ⟨gd, cd, h1, h2, h3, h4⟩ := hx k hk
  rcases ho.2 with ⟨_, e⟩ | ⟨g, cap, cur, rfl, hA, hg, hc1, hc2, hc3, ht⟩
  · omega
  · refine ⟨g, cap, gd, cd, rfl, hc1, cell_is hg _ ?_, h2, h3, ⟨_, hg⟩, h4⟩
    rw [← ht, List.getElem?_take_of_lt (by omega), Array.getElem?_toList] at h1
    exact h1
theorem DevK.tick {w : World} {base N A c : Nat} {ops rds : Int} {Z : List Nat} {vs : Nat → Value} {gs : Nat → Nat} {zs : Nat → List (List UInt8)} (h : DevK w base N A c ops rds Z vs gs zs) (o' : Int) : DevK (w.setCell ⟨N, 4, none⟩ (.int .i64 o')) base N A c ops o' Z vs gs zs := by
  have k : Chg [N] w (w.setCell ⟨N, 4, none⟩ (.int .i64 o')) := (Chg.refl [N] w).then_set (fun _ => by simp) 4 _
  have av : Av w [N] [94, 97, 40, 5] := fun x hx cs t fr hh ht => by
    simp at hx
    subst hx
    rw [h.hdr] at hh
    cases hh
    simp at ht
  have hA : A ∉ [N] := by
    obtain ⟨cs, hA⟩ := h.tA
    exact av.ne hA (by simp)
  refine ⟨heap_set h.hdr 4 _ rfl, h.cap, h.len, ?_, fun j hj => k.cell (h.ptr j hj) hA, fun j hj => k.heap (h.zone j hj) (av.ne (h.zone j hj) (by simp)), fun j hj => (h.rows j hj).keep k (fun x hx cs t fr hh ht => av x hx cs t fr hh (by simp at ht; simp [ht])) (fun g hg => ?_), h.apart, h.nodup⟩
  · obtain ⟨cs, hA'⟩ := h.tA
    exact ⟨cs, k.heap hA' hA⟩
  · obtain ⟨cs, hb⟩ := (h.rows j hj).block g hg
    exact av.ne hb (by simp)
set_option maxRecDepth 100000 in
set_option maxHeartbeats 2000000 in
theorem kread (w : World) {base N A c : Nat} {ops rds : Int} {Z : List Nat} {vs : Nat → Value} {gs : Nat → Nat} {zs : Nat → List (List UInt8)} (h : DevK w base N A c ops rds Z vs gs zs) (ho0 : 0 ≤ rds) (ho1 : rds < 1099511627776) (j : Nat) (hj : j < Z.length) (i : Nat) (hi : i < (zs j).length) :
    Calls Tryz.prog 100 #[.pointer (some ⟨N, 0, none⟩), .int .i64 j, .int .i64 i] w fun e w' => ∃ g c', e = .returned (.tuple #[.slice (some ⟨g, 0, none⟩) 64 c', .int .i64 0]) ∧ Chg [N] w w' ∧ DevK w' base N A c ops (rds + 1) Z vs gs zs ∧ Bs w' (some ⟨g, 0, none⟩) (zs j)[i] ∧ w.heap.size ≤ g ∧ Bt w' g ∧ 64 ≤ c' := by
  have HD := Lib.hid (kat w h j hj)
  have hj8 : j < 8 := by have := h.len; omega
  obtain ⟨ga, ca, gd, cd, hv, hca, r0, hb, h64, hta, htd⟩ := (h.rows j hj8).at2 i hi
  have z0 : w.cell? ⟨Z[j], 0, none⟩ = some (.slice (some ⟨ga, 0, none⟩) (zs j).length ca) := by rw [← hv]; exact cell_is (h.zone j hj) 0 rfl
  have n3 : w.cell? ⟨N, 4, none⟩ = some (.int .i64 rds) := cell_is h.hdr 4 rfl
  have f3 := unfrozen h.hdr 4
  have hT := h.tick (rds + 1)
  have k : Chg [N] w (w.setCell ⟨N, 4, none⟩ (.int .i64 (rds + 1))) := (Chg.refl [N] w).then_set (fun _ => by simp) 4 _
  have hZN : Z[j] ≠ N := heap_ne (h.zone j hj) h.hdr (by simp)
  obtain ⟨ct, hta⟩ := hta
  have hgN : ga ≠ N := heap_ne hta h.hdr (by simp)
  obtain ⟨cu, htd⟩ := htd
  have hdN : gd ≠ N := heap_ne htd h.hdr (by simp)
  have z1 := k.cell z0 (by simpa using hZN)
  have r1 := k.cell r0 (by simpa using hgN)
  have HC := Lib.hid (clone_btc _ (D := gd) (o := 0) (c := cd) (m := 64) h64 (by decide) (by decide) (hb.chgT k (by simpa using hdN)))
  have HK := Lib.hid (And.intro hT (And.intro k k.size))
  clear h hta htd hb hT k hv hZN hgN hdN r0
  have hi0 : ¬ ((i : Int) < 0) := by omega
  generalize hrw : (zs j)[i] = row at *
  generalize Z[j] = z at *
  clear hj
  have hi0 : ¬ ((i : Int) < 0) := by omega
  have hi1 : (i : Int) < (zs j).length := by omega
  have hi2 : ¬ (((zs j).length : Int) ≤ i) := by omega
  clear hrw
  go_enter Tryz.func100, Tryz.ntmps100
  go_wp2_with fail
  refine HD.out.mono ?_
  rintro e w1 ⟨rfl, rfl⟩
  go_wp2_with fail
  refine HC.out.mono ?_
  rintro e w1 ⟨g, c', rfl, k1, b1, hg1, t1, hc64⟩
  have HR := Lib.hid (And.intro (HK.out.2.1.trans k1 (fun x hx => by cases hx)) (And.intro (HK.out.1.keep k1 (Av.nil _ _)) (And.intro b1 (And.intro (Nat.le_trans HK.out.2.2 hg1) (And.intro t1 hc64)))))
  clear k1 b1 hg1 t1 HK HC hc64
  go_wp2_with fail
  go_ret2
  exact ⟨g, c', rfl, HR.out⟩
end Go.Proofs.YtkhionhicegfmaaGreat
namespace Go.Proofs.YtkhionhicegfmaaGreat
open Go.RowKit Go.Lib

set_option maxRecDepth 100000 in
theorem kgeometry (w : World) {base N A c : Nat} {ops rds : Int} {Z : List Nat} {vs : Nat → Value} {gs : Nat → Nat} {zs : Nat → List (List UInt8)} (h : DevK w base N A c ops rds Z vs gs zs) : Calls Tryz.prog 46 #[.pointer (some ⟨N, 0, none⟩)] w fun e w' => e = .returned (.agg #[.int .i64 8, .int .i64 96]) ∧ Chg [] w w' := by
  go_enter Tryz.func46, Tryz.ntmps46
  go_wp2_with fail
  have g0 := heap_new w (.cells #[.int .i64 0, .int .i64 0] 29)
  have hc : Chg [] w (w.alloc (.cells #[.int .i64 0, .int .i64 0] 29)) := Chg.alloc _ _
  have h2 := h.keep hc (Av.nil _ _)
  have hN := heap_lt h.hdr
  generalize w.alloc (.cells #[.int .i64 0, .int .i64 0] 29) = w1 at *
  refine (kgone w1 h2).mono ?_
  rintro e w2 ⟨rfl, rfl⟩
  have e0 : w1.cell? ⟨N, 0, none⟩ = some (.int .i64 8) := cell_is h2.hdr 0 rfl
  have e1 : w1.cell? ⟨N, 1, none⟩ = some (.int .i64 96) := cell_is h2.hdr 1 rfl
  have c0 := cell_is g0 0 rfl
  have c1 := cell_is g0 1 rfl
  have f0 := unfrozen g0 0
  have f1 := unfrozen g0 1
  clear h h2 g0
  go_wp2_with fail
  refine bodyPost_ret (v := .agg #[.int .i64 8, .int .i64 96]) (by simp [results, Tryz.results46, go_sem, c0, c1]) rfl ?_
  exact ⟨rfl, (hc.new_set (by omega) _ _).new_set (by omega) _ _⟩
set_option maxRecDepth 100000 in
theorem kblocks0 (w : World) {base S N A c : Nat} {ops rds : Int} {Z : List Nat} {vs : Nat → Value} {gs : Nat → Nat} {zs : Nat → List (List UInt8)} (h : SlotAt w S N) (hD : DevK w base N A c ops rds Z vs gs zs) (he : zs 0 = []) : Calls Tryz.prog 93 #[.pointer (some ⟨S, 0, none⟩), .int .i64 0] w fun e w' => e = .returned (.slice none 0 0) ∧ w = w' := by
  obtain ⟨c0, c1, c2, c3, c4, -, -, -, -⟩ := slot_cells h
  have HP := Lib.hid (kpointer w hD 0 (by have := hD.len; omega))
  rw [he] at HP
  clear h hD he
  go_enter Tryz.func93, Tryz.ntmps93
  go_wp2_with fail
  go_loop [4, 5] (fun a b => a = .slice none 0 0 ∧ b = .int .i64 0) (fun _ _ => 0)
  case atStart => exact ⟨rfl, rfl⟩
  case round =>
    obtain ⟨rfl, rfl⟩ := hrel
    go_wp2_with fail
    refine HP.out.mono ?_
    rintro e w1 ⟨rfl, rfl⟩
    go_wp2_with fail
    go_loop [4, 38] (fun b a => b = .slice none 0 0 ∧ a = .int .i64 0) (fun _ _ => 0)
    case atStart => exact ⟨rfl, rfl⟩
    case round =>
      obtain ⟨rfl, rfl⟩ := hrel
      go_wp2_with fail
      go_ret
      exact ⟨rfl, rfl⟩
set_option maxRecDepth 100000 in
theorem kblocks1 (w : World) {base S N A c : Nat} {ops rds : Int} {Z : List Nat} {vs : Nat → Value} {gs : Nat → Nat} {zs : Nat → List (List UInt8)} (h : SlotAt w S N) (hD : DevK w base N A c ops rds Z vs gs zs) (he : zs 3 = []) : Calls Tryz.prog 93 #[.pointer (some ⟨S, 0, none⟩), .int .i64 1] w fun e w' => e = .returned (.slice none 0 0) ∧ w = w' := by
  obtain ⟨c0, c1, c2, c3, c4, -, -, -, -⟩ := slot_cells h
  have HP := Lib.hid (kpointer w hD 3 (by have := hD.len; omega))
  rw [he] at HP
  clear h hD he
  go_enter Tryz.func93, Tryz.ntmps93
  go_wp2_with fail
  go_loop [4, 5] (fun a b => a = .slice none 0 0 ∧ b = .int .i64 3) (fun _ _ => 0)
  case atStart => exact ⟨rfl, rfl⟩
  case round =>
    obtain ⟨rfl, rfl⟩ := hrel
    go_wp2_with fail
    refine HP.out.mono ?_
    rintro e w1 ⟨rfl, rfl⟩
    go_wp2_with fail
    go_loop [4, 38] (fun b a => b = .slice none 0 0 ∧ a = .int .i64 0) (fun _ _ => 0)
    case atStart => exact ⟨rfl, rfl⟩
    case round =>
      obtain ⟨rfl, rfl⟩ := hrel
      go_wp2_with fail
      go_ret
      exact ⟨rfl, rfl⟩
/-- what slot.Open hands back at a device whose slots are empty. -/
def OpenK (w : World) (base N A c : Nat) (ops rds : Int) (Z : List Nat) (vs : Nat → Value) (gs : Nat → Nat) (zs : Nat → List (List UInt8)) (e : Ending) (w' : World) : Prop :=
  ∃ S, e = .returned (.tuple #[.pointer (some ⟨S, 0, none⟩), .int .i64 0]) ∧ Chg (N :: Z) w w' ∧ DevK w' base N A c (ops + 1) rds Z vs (goodF gs zs 8) zs ∧ SlotAt w' S N ∧ w.heap.size ≤ S
set_option maxRecDepth 100000 in
set_option maxHeartbeats 1000000 in
theorem kopen (w : World) {base N A c : Nat} {ops rds : Int} {Z : List Nat} {vs : Nat → Value} {gs : Nat → Nat} {zs : Nat → List (List UInt8)} (hD : DevK w base N A c ops rds Z vs gs zs) (he0 : zs 0 = []) (he3 : zs 3 = []) (hlt : ∀ z ∈ Z, z < w.heap.size) (h0 : 0 ≤ ops) (h1 : ops ≤ 1000000) : Calls Tryz.prog 47 #[.pointer (some ⟨N, 0, none⟩), .int .i64 0, .int .i64 3, .int .i64 6] w (OpenK w base N A c ops rds Z vs gs zs) := by
  go_enter Tryz.func47, Tryz.ntmps47
  go_wp2_with fail
  refine (kgeometry w hD).mono ?_
  rintro e w1 ⟨rfl, hc1⟩
  have hD1 := hD.keep hc1 (Av.nil _ _)
  go_wp2_with fail
  have g1 := (two_new w1 (.cells #[.int .i64 8, .int .i64 96] 29) (.cells #[.pointer (some ⟨N, 0, none⟩), .int .i64 0, .int .i64 3, .int .i64 6, .int .i64 96, .int .i64 1, .slice none 0 0, .int .i64 0, .bool false] 166)).2
  have hc2 := hc1.then (chg_two w1 (.cells #[.int .i64 8, .int .i64 96] 29) (.cells #[.pointer (some ⟨N, 0, none⟩), .int .i64 0, .int .i64 3, .int .i64 6, .int .i64 96, .int .i64 1, .slice none 0 0, .int .i64 0, .bool false] 166))
  have hsz := hc1.size
  generalize (w1.alloc (.cells #[.int .i64 8, .int .i64 96] 29)).alloc (.cells #[.pointer (some ⟨N, 0, none⟩), .int .i64 0, .int .i64 3, .int .i64 6, .int .i64 96, .int .i64 1, .slice none 0 0, .int .i64 0, .bool false] 166) = w2 at *
  have hS : SlotAt w2 (w1.heap.size + 1) N := g1
  have hD2 := hD.keep hc2 (Av.nil _ _)
  have hNS : w1.heap.size + 1 ∉ N :: Z := by
    have hN := heap_lt hD.hdr
    intro hm
    rcases List.mem_cons.1 hm with hm | hm
    · omega
    · have := hlt _ hm; omega
  have hS0 : w.heap.size ≤ w1.heap.size + 1 := by omega
  generalize w1.heap.size + 1 = S at *
  have c7 := (slot_cells hS).2.2.2.2.2.2.2.1
  clear hD hD1 g1 hc1
  go_loop [51] (fun i => i = .int .i64 0 ∨ i = .int .i64 1 ∨ i = .int .i64 2) (fun i => 2 - (intOf i).toNat)
  case atStart => exact Or.inl rfl
  case round =>
    rcases hrel with rfl | rfl | rfl
    · go_wp2_with fail
      refine (kblocks0 w2 hS hD2 he0).mono ?_
      rintro e w3 ⟨rfl, rfl⟩
      go_wp2_with fail
      refine (contf_nil _ w2).mono ?_
      rintro e w3 ⟨rfl, rfl⟩
      go_wp2_with fail
      refine (read_nil w2).mono ?_
      rintro e w3 ⟨rfl, rfl⟩
      go_wp2_with fail
      go_round
      case rel => exact Or.inr (Or.inl rfl)
      case measure => decide
    · go_wp2_with fail
      refine (kblocks1 w2 hS hD2 he3).mono ?_
      rintro e w3 ⟨rfl, rfl⟩
      go_wp2_with fail
      refine (contf_nil _ w2).mono ?_
      rintro e w3 ⟨rfl, rfl⟩
      go_wp2_with fail
      refine (read_nil w2).mono ?_
      rintro e w3 ⟨rfl, rfl⟩
      go_wp2_with fail
      go_round
      case rel => exact Or.inr (Or.inr rfl)
      case measure => decide
    · go_wp2_with fail
      refine (kflush w2 hD2 h0 h1).mono ?_
      rintro e w3 ⟨rfl, hc3, hD3⟩
      have hS3 := hS.keep hc3 hNS
      have hc4 : Chg (N :: Z) w w3 := (hc2.mono (T := N :: Z) (fun x hx _ => by cases hx)).then hc3
      go_wp2_with fail
      go_ret2
      exact ⟨S, rfl, hc4, hD3, hS3, hS0⟩
end Go.Proofs.YtkhionhicegfmaaGreat
namespace Go.Proofs.YtkhionhicegfmaaGreat
open Go.RowKit Go.Lib

/-- .. with room behind each row. -/
def RowsC (w : World) (base : Nat) (v : Value) (l : List (List UInt8)) : Prop :=
  ∃ xs, w.ownsRow base 40 1 v l.length xs ∧ ∀ i (h : i < l.length), ∃ g c, xs[i]? = some (.slice (some ⟨g, 0, none⟩) 64 c) ∧ 64 ≤ c ∧ Bs w (some ⟨g, 0, none⟩) l[i] ∧ l[i].length = 64 ∧ Bt w g
theorem RowsC.nil (w : World) (base : Nat) : RowsC w base (.slice none 0 0) [] := ⟨[], World.ownsRow_nil _ _ _ _, fun i h => by simp at h⟩
theorem RowsC.keep {w w' : World} {T : List Nat} {base : Nat} {v : Value} {l : List (List UInt8)} (h : RowsC w base v l) (hc : Chg T w w') (hT : Av w T [5]) (hv : ∀ g, v.ownBlock = some g → g ∉ T) : RowsC w' base v l := by
  obtain ⟨xs, ho, hx⟩ := h
  refine ⟨xs, ?_, fun i hi => ?_⟩
  · refine ⟨ho.1, ?_⟩
    rcases ho.2 with hn | ⟨g, cap, cur, rfl, hb, hg, rest⟩
    · exact Or.inl hn
    · exact Or.inr ⟨g, cap, cur, rfl, hb, hc.heap hg (hv g rfl), rest⟩
  · obtain ⟨g, c, h1, h0, h2, h3, h4⟩ := hx i hi
    have hg := h4.av hT (by simp)
    exact ⟨g, c, h1, h0, h2.chgT hc hg, h3, h4.keep hc hg⟩
theorem RowsC.keep0 {w w' : World} {base : Nat} {v : Value} {l : List (List UInt8)} (h : RowsC w base v l) (hc : Chg [] w w') : RowsC w' base v l := h.keep hc (Av.nil _ _) (fun g _ => by simp)
theorem RowsC.push {w w' : World} {base g gb cb cap : Nat} {v : Value} {l : List (List UInt8)} {b : List UInt8} {xs : List Value} (hx : ∀ i (h : i < l.length), ∃ g c, xs[i]? = some (.slice (some ⟨g, 0, none⟩) 64 c) ∧ 64 ≤ c ∧ Bs w (some ⟨g, 0, none⟩) l[i] ∧ l[i].length = 64 ∧ Bt w g)
    (hl : xs.length = l.length) (hv : ∀ g, v.ownBlock = some g → ∃ cs, w.heap[g]? = some (.cells cs 40 (0, 0))) (ho : w'.ownsRow base 40 1 (.slice (some ⟨g, 0, none⟩) (l.length + 1) cap) (l.length + 1) (xs ++ [.slice (some ⟨gb, 0, none⟩) 64 cb])) (hc : Chg v.ownBlock.toList w w')
    (hb : Bs w (some ⟨gb, 0, none⟩) b) (hb4 : b.length = 64) (hbt : Bt w gb) (h64 : 64 ≤ cb) : RowsC w' base (.slice (some ⟨g, 0, none⟩) (l.length + 1) cap) (l ++ [b]) := by
  have hne : ∀ {k}, Bt w k → k ∉ v.ownBlock.toList := by
    intro k hk hm
    have hm' : v.ownBlock = some k := by simpa using hm
    obtain ⟨cs, h1⟩ := hv k hm'
    obtain ⟨cs2, h2⟩ := hk
    rw [h1] at h2
    cases h2
  refine ⟨xs ++ [.slice (some ⟨gb, 0, none⟩) 64 cb], by rw [List.length_append]; exact ho, fun i hi => ?_⟩
  by_cases h : i < l.length
  · obtain ⟨g, c, h1, h0, h2, h3, h4⟩ := hx i h
    rw [List.getElem_append_left h]
    exact ⟨g, c, by rw [List.getElem?_append_left (by omega)]; exact h1, h0, h2.chgT hc (hne h4), h3, h4.keep hc (hne h4)⟩
  · have hi2 : i = l.length := by simp at hi; omega
    subst hi2
    refine ⟨gb, cb, by rw [← hl]; simp, h64, ?_, ?_, hbt.keep hc (hne hbt)⟩
    · rw [List.getElem_append_right (Nat.le_refl _)]
      simpa using hb.chgT hc (hne hbt)
    · rw [List.getElem_append_right (Nat.le_refl _)]
      simpa using hb4
/-- a device's own block. -/
def hdrK (A c : Nat) (ops rds : Int) : Obj := .cells #[.int .i64 8, .int .i64 96, .slice (some ⟨A, 0, none⟩) 8 c, .int .i64 ops, .int .i64 rds, .bool false, .int .i64 0, .bool false] 93 (0, 0)
theorem DevK.turn {w wr : World} {base N A c : Nat} {ops rds ops' rds' : Int} {Z : List Nat} {vs : Nat → Value} {gs : Nat → Nat} {zs : Nat → List (List UInt8)} (h : DevK w base N A c ops rds Z vs gs zs) (hc : Chg [N] w wr) (hh : wr.heap[N]? = some (hdrK A c ops' rds')) : DevK wr base N A c ops' rds' Z vs gs zs := by
  have hne : ∀ {g : Nat} {cs : Array Value} {t : TypeId}, w.heap[g]? = some (.cells cs t (0, 0)) → t ≠ 93 → g ∉ [N] := by
    intro g cs t hg ht hm
    rw [List.mem_singleton] at hm
    subst hm
    rw [h.hdr] at hg
    cases hg
    exact ht rfl
  obtain ⟨cA, hA⟩ := h.tA
  refine ⟨hh, h.cap, h.len, ⟨cA, hc.heap hA (hne hA (by decide))⟩, fun j hj => hc.cell (h.ptr j hj) (hne hA (by decide)), fun j hj => hc.heap (h.zone j hj) (hne (h.zone j hj) (by decide)), fun j hj => (h.rows j hj).keep hc (Av.row h.hdr (by simp)) (fun g hg => ?_), h.apart, h.nodup⟩
  obtain ⟨cs, hb⟩ := (h.rows j hj).block g hg
  exact hne hb (by decide)
/-- some bytes are put behind the rows of an own row. -/
theorem wpList_append_bk {ops : Array Oper} {rest : List Oper} {o : Oper} {a : Act} {w : World} {Q : Exit → Act → World → Prop} (hgd : o.guard = none) (s x : Operand)
    (ho : o.op = .call { callee := .builtin .append, args := #[s, x], argTypes := #[95, 95] }) (base : Nat) (v : Value) (n : Nat) (xs : List Value) (hs : a.eval s = v) (hown : w.ownsRow base 40 1 v n xs) (b c : Nat) (u0 : Value)
    (hx : a.eval x = .slice (some ⟨b, 0, none⟩) 1 c) (c0 : w.cell? ⟨b, 0, none⟩ = some u0) (h1 : u0.oneCell' = true) (hn : n ≤ 1000000) (hbase : base ≤ w.heap.size)
    (h : ∀ g cap w', w'.ownsRow base 40 1 (.slice (some ⟨g, 0, none⟩) (n + 1) cap) (n + 1) (xs ++ [u0]) → Chg v.ownBlock.toList w w' → (v.ownBlock = some g ∨ g = w.heap.size) → wpList Tryz.prog ops Q rest (a.put o.dst (.slice (some ⟨g, 0, none⟩) (n + 1) cap)) w') :
    wpList Tryz.prog ops Q (o :: rest) a w := by
  obtain ⟨i, hi0, hz, hz1, hz2⟩ := info_parts inf23
  refine wpList_append_lies w hgd s x 95 ho base 40 i _ 1 24 ty132 hi0 hz hz1 hz2 rfl (by decide) v n xs hs hown ⟨b, 0, none⟩ 1 c [u0] hx rfl ?_ ?_ (by decide) (by unfold maxLen; omega) (by omega) hbase _ rfl ?_
  · intro j u hu
    rw [add_lit, Nat.zero_add]
    match j with
    | 0 => cases hu; exact c0
    | j + 1 => simp at hu
  · intro u hu
    simp at hu
    rcases hu with rfl
    exact h1
  · intro g cap w' h2 h3 h4 _
    refine h g cap w' h2 ?_ h4
    cases hv : v.ownBlock with
    | none => rw [hv] at h3; exact Chg.of_grown0 h3
    | some k => rw [hv] at h3; exact Chg.of_grown h3
/-- what the log hands back. -/
def LogR (w : World) (base N A c : Nat) (ops rds : Int) (Z : List Nat) (vs : Nat → Value) (gs : Nat → Nat) (zs : Nat → List (List UInt8)) (e : Ending) (w' : World) : Prop :=
  ∃ v, e = .returned (.tuple #[v, .slice none 0 0]) ∧ Chg [N] w w' ∧ DevK w' base N A c ops (rds + (zs 6).length) Z vs gs zs ∧ RowsC w' w.heap.size v (zs 6)
set_option maxRecDepth 100000 in
set_option maxHeartbeats 4000000 in
theorem klog (w : World) {base P N S A c : Nat} {m : Option Addr} {ops rds : Int} {Z : List Nat} {vs : Nat → Value} {gs : Nat → Nat} {zs : Nat → List (List UInt8)} (h : StoreAt w P N S m) (hD : DevK w base N A c ops rds Z vs gs zs) (he7 : zs 7 = []) (h96 : (zs 6).length < 96) (ho0 : 0 ≤ rds) (ho1 : rds ≤ 1000000) :
    Calls Tryz.prog 50 #[.pointer (some ⟨P, 0, none⟩)] w (LogR w base N A c ops rds Z vs gs zs) := by
  obtain ⟨c0, -⟩ := store_cells h
  have hfs := field_size
  have hl := hD.len
  have h6 : 6 < Z.length := by omega
  have h7 : 7 < Z.length := by omega
  have HD := Lib.hid hD
  have HS := Lib.hid h
  have hPN : P ∉ [N] := by rw [List.mem_singleton]; exact heap_ne h hD.hdr (by simp)
  have HPN := Lib.hid hPN
  have hHdr : w.heap[N]? = some (hdrK A c ops rds) := hD.hdr
  clear hl
  go_enter Tryz.func50, Tryz.ntmps50
  go_wp2_with fail
  refine (kgeometry w hD).mono ?_
  rintro e w1 ⟨rfl, hc1⟩
  have kk1 : Chg [N] w w1 := hc1.mono (fun x hx _ => by cases hx)
  have hd1 : w1.heap[N]? = some (hdrK A c ops rds) := hc1.heap hHdr (by simp)
  have hS1 := h.keep hc1 (by simp)
  have hlen : (zs 6).length < 96 := h96
  clear hc1 h hD hHdr hPN c0
  obtain ⟨c0, -, -, c3, c4, -⟩ := store_cells hS1
  go_wp2_with fail
  go_loopw [2, 3, 5, 6] (fun a b g z wr => b = .slice none 0 0 ∧ Chg [N] w wr ∧ ((z = .int .i64 6 ∧ a = .slice none 0 0 ∧ g = .bool false ∧ wr = w1) ∨ ((z = .int .i64 7 ∧ g = .bool true ∨ z = .int .i64 8) ∧ wr.heap[N]? = some (hdrK A c ops (rds + (zs 6).length)) ∧ RowsC wr w.heap.size a (zs 6)))) (fun _ _ _ z _ => 8 - (intOf z).toNat)
  case atStart => exact ⟨rfl, kk1, Or.inl ⟨rfl, rfl, rfl, rfl⟩⟩
  case round =>
    obtain ⟨rfl, kr, ⟨rfl, rfl, rfl, rfl⟩ | ⟨hz, hdr, hrw⟩⟩ := hrel
    · have h6c := Lib.hid (kpointer wr ((HD.out.turn kr hd1)) 6 h6)
      go_wp2_with fail
      go_step3
      go_wp2_with fail
      refine h6c.out.mono ?_
      rintro e w2 ⟨rfl, rfl⟩
      go_wp2_with fail
      go_step3
      go_wp2_with fail
      go_loopw [2, 3, 42] (fun a b k wx => ∃ j : Nat, j ≤ (zs 6).length ∧ k = .int .i64 j ∧ b = .slice none 0 0 ∧ Chg [N] w wx ∧ wx.heap[N]? = some (hdrK A c ops (rds + j)) ∧ RowsC wx w.heap.size a ((zs 6).take j)) (fun _ _ k _ => (zs 6).length - (intOf k).toNat)
      case atStart => exact ⟨0, by omega, rfl, rfl, kr, by simpa using hd1, by simpa using RowsC.nil _ _⟩
      case round =>
        obtain ⟨j, hj, rfl, rfl, kx, hx, hrx⟩ := hrel
        by_cases hlt : j < (zs 6).length
        · have n1 : decide ((j : Int) < ((zs 6).length : Int)) = true := decide_eq_true (by omega)
          have q0 := (store_cells (HS.out.keep kx HPN.out)).1
          have HRd := Lib.hid (kread wr (HD.out.turn kx hx) (by omega) (by omega) 6 h6 j hlt)
          have HX := Lib.hid (And.intro kx (And.intro hx hrx))
          clear kx hx hrx
          go_wp2_with fail
          refine HRd.out.mono ?_
          rintro e w2 ⟨g, c', rfl, k2, d2, b2, l2, t2, c64⟩
          obtain ⟨kx, hx, hrx⟩ := HX.out
          have hr2 := hrx.keep k2 (Av.row hx (by simp)) (fun g' hg' hm => by
            rw [List.mem_singleton] at hm
            subst hm
            obtain ⟨xs, ho, -⟩ := hrx
            obtain ⟨-, cur, hh⟩ := own_elem ho hg'
            rw [show wr.heap[_]? = _ from hx] at hh
            cases hh)
          obtain ⟨xs, ho, hxs⟩ := hr2
          have hjl : ((zs 6).take j).length = j := by simp; omega
          rw [hjl] at ho
          obtain ⟨pa, cv, rfl, -⟩ := own_form ho
          have ka : Chg [] w2 (w2.alloc (.cells #[.slice (some ⟨g, 0, none⟩) 64 c'] 40)) := Chg.alloc w2 _
          have ya := heap_new w2 (.cells #[.slice (some ⟨g, 0, none⟩) 64 c'] 40)
          have oa := own_keep ho ka.below0
          have hk2 := k2.size
          have hkx := kx.size
          have hba : w.heap.size ≤ (w2.alloc (.cells #[.slice (some ⟨g, 0, none⟩) 64 c'] 40)).heap.size := by have := ka.size; omega
          have hdx : w2.heap[N]? = some (hdrK A c ops (rds + (j + 1 : Nat))) := by
            have := d2.hdr
            rwa [show rds + (j : Int) + 1 = rds + ((j + 1 : Nat) : Int) from by push_cast; omega] at this
          have H2 := Lib.hid (And.intro (kx.then k2) (And.intro hdx (And.intro b2 (And.intro l2 (And.intro t2 (And.intro c64 (And.intro hxs ho)))))))
          clear kx hx hrx k2 d2 b2 l2 t2 c64 hxs ho hdx q0 HX HRd
          go_wp2_with (first | (at_builtin; refine wpList_append_bk rfl (.tmp 60) (.tmp 62) rfl w.heap.size (.slice pa j cv) j xs rfl oa w2.heap.size 1 _ rfl (cell_is ya 0 rfl) rfl (by omega) hba ?_; intro g5 c5 w5 o5 k5 i5))
          obtain ⟨k2, hdx, b2, l2, t2, c64, hxs, ho⟩ := H2.out
          have hfin : Chg [N] w w5 ∧ w5.heap[N]? = some (hdrK A c ops (rds + (j + 1 : Nat))) ∧ RowsC w5 w.heap.size (.slice (some ⟨g5, 0, none⟩) (j + 1) c5) ((zs 6).take (j + 1)) := by
            refine ⟨(k2.then (ka.mono (fun x hx _ => by cases hx))).trans k5 (fun x hx hl => ?_), k5.heap (ka.heap hdx (by simp)) (own_block_ne oa (ka.heap hdx (by simp)) (by decide)), ?_⟩
            · obtain ⟨hge, -⟩ := own_elem oa (show (Value.slice pa j cv).ownBlock = some x by simpa using hx)
              omega
            · rw [List.take_succ_eq_append_getElem hlt]
              have hp := RowsC.push (w := w2.alloc (.cells #[.slice (some ⟨g, 0, none⟩) 64 c'] 40)) (w' := w5) (base := w.heap.size) (g := g5) (gb := g) (cb := c') (cap := c5) (v := .slice pa j cv) (l := (zs 6).take j) (b := (zs 6)[j]) (xs := xs)
                (fun i hi => by obtain ⟨g', c'', e1, e2, e3, e4, e5⟩ := hxs i hi; exact ⟨g', c'', e1, e2, e3.chg ka, e4, e5.keep ka (by simp)⟩)
                (by rw [hjl]; have := ho.1; omega) (fun g' hg' => (own_elem oa hg').2) (by rw [hjl]; exact o5) k5 (b2.chg ka) ?_ (t2.keep ka (by simp)) c64
              · rw [hjl] at hp
                exact hp
              · obtain ⟨xs', -, hr⟩ := HD.out.rows 6 (by decide)
                obtain ⟨_, _, _, _, e, _⟩ := hr j hlt
                exact e
          have HF := Lib.hid hfin
          clear hfin k2 hdx b2 l2 t2 c64 hxs ho ka ya oa o5 k5 i5
          go_wp2_with fail
          go_roundw
          case rel => exact ⟨j + 1, hlt, by go_num, rfl, HF.out⟩
          case measure => simp [intOf]; omega
        · obtain rfl : j = (zs 6).length := by omega
          rw [List.take_length] at hrx
          have n2 : decide (((zs 6).length : Int) < 96) = true := decide_eq_true (by omega)
          have HX := Lib.hid (And.intro kx (And.intro hx hrx))
          clear kx hx hrx
          go_wp2_with fail
          simp only [Exit.noGoto]
          go_wp2_with fail
          exact ⟨⟨rfl, HX.out.1, Or.inr ⟨Or.inl ⟨rfl, rfl⟩, HX.out.2⟩⟩, by simp [intOf]⟩
    · rcases hz with ⟨rfl, rfl⟩ | rfl
      · have h7c := Lib.hid (kpointer wr (HD.out.turn kr hdr) 7 h7)
        rw [he7] at h7c
        obtain ⟨q0, -, -, q3, q4, -⟩ := store_cells (HS.out.keep kr HPN.out)
        have HX := Lib.hid (And.intro kr (And.intro hdr hrw))
        clear kr hdr hrw
        go_wp2_with fail
        go_step3
        go_wp2_with fail
        refine h7c.out.mono ?_
        rintro e w2 ⟨rfl, rfl⟩
        go_wp2_with fail
        go_step3
        go_wp2_with fail
        go_loop [2, 3, 42] (fun x y k => x = u2 ∧ y = .slice none 0 0 ∧ k = .int .i64 0) (fun _ _ _ => 0)
        case atStart => exact ⟨rfl, rfl, rfl⟩
        case round =>
          obtain ⟨rfl, rfl, rfl⟩ := hrel
          go_wp2_with fail
          exact ⟨⟨rfl, HX.out.1, Or.inr ⟨Or.inr rfl, HX.out.2⟩⟩, by simp [intOf]⟩
      · obtain ⟨q0, -, -, q3, q4, -⟩ := store_cells (HS.out.keep kr HPN.out)
        go_wp2_with fail
        go_ret2
        exact ⟨_, rfl, kr, HD.out.turn kr hdr, hrw⟩
end Go.Proofs.YtkhionhicegfmaaGreat
namespace Go.Proofs.YtkhionhicegfmaaGreat
open Go.RowKit Go.Lib

theorem cat_drop {α : Type} (a b : List α) {n : Nat} (h : a.length = n) : (a ++ b).drop n = b := by subst h; simp
theorem cat_take {α : Type} (a b : List α) {n : Nat} (h : a.length = n) : (a ++ b).take n = a := by subst h; simp
/-- where a frame's parts lie. -/
theorem encF_parts (kind epoch seq lba : Nat) (body : List UInt8) : ∃ rest, encF kind epoch seq lba body = [UInt8.ofNat kind, UInt8.ofNat body.length] ++ (leB epoch 4 ++ (leB seq 8 ++ (leB lba 4 ++ (body ++ rest)))) := by
  refine ⟨List.replicate (60 - (headF kind epoch seq lba body).length) 0 ++ leB (crcN (coverF kind epoch seq lba body)) 4, ?_⟩
  unfold encF coverF
  simp [headF, List.append_assoc]
theorem encF_2 (kind epoch seq lba : Nat) (body : List UInt8) : ((encF kind epoch seq lba body).drop 2).take 4 = leB epoch 4 := by
  obtain ⟨rest, h⟩ := encF_parts kind epoch seq lba body
  rw [h, cat_drop _ _ (two_len _ _), cat_take _ _ (leB_length _ _)]
theorem encF_6 (kind epoch seq lba : Nat) (body : List UInt8) : ((encF kind epoch seq lba body).drop 6).take 8 = leB seq 8 := by
  obtain ⟨rest, h⟩ := encF_parts kind epoch seq lba body
  rw [h, show 6 = 2 + 4 from rfl, ← List.drop_drop, cat_drop _ _ (two_len _ _), cat_drop _ _ (leB_length _ _), cat_take _ _ (leB_length _ _)]
theorem encF_14 (kind epoch seq lba : Nat) (body : List UInt8) : ((encF kind epoch seq lba body).drop 14).take 4 = leB lba 4 := by
  obtain ⟨rest, h⟩ := encF_parts kind epoch seq lba body
  rw [h, show 14 = 2 + 4 + 8 from rfl, ← List.drop_drop, ← List.drop_drop, cat_drop _ _ (two_len _ _), cat_drop _ _ (leB_length _ _), cat_drop _ _ (leB_length _ _), cat_take _ _ (leB_length _ _)]
theorem encF_18 (kind epoch seq lba : Nat) (body : List UInt8) {n : Nat} (hn : body.length = n) : ((encF kind epoch seq lba body).drop 18).take n = body := by
  obtain ⟨rest, h⟩ := encF_parts kind epoch seq lba body
  rw [h, show 18 = 2 + 4 + 8 + 4 from rfl, ← List.drop_drop, ← List.drop_drop, ← List.drop_drop, cat_drop _ _ (two_len _ _), cat_drop _ _ (leB_length _ _), cat_drop _ _ (leB_length _ _), cat_drop _ _ (leB_length _ _), cat_take _ _ hn]
theorem encF_0 (kind epoch seq lba : Nat) (body : List UInt8) : (encF kind epoch seq lba body)[0]? = some (UInt8.ofNat kind) ∧ (encF kind epoch seq lba body)[1]? = some (UInt8.ofNat body.length) := by
  obtain ⟨rest, h⟩ := encF_parts kind epoch seq lba body
  rw [h]
  exact ⟨rfl, rfl⟩
/-- what Decode leaves of a frame. -/
def DecR (w : World) (kind epoch seq lba n : Nat) (body : List UInt8) (e : Ending) (w' : World) : Prop :=
  ∃ g c', e = .returned (.tuple #[.agg #[.int .i64 kind, .int .i64 epoch, .int .i64 seq, .int .i64 lba, .slice (some ⟨g, 0, none⟩) n c'], .int .i64 0]) ∧ Chg [] w w' ∧ Bs w' (some ⟨g, 0, none⟩) body ∧ Bt w' g ∧ w.heap.size ≤ g ∧ n ≤ c'
set_option maxRecDepth 100000 in
set_option maxHeartbeats 4000000 in
theorem fdecode_ok (w : World) {D o c kind epoch seq lba n : Nat} {body : List UInt8} (hB : Bs w (some ⟨D, o, none⟩) (encF kind epoch seq lba body)) (h1 : 1 ≤ kind) (h2 : kind ≤ 4) (h3 : epoch < 4294967296) (h4 : seq ≤ 1099511627776) (h5 : lba ≤ 1048576) (hn : body.length = n) (hn0 : 0 < n) (h6 : n ≤ 40) (hc : 64 ≤ c) :
    Calls Tryz.prog 143 #[.slice (some ⟨D, o, none⟩) 64 c] w (DecR w kind epoch seq lba n body) := by
  have hlen : (encF kind epoch seq lba body).length = 64 := encF_length _ _ _ _ _ (by omega)
  have hp := encF_0 kind epoch seq lba body
  have ek : (UInt8.ofNat kind).toNat = kind := by simp; omega
  have en : (UInt8.ofNat body.length).toNat = n := by simp; omega
  have d0 : w.cell? ⟨D, o, none⟩ = some (.int .u8 kind) := by
    have := hB.at_ 0 (by omega)
    rw [show (encF kind epoch seq lba body)[0]'(by omega) = UInt8.ofNat kind from by have := hp.1; rw [List.getElem?_eq_getElem (by omega)] at this; exact Option.some.inj this, ek] at this
    exact this
  have d1 : w.cell? ⟨D, o + 1, none⟩ = some (.int .u8 n) := by
    have := hB.at_ 1 (by omega)
    rw [show (encF kind epoch seq lba body)[1]'(by omega) = UInt8.ofNat body.length from by have := hp.2; rw [List.getElem?_eq_getElem (by omega)] at this; exact Option.some.inj this, en] at this
    exact this
  have hsub : ∀ i m, i + m = 64 → Bs w (some ⟨D, o + i, none⟩) ((encF kind epoch seq lba body).drop i) := fun i m hm => by
    have := hB.sub i m
    rwa [List.take_of_length_le (by rw [List.length_drop, hlen]; omega)] at this
  have kA : Chg [] w ((w.alloc (.cells #[.int .i64 0, .int .i64 0, .int .i64 0, .int .i64 0, .slice none 0 0] 243)).alloc (.cells #[.int .i64 0, .int .i64 0, .int .i64 0, .int .i64 0, .slice none 0 0] 243)) := (Chg.alloc w _).then_alloc _
  have H6 := Lib.hid (fun w1 (k1 : Chg [] w w1) => get64_le w1 (c := c - 6) ((hsub 6 58 rfl).chg k1) (by rw [List.length_drop, hlen]) (by decide) (by decide) (encF_6 kind epoch seq lba body) (by omega))
  have H2 := Lib.hid (fun w1 (k1 : Chg [] w w1) => get32_le w1 (c := c - 2) ((hsub 2 62 rfl).chg k1) (by rw [List.length_drop, hlen]) (by decide) (by decide) (encF_2 kind epoch seq lba body) h3)
  have H14 := Lib.hid (fun w1 (k1 : Chg [] w w1) => get32_le w1 (c := c - 14) ((hsub 14 50 rfl).chg k1) (by rw [List.length_drop, hlen]) (by decide) (by decide) (encF_14 kind epoch seq lba body) (by omega))
  have H18 := Lib.hid (show Bs w (some ⟨D, o + 18, none⟩) body from by have := hB.sub 18 n; rwa [encF_18 _ _ _ _ _ hn] at this)
  have HB := Lib.hid hB
  have HL := Lib.hid hlen
  have HK := Lib.hid (And.intro h1 (And.intro h2 (And.intro h3 (And.intro h4 h5))))
  have HN := Lib.hid (And.intro hn (And.intro hn0 h6))
  have hci : (64 : Int) ≤ c := by omega
  have f40 : ¬ (40 : Int) < n := by omega
  have fsq : ¬ (1099511627776 : Int) < seq := by omega
  have g40 : decide ((40 : Int) < n) = false := decide_eq_false f40
  have gsq : decide ((1099511627776 : Int) < seq) = false := decide_eq_false fsq
  clear hB hlen hp ek en hsub h1 h2 h3 h4 h5 hn hn0 h6 hc
  go_enter Tryz.func143, Tryz.ntmps143
  go_wp2_with fail
  go_step3
  go_wp2_with fail
  go_step3
  have Z1 := (two_new w (.cells #[.int .i64 0, .int .i64 0, .int .i64 0, .int .i64 0, .slice none 0 0] 243) (.cells #[.int .i64 0, .int .i64 0, .int .i64 0, .int .i64 0, .slice none 0 0] 243))
  have d0' := kA.cell d0 (by simp)
  have d1' := kA.cell d1 (by simp)
  have hs := kA.size
  have HDz := Lib.hid (show D ≠ w.heap.size + 1 from by
    have : D < w.heap.size := World.block_lt_of_cell? _ _ d0
    omega)
  generalize hzz : w.heap.size = z at *
  have HZz := Lib.hid hzz
  clear d0 d1
  generalize (w.alloc (.cells #[.int .i64 0, .int .i64 0, .int .i64 0, .int .i64 0, .slice none 0 0] 243)).alloc (.cells #[.int .i64 0, .int .i64 0, .int .i64 0, .int .i64 0, .slice none 0 0] 243) = w1 at *
  have HZ := Lib.hid Z1
  clear Z1
  go_wp2_with fail
  go_loopw [5, 6, 7, 8, 9, 10, 11, 12, 13, 14] (fun a _ _ _ _ _ _ _ _ _ wr => a = .bool false ∧ wr = w1) (fun _ _ _ _ _ _ _ _ _ _ _ => 0)
  case atStart => exact ⟨rfl, rfl⟩
  case round =>
    obtain ⟨rfl, rfl⟩ := hrel
    rename World => w1
    go_wp2_with fail
    refine (H6.out w1 kA).mono ?_
    rintro e w2 ⟨rfl, rfl⟩
    go_wp2_with fail
    refine (H2.out w1 kA).mono ?_
    rintro e w2 ⟨rfl, rfl⟩
    go_wp2_with fail
    refine (H14.out w1 kA).mono ?_
    rintro e w2 ⟨rfl, rfl⟩
    go_wp2_with fail
    have wk : IntKind.i64.wrap (kind : Int) = (kind : Int) := by rw [IntKind.wrap_i64]; have := HK.out; omega
    have we : IntKind.i64.wrap (epoch : Int) = (epoch : Int) := by rw [IntKind.wrap_i64]; have := HK.out; omega
    have ws : IntKind.i64.wrap (seq : Int) = (seq : Int) := by rw [IntKind.wrap_i64]; have := HK.out; omega
    have wl : IntKind.i64.wrap (lba : Int) = (lba : Int) := by rw [IntKind.wrap_i64]; have := HK.out; omega
    have hnc : 18 + (n : Int) ≤ c := by have := HN.out; omega
    have hnc0 : (18 : Int) ≤ 18 + (n : Int) := by omega
    have wn : IntKind.i64.wrap (18 + (n : Int)) = 18 + (n : Int) := by rw [IntKind.wrap_i64]; have := HN.out; omega
    have K1 := HZ.out.2
    have hDz := HDz.out
    have d0d : w1.drew.cell? ⟨D, o, none⟩ = some (.int .u8 kind) := d0'
    have hc18 : ¬ c = 18 := by omega
    have hnt : (18 + (n : Int)).toNat - 18 = n := by omega
    clear hs
    generalize hki : (kind : Int) = ki at *
    generalize hei : (epoch : Int) = ei at *
    generalize hsi : (seq : Int) = si at *
    generalize hli : (lba : Int) = li at *
    have HKi := Lib.hid hki
    have HEi := Lib.hid hei
    have HSi := Lib.hid hsi
    have HLi := Lib.hid hli
    clear hki hei hsi hli
    have kd : Chg [] w w1.drew := kA.drew
    go_region_held3 (fun wx => wx.cell? ⟨D, o, none⟩ = some (.int .u8 ki))
      (first | (with_reducible exact d0') | (with_reducible exact d0d) | (with_reducible exact f6) | (with_reducible exact fS _ _ _ _ _))
      (first
        | (go_at_call 97; refine (clone_btc w1.drew (l := body) (m := n) HN.out.1 HN.out.2.1 (by have := HN.out; omega) (H18.out.chg kd)).mono ?_; rintro e w6 ⟨g2, c2, rfl, k6, bs6, l6, bt6, hcc⟩; have f6 := k6.cell d0d (by simp); have K6 := k6.heap (show w1.drew.heap[z + 1]? = _ from K1) (by simp)
           have r0 : w6.cell? ⟨z + 1, 0, none⟩ = some (.int .i64 0) := cell_is K6 0 rfl
           have z0 := unfrozen K6 0
           have r1 : w6.cell? ⟨z + 1, 1, none⟩ = some (.int .i64 0) := cell_is K6 1 rfl
           have z1 := unfrozen K6 1
           have r2 : w6.cell? ⟨z + 1, 2, none⟩ = some (.int .i64 0) := cell_is K6 2 rfl
           have z2 := unfrozen K6 2
           have r3 : w6.cell? ⟨z + 1, 3, none⟩ = some (.int .i64 0) := cell_is K6 3 rfl
           have z3 := unfrozen K6 3
           have r4 : w6.cell? ⟨z + 1, 4, none⟩ = some (.slice none 0 0) := cell_is K6 4 rfl
           have z4 := unfrozen K6 4
           have kS : ∀ a0 a1 a2 a3 a4, Chg [z + 1] w6 (((((w6.setCell ⟨z + 1, 0, none⟩ a0).setCell ⟨z + 1, 1, none⟩ a1).setCell ⟨z + 1, 2, none⟩ a2).setCell ⟨z + 1, 3, none⟩ a3).setCell ⟨z + 1, 4, none⟩ a4) := fun a0 a1 a2 a3 a4 => (((((Chg.refl [z + 1] w6).then_set (fun _ => by simp) 0 a0).then_set (fun _ => by simp) 1 a1).then_set (fun _ => by simp) 2 a2).then_set (fun _ => by simp) 3 a3).then_set (fun _ => by simp) 4 a4
           have fS : ∀ a0 a1 a2 a3 a4, (((((w6.setCell ⟨z + 1, 0, none⟩ a0).setCell ⟨z + 1, 1, none⟩ a1).setCell ⟨z + 1, 2, none⟩ a2).setCell ⟨z + 1, 3, none⟩ a3).setCell ⟨z + 1, 4, none⟩ a4).cell? ⟨D, o, none⟩ = some (.int .u8 ki) := fun a0 a1 a2 a3 a4 => (kS a0 a1 a2 a3 a4).cell f6 (by simpa using hDz)))
    have e1 := HKi.out
    have e2 := HEi.out
    have e3 := HSi.out
    have e4 := HLi.out
    subst e1 e2 e3 e4
    have k8 : Chg [] w (((((w6.setCell ⟨z + 1, 0, none⟩ (.int .i64 kind)).setCell ⟨z + 1, 1, none⟩ (.int .i64 epoch)).setCell ⟨z + 1, 2, none⟩ (.int .i64 seq)).setCell ⟨z + 1, 3, none⟩ (.int .i64 lba)).setCell ⟨z + 1, 4, none⟩ (.slice (some ⟨g2, 0, none⟩) n c2)) := by
      have hz := HZz.out
      exact ((((((kd.then k6).new_set (by omega) 0 _).new_set (by omega) 1 _).new_set (by omega) 2 _).new_set (by omega) 3 _).new_set (by omega) 4 _)
    have K8 : (((((w6.setCell ⟨z + 1, 0, none⟩ (.int .i64 kind)).setCell ⟨z + 1, 1, none⟩ (.int .i64 epoch)).setCell ⟨z + 1, 2, none⟩ (.int .i64 seq)).setCell ⟨z + 1, 3, none⟩ (.int .i64 lba)).setCell ⟨z + 1, 4, none⟩ (.slice (some ⟨g2, 0, none⟩) n c2)).heap[z + 1]? = some (.cells #[.int .i64 kind, .int .i64 epoch, .int .i64 seq, .int .i64 lba, .slice (some ⟨g2, 0, none⟩) n c2] 243 (0, 0)) :=
      heap_set (heap_set (heap_set (heap_set (heap_set K6 0 _ rfl) 1 _ rfl) 2 _ rfl) 3 _ rfl) 4 _ rfl
    have hgz : g2 ≠ z + 1 := by
      obtain ⟨cs, hh⟩ := bt6
      exact heap_ne hh K6 (by simp)
    have kS8 := kS (.int .i64 kind) (.int .i64 epoch) (.int .i64 seq) (.int .i64 lba) (.slice (some ⟨g2, 0, none⟩) n c2)
    have Z8 := kS8.heap (k6.heap (show w1.drew.heap[z]? = _ from HZ.out.1) (by simp)) (by simp)
    have bs8 := bs6.chgT kS8 (by simpa using hgz)
    have bt8 := Bt.keep bt6 kS8 (by simpa using hgz)
    have hg2 : w.heap.size ≤ g2 := by have := kd.size; omega
    have HBs := Lib.hid bs8
    have HBt := Lib.hid (And.intro bt8 (And.intro hg2 hcc))
    clear kS fS r0 r1 r2 r3 r4 z0 z1 z2 z3 z4 f6 kS8 bs8 bt8 bs6 bt6 k6 K6 kd d0d d0' wk we ws wl wn hnc hnc0 hc18 hnt hgz l6 hg2 hcc K1
    generalize ((((w6.setCell ⟨z + 1, 0, none⟩ (.int .i64 kind)).setCell ⟨z + 1, 1, none⟩ (.int .i64 epoch)).setCell ⟨z + 1, 2, none⟩ (.int .i64 seq)).setCell ⟨z + 1, 3, none⟩ (.int .i64 lba)).setCell ⟨z + 1, 4, none⟩ (.slice (some ⟨g2, 0, none⟩) n c2) = w8 at *
    have q0 : w8.cell? ⟨z + 1, 0, none⟩ = some (.int .i64 kind) := cell_is K8 0 rfl
    have q1 : w8.cell? ⟨z + 1, 1, none⟩ = some (.int .i64 epoch) := cell_is K8 1 rfl
    have q2 : w8.cell? ⟨z + 1, 2, none⟩ = some (.int .i64 seq) := cell_is K8 2 rfl
    have q3 : w8.cell? ⟨z + 1, 3, none⟩ = some (.int .i64 lba) := cell_is K8 3 rfl
    have q4 : w8.cell? ⟨z + 1, 4, none⟩ = some (.slice (some ⟨g2, 0, none⟩) n c2) := cell_is K8 4 rfl
    go_wp2_with fail
    refine (fencode_any w8 (kind := kind) (epoch := epoch) (seq := seq) (lba := lba) HK.out.1 HK.out.2.1 HK.out.2.2.1 HK.out.2.2.2.1 HK.out.2.2.2.2 HN.out.1 HN.out.2.2 HBs.out).mono ?_
    rintro e w9 ⟨g9, c9, rfl, k9, l9, bs9, bt9⟩
    have k09 := k8.then k9
    have HEq := Lib.hid (eq_same w9 (c := c) (c' := c9) (HB.out.chg k09) bs9 HL.out (by decide))
    go_wp2_with fail
    refine HEq.out.mono ?_
    rintro e w10 ⟨rfl, k10⟩
    have k010 := k09.then k10
    have K10 := k10.heap (k9.heap K8 (by simp)) (by simp)
    have Z10 := k10.heap (k9.heap Z8 (by simp)) (by simp)
    have x0 : w10.cell? ⟨z + 1, 0, none⟩ = some (.int .i64 kind) := cell_is K10 0 rfl
    have x1 : w10.cell? ⟨z + 1, 1, none⟩ = some (.int .i64 epoch) := cell_is K10 1 rfl
    have x2 : w10.cell? ⟨z + 1, 2, none⟩ = some (.int .i64 seq) := cell_is K10 2 rfl
    have x3 : w10.cell? ⟨z + 1, 3, none⟩ = some (.int .i64 lba) := cell_is K10 3 rfl
    have x4 : w10.cell? ⟨z + 1, 4, none⟩ = some (.slice (some ⟨g2, 0, none⟩) n c2) := cell_is K10 4 rfl
    have y0 : w10.cell? ⟨z, 0, none⟩ = some (.int .i64 0) := cell_is Z10 0 rfl
    have y1 : w10.cell? ⟨z, 1, none⟩ = some (.int .i64 0) := cell_is Z10 1 rfl
    have y2 : w10.cell? ⟨z, 2, none⟩ = some (.int .i64 0) := cell_is Z10 2 rfl
    have y3 : w10.cell? ⟨z, 3, none⟩ = some (.int .i64 0) := cell_is Z10 3 rfl
    have y4 : w10.cell? ⟨z, 4, none⟩ = some (.slice none 0 0) := cell_is Z10 4 rfl
    have f0 := unfrozen Z10 0
    have f1 := unfrozen Z10 1
    have f2 := unfrozen Z10 2
    have f3 := unfrozen Z10 3
    have f4 := unfrozen Z10 4
    have HF := Lib.hid (And.intro k010 (And.intro ((HBs.out.chg k9).chg k10) (Bt.keep (Bt.keep HBt.out.1 k9 (by simp)) k10 (by simp))))
    clear HEq k9 k10 k010 k09 k8 K8 q0 q1 q2 q3 q4 bs9 bt9 Z8 HBs
    have ZF : (((((w10.setCell ⟨z, 0, none⟩ (.int .i64 kind)).setCell ⟨z, 1, none⟩ (.int .i64 epoch)).setCell ⟨z, 2, none⟩ (.int .i64 seq)).setCell ⟨z, 3, none⟩ (.int .i64 lba)).setCell ⟨z, 4, none⟩ (.slice (some ⟨g2, 0, none⟩) n c2)).heap[z]? = some (.cells #[.int .i64 kind, .int .i64 epoch, .int .i64 seq, .int .i64 lba, .slice (some ⟨g2, 0, none⟩) n c2] 243 (0, 0)) :=
      heap_set (heap_set (heap_set (heap_set (heap_set Z10 0 _ rfl) 1 _ rfl) 2 _ rfl) 3 _ rfl) 4 _ rfl
    have kZ : Chg [z] w10 (((((w10.setCell ⟨z, 0, none⟩ (.int .i64 kind)).setCell ⟨z, 1, none⟩ (.int .i64 epoch)).setCell ⟨z, 2, none⟩ (.int .i64 seq)).setCell ⟨z, 3, none⟩ (.int .i64 lba)).setCell ⟨z, 4, none⟩ (.slice (some ⟨g2, 0, none⟩) n c2)) := (((((Chg.refl [z] w10).then_set (fun _ => by simp) 0 _).then_set (fun _ => by simp) 1 _).then_set (fun _ => by simp) 2 _).then_set (fun _ => by simp) 3 _).then_set (fun _ => by simp) 4 _
    have hgz : g2 ∉ [z] := by
      obtain ⟨cs, hh⟩ := HF.out.2.2
      simpa using heap_ne hh Z10 (by simp)
    have kFin : Chg [] w (((((w10.setCell ⟨z, 0, none⟩ (.int .i64 kind)).setCell ⟨z, 1, none⟩ (.int .i64 epoch)).setCell ⟨z, 2, none⟩ (.int .i64 seq)).setCell ⟨z, 3, none⟩ (.int .i64 lba)).setCell ⟨z, 4, none⟩ (.slice (some ⟨g2, 0, none⟩) n c2)) := HF.out.1.trans kZ (fun x hx hlt => by have := HZz.out; simp at hx; omega)
    have HFin := Lib.hid (And.intro kFin (And.intro (HF.out.2.1.chgT kZ hgz) (And.intro (Bt.keep HF.out.2.2 kZ hgz) HBt.out.2)))
    have n0 := cell_is ZF 0 (v := .int .i64 kind) rfl
    have n1 := cell_is ZF 1 (v := .int .i64 epoch) rfl
    have n2 := cell_is ZF 2 (v := .int .i64 seq) rfl
    have n3 := cell_is ZF 3 (v := .int .i64 lba) rfl
    have n4 := cell_is ZF 4 (v := .slice (some ⟨g2, 0, none⟩) n c2) rfl
    clear ZF kZ hgz kFin HF Z10 K10
    go_wp2_with fail
    rw [Exit.noGoto_ret]
    refine bodyPost_ret (v := .tuple #[.agg #[.int .i64 kind, .int .i64 epoch, .int .i64 seq, .int .i64 lba, .slice (some ⟨g2, 0, none⟩) n c2], .int .i64 0]) (by simp [results, Tryz.results143, go_sem, n0, n1, n2, n3, n4]) rfl ?_
    exact ⟨g2, c2, rfl, HFin.out⟩
end Go.Proofs.YtkhionhicegfmaaGreat
