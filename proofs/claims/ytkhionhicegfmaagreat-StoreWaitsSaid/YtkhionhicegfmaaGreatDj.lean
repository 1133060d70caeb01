/- Lemmas and walks: Walks: many puts are taken in by the versions, and by a manager. Printed by mkRs.py. Walks: a device whose log holds batches is mounted (store.Mount). Walks: what all blocks are that were written (extmap.Dump, txn.Dump, store.Dump, store.Last). Walks: the bytes that the law writes. Walks: the bytes that hang on a number, told exactly (scarpalike.Data); like bytes are found alike (scarpalike.Bytes). Plain laws: the log of one batch a mount, what it holds behind so many. Walks: a block is put at a zone's pointer, on a device that has read blocks. Printed by mkRp.py. Walks: a batch is written into the log, on a device that has read blocks. Printed by mkRp.py. Walks: a store's batch of one transaction is flushed. -/
import Derived.Deep.RegionHeld3
import Derived.Test.YtkhionhicegfmaaGreatDc
import Derived.Test.YtkhionhicegfmaaGreatDe
import Derived.Test.YtkhionhicegfmaaGreatDg
import Derived.Test.YtkhionhicegfmaaGreatDh
import Derived.Test.YtkhionhicegfmaaGreatDi
namespace Go.Proofs.YtkhionhicegfmaaGreat
open Go.RowKit Go.Lib

set_option maxRecDepth 100000 in
set_option maxHeartbeats 8000000 in
theorem apply_wide (w : World) {lo X rx lp cb : Nat} {last k : Int} {pb : Option Addr} {Lv : List (Int × Value)} {vs : Int → List (Int × List UInt8)} {l : List (Int × List UInt8)} (hv : VerG w lo X rx last Lv vs) (hap : ApL Lv) (hkeys : ∀ p ∈ Lv, 0 ≤ p.1 ∧ p.1 < 258) (hlo : lo ≤ w.heap.size)
    (hp : PutsAt w lp (.slice pb l.length cb) l) (hk : ∀ x ∈ l, 0 ≤ x.1 ∧ x.1 < 258) (hr : Rise l) (hl0 : 0 < l.length) (hl : l.length ≤ 258) (hk0 : last < k) (hk1 : k ≤ 1099511627776) (hs : ∀ c, (vs c).length + 258 < 1000000) :
    Calls Tryz.prog 106 #[.pointer (some ⟨X, 0, none⟩), .agg #[.int .i64 k, .slice pb l.length cb]] w fun e w' => e = .returned (.int .i64 0) ∧ Cv lo X rx w w' ∧ ∃ Lv', VerG w' lo X rx k Lv' (applyV vs k l) ∧ ApL Lv' ∧ ∀ p ∈ Lv', 0 ≤ p.1 ∧ p.1 < 258 := by
  obtain ⟨gp, cap, gd0, cd0, hvv, hcap, -, -, -, -, -⟩ := hp.get 0 hl0
  cases hvv
  have k0 : Chg [] w (w.alloc (.cells #[.int .i64 k, .slice (some ⟨gp, 0, none⟩) l.length cb] 181)) := Chg.alloc w _
  have K0 := heap_new w (.cells #[.int .i64 k, .slice (some ⟨gp, 0, none⟩) l.length cb] 181)
  have hv0 := hv.keep k0
  have hp0 := hp.keep0 k0
  have hA0 : Ap w (w.alloc (.cells #[.int .i64 k, .slice (some ⟨gp, 0, none⟩) l.length cb] 181)) lo X rx last k vs l 0 := ⟨⟨Lv, hv0, hap, hkeys⟩, Cv.of_chg k0⟩
  have x0 : (w.alloc (.cells #[.int .i64 k, .slice (some ⟨gp, 0, none⟩) l.length cb] 181)).cell? ⟨X, 0, none⟩ = some (.int .i64 258) := cell_is hv0.x 0 rfl
  have x2 : (w.alloc (.cells #[.int .i64 k, .slice (some ⟨gp, 0, none⟩) l.length cb] 181)).cell? ⟨X, 2, none⟩ = some (.int .i64 last) := cell_is hv0.x 2 rfl
  have b0 : (w.alloc (.cells #[.int .i64 k, .slice (some ⟨gp, 0, none⟩) l.length cb] 181)).cell? ⟨w.heap.size, 0, none⟩ = some (.int .i64 k) := cell_is K0 0 rfl
  have b1 : (w.alloc (.cells #[.int .i64 k, .slice (some ⟨gp, 0, none⟩) l.length cb] 181)).cell? ⟨w.heap.size, 1, none⟩ = some (.slice (some ⟨gp, 0, none⟩) l.length cb) := cell_is K0 1 rfl
  have HG := Lib.hid (xgone_any _ x0)
  have n0 : decide (k ≤ last) = false := decide_eq_false (by omega)
  have n1 : decide (1099511627776 < k) = false := decide_eq_false (by omega)
  have HKB := Lib.hid (fun w1 (kk : Chg [] (w.alloc (.cells #[.int .i64 k, .slice (some ⟨gp, 0, none⟩) l.length cb] 181)) w1) b (h0 : 0 ≤ b) (h1 : b < 258) => gblock_any w1 (b := b) (hv0.keep kk) h0 h1)
  have HRs := Lib.hid (fun w1 (kk : Chg [] (w.alloc (.cells #[.int .i64 k, .slice (some ⟨gp, 0, none⟩) l.length cb] 181)) w1) => rise_ok w1 (hp0.keep0 kk) hr hl0 (by omega))
  have HCp := Lib.hid (fun w1 (kk : Chg [] (w.alloc (.cells #[.int .i64 k, .slice (some ⟨gp, 0, none⟩) l.length cb] 181)) w1) => contputs_164 w1 (hp0.keep0 kk) hk (by omega))
  have HP := Lib.hid hp0
  have HA := Lib.hid hA0
  have HK := Lib.hid hk
  have HS := Lib.hid hs
  have hl0i : (0 : Int) < l.length := by omega
  have hcapi : (l.length : Int) ≤ cb := by omega
  have hmn : l.length - 1 < l.length := by omega
  clear hv hap hkeys hv0 hp hp0 hr hA0 hk x0 hs
  go_enter Tryz.func106, Tryz.ntmps106
  go_wp2_with fail
  generalize w.alloc (.cells #[.int .i64 k, .slice (some ⟨gp, 0, none⟩) l.length cb] 181) = w1 at *
  generalize hz : w.heap.size = z at *
  refine HG.out.mono ?_
  rintro e w2 ⟨rfl, rfl⟩
  go_wp2_with fail
  go_quiet (fail)
  have b0' : (w1.drewN nq).cell? ⟨z, 0, none⟩ = some (.int .i64 k) := b0
  have b1' : (w1.drewN nq).cell? ⟨z, 1, none⟩ = some (.slice (some ⟨gp, 0, none⟩) l.length cb) := b1
  have kd : Chg [] w1 (w1.drewN nq) := (Chg.refl [] w1).drewN nq
  have HAd := Lib.hid (HA.out.keep kd)
  have K0d := kd.heap K0 (by simp)
  clear b0 b1 x2 n0 n1 HA K0 HG
  go_wp2_with fail
  refine (HRs.out _ kd).mono ?_
  rintro e w2 ⟨rfl, k2⟩
  have hp2 := HP.out.keep0 (kd.then k2)
  obtain ⟨gp1, cap1, gd1, cd1, hv1, -, d0, -, -, -, -⟩ := hp2.get 0 hl0
  obtain ⟨gp2, cap2, gd2, cd2, hv2, -, dm, -, -, -, -⟩ := hp2.get (l.length - 1) hmn
  cases hv1
  cases hv2
  have hk0b := HK.out _ (List.getElem_mem hl0)
  have hkmb := HK.out _ (List.getElem_mem (hmn))
  have b12 := k2.cell b1' (by simp)
  have HB0 := Lib.hid (HKB.out w2 (kd.then k2) _ hk0b.1 hk0b.2)
  have HBm := Lib.hid (HKB.out w2 (kd.then k2) _ hkmb.1 hkmb.2)
  have HA2 := Lib.hid (HAd.out.keep k2)
  have K2 := k2.heap K0d (by simp)
  clear HRs b1' hp2 HAd K0d hk0b hkmb
  generalize (l[0]'hl0).1 = y0 at *
  generalize (l[l.length - 1]'(hmn)).1 = ym at *
  go_wp2_with fail
  refine HB0.out.mono ?_
  rintro e w3 ⟨rfl, rfl⟩
  go_wp2_with fail
  refine HBm.out.mono ?_
  rintro e w3 ⟨rfl, rfl⟩
  go_wp2_with fail
  refine (HCp.out w2 (kd.then k2)).mono ?_
  rintro e w3 ⟨rfl, k3⟩
  have b13 := k3.cell b12 (by simp)
  have HA3 := Lib.hid (HA2.out.keep k3)
  have HP3 := Lib.hid (HP.out.keep0 ((kd.then k2).then k3))
  have K3 := k3.heap K2 (by simp)
  have hz3 : lo ≤ w3.heap.size := by have := HA3.out.cv.size; omega
  have hzlt := heap_lt K3
  clear HB0 HBm HCp HKB d0 dm b12 HA2 K2 HP k2 k3 kd
  clear hmn
  go_wp2_with fail
  go_loopw [6, 58] (fun _ i wr => ∃ j : Nat, j ≤ l.length ∧ i = .int .i64 j ∧ Ap w wr lo X rx last k vs l j ∧ PutsAt wr lp (.slice (some ⟨gp, 0, none⟩) l.length cb) l ∧ wr.heap[z]? = some (.cells #[.int .i64 k, .slice (some ⟨gp, 0, none⟩) l.length cb] 181 (0, 0)) ∧ lo ≤ wr.heap.size) (fun _ i _ => l.length - (intOf i).toNat)
  case atStart => exact ⟨0, by omega, rfl, HA3.out, HP3.out, K3, hz3⟩
  case round =>
    obtain ⟨j, hj, rfl, hAr, hPr, Kr, hlr⟩ := hrel
    rename World => wr
    clear HA3 HP3 K3 hz3 b13
    by_cases hlt : j < l.length
    · obtain ⟨L, hver, hap, hkeys⟩ := hAr.ver
      obtain ⟨gp3, cap3, gd, cd, hv3, -, d0, d1, hbs, hbl, hbt⟩ := hPr.get j hlt
      cases hv3
      have hkj := HK.out _ (List.getElem_mem hlt)
      obtain ⟨v, xs, hgv, hgl, hown, hxs⟩ := hver.own hkj.1 hkj.2
      have HX := Lib.hid hxs
      have HO := Lib.hid hown
      have HV := Lib.hid hver
      have HAp := Lib.hid hap
      have HKs := Lib.hid hkeys
      have HGl := Lib.hid hgl
      have HPr := Lib.hid hPr
      have HAr := Lib.hid hAr
      have HBs := Lib.hid hbs
      have HBt := Lib.hid hbt
      have HKr := Lib.hid Kr
      have hlti : (j : Int) < l.length := by omega
      have kp : Chg [] wr (wr.alloc (.cells #[.int .i64 (l[j]'hlt).1, .slice (some ⟨gd, 0, none⟩) 40 cd] 43)) := Chg.alloc wr _
      have Kp := heap_new wr (.cells #[.int .i64 (l[j]'hlt).1, .slice (some ⟨gd, 0, none⟩) 40 cd] 43)
      have hlen : ((applyV vs k (l.take j)) (l[j]'hlt).1).length ≤ 1000000 := by
        have h1 := applyV_len vs k (l.take j) (l[j]'hlt).1
        have h2 := HS.out (l[j]'hlt).1
        simp only [List.length_take] at h1
        omega
      have HLn := Lib.hid hlen
      have HKj := Lib.hid hkj
      have HLr := Lib.hid hlr
      have HVl := Lib.hid (show ∀ c, ((applyV vs k (l.take j)) c).length < 1000000 from fun c => by
        have h1 := applyV_len vs k (l.take j) c
        have h2 := HS.out c
        simp only [List.length_take] at h1
        omega)
      have hd40 := Lib.hid hbl
      have HT := Lib.hid (applyV_take vs k l j hlt)
      clear hver hap hkeys hown hxs hgl hPr hAr hbs hbt hbl hkj hlen
      generalize hb' : (l[j]'hlt).1 = b at *
      generalize hd' : (l[j]'hlt).2 = d at *
      generalize applyV vs k (l.take j) = vj at *
      go_upto_block 2 with fail
      go_cut [6] from 60 to 83 (fun _ wx => Ap w wx lo X rx last k vs l (j + 1) ∧ PutsAt wx lp (.slice (some ⟨gp, 0, none⟩) l.length cb) l ∧ wx.heap[z]? = some (.cells #[.int .i64 k, .slice (some ⟨gp, 0, none⟩) l.length cb] 181 (0, 0)) ∧ lo ≤ wx.heap.size)
      case rest =>
        obtain ⟨q1, q2, q3, q4⟩ := hcut
        go_wp2_with fail
        exact ⟨⟨j + 1, by omega, by go_num, q1, q2, q3, q4⟩, by simp [intOf]; omega⟩
      go_wp2_with fail
      have hV5 := HV.out.keep kp
      have x1 : (wr.alloc (.cells #[.int .i64 b, .slice (some ⟨gd, 0, none⟩) 40 cd] 43)).cell? ⟨X, 1, none⟩ = some (.map (some rx)) := cell_is hV5.x 1 rfl
      have p0 : (wr.alloc (.cells #[.int .i64 b, .slice (some ⟨gd, 0, none⟩) 40 cd] 43)).cell? ⟨wr.heap.size, 0, none⟩ = some (.int .i64 b) := cell_is Kp 0 rfl
      have p1 : (wr.alloc (.cells #[.int .i64 b, .slice (some ⟨gd, 0, none⟩) 40 cd] 43)).cell? ⟨wr.heap.size, 1, none⟩ = some (.slice (some ⟨gd, 0, none⟩) 40 cd) := cell_is Kp 1 rfl
      have b0 : (wr.alloc (.cells #[.int .i64 b, .slice (some ⟨gd, 0, none⟩) 40 cd] 43)).cell? ⟨z, 0, none⟩ = some (.int .i64 k) := cell_is (kp.heap Kr (by simp)) 0 rfl
      have HLk := Lib.hid (fun wx (kx : Chg [] wr wx) => show (Instr.lookup 251 (.map (some rx)) (.int .i64 b) false).run Tryz.prog wx = .ok v wx from by
        have := lookup258g (HV.out.keep kx).m b
        rw [hgv] at this
        exact this)
      generalize hw5 : wr.alloc (.cells #[.int .i64 b, .slice (some ⟨gd, 0, none⟩) 40 cd] 43) = w5 at *
      have hzp : wr.heap.size ≤ w5.heap.size := kp.size
      have kd : Chg [] wr w5.drew := kp.drew
      have hXn : X ∉ v.ownBlock.toList := own_block_ne HO.out HV.out.x (by decide)
      have hrn : rx ∉ v.ownBlock.toList := fun hm => by
        obtain ⟨-, cs, hh⟩ := own_elem HO.out (show v.ownBlock = some rx by simpa using hm)
        exact map_cells HV.out.m hh rfl
      have hzn : wr.heap.size ∉ v.ownBlock.toList := own_block_ne (ownsRow_av HO.out kp (Av.nil _ _)) Kp (by decide)
      have HXn := Lib.hid hXn
      have HRn := Lib.hid hrn
      have HZn := Lib.hid hzn
      have HBn := Lib.hid (own_block_ne (ownsRow_av HO.out kp (Av.nil _ _)) (kp.heap HKr.out (by simp)) (by decide) : z ∉ v.ownBlock.toList)
      clear hXn hrn hzn
      have hl5 : lo ≤ w5.drew.heap.size := Nat.le_trans hlr hzp
      have hlk5 := HLk.out w5.drew kd
      have x1d : w5.drew.cell? ⟨X, 1, none⟩ = some (.map (some rx)) := x1
      have p0d : w5.drew.cell? ⟨wr.heap.size, 0, none⟩ = some (.int .i64 b) := p0
      have p1d : w5.drew.cell? ⟨wr.heap.size, 1, none⟩ = some (.slice (some ⟨gd, 0, none⟩) 40 cd) := p1
      have b0d : w5.drew.cell? ⟨z, 0, none⟩ = some (.int .i64 k) := b0
      clear hgv d0 d1 Kr
      generalize wr.heap.size = zp at *
      go_region_held3 (fun wx => wx.cell? ⟨X, 1, none⟩ = some (.map (some rx)) ∧ wx.cell? ⟨zp, 0, none⟩ = some (.int .i64 b) ∧ wx.cell? ⟨zp, 1, none⟩ = some (.slice (some ⟨gd, 0, none⟩) 40 cd) ∧ wx.cell? ⟨z, 0, none⟩ = some (.int .i64 k))
        (first
          | (exact ⟨x1d, p0d, p1d, b0d⟩)
          | (exact ⟨x16, p06, p16, b06⟩)
          | (exact ⟨x1y, p0y, p1y, b0y⟩)
          | (exact ⟨x17, p07, p17, b07⟩)
          | (exact ⟨k9.cell x17 (by simpa using cell_map m7 x17), k9.cell p07 (by simpa using cell_map m7 p07), k9.cell p17 (by simpa using cell_map m7 p17), k9.cell b07 (by simpa using cell_map m7 b07)⟩))
        (first
          | (go_simp; go_at_call 97; refine (clone_bt w5.drew (l := d) (m := 40) hd40.out (by decide) (by decide) (HBs.out.chg kd)).mono ?_; rintro e w6 ⟨g2, c2, rfl, k6, bs6, l6, bt6⟩; have k6r := kd.then k6; have x16 := k6.cell x1d (by simp); have p06 := k6.cell p0d (by simp); have p16 := k6.cell p1d (by simp); have b06 := k6.cell b0d (by simp); have hlk6 := HLk.out w6 k6r; have ky : Chg [] wr (w6.alloc (.cells #[.int .i64 k, .slice (some ⟨g2, 0, none⟩) 40 c2] 262)) := k6r.then_alloc _; have y0 := heap_new w6 (.cells #[.int .i64 k, .slice (some ⟨g2, 0, none⟩) 40 c2] 262); have kyy : Chg [] w6 (w6.alloc (.cells #[.int .i64 k, .slice (some ⟨g2, 0, none⟩) 40 c2] 262)) := Chg.alloc w6 _; have x1y := kyy.cell x16 (by simp); have p0y := kyy.cell p06 (by simp); have p1y := kyy.cell p16 (by simp); have b0y := kyy.cell b06 (by simp); have hlky := HLk.out _ ky; have oy := ownsRow_av HO.out ky (Av.nil _ _); have hby : lo ≤ (w6.alloc (.cells #[.int .i64 k, .slice (some ⟨g2, 0, none⟩) 40 c2] 262)).heap.size := (by have := k6.size; have := kyy.size; omega))
          | (refine step_append_ver rfl (.tmp 74) (.tmp 81) rfl lo _ _ xs rfl oy w6.heap.size 1 _ _ rfl (cell_is y0 0 rfl) (cell_is y0 1 rfl) ⟨rfl, rfl⟩ HLn.out hby ?_; intro g7 cp7 w7 o7 k7 i7; have x17 := k7.cell x1y HXn.out; have p07 := k7.cell p0y HZn.out; have p17 := k7.cell p1y HZn.out; have b07 := k7.cell b0y HBn.out; have m7 := (HV.out.keep ky).m.keep k7 HRn.out; obtain ⟨hmu, m8, k9⟩ := upd258 m7 b (.slice (some ⟨g7, 0, none⟩) ((vj b).length + 1) cp7)))
      all_goals
        obtain ⟨hvF, haF, hcF⟩ := VerG.added (d := d) (k := k) (HV.out.keep ky) HAp.out HKs.out HGl.out oy (fun i hi => by
          obtain ⟨e1, g', c', e2, e3, e4, e5⟩ := HX.out i hi
          exact ⟨e1, g', c', e2, e3.chg ky, e4, Bt.keep e5 ky (by simp)⟩) rfl o7 k7 i7 (bs6.chg kyy) hd40.out (Bt.keep bt6 kyy (by simp)) m8 k9 (fun c => by
          have := HVl.out c
          omega)
        have hkF : ∀ p ∈ putL L b (.slice (some ⟨g7, 0, none⟩) ((vj b).length + 1) cp7), 0 ≤ p.1 ∧ p.1 < 258 := putL_keys (P := fun x => 0 ≤ x ∧ x < 258) HKs.out HKj.out
        have hcC : Cv lo X rx wr (updW w7 251 rx b (.slice (some ⟨g7, 0, none⟩) ((vj b).length + 1) cp7)) := (Cv.of_chg ky).trans hcF
        have hA' := Lib.hid (Ap.mk (w := w) (last := last) (k := k) (vs := vs) (l := l) (j := j + 1) ⟨_, HT.out ▸ hvF, haF, hkF⟩ (HAr.out.cv.trans hcC))
        obtain ⟨TT, hT1, hT2⟩ := hcC
        have hXr := HV.out.x
        have hmr := HV.out.m
        have hP' := Lib.hid (HPr.out.keep hT1 (Cv.av hT2 hXr hmr (by decide) (by decide)) (fun g hg hm => by
          obtain ⟨-, cs, hh⟩ := HPr.out.block g hg
          exact (Cv.av (ts := [43]) hT2 hXr hmr (by decide) (by decide)).ne hh (by simp) hm))
        have hK' := Lib.hid (hT1.heap HKr.out ((Cv.av (ts := [181]) hT2 hXr hmr (by decide) (by decide)).ne HKr.out (by simp)))
        have hS' := Lib.hid (show lo ≤ (updW w7 251 rx b (.slice (some ⟨g7, 0, none⟩) ((vj b).length + 1) cp7)).heap.size from by
          have := k6.size
          have := kyy.size
          have := hcF.size
          omega)
        clear hvF haF hcF hkF hT1 hT2 hXr hmr hmu
        go_wp2_with fail
        go_meet
        exact ⟨hA'.out, hP'.out, hK'.out, hS'.out⟩
    · obtain rfl : j = l.length := by omega
      obtain ⟨L, hver, hap, hkeys⟩ := hAr.ver
      rw [List.take_length] at hver
      have b13 : wr.cell? ⟨z, 0, none⟩ = some (.int .i64 k) := cell_is Kr 0 rfl
      have x2 : wr.cell? ⟨X, 2, none⟩ = some (.int .i64 last) := cell_is hver.x 2 rfl
      have f2 := unfrozen hver.x 2
      have HV := Lib.hid (hver.timed k)
      have HC := Lib.hid (hAr.cv.trans ⟨[X], Chg.set wr X 2 (.int .i64 k), fun x hx _ => Or.inl (by simpa using hx)⟩)
      clear hver hAr hPr Kr
      go_wp2_with fail
      go_ret
      exact ⟨rfl, HC.out, L, HV.out, hap, hkeys⟩
set_option maxRecDepth 100000 in
set_option maxHeartbeats 4000000 in
theorem tload_wide (w : World) {lo M X B r rx lp cb : Nat} {qv : Value} {out num bas last given lastv : Int} {rd : Bool} {pb : Option Addr} {Lv : List (Int × Value)} {vs : Int → List (Int × List UInt8)} {l : List (Int × List UInt8)}
    (h : MgrG w M X B r qv out num bas last given rd) (hr0 : MapAt w r []) (hv : VerG w lo X rx lastv Lv vs) (hap : ApL Lv) (hkeys : ∀ p ∈ Lv, 0 ≤ p.1 ∧ p.1 < 258) (hlo : lo ≤ w.heap.size)
    (hp : PutsAt w lp (.slice pb l.length cb) l) (hk : ∀ x ∈ l, 0 ≤ x.1 ∧ x.1 < 258) (hr : Rise l) (hl0 : 0 < l.length) (hl : l.length ≤ 258) (hb0 : 0 < bas) (hk0 : lastv < bas) (hk1 : bas ≤ 1099511627776) (hs : ∀ c, (vs c).length + 258 < 1000000) :
    Calls Tryz.prog 56 #[.pointer (some ⟨M, 0, none⟩), .slice pb l.length cb] w fun e w' => e = .returned (.int .i64 0) ∧ Cv lo X rx w w' ∧ ∃ Lv', VerG w' lo X rx bas Lv' (applyV vs bas l) ∧ ApL Lv' ∧ ∀ p ∈ Lv', 0 ≤ p.1 ∧ p.1 < 258 := by
  have HG := Lib.hid (tgone_mg w h)
  have kd : Chg [] w w.drew := (Chg.refl [] w).drew
  have HA := Lib.hid (apply_wide w.drew (hv.keep kd) hap hkeys (Nat.le_trans hlo kd.size) (hp.keep0 kd) hk hr hl0 hl hk0 hk1 hs)
  have HK := Lib.hid kd
  have c0 : w.cell? ⟨M, 0, none⟩ = some (.pointer (some ⟨X, 0, none⟩)) := cell_is h 0 rfl
  have c2 : w.cell? ⟨M, 2, none⟩ = some (.map (some r)) := cell_is h 2 rfl
  have c6 : w.cell? ⟨M, 6, none⟩ = some (.int .i64 bas) := cell_is h 6 rfl
  have hlen : (Builtin.len_ #[187] 3 #[.map (some r)]).run Tryz.prog w = .ok (.int .i64 0) w := run_len_im ty178 hr0 3
  have hb1 : ¬ bas = 0 := by omega
  have hl1 : ¬ (l.length : Int) = 0 := by omega
  have hd0 : decide (bas = 0) = false := by simpa using hb1
  have hd1 : decide ((l.length : Int) = 0) = false := by simpa using hl1
  clear kd h hr0 hv hap hkeys hlo hp hk hr hk0 hk1 hs
  go_enter Tryz.func56, Tryz.ntmps56
  go_wp2_with fail
  refine HG.out.mono ?_
  rintro e w1 ⟨rfl, rfl⟩
  go_wp2_with fail
  go_still_tail 10, (by kernel_rfl)
  change wpList _ _ _ _ _ w.drew
  generalize w.drew = w2 at *
  go_wp2_with fail
  refine HA.out.mono ?_
  rintro e w3 ⟨rfl, hcv, Lv', h1, h2, h3⟩
  have HR := Lib.hid (And.intro ((Cv.of_chg HK.out).trans hcv) (And.intro h1 (And.intro h2 h3)))
  clear hcv h1 h2 h3
  go_wp2_with fail
  go_ret
  exact ⟨rfl, HR.out.1, _, HR.out.2.1, HR.out.2.2.1, HR.out.2.2.2⟩
end Go.Proofs.YtkhionhicegfmaaGreat
namespace Go.Proofs.YtkhionhicegfmaaGreat
open Go.RowKit Go.Lib

/-- what all blocks hold behind some puts, by rising number. -/
def finL (ps : List (Int × List UInt8)) : List (Int × List UInt8) := (sortI (appK ps)).map fun k => (k, appD ps k)
theorem finL_length (ps : List (Int × List UInt8)) : (finL ps).length = (appK ps).length := by simp [finL, sortI_length]
theorem putsL_fin {L : List (Int × Value)} {ps : List (Int × List UInt8)} (h : L.map Prod.fst = appK ps) : putsL L (appD ps) = finL ps := by
  rw [putsL, finL, h]
theorem appK_in {P : Int → Prop} (ps : List (Int × List UInt8)) (h : ∀ x ∈ ps, P x.1) : ∀ k ∈ appK ps, P k := by
  have h2 : ∀ (ps : List (Int × List UInt8)) (K : List Int), (∀ x ∈ ps, P x.1) → (∀ k ∈ K, P k) → ∀ k ∈ ps.foldl (fun K x => if x.1 ∈ K then K else K ++ [x.1]) K, P k := by
    intro ps
    induction ps with
    | nil => intro K _ hK; exact hK
    | cons x ps ih =>
      intro K hp hK
      refine ih _ (fun y hy => hp y (List.mem_cons_of_mem _ hy)) ?_
      intro k hk
      dsimp only at hk
      by_cases e : x.1 ∈ K
      · rw [if_pos e] at hk
        exact hK k hk
      · rw [if_neg e] at hk
        rcases List.mem_append.1 hk with hk | hk
        · exact hK k hk
        · rw [List.mem_singleton] at hk
          subst hk
          exact hp x (List.mem_cons_self ..)
  exact h2 ps [] h (fun k hk => by cases hk)
/-- what stands while a store with a log is mounted. -/
structure Bq (w wx : World) (base N A c : Nat) (ops rds : Int) (Z : List Nat) (vs : Nat → Value) (gs : Nat → Nat) (zs : Nat → List (List UInt8)) (P S R r pos num last : Nat) (ps : List (Int × List UInt8)) : Prop where
  chg : Chg (N :: Z) w wx
  dev : DevK wx base N A c ops rds Z vs gs zs
  slot : SlotAt wx S N
  store : ∃ q, StoreM wx P N S q pos num
  state : StateM wx R r last
  map : ∃ L, MapAt wx r L ∧ BufD wx L (appD ps) ∧ L.map Prod.fst = appK ps
theorem Bq.keep {w w1 w2 : World} {base N A c : Nat} {ops rds : Int} {Z : List Nat} {vs : Nat → Value} {gs : Nat → Nat} {zs : Nat → List (List UInt8)} {P S R r pos num last : Nat} {ps : List (Int × List UInt8)} (h : Bq w w1 base N A c ops rds Z vs gs zs P S R r pos num last ps) (hc : Chg [] w1 w2) : Bq w w2 base N A c ops rds Z vs gs zs P S R r pos num last ps := by
  obtain ⟨q, hs⟩ := h.store
  obtain ⟨L, h1, h2, h3⟩ := h.map
  exact ⟨h.chg.then (hc.mono (fun x hx _ => by cases hx)), h.dev.keep hc (Av.nil _ _), h.slot.keep hc (by simp), ⟨q, hc.heap hs (by simp)⟩, hc.heap h.state (by simp), L, h1.keep hc (by simp), h2.keep hc, h3⟩
theorem Bq.drew {w w1 : World} {base N A c : Nat} {ops rds : Int} {Z : List Nat} {vs : Nat → Value} {gs : Nat → Nat} {zs : Nat → List (List UInt8)} {P S R r pos num last : Nat} {ps : List (Int × List UInt8)} (h : Bq w w1 base N A c ops rds Z vs gs zs P S R r pos num last ps) : Bq w w1.drew base N A c ops rds Z vs gs zs P S R r pos num last ps := h.keep (Chg.refl [] w1).drew
theorem Bq.r0 {w w1 : World} {base N A c : Nat} {ops rds : Int} {Z : List Nat} {vs : Nat → Value} {gs : Nat → Nat} {zs : Nat → List (List UInt8)} {P S R r pos num last : Nat} {ps : List (Int × List UInt8)} (h : Bq w w1 base N A c ops rds Z vs gs zs P S R r pos num last ps) : w1.cell? ⟨R, 0, none⟩ = some (.int .i64 last) := cell_is h.state 0 rfl
theorem Bq.p5 {w w1 : World} {base N A c : Nat} {ops rds : Int} {Z : List Nat} {vs : Nat → Value} {gs : Nat → Nat} {zs : Nat → List (List UInt8)} {P S R r pos num last : Nat} {ps : List (Int × List UInt8)} (h : Bq w w1 base N A c ops rds Z vs gs zs P S R r pos num last ps) : (∃ m, w1.cell? ⟨P, 5, none⟩ = some (.pointer m)) ∧ w1.frozen? ⟨P, 5, none⟩ = false := by
  obtain ⟨q, hs⟩ := h.store
  exact ⟨⟨q, cell_is hs 5 rfl⟩, unfrozen hs 5⟩
theorem Bq.set {w w1 : World} {base N A c : Nat} {ops rds : Int} {Z : List Nat} {vs : Nat → Value} {gs : Nat → Nat} {zs : Nat → List (List UInt8)} {P S R r pos num last : Nat} {ps : List (Int × List UInt8)} (h : Bq w w1 base N A c ops rds Z vs gs zs P S R r pos num last ps) (hP : w.heap.size ≤ P) (q : Option Addr) :
    Bq w (w1.setCell ⟨P, 5, none⟩ (.pointer q)) base N A c ops rds Z vs gs zs P S R r pos num last ps ∧ StoreM (w1.setCell ⟨P, 5, none⟩ (.pointer q)) P N S q pos num := by
  obtain ⟨m, hs⟩ := h.store
  obtain ⟨L, h1, h2, h3⟩ := h.map
  have k := Chg.set w1 P 5 (.pointer q)
  have b2 : StoreM (w1.setCell ⟨P, 5, none⟩ (.pointer q)) P N S q pos num := heap_set hs 5 _ rfl
  refine ⟨⟨h.chg.new_set hP 5 _, h.dev.keep k (Av.row hs (by decide)), h.slot.keep k (by simpa using heap_ne h.slot hs (by simp)), ⟨q, b2⟩, k.heap h.state (by simpa using heap_ne h.state hs (by simp)), L, h1.keep k (by simpa using map_cells h1 hs), ?_, h3⟩, b2⟩
  intro j v hv
  obtain ⟨g, cc, e1, e2, e3, e4⟩ := h2 j v hv
  have hn : g ∉ [P] := Bt.av e4 (Av.row hs (ts := [5]) (by decide)) (by simp)
  exact ⟨g, cc, e1, e2.chgT k hn, e3, Bt.keep e4 k hn⟩
/-- a manager of it, that has taken nothing in. -/
structure Mq (w wx : World) (base N A c : Nat) (ops rds : Int) (Z : List Nat) (vs : Nat → Value) (gs : Nat → Nat) (zs : Nat → List (List UInt8)) (P S R r pos num last : Nat) (ps : List (Int × List UInt8)) (M X rx B rb rc lo : Nat) : Prop where
  bq : Bq w wx base N A c ops rds Z vs gs zs P S R r pos num last ps
  store : StoreM wx P N S (some ⟨M, 0, none⟩) pos num
  mgr : MgrG wx M X B rc (.slice none 0 0) 0 0 last last last false
  ver : VerG wx lo X rx 0 [] (fun _ => [])
  book : BookAt wx B rb 0 []
  mp : MapAt wx rc []
theorem Mq.keep {w w1 w2 : World} {base N A c : Nat} {ops rds : Int} {Z : List Nat} {vs : Nat → Value} {gs : Nat → Nat} {zs : Nat → List (List UInt8)} {P S R r pos num last : Nat} {ps : List (Int × List UInt8)} {M X rx B rb rc lo : Nat} (h : Mq w w1 base N A c ops rds Z vs gs zs P S R r pos num last ps M X rx B rb rc lo) (hc : Chg [] w1 w2) : Mq w w2 base N A c ops rds Z vs gs zs P S R r pos num last ps M X rx B rb rc lo :=
  ⟨h.bq.keep hc, hc.heap h.store (by simp), hc.heap h.mgr (by simp), h.ver.keep hc, h.book.keep hc (by simp) (by simp), h.mp.keep hc (by simp)⟩
theorem Mq.drew {w w1 : World} {base N A c : Nat} {ops rds : Int} {Z : List Nat} {vs : Nat → Value} {gs : Nat → Nat} {zs : Nat → List (List UInt8)} {P S R r pos num last : Nat} {ps : List (Int × List UInt8)} {M X rx B rb rc lo : Nat} (h : Mq w w1 base N A c ops rds Z vs gs zs P S R r pos num last ps M X rx B rb rc lo) : Mq w w1.drew base N A c ops rds Z vs gs zs P S R r pos num last ps M X rx B rb rc lo := h.keep (Chg.refl [] w1).drew
theorem Mq.p5 {w w1 : World} {base N A c : Nat} {ops rds : Int} {Z : List Nat} {vs : Nat → Value} {gs : Nat → Nat} {zs : Nat → List (List UInt8)} {P S R r pos num last : Nat} {ps : List (Int × List UInt8)} {M X rx B rb rc lo : Nat} (h : Mq w w1 base N A c ops rds Z vs gs zs P S R r pos num last ps M X rx B rb rc lo) : w1.cell? ⟨P, 5, none⟩ = some (.pointer (some ⟨M, 0, none⟩)) := cell_is h.store 5 rfl
/-- a store that was mounted with a log. -/
structure Mo (w wx : World) (base N A c : Nat) (ops rds : Int) (Z : List Nat) (vs : Nat → Value) (gs : Nat → Nat) (zs : Nat → List (List UInt8)) (P S M X rx B rb r lo pos num k : Nat) (Lv : List (Int × Value)) (l : List (Int × List UInt8)) : Prop where
  chg : Chg (N :: Z) w wx
  dev : DevK wx base N A c ops rds Z vs gs zs
  store : StoreG wx P N S M pos num
  slot : SlotAt wx S N
  mgr : MgrG wx M X B r (.slice none 0 0) 0 0 k k k false
  ver : VerG wx lo X rx k Lv (applyV (fun _ => []) k l)
  ap : ApL Lv
  keys : ∀ p ∈ Lv, 0 ≤ p.1 ∧ p.1 < 258
  book : BookAt wx B rb 0 []
  map : MapAt wx r []
  bnd : w.heap.size ≤ P ∧ w.heap.size ≤ S ∧ w.heap.size ≤ M ∧ w.heap.size ≤ X ∧ w.heap.size ≤ rx ∧ w.heap.size ≤ B ∧ w.heap.size ≤ rb ∧ w.heap.size ≤ r ∧ w.heap.size ≤ lo ∧ lo ≤ wx.heap.size
  ne : rx ≠ rb ∧ r ≠ rb ∧ r ≠ rx
/-- .. behind the taking in of what was there. -/
theorem Mq.mo {w w1 w2 : World} {base N A c : Nat} {ops rds : Int} {Z : List Nat} {vs : Nat → Value} {gs : Nat → Nat} {zs : Nat → List (List UInt8)} {P S R r pos num last : Nat} {ps : List (Int × List UInt8)} {M X rx B rb rc lo : Nat} {Lv : List (Int × Value)} {l : List (Int × List UInt8)} (h : Mq w w1 base N A c ops rds Z vs gs zs P S R r pos num last ps M X rx B rb rc lo) (hv : Cv lo X rx w1 w2) (hV : VerG w2 lo X rx last Lv (applyV (fun _ => []) last l)) (hap : ApL Lv) (hk : ∀ p ∈ Lv, 0 ≤ p.1 ∧ p.1 < 258)
    (hb : w.heap.size ≤ P ∧ w.heap.size ≤ S ∧ w.heap.size ≤ M ∧ w.heap.size ≤ X ∧ w.heap.size ≤ rx ∧ w.heap.size ≤ B ∧ w.heap.size ≤ rb ∧ w.heap.size ≤ rc ∧ w.heap.size ≤ lo ∧ lo ≤ w1.heap.size) (hn : rx ≠ rb ∧ rc ≠ rb ∧ rc ≠ rx) : Mo w w2 base N A c ops rds Z vs gs zs P S M X rx B rb rc lo pos num last Lv l := by
  obtain ⟨T, k, hT⟩ := hv
  have av : ∀ ts, 253 ∉ ts → 262 ∉ ts → Av w1 T ts := fun ts a b => Cv.av hT h.ver.x h.ver.m a b
  refine ⟨h.bq.chg.trans k (fun x hx hlt => ?_), h.bq.dev.keep k (av _ (by decide) (by decide)), k.heap h.store ((av [105] (by decide) (by decide)).ne h.store (by simp)), h.bq.slot.keep k ((av [166] (by decide) (by decide)).ne h.bq.slot (by simp)), k.heap h.mgr ((av [189] (by decide) (by decide)).ne h.mgr (by simp)), hV, hap, hk,
    ⟨k.heap h.book.1 ((av [256] (by decide) (by decide)).ne h.book.1 (by simp)), h.book.2.keep k (Cv.map hT h.ver.x h.book.2 hn.1.symm)⟩, h.mp.keep k (Cv.map hT h.ver.x h.mp hn.2.2), ⟨hb.1, hb.2.1, hb.2.2.1, hb.2.2.2.1, hb.2.2.2.2.1, hb.2.2.2.2.2.1, hb.2.2.2.2.2.2.1, hb.2.2.2.2.2.2.2.1, hb.2.2.2.2.2.2.2.2.1, Nat.le_trans hb.2.2.2.2.2.2.2.2.2 k.size⟩, hn⟩
  have := h.bq.chg.size
  rcases hT x hx (by omega) with e | e | ⟨e, -⟩ <;> omega
theorem fin_in {ps : List (Int × List UInt8)} (h : ∀ x ∈ ps, 0 ≤ x.1 ∧ x.1 < 258) : ∀ x ∈ finL ps, 0 ≤ x.1 ∧ x.1 < 258 := by
  intro x hx
  obtain ⟨k, hk, rfl⟩ := List.mem_map.1 hx
  exact appK_in (P := fun k => 0 ≤ k ∧ k < 258) ps h k ((sortI_perm _).mem_iff.1 hk)
theorem Bq.rise {w w1 : World} {base N A c : Nat} {ops rds : Int} {Z : List Nat} {vs : Nat → Value} {gs : Nat → Nat} {zs : Nat → List (List UInt8)} {P S R r pos num last : Nat} {ps : List (Int × List UInt8)} (h : Bq w w1 base N A c ops rds Z vs gs zs P S R r pos num last ps) : Rise (finL ps) := by
  obtain ⟨L, hm, -, hK⟩ := h.map
  rw [← putsL_fin hK]
  exact rise_puts _ hm.nodup
theorem Bq.puts {w w1 : World} {base N A c : Nat} {ops rds : Int} {Z : List Nat} {vs : Nat → Value} {gs : Nat → Nat} {zs : Nat → List (List UInt8)} {P S R r pos num last : Nat} {ps : List (Int × List UInt8)} (h : Bq w w1 base N A c ops rds Z vs gs zs P S R r pos num last ps) (hin : ∀ x ∈ ps, 0 ≤ x.1 ∧ x.1 < 258) (hl : (finL ps).length ≤ 258) :
    Calls Tryz.prog 57 #[.pointer (some ⟨R, 0, none⟩)] w1 fun e w' => ∃ pb cb, e = .returned (.slice pb (finL ps).length cb) ∧ Chg [] w1 w' ∧ PutsAt w' w1.heap.size (.slice pb (finL ps).length cb) (finL ps) := by
  obtain ⟨L, hm, hD, hK⟩ := h.map
  have hlen : L.length = (finL ps).length := by rw [finL_length, ← hK, List.length_map]
  refine (sputs_ok w1 h.state hm hD (fun x hx => ?_) (by omega)).mono ?_
  · exact appK_in (P := fun k => 0 ≤ k ∧ k < 258) ps hin x.1 (by rw [← hK]; exact List.mem_map_of_mem hx)
  · rintro e w' ⟨v, rfl, k, hp⟩
    rw [putsL_fin hK] at hp
    obtain ⟨xs, ho, -⟩ := id hp
    obtain ⟨pb, cb, rfl, -⟩ := own_form ho
    exact ⟨pb, cb, rfl, k, hp⟩
theorem Mq.load {w w1 : World} {base N A c : Nat} {ops rds : Int} {Z : List Nat} {vs : Nat → Value} {gs : Nat → Nat} {zs : Nat → List (List UInt8)} {P S R r pos num last : Nat} {ps : List (Int × List UInt8)} {M X rx B rb rc lo lp cb : Nat} {pb : Option Addr} (h : Mq w w1 base N A c ops rds Z vs gs zs P S R r pos num last ps M X rx B rb rc lo) (hin : ∀ x ∈ ps, 0 ≤ x.1 ∧ x.1 < 258) (hl0 : 0 < (finL ps).length) (hl : (finL ps).length ≤ 258)
    (hp : PutsAt w1 lp (.slice pb (finL ps).length cb) (finL ps)) (hlast : 0 < last ∧ last ≤ 1099511627776)
    (hb : w.heap.size ≤ P ∧ w.heap.size ≤ S ∧ w.heap.size ≤ M ∧ w.heap.size ≤ X ∧ w.heap.size ≤ rx ∧ w.heap.size ≤ B ∧ w.heap.size ≤ rb ∧ w.heap.size ≤ rc) (hlo : lo = w.heap.size) (hn : rx ≠ rb ∧ rc ≠ rb ∧ rc ≠ rx) :
    Calls Tryz.prog 56 #[.pointer (some ⟨M, 0, none⟩), .slice pb (finL ps).length cb] w1 fun e w' => e = .returned (.int .i64 0) ∧ ∃ Lv, Mo w w' base N A c ops rds Z vs gs zs P S M X rx B rb rc lo pos num last Lv (finL ps) := by
  have hsz := h.bq.chg.size
  refine (tload_wide w1 h.mgr h.mp h.ver (fun b c v u g _ h => (by cases h)) (fun p hp => (by cases hp)) (by omega) hp (fin_in hin) h.bq.rise hl0 hl (by omega) (by omega) (by omega) (fun c => by simp)).mono ?_
  rintro e w' ⟨rfl, hcv, Lv, h1, h2, h3⟩
  exact ⟨rfl, Lv, h.mo hcv h1 h2 h3 ⟨hb.1, hb.2.1, hb.2.2.1, hb.2.2.2.1, hb.2.2.2.2.1, hb.2.2.2.2.2.1, hb.2.2.2.2.2.2.1, hb.2.2.2.2.2.2.2, by omega, by omega⟩ hn⟩
/-- what Mount hands back. -/
def MountK (w : World) (base N A c : Nat) (ops rds : Int) (Z : List Nat) (vs : Nat → Value) (gs : Nat → Nat) (zs : Nat → List (List UInt8)) (bs : List (Nat × List (Int × List UInt8))) (e : Ending) (w' : World) : Prop :=
  ∃ P S M X rx B rb r lo Lv, e = .returned (.tuple #[.pointer (some ⟨P, 0, none⟩), .int .i64 0]) ∧ Mo w w' base N A c (ops + 1) (rds + (zs 6).length) Z vs (goodF gs zs 8) zs P S M X rx B rb r lo (zs 6).length bs.length (lastT bs) Lv (finL (allP bs))
set_option maxRecDepth 100000 in
set_option maxHeartbeats 8000000 in
theorem kmount (w : World) {base N A c : Nat} {ops rds : Int} {Z : List Nat} {vs : Nat → Value} {gs : Nat → Nat} {zs : Nat → List (List UInt8)} {bs : List (Nat × List (Int × List UInt8))} (hD : DevK w base N A c ops rds Z vs gs zs) (hz : zs 0 = [] ∧ zs 3 = [] ∧ zs 7 = []) (h6 : zs 6 = logL 0 1 bs) (hB : BsOk bs) (hb0 : 0 < bs.length) (h96 : (zs 6).length < 96)
    (hf0 : 0 < (finL (allP bs)).length) (hf1 : (finL (allP bs)).length ≤ 258) (hlt : ∀ z ∈ Z, z < w.heap.size) (hNA : N < w.heap.size) (h0 : 0 ≤ ops) (h1 : ops ≤ 1000000) (hr0 : 0 ≤ rds) (hr1 : rds ≤ 1000000) (hlast : 0 < lastT bs ∧ lastT bs ≤ 1099511627776) (hin : ∀ x ∈ allP bs, 0 ≤ x.1 ∧ x.1 < 258) :
    Calls Tryz.prog 13 #[.pointer (some ⟨N, 0, none⟩)] w (MountK w base N A c ops rds Z vs gs zs bs) := by
  go_enter Tryz.func13, Tryz.ntmps13
  go_wp2_with fail
  refine (kgeometry w hD).mono ?_
  rintro e w1 ⟨rfl, hc1⟩
  go_wp2_with fail
  refine (split_min w1).mono ?_
  rintro e w2 ⟨rfl, hc2⟩
  have hc := hc1.then hc2
  have hsz := hc.size
  clear hc1 hc2
  go_wp2_with fail
  obtain ⟨-, g1⟩ := two_new w2 (.cells #[.int .i64 0, .int .i64 3, .int .i64 6, .int .i64 7] 99) (.cells #[.pointer (some ⟨N, 0, none⟩), .int .i64 0, .int .i64 3, .int .i64 6, .int .i64 7, .pointer none, .pointer none, .int .i64 0, .int .i64 0, .bool false] 105)
  have hc3 := hc.then (chg_two w2 (.cells #[.int .i64 0, .int .i64 3, .int .i64 6, .int .i64 7] 99) (.cells #[.pointer (some ⟨N, 0, none⟩), .int .i64 0, .int .i64 3, .int .i64 6, .int .i64 7, .pointer none, .pointer none, .int .i64 0, .int .i64 0, .bool false] 105))
  generalize (w2.alloc (.cells #[.int .i64 0, .int .i64 3, .int .i64 6, .int .i64 7] 99)).alloc (.cells #[.pointer (some ⟨N, 0, none⟩), .int .i64 0, .int .i64 3, .int .i64 6, .int .i64 7, .pointer none, .pointer none, .int .i64 0, .int .i64 0, .bool false] 105) = w3 at *
  have hPl : w.heap.size ≤ w2.heap.size + 1 := by omega
  generalize w2.heap.size + 1 = P at *
  generalize w2.heap.size = q at *
  have hPZ : P ∉ N :: Z := by
    intro hm
    rcases List.mem_cons.1 hm with hm | hm
    · omega
    · have := hlt _ hm; omega
  have hD3 := hD.keep hc3 (Av.nil _ _)
  have hlt3 : ∀ z ∈ Z, z < w3.heap.size := fun z hz => Nat.lt_of_lt_of_le (hlt z hz) hc3.size
  refine (kopen w3 hD3 hz.1 hz.2.1 hlt3 h0 h1).mono ?_
  rintro e w4 ⟨S, rfl, hc4, hD4, hS4, l4⟩
  have g4 := hc4.heap g1 hPZ
  have hPs : w.heap.size ≤ S := Nat.le_trans hc3.size l4
  have hc5 : Chg (N :: Z) w w4 := (hc3.mono (T := N :: Z) (fun x hx _ => by cases hx)).then hc4
  have hSP : S ≠ P := by have := heap_lt g1; omega
  have c6 := cell_is g4 6 rfl
  have f6 := unfrozen g4 6
  have g5 : StoreAt (w4.setCell ⟨P, 6, none⟩ (.pointer (some ⟨S, 0, none⟩))) P N S none := heap_set g4 6 _ rfl
  have hc6 : Chg (N :: Z) w (w4.setCell ⟨P, 6, none⟩ (.pointer (some ⟨S, 0, none⟩))) := hc5.new_set hPl 6 _
  have hS6 : SlotAt (w4.setCell ⟨P, 6, none⟩ (.pointer (some ⟨S, 0, none⟩))) S N := heap_set_ne hS4 hSP 6 _
  have hD6 := hD4.keep (Chg.set w4 P 6 (.pointer (some ⟨S, 0, none⟩))) (Av.row g4 (by decide))
  clear g4 hS4 hD4 hc5 hc4 hc3 g1 hD hD3 hlt3
  clear hc
  go_wp2_with fail
  generalize w4.setCell ⟨P, 6, none⟩ (.pointer (some ⟨S, 0, none⟩)) = w5 at *
  refine (load_any w5 hS6).mono ?_
  rintro e w6 ⟨rfl, k6⟩
  have g6 := g5.keep k6 (by simp)
  have S6 := hS6.keep k6 (by simp)
  have D6 := hD6.keep k6 (Av.nil _ _)
  have hc7 : Chg (N :: Z) w w6 := hc6.then (k6.mono (fun x hx _ => by cases hx))
  clear hc6 hS6 g5 hD6 k6
  go_wp2_with fail
  refine (parse_nil w6).mono ?_
  rintro e w7 ⟨R, r, rfl, k6, hR, l5, l6⟩
  have hs6 := hc7.size
  have g7 := g6.keep k6 (by simp)
  have S7 := S6.keep k6 (by simp)
  have D7 := D6.keep k6 (Av.nil _ _)
  have hc8 : Chg (N :: Z) w w7 := hc7.then (k6.mono (fun x hx _ => by cases hx))
  have hPw : P < w7.heap.size := heap_lt g7
  have hRw : R < w7.heap.size := heap_lt hR.1
  have hrw : r < w7.heap.size := hR.2.lt
  clear hc7 S6 g6 D6 k6
  go_wp2_with fail
  refine (klog w7 g7 D7 hz.2.2 h96 hr0 hr1).mono ?_
  rintro e w8 ⟨lv, rfl, k6, D8, hrw8⟩
  have av8 : ∀ {g : Nat} {cs : Array Value} {t : TypeId}, w7.heap[g]? = some (.cells cs t (0, 0)) → t ≠ 93 → g ∉ [N] := fun hg ht => by
    have := heap_ne hg D7.hdr (by intro e; cases e; exact ht rfl)
    simpa using this
  have hR8 : StateM w8 R r 0 := k6.heap hR.1 (av8 hR.1 (by decide))
  have hm8 : MapAt w8 r [] := hR.2.keep k6 (by simpa using map_cells hR.2 D7.hdr)
  have g8 : StoreM w8 P N S none 0 0 := k6.heap g7 (av8 g7 (by decide))
  have S8 : SlotAt w8 S N := S7.keep k6 (av8 S7 (by decide))
  have hc9 : Chg (N :: Z) w w8 := hc8.then (k6.mono (fun x hx _ => by simp at hx; simp [hx]))
  rw [h6] at hrw8
  have hl0 : 0 < (logL 0 1 bs).length := by have := logL_le 0 1 bs 0 hb0; omega
  obtain ⟨G, cG, rfl, hcG, hX8, hG8⟩ := hrw8.x hl0
  have hT8 : Tk w8 w8 P N S R r none 0 0 0 [] := ⟨Chg.refl _ _, g8, hR8, [], hm8, fun k v hv => (by cases hv), rfl⟩
  clear hc8 S7 g7 D7 k6 hR hrw8 av8
  have HX := Lib.hid hX8
  go_wp2_with fail
  refine (contf_rows w8 HX.out rfl hcG hB.len (logL_kind 0 1 bs)).mono ?_
  rintro e w9 ⟨rfl, rfl⟩
  go_wp2_with fail
  refine (contf_nil _ w8).mono ?_
  rintro e w9 ⟨rfl, rfl⟩
  go_wp2_with fail
  refine (replay_many w8 hB hT8 S8 HX.out rfl hcG (by simp; omega)).mono ?_
  rintro e w9 ⟨rfl, hT9⟩
  have av9 : ∀ {ts : List Nat}, 105 ∉ ts → 123 ∉ ts → Av w8 [P, R, r] ts := fun a b => hT8.av a b
  have S9 : SlotAt w9 S N := S8.keep hT9.chg ((av9 (ts := [166]) (by decide) (by decide)).ne S8 (by simp))
  have D9 := D8.keep hT9.chg (av9 (by decide) (by decide))
  have hc10 : Chg (N :: Z) w w9 := hc9.trans hT9.chg (fun x hx hlt => by
    simp at hx
    rcases hx with rfl | rfl | rfl <;> omega)
  have hBq : Bq w w9 base N A c (ops + 1) (rds + (zs 6).length) Z vs (goodF gs zs 8) zs P S R r (logL 0 1 bs).length bs.length (lastT bs) (allP bs) := ⟨hc10, D9, S9, ⟨none, hT9.store⟩, hT9.state, hT9.map⟩
  clear hc10 S9 D9 hT9 hT8 S8 D8 hc9 g8 hm8 hR8 HX hX8 av9
  go_wp2_with fail
  go_region_held3 (fun wx => Bq w wx base N A c (ops + 1) (rds + (zs 6).length) Z vs (goodF gs zs 8) zs P S R r (logL 0 1 bs).length bs.length (lastT bs) (allP bs) ∧ wx.cell? ⟨R, 0, none⟩ = some (.int .i64 (lastT bs)))
    (first
      | (exact ⟨hBq, hBq.r0⟩)
      | (exact ⟨hBq.drew, hBq.drew.r0⟩)
      | (exact ⟨(hBq.set hPl _).1, (hBq.set hPl _).1.r0⟩))
    (first
      | (go_at_call 46; (first | refine (kgeometry _ hBq.drew.dev).mono ?_ | refine (kgeometry _ hBq.dev).mono ?_); rintro e wb ⟨rfl, k1⟩; (first | replace hBq := hBq.keep k1 | replace hBq := hBq.drew.keep k1))
      | (go_at_call 55; refine (cap_min _).mono ?_; rintro e wb ⟨rfl, k2⟩; (first | replace hBq := hBq.keep k2 | replace hBq := hBq.drew.keep k2))
      | (go_at_call 54; refine (tnew_at _ (by omega) (by omega)).mono ?_; rintro e wb ⟨M, X, rx, B, rb, rc, rfl, k3, hM, hX, hBk, hrc, l10, l11, l12, l13, l14, l15, n1, n2, n3⟩; have hsz3 := hBq.chg.size; (first | replace hBq := hBq.keep k3 | replace hBq := hBq.drew.keep k3); obtain ⟨⟨m5, p5⟩, f5⟩ := hBq.p5))
  have hB2 := hBq.set hPl (some ⟨M, 0, none⟩)
  obtain ⟨q5, hst5⟩ := hBq.store
  have kS := Chg.set wb P 5 (.pointer (some ⟨M, 0, none⟩))
  have hMq : Mq w (wb.setCell ⟨P, 5, none⟩ (.pointer (some ⟨M, 0, none⟩))) base N A c (ops + 1) (rds + (zs 6).length) Z vs (goodF gs zs 8) zs P S R r (logL 0 1 bs).length bs.length (lastT bs) (allP bs) M X rx B rb rc w.heap.size :=
    ⟨hB2.1, hB2.2, kS.heap hM (by simpa using heap_ne hM hst5 (by simp)), (hX.full _).keepA kS (Av.row hst5 (by decide)) (by simpa using map_cells hX.2 hst5), ⟨kS.heap hBk.1 (by simpa using heap_ne hBk.1 hst5 (by simp)), hBk.2.keep kS (by simpa using map_cells hBk.2 hst5)⟩, hrc.keep kS (by simpa using map_cells hrc hst5)⟩
  have hb8 : w.heap.size ≤ P ∧ w.heap.size ≤ S ∧ w.heap.size ≤ M ∧ w.heap.size ≤ X ∧ w.heap.size ≤ rx ∧ w.heap.size ≤ B ∧ w.heap.size ≤ rb ∧ w.heap.size ≤ rc := ⟨hPl, hPs, by omega, by omega, by omega, by omega, by omega, by omega⟩
  clear hB2 kS hM hX hBk hrc hBq k1 k2 k3 f5 p5 hst5
  generalize wb.setCell ⟨P, 5, none⟩ (.pointer (some ⟨M, 0, none⟩)) = v1 at *
  go_wp2_with fail
  have hpd : ∀ wx : World, wx.cell? ⟨P, 5, none⟩ = some (.pointer (some ⟨M, 0, none⟩)) → wx.drew.cell? ⟨P, 5, none⟩ = some (.pointer (some ⟨M, 0, none⟩)) := fun wx h => h
  go_region_held3 (fun wx => wx.cell? ⟨P, 5, none⟩ = some (.pointer (some ⟨M, 0, none⟩)))
    (first
      | (exact hMq.p5)
      | (exact hMq.drew.p5)
      | (exact cell_is hMo.store 5 rfl)
      | (exact hpd _ (cell_is hMo.store 5 rfl)))
    (first
      | (go_at_call 57; (first | refine (hMq.drew.bq.puts hin hf1).mono ?_ | refine (hMq.bq.puts hin hf1).mono ?_); rintro e v2 ⟨pb, cb, rfl, k1, hpv⟩; (first | replace hMq := hMq.drew.keep k1 | replace hMq := hMq.keep k1))
      | (go_at_call 56; refine (hMq.load hin hf0 hf1 hpv hlast hb8 rfl ⟨n1, n2, n3⟩).mono ?_; rintro e v3 ⟨rfl, Lv, hMo⟩))
  have HMo := Lib.hid hMo
  clear hMo
  go_wp2_with fail
  go_ret2
  exact ⟨P, S, M, X, rx, B, rb, rc, _, Lv, rfl, by rw [h6] at *; exact HMo.out⟩
end Go.Proofs.YtkhionhicegfmaaGreat
namespace Go.Proofs
open Go.Shelf
def Tryz.keysC_ren : Go.Shelf.Ren := ⟨fun | 7 => 157 | 10 => 184 | n => n, fun | 23 => 251 | 26 => 3 | 3 => 260 | 28 => 193 | 0 => 0 | 27 => 192 | 33 => 58 | 4 => 4 | n => n, fun | n => n⟩
theorem Tryz.keysC : Go.Proofs.SlLaysZI.n7 Tryz.prog Tryz.keysC_ren := {
  mixed := by kernel_rfl
  f7 := ⟨Tryz.f157.name, by decide, Tryz.func157.trans (congrArg some (by kernel_rfl))⟩
  f10 := ⟨Tryz.f184.name, by decide, Tryz.func184.trans (congrArg some (by kernel_rfl))⟩
  t0 := Tryz.underlying0
  a0 := Tryz.isAgg0
  z0 := Tryz.sizeOf0
  v0 := Tryz.zeroValue0
  t4 := Tryz.underlying4
  a4 := Tryz.isAgg4
  z4 := Tryz.sizeOf4
  v4 := Tryz.zeroValue4
  t23 := Tryz.underlying251
  a23 := Tryz.isAgg251
  z23 := Tryz.sizeOf251
  v23 := Tryz.zeroValue251
  t26 := Tryz.underlying3
  a26 := Tryz.isAgg3
  z26 := Tryz.sizeOf3
  v26 := Tryz.zeroValue3
  t27 := Tryz.underlying192
  a27 := Tryz.isAgg192
  z27 := Tryz.sizeOf192
  v27 := Tryz.zeroValue192
  t28 := Tryz.underlying193
  a28 := Tryz.isAgg193
  z28 := Tryz.sizeOf193
  v28 := Tryz.zeroValue193
  t33 := Tryz.underlying58
  a33 := Tryz.isAgg58
  z33 := Tryz.sizeOf58
  v33 := Tryz.zeroValue58 }
end Go.Proofs
namespace Go.Proofs.YtkhionhicegfmaaGreat
open Go.RowKit Go.Lib Go.Maps Go.Sort Go.Shelf

theorem keysC_any (mb : Option Nat) (W : World) : Calls Tryz.prog 157 #[.map mb] W fun e w' => e = .returned (.func (.func 184) #[] #[.pointer (some ⟨W.heap.size, 0, none⟩)]) ∧ w' = W.alloc (.cells #[.map mb] 251) :=
  callsIn_wide.1 (AnyZI.keys_in Tryz.keysC Fence.wide 5 trivial rfl mb W)
set_option maxRecDepth 100000 in
/-- slices.Sorted(maps.Keys(m)), of a map of versions. -/
theorem sortedC_any (W : World) {r : Nat} {L : List (Int × Value)} (h : MapAt W r L) (hw : ∀ p ∈ L, (Lit.int .i64 p.1).wf = true) (hl : L.length ≤ 100000) :
    Calls Tryz.prog 107 #[.func (.func 184) #[] #[.pointer (some ⟨W.heap.size, 0, none⟩)]] (W.alloc (.cells #[.map (some r)] 251)) fun e w' => ∃ v, e = .returned v ∧ w'.ownsRow W.heap.size 3 1 v L.length ((sortI (L.map Prod.fst)).map encZ) ∧ Chg [] W w' := by
  obtain ⟨D, hown, hp, hsz⟩ := owns_any (h.keep (Chg.alloc (S := []) W (.cells #[.map (some r)] 251)) (by simp)) 3 (by kernel_rfl) hw (by unfold maxLen; omega)
  have hseq : SeqGives Fence.wide 2 Tryz.prog 184 #[.pointer (some ⟨W.heap.size, 0, none⟩)] encZ (fun ss => ss.Perm (intKeys D)) (Maps.size D) (W.alloc (.cells #[.map (some r)] 251)) :=
    AnyZI.keys_gives (ρ := Tryz.keysC_ren) { Tryz.keysC with } Fence.wide _ trivial rfl (by omega) W.heap.size r L.length D _ (by simp) (by simp) hown
  have cS := AnyZI.sorted_in Tryz.sortedA Fence.wide 5 trivial trivial trivial trivial rfl (by omega) (sorts_all _) (enters_of Tryz.func155 (by kernel_rfl) rfl) 184 #[.pointer (some ⟨W.heap.size, 0, none⟩)] trivial (enters_of Tryz.func184 (by kernel_rfl) rfl) _ (Maps.size D) (by rw [hsz]; unfold maxLen; omega) (by rw [hsz]; omega) _ hseq
  refine (callsIn_wide.1 cS).mono ?_
  rintro e w' ⟨v, ss, rfl, hS, hrow, hnil, hbl⟩
  have hs : ss.mergeSort (fun x y => decide (x ≤ y)) = sortI (L.map Prod.fst) := mergeSort_of_perm_i (hS.trans hp)
  have hsl : ss.length = L.length := by rw [(hS.trans hp).length_eq, List.length_map]
  rw [hs, hsl] at hrow
  exact ⟨v, rfl, own_base hrow (by simp), (Chg.alloc W _).then (Chg.of_below hbl)⟩
/-- a block's newest bytes. -/
def lastB (l : List (Int × List UInt8)) : List UInt8 := ((l.getLast?).map Prod.snd).getD []
theorem VRow.last {w : World} {lo n : Nat} {v : Value} {l : List (Int × List UInt8)} (h : VRow w lo v l) (hl : l.length = n + 1) : ∃ g cap gd cd, v = .slice (some ⟨g, 0, none⟩) ((n : Int) + 1).toNat cap ∧ n + 1 ≤ cap ∧
    w.cell? ⟨g, n * 2 + 1, none⟩ = some (.slice (some ⟨gd, 0, none⟩) 40 cd) ∧ Bs w (some ⟨gd, 0, none⟩) (lastB l) ∧ (lastB l).length = 40 ∧ Bt w gd := by
  obtain ⟨xs, ho, hx⟩ := h
  obtain ⟨-, gd, cd, h1, h2, h3, h4⟩ := hx n (by omega)
  have e : lastB l = (l[n]).2 := by
    have hn : l.length - 1 = n := by omega
    unfold lastB
    rw [List.getLast?_eq_getElem?, hn, List.getElem?_eq_getElem (by omega)]
    rfl
  rw [e]
  rcases ho.2 with ⟨_, e0⟩ | ⟨g, cap, cur, rfl, hA, hg, hc1, hc2, hc3, ht⟩
  · omega
  · refine ⟨g, cap, gd, cd, ?_, by omega, cell_is hg _ ?_, h2, h3, h4⟩
    · rw [hl]; rfl
    · rw [← ht, List.getElem?_take_of_lt (by omega), Array.getElem?_toList] at h1
      exact h1
/-- what all blocks are. -/
def dumpL (L : List (Int × Value)) (vs : Int → List (Int × List UInt8)) : List (Int × List UInt8) := (sortI (L.map Prod.fst)).map fun k => (k, lastB (vs k))
set_option maxRecDepth 100000 in
set_option maxHeartbeats 4000000 in
theorem mdump_ok (w : World) {lo X rx : Nat} {last : Int} {L : List (Int × Value)} {vs : Int → List (Int × List UInt8)} (h : VerG w lo X rx last L vs) (hk : ∀ x ∈ L, 0 ≤ x.1 ∧ x.1 < 258) (hl : L.length ≤ 1000) : Calls Tryz.prog 109 #[.pointer (some ⟨X, 0, none⟩)] w fun e w' =>
    ∃ v, e = .returned v ∧ Chg [] w w' ∧ PutsAt w' w.heap.size v (dumpL L vs) := by
  have c0 : w.cell? ⟨X, 0, none⟩ = some (.int .i64 258) := cell_is h.x 0 rfl
  have c1 : w.cell? ⟨X, 1, none⟩ = some (.map (some rx)) := cell_is h.x 1 rfl
  have HG := Lib.hid (xgone_any w c0)
  have HS := Lib.hid (sortedC_any w h.m (fun p hp => wf_i64 (by have := hk p hp; omega) (by have := hk p hp; omega)) (by omega))
  have HB := Lib.hid h
  have HK := Lib.hid hk
  clear h hk
  go_enter Tryz.func109, Tryz.ntmps109
  go_wp2_with fail
  refine HG.out.mono ?_
  rintro e w1 ⟨rfl, rfl⟩
  go_wp2_with (first
    | (go_at_call 157; refine (keysC_any (some rx) _).mono ?_; rintro e w1 ⟨rfl, rfl⟩)
    | (go_at_call 107; refine HS.out.mono ?_; rintro e w2 ⟨v2, rfl, o2, k2⟩; obtain ⟨pk, ck, rfl, hck⟩ := own_form o2))
  have hsl : (sortI (L.map Prod.fst)).length = L.length := by rw [sortI_length, List.length_map]
  have hmem : ∀ k, k ∈ sortI (L.map Prod.fst) → 0 ≤ k ∧ k < 258 ∧ ∃ v, getL L k = some v := fun k hk => by
    have hk2 := (sortI_perm _).mem_iff.1 hk
    obtain ⟨p, hp, e⟩ := List.mem_map.1 hk2
    have := HK.out p hp
    exact ⟨by omega, by omega, getL_key hk2⟩
  have hpl : dumpL L vs = (sortI (L.map Prod.fst)).map fun k => (k, lastB (vs k)) := rfl
  have HP := Lib.hid hpl
  have HM := Lib.hid hmem
  have O2 := Lib.hid o2
  clear hmem hpl o2 HG HS
  generalize hks : sortI (L.map Prod.fst) = ks at *
  have c21 := k2.cell c1 (by simp)
  generalize hn : L.length = n at *
  have hcki : (n : Int) ≤ ck := by omega
  go_loopw [2, 4, 5, 15] (fun v _ _ i wr => ∃ j : Nat, j ≤ n ∧ i = .int .i64 j ∧ Chg [] w2 wr ∧ PutsAt wr w2.heap.size v ((ks.take j).map fun k => (k, lastB (vs k)))) (fun _ _ _ i _ => n - (intOf i).toNat)
  case atStart => exact ⟨0, by omega, rfl, Chg.refl _ _, PutsAt.nil _ _⟩
  case round =>
    obtain ⟨j, hj, rfl, kr, hp⟩ := hrel
    by_cases hlt : j < n
    · have hjk : j < ks.length := by omega
      obtain ⟨hk0, hk1, v, hv⟩ := HM.out ks[j] (List.getElem_mem hjk)
      have kwr : Chg [] w wr := k2.then kr
      have hVr := HB.out.keep kwr
      obtain ⟨m, g, cg, gd, cd, hvv, hcg, hd, hb, hb4, hbt⟩ : ∃ m g cg gd cd, v = .slice (some ⟨g, 0, none⟩) (m + 1) cg ∧ m + 1 ≤ cg ∧ wr.cell? ⟨g, m * 2 + 1, none⟩ = some (.slice (some ⟨gd, 0, none⟩) 40 cd) ∧ Bs wr (some ⟨gd, 0, none⟩) (lastB (vs ks[j])) ∧ (lastB (vs ks[j])).length = 40 ∧ Bt wr gd := by
        rcases hVr.row ks[j] hk0 hk1 with ⟨e1, -⟩ | ⟨v', e1, e2, e3⟩
        · rw [hv] at e1; cases e1
        · rw [hv] at e1
          cases e1
          obtain ⟨m, hm⟩ : ∃ m, (vs ks[j]).length = m + 1 := ⟨(vs ks[j]).length - 1, by have := List.length_pos_iff.2 e3; omega⟩
          obtain ⟨g, cg, gd, cd, a1, a2, a3, a4, a5, a6⟩ := e2.last hm
          exact ⟨m, g, cg, gd, cd, by rw [a1]; congr 1, a2, a3, a4, a5, a6⟩
      subst hvv
      have hlook : (Instr.lookup 251 (.map (some rx)) (.int .i64 ks[j]) false).run Tryz.prog wr = .ok (.slice (some ⟨g, 0, none⟩) (m + 1) cg) wr := by
        have := lookup258g hVr.m ks[j]
        rw [hv] at this
        exact this
      have hm1 : m + 1 ≤ 1000000 := by
        have h1 := hVr.small ks[j]
        rcases hVr.row ks[j] hk0 hk1 with ⟨e1, -⟩ | ⟨v', e1, ⟨xs, e2, -⟩, e3⟩
        · rw [hv] at e1; cases e1
        · rw [hv] at e1
          cases e1
          rcases e2.2 with ⟨e, -⟩ | ⟨g', cap, cur, e, -⟩
          · cases e
          · injection e with _ e
            omega
      have ck0 : ∃ gk, pk = some ⟨gk, 0, none⟩ ∧ wr.cell? ⟨gk, j, none⟩ = some (.int .i64 ks[j]) := by
        rcases O2.out.2 with ⟨_, h0⟩ | ⟨gk, cap, cur, e, hA, hg, hc1, hc2, hc3, ht⟩
        · omega
        · injection e with e1
          refine ⟨gk, e1, kr.cell (cell_is hg j ?_) (by simp)⟩
          have h1 : (ks.map encZ)[j]? = some (.int .i64 ks[j]) := by simp [hjk]
          rw [← ht, List.getElem?_take_of_lt (by omega), Array.getElem?_toList] at h1
          exact h1
      obtain ⟨gk, rfl, ck1⟩ := ck0
      have cw2 := kr.cell c21 (by simp)
      have HBs := Lib.hid hb
      have HPt := Lib.hid hp
      have HTk := Lib.hid (show (ks.take (j + 1)).map (fun k => (k, lastB (vs k))) = (ks.take j).map (fun k => (k, lastB (vs k))) ++ [(ks[j], lastB (vs ks[j]))] by rw [List.take_succ_eq_append_getElem hjk, List.map_append]; rfl)
      have HL4 := Lib.hid hb4
      have HBt := Lib.hid hbt
      have hsub : wrap64 ((m : Int) + 1 - 1) = (m : Nat) := by unfold wrap64; omega
      have hcgi : (m : Int) < cg := by omega
      clear hb hp hb4 hbt hv hVr kwr
      generalize ks[j] = k at *
      go_wp2_with fail
      refine (clone_bt wr HL4.out (by decide) (by decide) HBs.out).mono ?_
      rintro e w3 ⟨g2, c2, rfl, k3, b3, l3, t3⟩
      obtain ⟨xs, ho3, hx3⟩ := HPt.out.keep0 k3
      have hpl3 : ((ks.take j).map fun k => (k, lastB (vs k))).length = j := by simp; omega
      have hb23 := (HPt.out.keep0 k3).block
      have hs3 : w2.heap.size ≤ w3.heap.size := (kr.then k3).size
      have B3 := Lib.hid b3
      have T3 := Lib.hid t3
      have HX3 := Lib.hid hx3
      have HO3 := Lib.hid ho3
      have H23 := Lib.hid hb23
      clear b3 t3 hx3 hb23 ho3
      go_wp2_with (at_builtin; refine wpList_append_lit rfl (.tmp 25) (.tmp 36) 35 43 rfl ty69 inf92 rfl (by decide) w2.heap.size w3 [.int .i64 k, .slice (some ⟨g2, 0, none⟩) 40 c2] 1 rfl _ ((ks.take j).map fun k => (k, lastB (vs k))).length xs rfl HO3.out (by omega) (by decide) hs3 (k := 0) rfl (by simp [Value.oneCell']) rfl 1 rfl ?_; intro v' w4 hap)
      have hxl : xs.length = ((ks.take j).map fun k => (k, lastB (vs k))).length * 2 := HO3.out.1
      have hfin : PutsAt w4 w2.heap.size v' (((ks.take j).map fun k => (k, lastB (vs k))) ++ [(k, lastB (vs k))]) := PutsAt.push HX3.out hxl rfl (fun g hg => (H23.out g hg).2) hap.1 (Chg.own hap.2.2 (fun g hg _ => by have hg2 : u2.ownBlock = some g := hg; simp [hg2])) B3.out HL4.out T3.out
      rw [← HTk.out] at hfin
      go_roundw
      case rel => exact ⟨j + 1, by omega, by simp, Chg.of_below ((kr.then k3).below0.trans hap.2.1), hfin⟩
      case measure => simp [intOf]; omega
    · obtain rfl : j = n := by omega
      go_wp2_with fail
      go_ret
      refine ⟨_, rfl, k2.then kr, ?_⟩
      rw [HP.out]
      rw [List.take_of_length_le (by omega)] at hp
      obtain ⟨xs, ho, hx⟩ := hp
      exact ⟨xs, own_base ho k2.size, hx⟩
set_option maxRecDepth 100000 in
theorem mgrdump_ok (w : World) {lo M X B r rx : Nat} {qv : Value} {out num bas last given lastv : Int} {rd : Bool} {L : List (Int × Value)} {vs : Int → List (Int × List UInt8)} (hM : MgrG w M X B r qv out num bas last given rd) (h : VerG w lo X rx lastv L vs) (hk : ∀ x ∈ L, 0 ≤ x.1 ∧ x.1 < 258) (hl : L.length ≤ 1000) : Calls Tryz.prog 60 #[.pointer (some ⟨M, 0, none⟩)] w fun e w' =>
    ∃ v, e = .returned v ∧ Chg [] w w' ∧ PutsAt w' w.heap.size v (dumpL L vs) := by
  have HG := Lib.hid (tgone_mg w hM)
  have HD := Lib.hid (mdump_ok w h hk hl)
  have c0 : w.cell? ⟨M, 0, none⟩ = some (.pointer (some ⟨X, 0, none⟩)) := cell_is hM 0 rfl
  clear h hM
  go_enter Tryz.func60, Tryz.ntmps60
  go_wp2_with fail
  refine HG.out.mono ?_
  rintro e w1 ⟨rfl, rfl⟩
  go_wp2_with fail
  refine HD.out.mono ?_
  rintro e w1 ⟨v, rfl, hh⟩
  have HH := Lib.hid hh
  clear hh
  go_wp2_with fail
  go_ret
  exact ⟨v, rfl, HH.out⟩
set_option maxRecDepth 100000 in
theorem smanager_ok (w : World) {P N S M pos num : Nat} (h : StoreG w P N S M pos num) : Calls Tryz.prog 58 #[.pointer (some ⟨P, 0, none⟩)] w fun e w' => e = .returned (.pointer (some ⟨M, 0, none⟩)) ∧ w = w' := by
  have c5 : w.cell? ⟨P, 5, none⟩ = some (.pointer (some ⟨M, 0, none⟩)) := cell_is h 5 rfl
  clear h
  go_enter Tryz.func58, Tryz.ntmps58
  go_wp2_with fail
  go_ret
  exact ⟨rfl, rfl⟩
set_option maxRecDepth 100000 in
theorem sdump_ok (w : World) {lo P N S M X B r rx pos num : Nat} {qv : Value} {out nm bas last given lastv : Int} {rd : Bool} {L : List (Int × Value)} {vs : Int → List (Int × List UInt8)} (hS : StoreG w P N S M pos num) (hM : MgrG w M X B r qv out nm bas last given rd) (h : VerG w lo X rx lastv L vs) (hk : ∀ x ∈ L, 0 ≤ x.1 ∧ x.1 < 258) (hl : L.length ≤ 1000) : Calls Tryz.prog 15 #[.pointer (some ⟨P, 0, none⟩)] w fun e w' =>
    ∃ v, e = .returned v ∧ Chg [] w w' ∧ PutsAt w' w.heap.size v (dumpL L vs) := by
  have HG := Lib.hid (smanager_ok w hS)
  have HD := Lib.hid (mgrdump_ok w hM h hk hl)
  clear h hM hS
  go_enter Tryz.func15, Tryz.ntmps15
  go_wp2_with fail
  refine HG.out.mono ?_
  rintro e w1 ⟨rfl, rfl⟩
  go_wp2_with fail
  refine HD.out.mono ?_
  rintro e w1 ⟨v, rfl, hh⟩
  have HH := Lib.hid hh
  clear hh
  go_wp2_with fail
  go_ret
  exact ⟨v, rfl, HH.out⟩
set_option maxRecDepth 100000 in
theorem slast_ok (w : World) {P N S M X B r pos num : Nat} {qv : Value} {out nm bas last given : Int} {rd : Bool} (hS : StoreG w P N S M pos num) (hM : MgrG w M X B r qv out nm bas last given rd) : Calls Tryz.prog 14 #[.pointer (some ⟨P, 0, none⟩)] w fun e w' => e = .returned (.int .i64 last) ∧ w = w' := by
  have HG := Lib.hid (smanager_ok w hS)
  have HD : Hid (Calls Tryz.prog 59 #[.pointer (some ⟨M, 0, none⟩)] w fun e w' => e = .returned (.int .i64 last) ∧ w = w') := Lib.hid (by
    have HT := Lib.hid (tgone_mg w hM)
    have c7 : w.cell? ⟨M, 7, none⟩ = some (.int .i64 last) := cell_is hM 7 rfl
    clear hM hS HG
    go_enter Tryz.func59, Tryz.ntmps59
    go_wp2_with fail
    refine HT.out.mono ?_
    rintro e w1 ⟨rfl, rfl⟩
    go_wp2_with fail
    go_ret
    exact ⟨rfl, rfl⟩)
  clear hM hS
  go_enter Tryz.func14, Tryz.ntmps14
  go_wp2_with fail
  refine HG.out.mono ?_
  rintro e w1 ⟨rfl, rfl⟩
  go_wp2_with fail
  refine HD.out.mono ?_
  rintro e w1 ⟨rfl, rfl⟩
  go_wp2_with fail
  go_ret
  exact ⟨rfl, rfl⟩
end Go.Proofs.YtkhionhicegfmaaGreat
namespace Go.Proofs.YtkhionhicegfmaaGreat
open Go.RowKit Go.Lib

set_option maxRecDepth 100000 in
theorem round251_any (w : World) (i : Int) : Calls Tryz.prog 116 #[.int .i64 i, .int .i64 251] w fun e w' => ∃ m : Nat, m < 251 ∧ e = .returned (.int .i64 m) ∧ w = w' := by
  have h1 : -251 < i.tmod 251 ∧ i.tmod 251 < 251 := by
    have := Int.tmod_lt_of_pos i (b := 251) (by omega)
    have := Int.lt_tmod_of_pos i (b := 251) (by omega)
    omega
  go_enter Tryz.func116, Tryz.ntmps116
  go_wp2_with fail
  · obtain ⟨m, hm⟩ : ∃ m : Nat, i.tmod 251 + 251 = m := ⟨(i.tmod 251 + 251).toNat, by omega⟩
    go_ret
    exact ⟨m, by omega, by rw [← hm]; rfl, rfl⟩
  · obtain ⟨m, hm⟩ : ∃ m : Nat, i.tmod 251 = m := ⟨(i.tmod 251).toNat, by omega⟩
    go_ret
    exact ⟨m, by omega, by rw [← hm]; rfl, rfl⟩
/-- block g is a row of forty bytes. -/
def Fo (w : World) (g : Nat) (r : List UInt8) : Prop := r.length = 40 ∧ w.heap[g]? = some (.cells (Lib.byteCells r).toArray 5 (0, 0))
theorem Fo.bs {w : World} {g : Nat} {r : List UInt8} (h : Fo w g r) : Bs w (some ⟨g, 0, none⟩) r := by
  refine Or.inr ⟨g, 0, rfl, heap_lt h.2, fun j hj => ?_⟩
  rw [Nat.zero_add]
  refine cell_is h.2 j ?_
  simp [Lib.byteCells, hj]
def zeroF : List UInt8 := List.replicate 40 0
theorem wrap251 : ∀ x : Fin 251, IntKind.u8.wrap (x.val : Int) = (x.val : Int) := by decide +kernel
theorem makeF (w : World) : (Instr.makeSlice 40 (.int .i64 40) (.int .i64 40)).run Tryz.prog w = .ok (.slice (some ⟨w.heap.size, 0, none⟩) 40 40) (w.alloc (.cells (Lib.byteCells zeroF).toArray 5)) := by kernel_rfl
set_option maxRecDepth 100000 in
set_option maxHeartbeats 1000000 in
theorem block_ok (w : World) (i : Int) : Calls Tryz.prog 63 #[.int .i64 40, .int .i64 i] w fun e w' => ∃ g r, e = .returned (.slice (some ⟨g, 0, none⟩) 40 40) ∧ Chg [] w w' ∧ w.heap.size ≤ g ∧ Fo w' g r := by
  have g0 := heap_new w (.cells (Lib.byteCells zeroF).toArray 5)
  have k0 : Chg [] w (w.alloc (.cells (Lib.byteCells zeroF).toArray 5)) := Chg.alloc w _
  have hmk := makeF
  have mx : max (40 : Int) 0 = 40 := by decide
  go_enter Tryz.func63, Tryz.ntmps63
  go_wp2_with fail
  have hz1 := heap_lt g0
  generalize w.alloc (.cells (Lib.byteCells zeroF).toArray 5) = w1 at *
  generalize hz : w.heap.size = z at *
  go_loopw [6] (fun i wr => ∃ j : Nat, j ≤ 40 ∧ i = .int .i64 j ∧ Chg [] w wr ∧ ∃ r, Fo wr z r) (fun i _ => 40 - (intOf i).toNat)
  case atStart => exact ⟨0, by omega, rfl, k0, zeroF, rfl, g0⟩
  case round =>
    obtain ⟨j, hj, rfl, kc, r, hr, gr⟩ := hrel
    by_cases hlt : j < 40
    · have n1 : decide ((j : Int) < 40) = true := decide_eq_true (by omega)
      go_wp2_with fail
      refine (round251_any wr _).mono ?_
      rintro e w2 ⟨m, hm, rfl, rfl⟩
      have cj : wr.cell? ⟨z, j, none⟩ = some (.int .u8 (r.getD j 0).toNat) := by
        refine cell_is gr j ?_
        simp [Lib.byteCells, hr, hlt, List.getD]
      have fj := unfrozen gr j
      have hm2 : IntKind.u8.wrap (m : Int) = (m : Int) := wrap251 ⟨m, hm⟩
      have gs := heap_set gr j (.int .u8 (m : Int)) (cs' := (Lib.byteCells (r.set j (UInt8.ofNat m))).toArray) (by
        have : Value.int .u8 (m : Int) = (fun b : UInt8 => Value.int .u8 b.toNat) (UInt8.ofNat m) := by
          show _ = Value.int .u8 ((UInt8.ofNat m).toNat : Int)
          rw [UInt8.toNat_ofNat', Nat.mod_eq_of_lt (by omega)]
        rw [this]
        unfold Lib.byteCells
        rw [List.setIfInBounds_toArray, List.map_set])
      have ks : Chg [] w (wr.setCell ⟨z, j, none⟩ (.int .u8 (m : Int))) := kc.trans (Chg.set _ _ _ _) (fun x hx hlt => by simp at hx; omega)
      have HF := Lib.hid (And.intro ks gs)
      clear ks gs kc
      go_wp2_with fail
      refine ⟨⟨j + 1, by omega, by simp, HF.out.1, _, by simpa using hr, HF.out.2⟩, by simp [intOf]; omega⟩
    · obtain rfl : j = 40 := by omega
      go_wp2_with fail
      go_ret
      exact ⟨z, r, rfl, kc, by omega, hr, gr⟩
set_option maxRecDepth 100000 in
theorem data_ok (w : World) (i : Int) : Calls Tryz.prog 18 #[.int .i64 i] w fun e w' => ∃ g r, e = .returned (.slice (some ⟨g, 0, none⟩) 40 40) ∧ Chg [] w w' ∧ w.heap.size ≤ g ∧ Fo w' g r := by
  go_enter Tryz.func18, Tryz.ntmps18
  go_wp2_with fail
  refine (block_ok w i).mono ?_
  rintro e w1 ⟨g, r, rfl, k, hl, hf⟩
  go_wp2_with fail
  go_ret
  exact ⟨g, r, rfl, k, hl, hf⟩
end Go.Proofs.YtkhionhicegfmaaGreat
namespace Go.Proofs.YtkhionhicegfmaaGreat
open Go.RowKit Go.Lib

set_option maxRecDepth 100000 in
theorem round_nat (w : World) (x : Nat) : Calls Tryz.prog 116 #[.int .i64 x, .int .i64 251] w fun e w' => e = .returned (.int .i64 (x % 251 : Nat)) ∧ w = w' := by
  have ht : (x : Int).tmod 251 = ((x % 251 : Nat) : Int) := by
    rw [Int.tmod_eq_emod_of_nonneg (by omega)]
    omega
  obtain ⟨m, hm⟩ : ∃ m : Nat, m = x % 251 := ⟨_, rfl⟩
  rw [← hm] at ht ⊢
  have hm1 : m < 251 := by omega
  clear hm
  go_enter Tryz.func116, Tryz.ntmps116
  go_wp2_with fail
  go_ret
  exact ⟨rfl, rfl⟩
/-- the bytes that hang on a number. -/
def datB (i : Nat) : List UInt8 := (List.range 40).map fun j => UInt8.ofNat ((j * j + i * 7 + 1) % 251)
theorem datB_length (i : Nat) : (datB i).length = 40 := by simp [datB]
theorem datB_at (i j : Nat) (h : j < (datB i).length) : (datB i)[j] = UInt8.ofNat ((j * j + i * 7 + 1) % 251) := by simp [datB]
set_option maxRecDepth 100000 in
set_option maxHeartbeats 1000000 in
theorem block_ex (w : World) (i : Nat) (hi : i ≤ 1000) : Calls Tryz.prog 63 #[.int .i64 40, .int .i64 i] w fun e w' => ∃ g, e = .returned (.slice (some ⟨g, 0, none⟩) 40 40) ∧ Chg [] w w' ∧ w.heap.size ≤ g ∧ Fo w' g (datB i) := by
  have g0 := heap_new w (.cells (Lib.byteCells zeroF).toArray 5)
  have k0 : Chg [] w (w.alloc (.cells (Lib.byteCells zeroF).toArray 5)) := Chg.alloc w _
  have hmk := makeF
  have mx : max (40 : Int) 0 = 40 := by decide
  go_enter Tryz.func63, Tryz.ntmps63
  go_wp2_with fail
  have hz1 := heap_lt g0
  generalize w.alloc (.cells (Lib.byteCells zeroF).toArray 5) = w1 at *
  generalize hz : w.heap.size = z at *
  go_loopw [6] (fun i' wr => ∃ j : Nat, j ≤ 40 ∧ i' = .int .i64 j ∧ Chg [] w wr ∧ ∃ r, Fo wr z r ∧ r.take j = (datB i).take j) (fun i _ => 40 - (intOf i).toNat)
  case atStart => exact ⟨0, by omega, rfl, k0, zeroF, ⟨rfl, g0⟩, rfl⟩
  case round =>
    obtain ⟨j, hj, rfl, kc, r, ⟨hr, gr⟩, hrt⟩ := hrel
    by_cases hlt : j < 40
    · have n1 : decide ((j : Int) < 40) = true := decide_eq_true (by omega)
      obtain ⟨s, hs⟩ : ∃ s : Nat, s = j * j := ⟨_, rfl⟩
      have hs1 : s ≤ 1600 := by rw [hs]; exact Nat.mul_le_mul (show j ≤ 40 by omega) (show j ≤ 40 by omega)
      have hsi : (j : Int) * (j : Int) = (s : Int) := by rw [hs]; push_cast; rfl
      have HS := Lib.hid hs
      have HRt := Lib.hid hrt
      clear hs hrt
      have hfe : (s : Int) + (i : Int) * 7 + 1 = ((s + i * 7 + 1 : Nat) : Int) := by push_cast; rfl
      have HRn := Lib.hid (round_nat wr (s + i * 7 + 1))
      rw [← hfe] at HRn
      clear hfe
      go_wp2_with fail
      refine HRn.out.mono ?_
      rintro e w2 ⟨rfl, rfl⟩
      obtain ⟨m, hmm⟩ : ∃ m : Nat, m = (s + i * 7 + 1) % 251 := ⟨_, rfl⟩
      have hm : m < 251 := by omega
      rw [← hmm]
      have HMm := Lib.hid hmm
      clear hmm HRn
      have cj : wr.cell? ⟨z, j, none⟩ = some (.int .u8 (r.getD j 0).toNat) := by
        refine cell_is gr j ?_
        simp [Lib.byteCells, hr, hlt, List.getD]
      have fj := unfrozen gr j
      have hm2 : IntKind.u8.wrap (m : Int) = (m : Int) := wrap251 ⟨m, hm⟩
      have gs := heap_set gr j (.int .u8 (m : Int)) (cs' := (Lib.byteCells (r.set j (UInt8.ofNat m))).toArray) (by
        have : Value.int .u8 (m : Int) = (fun b : UInt8 => Value.int .u8 b.toNat) (UInt8.ofNat m) := by
          show _ = Value.int .u8 ((UInt8.ofNat m).toNat : Int)
          rw [UInt8.toNat_ofNat', Nat.mod_eq_of_lt (by omega)]
        rw [this]
        unfold Lib.byteCells
        rw [List.setIfInBounds_toArray, List.map_set])
      have ks : Chg [] w (wr.setCell ⟨z, j, none⟩ (.int .u8 (m : Int))) := kc.trans (Chg.set _ _ _ _) (fun x hx hlt => by simp at hx; omega)
      have htk : (r.set j (UInt8.ofNat m)).take (j + 1) = (datB i).take (j + 1) := by
        have h1 : j < (r.set j (UInt8.ofNat m)).length := by rw [List.length_set]; omega
        have h2 : j < (datB i).length := by rw [datB_length]; omega
        rw [List.take_succ_eq_append_getElem h1, List.take_succ_eq_append_getElem h2, List.take_set_of_le (Nat.le_refl j), HRt.out, datB_at, ← HS.out, List.getElem_set_self, HMm.out]
      have HF := Lib.hid (And.intro ks (And.intro gs htk))
      clear ks gs kc htk
      go_wp2_with fail
      refine ⟨⟨j + 1, by omega, by simp, HF.out.1, _, ⟨by simpa using hr, HF.out.2.1⟩, HF.out.2.2⟩, by simp [intOf]; omega⟩
    · obtain rfl : j = 40 := by omega
      have e : r = datB i := by
        rw [List.take_of_length_le (by omega), List.take_of_length_le (by rw [datB_length]; omega)] at hrt
        exact hrt
      subst e
      have HF := Lib.hid (And.intro kc gr)
      clear kc gr
      go_wp2_with fail
      go_ret
      exact ⟨z, rfl, HF.out.1, by omega, datB_length i, HF.out.2⟩
set_option maxRecDepth 100000 in
theorem data_ex (w : World) (i : Nat) (hi : i ≤ 1000) : Calls Tryz.prog 18 #[.int .i64 i] w fun e w' => ∃ g, e = .returned (.slice (some ⟨g, 0, none⟩) 40 40) ∧ Chg [] w w' ∧ w.heap.size ≤ g ∧ Fo w' g (datB i) := by
  go_enter Tryz.func18, Tryz.ntmps18
  go_wp2_with fail
  refine (block_ex w i hi).mono ?_
  rintro e w1 ⟨g, rfl, k, hl, hf⟩
  have HF := Lib.hid (And.intro k (And.intro hl hf))
  clear k hl hf
  go_wp2_with fail
  go_ret
  exact ⟨g, rfl, HF.out⟩
set_option maxRecDepth 100000 in
set_option maxHeartbeats 1000000 in
theorem bytes_same (w : World) {ga gb ca cb : Nat} {l : List UInt8} (ha : Bs w (some ⟨ga, 0, none⟩) l) (hb : Bs w (some ⟨gb, 0, none⟩) l) (hl : l.length = 40) : Calls Tryz.prog 24 #[.slice (some ⟨ga, 0, none⟩) 40 ca, .slice (some ⟨gb, 0, none⟩) 40 cb] w fun e w' => e = .returned (.bool true) ∧ Chg [] w w' := by
  have HA := Lib.hid ha
  have HB := Lib.hid hb
  clear ha hb
  go_enter Tryz.func24, Tryz.ntmps24
  go_wp2_with fail
  go_loopw [5] (fun i wr => ∃ j : Nat, j ≤ 40 ∧ i = .int .i64 j ∧ Chg [] w wr) (fun i _ => 40 - (intOf i).toNat)
  case atStart => exact ⟨0, by omega, rfl, Chg.refl _ _⟩
  case round =>
    obtain ⟨j, hj, rfl, kr⟩ := hrel
    by_cases hlt : j < 40
    · have n1 : decide ((j : Int) < 40) = true := decide_eq_true (by omega)
      have hjl : j < l.length := by omega
      have a0 := (HA.out.chg kr).at_ j hjl
      have b0 := (HB.out.chg kr).at_ j hjl
      rw [Nat.zero_add] at a0 b0
      generalize (l[j].toNat : Int) = x at *
      have hx : (x != x) = false := bne_self_eq_false x
      have HK := Lib.hid kr
      clear kr
      go_wp2_with fail
      go_quiet (fail)
      have HK2 := Lib.hid (HK.out.drewN nq)
      clear a0 b0
      go_wp2_with fail
      exact ⟨⟨j + 1, by omega, by simp, HK2.out⟩, by simp [intOf]; omega⟩
    · obtain rfl : j = 40 := by omega
      go_wp2_with fail
      go_ret
      exact ⟨rfl, kr⟩
end Go.Proofs.YtkhionhicegfmaaGreat
namespace Go.Proofs.YtkhionhicegfmaaGreat
open Go.RowKit Go.Lib

/-- the first i batches: the j'th writes block j. -/
def bsI (i : Nat) : List (Nat × List (Int × List UInt8)) := (List.range i).map fun j : Nat => (j + 1, [((j : Int), datB j)])
/-- what they leave. -/
def putsI (i : Nat) : List (Int × List UInt8) := (List.range i).map fun j : Nat => ((j : Int), datB j)
theorem bsI_length (i : Nat) : (bsI i).length = i := by simp [bsI]
theorem putsI_length (i : Nat) : (putsI i).length = i := by simp [putsI]
theorem bsI_at (i j : Nat) (h : j < (bsI i).length) : (bsI i)[j] = (j + 1, [((j : Int), datB j)]) := by simp [bsI]
theorem putsI_at (i j : Nat) (h : j < (putsI i).length) : (putsI i)[j] = ((j : Int), datB j) := by simp [putsI]
theorem bsI_succ (i : Nat) : bsI (i + 1) = bsI i ++ [(i + 1, [((i : Int), datB i)])] := by simp [bsI, List.range_succ]
theorem putsI_succ (i : Nat) : putsI (i + 1) = putsI i ++ [((i : Int), datB i)] := by simp [putsI, List.range_succ]
theorem bsI_take (i j : Nat) (h : j ≤ i) : (bsI i).take j = bsI j := by
  unfold bsI
  rw [← List.map_take, List.take_range, Nat.min_eq_left h]
theorem allP_bsI (i : Nat) : allP (bsI i) = putsI i := by
  induction i with
  | zero => rfl
  | succ i ih => rw [bsI_succ, putsI_succ, ← ih]; simp [allP]
theorem lastT_bsI (i : Nat) : lastT (bsI i) = i := by
  cases i with
  | zero => rfl
  | succ i => rw [bsI_succ]; unfold lastT; rw [List.foldl_append]; rfl
theorem logL_snoc (e n : Nat) (bs : List (Nat × List (Int × List UInt8))) (b : Nat × List (Int × List UInt8)) : logL e n (bs ++ [b]) = logL e n bs ++ batL e (n + bs.length) b.1 b.2 := by
  induction bs generalizing n with
  | nil => simp [logL]
  | cons a bs ih =>
    simp only [List.cons_append, logL, ih, List.append_assoc, List.length_cons]
    rw [show n + 1 + bs.length = n + (bs.length + 1) by omega]
theorem logI_succ (i : Nat) : logL 0 1 (bsI (i + 1)) = logL 0 1 (bsI i) ++ batL 0 (i + 1) (i + 1) [((i : Int), datB i)] := by
  rw [bsI_succ, logL_snoc, bsI_length, Nat.add_comm 1 i]
theorem logI_length (i : Nat) : (logL 0 1 (bsI i)).length = 2 * i := by
  induction i with
  | zero => rfl
  | succ i ih => rw [logI_succ, List.length_append, ih, batL_length]; simp; omega
theorem bsI_ok (i : Nat) (h : i ≤ 100) : BsOk (bsI i) := by
  refine ⟨fun j hj => ?_, fun j hj => ?_, by rw [logI_length]; omega, by rw [bsI_length]; omega⟩
  · rw [bsI_length] at hj
    rw [bsI_take i j (by omega), lastT_bsI, bsI_at]
    exact ⟨by show j < j + 1; omega, by show j + 1 ≤ 1099511627776; omega⟩
  · rw [bsI_length] at hj
    rw [bsI_at]
    refine ⟨by simp, by simp, fun k hk => by simp at hk, fun x hx => ?_, fun x hx => ?_⟩
    · have : x = ((j : Int), datB j) := by simpa using hx
      subst this
      exact ⟨show (0 : Int) ≤ j by omega, show (j : Int) < 258 by omega⟩
    · have : x = ((j : Int), datB j) := by simpa using hx
      subst this
      exact datB_length j
theorem appD_putsI (i : Nat) : ∀ j, j < i → appD (putsI i) (j : Int) = datB j := by
  induction i with
  | zero => intro j h; omega
  | succ i ih =>
    intro j h
    rw [putsI_succ, appD_snoc]
    by_cases e : j = i
    · subst e; simp
    · have : ¬ ((j : Int) = (i : Int)) := by omega
      simp only [if_neg this]
      exact ih j (by omega)
theorem appK_putsI (i : Nat) : appK (putsI i) = (List.range i).map fun j : Nat => (j : Int) := by
  induction i with
  | zero => rfl
  | succ i ih =>
    rw [putsI_succ, appK_snoc, ih, if_neg (by
      intro h
      obtain ⟨j, hj, e⟩ := List.mem_map.1 h
      have := List.mem_range.1 hj
      have e' : (j : Int) = (i : Int) := e
      omega), List.range_succ, List.map_append]
    rfl
theorem sortI_sorted {l : List Int} (h : l.Pairwise (fun a b => a ≤ b)) : sortI l = l := by
  unfold sortI
  exact List.mergeSort_of_pairwise (h.imp (fun h => by simpa using h))
theorem range_sorted (i : Nat) : ((List.range i).map fun j : Nat => (j : Int)).Pairwise (fun a b => a ≤ b) := by
  refine List.pairwise_map.2 ((List.pairwise_lt_range).imp (fun h => ?_))
  show (_ : Int) ≤ _
  omega
theorem fin_putsI (i : Nat) : finL (putsI i) = putsI i := by
  unfold finL
  rw [appK_putsI, sortI_sorted (range_sorted i), List.map_map]
  unfold putsI
  refine List.map_congr_left (fun j hj => ?_)
  show ((j : Int), appD (putsI i) (j : Int)) = _
  rw [appD_putsI i j (List.mem_range.1 hj)]
theorem putsI_in (i : Nat) (h : i ≤ 100) : ∀ x ∈ putsI i, 0 ≤ x.1 ∧ x.1 < 258 := by
  intro x hx
  obtain ⟨j, hj, rfl⟩ := List.mem_map.1 hx
  have := List.mem_range.1 hj
  exact ⟨show (0 : Int) ≤ j by omega, show (j : Int) < 258 by omega⟩
/-- what the versions of one load are. -/
theorem applyI (k : Int) (i : Nat) (b : Int) : applyV (fun _ => []) k (putsI i) b = if 0 ≤ b ∧ b < i then [(k, datB b.toNat)] else [] := by
  induction i with
  | zero =>
    rw [if_neg (by omega)]
    rfl
  | succ i ih =>
    have e : applyV (fun _ => []) k (putsI (i + 1)) = addV (applyV (fun _ => []) k (putsI i)) (i : Int) (k, datB i) := by
      rw [putsI_succ]
      unfold applyV
      rw [List.foldl_append]
      rfl
    rw [e]
    unfold addV
    by_cases h : b = (i : Int)
    · subst h
      rw [if_pos rfl, ih, if_neg (by omega), if_pos (by omega)]
      rfl
    · rw [if_neg h, ih]
      by_cases h2 : 0 ≤ b ∧ b < i
      · rw [if_pos h2, if_pos (by omega)]
      · rw [if_neg h2, if_neg (by omega)]
theorem getL_mem' {L : List (Int × Value)} {k : Int} {v : Value} (h : getL L k = some v) : k ∈ L.map Prod.fst := by
  induction L with
  | nil => cases h
  | cons p l ih =>
    simp only [getL] at h
    by_cases e : k = p.1
    · simp [e]
    · rw [if_neg e] at h
      exact List.mem_cons_of_mem _ (ih h)
theorem ver_all {w : World} {lo X rx i : Nat} {last k : Int} {L : List (Int × Value)} (h : VerG w lo X rx last L (applyV (fun _ => []) k (putsI i))) (hk : ∀ p ∈ L, 0 ≤ p.1 ∧ p.1 < 258) (hi : i ≤ 100) : L.length = i ∧ dumpL L (applyV (fun _ => []) k (putsI i)) = putsI i := by
  have hp : (L.map Prod.fst).Perm ((List.range i).map fun j : Nat => (j : Int)) := by
    refine (List.perm_ext_iff_of_nodup h.m.nodup ?_).2 (fun x => ⟨fun hx => ?_, fun hx => ?_⟩)
    · exact List.pairwise_map.2 ((List.pairwise_lt_range).imp (fun h e => by have e' : (_ : Int) = _ := e; omega))
    · obtain ⟨v, hg⟩ := getL_key hx
      obtain ⟨p, hp, rfl⟩ := List.mem_map.1 hx
      have hb := hk p hp
      rcases h.row p.1 hb.1 hb.2 with ⟨e, -⟩ | ⟨_, _, _, e⟩
      · rw [hg] at e; cases e
      · rw [applyI] at e
        by_cases e5 : 0 ≤ p.1 ∧ p.1 < i
        · exact List.mem_map.2 ⟨p.1.toNat, List.mem_range.2 (by omega), by show ((p.1.toNat : Nat) : Int) = p.1; omega⟩
        · rw [if_neg e5] at e
          exact absurd rfl e
    · obtain ⟨j, hj, rfl⟩ := List.mem_map.1 hx
      have hj2 := List.mem_range.1 hj
      rcases h.row (j : Int) (by omega) (by omega) with ⟨-, e⟩ | ⟨v, e, -⟩
      · rw [applyI, if_pos (by omega)] at e
        cases e
      · exact getL_mem' e
  have hs : sortI (L.map Prod.fst) = (List.range i).map fun j : Nat => (j : Int) := by
    refine List.Perm.eq_of_pairwise (fun a b _ _ h1 h2 => Int.le_antisymm h1 h2) (sortI_pairwise _) (range_sorted i) ((sortI_perm _).trans hp)
  refine ⟨by have := hp.length_eq; simpa using this, ?_⟩
  rw [dumpL, hs, List.map_map]
  unfold putsI
  refine List.map_congr_left (fun j hj => ?_)
  have hj2 := List.mem_range.1 hj
  show ((j : Int), lastB (applyV (fun _ => []) k (putsI i) (j : Int))) = _
  rw [applyI, if_pos (by omega)]
  simp [lastB]
end Go.Proofs.YtkhionhicegfmaaGreat
namespace Go.Proofs.YtkhionhicegfmaaGreat
open Go.RowKit Go.Lib

theorem DevK.put {w w' : World} {base N A c : Nat} {ops rds : Int} {Z : List Nat} {vs : Nat → Value} {gs : Nat → Nat} {zs : Nat → List (List UInt8)} (h : DevK w base N A c ops rds Z vs gs zs) {j : Nat} (hj : j < Z.length) {v' : Value} {l' : List (List UInt8)}
    (hc : Chg (Z[j] :: (vs j).ownBlock.toList) w w') (hz : w'.heap[Z[j]]? = some (.cells #[v', .int .i64 (gs j : Nat)] 97 (0, 0))) (hr : RowsAt w' base v' l') (hb : ∀ g, v'.ownBlock = some g → (vs j).ownBlock = some g ∨ w.heap.size ≤ g) :
    DevK w' base N A c ops rds Z (upF vs j v') gs (upF zs j l') := by
  have hj8 : j < 8 := by have := h.len; omega
  have hzj := h.zone j hj
  have ht : ∀ {g : Nat} {cs : Array Value} {t : TypeId}, w.heap[g]? = some (.cells cs t (0, 0)) → t ≠ 97 → t ≠ 40 → g ∉ Z[j] :: (vs j).ownBlock.toList := by
    intro g cs t hg h1 h2 hm
    rcases List.mem_cons.1 hm with rfl | hm
    · rw [hzj] at hg; cases hg; exact h1 rfl
    · obtain ⟨cs2, hb2⟩ := (h.rows j hj8).block g (by simpa using hm)
      rw [hg] at hb2; cases hb2; exact h2 rfl
  have hzk : ∀ k (hk : k < Z.length), k ≠ j → Z[k] ∉ Z[j] :: (vs j).ownBlock.toList := by
    intro k hk hkj hm
    rcases List.mem_cons.1 hm with e | hm
    · exact nodup_ne h.nodup hk hj hkj e
    · obtain ⟨cs2, hb2⟩ := (h.rows j hj8).block _ (by simpa using hm)
      rw [h.zone k hk] at hb2; cases hb2
  have hvk : ∀ k g, k < 8 → k ≠ j → (vs k).ownBlock = some g → g ∉ Z[j] :: (vs j).ownBlock.toList := by
    intro k g hk hkj hg hm
    rcases List.mem_cons.1 hm with e | hm
    · obtain ⟨cs2, hb2⟩ := (h.rows k hk).block g hg
      rw [e, hzj] at hb2; cases hb2
    · exact h.apart k j g hk hj8 hkj hg (by simpa using hm)
  obtain ⟨cA, hA⟩ := h.tA
  have av5 : Av w (Z[j] :: (vs j).ownBlock.toList) [5] := fun x hx cs t fr hh h5 => by
    simp at h5
    subst h5
    rcases List.mem_cons.1 hx with rfl | hm
    · rw [hzj] at hh; cases hh
    · obtain ⟨cs2, hb2⟩ := (h.rows j hj8).block x (by simpa using hm)
      rw [hh] at hb2; cases hb2
  refine ⟨hc.heap h.hdr (ht h.hdr (by decide) (by decide)), h.cap, h.len, ⟨cA, hc.heap hA (ht hA (by decide) (by decide))⟩, fun k hk => hc.cell (h.ptr k hk) (ht hA (by decide) (by decide)), fun k hk => ?_, fun k hk => ?_, fun a b g ha hb8 hab hg => ?_, h.nodup⟩
  · by_cases hkj : k = j
    · subst hkj
      simpa [upF] using hz
    · simpa [upF, hkj] using hc.heap (h.zone k hk) (hzk k hk hkj)
  · by_cases hkj : k = j
    · subst hkj
      simpa [upF] using hr
    · simpa [upF, hkj] using (h.rows k hk).keep hc av5 (fun g hg => hvk k g hk hkj hg)
  · by_cases haj : a = j
    · have hbj : b ≠ j := fun e => hab (haj.trans e.symm)
      simp only [upF, if_pos haj] at hg
      simp only [upF, if_neg hbj]
      intro hg2
      rcases hb g hg with h1 | h1
      · exact h.apart j b g hj8 hb8 (fun e => hbj e.symm) h1 hg2
      · obtain ⟨cs2, hb2⟩ := (h.rows b hb8).block g hg2
        have := heap_lt hb2
        omega
    · simp only [upF, if_neg haj] at hg
      by_cases hbj : b = j
      · simp only [upF, if_pos hbj]
        intro hg2
        rcases hb g hg2 with h1 | h1
        · exact h.apart a j g ha hj8 haj hg h1
        · obtain ⟨cs2, hb2⟩ := (h.rows a ha).block g hg
          have := heap_lt hb2
          omega
      · simp only [upF, if_neg hbj]
        exact h.apart a b g ha hb8 hab hg
theorem DevK.appended {wy w5 : World} {base N A c : Nat} {ops rds : Int} {Z : List Nat} {vs : Nat → Value} {gs : Nat → Nat} {zs : Nat → List (List UInt8)} (dy : DevK wy base N A c ops rds Z vs gs zs) {j : Nat} (hj : j < Z.length)
    {pa : Option Addr} {cv g2 c2 g5 cp5 : Nat} {xs : List Value} {l : List UInt8} (hv : vs j = .slice pa (zs j).length cv) (hx : ∀ i (h : i < (zs j).length), ∃ g c, xs[i]? = some (.slice (some ⟨g, 0, none⟩) 64 c) ∧ Bs wy (some ⟨g, 0, none⟩) (zs j)[i] ∧ (zs j)[i].length = 64 ∧ Bt wy g)
    (hxl : xs.length = (zs j).length) (o5 : w5.ownsRow base 40 1 (.slice (some ⟨g5, 0, none⟩) ((zs j).length + 1) cp5) ((zs j).length + 1) (xs ++ [.slice (some ⟨g2, 0, none⟩) 64 c2])) (k5 : Chg (Value.slice pa (zs j).length cv).ownBlock.toList wy w5)
    (i5 : (Value.slice pa (zs j).length cv).ownBlock = some g5 ∨ g5 = wy.heap.size) (b2 : Bs wy (some ⟨g2, 0, none⟩) l) (hl : l.length = 64) (t2 : Bt wy g2) :
    Chg (Z[j] :: (vs j).ownBlock.toList) wy (w5.setCell ⟨Z[j], 0, none⟩ (.slice (some ⟨g5, 0, none⟩) ((zs j).length + 1) cp5)) ∧
    DevK (w5.setCell ⟨Z[j], 0, none⟩ (.slice (some ⟨g5, 0, none⟩) ((zs j).length + 1) cp5)) base N A c ops rds Z (upF vs j (.slice (some ⟨g5, 0, none⟩) ((zs j).length + 1) cp5)) gs (upF zs j (zs j ++ [l])) := by
  have hj8 : j < 8 := by have := dy.len; omega
  have hb23 := (dy.rows j hj8).block
  have hzj := dy.zone j hj
  have hzn : Z[j] ∉ (vs j).ownBlock.toList := by
    intro hm
    obtain ⟨cs, h1⟩ := hb23 _ (by simpa using hm)
    rw [hzj] at h1
    cases h1
  have Z5 := k5.heap hzj (by rw [← hv]; exact hzn)
  rw [hv] at Z5
  have r5 : RowsAt w5 base (.slice (some ⟨g5, 0, none⟩) ((zs j).length + 1) cp5) (zs j ++ [l]) := RowsAt.push (v := .slice pa (zs j).length cv) hx hxl (by rw [← hv]; exact hb23) o5 k5 b2 hl t2
  have hset := Chg.set w5 Z[j] 0 (.slice (some ⟨g5, 0, none⟩) ((zs j).length + 1) cp5)
  have rF := r5.keep hset (Av.row Z5 (by simp)) (by
    intro g hg hm
    rw [List.mem_singleton] at hm
    obtain ⟨cs, h1⟩ := r5.block g hg
    rw [hm, Z5] at h1
    cases h1)
  have kF : Chg (Z[j] :: (vs j).ownBlock.toList) wy (w5.setCell ⟨Z[j], 0, none⟩ (.slice (some ⟨g5, 0, none⟩) ((zs j).length + 1) cp5)) := by
    rw [hv]
    exact (k5.mono (fun x hx _ => List.mem_cons_of_mem _ hx)).then (hset.mono (fun x hx _ => by rw [List.mem_singleton] at hx; subst hx; exact List.mem_cons_self))
  refine ⟨kF, dy.put hj kF (heap_set Z5 0 _ rfl) rF (fun g hg => ?_)⟩
  have e : g5 = g := by simpa [Value.ownBlock] using hg
  subst e
  rw [hv]
  rcases i5 with h | h
  · exact Or.inl h
  · exact Or.inr (Nat.le_of_eq h.symm)
set_option maxRecDepth 100000 in
set_option maxHeartbeats 2000000 in
theorem kappend (w : World) {base N A c : Nat} {ops rds : Int} {Z : List Nat} {vs : Nat → Value} {gs : Nat → Nat} {zs : Nat → List (List UInt8)} (h : DevK w base N A c ops rds Z vs gs zs) (h0 : 0 ≤ ops) (h1 : ops ≤ 1000000) (j : Nat) (hj : j < Z.length) (hroom : (zs j).length < 96)
    {D o cd : Nat} {l : List UInt8} (hb : Bs w (some ⟨D, o, none⟩) l) (hl : l.length = 64) (hD : ∀ g, D = g → g ≠ N) (hlow : base ≤ N) :
    Calls Tryz.prog 123 #[.pointer (some ⟨N, 0, none⟩), .int .i64 j, .slice (some ⟨D, o, none⟩) 64 cd] w fun e w' => ∃ v', e = .returned (.tuple #[.int .i64 ((zs j).length : Nat), .int .i64 0]) ∧ Chg (N :: Z[j] :: (vs j).ownBlock.toList) w w' ∧ DevK w' base N A c (ops + 1) rds Z (upF vs j v') gs (upF zs j (zs j ++ [l])) ∧ (∀ g, v'.ownBlock = some g → (vs j).ownBlock = some g ∨ w.heap.size ≤ g) := by
  have hj8 : j < 8 := by have := h.len; omega
  have HA := Lib.hid (kat w h j hj)
  have HB := Lib.hid (kbegin w h h0 h1)
  have hbN : Bs w (some ⟨D, o, none⟩) l := hb
  have HD := Lib.hid (hD D rfl)
  clear hb hD
  go_enter Tryz.func123, Tryz.ntmps123
  go_wp2_with fail
  refine HA.out.mono ?_
  rintro e w1 ⟨rfl, rfl⟩
  go_wp2_with fail
  refine HB.out.mono ?_
  rintro e w1 ⟨rfl, k1, d1⟩
  have hb1 : Bs w1 (some ⟨D, o, none⟩) l := hbN.chgT k1 (by simpa using HD.out)
  obtain ⟨xs, ho, hx⟩ := d1.rows j hj8
  obtain ⟨pa, cv, hv, hcv⟩ := own_form ho
  have hz1 := d1.zone j hj
  have hb23 := (d1.rows j hj8).block
  have hN1 := heap_lt d1.hdr
  rw [hv] at hz1 ho hb23
  have z0 : w1.cell? ⟨Z[j], 0, none⟩ = some (.slice pa (zs j).length cv) := cell_is hz1 0 rfl
  have s1 : w1.cell? ⟨N, 1, none⟩ = some (.int .i64 96) := cell_is d1.hdr 1 rfl
  have hnl : ¬ (((zs j).length : Int) ≥ 96) := by omega
  have HX := Lib.hid hx
  have HO := Lib.hid ho
  have H1 := Lib.hid d1
  have H23 := Lib.hid hb23
  have HZ := Lib.hid hz1
  have HR := Lib.hid hroom
  clear hx ho d1 HA HB h hb23 hroom hz1
  generalize hzz : Z[j] = z at *
  go_wp2_with fail
  go_quiet (fail)
  have z0d : (w1.drewN nq).cell? ⟨z, 0, none⟩ = some (.slice pa (zs j).length cv) := z0
  have k2 : Chg [N] w (w1.drewN nq) := k1.drewN nq
  have hN2 : N < (w1.drewN nq).heap.size := hN1
  have hb2 : Bs (w1.drewN nq) (some ⟨D, o, none⟩) l := hb1
  have H2 := Lib.hid (H1.out.keep ((Chg.refl [] w1).drewN nq) (Av.nil _ _))
  have HX2 : Hid (∀ (i : Nat) (h : i < (zs j).length), ∃ g c, xs[i]? = some (.slice (some ⟨g, 0, none⟩) 64 c) ∧ Bs (w1.drewN nq) (some ⟨g, 0, none⟩) (zs j)[i] ∧ (zs j)[i].length = 64 ∧ Bt (w1.drewN nq) g) := HX
  have HO2 : Hid ((w1.drewN nq).ownsRow base 40 1 (.slice pa (zs j).length cv) (zs j).length xs) := HO
  have HZ2 : Hid ((w1.drewN nq).heap[z]? = some (.cells #[.slice pa (zs j).length cv, .int .i64 (gs j : Nat)] 97 (0, 0))) := HZ
  clear z0 k1 hN1 hb1 H1 HX HO HZ s1
  generalize w1.drewN nq = w2 at *
  go_wp2_with fail
  have z0e : w2.drew.cell? ⟨z, 0, none⟩ = some (.slice pa (zs j).length cv) := z0d
  go_region_law
    (first
      | (go_simp; go_at_call 97; refine (clone_bt w2.drew (l := l) (m := 64) hl (by decide) (by decide) (hb2.chg (Chg.refl [] w2).drew)).mono ?_; rintro e w6 ⟨g2, c2, rfl, k6, bs6, l6, bt6⟩; have z6 := k6.cell z0e (by simp); have ky : Chg [] w2 (w6.alloc (.cells #[.slice (some ⟨g2, 0, none⟩) 64 c2] 40)) := ((Chg.refl [] w2).drew.then k6).then_alloc _; have y0 := heap_new w6 (.cells #[.slice (some ⟨g2, 0, none⟩) 64 c2] 40); have zy := ky.cell z0d (by simp); have oy := ownsRow_av HO2.out ky (Av.nil _ _); have Zy := ky.heap HZ2.out (by simp); have hby : base ≤ (w6.alloc (.cells #[.slice (some ⟨g2, 0, none⟩) 64 c2] 40)).heap.size := (by have := ky.size; omega))
      | (refine step_append_bk rfl (.tmp 39) (.tmp 42) rfl base _ (zs j).length xs rfl oy w6.heap.size 1 _ rfl (cell_is y0 0 rfl) rfl (by have := HR.out; omega) hby ?_; intro g5 cp5 w5 o5 k5 i5; have Z5 := k5.heap Zy (own_block_ne oy Zy (by decide)); have z5 := cell_is Z5 0 rfl; have f5 := unfrozen Z5 0))
  all_goals
    have dy := H2.out.keep ky (Av.nil _ _)
    have hxl : xs.length = (zs j).length := by have := oy.1; omega
    obtain ⟨kF, dF⟩ := dy.appended hj hv (fun i hi => by
      obtain ⟨g, c, h1, h2, h3, h4⟩ := HX2.out i hi
      exact ⟨g, c, h1, h2.chg ky, h3, h4.keep ky (by simp)⟩) hxl o5 k5 i5 (bs6.chg (Chg.alloc _ _)) hl (bt6.keep (Chg.alloc (S := []) _ _) (by simp))
    have kT : Chg (N :: Z[j] :: (vs j).ownBlock.toList) w (w5.setCell ⟨Z[j], 0, none⟩ (.slice (some ⟨g5, 0, none⟩) ((zs j).length + 1) cp5)) := ((k2.mono (fun x hx _ => by rw [List.mem_singleton] at hx; subst hx; exact List.mem_cons_self)).then (ky.mono (fun x hx _ => by cases hx))).then (kF.mono (fun x hx _ => List.mem_cons_of_mem _ hx))
    have KT := Lib.hid kT
    have DF := Lib.hid dF
    have HI : Hid (∀ g, (Value.slice (some ⟨g5, 0, none⟩) ((zs j).length + 1) cp5).ownBlock = some g → (vs j).ownBlock = some g ∨ w.heap.size ≤ g) := Lib.hid (fun g hg => by
      have hg' : g5 = g := Option.some.inj hg
      subst hg'
      rw [hv]
      rcases i5 with i | i
      · exact Or.inl i
      · have := k2.size
        have := ky.size
        exact Or.inr (by omega))
    rw [hzz] at KT DF
    clear kT dF kF dy oy o5 k5 i5 bs6 bt6 ky y0 zy Zy z6 k6 H23
    have hsub : wrap64 (((zs j).length : Int) + 1 - 1) = ((zs j).length : Nat) := by have := HR.out; unfold wrap64; omega
    go_wp2_with fail
    go_ret2
    have hC := KT.out
    have hD := DF.out
    rw [← hzz] at hD ⊢
    exact ⟨_, rfl, by rw [hzz]; exact hC, hD, HI.out⟩
end Go.Proofs.YtkhionhicegfmaaGreat
namespace Go.Proofs.YtkhionhicegfmaaGreat
open Go.RowKit Go.Lib

/-- where the writing of a batch stands: j blocks are written. -/
structure Wlk (w wz : World) (base N A c : Nat) (ops rds : Int) (Z : List Nat) (vs : Nat → Value) (gs : Nat → Nat) (zs : Nat → List (List UInt8)) (z6 : Nat) (P S M pos num lo : Nat) (v : Value) (bl : List (List UInt8)) (j : Nat) : Prop where
  dev : ∃ v6, DevK wz base N A c (ops + j) rds Z (upF vs 6 v6) gs (upF zs 6 (zs 6 ++ bl.take j)) ∧ (∀ g, v6.ownBlock = some g → (vs 6).ownBlock = some g ∨ w.heap.size ≤ g) ∧ (∀ g, v6.ownBlock = some g → v.ownBlock ≠ some g)
  rows : RowsAt wz lo v bl
  store : StoreG wz P N S M pos num
  chg : Chg (N :: z6 :: (vs 6).ownBlock.toList) w wz
/-- one block more is written. -/
theorem Wlk.step {w wz wy : World} {base N A c : Nat} {ops rds : Int} {Z : List Nat} {vs : Nat → Value} {gs : Nat → Nat} {zs : Nat → List (List UInt8)} {P S M pos num lo : Nat} {v : Value} {bl : List (List UInt8)} {j : Nat} (h6 : 6 < Z.length)
    (hj : j < bl.length) (hrows : RowsAt wz lo v bl) (hstore : StoreG wz P N S M pos num) (hchg : Chg (N :: Z[6] :: (vs 6).ownBlock.toList) w wz) {v6 v' : Value} (hd : DevK wz base N A c (ops + j) rds Z (upF vs 6 v6) gs (upF zs 6 (zs 6 ++ bl.take j))) (hn1 : ∀ g, v6.ownBlock = some g → (vs 6).ownBlock = some g ∨ w.heap.size ≤ g) (hn2 : ∀ g, v6.ownBlock = some g → v.ownBlock ≠ some g)
    (kc : Chg (N :: Z[6] :: (upF vs 6 v6 6).ownBlock.toList) wz wy) (hd' : DevK wy base N A c (ops + j + 1) rds Z (upF (upF vs 6 v6) 6 v') gs (upF (upF zs 6 (zs 6 ++ bl.take j)) 6 (upF zs 6 (zs 6 ++ bl.take j) 6 ++ [bl[j]])))
    (hv' : ∀ g, v'.ownBlock = some g → (upF vs 6 v6 6).ownBlock = some g ∨ wz.heap.size ≤ g) : Wlk w wy base N A c ops rds Z vs gs zs Z[6] P S M pos num lo v bl (j + 1) := by
  rw [upF_same] at kc hv'
  rw [upF_twice, upF_twice, upF_same, List.append_assoc, ← List.take_succ_eq_append_getElem hj, show ops + (j : Int) + 1 = ops + ((j + 1 : Nat) : Int) by omega] at hd'
  have hz := hd.zone 6 h6
  have hr6 := hd.rows 6 (by omega)
  rw [upF_same] at hz hr6
  have hb23 := hr6.block
  have hs := hchg.size
  have rb := hrows.block
  have av : Av wz (N :: Z[6] :: v6.ownBlock.toList) [5, 105] := fun x hx cs t fr hh => by
    rcases List.mem_cons.1 hx with rfl | hx
    · rw [hd.hdr] at hh; cases hh; simp
    · rcases List.mem_cons.1 hx with rfl | hx
      · rw [hz] at hh; cases hh; simp
      · obtain ⟨cs2, h2⟩ := hb23 x (by simpa using hx)
        rw [h2] at hh; cases hh; simp
  refine ⟨⟨v', hd', fun g hg => ?_, fun g hg hvg => ?_⟩, hrows.keep kc (fun x hx cs t fr hh ht => av x hx cs t fr hh (by simp at ht; simp [ht])) (fun g hg hm => ?_), kc.heap hstore (av.ne hstore (by simp)), hchg.trans kc (fun x hx hlt => ?_)⟩
  · rcases hv' g hg with h | h
    · exact hn1 g h
    · exact Or.inr (by omega)
  · rcases hv' g hg with h | h
    · exact hn2 g h hvg
    · obtain ⟨cs, h2⟩ := rb g hvg
      have := heap_lt h2
      omega
  · obtain ⟨cs, h2⟩ := rb g hg
    rcases List.mem_cons.1 hm with rfl | hm
    · rw [hd.hdr] at h2; cases h2
    · rcases List.mem_cons.1 hm with rfl | hm
      · rw [hz] at h2; cases h2
      · exact hn2 g (by simpa using hm) hg
  · rcases List.mem_cons.1 hx with rfl | hx
    · exact List.mem_cons_self
    · rcases List.mem_cons.1 hx with rfl | hx
      · exact List.mem_cons_of_mem _ List.mem_cons_self
      · rcases hn1 x (by simpa using hx) with h | h
        · exact List.mem_cons_of_mem _ (List.mem_cons_of_mem _ (by simpa using h))
        · omega
set_option maxRecDepth 100000 in
set_option maxHeartbeats 8000000 in
theorem kwrite_log (w : World) {base lo N A c P S M pos num cnt k : Nat} {ops rds num0 : Int} {Z : List Nat} {vs : Nat → Value} {gs : Nat → Nat} {zs : Nat → List (List UInt8)} {v : Value} {l : List (Int × List UInt8)}
    (hP : StoreG w P N S M pos num) (HL : ∀ w1, Chg [] w w1 → Calls Tryz.prog 48 #[.pointer (some ⟨S, 0, none⟩)] w1 fun e w' => ∃ u, e = .returned (.tuple #[u, .int .i64 cnt]) ∧ Chg [] w1 w')
    (hD : DevK w base N A c ops rds Z vs gs zs) (h0 : 0 ≤ ops) (h1 : ops ≤ 100000) (hlow : base ≤ N) (hT : TxOne w lo v k l) (hk0 : 1 ≤ k) (hk1 : k ≤ 1099511627776) (hcnt : cnt < 4294967296) (hnum : num < 1099511627776) (hl0 : 0 < l.length) (hl : l.length ≤ 16) (hr : Rise l) (hk : ∀ x ∈ l, 0 ≤ x.1 ∧ x.1 < 258)
    (hroom : (zs 6).length + l.length + 1 ≤ 96) (hpos : pos + l.length + 1 ≤ 96) (h6 : 6 < Z.length) :
    Calls Tryz.prog 66 #[.pointer (some ⟨P, 0, none⟩), .agg #[.int .i64 num0, v]] w fun e w' => e = .returned (.int .i64 0) ∧ Chg (P :: N :: Z ++ (vs 6).ownBlock.toList) w w' ∧ StoreG w' P N S M (pos + l.length + 1) (num + 1) ∧
      ∃ v6, DevK w' base N A c (ops + l.length + 2) rds Z (upF vs 6 v6) (goodF gs (upF zs 6 (zs 6 ++ batL cnt (num + 1) k l)) 8) (upF zs 6 (zs 6 ++ batL cnt (num + 1) k l)) := by
  obtain ⟨gt, ct, pbt, cbt, rfl, -, -, -, -, -, -, -⟩ := hT.open_
  have k0 : Chg [] w (w.alloc (.cells #[.int .i64 num0, .slice (some ⟨gt, 0, none⟩) 1 ct] 129)) := Chg.alloc w _
  have K0 := heap_new w (.cells #[.int .i64 num0, .slice (some ⟨gt, 0, none⟩) 1 ct] 129)
  have hP0 := k0.heap hP (by simp)
  have p6 : (w.alloc (.cells #[.int .i64 num0, .slice (some ⟨gt, 0, none⟩) 1 ct] 129)).cell? ⟨P, 6, none⟩ = some (.pointer (some ⟨S, 0, none⟩)) := cell_is hP0 6 rfl
  have HL0 := Lib.hid (HL _ k0)
  have HP := Lib.hid hP
  have HD := Lib.hid hD
  have HT := Lib.hid hT
  clear HL hP hD hT
  go_enter Tryz.func66, Tryz.ntmps66
  go_wp2_with fail
  generalize w.alloc (.cells #[.int .i64 num0, .slice (some ⟨gt, 0, none⟩) 1 ct] 129) = w1 at *
  generalize hz : w.heap.size = K at *
  refine HL0.out.mono ?_
  rintro e w2 ⟨u, rfl, k2'⟩
  have k2 := k0.then k2'
  have K2 := k2'.heap K0 (by simp)
  have hP2 := k2.heap HP.out (by simp)
  have p8 : w2.cell? ⟨P, 8, none⟩ = some (.int .i64 num) := cell_is hP2 8 rfl
  have q0 : w2.cell? ⟨K, 0, none⟩ = some (.int .i64 num0) := cell_is K2 0 rfl
  have z0 : w2.frozen? ⟨K, 0, none⟩ = false := unfrozen K2 0
  have kS : Chg [] w (w2.setCell ⟨K, 0, none⟩ (.int .i64 ((num : Int) + 1))) := k2.new_set (by omega) 0 _
  have K3 : (w2.setCell ⟨K, 0, none⟩ (.int .i64 ((num : Int) + 1))).heap[K]? = some (.cells #[.int .i64 ((num : Int) + 1), .slice (some ⟨gt, 0, none⟩) 1 ct] 129 (0, 0)) := heap_set K2 0 _ rfl
  have a0 : (w2.setCell ⟨K, 0, none⟩ (.int .i64 ((num : Int) + 1))).cell? ⟨K, 0, none⟩ = some (.int .i64 ((num : Int) + 1)) := cell_is K3 0 rfl
  have a1 : (w2.setCell ⟨K, 0, none⟩ (.int .i64 ((num : Int) + 1))).cell? ⟨K, 1, none⟩ = some (.slice (some ⟨gt, 0, none⟩) 1 ct) := cell_is K3 1 rfl
  have hE := bencode_one _ (e := cnt) (num := num + 1) (HT.out.keep kS) (by omega) (by omega) hk0 hk1 hcnt hl0 hl hr hk
  rw [show ((num + 1 : Nat) : Int) = (num : Int) + 1 by omega] at hE
  have HE := Lib.hid hE
  clear hE
  clear p6 HL0 K0 k2' K2 hP2 K3 hk
  go_wp2_with fail
  obtain ⟨lo3, hlo3⟩ : ∃ lo3, lo3 = (w2.setCell ⟨K, 0, none⟩ (.int .i64 ((num : Int) + 1))).heap.size := ⟨_, rfl⟩
  have HLo := Lib.hid (show w.heap.size ≤ lo3 from by rw [hlo3]; exact kS.size)
  rw [← hlo3] at HE
  clear hlo3
  refine HE.out.mono ?_
  rintro e w3 ⟨v', rfl, k3', hrows⟩
  have k3 := kS.then k3'
  have hP3 := k3.heap HP.out (by simp)
  have hD3 := HD.out.keep k3 (Av.nil _ _)
  have hbl : (batL cnt (num + 1) k l).length = l.length + 1 := batL_length _ _ _ _
  have h64 : ∀ x ∈ batL cnt (num + 1) k l, x.length = 64 := fun x hx => by
    obtain ⟨i, hi, rfl⟩ := List.getElem_of_mem hx
    obtain ⟨-, -, -, -, -, -, -, -, h, -⟩ := hrows.get i hi
    exact h
  obtain ⟨gr, cr, gd', cd', hv', hcr, -, -, -, -⟩ := hrows.get 0 (by omega)
  subst hv'
  have HR := Lib.hid hrows
  have HD3 := Lib.hid hD3
  have HP3 := Lib.hid hP3
  have HGm := Lib.hid (kgeometry w3 hD3)
  have p0 : w3.cell? ⟨P, 0, none⟩ = some (.pointer (some ⟨N, 0, none⟩)) := cell_is hP3 0 rfl
  have HBL := Lib.hid hbl
  have hsz3 := k3.size
  have hlr : lo3 ≤ gr := by
    obtain ⟨xs, ho, -⟩ := hrows
    exact (own_elem ho rfl).1
  have HV6 := Lib.hid (show ∀ g, (vs 6).ownBlock = some g → g < w.heap.size from fun g hg => by
    obtain ⟨cs, h5⟩ := (HD.out.rows 6 (by omega)).block g hg
    exact heap_lt h5)
  clear HE kS a0 a1 q0 z0 p8 HD HT k2 k3' hD3 hrows hbl hP3
  obtain ⟨bl, hbl'⟩ : ∃ bl, batL cnt (num + 1) k l = bl := ⟨_, rfl⟩
  rw [hbl'] at HR HBL h64
  rw [hbl']
  have HBb := Lib.hid hbl'
  clear hbl'
  go_wp2_with fail
  refine HGm.out.mono ?_
  rintro e w4 ⟨rfl, k4⟩
  have hP4 := k4.heap HP3.out (by simp)
  have HD4 := Lib.hid (HD3.out.keep k4 (Av.nil _ _))
  have HR4 := Lib.hid (HR.out.keep0 k4)
  have hfs := field_size
  have p7 : w4.cell? ⟨P, 7, none⟩ = some (.int .i64 pos) := cell_is hP4 7 rfl
  have p4 : w4.cell? ⟨P, 4, none⟩ = some (.int .i64 7) := cell_is hP4 4 rfl
  have p3 : w4.cell? ⟨P, 3, none⟩ = some (.int .i64 6) := cell_is hP4 3 rfl
  have hpn : IntKind.i64.wrap ((pos : Int) + (bl.length : Nat)) = (pos : Int) + (bl.length : Nat) := by rw [IntKind.wrap_i64]; have := HBL.out; omega
  have hgt : decide (192 < (pos : Int) + (bl.length : Nat)) = false := decide_eq_false (by have := HBL.out; omega)
  have HP4 := Lib.hid hP4
  have kk4 := k3.then k4
  clear hP4 HGm p0 HP3 HD3 HR k4 k3
  go_wp2_with fail
  go_quiet (fail)
  have kd : Chg [] w4 (w4.drewN nq) := (Chg.refl [] w4).drewN nq
  have k5 := kk4.then kd
  have hD5 := HD4.out.keep kd (Av.nil _ _)
  have hR5 := HR4.out.keep0 kd
  have hP5 : StoreG (w4.drewN nq) P N S M pos num := HP4.out
  have hW5 : Wlk w (w4.drewN nq) base N A c ops rds Z vs gs zs Z[6] P S M pos num lo3 (.slice (some ⟨gr, 0, none⟩) bl.length cr) bl 0 := by
    refine ⟨⟨vs 6, ?_, fun g hg => Or.inl hg, fun g hg e => ?_⟩, hR5, hP5, k5.mono (fun x hx _ => by cases hx)⟩
    · rw [upF_self, List.take_zero, List.append_nil, upF_self]
      simpa using hD5
    · have h5 := HV6.out g hg
      have h6 := hlr
      have e' : gr = g := Option.some.inj e
      subst e'
      have := HLo.out
      omega
  have HW5 := Lib.hid hW5
  clear hW5 hR5 hP5 hD5 HD4 HR4 HP4 p7 p4 p3 hpn hgt hfs
  generalize w4.drewN nq = w5 at *
  go_wp2_with fail
  go_loopw [10, 11, 12, 13, 68] (fun _ _ _ _ i wr => ∃ j : Nat, j ≤ bl.length ∧ i = .int .i64 j ∧ Wlk w wr base N A c ops rds Z vs gs zs Z[6] P S M pos num lo3 (.slice (some ⟨gr, 0, none⟩) bl.length cr) bl j) (fun _ _ _ _ i _ => bl.length - (intOf i).toNat)
  case atStart => exact ⟨0, by omega, rfl, HW5.out⟩
  case round =>
    obtain ⟨j, hj, rfl, hWr⟩ := hrel
    rename World => wr
    clear HW5
    by_cases hlt : j < bl.length
    · obtain ⟨⟨v6, hd, hn1, hn2⟩, hrows, hstore, hchg⟩ := hWr
      obtain ⟨gr1, cap1, gd, cd, hv1, -, r0, hbs, h64j, hbt⟩ := hrows.get j hlt
      cases hv1
      have hlti : (j : Int) < bl.length := by omega
      have HBL1 := HBL.out
      have nN : gd ≠ N := by
        obtain ⟨cs, hh⟩ := hbt
        exact heap_ne hh hd.hdr (by simp)
      have kdr : Chg [] wr wr.drew := (Chg.refl [] wr).drew
      have hdd := hd.keep kdr (Av.nil _ _)
      have hA := kappend wr.drew (cd := cd) hdd (by omega) (by omega) 6 h6 (by rw [upF_same, List.length_append, List.length_take]; omega) (hbs.chg kdr) h64j (fun g hg => by subst hg; exact nN) hlow
      rw [show ((6 : Nat) : Int) = 6 from rfl] at hA
      have HA := Lib.hid hA
      have kdr' := kdr.mono (T := N :: Z[6] :: (upF vs 6 v6 6).ownBlock.toList) (fun x hx _ => by cases hx)
      have hz6 := hd.zone 6 h6
      have hr6 := hd.rows 6 (by omega)
      have nP : P ∉ N :: Z[6] :: (upF vs 6 v6 6).ownBlock.toList := fun hm => by
        rcases List.mem_cons.1 hm with e | hm
        · exact heap_ne hstore hd.hdr (by simp) e
        · rcases List.mem_cons.1 hm with e | hm
          · exact heap_ne hstore hz6 (by simp) e
          · obtain ⟨cs, hh⟩ := hr6.block P (by simpa using hm)
            rw [hstore] at hh
            cases hh
      have p0 : wr.cell? ⟨P, 0, none⟩ = some (.pointer (some ⟨N, 0, none⟩)) := cell_is hstore 0 rfl
      have p3 : wr.cell? ⟨P, 3, none⟩ = some (.int .i64 6) := cell_is hstore 3 rfl
      have p7 : wr.cell? ⟨P, 7, none⟩ = some (.int .i64 pos) := cell_is hstore 7 rfl
      have hq1 : IntKind.i64.wrap ((pos : Int) + (j : Nat)) = (pos : Int) + (j : Nat) := by rw [IntKind.wrap_i64]; omega
      have hq2 : ((pos : Int) + (j : Nat)).tdiv 96 = 0 := by
        rw [Int.tdiv_eq_ediv_of_nonneg (by omega)]
        omega
      have HW := Lib.hid (fun wy v' kc hd' hv' => Wlk.step (wy := wy) (v' := v') h6 hlt hrows hstore hchg hd hn1 hn2 kc hd' hv')
      have HnP := Lib.hid nP
      clear hd hn1 hn2 hrows hstore hchg hbs h64j hbt nN hdd hA hz6 hr6 nP HBL1
      go_wp2_with fail
      go_region_held3 (fun wx => wx.cell? ⟨P, 0, none⟩ = some (.pointer (some ⟨N, 0, none⟩)) ∧ wx.cell? ⟨P, 3, none⟩ = some (.int .i64 6) ∧ wx.cell? ⟨P, 7, none⟩ = some (.int .i64 pos))
        (first
          | (exact ⟨p0, p3, p7⟩)
          | (exact ⟨kc.cell p0 HnP.out, kc.cell p3 HnP.out, kc.cell p7 HnP.out⟩))
        (first
          | (go_at_call 123; refine HA.out.mono ?_; rintro e w6 ⟨v', rfl, kc', dc, hvc⟩; have kc := kdr'.then kc'))
      have hWn := Lib.hid (HW.out _ _ kc dc hvc)
      have hb16 : bl.length ≤ 17 := by have := HBL.out; omega
      clear HW HA HnP kc dc hvc kc' p0 p3 p7
      go_wp2_with fail
      exact ⟨⟨j + 1, by omega, by go_num, hWn.out⟩, by simp [intOf]; omega⟩
    · obtain rfl : j = bl.length := by omega
      obtain ⟨⟨v6, hd, -, -⟩, -, hstore, hchg⟩ := hWr
      rw [List.take_length] at hd
      have HF := Lib.hid (kflush wr hd (by omega) (by have := HBL.out; omega))
      have p0 : wr.cell? ⟨P, 0, none⟩ = some (.pointer (some ⟨N, 0, none⟩)) := cell_is hstore 0 rfl
      have nP : P ∉ N :: Z := fun hm => by
        rcases List.mem_cons.1 hm with e | hm
        · exact heap_ne hstore hd.hdr (by simp) e
        · obtain ⟨i, hi, e⟩ := List.getElem_of_mem hm
          exact heap_ne hstore (hd.zone i hi) (by simp) e.symm
      have HS := Lib.hid hstore
      have HnP := Lib.hid nP
      have HCg := Lib.hid hchg
      have Hpb := Lib.hid (show pos + bl.length < 1000 by have := HBL.out; omega)
      have Hop := Lib.hid (show ops + (bl.length : Nat) + 1 = ops + (l.length : Nat) + 2 by have := HBL.out; omega)
      clear hd hstore hchg nP
      go_wp2_with fail
      refine HF.out.mono ?_
      rintro e w6 ⟨rfl, k6, hd6⟩
      have hP6 := k6.heap HS.out HnP.out
      have p7 : w6.cell? ⟨P, 7, none⟩ = some (.int .i64 pos) := cell_is hP6 7 rfl
      have p8 : w6.cell? ⟨P, 8, none⟩ = some (.int .i64 num) := cell_is hP6 8 rfl
      have f7 := unfrozen hP6 7
      have f8 := unfrozen hP6 8
      have HD6 := Lib.hid hd6
      have HP6 := Lib.hid hP6
      clear hd6 hP6 HF HS p0
      go_wp2_with fail
      go_ret
      have hps := pos_wrap pos bl.length l.length HBL.out Hpb.out
      have hop := Hop.out
      rw [hps]
      have hdF := HD6.out
      rw [hop] at hdF
      have kS1 := Chg.set w6 P 7 (.int .i64 ((pos + l.length + 1 : Nat) : Int))
      have hP7 : StoreG (w6.setCell ⟨P, 7, none⟩ (.int .i64 ((pos + l.length + 1 : Nat) : Int))) P N S M (pos + l.length + 1) num := heap_set HP6.out 7 _ rfl
      have kS2 := Chg.set (w6.setCell ⟨P, 7, none⟩ (.int .i64 ((pos + l.length + 1 : Nat) : Int))) P 8 (.int .i64 ((num : Int) + 1))
      rw [HBb.out]
      refine ⟨rfl, ?_, heap_set hP7 8 _ rfl, v6, (hdF.keep kS1 (Av.row HP6.out (by decide))).keep kS2 (Av.row hP7 (by decide))⟩
      have hZ6 : Z[6] ∈ Z := List.getElem_mem h6
      refine (((HCg.out.mono ?_).then (k6.mono ?_)).then_set (fun _ => List.mem_cons_self) 7 _).then_set (fun _ => List.mem_cons_self) 8 _
      · intro x hx _
        simp only [List.mem_cons] at hx
        rcases hx with rfl | rfl | hx
        · simp
        · simp [hZ6]
        · simp [show x ∈ (vs 6).ownBlock.toList from hx]
      · intro x hx _
        simp only [List.mem_cons] at hx
        rcases hx with rfl | hx
        · simp
        · simp [hx]
end Go.Proofs.YtkhionhicegfmaaGreat
namespace Go.Proofs.YtkhionhicegfmaaGreat
open Go.RowKit Go.Lib

theorem BufD.keepA {w w' : World} {U : List Nat} {L : List (Int × Value)} {D : Int → List UInt8} (h : BufD w L D) (hc : Chg U w w') (hU : Av w U [5]) : BufD w' L D := fun k v hv => by
  obtain ⟨g, c, h1, h2, h3, h4⟩ := h k v hv
  have hn : g ∉ U := Bt.av h4 hU (by simp)
  exact ⟨g, c, h1, h2.chgT hc hn, h3, Bt.keep h4 hc hn⟩
theorem Cd.av {lo M T rb X rx : Nat} {w : World} {S ts : List Nat} {csM csT csX : Array Value} {L1 L2 : List (Int × Value)} (hS : ∀ x ∈ S, x < w.heap.size → x = M ∨ x = T ∨ x = rb ∨ x = X ∨ x = rx ∨ (lo ≤ x ∧ ∃ cs, w.heap[x]? = some (.cells cs 262 (0, 0))))
    (hM : w.heap[M]? = some (.cells csM 189 (0, 0))) (hT : w.heap[T]? = some (.cells csT 202 (0, 0))) (hX : w.heap[X]? = some (.cells csX 253 (0, 0))) (h1 : MapAt w rb L1) (h2 : MapAt w rx L2) (h : ∀ t ∈ ts, t ∉ [189, 202, 253, 262]) : Av w S ts := by
  intro x hx cs t fr hh ht
  have hn := h t ht
  rcases hS x hx (heap_lt hh) with rfl | rfl | rfl | rfl | rfl | ⟨-, cs2, h3⟩
  · rw [hM] at hh; cases hh; exact hn (by simp)
  · rw [hT] at hh; cases hh; exact hn (by simp)
  · exact map_cells h1 hh rfl
  · rw [hX] at hh; cases hh; exact hn (by simp)
  · exact map_cells h2 hh rfl
  · rw [h3] at hh; cases hh; exact hn (by simp)
theorem Cs.of_cd {lw lo M T rb X rx : Nat} {w w' : World} {csM csT csX : Array Value} {L1 L2 : List (Int × Value)} (h : Cd lo M T rb X rx w w')
    (hM : w.heap[M]? = some (.cells csM 189 (0, 0))) (hT : w.heap[T]? = some (.cells csT 202 (0, 0))) (hX : w.heap[X]? = some (.cells csX 253 (0, 0))) (h1 : MapAt w rb L1) (h2 : MapAt w rx L2) (hb : lw ≤ lo ∧ lw ≤ M ∧ lw ≤ T ∧ lw ≤ rb ∧ lw ≤ X ∧ lw ≤ rx) : Cs lw w w' := by
  obtain ⟨S, k1, k2⟩ := h
  refine ⟨S, k1, fun x hx hlt => ?_⟩
  obtain ⟨b1, b2, b3, b4, b5, b6⟩ := hb
  rcases k2 x hx hlt with rfl | rfl | rfl | rfl | rfl | ⟨hl, cs2, h3⟩
  · exact ⟨b2, fun cs t fr hh => by rw [hM] at hh; cases hh; simp⟩
  · exact ⟨b3, fun cs t fr hh => by rw [hT] at hh; cases hh; simp⟩
  · exact ⟨b4, fun cs t fr hh => absurd rfl (map_cells h1 hh)⟩
  · exact ⟨b5, fun cs t fr hh => by rw [hX] at hh; cases hh; simp⟩
  · exact ⟨b6, fun cs t fr hh => absurd rfl (map_cells h2 hh)⟩
  · exact ⟨by omega, fun cs t fr hh => by rw [h3] at hh; cases hh; simp⟩
/-- the blocks that a write of a batch changes. -/
theorem Sto.wtp {w : World} {lw : Nat} {d : Ids} {s : Gs} {g : Gd} (h : Sto w lw d s g) : Tp w (d.P :: d.N :: d.Z ++ (g.dv 6).ownBlock.toList) [105, 93, 97, 40] ∧ ∀ x ∈ d.P :: d.N :: d.Z ++ (g.dv 6).ownBlock.toList, lw ≤ x := by
  have hb := h.bnd
  refine ⟨fun x hx => ?_, fun x hx => ?_⟩
  · simp only [List.cons_append, List.mem_cons, List.mem_append] at hx
    rcases hx with rfl | rfl | hx | hx
    · exact ⟨_, _, h.store, by simp⟩
    · exact ⟨_, _, h.dev.hdr, by simp⟩
    · obtain ⟨i, hi, rfl⟩ := List.getElem_of_mem hx
      exact ⟨_, _, h.dev.zone i hi, by simp⟩
    · obtain ⟨cs, hh⟩ := (h.dev.rows 6 (by omega)).block x (by simpa using hx)
      exact ⟨_, _, hh, by simp⟩
  · simp only [List.cons_append, List.mem_cons, List.mem_append] at hx
    rcases hx with rfl | rfl | hx | hx
    · omega
    · omega
    · exact h.bndZ x hx
    · obtain ⟨xs, ho, -⟩ := h.dev.rows 6 (by omega)
      have := (own_elem ho (show (g.dv 6).ownBlock = some x by simpa using hx)).1
      omega
/-- what a transaction that waits holds beside the store. -/
structure Wtx (w : World) (d : Ids) (s : Gs) (gq cq : Nat) (hdl : Int) (k : Nat) (t t0 : Int) (L : List (Int × Value)) (D : Int → List UInt8) : Prop where
  qv : s.qv = .slice (some ⟨gq, 0, none⟩) 1 cq
  cq : 1 ≤ cq
  q : ∃ cs, w.heap[gq]? = some (.cells cs 3 (0, 0)) ∧ cs[0]? = some (.int .i64 hdl)
  tab : getL s.Lr hdl = some (.pointer (some ⟨d.T, 0, none⟩))
  tx : TxW w d.T d.W d.Q k t
  buf : BufAt w d.W d.rw L
  bd : BufD w L D
  bk : ∀ x ∈ L, 0 ≤ x.1 ∧ x.1 < 258
  len0 : 0 < L.length
  len : L.length ≤ 16
  book : getL s.Lb hdl = some (.int .i64 t0)
theorem Wtx.keepA {w w' : World} {U : List Nat} {d : Ids} {s : Gs} {gq cq : Nat} {hdl : Int} {k : Nat} {t t0 : Int} {L : List (Int × Value)} {D : Int → List UInt8} (h : Wtx w d s gq cq hdl k t t0 L D) (hc : Chg U w w') (hU : Av w U [3, 202, 266, 5]) (hr : d.rw ∉ U) : Wtx w' d s gq cq hdl k t t0 L D := by
  obtain ⟨cs, q1, q2⟩ := h.q
  exact ⟨h.qv, h.cq, ⟨cs, hc.heap q1 (hU.ne q1 (by simp)), q2⟩, h.tab, hc.heap h.tx (hU.ne h.tx (by simp)), h.buf.keep hc (hU.ne h.buf.1 (by simp)) hr, h.bd.keepA hc (fun x hx cs t fr hh ht => hU x hx cs t fr hh (by simp at ht; simp [ht])), h.bk, h.len0, h.len, h.book⟩
theorem Wtx.keep {w w' : World} {d : Ids} {s : Gs} {gq cq : Nat} {hdl : Int} {k : Nat} {t t0 : Int} {L : List (Int × Value)} {D : Int → List UInt8} (h : Wtx w d s gq cq hdl k t t0 L D) (hc : Chg [] w w') : Wtx w' d s gq cq hdl k t t0 L D := h.keepA hc (Av.nil _ _) (by simp)
/-- the manager behind a batch. -/
def doneS (s : Gs) (z : Nat) (k : Nat) (hdl : Int) (Lv' : List (Int × Value)) (l : List (Int × List UInt8)) : Gs :=
  { s with qv := .slice (some ⟨z, 0, none⟩) 0 0, out := 0, num := s.num + 1, last := k, lastv := k, Lv := Lv', vs := applyV s.vs k l, Lb := delL s.Lb hdl }
/-- the log behind a batch. -/
def doneG (g : Gd) (v6 : Value) (k : Nat) (l : List (Int × List UInt8)) : Gd :=
  { g with pos := g.pos + l.length + 1, num := g.num + 1, ops := g.ops + l.length + 2, dv := upF g.dv 6 v6, gs := goodF g.gs (upF g.zs 6 (g.zs 6 ++ batL g.cnt (g.num + 1) k l)) 8, zs := upF g.zs 6 (g.zs 6 ++ batL g.cnt (g.num + 1) k l) }
/-- what a flush of one transaction leaves. -/
def FlushR (w w' : World) (lw : Nat) (d : Ids) (s : Gs) (g : Gd) (k : Nat) (hdl : Int) (l : List (Int × List UInt8)) : Prop :=
  ∃ z Lv' v6, Sto w' lw d (doneS s z k hdl Lv' l) (doneG g v6 k l) ∧ Cs lw w w' ∧ w'.ownsRow lw 3 1 (.slice (some ⟨z, 0, none⟩) 0 0) 0 []
set_option maxRecDepth 100000 in
set_option maxHeartbeats 4000000 in
theorem sflush_ok (w : World) {lw : Nat} {d : Ids} {s : Gs} {g : Gd} {gq cq : Nat} {hdl : Int} {k : Nat} {t t0 : Int} {L : List (Int × Value)} {D : Int → List UInt8} (h : Sto w lw d s g) (hw : Wtx w d s gq cq hdl k t t0 L D) (hout : s.out = 0) (hT : lw ≤ d.T) (hlw : lw ≤ w.heap.size)
    (hk0 : 1 ≤ k) (hlast : s.lastv < k) (hk1 : k ≤ 1099511627776) (hs : ∀ c, (s.vs c).length + 16 < 1000000) (hn0 : 0 ≤ s.num) (hn1 : s.num ≤ 100000000) (hroom : (g.zs 6).length + L.length + 1 ≤ 96) (hpos : g.pos + L.length + 1 ≤ 96) (ho0 : 0 ≤ g.ops) (ho1 : g.ops ≤ 100000) (hcnt : g.cnt < 4294967296) (hnum : g.num < 1000000000) :
    Calls Tryz.prog 20 #[.pointer (some ⟨d.P, 0, none⟩)] w fun e w' => e = .returned (.int .i64 0) ∧ FlushR w w' lw d s g k hdl (putsL L D) := by
  have HD := Lib.hid (dead_g w h.store)
  have p5 : w.cell? ⟨d.P, 5, none⟩ = some (.pointer (some ⟨d.M, 0, none⟩)) := cell_is h.store 5 rfl
  have hm := h.mx.mgr
  rw [hw.qv, hout] at hm
  obtain ⟨cs, hq1, hq2⟩ := hw.q
  have hpl : (putsL L D).length = L.length := putsL_length L D
  have HB := Lib.hid (tbatch_one w (k := k) (l := putsL L D) hm (by have := hw.len; omega) hn0 (by omega) (fun w1 k1 => waiting_one w1 (k1.heap hm (by simp)) (k1.cell (cell_is hq1 0 hq2) (by simp)) (h.mx.map.keep k1 (by simp)) hw.tab (k1.heap hw.tx (by simp)) (hw.buf.keep k1 (by simp) (by simp)) (hw.bd.keep k1) hw.bk (by have := hw.len; omega)))
  have HS := Lib.hid h
  have HW := Lib.hid hw
  have HO := Lib.hid hout
  have HQv := Lib.hid hw.qv
  clear h hw hm hout hq1 hq2
  go_enter Tryz.func20, Tryz.ntmps20
  go_wp2_with fail
  refine HD.out.mono ?_
  rintro e w1 ⟨rfl, rfl⟩
  go_wp2_with fail
  refine HB.out.mono ?_
  rintro e w1 ⟨gt, ct, rfl, k1, hm1, ht1⟩
  have hS := HS.out
  have avM : ∀ ts, 189 ∉ ts → Av w [d.M] ts := fun ts h1 => Av.row hS.mx.mgr h1
  have nmM : ∀ {x L}, MapAt w x L → x ∉ [d.M] := fun hm => by simpa using map_cells hm hS.mx.mgr
  have S1 : Sto w1 lw d { s with out := 1 } g :=
    ⟨k1.heap hS.store ((avM [105] (by decide)).ne hS.store (by simp)), k1.heap hS.slot ((avM [166] (by decide)).ne hS.slot (by simp)), hS.text.keep k1 (avM _ (by decide)), hS.dev.keep k1 (avM _ (by decide)),
      hS.mx.chgM k1 (by rw [HQv.out]; exact hm1) rfl rfl rfl rfl rfl rfl rfl, hS.ap, hS.keys, hS.bnd, hS.bndZ, Nat.le_trans hS.slo k1.size, hS.dlo⟩
  have W1 := HW.out.keepA k1 (avM _ (by decide)) (nmM HW.out.buf.2)
  have c1 : Cs lw w w1 := Cs.of_tp (ts := [189]) k1 (fun x hx => by rw [List.mem_singleton] at hx; subst hx; exact ⟨_, _, hS.mx.mgr, by simp⟩) (by decide) (fun x hx => by rw [List.mem_singleton] at hx; subst hx; exact hS.bnd.2.2.2.1)
  have ka : Chg [] w1 (w1.alloc (.cells #[.int .i64 (s.num + 1), .slice (some ⟨gt, 0, none⟩) 1 ct] 129)) := Chg.alloc w1 _
  have A0 := heap_new w1 (.cells #[.int .i64 (s.num + 1), .slice (some ⟨gt, 0, none⟩) 1 ct] 129)
  have S2 := S1.keep ka
  have W2 := W1.keep ka
  have c2 := c1.trans (Cs.of_chg ka)
  have ht2 := ht1.keep ka
  have h6 : 6 < d.Z.length := by have := S2.dev.len; omega
  have hl0 : 0 < (putsL L D).length := by have := HW.out.len0; omega
  have hl16 : (putsL L D).length ≤ 16 := by have := HW.out.len; omega
  have hwr := swrite_log _ (num0 := s.num + 1) S2.store (fun w' k' => load_g w' (k'.heap S2.slot (by simp)) (S2.text.keep k' (Av.nil _ _))) S2.dev ho0 ho1 S2.dlo ht2 hk0 hk1 hcnt (by omega) hl0 hl16 (rise_puts D HW.out.buf.2.nodup) (putsL_in D HW.out.bk) (by rw [hpl]; exact hroom) (by rw [hpl]; exact hpos) h6
  have HWr := Lib.hid hwr
  have q5 : w1.cell? ⟨d.P, 5, none⟩ = some (.pointer (some ⟨d.M, 0, none⟩)) := cell_is S1.store 5 rfl
  have HS2 := Lib.hid S2
  have HW2 := Lib.hid W2
  have HC2 := Lib.hid c2
  have Hpl := Lib.hid hpl
  clear hwr S1 S2 W1 W2 c1 c2 ht1 ht2 hm1 k1 ka hS avM nmM hroom hpos hl0 hl16 HB HD hpl hk0
  go_wp2_with fail
  generalize w1.alloc (.cells #[.int .i64 (s.num + 1), .slice (some ⟨gt, 0, none⟩) 1 ct] 129) = w2 at *
  refine HWr.out.mono ?_
  rintro e w3 ⟨rfl, k3, hP3, v6, hd3⟩
  have S2 := HS2.out
  have tp := S2.wtp.1
  have S3x : Mx w3 d.M d.X d.rx d.B d.rb d.r { s with out := 1 } := S2.mx.keepA k3 (tp.av (by decide)) (tp.map S2.mx.ver.m) (tp.map S2.mx.book.2) (tp.map S2.mx.map)
  have slot3 := k3.heap S2.slot ((tp.av (ts' := [166]) (by decide)).ne S2.slot (by simp))
  have text3 := S2.text.keep k3 (tp.av (by decide))
  have W3 := HW2.out.keepA k3 (tp.av (by decide)) (tp.map HW2.out.buf.2)
  have c3 := HC2.out.trans (Cs.of_tp k3 tp (by decide) S2.wtp.2)
  obtain ⟨cs, hq1, hq2⟩ := W3.q
  have hdn := tdone_ok w3 S3x (show ({ s with out := 1 } : Gs).qv = _ from W3.qv) W3.cq rfl (cell_is hq1 0 hq2) W3.tab W3.tx W3.buf W3.bd W3.bk W3.len0 W3.len S2.ap S2.keys (Nat.le_trans S2.slo k3.size) hlast (by omega) hs W3.book hn0 (by show s.num ≤ _; omega)
  have HDn := Lib.hid hdn
  have r5 : w3.cell? ⟨d.P, 5, none⟩ = some (.pointer (some ⟨d.M, 0, none⟩)) := cell_is hP3 5 rfl
  have HS3 := Lib.hid (And.intro S3x (And.intro slot3 (And.intro text3 (And.intro hP3 hd3))))
  have HW3 := Lib.hid W3
  have HC3 := Lib.hid c3
  clear hdn S2 tp S3x slot3 text3 hP3 hd3 W3 c3 hq1 hq2 k3 HWr HC2 HW2 q5
  go_wp2_with fail
  refine HDn.out.mono ?_
  rintro e w4 ⟨rfl, z, ⟨⟨Lv', hx4, hap4, hk4⟩, hcd, -⟩, o4⟩
  have hF : FlushR w w4 lw d s g k hdl (putsL L D) := by
    obtain ⟨hx3, slot3, text3, hP3, hd3⟩ := HS3.out
    have c4 := HC3.out.trans (Cs.of_cd hcd hx3.mgr HW3.out.tx hx3.ver.x hx3.book.2 hx3.ver.m (by
      have := HS.out.bnd
      exact ⟨this.2.2.2.2.2.2.2.2.2.1, this.2.2.2.1, hT, this.2.2.2.2.2.2.2.1, this.2.2.2.2.1, this.2.2.2.2.2.1⟩))
    obtain ⟨U, kU, hU⟩ := hcd
    have av : ∀ ts : List Nat, (∀ t ∈ ts, t ∉ [189, 202, 253, 262]) → Av w3 U ts := fun ts hts => Cd.av hU hx3.mgr HW3.out.tx hx3.ver.x hx3.book.2 hx3.ver.m hts
    refine ⟨z, Lv', v6, ⟨?_, kU.heap slot3 ((av [166] (by decide)).ne slot3 (by simp)), text3.keep kU (av _ (by decide)), hd3.keep kU (av _ (by decide)), hx4, hap4, hk4, HS.out.bnd, HS.out.bndZ, Nat.le_trans HS.out.slo c4.size, HS.out.dlo⟩, c4, ownsRow_low o4 (Nat.le_trans hlw HC3.out.size)⟩
    exact kU.heap hP3 ((av [105] (by decide)).ne hP3 (by simp))
  have HF := Lib.hid hF
  clear hF hx4 hap4 hk4 hcd o4 HDn HS3 HW3 HC3 r5
  go_wp2_with fail
  go_ret
  exact ⟨rfl, HF.out⟩
end Go.Proofs.YtkhionhicegfmaaGreat
