/- Lemmas and walks: Walks: versions that are no newer than a time: nothing was written behind it. Walks: a transaction is checked, and may be committed, where all versions are no newer than its time and nothing waits. Walks: a store's Begin and Commit, in general. Walks: a store's batch of one transaction is flushed, and what became of the transaction. The state of a store on a device that has read blocks; its begin, commit and flush. Printed by mkRp.py. Walks: what a crash leaves of a device whose blocks are all for good (zdev.Crash). Walks: a new world of law 26, with all that its store holds. Walks: a new world of law 24. Walks: one transaction of a new store: begun, written, committed, flushed. Walks: what law 24 asks of the store beside each statement (scarplaw24.awake). Walks: a store's last time; what became of a transaction. Walks: a device is mounted again and again: the store behind i batches, its next transaction, the crash. -/
import Derived.Maps.RangeRun
import Derived.Deep.RegionHeld3
import Derived.Test.YtkhionhicegfmaaGreatDd
import Derived.Test.YtkhionhicegfmaaGreatDe
import Derived.Test.YtkhionhicegfmaaGreatDf
import Derived.Test.YtkhionhicegfmaaGreatDg
import Derived.Test.YtkhionhicegfmaaGreatDh
import Derived.Test.YtkhionhicegfmaaGreatDj
namespace Go.Proofs.YtkhionhicegfmaaGreat
open Go.RowKit Go.Lib

theorem getL_of_mem {L : List (Int × Value)} (hn : (L.map Prod.fst).Nodup) {p : Int × Value} (hp : p ∈ L) : getL L p.1 = some p.2 := by
  induction L with
  | nil => cases hp
  | cons a l ih =>
    rw [List.map_cons, List.nodup_cons] at hn
    simp only [getL]
    rcases List.mem_cons.1 hp with rfl | h
    · rw [if_pos rfl]
    · rw [if_neg (fun e => hn.1 (by rw [← e]; exact List.mem_map.2 ⟨p, h, rfl⟩))]
      exact ih hn.2 h
/-- a map's entries, one by one. -/
theorem MapAt.entries {w : World} {r : Nat} {L : List (Int × Value)} (h : MapAt w r L) : ∃ es clock, w.heap[r]? = some (.map es clock) ∧ MapKept.Stamped es clock ∧ ∀ e ∈ es.toList, ∃ k, e.key = .int .i64 k ∧ (k, e.val) ∈ L ∧ getL L k = some e.val := by
  have hn := h.nodup
  obtain ⟨es, clock, hb, hI, hS⟩ := h
  refine ⟨es, clock, hb, hS, fun e he => ?_⟩
  have h1 : (e.key, e.val) ∈ es.toList.map (fun e => (e.key, e.val)) := List.mem_map.2 ⟨e, he, rfl⟩
  rw [hI] at h1
  obtain ⟨p, hp, e1⟩ := List.mem_map.1 h1
  have e2 : e.key = .int .i64 p.1 := (congrArg Prod.fst e1).symm
  have e3 : e.val = p.2 := (congrArg Prod.snd e1).symm
  exact ⟨p.1, e2, by rw [e3]; exact hp, by rw [e3]; exact getL_of_mem hn hp⟩
/-- all versions are no newer than a time; the map's keys are blocks. -/
def OldV (L : List (Int × Value)) (vs : Int → List (Int × List UInt8)) (t : Int) : Prop := (∀ p ∈ L, 0 ≤ p.1 ∧ p.1 < 258) ∧ ∀ b, ∀ x ∈ vs b, x.1 ≤ t
set_option maxRecDepth 100000 in
set_option maxHeartbeats 1000000 in
theorem written_old (w : World) {lo X rx : Nat} {last : Int} {L : List (Int × Value)} {vs : Int → List (Int × List UInt8)} (h : VerG w lo X rx last L vs) (b n t : Int) (ho : OldV L vs t) : Calls Tryz.prog 188 #[.pointer (some ⟨X, 0, none⟩), .agg #[.int .i64 b, .int .i64 n], .int .i64 t] w fun e w' => e = .returned (.bool false) ∧ Chg [] w w' := by
  have kA : Chg [] w (w.alloc (.cells #[.int .i64 b, .int .i64 n] 285)) := Chg.alloc w _
  have A0 := heap_new w (.cells #[.int .i64 b, .int .i64 n] 285)
  have h2 := h.keep kA
  have x0 : (w.alloc (.cells #[.int .i64 b, .int .i64 n] 285)).cell? ⟨X, 0, none⟩ = some (.int .i64 258) := cell_is h2.x 0 rfl
  have x1 : (w.alloc (.cells #[.int .i64 b, .int .i64 n] 285)).cell? ⟨X, 1, none⟩ = some (.map (some rx)) := cell_is h2.x 1 rfl
  have a0 : (w.alloc (.cells #[.int .i64 b, .int .i64 n] 285)).cell? ⟨w.heap.size, 0, none⟩ = some (.int .i64 b) := cell_is A0 0 rfl
  have a1 : (w.alloc (.cells #[.int .i64 b, .int .i64 n] 285)).cell? ⟨w.heap.size, 1, none⟩ = some (.int .i64 n) := cell_is A0 1 rfl
  have HG := Lib.hid (xgone_any _ x0)
  have H2 := Lib.hid h2
  clear h h2 A0
  go_enter Tryz.func188, Tryz.ntmps188
  go_upto_region 1 with fail
  generalize w.alloc (.cells #[.int .i64 b, .int .i64 n] 285) = w1 at *
  generalize hz : w.heap.size = z at *
  go_cut [38] from 7 (fun v wx => (∃ r : Bool, v = .bool r) ∧ wx = w1)
  case first =>
    go_wp2_with fail
    refine HG.out.mono ?_
    rintro e w2 ⟨rfl, rfl⟩
    go_wp2_with fail
    all_goals
      go_meet
      exact ⟨⟨_, rfl⟩, rfl⟩
  case rest =>
    obtain ⟨⟨r, rfl⟩, rfl⟩ := hcut
    rename World => wd
    cases r
    · obtain ⟨es, clock, hm, hst, hen⟩ := H2.out.m.entries
      have hr1 := run_range_map (P := Tryz.prog) wd 251 3 260 rx es clock (by kernel_rfl) hm
      have HE := Lib.hid hen
      have HO := Lib.hid ho
      clear hen ho
      have kR : Chg [] wd (wd.alloc (.mapIter (some rx) clock #[] clock)) := Chg.alloc wd _
      have R0 := heap_new wd (.mapIter (some rx) clock #[] clock)
      go_wp2_with fail
      generalize hzR : wd.heap.size = R at *
      generalize wd.alloc (.mapIter (some rx) clock #[] clock) = w3 at *
      go_loopw [7, 8] (fun _ _ wr => ∃ seen, wr.heap[R]? = some (.mapIter (some rx) clock seen clock) ∧ Chg [] wd wr) (fun _ _ wr => (leftOf es (wr.iterSeen R)).size)
      case atStart => exact ⟨#[], R0, kR⟩
      case round =>
        obtain ⟨seen, hR, kr⟩ := hrel
        have hb1 : wr.heap[rx]? = some (.map es clock) := kr.heap hm (by simp)
        rcases run_next_at (P := Tryz.prog) wr 0 R rx clock clock seen es clock hR hb1 hst.1 (Nat.le_refl _) with ⟨h0, hrun⟩ | ⟨e, he, w2, hal2, hrun⟩
        · have hnx : ∀ ty, (Instr.next (.pointer (some ⟨R, 0, none⟩)) false ty).run Tryz.prog wr = _ := fun _ => hrun
          have kF : Chg [] w wr := kA.then kr
          go_wp2_with fail
          go_ret
          exact ⟨rfl, kF⟩
        · obtain ⟨k, hk, hL, hget⟩ := HE.out e (mem_left he).1
          obtain ⟨hk0, hk1⟩ := HO.out.1 _ hL
          have hk0' : 0 ≤ k := hk0
          have hk1' : k < 258 := hk1
          obtain ⟨v, hv, hrow, hne⟩ : ∃ v, e.val = v ∧ VRow wd lo v (vs k) ∧ vs k ≠ [] := by
            rcases H2.out.row k hk0' hk1' with ⟨e1, _⟩ | ⟨v, e1, e2, e3⟩
            · rw [hget] at e1; cases e1
            · rw [hget] at e1; cases e1; exact ⟨_, rfl, e2, e3⟩
          have h5 : ∃ w5, w5 = Go.ChangeMaps.setBlock w2 R (.mapIter (some rx) clock (seen.push e.born) clock) ∧ w5.heap[R]? = some (.mapIter (some rx) clock (seen.push e.born) clock) ∧ Chg [] wd w5 := by
            refine ⟨_, rfl, ?_, ?_⟩
            · have hl : R < w2.heap.size := by rcases hal2 with rfl | rfl <;> exact heap_lt hR
              simp [Go.ChangeMaps.setBlock, hl]
            · have kk : Chg [] wd w2 := by rcases hal2 with e | e <;> rw [e]; exact kr; exact kr.drew
              refine kk.trans (T := [R]) ⟨rfl, rfl, rfl, by simp [Go.ChangeMaps.setBlock], fun q _ hq => ?_⟩ (fun x hx hlt => by rw [List.mem_singleton] at hx; omega)
              have : R ≠ q := by intro e; exact hq (by rw [e]; simp)
              simp [Go.ChangeMaps.setBlock, this]
          obtain ⟨w5, e5, hR5, k5⟩ := h5
          rw [← e5] at hrun
          have hen := run_entry_at (P := Tryz.prog) w5 R rx clock seen es clock e hR5 (k5.heap hm (by simp)) (mem_left he).1 hst.2.1
          have HM := Lib.hid (left_shrinks es seen e he)
          obtain ⟨j, hj⟩ : ∃ j, (vs k).length = j + 1 := ⟨(vs k).length - 1, by have := List.length_pos_iff.2 hne; omega⟩
          obtain ⟨g, cap, gd, cd, rfl, hcap, d0, -, -, -, -⟩ := hrow.get j (by omega)
          have hsm := H2.out.small k
          have hold : ((vs k)[j]'(by omega)).1 ≤ t := HO.out.2 k _ (List.getElem_mem _)
          have d5 := k5.cell d0 (by simp)
          have y0 := k5.cell a0 (by simp)
          have y1 := k5.cell a1 (by simp)
          rw [hk, hv, hj] at hrun hen
          rw [hj] at hcap
          have kz : Chg [] w w5 := kA.then k5
          have hnx : ∀ ty, (Instr.next (.pointer (some ⟨R, 0, none⟩)) false ty).run Tryz.prog wr = _ := fun _ => hrun
          clear d0 hrow hL hget hk hv hne hal2 kr hb1 hrun e5
          generalize ((vs k)[j]'(by omega)).1 = tl at *
          go_upto_region 6 with fail
          have ej : wrap64 (((j + 1 : Nat) : Int) - 1) = j := by unfold wrap64; omega
          go_cut [72] from 44 (fun v wx => v = .bool false ∧ wx = w5)
          case first =>
            have hl1 : j < j + 1 := by omega
            have htl : decide (tl > t) = false := decide_eq_false (by omega)
            go_wp2_with fail
            all_goals
              go_meet
              exact ⟨by simp, rfl⟩
          case rest =>
            obtain ⟨rfl, rfl⟩ := hcut
            go_wp2_with fail
            go_roundw
            case rel => exact ⟨_, hR5, k5⟩
            case measure => simp only [World.iterSeen, hR5, hR]; exact HM.out
    · go_wp2_with fail
      go_ret
      exact ⟨rfl, kA⟩
end Go.Proofs.YtkhionhicegfmaaGreat
namespace Go.Proofs.YtkhionhicegfmaaGreat
open Go.RowKit Go.Lib

set_option maxRecDepth 100000 in
set_option maxHeartbeats 4000000 in
theorem check_old (w : World) {lo X rx lo1 U1 m1 n1 lo2 U2 m2 n2 cq : Nat} {pq : Option Addr} {last t : Int} {Lv : List (Int × Value)} {vs : Int → List (Int × List UInt8)} (h : VerG w lo X rx last Lv vs) (ho : OldV Lv vs t) (hr : SpW w lo1 U1 m1 n1) (hw : SpW w lo2 U2 m2 n2) (hn1 : n1 ≤ 1000) (hn2 : n2 ≤ 1000) :
    Calls Tryz.prog 165 #[.pointer (some ⟨X, 0, none⟩), .slice pq 0 cq, .int .i64 t, .pointer (some ⟨U1, 0, none⟩), .pointer (some ⟨U2, 0, none⟩)] w fun e w' => e = .returned (.int .i64 0) ∧ Chg [] w w' := by
  have HC := Lib.hid (count_any w hw hn2)
  have HV := Lib.hid h
  have HOl := Lib.hid ho
  have HR := Lib.hid hr
  have HW := Lib.hid hw
  clear h ho hr hw
  go_enter Tryz.func165, Tryz.ntmps165
  go_wp2_with fail
  go_step3
  go_wp2_with fail
  refine HC.out.mono ?_
  rintro e w1 ⟨⟨r, rfl⟩, k1⟩
  by_cases hr0 : r = 0
  · subst hr0
    go_wp2_with fail
    simp only [Exit.noGoto]
    go_ret
    exact ⟨rfl, k1⟩
  · go_wp2_with fail
    go_step3
    go_wp2_with fail
    have hrb : (r == 0) = false := by simpa using hr0
    rw [hrb]
    have hi0 : ∀ w, (Instr.index 297 (.agg #[.pointer (some ⟨U1, 0, none⟩), .pointer (some ⟨U2, 0, none⟩)]) (.int .i64 ((0 : Nat) : Int))).run Tryz.prog w = .ok (.pointer (some ⟨U1, 0, none⟩)) w := fun w => by kernel_rfl
    have hi1 : ∀ w, (Instr.index 297 (.agg #[.pointer (some ⟨U1, 0, none⟩), .pointer (some ⟨U2, 0, none⟩)]) (.int .i64 ((1 : Nat) : Int))).run Tryz.prog w = .ok (.pointer (some ⟨U2, 0, none⟩)) w := fun w => by kernel_rfl
    go_loopw [11, 13, 15, 17, 24] (fun e _ _ _ i wr => ∃ j : Nat, j ≤ 2 ∧ i = .int .i64 j ∧ e = .int .i64 0 ∧ Chg [] w1 wr) (fun _ _ _ _ i _ => 2 - (intOf i).toNat)
    case atStart => exact ⟨0, by omega, rfl, rfl, Chg.refl _ _⟩
    case round =>
      obtain ⟨j, hj, rfl, rfl, kr⟩ := hrel
      by_cases hj2 : j < 2
      · obtain ⟨U, lo3, m3, n3, hi, hS, hn3⟩ : ∃ U lo3 m3 n3, (∀ w, (Instr.index 297 (.agg #[.pointer (some ⟨U1, 0, none⟩), .pointer (some ⟨U2, 0, none⟩)]) (.int .i64 (j : Int))).run Tryz.prog w = .ok (.pointer (some ⟨U, 0, none⟩)) w) ∧ SpW wr lo3 U m3 n3 ∧ n3 ≤ 1000 := by
          have kk := k1.then kr
          rcases (show j = 0 ∨ j = 1 by omega) with rfl | rfl
          · exact ⟨U1, _, _, _, hi0, HR.out.keep0 kk, hn1⟩
          · exact ⟨U2, _, _, _, hi1, HW.out.keep0 kk, hn2⟩
        have HE := Lib.hid (extents_any wr hS hn3)
        clear hi0 hi1 hS
        go_wp2_with fail
        refine HE.out.mono ?_
        rintro e w2 ⟨pb, m, cb, l, rfl, k2, hq, hl, hm⟩
        have HQ := Lib.hid hq
        clear hq
        go_wp2_with fail
        go_loopw [11, 15, 30] (fun e _ i wz => ∃ q : Nat, q ≤ m ∧ i = .int .i64 q ∧ e = .int .i64 0 ∧ Chg [] w2 wz) (fun _ _ i _ => m - (intOf i).toNat)
        case atStart => exact ⟨0, by omega, rfl, rfl, Chg.refl _ _⟩
        case round =>
          obtain ⟨q, hq, rfl, rfl, kz⟩ := hrel
          rename World => wz
          have kk : Chg [] w1 wz := (kr.then k2).then kz
          by_cases hqm : q < m
          · obtain ⟨b, o, rfl, c0, c1⟩ := (HQ.out.keep kz).get q (by omega)
            generalize (l[q]'(by omega)).1 = x at *
            generalize (l[q]'(by omega)).2 = y at *
            have ka : Chg [] wz (wz.alloc (.cells #[.int .i64 x, .int .i64 y] 285)) := Chg.alloc wz _
            have HWr := Lib.hid (written_old (wz.alloc (.cells #[.int .i64 x, .int .i64 y] 285)) (HV.out.keep ((k1.then kk).then ka)) x y t HOl.out)
            go_wp2_with fail
            refine HWr.out.mono ?_
            rintro e w5 ⟨rfl, k5⟩
            go_wp2_with fail
            go_roundw
            case rel => exact ⟨q + 1, by omega, by simp, rfl, (kz.then ka).then k5⟩
            case measure => simp [intOf]; omega
          · obtain rfl : q = m := by omega
            go_wp2_with fail
            go_loopw [11, 17, 41] (fun e _ i wy => i = .int .i64 0 ∧ e = .int .i64 0 ∧ wy = wz) (fun _ _ _ _ => 0)
            case atStart => exact ⟨rfl, rfl, rfl⟩
            case round =>
              obtain ⟨rfl, rfl, rfl⟩ := hrel
              go_wp2_with fail
              go_roundw
              case rel => exact ⟨j + 1, by omega, by simp, rfl, kk⟩
              case measure => simp [intOf]; omega
      · obtain rfl : j = 2 := by omega
        go_wp2_with fail
        simp only [Exit.noGoto]
        go_ret
        exact ⟨rfl, k1.then kr⟩
set_option maxRecDepth 100000 in
set_option maxHeartbeats 4000000 in
theorem may_old (w : World) {M X B r cq lo rx T W rw Q V n base : Nat} {pq : Option Addr} {out num bas last given lastv t : Int} {Lv : List (Int × Value)} {vs : Int → List (Int × List UInt8)} {L : List (Int × Value)} {D : Int → List UInt8}
    (h : MgrG w M X B r (.slice pq 0 cq) out num bas last given false) (hg : given < 1099511627776) (hv : VerG w lo X rx lastv Lv vs) (ho : OldV Lv vs t) (hT : TxT w T W Q t) (hb : BufAt w W rw L) (hD : BufD w L D) (hk : ∀ x ∈ L, 0 ≤ x.1 ∧ x.1 < 258) (hl : L.length ≤ 12)
    (hV : VwT w base Q X W V t n) (hS : SpV w base V n) (hn : n ≤ 12) : Calls Tryz.prog 119 #[.pointer (some ⟨M, 0, none⟩), .pointer (some ⟨T, 0, none⟩)] w fun e w' => e = .returned (.int .i64 0) ∧ Chg [] w w' := by
  have m9 : w.cell? ⟨M, 9, none⟩ = some (.bool false) := cell_is h 9 rfl
  have m0 : w.cell? ⟨M, 0, none⟩ = some (.pointer (some ⟨X, 0, none⟩)) := cell_is h 0 rfl
  have m8 : w.cell? ⟨M, 8, none⟩ = some (.int .i64 given) := cell_is h 8 rfl
  have t3 : w.cell? ⟨T, 3, none⟩ = some (.int .i64 t) := cell_is hT 3 rfl
  have t4 : w.cell? ⟨T, 4, none⟩ = some (.pointer (some ⟨W, 0, none⟩)) := cell_is hT 4 rfl
  have t5 : w.cell? ⟨T, 5, none⟩ = some (.pointer (some ⟨Q, 0, none⟩)) := cell_is hT 5 rfl
  have kd : Chg [] w w.drew := (Chg.refl [] w).drew
  have HW := Lib.hid (waiting_none w.drew (kd.heap h (by simp)))
  have HV := Lib.hid (vset_any w.drew (hV.keep kd (Av.nil _ _)) (hS.keep0 kd) hn)
  have hS2 : ∀ wx, Chg [] w wx → wx.cell? ⟨M, 0, none⟩ = some (.pointer (some ⟨X, 0, none⟩)) ∧ wx.cell? ⟨T, 3, none⟩ = some (.int .i64 t) ∧ wx.cell? ⟨T, 4, none⟩ = some (.pointer (some ⟨W, 0, none⟩)) ∧ wx.cell? ⟨T, 5, none⟩ = some (.pointer (some ⟨Q, 0, none⟩)) :=
    fun wx k => ⟨k.cell m0 (by simp), k.cell t3 (by simp), k.cell t4 (by simp), k.cell t5 (by simp)⟩
  have HS2 := Lib.hid hS2
  have HBf := Lib.hid hb
  have HD := Lib.hid hD
  have HK := Lib.hid hk
  have HVr := Lib.hid hv
  have HOl := Lib.hid ho
  clear h hT hb hD hk hV hS hv ho hS2
  go_enter Tryz.func119, Tryz.ntmps119
  go_upto_region 3 with fail
  go_region_held3 (fun wx => wx.cell? ⟨M, 0, none⟩ = some (.pointer (some ⟨X, 0, none⟩)) ∧ wx.cell? ⟨T, 3, none⟩ = some (.int .i64 t) ∧ wx.cell? ⟨T, 4, none⟩ = some (.pointer (some ⟨W, 0, none⟩)) ∧ wx.cell? ⟨T, 5, none⟩ = some (.pointer (some ⟨Q, 0, none⟩)))
    (first
      | (with_reducible exact HS2.out _ kF) | (with_reducible exact HS2.out _ k3) | (with_reducible exact HS2.out _ k2) | (exact HS2.out _ kd))
    (first
      | (go_at_call 120; refine HW.out.mono ?_; rintro e w1 ⟨rfl, rfl⟩)
      | (go_at_call 166; refine HV.out.mono ?_; rintro e w2 ⟨U, loU, rfl, k2', hU, lU⟩; have k2 := kd.then k2')
      | (go_at_call 167; refine (bset_any w2 (HBf.out.keep k2 (by simp) (by simp)) (HD.out.keep k2) HK.out hl).mono ?_; rintro e w3 ⟨U2, loU2, most, rfl, k3', hU2, lU2⟩; have k3 := k2.then k3'; have hU3 := hU.keep0 k3')
      | (go_at_call 165; refine (check_old w3 (HVr.out.keep k3) HOl.out hU3 hU2 (by omega) (by omega)).mono ?_; rintro e w4 ⟨rfl, k4⟩; have kF := k3.then k4))
  all_goals
    have m84 := kF.cell m8 (by simp)
    have hng : ¬ (given ≥ 1099511627776) := by omega
    clear HW HV HS2 HBf HD HK HVr HOl hU hU2 hU3
    go_wp2_with fail
    go_ret
    exact ⟨rfl, kF⟩
set_option maxRecDepth 100000 in
set_option maxHeartbeats 4000000 in
theorem tcommit_old (w : World) {d : Ids} {p : Par} {cq n base loq : Nat} {pq : Option Addr} {out num bas last given : Int} {L : List (Int × Value)} {D : Int → List UInt8}
    (hN : Need w d p) (hv0 : OldV p.Lv p.vs p.t) (h : MgrG w d.M d.X d.B d.r (.slice pq 0 cq) out num bas last given false) (hg0 : 0 ≤ given) (hg : given < 1099511627776) (hq : w.ownsRow loq 3 1 (.slice pq 0 cq) 0 []) (hlq : loq ≤ w.heap.size) (hT : TxT w d.T d.W d.Q p.t) (hb : BufAt w d.W d.rw L) (hD : BufD w L D) (hk : ∀ x ∈ L, 0 ≤ x.1 ∧ x.1 < 258) (hl : L.length ≤ 12) (hl0 : 0 < L.length)
    (hV : VwT w base d.Q d.X d.W d.V p.t n) (hS : SpV w base d.V n) (hn : n ≤ 12) : Calls Tryz.prog 64 #[.pointer (some ⟨d.M, 0, none⟩), .int .i64 p.h] w fun e w' =>
    ∃ g c, e = .returned (.int .i64 0) ∧ Chg (d.M :: d.T :: (Value.slice pq 0 cq).ownBlock.toList) w w' ∧ MgrG w' d.M d.X d.B d.r (.slice (some ⟨g, 0, none⟩) 1 c) out num bas last (given + 1) false ∧ w'.ownsRow loq 3 1 (.slice (some ⟨g, 0, none⟩) 1 c) 1 [.int .i64 p.h] ∧ TxW w' d.T d.W d.Q (given + 1) p.t := by
  have HO := Lib.hid (topen_gen w hN hT)
  have t4 : w.cell? ⟨d.T, 4, none⟩ = some (.pointer (some ⟨d.W, 0, none⟩)) := cell_is hT 4 rfl
  have HLn := Lib.hid (blen_any w hb hD hk (by omega))
  have hver := hN.ver
  have HMy := Lib.hid (fun w1 (k : Chg [] w w1) => may_old w1 (k.heap h (by simp)) hg (hver.keep k) hv0 (k.heap hT (by simp)) (hb.keep k (by simp) (by simp)) (hD.keep k) hk hl (hV.keep k (Av.nil _ _)) (hS.keep0 k) hn)
  have hMT : d.M ≠ d.T := heap_ne h hT (by simp)
  have HM := Lib.hid h
  have HT := Lib.hid hT
  have HQ := Lib.hid hq
  have hl0i : ¬ (L.length : Int) = 0 := by omega
  have HL0 := Lib.hid hl0i
  clear hN hb hD hV hS hver h hT hq
  go_enter Tryz.func64, Tryz.ntmps64
  go_wp2_with fail
  refine HO.out.mono ?_
  rintro e w1 ⟨rfl, rfl⟩
  go_wp2_with fail
  refine HLn.out.mono ?_
  rintro e w1 ⟨rfl, k1⟩
  go_wp2_with fail
  refine (HMy.out w1 k1).mono ?_
  rintro e w2 ⟨rfl, k2'⟩
  have k2 := k1.then k2'
  have hM2 := k2.heap HM.out (by simp)
  have hT2 := k2.heap HT.out (by simp)
  have hq2 := ownsRow_av HQ.out k2 (Av.nil _ _)
  have hs2 := k2.size
  have m8 : w2.cell? ⟨d.M, 8, none⟩ = some (.int .i64 given) := cell_is hM2 8 rfl
  have f8 := unfrozen hM2 8
  have m3 : w2.cell? ⟨d.M, 3, none⟩ = some (.slice pq 0 cq) := cell_is hM2 3 rfl
  have f3 := unfrozen hM2 3
  have t0 : w2.cell? ⟨d.T, 0, none⟩ = some (.int .i64 1) := cell_is hT2 0 rfl
  have t1 : w2.cell? ⟨d.T, 1, none⟩ = some (.int .i64 0) := cell_is hT2 1 rfl
  have ft0 := unfrozen hT2 0
  have ft1 := unfrozen hT2 1
  have hgw : wrap64 (given + 1) = given + 1 := by unfold wrap64; omega
  have kS := ((((Chg.refl [] w2).mono (T := [d.M, d.T]) (fun x hx _ => by cases hx)).then_set (g := d.M) (fun _ => by simp) 8 (.int .i64 (given + 1))).then_set (g := d.T) (fun _ => by simp) 0 (.int .i64 2)).then_set (g := d.T) (fun _ => by simp) 1 (.int .i64 (given + 1))
  have hMS : MgrG (((w2.setCell ⟨d.M, 8, none⟩ (.int .i64 (given + 1))).setCell ⟨d.T, 0, none⟩ (.int .i64 2)).setCell ⟨d.T, 1, none⟩ (.int .i64 (given + 1))) d.M d.X d.B d.r (.slice pq 0 cq) out num bas last (given + 1) false :=
    heap_set_ne (heap_set_ne (heap_set hM2 8 _ rfl) hMT _ _) hMT _ _
  have hTS : TxW (((w2.setCell ⟨d.M, 8, none⟩ (.int .i64 (given + 1))).setCell ⟨d.T, 0, none⟩ (.int .i64 2)).setCell ⟨d.T, 1, none⟩ (.int .i64 (given + 1))) d.T d.W d.Q (given + 1) p.t :=
    heap_set (heap_set (heap_set_ne hT2 hMT.symm _ _) 0 _ rfl) 1 _ rfl
  have avS : Av w2 [d.M, d.T] [3] := fun x hx cs t fr hh => by
    simp at hx
    rcases hx with rfl | rfl
    · rw [show w2.heap[d.M]? = _ from hM2] at hh; cases hh; simp
    · rw [show w2.heap[d.T]? = _ from hT2] at hh; cases hh; simp
  have hqS := ownsRow_av hq2 kS avS
  clear HMy HLn HO k1 k2' t4
  go_upto_region 14 with fail
  have hsS : loq ≤ (((w2.setCell ⟨d.M, 8, none⟩ (.int .i64 (given + 1))).setCell ⟨d.T, 0, none⟩ (.int .i64 2)).setCell ⟨d.T, 1, none⟩ (.int .i64 (given + 1))).heap.size := by have := kS.size; omega
  clear m8 f8 m3 f3 t0 t1 ft0 ft1 avS hq2
  generalize ((w2.setCell ⟨d.M, 8, none⟩ (.int .i64 (given + 1))).setCell ⟨d.T, 0, none⟩ (.int .i64 2)).setCell ⟨d.T, 1, none⟩ (.int .i64 (given + 1)) = wS at *
  have m3 : wS.cell? ⟨d.M, 3, none⟩ = some (.slice pq 0 cq) := cell_is hMS 3 rfl
  go_wp2_with (at_builtin; refine wpList_append_lit rfl (.tmp 59) (.tmp 61) 22 3 rfl ty62 inf3 rfl (by decide) loq wS [.int .i64 p.h] 1 rfl (.slice pq 0 cq) 0 [] rfl hqS (by omega) (by decide) hsS (k := 0) rfl (by simp [Value.oneCell']) rfl 1 rfl ?_; intro v' w4 hap; obtain ⟨g4, c4, rfl⟩ := own_some hap.1 (by decide); have k4 : Chg (Value.slice pq 0 cq).ownBlock.toList wS w4 := Chg.own hap.2.2 (fun g hg _ => by have hg2 : (Value.slice pq 0 cq).ownBlock = some g := hg; simp [hg2]); have hM4 := k4.heap hMS (own_block_ne hqS hMS (by decide)); have m34 := cell_is hM4 3 rfl; have f34 := unfrozen hM4 3)
  have hT4 := k4.heap hTS (own_block_ne hqS hTS (by decide))
  have hset := Chg.set w4 d.M 3 (.slice (some ⟨g4, 0, none⟩) (0 + 1) c4)
  have hq4 := ownsRow_av hap.1 hset (Av.row hM4 (by decide))
  go_ret
  refine ⟨g4, c4, rfl, ?_, heap_set hM4 3 _ rfl, hq4, heap_set_ne hT4 hMT.symm _ _⟩
  refine (((k2.mono (fun x hx _ => by cases hx)).then (kS.mono ?_)).then (k4.mono ?_)).then (hset.mono ?_)
  · intro x hx _; simp only [List.mem_cons, List.not_mem_nil, or_false] at hx; rcases hx with rfl | rfl <;> simp
  · intro x hx _; exact List.mem_cons_of_mem _ (List.mem_cons_of_mem _ hx)
  · intro x hx _; rw [List.mem_singleton] at hx; subst hx; exact List.mem_cons_self
end Go.Proofs.YtkhionhicegfmaaGreat
namespace Go.Proofs.YtkhionhicegfmaaGreat
open Go.RowKit Go.Lib

/-- the manager behind a Begin. -/
def begS (s : Gs) (T : Nat) : Gs := { s with bl := s.bl + 1, Lb := [(s.bl + 1, .int .i64 s.last)], Lr := putL s.Lr (s.bl + 1) (.pointer (some ⟨T, 0, none⟩)) }
/-- a transaction that has begun. -/
def begP (s : Gs) : Par := ⟨s.bl + 1, s.last, s.lo, s.lastv, s.Lv, s.vs⟩
/-- a store about its transaction. -/
def StoF (lw : Nat) (d : Ids) (s : Gs) (g : Gd) (w : World) : Prop := Sto w lw d s g
theorem fr_sto {lw base : Nat} {d : Ids} {s : Gs} {g : Gd} {p : Par} (hl : d.rx < base ∧ d.rb < base ∧ d.r < base) (hg : getL s.Lr p.h = some (.pointer (some ⟨d.T, 0, none⟩))) (e1 : p.lo = s.lo) (e2 : p.last = s.lastv) (e3 : p.Lv = s.Lv) (e4 : p.vs = s.vs) : Fr base d p (StoF lw d s g) := by
  refine ⟨fun w h => ?_, fun a b ho h => ?_⟩
  · have h' : Sto w lw d s g := h
    exact ⟨cell_is h'.store 0 rfl, cell_is h'.store 5 rfl, cell_is h'.store 9 rfl, ⟨_, _, h'.dev.hdr⟩, h'.mx.cells.1, h'.mx.cells.2.2.1, ⟨_, h'.mx.map, hg⟩, by rw [e1, e2, e3, e4]; exact h'.mx.ver⟩
  · have h' : Sto a lw d s g := h
    obtain ⟨T, h1, h2⟩ := ho
    refine h'.keepA h1 (fun x hx cs t fr hh ht => ?_) (fun hm => ?_) (fun hm => ?_) (fun hm => ?_)
    · rcases (h2 x hx).2 cs t fr hh with rfl | rfl | rfl <;> simp at ht
    · have := (h2 _ hm).1; omega
    · have := (h2 _ hm).1; omega
    · have := (h2 _ hm).1; omega
/-- what a store's Begin leaves. -/
def BegT (w w' : World) (lw : Nat) (d : Ids) (s : Gs) (g : Gd) : Prop := ∃ T W rw Q V, Cs lw w w' ∧ w.heap.size ≤ T ∧
  Su w' w.heap.size { d with T := T, W := W, rw := rw, Q := Q, V := V } (begP s) (StoF lw { d with T := T, W := W, rw := rw, Q := Q, V := V } (begS s T) g) (fun b => bytT (s.vs b) s.last) [] 0
set_option maxRecDepth 100000 in
theorem sbegin_gen (w : World) {lw : Nat} {d : Ids} {s : Gs} {g : Gd} (h : Sto w lw d s g) (hLb : s.Lb = []) (h0 : 0 ≤ s.last) (h1 : s.last ≤ 1099511627776) (hb0 : 0 ≤ s.bl) (hb1 : s.bl ≤ 1000000) :
    Calls Tryz.prog 16 #[.pointer (some ⟨d.P, 0, none⟩)] w fun e w' => e = .returned (.tuple #[.int .i64 (s.bl + 1), .int .i64 0]) ∧ BegT w w' lw d s g := by
  have HD := Lib.hid (dead_g w h.store)
  have p5 : w.cell? ⟨d.P, 5, none⟩ = some (.pointer (some ⟨d.M, 0, none⟩)) := cell_is h.store 5 rfl
  have HB := Lib.hid (tbegin_gen w h.mx hLb h0 h1 hb0 hb1)
  have HS := Lib.hid h
  clear h hLb h0 h1 hb0 hb1
  go_enter Tryz.func16, Tryz.ntmps16
  go_wp2_with fail
  refine HD.out.mono ?_
  rintro e w1 ⟨rfl, rfl⟩
  go_wp2_with fail
  refine HB.out.mono ?_
  rintro e w1 ⟨rfl, T, W, rw, Q, V, k1, hx, hT, hb, hv, hs, n1, n2, n3, b1, b2, b3, b4, b5⟩
  have hF : BegT w w1 lw d s g := by
    have hS := HS.out
    have avB : Av w [d.B, d.rb, d.r] [105, 166, 5, 93, 94, 97, 40] := fun x hx cs t fr hh => by
      simp at hx
      rcases hx with rfl | rfl | rfl
      · rw [hS.mx.book.1] at hh; cases hh; simp
      · exact absurd rfl (map_cells hS.mx.book.2 hh)
      · exact absurd rfl (map_cells hS.mx.map hh)
    have sub : ∀ ts : List Nat, (∀ t ∈ ts, t ∈ [105, 166, 5, 93, 94, 97, 40]) → Av w [d.B, d.rb, d.r] ts := fun ts hts x hx cs t fr hh ht => avB x hx cs t fr hh (hts t ht)
    have hSto : Sto w1 lw { d with T := T, W := W, rw := rw, Q := Q, V := V } (begS s T) g :=
      ⟨k1.heap hS.store (avB.ne hS.store (by simp)), k1.heap hS.slot (avB.ne hS.slot (by simp)), hS.text.keep k1 (sub _ (by decide)), hS.dev.keep k1 (sub _ (by decide)), hx, hS.ap, hS.keys, hS.bnd, hS.bndZ, Nat.le_trans hS.slo k1.size, hS.dlo⟩
    refine ⟨T, W, rw, Q, V, ⟨[d.B, d.rb, d.r], k1, fun x hx _ => ?_⟩, b1, hSto, hT, hb, (fun x hx => by cases hx), fun b _ _ => Or.inl ⟨rfl, rfl⟩, ⟨_, 0, [], hv, Nat.le_refl _, World.ownsRow_nil _ _ _ _⟩, ⟨_, [], hs, Nat.le_refl _, World.ownsRow_nil _ _ _ _⟩, b4, b5, b3⟩
    have hbn := hS.bnd
    simp at hx
    rcases hx with rfl | rfl | rfl
    · exact ⟨by omega, fun cs t fr hh => by rw [hS.mx.book.1] at hh; cases hh; simp⟩
    · exact ⟨by omega, fun cs t fr hh => absurd rfl (map_cells hS.mx.book.2 hh)⟩
    · exact ⟨by omega, fun cs t fr hh => absurd rfl (map_cells hS.mx.map hh)⟩
  have HF := Lib.hid hF
  clear hF hx hT hb hv hs k1 b1 b2 b3 b4 b5 n1 n2 n3
  go_wp2_with fail
  go_ret2
  exact ⟨rfl, HF.out⟩
/-- a buffer's entries are what its transaction sees. -/
theorem Su.bufD {w : World} {base : Nat} {d : Ids} {p : Par} {F : World → Prop} {q : Int → List UInt8} {L : List (Int × Value)} {n : Nat} (h : Su w base d p F q L n) : BufD w L q := by
  intro k v hv
  have hk := h.keys (k, v) (getL_memk hv)
  rcases h.blk k hk.1 hk.2 with ⟨e, -⟩ | ⟨g, c, e, h1, h2, h3⟩
  · rw [e] at hv; cases hv
  · rw [e] at hv
    cases hv
    exact ⟨g, c, rfl, h1, h2, h3⟩
/-- the manager behind a Commit. -/
def comS (s : Gs) (g c : Nat) : Gs := { s with qv := .slice (some ⟨g, 0, none⟩) 1 c, given := s.given + 1 }
/-- what a Commit leaves. -/
def ComR (w w' : World) (lw : Nat) (d : Ids) (s : Gs) (g : Gd) (p : Par) (L : List (Int × Value)) (q : Int → List UInt8) (k : Nat) : Prop :=
  ∃ gq cq, Sto w' lw d (comS s gq cq) g ∧ Wtx w' d (comS s gq cq) gq cq p.h k p.t p.t L q ∧ Cs lw w w'
set_option maxRecDepth 100000 in
theorem scommit_sto (w : World) {lw base loq n k : Nat} {d : Ids} {s : Gs} {g : Gd} {p : Par} {q : Int → List UInt8} {L : List (Int × Value)} {pq : Option Addr} {cq : Nat} (hf : Fr base d p (StoF lw d s g)) (h : Su w base d p (StoF lw d s g) q L n) (hqv : s.qv = .slice pq 0 cq) (hq : w.ownsRow loq 3 1 (.slice pq 0 cq) 0 []) (hlq : loq ≤ w.heap.size) (hlw : lw ≤ loq)
    (hrd : s.rd = false) (ho : OldV p.Lv p.vs p.t) (hg : s.given + 1 = (k : Nat)) (hg1 : s.given < 1099511627776) (hg0 : 0 ≤ s.given) (hl : L.length ≤ 12) (hl0 : 0 < L.length) (hn : n ≤ 12) (htab : getL s.Lr p.h = some (.pointer (some ⟨d.T, 0, none⟩))) (hbook : getL s.Lb p.h = some (.int .i64 p.t)) (hT : lw ≤ d.T) :
    Calls Tryz.prog 19 #[.pointer (some ⟨d.P, 0, none⟩), .int .i64 p.h] w fun e w' => e = .returned (.int .i64 0) ∧ ComR w w' lw d s g p L q k := by
  have hS : Sto w lw d s g := h.env
  have hN := hf.need w h.env
  have hm := hS.mx.mgr
  rw [hqv, hrd] at hm
  refine scommit_one w hN ((tcommit_old w hN ho hm hg0 hg1 hq hlq h.tx h.buf h.bufD h.keys hl hl0 h.vw h.sp hn).mono ?_)
  rintro e w' ⟨gq, c, rfl, k1, hm', ho', hT'⟩
  refine ⟨rfl, gq, c, ?_⟩
  have tp : Tp w (d.M :: d.T :: (Value.slice pq 0 cq).ownBlock.toList) [189, 202, 3] := fun x hx => by
    simp only [List.mem_cons] at hx
    rcases hx with rfl | rfl | hx
    · exact ⟨_, _, hm, by simp⟩
    · exact ⟨_, _, h.tx, by simp⟩
    · obtain ⟨-, cs, hh⟩ := own_elem hq (show (Value.slice pq 0 cq).ownBlock = some x by simpa using hx)
      exact ⟨_, _, hh, by simp⟩
  have hbn := hS.bnd
  refine ⟨⟨k1.heap hS.store ((tp.av (ts' := [105]) (by decide)).ne hS.store (by simp)), k1.heap hS.slot ((tp.av (ts' := [166]) (by decide)).ne hS.slot (by simp)), hS.text.keep k1 (tp.av (by decide)), hS.dev.keep k1 (tp.av (by decide)),
    ⟨by show MgrG w' d.M d.X d.B d.r (.slice (some ⟨gq, 0, none⟩) 1 c) s.out s.num s.bas s.last (s.given + 1) s.rd; rw [hrd]; exact hm', hS.mx.ver.keepA k1 (tp.av (by decide)) (tp.map hS.mx.ver.m), ⟨k1.heap hS.mx.book.1 ((tp.av (ts' := [256]) (by decide)).ne hS.mx.book.1 (by simp)), hS.mx.book.2.keep k1 (tp.map hS.mx.book.2)⟩, hS.mx.map.keep k1 (tp.map hS.mx.map), hS.mx.n1, hS.mx.n2, hS.mx.n3⟩, hS.ap, hS.keys, hS.bnd, hS.bndZ, Nat.le_trans hS.slo k1.size, hS.dlo⟩, ?_, Cs.of_tp k1 tp (by decide) (fun x hx => ?_)⟩
  · refine ⟨rfl, ?_, ?_, htab, by rw [← hg]; exact hT', h.buf.keep k1 ((tp.av (ts' := [266]) (by decide)).ne h.buf.1 (by simp)) (tp.map h.buf.2), h.bufD.keepA k1 (tp.av (by decide)), h.keys, hl0, by omega, hbook⟩
    · obtain ⟨pz, cz', e, hle⟩ := own_form ho'
      cases e
      omega
    · rcases ho'.2 with ⟨e, h0⟩ | ⟨g', cap', cur', e, -, hh, -, -, -, ht⟩
      · omega
      · cases e
        refine ⟨_, hh, ?_⟩
        have := congrArg (fun l => l[0]?) ht
        simpa [List.getElem?_take] using this
  · simp only [List.mem_cons] at hx
    rcases hx with rfl | rfl | hx
    · omega
    · exact hT
    · have := (own_elem hq (show (Value.slice pq 0 cq).ownBlock = some x by simpa using hx)).1
      omega
end Go.Proofs.YtkhionhicegfmaaGreat
namespace Go.Proofs.YtkhionhicegfmaaGreat
open Go.RowKit Go.Lib

/-- what a flush of one transaction leaves. -/
def FlushT (w w' : World) (lw : Nat) (d : Ids) (s : Gs) (g : Gd) (k : Nat) (hdl t : Int) (l : List (Int × List UInt8)) : Prop :=
  ∃ z Lv' v6, Sto w' lw d (doneS s z k hdl Lv' l) (doneG g v6 k l) ∧ Cs lw w w' ∧ w'.ownsRow lw 3 1 (.slice (some ⟨z, 0, none⟩) 0 0) 0 [] ∧ w'.heap[d.T]? = some (.cells #[.int .i64 3, .int .i64 k, .int .i64 0, .int .i64 t, .pointer (some ⟨d.W, 0, none⟩), .pointer (some ⟨d.Q, 0, none⟩)] 202 (0, 0))
set_option maxRecDepth 100000 in
set_option maxHeartbeats 4000000 in
theorem sflush_tx (w : World) {lw : Nat} {d : Ids} {s : Gs} {g : Gd} {gq cq : Nat} {hdl : Int} {k : Nat} {t t0 : Int} {L : List (Int × Value)} {D : Int → List UInt8} (h : Sto w lw d s g) (hw : Wtx w d s gq cq hdl k t t0 L D) (hout : s.out = 0) (hT : lw ≤ d.T) (hlw : lw ≤ w.heap.size)
    (hk0 : 1 ≤ k) (hlast : s.lastv < k) (hk1 : k ≤ 1099511627776) (hs : ∀ c, (s.vs c).length + 16 < 1000000) (hn0 : 0 ≤ s.num) (hn1 : s.num ≤ 100000000) (hroom : (g.zs 6).length + L.length + 1 ≤ 96) (hpos : g.pos + L.length + 1 ≤ 96) (ho0 : 0 ≤ g.ops) (ho1 : g.ops ≤ 100000) (hcnt : g.cnt < 4294967296) (hnum : g.num < 1000000000) :
    Calls Tryz.prog 20 #[.pointer (some ⟨d.P, 0, none⟩)] w fun e w' => e = .returned (.int .i64 0) ∧ FlushT w w' lw d s g k hdl t (putsL L D) := by
  have HD := Lib.hid (dead_g w h.store)
  have p5 : w.cell? ⟨d.P, 5, none⟩ = some (.pointer (some ⟨d.M, 0, none⟩)) := cell_is h.store 5 rfl
  have hm := h.mx.mgr
  rw [hw.qv, hout] at hm
  obtain ⟨cs, hq1, hq2⟩ := hw.q
  have hpl : (putsL L D).length = L.length := putsL_length L D
  have HB := Lib.hid (tbatch_one w (k := k) (l := putsL L D) hm (by have := hw.len; omega) hn0 (by omega) (fun w1 k1 => waiting_one w1 (k1.heap hm (by simp)) (k1.cell (cell_is hq1 0 hq2) (by simp)) (h.mx.map.keep k1 (by simp)) hw.tab (k1.heap hw.tx (by simp)) (hw.buf.keep k1 (by simp) (by simp)) (hw.bd.keep k1) hw.bk (by have := hw.len; omega)))
  have HS := Lib.hid h
  have HW := Lib.hid hw
  have HO := Lib.hid hout
  have HQv := Lib.hid hw.qv
  clear h hw hm hout hq1 hq2
  go_enter Tryz.func20, Tryz.ntmps20
  go_wp2_with fail
  refine HD.out.mono ?_
  rintro e w1 ⟨rfl, rfl⟩
  go_wp2_with fail
  refine HB.out.mono ?_
  rintro e w1 ⟨gt, ct, rfl, k1, hm1, ht1⟩
  have hS := HS.out
  have avM : ∀ ts, 189 ∉ ts → Av w [d.M] ts := fun ts h1 => Av.row hS.mx.mgr h1
  have nmM : ∀ {x L}, MapAt w x L → x ∉ [d.M] := fun hm => by simpa using map_cells hm hS.mx.mgr
  have S1 : Sto w1 lw d { s with out := 1 } g :=
    ⟨k1.heap hS.store ((avM [105] (by decide)).ne hS.store (by simp)), k1.heap hS.slot ((avM [166] (by decide)).ne hS.slot (by simp)), hS.text.keep k1 (avM _ (by decide)), hS.dev.keep k1 (avM _ (by decide)),
      hS.mx.chgM k1 (by rw [HQv.out]; exact hm1) rfl rfl rfl rfl rfl rfl rfl, hS.ap, hS.keys, hS.bnd, hS.bndZ, Nat.le_trans hS.slo k1.size, hS.dlo⟩
  have W1 := HW.out.keepA k1 (avM _ (by decide)) (nmM HW.out.buf.2)
  have c1 : Cs lw w w1 := Cs.of_tp (ts := [189]) k1 (fun x hx => by rw [List.mem_singleton] at hx; subst hx; exact ⟨_, _, hS.mx.mgr, by simp⟩) (by decide) (fun x hx => by rw [List.mem_singleton] at hx; subst hx; exact hS.bnd.2.2.2.1)
  have ka : Chg [] w1 (w1.alloc (.cells #[.int .i64 (s.num + 1), .slice (some ⟨gt, 0, none⟩) 1 ct] 129)) := Chg.alloc w1 _
  have A0 := heap_new w1 (.cells #[.int .i64 (s.num + 1), .slice (some ⟨gt, 0, none⟩) 1 ct] 129)
  have S2 := S1.keep ka
  have W2 := W1.keep ka
  have c2 := c1.trans (Cs.of_chg ka)
  have ht2 := ht1.keep ka
  have h6 : 6 < d.Z.length := by have := S2.dev.len; omega
  have hl0 : 0 < (putsL L D).length := by have := HW.out.len0; omega
  have hl16 : (putsL L D).length ≤ 16 := by have := HW.out.len; omega
  have hwr := swrite_log _ (num0 := s.num + 1) S2.store (fun w' k' => load_g w' (k'.heap S2.slot (by simp)) (S2.text.keep k' (Av.nil _ _))) S2.dev ho0 ho1 S2.dlo ht2 hk0 hk1 hcnt (by omega) hl0 hl16 (rise_puts D HW.out.buf.2.nodup) (putsL_in D HW.out.bk) (by rw [hpl]; exact hroom) (by rw [hpl]; exact hpos) h6
  have HWr := Lib.hid hwr
  have q5 : w1.cell? ⟨d.P, 5, none⟩ = some (.pointer (some ⟨d.M, 0, none⟩)) := cell_is S1.store 5 rfl
  have HS2 := Lib.hid S2
  have HW2 := Lib.hid W2
  have HC2 := Lib.hid c2
  have Hpl := Lib.hid hpl
  clear hwr S1 S2 W1 W2 c1 c2 ht1 ht2 hm1 k1 ka hS avM nmM hroom hpos hl0 hl16 HB HD hpl hk0
  go_wp2_with fail
  generalize w1.alloc (.cells #[.int .i64 (s.num + 1), .slice (some ⟨gt, 0, none⟩) 1 ct] 129) = w2 at *
  refine HWr.out.mono ?_
  rintro e w3 ⟨rfl, k3, hP3, v6, hd3⟩
  have S2 := HS2.out
  have tp := S2.wtp.1
  have S3x : Mx w3 d.M d.X d.rx d.B d.rb d.r { s with out := 1 } := S2.mx.keepA k3 (tp.av (by decide)) (tp.map S2.mx.ver.m) (tp.map S2.mx.book.2) (tp.map S2.mx.map)
  have slot3 := k3.heap S2.slot ((tp.av (ts' := [166]) (by decide)).ne S2.slot (by simp))
  have text3 := S2.text.keep k3 (tp.av (by decide))
  have W3 := HW2.out.keepA k3 (tp.av (by decide)) (tp.map HW2.out.buf.2)
  have c3 := HC2.out.trans (Cs.of_tp k3 tp (by decide) S2.wtp.2)
  obtain ⟨cs, hq1, hq2⟩ := W3.q
  have hdn := tdone_ok w3 S3x (show ({ s with out := 1 } : Gs).qv = _ from W3.qv) W3.cq rfl (cell_is hq1 0 hq2) W3.tab W3.tx W3.buf W3.bd W3.bk W3.len0 W3.len S2.ap S2.keys (Nat.le_trans S2.slo k3.size) hlast (by omega) hs W3.book hn0 (by show s.num ≤ _; omega)
  have HDn := Lib.hid hdn
  have r5 : w3.cell? ⟨d.P, 5, none⟩ = some (.pointer (some ⟨d.M, 0, none⟩)) := cell_is hP3 5 rfl
  have HS3 := Lib.hid (And.intro S3x (And.intro slot3 (And.intro text3 (And.intro hP3 hd3))))
  have HW3 := Lib.hid W3
  have HC3 := Lib.hid c3
  clear hdn S2 tp S3x slot3 text3 hP3 hd3 W3 c3 hq1 hq2 k3 HWr HC2 HW2 q5
  go_wp2_with fail
  refine HDn.out.mono ?_
  rintro e w4 ⟨rfl, z, ⟨⟨Lv', hx4, hap4, hk4⟩, hcd, htx4⟩, o4⟩
  have hF : FlushT w w4 lw d s g k hdl t (putsL L D) := by
    obtain ⟨hx3, slot3, text3, hP3, hd3⟩ := HS3.out
    have c4 := HC3.out.trans (Cs.of_cd hcd hx3.mgr HW3.out.tx hx3.ver.x hx3.book.2 hx3.ver.m (by
      have := HS.out.bnd
      exact ⟨this.2.2.2.2.2.2.2.2.2.1, this.2.2.2.1, hT, this.2.2.2.2.2.2.2.1, this.2.2.2.2.1, this.2.2.2.2.2.1⟩))
    obtain ⟨U, kU, hU⟩ := hcd
    have av : ∀ ts : List Nat, (∀ t ∈ ts, t ∉ [189, 202, 253, 262]) → Av w3 U ts := fun ts hts => Cd.av hU hx3.mgr HW3.out.tx hx3.ver.x hx3.book.2 hx3.ver.m hts
    refine ⟨z, Lv', v6, ⟨?_, kU.heap slot3 ((av [166] (by decide)).ne slot3 (by simp)), text3.keep kU (av _ (by decide)), hd3.keep kU (av _ (by decide)), hx4, hap4, hk4, HS.out.bnd, HS.out.bndZ, Nat.le_trans HS.out.slo c4.size, HS.out.dlo⟩, c4, ownsRow_low o4 (Nat.le_trans hlw HC3.out.size), htx4⟩
    exact kU.heap hP3 ((av [105] (by decide)).ne hP3 (by simp))
  have HF := Lib.hid hF
  clear hF hx4 hap4 hk4 hcd o4 htx4 HDn HS3 HW3 HC3 r5
  go_wp2_with fail
  go_ret
  exact ⟨rfl, HF.out⟩
end Go.Proofs.YtkhionhicegfmaaGreat
namespace Go.Proofs.YtkhionhicegfmaaGreat
open Go.RowKit Go.Lib

/-- where a store's log, slots and device stand. -/
structure Gk where
  pos : Nat
  num : Nat
  inn : Int
  tv : Value
  cnt : Nat
  dlo : Nat
  ops : Int
  rds : Int
  dv : Nat → Value
  gs : Nat → Nat
  zs : Nat → List (List UInt8)
/-- a store with all its parts, none of them below lw. -/
structure Stk (w : World) (lw : Nat) (d : Ids) (s : Gs) (g : Gk) : Prop where
  store : StoreG w d.P d.N d.S d.M g.pos g.num
  slot : SlotG w d.S d.N g.inn g.tv g.cnt
  text : TextAt w g.tv
  dev : DevK w g.dlo d.N d.A d.c g.ops g.rds d.Z g.dv g.gs g.zs
  mx : Mx w d.M d.X d.rx d.B d.rb d.r s
  ap : ApL s.Lv
  keys : ∀ p ∈ s.Lv, 0 ≤ p.1 ∧ p.1 < 258
  bnd : lw ≤ d.P ∧ lw ≤ d.N ∧ lw ≤ d.S ∧ lw ≤ d.M ∧ lw ≤ d.X ∧ lw ≤ d.rx ∧ lw ≤ d.B ∧ lw ≤ d.rb ∧ lw ≤ d.r ∧ lw ≤ s.lo ∧ lw ≤ g.dlo
  bndZ : ∀ z ∈ d.Z, lw ≤ z
  slo : s.lo ≤ w.heap.size
  dlo : g.dlo ≤ d.N
theorem Stk.keepA {w w' : World} {U : List Nat} {lw : Nat} {d : Ids} {s : Gs} {g : Gk} (h : Stk w lw d s g) (hc : Chg U w w') (hU : Av w U [105, 166, 93, 94, 97, 40, 5, 189, 253, 262, 256]) (h1 : d.rx ∉ U) (h2 : d.rb ∉ U) (h3 : d.r ∉ U) : Stk w' lw d s g := by
  have sub : ∀ ts : List Nat, (∀ t ∈ ts, t ∈ [105, 166, 93, 94, 97, 40, 5, 189, 253, 262, 256]) → Av w U ts := fun ts hts x hx cs t fr hh ht => hU x hx cs t fr hh (hts t ht)
  exact ⟨hc.heap h.store (hU.ne h.store (by simp)), hc.heap h.slot (hU.ne h.slot (by simp)), h.text.keep hc (sub _ (by decide)), h.dev.keep hc (sub _ (by decide)), h.mx.keepA hc (sub _ (by decide)) h1 h2 h3, h.ap, h.keys, h.bnd, h.bndZ, Nat.le_trans h.slo hc.size, h.dlo⟩
theorem Stk.keep {w w' : World} {lw : Nat} {d : Ids} {s : Gs} {g : Gk} (h : Stk w lw d s g) (hc : Chg [] w w') : Stk w' lw d s g := h.keepA hc (Av.nil _ _) (by simp) (by simp) (by simp)
/-- the blocks that a write of a batch changes. -/
theorem Stk.wtp {w : World} {lw : Nat} {d : Ids} {s : Gs} {g : Gk} (h : Stk w lw d s g) : Tp w (d.P :: d.N :: d.Z ++ (g.dv 6).ownBlock.toList) [105, 93, 97, 40] ∧ ∀ x ∈ d.P :: d.N :: d.Z ++ (g.dv 6).ownBlock.toList, lw ≤ x := by
  have hb := h.bnd
  refine ⟨fun x hx => ?_, fun x hx => ?_⟩
  · simp only [List.cons_append, List.mem_cons, List.mem_append] at hx
    rcases hx with rfl | rfl | hx | hx
    · exact ⟨_, _, h.store, by simp⟩
    · exact ⟨_, _, h.dev.hdr, by simp⟩
    · obtain ⟨i, hi, rfl⟩ := List.getElem_of_mem hx
      exact ⟨_, _, h.dev.zone i hi, by simp⟩
    · obtain ⟨cs, hh⟩ := (h.dev.rows 6 (by omega)).block x (by simpa using hx)
      exact ⟨_, _, hh, by simp⟩
  · simp only [List.cons_append, List.mem_cons, List.mem_append] at hx
    rcases hx with rfl | rfl | hx | hx
    · omega
    · omega
    · exact h.bndZ x hx
    · obtain ⟨xs, ho, -⟩ := h.dev.rows 6 (by omega)
      have := (own_elem ho (show (g.dv 6).ownBlock = some x by simpa using hx)).1
      omega
/-- the log behind a batch. -/
def doneK (g : Gk) (v6 : Value) (k : Nat) (l : List (Int × List UInt8)) : Gk :=
  { g with pos := g.pos + l.length + 1, num := g.num + 1, ops := g.ops + l.length + 2, dv := upF g.dv 6 v6, gs := goodF g.gs (upF g.zs 6 (g.zs 6 ++ batL g.cnt (g.num + 1) k l)) 8, zs := upF g.zs 6 (g.zs 6 ++ batL g.cnt (g.num + 1) k l) }
/-- a store about its transaction. -/
def StkF (lw : Nat) (d : Ids) (s : Gs) (g : Gk) (w : World) : Prop := Stk w lw d s g
theorem fr_stk {lw base : Nat} {d : Ids} {s : Gs} {g : Gk} {p : Par} (hl : d.rx < base ∧ d.rb < base ∧ d.r < base) (hg : getL s.Lr p.h = some (.pointer (some ⟨d.T, 0, none⟩))) (e1 : p.lo = s.lo) (e2 : p.last = s.lastv) (e3 : p.Lv = s.Lv) (e4 : p.vs = s.vs) : Fr base d p (StkF lw d s g) := by
  refine ⟨fun w h => ?_, fun a b ho h => ?_⟩
  · have h' : Stk w lw d s g := h
    exact ⟨cell_is h'.store 0 rfl, cell_is h'.store 5 rfl, cell_is h'.store 9 rfl, ⟨_, _, h'.dev.hdr⟩, h'.mx.cells.1, h'.mx.cells.2.2.1, ⟨_, h'.mx.map, hg⟩, by rw [e1, e2, e3, e4]; exact h'.mx.ver⟩
  · have h' : Stk a lw d s g := h
    obtain ⟨T, h1, h2⟩ := ho
    refine h'.keepA h1 (fun x hx cs t fr hh ht => ?_) (fun hm => ?_) (fun hm => ?_) (fun hm => ?_)
    · rcases (h2 x hx).2 cs t fr hh with rfl | rfl | rfl <;> simp at ht
    · have := (h2 _ hm).1; omega
    · have := (h2 _ hm).1; omega
    · have := (h2 _ hm).1; omega
/-- what a store's Begin leaves. -/
def BegK (w w' : World) (lw : Nat) (d : Ids) (s : Gs) (g : Gk) : Prop := ∃ T W rw Q V, Cs lw w w' ∧ w.heap.size ≤ T ∧
  Su w' w.heap.size { d with T := T, W := W, rw := rw, Q := Q, V := V } (begP s) (StkF lw { d with T := T, W := W, rw := rw, Q := Q, V := V } (begS s T) g) (fun b => bytT (s.vs b) s.last) [] 0
set_option maxRecDepth 100000 in
theorem kbegin_gen (w : World) {lw : Nat} {d : Ids} {s : Gs} {g : Gk} (h : Stk w lw d s g) (hLb : s.Lb = []) (h0 : 0 ≤ s.last) (h1 : s.last ≤ 1099511627776) (hb0 : 0 ≤ s.bl) (hb1 : s.bl ≤ 1000000) :
    Calls Tryz.prog 16 #[.pointer (some ⟨d.P, 0, none⟩)] w fun e w' => e = .returned (.tuple #[.int .i64 (s.bl + 1), .int .i64 0]) ∧ BegK w w' lw d s g := by
  have HD := Lib.hid (dead_g w h.store)
  have p5 : w.cell? ⟨d.P, 5, none⟩ = some (.pointer (some ⟨d.M, 0, none⟩)) := cell_is h.store 5 rfl
  have HB := Lib.hid (tbegin_gen w h.mx hLb h0 h1 hb0 hb1)
  have HS := Lib.hid h
  clear h hLb h0 h1 hb0 hb1
  go_enter Tryz.func16, Tryz.ntmps16
  go_wp2_with fail
  refine HD.out.mono ?_
  rintro e w1 ⟨rfl, rfl⟩
  go_wp2_with fail
  refine HB.out.mono ?_
  rintro e w1 ⟨rfl, T, W, rw, Q, V, k1, hx, hT, hb, hv, hs, n1, n2, n3, b1, b2, b3, b4, b5⟩
  have hF : BegK w w1 lw d s g := by
    have hS := HS.out
    have avB : Av w [d.B, d.rb, d.r] [105, 166, 5, 93, 94, 97, 40] := fun x hx cs t fr hh => by
      simp at hx
      rcases hx with rfl | rfl | rfl
      · rw [hS.mx.book.1] at hh; cases hh; simp
      · exact absurd rfl (map_cells hS.mx.book.2 hh)
      · exact absurd rfl (map_cells hS.mx.map hh)
    have sub : ∀ ts : List Nat, (∀ t ∈ ts, t ∈ [105, 166, 5, 93, 94, 97, 40]) → Av w [d.B, d.rb, d.r] ts := fun ts hts x hx cs t fr hh ht => avB x hx cs t fr hh (hts t ht)
    have hSto : Stk w1 lw { d with T := T, W := W, rw := rw, Q := Q, V := V } (begS s T) g :=
      ⟨k1.heap hS.store (avB.ne hS.store (by simp)), k1.heap hS.slot (avB.ne hS.slot (by simp)), hS.text.keep k1 (sub _ (by decide)), hS.dev.keep k1 (sub _ (by decide)), hx, hS.ap, hS.keys, hS.bnd, hS.bndZ, Nat.le_trans hS.slo k1.size, hS.dlo⟩
    refine ⟨T, W, rw, Q, V, ⟨[d.B, d.rb, d.r], k1, fun x hx _ => ?_⟩, b1, hSto, hT, hb, (fun x hx => by cases hx), fun b _ _ => Or.inl ⟨rfl, rfl⟩, ⟨_, 0, [], hv, Nat.le_refl _, World.ownsRow_nil _ _ _ _⟩, ⟨_, [], hs, Nat.le_refl _, World.ownsRow_nil _ _ _ _⟩, b4, b5, b3⟩
    have hbn := hS.bnd
    simp at hx
    rcases hx with rfl | rfl | rfl
    · exact ⟨by omega, fun cs t fr hh => by rw [hS.mx.book.1] at hh; cases hh; simp⟩
    · exact ⟨by omega, fun cs t fr hh => absurd rfl (map_cells hS.mx.book.2 hh)⟩
    · exact ⟨by omega, fun cs t fr hh => absurd rfl (map_cells hS.mx.map hh)⟩
  have HF := Lib.hid hF
  clear hF hx hT hb hv hs k1 b1 b2 b3 b4 b5 n1 n2 n3
  go_wp2_with fail
  go_ret2
  exact ⟨rfl, HF.out⟩
/-- what a Commit leaves. -/
def ComK (w w' : World) (lw : Nat) (d : Ids) (s : Gs) (g : Gk) (p : Par) (L : List (Int × Value)) (q : Int → List UInt8) (k : Nat) : Prop :=
  ∃ gq cq, Stk w' lw d (comS s gq cq) g ∧ Wtx w' d (comS s gq cq) gq cq p.h k p.t p.t L q ∧ Cs lw w w'
set_option maxRecDepth 100000 in
theorem kcommit_stk (w : World) {lw base loq n k : Nat} {d : Ids} {s : Gs} {g : Gk} {p : Par} {q : Int → List UInt8} {L : List (Int × Value)} {pq : Option Addr} {cq : Nat} (hf : Fr base d p (StkF lw d s g)) (h : Su w base d p (StkF lw d s g) q L n) (hqv : s.qv = .slice pq 0 cq) (hq : w.ownsRow loq 3 1 (.slice pq 0 cq) 0 []) (hlq : loq ≤ w.heap.size) (hlw : lw ≤ loq)
    (hrd : s.rd = false) (ho : OldV p.Lv p.vs p.t) (hg : s.given + 1 = (k : Nat)) (hg1 : s.given < 1099511627776) (hg0 : 0 ≤ s.given) (hl : L.length ≤ 12) (hl0 : 0 < L.length) (hn : n ≤ 12) (htab : getL s.Lr p.h = some (.pointer (some ⟨d.T, 0, none⟩))) (hbook : getL s.Lb p.h = some (.int .i64 p.t)) (hT : lw ≤ d.T) :
    Calls Tryz.prog 19 #[.pointer (some ⟨d.P, 0, none⟩), .int .i64 p.h] w fun e w' => e = .returned (.int .i64 0) ∧ ComK w w' lw d s g p L q k := by
  have hS : Stk w lw d s g := h.env
  have hN := hf.need w h.env
  have hm := hS.mx.mgr
  rw [hqv, hrd] at hm
  refine scommit_one w hN ((tcommit_old w hN ho hm hg0 hg1 hq hlq h.tx h.buf h.bufD h.keys hl hl0 h.vw h.sp hn).mono ?_)
  rintro e w' ⟨gq, c, rfl, k1, hm', ho', hT'⟩
  refine ⟨rfl, gq, c, ?_⟩
  have tp : Tp w (d.M :: d.T :: (Value.slice pq 0 cq).ownBlock.toList) [189, 202, 3] := fun x hx => by
    simp only [List.mem_cons] at hx
    rcases hx with rfl | rfl | hx
    · exact ⟨_, _, hm, by simp⟩
    · exact ⟨_, _, h.tx, by simp⟩
    · obtain ⟨-, cs, hh⟩ := own_elem hq (show (Value.slice pq 0 cq).ownBlock = some x by simpa using hx)
      exact ⟨_, _, hh, by simp⟩
  have hbn := hS.bnd
  refine ⟨⟨k1.heap hS.store ((tp.av (ts' := [105]) (by decide)).ne hS.store (by simp)), k1.heap hS.slot ((tp.av (ts' := [166]) (by decide)).ne hS.slot (by simp)), hS.text.keep k1 (tp.av (by decide)), hS.dev.keep k1 (tp.av (by decide)),
    ⟨by show MgrG w' d.M d.X d.B d.r (.slice (some ⟨gq, 0, none⟩) 1 c) s.out s.num s.bas s.last (s.given + 1) s.rd; rw [hrd]; exact hm', hS.mx.ver.keepA k1 (tp.av (by decide)) (tp.map hS.mx.ver.m), ⟨k1.heap hS.mx.book.1 ((tp.av (ts' := [256]) (by decide)).ne hS.mx.book.1 (by simp)), hS.mx.book.2.keep k1 (tp.map hS.mx.book.2)⟩, hS.mx.map.keep k1 (tp.map hS.mx.map), hS.mx.n1, hS.mx.n2, hS.mx.n3⟩, hS.ap, hS.keys, hS.bnd, hS.bndZ, Nat.le_trans hS.slo k1.size, hS.dlo⟩, ?_, Cs.of_tp k1 tp (by decide) (fun x hx => ?_)⟩
  · refine ⟨rfl, ?_, ?_, htab, by rw [← hg]; exact hT', h.buf.keep k1 ((tp.av (ts' := [266]) (by decide)).ne h.buf.1 (by simp)) (tp.map h.buf.2), h.bufD.keepA k1 (tp.av (by decide)), h.keys, hl0, by omega, hbook⟩
    · obtain ⟨pz, cz', e, hle⟩ := own_form ho'
      cases e
      omega
    · rcases ho'.2 with ⟨e, h0⟩ | ⟨g', cap', cur', e, -, hh, -, -, -, ht⟩
      · omega
      · cases e
        refine ⟨_, hh, ?_⟩
        have := congrArg (fun l => l[0]?) ht
        simpa [List.getElem?_take] using this
  · simp only [List.mem_cons] at hx
    rcases hx with rfl | rfl | hx
    · omega
    · exact hT
    · have := (own_elem hq (show (Value.slice pq 0 cq).ownBlock = some x by simpa using hx)).1
      omega
/-- what a flush of one transaction leaves. -/
def FlushK (w w' : World) (lw : Nat) (d : Ids) (s : Gs) (g : Gk) (k : Nat) (hdl t : Int) (l : List (Int × List UInt8)) : Prop :=
  ∃ z Lv' v6, Stk w' lw d (doneS s z k hdl Lv' l) (doneK g v6 k l) ∧ Cs lw w w' ∧ w'.ownsRow lw 3 1 (.slice (some ⟨z, 0, none⟩) 0 0) 0 [] ∧ w'.heap[d.T]? = some (.cells #[.int .i64 3, .int .i64 k, .int .i64 0, .int .i64 t, .pointer (some ⟨d.W, 0, none⟩), .pointer (some ⟨d.Q, 0, none⟩)] 202 (0, 0))
set_option maxRecDepth 100000 in
set_option maxHeartbeats 4000000 in
theorem kflush_tx (w : World) {lw : Nat} {d : Ids} {s : Gs} {g : Gk} {gq cq : Nat} {hdl : Int} {k : Nat} {t t0 : Int} {L : List (Int × Value)} {D : Int → List UInt8} (h : Stk w lw d s g) (hw : Wtx w d s gq cq hdl k t t0 L D) (hout : s.out = 0) (hT : lw ≤ d.T) (hlw : lw ≤ w.heap.size)
    (hk0 : 1 ≤ k) (hlast : s.lastv < k) (hk1 : k ≤ 1099511627776) (hs : ∀ c, (s.vs c).length + 16 < 1000000) (hn0 : 0 ≤ s.num) (hn1 : s.num ≤ 100000000) (hroom : (g.zs 6).length + L.length + 1 ≤ 96) (hpos : g.pos + L.length + 1 ≤ 96) (ho0 : 0 ≤ g.ops) (ho1 : g.ops ≤ 100000) (hcnt : g.cnt < 4294967296) (hnum : g.num < 1000000000) :
    Calls Tryz.prog 20 #[.pointer (some ⟨d.P, 0, none⟩)] w fun e w' => e = .returned (.int .i64 0) ∧ FlushK w w' lw d s g k hdl t (putsL L D) := by
  have HD := Lib.hid (dead_g w h.store)
  have p5 : w.cell? ⟨d.P, 5, none⟩ = some (.pointer (some ⟨d.M, 0, none⟩)) := cell_is h.store 5 rfl
  have hm := h.mx.mgr
  rw [hw.qv, hout] at hm
  obtain ⟨cs, hq1, hq2⟩ := hw.q
  have hpl : (putsL L D).length = L.length := putsL_length L D
  have HB := Lib.hid (tbatch_one w (k := k) (l := putsL L D) hm (by have := hw.len; omega) hn0 (by omega) (fun w1 k1 => waiting_one w1 (k1.heap hm (by simp)) (k1.cell (cell_is hq1 0 hq2) (by simp)) (h.mx.map.keep k1 (by simp)) hw.tab (k1.heap hw.tx (by simp)) (hw.buf.keep k1 (by simp) (by simp)) (hw.bd.keep k1) hw.bk (by have := hw.len; omega)))
  have HS := Lib.hid h
  have HW := Lib.hid hw
  have HO := Lib.hid hout
  have HQv := Lib.hid hw.qv
  clear h hw hm hout hq1 hq2
  go_enter Tryz.func20, Tryz.ntmps20
  go_wp2_with fail
  refine HD.out.mono ?_
  rintro e w1 ⟨rfl, rfl⟩
  go_wp2_with fail
  refine HB.out.mono ?_
  rintro e w1 ⟨gt, ct, rfl, k1, hm1, ht1⟩
  have hS := HS.out
  have avM : ∀ ts, 189 ∉ ts → Av w [d.M] ts := fun ts h1 => Av.row hS.mx.mgr h1
  have nmM : ∀ {x L}, MapAt w x L → x ∉ [d.M] := fun hm => by simpa using map_cells hm hS.mx.mgr
  have S1 : Stk w1 lw d { s with out := 1 } g :=
    ⟨k1.heap hS.store ((avM [105] (by decide)).ne hS.store (by simp)), k1.heap hS.slot ((avM [166] (by decide)).ne hS.slot (by simp)), hS.text.keep k1 (avM _ (by decide)), hS.dev.keep k1 (avM _ (by decide)),
      hS.mx.chgM k1 (by rw [HQv.out]; exact hm1) rfl rfl rfl rfl rfl rfl rfl, hS.ap, hS.keys, hS.bnd, hS.bndZ, Nat.le_trans hS.slo k1.size, hS.dlo⟩
  have W1 := HW.out.keepA k1 (avM _ (by decide)) (nmM HW.out.buf.2)
  have c1 : Cs lw w w1 := Cs.of_tp (ts := [189]) k1 (fun x hx => by rw [List.mem_singleton] at hx; subst hx; exact ⟨_, _, hS.mx.mgr, by simp⟩) (by decide) (fun x hx => by rw [List.mem_singleton] at hx; subst hx; exact hS.bnd.2.2.2.1)
  have ka : Chg [] w1 (w1.alloc (.cells #[.int .i64 (s.num + 1), .slice (some ⟨gt, 0, none⟩) 1 ct] 129)) := Chg.alloc w1 _
  have A0 := heap_new w1 (.cells #[.int .i64 (s.num + 1), .slice (some ⟨gt, 0, none⟩) 1 ct] 129)
  have S2 := S1.keep ka
  have W2 := W1.keep ka
  have c2 := c1.trans (Cs.of_chg ka)
  have ht2 := ht1.keep ka
  have h6 : 6 < d.Z.length := by have := S2.dev.len; omega
  have hl0 : 0 < (putsL L D).length := by have := HW.out.len0; omega
  have hl16 : (putsL L D).length ≤ 16 := by have := HW.out.len; omega
  have hwr := kwrite_log _ (num0 := s.num + 1) S2.store (fun w' k' => load_g w' (k'.heap S2.slot (by simp)) (S2.text.keep k' (Av.nil _ _))) S2.dev ho0 ho1 S2.dlo ht2 hk0 hk1 hcnt (by omega) hl0 hl16 (rise_puts D HW.out.buf.2.nodup) (putsL_in D HW.out.bk) (by rw [hpl]; exact hroom) (by rw [hpl]; exact hpos) h6
  have HWr := Lib.hid hwr
  have q5 : w1.cell? ⟨d.P, 5, none⟩ = some (.pointer (some ⟨d.M, 0, none⟩)) := cell_is S1.store 5 rfl
  have HS2 := Lib.hid S2
  have HW2 := Lib.hid W2
  have HC2 := Lib.hid c2
  have Hpl := Lib.hid hpl
  clear hwr S1 S2 W1 W2 c1 c2 ht1 ht2 hm1 k1 ka hS avM nmM hroom hpos hl0 hl16 HB HD hpl hk0
  go_wp2_with fail
  generalize w1.alloc (.cells #[.int .i64 (s.num + 1), .slice (some ⟨gt, 0, none⟩) 1 ct] 129) = w2 at *
  refine HWr.out.mono ?_
  rintro e w3 ⟨rfl, k3, hP3, v6, hd3⟩
  have S2 := HS2.out
  have tp := S2.wtp.1
  have S3x : Mx w3 d.M d.X d.rx d.B d.rb d.r { s with out := 1 } := S2.mx.keepA k3 (tp.av (by decide)) (tp.map S2.mx.ver.m) (tp.map S2.mx.book.2) (tp.map S2.mx.map)
  have slot3 := k3.heap S2.slot ((tp.av (ts' := [166]) (by decide)).ne S2.slot (by simp))
  have text3 := S2.text.keep k3 (tp.av (by decide))
  have W3 := HW2.out.keepA k3 (tp.av (by decide)) (tp.map HW2.out.buf.2)
  have c3 := HC2.out.trans (Cs.of_tp k3 tp (by decide) S2.wtp.2)
  obtain ⟨cs, hq1, hq2⟩ := W3.q
  have hdn := tdone_ok w3 S3x (show ({ s with out := 1 } : Gs).qv = _ from W3.qv) W3.cq rfl (cell_is hq1 0 hq2) W3.tab W3.tx W3.buf W3.bd W3.bk W3.len0 W3.len S2.ap S2.keys (Nat.le_trans S2.slo k3.size) hlast (by omega) hs W3.book hn0 (by show s.num ≤ _; omega)
  have HDn := Lib.hid hdn
  have r5 : w3.cell? ⟨d.P, 5, none⟩ = some (.pointer (some ⟨d.M, 0, none⟩)) := cell_is hP3 5 rfl
  have HS3 := Lib.hid (And.intro S3x (And.intro slot3 (And.intro text3 (And.intro hP3 hd3))))
  have HW3 := Lib.hid W3
  have HC3 := Lib.hid c3
  clear hdn S2 tp S3x slot3 text3 hP3 hd3 W3 c3 hq1 hq2 k3 HWr HC2 HW2 q5
  go_wp2_with fail
  refine HDn.out.mono ?_
  rintro e w4 ⟨rfl, z, ⟨⟨Lv', hx4, hap4, hk4⟩, hcd, htx4⟩, o4⟩
  have hF : FlushK w w4 lw d s g k hdl t (putsL L D) := by
    obtain ⟨hx3, slot3, text3, hP3, hd3⟩ := HS3.out
    have c4 := HC3.out.trans (Cs.of_cd hcd hx3.mgr HW3.out.tx hx3.ver.x hx3.book.2 hx3.ver.m (by
      have := HS.out.bnd
      exact ⟨this.2.2.2.2.2.2.2.2.2.1, this.2.2.2.1, hT, this.2.2.2.2.2.2.2.1, this.2.2.2.2.1, this.2.2.2.2.2.1⟩))
    obtain ⟨U, kU, hU⟩ := hcd
    have av : ∀ ts : List Nat, (∀ t ∈ ts, t ∉ [189, 202, 253, 262]) → Av w3 U ts := fun ts hts => Cd.av hU hx3.mgr HW3.out.tx hx3.ver.x hx3.book.2 hx3.ver.m hts
    refine ⟨z, Lv', v6, ⟨?_, kU.heap slot3 ((av [166] (by decide)).ne slot3 (by simp)), text3.keep kU (av _ (by decide)), hd3.keep kU (av _ (by decide)), hx4, hap4, hk4, HS.out.bnd, HS.out.bndZ, Nat.le_trans HS.out.slo c4.size, HS.out.dlo⟩, c4, ownsRow_low o4 (Nat.le_trans hlw HC3.out.size), htx4⟩
    exact kU.heap hP3 ((av [105] (by decide)).ne hP3 (by simp))
  have HF := Lib.hid hF
  clear hF hx4 hap4 hk4 hcd o4 htx4 HDn HS3 HW3 HC3 r5
  go_wp2_with fail
  go_ret
  exact ⟨rfl, HF.out⟩
end Go.Proofs.YtkhionhicegfmaaGreat
namespace Go.Proofs.YtkhionhicegfmaaGreat
open Go.RowKit Go.Lib

theorem RowsC.at_ {w : World} {base : Nat} {v : Value} {l : List (List UInt8)} (h : RowsC w base v l) : RowsAt w base v l := by
  obtain ⟨xs, ho, hx⟩ := h
  refine ⟨xs, ho, fun i hi => ?_⟩
  obtain ⟨g, c, h1, -, h2⟩ := hx i hi
  exact ⟨g, c, h1, h2⟩
set_option maxRecDepth 100000 in
set_option maxHeartbeats 4000000 in
theorem zown_ok (w : World) {lo c n : Nat} {pa : Option Addr} {l : List (List UInt8)} (h : RowsAt w lo (.slice pa n c) l) (hn : l.length = n) (hn1 : n ≤ 1000) : Calls Tryz.prog 76 #[.slice pa n c] w fun e w' => ∃ v, e = .returned v ∧ Chg [] w w' ∧ RowsC w' w.heap.size v l := by
  have HP := Lib.hid h
  clear h
  go_enter Tryz.func76, Tryz.ntmps76
  go_wp2_with fail
  go_loopw [2, 4, 7] (fun v _ i wr => ∃ j : Nat, j ≤ n ∧ i = .int .i64 j ∧ Chg [] w wr ∧ RowsC wr w.heap.size v (l.take j)) (fun _ _ i _ => n - (intOf i).toNat)
  case atStart => exact ⟨0, by omega, rfl, Chg.refl _ _, by simpa using RowsC.nil _ _⟩
  case round =>
    obtain ⟨j, hj, rfl, kr, hrx⟩ := hrel
    by_cases hlt : j < n
    · have hjl : j < l.length := by omega
      obtain ⟨ga, ca, gd, cd, hv, hca, r0, hb, h64, -, -⟩ := (HP.out.keep kr (Av.nil _ _) (fun _ _ => by simp)).at2 j hjl
      have hpa : pa = some ⟨ga, 0, none⟩ ∧ n ≤ c := by
        injection hv with e1 e2 e3
        exact ⟨e1, by omega⟩
      obtain ⟨rfl, hnc⟩ := hpa
      have HC := Lib.hid (clone_btc wr (D := gd) (o := 0) (c := cd) (m := 64) h64 (by decide) (by decide) hb)
      have HX := Lib.hid (And.intro kr hrx)
      have H64 := Lib.hid h64
      have hji : (j : Int) < n := by omega
      clear kr hrx hb h64 hv
      go_wp2_with fail
      refine HC.out.mono ?_
      rintro e w2 ⟨g, c', rfl, k2, b2, hg2, t2, c64⟩
      obtain ⟨kr, hrx⟩ := HX.out
      obtain ⟨xs, ho, hxs⟩ := hrx.keep0 k2
      have hjt : (l.take j).length = j := by simp; omega
      rw [hjt] at ho
      obtain ⟨pv, cv, rfl, -⟩ := own_form ho
      have ka : Chg [] w2 (w2.alloc (.cells #[.slice (some ⟨g, 0, none⟩) 64 c'] 40)) := Chg.alloc w2 _
      have ya := heap_new w2 (.cells #[.slice (some ⟨g, 0, none⟩) 64 c'] 40)
      have oa := own_keep ho ka.below0
      have hk2 := k2.size
      have hkr := kr.size
      have hba : w.heap.size ≤ (w2.alloc (.cells #[.slice (some ⟨g, 0, none⟩) 64 c'] 40)).heap.size := by have := ka.size; omega
      have H2 := Lib.hid (And.intro (kr.then k2) (And.intro b2 (And.intro t2 (And.intro c64 (And.intro hxs ho)))))
      clear kr hrx k2 b2 t2 c64 hxs ho HX HC
      go_wp2_with (first | (at_builtin; refine wpList_append_bk rfl (.tmp 11) (.tmp 14) rfl w.heap.size (.slice pv j cv) j xs rfl oa w2.heap.size 1 _ rfl (cell_is ya 0 rfl) rfl (by omega) hba ?_; intro g5 c5 w5 o5 k5 i5))
      obtain ⟨k2, b2, t2, c64, hxs, ho⟩ := H2.out
      have hfin : Chg [] w w5 ∧ RowsC w5 w.heap.size (.slice (some ⟨g5, 0, none⟩) (j + 1) c5) (l.take (j + 1)) := by
        refine ⟨(k2.then ka).trans k5 (fun x hx hl => ?_), ?_⟩
        · obtain ⟨hge, -⟩ := own_elem oa (show (Value.slice pv j cv).ownBlock = some x by simpa using hx)
          omega
        · rw [List.take_succ_eq_append_getElem hjl]
          have hp := RowsC.push (w := w2.alloc (.cells #[.slice (some ⟨g, 0, none⟩) 64 c'] 40)) (w' := w5) (base := w.heap.size) (g := g5) (gb := g) (cb := c') (cap := c5) (v := .slice pv j cv) (l := l.take j) (b := l[j]) (xs := xs)
            (fun i hi => by obtain ⟨g', c'', e1, e2, e3, e4, e5⟩ := hxs i hi; exact ⟨g', c'', e1, e2, e3.chg ka, e4, e5.keep ka (by simp)⟩)
            (by rw [hjt]; have := ho.1; omega) (fun g' hg' => (own_elem oa hg').2) (by rw [hjt]; exact o5) k5 (b2.chg ka) H64.out (t2.keep ka (by simp)) c64
          rw [hjt] at hp
          exact hp
      have HF := Lib.hid hfin
      clear hfin k2 b2 t2 c64 hxs ho ka ya oa o5 k5 i5
      go_wp2_with fail
      go_roundw
      case rel => exact ⟨j + 1, hlt, by go_num, HF.out⟩
      case measure => simp [intOf]; omega
    · obtain rfl : j = n := by omega
      rw [List.take_of_length_le (by omega)] at hrx
      go_wp2_with fail
      go_ret
      exact ⟨_, rfl, kr, hrx⟩
/-- what pick answers. -/
def PickOk (pv : Value) (w : World) : Prop := ∀ w2, Chg [] w w2 → ∀ k : Nat, k < 8 → Calls Tryz.prog 74 #[pv, .int .i64 k] w2 fun e w' => ∃ x b, e = .returned (.tuple #[.int .i64 x, .bool b]) ∧ w2 = w'
set_option maxRecDepth 100000 in
theorem pick_nil (w : World) : PickOk (.slice none 0 0) w := by
  intro w2 _ k _
  go_enter Tryz.func74, Tryz.ntmps74
  go_wp2_with fail
  go_ret2
  exact ⟨0, false, rfl, rfl⟩
set_option maxRecDepth 100000 in
theorem rest_one (w : World) (x : Int) : Calls Tryz.prog 75 #[.int .i64 x, .int .i64 1] w fun e w' => e = .returned (.int .i64 0) ∧ w = w' := by
  go_enter Tryz.func75, Tryz.ntmps75
  go_wp2_with fail
  go_ret
  exact ⟨rfl, rfl⟩
/-- a zone is laid anew. -/
theorem DevG.lay {w : World} {base N A c : Nat} {ops : Int} {Z : List Nat} {vs : Nat → Value} {gs : Nat → Nat} {zs : Nat → List (List UInt8)} (h : DevG w base N A c ops Z vs gs zs) {j : Nat} (hj : j < Z.length) {v' : Value} {l' : List (List UInt8)} (hr : RowsAt w base v' l')
    (hap : ∀ g, v'.ownBlock = some g → ∀ i, i < 8 → i ≠ j → (vs i).ownBlock ≠ some g) : DevG ((w.setCell ⟨Z[j], 0, none⟩ v').setCell ⟨Z[j], 1, none⟩ (.int .i64 (l'.length : Nat))) base N A c ops Z (upF vs j v') (upF gs j l'.length) (upF zs j l') := by
  have hc : Chg [Z[j]] w ((w.setCell ⟨Z[j], 0, none⟩ v').setCell ⟨Z[j], 1, none⟩ (.int .i64 (l'.length : Nat))) := (Chg.set w Z[j] 0 v').then (Chg.set _ Z[j] 1 _)
  have hzj := h.zone j hj
  have ht : ∀ {g : Nat} {cs : Array Value} {t : TypeId}, w.heap[g]? = some (.cells cs t (0, 0)) → t ≠ 97 → g ∉ [Z[j]] := by
    intro g cs t hg h1 hm
    rw [List.mem_singleton] at hm
    subst hm
    rw [hzj] at hg; cases hg; exact h1 rfl
  have keepR : ∀ {v l}, RowsAt w base v l → RowsAt ((w.setCell ⟨Z[j], 0, none⟩ v').setCell ⟨Z[j], 1, none⟩ (.int .i64 (l'.length : Nat))) base v l := fun {v l} hh => hh.keep hc (Av.row hzj (by simp)) (fun g hg => by
    obtain ⟨cs, hb⟩ := hh.block g hg
    exact ht hb (by decide))
  obtain ⟨cA, hA⟩ := h.tA
  refine ⟨hc.heap h.hdr (ht h.hdr (by decide)), h.cap, h.len, ⟨cA, hc.heap hA (ht hA (by decide))⟩, fun k hk => hc.cell (h.ptr k hk) (ht hA (by decide)), fun k hk => ?_, fun k hk => ?_, fun i k g hi hk hik hg => ?_, h.nodup⟩
  · by_cases hkj : k = j
    · subst hkj
      simpa [upF] using heap_set (heap_set hzj 0 v' rfl) 1 (.int .i64 (l'.length : Nat)) rfl
    · simpa [upF, hkj] using hc.heap (h.zone k hk) (by simpa using nodup_ne h.nodup hk hj hkj)
  · by_cases hkj : k = j
    · subst hkj
      simpa [upF] using keepR hr
    · simpa [upF, hkj] using keepR (h.rows k hk)
  · by_cases hij : i = j
    · subst hij
      rw [show upF vs i v' i = v' by simp [upF]] at hg
      rw [show upF vs i v' k = vs k by simp [upF, hik.symm]]
      exact hap g hg k hk hik.symm
    · rw [show upF vs j v' i = vs i by simp [upF, hij]] at hg
      by_cases hkj : k = j
      · subst hkj
        rw [show upF vs k v' k = v' by simp [upF]]
        intro e
        exact hap g e i hi hij hg
      · rw [show upF vs j v' k = vs k by simp [upF, hkj]]
        exact h.apart i k g hi hk hik hg
/-- the first j zones. -/
def cutZ (zs : Nat → List (List UInt8)) (j : Nat) : Nat → List (List UInt8) := fun i => if i < j then zs i else []
theorem cutZ_succ (zs : Nat → List (List UInt8)) (j : Nat) : upF (cutZ zs j) j (zs j) = cutZ zs (j + 1) := by
  funext k
  unfold upF cutZ
  by_cases h : k = j
  · subst h; simp
  · rw [if_neg h]
    by_cases h2 : k < j
    · rw [if_pos h2, if_pos (by omega)]
    · rw [if_neg h2, if_neg (by omega)]
theorem cutG_succ (zs : Nat → List (List UInt8)) (j : Nat) : upF (fun i => (cutZ zs j i).length) j (zs j).length = fun i => (cutZ zs (j + 1) i).length := by
  funext k
  rw [← cutZ_succ]
  unfold upF
  split <;> rfl
/-- what a crash hands back. -/
def CrashR (w : World) (zs : Nat → List (List UInt8)) (e : Ending) (w' : World) : Prop :=
  ∃ N A c Z vs, e = .returned (.pointer (some ⟨N, 0, none⟩)) ∧ Chg [] w w' ∧ DevG w' w.heap.size N A c 0 Z vs (fun i => (cutZ zs 8 i).length) (cutZ zs 8) ∧ w.heap.size ≤ N ∧ w.heap.size ≤ A ∧ (∀ z ∈ Z, w.heap.size ≤ z)
set_option maxRecDepth 100000 in
set_option maxHeartbeats 8000000 in
theorem crash_ok (w : World) {base N A c : Nat} {ops rds : Int} {Z : List Nat} {vs : Nat → Value} {gs : Nat → Nat} {zs : Nat → List (List UInt8)} (hD : DevK w base N A c ops rds Z vs gs zs) (hg : ∀ j, j < 8 → gs j = (zs j).length) (hlen : ∀ j, j < 8 → (zs j).length ≤ 96) {pv tv : Value} (hp : PickOk pv w) (ht : PickOk tv w) :
    Calls Tryz.prog 23 #[.pointer (some ⟨N, 0, none⟩), pv, tv] w (CrashR w zs) := by
  have HG := Lib.hid (kgone w hD)
  have n0 : w.cell? ⟨N, 0, none⟩ = some (.int .i64 8) := cell_is hD.hdr 0 rfl
  have n1 : w.cell? ⟨N, 1, none⟩ = some (.int .i64 96) := cell_is hD.hdr 1 rfl
  have HD := Lib.hid hD
  have HP := Lib.hid hp
  have HT := Lib.hid ht
  have HE := Lib.hid hg
  have HL := Lib.hid hlen
  clear hD hp ht hg hlen
  go_enter Tryz.func23, Tryz.ntmps23
  go_wp2_with fail
  refine HG.out.mono ?_
  rintro e w1 ⟨rfl, rfl⟩
  go_wp2_with fail
  refine (new_any2 w).mono ?_
  rintro e w1 ⟨N', A', c', Z', rfl, k1, hD1, hO, lN, lA, lZ, hAx, hZn⟩
  have hG0 : DevG w1 w.heap.size N' A' c' 0 Z' (fun _ => .slice none 0 0) (fun i => (cutZ zs 0 i).length) (cutZ zs 0) := by
    have e : cutZ zs 0 = fun _ => [] := by funext i; simp [cutZ]
    rw [e]
    exact ⟨hD1.1, hD1.2.1, hD1.2.2.1, hAx, hD1.2.2.2.1, hD1.2.2.2.2, fun _ _ => RowsAt.nil w1 _, fun _ _ _ _ _ _ e => by simp [Value.ownBlock] at e, hZn⟩
  have m2' : w.cell? ⟨N, 2, none⟩ = some (.slice (some ⟨A, 0, none⟩) 8 c) := cell_is HD.out.hdr 2 rfl
  have m2 := k1.cell m2' (by simp)
  have HI := Lib.hid (And.intro lN (And.intro lA lZ))
  have hcap : (8 : Int) ≤ c := by have := HD.out.cap; omega
  clear hD1 hO hAx hZn lN lA lZ n0 n1 HG
  go_wp2_with fail
  go_loopw [33] (fun i wr => ∃ j : Nat, ∃ vs', i = .int .i64 j ∧ j ≤ 8 ∧ Chg [] w wr ∧ DevG wr w.heap.size N' A' c' 0 Z' vs' (fun i => (cutZ zs j i).length) (cutZ zs j)) (fun i _ => 8 - (intOf i).toNat)
  case atStart => exact ⟨0, _, rfl, by omega, k1, hG0⟩
  case round =>
    obtain ⟨j, vs', rfl, hj, kr, hG⟩ := hrel
    by_cases hlt : j < 8
    · have hDr := HD.out.keep kr (Av.nil _ _)
      have hjz : j < Z.length := by have := hDr.len; omega
      have hjz' : j < Z'.length := by have := hG.len; omega
      have a0 := hDr.ptr j hjz
      have k0 := hDr.zone j hjz
      have hrows := hDr.rows j hlt
      obtain ⟨pa, cc, hv, hcc⟩ : ∃ pa cc, vs j = .slice pa (zs j).length cc ∧ (zs j).length ≤ cc := by
        obtain ⟨xs, ho, -⟩ := hDr.rows j hlt
        exact own_form ho
      rw [hv] at k0 hrows
      have b0 : wr.cell? ⟨Z[j], 0, none⟩ = some (.slice pa (zs j).length cc) := cell_is k0 0 rfl
      have b1 : wr.cell? ⟨Z[j], 1, none⟩ = some (.int .i64 (zs j).length) := by
        have := cell_is k0 1 (v := .int .i64 (gs j : Nat)) rfl
        rwa [HE.out j hlt] at this
      have HO := Lib.hid (fun wx (kx : Chg [] wr wx) => zown_ok wx (hrows.keep kx (Av.nil _ _) (fun _ _ => by simp)) rfl (by have := HL.out j hlt; omega))
      have h96 : (zs j).length ≤ 96 := HL.out j hlt
      have hji : (j : Int) < 8 := by omega
      have HGr := Lib.hid (And.intro kr hG)
      have kd : Chg [] wr wr.drew := (Chg.refl [] wr).drew
      have b0d : wr.drew.cell? ⟨Z[j], 0, none⟩ = some (.slice pa (zs j).length cc) := b0
      have b1d : wr.drew.cell? ⟨Z[j], 1, none⟩ = some (.int .i64 (zs j).length) := b1
      have krd := kr.then kd
      have m2r := kr.cell m2' (by simp)
      clear hDr hrows k0 hv kr hG
      generalize hZZ : Z[j] = z at *
      go_upto_region 7 with fail
      go_region_law (fail)
      all_goals
        have HKd := Lib.hid (And.intro kd krd)
        clear kd krd
        go_wp2_with fail
        refine (HP.out _ HKd.out.2 j hlt).mono ?_
        rintro e w2 ⟨x, b, rfl, rfl⟩
        cases b
        all_goals
          go_wp2_with (first | (go_at_call 75; refine (rest_one _ x).mono ?_; rintro e w2 ⟨rfl, rfl⟩))
          refine (HO.out _ HKd.out.1).mono ?_
          rintro e w3 ⟨v3, rfl, k3, r3⟩
          obtain ⟨xs3, ho3, -⟩ := id r3
          obtain ⟨p3, c3, rfl, -⟩ := own_form ho3
          have kk3 := HKd.out.1.then k3
          have hG3 := HGr.out.2.keep kk3 (Av.nil _ _)
          obtain ⟨pz, cz, hvz⟩ := (hG3.rows j hlt).len
          have hz3 := hG3.zone j hjz'
          rw [hvz] at hz3
          have n2 : w3.cell? ⟨N', 2, none⟩ = some (.slice (some ⟨A', 0, none⟩) 8 c') := cell_is hG3.hdr 2 rfl
          have na := hG3.ptr j hjz'
          have hc8 := hG3.cap
          have z0 := cell_is hz3 0 rfl
          have z1 := cell_is hz3 1 rfl
          have f0 := unfrozen hz3 0
          have f1 := unfrozen hz3 1
          have hlay := hG3.lay hjz' (v' := .slice p3 (zs j).length c3) (l' := zs j) (r3.at_.base HGr.out.1.size) (fun g hg i hi hij e => by
            obtain ⟨h1, -⟩ := own_elem ho3 hg
            obtain ⟨cs, h2⟩ := (HGr.out.2.rows i hi).block g e
            have h3 := heap_lt h2
            have h4 := HKd.out.1.size
            omega)
          rw [cutG_succ, cutZ_succ] at hlay
          have hfin := ((HGr.out.1.then kk3).new_set (HI.out.2.2 _ (List.getElem_mem hjz')) 0 (.slice p3 (zs j).length c3)).new_set (HI.out.2.2 _ (List.getElem_mem hjz')) 1 (.int .i64 (zs j).length)
          have HF := Lib.hid (And.intro hfin hlay)
          have HTk := Lib.hid (HT.out _ (HGr.out.1.then kk3) j hlt)
          clear hlay hfin hz3 hG3 hvz k3 r3 ho3 kk3
          generalize hZ2 : Z'[j] = z2 at *
          go_wp2_with fail
          refine HTk.out.mono ?_
          rintro e w4 ⟨x2, b2, rfl, rfl⟩
          cases b2
          all_goals
            go_wp2_with fail
            go_roundw
            case rel => exact ⟨j + 1, _, by go_num, by omega, HF.out.1, HF.out.2⟩
            case measure => simp [intOf]; omega
    · obtain rfl : j = 8 := by omega
      go_wp2_with fail
      go_ret
      exact ⟨N', A', c', Z', vs', rfl, kr, hG, HI.out.1, HI.out.2.1, HI.out.2.2⟩
end Go.Proofs.YtkhionhicegfmaaGreat
namespace Go.Proofs.YtkhionhicegfmaaGreat
open Go.RowKit Go.Lib

/-- a manager without transactions. -/
def s00 (lw : Nat) : Gs := ⟨.slice none 0 0, 0, 0, 0, 0, 0, false, lw, 0, [], fun _ => [], 0, [], []⟩
/-- an empty log on an empty device. -/
def g00 (lw : Nat) (ops : Int) : Gd := ⟨0, 0, 1, .slice none 0 0, 0, lw, ops, fun _ => .slice none 0 0, fun _ => 0, fun _ => []⟩
/-- the parts' places, without a transaction. -/
def d00 (N A c : Nat) (Z : List Nat) (P S M X rx B rb r : Nat) : Ids := ⟨P, N, S, M, X, rx, B, rb, r, A, c, Z, 0, 0, 0, 0, 0⟩
theorem Mk.sto {w wx : World} {lw N A c : Nat} {ops : Int} {Z : List Nat} {P S M X rx B rb r : Nat} (h : Mk w wx N A c ops Z P S M X rx B rb r) (hx : ExAt wx S N A Z) (n1 : rx ≠ rb) (n2 : r ≠ rb) (n3 : r ≠ rx) (hb : lw ≤ P ∧ lw ≤ N ∧ lw ≤ S ∧ lw ≤ M ∧ lw ≤ X ∧ lw ≤ rx ∧ lw ≤ B ∧ lw ≤ rb ∧ lw ≤ r) (hZ : ∀ z ∈ Z, lw ≤ z) (hl : lw ≤ wx.heap.size) :
    Sto wx lw (d00 N A c Z P S M X rx B rb r) (s00 lw) (g00 lw ops) := by
  obtain ⟨k2, hD2, hP2, hS2, hm2, hx2, hb2, hr2⟩ := h
  exact ⟨hP2, hS2, Or.inl rfl, hD2.full hx lw, ⟨hm2, hx2.full lw, hb2, hr2, n1, n2, n3⟩, fun b c v u g _ h => (by cases h), fun p hp => (by cases hp), ⟨hb.1, hb.2.1, hb.2.2.1, hb.2.2.2.1, hb.2.2.2.2.1, hb.2.2.2.2.2.1, hb.2.2.2.2.2.2.1, hb.2.2.2.2.2.2.2.1, hb.2.2.2.2.2.2.2.2, Nat.le_refl _, Nat.le_refl _⟩, hZ, hl, hb.2.1⟩
/-- a transaction's state is kept where other blocks change. -/
theorem Su.keepA {w w' : World} {U : List Nat} {base : Nat} {d : Ids} {p : Par} {F : World → Prop} {q : Int → List UInt8} {L : List (Int × Value)} {n : Nat} (h : Su w base d p F q L n) (hc : Chg U w w') (hU : Av w U [202, 266, 270, 241, 285, 296, 5]) (hr : d.rw ∉ U) (hF : F w') : Su w' base d p F q L n := by
  have sub : ∀ ts : List Nat, (∀ t ∈ ts, t ∈ [202, 266, 270, 241, 285, 296, 5]) → Av w U ts := fun ts hts x hx cs t fr hh ht => hU x hx cs t fr hh (hts t ht)
  refine ⟨hF, hc.heap h.tx (hU.ne h.tx (by simp)), h.buf.keep hc (hU.ne h.buf.1 (by simp)) hr, h.keys, fun b h0 h1 => ?_, h.vw.keep hc (sub _ (by decide)), h.sp.keep hc (sub _ (by decide)), h.high⟩
  rcases h.blk b h0 h1 with e | ⟨g, c, e1, e2, e3, e4⟩
  · exact Or.inl e
  · have hn : g ∉ U := Bt.av e4 hU (by simp)
    exact Or.inr ⟨g, c, e1, e2.chgT hc hn, e3, Bt.keep e4 hc hn⟩
end Go.Proofs.YtkhionhicegfmaaGreat
namespace Go.Proofs.YtkhionhicegfmaaGreat
open Go.RowKit Go.Lib

set_option maxRecDepth 100000 in
theorem least24 (w : World) : Calls Tryz.prog 12 #[] w fun e w' => e = .returned (.agg #[.int .i64 8, .int .i64 96]) ∧ Chg [] w w' := by
  have k1 : Chg [] w (w.alloc (.cells #[.int .i64 8, .int .i64 96] 29)) := Chg.alloc w _
  have y1 := heap_new w (.cells #[.int .i64 8, .int .i64 96] 29)
  have c0 := cell_is y1 0 rfl
  have c1 := cell_is y1 1 rfl
  go_enter Tryz.func12, Tryz.ntmps12
  go_wp2_with fail
  refine bodyPost_ret (v := .agg #[.int .i64 8, .int .i64 96]) (by simp [results, Tryz.results12, go_sem]) rfl ?_
  exact ⟨rfl, k1⟩
/-- a new world of law 24: block K, its store, all of it new. -/
def Fr24 (w : World) (e : Ending) (w' : World) : Prop :=
  ∃ K G d ops, e = .returned (.tuple #[.pointer (some ⟨K, 0, none⟩), .bool true]) ∧ Chg [] w w' ∧ w'.heap[K]? = some (.cells #[.pointer (some ⟨d.N, 0, none⟩), .pointer (some ⟨d.P, 0, none⟩), .pointer (some ⟨G, 0, none⟩), .int .i64 0] 56 (0, 0)) ∧
    Sto w' w.heap.size d (s00 w.heap.size) (g00 w.heap.size ops) ∧ (0 ≤ ops ∧ ops ≤ 2)
set_option maxRecDepth 100000 in
set_option maxHeartbeats 4000000 in
theorem fresh24 (w : World) : Calls Tryz.prog 25 #[.agg #[.int .i64 8, .int .i64 96]] w (Fr24 w) := by
  have kg : Chg [] w (w.alloc (.cells #[.int .i64 8, .int .i64 96] 29)) := Chg.alloc w _
  have g0 := heap_new w (.cells #[.int .i64 8, .int .i64 96] 29)
  have a0 : (w.alloc (.cells #[.int .i64 8, .int .i64 96] 29)).cell? ⟨w.heap.size, 0, none⟩ = some (.int .i64 8) := cell_is g0 0 rfl
  have a1 : (w.alloc (.cells #[.int .i64 8, .int .i64 96] 29)).cell? ⟨w.heap.size, 1, none⟩ = some (.int .i64 96) := cell_is g0 1 rfl
  go_enter Tryz.func25, Tryz.ntmps25
  go_wp2_with fail
  generalize w.alloc (.cells #[.int .i64 8, .int .i64 96] 29) = w0 at *
  have hw0 := kg.size
  generalize hz0 : w.heap.size = z0 at *
  refine (new_any2 w0).mono ?_
  rintro e w1 ⟨N, A, c, Z, rfl, k1, hD, hO, lN, lA, lZ, hAx, hZn⟩
  have g1 := k1.heap g0 (by simp)
  have hs1 := k1.size
  have hAl := hD.A_lt
  have hNl := heap_lt hD.1
  have hZl : ∀ z ∈ Z, z < w1.heap.size := fun z hz => by
    obtain ⟨j, hj, e⟩ := List.getElem_of_mem hz
    rw [← e]
    exact heap_lt (hD.2.2.2.2 j hj)
  clear a0 a1
  go_wp2_with fail
  refine (mount_any w1 hD hO hZl (by omega) (by omega)).mono ?_
  rintro e w2 ⟨P, S, M, X, rx, B, rb, r, rfl, hM, lP, lS, lM, lX, lrx, lB, lrb, lr, n1, n2, n3⟩
  have h0l := heap_lt g0
  have k2 := hM.1
  have hX2 : ExAt w2 S N A Z := by
    obtain ⟨cs, hAx⟩ := hAx
    exact ⟨hM.2.2.2.1, ⟨cs, k2.heap hAx (by intro hm; rcases List.mem_cons.1 hm with e | hm; exact hO.1 e; exact hO.2.2 hm)⟩, hZn⟩
  have g2 := k2.heap g1 (by
    intro hm
    rcases List.mem_cons.1 hm with e | hm
    · omega
    · have := lZ _ hm; omega)
  have hs2 := k2.size
  have b0 : w2.cell? ⟨z0, 0, none⟩ = some (.int .i64 8) := cell_is g2 0 rfl
  have b1 : w2.cell? ⟨z0, 1, none⟩ = some (.int .i64 96) := cell_is g2 1 rfl
  have hSt := hM.sto (lw := z0) hX2 n1 n2 n3 (by omega) (fun z hz => by have := lZ z hz; omega) (by omega)
  have kk2 : Chg [] w w2 := (kg.then k1).trans k2 (fun x hx hlt => by
    rcases List.mem_cons.1 hx with e | hx
    · have := kg.size; omega
    · have := lZ x hx; have := kg.size; omega)
  have HM := Lib.hid hM
  clear hD hO hM hX2 k2 g1 g0 k1 kg
  go_wp2_with fail
  refine (rcap_min w2).mono ?_
  rintro e w3 ⟨rfl, k3⟩
  have h3 := hSt.keep k3
  have kk3 := kk2.then k3
  clear b0 b1
  go_wp2_with fail
  refine (rm_new w3).mono ?_
  rintro e w4 ⟨G, Y, rfl, k4, -, lG⟩
  have h4 := h3.keep k4
  have kk4 := kk3.then k4
  have g4 := (k3.then k4).heap g2 (by simp)
  have HM4 := Lib.hid (HM.out.keep (k3.then k4))
  have H4 := Lib.hid (And.intro kk4 h4)
  have b0 : w4.cell? ⟨z0, 0, none⟩ = some (.int .i64 8) := cell_is g4 0 rfl
  have b1 : w4.cell? ⟨z0, 1, none⟩ = some (.int .i64 96) := cell_is g4 1 rfl
  clear h3 h4 hSt kk3 kk2 kk4 k3 k4 g2 HM
  have kk : Chg [] w4 w4 := Chg.refl _ _
  have hh : ∀ wx, Chg [] w4 wx → Chg [] w4 wx ∧ wx.cell? ⟨z0, 0, none⟩ = some (.int .i64 8) ∧ wx.cell? ⟨z0, 1, none⟩ = some (.int .i64 96) := fun wx k => ⟨k, k.cell b0 (by simp), k.cell b1 (by simp)⟩
  have hBl : ∀ wx, Chg [] w4 wx → Calls Tryz.prog 29 #[.pointer (some ⟨P, 0, none⟩)] wx fun e w' => e = .returned (.int .i64 258) ∧ Chg [] wx w' := fun wx k => by
    have h := HM4.out.keep k
    exact sblocks_any wx h.2.2.1 h.2.1
  have HBl := Lib.hid hBl
  have hfin : ∀ K wx, Chg [] w4 wx → wx.heap[K]? = some (.cells #[.pointer (some ⟨N, 0, none⟩), .pointer (some ⟨P, 0, none⟩), .pointer (some ⟨G, 0, none⟩), .int .i64 0] 56 (0, 0)) → Fr24 w (.returned (.tuple #[.pointer (some ⟨K, 0, none⟩), .bool true])) wx := fun K wx k y =>
    ⟨K, G, d00 N A c Z P S M X rx B rb r, 0 + 1, rfl, H4.out.1.then k, y, by rw [hz0]; exact H4.out.2.keep k, by omega⟩
  have HFin := Lib.hid hfin
  have HH := Lib.hid hh
  clear hBl hh hfin
  go_wp2_with fail
  go_region_held3 (fun wx => Chg [] w4 wx ∧ wx.cell? ⟨z0, 0, none⟩ = some (.int .i64 8) ∧ wx.cell? ⟨z0, 1, none⟩ = some (.int .i64 96))
    (first
      | (exact HH.out _ kk)
      | (exact HH.out _ kk.drew)
      | (exact HH.out _ (kk.then_alloc _))
      | (exact HH.out _ (kk.drew.then_alloc _)))
    (first
      | (go_at_call 29; refine (HBl.out _ (by first | exact kk | exact kk.drew | exact kk.then_alloc _ | exact kk.drew.then_alloc _)).mono ?_; rintro e wb ⟨rfl, kb⟩; replace kk : Chg [] w4 wb := (by first | exact kk.then kb | exact kk.drew.then kb | exact (kk.then_alloc _).then kb | exact (kk.drew.then_alloc _).then kb))
      | (go_at_call 79; refine (rcap_min _).mono ?_; rintro e wc ⟨rfl, kc⟩; replace kk : Chg [] w4 wc := (by first | exact kk.then kc | exact kk.drew.then kc | exact (kk.then_alloc _).then kc | exact (kk.drew.then_alloc _).then kc)))
  all_goals
    have HK := Lib.hid (And.intro kb (And.intro kc kk))
    clear kb kc kk
    go_wp2_with fail
    go_ret2
    first
      | (exact HFin.out _ _ HK.out.2.2 ((HK.out.1.then HK.out.2.1).heap (heap_new w4 _) (by simp)))
      | (exact HFin.out _ _ HK.out.2.2 (HK.out.2.1.heap (heap_new wb _) (by simp)))
      | (exact HFin.out _ _ (HK.out.2.2.then_alloc _) (heap_new wc _))
      | (exact HFin.out _ _ (HK.out.2.2.drew.then_alloc _) (heap_new wc _))
end Go.Proofs.YtkhionhicegfmaaGreat
namespace Go.Proofs.YtkhionhicegfmaaGreat
open Go.RowKit Go.Lib

theorem Ow.chg0 {base : Nat} {w0 w w' : World} (h : Chg [] w0 w) (k : Ow base w w') (hb : w0.heap.size ≤ base) : Chg [] w0 w' := by
  obtain ⟨T, h1, h2⟩ := k
  exact h.trans h1 (fun x hx hlt => by have := (h2 x hx).1; omega)
/-- a store with an open transaction: base, its parts. -/
def A1 (lw : Nat) (d : Ids) (ops : Int) (q : Int → List UInt8) (L : List (Int × Value)) (w : World) : Prop :=
  ∃ base d', d'.P = d.P ∧ d'.N = d.N ∧ Fr base d' (begP (s00 lw)) (StoF lw d' (begS (s00 lw) d'.T) (g00 lw ops)) ∧ Su w base d' (begP (s00 lw)) (StoF lw d' (begS (s00 lw) d'.T) (g00 lw ops)) q L 0 ∧ lw ≤ d'.T ∧ lw ≤ base
theorem A1.keep {lw : Nat} {d : Ids} {ops : Int} {q : Int → List UInt8} {L : List (Int × Value)} {w w' : World} (h : A1 lw d ops q L w) (hc : Chg [] w w') : A1 lw d ops q L w' := by
  obtain ⟨base, d', h1, h2, h3, h4, h5, h6⟩ := h
  exact ⟨base, d', h1, h2, h3, h4.keep h3 hc, h5, h6⟩
theorem A1.size {lw : Nat} {d : Ids} {ops : Int} {q : Int → List UInt8} {L : List (Int × Value)} {w : World} (h : A1 lw d ops q L w) : lw ≤ w.heap.size := by
  obtain ⟨base, d', h1, h2, h3, h4, h5, h6⟩ := h
  have hS : Sto w lw d' (begS (s00 lw) d'.T) (g00 lw ops) := h4.env
  exact hS.slo
/-- what begin leaves. -/
theorem beg24 (w : World) {lw : Nat} {d : Ids} {ops : Int} (h : Sto w lw d (s00 lw) (g00 lw ops)) : Calls Tryz.prog 16 #[.pointer (some ⟨d.P, 0, none⟩)] w fun e w' => e = .returned (.tuple #[.int .i64 1, .int .i64 0]) ∧ Cs lw w w' ∧ ∃ q, A1 lw d ops q [] w' := by
  have hl : d.rx < w.heap.size ∧ d.rb < w.heap.size ∧ d.r < w.heap.size := ⟨h.mx.ver.m.lt, h.mx.book.2.lt, h.mx.map.lt⟩
  have hlw : lw ≤ w.heap.size := h.slo
  refine (sbegin_gen w h rfl (show (0 : Int) ≤ 0 by decide) (show (0 : Int) ≤ 1099511627776 by decide) (show (0 : Int) ≤ 0 by decide) (show (0 : Int) ≤ 1000000 by decide)).mono ?_
  rintro e w' ⟨rfl, T, W, rw, Q, V, c1, hT, hSu⟩
  exact ⟨rfl, c1, _, w.heap.size, { d with T := T, W := W, rw := rw, Q := Q, V := V }, rfl, rfl, fr_sto hl rfl rfl rfl rfl rfl, hSu, Nat.le_trans hlw hT, hlw⟩
/-- .. a put of forty bytes is written. -/
theorem wri24 (w : World) {lw : Nat} {d : Ids} {ops : Int} {q : Int → List UInt8} {E D c cp : Nat} {b : Int} {l : List UInt8} (h : A1 lw d ops q [] w) (e0 : w.cell? ⟨E, 0, none⟩ = some (.int .i64 b)) (e1 : w.cell? ⟨E, 1, none⟩ = some (.slice (some ⟨D, 0, none⟩) 40 c)) (hb : Bs w (some ⟨D, 0, none⟩) l) (hl : l.length = 40) (h0 : 0 ≤ b) (h1 : b < 258) :
    Calls Tryz.prog 17 #[.pointer (some ⟨d.P, 0, none⟩), .int .i64 1, .slice (some ⟨E, 0, none⟩) 1 cp] w fun e w' => e = .returned (.int .i64 0) ∧ (∃ base, lw ≤ base ∧ Ow base w w') ∧ ∃ v, A1 lw d ops (putQ q b l) [(b, v)] w' := by
  obtain ⟨base, d', eP, eN, hf, hs, hT, hbs⟩ := h
  rw [← eP]
  refine (swrite_gen w (cp := cp) (eo := 0) hf hs e0 e1 hb hl h0 h1 (by simp)).mono ?_
  rintro e w' ⟨v, rfl, ho, hs'⟩
  exact ⟨rfl, ⟨base, hbs, ho⟩, v, base, d', eP, eN, hf, hs', hT, hbs⟩
/-- a store with a transaction that waits. -/
def A3 (lw : Nat) (d : Ids) (ops : Int) (q : Int → List UInt8) (L : List (Int × Value)) (w : World) : Prop :=
  ∃ d' gq cq, d'.P = d.P ∧ d'.N = d.N ∧ Sto w lw d' (comS (begS (s00 lw) d'.T) gq cq) (g00 lw ops) ∧ Wtx w d' (comS (begS (s00 lw) d'.T) gq cq) gq cq 1 1 0 0 L q ∧ lw ≤ d'.T
theorem A3.keep {lw : Nat} {d : Ids} {ops : Int} {q : Int → List UInt8} {L : List (Int × Value)} {w w' : World} (h : A3 lw d ops q L w) (hc : Chg [] w w') : A3 lw d ops q L w' := by
  obtain ⟨d', gq, cq, h1, h2, h3, h4, h5⟩ := h
  exact ⟨d', gq, cq, h1, h2, h3.keep hc, h4.keep hc, h5⟩
theorem com24 (w : World) {lw : Nat} {d : Ids} {ops : Int} {q : Int → List UInt8} {L : List (Int × Value)} (h : A1 lw d ops q L w) (hl0 : 0 < L.length) (hl : L.length ≤ 12) : Calls Tryz.prog 19 #[.pointer (some ⟨d.P, 0, none⟩), .int .i64 1] w fun e w' => e = .returned (.int .i64 0) ∧ Cs lw w w' ∧ A3 lw d ops q L w' := by
  have hsz := h.size
  obtain ⟨base, d', eP, eN, hf, hs, hT, hbs⟩ := h
  rw [← eP]
  refine (scommit_sto w (loq := lw) (n := 0) (k := 1) hf hs rfl (World.ownsRow_nil _ _ _ _) hsz (Nat.le_refl _) rfl ⟨fun p hp => (by cases hp), fun b x hx => (by cases hx)⟩ rfl (show (0 : Int) < 1099511627776 by decide) (show (0 : Int) ≤ 0 by decide) hl hl0 (by omega) rfl rfl hT).mono ?_
  rintro e w' ⟨rfl, gq, cq, h1, h2, h3⟩
  exact ⟨rfl, h3, d', gq, cq, eP, eN, h1, h2, hT⟩
/-- a device with one batch, all of it for good. -/
def A4 (d : Ids) (l : List (Int × List UInt8)) (w : World) : Prop :=
  ∃ base A c ops Z vs gs zs, DevG w base d.N A c ops Z vs gs zs ∧ (∀ j, j < 8 → gs j = (zs j).length) ∧ (∀ j, j ≠ 6 → zs j = []) ∧ zs 6 = logL 0 1 [(1, l)]
theorem A4.keep {d : Ids} {l : List (Int × List UInt8)} {w w' : World} (h : A4 d l w) (hc : Chg [] w w') : A4 d l w' := by
  obtain ⟨base, A, c, ops, Z, vs, gs, zs, h1, h2⟩ := h
  exact ⟨base, A, c, ops, Z, vs, gs, zs, h1.keep hc (Av.nil _ _), h2⟩
theorem flu24 (w : World) {lw : Nat} {d : Ids} {ops : Int} {q : Int → List UInt8} {L : List (Int × Value)} (h : A3 lw d ops q L w) (hops : 0 ≤ ops ∧ ops ≤ 2) : Calls Tryz.prog 20 #[.pointer (some ⟨d.P, 0, none⟩)] w fun e w' => e = .returned (.int .i64 0) ∧ Cs lw w w' ∧ A4 d (putsL L q) w' := by
  obtain ⟨d', gq, cq, eP, eN, hS, hW, hT⟩ := h
  have hlw : lw ≤ w.heap.size := hS.slo
  have hL := hW.len
  rw [← eP]
  refine (sflush_ok w (k := 1) hS hW rfl hT hlw (by decide) (show (0 : Int) < 1 by decide) (by decide) (fun c => (show 0 + 16 < 1000000 by decide)) (show (0 : Int) ≤ 0 by decide) (show (0 : Int) ≤ 100000000 by decide) (by show 0 + L.length + 1 ≤ 96; omega) (by show 0 + L.length + 1 ≤ 96; omega) (show 0 ≤ ops by omega) (show ops ≤ 100000 by omega) (show 0 < 4294967296 by decide) (show 0 < 1000000000 by decide)).mono ?_
  rintro e w' ⟨rfl, z, Lv', v6, h1, h2, -⟩
  refine ⟨rfl, h2, _, d'.A, d'.c, _, d'.Z, _, _, _, by rw [← eN]; exact h1.dev, fun j hj => ?_, fun j hj => ?_, ?_⟩
  · simp [doneG, goodF, hj]
  · simp [doneG, upF, hj, g00]
  · simp [doneG, upF, g00, logL]
end Go.Proofs.YtkhionhicegfmaaGreat
namespace Go.Proofs.YtkhionhicegfmaaGreat
open Go.RowKit Go.Lib

theorem data1 (w : World) : Calls Tryz.prog 18 #[.int .i64 1] w fun e w' => ∃ g, e = .returned (.slice (some ⟨g, 0, none⟩) 40 40) ∧ Chg [] w w' ∧ w.heap.size ≤ g ∧ Fo w' g (datB 1) := data_ex w 1 (by decide)
theorem sortI_one (k : Int) : sortI [k] = [k] := by simp [sortI]
theorem putsL_one (k : Int) (v : Value) (D : Int → List UInt8) : putsL [(k, v)] D = [(k, D k)] := by simp [putsL, sortI]
theorem fin_one (k : Int) (b : List UInt8) : finL [(k, b)] = [(k, b)] := by simp [finL, appK, appD, sortI]
theorem getL_mem {L : List (Int × Value)} {k : Int} {v : Value} (h : getL L k = some v) : k ∈ L.map Prod.fst := by
  induction L with
  | nil => cases h
  | cons p l ih =>
    simp only [getL] at h
    by_cases e : k = p.1
    · simp [e]
    · rw [if_neg e] at h
      exact List.mem_cons_of_mem _ (ih h)
theorem ver_one {w : World} {lo X rx : Nat} {last : Int} {L : List (Int × Value)} {k : Int} {b : List UInt8} (h : VerG w lo X rx last L (applyV (fun _ => []) k [(5, b)])) (hk : ∀ p ∈ L, 0 ≤ p.1 ∧ p.1 < 258) : L.map Prod.fst = [5] ∧ dumpL L (applyV (fun _ => []) k [(5, b)]) = [(5, b)] := by
  have hv : ∀ j, applyV (fun _ => []) k [(5, b)] j = if j = 5 then [(k, b)] else [] := fun j => by simp [applyV, addV]
  have h5 : L.map Prod.fst = [5] := by
    have hall : ∀ x ∈ L.map Prod.fst, x = 5 := by
      intro x hx
      obtain ⟨v, hg⟩ := getL_key hx
      obtain ⟨p, hp, rfl⟩ := List.mem_map.1 hx
      have hb := hk p hp
      rcases h.row p.1 hb.1 hb.2 with ⟨e, -⟩ | ⟨_, _, _, e⟩
      · rw [hg] at e; cases e
      · rw [hv] at e
        by_cases e5 : p.1 = 5
        · exact e5
        · rw [if_neg e5] at e
          exact absurd rfl e
    have hmem : (5 : Int) ∈ L.map Prod.fst := by
      rcases h.row 5 (by decide) (by decide) with ⟨-, e⟩ | ⟨v, e, -⟩
      · rw [hv] at e
        simp at e
      · exact getL_mem e
    have hnd := h.m.nodup
    generalize L.map Prod.fst = K at *
    match K, hall, hmem, hnd with
    | [x], hall, _, _ => rw [hall x (by simp)]
    | x :: y :: K, hall, _, hnd =>
      have e1 := hall x (by simp)
      have e2 := hall y (by simp)
      subst e1
      subst e2
      simp at hnd
  refine ⟨h5, ?_⟩
  rw [dumpL, h5, sortI_one]
  simp [hv, lastB]
theorem bs_one (b : List UInt8) (hb : b.length = 40) : BsOk [(1, [(5, b)])] := by
  refine ⟨fun i h => ?_, fun i h => ?_, ?_, by simp⟩
  · obtain rfl : i = 0 := by simpa using h
    exact ⟨by simp [lastT], by simp⟩
  · obtain rfl : i = 0 := by simpa using h
    refine ⟨by simp, by simp, fun j hj => by simp at hj, fun x hx => ?_, fun x hx => ?_⟩
    · have : x = (5, b) := by simpa using hx
      subst this
      exact ⟨show (0 : Int) ≤ 5 by decide, show (5 : Int) < 258 by decide⟩
    · have : x = (5, b) := by simpa using hx
      subst this
      exact hb
  · simp [logL, batL_length]
theorem fin_all (k : Nat) (b : List UInt8) : finL (allP [(k, [(5, b)])]) = [(5, b)] := fin_one 5 b
/-- a device that a crash left is mounted. -/
theorem mount_one (w : World) {b : List UInt8} {w0 : World} {N A c : Nat} {Z : List Nat} {vs : Nat → Value} {gs : Nat → Nat} {zs : Nat → List (List UInt8)} {base : Nat} (hb : b.length = 40) (hD : DevG w base N A c 0 Z vs gs zs) (hz : zs 0 = [] ∧ zs 3 = [] ∧ zs 7 = []) (h6 : zs 6 = logL 0 1 [(1, [(5, b)])]) (k : Chg [] w0 w) (lN : w0.heap.size ≤ N) (lZ : ∀ z ∈ Z, w0.heap.size ≤ z) :
    Calls Tryz.prog 13 #[.pointer (some ⟨N, 0, none⟩)] w fun e w' => ∃ P S M X rx B r lo Lv pos num, e = .returned (.tuple #[.pointer (some ⟨P, 0, none⟩), .int .i64 0]) ∧ Chg [] w0 w' ∧ StoreG w' P N S M pos num ∧ MgrG w' M X B r (.slice none 0 0) 0 0 1 1 1 false ∧ VerG w' lo X rx 1 Lv (applyV (fun _ => []) 1 [(5, b)]) ∧ (∀ p ∈ Lv, 0 ≤ p.1 ∧ p.1 < 258) ∧ Lv.length ≤ 1000 := by
  have e6 : (zs 6).length = 2 := by rw [h6]; simp [logL, batL_length]
  have hf : (finL (allP [(1, [(5, b)])])).length = 1 := by rw [fin_all]; rfl
  have hlt : ∀ z ∈ Z, z < w.heap.size := fun z hz => by
    obtain ⟨j, hj, e⟩ := List.getElem_of_mem hz
    rw [← e]
    exact heap_lt (hD.zone j hj)
  refine (kmount w hD.k hz h6 (bs_one b hb) (by simp) (by omega) (by omega) (by omega) hlt (heap_lt hD.hdr) (by decide) (by decide) (by decide) (by decide) (show 0 < 1 ∧ 1 ≤ 1099511627776 by decide) (fun x hx => ?_)).mono ?_
  · have : x = (5, b) := by simpa [allP] using hx
    subst this
    exact ⟨show (0 : Int) ≤ 5 by decide, show (5 : Int) < 258 by decide⟩
  · rintro e w' ⟨P, S, M, X, rx, B, rb, r, lo, Lv, rfl, h⟩
    rw [fin_all] at h
    have hV : VerG w' lo X rx 1 Lv (applyV (fun _ => []) 1 [(5, b)]) := h.ver
    refine ⟨P, S, M, X, rx, B, r, lo, Lv, _, _, rfl, k.trans h.chg (fun x hx hlt => ?_), h.store, h.mgr, hV, h.keys, ?_⟩
    · rcases List.mem_cons.1 hx with e | hx
      · omega
      · have := lZ x hx; omega
    · have := congrArg List.length (ver_one hV h.keys).1
      rw [List.length_map] at this
      simp at this
      omega
/-- what stands in a world of law 24. -/
def W24 (w0 : World) (K G : Nat) (d : Ids) (F : World → Prop) (w : World) : Prop :=
  F w ∧ w.heap[K]? = some (.cells #[.pointer (some ⟨d.N, 0, none⟩), .pointer (some ⟨d.P, 0, none⟩), .pointer (some ⟨G, 0, none⟩), .int .i64 0] 56 (0, 0)) ∧ Chg [] w0 w
theorem W24.keep {w0 : World} {K G : Nat} {d : Ids} {F : World → Prop} {w w' : World} (hF : ∀ a b, F a → Chg [] a b → F b) (h : W24 w0 K G d F w) (hc : Chg [] w w') : W24 w0 K G d F w' := ⟨hF _ _ h.1 hc, hc.heap h.2.1 (by simp), h.2.2.then hc⟩
theorem W24.p {w0 : World} {K G : Nat} {d : Ids} {F : World → Prop} {w : World} (h : W24 w0 K G d F w) : w.cell? ⟨K, 1, none⟩ = some (.pointer (some ⟨d.P, 0, none⟩)) := cell_is h.2.1 1 rfl
theorem W24.n {w0 : World} {K G : Nat} {d : Ids} {F : World → Prop} {w : World} (h : W24 w0 K G d F w) : w.cell? ⟨K, 0, none⟩ = some (.pointer (some ⟨d.N, 0, none⟩)) := cell_is h.2.1 0 rfl
set_option maxRecDepth 100000 in
set_option maxHeartbeats 8000000 in
theorem awake24 (w : World) : Calls Tryz.prog 10 #[] w fun e w' => e = .returned (.bool true) ∧ Chg [] w w' := by
  go_enter Tryz.func10, Tryz.ntmps10
  go_wp2_with fail
  refine (least24 w).mono ?_
  rintro e w1 ⟨rfl, k1⟩
  go_wp2_with fail
  refine (fresh24 w1).mono ?_
  rintro e w2 ⟨K, G, d, ops, rfl, k2, hK, hS, ho⟩
  have c1 : w2.cell? ⟨K, 1, none⟩ = some (.pointer (some ⟨d.P, 0, none⟩)) := cell_is hK 1 rfl
  have HB := Lib.hid (beg24 w2 hS)
  have H2 := Lib.hid (And.intro k1 (And.intro k2 (And.intro hK ho)))
  clear k1 k2 hK hS ho
  go_wp2_with fail
  refine HB.out.mono ?_
  rintro e w3 ⟨rfl, cs3, q, hA3⟩
  have h3 : W24 w1 K G d (A1 w1.heap.size d ops q []) w3 := ⟨hA3, cs3.heap H2.out.2.2.1 (by decide), Cs.chg0 H2.out.2.1 cs3 (Nat.le_refl _)⟩
  have f1 : ∀ a b, A1 w1.heap.size d ops q [] a → Chg [] a b → A1 w1.heap.size d ops q [] b := fun a b h k => h.keep k
  have hWr : ∀ w4 D, W24 w1 K G d (A1 w1.heap.size d ops q []) w4 → Fo w4 D (datB 1) → ∀ wx E cp, Chg [] w4 wx → wx.heap[E]? = some (.cells #[.int .i64 5, .slice (some ⟨D, 0, none⟩) 40 40] 43 (0, 0)) →
      Calls Tryz.prog 17 #[.pointer (some ⟨d.P, 0, none⟩), .int .i64 1, .slice (some ⟨E, 0, none⟩) 1 cp] wx fun e w' => e = .returned (.int .i64 0) ∧ ∃ v, W24 w1 K G d (A1 w1.heap.size d ops (putQ q 5 (datB 1)) [(5, v)]) w' := fun w4 D h4 hF wx E cp kx hE => by
    have hx := h4.keep f1 kx
    refine (wri24 wx (cp := cp) hx.1 (cell_is hE 0 rfl) (cell_is hE 1 rfl) (hF.bs.chg kx) (datB_length 1) (by decide) (by decide)).mono ?_
    rintro e w' ⟨rfl, ⟨b, hb, o⟩, v, hA⟩
    exact ⟨rfl, v, hA, o.heap hx.2.1 (by decide), Ow.chg0 hx.2.2 o hb⟩
  have hCo : ∀ v wx, W24 w1 K G d (A1 w1.heap.size d ops (putQ q 5 (datB 1)) [(5, v)]) wx → Calls Tryz.prog 19 #[.pointer (some ⟨d.P, 0, none⟩), .int .i64 1] wx fun e w' => e = .returned (.int .i64 0) ∧ W24 w1 K G d (A3 w1.heap.size d ops (putQ q 5 (datB 1)) [(5, v)]) w' := fun v wx hx => by
    refine (com24 wx hx.1 (by simp) (by simp)).mono ?_
    rintro e w' ⟨rfl, c, hA⟩
    exact ⟨rfl, hA, c.heap hx.2.1 (by decide), Cs.chg0 hx.2.2 c (Nat.le_refl _)⟩
  have hFl : ∀ v wx, W24 w1 K G d (A3 w1.heap.size d ops (putQ q 5 (datB 1)) [(5, v)]) wx → Calls Tryz.prog 20 #[.pointer (some ⟨d.P, 0, none⟩)] wx fun e w' => e = .returned (.int .i64 0) ∧ W24 w1 K G d (A4 d [(5, datB 1)]) w' := fun v wx hx => by
    refine (flu24 wx hx.1 H2.out.2.2.2).mono ?_
    rintro e w' ⟨rfl, c, hA⟩
    rw [putsL_one, show putQ q 5 (datB 1) 5 = datB 1 by simp [putQ]] at hA
    exact ⟨rfl, hA, c.heap hx.2.1 (by decide), Cs.chg0 hx.2.2 c (Nat.le_refl _)⟩
  have f1' : ∀ {v : Value} a b, A1 w1.heap.size d ops (putQ q 5 (datB 1)) [(5, v)] a → Chg [] a b → A1 w1.heap.size d ops (putQ q 5 (datB 1)) [(5, v)] b := fun a b h k => h.keep k
  have f3 : ∀ {v : Value} a b, A3 w1.heap.size d ops (putQ q 5 (datB 1)) [(5, v)] a → Chg [] a b → A3 w1.heap.size d ops (putQ q 5 (datB 1)) [(5, v)] b := fun a b h k => h.keep k
  have HWr := Lib.hid hWr
  have HCo := Lib.hid hCo
  have HFl := Lib.hid hFl
  clear hWr hCo hFl hA3 cs3 c1 HB
  have p3 := h3.p
  have p3d : w3.drew.cell? ⟨K, 1, none⟩ = some (.pointer (some ⟨d.P, 0, none⟩)) := p3
  go_wp2_with fail
  go_region_held3 (fun wx => wx.cell? ⟨K, 1, none⟩ = some (.pointer (some ⟨d.P, 0, none⟩)))
    (first
      | (exact p3)
      | (exact p3d)
      | (exact pA _)
      | (exact p5)
      | (exact p5d)
      | (exact p6)
      | (exact p6d)
      | (exact p7)
      | (exact p7d))
    (first
      | (go_at_call 18; refine (data1 _).mono ?_; rintro e w4 ⟨D, rfl, k4, lD, hF⟩; have h4 : W24 w1 K G d (A1 w1.heap.size d ops q []) w4 := (by first | exact h3.keep f1 k4 | exact h3.keep f1 ((Chg.refl [] w3).drew.then k4)); have p3 := h4.p; have p3d : w4.drew.cell? ⟨K, 1, none⟩ = some (.pointer (some ⟨d.P, 0, none⟩)) := p3; have pA : ∀ o, (w4.alloc o).cell? ⟨K, 1, none⟩ = some (.pointer (some ⟨d.P, 0, none⟩)) := fun o => (Chg.alloc (S := []) w4 o).cell p3 (by simp))
      | (go_at_call 17; refine (HWr.out w4 D h4 hF _ _ _ (by first | exact Chg.alloc _ _ | exact (Chg.alloc _ _).drew | exact (Chg.refl [] _).drew.then_alloc _) (by first | exact heap_new _ _)).mono ?_; rintro e w5 ⟨rfl, v5, h5⟩; have p5 := h5.p; have p5d : w5.drew.cell? ⟨K, 1, none⟩ = some (.pointer (some ⟨d.P, 0, none⟩)) := p5)
      | (go_at_call 19; refine (HCo.out v5 _ (by first | exact h5 | exact h5.keep f1' (Chg.refl [] w5).drew)).mono ?_; rintro e w6 ⟨rfl, h6⟩; have p6 := h6.p; have p6d : w6.drew.cell? ⟨K, 1, none⟩ = some (.pointer (some ⟨d.P, 0, none⟩)) := p6)
      | (go_at_call 20; refine (HFl.out v5 _ (by first | exact h6 | exact h6.keep f3 (Chg.refl [] w6).drew)).mono ?_; rintro e w7 ⟨rfl, h7⟩; have p7 := h7.p; have p7d : w7.drew.cell? ⟨K, 1, none⟩ = some (.pointer (some ⟨d.P, 0, none⟩)) := p7))
  all_goals
    have n7 := h7.n
    obtain ⟨base, A, c, ops', Z, vs, gs, zs, hD, hgs, hz, hz6⟩ := h7.1
    have hz96 : ∀ j, j < 8 → (zs j).length ≤ 96 := fun j hj => by
      by_cases e : j = 6
      · subst e
        rw [hz6]
        simp [logL, batL_length]
      · rw [hz j e]
        simp
    have HCr := Lib.hid (crash_ok w7 hD.k hgs hz96 (pick_nil w7) (pick_nil w7))
    have H7 := Lib.hid (H2.out.1.then h7.2.2)
    have HZ := Lib.hid (And.intro hz hz6)
    clear h7 hD hgs hz hz6 hz96 h6 h5 h4 h3 p3 p3d pA p5 p5d p6 p6d p7 p7d hF k4 lD f1 f1' f3
    go_wp2_with fail
    refine HCr.out.mono ?_
    rintro e w8 ⟨N', A', c', Z', vs', rfl, k8, hD8, lN, lA, lZ⟩
    have HMt := Lib.hid (mount_one w8 (datB_length 1) hD8 ⟨by simp [cutZ, HZ.out.1], by simp [cutZ, HZ.out.1], by simp [cutZ, HZ.out.1]⟩ (by simp [cutZ, HZ.out.2]) k8 lN lZ)
    clear hD8 HCr HZ k8 lN lA lZ
    go_wp2_with fail
    refine HMt.out.mono ?_
    rintro e w9 ⟨P, S, M, X, rx, B, r, lo, Lv, pos, num, rfl, k9, hSt, hMg, hVe, hke, hle⟩
    have HDp := Lib.hid (sdump_ok w9 hSt hMg hVe hke hle)
    have HLa := Lib.hid (And.intro hSt hMg)
    have HEq := Lib.hid (ver_one hVe hke).2
    have H9 := Lib.hid (H7.out.then k9)
    clear HMt k9 hSt hMg hVe hke hle
    go_wp2_with fail
    refine HDp.out.mono ?_
    rintro e w10 ⟨v, rfl, k10, hp⟩
    rw [HEq.out] at hp
    obtain ⟨g, cap, gd, cd, hv, hcap, d0, d1, hb, -, -⟩ := hp.get 0 (by simp)
    have hv2 : v = .slice (some ⟨g, 0, none⟩) 1 cap := hv
    subst hv2
    have d0' : w10.cell? ⟨g, 0, none⟩ = some (.int .i64 5) := d0
    have d1' : w10.cell? ⟨g, 1, none⟩ = some (.slice (some ⟨gd, 0, none⟩) 40 cd) := d1
    have hb' : Bs w10 (some ⟨gd, 0, none⟩) (datB 1) := hb
    have hcap1 : 1 ≤ cap := hcap
    have kk : Chg [] w10 w10 := Chg.refl _ _
    have hh : ∀ wx, Chg [] w10 wx → wx.cell? ⟨g, 0, none⟩ = some (.int .i64 5) ∧ wx.cell? ⟨g, 1, none⟩ = some (.slice (some ⟨gd, 0, none⟩) 40 cd) := fun wx k => ⟨k.cell d0' (by simp), k.cell d1' (by simp)⟩
    have HH := Lib.hid hh
    have HBb := Lib.hid hb'
    have HK := Lib.hid k10
    clear hp hv hcap d0 d1 hb hb' hh HDp HEq
    go_wp2_with fail
    go_region_held3 (fun wx => wx.cell? ⟨g, 0, none⟩ = some (.int .i64 5) ∧ wx.cell? ⟨g, 1, none⟩ = some (.slice (some ⟨gd, 0, none⟩) 40 cd))
      (first
        | (exact HH.out _ kk)
        | (exact HH.out _ kk.drew))
      (first
        | (go_at_call 18; refine (data1 _).mono ?_; rintro e w11 ⟨D2, rfl, k11, lD2, hF2⟩; replace kk : Chg [] w10 w11 := (by first | exact kk.then k11 | exact kk.drew.then k11))
        | (go_at_call 24; refine (bytes_same _ (by first | exact HBb.out.chg kk | exact HBb.out.chg kk.drew) (by first | exact hF2.bs | exact hF2.bs.chg (Chg.refl [] w11).drew) (datB_length 1)).mono ?_; rintro e w12 ⟨rfl, k12⟩; replace kk : Chg [] w10 w12 := (by first | exact kk.then k12 | exact kk.drew.then k12))
        | (go_at_call 14; refine (slast_ok _ (by first | exact (HK.out.then kk).heap HLa.out.1 (by simp) | exact (HK.out.then kk.drew).heap HLa.out.1 (by simp)) (by first | exact (HK.out.then kk).heap HLa.out.2 (by simp) | exact (HK.out.then kk.drew).heap HLa.out.2 (by simp))).mono ?_; rintro e w13 ⟨rfl, rfl⟩))
    all_goals
      have HF := Lib.hid ((H9.out.then HK.out).then kk)
      clear kk k11 k12 hF2
      go_wp2_with fail
      go_ret
      exact ⟨rfl, HF.out⟩
end Go.Proofs.YtkhionhicegfmaaGreat
namespace Go.Proofs.YtkhionhicegfmaaGreat
open Go.RowKit Go.Lib

set_option maxRecDepth 100000 in
theorem tgone0 (w : World) {M X : Nat} (m0 : w.cell? ⟨M, 0, none⟩ = some (.pointer (some ⟨X, 0, none⟩))) : Calls Tryz.prog 105 #[.pointer (some ⟨M, 0, none⟩)] w fun e w' => e = .returned (.bool false) ∧ w = w' := by
  go_enter Tryz.func105, Tryz.ntmps105
  go_wp2_with fail
  go_ret
  exact ⟨rfl, rfl⟩
set_option maxRecDepth 100000 in
theorem mgr_of (w : World) {P M : Nat} (p5 : w.cell? ⟨P, 5, none⟩ = some (.pointer (some ⟨M, 0, none⟩))) : Calls Tryz.prog 58 #[.pointer (some ⟨P, 0, none⟩)] w fun e w' => e = .returned (.pointer (some ⟨M, 0, none⟩)) ∧ w = w' := by
  go_enter Tryz.func58, Tryz.ntmps58
  go_wp2_with fail
  go_ret
  exact ⟨rfl, rfl⟩
set_option maxRecDepth 100000 in
theorem last_ok (w : World) {P M X : Nat} {k : Int} (p5 : w.cell? ⟨P, 5, none⟩ = some (.pointer (some ⟨M, 0, none⟩))) (m0 : w.cell? ⟨M, 0, none⟩ = some (.pointer (some ⟨X, 0, none⟩))) (m7 : w.cell? ⟨M, 7, none⟩ = some (.int .i64 k)) :
    Calls Tryz.prog 14 #[.pointer (some ⟨P, 0, none⟩)] w fun e w' => e = .returned (.int .i64 k) ∧ w = w' := by
  have HT : Hid (Calls Tryz.prog 59 #[.pointer (some ⟨M, 0, none⟩)] w fun e w' => e = .returned (.int .i64 k) ∧ w = w') := Lib.hid (by
    go_enter Tryz.func59, Tryz.ntmps59
    go_wp2_with fail
    refine (tgone0 w m0).mono ?_
    rintro e w1 ⟨rfl, rfl⟩
    go_wp2_with fail
    go_ret
    exact ⟨rfl, rfl⟩)
  go_enter Tryz.func14, Tryz.ntmps14
  go_wp2_with fail
  refine (mgr_of w p5).mono ?_
  rintro e w1 ⟨rfl, rfl⟩
  go_wp2_with fail
  refine HT.out.mono ?_
  rintro e w1 ⟨rfl, rfl⟩
  go_wp2_with fail
  go_ret
  exact ⟨rfl, rfl⟩
set_option maxRecDepth 100000 in
theorem result_ok (w : World) {P M X r T : Nat} {h a b c : Int} {L : List (Int × Value)} (p5 : w.cell? ⟨P, 5, none⟩ = some (.pointer (some ⟨M, 0, none⟩))) (m0 : w.cell? ⟨M, 0, none⟩ = some (.pointer (some ⟨X, 0, none⟩))) (m2 : w.cell? ⟨M, 2, none⟩ = some (.map (some r)))
    (hm : MapAt w r L) (hg : getL L h = some (.pointer (some ⟨T, 0, none⟩))) (t0 : w.cell? ⟨T, 0, none⟩ = some (.int .i64 a)) (t1 : w.cell? ⟨T, 1, none⟩ = some (.int .i64 b)) (t2 : w.cell? ⟨T, 2, none⟩ = some (.int .i64 c)) :
    Calls Tryz.prog 22 #[.pointer (some ⟨P, 0, none⟩), .int .i64 h] w fun e w' => e = .returned (.tuple #[.int .i64 a, .int .i64 b, .int .i64 c]) ∧ Chg [] w w' := by
  have hl : (Instr.lookup 187 (.map (some r)) (.int .i64 h) true).run Tryz.prog w = .ok (.tuple #[.pointer (some ⟨T, 0, none⟩), .bool true]) w := by
    have := lookup178 hm h true
    rw [hg] at this
    exact this
  have HT : Hid (Calls Tryz.prog 72 #[.pointer (some ⟨M, 0, none⟩), .int .i64 h] w fun e w' => e = .returned (.tuple #[.int .i64 a, .int .i64 b, .int .i64 c]) ∧ Chg [] w w') := Lib.hid (by
    clear hm hg
    go_enter Tryz.func72, Tryz.ntmps72
    go_wp2_with fail
    refine (tgone0 w m0).mono ?_
    rintro e w1 ⟨rfl, rfl⟩
    go_wp2_with fail
    go_quiet (fail)
    go_wp2_with fail
    go_ret3
    exact ⟨rfl, (Chg.refl [] w).drewN _⟩)
  clear hm hg hl
  go_enter Tryz.func22, Tryz.ntmps22
  go_wp2_with fail
  refine (mgr_of w p5).mono ?_
  rintro e w1 ⟨rfl, rfl⟩
  go_wp2_with fail
  refine HT.out.mono ?_
  rintro e w1 ⟨rfl, hc⟩
  go_wp2_with fail
  go_ret3
  exact ⟨rfl, hc⟩
end Go.Proofs.YtkhionhicegfmaaGreat
namespace Go.Proofs.YtkhionhicegfmaaGreat
open Go.RowKit Go.Lib

/-- a manager behind i batches. -/
def sI (i lo : Nat) (Lv : List (Int × Value)) (vs : Int → List (Int × List UInt8)) : Gs := ⟨.slice none 0 0, 0, 0, (i : Nat), (i : Nat), (i : Nat), false, lo, (i : Nat), Lv, vs, 0, [], []⟩
/-- a log behind i batches. -/
def gI (i lw : Nat) (ops rds : Int) (dv : Nat → Value) (gs : Nat → Nat) (zs : Nat → List (List UInt8)) : Gk := ⟨2 * i, i, 1, .slice none 0 0, 0, lw, ops, rds, dv, gs, zs⟩
/-- what holds of them. -/
structure MaF (i : Nat) (Lv : List (Int × Value)) (vs : Int → List (Int × List UInt8)) (ops : Int) (zs : Nat → List (List UInt8)) : Prop where
  old : OldV Lv vs (i : Nat)
  small : ∀ c, (vs c).length ≤ 1
  dump : dumpL Lv vs = putsI i
  keys : ∀ p ∈ Lv, 0 ≤ p.1 ∧ p.1 < 258
  len : Lv.length ≤ 1000
  opb : 0 ≤ ops ∧ ops ≤ 100
  emp : ∀ j, j ≠ 6 → zs j = []
  log : zs 6 = logL 0 1 (bsI i)
/-- a store that was mounted behind i batches. -/
def Ma (w0 : World) (i : Nat) (w : World) (d : Ids) : Prop :=
  ∃ lw lo Lv vs ops rds dv gs zs, Stk w lw d (sI i lo Lv vs) (gI i lw ops rds dv gs zs) ∧ MaF i Lv vs ops zs ∧ w0.heap.size ≤ lw ∧ Chg [] w0 w
theorem Ma.keep {w0 w w' : World} {i : Nat} {d : Ids} (h : Ma w0 i w d) (hc : Chg [] w w') : Ma w0 i w' d := by
  obtain ⟨lw, lo, Lv, vs, ops, rds, dv, gs, zs, h1, h2, h3, h4⟩ := h
  exact ⟨lw, lo, Lv, vs, ops, rds, dv, gs, zs, h1.keep hc, h2, h3, h4.then hc⟩
/-- a device behind i batches. -/
def Dv (w0 : World) (i : Nat) (w : World) (N : Nat) : Prop :=
  Chg [] w0 w ∧ ((i = 0 ∧ ∃ A c Z, DevAt w N A c 0 Z ∧ DevOk N A Z ∧ w0.heap.size ≤ N ∧ w0.heap.size ≤ A ∧ (∀ z ∈ Z, w0.heap.size ≤ z) ∧ (∃ cs, w.heap[A]? = some (.cells cs 94 (0, 0))) ∧ Z.Nodup) ∨
    (0 < i ∧ ∃ lw A c Z vs gs zs, w0.heap.size ≤ lw ∧ lw ≤ N ∧ (∀ z ∈ Z, lw ≤ z) ∧ DevG w lw N A c 0 Z vs gs zs ∧ (∀ j, j ≠ 6 → zs j = []) ∧ zs 6 = logL 0 1 (bsI i)))
theorem Sto.k {w : World} {lw : Nat} {d : Ids} {s : Gs} {g : Gd} (h : Sto w lw d s g) : Stk w lw d s ⟨g.pos, g.num, g.inn, g.tv, g.cnt, g.dlo, g.ops, 0, g.dv, g.gs, g.zs⟩ :=
  ⟨h.store, h.slot, h.text, h.dev.k, h.mx, h.ap, h.keys, h.bnd, h.bndZ, h.slo, h.dlo⟩
set_option maxHeartbeats 1000000 in
theorem mount_i (w : World) {w0 : World} {i N : Nat} (h : Dv w0 i w N) (hi : i ≤ 20) : Calls Tryz.prog 13 #[.pointer (some ⟨N, 0, none⟩)] w fun e w' => ∃ d, e = .returned (.tuple #[.pointer (some ⟨d.P, 0, none⟩), .int .i64 0]) ∧ d.N = N ∧ Ma w0 i w' d := by
  obtain ⟨k0, ⟨rfl, A, c, Z, hD, hO, lN, lA, lZ, hAx, hZn⟩ | ⟨hi0, lw, A, c, Z, vs, gs, zs, hlw, lN, lZ, hD, hz, h6⟩⟩ := h
  · have hAl := hD.A_lt
    have hNl := heap_lt hD.1
    have hZl : ∀ z ∈ Z, z < w.heap.size := fun z hz => by
      obtain ⟨j, hj, e⟩ := List.getElem_of_mem hz
      rw [← e]
      exact heap_lt (hD.2.2.2.2 j hj)
    refine (mount_any w hD hO hZl (by omega) (by omega)).mono ?_
    rintro e w2 ⟨P, S, M, X, rx, B, rb, r, rfl, hM, lP, lS, lM, lX, lrx, lB, lrb, lr, n1, n2, n3⟩
    have k2 := hM.1
    have hX2 : ExAt w2 S N A Z := by
      obtain ⟨cs, hAx⟩ := hAx
      exact ⟨hM.2.2.2.1, ⟨cs, k2.heap hAx (by intro hm; rcases List.mem_cons.1 hm with e | hm; exact hO.1 e; exact hO.2.2 hm)⟩, hZn⟩
    have hs0 := k0.size
    have hs2 := k2.size
    have hSt := hM.sto (lw := w0.heap.size) hX2 n1 n2 n3 (by omega) (fun z hz => lZ z hz) (by omega)
    refine ⟨d00 N A c Z P S M X rx B rb r, rfl, rfl, w0.heap.size, w0.heap.size, [], fun _ => [], 0 + 1, 0, _, _, _, hSt.k, ⟨⟨fun p hp => (by cases hp), fun b x hx => (by cases hx)⟩, fun c => by simp, by simp [dumpL, putsI, sortI], fun p hp => (by cases hp), by simp, by omega, fun j _ => rfl, rfl⟩, Nat.le_refl _, k0.trans k2 (fun x hx hlt => ?_)⟩
    rcases List.mem_cons.1 hx with e | hx
    · omega
    · have := lZ x hx; omega
  · have e6 : (zs 6).length = 2 * i := by rw [h6, logI_length]
    have hf : finL (allP (bsI i)) = putsI i := by rw [allP_bsI, fin_putsI]
    have hl : (finL (allP (bsI i))).length = i := by rw [hf, putsI_length]
    have hlt : ∀ z ∈ Z, z < w.heap.size := fun z hz => by
      obtain ⟨j, hj, e⟩ := List.getElem_of_mem hz
      rw [← e]
      exact heap_lt (hD.zone j hj)
    have hNl := heap_lt hD.hdr
    refine (kmount w hD.k ⟨hz 0 (by decide), hz 3 (by decide), hz 7 (by decide)⟩ h6 (bsI_ok i (by omega)) (by rw [bsI_length]; exact hi0) (by omega) (by omega) (by omega) hlt hNl (by decide) (by decide) (by decide) (by decide) (by rw [lastT_bsI]; omega) (fun x hx => putsI_in i (by omega) x (by rw [allP_bsI] at hx; exact hx))).mono ?_
    rintro e w' ⟨P, S, M, X, rx, B, rb, r, lo, Lv, rfl, h⟩
    rw [hf, lastT_bsI, bsI_length, e6] at h
    have hb := h.bnd
    have hva := ver_all h.ver h.keys (by omega)
    have hap : ∀ b, ∀ x ∈ applyV (fun _ => []) ((i : Nat) : Int) (putsI i) b, x.1 ≤ (i : Int) := fun b x hx => by
      rw [applyI] at hx
      split at hx
      · have : x = ((i : Int), datB b.toNat) := by simpa using hx
        subst this
        exact Int.le_refl _
      · cases hx
    refine ⟨d00 N A c Z P S M X rx B rb r, rfl, rfl, lw, lo, Lv, applyV (fun _ => []) ((i : Nat) : Int) (putsI i), 0 + 1, _, vs, _, zs, ⟨h.store, h.slot, Or.inl rfl, h.dev, ⟨h.mgr, h.ver, h.book, h.map, h.ne.1, h.ne.2.1, h.ne.2.2⟩, h.ap, h.keys, ⟨?_, lN, ?_, ?_, ?_, ?_, ?_, ?_, ?_, ?_, Nat.le_refl _⟩, lZ, ?_, lN⟩, ⟨⟨h.keys, hap⟩, fun c => ?_, hva.2, h.keys, by omega, by omega, hz, h6⟩, hlw, k0.trans h.chg (fun x hx hlt => ?_)⟩
    · show lw ≤ P; omega
    · show lw ≤ S; omega
    · show lw ≤ M; omega
    · show lw ≤ X; omega
    · show lw ≤ rx; omega
    · show lw ≤ B; omega
    · show lw ≤ rb; omega
    · show lw ≤ r; omega
    · show lw ≤ lo; omega
    · exact hb.2.2.2.2.2.2.2.2.2
    · rw [applyI]
      split <;> simp
    · rcases List.mem_cons.1 hx with e | hx
      · omega
      · have := lZ x hx; omega
/-- a store with an open transaction, behind i batches. -/
def B1 (w0 : World) (i P N : Nat) (q : Int → List UInt8) (L : List (Int × Value)) (w : World) : Prop :=
  ∃ base d lw lo Lv vs ops rds dv gs zs, d.P = P ∧ d.N = N ∧ MaF i Lv vs ops zs ∧ Fr base d (begP (sI i lo Lv vs)) (StkF lw d (begS (sI i lo Lv vs) d.T) (gI i lw ops rds dv gs zs)) ∧
    Su w base d (begP (sI i lo Lv vs)) (StkF lw d (begS (sI i lo Lv vs) d.T) (gI i lw ops rds dv gs zs)) q L 0 ∧ lw ≤ d.T ∧ lw ≤ base ∧ w0.heap.size ≤ lw ∧ Chg [] w0 w
theorem B1.keep {w0 w w' : World} {i P N : Nat} {q : Int → List UInt8} {L : List (Int × Value)} (h : B1 w0 i P N q L w) (hc : Chg [] w w') : B1 w0 i P N q L w' := by
  obtain ⟨base, d, lw, lo, Lv, vs, ops, rds, dv, gs, zs, e1, e2, hm, hf, hs, hT, hb, hl, k⟩ := h
  exact ⟨base, d, lw, lo, Lv, vs, ops, rds, dv, gs, zs, e1, e2, hm, hf, hs.keep hf hc, hT, hb, hl, k.then hc⟩
theorem beg_i (w : World) {w0 : World} {i : Nat} {d : Ids} (h : Ma w0 i w d) (hi : i ≤ 1000) : Calls Tryz.prog 16 #[.pointer (some ⟨d.P, 0, none⟩)] w fun e w' => e = .returned (.tuple #[.int .i64 1, .int .i64 0]) ∧ ∃ q, B1 w0 i d.P d.N q [] w' := by
  obtain ⟨lw, lo, Lv, vs, ops, rds, dv, gs, zs, h1, h2, h3, h4⟩ := h
  have hl : d.rx < w.heap.size ∧ d.rb < w.heap.size ∧ d.r < w.heap.size := ⟨h1.mx.ver.m.lt, h1.mx.book.2.lt, h1.mx.map.lt⟩
  have hlw : lw ≤ w.heap.size := by have := h1.bnd.1; have := heap_lt h1.store; omega
  refine (kbegin_gen w h1 rfl (show (0 : Int) ≤ (i : Nat) by omega) (show ((i : Nat) : Int) ≤ 1099511627776 by omega) (show (0 : Int) ≤ 0 by decide) (show (0 : Int) ≤ 1000000 by decide)).mono ?_
  rintro e w' ⟨rfl, T, W, rw, Q, V, c1, hT, hSu⟩
  exact ⟨rfl, _, w.heap.size, { d with T := T, W := W, rw := rw, Q := Q, V := V }, lw, lo, Lv, vs, ops, rds, dv, gs, zs, rfl, rfl, h2, fr_stk hl rfl rfl rfl rfl rfl, hSu, Nat.le_trans hlw hT, hlw, h3, Cs.chg0 h4 c1 h3⟩
theorem wri_i (w : World) {w0 : World} {i P N : Nat} {q : Int → List UInt8} {E D c cp : Nat} {b : Int} {l : List UInt8} (h : B1 w0 i P N q [] w) (e0 : w.cell? ⟨E, 0, none⟩ = some (.int .i64 b)) (e1 : w.cell? ⟨E, 1, none⟩ = some (.slice (some ⟨D, 0, none⟩) 40 c)) (hb : Bs w (some ⟨D, 0, none⟩) l) (hl : l.length = 40) (h0 : 0 ≤ b) (h1 : b < 258) :
    Calls Tryz.prog 17 #[.pointer (some ⟨P, 0, none⟩), .int .i64 1, .slice (some ⟨E, 0, none⟩) 1 cp] w fun e w' => e = .returned (.int .i64 0) ∧ ∃ v, B1 w0 i P N (putQ q b l) [(b, v)] w' := by
  obtain ⟨base, d, lw, lo, Lv, vs, ops, rds, dv, gs, zs, e1', e2, hm, hf, hs, hT, hbs, hlw, k⟩ := h
  rw [← e1']
  refine (swrite_gen w (cp := cp) (eo := 0) hf hs e0 e1 hb hl h0 h1 (by simp)).mono ?_
  rintro e w' ⟨v, rfl, ho, hs'⟩
  exact ⟨rfl, v, base, d, lw, lo, Lv, vs, ops, rds, dv, gs, zs, rfl, e2, hm, hf, hs', hT, hbs, hlw, Ow.chg0 k ho (Nat.le_trans hlw hbs)⟩
/-- .. whose transaction waits. -/
def B3 (w0 : World) (i P N : Nat) (q : Int → List UInt8) (L : List (Int × Value)) (w : World) : Prop :=
  ∃ d lw lo Lv vs ops rds dv gs zs gq cq, d.P = P ∧ d.N = N ∧ MaF i Lv vs ops zs ∧ Stk w lw d (comS (begS (sI i lo Lv vs) d.T) gq cq) (gI i lw ops rds dv gs zs) ∧ Wtx w d (comS (begS (sI i lo Lv vs) d.T) gq cq) gq cq 1 (i + 1) (i : Nat) (i : Nat) L q ∧ lw ≤ d.T ∧ w0.heap.size ≤ lw ∧ Chg [] w0 w
theorem B3.keep {w0 w w' : World} {i P N : Nat} {q : Int → List UInt8} {L : List (Int × Value)} (h : B3 w0 i P N q L w) (hc : Chg [] w w') : B3 w0 i P N q L w' := by
  obtain ⟨d, lw, lo, Lv, vs, ops, rds, dv, gs, zs, gq, cq, e1, e2, hm, hs, hW, hT, hl, k⟩ := h
  exact ⟨d, lw, lo, Lv, vs, ops, rds, dv, gs, zs, gq, cq, e1, e2, hm, hs.keep hc, hW.keep hc, hT, hl, k.then hc⟩
theorem com_i (w : World) {w0 : World} {i P N : Nat} {q : Int → List UInt8} {L : List (Int × Value)} (h : B1 w0 i P N q L w) (hi : i ≤ 1000) (hl0 : 0 < L.length) (hl : L.length ≤ 12) : Calls Tryz.prog 19 #[.pointer (some ⟨P, 0, none⟩), .int .i64 1] w fun e w' => e = .returned (.int .i64 0) ∧ B3 w0 i P N q L w' := by
  obtain ⟨base, d, lw, lo, Lv, vs, ops, rds, dv, gs, zs, e1', e2, hm, hf, hs, hT, hbs, hlw, k⟩ := h
  have hS : Stk w lw d (begS (sI i lo Lv vs) d.T) (gI i lw ops rds dv gs zs) := hs.env
  have hsz : lw ≤ w.heap.size := by have := hS.bnd.1; have := heap_lt hS.store; omega
  rw [← e1']
  refine (kcommit_stk w (loq := lw) (n := 0) (k := i + 1) hf hs rfl (World.ownsRow_nil _ _ _ _) hsz (Nat.le_refl _) rfl hm.old (show ((i : Nat) : Int) + 1 = ((i + 1 : Nat) : Int) by omega) (show ((i : Nat) : Int) < 1099511627776 by omega) (show (0 : Int) ≤ (i : Nat) by omega) hl hl0 (by omega) rfl rfl hT).mono ?_
  rintro e w' ⟨rfl, gq, cq, h1, h2, h3⟩
  exact ⟨rfl, d, lw, lo, Lv, vs, ops, rds, dv, gs, zs, gq, cq, rfl, e2, hm, h1, h2, hT, hlw, Cs.chg0 k h3 hlw⟩
/-- .. whose batch is written. -/
def B4 (w0 : World) (i P N : Nat) (w : World) : Prop :=
  ∃ lw M X r T A c Lr base ops rds Z vs gs zs, w.cell? ⟨P, 5, none⟩ = some (.pointer (some ⟨M, 0, none⟩)) ∧ w.cell? ⟨M, 0, none⟩ = some (.pointer (some ⟨X, 0, none⟩)) ∧ w.cell? ⟨M, 2, none⟩ = some (.map (some r)) ∧ MapAt w r Lr ∧ getL Lr 1 = some (.pointer (some ⟨T, 0, none⟩)) ∧
    w.cell? ⟨T, 0, none⟩ = some (.int .i64 3) ∧ w.cell? ⟨T, 1, none⟩ = some (.int .i64 ((i : Nat) + 1)) ∧ w.cell? ⟨T, 2, none⟩ = some (.int .i64 0) ∧
    DevK w base N A c ops rds Z vs gs zs ∧ (∀ j, j < 8 → gs j = (zs j).length) ∧ (∀ j, j ≠ 6 → zs j = []) ∧ zs 6 = logL 0 1 (bsI (i + 1)) ∧ w0.heap.size ≤ lw ∧ Chg [] w0 w
theorem B4.keep {w0 w w' : World} {i P N : Nat} (h : B4 w0 i P N w) (hc : Chg [] w w') : B4 w0 i P N w' := by
  obtain ⟨lw, M, X, r, T, A, c, Lr, base, ops, rds, Z, vs, gs, zs, h1, h2, h3, h4, h5, h6, h7, h8, h9, h10, h11, h12, h13, h14⟩ := h
  exact ⟨lw, M, X, r, T, A, c, Lr, base, ops, rds, Z, vs, gs, zs, hc.cell h1 (by simp), hc.cell h2 (by simp), hc.cell h3 (by simp), h4.keep hc (by simp), h5, hc.cell h6 (by simp), hc.cell h7 (by simp), hc.cell h8 (by simp), h9.keep hc (Av.nil _ _), h10, h11, h12, h13, h14.then hc⟩
theorem flu_i (w : World) {w0 : World} {i P N : Nat} {q : Int → List UInt8} {v : Value} (h : B3 w0 i P N q [((i : Int), v)] w) (hq : q (i : Int) = datB i) (hi : i ≤ 40) : Calls Tryz.prog 20 #[.pointer (some ⟨P, 0, none⟩)] w fun e w' => e = .returned (.int .i64 0) ∧ B4 w0 i P N w' := by
  obtain ⟨d, lw, lo, Lv, vs, ops, rds, dv, gs, zs, gq, cq, e1, e2, hm, hS, hW, hT, hl, k⟩ := h
  have hlw : lw ≤ w.heap.size := by have := hS.bnd.1; have := heap_lt hS.store; omega
  have e6 : (zs 6).length = 2 * i := by rw [hm.log, logI_length]
  have hops := hm.opb
  rw [← e1]
  refine (kflush_tx w (k := i + 1) hS hW rfl hT hlw (by omega) (show ((i : Nat) : Int) < ((i + 1 : Nat) : Int) by omega) (by omega) (fun c => by have : (vs c).length ≤ 1 := hm.small c; show (vs c).length + 16 < 1000000; omega) (show (0 : Int) ≤ 0 by decide) (show (0 : Int) ≤ 100000000 by decide) (by show (zs 6).length + 1 + 1 ≤ 96; omega) (by show 2 * i + 1 + 1 ≤ 96; omega) (show 0 ≤ ops by omega) (show ops ≤ 100000 by omega) (show 0 < 4294967296 by decide) (show i < 1000000000 by omega)).mono ?_
  rintro e w' ⟨rfl, z, Lv', v6, h1, h2, -, h4⟩
  rw [putsL_one, hq] at h1
  refine ⟨rfl, lw, d.M, d.X, d.r, d.T, d.A, d.c, _, _, _, _, d.Z, _, _, _, cell_is h1.store 5 rfl, h1.mx.cells.1, h1.mx.cells.2.2.1, h1.mx.map, rfl, cell_is h4 0 rfl, cell_is h4 1 rfl, cell_is h4 2 rfl, by rw [← e2]; exact h1.dev, fun j hj => ?_, fun j hj => ?_, ?_, hl, Cs.chg0 k h2 hl⟩
  · simp [doneK, goodF, hj]
  · simp [doneK, upF, hj, gI, hm.emp j hj]
  · simp only [doneK, upF, if_pos, gI, hm.log, logI_succ]
theorem res_i (w : World) {w0 : World} {i P N : Nat} (h : B4 w0 i P N w) : Calls Tryz.prog 22 #[.pointer (some ⟨P, 0, none⟩), .int .i64 1] w fun e w' => e = .returned (.tuple #[.int .i64 3, .int .i64 ((i : Nat) + 1), .int .i64 0]) ∧ Chg [] w w' := by
  obtain ⟨lw, M, X, r, T, A, c, Lr, base, ops, rds, Z, vs, gs, zs, h1, h2, h3, h4, h5, h6, h7, h8, -⟩ := h
  exact result_ok w h1 h2 h3 h4 h5 h6 h7 h8
theorem cra_i (w : World) {w0 : World} {i P N : Nat} {pv tv : Value} (h : B4 w0 i P N w) (hi : i ≤ 40) (hp : PickOk pv w) (ht : PickOk tv w) : Calls Tryz.prog 23 #[.pointer (some ⟨N, 0, none⟩), pv, tv] w fun e w' => ∃ N', e = .returned (.pointer (some ⟨N', 0, none⟩)) ∧ Dv w0 (i + 1) w' N' ∧ Chg [] w w' := by
  obtain ⟨lw, M, X, r, T, A, c, Lr, base, ops, rds, Z, vs, gs, zs, -, -, -, -, -, -, -, -, hD, hg, hz, h6, hl, k⟩ := h
  refine (crash_ok w hD hg (fun j hj => ?_) hp ht).mono ?_
  · by_cases e : j = 6
    · subst e
      rw [h6, logI_length]
      omega
    · rw [hz j e]; simp
  · rintro e w' ⟨N', A', c', Z', vs', rfl, k1, h1, lN, lA, lZ⟩
    have hs := k.size
    refine ⟨N', rfl, ⟨k.then k1, Or.inr ⟨by omega, w.heap.size, A', c', Z', vs', _, _, hs, lN, lZ, h1, fun j hj => ?_, ?_⟩⟩, k1⟩
    · unfold cutZ
      split
      · exact hz j hj
      · rfl
    · simp [cutZ, h6]
end Go.Proofs.YtkhionhicegfmaaGreat
