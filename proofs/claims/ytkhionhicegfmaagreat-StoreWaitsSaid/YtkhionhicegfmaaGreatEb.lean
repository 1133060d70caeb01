/- Lemmas and walks: Walks: a transaction's puts against a set (valid.Against); a transaction that writes one block is checked against those that wait (valid.Check). Walks: a transaction that writes one block is committed beside others that wait. Printed by mkUe.py. Walks: the store's commit beside others that wait. Walks: a schedule's block; which client is meant; how many of its ops wait. Walks: an op in memory of its own; an answer too. -/
import Derived.Deep.AppendLies
import Derived.Deep.RegionHeld3
import Derived.Test.YtkhionhicegfmaaGreatDc
import Derived.Test.YtkhionhicegfmaaGreatDk
import Derived.Test.YtkhionhicegfmaaGreatEa
namespace Go.Proofs.YtkhionhicegfmaaGreat
open Go.RowKit Go.Lib

set_option maxRecDepth 100000 in
theorem ag1_not (w : World) {base U most y cd : Nat} {pd : Option Addr} {c : Int} {l : List (Int × Int)} (h : SpM w base U most l) (hl : l.length ≤ 1000) (hy : w.cell? ⟨y, 0, none⟩ = some (.pointer (some ⟨U, 0, none⟩))) (h2 : 0 ≤ c) (h3 : c < 258) (hn : NotIn l c) :
    Calls Tryz.prog 215 #[.agg #[.int .i64 c, .slice pd 40 cd], .pointer (some ⟨y, 0, none⟩)] w fun e w' => e = .returned (.bool false) ∧ Chg [] w w' := by
  have kA : Chg [] w (w.alloc (.cells #[.int .i64 c, .slice pd 40 cd] 43)) := Chg.alloc w _
  have z := heap_new w (.cells #[.int .i64 c, .slice pd 40 cd] 43)
  have c0 := cell_is z 0 rfl
  have y0 := kA.cell hy (by simp)
  have HH := Lib.hid (has_not (w.alloc (.cells #[.int .i64 c, .slice pd 40 cd] 43)) (h.keep0 kA) hl h2 h3 hn)
  clear h hy z
  go_enter Tryz.func215, Tryz.ntmps215
  go_wp2_with fail
  refine HH.out.mono ?_
  rintro e w1 ⟨rfl, k1⟩
  have HK := Lib.hid (kA.then k1)
  clear k1 kA
  go_wp2_with fail
  go_ret
  exact ⟨rfl, HK.out⟩
set_option maxRecDepth 100000 in
set_option maxHeartbeats 2000000 in
theorem against_not (w : World) {base U most lo n cb : Nat} {pb : Option Addr} {k : Int} {l : List (Int × Int)} {p : List (Int × List UInt8)} (h : SpM w base U most l) (hl : l.length ≤ 1000) (hp : PutsAt w lo (.slice pb n cb) p) (hpl : p.length = n) (hn1 : n ≤ 1000) (hn : ∀ x ∈ p, 0 ≤ x.1 ∧ x.1 < 258 ∧ NotIn l x.1) :
    Calls Tryz.prog 189 #[.agg #[.int .i64 k, .slice pb n cb], .pointer (some ⟨U, 0, none⟩)] w fun e w' => e = .returned (.bool false) ∧ Chg [] w w' := by
  have y := two_new w (.cells #[.int .i64 k, .slice pb n cb] 181) (.cells #[.pointer (some ⟨U, 0, none⟩)] 267)
  have kA := chg_two w (.cells #[.int .i64 k, .slice pb n cb] 181) (.cells #[.pointer (some ⟨U, 0, none⟩)] 267)
  have x1 := cell_is y.1 1 rfl
  have hcb : n ≤ cb := by
    obtain ⟨xs, ho, -⟩ := hp
    obtain ⟨_, _, e, hc⟩ := own_form ho
    cases e
    omega
  have HI : Hid (∀ w2, Chg [] ((w.alloc (.cells #[.int .i64 k, .slice pb n cb] 181)).alloc (.cells #[.pointer (some ⟨U, 0, none⟩)] 267)) w2 → Calls Tryz.prog 180 #[.slice pb n cb, .func (.func 215) #[] #[.pointer (some ⟨w.heap.size + 1, 0, none⟩)]] w2 fun e w' => e = .returned (.int .i64 (-1)) ∧ Chg [] w2 w') := Lib.hid (by
    intro w2 k2
    have HP := Lib.hid (hp.keep0 (kA.then k2))
    have HS := Lib.hid (h.keep0 (kA.then k2))
    have HY := Lib.hid (k2.cell (cell_is y.2 0 (v := .pointer (some ⟨U, 0, none⟩)) rfl) (by simp))
    clear x1 y kA k2 hp h
    generalize w.heap.size + 1 = z at *
    go_enter Tryz.func180, Tryz.ntmps180
    go_wp2_with fail
    go_loopw [8] (fun i wr => ∃ j : Nat, j ≤ n ∧ i = .int .i64 j ∧ Chg [] w2 wr) (fun i _ => n - (intOf i).toNat)
    case atStart => exact ⟨0, by omega, rfl, Chg.refl _ _⟩
    case round =>
      obtain ⟨j, hj, rfl, kr⟩ := hrel
      by_cases hlt : j < n
      · have hjp : j < p.length := by omega
        obtain ⟨g, cap, gd, cd, hv, hcap, d0, d1, -, -, -⟩ := (HP.out.keep0 kr).get j hjp
        have hpb : pb = some ⟨g, 0, none⟩ := by injection hv
        subst hpb
        obtain ⟨n2, n3, n4⟩ := hn _ (List.getElem_mem hjp)
        have HC := Lib.hid (ag1_not wr (pd := some ⟨gd, 0, none⟩) (cd := cd) (HS.out.keep0 kr) hl (kr.cell HY.out (by simp)) n2 n3 n4)
        have HK := Lib.hid kr
        have hji : (j : Int) < n := by omega
        have hni : (n : Int) ≤ cb := by omega
        clear n2 n3 n4 kr hv hcap
        generalize (p[j]).1 = x at *
        go_wp2_with fail
        refine HC.out.mono ?_
        rintro e w3 ⟨rfl, k3⟩
        have HK3 := Lib.hid (HK.out.then k3)
        clear k3
        go_wp2_with fail
        go_roundw
        case rel => exact ⟨j + 1, by omega, by go_num, HK3.out⟩
        case measure => simp [intOf]; omega
      · obtain rfl : j = n := by omega
        go_wp2_with fail
        go_ret
        exact ⟨rfl, kr⟩)
  have HC : Hid (∀ w2, Chg [] ((w.alloc (.cells #[.int .i64 k, .slice pb n cb] 181)).alloc (.cells #[.pointer (some ⟨U, 0, none⟩)] 267)) w2 → Calls Tryz.prog 152 #[.slice pb n cb, .func (.func 215) #[] #[.pointer (some ⟨w.heap.size + 1, 0, none⟩)]] w2 fun e w' => e = .returned (.bool false) ∧ Chg [] w2 w') := Lib.hid (by
    intro w2 k2
    have HI2 := Lib.hid (HI.out w2 k2)
    clear HI k2 x1 y kA hp h
    generalize w.heap.size + 1 = z at *
    go_enter Tryz.func152, Tryz.ntmps152
    go_wp2_with fail
    refine HI2.out.mono ?_
    rintro e w3 ⟨rfl, k3⟩
    have HK3 := Lib.hid k3
    clear k3
    go_wp2_with fail
    go_ret
    exact ⟨rfl, HK3.out⟩)
  have HKA := Lib.hid kA
  have HC1 := Lib.hid (HC.out _ (Chg.refl _ _))
  clear HI HC y kA hp h
  go_enter Tryz.func189, Tryz.ntmps189
  go_wp2_with fail
  refine HC1.out.mono ?_
  rintro e w3 ⟨rfl, k3⟩
  have HK3 := Lib.hid (HKA.out.then k3)
  clear k3
  go_wp2_with fail
  go_ret
  exact ⟨rfl, HK3.out⟩
theorem TxsAt.get {w : World} {lo n cap : Nat} {pv : Option Addr} {l : List (Nat × List (Int × List UInt8))} (h : TxsAt w lo (.slice pv n cap) l) (i : Nat) (hi : i < l.length) : ∃ g pb cb, pv = some ⟨g, 0, none⟩ ∧ w.cell? ⟨g, i * 2, none⟩ = some (.int .i64 (l[i].1 : Nat)) ∧ w.cell? ⟨g, i * 2 + 1, none⟩ = some (.slice pb l[i].2.length cb) ∧ PutsAt w lo (.slice pb l[i].2.length cb) l[i].2 := by
  obtain ⟨xs, ho, hx⟩ := h
  obtain ⟨h0, pb, cb, h1, h2⟩ := hx i hi
  rcases ho.2 with ⟨_, e⟩ | ⟨g, cap', cur, e, hA, hg, hc1, hc2, hc3, ht⟩
  · omega
  · have hpv : pv = some ⟨g, 0, none⟩ := by injection e
    refine ⟨g, pb, cb, hpv, cell_is hg _ ?_, cell_is hg _ ?_, h2⟩
    · rw [← ht, List.getElem?_take_of_lt (by omega), Array.getElem?_toList] at h0
      exact h0
    · rw [← ht, List.getElem?_take_of_lt (by omega), Array.getElem?_toList] at h1
      exact h1
set_option maxRecDepth 100000 in
set_option maxHeartbeats 8000000 in
theorem check_many (w : World) {lo X rx lo1 U1 m1 lo2 U2 m2 lq n cq : Nat} {pq : Option Addr} {last t b : Int} {Lv : List (Int × Value)} {vs : Int → List (Int × List UInt8)} {q : List (Nat × List (Int × List UInt8))} (h : VerG w lo X rx last Lv vs) (ho : OldV Lv vs t) (hr : SpM w lo1 U1 m1 []) (hw : SpM w lo2 U2 m2 [(b, 1)]) (hb0 : 0 ≤ b) (hb1 : b < 258)
    (hq : TxsAt w lq (.slice pq n cq) q) (hqn : q.length = n) (hn1 : n ≤ 1000) (hql : ∀ x ∈ q, x.2.length ≤ 16 ∧ ∀ p ∈ x.2, 0 ≤ p.1 ∧ p.1 < 258 ∧ p.1 ≠ b) :
    Calls Tryz.prog 165 #[.pointer (some ⟨X, 0, none⟩), .slice pq n cq, .int .i64 t, .pointer (some ⟨U1, 0, none⟩), .pointer (some ⟨U2, 0, none⟩)] w fun e w' => e = .returned (.int .i64 0) ∧ Chg [] w w' := by
  have HC := Lib.hid (count_any w (hw.weak (n := 1) (by simp)) (by decide))
  have HV := Lib.hid h
  have HOl := Lib.hid ho
  have HR := Lib.hid hr
  have HW := Lib.hid hw
  have HQq := Lib.hid hq
  have HQl := Lib.hid hql
  have hcq : n ≤ cq := by
    obtain ⟨xs, ho, -⟩ := hq
    obtain ⟨_, _, e, hc⟩ := own_form ho
    cases e
    omega
  have hcqi : (n : Int) ≤ cq := by omega
  have hnb : ∀ l3 : List (Int × Int), l3 = [] ∨ l3 = [(b, 1)] → ∀ x ∈ q, ∀ p ∈ x.2, 0 ≤ p.1 ∧ p.1 < 258 ∧ NotIn l3 p.1 := fun l3 hl3 x hx p hp => by
    obtain ⟨a1, a2, a3⟩ := (hql x hx).2 p hp
    refine ⟨a1, a2, fun s hs => ?_⟩
    rcases hl3 with rfl | rfl
    · cases hs
    · rw [List.mem_singleton] at hs
      subst hs
      exact ⟨rfl, hb0, hb1, fun e => a3 e.symm⟩
  have HNb := Lib.hid hnb
  clear h ho hr hw hq hql hnb
  go_enter Tryz.func165, Tryz.ntmps165
  go_wp2_with fail
  go_step3
  go_wp2_with fail
  refine HC.out.mono ?_
  rintro e w1 ⟨⟨r, rfl⟩, k1⟩
  by_cases hr0 : r = 0
  · subst hr0
    go_wp2_with fail
    simp only [Exit.noGoto]
    go_ret
    exact ⟨rfl, k1⟩
  · go_wp2_with fail
    go_step3
    go_wp2_with fail
    have hrb : (r == 0) = false := by simpa using hr0
    rw [hrb]
    have hi0 : ∀ w, (Instr.index 297 (.agg #[.pointer (some ⟨U1, 0, none⟩), .pointer (some ⟨U2, 0, none⟩)]) (.int .i64 ((0 : Nat) : Int))).run Tryz.prog w = .ok (.pointer (some ⟨U1, 0, none⟩)) w := fun w => by kernel_rfl
    have hi1 : ∀ w, (Instr.index 297 (.agg #[.pointer (some ⟨U1, 0, none⟩), .pointer (some ⟨U2, 0, none⟩)]) (.int .i64 ((1 : Nat) : Int))).run Tryz.prog w = .ok (.pointer (some ⟨U2, 0, none⟩)) w := fun w => by kernel_rfl
    go_loopw [11, 13, 15, 17, 24] (fun e _ _ _ i wr => ∃ j : Nat, j ≤ 2 ∧ i = .int .i64 j ∧ e = .int .i64 0 ∧ Chg [] w1 wr) (fun _ _ _ _ i _ => 2 - (intOf i).toNat)
    case atStart => exact ⟨0, by omega, rfl, rfl, Chg.refl _ _⟩
    case round =>
      obtain ⟨j, hj, rfl, rfl, kr⟩ := hrel
      by_cases hj2 : j < 2
      · obtain ⟨U, lo3, m3, l3, hi, hS, hn3⟩ : ∃ U lo3 m3 l3, (∀ w, (Instr.index 297 (.agg #[.pointer (some ⟨U1, 0, none⟩), .pointer (some ⟨U2, 0, none⟩)]) (.int .i64 (j : Int))).run Tryz.prog w = .ok (.pointer (some ⟨U, 0, none⟩)) w) ∧ SpM wr lo3 U m3 l3 ∧ (l3 = [] ∨ l3 = [(b, 1)]) := by
          have kk := k1.then kr
          rcases (show j = 0 ∨ j = 1 by omega) with rfl | rfl
          · exact ⟨U1, _, _, _, hi0, HR.out.keep0 kk, Or.inl rfl⟩
          · exact ⟨U2, _, _, _, hi1, HW.out.keep0 kk, Or.inr rfl⟩
        have hl31 : l3.length ≤ 1 := by rcases hn3 with rfl | rfl <;> simp
        have HE := Lib.hid (extents_any wr (hS.weak (n := 1) hl31) (by decide))
        have HS3 := Lib.hid hS
        have HN3 := Lib.hid (HNb.out l3 hn3)
        clear hi0 hi1 hS hn3
        go_wp2_with fail
        refine HE.out.mono ?_
        rintro e w2 ⟨pb, m, cb, l, rfl, k2, hq, hl, hm⟩
        have HQ := Lib.hid hq
        clear hq
        go_wp2_with fail
        go_loopw [11, 15, 30] (fun e _ i wz => ∃ q : Nat, q ≤ m ∧ i = .int .i64 q ∧ e = .int .i64 0 ∧ Chg [] w2 wz) (fun _ _ i _ => m - (intOf i).toNat)
        case atStart => exact ⟨0, by omega, rfl, rfl, Chg.refl _ _⟩
        case round =>
          obtain ⟨qi, hqi, rfl, rfl, kz⟩ := hrel
          rename World => wz
          have kk : Chg [] w1 wz := (kr.then k2).then kz
          by_cases hqm : qi < m
          · obtain ⟨b', o, rfl, c0, c1⟩ := (HQ.out.keep kz).get qi (by omega)
            generalize (l[qi]'(by omega)).1 = x at *
            generalize (l[qi]'(by omega)).2 = y at *
            have ka : Chg [] wz (wz.alloc (.cells #[.int .i64 x, .int .i64 y] 285)) := Chg.alloc wz _
            have HWr := Lib.hid (written_old (wz.alloc (.cells #[.int .i64 x, .int .i64 y] 285)) (HV.out.keep ((k1.then kk).then ka)) x y t HOl.out)
            go_wp2_with fail
            refine HWr.out.mono ?_
            rintro e w5 ⟨rfl, k5⟩
            go_wp2_with fail
            go_roundw
            case rel => exact ⟨qi + 1, by omega, by simp, rfl, (kz.then ka).then k5⟩
            case measure => simp [intOf]; omega
          · obtain rfl : qi = m := by omega
            have HKk := Lib.hid kk
            have HKS := Lib.hid (HS3.out.keep0 (k2.then kz))
            have HKQ := Lib.hid (HQq.out.keep (k1.then kk))
            go_wp2_with fail
            go_loopw [11, 17, 41] (fun e _ i wy => ∃ s : Nat, s ≤ n ∧ i = .int .i64 s ∧ e = .int .i64 0 ∧ Chg [] wz wy) (fun _ _ i _ => n - (intOf i).toNat)
            case atStart => exact ⟨0, by omega, rfl, rfl, Chg.refl _ _⟩
            case round =>
              obtain ⟨s, hs, rfl, rfl, ky⟩ := hrel
              rename World => wy
              by_cases hsn : s < n
              · have hsq : s < q.length := by omega
                obtain ⟨g, pb', cb', hpv, d0, d1, hpp⟩ := (HKQ.out.keep ky).get s hsq
                subst hpv
                have hln := HQl.out _ (List.getElem_mem hsq)
                have hnn := HN3.out _ (List.getElem_mem hsq)
                have ka : Chg [] wy (wy.alloc (.cells #[.int .i64 (q[s].1 : Nat), .slice pb' q[s].2.length cb'] 181)) := Chg.alloc wy _
                have ya := heap_new wy (.cells #[.int .i64 (q[s].1 : Nat), .slice pb' q[s].2.length cb'] 181)
                have HAg := Lib.hid (against_not (wy.alloc (.cells #[.int .i64 (q[s].1 : Nat), .slice pb' q[s].2.length cb'] 181)) (k := (q[s].1 : Nat)) (HKS.out.keep0 (ky.then ka)) (by omega) (hpp.keep0 ka) rfl (by omega) hnn)
                have HKa := Lib.hid (ky.then ka)
                have y0 := cell_is ya 0 rfl
                have y1 := cell_is ya 1 rfl
                have hsi : (s : Int) < n := by omega
                clear hpp hln hnn ka ya ky
                generalize q[s].1 = kq at *
                generalize q[s].2.length = nq at *
                go_wp2_with fail
                refine HAg.out.mono ?_
                rintro e w5 ⟨rfl, k5⟩
                have HK5 := Lib.hid (HKa.out.then k5)
                clear k5
                go_wp2_with fail
                go_roundw
                case rel => exact ⟨s + 1, by omega, by go_num, rfl, HK5.out⟩
                case measure => simp [intOf]; omega
              · obtain rfl : s = n := by omega
                have HKy := Lib.hid (HKk.out.then ky)
                clear ky
                go_wp2_with fail
                go_roundw
                case rel => exact ⟨j + 1, by omega, by simp, rfl, HKy.out⟩
                case measure => simp [intOf]; omega
      · obtain rfl : j = 2 := by omega
        go_wp2_with fail
        simp only [Exit.noGoto]
        go_ret
        exact ⟨rfl, k1.then kr⟩
end Go.Proofs.YtkhionhicegfmaaGreat
namespace Go.Proofs.YtkhionhicegfmaaGreat
open Go.RowKit Go.Lib

set_option maxRecDepth 100000 in
set_option maxHeartbeats 4000000 in
theorem may_many (w : World) {M X B r cq lo rx T W rw Q V nq lq base : Nat} {pq : Option Addr} {out num bas last given lastv t : Int} {Lv : List (Int × Value)} {vs : Int → List (Int × List UInt8)} {Lr : List (Int × Value)} {b : Int} {v : Value} {xs : List Wt} {D : Int → List UInt8}
    (h : MgrG w M X B r (.slice pq nq cq) out num bas last given false) (hqo : w.ownsRow lq 3 1 (.slice pq nq cq) nq ((xs.map (fun x => x.h)).map encZ)) (hxn : xs.length = nq) (hn1 : nq ≤ 1000) (hr : MapAt w r Lr) (hx : ∀ x ∈ xs, WtOk w Lr x) (hxb : ∀ x ∈ xs, ∀ p ∈ putsL x.L x.D, p.1 ≠ b) (hg : given < 1099511627776) (hv : VerG w lo X rx lastv Lv vs) (ho : OldV Lv vs t) (hT : TxT w T W Q t) (hb : BufAt w W rw [(b, v)]) (hD : BufD w [(b, v)] D) (hb0 : 0 ≤ b) (hb1 : b < 258)
    (hV : VwT w base Q X W V t 0) (hS : SpV w base V 0) : Calls Tryz.prog 119 #[.pointer (some ⟨M, 0, none⟩), .pointer (some ⟨T, 0, none⟩)] w fun e w' => e = .returned (.int .i64 0) ∧ Chg [] w w' := by
  have m9 : w.cell? ⟨M, 9, none⟩ = some (.bool false) := cell_is h 9 rfl
  have m0 : w.cell? ⟨M, 0, none⟩ = some (.pointer (some ⟨X, 0, none⟩)) := cell_is h 0 rfl
  have m8 : w.cell? ⟨M, 8, none⟩ = some (.int .i64 given) := cell_is h 8 rfl
  have t3 : w.cell? ⟨T, 3, none⟩ = some (.int .i64 t) := cell_is hT 3 rfl
  have t4 : w.cell? ⟨T, 4, none⟩ = some (.pointer (some ⟨W, 0, none⟩)) := cell_is hT 4 rfl
  have t5 : w.cell? ⟨T, 5, none⟩ = some (.pointer (some ⟨Q, 0, none⟩)) := cell_is hT 5 rfl
  have kd : Chg [] w w.drew := (Chg.refl [] w).drew
  have HW := Lib.hid (waiting_many w.drew (kd.heap h (by simp)) (own_keep hqo kd.below0) hxn hn1 (hr.keep kd (by simp)) (fun x hx2 => (hx x hx2).keep kd))
  have hql : ∀ x ∈ wtL xs, x.2.length ≤ 16 ∧ ∀ p ∈ x.2, 0 ≤ p.1 ∧ p.1 < 258 ∧ p.1 ≠ b := fun x hx2 => by
    obtain ⟨y, hy, rfl⟩ := List.mem_map.1 hx2
    refine ⟨by show (putsL y.L y.D).length ≤ 16; rw [putsL_length]; exact (hx y hy).len, fun p hp => ?_⟩
    have h1 := putsL_in y.D (hx y hy).bk p hp
    exact ⟨h1.1, h1.2, hxb y hy p hp⟩
  have HQl := Lib.hid hql
  have HVw := Lib.hid (And.intro hV hS)
  have hS2 : ∀ wx, Chg [] w wx → wx.cell? ⟨M, 0, none⟩ = some (.pointer (some ⟨X, 0, none⟩)) ∧ wx.cell? ⟨T, 3, none⟩ = some (.int .i64 t) ∧ wx.cell? ⟨T, 4, none⟩ = some (.pointer (some ⟨W, 0, none⟩)) ∧ wx.cell? ⟨T, 5, none⟩ = some (.pointer (some ⟨Q, 0, none⟩)) :=
    fun wx k => ⟨k.cell m0 (by simp), k.cell t3 (by simp), k.cell t4 (by simp), k.cell t5 (by simp)⟩
  have HS2 := Lib.hid hS2
  have HBf := Lib.hid hb
  have HD := Lib.hid hD
  have HVr := Lib.hid hv
  have HOl := Lib.hid ho
  clear h hT hb hD hV hS hv ho hS2 hql hqo hr hx hxb
  go_enter Tryz.func119, Tryz.ntmps119
  go_upto_region 3 with fail
  go_region_held3 (fun wx => wx.cell? ⟨M, 0, none⟩ = some (.pointer (some ⟨X, 0, none⟩)) ∧ wx.cell? ⟨T, 3, none⟩ = some (.int .i64 t) ∧ wx.cell? ⟨T, 4, none⟩ = some (.pointer (some ⟨W, 0, none⟩)) ∧ wx.cell? ⟨T, 5, none⟩ = some (.pointer (some ⟨Q, 0, none⟩)))
    (first
      | (with_reducible exact HS2.out _ kF) | (with_reducible exact HS2.out _ k3) | (with_reducible exact HS2.out _ k2) | (with_reducible exact HS2.out _ k1) | (exact HS2.out _ kd))
    (first
      | (go_at_call 120; refine HW.out.mono ?_; rintro e w1 ⟨vq, rfl, k1', hq1⟩; obtain ⟨pv, cv, rfl, hcv⟩ := own_form hq1.choose_spec.1; have k1 := kd.then k1')
      | (go_at_call 166; refine (vset_any w1 (HVw.out.1.keep k1 (Av.nil _ _)) (HVw.out.2.keep0 k1) (by decide)).mono ?_; rintro e w2 ⟨U, loU, rfl, k2', hU, lU⟩; have k2 := k1.then k2')
      | (go_at_call 167; refine (bset_one w2 (HBf.out.keep k2 (by simp) (by simp)) (HD.out.keep k2) hb0 hb1).mono ?_; rintro e w3 ⟨U2, loU2, rfl, k3', hU2, lU2⟩; have k3 := k2.then k3'; have hU3 := hU.keep0 k3')
      | (go_at_call 165; refine (check_many w3 (HVr.out.keep k3) HOl.out hU3.zero hU2 hb0 hb1 (hq1.keep (k2'.then k3')) rfl (by rw [wtL_length]; omega) HQl.out).mono ?_; rintro e w4 ⟨rfl, k4⟩; have kF := k3.then k4))
  all_goals
    have m84 := kF.cell m8 (by simp)
    have hng : ¬ (given ≥ 1099511627776) := by omega
    clear HW HS2 HBf HD HVr HOl hU hU2 hU3
    go_wp2_with fail
    go_ret
    exact ⟨rfl, kF⟩
set_option maxRecDepth 100000 in
set_option maxHeartbeats 4000000 in
theorem tcommit_many (w : World) {d : Ids} {p : Par} {cq nq base loq : Nat} {pq : Option Addr} {out num bas last given : Int} {Lr : List (Int × Value)} {b : Int} {v : Value} {xs : List Wt} {D : Int → List UInt8}
    (hN : Need w d p) (hv0 : OldV p.Lv p.vs p.t) (h : MgrG w d.M d.X d.B d.r (.slice pq nq cq) out num bas last given false) (hg0 : 0 ≤ given) (hg : given < 1099511627776) (hq : w.ownsRow loq 3 1 (.slice pq nq cq) nq ((xs.map (fun x => x.h)).map encZ)) (hxn : xs.length = nq) (hn1 : nq ≤ 1000) (hr : MapAt w d.r Lr) (hx : ∀ x ∈ xs, WtOk w Lr x) (hxb : ∀ x ∈ xs, ∀ p ∈ putsL x.L x.D, p.1 ≠ b) (hlq : loq ≤ w.heap.size) (hT : TxT w d.T d.W d.Q p.t) (hb : BufAt w d.W d.rw [(b, v)]) (hD : BufD w [(b, v)] D) (hb0 : 0 ≤ b) (hb1 : b < 258)
    (hV : VwT w base d.Q d.X d.W d.V p.t 0) (hS : SpV w base d.V 0) : Calls Tryz.prog 64 #[.pointer (some ⟨d.M, 0, none⟩), .int .i64 p.h] w fun e w' =>
    ∃ g c, e = .returned (.int .i64 0) ∧ Chg (d.M :: d.T :: (Value.slice pq nq cq).ownBlock.toList) w w' ∧ MgrG w' d.M d.X d.B d.r (.slice (some ⟨g, 0, none⟩) (nq + 1) c) out num bas last (given + 1) false ∧ w'.ownsRow loq 3 1 (.slice (some ⟨g, 0, none⟩) (nq + 1) c) (nq + 1) ((xs.map (fun x => x.h)).map encZ ++ [.int .i64 p.h]) ∧ TxW w' d.T d.W d.Q (given + 1) p.t := by
  have HO := Lib.hid (topen_gen w hN hT)
  have t4 : w.cell? ⟨d.T, 4, none⟩ = some (.pointer (some ⟨d.W, 0, none⟩)) := cell_is hT 4 rfl
  have hk : ∀ x ∈ [(b, v)], 0 ≤ x.1 ∧ x.1 < 258 := fun x hx => by rw [List.mem_singleton] at hx; rw [hx]; exact ⟨hb0, hb1⟩
  have HLn := Lib.hid (blen_any w hb hD hk (by simp))
  have hver := hN.ver
  have HMy := Lib.hid (fun w1 (k : Chg [] w w1) => may_many w1 (k.heap h (by simp)) (own_keep hq k.below0) hxn hn1 (hr.keep k (by simp)) (fun x hx2 => (hx x hx2).keep k) hxb hg (hver.keep k) hv0 (k.heap hT (by simp)) (hb.keep k (by simp) (by simp)) (hD.keep k) hb0 hb1 (hV.keep k (Av.nil _ _)) (hS.keep0 k))
  have hMT : d.M ≠ d.T := heap_ne h hT (by simp)
  have HM := Lib.hid h
  have HT := Lib.hid hT
  have HQ := Lib.hid hq
  obtain ⟨xq, hxq⟩ : ∃ xq, xq = (xs.map (fun x => x.h)).map encZ := ⟨_, rfl⟩
  rw [← hxq] at HQ ⊢
  clear hN hb hD hV hS hver h hT hq hr hx hxb hk
  go_enter Tryz.func64, Tryz.ntmps64
  go_wp2_with fail
  refine HO.out.mono ?_
  rintro e w1 ⟨rfl, rfl⟩
  go_wp2_with fail
  refine HLn.out.mono ?_
  rintro e w1 ⟨rfl, k1⟩
  go_wp2_with fail
  refine (HMy.out w1 k1).mono ?_
  rintro e w2 ⟨rfl, k2'⟩
  have k2 := k1.then k2'
  have hM2 := k2.heap HM.out (by simp)
  have hT2 := k2.heap HT.out (by simp)
  have hq2 := ownsRow_av HQ.out k2 (Av.nil _ _)
  have hs2 := k2.size
  have m8 : w2.cell? ⟨d.M, 8, none⟩ = some (.int .i64 given) := cell_is hM2 8 rfl
  have f8 := unfrozen hM2 8
  have m3 : w2.cell? ⟨d.M, 3, none⟩ = some (.slice pq nq cq) := cell_is hM2 3 rfl
  have f3 := unfrozen hM2 3
  have t0 : w2.cell? ⟨d.T, 0, none⟩ = some (.int .i64 1) := cell_is hT2 0 rfl
  have t1 : w2.cell? ⟨d.T, 1, none⟩ = some (.int .i64 0) := cell_is hT2 1 rfl
  have ft0 := unfrozen hT2 0
  have ft1 := unfrozen hT2 1
  have hgw : wrap64 (given + 1) = given + 1 := by unfold wrap64; omega
  have kS := ((((Chg.refl [] w2).mono (T := [d.M, d.T]) (fun x hx _ => by cases hx)).then_set (g := d.M) (fun _ => by simp) 8 (.int .i64 (given + 1))).then_set (g := d.T) (fun _ => by simp) 0 (.int .i64 2)).then_set (g := d.T) (fun _ => by simp) 1 (.int .i64 (given + 1))
  have hMS : MgrG (((w2.setCell ⟨d.M, 8, none⟩ (.int .i64 (given + 1))).setCell ⟨d.T, 0, none⟩ (.int .i64 2)).setCell ⟨d.T, 1, none⟩ (.int .i64 (given + 1))) d.M d.X d.B d.r (.slice pq nq cq) out num bas last (given + 1) false :=
    heap_set_ne (heap_set_ne (heap_set hM2 8 _ rfl) hMT _ _) hMT _ _
  have hTS : TxW (((w2.setCell ⟨d.M, 8, none⟩ (.int .i64 (given + 1))).setCell ⟨d.T, 0, none⟩ (.int .i64 2)).setCell ⟨d.T, 1, none⟩ (.int .i64 (given + 1))) d.T d.W d.Q (given + 1) p.t :=
    heap_set (heap_set (heap_set_ne hT2 hMT.symm _ _) 0 _ rfl) 1 _ rfl
  have avS : Av w2 [d.M, d.T] [3] := fun x hx cs t fr hh => by
    simp at hx
    rcases hx with rfl | rfl
    · rw [show w2.heap[d.M]? = _ from hM2] at hh; cases hh; simp
    · rw [show w2.heap[d.T]? = _ from hT2] at hh; cases hh; simp
  have hqS := ownsRow_av hq2 kS avS
  clear HMy HLn HO k1 k2' t4
  go_upto_region 14 with fail
  have hsS : loq ≤ (((w2.setCell ⟨d.M, 8, none⟩ (.int .i64 (given + 1))).setCell ⟨d.T, 0, none⟩ (.int .i64 2)).setCell ⟨d.T, 1, none⟩ (.int .i64 (given + 1))).heap.size := by have := kS.size; omega
  clear m8 f8 m3 f3 t0 t1 ft0 ft1 avS hq2
  generalize ((w2.setCell ⟨d.M, 8, none⟩ (.int .i64 (given + 1))).setCell ⟨d.T, 0, none⟩ (.int .i64 2)).setCell ⟨d.T, 1, none⟩ (.int .i64 (given + 1)) = wS at *
  have m3 : wS.cell? ⟨d.M, 3, none⟩ = some (.slice pq nq cq) := cell_is hMS 3 rfl
  go_wp2_with (at_builtin; refine wpList_append_lit rfl (.tmp 59) (.tmp 61) 22 3 rfl ty62 inf3 rfl (by decide) loq wS [.int .i64 p.h] 1 rfl (.slice pq nq cq) nq xq rfl hqS (by omega) (by decide) hsS (k := 0) rfl (by simp [Value.oneCell']) rfl 1 rfl ?_; intro v' w4 hap; obtain ⟨g4, c4, rfl⟩ := own_some hap.1 (by omega); have k4 : Chg (Value.slice pq nq cq).ownBlock.toList wS w4 := Chg.own hap.2.2 (fun g hg _ => by have hg2 : (Value.slice pq nq cq).ownBlock = some g := hg; simp [hg2]); have hM4 := k4.heap hMS (own_block_ne hqS hMS (by decide)); have m34 := cell_is hM4 3 rfl; have f34 := unfrozen hM4 3)
  have hT4 := k4.heap hTS (own_block_ne hqS hTS (by decide))
  have hset := Chg.set w4 d.M 3 (.slice (some ⟨g4, 0, none⟩) (nq + 1) c4)
  have hq4 := ownsRow_av hap.1 hset (Av.row hM4 (by decide))
  go_ret
  refine ⟨g4, c4, rfl, ?_, heap_set hM4 3 _ rfl, hq4, heap_set_ne hT4 hMT.symm _ _⟩
  refine (((k2.mono (fun x hx _ => by cases hx)).then (kS.mono ?_)).then (k4.mono ?_)).then (hset.mono ?_)
  · intro x hx _; simp only [List.mem_cons, List.not_mem_nil, or_false] at hx; rcases hx with rfl | rfl <;> simp
  · intro x hx _; exact List.mem_cons_of_mem _ (List.mem_cons_of_mem _ hx)
  · intro x hx _; rw [List.mem_singleton] at hx; subst hx; exact List.mem_cons_self
end Go.Proofs.YtkhionhicegfmaaGreat
namespace Go.Proofs.YtkhionhicegfmaaGreat
open Go.RowKit Go.Lib

theorem WtOk.keepT {w w' : World} {U : List Nat} {Lr : List (Int × Value)} {x : Wt} (h : WtOk w Lr x) (hc : Chg U w w') (hT : x.T ∉ U) (hU : Av w U [266, 5]) (hr : x.rw ∉ U) : WtOk w' Lr x :=
  ⟨h.tab, hc.heap h.tx hT, h.buf.keep hc (hU.ne h.buf.1 (by simp)) hr, h.bd.keepA hc (fun y hy cs t fr hh ht => hU y hy cs t fr hh (by simp at ht; simp [ht])), h.bk, h.len⟩
theorem WtOk.lt {w : World} {Lr : List (Int × Value)} {x : Wt} (h : WtOk w Lr x) : x.T < w.heap.size ∧ x.rw < w.heap.size := ⟨heap_lt h.tx, h.buf.2.lt⟩
/-- a manager with one more that waits. -/
def comQ (s : Gs) (g n c : Nat) : Gs := { s with qv := .slice (some ⟨g, 0, none⟩) n c, given := s.given + 1 }
/-- the one that a Commit adds. -/
def wtOf (d : Ids) (p : Par) (k : Nat) (b : Int) (v : Value) (q : Int → List UInt8) : Wt := ⟨p.h, d.T, d.W, d.rw, d.Q, k, p.t, [(b, v)], q⟩
/-- what a Commit leaves beside others that wait. -/
def ComM (w w' : World) (lw : Nat) (d : Ids) (s : Gs) (g : Gk) (p : Par) (b : Int) (v : Value) (q : Int → List UInt8) (k nq : Nat) (xs : List Wt) : Prop :=
  ∃ gq cq, Stk w' lw d (comQ s gq (nq + 1) cq) g ∧ w'.ownsRow lw 3 1 (.slice (some ⟨gq, 0, none⟩) (nq + 1) cq) (nq + 1) (((xs ++ [wtOf d p k b v q]).map (fun x => x.h)).map encZ) ∧
    Chg (d.M :: d.T :: s.qv.ownBlock.toList) w w' ∧ (∀ x ∈ xs ++ [wtOf d p k b v q], WtOk w' s.Lr x) ∧ Cs lw w w'
set_option maxRecDepth 100000 in
theorem kcommit_many (w : World) {lw base nq cq k : Nat} {d : Ids} {s : Gs} {g : Gk} {p : Par} {q : Int → List UInt8} {b : Int} {v : Value} {pq : Option Addr} {xs : List Wt} (hf : Fr base d p (StkF lw d s g)) (h : Su w base d p (StkF lw d s g) q [(b, v)] 0) (hqv : s.qv = .slice pq nq cq) (hq : w.ownsRow lw 3 1 (.slice pq nq cq) nq ((xs.map (fun x => x.h)).map encZ)) (hxn : xs.length = nq) (hn1 : nq ≤ 1000)
    (hx : ∀ x ∈ xs, WtOk w s.Lr x ∧ x.T ≠ d.T) (hxb : ∀ x ∈ xs, ∀ p ∈ putsL x.L x.D, p.1 ≠ b) (hrd : s.rd = false) (ho : OldV p.Lv p.vs p.t) (hg : s.given + 1 = (k : Nat)) (hg1 : s.given < 1099511627776) (hg0 : 0 ≤ s.given) (hb0 : 0 ≤ b) (hb1 : b < 258) (htab : getL s.Lr p.h = some (.pointer (some ⟨d.T, 0, none⟩))) (hT : lw ≤ d.T) :
    Calls Tryz.prog 19 #[.pointer (some ⟨d.P, 0, none⟩), .int .i64 p.h] w fun e w' => e = .returned (.int .i64 0) ∧ ComM w w' lw d s g p b v q k nq xs := by
  have hS : Stk w lw d s g := h.env
  have hN := hf.need w h.env
  have hm := hS.mx.mgr
  have hlw : lw ≤ w.heap.size := by have := hS.bnd.1; have := heap_lt hS.store; omega
  rw [hqv, hrd] at hm
  refine scommit_one w hN ((tcommit_many w hN ho hm hg0 hg1 hq hxn hn1 hS.mx.map (fun x hx2 => (hx x hx2).1) hxb hlw h.tx h.buf h.bufD hb0 hb1 h.vw h.sp).mono ?_)
  rintro e w' ⟨gq, c, rfl, k1, hm', ho', hT'⟩
  refine ⟨rfl, gq, c, ?_⟩
  have tp : Tp w (d.M :: d.T :: (Value.slice pq nq cq).ownBlock.toList) [189, 202, 3] := fun x hx => by
    simp only [List.mem_cons] at hx
    rcases hx with rfl | rfl | hx
    · exact ⟨_, _, hm, by simp⟩
    · exact ⟨_, _, h.tx, by simp⟩
    · obtain ⟨-, cs, hh⟩ := own_elem hq (show (Value.slice pq nq cq).ownBlock = some x by simpa using hx)
      exact ⟨_, _, hh, by simp⟩
  have hbn := hS.bnd
  refine ⟨⟨k1.heap hS.store ((tp.av (ts' := [105]) (by decide)).ne hS.store (by simp)), k1.heap hS.slot ((tp.av (ts' := [166]) (by decide)).ne hS.slot (by simp)), hS.text.keep k1 (tp.av (by decide)), hS.dev.keep k1 (tp.av (by decide)),
    ⟨by show MgrG w' d.M d.X d.B d.r (.slice (some ⟨gq, 0, none⟩) (nq + 1) c) s.out s.num s.bas s.last (s.given + 1) s.rd; rw [hrd]; exact hm', hS.mx.ver.keepA k1 (tp.av (by decide)) (tp.map hS.mx.ver.m), ⟨k1.heap hS.mx.book.1 ((tp.av (ts' := [256]) (by decide)).ne hS.mx.book.1 (by simp)), hS.mx.book.2.keep k1 (tp.map hS.mx.book.2)⟩, hS.mx.map.keep k1 (tp.map hS.mx.map), hS.mx.n1, hS.mx.n2, hS.mx.n3⟩, hS.ap, hS.keys, hS.bnd, hS.bndZ, Nat.le_trans hS.slo k1.size, hS.dlo⟩, ?_, by rw [hqv]; exact k1, fun x hx2 => ?_, Cs.of_tp k1 tp (by decide) (fun x hx => ?_)⟩
  · rw [List.map_append, List.map_append]
    exact ho'
  · rcases List.mem_append.1 hx2 with hx2 | hx2
    · obtain ⟨h1, h2⟩ := hx x hx2
      refine h1.keepT k1 ?_ (tp.av (by decide)) (tp.map h1.buf.2)
      simp only [List.mem_cons, not_or]
      refine ⟨heap_ne h1.tx hm (by simp), h2, fun hm2 => ?_⟩
      obtain ⟨-, cs, hh⟩ := own_elem hq (show (Value.slice pq nq cq).ownBlock = some x.T by simpa using hm2)
      rw [h1.tx] at hh
      cases hh
    · rw [List.mem_singleton] at hx2
      subst hx2
      exact ⟨htab, by show TxW w' d.T d.W d.Q ((k : Nat) : Int) p.t; rw [← hg]; exact hT', h.buf.keep k1 ((tp.av (ts' := [266]) (by decide)).ne h.buf.1 (by simp)) (tp.map h.buf.2), h.bufD.keepA k1 (tp.av (by decide)), h.keys, (by decide : 1 ≤ 16)⟩
  · simp only [List.mem_cons] at hx
    rcases hx with rfl | rfl | hx
    · omega
    · exact hT
    · have := (own_elem hq (show (Value.slice pq nq cq).ownBlock = some x by simpa using hx)).1
      omega
theorem putL_new {L : List (Int × Value)} {k : Int} (h : ∀ p ∈ L, p.1 ≠ k) (v : Value) : putL L k v = L ++ [(k, v)] := by
  induction L with
  | nil => rfl
  | cons p l ih =>
    simp only [putL]
    rw [if_neg (fun e => h p (List.mem_cons_self ..) e.symm), ih (fun q hq => h q (List.mem_cons_of_mem _ hq))]
    rfl
end Go.Proofs.YtkhionhicegfmaaGreat
namespace Go.Proofs.YtkhionhicegfmaaGreat
open Go.RowKit Go.Lib

/-- block K is a schedule, cell for cell. -/
def SchB (w : World) (K : Nat) (cs : Array Value) : Prop := w.heap[K]? = some (.cells cs 149 (0, 0))
set_option maxRecDepth 100000 in
theorem sgone_any (w : World) {K P : Nat} {cs : Array Value} (h : SchB w K cs) (h1 : cs[1]? = some (.pointer (some ⟨P, 0, none⟩))) : Calls Tryz.prog 87 #[.pointer (some ⟨K, 0, none⟩)] w fun e w' => e = .returned (.bool false) ∧ w = w' := by
  have c1 : w.cell? ⟨K, 1, none⟩ = some (.pointer (some ⟨P, 0, none⟩)) := cell_is h 1 h1
  clear h h1
  go_enter Tryz.func87, Tryz.ntmps87
  go_wp2_with fail
  go_ret
  exact ⟨rfl, rfl⟩
set_option maxRecDepth 100000 in
theorem sgone_nil (w : World) : Calls Tryz.prog 87 #[.pointer none] w fun e w' => e = .returned (.bool true) ∧ w = w' := by
  go_enter Tryz.func87, Tryz.ntmps87
  go_wp2_with fail
  go_ret
  exact ⟨rfl, rfl⟩
/-- the place of a client in its schedule. -/
def cli (a : Int) : Nat := 2 + 4 * (a.toNat - 1)
set_option maxRecDepth 100000 in
theorem client_in (w : World) {K P : Nat} {a : Int} {cs : Array Value} (h : SchB w K cs) (h1 : cs[1]? = some (.pointer (some ⟨P, 0, none⟩))) (ha : 1 ≤ a ∧ a ≤ 8) :
    Calls Tryz.prog 83 #[.pointer (some ⟨K, 0, none⟩), .int .i64 a] w fun e w' => e = .returned (.pointer (some ⟨K, cli a, none⟩)) ∧ w = w' := by
  have HG := Lib.hid (sgone_any w h h1)
  clear h h1
  have hc : a = 1 ∨ a = 2 ∨ a = 3 ∨ a = 4 ∨ a = 5 ∨ a = 6 ∨ a = 7 ∨ a = 8 := by omega
  clear ha
  rcases hc with rfl | rfl | rfl | rfl | rfl | rfl | rfl | rfl
  all_goals
    go_enter Tryz.func83, Tryz.ntmps83
    go_wp2_with fail
    refine HG.out.mono ?_
    rintro e w1 ⟨rfl, rfl⟩
    go_wp2_with fail
    go_ret
    exact ⟨rfl, rfl⟩
set_option maxRecDepth 100000 in
theorem client_out (w : World) {K P : Nat} {a : Int} {cs : Array Value} (h : SchB w K cs) (h1 : cs[1]? = some (.pointer (some ⟨P, 0, none⟩))) (ha : a < 1 ∨ 8 < a) :
    Calls Tryz.prog 83 #[.pointer (some ⟨K, 0, none⟩), .int .i64 a] w fun e w' => e = .returned (.pointer none) ∧ w = w' := by
  have HG := Lib.hid (sgone_any w h h1)
  clear h h1
  by_cases hlt : a < 1
  · have n1 : decide (a < 1) = true := decide_eq_true hlt
    go_enter Tryz.func83, Tryz.ntmps83
    go_wp2_with fail
    refine HG.out.mono ?_
    rintro e w1 ⟨rfl, rfl⟩
    go_wp2_with fail
    go_ret
    exact ⟨rfl, rfl⟩
  · have n1 : decide (a < 1) = false := decide_eq_false hlt
    have n2 : decide (8 < a) = true := decide_eq_true (by omega)
    go_enter Tryz.func83, Tryz.ntmps83
    go_wp2_with fail
    refine HG.out.mono ?_
    rintro e w1 ⟨rfl, rfl⟩
    go_wp2_with fail
    go_ret
    exact ⟨rfl, rfl⟩
set_option maxRecDepth 100000 in
theorem left_in (w : World) {K P n c : Nat} {a : Int} {p : Option Addr} {cs : Array Value} (h : SchB w K cs) (h1 : cs[1]? = some (.pointer (some ⟨P, 0, none⟩))) (ha : 1 ≤ a ∧ a ≤ 8) (ho : cs[cli a]? = some (.slice p n c)) :
    Calls Tryz.prog 37 #[.pointer (some ⟨K, 0, none⟩), .int .i64 a] w fun e w' => e = .returned (.int .i64 n) ∧ w = w' := by
  have HC := Lib.hid (client_in w h h1 ha)
  have c0 : w.cell? ⟨K, cli a, none⟩ = some (.slice p n c) := cell_is h _ ho
  generalize cli a = o at *
  clear h h1 ha ho
  go_enter Tryz.func37, Tryz.ntmps37
  go_wp2_with fail
  refine HC.out.mono ?_
  rintro e w1 ⟨rfl, rfl⟩
  go_wp2_with fail
  go_ret
  exact ⟨rfl, rfl⟩
set_option maxRecDepth 100000 in
theorem left_out (w : World) {K P : Nat} {a : Int} {cs : Array Value} (h : SchB w K cs) (h1 : cs[1]? = some (.pointer (some ⟨P, 0, none⟩))) (ha : a < 1 ∨ 8 < a) :
    Calls Tryz.prog 37 #[.pointer (some ⟨K, 0, none⟩), .int .i64 a] w fun e w' => e = .returned (.int .i64 0) ∧ w = w' := by
  have HC := Lib.hid (client_out w h h1 ha)
  clear h h1 ha
  go_enter Tryz.func37, Tryz.ntmps37
  go_wp2_with fail
  refine HC.out.mono ?_
  rintro e w1 ⟨rfl, rfl⟩
  go_wp2_with fail
  go_ret
  exact ⟨rfl, rfl⟩
set_option maxRecDepth 100000 in
theorem answers_out (w : World) {K P : Nat} {a : Int} {cs : Array Value} (h : SchB w K cs) (h1 : cs[1]? = some (.pointer (some ⟨P, 0, none⟩))) (ha : a < 1 ∨ 8 < a) :
    Calls Tryz.prog 40 #[.pointer (some ⟨K, 0, none⟩), .int .i64 a] w fun e w' => e = .returned (.slice none 0 0) ∧ w = w' := by
  have HC := Lib.hid (client_out w h h1 ha)
  clear h h1 ha
  go_enter Tryz.func40, Tryz.ntmps40
  go_wp2_with fail
  refine HC.out.mono ?_
  rintro e w1 ⟨rfl, rfl⟩
  go_wp2_with fail
  go_ret
  exact ⟨rfl, rfl⟩
set_option maxRecDepth 100000 in
theorem step_out (w : World) {K P : Nat} {a : Int} {cs : Array Value} (h : SchB w K cs) (h1 : cs[1]? = some (.pointer (some ⟨P, 0, none⟩))) (ha : a < 1 ∨ 8 < a) :
    Calls Tryz.prog 35 #[.pointer (some ⟨K, 0, none⟩), .int .i64 a] w fun e w' => ∃ v, e = .returned (.tuple #[v, .int .i64 1]) ∧ Chg [] w w' := by
  have k0 : Chg [] w (w.alloc (.cells #[.int .i64 0, .int .i64 0, .int .i64 0, .int .i64 0, .slice none 0 0] 66)) := Chg.alloc w _
  have HC := Lib.hid (client_out _ (k0.heap h (by simp)) h1 ha)
  have HK := Lib.hid k0
  clear h h1 ha k0
  go_enter Tryz.func35, Tryz.ntmps35
  go_wp2_with fail
  refine HC.out.mono ?_
  rintro e w1 ⟨rfl, rfl⟩
  go_wp2_with fail
  refine bodyPost_ret (v := .tuple #[.agg #[.int .i64 0, .int .i64 0, .int .i64 0, .int .i64 0, .slice none 0 0], .int .i64 1]) (by simp [results, Tryz.results35, go_sem]) rfl ?_
  exact ⟨_, rfl, HK.out⟩
end Go.Proofs.YtkhionhicegfmaaGreat
namespace Go.Proofs.YtkhionhicegfmaaGreat
open Go.RowKit Go.Lib

theorem ty35 : Tryz.prog.underlying 35 = some (.slice 43) := by kernel_rfl
theorem inf43 : (Tryz.prog.info? 43).map (fun i => (i.zero, i.size, i.bytes)) = some (some (.agg #[.int .i64 0, .slice none 0 0]), 2, 32) := by kernel_rfl
set_option maxRecDepth 100000 in
theorem pclone_nil (w : World) : Calls Tryz.prog 137 #[.slice none 0 0] w fun e w' => e = .returned (.slice none 0 0) ∧ w = w' := by
  have hn : ∀ w, (binOp .eql 35 (.slice none 0 0) (.slice none 0 0)).run Tryz.prog w = .ok (.bool true) w := fun w => run_eql_nil_slice w 35 43 none 0 0 0 0 ty35
  go_enter Tryz.func137, Tryz.ntmps137
  go_wp2_with fail
  go_ret
  exact ⟨rfl, rfl⟩
/-- a put is put behind an empty row of puts. -/
theorem wpList_append_put {ops : Array Oper} {rest : List Oper} {o : Oper} {a : Act} {w : World} {Q : Exit → Act → World → Prop} (hgd : o.guard = none) (s x : Operand)
    (ho : o.op = .call { callee := .builtin .append, args := #[s, x], argTypes := #[35, 35] }) (z b bo c : Nat) (u0 u1 : Value) (hs : a.eval s = .slice (some ⟨z, 0, none⟩) 0 0) (hz : w.heap[z]? = some (.cells #[] 43 (0, 0)))
    (hx : a.eval x = .slice (some ⟨b, bo, none⟩) 1 c) (c0 : w.cell? ⟨b, bo, none⟩ = some u0) (c1 : w.cell? ⟨b, bo + 1, none⟩ = some u1) (h1 : u0.oneCell' = true ∧ u1.oneCell' = true)
    (h : ∀ g cap w', Chg [z] w w' → w'.ownsRow z 43 2 (.slice (some ⟨g, 0, none⟩) 1 cap) 1 [u0, u1] → wpList Tryz.prog ops Q rest (a.put o.dst (.slice (some ⟨g, 0, none⟩) 1 cap)) w') : wpList Tryz.prog ops Q (o :: rest) a w := by
  obtain ⟨i, hi0, hz0, hz1, hz2⟩ := info_parts inf43
  have hown : w.ownsRow z 43 2 (.slice (some ⟨z, 0, none⟩) 0 0) 0 [] := ⟨rfl, Or.inr ⟨z, 0, #[], rfl, Nat.le_refl _, hz, Nat.le_refl _, by unfold maxLen; omega, rfl, rfl⟩⟩
  refine wpList_append_lies w hgd s x 35 ho z 43 i _ 2 32 ty35 hi0 hz0 hz1 hz2 rfl (by decide) _ 0 [] hs hown ⟨b, bo, none⟩ 1 c [u0, u1] hx rfl ?_ ?_ (by decide) (by unfold maxLen; omega) (by omega) (Nat.le_of_lt (heap_lt hz)) _ rfl ?_
  · intro j u hu
    rw [show (⟨b, bo, none⟩ : Addr).add j = ⟨b, bo + j, none⟩ from by unfold Addr.add; split <;> simp_all]
    match j with
    | 0 => cases hu; exact c0
    | 1 => cases hu; exact c1
    | j + 2 => simp at hu
  · intro u hu
    simp at hu
    rcases hu with rfl | rfl
    · exact h1.1
    · exact h1.2
  · intro g cap w' h2 h3 _ _
    exact h g cap w' (Chg.of_grown h3) h2
set_option maxRecDepth 100000 in
theorem pclone_one (w : World) {E eo c : Nat} {u0 u1 : Value} (h0 : w.cell? ⟨E, eo, none⟩ = some u0) (h1 : w.cell? ⟨E, eo + 1, none⟩ = some u1) (ho : u0.oneCell' = true ∧ u1.oneCell' = true) : Calls Tryz.prog 137 #[.slice (some ⟨E, eo, none⟩) 1 c] w fun e w' =>
    ∃ g c', e = .returned (.slice (some ⟨g, 0, none⟩) 1 c') ∧ Chg [] w w' ∧ w'.ownsRow w.heap.size 43 2 (.slice (some ⟨g, 0, none⟩) 1 c') 1 [u0, u1] := by
  have hn : ∀ w, (binOp .eql 35 (.slice (some ⟨E, eo, none⟩) 1 c) (.slice none 0 0)).run Tryz.prog w = .ok (.bool false) w := fun w => Lib.run_eql_slice_nil w 35 43 _ _ _ 0 0 ty35
  have k0 : Chg [] w (w.alloc (.cells #[] 43)) := Chg.alloc w _
  have hb := k0.cell h0 (by simp)
  have hb1 := k0.cell h1 (by simp)
  have hz := heap_new w (.cells #[] 43)
  clear h0 h1
  go_enter Tryz.func137, Tryz.ntmps137
  go_wp2_with (first | (at_builtin; refine wpList_append_put rfl (.tmp 5) (.tmp 6) rfl w.heap.size E eo c u0 u1 rfl hz rfl hb hb1 ho ?_; intro g2 c2 w2 k2 o2))
  go_ret
  exact ⟨g2, c2, rfl, k0.trans k2 (fun x hx hlt => by simp at hx; omega), o2⟩
/-- one put that is an op's own: block E holds it, its bytes are in block D. -/
def PutOf (w : World) (lo : Nat) (pv : Value) (b : Int) (l : List UInt8) : Prop :=
  ∃ E c D cd cs, pv = .slice (some ⟨E, 0, none⟩) 1 c ∧ lo ≤ E ∧ lo ≤ D ∧ w.heap[E]? = some (.cells cs 43 (0, 0)) ∧ cs[0]? = some (.int .i64 b) ∧ cs[1]? = some (.slice (some ⟨D, 0, none⟩) 40 cd) ∧ Bs w (some ⟨D, 0, none⟩) l ∧ l.length = 40 ∧ Bt w D
theorem Bs.chgB {w w' : World} {T : List Nat} {g o : Nat} {l : List UInt8} (h : Bs w (some ⟨g, o, none⟩) l) (hc : Chg T w w') (hg : g ∉ T) : Bs w' (some ⟨g, o, none⟩) l := by
  rcases h with h | ⟨b, off, he, hb, hcs⟩
  · exact Or.inl h
  · refine Or.inr ⟨b, off, he, Nat.lt_of_lt_of_le hb hc.size, fun j hj => hc.cell (hcs j hj) ?_⟩
    cases he
    exact hg
theorem PutOf.keepT {w w' : World} {U : List Nat} {lo : Nat} {pv : Value} {b : Int} {l : List UInt8} (h : PutOf w lo pv b l) (hc : Chg U w w') (hU : ∀ x ∈ U, x < w.heap.size → ∀ cs t fr, w.heap[x]? = some (.cells cs t fr) → t ≠ 43 ∧ t ≠ 5) : PutOf w' lo pv b l := by
  obtain ⟨E, c, D, cd, cs, h1, h2, h3, h4, h5, h6, h7, h8, ct, h9⟩ := h
  have nD : D ∉ U := fun hx => (hU D hx (heap_lt h9) _ _ _ h9).2 rfl
  exact ⟨E, c, D, cd, cs, h1, h2, h3, hc.heap h4 (fun hx => (hU E hx (heap_lt h4) _ _ _ h4).1 rfl), h5, h6, h7.chgB hc nD, h8, ct, hc.heap h9 nD⟩
theorem set5 {w : World} {g : Nat} {t : TypeId} {a0 a1 a2 a3 a4 : Value} (b0 b1 b2 b3 b4 : Value) (h : w.heap[g]? = some (.cells #[a0, a1, a2, a3, a4] t (0, 0))) :
    (((((w.setCell ⟨g, 0, none⟩ b0).setCell ⟨g, 1, none⟩ b1).setCell ⟨g, 2, none⟩ b2).setCell ⟨g, 3, none⟩ b3).setCell ⟨g, 4, none⟩ b4).heap[g]? = some (.cells #[b0, b1, b2, b3, b4] t (0, 0)) ∧
    Chg [g] w (((((w.setCell ⟨g, 0, none⟩ b0).setCell ⟨g, 1, none⟩ b1).setCell ⟨g, 2, none⟩ b2).setCell ⟨g, 3, none⟩ b3).setCell ⟨g, 4, none⟩ b4) :=
  ⟨heap_set (heap_set (heap_set (heap_set (heap_set h 0 b0 rfl) 1 b1 rfl) 2 b2 rfl) 3 b3 rfl) 4 b4 rfl,
    ((((Chg.set w g 0 b0).then (Chg.set _ g 1 b1)).then (Chg.set _ g 2 b2)).then (Chg.set _ g 3 b3)).then (Chg.set _ g 4 b4)⟩
theorem heap_new2 (w : World) (o p : Obj) : ((w.alloc o).alloc p).heap[w.heap.size]? = some o ∧ ((w.alloc o).alloc p).heap[w.heap.size + 1]? = some p := by
  refine ⟨(Chg.alloc (S := []) _ _).heap (heap_new w _) (by simp), ?_⟩
  have := heap_new (w.alloc o) p
  rwa [show (w.alloc o).heap.size = w.heap.size + 1 from by rw [show (w.alloc o).heap = w.heap.push o from rfl, Array.size_push]] at this
set_option maxRecDepth 100000 in
theorem own_none (w : World) {k h a l : Int} : Calls Tryz.prog 84 #[.agg #[.int .i64 k, .int .i64 h, .int .i64 a, .int .i64 l, .slice none 0 0]] w fun e w' =>
    e = .returned (.agg #[.int .i64 k, .int .i64 h, .int .i64 a, .int .i64 l, .slice none 0 0]) ∧ Chg [] w w' := by
  have kk : Chg [] w ((w.alloc (.cells #[.int .i64 k, .int .i64 h, .int .i64 a, .int .i64 l, .slice none 0 0] 64)).alloc (.cells #[.int .i64 0, .int .i64 0, .int .i64 0, .int .i64 0, .slice none 0 0] 64)) := (Chg.alloc w _).then_alloc _
  have hlen : ∀ wx : World, (Builtin.len_ #[35] 3 #[.slice none 0 0]).run Tryz.prog wx = .ok (.int .i64 0) wx := fun wx => rfl
  obtain ⟨y1, y2⟩ := heap_new2 w (.cells #[.int .i64 k, .int .i64 h, .int .i64 a, .int .i64 l, .slice none 0 0] 64) (.cells #[.int .i64 0, .int .i64 0, .int .i64 0, .int .i64 0, .slice none 0 0] 64)
  go_enter Tryz.func84, Tryz.ntmps84
  go_wp2_with fail
  refine (pclone_nil _).mono ?_
  rintro e w1 ⟨rfl, rfl⟩
  go_wp2_with fail
  generalize (w.alloc (.cells #[.int .i64 k, .int .i64 h, .int .i64 a, .int .i64 l, .slice none 0 0] 64)).alloc (.cells #[.int .i64 0, .int .i64 0, .int .i64 0, .int .i64 0, .slice none 0 0] 64) = w0 at *
  have hzl := heap_lt y1
  generalize hz : w.heap.size = z at *
  have c0 : w0.cell? ⟨z, 0, none⟩ = some (.int .i64 k) := cell_is y1 0 rfl
  have c1 : w0.cell? ⟨z, 1, none⟩ = some (.int .i64 h) := cell_is y1 1 rfl
  have c2 : w0.cell? ⟨z, 2, none⟩ = some (.int .i64 a) := cell_is y1 2 rfl
  have c3 : w0.cell? ⟨z, 3, none⟩ = some (.int .i64 l) := cell_is y1 3 rfl
  have c4 : w0.cell? ⟨z, 4, none⟩ = some (.slice none 0 0) := cell_is y1 4 rfl
  have d0 : w0.cell? ⟨z + 1, 0, none⟩ = some (.int .i64 0) := cell_is y2 0 rfl
  have d1 : w0.cell? ⟨z + 1, 1, none⟩ = some (.int .i64 0) := cell_is y2 1 rfl
  have d2 : w0.cell? ⟨z + 1, 2, none⟩ = some (.int .i64 0) := cell_is y2 2 rfl
  have d3 : w0.cell? ⟨z + 1, 3, none⟩ = some (.int .i64 0) := cell_is y2 3 rfl
  have d4 : w0.cell? ⟨z + 1, 4, none⟩ = some (.slice none 0 0) := cell_is y2 4 rfl
  have e0 := unfrozen y2 0
  have e1 := unfrozen y2 1
  have e2 := unfrozen y2 2
  have e3 := unfrozen y2 3
  have e4 := unfrozen y2 4
  go_loopw [3, 11] (fun _ i wr => i = .int .i64 0 ∧ wr = w0) (fun _ _ _ => 0)
  case atStart => exact ⟨rfl, rfl⟩
  case round =>
    obtain ⟨rfl, rfl⟩ := hrel
    go_wp2_with fail
    obtain ⟨y5, k5⟩ := set5 (.int .i64 k) (.int .i64 h) (.int .i64 a) (.int .i64 l) (.slice none 0 0) y2
    have hfin := kk.trans k5 (fun x hx hlt => by simp at hx; omega)
    have r0 := cell_is y5 0 rfl
    have r1 := cell_is y5 1 rfl
    have r2 := cell_is y5 2 rfl
    have r3 := cell_is y5 3 rfl
    have r4 := cell_is y5 4 rfl
    refine bodyPost_ret (v := .agg #[.int .i64 k, .int .i64 h, .int .i64 a, .int .i64 l, .slice none 0 0]) (by simp [results, Tryz.results84, go_sem, r0, r1, r2, r3, r4]) rfl ?_
    exact ⟨rfl, hfin⟩
set_option maxRecDepth 100000 in
set_option maxHeartbeats 1000000 in
theorem own_one (w : World) {k h a l b : Int} {E eo c D cd : Nat} {dl : List UInt8} (u0 : w.cell? ⟨E, eo, none⟩ = some (.int .i64 b)) (u1 : w.cell? ⟨E, eo + 1, none⟩ = some (.slice (some ⟨D, 0, none⟩) 40 cd)) (hb : Bs w (some ⟨D, 0, none⟩) dl) (hl : dl.length = 40) :
    Calls Tryz.prog 84 #[.agg #[.int .i64 k, .int .i64 h, .int .i64 a, .int .i64 l, .slice (some ⟨E, eo, none⟩) 1 c]] w fun e w' =>
    ∃ pv, e = .returned (.agg #[.int .i64 k, .int .i64 h, .int .i64 a, .int .i64 l, pv]) ∧ Chg [] w w' ∧ PutOf w' w.heap.size pv b dl := by
  have kk : Chg [] w ((w.alloc (.cells #[.int .i64 k, .int .i64 h, .int .i64 a, .int .i64 l, .slice (some ⟨E, eo, none⟩) 1 c] 64)).alloc (.cells #[.int .i64 0, .int .i64 0, .int .i64 0, .int .i64 0, .slice none 0 0] 64)) := (Chg.alloc w _).then_alloc _
  obtain ⟨y1, y2⟩ := heap_new2 w (.cells #[.int .i64 k, .int .i64 h, .int .i64 a, .int .i64 l, .slice (some ⟨E, eo, none⟩) 1 c] 64) (.cells #[.int .i64 0, .int .i64 0, .int .i64 0, .int .i64 0, .slice none 0 0] 64)
  go_enter Tryz.func84, Tryz.ntmps84
  go_wp2_with fail
  generalize (w.alloc (.cells #[.int .i64 k, .int .i64 h, .int .i64 a, .int .i64 l, .slice (some ⟨E, eo, none⟩) 1 c] 64)).alloc (.cells #[.int .i64 0, .int .i64 0, .int .i64 0, .int .i64 0, .slice none 0 0] 64) = w0 at *
  have hzl := heap_lt y1
  generalize hz : w.heap.size = z at *
  refine (pclone_one w0 (kk.cell u0 (by simp)) (kk.cell u1 (by simp)) ⟨rfl, rfl⟩).mono ?_
  rintro e w1 ⟨g, c1, rfl, k1, o1⟩
  have x1 := k1.heap y1 (by simp)
  have x2 := k1.heap y2 (by simp)
  have f4 : w1.cell? ⟨z, 4, none⟩ = some (.slice (some ⟨E, eo, none⟩) 1 c) := cell_is x1 4 rfl
  have q4 := unfrozen x1 4
  have xg : ∃ cur, w1.heap[g]? = some (.cells cur 43 (0, 0)) ∧ cur[0]? = some (.int .i64 b) ∧ cur[1]? = some (.slice (some ⟨D, 0, none⟩) 40 cd) ∧ w0.heap.size ≤ g := by
    rcases o1.2 with ⟨e, _⟩ | ⟨g', cap, cur, e, hA, hg, hc1, hc2, hc3, ht⟩
    · cases e
    · cases e
      refine ⟨cur, hg, ?_, ?_, hA⟩
      · have : (cur.toList.take (1 * 2))[0]? = some (.int .i64 b) := by rw [ht]; rfl
        rwa [List.getElem?_take_of_lt (by omega), Array.getElem?_toList] at this
      · have : (cur.toList.take (1 * 2))[1]? = some (.slice (some ⟨D, 0, none⟩) 40 cd) := by rw [ht]; rfl
        rwa [List.getElem?_take_of_lt (by omega), Array.getElem?_toList] at this
  obtain ⟨cur, xg, cu0, cu1, hg⟩ := xg
  go_wp2_with fail
  have m1 : (w1.setCell ⟨z, 4, none⟩ (.slice (some ⟨g, 0, none⟩) 1 c1)).heap[z]? = some (.cells #[.int .i64 k, .int .i64 h, .int .i64 a, .int .i64 l, .slice (some ⟨g, 0, none⟩) 1 c1] 64 (0, 0)) := heap_set x1 4 _ rfl
  have hgz : g ≠ z := by omega
  have hg1 : z + 1 < g := by have := heap_lt y2; omega
  have mg : (w1.setCell ⟨z, 4, none⟩ (.slice (some ⟨g, 0, none⟩) 1 c1)).heap[g]? = some (.cells cur 43 (0, 0)) := heap_set_ne xg hgz _ _
  have m2 := heap_set_ne x2 (show z + 1 ≠ z by omega) 4 (.slice (some ⟨g, 0, none⟩) 1 c1)
  have k2 : Chg [] w (w1.setCell ⟨z, 4, none⟩ (.slice (some ⟨g, 0, none⟩) 1 c1)) := (kk.then k1).trans (Chg.set w1 z 4 _) (fun x hx hlt => by simp at hx; omega)
  generalize w1.setCell ⟨z, 4, none⟩ (.slice (some ⟨g, 0, none⟩) 1 c1) = w2 at *
  have HB := Lib.hid (hb.keep k2.below0)
  clear hb u0 u1 x1 x2 xg o1 f4 q4 y1 y2 k1
  go_loopw [3, 11] (fun _ i wr => (i = .int .i64 0 ∧ w2 = wr) ∨ (i = .int .i64 1 ∧ Chg [] w wr ∧ wr.heap[z]? = some (.cells #[.int .i64 k, .int .i64 h, .int .i64 a, .int .i64 l, .slice (some ⟨g, 0, none⟩) 1 c1] 64 (0, 0)) ∧ wr.heap[z + 1]? = some (.cells #[.int .i64 0, .int .i64 0, .int .i64 0, .int .i64 0, .slice none 0 0] 64 (0, 0)) ∧ PutOf wr z (.slice (some ⟨g, 0, none⟩) 1 c1) b dl)) (fun _ i _ => 1 - (intOf i).toNat)
  case atStart => exact Or.inl ⟨rfl, rfl⟩
  case round =>
    rcases hrel with ⟨rfl, rfl⟩ | ⟨rfl, kr, y1, y2, hp⟩
    · have v4 : w2.cell? ⟨z, 4, none⟩ = some (.slice (some ⟨g, 0, none⟩) 1 c1) := cell_is m1 4 rfl
      have t0 : w2.cell? ⟨g, 0, none⟩ = some (.int .i64 b) := cell_is mg 0 cu0
      have t1 : w2.cell? ⟨g, 1, none⟩ = some (.slice (some ⟨D, 0, none⟩) 40 cd) := cell_is mg 1 cu1
      have kd : Chg [] w2 w2.drew := (Chg.refl [] w2).drew
      go_wp2_with fail
      have t1d : w2.drew.cell? ⟨g, 1, none⟩ = some (.slice (some ⟨D, 0, none⟩) 40 cd) := t1
      have v4d : w2.drew.cell? ⟨z, 4, none⟩ = some (.slice (some ⟨g, 0, none⟩) 1 c1) := v4
      go_region_law
        (first
          | (go_simp; go_at_call 97; refine (clone_bt w2.drew hl (by decide) (by decide) (HB.out.keep kd.below0)).mono ?_; rintro e w3 ⟨D2, cd2, rfl, k3, hB3, hD3, hT3⟩; have fz := unfrozen (k3.heap mg (by simp)) 1; have s1 := k3.cell t1d (by simp); have s4 := k3.cell v4d (by simp); have m13 := k3.heap m1 (by simp)))
      all_goals
        have mg3 : (w3.setCell ⟨g, 1, none⟩ (.slice (some ⟨D2, 0, none⟩) 40 cd2)).heap[g]? = _ := heap_set (k3.heap mg (by simp)) 1 _ rfl
        have m14 := heap_set_ne m13 (Ne.symm hgz) 1 (.slice (some ⟨D2, 0, none⟩) 40 cd2)
        have m24 := heap_set_ne (k3.heap m2 (by simp)) (show z + 1 ≠ g by omega) 1 (.slice (some ⟨D2, 0, none⟩) 40 cd2)
        have hDg : D2 ≠ g := by have := heap_lt mg; have : w2.drew.heap.size = w2.heap.size := rfl; omega
        have ks : Chg [g] w3 (w3.setCell ⟨g, 1, none⟩ (.slice (some ⟨D2, 0, none⟩) 40 cd2)) := Chg.set _ _ _ _
        have kf : Chg [] w (w3.setCell ⟨g, 1, none⟩ (.slice (some ⟨D2, 0, none⟩) 40 cd2)) := ((k2.drew).then k3).trans ks (fun x hx hlt => by simp at hx; omega)
        have hp : PutOf (w3.setCell ⟨g, 1, none⟩ (.slice (some ⟨D2, 0, none⟩) 40 cd2)) z (.slice (some ⟨g, 0, none⟩) 1 c1) b dl := by
          obtain ⟨ct, hT⟩ := hT3
          refine ⟨g, c1, D2, cd2, _, rfl, by omega, by have : w2.drew.heap.size = w2.heap.size := rfl; have := heap_lt mg; omega, mg3, ?_, ?_, hB3.chgB ks (by simpa using hDg), hl, ct, heap_set_ne hT hDg _ _⟩
          · rw [Array.getElem?_setIfInBounds_ne (by decide)]; exact cu0
          · rw [Array.getElem?_setIfInBounds_self_of_lt (by have := (Array.getElem?_eq_some_iff.1 cu1).1; exact this)]
        have HF := Lib.hid (And.intro kf (And.intro m14 (And.intro m24 hp)))
        clear kf m14 m24 hp ks mg3 k3 hB3 hT3 m13 s1 s4 t1 t1d t0 v4 v4d
        go_wp2_with fail
        go_roundw
        case rel => exact Or.inr ⟨rfl, HF.out⟩
        case measure => decide
    · have c0 := cell_is y1 0 rfl
      have c1' := cell_is y1 1 rfl
      have c2 := cell_is y1 2 rfl
      have c3 := cell_is y1 3 rfl
      have c4 := cell_is y1 4 rfl
      have d0 := cell_is y2 0 rfl
      have d1 := cell_is y2 1 rfl
      have d2 := cell_is y2 2 rfl
      have d3 := cell_is y2 3 rfl
      have d4 := cell_is y2 4 rfl
      have e0 := unfrozen y2 0
      have e1 := unfrozen y2 1
      have e2 := unfrozen y2 2
      have e3 := unfrozen y2 3
      have e4 := unfrozen y2 4
      have HF := Lib.hid (And.intro kr hp)
      clear kr hp
      go_wp2_with fail
      obtain ⟨y5, k5⟩ := set5 (.int .i64 k) (.int .i64 h) (.int .i64 a) (.int .i64 l) (.slice (some ⟨g, 0, none⟩) 1 c1) y2
      have hfin := HF.out.1.trans k5 (fun x hx hlt => by simp at hx; omega)
      have hpf : PutOf _ z (.slice (some ⟨g, 0, none⟩) 1 c1) b dl := HF.out.2.keepT k5 (fun x hx _ cs t fr hh => by
        rw [List.mem_singleton] at hx
        subst hx
        rw [y2] at hh
        cases hh
        exact ⟨by decide, by decide⟩)
      have r0 := cell_is y5 0 rfl
      have r1 := cell_is y5 1 rfl
      have r2 := cell_is y5 2 rfl
      have r3 := cell_is y5 3 rfl
      have r4 := cell_is y5 4 rfl
      refine bodyPost_ret (v := .agg #[.int .i64 k, .int .i64 h, .int .i64 a, .int .i64 l, .slice (some ⟨g, 0, none⟩) 1 c1]) (by simp [results, Tryz.results84, go_sem, r0, r1, r2, r3, r4]) rfl ?_
      exact ⟨_, rfl, hfin, by rw [hz]; exact hpf⟩
set_option maxRecDepth 100000 in
theorem kept_nil (w : World) {k h a l : Int} : Calls Tryz.prog 86 #[.agg #[.int .i64 k, .int .i64 h, .int .i64 a, .int .i64 l, .slice none 0 0]] w fun e w' =>
    e = .returned (.agg #[.int .i64 k, .int .i64 h, .int .i64 a, .int .i64 l, .slice none 0 0]) ∧ Chg [] w w' := by
  have kk : Chg [] w ((w.alloc (.cells #[.int .i64 k, .int .i64 h, .int .i64 a, .int .i64 l, .slice none 0 0] 66)).alloc (.cells #[.int .i64 0, .int .i64 0, .int .i64 0, .int .i64 0, .slice none 0 0] 66)) := (Chg.alloc w _).then_alloc _
  obtain ⟨y1, y2⟩ := heap_new2 w (.cells #[.int .i64 k, .int .i64 h, .int .i64 a, .int .i64 l, .slice none 0 0] 66) (.cells #[.int .i64 0, .int .i64 0, .int .i64 0, .int .i64 0, .slice none 0 0] 66)
  go_enter Tryz.func86, Tryz.ntmps86
  go_wp2_with fail
  refine (clone_nil _).mono ?_
  rintro e w1 ⟨rfl, rfl⟩
  generalize (w.alloc (.cells #[.int .i64 k, .int .i64 h, .int .i64 a, .int .i64 l, .slice none 0 0] 66)).alloc (.cells #[.int .i64 0, .int .i64 0, .int .i64 0, .int .i64 0, .slice none 0 0] 66) = w0 at *
  have hzl := heap_lt y1
  generalize hz : w.heap.size = z at *
  have c0 : w0.cell? ⟨z, 0, none⟩ = some (.int .i64 k) := cell_is y1 0 rfl
  have c1 : w0.cell? ⟨z, 1, none⟩ = some (.int .i64 h) := cell_is y1 1 rfl
  have c2 : w0.cell? ⟨z, 2, none⟩ = some (.int .i64 a) := cell_is y1 2 rfl
  have c3 : w0.cell? ⟨z, 3, none⟩ = some (.int .i64 l) := cell_is y1 3 rfl
  have c4 : w0.cell? ⟨z, 4, none⟩ = some (.slice none 0 0) := cell_is y1 4 rfl
  have d0 : w0.cell? ⟨z + 1, 0, none⟩ = some (.int .i64 0) := cell_is y2 0 rfl
  have d1 : w0.cell? ⟨z + 1, 1, none⟩ = some (.int .i64 0) := cell_is y2 1 rfl
  have d2 : w0.cell? ⟨z + 1, 2, none⟩ = some (.int .i64 0) := cell_is y2 2 rfl
  have d3 : w0.cell? ⟨z + 1, 3, none⟩ = some (.int .i64 0) := cell_is y2 3 rfl
  have d4 : w0.cell? ⟨z + 1, 4, none⟩ = some (.slice none 0 0) := cell_is y2 4 rfl
  have e0 := unfrozen y2 0
  have e1 := unfrozen y2 1
  have e2 := unfrozen y2 2
  have e3 := unfrozen y2 3
  have e4 := unfrozen y2 4
  have q4 := unfrozen y1 4
  go_wp2_with fail
  have y2' := heap_set_ne y2 (show z + 1 ≠ z by omega) 4 (.slice none 0 0)
  have k4 := Chg.set w0 z 4 (.slice none 0 0)
  obtain ⟨y5, k5⟩ := set5 (.int .i64 k) (.int .i64 h) (.int .i64 a) (.int .i64 l) (.slice none 0 0) y2'
  have hfin := (kk.trans k4 (fun x hx hlt => by simp at hx; omega)).trans k5 (fun x hx hlt => by simp at hx; omega)
  have r0 := cell_is y5 0 rfl
  have r1 := cell_is y5 1 rfl
  have r2 := cell_is y5 2 rfl
  have r3 := cell_is y5 3 rfl
  have r4 := cell_is y5 4 rfl
  refine bodyPost_ret (v := .agg #[.int .i64 k, .int .i64 h, .int .i64 a, .int .i64 l, .slice none 0 0]) (by simp [results, Tryz.results86, go_sem, r0, r1, r2, r3, r4]) rfl ?_
  exact ⟨rfl, hfin⟩
end Go.Proofs.YtkhionhicegfmaaGreat
