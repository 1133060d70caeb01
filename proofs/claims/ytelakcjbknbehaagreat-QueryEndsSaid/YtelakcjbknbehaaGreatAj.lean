/- Lemmas and walks: Walks: a transaction is checked, and may be committed, where all versions are no newer than its time and nothing waits. Walks: a store's Begin and Commit, in general. Walks: store.Begin, and which blocks it changes. The reference's manager with one open transaction, or at rest; what the store's calls leave of it. Walks: a new world of law 26, with all that its store holds. What the store's calls leave of the reference's blocks, and what the reference's calls leave of the store. Walks: the reference's Manager.Read 37 and Write 41 of its open transaction. Walks: the reference's Book.place 218, Close 171 of the one handle that is open; end 101. Walks: the reference's Form 174, Batch 104 of one transaction that waits. Walks: the reference's Map.Apply 175. Walks: the reference's Done 105 and Flush 43 of one transaction that waits. -/
import Derived.Test.YtelakcjbknbehaaGreatAe
import Derived.Test.YtelakcjbknbehaaGreatAf
import Derived.Test.YtelakcjbknbehaaGreatAg
import Derived.Test.YtelakcjbknbehaaGreatAh
import Derived.Test.YtelakcjbknbehaaGreatAi
namespace Go.Proofs.YtelakcjbknbehaaGreat
open Go.RowKit Go.Lib

set_option maxRecDepth 100000 in
set_option maxHeartbeats 4000000 in
theorem check_old (w : World) {lo X rx lo1 U1 m1 n1 lo2 U2 m2 n2 cq : Nat} {pq : Option Addr} {last t : Int} {Lv : List (Int × Value)} {vs : Int → List (Int × List UInt8)} (h : VerG w lo X rx last Lv vs) (ho : OldV Lv vs t) (hr : SpW w lo1 U1 m1 n1) (hw : SpW w lo2 U2 m2 n2) (hn1 : n1 ≤ 1000) (hn2 : n2 ≤ 1000) :
    Calls Tryz.prog 188 #[.pointer (some ⟨X, 0, none⟩), .slice pq 0 cq, .int .i64 t, .pointer (some ⟨U1, 0, none⟩), .pointer (some ⟨U2, 0, none⟩)] w fun e w' => e = .returned (.int .i64 0) ∧ Chg [] w w' := by
  have HC := Lib.hid (count_any w hw hn2)
  have HV := Lib.hid h
  have HOl := Lib.hid ho
  have HR := Lib.hid hr
  have HW := Lib.hid hw
  clear h ho hr hw
  go_enter Tryz.func188, Tryz.ntmps188
  go_wp2_with fail
  go_step3
  go_wp2_with fail
  refine HC.out.mono ?_
  rintro e w1 ⟨⟨r, rfl⟩, k1⟩
  by_cases hr0 : r = 0
  · subst hr0
    go_wp2_with fail
    simp only [Exit.noGoto]
    go_ret
    exact ⟨rfl, k1⟩
  · go_wp2_with fail
    go_step3
    go_wp2_with fail
    have hrb : (r == 0) = false := by simpa using hr0
    rw [hrb]
    have hi0 : ∀ w, (Instr.index 307 (.agg #[.pointer (some ⟨U1, 0, none⟩), .pointer (some ⟨U2, 0, none⟩)]) (.int .i64 ((0 : Nat) : Int))).run Tryz.prog w = .ok (.pointer (some ⟨U1, 0, none⟩)) w := fun w => by kernel_rfl
    have hi1 : ∀ w, (Instr.index 307 (.agg #[.pointer (some ⟨U1, 0, none⟩), .pointer (some ⟨U2, 0, none⟩)]) (.int .i64 ((1 : Nat) : Int))).run Tryz.prog w = .ok (.pointer (some ⟨U2, 0, none⟩)) w := fun w => by kernel_rfl
    go_loopw [11, 13, 15, 17, 24] (fun e _ _ _ i wr => ∃ j : Nat, j ≤ 2 ∧ i = .int .i64 j ∧ e = .int .i64 0 ∧ Chg [] w1 wr) (fun _ _ _ _ i _ => 2 - (intOf i).toNat)
    case atStart => exact ⟨0, by omega, rfl, rfl, Chg.refl _ _⟩
    case round =>
      obtain ⟨j, hj, rfl, rfl, kr⟩ := hrel
      by_cases hj2 : j < 2
      · obtain ⟨U, lo3, m3, n3, hi, hS, hn3⟩ : ∃ U lo3 m3 n3, (∀ w, (Instr.index 307 (.agg #[.pointer (some ⟨U1, 0, none⟩), .pointer (some ⟨U2, 0, none⟩)]) (.int .i64 (j : Int))).run Tryz.prog w = .ok (.pointer (some ⟨U, 0, none⟩)) w) ∧ SpW wr lo3 U m3 n3 ∧ n3 ≤ 1000 := by
          have kk := k1.then kr
          rcases (show j = 0 ∨ j = 1 by omega) with rfl | rfl
          · exact ⟨U1, _, _, _, hi0, HR.out.keep0 kk, hn1⟩
          · exact ⟨U2, _, _, _, hi1, HW.out.keep0 kk, hn2⟩
        have HE := Lib.hid (extents_any wr hS hn3)
        clear hi0 hi1 hS
        go_wp2_with fail
        refine HE.out.mono ?_
        rintro e w2 ⟨pb, m, cb, l, rfl, k2, hq, hl, hm⟩
        have HQ := Lib.hid hq
        clear hq
        go_wp2_with fail
        go_loopw [11, 15, 30] (fun e _ i wz => ∃ q : Nat, q ≤ m ∧ i = .int .i64 q ∧ e = .int .i64 0 ∧ Chg [] w2 wz) (fun _ _ i _ => m - (intOf i).toNat)
        case atStart => exact ⟨0, by omega, rfl, rfl, Chg.refl _ _⟩
        case round =>
          obtain ⟨q, hq, rfl, rfl, kz⟩ := hrel
          rename World => wz
          have kk : Chg [] w1 wz := (kr.then k2).then kz
          by_cases hqm : q < m
          · obtain ⟨b, o, rfl, c0, c1⟩ := (HQ.out.keep kz).get q (by omega)
            generalize (l[q]'(by omega)).1 = x at *
            generalize (l[q]'(by omega)).2 = y at *
            have ka : Chg [] wz (wz.alloc (.cells #[.int .i64 x, .int .i64 y] 79)) := Chg.alloc wz _
            have HWr := Lib.hid (written_old (wz.alloc (.cells #[.int .i64 x, .int .i64 y] 79)) (HV.out.keep ((k1.then kk).then ka)) x y t HOl.out)
            go_wp2_with fail
            refine HWr.out.mono ?_
            rintro e w5 ⟨rfl, k5⟩
            go_wp2_with fail
            go_roundw
            case rel => exact ⟨q + 1, by omega, by simp, rfl, (kz.then ka).then k5⟩
            case measure => simp [intOf]; omega
          · obtain rfl : q = m := by omega
            go_wp2_with fail
            go_loopw [11, 17, 41] (fun e _ i wy => i = .int .i64 0 ∧ e = .int .i64 0 ∧ wy = wz) (fun _ _ _ _ => 0)
            case atStart => exact ⟨rfl, rfl, rfl⟩
            case round =>
              obtain ⟨rfl, rfl, rfl⟩ := hrel
              go_wp2_with fail
              go_roundw
              case rel => exact ⟨j + 1, by omega, by simp, rfl, kk⟩
              case measure => simp [intOf]; omega
      · obtain rfl : j = 2 := by omega
        go_wp2_with fail
        simp only [Exit.noGoto]
        go_ret
        exact ⟨rfl, k1.then kr⟩
set_option maxRecDepth 100000 in
set_option maxHeartbeats 4000000 in
theorem may_old (w : World) {M X B r cq lo rx T W rw Q V n base : Nat} {pq : Option Addr} {out num bas last given lastv t : Int} {Lv : List (Int × Value)} {vs : Int → List (Int × List UInt8)} {L : List (Int × Value)} {D : Int → List UInt8}
    (h : MgrG w M X B r (.slice pq 0 cq) out num bas last given false) (hg : given < 1099511627776) (hv : VerG w lo X rx lastv Lv vs) (ho : OldV Lv vs t) (hT : TxT w T W Q t) (hb : BufAt w W rw L) (hD : BufD w L D) (hk : ∀ x ∈ L, 0 ≤ x.1 ∧ x.1 < 258) (hl : L.length ≤ 16)
    (hV : VwT w base Q X W V t n) (hS : SpV w base V n) (hn : n ≤ 16) : Calls Tryz.prog 122 #[.pointer (some ⟨M, 0, none⟩), .pointer (some ⟨T, 0, none⟩)] w fun e w' => e = .returned (.int .i64 0) ∧ Chg [] w w' := by
  have m9 : w.cell? ⟨M, 9, none⟩ = some (.bool false) := cell_is h 9 rfl
  have m0 : w.cell? ⟨M, 0, none⟩ = some (.pointer (some ⟨X, 0, none⟩)) := cell_is h 0 rfl
  have m8 : w.cell? ⟨M, 8, none⟩ = some (.int .i64 given) := cell_is h 8 rfl
  have t3 : w.cell? ⟨T, 3, none⟩ = some (.int .i64 t) := cell_is hT 3 rfl
  have t4 : w.cell? ⟨T, 4, none⟩ = some (.pointer (some ⟨W, 0, none⟩)) := cell_is hT 4 rfl
  have t5 : w.cell? ⟨T, 5, none⟩ = some (.pointer (some ⟨Q, 0, none⟩)) := cell_is hT 5 rfl
  have kd : Chg [] w w.drew := (Chg.refl [] w).drew
  have HW := Lib.hid (waiting_none w.drew (kd.heap h (by simp)))
  have HV := Lib.hid (vset_any w.drew (hV.keep kd (Av.nil _ _)) (hS.keep0 kd) hn)
  have hS2 : ∀ wx, Chg [] w wx → wx.cell? ⟨M, 0, none⟩ = some (.pointer (some ⟨X, 0, none⟩)) ∧ wx.cell? ⟨T, 3, none⟩ = some (.int .i64 t) ∧ wx.cell? ⟨T, 4, none⟩ = some (.pointer (some ⟨W, 0, none⟩)) ∧ wx.cell? ⟨T, 5, none⟩ = some (.pointer (some ⟨Q, 0, none⟩)) :=
    fun wx k => ⟨k.cell m0 (by simp), k.cell t3 (by simp), k.cell t4 (by simp), k.cell t5 (by simp)⟩
  have HS2 := Lib.hid hS2
  have HBf := Lib.hid hb
  have HD := Lib.hid hD
  have HK := Lib.hid hk
  have HVr := Lib.hid hv
  have HOl := Lib.hid ho
  clear h hT hb hD hk hV hS hv ho hS2
  go_enter Tryz.func122, Tryz.ntmps122
  go_upto_region 3 with fail
  go_region_held3 (fun wx => wx.cell? ⟨M, 0, none⟩ = some (.pointer (some ⟨X, 0, none⟩)) ∧ wx.cell? ⟨T, 3, none⟩ = some (.int .i64 t) ∧ wx.cell? ⟨T, 4, none⟩ = some (.pointer (some ⟨W, 0, none⟩)) ∧ wx.cell? ⟨T, 5, none⟩ = some (.pointer (some ⟨Q, 0, none⟩)))
    (first
      | (with_reducible exact HS2.out _ kF) | (with_reducible exact HS2.out _ k3) | (with_reducible exact HS2.out _ k2) | (exact HS2.out _ kd))
    (first
      | (go_at_call 133; refine HW.out.mono ?_; rintro e w1 ⟨rfl, rfl⟩)
      | (go_at_call 189; refine HV.out.mono ?_; rintro e w2 ⟨U, loU, rfl, k2', hU, lU⟩; have k2 := kd.then k2')
      | (go_at_call 190; refine (bset_any w2 (HBf.out.keep k2 (by simp) (by simp)) (HD.out.keep k2) HK.out hl).mono ?_; rintro e w3 ⟨U2, loU2, most, rfl, k3', hU2, lU2⟩; have k3 := k2.then k3'; have hU3 := hU.keep0 k3')
      | (go_at_call 188; refine (check_old w3 (HVr.out.keep k3) HOl.out hU3 hU2 (by omega) (by omega)).mono ?_; rintro e w4 ⟨rfl, k4⟩; have kF := k3.then k4))
  all_goals
    have m84 := kF.cell m8 (by simp)
    have hng : ¬ (given ≥ 1099511627776) := by omega
    clear HW HV HS2 HBf HD HK HVr HOl hU hU2 hU3
    go_wp2_with fail
    go_ret
    exact ⟨rfl, kF⟩
set_option maxRecDepth 100000 in
set_option maxHeartbeats 4000000 in
theorem tcommit_old (w : World) {d : Ids} {p : Par} {cq n base loq : Nat} {pq : Option Addr} {out num bas last given : Int} {L : List (Int × Value)} {D : Int → List UInt8}
    (hN : Need w d p) (hv0 : OldV p.Lv p.vs p.t) (h : MgrG w d.M d.X d.B d.r (.slice pq 0 cq) out num bas last given false) (hg0 : 0 ≤ given) (hg : given < 1099511627776) (hq : w.ownsRow loq 3 1 (.slice pq 0 cq) 0 []) (hlq : loq ≤ w.heap.size) (hT : TxT w d.T d.W d.Q p.t) (hb : BufAt w d.W d.rw L) (hD : BufD w L D) (hk : ∀ x ∈ L, 0 ≤ x.1 ∧ x.1 < 258) (hl : L.length ≤ 16) (hl0 : 0 < L.length)
    (hV : VwT w base d.Q d.X d.W d.V p.t n) (hS : SpV w base d.V n) (hn : n ≤ 16) : Calls Tryz.prog 56 #[.pointer (some ⟨d.M, 0, none⟩), .int .i64 p.h] w fun e w' =>
    ∃ g c, e = .returned (.int .i64 0) ∧ Chg (d.M :: d.T :: (Value.slice pq 0 cq).ownBlock.toList) w w' ∧ MgrG w' d.M d.X d.B d.r (.slice (some ⟨g, 0, none⟩) 1 c) out num bas last (given + 1) false ∧ w'.ownsRow loq 3 1 (.slice (some ⟨g, 0, none⟩) 1 c) 1 [.int .i64 p.h] ∧ TxW w' d.T d.W d.Q (given + 1) p.t := by
  have HO := Lib.hid (topen_gen w hN hT)
  have t4 : w.cell? ⟨d.T, 4, none⟩ = some (.pointer (some ⟨d.W, 0, none⟩)) := cell_is hT 4 rfl
  have HLn := Lib.hid (blen_any w hb hD hk (by omega))
  have hver := hN.ver
  have HMy := Lib.hid (fun w1 (k : Chg [] w w1) => may_old w1 (k.heap h (by simp)) hg (hver.keep k) hv0 (k.heap hT (by simp)) (hb.keep k (by simp) (by simp)) (hD.keep k) hk hl (hV.keep k (Av.nil _ _)) (hS.keep0 k) hn)
  have hMT : d.M ≠ d.T := heap_ne h hT (by simp)
  have HM := Lib.hid h
  have HT := Lib.hid hT
  have HQ := Lib.hid hq
  have hl0i : ¬ (L.length : Int) = 0 := by omega
  have HL0 := Lib.hid hl0i
  clear hN hb hD hV hS hver h hT hq
  go_enter Tryz.func56, Tryz.ntmps56
  go_wp2_with fail
  refine HO.out.mono ?_
  rintro e w1 ⟨rfl, rfl⟩
  go_wp2_with fail
  refine HLn.out.mono ?_
  rintro e w1 ⟨rfl, k1⟩
  go_wp2_with fail
  refine (HMy.out w1 k1).mono ?_
  rintro e w2 ⟨rfl, k2'⟩
  have k2 := k1.then k2'
  have hM2 := k2.heap HM.out (by simp)
  have hT2 := k2.heap HT.out (by simp)
  have hq2 := ownsRow_av HQ.out k2 (Av.nil _ _)
  have hs2 := k2.size
  have m8 : w2.cell? ⟨d.M, 8, none⟩ = some (.int .i64 given) := cell_is hM2 8 rfl
  have f8 := unfrozen hM2 8
  have m3 : w2.cell? ⟨d.M, 3, none⟩ = some (.slice pq 0 cq) := cell_is hM2 3 rfl
  have f3 := unfrozen hM2 3
  have t0 : w2.cell? ⟨d.T, 0, none⟩ = some (.int .i64 1) := cell_is hT2 0 rfl
  have t1 : w2.cell? ⟨d.T, 1, none⟩ = some (.int .i64 0) := cell_is hT2 1 rfl
  have ft0 := unfrozen hT2 0
  have ft1 := unfrozen hT2 1
  have hgw : wrap64 (given + 1) = given + 1 := by unfold wrap64; omega
  have kS := ((((Chg.refl [] w2).mono (T := [d.M, d.T]) (fun x hx _ => by cases hx)).then_set (g := d.M) (fun _ => by simp) 8 (.int .i64 (given + 1))).then_set (g := d.T) (fun _ => by simp) 0 (.int .i64 2)).then_set (g := d.T) (fun _ => by simp) 1 (.int .i64 (given + 1))
  have hMS : MgrG (((w2.setCell ⟨d.M, 8, none⟩ (.int .i64 (given + 1))).setCell ⟨d.T, 0, none⟩ (.int .i64 2)).setCell ⟨d.T, 1, none⟩ (.int .i64 (given + 1))) d.M d.X d.B d.r (.slice pq 0 cq) out num bas last (given + 1) false :=
    heap_set_ne (heap_set_ne (heap_set hM2 8 _ rfl) hMT _ _) hMT _ _
  have hTS : TxW (((w2.setCell ⟨d.M, 8, none⟩ (.int .i64 (given + 1))).setCell ⟨d.T, 0, none⟩ (.int .i64 2)).setCell ⟨d.T, 1, none⟩ (.int .i64 (given + 1))) d.T d.W d.Q (given + 1) p.t :=
    heap_set (heap_set (heap_set_ne hT2 hMT.symm _ _) 0 _ rfl) 1 _ rfl
  have avS : Av w2 [d.M, d.T] [3] := fun x hx cs t fr hh => by
    simp at hx
    rcases hx with rfl | rfl
    · rw [show w2.heap[d.M]? = _ from hM2] at hh; cases hh; simp
    · rw [show w2.heap[d.T]? = _ from hT2] at hh; cases hh; simp
  have hqS := ownsRow_av hq2 kS avS
  clear HMy HLn HO k1 k2' t4
  go_upto_region 14 with fail
  have hsS : loq ≤ (((w2.setCell ⟨d.M, 8, none⟩ (.int .i64 (given + 1))).setCell ⟨d.T, 0, none⟩ (.int .i64 2)).setCell ⟨d.T, 1, none⟩ (.int .i64 (given + 1))).heap.size := by have := kS.size; omega
  clear m8 f8 m3 f3 t0 t1 ft0 ft1 avS hq2
  generalize ((w2.setCell ⟨d.M, 8, none⟩ (.int .i64 (given + 1))).setCell ⟨d.T, 0, none⟩ (.int .i64 2)).setCell ⟨d.T, 1, none⟩ (.int .i64 (given + 1)) = wS at *
  have m3 : wS.cell? ⟨d.M, 3, none⟩ = some (.slice pq 0 cq) := cell_is hMS 3 rfl
  go_wp2_with (at_builtin; refine wpList_append_lit rfl (.tmp 59) (.tmp 61) 115 3 rfl ty62 inf3 rfl (by decide) loq wS [.int .i64 p.h] 1 rfl (.slice pq 0 cq) 0 [] rfl hqS (by omega) (by decide) hsS (k := 0) rfl (by simp [Value.oneCell']) rfl 1 rfl ?_; intro v' w4 hap; obtain ⟨g4, c4, rfl⟩ := own_some hap.1 (by decide); have k4 : Chg (Value.slice pq 0 cq).ownBlock.toList wS w4 := Chg.own hap.2.2 (fun g hg _ => by have hg2 : (Value.slice pq 0 cq).ownBlock = some g := hg; simp [hg2]); have hM4 := k4.heap hMS (own_block_ne hqS hMS (by decide)); have m34 := cell_is hM4 3 rfl; have f34 := unfrozen hM4 3)
  have hT4 := k4.heap hTS (own_block_ne hqS hTS (by decide))
  have hset := Chg.set w4 d.M 3 (.slice (some ⟨g4, 0, none⟩) (0 + 1) c4)
  have hq4 := ownsRow_av hap.1 hset (Av.row hM4 (by decide))
  go_ret
  refine ⟨g4, c4, rfl, ?_, heap_set hM4 3 _ rfl, hq4, heap_set_ne hT4 hMT.symm _ _⟩
  refine (((k2.mono (fun x hx _ => by cases hx)).then (kS.mono ?_)).then (k4.mono ?_)).then (hset.mono ?_)
  · intro x hx _; simp only [List.mem_cons, List.not_mem_nil, or_false] at hx; rcases hx with rfl | rfl <;> simp
  · intro x hx _; exact List.mem_cons_of_mem _ (List.mem_cons_of_mem _ hx)
  · intro x hx _; rw [List.mem_singleton] at hx; subst hx; exact List.mem_cons_self
end Go.Proofs.YtelakcjbknbehaaGreat
namespace Go.Proofs.YtelakcjbknbehaaGreat
open Go.RowKit Go.Lib

/-- the manager behind a Begin. -/
def begS (s : Gs) (T : Nat) : Gs := { s with bl := s.bl + 1, Lb := [(s.bl + 1, .int .i64 s.last)], Lr := putL s.Lr (s.bl + 1) (.pointer (some ⟨T, 0, none⟩)) }
/-- a transaction that has begun. -/
def begP (s : Gs) : Par := ⟨s.bl + 1, s.last, s.lo, s.lastv, s.Lv, s.vs⟩
/-- a store about its transaction. -/
def StoF (lw : Nat) (d : Ids) (s : Gs) (g : Gd) (w : World) : Prop := Sto w lw d s g
theorem fr_sto {lw base : Nat} {d : Ids} {s : Gs} {g : Gd} {p : Par} (hl : d.rx < base ∧ d.rb < base ∧ d.r < base) (hg : getL s.Lr p.h = some (.pointer (some ⟨d.T, 0, none⟩))) (e1 : p.lo = s.lo) (e2 : p.last = s.lastv) (e3 : p.Lv = s.Lv) (e4 : p.vs = s.vs) : Fr base d p (StoF lw d s g) := by
  refine ⟨fun w h => ?_, fun a b ho h => ?_⟩
  · have h' : Sto w lw d s g := h
    exact ⟨cell_is h'.store 0 rfl, cell_is h'.store 5 rfl, cell_is h'.store 9 rfl, ⟨_, _, h'.dev.hdr⟩, h'.mx.cells.1, h'.mx.cells.2.2.1, ⟨_, h'.mx.map, hg⟩, by rw [e1, e2, e3, e4]; exact h'.mx.ver⟩
  · have h' : Sto a lw d s g := h
    obtain ⟨T, h1, h2⟩ := ho
    refine h'.keepA h1 (fun x hx cs t fr hh ht => ?_) (fun hm => ?_) (fun hm => ?_) (fun hm => ?_)
    · rcases (h2 x hx).2 cs t fr hh with rfl | rfl | rfl <;> simp at ht
    · have := (h2 _ hm).1; omega
    · have := (h2 _ hm).1; omega
    · have := (h2 _ hm).1; omega
/-- what a store's Begin leaves. -/
def BegT (w w' : World) (lw : Nat) (d : Ids) (s : Gs) (g : Gd) : Prop := ∃ T W rw Q V, Cs lw w w' ∧ w.heap.size ≤ T ∧
  Su w' w.heap.size { d with T := T, W := W, rw := rw, Q := Q, V := V } (begP s) (StoF lw { d with T := T, W := W, rw := rw, Q := Q, V := V } (begS s T) g) (fun b => bytT (s.vs b) s.last) [] 0
/-- a buffer's entries are what its transaction sees. -/
theorem Su.bufD {w : World} {base : Nat} {d : Ids} {p : Par} {F : World → Prop} {q : Int → List UInt8} {L : List (Int × Value)} {n : Nat} (h : Su w base d p F q L n) : BufD w L q := by
  intro k v hv
  have hk := h.keys (k, v) (getL_memk hv)
  rcases h.blk k hk.1 hk.2 with ⟨e, -⟩ | ⟨g, c, e, h1, h2, h3⟩
  · rw [e] at hv; cases hv
  · rw [e] at hv
    cases hv
    exact ⟨g, c, rfl, h1, h2, h3⟩
/-- the manager behind a Commit. -/
def comS (s : Gs) (g c : Nat) : Gs := { s with qv := .slice (some ⟨g, 0, none⟩) 1 c, given := s.given + 1 }
/-- what of memory a Commit changes; the queue was a row of room c. -/
def Cq (lw c : Nat) (w w' : World) : Prop := ∃ U, Chg U w w' ∧ ∀ x ∈ U, x < w.heap.size → lw ≤ x ∧ ∀ cs t fr, w.heap[x]? = some (.cells cs t fr) → t = 195 ∨ t = 203 ∨ (t = 3 ∧ cs.size = c)
/-- what a Commit leaves. -/
def ComR (w w' : World) (lw cq0 : Nat) (d : Ids) (s : Gs) (g : Gd) (p : Par) (L : List (Int × Value)) (q : Int → List UInt8) (k : Nat) : Prop :=
  ∃ gq cq, Sto w' lw d (comS s gq cq) g ∧ Wtx w' d (comS s gq cq) gq cq p.h k p.t p.t L q ∧ Cq lw cq0 w w'
set_option maxRecDepth 100000 in
theorem scommit_sto (w : World) {lw base loq n k : Nat} {d : Ids} {s : Gs} {g : Gd} {p : Par} {q : Int → List UInt8} {L : List (Int × Value)} {pq : Option Addr} {cq : Nat} (hf : Fr base d p (StoF lw d s g)) (h : Su w base d p (StoF lw d s g) q L n) (hqv : s.qv = .slice pq 0 cq) (hq : w.ownsRow loq 3 1 (.slice pq 0 cq) 0 []) (hlq : loq ≤ w.heap.size) (hlw : lw ≤ loq)
    (hrd : s.rd = false) (ho : OldV p.Lv p.vs p.t) (hg : s.given + 1 = (k : Nat)) (hg1 : s.given < 1099511627776) (hg0 : 0 ≤ s.given) (hl : L.length ≤ 16) (hl0 : 0 < L.length) (hn : n ≤ 16) (htab : getL s.Lr p.h = some (.pointer (some ⟨d.T, 0, none⟩))) (hbook : getL s.Lb p.h = some (.int .i64 p.t)) (hT : lw ≤ d.T) :
    Calls Tryz.prog 19 #[.pointer (some ⟨d.P, 0, none⟩), .int .i64 p.h] w fun e w' => e = .returned (.int .i64 0) ∧ ComR w w' lw cq d s g p L q k := by
  have hS : Sto w lw d s g := h.env
  have hN := hf.need w h.env
  have hm := hS.mx.mgr
  rw [hqv, hrd] at hm
  refine scommit_one w hN ((tcommit_old w hN ho hm hg0 hg1 hq hlq h.tx h.buf h.bufD h.keys hl hl0 h.vw h.sp hn).mono ?_)
  rintro e w' ⟨gq, c, rfl, k1, hm', ho', hT'⟩
  refine ⟨rfl, gq, c, ?_⟩
  have tp : Tp w (d.M :: d.T :: (Value.slice pq 0 cq).ownBlock.toList) [195, 203, 3] := fun x hx => by
    simp only [List.mem_cons] at hx
    rcases hx with rfl | rfl | hx
    · exact ⟨_, _, hm, by simp⟩
    · exact ⟨_, _, h.tx, by simp⟩
    · obtain ⟨-, cs, hh⟩ := own_elem hq (show (Value.slice pq 0 cq).ownBlock = some x by simpa using hx)
      exact ⟨_, _, hh, by simp⟩
  have hbn := hS.bnd
  refine ⟨⟨k1.heap hS.store ((tp.av (ts' := [102]) (by decide)).ne hS.store (by simp)), k1.heap hS.slot ((tp.av (ts' := [210]) (by decide)).ne hS.slot (by simp)), hS.text.keep k1 (tp.av (by decide)), hS.dev.keep k1 (tp.av (by decide)),
    ⟨by show MgrG w' d.M d.X d.B d.r (.slice (some ⟨gq, 0, none⟩) 1 c) s.out s.num s.bas s.last (s.given + 1) s.rd; rw [hrd]; exact hm', hS.mx.ver.keepA k1 (tp.av (by decide)) (tp.map hS.mx.ver.m), ⟨k1.heap hS.mx.book.1 ((tp.av (ts' := [265]) (by decide)).ne hS.mx.book.1 (by simp)), hS.mx.book.2.keep k1 (tp.map hS.mx.book.2)⟩, hS.mx.map.keep k1 (tp.map hS.mx.map), hS.mx.n1, hS.mx.n2, hS.mx.n3⟩, hS.ap, hS.keys, hS.bnd, hS.bndZ, Nat.le_trans hS.slo k1.size, hS.dlo⟩, ?_, ⟨_, k1, fun x hx _ => ⟨?_, fun cs t fr hh => ?_⟩⟩⟩
  · refine ⟨rfl, ?_, ?_, htab, by rw [← hg]; exact hT', h.buf.keep k1 ((tp.av (ts' := [267]) (by decide)).ne h.buf.1 (by simp)) (tp.map h.buf.2), h.bufD.keepA k1 (tp.av (by decide)), h.keys, hl0, by omega, hbook⟩
    · obtain ⟨pz, cz', e, hle⟩ := own_form ho'
      cases e
      omega
    · rcases ho'.2 with ⟨e, h0⟩ | ⟨g', cap', cur', e, -, hh, -, -, -, ht⟩
      · omega
      · cases e
        refine ⟨_, hh, ?_⟩
        have := congrArg (fun l => l[0]?) ht
        simpa [List.getElem?_take] using this
  · simp only [List.mem_cons] at hx
    rcases hx with rfl | rfl | hx
    · omega
    · exact hT
    · have := (own_elem hq (show (Value.slice pq 0 cq).ownBlock = some x by simpa using hx)).1
      omega
  · simp only [List.mem_cons] at hx
    rcases hx with rfl | rfl | hx
    · rw [hm] at hh; cases hh; exact Or.inl rfl
    · rw [h.tx] at hh; cases hh; exact Or.inr (Or.inl rfl)
    · rcases hq.2 with ⟨e, h0⟩ | ⟨g', cap', cur', e, -, hh', -, -, hz, -⟩
      · cases e; cases hx
      · cases e
        obtain rfl : x = g' := by simpa [Value.ownBlock] using hx
        rw [hh'] at hh
        cases hh
        exact Or.inr (Or.inr ⟨rfl, by omega⟩)
end Go.Proofs.YtelakcjbknbehaaGreat
namespace Go.Proofs.YtelakcjbknbehaaGreat
open Go.RowKit Go.Lib

set_option maxRecDepth 100000 in
theorem sbegin_q (w : World) {lw : Nat} {d : Ids} {s : Gs} {g : Gd} (h : Sto w lw d s g) (hLb : s.Lb = []) (h0 : 0 ≤ s.last) (h1 : s.last ≤ 1099511627776) (hb0 : 0 ≤ s.bl) (hb1 : s.bl ≤ 1000000) :
    Calls Tryz.prog 16 #[.pointer (some ⟨d.P, 0, none⟩)] w fun e w' => e = .returned (.tuple #[.int .i64 (s.bl + 1), .int .i64 0]) ∧ BegT w w' lw d s g ∧ Chg [d.B, d.rb, d.r] w w' := by
  have HD := Lib.hid (dead_g w h.store)
  have p5 : w.cell? ⟨d.P, 5, none⟩ = some (.pointer (some ⟨d.M, 0, none⟩)) := cell_is h.store 5 rfl
  have HB := Lib.hid (tbegin_gen w h.mx hLb h0 h1 hb0 hb1)
  have HS := Lib.hid h
  clear h hLb h0 h1 hb0 hb1
  go_enter Tryz.func16, Tryz.ntmps16
  go_wp2_with fail
  refine HD.out.mono ?_
  rintro e w1 ⟨rfl, rfl⟩
  go_wp2_with fail
  refine HB.out.mono ?_
  rintro e w1 ⟨rfl, T, W, rw, Q, V, k1, hx, hT, hb, hv, hs, n1, n2, n3, b1, b2, b3, b4, b5⟩
  have hF : BegT w w1 lw d s g := by
    have hS := HS.out
    have avB : Av w [d.B, d.rb, d.r] [102, 210, 5, 128, 129, 132, 47] := fun x hx cs t fr hh => by
      simp at hx
      rcases hx with rfl | rfl | rfl
      · rw [hS.mx.book.1] at hh; cases hh; simp
      · exact absurd rfl (map_cells hS.mx.book.2 hh)
      · exact absurd rfl (map_cells hS.mx.map hh)
    have sub : ∀ ts : List Nat, (∀ t ∈ ts, t ∈ [102, 210, 5, 128, 129, 132, 47]) → Av w [d.B, d.rb, d.r] ts := fun ts hts x hx cs t fr hh ht => avB x hx cs t fr hh (hts t ht)
    have hSto : Sto w1 lw { d with T := T, W := W, rw := rw, Q := Q, V := V } (begS s T) g :=
      ⟨k1.heap hS.store (avB.ne hS.store (by simp)), k1.heap hS.slot (avB.ne hS.slot (by simp)), hS.text.keep k1 (sub _ (by decide)), hS.dev.keep k1 (sub _ (by decide)), hx, hS.ap, hS.keys, hS.bnd, hS.bndZ, Nat.le_trans hS.slo k1.size, hS.dlo⟩
    refine ⟨T, W, rw, Q, V, ⟨[d.B, d.rb, d.r], k1, fun x hx _ => ?_⟩, b1, hSto, hT, hb, (fun x hx => by cases hx), fun b _ _ => Or.inl ⟨rfl, rfl⟩, ⟨_, 0, [], hv, Nat.zero_le _, World.ownsRow_nil _ _ _ _⟩, ⟨_, [], hs, Nat.le_refl _, World.ownsRow_nil _ _ _ _⟩, b4, b5, b3⟩
    have hbn := hS.bnd
    simp at hx
    rcases hx with rfl | rfl | rfl
    · exact ⟨by omega, fun cs t fr hh => by rw [hS.mx.book.1] at hh; cases hh; simp⟩
    · exact ⟨by omega, fun cs t fr hh => absurd rfl (map_cells hS.mx.book.2 hh)⟩
    · exact ⟨by omega, fun cs t fr hh => absurd rfl (map_cells hS.mx.map hh)⟩
  have HF := Lib.hid (And.intro hF k1)
  clear hF hx hT hb hv hs k1 b1 b2 b3 b4 b5 n1 n2 n3
  go_wp2_with fail
  go_ret2
  exact ⟨rfl, HF.out⟩
end Go.Proofs.YtelakcjbknbehaaGreat
namespace Go.Proofs.YtelakcjbknbehaaGreat
open Go.RowKit Go.Lib

def Nl0 (v : Value) : Prop := ∃ p c, v = .slice p 0 c
/-- a change of memory that touches none of the reference's blocks, but for the row of reads so. -/
def FsR (so : Option Nat) (w w' : World) : Prop := ∃ U, Chg U w w' ∧ ∀ x ∈ U, ∀ cs t fr, w.heap[x]? = some (.cells cs t fr) → t ∉ [120, 167, 180, 173, 247, 163, 259, 185, 50, 79, 5] ∧ (t = 3 → cs.size = 0) ∧ (t = 255 → so = some x)
theorem FsR.of_chg {so : Option Nat} {w w' : World} (h : Chg [] w w') : FsR so w w' := ⟨[], h, fun x hx => by cases hx⟩
theorem FsR.size {so : Option Nat} {w w' : World} (h : FsR so w w') : w.heap.size ≤ w'.heap.size := by obtain ⟨U, h1, -⟩ := h; exact h1.size
/-- the reference's manager with one open transaction D: its view V, its buffer U. -/
structure RfO (w : World) (lo G Y D V U n k : Nat) (Tv : Value) (xs : List Value) (num giv dn : Int) (L : List (Int × Int × List UInt8)) (S : List (Int × Int)) (P : List (Int × List UInt8)) : Prop where
  m : ∃ a b qv qhv, RmS w G Y a b Tv qv qhv (n + 1 : Nat) num giv dn 0 ∧ Int1 w a (n + 1 : Nat) ∧ Int1 w b dn ∧ Nl0 qv ∧ Nl0 qhv
  T : w.ownsRow lo 163 1 Tv (n + 1) (xs ++ [.pointer (some ⟨D, 0, none⟩)])
  d : RtAt w D V U 1 0 0
  v : RvAt w lo V Y U dn S k
  u : RbAt w U P
  y : RyAt w Y L dn
  low : lo ≤ G ∧ lo ≤ Y ∧ lo ≤ D ∧ lo ≤ V ∧ lo ≤ U ∧ lo ≤ w.heap.size
theorem RfO.keepS {w w' : World} {so : Option Nat} {lo G Y D V U n k : Nat} {Tv : Value} {xs : List Value} {num giv dn : Int} {L : List (Int × Int × List UInt8)} {S : List (Int × Int)} {P : List (Int × List UInt8)} (h : RfO w lo G Y D V U n k Tv xs num giv dn L S P) (hk : FsR so w w') (hne : ∀ rv, w.cell? ⟨V, 5, none⟩ = some rv → ∀ g, rv.ownBlock = some g → so ≠ some g) : RfO w' lo G Y D V U n k Tv xs num giv dn L S P ∧ w'.cell? ⟨V, 5, none⟩ = w.cell? ⟨V, 5, none⟩ := by
  obtain ⟨X, h1, h2⟩ := hk
  have av : Av w X [120, 167, 180, 173, 247, 163, 259, 185, 50, 79, 5] := fun x hx cs t fr hh ht => (h2 x hx cs t fr hh).1 ht
  have sub : ∀ ts : List Nat, (∀ t ∈ ts, t ∈ [120, 167, 180, 173, 247, 163, 259, 185, 50, 79, 5]) → Av w X ts := fun ts hts x hx cs t fr hh ht => av x hx cs t fr hh (hts t ht)
  have i3 : ∀ g ∈ X, ∀ cs fr, w.heap[g]? = some (.cells cs 3 fr) → cs.size = 0 := fun g hg cs fr hh => (h2 g hg cs 3 fr hh).2.1 rfl
  have own : ∀ {base e size n : Nat} {v : Value} {xs : List Value}, w.ownsRow base e size v n xs → e ∈ [120, 167, 180, 173, 247, 163, 259, 185, 50, 79, 5] → w'.ownsRow base e size v n xs := fun ho he => own_kp ho h1 (fun g hg hm => by
    obtain ⟨-, cs, hh⟩ := own_elem ho hg
    exact (h2 g hm cs _ _ hh).1 he)
  obtain ⟨a, b, qv, qhv, m1, m2, m3, m4, m5⟩ := h.m
  obtain ⟨sv, rv, xr, v1, v2, v3⟩ := h.v
  have hv' := h1.heap v1 (av.ne v1 (by simp))
  refine ⟨⟨⟨a, b, qv, qhv, h1.heap m1 (av.ne m1 (by simp)), m2.keepT h1 i3, m3.keepT h1 i3, m4, m5⟩, own h.T (by simp), h1.heap h.d (av.ne h.d (by simp)), ⟨sv, rv, xr, hv', own v2 (by simp), own_kp v3 h1 (fun g hg hm => ?_)⟩, h.u.keepA h1 (sub _ (by decide)), h.y.keepA h1 (sub _ (by decide)), ⟨h.low.1, h.low.2.1, h.low.2.2.1, h.low.2.2.2.1, h.low.2.2.2.2.1, Nat.le_trans h.low.2.2.2.2.2 h1.size⟩⟩, ?_⟩
  · obtain ⟨-, cs, hh⟩ := own_elem v3 hg
    exact hne rv (cell_is v1 5 rfl) g hg ((h2 g hm cs _ _ hh).2.2 rfl)
  · rw [cell_is hv' 5 rfl, cell_is v1 5 rfl]
end Go.Proofs.YtelakcjbknbehaaGreat
namespace Go.Proofs.YtelakcjbknbehaaGreat
open Go.RowKit Go.Lib

/-- a manager without transactions. -/
def s00 (lw : Nat) : Gs := ⟨.slice none 0 0, 0, 0, 0, 0, 0, false, lw, 0, [], fun _ => [], 0, [], []⟩
/-- an empty log on an empty device. -/
def g00 (lw : Nat) (ops : Int) : Gd := ⟨0, 0, 1, .slice none 0 0, 0, lw, ops, fun _ => .slice none 0 0, fun _ => 0, fun _ => []⟩
/-- the parts' places, without a transaction. -/
def d00 (N A c : Nat) (Z : List Nat) (P S M X rx B rb r : Nat) : Ids := ⟨P, N, S, M, X, rx, B, rb, r, A, c, Z, 0, 0, 0, 0, 0⟩
theorem Mk.sto {w wx : World} {lw N A c : Nat} {ops : Int} {Z : List Nat} {P S M X rx B rb r : Nat} (h : Mk w wx N A c ops Z P S M X rx B rb r) (hx : ExAt wx S N A Z) (n1 : rx ≠ rb) (n2 : r ≠ rb) (n3 : r ≠ rx) (hb : lw ≤ P ∧ lw ≤ N ∧ lw ≤ S ∧ lw ≤ M ∧ lw ≤ X ∧ lw ≤ rx ∧ lw ≤ B ∧ lw ≤ rb ∧ lw ≤ r) (hZ : ∀ z ∈ Z, lw ≤ z) (hl : lw ≤ wx.heap.size) :
    Sto wx lw (d00 N A c Z P S M X rx B rb r) (s00 lw) (g00 lw ops) := by
  obtain ⟨k2, hD2, hP2, hS2, hm2, hx2, hb2, hr2⟩ := h
  exact ⟨hP2, hS2, Or.inl rfl, hD2.full hx lw, ⟨hm2, hx2.full lw, hb2, hr2, n1, n2, n3⟩, fun b c v u g _ h => (by cases h), fun p hp => (by cases hp), ⟨hb.1, hb.2.1, hb.2.2.1, hb.2.2.2.1, hb.2.2.2.2.1, hb.2.2.2.2.2.1, hb.2.2.2.2.2.2.1, hb.2.2.2.2.2.2.2.1, hb.2.2.2.2.2.2.2.2, Nat.le_refl _, Nat.le_refl _⟩, hZ, hl, hb.2.1⟩
/-- a transaction's state is kept where other blocks change. -/
theorem Su.keepA {w w' : World} {U : List Nat} {base : Nat} {d : Ids} {p : Par} {F : World → Prop} {q : Int → List UInt8} {L : List (Int × Value)} {n : Nat} (h : Su w base d p F q L n) (hc : Chg U w w') (hU : Av w U [203, 267, 274, 255, 79, 305, 5]) (hr : d.rw ∉ U) (hF : F w') : Su w' base d p F q L n := by
  have sub : ∀ ts : List Nat, (∀ t ∈ ts, t ∈ [203, 267, 274, 255, 79, 305, 5]) → Av w U ts := fun ts hts x hx cs t fr hh ht => hU x hx cs t fr hh (hts t ht)
  refine ⟨hF, hc.heap h.tx (hU.ne h.tx (by simp)), h.buf.keep hc (hU.ne h.buf.1 (by simp)) hr, h.keys, fun b h0 h1 => ?_, h.vw.keep hc (sub _ (by decide)), h.sp.keep hc (sub _ (by decide)), h.high⟩
  rcases h.blk b h0 h1 with e | ⟨g, c, e1, e2, e3, e4⟩
  · exact Or.inl e
  · have hn : g ∉ U := Bt.av e4 hU (by simp)
    exact Or.inr ⟨g, c, e1, e2.chgT hc hn, e3, Bt.keep e4 hc hn⟩
end Go.Proofs.YtelakcjbknbehaaGreat
namespace Go.Proofs.YtelakcjbknbehaaGreat
open Go.RowKit Go.Lib

theorem fs_begin {w w' : World} {lw : Nat} {d : Ids} {s : Gs} {g : Gd} (h : Sto w lw d s g) (k : Chg [d.B, d.rb, d.r] w w') : FsR none w w' := by
  refine ⟨_, k, fun x hx cs t fr hh => ?_⟩
  simp only [List.mem_cons, List.not_mem_nil, or_false] at hx
  rcases hx with rfl | rfl | rfl
  · rw [h.mx.book.1] at hh; cases hh; exact ⟨by decide, fun e => absurd e (by decide), fun e => absurd e (by decide)⟩
  · exact absurd rfl (map_cells h.mx.book.2 hh)
  · exact absurd rfl (map_cells h.mx.map hh)
theorem fs_read {base n : Nat} {d : Ids} {w w' : World} {t : Int} (h : RdW base d w w') (hv : VwT w base d.Q d.X d.W d.V t n) (hs : SpV w base d.V n) : ∃ s, w.cell? ⟨d.Q, 4, none⟩ = some s ∧ FsR s.ownBlock w w' := by
  obtain ⟨T, h1, h2, s, s', e1, e2, e3, e4⟩ := h
  refine ⟨s, e1, T, h1, fun x hx cs t fr hh => ?_⟩
  obtain ⟨sv, m, xs, q1, q2, q3⟩ := hv
  obtain ⟨v, l, p1, -⟩ := hs
  rcases e3 x hx with rfl | rfl | hx'
  · rw [show w.heap[d.V]? = _ from p1] at hh; cases hh; exact ⟨by decide, fun e => absurd e (by decide), fun e => absurd e (by decide)⟩
  · rw [show w.heap[d.Q]? = _ from q1] at hh; cases hh; exact ⟨by decide, fun e => absurd e (by decide), fun e => absurd e (by decide)⟩
  · rcases (h2 x hx).2 cs t fr hh with rfl | rfl | rfl
    · exact ⟨by decide, fun e => absurd e (by decide), fun _ => hx'⟩
    · exact ⟨by decide, fun e => absurd e (by decide), fun _ => hx'⟩
    · exact ⟨by decide, fun e => absurd e (by decide), fun _ => hx'⟩
theorem fs_write {w w' : World} {W rw : Nat} {L : List (Int × Value)} (h : BufAt w W rw L) (k : Chg [rw] w w') : FsR none w w' := by
  refine ⟨_, k, fun x hx cs t fr hh => ?_⟩
  rw [List.mem_singleton] at hx
  subst hx
  exact absurd rfl (map_cells h.2 hh)
theorem fs_cs {lw : Nat} {w w' : World} (h : Cs lw w w') : FsR none w w' := by
  obtain ⟨U, h1, h2⟩ := h
  refine ⟨U, h1, fun x hx cs t fr hh => ?_⟩
  have ht := (h2 x hx (heap_lt hh)).2 cs t fr hh
  exact (show ∀ t ∈ [102, 195, 203, 270, 288, 128, 132, 47, 265, 210], t ∉ [120, 167, 180, 173, 247, 163, 259, 185, 50, 79, 5] ∧ (t = 3 → cs.size = 0) ∧ (t = 255 → none = some x) by
    intro t ht
    simp only [List.mem_cons, List.not_mem_nil, or_false] at ht
    rcases ht with rfl | rfl | rfl | rfl | rfl | rfl | rfl | rfl | rfl | rfl <;> exact ⟨by decide, fun e => absurd e (by decide), fun e => absurd e (by decide)⟩) t ht
theorem fs_cq {lw : Nat} {w w' : World} (h : Cq lw 0 w w') : FsR none w w' := by
  obtain ⟨U, h1, h2⟩ := h
  refine ⟨U, h1, fun x hx cs t fr hh => ?_⟩
  rcases (h2 x hx (heap_lt hh)).2 cs t fr hh with rfl | rfl | ⟨rfl, e⟩
  · exact ⟨by decide, fun e => absurd e (by decide), fun e => absurd e (by decide)⟩
  · exact ⟨by decide, fun e => absurd e (by decide), fun e => absurd e (by decide)⟩
  · exact ⟨by decide, fun _ => e, fun e => absurd e (by decide)⟩
/-- a change of memory that touches only blocks of the reference, of reads the row ro alone. -/
def FxR (lo : Nat) (ro : Option Nat) (w w' : World) : Prop := ∃ U, Chg U w w' ∧ ∀ x ∈ U, x < w.heap.size → lo ≤ x ∧ ∃ cs t, w.heap[x]? = some (.cells cs t (0, 0)) ∧ (t ∈ [120, 163, 167, 180, 173, 247] ∨ t = 255 ∧ ro = some x)
theorem FxR.size {lo : Nat} {ro : Option Nat} {w w' : World} (h : FxR lo ro w w') : w.heap.size ≤ w'.heap.size := by obtain ⟨U, h1, -⟩ := h; exact h1.size
theorem FxR.avx {lo : Nat} {ro : Option Nat} {w : World} {U : List Nat} (h : ∀ x ∈ U, x < w.heap.size → lo ≤ x ∧ ∃ cs t, w.heap[x]? = some (.cells cs t (0, 0)) ∧ (t ∈ [120, 163, 167, 180, 173, 247] ∨ t = 255 ∧ ro = some x)) (ts : List Nat) (hts : ∀ t ∈ ts, t ∉ [120, 163, 167, 180, 173, 247, 255]) : Av w U ts := fun x hx cs t fr hh ht => by
  obtain ⟨-, cs', t', e1, e2⟩ := h x hx (heap_lt hh)
  rw [hh] at e1
  cases e1
  have := hts _ ht
  rcases e2 with e2 | ⟨rfl, -⟩
  · exact this (List.mem_append_left [255] e2)
  · exact this (by simp)
theorem FxR.map {lo : Nat} {ro : Option Nat} {w : World} {U : List Nat} {r : Nat} {L : List (Int × Value)} (h : ∀ x ∈ U, x < w.heap.size → lo ≤ x ∧ ∃ cs t, w.heap[x]? = some (.cells cs t (0, 0)) ∧ (t ∈ [120, 163, 167, 180, 173, 247] ∨ t = 255 ∧ ro = some x)) (hm : MapAt w r L) : r ∉ U := fun hx => by
  obtain ⟨-, cs', t', e1, -⟩ := h r hx hm.lt
  exact absurd rfl (map_cells hm e1)
theorem Sto.keepX {lo : Nat} {ro : Option Nat} {w w' : World} {lw : Nat} {d : Ids} {s : Gs} {g : Gd} (h : Sto w lw d s g) (k : FxR lo ro w w') : Sto w' lw d s g := by
  obtain ⟨U, h1, h2⟩ := k
  exact h.keepA h1 (FxR.avx h2 _ (by decide)) (FxR.map h2 h.mx.ver.m) (FxR.map h2 h.mx.book.2) (FxR.map h2 h.mx.map)
theorem Wtx.keepX {lo : Nat} {ro : Option Nat} {w w' : World} {d : Ids} {s : Gs} {gq cq : Nat} {hdl : Int} {k : Nat} {t t0 : Int} {L : List (Int × Value)} {D : Int → List UInt8} (h : Wtx w d s gq cq hdl k t t0 L D) (kx : FxR lo ro w w') : Wtx w' d s gq cq hdl k t t0 L D := by
  obtain ⟨U, h1, h2⟩ := kx
  exact h.keepA h1 (FxR.avx h2 _ (by decide)) (FxR.map h2 h.buf.2)
theorem Su.keepX {lo : Nat} {ro : Option Nat} {w w' : World} {base lw : Nat} {d : Ids} {p : Par} {s : Gs} {g : Gd} {q : Int → List UInt8} {L : List (Int × Value)} {n : Nat} (h : Su w base d p (StoF lw d s g) q L n) (kx : FxR lo ro w w') (hne : ∀ s g, w.cell? ⟨d.Q, 4, none⟩ = some s → s.ownBlock = some g → ro ≠ some g) : Su w' base d p (StoF lw d s g) q L n ∧ w'.cell? ⟨d.Q, 4, none⟩ = w.cell? ⟨d.Q, 4, none⟩ := by
  have hsto : Sto w' lw d s g := Sto.keepX h.env kx
  obtain ⟨U, h1, h2⟩ := kx
  obtain ⟨sv, m, xs, q1, q2, q3⟩ := h.vw
  have q1' : ViewT w' d.Q d.X d.W d.V p.t sv := h1.heap q1 ((FxR.avx h2 [274] (by decide)).ne q1 (by simp))
  refine ⟨⟨hsto, h1.heap h.tx ((FxR.avx h2 [203] (by decide)).ne h.tx (by simp)), h.buf.keep h1 ((FxR.avx h2 [267] (by decide)).ne h.buf.1 (by simp)) (FxR.map h2 h.buf.2), h.keys, fun b b0 b1 => ?_, ⟨sv, m, xs, q1', q2, own_kp q3 h1 (fun x hx hm => ?_)⟩, h.sp.keep h1 (FxR.avx h2 _ (by decide)), h.high⟩, ?_⟩
  · rcases h.blk b b0 b1 with e | ⟨x, c, e1, e2, e3, e4⟩
    · exact Or.inl e
    · have hn : x ∉ U := Bt.av e4 (FxR.avx h2 [5] (by decide)) (by simp)
      exact Or.inr ⟨x, c, e1, e2.chgT h1 hn, e3, Bt.keep e4 h1 hn⟩
  · obtain ⟨-, cs, hh⟩ := own_elem q3 hx
    obtain ⟨-, cs', t', e1, e2⟩ := h2 x hm (heap_lt hh)
    rw [hh] at e1
    cases e1
    rcases e2 with e2 | ⟨-, e2⟩
    · exact absurd e2 (by decide)
    · exact hne sv x (cell_is q1 4 rfl) hx e2
  · rw [cell_is q1' 4 rfl, cell_is q1 4 rfl]
end Go.Proofs.YtelakcjbknbehaaGreat
namespace Go.Proofs.YtelakcjbknbehaaGreat
open Go.RowKit Go.Lib

theorem RfO.open_ {w : World} {lo G Y D V U n k : Nat} {Tv : Value} {xs : List Value} {num giv dn : Int} {L : List (Int × Int × List UInt8)} {S : List (Int × Int)} {P : List (Int × List UInt8)} (h : RfO w lo G Y D V U n k Tv xs num giv dn L S P) (hn : n ≤ 100000) :
    Calls Tryz.prog 96 #[.pointer (some ⟨G, 0, none⟩), .int .i64 (n + 1 : Nat)] w fun e w' => e = .returned (.pointer (some ⟨D, 0, none⟩)) ∧ w = w' := by
  obtain ⟨a, b, qv, qhv, m1, -⟩ := h.m
  exact ropen_last w m1 h.T h.d hn
/-- what a call of the reference leaves where its view's row of reads may grow. -/
theorem RfO.keepR {w w' : World} {lo G Y D V U n k k' : Nat} {Tv : Value} {xs : List Value} {num giv dn : Int} {L : List (Int × Int × List UInt8)} {S S' : List (Int × Int)} {P : List (Int × List UInt8)} (h : RfO w lo G Y D V U n k Tv xs num giv dn L S P) (hv : RvAt w' lo V Y U dn S' k') (hr : RrX w w' V) : RfO w' lo G Y D V U n k' Tv xs num giv dn L S' P ∧ FxR lo ((w.cell? ⟨V, 5, none⟩).bind Value.ownBlock) w w' := by
  obtain ⟨rv, rv', T, r1, r2, kT, hT, r4⟩ := hr
  obtain ⟨sv, rv0, xr, v1, v2, v3⟩ := h.v
  have e5 := (cell_is v1 5 rfl).symm.trans r1
  have e6 : rv0 = rv := by cases e5; rfl
  rw [e6] at v1 v3
  have hTy : ∀ x ∈ T, x < w.heap.size → ∃ cs t, w.heap[x]? = some (.cells cs t (0, 0)) ∧ (t = 180 ∨ t = 255 ∧ rv.ownBlock = some x) := fun x hx hl => by
    rcases hT x hx hl with rfl | e
    · exact ⟨_, _, v1, Or.inl rfl⟩
    · obtain ⟨-, cs, hh⟩ := own_elem v3 e
      exact ⟨_, _, hh, Or.inr ⟨rfl, e⟩⟩
  have av : ∀ ts : List Nat, 180 ∉ ts → 255 ∉ ts → Av w T ts := fun ts h1 h2 x hx cs t fr hh ht => by
    obtain ⟨cs', t', e1, e2⟩ := hTy x hx (heap_lt hh)
    rw [hh] at e1
    cases e1
    rcases e2 with rfl | ⟨rfl, -⟩
    · exact h1 ht
    · exact h2 ht
  have i3 : ∀ g ∈ T, ∀ cs fr, w.heap[g]? = some (.cells cs 3 fr) → cs.size = 0 := fun g hg cs fr hh => absurd List.mem_cons_self (av [3] (by decide) (by decide) g hg _ _ _ hh)
  obtain ⟨a, b, qv, qhv, m1, m2, m3, m4, m5⟩ := h.m
  refine ⟨⟨⟨a, b, qv, qhv, kT.heap m1 ((av [120] (by decide) (by decide)).ne m1 (by simp)), m2.keepT kT i3, m3.keepT kT i3, m4, m5⟩, own_kp h.T kT (fun g hg hm => ?_), kT.heap h.d ((av [167] (by decide) (by decide)).ne h.d (by simp)), hv, h.u.keepA kT (av _ (by decide) (by decide)), h.y.keepA kT (av _ (by decide) (by decide)), ⟨h.low.1, h.low.2.1, h.low.2.2.1, h.low.2.2.2.1, h.low.2.2.2.2.1, Nat.le_trans h.low.2.2.2.2.2 kT.size⟩⟩, T, kT, fun x hx hl => ?_⟩
  · obtain ⟨-, cs, hh⟩ := own_elem h.T hg
    exact av [163] (by decide) (by decide) g hm _ _ _ hh (by simp)
  · have hlx : lo ≤ x := by
      rcases hT x hx hl with rfl | e
      · exact h.low.2.2.2.1
      · exact (own_elem v3 e).1
    obtain ⟨cs, t, e1, e2⟩ := hTy x hx hl
    refine ⟨hlx, cs, t, e1, ?_⟩
    rcases e2 with rfl | ⟨rfl, e⟩
    · exact Or.inl (by simp)
    · exact Or.inr ⟨rfl, by rw [r1]; exact e⟩
theorem FxR.heap {lo : Nat} {ro : Option Nat} {w w' : World} (h : FxR lo ro w w') {x : Nat} {cs : Array Value} {t : TypeId} (hh : w.heap[x]? = some (.cells cs t (0, 0))) (ht : t ∉ [120, 163, 167, 180, 173, 247, 255]) : w'.heap[x]? = some (.cells cs t (0, 0)) := by
  obtain ⟨U, h1, h2⟩ := h
  exact h1.heap hh ((FxR.avx h2 [t] (fun t' ht' => by rw [List.mem_singleton] at ht'; rw [ht']; exact ht)).ne hh (by simp))
theorem FxR.ahead {lo : Nat} {ro : Option Nat} {w w1 w' : World} (h : FxR lo ro w1 w') (k : Chg [] w w1) : FxR lo ro w w' := by
  obtain ⟨U, h1, h2⟩ := h
  refine ⟨U, (k.mono (fun x hx _ => by cases hx)).then h1, fun x hx hl => ?_⟩
  obtain ⟨e0, cs, t, e1, e2⟩ := h2 x hx (Nat.lt_of_lt_of_le hl k.size)
  exact ⟨e0, cs, t, by rw [← k.block x hl (by simp)]; exact e1, e2⟩
theorem RrX.ahead {w w1 w' : World} {V : Nat} (h : RrX w1 w' V) (k : Chg [] w w1) (hc : w1.cell? ⟨V, 5, none⟩ = w.cell? ⟨V, 5, none⟩) : RrX w w' V := by
  obtain ⟨rv, rv', T, r1, r2, kT, hT, r4⟩ := h
  exact ⟨rv, rv', T, by rw [← hc]; exact r1, r2, (k.mono (fun x hx _ => by cases hx)).then kT, fun x hx hl => hT x hx (Nat.lt_of_lt_of_le hl k.size), fun g hg hl => r4 g hg (Nat.lt_of_lt_of_le hl k.size)⟩
set_option maxRecDepth 100000 in
set_option maxHeartbeats 4000000 in
theorem rmread (w : World) {lo G Y D V U n k m : Nat} {Tv : Value} {xs : List Value} {num giv dn : Int} {a : Nat} {L : List (Int × Int × List UInt8)} {S : List (Int × Int)} {P : List (Int × List UInt8)} (h : RfO w lo G Y D V U n k Tv xs num giv dn L S P) (hn : n ≤ 100000) (hP : P.length ≤ 1000) (hL : L.length ≤ 100000) (hS : S.length ≤ 63) (hSi : InE S) (hk : k ≤ 10000)
    (hm0 : 1 ≤ m) (hm1 : m ≤ 16) (ha : a + m ≤ 258) (hlo : lo ≤ w.heap.size) :
    Calls Tryz.prog 37 #[.pointer (some ⟨G, 0, none⟩), .int .i64 (n + 1 : Nat), .agg #[.int .i64 a, .int .i64 m]] w fun e w' => ∃ v, e = .returned (.tuple #[v, .int .i64 0]) ∧
      w'.ownsRow w.heap.size 5 1 v (40 * m) (Lib.byteCells ((List.range m).flatMap fun i => viewG P L dn (a + i : Nat))) ∧ RfO w' lo G Y D V U n (k + m) Tv xs num giv dn L (rput S (a, m)) P ∧ FxR lo ((w.cell? ⟨V, 5, none⟩).bind Value.ownBlock) w w' ∧ RrX w w' V := by
  have g0 := heap_new w (.cells #[.int .i64 a, .int .i64 m] 79)
  have k0 : Chg [] w (w.alloc (.cells #[.int .i64 a, .int .i64 m] 79)) := Chg.alloc w _
  have hF0 : ∀ w1, Chg [] w w1 → RfO w1 lo G Y D V U n k Tv xs num giv dn L S P ∧ w1.cell? ⟨V, 5, none⟩ = w.cell? ⟨V, 5, none⟩ := fun w1 k1 => h.keepS (so := none) (FsR.of_chg k1) (fun _ _ _ _ => by simp)
  obtain ⟨h1, -⟩ := hF0 _ k0
  have HO := Lib.hid (h1.open_ hn)
  have d3 : (w.alloc (.cells #[.int .i64 a, .int .i64 m] 79)).cell? ⟨D, 3, none⟩ = some (.pointer (some ⟨V, 0, none⟩)) := cell_is h1.d 3 rfl
  have a0 : (w.alloc (.cells #[.int .i64 a, .int .i64 m] 79)).cell? ⟨w.heap.size, 0, none⟩ = some (.int .i64 a) := cell_is g0 0 rfl
  have a1 : (w.alloc (.cells #[.int .i64 a, .int .i64 m] 79)).cell? ⟨w.heap.size, 1, none⟩ = some (.int .i64 m) := cell_is g0 1 rfl
  obtain ⟨h2, hc2⟩ := hF0 _ k0.drew
  have HV := Lib.hid (rview_read (w.alloc (.cells #[.int .i64 a, .int .i64 m] 79)).drew (m := m) h2.v h2.u h2.y hP hL hS hSi hk hm0 hm1 ha (by have := k0.size; show lo ≤ (w.alloc (.cells #[.int .i64 a, .int .i64 m] 79)).heap.size; omega))
  have HH := Lib.hid (And.intro h2 (And.intro k0.drew (And.intro hc2 (show (w.alloc (.cells #[.int .i64 a, .int .i64 m] 79)).drew.heap[w.heap.size]? = some (.cells #[.int .i64 a, .int .i64 m] 79 (0, 0)) from g0))))
  have hDl := heap_lt h.d
  clear h h1 h2 hc2 hF0 g0 k0
  go_enter Tryz.func37, Tryz.ntmps37
  go_wp2_with fail
  generalize hz : w.heap.size = z at *
  generalize w.alloc (.cells #[.int .i64 a, .int .i64 m] 79) = w1 at *
  refine HO.out.mono ?_
  rintro e w2 ⟨rfl, rfl⟩
  go_wp2_with fail
  go_region_held3 (fun wx => wx.cell? ⟨D, 3, none⟩ = some (.pointer (some ⟨V, 0, none⟩)) ∧ wx.cell? ⟨z, 0, none⟩ = some (.int .i64 a) ∧ wx.cell? ⟨z, 1, none⟩ = some (.int .i64 m))
    (first | (exact ⟨d3, a0, a1⟩) | (exact HS4.out))
    (first | (go_at_call 97; refine HV.out.mono ?_; rintro e w4 ⟨v4, rfl, o4, hv4, hr4⟩; have HS4 : Hid (w4.cell? ⟨D, 3, none⟩ = some (.pointer (some ⟨V, 0, none⟩)) ∧ w4.cell? ⟨z, 0, none⟩ = some (.int .i64 a) ∧ w4.cell? ⟨z, 1, none⟩ = some (.int .i64 m)) := Lib.hid ⟨cell_is (HH.out.1.keepR hv4 hr4).1.d 3 rfl, cell_is ((HH.out.1.keepR hv4 hr4).2.heap HH.out.2.2.2 (by decide)) 0 rfl, cell_is ((HH.out.1.keepR hv4 hr4).2.heap HH.out.2.2.2 (by decide)) 1 rfl⟩))
  have HF := Lib.hid (And.intro (HH.out.1.keepR hv4 hr4) (And.intro o4 (hr4.ahead HH.out.2.1 HH.out.2.2.1)))
  clear hv4 hr4 o4 HV
  go_wp2_with fail
  go_ret2
  obtain ⟨⟨f1, f2⟩, f3, f4⟩ := HF.out
  rw [HH.out.2.2.1] at f2
  exact ⟨v4, rfl, own_low f3 (by have := HH.out.2.1.size; omega), f1, f2.ahead HH.out.2.1, f4⟩
/-- .. where its buffer alone has changed. -/
theorem RfO.keepU {w w' : World} {lo G Y D V U n k : Nat} {Tv : Value} {xs : List Value} {num giv dn : Int} {L : List (Int × Int × List UInt8)} {S : List (Int × Int)} {P P' : List (Int × List UInt8)} (h : RfO w lo G Y D V U n k Tv xs num giv dn L S P) (hc : Chg [U] w w') (hu : RbAt w' U P') : RfO w' lo G Y D V U n k Tv xs num giv dn L S P' ∧ FxR lo none w w' ∧ w'.cell? ⟨V, 5, none⟩ = w.cell? ⟨V, 5, none⟩ := by
  obtain ⟨v, u1, -⟩ := h.u
  have av : ∀ ts : List Nat, 173 ∉ ts → Av w [U] ts := fun ts hts => Av.row u1 hts
  have i3 : ∀ g ∈ [U], ∀ cs fr, w.heap[g]? = some (.cells cs 3 fr) → cs.size = 0 := fun g hg cs fr hh => absurd List.mem_cons_self (av [3] (by decide) g hg _ _ _ hh)
  have own : ∀ {base e size n : Nat} {v : Value} {xs : List Value}, w.ownsRow base e size v n xs → 173 ≠ e → w'.ownsRow base e size v n xs := fun ho he => own_kp ho hc (fun g hg hm => by
    obtain ⟨-, cs, hh⟩ := own_elem ho hg
    exact av [_] (by simpa using he) g hm _ _ _ hh (by simp))
  obtain ⟨a, b, qv, qhv, m1, m2, m3, m4, m5⟩ := h.m
  obtain ⟨sv, rv, xr, v1, v2, v3⟩ := h.v
  have hv' := hc.heap v1 ((av [180] (by decide)).ne v1 (by simp))
  refine ⟨⟨⟨a, b, qv, qhv, hc.heap m1 ((av [120] (by decide)).ne m1 (by simp)), m2.keepT hc i3, m3.keepT hc i3, m4, m5⟩, own h.T (by decide), hc.heap h.d ((av [167] (by decide)).ne h.d (by simp)), ⟨sv, rv, xr, hv', own v2 (by decide), own v3 (by decide)⟩, hu, h.y.keepA hc (av _ (by decide)), ⟨h.low.1, h.low.2.1, h.low.2.2.1, h.low.2.2.2.1, h.low.2.2.2.2.1, Nat.le_trans h.low.2.2.2.2.2 hc.size⟩⟩, ⟨[U], hc, fun x hx hl => ?_⟩, ?_⟩
  · rw [List.mem_singleton] at hx
    subst hx
    exact ⟨h.low.2.2.2.2.1, _, _, u1, Or.inl (by simp)⟩
  · rw [cell_is hv' 5 rfl, cell_is v1 5 rfl]
set_option maxRecDepth 100000 in
set_option maxHeartbeats 2000000 in
theorem rmwrite (w : World) {lo G Y D V U n k E eo cp : Nat} {Tv dv : Value} {xs : List Value} {num giv dn b : Int} {d : List UInt8} {L : List (Int × Int × List UInt8)} {S : List (Int × Int)} {P : List (Int × List UInt8)} (h : RfO w lo G Y D V U n k Tv xs num giv dn L S P) (hn : n ≤ 100000) (hP : P.length < 16) (hb0 : 0 ≤ b) (hb1 : b < 258)
    (e0 : w.cell? ⟨E, eo, none⟩ = some (.int .i64 b)) (e1 : w.cell? ⟨E, eo + 1, none⟩ = some dv) (hd : DatX w dv d) :
    Calls Tryz.prog 41 #[.pointer (some ⟨G, 0, none⟩), .int .i64 (n + 1 : Nat), .slice (some ⟨E, eo, none⟩) 1 cp] w fun e w' => e = .returned (.int .i64 0) ∧ RfO w' lo G Y D V U n k Tv xs num giv dn L S (bufPut P b d) ∧ FxR lo none w w' ∧ w'.cell? ⟨V, 5, none⟩ = w.cell? ⟨V, 5, none⟩ := by
  have HO := Lib.hid (h.open_ hn)
  have d4 : w.cell? ⟨D, 4, none⟩ = some (.pointer (some ⟨U, 0, none⟩)) := cell_is h.d 4 rfl
  have HW := Lib.hid (rbuf_write w (cp := cp) h.u hP hb0 hb1 e0 e1 hd)
  have HH := Lib.hid h
  clear h e0 e1 hd
  go_enter Tryz.func41, Tryz.ntmps41
  go_wp2_with fail
  refine HO.out.mono ?_
  rintro e w2 ⟨rfl, rfl⟩
  go_wp2_with fail
  refine HW.out.mono ?_
  rintro e w3 ⟨rfl, k3, hu3⟩
  have HF := Lib.hid (HH.out.keepU k3 hu3)
  clear k3 hu3 HW
  go_wp2_with fail
  go_ret
  exact ⟨rfl, HF.out⟩
end Go.Proofs.YtelakcjbknbehaaGreat
namespace Go.Proofs.YtelakcjbknbehaaGreat
open Go.RowKit Go.Lib

set_option maxRecDepth 100000 in
set_option maxHeartbeats 2000000 in
theorem rplace_one (w : World) {G Y : Nat} {a b Tv qv qhv : Value} {x n num giv dn out : Int} (h : RmS w G Y a b Tv qv qhv n num giv dn out) (ha : Int1 w a x) : Calls Tryz.prog 218 #[.pointer (some ⟨G, 1, none⟩), .int .i64 x] w fun e w' => e = .returned (.int .i64 0) ∧ w = w' := by
  obtain ⟨g, c, rfl, hc, cs, hg, h0, h1⟩ := ha
  have c2 : w.cell? ⟨G, 2, none⟩ = some (.slice (some ⟨g, 0, none⟩) 1 c) := cell_is h 2 rfl
  have r0 : w.cell? ⟨g, 0, none⟩ = some (.int .i64 x) := cell_is hg 0 h0
  clear h hg h0
  go_enter Tryz.func218, Tryz.ntmps218
  go_wp2_with fail
  go_loopw [5] (fun iv wr => iv = .int .i64 0 ∧ wr = w) (fun _ _ => 0)
  case atStart => exact ⟨rfl, (by first | trivial | rfl)⟩
  case round =>
    obtain ⟨rfl, rfl⟩ := hrel
    go_wp2_with fail
    go_ret
    exact ⟨rfl, rfl⟩
/-- nothing is put behind nothing. -/
theorem append_nil0 (w : World) (ty : TypeId) (p : Option Addr) (c : Nat) : (Builtin.append_ #[115, 115] ty #[.slice none 0 0, .slice p 0 c]).run Tryz.prog w = .ok (.slice none 0 0) w := by
  obtain ⟨i, hi0, hz, hz1, hz2⟩ := info_parts inf3
  cases p <;> simp [Builtin.append_, run_underlying ty62, sizeOf, typeInfo, hi0, Builtin.lenOf, Builtin.firstCells, loadCells, loadCellsFrom]
set_option maxRecDepth 100000 in
set_option maxHeartbeats 4000000 in
theorem rclose_one (w : World) {G Y : Nat} {a b Tv qv qhv : Value} {x y n num giv dn out : Int} (h : RmS w G Y a b Tv qv qhv n num giv dn out) (ha : Int1 w a x) (hb : Int1 w b y) : Calls Tryz.prog 171 #[.pointer (some ⟨G, 1, none⟩), .int .i64 x] w fun e w' =>
    e = .returned (.int .i64 0) ∧ RmS w' G Y (.slice none 0 0) (.slice none 0 0) Tv qv qhv n num giv dn out ∧ Chg [G] w w' := by
  have HP := Lib.hid (rplace_one w h ha)
  obtain ⟨g, c, rfl, hc, -⟩ := ha
  obtain ⟨g2, c2, rfl, hc2, -⟩ := hb
  have q2 : w.cell? ⟨G, 2, none⟩ = some (.slice (some ⟨g, 0, none⟩) 1 c) := cell_is h 2 rfl
  have q3 : w.cell? ⟨G, 3, none⟩ = some (.slice (some ⟨g2, 0, none⟩) 1 c2) := cell_is h 3 rfl
  have f2 := unfrozen h 2
  have h1 := heap_set h 2 (.slice none 0 0) rfl
  have q3s : (w.setCell ⟨G, 2, none⟩ (.slice none 0 0)).cell? ⟨G, 3, none⟩ = some (.slice (some ⟨g2, 0, none⟩) 1 c2) := cell_is h1 3 rfl
  have f3 := unfrozen h1 3
  have HF : Hid (RmS ((w.setCell ⟨G, 2, none⟩ (.slice none 0 0)).setCell ⟨G, 3, none⟩ (.slice none 0 0)) G Y (.slice none 0 0) (.slice none 0 0) Tv qv qhv n num giv dn out ∧ Chg [G] w ((w.setCell ⟨G, 2, none⟩ (.slice none 0 0)).setCell ⟨G, 3, none⟩ (.slice none 0 0))) := Lib.hid ⟨heap_set h1 3 _ rfl, (Chg.set w G 2 _).then (Chg.set _ G 3 _)⟩
  clear h h1
  go_enter Tryz.func171, Tryz.ntmps171
  go_wp2_with fail
  refine HP.out.mono ?_
  rintro e w1 ⟨rfl, rfl⟩
  go_wp2_with (at_builtin; first
    | (refine Lib.wpList_append_run _ rfl (.tmp 13) (.tmp 19) 115 115 rfl _ _ rfl rfl _ _ (append_nil0 _ _ _ _) ?_)
    | (refine Lib.wpList_append_run _ rfl (.tmp 21) (.tmp 27) 115 115 rfl _ _ rfl rfl _ _ (append_nil0 _ _ _ _) ?_)
    | (refine Lib.wpList_append_run _ rfl (.tmp 30) (.tmp 37) 115 115 rfl _ _ rfl rfl _ _ (append_nil0 _ _ _ _) ?_)
    | (refine Lib.wpList_append_run _ rfl (.tmp 42) (.tmp 49) 115 115 rfl _ _ rfl rfl _ _ (append_nil0 _ _ _ _) ?_))
  all_goals
    go_ret
    exact ⟨rfl, HF.out⟩
set_option maxRecDepth 100000 in
set_option maxHeartbeats 4000000 in
theorem rend_last (w : World) {lo G Y D V U n : Nat} {a b Tv qv qhv : Value} {xs : List Value} {y st tm cd st' tm' cd' num giv dn out : Int} (h : RmS w G Y a b Tv qv qhv (n + 1 : Nat) num giv dn out) (ha : Int1 w a (n + 1 : Nat)) (hb : Int1 w b y) (hT : w.ownsRow lo 163 1 Tv (n + 1) (xs ++ [.pointer (some ⟨D, 0, none⟩)])) (hD : RtAt w D V U st tm cd) (hn : n ≤ 100000) :
    Calls Tryz.prog 101 #[.pointer (some ⟨G, 0, none⟩), .int .i64 (n + 1 : Nat), .int .i64 st', .int .i64 tm', .int .i64 cd'] w fun e w' =>
    e = .returned (.tuple #[]) ∧ RmS w' G Y (.slice none 0 0) (.slice none 0 0) Tv qv qhv (n + 1 : Nat) num giv dn out ∧ Chg [G, D] w w' := by
  have hGD : G ≠ D := heap_ne h hD (by simp)
  have kD := (((Chg.refl [D] w).then (Chg.set w D 0 (.int .i64 st'))).then (Chg.set _ D 1 (.int .i64 tm'))).then (Chg.set _ D 2 (.int .i64 cd'))
  have h1 := heap_set hD 0 (.int .i64 st') rfl
  have h2 := heap_set h1 1 (.int .i64 tm') rfl
  have hm := kD.heap h (by simpa using hGD)
  have aD : ∀ g ∈ [D], ∀ cs fr, w.heap[g]? = some (.cells cs 3 fr) → cs.size = 0 := fun g hg cs fr hh => by
    rw [List.mem_singleton] at hg
    subst hg
    rw [hD] at hh
    cases hh
  have HC := Lib.hid (rclose_one _ hm (ha.keepT kD aD) (hb.keepT kD aD))
  obtain ⟨g, c, rfl, hc, hk⟩ := own_last hT
  have c5 : w.cell? ⟨G, 5, none⟩ = some (.slice (some ⟨g, 0, none⟩) (n + 1) c) := cell_is h 5 rfl
  have d0 := cell_is hD 0 rfl
  have d1 := cell_is h1 1 rfl
  have d2 := cell_is h2 2 rfl
  have f0 := unfrozen hD 0
  have f1 := unfrozen h1 1
  have f2 := unfrozen h2 2
  have HK := Lib.hid kD
  clear h ha hb hT hD h1 h2 hm kD aD
  go_enter Tryz.func101, Tryz.ntmps101
  go_wp2_with fail
  refine HC.out.mono ?_
  rintro e w2 ⟨rfl, h3, k3⟩
  have HF := Lib.hid (And.intro h3 ((HK.out.mono (T := [G, D]) (fun x hx _ => by rw [List.mem_singleton] at hx; simp [hx])).then (k3.mono (fun x hx _ => by rw [List.mem_singleton] at hx; simp [hx]))))
  clear h3 k3
  go_wp2_with fail
  refine bodyPost_end (v := .tuple #[]) (by simp [results, Tryz.results101]) rfl ?_
  exact ⟨rfl, HF.out⟩
end Go.Proofs.YtelakcjbknbehaaGreat
namespace Go.Proofs.YtelakcjbknbehaaGreat
open Go.RowKit Go.Lib

/-- a row of one transaction: its time, its puts. -/
def Tx1 (w : World) (v : Value) (t : Int) (pv : Value) : Prop := ∃ g c, v = .slice (some ⟨g, 0, none⟩) 1 c ∧ 1 ≤ c ∧ ∃ cs : Array Value, w.heap[g]? = some (.cells cs 185 (0, 0)) ∧ cs[0]? = some (.int .i64 t) ∧ cs[1]? = some pv
theorem Tx1.keepA {w w' : World} {T : List Nat} {v pv : Value} {t : Int} (h : Tx1 w v t pv) (hc : Chg T w w') (hT : Av w T [185]) : Tx1 w' v t pv := by
  obtain ⟨g, c, e, h1, cs, h2, h3, h4⟩ := h
  exact ⟨g, c, e, h1, cs, hc.heap h2 (hT.ne h2 (by simp)), h3, h4⟩
theorem Tx1.keep {w w' : World} {v pv : Value} {t : Int} (h : Tx1 w v t pv) (hc : Chg [] w w') : Tx1 w' v t pv := h.keepA hc (Av.nil _ _)
/-- an empty row. -/
def Nl (v : Value) : Prop := ∃ p c, v = .slice p 0 c
set_option maxRecDepth 100000 in
set_option maxHeartbeats 2000000 in
theorem rform_one (w : World) {v : Value} {t : Int} {pb : Option Addr} {m cb : Nat} (h : Tx1 w v t (.slice pb m cb)) (hm : m ≤ 16) : Calls Tryz.prog 174 #[v] w fun e w' => e = .returned (.int .i64 1) ∧ w = w' := by
  obtain ⟨g, c, rfl, hc, cs, hg, h0, h1⟩ := h
  have r1 : w.cell? ⟨g, 1, none⟩ = some (.slice pb m cb) := cell_is hg 1 h1
  clear hg h0 h1
  go_enter Tryz.func174, Tryz.ntmps174
  go_wp2_with fail
  go_loopw [3, 4] (fun nv kv wr => (nv = .int .i64 0 ∧ kv = .int .i64 0 ∨ nv = .int .i64 1 ∧ kv = .int .i64 m) ∧ wr = w) (fun nv _ _ => 1 - (intOf nv).toNat)
  case atStart => exact ⟨Or.inl ⟨rfl, rfl⟩, (by first | trivial | rfl)⟩
  case round =>
    obtain ⟨⟨rfl, rfl⟩ | ⟨rfl, rfl⟩, rfl⟩ := hrel
    · go_wp2_with fail
      go_roundw
      case rel => exact ⟨Or.inr ⟨rfl, by simp⟩, trivial⟩
      case measure => simp [intOf]
    · go_wp2_with fail
      go_ret
      exact ⟨rfl, rfl⟩
set_option maxRecDepth 100000 in
set_option maxHeartbeats 4000000 in
theorem rbatch_one (w : World) {G Y : Nat} {a b Tv qv qhv : Value} {n num giv dn t : Int} {pb : Option Addr} {m cb : Nat} (h : RmS w G Y a b Tv qv qhv n num giv dn 0) (hq : Tx1 w qv t (.slice pb m cb)) (hm : m ≤ 16) (hn0 : 0 ≤ num) (hn1 : num ≤ 1000000) :
    Calls Tryz.prog 104 #[.pointer (some ⟨G, 0, none⟩)] w fun e w' => e = .returned (.tuple #[.agg #[.int .i64 (num + 1), qv], .int .i64 0]) ∧ RmS w' G Y a b Tv qv qhv n num giv dn 1 ∧ Chg [G] w w' := by
  have k0 : Chg [] w (w.alloc (.cells #[.int .i64 0, .slice none 0 0] 108)) := Chg.alloc w _
  have z0 := heap_new w (.cells #[.int .i64 0, .slice none 0 0] 108)
  have hm1 := k0.heap h (by simp)
  have HF := Lib.hid (rform_one _ (hq.keep k0) hm)
  obtain ⟨g, c, rfl, hc, -⟩ := hq
  have c8 : (w.alloc (.cells #[.int .i64 0, .slice none 0 0] 108)).cell? ⟨G, 8, none⟩ = some (.int .i64 0) := cell_is hm1 8 rfl
  have c6 : (w.alloc (.cells #[.int .i64 0, .slice none 0 0] 108)).cell? ⟨G, 6, none⟩ = some (.slice (some ⟨g, 0, none⟩) 1 c) := cell_is hm1 6 rfl
  have f8 := unfrozen hm1 8
  have HH := Lib.hid (And.intro hm1 (And.intro z0 k0))
  clear h hm1 z0 k0
  go_enter Tryz.func104, Tryz.ntmps104
  go_wp2_with fail
  generalize hz : w.heap.size = z at *
  generalize hw1 : w.alloc (.cells #[.int .i64 0, .slice none 0 0] 108) = w1 at *
  refine HF.out.mono ?_
  rintro e w2 ⟨rfl, rfl⟩
  go_wp2_with fail
  have hG2 := heap_set HH.out.1 8 (.int .i64 1) rfl
  have hzG : z ≠ G := heap_ne HH.out.2.1 HH.out.1 (by simp)
  have hz2 := (Chg.set w1 G 8 (.int .i64 1)).heap HH.out.2.1 (by simpa using hzG)
  have HK := Lib.hid (((HH.out.2.2.mono (T := [G]) (fun x hx _ => by cases hx)).then (Chg.set w1 G 8 (.int .i64 1))))
  have HG2 := Lib.hid hG2
  generalize w1.setCell ⟨G, 8, none⟩ (.int .i64 1) = w3 at *
  have c8 : w3.cell? ⟨G, 8, none⟩ = some (.int .i64 1) := cell_is hG2 8 rfl
  have c9 : w3.cell? ⟨G, 9, none⟩ = some (.int .i64 num) := cell_is hG2 9 rfl
  have c6 : w3.cell? ⟨G, 6, none⟩ = some (.slice (some ⟨g, 0, none⟩) 1 c) := cell_is hG2 6 rfl
  have q0 : w3.cell? ⟨z, 0, none⟩ = some (.int .i64 0) := cell_is hz2 0 rfl
  have q1 : w3.cell? ⟨z, 1, none⟩ = some (.slice none 0 0) := cell_is hz2 1 rfl
  have p0 := unfrozen hz2 0
  have p1 := unfrozen hz2 1
  have hci : (1 : Int) ≤ c := by omega
  have hwn : IntKind.i64.wrap (num + 1) = num + 1 := by rw [IntKind.wrap_i64]; omega
  clear HF
  go_region_held3 (fun wx => wx.cell? ⟨G, 8, none⟩ = some (.int .i64 1) ∧ wx.cell? ⟨G, 9, none⟩ = some (.int .i64 num) ∧ wx.cell? ⟨G, 6, none⟩ = some (.slice (some ⟨g, 0, none⟩) 1 c))
    (first | (exact ⟨c8, c9, c6⟩) | (exact ⟨((Chg.set _ z 0 _).then (Chg.set _ z 1 _)).cell c8 (by simpa using hzG.symm), ((Chg.set _ z 0 _).then (Chg.set _ z 1 _)).cell c9 (by simpa using hzG.symm), ((Chg.set _ z 0 _).then (Chg.set _ z 1 _)).cell c6 (by simpa using hzG.symm)⟩))
    (fail)
  go_wp2_with fail
  refine bodyPost_ret (v := .tuple #[.agg #[.int .i64 (num + 1), .slice (some ⟨g, 0, none⟩) 1 c], .int .i64 0]) (by simp [results, Tryz.results104, go_sem, q0, q1]) rfl ?_
  have kz := ((Chg.refl [z] w3).then (Chg.set w3 z 0 (.int .i64 (num + 1)))).then (Chg.set _ z 1 (.slice (some ⟨g, 0, none⟩) 1 c))
  refine ⟨rfl, kz.heap HG2.out (by simpa using hzG.symm), ?_⟩
  have hzn : w.heap.size ≤ z := by omega
  refine (HK.out.trans kz (fun x hx hlt => ?_)).drew
  rw [List.mem_singleton] at hx
  omega
end Go.Proofs.YtelakcjbknbehaaGreat
namespace Go.Proofs.YtelakcjbknbehaaGreat
open Go.RowKit Go.Lib

/-- cells of versions. -/
def veCells (l : List (Int × Int × Value)) : List Value := l.flatMap fun p => [.int .i64 p.1, .int .i64 p.2.1, p.2.2]
theorem veCells_app (a b : List (Int × Int × Value)) : veCells (a ++ b) = veCells a ++ veCells b := by simp [veCells]
/-- values of versions in a world. -/
def VeV (w : World) (vs : List (Int × Int × Value)) (l : List (Int × Int × List UInt8)) : Prop := vs.length = l.length ∧ ∀ i (h : i < l.length) (h' : i < vs.length), vs[i].1 = l[i].1 ∧ vs[i].2.1 = l[i].2.1 ∧ DatX w vs[i].2.2 l[i].2.2
theorem VeV.nil (w : World) : VeV w [] [] := ⟨rfl, fun i h => by cases h⟩
theorem VeV.keepA {w w' : World} {T : List Nat} {vs : List (Int × Int × Value)} {l : List (Int × Int × List UInt8)} (h : VeV w vs l) (hc : Chg T w w') (hT : Av w T [5]) : VeV w' vs l := ⟨h.1, fun i hi hi' => ⟨(h.2 i hi hi').1, (h.2 i hi hi').2.1, (h.2 i hi hi').2.2.keepA hc hT⟩⟩
theorem VeV.keep {w w' : World} {vs : List (Int × Int × Value)} {l : List (Int × Int × List UInt8)} (h : VeV w vs l) (hc : Chg [] w w') : VeV w' vs l := h.keepA hc (Av.nil _ _)
theorem VeV.snoc {w : World} {vs : List (Int × Int × Value)} {l : List (Int × Int × List UInt8)} {b t : Int} {v : Value} {d : List UInt8} (h : VeV w vs l) (hd : DatX w v d) : VeV w (vs ++ [(b, t, v)]) (l ++ [(b, t, d)]) := by
  refine ⟨by simp [h.1], fun i hi hi' => ?_⟩
  by_cases hl : i < l.length
  · have hl' : i < vs.length := by rw [h.1]; exact hl
    rw [List.getElem_append_left hl, List.getElem_append_left hl']
    exact h.2 i hl hl'
  · have e : i = l.length := by simp at hi; omega
    subst e
    have e2 : vs.length = l.length := h.1
    rw [List.getElem_append_right (by omega), List.getElem_append_right (by omega)]
    simp [e2, hd]
theorem veCells_at (vs : List (Int × Int × Value)) (i : Nat) (h : i < vs.length) : (veCells vs)[i * 3]? = some (.int .i64 vs[i].1) ∧ (veCells vs)[i * 3 + 1]? = some (.int .i64 vs[i].2.1) ∧ (veCells vs)[i * 3 + 2]? = some vs[i].2.2 := by
  induction vs generalizing i with
  | nil => cases h
  | cons p l ih =>
    cases i with
    | zero => exact ⟨rfl, rfl, rfl⟩
    | succ i =>
      have := ih i (by simpa using h)
      rw [show (i + 1) * 3 = i * 3 + 3 by omega, show i * 3 + 3 + 1 = i * 3 + 1 + 3 by omega, show i * 3 + 3 + 2 = i * 3 + 2 + 3 by omega]
      exact this
theorem VeX.own {w : World} {base n : Nat} {v : Value} {vs : List (Int × Int × Value)} {l : List (Int × Int × List UInt8)} (h : w.ownsRow base 259 3 v n (veCells vs)) (hv : VeV w vs l) (hn : n = l.length) : VeX w v l := by
  subst hn
  obtain ⟨pa, c, rfl, hc⟩ := own_form h
  refine ⟨pa, c, rfl, hc, fun i hi => ?_⟩
  have hi' : i < vs.length := by rw [hv.1]; exact hi
  rcases h.2 with ⟨e, h0⟩ | ⟨g, cap, cur, e, hA, hg, h1, h2, h3, h4⟩
  · omega
  · cases e
    have key : ∀ j, j < l.length * 3 → w.cell? ⟨g, 0 + j, none⟩ = (veCells vs)[j]? := fun j hj => by
      have e1 : (veCells vs)[j]? = cur.toList[j]? := by
        rw [← h4, List.getElem?_take, if_pos hj]
      rw [e1, Nat.zero_add]
      unfold World.cell?
      rw [hg]
      simp
    have hp := veCells_at vs i hi'
    have hq := hv.2 i hi hi'
    refine ⟨g, 0, vs[i].2.2, rfl, ⟨_, hg⟩, ?_, ?_, ?_, hq.2.2⟩
    · rw [key _ (by omega), hp.1, hq.1]
    · rw [show 0 + i * 3 + 1 = 0 + (i * 3 + 1) by omega, key _ (by omega), hp.2.1, hq.2.1]
    · rw [show 0 + i * 3 + 2 = 0 + (i * 3 + 2) by omega, key _ (by omega), hp.2.2]
theorem tyVe : Tryz.prog.underlying 245 = some (.slice 259) := by kernel_rfl
theorem infVe : (Tryz.prog.info? 259).map (fun i => (i.zero, i.size, i.bytes)) = some (some (.agg #[.int .i64 0, .int .i64 0, .slice none 0 0]), 3, 40) := by kernel_rfl
set_option maxRecDepth 100000 in
set_option maxHeartbeats 8000000 in
theorem rmap_apply (w : World) {Y : Nat} {vb : Value} {L : List (Int × Int × List UInt8)} {P : List (Int × List UInt8)} {last t : Int} (h : RyAt w Y L last) (hP : PuX w vb P) (hN : L.length ≤ 100000) (h0 : 0 < P.length) (h16 : P.length ≤ 16) (ht0 : last < t) (ht1 : t ≤ 1099511627776) (hr : RiseL P) (hk : ∀ p ∈ P, 0 ≤ p.1 ∧ p.1 < 258) :
    Calls Tryz.prog 175 #[.pointer (some ⟨Y, 0, none⟩), .agg #[.int .i64 t, vb]] w fun e w' => e = .returned (.int .i64 0) ∧ Chg [Y] w w' ∧ RyAt w' Y (mergeR t L P) t := by
  have q0 : decide (t ≤ last) = false := decide_eq_false (by omega)
  have q1 : decide (1099511627776 < t) = false := decide_eq_false (by omega)
  obtain ⟨pv, hY, pl, cl, rfl, hcl, hxl⟩ := h
  obtain ⟨pb, cb, rfl, hcb, hxb⟩ := hP
  obtain ⟨gb, ob, rfl⟩ : ∃ gb ob, pb = some ⟨gb, ob, none⟩ := by
    obtain ⟨g, o, u, e, -⟩ := hxb 0 h0
    exact ⟨g, o, e⟩
  have hcb' : ∀ i (h : i < P.length), w.cell? ⟨gb, ob + i * 2, none⟩ = some (.int .i64 P[i].1) ∧ ∃ g o c, w.cell? ⟨gb, ob + i * 2 + 1, none⟩ = some (.slice (some ⟨g, o, none⟩) 40 c) ∧ DatX w (.slice (some ⟨g, o, none⟩) 40 c) P[i].2 := fun i hi => by
    obtain ⟨g, o, u, e, -, c0, c1, hD⟩ := hxb i hi
    cases e
    obtain ⟨gd, od, cd, rfl, hD'⟩ := hD
    exact ⟨c0, gd, od, cd, c1, gd, od, cd, rfl, hD'⟩
  obtain ⟨N, hNe⟩ : ∃ N, N = L.length := ⟨_, rfl⟩
  obtain ⟨n, hne⟩ : ∃ n, n = P.length := ⟨_, rfl⟩
  rw [← hNe] at hY hcl hN
  rw [← hne] at hcb h0 h16 ⊢
  have hn0 : ((n : Int) == 0) = false := beq_eq_false_iff_ne.2 (by omega)
  have g0 := heap_new w (.cells #[.int .i64 t, .slice (some ⟨gb, ob, none⟩) n cb] 185)
  have k0 : Chg [] w (w.alloc (.cells #[.int .i64 t, .slice (some ⟨gb, ob, none⟩) n cb] 185)) := Chg.alloc w _
  obtain ⟨z, hz⟩ : ∃ z, z = w.heap.size := ⟨_, rfl⟩
  rw [← hz] at g0
  have y2 : (w.alloc (.cells #[.int .i64 t, .slice (some ⟨gb, ob, none⟩) n cb] 185)).cell? ⟨Y, 2, none⟩ = some (.int .i64 last) := cell_is (k0.heap hY (by simp)) 2 rfl
  have z0 : (w.alloc (.cells #[.int .i64 t, .slice (some ⟨gb, ob, none⟩) n cb] 185)).cell? ⟨z, 0, none⟩ = some (.int .i64 t) := cell_is g0 0 rfl
  have HH := Lib.hid (And.intro hY (And.intro hxl (And.intro hcb' (And.intro hNe (And.intro hne (And.intro hr (And.intro hk hz)))))))
  have HG := Lib.hid (And.intro g0 k0)
  clear hY hxl hxb hcb' hNe hne hr hk g0 k0 hcl hcb
  go_enter Tryz.func175, Tryz.ntmps175
  go_wp2_with fail
  rw [← hz]
  clear hz
  generalize w.alloc (.cells #[.int .i64 t, .slice (some ⟨gb, ob, none⟩) n cb] 185) = w1 at *
  go_quiet (fail)
  have kq : Chg [] w1 (w1.drewN nq) := (Chg.refl [] w1).drewN nq
  have z1 : (w1.drewN nq).cell? ⟨z, 1, none⟩ = some (.slice (some ⟨gb, ob, none⟩) n cb) := cell_is (kq.heap HG.out.1 (by simp)) 1 rfl
  generalize w1.drewN nq = w2 at *
  have H2 := Lib.hid (And.intro (kq.heap HG.out.1 (by simp)) (HG.out.2.then kq))
  clear kq HG y2 z0
  go_wp2_with fail
  go_loopw [5] (fun iv wr => ∃ j : Nat, iv = .int .i64 (j + 1 : Nat) ∧ j + 1 ≤ n ∧ Chg [] w2 wr) (fun iv _ => n - (intOf iv).toNat)
  case atStart => exact ⟨0, rfl, h0, Chg.refl _ _⟩
  case round =>
    obtain ⟨j, rfl, hj, kr⟩ := hrel
    have z1r : wr.cell? ⟨z, 1, none⟩ = some (.slice (some ⟨gb, ob, none⟩) n cb) := cell_is (kr.heap H2.out.1 (by simp)) 1 rfl
    by_cases hlt : j + 1 < n
    · have hlti : ((j + 1 : Nat) : Int) < n := by omega
      have hj1 : j + 1 < P.length := by have := HH.out.2.2.2.2.1; omega
      have kw := H2.out.2.then kr
      have d0 := kw.cell (HH.out.2.2.1 j (by omega)).1 (by simp)
      have d1 := kw.cell (HH.out.2.2.1 (j + 1) hj1).1 (by simp)
      have hlt2 : P[j].1 < P[j + 1].1 := List.pairwise_iff_getElem.1 HH.out.2.2.2.2.2.1 j (j + 1) (by omega) hj1 (by omega)
      generalize P[j].1 = x at *
      generalize P[j + 1].1 = y at *
      have hle : decide (y ≤ x) = false := decide_eq_false (by omega)
      have HK := Lib.hid kr
      clear kr kw
      go_wp2_with fail
      go_quiet (fail)
      go_wp2_with fail
      go_roundw
      case rel => exact ⟨j + 1, by go_num, hlt, HK.out.drewN nq⟩
      case measure => simp [intOf]; omega
    · have hjn : n = j + 1 := by omega
      subst hjn
      have HK := Lib.hid kr
      clear kr
      go_wp2_with fail
      go_loopw [6] (fun iv wx => ∃ i : Nat, iv = .int .i64 i ∧ i ≤ j + 1 ∧ Chg [] w2 wx) (fun iv _ => j + 1 - (intOf iv).toNat)
      case atStart => exact ⟨0, rfl, Nat.zero_le _, HK.out⟩
      case round =>
        obtain ⟨i, rfl, hi, kr⟩ := hrel
        have z1r : wr.cell? ⟨z, 1, none⟩ = some (.slice (some ⟨gb, ob, none⟩) (j + 1) cb) := cell_is (kr.heap H2.out.1 (by simp)) 1 rfl
        by_cases hlt : i < j + 1
        · have hlti : (i : Int) < (j + 1 : Nat) := by omega
          have hil : i < P.length := by have := HH.out.2.2.2.2.1; omega
          have kw := H2.out.2.then kr
          have d0 := kw.cell (HH.out.2.2.1 i hil).1 (by simp)
          have y0 : wr.cell? ⟨Y, 0, none⟩ = some (.int .i64 258) := cell_is (kw.heap HH.out.1 (by simp)) 0 rfl
          have hkk := HH.out.2.2.2.2.2.2.1 _ (List.getElem_mem hil)
          generalize P[i].1 = x at *
          have e1 : decide (x < 0) = false := decide_eq_false (by omega)
          have e2 : decide (258 ≤ x) = false := decide_eq_false (by omega)
          have HK := Lib.hid kr
          clear kr kw hkk
          go_wp2_with fail
          go_quiet (fail)
          go_wp2_with fail
          go_roundw
          case rel => exact ⟨i + 1, by go_num, hlt, HK.out.drewN nq⟩
          case measure => simp [intOf]; omega
        · obtain rfl : i = j + 1 := by omega
          have HK := Lib.hid kr
          clear kr
          go_wp2_with fail
          go_loopw [7] (fun iv wx => ∃ i : Nat, iv = .int .i64 i ∧ i ≤ j + 1 ∧ Chg [] w2 wx) (fun iv _ => j + 1 - (intOf iv).toNat)
          case atStart => exact ⟨0, rfl, Nat.zero_le _, HK.out⟩
          case round =>
            obtain ⟨i, rfl, hi, kr⟩ := hrel
            have z1r : wr.cell? ⟨z, 1, none⟩ = some (.slice (some ⟨gb, ob, none⟩) (j + 1) cb) := cell_is (kr.heap H2.out.1 (by simp)) 1 rfl
            by_cases hlt : i < j + 1
            · have hlti : (i : Int) < (j + 1 : Nat) := by omega
              have hil : i < P.length := by have := HH.out.2.2.2.2.1; omega
              have kw := H2.out.2.then kr
              obtain ⟨gd, od, cd, d1, -⟩ := (HH.out.2.2.1 i hil).2
              have d1 := kw.cell d1 (by simp)
              have HK := Lib.hid kr
              clear kr kw
              go_wp2_with fail
              go_roundw
              case rel => exact ⟨i + 1, by go_num, hlt, HK.out⟩
              case measure => simp [intOf]; omega
            · obtain rfl : i = j + 1 := by omega
              generalize hjn : j + 1 = n at *
              clear hjn h0 hn0 hlt
              have HB := Lib.hid (And.intro (H2.out.2.then kr) (kr.heap H2.out.1 (by simp)))
              clear kr z1
              generalize wr = wB at *
              have hzB := Nat.le_refl wB.heap.size
              go_wp2_with fail
              clear z1r
              go_loopw [8, 9, 10] (fun ov kv iv wx => ∃ (i k : Nat) (out : List (Int × Int × List UInt8)) (vs : List (Int × Int × Value)), iv = .int .i64 i ∧ kv = .int .i64 k ∧ i ≤ N + 1 ∧ k ≤ n ∧ wx.ownsRow wB.heap.size 259 3 ov vs.length (veCells vs) ∧ VeV wx vs out ∧ (i ≤ N → out ++ mergeR t (L.drop i) (P.drop k) = mergeR t L P) ∧ (i = N + 1 → out = mergeR t L P) ∧ Chg [] wB wx) (fun _ _ iv _ => N + 1 - (intOf iv).toNat)
              case atStart => exact ⟨0, 0, [], [], rfl, rfl, by omega, Nat.zero_le _, World.ownsRow_nil _ _ _ _, VeV.nil _, fun _ => rfl, (fun h => by omega), Chg.refl _ _⟩
              case round =>
                obtain ⟨i, k, out, vs, rfl, rfl, hi, hk, ho, hv, hm, he, kr⟩ := hrel
                have y1 : wr.cell? ⟨Y, 1, none⟩ = some (.slice pl N cl) := cell_is ((HB.out.1.then kr).heap HH.out.1 (by simp)) 1 rfl
                by_cases hiN : i ≤ N
                · have hiNi : (i : Int) ≤ N := by omega
                  have HR := Lib.hid (And.intro ho (And.intro hv (And.intro (hm hiN) kr)))
                  clear ho hv hm he kr
                  go_wp2_with fail
                  clear y1
                  go_loopw [8, 9] (fun ov kv wx => ∃ (k : Nat) (out : List (Int × Int × List UInt8)) (vs : List (Int × Int × Value)), kv = .int .i64 k ∧ k ≤ n ∧ wx.ownsRow wB.heap.size 259 3 ov vs.length (veCells vs) ∧ VeV wx vs out ∧ out ++ mergeR t (L.drop i) (P.drop k) = mergeR t L P ∧ Chg [] wB wx) (fun _ kv _ => n - (intOf kv).toNat)
                  case atStart => exact ⟨k, out, vs, rfl, hk, HR.out⟩
                  case round =>
                    clear HR hk
                    obtain ⟨k, out, vs, rfl, hk, ho, hv, hm, kr⟩ := hrel
                    have kw := HB.out.1.then kr
                    have y1 : wr.cell? ⟨Y, 1, none⟩ = some (.slice pl N cl) := cell_is (kw.heap HH.out.1 (by simp)) 1 rfl
                    have z1r : wr.cell? ⟨z, 1, none⟩ = some (.slice (some ⟨gb, ob, none⟩) n cb) := cell_is (kr.heap HB.out.2 (by simp)) 1 rfl
                    have z0r : wr.cell? ⟨z, 0, none⟩ = some (.int .i64 t) := cell_is (kr.heap HB.out.2 (by simp)) 0 rfl
                    have hvl : vs.length ≤ 100016 := by
                      have e1 := congrArg List.length hm
                      rw [List.length_append, mergeR_len, mergeR_len] at e1
                      have := hv.1
                      have := HH.out.2.2.2.1
                      have := HH.out.2.2.2.2.1
                      omega
                    obtain ⟨m, hmv⟩ : ∃ m, m = vs.length := ⟨_, rfl⟩
                    rw [← hmv] at ho hvl
                    obtain ⟨pv, cv, rfl, -⟩ := own_form ho
                    have HR := Lib.hid (And.intro ho (And.intro hv (And.intro hm (And.intro kr hmv))))
                    have HKw := Lib.hid kw
                    clear ho hv hm kr hmv kw
                    by_cases hkn : k < n
                    · have hkni : (k : Int) < n := by omega
                      have hkP : k < P.length := by have := HH.out.2.2.2.2.1; omega
                      have d0 := HKw.out.cell (HH.out.2.2.1 k hkP).1 (by simp)
                      obtain ⟨gd, od, cd, d1, hDk⟩ := (HH.out.2.2.1 k hkP).2
                      have d1 := HKw.out.cell d1 (by simp)
                      have hdp : P.drop k = P[k] :: P.drop (k + 1) := List.drop_eq_getElem_cons hkP
                      obtain ⟨x, dx, hpx⟩ : ∃ x dx, P[k] = (x, dx) := ⟨_, _, rfl⟩
                      rw [hpx] at d0 hDk hdp
                      simp only at d0 hDk
                      have HP9 := Lib.hid (And.intro hdp (hDk.keep HKw.out))
                      clear hDk hdp hpx
                      by_cases hiE : i = N
                      · have hdn : L.drop i = [] := List.drop_eq_nil_of_le (by have := HH.out.2.2.2.1; omega)
                        have HDn := Lib.hid hdn
                        clear hdn
                        subst hiE
                        go_wp2_with fail
                        go_quiet (fail)
                        have kq : Chg [] wr (wr.drewN nq) := (Chg.refl [] wr).drewN nq
                        have HQ := Lib.hid kq
                        have d0 := kq.cell d0 (by simp)
                        have d1 := kq.cell d1 (by simp)
                        have z0r := kq.cell z0r (by simp)
                        have z1r := kq.cell z1r (by simp)
                        have hD4 := HP9.out.2.keep kq
                        have hO4 : (wr.drewN nq).ownsRow wB.heap.size 259 3 (.slice pv m cv) m (veCells vs) := own_kp HR.out.1 kq (fun g hg hm => by cases hm)
                        have hV4 := HR.out.2.1.keep kq
                        have hB4 : Chg [] wB (wr.drewN nq) := HR.out.2.2.2.1.then kq
                        clear kq
                        generalize wr.drewN nq = w4 at *
                        have hz5 : (w4.alloc (.cells #[] 5)).drew.heap[w4.heap.size]? = some (.cells #[] 5 (0, 0)) := heap_new w4 _
                        have ka : Chg [] w4 (w4.alloc (.cells #[] 5)).drew := ((Chg.refl [] w4).then_alloc _).drew
                        obtain ⟨v6, w6, hrun, k6, hd6⟩ := run_copy40 _ 47 hz5 (hD4.keep ka)
                        have hK6 : Chg [] w4 w6 := ka.trans k6 (fun x hx hlt => by rw [List.mem_singleton] at hx; omega)
                        obtain ⟨g6, o6, c6, rfl, hd6⟩ := hd6
                        have hD6 : DatX w6 (.slice (some ⟨g6, o6, none⟩) 40 c6) dx := ⟨g6, o6, c6, rfl, hd6⟩
                        have d06 := hK6.cell d0 (by simp)
                        have z06 := hK6.cell z0r (by simp)
                        have z16 := hK6.cell z1r (by simp)
                        have d16 := hK6.cell d1 (by simp)
                        have d0d : w4.drew.cell? ⟨gb, ob + k * 2, none⟩ = some (.int .i64 x) := d0
                        have d1d : w4.drew.cell? ⟨gb, ob + k * 2 + 1, none⟩ = some (.slice (some ⟨gd, od, none⟩) 40 cd) := d1
                        have z0d : w4.drew.cell? ⟨z, 0, none⟩ = some (.int .i64 t) := z0r
                        have z1d : w4.drew.cell? ⟨z, 1, none⟩ = some (.slice (some ⟨gb, ob, none⟩) n cb) := z1r
                        have d0a : ∀ o, (w4.alloc o).cell? ⟨gb, ob + k * 2, none⟩ = some (.int .i64 x) := fun o => (Chg.alloc (S := []) w4 o).cell d0 (by simp)
                        have d1a : ∀ o, (w4.alloc o).cell? ⟨gb, ob + k * 2 + 1, none⟩ = some (.slice (some ⟨gd, od, none⟩) 40 cd) := fun o => (Chg.alloc (S := []) w4 o).cell d1 (by simp)
                        have z0a : ∀ o, (w4.alloc o).cell? ⟨z, 0, none⟩ = some (.int .i64 t) := fun o => (Chg.alloc (S := []) w4 o).cell z0r (by simp)
                        have z1a : ∀ o, (w4.alloc o).cell? ⟨z, 1, none⟩ = some (.slice (some ⟨gb, ob, none⟩) n cb) := fun o => (Chg.alloc (S := []) w4 o).cell z1r (by simp)
                        obtain ⟨ii, hi0, hz0, hz1, hz2⟩ := info_parts infVe
                        obtain ⟨E, hE⟩ : ∃ E : Array Value, E = #[.int .i64 x, .int .i64 t, .slice (some ⟨g6, o6, none⟩) 40 c6] := ⟨_, rfl⟩
                        have hnew := heap_new w6 (.cells E 259)
                        have hal : ∀ j u, E.toList[j]? = some u → (w6.alloc (.cells E 259)).cell? ((⟨w6.heap.size, 0, none⟩ : Addr).add j) = some u := fun j u hu => by
                          rw [add_lit, Nat.zero_add]
                          exact cell_is hnew j (by simpa using hu)
                        have hO6 := own_kp hO4 hK6 (fun g hg hm => by cases hm)
                        have hB6 := hB4.then hK6
                        obtain ⟨v7, w7, hrun7, ho7, hg7, -, hb7⟩ := run_append_own_at (P := Tryz.prog) (w6.alloc (.cells E 259)) wB.heap.size 245 245 259 ii _ 3 40 tyVe hi0 hz0 hz1 hz2 rfl (by decide) (.slice pv m cv) m (veCells vs) (hO6.alloc _) ⟨w6.heap.size, 0, none⟩ 1 1 E.toList (by rw [hE]; rfl) hal (by rw [hE]; simp [Value.oneCell']) (by unfold maxLen; omega) (by omega) (by have := hB6.size; have := (Chg.alloc (S := []) w6 (.cells E 259)).size; omega)
                        have kb7 : Chg (Value.slice pv m cv).ownBlock.toList (w6.alloc (.cells E 259)) w7 := Chg.own hg7 (fun g hg _ => by simp [hg])
                        have kE : Chg [] w6 (w6.alloc (.cells E 259)) := Chg.alloc w6 _
                        have z0E := kE.cell z06 (by simp)
                        have z1E := kE.cell z16 (by simp)
                        have d0E := kE.cell d06 (by simp)
                        have d1E := kE.cell d16 (by simp)
                        have nb : ∀ {g : Nat}, g < wB.heap.size → g ∉ (Value.slice pv m cv).ownBlock.toList := fun hg hm => by have := (own_elem hO6 (show (Value.slice pv m cv).ownBlock = some _ by simpa using hm)).1; omega
                        have hzl := lt_cell (cell_is (w := wB) HB.out.2 0 rfl : wB.cell? ⟨z, 0, none⟩ = some (.int .i64 t))
                        have hgl := lt_cell (HB.out.1.cell (HH.out.2.2.1 k hkP).1 (by simp))
                        have z07 := kb7.cell z0E (nb hzl)
                        have z17 := kb7.cell z1E (nb hzl)
                        have d07 := kb7.cell d0E (nb hgl)
                        have d17 := kb7.cell d1E (nb hgl)
                        have av7 : Av (w6.alloc (.cells E 259)) (Value.slice pv m cv).ownBlock.toList [5] := fun x hx cs t fr hh => by
                          obtain ⟨-, cs', hh'⟩ := own_elem (own_kp hO6 kE (fun g hg hm => by cases hm)) (show (Value.slice pv m cv).ownBlock = some x by simpa using hx)
                          rw [hh] at hh'
                          cases hh'
                          decide
                        have hv7 : VeV w7 (vs ++ [(x, t, .slice (some ⟨g6, o6, none⟩) 40 c6)]) (out ++ [(x, t, dx)]) := (((hV4.keep hK6).keep kE).keepA kb7 av7).snoc ((hD6.keep kE).keepA kb7 av7)
                        have hB7 : Chg [] wB w7 := (hB6.then kE).trans kb7 (fun y hy hlt => by
                          have := (own_elem (own_kp hO6 kE (fun g hg hm => by cases hm)) (show (Value.slice pv m cv).ownBlock = some y by simpa using hy)).1
                          omega)
                        have ho7' : w7.ownsRow wB.heap.size 259 3 v7 (m + 1) (veCells (vs ++ [(x, t, .slice (some ⟨g6, o6, none⟩) 40 c6)])) := by rw [veCells_app]; rw [hE] at ho7; exact ho7
                        have H7 := Lib.hid (And.intro ho7' (And.intro hv7 hB7))
                        clear hal hnew ho7 ho7' hb7 hg7 kb7 kE av7 hv7 hB7 hO6 hB6 hO4 hV4 hB4 hD4 hD6 hd6 ka hz5 k6 hK6
                        subst hE
                        go_upto_region 26 with fail
                        go_cut [8] from 130 to 150 (fun ov wx => ov = v7 ∧ wx = w7)
                        case first =>
                          go_region_held3 (fun wx => wx.cell? ⟨z, 0, none⟩ = some (.int .i64 t) ∧ wx.cell? ⟨z, 1, none⟩ = some (.slice (some ⟨gb, ob, none⟩) n cb) ∧ wx.cell? ⟨gb, ob + k * 2, none⟩ = some (.int .i64 x) ∧ wx.cell? ⟨gb, ob + k * 2 + 1, none⟩ = some (.slice (some ⟨gd, od, none⟩) 40 cd))
                            (first
                              | (exact ⟨z0d, z1d, d0d, d1d⟩)
                              | (exact ⟨z0a _, z1a _, d0a _, d1a _⟩)
                              | (exact ⟨z06, z16, d06, d16⟩)
                              | (exact ⟨z0E, z1E, d0E, d1E⟩)
                              | (exact ⟨z07, z17, d07, d17⟩))
                            (first
                              | (refine step_append_run rfl (.tmp 139) (.tmp 145) 47 47 rfl _ _ rfl rfl _ w6 hrun ?_)
                              | (refine step_append_run rfl (.tmp 130) (.tmp 148) 245 245 rfl _ _ rfl rfl _ w7 hrun7 ?_))
                          all_goals
                            go_wp2_with fail
                            go_meet
                            exact ⟨rfl, rfl⟩
                        case rest =>
                          obtain ⟨rfl, rfl⟩ := hcut
                          go_wp2_with fail
                          go_roundw
                          case rel =>
                            refine ⟨k + 1, _, _, by go_num, hkn, ?_, H7.out.2.1, ?_, H7.out.2.2⟩
                            · have e := H7.out.1
                              have e9 := HR.out.2.2.2.2
                              rw [List.length_append, ← e9]
                              exact e
                            · rw [← HR.out.2.2.1, HP9.out.1, HDn.out, mergeR_nil]
                              simp
                          case measure => simp [intOf]; omega
                      · have hiL : i < L.length := by have := HH.out.2.2.2.1; omega
                        have hiq : ((i : Int) == N) = false := beq_eq_false_iff_ne.2 (by omega)
                        have hiq2 : decide ((i : Int) = N) = false := decide_eq_false (by omega)
                        obtain ⟨gl, ol, ul, rfl, -, l0, l1, l2, hDl⟩ := HH.out.2.1 i hiL
                        obtain ⟨g9, o9, c9, rfl, hDl⟩ := hDl
                        have hDl : DatX w (.slice (some ⟨g9, o9, none⟩) 40 c9) L[i].2.2 := ⟨g9, o9, c9, rfl, hDl⟩
                        have hdl : L.drop i = L[i] :: L.drop (i + 1) := List.drop_eq_getElem_cons hiL
                        obtain ⟨a9, t9, d9, hv9⟩ : ∃ a9 t9 d9, L[i] = (a9, t9, d9) := ⟨_, _, _, rfl⟩
                        rw [hv9] at l0 l1 hDl hdl
                        simp only at l0 l1 hDl
                        have l0 := HKw.out.cell l0 (by simp)
                        have l1 := HKw.out.cell l1 (by simp)
                        have l2 := HKw.out.cell l2 (by simp)
                        have HL9 := Lib.hid (And.intro hdl (hDl.keep HKw.out))
                        clear hDl hdl hv9
                        by_cases hxa : x < a9
                        · have hxd : decide (x < a9) = true := decide_eq_true hxa
                          have HXA := Lib.hid (show (x, dx).1 < (a9, t9, d9).1 from hxa)
                          go_wp2_with fail
                          go_quiet (fail)
                          have kq : Chg [] wr (wr.drewN nq) := (Chg.refl [] wr).drewN nq
                          have HQ := Lib.hid kq
                          have d0 := kq.cell d0 (by simp)
                          have d1 := kq.cell d1 (by simp)
                          have z0r := kq.cell z0r (by simp)
                          have z1r := kq.cell z1r (by simp)
                          have hD4 := HP9.out.2.keep kq
                          have hO4 : (wr.drewN nq).ownsRow wB.heap.size 259 3 (.slice pv m cv) m (veCells vs) := own_kp HR.out.1 kq (fun g hg hm => by cases hm)
                          have hV4 := HR.out.2.1.keep kq
                          have hB4 : Chg [] wB (wr.drewN nq) := HR.out.2.2.2.1.then kq
                          clear kq
                          generalize wr.drewN nq = w4 at *
                          have hz5 : (w4.alloc (.cells #[] 5)).drew.heap[w4.heap.size]? = some (.cells #[] 5 (0, 0)) := heap_new w4 _
                          have ka : Chg [] w4 (w4.alloc (.cells #[] 5)).drew := ((Chg.refl [] w4).then_alloc _).drew
                          obtain ⟨v6, w6, hrun, k6, hd6⟩ := run_copy40 _ 47 hz5 (hD4.keep ka)
                          have hK6 : Chg [] w4 w6 := ka.trans k6 (fun x hx hlt => by rw [List.mem_singleton] at hx; omega)
                          obtain ⟨g6, o6, c6, rfl, hd6⟩ := hd6
                          have hD6 : DatX w6 (.slice (some ⟨g6, o6, none⟩) 40 c6) dx := ⟨g6, o6, c6, rfl, hd6⟩
                          have d06 := hK6.cell d0 (by simp)
                          have z06 := hK6.cell z0r (by simp)
                          have z16 := hK6.cell z1r (by simp)
                          have d16 := hK6.cell d1 (by simp)
                          have d0d : w4.drew.cell? ⟨gb, ob + k * 2, none⟩ = some (.int .i64 x) := d0
                          have d1d : w4.drew.cell? ⟨gb, ob + k * 2 + 1, none⟩ = some (.slice (some ⟨gd, od, none⟩) 40 cd) := d1
                          have z0d : w4.drew.cell? ⟨z, 0, none⟩ = some (.int .i64 t) := z0r
                          have z1d : w4.drew.cell? ⟨z, 1, none⟩ = some (.slice (some ⟨gb, ob, none⟩) n cb) := z1r
                          have d0a : ∀ o, (w4.alloc o).cell? ⟨gb, ob + k * 2, none⟩ = some (.int .i64 x) := fun o => (Chg.alloc (S := []) w4 o).cell d0 (by simp)
                          have d1a : ∀ o, (w4.alloc o).cell? ⟨gb, ob + k * 2 + 1, none⟩ = some (.slice (some ⟨gd, od, none⟩) 40 cd) := fun o => (Chg.alloc (S := []) w4 o).cell d1 (by simp)
                          have z0a : ∀ o, (w4.alloc o).cell? ⟨z, 0, none⟩ = some (.int .i64 t) := fun o => (Chg.alloc (S := []) w4 o).cell z0r (by simp)
                          have z1a : ∀ o, (w4.alloc o).cell? ⟨z, 1, none⟩ = some (.slice (some ⟨gb, ob, none⟩) n cb) := fun o => (Chg.alloc (S := []) w4 o).cell z1r (by simp)
                          obtain ⟨ii, hi0, hz0, hz1, hz2⟩ := info_parts infVe
                          obtain ⟨E, hE⟩ : ∃ E : Array Value, E = #[.int .i64 x, .int .i64 t, .slice (some ⟨g6, o6, none⟩) 40 c6] := ⟨_, rfl⟩
                          have hnew := heap_new w6 (.cells E 259)
                          have hal : ∀ j u, E.toList[j]? = some u → (w6.alloc (.cells E 259)).cell? ((⟨w6.heap.size, 0, none⟩ : Addr).add j) = some u := fun j u hu => by
                            rw [add_lit, Nat.zero_add]
                            exact cell_is hnew j (by simpa using hu)
                          have hO6 := own_kp hO4 hK6 (fun g hg hm => by cases hm)
                          have hB6 := hB4.then hK6
                          obtain ⟨v7, w7, hrun7, ho7, hg7, -, hb7⟩ := run_append_own_at (P := Tryz.prog) (w6.alloc (.cells E 259)) wB.heap.size 245 245 259 ii _ 3 40 tyVe hi0 hz0 hz1 hz2 rfl (by decide) (.slice pv m cv) m (veCells vs) (hO6.alloc _) ⟨w6.heap.size, 0, none⟩ 1 1 E.toList (by rw [hE]; rfl) hal (by rw [hE]; simp [Value.oneCell']) (by unfold maxLen; omega) (by omega) (by have := hB6.size; have := (Chg.alloc (S := []) w6 (.cells E 259)).size; omega)
                          have kb7 : Chg (Value.slice pv m cv).ownBlock.toList (w6.alloc (.cells E 259)) w7 := Chg.own hg7 (fun g hg _ => by simp [hg])
                          have kE : Chg [] w6 (w6.alloc (.cells E 259)) := Chg.alloc w6 _
                          have z0E := kE.cell z06 (by simp)
                          have z1E := kE.cell z16 (by simp)
                          have d0E := kE.cell d06 (by simp)
                          have d1E := kE.cell d16 (by simp)
                          have nb : ∀ {g : Nat}, g < wB.heap.size → g ∉ (Value.slice pv m cv).ownBlock.toList := fun hg hm => by have := (own_elem hO6 (show (Value.slice pv m cv).ownBlock = some _ by simpa using hm)).1; omega
                          have hzl := lt_cell (cell_is (w := wB) HB.out.2 0 rfl : wB.cell? ⟨z, 0, none⟩ = some (.int .i64 t))
                          have hgl := lt_cell (HB.out.1.cell (HH.out.2.2.1 k hkP).1 (by simp))
                          have z07 := kb7.cell z0E (nb hzl)
                          have z17 := kb7.cell z1E (nb hzl)
                          have d07 := kb7.cell d0E (nb hgl)
                          have d17 := kb7.cell d1E (nb hgl)
                          have av7 : Av (w6.alloc (.cells E 259)) (Value.slice pv m cv).ownBlock.toList [5] := fun x hx cs t fr hh => by
                            obtain ⟨-, cs', hh'⟩ := own_elem (own_kp hO6 kE (fun g hg hm => by cases hm)) (show (Value.slice pv m cv).ownBlock = some x by simpa using hx)
                            rw [hh] at hh'
                            cases hh'
                            decide
                          have hv7 : VeV w7 (vs ++ [(x, t, .slice (some ⟨g6, o6, none⟩) 40 c6)]) (out ++ [(x, t, dx)]) := (((hV4.keep hK6).keep kE).keepA kb7 av7).snoc ((hD6.keep kE).keepA kb7 av7)
                          have hB7 : Chg [] wB w7 := (hB6.then kE).trans kb7 (fun y hy hlt => by
                            have := (own_elem (own_kp hO6 kE (fun g hg hm => by cases hm)) (show (Value.slice pv m cv).ownBlock = some y by simpa using hy)).1
                            omega)
                          have ho7' : w7.ownsRow wB.heap.size 259 3 v7 (m + 1) (veCells (vs ++ [(x, t, .slice (some ⟨g6, o6, none⟩) 40 c6)])) := by rw [veCells_app]; rw [hE] at ho7; exact ho7
                          have H7 := Lib.hid (And.intro ho7' (And.intro hv7 hB7))
                          clear hal hnew ho7 ho7' hb7 hg7 kb7 kE av7 hv7 hB7 hO6 hB6 hO4 hV4 hB4 hD4 hD6 hd6 ka hz5 k6 hK6
                          subst hE
                          go_upto_region 26 with fail
                          go_cut [8] from 130 to 150 (fun ov wx => ov = v7 ∧ wx = w7)
                          case first =>
                            go_region_held3 (fun wx => wx.cell? ⟨z, 0, none⟩ = some (.int .i64 t) ∧ wx.cell? ⟨z, 1, none⟩ = some (.slice (some ⟨gb, ob, none⟩) n cb) ∧ wx.cell? ⟨gb, ob + k * 2, none⟩ = some (.int .i64 x) ∧ wx.cell? ⟨gb, ob + k * 2 + 1, none⟩ = some (.slice (some ⟨gd, od, none⟩) 40 cd))
                              (first
                                | (exact ⟨z0d, z1d, d0d, d1d⟩)
                                | (exact ⟨z0a _, z1a _, d0a _, d1a _⟩)
                                | (exact ⟨z06, z16, d06, d16⟩)
                                | (exact ⟨z0E, z1E, d0E, d1E⟩)
                                | (exact ⟨z07, z17, d07, d17⟩))
                              (first
                                | (refine step_append_run rfl (.tmp 139) (.tmp 145) 47 47 rfl _ _ rfl rfl _ w6 hrun ?_)
                                | (refine step_append_run rfl (.tmp 130) (.tmp 148) 245 245 rfl _ _ rfl rfl _ w7 hrun7 ?_))
                            all_goals
                              go_wp2_with fail
                              go_meet
                              exact ⟨rfl, rfl⟩
                          case rest =>
                            obtain ⟨rfl, rfl⟩ := hcut
                            go_wp2_with fail
                            go_roundw
                            case rel =>
                              refine ⟨k + 1, _, _, by go_num, hkn, ?_, H7.out.2.1, ?_, H7.out.2.2⟩
                              · have e := H7.out.1
                                have e9 := HR.out.2.2.2.2
                                rw [List.length_append, ← e9]
                                exact e
                              · rw [← HR.out.2.2.1, HP9.out.1, HL9.out.1, mergeR_lt t (v := (a9, t9, d9)) (p := (x, dx)) HXA.out]
                                simp
                            case measure => simp [intOf]; omega
                        · have hxd : decide (x < a9) = false := decide_eq_false hxa
                          have HXA := Lib.hid (show ¬ (x, dx).1 < (a9, t9, d9).1 from hxa)
                          have hiNl : (i : Int) < N := by omega
                          go_wp2_with fail
                          go_quiet (fail)
                          have kq : Chg [] wr (wr.drewN nq) := (Chg.refl [] wr).drewN nq
                          have HQ := Lib.hid kq
                          have y1 := kq.cell y1 (by simp)
                          have l0 := kq.cell l0 (by simp)
                          have l1 := kq.cell l1 (by simp)
                          have l2 := kq.cell l2 (by simp)
                          have HO4 : Hid ((wr.drewN nq).ownsRow wB.heap.size 259 3 (.slice pv m cv) m (veCells vs)) := Lib.hid (own_kp HR.out.1 kq (fun g hg hm => by cases hm))
                          have hB4 : Chg [] wB (wr.drewN nq) := HR.out.2.2.2.1.then kq
                          have HB4 := Lib.hid hB4
                          have hz4 : wB.heap.size ≤ (wr.drewN nq).heap.size := hB4.size
                          clear kq hB4
                          generalize wr.drewN nq = w4 at *
                          go_wp2_with (at_builtin; refine wpList_append_lit rfl (.tmp 159) (.tmp 167) 245 259 rfl tyVe infVe rfl (by decide) wB.heap.size w4 [.int .i64 a9, .int .i64 t9, .slice (some ⟨g9, o9, none⟩) 40 c9] 1 rfl (.slice pv m cv) m (veCells vs) rfl HO4.out (by omega) (by decide) hz4 (k := 0) rfl (by simp [Value.oneCell']) rfl 1 rfl ?_; intro v3 w3 hap)
                          have k3 : Chg [] wB w3 := app_new HB4.out HO4.out (Nat.le_refl _) hap
                          have kb3 : Chg (Value.slice pv m cv).ownBlock.toList w4 w3 := Chg.own hap.2.2 (fun g hg _ => by simp [hg])
                          have av3 : Av w4 (Value.slice pv m cv).ownBlock.toList [5] := fun x hx cs t fr hh => by
                            obtain ⟨-, cs', hh'⟩ := own_elem HO4.out (show (Value.slice pv m cv).ownBlock = some x by simpa using hx)
                            rw [hh] at hh'
                            cases hh'
                            decide
                          have o3 : w3.ownsRow wB.heap.size 259 3 v3 (m + 1) (veCells (vs ++ [(a9, t9, .slice (some ⟨g9, o9, none⟩) 40 c9)])) := by rw [veCells_app]; exact hap.1
                          have hv3 : VeV w3 (vs ++ [(a9, t9, .slice (some ⟨g9, o9, none⟩) 40 c9)]) (out ++ [(a9, t9, d9)]) := ((HR.out.2.1.keep HQ.out).keepA kb3 av3).snoc ((HL9.out.2.keep HQ.out).keepA kb3 av3)
                          have H3 := Lib.hid (And.intro o3 (And.intro hv3 k3))
                          clear hap k3 kb3 av3 o3 hv3
                          go_wp2_with fail
                          go_roundw
                          case rel =>
                            refine ⟨i + 1, _, _, _, by go_num, rfl, by omega, hk, ?_, H3.out.2.1, fun _ => ?_, (fun h => by omega), H3.out.2.2⟩
                            · have e := H3.out.1
                              have e9 := HR.out.2.2.2.2
                              rw [List.length_append, ← e9]
                              exact e
                            · rw [← HR.out.2.2.1, HL9.out.1, HP9.out.1, mergeR_ge t (v := (a9, t9, d9)) (p := (x, dx)) (by have := HXA.out; show ¬ x < a9; omega)]
                              simp
                          case measure => simp [intOf]; omega
                    · obtain rfl : k = n := by omega
                      by_cases hiE : i = N
                      · subst hiE
                        go_wp2_with fail
                        go_quiet (fail)
                        have kq : Chg [] wr (wr.drewN nq) := (Chg.refl [] wr).drewN nq
                        have HQ := Lib.hid kq
                        have y1 := kq.cell y1 (by simp)
                        clear kq
                        go_wp2_with fail
                        go_roundw
                        case rel =>
                          refine ⟨i + 1, _, out, vs, by go_num, rfl, by omega, hk, ?_, HR.out.2.1.keep HQ.out, (fun h => by omega), fun _ => ?_, HR.out.2.2.2.1.then HQ.out⟩
                          · have e9 := HR.out.2.2.2.2
                            rw [← e9]
                            exact own_kp HR.out.1 HQ.out (fun g hg hm => by cases hm)
                          · have e := HR.out.2.2.1
                            rw [List.drop_eq_nil_of_le (by have := HH.out.2.2.2.1; omega), List.drop_eq_nil_of_le (by have := HH.out.2.2.2.2.1; omega)] at e
                            simpa [mergeR] using e
                        case measure => simp [intOf]
                      · have hiL : i < L.length := by have := HH.out.2.2.2.1; omega
                        have hiNl : (i : Int) < N := by omega
                        obtain ⟨gl, ol, ul, rfl, -, l0, l1, l2, hDl⟩ := HH.out.2.1 i hiL
                        obtain ⟨g9, o9, c9, rfl, hDl⟩ := hDl
                        have hDl : DatX w (.slice (some ⟨g9, o9, none⟩) 40 c9) L[i].2.2 := ⟨g9, o9, c9, rfl, hDl⟩
                        have hdl : L.drop i = L[i] :: L.drop (i + 1) := List.drop_eq_getElem_cons hiL
                        obtain ⟨a9, t9, d9, hv9⟩ : ∃ a9 t9 d9, L[i] = (a9, t9, d9) := ⟨_, _, _, rfl⟩
                        rw [hv9] at l0 l1 hDl hdl
                        simp only at l0 l1 hDl
                        have l0 := HKw.out.cell l0 (by simp)
                        have l1 := HKw.out.cell l1 (by simp)
                        have l2 := HKw.out.cell l2 (by simp)
                        have HL9 := Lib.hid (And.intro hdl (hDl.keep HKw.out))
                        clear hDl hdl hv9
                        go_wp2_with fail
                        go_quiet (fail)
                        have kq : Chg [] wr (wr.drewN nq) := (Chg.refl [] wr).drewN nq
                        have HQ := Lib.hid kq
                        have y1 := kq.cell y1 (by simp)
                        have l0 := kq.cell l0 (by simp)
                        have l1 := kq.cell l1 (by simp)
                        have l2 := kq.cell l2 (by simp)
                        have HO4 : Hid ((wr.drewN nq).ownsRow wB.heap.size 259 3 (.slice pv m cv) m (veCells vs)) := Lib.hid (own_kp HR.out.1 kq (fun g hg hm => by cases hm))
                        have hB4 : Chg [] wB (wr.drewN nq) := HR.out.2.2.2.1.then kq
                        have HB4 := Lib.hid hB4
                        have hz4 : wB.heap.size ≤ (wr.drewN nq).heap.size := hB4.size
                        clear kq hB4
                        generalize wr.drewN nq = w4 at *
                        go_wp2_with (at_builtin; refine wpList_append_lit rfl (.tmp 159) (.tmp 167) 245 259 rfl tyVe infVe rfl (by decide) wB.heap.size w4 [.int .i64 a9, .int .i64 t9, .slice (some ⟨g9, o9, none⟩) 40 c9] 1 rfl (.slice pv m cv) m (veCells vs) rfl HO4.out (by omega) (by decide) hz4 (k := 0) rfl (by simp [Value.oneCell']) rfl 1 rfl ?_; intro v3 w3 hap)
                        have k3 : Chg [] wB w3 := app_new HB4.out HO4.out (Nat.le_refl _) hap
                        have kb3 : Chg (Value.slice pv m cv).ownBlock.toList w4 w3 := Chg.own hap.2.2 (fun g hg _ => by simp [hg])
                        have av3 : Av w4 (Value.slice pv m cv).ownBlock.toList [5] := fun x hx cs t fr hh => by
                          obtain ⟨-, cs', hh'⟩ := own_elem HO4.out (show (Value.slice pv m cv).ownBlock = some x by simpa using hx)
                          rw [hh] at hh'
                          cases hh'
                          decide
                        have o3 : w3.ownsRow wB.heap.size 259 3 v3 (m + 1) (veCells (vs ++ [(a9, t9, .slice (some ⟨g9, o9, none⟩) 40 c9)])) := by rw [veCells_app]; exact hap.1
                        have hv3 : VeV w3 (vs ++ [(a9, t9, .slice (some ⟨g9, o9, none⟩) 40 c9)]) (out ++ [(a9, t9, d9)]) := ((HR.out.2.1.keep HQ.out).keepA kb3 av3).snoc ((HL9.out.2.keep HQ.out).keepA kb3 av3)
                        have H3 := Lib.hid (And.intro o3 (And.intro hv3 k3))
                        clear hap k3 kb3 av3 o3 hv3
                        go_wp2_with fail
                        go_roundw
                        case rel =>
                          refine ⟨i + 1, _, _, _, by go_num, rfl, by omega, hk, ?_, H3.out.2.1, fun _ => ?_, (fun h => by omega), H3.out.2.2⟩
                          · have e := H3.out.1
                            have e9 := HR.out.2.2.2.2
                            rw [List.length_append, ← e9]
                            exact e
                          · rw [← HR.out.2.2.1, HL9.out.1, List.drop_eq_nil_of_le (show P.length ≤ k by have := HH.out.2.2.2.2.1; omega), mergeR_end]
                            simp
                        case measure => simp [intOf]; omega
                · have hie : i = N + 1 := by omega
                  have hUY := (HB.out.1.then kr).heap HH.out.1 (by simp)
                  have fy1 := unfrozen hUY 1
                  have hY1 := fun v => heap_set hUY 1 v rfl
                  obtain ⟨m, hmv⟩ : ∃ m, m = vs.length := ⟨_, rfl⟩
                  rw [← hmv] at ho
                  obtain ⟨pv, cv, rfl, -⟩ := own_form ho
                  have z0r : wr.cell? ⟨z, 0, none⟩ = some (.int .i64 t) := cell_is (kr.heap HB.out.2 (by simp)) 0 rfl
                  have hzY : z ≠ Y := heap_ne (kr.heap HB.out.2 (by simp)) hUY (by simp)
                  have z0s : (wr.setCell ⟨Y, 1, none⟩ (.slice pv m cv)).cell? ⟨z, 0, none⟩ = some (.int .i64 t) := (Chg.set wr Y 1 _).cell z0r (by simpa using hzY)
                  have y2s : (wr.setCell ⟨Y, 1, none⟩ (.slice pv m cv)).cell? ⟨Y, 2, none⟩ = some (.int .i64 last) := cell_is (hY1 (.slice pv m cv)) 2 rfl
                  have fy2 := unfrozen (hY1 (.slice pv m cv)) 2
                  have hF : Chg [Y] w ((wr.setCell ⟨Y, 1, none⟩ (.slice pv m cv)).setCell ⟨Y, 2, none⟩ (.int .i64 t)) ∧ RyAt ((wr.setCell ⟨Y, 1, none⟩ (.slice pv m cv)).setCell ⟨Y, 2, none⟩ (.int .i64 t)) Y (mergeR t L P) t := by
                    have k1 := Chg.set wr Y 1 (.slice pv m cv)
                    have k2 := Chg.set (wr.setCell ⟨Y, 1, none⟩ (.slice pv m cv)) Y 2 (.int .i64 t)
                    have nY : ∀ g, (Value.slice pv m cv).ownBlock = some g → g ∉ [Y] := fun g hg hm => by
                      obtain ⟨-, cs, hh⟩ := own_elem ho hg
                      rw [List.mem_singleton] at hm
                      rw [hm, hUY] at hh
                      cases hh
                    have hv2 := (hv.keepA k1 (Av.row hUY (by decide))).keepA k2 (Av.row (hY1 (.slice pv m cv)) (by decide))
                    rw [he hie] at hv2
                    refine ⟨(((HB.out.1.then kr).mono (fun x hx _ => by cases hx)).then k1).then k2, _, heap_set (hY1 (.slice pv m cv)) 2 _ rfl, VeX.own (own_kp (own_kp ho k1 nY) k2 nY) hv2 ?_⟩
                    rw [hmv, hv2.1]
                  have HF := Lib.hid hF
                  clear ho hv hm he kr hF hUY hY1 hmv
                  subst hie
                  go_wp2_with fail
                  go_ret
                  exact ⟨rfl, HF.out⟩
end Go.Proofs.YtelakcjbknbehaaGreat
namespace Go.Proofs.YtelakcjbknbehaaGreat
open Go.RowKit Go.Lib

set_option maxRecDepth 100000 in
set_option maxHeartbeats 8000000 in
theorem rdone_one (w : World) {lo G Y D V U n m cb : Nat} {a b Tv qv qhv : Value} {pb : Option Addr} {xs : List Value} {L : List (Int × Int × List UInt8)} {P : List (Int × List UInt8)} {y st tm cd num giv dn t last : Int} (h : RmS w G Y a b Tv qv qhv (n + 1 : Nat) num giv dn 1) (ha : Int1 w a (n + 1 : Nat)) (hb : Int1 w b y) (hT : w.ownsRow lo 163 1 Tv (n + 1) (xs ++ [.pointer (some ⟨D, 0, none⟩)])) (hD : RtAt w D V U st tm cd) (hn : n ≤ 100000)
    (hq : Tx1 w qv t (.slice pb m cb)) (hP : PuX w (.slice pb m cb) P) (hqh : Int1 w qhv (n + 1 : Nat)) (hY : RyAt w Y L last) (hN : L.length ≤ 100000) (h0 : 0 < P.length) (h16 : P.length ≤ 16) (ht0 : last < t) (ht1 : t ≤ 1099511627776) (hr : RiseL P) (hk : ∀ p ∈ P, 0 ≤ p.1 ∧ p.1 < 258) (hn0 : 0 ≤ num) (hn1 : num ≤ 1000000) :
    Calls Tryz.prog 105 #[.pointer (some ⟨G, 0, none⟩), .int .i64 0] w fun e w' => e = .returned (.int .i64 0) ∧ ∃ qv' qhv', RmS w' G Y (.slice none 0 0) (.slice none 0 0) Tv qv' qhv' (n + 1 : Nat) (num + 1) giv t 0 ∧ Nl qv' ∧ Nl qhv' ∧ RyAt w' Y (mergeR t L P) t ∧ Chg [G, Y, D] w w' := by
  have hwn : IntKind.i64.wrap (num + 1) = num + 1 := by rw [IntKind.wrap_i64]; omega
  obtain ⟨g, c, rfl, hc, cs, hg, e0, e1⟩ := hq
  obtain ⟨gh, ch, rfl, hch, csh, hgh, eh0, eh1⟩ := hqh
  have q0 : w.cell? ⟨g, 0, none⟩ = some (.int .i64 t) := cell_is hg 0 e0
  have q1 : w.cell? ⟨g, 1, none⟩ = some (.slice pb m cb) := cell_is hg 1 e1
  have r0 : w.cell? ⟨gh, 0, none⟩ = some (.int .i64 (n + 1 : Nat)) := cell_is hgh 0 eh0
  have c8 : w.cell? ⟨G, 8, none⟩ = some (.int .i64 1) := cell_is h 8 rfl
  have c6 : w.cell? ⟨G, 6, none⟩ = some (.slice (some ⟨g, 0, none⟩) 1 c) := cell_is h 6 rfl
  have hYh : ∃ v, w.heap[Y]? = some (.cells #[.int .i64 258, v, .int .i64 last] 247 (0, 0)) := by obtain ⟨v, hh, -⟩ := hY; exact ⟨v, hh⟩
  have HH := Lib.hid (And.intro h (And.intro ha (And.intro hb (And.intro hT (And.intro hD (And.intro hP (And.intro hY (And.intro hYh (And.intro hg hgh)))))))))
  have HC := Lib.hid (And.intro hr hk)
  clear h ha hb hT hD hP hY hYh hg hgh hr hk e0 e1 eh0 eh1
  go_enter Tryz.func105, Tryz.ntmps105
  go_wp2_with fail
  go_loopw [5, 6] (fun iv _ wr => (iv = .int .i64 0 ∧ wr = w) ∨ (iv = .int .i64 1 ∧ RmS wr G Y (.slice none 0 0) (.slice none 0 0) Tv (.slice (some ⟨g, 0, none⟩) 1 c) (.slice (some ⟨gh, 0, none⟩) 1 ch) (n + 1 : Nat) num giv t 1 ∧ RyAt wr Y (mergeR t L P) t ∧ Chg [G, Y, D] w wr)) (fun iv _ _ => 1 - (intOf iv).toNat)
  case atStart => exact Or.inl ⟨rfl, rfl⟩
  case round =>
    rcases hrel with ⟨rfl, rfl⟩ | ⟨rfl, hm, hy, kr⟩
    · have kz : Chg [] wr (wr.alloc (.cells #[.int .i64 t, .slice pb m cb] 185)) := Chg.alloc wr _
      have z0 := heap_new wr (.cells #[.int .i64 t, .slice pb m cb] 185)
      go_wp2_with fail
      generalize hz : wr.heap.size = z at *
      generalize hw1 : wr.alloc (.cells #[.int .i64 t, .slice pb m cb] 185) = w1 at *
      have hG1 := kz.heap HH.out.1 (by simp)
      have g0 : w1.cell? ⟨G, 0, none⟩ = some (.pointer (some ⟨Y, 0, none⟩)) := cell_is hG1 0 rfl
      have b0 : w1.cell? ⟨z, 0, none⟩ = some (.int .i64 t) := cell_is z0 0 rfl
      have b1 : w1.cell? ⟨z, 1, none⟩ = some (.slice pb m cb) := cell_is z0 1 rfl
      have kd : Chg [] wr w1.drew := kz.drew
      have HA := Lib.hid (rmap_apply w1.drew (HH.out.2.2.2.2.2.2.1.keep kd) (HH.out.2.2.2.2.2.1.keep kd) hN h0 h16 ht0 ht1 HC.out.1 HC.out.2)
      have nYG : Y ≠ G := by obtain ⟨v, hh⟩ := HH.out.2.2.2.2.2.2.2.1; exact heap_ne hh HH.out.1 (by simp)
      have nYz : Y ≠ z := by obtain ⟨v, hh⟩ := HH.out.2.2.2.2.2.2.2.1; exact heap_ne (kz.heap hh (by simp)) z0 (by simp)
      have HZ := Lib.hid (And.intro kd (And.intro z0 hz))
      have HG1 := Lib.hid hG1
      clear kz z0 hw1 hG1
      go_region_held3 (fun wx => wx.cell? ⟨G, 0, none⟩ = some (.pointer (some ⟨Y, 0, none⟩)) ∧ wx.cell? ⟨z, 0, none⟩ = some (.int .i64 t) ∧ wx.cell? ⟨z, 1, none⟩ = some (.slice pb m cb))
        (first | (exact ⟨g0, b0, b1⟩) | (exact ⟨k2.cell g0 (by simpa using nYG.symm), k2.cell b0 (by simpa using nYz.symm), k2.cell b1 (by simpa using nYz.symm)⟩))
        (first | (go_at_call 175; refine HA.out.mono ?_; rintro e w2 ⟨rfl, k2, hy2⟩))
      have hG2 := k2.heap (show w1.drew.heap[G]? = _ from HG1.out) (by simpa using nYG.symm)
      have hz2 := k2.heap (show w1.drew.heap[z]? = _ from HZ.out.2.1) (by simpa using nYz.symm)
      have b0 : w2.cell? ⟨z, 0, none⟩ = some (.int .i64 t) := cell_is hz2 0 rfl
      have g11 : w2.cell? ⟨G, 11, none⟩ = some (.int .i64 dn) := cell_is hG2 11 rfl
      have f11 := unfrozen hG2 11
      have hG3 := heap_set hG2 11 (.int .i64 t) rfl
      have kS := Chg.set w2 G 11 (.int .i64 t)
      have nzG : z ≠ G := heap_ne hz2 hG2 (by simp)
      have k3 : Chg [G, Y, D] wr (w2.setCell ⟨G, 11, none⟩ (.int .i64 t)) := (((HZ.out.1.mono (fun x hx _ => by cases hx)).then (k2.mono (fun x hx _ => by rw [List.mem_singleton] at hx; simp [hx]))).then (kS.mono (fun x hx _ => by rw [List.mem_singleton] at hx; simp [hx])))
      have kGY : Chg [G, Y] wr (w2.setCell ⟨G, 11, none⟩ (.int .i64 t)) := (((HZ.out.1.mono (fun x hx _ => by cases hx)).then (k2.mono (fun x hx _ => by rw [List.mem_singleton] at hx; simp [hx]))).then (kS.mono (fun x hx _ => by rw [List.mem_singleton] at hx; simp [hx])))
      have avGY : Av wr [G, Y] [3, 163, 167, 185] := fun x hx cs t fr hh => by
        simp only [List.mem_cons, List.not_mem_nil, or_false] at hx
        rcases hx with rfl | rfl
        · rw [HH.out.1] at hh; cases hh; decide
        · obtain ⟨v, h9⟩ := HH.out.2.2.2.2.2.2.2.1; rw [h9] at hh; cases hh; decide
      have hi3 : ∀ {v : Value} {x : Int}, Int1 wr v x → Int1 (w2.setCell ⟨G, 11, none⟩ (.int .i64 t)) v x := fun hv => hv.keepT kGY (fun x hx cs fr hh => absurd (List.mem_cons_self) (avGY x hx _ _ _ hh))
      have hT3 := own_kp HH.out.2.2.2.1 kGY (fun x hx hm => by
        obtain ⟨-, cs, hh⟩ := own_elem HH.out.2.2.2.1 hx
        exact avGY x hm _ _ _ hh (by simp))
      have hD3 := kGY.heap HH.out.2.2.2.2.1 (avGY.ne HH.out.2.2.2.2.1 (by simp))
      have hqh3 := kGY.heap HH.out.2.2.2.2.2.2.2.2.2 (avGY.ne HH.out.2.2.2.2.2.2.2.2.2 (by simp))
      have hy3 : RyAt (w2.setCell ⟨G, 11, none⟩ (.int .i64 t)) Y (mergeR t L P) t := hy2.keepA kS (Av.row hG2 (by decide))
      have HE := Lib.hid (rend_last ((w2.setCell ⟨G, 11, none⟩ (.int .i64 t)).drew) (st' := 3) (tm' := t) (cd' := 0) (show RmS (w2.setCell ⟨G, 11, none⟩ (.int .i64 t)).drew G Y a b Tv _ _ (n + 1 : Nat) num giv t 1 from hG3) ((hi3 HH.out.2.1).keepT (Chg.refl [] _).drew (fun g hg => by cases hg)) ((hi3 HH.out.2.2.1).keepT (Chg.refl [] _).drew (fun g hg => by cases hg)) (show (w2.setCell ⟨G, 11, none⟩ (.int .i64 t)).drew.ownsRow lo 163 1 Tv (n + 1) _ from hT3) (show RtAt (w2.setCell ⟨G, 11, none⟩ (.int .i64 t)).drew D V U st tm cd from hD3) hn)
      have r3 : (w2.setCell ⟨G, 11, none⟩ (.int .i64 t)).cell? ⟨gh, 0, none⟩ = some (.int .i64 (n + 1 : Nat)) := by
        have e := cell_is hqh3 0 (show _ from by
          have := r0
          unfold World.cell? at this
          rw [HH.out.2.2.2.2.2.2.2.2.2] at this
          simpa using this)
        exact e
      have b3 : (w2.setCell ⟨G, 11, none⟩ (.int .i64 t)).cell? ⟨z, 0, none⟩ = some (.int .i64 t) := cell_is (kS.heap hz2 (by simpa using nzG)) 0 rfl
      have g7 : (w2.setCell ⟨G, 11, none⟩ (.int .i64 t)).cell? ⟨G, 7, none⟩ = some (.slice (some ⟨gh, 0, none⟩) 1 ch) := cell_is hG3 7 rfl
      have HN2 := Lib.hid hD3
      have hnh : gh ∉ [G, D] := fun hm => by
        simp only [List.mem_cons, List.not_mem_nil, or_false] at hm
        rcases hm with rfl | rfl
        · rw [hG3] at hqh3; cases hqh3
        · rw [hD3] at hqh3; cases hqh3
      have hz3 := kS.heap hz2 (by simpa using nzG)
      have hnz : z ∉ [G, D] := fun hm => by
        simp only [List.mem_cons, List.not_mem_nil, or_false] at hm
        rcases hm with rfl | rfl
        · exact nzG rfl
        · rw [hD3] at hz3; cases hz3
      have HN := Lib.hid (And.intro hnh hnz)
      clear hz3
      have HF3 := Lib.hid (And.intro hG3 (And.intro hy3 (And.intro k3 (And.intro hqh3 nYG))))
      go_wp2_with fail
      generalize hw3 : w2.setCell ⟨G, 11, none⟩ (.int .i64 t) = w3 at *
      clear g0 b1 hG2 hz2 hG3 kS k3 kGY avGY hi3 hT3 hD3 hqh3 hy3 hy2 HG1 HA q0 q1
      clear hw3
      obtain ⟨hd, hde⟩ : ∃ hd : Int, hd = (n + 1 : Nat) := ⟨_, rfl⟩
      rw [← hde] at r3 HE
      have HDE := Lib.hid hde
      clear hde
      go_region_held3 (fun wx => wx.cell? ⟨G, 7, none⟩ = some (.slice (some ⟨gh, 0, none⟩) 1 ch) ∧ wx.cell? ⟨gh, 0, none⟩ = some (.int .i64 hd) ∧ wx.cell? ⟨z, 0, none⟩ = some (.int .i64 t))
        (first | (exact ⟨g7, r3, b3⟩) | (exact ⟨cell_is h4 7 rfl, k4.cell (show w3.drew.cell? _ = _ from r3) HN.out.1, k4.cell (show w3.drew.cell? _ = _ from b3) HN.out.2⟩))
        (first | (go_at_call 101; refine HE.out.mono ?_; rintro e w4 ⟨rfl, h4, k4⟩))
      have avGD : Av w3.drew [G, D] [247, 5, 259] := fun x hx cs t fr hh => by
        simp only [List.mem_cons, List.not_mem_nil, or_false] at hx
        rcases hx with rfl | rfl
        · rw [show w3.drew.heap[x]? = _ from HF3.out.1] at hh; cases hh; decide
        · rw [show w3.drew.heap[x]? = _ from HN2.out] at hh; cases hh; decide
      have HF4 := Lib.hid (show RyAt w4 Y (mergeR t L P) t ∧ Chg [G, Y, D] wr w4 from ⟨(HF3.out.2.1.keep (Chg.refl [] w3).drew).keepA k4 avGD, HF3.out.2.2.1.then (((Chg.refl [G, Y, D] w3).drew).then (k4.mono (fun x hx _ => by simp only [List.mem_cons, List.not_mem_nil, or_false] at hx ⊢; rcases hx with rfl | rfl <;> simp)))⟩)
      rw [HDE.out] at h4
      have H4 := Lib.hid h4
      clear h4 k4 avGD
      go_wp2_with fail
      go_roundw
      case rel => exact Or.inr ⟨rfl, H4.out, HF4.out⟩
      case measure => simp [intOf]
    · have hm0 := hm
      have c9 : wr.cell? ⟨G, 9, none⟩ = some (.int .i64 num) := cell_is hm 9 rfl
      have c8 : wr.cell? ⟨G, 8, none⟩ = some (.int .i64 1) := cell_is hm 8 rfl
      have f9 := unfrozen hm 9
      have h1 := heap_set hm 9 (.int .i64 (num + 1)) rfl
      have k1 := Chg.set wr G 9 (.int .i64 (num + 1))
      have h1' : RmS (wr.setCell ⟨G, 9, none⟩ (.int .i64 (num + 1))) G Y (.slice none 0 0) (.slice none 0 0) Tv (.slice (some ⟨g, 0, none⟩) 1 c) (.slice (some ⟨gh, 0, none⟩) 1 ch) (n + 1 : Nat) (num + 1) giv t 1 := h1
      have HF := Lib.hid (And.intro (hy.keepA k1 (Av.row hm0 (by decide))) (kr.then (k1.mono (fun x hx _ => by rw [List.mem_singleton] at hx; simp [hx]))))
      clear hm0 hy kr k1 h1
      go_wp2_with fail
      generalize wr.setCell ⟨G, 9, none⟩ (.int .i64 (num + 1)) = w5 at *
      have HM5 := Lib.hid h1'
      have c6 : w5.cell? ⟨G, 6, none⟩ = some (.slice (some ⟨g, 0, none⟩) 1 c) := cell_is h1' 6 rfl
      have c8 : w5.cell? ⟨G, 8, none⟩ = some (.int .i64 1) := cell_is h1' 8 rfl
      have c6d : w5.drew.cell? ⟨G, 6, none⟩ = some (.slice (some ⟨g, 0, none⟩) 1 c) := c6
      have c8d : w5.drew.cell? ⟨G, 8, none⟩ = some (.int .i64 1) := c8
      have f6 := unfrozen h1' 6
      have f6d := unfrozen (show w5.drew.heap[G]? = _ from h1') 6
      have hci : (1 : Int) ≤ c := by omega
      have hchi : (1 : Int) ≤ ch := by omega
      clear h1'
      go_upto_region 14 with fail
      go_cut [] from 70 (fun wx => ∃ qv', Nl qv' ∧ RmS wx G Y (.slice none 0 0) (.slice none 0 0) Tv qv' (.slice (some ⟨gh, 0, none⟩) 1 ch) (n + 1 : Nat) (num + 1) giv t 1 ∧ Chg [G] w5 wx)
      case first =>
        go_region_law (fail)
        all_goals go_wp2_with fail
        all_goals go_meet
        all_goals exact ⟨_, ⟨_, _, rfl⟩, heap_set (show w5.drew.heap[G]? = _ from HM5.out) 6 _ rfl, ((Chg.refl [G] w5).drew).then (Chg.set _ G 6 _)⟩
      case rest =>
        obtain ⟨qv', hqv, hm6, k6⟩ := hcut
        have HF6 := Lib.hid (And.intro (HF.out.1.keepA k6 (Av.row HM5.out (by decide))) (HF.out.2.then (k6.mono (fun x hx _ => by rw [List.mem_singleton] at hx; simp [hx]))))
        have HM6 := Lib.hid (And.intro hm6 hqv)
        have c7 : wc.cell? ⟨G, 7, none⟩ = some (.slice (some ⟨gh, 0, none⟩) 1 ch) := cell_is hm6 7 rfl
        have c8 : wc.cell? ⟨G, 8, none⟩ = some (.int .i64 1) := cell_is hm6 8 rfl
        have c7d : wc.drew.cell? ⟨G, 7, none⟩ = some (.slice (some ⟨gh, 0, none⟩) 1 ch) := c7
        have c8d : wc.drew.cell? ⟨G, 8, none⟩ = some (.int .i64 1) := c8
        have f7 := unfrozen hm6 7
        have f7d := unfrozen (show wc.drew.heap[G]? = _ from hm6) 7
        clear hm6 k6 hqv HM5 HF c6 c6d f6 f6d
        go_upto_region 15 with fail
        generalize wc = w6 at *
        go_cut [] from 82 (fun wx => ∃ qh', Nl qh' ∧ RmS wx G Y (.slice none 0 0) (.slice none 0 0) Tv qv' qh' (n + 1 : Nat) (num + 1) giv t 1 ∧ Chg [G] w6 wx)
        case first =>
          go_region_law (fail)
          all_goals go_wp2_with fail
          all_goals go_meet
          all_goals exact ⟨_, ⟨_, _, rfl⟩, heap_set (show w6.drew.heap[G]? = _ from HM6.out.1) 7 _ rfl, ((Chg.refl [G] w6).drew).then (Chg.set _ G 7 _)⟩
        case rest =>
          obtain ⟨qh', hqh, hm7, k7⟩ := hcut
          have HF7 := Lib.hid (And.intro (HF6.out.1.keepA k7 (Av.row HM6.out.1 (by decide))) (HF6.out.2.then (k7.mono (fun x hx _ => by rw [List.mem_singleton] at hx; simp [hx]))))
          have c8 : wc.cell? ⟨G, 8, none⟩ = some (.int .i64 1) := cell_is hm7 8 rfl
          have f8 := unfrozen hm7 8
          have k8 := Chg.set wc G 8 (.int .i64 0)
          have HE := Lib.hid (show ∃ qv' qhv', RmS (wc.setCell ⟨G, 8, none⟩ (.int .i64 0)) G Y (.slice none 0 0) (.slice none 0 0) Tv qv' qhv' (n + 1 : Nat) (num + 1) giv t 0 ∧ Nl qv' ∧ Nl qhv' ∧ RyAt (wc.setCell ⟨G, 8, none⟩ (.int .i64 0)) Y (mergeR t L P) t ∧ Chg [G, Y, D] w (wc.setCell ⟨G, 8, none⟩ (.int .i64 0)) from
            ⟨qv', qh', heap_set hm7 8 _ rfl, HM6.out.2, hqh, HF7.out.1.keepA k8 (Av.row hm7 (by decide)), HF7.out.2.then (k8.mono (fun x hx _ => by rw [List.mem_singleton] at hx; simp [hx]))⟩)
          clear hm7 k7 hqh k8
          go_wp2_with fail
          go_ret
          exact ⟨rfl, HE.out⟩
end Go.Proofs.YtelakcjbknbehaaGreat
