/- Lemmas and walks: Walks: may a transaction be committed? Where nothing was written and nothing waits: yes. Walks: Commit of a store; the transaction that waits. Walks: the next batch, of one transaction. Walks: a batch of one transaction may be. Walks: a batch of one transaction is checked. Walks: a batch of one transaction is turned into frames. Walks: cells are got and set in an open transaction, whatever was committed before. Walks: a batch of one transaction is written into the log. Walks: a handle is closed; a transaction ends. Walks: a copy of a row of one int, and of none. Walks: puts that rise; a version more of some blocks, in plain words. -/
import Derived.StillTailTactics
import Derived.BigQuiet
import Derived.Test.YtliicpedddcfiaaGreatAd
import Derived.Test.YtliicpedddcfiaaGreatAe
import Derived.Test.YtliicpedddcfiaaGreatAf
namespace Go.Proofs.YtliicpedddcfiaaGreat
open Go.RowKit Go.Lib

/-- block M is a manager. -/
def MgrG (w : World) (M X B r : Nat) (qv : Value) (out num bas last given : Int) (rd : Bool) : Prop :=
  w.heap[M]? = some (.cells #[.pointer (some ⟨X, 0, none⟩), .pointer (some ⟨B, 0, none⟩), .map (some r), qv, .int .i64 out, .int .i64 num, .int .i64 bas, .int .i64 last, .int .i64 given, .bool rd] 184 (0, 0))
set_option maxRecDepth 100000 in
theorem waiting_none (w : World) {M X B r cq : Nat} {pq : Option Addr} {out num bas last given : Int} {rd : Bool} (h : MgrG w M X B r (.slice pq 0 cq) out num bas last given rd) : Calls Tryz.prog 93 #[.pointer (some ⟨M, 0, none⟩)] w fun e w' => e = .returned (.slice none 0 0) ∧ w = w' := by
  have m3 : w.cell? ⟨M, 3, none⟩ = some (.slice pq 0 cq) := cell_is h 3 rfl
  clear h
  go_enter Tryz.func93, Tryz.ntmps93
  go_wp2_with fail
  go_loopw [2, 4, 5, 11] (fun v _ _ i wr => i = .int .i64 0 ∧ w = wr ∧ v = .slice none 0 0) (fun _ _ _ _ _ => 0)
  case atStart => exact ⟨rfl, rfl, rfl⟩
  case round =>
    obtain ⟨rfl, rfl, rfl⟩ := hrel
    go_wp2_with fail
    go_ret
    exact ⟨rfl, rfl⟩
set_option maxRecDepth 100000 in
set_option maxHeartbeats 4000000 in
theorem may_none (w : World) {M X B r cq lo rx T W rw Q V n base : Nat} {pq : Option Addr} {out num bas last given lastv t : Int} {vs : Int → List (Int × List UInt8)} {L : List (Int × Value)} {D : Int → List UInt8}
    (h : MgrG w M X B r (.slice pq 0 cq) out num bas last given false) (hg : given < 1099511627776) (hv : VerG w lo X rx lastv [] vs) (hT : TxT w T W Q t) (hb : BufAt w W rw L) (hD : BufD w L D) (hk : ∀ x ∈ L, 0 ≤ x.1 ∧ x.1 < 258) (hl : L.length ≤ 12)
    (hV : VwT w base Q X W V t n) (hS : SpV w base V n) (hn : n ≤ 12) : Calls Tryz.prog 184 #[.pointer (some ⟨M, 0, none⟩), .pointer (some ⟨T, 0, none⟩)] w fun e w' => e = .returned (.int .i64 0) ∧ Chg [] w w' := by
  have m9 : w.cell? ⟨M, 9, none⟩ = some (.bool false) := cell_is h 9 rfl
  have m0 : w.cell? ⟨M, 0, none⟩ = some (.pointer (some ⟨X, 0, none⟩)) := cell_is h 0 rfl
  have m8 : w.cell? ⟨M, 8, none⟩ = some (.int .i64 given) := cell_is h 8 rfl
  have t3 : w.cell? ⟨T, 3, none⟩ = some (.int .i64 t) := cell_is hT 3 rfl
  have t4 : w.cell? ⟨T, 4, none⟩ = some (.pointer (some ⟨W, 0, none⟩)) := cell_is hT 4 rfl
  have t5 : w.cell? ⟨T, 5, none⟩ = some (.pointer (some ⟨Q, 0, none⟩)) := cell_is hT 5 rfl
  have kd : Chg [] w w.drew := (Chg.refl [] w).drew
  have HW := Lib.hid (waiting_none w.drew (kd.heap h (by simp)))
  have HV := Lib.hid (vset_any w.drew (hV.keep kd (Av.nil _ _)) (hS.keep0 kd) hn)
  have hS2 : ∀ wx, Chg [] w wx → wx.cell? ⟨M, 0, none⟩ = some (.pointer (some ⟨X, 0, none⟩)) ∧ wx.cell? ⟨T, 3, none⟩ = some (.int .i64 t) ∧ wx.cell? ⟨T, 4, none⟩ = some (.pointer (some ⟨W, 0, none⟩)) ∧ wx.cell? ⟨T, 5, none⟩ = some (.pointer (some ⟨Q, 0, none⟩)) :=
    fun wx k => ⟨k.cell m0 (by simp), k.cell t3 (by simp), k.cell t4 (by simp), k.cell t5 (by simp)⟩
  have HS2 := Lib.hid hS2
  have HBf := Lib.hid hb
  have HD := Lib.hid hD
  have HK := Lib.hid hk
  have HVr := Lib.hid hv
  clear h hT hb hD hk hV hS hv hS2
  go_enter Tryz.func184, Tryz.ntmps184
  go_upto_region 3 with fail
  go_region_held3 (fun wx => wx.cell? ⟨M, 0, none⟩ = some (.pointer (some ⟨X, 0, none⟩)) ∧ wx.cell? ⟨T, 3, none⟩ = some (.int .i64 t) ∧ wx.cell? ⟨T, 4, none⟩ = some (.pointer (some ⟨W, 0, none⟩)) ∧ wx.cell? ⟨T, 5, none⟩ = some (.pointer (some ⟨Q, 0, none⟩)))
    (first
      | (with_reducible exact HS2.out _ kF) | (with_reducible exact HS2.out _ k3) | (with_reducible exact HS2.out _ k2) | (exact HS2.out _ kd))
    (first
      | (go_at_call 93; refine HW.out.mono ?_; rintro e w1 ⟨rfl, rfl⟩)
      | (go_at_call 199; refine HV.out.mono ?_; rintro e w2 ⟨U, loU, rfl, k2', hU, lU⟩; have k2 := kd.then k2')
      | (go_at_call 200; refine (bset_any w2 (HBf.out.keep k2 (by simp) (by simp)) (HD.out.keep k2) HK.out hl).mono ?_; rintro e w3 ⟨U2, loU2, most, rfl, k3', hU2, lU2⟩; have k3 := k2.then k3'; have hU3 := hU.keep0 k3')
      | (go_at_call 198; refine (check_none w3 (HVr.out.keep k3) hU3 hU2 (by omega) (by omega)).mono ?_; rintro e w4 ⟨rfl, k4⟩; have kF := k3.then k4))
  all_goals
    have m84 := kF.cell m8 (by simp)
    have hng : ¬ (given ≥ 1099511627776) := by omega
    clear HW HV HS2 HBf HD HK HVr hU hU2 hU3
    go_wp2_with fail
    go_ret
    exact ⟨rfl, kF⟩
theorem own_some {w : World} {base e size n : Nat} {v : Value} {xs : List Value} (h : w.ownsRow base e size v n xs) (hn : 0 < n) : ∃ g c, v = .slice (some ⟨g, 0, none⟩) n c := by
  rcases h.2 with ⟨_, h0⟩ | ⟨g, cap, cur, rfl, _⟩
  · omega
  · exact ⟨g, cap, rfl⟩
/-- block T is a transaction that waits: its time k. -/
def TxW (w : World) (T W Q : Nat) (k t : Int) : Prop := w.heap[T]? = some (.cells #[.int .i64 2, .int .i64 k, .int .i64 0, .int .i64 t, .pointer (some ⟨W, 0, none⟩), .pointer (some ⟨Q, 0, none⟩)] 212 (0, 0))
set_option maxRecDepth 100000 in
set_option maxHeartbeats 4000000 in
theorem tcommit_one (w : World) {d : Ids} {p : Par} {cq n base loq : Nat} {pq : Option Addr} {out num bas last given : Int} {L : List (Int × Value)} {D : Int → List UInt8}
    (hN : Need w d p) (hv0 : p.Lv = []) (h : MgrG w d.M d.X d.B d.r (.slice pq 0 cq) out num bas last given false) (hg0 : 0 ≤ given) (hg : given < 1099511627776) (hq : w.ownsRow loq 3 1 (.slice pq 0 cq) 0 []) (hlq : loq ≤ w.heap.size) (hT : TxT w d.T d.W d.Q p.t) (hb : BufAt w d.W d.rw L) (hD : BufD w L D) (hk : ∀ x ∈ L, 0 ≤ x.1 ∧ x.1 < 258) (hl : L.length ≤ 12) (hl0 : 0 < L.length)
    (hV : VwT w base d.Q d.X d.W d.V p.t n) (hS : SpV w base d.V n) (hn : n ≤ 12) : Calls Tryz.prog 151 #[.pointer (some ⟨d.M, 0, none⟩), .int .i64 p.h] w fun e w' =>
    ∃ g c, e = .returned (.int .i64 0) ∧ Chg (d.M :: d.T :: (Value.slice pq 0 cq).ownBlock.toList) w w' ∧ MgrG w' d.M d.X d.B d.r (.slice (some ⟨g, 0, none⟩) 1 c) out num bas last (given + 1) false ∧ w'.ownsRow loq 3 1 (.slice (some ⟨g, 0, none⟩) 1 c) 1 [.int .i64 p.h] ∧ TxW w' d.T d.W d.Q (given + 1) p.t := by
  have HO := Lib.hid (topen_gen w hN hT)
  have t4 : w.cell? ⟨d.T, 4, none⟩ = some (.pointer (some ⟨d.W, 0, none⟩)) := cell_is hT 4 rfl
  have HLn := Lib.hid (blen_any w hb hD hk (by omega))
  have hver := hN.ver
  rw [hv0] at hver
  have HMy := Lib.hid (fun w1 (k : Chg [] w w1) => may_none w1 (k.heap h (by simp)) hg (hver.keep k) (k.heap hT (by simp)) (hb.keep k (by simp) (by simp)) (hD.keep k) hk hl (hV.keep k (Av.nil _ _)) (hS.keep0 k) hn)
  have hMT : d.M ≠ d.T := heap_ne h hT (by simp)
  have HM := Lib.hid h
  have HT := Lib.hid hT
  have HQ := Lib.hid hq
  have hl0i : ¬ (L.length : Int) = 0 := by omega
  have HL0 := Lib.hid hl0i
  clear hN hb hD hV hS hver h hT hq
  go_enter Tryz.func151, Tryz.ntmps151
  go_wp2_with fail
  refine HO.out.mono ?_
  rintro e w1 ⟨rfl, rfl⟩
  go_wp2_with fail
  refine HLn.out.mono ?_
  rintro e w1 ⟨rfl, k1⟩
  go_wp2_with fail
  refine (HMy.out w1 k1).mono ?_
  rintro e w2 ⟨rfl, k2'⟩
  have k2 := k1.then k2'
  have hM2 := k2.heap HM.out (by simp)
  have hT2 := k2.heap HT.out (by simp)
  have hq2 := ownsRow_av HQ.out k2 (Av.nil _ _)
  have hs2 := k2.size
  have m8 : w2.cell? ⟨d.M, 8, none⟩ = some (.int .i64 given) := cell_is hM2 8 rfl
  have f8 := unfrozen hM2 8
  have m3 : w2.cell? ⟨d.M, 3, none⟩ = some (.slice pq 0 cq) := cell_is hM2 3 rfl
  have f3 := unfrozen hM2 3
  have t0 : w2.cell? ⟨d.T, 0, none⟩ = some (.int .i64 1) := cell_is hT2 0 rfl
  have t1 : w2.cell? ⟨d.T, 1, none⟩ = some (.int .i64 0) := cell_is hT2 1 rfl
  have ft0 := unfrozen hT2 0
  have ft1 := unfrozen hT2 1
  have hgw : wrap64 (given + 1) = given + 1 := by unfold wrap64; omega
  have kS := ((((Chg.refl [] w2).mono (T := [d.M, d.T]) (fun x hx _ => by cases hx)).then_set (g := d.M) (fun _ => by simp) 8 (.int .i64 (given + 1))).then_set (g := d.T) (fun _ => by simp) 0 (.int .i64 2)).then_set (g := d.T) (fun _ => by simp) 1 (.int .i64 (given + 1))
  have hMS : MgrG (((w2.setCell ⟨d.M, 8, none⟩ (.int .i64 (given + 1))).setCell ⟨d.T, 0, none⟩ (.int .i64 2)).setCell ⟨d.T, 1, none⟩ (.int .i64 (given + 1))) d.M d.X d.B d.r (.slice pq 0 cq) out num bas last (given + 1) false :=
    heap_set_ne (heap_set_ne (heap_set hM2 8 _ rfl) hMT _ _) hMT _ _
  have hTS : TxW (((w2.setCell ⟨d.M, 8, none⟩ (.int .i64 (given + 1))).setCell ⟨d.T, 0, none⟩ (.int .i64 2)).setCell ⟨d.T, 1, none⟩ (.int .i64 (given + 1))) d.T d.W d.Q (given + 1) p.t :=
    heap_set (heap_set (heap_set_ne hT2 hMT.symm _ _) 0 _ rfl) 1 _ rfl
  have avS : Av w2 [d.M, d.T] [3] := fun x hx cs t fr hh => by
    simp at hx
    rcases hx with rfl | rfl
    · rw [show w2.heap[d.M]? = _ from hM2] at hh; cases hh; simp
    · rw [show w2.heap[d.T]? = _ from hT2] at hh; cases hh; simp
  have hqS := ownsRow_av hq2 kS avS
  clear HMy HLn HO k1 k2' t4
  go_upto_region 14 with fail
  have hsS : loq ≤ (((w2.setCell ⟨d.M, 8, none⟩ (.int .i64 (given + 1))).setCell ⟨d.T, 0, none⟩ (.int .i64 2)).setCell ⟨d.T, 1, none⟩ (.int .i64 (given + 1))).heap.size := by have := kS.size; omega
  clear m8 f8 m3 f3 t0 t1 ft0 ft1 avS hq2
  generalize ((w2.setCell ⟨d.M, 8, none⟩ (.int .i64 (given + 1))).setCell ⟨d.T, 0, none⟩ (.int .i64 2)).setCell ⟨d.T, 1, none⟩ (.int .i64 (given + 1)) = wS at *
  have m3 : wS.cell? ⟨d.M, 3, none⟩ = some (.slice pq 0 cq) := cell_is hMS 3 rfl
  go_wp2_with (at_builtin; refine wpList_append_lit rfl (.tmp 59) (.tmp 61) 81 3 rfl ty62 inf3 rfl (by decide) loq wS [.int .i64 p.h] 1 rfl (.slice pq 0 cq) 0 [] rfl hqS (by omega) (by decide) hsS (k := 0) rfl (by simp [Value.oneCell']) rfl 1 rfl ?_; intro v' w4 hap; obtain ⟨g4, c4, rfl⟩ := own_some hap.1 (by decide); have k4 : Chg (Value.slice pq 0 cq).ownBlock.toList wS w4 := Chg.own hap.2.2 (fun g hg _ => by have hg2 : (Value.slice pq 0 cq).ownBlock = some g := hg; simp [hg2]); have hM4 := k4.heap hMS (own_block_ne hqS hMS (by decide)); have m34 := cell_is hM4 3 rfl; have f34 := unfrozen hM4 3)
  have hT4 := k4.heap hTS (own_block_ne hqS hTS (by decide))
  have hset := Chg.set w4 d.M 3 (.slice (some ⟨g4, 0, none⟩) (0 + 1) c4)
  have hq4 := ownsRow_av hap.1 hset (Av.row hM4 (by decide))
  go_ret
  refine ⟨g4, c4, rfl, ?_, heap_set hM4 3 _ rfl, hq4, heap_set_ne hT4 hMT.symm _ _⟩
  refine (((k2.mono (fun x hx _ => by cases hx)).then (kS.mono ?_)).then (k4.mono ?_)).then (hset.mono ?_)
  · intro x hx _; simp only [List.mem_cons, List.not_mem_nil, or_false] at hx; rcases hx with rfl | rfl <;> simp
  · intro x hx _; exact List.mem_cons_of_mem _ (List.mem_cons_of_mem _ hx)
  · intro x hx _; rw [List.mem_singleton] at hx; subst hx; exact List.mem_cons_self
end Go.Proofs.YtliicpedddcfiaaGreat
namespace Go.Proofs.YtliicpedddcfiaaGreat
open Go.RowKit Go.Lib

set_option maxRecDepth 100000 in
theorem scommit_one (w : World) {d : Ids} {p : Par} {P : World → Prop} (hN : Need w d p) (hC : Calls Tryz.prog 151 #[.pointer (some ⟨d.M, 0, none⟩), .int .i64 p.h] w fun e w' => e = .returned (.int .i64 0) ∧ P w') :
    Calls Tryz.prog 131 #[.pointer (some ⟨d.P, 0, none⟩), .int .i64 p.h] w fun e w' => e = .returned (.int .i64 0) ∧ P w' := by
  have c5 := hN.p5
  have HO := Lib.hid (dead_gen w hN)
  have HC := Lib.hid hC
  clear hN hC
  go_enter Tryz.func131, Tryz.ntmps131
  go_wp2_with fail
  refine HO.out.mono ?_
  rintro e w1 ⟨rfl, rfl⟩
  go_wp2_with fail
  refine HC.out.mono ?_
  rintro e w1 ⟨rfl, hp⟩
  have HPp := Lib.hid hp
  clear hp
  go_wp2_with fail
  go_ret
  exact ⟨rfl, HPp.out⟩
theorem ty100 : Tryz.prog.underlying 132 = some (.slice 176) := by kernel_rfl
theorem inf189 : (Tryz.prog.info? 176).map (fun i => (i.zero, i.size, i.bytes)) = some (some (.agg #[.int .i64 0, .slice none 0 0]), 2, 32) := by kernel_rfl
/-- a transaction's part is put behind none, as a step of a region that draws. -/
theorem step_append_tx {ops : Array Oper} {o : Oper} {a : Act} {w : World} {K : Act → World → Prop} {Q : Exit → Act → World → Prop} {E : Prop} (hgd : o.guard = none) (s x : Operand)
    (ho : o.op = .call { callee := .builtin .append, args := #[s, x], argTypes := #[132, 132] }) (b c : Nat) (u0 u1 : Value) (hs : a.eval s = .slice none 0 0)
    (hx : a.eval x = .slice (some ⟨b, 0, none⟩) 1 c) (c0 : w.cell? ⟨b, 0, none⟩ = some u0) (c1 : w.cell? ⟨b, 1, none⟩ = some u1) (h1 : u0.oneCell' = true ∧ u1.oneCell' = true)
    (h : ∀ g cap w', w'.ownsRow w.heap.size 176 2 (.slice (some ⟨g, 0, none⟩) 1 cap) 1 [u0, u1] → Chg [] w w' → K (a.put o.dst (.slice (some ⟨g, 0, none⟩) 1 cap)) w') :
    if Region.wanted o (yielded ops a.tmps) = true then Oper.wp Tryz.prog o a w K Q else E := by
  obtain ⟨i, hi0, hz, hz1, hz2⟩ := info_parts inf189
  refine step_append_lies w hgd s x 132 ho w.heap.size 176 i _ 2 32 ty100 hi0 hz hz1 hz2 rfl (by decide) _ 0 [] hs (World.ownsRow_nil _ _ _ _) ⟨b, 0, none⟩ 1 c [u0, u1] hx rfl ?_ ?_ (by decide) (by unfold maxLen; omega) (by omega) (Nat.le_refl _) _ rfl ?_
  · intro j u hu
    rw [add_lit, Nat.zero_add]
    match j with
    | 0 => cases hu; exact c0
    | 1 => cases hu; exact c1
    | j + 2 => simp at hu
  · intro u hu
    simp at hu
    rcases hu with rfl | rfl
    · exact h1.1
    · exact h1.2
  · intro g cap w' h2 h3 _ _
    exact h g cap w' h2 (Chg.of_grown0 h3)
/-- one transaction's part: its time k, its puts l. -/
def TxOne (w : World) (lo : Nat) (v : Value) (k : Int) (l : List (Int × List UInt8)) : Prop :=
  ∃ g c cs pv, v = .slice (some ⟨g, 0, none⟩) 1 c ∧ 1 ≤ c ∧ lo ≤ g ∧ w.heap[g]? = some (.cells cs 176 (0, 0)) ∧ cs[0]? = some (.int .i64 k) ∧ cs[1]? = some pv ∧ PutsAt w lo pv l
theorem TxOne.keep {w w' : World} {lo : Nat} {v : Value} {k : Int} {l : List (Int × List UInt8)} (h : TxOne w lo v k l) (hc : Chg [] w w') : TxOne w' lo v k l := by
  obtain ⟨g, c, cs, pv, h1, h2, h3, h4, h5, h6, h7⟩ := h
  exact ⟨g, c, cs, pv, h1, h2, h3, hc.heap h4 (by simp), h5, h6, h7.keep0 hc⟩
theorem tx_of_own {w : World} {b lo g c : Nat} {k : Int} {pv : Value} {l : List (Int × List UInt8)} (ho : w.ownsRow b 176 2 (.slice (some ⟨g, 0, none⟩) 1 c) 1 [.int .i64 k, pv]) (hb : lo ≤ b) (hp : PutsAt w lo pv l) : TxOne w lo (.slice (some ⟨g, 0, none⟩) 1 c) k l := by
  rcases ho.2 with ⟨e, _⟩ | ⟨g', cap, cur, e, hA, hg, hc1, hc2, hc3, ht⟩
  · cases e
  · cases e
    have h0 : cur[0]? = some (.int .i64 k) := by
      have : (cur.toList.take (1 * 2))[0]? = some (.int .i64 k) := by rw [ht]; rfl
      rwa [List.getElem?_take_of_lt (by omega), Array.getElem?_toList] at this
    have h1 : cur[1]? = some pv := by
      have : (cur.toList.take (1 * 2))[1]? = some pv := by rw [ht]; rfl
      rwa [List.getElem?_take_of_lt (by omega), Array.getElem?_toList] at this
    exact ⟨g, c, cur, pv, rfl, hc1, by omega, hg, h0, h1, hp⟩
set_option maxRecDepth 100000 in
set_option maxHeartbeats 4000000 in
theorem waiting_one (w : World) {M X B r cq gq T W rw Q : Nat} {out num bas last given k t h : Int} {rd : Bool} {Lr L : List (Int × Value)} {D : Int → List UInt8} (hM : MgrG w M X B r (.slice (some ⟨gq, 0, none⟩) 1 cq) out num bas last given rd)
    (hq : w.cell? ⟨gq, 0, none⟩ = some (.int .i64 h)) (hr : MapAt w r Lr) (hg : getL Lr h = some (.pointer (some ⟨T, 0, none⟩))) (hT : TxW w T W Q k t) (hb : BufAt w W rw L) (hD : BufD w L D) (hk : ∀ x ∈ L, 0 ≤ x.1 ∧ x.1 < 258) (hl : L.length ≤ 1000) :
    Calls Tryz.prog 93 #[.pointer (some ⟨M, 0, none⟩)] w fun e w' => ∃ v, e = .returned v ∧ Chg [] w w' ∧ TxOne w' w.heap.size v k (putsL L D) := by
  have m3 : w.cell? ⟨M, 3, none⟩ = some (.slice (some ⟨gq, 0, none⟩) 1 cq) := cell_is hM 3 rfl
  have m2 : w.cell? ⟨M, 2, none⟩ = some (.map (some r)) := cell_is hM 2 rfl
  have t1 : w.cell? ⟨T, 1, none⟩ = some (.int .i64 k) := cell_is hT 1 rfl
  have t4 : w.cell? ⟨T, 4, none⟩ = some (.pointer (some ⟨W, 0, none⟩)) := cell_is hT 4 rfl
  have hlook : (Instr.lookup 182 (.map (some r)) (.int .i64 h) false).run Tryz.prog w = .ok (.pointer (some ⟨T, 0, none⟩)) w := by
    have := lookup178 hr h false
    rw [hg] at this
    exact this
  have kd : Chg [] w w.drew := (Chg.refl [] w).drew
  have HP := Lib.hid (bputs_any w.drew (hb.keep kd (by simp) (by simp)) (hD.keep kd) hk hl)
  have t1d : w.drew.cell? ⟨T, 1, none⟩ = some (.int .i64 k) := t1
  have t4d : w.drew.cell? ⟨T, 4, none⟩ = some (.pointer (some ⟨W, 0, none⟩)) := t4
  clear hM hr hg hT hb hD hk
  go_enter Tryz.func93, Tryz.ntmps93
  go_wp2_with fail
  go_loopw [2, 4, 5, 11] (fun v _ _ i wr => (i = .int .i64 0 ∧ w = wr ∧ v = .slice none 0 0) ∨ (i = .int .i64 1 ∧ Chg [] w wr ∧ TxOne wr w.heap.size v k (putsL L D))) (fun _ _ _ i _ => 1 - (intOf i).toNat)
  case atStart => exact Or.inl ⟨rfl, rfl, rfl⟩
  case round =>
    rcases hrel with ⟨rfl, rfl, rfl⟩ | ⟨rfl, kr, hv⟩
    · go_wp2_with fail
      go_region_law
        (first
          | (go_simp; go_at_call 100; refine HP.out.mono ?_; rintro e w6 ⟨pv, rfl, k6, hp6⟩; obtain ⟨pb, cb, rfl, hcb⟩ := own_form hp6.choose_spec.1; have t16 := k6.cell t1d (by simp); have kA : Chg [] w (w6.alloc (.cells #[.int .i64 k, (.slice pb (putsL L D).length cb)] 176)) := (kd.then k6).then_alloc _; have y0 := heap_new w6 (.cells #[.int .i64 k, (.slice pb (putsL L D).length cb)] 176); have hp7 := hp6.keep0 (Chg.alloc (S := []) w6 (.cells #[.int .i64 k, (.slice pb (putsL L D).length cb)] 176)))
          | (refine step_append_tx rfl (.tmp 21) (.tmp 32) rfl w6.heap.size 1 _ _ rfl rfl (cell_is y0 0 rfl) (cell_is y0 1 rfl) ⟨rfl, rfl⟩ ?_; intro g5 cp5 w5 o5 k5))
      all_goals
        have HF := Lib.hid (show Chg [] w w5 ∧ TxOne w5 w.heap.size (.slice (some ⟨g5, 0, none⟩) 1 cp5) k (putsL L D) from by
          refine ⟨kA.then k5, tx_of_own o5 kA.size ?_⟩
          obtain ⟨xs, ho, hx⟩ := hp7.keep0 k5
          exact ⟨xs, own_base ho (kd.size), hx⟩)
        clear kA y0 hp6 hp7 o5 k5 k6
        go_wp2_with fail
        go_roundw
        case rel => exact Or.inr ⟨rfl, HF.out⟩
        case measure => decide
    · go_wp2_with fail
      go_ret
      exact ⟨_, rfl, kr, hv⟩
end Go.Proofs.YtliicpedddcfiaaGreat
namespace Go.Proofs.YtliicpedddcfiaaGreat
open Go.RowKit Go.Lib

theorem TxOne.keepA {w w' : World} {T : List Nat} {lo : Nat} {v : Value} {k : Int} {l : List (Int × List UInt8)} (h : TxOne w lo v k l) (hc : Chg T w w') (hT : Av w T [176, 37, 5]) : TxOne w' lo v k l := by
  obtain ⟨g, c, cs, pv, h1, h2, h3, h4, h5, h6, h7⟩ := h
  refine ⟨g, c, cs, pv, h1, h2, h3, hc.heap h4 (hT.ne h4 (by simp)), h5, h6, h7.keep hc (fun x hx cs t fr hh ht => hT x hx cs t fr hh (by simp at ht; simp [ht])) (fun g hg => ?_)⟩
  obtain ⟨_, cs, hb⟩ := h7.block g hg
  exact hT.ne hb (by simp)
theorem TxOne.low {w : World} {lo lo' : Nat} {v : Value} {k : Int} {l : List (Int × List UInt8)} (h : TxOne w lo v k l) (hl : lo' ≤ lo) : TxOne w lo' v k l := by
  obtain ⟨g, c, cs, pv, h1, h2, h3, h4, h5, h6, xs, ho, hx⟩ := h
  exact ⟨g, c, cs, pv, h1, h2, by omega, h4, h5, h6, xs, own_base ho hl, hx⟩
/-- .. opened: the cells of a transaction's part. -/
theorem TxOne.open_ {w : World} {lo : Nat} {v : Value} {k : Int} {l : List (Int × List UInt8)} (h : TxOne w lo v k l) : ∃ g c pb cb, v = .slice (some ⟨g, 0, none⟩) 1 c ∧ 1 ≤ c ∧ lo ≤ g ∧ g < w.heap.size ∧ w.cell? ⟨g, 0, none⟩ = some (.int .i64 k) ∧ w.cell? ⟨g, 1, none⟩ = some (.slice pb l.length cb) ∧ l.length ≤ cb ∧ PutsAt w lo (.slice pb l.length cb) l := by
  obtain ⟨g, c, cs, pv, h1, h2, h3, h4, h5, h6, h7⟩ := h
  obtain ⟨pb, cb, rfl, hcb⟩ := own_form h7.choose_spec.1
  exact ⟨g, c, pb, cb, h1, h2, h3, heap_lt h4, cell_is h4 0 h5, cell_is h4 1 h6, hcb, h7⟩
set_option maxRecDepth 100000 in
set_option maxHeartbeats 1000000 in
theorem form_one (w : World) {lo : Nat} {v : Value} {k : Int} {l : List (Int × List UInt8)} (h : TxOne w lo v k l) (hl : l.length ≤ 32) : Calls Tryz.prog 94 #[v] w fun e w' => e = .returned (.int .i64 1) ∧ Chg [] w w' := by
  obtain ⟨g, c, pb, cb, rfl, -, -, -, c0, c1, hcb, -⟩ := h.open_
  clear h
  go_enter Tryz.func94, Tryz.ntmps94
  go_wp2_with fail
  go_loopw [2, 3, 5, 8] (fun n p _ i wr => (i = .int .i64 0 ∧ n = .int .i64 0 ∧ p = .int .i64 0 ∧ wr = w) ∨ (i = .int .i64 1 ∧ n = .int .i64 1 ∧ Chg [] w wr)) (fun _ _ _ i _ => 1 - (intOf i).toNat)
  case atStart => exact Or.inl ⟨rfl, rfl, rfl, rfl⟩
  case round =>
    rcases hrel with ⟨rfl, rfl, rfl, rfl⟩ | ⟨rfl, rfl, kr⟩
    · have ka : Chg [] wr (wr.alloc (.cells #[.int .i64 k, .slice pb l.length cb] 176)) := Chg.alloc wr _
      go_wp2_with fail
      go_roundw
      case rel => exact Or.inr ⟨rfl, rfl, ka⟩
      case measure => decide
    · go_wp2_with fail
      go_ret
      exact ⟨rfl, kr⟩
set_option maxRecDepth 100000 in
set_option maxHeartbeats 4000000 in
theorem tbatch_one (w : World) {M X B r cq gq : Nat} {num bas last given k : Int} {rd : Bool} {l : List (Int × List UInt8)} (hM : MgrG w M X B r (.slice (some ⟨gq, 0, none⟩) 1 cq) 0 num bas last given rd) (hl : l.length ≤ 32) (hn0 : 0 ≤ num) (hn1 : num ≤ 1000000000000)
    (hW : ∀ w1, Chg [] w w1 → Calls Tryz.prog 93 #[.pointer (some ⟨M, 0, none⟩)] w1 fun e w' => ∃ v, e = .returned v ∧ Chg [] w1 w' ∧ TxOne w' w1.heap.size v k l) :
    Calls Tryz.prog 53 #[.pointer (some ⟨M, 0, none⟩)] w fun e w' => ∃ g c, e = .returned (.tuple #[.agg #[.int .i64 (num + 1), .slice (some ⟨g, 0, none⟩) 1 c], .int .i64 0]) ∧ Chg [M] w w' ∧ MgrG w' M X B r (.slice (some ⟨gq, 0, none⟩) 1 cq) 1 num bas last given rd ∧ TxOne w' w.heap.size (.slice (some ⟨g, 0, none⟩) 1 c) k l := by
  have k0 : Chg [] w (w.alloc (.cells #[.int .i64 0, .slice none 0 0] 134)) := Chg.alloc w _
  have K0 := heap_new w (.cells #[.int .i64 0, .slice none 0 0] 134)
  have hM0 := k0.heap hM (by simp)
  have HW := Lib.hid (hW _ k0)
  have m0 : (w.alloc (.cells #[.int .i64 0, .slice none 0 0] 134)).cell? ⟨M, 0, none⟩ = some (.pointer (some ⟨X, 0, none⟩)) := cell_is hM0 0 rfl
  have m4 : (w.alloc (.cells #[.int .i64 0, .slice none 0 0] 134)).cell? ⟨M, 4, none⟩ = some (.int .i64 0) := cell_is hM0 4 rfl
  have m3 : (w.alloc (.cells #[.int .i64 0, .slice none 0 0] 134)).cell? ⟨M, 3, none⟩ = some (.slice (some ⟨gq, 0, none⟩) 1 cq) := cell_is hM0 3 rfl
  have hgone : ∀ w1 : World, w1.cell? ⟨M, 0, none⟩ = some (.pointer (some ⟨X, 0, none⟩)) → Calls Tryz.prog 80 #[.pointer (some ⟨M, 0, none⟩)] w1 fun e w' => e = .returned (.bool false) ∧ w1 = w' := by
    intro w1 c0
    clear hW HW hM hM0 m0 m4 m3 K0
    go_enter Tryz.func80, Tryz.ntmps80
    go_wp2_with fail
    go_ret
    exact ⟨rfl, rfl⟩
  have HG := Lib.hid (hgone _ m0)
  clear hW hM hgone
  go_enter Tryz.func53, Tryz.ntmps53
  go_wp2_with fail
  generalize w.alloc (.cells #[.int .i64 0, .slice none 0 0] 134) = w1 at *
  generalize hR : w.heap.size = R at *
  refine HG.out.mono ?_
  rintro e w2 ⟨rfl, rfl⟩
  go_wp2_with fail
  refine HW.out.mono ?_
  rintro e w2 ⟨v, rfl, k2, ht⟩
  have hM2 := k2.heap hM0 (by simp)
  have K2 := k2.heap K0 (by simp)
  have HF := Lib.hid (form_one w2 ht hl)
  have kk2 := k0.then k2
  obtain ⟨g, c, pb, cb, rfl, hc1, hlo, -, -, -, -, -⟩ := ht.open_
  have HT := Lib.hid ht
  clear m0 m4 m3 ht hM0 K0 HG HW
  go_wp2_with fail
  refine HF.out.mono ?_
  rintro e w3 ⟨rfl, k3⟩
  have hM3 := k3.heap hM2 (by simp)
  have K3 := k3.heap K2 (by simp)
  have HT3 := Lib.hid (HT.out.keep k3)
  have kk3 := kk2.then k3
  have m4 : w3.cell? ⟨M, 4, none⟩ = some (.int .i64 0) := cell_is hM3 4 rfl
  have f4 := unfrozen hM3 4
  clear hM2 K2 HF HT k3 kk2
  have hMR : M ≠ R := heap_ne hM3 K3 (by simp)
  have kS := Chg.set w3 M 4 (.int .i64 1)
  have hM4 : MgrG (w3.setCell ⟨M, 4, none⟩ (.int .i64 1)) M X B r (.slice (some ⟨gq, 0, none⟩) 1 cq) 1 num bas last given rd := heap_set hM3 4 _ rfl
  have K4 := heap_set_ne K3 hMR.symm 4 (.int .i64 1)
  have HT4 := Lib.hid (HT3.out.keepA kS (Av.row hM3 (by decide)))
  have kk4 : Chg [M] w (w3.setCell ⟨M, 4, none⟩ (.int .i64 1)) := (kk3.mono (fun x hx _ => by cases hx)).then kS
  go_upto_region 9 with fail
  clear kk3 K3 hM3 HT3 m4 f4 kS
  generalize w3.setCell ⟨M, 4, none⟩ (.int .i64 1) = w4 at *
  have n5 : w4.drew.cell? ⟨M, 5, none⟩ = some (.int .i64 num) := cell_is hM4 5 rfl
  have n4 : w4.drew.cell? ⟨M, 4, none⟩ = some (.int .i64 1) := cell_is hM4 4 rfl
  have r0 : w4.drew.cell? ⟨R, 0, none⟩ = some (.int .i64 0) := cell_is K4 0 rfl
  have r1 : w4.drew.cell? ⟨R, 1, none⟩ = some (.slice none 0 0) := cell_is K4 1 rfl
  have z0 : w4.drew.frozen? ⟨R, 0, none⟩ = false := unfrozen K4 0
  have z1 : w4.drew.frozen? ⟨R, 1, none⟩ = false := unfrozen K4 1
  have r0' : w4.cell? ⟨R, 0, none⟩ = some (.int .i64 0) := r0
  have r1' : w4.cell? ⟨R, 1, none⟩ = some (.slice none 0 0) := r1
  have z0' : w4.frozen? ⟨R, 0, none⟩ = false := z0
  have z1' : w4.frozen? ⟨R, 1, none⟩ = false := z1
  have hcl : (1 : Int) ≤ c := by omega
  have hnw : IntKind.i64.wrap (num + 1) = num + 1 := by rw [IntKind.wrap_i64]; omega
  have kR : ∀ a b, Chg [R] w4 ((w4.setCell ⟨R, 0, none⟩ a).setCell ⟨R, 1, none⟩ b).drew := fun a b => (((Chg.refl [R] w4).then_set (fun _ => by simp) 0 a).then_set (fun _ => by simp) 1 b).drew
  have fR : ∀ a b, ((w4.setCell ⟨R, 0, none⟩ a).setCell ⟨R, 1, none⟩ b).drew.cell? ⟨M, 5, none⟩ = some (.int .i64 num) ∧ ((w4.setCell ⟨R, 0, none⟩ a).setCell ⟨R, 1, none⟩ b).drew.cell? ⟨M, 4, none⟩ = some (.int .i64 1) := fun a b => ⟨(kR a b).cell n5 (by simpa using hMR), (kR a b).cell n4 (by simpa using hMR)⟩
  go_region_held3 (fun wx => wx.cell? ⟨M, 5, none⟩ = some (.int .i64 num) ∧ wx.cell? ⟨M, 4, none⟩ = some (.int .i64 1))
    (first | (with_reducible exact ⟨n5, n4⟩) | (with_reducible exact fR _ _))
    (first | (fail))
  all_goals
    have kF := kR (.int .i64 (num + 1)) (.slice (some ⟨g, 0, none⟩) 1 c)
    have K6 : ((w4.setCell ⟨R, 0, none⟩ (.int .i64 (num + 1))).setCell ⟨R, 1, none⟩ (.slice (some ⟨g, 0, none⟩) 1 c)).drew.heap[R]? = some (.cells #[.int .i64 (num + 1), .slice (some ⟨g, 0, none⟩) 1 c] 134 (0, 0)) := heap_set (heap_set K4 0 _ rfl) 1 _ rfl
    have hM6 := kF.heap hM4 (by simpa using hMR)
    have HT6 := Lib.hid (HT4.out.keepA kF (Av.row K4 (by decide)))
    have kk6 : Chg [M] w ((w4.setCell ⟨R, 0, none⟩ (.int .i64 (num + 1))).setCell ⟨R, 1, none⟩ (.slice (some ⟨g, 0, none⟩) 1 c)).drew := kk4.trans kF (fun x hx hlt => by rw [List.mem_singleton] at hx; omega)
    have c0 : ((w4.setCell ⟨R, 0, none⟩ (.int .i64 (num + 1))).setCell ⟨R, 1, none⟩ (.slice (some ⟨g, 0, none⟩) 1 c)).drew.cell? ⟨R, 0, none⟩ = some (.int .i64 (num + 1)) := cell_is K6 0 rfl
    have c1 : ((w4.setCell ⟨R, 0, none⟩ (.int .i64 (num + 1))).setCell ⟨R, 1, none⟩ (.slice (some ⟨g, 0, none⟩) 1 c)).drew.cell? ⟨R, 1, none⟩ = some (.slice (some ⟨g, 0, none⟩) 1 c) := cell_is K6 1 rfl
    clear kR fR HT4 r0 r1 z0 z1 r0' r1' z0' z1' n5 n4 K4
    go_wp2_with fail
    refine bodyPost_ret (v := .tuple #[.agg #[.int .i64 (num + 1), .slice (some ⟨g, 0, none⟩) 1 c], .int .i64 0]) (by simp [results, Tryz.results53, go_sem, c0, c1]) rfl ?_
    exact ⟨g, c, rfl, kk6, hM6, HT6.out.low (by rw [hR]; have := k0.size; omega)⟩
end Go.Proofs.YtliicpedddcfiaaGreat
namespace Go.Proofs.YtliicpedddcfiaaGreat
open Go.RowKit Go.Lib

/-- the numbers of puts rise. -/
def Rise (l : List (Int × List UInt8)) : Prop := ∀ i (h : i + 1 < l.length), l[i].1 < l[i + 1].1
set_option maxRecDepth 100000 in
set_option maxHeartbeats 4000000 in
theorem order_one (w : World) {lo : Nat} {v : Value} {k : Int} {l : List (Int × List UInt8)} (h : TxOne w lo v k l) (hk0 : 1 ≤ k) (hk1 : k ≤ 1099511627776) (hl0 : 0 < l.length) (hl : l.length ≤ 1000) (hr : Rise l) : Calls Tryz.prog 152 #[v] w fun e w' => e = .returned (.bool true) ∧ Chg [] w w' := by
  obtain ⟨g, c, pb, cb, rfl, -, -, -, c0, c1, hcb, hp⟩ := h.open_
  have HP := Lib.hid hp
  have HR := Lib.hid hr
  have n0 : decide (k ≤ 0) = false := decide_eq_false (by omega)
  have n1 : decide (1099511627776 < k) = false := decide_eq_false (by omega)
  have n2 : ((l.length : Int) == 0) = false := beq_eq_false_iff_ne.2 (by omega)
  have hcbi : (l.length : Int) ≤ cb := by omega
  clear h hp hr
  go_enter Tryz.func152, Tryz.ntmps152
  go_wp2_with fail
  go_loopw [3, 5, 6, 9] (fun s _ _ i wr => (i = .int .i64 0 ∧ s = .int .i64 0 ∧ wr = w) ∨ (i = .int .i64 1 ∧ Chg [] w wr)) (fun _ _ _ i _ => 1 - (intOf i).toNat)
  case atStart => exact Or.inl ⟨rfl, rfl, rfl⟩
  case round =>
    rcases hrel with ⟨rfl, rfl, rfl⟩ | ⟨rfl, kr⟩
    · have ka : Chg [] wr (wr.alloc (.cells #[.int .i64 k, .slice pb l.length cb] 176)) := Chg.alloc wr _
      have A0 := heap_new wr (.cells #[.int .i64 k, .slice pb l.length cb] 176)
      go_wp2_with fail
      generalize hzz : wr.heap.size = z at *
      generalize wr.alloc (.cells #[.int .i64 k, .slice pb l.length cb] 176) = w2 at *
      go_loopw [6] (fun i wz => ∃ j : Nat, 1 ≤ j ∧ j ≤ l.length ∧ i = .int .i64 j ∧ Chg [] w2 wz) (fun i _ => l.length - (intOf i).toNat)
      case atStart => exact ⟨1, by omega, by omega, rfl, Chg.refl _ _⟩
      case round =>
        obtain ⟨j, hj1, hj, rfl, kz⟩ := hrel
        rename World => wz
        have b1 : wz.cell? ⟨z, 1, none⟩ = some (.slice pb l.length cb) := cell_is (kz.heap A0 (by simp)) 1 rfl
        by_cases hlt : j < l.length
        · obtain ⟨q, rfl⟩ : ∃ q, j = q + 1 := ⟨j - 1, by omega⟩
          have hP2 := (HP.out.keep0 ka).keep0 kz
          obtain ⟨gp, cap, gd, cd, hv, -, d1, -, -, -, -⟩ := hP2.get (q + 1) hlt
          obtain ⟨gp', cap', gd', cd', hv', -, d0, -, -, -, -⟩ := hP2.get q (by omega)
          cases hv
          cases hv'
          have hlt2 := HR.out q hlt
          have hnle : decide ((l[q + 1]).1 ≤ (l[q]'(by omega)).1) = false := decide_eq_false (by omega)
          have hwq : IntKind.i64.wrap (((q + 1 : Nat) : Int) - 1) = q := by rw [IntKind.wrap_i64]; omega
          have hqi : (q : Int) < l.length := by omega
          have hqi2 : ((q + 1 : Nat) : Int) < l.length := by omega
          clear hP2 HP HR hlt2
          generalize (l[q + 1]).1 = x at *
          generalize (l[q]'(by omega)).1 = y at *
          go_wp2_with fail
          go_quiet (fail)
          go_wp2_with fail
          exact ⟨⟨q + 2, by omega, by omega, by go_num, kz.drewN nq⟩, by simp [intOf]; omega⟩
        · obtain rfl : j = l.length := by omega
          go_wp2_with fail
          exact ⟨Or.inr ⟨rfl, ka.then kz⟩, by decide⟩
    · go_wp2_with fail
      go_ret
      exact ⟨rfl, kr⟩
set_option maxRecDepth 100000 in
set_option maxHeartbeats 1000000 in
theorem blocks_one (w : World) {lo : Nat} {v : Value} {k num : Int} {l : List (Int × List UInt8)} (h : TxOne w lo v k l) (hl : l.length ≤ 1000) : Calls Tryz.prog 153 #[.agg #[.int .i64 num, v]] w fun e w' => e = .returned (.int .i64 ((1 + l.length : Nat) : Int)) ∧ Chg [] w w' := by
  have k0 : Chg [] w (w.alloc (.cells #[.int .i64 num, v] 134)) := Chg.alloc w _
  have K0 := heap_new w (.cells #[.int .i64 num, v] 134)
  obtain ⟨g, c, pb, cb, rfl, -, -, -, c0, c1, hcb, -⟩ := (h.keep k0).open_
  have b1 : (w.alloc (.cells #[.int .i64 num, .slice (some ⟨g, 0, none⟩) 1 c] 134)).cell? ⟨w.heap.size, 1, none⟩ = some (.slice (some ⟨g, 0, none⟩) 1 c) := cell_is K0 1 rfl
  clear h K0
  go_enter Tryz.func153, Tryz.ntmps153
  go_wp2_with fail
  generalize w.alloc (.cells #[.int .i64 num, .slice (some ⟨g, 0, none⟩) 1 c] 134) = w1 at *
  go_loopw [3, 5, 9] (fun n _ i wr => (i = .int .i64 0 ∧ n = .int .i64 1 ∧ wr = w1) ∨ (i = .int .i64 1 ∧ n = .int .i64 ((1 + l.length : Nat) : Int) ∧ Chg [] w1 wr)) (fun _ _ i _ => 1 - (intOf i).toNat)
  case atStart => exact Or.inl ⟨rfl, rfl, rfl⟩
  case round =>
    rcases hrel with ⟨rfl, rfl, rfl⟩ | ⟨rfl, rfl, kr⟩
    · have ka : Chg [] wr (wr.alloc (.cells #[.int .i64 k, .slice pb l.length cb] 176)) := Chg.alloc wr _
      go_wp2_with fail
      go_roundw
      case rel => exact Or.inr ⟨rfl, by go_num, ka⟩
      case measure => decide
    · go_wp2_with fail
      go_ret
      exact ⟨rfl, k0.then kr⟩
set_option maxRecDepth 100000 in
theorem bput_ok (w : World) {b : Int} {pd : Option Addr} {cd : Nat} (h0 : 0 ≤ b) (h1 : b < 258) : Calls Tryz.prog 155 #[.agg #[.int .i64 b, .slice pd 40 cd]] w fun e w' => e = .returned (.bool true) ∧ Chg [] w w' := by
  have kc : Chg [] w (w.alloc (.cells #[.int .i64 b, .slice pd 40 cd] 37)) := Chg.alloc w _
  have n0 : decide (0 ≤ b) = true := decide_eq_true h0
  have n1 : decide (b ≤ 1048576) = true := decide_eq_true (by omega)
  go_enter Tryz.func155, Tryz.ntmps155
  go_wp2_with fail
  go_ret
  exact ⟨rfl, kc⟩
set_option maxRecDepth 100000 in
theorem bcheck1_ok (w : World) {b : Int} {pd : Option Addr} {cd : Nat} (h0 : 0 ≤ b) (h1 : b < 258) : Calls Tryz.prog 154 #[.agg #[.int .i64 b, .slice pd 40 cd]] w fun e w' => e = .returned (.bool false) ∧ Chg [] w w' := by
  have kc : Chg [] w (w.alloc (.cells #[.int .i64 b, .slice pd 40 cd] 37)) := Chg.alloc w _
  go_enter Tryz.func154, Tryz.ntmps154
  go_wp2_with fail
  refine (bput_ok _ h0 h1).mono ?_
  rintro e w2 ⟨rfl, k2⟩
  go_wp2_with fail
  go_ret
  exact ⟨rfl, kc.then k2⟩
set_option maxRecDepth 100000 in
theorem apply1_ok (w : World) {b : Int} {pd : Option Addr} {cd : Nat} : Calls Tryz.prog 115 #[.agg #[.int .i64 b, .slice pd 40 cd]] w fun e w' => e = .returned (.bool false) ∧ Chg [] w w' := by
  have kc : Chg [] w (w.alloc (.cells #[.int .i64 b, .slice pd 40 cd] 37)) := Chg.alloc w _
  go_enter Tryz.func115, Tryz.ntmps115
  go_wp2_with fail
  go_ret
  exact ⟨rfl, kc⟩
set_option maxRecDepth 100000 in
set_option maxHeartbeats 1000000 in
/-- IndexFunc over puts, by a function that says no. -/
theorem idxputs_200 (w : World) {lo cb : Nat} {pb : Option Addr} {l : List (Int × List UInt8)} (hp : PutsAt w lo (.slice pb l.length cb) l) (hk : ∀ x ∈ l, 0 ≤ x.1 ∧ x.1 < 258) (hl : l.length ≤ 1000) : Calls Tryz.prog 138 #[.slice pb l.length cb, .func (.func 154) #[] #[]] w fun e w' => e = .returned (.int .i64 (-1)) ∧ Chg [] w w' := by
  have hG : ∀ (w1 : World) (b : Int) (pd : Option Addr) (cd : Nat), 0 ≤ b → b < 258 → Calls Tryz.prog 154 #[.agg #[.int .i64 b, .slice pd 40 cd]] w1 fun e w' => e = .returned (.bool false) ∧ Chg [] w1 w' := fun w1 b pd cd h0 h1 => bcheck1_ok w1 h0 h1
  have HG := Lib.hid hG
  have HP := Lib.hid hp
  have HK := Lib.hid hk
  have hcb : l.length ≤ cb := by obtain ⟨pa, c, e, h⟩ := own_form hp.choose_spec.1; cases e; exact h
  clear hG hp hk
  go_enter Tryz.func138, Tryz.ntmps138
  go_wp2_with fail
  go_loopw [5, 8] (fun _ i wr => ∃ j : Nat, j ≤ l.length ∧ i = .int .i64 j ∧ Chg [] w wr) (fun _ i _ => l.length - (intOf i).toNat)
  case atStart => exact ⟨0, by omega, rfl, Chg.refl _ _⟩
  case round =>
    obtain ⟨j, hj, rfl, kr⟩ := hrel
    by_cases hlt : j < l.length
    · obtain ⟨g, cap, gd, cd, hv, -, d0, d1, -, -, -⟩ := (HP.out.keep0 kr).get j hlt
      cases hv
      have hb := HK.out l[j] (List.getElem_mem hlt)
      have HB := Lib.hid (HG.out wr l[j].1 (some ⟨gd, 0, none⟩) cd hb.1 hb.2)
      clear hb
      generalize (l[j]).1 = x at *
      go_wp2_with fail
      refine HB.out.mono ?_
      rintro e w2 ⟨rfl, k2⟩
      go_wp2_with fail
      go_roundw
      case rel => exact ⟨j + 1, by omega, by simp, kr.then k2⟩
      case measure => simp [intOf]; omega
    · obtain rfl : j = l.length := by omega
      go_wp2_with fail
      go_ret
      exact ⟨rfl, kr⟩
set_option maxRecDepth 100000 in
theorem contputs_200 (w : World) {lo cb : Nat} {pb : Option Addr} {l : List (Int × List UInt8)} (hp : PutsAt w lo (.slice pb l.length cb) l) (hk : ∀ x ∈ l, 0 ≤ x.1 ∧ x.1 < 258) (hl : l.length ≤ 1000) : Calls Tryz.prog 114 #[.slice pb l.length cb, .func (.func 154) #[] #[]] w fun e w' => e = .returned (.bool false) ∧ Chg [] w w' := by
  have HI := Lib.hid (idxputs_200 w hp hk hl)
  clear hp hk
  go_enter Tryz.func114, Tryz.ntmps114
  go_wp2_with fail
  refine HI.out.mono ?_
  rintro e w2 ⟨rfl, k⟩
  go_wp2_with fail
  go_ret
  exact ⟨rfl, k⟩
set_option maxRecDepth 100000 in
set_option maxHeartbeats 1000000 in
/-- IndexFunc over puts, by a function that says no. -/
theorem idxputs_164 (w : World) {lo cb : Nat} {pb : Option Addr} {l : List (Int × List UInt8)} (hp : PutsAt w lo (.slice pb l.length cb) l) (hk : ∀ x ∈ l, 0 ≤ x.1 ∧ x.1 < 258) (hl : l.length ≤ 1000) : Calls Tryz.prog 138 #[.slice pb l.length cb, .func (.func 115) #[] #[]] w fun e w' => e = .returned (.int .i64 (-1)) ∧ Chg [] w w' := by
  have hG : ∀ (w1 : World) (b : Int) (pd : Option Addr) (cd : Nat), 0 ≤ b → b < 258 → Calls Tryz.prog 115 #[.agg #[.int .i64 b, .slice pd 40 cd]] w1 fun e w' => e = .returned (.bool false) ∧ Chg [] w1 w' := fun w1 _ _ _ _ _ => apply1_ok w1
  have HG := Lib.hid hG
  have HP := Lib.hid hp
  have HK := Lib.hid hk
  have hcb : l.length ≤ cb := by obtain ⟨pa, c, e, h⟩ := own_form hp.choose_spec.1; cases e; exact h
  clear hG hp hk
  go_enter Tryz.func138, Tryz.ntmps138
  go_wp2_with fail
  go_loopw [5, 8] (fun _ i wr => ∃ j : Nat, j ≤ l.length ∧ i = .int .i64 j ∧ Chg [] w wr) (fun _ i _ => l.length - (intOf i).toNat)
  case atStart => exact ⟨0, by omega, rfl, Chg.refl _ _⟩
  case round =>
    obtain ⟨j, hj, rfl, kr⟩ := hrel
    by_cases hlt : j < l.length
    · obtain ⟨g, cap, gd, cd, hv, -, d0, d1, -, -, -⟩ := (HP.out.keep0 kr).get j hlt
      cases hv
      have hb := HK.out l[j] (List.getElem_mem hlt)
      have HB := Lib.hid (HG.out wr l[j].1 (some ⟨gd, 0, none⟩) cd hb.1 hb.2)
      clear hb
      generalize (l[j]).1 = x at *
      go_wp2_with fail
      refine HB.out.mono ?_
      rintro e w2 ⟨rfl, k2⟩
      go_wp2_with fail
      go_roundw
      case rel => exact ⟨j + 1, by omega, by simp, kr.then k2⟩
      case measure => simp [intOf]; omega
    · obtain rfl : j = l.length := by omega
      go_wp2_with fail
      go_ret
      exact ⟨rfl, kr⟩
set_option maxRecDepth 100000 in
theorem contputs_164 (w : World) {lo cb : Nat} {pb : Option Addr} {l : List (Int × List UInt8)} (hp : PutsAt w lo (.slice pb l.length cb) l) (hk : ∀ x ∈ l, 0 ≤ x.1 ∧ x.1 < 258) (hl : l.length ≤ 1000) : Calls Tryz.prog 114 #[.slice pb l.length cb, .func (.func 115) #[] #[]] w fun e w' => e = .returned (.bool false) ∧ Chg [] w w' := by
  have HI := Lib.hid (idxputs_164 w hp hk hl)
  clear hp hk
  go_enter Tryz.func114, Tryz.ntmps114
  go_wp2_with fail
  refine HI.out.mono ?_
  rintro e w2 ⟨rfl, k⟩
  go_wp2_with fail
  go_ret
  exact ⟨rfl, k⟩
end Go.Proofs.YtliicpedddcfiaaGreat
namespace Go.Proofs.YtliicpedddcfiaaGreat
open Go.RowKit Go.Lib

theorem still_of_quiet {P : Program} {ops : Array Oper} {w : World} {Q : Act → Prop} : ∀ (l : List Oper) (a : Act), wpQuiet P ops (fun w' => w' = w) Q l a → wpStill P ops w Q l a
  | [], _, h => h
  | o :: l, a, h => by
    unfold wpQuiet at h
    unfold wpStill
    by_cases hw : Region.wanted o (yielded ops a.tmps) = true
    · rw [if_pos hw] at h ⊢
      obtain ⟨v, h1, h2⟩ := h
      have h3 := h1 w rfl
      unfold Oper.quietAt at h3
      unfold Oper.still
      generalize (execOp a.eval o).run P w = r at h3
      unfold Oper.quietUpon at h3
      unfold Oper.stillUpon
      split at h3
      · obtain ⟨rfl, rfl⟩ := h3; exact ⟨rfl, still_of_quiet l _ h2⟩
      · obtain ⟨rfl, rfl⟩ := h3; exact ⟨rfl, still_of_quiet l _ h2⟩
      · obtain ⟨rfl, h4⟩ := h3; exact ⟨rfl, v, h4, still_of_quiet l _ h2⟩
      · exact h3.elim
    · rw [if_neg hw] at h ⊢
      exact still_of_quiet l _ h
/-- a region that draws: operations that only read, guarded or not, then a tail in one order. -/
theorem region_tail {P : Program} {id : Nat} {Q : Exit → Act → World → Prop} {a : Act} {w : World} {l : List Oper} (n : Nat) (hm : P.follows .mixedOrders = true) (hB : Region.lexTailB .any l.toArray n = true)
    (h : wpQuiet P l.toArray (fun w' => w' = w.drew) (fun a' => wpList P l.toArray Q (l.drop n) a' w.drew) (l.take n) a) : (Code.region id l.toArray true).wp P Q a w :=
  wp_region_still_tail n hm hB (still_of_quiet _ _ h)

set_option maxRecDepth 100000 in
set_option maxHeartbeats 4000000 in
theorem bcheck_one (w : World) {lo : Nat} {v : Value} {k num : Int} {l : List (Int × List UInt8)} (h : TxOne w lo v k l) (hn0 : 1 ≤ num) (hn1 : num ≤ 1099511627776) (hk0 : 1 ≤ k) (hk1 : k ≤ 1099511627776) (hl0 : 0 < l.length) (hl : l.length ≤ 16) (hr : Rise l) (hk : ∀ x ∈ l, 0 ≤ x.1 ∧ x.1 < 258) :
    Calls Tryz.prog 132 #[.agg #[.int .i64 num, v]] w fun e w' => e = .returned (.int .i64 0) ∧ Chg [] w w' := by
  have k0 : Chg [] w (w.alloc (.cells #[.int .i64 num, v] 134)) := Chg.alloc w _
  have K0 := heap_new w (.cells #[.int .i64 num, v] 134)
  have h1 := h.keep k0
  obtain ⟨g, c, pb, cb, rfl, hc1, -, -, c0, c1, hcb, hp⟩ := h1.open_
  have b0 : (w.alloc (.cells #[.int .i64 num, .slice (some ⟨g, 0, none⟩) 1 c] 134)).cell? ⟨w.heap.size, 0, none⟩ = some (.int .i64 num) := cell_is K0 0 rfl
  have b1 : (w.alloc (.cells #[.int .i64 num, .slice (some ⟨g, 0, none⟩) 1 c] 134)).cell? ⟨w.heap.size, 1, none⟩ = some (.slice (some ⟨g, 0, none⟩) 1 c) := cell_is K0 1 rfl
  have n0 : decide (num < 1) = false := decide_eq_false (by omega)
  have n1 : decide (1099511627776 < num) = false := decide_eq_false (by omega)
  have n2 : decide (16 < (l.length : Int)) = false := decide_eq_false (by omega)
  have n3 : decide (33 < ((1 + l.length : Nat) : Int)) = false := decide_eq_false (by omega)
  have n3' : decide (33 < 1 + (l.length : Int)) = false := decide_eq_false (by omega)
  have HO := Lib.hid (order_one _ h1 hk0 hk1 hl0 (by omega) hr)
  have HB := Lib.hid (fun w1 (kk : Chg [] (w.alloc (.cells #[.int .i64 num, .slice (some ⟨g, 0, none⟩) 1 c] 134)) w1) => blocks_one w1 (num := num) (h1.keep kk) (by omega))
  have HC := Lib.hid (fun w1 (kk : Chg [] (w.alloc (.cells #[.int .i64 num, .slice (some ⟨g, 0, none⟩) 1 c] 134)) w1) => contputs_200 w1 (hp.keep0 kk) hk (by omega))
  clear h h1 hp hr hk
  go_enter Tryz.func132, Tryz.ntmps132
  go_wp2_with fail
  generalize w.alloc (.cells #[.int .i64 num, .slice (some ⟨g, 0, none⟩) 1 c] 134) = w1 at *
  generalize hz : w.heap.size = z at *
  refine HO.out.mono ?_
  rintro e w2 ⟨rfl, k2⟩
  have b02 := k2.cell b0 (by simp)
  have b12 := k2.cell b1 (by simp)
  go_wp2_with fail
  refine (HB.out w2 k2).mono ?_
  rintro e w3 ⟨rfl, k3⟩
  have k23 := k2.then k3
  have b13 := k23.cell b1 (by simp)
  have c03 := k23.cell c0 (by simp)
  have c13 := k23.cell c1 (by simp)
  clear HO HB
  go_wp2_with fail
  go_loopw [3, 4, 39] (fun _ _ i wr => (i = .int .i64 0 ∧ wr = w3) ∨ (i = .int .i64 1 ∧ Chg [] w1 wr)) (fun _ _ i _ => 1 - (intOf i).toNat)
  case atStart => exact Or.inl ⟨rfl, rfl⟩
  case round =>
    rcases hrel with ⟨rfl, rfl⟩ | ⟨rfl, kr⟩
    · have ka : Chg [] wr (wr.alloc (.cells #[.int .i64 k, .slice pb l.length cb] 176)) := Chg.alloc wr _
      have A0 := heap_new wr (.cells #[.int .i64 k, .slice pb l.length cb] 176)
      have HC4 := Lib.hid (HC.out _ ((k23.then ka).drew))
      go_wp2_with fail
      generalize wr.alloc (.cells #[.int .i64 k, .slice pb l.length cb] 176) = w4 at *
      generalize wr.heap.size = z4 at *
      have a1 : w4.cell? ⟨z4, 1, none⟩ = some (.slice pb l.length cb) := cell_is A0 1 rfl
      have a1d : w4.drew.cell? ⟨z4, 1, none⟩ = some (.slice pb l.length cb) := a1
      refine region_tail 24 (by kernel_rfl) (by kernel_rfl) ?_
      simp only [List.take_succ_cons, List.take_zero, List.drop_succ_cons, List.drop_zero]
      repeat (go_big_quiet_step (fail))
      refine wpQuiet_nil ?_
      go_wp2_with fail
      refine HC4.out.mono ?_
      rintro e w6 ⟨rfl, k6⟩
      have kf := ((k23.then ka).drew).then k6
      clear HC4 HC k6
      go_wp2_with fail
      go_roundw
      case rel => exact Or.inr ⟨rfl, kf⟩
      case measure => decide
    · go_wp2_with fail
      go_ret
      exact ⟨rfl, k0.then kr⟩
end Go.Proofs.YtliicpedddcfiaaGreat
namespace Go.Proofs.YtliicpedddcfiaaGreat
open Go.RowKit Go.Lib

/-- the frames of the puts. -/
def datL (e num : Nat) (l : List (Int × List UInt8)) : List (List UInt8) := l.map fun x => encF 1 e num x.1.toNat x.2
/-- what the last frame tells. -/
def bodL (k n : Nat) : List UInt8 := leB k 8 ++ [1, 0, 0, UInt8.ofNat n]
def batL (e num k : Nat) (l : List (Int × List UInt8)) : List (List UInt8) := datL e num l ++ [encF 2 e num l.length (bodL k l.length)]
theorem datL_length (e num : Nat) (l : List (Int × List UInt8)) : (datL e num l).length = l.length := by simp [datL]
theorem batL_length (e num k : Nat) (l : List (Int × List UInt8)) : (batL e num k l).length = l.length + 1 := by simp [batL, datL_length]
theorem own_of_row {w : World} {base e g : Nat} {r : List UInt8} (h : w.heap[g]? = some (.cells (Lib.byteCells r).toArray e (0, 0))) (hb : base ≤ g) (hr : r.length ≤ 1000) {n : Nat} (hn : r.length = n) : w.ownsRow base e 1 (.slice (some ⟨g, 0, none⟩) n n) n (Lib.byteCells r) := by
  subst hn
  exact ⟨by simp [Lib.byteCells], .inr ⟨g, r.length, _, rfl, hb, h, Nat.le_refl _, by unfold maxLen; omega, by simp [Lib.byteCells], by rw [List.take_of_length_le (by simp [Lib.byteCells])]⟩⟩
set_option maxRecDepth 100000 in
theorem put64_own (w : World) (v : Nat) (hv : v < 18446744073709551616) {base : Nat} (hb : base ≤ w.heap.size) : Calls Tryz.prog 122 #[.int .u64 v] w fun e w' => ∃ g, e = .returned (.slice (some ⟨g, 0, none⟩) 8 8) ∧ Chg [] w w' ∧ w'.ownsRow base 5 1 (.slice (some ⟨g, 0, none⟩) 8 8) 8 (Lib.byteCells (leB v 8)) := by
  have HP := Lib.hid (bput_any w v 8 (by omega) hv (fun w => by kernel_rfl))
  go_enter Tryz.func122, Tryz.ntmps122
  go_wp2_with fail
  refine HP.out.mono ?_
  rintro e w' ⟨g, rfl, h1, h2, h3⟩
  rw [rowL_full] at h2
  have h4 := own_of_row h2 (Nat.le_trans hb h3) (by rw [leB_length]; decide) (leB_length _ _)
  clear h2
  go_wp2_with fail
  go_ret
  exact ⟨g, rfl, h1, h4⟩
/-- one byte is put behind an own row, as a step of a region that draws. -/
theorem step_append_u8 {ops : Array Oper} {o : Oper} {a : Act} {w : World} {K : Act → World → Prop} {Q : Exit → Act → World → Prop} {E : Prop} (hgd : o.guard = none) (s x : Operand)
    (ho : o.op = .call { callee := .builtin .append, args := #[s, x], argTypes := #[34, 34] }) (base : Nat) (v : Value) (n : Nat) (xs : List UInt8) (hs : a.eval s = v) (hown : w.ownsRow base 5 1 v n (Lib.byteCells xs)) (b c : Nat) (u : UInt8)
    (hx : a.eval x = .slice (some ⟨b, 0, none⟩) 1 c) (c0 : w.cell? ⟨b, 0, none⟩ = some (.int .u8 u.toNat)) (hn : n ≤ 1000000) (hbase : base ≤ w.heap.size)
    (h : ∀ g cap w', w'.ownsRow base 5 1 (.slice (some ⟨g, 0, none⟩) (n + 1) cap) (n + 1) (Lib.byteCells (xs ++ [u])) → Below base w w' → K (a.put o.dst (.slice (some ⟨g, 0, none⟩) (n + 1) cap)) w') :
    if Region.wanted o (yielded ops a.tmps) = true then Oper.wp Tryz.prog o a w K Q else E := by
  obtain ⟨i, hi0, hz, hz1, hz2⟩ := info_parts inf5c
  refine step_append_lies w hgd s x 34 ho base 5 i _ 1 1 ty23 hi0 hz hz1 hz2 rfl (by decide) v n _ hs hown ⟨b, 0, none⟩ 1 c [.int .u8 u.toNat] hx rfl ?_ ?_ (by decide) (by unfold maxLen; omega) (by omega) hbase _ rfl ?_
  · intro j u' hu
    rw [add_lit, Nat.zero_add]
    match j with
    | 0 => cases hu; exact c0
    | j + 1 => simp at hu
  · intro u' hu
    simp at hu
    rcases hu with rfl
    rfl
  · intro g cap w' h2 h3 h4 _
    refine h g cap w' (by rw [byteCells_app]; exact h2) (below_grown hown h3 hbase)
theorem RowsAt.app {w0 w' : World} {base gb cb n : Nat} {v v' : Value} {l : List (List UInt8)} {b : List UInt8} {xs : List Value} (hx : ∀ i (h : i < l.length), ∃ g c, xs[i]? = some (.slice (some ⟨g, 0, none⟩) 64 c) ∧ Bs w0 (some ⟨g, 0, none⟩) l[i] ∧ l[i].length = 64 ∧ Bt w0 g)
    (hn : l.length = n) (ho : w0.ownsRow base 34 1 v n xs) (ha : AppendedV base 34 1 w0 v (n + 1) (xs ++ [.slice (some ⟨gb, 0, none⟩) 64 cb]) v' w') (hb : Bs w0 (some ⟨gb, 0, none⟩) b) (hb4 : b.length = 64) (hbt : Bt w0 gb) : RowsAt w' base v' (l ++ [b]) := by
  subst hn
  obtain ⟨g, c, rfl⟩ := own_some ha.1 (by omega)
  exact RowsAt.push hx (by have := ho.1; omega) (fun g hg => (own_elem ho hg).2) ha.1 (Chg.own ha.2.2 (fun g hg _ => by simp [hg])) hb hb4 hbt
theorem RowsAt.keep0 {w w' : World} {base : Nat} {v : Value} {l : List (List UInt8)} (h : RowsAt w base v l) (hc : Chg [] w w') : RowsAt w' base v l := h.keep hc (Av.nil _ _) (fun _ _ => by simp)
theorem own_unique {w : World} {base e size n : Nat} {v : Value} {xs ys : List Value} (h : w.ownsRow base e size v n xs) (k : w.ownsRow base e size v n ys) : xs = ys := by
  obtain ⟨h1, h2⟩ := h
  obtain ⟨k1, k2⟩ := k
  rcases h2 with ⟨rfl, h0⟩ | ⟨g, cap, cur, rfl, hb, hg, hc, hm, hz, ht⟩
  · subst h0
    rw [Nat.zero_mul, List.length_eq_zero_iff] at h1 k1
    rw [h1, k1]
  · rcases k2 with ⟨e, _⟩ | ⟨g', cap', cur', e, hb', hg', hc', hm', hz', ht'⟩
    · cases e
    · cases e
      rw [hg] at hg'
      cases hg'
      rw [← ht, ← ht']
/-- none of the rows' bytes lie in the block nb. -/
def Away (w : World) (base : Nat) (v : Value) (n : Nat) (nb : Option Nat) : Prop := ∀ xs, w.ownsRow base 34 1 v n xs → ∀ x ∈ xs, ∀ g c, x = .slice (some ⟨g, 0, none⟩) 64 c → some g ≠ nb
theorem Away.nil (w : World) (base : Nat) (nb : Option Nat) : Away w base (.slice none 0 0) 0 nb := by
  intro xs h x hx
  have := h.1
  rw [Nat.zero_mul, List.length_eq_zero_iff] at this
  subst this
  cases hx
theorem Away.keep {w w' : World} {T : List Nat} {base : Nat} {v : Value} {l : List (List UInt8)} {nb : Option Nat} (h : Away w base v l.length nb) (hr : RowsAt w base v l) (hc : Chg T w w') (hT : Av w T [34]) : Away w' base v l.length nb := by
  intro ys ho
  obtain ⟨xs, hx, -⟩ := hr
  have := own_unique (ownsRow_av hx hc hT) ho
  subst this
  exact h _ hx
theorem Away.app {w0 w' : World} {base gb cb n : Nat} {v v' : Value} {nb : Option Nat} {xs : List Value} (h : Away w0 base v n nb) (ho : w0.ownsRow base 34 1 v n xs) (ha : w'.ownsRow base 34 1 v' (n + 1) (xs ++ [.slice (some ⟨gb, 0, none⟩) 64 cb])) (hb : some gb ≠ nb) : Away w' base v' (n + 1) nb := by
  intro ys hy x hx
  have := own_unique ha hy
  subst this
  rw [List.mem_append, List.mem_singleton] at hx
  rcases hx with hx | rfl
  · exact h _ ho x hx
  · intro g c e
    cases e
    exact hb
theorem RowsAt.base {w : World} {b b' : Nat} {v : Value} {l : List (List UInt8)} (h : RowsAt w b v l) (hb : b' ≤ b) : RowsAt w b' v l := by
  obtain ⟨xs, h1, h2⟩ := h
  exact ⟨xs, own_base h1 hb, h2⟩
theorem Away.base {w : World} {b b' : Nat} {v : Value} {l : List (List UInt8)} {nb : Option Nat} (h : Away w b v l.length nb) (hr : RowsAt w b v l) (hb : b' ≤ b) : Away w b' v l.length nb := by
  intro ys ho
  obtain ⟨xs, hx, -⟩ := hr
  have := own_unique (own_base hx hb) ho
  subst this
  exact h _ hx
/-- bytes are put behind an own row in one block; the rows lie in others. -/
theorem rows_grow {w w' : World} {base z n g : Nat} {v v7 : Value} {l : List (List UInt8)} {bs : List Value} (h : RowsAt w base v l) (hA : Away w base v l.length v7.ownBlock) (ho : w.ownsRow z 5 1 v7 n bs) (hg : w.grownBy w' v7.ownBlock) (hi : v7.ownBlock = some g ∨ g = w.heap.size) :
    RowsAt w' base v l ∧ Away w' base v l.length (some g) := by
  obtain ⟨xs, hx, he⟩ := h
  have hc : Chg v7.ownBlock.toList w w' := Chg.own hg (fun g hg _ => by simp [hg])
  have hT : Av w v7.ownBlock.toList [34] := by
    intro x hx cs t fr hh ht
    have hx' : v7.ownBlock = some x := by simpa using hx
    obtain ⟨-, cur, h5⟩ := own_elem ho hx'
    rw [hh] at h5
    cases h5
    simp at ht
  have hx' := ownsRow_av hx hc hT
  have hmem : ∀ i (hi : i < l.length), ∀ g c, xs[i]? = some (.slice (some ⟨g, 0, none⟩) 64 c) → g ∉ v7.ownBlock.toList := by
    intro i hi g c hxi hm
    have hm' : v7.ownBlock = some g := by simpa using hm
    exact hA _ hx _ (List.mem_of_getElem? hxi) g c rfl hm'.symm
  refine ⟨⟨xs, hx', fun i hil => ?_⟩, fun ys hy x hxm g' c' e => ?_⟩
  · obtain ⟨g1, c1, h1, h2, h3, h4⟩ := he i hil
    have := hmem i hil g1 c1 h1
    exact ⟨g1, c1, h1, h2.chgT hc this, h3, h4.keep hc this⟩
  · have := own_unique hx' hy
    subst this
    subst e
    obtain ⟨i, hil, hxi⟩ := List.mem_iff_getElem?.1 hxm |>.imp fun i hi => (⟨by
      have h1 := hx.1
      rw [Nat.mul_one] at h1
      rw [← h1]
      exact (List.getElem?_eq_some_iff.1 hi).1, hi⟩ : i < l.length ∧ xs[i]? = _)
    obtain ⟨g1, c1, h1, -, -, cs, h4⟩ := he i hil
    rw [h1] at hxi
    cases hxi
    rcases hi with hi | rfl
    · rw [← hi]
      exact fun e => hmem i hil _ _ h1 (by simp [e.symm])
    · have := heap_lt h4
      intro e
      cases e
      omega
/-- bytes are put behind an own row. -/
theorem wpList_append_u8 {ops : Array Oper} {rest : List Oper} {o : Oper} {a : Act} {w : World} {Q : Exit → Act → World → Prop} (hgd : o.guard = none) (s x : Operand)
    (ho : o.op = .call { callee := .builtin .append, args := #[s, x], argTypes := #[34, 34] }) (base : Nat) (v : Value) (n : Nat) (xs : List UInt8) (hs : a.eval s = v) (hown : w.ownsRow base 5 1 v n (Lib.byteCells xs)) (b c m : Nat) (r : List UInt8) (hm : r.length = m) (hm0 : 0 < m)
    (hx : a.eval x = .slice (some ⟨b, 0, none⟩) m c) {C : Array Value} {fr : Nat × Nat} (hC : w.heap[b]? = some (.cells C 5 fr)) (hCr : C.toList = Lib.byteCells r) (hn : n + m ≤ 1000000) (hbase : base ≤ w.heap.size)
    (h : ∀ g cap w', w'.ownsRow base 5 1 (.slice (some ⟨g, 0, none⟩) (n + m) cap) (n + m) (Lib.byteCells (xs ++ r)) → w.grownBy w' v.ownBlock → (v.ownBlock = some g ∨ g = w.heap.size) → wpList Tryz.prog ops Q rest (a.put o.dst (.slice (some ⟨g, 0, none⟩) (n + m) cap)) w') : wpList Tryz.prog ops Q (o :: rest) a w := by
  obtain ⟨i, hi0, hz, hz1, hz2⟩ := info_parts inf5c
  refine wpList_append_lies w hgd s x 34 ho base 5 i _ 1 1 ty23 hi0 hz hz1 hz2 rfl (by decide) v n _ hs hown ⟨b, 0, none⟩ m c (Lib.byteCells r) hx (by rw [byteCells_length, hm, Nat.mul_one]) ?_ ?_ hm0 (by unfold maxLen; omega) (by omega) hbase _ rfl ?_
  · rw [← hCr]; exact World.news_of_block hC
  · intro u hu
    simp only [Lib.byteCells, List.mem_map] at hu
    obtain ⟨x, _, rfl⟩ := hu
    rfl
  · intro g cap w' h2 h3 h4 _
    exact h g cap w' (by rw [byteCells_app]; exact h2) h3 h4
set_option maxRecDepth 100000 in
set_option maxHeartbeats 4000000 in
theorem bencode_one (w : World) {lo e num k : Nat} {v : Value} {l : List (Int × List UInt8)} (h : TxOne w lo v k l) (hn0 : 1 ≤ num) (hn1 : num ≤ 1099511627776) (hk0 : 1 ≤ k) (hk1 : k ≤ 1099511627776) (he : e < 4294967296) (hl0 : 0 < l.length) (hl : l.length ≤ 16) (hr : Rise l) (hk : ∀ x ∈ l, 0 ≤ x.1 ∧ x.1 < 258) :
    Calls Tryz.prog 95 #[.agg #[.int .i64 num, v], .int .i64 e] w fun r w' => ∃ v', r = .returned (.tuple #[v', .int .i64 0]) ∧ Chg [] w w' ∧ RowsAt w' w.heap.size v' (batL e num k l) := by
  have k0 : Chg [] w (w.alloc (.cells #[.int .i64 num, v] 134)) := Chg.alloc w _
  have K0 := heap_new w (.cells #[.int .i64 num, v] 134)
  have h1 := h.keep k0
  obtain ⟨g, c, pb, cb, rfl, hc1, -, -, c0, c1, hcb, hp⟩ := h1.open_
  have b0 : (w.alloc (.cells #[.int .i64 num, .slice (some ⟨g, 0, none⟩) 1 c] 134)).cell? ⟨w.heap.size, 0, none⟩ = some (.int .i64 num) := cell_is K0 0 rfl
  have b1 : (w.alloc (.cells #[.int .i64 num, .slice (some ⟨g, 0, none⟩) 1 c] 134)).cell? ⟨w.heap.size, 1, none⟩ = some (.slice (some ⟨g, 0, none⟩) 1 c) := cell_is K0 1 rfl
  have e0 : decide ((e : Int) < 0) = false := decide_eq_false (by omega)
  have e1 : decide (4294967295 < (e : Int)) = false := decide_eq_false (by omega)
  have HO := Lib.hid (bcheck_one _ h1 (num := num) (by omega) (by omega) (by omega) (by omega) hl0 hl hr hk)
  have HP := Lib.hid hp
  have HK := Lib.hid hk
  have HL := Lib.hid (And.intro hl0 hl)
  have HE := Lib.hid he
  have HN := Lib.hid hn1
  have HC := Lib.hid hk1
  have H64 := Lib.hid (show k < 18446744073709551616 by omega)
  have ku : IntKind.u64.wrap (k : Int) = k := by rw [IntKind.wrap_u64]; omega
  have hz0 : w.heap.size ≤ (w.alloc (.cells #[.int .i64 num, .slice (some ⟨g, 0, none⟩) 1 c] 134)).heap.size := k0.size
  clear h h1 hp hr hk hl0 hl he hn0 hn1 hk0 hk1
  go_enter Tryz.func95, Tryz.ntmps95
  go_wp2_with fail
  generalize w.alloc (.cells #[.int .i64 num, .slice (some ⟨g, 0, none⟩) 1 c] 134) = w1 at *
  generalize hz : w.heap.size = z at *
  refine HO.out.mono ?_
  rintro e w2 ⟨rfl, k2⟩
  have b02 := k2.cell b0 (by simp)
  have b12 := k2.cell b1 (by simp)
  have c02 := k2.cell c0 (by simp)
  have c12 := k2.cell c1 (by simp)
  have k02 := k0.then k2
  have HP2 := Lib.hid (HP.out.keep0 k2)
  have hz2 : z ≤ w2.heap.size := hz ▸ k02.size
  clear HO HP b0 b1 c0 c1 k0 k2 K0
  go_upto_region 4 with fail
  have kD0 : Chg [] w2 w2.drew := (Chg.refl [] w2).drew
  have b12d : w2.drew.cell? ⟨z, 1, none⟩ = some (.slice (some ⟨g, 0, none⟩) 1 c) := b12
  have hS : ∀ wx, Chg [] w2 wx → wx.cell? ⟨z, 1, none⟩ = some (.slice (some ⟨g, 0, none⟩) 1 c) := fun wx kx => kx.cell b12 (by simp)
  go_cut [7] from 8 (fun v wx => Chg [] w2 wx ∧ wx.ownsRow w2.heap.size 5 1 v 9 (Lib.byteCells (leB k 8 ++ [1])))
  case first =>
    go_region_held3 (fun wx => wx.cell? ⟨z, 1, none⟩ = some (.slice (some ⟨g, 0, none⟩) 1 c))
      (first | (with_reducible exact hS _ kD0) | (with_reducible exact hS _ kB1) | (with_reducible exact hS _ (kD0.then_alloc _)) | (with_reducible exact hS _ (kB1.then_alloc _)) | (with_reducible exact hS _ (Chg.alloc w2 _)) | (with_reducible exact hS _ (Chg.alloc w2 _).drew) | (with_reducible exact hS _ kF))
      (first
        | (go_at_call 122; refine (put64_own _ k H64.out (base := w2.heap.size) (by first | exact kD0.size | exact (kD0.then_alloc _).size | exact ((Chg.alloc (S := []) w2 _).drew).size)).mono ?_; rintro e wB ⟨gB, rfl, kB, oB⟩; have kB1 : Chg [] w2 wB := (by first | with_reducible exact kD0.then kB | with_reducible exact ((Chg.alloc w2 _).drew).then kB | with_reducible exact (kD0.then_alloc _).then kB))
        | (refine step_append_u8 rfl (.tmp 38) (.tmp 43) rfl w2.heap.size _ 8 _ rfl (ownsRow_chg oB (Chg.alloc (S := []) wB _)) wB.heap.size 1 1 rfl (cell_is (heap_new wB _) 0 rfl) (by decide) (kB1.then_alloc _).size ?_; intro g5 cp5 w5 o5 k5; have kF : Chg [] w2 w5 := Chg.of_below (((kB1.then_alloc _).below (Nat.le_refl _) (by simp)).trans k5))
        | (refine step_append_u8 rfl (.tmp 38) (.tmp 43) rfl w2.heap.size _ 8 _ rfl oB w2.heap.size 1 1 rfl (kB.cell (cell_is (heap_new w2 _) 0 rfl) (by simp)) (by decide) kB1.size ?_; intro g5 cp5 w5 o5 k5; have kF : Chg [] w2 w5 := Chg.of_below ((kB1.below (Nat.le_refl _) (by simp)).trans k5)))
    all_goals
      go_wp2_with fail
      go_meet
      exact ⟨kF, o5⟩
  case rest =>
    obtain ⟨kw, oz⟩ := hcut
    obtain ⟨p7, c7, rfl, -⟩ := own_form oz
    have b0w := kw.cell b02 (by simp)
    have b1w := kw.cell b12 (by simp)
    have c0w := kw.cell c02 (by simp)
    have c1w := kw.cell c12 (by simp)
    have HPw := Lib.hid (HP2.out.keep0 kw)
    have HOz := Lib.hid oz
    have hzw : w2.heap.size ≤ wc.heap.size := kw.size
    clear oz hS kD0 b12d
    go_wp2_with fail
    go_loopw [4, 7, 8, 10, 12, 13, 14, 15, 49] (fun v4 v7 v8 _ _ _ _ _ i wr => (i = .int .i64 0 ∧ wc = wr ∧ v4 = .slice none 0 0 ∧ v7 = .slice p7 9 c7 ∧ v8 = .int .i64 k) ∨ (i = .int .i64 1 ∧ Chg [] w2 wr ∧ RowsAt wr w2.heap.size v4 (datL e num l) ∧ Away wr w2.heap.size v4 (datL e num l).length v7.ownBlock ∧ wr.ownsRow w2.heap.size 5 1 v7 11 (Lib.byteCells (leB k 8 ++ [1, 0, 0])))) (fun _ _ _ _ _ _ _ _ i _ => 1 - (intOf i).toNat)
    case atStart => exact Or.inl ⟨rfl, rfl, rfl, rfl, rfl⟩
    case round =>
      rcases hrel with ⟨rfl, rfl, rfl, rfl, rfl⟩ | ⟨rfl, kr, hv4, hva, hv7⟩
      · have ka : Chg [] wc (wc.alloc (.cells #[.int .i64 k, .slice pb l.length cb] 176)) := Chg.alloc wc _
        have A0 := heap_new wc (.cells #[.int .i64 k, .slice pb l.length cb] 176)
        go_wp2_with fail
        have a0 : (wc.alloc (.cells #[.int .i64 k, .slice pb l.length cb] 176)).cell? ⟨wc.heap.size, 0, none⟩ = some (.int .i64 k) := cell_is A0 0 rfl
        have b0a := ka.cell b0w (by simp)
        have HPa := Lib.hid (HPw.out.keep0 ka)
        have HOa := Lib.hid (ownsRow_chg HOz.out ka)
        have hza : w2.heap.size ≤ (wc.alloc (.cells #[.int .i64 k, .slice pb l.length cb] 176)).heap.size := Nat.le_trans hzw ka.size
        have kwa := kw.then ka
        generalize wc.alloc (.cells #[.int .i64 k, .slice pb l.length cb] 176) = w4 at *
        generalize wc.heap.size = z4 at *
        clear A0
        go_loopw [4, 12, 13, 14, 56] (fun v _ _ _ i wy => ∃ j : Nat, j ≤ l.length ∧ i = .int .i64 j ∧ Chg [] w4 wy ∧ RowsAt wy w4.heap.size v (datL e num (l.take j)) ∧ Away wy w4.heap.size v (datL e num (l.take j)).length (Value.slice p7 9 c7).ownBlock) (fun _ _ _ _ i _ => l.length - (intOf i).toNat)
        case atStart => exact ⟨0, by omega, rfl, Chg.refl _ _, RowsAt.nil _ _, Away.nil _ _ _⟩
        case round =>
          obtain ⟨j, hj, rfl, ky, hrow, haw⟩ := hrel
          by_cases hlt : j < l.length
          · obtain ⟨gp, cap, gd, cd, hpv, hcap, d0, d1, hbd, h40, hbt⟩ := (HPa.out.keep0 ky).get j hlt
            injection hpv with e1 e2 e3
            subst e1 e3
            obtain ⟨hx0, hx1⟩ := HK.out _ (List.getElem_mem hlt)
            have HTk := Lib.hid (show datL e num (l.take (j + 1)) = datL e num (l.take j) ++ [encF 1 e num (l[j]).1.toNat (l[j]).2] by unfold datL; rw [List.take_succ_eq_append_getElem hlt, List.map_append]; rfl)
            have hxe : (l[j]).1 = (((l[j]).1.toNat : Nat) : Int) := by omega
            have hx2 : (l[j]).1.toNat ≤ 1048576 := by omega
            have H40 := Lib.hid h40
            have Hbd := Lib.hid hbd
            have HR := Lib.hid hrow
            have HAw := Lib.hid haw
            have HO9 := Lib.hid (ownsRow_chg HOa.out ky)
            have hl16 : l.length ≤ 16 := HL.out.2
            rw [hxe] at d0
            have hdl : (datL e num (l.take j)).length = j := by rw [datL_length, List.length_take]; omega
            clear hbd h40 hrow hx0 hx1 hxe hbt haw
            generalize (l[j]).1.toNat = x at *
            generalize (l[j]).2 = q at *
            have b0y := ky.cell b0a (by simp)
            have kl : Chg [] wr (wr.alloc (.cells #[.int .i64 x, .slice (some ⟨gd, 0, none⟩) 40 cd] 37)) := Chg.alloc wr _
            have L0 := heap_new wr (.cells #[.int .i64 x, .slice (some ⟨gd, 0, none⟩) 40 cd] 37)
            have l0 : (wr.alloc (.cells #[.int .i64 x, .slice (some ⟨gd, 0, none⟩) 40 cd] 37)).cell? ⟨wr.heap.size, 0, none⟩ = some (.int .i64 x) := cell_is L0 0 rfl
            have l1 : (wr.alloc (.cells #[.int .i64 x, .slice (some ⟨gd, 0, none⟩) 40 cd] 37)).cell? ⟨wr.heap.size, 1, none⟩ = some (.slice (some ⟨gd, 0, none⟩) 40 cd) := cell_is L0 1 rfl
            have b0l := kl.cell b0y (by simp)
            go_wp2_with fail
            generalize wr.alloc (.cells #[.int .i64 x, .slice (some ⟨gd, 0, none⟩) 40 cd] 37) = wl at *
            generalize wr.heap.size = zl at *
            clear L0
            go_wp2_with fail
            refine (fencode_any wl (kind := 1) (by decide) (by decide) HE.out HN.out hx2 H40.out (by decide) (Hbd.out.chg kl)).mono ?_
            rintro r w5 ⟨g5, c5, rfl, k5, hg5, b5, t5⟩
            have k4y : Chg [] w4 w5 := (ky.then kl).then k5
            have hz5 : w4.heap.size ≤ w5.heap.size := k4y.size
            obtain ⟨xs, ho5, hx5⟩ := HR.out.keep0 (kl.then k5)
            rw [hdl] at ho5
            have hA5 := HAw.out.keep HR.out (kl.then k5) (Av.nil _ _)
            rw [hdl] at hA5
            have HA5 := Lib.hid hA5
            have HG5 := Lib.hid (show some g5 ≠ (Value.slice p7 9 c7).ownBlock from fun e5 => by
              obtain ⟨-, cs5, h5⟩ := own_elem (ownsRow_chg HO9.out kl) e5.symm
              have := heap_lt h5
              omega)
            have HO5 := Lib.hid ho5
            have HX5 := Lib.hid hx5
            have B5 := Lib.hid b5
            have T5 := Lib.hid t5
            have E5 := Lib.hid (encF_length 1 e num x q (by rw [H40.out]; decide))
            clear ho5 hx5 b5 t5 HR hA5 HAw HO9
            go_wp2_with (at_builtin; refine wpList_append_lit rfl (.tmp 72) (.tmp 74) 95 34 rfl ty132 inf23 rfl (by decide) w4.heap.size w5 [.slice (some ⟨g5, 0, none⟩) 64 c5] 1 rfl _ j xs rfl HO5.out (by have := HL.out.2; omega) (by decide) hz5 (k := 0) rfl (by simp [Value.oneCell']) rfl 1 rfl ?_; intro v' w6 hap)
            have hfin := RowsAt.app HX5.out hdl HO5.out hap B5.out E5.out T5.out
            have hfa := Away.app HA5.out HO5.out hap.1 HG5.out
            have hdl2 : (datL e num (l.take (j + 1))).length = j + 1 := by rw [HTk.out, List.length_append, hdl]; rfl
            rw [← HTk.out] at hfin
            rw [← hdl2] at hfa
            have k6 : Chg [] w4 w6 := Chg.of_below (k4y.below0.trans hap.2.1)
            go_roundw
            case rel => exact ⟨j + 1, by omega, by go_num, k6, hfin, hfa⟩
            case measure => simp [intOf]; omega
          · obtain rfl : j = l.length := by omega
            rw [List.take_length] at hrow haw
            have HRy := Lib.hid hrow
            have HAy := Lib.hid haw
            have a0y := ky.cell a0 (by simp)
            have hzy := Nat.le_trans hza ky.size
            have kwy := kwa.then ky
            have HOy := Lib.hid (ownsRow_chg HOa.out ky)
            clear hrow haw
            have kt : Chg [] wr (wr.alloc (.cells #[.int .u8 0, .int .u8 0] 5)) := Chg.alloc wr _
            go_wp2_with (at_builtin; refine wpList_append_u8 rfl (.tmp 83) (.tmp 89) rfl w2.heap.size _ 9 _ rfl (ownsRow_chg HOy.out kt) wr.heap.size 2 2 [0, 0] rfl (by decide) rfl (heap_new wr _) rfl (by decide) (Nat.le_trans hzy kt.size) ?_; intro g6 c6 w6 o6 k6 i6)
            obtain ⟨hr6, ha6⟩ := rows_grow (HRy.out.keep0 kt) (HAy.out.keep HRy.out kt (Av.nil _ _)) (ownsRow_chg HOy.out kt) k6 i6
            have kf : Chg [] w2 w6 := Chg.of_below ((kwy.then kt).below0.trans (below_grown (ownsRow_chg HOy.out kt) k6 (Nat.le_trans hzy kt.size)))
            go_roundw
            case rel => exact Or.inr ⟨rfl, kf, hr6.base hza, ha6.base hr6 hza, o6⟩
            case measure => decide
      · obtain ⟨p8, c8, rfl, -⟩ := own_form hv7
        obtain ⟨xs4, ho4, hx4⟩ := hv4
        obtain ⟨p4, c4, rfl, hc4⟩ := own_form ho4
        have HR := Lib.hid (show RowsAt wr w2.heap.size (.slice p4 (datL e num l).length c4) (datL e num l) from ⟨xs4, ho4, hx4⟩)
        have HAw := Lib.hid hva
        have HO7 := Lib.hid hv7
        have b0r := kr.cell b02 (by simp)
        have b1r := kr.cell b12 (by simp)
        have c0r := kr.cell c02 (by simp)
        have c1r := kr.cell c12 (by simp)
        have hzr := kr.size
        have hu8 : IntKind.u8.wrap (l.length : Int) = l.length := by have := HL.out.2; rw [IntKind.wrap_u8]; omega
        clear hva hv7 ho4 hx4
        go_wp2_with fail
        go_loopw [7, 17, 95] (fun v7 _ i wx => (i = .int .i64 0 ∧ wr = wx ∧ v7 = .slice p8 11 c8) ∨ (i = .int .i64 1 ∧ Chg [] w2 wx ∧ RowsAt wx w2.heap.size (.slice p4 (datL e num l).length c4) (datL e num l) ∧ wx.ownsRow w2.heap.size 5 1 v7 12 (Lib.byteCells (bodL k l.length)))) (fun _ _ i _ => 1 - (intOf i).toNat)
        case atStart => exact Or.inl ⟨rfl, rfl, rfl⟩
        case round =>
          rename World => wz
          rcases hrel with ⟨rfl, rfl, rfl⟩ | ⟨rfl, kz, hv4, hv7⟩
          · have ka : Chg [] wr (wr.alloc (.cells #[.int .i64 k, .slice pb l.length cb] 176)) := Chg.alloc wr _
            have A0 := heap_new wr (.cells #[.int .i64 k, .slice pb l.length cb] 176)
            have L0 := (two_new wr (.cells #[.int .i64 k, .slice pb l.length cb] 176) (.cells #[.int .u8 l.length] 5)).2
            have kt := ka.then_alloc (.cells #[.int .u8 l.length] 5)
            have HLn := Lib.hid (show (#[Value.int .u8 l.length]).toList = Lib.byteCells [UInt8.ofNat l.length] by
              have e1 : (UInt8.ofNat l.length).toNat = l.length := by have := HL.out.2; simp; omega
              simp only [Lib.byteCells, List.map_cons, List.map_nil, e1])
            have hBd := Lib.hid (show leB k 8 ++ [1, 0, 0] ++ [UInt8.ofNat l.length] = bodL k l.length by simp [bodL])
            go_wp2_with (at_builtin; refine wpList_append_u8 rfl (.tmp 99) (.tmp 104) rfl w2.heap.size _ 11 _ rfl (ownsRow_chg HO7.out kt) (wr.heap.size + 1) 1 1 [UInt8.ofNat l.length] rfl (by decide) rfl L0 HLn.out (by decide) (Nat.le_trans hzr kt.size) ?_; intro g6 c6 w6 o6 k6 i6)
            obtain ⟨hr6, ha6⟩ := rows_grow (HR.out.keep0 kt) (HAw.out.keep HR.out kt (Av.nil _ _)) (ownsRow_chg HO7.out kt) k6 i6
            rw [hBd.out] at o6
            have kf : Chg [] w2 w6 := Chg.of_below ((kr.then kt).below0.trans (below_grown (ownsRow_chg HO7.out kt) k6 (Nat.le_trans hzr kt.size)))
            go_roundw
            case rel => exact Or.inr ⟨rfl, kf, hr6, o6⟩
            case measure => decide
          · obtain ⟨p9, c9, rfl, -⟩ := own_form hv7
            have b0z := kz.cell b02 (by simp)
            have HRz := Lib.hid hv4
            have H9 := Lib.hid (Bs.own hv7)
            have hbl : (bodL k l.length).length = 12 := by simp [bodL, leB_length]
            have HLz := Lib.hid hbl
            have hdl : (datL e num l).length = l.length := datL_length _ _ _
            clear hv7 hbl
            go_wp2_with fail
            refine (fencode_any wz (kind := 2) (lba := l.length) (by decide) (by decide) HE.out HN.out (by have := HL.out.2; omega) HLz.out (by decide) H9.out).mono ?_
            rintro r w5 ⟨g5, c5, rfl, k5, hg5, b5, t5⟩
            have kz5 := kz.then k5
            obtain ⟨xs, ho5, hx5⟩ := HRz.out.keep0 k5
            rw [hdl] at ho5
            have HO5 := Lib.hid ho5
            have HX5 := Lib.hid hx5
            have B5 := Lib.hid b5
            have T5 := Lib.hid t5
            have E5 := Lib.hid (encF_length 2 e num l.length (bodL k l.length) (by rw [HLz.out]; decide))
            clear ho5 hx5 b5 t5 hv4
            go_wp2_with (at_builtin; refine wpList_append_lit rfl (.tmp 118) (.tmp 120) 95 34 rfl ty132 inf23 rfl (by decide) w2.heap.size w5 [.slice (some ⟨g5, 0, none⟩) 64 c5] 1 rfl _ l.length xs rfl HO5.out (by have := HL.out.2; omega) (by decide) kz5.size (k := 0) rfl (by simp [Value.oneCell']) rfl 1 rfl ?_; intro v' w6 hap)
            have hfin := RowsAt.app HX5.out hdl HO5.out hap B5.out E5.out T5.out
            have k6 : Chg [] w w6 := k02.then (Chg.of_below (kz5.below0.trans hap.2.1))
            have HF := Lib.hid (show RowsAt w6 z v' (batL e num k l) from hfin.base hz2)
            clear hfin hap
            go_wp2_with fail
            go_ret2
            exact ⟨_, rfl, k6, by rw [hz]; exact HF.out⟩
end Go.Proofs.YtliicpedddcfiaaGreat
namespace Go.Proofs.YtliicpedddcfiaaGreat
open Go.RowKit Go.Lib

section
variable {base : Nat} {d : Ids} {p : Par} {F : World → Prop}
set_option maxRecDepth 100000 in
theorem geom_hdr (w : World) {N A c : Nat} (h : ∃ ops, w.heap[N]? = some (.cells #[.int .i64 8, .int .i64 96, .slice (some ⟨A, 0, none⟩) 8 c, .int .i64 ops, .int .i64 0, .bool false, .int .i64 0, .bool false] 93 (0, 0))) : Calls Tryz.prog 33 #[.pointer (some ⟨N, 0, none⟩)] w fun e w' => e = .returned (.agg #[.int .i64 8, .int .i64 96]) ∧ Chg [] w w' := by
  obtain ⟨ops, h⟩ := h
  have hgone : ∀ w1 : World, w1.heap[N]? = some (.cells #[.int .i64 8, .int .i64 96, .slice (some ⟨A, 0, none⟩) 8 c, .int .i64 ops, .int .i64 0, .bool false, .int .i64 0, .bool false] 93 (0, 0)) → Calls Tryz.prog 56 #[.pointer (some ⟨N, 0, none⟩)] w1 fun e w' => e = .returned (.bool false) ∧ w1 = w' := by
    intro w1 h1
    have e2 : w1.cell? ⟨N, 2, none⟩ = some (.slice (some ⟨A, 0, none⟩) 8 c) := cell_is h1 2 rfl
    clear h h1
    go_enter Tryz.func56, Tryz.ntmps56
    go_wp2_with fail
    go_ret
    exact ⟨rfl, rfl⟩
  have HG := Lib.hid hgone
  clear hgone
  go_enter Tryz.func33, Tryz.ntmps33
  go_wp2_with fail
  have g0 := heap_new w (.cells #[.int .i64 0, .int .i64 0] 28)
  have hc : Chg [] w (w.alloc (.cells #[.int .i64 0, .int .i64 0] 28)) := Chg.alloc _ _
  have h2 := hc.heap h (by simp)
  have hN := heap_lt h
  generalize w.alloc (.cells #[.int .i64 0, .int .i64 0] 28) = w1 at *
  refine (HG.out w1 h2).mono ?_
  rintro e w2 ⟨rfl, rfl⟩
  have e0 : w1.cell? ⟨N, 0, none⟩ = some (.int .i64 8) := cell_is h2 0 rfl
  have e1 : w1.cell? ⟨N, 1, none⟩ = some (.int .i64 96) := cell_is h2 1 rfl
  have c0 := cell_is g0 0 rfl
  have c1 := cell_is g0 1 rfl
  have f0 := unfrozen g0 0
  have f1 := unfrozen g0 1
  clear h h2 g0
  go_wp2_with fail
  refine bodyPost_ret (v := .agg #[.int .i64 8, .int .i64 96]) (by simp [results, Tryz.results33, go_sem, c0, c1]) rfl ?_
  exact ⟨rfl, (hc.new_set (by omega) _ _).new_set (by omega) _ _⟩
end
end Go.Proofs.YtliicpedddcfiaaGreat
namespace Go.Proofs.YtliicpedddcfiaaGreat
open Go.RowKit Go.Lib

/-- block P is a store on the device N: where its log stands, how many batches it has. -/
def StoreG (w : World) (P N S M : Nat) (pos num : Nat) : Prop :=
  w.heap[P]? = some (.cells #[.pointer (some ⟨N, 0, none⟩), .int .i64 0, .int .i64 3, .int .i64 6, .int .i64 7, .pointer (some ⟨M, 0, none⟩), .pointer (some ⟨S, 0, none⟩), .int .i64 pos, .int .i64 num, .bool false] 105 (0, 0))
theorem RowsAt.get {w : World} {base : Nat} {v : Value} {l : List (List UInt8)} (h : RowsAt w base v l) (k : Nat) (hk : k < l.length) : ∃ g cap gd cd, v = .slice (some ⟨g, 0, none⟩) l.length cap ∧ l.length ≤ cap ∧
    w.cell? ⟨g, k, none⟩ = some (.slice (some ⟨gd, 0, none⟩) 64 cd) ∧ Bs w (some ⟨gd, 0, none⟩) l[k] ∧ l[k].length = 64 ∧ Bt w gd := by
  obtain ⟨xs, ho, hx⟩ := h
  obtain ⟨gd, cd, h1, h2, h3, h4⟩ := hx k hk
  rcases ho.2 with ⟨_, e⟩ | ⟨g, cap, cur, rfl, hA, hg, hc1, hc2, hc3, ht⟩
  · omega
  · refine ⟨g, cap, gd, cd, rfl, hc1, cell_is hg _ ?_, h2, h3, h4⟩
    rw [← ht, List.getElem?_take_of_lt (by omega), Array.getElem?_toList] at h1
    exact h1
theorem upF_self {α : Type} (f : Nat → α) (j : Nat) : upF f j (f j) = f := by
  funext k
  unfold upF
  split
  · rename_i h; rw [h]
  · rfl
theorem upF_twice {α : Type} (f : Nat → α) (j : Nat) (x y : α) : upF (upF f j x) j y = upF f j y := by
  funext k
  unfold upF
  split <;> rfl
theorem upF_same {α : Type} (f : Nat → α) (j : Nat) (x : α) : upF f j x j = x := by simp [upF]
theorem wrap64_id (x : Int) (h0 : 0 ≤ x) (h1 : x < 4611686018427387904) : wrap64 x = x := by unfold wrap64; omega
theorem pos_wrap (pos n m : Nat) (h : n = m + 1) (hp : pos + n < 1000) : wrap64 ((pos : Int) + (n : Nat)) = ((pos + m + 1 : Nat) : Int) := by
  rw [wrap64_id _ (by omega) (by omega)]
  omega
/-- where the writing of a batch stands: j blocks are written. -/
structure Wl (w wz : World) (base N A c : Nat) (ops : Int) (Z : List Nat) (vs : Nat → Value) (gs : Nat → Nat) (zs : Nat → List (List UInt8)) (z6 : Nat) (P S M pos num lo : Nat) (v : Value) (bl : List (List UInt8)) (j : Nat) : Prop where
  dev : ∃ v6, DevG wz base N A c (ops + j) Z (upF vs 6 v6) gs (upF zs 6 (zs 6 ++ bl.take j)) ∧ (∀ g, v6.ownBlock = some g → (vs 6).ownBlock = some g ∨ w.heap.size ≤ g) ∧ (∀ g, v6.ownBlock = some g → v.ownBlock ≠ some g)
  rows : RowsAt wz lo v bl
  store : StoreG wz P N S M pos num
  chg : Chg (N :: z6 :: (vs 6).ownBlock.toList) w wz
/-- one block more is written. -/
theorem Wl.step {w wz wy : World} {base N A c : Nat} {ops : Int} {Z : List Nat} {vs : Nat → Value} {gs : Nat → Nat} {zs : Nat → List (List UInt8)} {P S M pos num lo : Nat} {v : Value} {bl : List (List UInt8)} {j : Nat} (h6 : 6 < Z.length)
    (hj : j < bl.length) (hrows : RowsAt wz lo v bl) (hstore : StoreG wz P N S M pos num) (hchg : Chg (N :: Z[6] :: (vs 6).ownBlock.toList) w wz) {v6 v' : Value} (hd : DevG wz base N A c (ops + j) Z (upF vs 6 v6) gs (upF zs 6 (zs 6 ++ bl.take j))) (hn1 : ∀ g, v6.ownBlock = some g → (vs 6).ownBlock = some g ∨ w.heap.size ≤ g) (hn2 : ∀ g, v6.ownBlock = some g → v.ownBlock ≠ some g)
    (kc : Chg (N :: Z[6] :: (upF vs 6 v6 6).ownBlock.toList) wz wy) (hd' : DevG wy base N A c (ops + j + 1) Z (upF (upF vs 6 v6) 6 v') gs (upF (upF zs 6 (zs 6 ++ bl.take j)) 6 (upF zs 6 (zs 6 ++ bl.take j) 6 ++ [bl[j]])))
    (hv' : ∀ g, v'.ownBlock = some g → (upF vs 6 v6 6).ownBlock = some g ∨ wz.heap.size ≤ g) : Wl w wy base N A c ops Z vs gs zs Z[6] P S M pos num lo v bl (j + 1) := by
  rw [upF_same] at kc hv'
  rw [upF_twice, upF_twice, upF_same, List.append_assoc, ← List.take_succ_eq_append_getElem hj, show ops + (j : Int) + 1 = ops + ((j + 1 : Nat) : Int) by omega] at hd'
  have hz := hd.zone 6 h6
  have hr6 := hd.rows 6 (by omega)
  rw [upF_same] at hz hr6
  have hb23 := hr6.block
  have hs := hchg.size
  have rb := hrows.block
  have av : Av wz (N :: Z[6] :: v6.ownBlock.toList) [5, 105] := fun x hx cs t fr hh => by
    rcases List.mem_cons.1 hx with rfl | hx
    · rw [hd.hdr] at hh; cases hh; simp
    · rcases List.mem_cons.1 hx with rfl | hx
      · rw [hz] at hh; cases hh; simp
      · obtain ⟨cs2, h2⟩ := hb23 x (by simpa using hx)
        rw [h2] at hh; cases hh; simp
  refine ⟨⟨v', hd', fun g hg => ?_, fun g hg hvg => ?_⟩, hrows.keep kc (fun x hx cs t fr hh ht => av x hx cs t fr hh (by simp at ht; simp [ht])) (fun g hg hm => ?_), kc.heap hstore (av.ne hstore (by simp)), hchg.trans kc (fun x hx hlt => ?_)⟩
  · rcases hv' g hg with h | h
    · exact hn1 g h
    · exact Or.inr (by omega)
  · rcases hv' g hg with h | h
    · exact hn2 g h hvg
    · obtain ⟨cs, h2⟩ := rb g hvg
      have := heap_lt h2
      omega
  · obtain ⟨cs, h2⟩ := rb g hg
    rcases List.mem_cons.1 hm with rfl | hm
    · rw [hd.hdr] at h2; cases h2
    · rcases List.mem_cons.1 hm with rfl | hm
      · rw [hz] at h2; cases h2
      · exact hn2 g (by simpa using hm) hg
  · rcases List.mem_cons.1 hx with rfl | hx
    · exact List.mem_cons_self
    · rcases List.mem_cons.1 hx with rfl | hx
      · exact List.mem_cons_of_mem _ List.mem_cons_self
      · rcases hn1 x (by simpa using hx) with h | h
        · exact List.mem_cons_of_mem _ (List.mem_cons_of_mem _ (by simpa using h))
        · omega
set_option maxRecDepth 100000 in
set_option maxHeartbeats 8000000 in
theorem swrite_log (w : World) {base lo N A c P S M pos num cnt k : Nat} {ops num0 : Int} {Z : List Nat} {vs : Nat → Value} {gs : Nat → Nat} {zs : Nat → List (List UInt8)} {v : Value} {l : List (Int × List UInt8)}
    (hP : StoreG w P N S M pos num) (HL : ∀ w1, Chg [] w w1 → Calls Tryz.prog 35 #[.pointer (some ⟨S, 0, none⟩)] w1 fun e w' => ∃ u, e = .returned (.tuple #[u, .int .i64 cnt]) ∧ Chg [] w1 w')
    (hD : DevG w base N A c ops Z vs gs zs) (h0 : 0 ≤ ops) (h1 : ops ≤ 100000) (hlow : base ≤ N) (hT : TxOne w lo v k l) (hk0 : 1 ≤ k) (hk1 : k ≤ 1099511627776) (hcnt : cnt < 4294967296) (hnum : num < 1099511627776) (hl0 : 0 < l.length) (hl : l.length ≤ 16) (hr : Rise l) (hk : ∀ x ∈ l, 0 ≤ x.1 ∧ x.1 < 258)
    (hroom : (zs 6).length + l.length + 1 ≤ 96) (hpos : pos + l.length + 1 ≤ 96) (h6 : 6 < Z.length) :
    Calls Tryz.prog 54 #[.pointer (some ⟨P, 0, none⟩), .agg #[.int .i64 num0, v]] w fun e w' => e = .returned (.int .i64 0) ∧ Chg (P :: N :: Z ++ (vs 6).ownBlock.toList) w w' ∧ StoreG w' P N S M (pos + l.length + 1) (num + 1) ∧
      ∃ v6, DevG w' base N A c (ops + l.length + 2) Z (upF vs 6 v6) (goodF gs (upF zs 6 (zs 6 ++ batL cnt (num + 1) k l)) 8) (upF zs 6 (zs 6 ++ batL cnt (num + 1) k l)) := by
  obtain ⟨gt, ct, pbt, cbt, rfl, -, -, -, -, -, -, -⟩ := hT.open_
  have k0 : Chg [] w (w.alloc (.cells #[.int .i64 num0, .slice (some ⟨gt, 0, none⟩) 1 ct] 134)) := Chg.alloc w _
  have K0 := heap_new w (.cells #[.int .i64 num0, .slice (some ⟨gt, 0, none⟩) 1 ct] 134)
  have hP0 := k0.heap hP (by simp)
  have p6 : (w.alloc (.cells #[.int .i64 num0, .slice (some ⟨gt, 0, none⟩) 1 ct] 134)).cell? ⟨P, 6, none⟩ = some (.pointer (some ⟨S, 0, none⟩)) := cell_is hP0 6 rfl
  have HL0 := Lib.hid (HL _ k0)
  have HP := Lib.hid hP
  have HD := Lib.hid hD
  have HT := Lib.hid hT
  clear HL hP hD hT
  go_enter Tryz.func54, Tryz.ntmps54
  go_wp2_with fail
  generalize w.alloc (.cells #[.int .i64 num0, .slice (some ⟨gt, 0, none⟩) 1 ct] 134) = w1 at *
  generalize hz : w.heap.size = K at *
  refine HL0.out.mono ?_
  rintro e w2 ⟨u, rfl, k2'⟩
  have k2 := k0.then k2'
  have K2 := k2'.heap K0 (by simp)
  have hP2 := k2.heap HP.out (by simp)
  have p8 : w2.cell? ⟨P, 8, none⟩ = some (.int .i64 num) := cell_is hP2 8 rfl
  have q0 : w2.cell? ⟨K, 0, none⟩ = some (.int .i64 num0) := cell_is K2 0 rfl
  have z0 : w2.frozen? ⟨K, 0, none⟩ = false := unfrozen K2 0
  have kS : Chg [] w (w2.setCell ⟨K, 0, none⟩ (.int .i64 ((num : Int) + 1))) := k2.new_set (by omega) 0 _
  have K3 : (w2.setCell ⟨K, 0, none⟩ (.int .i64 ((num : Int) + 1))).heap[K]? = some (.cells #[.int .i64 ((num : Int) + 1), .slice (some ⟨gt, 0, none⟩) 1 ct] 134 (0, 0)) := heap_set K2 0 _ rfl
  have a0 : (w2.setCell ⟨K, 0, none⟩ (.int .i64 ((num : Int) + 1))).cell? ⟨K, 0, none⟩ = some (.int .i64 ((num : Int) + 1)) := cell_is K3 0 rfl
  have a1 : (w2.setCell ⟨K, 0, none⟩ (.int .i64 ((num : Int) + 1))).cell? ⟨K, 1, none⟩ = some (.slice (some ⟨gt, 0, none⟩) 1 ct) := cell_is K3 1 rfl
  have hE := bencode_one _ (e := cnt) (num := num + 1) (HT.out.keep kS) (by omega) (by omega) hk0 hk1 hcnt hl0 hl hr hk
  rw [show ((num + 1 : Nat) : Int) = (num : Int) + 1 by omega] at hE
  have HE := Lib.hid hE
  clear hE
  clear p6 HL0 K0 k2' K2 hP2 K3 hk
  go_wp2_with fail
  obtain ⟨lo3, hlo3⟩ : ∃ lo3, lo3 = (w2.setCell ⟨K, 0, none⟩ (.int .i64 ((num : Int) + 1))).heap.size := ⟨_, rfl⟩
  have HLo := Lib.hid (show w.heap.size ≤ lo3 from by rw [hlo3]; exact kS.size)
  rw [← hlo3] at HE
  clear hlo3
  refine HE.out.mono ?_
  rintro e w3 ⟨v', rfl, k3', hrows⟩
  have k3 := kS.then k3'
  have hP3 := k3.heap HP.out (by simp)
  have hD3 := HD.out.keep k3 (Av.nil _ _)
  have hbl : (batL cnt (num + 1) k l).length = l.length + 1 := batL_length _ _ _ _
  have h64 : ∀ x ∈ batL cnt (num + 1) k l, x.length = 64 := fun x hx => by
    obtain ⟨i, hi, rfl⟩ := List.getElem_of_mem hx
    obtain ⟨-, -, -, -, -, -, -, -, h, -⟩ := hrows.get i hi
    exact h
  obtain ⟨gr, cr, gd', cd', hv', hcr, -, -, -, -⟩ := hrows.get 0 (by omega)
  subst hv'
  have HR := Lib.hid hrows
  have HD3 := Lib.hid hD3
  have HP3 := Lib.hid hP3
  have HGm := Lib.hid (geom_hdr w3 (N := N) (A := A) (c := c) ⟨_, hD3.hdr⟩)
  have p0 : w3.cell? ⟨P, 0, none⟩ = some (.pointer (some ⟨N, 0, none⟩)) := cell_is hP3 0 rfl
  have HBL := Lib.hid hbl
  have hsz3 := k3.size
  have hlr : lo3 ≤ gr := by
    obtain ⟨xs, ho, -⟩ := hrows
    exact (own_elem ho rfl).1
  have HV6 := Lib.hid (show ∀ g, (vs 6).ownBlock = some g → g < w.heap.size from fun g hg => by
    obtain ⟨cs, h5⟩ := (HD.out.rows 6 (by omega)).block g hg
    exact heap_lt h5)
  clear HE kS a0 a1 q0 z0 p8 HD HT k2 k3' hD3 hrows hbl hP3
  obtain ⟨bl, hbl'⟩ : ∃ bl, batL cnt (num + 1) k l = bl := ⟨_, rfl⟩
  rw [hbl'] at HR HBL h64
  rw [hbl']
  have HBb := Lib.hid hbl'
  clear hbl'
  go_wp2_with fail
  refine HGm.out.mono ?_
  rintro e w4 ⟨rfl, k4⟩
  have hP4 := k4.heap HP3.out (by simp)
  have HD4 := Lib.hid (HD3.out.keep k4 (Av.nil _ _))
  have HR4 := Lib.hid (HR.out.keep0 k4)
  have hfs := field_size
  have p7 : w4.cell? ⟨P, 7, none⟩ = some (.int .i64 pos) := cell_is hP4 7 rfl
  have p4 : w4.cell? ⟨P, 4, none⟩ = some (.int .i64 7) := cell_is hP4 4 rfl
  have p3 : w4.cell? ⟨P, 3, none⟩ = some (.int .i64 6) := cell_is hP4 3 rfl
  have hpn : IntKind.i64.wrap ((pos : Int) + (bl.length : Nat)) = (pos : Int) + (bl.length : Nat) := by rw [IntKind.wrap_i64]; have := HBL.out; omega
  have hgt : decide (192 < (pos : Int) + (bl.length : Nat)) = false := decide_eq_false (by have := HBL.out; omega)
  have HP4 := Lib.hid hP4
  have kk4 := k3.then k4
  clear hP4 HGm p0 HP3 HD3 HR k4 k3
  go_wp2_with fail
  go_quiet (fail)
  have kd : Chg [] w4 (w4.drewN nq) := (Chg.refl [] w4).drewN nq
  have k5 := kk4.then kd
  have hD5 := HD4.out.keep kd (Av.nil _ _)
  have hR5 := HR4.out.keep0 kd
  have hP5 : StoreG (w4.drewN nq) P N S M pos num := HP4.out
  have hW5 : Wl w (w4.drewN nq) base N A c ops Z vs gs zs Z[6] P S M pos num lo3 (.slice (some ⟨gr, 0, none⟩) bl.length cr) bl 0 := by
    refine ⟨⟨vs 6, ?_, fun g hg => Or.inl hg, fun g hg e => ?_⟩, hR5, hP5, k5.mono (fun x hx _ => by cases hx)⟩
    · rw [upF_self, List.take_zero, List.append_nil, upF_self]
      simpa using hD5
    · have h5 := HV6.out g hg
      have h6 := hlr
      have e' : gr = g := Option.some.inj e
      subst e'
      have := HLo.out
      omega
  have HW5 := Lib.hid hW5
  clear hW5 hR5 hP5 hD5 HD4 HR4 HP4 p7 p4 p3 hpn hgt hfs
  generalize w4.drewN nq = w5 at *
  go_wp2_with fail
  go_loopw [10, 11, 12, 13, 68] (fun _ _ _ _ i wr => ∃ j : Nat, j ≤ bl.length ∧ i = .int .i64 j ∧ Wl w wr base N A c ops Z vs gs zs Z[6] P S M pos num lo3 (.slice (some ⟨gr, 0, none⟩) bl.length cr) bl j) (fun _ _ _ _ i _ => bl.length - (intOf i).toNat)
  case atStart => exact ⟨0, by omega, rfl, HW5.out⟩
  case round =>
    obtain ⟨j, hj, rfl, hWr⟩ := hrel
    rename World => wr
    clear HW5
    by_cases hlt : j < bl.length
    · obtain ⟨⟨v6, hd, hn1, hn2⟩, hrows, hstore, hchg⟩ := hWr
      obtain ⟨gr1, cap1, gd, cd, hv1, -, r0, hbs, h64j, hbt⟩ := hrows.get j hlt
      cases hv1
      have hlti : (j : Int) < bl.length := by omega
      have HBL1 := HBL.out
      have nN : gd ≠ N := by
        obtain ⟨cs, hh⟩ := hbt
        exact heap_ne hh hd.hdr (by simp)
      have kdr : Chg [] wr wr.drew := (Chg.refl [] wr).drew
      have hdd := hd.keep kdr (Av.nil _ _)
      have hA := dappend_any wr.drew (cd := cd) hdd (by omega) (by omega) 6 h6 (by rw [upF_same, List.length_append, List.length_take]; omega) (hbs.chg kdr) h64j (fun g hg => by subst hg; exact nN) hlow
      rw [show ((6 : Nat) : Int) = 6 from rfl] at hA
      have HA := Lib.hid hA
      have kdr' := kdr.mono (T := N :: Z[6] :: (upF vs 6 v6 6).ownBlock.toList) (fun x hx _ => by cases hx)
      have hz6 := hd.zone 6 h6
      have hr6 := hd.rows 6 (by omega)
      have nP : P ∉ N :: Z[6] :: (upF vs 6 v6 6).ownBlock.toList := fun hm => by
        rcases List.mem_cons.1 hm with e | hm
        · exact heap_ne hstore hd.hdr (by simp) e
        · rcases List.mem_cons.1 hm with e | hm
          · exact heap_ne hstore hz6 (by simp) e
          · obtain ⟨cs, hh⟩ := hr6.block P (by simpa using hm)
            rw [hstore] at hh
            cases hh
      have p0 : wr.cell? ⟨P, 0, none⟩ = some (.pointer (some ⟨N, 0, none⟩)) := cell_is hstore 0 rfl
      have p3 : wr.cell? ⟨P, 3, none⟩ = some (.int .i64 6) := cell_is hstore 3 rfl
      have p7 : wr.cell? ⟨P, 7, none⟩ = some (.int .i64 pos) := cell_is hstore 7 rfl
      have hq1 : IntKind.i64.wrap ((pos : Int) + (j : Nat)) = (pos : Int) + (j : Nat) := by rw [IntKind.wrap_i64]; omega
      have hq2 : ((pos : Int) + (j : Nat)).tdiv 96 = 0 := by
        rw [Int.tdiv_eq_ediv_of_nonneg (by omega)]
        omega
      have HW := Lib.hid (fun wy v' kc hd' hv' => Wl.step (wy := wy) (v' := v') h6 hlt hrows hstore hchg hd hn1 hn2 kc hd' hv')
      have HnP := Lib.hid nP
      clear hd hn1 hn2 hrows hstore hchg hbs h64j hbt nN hdd hA hz6 hr6 nP HBL1
      go_wp2_with fail
      go_region_held3 (fun wx => wx.cell? ⟨P, 0, none⟩ = some (.pointer (some ⟨N, 0, none⟩)) ∧ wx.cell? ⟨P, 3, none⟩ = some (.int .i64 6) ∧ wx.cell? ⟨P, 7, none⟩ = some (.int .i64 pos))
        (first
          | (exact ⟨p0, p3, p7⟩)
          | (exact ⟨kc.cell p0 HnP.out, kc.cell p3 HnP.out, kc.cell p7 HnP.out⟩))
        (first
          | (go_at_call 96; refine HA.out.mono ?_; rintro e w6 ⟨v', rfl, kc', dc, hvc⟩; have kc := kdr'.then kc'))
      have hWn := Lib.hid (HW.out _ _ kc dc hvc)
      have hb16 : bl.length ≤ 17 := by have := HBL.out; omega
      clear HW HA HnP kc dc hvc kc' p0 p3 p7
      go_wp2_with fail
      exact ⟨⟨j + 1, by omega, by go_num, hWn.out⟩, by simp [intOf]; omega⟩
    · obtain rfl : j = bl.length := by omega
      obtain ⟨⟨v6, hd, -, -⟩, -, hstore, hchg⟩ := hWr
      rw [List.take_length] at hd
      have HF := Lib.hid (dflush_any wr hd (by omega) (by have := HBL.out; omega))
      have p0 : wr.cell? ⟨P, 0, none⟩ = some (.pointer (some ⟨N, 0, none⟩)) := cell_is hstore 0 rfl
      have nP : P ∉ N :: Z := fun hm => by
        rcases List.mem_cons.1 hm with e | hm
        · exact heap_ne hstore hd.hdr (by simp) e
        · obtain ⟨i, hi, e⟩ := List.getElem_of_mem hm
          exact heap_ne hstore (hd.zone i hi) (by simp) e.symm
      have HS := Lib.hid hstore
      have HnP := Lib.hid nP
      have HCg := Lib.hid hchg
      have Hpb := Lib.hid (show pos + bl.length < 1000 by have := HBL.out; omega)
      have Hop := Lib.hid (show ops + (bl.length : Nat) + 1 = ops + (l.length : Nat) + 2 by have := HBL.out; omega)
      clear hd hstore hchg nP
      go_wp2_with fail
      refine HF.out.mono ?_
      rintro e w6 ⟨rfl, k6, hd6⟩
      have hP6 := k6.heap HS.out HnP.out
      have p7 : w6.cell? ⟨P, 7, none⟩ = some (.int .i64 pos) := cell_is hP6 7 rfl
      have p8 : w6.cell? ⟨P, 8, none⟩ = some (.int .i64 num) := cell_is hP6 8 rfl
      have f7 := unfrozen hP6 7
      have f8 := unfrozen hP6 8
      have HD6 := Lib.hid hd6
      have HP6 := Lib.hid hP6
      clear hd6 hP6 HF HS p0
      go_wp2_with fail
      go_ret
      have hps := pos_wrap pos bl.length l.length HBL.out Hpb.out
      have hop := Hop.out
      rw [hps]
      have hdF := HD6.out
      rw [hop] at hdF
      have kS1 := Chg.set w6 P 7 (.int .i64 ((pos + l.length + 1 : Nat) : Int))
      have hP7 : StoreG (w6.setCell ⟨P, 7, none⟩ (.int .i64 ((pos + l.length + 1 : Nat) : Int))) P N S M (pos + l.length + 1) num := heap_set HP6.out 7 _ rfl
      have kS2 := Chg.set (w6.setCell ⟨P, 7, none⟩ (.int .i64 ((pos + l.length + 1 : Nat) : Int))) P 8 (.int .i64 ((num : Int) + 1))
      rw [HBb.out]
      refine ⟨rfl, ?_, heap_set hP7 8 _ rfl, v6, (hdF.keep kS1 (Av.row HP6.out (by decide))).keep kS2 (Av.row hP7 (by decide))⟩
      have hZ6 : Z[6] ∈ Z := List.getElem_mem h6
      refine (((HCg.out.mono ?_).then (k6.mono ?_)).then_set (fun _ => List.mem_cons_self) 7 _).then_set (fun _ => List.mem_cons_self) 8 _
      · intro x hx _
        simp only [List.mem_cons] at hx
        rcases hx with rfl | rfl | hx
        · simp
        · simp [hZ6]
        · simp [show x ∈ (vs 6).ownBlock.toList from hx]
      · intro x hx _
        simp only [List.mem_cons] at hx
        rcases hx with rfl | hx
        · simp
        · simp [hx]
end Go.Proofs.YtliicpedddcfiaaGreat
namespace Go.Proofs.YtliicpedddcfiaaGreat
open Go.RowKit Go.Lib

theorem BookAt.keepT {w w' : World} {T : List Nat} {B rb : Nat} {last : Int} {L : List (Int × Value)} (h : BookAt w B rb last L) (hc : Chg T w w') (h1 : B ∉ T) (h2 : rb ∉ T) : BookAt w' B rb last L := ⟨hc.heap h.1 h1, h.2.keep hc h2⟩
set_option maxRecDepth 100000 in
theorem bat_ok (w : World) {B rb : Nat} {last k t : Int} {L : List (Int × Value)} (h : BookAt w B rb last L) (hg : getL L k = some (.int .i64 t)) : Calls Tryz.prog 157 #[.pointer (some ⟨B, 0, none⟩), .int .i64 k] w fun e w' => e = .returned (.tuple #[.int .i64 t, .int .i64 0]) ∧ w = w' := by
  have c2 : w.cell? ⟨B, 2, none⟩ = some (.map (some rb)) := cell_is h.1 2 rfl
  have hl : (Instr.lookup 238 (.map (some rb)) (.int .i64 k) true).run Tryz.prog w = .ok (.tuple #[.int .i64 t, .bool true]) w := by
    have := lookup268 h.2 k true
    rw [hg] at this
    exact this
  clear h hg
  go_enter Tryz.func157, Tryz.ntmps157
  go_wp2_with fail
  go_ret2
  exact ⟨rfl, rfl⟩
set_option maxRecDepth 100000 in
theorem bclose_ok (w : World) {B rb : Nat} {last k t : Int} {L : List (Int × Value)} (h : BookAt w B rb last L) (hg : getL L k = some (.int .i64 t)) : Calls Tryz.prog 134 #[.pointer (some ⟨B, 0, none⟩), .int .i64 k] w fun e w' =>
    e = .returned (.int .i64 0) ∧ BookAt w' B rb last (delL L k) ∧ Chg [rb] w w' := by
  have HA := Lib.hid (bat_ok w h hg)
  have c2 : w.cell? ⟨B, 2, none⟩ = some (.map (some rb)) := cell_is h.1 2 rfl
  obtain ⟨w1, hd0, h1, h2, -⟩ := run_delete_im (P := Tryz.prog) (mty := 238) (kt := 3) (et := 3) (by kernel_rfl) (by kernel_rfl) h.2 k 0
  have hd : ∀ ty, (Builtin.delete_ #[238, 3] ty #[.map (some rb), .int .i64 k]).run Tryz.prog w = .ok (.tuple #[]) w1 := fun ty => hd0
  have hB1 : BookAt w1 B rb last (delL L k) := ⟨h2.heap h.1 (by simpa using (map_cells h.2 h.1).symm), h1⟩
  have HB := Lib.hid hB1
  clear h hg h1 hB1
  go_enter Tryz.func134, Tryz.ntmps134
  go_wp2_with fail
  refine HA.out.mono ?_
  rintro e w2 ⟨rfl, rfl⟩
  go_wp2_with fail
  go_ret
  exact ⟨rfl, HB.out, h2⟩
set_option maxRecDepth 100000 in
theorem tend_ok (w : World) {M X B r T W Q rb : Nat} {qv : Value} {out num bas last given bl h t0 : Int} {rd : Bool} {Lr Lb : List (Int × Value)} {s0 c0 k t : Int} (hM : MgrG w M X B r qv out num bas last given rd) (hr : MapAt w r Lr) (hg : getL Lr h = some (.pointer (some ⟨T, 0, none⟩)))
    (hT : w.heap[T]? = some (.cells #[.int .i64 s0, .int .i64 k, .int .i64 c0, .int .i64 t, .pointer (some ⟨W, 0, none⟩), .pointer (some ⟨Q, 0, none⟩)] 212 (0, 0))) (hB : BookAt w B rb bl Lb) (hb : getL Lb h = some (.int .i64 t0)) :
    Calls Tryz.prog 98 #[.pointer (some ⟨M, 0, none⟩), .int .i64 h, .int .i64 3, .int .i64 0] w fun e w' => e = .returned (.tuple #[]) ∧ Chg [T, rb] w w' ∧ BookAt w' B rb bl (delL Lb h) ∧
      w'.heap[T]? = some (.cells #[.int .i64 3, .int .i64 k, .int .i64 0, .int .i64 t, .pointer (some ⟨W, 0, none⟩), .pointer (some ⟨Q, 0, none⟩)] 212 (0, 0)) := by
  have m2 : w.cell? ⟨M, 2, none⟩ = some (.map (some r)) := cell_is hM 2 rfl
  have m1 : w.cell? ⟨M, 1, none⟩ = some (.pointer (some ⟨B, 0, none⟩)) := cell_is hM 1 rfl
  have hl : (Instr.lookup 182 (.map (some r)) (.int .i64 h) false).run Tryz.prog w = .ok (.pointer (some ⟨T, 0, none⟩)) w := by
    have := lookup178 hr h false
    rw [hg] at this
    exact this
  have t0' : w.cell? ⟨T, 0, none⟩ = some (.int .i64 s0) := cell_is hT 0 rfl
  have t2' : w.cell? ⟨T, 2, none⟩ = some (.int .i64 c0) := cell_is hT 2 rfl
  have f0 := unfrozen hT 0
  have f2 := unfrozen hT 2
  have hBT : B ≠ T := heap_ne hB.1 hT (by simp)
  have hrT : rb ≠ T := map_cells hB.2 hT
  have hMT : M ≠ T := heap_ne hM hT (by simp)
  have hTS := heap_set (heap_set hT 0 (.int .i64 3) rfl) 2 (.int .i64 0) rfl
  have kS : Chg [T] w ((w.setCell ⟨T, 0, none⟩ (.int .i64 3)).setCell ⟨T, 2, none⟩ (.int .i64 0)) := ((Chg.refl [T] w).then_set (fun _ => by simp) 0 _).then_set (fun _ => by simp) 2 _
  have hBS := hB.keepT kS (by simpa using hBT) (by simpa using hrT)
  have HC := Lib.hid (bclose_ok _ hBS hb)
  have m1S := kS.cell m1 (by simpa using hMT)
  have HTS := Lib.hid hTS
  clear hM hr hg hT hB hb hBS hTS
  go_enter Tryz.func98, Tryz.ntmps98
  go_wp2_with fail
  refine HC.out.mono ?_
  rintro e w2 ⟨rfl, h1, h2⟩
  go_wp2_with fail
  refine bodyPost_end (v := .tuple #[]) (by simp [results, Tryz.results98, go_sem]) rfl ?_
  exact ⟨rfl, (kS.mono (fun x hx _ => by simp at hx; simp [hx])).then (h2.mono (fun x hx _ => by simp at hx; simp [hx])), h1, h2.heap HTS.out (by simpa using hrT.symm)⟩
end Go.Proofs.YtliicpedddcfiaaGreat
namespace Go.Proofs.YtliicpedddcfiaaGreat
open Go.RowKit Go.Lib

/-- nothing is put behind an empty row of ints. -/
theorem append_zero (w : World) (z g o c : Nat) (ty : TypeId) : (Builtin.append_ #[81, 81] ty #[.slice (some ⟨z, 0, none⟩) 0 0, .slice (some ⟨g, o, none⟩) 0 c]).run Tryz.prog w = .ok (.slice (some ⟨z, 0, none⟩) 0 0) w := by
  obtain ⟨i, hi0, hz, hz1, hz2⟩ := info_parts inf3
  simp [Builtin.append_, run_underlying ty62, sizeOf, typeInfo, hi0, Builtin.lenOf, Builtin.firstCells, storeCells, loadCells, loadCellsFrom, Result.andThen]
set_option maxRecDepth 100000 in
theorem iclone_zero (w : World) (g o c : Nat) : Calls Tryz.prog 97 #[.slice (some ⟨g, o, none⟩) 0 c] w fun e w' => ∃ z, e = .returned (.slice (some ⟨z, 0, none⟩) 0 0) ∧ Chg [] w w' ∧ w'.ownsRow w.heap.size 3 1 (.slice (some ⟨z, 0, none⟩) 0 0) 0 [] := by
  have hn : ∀ w, (binOp .eql 81 (.slice (some ⟨g, o, none⟩) 0 c) (.slice none 0 0)).run Tryz.prog w = .ok (.bool false) w := fun w => Lib.run_eql_slice_nil w 81 3 _ _ _ 0 0 ty62
  have ha := fun z w ty => append_zero w z g o c ty
  go_enter Tryz.func97, Tryz.ntmps97
  go_wp2_with fail
  go_ret
  exact ⟨w.heap.size, rfl, Chg.alloc w _, rfl, Or.inr ⟨w.heap.size, 0, #[], rfl, Nat.le_refl _, heap_new _ _, Nat.le_refl _, by unfold maxLen; omega, rfl, rfl⟩⟩
theorem wpList_append_int2 {ops : Array Oper} {rest : List Oper} {o : Oper} {a : Act} {w : World} {Q : Exit → Act → World → Prop} (hgd : o.guard = none) (s x : Operand)
    (ho : o.op = .call { callee := .builtin .append, args := #[s, x], argTypes := #[81, 81] }) (z b c : Nat) (k : Int) (hs : a.eval s = .slice (some ⟨z, 0, none⟩) 0 0) (hz : w.heap[z]? = some (.cells #[] 3 (0, 0)))
    (hx : a.eval x = .slice (some ⟨b, 0, none⟩) 1 c) (hb : w.cell? ⟨b, 0, none⟩ = some (.int .i64 k))
    (h : ∀ g cap w', Chg [z] w w' → w'.ownsRow z 3 1 (.slice (some ⟨g, 0, none⟩) 1 cap) 1 [.int .i64 k] → wpList Tryz.prog ops Q rest (a.put o.dst (.slice (some ⟨g, 0, none⟩) 1 cap)) w') : wpList Tryz.prog ops Q (o :: rest) a w := by
  obtain ⟨i, hi0, hz0, hz1, hz2⟩ := info_parts inf3
  have hown : w.ownsRow z 3 1 (.slice (some ⟨z, 0, none⟩) 0 0) 0 [] := ⟨rfl, Or.inr ⟨z, 0, #[], rfl, Nat.le_refl _, hz, Nat.le_refl _, by unfold maxLen; omega, rfl, rfl⟩⟩
  refine wpList_append_lies w hgd s x 81 ho z 3 i _ 1 8 ty62 hi0 hz0 hz1 hz2 rfl (by decide) _ 0 [] hs hown ⟨b, 0, none⟩ 1 c [.int .i64 k] hx rfl ?_ ?_ (by decide) (by unfold maxLen; omega) (by omega) (Nat.le_of_lt (heap_lt hz)) _ rfl ?_
  · intro j u hu
    rw [add_lit, Nat.zero_add]
    match j with
    | 0 => cases hu; exact hb
    | j + 1 => simp at hu
  · intro u hu
    simp at hu
    subst hu
    rfl
  · intro g cap w' h1 h3 _ _
    exact h g cap w' (Chg.of_grown h3) h1
set_option maxRecDepth 100000 in
theorem iclone_one (w : World) {g c : Nat} {k : Int} (h0 : w.cell? ⟨g, 0, none⟩ = some (.int .i64 k)) : Calls Tryz.prog 97 #[.slice (some ⟨g, 0, none⟩) 1 c] w fun e w' =>
    ∃ g' c', e = .returned (.slice (some ⟨g', 0, none⟩) 1 c') ∧ Chg [] w w' ∧ w'.ownsRow w.heap.size 3 1 (.slice (some ⟨g', 0, none⟩) 1 c') 1 [.int .i64 k] := by
  have hn : ∀ w, (binOp .eql 81 (.slice (some ⟨g, 0, none⟩) 1 c) (.slice none 0 0)).run Tryz.prog w = .ok (.bool false) w := fun w => Lib.run_eql_slice_nil w 81 3 _ _ _ 0 0 ty62
  have k0 : Chg [] w (w.alloc (.cells #[] 3)) := Chg.alloc w _
  have hb := k0.cell h0 (by simp)
  have hz := heap_new w (.cells #[] 3)
  clear h0
  go_enter Tryz.func97, Tryz.ntmps97
  go_wp2_with (first | (at_builtin; refine wpList_append_int2 rfl (.tmp 5) (.tmp 6) rfl w.heap.size g c k rfl hz rfl hb ?_; intro g2 c2 w2 k2 o2))
  go_ret
  exact ⟨g2, c2, rfl, k0.trans k2 (fun x hx hlt => by simp at hx; omega), o2⟩
end Go.Proofs.YtliicpedddcfiaaGreat
namespace Go.Proofs.YtliicpedddcfiaaGreat
open Go.RowKit Go.Lib

set_option maxRecDepth 100000 in
set_option maxHeartbeats 1000000 in
theorem rise_ok (w : World) {lo cb : Nat} {pb : Option Addr} {l : List (Int × List UInt8)} (hp : PutsAt w lo (.slice pb l.length cb) l) (hr : Rise l) (hl0 : 0 < l.length) (hl : l.length ≤ 1000) : Calls Tryz.prog 112 #[.slice pb l.length cb] w fun e w' => e = .returned (.bool true) ∧ Chg [] w w' := by
  have HP := Lib.hid hp
  have HR := Lib.hid hr
  have n2 : decide (0 < (l.length : Int)) = true := decide_eq_true (by omega)
  clear hp hr
  go_enter Tryz.func112, Tryz.ntmps112
  go_wp2_with fail
  go_loopw [3] (fun i wz => ∃ j : Nat, 1 ≤ j ∧ j ≤ l.length ∧ i = .int .i64 j ∧ Chg [] w wz) (fun i _ => l.length - (intOf i).toNat)
  case atStart => exact ⟨1, by omega, by omega, rfl, Chg.refl _ _⟩
  case round =>
    obtain ⟨j, hj1, hj, rfl, kz⟩ := hrel
    rename World => wz
    by_cases hlt : j < l.length
    · obtain ⟨q, rfl⟩ : ∃ q, j = q + 1 := ⟨j - 1, by omega⟩
      have hP2 := HP.out.keep0 kz
      obtain ⟨gp, cap, gd, cd, hv, hcap, d1, -, -, -, -⟩ := hP2.get (q + 1) hlt
      obtain ⟨gp', cap', gd', cd', hv', -, d0, -, -, -, -⟩ := hP2.get q (by omega)
      cases hv
      cases hv'
      have hlt2 := HR.out q hlt
      have hnle : decide ((l[q + 1]).1 ≤ (l[q]'(by omega)).1) = false := decide_eq_false (by omega)
      have hwq : IntKind.i64.wrap (((q + 1 : Nat) : Int) - 1) = q := by rw [IntKind.wrap_i64]; omega
      have hqi : (q : Int) < l.length := by omega
      have hqi2 : ((q + 1 : Nat) : Int) < l.length := by omega
      clear hP2 HP HR hlt2
      generalize (l[q + 1]).1 = x at *
      generalize (l[q]'(by omega)).1 = y at *
      go_wp2_with fail
      go_quiet (fail)
      go_wp2_with fail
      exact ⟨⟨q + 2, by omega, by omega, by go_num, kz.drewN nq⟩, by simp [intOf]; omega⟩
    · obtain rfl : j = l.length := by omega
      go_wp2_with fail
      go_ret
      exact ⟨rfl, kz⟩
theorem ty265 : Tryz.prog.underlying 245 = some (.slice 247) := by kernel_rfl
theorem inf267 : (Tryz.prog.info? 247).map (fun i => (i.zero, i.size, i.bytes)) = some (some (.agg #[.int .i64 0, .slice none 0 0]), 2, 32) := by kernel_rfl
/-- a version is put behind others, as a step of a region that draws. -/
theorem step_append_ver {ops : Array Oper} {o : Oper} {a : Act} {w : World} {K : Act → World → Prop} {Q : Exit → Act → World → Prop} {E : Prop} (hgd : o.guard = none) (s x : Operand)
    (ho : o.op = .call { callee := .builtin .append, args := #[s, x], argTypes := #[245, 245] }) (base : Nat) (v : Value) (n : Nat) (xs : List Value) (hs : a.eval s = v) (hown : w.ownsRow base 247 2 v n xs) (b c : Nat) (u0 u1 : Value)
    (hx : a.eval x = .slice (some ⟨b, 0, none⟩) 1 c) (c0 : w.cell? ⟨b, 0, none⟩ = some u0) (c1 : w.cell? ⟨b, 1, none⟩ = some u1) (h1 : u0.oneCell' = true ∧ u1.oneCell' = true) (hn : n ≤ 1000000) (hbase : base ≤ w.heap.size)
    (h : ∀ g cap w', w'.ownsRow base 247 2 (.slice (some ⟨g, 0, none⟩) (n + 1) cap) (n + 1) (xs ++ [u0, u1]) → Chg v.ownBlock.toList w w' → (v.ownBlock = some g ∨ g = w.heap.size) → K (a.put o.dst (.slice (some ⟨g, 0, none⟩) (n + 1) cap)) w') :
    if Region.wanted o (yielded ops a.tmps) = true then Oper.wp Tryz.prog o a w K Q else E := by
  obtain ⟨i, hi0, hz, hz1, hz2⟩ := info_parts inf267
  refine step_append_lies w hgd s x 245 ho base 247 i _ 2 32 ty265 hi0 hz hz1 hz2 rfl (by decide) v n xs hs hown ⟨b, 0, none⟩ 1 c [u0, u1] hx rfl ?_ ?_ (by decide) (by unfold maxLen; omega) (by omega) hbase _ rfl ?_
  · intro j u hu
    rw [add_lit, Nat.zero_add]
    match j with
    | 0 => cases hu; exact c0
    | 1 => cases hu; exact c1
    | j + 2 => simp at hu
  · intro u hu
    simp at hu
    rcases hu with rfl | rfl
    · exact h1.1
    · exact h1.2
  · intro g cap w' h2 h3 h4 _
    refine h g cap w' h2 ?_ h4
    cases hv : v.ownBlock with
    | none => rw [hv] at h3; exact Chg.of_grown0 h3
    | some k => rw [hv] at h3; exact Chg.of_grown h3
/-- .. in a list. -/
theorem wpList_append_ver {ops : Array Oper} {rest : List Oper} {o : Oper} {a : Act} {w : World} {Q : Exit → Act → World → Prop} (hgd : o.guard = none) (s x : Operand)
    (ho : o.op = .call { callee := .builtin .append, args := #[s, x], argTypes := #[245, 245] }) (base : Nat) (v : Value) (n : Nat) (xs : List Value) (hs : a.eval s = v) (hown : w.ownsRow base 247 2 v n xs) (b c : Nat) (u0 u1 : Value)
    (hx : a.eval x = .slice (some ⟨b, 0, none⟩) 1 c) (c0 : w.cell? ⟨b, 0, none⟩ = some u0) (c1 : w.cell? ⟨b, 1, none⟩ = some u1) (h1 : u0.oneCell' = true ∧ u1.oneCell' = true) (hn : n ≤ 1000000) (hbase : base ≤ w.heap.size)
    (h : ∀ g cap w', w'.ownsRow base 247 2 (.slice (some ⟨g, 0, none⟩) (n + 1) cap) (n + 1) (xs ++ [u0, u1]) → Chg v.ownBlock.toList w w' → (v.ownBlock = some g ∨ g = w.heap.size) → wpList Tryz.prog ops Q rest (a.put o.dst (.slice (some ⟨g, 0, none⟩) (n + 1) cap)) w') : wpList Tryz.prog ops Q (o :: rest) a w := by
  obtain ⟨i, hi0, hz, hz1, hz2⟩ := info_parts inf267
  refine wpList_append_lies w hgd s x 245 ho base 247 i _ 2 32 ty265 hi0 hz hz1 hz2 rfl (by decide) v n xs hs hown ⟨b, 0, none⟩ 1 c [u0, u1] hx rfl ?_ ?_ (by decide) (by unfold maxLen; omega) (by omega) hbase _ rfl ?_
  · intro j u hu
    rw [add_lit, Nat.zero_add]
    match j with
    | 0 => cases hu; exact c0
    | 1 => cases hu; exact c1
    | j + 2 => simp at hu
  · intro u hu
    simp at hu
    rcases hu with rfl | rfl
    · exact h1.1
    · exact h1.2
  · intro g cap w' h2 h3 h4 _
    refine h g cap w' h2 ?_ h4
    cases hv : v.ownBlock with
    | none => rw [hv] at h3; exact Chg.of_grown0 h3
    | some k => rw [hv] at h3; exact Chg.of_grown h3
theorem VRow.nil (w : World) (lo : Nat) : VRow w lo (.slice none 0 0) [] := ⟨[], World.ownsRow_nil _ _ _ _, fun i h => by simp at h⟩
/-- .. when a version is put behind them. -/
theorem VRow.push {w w' : World} {lo gb cb n : Nat} {v v' : Value} {l : List (Int × List UInt8)} {k : Int} {b : List UInt8} {xs : List Value} (hx : ∀ i (h : i < l.length), xs[i * 2]? = some (.int .i64 l[i].1) ∧ ∃ g c, xs[i * 2 + 1]? = some (.slice (some ⟨g, 0, none⟩) 40 c) ∧ Bs w (some ⟨g, 0, none⟩) l[i].2 ∧ l[i].2.length = 40 ∧ Bt w g)
    (hl : xs.length = l.length * 2) (hn : n = l.length) (hv : ∀ g, v.ownBlock = some g → ∃ cs, w.heap[g]? = some (.cells cs 247 (0, 0))) (ho : w'.ownsRow lo 247 2 v' (n + 1) (xs ++ [.int .i64 k, .slice (some ⟨gb, 0, none⟩) 40 cb])) (hc : Chg v.ownBlock.toList w w')
    (hb : Bs w (some ⟨gb, 0, none⟩) b) (hb4 : b.length = 40) (hbt : Bt w gb) : VRow w' lo v' (l ++ [(k, b)]) := by
  subst hn
  have hne : ∀ {g}, Bt w g → g ∉ v.ownBlock.toList := by
    rintro g ⟨cs2, h2⟩ hm
    obtain ⟨cs, h1⟩ := hv g (by simpa using hm)
    rw [h1] at h2
    cases h2
  have keepB : ∀ {g}, Bt w g → Bt w' g := fun {g} h => by
    obtain ⟨cs, h2⟩ := id h
    exact ⟨cs, hc.heap h2 (hne h)⟩
  refine ⟨_, by rw [List.length_append]; exact ho, fun i hi => ?_⟩
  by_cases h : i < l.length
  · obtain ⟨h0, g, c, h1, h2, h3, h4⟩ := hx i h
    rw [List.getElem_append_left h]
    exact ⟨by rw [List.getElem?_append_left (by omega)]; exact h0, g, c, by rw [List.getElem?_append_left (by omega)]; exact h1, h2.chgT hc (hne h4), h3, keepB h4⟩
  · have hi2 : i = l.length := by simp at hi; omega
    subst hi2
    have e : (l ++ [(k, b)])[l.length]'(by simp) = (k, b) := by simp
    rw [e]
    exact ⟨by rw [← hl]; simp, gb, cb, by rw [← hl, List.getElem?_append_right (by omega)]; simp, hb.chgT hc (hne hbt), hb4, keepB hbt⟩
theorem getL_memk {L : List (Int × Value)} {k : Int} {v : Value} (h : getL L k = some v) : (k, v) ∈ L := by
  induction L with
  | nil => cases h
  | cons p l ih =>
    simp only [getL] at h
    split at h
    · rename_i hk
      injection h with h
      subst hk h
      exact List.mem_cons_self
    · exact List.mem_cons_of_mem _ (ih h)
/-- the rows of unlike blocks lie apart. -/
def ApL (L : List (Int × Value)) : Prop := ∀ b c v u g, b ≠ c → getL L b = some v → getL L c = some u → v.ownBlock = some g → u.ownBlock ≠ some g
/-- versions with one more of one block. -/
def addV (vs : Int → List (Int × List UInt8)) (b : Int) (x : Int × List UInt8) : Int → List (Int × List UInt8) := fun k => if k = b then vs k ++ [x] else vs k
/-- .. with a transaction's puts at its time. -/
def applyV (vs : Int → List (Int × List UInt8)) (k : Int) (l : List (Int × List UInt8)) : Int → List (Int × List UInt8) := l.foldl (fun vs p => addV vs p.1 (k, p.2)) vs
theorem applyV_take (vs : Int → List (Int × List UInt8)) (k : Int) (l : List (Int × List UInt8)) (j : Nat) (h : j < l.length) : applyV vs k (l.take (j + 1)) = addV (applyV vs k (l.take j)) l[j].1 (k, l[j].2) := by
  unfold applyV
  rw [List.take_succ_eq_append_getElem h, List.foldl_append]
  rfl
theorem addV_len (vs : Int → List (Int × List UInt8)) (b : Int) (x : Int × List UInt8) (c : Int) : (addV vs b x c).length ≤ (vs c).length + 1 := by
  unfold addV
  split <;> simp
theorem applyV_len (vs : Int → List (Int × List UInt8)) (k : Int) (l : List (Int × List UInt8)) (c : Int) : (applyV vs k l c).length ≤ (vs c).length + l.length := by
  induction l generalizing vs with
  | nil => exact Nat.le_refl _
  | cons p l ih =>
    have h1 := ih (addV vs p.1 (k, p.2))
    have h2 := addV_len vs p.1 (k, p.2) c
    show (applyV (addV vs p.1 (k, p.2)) k l c).length ≤ _
    simp only [List.length_cons]
    omega
/-- what of memory may change where versions are added. -/
def Cv (lo X rx : Nat) (w w' : World) : Prop := ∃ T, Chg T w w' ∧ ∀ x ∈ T, x < w.heap.size → x = X ∨ x = rx ∨ (lo ≤ x ∧ ∃ cs, w.heap[x]? = some (.cells cs 247 (0, 0)))
theorem Cv.of_chg {lo X rx : Nat} {w w' : World} (h : Chg [] w w') : Cv lo X rx w w' := ⟨[], h, fun x hx => by cases hx⟩
theorem Cv.trans {lo X rx : Nat} {a b c : World} (h : Cv lo X rx a b) (k : Cv lo X rx b c) : Cv lo X rx a c := by
  obtain ⟨T, h1, h2⟩ := h
  obtain ⟨U, k1, k2⟩ := k
  refine ⟨T ++ U, (h1.mono (fun x hx _ => List.mem_append_left _ hx)).trans k1 (fun x hx _ => List.mem_append_right _ hx), fun x hx hlt => ?_⟩
  by_cases hT : x ∈ T
  · exact h2 x hT hlt
  · rcases List.mem_append.1 hx with h | h
    · exact absurd h hT
    · rcases k2 x h (Nat.lt_of_lt_of_le hlt h1.size) with e | e | ⟨e, cs, hh⟩
      · exact Or.inl e
      · exact Or.inr (Or.inl e)
      · exact Or.inr (Or.inr ⟨e, cs, by rw [← h1.block x hlt hT]; exact hh⟩)
theorem Cv.then {lo X rx : Nat} {a b c : World} (h : Cv lo X rx a b) (k : Chg [] b c) : Cv lo X rx a c := h.trans (Cv.of_chg k)
theorem Cv.size {lo X rx : Nat} {w w' : World} (h : Cv lo X rx w w') : w.heap.size ≤ w'.heap.size := by obtain ⟨T, h1, _⟩ := h; exact h1.size
/-- what holds of other blocks goes on to hold. -/
theorem Cv.av {lo X rx : Nat} {w : World} {T ts : List Nat} {csX : Array Value} {L : List (Int × Value)} (hT : ∀ x ∈ T, x < w.heap.size → x = X ∨ x = rx ∨ (lo ≤ x ∧ ∃ cs, w.heap[x]? = some (.cells cs 247 (0, 0)))) (hX : w.heap[X]? = some (.cells csX 237 (0, 0))) (hr : MapAt w rx L) (h1 : 237 ∉ ts) (h2 : 247 ∉ ts) : Av w T ts := by
  intro x hx cs t fr hh
  rcases hT x hx (heap_lt hh) with rfl | rfl | ⟨-, cs2, h3⟩
  · rw [hX] at hh; cases hh; exact h1
  · exact absurd rfl (map_cells hr hh)
  · rw [h3] at hh; cases hh; exact h2
theorem Cv.map {lo X rx r : Nat} {w : World} {T : List Nat} {csX : Array Value} {L : List (Int × Value)} (hT : ∀ x ∈ T, x < w.heap.size → x = X ∨ x = rx ∨ (lo ≤ x ∧ ∃ cs, w.heap[x]? = some (.cells cs 247 (0, 0)))) (hX : w.heap[X]? = some (.cells csX 237 (0, 0))) (hr : MapAt w r L) (h : r ≠ rx) : r ∉ T := by
  intro hm
  rcases hT r hm hr.lt with e | e | ⟨-, cs2, h3⟩
  · exact map_cells hr hX e
  · exact h e
  · exact map_cells hr h3 rfl
/-- a version is put behind those of one block. -/
theorem VerG.added {wx wA wB : World} {lo X rx g cap gb cb n : Nat} {last b k : Int} {L : List (Int × Value)} {vs : Int → List (Int × List UInt8)} {v : Value} {d : List UInt8} {xs : List Value} (h : VerG wx lo X rx last L vs) (hap : ApL L) (hkeys : ∀ p ∈ L, 0 ≤ p.1 ∧ p.1 < 258) (hgl : getL L b = some v ∨ getL L b = none ∧ v = .slice none 0 0)
    (hown : wx.ownsRow lo 247 2 v n xs) (hx : ∀ i (h : i < (vs b).length), xs[i * 2]? = some (.int .i64 (vs b)[i].1) ∧ ∃ g c, xs[i * 2 + 1]? = some (.slice (some ⟨g, 0, none⟩) 40 c) ∧ Bs wx (some ⟨g, 0, none⟩) (vs b)[i].2 ∧ (vs b)[i].2.length = 40 ∧ Bt wx g) (hn : n = (vs b).length)
    (hA : wA.ownsRow lo 247 2 (.slice (some ⟨g, 0, none⟩) (n + 1) cap) (n + 1) (xs ++ [.int .i64 k, .slice (some ⟨gb, 0, none⟩) 40 cb])) (kA : Chg v.ownBlock.toList wx wA) (hg : v.ownBlock = some g ∨ g = wx.heap.size)
    (hB : Bs wx (some ⟨gb, 0, none⟩) d) (hd : d.length = 40) (hBt : Bt wx gb) (mB : MapAt wB rx (putL L b (.slice (some ⟨g, 0, none⟩) (n + 1) cap))) (kB : Chg [rx] wA wB) (hs : ∀ c, (vs c).length < 1000000) :
    VerG wB lo X rx last (putL L b (.slice (some ⟨g, 0, none⟩) (n + 1) cap)) (addV vs b (k, d)) ∧ ApL (putL L b (.slice (some ⟨g, 0, none⟩) (n + 1) cap)) ∧ Cv lo X rx wx wB := by
  have hvb : ∀ g, v.ownBlock = some g → lo ≤ g ∧ ∃ cs, wx.heap[g]? = some (.cells cs 247 (0, 0)) := fun g hg => by
    obtain ⟨h1, cs, h2⟩ := own_elem hown hg
    exact ⟨h1, cs, h2⟩
  have mA : MapAt wA rx L := h.m.keep kA (fun hm => by
    obtain ⟨-, cs, h2⟩ := hvb rx (by simpa using hm)
    exact map_cells h.m h2 rfl)
  have hXv : X ∉ v.ownBlock.toList := own_block_ne hown h.x (by decide)
  have hXA := kA.heap h.x hXv
  have avA : Av wx v.ownBlock.toList [5] := fun x hx cs t fr hh => by
    obtain ⟨-, cs2, h2⟩ := hvb x (by simpa using hx)
    rw [h2] at hh; cases hh; simp
  have avB : Av wA [rx] [5] := av_map mA _
  refine ⟨⟨kB.heap hXA (by simpa using (map_cells mA hXA).symm), mB, fun c c0 c1 => ?_, fun c => ?_⟩, ?_, ?_⟩
  · rw [getL_put]
    by_cases hc : c = b
    · subst hc
      rw [if_pos rfl]
      refine Or.inr ⟨_, rfl, ?_, by simp [addV]⟩
      have hr : VRow wA lo (.slice (some ⟨g, 0, none⟩) (n + 1) cap) (vs c ++ [(k, d)]) := VRow.push hx (by have := hown.1; omega) hn (fun g hg => (hvb g hg).2) hA kA hB hd hBt
      have hr2 := hr.keep kB avB (fun g' hg' hm => by
        obtain ⟨cs, h2⟩ := hr.block g' hg'
        rw [List.mem_singleton] at hm
        subst hm
        exact map_cells mA h2 rfl)
      simpa [addV] using hr2
    · rw [if_neg hc]
      rcases h.row c c0 c1 with ⟨e1, e2⟩ | ⟨u, e1, e2, e3⟩
      · exact Or.inl ⟨e1, by simp [addV, hc, e2]⟩
      · refine Or.inr ⟨u, e1, ?_, by simp [addV, hc, e3]⟩
        have hr := e2.keep kA avA (fun g' hg' hm => by
          have hm' : v.ownBlock = some g' := by simpa using hm
          rcases hgl with e | ⟨-, rfl⟩
          · exact hap c b u v g' hc e1 e hg' hm'
          · cases hm')
        have hr2 := hr.keep kB avB (fun g' hg' hm => by
          obtain ⟨cs, h2⟩ := hr.block g' hg'
          rw [List.mem_singleton] at hm
          subst hm
          exact map_cells mA h2 rfl)
        simpa [addV, hc] using hr2
  · have := addV_len vs b (k, d) c
    have := hs c
    omega
  · intro c1 c2 v1 v2 gg hne h1 h2 e1 e2
    rw [getL_put] at h1 h2
    have key : ∀ c u gg, c ≠ b → getL L c = some u → u.ownBlock = some gg → g ≠ gg := by
      rintro c u gg hc hu hug rfl
      rcases hg with hg | hg
      · rcases hgl with e | ⟨-, rfl⟩
        · exact hap c b u v g hc hu e hug hg
        · cases hg
      · by_cases hr : 0 ≤ c ∧ c < 258
        · rcases h.row c hr.1 hr.2 with ⟨x1, -⟩ | ⟨u', x1, x2, -⟩
          · rw [x1] at hu; cases hu
          · rw [x1] at hu; cases hu
            obtain ⟨cs, h5⟩ := x2.block g hug
            have := heap_lt h5
            omega
        · exact absurd (hkeys _ (getL_memk hu)) hr
    by_cases hc1 : c1 = b
    · rw [if_pos hc1] at h1
      cases h1
      have hc2 : c2 ≠ b := fun e => hne (hc1.trans e.symm)
      rw [if_neg hc2] at h2
      have e1' : g = gg := Option.some.inj e1
      exact key c2 v2 gg hc2 h2 e2 e1'
    · rw [if_neg hc1] at h1
      by_cases hc2 : c2 = b
      · rw [if_pos hc2] at h2
        cases h2
        have e2' : g = gg := Option.some.inj e2
        exact key c1 v1 gg hc1 h1 e1 e2'
      · rw [if_neg hc2] at h2
        exact hap c1 c2 v1 v2 gg hne h1 h2 e1 e2
  · refine ⟨v.ownBlock.toList ++ [rx], (kA.mono (fun x hx _ => List.mem_append_left _ hx)).trans kB (fun x hx _ => List.mem_append_right _ hx), fun x hx _ => ?_⟩
    rcases List.mem_append.1 hx with h | h
    · exact Or.inr (Or.inr (hvb x (by simpa using h)))
    · exact Or.inr (Or.inl (by simpa using h))
end Go.Proofs.YtliicpedddcfiaaGreat
