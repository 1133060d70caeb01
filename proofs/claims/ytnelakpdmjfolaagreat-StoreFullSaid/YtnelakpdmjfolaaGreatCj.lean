/- Lemmas and walks: Walks: a manager takes the puts of a text (txn.Load 88, with puts). Walks: the puts of a state (store.puts); a manager that begins at a time (txn.New). Walks: many puts are taken in by the versions, and by a manager. Printed by mkRs.py. Walks: a device whose log holds batches is mounted (store.Mount). Walks: what all blocks are that were written (extmap.Dump, txn.Dump, store.Dump, store.Last). Puts whose bytes are new; what all blocks are, in bytes of their own. Printed by mkPe.py. Walks: store.text (all blocks as a text). Walks: store.Checkpoint. Walks: store.Clean 17 while nothing is open: horizon.Low 100, txn.Prune 49. -/
import Derived.Deep.RegionHeld3
import Derived.Test.YtnelakpdmjfolaaGreatCe
import Derived.Test.YtnelakpdmjfolaaGreatCf
import Derived.Test.YtnelakpdmjfolaaGreatCg
import Derived.Test.YtnelakpdmjfolaaGreatCh
import Derived.Test.YtnelakpdmjfolaaGreatCi
namespace Go.Proofs.YtnelakpdmjfolaaGreat
open Go.RowKit Go.Lib

set_option maxRecDepth 100000 in
theorem tgone_mg (w : World) {M X B r : Nat} {qv : Value} {out num bas last given : Int} {rd : Bool} (h : MgrG w M X B r qv out num bas last given rd) : Calls Tryz.prog 73 #[.pointer (some ⟨M, 0, none⟩)] w fun e w' => e = .returned (.bool false) ∧ w = w' := by
  have c0 : w.cell? ⟨M, 0, none⟩ = some (.pointer (some ⟨X, 0, none⟩)) := cell_is h 0 rfl
  clear h
  go_enter Tryz.func73, Tryz.ntmps73
  go_wp2_with fail
  go_ret
  exact ⟨rfl, rfl⟩
set_option maxRecDepth 100000 in
set_option maxHeartbeats 4000000 in
theorem tload_ok (w : World) {lo M X B r rx lp cb : Nat} {qv : Value} {out num bas last given lastv : Int} {rd : Bool} {pb : Option Addr} {Lv : List (Int × Value)} {vs : Int → List (Int × List UInt8)} {l : List (Int × List UInt8)}
    (h : MgrG w M X B r qv out num bas last given rd) (hr0 : MapAt w r []) (hv : VerG w lo X rx lastv Lv vs) (hap : ApL Lv) (hkeys : ∀ p ∈ Lv, 0 ≤ p.1 ∧ p.1 < 258) (hlo : lo ≤ w.heap.size)
    (hp : PutsAt w lp (.slice pb l.length cb) l) (hk : ∀ x ∈ l, 0 ≤ x.1 ∧ x.1 < 258) (hr : Rise l) (hl0 : 0 < l.length) (hl : l.length ≤ 16) (hb0 : 0 < bas) (hk0 : lastv < bas) (hk1 : bas ≤ 1099511627776) (hs : ∀ c, (vs c).length + 16 < 1000000) :
    Calls Tryz.prog 34 #[.pointer (some ⟨M, 0, none⟩), .slice pb l.length cb] w fun e w' => e = .returned (.int .i64 0) ∧ Cv lo X rx w w' ∧ ∃ Lv', VerG w' lo X rx bas Lv' (applyV vs bas l) ∧ ApL Lv' ∧ ∀ p ∈ Lv', 0 ≤ p.1 ∧ p.1 < 258 := by
  have HG := Lib.hid (tgone_mg w h)
  have kd : Chg [] w w.drew := (Chg.refl [] w).drew
  have HA := Lib.hid (apply_ok w.drew (hv.keep kd) hap hkeys (Nat.le_trans hlo kd.size) (hp.keep0 kd) hk hr hl0 hl hk0 hk1 hs)
  have HK := Lib.hid kd
  have c0 : w.cell? ⟨M, 0, none⟩ = some (.pointer (some ⟨X, 0, none⟩)) := cell_is h 0 rfl
  have c2 : w.cell? ⟨M, 2, none⟩ = some (.map (some r)) := cell_is h 2 rfl
  have c6 : w.cell? ⟨M, 6, none⟩ = some (.int .i64 bas) := cell_is h 6 rfl
  have hlen : (Builtin.len_ #[134] 3 #[.map (some r)]).run Tryz.prog w = .ok (.int .i64 0) w := run_len_im ty178 hr0 3
  have hb1 : ¬ bas = 0 := by omega
  have hl1 : ¬ (l.length : Int) = 0 := by omega
  have hd0 : decide (bas = 0) = false := by simpa using hb1
  have hd1 : decide ((l.length : Int) = 0) = false := by simpa using hl1
  clear kd h hr0 hv hap hkeys hlo hp hk hr hk0 hk1 hs
  go_enter Tryz.func34, Tryz.ntmps34
  go_wp2_with fail
  refine HG.out.mono ?_
  rintro e w1 ⟨rfl, rfl⟩
  go_wp2_with fail
  go_still_tail 10, (by kernel_rfl)
  change wpList _ _ _ _ _ w.drew
  generalize w.drew = w2 at *
  go_wp2_with fail
  refine HA.out.mono ?_
  rintro e w3 ⟨rfl, hcv, Lv', h1, h2, h3⟩
  have HR := Lib.hid (And.intro ((Cv.of_chg HK.out).trans hcv) (And.intro h1 (And.intro h2 h3)))
  clear hcv h1 h2 h3
  go_wp2_with fail
  go_ret
  exact ⟨rfl, HR.out.1, _, HR.out.2.1, HR.out.2.2.1, HR.out.2.2.2⟩
end Go.Proofs.YtnelakpdmjfolaaGreat
namespace Go.Proofs.YtnelakpdmjfolaaGreat
open Go.RowKit Go.Lib

set_option maxRecDepth 100000 in
set_option maxHeartbeats 2000000 in
theorem sputs_ok (w : World) {R r last : Nat} {L : List (Int × Value)} {D : Int → List UInt8} (hs : StateM w R r last) (hm : MapAt w r L) (hD : BufD w L D) (hk : ∀ x ∈ L, 0 ≤ x.1 ∧ x.1 < 258) (hl : L.length ≤ 1000) : Calls Tryz.prog 35 #[.pointer (some ⟨R, 0, none⟩)] w fun e w' =>
    ∃ v, e = .returned v ∧ Chg [] w w' ∧ PutsAt w' w.heap.size v (putsL L D) := by
  have c2 : w.cell? ⟨R, 1, none⟩ = some (.map (some r)) := cell_is hs 1 rfl
  have HS := Lib.hid (sortedA_any w hm (fun p hp => wf_i64 (by have := hk p hp; omega) (by have := hk p hp; omega)) (by omega))
  have HB := Lib.hid hm
  have HD := Lib.hid hD
  have HK := Lib.hid hk
  clear hs hm hD hk
  go_enter Tryz.func35, Tryz.ntmps35
  go_wp2_with (first
    | (go_at_call 76; refine (keysA_any (some r) _).mono ?_; rintro e w1 ⟨rfl, rfl⟩)
    | (go_at_call 75; refine HS.out.mono ?_; rintro e w2 ⟨v2, rfl, o2, k2⟩; obtain ⟨pk, ck, rfl, hck⟩ := own_form o2))
  have hsl : (sortI (L.map Prod.fst)).length = L.length := by rw [sortI_length, List.length_map]
  have hmem : ∀ k, k ∈ sortI (L.map Prod.fst) → ∃ v, getL L k = some v := fun k hk => getL_key ((sortI_perm _).mem_iff.1 hk)
  have hpl : putsL L D = (sortI (L.map Prod.fst)).map fun k => (k, D k) := rfl
  have HP := Lib.hid hpl
  have HM := Lib.hid hmem
  have O2 := Lib.hid o2
  clear hmem hpl o2
  generalize hks : sortI (L.map Prod.fst) = ks at *
  have c22 := k2.cell c2 (by simp)
  generalize hn : L.length = n at *
  have hcki : (n : Int) ≤ ck := by omega
  go_loopw [2, 4, 12] (fun v _ i wr => ∃ j : Nat, j ≤ n ∧ i = .int .i64 j ∧ Chg [] w2 wr ∧ PutsAt wr w2.heap.size v ((ks.take j).map fun k => (k, D k))) (fun _ _ i _ => n - (intOf i).toNat)
  case atStart => exact ⟨0, by omega, rfl, Chg.refl _ _, PutsAt.nil _ _⟩
  case round =>
    obtain ⟨j, hj, rfl, kr, hp⟩ := hrel
    by_cases hlt : j < n
    · have hjk : j < ks.length := by omega
      obtain ⟨v, hv⟩ := HM.out ks[j] (List.getElem_mem hjk)
      obtain ⟨g, cg, rfl, hb, hb4, hbt⟩ := HD.out _ _ hv
      have kwr : Chg [] w wr := k2.then kr
      have hlook : (Instr.lookup 87 (.map (some r)) (.int .i64 ks[j]) false).run Tryz.prog wr = .ok (.slice (some ⟨g, 0, none⟩) 40 cg) wr := by
        have := lookup151 (HB.out.keep kwr (by simp)) ks[j] false
        rw [hv] at this
        exact this
      have ck0 : ∃ gk, pk = some ⟨gk, 0, none⟩ ∧ wr.cell? ⟨gk, j, none⟩ = some (.int .i64 ks[j]) := by
        rcases O2.out.2 with ⟨_, h0⟩ | ⟨gk, cap, cur, e, hA, hg, hc1, hc2, hc3, ht⟩
        · omega
        · injection e with e1
          refine ⟨gk, e1, kr.cell (cell_is hg j ?_) (by simp)⟩
          have h1 : (ks.map encZ)[j]? = some (.int .i64 ks[j]) := by simp [hjk]
          rw [← ht, List.getElem?_take_of_lt (by omega), Array.getElem?_toList] at h1
          exact h1
      obtain ⟨gk, rfl, ck1⟩ := ck0
      have cw2 := kr.cell c22 (by simp)
      have HBs := Lib.hid (hb.chg kwr)
      have HPt := Lib.hid hp
      have HTk := Lib.hid (show (ks.take (j + 1)).map (fun k => (k, D k)) = (ks.take j).map (fun k => (k, D k)) ++ [(ks[j], D ks[j])] by rw [List.take_succ_eq_append_getElem hjk, List.map_append]; rfl)
      have HL4 := Lib.hid hb4
      have HBt := Lib.hid (Bt.keep hbt kwr (by simp))
      clear hb hp hb4 hbt hv
      generalize ks[j] = k at *
      obtain ⟨xs, ho3, hx3⟩ := HPt.out
      have hpl3 : ((ks.take j).map fun k => (k, D k)).length = j := by simp; omega
      have hb23 := HPt.out.block
      have hs3 : w2.heap.size ≤ wr.heap.size := kr.size
      have HX3 := Lib.hid hx3
      have HO3 := Lib.hid ho3
      have H23 := Lib.hid hb23
      clear hx3 hb23 ho3
      go_wp2_with (at_builtin; refine wpList_append_lit rfl (.tmp 16) (.tmp 25) 37 41 rfl ty69 inf92 rfl (by decide) w2.heap.size wr [.int .i64 k, .slice (some ⟨g, 0, none⟩) 40 cg] 1 rfl _ ((ks.take j).map fun k => (k, D k)).length xs rfl HO3.out (by omega) (by decide) hs3 (k := 0) rfl (by simp [Value.oneCell']) rfl 1 rfl ?_; intro v' w4 hap)
      have hxl : xs.length = ((ks.take j).map fun k => (k, D k)).length * 2 := HO3.out.1
      have hfin : PutsAt w4 w2.heap.size v' (((ks.take j).map fun k => (k, D k)) ++ [(k, D k)]) := PutsAt.push HX3.out hxl rfl (fun g hg => (H23.out g hg).2) hap.1 (Chg.own hap.2.2 (fun g hg _ => by have hg2 : u2.ownBlock = some g := hg; simp [hg2])) HBs.out HL4.out HBt.out
      rw [← HTk.out] at hfin
      go_roundw
      case rel => exact ⟨j + 1, by omega, by simp, Chg.of_below (kr.below0.trans hap.2.1), hfin⟩
      case measure => simp [intOf]; omega
    · obtain rfl : j = n := by omega
      go_wp2_with fail
      go_ret
      refine ⟨_, rfl, k2.then kr, ?_⟩
      rw [HP.out]
      rw [List.take_of_length_le (by omega)] at hp
      obtain ⟨xs, ho, hx⟩ := hp
      exact ⟨xs, own_base ho k2.size, hx⟩
set_option maxRecDepth 100000 in
theorem tnew_at (w : World) {k : Int} (h0 : 0 ≤ k) (h1 : k ≤ 1099511627776) : Calls Tryz.prog 32 #[.int .i64 258, .int .i64 k] w fun e w' => ∃ M X rx B rb r, e = .returned (.tuple #[.pointer (some ⟨M, 0, none⟩), .int .i64 0]) ∧ Chg [] w w' ∧ MgrG w' M X B r (.slice none 0 0) 0 0 k k k false ∧ VerAt w' X rx ∧ BookAt w' B rb 0 [] ∧ MapAt w' r [] ∧
    w.heap.size ≤ M ∧ w.heap.size ≤ X ∧ w.heap.size ≤ rx ∧ w.heap.size ≤ B ∧ w.heap.size ≤ rb ∧ w.heap.size ≤ r ∧ rx ≠ rb ∧ r ≠ rb ∧ r ≠ rx := by
  have hm := @run_makeMap Tryz.prog
  have n0 : decide (k < 0) = false := decide_eq_false (by omega)
  have n1 : decide (1099511627776 < k) = false := decide_eq_false (by omega)
  go_enter Tryz.func32, Tryz.ntmps32
  go_wp2_with fail
  refine (xnew_any w).mono ?_
  rintro e w1 ⟨X, rx, rfl, hc1, hX, l1, l2⟩
  go_wp2_with fail
  refine (hnew_any w1).mono ?_
  rintro e w2 ⟨B, rb, rfl, hc2, hB, l3, l4⟩
  have hs1 := hc1.size
  have hs2 := hc2.size
  have hq1 := hX.2.lt
  have hq2 := hB.2.lt
  have hX2 : VerAt w2 X rx := ⟨hc2.heap hX.1 (by simp), hX.2.keep hc2 (by simp)⟩
  have hc := hc1.then hc2
  have h2 := two_new w2 (.map #[] 0) (.cells #[.pointer (some ⟨X, 0, none⟩), .pointer (some ⟨B, 0, none⟩), .map (some w2.heap.size), .slice none 0 0, .int .i64 0, .int .i64 0, .int .i64 k, .int .i64 k, .int .i64 k, .bool false] 136)
  have hc3 := chg_two w2 (.map #[] 0) (.cells #[.pointer (some ⟨X, 0, none⟩), .pointer (some ⟨B, 0, none⟩), .map (some w2.heap.size), .slice none 0 0, .int .i64 0, .int .i64 0, .int .i64 k, .int .i64 k, .int .i64 k, .bool false] 136)
  go_wp2_with fail
  go_ret2
  exact ⟨w2.heap.size + 1, X, rx, B, rb, w2.heap.size, rfl, hc.then hc3, h2.2, ⟨hc3.heap hX2.1 (by simp), hX2.2.keep hc3 (by simp)⟩, ⟨hc3.heap hB.1 (by simp), hB.2.keep hc3 (by simp)⟩, ⟨#[], 0, h2.1, rfl, MapKept.stamped_empty 0⟩, by omega, by omega, by omega, by omega, by omega, by omega, by omega, by omega, by omega⟩
end Go.Proofs.YtnelakpdmjfolaaGreat
namespace Go.Proofs.YtnelakpdmjfolaaGreat
open Go.RowKit Go.Lib

set_option maxRecDepth 100000 in
set_option maxHeartbeats 8000000 in
theorem apply_wide (w : World) {lo X rx lp cb : Nat} {last k : Int} {pb : Option Addr} {Lv : List (Int × Value)} {vs : Int → List (Int × List UInt8)} {l : List (Int × List UInt8)} (hv : VerG w lo X rx last Lv vs) (hap : ApL Lv) (hkeys : ∀ p ∈ Lv, 0 ≤ p.1 ∧ p.1 < 258) (hlo : lo ≤ w.heap.size)
    (hp : PutsAt w lp (.slice pb l.length cb) l) (hk : ∀ x ∈ l, 0 ≤ x.1 ∧ x.1 < 258) (hr : Rise l) (hl0 : 0 < l.length) (hl : l.length ≤ 258) (hk0 : last < k) (hk1 : k ≤ 1099511627776) (hs : ∀ c, (vs c).length + 258 < 1000000) :
    Calls Tryz.prog 74 #[.pointer (some ⟨X, 0, none⟩), .agg #[.int .i64 k, .slice pb l.length cb]] w fun e w' => e = .returned (.int .i64 0) ∧ Cv lo X rx w w' ∧ ∃ Lv', VerG w' lo X rx k Lv' (applyV vs k l) ∧ ApL Lv' ∧ ∀ p ∈ Lv', 0 ≤ p.1 ∧ p.1 < 258 := by
  obtain ⟨gp, cap, gd0, cd0, hvv, hcap, -, -, -, -, -⟩ := hp.get 0 hl0
  cases hvv
  have k0 : Chg [] w (w.alloc (.cells #[.int .i64 k, .slice (some ⟨gp, 0, none⟩) l.length cb] 128)) := Chg.alloc w _
  have K0 := heap_new w (.cells #[.int .i64 k, .slice (some ⟨gp, 0, none⟩) l.length cb] 128)
  have hv0 := hv.keep k0
  have hp0 := hp.keep0 k0
  have hA0 : Ap w (w.alloc (.cells #[.int .i64 k, .slice (some ⟨gp, 0, none⟩) l.length cb] 128)) lo X rx last k vs l 0 := ⟨⟨Lv, hv0, hap, hkeys⟩, Cv.of_chg k0⟩
  have x0 : (w.alloc (.cells #[.int .i64 k, .slice (some ⟨gp, 0, none⟩) l.length cb] 128)).cell? ⟨X, 0, none⟩ = some (.int .i64 258) := cell_is hv0.x 0 rfl
  have x2 : (w.alloc (.cells #[.int .i64 k, .slice (some ⟨gp, 0, none⟩) l.length cb] 128)).cell? ⟨X, 2, none⟩ = some (.int .i64 last) := cell_is hv0.x 2 rfl
  have b0 : (w.alloc (.cells #[.int .i64 k, .slice (some ⟨gp, 0, none⟩) l.length cb] 128)).cell? ⟨w.heap.size, 0, none⟩ = some (.int .i64 k) := cell_is K0 0 rfl
  have b1 : (w.alloc (.cells #[.int .i64 k, .slice (some ⟨gp, 0, none⟩) l.length cb] 128)).cell? ⟨w.heap.size, 1, none⟩ = some (.slice (some ⟨gp, 0, none⟩) l.length cb) := cell_is K0 1 rfl
  have HG := Lib.hid (xgone_any _ x0)
  have n0 : decide (k ≤ last) = false := decide_eq_false (by omega)
  have n1 : decide (1099511627776 < k) = false := decide_eq_false (by omega)
  have HKB := Lib.hid (fun w1 (kk : Chg [] (w.alloc (.cells #[.int .i64 k, .slice (some ⟨gp, 0, none⟩) l.length cb] 128)) w1) b (h0 : 0 ≤ b) (h1 : b < 258) => gblock_any w1 (b := b) (hv0.keep kk) h0 h1)
  have HRs := Lib.hid (fun w1 (kk : Chg [] (w.alloc (.cells #[.int .i64 k, .slice (some ⟨gp, 0, none⟩) l.length cb] 128)) w1) => rise_ok w1 (hp0.keep0 kk) hr hl0 (by omega))
  have HCp := Lib.hid (fun w1 (kk : Chg [] (w.alloc (.cells #[.int .i64 k, .slice (some ⟨gp, 0, none⟩) l.length cb] 128)) w1) => contputs_164 w1 (hp0.keep0 kk) hk (by omega))
  have HP := Lib.hid hp0
  have HA := Lib.hid hA0
  have HK := Lib.hid hk
  have HS := Lib.hid hs
  have hl0i : (0 : Int) < l.length := by omega
  have hcapi : (l.length : Int) ≤ cb := by omega
  have hmn : l.length - 1 < l.length := by omega
  clear hv hap hkeys hv0 hp hp0 hr hA0 hk x0 hs
  go_enter Tryz.func74, Tryz.ntmps74
  go_wp2_with fail
  generalize w.alloc (.cells #[.int .i64 k, .slice (some ⟨gp, 0, none⟩) l.length cb] 128) = w1 at *
  generalize hz : w.heap.size = z at *
  refine HG.out.mono ?_
  rintro e w2 ⟨rfl, rfl⟩
  go_wp2_with fail
  go_quiet (fail)
  have b0' : (w1.drewN nq).cell? ⟨z, 0, none⟩ = some (.int .i64 k) := b0
  have b1' : (w1.drewN nq).cell? ⟨z, 1, none⟩ = some (.slice (some ⟨gp, 0, none⟩) l.length cb) := b1
  have kd : Chg [] w1 (w1.drewN nq) := (Chg.refl [] w1).drewN nq
  have HAd := Lib.hid (HA.out.keep kd)
  have K0d := kd.heap K0 (by simp)
  clear b0 b1 x2 n0 n1 HA K0 HG
  go_wp2_with fail
  refine (HRs.out _ kd).mono ?_
  rintro e w2 ⟨rfl, k2⟩
  have hp2 := HP.out.keep0 (kd.then k2)
  obtain ⟨gp1, cap1, gd1, cd1, hv1, -, d0, -, -, -, -⟩ := hp2.get 0 hl0
  obtain ⟨gp2, cap2, gd2, cd2, hv2, -, dm, -, -, -, -⟩ := hp2.get (l.length - 1) hmn
  cases hv1
  cases hv2
  have hk0b := HK.out _ (List.getElem_mem hl0)
  have hkmb := HK.out _ (List.getElem_mem (hmn))
  have b12 := k2.cell b1' (by simp)
  have HB0 := Lib.hid (HKB.out w2 (kd.then k2) _ hk0b.1 hk0b.2)
  have HBm := Lib.hid (HKB.out w2 (kd.then k2) _ hkmb.1 hkmb.2)
  have HA2 := Lib.hid (HAd.out.keep k2)
  have K2 := k2.heap K0d (by simp)
  clear HRs b1' hp2 HAd K0d hk0b hkmb
  generalize (l[0]'hl0).1 = y0 at *
  generalize (l[l.length - 1]'(hmn)).1 = ym at *
  go_wp2_with fail
  refine HB0.out.mono ?_
  rintro e w3 ⟨rfl, rfl⟩
  go_wp2_with fail
  refine HBm.out.mono ?_
  rintro e w3 ⟨rfl, rfl⟩
  go_wp2_with fail
  refine (HCp.out w2 (kd.then k2)).mono ?_
  rintro e w3 ⟨rfl, k3⟩
  have b13 := k3.cell b12 (by simp)
  have HA3 := Lib.hid (HA2.out.keep k3)
  have HP3 := Lib.hid (HP.out.keep0 ((kd.then k2).then k3))
  have K3 := k3.heap K2 (by simp)
  have hz3 : lo ≤ w3.heap.size := by have := HA3.out.cv.size; omega
  have hzlt := heap_lt K3
  clear HB0 HBm HCp HKB d0 dm b12 HA2 K2 HP k2 k3 kd
  clear hmn
  go_wp2_with fail
  go_loopw [6, 58] (fun _ i wr => ∃ j : Nat, j ≤ l.length ∧ i = .int .i64 j ∧ Ap w wr lo X rx last k vs l j ∧ PutsAt wr lp (.slice (some ⟨gp, 0, none⟩) l.length cb) l ∧ wr.heap[z]? = some (.cells #[.int .i64 k, .slice (some ⟨gp, 0, none⟩) l.length cb] 128 (0, 0)) ∧ lo ≤ wr.heap.size) (fun _ i _ => l.length - (intOf i).toNat)
  case atStart => exact ⟨0, by omega, rfl, HA3.out, HP3.out, K3, hz3⟩
  case round =>
    obtain ⟨j, hj, rfl, hAr, hPr, Kr, hlr⟩ := hrel
    rename World => wr
    clear HA3 HP3 K3 hz3 b13
    by_cases hlt : j < l.length
    · obtain ⟨L, hver, hap, hkeys⟩ := hAr.ver
      obtain ⟨gp3, cap3, gd, cd, hv3, -, d0, d1, hbs, hbl, hbt⟩ := hPr.get j hlt
      cases hv3
      have hkj := HK.out _ (List.getElem_mem hlt)
      obtain ⟨v, xs, hgv, hgl, hown, hxs⟩ := hver.own hkj.1 hkj.2
      have HX := Lib.hid hxs
      have HO := Lib.hid hown
      have HV := Lib.hid hver
      have HAp := Lib.hid hap
      have HKs := Lib.hid hkeys
      have HGl := Lib.hid hgl
      have HPr := Lib.hid hPr
      have HAr := Lib.hid hAr
      have HBs := Lib.hid hbs
      have HBt := Lib.hid hbt
      have HKr := Lib.hid Kr
      have hlti : (j : Int) < l.length := by omega
      have kp : Chg [] wr (wr.alloc (.cells #[.int .i64 (l[j]'hlt).1, .slice (some ⟨gd, 0, none⟩) 40 cd] 41)) := Chg.alloc wr _
      have Kp := heap_new wr (.cells #[.int .i64 (l[j]'hlt).1, .slice (some ⟨gd, 0, none⟩) 40 cd] 41)
      have hlen : ((applyV vs k (l.take j)) (l[j]'hlt).1).length ≤ 1000000 := by
        have h1 := applyV_len vs k (l.take j) (l[j]'hlt).1
        have h2 := HS.out (l[j]'hlt).1
        simp only [List.length_take] at h1
        omega
      have HLn := Lib.hid hlen
      have HKj := Lib.hid hkj
      have HLr := Lib.hid hlr
      have HVl := Lib.hid (show ∀ c, ((applyV vs k (l.take j)) c).length < 1000000 from fun c => by
        have h1 := applyV_len vs k (l.take j) c
        have h2 := HS.out c
        simp only [List.length_take] at h1
        omega)
      have hd40 := Lib.hid hbl
      have HT := Lib.hid (applyV_take vs k l j hlt)
      clear hver hap hkeys hown hxs hgl hPr hAr hbs hbt hbl hkj hlen
      generalize hb' : (l[j]'hlt).1 = b at *
      generalize hd' : (l[j]'hlt).2 = d at *
      generalize applyV vs k (l.take j) = vj at *
      go_upto_block 2 with fail
      go_cut [6] from 60 to 83 (fun _ wx => Ap w wx lo X rx last k vs l (j + 1) ∧ PutsAt wx lp (.slice (some ⟨gp, 0, none⟩) l.length cb) l ∧ wx.heap[z]? = some (.cells #[.int .i64 k, .slice (some ⟨gp, 0, none⟩) l.length cb] 128 (0, 0)) ∧ lo ≤ wx.heap.size)
      case rest =>
        obtain ⟨q1, q2, q3, q4⟩ := hcut
        go_wp2_with fail
        exact ⟨⟨j + 1, by omega, by go_num, q1, q2, q3, q4⟩, by simp [intOf]; omega⟩
      go_wp2_with fail
      have hV5 := HV.out.keep kp
      have x1 : (wr.alloc (.cells #[.int .i64 b, .slice (some ⟨gd, 0, none⟩) 40 cd] 41)).cell? ⟨X, 1, none⟩ = some (.map (some rx)) := cell_is hV5.x 1 rfl
      have p0 : (wr.alloc (.cells #[.int .i64 b, .slice (some ⟨gd, 0, none⟩) 40 cd] 41)).cell? ⟨wr.heap.size, 0, none⟩ = some (.int .i64 b) := cell_is Kp 0 rfl
      have p1 : (wr.alloc (.cells #[.int .i64 b, .slice (some ⟨gd, 0, none⟩) 40 cd] 41)).cell? ⟨wr.heap.size, 1, none⟩ = some (.slice (some ⟨gd, 0, none⟩) 40 cd) := cell_is Kp 1 rfl
      have b0 : (wr.alloc (.cells #[.int .i64 b, .slice (some ⟨gd, 0, none⟩) 40 cd] 41)).cell? ⟨z, 0, none⟩ = some (.int .i64 k) := cell_is (kp.heap Kr (by simp)) 0 rfl
      have HLk := Lib.hid (fun wx (kx : Chg [] wr wx) => show (Instr.lookup 184 (.map (some rx)) (.int .i64 b) false).run Tryz.prog wx = .ok v wx from by
        have := lookup258g (HV.out.keep kx).m b
        rw [hgv] at this
        exact this)
      generalize hw5 : wr.alloc (.cells #[.int .i64 b, .slice (some ⟨gd, 0, none⟩) 40 cd] 41) = w5 at *
      have hzp : wr.heap.size ≤ w5.heap.size := kp.size
      have kd : Chg [] wr w5.drew := kp.drew
      have hXn : X ∉ v.ownBlock.toList := own_block_ne HO.out HV.out.x (by decide)
      have hrn : rx ∉ v.ownBlock.toList := fun hm => by
        obtain ⟨-, cs, hh⟩ := own_elem HO.out (show v.ownBlock = some rx by simpa using hm)
        exact map_cells HV.out.m hh rfl
      have hzn : wr.heap.size ∉ v.ownBlock.toList := own_block_ne (ownsRow_av HO.out kp (Av.nil _ _)) Kp (by decide)
      have HXn := Lib.hid hXn
      have HRn := Lib.hid hrn
      have HZn := Lib.hid hzn
      have HBn := Lib.hid (own_block_ne (ownsRow_av HO.out kp (Av.nil _ _)) (kp.heap HKr.out (by simp)) (by decide) : z ∉ v.ownBlock.toList)
      clear hXn hrn hzn
      have hl5 : lo ≤ w5.drew.heap.size := Nat.le_trans hlr hzp
      have hlk5 := HLk.out w5.drew kd
      have x1d : w5.drew.cell? ⟨X, 1, none⟩ = some (.map (some rx)) := x1
      have p0d : w5.drew.cell? ⟨wr.heap.size, 0, none⟩ = some (.int .i64 b) := p0
      have p1d : w5.drew.cell? ⟨wr.heap.size, 1, none⟩ = some (.slice (some ⟨gd, 0, none⟩) 40 cd) := p1
      have b0d : w5.drew.cell? ⟨z, 0, none⟩ = some (.int .i64 k) := b0
      clear hgv d0 d1 Kr
      generalize wr.heap.size = zp at *
      go_region_held3 (fun wx => wx.cell? ⟨X, 1, none⟩ = some (.map (some rx)) ∧ wx.cell? ⟨zp, 0, none⟩ = some (.int .i64 b) ∧ wx.cell? ⟨zp, 1, none⟩ = some (.slice (some ⟨gd, 0, none⟩) 40 cd) ∧ wx.cell? ⟨z, 0, none⟩ = some (.int .i64 k))
        (first
          | (exact ⟨x1d, p0d, p1d, b0d⟩)
          | (exact ⟨x16, p06, p16, b06⟩)
          | (exact ⟨x1y, p0y, p1y, b0y⟩)
          | (exact ⟨x17, p07, p17, b07⟩)
          | (exact ⟨k9.cell x17 (by simpa using cell_map m7 x17), k9.cell p07 (by simpa using cell_map m7 p07), k9.cell p17 (by simpa using cell_map m7 p17), k9.cell b07 (by simpa using cell_map m7 b07)⟩))
        (first
          | (go_simp; go_at_call 65; refine (clone_bt w5.drew (l := d) (m := 40) hd40.out (by decide) (by decide) (HBs.out.chg kd)).mono ?_; rintro e w6 ⟨g2, c2, rfl, k6, bs6, l6, bt6⟩; have k6r := kd.then k6; have x16 := k6.cell x1d (by simp); have p06 := k6.cell p0d (by simp); have p16 := k6.cell p1d (by simp); have b06 := k6.cell b0d (by simp); have hlk6 := HLk.out w6 k6r; have ky : Chg [] wr (w6.alloc (.cells #[.int .i64 k, .slice (some ⟨g2, 0, none⟩) 40 c2] 196)) := k6r.then_alloc _; have y0 := heap_new w6 (.cells #[.int .i64 k, .slice (some ⟨g2, 0, none⟩) 40 c2] 196); have kyy : Chg [] w6 (w6.alloc (.cells #[.int .i64 k, .slice (some ⟨g2, 0, none⟩) 40 c2] 196)) := Chg.alloc w6 _; have x1y := kyy.cell x16 (by simp); have p0y := kyy.cell p06 (by simp); have p1y := kyy.cell p16 (by simp); have b0y := kyy.cell b06 (by simp); have hlky := HLk.out _ ky; have oy := ownsRow_av HO.out ky (Av.nil _ _); have hby : lo ≤ (w6.alloc (.cells #[.int .i64 k, .slice (some ⟨g2, 0, none⟩) 40 c2] 196)).heap.size := (by have := k6.size; have := kyy.size; omega))
          | (refine step_append_ver rfl (.tmp 74) (.tmp 81) rfl lo _ _ xs rfl oy w6.heap.size 1 _ _ rfl (cell_is y0 0 rfl) (cell_is y0 1 rfl) ⟨rfl, rfl⟩ HLn.out hby ?_; intro g7 cp7 w7 o7 k7 i7; have x17 := k7.cell x1y HXn.out; have p07 := k7.cell p0y HZn.out; have p17 := k7.cell p1y HZn.out; have b07 := k7.cell b0y HBn.out; have m7 := (HV.out.keep ky).m.keep k7 HRn.out; obtain ⟨hmu, m8, k9⟩ := upd258 m7 b (.slice (some ⟨g7, 0, none⟩) ((vj b).length + 1) cp7)))
      all_goals
        obtain ⟨hvF, haF, hcF⟩ := VerG.added (d := d) (k := k) (HV.out.keep ky) HAp.out HKs.out HGl.out oy (fun i hi => by
          obtain ⟨e1, g', c', e2, e3, e4, e5⟩ := HX.out i hi
          exact ⟨e1, g', c', e2, e3.chg ky, e4, Bt.keep e5 ky (by simp)⟩) rfl o7 k7 i7 (bs6.chg kyy) hd40.out (Bt.keep bt6 kyy (by simp)) m8 k9 (fun c => by
          have := HVl.out c
          omega)
        have hkF : ∀ p ∈ putL L b (.slice (some ⟨g7, 0, none⟩) ((vj b).length + 1) cp7), 0 ≤ p.1 ∧ p.1 < 258 := putL_keys (P := fun x => 0 ≤ x ∧ x < 258) HKs.out HKj.out
        have hcC : Cv lo X rx wr (updW w7 184 rx b (.slice (some ⟨g7, 0, none⟩) ((vj b).length + 1) cp7)) := (Cv.of_chg ky).trans hcF
        have hA' := Lib.hid (Ap.mk (w := w) (last := last) (k := k) (vs := vs) (l := l) (j := j + 1) ⟨_, HT.out ▸ hvF, haF, hkF⟩ (HAr.out.cv.trans hcC))
        obtain ⟨TT, hT1, hT2⟩ := hcC
        have hXr := HV.out.x
        have hmr := HV.out.m
        have hP' := Lib.hid (HPr.out.keep hT1 (Cv.av hT2 hXr hmr (by decide) (by decide)) (fun g hg hm => by
          obtain ⟨-, cs, hh⟩ := HPr.out.block g hg
          exact (Cv.av (ts := [41]) hT2 hXr hmr (by decide) (by decide)).ne hh (by simp) hm))
        have hK' := Lib.hid (hT1.heap HKr.out ((Cv.av (ts := [128]) hT2 hXr hmr (by decide) (by decide)).ne HKr.out (by simp)))
        have hS' := Lib.hid (show lo ≤ (updW w7 184 rx b (.slice (some ⟨g7, 0, none⟩) ((vj b).length + 1) cp7)).heap.size from by
          have := k6.size
          have := kyy.size
          have := hcF.size
          omega)
        clear hvF haF hcF hkF hT1 hT2 hXr hmr hmu
        go_wp2_with fail
        go_meet
        exact ⟨hA'.out, hP'.out, hK'.out, hS'.out⟩
    · obtain rfl : j = l.length := by omega
      obtain ⟨L, hver, hap, hkeys⟩ := hAr.ver
      rw [List.take_length] at hver
      have b13 : wr.cell? ⟨z, 0, none⟩ = some (.int .i64 k) := cell_is Kr 0 rfl
      have x2 : wr.cell? ⟨X, 2, none⟩ = some (.int .i64 last) := cell_is hver.x 2 rfl
      have f2 := unfrozen hver.x 2
      have HV := Lib.hid (hver.timed k)
      have HC := Lib.hid (hAr.cv.trans ⟨[X], Chg.set wr X 2 (.int .i64 k), fun x hx _ => Or.inl (by simpa using hx)⟩)
      clear hver hAr hPr Kr
      go_wp2_with fail
      go_ret
      exact ⟨rfl, HC.out, L, HV.out, hap, hkeys⟩
set_option maxRecDepth 100000 in
set_option maxHeartbeats 4000000 in
theorem tload_wide (w : World) {lo M X B r rx lp cb : Nat} {qv : Value} {out num bas last given lastv : Int} {rd : Bool} {pb : Option Addr} {Lv : List (Int × Value)} {vs : Int → List (Int × List UInt8)} {l : List (Int × List UInt8)}
    (h : MgrG w M X B r qv out num bas last given rd) (hr0 : MapAt w r []) (hv : VerG w lo X rx lastv Lv vs) (hap : ApL Lv) (hkeys : ∀ p ∈ Lv, 0 ≤ p.1 ∧ p.1 < 258) (hlo : lo ≤ w.heap.size)
    (hp : PutsAt w lp (.slice pb l.length cb) l) (hk : ∀ x ∈ l, 0 ≤ x.1 ∧ x.1 < 258) (hr : Rise l) (hl0 : 0 < l.length) (hl : l.length ≤ 258) (hb0 : 0 < bas) (hk0 : lastv < bas) (hk1 : bas ≤ 1099511627776) (hs : ∀ c, (vs c).length + 258 < 1000000) :
    Calls Tryz.prog 34 #[.pointer (some ⟨M, 0, none⟩), .slice pb l.length cb] w fun e w' => e = .returned (.int .i64 0) ∧ Cv lo X rx w w' ∧ ∃ Lv', VerG w' lo X rx bas Lv' (applyV vs bas l) ∧ ApL Lv' ∧ ∀ p ∈ Lv', 0 ≤ p.1 ∧ p.1 < 258 := by
  have HG := Lib.hid (tgone_mg w h)
  have kd : Chg [] w w.drew := (Chg.refl [] w).drew
  have HA := Lib.hid (apply_wide w.drew (hv.keep kd) hap hkeys (Nat.le_trans hlo kd.size) (hp.keep0 kd) hk hr hl0 hl hk0 hk1 hs)
  have HK := Lib.hid kd
  have c0 : w.cell? ⟨M, 0, none⟩ = some (.pointer (some ⟨X, 0, none⟩)) := cell_is h 0 rfl
  have c2 : w.cell? ⟨M, 2, none⟩ = some (.map (some r)) := cell_is h 2 rfl
  have c6 : w.cell? ⟨M, 6, none⟩ = some (.int .i64 bas) := cell_is h 6 rfl
  have hlen : (Builtin.len_ #[134] 3 #[.map (some r)]).run Tryz.prog w = .ok (.int .i64 0) w := run_len_im ty178 hr0 3
  have hb1 : ¬ bas = 0 := by omega
  have hl1 : ¬ (l.length : Int) = 0 := by omega
  have hd0 : decide (bas = 0) = false := by simpa using hb1
  have hd1 : decide ((l.length : Int) = 0) = false := by simpa using hl1
  clear kd h hr0 hv hap hkeys hlo hp hk hr hk0 hk1 hs
  go_enter Tryz.func34, Tryz.ntmps34
  go_wp2_with fail
  refine HG.out.mono ?_
  rintro e w1 ⟨rfl, rfl⟩
  go_wp2_with fail
  go_still_tail 10, (by kernel_rfl)
  change wpList _ _ _ _ _ w.drew
  generalize w.drew = w2 at *
  go_wp2_with fail
  refine HA.out.mono ?_
  rintro e w3 ⟨rfl, hcv, Lv', h1, h2, h3⟩
  have HR := Lib.hid (And.intro ((Cv.of_chg HK.out).trans hcv) (And.intro h1 (And.intro h2 h3)))
  clear hcv h1 h2 h3
  go_wp2_with fail
  go_ret
  exact ⟨rfl, HR.out.1, _, HR.out.2.1, HR.out.2.2.1, HR.out.2.2.2⟩
end Go.Proofs.YtnelakpdmjfolaaGreat
namespace Go.Proofs.YtnelakpdmjfolaaGreat
open Go.RowKit Go.Lib

/-- what all blocks hold behind some puts, by rising number. -/
def finL (ps : List (Int × List UInt8)) : List (Int × List UInt8) := (sortI (appK ps)).map fun k => (k, appD ps k)
theorem finL_length (ps : List (Int × List UInt8)) : (finL ps).length = (appK ps).length := by simp [finL, sortI_length]
theorem putsL_fin {L : List (Int × Value)} {ps : List (Int × List UInt8)} (h : L.map Prod.fst = appK ps) : putsL L (appD ps) = finL ps := by
  rw [putsL, finL, h]
theorem appK_in {P : Int → Prop} (ps : List (Int × List UInt8)) (h : ∀ x ∈ ps, P x.1) : ∀ k ∈ appK ps, P k := by
  have h2 : ∀ (ps : List (Int × List UInt8)) (K : List Int), (∀ x ∈ ps, P x.1) → (∀ k ∈ K, P k) → ∀ k ∈ ps.foldl (fun K x => if x.1 ∈ K then K else K ++ [x.1]) K, P k := by
    intro ps
    induction ps with
    | nil => intro K _ hK; exact hK
    | cons x ps ih =>
      intro K hp hK
      refine ih _ (fun y hy => hp y (List.mem_cons_of_mem _ hy)) ?_
      intro k hk
      dsimp only at hk
      by_cases e : x.1 ∈ K
      · rw [if_pos e] at hk
        exact hK k hk
      · rw [if_neg e] at hk
        rcases List.mem_append.1 hk with hk | hk
        · exact hK k hk
        · rw [List.mem_singleton] at hk
          subst hk
          exact hp x (List.mem_cons_self ..)
  exact h2 ps [] h (fun k hk => by cases hk)
/-- what stands while a store with a log is mounted. -/
structure Bq (w wx : World) (base N A c : Nat) (ops rds : Int) (Z : List Nat) (vs : Nat → Value) (gs : Nat → Nat) (zs : Nat → List (List UInt8)) (P S R r pos num last : Nat) (ps : List (Int × List UInt8)) : Prop where
  chg : Chg (N :: Z) w wx
  dev : DevK wx base N A c ops rds Z vs gs zs
  slot : SlotAt wx S N
  store : ∃ q, StoreM wx P N S q pos num
  state : StateM wx R r last
  map : ∃ L, MapAt wx r L ∧ BufD wx L (appD ps) ∧ L.map Prod.fst = appK ps
theorem Bq.keep {w w1 w2 : World} {base N A c : Nat} {ops rds : Int} {Z : List Nat} {vs : Nat → Value} {gs : Nat → Nat} {zs : Nat → List (List UInt8)} {P S R r pos num last : Nat} {ps : List (Int × List UInt8)} (h : Bq w w1 base N A c ops rds Z vs gs zs P S R r pos num last ps) (hc : Chg [] w1 w2) : Bq w w2 base N A c ops rds Z vs gs zs P S R r pos num last ps := by
  obtain ⟨q, hs⟩ := h.store
  obtain ⟨L, h1, h2, h3⟩ := h.map
  exact ⟨h.chg.then (hc.mono (fun x hx _ => by cases hx)), h.dev.keep hc (Av.nil _ _), h.slot.keep hc (by simp), ⟨q, hc.heap hs (by simp)⟩, hc.heap h.state (by simp), L, h1.keep hc (by simp), h2.keep hc, h3⟩
theorem Bq.drew {w w1 : World} {base N A c : Nat} {ops rds : Int} {Z : List Nat} {vs : Nat → Value} {gs : Nat → Nat} {zs : Nat → List (List UInt8)} {P S R r pos num last : Nat} {ps : List (Int × List UInt8)} (h : Bq w w1 base N A c ops rds Z vs gs zs P S R r pos num last ps) : Bq w w1.drew base N A c ops rds Z vs gs zs P S R r pos num last ps := h.keep (Chg.refl [] w1).drew
theorem Bq.r0 {w w1 : World} {base N A c : Nat} {ops rds : Int} {Z : List Nat} {vs : Nat → Value} {gs : Nat → Nat} {zs : Nat → List (List UInt8)} {P S R r pos num last : Nat} {ps : List (Int × List UInt8)} (h : Bq w w1 base N A c ops rds Z vs gs zs P S R r pos num last ps) : w1.cell? ⟨R, 0, none⟩ = some (.int .i64 last) := cell_is h.state 0 rfl
theorem Bq.p5 {w w1 : World} {base N A c : Nat} {ops rds : Int} {Z : List Nat} {vs : Nat → Value} {gs : Nat → Nat} {zs : Nat → List (List UInt8)} {P S R r pos num last : Nat} {ps : List (Int × List UInt8)} (h : Bq w w1 base N A c ops rds Z vs gs zs P S R r pos num last ps) : (∃ m, w1.cell? ⟨P, 5, none⟩ = some (.pointer m)) ∧ w1.frozen? ⟨P, 5, none⟩ = false := by
  obtain ⟨q, hs⟩ := h.store
  exact ⟨⟨q, cell_is hs 5 rfl⟩, unfrozen hs 5⟩
theorem Bq.set {w w1 : World} {base N A c : Nat} {ops rds : Int} {Z : List Nat} {vs : Nat → Value} {gs : Nat → Nat} {zs : Nat → List (List UInt8)} {P S R r pos num last : Nat} {ps : List (Int × List UInt8)} (h : Bq w w1 base N A c ops rds Z vs gs zs P S R r pos num last ps) (hP : w.heap.size ≤ P) (q : Option Addr) :
    Bq w (w1.setCell ⟨P, 5, none⟩ (.pointer q)) base N A c ops rds Z vs gs zs P S R r pos num last ps ∧ StoreM (w1.setCell ⟨P, 5, none⟩ (.pointer q)) P N S q pos num := by
  obtain ⟨m, hs⟩ := h.store
  obtain ⟨L, h1, h2, h3⟩ := h.map
  have k := Chg.set w1 P 5 (.pointer q)
  have b2 : StoreM (w1.setCell ⟨P, 5, none⟩ (.pointer q)) P N S q pos num := heap_set hs 5 _ rfl
  refine ⟨⟨h.chg.new_set hP 5 _, h.dev.keep k (Av.row hs (by decide)), h.slot.keep k (by simpa using heap_ne h.slot hs (by simp)), ⟨q, b2⟩, k.heap h.state (by simpa using heap_ne h.state hs (by simp)), L, h1.keep k (by simpa using map_cells h1 hs), ?_, h3⟩, b2⟩
  intro j v hv
  obtain ⟨g, cc, e1, e2, e3, e4⟩ := h2 j v hv
  have hn : g ∉ [P] := Bt.av e4 (Av.row hs (ts := [5]) (by decide)) (by simp)
  exact ⟨g, cc, e1, e2.chgT k hn, e3, Bt.keep e4 k hn⟩
/-- a manager of it, that has taken nothing in. -/
structure Mq (w wx : World) (base N A c : Nat) (ops rds : Int) (Z : List Nat) (vs : Nat → Value) (gs : Nat → Nat) (zs : Nat → List (List UInt8)) (P S R r pos num last : Nat) (ps : List (Int × List UInt8)) (M X rx B rb rc lo : Nat) : Prop where
  bq : Bq w wx base N A c ops rds Z vs gs zs P S R r pos num last ps
  store : StoreM wx P N S (some ⟨M, 0, none⟩) pos num
  mgr : MgrG wx M X B rc (.slice none 0 0) 0 0 last last last false
  ver : VerG wx lo X rx 0 [] (fun _ => [])
  book : BookAt wx B rb 0 []
  mp : MapAt wx rc []
theorem Mq.keep {w w1 w2 : World} {base N A c : Nat} {ops rds : Int} {Z : List Nat} {vs : Nat → Value} {gs : Nat → Nat} {zs : Nat → List (List UInt8)} {P S R r pos num last : Nat} {ps : List (Int × List UInt8)} {M X rx B rb rc lo : Nat} (h : Mq w w1 base N A c ops rds Z vs gs zs P S R r pos num last ps M X rx B rb rc lo) (hc : Chg [] w1 w2) : Mq w w2 base N A c ops rds Z vs gs zs P S R r pos num last ps M X rx B rb rc lo :=
  ⟨h.bq.keep hc, hc.heap h.store (by simp), hc.heap h.mgr (by simp), h.ver.keep hc, h.book.keep hc (by simp) (by simp), h.mp.keep hc (by simp)⟩
theorem Mq.drew {w w1 : World} {base N A c : Nat} {ops rds : Int} {Z : List Nat} {vs : Nat → Value} {gs : Nat → Nat} {zs : Nat → List (List UInt8)} {P S R r pos num last : Nat} {ps : List (Int × List UInt8)} {M X rx B rb rc lo : Nat} (h : Mq w w1 base N A c ops rds Z vs gs zs P S R r pos num last ps M X rx B rb rc lo) : Mq w w1.drew base N A c ops rds Z vs gs zs P S R r pos num last ps M X rx B rb rc lo := h.keep (Chg.refl [] w1).drew
theorem Mq.p5 {w w1 : World} {base N A c : Nat} {ops rds : Int} {Z : List Nat} {vs : Nat → Value} {gs : Nat → Nat} {zs : Nat → List (List UInt8)} {P S R r pos num last : Nat} {ps : List (Int × List UInt8)} {M X rx B rb rc lo : Nat} (h : Mq w w1 base N A c ops rds Z vs gs zs P S R r pos num last ps M X rx B rb rc lo) : w1.cell? ⟨P, 5, none⟩ = some (.pointer (some ⟨M, 0, none⟩)) := cell_is h.store 5 rfl
/-- a store that was mounted with a log. -/
structure Mo (w wx : World) (base N A c : Nat) (ops rds : Int) (Z : List Nat) (vs : Nat → Value) (gs : Nat → Nat) (zs : Nat → List (List UInt8)) (P S M X rx B rb r lo pos num k : Nat) (Lv : List (Int × Value)) (l : List (Int × List UInt8)) : Prop where
  chg : Chg (N :: Z) w wx
  dev : DevK wx base N A c ops rds Z vs gs zs
  store : StoreG wx P N S M pos num
  slot : SlotAt wx S N
  mgr : MgrG wx M X B r (.slice none 0 0) 0 0 k k k false
  ver : VerG wx lo X rx k Lv (applyV (fun _ => []) k l)
  ap : ApL Lv
  keys : ∀ p ∈ Lv, 0 ≤ p.1 ∧ p.1 < 258
  book : BookAt wx B rb 0 []
  map : MapAt wx r []
  bnd : w.heap.size ≤ P ∧ w.heap.size ≤ S ∧ w.heap.size ≤ M ∧ w.heap.size ≤ X ∧ w.heap.size ≤ rx ∧ w.heap.size ≤ B ∧ w.heap.size ≤ rb ∧ w.heap.size ≤ r ∧ w.heap.size ≤ lo ∧ lo ≤ wx.heap.size
  ne : rx ≠ rb ∧ r ≠ rb ∧ r ≠ rx
/-- .. behind the taking in of what was there. -/
theorem Mq.mo {w w1 w2 : World} {base N A c : Nat} {ops rds : Int} {Z : List Nat} {vs : Nat → Value} {gs : Nat → Nat} {zs : Nat → List (List UInt8)} {P S R r pos num last : Nat} {ps : List (Int × List UInt8)} {M X rx B rb rc lo : Nat} {Lv : List (Int × Value)} {l : List (Int × List UInt8)} (h : Mq w w1 base N A c ops rds Z vs gs zs P S R r pos num last ps M X rx B rb rc lo) (hv : Cv lo X rx w1 w2) (hV : VerG w2 lo X rx last Lv (applyV (fun _ => []) last l)) (hap : ApL Lv) (hk : ∀ p ∈ Lv, 0 ≤ p.1 ∧ p.1 < 258)
    (hb : w.heap.size ≤ P ∧ w.heap.size ≤ S ∧ w.heap.size ≤ M ∧ w.heap.size ≤ X ∧ w.heap.size ≤ rx ∧ w.heap.size ≤ B ∧ w.heap.size ≤ rb ∧ w.heap.size ≤ rc ∧ w.heap.size ≤ lo ∧ lo ≤ w1.heap.size) (hn : rx ≠ rb ∧ rc ≠ rb ∧ rc ≠ rx) : Mo w w2 base N A c ops rds Z vs gs zs P S M X rx B rb rc lo pos num last Lv l := by
  obtain ⟨T, k, hT⟩ := hv
  have av : ∀ ts, 186 ∉ ts → 196 ∉ ts → Av w1 T ts := fun ts a b => Cv.av hT h.ver.x h.ver.m a b
  refine ⟨h.bq.chg.trans k (fun x hx hlt => ?_), h.bq.dev.keep k (av _ (by decide) (by decide)), k.heap h.store ((av [72] (by decide) (by decide)).ne h.store (by simp)), h.bq.slot.keep k ((av [113] (by decide) (by decide)).ne h.bq.slot (by simp)), k.heap h.mgr ((av [136] (by decide) (by decide)).ne h.mgr (by simp)), hV, hap, hk,
    ⟨k.heap h.book.1 ((av [189] (by decide) (by decide)).ne h.book.1 (by simp)), h.book.2.keep k (Cv.map hT h.ver.x h.book.2 hn.1.symm)⟩, h.mp.keep k (Cv.map hT h.ver.x h.mp hn.2.2), ⟨hb.1, hb.2.1, hb.2.2.1, hb.2.2.2.1, hb.2.2.2.2.1, hb.2.2.2.2.2.1, hb.2.2.2.2.2.2.1, hb.2.2.2.2.2.2.2.1, hb.2.2.2.2.2.2.2.2.1, Nat.le_trans hb.2.2.2.2.2.2.2.2.2 k.size⟩, hn⟩
  have := h.bq.chg.size
  rcases hT x hx (by omega) with e | e | ⟨e, -⟩ <;> omega
theorem fin_in {ps : List (Int × List UInt8)} (h : ∀ x ∈ ps, 0 ≤ x.1 ∧ x.1 < 258) : ∀ x ∈ finL ps, 0 ≤ x.1 ∧ x.1 < 258 := by
  intro x hx
  obtain ⟨k, hk, rfl⟩ := List.mem_map.1 hx
  exact appK_in (P := fun k => 0 ≤ k ∧ k < 258) ps h k ((sortI_perm _).mem_iff.1 hk)
theorem Bq.rise {w w1 : World} {base N A c : Nat} {ops rds : Int} {Z : List Nat} {vs : Nat → Value} {gs : Nat → Nat} {zs : Nat → List (List UInt8)} {P S R r pos num last : Nat} {ps : List (Int × List UInt8)} (h : Bq w w1 base N A c ops rds Z vs gs zs P S R r pos num last ps) : Rise (finL ps) := by
  obtain ⟨L, hm, -, hK⟩ := h.map
  rw [← putsL_fin hK]
  exact rise_puts _ hm.nodup
theorem Bq.puts {w w1 : World} {base N A c : Nat} {ops rds : Int} {Z : List Nat} {vs : Nat → Value} {gs : Nat → Nat} {zs : Nat → List (List UInt8)} {P S R r pos num last : Nat} {ps : List (Int × List UInt8)} (h : Bq w w1 base N A c ops rds Z vs gs zs P S R r pos num last ps) (hin : ∀ x ∈ ps, 0 ≤ x.1 ∧ x.1 < 258) (hl : (finL ps).length ≤ 258) :
    Calls Tryz.prog 35 #[.pointer (some ⟨R, 0, none⟩)] w1 fun e w' => ∃ pb cb, e = .returned (.slice pb (finL ps).length cb) ∧ Chg [] w1 w' ∧ PutsAt w' w1.heap.size (.slice pb (finL ps).length cb) (finL ps) := by
  obtain ⟨L, hm, hD, hK⟩ := h.map
  have hlen : L.length = (finL ps).length := by rw [finL_length, ← hK, List.length_map]
  refine (sputs_ok w1 h.state hm hD (fun x hx => ?_) (by omega)).mono ?_
  · exact appK_in (P := fun k => 0 ≤ k ∧ k < 258) ps hin x.1 (by rw [← hK]; exact List.mem_map_of_mem hx)
  · rintro e w' ⟨v, rfl, k, hp⟩
    rw [putsL_fin hK] at hp
    obtain ⟨xs, ho, -⟩ := id hp
    obtain ⟨pb, cb, rfl, -⟩ := own_form ho
    exact ⟨pb, cb, rfl, k, hp⟩
theorem Mq.load {w w1 : World} {base N A c : Nat} {ops rds : Int} {Z : List Nat} {vs : Nat → Value} {gs : Nat → Nat} {zs : Nat → List (List UInt8)} {P S R r pos num last : Nat} {ps : List (Int × List UInt8)} {M X rx B rb rc lo lp cb : Nat} {pb : Option Addr} (h : Mq w w1 base N A c ops rds Z vs gs zs P S R r pos num last ps M X rx B rb rc lo) (hin : ∀ x ∈ ps, 0 ≤ x.1 ∧ x.1 < 258) (hl0 : 0 < (finL ps).length) (hl : (finL ps).length ≤ 258)
    (hp : PutsAt w1 lp (.slice pb (finL ps).length cb) (finL ps)) (hlast : 0 < last ∧ last ≤ 1099511627776)
    (hb : w.heap.size ≤ P ∧ w.heap.size ≤ S ∧ w.heap.size ≤ M ∧ w.heap.size ≤ X ∧ w.heap.size ≤ rx ∧ w.heap.size ≤ B ∧ w.heap.size ≤ rb ∧ w.heap.size ≤ rc) (hlo : lo = w.heap.size) (hn : rx ≠ rb ∧ rc ≠ rb ∧ rc ≠ rx) :
    Calls Tryz.prog 34 #[.pointer (some ⟨M, 0, none⟩), .slice pb (finL ps).length cb] w1 fun e w' => e = .returned (.int .i64 0) ∧ ∃ Lv, Mo w w' base N A c ops rds Z vs gs zs P S M X rx B rb rc lo pos num last Lv (finL ps) := by
  have hsz := h.bq.chg.size
  refine (tload_wide w1 h.mgr h.mp h.ver (fun b c v u g _ h => (by cases h)) (fun p hp => (by cases hp)) (by omega) hp (fin_in hin) h.bq.rise hl0 hl (by omega) (by omega) (by omega) (fun c => by simp)).mono ?_
  rintro e w' ⟨rfl, hcv, Lv, h1, h2, h3⟩
  exact ⟨rfl, Lv, h.mo hcv h1 h2 h3 ⟨hb.1, hb.2.1, hb.2.2.1, hb.2.2.2.1, hb.2.2.2.2.1, hb.2.2.2.2.2.1, hb.2.2.2.2.2.2.1, hb.2.2.2.2.2.2.2, by omega, by omega⟩ hn⟩
/-- what Mount hands back. -/
def MountK (w : World) (base N A c : Nat) (ops rds : Int) (Z : List Nat) (vs : Nat → Value) (gs : Nat → Nat) (zs : Nat → List (List UInt8)) (bs : List (Nat × List (Int × List UInt8))) (e : Ending) (w' : World) : Prop :=
  ∃ P S M X rx B rb r lo Lv, e = .returned (.tuple #[.pointer (some ⟨P, 0, none⟩), .int .i64 0]) ∧ Mo w w' base N A c (ops + 1) (rds + (zs 6).length) Z vs (goodF gs zs 8) zs P S M X rx B rb r lo (zs 6).length bs.length (lastT bs) Lv (finL (allP bs))
set_option maxRecDepth 100000 in
set_option maxHeartbeats 8000000 in
theorem kmount (w : World) {base N A c : Nat} {ops rds : Int} {Z : List Nat} {vs : Nat → Value} {gs : Nat → Nat} {zs : Nat → List (List UInt8)} {bs : List (Nat × List (Int × List UInt8))} (hD : DevK w base N A c ops rds Z vs gs zs) (hz : zs 0 = [] ∧ zs 3 = [] ∧ zs 7 = []) (h6 : zs 6 = logL 0 1 bs) (hB : BsOk bs) (hb0 : 0 < bs.length) (h96 : (zs 6).length < 96)
    (hf0 : 0 < (finL (allP bs)).length) (hf1 : (finL (allP bs)).length ≤ 258) (hlt : ∀ z ∈ Z, z < w.heap.size) (hNA : N < w.heap.size) (h0 : 0 ≤ ops) (h1 : ops ≤ 1000000) (hr0 : 0 ≤ rds) (hr1 : rds ≤ 1000000) (hlast : 0 < lastT bs ∧ lastT bs ≤ 1099511627776) (hin : ∀ x ∈ allP bs, 0 ≤ x.1 ∧ x.1 < 258) :
    Calls Tryz.prog 8 #[.pointer (some ⟨N, 0, none⟩)] w (MountK w base N A c ops rds Z vs gs zs bs) := by
  go_enter Tryz.func8, Tryz.ntmps8
  go_wp2_with fail
  refine (kgeometry w hD).mono ?_
  rintro e w1 ⟨rfl, hc1⟩
  go_wp2_with fail
  refine (split_min w1).mono ?_
  rintro e w2 ⟨rfl, hc2⟩
  have hc := hc1.then hc2
  have hsz := hc.size
  clear hc1 hc2
  go_wp2_with fail
  obtain ⟨-, g1⟩ := two_new w2 (.cells #[.int .i64 0, .int .i64 3, .int .i64 6, .int .i64 7] 66) (.cells #[.pointer (some ⟨N, 0, none⟩), .int .i64 0, .int .i64 3, .int .i64 6, .int .i64 7, .pointer none, .pointer none, .int .i64 0, .int .i64 0, .bool false] 72)
  have hc3 := hc.then (chg_two w2 (.cells #[.int .i64 0, .int .i64 3, .int .i64 6, .int .i64 7] 66) (.cells #[.pointer (some ⟨N, 0, none⟩), .int .i64 0, .int .i64 3, .int .i64 6, .int .i64 7, .pointer none, .pointer none, .int .i64 0, .int .i64 0, .bool false] 72))
  generalize (w2.alloc (.cells #[.int .i64 0, .int .i64 3, .int .i64 6, .int .i64 7] 66)).alloc (.cells #[.pointer (some ⟨N, 0, none⟩), .int .i64 0, .int .i64 3, .int .i64 6, .int .i64 7, .pointer none, .pointer none, .int .i64 0, .int .i64 0, .bool false] 72) = w3 at *
  have hPl : w.heap.size ≤ w2.heap.size + 1 := by omega
  generalize w2.heap.size + 1 = P at *
  generalize w2.heap.size = q at *
  have hPZ : P ∉ N :: Z := by
    intro hm
    rcases List.mem_cons.1 hm with hm | hm
    · omega
    · have := hlt _ hm; omega
  have hD3 := hD.keep hc3 (Av.nil _ _)
  have hlt3 : ∀ z ∈ Z, z < w3.heap.size := fun z hz => Nat.lt_of_lt_of_le (hlt z hz) hc3.size
  refine (kopen w3 hD3 hz.1 hz.2.1 hlt3 h0 h1).mono ?_
  rintro e w4 ⟨S, rfl, hc4, hD4, hS4, l4⟩
  have g4 := hc4.heap g1 hPZ
  have hPs : w.heap.size ≤ S := Nat.le_trans hc3.size l4
  have hc5 : Chg (N :: Z) w w4 := (hc3.mono (T := N :: Z) (fun x hx _ => by cases hx)).then hc4
  have hSP : S ≠ P := by have := heap_lt g1; omega
  have c6 := cell_is g4 6 rfl
  have f6 := unfrozen g4 6
  have g5 : StoreAt (w4.setCell ⟨P, 6, none⟩ (.pointer (some ⟨S, 0, none⟩))) P N S none := heap_set g4 6 _ rfl
  have hc6 : Chg (N :: Z) w (w4.setCell ⟨P, 6, none⟩ (.pointer (some ⟨S, 0, none⟩))) := hc5.new_set hPl 6 _
  have hS6 : SlotAt (w4.setCell ⟨P, 6, none⟩ (.pointer (some ⟨S, 0, none⟩))) S N := heap_set_ne hS4 hSP 6 _
  have hD6 := hD4.keep (Chg.set w4 P 6 (.pointer (some ⟨S, 0, none⟩))) (Av.row g4 (by decide))
  clear g4 hS4 hD4 hc5 hc4 hc3 g1 hD hD3 hlt3
  clear hc
  go_wp2_with fail
  generalize w4.setCell ⟨P, 6, none⟩ (.pointer (some ⟨S, 0, none⟩)) = w5 at *
  refine (load_any w5 hS6).mono ?_
  rintro e w6 ⟨rfl, k6⟩
  have g6 := g5.keep k6 (by simp)
  have S6 := hS6.keep k6 (by simp)
  have D6 := hD6.keep k6 (Av.nil _ _)
  have hc7 : Chg (N :: Z) w w6 := hc6.then (k6.mono (fun x hx _ => by cases hx))
  clear hc6 hS6 g5 hD6 k6
  go_wp2_with fail
  refine (parse_nil w6).mono ?_
  rintro e w7 ⟨R, r, rfl, k6, hR, l5, l6⟩
  have hs6 := hc7.size
  have g7 := g6.keep k6 (by simp)
  have S7 := S6.keep k6 (by simp)
  have D7 := D6.keep k6 (Av.nil _ _)
  have hc8 : Chg (N :: Z) w w7 := hc7.then (k6.mono (fun x hx _ => by cases hx))
  have hPw : P < w7.heap.size := heap_lt g7
  have hRw : R < w7.heap.size := heap_lt hR.1
  have hrw : r < w7.heap.size := hR.2.lt
  clear hc7 S6 g6 D6 k6
  go_wp2_with fail
  refine (klog w7 g7 D7 hz.2.2 h96 hr0 hr1).mono ?_
  rintro e w8 ⟨lv, rfl, k6, D8, hrw8⟩
  have av8 : ∀ {g : Nat} {cs : Array Value} {t : TypeId}, w7.heap[g]? = some (.cells cs t (0, 0)) → t ≠ 60 → g ∉ [N] := fun hg ht => by
    have := heap_ne hg D7.hdr (by intro e; cases e; exact ht rfl)
    simpa using this
  have hR8 : StateM w8 R r 0 := k6.heap hR.1 (av8 hR.1 (by decide))
  have hm8 : MapAt w8 r [] := hR.2.keep k6 (by simpa using map_cells hR.2 D7.hdr)
  have g8 : StoreM w8 P N S none 0 0 := k6.heap g7 (av8 g7 (by decide))
  have S8 : SlotAt w8 S N := S7.keep k6 (av8 S7 (by decide))
  have hc9 : Chg (N :: Z) w w8 := hc8.then (k6.mono (fun x hx _ => by simp at hx; simp [hx]))
  rw [h6] at hrw8
  have hl0 : 0 < (logL 0 1 bs).length := by have := logL_le 0 1 bs 0 hb0; omega
  obtain ⟨G, cG, rfl, hcG, hX8, hG8⟩ := hrw8.x hl0
  have hT8 : Tk w8 w8 P N S R r none 0 0 0 [] := ⟨Chg.refl _ _, g8, hR8, [], hm8, fun k v hv => (by cases hv), rfl⟩
  clear hc8 S7 g7 D7 k6 hR hrw8 av8
  have HX := Lib.hid hX8
  go_wp2_with fail
  refine (contf_rows w8 HX.out rfl hcG hB.len (logL_kind 0 1 bs)).mono ?_
  rintro e w9 ⟨rfl, rfl⟩
  go_wp2_with fail
  refine (contf_nil _ w8).mono ?_
  rintro e w9 ⟨rfl, rfl⟩
  go_wp2_with fail
  refine (replay_many w8 hB hT8 S8 HX.out rfl hcG (by simp; omega)).mono ?_
  rintro e w9 ⟨rfl, hT9⟩
  have av9 : ∀ {ts : List Nat}, 72 ∉ ts → 89 ∉ ts → Av w8 [P, R, r] ts := fun a b => hT8.av a b
  have S9 : SlotAt w9 S N := S8.keep hT9.chg ((av9 (ts := [113]) (by decide) (by decide)).ne S8 (by simp))
  have D9 := D8.keep hT9.chg (av9 (by decide) (by decide))
  have hc10 : Chg (N :: Z) w w9 := hc9.trans hT9.chg (fun x hx hlt => by
    simp at hx
    rcases hx with rfl | rfl | rfl <;> omega)
  have hBq : Bq w w9 base N A c (ops + 1) (rds + (zs 6).length) Z vs (goodF gs zs 8) zs P S R r (logL 0 1 bs).length bs.length (lastT bs) (allP bs) := ⟨hc10, D9, S9, ⟨none, hT9.store⟩, hT9.state, hT9.map⟩
  clear hc10 S9 D9 hT9 hT8 S8 D8 hc9 g8 hm8 hR8 HX hX8 av9
  go_wp2_with fail
  go_region_held3 (fun wx => Bq w wx base N A c (ops + 1) (rds + (zs 6).length) Z vs (goodF gs zs 8) zs P S R r (logL 0 1 bs).length bs.length (lastT bs) (allP bs) ∧ wx.cell? ⟨R, 0, none⟩ = some (.int .i64 (lastT bs)))
    (first
      | (exact ⟨hBq, hBq.r0⟩)
      | (exact ⟨hBq.drew, hBq.drew.r0⟩)
      | (exact ⟨(hBq.set hPl _).1, (hBq.set hPl _).1.r0⟩))
    (first
      | (go_at_call 24; (first | refine (kgeometry _ hBq.drew.dev).mono ?_ | refine (kgeometry _ hBq.dev).mono ?_); rintro e wb ⟨rfl, k1⟩; (first | replace hBq := hBq.keep k1 | replace hBq := hBq.drew.keep k1))
      | (go_at_call 33; refine (cap_min _).mono ?_; rintro e wb ⟨rfl, k2⟩; (first | replace hBq := hBq.keep k2 | replace hBq := hBq.drew.keep k2))
      | (go_at_call 32; refine (tnew_at _ (by omega) (by omega)).mono ?_; rintro e wb ⟨M, X, rx, B, rb, rc, rfl, k3, hM, hX, hBk, hrc, l10, l11, l12, l13, l14, l15, n1, n2, n3⟩; have hsz3 := hBq.chg.size; (first | replace hBq := hBq.keep k3 | replace hBq := hBq.drew.keep k3); obtain ⟨⟨m5, p5⟩, f5⟩ := hBq.p5))
  have hB2 := hBq.set hPl (some ⟨M, 0, none⟩)
  obtain ⟨q5, hst5⟩ := hBq.store
  have kS := Chg.set wb P 5 (.pointer (some ⟨M, 0, none⟩))
  have hMq : Mq w (wb.setCell ⟨P, 5, none⟩ (.pointer (some ⟨M, 0, none⟩))) base N A c (ops + 1) (rds + (zs 6).length) Z vs (goodF gs zs 8) zs P S R r (logL 0 1 bs).length bs.length (lastT bs) (allP bs) M X rx B rb rc w.heap.size :=
    ⟨hB2.1, hB2.2, kS.heap hM (by simpa using heap_ne hM hst5 (by simp)), (hX.full _).keepA kS (Av.row hst5 (by decide)) (by simpa using map_cells hX.2 hst5), ⟨kS.heap hBk.1 (by simpa using heap_ne hBk.1 hst5 (by simp)), hBk.2.keep kS (by simpa using map_cells hBk.2 hst5)⟩, hrc.keep kS (by simpa using map_cells hrc hst5)⟩
  have hb8 : w.heap.size ≤ P ∧ w.heap.size ≤ S ∧ w.heap.size ≤ M ∧ w.heap.size ≤ X ∧ w.heap.size ≤ rx ∧ w.heap.size ≤ B ∧ w.heap.size ≤ rb ∧ w.heap.size ≤ rc := ⟨hPl, hPs, by omega, by omega, by omega, by omega, by omega, by omega⟩
  clear hB2 kS hM hX hBk hrc hBq k1 k2 k3 f5 p5 hst5
  generalize wb.setCell ⟨P, 5, none⟩ (.pointer (some ⟨M, 0, none⟩)) = v1 at *
  go_wp2_with fail
  have hpd : ∀ wx : World, wx.cell? ⟨P, 5, none⟩ = some (.pointer (some ⟨M, 0, none⟩)) → wx.drew.cell? ⟨P, 5, none⟩ = some (.pointer (some ⟨M, 0, none⟩)) := fun wx h => h
  go_region_held3 (fun wx => wx.cell? ⟨P, 5, none⟩ = some (.pointer (some ⟨M, 0, none⟩)))
    (first
      | (exact hMq.p5)
      | (exact hMq.drew.p5)
      | (exact cell_is hMo.store 5 rfl)
      | (exact hpd _ (cell_is hMo.store 5 rfl)))
    (first
      | (go_at_call 35; (first | refine (hMq.drew.bq.puts hin hf1).mono ?_ | refine (hMq.bq.puts hin hf1).mono ?_); rintro e v2 ⟨pb, cb, rfl, k1, hpv⟩; (first | replace hMq := hMq.drew.keep k1 | replace hMq := hMq.keep k1))
      | (go_at_call 34; refine (hMq.load hin hf0 hf1 hpv hlast hb8 rfl ⟨n1, n2, n3⟩).mono ?_; rintro e v3 ⟨rfl, Lv, hMo⟩))
  have HMo := Lib.hid hMo
  clear hMo
  go_wp2_with fail
  go_ret2
  exact ⟨P, S, M, X, rx, B, rb, rc, _, Lv, rfl, by rw [h6] at *; exact HMo.out⟩
end Go.Proofs.YtnelakpdmjfolaaGreat
namespace Go.Proofs
open Go.Shelf
def Tryz.keysC_ren : Go.Shelf.Ren := ⟨fun | 7 => 134 | 10 => 153 | n => n, fun | 23 => 184 | 26 => 3 | 3 => 194 | 28 => 140 | 0 => 0 | 27 => 139 | 33 => 191 | 4 => 4 | n => n, fun | n => n⟩
theorem Tryz.keysC : Go.Proofs.SlLaysZI.n7 Tryz.prog Tryz.keysC_ren := {
  mixed := by kernel_rfl
  f7 := ⟨Tryz.f134.name, by decide, Tryz.func134.trans (congrArg some (by kernel_rfl))⟩
  f10 := ⟨Tryz.f153.name, by decide, Tryz.func153.trans (congrArg some (by kernel_rfl))⟩
  t0 := Tryz.underlying0
  a0 := Tryz.isAgg0
  z0 := Tryz.sizeOf0
  v0 := Tryz.zeroValue0
  t4 := Tryz.underlying4
  a4 := Tryz.isAgg4
  z4 := Tryz.sizeOf4
  v4 := Tryz.zeroValue4
  t23 := Tryz.underlying184
  a23 := Tryz.isAgg184
  z23 := Tryz.sizeOf184
  v23 := Tryz.zeroValue184
  t26 := Tryz.underlying3
  a26 := Tryz.isAgg3
  z26 := Tryz.sizeOf3
  v26 := Tryz.zeroValue3
  t27 := Tryz.underlying139
  a27 := Tryz.isAgg139
  z27 := Tryz.sizeOf139
  v27 := Tryz.zeroValue139
  t28 := Tryz.underlying140
  a28 := Tryz.isAgg140
  z28 := Tryz.sizeOf140
  v28 := Tryz.zeroValue140
  t33 := Tryz.underlying191
  a33 := Tryz.isAgg191
  z33 := Tryz.sizeOf191
  v33 := Tryz.zeroValue191 }
end Go.Proofs
namespace Go.Proofs.YtnelakpdmjfolaaGreat
open Go.RowKit Go.Lib Go.Maps Go.Sort Go.Shelf

theorem keysC_any (mb : Option Nat) (W : World) : Calls Tryz.prog 134 #[.map mb] W fun e w' => e = .returned (.func (.func 153) #[] #[.pointer (some ⟨W.heap.size, 0, none⟩)]) ∧ w' = W.alloc (.cells #[.map mb] 184) :=
  callsIn_wide.1 (AnyZI.keys_in Tryz.keysC Fence.wide 5 trivial rfl mb W)
set_option maxRecDepth 100000 in
/-- slices.Sorted(maps.Keys(m)), of a map of versions. -/
theorem sortedC_any (W : World) {r : Nat} {L : List (Int × Value)} (h : MapAt W r L) (hw : ∀ p ∈ L, (Lit.int .i64 p.1).wf = true) (hl : L.length ≤ 100000) :
    Calls Tryz.prog 75 #[.func (.func 153) #[] #[.pointer (some ⟨W.heap.size, 0, none⟩)]] (W.alloc (.cells #[.map (some r)] 184)) fun e w' => ∃ v, e = .returned v ∧ w'.ownsRow W.heap.size 3 1 v L.length ((sortI (L.map Prod.fst)).map encZ) ∧ Chg [] W w' := by
  obtain ⟨D, hown, hp, hsz⟩ := owns_any (h.keep (Chg.alloc (S := []) W (.cells #[.map (some r)] 184)) (by simp)) 3 (by kernel_rfl) hw (by unfold maxLen; omega)
  have hseq : SeqGives Fence.wide 2 Tryz.prog 153 #[.pointer (some ⟨W.heap.size, 0, none⟩)] encZ (fun ss => ss.Perm (intKeys D)) (Maps.size D) (W.alloc (.cells #[.map (some r)] 184)) :=
    AnyZI.keys_gives (ρ := Tryz.keysC_ren) { Tryz.keysC with } Fence.wide _ trivial rfl (by omega) W.heap.size r L.length D _ (by simp) (by simp) hown
  have cS := AnyZI.sorted_in Tryz.sortedA Fence.wide 5 trivial trivial trivial trivial rfl (by omega) (sorts_all _) (enters_of Tryz.func116 (by kernel_rfl) rfl) 153 #[.pointer (some ⟨W.heap.size, 0, none⟩)] trivial (enters_of Tryz.func153 (by kernel_rfl) rfl) _ (Maps.size D) (by rw [hsz]; unfold maxLen; omega) (by rw [hsz]; omega) _ hseq
  refine (callsIn_wide.1 cS).mono ?_
  rintro e w' ⟨v, ss, rfl, hS, hrow, hnil, hbl⟩
  have hs : ss.mergeSort (fun x y => decide (x ≤ y)) = sortI (L.map Prod.fst) := mergeSort_of_perm_i (hS.trans hp)
  have hsl : ss.length = L.length := by rw [(hS.trans hp).length_eq, List.length_map]
  rw [hs, hsl] at hrow
  exact ⟨v, rfl, own_base hrow (by simp), (Chg.alloc W _).then (Chg.of_below hbl)⟩
/-- a block's newest bytes. -/
def lastB (l : List (Int × List UInt8)) : List UInt8 := ((l.getLast?).map Prod.snd).getD []
theorem VRow.last {w : World} {lo n : Nat} {v : Value} {l : List (Int × List UInt8)} (h : VRow w lo v l) (hl : l.length = n + 1) : ∃ g cap gd cd, v = .slice (some ⟨g, 0, none⟩) ((n : Int) + 1).toNat cap ∧ n + 1 ≤ cap ∧
    w.cell? ⟨g, n * 2 + 1, none⟩ = some (.slice (some ⟨gd, 0, none⟩) 40 cd) ∧ Bs w (some ⟨gd, 0, none⟩) (lastB l) ∧ (lastB l).length = 40 ∧ Bt w gd := by
  obtain ⟨xs, ho, hx⟩ := h
  obtain ⟨-, gd, cd, h1, h2, h3, h4⟩ := hx n (by omega)
  have e : lastB l = (l[n]).2 := by
    have hn : l.length - 1 = n := by omega
    unfold lastB
    rw [List.getLast?_eq_getElem?, hn, List.getElem?_eq_getElem (by omega)]
    rfl
  rw [e]
  rcases ho.2 with ⟨_, e0⟩ | ⟨g, cap, cur, rfl, hA, hg, hc1, hc2, hc3, ht⟩
  · omega
  · refine ⟨g, cap, gd, cd, ?_, by omega, cell_is hg _ ?_, h2, h3, h4⟩
    · rw [hl]; rfl
    · rw [← ht, List.getElem?_take_of_lt (by omega), Array.getElem?_toList] at h1
      exact h1
/-- what all blocks are. -/
def dumpL (L : List (Int × Value)) (vs : Int → List (Int × List UInt8)) : List (Int × List UInt8) := (sortI (L.map Prod.fst)).map fun k => (k, lastB (vs k))
set_option maxRecDepth 100000 in
set_option maxHeartbeats 4000000 in
theorem mdump_ok (w : World) {lo X rx : Nat} {last : Int} {L : List (Int × Value)} {vs : Int → List (Int × List UInt8)} (h : VerG w lo X rx last L vs) (hk : ∀ x ∈ L, 0 ≤ x.1 ∧ x.1 < 258) (hl : L.length ≤ 1000) : Calls Tryz.prog 101 #[.pointer (some ⟨X, 0, none⟩)] w fun e w' =>
    ∃ v, e = .returned v ∧ Chg [] w w' ∧ PutsAt w' w.heap.size v (dumpL L vs) := by
  have c0 : w.cell? ⟨X, 0, none⟩ = some (.int .i64 258) := cell_is h.x 0 rfl
  have c1 : w.cell? ⟨X, 1, none⟩ = some (.map (some rx)) := cell_is h.x 1 rfl
  have HG := Lib.hid (xgone_any w c0)
  have HS := Lib.hid (sortedC_any w h.m (fun p hp => wf_i64 (by have := hk p hp; omega) (by have := hk p hp; omega)) (by omega))
  have HB := Lib.hid h
  have HK := Lib.hid hk
  clear h hk
  go_enter Tryz.func101, Tryz.ntmps101
  go_wp2_with fail
  refine HG.out.mono ?_
  rintro e w1 ⟨rfl, rfl⟩
  go_wp2_with (first
    | (go_at_call 134; refine (keysC_any (some rx) _).mono ?_; rintro e w1 ⟨rfl, rfl⟩)
    | (go_at_call 75; refine HS.out.mono ?_; rintro e w2 ⟨v2, rfl, o2, k2⟩; obtain ⟨pk, ck, rfl, hck⟩ := own_form o2))
  have hsl : (sortI (L.map Prod.fst)).length = L.length := by rw [sortI_length, List.length_map]
  have hmem : ∀ k, k ∈ sortI (L.map Prod.fst) → 0 ≤ k ∧ k < 258 ∧ ∃ v, getL L k = some v := fun k hk => by
    have hk2 := (sortI_perm _).mem_iff.1 hk
    obtain ⟨p, hp, e⟩ := List.mem_map.1 hk2
    have := HK.out p hp
    exact ⟨by omega, by omega, getL_key hk2⟩
  have hpl : dumpL L vs = (sortI (L.map Prod.fst)).map fun k => (k, lastB (vs k)) := rfl
  have HP := Lib.hid hpl
  have HM := Lib.hid hmem
  have O2 := Lib.hid o2
  clear hmem hpl o2 HG HS
  generalize hks : sortI (L.map Prod.fst) = ks at *
  have c21 := k2.cell c1 (by simp)
  generalize hn : L.length = n at *
  have hcki : (n : Int) ≤ ck := by omega
  go_loopw [2, 4, 5, 15] (fun v _ _ i wr => ∃ j : Nat, j ≤ n ∧ i = .int .i64 j ∧ Chg [] w2 wr ∧ PutsAt wr w2.heap.size v ((ks.take j).map fun k => (k, lastB (vs k)))) (fun _ _ _ i _ => n - (intOf i).toNat)
  case atStart => exact ⟨0, by omega, rfl, Chg.refl _ _, PutsAt.nil _ _⟩
  case round =>
    obtain ⟨j, hj, rfl, kr, hp⟩ := hrel
    by_cases hlt : j < n
    · have hjk : j < ks.length := by omega
      obtain ⟨hk0, hk1, v, hv⟩ := HM.out ks[j] (List.getElem_mem hjk)
      have kwr : Chg [] w wr := k2.then kr
      have hVr := HB.out.keep kwr
      obtain ⟨m, g, cg, gd, cd, hvv, hcg, hd, hb, hb4, hbt⟩ : ∃ m g cg gd cd, v = .slice (some ⟨g, 0, none⟩) (m + 1) cg ∧ m + 1 ≤ cg ∧ wr.cell? ⟨g, m * 2 + 1, none⟩ = some (.slice (some ⟨gd, 0, none⟩) 40 cd) ∧ Bs wr (some ⟨gd, 0, none⟩) (lastB (vs ks[j])) ∧ (lastB (vs ks[j])).length = 40 ∧ Bt wr gd := by
        rcases hVr.row ks[j] hk0 hk1 with ⟨e1, -⟩ | ⟨v', e1, e2, e3⟩
        · rw [hv] at e1; cases e1
        · rw [hv] at e1
          cases e1
          obtain ⟨m, hm⟩ : ∃ m, (vs ks[j]).length = m + 1 := ⟨(vs ks[j]).length - 1, by have := List.length_pos_iff.2 e3; omega⟩
          obtain ⟨g, cg, gd, cd, a1, a2, a3, a4, a5, a6⟩ := e2.last hm
          exact ⟨m, g, cg, gd, cd, by rw [a1]; congr 1, a2, a3, a4, a5, a6⟩
      subst hvv
      have hlook : (Instr.lookup 184 (.map (some rx)) (.int .i64 ks[j]) false).run Tryz.prog wr = .ok (.slice (some ⟨g, 0, none⟩) (m + 1) cg) wr := by
        have := lookup258g hVr.m ks[j]
        rw [hv] at this
        exact this
      have hm1 : m + 1 ≤ 1000000 := by
        have h1 := hVr.small ks[j]
        rcases hVr.row ks[j] hk0 hk1 with ⟨e1, -⟩ | ⟨v', e1, ⟨xs, e2, -⟩, e3⟩
        · rw [hv] at e1; cases e1
        · rw [hv] at e1
          cases e1
          rcases e2.2 with ⟨e, -⟩ | ⟨g', cap, cur, e, -⟩
          · cases e
          · injection e with _ e
            omega
      have ck0 : ∃ gk, pk = some ⟨gk, 0, none⟩ ∧ wr.cell? ⟨gk, j, none⟩ = some (.int .i64 ks[j]) := by
        rcases O2.out.2 with ⟨_, h0⟩ | ⟨gk, cap, cur, e, hA, hg, hc1, hc2, hc3, ht⟩
        · omega
        · injection e with e1
          refine ⟨gk, e1, kr.cell (cell_is hg j ?_) (by simp)⟩
          have h1 : (ks.map encZ)[j]? = some (.int .i64 ks[j]) := by simp [hjk]
          rw [← ht, List.getElem?_take_of_lt (by omega), Array.getElem?_toList] at h1
          exact h1
      obtain ⟨gk, rfl, ck1⟩ := ck0
      have cw2 := kr.cell c21 (by simp)
      have HBs := Lib.hid hb
      have HPt := Lib.hid hp
      have HTk := Lib.hid (show (ks.take (j + 1)).map (fun k => (k, lastB (vs k))) = (ks.take j).map (fun k => (k, lastB (vs k))) ++ [(ks[j], lastB (vs ks[j]))] by rw [List.take_succ_eq_append_getElem hjk, List.map_append]; rfl)
      have HL4 := Lib.hid hb4
      have HBt := Lib.hid hbt
      have hsub : wrap64 ((m : Int) + 1 - 1) = (m : Nat) := by unfold wrap64; omega
      have hcgi : (m : Int) < cg := by omega
      clear hb hp hb4 hbt hv hVr kwr
      generalize ks[j] = k at *
      go_wp2_with fail
      refine (clone_bt wr HL4.out (by decide) (by decide) HBs.out).mono ?_
      rintro e w3 ⟨g2, c2, rfl, k3, b3, l3, t3⟩
      obtain ⟨xs, ho3, hx3⟩ := HPt.out.keep0 k3
      have hpl3 : ((ks.take j).map fun k => (k, lastB (vs k))).length = j := by simp; omega
      have hb23 := (HPt.out.keep0 k3).block
      have hs3 : w2.heap.size ≤ w3.heap.size := (kr.then k3).size
      have B3 := Lib.hid b3
      have T3 := Lib.hid t3
      have HX3 := Lib.hid hx3
      have HO3 := Lib.hid ho3
      have H23 := Lib.hid hb23
      clear b3 t3 hx3 hb23 ho3
      go_wp2_with (at_builtin; refine wpList_append_lit rfl (.tmp 25) (.tmp 36) 37 41 rfl ty69 inf92 rfl (by decide) w2.heap.size w3 [.int .i64 k, .slice (some ⟨g2, 0, none⟩) 40 c2] 1 rfl _ ((ks.take j).map fun k => (k, lastB (vs k))).length xs rfl HO3.out (by omega) (by decide) hs3 (k := 0) rfl (by simp [Value.oneCell']) rfl 1 rfl ?_; intro v' w4 hap)
      have hxl : xs.length = ((ks.take j).map fun k => (k, lastB (vs k))).length * 2 := HO3.out.1
      have hfin : PutsAt w4 w2.heap.size v' (((ks.take j).map fun k => (k, lastB (vs k))) ++ [(k, lastB (vs k))]) := PutsAt.push HX3.out hxl rfl (fun g hg => (H23.out g hg).2) hap.1 (Chg.own hap.2.2 (fun g hg _ => by have hg2 : u2.ownBlock = some g := hg; simp [hg2])) B3.out HL4.out T3.out
      rw [← HTk.out] at hfin
      go_roundw
      case rel => exact ⟨j + 1, by omega, by simp, Chg.of_below ((kr.then k3).below0.trans hap.2.1), hfin⟩
      case measure => simp [intOf]; omega
    · obtain rfl : j = n := by omega
      go_wp2_with fail
      go_ret
      refine ⟨_, rfl, k2.then kr, ?_⟩
      rw [HP.out]
      rw [List.take_of_length_le (by omega)] at hp
      obtain ⟨xs, ho, hx⟩ := hp
      exact ⟨xs, own_base ho k2.size, hx⟩
set_option maxRecDepth 100000 in
theorem mgrdump_ok (w : World) {lo M X B r rx : Nat} {qv : Value} {out num bas last given lastv : Int} {rd : Bool} {L : List (Int × Value)} {vs : Int → List (Int × List UInt8)} (hM : MgrG w M X B r qv out num bas last given rd) (h : VerG w lo X rx lastv L vs) (hk : ∀ x ∈ L, 0 ≤ x.1 ∧ x.1 < 258) (hl : L.length ≤ 1000) : Calls Tryz.prog 57 #[.pointer (some ⟨M, 0, none⟩)] w fun e w' =>
    ∃ v, e = .returned v ∧ Chg [] w w' ∧ PutsAt w' w.heap.size v (dumpL L vs) := by
  have HG := Lib.hid (tgone_mg w hM)
  have HD := Lib.hid (mdump_ok w h hk hl)
  have c0 : w.cell? ⟨M, 0, none⟩ = some (.pointer (some ⟨X, 0, none⟩)) := cell_is hM 0 rfl
  clear h hM
  go_enter Tryz.func57, Tryz.ntmps57
  go_wp2_with fail
  refine HG.out.mono ?_
  rintro e w1 ⟨rfl, rfl⟩
  go_wp2_with fail
  refine HD.out.mono ?_
  rintro e w1 ⟨v, rfl, hh⟩
  have HH := Lib.hid hh
  clear hh
  go_wp2_with fail
  go_ret
  exact ⟨v, rfl, HH.out⟩
set_option maxRecDepth 100000 in
theorem smanager_ok (w : World) {P N S M pos num : Nat} (h : StoreG w P N S M pos num) : Calls Tryz.prog 50 #[.pointer (some ⟨P, 0, none⟩)] w fun e w' => e = .returned (.pointer (some ⟨M, 0, none⟩)) ∧ w = w' := by
  have c5 : w.cell? ⟨P, 5, none⟩ = some (.pointer (some ⟨M, 0, none⟩)) := cell_is h 5 rfl
  clear h
  go_enter Tryz.func50, Tryz.ntmps50
  go_wp2_with fail
  go_ret
  exact ⟨rfl, rfl⟩
set_option maxRecDepth 100000 in
theorem sdump_ok (w : World) {lo P N S M X B r rx pos num : Nat} {qv : Value} {out nm bas last given lastv : Int} {rd : Bool} {L : List (Int × Value)} {vs : Int → List (Int × List UInt8)} (hS : StoreG w P N S M pos num) (hM : MgrG w M X B r qv out nm bas last given rd) (h : VerG w lo X rx lastv L vs) (hk : ∀ x ∈ L, 0 ≤ x.1 ∧ x.1 < 258) (hl : L.length ≤ 1000) : Calls Tryz.prog 20 #[.pointer (some ⟨P, 0, none⟩)] w fun e w' =>
    ∃ v, e = .returned v ∧ Chg [] w w' ∧ PutsAt w' w.heap.size v (dumpL L vs) := by
  have HG := Lib.hid (smanager_ok w hS)
  have HD := Lib.hid (mgrdump_ok w hM h hk hl)
  clear h hM hS
  go_enter Tryz.func20, Tryz.ntmps20
  go_wp2_with fail
  refine HG.out.mono ?_
  rintro e w1 ⟨rfl, rfl⟩
  go_wp2_with fail
  refine HD.out.mono ?_
  rintro e w1 ⟨v, rfl, hh⟩
  have HH := Lib.hid hh
  clear hh
  go_wp2_with fail
  go_ret
  exact ⟨v, rfl, HH.out⟩
set_option maxRecDepth 100000 in
theorem slast_ok (w : World) {P N S M X B r pos num : Nat} {qv : Value} {out nm bas last given : Int} {rd : Bool} (hS : StoreG w P N S M pos num) (hM : MgrG w M X B r qv out nm bas last given rd) : Calls Tryz.prog 18 #[.pointer (some ⟨P, 0, none⟩)] w fun e w' => e = .returned (.int .i64 last) ∧ w = w' := by
  have HG := Lib.hid (smanager_ok w hS)
  have HD : Hid (Calls Tryz.prog 51 #[.pointer (some ⟨M, 0, none⟩)] w fun e w' => e = .returned (.int .i64 last) ∧ w = w') := Lib.hid (by
    have HT := Lib.hid (tgone_mg w hM)
    have c7 : w.cell? ⟨M, 7, none⟩ = some (.int .i64 last) := cell_is hM 7 rfl
    clear hM hS HG
    go_enter Tryz.func51, Tryz.ntmps51
    go_wp2_with fail
    refine HT.out.mono ?_
    rintro e w1 ⟨rfl, rfl⟩
    go_wp2_with fail
    go_ret
    exact ⟨rfl, rfl⟩)
  clear hM hS
  go_enter Tryz.func18, Tryz.ntmps18
  go_wp2_with fail
  refine HG.out.mono ?_
  rintro e w1 ⟨rfl, rfl⟩
  go_wp2_with fail
  refine HD.out.mono ?_
  rintro e w1 ⟨rfl, rfl⟩
  go_wp2_with fail
  go_ret
  exact ⟨rfl, rfl⟩
end Go.Proofs.YtnelakpdmjfolaaGreat
namespace Go.Proofs.YtnelakpdmjfolaaGreat
open Go.RowKit Go.Lib

/-- puts (a block's number, its bytes) in an own row. -/
def PutsF (w : World) (fr base : Nat) (v : Value) (l : List (Int × List UInt8)) : Prop :=
  ∃ xs, w.ownsRow base 41 2 v l.length xs ∧ ∀ i (h : i < l.length), xs[i * 2]? = some (.int .i64 l[i].1) ∧ ∃ g c, xs[i * 2 + 1]? = some (.slice (some ⟨g, 0, none⟩) 40 c) ∧ fr ≤ g ∧ Bs w (some ⟨g, 0, none⟩) l[i].2 ∧ l[i].2.length = 40 ∧ Bt w g
theorem PutsF.nil (w : World) (fr base : Nat) : PutsF w fr base (.slice none 0 0) [] := ⟨[], World.ownsRow_nil _ _ _ _, fun i h => by simp at h⟩
theorem PutsF.block {w : World} {fr lo : Nat} {v : Value} {l : List (Int × List UInt8)} (h : PutsF w fr lo v l) : ∀ g, v.ownBlock = some g → lo ≤ g ∧ ∃ cs, w.heap[g]? = some (.cells cs 41 (0, 0)) := by
  intro g hg
  obtain ⟨xs, ho, -⟩ := h
  exact own_elem ho hg
theorem PutsF.keep {w w' : World} {T : List Nat} {fr lo : Nat} {v : Value} {l : List (Int × List UInt8)} (h : PutsF w fr lo v l) (hc : Chg T w w') (hT : Av w T [5]) (hv : ∀ g, v.ownBlock = some g → g ∉ T) : PutsF w' fr lo v l := by
  obtain ⟨xs, ho, hx⟩ := h
  refine ⟨xs, ?_, fun i hi => ?_⟩
  · refine ⟨ho.1, ?_⟩
    rcases ho.2 with hn | ⟨g, cap, cur, rfl, hb, hg, rest⟩
    · exact Or.inl hn
    · exact Or.inr ⟨g, cap, cur, rfl, hb, hc.heap hg (hv g rfl), rest⟩
  · obtain ⟨h0, g, c, h1, hf, h2, h3, cs, h4⟩ := hx i hi
    have hg : g ∉ T := hT.ne h4 (by simp)
    exact ⟨h0, g, c, h1, hf, h2.chgT hc hg, h3, cs, hc.heap h4 hg⟩
theorem PutsF.keep0 {w w' : World} {fr lo : Nat} {v : Value} {l : List (Int × List UInt8)} (h : PutsF w fr lo v l) (hc : Chg [] w w') : PutsF w' fr lo v l := h.keep hc (Av.nil _ _) (fun _ _ => by simp)
/-- .. when a put is put behind them. -/
theorem PutsF.push {w w' : World} {fr base gb cb n : Nat} {v v' : Value} {l : List (Int × List UInt8)} {k : Int} {b : List UInt8} {xs : List Value} (hx : ∀ i (h : i < l.length), xs[i * 2]? = some (.int .i64 l[i].1) ∧ ∃ g c, xs[i * 2 + 1]? = some (.slice (some ⟨g, 0, none⟩) 40 c) ∧ fr ≤ g ∧ Bs w (some ⟨g, 0, none⟩) l[i].2 ∧ l[i].2.length = 40 ∧ Bt w g)
    (hl : xs.length = l.length * 2) (hn : n = l.length) (hv : ∀ g, v.ownBlock = some g → ∃ cs, w.heap[g]? = some (.cells cs 41 (0, 0))) (ho : w'.ownsRow base 41 2 v' (n + 1) (xs ++ [.int .i64 k, .slice (some ⟨gb, 0, none⟩) 40 cb])) (hc : Chg v.ownBlock.toList w w')
    (hb : Bs w (some ⟨gb, 0, none⟩) b) (hfr : fr ≤ gb) (hb4 : b.length = 40) (hbt : Bt w gb) : PutsF w' fr base v' (l ++ [(k, b)]) := by
  subst hn
  have hne : ∀ {g}, Bt w g → g ∉ v.ownBlock.toList := by
    rintro g ⟨cs2, h2⟩ hm
    obtain ⟨cs, h1⟩ := hv g (by simpa using hm)
    rw [h1] at h2
    cases h2
  have keepB : ∀ {g}, Bt w g → Bt w' g := fun {g} h => by
    obtain ⟨cs, h2⟩ := id h
    exact ⟨cs, hc.heap h2 (hne h)⟩
  refine ⟨_, by rw [List.length_append]; exact ho, fun i hi => ?_⟩
  by_cases h : i < l.length
  · obtain ⟨h0, g, c, h1, hf, h2, h3, h4⟩ := hx i h
    rw [List.getElem_append_left h]
    exact ⟨by rw [List.getElem?_append_left (by omega)]; exact h0, g, c, by rw [List.getElem?_append_left (by omega)]; exact h1, hf, h2.chgT hc (hne h4), h3, keepB h4⟩
  · have hi2 : i = l.length := by simp at hi; omega
    subst hi2
    have e : (l ++ [(k, b)])[l.length]'(by simp) = (k, b) := by simp
    rw [e]
    exact ⟨by rw [← hl]; simp, gb, cb, by rw [← hl, List.getElem?_append_right (by omega)]; simp, hfr, hb.chgT hc (hne hbt), hb4, keepB hbt⟩
/-- one put, at its place. -/
theorem PutsF.get {w : World} {fr lo : Nat} {v : Value} {l : List (Int × List UInt8)} (h : PutsF w fr lo v l) (k : Nat) (hk : k < l.length) : ∃ g cap gd cd, v = .slice (some ⟨g, 0, none⟩) l.length cap ∧ l.length ≤ cap ∧
    w.cell? ⟨g, k * 2, none⟩ = some (.int .i64 l[k].1) ∧ w.cell? ⟨g, k * 2 + 1, none⟩ = some (.slice (some ⟨gd, 0, none⟩) 40 cd) ∧ fr ≤ gd ∧ Bs w (some ⟨gd, 0, none⟩) l[k].2 ∧ l[k].2.length = 40 ∧ Bt w gd := by
  obtain ⟨xs, ho, hx⟩ := h
  obtain ⟨h0, gd, cd, h1, hf, h2, h3, h4⟩ := hx k hk
  rcases ho.2 with ⟨_, e⟩ | ⟨g, cap, cur, rfl, hA, hg, hc1, hc2, hc3, ht⟩
  · omega
  · refine ⟨g, cap, gd, cd, rfl, hc1, cell_is hg _ ?_, cell_is hg _ ?_, hf, h2, h3, h4⟩
    · rw [← ht, List.getElem?_take_of_lt (by omega), Array.getElem?_toList] at h0
      exact h0
    · rw [← ht, List.getElem?_take_of_lt (by omega), Array.getElem?_toList] at h1
      exact h1
set_option maxRecDepth 100000 in
set_option maxHeartbeats 4000000 in
theorem mdumpF (w : World) {lo X rx : Nat} {last : Int} {L : List (Int × Value)} {vs : Int → List (Int × List UInt8)} (h : VerG w lo X rx last L vs) (hk : ∀ x ∈ L, 0 ≤ x.1 ∧ x.1 < 258) (hl : L.length ≤ 1000) : Calls Tryz.prog 101 #[.pointer (some ⟨X, 0, none⟩)] w fun e w' =>
    ∃ v, e = .returned v ∧ Chg [] w w' ∧ PutsF w' w.heap.size w.heap.size v (dumpL L vs) := by
  have c0 : w.cell? ⟨X, 0, none⟩ = some (.int .i64 258) := cell_is h.x 0 rfl
  have c1 : w.cell? ⟨X, 1, none⟩ = some (.map (some rx)) := cell_is h.x 1 rfl
  have HG := Lib.hid (xgone_any w c0)
  have HS := Lib.hid (sortedC_any w h.m (fun p hp => wf_i64 (by have := hk p hp; omega) (by have := hk p hp; omega)) (by omega))
  have HB := Lib.hid h
  have HK := Lib.hid hk
  clear h hk
  go_enter Tryz.func101, Tryz.ntmps101
  go_wp2_with fail
  refine HG.out.mono ?_
  rintro e w1 ⟨rfl, rfl⟩
  go_wp2_with (first
    | (go_at_call 134; refine (keysC_any (some rx) _).mono ?_; rintro e w1 ⟨rfl, rfl⟩)
    | (go_at_call 75; refine HS.out.mono ?_; rintro e w2 ⟨v2, rfl, o2, k2⟩; obtain ⟨pk, ck, rfl, hck⟩ := own_form o2))
  have hsl : (sortI (L.map Prod.fst)).length = L.length := by rw [sortI_length, List.length_map]
  have hmem : ∀ k, k ∈ sortI (L.map Prod.fst) → 0 ≤ k ∧ k < 258 ∧ ∃ v, getL L k = some v := fun k hk => by
    have hk2 := (sortI_perm _).mem_iff.1 hk
    obtain ⟨p, hp, e⟩ := List.mem_map.1 hk2
    have := HK.out p hp
    exact ⟨by omega, by omega, getL_key hk2⟩
  have hpl : dumpL L vs = (sortI (L.map Prod.fst)).map fun k => (k, lastB (vs k)) := rfl
  have HP := Lib.hid hpl
  have HM := Lib.hid hmem
  have O2 := Lib.hid o2
  clear hmem hpl o2 HG HS
  generalize hks : sortI (L.map Prod.fst) = ks at *
  have c21 := k2.cell c1 (by simp)
  generalize hn : L.length = n at *
  have hcki : (n : Int) ≤ ck := by omega
  go_loopw [2, 4, 5, 15] (fun v _ _ i wr => ∃ j : Nat, j ≤ n ∧ i = .int .i64 j ∧ Chg [] w2 wr ∧ PutsF wr w.heap.size w2.heap.size v ((ks.take j).map fun k => (k, lastB (vs k)))) (fun _ _ _ i _ => n - (intOf i).toNat)
  case atStart => exact ⟨0, by omega, rfl, Chg.refl _ _, PutsF.nil _ _ _⟩
  case round =>
    obtain ⟨j, hj, rfl, kr, hp⟩ := hrel
    by_cases hlt : j < n
    · have hjk : j < ks.length := by omega
      obtain ⟨hk0, hk1, v, hv⟩ := HM.out ks[j] (List.getElem_mem hjk)
      have kwr : Chg [] w wr := k2.then kr
      have hVr := HB.out.keep kwr
      obtain ⟨m, g, cg, gd, cd, hvv, hcg, hd, hb, hb4, hbt⟩ : ∃ m g cg gd cd, v = .slice (some ⟨g, 0, none⟩) (m + 1) cg ∧ m + 1 ≤ cg ∧ wr.cell? ⟨g, m * 2 + 1, none⟩ = some (.slice (some ⟨gd, 0, none⟩) 40 cd) ∧ Bs wr (some ⟨gd, 0, none⟩) (lastB (vs ks[j])) ∧ (lastB (vs ks[j])).length = 40 ∧ Bt wr gd := by
        rcases hVr.row ks[j] hk0 hk1 with ⟨e1, -⟩ | ⟨v', e1, e2, e3⟩
        · rw [hv] at e1; cases e1
        · rw [hv] at e1
          cases e1
          obtain ⟨m, hm⟩ : ∃ m, (vs ks[j]).length = m + 1 := ⟨(vs ks[j]).length - 1, by have := List.length_pos_iff.2 e3; omega⟩
          obtain ⟨g, cg, gd, cd, a1, a2, a3, a4, a5, a6⟩ := e2.last hm
          exact ⟨m, g, cg, gd, cd, by rw [a1]; congr 1, a2, a3, a4, a5, a6⟩
      subst hvv
      have hlook : (Instr.lookup 184 (.map (some rx)) (.int .i64 ks[j]) false).run Tryz.prog wr = .ok (.slice (some ⟨g, 0, none⟩) (m + 1) cg) wr := by
        have := lookup258g hVr.m ks[j]
        rw [hv] at this
        exact this
      have hm1 : m + 1 ≤ 1000000 := by
        have h1 := hVr.small ks[j]
        rcases hVr.row ks[j] hk0 hk1 with ⟨e1, -⟩ | ⟨v', e1, ⟨xs, e2, -⟩, e3⟩
        · rw [hv] at e1; cases e1
        · rw [hv] at e1
          cases e1
          rcases e2.2 with ⟨e, -⟩ | ⟨g', cap, cur, e, -⟩
          · cases e
          · injection e with _ e
            omega
      have ck0 : ∃ gk, pk = some ⟨gk, 0, none⟩ ∧ wr.cell? ⟨gk, j, none⟩ = some (.int .i64 ks[j]) := by
        rcases O2.out.2 with ⟨_, h0⟩ | ⟨gk, cap, cur, e, hA, hg, hc1, hc2, hc3, ht⟩
        · omega
        · injection e with e1
          refine ⟨gk, e1, kr.cell (cell_is hg j ?_) (by simp)⟩
          have h1 : (ks.map encZ)[j]? = some (.int .i64 ks[j]) := by simp [hjk]
          rw [← ht, List.getElem?_take_of_lt (by omega), Array.getElem?_toList] at h1
          exact h1
      obtain ⟨gk, rfl, ck1⟩ := ck0
      have cw2 := kr.cell c21 (by simp)
      have HBs := Lib.hid hb
      have HPt := Lib.hid hp
      have HTk := Lib.hid (show (ks.take (j + 1)).map (fun k => (k, lastB (vs k))) = (ks.take j).map (fun k => (k, lastB (vs k))) ++ [(ks[j], lastB (vs ks[j]))] by rw [List.take_succ_eq_append_getElem hjk, List.map_append]; rfl)
      have HL4 := Lib.hid hb4
      have HBt := Lib.hid hbt
      have hsub : wrap64 ((m : Int) + 1 - 1) = (m : Nat) := by unfold wrap64; omega
      have hcgi : (m : Int) < cg := by omega
      clear hb hp hb4 hbt hv hVr kwr
      generalize ks[j] = k at *
      go_wp2_with fail
      refine (clone_bt wr HL4.out (by decide) (by decide) HBs.out).mono ?_
      rintro e w3 ⟨g2, c2, rfl, k3, b3, l3, t3⟩
      obtain ⟨xs, ho3, hx3⟩ := HPt.out.keep0 k3
      have hpl3 : ((ks.take j).map fun k => (k, lastB (vs k))).length = j := by simp; omega
      have hb23 := (HPt.out.keep0 k3).block
      have hs3 : w2.heap.size ≤ w3.heap.size := (kr.then k3).size
      have HFr := Lib.hid (show w.heap.size ≤ g2 from Nat.le_trans (k2.then kr).size l3)
      have B3 := Lib.hid b3
      have T3 := Lib.hid t3
      have HX3 := Lib.hid hx3
      have HO3 := Lib.hid ho3
      have H23 := Lib.hid hb23
      clear b3 t3 hx3 hb23 ho3
      go_wp2_with (at_builtin; refine wpList_append_lit rfl (.tmp 25) (.tmp 36) 37 41 rfl ty69 inf92 rfl (by decide) w2.heap.size w3 [.int .i64 k, .slice (some ⟨g2, 0, none⟩) 40 c2] 1 rfl _ ((ks.take j).map fun k => (k, lastB (vs k))).length xs rfl HO3.out (by omega) (by decide) hs3 (k := 0) rfl (by simp [Value.oneCell']) rfl 1 rfl ?_; intro v' w4 hap)
      have hxl : xs.length = ((ks.take j).map fun k => (k, lastB (vs k))).length * 2 := HO3.out.1
      have hfin : PutsF w4 w.heap.size w2.heap.size v' (((ks.take j).map fun k => (k, lastB (vs k))) ++ [(k, lastB (vs k))]) := PutsF.push HX3.out hxl rfl (fun g hg => (H23.out g hg).2) hap.1 (Chg.own hap.2.2 (fun g hg _ => by have hg2 : u2.ownBlock = some g := hg; simp [hg2])) B3.out HFr.out HL4.out T3.out
      rw [← HTk.out] at hfin
      go_roundw
      case rel => exact ⟨j + 1, by omega, by simp, Chg.of_below ((kr.then k3).below0.trans hap.2.1), hfin⟩
      case measure => simp [intOf]; omega
    · obtain rfl : j = n := by omega
      go_wp2_with fail
      go_ret
      refine ⟨_, rfl, k2.then kr, ?_⟩
      rw [HP.out]
      rw [List.take_of_length_le (by omega)] at hp
      obtain ⟨xs, ho, hx⟩ := hp
      exact ⟨xs, own_base ho k2.size, hx⟩
set_option maxRecDepth 100000 in
theorem mgrdumpF (w : World) {lo M X B r rx : Nat} {qv : Value} {out num bas last given lastv : Int} {rd : Bool} {L : List (Int × Value)} {vs : Int → List (Int × List UInt8)} (hM : MgrG w M X B r qv out num bas last given rd) (h : VerG w lo X rx lastv L vs) (hk : ∀ x ∈ L, 0 ≤ x.1 ∧ x.1 < 258) (hl : L.length ≤ 1000) : Calls Tryz.prog 57 #[.pointer (some ⟨M, 0, none⟩)] w fun e w' =>
    ∃ v, e = .returned v ∧ Chg [] w w' ∧ PutsF w' w.heap.size w.heap.size v (dumpL L vs) := by
  have HG := Lib.hid (tgone_mg w hM)
  have HD := Lib.hid (mdumpF w h hk hl)
  have c0 : w.cell? ⟨M, 0, none⟩ = some (.pointer (some ⟨X, 0, none⟩)) := cell_is hM 0 rfl
  clear h hM
  go_enter Tryz.func57, Tryz.ntmps57
  go_wp2_with fail
  refine HG.out.mono ?_
  rintro e w1 ⟨rfl, rfl⟩
  go_wp2_with fail
  refine HD.out.mono ?_
  rintro e w1 ⟨v, rfl, hh⟩
  have HH := Lib.hid hh
  clear hh
  go_wp2_with fail
  go_ret
  exact ⟨v, rfl, HH.out⟩
end Go.Proofs.YtnelakpdmjfolaaGreat
namespace Go.Proofs.YtnelakpdmjfolaaGreat
open Go.RowKit Go.Lib

theorem step_append_by {ops : Array Oper} {o : Oper} {a : Act} {w : World} {K : Act → World → Prop} {Q : Exit → Act → World → Prop} {E : Prop} (hgd : o.guard = none) (s x : Operand)
    (ho : o.op = .call { callee := .builtin .append, args := #[s, x], argTypes := #[38, 38] }) (base b bo m c n : Nat) (v : Value) (l r : List UInt8) (hs : a.eval s = v) (hown : w.ownsRow base 5 1 v n (Lib.byteCells l)) (hbase : base ≤ w.heap.size) (hn : n ≤ 1000000)
    (hx : a.eval x = .slice (some ⟨b, bo, none⟩) m c) (hb : Bs w (some ⟨b, bo, none⟩) r) (hr : r.length = m) (hm0 : 0 < m) (hm : m ≤ 1000000)
    (h : ∀ g cap w', w'.ownsRow base 5 1 (.slice (some ⟨g, 0, none⟩) (n + m) cap) (n + m) (Lib.byteCells (l ++ r)) → Chg v.ownBlock.toList w w' → (v.ownBlock = some g ∨ g = w.heap.size) → K (a.put o.dst (.slice (some ⟨g, 0, none⟩) (n + m) cap)) w') :
    if Region.wanted o (yielded ops a.tmps) = true then Oper.wp Tryz.prog o a w K Q else E := by
  obtain ⟨i, hi0, hz, hz1, hz2⟩ := info_parts inf5c
  refine step_append_lies w hgd s x 38 ho base 5 i _ 1 1 ty23 hi0 hz hz1 hz2 rfl (by decide) v n _ hs hown ⟨b, bo, none⟩ m c (Lib.byteCells r) hx (by simp [Lib.byteCells, hr]) ?_ ?_ hm0 (by unfold maxLen; omega) (by omega) hbase _ rfl ?_
  · intro j u hu
    rw [show (⟨b, bo, none⟩ : Addr).add j = ⟨b, bo + j, none⟩ from by unfold Addr.add; split <;> simp_all]
    have hj : j < r.length := by
      have := (List.getElem?_eq_some_iff.1 hu).1
      simpa [Lib.byteCells] using this
    rw [hb.at_ j hj]
    rw [← hu]
    simp [Lib.byteCells, hj]
  · intro u hu
    simp only [Lib.byteCells, List.mem_map] at hu
    obtain ⟨y, -, rfl⟩ := hu
    rfl
  · intro g cap w' h2 h3 h4 _
    refine h g cap w' ?_ (Chg.own h3 (fun g hg _ => by simp [hg])) h4
    rw [show Lib.byteCells (l ++ r) = Lib.byteCells l ++ Lib.byteCells r by simp [Lib.byteCells]]
    exact h2
/-- what a text says. -/
def textB (last : Nat) (l : List (Int × List UInt8)) : List UInt8 := leB last 8 ++ (l.map fun p => leB p.1.toNat 4 ++ p.2).flatten
theorem textB_nil (last : Nat) : textB last [] = leB last 8 := by simp [textB]
theorem textB_snoc (last : Nat) (l : List (Int × List UInt8)) (p : Int × List UInt8) : textB last (l ++ [p]) = (textB last l ++ leB p.1.toNat 4) ++ p.2 := by simp [textB]
theorem textB_length (last : Nat) (l : List (Int × List UInt8)) (h : ∀ p ∈ l, p.2.length = 40) : (textB last l).length = 8 + 44 * l.length := by
  induction l with
  | nil => simp [textB, leB_length]
  | cons p l ih =>
    have ih := ih (fun q hq => h q (List.mem_cons_of_mem _ hq))
    have hp := h p List.mem_cons_self
    simp only [textB, List.length_append, leB_length, List.map_cons, List.flatten_cons, List.length_cons] at ih ⊢
    omega
theorem dumpL_keys {L : List (Int × Value)} (vs : Int → List (Int × List UInt8)) (hk : ∀ x ∈ L, 0 ≤ x.1 ∧ x.1 < 258) : ∀ p ∈ dumpL L vs, 0 ≤ p.1 ∧ p.1 < 258 := fun p hp => by
  simp only [dumpL, List.mem_map] at hp
  obtain ⟨k, hk2, rfl⟩ := hp
  obtain ⟨q, hq, e2⟩ := List.mem_map.1 ((sortI_perm _).mem_iff.1 hk2)
  have := hk q hq
  show 0 ≤ k ∧ k < 258
  omega
set_option maxRecDepth 100000 in
theorem tlast_ok (w : World) {M X B r : Nat} {qv : Value} {out num bas last given : Int} {rd : Bool} (h : MgrG w M X B r qv out num bas last given rd) : Calls Tryz.prog 51 #[.pointer (some ⟨M, 0, none⟩)] w fun e w' => e = .returned (.int .i64 last) ∧ w = w' := by
  have HG := Lib.hid (tgone_mg w h)
  have c7 : w.cell? ⟨M, 7, none⟩ = some (.int .i64 last) := cell_is h 7 rfl
  clear h
  go_enter Tryz.func51, Tryz.ntmps51
  go_wp2_with fail
  refine HG.out.mono ?_
  rintro e w1 ⟨rfl, rfl⟩
  go_wp2_with fail
  go_ret
  exact ⟨rfl, rfl⟩
set_option maxRecDepth 100000 in
set_option maxHeartbeats 4000000 in
theorem stext_ok (w : World) {lo P N S M X B r rx pos num : Nat} {qv : Value} {out nm bas given lastv : Int} {lst : Nat} {rd : Bool} {L : List (Int × Value)} {vs : Int → List (Int × List UInt8)} (hS : StoreG w P N S M pos num) (hM : MgrG w M X B r qv out nm bas lst given rd) (h : VerG w lo X rx lastv L vs) (hk : ∀ x ∈ L, 0 ≤ x.1 ∧ x.1 < 258) (hl : L.length ≤ 1000) (hlast : lst ≤ 1099511627776) :
    Calls Tryz.prog 46 #[.pointer (some ⟨P, 0, none⟩)] w fun e w' => ∃ g c, e = .returned (.slice (some ⟨g, 0, none⟩) (textB lst (dumpL L vs)).length c) ∧ Chg [] w w' ∧ w'.ownsRow w.heap.size 5 1 (.slice (some ⟨g, 0, none⟩) (textB lst (dumpL L vs)).length c) (textB lst (dumpL L vs)).length (Lib.byteCells (textB lst (dumpL L vs))) := by
  have p5 : w.cell? ⟨P, 5, none⟩ = some (.pointer (some ⟨M, 0, none⟩)) := cell_is hS 5 rfl
  have HL := Lib.hid (tlast_ok w hM)
  have n1 : IntKind.u64.wrap (lst : Int) = (lst : Int) := by rw [IntKind.wrap_u64]; omega
  have HP := Lib.hid (put64_own w lst (by omega) (Nat.le_refl w.heap.size))
  have HA := Lib.hid (And.intro hM (And.intro h (And.intro hk hl)))
  clear hS hM h hk hl
  go_enter Tryz.func46, Tryz.ntmps46
  go_wp2_with fail
  refine HL.out.mono ?_
  rintro e w1 ⟨rfl, rfl⟩
  go_wp2_with fail
  refine HP.out.mono ?_
  rintro e w1 ⟨g1, rfl, k1, o1⟩
  have p51 := k1.cell p5 (by simp)
  have HD := Lib.hid (mgrdumpF w1 (k1.heap HA.out.1 (by simp)) (HA.out.2.1.keep k1) HA.out.2.2.1 HA.out.2.2.2)
  have HO := Lib.hid (And.intro k1 o1)
  clear k1 o1 HL HP p5
  go_wp2_with fail
  refine HD.out.mono ?_
  rintro e w2 ⟨dv, rfl, k2, hp⟩
  have hdl : (dumpL L vs).length = L.length := by simp [dumpL, sortI_length]
  have hL := HA.out.2.2.2
  have hdk1 := dumpL_keys vs HA.out.2.2.1
  generalize hdq : dumpL L vs = dl at *
  have HDq := Lib.hid hdq
  clear hdq
  obtain ⟨pv, cv, rfl, hcv⟩ : ∃ pv cv, dv = .slice pv dl.length cv ∧ dl.length ≤ cv := by
    obtain ⟨xs, ho, -⟩ := hp
    exact own_form ho
  have hdk : ∀ p ∈ dl, (0 ≤ p.1 ∧ p.1 < 258) ∧ p.2.length = 40 := fun p hp2 => by
    refine ⟨hdk1 p hp2, ?_⟩
    obtain ⟨i, hi, rfl⟩ := List.getElem_of_mem hp2
    obtain ⟨_, _, _, _, _, _, _, _, _, _, h40, _⟩ := hp.get i hi
    exact h40
  clear hdk1
  obtain ⟨n, hn⟩ : ∃ n, n = dl.length := ⟨_, rfl⟩
  have HQ := Lib.hid (And.intro hp (And.intro hdk (And.intro hn (HO.out.1.then k2))))
  have hn1 : n ≤ 1000 := by omega
  rw [← hn] at hcv ⊢
  have HOw := Lib.hid (own_keep HO.out.2 k2.below0)
  have hsz2 : w.heap.size ≤ w2.heap.size := HQ.out.2.2.2.size
  have hg1 : w.heap.size ≤ g1 ∧ g1 < w1.heap.size := by obtain ⟨h1, cur, hh⟩ := own_elem HO.out.2 (g := g1) rfl; exact ⟨h1, heap_lt hh⟩
  clear hp hdk hn hdl hL k2 HD p51
  go_wp2_with fail
  go_loopw [3, 5, 19] (fun v _ i wr => ∃ j : Nat, j ≤ n ∧ i = .int .i64 j ∧ Chg [g1] w2 wr ∧ ∃ g c, v = .slice (some ⟨g, 0, none⟩) (8 + 44 * j) c ∧ wr.ownsRow w.heap.size 5 1 v (8 + 44 * j) (Lib.byteCells (textB lst (dl.take j))) ∧ (g = g1 ∨ w2.heap.size ≤ g)) (fun _ _ i _ => n - (intOf i).toNat)
  case atStart => exact ⟨0, Nat.zero_le _, rfl, Chg.refl _ _, g1, 8, rfl, by rw [List.take_zero, textB_nil]; exact HOw.out, Or.inl rfl⟩
  case round =>
    obtain ⟨j, hj, rfl, kr, g, c, rfl, ho, hg⟩ := hrel
    by_cases hlt : j < n
    · have hjd : j < dl.length := by have := HQ.out.2.2.1; omega
      obtain ⟨gp, cp, gd, cd, epv, hcp, e0, e1, hfr, hb, h40, hbt⟩ := HQ.out.1.get j hjd
      have hgd2 : gd < w2.heap.size := by obtain ⟨cs, hh⟩ := hbt; exact heap_lt hh
      have hgp : w1.heap.size ≤ gp := by
        rw [epv] at HQ
        exact (HQ.out.1.block gp rfl).1
      have hgne : gd ≠ g := by omega
      have hgd1 : gd ∉ [g1] := by rw [List.mem_singleton]; omega
      replace e0 := kr.cell e0 (by simp; omega)
      replace e1 := kr.cell e1 (by simp; omega)
      replace hb := hb.chgT kr hgd1
      replace hbt := Bt.keep hbt kr hgd1
      rw [← HQ.out.2.2.1] at epv hcp
      cases epv
      obtain ⟨hk0, -⟩ := HQ.out.2.1 dl[j] (List.getElem_mem hjd)
      have htk : dl.take (j + 1) = dl.take j ++ [dl[j]] := by rw [List.take_add_one, List.getElem?_eq_getElem hjd]; rfl
      obtain ⟨ky, db, hkd⟩ : ∃ ky db, dl[j] = (ky, db) := ⟨_, _, rfl⟩
      rw [hkd] at e0 hb h40 hk0 htk
      obtain ⟨kn, rfl⟩ : ∃ kn : Nat, ky = kn := ⟨ky.toNat, by have : 0 ≤ ky := hk0.1; omega⟩
      have hkn : kn < 258 := by have : (kn : Int) < 258 := hk0.2; omega
      have m1 : decide ((j : Int) < (n : Int)) = true := decide_eq_true (by omega)
      have m2 : IntKind.u32.wrap (kn : Int) = (kn : Int) := by rw [IntKind.wrap_u32]; omega
      have kB : Chg [] wr (wr.alloc (.cells #[.int .i64 kn, .slice (some ⟨gd, 0, none⟩) 40 cd] 41)) := Chg.alloc wr _
      have yB := heap_new wr (.cells #[.int .i64 kn, .slice (some ⟨gd, 0, none⟩) 40 cd] 41)
      have hrs : w.heap.size ≤ wr.heap.size ∧ w2.heap.size ≤ wr.heap.size := ⟨Nat.le_trans hsz2 kr.size, kr.size⟩
      generalize hz : wr.heap.size = z at *
      have HX := Lib.hid (And.intro (own_keep ho kB.below0) (And.intro (hb.chg kB) (And.intro (Bt.keep hbt kB (by simp)) (And.intro h40 (And.intro htk (kr.then (kB.mono (fun x hx _ => by cases hx))))))))
      clear ho hb hbt h40 htk hkd hk0 kr kB
      go_upto_region 5 with fail
      generalize wr.alloc (.cells #[.int .i64 kn, .slice (some ⟨gd, 0, none⟩) 40 cd] 41) = w3 at *
      have HP32 := Lib.hid (put32_any w3.drew kn (by omega))
      have a0 : w3.cell? ⟨z, 0, none⟩ = some (.int .i64 kn) := cell_is yB 0 rfl
      have a1 : w3.cell? ⟨z, 1, none⟩ = some (.slice (some ⟨gd, 0, none⟩) 40 cd) := cell_is yB 1 rfl
      have a0d : w3.drew.cell? ⟨z, 0, none⟩ = some (.int .i64 kn) := a0
      have a1d : w3.drew.cell? ⟨z, 1, none⟩ = some (.slice (some ⟨gd, 0, none⟩) 40 cd) := a1
      have HY := Lib.hid yB
      have h16 : 8 + 44 * j ≤ 1000000 := by omega
      have h17 : 8 + 44 * j + 4 ≤ 1000000 := by omega
      clear yB
      go_region_law
        (first
          | (go_simp; go_at_call 96; refine HP32.out.mono ?_; rintro e w4 ⟨g4, rfl, k4, b4, s4⟩
             have y4 := k4.heap (show w3.drew.heap[z]? = _ from HY.out) (by simp)
             have a04 : w4.cell? ⟨z, 0, none⟩ = some (.int .i64 kn) := cell_is y4 0 rfl
             have a14 : w4.cell? ⟨z, 1, none⟩ = some (.slice (some ⟨gd, 0, none⟩) 40 cd) := cell_is y4 1 rfl
             have o4 := own_keep (show w3.drew.ownsRow _ _ _ _ _ _ from HX.out.1) k4.below0
             have hb4 : w.heap.size ≤ w4.heap.size := Nat.le_trans (by have := heap_lt HY.out; show w.heap.size ≤ w3.heap.size; omega) k4.size)
          | (refine step_append_by rfl (.tmp 23) (.tmp 27) rfl w.heap.size g4 0 4 4 (8 + 44 * j) (.slice (some ⟨g, 0, none⟩) (8 + 44 * j) c) (textB lst (dl.take j)) (leB kn 4) rfl o4 hb4 h16 rfl b4 (leB_length _ _) (by decide) (by decide) ?_
             intro g5 c5 w5 o5 k5 n5
             have hzg : z ∉ (Value.slice (some ⟨g, 0, none⟩) (8 + 44 * j) c).ownBlock.toList := fun hm => by
               obtain ⟨-, cur, hh⟩ := own_elem o4 (g := z) (by simpa using hm)
               rw [y4] at hh
               cases hh
             have y5 := k5.heap y4 hzg
             have a15 : w5.cell? ⟨z, 1, none⟩ = some (.slice (some ⟨gd, 0, none⟩) 40 cd) := cell_is y5 1 rfl
             have hgd : gd ∉ (Value.slice (some ⟨g, 0, none⟩) (8 + 44 * j) c).ownBlock.toList := fun hm => hgne (by
               have e : (Value.slice (some ⟨g, 0, none⟩) (8 + 44 * j) c).ownBlock = some gd := by simpa using hm
               cases e
               rfl)
             have b5 := ((show Bs w3.drew _ _ from HX.out.2.1).chg k4).chgT k5 hgd
             have hb5 : w.heap.size ≤ w5.heap.size := Nat.le_trans hb4 k5.size)
          | (refine step_append_by rfl (.tmp 28) (.tmp 30) rfl w.heap.size gd 0 40 cd (8 + 44 * j + 4) (.slice (some ⟨g5, 0, none⟩) (8 + 44 * j + 4) c5) (textB lst (dl.take j) ++ leB kn 4) db rfl o5 hb5 h17 rfl b5 HX.out.2.2.2.1 (by decide) (by decide) ?_
             intro g6 c6 w6 o6 k6 n6))
      all_goals
        have hnew : Hid (Chg [g1] w2 w6 ∧ w6.ownsRow w.heap.size 5 1 (.slice (some ⟨g6, 0, none⟩) (8 + 44 * (j + 1)) c6) (8 + 44 * (j + 1)) (Lib.byteCells (textB lst (dl.take (j + 1)))) ∧ (g6 = g1 ∨ w2.heap.size ≤ g6)) := Lib.hid (by
          have hk := HX.out.2.2.2.2.2
          have e1 : textB lst (dl.take (j + 1)) = (textB lst (dl.take j) ++ leB kn 4) ++ db := by rw [HX.out.2.2.2.2.1, textB_snoc]; rfl
          have k24 : Chg [g1] w2 w4 := hk.drew.then (k4.mono (fun x hx _ => by cases hx))
          have g5w : g5 = g1 ∨ w2.heap.size ≤ g5 := by
            rcases n5 with h | h
            · cases h; exact hg
            · right; have := k24.size; omega
          have k25 : Chg [g1] w2 w5 := k24.trans k5 (fun x hx hl => by
            have e : (Value.slice (some ⟨g, 0, none⟩) (8 + 44 * j) c).ownBlock = some x := by simpa using hx
            obtain rfl : g = x := by cases e; rfl
            rcases hg with h | h
            · rw [h]; exact List.mem_singleton.2 rfl
            · omega)
          refine ⟨k25.trans k6 (fun x hx hl => ?_), ?_, ?_⟩
          · have e : (Value.slice (some ⟨g5, 0, none⟩) (8 + 44 * j + 4) c5).ownBlock = some x := by simpa using hx
            obtain rfl : g5 = x := by cases e; rfl
            rcases g5w with h | h
            · rw [h]; exact List.mem_singleton.2 rfl
            · omega
          · rw [e1]
            exact o6
          · rcases n6 with h | h
            · cases h; exact g5w
            · right; have := k25.size; omega)
        have m3 : IntKind.i64.wrap ((j : Int) + 1) = ((j + 1 : Nat) : Int) := by rw [IntKind.wrap_i64]; omega
        clear HP32 a0 a1 a0d a1d k4 b4 s4 y4 a04 a14 o4 hb4 o5 k5 n5 hzg y5 a15 hgd b5 hb5 o6 k6 n6
        go_wp2_with fail
        exact ⟨⟨j + 1, by omega, by go_num, hnew.out.1, g6, c6, rfl, hnew.out.2⟩, by simp [intOf]; omega⟩
    · have hje : j = n := by omega
      subst hje
      have m1 : decide ((j : Int) < (j : Int)) = false := decide_eq_false (by omega)
      have hlen : (textB lst dl).length = 8 + 44 * j := by rw [textB_length _ _ (fun p hp => (HQ.out.2.1 p hp).2), ← HQ.out.2.2.1]
      rw [List.take_of_length_le (by rw [← HQ.out.2.2.1]; exact Nat.le_refl _)] at ho
      have HZ := Lib.hid (And.intro ho (And.intro hlen (HQ.out.2.2.2.trans kr (fun x hx hl => by rw [List.mem_singleton] at hx; omega))))
      clear ho hlen kr HOw
      go_wp2_with fail
      go_ret
      rw [HDq.out, HZ.out.2.1]
      exact ⟨g, c, rfl, HZ.out.2.2, HZ.out.1⟩
end Go.Proofs.YtnelakpdmjfolaaGreat
namespace Go.Proofs.YtnelakpdmjfolaaGreat
open Go.RowKit Go.Lib

/-- what a checkpoint leaves of the log and the slots. -/
def ckG (g : Gd) (inn : Int) (tv : Value) (ops : Int) (dv : Nat → Value) (zs : Nat → List (List UInt8)) : Gd := { g with pos := 0, num := 0, inn := inn, tv := tv, cnt := g.cnt + 1, ops := ops, dv := dv, gs := lenF zs, zs := zs }
/-- what a checkpoint changes. -/
def Cw (lw : Nat) (w w' : World) : Prop := ∃ U, Chg U w w' ∧ ∀ x ∈ U, x < w.heap.size → lw ≤ x ∧ ∃ cs t, w.heap[x]? = some (.cells cs t (0, 0)) ∧ t ∈ [72, 60, 64, 38, 113]
theorem Cw.of_chg {lw : Nat} {w w' : World} (h : Chg [] w w') : Cw lw w w' := ⟨[], h, fun x hx => by cases hx⟩
theorem Cw.trans {lw : Nat} {a b c : World} (h : Cw lw a b) (k : Cw lw b c) : Cw lw a c := by
  obtain ⟨S, h1, h2⟩ := h
  obtain ⟨U, k1, k2⟩ := k
  refine ⟨S ++ U, (h1.mono (fun x hx _ => List.mem_append_left _ hx)).trans k1 (fun x hx _ => List.mem_append_right _ hx), fun x hx hlt => ?_⟩
  by_cases hT : x ∈ S
  · exact h2 x hT hlt
  · rcases List.mem_append.1 hx with h | h
    · exact absurd h hT
    · obtain ⟨e1, cs, t, e2, e3⟩ := k2 x h (Nat.lt_of_lt_of_le hlt h1.size)
      exact ⟨e1, cs, t, by rw [← h1.block x hlt hT]; exact e2, e3⟩
theorem Cw.of_tp {lw : Nat} {w w' : World} {U ts : List Nat} (h : Chg U w w') (ht : Tp w U ts) (hts : ∀ t ∈ ts, t ∈ [72, 60, 64, 38, 113]) (hl : ∀ x ∈ U, lw ≤ x) : Cw lw w w' :=
  ⟨U, h, fun x hx _ => ⟨hl x hx, by obtain ⟨cs, t, e1, e2⟩ := ht x hx; exact ⟨cs, t, e1, hts t e2⟩⟩⟩
theorem Cw.cs {lw : Nat} {w w' : World} (h : Cw lw w w') : Cs lw w w' := by
  obtain ⟨U, h1, h2⟩ := h
  refine ⟨U, h1, fun x hx hlt => ⟨(h2 x hx hlt).1, fun cs t fr hh => ?_⟩⟩
  obtain ⟨-, cs', t', e1, e2⟩ := h2 x hx hlt
  rw [hh] at e1
  cases e1
  exact (show ∀ t ∈ [72, 60, 64, 38, 113], t ∈ [72, 136, 149, 186, 196, 60, 64, 38, 3, 189, 113] by decide) t e2
theorem Wtx.keepW {w w' : World} {lw : Nat} {d : Ids} {s : Gs} {gq cq : Nat} {hdl : Int} {k : Nat} {t t0 : Int} {L : List (Int × Value)} {D : Int → List UInt8} (h : Wtx w d s gq cq hdl k t t0 L D) (hc : Cw lw w w') : Wtx w' d s gq cq hdl k t t0 L D := by
  obtain ⟨U, h1, h2⟩ := hc
  have lt : ∀ {x : Nat} {b}, w.heap[x]? = some b → x < w.heap.size := fun hh => (Array.getElem?_eq_some_iff.1 hh).1
  refine h.keepA h1 (fun x hx cs t fr hh ht => ?_) (fun hr => ?_)
  · obtain ⟨-, cs', t', e1, e2⟩ := h2 x hx (lt hh)
    rw [hh] at e1
    cases e1
    exact absurd ht ((show ∀ t ∈ [72, 60, 64, 38, 113], t ∉ [3, 149, 199, 5] by decide) t e2)
  · have hm := h.buf.2
    rcases Nat.lt_or_ge d.rw w.heap.size with hlt | hge
    · obtain ⟨-, cs', t', e1, -⟩ := h2 _ hr hlt
      exact absurd rfl (map_cells hm e1)
    · obtain ⟨es, ck, hh, -⟩ := hm
      exact absurd (lt hh) (by omega)
def CkR (w w' : World) (lw : Nat) (d : Ids) (s : Gs) (g : Gd) (i a : Nat) (F : List (List UInt8)) : Prop :=
  ∃ tv ops dv, (g.ops ≤ ops ∧ ops ≤ g.ops + 302) ∧ Sto w' lw d s (ckG g i tv ops dv (clrF (putF g.zs a F F.length) 6 8)) ∧ Cw lw w w'
/-- the log and the slots behind a save. -/
def svG (g : Gd) (inn : Int) (tv : Value) (ops : Int) (dv : Nat → Value) (zs : Nat → List (List UInt8)) : Gd := { g with inn := inn, tv := tv, cnt := g.cnt + 1, ops := ops, dv := dv, gs := lenF zs, zs := zs }
theorem SvR.sto {w w' : World} {lw : Nat} {d : Ids} {s : Gs} {g : Gd} {ni : Int} {a : Nat} {l : List UInt8} (hs : SvR w w' lw g.dlo d.S d.N d.A d.c d.Z g.ops g.zs ni a g.cnt l) (h : Sto w lw d s g) :
    ∃ ops tv dv, (g.ops ≤ ops ∧ ops ≤ g.ops + 300) ∧ Sto w' lw d s (svG g ni tv ops dv (putF g.zs a (encS (g.cnt + 1) l) (encS (g.cnt + 1) l).length)) ∧ Cw lw w w' := by
  obtain ⟨ops, tv, ho, ⟨dv, hd⟩, hS, ht, U, u1, u2, u3⟩ := hs
  have tp : Tp w (d.S :: U) [113, 60, 64, 38] := fun x hx => by
    rcases List.mem_cons.1 hx with rfl | hx
    · exact ⟨_, _, h.slot, by simp⟩
    · obtain ⟨cs, t, e1, e2⟩ := u2 x hx
      exact ⟨cs, t, e1, List.mem_cons_of_mem _ e2⟩
  have hbn := h.bnd
  have hlo : ∀ x ∈ d.S :: U, lw ≤ x := fun x hx => by
    rcases List.mem_cons.1 hx with rfl | hx
    · omega
    · exact u3 x hx
  refine ⟨ops, tv, dv, ho, ⟨?_, hS, ht, hd, h.mx.keepA u1 (tp.av (by decide)) (tp.map h.mx.ver.m) (tp.map h.mx.book.2) (tp.map h.mx.map), h.ap, h.keys, h.bnd, h.bndZ, Nat.le_trans h.slo u1.size, h.dlo⟩, Cw.of_tp u1 tp (by decide) hlo⟩
  exact u1.heap h.store ((tp.av (ts' := [72]) (by decide)).ne h.store (by simp))
theorem Sto.redev {w w' : World} {lw : Nat} {d : Ids} {s : Gs} {g : Gd} {U : List Nat} {inn : Int} {tv : Value} {ops ops' : Int} {dv dv' : Nat → Value} {zs zs' : Nat → List (List UInt8)} (h : Sto w lw d s (svG g inn tv ops dv zs)) (hc : Chg U w w') (tp : Tp w U [60, 64]) (hlo : ∀ x ∈ U, lw ≤ x) (hd : DevG w' g.dlo d.N d.A d.c ops' d.Z dv' (lenF zs') zs') :
    Sto w' lw d s (svG g inn tv ops' dv' zs') ∧ Cw lw w w' := by
  refine ⟨⟨?_, ?_, h.text.keep hc (tp.av (by decide)), hd, h.mx.keepA hc (tp.av (by decide)) (tp.map h.mx.ver.m) (tp.map h.mx.book.2) (tp.map h.mx.map), h.ap, h.keys, h.bnd, h.bndZ, Nat.le_trans h.slo hc.size, h.dlo⟩, Cw.of_tp hc tp (by decide) hlo⟩
  · exact hc.heap h.store ((tp.av (ts' := [72]) (by decide)).ne h.store (by simp))
  · exact hc.heap h.slot ((tp.av (ts' := [113]) (by decide)).ne h.slot (by simp))
theorem dumpL_data {w : World} {lo X rx : Nat} {last : Int} {L : List (Int × Value)} {vs : Int → List (Int × List UInt8)} (h : VerG w lo X rx last L vs) (hk : ∀ x ∈ L, 0 ≤ x.1 ∧ x.1 < 258) : ∀ p ∈ dumpL L vs, p.2.length = 40 := fun p hp => by
  simp only [dumpL, List.mem_map] at hp
  obtain ⟨k, hk2, rfl⟩ := hp
  have hk3 := (sortI_perm _).mem_iff.1 hk2
  obtain ⟨v, hv⟩ := getL_key hk3
  obtain ⟨q, hq, e2⟩ := List.mem_map.1 hk3
  have hq2 := hk q hq
  rcases h.row k (by omega) (by omega) with ⟨e1, -⟩ | ⟨v', e1, e3, e4⟩
  · rw [hv] at e1; cases e1
  · obtain ⟨m, hm⟩ : ∃ m, (vs k).length = m + 1 := ⟨(vs k).length - 1, by have := List.length_pos_iff.2 e4; omega⟩
    obtain ⟨_, _, _, _, _, _, _, _, h40, _⟩ := e3.last hm
    exact h40
set_option maxRecDepth 100000 in
set_option maxHeartbeats 4000000 in
theorem scheck_ok (w : World) {lw : Nat} {d : Ids} {s : Gs} {g : Gd} {inn i a lst : Nat} (h : Sto w lw d s g) (hi : (inn = 1 ∧ i = 0 ∧ a = 0) ∨ (inn = 0 ∧ i = 1 ∧ a = 3)) (hinn : g.inn = inn) (hl : s.Lv.length ≤ 258) (hlast : s.last = lst) (hl2 : lst ≤ 1099511627776) (h0 : 0 ≤ g.ops) (h1 : g.ops ≤ 800000) (hn : g.cnt < 1099511627776) (hlw : lw ≤ w.heap.size) :
    Calls Tryz.prog 16 #[.pointer (some ⟨d.P, 0, none⟩)] w fun e w' => e = .returned (.int .i64 0) ∧ CkR w w' lw d s g i a (encS (g.cnt + 1) (textB lst (dumpL s.Lv s.vs))) := by
  have HDe := Lib.hid (dead_g w h.store)
  have hM := h.mx.mgr
  rw [hlast] at hM
  have HT := Lib.hid (stext_ok w.drew (L := s.Lv) (vs := s.vs) (show StoreG w.drew d.P d.N d.S d.M g.pos g.num from h.store) hM (h.mx.ver.keep (Chg.refl [] w).drew) h.keys (by omega) hl2)
  have p6 : w.cell? ⟨d.P, 6, none⟩ = some (.pointer (some ⟨d.S, 0, none⟩)) := cell_is h.store 6 rfl
  have hdl : ∀ p ∈ dumpL s.Lv s.vs, p.2.length = 40 := dumpL_data h.mx.ver h.keys
  have htl : (textB lst (dumpL s.Lv s.vs)).length = 8 + 44 * s.Lv.length := by rw [textB_length _ _ hdl]; simp [dumpL, sortI_length]
  have HI := Lib.hid hi
  have HH := Lib.hid (And.intro h (And.intro hinn hlw))
  clear h hi hM hdl hinn
  generalize textB lst (dumpL s.Lv s.vs) = tx at *
  obtain ⟨m, hm⟩ : ∃ m, m = tx.length := ⟨_, rfl⟩
  rw [← hm] at HT htl
  have hm1 : 0 < m ∧ m ≤ 11440 := by omega
  have HM := Lib.hid hm
  clear hm htl hl
  go_enter Tryz.func16, Tryz.ntmps16
  go_wp2_with fail
  refine HDe.out.mono ?_
  rintro e w1 ⟨rfl, rfl⟩
  have HSv : Hid (∀ (w2 : World) (gt ct : Nat), Chg [] w.drew w2 → w2.ownsRow w.drew.heap.size 5 1 (.slice (some ⟨gt, 0, none⟩) m ct) m (Lib.byteCells tx) → Calls Tryz.prog 45 #[.pointer (some ⟨d.S, 0, none⟩), .slice (some ⟨gt, 0, none⟩) m ct] w2 fun e w' => e = .returned (.int .i64 0) ∧ ∃ ops tv dv, (g.ops ≤ ops ∧ ops ≤ g.ops + 300) ∧ Sto w' lw d s (svG g i tv ops dv (putF g.zs a (encS (g.cnt + 1) tx) (encS (g.cnt + 1) tx).length)) ∧ Cw lw w w') := Lib.hid (by
    intro w2 gt ct k2 o2
    obtain ⟨h, hinn, hlw⟩ := HH.out
    have h2 := h.keep ((Chg.refl [] w).drew.then k2)
    have hct : m ≤ ct := by
      obtain ⟨pv, cv, e, hc⟩ := own_form o2
      cases e
      exact hc
    have hbt : Bt w2 gt := (own_elem o2 (g := gt) rfl).2
    have hsl := h2.slot
    rw [hinn] at hsl
    have hbn := h2.bnd
    refine (slsave_any w2 hsl h2.dev h0 (by omega) HI.out (by omega) (Bs.own o2) hbt HM.out.symm hm1.1 hm1.2 h2.dlo (by omega) h2.bndZ hct).mono ?_
    rintro e w' ⟨rfl, hsv⟩
    obtain ⟨ops, tv, dv, q1, q2, q3⟩ := hsv.sto h2
    exact ⟨rfl, ops, tv, dv, q1, q2, (Cw.of_chg ((Chg.refl [] w).drew.then k2)).trans q3⟩)
  have p6d : w.drew.cell? ⟨d.P, 6, none⟩ = some (.pointer (some ⟨d.S, 0, none⟩)) := p6
  go_wp2_with fail
  go_region_held3 (fun wx => wx.cell? ⟨d.P, 6, none⟩ = some (.pointer (some ⟨d.S, 0, none⟩)))
    (first | (exact p6) | (exact k2.cell p6d (by simp)) | (exact hp3))
    (first
      | (go_at_call 46; refine HT.out.mono ?_; rintro e w2 ⟨gt, ct, rfl, k2, o2⟩)
      | (go_at_call 45; refine (HSv.out w2 gt ct k2 o2).mono ?_; rintro e w3 ⟨rfl, ops3, tv3, dv3, hop3, hS3, hC3⟩
         have hp3 : w3.cell? ⟨d.P, 6, none⟩ = some (.pointer (some ⟨d.S, 0, none⟩)) := cell_is hS3.store 6 rfl))
  have q3 : w3.cell? ⟨d.P, 3, none⟩ = some (.int .i64 6) := cell_is hS3.store 3 rfl
  have HX3 := Lib.hid (And.intro hop3 (And.intro hS3 hC3))
  clear hS3 hC3 hop3 hp3 k2 o2 p6 p6d HSv HT HDe
  go_wp2_with fail
  go_loopw [3, 4, 5, 6] (fun er z _ _ wr => ∃ j ops4 dv4, er = .int .i64 0 ∧ z = .int .i64 (j : Nat) ∧ (6 ≤ j ∧ j ≤ 8) ∧ (g.ops ≤ ops4 ∧ ops4 ≤ g.ops + 300 + (j - 6 : Nat)) ∧ Sto wr lw d s (svG g i tv3 ops4 dv4 (clrF (putF g.zs a (encS (g.cnt + 1) tx) (encS (g.cnt + 1) tx).length) 6 j)) ∧ Cw lw w wr) (fun _ z _ _ _ => 8 - (intOf z).toNat)
  case atStart => exact ⟨6, ops3, dv3, rfl, rfl, ⟨by decide, by decide⟩, ⟨HX3.out.1.1, by have := HX3.out.1.2; omega⟩, by rw [clrF_zero]; exact HX3.out.2.1, HX3.out.2.2⟩
  case round =>
    obtain ⟨j, ops4, dv4, rfl, rfl, ⟨hj6, hj8⟩, hop4, hS4, hC4⟩ := hrel
    have r0 : wr.cell? ⟨d.P, 0, none⟩ = some (.pointer (some ⟨d.N, 0, none⟩)) := cell_is hS4.store 0 rfl
    have r4 : wr.cell? ⟨d.P, 4, none⟩ = some (.int .i64 7) := cell_is hS4.store 4 rfl
    have hZ8 := hS4.dev.len
    by_cases hlt : j < 8
    · have m1 : decide ((j : Int) ≤ 7) = true := decide_eq_true (by omega)
      have m2 : IntKind.i64.wrap ((j : Int) + 1) = ((j + 1 : Nat) : Int) := by rw [IntKind.wrap_i64]; omega
      have hjz : j < d.Z.length := by omega
      have HP := Lib.hid (pointer_ok wr hS4.dev j hjz)
      have HR := Lib.hid (dreset_any wr hS4.dev (by show (0 : Int) ≤ ops4; omega) (by show ops4 ≤ 1000000; omega) j hjz)
      have HW := Lib.hid (And.intro hop4 (And.intro hS4 hC4))
      clear hop4 hS4 hC4 q3 HX3
      obtain ⟨p, hp⟩ : ∃ p, p = (clrF (putF g.zs a (encS (g.cnt + 1) tx) (encS (g.cnt + 1) tx).length) 6 j j).length := ⟨_, rfl⟩
      have Hp := Lib.hid hp
      have HP2 : Hid (Calls Tryz.prog 47 #[.pointer (some ⟨d.N, 0, none⟩), .int .i64 j] wr fun e w' => e = .returned (.tuple #[.int .i64 p, .int .i64 0]) ∧ wr = w') := Lib.hid (by rw [hp]; exact HP.out)
      clear hp HP
      go_wp2_with fail
      refine HP2.out.mono ?_
      rintro e w4 ⟨rfl, rfl⟩
      by_cases hp0 : 0 < p
      · have m3 : decide (0 < (p : Int)) = true := decide_eq_true (by omega)
        go_wp2_with fail
        refine HR.out.mono ?_
        rintro e w5 ⟨rfl, k5, d5⟩
        have hnew : Hid (∃ ops4 dv4, (g.ops ≤ ops4 ∧ ops4 ≤ g.ops + 300 + ((j + 1) - 6 : Nat)) ∧ Sto w5 lw d s (svG g i tv3 ops4 dv4 (clrF (putF g.zs a (encS (g.cnt + 1) tx) (encS (g.cnt + 1) tx).length) 6 (j + 1))) ∧ Cw lw w w5) := Lib.hid (by
          obtain ⟨hop4, hS4, hC4⟩ := HW.out
          rw [show upF (svG g i tv3 ops4 dv4 (clrF (putF g.zs a (encS (g.cnt + 1) tx) (encS (g.cnt + 1) tx).length) 6 j)).zs j [] = clrF (putF g.zs a (encS (g.cnt + 1) tx) (encS (g.cnt + 1) tx).length) 6 (j + 1) from clrF_succ hj6, show upF (svG g i tv3 ops4 dv4 (clrF (putF g.zs a (encS (g.cnt + 1) tx) (encS (g.cnt + 1) tx).length) 6 j)).gs j 0 = lenF (clrF (putF g.zs a (encS (g.cnt + 1) tx) (encS (g.cnt + 1) tx).length) 6 (j + 1)) from (lenF_up _ _).trans (by rw [clrF_succ hj6])] at d5
          refine (fun q => ⟨ops4 + 1, _, by omega, q.1, hC4.trans q.2⟩) (hS4.redev k5 (fun x hx => ?_) (fun x hx => ?_) d5)
          · simp only [List.mem_cons, List.not_mem_nil, or_false] at hx
            rcases hx with rfl | rfl
            · exact ⟨_, _, hS4.dev.hdr, by simp⟩
            · exact ⟨_, _, hS4.dev.zone j hjz, by simp⟩
          · have hbn := hS4.bnd
            simp only [List.mem_cons, List.not_mem_nil, or_false] at hx
            rcases hx with rfl | rfl
            · omega
            · exact hS4.bndZ _ (List.getElem_mem _))
        clear k5 d5 HR HP2 HW
        go_wp2_with fail
        go_roundw
        case rel =>
          obtain ⟨o5, dv5, p1, p2, p3⟩ := hnew.out
          exact ⟨j + 1, o5, dv5, rfl, rfl, ⟨by omega, by omega⟩, p1, p2, p3⟩
        case measure => simp [intOf]; omega
      · have m3 : decide (0 < (p : Int)) = false := decide_eq_false (by omega)
        have hnew : Hid (∃ ops4 dv4, (g.ops ≤ ops4 ∧ ops4 ≤ g.ops + 300 + ((j + 1) - 6 : Nat)) ∧ Sto wr lw d s (svG g i tv3 ops4 dv4 (clrF (putF g.zs a (encS (g.cnt + 1) tx) (encS (g.cnt + 1) tx).length) 6 (j + 1))) ∧ Cw lw w wr) := Lib.hid (by
          obtain ⟨hop4, hS4, hC4⟩ := HW.out
          have hz : clrF (putF g.zs a (encS (g.cnt + 1) tx) (encS (g.cnt + 1) tx).length) 6 j j = [] := List.length_eq_zero_iff.1 (by have := Hp.out; omega)
          exact ⟨ops4, dv4, by omega, by rw [clrF_same hj6 hz]; exact hS4, hC4⟩)
        clear HR HP2 HW
        go_wp2_with fail
        go_roundw
        case rel =>
          obtain ⟨o5, dv5, p1, p2, p3⟩ := hnew.out
          exact ⟨j + 1, o5, dv5, rfl, rfl, ⟨by omega, by omega⟩, p1, p2, p3⟩
        case measure => simp [intOf]; omega
    · have hje : j = 8 := by omega
      subst hje
      have s7 := cell_is hS4.store 7 rfl
      have s8 := cell_is hS4.store 8 rfl
      have u7 := unfrozen hS4.store 7
      have u8 := unfrozen hS4.store 8
      have HW := Lib.hid (And.intro hop4 (And.intro hS4 hC4))
      have y1 := heap_set (heap_set hS4.store 7 (.int .i64 0) rfl) 8 (.int .i64 0) rfl
      have kz : Chg [d.P] wr ((wr.setCell ⟨d.P, 7, none⟩ (.int .i64 0)).setCell ⟨d.P, 8, none⟩ (.int .i64 0)) := (Chg.set _ _ _ _).then (Chg.set _ _ _ _)
      have HY := Lib.hid (And.intro y1 kz)
      clear hop4 hS4 hC4 q3 HX3 y1 kz
      go_wp2_with fail
      generalize (wr.setCell ⟨d.P, 7, none⟩ (.int .i64 0)).setCell ⟨d.P, 8, none⟩ (.int .i64 0) = w6 at *
      go_ret
      obtain ⟨hop4, hS4, hC4⟩ := HW.out
      obtain ⟨y1, kz⟩ := HY.out
      have tp : Tp wr [d.P] [72] := fun x hx => by
        rw [List.mem_singleton] at hx
        subst hx
        exact ⟨_, _, hS4.store, by simp⟩
      have hbn := hS4.bnd
      refine ⟨rfl, tv3, ops4, dv4, ⟨hop4.1, by have := hop4.2; omega⟩, ⟨y1, kz.heap hS4.slot ((tp.av (ts' := [113]) (by decide)).ne hS4.slot (by simp)), hS4.text.keep kz (tp.av (by decide)), hS4.dev.keep kz (tp.av (by decide)), hS4.mx.keepA kz (tp.av (by decide)) (tp.map hS4.mx.ver.m) (tp.map hS4.mx.book.2) (tp.map hS4.mx.map), hS4.ap, hS4.keys, hS4.bnd, hS4.bndZ, Nat.le_trans hS4.slo kz.size, hS4.dlo⟩, hC4.trans (Cw.of_tp kz tp (by decide) (fun x hx => by rw [List.mem_singleton] at hx; omega))⟩
end Go.Proofs.YtnelakpdmjfolaaGreat
namespace Go.Proofs.YtnelakpdmjfolaaGreat
open Go.RowKit Go.Lib

set_option maxRecDepth 100000 in
set_option maxHeartbeats 1000000 in
theorem low_none (w : World) {B rb : Nat} {bl t : Int} (h : BookAt w B rb bl []) : Calls Tryz.prog 100 #[.pointer (some ⟨B, 0, none⟩), .int .i64 t] w fun e w' => e = .returned (.int .i64 t) ∧ Chg [] w w' := by
  have b2 : w.cell? ⟨B, 2, none⟩ = some (.map (some rb)) := cell_is h.1 2 rfl
  obtain ⟨clock, hm⟩ := h.2.none
  have hr1 := run_range_map (P := Tryz.prog) w 187 3 3 rb #[] clock (by kernel_rfl) hm
  have hn1 : ∀ ty, (Instr.next (.pointer (some ⟨w.heap.size, 0, none⟩)) false ty).run Tryz.prog (w.alloc (.mapIter (some rb) clock #[] clock)) = .ok (.tuple #[.bool false]) (w.alloc (.mapIter (some rb) clock #[] clock)) := by
    intro ty
    rcases run_next_map (P := Tryz.prog) w ty rb clock clock #[] #[] clock hm (by simp) (Nat.le_refl _) with ⟨_, h⟩ | ⟨e, he, _⟩
    · exact h
    · simp [leftOf] at he
  have kI : Chg [] w (w.alloc (.mapIter (some rb) clock #[] clock)) := Chg.alloc w _
  clear h hm
  go_enter Tryz.func100, Tryz.ntmps100
  go_wp2_with fail
  generalize w.alloc (.mapIter (some rb) clock #[] clock) = w3 at *
  generalize w.heap.size = z at *
  clear hr1
  go_loopw [1, 6] (fun a _ wr => a = .int .i64 t ∧ wr = w3) (fun _ _ _ => 0)
  case atStart => exact ⟨rfl, rfl⟩
  case round =>
    obtain ⟨rfl, rfl⟩ := hrel
    go_wp2_with fail
    go_ret
    exact ⟨rfl, kI⟩
/-- what a cleaning leaves. -/
def ClR (w w' : World) (lw : Nat) (d : Ids) (s : Gs) (g : Gd) : Prop :=
  ∃ L' vs', Sto w' lw d { s with Lv := L', vs := vs' } g ∧ Cs lw w w' ∧ Chg [d.rx] w w' ∧ ∀ b, Cut s.last (s.vs b) (vs' b)
set_option maxRecDepth 100000 in
set_option maxHeartbeats 2000000 in
theorem tprune_ok (w : World) {M X rx B rb r : Nat} {s : Gs} (h : Mx w M X rx B rb r s) (hLb : s.Lb = []) (hap : ApL s.Lv) (hk : ∀ p ∈ s.Lv, 0 ≤ p.1 ∧ p.1 < 258) (hlo : s.lo ≤ w.heap.size) :
    Calls Tryz.prog 49 #[.pointer (some ⟨M, 0, none⟩)] w fun e w' => (∃ n : Int, e = .returned (.int .i64 n)) ∧ PrG w w' s.lo X rx s.lastv s.last s.vs := by
  have HG := Lib.hid (tgone_x w h)
  obtain ⟨m0, m1, -, m7⟩ := h.cells
  have hbk := h.book
  rw [hLb] at hbk
  have HL := Lib.hid (low_none w.drew (t := s.last) ⟨hbk.1, hbk.2.keep (Chg.refl [] w).drew (by simp)⟩)
  have HP := Lib.hid (fun wx (k : Chg [] w wx) => prune_ok wx (t := s.last) (h.ver.keep k) hap hk (Nat.le_trans hlo k.size))
  have kd : Chg [] w w.drew := (Chg.refl [] w).drew
  have m0d : w.drew.cell? ⟨M, 0, none⟩ = some (.pointer (some ⟨X, 0, none⟩)) := m0
  have m1d : w.drew.cell? ⟨M, 1, none⟩ = some (.pointer (some ⟨B, 0, none⟩)) := m1
  have m7d : w.drew.cell? ⟨M, 7, none⟩ = some (.int .i64 s.last) := m7
  have hmr := h.mgr
  have hvm := h.ver.m
  clear h hbk
  go_enter Tryz.func49, Tryz.ntmps49
  go_wp2_with fail
  refine HG.out.mono ?_
  rintro e w1 ⟨rfl, rfl⟩
  go_wp2_with fail
  go_region_held3 (fun wx => wx.cell? ⟨M, 0, none⟩ = some (.pointer (some ⟨X, 0, none⟩)) ∧ wx.cell? ⟨M, 1, none⟩ = some (.pointer (some ⟨B, 0, none⟩)) ∧ wx.cell? ⟨M, 7, none⟩ = some (.int .i64 s.last))
    (first
      | (exact ⟨m0, m1, m7⟩)
      | (exact ⟨m0d, m1d, m7d⟩)
      | (exact ⟨k1.cell m0d (by simp), k1.cell m1d (by simp), k1.cell m7d (by simp)⟩)
      | (exact ⟨k2.1.cell (k1.cell m0d (by simp)) hrM, k2.1.cell (k1.cell m1d (by simp)) hrM, k2.1.cell (k1.cell m7d (by simp)) hrM⟩))
    (first
      | (go_at_call 100; refine HL.out.mono ?_; rintro e w2 ⟨rfl, k1⟩)
      | (go_at_call 99; refine (HP.out w2 (kd.then k1)).mono ?_; rintro e w3 ⟨⟨n, rfl⟩, k2⟩; have hrM : M ∉ [rx] := by simpa using (map_cells hvm hmr).symm))
  all_goals
    have HF := Lib.hid (And.intro (kd.then k1) k2)
    clear k1 k2
    go_wp2_with fail
    go_ret
    obtain ⟨q1, q2, q3⟩ := HF.out
    exact ⟨⟨_, rfl⟩, (q1.mono (fun x hx _ => by cases hx)).then q2, q3⟩
set_option maxRecDepth 100000 in
theorem sclean_ok (w : World) {lw : Nat} {d : Ids} {s : Gs} {g : Gd} (h : Sto w lw d s g) (hLb : s.Lb = []) : Calls Tryz.prog 17 #[.pointer (some ⟨d.P, 0, none⟩)] w fun e w' => (∃ n : Int, e = .returned (.int .i64 n)) ∧ ClR w w' lw d s g := by
  have HD := Lib.hid (dead_g w h.store)
  have p5 : w.cell? ⟨d.P, 5, none⟩ = some (.pointer (some ⟨d.M, 0, none⟩)) := cell_is h.store 5 rfl
  have HP := Lib.hid (tprune_ok w h.mx hLb h.ap h.keys h.slo)
  have HS := Lib.hid h
  clear h
  go_enter Tryz.func17, Tryz.ntmps17
  go_wp2_with fail
  refine HD.out.mono ?_
  rintro e w1 ⟨rfl, rfl⟩
  go_wp2_with fail
  refine HP.out.mono ?_
  rintro e w1 ⟨⟨n, rfl⟩, k1, L', vs', hv, ha, hk, hc⟩
  have hF : ClR w w1 lw d s g := by
    have hS := HS.out
    have hm := hS.mx.ver.m
    have av : ∀ ts, Av w [d.rx] ts := fun ts => av_map hm ts
    have ne : ∀ {x : Nat} {cs : Array Value} {t : TypeId}, w.heap[x]? = some (.cells cs t (0, 0)) → x ∉ [d.rx] := fun hh => by simpa using (map_cells hm hh).symm
    refine ⟨L', vs', ⟨k1.heap hS.store (ne hS.store), k1.heap hS.slot (ne hS.slot), hS.text.keep k1 (av _), hS.dev.keep k1 (av _), ⟨k1.heap hS.mx.mgr (ne hS.mx.mgr), hv, ⟨k1.heap hS.mx.book.1 (ne hS.mx.book.1), hS.mx.book.2.keep k1 (by simpa using hS.mx.n1.symm)⟩, hS.mx.map.keep k1 (by simpa using hS.mx.n3), hS.mx.n1, hS.mx.n2, hS.mx.n3⟩, ha, hk, hS.bnd, hS.bndZ, Nat.le_trans hS.slo k1.size, hS.dlo⟩, ⟨[d.rx], k1, fun x hx hlt => ?_⟩, k1, hc⟩
    rw [List.mem_singleton] at hx
    subst hx
    exact ⟨hS.bnd.2.2.2.2.2.1, fun cs t fr hh => absurd rfl (map_cells hm hh)⟩
  have HF := Lib.hid hF
  clear hF k1 hv ha hk hc
  go_wp2_with fail
  go_ret
  exact ⟨⟨n, rfl⟩, HF.out⟩
end Go.Proofs.YtnelakpdmjfolaaGreat
