/- The statement StoreFull: all blocks may be written, and are there behind a checkpoint, a crash and a mount; one more is no block; for every input that can be read. -/
import Derived.Test.YtnelakpdmjfolaaGreatRows
import Derived.ProofKit
import Derived.OpenShut
import Derived.Lib.SlBytesRowKit
import Derived.Lib.SmallJoins
import Derived.Deep.Slices
import Derived.Deep.Fields
import Derived.ChangeMaps5
import Derived.Test.YtnelakpdmjfolaaGreatCb
import Derived.Test.YtnelakpdmjfolaaGreatCm
namespace Go.Proofs.YtnelakpdmjfolaaGreat
open Go.RowKit Go.Lib

/-- where the law's rounds stand: in turn k at block a. -/
def RF (w wr : World) (P N lw k a c : Nat) : Prop := ∃ d s g q j, Rst wr lw d s g q j ∧ (d.P = P ∧ d.N = N) ∧ SlI g ∧ j ≤ 3 * (258 * k + min a 258) + c ∧ (c = 2 → g.pos = 0) ∧ ((0 < k ∨ 0 < a) → 1 ≤ s.last) ∧ (∀ b : Nat, b < 258 → (b < a → q b = datB (b + k)) ∧ (a ≤ b → 1 ≤ k → q b = datB (b + k - 1))) ∧ w.heap.size ≤ lw ∧ Chg [] w wr
theorem RF.keep {w wr wx : World} {P N lw k a c : Nat} (h : RF w wr P N lw k a c) (hc : Chg [] wr wx) : RF w wx P N lw k a c := by
  obtain ⟨d, s, g, q, j, h1, h2, h3, h4, h5, h6, h7, h8, h9⟩ := h
  exact ⟨d, s, g, q, j, h1.keep hc, h2, h3, h4, h5, h6, h7, h8, h9.then hc⟩
theorem RF.turn {w wr : World} {P N lw k a c : Nat} (h : RF w wr P N lw k a c) (ha : 258 ≤ a) (hc : c ≤ 0) : RF w wr P N lw (k + 1) 0 0 := by
  obtain ⟨d, s, g, q, j, h1, h2, h3, h4, h5, h6, h7, h8, h9⟩ := h
  refine ⟨d, s, g, q, j, h1, h2, h3, by omega, fun e => (by cases e), fun _ => h6 (Or.inr (by omega)), fun b hb => ⟨fun e => by omega, fun _ _ => ?_⟩, h8, h9⟩
  rw [(h7 b hb).1 (by omega)]
  rfl
theorem data_m (w : World) (i j : Nat) (h1 : 1 ≤ j) (h : i + j ≤ 1000) : Calls Tryz.prog 11 #[.int .i64 (IntKind.i64.wrap (IntKind.i64.wrap ((i : Int) + (j : Int)) - 1))] w fun e w' => ∃ g, e = .returned (.slice (some ⟨g, 0, none⟩) 40 40) ∧ Chg [] w w' ∧ w.heap.size ≤ g ∧ Fo w' g (datB (i + j - 1)) := by
  have := data_ex w (i + j - 1) (by omega)
  rw [show ((i + j - 1 : Nat) : Int) = IntKind.i64.wrap (IntKind.i64.wrap ((i : Int) + (j : Int)) - 1) by rw [IntKind.wrap_i64, IntKind.wrap_i64]; omega] at this
  exact this
set_option maxRecDepth 100000 in
set_option maxHeartbeats 32000000 in
theorem law4_in (w : World) {size turns m0 : Nat} {pv : Value} (hs0 : 1 ≤ size) (hs : size ≤ 16) (ht0 : 1 ≤ turns) (ht : turns ≤ 2) (hp : IntsR w pv m0) (hm0 : m0 ≤ 30) : Calls Tryz.prog 4 #[.int .i64 size, .int .i64 turns, pv] w fun e w' => e = .returned (.bool true) ∧ Chg [] w w' := by
  have HP := Lib.hid (pick_row hp (by omega))
  obtain ⟨pa, pc, rfl, hpc, -⟩ := hp
  clear hpc
  go_enter Tryz.func4, Tryz.ntmps4
  go_wp2_with fail
  refine (least24 w).mono ?_
  rintro e wa ⟨rfl, ka⟩
  have g0 : (wa.alloc (.cells #[.int .i64 8, .int .i64 96] 24)).heap[wa.heap.size]? = some (.cells #[.int .i64 8, .int .i64 96] 24 (0, 0)) := heap_new wa _
  have kg : Chg [] w (wa.alloc (.cells #[.int .i64 8, .int .i64 96] 24)) := ka.then_alloc _
  have HN := Lib.hid (And.intro hs0 (And.intro hs (And.intro ht0 (And.intro ht hm0))))
  clear hs0 hs ht0 ht hm0 ka
  generalize hz0 : wa.heap.size = G at *
  have c0 : (wa.alloc (.cells #[.int .i64 8, .int .i64 96] 24)).cell? ⟨G, 0, none⟩ = some (.int .i64 8) := cell_is g0 0 rfl
  have c1 : (wa.alloc (.cells #[.int .i64 8, .int .i64 96] 24)).cell? ⟨G, 1, none⟩ = some (.int .i64 96) := cell_is g0 1 rfl
  go_wp2_with fail
  generalize wa.alloc (.cells #[.int .i64 8, .int .i64 96] 24) = wg at *
  refine (new_any2 wg).mono ?_
  rintro e w1 ⟨N, A, c, Z, rfl, k1, hD, hO, lN, lA, lZ, hAx, hZn⟩
  have hs1 := k1.size
  have hZl : ∀ z ∈ Z, z < w1.heap.size := fun z hz => by
    obtain ⟨j, hj, e⟩ := List.getElem_of_mem hz
    rw [← e]
    exact heap_lt (hD.2.2.2.2 j hj)
  have HM := Lib.hid (mount_any w1 hD hO hZl (by omega) (by omega))
  have HK := Lib.hid (And.intro kg (And.intro k1 (And.intro hO (And.intro lN (And.intro lZ (And.intro hAx (And.intro hZn hs1)))))))
  clear c0 c1 g0 kg k1 hD hO lN lA lZ hAx hZn hZl hz0 hs1
  go_wp2_with fail
  refine HM.out.mono ?_
  rintro e w2 ⟨P, S, M, X, rx, B, rb, r, rfl, hM, lP, lS, lM, lX, lrx, lB, lrb, lr, n1, n2, n3⟩
  have hRF : RF w w2 P N wg.heap.size 0 0 0 := by
    obtain ⟨kg, k1, hO, lN, lZ, hAx, hZn, hs1⟩ := HK.out
    have k2 := hM.1
    have hX2 : ExAt w2 S N A Z := by
      obtain ⟨cs, hAx⟩ := hAx
      exact ⟨hM.2.2.2.1, ⟨cs, k2.heap hAx (by intro hm; rcases List.mem_cons.1 hm with e | hm; exact hO.1 e; exact hO.2.2 hm)⟩, hZn⟩
    have hs2 := k2.size
    have hSt := hM.sto (lw := wg.heap.size) hX2 n1 n2 n3 (by omega) (fun z hz => by have := lZ z hz; omega) (by omega)
    have kk : Chg [] w w2 := (kg.then k1).trans k2 (fun x hx hlt => by
      have hkg := kg.size
      rcases List.mem_cons.1 hx with e | hx
      · omega
      · have := lZ x hx; omega)
    exact ⟨_, _, _, _, 0, Rst.new hSt (by omega) (by omega), ⟨rfl, rfl⟩, SlI.new _ _, by omega, fun h => (by cases h), fun h => by omega, fun b _ => ⟨fun h => by omega, fun _ h => by omega⟩, kg.size, kk⟩
  have HR := Lib.hid hRF
  have HBl : Hid (Calls Tryz.prog 10 #[.pointer (some ⟨P, 0, none⟩)] w2 fun e w' => e = .returned (.int .i64 258) ∧ Chg [] w2 w') := Lib.hid (by
    obtain ⟨d, s, g, q, j, h1, ⟨h2, -⟩, -⟩ := HR.out
    rw [← h2]
    exact sblocks_sto w2 h1.sto)
  clear hRF hM lP lS lM lX lrx lB lrb lr n1 n2 n3 HK HM
  generalize wg.heap.size = lw at *
  go_wp2_with fail
  refine HBl.out.mono ?_
  rintro e w3 ⟨rfl, k3⟩
  have HR3 := Lib.hid (HR.out.keep k3)
  clear k3 HR HBl
  go_wp2_with fail
  go_loopw [13, 14, 15, 16, 17, 18, 19] (fun kv _ _ _ _ _ _ wr => ∃ k : Nat, kv = .int .i64 k ∧ k ≤ turns ∧ RF w wr P N lw k 0 0) (fun kv _ _ _ _ _ _ _ => turns - (intOf kv).toNat)
  case atStart => exact ⟨0, rfl, Nat.zero_le _, HR3.out⟩
  case round =>
    obtain ⟨k, rfl, hk, hI⟩ := hrel
    rename World => wr
    clear HR3
    by_cases hlt : k < turns
    · have hki : (k : Int) < turns := by omega
      have HI := Lib.hid (And.intro hI hlt)
      clear hI hk hlt
      go_wp2_with fail
      go_loopw [14, 15, 16, 17, 18, 19] (fun av _ _ _ _ _ wr => ∃ a c : Nat, av = .int .i64 a ∧ (c = 0 ∨ c = 2) ∧ RF w wr P N lw k a c ∧ (258 ≤ a → c = 0)) (fun av _ _ _ _ _ wr => 2 * (258 - (intOf av).toNat) + flagP (wr.cell? ⟨P, 7, none⟩))
      case atStart => exact ⟨0, 0, rfl, Or.inl rfl, HI.out.1, fun _ => rfl⟩
      case round =>
        obtain ⟨a, c, rfl, hc, hI2, hac⟩ := hrel
        rename World => wr
        by_cases hat : a < 258
        · have hati : (a : Int) < 258 := by omega
          obtain ⟨d, s, g, q, j, hR, ⟨hdP, hdN⟩, hSl, hj, hpos, hlast, hq, hlw, kk⟩ := hI2
          have hfl : flagP (wr.cell? ⟨P, 7, none⟩) = min 1 g.pos := by
            have h7 : wr.cell? ⟨P, 7, none⟩ = some (.int .i64 g.pos) := by rw [← hdP]; exact cell_is hR.sto.store 7 rfl
            rw [h7]
            simp [flagP, intOf]
          have hk2 : k < 2 := by have := HI.out.2; have := HN.out.2.2.2.1; omega
          have hcb : c ≤ 2 := by omega
          have hB := rbegin wr hR (by omega)
          rw [hdP] at hB
          have HB := Lib.hid hB
          have HW := Lib.hid (And.intro hSl (And.intro hj (And.intro hpos (And.intro hlast (And.intro hq (And.intro hlw (And.intro kk (And.intro hc (And.intro hfl hk2)))))))))
          have hsl0 : 0 ≤ s.last := hR.pl.last
          clear hB hR hSl hj hpos hlast hq hlw kk hfl hk2 hac hc
          go_wp2_with fail
          refine HB.out.mono ?_
          rintro e w4 ⟨rfl, d', ⟨hdP', hdN'⟩, hO, kp⟩
          have HO := Lib.hid (And.intro hO kp)
          clear hO kp HB
          rw [hdN] at hdN'
          go_wp2_with fail
          go_loopw [17, 18] (fun v xv wr => ∃ x m : Nat, xv = .int .i64 x ∧ x = a + m ∧ m ≤ size ∧ x ≤ 258 ∧ PutsAt wr w4.heap.size v (seqP a k m) ∧ Chg [] w4 wr) (fun _ xv _ => 258 - (intOf xv).toNat)
          case atStart => exact ⟨a, 0, rfl, rfl, Nat.zero_le _, by omega, PutsAt.nil _ _, Chg.refl _ _⟩
          case round =>
            obtain ⟨x, m, rfl, hx, hm, hx8, hPu, kr⟩ := hrel
            rename World => wq
            by_cases hgo : x < 258 ∧ m < size
            · have hx1 : (x : Int) < 258 := by omega
              have hx2 : (x : Int) < (a : Int) + (size : Int) := by omega
              have hsz : (size : Int) ≤ 16 := by have := HN.out.2.1; omega
              obtain ⟨pv, cv, rfl⟩ : ∃ pv cv, u17 = .slice pv m cv := by
                obtain ⟨xs, ho, -⟩ := hPu
                obtain ⟨pv, cv, e, -⟩ := own_form ho
                exact ⟨pv, cv, by rw [e, seqP_length]⟩
              have HG := Lib.hid (And.intro hPu kr)
              have HX := Lib.hid (And.intro hx (And.intro hm (And.intro hx8 hgo)))
              have hdt := data_ij wq x k (by have := HW.out.2.2.2.2.2.2.2.2.2; omega)
              have HDt := Lib.hid hdt
              clear hPu kr hx hm hx8 hgo hdt
              go_wp2_with fail
              refine HDt.out.mono ?_
              rintro e w7 ⟨gd, rfl, k7, lgd, hF⟩
              clear HDt
              have hP7 := HG.out.1.keep0 k7
              obtain ⟨xs, ho, hxs⟩ := id hP7
              rw [seqP_length] at ho
              have hs7 : w4.heap.size ≤ w7.heap.size := by
                have h1 := HG.out.2.size
                have h4 := k7.size
                omega
              have HX2 := Lib.hid (And.intro hP7 (And.intro hxs (And.intro k7 hF)))
              have Hho := Lib.hid ho
              have hj1 : m + 1 ≤ 1000000000 := by have := HX.out.2.2.2; have := HN.out.2.1; omega
              clear hxs k7 hF ho lgd hP7
              go_wp2_with (at_builtin; refine wpList_append_lit rfl (.tmp 100) (.tmp 107) 37 41 rfl ty69 inf92 rfl (by decide) w4.heap.size w7 [.int .i64 x, .slice (some ⟨gd, 0, none⟩) 40 40] 1 rfl (.slice pv m cv) m xs rfl Hho.out hj1 (by decide) hs7 (k := 0) rfl (by simp [Value.oneCell']) rfl 1 rfl ?_; intro v' w8 hap)
              have hown := Hho.out
              have kb : Chg (Value.slice pv m cv).ownBlock.toList w7 w8 := Chg.own hap.2.2 (fun g hg _ => by simp [hg])
              have hP8 : PutsAt w8 w4.heap.size v' (seqP a k (m + 1)) := by
                obtain ⟨hP7, hxs, k7, hF⟩ := HX2.out
                exact hP7.seq hxs (by rw [seqP_length]; exact hown.1) HX.out.1 hap.1 kb hF.bs ⟨_, hF.2⟩
              have k48 : Chg [] w4 w8 := by
                obtain ⟨-, -, k7, -⟩ := HX2.out
                refine (HG.out.2.then k7).trans kb (fun z hz hlt => ?_)
                have := (own_elem hown (show (Value.slice pv m cv).ownBlock = some z by simpa using hz)).1
                omega
              have HE := Lib.hid (And.intro hP8 k48)
              clear hP8 k48 kb hap hown hs7 hj1
              go_wp2_with fail
              go_roundw
              case rel => exact ⟨x + 1, m + 1, by go_num, by have := HX.out.1; omega, by have := HX.out.2.2.2; omega, by have := HX.out.2.2.2; omega, HE.out.1, HE.out.2⟩
              case measure => simp [intOf]; omega
            · have hm1 : 0 < m := by
                have h1 := HN.out.1
                rcases Nat.lt_or_ge 0 m with h | h
                · exact h
                · exact absurd ⟨by omega, by omega⟩ hgo
              have hdone : x = 258 ∨ (x < 258 ∧ m = size) := by omega
              have hsz : (size : Int) ≤ 16 := by have := HN.out.2.1; omega
              have hsz16 : m ≤ 16 := by have := HN.out.2.1; omega
              obtain ⟨E, cp, rfl⟩ : ∃ E cp, u17 = .slice (some ⟨E, 0, none⟩) m cp := by
                obtain ⟨g', cap', gd, cd, e, -⟩ := hPu.get 0 (by rw [seqP_length]; omega)
                exact ⟨g', cap', by rw [e, seqP_length]⟩
              have hOq := HO.out.1.keep kr
              have hrow := hPu
              rw [show m = (seqP a k m).length from (seqP_length a k m).symm] at hrow
              rw [seqP_length a k m] at hrow
              have hpw : PutsW wq E 0 (seqP a k m) := PutsAt.putsW (c := cp) (by rw [seqP_length]; exact hPu)
              have hWr := rwrite wq (cp := cp) hOq hpw (seqP_length a k m) hm1 (seqP_nodup a k m) (seqP_in (by omega)) (by simp; omega)
              rw [hdP'] at hWr
              have HWr := Lib.hid hWr
              have HK := Lib.hid (HO.out.2.trans (Kp.of_chg kr))
              have HX := Lib.hid (And.intro hx (And.intro hm (And.intro hx8 (And.intro hm1 (And.intro hdone hsz16)))))
              clear hWr hOq hrow hPu kr hpw hgo hx hm hx8 hm1 hsz16
              have hcnd : ¬ (x : Int) < 258 ∨ ((x : Int) < 258 ∧ ¬ (x : Int) < (a : Int) + (size : Int)) := by
                have := HX.out.1
                omega
              have HCu : Hid (∀ (u : Bool), u = false → True) := Lib.hid (fun _ _ => trivial)
              clear hdone HCu
              rcases hcnd with hcnd | ⟨hc1, hc2⟩
              all_goals
                go_wp2_with fail
                refine HWr.out.mono ?_
                rintro e w6 ⟨rfl, kp6, L', hO6, hL0, hL1⟩
                have hCo := rcommit w6 (m := m) hO6 hL0 (by simpa using hL1) HX.out.2.2.2.2.2 (by have := HW.out.2.1; have := HW.out.2.2.2.2.2.2.2.2.2; omega)
                rw [hdP'] at hCo
                have HCo := Lib.hid hCo
                have HK6 := Lib.hid (HK.out.trans kp6)
                clear hCo hO6 hL0 hL1 kp6 HWr HK
                go_wp2_with fail
                refine HCo.out.mono ?_
                rintro e w7 ⟨rfl, hWt, kp7⟩
                have hFl := rflush w7 hWt (by have := HW.out.2.1; have := HW.out.2.2.2.2.2.2.2.2.2; omega)
                rw [hdP'] at hFl
                have HFl := Lib.hid hFl
                have HK7 := Lib.hid (HK6.out.trans kp7)
                clear hFl hWt kp7 HCo HK6
                go_wp2_with fail
                refine HFl.out.mono ?_
                rintro e w8 ⟨⟨rfl, s', dv, kk', l', hR8, hlast8⟩ | ⟨rfl, hfull, s', hR8, hlast8⟩, kp8⟩
                · have hCl := rclean w8 hR8
                  rw [hdP'] at hCl
                  have HCl := Lib.hid hCl
                  have HR8 := Lib.hid (And.intro hlast8 (HK7.out.trans kp8))
                  clear hR8 hlast8 kp8 HFl HK7 hCl
                  go_wp2_with fail
                  refine HCl.out.mono ?_
                  rintro e w9 ⟨⟨nn, rfl⟩, ⟨s9, hR9, hl9⟩, kp9⟩
                  have HE := Lib.hid (show RF w w9 P N lw k (a + size) 0 from by
                    obtain ⟨hSl, hj, hpos, hlast, hq, hlw, kk, hc, hfl, hk2⟩ := HW.out
                    obtain ⟨hx, hm, hx8, hm1, hdone, -⟩ := HX.out
                    have kp := HR8.out.2.trans kp9
                    have hl8 := HR8.out.1
                    have hs1 := HN.out.1
                    refine ⟨d', s9, _, _, _, hR9, ⟨hdP', hdN'⟩, hSl.done, by omega, fun h => (by cases h), fun _ => by have := hR9.pl.last; omega, fun b hb => ?_, hlw, Kp.chg0 kk kp hlw⟩
                    rw [putA_seq]
                    refine ⟨fun h1 => ?_, fun h1 h2 => ?_⟩
                    · by_cases h3 : a ≤ b
                      · rw [if_pos ⟨h3, by omega⟩]
                      · rw [if_neg (by omega)]
                        exact (hq b hb).1 (by omega)
                    · rw [if_neg (by omega)]
                      exact (hq b hb).2 (by omega) h2)
                  clear hR9 hl9 kp9 HCl HR8
                  go_wp2_with fail
                  go_roundw
                  case rel => exact ⟨a + size, 0, by go_num, Or.inl rfl, HE.out, fun _ => rfl⟩
                  case measure =>
                    have h1 := HN.out.1
                    have h2 : ∀ o, flagP o ≤ 1 := fun o => by unfold flagP; split <;> omega
                    have h3 := h2 (w9.cell? ⟨P, 7, none⟩)
                    simp only [intOf]
                    omega
                · have hCk := rcheckS w8 hR8 HW.out.1 (by have := HW.out.2.1; have := HW.out.2.2.2.2.2.2.2.2.2; omega)
                  rw [hdP'] at hCk
                  have HCk := Lib.hid hCk
                  have HR8 := Lib.hid (And.intro hlast8 (And.intro hfull (HK7.out.trans kp8)))
                  clear hR8 hlast8 hfull kp8 HFl HK7 hCk
                  go_wp2_with fail
                  refine HCk.out.mono ?_
                  rintro e w9 ⟨rfl, ⟨g9, hR9, hp9, hSl9⟩, kp9⟩
                  have hc0 : c = 0 ∧ 0 < g.pos := by
                    have h1 := HR8.out.2.1
                    have h2 := HX.out.2.2.2.2.2
                    have h3 := HW.out.2.2.1
                    have h4 := HW.out.2.2.2.2.2.2.2.1
                    refine ⟨?_, by omega⟩
                    rcases h4 with h4 | h4
                    · exact h4
                    · have := h3 h4
                      omega
                  have hf9 : flagP (w9.cell? ⟨P, 7, none⟩) = 0 := by
                    have h7 : w9.cell? ⟨P, 7, none⟩ = some (.int .i64 g9.pos) := by rw [← hdP']; exact cell_is hR9.sto.store 7 rfl
                    rw [h7, hp9]
                    rfl
                  have HE := Lib.hid (show RF w w9 P N lw k a 2 from by
                    obtain ⟨hSl, hj, hpos, hlast, hq, hlw, kk, hc, hfl, hk2⟩ := HW.out
                    have kp := HR8.out.2.2.trans kp9
                    have hl8 := HR8.out.1
                    exact ⟨d', s', g9, _, _, hR9, ⟨hdP', hdN'⟩, hSl9, by omega, fun _ => hp9, fun h => by have := hlast h; omega, hq, hlw, Kp.chg0 kk kp hlw⟩)
                  have HC0 := Lib.hid (And.intro hc0 hf9)
                  clear hR9 hp9 hSl9 kp9 HCk HR8 hc0 hf9
                  go_wp2_with fail
                  go_roundw
                  case rel => exact ⟨a, 2, by go_num, Or.inr rfl, HE.out, fun h => by omega⟩
                  case measure =>
                    have h1 := HW.out.2.2.2.2.2.2.2.2.1
                    have h2 := HC0.out
                    simp only [intOf]
                    omega
        · have h258 : ¬ (a : Int) < 258 := by omega
          have HE := Lib.hid (hI2.turn (by omega) (by have := hac (by omega); omega))
          clear hI2 hac hc hat
          go_wp2_with fail
          go_roundw
          case rel => exact ⟨k + 1, by go_num, by have := HI.out.2; omega, HE.out⟩
          case measure => have := HI.out.2; simp [intOf]; omega
    · obtain rfl : k = turns := by omega
      obtain ⟨d, s, g, q, j, hR, ⟨hdP, hdN⟩, hSl, hj, -, hlast, hq, hlw, kk⟩ := hI
      have hk1 : 1 ≤ k := HN.out.2.2.1
      have hk2 : k ≤ 2 := HN.out.2.2.2.1
      have hB := rbegin wr hR (by omega)
      rw [hdP] at hB
      have HB := Lib.hid hB
      have HW := Lib.hid (And.intro hSl (And.intro hj (And.intro (hlast (Or.inl hk1)) (And.intro hq (And.intro hlw (And.intro kk hR.pl.given))))))
      clear hB hR hSl hj hlast hq hlw kk
      go_wp2_with fail
      refine HB.out.mono ?_
      rintro e w4 ⟨rfl, d', ⟨hdP', hdN'⟩, hO, kp⟩
      have HO := Lib.hid (And.intro hO kp)
      clear hO kp HB
      go_wp2_with fail
      refine (data1 w4).mono ?_
      rintro e w6 ⟨gd, rfl, k6, lgd, hF⟩
      have kE : Chg [] w6 (w6.alloc (.cells #[.int .i64 258, .slice (some ⟨gd, 0, none⟩) 40 40] 41)) := Chg.alloc w6 _
      have yE := heap_new w6 (.cells #[.int .i64 258, .slice (some ⟨gd, 0, none⟩) 40 40] 41)
      have hO6 := (HO.out.1.keep k6).keep kE
      have hWr := swrite_out _ (cp := 1) (c := 40) (D := gd) (E := w6.heap.size) hO6.fr hO6.su (cell_is yE 0 rfl) (cell_is yE 1 rfl)
      rw [hdP'] at hWr
      have HWr := Lib.hid hWr
      have HO6 := Lib.hid (And.intro hO6 (HO.out.2.trans (Kp.of_chg (k6.then kE))))
      clear k6 lgd hF kE yE hO6 hWr
      go_wp2_with fail
      refine HWr.out.mono ?_
      rintro e w7 ⟨rfl, k7⟩
      have hCk := rcheck_o w7 (D := fun b => datB (b + k - 1)) (HO6.out.1.keep k7) HW.out.1 (fun b hb => ⟨(HW.out.2.2.2.1 b hb).2 (Nat.zero_le _) hk1, datB_ne _⟩) (by have := HW.out.2.1; omega)
      rw [hdP', hdN', hdN] at hCk
      have HCk := Lib.hid hCk
      have HK7 := Lib.hid (HO6.out.2.trans (Kp.of_chg k7))
      clear k7 hCk HWr HO6 HO
      go_wp2_with fail
      refine HCk.out.mono ?_
      rintro e w8 ⟨rfl, hDv, kp8⟩
      have hk8 : Chg [] w w8 := Kp.chg0 HW.out.2.2.2.2.2.1 (HK7.out.trans kp8) HW.out.2.2.2.2.1
      have HCr := Lib.hid (crash_t w8 hDv (HP.out.keep hk8) (HP.out.keep hk8))
      have HK8 := Lib.hid hk8
      clear hDv kp8 hk8 HK7 HCk
      go_wp2_with fail
      refine HCr.out.mono ?_
      rintro e w9 ⟨N', rfl, k9, hCd⟩
      have HMt := Lib.hid (mount_t w9 hCd (by have := HW.out.2.2.1; omega) (by have := HW.out.2.2.2.2.2.2; have := HW.out.2.1; omega) (fun b => datB_length _))
      have HK9 := Lib.hid (HK8.out.then k9)
      have HS9 := Lib.hid (HK8.out.size)
      clear hCd k9 HCr
      go_wp2_with fail
      refine HMt.out.mono ?_
      rintro e w10 ⟨P', rfl, kp10, hDm⟩
      have HK10 := Lib.hid (Kp.chg0 HK9.out kp10 HS9.out)
      have HDm := Lib.hid (hDm w10 (Chg.refl [] w10))
      clear kp10 hDm HMt HK9 HK8
      go_wp2_with fail
      refine HDm.out.mono ?_
      rintro e w11 ⟨v, rfl, k11, hp11⟩
      obtain ⟨xs, ho, -⟩ := id hp11
      rw [allL_length] at ho
      obtain ⟨pb, cb, rfl, hcb⟩ := own_form ho
      have HK := Lib.hid (HK10.out.then k11)
      have HP11 := Lib.hid hp11
      clear ho k11 hp11 HDm HK10
      go_wp2_with fail
      go_loopw [25] (fun ii wx => ∃ j : Nat, j ≤ 258 ∧ ii = .int .i64 j ∧ Chg [] w11 wx) (fun ii _ => 258 - (intOf ii).toNat)
      case atStart => exact ⟨0, by omega, rfl, Chg.refl _ _⟩
      case round =>
        obtain ⟨i, hi, rfl, kx⟩ := hrel
        by_cases hil : i < 258
        · have hip : i < (allL fun b => datB (b + k - 1)).length := by rw [allL_length]; exact hil
          obtain ⟨g, cap, gd, cd, hv, hcap, d0, d1, hb, -, -⟩ := (HP11.out.keep0 kx).get i hip
          rw [allL_at] at d0 hb
          have hpb : pb = some ⟨g, 0, none⟩ := by injection hv
          subst hpb
          have d0' : wr.cell? ⟨g, i * 2, none⟩ = some (.int .i64 i) := d0
          have d1' : wr.cell? ⟨g, i * 2 + 1, none⟩ = some (.slice (some ⟨gd, 0, none⟩) 40 cd) := d1
          have hb' : Bs wr (some ⟨gd, 0, none⟩) (datB (i + k - 1)) := hb
          have kk : Chg [] wr wr := Chg.refl _ _
          have hh : ∀ wz, Chg [] wr wz → wz.cell? ⟨g, i * 2, none⟩ = some (.int .i64 i) ∧ wz.cell? ⟨g, i * 2 + 1, none⟩ = some (.slice (some ⟨gd, 0, none⟩) 40 cd) := fun wz k => ⟨k.cell d0' (by simp), k.cell d1' (by simp)⟩
          have HH := Lib.hid hh
          have HB := Lib.hid hb'
          have HX := Lib.hid kx
          have hcbi : (258 : Int) ≤ cb := by omega
          have hili : (i : Int) < 258 := by omega
          clear hv hcap d0 d1 hb hb' hh kx
          go_wp2_with fail
          go_region_held3 (fun wz => wz.cell? ⟨g, i * 2, none⟩ = some (.int .i64 i) ∧ wz.cell? ⟨g, i * 2 + 1, none⟩ = some (.slice (some ⟨gd, 0, none⟩) 40 cd))
            (first
              | (exact HH.out _ kk)
              | (exact HH.out _ kk.drew))
            (first
              | (go_at_call 21; refine (bytes_same _ (by first | exact HB.out.chg kk | exact HB.out.chg kk.drew) (by first | exact hF2.bs | exact hF2.bs.chg (Chg.refl [] w12).drew) (datB_length (i + k - 1))).mono ?_; rintro e w13 ⟨rfl, k13⟩; replace kk : Chg [] wr w13 := (by first | exact kk.then k13 | exact kk.drew.then k13))
              | (go_at_call 11; refine (data_m _ i k hk1 (by omega)).mono ?_; rintro e w12 ⟨D2, rfl, k12, lD2, hF2⟩; replace kk : Chg [] wr w12 := (by first | exact kk.then k12 | exact kk.drew.then k12)))
          all_goals
            have HF := Lib.hid (HX.out.then kk)
            clear kk k12 k13 hF2 d0' d1'
            go_wp2_with fail
            go_roundw
            case rel => exact ⟨i + 1, hil, by go_num, HF.out⟩
            case measure => simp [intOf]; omega
        · obtain rfl : i = 258 := by omega
          have HX := Lib.hid (HK.out.then kx)
          clear kx
          go_wp2_with fail
          refine (awake24 wr).mono ?_
          rintro e w14 ⟨rfl, k14⟩
          have HX2 := Lib.hid (HX.out.then k14)
          clear k14
          go_wp2_with fail
          go_ret
          exact ⟨rfl, HX2.out⟩
end Go.Proofs.YtnelakpdmjfolaaGreat
namespace Go.Proofs.YtnelakpdmjfolaaGreat
open Go.ChangeShapes Go.WideShapes Go.ChangeAt Go.RowKit Go.Deep Go.Joins
set_option maxRecDepth 100000

theorem ownk : ownKnob Tryz.prog.godebug = none := by kernel_rfl
/-- what a contract with 'Below' gives of a row's sentence. -/
theorem post_below {H : Type} {enc : TypeId × Value → H} {f : Func} {s : ChangeSpec} {W W' : World} {args : Array Value} {v : Value} {ds gs : List (DataW H)} {before pa pv : List MemPlace} (hb : Below W.heap.size W W')
    (hW : DataW.Whole enc Tryz.prog f.params.toList s.vars false W args.toList ds gs before)
    (hres : DataW.TrodAll enc Tryz.prog W' W.heap.size (fun _ => false) false f.resultTypes.toList (v.resultList f.resultTypes.size) (s.fn H (ds ++ gs)).results [])
    (hargs : DataW.TrodAll enc Tryz.prog W' 0 (fun b => decide (b < W.heap.size)) true f.params.toList args.toList (s.fn H (ds ++ gs)).args pa)
    (hvars : DataW.TrodVars enc Tryz.prog W' (fun b => decide (b < W.heap.size)) s.vars (s.fn H (ds ++ gs)).vars pv) :
    s.post enc Tryz.prog f false true false false W args v W' :=
  ⟨ds, gs, before, [], pa, pv, hW, hres, hargs, hvars, hb.frame _, fun h => by cases h⟩

end Go.Proofs.YtnelakpdmjfolaaGreat
namespace Go.Proofs.YtnelakpdmjfolaaGreat
open Go.ChangeShapes Go.WideShapes Go.ChangeAt Go.RowKit Go.Deep Go.Joins Go.Lib
set_option maxRecDepth 100000
set_option maxHeartbeats 2000000 in
theorem law4_far (w : World) {x y : Int} {m c : Nat} {pa : Option Addr} (h : x < 1 ∨ 16 < x ∨ y < 1 ∨ 2 < y ∨ 30 < m) : Calls Tryz.prog 4 #[.int .i64 x, .int .i64 y, .slice pa m c] w fun e w' => e = .returned (.bool true) ∧ Chg [] w w' := by
  have HA := Lib.hid (awake24 w)
  by_cases h1 : x < 1
  · have d1 : decide (x < 1) = true := decide_eq_true h1
    clear h
    go_enter Tryz.func4, Tryz.ntmps4
    go_wp2_with fail
    refine HA.out.mono ?_
    rintro e w1 ⟨rfl, k⟩
    have HK := Lib.hid k
    clear k
    go_wp2_with fail
    go_ret
    exact ⟨rfl, HK.out⟩
  have d1 : decide (x < 1) = false := decide_eq_false h1
  by_cases h2 : 16 < x
  · have d2 : decide (16 < x) = true := decide_eq_true h2
    clear h
    go_enter Tryz.func4, Tryz.ntmps4
    go_wp2_with fail
    refine HA.out.mono ?_
    rintro e w1 ⟨rfl, k⟩
    have HK := Lib.hid k
    clear k
    go_wp2_with fail
    go_ret
    exact ⟨rfl, HK.out⟩
  have d2 : decide (16 < x) = false := decide_eq_false h2
  by_cases h3 : y < 1
  · have d3 : decide (y < 1) = true := decide_eq_true h3
    clear h
    go_enter Tryz.func4, Tryz.ntmps4
    go_wp2_with fail
    refine HA.out.mono ?_
    rintro e w1 ⟨rfl, k⟩
    have HK := Lib.hid k
    clear k
    go_wp2_with fail
    go_ret
    exact ⟨rfl, HK.out⟩
  have d3 : decide (y < 1) = false := decide_eq_false h3
  by_cases h4 : 2 < y
  · have d4 : decide (2 < y) = true := decide_eq_true h4
    clear h
    go_enter Tryz.func4, Tryz.ntmps4
    go_wp2_with fail
    refine HA.out.mono ?_
    rintro e w1 ⟨rfl, k⟩
    have HK := Lib.hid k
    clear k
    go_wp2_with fail
    go_ret
    exact ⟨rfl, HK.out⟩
  have d4 : decide (2 < y) = false := decide_eq_false h4
  have h5 : (30 : Int) < m := by omega
  clear h
  go_enter Tryz.func4, Tryz.ntmps4
  go_wp2_with fail
  refine HA.out.mono ?_
  rintro e w1 ⟨rfl, k⟩
  have HK := Lib.hid k
  clear k
  go_wp2_with fail
  go_ret
  exact ⟨rfl, HK.out⟩
theorem law4_any (w : World) {x y : Int} {m : Nat} {pv : Value} (hp : IntsR w pv m) : Calls Tryz.prog 4 #[.int .i64 x, .int .i64 y, pv] w fun e w' => e = .returned (.bool true) ∧ Chg [] w w' := by
  by_cases h : x < 1 ∨ 16 < x ∨ y < 1 ∨ 2 < y ∨ 30 < m
  · obtain ⟨pa, c, rfl, -⟩ := hp
    exact law4_far w h
  · obtain ⟨a, rfl⟩ : ∃ k : Nat, x = k := ⟨x.toNat, by omega⟩
    obtain ⟨b, rfl⟩ : ∃ k : Nat, y = k := ⟨y.toNat, by omega⟩
    exact law4_in w (by omega) (by omega) (by omega) (by omega) hp (by omega)
theorem laidOutF : laidOutB Tryz.prog = true := by kernel_rfl
theorem read47 : Tryz.prog.readableRec 47 = true := by kernel_rfl
theorem typesF : 100 < Tryz.prog.types.size := by have h : decide (100 < Tryz.prog.types.size) = true := by kernel_rfl
                                                  exact of_decide_eq_true h
theorem cellsF3 : Tryz.prog.cellsOf 3 = 1 := by kernel_rfl
/-- an argument of type []int, opened. -/
theorem open_row {H : Type} {enc : TypeId × Value → H} {W : World} {base : Nat} {v1 : Value} {d1 : DataW H} {p1 : List MemPlace} (hval : Value.okWide Tryz.prog W .any base 47 v1) (h1 : DataW.Trod enc Tryz.prog W 0 (fun _ => true) true 47 v1 d1 p1) : ∃ m, IntsR W v1 m := by
  obtain ⟨a1, len, cap, rfl⟩ := okWide_slice Tryz.underlying47 hval
  obtain ⟨fuel, hf⟩ := h1
  have hf' : DataW.trod enc Tryz.prog W 0 (fun _ => true) true fuel 47 [.slice a1 len cap] = some (d1, p1) := by simpa [Value.cells] using hf
  rcases open_ints Tryz.underlying47 Tryz.underlying3 cellsF3 hf' with ⟨hcs, hx⟩ | ⟨a, len', cap', zs, hcs, _, hl, hm, hz, hx, hcell, hwz⟩
  · simp only [List.cons.injEq, and_true] at hcs
    rw [hcs]
    exact ⟨0, none, 0, rfl, Nat.le_refl _, fun j hj => by omega⟩
  · simp only [List.cons.injEq, and_true] at hcs
    rw [hcs]
    simp only [if_true] at hz
    refine ⟨len', some a, cap', rfl, hl, fun j hj => ?_⟩
    have hc := hcell j (by omega)
    obtain ⟨b, off, sp⟩ := a
    have hsp : sp = none := by
      have := World.cell?_spot (hcell 0 (by omega))
      simpa [Addr.add] using this
    subst hsp
    refine ⟨b, off, zs.getD j 0, rfl, ?_⟩
    have e : (⟨b, off, none⟩ : Addr).add j = ⟨b, off + j, none⟩ := by unfold Addr.add; split <;> simp_all
    rw [← e]
    exact hc
namespace Law4
theorem contract (H : Type) (enc : TypeId × Value → H) (W : World) (base : Nat) (args : Array Value) (ds gs : List (DataW H)) (before : List MemPlace)
    (hval : ∀ (j : Nat) t v, Tryz.f4.params[j]? = some t → args[j]? = some v → Value.okWide Tryz.prog W .any base t v)
    (hW : DataW.Whole enc Tryz.prog Tryz.f4.params.toList Rows.storeFullSpec.vars false W args.toList ds gs before) :
    Calls Tryz.prog 4 args W fun e W' => ∃ v, e = .returned v ∧ Rows.storeFullSpec.post enc Tryz.prog Tryz.f4 false true false false W args v W' := by
  have hW' := hW
  obtain ⟨p, q, hA0, hV, rfl, hfz, hnd⟩ := hW
  have hA : DataW.TrodAll enc Tryz.prog W 0 (fun _ => true) true Tryz.f4.params.toList args.toList ds p := hA0
  rw [Tryz.params4] at hA hval
  obtain ⟨v0, vs0, d0, ds0, p0, q0, hargs, rfl, rfl, h0, r0⟩ := trodAll_cons hA
  obtain ⟨v1, vs1, d1, ds1, p1, q1, rfl, rfl, rfl, h1, r1⟩ := trodAll_cons r0
  obtain ⟨v2, vs2, d2, ds2, p2, q2, rfl, rfl, rfl, h2, r2⟩ := trodAll_cons r1
  obtain ⟨rfl, rfl, rfl⟩ := trodAll_nil r2
  obtain rfl : args = #[v0, v1, v2] := by cases args; simp_all
  obtain ⟨rfl, rfl⟩ := trodVars_none hV
  have hlt : ∀ x ∈ p0 ++ (p1 ++ (p2 ++ [])), x.block < W.heap.size := fun x hx => hW'.lt x (by simpa using hx)
  obtain ⟨a0, rfl, rfl, rfl, w0⟩ := open_int Tryz.underlying3 (hval 0 3 v0 rfl rfl) h0
  obtain ⟨a1, rfl, rfl, rfl, w1⟩ := open_int Tryz.underlying3 (hval 1 3 v1 rfl rfl) h1
  obtain ⟨m2, i2⟩ := open_row (hval 2 47 v2 rfl rfl) h2
  refine (law4_any W i2).mono fun e W' ⟨he, hc⟩ => ?_
  have hb := hc.below0
  subst he
  exact ⟨_, rfl, post_below hb hW' (trodAll_mk1 (shut_bool Tryz.underlying4 _)) (trodAll_cons_mk (shut_int Tryz.underlying3 w0)
    (trodAll_cons_mk (shut_int Tryz.underlying3 w1)
    (trodAll_cons_mk (Below.trod laidOutF read47 (Nat.lt_trans (by decide) typesF) h2 hb (fun x hx => hlt x (by simp [hx]))) trodAll_mk0))) rfl⟩
theorem lifted (os : Os) (started : os.Started) (H : Type) (enc : TypeId × Value → H) :
    ReturnsInHanded {} Tryz.checked os 4 .any (Rows.storeFullSpec.pre6 enc Tryz.prog Tryz.f4 Rows.storeFullRow.domain false) (Rows.storeFullSpec.post enc Tryz.prog Tryz.f4 false true false false) := by
  refine returnsInHanded_of_change (C := Tryz.checked) ownk started (by kernel_rfl) Tryz.func4
    (ChangeSpec.witness6 (enc := enc) (C := Tryz.checked) false ⟨#[], #[.int .i64 0, .int .i64 0, .slice none 0 0], []⟩ 8 (by kernel_rfl) (by kernel_rfl) (by kernel_rfl) (by kernel_rfl)) ?_
  intro W base args ds gs before hval0 hW hcnd _
  exact contract H enc W base args ds gs before hval0 hW
theorem over : Rows.storeFullRow.holds Tryz.pinned (OpenSpec.ofChange Rows.storeFullSpec) :=
  OpenClaim.holds_of_wide 4 Tryz.f4 rfl rfl rfl rfl rfl rfl rfl ⟨rfl, rfl, rfl, rfl, rfl⟩ rfl rfl rfl rfl rfl (by kernel_rfl) Tryz.func4 (by kernel_rfl)
    (of_decide_eq_true (by kernel_rfl)) (by unfold Func.isWrapper; first | (rw [if_pos (by decide +kernel)]; kernel_rfl) | (rw [if_neg (by decide +kernel)]; exact ⟨rfl, rfl⟩))
    (fun os started H enc _ => lifted os started H enc)
theorem said : Rows.StoreFullSaid := over
end Law4
end Go.Proofs.YtnelakpdmjfolaaGreat
