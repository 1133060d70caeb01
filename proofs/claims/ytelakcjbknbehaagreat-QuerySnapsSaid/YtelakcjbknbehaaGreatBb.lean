/- Lemmas and walks: Walk: QuerySnaps 4, for any arguments. Walk: QuerySnaps 4, for any arguments; the statement. -/
import Derived.Test.YtelakcjbknbehaaGreatAm
import Derived.Test.YtelakcjbknbehaaGreatAo
import Derived.Test.YtelakcjbknbehaaGreatBa
namespace Go.Proofs.YtelakcjbknbehaaGreat
open Go.RowKit Go.Lib

/-- numbers that lie in a block of numbers. -/
def FlT (w : World) (p : Option Addr) (l : List Nat) : Prop := Fl w p l ∧ (l = [] ∨ ∃ g o cs, p = some ⟨g, o, none⟩ ∧ w.heap[g]? = some (.cells cs 33 (0, 0)))
theorem FlT.keep {w w' : World} {p : Option Addr} {l : List Nat} (h : FlT w p l) (hc : Chg [] w w') : FlT w' p l := by
  refine ⟨h.1.keep hc, ?_⟩
  rcases h.2 with e | ⟨g, o, cs, e, hg⟩
  · exact Or.inl e
  · exact Or.inr ⟨g, o, cs, e, hc.heap hg (by simp)⟩
theorem FlT.k33 {w w' : World} {p : Option Addr} {l : List Nat} (h : FlT w p l) (hk : K33 w w') : FlT w' p l := by
  obtain ⟨U, h1, h2⟩ := hk
  rcases h.2 with e | ⟨g, o, cs, e, hg⟩
  · exact ⟨Or.inl e, Or.inl e⟩
  · subst e
    have hn : g ∉ U := fun hm => h2 g hm _ _ hg
    refine ⟨?_, Or.inr ⟨g, o, cs, rfl, h1.heap hg hn⟩⟩
    rcases h.1 with e | ⟨b, o', e, hc⟩
    · exact Or.inl e
    · cases e
      exact Or.inr ⟨g, o, rfl, fun j hj => h1.cell (hc j hj) hn⟩
theorem snr_q (w : World) {lw base T W rw Q V k j f n : Nat} {hr t : Int} {qR : Int → List UInt8} {d : Ids} {s : Gs} {g : Gd} {q : Int → List UInt8} {c : Nat → Nat} (h : SnR w lw base T W rw Q V hr t k qR j d s g q) (hq : CellQ qR c) (hk : k + readsC f n ≤ 60) (hn2 : n ≤ 2000) (hfn : f + n ≤ 1290) :
    Calls Tryz.prog 15 #[.pointer (some ⟨d.P, 0, none⟩), .int .i64 hr, .int .i64 f, .int .i64 n] w fun e w' =>
    ∃ px cp k', e = .returned (.tuple #[.slice px n cp, .int .i64 0]) ∧ n ≤ cp ∧ Kp lw w w' ∧ FlT w' px (cellsC c f n) ∧ SnR w' lw base T W rw Q V hr t k' qR j d s g q ∧ k' ≤ k + readsC f n ∧ ∀ p2 l2, FlT w p2 l2 → FlT w' p2 l2 := by
  rcases Nat.eq_zero_or_pos n with rfl | hn
  · refine (snr_none w h (by omega)).mono ?_
    rintro e w' ⟨rfl, kc⟩
    exact ⟨none, 0, k, rfl, Nat.le_refl _, Kp.of_chg kc, ⟨Or.inl rfl, Or.inl rfl⟩, h.keep kc, Nat.le_add_right _ _, fun p2 l2 hF => hF.keep kc⟩
  · refine (snr_cells w h hq hk hn hn2 hfn).mono ?_
    rintro e w' ⟨gx, o, cp, k', rfl, a1, a2, a3, ⟨cs, a4⟩, a5, a6, a7⟩
    refine ⟨_, cp, k', rfl, a1, a2, ⟨a3, Or.inr ⟨gx, o, cs, rfl, a4⟩⟩, a5, a6, fun p2 l2 hF => hF.k33 a7⟩
theorem SnO.keep {w w' : World} {lw base T W rw Q V k j bk : Nat} {hr t : Int} {qR : Int → List UInt8} {d : Ids} {s : Gs} {g : Gd} {q0 q : Int → List UInt8} {L : List (Int × Value)} (h : SnO w lw base T W rw Q V hr t k qR j bk d s g q0 q L) (hc : Chg [] w w') : SnO w' lw base T W rw Q V hr t k qR j bk d s g q0 q L :=
  ⟨h.su.keep (fr_sto h.idk ((getL_put _ _ _ _).trans (if_pos rfl)) rfl rfl rfl rfl) hc, h.pl, h.lb, h.qn.keep hc (fun x hx => by cases hx), ⟨Nat.le_trans h.lw.1 hc.size, h.lw.2⟩, h.rd.keep (RdK.of_chg hc), h.tab, h.rng, h.ids, h.idk, h.new, h.old⟩
/-- one, two, three, four, five. -/
def fiveF : List Nat := [4607182418800017408, 4611686018427387904, 4613937818241073152, 4616189618054758400, 4617315517961601024]
theorem fiveF_can : ∀ y ∈ fiveF, CanB y ∧ canB y < 18446744073709551616 := fun y hy => by
  have h : CanB y := by
    simp only [fiveF, List.mem_cons, List.not_mem_nil, or_false] at hy
    rcases hy with rfl | rfl | rfl | rfl | rfl <;> exact ⟨by decide, by decide⟩
  exact ⟨h, by rw [canB_self h]; exact h.1⟩
theorem conv5 (m : Nat) (hm : m < 5) : ∃ y, fiveF.getD m 0 = y ∧ (∀ w, (convert 3 33 (.int .i64 ((m : Int) + 1))).run Tryz.prog w = .ok (.float .f64 y) w) ∧ (FloatKind.f64.format.order y y == some .eq) = true := by
  obtain rfl | rfl | rfl | rfl | rfl : m = 0 ∨ m = 1 ∨ m = 2 ∨ m = 3 ∨ m = 4 := by omega
  · exact ⟨_, rfl, fun w => by kernel_rfl, by kernel_rfl⟩
  · exact ⟨_, rfl, fun w => by kernel_rfl, by kernel_rfl⟩
  · exact ⟨_, rfl, fun w => by kernel_rfl, by kernel_rfl⟩
  · exact ⟨_, rfl, fun w => by kernel_rfl, by kernel_rfl⟩
  · exact ⟨_, rfl, fun w => by kernel_rfl, by kernel_rfl⟩
/-- five cells at once. -/
def setR (c : Nat → Nat) (b : Nat) (l : List Nat) : Nat → Nat := fun i => if i / 5 = b then l.getD (i % 5) 0 else c i
theorem CellQ.setR {q : Int → List UInt8} {c : Nat → Nat} (h : CellQ q c) {b : Nat} {l : List Nat} (hl : l.length = 5) (hc : ∀ x ∈ l, CanB x) : CellQ (putQ q (b : Int) (packB l)) (Go.Proofs.YtelakcjbknbehaaGreat.setR c b l) := by
  refine ⟨fun i => ?_, fun a ha => ?_⟩
  · unfold Go.Proofs.YtelakcjbknbehaaGreat.setR
    split
    · rw [List.getD_eq_getElem?_getD, List.getElem?_eq_getElem (by omega)]
      exact hc _ (List.getElem_mem _)
    · exact h.1 i
  · unfold putQ
    by_cases e : a = b
    · subst e
      rw [if_pos rfl]
      congr 1
      apply List.ext_getElem
      · rw [hl, rowC_len]
      · intro i h1 h2
        rw [rowC_get]
        unfold Go.Proofs.YtelakcjbknbehaaGreat.setR
        have e1 : (5 * a + i) / 5 = a := by omega
        have e2 : (5 * a + i) % 5 = i := by omega
        rw [if_pos e1, e2, List.getD_eq_getElem?_getD, List.getElem?_eq_getElem h1]
        rfl
    · rw [if_neg (by omega), h.2 a ha]
      congr 1
      unfold rowC
      apply List.map_congr_left
      intro r hr
      rw [List.mem_range] at hr
      unfold Go.Proofs.YtelakcjbknbehaaGreat.setR
      rw [if_neg (by omega)]
set_option maxRecDepth 100000 in
set_option maxHeartbeats 20000000 in
theorem law4_in (w : World) {pa pb : Option Addr} {N M cp cq a b : Nat} {l m : List (Int × Nat)} (hl : l.length = N) (hm : m.length = M) (hN : N ≤ 60) (hM : M ≤ 60) (hA : ArgX w pa l) (hB : ArgX w pb m) (hx : ∀ x ∈ l, x.2 < 18446744073709551616) (ha : a ≤ 1000) (hb : b ≤ 200) :
    Calls Tryz.prog 4 #[.slice pa N cp, .slice pb M cq, .int .i64 a, .int .i64 b] w fun e w' => e = .returned (.bool true) ∧ Chg [] w w' := by
  have d1 : decide ((N : Int) ≤ 60) = true := decide_eq_true (by omega)
  have d2 : decide ((M : Int) ≤ 60) = true := decide_eq_true (by omega)
  have HS1 := Lib.hid (small_any w (pa := pa) (N := N) (cp := cp))
  have HS2 := Lib.hid (small_any w (pa := pb) (N := M) (cp := cq))
  rw [d1] at HS1
  rw [d2] at HS2
  have HFR := Lib.hid (fresh_any w (pa := pa) (cp := cp) hl hN hA hx)
  have HB := Lib.hid hB
  have HM := Lib.hid (And.intro hm hM)
  have HAB := Lib.hid (And.intro ha hb)
  have c1 : ¬ ((a : Int) < 0) := by omega
  have c2 : ¬ ((b : Int) < 0) := by omega
  have c3 : ¬ ((b : Int) > 200) := by omega
  have c4 : ¬ ((a : Int) > 1000) := by omega
  have hrc : readsC a b ≤ 4 := readsC_le a b (by omega)
  clear d1 d2 hl hm hN hM hA hB hx
  go_enter Tryz.func4, Tryz.ntmps4
  go_wp2_with fail
  refine HS1.out.mono ?_
  rintro e w1 ⟨rfl, rfl⟩
  go_wp2_with fail
  refine HS2.out.mono ?_
  rintro e w1 ⟨rfl, rfl⟩
  go_wp2_with fail
  refine HFR.out.mono ?_
  rintro e w2 ⟨n0, P, G, rfl, hn0, k2, hfo⟩
  obtain ⟨hd, hhd⟩ : ∃ hd : Int, hd = ((n0 + 1 : Nat) : Int) := ⟨_, rfl⟩
  obtain ⟨base, T, W, rw_, Q, V, t, qR, d, s, g, q, j, hdP, hj, hS, hC⟩ := hfo.snr
  rw [← hhd] at hS ⊢
  obtain ⟨c, hc⟩ : ∃ c, c = putC (fun _ => 0) l := ⟨_, rfl⟩
  rw [← hc] at hC
  have HC := Lib.hid hC
  have HQ1 := Lib.hid (snr_q w2 (f := a) (n := b) hS hC (by omega) (by omega) (by omega))
  rw [hdP] at HQ1
  have HDP := Lib.hid hdP
  have hj13 : j ≤ 13 := by omega
  clear HS1 HS2 HFR hfo hS hC hc hhd hdP hj
  go_wp2_with fail
  refine HQ1.out.mono ?_
  rintro e w3 ⟨px, cpx, k3, rfl, hcx, kp3, hF3, hS3, hk3, -⟩
  have kx3 := chg_kp k2 kp3
  have hk4 : k3 ≤ 4 := by omega
  have HL0 := Lib.hid (And.intro kx3 (And.intro hF3 hS3))
  clear HQ1 kp3 hF3 hS3 kx3 k2 hk3
  go_wp2_with fail
  go_loopw [15, 16, 17] (fun i _ _ wr => ∃ ii jj : Nat, i = .int .i64 ii ∧ Hid (ii ≤ M ∧ ii ≤ 10 ∧ jj ≤ 13 + 2 * ii) ∧ (∃ d s g q, d.P = P ∧ SnR wr w.heap.size base T W rw_ Q V hd t k3 qR jj d s g q) ∧ Chg [] w wr ∧ FlT wr px (cellsC c a b)) (fun i _ _ _ => M - (intOf i).toNat)
  case atStart => exact ⟨0, j, rfl, Lib.hid ⟨Nat.zero_le _, Nat.zero_le _, by omega⟩, ⟨d, s, g, q, HDP.out, HL0.out.2.2⟩, HL0.out.1, HL0.out.2.1⟩
  case round =>
    clear HL0
    obtain ⟨ii, jj, rfl, hij, ⟨d, s, g, q, hdP, hS⟩, kr, hF⟩ := hrel
    by_cases hgo : ii < M ∧ ii < 10
    · obtain ⟨hiM, hi10⟩ := hgo
      have hlt1 : (ii : Int) < M := by omega
      have hlt2 : (ii : Int) < 10 := by omega
      have hil : ii < m.length := by have := HM.out.1; omega
      obtain ⟨A, o, hpb, hAl, hAc⟩ : ∃ A o, pb = some ⟨A, o, none⟩ ∧ A < w.heap.size ∧ ClX w A o m := by
        rcases HB.out with e | h
        · rw [e] at hil; simp at hil
        · exact h
      subst hpb
      obtain ⟨x1, hx1⟩ : ∃ x1, x1 = m[ii].1 := ⟨_, rfl⟩
      obtain ⟨hb, hhb⟩ : ∃ hb, hb = s.bl + 1 := ⟨_, rfl⟩
      have hij2 := hij.out
      have HBG := Lib.hid (snr_begin wr hS (by omega))
      rw [hdP, ← hhb] at HBG
      have HHB := Lib.hid hhb
      have HX1 := Lib.hid hx1
      clear hS hhb hx1 hij2
      go_wp2_with fail
      refine HBG.out.mono ?_
      rintro e w4 ⟨rfl, ⟨d', hdP', hO⟩, kp4, kd4⟩
      have kx4 := chg_kp kr kp4
      have hF4 := hF.k33 kd4.k33
      have a0 : w4.cell? ⟨A, o + ii * 2, none⟩ = some (.int .i64 x1) := by rw [HX1.out]; exact kx4.cell (hAc ii hil).1 (by simp)
      have HRD := Lib.hid (round_m w4 x1 258 (by decide) (by decide))
      rw [show ((258 : Nat) : Int) = 258 from rfl] at HRD
      have HBK := Lib.hid (block_ex w4 0 (by decide))
      rw [show ((0 : Nat) : Int) = 0 from rfl] at HBK
      clear HBG kp4 kd4 kr hF
      go_wp2_with fail
      refine HRD.out.mono ?_
      rintro e w5 ⟨r, hr, rfl, rfl⟩
      go_wp2_with fail
      refine HBK.out.mono ?_
      rintro e w5 ⟨gb, rfl, k5, lb5, hfo5⟩
      have kx5 := kx4.then k5
      have hF5 := hF4.keep k5
      have hO5 := hO.keep k5
      have HFo := Lib.hid hfo5
      clear HRD HBK hO hF4 kx4 k5 hfo5 a0
      go_wp2_with fail
      have kp : Chg [] w5 (w5.alloc (.cells #[.int .i64 r, .slice (some ⟨gb, 0, none⟩) 40 40] 50)) := Chg.alloc w5 _
      have p0 := heap_new w5 (.cells #[.int .i64 r, .slice (some ⟨gb, 0, none⟩) 40 40] 50)
      have HW := Lib.hid (sno_write (w5.alloc (.cells #[.int .i64 r, .slice (some ⟨gb, 0, none⟩) 40 40] 50)) (E := w5.heap.size) (eo := 0) (cp := 1) (b := (r : Int)) (l := datB 0) (hO5.keep kp) (cell_is p0 0 rfl) (cell_is p0 1 rfl) ((Bs.row HFo.out.2).chg kp) HFo.out.1 (by omega) (by omega))
      rw [hdP', ← HHB.out] at HW
      have kx6 := kx5.then kp
      have hF6 := hF5.keep kp
      clear hO5 kx5 hF5 kp p0 HFo
      generalize w5.alloc (.cells #[.int .i64 r, .slice (some ⟨gb, 0, none⟩) 40 40] 50) = w6 at *
      refine HW.out.mono ?_
      rintro e w7 ⟨rfl, ⟨L', hO7, hL'⟩, kp7, kd7⟩
      have kx7 := chg_kp kx6 kp7
      have hF7 := hF6.k33 kd7.k33
      have HCm := Lib.hid (sno_commit w7 hO7 hL' (by have := hij.out; omega))
      rw [hdP', ← HHB.out] at HCm
      clear HW hO7 kp7 kd7 kx6 hF6
      go_wp2_with fail
      refine HCm.out.mono ?_
      rintro e w8 ⟨rfl, hW8, kp8, kd8⟩
      have kx8 := chg_kp kx7 kp8
      have hF8 := hF7.k33 kd8.k33
      have HCk := Lib.hid (snw_check w8 hW8 (by have := hij.out; omega))
      rw [hdP'] at HCk
      clear HCm hW8 kp8 kd8 kx7 hF7
      go_wp2_with fail
      refine HCk.out.mono ?_
      rintro e w9 ⟨rfl, ⟨g9, hW9, hg9⟩, kp9, kd9⟩
      have kx9 := chg_kp kx8 kp9
      have hF9 := hF8.k33 kd9.k33
      have HFl := Lib.hid (snw_flush w9 hW9 (by have := hij.out; omega) hg9)
      rw [hdP'] at HFl
      clear HCk hW9 kp9 kd9 kx8 hF8 hg9
      go_wp2_with fail
      refine HFl.out.mono ?_
      rintro e w10 ⟨rfl, ⟨s10, g10, hS10, -⟩, kp10, kd10⟩
      have kx10 := chg_kp kx9 kp10
      have hF10 := hF9.k33 kd10.k33
      have HCl := Lib.hid (snr_clean w10 hS10)
      rw [hdP'] at HCl
      clear HFl hS10 kp10 kd10 kx9 hF9
      go_wp2_with fail
      refine HCl.out.mono ?_
      rintro e w11 ⟨⟨z, rfl⟩, ⟨s11, hS11, -⟩, kp11, kd11⟩
      have kx11 := chg_kp kx10 kp11
      have hF11 := hF10.k33 kd11.k33
      have HFN := Lib.hid (And.intro hS11 (And.intro kx11 hF11))
      have HIJ := Lib.hid (show ii + 1 ≤ M ∧ ii + 1 ≤ 10 ∧ jj + 1 + 1 ≤ 13 + 2 * (ii + 1) by have := hij.out; omega)
      have HDP2 := Lib.hid hdP'
      clear HCl hS11 kp11 kd11 kx10 hF10 kx11 hF11 hij
      go_wp2_with fail
      go_roundw
      case rel => exact ⟨ii + 1, jj + 1 + 1, by go_num, HIJ, ⟨d', s11, g10, _, HDP2.out, HFN.out.1⟩, HFN.out.2.1, HFN.out.2.2⟩
      case measure => simp [intOf]; omega
    · have HQ2 := Lib.hid (snr_q wr (f := a) (n := b) hS HC.out (by omega) (by have := HAB.out; omega) (by have := HAB.out; omega))
      rw [hdP] at HQ2
      clear hS
      by_cases hiM : ii < M
      all_goals
        first
          | (have hlt1 : (ii : Int) < M := by omega
             have hlt2 : ¬ (ii : Int) < 10 := by omega
             go_wp2_with fail)
          | (have hlt1 : ¬ (ii : Int) < M := by omega
             go_wp2_with fail)
        refine HQ2.out.mono ?_
        rintro e w4 ⟨py, cpy, k4, rfl, hcy, kp4, hF4, hS4, hk4', hkeep⟩
        have kx4 := chg_kp kr kp4
        have hFa := hkeep _ _ hF
        have HNS := Lib.hid (nums_same w4 (m := b) (ca := cpx) (cb := cpy) (by omega) (cellsC_len c a b) (cellsC_len c a b) hcx hcy rfl hFa.1 hF4.1)
        have hk8 : k4 ≤ 8 := by omega
        clear HQ2 kp4 hkeep hFa hF4 kr hF hk4'
        go_wp2_with fail
        refine HNS.out.mono ?_
        rintro e w5 ⟨rfl, k5⟩
        have kx5 := kx4.then k5
        have hS5 := hS4.keep k5
        clear HNS kx4 hS4 k5
        by_cases hb0 : b = 0
        · subst hb0
          have HAW := Lib.hid (awake27 w5)
          clear hS5
          go_wp2_with fail
          refine HAW.out.mono ?_
          rintro e w6 ⟨rfl, k6⟩
          go_wp2_with fail
          go_ret
          exact ⟨rfl, kx5.then k6⟩
        · have hb0' : ((b : Int) == 0) = false := beq_false_of_ne (by omega)
          have kp : Chg [] w5 (w5.alloc (.cells #[.float .f64 4607182418800017408, .float .f64 4611686018427387904, .float .f64 4613937818241073152, .float .f64 4616189618054758400, .float .f64 4617315517961601024] 33)) := Chg.alloc w5 _
          have p0 := heap_new w5 (.cells #[.float .f64 4607182418800017408, .float .f64 4611686018427387904, .float .f64 4613937818241073152, .float .f64 4616189618054758400, .float .f64 4617315517961601024] 33)
          have HP := Lib.hid (rpack_any (w5.alloc (.cells #[.float .f64 4607182418800017408, .float .f64 4611686018427387904, .float .f64 4613937818241073152, .float .f64 4616189618054758400, .float .f64 4617315517961601024] 33)) (pa := some ⟨w5.heap.size, 0, none⟩) (m := 5) (c := 5) (l := fiveF) rfl (by decide)
            (Or.inr ⟨_, 0, rfl, fun j hj => by
              match j, hj with
              | 0, _ => exact cell_is p0 0 rfl
              | 1, _ => exact cell_is p0 1 rfl
              | 2, _ => exact cell_is p0 2 rfl
              | 3, _ => exact cell_is p0 3 rfl
              | 4, _ => exact cell_is p0 4 rfl⟩) (fun y hy => (fiveF_can y hy).2))
          have hS6 := hS5.keep kp
          have kx6 := kx5.then kp
          clear hS5 kx5 kp p0
          go_wp2_with fail
          generalize w5.alloc (.cells #[.float .f64 4607182418800017408, .float .f64 4611686018427387904, .float .f64 4613937818241073152, .float .f64 4616189618054758400, .float .f64 4617315517961601024] 33) = w6 at *
          refine HP.out.mono ?_
          rintro e w7 ⟨v7, rfl, k7, -, hv7⟩
          obtain ⟨g7, c7, rfl, hB7, -, hc7, -⟩ := hv7 (by trivial)
          obtain ⟨F, hF⟩ : ∃ F, a / 5 = F := ⟨_, rfl⟩
          have eF : (a : Int) / 5 = (F : Int) := by omega
          have hF258 : F < 258 := by have := HAB.out; omega
          have hS7 := hS6.keep k7
          have kx7 := kx6.then k7
          clear HP hv7 hS6 kx6 k7
          go_wp2_with fail
          try simp only [eF]
          have kp : Chg [] w7 (w7.alloc (.cells #[.int .i64 F, .slice (some ⟨g7, 0, none⟩) 40 c7] 50)) := Chg.alloc w7 _
          have p0 := heap_new w7 (.cells #[.int .i64 F, .slice (some ⟨g7, 0, none⟩) 40 c7] 50)
          have hS8 := hS7.keep kp
          have HW := Lib.hid (swrite_x (w7.alloc (.cells #[.int .i64 F, .slice (some ⟨g7, 0, none⟩) 40 c7] 50)) (E := w7.heap.size) (eo := 0) (cp := 1) (b := (F : Int)) (l := packB fiveF) hS8.fr hS8.su (cell_is p0 0 rfl) (cell_is p0 1 rfl) (hB7.chg kp) (by decide) (by omega) (by omega) (by simp))
          have e1 : (rId d T W rw_ Q V).P = P := hdP
          have e2 : (rPar s hd t).h = hd := rfl
          rw [e1, e2] at HW
          have kx8 := kx7.then kp
          have hfr := hS8.fr
          have hlw := hS8.lw.2
          clear hS7 kx7 kp p0 hB7 hS8
          generalize w7.alloc (.cells #[.int .i64 F, .slice (some ⟨g7, 0, none⟩) 40 c7] 50) = w8 at *
          refine HW.out.mono ?_
          rintro e w9 ⟨v9, rfl, ho9, -, hsu9⟩
          have kx9 := chg_kp kx8 (Kp.of_ow ho9 hlw)
          have hr1 : readsC a 1 = 1 := by unfold readsC; omega
          have HQ3 := Lib.hid (qcells_c w9 (f := a) (n := 1) hfr hsu9 (HC.out.setR (b := F) (l := fiveF) rfl (fun y hy => (fiveF_can y hy).1)) (by omega) (by decide) (by decide) (by have := HAB.out; omega))
          rw [e1, e2, show cellsC (setR c F fiveF) a 1 = [fiveF.getD (a % 5) 0] by
            show [setR c F fiveF (a + 0)] = _
            unfold setR
            rw [Nat.add_zero, if_pos hF]] at HQ3
          clear HW ho9 hsu9 kx8
          go_wp2_with fail
          refine HQ3.out.mono ?_
          rintro e w10 ⟨gz, oz, cz, k10, rfl, hcz, -, ho10, hFz, -, -⟩
          have kx10 := chg_kp kx9 (Kp.of_ow ho10 hlw)
          have z0 := fl_at hFz 0 (by simp)
          simp only [Nat.add_zero, List.getElem_cons_zero] at z0
          obtain ⟨m5, hm5⟩ : ∃ m5, a % 5 = m5 := ⟨_, rfl⟩
          have em : (a : Int) % 5 = (m5 : Int) := by omega
          have em2 : (a : Int).tmod 5 = (m5 : Int) := by rw [Int.tmod_eq_emod_of_nonneg (by omega)]; exact em
          have hm5l : m5 < 5 := by omega
          have HAW := Lib.hid (awake27 w10)
          simp only [hm5] at z0
          clear HQ3 ho10 hFz kx9 hfr
          obtain ⟨y5, hy5, hcv, hqe⟩ := conv5 m5 hm5l
          rw [hy5] at z0
          have hw5 : IntKind.i64.wrap ((m5 : Int) + 1) = (m5 : Int) + 1 := by rw [IntKind.wrap_i64]; omega
          go_wp2_with fail
          refine HAW.out.mono ?_
          rintro e w11 ⟨rfl, k11⟩
          go_wp2_with fail
          go_ret
          exact ⟨rfl, kx10.then k11⟩
end Go.Proofs.YtelakcjbknbehaaGreat
namespace Go.Proofs.YtelakcjbknbehaaGreat
open Go.RowKit Go.Lib

set_option maxRecDepth 100000 in
set_option maxHeartbeats 4000000 in
theorem law4_any (w : World) {pa pb : Option Addr} {N M cp cq : Nat} {l m : List (Int × Nat)} (f n : Int) (hl : l.length = N) (hm : m.length = M) (hA : ArgX w pa l) (hB : ArgX w pb m) (hx : ∀ x ∈ l, x.2 < 18446744073709551616) :
    Calls Tryz.prog 4 #[.slice pa N cp, .slice pb M cq, .int .i64 f, .int .i64 n] w fun e w' => e = .returned (.bool true) ∧ Chg [] w w' := by
  have HS1 := Lib.hid (small_any w (pa := pa) (N := N) (cp := cp))
  have HS2 := Lib.hid (small_any w (pa := pb) (N := M) (cp := cq))
  have HAW := Lib.hid (awake27 w)
  by_cases h1 : N ≤ 60
  rotate_left
  · have d1 : decide ((N : Int) ≤ 60) = false := decide_eq_false (by omega)
    rw [d1] at HS1
    clear hA hB hx
    go_enter Tryz.func4, Tryz.ntmps4
    go_wp2_with fail
    refine HS1.out.mono ?_
    rintro e w1 ⟨rfl, rfl⟩
    go_wp2_with fail
    refine HAW.out.mono ?_
    rintro e w1 ⟨rfl, k1⟩
    go_wp2_with fail
    go_ret
    exact ⟨rfl, k1⟩
  have d1 : decide ((N : Int) ≤ 60) = true := decide_eq_true (by omega)
  rw [d1] at HS1
  clear d1
  by_cases h2 : M ≤ 60
  rotate_left
  · have d1 : decide ((M : Int) ≤ 60) = false := decide_eq_false (by omega)
    rw [d1] at HS2
    clear hA hB hx
    go_enter Tryz.func4, Tryz.ntmps4
    go_wp2_with fail
    refine HS1.out.mono ?_
    rintro e w1 ⟨rfl, rfl⟩
    go_wp2_with fail
    refine HS2.out.mono ?_
    rintro e w1 ⟨rfl, rfl⟩
    go_wp2_with fail
    refine HAW.out.mono ?_
    rintro e w1 ⟨rfl, k1⟩
    go_wp2_with fail
    go_ret
    exact ⟨rfl, k1⟩
  have d1 : decide ((M : Int) ≤ 60) = true := decide_eq_true (by omega)
  rw [d1] at HS2
  clear d1
  by_cases h3 : f < 0
  · clear hA hB hx
    go_enter Tryz.func4, Tryz.ntmps4
    go_wp2_with fail
    refine HS1.out.mono ?_
    rintro e w1 ⟨rfl, rfl⟩
    go_wp2_with fail
    refine HS2.out.mono ?_
    rintro e w1 ⟨rfl, rfl⟩
    go_wp2_with fail
    refine HAW.out.mono ?_
    rintro e w1 ⟨rfl, k1⟩
    go_wp2_with fail
    go_ret
    exact ⟨rfl, k1⟩
  by_cases h4 : n < 0
  · clear hA hB hx
    go_enter Tryz.func4, Tryz.ntmps4
    go_wp2_with fail
    refine HS1.out.mono ?_
    rintro e w1 ⟨rfl, rfl⟩
    go_wp2_with fail
    refine HS2.out.mono ?_
    rintro e w1 ⟨rfl, rfl⟩
    go_wp2_with fail
    refine HAW.out.mono ?_
    rintro e w1 ⟨rfl, k1⟩
    go_wp2_with fail
    go_ret
    exact ⟨rfl, k1⟩
  by_cases h5 : n > 200
  · clear hA hB hx
    go_enter Tryz.func4, Tryz.ntmps4
    go_wp2_with fail
    refine HS1.out.mono ?_
    rintro e w1 ⟨rfl, rfl⟩
    go_wp2_with fail
    refine HS2.out.mono ?_
    rintro e w1 ⟨rfl, rfl⟩
    go_wp2_with fail
    refine HAW.out.mono ?_
    rintro e w1 ⟨rfl, k1⟩
    go_wp2_with fail
    go_ret
    exact ⟨rfl, k1⟩
  by_cases h6 : f > 1000
  · clear hA hB hx
    go_enter Tryz.func4, Tryz.ntmps4
    go_wp2_with fail
    refine HS1.out.mono ?_
    rintro e w1 ⟨rfl, rfl⟩
    go_wp2_with fail
    refine HS2.out.mono ?_
    rintro e w1 ⟨rfl, rfl⟩
    go_wp2_with fail
    refine HAW.out.mono ?_
    rintro e w1 ⟨rfl, k1⟩
    go_wp2_with fail
    go_ret
    exact ⟨rfl, k1⟩
  clear HAW HS1 HS2
  obtain ⟨a, rfl⟩ : ∃ a : Nat, f = a := ⟨f.toNat, by omega⟩
  obtain ⟨b, rfl⟩ : ∃ b : Nat, n = b := ⟨n.toNat, by omega⟩
  exact law4_in w hl hm h1 h2 hA hB hx (by omega) (by omega)
end Go.Proofs.YtelakcjbknbehaaGreat
