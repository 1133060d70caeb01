/- Walks: the reader's numbers and bytes. -/
import Derived.Test.YtfdkafmomkkapaaDoorD1
namespace Go.Proofs.YtfdkafmomkkapaaDoor
open Go.RowKit Go.Lib

theorem Rd.keep {w w' : World} {g : Nat} {ws : List (List UInt8)} {bad : Bool} (hb : Below w.heap.size w w') (h : Rd w g ws bad) : Rd w' g ws bad := by
  obtain ⟨a, c, hg, hS, hc, hlo⟩ := h
  exact ⟨a, c, below_heap hb hg, hS.below hb (Nat.le_refl _), hc, hlo⟩

/-- the flag of a reader is set. -/
theorem Rd.set {w : World} {g : Nat} {ws : List (List UInt8)} {bad : Bool} (h : Rd w g ws bad) (b : Bool) : Rd (w.setCell ⟨g, 1, none⟩ (.bool b)) g ws b := by
  obtain ⟨a, c, hg, hS, hc, hlo⟩ := h
  refine ⟨a, c, by rw [Lib.heap_setCell_same hg]; rfl, hS.grown (grown_set w g 1 (.bool b)) fun p off ha hne => ?_, hc, hlo⟩
  rcases hS with h0 | ⟨b', off', ha', _, hcc⟩
  · exact absurd h0 hne
  · have : p = b' := by rw [ha] at ha'; injection ha' with h1; injection h1
    subst this
    exact Ss.ne ⟨_, _, _, rfl⟩ hne hcc hg

theorem grown_below {w w' : World} {g B : Nat} (hg : w.grownBy w' (some g)) (hB : B ≤ g) (hB' : B ≤ w.heap.size) : Below B w w' :=
  ⟨hg.os, hg.tape, hg.output, hg.size, fun k hk => hg.block k (by omega) (by simp; omega)⟩

theorem below_grownBy {w w' : World} (h : Below w.heap.size w w') (row : Option Nat) : w.grownBy w' row := ⟨h.os, h.tape, h.output, h.size, fun k hk _ => h.block k hk⟩

/-- what num hands back. -/
def NumS (w : World) (g : Nat) (ws : List (List UInt8)) (bad : Bool) (e : Ending) (w' : World) : Prop :=
  ∃ n : Int, e = .returned (.int .i64 n) ∧ -9223372036854775808 ≤ n ∧ n ≤ 9223372036854775807 ∧ Rd w' g (nextS ws bad) (nextB ws bad || (atoiIn (nextW ws bad)).isNone) ∧
    (∀ v, atoiIn (nextW ws bad) = some v → n = v) ∧ w.grownBy w' (some g)

theorem atoiAll_bd {l : List UInt8} {v : Int} (h : Lib.atoiAll l = .ok v) : -9223372036854775808 ≤ v ∧ v ≤ 9223372036854775807 := by
  unfold Lib.atoiAll at h
  split at h
  · cases h
  · simp only at h
    split at h
    · cases h
    · cases h
    · split at h
      · cases h
      · split at h
        · cases h
        · injection h with h
          split at h <;> omega

/-- the last store of num. -/
theorem numS_end {w w1 w2 : World} {g : Nat} {ws : List (List UInt8)} {bad b : Bool} {n : Int} (hn0 : -9223372036854775808 ≤ n) (hn1 : n ≤ 9223372036854775807) (h1 : w.grownBy w1 (some g)) (h2 : Below w1.heap.size w1 w2) (hR : Rd w2 g (nextS ws bad) (nextB ws bad))
    (hb : b = (nextB ws bad || (atoiIn (nextW ws bad)).isNone)) (hv : ∀ v, atoiIn (nextW ws bad) = some v → n = v) : NumS w g ws bad (.returned (.int .i64 n)) (w2.setCell ⟨g, 1, none⟩ (.bool b)) :=
  ⟨n, rfl, hn0, hn1, hb ▸ hR.set b, hv, grownBy_trans h1 (grownBy_trans (below_grownBy h2 _) (grown_set w2 g 1 _))⟩

theorem atoiIn_bad {l : List UInt8} (h : ∀ v, Lib.atoiAll l ≠ .ok v) : atoiIn l = none := by
  unfold atoiIn
  split
  · rename_i v hv; exact absurd hv (h v)
  · rfl
theorem atoiIn_far {l : List UInt8} {v : Int} (h : Lib.atoiAll l = .ok v) (hr : ¬ (-1099511627776 ≤ v ∧ v ≤ 1099511627776)) : atoiIn l = none := by
  unfold atoiIn; rw [h]; simp only; rw [if_neg hr]
theorem atoiIn_ok {l : List UInt8} {v : Int} (h : Lib.atoiAll l = .ok v) (hr : -1099511627776 ≤ v ∧ v ≤ 1099511627776) : atoiIn l = some v := by
  unfold atoiIn; rw [h]; simp only; rw [if_pos hr]

set_option maxRecDepth 100000 in
set_option maxHeartbeats 1000000 in
theorem rnum_any (g : Nat) (ws : List (List UInt8)) (bad : Bool) (w w0 : World) (hG : Gl w0) (hb0 : Below w0.heap.size w0 w) (hg0 : w0.heap.size ≤ g) (h : Rd w g ws bad) (hm : ws.length ≤ 1000000000) (hx : ∀ x ∈ ws, x.length ≤ 1000000) :
    Calls Tryd.prog 43 #[.pointer (some ⟨g, 0, none⟩)] w (NumS w g ws bad) := by
  have hwl : (⟨(nextW ws bad).toArray⟩ : ByteArray).size ≤ 281474976710656 := by
    show (nextW ws bad).toArray.size ≤ _
    unfold nextW
    split
    · simp
    · cases ws with
      | nil => simp
      | cons x r => have := hx x (by simp); simp; omega
  go_enter Tryd.func43, Tryd.ntmps43
  go_wp2_with fail
  refine (next_any g ws bad w h hm).mono ?_
  rintro e w1 ⟨rfl, hR1, hg1⟩
  have hb1 := hb0.trans (grown_below hg1 hg0 hb0.size)
  go_wp2_with fail
  refine (atoi_any ⟨(nextW ws bad).toArray⟩ w1 hwl (hG.keep hb1)).mono ?_
  rintro e w2 ⟨hb2, hr⟩
  have hR2 := Rd.keep hb2 hR1
  clear hb1 hR1 hb0
  generalize hL : (⟨(nextW ws bad).toArray⟩ : ByteArray).data.toList = L at hr
  have hL' : L = nextW ws bad := by rw [← hL]
  subst hL'
  clear hL hwl hx
  obtain ⟨a, c, hblk, _, _, _⟩ := id hR2
  have e1 : w2.cell? ⟨g, 1, none⟩ = some (.bool (nextB ws bad)) := by rw [cell_of_row _ _ _ _ _ _ hblk]; rfl
  have f1 : w2.frozen? ⟨g, 1, none⟩ = false := frozen_of_row _ _ _ _ _ hblk
  clear hblk
  rcases hr with ⟨v, hv, rfl⟩ | ⟨hno, n, t, p, hn0, hn1, rfl⟩
  · have hbd := atoiAll_bd hv
    by_cases hrg : -1099511627776 ≤ v ∧ v ≤ 1099511627776
    · have hin := atoiIn_ok hv hrg
      have hfin : ∀ w', w' = w2.setCell ⟨g, 1, none⟩ (.bool (nextB ws bad)) → NumS w g ws bad (.returned (.int .i64 v)) w' := by
        rintro w' rfl
        exact numS_end hbd.1 hbd.2 hg1 hb2 hR2 (by rw [hin]; simp) (fun u hu => by rw [hin] at hu; injection hu)
      obtain ⟨r1, r2⟩ := hrg
      have hor : (decide (v < -1099511627776) || decide (1099511627776 < v)) = false := by simp; omega
      have HOR := Lib.hid hor
      clear hin hv hR2 hor
      generalize nextB ws bad = B at *
      cases B
      all_goals
        go_wp2
        go_ret
        first | exact hfin _ rfl | exact hfin _ (by rw [HOR.out])
    · have hin := atoiIn_far hv hrg
      have hfin : ∀ w', w' = w2.setCell ⟨g, 1, none⟩ (.bool true) → NumS w g ws bad (.returned (.int .i64 v)) w' := by
        rintro w' rfl
        exact numS_end hbd.1 hbd.2 hg1 hb2 hR2 (by rw [hin]; simp) (fun u hu => by rw [hin] at hu; cases hu)
      clear hin hv hR2
      generalize nextB ws bad = B at *
      by_cases r1 : v < -1099511627776
      · cases B
        all_goals
          go_wp2
          go_ret
          exact hfin _ rfl
      · have r2 : 1099511627776 < v := by omega
        cases B
        all_goals
          go_wp2
          go_ret
          exact hfin _ rfl
  · have hin := atoiIn_bad hno
    have hfin : ∀ w', w' = w2.setCell ⟨g, 1, none⟩ (.bool true) → NumS w g ws bad (.returned (.int .i64 n)) w' := by
      rintro w' rfl
      exact numS_end hn0 hn1 hg1 hb2 hR2 (by rw [hin]; simp) (fun u hu => by rw [hin] at hu; cases hu)
    clear hin hno hR2
    generalize nextB ws bad = B at *
    cases B
    all_goals
      go_wp2
      go_ret
      exact hfin _ rfl
end Go.Proofs.YtfdkafmomkkapaaDoor
