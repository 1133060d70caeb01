/- Walks: the reader's bytes. -/
import Derived.Test.YtfdkafmomkkapaaDoorD2
namespace Go.Proofs.YtfdkafmomkkapaaDoor
open Go.RowKit Go.Lib

/-- forty bytes in a block of their own. -/
def Forty (w0 w : World) (v : Value) (d : List UInt8) : Prop :=
  ∃ g, v = .slice (some ⟨g, 0, none⟩) 40 40 ∧ w0.heap.size ≤ g ∧ w.heap[g]? = some (.cells (byteCells d).toArray 5 (0, 0)) ∧ d.length = 40

/-- what data hands back. -/
def DataS (w : World) (g : Nat) (ws : List (List UInt8)) (bad : Bool) (e : Ending) (w' : World) : Prop :=
  ∃ v : Value, e = .returned v ∧ (∃ a m c, v = .slice a m c) ∧ Rd w' g (nextS ws bad) (nextB ws bad || (unbytesT (nextW ws bad)).isNone) ∧
    (∀ d, unbytesT (nextW ws bad) = some d → Forty w w' v d) ∧ w.grownBy w' (some g)

set_option maxRecDepth 100000 in
set_option maxHeartbeats 1000000 in
theorem rdata_any (g : Nat) (ws : List (List UInt8)) (bad : Bool) (w : World) (h : Rd w g ws bad) (hm : ws.length ≤ 1000000000) :
    Calls Tryd.prog 44 #[.pointer (some ⟨g, 0, none⟩)] w (DataS w g ws bad) := by
  have hgw : g < w.heap.size := by obtain ⟨a, c, hg, _, _, _⟩ := h; exact (Array.getElem?_eq_some_iff.1 hg).1
  go_enter Tryd.func44, Tryd.ntmps44
  go_wp2_with fail
  refine (next_any g ws bad w h hm).mono ?_
  rintro e w1 ⟨rfl, hR1, hg1⟩
  go_wp2_with fail
  refine (unbytes_any ⟨(nextW ws bad).toArray⟩ w1).mono ?_
  rintro e w2 ⟨hb2, hr⟩
  have hR2 := Rd.keep hb2 hR1
  generalize hL : (⟨(nextW ws bad).toArray⟩ : ByteArray).data.toList = L at hr
  have hL' : L = nextW ws bad := by rw [← hL]
  subst hL'
  clear hL
  obtain ⟨a, c, hblk, _, _, _⟩ := id hR2
  have e1 : w2.cell? ⟨g, 1, none⟩ = some (.bool (nextB ws bad)) := by rw [cell_of_row _ _ _ _ _ _ hblk]; rfl
  have f1 : w2.frozen? ⟨g, 1, none⟩ = false := frozen_of_row _ _ _ _ _ hblk
  have hsz := hg1.size
  cases hu : unbytesT (nextW ws bad) with
  | none =>
    rw [hu] at hr
    subst hr
    have hfin : ∀ w', w' = w2.setCell ⟨g, 1, none⟩ (.bool true) → DataS w g ws bad (.returned (.slice none 0 0)) w' := by
      rintro w' rfl
      exact ⟨_, rfl, ⟨_, _, _, rfl⟩, by rw [hu]; simpa using hR2.set true, fun d hd => (by rw [hu] at hd; cases hd), grownBy_trans hg1 (grownBy_trans (below_grownBy hb2 _) (grown_set w2 g 1 _))⟩
    clear hu hR1 hR2 hblk hb2 hg1 h
    generalize nextB ws bad = B at *
    cases B
    all_goals
      go_wp2
      go_ret
      exact hfin _ rfl
  | some d =>
    rw [hu] at hr
    obtain ⟨g2, rfl, hg2, hblk2, hd⟩ := hr
    have hfin : ∀ w', w' = w2.setCell ⟨g, 1, none⟩ (.bool (nextB ws bad)) → DataS w g ws bad (.returned (.slice (some ⟨g2, 0, none⟩) 40 40)) w' := by
      rintro w' rfl
      refine ⟨_, rfl, ⟨_, _, _, rfl⟩, by rw [hu]; simpa using hR2.set (nextB ws bad), fun d' hd' => ?_, grownBy_trans hg1 (grownBy_trans (below_grownBy hb2 _) (grown_set w2 g 1 _))⟩
      rw [hu] at hd'
      injection hd' with hd'
      subst hd'
      exact ⟨g2, rfl, by omega, ((grown_set w2 g 1 _).block g2 (Array.getElem?_eq_some_iff.1 hblk2).1 (by simp; omega)).trans hblk2, hd⟩
    clear hu hR1 hR2 hblk hb2 hg1 h hblk2
    generalize nextB ws bad = B at *
    cases B
    all_goals
      go_wp2
      go_ret
      exact hfin _ rfl
end Go.Proofs.YtfdkafmomkkapaaDoor
