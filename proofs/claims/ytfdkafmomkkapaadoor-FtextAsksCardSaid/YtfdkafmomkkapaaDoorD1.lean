/- Walks: the reader of words. -/
import Derived.Test.YtfdkafmomkkapaaDoorC1
import Derived.Test.YtfdkafmomkkapaaDoorPl3
import Derived.Test.YtfdkafmomkkapaaDoorA4
namespace Go.Proofs.YtfdkafmomkkapaaDoor
open Go.RowKit Go.Lib

/-- block g is a reader of the words ws. -/
def Rd (w : World) (g : Nat) (ws : List (List UInt8)) (bad : Bool) : Prop :=
  ∃ a c, w.heap[g]? = some (.cells #[.slice a ws.length c, .bool bad] 71 (0, 0)) ∧ Ss w a ws ∧ ws.length ≤ c ∧ (ws ≠ [] → ∀ b off, a = some ⟨b, off, none⟩ → b < g)

theorem Ss.ne {w : World} {b off g : Nat} {ws : List (List UInt8)} {sv : Value} {bad : Bool} (hs : ∃ p n c, sv = .slice p n c) (hne : ws ≠ []) (hc : ∀ j (h : j < ws.length), w.cell? ⟨b, off + j, none⟩ = some (.string ⟨ws[j].toArray⟩))
    (hg : w.heap[g]? = some (.cells #[sv, .bool bad] 71 (0, 0))) : b ≠ g := by
  rintro rfl
  obtain ⟨p, n, c, rfl⟩ := hs
  have h0 := hc 0 (List.length_pos_iff.2 hne)
  rw [cell_of_row _ _ _ _ _ _ hg, Nat.add_zero] at h0
  rcases off with _ | _ | n
  · simp at h0
  · simp at h0
  · simp at h0

/-- what next hands back. -/
def NextR (w : World) (g : Nat) (ws : List (List UInt8)) (bad : Bool) (e : Ending) (w' : World) : Prop :=
  e = .returned (.string ⟨(nextW ws bad).toArray⟩) ∧ Rd w' g (nextS ws bad) (nextB ws bad) ∧ w.grownBy w' (some g)

theorem grown_set (w : World) (g i : Nat) (v : Value) : w.grownBy (w.setCell ⟨g, i, none⟩ v) (some g) :=
  ⟨rfl, rfl, rfl, by simp [World.setCell], fun k _ hk => Below.heap_setCell _ _ _ _ (by intro e; exact hk (by rw [e]))⟩

theorem Ss.grown {w w' : World} {g : Nat} (hg : w.grownBy w' (some g)) {a : Option Addr} {ws : List (List UInt8)} (h : Ss w a ws) (hne : ∀ b off, a = some ⟨b, off, none⟩ → ws ≠ [] → b ≠ g) : Ss w' a ws := by
  rcases h with h | ⟨b, off, ha, hlt, hc⟩
  · exact Or.inl h
  · by_cases hw : ws = []
    · exact Or.inl hw
    · exact Or.inr ⟨b, off, ha, Nat.lt_of_lt_of_le hlt hg.size, fun j hj => hg.cell (hc j hj) (by intro e; exact hne b off ha hw (by simpa using e))⟩

set_option maxRecDepth 100000 in
set_option maxHeartbeats 400000 in
theorem next_end (g : Nat) (ws : List (List UInt8)) (bad : Bool) (w : World) (h : Rd w g ws bad) (hb : nextB ws bad = true) :
    Calls Tryd.prog 39 #[.pointer (some ⟨g, 0, none⟩)] w (NextR w g ws bad) := by
  obtain ⟨a, c, hg, hS, hc, hlo⟩ := h
  have e0 : w.cell? ⟨g, 0, none⟩ = some (.slice a ws.length c) := by rw [cell_of_row _ _ _ _ _ _ hg]; rfl
  have e1 : w.cell? ⟨g, 1, none⟩ = some (.bool bad) := by rw [cell_of_row _ _ _ _ _ _ hg]; rfl
  have f1 : w.frozen? ⟨g, 1, none⟩ = false := frozen_of_row _ _ _ _ _ hg
  have hw : nextW ws bad = [] := by unfold nextW; rw [if_pos hb]
  have hs : nextS ws bad = ws := by unfold nextS; rw [if_pos hb]
  have hfin : ∀ w', w' = w.setCell ⟨g, 1, none⟩ (.bool true) → NextR w g ws bad (.returned (.string ⟨#[]⟩)) w' := by
    rintro w' rfl
    have hgr := grown_set w g 1 (.bool true)
    refine ⟨by rw [hw], ⟨a, c, ?_, ?_, ?_, ?_⟩, hgr⟩
    · rw [hs, hb, Lib.heap_setCell_same hg]; rfl
    · rw [hs]; exact hS.grown hgr fun b off ha hne => by
        rcases hS with h0 | ⟨b', off', ha', _, hcc⟩
        · exact absurd h0 hne
        · have : b = b' := by rw [ha] at ha'; injection ha' with h1; injection h1
          subst this
          exact Ss.ne ⟨_, _, _, rfl⟩ hne hcc hg
    · rw [hs]; exact hc
    · rw [hs]; exact hlo
  cases bad with
  | true =>
    clear hw hs hb hS hg
    go_enter Tryd.func39, Tryd.ntmps39
    go_wp2
    go_ret
    exact hfin _ rfl
  | false =>
    have hl : ws.length = 0 := by simpa [nextB] using hb
    have hl2 : ((ws.length : Int) == 0) = true := by rw [hl]; rfl
    rw [hl] at e0
    clear hw hs hb hS hg hl
    go_enter Tryd.func39, Tryd.ntmps39
    go_wp2
    go_ret
    exact hfin _ rfl
set_option maxRecDepth 100000 in
set_option maxHeartbeats 400000 in
theorem next_word (g b off c : Nat) (x : List UInt8) (r : List (List UInt8)) (w : World) (hg : w.heap[g]? = some (.cells #[.slice (some ⟨b, off, none⟩) (x :: r).length c, .bool false] 71 (0, 0)))
    (hlt : b < w.heap.size) (hcc : ∀ j (h : j < (x :: r).length), w.cell? ⟨b, off + j, none⟩ = some (.string ⟨(x :: r)[j].toArray⟩)) (hc : (x :: r).length ≤ c) (hm : (x :: r).length ≤ 1000000000) (hbl : b < g) :
    Calls Tryd.prog 39 #[.pointer (some ⟨g, 0, none⟩)] w (NextR w g (x :: r) false) := by
  have hbg : b ≠ g := Ss.ne ⟨_, _, _, rfl⟩ (by simp) hcc hg
  have e0 : w.cell? ⟨g, 0, none⟩ = some (.slice (some ⟨b, off, none⟩) (r.length + 1) c) := by rw [cell_of_row _ _ _ _ _ _ hg]; rfl
  have e1 : w.cell? ⟨g, 1, none⟩ = some (.bool false) := by rw [cell_of_row _ _ _ _ _ _ hg]; rfl
  have e2 : w.cell? ⟨b, off, none⟩ = some (.string ⟨x.toArray⟩) := by have := hcc 0 (by simp); simpa using this
  have e3 : (w.setCell ⟨g, 1, none⟩ (.bool false)).cell? ⟨b, off, none⟩ = some (.string ⟨x.toArray⟩) := (grown_set w g 1 (.bool false)).cell e2 (by simpa using hbg)
  have f1 : w.frozen? ⟨g, 1, none⟩ = false := frozen_of_row _ _ _ _ _ hg
  have f0 : w.frozen? ⟨g, 0, none⟩ = false := frozen_of_row _ _ _ _ _ hg
  have hc' : r.length + 1 ≤ c := by simpa using hc
  have hm' : r.length + 1 ≤ 1000000000 := by simpa using hm
  have hz : (((r.length : Int) + 1) == 0) = false := by rw [beq_eq_false_iff_ne]; omega
  have hfin : ∀ (a : Option Addr) (k : Nat) (w' : World), (r = [] ∨ a = some ⟨b, off + 1, none⟩) → r.length ≤ k → w' = (w.setCell ⟨g, 1, none⟩ (.bool false)).setCell ⟨g, 0, none⟩ (.slice a r.length k) → NextR w g (x :: r) false (.returned (.string ⟨x.toArray⟩)) w' := by
    rintro a k w' ha hk rfl
    have hgr := grownBy_trans (grown_set w g 1 (.bool false)) (grown_set (w.setCell ⟨g, 1, none⟩ (.bool false)) g 0 (.slice a r.length k))
    refine ⟨rfl, ⟨a, k, ?_, ?_, hk, ?_⟩, hgr⟩
    · rw [Lib.heap_setCell_same (Lib.heap_setCell_same hg _)]; rfl
    · rcases ha with h0 | h0
      · exact Or.inl h0
      · by_cases hr : r = []
        · exact Or.inl hr
        · refine Or.inr ⟨b, off + 1, h0, Nat.lt_of_lt_of_le hlt hgr.size, fun j hj => hgr.cell ?_ (by simpa using hbg)⟩
          have := hcc (j + 1) (by simpa [nextS, nextB] using hj)
          rw [show off + (j + 1) = off + 1 + j by omega] at this
          exact this
    · intro hne b' off' e
      rcases ha with h0 | h0
      · exact absurd h0 hne
      · rw [h0] at e; injection e with e; injection e with e; subst e; exact hbl
  clear hcc hg hc hm e2
  by_cases h1 : c = 1
  · have hr : r = [] := by apply List.eq_nil_of_length_eq_zero; omega
    subst hr h1
    go_enter Tryd.func39, Tryd.ntmps39
    go_wp2
    go_ret
    exact hfin _ _ _ (by simp) (by simp) rfl
  · have h2 : 2 ≤ c := by omega
    go_enter Tryd.func39, Tryd.ntmps39
    go_wp2
    go_ret
    exact hfin _ _ _ (Or.inr rfl) (by omega) rfl

/-- (*reader).next. -/
theorem next_any (g : Nat) (ws : List (List UInt8)) (bad : Bool) (w : World) (h : Rd w g ws bad) (hm : ws.length ≤ 1000000000) :
    Calls Tryd.prog 39 #[.pointer (some ⟨g, 0, none⟩)] w (NextR w g ws bad) := by
  by_cases hb : nextB ws bad = true
  · exact next_end g ws bad w h hb
  · have hbad : bad = false := by cases bad <;> simp [nextB] at hb ⊢
    subst hbad
    cases ws with
    | nil => simp [nextB] at hb
    | cons x r =>
      obtain ⟨a, c, hg, hS, hc, hlo⟩ := h
      rcases hS with h0 | ⟨b, off, rfl, hlt, hcc⟩
      · cases h0
      · exact next_word g b off c x r w hg hlt hcc hc hm (hlo (by simp) _ _ rfl)

end Go.Proofs.YtfdkafmomkkapaaDoor
