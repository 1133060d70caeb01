/- The plain law of reading ops: one step at a time. No program in this text. -/
import Derived.Test.YtfdkafmomkkapaaDoorPl3
import Derived.Test.YtfdkafmomkkapaaDoorD4
namespace Go.Proofs.YtfdkafmomkkapaaDoor

theorem nextS_mem (ws : List (List UInt8)) (bad : Bool) (x : List UInt8) (h : x ∈ nextS ws bad) : x ∈ ws := by
  unfold nextS at h
  split at h
  · exact h
  · exact List.mem_of_mem_tail h

theorem parse_cand {s : List UInt8} {f : List UInt8} {rest : List (List UInt8)} (hw : words s = f :: rest) :
    parseA s = match candA f rest with | some o => if textO o = s then some o else none | none => none := by
  unfold parseA
  rw [hw]
  rfl

theorem kind_of {f : List UInt8} {k : Int} (h : kindI f = k) :
    (k = 0 → f = wordL 1) ∧ (k = 1 → f = wordL 2) ∧ (k = 2 → f = wordL 3) ∧ (k = 3 → f = wordL 4) ∧ (k = 4 → f = wordL 5) ∧ (k = -1 → f ≠ wordL 1 ∧ f ≠ wordL 2 ∧ f ≠ wordL 3 ∧ f ≠ wordL 4 ∧ f ≠ wordL 5) := by
  unfold kindI at h
  split at h
  · subst h; simp [*]
  split at h
  · subst h; simp [*]
  split at h
  · subst h; simp [*]
  split at h
  · subst h; simp [*]
  split at h
  · subst h; simp [*]
  · subst h; simp [*]

theorem candA_begin {f : List UInt8} (h : kindI f = 0) {rest : List (List UInt8)} : candA f rest = some (1, 0, 0, 0, []) := by
  obtain rfl := (kind_of h).1 rfl
  rfl
theorem candA_read {f : List UInt8} (h : kindI f = 1) {rest : List (List UInt8)} : candA f rest = candR rest := by
  obtain rfl := (kind_of h).2.1 rfl
  rfl
theorem candA_write {f : List UInt8} (h : kindI f = 2) {rest : List (List UInt8)} : candA f rest = candW rest := by
  obtain rfl := (kind_of h).2.2.1 rfl
  rfl
theorem candA_commit {f : List UInt8} (h : kindI f = 3) {rest : List (List UInt8)} : candA f rest = candC 4 rest := by
  obtain rfl := (kind_of h).2.2.2.1 rfl
  rfl
theorem candA_abort {f : List UInt8} (h : kindI f = 4) {rest : List (List UInt8)} : candA f rest = candC 5 rest := by
  obtain rfl := (kind_of h).2.2.2.2.1 rfl
  rfl
theorem candA_other {f : List UInt8} (h : kindI f = -1) {rest : List (List UInt8)} : candA f rest = none := by
  obtain ⟨h1, h2, h3, h4, h5⟩ := (kind_of h).2.2.2.2.2 rfl
  unfold candA
  rw [if_neg h1, if_neg h2, if_neg h3, if_neg h4, if_neg h5]

theorem candC_num (k : Int) (rest : List (List UInt8)) (n : Int) (b : Bool) (hb : (nextB rest false || (atoiIn (nextW rest false)).isNone) = b) (hv : ∀ v, atoiIn (nextW rest false) = some v → n = v) :
    (b = false → candC k rest = some (k, n, 0, 0, [])) ∧ (b = true → candC k rest = none) := by
  subst hb
  cases rest with
  | nil => simp [nextB, candC]
  | cons x r =>
    have e : nextW (x :: r) false = x := rfl
    rw [e] at *
    cases h : atoiIn x with
    | none => simp [nextB, candC, h]
    | some v => simp [nextB, candC, h, hv v h]

theorem candR_num (rest : List (List UInt8)) (n4 n5 n6 : Int) (b4 b5 b6 : Bool) (ws4 ws5 : List (List UInt8)) (hb4 : (nextB rest false || (atoiIn (nextW rest false)).isNone) = b4) (hw4 : nextS rest false = ws4)
    (hb5 : (nextB ws4 b4 || (atoiIn (nextW ws4 b4)).isNone) = b5) (hw5 : nextS ws4 b4 = ws5) (hb6 : (nextB ws5 b5 || (atoiIn (nextW ws5 b5)).isNone) = b6)
    (hv4 : ∀ v, atoiIn (nextW rest false) = some v → n4 = v) (hv5 : ∀ v, atoiIn (nextW ws4 b4) = some v → n5 = v) (hv6 : ∀ v, atoiIn (nextW ws5 b5) = some v → n6 = v) :
    (b6 = false → candR rest = some (2, n4, n5, n6, [])) ∧ (b6 = true → candR rest = none) := by
  have up5 : b4 = true → b5 = true := fun h => by rw [← hb5, h]; simp [nextB]
  have up6 : b5 = true → b6 = true := fun h => by rw [← hb6, h]; simp [nextB]
  have bad : b6 = true → (b6 = false → candR rest = some (2, n4, n5, n6, [])) := fun h e => by rw [h] at e; cases e
  cases rest with
  | nil =>
    have h4 : b4 = true := by rw [← hb4]; rfl
    exact ⟨bad (up6 (up5 h4)), fun _ => rfl⟩
  | cons x r =>
    have e4 : ws4 = r := hw4.symm
    subst e4
    cases hx : atoiIn x with
    | none =>
      have h4 : b4 = true := by rw [← hb4]; show (_ || (atoiIn x).isNone) = true; rw [hx]; simp
      refine ⟨bad (up6 (up5 h4)), fun _ => ?_⟩
      unfold candR; split
      · rename_i e; cases e; rw [hx]
      · rfl
    | some v4 =>
      have h4 : b4 = false := by rw [← hb4]; show (nextB (x :: ws4) false || (atoiIn x).isNone) = false; rw [hx]; rfl
      subst h4
      have := hv4 v4 hx
      subst this
      cases ws4 with
      | nil =>
        have h5 : b5 = true := by rw [← hb5]; rfl
        exact ⟨bad (up6 h5), fun _ => rfl⟩
      | cons y r =>
        have e5 : ws5 = r := hw5.symm
        subst e5
        cases hy : atoiIn y with
        | none =>
          have h5 : b5 = true := by rw [← hb5]; show (_ || (atoiIn y).isNone) = true; rw [hy]; simp
          refine ⟨bad (up6 h5), fun _ => ?_⟩
          unfold candR; split
          · rename_i e; cases e; rw [hx, hy]
          · rfl
        | some v5 =>
          have h5 : b5 = false := by rw [← hb5]; show (nextB (y :: ws5) false || (atoiIn y).isNone) = false; rw [hy]; rfl
          subst h5
          have := hv5 v5 hy
          subst this
          cases ws5 with
          | nil =>
            have h6 : b6 = true := by rw [← hb6]; rfl
            exact ⟨bad h6, fun _ => rfl⟩
          | cons z r =>
            cases hz : atoiIn z with
            | none =>
              have h6 : b6 = true := by rw [← hb6]; show (_ || (atoiIn z).isNone) = true; rw [hz]; simp
              refine ⟨bad h6, fun _ => ?_⟩
              simp [candR, hx, hy, hz]
            | some v6 =>
              have h6 : b6 = false := by rw [← hb6]; show (nextB (z :: r) false || (atoiIn z).isNone) = false; rw [hz]; rfl
              have := hv6 v6 hz
              subst this
              subst h6
              exact ⟨fun _ => by simp [candR, hx, hy, hz], fun e => by cases e⟩

/-- what a round of the loop over puts reads. -/
theorem loopW_num (a : List UInt8) (r : List (List UInt8)) (puts : List (Int × List UInt8)) (n : Int) (b1 b2 : Bool) (ws1 : List (List UInt8)) (hb1 : (nextB (a :: r) false || (atoiIn (nextW (a :: r) false)).isNone) = b1) (hw1 : nextS (a :: r) false = ws1)
    (hb2 : (nextB ws1 b1 || (unbytesT (nextW ws1 b1)).isNone) = b2) (hv : ∀ v, atoiIn (nextW (a :: r) false) = some v → n = v) :
    (b2 = true → loopW (a :: r) puts = none) ∧ (b2 = false → ∃ d, unbytesT (nextW ws1 b1) = some d ∧ loopW (a :: r) puts = loopW (nextS ws1 b1) (puts ++ [(n, d)])) := by
  have e1 : ws1 = r := hw1.symm
  subst e1
  have up : b1 = true → b2 = true := fun h => by rw [← hb2, h]; simp [nextB]
  cases ws1 with
  | nil =>
    have h2 : b2 = true := by rw [← hb2]; simp [nextB]
    exact ⟨fun _ => rfl, fun e => by rw [h2] at e; cases e⟩
  | cons b r =>
    cases ha : atoiIn a with
    | none =>
      have h1 : b1 = true := by rw [← hb1]; show (_ || (atoiIn a).isNone) = true; rw [ha]; simp
      refine ⟨fun _ => by simp [loopW, ha], fun e => by rw [up h1] at e; cases e⟩
    | some v =>
      have h1 : b1 = false := by rw [← hb1]; show (nextB (a :: b :: r) false || (atoiIn a).isNone) = false; rw [ha]; rfl
      subst h1
      have := hv v ha
      subst this
      cases hu : unbytesT b with
      | none =>
        have h2 : b2 = true := by rw [← hb2]; show (_ || (unbytesT b).isNone) = true; rw [hu]; simp
        exact ⟨fun _ => by simp [loopW, ha, hu], fun e => by rw [h2] at e; cases e⟩
      | some d =>
        have h2 : b2 = false := by rw [← hb2]; show (nextB (b :: r) false || (unbytesT b).isNone) = false; rw [hu]; rfl
        exact ⟨fun e => (by rw [h2] at e; cases e), fun _ => ⟨d, hu, by simp [loopW, ha, hu]; rfl⟩⟩

end Go.Proofs.YtfdkafmomkkapaaDoor
