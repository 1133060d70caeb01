/- Walks: which word an op begins with. -/
import Derived.Test.YtfdkafmomkkapaaDoorD3
import Derived.Test.YtfdkafmomkkapaaDoorA1
namespace Go.Proofs.YtfdkafmomkkapaaDoor
open Go.RowKit Go.Lib

/-- the place of a word among the kinds'. -/
def kindI (f : List UInt8) : Int := if f = wordL 1 then 0 else if f = wordL 2 then 1 else if f = wordL 3 then 2 else if f = wordL 4 then 3 else if f = wordL 5 then 4 else -1

theorem word_any' (k : Int) (w : World) : Calls Tryd.prog 42 #[.int .i64 k] w fun e w' => e = .returned (.string ⟨(wordL k).toArray⟩) ∧ w' = w :=
  (word_any k w).mono fun _ _ h => ⟨h.1, h.2.symm⟩

set_option maxRecDepth 100000 in
set_option maxHeartbeats 1000000 in
theorem isWord_any (k : Int) (p : Addr) (f : List UInt8) (w : World) (hc : w.cell? p = some (.string ⟨f.toArray⟩)) :
    Calls Tryd.prog 41 #[.int .i64 k, .pointer (some p)] w fun e w' => e = .returned (.bool (wordL k == f)) ∧ ∃ n, w' = w.drewN n := by
  go_enter Tryd.func41, Tryd.ntmps41
  go_wp2
  go_quiet ((go_at_call 42; exact Calls.quiet_of_same (word_any' _ _)))
  go_wp2
  go_ret
  exact ⟨rfl, nq, rfl⟩

set_option maxRecDepth 100000 in
set_option maxHeartbeats 1000000 in
theorem indexFunc_any (b : Nat) (p : Addr) (f : List UInt8) (w : World) (hc : w.cell? p = some (.string ⟨f.toArray⟩)) (hb : w.heap[b]? = some (.cells #[.int .i64 1, .int .i64 2, .int .i64 3, .int .i64 4, .int .i64 5] 3 (0, 0))) :
    Calls Tryd.prog 40 #[.slice (some ⟨b, 0, none⟩) 5 5, .func (.func 41) #[] #[.pointer (some p)]] w fun e w' => e = .returned (.int .i64 (kindI f)) ∧ ∃ n, w' = w.drewN n := by
  have hcell : ∀ (i : Nat) (wr : World) (n : Nat), i < 5 → wr = w.drewN n → wr.cell? ⟨b, i, none⟩ = some (.int .i64 ((i : Int) + 1)) := by
    rintro i wr n hi rfl
    show w.cell? _ = _
    rw [cell_of_row _ _ _ _ _ _ hb]
    match i, hi with
    | 0, _ => rfl
    | 1, _ => rfl
    | 2, _ => rfl
    | 3, _ => rfl
    | 4, _ => rfl
  go_enter Tryd.func40, Tryd.ntmps40
  go_wp2
  go_loopw [8] (fun a wr => ∃ (i n : Nat), i ≤ 5 ∧ a = .int .i64 i ∧ wr = w.drewN n ∧ (∀ j : Nat, j < i → (wordL ((j : Int) + 1) == f) = false)) (fun a _ => 5 - (intOf a).toNat)
  case atStart => exact ⟨0, 0, by omega, rfl, rfl, fun j hj => by omega⟩
  case round =>
    obtain ⟨i, n, hi, rfl, rfl, hno⟩ := hrel
    have HN := Lib.hid hno
    clear hno
    by_cases hlt : i < 5
    · have hci := hcell i _ n hlt rfl
      clear hcell
      go_wp2_with fail
      refine (isWord_any _ _ f (w.drewN n) hc).mono ?_
      rintro e w2 ⟨rfl, n2, rfl⟩
      by_cases heq : (wordL ((i : Int) + 1) == f) = true
      · have hk : kindI f = (i : Int) := by
          have h1 : wordL ((i : Int) + 1) = f := by simpa using heq
          have h2 : ∀ j : Nat, j < i → wordL ((j : Int) + 1) ≠ f := fun j hj => by simpa using HN.out j hj
          subst h1
          match i, hlt, h2 with
          | 0, _, _ => rfl
          | 1, _, _ => rfl
          | 2, _, _ => rfl
          | 3, _, _ => rfl
          | 4, _, _ => rfl
        have HK := Lib.hid hk
        clear hk
        go_wp2
        go_ret
        exact ⟨by rw [HK.out]; rfl, n + n2, rfl⟩
      · have hne : (wordL ((i : Int) + 1) == f) = false := by simpa using heq
        clear heq
        go_wp2
        go_roundw
        case rel => exact ⟨i + 1, n + n2, by omega, by go_num, rfl, fun j hj => (by
          rcases Nat.lt_or_ge j i with h1 | h1
          · exact HN.out j h1
          · obtain rfl : j = i := by omega
            exact hne)⟩
        case measure => simp [intOf]; omega
    · obtain rfl : i = 5 := by omega
      have hk : kindI f = -1 := by
        have h2 : ∀ j : Nat, j < 5 → wordL ((j : Int) + 1) ≠ f := fun j hj => by simpa using HN.out j hj
        have q1 := h2 0 (by omega)
        have q2 := h2 1 (by omega)
        have q3 := h2 2 (by omega)
        have q4 := h2 3 (by omega)
        have q5 := h2 4 (by omega)
        unfold kindI
        rw [if_neg (fun e => q1 e.symm), if_neg (fun e => q2 e.symm), if_neg (fun e => q3 e.symm), if_neg (fun e => q4 e.symm), if_neg (fun e => q5 e.symm)]
      have HK := Lib.hid hk
      clear hk
      go_wp2
      go_ret
      exact ⟨by rw [HK.out]; rfl, n, rfl⟩
end Go.Proofs.YtfdkafmomkkapaaDoor
