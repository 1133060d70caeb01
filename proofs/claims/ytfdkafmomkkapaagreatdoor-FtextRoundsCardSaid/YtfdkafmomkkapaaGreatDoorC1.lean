/- The variables that the walks lean on, and the library's numerals and words. -/
import Derived.Test.YtfdkafmomkkapaaGreatDoorTk2
import Derived.Test.YtfdkafmomkkapaaGreatDoorShelf
import Derived.Shelf.SlSorted.Search
import Derived.Lib.SmallJoins
namespace Go.Proofs.YtfdkafmomkkapaaGreatDoor
open Go.RowKit Go.Lib

/-- the variables as the walks want them. -/
def Gl (w : World) : Prop :=
  Lib.TabIs Tryz.prog w "internal/strconv.uint64pow10" .u64 Lib.pow10Tab ∧ (∃ m : Int, w.cell? ⟨1, 0, none⟩ = some (.int .i64 m)) ∧
  (∃ tp p, w.var? Tryz.prog "strconv.ErrSyntax" = some #[.iface tp p]) ∧ (∃ tp p, w.var? Tryz.prog "strconv.ErrRange" = some #[.iface tp p])

theorem var_keep {P : Program} {w w' : World} {n : String} {cs : Array Value} (h : w.var? P n = some cs) (hb : Below w.heap.size w w') : w'.var? P n = some cs := by
  unfold World.var? at *
  cases hg : P.globalNamed n with
  | none => rw [hg] at h; cases h
  | some g =>
    rw [hg] at h
    simp only [Option.bind_some] at h ⊢
    cases ho : w.heap[g]? with
    | none => rw [ho] at h; cases h
    | some o => rw [below_heap hb ho]; rw [ho] at h; exact h

theorem Gl.keep {w w' : World} (h : Gl w) (hb : Below w.heap.size w w') : Gl w' := by
  obtain ⟨h1, ⟨m, h2⟩, ⟨t3, p3, h3⟩, ⟨t4, p4, h4⟩⟩ := h
  exact ⟨var_keep h1 hb, ⟨m, below_keep hb h2⟩, ⟨t3, p3, var_keep h3 hb⟩, ⟨t4, p4, var_keep h4 hb⟩⟩
theorem Gl.on {w w' : World} (hb : Below w.heap.size w w') (h : Gl w) : Gl w' := h.keep hb
theorem Gl.drew {w : World} (h : Gl w) : Gl w.drew := h
theorem Gl.drewN {w : World} (h : Gl w) (n : Nat) : Gl (w.drewN n) := h

/-- strconv.Itoa. -/
theorem itoa_any (n : Int) (w : World) (h0 : -9223372036854775808 ≤ n) (h1 : n ≤ 9223372036854775807) (hG : Gl w) :
    Calls Tryz.prog 28 #[.int .i64 n] w (StrR w (Lib.itoa n)) :=
  (Tryz.strconv_Itoa n h0 h1 w hG.1).mono fun e w' ⟨he, k, os, hw⟩ => ⟨he, by rw [hw]; exact below_grown_sl _ w k os (Nat.le_refl _)⟩

/-- what Atoi hands back: a number and whether there was an error. -/
def AtoiR (w : World) (l : List UInt8) (e : Ending) (w' : World) : Prop :=
  Below w.heap.size w w' ∧ ((∃ v, Lib.atoiAll l = .ok v ∧ e = .returned (.tuple #[.int .i64 v, .nilIface])) ∨
    ((∀ v, Lib.atoiAll l ≠ .ok v) ∧ ∃ n t p, -9223372036854775808 ≤ n ∧ n ≤ 9223372036854775807 ∧ e = .returned (.tuple #[.int .i64 n, .iface t p])))

/-- strconv.Atoi. -/
theorem atoi_any (s : ByteArray) (w : World) (hs : s.size ≤ 281474976710656) (hG : Gl w) :
    Calls Tryz.prog 36 #[.string s] w (AtoiR w s.data.toList) := by
  obtain ⟨_, _, ⟨t3, p3, h3⟩, ⟨t4, p4, h4⟩⟩ := hG
  cases h : Lib.atoiAll s.data.toList
  case ok v =>
    refine (Tryz.strconv_Atoi_ok s (by omega) v h w).mono ?_
    rintro e w' ⟨he, hw⟩
    refine ⟨?_, Or.inl ⟨v, h, he⟩⟩
    rcases hw with rfl | ⟨t, rfl⟩
    · exact Below.refl _ _
    · exact Joins.below_bytesWorld _ _ _ _ (Nat.le_refl _)
  case range =>
    refine (Tryz.strconv_Atoi_range_var s hs h t4 p4 w h4).mono ?_
    rintro e w' ⟨N, he, _, _, hb⟩
    refine ⟨hb, Or.inr ⟨by simp [h], _, 83, _, ?_, ?_, he⟩⟩
    · unfold Lib.atoiSat; split <;> omega
    · unfold Lib.atoiSat; split <;> omega
  · refine (Tryz.strconv_Atoi_bad_var s hs h t3 p3 w h3).mono ?_
    rintro e w' ⟨N, he, _, _, hb⟩
    exact ⟨hb, Or.inr ⟨by simp [h], 0, 83, _, by omega, by omega, he⟩⟩

end Go.Proofs.YtfdkafmomkkapaaGreatDoor
