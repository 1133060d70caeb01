/- Walks: both Parse, their result in one form; puts of an op in memory. -/
import Derived.Test.YtfdkafmomkkapaaDoorG3
import Derived.Test.YtfdkafmomkkapaaDoorE3
import Derived.Test.YtfdkafmomkkapaaDoorF5
import Derived.Test.YtfdkafmomkkapaaDoorH1
import Derived.Test.YtfdkafmomkkapaaDoorH3
import Derived.Test.YtfdkafmomkkapaaDoorA9
namespace Go.Proofs.YtfdkafmomkkapaaDoor
open Go.RowKit Go.Lib

/-- what Parse hands back, in one form. -/
def OutV (w : World) (k h a n : Int) (l : List (Int × List UInt8)) (z : Int) (e : Ending) (w' : World) : Prop :=
  Below w.heap.size w w' ∧ ∃ pa m c, e = .returned (.tuple #[.agg #[.int .i64 k, .int .i64 h, .int .i64 a, .int .i64 n, .slice pa m c], .int .i64 z]) ∧ l.length = m ∧ m ≤ c ∧ Ps w' pa l
theorem outV_of {w w' : World} {r : Option OpD} {e : Ending} (h : ParseR w r e w') {k x a n : Int} {l : List (Int × List UInt8)} {z : Int} (hr : resO r = (k, x, a, n, l)) (hz : codeO r = z) : OutV w k x a n l z e w' := by
  obtain ⟨hb, h⟩ := h
  refine ⟨hb, ?_⟩
  cases r with
  | none =>
    cases hr; cases hz
    exact ⟨none, 0, 0, h, rfl, Nat.le_refl _, Or.inl rfl⟩
  | some o =>
    have : o = (k, x, a, n, l) := hr
    subst this; cases hz
    exact h
theorem parse_out (s : ByteArray) (w : World) (hG : Gl w) (hs : s.size ≤ 10000) {k h a n : Int} {l : List (Int × List UInt8)} {z : Int} (hr : resO (parseA s.data.toList) = (k, h, a, n, l)) (hz : codeO (parseA s.data.toList) = z) : Calls Tryd.prog 16 #[.string s] w (OutV w k h a n l z) :=
  (parse_any s w hG (by omega) (by have := words_length s.data.toList; have e : s.data.toList.length = s.size := (by simp); omega)).mono fun _ _ x => outV_of x hr hz
theorem rparse_out (s : ByteArray) (w : World) (hs : s.size ≤ 10000) {k h a n : Int} {l : List (Int × List UInt8)} {z : Int} (hr : resO (parseA s.data.toList) = (k, h, a, n, l)) (hz : codeO (parseA s.data.toList) = z) : Calls Tryd.prog 17 #[.string s] w (OutV w k h a n l z) :=
  (rparse_any s w (by omega) (by have := words_length s.data.toList; have e : s.data.toList.length = s.size := (by simp); omega)).mono fun _ _ x => outV_of (by rw [parseA_eq]; exact x) hr hz

/-- three blocks of five cells each, read cell by cell. -/
def Five (w : World) (b : Nat) (v0 v1 v2 v3 v4 : Value) : Prop := w.heap[b]? = some (.cells #[v0, v1, v2, v3, v4] 24 (0, 0))
theorem Five.cells {w : World} {b : Nat} {v0 v1 v2 v3 v4 : Value} (h : Five w b v0 v1 v2 v3 v4) :
    w.cell? ⟨b, 0, none⟩ = some v0 ∧ w.cell? ⟨b, 1, none⟩ = some v1 ∧ w.cell? ⟨b, 2, none⟩ = some v2 ∧ w.cell? ⟨b, 3, none⟩ = some v3 ∧ w.cell? ⟨b, 4, none⟩ = some v4 := (row_five h).1
theorem Five.on {w w' : World} {b : Nat} {v0 v1 v2 v3 v4 : Value} (hb : Below w.heap.size w w') (h : Five w b v0 v1 v2 v3 v4) : Five w' b v0 v1 v2 v3 v4 := below_heap hb h
theorem same_self (o : OpD) : (o.1 == o.1 && o.2.1 == o.2.1 && o.2.2.1 == o.2.2.1 && o.2.2.2.1 == o.2.2.2.1 && o.2.2.2.2 == o.2.2.2.2) = true := by simp
end Go.Proofs.YtfdkafmomkkapaaDoor
