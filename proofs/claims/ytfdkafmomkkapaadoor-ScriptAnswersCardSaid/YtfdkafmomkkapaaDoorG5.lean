/- The plain functions of answers: their texts. No program in this text. -/
import Derived.Test.YtfdkafmomkkapaaDoorG1
namespace Go.Proofs.YtfdkafmomkkapaaDoor
open Go.Lib

def opWord (k : Int) : List UInt8 := if wordL k = [] then [111, 112] else wordL k
/-- the j-th block's bytes. -/
def piece (d : List UInt8) (j : Nat) : List UInt8 := (d.drop (40 * j)).take 40
/-- the words of the first j blocks. -/
def pieceW (d : List UInt8) (j : Nat) : List (List UInt8) := (List.range j).map fun i => bytesT (piece d i)
def nPc (d : List UInt8) : Nat := (d.length + 39) / 40
/-- the words of an answer. -/
def ansW (k z h t : Int) (d : List UInt8) : List (List UInt8) :=
  if z ≠ 0 then [opWord k, itoa h, [101, 114, 114, 111, 114, 32] ++ itoa z]
  else if k = 1 ∨ k = 4 then [opWord k, itoa h, [111, 107], [97, 116], itoa t]
  else if k = 2 then [opWord k, itoa h, [111, 107]] ++ pieceW d (nPc d)
  else [opWord k, itoa h, [111, 107]]
def ansT (k z h t : Int) (d : List UInt8) : List UInt8 := join (ansW k z h t d) [32]

theorem pieceW_succ (d : List UInt8) (j : Nat) : pieceW d (j + 1) = pieceW d j ++ [bytesT (piece d j)] := by
  unfold pieceW; rw [List.range_succ, List.map_append]; rfl
theorem pieceW_length (d : List UInt8) (j : Nat) : (pieceW d j).length = j := by unfold pieceW; simp
theorem piece_length (d : List UInt8) (j : Nat) : (piece d j).length = min 40 (d.length - 40 * j) := by unfold piece; simp
theorem nPc_end {d : List UInt8} {j : Nat} (h1 : d.length ≤ 40 * j) (h2 : 40 * j < d.length + 40) : j = nPc d := by unfold nPc; omega
theorem opWord_length (k : Int) : (opWord k).length ≤ 6 := by
  unfold opWord wordL
  repeat' split
  all_goals decide
theorem joinTail_length (ws : List (List UInt8)) (n : Nat) (h : ∀ x ∈ ws, x.length ≤ n) : (joinTail [32] ws).length ≤ (n + 1) * ws.length := by
  induction ws with
  | nil => simp [joinTail]
  | cons w r ih =>
    have e : joinTail [32] (w :: r) = 32 :: (w ++ joinTail [32] r) := by simp [joinTail]
    have h0 := h w (by simp)
    have h1 := ih fun x hx => h x (by simp [hx])
    rw [e, List.length_cons, List.length_append, List.length_cons, Nat.mul_succ]
    omega
theorem pieceW_mem {d : List UInt8} {j : Nat} : ∀ x ∈ pieceW d j, x.length ≤ 81 := by
  intro x hx
  unfold pieceW at hx
  obtain ⟨i, _, rfl⟩ := List.mem_map.1 hx
  have := bytesT_length (piece d i)
  have h2 := piece_length d i
  omega
theorem joinTail_snoc (ws : List (List UInt8)) (w : List UInt8) : joinTail [32] (ws ++ [w]) = joinTail [32] ws ++ 32 :: w := by
  induction ws with
  | nil => simp [joinTail]
  | cons v r ih =>
    have e : ∀ v r, joinTail [32] (v :: r) = 32 :: (v ++ joinTail [32] r) := fun v r => by simp [joinTail]
    rw [List.cons_append, e, e, ih]; simp
/-- the text of a read's answer, as far as j blocks. -/
def readT (k h : Int) (d : List UInt8) (j : Nat) : List UInt8 := opWord k ++ 32 :: (itoa h ++ [32, 111, 107] ++ joinTail [32] (pieceW d j))
theorem readT_succ (k h : Int) (d : List UInt8) (j : Nat) : readT k h d (j + 1) = readT k h d j ++ 32 :: bytesT (piece d j) := by
  unfold readT; rw [pieceW_succ, joinTail_snoc]; simp
theorem readT_zero (k h : Int) (d : List UInt8) : readT k h d 0 = opWord k ++ 32 :: (itoa h ++ [32, 111, 107]) := by
  unfold readT pieceW; simp [joinTail]
theorem readT_length (k h : Int) (d : List UInt8) (j : Nat) (h0 : -9223372036854775808 ≤ h) (h1 : h ≤ 9223372036854775807) : (readT k h d j).length ≤ 30 + 82 * j := by
  have a := opWord_length k
  have b := itoa_length h0 h1
  have c := joinTail_length (pieceW d j) 81 pieceW_mem
  rw [pieceW_length] at c
  unfold readT
  simp; omega
theorem ansT_err {k z h t : Int} {d : List UInt8} (hz : z ≠ 0) : ansT k z h t d = opWord k ++ 32 :: (itoa h ++ ([32, 101, 114, 114, 111, 114, 32] ++ itoa z)) := by
  unfold ansT ansW; rw [if_pos hz]; simp [join_cons, joinTail]
theorem ansT_at {k z h t : Int} {d : List UInt8} (hz : z = 0) (hk : k = 1 ∨ k = 4) : ansT k z h t d = opWord k ++ 32 :: (itoa h ++ ([32, 111, 107, 32, 97, 116, 32] ++ itoa t)) := by
  unfold ansT ansW; rw [if_neg (by omega), if_pos hk]; simp [join_cons, joinTail]
theorem ansT_read {k z h t : Int} {d : List UInt8} (hz : z = 0) (hk : k = 2) : ansT k z h t d = readT k h d (nPc d) := by
  unfold ansT ansW readT; rw [if_neg (by omega), if_neg (by omega), if_pos hk]; simp [join_cons, joinTail]
theorem ansT_else {k z h t : Int} {d : List UInt8} (hz : z = 0) (hk : k ≠ 1 ∧ k ≠ 4 ∧ k ≠ 2) : ansT k z h t d = opWord k ++ 32 :: (itoa h ++ [32, 111, 107]) := by
  unfold ansT ansW; rw [if_neg (by omega), if_neg (by omega), if_neg (by omega)]; simp [join_cons, joinTail]
theorem opWord_none {k : Int} (h : wordL k = []) : opWord k = [111, 112] := if_pos h
theorem opWord_some {k : Int} (h : wordL k ≠ []) : opWord k = wordL k := if_neg h
end Go.Proofs.YtfdkafmomkkapaaDoor
