/- Walks: a text as a block's bytes. -/
import Derived.Test.YtfdkafmomkkapaaDoorA3
import Derived.Test.YtfdkafmomkkapaaDoorShelf
import Derived.BigQuiet
import Derived.IntWalk
import Derived.WalkSmall
import Derived.Deep.QuietTactic
namespace Go.Proofs.YtfdkafmomkkapaaDoor
open Go.RowKit Go.Lib

theorem index_hex (c : Int) (h0 : 0 ≤ c) (h1 : c < 256) : Lib.indexByte [48, 49, 50, 51, 52, 53, 54, 55, 56, 57, 97, 98, 99, 100, 101, 102] c.toNat.toUInt8 = dig c := by
  have key : ∀ y : Fin 256, Lib.indexByte [48, 49, 50, 51, 52, 53, 54, 55, 56, 57, 97, 98, 99, 100, 101, 102] y.val.toUInt8 = dig y.val := by decide +kernel
  have := key ⟨c.toNat, by omega⟩
  simp only at this
  rw [this]
  congr 1
  omega

/-- the place of a digit among the digits. -/
theorem hexIndex_any (c : Int) (h0 : 0 ≤ c) (h1 : c < 256) (w : World) :
    Calls Tryd.prog 52 #[.string ⟨#[48, 49, 50, 51, 52, 53, 54, 55, 56, 57, 97, 98, 99, 100, 101, 102]⟩, .int .u8 c] w fun e w' => e = .returned (.int .i64 (dig c)) ∧ w' = w :=
  (Tryd.strings_IndexByte _ c w).mono fun e w' ⟨he, hw⟩ => ⟨by rw [he, ← index_hex c h0 h1], hw⟩

def zero40 : Array Value := (byteCells (List.replicate 40 0)).toArray
theorem make40 (w : World) : (Instr.makeSlice 35 (.int .i64 40) (.int .i64 40)).run Tryd.prog w = .ok (.slice (some ⟨w.heap.size, 0, none⟩) 40 40) (w.alloc (.cells zero40 5)) := by kernel_rfl

/-- the bytes' own form of a string's list. -/
theorem toList_data (s : ByteArray) : s.toList = s.data.toList := by
  have h : ∀ (n i : Nat) (r : List UInt8), n = s.size - i → ByteArray.toList.loop s i r = r.reverse ++ s.data.toList.drop i := by
    intro n
    induction n with
    | zero =>
      intro i r hn
      rw [ByteArray.toList.loop, if_neg (by omega), List.drop_eq_nil_of_le (by show s.data.size ≤ i; have : s.size = s.data.size := rfl; omega)]
      simp
    | succ n ih =>
      intro i r hn
      have hlt : i < s.data.toList.length := by show i < s.data.size; have : s.size = s.data.size := rfl; omega
      rw [ByteArray.toList.loop, if_pos (by omega), ih (i + 1) _ (by omega), List.drop_eq_getElem_cons hlt]
      have : s.get! i = s.data.toList[i] := by
        show s.data[i]! = _
        rw [getElem!_pos s.data i (by simpa using hlt)]
        rfl
      simp [this]
  have := h s.size 0 [] (by omega)
  rw [ByteArray.toList, this]
  simp

/-- what Unbytes hands back: r, the forty bytes in a new block. -/
def UnB (w : World) (r : Option (List UInt8)) (e : Ending) (w' : World) : Prop :=
  Below w.heap.size w w' ∧ match r with
    | none => e = .returned (.tuple #[.slice none 0 0, .bool false])
    | some d => ∃ g, e = .returned (.tuple #[.slice (some ⟨g, 0, none⟩) 40 40, .bool true]) ∧ w.heap.size ≤ g ∧ w'.heap[g]? = some (.cells (byteCells d).toArray 5 (0, 0)) ∧ d.length = 40

theorem unB_no {w w' : World} {s : ByteArray} {n : Nat} (hb : Below w.heap.size w w') (h : (!bytesT (fortyD s.data.toList n) == s.toList) = true) : UnB w (unbytesN s.data.toList n) (.returned (.tuple #[.slice none 0 0, .bool false])) w' := by
  have h1 : bytesT (fortyD s.data.toList n) ≠ s.data.toList := by
    rw [toList_data] at h
    simpa using h
  have h2 : unbytesN s.data.toList n = none := by
    unfold unbytesN
    simp [h1]
  rw [h2]
  exact ⟨hb, rfl⟩

theorem unB_yes {w w' : World} {s : ByteArray} {n g : Nat} (hb : Below w.heap.size w w') (hok : (List.range n).all (okD s.data.toList) = true) (h : (!bytesT (fortyD s.data.toList n) == s.toList) = false)
    (hg : w.heap.size ≤ g) (hblk : w'.heap[g]? = some (.cells (byteCells (fortyD s.data.toList n)).toArray 5 (0, 0))) (hl : (fortyD s.data.toList n).length = 40) : UnB w (unbytesN s.data.toList n) (.returned (.tuple #[.slice (some ⟨g, 0, none⟩) 40 40, .bool true])) w' := by
  have h1 : bytesT (fortyD s.data.toList n) = s.data.toList := by
    rw [toList_data] at h
    simpa using h
  have h2 : unbytesN s.data.toList n = some (fortyD s.data.toList n) := by
    unfold unbytesN
    rw [if_pos hok, if_pos h1]
  rw [h2]
  exact ⟨hb, g, rfl, hg, hblk, hl⟩

theorem zero40_fortyD (l : List UInt8) : zero40 = (byteCells (fortyD l 0)).toArray := by rw [fortyD_zero]; rfl

theorem getD_data (s : ByteArray) (i : Nat) (h : i < s.size) : s.data.toList.getD i 0 = s[i] := by
  rw [List.getD_eq_getElem?_getD, List.getElem?_eq_getElem (by simpa using h)]
  rfl

theorem shl_or (a b : Int) (h0 : 0 ≤ a) (h1 : a ≤ 15) (h2 : 0 ≤ b) (h3 : b ≤ 15) : IntKind.u8.wrap (bits BinOp.or IntKind.i64 (a * 16) b) = a * 16 + b := by
  have key : ∀ x y : Fin 16, IntKind.u8.wrap (bits BinOp.or IntKind.i64 ((x.val : Int) * 16) (y.val : Int)) = (x.val : Int) * 16 + (y.val : Int) := by decide +kernel
  have := key ⟨a.toNat, by omega⟩ ⟨b.toNat, by omega⟩
  simp only [Int.toNat_of_nonneg h0, Int.toNat_of_nonneg h2] at this
  exact this

set_option maxRecDepth 100000 in
set_option maxHeartbeats 400000 in
theorem unbytes_go (s : ByteArray) (w : World) (n : Nat) (h45 : (s.toList == [45]) = false) (hn1 : s.size ≤ 2 * n) (hn2 : 2 * n ≤ s.size) (hm : s.size ≤ 80) :
    Calls Tryd.prog 21 #[.string s] w (UnB w (unbytesN s.data.toList n)) := by
  have hmk := make40
  have he : s.size % 2 = 0 := by omega
  go_enter Tryd.func21, Tryd.ntmps21
  go_wp2
  go_loopw [24] (fun t wr => ∃ i : Nat, i ≤ n ∧ t = .int .i64 i ∧ (List.range i).all (okD s.data.toList) = true ∧ wr.heap[w.heap.size]? = some (.cells (byteCells (fortyD s.data.toList i)).toArray 5 (0, 0)) ∧ Below w.heap.size w wr) (fun t _ => n - (intOf t).toNat)
  case atStart => exact ⟨0, Nat.zero_le _, rfl, rfl, by rw [← zero40_fortyD]; exact heap_alloc_new w _, (Below.refl _ _).alloc (Nat.le_refl _) _⟩
  case round =>
    obtain ⟨i, hi, rfl, hok, hblk, hbel⟩ := hrel
    have HOK := Lib.hid hok
    clear hok
    by_cases hlt : i < n
    · have k1 : 2 * i < s.size := by omega
      have k2 : 2 * i + 1 < s.size := by omega
      have HH : hiD s.data.toList i = dig (s[2 * i]).toNat := by unfold hiD; rw [getD_data s _ k1]
      have HL : loD s.data.toList i = dig (s[2 * i + 1]).toNat := by unfold loD; rw [getD_data s _ k2]
      have b1 : (s[2 * i]).toNat < 256 := (s[2 * i]).toNat_lt
      have b2 : (s[2 * i + 1]).toNat < 256 := (s[2 * i + 1]).toNat_lt
      have d1 := dig_le (s[2 * i]).toNat
      have d2 := dig_le (s[2 * i + 1]).toNat
      have e1 : (2 * (i : Int)).toNat = 2 * i := by omega
      have e2 : (2 * (i : Int) + 1).toNat = 2 * i + 1 := by omega
      have w1 : IntKind.i64.wrap (2 * (i : Int)) = 2 * (i : Int) := IntWalk.i64_in _ (by omega)
      have w2 : IntKind.i64.wrap (2 * (i : Int) + 1) = 2 * (i : Int) + 1 := IntWalk.i64_in _ (by omega)
      have l1 : 2 * (i : Int) < (s.size : Int) := by omega
      have l2 : 2 * (i : Int) + 1 < (s.size : Int) := by omega
      have l0 : 0 ≤ 2 * (i : Int) := by omega
      have l00 : 0 ≤ 2 * (i : Int) + 1 := by omega
      have HHH := Lib.hid HH
      have HLL := Lib.hid HL
      clear HH HL
      by_cases hg : 0 ≤ dig (s[2 * i]).toNat ∧ 0 ≤ dig (s[2 * i + 1]).toNat
      · obtain ⟨g1, g2⟩ := hg
        have hcell : wr.cell? ⟨w.heap.size, i, none⟩ = some (.int .u8 ((fortyD s.data.toList i)[i]'(by rw [fortyD_length _ _ (by omega)]; omega)).toNat) := by
          rw [cell_of_row _ _ _ _ _ _ hblk]; exact byteCells_at _ _ _
        have hfr : wr.frozen? ⟨w.heap.size, i, none⟩ = false := frozen_of_row _ _ _ _ _ hblk
        have hor := shl_or (dig (s[2 * i]).toNat) (dig (s[2 * i + 1]).toNat) g1 d1.2 g2 d2.2
        have i40 : i < 40 := by omega
        go_wp2
        go_quiet ((go_at_call 52; exact Calls.quiet_of_same (hexIndex_any _ (by omega) (by omega) _)))
        go_wp2
        go_roundw
        case rel =>
          have hg' : 0 ≤ hiD s.data.toList i ∧ 0 ≤ loD s.data.toList i := by rw [HHH.out, HLL.out]; exact ⟨g1, g2⟩
          refine ⟨i + 1, by omega, by go_num, okD_succ HOK.out (okD_good hg'), ?_, (hbel.drewN nq).setCell (Nat.le_refl _) _⟩
          rw [Lib.heap_setCell_same (w := wr.drewN nq) hblk]
          rw [← HHH.out, ← HLL.out, ← byteD_toNat hg', ← fortyD_succ _ _ i40]
          simp [byteCells]
        case measure => simp [intOf]; omega
      · go_wp2
        go_quiet ((go_at_call 52; exact Calls.quiet_of_same (hexIndex_any _ (by omega) (by omega) _)))
        go_wp2
        all_goals
          go_ret2
          exact ⟨hbel.drewN nq, by rw [unbytesN_bad hlt (okD_bad (by rw [HHH.out, HLL.out]; exact hg))]; rfl⟩
    · obtain rfl : i = n := by omega
      clear he
      have hf := fortyD_length s.data.toList i (by omega)
      have HF := Lib.hid hf
      clear hf
      go_wp2_with fail
      refine (bytes_any _ _ _ _ _ HF.out (Bs.row hblk) (by omega) (by omega)).mono ?_
      rintro e w1 ⟨rfl, hb1⟩
      have hbel1 := hbel.trans (hb1.mono hbel.size)
      have hblk1 := (hb1.block w.heap.size (by have := hblk; exact (Array.getElem?_eq_some_iff.1 this).1)).trans hblk
      clear hb1 hblk hbel
      go_wp2
      · go_ret2
        exact unB_no hbel1 ‹_›
      · go_ret2
        exact unB_yes hbel1 HOK.out ‹_› (Nat.le_refl _) hblk1 HF.out

set_option maxRecDepth 100000 in
set_option maxHeartbeats 400000 in
theorem unbytes_dash (s : ByteArray) (w : World) (h45 : (s.toList == [45]) = true) :
    Calls Tryd.prog 21 #[.string s] w (UnB w (some (List.replicate 40 0))) := by
  have hmk := make40
  go_enter Tryd.func21, Tryd.ntmps21
  go_wp2
  go_ret2
  exact ⟨(Below.refl _ _).alloc (Nat.le_refl _) _, w.heap.size, rfl, Nat.le_refl _, heap_alloc_new w _, by simp⟩

set_option maxRecDepth 100000 in
set_option maxHeartbeats 400000 in
theorem unbytes_odd (s : ByteArray) (w : World) (h45 : (s.toList == [45]) = false) (h : s.size % 2 = 1) :
    Calls Tryd.prog 21 #[.string s] w (UnB w none) := by
  have hmk := make40
  go_enter Tryd.func21, Tryd.ntmps21
  go_wp2
  go_ret2
  exact ⟨(Below.refl _ _).alloc (Nat.le_refl _) _, rfl⟩

set_option maxRecDepth 100000 in
set_option maxHeartbeats 400000 in
theorem unbytes_long (s : ByteArray) (w : World) (h45 : (s.toList == [45]) = false) (h : s.size % 2 = 0) (hl : 80 < s.size) :
    Calls Tryd.prog 21 #[.string s] w (UnB w none) := by
  have hmk := make40
  go_enter Tryd.func21, Tryd.ntmps21
  go_wp2
  go_ret2
  exact ⟨(Below.refl _ _).alloc (Nat.le_refl _) _, rfl⟩

/-- the cases of Unbytes. -/
theorem unbytes_cases {f : FuncId} (s : ByteArray) (w : World)
    (h1 : (s.toList == [45]) = true → Calls Tryd.prog f #[.string s] w (UnB w (some (List.replicate 40 0))))
    (h2 : (s.toList == [45]) = false → s.size % 2 = 1 → Calls Tryd.prog f #[.string s] w (UnB w none))
    (h3 : (s.toList == [45]) = false → s.size % 2 = 0 → 80 < s.size → Calls Tryd.prog f #[.string s] w (UnB w none))
    (h4 : ∀ n, (s.toList == [45]) = false → s.size ≤ 2 * n → 2 * n ≤ s.size → s.size ≤ 80 → Calls Tryd.prog f #[.string s] w (UnB w (unbytesN s.data.toList n))) :
    Calls Tryd.prog f #[.string s] w (UnB w (unbytesT s.data.toList)) := by
  have hsz : s.data.toList.length = s.size := by simp
  unfold unbytesT
  rw [hsz]
  by_cases c1 : s.data.toList = [45]
  · rw [if_pos c1]; exact h1 (by rw [toList_data, c1]; rfl)
  · rw [if_neg c1]
    have c1' : (s.toList == [45]) = false := by rw [toList_data]; simpa using c1
    by_cases c2 : s.size % 2 = 1
    · rw [if_pos (Or.inl (by omega))]; exact h2 c1' c2
    · by_cases c3 : 80 < s.size
      · rw [if_pos (Or.inr c3)]; exact h3 c1' (by omega) c3
      · rw [if_neg (by omega)]; exact h4 _ c1' (by omega) (by omega) (by omega)

/-- script.Unbytes. -/
theorem unbytes_any (s : ByteArray) (w : World) : Calls Tryd.prog 21 #[.string s] w (UnB w (unbytesT s.data.toList)) :=
  unbytes_cases s w (unbytes_dash s w) (unbytes_odd s w) (unbytes_long s w) (unbytes_go s w)

end Go.Proofs.YtfdkafmomkkapaaDoor
