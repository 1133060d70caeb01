/- Walks: what the document fixes (law 29's awake). -/
import Derived.Test.YtfdkafmomkkapaaDoorG2
import Derived.Test.YtfdkafmomkkapaaDoorE3
namespace Go.Proofs.YtfdkafmomkkapaaDoor
open Go.RowKit Go.Lib

/-- the block ff, 0, .. -/
def ffD : List UInt8 := 255 :: List.replicate 39 0
theorem itoa_dig {n : Nat} (h : n < 10) : itoa (n : Int) = [UInt8.ofNat (48 + n)] := by
  unfold itoa
  rw [if_neg (by omega), Int.toNat_natCast, decDigits_one h]
theorem parse_awake : parseA [119, 114, 105, 116, 101, 32, 48, 32, 53, 32, 102, 102] = some (3, 0, 0, 0, [(5, ffD)]) := by
  rw [parseA_iff]
  refine ⟨Or.inr (Or.inr (Or.inl ⟨0, [(5, ffD)], rfl, ⟨by decide, by decide⟩, fun p hp => ?_⟩)), ?_⟩
  · rw [List.mem_singleton.1 hp]; exact ⟨⟨by decide, by decide⟩, by decide⟩
  · have h0 := itoa_dig (n := 0) (by decide)
    have h5 := itoa_dig (n := 5) (by decide)
    have e : bytesT ffD = [102, 102] := by decide +kernel
    show textT 3 0 0 0 [(5, ffD)] = _
    rw [textT_write rfl (fun i hi => by have : i = 0 := by simpa using hi
                                        subst this; rfl)]
    have ep : putsT [(5, ffD)] = 32 :: (itoa 5 ++ 32 :: bytesT ffD) := by simp [putsT]
    rw [ep, e, show itoa 0 = [48] from h0, show itoa 5 = [53] from h5]
    rfl
theorem text_awake : textT 2 0 3 1 [] = [114, 101, 97, 100, 32, 48, 32, 51, 32, 49] := by
  have h0 := itoa_dig (n := 0) (by decide)
  have h3 := itoa_dig (n := 3) (by decide)
  have h1 := itoa_dig (n := 1) (by decide)
  unfold textT
  rw [if_neg (by decide), if_pos rfl, show itoa 0 = [48] from h0, show itoa 3 = [51] from h3, show itoa 1 = [49] from h1]
  rfl

set_option maxRecDepth 100000 in
set_option maxHeartbeats 1000000 in
theorem awake_any (w : World) (hG : Gl w) : Calls Tryd.prog 15 #[] w fun e w' => e = .returned (.bool true) ∧ Below w.heap.size w w' := by
  have hw : (words [119, 114, 105, 116, 101, 32, 48, 32, 53, 32, 102, 102]).length ≤ 100000 := by decide +kernel
  go_enter Tryd.func15, Tryd.ntmps15
  go_wp2_with fail
  refine (parse_any ⟨#[119, 114, 105, 116, 101, 32, 48, 32, 53, 32, 102, 102]⟩ w hG (by decide) hw).mono ?_
  rintro e w1 ⟨hb1, hr⟩
  rw [show parseA (⟨#[119, 114, 105, 116, 101, 32, 48, 32, 53, 32, 102, 102]⟩ : ByteArray).data.toList = _ from parse_awake] at hr
  obtain ⟨pa, m, c, rfl, hm, hc, hP⟩ := hr
  obtain rfl : 1 = m := hm
  go_wp2_with fail
  have hB2 := below_on (Below.of_alloc w1 (.cells #[.int .i64 3, .int .i64 0, .int .i64 0, .int .i64 0, .slice pa 1 c] 24)) hb1 (Nat.le_refl _)
  refine (text_any 2 0 3 1 none 0 0 [] _ (hG.keep hB2) rfl (by decide) (by decide) (by decide) (by decide) (by decide) (by decide) (Or.inl rfl) (by decide)).mono ?_
  rintro e w2 ⟨rfl, hb2⟩
  have hB3 := below_on hb2 hB2 (by simp)
  have hrow := below_heap hb2 (hp_new w1 (.cells #[.int .i64 3, .int .i64 0, .int .i64 0, .int .i64 0, .slice pa 1 c] 24))
  have hP2 := (hP.keep (Below.of_alloc _ _)).keep hb2
  obtain ⟨⟨-, -, -, -, e4⟩, -⟩ := row_five hrow
  rcases hP2 with h0 | ⟨b, off, rfl, hc2⟩
  · cases h0
  obtain ⟨-, -, -, da, dc, x4, x5, x6, x7⟩ := hc2 0 (by simp)
  have x4 : w2.cell? ⟨b, off + 1, none⟩ = some (.slice da 40 dc) := by simpa [ffD] using x4
  rcases x7 with h0 | ⟨db, doff, rfl, _, hb⟩
  · cases h0
  have x8 : w2.cell? ⟨db, doff, none⟩ = some (.int .u8 255) := by have := hb 0 (by decide); simpa [ffD] using this
  have x5' : 40 ≤ dc := x5
  clear hb hc2 x5 hrow hb2 hP hb1 hB2
  rw [text_awake]
  go_wp2_with fail
  go_ret
  exact ⟨rfl, hB3⟩
end Go.Proofs.YtfdkafmomkkapaaDoor
