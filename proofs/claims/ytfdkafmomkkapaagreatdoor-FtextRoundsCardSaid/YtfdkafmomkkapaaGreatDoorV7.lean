/- Walks: ftext.Parse, ftext.Round, awake. -/
import Derived.Test.YtfdkafmomkkapaaGreatDoorU2
namespace Go.Proofs.YtfdkafmomkkapaaGreatDoor
open Go.RowKit Go.Lib

/-- what Parse hands back. -/
def ParF (w : World) (o : Option Nat) (e : Ending) (w' : World) : Prop :=
  Below w.heap.size w w' ∧ e = .returned (.tuple #[.float .f64 (o.getD 0), .int .i64 (if o.isSome then 0 else 13)])

theorem or_sign {n : Nat} (h : n < 9223372036854775808) : bits .or .u64 (n : Int) 9223372036854775808 = ((n + 9223372036854775808 : Nat) : Int) := by
  have := u64_or_nat n 9223372036854775808 (by omega) (by decide)
  rw [show n ||| 9223372036854775808 = n + 9223372036854775808 by rw [nat_join63' _ _ (by decide) h]; omega] at this
  exact this
theorem parseF_ok {s : List UInt8} (h : (bitsL (Lib.trimPrefix s [45])).2 = true) (h2 : (textF (readF s) == s) = true) : parseF s = some (readF s) := if_pos ⟨h, by simpa using h2⟩
theorem parseF_no {s : List UInt8} (h : (bitsL (Lib.trimPrefix s [45])).2 = false) : parseF s = none := if_neg (by rw [h]; simp)
theorem parseF_not {s : List UInt8} (h2 : (textF (readF s) == s) = false) : parseF s = none := if_neg (by rintro ⟨_, h⟩; simp [h] at h2)
theorem parF_some {w w' : World} {o : Option Nat} {b : Nat} {e : Ending} (h : o = some b) (hb : Below w.heap.size w w') (he : e = .returned (.tuple #[.float .f64 b, .int .i64 0])) : ParF w o e w' := by subst h; exact ⟨hb, he⟩
theorem parF_none {w w' : World} {o : Option Nat} {e : Ending} (h : o = none) (hb : Below w.heap.size w w') (he : e = .returned (.tuple #[.float .f64 0, .int .i64 13])) : ParF w o e w' := by subst h; exact ⟨hb, he⟩
theorem trim_len (s p : List UInt8) : (Lib.trimPrefix s p).length ≤ s.length := by
  unfold Lib.trimPrefix; split
  · simp only [List.length_drop]; omega
  · omega

set_option maxRecDepth 100000 in
set_option maxHeartbeats 2000000 in
theorem parse_walk (s : List UInt8) (w : World) (hG : Gz w) (hs : s.length ≤ 1000) : Calls Tryz.prog 17 #[.string ⟨s.toArray⟩] w (ParF w (parseF s)) := by
  have hP := Lib.hid (fun w => Tryz.strings_CutPrefix ⟨s.toArray⟩ ⟨#[45]⟩ w)
  have hok := Lib.hid (@parseF_ok s)
  have hno := Lib.hid (@parseF_no s)
  have hnt := Lib.hid (@parseF_not s)
  have hlt := bitsL_lt (Lib.trimPrefix s [45])
  have hB := Lib.hid (fun w hG => bits_walk (Lib.trimPrefix s [45]) w hG (Nat.le_trans (trim_len _ _) hs))
  have hrc := (readF_can s).1
  obtain ⟨x, hxe⟩ : ∃ x, readF s = x := ⟨_, rfl⟩
  have hr := Lib.hid hxe
  rw [hxe] at hrc hok hnt
  clear hxe
  generalize parseF s = o at *
  unfold readF at hr
  change Hid (∀ w, Calls Tryz.prog 25 _ w fun e w' => e = .returned (.tuple #[.string ⟨(Lib.trimPrefix s [45]).toArray⟩, .bool (Lib.hasPrefix s [45])]) ∧ w' = w) at hP
  generalize Lib.hasPrefix s [45] = mn at *
  generalize bitsL (Lib.trimPrefix s [45]) = r at *
  generalize Lib.trimPrefix s [45] = t at *
  obtain ⟨n, k⟩ := r
  simp only at hlt
  cases mn
  · have hx : canB n = x := hr.out
    have HX := Lib.hid hx
    clear hx hr
    go_enter Tryz.func17, Tryz.ntmps17
    go_wp2_with fail
    refine (hP.out w).mono ?_
    rintro e w1 ⟨rfl, rfl⟩
    go_wp2_with fail
    refine (hB.out w1 hG.1).mono ?_
    rintro e w2 ⟨hb2, rfl⟩
    go_wp2_with fail
    refine (fromBits_any n w2).mono ?_
    rintro e w3 ⟨rfl, rfl⟩
    rw [HX.out]
    cases k
    · go_wp2_with fail
      go_ret2
      exact parF_none (hno.out (by simp)) hb2 rfl
    · go_wp2_with fail
      refine (ftext_any x w2 (hG.on hb2) hrc).mono ?_
      rintro e w4 ⟨rfl, hb4⟩
      have hb := below_on hb4 hb2 (Nat.le_refl _)
      generalize textF x = T at *
      go_wp2_with fail
      · go_ret2
        exact parF_none (hnt.out (by first | assumption | simp_all)) hb rfl
      · go_ret2
        exact parF_some (hok.out (by simp) (by first | assumption | simp_all)) hb rfl
  · have hx : canB (n + 9223372036854775808) = x := hr.out
    have ho' := or_sign hlt
    obtain ⟨m, hm⟩ : ∃ m, n + 9223372036854775808 = m := ⟨_, rfl⟩
    rw [hm] at hx ho'
    have HX := Lib.hid hx
    have ho := Lib.hid ho'
    clear hx hr hm ho'
    go_enter Tryz.func17, Tryz.ntmps17
    go_wp2_with fail
    refine (hP.out w).mono ?_
    rintro e w1 ⟨rfl, rfl⟩
    go_wp2_with fail
    refine (hB.out w1 hG.1).mono ?_
    rintro e w2 ⟨hb2, rfl⟩
    go_wp2_with fail
    rw [ho.out]
    refine (fromBits_any m w2).mono ?_
    rintro e w3 ⟨rfl, rfl⟩
    rw [HX.out]
    cases k
    · go_wp2_with fail
      go_ret2
      exact parF_none (hno.out (by simp)) hb2 rfl
    · go_wp2_with fail
      refine (ftext_any x w2 (hG.on hb2) hrc).mono ?_
      rintro e w4 ⟨rfl, hb4⟩
      have hb := below_on hb4 hb2 (Nat.le_refl _)
      generalize textF x = T at *
      go_wp2_with fail
      · go_ret2
        exact parF_none (hnt.out (by first | assumption | simp_all)) hb rfl
      · go_ret2
        exact parF_some (hok.out (by simp) (by first | assumption | simp_all)) hb rfl
end Go.Proofs.YtfdkafmomkkapaaGreatDoor
