/- Walks: ftext.Round; what the document fixes (law 3's awake). -/
import Derived.Test.YtfdkafmomkkapaaGreatDoorV7
namespace Go.Proofs.YtfdkafmomkkapaaGreatDoor
open Go.RowKit Go.Lib

theorem itoa_neg1 : itoa (-1) = [45, 49] := by
  unfold itoa
  rw [if_pos (by decide), show (-1 : Int).natAbs = 1 from rfl, decDigits_one (by decide)]
  rfl
theorem itoa_zero : itoa 0 = [48] := by
  unfold itoa
  rw [if_neg (by decide), show (0 : Int).toNat = 0 from rfl, decDigits_one (by decide)]
  rfl
theorem text_one : textF 4607182418800017408 = [49, 112, 48] := by
  rw [textF_num (by decide +kernel), show expB 4607182418800017408 = 1023 by decide +kernel, show fracB 4607182418800017408 = 0 by decide +kernel,
    absT_one (by decide) (by decide) rfl, show ((1023 : Nat) : Int) - 1023 = 0 by decide, itoa_zero]
  rfl
theorem text_m : textF 13828302655841107968 = [45, 49, 46, 56, 112, 45, 49] := by
  rw [textF_num (by decide +kernel), show expB 13828302655841107968 = 1022 by decide +kernel, show fracB 13828302655841107968 = 2251799813685248 by decide +kernel,
    absT_norm (by decide) (by decide) (by decide), show ((1022 : Nat) : Int) - 1023 = -1 by decide, itoa_neg1,
    show hexF 2251799813685248 = [56] by decide +kernel]
  rfl
theorem parse_m : parseF [45, 49, 46, 56, 112, 45, 49] = some 13828302655841107968 :=
  (parseF_iff _ _).2 ⟨⟨by decide, fun h => absurd h (by decide +kernel)⟩, text_m⟩

/-- the whole number next to a number: its bits. -/
def rndB (b : Nat) : Nat := FloatKind.f64.encode ((FloatKind.f64.decode b).integral .even)
/-- what the extern answers at a number that was read. -/
def intG (_name : String) (way : Ieee.Toward) (x : Nat) : Ieee.Datum → Sem Value
  | .nan s t =>
    if FloatKind.f64.format.quiet t = t then pure (.float .f64 x) else do
      let kept ← choose (.extern "math.Floor,Ceil,Trunc,RoundToEven.signallingNaN kept" 2)
      pure (.float .f64 (if kept == 1 then x else FloatKind.f64.encode (.nan s (FloatKind.f64.format.quiet t))))
  | d => pure (.float .f64 (FloatKind.f64.encode (d.integral way)))
theorem toIntegral_eq (name : String) (way : Ieee.Toward) (x : Nat) : Extern.MathFloor.toIntegral name way #[.float .f64 x] = intG name way x (FloatKind.f64.decode x) := rfl
theorem intG_num {name : String} {way : Ieee.Toward} {x : Nat} {d : Ieee.Datum} (h : d.isNaN = false) : intG name way x d = pure (.float .f64 (FloatKind.f64.encode (d.integral way))) := by
  cases d with
  | number s m e => rfl
  | infinity s => rfl
  | nan s t => cases h
theorem run_round {b : Nat} (w : World) (h : isNaNB b = false) : (callFunc 15 #[.float .f64 b]).run Tryz.prog w = .ok (.value (.float .f64 (rndB b))) w := by
  rw [run_callFunc_extern Tryz.func15 (by kernel_rfl) (by kernel_rfl) (by kernel_rfl) (show Extern.find Tryz.f15 = some (Extern.MathFloor.toIntegral "math.RoundToEven" .even) by kernel_rfl)]
  have hd : (FloatKind.f64.decode b).isNaN = false := by
    rw [← h, ← read_nan]; rfl
  rw [toIntegral_eq, intG_num hd]
  rfl
theorem rnd_25 : rndB 4612811918334230528 = 4611686018427387904 := by decide +kernel

set_option maxRecDepth 100000 in
theorem round_25 (w : World) : Calls Tryz.prog 7 #[.float .f64 4612811918334230528] w fun e w' => e = .returned (.float .f64 4611686018427387904) ∧ w = w' := by
  have hr := fun w => run_round w (b := 4612811918334230528) (by decide +kernel)
  rw [rnd_25] at hr
  have hc : canB 4611686018427387904 = 4611686018427387904 := if_neg (by decide +kernel)
  go_enter Tryz.func7, Tryz.ntmps7
  go_wp2_with fail
  refine (fbits_any _ w).mono ?_
  rintro e w1 ⟨rfl, rfl⟩
  rw [hc]
  go_wp2_with fail
  refine (fromBits_any 4611686018427387904 w).mono ?_
  rintro e w1 ⟨rfl, rfl⟩
  rw [hc]
  go_wp2_with fail
  go_ret
  exact ⟨rfl, rfl⟩
set_option maxRecDepth 100000 in
set_option maxHeartbeats 1000000 in
theorem awake3_any (w : World) (hG : Gz w) : Calls Tryz.prog 9 #[] w fun e w' => e = .returned (.bool true) ∧ Below w.heap.size w w' := by
  go_enter Tryz.func9, Tryz.ntmps9
  go_wp2_with fail
  refine (parse_walk [45, 49, 46, 56, 112, 45, 49] w hG (by decide)).mono ?_
  rintro e w1 ⟨hb1, rfl⟩
  rw [parse_m]
  go_wp2_with fail
  refine (ftext_any 4607182418800017408 w1 (hG.on hb1) (by decide)).mono ?_
  rintro e w2 ⟨rfl, hb2⟩
  rw [text_one]
  have hb := below_on hb2 hb1 (Nat.le_refl _)
  go_wp2_with fail
  refine (round_25 w2).mono ?_
  rintro e w3 ⟨rfl, rfl⟩
  go_wp2_with fail
  go_ret
  exact ⟨rfl, hb⟩
end Go.Proofs.YtfdkafmomkkapaaGreatDoor
