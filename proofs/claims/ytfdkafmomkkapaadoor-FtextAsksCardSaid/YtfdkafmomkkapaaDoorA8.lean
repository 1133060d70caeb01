/- Walks: the reference's numbers. -/
import Derived.Test.YtfdkafmomkkapaaDoorA6
import Derived.Test.YtfdkafmomkkapaaDoorA7
namespace Go.Proofs.YtfdkafmomkkapaaDoor
open Go.RowKit Go.Lib

/-- what num hands back. -/
def NumR (w : World) (r : Option Int) (e : Ending) (w' : World) : Prop :=
  Below w.heap.size w w' ∧ e = match r with
    | none => .returned (.tuple #[.int .i64 0, .bool false])
    | some n => .returned (.tuple #[.int .i64 n, .bool true])

theorem numT_none {s : List UInt8} {k : Nat} (hk : k ≤ s.length) (h : preN s (negN s) k = none) : numT s = none := by
  unfold numT
  rw [preN_none s _ h _ hk]

theorem numR_no {w w' : World} {s : List UInt8} (hb : Below w.heap.size w w') (h : numT s = none) : NumR w (numT s) (.returned (.tuple #[.int .i64 0, .bool false])) w' := by
  rw [h]; exact ⟨hb, rfl⟩

theorem numT_range {s : List UInt8} {n : Nat} {neg : Bool} (hneg : negN s = neg) (h : preN s neg s.length = some n) (hr : ¬ (signN neg n ≤ 1099511627776 ∧ -1099511627776 ≤ signN neg n)) : numT s = none := by
  unfold numT
  rw [hneg, h]
  simp only
  rw [if_neg (fun hh => hr ⟨hh.1, hh.2.1⟩)]

theorem numT_text {s : ByteArray} {n : Nat} {neg : Bool} (hneg : negN s.data.toList = neg) (h : preN s.data.toList neg s.data.toList.length = some n) (hr : (!Lib.itoa (signN neg n) == s.toList) = true) : numT s.data.toList = none := by
  unfold numT
  rw [hneg, h]
  simp only
  rw [toList_data] at hr
  rw [if_neg (fun hh => by rw [hh.2.2] at hr; simp at hr)]

theorem numT_yes {s : ByteArray} {n : Nat} {neg : Bool} (hneg : negN s.data.toList = neg) (h : preN s.data.toList neg s.data.toList.length = some n) (h1 : signN neg n ≤ 1099511627776) (h2 : -1099511627776 ≤ signN neg n) (hr : (!Lib.itoa (signN neg n) == s.toList) = false) : numT s.data.toList = some (signN neg n) := by
  unfold numT
  rw [hneg, h]
  simp only
  rw [toList_data] at hr
  rw [if_pos ⟨h1, h2, by simpa using hr⟩]

set_option maxRecDepth 100000 in
set_option maxHeartbeats 1000000 in
theorem num_pos (s : ByteArray) (w : World) (hs : s.size ≤ 1000000) (h0 : 0 < s.size) (hneg : Hid (negN s.data.toList = false)) (hq : ((s[0].toNat : Int) == 45) = false) :
    Calls Tryd.prog 47 #[.string s] w (NumR w (numT s.data.toList)) := by
  have hsz : s.data.toList.length = s.size := by simp
  have HS := Lib.hid hsz
  clear hsz
  go_enter Tryd.func47, Tryd.ntmps47
  go_wp2
  go_loop [4, 6] (fun a b => ∃ n i : Nat, i ≤ s.size ∧ preN s.data.toList false i = some n ∧ a = .int .i64 n ∧ b = .int .i64 i) (fun _ b => s.size - (intOf b).toNat)
  case atStart => exact ⟨0, 0, Nat.zero_le _, rfl, rfl, rfl⟩
  case round =>
    obtain ⟨n, i, hi, hp, rfl, rfl⟩ := hrel
    have hn := preN_le _ _ hp
    have HP := Lib.hid hp
    clear hp
    by_cases hlt : i < s.size
    · have hgd := getD_data s i hlt
      have hstep := preN_succ _ _ _ _ HP.out
      rw [hgd] at hstep
      have hb : s[i].toNat < 256 := s[i].toNat_lt

      by_cases hd : 48 ≤ s[i].toNat ∧ s[i].toNat ≤ 57 ∧ n ≤ 1099511627776
      · rw [if_neg (by simp), if_pos hd] at hstep
        have HSt := Lib.hid hstep
        obtain ⟨d1, d2, d3⟩ := hd
        clear hstep hgd
        go_wp2
        go_round
        case rel => exact ⟨_, i + 1, by omega, HSt.out, by go_num, by go_num⟩
        case measure => simp [intOf]; omega
      · rw [if_neg (by simp), if_neg hd] at hstep
        have hno := numT_none (s := s.data.toList) (k := i + 1) (by rw [HS.out]; exact hlt) (by rw [hneg.out]; exact hstep)
        have HNO := Lib.hid hno
        clear hno hstep hgd
        by_cases e1 : s[i].toNat < 48
        · go_wp2
          all_goals
            go_ret2
            exact numR_no (Below.refl _ _) HNO.out
        · by_cases e2 : 57 < s[i].toNat
          · go_wp2
            all_goals
              go_ret2
              exact numR_no (Below.refl _ _) HNO.out
          · have e3 : 1099511627776 < n := by omega
            go_wp2
            all_goals
              go_ret2
              exact numR_no (Below.refl _ _) HNO.out
    · obtain rfl : i = s.size := by omega
      have hlast : preN s.data.toList false s.data.toList.length = some n := by rw [HS.out]; exact HP.out
      have HL := Lib.hid hlast
      clear hlast
      by_cases hr : (n : Int) ≤ 1099511627776 ∧ -1099511627776 ≤ (n : Int)
      · obtain ⟨r1, r2⟩ := hr
        go_wp2_with (go_at_call 50; refine (decimal_any _ _ (by omega) (by omega)).mono ?_; rintro e w1 ⟨rfl, hb1⟩)
        · rename_i hh
          have ht : (!Lib.itoa ((n : Int)) == s.toList) = true := by
            rcases hh with hh | hh
            · omega
            · exact hh
          clear hh
          go_ret2
          exact numR_no hb1 (numT_text hneg.out HL.out ht)
        · rename_i hh
          have ht : (!Lib.itoa ((n : Int)) == s.toList) = false := hh.2
          clear hh
          go_ret2
          have hy := numT_yes hneg.out HL.out r1 r2 ht
          rw [hy]
          exact ⟨hb1, rfl⟩
      · have hno := numT_range hneg.out HL.out hr
        have HNO := Lib.hid hno
        clear hno
        have r1 : 1099511627776 < (n : Int) := by omega
        go_wp2
        all_goals
          go_ret2
          exact numR_no (Below.refl _ _) HNO.out

set_option maxRecDepth 100000 in
set_option maxHeartbeats 1000000 in
theorem num_neg (s : ByteArray) (w : World) (hs : s.size ≤ 1000000) (h0 : 0 < s.size) (hneg : Hid (negN s.data.toList = true)) (hq : ((s[0].toNat : Int) == 45) = true) :
    Calls Tryd.prog 47 #[.string s] w (NumR w (numT s.data.toList)) := by
  have hsz : s.data.toList.length = s.size := by simp
  have HS := Lib.hid hsz
  clear hsz
  go_enter Tryd.func47, Tryd.ntmps47
  go_wp2
  go_loop [4, 6] (fun a b => ∃ n i : Nat, i ≤ s.size ∧ preN s.data.toList true i = some n ∧ a = .int .i64 n ∧ b = .int .i64 i) (fun _ b => s.size - (intOf b).toNat)
  case atStart => exact ⟨0, 0, Nat.zero_le _, rfl, rfl, rfl⟩
  case round =>
    obtain ⟨n, i, hi, hp, rfl, rfl⟩ := hrel
    have hn := preN_le _ _ hp
    have HP := Lib.hid hp
    clear hp
    by_cases hlt : i < s.size
    · have hgd := getD_data s i hlt
      have hstep := preN_succ _ _ _ _ HP.out
      rw [hgd] at hstep
      have hb : s[i].toNat < 256 := s[i].toNat_lt
      by_cases hz : i = 0
      · subst hz
        rw [if_pos ⟨rfl, rfl⟩] at hstep
        have HSt := Lib.hid hstep
        clear hstep hgd
        go_wp2
        go_round
        case rel => exact ⟨_, 1, by omega, HSt.out, rfl, by go_num⟩
        case measure => simp [intOf]; omega
      have hz1 : ((i : Int) == 0) = false := by rw [beq_eq_false_iff_ne]; omega
      by_cases hd : 48 ≤ s[i].toNat ∧ s[i].toNat ≤ 57 ∧ n ≤ 1099511627776
      · rw [if_neg (fun hh => hz hh.2), if_pos hd] at hstep
        have HSt := Lib.hid hstep
        obtain ⟨d1, d2, d3⟩ := hd
        clear hstep hgd
        go_wp2
        go_round
        case rel => exact ⟨_, i + 1, by omega, HSt.out, by go_num, by go_num⟩
        case measure => simp [intOf]; omega
      · rw [if_neg (fun hh => hz hh.2), if_neg hd] at hstep
        have hno := numT_none (s := s.data.toList) (k := i + 1) (by rw [HS.out]; exact hlt) (by rw [hneg.out]; exact hstep)
        have HNO := Lib.hid hno
        clear hno hstep hgd
        by_cases e1 : s[i].toNat < 48
        · go_wp2
          all_goals
            go_ret2
            exact numR_no (Below.refl _ _) HNO.out
        · by_cases e2 : 57 < s[i].toNat
          · go_wp2
            all_goals
              go_ret2
              exact numR_no (Below.refl _ _) HNO.out
          · have e3 : 1099511627776 < n := by omega
            go_wp2
            all_goals
              go_ret2
              exact numR_no (Below.refl _ _) HNO.out
    · obtain rfl : i = s.size := by omega
      have hlast : preN s.data.toList true s.data.toList.length = some n := by rw [HS.out]; exact HP.out
      have HL := Lib.hid hlast
      clear hlast
      by_cases hr : -(n : Int) ≤ 1099511627776 ∧ -1099511627776 ≤ -(n : Int)
      · obtain ⟨r1, r2⟩ := hr
        go_wp2_with (go_at_call 50; refine (decimal_any _ _ (by omega) (by omega)).mono ?_; rintro e w1 ⟨rfl, hb1⟩)
        · rename_i hh
          have ht : (!Lib.itoa (-(n : Int)) == s.toList) = true := by
            rcases hh with hh | hh
            · omega
            · exact hh
          clear hh
          go_ret2
          exact numR_no hb1 (numT_text hneg.out HL.out ht)
        · rename_i hh
          have ht : (!Lib.itoa (-(n : Int)) == s.toList) = false := hh.2
          clear hh
          go_ret2
          have hy := numT_yes hneg.out HL.out r1 r2 ht
          rw [hy]
          exact ⟨hb1, rfl⟩
      · have hno := numT_range hneg.out HL.out hr
        have HNO := Lib.hid hno
        clear hno
        have r1 : -(n : Int) < -1099511627776 := by omega
        go_wp2
        all_goals
          go_ret2
          exact numR_no (Below.refl _ _) HNO.out

set_option maxRecDepth 100000 in
set_option maxHeartbeats 1000000 in
theorem num_none (s : ByteArray) (w : World) (_hs : s.size ≤ 1000000) (h0 : s.size = 0) (hneg : Hid (negN s.data.toList = false)) :
    Calls Tryd.prog 47 #[.string s] w (NumR w (numT s.data.toList)) := by
  have hsz : s.data.toList.length = s.size := by simp
  have HS := Lib.hid hsz
  clear hsz
  go_enter Tryd.func47, Tryd.ntmps47
  go_wp2
  go_loop [4, 6] (fun a b => ∃ n i : Nat, i ≤ s.size ∧ preN s.data.toList false i = some n ∧ a = .int .i64 n ∧ b = .int .i64 i) (fun _ b => s.size - (intOf b).toNat)
  case atStart => exact ⟨0, 0, Nat.zero_le _, rfl, rfl, rfl⟩
  case round =>
    obtain ⟨n, i, hi, hp, rfl, rfl⟩ := hrel
    have hn := preN_le _ _ hp
    have HP := Lib.hid hp
    clear hp
    have hlt : ¬ i < s.size := by omega
    · obtain rfl : i = s.size := by omega
      have hlast : preN s.data.toList false s.data.toList.length = some n := by rw [HS.out]; exact HP.out
      have HL := Lib.hid hlast
      clear hlast
      by_cases hr : (n : Int) ≤ 1099511627776 ∧ -1099511627776 ≤ (n : Int)
      · obtain ⟨r1, r2⟩ := hr
        go_wp2_with (go_at_call 50; refine (decimal_any _ _ (by omega) (by omega)).mono ?_; rintro e w1 ⟨rfl, hb1⟩)
        · rename_i hh
          have ht : (!Lib.itoa ((n : Int)) == s.toList) = true := by
            rcases hh with hh | hh
            · omega
            · exact hh
          clear hh
          go_ret2
          exact numR_no hb1 (numT_text hneg.out HL.out ht)
        · rename_i hh
          have ht : (!Lib.itoa ((n : Int)) == s.toList) = false := hh.2
          clear hh
          go_ret2
          have hy := numT_yes hneg.out HL.out r1 r2 ht
          rw [hy]
          exact ⟨hb1, rfl⟩
      · have hno := numT_range hneg.out HL.out hr
        have HNO := Lib.hid hno
        clear hno
        have r1 : 1099511627776 < (n : Int) := by omega
        go_wp2
        all_goals
          go_ret2
          exact numR_no (Below.refl _ _) HNO.out

/-- scarpref28.num. -/
theorem num_any (s : ByteArray) (w : World) (hs : s.size ≤ 1000000) : Calls Tryd.prog 47 #[.string s] w (NumR w (numT s.data.toList)) := by
  by_cases h0 : s.size = 0
  · have hl : s.data.toList = [] := by apply List.eq_nil_of_length_eq_zero; simpa using h0
    exact num_none s w hs h0 (Lib.hid (by rw [hl]; rfl))
  · have hp : 0 < s.size := by omega
    have hh : s.data.toList.head? = some s[0] := by
      rw [List.head?_eq_getElem?, List.getElem?_eq_getElem (by simpa using hp)]
      rfl
    by_cases hc : s[0] = 45
    · exact num_neg s w hs hp (Lib.hid (by unfold negN; rw [hh, hc]; rfl)) (by rw [hc]; rfl)
    · exact num_pos s w hs hp (Lib.hid (by unfold negN; rw [hh]; simpa using hc)) (by rw [beq_eq_false_iff_ne]; intro e; exact hc (UInt8.toNat_inj.1 (by show s[0].toNat = 45; omega)))

end Go.Proofs.YtfdkafmomkkapaaDoor
