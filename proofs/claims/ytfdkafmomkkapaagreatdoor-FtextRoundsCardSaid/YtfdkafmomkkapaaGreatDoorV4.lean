/- Walks: a text read as a number at base 16. -/
import Derived.Test.YtfdkafmomkkapaaGreatDoorV3
import Derived.Lib.ConvBytes
namespace Go.Proofs.YtfdkafmomkkapaaGreatDoor
open Go.RowKit Go.Lib

/-- a digit at base 16 as strconv reads it. -/
def val16 (c : Nat) : Option Nat :=
  if 48 ≤ c ∧ c ≤ 57 then some (c - 48)
  else if 97 ≤ c ||| 32 ∧ c ||| 32 ≤ 102 then some ((c ||| 32) - 97 + 10)
  else none
def par16 : Nat → List UInt8 → Option Nat
  | n, [] => some n
  | n, c :: l => match val16 c.toNat with
    | some d => par16 (16 * n + d) l
    | none => none
theorem val16_lt {c d : Nat} (h : val16 c = some d) : d < 16 := by
  unfold val16 at h
  split at h
  · injection h with h; omega
  · split at h
    · injection h with h; omega
    · cases h

theorem lower_any (c : Nat) (w : World) (hc : c < 256) : Calls Tryz.prog 65 #[.int .u8 c] w fun e w' => e = .returned (.int .u8 ((c ||| 32 : Nat) : Int)) ∧ w = w' := by
  have h := u8_or_nat c 32 hc (by decide)
  go_enter Tryz.func65, Tryz.ntmps65
  go_wp2
  go_ret
  exact ⟨congrArg Ending.returned (congrArg (Value.int IntKind.u8) h), rfl⟩

theorem or32_le' : ∀ y : Fin 256, y.val ||| 32 ≤ y.val + 32 := by decide +kernel
theorem lower95 (w : World) : Calls Tryz.prog 65 #[.int .u8 95] w fun e w' => e = .returned (.int .u8 127) ∧ w = w' :=
  (lower_any 95 w (by decide)).mono fun _ _ ⟨he, hw⟩ => ⟨he, hw⟩
theorem num_dig {v c : Nat} (h : 48 ≤ c) : Value.int .u64 ((v : Int) * 16 + ((c : Int) - 48)) = .int .u64 ((16 * v + (c - 48) : Nat) : Int) := by congr 1; omega
theorem num_let {v x : Nat} (h : 97 ≤ x) : Value.int .u64 ((v : Int) * 16 + ((x : Int) - 97 + 10)) = .int .u64 ((16 * v + (x - 97 + 10) : Nat) : Int) := by congr 1; omega
/-- how a text of 13 bytes is read at base 16. -/
def Pu16 (w : World) (l : List UInt8) (e : Ending) (w' : World) : Prop :=
  Below w.heap.size w w' ∧ match par16 0 l with
    | some v => e = .returned (.tuple #[.int .u64 v, .nilIface])
    | none => e = .returned (.tuple #[.int .u64 0, .iface 80 (.int .i64 2)])
theorem pu16_no {w w' : World} {l : List UInt8} {e : Ending} (hp : par16 0 l = none) (hb : Below w.heap.size w w') (he : e = .returned (.tuple #[.int .u64 0, .iface 80 (.int .i64 2)])) : Pu16 w l e w' := by
  unfold Pu16; rw [hp]; exact ⟨hb, he⟩
theorem pu16_yes {w w' : World} {l : List UInt8} {e : Ending} {v : Nat} (hp : par16 0 l = some v) (hb : Below w.heap.size w w') (he : e = .returned (.tuple #[.int .u64 v, .nilIface])) : Pu16 w l e w' := by
  unfold Pu16; rw [hp]; exact ⟨hb, he⟩
theorem par_no {l : List UInt8} {j v : Nat} (hj : j < l.length) (h : par16 0 l = par16 v (l.drop j)) (hn : val16 l[j].toNat = none) : par16 0 l = none := by
  rw [h, List.drop_eq_getElem_cons hj, par16, hn]
theorem par_yes {l : List UInt8} {j v d : Nat} (hj : j < l.length) (h : par16 0 l = par16 v (l.drop j)) (hn : val16 l[j].toNat = some d) : par16 0 l = par16 (16 * v + d) (l.drop (j + 1)) := by
  rw [h, List.drop_eq_getElem_cons hj, par16, hn]
theorem val_dig {c : Nat} (h1 : 48 ≤ c) (h2 : c ≤ 57) : val16 c = some (c - 48) := if_pos ⟨h1, h2⟩
theorem val_let {c : Nat} (h0 : ¬ (48 ≤ c ∧ c ≤ 57)) (h1 : 97 ≤ c ||| 32) (h2 : c ||| 32 ≤ 102) : val16 c = some ((c ||| 32) - 97 + 10) := by
  unfold val16; rw [if_neg h0, if_pos ⟨h1, h2⟩]
theorem val_none {c : Nat} (h0 : ¬ (48 ≤ c ∧ c ≤ 57)) (h1 : ¬ (97 ≤ c ||| 32 ∧ c ||| 32 ≤ 102)) : val16 c = none := by
  unfold val16; rw [if_neg h0, if_neg h1]

set_option maxRecDepth 100000 in
set_option maxHeartbeats 2000000 in
theorem pu16_any (l : List UInt8) (w : World) (hs : l.length = 13) :
    Calls Tryz.prog 46 #[.string ⟨l.toArray⟩, .int .i64 16, .int .i64 64] w (Pu16 w l) := by
  have hcv := Lib.run_convert_string_bytes (P := Tryz.prog) w 9 65 5 ⟨l.toArray⟩ Tryz.underlying9 Tryz.underlying65 Tryz.underlying5
  have hsz : (⟨l.toArray⟩ : ByteArray).size = 13 := by show l.toArray.size = 13; simpa using hs
  rw [hsz] at hcv
  have hcell : ∀ j (hj : j < l.length), (bytesWorld w 5 ⟨l.toArray⟩).cell? ⟨w.heap.size, j, none⟩ = some (.int .u8 l[j].toNat) := fun j hj => by
    rw [bytesWorld_cell _ _ _ _ (by omega)]
    show some (Value.int .u8 ((l.toArray.toList.getD j 0).toNat : Int)) = _
    rw [List.getD_eq_getElem?_getD, List.getElem?_eq_getElem (by simpa using hj)]
    rfl
  have hB := Joins.below_bytesWorld w.heap.size w 5 ⟨l.toArray⟩ (Nat.le_refl _)
  have hne : l.isEmpty = false := by cases l with | nil => simp at hs | cons _ _ => rfl
  obtain ⟨W2, hW⟩ : ∃ W2, bytesWorld w 5 ⟨l.toArray⟩ = W2 := ⟨_, rfl⟩
  rw [hW] at hcv hcell hB
  obtain ⟨c0, hc0⟩ : ∃ c0, grownCap w 13 0 5 = c0 := ⟨_, rfl⟩
  rw [hc0] at hcv
  have HL := Lib.hid hs
  have HC := Lib.hid hcell
  have HB := Lib.hid hB
  clear hs hsz hcell hW hc0 hB
  go_enter Tryz.func46, Tryz.ntmps46
  go_wp2_with fail
  obtain ⟨K, hK⟩ : ∃ K : Int, 1152921504606846976 = K := ⟨_, rfl⟩
  obtain ⟨M, hM⟩ : ∃ M : Int, IntKind.u64.wrap (IntKind.u64.wrap 18446744073709551616 - 1) = M := ⟨_, rfl⟩
  rw [hK, hM]
  have hK2 : (281474976710656 : Int) ≤ K := by rw [← hK]; decide
  have hM2 : (4503599627370496 : Int) ≤ M := by rw [← hM]; decide +kernel
  have HK := Lib.hid hK2
  have HM := Lib.hid hM2
  clear hK hM hK2 hM2
  go_loop [12, 13, 101] (fun u n i => ∃ (j v : Nat), j ≤ 13 ∧ u = .bool false ∧ i = .int .i64 j ∧ n = .int .u64 v ∧ v < 16 ^ j ∧ Hid (par16 0 l = par16 v (l.drop j))) (fun _ _ i => 13 - (intOf i).toNat)
  case atStart => exact ⟨0, 0, by decide, rfl, rfl, rfl, by decide, Lib.hid rfl⟩
  case round =>
    obtain ⟨j, v, hj, rfl, rfl, rfl, hv, hP⟩ := hrel
    by_cases hlt : j < 13
    · have hv2 : v < 281474976710656 := Nat.lt_of_lt_of_le hv (Nat.le_trans (Nat.pow_le_pow_right (by decide) (by omega : j ≤ 12)) (by decide))
      have hjl : j < l.length := by rw [HL.out]; exact hlt
      have hcl := HC.out j hjl
      have hc256 := l[j].toNat_lt
      have hno := fun h => par_no hjl hP.out h
      have hyes := fun d h => par_yes (d := d) hjl hP.out h
      have HNO := Lib.hid hno
      have HYES := Lib.hid hyes
      have HV := Lib.hid hv
      clear hno hyes hv
      generalize l[j].toNat = c at *
      have hxle : c ||| 32 ≤ c + 32 := or32_le' ⟨c, hc256⟩
      by_cases hd : 48 ≤ c ∧ c ≤ 57
      · obtain ⟨d1, d2⟩ := hd
        have HN := Lib.hid (HYES.out _ (val_dig d1 d2))
        have hq : ¬ (c : Int) = 95 := by omega
        have hKv : (v : Int) < K := by have := HK.out; omega
        have hMv : (v : Int) * 16 + ((c : Int) - 48) ≤ M := by have := HM.out; omega
        have hvn : 16 * v + (c - 48) < 16 ^ (j + 1) := by have := HV.out; rw [Nat.pow_succ]; omega
        have HVN := Lib.hid hvn
        clear HNO HYES hP hvn hxle
        go_wp2_with fail
        go_round
        case rel => exact ⟨j + 1, 16 * v + (c - 48), by omega, rfl, by go_num, num_dig d1, HVN.out, HN⟩
        case measure => simp [intOf]; omega
      · by_cases h95 : c = 95
        · have HN := Lib.hid (HNO.out (val_none hd (by rw [h95]; decide)))
          subst h95
          clear HNO HYES hP
          go_wp2_with (go_at_call 65; refine (lower95 _).mono ?_; rintro e w' ⟨rfl, rfl⟩)
          go_ret2
          exact pu16_no HN.out HB.out rfl
        · have hq : ¬ (c : Int) = 95 := by omega
          have hor : c ||| 32 < 256 := Nat.or_lt_two_pow (n := 8) hc256 (by decide)
          by_cases hl1 : 97 ≤ c ||| 32
          · by_cases hl2 : c ||| 32 ≤ 102
            · have HN := Lib.hid (HYES.out _ (val_let hd hl1 hl2))
              have h48 : 48 ≤ c := by omega
              have h57 : ¬ c ≤ 57 := fun h => hd ⟨h48, h⟩
              have hKv : (v : Int) < K := by have := HK.out; omega
              have hvn : 16 * v + ((c ||| 32) - 97 + 10) < 16 ^ (j + 1) := by have := HV.out; rw [Nat.pow_succ]; omega
              generalize hx : c ||| 32 = x at *
              have HX := Lib.hid hx
              have HVN := Lib.hid hvn
              have hMv : (v : Int) * 16 + ((x : Int) - 97 + 10) ≤ M := by have := HM.out; omega
              clear hx hd HNO HYES hP hvn hxle h95
              go_wp2_with (go_at_call 65; refine (lower_any c _ (by omega)).mono ?_; rintro e w' ⟨rfl, rfl⟩; rw [HX.out])
              go_round
              case rel => exact ⟨j + 1, 16 * v + (x - 97 + 10), by omega, rfl, by go_num, num_let hl1, HVN.out, HN⟩
              case measure => simp [intOf]; omega
            · have HN := Lib.hid (HNO.out (val_none hd (fun h => hl2 h.2)))
              have h48 : 48 ≤ c := by omega
              have h57 : ¬ c ≤ 57 := fun h => hd ⟨h48, h⟩
              generalize hx : c ||| 32 = x at *
              have HX := Lib.hid hx
              clear hx hd HNO HYES hP hxle h95
              by_cases h122 : x ≤ 122
              all_goals
                go_wp2_with (go_at_call 65; refine (lower_any c _ (by omega)).mono ?_; rintro e w' ⟨rfl, rfl⟩; rw [HX.out])
                go_ret2
                exact pu16_no HN.out HB.out rfl
          · have HN := Lib.hid (HNO.out (val_none hd (fun h => hl1 h.1)))
            generalize hx : c ||| 32 = x at *
            have HX := Lib.hid hx
            by_cases h48 : 48 ≤ c
            · have h57 : ¬ c ≤ 57 := fun h => hd ⟨h48, h⟩
              clear hx hd HNO HYES hP hxle h95
              go_wp2_with (go_at_call 65; refine (lower_any c _ (by omega)).mono ?_; rintro e w' ⟨rfl, rfl⟩; rw [HX.out])
              go_ret2
              exact pu16_no HN.out HB.out rfl
            · clear hx hd HNO HYES hP hxle h95
              go_wp2_with (go_at_call 65; refine (lower_any c _ (by omega)).mono ?_; rintro e w' ⟨rfl, rfl⟩; rw [HX.out])
              go_ret2
              exact pu16_no HN.out HB.out rfl
    · obtain rfl : j = 13 := by omega
      have hfin : par16 0 l = some v := by rw [hP.out, List.drop_eq_nil_of_le (by rw [HL.out]; exact Nat.le_refl _)]; rfl
      have HF := Lib.hid hfin
      clear hfin hP hv
      go_wp2_with fail
      go_ret2
      exact pu16_yes HF.out HB.out rfl
end Go.Proofs.YtfdkafmomkkapaaGreatDoor
