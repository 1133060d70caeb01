/- Walks: the reference's cut into words. -/
import Derived.Test.YtfdkafmomkkapaaDoorA4
namespace Go.Proofs.YtfdkafmomkkapaaDoor
open Go.RowKit Go.Lib

theorem ty44 : Tryd.prog.underlying 44 = some (.slice 9) := by kernel_rfl
theorem inf9 : (Tryd.prog.info? 9).map (fun i => (i.zero, i.size, i.bytes)) = some (some (.string ⟨#[]⟩), 1, 16) := by kernel_rfl

set_option maxRecDepth 100000 in
set_option maxHeartbeats 400000 in
theorem rsplit_any (s : ByteArray) (w : World) (hs : s.size ≤ 1000000) :
    Calls Tryd.prog 45 #[.string s] w fun e w' => ∃ v, e = .returned v ∧ w'.ownsRow w.heap.size 9 1 v (words s.data.toList).length (strCells (words s.data.toList)) ∧ Below w.heap.size w w' := by
  have hsz : s.data.toList.length = s.size := by simp
  go_enter Tryd.func45, Tryd.ntmps45
  go_wp2
  go_loopw [3, 4, 5] (fun v f i wr => ∃ (W : List (List UInt8)) (a b : Nat), b ≤ s.size + 1 ∧ f = .int .i64 a ∧ i = .int .i64 b ∧ CutAt s.data.toList b a W ∧ wr.ownsRow w.heap.size 9 1 v W.length (strCells W) ∧ Below w.heap.size w wr) (fun _ _ i _ => s.size + 1 - (intOf i).toNat)
  case atStart => exact ⟨[], 0, 0, by omega, rfl, rfl, cutAt_zero _, World.ownsRow_nil _ _ _ _, Below.refl _ _⟩
  case round =>
    obtain ⟨W, a, b, hb, rfl, rfl, hcut, hown, hbel⟩ := hrel
    have HS := Lib.hid hsz
    have hWl := cutAt_length hcut
    rw [hsz] at hWl
    have hszw := hbel.size
    clear hsz
    by_cases h1 : b ≤ s.size
    · have hab : a ≤ b := by
        rcases hcut with ⟨_, h, _⟩ | ⟨h, _⟩
        · exact h
        · rw [HS.out] at h; omega
      have hex := extract_mk s a b
      by_cases h2 : b = s.size
      · subst h2
        have hcut2 := cutAt_end (by rw [HS.out]; exact hcut)
        go_wp2_with (at_builtin; refine wpList_append_lit rfl (.tmp 22) (.tmp 27) 44 9 rfl ty44 inf9 rfl (by decide) w.heap.size wr (strCells [(s.data.toList.drop a).take (s.size - a)]) 1 rfl _ W.length (strCells W) rfl hown ?_ ?_ ?_ (k := 0) ?_ (strCells_one _) rfl 1 rfl ?_; omega; decide; exact hszw; rfl; intro v' w' hap)
        have HC2 := Lib.hid hcut2
        have hown2 := hap.1
        have hbel2 := hbel.trans hap.2.1
        clear hcut2 hap hown hbel hex hcut
        go_roundw
        case rel => exact ⟨_, s.size + 1, s.size + 1, by omega, by go_num, by go_num, by have := HC2.out; rw [HS.out] at this; exact this, by rw [strCells_app, List.length_append]; exact hown2, hbel2⟩
        case measure => simp [intOf]
      · have hlt : b < s.size := by omega
        have hgd := getD_data s b hlt
        have hne : ((b : Int) == (s.size : Int)) = false := by rw [beq_eq_false_iff_ne]; omega
        by_cases hbk : s[b] = 32
        · have hq : ((s[b].toNat : Int) == 32) = true := by rw [hbk]; rfl
          have hcut2 := cutAt_blank (by rw [HS.out]; exact hlt) hcut (by rw [hgd, hbk])
          have HC2 := Lib.hid hcut2
          clear hcut2 hcut hbk hgd
          go_wp2_with (at_builtin; refine wpList_append_lit rfl (.tmp 22) (.tmp 27) 44 9 rfl ty44 inf9 rfl (by decide) w.heap.size wr (strCells [(s.data.toList.drop a).take (b - a)]) 1 rfl _ W.length (strCells W) rfl hown ?_ ?_ ?_ (k := 0) ?_ (strCells_one _) rfl 1 rfl ?_; omega; decide; exact hszw; rfl; intro v' w' hap)
          have hown2 := hap.1
          have hbel2 := hbel.trans hap.2.1
          clear hap hown hbel hex
          go_roundw
          case rel => exact ⟨_, b + 1, b + 1, by omega, by go_num, by go_num, HC2.out, by rw [strCells_app, List.length_append]; exact hown2, hbel2⟩
          case measure => simp [intOf]; omega
        · have hq : ((s[b].toNat : Int) == 32) = false := by
            rw [beq_eq_false_iff_ne]; intro e; exact hbk (UInt8.toNat_inj.1 (by show s[b].toNat = 32; omega))
          have hcut2 := cutAt_other (by rw [HS.out]; exact hlt) hcut (by rw [hgd]; exact hbk)
          have HC2 := Lib.hid hcut2
          clear hcut2 hcut hbk hgd hex
          go_wp2
          go_roundw
          case rel => exact ⟨W, a, b + 1, by omega, rfl, by go_num, HC2.out, hown, hbel⟩
          case measure => simp [intOf]; omega
    · have hW : words s.data.toList = W := by
        rcases hcut with ⟨h, _⟩ | ⟨_, h⟩
        · rw [HS.out] at h; omega
        · exact h
      have HW := Lib.hid hW
      clear hW hcut
      go_wp2
      go_ret
      exact ⟨_, rfl, by rw [HW.out]; exact hown, hbel⟩

end Go.Proofs.YtfdkafmomkkapaaDoor
