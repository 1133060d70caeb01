/- Lemmas and walks: Walks: query.Count 11, query.Most 12, query.Sum 26 of noughts, awake 8. Walk: QueryParts 3, for any arguments. -/
import Derived.Test.YtelakcjbknbehaaGreatAn
namespace Go.Proofs.YtelakcjbknbehaaGreat
open Go.RowKit Go.Lib

/-- a store with an open transaction of handle hd whose cells are c, behind k reads; it lies at P. -/
def QO (w : World) (lw P : Nat) (hd : Int) (c : Nat → Nat) (k : Nat) : Prop :=
  ∃ base d p F q L, d.P = P ∧ p.h = hd ∧ lw ≤ base ∧ Fr base d p F ∧ Su w base d p F q L k ∧ CellQ q c
theorem QO.keep {w w' : World} {lw P k : Nat} {hd : Int} {c : Nat → Nat} (h : QO w lw P hd c k) (hc : Chg [] w w') : QO w' lw P hd c k := by
  obtain ⟨base, d, p, F, q, L, h1, h2, h3, h4, h5, h6⟩ := h
  exact ⟨base, d, p, F, q, L, h1, h2, h3, h4, h5.keep h4 hc, h6⟩
theorem FrO.qo {w : World} {lw n P G : Nat} {cs cr : Nat → Nat} (h : FrO w lw n 0 0 0 0 P G cs cr) : QO w lw P (n + 1 : Nat) cs 0 := by
  obtain ⟨d, s, g, q0, base, q, Ls, lo, Y, D, V, U, Tv, xs, L, S, Pz, j, h1, h2, h3, h4, h5, h6, h7⟩ := h.all
  exact ⟨base, d, begP s, _, q, Ls, h1, by show s.bl + 1 = _; rw [h4]; rfl, h2.so.low.1, h2.so.fr, h2.so.su, h6⟩
theorem kp_ow {lw base : Nat} {w w' : World} (h : Ow base w w') (hb : lw ≤ base) : Kp lw w w' := Kp.of_ow h hb
section
variable {lw P k : Nat} {hd : Int} {c : Nat → Nat}
theorem qo_cells (w : World) {f n : Nat} (h : QO w lw P hd c k) (hk : k + readsC f n ≤ 60) (hn : 0 < n) (hn2 : n ≤ 2000) (hfn : f + n ≤ 1290) :
    Calls Tryz.prog 15 #[.pointer (some ⟨P, 0, none⟩), .int .i64 hd, .int .i64 f, .int .i64 n] w fun e w' =>
    ∃ g o cp k', e = .returned (.tuple #[.slice (some ⟨g, o, none⟩) n cp, .int .i64 0]) ∧ n ≤ cp ∧ w.heap.size ≤ g ∧ Kp lw w w' ∧ Fl w' (some ⟨g, o, none⟩) (cellsC c f n) ∧ QO w' lw P hd c k' ∧ k' ≤ k + readsC f n := by
  obtain ⟨base, d, p, F, q, L, rfl, rfl, h3, h4, h5, h6⟩ := h
  refine (qcells_c w h4 h5 h6 hk hn hn2 hfn).mono ?_
  rintro e w' ⟨g, o, cp, k', rfl, a1, a2, a3, a4, a5, a6⟩
  exact ⟨g, o, cp, k', rfl, a1, a2, kp_ow a3 h3, a4, ⟨base, d, p, F, q, L, rfl, rfl, h3, h4, a5, h6⟩, a6⟩
set_option maxRecDepth 100000 in
set_option maxHeartbeats 2000000 in
theorem qo_none (w : World) {f : Nat} (h : QO w lw P hd c k) (hfn : f ≤ 1290) :
    Calls Tryz.prog 15 #[.pointer (some ⟨P, 0, none⟩), .int .i64 hd, .int .i64 f, .int .i64 0] w fun e w' => e = .returned (.tuple #[.slice none 0 0, .int .i64 0]) ∧ Chg [] w w' := by
  obtain ⟨base, d, p, F, q, L, rfl, rfl, h3, h4, h5, h6⟩ := h
  have HC := Lib.hid (ccount_need w (h4.need _ h5.env))
  have c3 : ¬ ((f : Int) < 0) := by omega
  have c4 : ¬ ((f : Int) > 1290) := by omega
  clear h4 h5 h6
  go_enter Tryz.func15, Tryz.ntmps15
  go_wp2_with fail
  go_step3
  go_wp2_with fail
  refine HC.out.mono ?_
  rintro e w1 ⟨rfl, k1⟩
  go_wp2_with fail
  simp only [Exit.noGoto]
  go_ret2
  exact ⟨rfl, k1⟩
/-- how many numbers have a class. -/
def cntC (cl : Int) (l : List Nat) : Nat := l.countP (fun x => clsB x == cl)
theorem cntC_take (cl : Int) (l : List Nat) (j : Nat) (h : j < l.length) : cntC cl (l.take (j + 1)) = cntC cl (l.take j) + if clsB l[j] == cl then 1 else 0 := by
  unfold cntC
  rw [List.take_succ_eq_append_getElem h, List.countP_append, List.countP_singleton]
theorem cellsC_can {c : Nat → Nat} (h : ∀ i, CanB (c i)) (f n : Nat) : ∀ x ∈ cellsC c f n, CanB x := fun x hx => by
  unfold cellsC at hx
  obtain ⟨i, -, rfl⟩ := List.mem_map.1 hx
  exact h _
theorem QO.can {w : World} (h : QO w lw P hd c k) : ∀ i, CanB (c i) := by
  obtain ⟨base, d, p, F, q, L, h1, h2, h3, h4, h5, h6⟩ := h
  exact h6.1
set_option maxRecDepth 100000 in
set_option maxHeartbeats 4000000 in
theorem qo_count (w : World) {f n : Nat} (cl : Int) (h : QO w lw P hd c k) (hk : k + readsC f n ≤ 60) (hn2 : n ≤ 2000) (hfn : f + n ≤ 1290) :
    Calls Tryz.prog 11 #[.pointer (some ⟨P, 0, none⟩), .int .i64 hd, .int .i64 f, .int .i64 n, .int .i64 cl] w fun e w' =>
    ∃ k', e = .returned (.tuple #[.int .i64 (cntC cl (cellsC c f n)), .int .i64 0]) ∧ Kp lw w w' ∧ QO w' lw P hd c k' ∧ k' ≤ k + readsC f n := by
  rcases Nat.eq_zero_or_pos n with rfl | hn
  · have HC := Lib.hid (qo_none w h (by omega))
    have HQ := Lib.hid (fun w' (hc : Chg [] w w') => h.keep hc)
    clear h
    go_enter Tryz.func11, Tryz.ntmps11
    go_wp2_with fail
    refine HC.out.mono ?_
    rintro e w1 ⟨rfl, k1⟩
    go_wp2_with fail
    go_loopw [14, 16, 30] (fun k _ i wr => k = .int .i64 0 ∧ i = .int .i64 0 ∧ w1 = wr) (fun _ _ _ _ => 0)
    case atStart => exact ⟨rfl, rfl, rfl⟩
    case round =>
      obtain ⟨rfl, rfl, rfl⟩ := hrel
      go_wp2_with fail
      go_ret2
      exact ⟨_, rfl, Kp.of_chg k1, HQ.out _ k1, Nat.le_add_right _ _⟩
  · have HC := Lib.hid (qo_cells w h hk hn hn2 hfn)
    have HCAN := Lib.hid (cellsC_can h.can f n)
    clear h
    go_enter Tryz.func11, Tryz.ntmps11
    go_wp2_with fail
    refine HC.out.mono ?_
    rintro e w1 ⟨g, o, cp, k', rfl, hcp, hg, k1, hF, hq, hk'⟩
    obtain ⟨l, hl⟩ : ∃ l, l = cellsC c f n := ⟨_, rfl⟩
    rw [← hl] at hF HCAN
    have hlen : l.length = n := by rw [hl, cellsC_len]
    have HL := Lib.hid (And.intro hl hlen)
    have HF := Lib.hid hF
    have HQ := Lib.hid (And.intro k1 (And.intro hq hk'))
    clear HC hF hq hk' k1 hl hlen
    go_wp2_with fail
    go_loopw [14, 16, 30] (fun k _ i wr => w1 = wr ∧ ∃ j m : Nat, j ≤ n ∧ i = .int .i64 j ∧ k = .int .i64 m ∧ Hid (m = cntC cl (l.take j) ∧ m ≤ j)) (fun _ _ i _ => n - (intOf i).toNat)
    case atStart => exact ⟨rfl, 0, 0, Nat.zero_le _, rfl, rfl, Lib.hid ⟨rfl, Nat.le_refl _⟩⟩
    case round =>
      obtain ⟨rfl, j, m, hj, rfl, rfl, hm⟩ := hrel
      rcases Nat.lt_or_ge j n with hlt | hge
      · have hlt' : (j : Int) < n := by omega
        have hjl : j < l.length := by rw [HL.out.2]; exact hlt
        obtain ⟨x, hx⟩ : ∃ x, x = l[j] := ⟨_, rfl⟩
        have cj : w1.cell? ⟨g, o + j, none⟩ = some (.float .f64 x) := by rw [hx]; exact fl_at HF.out j hjl
        have hxc := HCAN.out x (by rw [hx]; exact List.getElem_mem _)
        have HT := Lib.hid (cntC_take cl l j hjl)
        rw [← hx] at HT
        have HK := Lib.hid (class_any x w1 hxc.1)
        have hm2 : m < 2000 := by have := hm.out.2; omega
        clear hx hxc
        by_cases he : clsB x = cl
        · have HN := Lib.hid (show m + 1 = cntC cl (l.take (j + 1)) ∧ m + 1 ≤ j + 1 by
            have h1 := hm.out
            rw [HT.out, if_pos (by simpa using he), ← h1.1]
            exact ⟨rfl, by omega⟩)
          rw [he] at HK
          clear he
          go_wp2_with fail
          refine HK.out.mono ?_
          rintro e w2 ⟨rfl, rfl⟩
          go_wp2_with fail
          go_roundw
          case rel => exact ⟨trivial, j + 1, m + 1, hlt, by go_num, by go_num, HN⟩
          case measure => simp [intOf]; omega
        · have HN := Lib.hid (show m = cntC cl (l.take (j + 1)) ∧ m ≤ j + 1 by
            have h1 := hm.out
            rw [HT.out, if_neg (by simpa using he), ← h1.1]
            exact ⟨rfl, by omega⟩)
          have he2 : (clsB x == cl) = false := by simpa using he
          generalize clsB x = y at *
          clear he
          go_wp2_with fail
          refine HK.out.mono ?_
          rintro e w2 ⟨rfl, rfl⟩
          go_wp2_with fail
          go_roundw
          case rel => exact ⟨trivial, j + 1, m, hlt, by go_num, rfl, HN⟩
          case measure => simp [intOf]; omega
      · obtain rfl : j = n := by omega
        have hnl : ¬ ((j : Int) < j) := by omega
        have HE := Lib.hid (show (m : Int) = ((cntC cl (cellsC c f j) : Nat) : Int) by
          have h1 := hm.out.1
          rw [List.take_of_length_le (by rw [HL.out.2]; exact Nat.le_refl _)] at h1
          rw [h1, HL.out.1])
        clear hm
        go_wp2_with fail
        go_ret2
        exact ⟨by rw [← HE.out]; rfl, HQ.out.1, k', HQ.out.2⟩
set_option maxRecDepth 100000 in
theorem fmax_any (w : World) {g o n cp : Nat} {l : List Nat} (hl : l.length = n) (hn : 0 < n) (hn2 : n ≤ 1000000) (hF : Fl w (some ⟨g, o, none⟩) l) (hc : ∀ x ∈ l, CanB x) :
    Calls Tryz.prog 46 #[.slice (some ⟨g, o, none⟩) n cp] w fun e w' => e = .returned (.tuple #[.float .f64 (maxB l), .int .i64 0]) ∧ w = w' := by
  have H47 : Calls Tryz.prog 47 #[.slice (some ⟨g, o, none⟩) n cp] w fun e w' => e = .returned (.tuple #[.float .f64 (maxB l), .int .i64 0]) ∧ w = w' := by
    have HM := Lib.hid (fmost_any w (cp := cp) hl hn hn2 hF hc)
    clear hl hF hc
    go_enter Tryz.func47, Tryz.ntmps47
    go_wp2_with fail
    refine HM.out.mono ?_
    rintro e w2 ⟨rfl, rfl⟩
    go_wp2_with fail
    go_ret2
    exact ⟨rfl, rfl⟩
  have HM := Lib.hid H47
  clear hl hF hc H47
  go_enter Tryz.func46, Tryz.ntmps46
  go_wp2_with fail
  refine HM.out.mono ?_
  rintro e w2 ⟨rfl, rfl⟩
  go_wp2_with fail
  go_ret2
  exact ⟨rfl, rfl⟩
set_option maxRecDepth 100000 in
set_option maxHeartbeats 2000000 in
theorem qo_most (w : World) {f n : Nat} (h : QO w lw P hd c k) (hk : k + readsC f n ≤ 60) (hn : 0 < n) (hn2 : n ≤ 2000) (hfn : f + n ≤ 1290) :
    Calls Tryz.prog 12 #[.pointer (some ⟨P, 0, none⟩), .int .i64 hd, .int .i64 f, .int .i64 n] w fun e w' =>
    ∃ k', e = .returned (.tuple #[.float .f64 (maxB (cellsC c f n)), .int .i64 0]) ∧ Kp lw w w' ∧ QO w' lw P hd c k' ∧ k' ≤ k + readsC f n := by
  have H45 : Calls Tryz.prog 45 #[.pointer (some ⟨P, 0, none⟩), .int .i64 hd, .int .i64 f, .int .i64 n, .func (.func 46) #[] #[]] w fun e w' =>
    ∃ k', e = .returned (.tuple #[.float .f64 (maxB (cellsC c f n)), .int .i64 0]) ∧ Kp lw w w' ∧ QO w' lw P hd c k' ∧ k' ≤ k + readsC f n := by
    have HC := Lib.hid (qo_cells w h hk hn hn2 hfn)
    have HCAN := Lib.hid (cellsC_can h.can f n)
    clear h
    go_enter Tryz.func45, Tryz.ntmps45
    go_wp2_with fail
    refine HC.out.mono ?_
    rintro e w1 ⟨g, o, cp, k', rfl, hcp, hg, k1, hF, hq, hk'⟩
    have HS := Lib.hid (fmax_any w1 (cp := cp) (cellsC_len c f n) hn (by omega) hF HCAN.out)
    clear HC hF
    go_wp2_with (first | (go_at_call 46; refine HS.out.mono ?_; rintro e w2 ⟨rfl, rfl⟩))
    go_ret2
    exact ⟨k', rfl, k1, hq, hk'⟩
  have HQ := Lib.hid H45
  clear h H45
  go_enter Tryz.func12, Tryz.ntmps12
  go_wp2_with fail
  refine HQ.out.mono ?_
  rintro e w1 ⟨k', rfl, hr⟩
  go_wp2_with fail
  go_ret2
  exact ⟨k', rfl, hr⟩
end
/-- n noughts. -/
def zeroF (n : Nat) : List Nat := List.replicate n 0
theorem class_zero (w : World) : Calls Tryz.prog 44 #[.float .f64 0] w fun e w' => e = .returned (.int .i64 6) ∧ w = w' :=
  (class_any 0 w (by decide)).mono fun _ _ h => by rw [show clsB 0 = 6 from rfl] at h; exact h
set_option maxRecDepth 100000 in
theorem negative_zero (w : World) {g o k c : Nat} (h : Fl w (some ⟨g, o, none⟩) (zeroF k)) (hk : 0 < k) : Calls Tryz.prog 142 #[.slice (some ⟨g, o, none⟩) k c] w fun e w' => e = .returned (.bool false) ∧ w = w' := by
  have c0 : w.cell? ⟨g, o, none⟩ = some (.float .f64 0) := by
    rcases h with h | ⟨b, o', e, h⟩
    · have := congrArg List.length h
      simp [zeroF] at this
      omega
    · cases e
      have := h 0 (by simp [zeroF]; omega)
      simpa [zeroF] using this
  have hp : (0 : Int) < k := by omega
  go_enter Tryz.func142, Tryz.ntmps142
  go_wp2_with fail
  go_loopw [7] (fun i wr => i = .int .i64 0 ∧ w = wr) (fun _ _ => 0)
  case atStart => exact ⟨rfl, rfl⟩
  case round =>
    obtain ⟨rfl, rfl⟩ := hrel
    go_wp2_with fail
    refine (class_zero _).mono ?_
    rintro e w2 ⟨rfl, rfl⟩
    go_wp2_with fail
    go_ret
    exact ⟨rfl, rfl⟩
set_option maxRecDepth 100000 in
theorem plain_zero (w : World) : Calls Tryz.prog 145 #[.float .f64 0] w fun e w' => e = .returned (.float .f64 0) ∧ w = w' := by
  have hc : canB 0 = 0 := by decide
  go_enter Tryz.func145, Tryz.ntmps145
  go_wp2_with (first
    | (go_at_call 177; refine (fbits_any 0 _).mono ?_; rintro e w1 ⟨rfl, rfl⟩; rw [hc])
    | (go_at_call 176; refine (fromBits_any 0 _).mono ?_; rintro e w1 ⟨rfl, rfl⟩; rw [hc]))
  go_ret
  exact ⟨rfl, rfl⟩
theorem abs_zero (w : World) : Calls Tryz.prog 144 #[.float .f64 0] w fun e w' => e = .returned (.float .f64 0) ∧ w = w' :=
  (abs_any 0 w (by decide)).mono fun _ _ h => by rw [show magB 0 = 0 by decide] at h; exact h
set_option maxRecDepth 100000 in
set_option maxHeartbeats 2000000 in
theorem fsum_zero (w : World) {g o k c : Nat} (h : Fl w (some ⟨g, o, none⟩) (zeroF k)) (hk : 0 < k) (hk2 : k ≤ 1000000) : Calls Tryz.prog 67 #[.slice (some ⟨g, o, none⟩) k c] w fun e w' => e = .returned (.float .f64 0) ∧ w = w' := by
  have hN := Lib.hid (negative_zero w (c := c) h hk)
  have hcell : ∀ j, j < k → w.cell? ⟨g, o + j, none⟩ = some (.float .f64 0) := by
    intro j hj
    rcases h with h | ⟨b, o', e, h⟩
    · have := congrArg List.length h
      simp [zeroF] at this
      omega
    · cases e
      have := h j (by simp [zeroF]; omega)
      simpa [zeroF] using this
  have ha : ∀ w, (binOp .add 33 (.float .f64 0) (.float .f64 0)).run Tryz.prog w = .ok (.float .f64 0) w := fun w => by kernel_rfl
  have hs : ∀ w, (binOp .sub 33 (.float .f64 0) (.float .f64 0)).run Tryz.prog w = .ok (.float .f64 0) w := fun w => by kernel_rfl
  have hg : ∀ w, (binOp .geq 33 (.float .f64 0) (.float .f64 0)).run Tryz.prog w = .ok (.bool true) w := fun w => by kernel_rfl
  have hq : ∀ w, (binOp .neq 33 (.float .f64 0) (.float .f64 0)).run Tryz.prog w = .ok (.bool false) w := fun w => by kernel_rfl
  clear h
  go_enter Tryz.func67, Tryz.ntmps67
  go_wp2_with fail
  refine hN.out.mono ?_
  rintro e w1 ⟨rfl, rfl⟩
  go_wp2_with fail
  go_loopw [3, 4, 13] (fun s t i wr => s = .float .f64 0 ∧ t = .float .f64 0 ∧ w = wr ∧ ∃ j : Nat, j ≤ k ∧ i = .int .i64 j) (fun _ _ i _ => k - (intOf i).toNat)
  case atStart => exact ⟨rfl, rfl, rfl, 0, Nat.zero_le _, rfl⟩
  case round =>
    obtain ⟨rfl, rfl, rfl, j, hj, rfl⟩ := hrel
    rcases Nat.lt_or_ge j k with hl | hl
    · have hl' : (j : Int) < k := by omega
      have hcj := hcell j hl
      go_wp2_with (first | (go_at_call 144; refine (abs_zero _).mono ?_; rintro e w2 ⟨rfl, rfl⟩))
      go_roundw
      case rel => exact ⟨rfl, rfl, trivial, j + 1, hl, by go_num⟩
      case measure => simp [intOf]; omega
    · obtain rfl : j = k := by omega
      have hnl : ¬ ((j : Int) < j) := by omega
      go_wp2_with (first | (go_at_call 145; refine (plain_zero _).mono ?_; rintro e w2 ⟨rfl, rfl⟩))
      go_ret
      exact ⟨rfl, rfl⟩
set_option maxRecDepth 100000 in
theorem sum71 (w : World) {v : Value} (h : Calls Tryz.prog 67 #[v] w fun e w' => e = .returned (.float .f64 0) ∧ w = w') : Calls Tryz.prog 66 #[v] w fun e w' => e = .returned (.tuple #[.float .f64 0, .int .i64 0]) ∧ w = w' := by
  go_enter Tryz.func66, Tryz.ntmps66
  go_wp2_with (first | (go_at_call 67; refine h.mono ?_; rintro e w2 ⟨rfl, rfl⟩))
  go_ret2
  exact ⟨rfl, rfl⟩

section
variable {lw P k : Nat} {hd : Int}
set_option maxRecDepth 100000 in
set_option maxHeartbeats 2000000 in
theorem qo_sum0 (w : World) {f n : Nat} (h : QO w lw P hd (fun _ => 0) k) (hk : k + readsC f n ≤ 60) (hn : 0 < n) (hn2 : n ≤ 2000) (hfn : f + n ≤ 1290) :
    Calls Tryz.prog 26 #[.pointer (some ⟨P, 0, none⟩), .int .i64 hd, .int .i64 f, .int .i64 n] w fun e w' =>
    ∃ k', e = .returned (.tuple #[.float .f64 0, .int .i64 0]) ∧ Kp lw w w' ∧ QO w' lw P hd (fun _ => 0) k' ∧ k' ≤ k + readsC f n := by
  have H45 : Calls Tryz.prog 45 #[.pointer (some ⟨P, 0, none⟩), .int .i64 hd, .int .i64 f, .int .i64 n, .func (.func 66) #[] #[]] w fun e w' =>
    ∃ k', e = .returned (.tuple #[.float .f64 0, .int .i64 0]) ∧ Kp lw w w' ∧ QO w' lw P hd (fun _ => 0) k' ∧ k' ≤ k + readsC f n := by
    have HC := Lib.hid (qo_cells w h hk hn hn2 hfn)
    clear h
    go_enter Tryz.func45, Tryz.ntmps45
    go_wp2_with fail
    refine HC.out.mono ?_
    rintro e w1 ⟨g, o, cp, k', rfl, hcp, hg, k1, hF, hq, hk'⟩
    have hz : cellsC (fun _ => 0) f n = zeroF n := by
      apply List.ext_getElem
      · rw [cellsC_len]; simp [zeroF]
      · intro i h1 h2; rw [cellsC_get]; simp [zeroF]
    rw [hz] at hF
    have HS := Lib.hid (sum71 w1 (fsum_zero w1 (c := cp) hF hn (by omega)))
    clear HC hF hz
    go_wp2_with (first | (go_at_call 66; refine HS.out.mono ?_; rintro e w2 ⟨rfl, rfl⟩))
    go_ret2
    exact ⟨k', rfl, k1, hq, hk'⟩
  have HQ := Lib.hid H45
  clear h H45
  go_enter Tryz.func26, Tryz.ntmps26
  go_wp2_with fail
  refine HQ.out.mono ?_
  rintro e w1 ⟨k', rfl, hr⟩
  go_wp2_with fail
  go_ret2
  exact ⟨k', rfl, hr⟩
end
set_option maxRecDepth 100000 in
set_option maxHeartbeats 2000000 in
theorem awake27 (w : World) : Calls Tryz.prog 8 #[] w fun e w' => e = .returned (.bool true) ∧ Chg [] w w' := by
  have hq : ∀ w, (binOp .eql 33 (.float .f64 0) (.float .f64 0)).run Tryz.prog w = .ok (.bool true) w := fun w => by kernel_rfl
  have HFR := Lib.hid (fresh_any w (pa := none) (N := 0) (cp := 0) (l := []) rfl (by decide) (Or.inl rfl) (fun x hx => by cases hx))
  go_enter Tryz.func8, Tryz.ntmps8
  go_wp2_with fail
  refine HFR.out.mono ?_
  rintro e w1 ⟨n, P, G, rfl, hn, k1, hfo⟩
  obtain ⟨hd, hhd⟩ : ∃ hd : Int, hd = ((n + 1 : Nat) : Int) := ⟨_, rfl⟩
  have hqo := hfo.qo
  rw [← hhd] at hqo ⊢
  have HQ := Lib.hid (qo_sum0 w1 (f := 0) (n := 20) hqo (by decide) (by decide) (by decide) (by decide))
  clear HFR hfo hqo hhd
  go_wp2_with fail
  refine HQ.out.mono ?_
  rintro e w2 ⟨k', rfl, k2, h2, hk2⟩
  have r1 : readsC 0 20 = 1 := by decide
  have r2 : readsC 3 20 = 1 := by decide
  have HN := Lib.hid (qo_count w2 (f := 3) (n := 20) 6 h2 (by omega) (by decide) (by decide))
  rw [show cntC 6 (cellsC (fun _ => 0) 3 20) = 20 from rfl] at HN
  have k3 := chg_kp k1 k2
  clear HQ h2 k2 k1
  go_wp2_with fail
  refine HN.out.mono ?_
  rintro e w3 ⟨k'', rfl, k4, -, -⟩
  have HC := Lib.hid (chg_kp k3 k4)
  clear HN k3 k4
  go_wp2_with fail
  go_ret
  exact ⟨rfl, HC.out⟩
end Go.Proofs.YtelakcjbknbehaaGreat
namespace Go.Proofs.YtelakcjbknbehaaGreat
open Go.RowKit Go.Lib

set_option maxRecDepth 100000 in
theorem small_any (w : World) {pa : Option Addr} {N cp : Nat} : Calls Tryz.prog 7 #[.slice pa N cp] w fun e w' => e = .returned (.bool (decide ((N : Int) ≤ 60))) ∧ w = w' := by
  go_enter Tryz.func7, Tryz.ntmps7
  go_wp2_with fail
  go_ret
  exact ⟨rfl, rfl⟩
set_option maxRecDepth 100000 in
theorem round_m (w : World) (i : Int) (m : Nat) (hm : 0 < m) (hm2 : m ≤ 100000) : Calls Tryz.prog 10 #[.int .i64 i, .int .i64 m] w fun e w' => ∃ r : Nat, r < m ∧ e = .returned (.int .i64 r) ∧ w = w' := by
  have hb : -(m : Int) < i.tmod m ∧ i.tmod m < m := by
    have h1 := Int.tmod_lt_of_pos i (show (0 : Int) < m by omega)
    have h2 : -((-i).tmod m) = i.tmod m := by rw [Int.neg_tmod, Int.neg_neg]
    have h3 := Int.tmod_lt_of_pos (-i) (show (0 : Int) < m by omega)
    omega
  have hz : (m : Int) ≠ 0 := by omega
  obtain ⟨z, hz2⟩ : ∃ z, z = i.tmod m := ⟨_, rfl⟩
  rw [← hz2] at hb
  have hw : IntKind.i64.wrap z = z := by rw [IntKind.wrap_i64]; omega
  have hz3 := hz2.symm
  clear hz2
  go_enter Tryz.func10, Tryz.ntmps10
  by_cases hn : z < 0
  · obtain ⟨r, hr⟩ : ∃ r : Nat, z + m = (r : Int) := ⟨(z + m).toNat, by omega⟩
    have hrm : r < m := by omega
    have HR := Lib.hid (And.intro hr hrm)
    clear hr
    go_wp2_with fail
    go_ret
    exact ⟨r, hrm, by rw [← HR.out.1]; rfl, rfl⟩
  · obtain ⟨r, hr⟩ : ∃ r : Nat, z = (r : Int) := ⟨z.toNat, by omega⟩
    have hrm : r < m := by omega
    have HR := Lib.hid (And.intro hr hrm)
    clear hr
    go_wp2_with fail
    go_ret
    exact ⟨r, hrm, by rw [← HR.out.1]; rfl, rfl⟩
theorem cntC_split (cl : Int) (c : Nat → Nat) (f r n : Nat) (h : r ≤ n) : cntC cl (cellsC c f n) = cntC cl (cellsC c f r) + cntC cl (cellsC c (f + r) (n - r)) := by
  obtain ⟨s, rfl⟩ : ∃ s, n = r + s := ⟨n - r, by omega⟩
  rw [cellsC_split, Nat.add_sub_cancel_left]
  unfold cntC
  rw [List.countP_append]
theorem maxB_split (c : Nat → Nat) (f r n : Nat) (h0 : 0 < r) (h : r < n) : maxB (cellsC c f n) = maxB [maxB (cellsC c f r), maxB (cellsC c (f + r) (n - r))] := by
  obtain ⟨s, rfl⟩ : ∃ s, n = r + s := ⟨n - r, by omega⟩
  rw [cellsC_split, Nat.add_sub_cancel_left]
  exact maxB_two (fun e => by have := congrArg List.length e; rw [cellsC_len] at this; simp at this; omega) (fun e => by have := congrArg List.length e; rw [cellsC_len] at this; simp at this; omega)
theorem cntC_le (cl : Int) (c : Nat → Nat) (f n : Nat) : cntC cl (cellsC c f n) ≤ n := by
  have := List.countP_le_length (p := fun x => clsB x == cl) (l := cellsC c f n)
  rw [cellsC_len] at this
  exact this
theorem readsC_le (f n : Nat) (h : n ≤ 300) : readsC f n ≤ 4 := by
  unfold readsC
  omega
set_option maxRecDepth 100000 in
set_option maxHeartbeats 20000000 in
theorem law3_any (w : World) {pa : Option Addr} {N cp : Nat} {l : List (Int × Nat)} (f n cut cl : Int) (hl : l.length = N) (hA : ArgX w pa l) (hx : ∀ x ∈ l, x.2 < 18446744073709551616) :
    Calls Tryz.prog 3 #[.slice pa N cp, .int .i64 f, .int .i64 n, .int .i64 cut, .int .i64 cl] w fun e w' => e = .returned (.bool true) ∧ Chg [] w w' := by
  have HS := Lib.hid (small_any w (pa := pa) (N := N) (cp := cp))
  have HAW := Lib.hid (awake27 w)
  by_cases h1 : N ≤ 60
  rotate_left
  · have d1 : decide ((N : Int) ≤ 60) = false := decide_eq_false (by omega)
    rw [d1] at HS
    clear hA hx
    go_enter Tryz.func3, Tryz.ntmps3
    go_wp2_with fail
    refine HS.out.mono ?_
    rintro e w1 ⟨rfl, rfl⟩
    go_wp2_with fail
    refine HAW.out.mono ?_
    rintro e w1 ⟨rfl, k1⟩
    go_wp2_with fail
    go_ret
    exact ⟨rfl, k1⟩
  have d1 : decide ((N : Int) ≤ 60) = true := decide_eq_true (by omega)
  rw [d1] at HS
  clear d1
  by_cases h2 : f < 0
  · clear hA hx
    go_enter Tryz.func3, Tryz.ntmps3
    go_wp2_with fail
    refine HS.out.mono ?_
    rintro e w1 ⟨rfl, rfl⟩
    go_wp2_with fail
    refine HAW.out.mono ?_
    rintro e w1 ⟨rfl, k1⟩
    go_wp2_with fail
    go_ret
    exact ⟨rfl, k1⟩
  by_cases h3 : n < 1
  · clear hA hx
    go_enter Tryz.func3, Tryz.ntmps3
    go_wp2_with fail
    refine HS.out.mono ?_
    rintro e w1 ⟨rfl, rfl⟩
    go_wp2_with fail
    refine HAW.out.mono ?_
    rintro e w1 ⟨rfl, k1⟩
    go_wp2_with fail
    go_ret
    exact ⟨rfl, k1⟩
  by_cases h4 : n > 300
  · clear hA hx
    go_enter Tryz.func3, Tryz.ntmps3
    go_wp2_with fail
    refine HS.out.mono ?_
    rintro e w1 ⟨rfl, rfl⟩
    go_wp2_with fail
    refine HAW.out.mono ?_
    rintro e w1 ⟨rfl, k1⟩
    go_wp2_with fail
    go_ret
    exact ⟨rfl, k1⟩
  by_cases h5 : f > 900
  · clear hA hx
    go_enter Tryz.func3, Tryz.ntmps3
    go_wp2_with fail
    refine HS.out.mono ?_
    rintro e w1 ⟨rfl, rfl⟩
    go_wp2_with fail
    refine HAW.out.mono ?_
    rintro e w1 ⟨rfl, k1⟩
    go_wp2_with fail
    go_ret
    exact ⟨rfl, k1⟩
  clear HAW
  obtain ⟨a, rfl⟩ : ∃ a : Nat, f = a := ⟨f.toNat, by omega⟩
  obtain ⟨b, rfl⟩ : ∃ b : Nat, n = b := ⟨n.toNat, by omega⟩
  have hab : a ≤ 900 ∧ 1 ≤ b ∧ b ≤ 300 := by omega
  have HAB := Lib.hid hab
  have HFR := Lib.hid (fresh_any w (pa := pa) (cp := cp) hl h1 hA hx)
  have hb1 : IntKind.i64.wrap ((b : Int) + 1) = ((b + 1 : Nat) : Int) := by rw [IntKind.wrap_i64]; omega
  clear hl hA hx hab
  go_enter Tryz.func3, Tryz.ntmps3
  go_wp2_with fail
  refine HS.out.mono ?_
  rintro e w1 ⟨rfl, rfl⟩
  go_wp2_with fail
  refine HFR.out.mono ?_
  rintro e w1 ⟨m, P, G, rfl, hm, k1, hfo⟩
  obtain ⟨hd, hhd⟩ : ∃ hd : Int, hd = ((m + 1 : Nat) : Int) := ⟨_, rfl⟩
  have hqo := hfo.qo
  rw [← hhd] at hqo ⊢
  obtain ⟨c, hc⟩ : ∃ c, c = putC (fun _ => 0) l := ⟨_, rfl⟩
  rw [← hc] at hqo
  have HRD := Lib.hid (round_m w1 cut (b + 1) (by omega) (by have := HAB.out; omega))
  clear HFR hfo hc hhd
  go_wp2_with fail
  refine HRD.out.mono ?_
  rintro e w2 ⟨r, hr, rfl, rfl⟩
  have hrb : r ≤ b := by omega
  have HR := Lib.hid hrb
  obtain ⟨B, hB⟩ : ∃ B, B = cntC cl (cellsC c a r) := ⟨_, rfl⟩
  obtain ⟨C, hC⟩ : ∃ C, C = cntC cl (cellsC c (a + r) (b - r)) := ⟨_, rfl⟩
  have hBl : B ≤ 300 := by rw [hB]; have := cntC_le cl c a r; have := HAB.out; omega
  have hCl : C ≤ 300 := by rw [hC]; have := cntC_le cl c (a + r) (b - r); have := HAB.out; omega
  have H1 := Lib.hid (qo_count w1 (f := a) (n := b) cl hqo (by have := readsC_le a b HAB.out.2.2; omega) (by have := HAB.out; omega) (by have := HAB.out; omega))
  rw [cntC_split cl c a r b hrb, ← hB, ← hC] at H1
  have HBC := Lib.hid (And.intro hB hC)
  have hab2 : a ≤ 900 ∧ b ≤ 300 := by have := HAB.out; omega
  clear HRD hqo hB hC hr
  go_wp2_with fail
  refine H1.out.mono ?_
  rintro e w2 ⟨k2, rfl, kp2, hq2, hk2⟩
  have kx2 := chg_kp k1 kp2
  have H2 := Lib.hid (qo_count w2 (f := a) (n := r) cl hq2 (by have := readsC_le a b HAB.out.2.2; have := readsC_le a r (by omega); omega) (by omega) (by omega))
  rw [← HBC.out.1] at H2
  have hk2' : k2 ≤ 4 := by have := readsC_le a b HAB.out.2.2; omega
  clear H1 hq2 kp2 k1 hk2
  go_wp2_with fail
  refine H2.out.mono ?_
  rintro e w3 ⟨k3, rfl, kp3, hq3, hk3⟩
  have kx3 := chg_kp kx2 kp3
  have hk3' : k3 ≤ 8 := by have := readsC_le a r (by omega); omega
  have e1 : IntKind.i64.wrap ((a : Int) + (r : Int)) = ((a + r : Nat) : Int) := by rw [IntKind.wrap_i64]; omega
  have e2 : IntKind.i64.wrap ((b : Int) - (r : Int)) = ((b - r : Nat) : Int) := by rw [IntKind.wrap_i64]; omega
  obtain ⟨ar, har⟩ : ∃ ar, ar = a + r := ⟨_, rfl⟩
  obtain ⟨br, hbr⟩ : ∃ br, br = b - r := ⟨_, rfl⟩
  rw [← har] at e1
  rw [← hbr] at e2
  have hbr2 : br ≤ 300 := by omega
  have har2 : ar + br ≤ 1290 := by omega
  have H3 := Lib.hid (qo_count w3 (f := ar) (n := br) cl hq3 (by have := readsC_le ar br hbr2; omega) (by omega) har2)
  rw [har, hbr, ← HBC.out.2, ← har, ← hbr] at H3
  have HARB := Lib.hid (And.intro har hbr)
  clear H2 hq3 kp3 kx2 hk3 har hbr
  go_wp2_with fail
  refine H3.out.mono ?_
  rintro e w4 ⟨k4, rfl, kp4, hq4, hk4⟩
  have kx4 := chg_kp kx3 kp4
  have hk4' : k4 ≤ 12 := by have := readsC_le ar br hbr2; omega
  clear H3 kp4 kx3 hk4
  by_cases hr0 : r = 0
  · subst hr0
    have HAW := Lib.hid (awake27 w4)
    clear hq4
    go_wp2_with fail
    refine HAW.out.mono ?_
    rintro e w5 ⟨rfl, k5⟩
    go_wp2_with fail
    go_ret
    exact ⟨rfl, kx4.then k5⟩
  have hr0' : ((r : Int) == 0) = false := beq_false_of_ne (by omega)
  by_cases hrb2 : r = b
  · have hrb3 : ((r : Int) == (b : Int)) = true := by rw [hrb2]; simp
    have HAW := Lib.hid (awake27 w4)
    clear hq4 hrb2
    go_wp2_with fail
    refine HAW.out.mono ?_
    rintro e w5 ⟨rfl, k5⟩
    go_wp2_with fail
    go_ret
    exact ⟨rfl, kx4.then k5⟩
  have hrb3 : ((r : Int) == (b : Int)) = false := beq_false_of_ne (by omega)
  have hbr1 : 0 < br := by have := HARB.out; omega
  have HM1 := Lib.hid (qo_most w4 (f := a) (n := b) hq4 (by have := readsC_le a b (by omega); omega) (by have := HAB.out; omega) (by omega) (by omega))
  have HCAN := Lib.hid hq4.can
  clear hq4
  go_wp2_with fail
  refine HM1.out.mono ?_
  rintro e w5 ⟨k5, rfl, kp5, hq5, hk5⟩
  have kx5 := chg_kp kx4 kp5
  have hk5' : k5 ≤ 16 := by have := readsC_le a b (by omega); omega
  have HM2 := Lib.hid (qo_most w5 (f := a) (n := r) hq5 (by have := readsC_le a r (by omega); omega) (by omega) (by omega) (by omega))
  clear hq5 HM1 kp5 kx4 hk5
  go_wp2_with fail
  refine HM2.out.mono ?_
  rintro e w6 ⟨k6, rfl, kp6, hq6, hk6⟩
  have kx6 := chg_kp kx5 kp6
  have hk6' : k6 ≤ 20 := by have := readsC_le a r (by omega); omega
  have HM3 := Lib.hid (qo_most w6 (f := ar) (n := br) hq6 (by have := readsC_le ar br hbr2; omega) hbr1 (by omega) har2)
  clear hq6 HM2 kp6 kx5 hk6
  go_wp2_with fail
  refine HM3.out.mono ?_
  rintro e w7 ⟨k7, rfl, kp7, hq7, hk7⟩
  have kx7 := chg_kp kx6 kp7
  clear HM3 kp7 kx6 hq7
  have HMX := Lib.hid (maxB_split c a r b (by omega) (by omega))
  rw [← HARB.out.1, ← HARB.out.2] at HMX
  have hne : ∀ f n, 0 < n → cellsC c f n ≠ [] := fun f n h e => by have := congrArg List.length e; rw [cellsC_len] at this; simp at this; omega
  have hy := maxB_can (cellsC_can HCAN.out a r) (hne a r (by omega))
  have hz := maxB_can (cellsC_can HCAN.out ar br) (hne ar br hbr1)
  generalize maxB (cellsC c a b) = x at *
  generalize maxB (cellsC c a r) = y at *
  generalize maxB (cellsC c ar br) = z at *
  have kp : Chg [] w7 (w7.alloc (.cells #[.float .f64 y, .float .f64 z] 33)) := Chg.alloc w7 _
  have p0 := heap_new w7 (.cells #[.float .f64 y, .float .f64 z] 33)
  have HRM := Lib.hid (rmost_any (w7.alloc (.cells #[.float .f64 y, .float .f64 z] 33)) (g := w7.heap.size) (o := 0) (n := 2) (cp := 2) (l := [y, z]) rfl (by decide) (by decide)
    (Or.inr ⟨_, 0, rfl, fun j hj => by
      match j, hj with
      | 0, _ => exact cell_is p0 0 rfl
      | 1, _ => exact cell_is p0 1 rfl⟩)
    (fun u hu => by
      simp at hu
      rcases hu with rfl | rfl
      · exact hy
      · exact hz))
  rw [← HMX.out] at HRM
  have kx8 := kx7.then kp
  clear kx7 kp p0 HMX hy hz hne
  go_wp2_with fail
  generalize w7.alloc (.cells #[.float .f64 y, .float .f64 z] 33) = w8 at *
  refine HRM.out.mono ?_
  rintro e w9 ⟨rfl, k9⟩
  have HSM := Lib.hid (same_any' x x w9)
  rw [show ((canB x : Int) == (canB x : Int)) = true from beq_self_eq_true _] at HSM
  have HAW := Lib.hid (awake27 w9)
  have kx9 := kx8.then k9
  clear HRM k9 kx8
  go_wp2_with fail
  refine HSM.out.mono ?_
  rintro e w10 ⟨rfl, rfl⟩
  go_wp2_with fail
  refine HAW.out.mono ?_
  rintro e w11 ⟨rfl, k11⟩
  go_wp2_with fail
  go_ret
  exact ⟨rfl, kx9.then k11⟩
end Go.Proofs.YtelakcjbknbehaaGreat
