/- Lemmas and walks: Walks: versions of blocks are read. Walks: a view reads one block, versions and its own writes too. Walks: a set's extents, their count; a view's set. Maps with int keys: their keys in order; an entry is taken away. Walks: what a buffer holds, as puts. Rows of puts that are made, a copy of forty bytes in a drawn region. Walks: the reference's Buf.Write 100 of one put. Walks: an open transaction of a store, whatever was committed before: reads and writes. -/
import Derived.WideShapes
import Derived.Deep.CutBlock
import Derived.Test.YtelakcjbknbehaaGreatAd
import Derived.Test.YtelakcjbknbehaaGreatAe
import Derived.Test.YtelakcjbknbehaaGreatAf
namespace Go.Proofs.YtelakcjbknbehaaGreat
open Go.RowKit Go.Lib

/-- versions (a time, a block's bytes) in an own row, the eldest first. -/
def VRow (w : World) (lo : Nat) (v : Value) (l : List (Int × List UInt8)) : Prop :=
  ∃ xs, w.ownsRow lo 288 2 v l.length xs ∧ ∀ i (h : i < l.length), xs[i * 2]? = some (.int .i64 l[i].1) ∧ ∃ g c, xs[i * 2 + 1]? = some (.slice (some ⟨g, 0, none⟩) 40 c) ∧ Bs w (some ⟨g, 0, none⟩) l[i].2 ∧ l[i].2.length = 40 ∧ Bt w g
/-- block X is a map of versions of 258 blocks, block rx holds its entries; vs b are the versions of block b. -/
structure VerG (w : World) (lo X rx : Nat) (last : Int) (L : List (Int × Value)) (vs : Int → List (Int × List UInt8)) : Prop where
  x : w.heap[X]? = some (.cells #[.int .i64 258, .map (some rx), .int .i64 last] 270 (0, 0))
  m : MapAt w rx L
  row : ∀ b, 0 ≤ b → b < 258 → (getL L b = none ∧ vs b = []) ∨ ∃ v, getL L b = some v ∧ VRow w lo v (vs b) ∧ vs b ≠ []
  small : ∀ b, (vs b).length ≤ 1000000
theorem VRow.keep {w w' : World} {T : List Nat} {lo : Nat} {v : Value} {l : List (Int × List UInt8)} (h : VRow w lo v l) (hc : Chg T w w') (hT : Av w T [5]) (hv : ∀ g, v.ownBlock = some g → g ∉ T) : VRow w' lo v l := by
  obtain ⟨xs, ho, hx⟩ := h
  refine ⟨xs, ?_, fun i hi => ?_⟩
  · refine ⟨ho.1, ?_⟩
    rcases ho.2 with hn | ⟨g, cap, cur, rfl, hb, hg, rest⟩
    · exact Or.inl hn
    · exact Or.inr ⟨g, cap, cur, rfl, hb, hc.heap hg (hv g rfl), rest⟩
  · obtain ⟨h0, g, c, h1, h2, h3, cs, h4⟩ := hx i hi
    have hg : g ∉ T := hT.ne h4 (by simp)
    exact ⟨h0, g, c, h1, h2.chgT hc hg, h3, cs, hc.heap h4 hg⟩
theorem VRow.block {w : World} {lo : Nat} {v : Value} {l : List (Int × List UInt8)} (h : VRow w lo v l) : ∀ g, v.ownBlock = some g → ∃ cs, w.heap[g]? = some (.cells cs 288 (0, 0)) := by
  intro g hg
  obtain ⟨xs, ho, -⟩ := h
  exact (own_elem ho hg).2
theorem VerG.keepA {w w' : World} {T : List Nat} {lo X rx : Nat} {last : Int} {L : List (Int × Value)} {vs : Int → List (Int × List UInt8)} (h : VerG w lo X rx last L vs) (hc : Chg T w w') (hT : Av w T [270, 288, 5]) (hm : rx ∉ T) : VerG w' lo X rx last L vs := by
  refine ⟨hc.heap h.x (hT.ne h.x (by simp)), h.m.keep hc hm, fun b h0 h1 => ?_, h.small⟩
  rcases h.row b h0 h1 with hn | ⟨v, h2, h3, h4⟩
  · exact Or.inl hn
  · refine Or.inr ⟨v, h2, h3.keep hc (fun x hx cs t fr hh ht => hT x hx cs t fr hh (by simp at ht; simp [ht])) (fun g hg => ?_), h4⟩
    obtain ⟨cs, hb⟩ := h3.block g hg
    exact hT.ne hb (by simp)
theorem VerG.keep {w w' : World} {lo X rx : Nat} {last : Int} {L : List (Int × Value)} {vs : Int → List (Int × List UInt8)} (h : VerG w lo X rx last L vs) (hc : Chg [] w w') : VerG w' lo X rx last L vs := h.keepA hc (Av.nil _ _) (by simp)
theorem VerAt.full {w : World} {X rx : Nat} (h : VerAt w X rx) (lo : Nat) : VerG w lo X rx 0 [] (fun _ => []) := ⟨h.1, h.2, fun _ _ _ => Or.inl ⟨rfl, rfl⟩, fun _ => by simp⟩
/-- the newest version that is not above a time. -/
def verT (l : List (Int × List UInt8)) (t : Int) : Option (Int × List UInt8) := l.reverse.find? (fun p => decide (p.1 ≤ t))
/-- a block's bytes at a time. -/
def bytT (l : List (Int × List UInt8)) (t : Int) : List UInt8 := ((verT l t).map Prod.snd).getD zeroB
set_option maxRecDepth 100000 in
theorem gblocks_any (w : World) {lo X rx : Nat} {last : Int} {L : List (Int × Value)} {vs : Int → List (Int × List UInt8)} (h : VerG w lo X rx last L vs) : Calls Tryz.prog 116 #[.pointer (some ⟨X, 0, none⟩)] w fun e w' => e = .returned (.int .i64 258) ∧ w = w' := by
  have c0 : w.cell? ⟨X, 0, none⟩ = some (.int .i64 258) := cell_is h.x 0 rfl
  clear h
  go_enter Tryz.func116, Tryz.ntmps116
  go_wp2_with fail
  go_ret
  exact ⟨rfl, rfl⟩
set_option maxRecDepth 100000 in
theorem gblock_any (w : World) {lo X rx : Nat} {last : Int} {L : List (Int × Value)} {vs : Int → List (Int × List UInt8)} {b : Int} (h : VerG w lo X rx last L vs) (h0 : 0 ≤ b) (h1 : b < 258) : Calls Tryz.prog 198 #[.pointer (some ⟨X, 0, none⟩), .int .i64 b] w fun e w' => e = .returned (.bool true) ∧ w = w' := by
  have HB := Lib.hid (gblocks_any w h)
  clear h
  go_enter Tryz.func198, Tryz.ntmps198
  go_wp2_with fail
  refine HB.out.mono ?_
  rintro e w1 ⟨rfl, rfl⟩
  go_wp2_with fail
  go_ret
  exact ⟨by simp, rfl⟩
set_option maxRecDepth 100000 in
set_option maxHeartbeats 1000000 in
theorem gwithin_one (w : World) {lo X rx : Nat} {last : Int} {L : List (Int × Value)} {vs : Int → List (Int × List UInt8)} {b : Int} (h : VerG w lo X rx last L vs) (h0 : 0 ≤ b) (h1 : b < 258) : Calls Tryz.prog 243 #[.pointer (some ⟨X, 0, none⟩), .agg #[.int .i64 b, .int .i64 1]] w fun e w' => e = .returned (.bool true) ∧ Chg [] w w' := by
  have kc : Chg [] w (w.alloc (.cells #[.int .i64 b, .int .i64 1] 79)) := Chg.alloc w _
  have h2 : VerG (w.alloc (.cells #[.int .i64 b, .int .i64 1] 79)) lo X rx last L vs := h.keep kc
  have a0 : (w.alloc (.cells #[.int .i64 b, .int .i64 1] 79)).cell? ⟨w.heap.size, 0, none⟩ = some (.int .i64 b) := cell_is (heap_new w _) 0 rfl
  have a1 : (w.alloc (.cells #[.int .i64 b, .int .i64 1] 79)).cell? ⟨w.heap.size, 1, none⟩ = some (.int .i64 1) := cell_is (heap_new w _) 1 rfl
  have n0 : decide (0 ≤ b) = true := decide_eq_true h0
  clear h
  go_enter Tryz.func243, Tryz.ntmps243
  go_wp2_with fail
  generalize w.alloc (.cells #[.int .i64 b, .int .i64 1] 79) = w1 at *
  generalize w.heap.size = z at *
  have h3 : VerG w1.drew lo X rx last L vs := h2.keep (Chg.refl [] w1).drew
  go_region_held3 (fun wx => wx.cell? ⟨z, 0, none⟩ = some (.int .i64 b) ∧ wx.cell? ⟨z, 1, none⟩ = some (.int .i64 1)) (first | (exact ⟨a0, a1⟩))
    (first | (go_at_call 116; refine (gblocks_any w1.drew h3).mono ?_; rintro e w2 ⟨rfl, rfl⟩))
  all_goals
    go_wp2_with fail
    go_ret
    exact ⟨by simp [show IntKind.i64.wrap 257 = 257 by decide]; omega, kc.drew⟩
theorem lookup258g {w : World} {r : Nat} {L : List (Int × Value)} (hM : MapAt w r L) (k : Int) :
    (Instr.lookup 268 (.map (some r)) (.int .i64 k) false).run Tryz.prog w = .ok ((getL L k).getD (.slice none 0 0)) w := lookup258 hM k false
set_option maxRecDepth 100000 in
set_option maxHeartbeats 1000000 in
theorem gat_any (w : World) {lo X rx : Nat} {last : Int} {L : List (Int × Value)} {vs : Int → List (Int × List UInt8)} {b t : Int} (h : VerG w lo X rx last L vs) (h0 : 0 ≤ b) (h1 : b < 258) : Calls Tryz.prog 200 #[.pointer (some ⟨X, 0, none⟩), .int .i64 b, .int .i64 t] w fun e w' =>
    w = w' ∧ ((e = .returned (.int .i64 (-1)) ∧ verT (vs b) t = none) ∨ ∃ k : Nat, e = .returned (.int .i64 k) ∧ ∃ hk : k < (vs b).length, verT (vs b) t = some (vs b)[k]) := by
  have c1 : w.cell? ⟨X, 1, none⟩ = some (.map (some rx)) := cell_is h.x 1 rfl
  have hl := lookup258g h.m b
  have hrow : ∃ pa c xs, (getL L b).getD (.slice none 0 0) = .slice pa (vs b).length c ∧ (vs b).length ≤ c ∧ w.ownsRow lo 288 2 (.slice pa (vs b).length c) (vs b).length xs ∧ ∀ i (h : i < (vs b).length), xs[i * 2]? = some (.int .i64 (vs b)[i].1) := by
    rcases h.row b h0 h1 with ⟨e1, e2⟩ | ⟨v, e1, ⟨xs, ho, hx⟩, -⟩
    · rw [e1, e2]
      exact ⟨none, 0, [], rfl, Nat.le_refl _, World.ownsRow_nil _ _ _ _, fun i h => by simp at h⟩
    · obtain ⟨pa, c, rfl, hc⟩ := own_form ho
      rw [e1]
      exact ⟨pa, c, xs, rfl, hc, ho, fun i hi => (hx i hi).1⟩
  have hsm := h.small b
  obtain ⟨pa, c, xs, e1, hcap, ho, hx⟩ := hrow
  rw [e1] at hl
  clear h e1
  have HO := Lib.hid ho
  have HX := Lib.hid hx
  clear ho hx
  generalize vs b = l at *
  go_enter Tryz.func200, Tryz.ntmps200
  go_wp2_with fail
  go_step3
  go_wp2_with fail
  go_step3
  go_wp2_with fail
  go_loop [8] (fun i => ∃ k : Nat, k ≤ l.length ∧ i = .int .i64 ((k : Int) - 1) ∧ verT (l.take k) t = verT l t) (fun i => (intOf i + 1).toNat)
  case atStart => exact ⟨l.length, Nat.le_refl _, rfl, by rw [List.take_length]⟩
  case round =>
    obtain ⟨k, hk, rfl, hv⟩ := hrel
    by_cases hk0 : k = 0
    · subst hk0
      have e1 : ((0 : Nat) : Int) - 1 = -1 := rfl
      rw [e1]
      go_wp2_with fail
      go_ret
      exact ⟨rfl, Or.inl ⟨rfl, by rw [← hv]; rfl⟩⟩
    · obtain ⟨j, rfl⟩ : ∃ j, k = j + 1 := ⟨k - 1, by omega⟩
      have hj : j < l.length := by omega
      have e1 : ((j + 1 : Nat) : Int) - 1 = j := by omega
      rw [e1]
      have hkn : ¬ l.length = 0 := by omega
      obtain ⟨g, cap, cur, hcur, hpa, hcells⟩ : ∃ g cap cur, w.heap[g]? = some (.cells cur 288 (0, 0)) ∧ Value.slice pa l.length c = .slice (some ⟨g, 0, none⟩) l.length cap ∧ w.cell? ⟨g, j * 2, none⟩ = some (.int .i64 l[j].1) := by
        rcases HO.out.2 with ⟨_, h0⟩ | ⟨g, cap, cur, e, hA, hg, hc1, hc2, hc3, ht⟩
        · exact absurd h0 hkn
        · refine ⟨g, cap, cur, hg, e, cell_is hg (j * 2) ?_⟩
          have h1 := HX.out j hj
          rw [← ht] at h1
          rw [List.getElem?_take_of_lt (by omega), Array.getElem?_toList] at h1
          exact h1
      cases hpa
      have hs : verT (l.take (j + 1)) t = if l[j].1 ≤ t then some l[j] else verT (l.take j) t := by
        unfold verT
        rw [List.take_succ_eq_append_getElem hj, List.reverse_append]
        by_cases hle : l[j].1 ≤ t
        · simp [hle]
        · simp [hle]
      rw [hv] at hs
      have HS := Lib.hid hs
      clear hs hv
      by_cases hle : l[j].1 ≤ t
      · have e2 : decide (l[j].1 ≤ t) = true := decide_eq_true hle
        have HR := Lib.hid (show verT l t = some l[j] by rw [HS.out, if_pos hle])
        clear hle HS
        generalize hlj : l[j].1 = tj at *
        go_wp2_with fail
        go_ret
        exact ⟨rfl, Or.inr ⟨j, rfl, hj, HR.out⟩⟩
      · have e2 : decide (l[j].1 ≤ t) = false := decide_eq_false hle
        have HR := Lib.hid (show verT l t = verT (l.take j) t by rw [HS.out, if_neg hle])
        clear hle HS
        generalize hlj : l[j].1 = tj at *
        go_wp2_with fail
        go_round
        case rel => exact ⟨j, by omega, by simp, HR.out.symm⟩
        case measure => simp [intOf]
/-- one version, at its place. -/
theorem VRow.get {w : World} {lo : Nat} {v : Value} {l : List (Int × List UInt8)} (h : VRow w lo v l) (k : Nat) (hk : k < l.length) : ∃ g cap gd cd, v = .slice (some ⟨g, 0, none⟩) l.length cap ∧ l.length ≤ cap ∧
    w.cell? ⟨g, k * 2, none⟩ = some (.int .i64 l[k].1) ∧ w.cell? ⟨g, k * 2 + 1, none⟩ = some (.slice (some ⟨gd, 0, none⟩) 40 cd) ∧ Bs w (some ⟨gd, 0, none⟩) l[k].2 ∧ l[k].2.length = 40 ∧ Bt w gd := by
  obtain ⟨xs, ho, hx⟩ := h
  obtain ⟨h0, gd, cd, h1, h2, h3, h4⟩ := hx k hk
  rcases ho.2 with ⟨_, e⟩ | ⟨g, cap, cur, rfl, hA, hg, hc1, hc2, hc3, ht⟩
  · omega
  · refine ⟨g, cap, gd, cd, rfl, hc1, cell_is hg _ ?_, cell_is hg _ ?_, h2, h3, h4⟩
    · rw [← ht, List.getElem?_take_of_lt (by omega), Array.getElem?_toList] at h0
      exact h0
    · rw [← ht, List.getElem?_take_of_lt (by omega), Array.getElem?_toList] at h1
      exact h1
set_option maxRecDepth 100000 in
set_option maxHeartbeats 2000000 in
theorem gget_any (w : World) {lo X rx : Nat} {last : Int} {L : List (Int × Value)} {vs : Int → List (Int × List UInt8)} {b t : Int} (h : VerG w lo X rx last L vs) (h0 : 0 ≤ b) (h1 : b < 258) : Calls Tryz.prog 244 #[.pointer (some ⟨X, 0, none⟩), .int .i64 b, .int .i64 t] w fun e w' =>
    ∃ g c tm, e = .returned (.tuple #[.slice (some ⟨g, 0, none⟩) 40 c, .int .i64 tm]) ∧ Chg [] w w' ∧ Bs w' (some ⟨g, 0, none⟩) (bytT (vs b) t) ∧ w.heap.size ≤ g ∧ (bytT (vs b) t).length = 40 := by
  have hmk := make40
  have HB := Lib.hid (gblock_any w h h0 h1)
  have HA := Lib.hid (gat_any w (b := b) (t := t) h h0 h1)
  have kc : Chg [] w (w.alloc (.cells zero40 5)) := Chg.alloc w _
  have hz : Bs (w.alloc (.cells zero40 5)) (some ⟨w.heap.size, 0, none⟩) zeroB := by
    rw [zero40_is]
    exact Bs.row (heap_new w _)
  have c1 : w.cell? ⟨X, 1, none⟩ = some (.map (some rx)) := cell_is h.x 1 rfl
  have HL := Lib.hid (lookup258g h.m b)
  have HR := Lib.hid (h.row b h0 h1)
  have hsm := h.small b
  clear h
  go_enter Tryz.func244, Tryz.ntmps244
  go_wp2_with fail
  refine HB.out.mono ?_
  rintro e w1 ⟨rfl, rfl⟩
  go_wp2_with fail
  refine HA.out.mono ?_
  rintro e w1 ⟨rfl, ⟨rfl, hv⟩ | ⟨k, rfl, hk, hv⟩⟩
  · have hy : bytT (vs b) t = zeroB := by unfold bytT; rw [hv]; rfl
    go_wp2_with fail
    go_ret2
    exact ⟨_, _, _, rfl, kc, by rw [hy]; exact hz, Nat.le_refl _, by rw [hy]; rfl⟩
  · have hy : bytT (vs b) t = (vs b)[k].2 := by unfold bytT; rw [hv]; rfl
    rcases HR.out with ⟨_, e⟩ | ⟨v, e1, hr, _⟩
    · rw [e] at hk; simp at hk
    · obtain ⟨g, cap, gd, cd, rfl, hcap, d0, d1, hb2, hl2, -⟩ := hr.get k hk
      have hl := HL.out
      rw [e1, Option.getD_some] at hl
      have HB2 := Lib.hid hb2
      have HL2 := Lib.hid hl2
      have HY := Lib.hid hy
      have hkk : (k : Int) < (vs b).length := by omega
      clear kc hz hb2 hl2 hy hr e1 hv
      generalize hj : (vs b)[k].1 = tj at *
      go_wp2_with fail
      have ka : Chg [] w (w.alloc (.cells #[.int .i64 tj, .slice (some ⟨gd, 0, none⟩) 40 cd] 288)) := Chg.alloc w _
      have za := heap_new w (.cells #[.int .i64 tj, .slice (some ⟨gd, 0, none⟩) 40 cd] 288)
      have HB3 := Lib.hid ((HB2.out.chg ka).chg (Chg.refl [] _).drew)
      generalize w.alloc (.cells #[.int .i64 tj, .slice (some ⟨gd, 0, none⟩) 40 cd] 288) = w2 at *
      generalize hzz : w.heap.size = z at *
      have e0 : w2.cell? ⟨z, 0, none⟩ = some (.int .i64 tj) := cell_is za 0 rfl
      have e1 : w2.cell? ⟨z, 1, none⟩ = some (.slice (some ⟨gd, 0, none⟩) 40 cd) := cell_is za 1 rfl
      go_region_held3 (fun wx => wx.cell? ⟨z, 0, none⟩ = some (.int .i64 tj) ∧ wx.cell? ⟨z, 1, none⟩ = some (.slice (some ⟨gd, 0, none⟩) 40 cd)) (first | (with_reducible exact ⟨f0, f1⟩) | (exact ⟨e0, e1⟩))
        (first | (go_at_call 126; refine (clone_bs w2.drew HL2.out (by decide) (by decide) HB3.out).mono ?_; rintro e w6 ⟨g6, c6, rfl, k6, b6, l6⟩; have f0 := k6.cell (show w2.drew.cell? ⟨z, 0, none⟩ = _ from e0) (by simp); have f1 := k6.cell (show w2.drew.cell? ⟨z, 1, none⟩ = _ from e1) (by simp)))
      all_goals
        have hsz := ka.size
        have hd : w2.drew.heap.size = w2.heap.size := rfl
        go_wp2_with fail
        go_ret2
        exact ⟨g6, c6, tj, rfl, ka.drew.then k6, by rw [HY.out]; exact b6, by omega, by rw [HY.out]; exact HL2.out⟩
set_option maxRecDepth 100000 in
set_option maxHeartbeats 1000000 in
theorem grange_one (w : World) {lo X rx : Nat} {last : Int} {L : List (Int × Value)} {vs : Int → List (Int × List UInt8)} {b t : Int} (h : VerG w lo X rx last L vs) (h0 : 0 ≤ b) (h1 : b < 258) : Calls Tryz.prog 215 #[.pointer (some ⟨X, 0, none⟩), .agg #[.int .i64 b, .int .i64 1], .int .i64 t] w fun e w' =>
    ∃ g c', e = .returned (.tuple #[.slice (some ⟨g, 0, none⟩) 40 c', .int .i64 0]) ∧ 40 ≤ c' ∧ Chg [] w w' ∧ w'.ownsRow w.heap.size 5 1 (.slice (some ⟨g, 0, none⟩) 40 c') 40 (Lib.byteCells (bytT (vs b) t)) ∧ (bytT (vs b) t).length = 40 := by
  have kc : Chg [] w (w.alloc (.cells #[.int .i64 b, .int .i64 1] 79)) := Chg.alloc w _
  have h2 : VerG (w.alloc (.cells #[.int .i64 b, .int .i64 1] 79)) lo X rx last L vs := h.keep kc
  have a0 : (w.alloc (.cells #[.int .i64 b, .int .i64 1] 79)).cell? ⟨w.heap.size, 0, none⟩ = some (.int .i64 b) := cell_is (heap_new w _) 0 rfl
  have a1 : (w.alloc (.cells #[.int .i64 b, .int .i64 1] 79)).cell? ⟨w.heap.size, 1, none⟩ = some (.int .i64 1) := cell_is (heap_new w _) 1 rfl
  clear h
  go_enter Tryz.func215, Tryz.ntmps215
  go_wp2_with fail
  generalize w.alloc (.cells #[.int .i64 b, .int .i64 1] 79) = w1 at *
  generalize hz : w.heap.size = z at *
  refine (gwithin_one w1 h2 h0 h1).mono ?_
  rintro e w2 ⟨rfl, k2⟩
  have h3 : VerG w2 lo X rx last L vs := h2.keep k2
  have b0 := k2.cell a0 (by simp)
  have b1 := k2.cell a1 (by simp)
  have kk := kc.then k2
  have hs2 := kk.size
  clear h2 a0 a1 kc k2
  go_wp2_with fail
  go_loopw [6, 17] (fun v i wr => (i = .int .i64 0 ∧ v = .slice none 0 0 ∧ wr = w2) ∨ (i = .int .i64 1 ∧ Chg [] w wr ∧ wr.ownsRow z 5 1 v 40 (Lib.byteCells (bytT (vs b) t)) ∧ (bytT (vs b) t).length = 40)) (fun _ i _ => 1 - (intOf i).toNat)
  case atStart => exact Or.inl ⟨rfl, rfl, rfl⟩
  case round =>
    rcases hrel with ⟨rfl, rfl, rfl⟩ | ⟨rfl, k5, ho, hl⟩
    · go_wp2_with fail
      refine (gget_any wr (t := t) h3 h0 h1).mono ?_
      rintro e w3 ⟨g, cg, tm, rfl, k3, hb3, l3, hlen⟩
      have hs3 : z ≤ w3.heap.size := Nat.le_trans (by omega) k3.size
      have HB3 := Lib.hid hb3
      have HLn := Lib.hid hlen
      clear hb3 hlen
      go_wp2_with (at_builtin; refine wpList_append_bs rfl (.tmp 30) (.tmp 31) 47 5 rfl ty23 inf5c z _ 0 [] rfl (World.ownsRow_nil _ _ _ _) _ 40 cg (bytT (vs b) t) rfl HLn.out HB3.out (by omega) hs3 ?_; intro v1 w4 h4)
      go_roundw
      case rel => exact Or.inr ⟨rfl, Chg.of_below ((kk.then k3).below0.trans (by rw [hz]; exact h4.2.1)), by simpa using h4.1, HLn.out⟩
      case measure => decide
    · go_wp2_with fail
      go_ret2
      rcases ho.2 with ⟨e, h0⟩ | ⟨g, cap, cur, e, hA, hr⟩
      · cases h0
      · subst hz
        refine ⟨g, cap, by rw [e]; rfl, ?_, k5, by rw [← e]; exact ho, hl⟩
        have := own_form ho
        obtain ⟨pa, c, h5, h6⟩ := this
        rw [e] at h5
        cases h5
        exact h6
end Go.Proofs.YtelakcjbknbehaaGreat
namespace Go.Proofs.YtelakcjbknbehaaGreat
open Go.RowKit Go.Lib

/-- block Q is a view of a time t. -/
def ViewT (w : World) (Q X W V : Nat) (t : Int) (v : Value) : Prop := w.heap[Q]? = some (.cells #[.pointer (some ⟨X, 0, none⟩), .pointer (some ⟨W, 0, none⟩), .int .i64 t, .pointer (some ⟨V, 0, none⟩), v] 274 (0, 0))
/-- .. with at most n reads in a row behind base. -/
def VwT (w : World) (base Q X W V : Nat) (t : Int) (n : Nat) : Prop := ∃ s m xs, ViewT w Q X W V t s ∧ m ≤ 17 * n + 100000 ∧ w.ownsRow base 255 3 s m xs
theorem VwT.keep {w w' : World} {S : List Nat} {base Q X W V n : Nat} {t : Int} (h : VwT w base Q X W V t n) (hc : Chg S w w') (hS : Av w S [274, 255]) : VwT w' base Q X W V t n := by
  obtain ⟨s, m, xs, h1, h2, h3⟩ := h
  refine ⟨s, m, xs, hc.heap h1 (hS.ne h1 (by simp)), h2, h3.1, ?_⟩
  rcases h3.2 with hn | ⟨g, cap, cur, hv, hb, hg, rest⟩
  · exact Or.inl hn
  · exact Or.inr ⟨g, cap, cur, hv, hb, hc.heap hg (hS.ne hg (by simp)), rest⟩
theorem Vw.full {w : World} {base Q X W V n : Nat} (h : Vw w base Q X W V n) : VwT w base Q X W V 0 n := by
  obtain ⟨s, m, xs, h1, h2, h3⟩ := h
  exact ⟨s, m, xs, h1, by omega, h3⟩
/-- a block's bytes: one's own write, or what the versions have at a time. -/
def BlkT (w : World) (L : List (Int × Value)) (vb : List (Int × List UInt8)) (t b : Int) (l : List UInt8) : Prop := (getL L b = none ∧ l = bytT vb t) ∨ ∃ g c, getL L b = some (.slice (some ⟨g, 0, none⟩) 40 c) ∧ Bs w (some ⟨g, 0, none⟩) l ∧ l.length = 40 ∧ Bt w g
theorem BlkT.keepT {w w' : World} {T : List Nat} {base : Nat} {L : List (Int × Value)} {vb : List (Int × List UInt8)} {t b : Int} {l : List UInt8} (h : BlkT w L vb t b l) (hc : Chg T w w') (hT : Rt w base T) : BlkT w' L vb t b l := by
  rcases h with h | ⟨g, c, h1, h2, h3, cs, hcs⟩
  · exact Or.inl h
  · have hg := hT.cells hcs (by simp)
    exact Or.inr ⟨g, c, h1, h2.chgT hc hg, h3, cs, hc.heap hcs hg⟩
theorem BlkT.keep {w w' : World} {L : List (Int × Value)} {vb : List (Int × List UInt8)} {t b : Int} {l : List UInt8} (h : BlkT w L vb t b l) (hc : Chg [] w w') : BlkT w' L vb t b l := h.keepT hc (Rt.nil w 0)
end Go.Proofs.YtelakcjbknbehaaGreat
namespace Go.Proofs.YtelakcjbknbehaaGreat
open Go.RowKit Go.Lib

set_option maxRecDepth 100000 in
theorem inewm_any (w : World) (k : Nat) : Calls Tryz.prog 181 #[.int .i64 k] w fun e w' => ∃ V, e = .returned (.pointer (some ⟨V, 0, none⟩)) ∧ Chg [] w w' ∧ SpW w' w.heap.size V k 0 ∧ w.heap.size ≤ V := by
  have h1 := heap_new w (.cells #[.int .i64 k, .slice none 0 0] 305)
  have hc : Chg [] w (w.alloc (.cells #[.int .i64 k, .slice none 0 0] 305)) := Chg.alloc w _
  go_enter Tryz.func181, Tryz.ntmps181
  go_wp2_with fail
  go_ret
  exact ⟨_, rfl, hc, ⟨_, [], h1, Nat.le_refl _, World.ownsRow_nil _ _ _ _⟩, Nat.le_refl _⟩
set_option maxRecDepth 100000 in
set_option maxHeartbeats 1000000 in
theorem clonesp_any (w : World) {pa : Option Addr} {m c : Nat} {l : List (Int × Int)} (hl : l.length = m) (hm : m ≤ 1000) (hs : SpQ w pa l) (hn0 : pa = none → m = 0 ∧ c = 0) : Calls Tryz.prog 250 #[.slice pa m c] w fun e w' => ∃ pb cb, e = .returned (.slice pb m cb) ∧ Chg [] w w' ∧ SpQ w' pb l := by
  rcases hs with ⟨rfl, rfl⟩ | ⟨b, o, rfl, hs⟩
  · obtain ⟨rfl, rfl⟩ := hn0 rfl
    have hq : ∀ w, (binOp .eql 175 (.slice none 0 0) (.slice none 0 0)).run Tryz.prog w = .ok (.bool true) w := fun w => by kernel_rfl
    go_enter Tryz.func250, Tryz.ntmps250
    go_wp2_with fail
    go_ret
    first | exact ⟨none, 0, rfl, Chg.refl _ _, Or.inl ⟨rfl, rfl⟩⟩ | exact ⟨none, ⟨0, rfl⟩, Chg.refl _ _, Or.inl ⟨rfl, rfl⟩⟩ | exact ⟨Chg.refl _ _, Or.inl ⟨rfl, rfl⟩⟩
  · have hq : ∀ w, (binOp .eql 175 (.slice (some ⟨b, o, none⟩) m c) (.slice none 0 0)).run Tryz.prog w = .ok (.bool false) w := fun w => Lib.run_eql_slice_nil w 175 79 _ _ _ 0 0 ty217
    have HB := Lib.hid (show SpQ w (some ⟨b, o, none⟩) l from Or.inr ⟨b, o, rfl, hs⟩)
    have HL := Lib.hid hl
    clear hs hl
    go_enter Tryz.func250, Tryz.ntmps250
    go_wp2_with (first | (at_builtin; refine wpList_append_spq rfl (.tmp 5) (.tmp 6) rfl w.heap.size _ 0 [] l rfl (own_empty2 w) (some ⟨b, o, none⟩) m c rfl HL.out (HB.out.keep (Chg.alloc w _)) (by omega) (by simp) ?_; intro v1 w1 h1))
    go_ret
    have h2 : w1.ownsRow w.heap.size 79 2 v1 l.length (spCells l) := by simpa [HL.out] using h1.1
    obtain ⟨pb, cb, rfl, hq⟩ := own_spq h2
    exact ⟨pb, cb, by show Ending.returned (.slice pb l.length cb) = _; rw [HL.out], Chg.of_below ((Below.of_alloc w _).trans h1.2.1), hq⟩
set_option maxRecDepth 100000 in
theorem extents_any (w : World) {base V most n : Nat} (h : SpW w base V most n) (hn : n ≤ 1000) : Calls Tryz.prog 226 #[.pointer (some ⟨V, 0, none⟩)] w fun e w' => ∃ pb m cb l, e = .returned (.slice pb m cb) ∧ Chg [] w w' ∧ SpQ w' pb l ∧ l.length = m ∧ m ≤ n := by
  obtain ⟨v, l, hV, hl, ho⟩ := h
  obtain ⟨pa, c, rfl, hq⟩ := own_spq ho
  have v1 : w.cell? ⟨V, 1, none⟩ = some (.slice pa l.length c) := cell_is hV 1 rfl
  have h0 : pa = none → l.length = 0 ∧ c = 0 := by
    rintro rfl
    rcases ho.2 with ⟨e, h0⟩ | ⟨g, cap, cur, e, _⟩
    · injection e with _ _ e3; exact ⟨h0, e3⟩
    · injection e with e1; cases e1
  have HC := Lib.hid (clonesp_any w (c := c) rfl (by omega) hq h0)
  clear hV ho hq h0
  go_enter Tryz.func226, Tryz.ntmps226
  go_wp2_with fail
  refine HC.out.mono ?_
  rintro e w1 ⟨pb, cb, rfl, k, hq⟩
  go_wp2_with fail
  go_ret
  exact ⟨pb, l.length, cb, l, rfl, k, hq, rfl, hl⟩
/-- an int is handed back. -/
def isI (e : Ending) : Prop := ∃ r : Int, e = .returned (.int .i64 r)
set_option maxRecDepth 100000 in
set_option maxHeartbeats 1000000 in
theorem count_any (w : World) {base V most n : Nat} (h : SpW w base V most n) (hn : n ≤ 1000) : Calls Tryz.prog 225 #[.pointer (some ⟨V, 0, none⟩)] w fun e w' => isI e ∧ Chg [] w w' := by
  have HE := Lib.hid (extents_any w h hn)
  clear h
  go_enter Tryz.func225, Tryz.ntmps225
  go_wp2_with fail
  refine HE.out.mono ?_
  rintro e w1 ⟨pb, m, cb, l, rfl, k1, hq, hl, hm⟩
  have HQ := Lib.hid hq
  clear hq
  go_wp2_with fail
  go_loopw [2, 4, 8] (fun s _ i wr => ∃ (j : Nat) (r : Int), j ≤ m ∧ i = .int .i64 j ∧ s = .int .i64 r ∧ Chg [] w1 wr) (fun _ _ i _ => m - (intOf i).toNat)
  case atStart => exact ⟨0, 0, by omega, rfl, rfl, Chg.refl _ _⟩
  case round =>
    obtain ⟨j, r, hj, rfl, rfl, kr⟩ := hrel
    by_cases hlt : j < m
    · obtain ⟨b, o, rfl, c0, c1⟩ := (HQ.out.keep kr).get j (by omega)
      generalize (l[j]'(by omega)).1 = x at *
      generalize (l[j]'(by omega)).2 = y at *
      go_wp2_with fail
      go_roundw
      case rel => exact ⟨j + 1, _, by omega, by simp, rfl, kr.then_alloc _⟩
      case measure => simp [intOf]; omega
    · obtain rfl : j = m := by omega
      go_wp2_with fail
      go_ret
      exact ⟨⟨_, rfl⟩, k1.then kr⟩
set_option maxRecDepth 100000 in
set_option maxHeartbeats 1000000 in
theorem vset_any (w : World) {base Q X W V n : Nat} {t : Int} (h : VwT w base Q X W V t n) (hs : SpV w base V n) (hn : n ≤ 16) : Calls Tryz.prog 189 #[.pointer (some ⟨Q, 0, none⟩)] w fun e w' => ∃ U lo, e = .returned (.pointer (some ⟨U, 0, none⟩)) ∧ Chg [] w w' ∧ SpW w' lo U 64 n ∧ w.heap.size ≤ U := by
  obtain ⟨s, m, xs, hq, -, -⟩ := h
  have HN := Lib.hid (inewm_any w 64)
  have hsz := heap_lt hq
  have HQ := Lib.hid hq
  have HS := Lib.hid hs.to
  clear hq hs
  go_enter Tryz.func189, Tryz.ntmps189
  go_wp2_with fail
  refine HN.out.mono ?_
  rintro e w1 ⟨U, rfl, k1, hU, lU⟩
  have q3 : w1.cell? ⟨Q, 3, none⟩ = some (.pointer (some ⟨V, 0, none⟩)) := cell_is (k1.heap HQ.out (by simp)) 3 rfl
  have hs1 := HS.out.keep0 k1
  have HU := Lib.hid hU
  clear hU
  go_wp2_with fail
  refine (extents_any w1 hs1 (by omega)).mono ?_
  rintro e w2 ⟨pb, m2, cb, l, rfl, k2, hq2, hl2, hm2⟩
  have hU2 := HU.out.keep0 k2
  go_wp2_with fail
  refine (iadd_any w2 (m := m2) hU2 (by omega) (by have := (k1.then k2).size; omega) hl2 hq2).mono ?_
  rintro e w3 ⟨r, rfl, k3, hU3⟩
  go_wp2_with fail
  go_ret
  refine ⟨U, w.heap.size, rfl, (k1.then k2).trans k3 (fun x hx hlt => by rw [List.mem_singleton] at hx; omega), ?_, lU⟩
  obtain ⟨v, l3, h1, h2, h3⟩ := hU3
  exact ⟨v, l3, h1, by omega, h3⟩
end Go.Proofs.YtelakcjbknbehaaGreat
namespace Go.Proofs.YtelakcjbknbehaaGreat
open Go.RowKit Go.Maps Go.Sort Go.Shelf

/-- a map without one key. -/
def delL : List (Int × Value) → Int → List (Int × Value)
  | [], _ => []
  | p :: l, k => if k = p.1 then l else p :: delL l k
theorem delL_none {L : List (Int × Value)} {k : Int} {i : Nat} (h : findL L k i = none) : delL L k = L := by
  induction L generalizing i with
  | nil => rfl
  | cons p l ih =>
    simp only [findL] at h
    split at h
    · cases h
    · rename_i hk
      simp only [delL, if_neg hk, ih h]
theorem delL_some {L : List (Int × Value)} {k : Int} {i : Nat} {x : Nat × Value} (h : findL L k i = some x) : delL L k = L.eraseIdx (x.1 - i) := by
  induction L generalizing i with
  | nil => cases h
  | cons p l ih =>
    simp only [findL] at h
    split at h
    · rename_i hk
      injection h with h
      subst h
      simp [delL, hk]
    · rename_i hk
      have h2 := findL_ge h
      have e : x.1 - i = (x.1 - (i + 1)) + 1 := by omega
      rw [e]
      simp only [delL, if_neg hk, ih h, List.eraseIdx_cons_succ]
theorem erase_map {α β : Type} (f : α → β) (l : List α) (i : Nat) : (l.eraseIdx i).map f = (l.map f).eraseIdx i := by
  induction l generalizing i with
  | nil => rfl
  | cons a l ih =>
    cases i with
    | zero => rfl
    | succ i => simp [ih]
theorem run_delete_im {P : Program} {w : World} {mty kt et : TypeId} (hm : P.underlying mty = some (.map kt et)) (hk : P.underlying kt = some (.int .i64)) {r : Nat} {L : List (Int × Value)} (hM : MapAt w r L) (k : Int) (ty : TypeId) :
    ∃ w', (Builtin.delete_ #[mty, kt] ty #[.map (some r), .int .i64 k]).run P w = .ok (.tuple #[]) w' ∧ MapAt w' r (delL L k) ∧ Chg [r] w w' ∧ w'.heap.size = w.heap.size := by
  obtain ⟨es, clock, hb, hI, hS⟩ := hM
  have hf := findNow_im .i64 k es.toList L hI 0
  have hc : ∀ e, (Instr.checkKey e 10000 kt (.int .i64 k)).run P w = .ok () w := fun e => MapKept.run_checkKey (k := .int .i64 k) hk (by simp [MapKept.IsKey]) e 9999
  cases hfl : findL L k 0 with
  | none =>
    rw [hfl] at hf
    refine ⟨mapSet w r (.map es clock), ?_, ⟨_, _, mapSet_heap hb, ?_, hS⟩, mapSet_chg _ _ _, by simp [mapSet]⟩
    · simp [Builtin.delete_, run_underlying hm, MapKept.run_getObj_map hb, hc, MapKept.run_findKey hk hf, MapKept.run_setObj_map _ hb, Result.andThen, mapSet]
    · rw [delL_none hfl]
      exact hI
  | some x =>
    rw [hfl] at hf
    obtain ⟨i, u⟩ := x
    refine ⟨mapSet w r (.map (es.eraseIdxIfInBounds i) clock), ?_, ⟨_, _, mapSet_heap hb, ?_, MapKept.stamped_erase hS i⟩, mapSet_chg _ _ _, by simp [mapSet]⟩
    · simp [Builtin.delete_, run_underlying hm, MapKept.run_getObj_map hb, hc, MapKept.run_findKey hk hf, MapKept.run_setObj_map _ hb, Result.andThen, mapSet]
    · rw [delL_some hfl]
      unfold IM at hI ⊢
      have e : (es.eraseIdxIfInBounds i).toList = es.toList.eraseIdx i := by
        unfold Array.eraseIdxIfInBounds
        split
        · simp
        · rename_i h
          rw [List.eraseIdx_of_length_le]
          simpa using h
      rw [e, Nat.sub_zero, erase_map, erase_map, hI]
/-- ints in order. -/
def sortI (l : List Int) : List Int := l.mergeSort (fun x y => decide (x ≤ y))
theorem sortI_perm (l : List Int) : (sortI l).Perm l := List.mergeSort_perm l _
theorem sortI_length (l : List Int) : (sortI l).length = l.length := (sortI_perm l).length_eq
theorem owns_any {w : World} {r : Nat} {L : List (Int × Value)} (h : MapAt w r L) (k : TypeId) (hk : Tryz.prog.underlying k = some (.int .i64)) (hw : ∀ p ∈ L, (Lit.int .i64 p.1).wf = true) (hl : L.length ≤ maxLen) :
    ∃ D : DataW Unit, w.ownsMap Tryz.prog k (fun _ => some (.nil, [])) r L.length D ∧ (intKeys D).Perm (L.map Prod.fst) ∧ Maps.size D = L.length := by
  obtain ⟨es, clock, hb, hI, hS⟩ := h
  have hrd : ∀ x ∈ es.toList, ∃ a : Int, Go.WideElems.rd Tryz.prog k (fun _ => some ((.nil : DataW Unit), [])) x = some (.int .i64 a, .nil) ∧ x.key = .int .i64 a := by
    intro x hx
    have h1 : (x.key, x.val) ∈ es.toList.map (fun e => (e.key, e.val)) := List.mem_map.2 ⟨x, hx, rfl⟩
    rw [hI] at h1
    obtain ⟨p, hp, e⟩ := List.mem_map.1 h1
    have e1 : x.key = .int .i64 p.1 := (congrArg Prod.fst e).symm
    refine ⟨p.1, ?_, e1⟩
    unfold Go.WideElems.rd
    rw [e1, Go.Maps.keyOf_int_mk hk (hw p hp)]
    rfl
  have hlen : es.size = L.length := by
    have := congrArg List.length hI
    simpa using this
  have hmap : (es.toList.map (Go.WideElems.rg Tryz.prog k (fun _ => some ((.nil : DataW Unit), [])))).map (fun p => Go.intOf p.1) = L.map Prod.fst := by
    have e1 : (es.toList.map (Go.WideElems.rg Tryz.prog k (fun _ => some ((.nil : DataW Unit), [])))).map (fun p => Go.intOf p.1) = es.toList.map (fun x => match x.key with | .int _ a => a | _ => 0) := by
      rw [List.map_map]
      refine List.map_congr_left (fun x hx => ?_)
      obtain ⟨a, h1, h2⟩ := hrd x hx
      simp only [Function.comp, Go.WideElems.rg, h1, Option.getD_some, h2]
      rfl
    have e2 : es.toList.map (fun x => match x.key with | .int _ a => a | _ => 0) = (es.toList.map (fun e => (e.key, e.val))).map (fun p => match p.1 with | .int _ a => a | _ => 0) := by
      rw [List.map_map]; rfl
    rw [e1, e2, hI, List.map_map]
    rfl
  refine ⟨.map ((es.toList.map (Go.WideElems.rg Tryz.prog k (fun _ => some (.nil, [])))).foldr DataW.insert []), ⟨es, clock, hb, ⟨by omega, hS, fun x hx => ?_⟩, by omega, rfl⟩, ?_, ?_⟩
  · obtain ⟨a, h1, _⟩ := hrd x hx
    exact ⟨_, h1⟩
  · rw [← hmap]
    exact (Go.WideShapes.sorted_perm _).map _
  · rw [Maps.size_eq, (Go.WideShapes.sorted_perm _).length_eq, List.length_map, Array.length_toList, hlen]
set_option maxRecDepth 100000 in
/-- slices.Sorted(maps.Keys(m)). -/
theorem sortedA_any (W : World) {r : Nat} {L : List (Int × Value)} (h : MapAt W r L) (hw : ∀ p ∈ L, (Lit.int .i64 p.1).wf = true) (hl : L.length ≤ 100000) :
    Calls Tryz.prog 163 #[.func (.func 212) #[] #[.pointer (some ⟨W.heap.size, 0, none⟩)]] (W.alloc (.cells #[.map (some r)] 149)) fun e w' => ∃ v, e = .returned v ∧ w'.ownsRow W.heap.size 3 1 v L.length ((sortI (L.map Prod.fst)).map encZ) ∧ Chg [] W w' := by
  obtain ⟨D, hown, hp, hsz⟩ := owns_any (h.keep (Chg.alloc (S := []) W (.cells #[.map (some r)] 149)) (by simp)) 3 (by kernel_rfl) hw (by unfold maxLen; omega)
  have hseq : SeqGives Fence.wide 2 Tryz.prog 212 #[.pointer (some ⟨W.heap.size, 0, none⟩)] encZ (fun ss => ss.Perm (intKeys D)) (Maps.size D) (W.alloc (.cells #[.map (some r)] 149)) :=
    AnyZI.keys_gives (ρ := Tryz.keysA_ren) { Tryz.keysA with } Fence.wide _ trivial rfl (by omega) W.heap.size r L.length D _ (by simp) (by simp) hown
  have cS := AnyZI.sorted_in Tryz.sortedA Fence.wide 5 trivial trivial trivial trivial rfl (by omega) (sorts_all _) (enters_of Tryz.func211 (by kernel_rfl) rfl) 212 #[.pointer (some ⟨W.heap.size, 0, none⟩)] trivial (enters_of Tryz.func212 (by kernel_rfl) rfl) _ (Maps.size D) (by rw [hsz]; unfold maxLen; omega) (by rw [hsz]; omega) _ hseq
  refine (callsIn_wide.1 cS).mono ?_
  rintro e w' ⟨v, ss, rfl, hS, hrow, hnil, hbl⟩
  have hs : ss.mergeSort (fun x y => decide (x ≤ y)) = sortI (L.map Prod.fst) := mergeSort_of_perm_i (hS.trans hp)
  have hsl : ss.length = L.length := by rw [(hS.trans hp).length_eq, List.length_map]
  rw [hs, hsl] at hrow
  exact ⟨v, rfl, own_base hrow (by simp), (Chg.alloc W _).then (Chg.of_below hbl)⟩
end Go.Proofs.YtelakcjbknbehaaGreat
namespace Go.Proofs.YtelakcjbknbehaaGreat
open Go.RowKit Go.Lib

theorem wf_i64 {x : Int} (h0 : -9223372036854775808 ≤ x) (h1 : x ≤ 9223372036854775807) : (Lit.int .i64 x).wf = true := by
  have e1 : IntKind.i64.min = -9223372036854775808 := by decide
  have e2 : IntKind.i64.max = 9223372036854775807 := by decide
  simp only [Lit.wf, e1, e2, Bool.and_eq_true, decide_eq_true_eq]
  omega
theorem ty69 : Tryz.prog.underlying 85 = some (.slice 50) := by kernel_rfl
theorem inf92 : (Tryz.prog.info? 50).map (fun i => (i.zero, i.size, i.bytes)) = some (some (.agg #[.int .i64 0, .slice none 0 0]), 2, 32) := by kernel_rfl
/-- puts (a block's number, its bytes) in an own row. -/
def PutsAt (w : World) (base : Nat) (v : Value) (l : List (Int × List UInt8)) : Prop :=
  ∃ xs, w.ownsRow base 50 2 v l.length xs ∧ ∀ i (h : i < l.length), xs[i * 2]? = some (.int .i64 l[i].1) ∧ ∃ g c, xs[i * 2 + 1]? = some (.slice (some ⟨g, 0, none⟩) 40 c) ∧ Bs w (some ⟨g, 0, none⟩) l[i].2 ∧ l[i].2.length = 40 ∧ Bt w g
theorem PutsAt.nil (w : World) (base : Nat) : PutsAt w base (.slice none 0 0) [] := ⟨[], World.ownsRow_nil _ _ _ _, fun i h => by simp at h⟩
theorem PutsAt.block {w : World} {lo : Nat} {v : Value} {l : List (Int × List UInt8)} (h : PutsAt w lo v l) : ∀ g, v.ownBlock = some g → lo ≤ g ∧ ∃ cs, w.heap[g]? = some (.cells cs 50 (0, 0)) := by
  intro g hg
  obtain ⟨xs, ho, -⟩ := h
  exact own_elem ho hg
theorem PutsAt.keep {w w' : World} {T : List Nat} {lo : Nat} {v : Value} {l : List (Int × List UInt8)} (h : PutsAt w lo v l) (hc : Chg T w w') (hT : Av w T [5]) (hv : ∀ g, v.ownBlock = some g → g ∉ T) : PutsAt w' lo v l := by
  obtain ⟨xs, ho, hx⟩ := h
  refine ⟨xs, ?_, fun i hi => ?_⟩
  · refine ⟨ho.1, ?_⟩
    rcases ho.2 with hn | ⟨g, cap, cur, rfl, hb, hg, rest⟩
    · exact Or.inl hn
    · exact Or.inr ⟨g, cap, cur, rfl, hb, hc.heap hg (hv g rfl), rest⟩
  · obtain ⟨h0, g, c, h1, h2, h3, cs, h4⟩ := hx i hi
    have hg : g ∉ T := hT.ne h4 (by simp)
    exact ⟨h0, g, c, h1, h2.chgT hc hg, h3, cs, hc.heap h4 hg⟩
theorem PutsAt.keep0 {w w' : World} {lo : Nat} {v : Value} {l : List (Int × List UInt8)} (h : PutsAt w lo v l) (hc : Chg [] w w') : PutsAt w' lo v l := h.keep hc (Av.nil _ _) (fun _ _ => by simp)
/-- .. when a put is put behind them. -/
theorem PutsAt.push {w w' : World} {base gb cb n : Nat} {v v' : Value} {l : List (Int × List UInt8)} {k : Int} {b : List UInt8} {xs : List Value} (hx : ∀ i (h : i < l.length), xs[i * 2]? = some (.int .i64 l[i].1) ∧ ∃ g c, xs[i * 2 + 1]? = some (.slice (some ⟨g, 0, none⟩) 40 c) ∧ Bs w (some ⟨g, 0, none⟩) l[i].2 ∧ l[i].2.length = 40 ∧ Bt w g)
    (hl : xs.length = l.length * 2) (hn : n = l.length) (hv : ∀ g, v.ownBlock = some g → ∃ cs, w.heap[g]? = some (.cells cs 50 (0, 0))) (ho : w'.ownsRow base 50 2 v' (n + 1) (xs ++ [.int .i64 k, .slice (some ⟨gb, 0, none⟩) 40 cb])) (hc : Chg v.ownBlock.toList w w')
    (hb : Bs w (some ⟨gb, 0, none⟩) b) (hb4 : b.length = 40) (hbt : Bt w gb) : PutsAt w' base v' (l ++ [(k, b)]) := by
  subst hn
  have hne : ∀ {g}, Bt w g → g ∉ v.ownBlock.toList := by
    rintro g ⟨cs2, h2⟩ hm
    obtain ⟨cs, h1⟩ := hv g (by simpa using hm)
    rw [h1] at h2
    cases h2
  have keepB : ∀ {g}, Bt w g → Bt w' g := fun {g} h => by
    obtain ⟨cs, h2⟩ := id h
    exact ⟨cs, hc.heap h2 (hne h)⟩
  refine ⟨_, by rw [List.length_append]; exact ho, fun i hi => ?_⟩
  by_cases h : i < l.length
  · obtain ⟨h0, g, c, h1, h2, h3, h4⟩ := hx i h
    rw [List.getElem_append_left h]
    exact ⟨by rw [List.getElem?_append_left (by omega)]; exact h0, g, c, by rw [List.getElem?_append_left (by omega)]; exact h1, h2.chgT hc (hne h4), h3, keepB h4⟩
  · have hi2 : i = l.length := by simp at hi; omega
    subst hi2
    have e : (l ++ [(k, b)])[l.length]'(by simp) = (k, b) := by simp
    rw [e]
    exact ⟨by rw [← hl]; simp, gb, cb, by rw [← hl, List.getElem?_append_right (by omega)]; simp, hb.chgT hc (hne hbt), hb4, keepB hbt⟩
/-- a buffer's entries are blocks' bytes. -/
def BufD (w : World) (L : List (Int × Value)) (D : Int → List UInt8) : Prop := ∀ k v, getL L k = some v → ∃ g c, v = .slice (some ⟨g, 0, none⟩) 40 c ∧ Bs w (some ⟨g, 0, none⟩) (D k) ∧ (D k).length = 40 ∧ Bt w g
theorem BufD.keep {w w' : World} {L : List (Int × Value)} {D : Int → List UInt8} (h : BufD w L D) (hc : Chg [] w w') : BufD w' L D := fun k v hv => by
  obtain ⟨g, c, h1, h2, h3, cs, h4⟩ := h k v hv
  exact ⟨g, c, h1, h2.chg hc, h3, cs, hc.heap h4 (by simp)⟩
/-- the puts of a buffer, by rising number. -/
def putsL (L : List (Int × Value)) (D : Int → List UInt8) : List (Int × List UInt8) := (sortI (L.map Prod.fst)).map fun k => (k, D k)
theorem putsL_length (L : List (Int × Value)) (D : Int → List UInt8) : (putsL L D).length = L.length := by simp [putsL, sortI_length]
theorem getL_key {L : List (Int × Value)} {k : Int} (h : k ∈ L.map Prod.fst) : ∃ v, getL L k = some v := by
  induction L with
  | nil => simp at h
  | cons p l ih =>
    simp only [getL]
    by_cases e : k = p.1
    · exact ⟨_, if_pos e⟩
    · rw [if_neg e]
      simp only [List.map_cons, List.mem_cons] at h
      exact ih (h.resolve_left e)
set_option maxRecDepth 100000 in
set_option maxHeartbeats 2000000 in
theorem bputs_any (w : World) {W rw : Nat} {L : List (Int × Value)} {D : Int → List UInt8} (h : BufAt w W rw L) (hD : BufD w L D) (hk : ∀ x ∈ L, 0 ≤ x.1 ∧ x.1 < 258) (hl : L.length ≤ 1000) : Calls Tryz.prog 186 #[.pointer (some ⟨W, 0, none⟩)] w fun e w' =>
    ∃ v, e = .returned v ∧ Chg [] w w' ∧ PutsAt w' w.heap.size v (putsL L D) := by
  have c2 : w.cell? ⟨W, 2, none⟩ = some (.map (some rw)) := cell_is h.1 2 rfl
  have HS := Lib.hid (sortedA_any w h.2 (fun p hp => wf_i64 (by have := hk p hp; omega) (by have := hk p hp; omega)) (by omega))
  have HB := Lib.hid h
  have HD := Lib.hid hD
  have HK := Lib.hid hk
  clear h hD hk
  go_enter Tryz.func186, Tryz.ntmps186
  go_wp2_with (first
    | (go_at_call 164; refine (keysA_any (some rw) _).mono ?_; rintro e w1 ⟨rfl, rfl⟩)
    | (go_at_call 163; refine HS.out.mono ?_; rintro e w2 ⟨v2, rfl, o2, k2⟩; obtain ⟨pk, ck, rfl, hck⟩ := own_form o2))
  have hsl : (sortI (L.map Prod.fst)).length = L.length := by rw [sortI_length, List.length_map]
  have hmem : ∀ k, k ∈ sortI (L.map Prod.fst) → ∃ v, getL L k = some v := fun k hk => getL_key ((sortI_perm _).mem_iff.1 hk)
  have hpl : putsL L D = (sortI (L.map Prod.fst)).map fun k => (k, D k) := rfl
  have HP := Lib.hid hpl
  have HM := Lib.hid hmem
  have O2 := Lib.hid o2
  clear hmem hpl o2
  generalize hks : sortI (L.map Prod.fst) = ks at *
  have c22 := k2.cell c2 (by simp)
  generalize hn : L.length = n at *
  have hcki : (n : Int) ≤ ck := by omega
  go_loopw [2, 4, 14] (fun v _ i wr => ∃ j : Nat, j ≤ n ∧ i = .int .i64 j ∧ Chg [] w2 wr ∧ PutsAt wr w2.heap.size v ((ks.take j).map fun k => (k, D k))) (fun _ _ i _ => n - (intOf i).toNat)
  case atStart => exact ⟨0, by omega, rfl, Chg.refl _ _, PutsAt.nil _ _⟩
  case round =>
    obtain ⟨j, hj, rfl, kr, hp⟩ := hrel
    by_cases hlt : j < n
    · have hjk : j < ks.length := by omega
      obtain ⟨v, hv⟩ := HM.out ks[j] (List.getElem_mem hjk)
      obtain ⟨g, cg, rfl, hb, hb4, hbt⟩ := HD.out _ _ hv
      have kwr : Chg [] w wr := k2.then kr
      have hlook : (Instr.lookup 149 (.map (some rw)) (.int .i64 ks[j]) false).run Tryz.prog wr = .ok (.slice (some ⟨g, 0, none⟩) 40 cg) wr := by
        have := lookup151 (HB.out.2.keep kwr (by simp)) ks[j] false
        rw [hv] at this
        exact this
      have ck0 : ∃ gk, pk = some ⟨gk, 0, none⟩ ∧ wr.cell? ⟨gk, j, none⟩ = some (.int .i64 ks[j]) := by
        rcases O2.out.2 with ⟨_, h0⟩ | ⟨gk, cap, cur, e, hA, hg, hc1, hc2, hc3, ht⟩
        · omega
        · injection e with e1
          refine ⟨gk, e1, kr.cell (cell_is hg j ?_) (by simp)⟩
          have h1 : (ks.map encZ)[j]? = some (.int .i64 ks[j]) := by simp [hjk]
          rw [← ht, List.getElem?_take_of_lt (by omega), Array.getElem?_toList] at h1
          exact h1
      obtain ⟨gk, rfl, ck1⟩ := ck0
      have cw2 := kr.cell c22 (by simp)
      have HBs := Lib.hid (hb.chg kwr)
      have HPt := Lib.hid hp
      have HTk := Lib.hid (show (ks.take (j + 1)).map (fun k => (k, D k)) = (ks.take j).map (fun k => (k, D k)) ++ [(ks[j], D ks[j])] by rw [List.take_succ_eq_append_getElem hjk, List.map_append]; rfl)
      have HL4 := Lib.hid hb4
      have HBt := Lib.hid hbt
      clear hb hp hb4 hbt hv
      generalize ks[j] = k at *
      go_wp2_with fail
      refine (clone_bt wr HL4.out (by decide) (by decide) HBs.out).mono ?_
      rintro e w3 ⟨g2, c2, rfl, k3, b3, l3, t3⟩
      obtain ⟨xs, ho3, hx3⟩ := HPt.out.keep0 k3
      have hpl3 : ((ks.take j).map fun k => (k, D k)).length = j := by simp; omega
      have hb23 := (HPt.out.keep0 k3).block
      have hs3 : w2.heap.size ≤ w3.heap.size := (kr.then k3).size
      have B3 := Lib.hid b3
      have T3 := Lib.hid t3
      have HX3 := Lib.hid hx3
      have HO3 := Lib.hid ho3
      have H23 := Lib.hid hb23
      clear b3 t3 hx3 hb23 ho3
      go_wp2_with (at_builtin; refine wpList_append_lit rfl (.tmp 18) (.tmp 28) 85 50 rfl ty69 inf92 rfl (by decide) w2.heap.size w3 [.int .i64 k, .slice (some ⟨g2, 0, none⟩) 40 c2] 1 rfl _ ((ks.take j).map fun k => (k, D k)).length xs rfl HO3.out (by omega) (by decide) hs3 (k := 0) rfl (by simp [Value.oneCell']) rfl 1 rfl ?_; intro v' w4 hap)
      have hxl : xs.length = ((ks.take j).map fun k => (k, D k)).length * 2 := HO3.out.1
      have hfin : PutsAt w4 w2.heap.size v' (((ks.take j).map fun k => (k, D k)) ++ [(k, D k)]) := PutsAt.push HX3.out hxl rfl (fun g hg => (H23.out g hg).2) hap.1 (Chg.own hap.2.2 (fun g hg _ => by have hg2 : u2.ownBlock = some g := hg; simp [hg2])) B3.out HL4.out T3.out
      rw [← HTk.out] at hfin
      go_roundw
      case rel => exact ⟨j + 1, by omega, by simp, Chg.of_below ((kr.then k3).below0.trans hap.2.1), hfin⟩
      case measure => simp [intOf]; omega
    · obtain rfl : j = n := by omega
      go_wp2_with fail
      go_ret
      refine ⟨_, rfl, k2.then kr, ?_⟩
      rw [HP.out]
      rw [List.take_of_length_le (by omega)] at hp
      obtain ⟨xs, ho, hx⟩ := hp
      exact ⟨xs, own_base ho k2.size, hx⟩
end Go.Proofs.YtelakcjbknbehaaGreat
namespace Go.Proofs.YtelakcjbknbehaaGreat
open Go.RowKit Go.Lib

theorem lt_cell {w : World} {g o : Nat} {v : Value} (h : w.cell? ⟨g, o, none⟩ = some v) : g < w.heap.size := by
  rcases Nat.lt_or_ge g w.heap.size with h1 | h1
  · exact h1
  · unfold World.cell? at h
    rw [Array.getElem?_eq_none h1] at h
    cases h
/-- cells of puts. -/
def puCells (l : List (Int × Value)) : List Value := l.flatMap fun p => [.int .i64 p.1, p.2]
theorem puCells_app (a b : List (Int × Value)) : puCells (a ++ b) = puCells a ++ puCells b := by simp [puCells]
/-- values of puts in a world. -/
def PuV (w : World) (vs : List (Int × Value)) (l : List (Int × List UInt8)) : Prop := vs.length = l.length ∧ ∀ i (h : i < l.length) (h' : i < vs.length), vs[i].1 = l[i].1 ∧ DatX w vs[i].2 l[i].2
theorem PuV.nil (w : World) : PuV w [] [] := ⟨rfl, fun i h => by cases h⟩
theorem PuV.keepA {w w' : World} {T : List Nat} {vs : List (Int × Value)} {l : List (Int × List UInt8)} (h : PuV w vs l) (hc : Chg T w w') (hT : Av w T [5]) : PuV w' vs l := ⟨h.1, fun i hi hi' => ⟨(h.2 i hi hi').1, (h.2 i hi hi').2.keepA hc hT⟩⟩
theorem PuV.keep {w w' : World} {vs : List (Int × Value)} {l : List (Int × List UInt8)} (h : PuV w vs l) (hc : Chg [] w w') : PuV w' vs l := h.keepA hc (Av.nil _ _)
theorem PuV.snoc {w : World} {vs : List (Int × Value)} {l : List (Int × List UInt8)} {b : Int} {v : Value} {d : List UInt8} (h : PuV w vs l) (hd : DatX w v d) : PuV w (vs ++ [(b, v)]) (l ++ [(b, d)]) := by
  refine ⟨by simp [h.1], fun i hi hi' => ?_⟩
  by_cases hl : i < l.length
  · have hl' : i < vs.length := by rw [h.1]; exact hl
    rw [List.getElem_append_left hl, List.getElem_append_left hl']
    exact h.2 i hl hl'
  · have e : i = l.length := by simp at hi; omega
    subst e
    have e2 : vs.length = l.length := h.1
    rw [List.getElem_append_right (by omega), List.getElem_append_right (by omega)]
    simp [e2, hd]
theorem puCells_at (vs : List (Int × Value)) (i : Nat) (h : i < vs.length) : (puCells vs)[i * 2]? = some (.int .i64 vs[i].1) ∧ (puCells vs)[i * 2 + 1]? = some vs[i].2 := by
  induction vs generalizing i with
  | nil => cases h
  | cons p l ih =>
    cases i with
    | zero => exact ⟨rfl, rfl⟩
    | succ i =>
      have := ih i (by simpa using h)
      rw [show (i + 1) * 2 = i * 2 + 2 by omega, show i * 2 + 2 + 1 = i * 2 + 1 + 2 by omega]
      exact this
theorem PuX.own {w : World} {base n : Nat} {v : Value} {vs : List (Int × Value)} {l : List (Int × List UInt8)} (h : w.ownsRow base 50 2 v n (puCells vs)) (hv : PuV w vs l) (hn : n = l.length) : PuX w v l := by
  subst hn
  obtain ⟨pa, c, rfl, hc⟩ := own_form h
  refine ⟨pa, c, rfl, hc, fun i hi => ?_⟩
  have hi' : i < vs.length := by rw [hv.1]; exact hi
  rcases h.2 with ⟨e, h0⟩ | ⟨g, cap, cur, e, hA, hg, h1, h2, h3, h4⟩
  · omega
  · cases e
    have key : ∀ j, j < l.length * 2 → w.cell? ⟨g, 0 + j, none⟩ = (puCells vs)[j]? := fun j hj => by
      have e1 : (puCells vs)[j]? = cur.toList[j]? := by
        rw [← h4, List.getElem?_take, if_pos hj]
      rw [e1, Nat.zero_add]
      unfold World.cell?
      rw [hg]
      simp
    have hp := puCells_at vs i hi'
    have hq := hv.2 i hi hi'
    refine ⟨g, 0, vs[i].2, rfl, ⟨_, hg⟩, ?_, ?_, hq.2⟩
    · rw [key _ (by omega), hp.1, hq.1]
    · rw [show 0 + i * 2 + 1 = 0 + (i * 2 + 1) by omega, key _ (by omega), hp.2]
/-- forty bytes are put behind an empty row that was just made, in a drawn region. -/
theorem step_append_copy {ops : Array Oper} {o : Oper} {a : Act} {w : World} {K : Act → World → Prop} {Q : Exit → Act → World → Prop} {E : Prop} (hgd : o.guard = none) (s x : Operand)
    (ho : o.op = .call { callee := .builtin .append, args := #[s, x], argTypes := #[47, 47] }) {z : Nat} {v : Value} {l : List UInt8} (hs : a.eval s = .slice (some ⟨z, 0, none⟩) 0 0) (hx : a.eval x = v) (hz : w.heap[z]? = some (.cells #[] 5 (0, 0))) (hd : DatX w v l)
    (h : ∀ g o' c w', Chg [z] w w' → DatX w' (.slice (some ⟨g, o', none⟩) 40 c) l → K (a.put o.dst (.slice (some ⟨g, o', none⟩) 40 c)) w') :
    if Region.wanted o (yielded ops a.tmps) = true then Oper.wp Tryz.prog o a w K Q else E := by
  obtain ⟨v', w', hr, k, hd'⟩ := run_copy40 w o.type hz hd
  obtain ⟨g, o', c, rfl, hd2⟩ := hd'
  exact step_append_run hgd s x 47 47 ho _ _ hs hx _ w' hr (h g o' c w' k ⟨g, o', c, rfl, hd2⟩)
theorem tyPut : Tryz.prog.underlying 85 = some (.slice 50) := by kernel_rfl
theorem put_end {wr w6 : World} {K : Nat} {b : Int} {v : Value} {d : List UInt8} (K6 : Chg [] wr w6) (b6 : w6.heap[K]? = some (.cells #[.int .i64 0, .slice none 0 0] 50 (0, 0))) (hK : wr.heap.size ≤ K) (hd : DatX w6 v d) :
    ((w6.setCell ⟨K, 0, none⟩ (.int .i64 b)).setCell ⟨K, 1, none⟩ v).heap[K]? = some (.cells #[.int .i64 b, v] 50 (0, 0)) ∧ Chg [] wr ((w6.setCell ⟨K, 0, none⟩ (.int .i64 b)).setCell ⟨K, 1, none⟩ v) ∧ DatX ((w6.setCell ⟨K, 0, none⟩ (.int .i64 b)).setCell ⟨K, 1, none⟩ v) v d := by
  have h1 := heap_set b6 0 (.int .i64 b) rfl
  exact ⟨heap_set h1 1 v rfl, (K6.new_set hK _ _).new_set hK _ _, (hd.keepA (Chg.set w6 K 0 _) (Av.row b6 (by decide))).keepA (Chg.set _ K 1 _) (Av.row h1 (by decide))⟩
end Go.Proofs.YtelakcjbknbehaaGreat
namespace Go.Proofs.YtelakcjbknbehaaGreat
open Go.RowKit Go.Lib

set_option maxRecDepth 100000 in
set_option maxHeartbeats 8000000 in
theorem rbuf_write (w : World) {U E eo cp : Nat} {b : Int} {d : List UInt8} {dv : Value} {P : List (Int × List UInt8)} (h : RbAt w U P) (hP : P.length < 16) (hb0 : 0 ≤ b) (hb1 : b < 258)
    (e0 : w.cell? ⟨E, eo, none⟩ = some (.int .i64 b)) (e1 : w.cell? ⟨E, eo + 1, none⟩ = some dv) (hd : DatX w dv d) :
    Calls Tryz.prog 100 #[.pointer (some ⟨U, 0, none⟩), .slice (some ⟨E, eo, none⟩) 1 cp] w fun e w' => e = .returned (.int .i64 0) ∧ Chg [U] w w' ∧ RbAt w' U (bufPut P b d) := by
  have n0 : decide (b < 0) = false := decide_eq_false (by omega)
  have n1 : decide (258 ≤ b) = false := decide_eq_false (by omega)
  obtain ⟨pv, hU, pa, c, rfl, hc, hx⟩ := h
  obtain ⟨n, hn⟩ : ∃ n, n = P.length := ⟨_, rfl⟩
  rw [← hn] at hU hP hc
  have hPX : PuX w (.slice pa n c) P := ⟨pa, c, by rw [hn], by omega, hx⟩
  have hR : RbAt w U P := ⟨_, hU, hPX⟩
  obtain ⟨g, o, cd, rfl, hcd, hdl, hdb, hdt⟩ := hd
  have HH := Lib.hid (And.intro hU (And.intro hPX (And.intro hR (And.intro hn (And.intro (And.intro hcd (And.intro hdl (And.intro hdb hdt))) (And.intro e0 e1))))))
  have HX0 := Lib.hid hx
  clear hU hPX hR hn hx hcd hdl hdb hdt hc
  go_enter Tryz.func100, Tryz.ntmps100
  go_wp2_with fail
  go_loopw [5] (fun iv wr => (iv = .int .i64 0 ∨ iv = .int .i64 1) ∧ Chg [] w wr) (fun iv _ => 1 - (intOf iv).toNat)
  case atStart => exact ⟨Or.inl rfl, Chg.refl _ _⟩
  case round =>
    obtain ⟨rfl | rfl, kr⟩ := hrel
    · have u0 : wr.cell? ⟨U, 0, none⟩ = some (.int .i64 258) := cell_is (kr.heap HH.out.1 (by simp)) 0 rfl
      have e0 := kr.cell HH.out.2.2.2.2.2.1 (by simp)
      have HK := Lib.hid kr
      clear kr
      go_wp2_with fail
      go_quiet (fail)
      go_wp2_with fail
      go_roundw
      case rel => exact ⟨Or.inr rfl, HK.out.drewN nq⟩
      case measure => simp [intOf]
    · have HK := Lib.hid kr
      clear kr
      go_wp2_with fail
      go_loopw [6] (fun iv wx => (iv = .int .i64 0 ∨ iv = .int .i64 1) ∧ Chg [] w wx) (fun iv _ => 1 - (intOf iv).toNat)
      case atStart => exact ⟨Or.inl rfl, HK.out⟩
      case round =>
        obtain ⟨rfl | rfl, kr⟩ := hrel
        · have e1 := kr.cell HH.out.2.2.2.2.2.2 (by simp)
          have HK := Lib.hid kr
          clear kr
          go_wp2_with fail
          go_roundw
          case rel => exact ⟨Or.inr rfl, HK.out⟩
          case measure => simp [intOf]
        · have HK := Lib.hid kr
          clear kr
          go_wp2_with fail
          go_loopw [7, 8, 9, 10, 11] (fun fv iv _ _ _ wx => (iv = .int .i64 0 ∧ fv = .int .i64 0 ∨ iv = .int .i64 1 ∧ ∃ f : Int, fv = .int .i64 f ∧ 0 ≤ f ∧ f ≤ 1) ∧ Chg [] w wx) (fun _ iv _ _ _ _ => 1 - (intOf iv).toNat)
          case atStart => exact ⟨Or.inl ⟨rfl, rfl⟩, HK.out⟩
          case round =>
            obtain ⟨⟨rfl, rfl⟩ | ⟨rfl, f, rfl, hf0, hf1⟩, kr⟩ := hrel
            · have HK := Lib.hid kr
              clear kr
              go_wp2_with fail
              go_loopw [9] (fun iv wx => iv = .int .i64 0 ∧ wx = wr) (fun _ _ => 0)
              case atStart => exact ⟨rfl, (by first | trivial | rfl)⟩
              case round =>
                obtain ⟨rfl, rfl⟩ := hrel
                have e0 := HK.out.cell HH.out.2.2.2.2.2.1 (by simp)
                have HG := Lib.hid (rbuf_get1 wr (b := b) (HH.out.2.2.1.keep HK.out) (by have := HH.out.2.2.2.1; omega))
                go_wp2_with fail
                refine HG.out.mono ?_
                rintro e w4 ⟨xv, rfl, rfl, -⟩
                generalize (bufG P b).isSome = ow
                cases ow
                · go_wp2_with fail
                  go_roundw
                  case rel => exact ⟨Or.inr ⟨rfl, 1, rfl, by omega, by omega⟩, HK.out⟩
                  case measure => simp [intOf]
                · go_wp2_with fail
                  go_roundw
                  case rel => exact ⟨Or.inr ⟨rfl, 0, rfl, by omega, by omega⟩, HK.out⟩
                  case measure => simp [intOf]
            · have hUr := kr.heap HH.out.1 (by simp)
              have u1 : wr.cell? ⟨U, 1, none⟩ = some (.int .i64 16) := cell_is hUr 1 rfl
              have u2 : wr.cell? ⟨U, 2, none⟩ = some (.slice pa n c) := cell_is hUr 2 rfl
              have hnf : decide (16 < (n : Int) + f) = false := decide_eq_false (by omega)
              have HK := Lib.hid kr
              clear kr hUr
              go_wp2_with fail
              go_quiet (fail)
              go_wp2_with fail
              have kq : Chg [] w (wr.drewN nq) := HK.out.drewN nq
              generalize wr.drewN nq = w1 at *
              have HK1 := Lib.hid kq
              clear kq u1 u2 HK
              go_loopw [12, 13, 14, 15, 16] (fun iv _ _ _ _ wx => (iv = .int .i64 0 ∧ wx = w1) ∨ (iv = .int .i64 1 ∧ Chg [U] w wx ∧ RbAt wx U (bufPut P b d))) (fun iv _ _ _ _ _ => 1 - (intOf iv).toNat)
              case atStart => exact Or.inl ⟨rfl, rfl⟩
              case round =>
                rcases hrel with ⟨rfl, rfl⟩ | ⟨rfl, kr, hR⟩
                · have e0 := HK1.out.cell HH.out.2.2.2.2.2.1 (by simp)
                  have e1 := HK1.out.cell HH.out.2.2.2.2.2.2 (by simp)
                  have hE := lt_cell e0
                  have hd : DatX wr (.slice (some ⟨g, o, none⟩) 40 cd) d := (show DatX w _ d from ⟨g, o, cd, rfl, HH.out.2.2.2.2.1⟩).keep HK1.out
                  have zA : (wr.alloc (.cells #[] 5)).drew.heap[wr.heap.size]? = some (.cells #[] 5 (0, 0)) := heap_new wr _
                  have kA : Chg [] wr (wr.alloc (.cells #[] 5)).drew := ((Chg.refl [] wr).then_alloc _).drew
                  have dA := hd.keep kA
                  obtain ⟨zAC', bAC'⟩ := two_new wr (.cells #[] 5) (.cells #[.int .i64 0, .slice none 0 0] 50)
                  have zAC : ((wr.alloc (.cells #[] 5)).alloc (.cells #[.int .i64 0, .slice none 0 0] 50)).drew.heap[wr.heap.size]? = some (.cells #[] 5 (0, 0)) := zAC'
                  have bAC : ((wr.alloc (.cells #[] 5)).alloc (.cells #[.int .i64 0, .slice none 0 0] 50)).drew.heap[wr.heap.size + 1]? = some (.cells #[.int .i64 0, .slice none 0 0] 50 (0, 0)) := bAC'
                  have kAC : Chg [] wr ((wr.alloc (.cells #[] 5)).alloc (.cells #[.int .i64 0, .slice none 0 0] 50)).drew := (((Chg.refl [] wr).then_alloc _).then_alloc _).drew
                  have dAC := hd.keep kAC
                  obtain ⟨bCA', zCA'⟩ := two_new wr (.cells #[.int .i64 0, .slice none 0 0] 50) (.cells #[] 5)
                  have bCA : ((wr.alloc (.cells #[.int .i64 0, .slice none 0 0] 50)).alloc (.cells #[] 5)).drew.heap[wr.heap.size]? = some (.cells #[.int .i64 0, .slice none 0 0] 50 (0, 0)) := bCA'
                  have zCA : ((wr.alloc (.cells #[.int .i64 0, .slice none 0 0] 50)).alloc (.cells #[] 5)).drew.heap[wr.heap.size + 1]? = some (.cells #[] 5 (0, 0)) := zCA'
                  have kCA : Chg [] wr ((wr.alloc (.cells #[.int .i64 0, .slice none 0 0] 50)).alloc (.cells #[] 5)).drew := (((Chg.refl [] wr).then_alloc _).then_alloc _).drew
                  have dCA := hd.keep kCA
                  clear zAC' bAC' bCA' zCA'
                  have e0d : wr.drew.cell? ⟨E, eo, none⟩ = some (.int .i64 b) := e0
                  have e1d : wr.drew.cell? ⟨E, eo + 1, none⟩ = some (.slice (some ⟨g, o, none⟩) 40 cd) := e1
                  have e0a : ∀ ob, (wr.alloc ob).cell? ⟨E, eo, none⟩ = some (.int .i64 b) := fun ob => (Chg.alloc (S := []) wr ob).cell e0 (by simp)
                  have e1a : ∀ ob, (wr.alloc ob).cell? ⟨E, eo + 1, none⟩ = some (.slice (some ⟨g, o, none⟩) 40 cd) := fun ob => (Chg.alloc (S := []) wr ob).cell e1 (by simp)
                  have e0b : ∀ ob oc, ((wr.alloc ob).alloc oc).cell? ⟨E, eo, none⟩ = some (.int .i64 b) := fun ob oc => (Chg.alloc (S := []) _ oc).cell (e0a ob) (by simp)
                  have e1b : ∀ ob oc, ((wr.alloc ob).alloc oc).cell? ⟨E, eo + 1, none⟩ = some (.slice (some ⟨g, o, none⟩) 40 cd) := fun ob oc => (Chg.alloc (S := []) _ oc).cell (e1a ob) (by simp)
                  have HE := Lib.hid hE
                  clear hd hE
                  go_upto_region 30 with fail
                  go_cut [13] from 111 to 124 (fun xv wx => ∃ K g6 o6 c6, xv = .pointer (some ⟨K, 0, none⟩) ∧ wx.heap[K]? = some (.cells #[.int .i64 b, .slice (some ⟨g6, o6, none⟩) 40 c6] 50 (0, 0)) ∧ Chg [] wr wx ∧ DatX wx (.slice (some ⟨g6, o6, none⟩) 40 c6) d)
                  case first =>
                    go_region_law
                      (first
                        | (refine step_append_copy rfl (.tmp 116) (.tmp 121) rfl rfl rfl zA dA ?_; intro g6 o6 c6 w6 k6 hd6; have K6 : Chg [] wr w6 := kA.trans k6 (fun x hx hlt => by rw [List.mem_singleton] at hx; omega); have e06 := K6.cell e0 (by simp); have e06a : ∀ ob, (w6.alloc ob).cell? ⟨E, eo, none⟩ = some (.int .i64 b) := (fun ob => (Chg.alloc (S := []) w6 ob).cell e06 (by simp)); have HF := Lib.hid (And.intro K6 (hd6.keep (Chg.alloc (S := []) w6 (.cells #[.int .i64 b, .slice (some ⟨g6, o6, none⟩) 40 c6] 50)))))
                        | (refine step_append_copy rfl (.tmp 116) (.tmp 121) rfl rfl rfl zAC dAC ?_; intro g6 o6 c6 w6 k6 hd6; have K6 : Chg [] wr w6 := kAC.trans k6 (fun x hx hlt => by rw [List.mem_singleton] at hx; omega); have e06 := K6.cell e0 (by simp); have b6 := k6.heap bAC (by simp); have q0 := cell_is b6 0 rfl; have q1 := cell_is b6 1 rfl; have f0 := unfrozen b6 0; have f1 := unfrozen b6 1; have HF := Lib.hid (And.intro K6 (And.intro b6 hd6)))
                        | (refine step_append_copy rfl (.tmp 116) (.tmp 121) rfl rfl rfl zCA dCA ?_; intro g6 o6 c6 w6 k6 hd6; have K6 : Chg [] wr w6 := kCA.trans k6 (fun x hx hlt => by rw [List.mem_singleton] at hx; omega); have e06 := K6.cell e0 (by simp); have b6 := k6.heap bCA (by simp); have q0 := cell_is b6 0 rfl; have q1 := cell_is b6 1 rfl; have f0 := unfrozen b6 0; have f1 := unfrozen b6 1; have HF := Lib.hid (And.intro K6 (And.intro b6 hd6))))
                    all_goals
                      go_wp2_with fail
                      go_meet
                      first
                        | exact ⟨_, g6, o6, c6, rfl, heap_new w6 _, HF.out.1.then_alloc _, HF.out.2⟩
                        | (have hp := put_end (b := b) HF.out.1 HF.out.2.1 (by omega) HF.out.2.2; exact ⟨_, g6, o6, c6, rfl, hp.1, hp.2.1, hp.2.2⟩)
                  case rest =>
                    obtain ⟨K, g6, o6, c6, rfl, hK, kc, hD⟩ := hcut
                    have HC := Lib.hid (And.intro hK kc)
                    have HD := Lib.hid hD
                    clear hK kc hD e0 e1 e0d e1d e0a e1a e0b e1b zA kA dA zAC bAC kAC dAC bCA zCA kCA dCA
                    go_wp2_with fail
                    have hzb := Nat.le_refl wc.heap.size
                    go_loopw [14, 15, 16] (fun ov dv iv wx => ∃ (k : Nat) (dn : Bool) (out : List (Int × List UInt8)) (vs : List (Int × Value)), iv = .int .i64 k ∧ k ≤ n ∧ dv = .bool dn ∧ wx.ownsRow wc.heap.size 50 2 ov vs.length (puCells vs) ∧ PuV wc vs out ∧ out ++ bufA b d dn (P.drop k) = bufPut P b d ∧ out.length ≤ 2 * k ∧ Chg [] wc wx) (fun _ _ iv _ => n - (intOf iv).toNat)
                    case atStart => exact ⟨0, false, [], [], rfl, Nat.zero_le _, rfl, World.ownsRow_nil _ _ _ _, PuV.nil _, rfl, Nat.zero_le _, Chg.refl _ _⟩
                    case round =>
                      obtain ⟨k, dn, out, vs, rfl, hk, rfl, ho, hv, hp, hol, kr⟩ := hrel
                      have hKr := kr.heap HC.out.1 (by simp)
                      have hUr := kr.heap ((HK1.out.then HC.out.2).heap HH.out.1 (by simp)) (by simp)
                      have u2 : wr.cell? ⟨U, 2, none⟩ = some (.slice pa n c) := cell_is hUr 2 rfl
                      have k0 : wr.cell? ⟨K, 0, none⟩ = some (.int .i64 b) := cell_is hKr 0 rfl
                      have k1 : wr.cell? ⟨K, 1, none⟩ = some (.slice (some ⟨g6, o6, none⟩) 40 c6) := cell_is hKr 1 rfl
                      have HR := Lib.hid (And.intro ho (And.intro hv (And.intro hp (And.intro kr hol))))
                      clear ho hv hp kr hol hKr hUr
                      by_cases hlt : k < n
                      · have hlti : (k : Int) < n := by omega
                        have hil : k < P.length := by have := HH.out.2.2.2.1; omega
                        obtain ⟨gp, op, up, hpa, -, dd0, dd1, hDD⟩ := HX0.out k hil
                        subst hpa
                        obtain ⟨gd, od, cu, rfl, hDD⟩ := hDD
                        have hDD : DatX w (.slice (some ⟨gd, od, none⟩) 40 cu) P[k].2 := ⟨gd, od, cu, rfl, hDD⟩
                        have hdr : P.drop k = P[k] :: P.drop (k + 1) := List.drop_eq_getElem_cons hil
                        obtain ⟨p, dp, hpk⟩ : ∃ p dp, P[k] = (p, dp) := ⟨_, _, rfl⟩
                        rw [hpk] at dd0 hDD hdr
                        simp only at dd0 hDD
                        have kwc := HK1.out.then HC.out.2
                        have d0c := kwc.cell dd0 (by simp)
                        have d1c := kwc.cell dd1 (by simp)
                        have d0 := HR.out.2.2.2.1.cell d0c (by simp)
                        have d1 := HR.out.2.2.2.1.cell d1c (by simp)
                        have HP := Lib.hid (And.intro hdr (hDD.keep kwc))
                        have HC2 := Lib.hid (And.intro ((HK1.out.then HC.out.2).heap HH.out.1 (by simp)) (And.intro d0c d1c))
                        obtain ⟨m, hm⟩ : ∃ m, m = vs.length := ⟨_, rfl⟩
                        have hm2 : m ≤ 100 := by have := HR.out.2.1.1; have := HR.out.2.2.2.2; omega
                        rw [← hm] at HR
                        have HM := Lib.hid hm
                        obtain ⟨pv, cv, rfl, -⟩ := own_form HR.out.1
                        clear hdr hDD hpk d0c d1c dd0 dd1 hm kwc
                        cases dn with
                        | false =>
                          by_cases hbp : b ≤ p
                          · by_cases hpb : p = b
                            · have hpb' := hpb.symm
                              subst hpb'
                              have dB : decide (b ≤ b) = true := decide_eq_true hbp
                              go_wp2_with fail
                              go_quiet (fail)
                              have kq : Chg [] wc (wr.drewN nq) := HR.out.2.2.2.1.drewN nq
                              have HO := Lib.hid (show (wr.drewN nq).ownsRow wc.heap.size 50 2 (.slice pv m cv) m (puCells vs) from own_kp HR.out.1 ((Chg.refl [] wr).drewN nq) (fun g hg hm => by cases hm))
                              have hz2 : wc.heap.size ≤ (wr.drewN nq).heap.size := kq.size
                              have HKQ := Lib.hid kq
                              have u2 : (wr.drewN nq).cell? ⟨U, 2, none⟩ = some (.slice (some ⟨gp, op, none⟩) n c) := cell_is (kq.heap HC2.out.1 (by simp)) 2 rfl
                              have k0 : (wr.drewN nq).cell? ⟨K, 0, none⟩ = some (.int .i64 b) := cell_is (kq.heap HC.out.1 (by simp)) 0 rfl
                              have k1 : (wr.drewN nq).cell? ⟨K, 1, none⟩ = some (.slice (some ⟨g6, o6, none⟩) 40 c6) := cell_is (kq.heap HC.out.1 (by simp)) 1 rfl
                              have d0 := kq.cell HC2.out.2.1 (by simp)
                              have d1 := kq.cell HC2.out.2.2 (by simp)
                              clear kq
                              generalize wr.drewN nq = w2 at *
                              go_wp2_with (at_builtin; refine wpList_append_lit rfl (.tmp 148) (.tmp 150) 85 50 rfl tyPut inf92 rfl (by decide) wc.heap.size w2 [.int .i64 b, .slice (some ⟨g6, o6, none⟩) 40 c6] 1 rfl (.slice pv m cv) m (puCells vs) rfl HO.out (by omega) (by decide) hz2 (k := 0) rfl (by simp [Value.oneCell']) rfl 1 rfl ?_; intro v3 w3 hap)
                              have k3 : Chg [] wc w3 := app_new HKQ.out HO.out (Nat.le_refl _) hap
                              have o3 : w3.ownsRow wc.heap.size 50 2 v3 (m + 1) (puCells (vs ++ [(b, .slice (some ⟨g6, o6, none⟩) 40 c6)])) := by rw [puCells_app]; exact hap.1
                              have HO3 := Lib.hid (And.intro k3 o3)
                              clear u2 k0 k1 d0 d1
                              have u2 : w3.cell? ⟨U, 2, none⟩ = some (.slice (some ⟨gp, op, none⟩) n c) := cell_is (k3.heap HC2.out.1 (by simp)) 2 rfl
                              have k0 : w3.cell? ⟨K, 0, none⟩ = some (.int .i64 b) := cell_is (k3.heap HC.out.1 (by simp)) 0 rfl
                              have k1 : w3.cell? ⟨K, 1, none⟩ = some (.slice (some ⟨g6, o6, none⟩) 40 c6) := cell_is (k3.heap HC.out.1 (by simp)) 1 rfl
                              have d0 := k3.cell HC2.out.2.1 (by simp)
                              have d1 := k3.cell HC2.out.2.2 (by simp)
                              obtain ⟨pv3, cv3, rfl, -⟩ := own_form o3
                              clear hap k3 o3 HO hz2
                              go_wp2_with fail
                              go_quiet (fail)
                              have kq3 : Chg [] wc (w3.drewN nq) := HO3.out.1.drewN nq
                              have HO4 := Lib.hid (show (w3.drewN nq).ownsRow wc.heap.size 50 2 (.slice pv3 (m + 1) cv3) (m + 1) (puCells (vs ++ [(b, .slice (some ⟨g6, o6, none⟩) 40 c6)])) from own_kp HO3.out.2 ((Chg.refl [] w3).drewN nq) (fun g hg hm => by cases hm))
                              clear u2 k0 k1 d0 d1
                              have H5 := Lib.hid (And.intro kq3 HO4.out)
                              clear kq3
                              go_wp2_with fail
                              go_roundw
                              case rel =>
                                have hvv : PuV wc (vs ++ [(b, .slice (some ⟨g6, o6, none⟩) 40 c6)]) (out ++ [(b, d)]) := HR.out.2.1.snoc (b := b) HD.out
                                refine ⟨k + 1, true, (out ++ [(b, d)]), (vs ++ [(b, .slice (some ⟨g6, o6, none⟩) 40 c6)]), by go_num, hlt, rfl, ?_, hvv, ?_, ?_, H5.out.1⟩
                                · have e := H5.out.2
                                  simpa [← HM.out, Nat.add_assoc] using e
                                · rw [← HR.out.2.2.1, HP.out.1]
                                  simp [bufA]
                                · have := HR.out.2.2.2.2
                                  simp
                                  omega
                              case measure => simp [intOf]; omega
                            · have dB : decide (b ≤ p) = true := decide_eq_true hbp
                              have q1 : (p == b) = false := beq_eq_false_iff_ne.2 hpb
                              have q2 : decide (p = b) = false := decide_eq_false hpb
                              go_wp2_with fail
                              go_quiet (fail)
                              have kq : Chg [] wc (wr.drewN nq) := HR.out.2.2.2.1.drewN nq
                              have HO := Lib.hid (show (wr.drewN nq).ownsRow wc.heap.size 50 2 (.slice pv m cv) m (puCells vs) from own_kp HR.out.1 ((Chg.refl [] wr).drewN nq) (fun g hg hm => by cases hm))
                              have hz2 : wc.heap.size ≤ (wr.drewN nq).heap.size := kq.size
                              have HKQ := Lib.hid kq
                              have u2 : (wr.drewN nq).cell? ⟨U, 2, none⟩ = some (.slice (some ⟨gp, op, none⟩) n c) := cell_is (kq.heap HC2.out.1 (by simp)) 2 rfl
                              have k0 : (wr.drewN nq).cell? ⟨K, 0, none⟩ = some (.int .i64 b) := cell_is (kq.heap HC.out.1 (by simp)) 0 rfl
                              have k1 : (wr.drewN nq).cell? ⟨K, 1, none⟩ = some (.slice (some ⟨g6, o6, none⟩) 40 c6) := cell_is (kq.heap HC.out.1 (by simp)) 1 rfl
                              have d0 := kq.cell HC2.out.2.1 (by simp)
                              have d1 := kq.cell HC2.out.2.2 (by simp)
                              clear kq
                              generalize wr.drewN nq = w2 at *
                              go_wp2_with (at_builtin; refine wpList_append_lit rfl (.tmp 148) (.tmp 150) 85 50 rfl tyPut inf92 rfl (by decide) wc.heap.size w2 [.int .i64 b, .slice (some ⟨g6, o6, none⟩) 40 c6] 1 rfl (.slice pv m cv) m (puCells vs) rfl HO.out (by omega) (by decide) hz2 (k := 0) rfl (by simp [Value.oneCell']) rfl 1 rfl ?_; intro v3 w3 hap)
                              have k3 : Chg [] wc w3 := app_new HKQ.out HO.out (Nat.le_refl _) hap
                              have o3 : w3.ownsRow wc.heap.size 50 2 v3 (m + 1) (puCells (vs ++ [(b, .slice (some ⟨g6, o6, none⟩) 40 c6)])) := by rw [puCells_app]; exact hap.1
                              have HO3 := Lib.hid (And.intro k3 o3)
                              clear u2 k0 k1 d0 d1
                              have u2 : w3.cell? ⟨U, 2, none⟩ = some (.slice (some ⟨gp, op, none⟩) n c) := cell_is (k3.heap HC2.out.1 (by simp)) 2 rfl
                              have k0 : w3.cell? ⟨K, 0, none⟩ = some (.int .i64 b) := cell_is (k3.heap HC.out.1 (by simp)) 0 rfl
                              have k1 : w3.cell? ⟨K, 1, none⟩ = some (.slice (some ⟨g6, o6, none⟩) 40 c6) := cell_is (k3.heap HC.out.1 (by simp)) 1 rfl
                              have d0 := k3.cell HC2.out.2.1 (by simp)
                              have d1 := k3.cell HC2.out.2.2 (by simp)
                              obtain ⟨pv3, cv3, rfl, -⟩ := own_form o3
                              clear hap k3 o3 HO hz2
                              go_wp2_with fail
                              go_quiet (fail)
                              have kq3 : Chg [] wc (w3.drewN nq) := HO3.out.1.drewN nq
                              have HO4 := Lib.hid (show (w3.drewN nq).ownsRow wc.heap.size 50 2 (.slice pv3 (m + 1) cv3) (m + 1) (puCells (vs ++ [(b, .slice (some ⟨g6, o6, none⟩) 40 c6)])) from own_kp HO3.out.2 ((Chg.refl [] w3).drewN nq) (fun g hg hm => by cases hm))
                              clear u2 k0 k1 d0 d1
                              have u2 : (w3.drewN nq).cell? ⟨U, 2, none⟩ = some (.slice (some ⟨gp, op, none⟩) n c) := cell_is (kq3.heap HC2.out.1 (by simp)) 2 rfl
                              have k0 : (w3.drewN nq).cell? ⟨K, 0, none⟩ = some (.int .i64 b) := cell_is (kq3.heap HC.out.1 (by simp)) 0 rfl
                              have k1 : (w3.drewN nq).cell? ⟨K, 1, none⟩ = some (.slice (some ⟨g6, o6, none⟩) 40 c6) := cell_is (kq3.heap HC.out.1 (by simp)) 1 rfl
                              have d0 := kq3.cell HC2.out.2.1 (by simp)
                              have d1 := kq3.cell HC2.out.2.2 (by simp)
                              have hz4 : wc.heap.size ≤ (w3.drewN nq).heap.size := kq3.size
                              have HK4 := Lib.hid kq3
                              clear kq3
                              generalize w3.drewN nq = w4 at *
                              go_wp2_with (at_builtin; refine wpList_append_lit rfl (.tmp 163) (.tmp 171) 85 50 rfl tyPut inf92 rfl (by decide) wc.heap.size w4 [.int .i64 p, .slice (some ⟨gd, od, none⟩) 40 cu] 1 rfl (.slice pv3 (m + 1) cv3) (m + 1) (puCells (vs ++ [(b, .slice (some ⟨g6, o6, none⟩) 40 c6)])) rfl HO4.out (by omega) (by decide) hz4 (k := 0) rfl (by simp [Value.oneCell']) rfl 1 rfl ?_; intro v5 w5 hap)
                              have k5 : Chg [] wc w5 := app_new HK4.out HO4.out (Nat.le_refl _) hap
                              have H5 := Lib.hid (And.intro k5 (show w5.ownsRow wc.heap.size 50 2 v5 ((m + 1) + 1) (puCells ((vs ++ [(b, .slice (some ⟨g6, o6, none⟩) 40 c6)]) ++ [(p, .slice (some ⟨gd, od, none⟩) 40 cu)])) from by rw [puCells_app]; exact hap.1))
                              clear hap k5
                              go_wp2_with fail
                              go_roundw
                              case rel =>
                                have hvv : PuV wc ((vs ++ [(b, .slice (some ⟨g6, o6, none⟩) 40 c6)]) ++ [(p, .slice (some ⟨gd, od, none⟩) 40 cu)]) ((out ++ [(b, d)]) ++ [(p, dp)]) := (HR.out.2.1.snoc (b := b) HD.out).snoc HP.out.2
                                refine ⟨k + 1, true, ((out ++ [(b, d)]) ++ [(p, dp)]), ((vs ++ [(b, .slice (some ⟨g6, o6, none⟩) 40 c6)]) ++ [(p, .slice (some ⟨gd, od, none⟩) 40 cu)]), by go_num, hlt, rfl, ?_, hvv, ?_, ?_, H5.out.1⟩
                                · have e := H5.out.2
                                  simpa [← HM.out, Nat.add_assoc] using e
                                · rw [← HR.out.2.2.1, HP.out.1]
                                  simp [bufA, hbp, hpb]
                                · have := HR.out.2.2.2.2
                                  simp
                                  omega
                              case measure => simp [intOf]; omega
                          · have hpb : ¬ p = b := by omega
                            have dB : decide (b ≤ p) = false := decide_eq_false hbp
                            have q1 : (p == b) = false := beq_eq_false_iff_ne.2 hpb
                            have q2 : decide (p = b) = false := decide_eq_false hpb
                            go_wp2_with fail
                            go_quiet (fail)
                            have kq : Chg [] wc (wr.drewN nq) := HR.out.2.2.2.1.drewN nq
                            have HKQ := Lib.hid kq
                            have u2 : (wr.drewN nq).cell? ⟨U, 2, none⟩ = some (.slice (some ⟨gp, op, none⟩) n c) := cell_is (kq.heap HC2.out.1 (by simp)) 2 rfl
                            have k0 : (wr.drewN nq).cell? ⟨K, 0, none⟩ = some (.int .i64 b) := cell_is (kq.heap HC.out.1 (by simp)) 0 rfl
                            have k1 : (wr.drewN nq).cell? ⟨K, 1, none⟩ = some (.slice (some ⟨g6, o6, none⟩) 40 c6) := cell_is (kq.heap HC.out.1 (by simp)) 1 rfl
                            have d0 := kq.cell HC2.out.2.1 (by simp)
                            have d1 := kq.cell HC2.out.2.2 (by simp)
                            have HO3 := Lib.hid (And.intro kq (show (wr.drewN nq).ownsRow wc.heap.size 50 2 (.slice pv m cv) m (puCells vs) from own_kp HR.out.1 ((Chg.refl [] wr).drewN nq) (fun g hg hm => by cases hm)))
                            clear kq
                            generalize wr.drewN nq = w3 at *
                            go_wp2_with fail
                            go_quiet (fail)
                            have kq3 : Chg [] wc (w3.drewN nq) := HO3.out.1.drewN nq
                            have HO4 := Lib.hid (show (w3.drewN nq).ownsRow wc.heap.size 50 2 (.slice pv m cv) m (puCells vs) from own_kp HO3.out.2 ((Chg.refl [] w3).drewN nq) (fun g hg hm => by cases hm))
                            clear u2 k0 k1 d0 d1
                            have u2 : (w3.drewN nq).cell? ⟨U, 2, none⟩ = some (.slice (some ⟨gp, op, none⟩) n c) := cell_is (kq3.heap HC2.out.1 (by simp)) 2 rfl
                            have k0 : (w3.drewN nq).cell? ⟨K, 0, none⟩ = some (.int .i64 b) := cell_is (kq3.heap HC.out.1 (by simp)) 0 rfl
                            have k1 : (w3.drewN nq).cell? ⟨K, 1, none⟩ = some (.slice (some ⟨g6, o6, none⟩) 40 c6) := cell_is (kq3.heap HC.out.1 (by simp)) 1 rfl
                            have d0 := kq3.cell HC2.out.2.1 (by simp)
                            have d1 := kq3.cell HC2.out.2.2 (by simp)
                            have hz4 : wc.heap.size ≤ (w3.drewN nq).heap.size := kq3.size
                            have HK4 := Lib.hid kq3
                            clear kq3
                            generalize w3.drewN nq = w4 at *
                            go_wp2_with (at_builtin; refine wpList_append_lit rfl (.tmp 163) (.tmp 171) 85 50 rfl tyPut inf92 rfl (by decide) wc.heap.size w4 [.int .i64 p, .slice (some ⟨gd, od, none⟩) 40 cu] 1 rfl (.slice pv m cv) m (puCells vs) rfl HO4.out (by omega) (by decide) hz4 (k := 0) rfl (by simp [Value.oneCell']) rfl 1 rfl ?_; intro v5 w5 hap)
                            have k5 : Chg [] wc w5 := app_new HK4.out HO4.out (Nat.le_refl _) hap
                            have H5 := Lib.hid (And.intro k5 (show w5.ownsRow wc.heap.size 50 2 v5 (m + 1) (puCells (vs ++ [(p, .slice (some ⟨gd, od, none⟩) 40 cu)])) from by rw [puCells_app]; exact hap.1))
                            clear hap k5
                            go_wp2_with fail
                            go_roundw
                            case rel =>
                              have hvv : PuV wc (vs ++ [(p, .slice (some ⟨gd, od, none⟩) 40 cu)]) (out ++ [(p, dp)]) := HR.out.2.1.snoc HP.out.2
                              refine ⟨k + 1, false, (out ++ [(p, dp)]), (vs ++ [(p, .slice (some ⟨gd, od, none⟩) 40 cu)]), by go_num, hlt, rfl, ?_, hvv, ?_, ?_, H5.out.1⟩
                              · have e := H5.out.2
                                simpa [← HM.out, Nat.add_assoc] using e
                              · rw [← HR.out.2.2.1, HP.out.1]
                                simp [bufA, hbp, hpb]
                              · have := HR.out.2.2.2.2
                                simp
                                omega
                            case measure => simp [intOf]; omega
                        | true =>
                          by_cases hpb : p = b
                          · have hpb' := hpb.symm
                            subst hpb'
                            go_wp2_with fail
                            go_quiet (fail)
                            have kq : Chg [] wc (wr.drewN nq) := HR.out.2.2.2.1.drewN nq
                            have HKQ := Lib.hid kq
                            have u2 : (wr.drewN nq).cell? ⟨U, 2, none⟩ = some (.slice (some ⟨gp, op, none⟩) n c) := cell_is (kq.heap HC2.out.1 (by simp)) 2 rfl
                            have k0 : (wr.drewN nq).cell? ⟨K, 0, none⟩ = some (.int .i64 b) := cell_is (kq.heap HC.out.1 (by simp)) 0 rfl
                            have k1 : (wr.drewN nq).cell? ⟨K, 1, none⟩ = some (.slice (some ⟨g6, o6, none⟩) 40 c6) := cell_is (kq.heap HC.out.1 (by simp)) 1 rfl
                            have d0 := kq.cell HC2.out.2.1 (by simp)
                            have d1 := kq.cell HC2.out.2.2 (by simp)
                            have HO3 := Lib.hid (And.intro kq (show (wr.drewN nq).ownsRow wc.heap.size 50 2 (.slice pv m cv) m (puCells vs) from own_kp HR.out.1 ((Chg.refl [] wr).drewN nq) (fun g hg hm => by cases hm)))
                            clear kq
                            generalize wr.drewN nq = w3 at *
                            go_wp2_with fail
                            go_quiet (fail)
                            have kq3 : Chg [] wc (w3.drewN nq) := HO3.out.1.drewN nq
                            have HO4 := Lib.hid (show (w3.drewN nq).ownsRow wc.heap.size 50 2 (.slice pv m cv) m (puCells vs) from own_kp HO3.out.2 ((Chg.refl [] w3).drewN nq) (fun g hg hm => by cases hm))
                            clear u2 k0 k1 d0 d1
                            have H5 := Lib.hid (And.intro kq3 HO4.out)
                            clear kq3
                            go_wp2_with fail
                            go_roundw
                            case rel =>
                              have hvv : PuV wc vs out := HR.out.2.1
                              refine ⟨k + 1, true, out, vs, by go_num, hlt, rfl, ?_, hvv, ?_, ?_, H5.out.1⟩
                              · have e := H5.out.2
                                simpa [← HM.out, Nat.add_assoc] using e
                              · rw [← HR.out.2.2.1, HP.out.1]
                                simp [bufA]
                              · have := HR.out.2.2.2.2
                                simp
                                omega
                            case measure => simp [intOf]; omega
                          · have q1 : (p == b) = false := beq_eq_false_iff_ne.2 hpb
                            have q2 : decide (p = b) = false := decide_eq_false hpb
                            go_wp2_with fail
                            go_quiet (fail)
                            have kq : Chg [] wc (wr.drewN nq) := HR.out.2.2.2.1.drewN nq
                            have HKQ := Lib.hid kq
                            have u2 : (wr.drewN nq).cell? ⟨U, 2, none⟩ = some (.slice (some ⟨gp, op, none⟩) n c) := cell_is (kq.heap HC2.out.1 (by simp)) 2 rfl
                            have k0 : (wr.drewN nq).cell? ⟨K, 0, none⟩ = some (.int .i64 b) := cell_is (kq.heap HC.out.1 (by simp)) 0 rfl
                            have k1 : (wr.drewN nq).cell? ⟨K, 1, none⟩ = some (.slice (some ⟨g6, o6, none⟩) 40 c6) := cell_is (kq.heap HC.out.1 (by simp)) 1 rfl
                            have d0 := kq.cell HC2.out.2.1 (by simp)
                            have d1 := kq.cell HC2.out.2.2 (by simp)
                            have HO3 := Lib.hid (And.intro kq (show (wr.drewN nq).ownsRow wc.heap.size 50 2 (.slice pv m cv) m (puCells vs) from own_kp HR.out.1 ((Chg.refl [] wr).drewN nq) (fun g hg hm => by cases hm)))
                            clear kq
                            generalize wr.drewN nq = w3 at *
                            go_wp2_with fail
                            go_quiet (fail)
                            have kq3 : Chg [] wc (w3.drewN nq) := HO3.out.1.drewN nq
                            have HO4 := Lib.hid (show (w3.drewN nq).ownsRow wc.heap.size 50 2 (.slice pv m cv) m (puCells vs) from own_kp HO3.out.2 ((Chg.refl [] w3).drewN nq) (fun g hg hm => by cases hm))
                            clear u2 k0 k1 d0 d1
                            have u2 : (w3.drewN nq).cell? ⟨U, 2, none⟩ = some (.slice (some ⟨gp, op, none⟩) n c) := cell_is (kq3.heap HC2.out.1 (by simp)) 2 rfl
                            have k0 : (w3.drewN nq).cell? ⟨K, 0, none⟩ = some (.int .i64 b) := cell_is (kq3.heap HC.out.1 (by simp)) 0 rfl
                            have k1 : (w3.drewN nq).cell? ⟨K, 1, none⟩ = some (.slice (some ⟨g6, o6, none⟩) 40 c6) := cell_is (kq3.heap HC.out.1 (by simp)) 1 rfl
                            have d0 := kq3.cell HC2.out.2.1 (by simp)
                            have d1 := kq3.cell HC2.out.2.2 (by simp)
                            have hz4 : wc.heap.size ≤ (w3.drewN nq).heap.size := kq3.size
                            have HK4 := Lib.hid kq3
                            clear kq3
                            generalize w3.drewN nq = w4 at *
                            go_wp2_with (at_builtin; refine wpList_append_lit rfl (.tmp 163) (.tmp 171) 85 50 rfl tyPut inf92 rfl (by decide) wc.heap.size w4 [.int .i64 p, .slice (some ⟨gd, od, none⟩) 40 cu] 1 rfl (.slice pv m cv) m (puCells vs) rfl HO4.out (by omega) (by decide) hz4 (k := 0) rfl (by simp [Value.oneCell']) rfl 1 rfl ?_; intro v5 w5 hap)
                            have k5 : Chg [] wc w5 := app_new HK4.out HO4.out (Nat.le_refl _) hap
                            have H5 := Lib.hid (And.intro k5 (show w5.ownsRow wc.heap.size 50 2 v5 (m + 1) (puCells (vs ++ [(p, .slice (some ⟨gd, od, none⟩) 40 cu)])) from by rw [puCells_app]; exact hap.1))
                            clear hap k5
                            go_wp2_with fail
                            go_roundw
                            case rel =>
                              have hvv : PuV wc (vs ++ [(p, .slice (some ⟨gd, od, none⟩) 40 cu)]) (out ++ [(p, dp)]) := HR.out.2.1.snoc HP.out.2
                              refine ⟨k + 1, true, (out ++ [(p, dp)]), (vs ++ [(p, .slice (some ⟨gd, od, none⟩) 40 cu)]), by go_num, hlt, rfl, ?_, hvv, ?_, ?_, H5.out.1⟩
                              · have e := H5.out.2
                                simpa [← HM.out, Nat.add_assoc] using e
                              · rw [← HR.out.2.2.1, HP.out.1]
                                simp [bufA, hpb]
                              · have := HR.out.2.2.2.2
                                simp
                                omega
                            case measure => simp [intOf]; omega
                      · obtain rfl : k = n := by omega
                        have hdr : P.drop k = [] := List.drop_eq_nil_of_le (by have := HH.out.2.2.2.1; omega)
                        have hUc := (HK1.out.then HC.out.2).heap HH.out.1 (by simp)
                        have hfin : ∀ (w9 : World) (v9 : Value) (m9 : Nat) (vs9 : List (Int × Value)), Chg [] wc w9 → w9.ownsRow wc.heap.size 50 2 v9 m9 (puCells vs9) → PuV wc vs9 (bufPut P b d) → m9 = (bufPut P b d).length → Chg [U] w (w9.setCell ⟨U, 2, none⟩ v9) ∧ RbAt (w9.setCell ⟨U, 2, none⟩ v9) U (bufPut P b d) := fun w9 v9 m9 vs9 k9 o9 p9 hm9 => by
                          have hU9 := k9.heap hUc (by simp)
                          have kS := Chg.set w9 U 2 v9
                          refine ⟨(((HK1.out.then HC.out.2).then k9).mono (fun x hx _ => by cases hx)).then kS, v9, heap_set hU9 2 _ rfl, PuX.own (own_kp o9 kS (fun g hg hm => ?_)) ((p9.keep k9).keepA kS (Av.row hU9 (by decide))) hm9⟩
                          obtain ⟨-, cs, hh⟩ := own_elem o9 hg
                          rw [List.mem_singleton] at hm
                          rw [hm, hU9] at hh
                          cases hh
                        have HFin := Lib.hid hfin
                        have HD0 := Lib.hid hdr
                        have fU := unfrozen (HR.out.2.2.2.1.heap hUc (by simp)) 2
                        obtain ⟨m, hm⟩ : ∃ m, m = vs.length := ⟨_, rfl⟩
                        have hm2 : m ≤ 100 := by have := HR.out.2.1.1; have := HR.out.2.2.2.2; omega
                        rw [← hm] at HR
                        have HM := Lib.hid hm
                        obtain ⟨pv, cv, rfl, -⟩ := own_form HR.out.1
                        have hz2 : wc.heap.size ≤ wr.heap.size := HR.out.2.2.2.1.size
                        clear hdr hfin hm
                        cases dn with
                        | false =>
                          go_wp2_with (at_builtin; refine wpList_append_lit rfl (.tmp 175) (.tmp 177) 85 50 rfl tyPut inf92 rfl (by decide) wc.heap.size wr [.int .i64 b, .slice (some ⟨g6, o6, none⟩) 40 c6] 1 rfl (.slice pv m cv) m (puCells vs) rfl HR.out.1 (by omega) (by decide) hz2 (k := 0) rfl (by simp [Value.oneCell']) rfl 1 rfl ?_; intro v3 w3 hap; obtain ⟨pv3, cv3, hv3, -⟩ := own_form hap.1; subst hv3; have k3 : Chg [] wc w3 := app_new HR.out.2.2.2.1 HR.out.1 (Nat.le_refl _) hap; have cU3 := cell_is (k3.heap hUc (by simp)) 2 rfl; have fU3 := unfrozen (k3.heap hUc (by simp)) 2; have HAP := Lib.hid (And.intro k3 hap); clear hap k3)
                          obtain ⟨k3, hap⟩ := HAP.out
                          have o3 : w3.ownsRow wc.heap.size 50 2 (.slice pv3 (m + 1) cv3) (m + 1) (puCells (vs ++ [(b, .slice (some ⟨g6, o6, none⟩) 40 c6)])) := by rw [puCells_app]; exact hap.1
                          have e9 : out ++ [(b, d)] = bufPut P b d := by rw [← HR.out.2.2.1, HD0.out]; rfl
                          have HF := Lib.hid (HFin.out w3 (.slice pv3 (m + 1) cv3) (m + 1) _ k3 o3 (by rw [← e9]; exact HR.out.2.1.snoc (b := b) HD.out) (by rw [← e9]; have := HR.out.2.1.1; have := HM.out; simp; omega))
                          clear hap k3 o3 e9
                          go_wp2_with fail
                          go_roundw
                          case rel => exact Or.inr ⟨rfl, HF.out⟩
                          case measure => simp [intOf]
                        | true =>
                          have e9 : out = bufPut P b d := by rw [← HR.out.2.2.1, HD0.out]; simp [bufA]
                          have HF := Lib.hid (HFin.out wr (.slice pv m cv) m vs HR.out.2.2.2.1 HR.out.1 (by rw [← e9]; exact HR.out.2.1) (by rw [← e9]; have := HR.out.2.1.1; have := HM.out; omega))
                          clear e9
                          go_wp2_with fail
                          go_roundw
                          case rel => exact Or.inr ⟨rfl, HF.out⟩
                          case measure => simp [intOf]
                · have HR := Lib.hid (And.intro kr hR)
                  clear kr hR
                  go_wp2_with fail
                  go_ret
                  exact ⟨rfl, HR.out⟩
end Go.Proofs.YtelakcjbknbehaaGreat
namespace Go.Proofs.YtelakcjbknbehaaGreat
open Go.RowKit Go.Lib

/-- a transaction's handle and time; the versions: the last time, the map's entries, each block's versions. -/
structure Par where
  h : Int
  t : Int
  lo : Nat
  last : Int
  Lv : List (Int × Value)
  vs : Int → List (Int × List UInt8)
/-- what a transaction's calls ask of the store about it. -/
structure Need (w : World) (d : Ids) (p : Par) : Prop where
  p0 : w.cell? ⟨d.P, 0, none⟩ = some (.pointer (some ⟨d.N, 0, none⟩))
  p5 : w.cell? ⟨d.P, 5, none⟩ = some (.pointer (some ⟨d.M, 0, none⟩))
  p9 : w.cell? ⟨d.P, 9, none⟩ = some (.bool false)
  hdr : ∃ ops rds, w.heap[d.N]? = some (.cells #[.int .i64 8, .int .i64 96, .slice (some ⟨d.A, 0, none⟩) 8 d.c, .int .i64 ops, .int .i64 rds, .bool false, .int .i64 0, .bool false] 128 (0, 0))
  m0 : w.cell? ⟨d.M, 0, none⟩ = some (.pointer (some ⟨d.X, 0, none⟩))
  m2 : w.cell? ⟨d.M, 2, none⟩ = some (.map (some d.r))
  map : ∃ Lr, MapAt w d.r Lr ∧ getL Lr p.h = some (.pointer (some ⟨d.T, 0, none⟩))
  ver : VerG w p.lo d.X d.rx p.last p.Lv p.vs
/-- what holds of the store about a transaction while it reads and writes. -/
structure Fr (base : Nat) (d : Ids) (p : Par) (F : World → Prop) : Prop where
  need : ∀ w, F w → Need w d p
  keep : ∀ a b, Ow base a b → F a → F b
/-- block T is an open transaction: its buffer W, its view Q, its time t. -/
def TxT (w : World) (T W Q : Nat) (t : Int) : Prop := w.heap[T]? = some (.cells #[.int .i64 1, .int .i64 0, .int .i64 0, .int .i64 t, .pointer (some ⟨W, 0, none⟩), .pointer (some ⟨Q, 0, none⟩)] 203 (0, 0))
/-- a store with an open transaction, whose blocks are q, whose buffer is L, behind n reads. -/
structure Su (w : World) (base : Nat) (d : Ids) (p : Par) (F : World → Prop) (q : Int → List UInt8) (L : List (Int × Value)) (n : Nat) : Prop where
  env : F w
  tx : TxT w d.T d.W d.Q p.t
  buf : BufAt w d.W d.rw L
  keys : ∀ x ∈ L, 0 ≤ x.1 ∧ x.1 < 258
  blk : ∀ b, 0 ≤ b → b < 258 → BlkT w L (p.vs b) p.t b (q b)
  vw : VwT w base d.Q d.X d.W d.V p.t n
  sp : SpV w base d.V n
  high : base ≤ d.Q ∧ base ≤ d.V ∧ base ≤ d.rw
theorem ow_rt {base : Nat} {w w' : World} {T : List Nat} (h : Chg T w w') (hT : Rt w base T) : Ow base w w' := by
  refine ⟨T, h, fun x hx => ⟨(hT x hx).1, fun cs t fr hh => ?_⟩⟩
  obtain ⟨_, cs', t', fr', h1, h2⟩ := hT x hx
  rw [hh] at h1
  cases h1
  exact h2
section
variable {base : Nat} {d : Ids} {p : Par} {F : World → Prop}
theorem Su.keep {w w' : World} {q : Int → List UInt8} {L : List (Int × Value)} {n : Nat} (hf : Fr base d p F) (h : Su w base d p F q L n) (hc : Chg [] w w') : Su w' base d p F q L n :=
  ⟨hf.keep w w' (Ow.of_chg hc) h.env, hc.heap h.tx (by simp), h.buf.keep hc (by simp) (by simp), h.keys, fun b hb hb' => (h.blk b hb hb').keep hc, h.vw.keep hc (Av.nil _ _), h.sp.keep0 hc, h.high⟩
set_option maxRecDepth 100000 in
theorem dead_gen (w : World) (h : Need w d p) : Calls Tryz.prog 53 #[.pointer (some ⟨d.P, 0, none⟩)] w fun e w' => e = .returned (.bool false) ∧ w = w' := by
  have c0 := h.p0
  have c9 := h.p9
  clear h
  go_enter Tryz.func53, Tryz.ntmps53
  go_wp2_with fail
  go_ret
  exact ⟨rfl, rfl⟩
set_option maxRecDepth 100000 in
theorem tgone_gen (w : World) (h : Need w d p) : Calls Tryz.prog 113 #[.pointer (some ⟨d.M, 0, none⟩)] w fun e w' => e = .returned (.bool false) ∧ w = w' := by
  have c0 := h.m0
  clear h
  go_enter Tryz.func113, Tryz.ntmps113
  go_wp2_with fail
  go_ret
  exact ⟨rfl, rfl⟩
set_option maxRecDepth 100000 in
theorem topen_gen (w : World) (h : Need w d p) (hT : TxT w d.T d.W d.Q p.t) : Calls Tryz.prog 118 #[.pointer (some ⟨d.M, 0, none⟩), .int .i64 p.h] w fun e w' => e = .returned (.pointer (some ⟨d.T, 0, none⟩)) ∧ w = w' := by
  have HG := Lib.hid (tgone_gen w h)
  have c2 := h.m2
  obtain ⟨Lr, hm, hg⟩ := h.map
  have hl : (Instr.lookup 193 (.map (some d.r)) (.int .i64 p.h) true).run Tryz.prog w = .ok (.tuple #[.pointer (some ⟨d.T, 0, none⟩), .bool true]) w := by
    have := lookup178 hm p.h true
    rw [hg] at this
    exact this
  have t0 : w.cell? ⟨d.T, 0, none⟩ = some (.int .i64 1) := cell_is hT 0 rfl
  clear h hT hg hm
  go_enter Tryz.func118, Tryz.ntmps118
  go_wp2_with fail
  refine HG.out.mono ?_
  rintro e w1 ⟨rfl, rfl⟩
  go_wp2_with fail
  go_ret
  exact ⟨rfl, rfl⟩
set_option maxRecDepth 100000 in
theorem twrite_gen (w : World) {q : Int → List UInt8} {L : List (Int × Value)} {n E eo cp D o c : Nat} {b : Int} {l : List UInt8} (hf : Fr base d p F) (h : Su w base d p F q L n)
    (e0 : w.cell? ⟨E, eo, none⟩ = some (.int .i64 b)) (e1 : w.cell? ⟨E, eo + 1, none⟩ = some (.slice (some ⟨D, o, none⟩) 40 c)) (hb : Bs w (some ⟨D, o, none⟩) l) (hl : l.length = 40) (h0 : 0 ≤ b) (h1 : b < 258) (hroom : L.length ≤ 15) :
    Calls Tryz.prog 55 #[.pointer (some ⟨d.M, 0, none⟩), .int .i64 p.h, .slice (some ⟨E, eo, none⟩) 1 cp] w fun e w' =>
    ∃ g c', e = .returned (.int .i64 0) ∧ Chg [d.rw] w w' ∧ BufAt w' d.W d.rw (putL L b (.slice (some ⟨g, 0, none⟩) 40 c')) ∧ Bs w' (some ⟨g, 0, none⟩) l ∧ Bt w' g := by
  have t4 : w.cell? ⟨d.T, 4, none⟩ = some (.pointer (some ⟨d.W, 0, none⟩)) := cell_is h.tx 4 rfl
  have HO := Lib.hid (topen_gen w (hf.need _ h.env) h.tx)
  have HW := Lib.hid (wwrite_one w (cp := cp) h.buf e0 e1 hb hl h0 h1 hroom)
  clear h e0 e1 hb hl
  go_enter Tryz.func55, Tryz.ntmps55
  go_wp2_with fail
  refine HO.out.mono ?_
  rintro e w1 ⟨rfl, rfl⟩
  go_wp2_with fail
  refine HW.out.mono ?_
  rintro e w1 ⟨g, c', rfl, k, hbf, hbs, hbt⟩
  go_wp2_with fail
  go_ret
  exact ⟨g, c', rfl, k, hbf, hbs, hbt⟩
theorem putL_keys {L : List (Int × Value)} {b : Int} {v : Value} {P : Int → Prop} (h : ∀ x ∈ L, P x.1) (hb : P b) : ∀ x ∈ putL L b v, P x.1 := by
  induction L with
  | nil => intro x hx; simp [putL] at hx; subst hx; exact hb
  | cons a l ih =>
    intro x hx
    simp only [putL] at hx
    split at hx
    · rcases List.mem_cons.1 hx with rfl | hx
      · exact hb
      · exact h x (List.mem_cons_of_mem _ hx)
    · rcases List.mem_cons.1 hx with rfl | hx
      · exact h _ List.mem_cons_self
      · exact ih (fun y hy => h y (List.mem_cons_of_mem _ hy)) x hx
end
end Go.Proofs.YtelakcjbknbehaaGreat
