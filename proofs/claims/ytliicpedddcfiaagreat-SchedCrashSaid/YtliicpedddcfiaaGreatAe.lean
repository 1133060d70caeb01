/- Lemmas and walks: Walks: versions of blocks are read. Walks: a view reads one block, versions and its own writes too. Walks: a set's extents, their count; a view's set. Maps with int keys: their keys in order; an entry is taken away. Walks: what a buffer holds, as puts. Walks: the reference's manager is made. Walks: the reference's manager begins a transaction. Walks: a cell is got, set, added to. Walks: numbers as bytes, the least first. Walks: check sums. Walks: rows of bytes one behind the other in a new row. Walks: a frame's bytes. Walks: what a new device, store and world hold beside. -/
import Derived.WideShapes
import Derived.Test.YtliicpedddcfiaaGreatProg
import Derived.Laws.BitsAllLaws
import Derived.Test.YtliicpedddcfiaaGreatAa
import Derived.Test.YtliicpedddcfiaaGreatAb
import Derived.Test.YtliicpedddcfiaaGreatAc
import Derived.Test.YtliicpedddcfiaaGreatAd
namespace Go.Proofs.YtliicpedddcfiaaGreat
open Go.RowKit Go.Lib

/-- versions (a time, a block's bytes) in an own row, the eldest first. -/
def VRow (w : World) (lo : Nat) (v : Value) (l : List (Int × List UInt8)) : Prop :=
  ∃ xs, w.ownsRow lo 247 2 v l.length xs ∧ ∀ i (h : i < l.length), xs[i * 2]? = some (.int .i64 l[i].1) ∧ ∃ g c, xs[i * 2 + 1]? = some (.slice (some ⟨g, 0, none⟩) 40 c) ∧ Bs w (some ⟨g, 0, none⟩) l[i].2 ∧ l[i].2.length = 40 ∧ Bt w g
/-- block X is a map of versions of 258 blocks, block rx holds its entries; vs b are the versions of block b. -/
structure VerG (w : World) (lo X rx : Nat) (last : Int) (L : List (Int × Value)) (vs : Int → List (Int × List UInt8)) : Prop where
  x : w.heap[X]? = some (.cells #[.int .i64 258, .map (some rx), .int .i64 last] 237 (0, 0))
  m : MapAt w rx L
  row : ∀ b, 0 ≤ b → b < 258 → (getL L b = none ∧ vs b = []) ∨ ∃ v, getL L b = some v ∧ VRow w lo v (vs b) ∧ vs b ≠ []
  small : ∀ b, (vs b).length ≤ 1000000
theorem VRow.keep {w w' : World} {T : List Nat} {lo : Nat} {v : Value} {l : List (Int × List UInt8)} (h : VRow w lo v l) (hc : Chg T w w') (hT : Av w T [5]) (hv : ∀ g, v.ownBlock = some g → g ∉ T) : VRow w' lo v l := by
  obtain ⟨xs, ho, hx⟩ := h
  refine ⟨xs, ?_, fun i hi => ?_⟩
  · refine ⟨ho.1, ?_⟩
    rcases ho.2 with hn | ⟨g, cap, cur, rfl, hb, hg, rest⟩
    · exact Or.inl hn
    · exact Or.inr ⟨g, cap, cur, rfl, hb, hc.heap hg (hv g rfl), rest⟩
  · obtain ⟨h0, g, c, h1, h2, h3, cs, h4⟩ := hx i hi
    have hg : g ∉ T := hT.ne h4 (by simp)
    exact ⟨h0, g, c, h1, h2.chgT hc hg, h3, cs, hc.heap h4 hg⟩
theorem VRow.block {w : World} {lo : Nat} {v : Value} {l : List (Int × List UInt8)} (h : VRow w lo v l) : ∀ g, v.ownBlock = some g → ∃ cs, w.heap[g]? = some (.cells cs 247 (0, 0)) := by
  intro g hg
  obtain ⟨xs, ho, -⟩ := h
  exact (own_elem ho hg).2
theorem VerG.keepA {w w' : World} {T : List Nat} {lo X rx : Nat} {last : Int} {L : List (Int × Value)} {vs : Int → List (Int × List UInt8)} (h : VerG w lo X rx last L vs) (hc : Chg T w w') (hT : Av w T [237, 247, 5]) (hm : rx ∉ T) : VerG w' lo X rx last L vs := by
  refine ⟨hc.heap h.x (hT.ne h.x (by simp)), h.m.keep hc hm, fun b h0 h1 => ?_, h.small⟩
  rcases h.row b h0 h1 with hn | ⟨v, h2, h3, h4⟩
  · exact Or.inl hn
  · refine Or.inr ⟨v, h2, h3.keep hc (fun x hx cs t fr hh ht => hT x hx cs t fr hh (by simp at ht; simp [ht])) (fun g hg => ?_), h4⟩
    obtain ⟨cs, hb⟩ := h3.block g hg
    exact hT.ne hb (by simp)
theorem VerG.keep {w w' : World} {lo X rx : Nat} {last : Int} {L : List (Int × Value)} {vs : Int → List (Int × List UInt8)} (h : VerG w lo X rx last L vs) (hc : Chg [] w w') : VerG w' lo X rx last L vs := h.keepA hc (Av.nil _ _) (by simp)
theorem VerAt.full {w : World} {X rx : Nat} (h : VerAt w X rx) (lo : Nat) : VerG w lo X rx 0 [] (fun _ => []) := ⟨h.1, h.2, fun _ _ _ => Or.inl ⟨rfl, rfl⟩, fun _ => by simp⟩
/-- the newest version that is not above a time. -/
def verT (l : List (Int × List UInt8)) (t : Int) : Option (Int × List UInt8) := l.reverse.find? (fun p => decide (p.1 ≤ t))
/-- a block's bytes at a time. -/
def bytT (l : List (Int × List UInt8)) (t : Int) : List UInt8 := ((verT l t).map Prod.snd).getD zeroB
set_option maxRecDepth 100000 in
theorem gblocks_any (w : World) {lo X rx : Nat} {last : Int} {L : List (Int × Value)} {vs : Int → List (Int × List UInt8)} (h : VerG w lo X rx last L vs) : Calls Tryz.prog 137 #[.pointer (some ⟨X, 0, none⟩)] w fun e w' => e = .returned (.int .i64 258) ∧ w = w' := by
  have c0 : w.cell? ⟨X, 0, none⟩ = some (.int .i64 258) := cell_is h.x 0 rfl
  clear h
  go_enter Tryz.func137, Tryz.ntmps137
  go_wp2_with fail
  go_ret
  exact ⟨rfl, rfl⟩
set_option maxRecDepth 100000 in
theorem gblock_any (w : World) {lo X rx : Nat} {last : Int} {L : List (Int × Value)} {vs : Int → List (Int × List UInt8)} {b : Int} (h : VerG w lo X rx last L vs) (h0 : 0 ≤ b) (h1 : b < 258) : Calls Tryz.prog 113 #[.pointer (some ⟨X, 0, none⟩), .int .i64 b] w fun e w' => e = .returned (.bool true) ∧ w = w' := by
  have HB := Lib.hid (gblocks_any w h)
  clear h
  go_enter Tryz.func113, Tryz.ntmps113
  go_wp2_with fail
  refine HB.out.mono ?_
  rintro e w1 ⟨rfl, rfl⟩
  go_wp2_with fail
  go_ret
  exact ⟨by simp, rfl⟩
set_option maxRecDepth 100000 in
set_option maxHeartbeats 1000000 in
theorem gwithin_one (w : World) {lo X rx : Nat} {last : Int} {L : List (Int × Value)} {vs : Int → List (Int × List UInt8)} {b : Int} (h : VerG w lo X rx last L vs) (h0 : 0 ≤ b) (h1 : b < 258) : Calls Tryz.prog 193 #[.pointer (some ⟨X, 0, none⟩), .agg #[.int .i64 b, .int .i64 1]] w fun e w' => e = .returned (.bool true) ∧ Chg [] w w' := by
  have kc : Chg [] w (w.alloc (.cells #[.int .i64 b, .int .i64 1] 197)) := Chg.alloc w _
  have h2 : VerG (w.alloc (.cells #[.int .i64 b, .int .i64 1] 197)) lo X rx last L vs := h.keep kc
  have a0 : (w.alloc (.cells #[.int .i64 b, .int .i64 1] 197)).cell? ⟨w.heap.size, 0, none⟩ = some (.int .i64 b) := cell_is (heap_new w _) 0 rfl
  have a1 : (w.alloc (.cells #[.int .i64 b, .int .i64 1] 197)).cell? ⟨w.heap.size, 1, none⟩ = some (.int .i64 1) := cell_is (heap_new w _) 1 rfl
  have n0 : decide (0 ≤ b) = true := decide_eq_true h0
  clear h
  go_enter Tryz.func193, Tryz.ntmps193
  go_wp2_with fail
  generalize w.alloc (.cells #[.int .i64 b, .int .i64 1] 197) = w1 at *
  generalize w.heap.size = z at *
  have h3 : VerG w1.drew lo X rx last L vs := h2.keep (Chg.refl [] w1).drew
  go_region_held3 (fun wx => wx.cell? ⟨z, 0, none⟩ = some (.int .i64 b) ∧ wx.cell? ⟨z, 1, none⟩ = some (.int .i64 1)) (first | (exact ⟨a0, a1⟩))
    (first | (go_at_call 137; refine (gblocks_any w1.drew h3).mono ?_; rintro e w2 ⟨rfl, rfl⟩))
  all_goals
    go_wp2_with fail
    go_ret
    exact ⟨by simp [show IntKind.i64.wrap 257 = 257 by decide]; omega, kc.drew⟩
theorem lookup258g {w : World} {r : Nat} {L : List (Int × Value)} (hM : MapAt w r L) (k : Int) :
    (Instr.lookup 235 (.map (some r)) (.int .i64 k) false).run Tryz.prog w = .ok ((getL L k).getD (.slice none 0 0)) w := lookup258 hM k false
set_option maxRecDepth 100000 in
set_option maxHeartbeats 1000000 in
theorem gat_any (w : World) {lo X rx : Nat} {last : Int} {L : List (Int × Value)} {vs : Int → List (Int × List UInt8)} {b t : Int} (h : VerG w lo X rx last L vs) (h0 : 0 ≤ b) (h1 : b < 258) : Calls Tryz.prog 203 #[.pointer (some ⟨X, 0, none⟩), .int .i64 b, .int .i64 t] w fun e w' =>
    w = w' ∧ ((e = .returned (.int .i64 (-1)) ∧ verT (vs b) t = none) ∨ ∃ k : Nat, e = .returned (.int .i64 k) ∧ ∃ hk : k < (vs b).length, verT (vs b) t = some (vs b)[k]) := by
  have c1 : w.cell? ⟨X, 1, none⟩ = some (.map (some rx)) := cell_is h.x 1 rfl
  have hl := lookup258g h.m b
  have hrow : ∃ pa c xs, (getL L b).getD (.slice none 0 0) = .slice pa (vs b).length c ∧ (vs b).length ≤ c ∧ w.ownsRow lo 247 2 (.slice pa (vs b).length c) (vs b).length xs ∧ ∀ i (h : i < (vs b).length), xs[i * 2]? = some (.int .i64 (vs b)[i].1) := by
    rcases h.row b h0 h1 with ⟨e1, e2⟩ | ⟨v, e1, ⟨xs, ho, hx⟩, -⟩
    · rw [e1, e2]
      exact ⟨none, 0, [], rfl, Nat.le_refl _, World.ownsRow_nil _ _ _ _, fun i h => by simp at h⟩
    · obtain ⟨pa, c, rfl, hc⟩ := own_form ho
      rw [e1]
      exact ⟨pa, c, xs, rfl, hc, ho, fun i hi => (hx i hi).1⟩
  have hsm := h.small b
  obtain ⟨pa, c, xs, e1, hcap, ho, hx⟩ := hrow
  rw [e1] at hl
  clear h e1
  have HO := Lib.hid ho
  have HX := Lib.hid hx
  clear ho hx
  generalize vs b = l at *
  go_enter Tryz.func203, Tryz.ntmps203
  go_wp2_with fail
  go_step3
  go_wp2_with fail
  go_step3
  go_wp2_with fail
  go_loop [8] (fun i => ∃ k : Nat, k ≤ l.length ∧ i = .int .i64 ((k : Int) - 1) ∧ verT (l.take k) t = verT l t) (fun i => (intOf i + 1).toNat)
  case atStart => exact ⟨l.length, Nat.le_refl _, rfl, by rw [List.take_length]⟩
  case round =>
    obtain ⟨k, hk, rfl, hv⟩ := hrel
    by_cases hk0 : k = 0
    · subst hk0
      have e1 : ((0 : Nat) : Int) - 1 = -1 := rfl
      rw [e1]
      go_wp2_with fail
      go_ret
      exact ⟨rfl, Or.inl ⟨rfl, by rw [← hv]; rfl⟩⟩
    · obtain ⟨j, rfl⟩ : ∃ j, k = j + 1 := ⟨k - 1, by omega⟩
      have hj : j < l.length := by omega
      have e1 : ((j + 1 : Nat) : Int) - 1 = j := by omega
      rw [e1]
      have hkn : ¬ l.length = 0 := by omega
      obtain ⟨g, cap, cur, hcur, hpa, hcells⟩ : ∃ g cap cur, w.heap[g]? = some (.cells cur 247 (0, 0)) ∧ Value.slice pa l.length c = .slice (some ⟨g, 0, none⟩) l.length cap ∧ w.cell? ⟨g, j * 2, none⟩ = some (.int .i64 l[j].1) := by
        rcases HO.out.2 with ⟨_, h0⟩ | ⟨g, cap, cur, e, hA, hg, hc1, hc2, hc3, ht⟩
        · exact absurd h0 hkn
        · refine ⟨g, cap, cur, hg, e, cell_is hg (j * 2) ?_⟩
          have h1 := HX.out j hj
          rw [← ht] at h1
          rw [List.getElem?_take_of_lt (by omega), Array.getElem?_toList] at h1
          exact h1
      cases hpa
      have hs : verT (l.take (j + 1)) t = if l[j].1 ≤ t then some l[j] else verT (l.take j) t := by
        unfold verT
        rw [List.take_succ_eq_append_getElem hj, List.reverse_append]
        by_cases hle : l[j].1 ≤ t
        · simp [hle]
        · simp [hle]
      rw [hv] at hs
      have HS := Lib.hid hs
      clear hs hv
      by_cases hle : l[j].1 ≤ t
      · have e2 : decide (l[j].1 ≤ t) = true := decide_eq_true hle
        have HR := Lib.hid (show verT l t = some l[j] by rw [HS.out, if_pos hle])
        clear hle HS
        generalize hlj : l[j].1 = tj at *
        go_wp2_with fail
        go_ret
        exact ⟨rfl, Or.inr ⟨j, rfl, hj, HR.out⟩⟩
      · have e2 : decide (l[j].1 ≤ t) = false := decide_eq_false hle
        have HR := Lib.hid (show verT l t = verT (l.take j) t by rw [HS.out, if_neg hle])
        clear hle HS
        generalize hlj : l[j].1 = tj at *
        go_wp2_with fail
        go_round
        case rel => exact ⟨j, by omega, by simp, HR.out.symm⟩
        case measure => simp [intOf]
/-- one version, at its place. -/
theorem VRow.get {w : World} {lo : Nat} {v : Value} {l : List (Int × List UInt8)} (h : VRow w lo v l) (k : Nat) (hk : k < l.length) : ∃ g cap gd cd, v = .slice (some ⟨g, 0, none⟩) l.length cap ∧ l.length ≤ cap ∧
    w.cell? ⟨g, k * 2, none⟩ = some (.int .i64 l[k].1) ∧ w.cell? ⟨g, k * 2 + 1, none⟩ = some (.slice (some ⟨gd, 0, none⟩) 40 cd) ∧ Bs w (some ⟨gd, 0, none⟩) l[k].2 ∧ l[k].2.length = 40 ∧ Bt w gd := by
  obtain ⟨xs, ho, hx⟩ := h
  obtain ⟨h0, gd, cd, h1, h2, h3, h4⟩ := hx k hk
  rcases ho.2 with ⟨_, e⟩ | ⟨g, cap, cur, rfl, hA, hg, hc1, hc2, hc3, ht⟩
  · omega
  · refine ⟨g, cap, gd, cd, rfl, hc1, cell_is hg _ ?_, cell_is hg _ ?_, h2, h3, h4⟩
    · rw [← ht, List.getElem?_take_of_lt (by omega), Array.getElem?_toList] at h0
      exact h0
    · rw [← ht, List.getElem?_take_of_lt (by omega), Array.getElem?_toList] at h1
      exact h1
set_option maxRecDepth 100000 in
set_option maxHeartbeats 2000000 in
theorem gget_any (w : World) {lo X rx : Nat} {last : Int} {L : List (Int × Value)} {vs : Int → List (Int × List UInt8)} {b t : Int} (h : VerG w lo X rx last L vs) (h0 : 0 ≤ b) (h1 : b < 258) : Calls Tryz.prog 194 #[.pointer (some ⟨X, 0, none⟩), .int .i64 b, .int .i64 t] w fun e w' =>
    ∃ g c tm, e = .returned (.tuple #[.slice (some ⟨g, 0, none⟩) 40 c, .int .i64 tm]) ∧ Chg [] w w' ∧ Bs w' (some ⟨g, 0, none⟩) (bytT (vs b) t) ∧ w.heap.size ≤ g ∧ (bytT (vs b) t).length = 40 := by
  have hmk := make40
  have HB := Lib.hid (gblock_any w h h0 h1)
  have HA := Lib.hid (gat_any w (b := b) (t := t) h h0 h1)
  have kc : Chg [] w (w.alloc (.cells zero40 5)) := Chg.alloc w _
  have hz : Bs (w.alloc (.cells zero40 5)) (some ⟨w.heap.size, 0, none⟩) zeroB := by
    rw [zero40_is]
    exact Bs.row (heap_new w _)
  have c1 : w.cell? ⟨X, 1, none⟩ = some (.map (some rx)) := cell_is h.x 1 rfl
  have HL := Lib.hid (lookup258g h.m b)
  have HR := Lib.hid (h.row b h0 h1)
  have hsm := h.small b
  clear h
  go_enter Tryz.func194, Tryz.ntmps194
  go_wp2_with fail
  refine HB.out.mono ?_
  rintro e w1 ⟨rfl, rfl⟩
  go_wp2_with fail
  refine HA.out.mono ?_
  rintro e w1 ⟨rfl, ⟨rfl, hv⟩ | ⟨k, rfl, hk, hv⟩⟩
  · have hy : bytT (vs b) t = zeroB := by unfold bytT; rw [hv]; rfl
    go_wp2_with fail
    go_ret2
    exact ⟨_, _, _, rfl, kc, by rw [hy]; exact hz, Nat.le_refl _, by rw [hy]; rfl⟩
  · have hy : bytT (vs b) t = (vs b)[k].2 := by unfold bytT; rw [hv]; rfl
    rcases HR.out with ⟨_, e⟩ | ⟨v, e1, hr, _⟩
    · rw [e] at hk; simp at hk
    · obtain ⟨g, cap, gd, cd, rfl, hcap, d0, d1, hb2, hl2, -⟩ := hr.get k hk
      have hl := HL.out
      rw [e1, Option.getD_some] at hl
      have HB2 := Lib.hid hb2
      have HL2 := Lib.hid hl2
      have HY := Lib.hid hy
      have hkk : (k : Int) < (vs b).length := by omega
      clear kc hz hb2 hl2 hy hr e1 hv
      generalize hj : (vs b)[k].1 = tj at *
      go_wp2_with fail
      have ka : Chg [] w (w.alloc (.cells #[.int .i64 tj, .slice (some ⟨gd, 0, none⟩) 40 cd] 247)) := Chg.alloc w _
      have za := heap_new w (.cells #[.int .i64 tj, .slice (some ⟨gd, 0, none⟩) 40 cd] 247)
      have HB3 := Lib.hid ((HB2.out.chg ka).chg (Chg.refl [] _).drew)
      generalize w.alloc (.cells #[.int .i64 tj, .slice (some ⟨gd, 0, none⟩) 40 cd] 247) = w2 at *
      generalize hzz : w.heap.size = z at *
      have e0 : w2.cell? ⟨z, 0, none⟩ = some (.int .i64 tj) := cell_is za 0 rfl
      have e1 : w2.cell? ⟨z, 1, none⟩ = some (.slice (some ⟨gd, 0, none⟩) 40 cd) := cell_is za 1 rfl
      go_region_held3 (fun wx => wx.cell? ⟨z, 0, none⟩ = some (.int .i64 tj) ∧ wx.cell? ⟨z, 1, none⟩ = some (.slice (some ⟨gd, 0, none⟩) 40 cd)) (first | (with_reducible exact ⟨f0, f1⟩) | (exact ⟨e0, e1⟩))
        (first | (go_at_call 47; refine (clone_bs w2.drew HL2.out (by decide) (by decide) HB3.out).mono ?_; rintro e w6 ⟨g6, c6, rfl, k6, b6, l6⟩; have f0 := k6.cell (show w2.drew.cell? ⟨z, 0, none⟩ = _ from e0) (by simp); have f1 := k6.cell (show w2.drew.cell? ⟨z, 1, none⟩ = _ from e1) (by simp)))
      all_goals
        have hsz := ka.size
        have hd : w2.drew.heap.size = w2.heap.size := rfl
        go_wp2_with fail
        go_ret2
        exact ⟨g6, c6, tj, rfl, ka.drew.then k6, by rw [HY.out]; exact b6, by omega, by rw [HY.out]; exact HL2.out⟩
set_option maxRecDepth 100000 in
set_option maxHeartbeats 1000000 in
theorem grange_one (w : World) {lo X rx : Nat} {last : Int} {L : List (Int × Value)} {vs : Int → List (Int × List UInt8)} {b t : Int} (h : VerG w lo X rx last L vs) (h0 : 0 ≤ b) (h1 : b < 258) : Calls Tryz.prog 177 #[.pointer (some ⟨X, 0, none⟩), .agg #[.int .i64 b, .int .i64 1], .int .i64 t] w fun e w' =>
    ∃ g c', e = .returned (.tuple #[.slice (some ⟨g, 0, none⟩) 40 c', .int .i64 0]) ∧ 40 ≤ c' ∧ Chg [] w w' ∧ w'.ownsRow w.heap.size 5 1 (.slice (some ⟨g, 0, none⟩) 40 c') 40 (Lib.byteCells (bytT (vs b) t)) ∧ (bytT (vs b) t).length = 40 := by
  have kc : Chg [] w (w.alloc (.cells #[.int .i64 b, .int .i64 1] 197)) := Chg.alloc w _
  have h2 : VerG (w.alloc (.cells #[.int .i64 b, .int .i64 1] 197)) lo X rx last L vs := h.keep kc
  have a0 : (w.alloc (.cells #[.int .i64 b, .int .i64 1] 197)).cell? ⟨w.heap.size, 0, none⟩ = some (.int .i64 b) := cell_is (heap_new w _) 0 rfl
  have a1 : (w.alloc (.cells #[.int .i64 b, .int .i64 1] 197)).cell? ⟨w.heap.size, 1, none⟩ = some (.int .i64 1) := cell_is (heap_new w _) 1 rfl
  clear h
  go_enter Tryz.func177, Tryz.ntmps177
  go_wp2_with fail
  generalize w.alloc (.cells #[.int .i64 b, .int .i64 1] 197) = w1 at *
  generalize hz : w.heap.size = z at *
  refine (gwithin_one w1 h2 h0 h1).mono ?_
  rintro e w2 ⟨rfl, k2⟩
  have h3 : VerG w2 lo X rx last L vs := h2.keep k2
  have b0 := k2.cell a0 (by simp)
  have b1 := k2.cell a1 (by simp)
  have kk := kc.then k2
  have hs2 := kk.size
  clear h2 a0 a1 kc k2
  go_wp2_with fail
  go_loopw [6, 17] (fun v i wr => (i = .int .i64 0 ∧ v = .slice none 0 0 ∧ wr = w2) ∨ (i = .int .i64 1 ∧ Chg [] w wr ∧ wr.ownsRow z 5 1 v 40 (Lib.byteCells (bytT (vs b) t)) ∧ (bytT (vs b) t).length = 40)) (fun _ i _ => 1 - (intOf i).toNat)
  case atStart => exact Or.inl ⟨rfl, rfl, rfl⟩
  case round =>
    rcases hrel with ⟨rfl, rfl, rfl⟩ | ⟨rfl, k5, ho, hl⟩
    · go_wp2_with fail
      refine (gget_any wr (t := t) h3 h0 h1).mono ?_
      rintro e w3 ⟨g, cg, tm, rfl, k3, hb3, l3, hlen⟩
      have hs3 : z ≤ w3.heap.size := Nat.le_trans (by omega) k3.size
      have HB3 := Lib.hid hb3
      have HLn := Lib.hid hlen
      clear hb3 hlen
      go_wp2_with (at_builtin; refine wpList_append_bs rfl (.tmp 30) (.tmp 31) 34 5 rfl ty23 inf5c z _ 0 [] rfl (World.ownsRow_nil _ _ _ _) _ 40 cg (bytT (vs b) t) rfl HLn.out HB3.out (by omega) hs3 ?_; intro v1 w4 h4)
      go_roundw
      case rel => exact Or.inr ⟨rfl, Chg.of_below ((kk.then k3).below0.trans (by rw [hz]; exact h4.2.1)), by simpa using h4.1, HLn.out⟩
      case measure => decide
    · go_wp2_with fail
      go_ret2
      rcases ho.2 with ⟨e, h0⟩ | ⟨g, cap, cur, e, hA, hr⟩
      · cases h0
      · subst hz
        refine ⟨g, cap, by rw [e]; rfl, ?_, k5, by rw [← e]; exact ho, hl⟩
        have := own_form ho
        obtain ⟨pa, c, h5, h6⟩ := this
        rw [e] at h5
        cases h5
        exact h6
end Go.Proofs.YtliicpedddcfiaaGreat
namespace Go.Proofs.YtliicpedddcfiaaGreat
open Go.RowKit Go.Lib

/-- block Q is a view of a time t. -/
def ViewT (w : World) (Q X W V : Nat) (t : Int) (v : Value) : Prop := w.heap[Q]? = some (.cells #[.pointer (some ⟨X, 0, none⟩), .pointer (some ⟨W, 0, none⟩), .int .i64 t, .pointer (some ⟨V, 0, none⟩), v] 258 (0, 0))
/-- .. with at most n reads in a row behind base. -/
def VwT (w : World) (base Q X W V : Nat) (t : Int) (n : Nat) : Prop := ∃ s m xs, ViewT w Q X W V t s ∧ m ≤ n ∧ w.ownsRow base 144 3 s m xs
theorem VwT.keep {w w' : World} {S : List Nat} {base Q X W V n : Nat} {t : Int} (h : VwT w base Q X W V t n) (hc : Chg S w w') (hS : Av w S [258, 144]) : VwT w' base Q X W V t n := by
  obtain ⟨s, m, xs, h1, h2, h3⟩ := h
  refine ⟨s, m, xs, hc.heap h1 (hS.ne h1 (by simp)), h2, h3.1, ?_⟩
  rcases h3.2 with hn | ⟨g, cap, cur, hv, hb, hg, rest⟩
  · exact Or.inl hn
  · exact Or.inr ⟨g, cap, cur, hv, hb, hc.heap hg (hS.ne hg (by simp)), rest⟩
theorem Vw.full {w : World} {base Q X W V n : Nat} (h : Vw w base Q X W V n) : VwT w base Q X W V 0 n := h
/-- a block's bytes: one's own write, or what the versions have at a time. -/
def BlkT (w : World) (L : List (Int × Value)) (vb : List (Int × List UInt8)) (t b : Int) (l : List UInt8) : Prop := (getL L b = none ∧ l = bytT vb t) ∨ ∃ g c, getL L b = some (.slice (some ⟨g, 0, none⟩) 40 c) ∧ Bs w (some ⟨g, 0, none⟩) l ∧ l.length = 40 ∧ Bt w g
theorem BlkT.keepT {w w' : World} {T : List Nat} {base : Nat} {L : List (Int × Value)} {vb : List (Int × List UInt8)} {t b : Int} {l : List UInt8} (h : BlkT w L vb t b l) (hc : Chg T w w') (hT : Rt w base T) : BlkT w' L vb t b l := by
  rcases h with h | ⟨g, c, h1, h2, h3, cs, hcs⟩
  · exact Or.inl h
  · have hg := hT.cells hcs (by simp)
    exact Or.inr ⟨g, c, h1, h2.chgT hc hg, h3, cs, hc.heap hcs hg⟩
theorem BlkT.keep {w w' : World} {L : List (Int × Value)} {vb : List (Int × List UInt8)} {t b : Int} {l : List UInt8} (h : BlkT w L vb t b l) (hc : Chg [] w w') : BlkT w' L vb t b l := h.keepT hc (Rt.nil w 0)
/-- what stands behind a Read's last store. -/
theorem gread_end {w wb wc w5 : World} {base Q X W V n m g g5 cp5 : Nat} {t : Int} {s : Value} {xs : List Value} {ys : List Value} {l : List UInt8} {Cb : Array Value} (HRt : Rt w base (V :: Q :: s.ownBlock.toList)) (k9 : Chg [V] w wb) (ky : Chg [] wb wc) (hm : m ≤ n) (hB : Bs wb (some ⟨g, 0, none⟩) l)
    (gy : wc.heap[g]? = some (.cells Cb 5 (0, 0))) (hgn : g ∉ s.ownBlock.toList) (hgQ : Q ∉ [g]) (oy : wc.ownsRow base 144 3 s m xs) (qy : ViewT wc Q X W V t s) (hQn : Q ∉ s.ownBlock.toList) (sb : SpV wc base V (n + 1))
    (o5 : w5.ownsRow base 144 3 (.slice (some ⟨g5, 0, none⟩) (m + 1) cp5) (m + 1) ys) (k5 : Chg s.ownBlock.toList wc w5) :
    ∃ T, Chg T w (w5.setCell ⟨Q, 4, none⟩ (.slice (some ⟨g5, 0, none⟩) (m + 1) cp5)) ∧ Rt w base T ∧ Bs (w5.setCell ⟨Q, 4, none⟩ (.slice (some ⟨g5, 0, none⟩) (m + 1) cp5)) (some ⟨g, 0, none⟩) l ∧ VwT (w5.setCell ⟨Q, 4, none⟩ (.slice (some ⟨g5, 0, none⟩) (m + 1) cp5)) base Q X W V t (n + 1) ∧ SpV (w5.setCell ⟨Q, 4, none⟩ (.slice (some ⟨g5, 0, none⟩) (m + 1) cp5)) base V (n + 1) := by
  have q5 := k5.heap qy hQn
  have g5h := k5.heap gy hgn
  have kS := Chg.set w5 Q 4 (.slice (some ⟨g5, 0, none⟩) (m + 1) cp5)
  have hgQ' : g ∉ [Q] := by simpa using (fun e => hgQ (by simp [e]))
  have hav : Av wc s.ownBlock.toList [197, 313] := by
    intro x hx cs t fr hh
    rcases oy.2 with ⟨rfl, _⟩ | ⟨k, cap, cur, rfl, hb, hk, rest⟩
    · simp [Value.ownBlock] at hx
    · simp [Value.ownBlock] at hx
      subst hx
      rw [hk] at hh
      cases hh
      simp
  have hq1 : Av w5 [Q] [197, 313] := fun x hx cs t fr hh => by
    rw [List.mem_singleton] at hx; subst hx; rw [q5] at hh; cases hh; simp
  have hq2 : Av w5 [Q] [144] := fun x hx cs t fr hh => by
    rw [List.mem_singleton] at hx; subst hx; rw [q5] at hh; cases hh; simp
  refine ⟨V :: Q :: s.ownBlock.toList, ?_, HRt, ((hB.chg ky).chgT k5 hgn).chgT kS hgQ', ⟨_, m + 1, ys, heap_set q5 4 _ rfl, by omega, ownsRow_av o5 kS hq2⟩, (sb.keep k5 hav).keep kS hq1⟩
  refine (((k9.mono ?_).then (ky.mono ?_)).then (k5.mono ?_)).then (kS.mono ?_)
  · intro x hx _; simp at hx; simp [hx]
  · intro x hx _; cases hx
  · intro x hx _; simp only [List.mem_cons]; exact Or.inr (Or.inr hx)
  · intro x hx _; simp at hx; simp [hx]
set_option maxRecDepth 100000 in
set_option maxHeartbeats 20000000 in
theorem gread_one (w : World) {base Q X rx W rw V n lo : Nat} {last t : Int} {Lv : List (Int × Value)} {vs : Int → List (Int × List UInt8)} {L : List (Int × Value)} {b : Int} {l : List UInt8} (hX : VerG w lo X rx last Lv vs) (hW : BufAt w W rw L) (hB : BlkT w L (vs b) t b l) (hV : VwT w base Q X W V t n) (hS : SpV w base V n) (hn : n ≤ 11) (hbase : base ≤ Q ∧ base ≤ V) (h0 : 0 ≤ b) (h1 : b < 258) :
    Calls Tryz.prog 148 #[.pointer (some ⟨Q, 0, none⟩), .agg #[.int .i64 b, .int .i64 1]] w fun e w' =>
    ∃ g c' T, e = .returned (.tuple #[.slice (some ⟨g, 0, none⟩) 40 c', .int .i64 0]) ∧ 40 ≤ c' ∧ Chg T w w' ∧ Rt w base T ∧ w.heap.size ≤ g ∧ Bs w' (some ⟨g, 0, none⟩) l ∧ VwT w' base Q X W V t (n + 1) ∧ SpV w' base V (n + 1) := by
  have k0 : Chg [] w (w.alloc (.cells #[.int .i64 b, .int .i64 1] 197)) := Chg.alloc w _
  have K0 := heap_new w (.cells #[.int .i64 b, .int .i64 1] 197)
  have hX1 := hX.keep k0
  have hW1 := hW.keep k0 (by simp) (by simp)
  have hB1 := hB.keep k0
  obtain ⟨s, m, xs, qw, hm, how⟩ := hV
  have q := k0.heap qw (by simp)
  have ho := ownsRow_chg how k0
  have hS1 := hS.keep0 k0
  have HRt : Rt w base (V :: Q :: s.ownBlock.toList) := by
    intro x hx
    simp only [List.mem_cons] at hx
    rcases hx with rfl | rfl | hx
    · exact ⟨hbase.2, _, _, _, hS.choose_spec.choose_spec.1, by simp⟩
    · exact ⟨hbase.1, _, _, _, qw, by simp⟩
    · rcases how.2 with ⟨rfl, _⟩ | ⟨k, cap, cur, rfl, hb, hk, rest⟩
      · simp [Value.ownBlock] at hx
      · simp [Value.ownBlock] at hx
        subst hx
        exact ⟨hb, _, _, _, hk, by simp⟩
  clear qw how
  have q0 : (w.alloc (.cells #[.int .i64 b, .int .i64 1] 197)).cell? ⟨Q, 0, none⟩ = some (.pointer (some ⟨X, 0, none⟩)) := cell_is q 0 rfl
  have q1 : (w.alloc (.cells #[.int .i64 b, .int .i64 1] 197)).cell? ⟨Q, 1, none⟩ = some (.pointer (some ⟨W, 0, none⟩)) := cell_is q 1 rfl
  have q2 : (w.alloc (.cells #[.int .i64 b, .int .i64 1] 197)).cell? ⟨Q, 2, none⟩ = some (.int .i64 t) := cell_is q 2 rfl
  have q3 : (w.alloc (.cells #[.int .i64 b, .int .i64 1] 197)).cell? ⟨Q, 3, none⟩ = some (.pointer (some ⟨V, 0, none⟩)) := cell_is q 3 rfl
  have a0 : (w.alloc (.cells #[.int .i64 b, .int .i64 1] 197)).cell? ⟨w.heap.size, 0, none⟩ = some (.int .i64 b) := cell_is K0 0 rfl
  have a1 : (w.alloc (.cells #[.int .i64 b, .int .i64 1] 197)).cell? ⟨w.heap.size, 1, none⟩ = some (.int .i64 1) := cell_is K0 1 rfl
  go_enter Tryz.func148, Tryz.ntmps148
  go_wp2_with fail
  go_step3
  go_wp2_with fail
  generalize w.alloc (.cells #[.int .i64 b, .int .i64 1] 197) = w1 at *
  generalize hK : w.heap.size = K at *
  go_region_held3 (fun wx => wx.cell? ⟨Q, 0, none⟩ = some (.pointer (some ⟨X, 0, none⟩)) ∧ wx.cell? ⟨Q, 2, none⟩ = some (.int .i64 t) ∧ wx.cell? ⟨K, 0, none⟩ = some (.int .i64 b) ∧ wx.cell? ⟨K, 1, none⟩ = some (.int .i64 1))
    (first | (exact ⟨q0, q2, a0, a1⟩) | (exact ⟨k2.cell q0 (by simp), k2.cell q2 (by simp), k2.cell a0 (by simp), k2.cell a1 (by simp)⟩))
    (first | (go_at_call 177; refine (grange_one w1.drew (t := t) (hX1.keep (Chg.refl [] w1).drew) h0 h1).mono ?_; rintro e w2 ⟨g, c', rfl, hc', k2, o2, hy40⟩))
  have HY := Lib.hid hy40
  clear hy40
  have kk2 := (Chg.refl [] w1).drew.then k2
  have q := kk2.heap q (by simp)
  have K0 := kk2.heap K0 (by simp)
  have ho := ownsRow_chg ho kk2
  have hW2 := hW1.keep kk2 (by simp) (by simp)
  have hB2 := hB1.keep kk2
  have hS2 := hS1.keep0 kk2
  have hK2 : K ≤ w2.heap.size := by have := k0.size; have := kk2.size; omega
  have ho2 : w2.ownsRow K 5 1 (.slice (some ⟨g, 0, none⟩) 40 c') 40 (Lib.byteCells (bytT (vs b) t)) := ownsRow_base o2 (by have := k0.size; show K ≤ w1.heap.size; omega)
  have kk := k0.then kk2
  clear q0 q1 q2 q3 a0 a1 hX1 hW1 hB1 hS1 o2 k0 k2 kk2
  have q3 : w2.cell? ⟨Q, 3, none⟩ = some (.pointer (some ⟨V, 0, none⟩)) := cell_is q 3 rfl
  have a0 : w2.cell? ⟨K, 0, none⟩ = some (.int .i64 b) := cell_is K0 0 rfl
  have a1 : w2.cell? ⟨K, 1, none⟩ = some (.int .i64 1) := cell_is K0 1 rfl
  go_wp2_with fail
  have kx : Chg [] w2 (w2.drew.alloc (.cells #[.int .i64 b, .int .i64 1] 197)) := (Chg.refl [] w2).drew.then_alloc _
  have kx0 := heap_new w2.drew (.cells #[.int .i64 b, .int .i64 1] 197)
  have hVK : V ≠ K := by obtain ⟨_, _, hh, _⟩ := hS2; exact heap_ne hh K0 (by simp)
  have hVQ : V ≠ Q := by obtain ⟨_, _, hh, _⟩ := hS2; exact heap_ne hh q (by simp)
  have hbw : base ≤ (w2.drew.alloc (.cells #[.int .i64 b, .int .i64 1] 197)).heap.size := by have := heap_lt q; have := kx.size; omega
  have kx2 : Chg [V] w2 (w2.drew.alloc (.cells #[.int .i64 b, .int .i64 1] 197)) := kx.mono (fun x hx _ => by cases hx)
  go_region_held3 (fun wx => wx.cell? ⟨Q, 3, none⟩ = some (.pointer (some ⟨V, 0, none⟩)) ∧ wx.cell? ⟨K, 0, none⟩ = some (.int .i64 b) ∧ wx.cell? ⟨K, 1, none⟩ = some (.int .i64 1))
    (first | (exact ⟨q3, a0, a1⟩) | (exact ⟨kx.cell q3 (by simp), kx.cell a0 (by simp), kx.cell a1 (by simp)⟩) | (exact ⟨(kx2.then k3).cell q3 (by simpa using hVQ.symm), (kx2.then k3).cell a0 (by simpa using hVK.symm), (kx2.then k3).cell a1 (by simpa using hVK.symm)⟩))
    (first | (go_at_call 178; refine (iadd_one (w2.drew.alloc (.cells #[.int .i64 b, .int .i64 1] 197)) (base := base) (V := V) (n := n) (E := w2.drew.heap.size) (hS2.keep0 kx) hn hbw h0 h1 (cell_is kx0 0 rfl) (cell_is kx0 1 rfl)).mono ?_; rintro e w3 ⟨rfl, k3, hS3⟩))
  have k4 := kx2.then k3
  have hR4 : Rt w2 base [V] := fun x hx => by
    rw [List.mem_singleton] at hx
    subst hx
    obtain ⟨_, _, hh, _⟩ := hS2
    exact ⟨hbase.2, _, _, _, hh, by simp⟩
  have q := k4.heap q (by simpa using hVQ.symm)
  have K0 := k4.heap K0 (by simpa using hVK.symm)
  have hW3 := hW2.keep k4 (hR4.cells hW2.1 (by simp)) (hR4.map hW2.2)
  have hB3 := hB2.keepT k4 hR4
  have hz : Bs w2 (some ⟨g, 0, none⟩) (bytT (vs b) t) ∧ Bt w2 g ∧ K ≤ g := by
    rcases ho2.2 with ⟨e, h0⟩ | ⟨g', cap, cur, e, hA, hgt, _⟩
    · cases h0
    · cases e; exact ⟨Bs.own ho2, ⟨_, hgt⟩, hA⟩
  have hgV : g ∉ [V] := hR4.cells hz.2.1.choose_spec (by simp)
  have kw3 : Chg [V] w w3 := (kk.mono (fun x hx _ => by cases hx)).then k4
  have hRw : Rt w base [V] := fun x hx => by
    rw [List.mem_singleton] at hx
    subst hx
    obtain ⟨_, _, hh, _⟩ := hS
    exact ⟨hbase.2, _, _, _, hh, by simp⟩
  have ho3 := ownsRow_chgV ho k4 hS2.choose_spec.choose_spec.1
  obtain ⟨cur, hg3, hcur⟩ : ∃ cur, w3.heap[g]? = some (.cells cur 5 (0, 0)) ∧ cur.size = c' * 1 ∧ cur.toList.take (40 * 1) = Lib.byteCells (bytT (vs b) t) := by
    rcases ho2.2 with ⟨e, h0⟩ | ⟨g', cap, cur, e, hA, hgt, _, _, hsz, htk⟩
    · cases h0
    · cases e; exact ⟨cur, k4.heap hgt hgV, hsz, htk⟩
  have HC := Lib.hid hcur
  clear hcur
  have hgK := hz.2.2
  clear q3 a0 a1 hW2 hB2 hS2 hz ho2 kx kx2 kx0 k3 k4 hR4 hgV hX hW hS kk hbw hB
  clear ho
  have a0 : w3.cell? ⟨K, 0, none⟩ = some (.int .i64 b) := cell_is K0 0 rfl
  have a1 : w3.cell? ⟨K, 1, none⟩ = some (.int .i64 1) := cell_is K0 1 rfl
  have q1 : w3.cell? ⟨Q, 1, none⟩ = some (.pointer (some ⟨W, 0, none⟩)) := cell_is q 1 rfl
  have q4 : w3.cell? ⟨Q, 4, none⟩ = some s := cell_is q 4 rfl
  go_wp2_with fail
  go_step3
  go_wp2_with fail
  have hb0 : IntKind.i64.wrap b = b := by rw [IntKind.wrap_i64]; omega
  go_loopw [55] (fun i wr => (i = .int .i64 0 ∧ wr = w3) ∨ (i = .int .i64 1 ∧ ∃ T, Chg T w wr ∧ Rt w base T ∧ Bs wr (some ⟨g, 0, none⟩) l ∧ VwT wr base Q X W V t (n + 1) ∧ SpV wr base V (n + 1))) (fun i _ => 1 - (intOf i).toNat)
  case atStart => exact Or.inl ⟨rfl, rfl⟩
  case round =>
    rcases hrel with ⟨rfl, rfl⟩ | ⟨rfl, T, kT, hT, hBs, hVw, hSp⟩
    · rcases hB3 with ⟨hg0, rfl⟩ | ⟨gb, cb, hg1, hbs, hl40, hbt⟩
      · go_wp2_with fail
        go_region_held3 (fun wx => wx.cell? ⟨Q, 1, none⟩ = some (.pointer (some ⟨W, 0, none⟩)) ∧ wx.cell? ⟨K, 0, none⟩ = some (.int .i64 b)) (first | (exact ⟨q1, a0⟩))
          (first | (go_at_call 179; refine (bget_none wr.drew (hW3.keep (Chg.refl [] wr).drew (by simp) (by simp)) hg0).mono ?_; rintro e wa ⟨rfl, rfl⟩))
        have k7 : Chg [] wr wr.drew := (Chg.refl [] wr).drew
        have hgb : wr.drew.heap[g]? = some (.cells cur 5 (0, 0)) := hg3
        have qb : ViewT wr.drew Q X W V t s := q
        have Kb : wr.drew.heap[K]? = some (.cells #[.int .i64 b, .int .i64 1] 197 (0, 0)) := K0
        have ob := ownsRow_chg ho3 k7
        have sb := hS3.keep0 k7
        have k9 : Chg [V] w wr.drew := kw3.drew
        have hBb : Bs wr.drew (some ⟨g, 0, none⟩) (bytT (vs b) t) := Bs.block hgb (by have := HC.out.2; rw [HY.out]; simpa using this)
        have hKQ : K ≠ Q := heap_ne Kb qb (by simp)
        have hgQ : Q ∉ [g] := by simpa using heap_ne qb hgb (by simp)
        clear hg3 q K0 ho3 hS3 kw3 k7 hW3 q1 a0 a1 q4
        generalize wr.drew = wb at *
        have a0 : wb.cell? ⟨K, 0, none⟩ = some (.int .i64 b) := cell_is Kb 0 rfl
        have q4 : wb.cell? ⟨Q, 4, none⟩ = some s := cell_is qb 4 rfl
        have a0d : wb.drew.cell? ⟨K, 0, none⟩ = some (.int .i64 b) := a0
        have q4d : wb.drew.cell? ⟨Q, 4, none⟩ = some s := q4
        have HBb := Lib.hid hBb
        go_wp2_with fail
        go_region_law
          (first
            | (go_simp; go_at_call 47; refine (clone_bs wb.drew (l := bytT (vs b) t) (m := 40) HY.out (by decide) (by decide) (HBb.out.chg (Chg.refl [] wb).drew)).mono ?_; rintro e w6 ⟨g2, c2, rfl, k6, _, _⟩; have a06 := k6.cell a0d (by simp); have q46 := k6.cell q4d (by simp); have ky : Chg [] wb (w6.alloc (.cells #[.int .i64 b, .slice (some ⟨g2, 0, none⟩) 40 c2, .bool false] 144)) := ((Chg.refl [] wb).drew.then k6).then_alloc _; have y0 := heap_new w6 (.cells #[.int .i64 b, .slice (some ⟨g2, 0, none⟩) 40 c2, .bool false] 144); have oy := ownsRow_chg ob ky; have qy := ky.heap qb (by simp); have q4y := cell_is qy 4 rfl; have a0y := cell_is (ky.heap Kb (by simp)) 0 rfl; have hQn := own_block_ne oy qy (by decide); have hby : base ≤ (w6.alloc (.cells #[.int .i64 b, .slice (some ⟨g2, 0, none⟩) 40 c2, .bool false] 144)).heap.size := (by have := heap_lt qy; omega); have gy := ky.heap hgb (by simp); have hgn := own_block_ne oy gy (by decide))
            | (refine step_append_rd rfl (.tmp 100) (.tmp 108) rfl base _ m xs rfl oy w6.heap.size 1 _ _ _ rfl (cell_is y0 0 rfl) (cell_is y0 1 rfl) (cell_is y0 2 rfl) ⟨rfl, rfl, rfl⟩ (by omega) hby ?_; intro g5 cp5 w5 o5 k5; have q5 := k5.heap qy hQn; have q45 := cell_is q5 4 rfl; have f45 := unfrozen q5 4))
        all_goals
          have HZ := Lib.hid (gread_end HRt k9 ky hm HBb.out gy hgn hgQ oy qy hQn (sb.keep0 ky) (g5 := g5) (cp5 := cp5) (w5 := w5) o5 k5)
          clear HBb gy hgn sb o5 k5 q5 f45 q45 hBb
          go_wp2_with fail
          go_roundw
          case rel => exact Or.inr ⟨rfl, HZ.out⟩
          case measure => decide
      · have HG := Lib.hid hg1
        have HL := Lib.hid hl40
        have HB := Lib.hid hbs
        clear hg1 hl40 hbs
        go_wp2_with fail
        go_region_held3 (fun wx => wx.cell? ⟨Q, 1, none⟩ = some (.pointer (some ⟨W, 0, none⟩)) ∧ wx.cell? ⟨K, 0, none⟩ = some (.int .i64 b)) (first | (exact ⟨q1, a0⟩) | (exact ⟨k6.cell q1 (by simp), k6.cell a0 (by simp)⟩))
          (first | (go_at_call 179; refine (bget_some wr.drew (hW3.keep (Chg.refl [] wr).drew (by simp) (by simp)) HG.out HB.out HL.out).mono ?_; rintro e wa ⟨g2, c2, rfl, k6, hbs6, l6⟩))
        have k7 := (Chg.refl [] wr).drew.then k6
        have hga := k7.heap hg3 (by simp)
        have hqa := k7.heap q (by simp)
        have hKa := k7.heap K0 (by simp)
        have hoa := ownsRow_chg ho3 k7
        have hSa := hS3.keep0 k7
        have k8 := kw3.then (k7.mono (T := [V]) (fun x hx _ => by cases hx))
        have hsrc : ∀ j v, (Lib.byteCells l)[j]? = some v → wa.cell? ((⟨g2, 0, none⟩ : Addr).add j) = some v := hbs6.cells_at
        have hlc : (Lib.byteCells l).length = 40 := by simpa [Lib.byteCells] using HL.out
        have H1 := Lib.hid hsrc
        have H2 := Lib.hid hlc
        have hfit : 0 + (Lib.byteCells l).length ≤ cur.size := by have := HC.out.1; omega
        have H3 := Lib.hid hfit
        clear hsrc hlc hfit
        go_wp2_with (refine wpList_copy_own rfl (.tmp 78) (.tmp 79) 34 34 rfl 5 ty23 (by kernel_rfl) g 0 40 c' ⟨g2, 0, none⟩ 40 c2 rfl rfl cur 5 hga (Lib.byteCells l) H2.out H1.out H3.out (fun v hv => byteCells_one l v hv) ?_)
        have kb : Chg [g] wa (wa.setRow g (List.take 0 cur.toList ++ (Lib.byteCells l ++ List.drop (0 + (Lib.byteCells l).length) cur.toList)).toArray) := chg_setRow _ _ _
        have hgb := setRow_heap wa g cur (List.take 0 cur.toList ++ (Lib.byteCells l ++ List.drop (0 + (Lib.byteCells l).length) cur.toList)).toArray 5 (0, 0) hga
        have hBb : Bs (wa.setRow g (List.take 0 cur.toList ++ (Lib.byteCells l ++ List.drop (0 + (Lib.byteCells l).length) cur.toList)).toArray) (some ⟨g, 0, none⟩) l := Bs.block hgb (by rw [HL.out, List.take_zero, List.nil_append, List.toList_toArray]; rw [show (40 : Nat) = (Lib.byteCells l).length from H2.out.symm]; exact List.take_left)
        generalize hwb : (wa.setRow g (List.take 0 cur.toList ++ (Lib.byteCells l ++ List.drop (0 + (Lib.byteCells l).length) cur.toList)).toArray) = wb at *
        clear hwb
        generalize (List.take 0 cur.toList ++ (Lib.byteCells l ++ List.drop (0 + (Lib.byteCells l).length) cur.toList)).toArray = Cb at hgb
        simp only [Act.put, List.setIfInBounds_toArray, List.set_cons_zero, List.set_cons_succ]
        have hgQ : Q ∉ [g] := by simpa using heap_ne hqa hga (by simp)
        have hgK2 : K ∉ [g] := by simpa using heap_ne hKa hga (by simp)
        have qb := kb.heap hqa hgQ
        have Kb := kb.heap hKa hgK2
        have ob := ownsRow_chg2 hoa kb hga
        have sb := hSa.keep kb (fun x hx cs t fr hh => by rw [List.mem_singleton] at hx; subst hx; rw [hga] at hh; cases hh; simp)
        have k9 : Chg [V] w wb := k8.trans kb (fun x hx hlt => by rw [List.mem_singleton] at hx; omega)
        have hKQ : K ≠ Q := heap_ne Kb qb (by simp)
        clear hga hqa hKa hoa hSa k7 k8 kb H1 H2 H3 hbs6 k6
        have a0 : wb.cell? ⟨K, 0, none⟩ = some (.int .i64 b) := cell_is Kb 0 rfl
        have q4 : wb.cell? ⟨Q, 4, none⟩ = some s := cell_is qb 4 rfl
        have ky : Chg [] wb (wb.drew.alloc (.cells #[.int .i64 b, .slice (some ⟨g2, 0, none⟩) 40 c2, .bool true] 144)) := (Chg.refl [] wb).drew.then_alloc _
        have y0 := heap_new wb.drew (.cells #[.int .i64 b, .slice (some ⟨g2, 0, none⟩) 40 c2, .bool true] 144)
        have oy := ownsRow_chg ob ky
        have qy := ky.heap qb (by simp)
        have Ky := ky.heap Kb (by simp)
        have q4y := cell_is qy 4 rfl
        have a0y := cell_is Ky 0 rfl
        have hQn := own_block_ne oy qy (by decide)
        have hKn := own_block_ne oy Ky (by decide)
        have hby : base ≤ (wb.drew.alloc (.cells #[.int .i64 b, .slice (some ⟨g2, 0, none⟩) 40 c2, .bool true] 144)).heap.size := by have := heap_lt qy; omega
        have q4d : wb.drew.cell? ⟨Q, 4, none⟩ = some s := q4
        have q4e : (wb.alloc (.cells #[.int .i64 b, .slice (some ⟨g2, 0, none⟩) 40 c2, .bool true] 144)).cell? ⟨Q, 4, none⟩ = some s := q4y
        have a0e : (wb.alloc (.cells #[.int .i64 b, .slice (some ⟨g2, 0, none⟩) 40 c2, .bool true] 144)).cell? ⟨K, 0, none⟩ = some (.int .i64 b) := a0y
        have a0d : wb.drew.cell? ⟨K, 0, none⟩ = some (.int .i64 b) := a0
        have gy := ky.heap hgb (by simp)
        have hgn := own_block_ne oy gy (by decide)
        have HF := Lib.hid (fun (g5 cp5 : Nat) (w5 : World) (o5 : w5.ownsRow base 144 3 (.slice (some ⟨g5, 0, none⟩) (m + 1) cp5) (m + 1) (xs ++ [.int .i64 b, .slice (some ⟨g2, 0, none⟩) 40 c2, .bool true])) (k5 : Chg s.ownBlock.toList (wb.drew.alloc (.cells #[.int .i64 b, .slice (some ⟨g2, 0, none⟩) 40 c2, .bool true] 144)) w5) =>
          gread_end HRt k9 ky hm hBb gy hgn hgQ oy qy hQn (sb.keep0 ky) o5 k5)
        clear hBb gy hgn sb
        go_region_law
          (first | (refine step_append_rd rfl (.tmp 85) (.tmp 92) rfl base _ m xs rfl oy wb.drew.heap.size 1 _ _ _ rfl (cell_is y0 0 rfl) (cell_is y0 1 rfl) (cell_is y0 2 rfl) ⟨rfl, rfl, rfl⟩ (by omega) hby ?_; intro g5 cp5 w5 o5 k5; have q5 := k5.heap qy hQn; have q45 := cell_is q5 4 rfl; have f45 := unfrozen q5 4; have a05 := k5.cell a0y hKn))
        all_goals
          have HZ := Lib.hid (HF.out g5 cp5 w5 o5 k5)
          clear HF o5 k5 q5 f45 q45
          go_wp2_with fail
          go_roundw
          case rel => exact Or.inr ⟨rfl, HZ.out⟩
          case measure => decide
    · have hgw : w.heap.size ≤ g := by omega
      go_wp2_with fail
      simp only [Exit.noGoto]
      go_ret2
      exact ⟨g, c', T, rfl, hc', kT, hT, hgw, hBs, hVw, hSp⟩
end Go.Proofs.YtliicpedddcfiaaGreat
namespace Go.Proofs.YtliicpedddcfiaaGreat
open Go.RowKit Go.Lib

set_option maxRecDepth 100000 in
theorem inewm_any (w : World) (k : Nat) : Calls Tryz.prog 176 #[.int .i64 k] w fun e w' => ∃ V, e = .returned (.pointer (some ⟨V, 0, none⟩)) ∧ Chg [] w w' ∧ SpW w' w.heap.size V k 0 ∧ w.heap.size ≤ V := by
  have h1 := heap_new w (.cells #[.int .i64 k, .slice none 0 0] 313)
  have hc : Chg [] w (w.alloc (.cells #[.int .i64 k, .slice none 0 0] 313)) := Chg.alloc w _
  go_enter Tryz.func176, Tryz.ntmps176
  go_wp2_with fail
  go_ret
  exact ⟨_, rfl, hc, ⟨_, [], h1, Nat.le_refl _, World.ownsRow_nil _ _ _ _⟩, Nat.le_refl _⟩
set_option maxRecDepth 100000 in
set_option maxHeartbeats 1000000 in
theorem clonesp_any (w : World) {pa : Option Addr} {m c : Nat} {l : List (Int × Int)} (hl : l.length = m) (hm : m ≤ 1000) (hs : SpQ w pa l) (hn0 : pa = none → m = 0 ∧ c = 0) : Calls Tryz.prog 207 #[.slice pa m c] w fun e w' => ∃ pb cb, e = .returned (.slice pb m cb) ∧ Chg [] w w' ∧ SpQ w' pb l := by
  rcases hs with ⟨rfl, rfl⟩ | ⟨b, o, rfl, hs⟩
  · obtain ⟨rfl, rfl⟩ := hn0 rfl
    have hq : ∀ w, (binOp .eql 311 (.slice none 0 0) (.slice none 0 0)).run Tryz.prog w = .ok (.bool true) w := fun w => by kernel_rfl
    go_enter Tryz.func207, Tryz.ntmps207
    go_wp2_with fail
    go_ret
    first | exact ⟨none, 0, rfl, Chg.refl _ _, Or.inl ⟨rfl, rfl⟩⟩ | exact ⟨none, ⟨0, rfl⟩, Chg.refl _ _, Or.inl ⟨rfl, rfl⟩⟩ | exact ⟨Chg.refl _ _, Or.inl ⟨rfl, rfl⟩⟩
  · have hq : ∀ w, (binOp .eql 311 (.slice (some ⟨b, o, none⟩) m c) (.slice none 0 0)).run Tryz.prog w = .ok (.bool false) w := fun w => Lib.run_eql_slice_nil w 311 197 _ _ _ 0 0 ty217
    have HB := Lib.hid (show SpQ w (some ⟨b, o, none⟩) l from Or.inr ⟨b, o, rfl, hs⟩)
    have HL := Lib.hid hl
    clear hs hl
    go_enter Tryz.func207, Tryz.ntmps207
    go_wp2_with (first | (at_builtin; refine wpList_append_spq rfl (.tmp 5) (.tmp 6) rfl w.heap.size _ 0 [] l rfl (own_empty2 w) (some ⟨b, o, none⟩) m c rfl HL.out (HB.out.keep (Chg.alloc w _)) (by omega) (by simp) ?_; intro v1 w1 h1))
    go_ret
    have h2 : w1.ownsRow w.heap.size 197 2 v1 l.length (spCells l) := by simpa [HL.out] using h1.1
    obtain ⟨pb, cb, rfl, hq⟩ := own_spq h2
    exact ⟨pb, cb, by show Ending.returned (.slice pb l.length cb) = _; rw [HL.out], Chg.of_below ((Below.of_alloc w _).trans h1.2.1), hq⟩
set_option maxRecDepth 100000 in
theorem extents_any (w : World) {base V most n : Nat} (h : SpW w base V most n) (hn : n ≤ 1000) : Calls Tryz.prog 213 #[.pointer (some ⟨V, 0, none⟩)] w fun e w' => ∃ pb m cb l, e = .returned (.slice pb m cb) ∧ Chg [] w w' ∧ SpQ w' pb l ∧ l.length = m ∧ m ≤ n := by
  obtain ⟨v, l, hV, hl, ho⟩ := h
  obtain ⟨pa, c, rfl, hq⟩ := own_spq ho
  have v1 : w.cell? ⟨V, 1, none⟩ = some (.slice pa l.length c) := cell_is hV 1 rfl
  have h0 : pa = none → l.length = 0 ∧ c = 0 := by
    rintro rfl
    rcases ho.2 with ⟨e, h0⟩ | ⟨g, cap, cur, e, _⟩
    · injection e with _ _ e3; exact ⟨h0, e3⟩
    · injection e with e1; cases e1
  have HC := Lib.hid (clonesp_any w (c := c) rfl (by omega) hq h0)
  clear hV ho hq h0
  go_enter Tryz.func213, Tryz.ntmps213
  go_wp2_with fail
  refine HC.out.mono ?_
  rintro e w1 ⟨pb, cb, rfl, k, hq⟩
  go_wp2_with fail
  go_ret
  exact ⟨pb, l.length, cb, l, rfl, k, hq, rfl, hl⟩
/-- an int is handed back. -/
def isI (e : Ending) : Prop := ∃ r : Int, e = .returned (.int .i64 r)
set_option maxRecDepth 100000 in
set_option maxHeartbeats 1000000 in
theorem count_any (w : World) {base V most n : Nat} (h : SpW w base V most n) (hn : n ≤ 1000) : Calls Tryz.prog 212 #[.pointer (some ⟨V, 0, none⟩)] w fun e w' => isI e ∧ Chg [] w w' := by
  have HE := Lib.hid (extents_any w h hn)
  clear h
  go_enter Tryz.func212, Tryz.ntmps212
  go_wp2_with fail
  refine HE.out.mono ?_
  rintro e w1 ⟨pb, m, cb, l, rfl, k1, hq, hl, hm⟩
  have HQ := Lib.hid hq
  clear hq
  go_wp2_with fail
  go_loopw [2, 4, 8] (fun s _ i wr => ∃ (j : Nat) (r : Int), j ≤ m ∧ i = .int .i64 j ∧ s = .int .i64 r ∧ Chg [] w1 wr) (fun _ _ i _ => m - (intOf i).toNat)
  case atStart => exact ⟨0, 0, by omega, rfl, rfl, Chg.refl _ _⟩
  case round =>
    obtain ⟨j, r, hj, rfl, rfl, kr⟩ := hrel
    by_cases hlt : j < m
    · obtain ⟨b, o, rfl, c0, c1⟩ := (HQ.out.keep kr).get j (by omega)
      generalize (l[j]'(by omega)).1 = x at *
      generalize (l[j]'(by omega)).2 = y at *
      go_wp2_with fail
      go_roundw
      case rel => exact ⟨j + 1, _, by omega, by simp, rfl, kr.then_alloc _⟩
      case measure => simp [intOf]; omega
    · obtain rfl : j = m := by omega
      go_wp2_with fail
      go_ret
      exact ⟨⟨_, rfl⟩, k1.then kr⟩
set_option maxRecDepth 100000 in
set_option maxHeartbeats 1000000 in
theorem vset_any (w : World) {base Q X W V n : Nat} {t : Int} (h : VwT w base Q X W V t n) (hs : SpV w base V n) (hn : n ≤ 12) : Calls Tryz.prog 199 #[.pointer (some ⟨Q, 0, none⟩)] w fun e w' => ∃ U lo, e = .returned (.pointer (some ⟨U, 0, none⟩)) ∧ Chg [] w w' ∧ SpW w' lo U 64 n ∧ w.heap.size ≤ U := by
  obtain ⟨s, m, xs, hq, -, -⟩ := h
  have HN := Lib.hid (inewm_any w 64)
  have hsz := heap_lt hq
  have HQ := Lib.hid hq
  have HS := Lib.hid hs.to
  clear hq hs
  go_enter Tryz.func199, Tryz.ntmps199
  go_wp2_with fail
  refine HN.out.mono ?_
  rintro e w1 ⟨U, rfl, k1, hU, lU⟩
  have q3 : w1.cell? ⟨Q, 3, none⟩ = some (.pointer (some ⟨V, 0, none⟩)) := cell_is (k1.heap HQ.out (by simp)) 3 rfl
  have hs1 := HS.out.keep0 k1
  have HU := Lib.hid hU
  clear hU
  go_wp2_with fail
  refine (extents_any w1 hs1 (by omega)).mono ?_
  rintro e w2 ⟨pb, m2, cb, l, rfl, k2, hq2, hl2, hm2⟩
  have hU2 := HU.out.keep0 k2
  go_wp2_with fail
  refine (iadd_any w2 (m := m2) hU2 (by omega) (by have := (k1.then k2).size; omega) hl2 hq2).mono ?_
  rintro e w3 ⟨r, rfl, k3, hU3⟩
  go_wp2_with fail
  go_ret
  refine ⟨U, w.heap.size, rfl, (k1.then k2).trans k3 (fun x hx hlt => by rw [List.mem_singleton] at hx; omega), ?_, lU⟩
  obtain ⟨v, l3, h1, h2, h3⟩ := hU3
  exact ⟨v, l3, h1, by omega, h3⟩
end Go.Proofs.YtliicpedddcfiaaGreat
namespace Go.Proofs.YtliicpedddcfiaaGreat
open Go.RowKit Go.Maps Go.Sort Go.Shelf

/-- a map without one key. -/
def delL : List (Int × Value) → Int → List (Int × Value)
  | [], _ => []
  | p :: l, k => if k = p.1 then l else p :: delL l k
theorem delL_none {L : List (Int × Value)} {k : Int} {i : Nat} (h : findL L k i = none) : delL L k = L := by
  induction L generalizing i with
  | nil => rfl
  | cons p l ih =>
    simp only [findL] at h
    split at h
    · cases h
    · rename_i hk
      simp only [delL, if_neg hk, ih h]
theorem delL_some {L : List (Int × Value)} {k : Int} {i : Nat} {x : Nat × Value} (h : findL L k i = some x) : delL L k = L.eraseIdx (x.1 - i) := by
  induction L generalizing i with
  | nil => cases h
  | cons p l ih =>
    simp only [findL] at h
    split at h
    · rename_i hk
      injection h with h
      subst h
      simp [delL, hk]
    · rename_i hk
      have h2 := findL_ge h
      have e : x.1 - i = (x.1 - (i + 1)) + 1 := by omega
      rw [e]
      simp only [delL, if_neg hk, ih h, List.eraseIdx_cons_succ]
theorem erase_map {α β : Type} (f : α → β) (l : List α) (i : Nat) : (l.eraseIdx i).map f = (l.map f).eraseIdx i := by
  induction l generalizing i with
  | nil => rfl
  | cons a l ih =>
    cases i with
    | zero => rfl
    | succ i => simp [ih]
theorem run_delete_im {P : Program} {w : World} {mty kt et : TypeId} (hm : P.underlying mty = some (.map kt et)) (hk : P.underlying kt = some (.int .i64)) {r : Nat} {L : List (Int × Value)} (hM : MapAt w r L) (k : Int) (ty : TypeId) :
    ∃ w', (Builtin.delete_ #[mty, kt] ty #[.map (some r), .int .i64 k]).run P w = .ok (.tuple #[]) w' ∧ MapAt w' r (delL L k) ∧ Chg [r] w w' ∧ w'.heap.size = w.heap.size := by
  obtain ⟨es, clock, hb, hI, hS⟩ := hM
  have hf := findNow_im .i64 k es.toList L hI 0
  have hc : ∀ e, (Instr.checkKey e 10000 kt (.int .i64 k)).run P w = .ok () w := fun e => MapKept.run_checkKey (k := .int .i64 k) hk (by simp [MapKept.IsKey]) e 9999
  cases hfl : findL L k 0 with
  | none =>
    rw [hfl] at hf
    refine ⟨mapSet w r (.map es clock), ?_, ⟨_, _, mapSet_heap hb, ?_, hS⟩, mapSet_chg _ _ _, by simp [mapSet]⟩
    · simp [Builtin.delete_, run_underlying hm, MapKept.run_getObj_map hb, hc, MapKept.run_findKey hk hf, MapKept.run_setObj_map _ hb, Result.andThen, mapSet]
    · rw [delL_none hfl]
      exact hI
  | some x =>
    rw [hfl] at hf
    obtain ⟨i, u⟩ := x
    refine ⟨mapSet w r (.map (es.eraseIdxIfInBounds i) clock), ?_, ⟨_, _, mapSet_heap hb, ?_, MapKept.stamped_erase hS i⟩, mapSet_chg _ _ _, by simp [mapSet]⟩
    · simp [Builtin.delete_, run_underlying hm, MapKept.run_getObj_map hb, hc, MapKept.run_findKey hk hf, MapKept.run_setObj_map _ hb, Result.andThen, mapSet]
    · rw [delL_some hfl]
      unfold IM at hI ⊢
      have e : (es.eraseIdxIfInBounds i).toList = es.toList.eraseIdx i := by
        unfold Array.eraseIdxIfInBounds
        split
        · simp
        · rename_i h
          rw [List.eraseIdx_of_length_le]
          simpa using h
      rw [e, Nat.sub_zero, erase_map, erase_map, hI]
/-- ints in order. -/
def sortI (l : List Int) : List Int := l.mergeSort (fun x y => decide (x ≤ y))
theorem sortI_perm (l : List Int) : (sortI l).Perm l := List.mergeSort_perm l _
theorem sortI_length (l : List Int) : (sortI l).length = l.length := (sortI_perm l).length_eq
theorem owns_any {w : World} {r : Nat} {L : List (Int × Value)} (h : MapAt w r L) (k : TypeId) (hk : Tryz.prog.underlying k = some (.int .i64)) (hw : ∀ p ∈ L, (Lit.int .i64 p.1).wf = true) (hl : L.length ≤ maxLen) :
    ∃ D : DataW Unit, w.ownsMap Tryz.prog k (fun _ => some (.nil, [])) r L.length D ∧ (intKeys D).Perm (L.map Prod.fst) ∧ Maps.size D = L.length := by
  obtain ⟨es, clock, hb, hI, hS⟩ := h
  have hrd : ∀ x ∈ es.toList, ∃ a : Int, Go.WideElems.rd Tryz.prog k (fun _ => some ((.nil : DataW Unit), [])) x = some (.int .i64 a, .nil) ∧ x.key = .int .i64 a := by
    intro x hx
    have h1 : (x.key, x.val) ∈ es.toList.map (fun e => (e.key, e.val)) := List.mem_map.2 ⟨x, hx, rfl⟩
    rw [hI] at h1
    obtain ⟨p, hp, e⟩ := List.mem_map.1 h1
    have e1 : x.key = .int .i64 p.1 := (congrArg Prod.fst e).symm
    refine ⟨p.1, ?_, e1⟩
    unfold Go.WideElems.rd
    rw [e1, Go.Maps.keyOf_int_mk hk (hw p hp)]
    rfl
  have hlen : es.size = L.length := by
    have := congrArg List.length hI
    simpa using this
  have hmap : (es.toList.map (Go.WideElems.rg Tryz.prog k (fun _ => some ((.nil : DataW Unit), [])))).map (fun p => Go.intOf p.1) = L.map Prod.fst := by
    have e1 : (es.toList.map (Go.WideElems.rg Tryz.prog k (fun _ => some ((.nil : DataW Unit), [])))).map (fun p => Go.intOf p.1) = es.toList.map (fun x => match x.key with | .int _ a => a | _ => 0) := by
      rw [List.map_map]
      refine List.map_congr_left (fun x hx => ?_)
      obtain ⟨a, h1, h2⟩ := hrd x hx
      simp only [Function.comp, Go.WideElems.rg, h1, Option.getD_some, h2]
      rfl
    have e2 : es.toList.map (fun x => match x.key with | .int _ a => a | _ => 0) = (es.toList.map (fun e => (e.key, e.val))).map (fun p => match p.1 with | .int _ a => a | _ => 0) := by
      rw [List.map_map]; rfl
    rw [e1, e2, hI, List.map_map]
    rfl
  refine ⟨.map ((es.toList.map (Go.WideElems.rg Tryz.prog k (fun _ => some (.nil, [])))).foldr DataW.insert []), ⟨es, clock, hb, ⟨by omega, hS, fun x hx => ?_⟩, by omega, rfl⟩, ?_, ?_⟩
  · obtain ⟨a, h1, _⟩ := hrd x hx
    exact ⟨_, h1⟩
  · rw [← hmap]
    exact (Go.WideShapes.sorted_perm _).map _
  · rw [Maps.size_eq, (Go.WideShapes.sorted_perm _).length_eq, List.length_map, Array.length_toList, hlen]
set_option maxRecDepth 100000 in
/-- slices.Sorted(maps.Keys(m)). -/
theorem sortedA_any (W : World) {r : Nat} {L : List (Int × Value)} (h : MapAt W r L) (hw : ∀ p ∈ L, (Lit.int .i64 p.1).wf = true) (hl : L.length ≤ 100000) :
    Calls Tryz.prog 82 #[.func (.func 118) #[] #[.pointer (some ⟨W.heap.size, 0, none⟩)]] (W.alloc (.cells #[.map (some r)] 121)) fun e w' => ∃ v, e = .returned v ∧ w'.ownsRow W.heap.size 3 1 v L.length ((sortI (L.map Prod.fst)).map encZ) ∧ Chg [] W w' := by
  obtain ⟨D, hown, hp, hsz⟩ := owns_any (h.keep (Chg.alloc (S := []) W (.cells #[.map (some r)] 121)) (by simp)) 3 (by kernel_rfl) hw (by unfold maxLen; omega)
  have hseq : SeqGives Fence.wide 2 Tryz.prog 118 #[.pointer (some ⟨W.heap.size, 0, none⟩)] encZ (fun ss => ss.Perm (intKeys D)) (Maps.size D) (W.alloc (.cells #[.map (some r)] 121)) :=
    AnyZI.keys_gives (ρ := Tryz.keysA_ren) { Tryz.keysA with } Fence.wide _ trivial rfl (by omega) W.heap.size r L.length D _ (by simp) (by simp) hown
  have cS := AnyZI.sorted_in Tryz.sortedA Fence.wide 5 trivial trivial trivial trivial rfl (by omega) (sorts_all _) (enters_of Tryz.func117 (by kernel_rfl) rfl) 118 #[.pointer (some ⟨W.heap.size, 0, none⟩)] trivial (enters_of Tryz.func118 (by kernel_rfl) rfl) _ (Maps.size D) (by rw [hsz]; unfold maxLen; omega) (by rw [hsz]; omega) _ hseq
  refine (callsIn_wide.1 cS).mono ?_
  rintro e w' ⟨v, ss, rfl, hS, hrow, hnil, hbl⟩
  have hs : ss.mergeSort (fun x y => decide (x ≤ y)) = sortI (L.map Prod.fst) := mergeSort_of_perm_i (hS.trans hp)
  have hsl : ss.length = L.length := by rw [(hS.trans hp).length_eq, List.length_map]
  rw [hs, hsl] at hrow
  exact ⟨v, rfl, own_base hrow (by simp), (Chg.alloc W _).then (Chg.of_below hbl)⟩
end Go.Proofs.YtliicpedddcfiaaGreat
namespace Go.Proofs.YtliicpedddcfiaaGreat
open Go.RowKit Go.Lib

theorem wf_i64 {x : Int} (h0 : -9223372036854775808 ≤ x) (h1 : x ≤ 9223372036854775807) : (Lit.int .i64 x).wf = true := by
  have e1 : IntKind.i64.min = -9223372036854775808 := by decide
  have e2 : IntKind.i64.max = 9223372036854775807 := by decide
  simp only [Lit.wf, e1, e2, Bool.and_eq_true, decide_eq_true_eq]
  omega
theorem ty69 : Tryz.prog.underlying 31 = some (.slice 37) := by kernel_rfl
theorem inf92 : (Tryz.prog.info? 37).map (fun i => (i.zero, i.size, i.bytes)) = some (some (.agg #[.int .i64 0, .slice none 0 0]), 2, 32) := by kernel_rfl
/-- puts (a block's number, its bytes) in an own row. -/
def PutsAt (w : World) (base : Nat) (v : Value) (l : List (Int × List UInt8)) : Prop :=
  ∃ xs, w.ownsRow base 37 2 v l.length xs ∧ ∀ i (h : i < l.length), xs[i * 2]? = some (.int .i64 l[i].1) ∧ ∃ g c, xs[i * 2 + 1]? = some (.slice (some ⟨g, 0, none⟩) 40 c) ∧ Bs w (some ⟨g, 0, none⟩) l[i].2 ∧ l[i].2.length = 40 ∧ Bt w g
theorem PutsAt.nil (w : World) (base : Nat) : PutsAt w base (.slice none 0 0) [] := ⟨[], World.ownsRow_nil _ _ _ _, fun i h => by simp at h⟩
theorem PutsAt.block {w : World} {lo : Nat} {v : Value} {l : List (Int × List UInt8)} (h : PutsAt w lo v l) : ∀ g, v.ownBlock = some g → lo ≤ g ∧ ∃ cs, w.heap[g]? = some (.cells cs 37 (0, 0)) := by
  intro g hg
  obtain ⟨xs, ho, -⟩ := h
  exact own_elem ho hg
theorem PutsAt.keep {w w' : World} {T : List Nat} {lo : Nat} {v : Value} {l : List (Int × List UInt8)} (h : PutsAt w lo v l) (hc : Chg T w w') (hT : Av w T [5]) (hv : ∀ g, v.ownBlock = some g → g ∉ T) : PutsAt w' lo v l := by
  obtain ⟨xs, ho, hx⟩ := h
  refine ⟨xs, ?_, fun i hi => ?_⟩
  · refine ⟨ho.1, ?_⟩
    rcases ho.2 with hn | ⟨g, cap, cur, rfl, hb, hg, rest⟩
    · exact Or.inl hn
    · exact Or.inr ⟨g, cap, cur, rfl, hb, hc.heap hg (hv g rfl), rest⟩
  · obtain ⟨h0, g, c, h1, h2, h3, cs, h4⟩ := hx i hi
    have hg : g ∉ T := hT.ne h4 (by simp)
    exact ⟨h0, g, c, h1, h2.chgT hc hg, h3, cs, hc.heap h4 hg⟩
theorem PutsAt.keep0 {w w' : World} {lo : Nat} {v : Value} {l : List (Int × List UInt8)} (h : PutsAt w lo v l) (hc : Chg [] w w') : PutsAt w' lo v l := h.keep hc (Av.nil _ _) (fun _ _ => by simp)
/-- .. when a put is put behind them. -/
theorem PutsAt.push {w w' : World} {base gb cb n : Nat} {v v' : Value} {l : List (Int × List UInt8)} {k : Int} {b : List UInt8} {xs : List Value} (hx : ∀ i (h : i < l.length), xs[i * 2]? = some (.int .i64 l[i].1) ∧ ∃ g c, xs[i * 2 + 1]? = some (.slice (some ⟨g, 0, none⟩) 40 c) ∧ Bs w (some ⟨g, 0, none⟩) l[i].2 ∧ l[i].2.length = 40 ∧ Bt w g)
    (hl : xs.length = l.length * 2) (hn : n = l.length) (hv : ∀ g, v.ownBlock = some g → ∃ cs, w.heap[g]? = some (.cells cs 37 (0, 0))) (ho : w'.ownsRow base 37 2 v' (n + 1) (xs ++ [.int .i64 k, .slice (some ⟨gb, 0, none⟩) 40 cb])) (hc : Chg v.ownBlock.toList w w')
    (hb : Bs w (some ⟨gb, 0, none⟩) b) (hb4 : b.length = 40) (hbt : Bt w gb) : PutsAt w' base v' (l ++ [(k, b)]) := by
  subst hn
  have hne : ∀ {g}, Bt w g → g ∉ v.ownBlock.toList := by
    rintro g ⟨cs2, h2⟩ hm
    obtain ⟨cs, h1⟩ := hv g (by simpa using hm)
    rw [h1] at h2
    cases h2
  have keepB : ∀ {g}, Bt w g → Bt w' g := fun {g} h => by
    obtain ⟨cs, h2⟩ := id h
    exact ⟨cs, hc.heap h2 (hne h)⟩
  refine ⟨_, by rw [List.length_append]; exact ho, fun i hi => ?_⟩
  by_cases h : i < l.length
  · obtain ⟨h0, g, c, h1, h2, h3, h4⟩ := hx i h
    rw [List.getElem_append_left h]
    exact ⟨by rw [List.getElem?_append_left (by omega)]; exact h0, g, c, by rw [List.getElem?_append_left (by omega)]; exact h1, h2.chgT hc (hne h4), h3, keepB h4⟩
  · have hi2 : i = l.length := by simp at hi; omega
    subst hi2
    have e : (l ++ [(k, b)])[l.length]'(by simp) = (k, b) := by simp
    rw [e]
    exact ⟨by rw [← hl]; simp, gb, cb, by rw [← hl, List.getElem?_append_right (by omega)]; simp, hb.chgT hc (hne hbt), hb4, keepB hbt⟩
/-- a buffer's entries are blocks' bytes. -/
def BufD (w : World) (L : List (Int × Value)) (D : Int → List UInt8) : Prop := ∀ k v, getL L k = some v → ∃ g c, v = .slice (some ⟨g, 0, none⟩) 40 c ∧ Bs w (some ⟨g, 0, none⟩) (D k) ∧ (D k).length = 40 ∧ Bt w g
theorem BufD.keep {w w' : World} {L : List (Int × Value)} {D : Int → List UInt8} (h : BufD w L D) (hc : Chg [] w w') : BufD w' L D := fun k v hv => by
  obtain ⟨g, c, h1, h2, h3, cs, h4⟩ := h k v hv
  exact ⟨g, c, h1, h2.chg hc, h3, cs, hc.heap h4 (by simp)⟩
/-- the puts of a buffer, by rising number. -/
def putsL (L : List (Int × Value)) (D : Int → List UInt8) : List (Int × List UInt8) := (sortI (L.map Prod.fst)).map fun k => (k, D k)
theorem putsL_length (L : List (Int × Value)) (D : Int → List UInt8) : (putsL L D).length = L.length := by simp [putsL, sortI_length]
theorem getL_key {L : List (Int × Value)} {k : Int} (h : k ∈ L.map Prod.fst) : ∃ v, getL L k = some v := by
  induction L with
  | nil => simp at h
  | cons p l ih =>
    simp only [getL]
    by_cases e : k = p.1
    · exact ⟨_, if_pos e⟩
    · rw [if_neg e]
      simp only [List.map_cons, List.mem_cons] at h
      exact ih (h.resolve_left e)
set_option maxRecDepth 100000 in
set_option maxHeartbeats 2000000 in
theorem bputs_any (w : World) {W rw : Nat} {L : List (Int × Value)} {D : Int → List UInt8} (h : BufAt w W rw L) (hD : BufD w L D) (hk : ∀ x ∈ L, 0 ≤ x.1 ∧ x.1 < 258) (hl : L.length ≤ 1000) : Calls Tryz.prog 100 #[.pointer (some ⟨W, 0, none⟩)] w fun e w' =>
    ∃ v, e = .returned v ∧ Chg [] w w' ∧ PutsAt w' w.heap.size v (putsL L D) := by
  have c2 : w.cell? ⟨W, 2, none⟩ = some (.map (some rw)) := cell_is h.1 2 rfl
  have HS := Lib.hid (sortedA_any w h.2 (fun p hp => wf_i64 (by have := hk p hp; omega) (by have := hk p hp; omega)) (by omega))
  have HB := Lib.hid h
  have HD := Lib.hid hD
  have HK := Lib.hid hk
  clear h hD hk
  go_enter Tryz.func100, Tryz.ntmps100
  go_wp2_with (first
    | (go_at_call 83; refine (keysA_any (some rw) _).mono ?_; rintro e w1 ⟨rfl, rfl⟩)
    | (go_at_call 82; refine HS.out.mono ?_; rintro e w2 ⟨v2, rfl, o2, k2⟩; obtain ⟨pk, ck, rfl, hck⟩ := own_form o2))
  have hsl : (sortI (L.map Prod.fst)).length = L.length := by rw [sortI_length, List.length_map]
  have hmem : ∀ k, k ∈ sortI (L.map Prod.fst) → ∃ v, getL L k = some v := fun k hk => getL_key ((sortI_perm _).mem_iff.1 hk)
  have hpl : putsL L D = (sortI (L.map Prod.fst)).map fun k => (k, D k) := rfl
  have HP := Lib.hid hpl
  have HM := Lib.hid hmem
  have O2 := Lib.hid o2
  clear hmem hpl o2
  generalize hks : sortI (L.map Prod.fst) = ks at *
  have c22 := k2.cell c2 (by simp)
  generalize hn : L.length = n at *
  have hcki : (n : Int) ≤ ck := by omega
  go_loopw [2, 4, 14] (fun v _ i wr => ∃ j : Nat, j ≤ n ∧ i = .int .i64 j ∧ Chg [] w2 wr ∧ PutsAt wr w2.heap.size v ((ks.take j).map fun k => (k, D k))) (fun _ _ i _ => n - (intOf i).toNat)
  case atStart => exact ⟨0, by omega, rfl, Chg.refl _ _, PutsAt.nil _ _⟩
  case round =>
    obtain ⟨j, hj, rfl, kr, hp⟩ := hrel
    by_cases hlt : j < n
    · have hjk : j < ks.length := by omega
      obtain ⟨v, hv⟩ := HM.out ks[j] (List.getElem_mem hjk)
      obtain ⟨g, cg, rfl, hb, hb4, hbt⟩ := HD.out _ _ hv
      have kwr : Chg [] w wr := k2.then kr
      have hlook : (Instr.lookup 121 (.map (some rw)) (.int .i64 ks[j]) false).run Tryz.prog wr = .ok (.slice (some ⟨g, 0, none⟩) 40 cg) wr := by
        have := lookup151 (HB.out.2.keep kwr (by simp)) ks[j] false
        rw [hv] at this
        exact this
      have ck0 : ∃ gk, pk = some ⟨gk, 0, none⟩ ∧ wr.cell? ⟨gk, j, none⟩ = some (.int .i64 ks[j]) := by
        rcases O2.out.2 with ⟨_, h0⟩ | ⟨gk, cap, cur, e, hA, hg, hc1, hc2, hc3, ht⟩
        · omega
        · injection e with e1
          refine ⟨gk, e1, kr.cell (cell_is hg j ?_) (by simp)⟩
          have h1 : (ks.map encZ)[j]? = some (.int .i64 ks[j]) := by simp [hjk]
          rw [← ht, List.getElem?_take_of_lt (by omega), Array.getElem?_toList] at h1
          exact h1
      obtain ⟨gk, rfl, ck1⟩ := ck0
      have cw2 := kr.cell c22 (by simp)
      have HBs := Lib.hid (hb.chg kwr)
      have HPt := Lib.hid hp
      have HTk := Lib.hid (show (ks.take (j + 1)).map (fun k => (k, D k)) = (ks.take j).map (fun k => (k, D k)) ++ [(ks[j], D ks[j])] by rw [List.take_succ_eq_append_getElem hjk, List.map_append]; rfl)
      have HL4 := Lib.hid hb4
      have HBt := Lib.hid hbt
      clear hb hp hb4 hbt hv
      generalize ks[j] = k at *
      go_wp2_with fail
      refine (clone_bt wr HL4.out (by decide) (by decide) HBs.out).mono ?_
      rintro e w3 ⟨g2, c2, rfl, k3, b3, l3, t3⟩
      obtain ⟨xs, ho3, hx3⟩ := HPt.out.keep0 k3
      have hpl3 : ((ks.take j).map fun k => (k, D k)).length = j := by simp; omega
      have hb23 := (HPt.out.keep0 k3).block
      have hs3 : w2.heap.size ≤ w3.heap.size := (kr.then k3).size
      have B3 := Lib.hid b3
      have T3 := Lib.hid t3
      have HX3 := Lib.hid hx3
      have HO3 := Lib.hid ho3
      have H23 := Lib.hid hb23
      clear b3 t3 hx3 hb23 ho3
      go_wp2_with (at_builtin; refine wpList_append_lit rfl (.tmp 18) (.tmp 28) 31 37 rfl ty69 inf92 rfl (by decide) w2.heap.size w3 [.int .i64 k, .slice (some ⟨g2, 0, none⟩) 40 c2] 1 rfl _ ((ks.take j).map fun k => (k, D k)).length xs rfl HO3.out (by omega) (by decide) hs3 (k := 0) rfl (by simp [Value.oneCell']) rfl 1 rfl ?_; intro v' w4 hap)
      have hxl : xs.length = ((ks.take j).map fun k => (k, D k)).length * 2 := HO3.out.1
      have hfin : PutsAt w4 w2.heap.size v' (((ks.take j).map fun k => (k, D k)) ++ [(k, D k)]) := PutsAt.push HX3.out hxl rfl (fun g hg => (H23.out g hg).2) hap.1 (Chg.own hap.2.2 (fun g hg _ => by have hg2 : u2.ownBlock = some g := hg; simp [hg2])) B3.out HL4.out T3.out
      rw [← HTk.out] at hfin
      go_roundw
      case rel => exact ⟨j + 1, by omega, by simp, Chg.of_below ((kr.then k3).below0.trans hap.2.1), hfin⟩
      case measure => simp [intOf]; omega
    · obtain rfl : j = n := by omega
      go_wp2_with fail
      go_ret
      refine ⟨_, rfl, k2.then kr, ?_⟩
      rw [HP.out]
      rw [List.take_of_length_le (by omega)] at hp
      obtain ⟨xs, ho, hx⟩ := hp
      exact ⟨xs, own_base ho k2.size, hx⟩
end Go.Proofs.YtliicpedddcfiaaGreat
namespace Go.Proofs.YtliicpedddcfiaaGreat
open Go.RowKit Go.Lib

set_option maxRecDepth 100000 in
theorem rmay_min (w : World) : Calls Tryz.prog 64 #[.agg #[.int .i64 8, .int .i64 96]] w fun e w' => e = .returned (.bool true) ∧ Chg [] w w' := by
  go_enter Tryz.func64, Tryz.ntmps64
  go_wp2_with fail
  go_ret
  exact ⟨rfl, Chg.alloc _ _⟩
set_option maxRecDepth 100000 in
theorem rsplit_min (w : World) : Calls Tryz.prog 102 #[.agg #[.int .i64 8, .int .i64 96]] w fun e w' => e = .returned (.tuple #[.agg #[.int .i64 0, .int .i64 3, .int .i64 6, .int .i64 7], .int .i64 0]) ∧ Chg [] w w' := by
  go_enter Tryz.func102, Tryz.ntmps102
  go_wp2_with fail
  obtain ⟨g0, g1⟩ := two_new w (.cells #[.int .i64 8, .int .i64 96] 28) (.cells #[.int .i64 0, .int .i64 0, .int .i64 0, .int .i64 0] 222)
  have hc := chg_two w (.cells #[.int .i64 8, .int .i64 96] 28) (.cells #[.int .i64 0, .int .i64 0, .int .i64 0, .int .i64 0] 222)
  generalize (w.alloc (.cells #[.int .i64 8, .int .i64 96] 28)).alloc (.cells #[.int .i64 0, .int .i64 0, .int .i64 0, .int .i64 0] 222) = w1 at *
  refine (rmay_min w1).mono ?_
  rintro e w2 ⟨rfl, hc2⟩
  have k0 := hc2.heap g0 (by simp)
  have k1 := hc2.heap g1 (by simp)
  have hc3 := hc.then hc2
  have a0 : w2.cell? ⟨w.heap.size, 0, none⟩ = some (.int .i64 8) := cell_is k0 0 rfl
  have a1 : w2.cell? ⟨w.heap.size, 1, none⟩ = some (.int .i64 96) := cell_is k0 1 rfl
  clear g0 g1 k0 hc hc2
  have b0 := unfrozen k1 0
  have b1 := unfrozen k1 1
  have b2 := unfrozen k1 2
  have b3 := unfrozen k1 3
  have c0 := cell_is k1 0 rfl
  have c1 := cell_is k1 1 rfl
  have c2 := cell_is k1 2 rfl
  have c3 := cell_is k1 3 rfl
  go_wp2_with fail
  refine bodyPost_ret (v := .tuple #[.agg #[.int .i64 0, .int .i64 3, .int .i64 6, .int .i64 7], .int .i64 0]) (by simp [results, Tryz.results102, go_sem, c0, c1, c2, c3]) rfl ?_
  exact ⟨rfl, (((hc3.new_set (by omega) _ _).new_set (by omega) _ _).new_set (by omega) _ _).new_set (by omega) _ _⟩
set_option maxRecDepth 100000 in
theorem rcap_min (w : World) : Calls Tryz.prog 66 #[.agg #[.int .i64 8, .int .i64 96]] w fun e w' => e = .returned (.int .i64 258) ∧ Chg [] w w' := by
  go_enter Tryz.func66, Tryz.ntmps66
  go_wp2_with fail
  have g0 := heap_new w (.cells #[.int .i64 8, .int .i64 96] 28)
  have hc : Chg [] w (w.alloc (.cells #[.int .i64 8, .int .i64 96] 28)) := Chg.alloc _ _
  generalize w.alloc (.cells #[.int .i64 8, .int .i64 96] 28) = w1 at *
  refine (rsplit_min w1).mono ?_
  rintro e w2 ⟨rfl, hc2⟩
  have k0 := hc2.heap g0 (by simp)
  have hc3 := hc.then hc2
  have a1a : ∀ o, (w2.alloc o).cell? ⟨w.heap.size, 1, none⟩ = some (.int .i64 96) := fun o => cell_is (heap_old k0) 1 rfl
  clear g0 k0 hc hc2
  go_wp2_with fail
  go_ret
  exact ⟨rfl, hc3.then_alloc _⟩
set_option maxRecDepth 100000 in
theorem rmap_new (w : World) : Calls Tryz.prog 101 #[.int .i64 258] w fun e w' => ∃ Y, e = .returned (.tuple #[.pointer (some ⟨Y, 0, none⟩), .int .i64 0]) ∧ Chg [] w w' ∧ w.heap.size ≤ Y := by
  go_enter Tryz.func101, Tryz.ntmps101
  go_wp2_with fail
  go_ret2
  exact ⟨_, rfl, Chg.alloc _ _, Nat.le_refl _⟩
/-- block G is a reference's manager that has begun n times. -/
def RmAt (w : World) (G Y : Nat) (a b c : Value) (n : Int) : Prop :=
  w.heap[G]? = some (.cells #[.pointer (some ⟨Y, 0, none⟩), .int .i64 16, a, b, .int .i64 n, c, .slice none 0 0, .slice none 0 0, .int .i64 0, .int .i64 0, .int .i64 0, .int .i64 0, .bool false, .int .i64 258, .int .i64 0] 221 (0, 0))
set_option maxRecDepth 100000 in
theorem rm_new (w : World) : Calls Tryz.prog 65 #[.int .i64 258, .int .i64 0] w fun e w' => ∃ G Y, e = .returned (.tuple #[.pointer (some ⟨G, 0, none⟩), .int .i64 0]) ∧ Chg [] w w' ∧ RmAt w' G Y (.slice none 0 0) (.slice none 0 0) (.slice none 0 0) 0 ∧ w.heap.size ≤ G := by
  go_enter Tryz.func65, Tryz.ntmps65
  go_wp2_with fail
  refine (rmap_new w).mono ?_
  rintro e w1 ⟨Y, rfl, k1, hY⟩
  go_wp2_with fail
  go_ret2
  exact ⟨_, Y, rfl, k1.then_alloc _, heap_new w1 _, k1.size⟩
end Go.Proofs.YtliicpedddcfiaaGreat
namespace Go.Proofs.YtliicpedddcfiaaGreat
open Go.RowKit Go.Lib

theorem step_append_run {P : Program} {ops : Array Oper} {o : Oper} {a : Act} {w : World} {K : Act → World → Prop} {Q : Exit → Act → World → Prop} {E : Prop} (hgd : o.guard = none) (s x : Operand) (t t' : TypeId)
    (ho : o.op = .call { callee := .builtin .append, args := #[s, x], argTypes := #[t, t'] }) (v y : Value) (hs : a.eval s = v) (hx : a.eval x = y) (v' : Value) (w' : World) (hr : (Builtin.append_ #[t, t'] o.type #[v, y]).run P w = .ok v' w') (h : K (a.put o.dst v') w') :
    if Region.wanted o (yielded ops a.tmps) = true then Oper.wp P o a w K Q else E := by
  have hw : Region.wanted o (yielded ops a.tmps) = true := by simp [Region.wanted, hgd]
  rw [if_pos hw]
  unfold Oper.wp execOp
  simp only [ho, resolve, invoke, builtin, Sem.run_bind, Sem.run_pure, Result.andThen_ok, List.map_toArray, List.map_cons, List.map_nil, hs, hx, hr]
  exact h
theorem ty62 : Tryz.prog.underlying 81 = some (.slice 3) := by kernel_rfl
theorem inf3 : (Tryz.prog.info? 3).map (fun i => (i.zero, i.size, i.bytes)) = some (some (.int .i64 0), 1, 8) := by kernel_rfl
/-- nothing is put behind an empty row of ints. -/
theorem append_none (w : World) (z : Nat) (ty : TypeId) : (Builtin.append_ #[81, 81] ty #[.slice (some ⟨z, 0, none⟩) 0 0, .slice none 0 0]).run Tryz.prog w = .ok (.slice (some ⟨z, 0, none⟩) 0 0) w := by
  obtain ⟨i, hi0, hz, hz1, hz2⟩ := info_parts inf3
  simp [Builtin.append_, run_underlying ty62, sizeOf, typeInfo, hi0, Builtin.lenOf, Builtin.firstCells, storeCells]
theorem own0 (w : World) (z : Nat) (hz : w.heap[z]? = some (.cells #[] 3 (0, 0))) : w.ownsRow 0 3 1 (.slice (some ⟨z, 0, none⟩) 0 0) 0 [] :=
  ⟨rfl, Or.inr ⟨z, 0, #[], rfl, Nat.zero_le _, hz, Nat.le_refl _, by unfold maxLen; omega, rfl, rfl⟩⟩
/-- an int is put behind an empty row of ints. -/
theorem step_append_int {ops : Array Oper} {o : Oper} {a : Act} {w : World} {K : Act → World → Prop} {Q : Exit → Act → World → Prop} {E : Prop} (hgd : o.guard = none) (s x : Operand)
    (ho : o.op = .call { callee := .builtin .append, args := #[s, x], argTypes := #[81, 81] }) (z b c : Nat) (k : Int) (hs : a.eval s = .slice (some ⟨z, 0, none⟩) 0 0) (hz : w.heap[z]? = some (.cells #[] 3 (0, 0)))
    (hx : a.eval x = .slice (some ⟨b, 0, none⟩) 1 c) (hb : w.cell? ⟨b, 0, none⟩ = some (.int .i64 k))
    (h : ∀ g cap w', Chg [z] w w' → K (a.put o.dst (.slice (some ⟨g, 0, none⟩) 1 cap)) w') :
    if Region.wanted o (yielded ops a.tmps) = true then Oper.wp Tryz.prog o a w K Q else E := by
  obtain ⟨i, hi0, hz0, hz1, hz2⟩ := info_parts inf3
  refine step_append_lies w hgd s x 81 ho 0 3 i _ 1 8 ty62 hi0 hz0 hz1 hz2 rfl (by decide) _ 0 [] hs (own0 w z hz) ⟨b, 0, none⟩ 1 c [.int .i64 k] hx rfl ?_ ?_ (by decide) (by unfold maxLen; omega) (by omega) (Nat.zero_le _) _ rfl ?_
  · intro j u hu
    rw [add_lit, Nat.zero_add]
    match j with
    | 0 => cases hu; exact hb
    | j + 1 => simp at hu
  · intro u hu
    simp at hu
    subst hu
    rfl
  · intro g cap w' _ h3 _ _
    exact h g cap w' (Chg.of_grown h3)
theorem wpList_append_int {ops : Array Oper} {rest : List Oper} {o : Oper} {a : Act} {w : World} {Q : Exit → Act → World → Prop} (hgd : o.guard = none) (s x : Operand)
    (ho : o.op = .call { callee := .builtin .append, args := #[s, x], argTypes := #[81, 81] }) (z b c : Nat) (k : Int) (hs : a.eval s = .slice (some ⟨z, 0, none⟩) 0 0) (hz : w.heap[z]? = some (.cells #[] 3 (0, 0)))
    (hx : a.eval x = .slice (some ⟨b, 0, none⟩) 1 c) (hb : w.cell? ⟨b, 0, none⟩ = some (.int .i64 k))
    (h : ∀ g cap w', Chg [z] w w' → wpList Tryz.prog ops Q rest (a.put o.dst (.slice (some ⟨g, 0, none⟩) 1 cap)) w') : wpList Tryz.prog ops Q (o :: rest) a w := by
  obtain ⟨i, hi0, hz0, hz1, hz2⟩ := info_parts inf3
  refine wpList_append_lies w hgd s x 81 ho 0 3 i _ 1 8 ty62 hi0 hz0 hz1 hz2 rfl (by decide) _ 0 [] hs (own0 w z hz) ⟨b, 0, none⟩ 1 c [.int .i64 k] hx rfl ?_ ?_ (by decide) (by unfold maxLen; omega) (by omega) (Nat.zero_le _) _ rfl ?_
  · intro j u hu
    rw [add_lit, Nat.zero_add]
    match j with
    | 0 => cases hu; exact hb
    | j + 1 => simp at hu
  · intro u hu
    simp at hu
    subst hu
    rfl
  · intro g cap w' _ h3 _ _
    exact h g cap w' (Chg.of_grown h3)
end Go.Proofs.YtliicpedddcfiaaGreat
namespace Go.Proofs.YtliicpedddcfiaaGreat
open Go.RowKit Go.Lib

theorem Ow.new_set {base : Nat} {w w' : World} (h : Ow base w w') {g : Nat} (hg : w.heap.size ≤ g) (i : Nat) (v : Value) : Ow base w (w'.setCell ⟨g, i, none⟩ v) := by
  obtain ⟨T, h1, h2⟩ := h
  exact ⟨T, h1.new_set hg i v, h2⟩
theorem Av.row {w : World} {g : Nat} {cs : Array Value} {t : TypeId} {fr : Nat × Nat} (h : w.heap[g]? = some (.cells cs t fr)) {ts : List Nat} (ht : t ∉ ts) : Av w [g] ts := fun x hx cs' t' fr' hh => by
  rw [List.mem_singleton] at hx; subst hx; rw [h] at hh; cases hh; exact ht
end Go.Proofs.YtliicpedddcfiaaGreat
namespace Go.Proofs.YtliicpedddcfiaaGreat
open Go.RowKit Go.Lib

/-- the bytes of a number, the least first. -/
def leB (v n : Nat) : List UInt8 := (List.range n).map fun i => UInt8.ofNat (v / 256 ^ i % 256)
theorem leB_length (v n : Nat) : (leB v n).length = n := by simp [leB]
/-- the row of n bytes of which j are written. -/
def rowL (n v j : Nat) : Array Value := ((List.range n).map fun i => Value.int .u8 (if i < j then ((v / 256 ^ i % 256 : Nat) : Int) else 0)).toArray
theorem rowL_zero (n v u : Nat) : rowL n v 0 = rowL n u 0 := by simp [rowL]
theorem rowL_get (n v j i : Nat) (h : i < n) : (rowL n v j)[i]? = some (.int .u8 (if i < j then ((v / 256 ^ i % 256 : Nat) : Int) else 0)) := by simp [rowL, h]
theorem rowL_set (n v j : Nat) (_h : j < n) : (rowL n v j).setIfInBounds j (.int .u8 ((v / 256 ^ j % 256 : Nat) : Int)) = rowL n v (j + 1) := by
  apply Array.ext
  · simp [rowL]
  · intro i h1 h2
    have hi : i < n := by simpa [rowL] using h2
    by_cases e : j = i
    · subst e
      simp [rowL]
    · rw [Array.getElem_setIfInBounds (by simpa [rowL] using hi), if_neg e]
      have : (i < j + 1) = (i < j) := by simp; omega
      simp [rowL, this]
theorem rowL_full (n v : Nat) : rowL n v n = (Lib.byteCells (leB v n)).toArray := by
  apply Array.ext
  · simp [rowL, Lib.byteCells, leB]
  · intro i h1 h2
    have hi : i < n := by simpa [rowL] using h1
    simp [rowL, Lib.byteCells, leB, hi]
set_option maxRecDepth 100000 in
set_option maxHeartbeats 1000000 in
theorem bput_any (w : World) (v n : Nat) (hn : n ≤ 8) (_hv : v < 18446744073709551616)
    (hmk : ∀ w : World, (Instr.makeSlice 34 (.int .i64 n) (.int .i64 n)).run Tryz.prog w = .ok (.slice (some ⟨w.heap.size, 0, none⟩) n n) (w.alloc (.cells (rowL n 0 0) 5))) :
    Calls Tryz.prog 142 #[.int .u64 v, .int .i64 n] w fun e w' => ∃ g, e = .returned (.slice (some ⟨g, 0, none⟩) n n) ∧ Chg [] w w' ∧ w'.heap[g]? = some (.cells (rowL n v n) 5 (0, 0)) ∧ w.heap.size ≤ g := by
  go_enter Tryz.func142, Tryz.ntmps142
  have g0 : (w.alloc (.cells (rowL n 0 0) 5)).heap[w.heap.size]? = some (.cells (rowL n v 0) 5 (0, 0)) := by
    rw [rowL_zero n v 0]
    exact heap_new w _
  have k0 : Chg [] w (w.alloc (.cells (rowL n 0 0) 5)) := Chg.alloc w _
  go_wp2_with fail
  generalize w.alloc (.cells (rowL n 0 0) 5) = w1 at *
  generalize hz : w.heap.size = z at *
  go_loopw [11] (fun i wr => ∃ j : Nat, j ≤ n ∧ i = .int .i64 j ∧ Chg [] w wr ∧ wr.heap[z]? = some (.cells (rowL n v j) 5 (0, 0))) (fun i _ => n - (intOf i).toNat)
  case atStart => exact ⟨0, by omega, rfl, k0, g0⟩
  case round =>
    obtain ⟨j, hj, rfl, kc, gj⟩ := hrel
    by_cases hlt : j < n
    · have cj : wr.cell? ⟨z, j, none⟩ = some (.int .u8 0) := by
        refine cell_is gj j ?_
        rw [rowL_get n v j j hlt, if_neg (Nat.lt_irrefl j)]
      have fj := unfrozen gj j
      clear g0 k0
      go_wp2_with fail
      have e : (v : Int) / 2 ^ (8 * j) % 256 = ((v / 256 ^ j % 256 : Nat) : Int) := by
        have h2 : (2 : Int) ^ (8 * j) = ((256 ^ j : Nat) : Int) := by
          rw [Int.pow_mul, Int.natCast_pow]
          rfl
        rw [h2]
        rfl
      refine ⟨⟨j + 1, by omega, by simp, kc.new_set (by omega) j _, ?_⟩, by simp [intOf]; omega⟩
      rw [e]
      exact heap_set gj j _ (rowL_set n v j hlt)
    · obtain rfl : j = n := by omega
      go_wp2_with fail
      go_ret
      exact ⟨z, rfl, kc, gj, by omega⟩
theorem bput_bs (w : World) (v n : Nat) (hn : n ≤ 8) (hv : v < 18446744073709551616)
    (hmk : ∀ w : World, (Instr.makeSlice 34 (.int .i64 n) (.int .i64 n)).run Tryz.prog w = .ok (.slice (some ⟨w.heap.size, 0, none⟩) n n) (w.alloc (.cells (rowL n 0 0) 5))) :
    Calls Tryz.prog 142 #[.int .u64 v, .int .i64 n] w fun e w' => ∃ g, e = .returned (.slice (some ⟨g, 0, none⟩) n n) ∧ Chg [] w w' ∧ Bs w' (some ⟨g, 0, none⟩) (leB v n) ∧ w.heap.size ≤ g := by
  refine (bput_any w v n hn hv hmk).mono ?_
  rintro e w' ⟨g, rfl, hc, hg, hl⟩
  refine ⟨g, rfl, hc, ?_, hl⟩
  rw [rowL_full] at hg
  exact Bs.row hg
set_option maxRecDepth 100000 in
theorem put32_any (w : World) (v : Nat) (hv : v < 4294967296) : Calls Tryz.prog 125 #[.int .u32 v] w fun e w' => ∃ g, e = .returned (.slice (some ⟨g, 0, none⟩) 4 4) ∧ Chg [] w w' ∧ Bs w' (some ⟨g, 0, none⟩) (leB v 4) ∧ w.heap.size ≤ g := by
  have HP := Lib.hid (bput_bs w v 4 (by omega) (by omega) (fun w => by kernel_rfl))
  go_enter Tryz.func125, Tryz.ntmps125
  go_wp2_with fail
  refine HP.out.mono ?_
  rintro e w' ⟨g, rfl, h1, h2, h3⟩
  go_wp2_with fail
  go_ret
  exact ⟨g, rfl, h1, h2, h3⟩
set_option maxRecDepth 100000 in
theorem put64_any (w : World) (v : Nat) (hv : v < 18446744073709551616) : Calls Tryz.prog 122 #[.int .u64 v] w fun e w' => ∃ g, e = .returned (.slice (some ⟨g, 0, none⟩) 8 8) ∧ Chg [] w w' ∧ Bs w' (some ⟨g, 0, none⟩) (leB v 8) ∧ w.heap.size ≤ g := by
  have HP := Lib.hid (bput_bs w v 8 (by omega) hv (fun w => by kernel_rfl))
  go_enter Tryz.func122, Tryz.ntmps122
  go_wp2_with fail
  refine HP.out.mono ?_
  rintro e w' ⟨g, rfl, h1, h2, h3⟩
  go_wp2_with fail
  go_ret
  exact ⟨g, rfl, h1, h2, h3⟩
end Go.Proofs.YtliicpedddcfiaaGreat
namespace Go.Proofs.YtliicpedddcfiaaGreat
open Go.RowKit Go.Lib

/-- a turn of the register. -/
def crcBit (r : Int) : Int := bits .xor .u32 (r / 2) (bits .and .u32 2197175160 (-(bits .and .u32 r 1) % 4294967296))
def crcBits : Nat → Int → Int
  | 0, r => r
  | n + 1, r => crcBit (crcBits n r)
/-- .. behind a byte. -/
def crcByte (r : Int) (c : UInt8) : Int := crcBits 8 (bits .xor .u32 r (c.toNat : Int))
def crcRun (r : Int) (l : List UInt8) : Int := l.foldl crcByte r
/-- the check sum of bytes. -/
def crcI (l : List UInt8) : Int := bits .xor .u32 IntKind.u32.max (crcRun (bits .xor .u32 IntKind.u32.max 0) l)
theorem wrap_u32 (n : Int) : 0 ≤ IntKind.u32.wrap n ∧ IntKind.u32.wrap n < 4294967296 := by
  have : IntKind.u32.wrap n = n % 4294967296 := by simp [IntKind.wrap, IntKind.signed, IntKind.bits]
  rw [this]; omega
theorem bits_u32 (op : BinOp) (x y : Int) : 0 ≤ bits op .u32 x y ∧ bits op .u32 x y < 4294967296 := wrap_u32 _
theorem crcI_ge (l : List UInt8) : 0 ≤ crcI l ∧ crcI l < 4294967296 := bits_u32 _ _ _
theorem crcBits_ge (n : Nat) (r : Int) (h0 : 0 ≤ r) (h1 : r < 4294967296) : 0 ≤ crcBits n r ∧ crcBits n r < 4294967296 := by
  cases n with
  | zero => exact ⟨h0, h1⟩
  | succ n => exact bits_u32 .xor (crcBits n r / 2) (bits .and .u32 2197175160 (-(bits .and .u32 (crcBits n r) 1) % 4294967296))
/-- .. as a number. -/
def crcN (l : List UInt8) : Nat := (crcI l).toNat
theorem crcN_lt (l : List UInt8) : crcN l < 4294967296 := by have := crcI_ge l; unfold crcN; omega
theorem crcN_eq (l : List UInt8) : ((crcN l : Nat) : Int) = crcI l := by have := crcI_ge l; unfold crcN; omega
set_option maxRecDepth 100000 in
set_option maxHeartbeats 2000000 in
theorem cadd_crc (w : World) {C : Nat} {pa : Option Addr} {m c : Nat} {l : List UInt8} (hC : w.heap[C]? = some (.cells #[.int .u32 0] 303 (0, 0))) (hb : Bs w pa l) (hl : l.length = m) (hm : m ≤ 1000000) :
    Calls Tryz.prog 160 #[.pointer (some ⟨C, 0, none⟩), .slice pa m c] w fun e w' => e = .returned (.pointer (some ⟨C, 0, none⟩)) ∧ Chg [C] w w' ∧ w'.heap[C]? = some (.cells #[.int .u32 (crcI l)] 303 (0, 0)) := by
  have c0 : w.cell? ⟨C, 0, none⟩ = some (.int .u32 0) := cell_is hC 0 rfl
  have f0 := unfrozen hC 0
  have HC := Lib.hid hC
  have HB := Lib.hid hb
  clear hC hb
  go_enter Tryz.func160, Tryz.ntmps160
  go_wp2_with fail
  go_loopw [5, 7, 17] (fun r _ i wr => ∃ j : Nat, j ≤ m ∧ i = .int .i64 j ∧ r = .int .u32 (crcRun (bits .xor .u32 IntKind.u32.max 0) (l.take j)) ∧ w = wr) (fun _ _ i _ => m - (intOf i).toNat)
  case atStart => exact ⟨0, by omega, rfl, rfl, rfl⟩
  case round =>
    obtain ⟨j, hj, rfl, rfl, rfl⟩ := hrel
    by_cases hlt : j < m
    · obtain ⟨b, o, rfl, cj⟩ : ∃ b o, pa = some ⟨b, o, none⟩ ∧ w.cell? ⟨b, o + j, none⟩ = some (.int .u8 (l[j]'(by omega)).toNat) := by
        rcases HB.out with h | ⟨b, o, e, _, h⟩
        · rw [h] at hl; simp at hl; omega
        · exact ⟨b, o, e, h j (by omega)⟩
      have htk : l.take (j + 1) = l.take j ++ [l[j]'(by omega)] := by rw [List.take_succ_eq_append_getElem]
      have hrun : crcRun (bits .xor .u32 IntKind.u32.max 0) (l.take (j + 1)) = crcByte (crcRun (bits .xor .u32 IntKind.u32.max 0) (l.take j)) (l[j]'(by omega)) := by rw [htk]; unfold crcRun; rw [List.foldl_append]; rfl
      have HR := Lib.hid hrun
      clear hrun htk
      generalize l[j]'(by omega) = y at *
      generalize crcRun (bits .xor .u32 IntKind.u32.max 0) (l.take j) = r at *
      go_wp2_with fail
      go_loopw [5, 25] (fun q i wr => ∃ k : Nat, k ≤ 8 ∧ i = .int .i64 k ∧ q = .int .u32 (crcBits k (bits .xor .u32 r (y.toNat : Int))) ∧ w = wr) (fun _ i _ => 8 - (intOf i).toNat)
      case atStart =>
        have hy : (y.toNat : Int) % 4294967296 = y.toNat := by have := y.toNat_lt; omega
        exact ⟨0, by omega, rfl, by rw [hy]; rfl, rfl⟩
      case round =>
        obtain ⟨k, hk, rfl, rfl, rfl⟩ := hrel
        by_cases hlk : k < 8
        · generalize hq : crcBits k (bits .xor .u32 r (y.toNat : Int)) = q at *
          go_wp2_with fail
          exact ⟨⟨k + 1, by omega, by simp, by rw [← hq]; rfl, trivial⟩, by simp [intOf]; omega⟩
        · obtain rfl : k = 8 := by omega
          generalize hq : crcBits 8 (bits .xor .u32 r (y.toNat : Int)) = q at *
          go_wp2_with fail
          exact ⟨⟨j + 1, by omega, by simp, by rw [HR.out, ← hq]; rfl, trivial⟩, by simp [intOf]; omega⟩
    · obtain rfl : j = m := by omega
      have ht : l.take j = l := List.take_of_length_le (by omega)
      rw [ht] at *
      go_wp2_with fail
      go_ret
      exact ⟨rfl, Chg.set w C 0 _, heap_set HC.out 0 _ rfl⟩
theorem cnew_crc (w : World) : Calls Tryz.prog 159 #[] w fun e w' => e = .returned (.pointer (some ⟨w.heap.size, 0, none⟩)) ∧ w' = w.alloc (.cells #[.int .u32 0] 303) := by
  go_enter Tryz.func159, Tryz.ntmps159
  go_wp2_with fail
  go_ret
  exact ⟨rfl, rfl⟩
theorem cval_crc (w : World) {C : Nat} {r : Int} (hC : w.heap[C]? = some (.cells #[.int .u32 r] 303 (0, 0))) : Calls Tryz.prog 161 #[.pointer (some ⟨C, 0, none⟩)] w fun e w' => e = .returned (.int .u32 r) ∧ w' = w := by
  have c0 : w.cell? ⟨C, 0, none⟩ = some (.int .u32 r) := cell_is hC 0 rfl
  clear hC
  go_enter Tryz.func161, Tryz.ntmps161
  go_wp2_with fail
  go_ret
  exact ⟨rfl, rfl⟩
set_option maxRecDepth 100000 in
theorem crc_of (w : World) {pa : Option Addr} {m c : Nat} {l : List UInt8} (hb : Bs w pa l) (hl : l.length = m) (hm : m ≤ 1000000) :
    Calls Tryz.prog 136 #[.slice pa m c] w fun e w' => e = .returned (.int .u32 (crcN l : Nat)) ∧ Chg [] w w' := by
  have HB := Lib.hid hb
  clear hb
  rw [crcN_eq]
  go_enter Tryz.func136, Tryz.ntmps136
  go_wp2_with fail
  refine (cnew_crc w).mono ?_
  rintro e w1 ⟨rfl, rfl⟩
  have k1 : Chg [] w (w.alloc (.cells #[.int .u32 0] 303)) := Chg.alloc w _
  have h1 := heap_new w (.cells #[.int .u32 0] 303)
  have HB1 := Lib.hid (HB.out.chg k1)
  generalize w.alloc (.cells #[.int .u32 0] 303) = w1 at *
  generalize hz : w.heap.size = C at *
  go_wp2_with fail
  refine (cadd_crc w1 h1 HB1.out hl hm).mono ?_
  rintro e w2 ⟨rfl, k2, h2⟩
  go_wp2_with fail
  refine (cval_crc w2 h2).mono ?_
  rintro e w3 ⟨rfl, rfl⟩
  go_wp2_with fail
  go_ret
  exact ⟨rfl, k1.trans k2 (fun x hx hlt => by simp at hx; omega)⟩
end Go.Proofs.YtliicpedddcfiaaGreat
namespace Go.Proofs.YtliicpedddcfiaaGreat
open Go.RowKit Go.Lib

set_option maxRecDepth 100000 in
set_option maxHeartbeats 1000000 in
theorem bgrow_nil (w : World) {k : Nat} (h0 : 0 < k) (h1 : k ≤ 1000000) : Calls Tryz.prog 158 #[.slice none 0 0, .int .i64 k] w fun e w' => ∃ v, e = .returned v ∧ Chg [] w w' ∧ w'.ownsRow w.heap.size 5 1 v 0 (Lib.byteCells []) := by
  obtain ⟨i, hi0, hz, hz1, hz2⟩ := info_parts inf5c
  have hr := fun ty => run_append_nil_zeros (P := Tryz.prog) w 34 3 ty 5 i (.int .u8 0) .i64 .i64 ty23 (by kernel_rfl) hi0 hz k h0 (by omega) (by omega) (by rw [hz2]; omega)
  have hge := grownCap_ge w k 0 5
  have hle := grownCap_le_maxLen w k 0 5 (by unfold maxLen; omega)
  have hsz : (Builtin.zeroCells (Value.int .u8 0).cells k ++ Builtin.zeroCells (Value.int .u8 0).cells (grownCap w k 0 5 - k)).size = grownCap w k 0 5 * 1 := by
    simp only [Array.size_append, size_zeroCells, Value.cells]
    simp
    omega
  generalize (Builtin.zeroCells (Value.int .u8 0).cells k ++ Builtin.zeroCells (Value.int .u8 0).cells (grownCap w k 0 5 - k)) = Z at *
  generalize grownCap w k 0 5 = G at *
  clear hi0 hz hz1 hz2
  have hk : ¬ ((k : Int) < 0) := by omega
  have hk2 : (k : Int) > 0 := by omega
  have hG63 : G ≤ 9223372036854775807 := by unfold maxLen at hle; omega
  have hf : (w.drew.alloc (.cells Z 5)).ownsRow w.heap.size 5 1 (.slice (some ⟨w.heap.size, 0, none⟩) 0 G) 0 (Lib.byteCells []) := by
    refine ⟨rfl, Or.inr ⟨w.heap.size, G, Z, rfl, Nat.le_refl _, heap_new w.drew _, Nat.zero_le _, hle, hsz, by simp [Lib.byteCells]⟩⟩
  have kc : Chg [] w (w.drew.alloc (.cells Z 5)) := (Chg.refl [] w).drew.then_alloc _
  go_enter Tryz.func158, Tryz.ntmps158
  go_wp2_with (at_builtin; refine Lib.wpList_append_run (w := w) rfl (.tmp 20) (.tmp 21) 34 3 rfl (.slice none 0 0) (.int .i64 k) rfl rfl _ _ (hr _) ?_)
  go_ret
  exact ⟨_, rfl, kc, hf⟩
/-- rows of bytes stand here. -/
def Rws (w : World) (A o : Nat) (ls : List (List UInt8)) : Prop := ∀ i (h : i < ls.length), ∃ pa c, w.cell? ⟨A, o + i, none⟩ = some (.slice pa ls[i].length c) ∧ Bs w pa ls[i]
theorem Rws.keep {w w' : World} {A o : Nat} {ls : List (List UInt8)} (h : Rws w A o ls) (hc : Chg [] w w') : Rws w' A o ls := fun i hi => by
  obtain ⟨pa, c, h1, h2⟩ := h i hi
  exact ⟨pa, c, hc.cell h1 (by simp), h2.chg hc⟩
theorem flat_take {ls : List (List UInt8)} {j : Nat} (h : j < ls.length) : (ls.take (j + 1)).flatten = (ls.take j).flatten ++ ls[j] := by
  rw [List.take_succ_eq_append_getElem h, List.flatten_append]
  simp
theorem flat_le (ls : List (List UInt8)) (j : Nat) : (ls.take j).flatten.length ≤ ls.flatten.length := by
  conv => rhs; rw [← List.take_append_drop j ls, List.flatten_append, List.length_append]
  omega
/-- how many bytes the first rows have. -/
def flatN (ls : List (List UInt8)) (j : Nat) : Nat := (ls.take j).flatten.length
theorem flatN_succ {ls : List (List UInt8)} {j : Nat} (h : j < ls.length) : flatN ls (j + 1) = flatN ls j + ls[j].length := by
  unfold flatN
  rw [flat_take h, List.length_append]
theorem flatN_le (ls : List (List UInt8)) (j : Nat) : flatN ls j ≤ flatN ls ls.length := by
  unfold flatN
  rw [List.take_of_length_le (Nat.le_refl ls.length)]
  exact flat_le ls j
set_option maxRecDepth 100000 in
set_option maxHeartbeats 2000000 in
theorem bconcat_any (w : World) {E o cp k n : Nat} {ls : List (List UInt8)} {F : List UInt8} (hs : Rws w E o ls) (hk : ls.length = k) (hk1 : k ≤ 1000) (hF : ls.flatten = F) (hn : F.length = n) (hm0 : 0 < n) (hm : n ≤ 100000) :
    Calls Tryz.prog 135 #[.slice (some ⟨E, o, none⟩) k cp] w fun e w' => ∃ v, e = .returned v ∧ Chg [] w w' ∧ w'.ownsRow w.heap.size 5 1 v n (Lib.byteCells F) := by
  have HS := Lib.hid hs
  have HM0 := Lib.hid hm0
  have HM := Lib.hid hm
  have hN : flatN ls k = n := by unfold flatN; rw [List.take_of_length_le (by omega), hF, hn]
  have HN := Lib.hid hN
  have HF := Lib.hid hF
  have HL := Lib.hid hn
  clear hs hm0 hm hF hn hN
  go_enter Tryz.func135, Tryz.ntmps135
  go_wp2_with fail
  go_loopw [3, 5, 11] (fun s _ i wr => ∃ j : Nat, j ≤ k ∧ i = .int .i64 j ∧ s = .int .i64 (flatN ls j : Nat) ∧ w = wr) (fun _ _ i _ => k - (intOf i).toNat)
  case atStart => exact ⟨0, by omega, rfl, rfl, rfl⟩
  case round =>
    obtain ⟨j, hj, rfl, rfl, rfl⟩ := hrel
    by_cases hlt : j < k
    · obtain ⟨pa, c, c0, -⟩ := HS.out j (by omega)
      have e1 := flatN_succ (ls := ls) (j := j) (by omega)
      have hb := flatN_le ls (j + 1)
      rw [hk, HN.out] at hb
      have hM := HM.out
      have hwr : wrap64 ((flatN ls j : Int) + (ls[j]'(by omega)).length) = (flatN ls (j + 1) : Nat) := by unfold wrap64; omega
      have hge : ¬ (wrap64 ((flatN ls j : Int) + (ls[j]'(by omega)).length) < 0) := by omega
      have HW := Lib.hid hwr
      clear hwr e1 hb hM
      generalize (ls[j]'(by omega)).length = q at *
      generalize flatN ls j = p at *
      go_wp2_with fail
      exact ⟨⟨j + 1, by omega, by simp, by rw [HW.out], trivial⟩, by simp [intOf]; omega⟩
    · obtain rfl : j = k := by omega
      rw [HN.out]
      have HG := Lib.hid (bgrow_nil w HM0.out (by have := HM.out; omega))
      go_wp2_with fail
      refine HG.out.mono ?_
      rintro e w1 ⟨v0, rfl, kc, ho0⟩
      have HA := Lib.hid (HS.out.keep kc)
      have hsz := kc.size
      have hn0 : flatN ls 0 = 0 := rfl
      have ho1 : w1.ownsRow w.heap.size 5 1 v0 (flatN ls 0) (Lib.byteCells (ls.take 0).flatten) := ho0
      go_wp2_with fail
      go_loopw [6, 8, 27] (fun v _ i wr => ∃ t : Nat, t ≤ j ∧ i = .int .i64 t ∧ Chg [] w wr ∧ wr.ownsRow w.heap.size 5 1 v (flatN ls t) (Lib.byteCells (ls.take t).flatten)) (fun _ _ i _ => j - (intOf i).toNat)
      case atStart => exact ⟨0, by omega, rfl, kc, ho1⟩
      case round =>
        obtain ⟨t, ht, rfl, k1, o1⟩ := hrel
        by_cases hlt : t < j
        · obtain ⟨pa, c, c0, hbs⟩ := (HS.out.keep k1) t (by omega)
          have HB := Lib.hid hbs
          have e1 := flatN_succ (ls := ls) (j := t) (by omega)
          have hb := flatN_le ls (t + 1)
          rw [hk, HN.out] at hb
          have hM := HM.out
          have hsum : flatN ls t + (ls[t]'(by omega)).length ≤ 100000 := by omega
          have HSu := Lib.hid hsum
          have HE := Lib.hid e1
          have HT := Lib.hid (flat_take (ls := ls) (j := t) (by omega))
          have hsz1 := k1.size
          have HO := Lib.hid o1
          clear hbs e1 hb hM hsum o1
          generalize hq : ls[t]'(by omega) = q at *
          generalize flatN ls t = p at *
          generalize (ls.take t).flatten = G at *
          go_wp2_with (at_builtin; refine wpList_append_bs rfl (.tmp 31) (.tmp 32) 34 5 rfl ty23 inf5c w.heap.size _ p G rfl HO.out pa q.length c q rfl rfl HB.out (by have := HSu.out; omega) hsz1 ?_; intro v1 w2 h1)
          go_roundw
          case rel => exact ⟨t + 1, by omega, by simp, Chg.of_below (k1.below0.trans h1.2.1), by rw [HE.out, HT.out]; exact h1.1⟩
          case measure => simp [intOf]; omega
        · obtain rfl : t = j := by omega
          go_wp2_with fail
          go_ret
          rw [HN.out, List.take_of_length_le (by omega), HF.out] at o1
          exact ⟨_, rfl, k1, o1⟩
end Go.Proofs.YtliicpedddcfiaaGreat
namespace Go.Proofs.YtliicpedddcfiaaGreat
open Go.RowKit Go.Lib

set_option maxRecDepth 100000 in
theorem within_any (n lo hi : Int) (w : World) : Calls Tryz.prog 156 #[.int .i64 n, .int .i64 lo, .int .i64 hi] w fun e w' => e = .returned (.bool (decide (lo ≤ n) && decide (n ≤ hi))) ∧ w = w' := by
  by_cases h : lo ≤ n
  · have e1 : decide (lo ≤ n) = true := decide_eq_true h
    go_enter Tryz.func156, Tryz.ntmps156
    go_wp2_with fail
    go_ret
    exact ⟨by simp [h], rfl⟩
  · have e1 : decide (lo ≤ n) = false := decide_eq_false h
    go_enter Tryz.func156, Tryz.ntmps156
    go_wp2_with fail
    go_ret
    exact ⟨by simp, rfl⟩
theorem within_yes (n lo hi : Int) (w : World) (h0 : lo ≤ n) (h1 : n ≤ hi) : Calls Tryz.prog 156 #[.int .i64 n, .int .i64 lo, .int .i64 hi] w fun e w' => e = .returned (.bool true) ∧ w = w' := by
  refine (within_any n lo hi w).mono ?_
  rintro e w' ⟨rfl, rfl⟩
  exact ⟨by rw [decide_eq_true h0, decide_eq_true h1]; rfl, rfl⟩
/-- a frame's bytes ahead of the check sum. -/
def headF (kind epoch seq lba : Nat) (body : List UInt8) : List UInt8 := [[UInt8.ofNat kind, UInt8.ofNat body.length], leB epoch 4, leB seq 8, leB lba 4, body].flatten
def coverF (kind epoch seq lba : Nat) (body : List UInt8) : List UInt8 := headF kind epoch seq lba body ++ List.replicate (60 - (headF kind epoch seq lba body).length) 0
/-- a frame's bytes. -/
def encF (kind epoch seq lba : Nat) (body : List UInt8) : List UInt8 := coverF kind epoch seq lba body ++ leB (crcN (coverF kind epoch seq lba body)) 4
theorem headF_length (kind epoch seq lba : Nat) (body : List UInt8) : (headF kind epoch seq lba body).length = 18 + body.length := by
  simp [headF, leB_length]; omega
theorem coverF_length (kind epoch seq lba : Nat) (body : List UInt8) (h : body.length ≤ 40) : (coverF kind epoch seq lba body).length = 60 := by
  rw [coverF, List.length_append, List.length_replicate, headF_length]; omega
theorem encF_length (kind epoch seq lba : Nat) (body : List UInt8) (h : body.length ≤ 40) : (encF kind epoch seq lba body).length = 64 := by
  rw [encF, List.length_append, leB_length, coverF_length _ _ _ _ _ h]
theorem two_len (a b : UInt8) : [a, b].length = 2 := rfl
theorem small_bs {w : World} {g a b : Nat} {t : TypeId} (h : w.heap[g]? = some (.cells #[.int .u8 a, .int .u8 b] t (0, 0))) (ha : a < 256) (hb : b < 256) : Bs w (some ⟨g, 0, none⟩) [UInt8.ofNat a, UInt8.ofNat b] := by
  refine Bs.row (e := t) (fr := (0, 0)) ?_
  rw [h]
  have e1 : (UInt8.ofNat a).toNat = a := by simp; omega
  have e2 : (UInt8.ofNat b).toNat = b := by simp; omega
  simp [Lib.byteCells, e1, e2]
theorem rws_five {w : World} {E : Nat} {t : TypeId} {p0 p1 p2 p3 p4 : Option Addr} {n0 n1 n2 n3 n4 c0 c1 c2 c3 c4 : Nat} {l0 l1 l2 l3 l4 : List UInt8}
    (h : w.heap[E]? = some (.cells #[.slice p0 n0 c0, .slice p1 n1 c1, .slice p2 n2 c2, .slice p3 n3 c3, .slice p4 n4 c4] t (0, 0))) (b0 : Bs w p0 l0) (b1 : Bs w p1 l1) (b2 : Bs w p2 l2) (b3 : Bs w p3 l3) (b4 : Bs w p4 l4)
    (e0 : l0.length = n0) (e1 : l1.length = n1) (e2 : l2.length = n2) (e3 : l3.length = n3) (e4 : l4.length = n4) : Rws w E 0 [l0, l1, l2, l3, l4] := by
  subst e0 e1 e2 e3 e4
  intro i hi
  rcases (show i = 0 ∨ i = 1 ∨ i = 2 ∨ i = 3 ∨ i = 4 by simp at hi; omega) with rfl | rfl | rfl | rfl | rfl
  · exact ⟨p0, c0, cell_is h 0 rfl, b0⟩
  · exact ⟨p1, c1, cell_is h 1 rfl, b1⟩
  · exact ⟨p2, c2, cell_is h 2 rfl, b2⟩
  · exact ⟨p3, c3, cell_is h 3 rfl, b3⟩
  · exact ⟨p4, c4, cell_is h 4 rfl, b4⟩
set_option maxRecDepth 100000 in
set_option maxHeartbeats 8000000 in
theorem fencode_any (w : World) {kind epoch seq lba n c : Nat} {pa : Option Addr} {body : List UInt8} (h1 : 1 ≤ kind) (h2 : kind ≤ 4) (h3 : epoch < 4294967296) (h4 : seq ≤ 1099511627776) (h5 : lba ≤ 1048576) (hn : body.length = n) (h6 : n ≤ 40) (hb : Bs w pa body) :
    Calls Tryz.prog 133 #[.agg #[.int .i64 kind, .int .i64 epoch, .int .i64 seq, .int .i64 lba, .slice pa n c]] w fun e w' => ∃ g c', e = .returned (.tuple #[.slice (some ⟨g, 0, none⟩) 64 c', .int .i64 0]) ∧ Chg [] w w' ∧ w.heap.size ≤ g ∧ Bs w' (some ⟨g, 0, none⟩) (encF kind epoch seq lba body) ∧ Bt w' g := by
  have k1 : Chg [] w (w.alloc (.cells #[.int .i64 kind, .int .i64 epoch, .int .i64 seq, .int .i64 lba, .slice pa n c] 226)) := Chg.alloc w _
  have K1 := heap_new w (.cells #[.int .i64 kind, .int .i64 epoch, .int .i64 seq, .int .i64 lba, .slice pa n c] 226)
  have HK := Lib.hid (show (1 : Int) ≤ kind ∧ (kind : Int) ≤ 4 by omega)
  have HE := Lib.hid (show (0 : Int) ≤ epoch ∧ (epoch : Int) ≤ 4294967295 by omega)
  have HS := Lib.hid (show (0 : Int) ≤ seq ∧ (seq : Int) ≤ 1099511627776 by omega)
  have HL := Lib.hid (show (0 : Int) ≤ lba ∧ (lba : Int) ≤ 1048576 by omega)
  have e1 : IntKind.u32.wrap (epoch : Int) = epoch := by rw [IntKind.wrap_u32]; omega
  have e2 : IntKind.u64.wrap (seq : Int) = seq := by rw [IntKind.wrap_u64]; omega
  have e3 : IntKind.u32.wrap (lba : Int) = lba := by rw [IntKind.wrap_u32]; omega
  have e4 : IntKind.u8.wrap (kind : Int) = kind := by rw [IntKind.wrap_u8]; omega
  have e5 : IntKind.u8.wrap (n : Int) = n := by rw [IntKind.wrap_u8]; omega
  have e6 : ¬ ((n : Int) > 40) := by omega
  have H3 := Lib.hid h3
  have H4 := Lib.hid (show seq < 18446744073709551616 by omega)
  have H5 := Lib.hid (show lba < 4294967296 by omega)
  have HB := Lib.hid (hb.chg k1)
  have HN := Lib.hid hn
  clear hb h1 h2 h3 h4 h5
  go_enter Tryz.func133, Tryz.ntmps133
  go_upto_region 1 with fail
  generalize w.alloc (.cells #[.int .i64 kind, .int .i64 epoch, .int .i64 seq, .int .i64 lba, .slice pa n c] 226) = w1 at *
  generalize hz : w.heap.size = z at *
  have a0 : w1.cell? ⟨z, 0, none⟩ = some (.int .i64 kind) := cell_is K1 0 rfl
  have a1 : w1.cell? ⟨z, 1, none⟩ = some (.int .i64 epoch) := cell_is K1 1 rfl
  have a2 : w1.cell? ⟨z, 2, none⟩ = some (.int .i64 seq) := cell_is K1 2 rfl
  have a3 : w1.cell? ⟨z, 3, none⟩ = some (.int .i64 lba) := cell_is K1 3 rfl
  have a4 : w1.cell? ⟨z, 4, none⟩ = some (.slice pa n c) := cell_is K1 4 rfl
  go_wp2_with fail
  refine (within_yes _ _ _ _ HK.out.1 HK.out.2).mono ?_
  rintro e w2 ⟨rfl, rfl⟩
  go_wp2_with fail
  refine (within_yes _ _ _ _ HE.out.1 HE.out.2).mono ?_
  rintro e w2 ⟨rfl, rfl⟩
  go_wp2_with fail
  refine (within_yes _ _ _ _ HS.out.1 HS.out.2).mono ?_
  rintro e w2 ⟨rfl, rfl⟩
  go_wp2_with fail
  refine (within_yes _ _ _ _ HL.out.1 HL.out.2).mono ?_
  rintro e w2 ⟨rfl, rfl⟩
  go_upto_region 5 with fail
  have HK8 := Lib.hid (show kind < 256 by have := HK.out; omega)
  have HN8 := Lib.hid (show n < 256 by omega)
  have HH := Lib.hid (show (headF kind epoch seq lba body).length = 18 + n by rw [headF_length, HN.out])
  have kD0 := (Chg.refl [] w1).drew
  have hS : ∀ wx, Chg [] w1 wx → wx.cell? ⟨z, 0, none⟩ = some (.int .i64 kind) ∧ wx.cell? ⟨z, 1, none⟩ = some (.int .i64 epoch) ∧ wx.cell? ⟨z, 2, none⟩ = some (.int .i64 seq) ∧ wx.cell? ⟨z, 3, none⟩ = some (.int .i64 lba) ∧ wx.cell? ⟨z, 4, none⟩ = some (.slice pa n c) := fun wx k => ⟨k.cell a0 (by simp), k.cell a1 (by simp), k.cell a2 (by simp), k.cell a3 (by simp), k.cell a4 (by simp)⟩
  go_cut [4] from 5 (fun v wx => Chg [] w wx ∧ wx.ownsRow z 5 1 v (18 + n) (Lib.byteCells (headF kind epoch seq lba body)))
  case first =>
    go_region_held3 (fun wx => wx.cell? ⟨z, 0, none⟩ = some (.int .i64 kind) ∧ wx.cell? ⟨z, 1, none⟩ = some (.int .i64 epoch) ∧ wx.cell? ⟨z, 2, none⟩ = some (.int .i64 seq) ∧ wx.cell? ⟨z, 3, none⟩ = some (.int .i64 lba) ∧ wx.cell? ⟨z, 4, none⟩ = some (.slice pa n c))
      (first
        | (with_reducible exact hS _ kC1) | (with_reducible exact hS _ kB1) | (with_reducible exact hS _ kA1) | (with_reducible exact hS _ kD0) | (with_reducible exact hS _ kF1)
        | (with_reducible exact hS _ (kC1.then_alloc _)) | (with_reducible exact hS _ (kB1.then_alloc _)) | (with_reducible exact hS _ (kA1.then_alloc _)) | (with_reducible exact hS _ (kD0.then_alloc _))
        | (with_reducible exact hS _ ((kC1.then_alloc _).then_alloc _)) | (with_reducible exact hS _ (Chg.alloc w1 _)) | (with_reducible exact hS _ (Chg.alloc w1 _).drew))
      (first
        | (go_at_call 122; refine (put64_any _ seq H4.out).mono ?_; rintro e wB ⟨gB, rfl, kB, bB, lB⟩; have kB1 : Chg [] w1 wB := (by first | with_reducible exact kA1.then kB | with_reducible exact (kA1.then_alloc _).then kB))
        | (go_at_call 135
           refine Calls.mono (bconcat_any _ (n := 18 + n) (F := headF kind epoch seq lba body) (ls := [[UInt8.ofNat kind, UInt8.ofNat n], leB epoch 4, leB seq 8, leB lba 4, body]) ?_ rfl (by decide) (by rw [headF, HN.out]) HH.out (by omega) (by omega)) ?_
           · first
             | (with_reducible exact rws_five (heap_new _ _) (Bs.chg (Bs.chg (Bs.chg (Bs.chg (Bs.chg (small_bs (heap_new _ _) HK8.out HN8.out) (Chg.refl [] _).drew) kA) kB) kC) (Chg.alloc _ _)) (Bs.chg (Bs.chg (Bs.chg bA kB) kC) (Chg.alloc _ _)) (Bs.chg (Bs.chg bB kC) (Chg.alloc _ _)) (Bs.chg bC (Chg.alloc _ _)) (Bs.chg (Bs.chg HB.out kC1) (Chg.alloc _ _)) (two_len _ _) (leB_length _ _) (leB_length _ _) (leB_length _ _) HN.out)
             | (with_reducible exact rws_five (heap_new _ _) (Bs.chg (Bs.chg (Bs.chg (small_bs (heap_new _ _) HK8.out HN8.out) kB) kC) (Chg.alloc _ _)) (Bs.chg (Bs.chg (Bs.chg (Bs.chg bA (Chg.alloc _ _)) kB) kC) (Chg.alloc _ _)) (Bs.chg (Bs.chg bB kC) (Chg.alloc _ _)) (Bs.chg bC (Chg.alloc _ _)) (Bs.chg (Bs.chg HB.out kC1) (Chg.alloc _ _)) (two_len _ _) (leB_length _ _) (leB_length _ _) (leB_length _ _) HN.out)
             | (with_reducible exact rws_five (heap_new _ _) (Bs.chg (Bs.chg (small_bs (heap_new _ _) HK8.out HN8.out) kC) (Chg.alloc _ _)) (Bs.chg (Bs.chg (Bs.chg (Bs.chg bA kB) (Chg.alloc _ _)) kC) (Chg.alloc _ _)) (Bs.chg (Bs.chg (Bs.chg bB (Chg.alloc _ _)) kC) (Chg.alloc _ _)) (Bs.chg bC (Chg.alloc _ _)) (Bs.chg (Bs.chg HB.out kC1) (Chg.alloc _ _)) (two_len _ _) (leB_length _ _) (leB_length _ _) (leB_length _ _) HN.out)
             | (with_reducible exact rws_five ((two_new _ _ _).2) (small_bs (two_new _ _ _).1 HK8.out HN8.out) (Bs.chg (Bs.chg (Bs.chg (Bs.chg bA kB) kC) (Chg.alloc _ _)) (Chg.alloc _ _)) (Bs.chg (Bs.chg (Bs.chg bB kC) (Chg.alloc _ _)) (Chg.alloc _ _)) (Bs.chg (Bs.chg bC (Chg.alloc _ _)) (Chg.alloc _ _)) (Bs.chg (Bs.chg (Bs.chg HB.out kC1) (Chg.alloc _ _)) (Chg.alloc _ _)) (two_len _ _) (leB_length _ _) (leB_length _ _) (leB_length _ _) HN.out)
           rintro e wF ⟨vF, rfl, kF, oF⟩
           have kF1 : Chg [] w1 wF := (by first | with_reducible exact (kC1.then_alloc _).then kF | with_reducible exact ((kC1.then_alloc _).then_alloc _).then kF))
        | (go_at_call 125; with_reducible refine Calls.mono (put32_any _ epoch H3.out) ?_; rintro e wA ⟨gA, rfl, kA, bA, lA⟩; have kA1 : Chg [] w1 wA := (by first | with_reducible exact kD0.then kA | with_reducible exact ((Chg.alloc w1 _).drew).then kA | with_reducible exact (kD0.then_alloc _).then kA))
        | (go_at_call 125; with_reducible refine Calls.mono (put32_any _ lba H5.out) ?_; rintro e wC ⟨gC, rfl, kC, bC, lC⟩; have kC1 : Chg [] w1 wC := (by first | with_reducible exact kB1.then kC | with_reducible exact (kB1.then_alloc _).then kC)))
    all_goals
      have kw := k1.then kF1
      have oz := own_base (base' := z) oF (by first | exact hz ▸ (k1.then (kC1.then_alloc _)).size | exact hz ▸ (k1.then ((kC1.then_alloc _).then_alloc _)).size)
      clear kF oF hS
      go_wp2_with fail
      go_meet
      exact ⟨kw, oz⟩
  case rest =>
    obtain ⟨kw, oz⟩ := hcut
    obtain ⟨p4, c4, rfl, -⟩ := own_form oz
    have hzc : z ≤ wc.heap.size := hz ▸ kw.size
    have hk42 : (60 : Int) - ((18 + n : Nat) : Int) = ((42 - n : Nat) : Int) := by omega
    have HCo := Lib.hid (show headF kind epoch seq lba body ++ List.replicate (42 - n) 0 = coverF kind epoch seq lba body by rw [coverF, HH.out]; congr 2; omega)
    have HLc := Lib.hid (show (coverF kind epoch seq lba body).length = 18 + n + (42 - n) by rw [coverF_length _ _ _ _ _ (by rw [HN.out]; omega)]; omega)
    have h60 : 18 + n + (42 - n) = 60 := by omega
    have H60 := Lib.hid h60
    have HEn := Lib.hid (show encF kind epoch seq lba body = coverF kind epoch seq lba body ++ leB (crcN (coverF kind epoch seq lba body)) 4 from rfl)
    have HEl := Lib.hid (encF_length kind epoch seq lba body (by rw [HN.out]; omega))
    have OZ := Lib.hid oz
    clear oz hS kD0 K1 a0 a1 a2 a3 a4 e1 e2 e3 e4 e5 e6 h60 hk42 k1
    generalize headF kind epoch seq lba body = hf at *
    generalize coverF kind epoch seq lba body = cf at *
    have hwn : wrap64 (60 - ((18 + n : Nat) : Int)) = ((42 - n : Nat) : Int) := by unfold wrap64; omega
    go_wp2_with (at_builtin; refine wpList_append_zeros rfl (.tmp 57) (.tmp 60) 34 3 5 rfl ty23 .i64 (by kernel_rfl) inf5c z _ (18 + n) hf rfl OZ.out .i64 (42 - n) _ (by omega) rfl (by omega) hzc ?_; intro v5 w5 h5)
    have o5 := h5.1
    rw [HCo.out, H60.out] at o5
    have k5 : Chg [] w w5 := Chg.of_below (Below.trans kw.below0 (by rw [hz]; exact h5.2.1))
    obtain ⟨p5, c5, rfl, -⟩ := own_form o5
    have b5 := Bs.own o5
    have hl5 := HLc.out
    rw [H60.out] at hl5
    refine (crc_of w5 b5 hl5 (by omega)).mono ?_
    rintro e w6 ⟨rfl, k6⟩
    have O6 := Lib.hid (own_keep o5 k6.below0)
    have HCn := Lib.hid (crcN_lt cf)
    have k56 := k5.then k6
    clear h5 o5 b5 hl5 OZ HCo hzc
    have hz6 : z ≤ w6.heap.size := hz ▸ k56.size
    go_wp2_with fail
    refine (put32_any w6 (crcN cf) HCn.out).mono ?_
    rintro e w7 ⟨g7, rfl, k7, b7, l7⟩
    have O7 := Lib.hid (own_keep O6.out k7.below0)
    have B7 := Lib.hid b7
    have hz7 : z ≤ w7.heap.size := hz ▸ (k56.then k7).size
    clear b7
    go_wp2_with (at_builtin; refine wpList_append_bs rfl (.tmp 62) (.tmp 65) 34 5 rfl ty23 inf5c z _ 60 cf rfl O7.out _ 4 4 (leB (crcN cf) 4) rfl (leB_length _ _) B7.out (by omega) hz7 ?_; intro v8 w8 h8)
    go_ret2
    have o8 := h8.1
    rw [← HEn.out] at o8
    obtain ⟨g8, c8, rfl, hb8, hbt⟩ : ∃ g c, v8 = .slice (some ⟨g, 0, none⟩) 64 c ∧ z ≤ g ∧ Bt w8 g := by
      rcases o8.2 with ⟨_, h0⟩ | ⟨g, cap, cur, e, hA, hgt, -⟩
      · omega
      · exact ⟨g, cap, e, hA, cur, hgt⟩
    exact ⟨g8, c8, rfl, Chg.of_below (Below.trans (k56.then k7).below0 (by rw [hz]; exact h8.2.1)), by omega, Bs.own o8, hbt⟩
end Go.Proofs.YtliicpedddcfiaaGreat
namespace Go.Proofs.YtliicpedddcfiaaGreat
open Go.RowKit Go.Lib

theorem nodup_new {w wr : World} {N : Nat} {Z : List Nat} {v : Value} (h : NewInv w wr N Z v) (hn : Z.Nodup) : (Z ++ [wr.heap.size]).Nodup := by
  rw [List.nodup_append]
  refine ⟨hn, by simp, fun a ha b hb => ?_⟩
  rw [List.mem_singleton] at hb
  subst hb
  have := heap_lt (h.2.2.2.2.2.2 a ha).2
  omega
/-- .. and the pointers' block is of its type, the zones are unlike. -/
def NewR2 (w : World) (e : Ending) (w' : World) : Prop :=
  ∃ N A c Z, e = .returned (.tuple #[.pointer (some ⟨N, 0, none⟩), .int .i64 0]) ∧ Chg [] w w' ∧ DevAt w' N A c 0 Z ∧ DevOk N A Z ∧ w.heap.size ≤ N ∧ w.heap.size ≤ A ∧ (∀ z ∈ Z, w.heap.size ≤ z) ∧ (∃ cs, w'.heap[A]? = some (.cells cs 94 (0, 0))) ∧ Z.Nodup
theorem NewInv.done2 {w wr : World} {N : Nat} {Z : List Nat} {v : Value} (h : NewInv w wr N Z v) (h8 : Z.length = 8) (hn : Z.Nodup) : NewR2 w (.returned (.tuple #[.pointer (some ⟨N, 0, none⟩), .int .i64 0])) wr := by
  obtain ⟨hc, hN, hN1, hv, hb, ho, hz⟩ := h
  rcases ho.2 with ⟨rfl, h0⟩ | ⟨A, c, cur, rfl, hA, hh, hle, _, hcs, htk⟩
  · omega
  · refine ⟨N, A, c, Z, rfl, hc, ⟨by rw [h8] at hb; exact hb, by omega, h8, ?_, fun j hj => (hz _ (List.getElem_mem hj)).2⟩, ⟨by omega, ?_, ?_⟩, hN, by omega, fun z hm => by have := (hz z hm).1; omega, ⟨_, hh⟩, hn⟩
    · intro j hj
      refine cell_is hh j ?_
      have h1 : (cur.toList.take (Z.length * 1))[j]? = (ptrs Z)[j]? := by rw [htk]
      rw [List.getElem?_take_of_lt (by omega), Array.getElem?_toList] at h1
      rw [h1]
      simp [ptrs, hj]
    · intro hm; have := (hz _ hm).1; omega
    · intro hm
      have h2 := (hz _ hm).2
      rw [hh] at h2
      injection h2 with h2
      injection h2 with e1 e2
      cases e2
set_option maxRecDepth 100000 in
set_option maxHeartbeats 1000000 in
theorem new_any2 (w : World) : Calls Tryz.prog 17 #[.agg #[.int .i64 8, .int .i64 96]] w (NewR2 w) := by
  go_enter Tryz.func17, Tryz.ntmps17
  go_wp2_with fail
  have hI : NewInv w ((w.alloc (.cells #[.int .i64 8, .int .i64 96] 28)).alloc (.cells #[.int .i64 8, .int .i64 96, .slice none 0 0, .int .i64 0, .int .i64 0, .bool false, .int .i64 0, .bool false] 93)) (w.heap.size + 1) [] (.slice none 0 0) :=
    ⟨chg_two w _ _, by omega, by simp, ⟨_, _, _, rfl⟩, (two_new w _ _).2, World.ownsRow_nil _ _ _ _, fun z hz => by cases hz⟩
  go_loopw [28] (fun i wr => ∃ (j : Nat) (Z : List Nat) (v : Value), i = .int .i64 j ∧ Z.length = j ∧ j ≤ 8 ∧ NewInv w wr (w.heap.size + 1) Z v ∧ Z.Nodup) (fun i _ => 8 - (intOf i).toNat)
  case atStart => exact ⟨0, [], _, rfl, rfl, by omega, hI, List.nodup_nil⟩
  case round =>
    obtain ⟨j, Z, v, rfl, rfl, hj, hN, hnd⟩ := hrel
    clear hI
    by_cases hlt : Z.length < 8
    · obtain ⟨p, m, c, rfl⟩ := hN.2.2.2.1
      have hb := hN.2.2.2.2.1
      have ho := hN.2.2.2.2.2.1
      have hsz := hN.2.2.1
      have e2 : wr.cell? ⟨w.heap.size + 1, 2, none⟩ = some (.slice p m c) := cell_is hb 2 rfl
      have HS := Lib.hid (fun v' w2 => NewInv.step (v' := v') (w2 := w2) hN rfl)
      have HK := Lib.hid (fun v' w2 n xs => NewInv.cell (v' := v') (w2 := w2) (n := n) (xs := xs) hN rfl)
      have hown := ho.alloc (.cells #[.slice none 0 0, .int .i64 0] 97)
      have hlt2 : w.heap.size + 1 + 1 ≤ (wr.alloc (.cells #[.slice none 0 0, .int .i64 0] 97)).heap.size := by simp; omega
      have hnd2 := Lib.hid (nodup_new hN hnd)
      clear hN hb ho
      go_wp2_with (at_builtin; refine wpList_append_lit rfl (.tmp 34) (.tmp 37) 91 94 rfl ty128 inf131 rfl (by decide) (w.heap.size + 1 + 1) _ [.pointer (some ⟨wr.heap.size, 0, none⟩)] 1 rfl _ Z.length (ptrs Z) rfl hown (by omega) (by decide) hlt2 (k := 0) rfl (by simp [Value.oneCell']) rfl 1 (by simp [go_sem]) ?_; intro v' w2 hap; obtain ⟨pa', c', rfl⟩ := own_slice hap.1; obtain ⟨k1, k2⟩ := HK.out _ _ _ _ hap)
      have hst := HS.out _ _ hap
      go_roundw
      case rel => exact ⟨Z.length + 1, Z ++ [wr.heap.size], _, by go_num, by simp, by omega, hst, hnd2.out⟩
      case measure => simp [intOf]; omega
    · have hD := hN.done2 (by omega) hnd
      go_wp2_with fail
      go_ret2
      exact hD
/-- what else a store holds: its slots are empty, its device's blocks are apart. -/
def ExAt (w : World) (S N A : Nat) (Z : List Nat) : Prop := SlotAt w S N ∧ (∃ cs, w.heap[A]? = some (.cells cs 94 (0, 0))) ∧ Z.Nodup
theorem ExAt.keep {w w' : World} {T : List Nat} {S N A : Nat} {Z : List Nat} (h : ExAt w S N A Z) (hc : Chg T w w') (h1 : S ∉ T) (h2 : A ∉ T) : ExAt w' S N A Z := by
  obtain ⟨a, ⟨cs, b⟩, c⟩ := h
  exact ⟨hc.heap a h1, ⟨cs, hc.heap b h2⟩, c⟩
theorem ExAt.keep0 {w w' : World} {S N A : Nat} {Z : List Nat} (h : ExAt w S N A Z) (hc : Chg [] w w') : ExAt w' S N A Z := h.keep hc (by simp) (by simp)
theorem ExAt.keepO {w w' : World} {base S N A : Nat} {Z : List Nat} (h : ExAt w S N A Z) (hc : Ow base w w') : ExAt w' S N A Z := by
  obtain ⟨a, ⟨cs, b⟩, c⟩ := h
  exact ⟨hc.heap a (by simp), ⟨cs, hc.heap b (by simp)⟩, c⟩
end Go.Proofs.YtliicpedddcfiaaGreat
