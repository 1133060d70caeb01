/- Lemmas and walks: Walks: slot.Open 25 at a device whose slots hold texts: the newer one is taken. Walks: puts whose bytes lie anywhere in their blocks: store.puts, Apply, Load. Printed by mkBf.py. Walks: a slot's text is handed back (slot.Load 26), and read as a state (store.parse 27). A state that was read out of a slot's text, while its store is mounted. Printed by mkBh.py. Walks: store.Mount of a device with a text and an empty log. Printed by mkBi.py. Slots behind checkpoints; what a store dumps whose blocks are all written. A crash with picks of a device whose newest text is known, a mount of what is left, its dump; rows of puts of blocks that follow each other. -/
import Derived.Deep.CutBlock
import Derived.Deep.RegionHeld3
import Derived.Test.YtnelakpdmjfolaaGreatCj
import Derived.Test.YtnelakpdmjfolaaGreatCk
import Derived.Test.YtnelakpdmjfolaaGreatCl
namespace Go.Proofs.YtnelakpdmjfolaaGreat
open Go.RowKit Go.Lib

/-- this value is these bytes. -/
def TextIs (w : World) (tv : Value) (l : List UInt8) : Prop := ∃ g c, tv = .slice (some ⟨g, 0, none⟩) l.length c ∧ Bs w (some ⟨g, 0, none⟩) l ∧ Bt w g ∧ 0 < l.length ∧ l.length ≤ 11360 ∧ l.length ≤ c
theorem TextIs.keep {w w' : World} {U : List Nat} {tv : Value} {l : List UInt8} (h : TextIs w tv l) (hc : Chg U w w') (hU : Av w U [5]) : TextIs w' tv l := by
  obtain ⟨g, c, h1, h2, h3, h4⟩ := h
  have hn : g ∉ U := Bt.av h3 hU (by simp)
  exact ⟨g, c, h1, h2.chgT hc hn, Bt.keep h3 hc hn, h4⟩
/-- the newest of the first i texts. -/
def Best (w : World) (n : Nat → Nat) (l : Nat → List UInt8) (i : Nat) (inn : Int) (tv : Value) (cnt : Nat) : Prop :=
  (∀ j, j < i → n j ≤ cnt) ∧ ((cnt = 0 ∧ inn = 1 ∧ tv = .slice none 0 0) ∨ ∃ j, j < i ∧ inn = (j : Nat) ∧ cnt = n j ∧ 1 ≤ cnt ∧ TextIs w tv (l j))
theorem Best.keep {w w' : World} {U : List Nat} {n : Nat → Nat} {l : Nat → List UInt8} {i : Nat} {inn : Int} {tv : Value} {cnt : Nat} (h : Best w n l i inn tv cnt) (hc : Chg U w w') (hU : Av w U [5]) : Best w' n l i inn tv cnt := by
  obtain ⟨h1, h2 | ⟨j, h2, h3, h4, h5, h6⟩⟩ := h
  · exact ⟨h1, Or.inl h2⟩
  · exact ⟨h1, Or.inr ⟨j, h2, h3, h4, h5, h6.keep hc hU⟩⟩
/-- slot.Open behind i slots. -/
def OpI (w wr : World) (base S N A c : Nat) (ops rds : Int) (Z : List Nat) (vs : Nat → Value) (gs : Nat → Nat) (zs : Nat → List (List UInt8)) (n : Nat → Nat) (l : Nat → List UInt8) (i : Nat) : Prop :=
  ∃ rds' inn tv cnt, (rds ≤ rds' ∧ rds' ≤ rds + 288 * (i : Nat)) ∧ Chg (N :: Z) w wr ∧ DevK wr base N A c ops rds' Z vs gs zs ∧ SlotG wr S N inn tv cnt ∧ Best wr n l i inn tv cnt
/-- what slot.Open hands back. -/
def OpenC (w : World) (base N A c : Nat) (ops rds : Int) (Z : List Nat) (vs : Nat → Value) (gs : Nat → Nat) (zs : Nat → List (List UInt8)) (n : Nat → Nat) (l : Nat → List UInt8) (e : Ending) (w' : World) : Prop :=
  ∃ S rds' inn tv cnt, e = .returned (.tuple #[.pointer (some ⟨S, 0, none⟩), .int .i64 0]) ∧ (rds ≤ rds' ∧ rds' ≤ rds + 576) ∧ Chg (N :: Z) w w' ∧ DevK w' base N A c (ops + 1) rds' Z vs (goodF gs zs 8) zs ∧ SlotG w' S N inn tv cnt ∧ Best w' n l 2 inn tv cnt ∧ w.heap.size ≤ S
set_option maxRecDepth 100000 in
set_option maxHeartbeats 8000000 in
theorem kopen_c (w : World) {base N A c : Nat} {ops rds : Int} {Z : List Nat} {vs : Nat → Value} {gs : Nat → Nat} {zs : Nat → List (List UInt8)} {F : Nat → List (List UInt8)} {n : Nat → Nat} {l : Nat → List UInt8} (hD : DevK w base N A c ops rds Z vs gs zs) (hz : ∀ i, i < 2 → Zn zs (3 * i) (F i)) (hF : ∀ i, i < 2 → SlC (F i) (n i) (l i)) (hlt : ∀ z ∈ Z, z < w.heap.size) (h0 : 0 ≤ ops) (h1 : ops ≤ 1000000) (hr0 : 0 ≤ rds) (hr1 : rds ≤ 900000) :
    Calls Tryz.prog 25 #[.pointer (some ⟨N, 0, none⟩), .int .i64 0, .int .i64 3, .int .i64 6] w (OpenC w base N A c ops rds Z vs gs zs n l) := by
  have HZF := Lib.hid (And.intro hz hF)
  clear hz hF
  go_enter Tryz.func25, Tryz.ntmps25
  go_wp2_with fail
  refine (kgeometry w hD).mono ?_
  rintro e w1 ⟨rfl, hc1⟩
  have hD1 := hD.keep hc1 (Av.nil _ _)
  go_wp2_with fail
  have g1 := (two_new w1 (.cells #[.int .i64 8, .int .i64 96] 24) (.cells #[.pointer (some ⟨N, 0, none⟩), .int .i64 0, .int .i64 3, .int .i64 6, .int .i64 96, .int .i64 1, .slice none 0 0, .int .i64 0, .bool false] 113)).2
  have hc2 := hc1.then (chg_two w1 (.cells #[.int .i64 8, .int .i64 96] 24) (.cells #[.pointer (some ⟨N, 0, none⟩), .int .i64 0, .int .i64 3, .int .i64 6, .int .i64 96, .int .i64 1, .slice none 0 0, .int .i64 0, .bool false] 113))
  have hsz := hc1.size
  generalize (w1.alloc (.cells #[.int .i64 8, .int .i64 96] 24)).alloc (.cells #[.pointer (some ⟨N, 0, none⟩), .int .i64 0, .int .i64 3, .int .i64 6, .int .i64 96, .int .i64 1, .slice none 0 0, .int .i64 0, .bool false] 113) = w2 at *
  have hS : SlotG w2 (w1.heap.size + 1) N 1 (.slice none 0 0) 0 := g1
  have hD2 := hD.keep hc2 (Av.nil _ _)
  have hNS : w1.heap.size + 1 ∉ N :: Z := by
    have hN := heap_lt hD.hdr
    intro hm
    rcases List.mem_cons.1 hm with hm | hm
    · omega
    · have := hlt _ hm; omega
  have hS0 : w.heap.size ≤ w1.heap.size + 1 := by omega
  have HI0 : Hid (OpI w w2 base (w1.heap.size + 1) N A c ops rds Z vs gs zs n l 0) := Lib.hid ⟨rds, 1, _, 0, ⟨by omega, by omega⟩, hc2.mono (fun x hx _ => by cases hx), hD2, hS, fun j hj => (by omega), Or.inl ⟨rfl, rfl, rfl⟩⟩
  have HNS := Lib.hid hNS
  generalize w1.heap.size + 1 = S at *
  clear hD hD1 g1 hc1 hc2 hS hD2 hlt hNS hsz
  go_loopw [12, 13, 14, 15, 51] (fun _ _ _ _ iv wr => ∃ i : Nat, i ≤ 2 ∧ iv = .int .i64 i ∧ OpI w wr base S N A c ops rds Z vs gs zs n l i) (fun _ _ _ _ iv _ => 2 - (intOf iv).toNat)
  case atStart => exact ⟨0, by decide, rfl, HI0.out⟩
  case round =>
    obtain ⟨i, hi, rfl, rds', inn, tv, cnt, hrd, kr, hDr, hSr, hB⟩ := hrel
    rename World => wr
    clear HI0
    by_cases hi2 : i < 2
    · have m1 : decide ((i : Int) < 2) = true := decide_eq_true (by omega)
      obtain ⟨hz, hF⟩ := HZF.out
      have hsl := hF i hi2
      have hKb := kblocks wr (i := i) (a := 3 * i) hSr hDr (by omega) (hz i hi2) hsl.len.1 (by omega) (by omega) hsl.len.2
      have HKb := Lib.hid hKb
      have HX := Lib.hid (And.intro hrd (And.intro kr (And.intro hDr (And.intro hSr (And.intro hB hsl)))))
      clear hrd kr hDr hSr hB hsl hKb hz hF
      go_wp2_with fail
      refine HKb.out.mono ?_
      rintro e w3 ⟨v, rfl, k3, hD3, hR3, hnil⟩
      have HCf := Lib.hid (contf_c w3 hR3 hnil HX.out.2.2.2.2.2)
      have HRd := Lib.hid (sread_c w3 hR3 hnil HX.out.2.2.2.2.2)
      have H3 := Lib.hid (And.intro k3 hD3)
      clear hR3 hnil k3 hD3 HKb
      go_wp2_with fail
      refine HCf.out.mono ?_
      rintro e w4 ⟨rfl, rfl⟩
      go_wp2_with fail
      refine HRd.out.mono ?_
      rintro e w4 ⟨tv4, rfl, k4, htx⟩
      have hSN : S ∉ [N] := by rw [List.mem_singleton]; exact fun e => HNS.out (by rw [e]; exact List.mem_cons_self)
      have hS4 : SlotG w4 S N inn tv cnt := k4.heap (H3.out.1.heap HX.out.2.2.2.1 hSN) (by simp)
      have c5 : w4.cell? ⟨S, 7, none⟩ = some (.int .i64 cnt) := cell_is hS4 7 rfl
      have H4 := Lib.hid (And.intro k4 (And.intro htx hS4))
      clear k4 htx HCf HRd
      by_cases hgt : cnt < n i
      · have m2 : decide ((cnt : Int) < ((n i : Nat) : Int)) = true := decide_eq_true (by omega)
        obtain ⟨gt, ct, rfl, htb⟩ : ∃ g c, tv4 = .slice (some ⟨g, 0, none⟩) (l i).length c ∧ (Bs w4 (some ⟨g, 0, none⟩) (l i) ∧ Bt w4 g ∧ 0 < (l i).length ∧ (l i).length ≤ 11360 ∧ (l i).length ≤ c) := by
          rcases H4.out.2.1 with h | ⟨g, c, h1, h2⟩
          · omega
          · exact ⟨g, c, h1, h2⟩
        have HTb := Lib.hid htb
        clear htb
        have u5 := unfrozen hS4 5
        have y1 := heap_set hS4 5 (.int .i64 i) rfl
        have u6 := unfrozen y1 6
        have y2 := heap_set y1 6 (.slice (some ⟨gt, 0, none⟩) (l i).length ct) rfl
        have u7 := unfrozen y2 7
        have y3 := heap_set y2 7 (.int .i64 (n i : Nat)) rfl
        have kS : Chg [S] w4 (((w4.setCell ⟨S, 5, none⟩ (.int .i64 i)).setCell ⟨S, 6, none⟩ (.slice (some ⟨gt, 0, none⟩) (l i).length ct)).setCell ⟨S, 7, none⟩ (.int .i64 (n i : Nat))) := ((Chg.set _ _ _ _).then (Chg.set _ _ _ _)).then (Chg.set _ _ _ _)
        have HY := Lib.hid (And.intro y3 kS)
        have a5 : w4.cell? ⟨S, 5, none⟩ = some (.int .i64 inn) := cell_is hS4 5 rfl
        have a6 : (w4.setCell ⟨S, 5, none⟩ (.int .i64 i)).cell? ⟨S, 6, none⟩ = some tv := cell_is y1 6 rfl
        have a7 : ((w4.setCell ⟨S, 5, none⟩ (.int .i64 i)).setCell ⟨S, 6, none⟩ (.slice (some ⟨gt, 0, none⟩) (l i).length ct)).cell? ⟨S, 7, none⟩ = some (.int .i64 cnt) := cell_is y2 7 rfl
        clear hS4 y1 y2 y3 kS
        go_wp2_with fail
        generalize ((w4.setCell ⟨S, 5, none⟩ (.int .i64 i)).setCell ⟨S, 6, none⟩ (.slice (some ⟨gt, 0, none⟩) (l i).length ct)).setCell ⟨S, 7, none⟩ (.int .i64 (n i : Nat)) = w5 at *
        go_roundw
        case rel =>
          obtain ⟨y3, kS⟩ := HY.out
          obtain ⟨hrd, kr, hDr, hSr, hB, hsl⟩ := HX.out
          obtain ⟨k3, hD3⟩ := H3.out
          have tS : Tp w4 [S] [113] := fun x hx => by
            rw [List.mem_singleton] at hx
            subst hx
            exact ⟨_, _, H4.out.2.2, by simp⟩
          have hgS : gt ∉ [S] := Bt.av HTb.out.2.1 (tS.av (ts' := [5]) (by decide)) (by simp)
          refine ⟨i + 1, by omega, by go_num, _, _, _, _, ⟨?_, ?_⟩, ?_, (hD3.keep H4.out.1 (Av.nil _ _)).keep kS (tS.av (by decide)), y3, fun j hj => ?_, Or.inr ⟨i, by omega, rfl, rfl, by omega, gt, ct, rfl, HTb.out.1.chgT kS hgS, Bt.keep HTb.out.2.1 kS hgS, HTb.out.2.2⟩⟩
          · omega
          · have := hsl.len.1; push_cast; omega
          · refine ((kr.then (k3.mono (fun x hx _ => ?_))).then (H4.out.1.mono (fun x hx _ => by cases hx))).trans kS (fun x hx hlt => ?_)
            · rw [List.mem_singleton] at hx; rw [hx]; exact List.mem_cons_self
            · rw [List.mem_singleton] at hx; omega
          · by_cases e : j = i
            · rw [e]; exact Nat.le_refl _
            · have := hB.1 j (by omega); omega
        case measure => simp [intOf]; omega
      · have m2 : decide ((cnt : Int) < ((n i : Nat) : Int)) = false := decide_eq_false (by omega)
        clear hS4
        go_wp2_with fail
        go_roundw
        case rel =>
          obtain ⟨hrd, kr, hDr, hSr, hB, hsl⟩ := HX.out
          obtain ⟨k3, hD3⟩ := H3.out
          refine ⟨i + 1, by omega, by go_num, _, _, _, _, ⟨?_, ?_⟩, (kr.then (k3.mono (fun x hx _ => ?_))).then (H4.out.1.mono (fun x hx _ => by cases hx)), hD3.keep H4.out.1 (Av.nil _ _), H4.out.2.2, fun j hj => ?_, ?_⟩
          · omega
          · have := hsl.len.1; push_cast; omega
          · rw [List.mem_singleton] at hx; rw [hx]; exact List.mem_cons_self
          · by_cases e : j = i
            · rw [e]; omega
            · exact hB.1 j (by omega)
          · have hB2 := (hB.keep k3 (Av.row hDr.hdr (by decide))).keep H4.out.1 (Av.nil _ _)
            rcases hB2.2 with h | ⟨j, h1, h2⟩
            · exact Or.inl h
            · exact Or.inr ⟨j, by omega, h2⟩
        case measure => simp [intOf]; omega
    · obtain rfl : i = 2 := by omega
      have HFl := Lib.hid (kflush wr hDr h0 h1)
      have HX := Lib.hid (And.intro hrd (And.intro kr (And.intro hSr hB)))
      have HDr := Lib.hid hDr
      clear hrd kr hDr hSr hB
      go_wp2_with fail
      refine HFl.out.mono ?_
      rintro e w3 ⟨rfl, hc3, hD3⟩
      have HE := Lib.hid (And.intro hc3 hD3)
      clear hc3 hD3 HFl
      go_wp2_with fail
      go_ret2
      obtain ⟨hrd, kr, hSr, hB⟩ := HX.out
      have hS3 : SlotG w3 S N inn tv cnt := HE.out.1.heap hSr HNS.out
      have hav : Av wr (N :: Z) [5] := fun x hx cs t fr hh => by
        rcases List.mem_cons.1 hx with rfl | hx
        · rw [HDr.out.hdr] at hh; cases hh; simp
        · obtain ⟨q, hq, rfl⟩ := List.getElem_of_mem hx
          rw [HDr.out.zone q hq] at hh; cases hh; simp
      exact ⟨S, rds', inn, tv, cnt, rfl, ⟨hrd.1, by have := hrd.2; omega⟩, kr.then HE.out.1, HE.out.2, hS3, hB.keep HE.out.1 hav, hS0⟩
end Go.Proofs.YtnelakpdmjfolaaGreat
namespace Go.Proofs.YtnelakpdmjfolaaGreat
open Go.RowKit Go.Lib

/-- puts (a block's number, its bytes) in an own row. -/
def PutsO (w : World) (base : Nat) (v : Value) (l : List (Int × List UInt8)) : Prop :=
  ∃ xs, w.ownsRow base 41 2 v l.length xs ∧ ∀ i (h : i < l.length), xs[i * 2]? = some (.int .i64 l[i].1) ∧ ∃ g o c, xs[i * 2 + 1]? = some (.slice (some ⟨g, o, none⟩) 40 c) ∧ Bs w (some ⟨g, o, none⟩) l[i].2 ∧ l[i].2.length = 40 ∧ Bt w g
theorem PutsO.nil (w : World) (base : Nat) : PutsO w base (.slice none 0 0) [] := ⟨[], World.ownsRow_nil _ _ _ _, fun i h => by simp at h⟩
theorem PutsO.block {w : World} {lo : Nat} {v : Value} {l : List (Int × List UInt8)} (h : PutsO w lo v l) : ∀ g, v.ownBlock = some g → lo ≤ g ∧ ∃ cs, w.heap[g]? = some (.cells cs 41 (0, 0)) := by
  intro g hg
  obtain ⟨xs, ho, -⟩ := h
  exact own_elem ho hg
theorem PutsO.keep {w w' : World} {T : List Nat} {lo : Nat} {v : Value} {l : List (Int × List UInt8)} (h : PutsO w lo v l) (hc : Chg T w w') (hT : Av w T [5]) (hv : ∀ g, v.ownBlock = some g → g ∉ T) : PutsO w' lo v l := by
  obtain ⟨xs, ho, hx⟩ := h
  refine ⟨xs, ?_, fun i hi => ?_⟩
  · refine ⟨ho.1, ?_⟩
    rcases ho.2 with hn | ⟨g, cap, cur, rfl, hb, hg, rest⟩
    · exact Or.inl hn
    · exact Or.inr ⟨g, cap, cur, rfl, hb, hc.heap hg (hv g rfl), rest⟩
  · obtain ⟨h0, g, o, c, h1, h2, h3, cs, h4⟩ := hx i hi
    have hg : g ∉ T := hT.ne h4 (by simp)
    exact ⟨h0, g, o, c, h1, h2.chgT hc hg, h3, cs, hc.heap h4 hg⟩
theorem PutsO.keep0 {w w' : World} {lo : Nat} {v : Value} {l : List (Int × List UInt8)} (h : PutsO w lo v l) (hc : Chg [] w w') : PutsO w' lo v l := h.keep hc (Av.nil _ _) (fun _ _ => by simp)
/-- .. when a put is put behind them. -/
theorem PutsO.push {w w' : World} {base gb ob cb n : Nat} {v v' : Value} {l : List (Int × List UInt8)} {k : Int} {b : List UInt8} {xs : List Value} (hx : ∀ i (h : i < l.length), xs[i * 2]? = some (.int .i64 l[i].1) ∧ ∃ g o c, xs[i * 2 + 1]? = some (.slice (some ⟨g, o, none⟩) 40 c) ∧ Bs w (some ⟨g, o, none⟩) l[i].2 ∧ l[i].2.length = 40 ∧ Bt w g)
    (hl : xs.length = l.length * 2) (hn : n = l.length) (hv : ∀ g, v.ownBlock = some g → ∃ cs, w.heap[g]? = some (.cells cs 41 (0, 0))) (ho : w'.ownsRow base 41 2 v' (n + 1) (xs ++ [.int .i64 k, .slice (some ⟨gb, ob, none⟩) 40 cb])) (hc : Chg v.ownBlock.toList w w')
    (hb : Bs w (some ⟨gb, ob, none⟩) b) (hb4 : b.length = 40) (hbt : Bt w gb) : PutsO w' base v' (l ++ [(k, b)]) := by
  subst hn
  have hne : ∀ {g}, Bt w g → g ∉ v.ownBlock.toList := by
    rintro g ⟨cs2, h2⟩ hm
    obtain ⟨cs, h1⟩ := hv g (by simpa using hm)
    rw [h1] at h2
    cases h2
  have keepB : ∀ {g}, Bt w g → Bt w' g := fun {g} h => by
    obtain ⟨cs, h2⟩ := id h
    exact ⟨cs, hc.heap h2 (hne h)⟩
  refine ⟨_, by rw [List.length_append]; exact ho, fun i hi => ?_⟩
  by_cases h : i < l.length
  · obtain ⟨h0, g, o, c, h1, h2, h3, h4⟩ := hx i h
    rw [List.getElem_append_left h]
    exact ⟨by rw [List.getElem?_append_left (by omega)]; exact h0, g, o, c, by rw [List.getElem?_append_left (by omega)]; exact h1, h2.chgT hc (hne h4), h3, keepB h4⟩
  · have hi2 : i = l.length := by simp at hi; omega
    subst hi2
    have e : (l ++ [(k, b)])[l.length]'(by simp) = (k, b) := by simp
    rw [e]
    exact ⟨by rw [← hl]; simp, gb, ob, cb, by rw [← hl, List.getElem?_append_right (by omega)]; simp, hb.chgT hc (hne hbt), hb4, keepB hbt⟩
/-- a buffer's entries are blocks' bytes. -/
def BufO (w : World) (L : List (Int × Value)) (D : Int → List UInt8) : Prop := ∀ k v, getL L k = some v → ∃ g o c, v = .slice (some ⟨g, o, none⟩) 40 c ∧ Bs w (some ⟨g, o, none⟩) (D k) ∧ (D k).length = 40 ∧ Bt w g
theorem BufO.keep {w w' : World} {L : List (Int × Value)} {D : Int → List UInt8} (h : BufO w L D) (hc : Chg [] w w') : BufO w' L D := fun k v hv => by
  obtain ⟨g, o, c, h1, h2, h3, cs, h4⟩ := h k v hv
  exact ⟨g, o, c, h1, h2.chg hc, h3, cs, hc.heap h4 (by simp)⟩
/-- one put, at its place. -/
theorem PutsO.get {w : World} {lo : Nat} {v : Value} {l : List (Int × List UInt8)} (h : PutsO w lo v l) (k : Nat) (hk : k < l.length) : ∃ g cap gd od cd, v = .slice (some ⟨g, 0, none⟩) l.length cap ∧ l.length ≤ cap ∧
    w.cell? ⟨g, k * 2, none⟩ = some (.int .i64 l[k].1) ∧ w.cell? ⟨g, k * 2 + 1, none⟩ = some (.slice (some ⟨gd, od, none⟩) 40 cd) ∧ Bs w (some ⟨gd, od, none⟩) l[k].2 ∧ l[k].2.length = 40 ∧ Bt w gd := by
  obtain ⟨xs, ho, hx⟩ := h
  obtain ⟨h0, gd, od, cd, h1, h2, h3, h4⟩ := hx k hk
  rcases ho.2 with ⟨_, e⟩ | ⟨g, cap, cur, rfl, hA, hg, hc1, hc2, hc3, ht⟩
  · omega
  · refine ⟨g, cap, gd, od, cd, rfl, hc1, cell_is hg _ ?_, cell_is hg _ ?_, h2, h3, h4⟩
    · rw [← ht, List.getElem?_take_of_lt (by omega), Array.getElem?_toList] at h0
      exact h0
    · rw [← ht, List.getElem?_take_of_lt (by omega), Array.getElem?_toList] at h1
      exact h1
set_option maxRecDepth 100000 in
set_option maxHeartbeats 1000000 in
/-- IndexFunc over puts, by a function that says no. -/
theorem idxputs_164o (w : World) {lo cb : Nat} {pb : Option Addr} {l : List (Int × List UInt8)} (hp : PutsO w lo (.slice pb l.length cb) l) (hk : ∀ x ∈ l, 0 ≤ x.1 ∧ x.1 < 258) (hl : l.length ≤ 1000) : Calls Tryz.prog 137 #[.slice pb l.length cb, .func (.func 114) #[] #[]] w fun e w' => e = .returned (.int .i64 (-1)) ∧ Chg [] w w' := by
  have hG : ∀ (w1 : World) (b : Int) (pd : Option Addr) (cd : Nat), 0 ≤ b → b < 258 → Calls Tryz.prog 114 #[.agg #[.int .i64 b, .slice pd 40 cd]] w1 fun e w' => e = .returned (.bool false) ∧ Chg [] w1 w' := fun w1 _ _ _ _ _ => apply1_ok w1
  have HG := Lib.hid hG
  have HP := Lib.hid hp
  have HK := Lib.hid hk
  have hcb : l.length ≤ cb := by obtain ⟨pa, c, e, h⟩ := own_form hp.choose_spec.1; cases e; exact h
  clear hG hp hk
  go_enter Tryz.func137, Tryz.ntmps137
  go_wp2_with fail
  go_loopw [5, 8] (fun _ i wr => ∃ j : Nat, j ≤ l.length ∧ i = .int .i64 j ∧ Chg [] w wr) (fun _ i _ => l.length - (intOf i).toNat)
  case atStart => exact ⟨0, by omega, rfl, Chg.refl _ _⟩
  case round =>
    obtain ⟨j, hj, rfl, kr⟩ := hrel
    by_cases hlt : j < l.length
    · obtain ⟨g, cap, gd, od, cd, hv, -, d0, d1, -, -, -⟩ := (HP.out.keep0 kr).get j hlt
      cases hv
      have hb := HK.out l[j] (List.getElem_mem hlt)
      have HB := Lib.hid (HG.out wr l[j].1 (some ⟨gd, od, none⟩) cd hb.1 hb.2)
      clear hb
      generalize (l[j]).1 = x at *
      go_wp2_with fail
      refine HB.out.mono ?_
      rintro e w2 ⟨rfl, k2⟩
      go_wp2_with fail
      go_roundw
      case rel => exact ⟨j + 1, by omega, by simp, kr.then k2⟩
      case measure => simp [intOf]; omega
    · obtain rfl : j = l.length := by omega
      go_wp2_with fail
      go_ret
      exact ⟨rfl, kr⟩
set_option maxRecDepth 100000 in
theorem contputs_164o (w : World) {lo cb : Nat} {pb : Option Addr} {l : List (Int × List UInt8)} (hp : PutsO w lo (.slice pb l.length cb) l) (hk : ∀ x ∈ l, 0 ≤ x.1 ∧ x.1 < 258) (hl : l.length ≤ 1000) : Calls Tryz.prog 113 #[.slice pb l.length cb, .func (.func 114) #[] #[]] w fun e w' => e = .returned (.bool false) ∧ Chg [] w w' := by
  have HI := Lib.hid (idxputs_164o w hp hk hl)
  clear hp hk
  go_enter Tryz.func113, Tryz.ntmps113
  go_wp2_with fail
  refine HI.out.mono ?_
  rintro e w2 ⟨rfl, k⟩
  go_wp2_with fail
  go_ret
  exact ⟨rfl, k⟩
set_option maxRecDepth 100000 in
set_option maxHeartbeats 1000000 in
theorem rise_oko (w : World) {lo cb : Nat} {pb : Option Addr} {l : List (Int × List UInt8)} (hp : PutsO w lo (.slice pb l.length cb) l) (hr : Rise l) (hl0 : 0 < l.length) (hl : l.length ≤ 1000) : Calls Tryz.prog 111 #[.slice pb l.length cb] w fun e w' => e = .returned (.bool true) ∧ Chg [] w w' := by
  have HP := Lib.hid hp
  have HR := Lib.hid hr
  have n2 : decide (0 < (l.length : Int)) = true := decide_eq_true (by omega)
  clear hp hr
  go_enter Tryz.func111, Tryz.ntmps111
  go_wp2_with fail
  go_loopw [3] (fun i wz => ∃ j : Nat, 1 ≤ j ∧ j ≤ l.length ∧ i = .int .i64 j ∧ Chg [] w wz) (fun i _ => l.length - (intOf i).toNat)
  case atStart => exact ⟨1, by omega, by omega, rfl, Chg.refl _ _⟩
  case round =>
    obtain ⟨j, hj1, hj, rfl, kz⟩ := hrel
    rename World => wz
    by_cases hlt : j < l.length
    · obtain ⟨q, rfl⟩ : ∃ q, j = q + 1 := ⟨j - 1, by omega⟩
      have hP2 := HP.out.keep0 kz
      obtain ⟨gp, cap, gd, od, cd, hv, hcap, d1, -, -, -, -⟩ := hP2.get (q + 1) hlt
      obtain ⟨gp', cap', gd', od', cd', hv', -, d0, -, -, -, -⟩ := hP2.get q (by omega)
      cases hv
      cases hv'
      have hlt2 := HR.out q hlt
      have hnle : decide ((l[q + 1]).1 ≤ (l[q]'(by omega)).1) = false := decide_eq_false (by omega)
      have hwq : IntKind.i64.wrap (((q + 1 : Nat) : Int) - 1) = q := by rw [IntKind.wrap_i64]; omega
      have hqi : (q : Int) < l.length := by omega
      have hqi2 : ((q + 1 : Nat) : Int) < l.length := by omega
      clear hP2 HP HR hlt2
      generalize (l[q + 1]).1 = x at *
      generalize (l[q]'(by omega)).1 = y at *
      go_wp2_with fail
      go_quiet (fail)
      go_wp2_with fail
      exact ⟨⟨q + 2, by omega, by omega, by go_num, kz.drewN nq⟩, by simp [intOf]; omega⟩
    · obtain rfl : j = l.length := by omega
      go_wp2_with fail
      go_ret
      exact ⟨rfl, kz⟩
set_option maxRecDepth 100000 in
set_option maxHeartbeats 8000000 in
theorem apply_wideo (w : World) {lo X rx lp cb : Nat} {last k : Int} {pb : Option Addr} {Lv : List (Int × Value)} {vs : Int → List (Int × List UInt8)} {l : List (Int × List UInt8)} (hv : VerG w lo X rx last Lv vs) (hap : ApL Lv) (hkeys : ∀ p ∈ Lv, 0 ≤ p.1 ∧ p.1 < 258) (hlo : lo ≤ w.heap.size)
    (hp : PutsO w lp (.slice pb l.length cb) l) (hk : ∀ x ∈ l, 0 ≤ x.1 ∧ x.1 < 258) (hr : Rise l) (hl0 : 0 < l.length) (hl : l.length ≤ 258) (hk0 : last < k) (hk1 : k ≤ 1099511627776) (hs : ∀ c, (vs c).length + 258 < 1000000) :
    Calls Tryz.prog 74 #[.pointer (some ⟨X, 0, none⟩), .agg #[.int .i64 k, .slice pb l.length cb]] w fun e w' => e = .returned (.int .i64 0) ∧ Cv lo X rx w w' ∧ ∃ Lv', VerG w' lo X rx k Lv' (applyV vs k l) ∧ ApL Lv' ∧ ∀ p ∈ Lv', 0 ≤ p.1 ∧ p.1 < 258 := by
  obtain ⟨gp, cap, gd0, od0, cd0, hvv, hcap, -, -, -, -, -⟩ := hp.get 0 hl0
  cases hvv
  have k0 : Chg [] w (w.alloc (.cells #[.int .i64 k, .slice (some ⟨gp, 0, none⟩) l.length cb] 128)) := Chg.alloc w _
  have K0 := heap_new w (.cells #[.int .i64 k, .slice (some ⟨gp, 0, none⟩) l.length cb] 128)
  have hv0 := hv.keep k0
  have hp0 := hp.keep0 k0
  have hA0 : Ap w (w.alloc (.cells #[.int .i64 k, .slice (some ⟨gp, 0, none⟩) l.length cb] 128)) lo X rx last k vs l 0 := ⟨⟨Lv, hv0, hap, hkeys⟩, Cv.of_chg k0⟩
  have x0 : (w.alloc (.cells #[.int .i64 k, .slice (some ⟨gp, 0, none⟩) l.length cb] 128)).cell? ⟨X, 0, none⟩ = some (.int .i64 258) := cell_is hv0.x 0 rfl
  have x2 : (w.alloc (.cells #[.int .i64 k, .slice (some ⟨gp, 0, none⟩) l.length cb] 128)).cell? ⟨X, 2, none⟩ = some (.int .i64 last) := cell_is hv0.x 2 rfl
  have b0 : (w.alloc (.cells #[.int .i64 k, .slice (some ⟨gp, 0, none⟩) l.length cb] 128)).cell? ⟨w.heap.size, 0, none⟩ = some (.int .i64 k) := cell_is K0 0 rfl
  have b1 : (w.alloc (.cells #[.int .i64 k, .slice (some ⟨gp, 0, none⟩) l.length cb] 128)).cell? ⟨w.heap.size, 1, none⟩ = some (.slice (some ⟨gp, 0, none⟩) l.length cb) := cell_is K0 1 rfl
  have HG := Lib.hid (xgone_any _ x0)
  have n0 : decide (k ≤ last) = false := decide_eq_false (by omega)
  have n1 : decide (1099511627776 < k) = false := decide_eq_false (by omega)
  have HKB := Lib.hid (fun w1 (kk : Chg [] (w.alloc (.cells #[.int .i64 k, .slice (some ⟨gp, 0, none⟩) l.length cb] 128)) w1) b (h0 : 0 ≤ b) (h1 : b < 258) => gblock_any w1 (b := b) (hv0.keep kk) h0 h1)
  have HRs := Lib.hid (fun w1 (kk : Chg [] (w.alloc (.cells #[.int .i64 k, .slice (some ⟨gp, 0, none⟩) l.length cb] 128)) w1) => rise_oko w1 (hp0.keep0 kk) hr hl0 (by omega))
  have HCp := Lib.hid (fun w1 (kk : Chg [] (w.alloc (.cells #[.int .i64 k, .slice (some ⟨gp, 0, none⟩) l.length cb] 128)) w1) => contputs_164o w1 (hp0.keep0 kk) hk (by omega))
  have HP := Lib.hid hp0
  have HA := Lib.hid hA0
  have HK := Lib.hid hk
  have HS := Lib.hid hs
  have hl0i : (0 : Int) < l.length := by omega
  have hcapi : (l.length : Int) ≤ cb := by omega
  have hmn : l.length - 1 < l.length := by omega
  clear hv hap hkeys hv0 hp hp0 hr hA0 hk x0 hs
  go_enter Tryz.func74, Tryz.ntmps74
  go_wp2_with fail
  generalize w.alloc (.cells #[.int .i64 k, .slice (some ⟨gp, 0, none⟩) l.length cb] 128) = w1 at *
  generalize hz : w.heap.size = z at *
  refine HG.out.mono ?_
  rintro e w2 ⟨rfl, rfl⟩
  go_wp2_with fail
  go_quiet (fail)
  have b0' : (w1.drewN nq).cell? ⟨z, 0, none⟩ = some (.int .i64 k) := b0
  have b1' : (w1.drewN nq).cell? ⟨z, 1, none⟩ = some (.slice (some ⟨gp, 0, none⟩) l.length cb) := b1
  have kd : Chg [] w1 (w1.drewN nq) := (Chg.refl [] w1).drewN nq
  have HAd := Lib.hid (HA.out.keep kd)
  have K0d := kd.heap K0 (by simp)
  clear b0 b1 x2 n0 n1 HA K0 HG
  go_wp2_with fail
  refine (HRs.out _ kd).mono ?_
  rintro e w2 ⟨rfl, k2⟩
  have hp2 := HP.out.keep0 (kd.then k2)
  obtain ⟨gp1, cap1, gd1, od1, cd1, hv1, -, d0, -, -, -, -⟩ := hp2.get 0 hl0
  obtain ⟨gp2, cap2, gd2, od2, cd2, hv2, -, dm, -, -, -, -⟩ := hp2.get (l.length - 1) hmn
  cases hv1
  cases hv2
  have hk0b := HK.out _ (List.getElem_mem hl0)
  have hkmb := HK.out _ (List.getElem_mem (hmn))
  have b12 := k2.cell b1' (by simp)
  have HB0 := Lib.hid (HKB.out w2 (kd.then k2) _ hk0b.1 hk0b.2)
  have HBm := Lib.hid (HKB.out w2 (kd.then k2) _ hkmb.1 hkmb.2)
  have HA2 := Lib.hid (HAd.out.keep k2)
  have K2 := k2.heap K0d (by simp)
  clear HRs b1' hp2 HAd K0d hk0b hkmb
  generalize (l[0]'hl0).1 = y0 at *
  generalize (l[l.length - 1]'(hmn)).1 = ym at *
  go_wp2_with fail
  refine HB0.out.mono ?_
  rintro e w3 ⟨rfl, rfl⟩
  go_wp2_with fail
  refine HBm.out.mono ?_
  rintro e w3 ⟨rfl, rfl⟩
  go_wp2_with fail
  refine (HCp.out w2 (kd.then k2)).mono ?_
  rintro e w3 ⟨rfl, k3⟩
  have b13 := k3.cell b12 (by simp)
  have HA3 := Lib.hid (HA2.out.keep k3)
  have HP3 := Lib.hid (HP.out.keep0 ((kd.then k2).then k3))
  have K3 := k3.heap K2 (by simp)
  have hz3 : lo ≤ w3.heap.size := by have := HA3.out.cv.size; omega
  have hzlt := heap_lt K3
  clear HB0 HBm HCp HKB d0 dm b12 HA2 K2 HP k2 k3 kd
  clear hmn
  go_wp2_with fail
  go_loopw [6, 58] (fun _ i wr => ∃ j : Nat, j ≤ l.length ∧ i = .int .i64 j ∧ Ap w wr lo X rx last k vs l j ∧ PutsO wr lp (.slice (some ⟨gp, 0, none⟩) l.length cb) l ∧ wr.heap[z]? = some (.cells #[.int .i64 k, .slice (some ⟨gp, 0, none⟩) l.length cb] 128 (0, 0)) ∧ lo ≤ wr.heap.size) (fun _ i _ => l.length - (intOf i).toNat)
  case atStart => exact ⟨0, by omega, rfl, HA3.out, HP3.out, K3, hz3⟩
  case round =>
    obtain ⟨j, hj, rfl, hAr, hPr, Kr, hlr⟩ := hrel
    rename World => wr
    clear HA3 HP3 K3 hz3 b13
    by_cases hlt : j < l.length
    · obtain ⟨L, hver, hap, hkeys⟩ := hAr.ver
      obtain ⟨gp3, cap3, gd, od, cd, hv3, -, d0, d1, hbs, hbl, hbt⟩ := hPr.get j hlt
      cases hv3
      have hkj := HK.out _ (List.getElem_mem hlt)
      obtain ⟨v, xs, hgv, hgl, hown, hxs⟩ := hver.own hkj.1 hkj.2
      have HX := Lib.hid hxs
      have HO := Lib.hid hown
      have HV := Lib.hid hver
      have HAp := Lib.hid hap
      have HKs := Lib.hid hkeys
      have HGl := Lib.hid hgl
      have HPr := Lib.hid hPr
      have HAr := Lib.hid hAr
      have HBs := Lib.hid hbs
      have HBt := Lib.hid hbt
      have HKr := Lib.hid Kr
      have hlti : (j : Int) < l.length := by omega
      have kp : Chg [] wr (wr.alloc (.cells #[.int .i64 (l[j]'hlt).1, .slice (some ⟨gd, od, none⟩) 40 cd] 41)) := Chg.alloc wr _
      have Kp := heap_new wr (.cells #[.int .i64 (l[j]'hlt).1, .slice (some ⟨gd, od, none⟩) 40 cd] 41)
      have hlen : ((applyV vs k (l.take j)) (l[j]'hlt).1).length ≤ 1000000 := by
        have h1 := applyV_len vs k (l.take j) (l[j]'hlt).1
        have h2 := HS.out (l[j]'hlt).1
        simp only [List.length_take] at h1
        omega
      have HLn := Lib.hid hlen
      have HKj := Lib.hid hkj
      have HLr := Lib.hid hlr
      have HVl := Lib.hid (show ∀ c, ((applyV vs k (l.take j)) c).length < 1000000 from fun c => by
        have h1 := applyV_len vs k (l.take j) c
        have h2 := HS.out c
        simp only [List.length_take] at h1
        omega)
      have hd40 := Lib.hid hbl
      have HT := Lib.hid (applyV_take vs k l j hlt)
      clear hver hap hkeys hown hxs hgl hPr hAr hbs hbt hbl hkj hlen
      generalize hb' : (l[j]'hlt).1 = b at *
      generalize hd' : (l[j]'hlt).2 = d at *
      generalize applyV vs k (l.take j) = vj at *
      go_upto_block 2 with fail
      go_cut [6] from 60 to 83 (fun _ wx => Ap w wx lo X rx last k vs l (j + 1) ∧ PutsO wx lp (.slice (some ⟨gp, 0, none⟩) l.length cb) l ∧ wx.heap[z]? = some (.cells #[.int .i64 k, .slice (some ⟨gp, 0, none⟩) l.length cb] 128 (0, 0)) ∧ lo ≤ wx.heap.size)
      case rest =>
        obtain ⟨q1, q2, q3, q4⟩ := hcut
        go_wp2_with fail
        exact ⟨⟨j + 1, by omega, by go_num, q1, q2, q3, q4⟩, by simp [intOf]; omega⟩
      go_wp2_with fail
      have hV5 := HV.out.keep kp
      have x1 : (wr.alloc (.cells #[.int .i64 b, .slice (some ⟨gd, od, none⟩) 40 cd] 41)).cell? ⟨X, 1, none⟩ = some (.map (some rx)) := cell_is hV5.x 1 rfl
      have p0 : (wr.alloc (.cells #[.int .i64 b, .slice (some ⟨gd, od, none⟩) 40 cd] 41)).cell? ⟨wr.heap.size, 0, none⟩ = some (.int .i64 b) := cell_is Kp 0 rfl
      have p1 : (wr.alloc (.cells #[.int .i64 b, .slice (some ⟨gd, od, none⟩) 40 cd] 41)).cell? ⟨wr.heap.size, 1, none⟩ = some (.slice (some ⟨gd, od, none⟩) 40 cd) := cell_is Kp 1 rfl
      have b0 : (wr.alloc (.cells #[.int .i64 b, .slice (some ⟨gd, od, none⟩) 40 cd] 41)).cell? ⟨z, 0, none⟩ = some (.int .i64 k) := cell_is (kp.heap Kr (by simp)) 0 rfl
      have HLk := Lib.hid (fun wx (kx : Chg [] wr wx) => show (Instr.lookup 184 (.map (some rx)) (.int .i64 b) false).run Tryz.prog wx = .ok v wx from by
        have := lookup258g (HV.out.keep kx).m b
        rw [hgv] at this
        exact this)
      generalize hw5 : wr.alloc (.cells #[.int .i64 b, .slice (some ⟨gd, od, none⟩) 40 cd] 41) = w5 at *
      have hzp : wr.heap.size ≤ w5.heap.size := kp.size
      have kd : Chg [] wr w5.drew := kp.drew
      have hXn : X ∉ v.ownBlock.toList := own_block_ne HO.out HV.out.x (by decide)
      have hrn : rx ∉ v.ownBlock.toList := fun hm => by
        obtain ⟨-, cs, hh⟩ := own_elem HO.out (show v.ownBlock = some rx by simpa using hm)
        exact map_cells HV.out.m hh rfl
      have hzn : wr.heap.size ∉ v.ownBlock.toList := own_block_ne (ownsRow_av HO.out kp (Av.nil _ _)) Kp (by decide)
      have HXn := Lib.hid hXn
      have HRn := Lib.hid hrn
      have HZn := Lib.hid hzn
      have HBn := Lib.hid (own_block_ne (ownsRow_av HO.out kp (Av.nil _ _)) (kp.heap HKr.out (by simp)) (by decide) : z ∉ v.ownBlock.toList)
      clear hXn hrn hzn
      have hl5 : lo ≤ w5.drew.heap.size := Nat.le_trans hlr hzp
      have hlk5 := HLk.out w5.drew kd
      have x1d : w5.drew.cell? ⟨X, 1, none⟩ = some (.map (some rx)) := x1
      have p0d : w5.drew.cell? ⟨wr.heap.size, 0, none⟩ = some (.int .i64 b) := p0
      have p1d : w5.drew.cell? ⟨wr.heap.size, 1, none⟩ = some (.slice (some ⟨gd, od, none⟩) 40 cd) := p1
      have b0d : w5.drew.cell? ⟨z, 0, none⟩ = some (.int .i64 k) := b0
      clear hgv d0 d1 Kr
      generalize wr.heap.size = zp at *
      go_region_held3 (fun wx => wx.cell? ⟨X, 1, none⟩ = some (.map (some rx)) ∧ wx.cell? ⟨zp, 0, none⟩ = some (.int .i64 b) ∧ wx.cell? ⟨zp, 1, none⟩ = some (.slice (some ⟨gd, od, none⟩) 40 cd) ∧ wx.cell? ⟨z, 0, none⟩ = some (.int .i64 k))
        (first
          | (exact ⟨x1d, p0d, p1d, b0d⟩)
          | (exact ⟨x16, p06, p16, b06⟩)
          | (exact ⟨x1y, p0y, p1y, b0y⟩)
          | (exact ⟨x17, p07, p17, b07⟩)
          | (exact ⟨k9.cell x17 (by simpa using cell_map m7 x17), k9.cell p07 (by simpa using cell_map m7 p07), k9.cell p17 (by simpa using cell_map m7 p17), k9.cell b07 (by simpa using cell_map m7 b07)⟩))
        (first
          | (go_simp; go_at_call 65; refine (clone_bt w5.drew (l := d) (m := 40) hd40.out (by decide) (by decide) (HBs.out.chg kd)).mono ?_; rintro e w6 ⟨g2, c2, rfl, k6, bs6, l6, bt6⟩; have k6r := kd.then k6; have x16 := k6.cell x1d (by simp); have p06 := k6.cell p0d (by simp); have p16 := k6.cell p1d (by simp); have b06 := k6.cell b0d (by simp); have hlk6 := HLk.out w6 k6r; have ky : Chg [] wr (w6.alloc (.cells #[.int .i64 k, .slice (some ⟨g2, 0, none⟩) 40 c2] 196)) := k6r.then_alloc _; have y0 := heap_new w6 (.cells #[.int .i64 k, .slice (some ⟨g2, 0, none⟩) 40 c2] 196); have kyy : Chg [] w6 (w6.alloc (.cells #[.int .i64 k, .slice (some ⟨g2, 0, none⟩) 40 c2] 196)) := Chg.alloc w6 _; have x1y := kyy.cell x16 (by simp); have p0y := kyy.cell p06 (by simp); have p1y := kyy.cell p16 (by simp); have b0y := kyy.cell b06 (by simp); have hlky := HLk.out _ ky; have oy := ownsRow_av HO.out ky (Av.nil _ _); have hby : lo ≤ (w6.alloc (.cells #[.int .i64 k, .slice (some ⟨g2, 0, none⟩) 40 c2] 196)).heap.size := (by have := k6.size; have := kyy.size; omega))
          | (refine step_append_ver rfl (.tmp 74) (.tmp 81) rfl lo _ _ xs rfl oy w6.heap.size 1 _ _ rfl (cell_is y0 0 rfl) (cell_is y0 1 rfl) ⟨rfl, rfl⟩ HLn.out hby ?_; intro g7 cp7 w7 o7 k7 i7; have x17 := k7.cell x1y HXn.out; have p07 := k7.cell p0y HZn.out; have p17 := k7.cell p1y HZn.out; have b07 := k7.cell b0y HBn.out; have m7 := (HV.out.keep ky).m.keep k7 HRn.out; obtain ⟨hmu, m8, k9⟩ := upd258 m7 b (.slice (some ⟨g7, 0, none⟩) ((vj b).length + 1) cp7)))
      all_goals
        obtain ⟨hvF, haF, hcF⟩ := VerG.added (d := d) (k := k) (HV.out.keep ky) HAp.out HKs.out HGl.out oy (fun i hi => by
          obtain ⟨e1, g', c', e2, e3, e4, e5⟩ := HX.out i hi
          exact ⟨e1, g', c', e2, e3.chg ky, e4, Bt.keep e5 ky (by simp)⟩) rfl o7 k7 i7 (bs6.chg kyy) hd40.out (Bt.keep bt6 kyy (by simp)) m8 k9 (fun c => by
          have := HVl.out c
          omega)
        have hkF : ∀ p ∈ putL L b (.slice (some ⟨g7, 0, none⟩) ((vj b).length + 1) cp7), 0 ≤ p.1 ∧ p.1 < 258 := putL_keys (P := fun x => 0 ≤ x ∧ x < 258) HKs.out HKj.out
        have hcC : Cv lo X rx wr (updW w7 184 rx b (.slice (some ⟨g7, 0, none⟩) ((vj b).length + 1) cp7)) := (Cv.of_chg ky).trans hcF
        have hA' := Lib.hid (Ap.mk (w := w) (last := last) (k := k) (vs := vs) (l := l) (j := j + 1) ⟨_, HT.out ▸ hvF, haF, hkF⟩ (HAr.out.cv.trans hcC))
        obtain ⟨TT, hT1, hT2⟩ := hcC
        have hXr := HV.out.x
        have hmr := HV.out.m
        have hP' := Lib.hid (HPr.out.keep hT1 (Cv.av hT2 hXr hmr (by decide) (by decide)) (fun g hg hm => by
          obtain ⟨-, cs, hh⟩ := HPr.out.block g hg
          exact (Cv.av (ts := [41]) hT2 hXr hmr (by decide) (by decide)).ne hh (by simp) hm))
        have hK' := Lib.hid (hT1.heap HKr.out ((Cv.av (ts := [128]) hT2 hXr hmr (by decide) (by decide)).ne HKr.out (by simp)))
        have hS' := Lib.hid (show lo ≤ (updW w7 184 rx b (.slice (some ⟨g7, 0, none⟩) ((vj b).length + 1) cp7)).heap.size from by
          have := k6.size
          have := kyy.size
          have := hcF.size
          omega)
        clear hvF haF hcF hkF hT1 hT2 hXr hmr hmu
        go_wp2_with fail
        go_meet
        exact ⟨hA'.out, hP'.out, hK'.out, hS'.out⟩
    · obtain rfl : j = l.length := by omega
      obtain ⟨L, hver, hap, hkeys⟩ := hAr.ver
      rw [List.take_length] at hver
      have b13 : wr.cell? ⟨z, 0, none⟩ = some (.int .i64 k) := cell_is Kr 0 rfl
      have x2 : wr.cell? ⟨X, 2, none⟩ = some (.int .i64 last) := cell_is hver.x 2 rfl
      have f2 := unfrozen hver.x 2
      have HV := Lib.hid (hver.timed k)
      have HC := Lib.hid (hAr.cv.trans ⟨[X], Chg.set wr X 2 (.int .i64 k), fun x hx _ => Or.inl (by simpa using hx)⟩)
      clear hver hAr hPr Kr
      go_wp2_with fail
      go_ret
      exact ⟨rfl, HC.out, L, HV.out, hap, hkeys⟩
set_option maxRecDepth 100000 in
set_option maxHeartbeats 4000000 in
theorem tload_wideo (w : World) {lo M X B r rx lp cb : Nat} {qv : Value} {out num bas last given lastv : Int} {rd : Bool} {pb : Option Addr} {Lv : List (Int × Value)} {vs : Int → List (Int × List UInt8)} {l : List (Int × List UInt8)}
    (h : MgrG w M X B r qv out num bas last given rd) (hr0 : MapAt w r []) (hv : VerG w lo X rx lastv Lv vs) (hap : ApL Lv) (hkeys : ∀ p ∈ Lv, 0 ≤ p.1 ∧ p.1 < 258) (hlo : lo ≤ w.heap.size)
    (hp : PutsO w lp (.slice pb l.length cb) l) (hk : ∀ x ∈ l, 0 ≤ x.1 ∧ x.1 < 258) (hr : Rise l) (hl0 : 0 < l.length) (hl : l.length ≤ 258) (hb0 : 0 < bas) (hk0 : lastv < bas) (hk1 : bas ≤ 1099511627776) (hs : ∀ c, (vs c).length + 258 < 1000000) :
    Calls Tryz.prog 34 #[.pointer (some ⟨M, 0, none⟩), .slice pb l.length cb] w fun e w' => e = .returned (.int .i64 0) ∧ Cv lo X rx w w' ∧ ∃ Lv', VerG w' lo X rx bas Lv' (applyV vs bas l) ∧ ApL Lv' ∧ ∀ p ∈ Lv', 0 ≤ p.1 ∧ p.1 < 258 := by
  have HG := Lib.hid (tgone_mg w h)
  have kd : Chg [] w w.drew := (Chg.refl [] w).drew
  have HA := Lib.hid (apply_wideo w.drew (hv.keep kd) hap hkeys (Nat.le_trans hlo kd.size) (hp.keep0 kd) hk hr hl0 hl hk0 hk1 hs)
  have HK := Lib.hid kd
  have c0 : w.cell? ⟨M, 0, none⟩ = some (.pointer (some ⟨X, 0, none⟩)) := cell_is h 0 rfl
  have c2 : w.cell? ⟨M, 2, none⟩ = some (.map (some r)) := cell_is h 2 rfl
  have c6 : w.cell? ⟨M, 6, none⟩ = some (.int .i64 bas) := cell_is h 6 rfl
  have hlen : (Builtin.len_ #[134] 3 #[.map (some r)]).run Tryz.prog w = .ok (.int .i64 0) w := run_len_im ty178 hr0 3
  have hb1 : ¬ bas = 0 := by omega
  have hl1 : ¬ (l.length : Int) = 0 := by omega
  have hd0 : decide (bas = 0) = false := by simpa using hb1
  have hd1 : decide ((l.length : Int) = 0) = false := by simpa using hl1
  clear kd h hr0 hv hap hkeys hlo hp hk hr hk0 hk1 hs
  go_enter Tryz.func34, Tryz.ntmps34
  go_wp2_with fail
  refine HG.out.mono ?_
  rintro e w1 ⟨rfl, rfl⟩
  go_wp2_with fail
  go_still_tail 10, (by kernel_rfl)
  change wpList _ _ _ _ _ w.drew
  generalize w.drew = w2 at *
  go_wp2_with fail
  refine HA.out.mono ?_
  rintro e w3 ⟨rfl, hcv, Lv', h1, h2, h3⟩
  have HR := Lib.hid (And.intro ((Cv.of_chg HK.out).trans hcv) (And.intro h1 (And.intro h2 h3)))
  clear hcv h1 h2 h3
  go_wp2_with fail
  go_ret
  exact ⟨rfl, HR.out.1, _, HR.out.2.1, HR.out.2.2.1, HR.out.2.2.2⟩
set_option maxRecDepth 100000 in
set_option maxHeartbeats 2000000 in
theorem sputs_oko (w : World) {R r last : Nat} {L : List (Int × Value)} {D : Int → List UInt8} (hs : StateM w R r last) (hm : MapAt w r L) (hD : BufO w L D) (hk : ∀ x ∈ L, 0 ≤ x.1 ∧ x.1 < 258) (hl : L.length ≤ 1000) : Calls Tryz.prog 35 #[.pointer (some ⟨R, 0, none⟩)] w fun e w' =>
    ∃ v, e = .returned v ∧ Chg [] w w' ∧ PutsO w' w.heap.size v (putsL L D) := by
  have c2 : w.cell? ⟨R, 1, none⟩ = some (.map (some r)) := cell_is hs 1 rfl
  have HS := Lib.hid (sortedA_any w hm (fun p hp => wf_i64 (by have := hk p hp; omega) (by have := hk p hp; omega)) (by omega))
  have HB := Lib.hid hm
  have HD := Lib.hid hD
  have HK := Lib.hid hk
  clear hs hm hD hk
  go_enter Tryz.func35, Tryz.ntmps35
  go_wp2_with (first
    | (go_at_call 76; refine (keysA_any (some r) _).mono ?_; rintro e w1 ⟨rfl, rfl⟩)
    | (go_at_call 75; refine HS.out.mono ?_; rintro e w2 ⟨v2, rfl, o2, k2⟩; obtain ⟨pk, ck, rfl, hck⟩ := own_form o2))
  have hsl : (sortI (L.map Prod.fst)).length = L.length := by rw [sortI_length, List.length_map]
  have hmem : ∀ k, k ∈ sortI (L.map Prod.fst) → ∃ v, getL L k = some v := fun k hk => getL_key ((sortI_perm _).mem_iff.1 hk)
  have hpl : putsL L D = (sortI (L.map Prod.fst)).map fun k => (k, D k) := rfl
  have HP := Lib.hid hpl
  have HM := Lib.hid hmem
  have O2 := Lib.hid o2
  clear hmem hpl o2
  generalize hks : sortI (L.map Prod.fst) = ks at *
  have c22 := k2.cell c2 (by simp)
  generalize hn : L.length = n at *
  have hcki : (n : Int) ≤ ck := by omega
  go_loopw [2, 4, 12] (fun v _ i wr => ∃ j : Nat, j ≤ n ∧ i = .int .i64 j ∧ Chg [] w2 wr ∧ PutsO wr w2.heap.size v ((ks.take j).map fun k => (k, D k))) (fun _ _ i _ => n - (intOf i).toNat)
  case atStart => exact ⟨0, by omega, rfl, Chg.refl _ _, PutsO.nil _ _⟩
  case round =>
    obtain ⟨j, hj, rfl, kr, hp⟩ := hrel
    by_cases hlt : j < n
    · have hjk : j < ks.length := by omega
      obtain ⟨v, hv⟩ := HM.out ks[j] (List.getElem_mem hjk)
      obtain ⟨g, og, cg, rfl, hb, hb4, hbt⟩ := HD.out _ _ hv
      have kwr : Chg [] w wr := k2.then kr
      have hlook : (Instr.lookup 87 (.map (some r)) (.int .i64 ks[j]) false).run Tryz.prog wr = .ok (.slice (some ⟨g, og, none⟩) 40 cg) wr := by
        have := lookup151 (HB.out.keep kwr (by simp)) ks[j] false
        rw [hv] at this
        exact this
      have ck0 : ∃ gk, pk = some ⟨gk, 0, none⟩ ∧ wr.cell? ⟨gk, j, none⟩ = some (.int .i64 ks[j]) := by
        rcases O2.out.2 with ⟨_, h0⟩ | ⟨gk, cap, cur, e, hA, hg, hc1, hc2, hc3, ht⟩
        · omega
        · injection e with e1
          refine ⟨gk, e1, kr.cell (cell_is hg j ?_) (by simp)⟩
          have h1 : (ks.map encZ)[j]? = some (.int .i64 ks[j]) := by simp [hjk]
          rw [← ht, List.getElem?_take_of_lt (by omega), Array.getElem?_toList] at h1
          exact h1
      obtain ⟨gk, rfl, ck1⟩ := ck0
      have cw2 := kr.cell c22 (by simp)
      have HBs := Lib.hid (hb.chg kwr)
      have HPt := Lib.hid hp
      have HTk := Lib.hid (show (ks.take (j + 1)).map (fun k => (k, D k)) = (ks.take j).map (fun k => (k, D k)) ++ [(ks[j], D ks[j])] by rw [List.take_succ_eq_append_getElem hjk, List.map_append]; rfl)
      have HL4 := Lib.hid hb4
      have HBt := Lib.hid (Bt.keep hbt kwr (by simp))
      clear hb hp hb4 hbt hv
      generalize ks[j] = k at *
      obtain ⟨xs, ho3, hx3⟩ := HPt.out
      have hpl3 : ((ks.take j).map fun k => (k, D k)).length = j := by simp; omega
      have hb23 := HPt.out.block
      have hs3 : w2.heap.size ≤ wr.heap.size := kr.size
      have HX3 := Lib.hid hx3
      have HO3 := Lib.hid ho3
      have H23 := Lib.hid hb23
      clear hx3 hb23 ho3
      go_wp2_with (at_builtin; refine wpList_append_lit rfl (.tmp 16) (.tmp 25) 37 41 rfl ty69 inf92 rfl (by decide) w2.heap.size wr [.int .i64 k, .slice (some ⟨g, og, none⟩) 40 cg] 1 rfl _ ((ks.take j).map fun k => (k, D k)).length xs rfl HO3.out (by omega) (by decide) hs3 (k := 0) rfl (by simp [Value.oneCell']) rfl 1 rfl ?_; intro v' w4 hap)
      have hxl : xs.length = ((ks.take j).map fun k => (k, D k)).length * 2 := HO3.out.1
      have hfin : PutsO w4 w2.heap.size v' (((ks.take j).map fun k => (k, D k)) ++ [(k, D k)]) := PutsO.push HX3.out hxl rfl (fun g hg => (H23.out g hg).2) hap.1 (Chg.own hap.2.2 (fun g hg _ => by have hg2 : u2.ownBlock = some g := hg; simp [hg2])) HBs.out HL4.out HBt.out
      rw [← HTk.out] at hfin
      go_roundw
      case rel => exact ⟨j + 1, by omega, by simp, Chg.of_below (kr.below0.trans hap.2.1), hfin⟩
      case measure => simp [intOf]; omega
    · obtain rfl : j = n := by omega
      go_wp2_with fail
      go_ret
      refine ⟨_, rfl, k2.then kr, ?_⟩
      rw [HP.out]
      rw [List.take_of_length_le (by omega)] at hp
      obtain ⟨xs, ho, hx⟩ := hp
      exact ⟨xs, own_base ho k2.size, hx⟩
end Go.Proofs.YtnelakpdmjfolaaGreat
namespace Go.Proofs.YtnelakpdmjfolaaGreat
open Go.RowKit Go.Lib

set_option maxRecDepth 100000 in
theorem load_is (w : World) {S N : Nat} {inn : Int} {tv : Value} {cnt : Nat} {l : List UInt8} (h : SlotG w S N inn tv cnt) (ht : TextIs w tv l) : Calls Tryz.prog 26 #[.pointer (some ⟨S, 0, none⟩)] w fun e w' => ∃ u, e = .returned (.tuple #[u, .int .i64 cnt]) ∧ Chg [] w w' ∧ TextIs w' u l := by
  obtain ⟨g, c, rfl, hb, -, hm0, hm1, -⟩ := ht
  obtain ⟨m, hl⟩ : ∃ m, l.length = m := ⟨_, rfl⟩
  rw [hl] at h hm0 hm1
  have c6 : w.cell? ⟨S, 6, none⟩ = some (.slice (some ⟨g, 0, none⟩) m c) := cell_is h 6 rfl
  have c7 : w.cell? ⟨S, 7, none⟩ = some (.int .i64 cnt) := cell_is h 7 rfl
  have HB := Lib.hid hb
  have HL := Lib.hid (And.intro hl (And.intro hm0 hm1))
  clear h hb hl hm0 hm1
  go_enter Tryz.func26, Tryz.ntmps26
  go_wp2_with fail
  have c6d : w.drew.cell? ⟨S, 6, none⟩ = some (.slice (some ⟨g, 0, none⟩) m c) := c6
  have c7d : w.drew.cell? ⟨S, 7, none⟩ = some (.int .i64 cnt) := c7
  go_region_held3 (fun wx => wx.cell? ⟨S, 6, none⟩ = some (.slice (some ⟨g, 0, none⟩) m c) ∧ wx.cell? ⟨S, 7, none⟩ = some (.int .i64 cnt))
    (first | (exact ⟨c6, c7⟩) | (exact ⟨c6d, c7d⟩) | (exact ⟨k1.cell c6d (by simp), k1.cell c7d (by simp)⟩))
    (first
      | (go_at_call 65; refine (clone_btc w.drew HL.out.1 HL.out.2.1 (by have := HL.out; omega) (HB.out.chg (Chg.refl [] w).drew)).mono ?_; rintro e w1 ⟨g', c', rfl, k1, b1, -, t1, hc1⟩))
  all_goals
    have HF := Lib.hid (And.intro ((Chg.refl [] w).drew.then k1) (And.intro b1 (And.intro t1 hc1)))
    clear k1 b1 t1 hc1
    go_wp2_with fail
    go_ret2
    obtain ⟨hl, hm0, hm1⟩ := HL.out
    exact ⟨_, rfl, HF.out.1, g', c', by rw [hl]; rfl, HF.out.2.1, HF.out.2.2.1, by omega, by omega, by rw [hl]; exact HF.out.2.2.2⟩
theorem flat_drop (l : List (Int × List UInt8)) (h : ∀ p ∈ l, p.2.length = 40) : ∀ j, (l.map fun p => leB p.1.toNat 4 ++ p.2).flatten.drop (44 * j) = ((l.drop j).map fun p => leB p.1.toNat 4 ++ p.2).flatten := by
  induction l with
  | nil => intro j; simp
  | cons p l ih =>
    intro j
    cases j with
    | zero => rfl
    | succ j =>
      have hp := h p List.mem_cons_self
      rw [List.map_cons, List.flatten_cons, List.drop_succ_cons, ← ih (fun q hq => h q (List.mem_cons_of_mem _ hq)) j]
      rw [show 44 * (j + 1) = (leB p.1.toNat 4 ++ p.2).length + 44 * j by simp [leB_length, hp]; omega, List.drop_append]
      simp
theorem textB_at {last : Nat} {l : List (Int × List UInt8)} (h : ∀ p ∈ l, p.2.length = 40) {j : Nat} (hj : j < l.length) : ∃ rest, (textB last l).drop (8 + 44 * j) = leB l[j].1.toNat 4 ++ (l[j].2 ++ rest) := by
  refine ⟨((l.drop (j + 1)).map fun p => leB p.1.toNat 4 ++ p.2).flatten, ?_⟩
  unfold textB
  rw [← List.drop_drop, cat_drop _ _ (leB_length _ _), flat_drop l h j, List.drop_eq_getElem_cons hj, List.map_cons, List.flatten_cons, List.append_assoc]
theorem upd87 {w : World} {r : Nat} {L : List (Int × Value)} (hM : MapAt w r L) (k : Int) (v : Value) :
    (Instr.mapUpdate 87 (.map (some r)) (.int .i64 k) v).run Tryz.prog w = .ok () (updW w 87 r k v) ∧ MapAt (updW w 87 r k v) r (putL L k v) ∧ Chg [r] w (updW w 87 r k v) :=
  updW_is (mty := 87) (kt := 3) (et := 38) (by kernel_rfl) (by kernel_rfl) hM k v
theorem putL_new {L : List (Int × Value)} {k : Int} {v : Value} (h : k ∉ L.map Prod.fst) : putL L k v = L ++ [(k, v)] := by
  induction L with
  | nil => rfl
  | cons p l ih =>
    simp only [List.map_cons, List.mem_cons, not_or] at h
    simp only [putL]
    rw [if_neg h.1, ih h.2]; rfl
/-- how long a slice is. -/
def slLen : Value → Nat | .slice _ n _ => n | _ => 0
/-- a state behind j entries of a text. -/
structure PsI (w wr : World) (R r last : Nat) (l : List (Int × List UInt8)) (j : Nat) : Prop where
  chg : Chg [R, r] w wr
  st : StateM wr R r last
  map : ∃ L, MapAt wr r L ∧ L.map Prod.fst = (l.take j).map Prod.fst ∧ BufO wr L (putA (fun _ => []) l)
/-- what parse hands back. -/
def PsR (w : World) (last : Nat) (l : List (Int × List UInt8)) (e : Ending) (w' : World) : Prop :=
  ∃ R r L, e = .returned (.tuple #[.pointer (some ⟨R, 0, none⟩), .bool true]) ∧ Chg [] w w' ∧ StateM w' R r last ∧ MapAt w' r L ∧ L.map Prod.fst = l.map Prod.fst ∧ BufO w' L (putA (fun _ => []) l) ∧ w.heap.size ≤ R ∧ w.heap.size ≤ r ∧ R ≠ r
set_option maxRecDepth 100000 in
set_option maxHeartbeats 8000000 in
theorem parse_ok (w : World) {g c m last n : Nat} {l : List (Int × List UInt8)} (hB : Bs w (some ⟨g, 0, none⟩) (textB last l)) (hbt : Bt w g) (hm : (textB last l).length = m) (hc : m ≤ c) (h40 : ∀ p ∈ l, p.2.length = 40) (hk : ∀ p ∈ l, 0 ≤ p.1 ∧ p.1 < 258) (hnd : (l.map Prod.fst).Nodup) (hn : l.length = n) (hn0 : 0 < n) (hn1 : n ≤ 258) (hlast : last ≤ 1099511627776) :
    Calls Tryz.prog 27 #[.slice (some ⟨g, 0, none⟩) m c] w (PsR w last l) := by
  have hm8 : 8 + 44 * n ≤ m ∧ m ≤ 8 + 44 * n := by rw [← hm, textB_length _ _ h40, hn]; omega
  have hmk := @run_makeMap Tryz.prog
  have h2 := two_new w (.map #[] 0) (.cells #[.int .i64 0, .map (some w.heap.size)] 89)
  have hc2 := chg_two w (.map #[] 0) (.cells #[.int .i64 0, .map (some w.heap.size)] 89)
  have hg := heap_lt hbt.choose_spec
  have H1 := Lib.hid (fun wx (kx : Chg [] w wx) => get64_le wx (c := c) (v := last) (hB.chg kx) hm (by omega) (by omega) (by unfold textB; rw [cat_take _ _ (leB_length _ _)]) (by omega))
  have HB := Lib.hid (And.intro hB (And.intro hbt hm))
  have HL := Lib.hid (And.intro h40 (And.intro hk (And.intro hnd hn)))
  have H2 := Lib.hid h2
  clear hB hbt hm h40 hk hnd hn
  go_enter Tryz.func27, Tryz.ntmps27
  go_wp2_with fail
  generalize hwz : (w.alloc (.map #[] 0)).alloc (.cells #[.int .i64 0, .map (some w.heap.size)] 89) = w1 at *
  refine (H1.out w1 hc2).mono ?_
  rintro e w2 ⟨rfl, rfl⟩
  have hlt : decide ((1099511627776 : Int) < (last : Int)) = false := decide_eq_false (by omega)
  have hmod : (m : Int).tmod 44 = 8 := by rw [Int.tmod_eq_emod_of_nonneg (by omega)]; omega
  have hm0 : ((m : Int) == 0) = false := by simp; omega
  have hwl : IntKind.i64.wrap (last : Int) = (last : Int) := by rw [IntKind.wrap_i64]; omega
  have hmc : (m : Int) ≤ c := by omega
  have hc8 : ¬ c = 8 := by omega
  have h8m : (8 : Int) ≤ m := by omega
  have R0 : w1.cell? ⟨w.heap.size + 1, 0, none⟩ = some (.int .i64 0) := cell_is H2.out.2 0 rfl
  have f0 := unfrozen H2.out.2 0
  have hRr := heap_ne H2.out.2 H2.out.1 (by simp)
  have kS := Chg.set w1 (w.heap.size + 1) 0 (.int .i64 last)
  have hP0 : PsI w1 (w1.setCell ⟨w.heap.size + 1, 0, none⟩ (.int .i64 last)) (w.heap.size + 1) w.heap.size last l 0 :=
    ⟨kS.mono (fun x hx _ => by rw [List.mem_singleton] at hx; simp [hx]), heap_set H2.out.2 0 _ rfl, [], MapAt.keep ⟨#[], 0, H2.out.1, rfl, MapKept.stamped_empty 0⟩ kS (by simp), by simp, fun k v hv => by cases hv⟩
  have HP0 := Lib.hid hP0
  have HC2 := Lib.hid (And.intro hc2 hg)
  clear hP0 kS hRr
  go_wp2_with fail
  generalize w1.setCell ⟨w.heap.size + 1, 0, none⟩ (.int .i64 last) = w3 at *
  generalize hzR : w.heap.size = z at *
  clear R0 f0 hlt hmod hm0 hwl hc2 H2
  go_loopw [7, 8, 9] (fun v _ _ wr => ∃ (j : Nat) (pa : Option Addr) (q cc : Nat), v = .slice pa q cc ∧ j ≤ n ∧ (j < n → pa = some ⟨g, 8 + 44 * j, none⟩) ∧ (q ≤ 44 * (n - j) ∧ 44 * (n - j) ≤ q) ∧ (cc ≤ c - 8 - 44 * j ∧ c - 8 - 44 * j ≤ cc) ∧ PsI w1 wr (z + 1) z last l j) (fun v _ _ _ => slLen v)
  case atStart => exact ⟨0, _, m - 8, c - 8, rfl, Nat.zero_le _, fun _ => rfl, by omega, by omega, HP0.out⟩
  case round =>
    obtain ⟨j, pa, q, cc, rfl, hj, hpa, hq, hcc, hP⟩ := hrel
    rename World => wr
    clear HP0
    by_cases hlt : j < n
    · obtain rfl := hpa hlt
      have hjl : j < l.length := by rw [HL.out.2.2.2]; exact hlt
      obtain ⟨rest, htx⟩ := textB_at (last := last) HL.out.1 hjl
      have hk := HL.out.2.1 l[j] (List.getElem_mem hjl)
      have h40 := HL.out.1 l[j] (List.getElem_mem hjl)
      obtain ⟨L, hM, hLk, hBo⟩ := hP.map
      have hgn : g ∉ [z + 1, z] := by simp; omega
      have hbw : Bs wr (some ⟨g, 0, none⟩) (textB last l) := (HB.out.1.chg HC2.out.1).chgT hP.chg hgn
      have hbtw : Bt wr g := Bt.keep (Bt.keep HB.out.2.1 HC2.out.1 (by simp)) hP.chg hgn
      have hlq : ((textB last l).drop (8 + 44 * j)).length = q := by rw [List.length_drop, HB.out.2.2]; omega
      have hbd : Bs wr (some ⟨g, 8 + 44 * j, none⟩) ((textB last l).drop (8 + 44 * j)) := by
        have := hbw.sub (8 + 44 * j) q
        rwa [Nat.zero_add, List.take_of_length_le (by rw [hlq]; exact Nat.le_refl _)] at this
      obtain ⟨ky, d, hkd⟩ : ∃ ky d, l[j] = (ky, d) := ⟨_, _, rfl⟩
      rw [hkd] at htx hk h40
      obtain ⟨kn, rfl⟩ : ∃ kn : Nat, ky = kn := ⟨ky.toNat, by have : 0 ≤ ky := hk.1; omega⟩
      have hkn : kn < 258 := by have : (kn : Int) < 258 := hk.2; omega
      have hbe : Bs wr (some ⟨g, 8 + 44 * j + 4, none⟩) d := by
        have := hbd.sub 4 40
        rw [htx, cat_drop _ _ (leB_length _ _), cat_take _ _ h40] at this
        exact this
      have HG := Lib.hid (get32_le wr (c := cc) (v := kn) hbd hlq (by omega) (by omega) (by rw [htx]; exact cat_take _ _ (leB_length _ _)) (by omega))
      have r1 : wr.cell? ⟨z + 1, 1, none⟩ = some (.map (some z)) := cell_is hP.st 1 rfl
      have r1d : wr.drew.cell? ⟨z + 1, 1, none⟩ = some (.map (some z)) := r1
      have hMd := hM.keep (Chg.refl [] wr).drew (by simp)
      obtain ⟨hu, hM7, k7⟩ := upd87 hMd kn (.slice (some ⟨g, 8 + 44 * j + 4, none⟩) 40 (cc - 4))
      have hRz : z + 1 ∉ [z] := by simp
      have hw : IntKind.i64.wrap (kn : Int) = (kn : Int) := by rw [IntKind.wrap_i64]; omega
      have hc4 : ¬ cc = 4 := by omega
      have hc44 : ¬ cc = 44 ∨ cc = 44 := by omega
      have hcci : (44 : Int) ≤ cc := by omega
      have hqi : (44 : Int) ≤ q := by omega
      have hq0 : (0 : Int) < q := by omega
      have HE := Lib.hid (And.intro hP (And.intro hbe (And.intro hbtw (And.intro h40 (And.intro hkd (And.intro hLk hBo))))))
      have H7 := Lib.hid (And.intro hM7 k7)
      have hS7 : (updW wr.drew 87 z kn (.slice (some ⟨g, 8 + 44 * j + 4, none⟩) 40 (cc - 4))).cell? ⟨z + 1, 1, none⟩ = some (.map (some z)) := k7.cell r1d hRz
      have Hq := Lib.hid (And.intro hq hcc)
      clear hP hM hLk hBo hbw hbtw hbd hbe hlq htx hk h40 hM7 k7 hMd hq hcc hpa hkd
      go_wp2_with fail
      refine HG.out.mono ?_
      rintro e w4 ⟨rfl, rfl⟩
      go_wp2_with fail
      go_region_held3 (fun wx => wx.cell? ⟨z + 1, 1, none⟩ = some (.map (some z)))
        (first | (exact r1) | (exact r1d) | (exact hS7))
        (fail)
      have hPn : PsI w1 (updW wr.drew 87 z kn (.slice (some ⟨g, 8 + 44 * j + 4, none⟩) 40 (cc - 4))) (z + 1) z last l (j + 1) := by
        obtain ⟨hP, hbe, hbtw, h40, hkd, hLk, hBo⟩ := HE.out
        obtain ⟨hM7, k7⟩ := H7.out
        have kk : Chg [z] wr (updW wr.drew 87 z kn (.slice (some ⟨g, 8 + 44 * j + 4, none⟩) 40 (cc - 4))) := ((Chg.refl [z] wr).drew).then k7
        have hgz : g ∉ [z] := by simp; omega
        have hjl : j < l.length := by rw [HL.out.2.2.2]; exact hlt
        have htk : (l.take (j + 1)).map Prod.fst = (l.take j).map Prod.fst ++ [(kn : Int)] := by
          rw [List.take_succ_eq_append_getElem hjl, List.map_append, hkd]; rfl
        have hnew : (kn : Int) ∉ L.map Prod.fst := by
          rw [hLk]
          intro hm
          have hnd : ((l.take (j + 1)).map Prod.fst).Nodup := (List.Sublist.map _ (List.take_sublist _ _)).nodup HL.out.2.2.1
          rw [htk, List.nodup_append] at hnd
          exact hnd.2.2 _ hm _ (List.mem_singleton.2 rfl) rfl
        refine ⟨hP.chg.then (kk.mono (fun x hx _ => by rw [List.mem_singleton] at hx; simp [hx])), kk.heap hP.st hRz, _, hM7, ?_, ?_⟩
        · rw [putL_new hnew, List.map_append, hLk, htk]; rfl
        · intro k v hv
          rw [getL_put] at hv
          by_cases hke : k = (kn : Int)
          · rw [if_pos hke] at hv
            cases hv
            have hD : putA (fun _ => []) l k = d := by
              have := putA_at (q := fun _ => []) HL.out.2.2.1 j hjl
              rw [hkd] at this
              rw [hke]; exact this
            rw [hD]
            exact ⟨g, _, _, rfl, hbe.chgT kk hgz, h40, Bt.keep hbtw kk hgz⟩
          · rw [if_neg hke] at hv
            obtain ⟨g2, o2, c2, e1, e2, e3, e4⟩ := hBo k v hv
            have hgn : g2 ∉ [z] := by
              obtain ⟨cs, hh⟩ := e4
              rw [List.mem_singleton]
              intro e
              subst e
              obtain ⟨es, ck, hh2, -⟩ := hM7
              have h3 := kk.heap hh
              obtain ⟨L0, hM0, -, -⟩ := hP.map
              exact map_cells hM0 hh rfl
            exact ⟨g2, o2, c2, e1, e2.chgT kk hgn, e3, Bt.keep e4 kk hgn⟩
      have HPn := Lib.hid hPn
      clear hPn H7 HE hS7 hu r1 r1d
      generalize updW wr.drew 87 z kn (.slice (some ⟨g, 8 + 44 * j + 4, none⟩) 40 (cc - 4)) = w7 at *
      rcases hc44 with hc44 | hc44
      · go_wp2_with fail
        go_roundw
        case rel => exact ⟨j + 1, _, q - 44, cc - 44, rfl, by omega, fun _ => by rw [show 8 + 44 * (j + 1) = 8 + 44 * j + 44 by omega], by have := Hq.out; omega, by have := Hq.out; omega, HPn.out⟩
        case measure => simp [slLen]; omega
      · go_wp2_with fail
        go_roundw
        case rel => exact ⟨j + 1, _, q - 44, cc - 44, by rw [hc44], by omega, fun _ => by have := Hq.out; omega, by have := Hq.out; omega, by have := Hq.out; omega, HPn.out⟩
        case measure => simp [slLen]; omega
    · obtain rfl : j = n := by omega
      have hq0 : ¬ (0 : Int) < q := by omega
      have hd0 : decide ((0 : Int) < (q : Int)) = false := decide_eq_false hq0
      have HPf := Lib.hid hP
      clear hP hpa
      go_wp2_with fail
      go_ret2
      obtain ⟨L, hM, hLk, hBo⟩ := HPf.out.map
      rw [List.take_of_length_le (by rw [HL.out.2.2.2]; exact Nat.le_refl _)] at hLk
      exact ⟨z + 1, z, L, rfl, HC2.out.1.trans HPf.out.chg (fun x hx hlt => by simp at hx; omega), HPf.out.st, hM, hLk, hBo, by omega, by omega, by omega⟩
end Go.Proofs.YtnelakpdmjfolaaGreat
namespace Go.Proofs.YtnelakpdmjfolaaGreat
open Go.RowKit Go.Lib

/-- what stands while a store with a text is mounted. -/
structure Qq (w wx : World) (base N A c : Nat) (ops rds : Int) (Z : List Nat) (vs : Nat → Value) (gs : Nat → Nat) (zs : Nat → List (List UInt8)) (P S R r pos num last : Nat) (ps : List (Int × List UInt8)) : Prop where
  chg : Chg (N :: Z) w wx
  dev : DevK wx base N A c ops rds Z vs gs zs
  slot : ∃ inn tv cnt, SlotG wx S N inn tv cnt
  store : ∃ q, StoreM wx P N S q pos num
  state : StateM wx R r last
  map : ∃ L, MapAt wx r L ∧ BufO wx L (putA (fun _ => []) ps) ∧ L.map Prod.fst = ps.map Prod.fst
theorem Qq.keep {w w1 w2 : World} {base N A c : Nat} {ops rds : Int} {Z : List Nat} {vs : Nat → Value} {gs : Nat → Nat} {zs : Nat → List (List UInt8)} {P S R r pos num last : Nat} {ps : List (Int × List UInt8)} (h : Qq w w1 base N A c ops rds Z vs gs zs P S R r pos num last ps) (hc : Chg [] w1 w2) : Qq w w2 base N A c ops rds Z vs gs zs P S R r pos num last ps := by
  obtain ⟨q, hs⟩ := h.store
  obtain ⟨L, h1, h2, h3⟩ := h.map
  exact ⟨h.chg.then (hc.mono (fun x hx _ => by cases hx)), h.dev.keep hc (Av.nil _ _), (by obtain ⟨i, t, c, hs⟩ := h.slot; exact ⟨i, t, c, hc.heap hs (by simp)⟩), ⟨q, hc.heap hs (by simp)⟩, hc.heap h.state (by simp), L, h1.keep hc (by simp), h2.keep hc, h3⟩
theorem Qq.drew {w w1 : World} {base N A c : Nat} {ops rds : Int} {Z : List Nat} {vs : Nat → Value} {gs : Nat → Nat} {zs : Nat → List (List UInt8)} {P S R r pos num last : Nat} {ps : List (Int × List UInt8)} (h : Qq w w1 base N A c ops rds Z vs gs zs P S R r pos num last ps) : Qq w w1.drew base N A c ops rds Z vs gs zs P S R r pos num last ps := h.keep (Chg.refl [] w1).drew
theorem Qq.r0 {w w1 : World} {base N A c : Nat} {ops rds : Int} {Z : List Nat} {vs : Nat → Value} {gs : Nat → Nat} {zs : Nat → List (List UInt8)} {P S R r pos num last : Nat} {ps : List (Int × List UInt8)} (h : Qq w w1 base N A c ops rds Z vs gs zs P S R r pos num last ps) : w1.cell? ⟨R, 0, none⟩ = some (.int .i64 last) := cell_is h.state 0 rfl
theorem Qq.p5 {w w1 : World} {base N A c : Nat} {ops rds : Int} {Z : List Nat} {vs : Nat → Value} {gs : Nat → Nat} {zs : Nat → List (List UInt8)} {P S R r pos num last : Nat} {ps : List (Int × List UInt8)} (h : Qq w w1 base N A c ops rds Z vs gs zs P S R r pos num last ps) : (∃ m, w1.cell? ⟨P, 5, none⟩ = some (.pointer m)) ∧ w1.frozen? ⟨P, 5, none⟩ = false := by
  obtain ⟨q, hs⟩ := h.store
  exact ⟨⟨q, cell_is hs 5 rfl⟩, unfrozen hs 5⟩
theorem Qq.set {w w1 : World} {base N A c : Nat} {ops rds : Int} {Z : List Nat} {vs : Nat → Value} {gs : Nat → Nat} {zs : Nat → List (List UInt8)} {P S R r pos num last : Nat} {ps : List (Int × List UInt8)} (h : Qq w w1 base N A c ops rds Z vs gs zs P S R r pos num last ps) (hP : w.heap.size ≤ P) (q : Option Addr) :
    Qq w (w1.setCell ⟨P, 5, none⟩ (.pointer q)) base N A c ops rds Z vs gs zs P S R r pos num last ps ∧ StoreM (w1.setCell ⟨P, 5, none⟩ (.pointer q)) P N S q pos num := by
  obtain ⟨m, hs⟩ := h.store
  obtain ⟨L, h1, h2, h3⟩ := h.map
  have k := Chg.set w1 P 5 (.pointer q)
  have b2 : StoreM (w1.setCell ⟨P, 5, none⟩ (.pointer q)) P N S q pos num := heap_set hs 5 _ rfl
  refine ⟨⟨h.chg.new_set hP 5 _, h.dev.keep k (Av.row hs (by decide)), (by obtain ⟨i, t, c, hl⟩ := h.slot; exact ⟨i, t, c, k.heap hl (by simpa using heap_ne hl hs (by simp))⟩), ⟨q, b2⟩, k.heap h.state (by simpa using heap_ne h.state hs (by simp)), L, h1.keep k (by simpa using map_cells h1 hs), ?_, h3⟩, b2⟩
  intro j v hv
  obtain ⟨g, oo, cc, e1, e2, e3, e4⟩ := h2 j v hv
  have hn : g ∉ [P] := Bt.av e4 (Av.row hs (ts := [5]) (by decide)) (by simp)
  exact ⟨g, oo, cc, e1, e2.chgT k hn, e3, Bt.keep e4 k hn⟩
/-- a manager of it, that has taken nothing in. -/
structure Nq (w wx : World) (base N A c : Nat) (ops rds : Int) (Z : List Nat) (vs : Nat → Value) (gs : Nat → Nat) (zs : Nat → List (List UInt8)) (P S R r pos num last : Nat) (ps : List (Int × List UInt8)) (M X rx B rb rc lo : Nat) : Prop where
  bq : Qq w wx base N A c ops rds Z vs gs zs P S R r pos num last ps
  store : StoreM wx P N S (some ⟨M, 0, none⟩) pos num
  mgr : MgrG wx M X B rc (.slice none 0 0) 0 0 last last last false
  ver : VerG wx lo X rx 0 [] (fun _ => [])
  book : BookAt wx B rb 0 []
  mp : MapAt wx rc []
theorem Nq.keep {w w1 w2 : World} {base N A c : Nat} {ops rds : Int} {Z : List Nat} {vs : Nat → Value} {gs : Nat → Nat} {zs : Nat → List (List UInt8)} {P S R r pos num last : Nat} {ps : List (Int × List UInt8)} {M X rx B rb rc lo : Nat} (h : Nq w w1 base N A c ops rds Z vs gs zs P S R r pos num last ps M X rx B rb rc lo) (hc : Chg [] w1 w2) : Nq w w2 base N A c ops rds Z vs gs zs P S R r pos num last ps M X rx B rb rc lo :=
  ⟨h.bq.keep hc, hc.heap h.store (by simp), hc.heap h.mgr (by simp), h.ver.keep hc, h.book.keep hc (by simp) (by simp), h.mp.keep hc (by simp)⟩
theorem Nq.drew {w w1 : World} {base N A c : Nat} {ops rds : Int} {Z : List Nat} {vs : Nat → Value} {gs : Nat → Nat} {zs : Nat → List (List UInt8)} {P S R r pos num last : Nat} {ps : List (Int × List UInt8)} {M X rx B rb rc lo : Nat} (h : Nq w w1 base N A c ops rds Z vs gs zs P S R r pos num last ps M X rx B rb rc lo) : Nq w w1.drew base N A c ops rds Z vs gs zs P S R r pos num last ps M X rx B rb rc lo := h.keep (Chg.refl [] w1).drew
theorem Nq.p5 {w w1 : World} {base N A c : Nat} {ops rds : Int} {Z : List Nat} {vs : Nat → Value} {gs : Nat → Nat} {zs : Nat → List (List UInt8)} {P S R r pos num last : Nat} {ps : List (Int × List UInt8)} {M X rx B rb rc lo : Nat} (h : Nq w w1 base N A c ops rds Z vs gs zs P S R r pos num last ps M X rx B rb rc lo) : w1.cell? ⟨P, 5, none⟩ = some (.pointer (some ⟨M, 0, none⟩)) := cell_is h.store 5 rfl
/-- a store that was mounted with a text. -/
structure Mz (w wx : World) (base N A c : Nat) (ops rds : Int) (Z : List Nat) (vs : Nat → Value) (gs : Nat → Nat) (zs : Nat → List (List UInt8)) (P S M X rx B rb r lo pos num k : Nat) (Lv : List (Int × Value)) (l : List (Int × List UInt8)) : Prop where
  chg : Chg (N :: Z) w wx
  dev : DevK wx base N A c ops rds Z vs gs zs
  store : StoreG wx P N S M pos num
  slot : ∃ inn tv cnt, SlotG wx S N inn tv cnt
  mgr : MgrG wx M X B r (.slice none 0 0) 0 0 k k k false
  ver : VerG wx lo X rx k Lv (applyV (fun _ => []) k l)
  ap : ApL Lv
  keys : ∀ p ∈ Lv, 0 ≤ p.1 ∧ p.1 < 258
  book : BookAt wx B rb 0 []
  map : MapAt wx r []
  bnd : w.heap.size ≤ P ∧ w.heap.size ≤ S ∧ w.heap.size ≤ M ∧ w.heap.size ≤ X ∧ w.heap.size ≤ rx ∧ w.heap.size ≤ B ∧ w.heap.size ≤ rb ∧ w.heap.size ≤ r ∧ w.heap.size ≤ lo ∧ lo ≤ wx.heap.size
  ne : rx ≠ rb ∧ r ≠ rb ∧ r ≠ rx
/-- .. behind the taking in of what was there. -/
theorem Nq.mz {w w1 w2 : World} {base N A c : Nat} {ops rds : Int} {Z : List Nat} {vs : Nat → Value} {gs : Nat → Nat} {zs : Nat → List (List UInt8)} {P S R r pos num last : Nat} {ps : List (Int × List UInt8)} {M X rx B rb rc lo : Nat} {Lv : List (Int × Value)} {l : List (Int × List UInt8)} (h : Nq w w1 base N A c ops rds Z vs gs zs P S R r pos num last ps M X rx B rb rc lo) (hv : Cv lo X rx w1 w2) (hV : VerG w2 lo X rx last Lv (applyV (fun _ => []) last l)) (hap : ApL Lv) (hk : ∀ p ∈ Lv, 0 ≤ p.1 ∧ p.1 < 258)
    (hb : w.heap.size ≤ P ∧ w.heap.size ≤ S ∧ w.heap.size ≤ M ∧ w.heap.size ≤ X ∧ w.heap.size ≤ rx ∧ w.heap.size ≤ B ∧ w.heap.size ≤ rb ∧ w.heap.size ≤ rc ∧ w.heap.size ≤ lo ∧ lo ≤ w1.heap.size) (hn : rx ≠ rb ∧ rc ≠ rb ∧ rc ≠ rx) : Mz w w2 base N A c ops rds Z vs gs zs P S M X rx B rb rc lo pos num last Lv l := by
  obtain ⟨T, k, hT⟩ := hv
  have av : ∀ ts, 186 ∉ ts → 196 ∉ ts → Av w1 T ts := fun ts a b => Cv.av hT h.ver.x h.ver.m a b
  refine ⟨h.bq.chg.trans k (fun x hx hlt => ?_), h.bq.dev.keep k (av _ (by decide) (by decide)), k.heap h.store ((av [72] (by decide) (by decide)).ne h.store (by simp)), (by obtain ⟨i, t, c, hl⟩ := h.bq.slot; exact ⟨i, t, c, k.heap hl ((av [113] (by decide) (by decide)).ne hl (by simp))⟩), k.heap h.mgr ((av [136] (by decide) (by decide)).ne h.mgr (by simp)), hV, hap, hk,
    ⟨k.heap h.book.1 ((av [189] (by decide) (by decide)).ne h.book.1 (by simp)), h.book.2.keep k (Cv.map hT h.ver.x h.book.2 hn.1.symm)⟩, h.mp.keep k (Cv.map hT h.ver.x h.mp hn.2.2), ⟨hb.1, hb.2.1, hb.2.2.1, hb.2.2.2.1, hb.2.2.2.2.1, hb.2.2.2.2.2.1, hb.2.2.2.2.2.2.1, hb.2.2.2.2.2.2.2.1, hb.2.2.2.2.2.2.2.2.1, Nat.le_trans hb.2.2.2.2.2.2.2.2.2 k.size⟩, hn⟩
  have := h.bq.chg.size
  rcases hT x hx (by omega) with e | e | ⟨e, -⟩ <;> omega
theorem rise_nodup {ps : List (Int × List UInt8)} (h : Rise ps) : (ps.map Prod.fst).Pairwise (fun a b => a < b) := by
  have key : ∀ (n i j : Nat), j - i = n → ∀ (_h1 : i < j) (hj : j < ps.length), (ps[i]'(by omega)).1 < ps[j].1 := by
    intro n
    induction n with
    | zero => intro i j e h1; omega
    | succ n ih =>
      intro i j e h1 hj
      by_cases h2 : i + 1 = j
      · subst h2; exact h i hj
      · have h3 := h i (by omega)
        have h4 := ih (i + 1) j (by omega) (by omega) hj
        omega
  rw [List.pairwise_map, List.pairwise_iff_getElem]
  intro i j hi hj hlt
  exact key _ i j rfl hlt hj
theorem sortI_rise {K : List Int} (h : K.Pairwise (fun a b => a < b)) : sortI K = K :=
  List.mergeSort_of_pairwise (h.imp (fun h => by simp; omega))
theorem putsL_same {L : List (Int × Value)} {ps : List (Int × List UInt8)} {q : Int → List UInt8} (h : L.map Prod.fst = ps.map Prod.fst) (hr : Rise ps) : putsL L (putA q ps) = ps := by
  have hp := rise_nodup hr
  have hn : (ps.map Prod.fst).Nodup := hp.imp (fun h => by omega)
  rw [putsL, h, sortI_rise hp, List.map_map]
  apply List.ext_getElem
  · simp
  · intro i h1 h2
    have := putA_at (q := q) hn i h2
    simp [this]
theorem Qq.puts {w w1 : World} {base N A c : Nat} {ops rds : Int} {Z : List Nat} {vs : Nat → Value} {gs : Nat → Nat} {zs : Nat → List (List UInt8)} {P S R r pos num last : Nat} {ps : List (Int × List UInt8)} (h : Qq w w1 base N A c ops rds Z vs gs zs P S R r pos num last ps) (hin : ∀ x ∈ ps, 0 ≤ x.1 ∧ x.1 < 258) (hrs : Rise ps) (hl : ps.length ≤ 258) :
    Calls Tryz.prog 35 #[.pointer (some ⟨R, 0, none⟩)] w1 fun e w' => ∃ pb cb, e = .returned (.slice pb ps.length cb) ∧ Chg [] w1 w' ∧ PutsO w' w1.heap.size (.slice pb ps.length cb) ps := by
  obtain ⟨L, hm, hD, hK⟩ := h.map
  have hlen : L.length = ps.length := by have := congrArg List.length hK; simpa using this
  refine (sputs_oko w1 h.state hm hD (fun x hx => ?_) (by omega)).mono ?_
  · have : x.1 ∈ ps.map Prod.fst := by rw [← hK]; exact List.mem_map_of_mem hx
    obtain ⟨p, hp, e⟩ := List.mem_map.1 this
    rw [← e]; exact hin p hp
  · rintro e w' ⟨v, rfl, k, hp⟩
    rw [putsL_same hK hrs] at hp
    obtain ⟨xs, ho, -⟩ := id hp
    obtain ⟨pb, cb, rfl, -⟩ := own_form ho
    exact ⟨pb, cb, rfl, k, hp⟩
theorem Nq.load {w w1 : World} {base N A c : Nat} {ops rds : Int} {Z : List Nat} {vs : Nat → Value} {gs : Nat → Nat} {zs : Nat → List (List UInt8)} {P S R r pos num last : Nat} {ps : List (Int × List UInt8)} {M X rx B rb rc lo lp cb : Nat} {pb : Option Addr} (h : Nq w w1 base N A c ops rds Z vs gs zs P S R r pos num last ps M X rx B rb rc lo) (hin : ∀ x ∈ ps, 0 ≤ x.1 ∧ x.1 < 258) (hrs : Rise ps) (hl0 : 0 < ps.length) (hl : ps.length ≤ 258)
    (hp : PutsO w1 lp (.slice pb ps.length cb) ps) (hlast : 0 < last ∧ last ≤ 1099511627776)
    (hb : w.heap.size ≤ P ∧ w.heap.size ≤ S ∧ w.heap.size ≤ M ∧ w.heap.size ≤ X ∧ w.heap.size ≤ rx ∧ w.heap.size ≤ B ∧ w.heap.size ≤ rb ∧ w.heap.size ≤ rc) (hlo : lo = w.heap.size) (hn : rx ≠ rb ∧ rc ≠ rb ∧ rc ≠ rx) :
    Calls Tryz.prog 34 #[.pointer (some ⟨M, 0, none⟩), .slice pb ps.length cb] w1 fun e w' => e = .returned (.int .i64 0) ∧ ∃ Lv, Mz w w' base N A c ops rds Z vs gs zs P S M X rx B rb rc lo pos num last Lv ps := by
  have hsz := h.bq.chg.size
  refine (tload_wideo w1 h.mgr h.mp h.ver (fun b c v u g _ h => (by cases h)) (fun p hp => (by cases hp)) (by omega) hp (hin) hrs hl0 hl (by omega) (by omega) (by omega) (fun c => by simp)).mono ?_
  rintro e w' ⟨rfl, hcv, Lv, h1, h2, h3⟩
  exact ⟨rfl, Lv, h.mz hcv h1 h2 h3 ⟨hb.1, hb.2.1, hb.2.2.1, hb.2.2.2.1, hb.2.2.2.2.1, hb.2.2.2.2.2.1, hb.2.2.2.2.2.2.1, hb.2.2.2.2.2.2.2, by omega, by omega⟩ hn⟩
end Go.Proofs.YtnelakpdmjfolaaGreat
namespace Go.Proofs.YtnelakpdmjfolaaGreat
open Go.RowKit Go.Lib

set_option maxRecDepth 100000 in
set_option maxHeartbeats 1000000 in
theorem klog0 (w : World) {base P N S A c : Nat} {m : Option Addr} {ops rds : Int} {Z : List Nat} {vs : Nat → Value} {gs : Nat → Nat} {zs : Nat → List (List UInt8)} (h : StoreAt w P N S m) (hD : DevK w base N A c ops rds Z vs gs zs) (he : zs 6 = [] ∧ zs 7 = []) : Calls Tryz.prog 28 #[.pointer (some ⟨P, 0, none⟩)] w fun e w' => e = .returned (.tuple #[.slice none 0 0, .slice none 0 0]) ∧ Chg [] w w' := by
  obtain ⟨c0, -⟩ := store_cells h
  have hfs := field_size
  go_enter Tryz.func28, Tryz.ntmps28
  go_wp2_with fail
  refine (kgeometry w hD).mono ?_
  rintro e w1 ⟨rfl, hc1⟩
  have hD1 := hD.keep hc1 (Av.nil _ _)
  have hS1 := h.keep hc1 (by simp)
  clear c0
  obtain ⟨c0, -, -, c3, c4, -⟩ := store_cells hS1
  have h6 := kpointer w1 hD1 6 (by have := hD.len; omega)
  rw [he.1] at h6
  replace h6 := Lib.hid h6
  have h7 := kpointer w1 hD1 7 (by have := hD.len; omega)
  rw [he.2] at h7
  replace h7 := Lib.hid h7
  clear hS1 h hD hD1
  go_wp2_with fail
  go_loop [2, 3, 5, 6] (fun a b g z => a = .slice none 0 0 ∧ b = .slice none 0 0 ∧ (∃ x, g = .bool x) ∧ (z = .int .i64 6 ∨ z = .int .i64 7 ∨ z = .int .i64 8)) (fun _ _ _ z => 8 - (intOf z).toNat)
  case atStart => exact ⟨rfl, rfl, ⟨_, rfl⟩, Or.inl rfl⟩
  case round =>
    obtain ⟨rfl, rfl, ⟨x, rfl⟩, rfl | rfl | rfl⟩ := hrel
    · go_wp2_with fail
      go_step3
      go_wp2_with fail
      refine h6.out.mono ?_
      rintro e w2 ⟨rfl, rfl⟩
      go_wp2_with fail
      go_step3
      go_wp2_with fail
      go_loop [2, 3, 42] (fun a b k => a = .slice none 0 0 ∧ b = .slice none 0 0 ∧ k = .int .i64 0) (fun _ _ _ => 0)
      case atStart => exact ⟨rfl, rfl, rfl⟩
      case round =>
        obtain ⟨rfl, rfl, rfl⟩ := hrel
        cases x
        all_goals
          go_wp2_with fail
          exact ⟨⟨rfl, rfl, ⟨_, rfl⟩, by simp⟩, by decide⟩
    · go_wp2_with fail
      go_step3
      go_wp2_with fail
      refine h7.out.mono ?_
      rintro e w2 ⟨rfl, rfl⟩
      go_wp2_with fail
      go_step3
      go_wp2_with fail
      go_loop [2, 3, 42] (fun a b k => a = .slice none 0 0 ∧ b = .slice none 0 0 ∧ k = .int .i64 0) (fun _ _ _ => 0)
      case atStart => exact ⟨rfl, rfl, rfl⟩
      case round =>
        obtain ⟨rfl, rfl, rfl⟩ := hrel
        cases x
        all_goals
          go_wp2_with fail
          exact ⟨⟨rfl, rfl, ⟨_, rfl⟩, by simp⟩, by decide⟩
    · go_wp2_with fail
      go_ret2
      exact ⟨rfl, hc1⟩
set_option maxRecDepth 100000 in
set_option maxHeartbeats 1000000 in
theorem replay_c (w : World) {P N S R cnt : Nat} {inn : Int} {tv : Value} {l : List UInt8} {m : Option Addr} (h : StoreAt w P N S m) (hS : SlotG w S N inn tv cnt) (ht : TextIs w tv l) : Calls Tryz.prog 31 #[.pointer (some ⟨P, 0, none⟩), .pointer (some ⟨R, 0, none⟩), .slice none 0 0] w fun e w' => e = .returned (.bool false) ∧ Chg [] w w' := by
  obtain ⟨-, -, -, -, -, -, c6, -⟩ := store_cells h
  go_enter Tryz.func31, Tryz.ntmps31
  go_wp2_with fail
  go_step3
  go_wp2_with fail
  refine (load_is w hS ht).mono ?_
  rintro e w1 ⟨u1, rfl, hc1, -⟩
  have h1 := h.keep hc1 (by simp)
  clear c6
  obtain ⟨-, -, -, -, -, -, -, c7, -⟩ := store_cells h1
  clear h1 h hS
  go_wp2_with fail
  go_step3
  go_wp2_with fail
  go_loop [6] (fun a => a = .bool false) (fun _ => 0)
  case atStart => rfl
  case round =>
    subst hrel
    go_wp2_with fail
    go_ret
    exact ⟨rfl, hc1⟩
/-- what a mount of a text hands back. -/
def MountZ (w : World) (base N A c : Nat) (ops _rds : Int) (Z : List Nat) (vs : Nat → Value) (gs : Nat → Nat) (zs : Nat → List (List UInt8)) (last : Nat) (ps : List (Int × List UInt8)) (e : Ending) (w' : World) : Prop :=
  ∃ P S M X rx B rb r lo Lv rds', e = .returned (.tuple #[.pointer (some ⟨P, 0, none⟩), .int .i64 0]) ∧ Mz w w' base N A c (ops + 1) rds' Z vs (goodF gs zs 8) zs P S M X rx B rb r lo 0 0 last Lv ps
theorem Best.is {w : World} {n : Nat → Nat} {l : Nat → List UInt8} {inn : Int} {tv : Value} {cnt i : Nat} (h : Best w n l 2 inn tv cnt) (hi : i < 2) (h1 : 1 ≤ n i) (h2 : ∀ j, j < 2 → j ≠ i → n j < n i) : TextIs w tv (l i) := by
  obtain ⟨k1, k2 | ⟨j, k2, -, k3, -, k4⟩⟩ := h
  · have := k1 i hi; omega
  · by_cases e : j = i
    · rw [← e]; exact k4
    · have := h2 j k2 e
      have := k1 i hi
      omega
set_option maxRecDepth 100000 in
set_option maxHeartbeats 8000000 in
theorem kmount_c (w : World) {base N A c last i : Nat} {ops rds : Int} {Z : List Nat} {vs : Nat → Value} {gs : Nat → Nat} {zs : Nat → List (List UInt8)} {F : Nat → List (List UInt8)} {n : Nat → Nat} {l : Nat → List UInt8} {ps : List (Int × List UInt8)} (hD : DevK w base N A c ops rds Z vs gs zs) (hz : ∀ i, i < 2 → Zn zs (3 * i) (F i)) (hF : ∀ i, i < 2 → SlC (F i) (n i) (l i)) (he : zs 6 = [] ∧ zs 7 = []) (hi : i < 2) (hn1 : 1 ≤ n i) (hn2 : ∀ j, j < 2 → j ≠ i → n j < n i) (hli : l i = textB last ps)
    (h40 : ∀ p ∈ ps, p.2.length = 40) (hrs : Rise ps) (hf0 : 0 < ps.length) (hf1 : ps.length ≤ 258) (hlt : ∀ z ∈ Z, z < w.heap.size) (hNA : N < w.heap.size) (h0 : 0 ≤ ops) (h1 : ops ≤ 1000000) (hr0 : 0 ≤ rds) (hr1 : rds ≤ 900000) (hlast : 0 < last ∧ last ≤ 1099511627776) (hin : ∀ x ∈ ps, 0 ≤ x.1 ∧ x.1 < 258) :
    Calls Tryz.prog 8 #[.pointer (some ⟨N, 0, none⟩)] w (MountZ w base N A c ops rds Z vs gs zs last ps) := by
  go_enter Tryz.func8, Tryz.ntmps8
  go_wp2_with fail
  refine (kgeometry w hD).mono ?_
  rintro e w1 ⟨rfl, hc1⟩
  go_wp2_with fail
  refine (split_min w1).mono ?_
  rintro e w2 ⟨rfl, hc2⟩
  have hc := hc1.then hc2
  have hsz := hc.size
  clear hc1 hc2
  go_wp2_with fail
  obtain ⟨-, g1⟩ := two_new w2 (.cells #[.int .i64 0, .int .i64 3, .int .i64 6, .int .i64 7] 66) (.cells #[.pointer (some ⟨N, 0, none⟩), .int .i64 0, .int .i64 3, .int .i64 6, .int .i64 7, .pointer none, .pointer none, .int .i64 0, .int .i64 0, .bool false] 72)
  have hc3 := hc.then (chg_two w2 (.cells #[.int .i64 0, .int .i64 3, .int .i64 6, .int .i64 7] 66) (.cells #[.pointer (some ⟨N, 0, none⟩), .int .i64 0, .int .i64 3, .int .i64 6, .int .i64 7, .pointer none, .pointer none, .int .i64 0, .int .i64 0, .bool false] 72))
  generalize (w2.alloc (.cells #[.int .i64 0, .int .i64 3, .int .i64 6, .int .i64 7] 66)).alloc (.cells #[.pointer (some ⟨N, 0, none⟩), .int .i64 0, .int .i64 3, .int .i64 6, .int .i64 7, .pointer none, .pointer none, .int .i64 0, .int .i64 0, .bool false] 72) = w3 at *
  have hPl : w.heap.size ≤ w2.heap.size + 1 := by omega
  generalize w2.heap.size + 1 = P at *
  generalize w2.heap.size = q at *
  have hPZ : P ∉ N :: Z := by
    intro hm
    rcases List.mem_cons.1 hm with hm | hm
    · omega
    · have := hlt _ hm; omega
  have hD3 := hD.keep hc3 (Av.nil _ _)
  have hlt3 : ∀ z ∈ Z, z < w3.heap.size := fun z hz => Nat.lt_of_lt_of_le (hlt z hz) hc3.size
  refine (kopen_c w3 hD3 hz hF hlt3 h0 h1 hr0 hr1).mono ?_
  rintro e w4 ⟨S, rds4, inn, tv, cnt, rfl, hrd4, hc4, hD4, hS4, hB4, l4⟩
  have ht4 := hB4.is hi hn1 hn2
  rw [hli] at ht4
  have g4 := hc4.heap g1 hPZ
  have hPs : w.heap.size ≤ S := Nat.le_trans hc3.size l4
  have hc5 : Chg (N :: Z) w w4 := (hc3.mono (T := N :: Z) (fun x hx _ => by cases hx)).then hc4
  have hSP : S ≠ P := by have := heap_lt g1; omega
  have c6 := cell_is g4 6 rfl
  have f6 := unfrozen g4 6
  have g5 : StoreAt (w4.setCell ⟨P, 6, none⟩ (.pointer (some ⟨S, 0, none⟩))) P N S none := heap_set g4 6 _ rfl
  have hc6 : Chg (N :: Z) w (w4.setCell ⟨P, 6, none⟩ (.pointer (some ⟨S, 0, none⟩))) := hc5.new_set hPl 6 _
  have ht6 := ht4.keep (Chg.set w4 P 6 (.pointer (some ⟨S, 0, none⟩))) (Av.row g4 (by decide))
  have hS6 : SlotG (w4.setCell ⟨P, 6, none⟩ (.pointer (some ⟨S, 0, none⟩))) S N inn tv cnt := heap_set_ne hS4 hSP 6 _
  have hD6 := hD4.keep (Chg.set w4 P 6 (.pointer (some ⟨S, 0, none⟩))) (Av.row g4 (by decide))
  clear g4 hS4 hD4 hc5 hc4 hc3 g1 hD hD3 hlt3 hB4 ht4
  clear hc
  go_wp2_with fail
  generalize w4.setCell ⟨P, 6, none⟩ (.pointer (some ⟨S, 0, none⟩)) = w5 at *
  refine (load_is w5 hS6 ht6).mono ?_
  rintro e w6 ⟨u6, rfl, k6, hu6⟩
  have g6 := g5.keep k6 (by simp)
  have S6 : SlotG w6 S N inn tv cnt := k6.heap hS6 (by simp)
  have T6 := ht6.keep k6 (Av.nil _ _)
  obtain ⟨gu, cu, rfl, bu, btu, lu0, lu1, lcu⟩ := hu6
  obtain ⟨mu, hmu⟩ : ∃ mu, (textB last ps).length = mu := ⟨_, rfl⟩
  have HPs := parse_ok w6 (c := cu) (n := ps.length) bu btu hmu (by omega) h40 hin ((rise_nodup hrs).imp (fun h => by omega)) rfl hf0 hf1 hlast.2
  have HPs := Lib.hid HPs
  rw [hmu]
  clear bu btu lu0 lu1 lcu
  have D6 := hD6.keep k6 (Av.nil _ _)
  have hc7 : Chg (N :: Z) w w6 := hc6.then (k6.mono (fun x hx _ => by cases hx))
  clear hc6 hS6 g5 hD6 k6 ht6
  go_wp2_with fail
  refine HPs.out.mono ?_
  rintro e w7 ⟨R, r, L7, rfl, k6, hR, hM7, hK7, hB7, l5, l6, nRr⟩
  have hs6 := hc7.size
  have g7 := g6.keep k6 (by simp)
  have S7 : SlotG w7 S N inn tv cnt := k6.heap S6 (by simp)
  have T7 := T6.keep k6 (Av.nil _ _)
  have D7 := D6.keep k6 (Av.nil _ _)
  have hc8 : Chg (N :: Z) w w7 := hc7.then (k6.mono (fun x hx _ => by cases hx))
  have hPw : P < w7.heap.size := heap_lt g7
  clear hc7 S6 g6 D6 k6 T6 HPs
  go_wp2_with fail
  refine (klog0 w7 g7 D7 he).mono ?_
  rintro e w8 ⟨rfl, k6⟩
  have hR8 : StateM w8 R r last := k6.heap hR (by simp)
  have hM8 := hM7.keep k6 (by simp)
  have hB8 : BufO w8 L7 (putA (fun _ => []) ps) := hB7.keep k6
  have g8 := g7.keep k6 (by simp)
  have S8 : SlotG w8 S N inn tv cnt := k6.heap S7 (by simp)
  have T8 := T7.keep k6 (Av.nil _ _)
  have D8 := D7.keep k6 (Av.nil _ _)
  have hc9 : Chg (N :: Z) w w8 := hc8.then (k6.mono (fun x hx _ => by cases hx))
  clear hc8 S7 g7 D7 k6 hR T7 hM7 hB7
  go_wp2_with fail
  refine (contf_nil _ w8).mono ?_
  rintro e w9 ⟨rfl, rfl⟩
  go_wp2_with fail
  refine (contf_nil _ w8).mono ?_
  rintro e w9 ⟨rfl, rfl⟩
  go_wp2_with fail
  refine (replay_c w8 g8 S8 T8).mono ?_
  rintro e w9 ⟨rfl, k9⟩
  have hBq : Qq w w9 base N A c (ops + 1) rds4 Z vs (goodF gs zs 8) zs P S R r 0 0 last ps := ⟨hc9.then (k9.mono (fun x hx _ => by cases hx)), D8.keep k9 (Av.nil _ _), ⟨_, _, _, k9.heap S8 (by simp)⟩, ⟨none, k9.heap g8 (by simp)⟩, k9.heap hR8 (by simp), L7, hM8.keep k9 (by simp), hB8.keep k9, hK7⟩
  clear S8 D8 hc9 g8 hR8 T8 hM8 hB8 k9
  go_wp2_with fail
  go_region_held3 (fun wx => Qq w wx base N A c (ops + 1) rds4 Z vs (goodF gs zs 8) zs P S R r 0 0 last ps ∧ wx.cell? ⟨R, 0, none⟩ = some (.int .i64 last))
    (first
      | (exact ⟨hBq, hBq.r0⟩)
      | (exact ⟨hBq.drew, hBq.drew.r0⟩)
      | (exact ⟨(hBq.set hPl _).1, (hBq.set hPl _).1.r0⟩))
    (first
      | (go_at_call 24; (first | refine (kgeometry _ hBq.drew.dev).mono ?_ | refine (kgeometry _ hBq.dev).mono ?_); rintro e wb ⟨rfl, k1⟩; (first | replace hBq := hBq.keep k1 | replace hBq := hBq.drew.keep k1))
      | (go_at_call 33; refine (cap_min _).mono ?_; rintro e wb ⟨rfl, k2⟩; (first | replace hBq := hBq.keep k2 | replace hBq := hBq.drew.keep k2))
      | (go_at_call 32; refine (tnew_at _ (by omega) (by omega)).mono ?_; rintro e wb ⟨M, X, rx, B, rb, rc, rfl, k3, hM, hX, hBk, hrc, l10, l11, l12, l13, l14, l15, n1, n2, n3⟩; have hsz3 := hBq.chg.size; (first | replace hBq := hBq.keep k3 | replace hBq := hBq.drew.keep k3); obtain ⟨⟨m5, p5⟩, f5⟩ := hBq.p5))
  have hB2 := hBq.set hPl (some ⟨M, 0, none⟩)
  obtain ⟨q5, hst5⟩ := hBq.store
  have kS := Chg.set wb P 5 (.pointer (some ⟨M, 0, none⟩))
  have hMq : Nq w (wb.setCell ⟨P, 5, none⟩ (.pointer (some ⟨M, 0, none⟩))) base N A c (ops + 1) rds4 Z vs (goodF gs zs 8) zs P S R r 0 0 last ps M X rx B rb rc w.heap.size :=
    ⟨hB2.1, hB2.2, kS.heap hM (by simpa using heap_ne hM hst5 (by simp)), (hX.full _).keepA kS (Av.row hst5 (by decide)) (by simpa using map_cells hX.2 hst5), ⟨kS.heap hBk.1 (by simpa using heap_ne hBk.1 hst5 (by simp)), hBk.2.keep kS (by simpa using map_cells hBk.2 hst5)⟩, hrc.keep kS (by simpa using map_cells hrc hst5)⟩
  have hb8 : w.heap.size ≤ P ∧ w.heap.size ≤ S ∧ w.heap.size ≤ M ∧ w.heap.size ≤ X ∧ w.heap.size ≤ rx ∧ w.heap.size ≤ B ∧ w.heap.size ≤ rb ∧ w.heap.size ≤ rc := ⟨hPl, hPs, by omega, by omega, by omega, by omega, by omega, by omega⟩
  clear hB2 kS hM hX hBk hrc hBq k1 k2 k3 f5 p5 hst5
  generalize wb.setCell ⟨P, 5, none⟩ (.pointer (some ⟨M, 0, none⟩)) = v1 at *
  go_wp2_with fail
  have hpd : ∀ wx : World, wx.cell? ⟨P, 5, none⟩ = some (.pointer (some ⟨M, 0, none⟩)) → wx.drew.cell? ⟨P, 5, none⟩ = some (.pointer (some ⟨M, 0, none⟩)) := fun wx h => h
  go_region_held3 (fun wx => wx.cell? ⟨P, 5, none⟩ = some (.pointer (some ⟨M, 0, none⟩)))
    (first
      | (exact hMq.p5)
      | (exact hMq.drew.p5)
      | (exact cell_is hMo.store 5 rfl)
      | (exact hpd _ (cell_is hMo.store 5 rfl)))
    (first
      | (go_at_call 35; (first | refine (hMq.drew.bq.puts hin hrs hf1).mono ?_ | refine (hMq.bq.puts hin hrs hf1).mono ?_); rintro e v2 ⟨pb, cb, rfl, k1, hpv⟩; (first | replace hMq := hMq.drew.keep k1 | replace hMq := hMq.keep k1))
      | (go_at_call 34; refine (hMq.load hin hrs hf0 hf1 hpv hlast hb8 rfl ⟨n1, n2, n3⟩).mono ?_; rintro e v3 ⟨rfl, Lv, hMo⟩))
  have HMo := Lib.hid hMo
  clear hMo
  go_wp2_with fail
  go_ret2
  exact ⟨P, S, M, X, rx, B, rb, rc, _, Lv, rds4, rfl, HMo.out⟩
end Go.Proofs.YtnelakpdmjfolaaGreat
namespace Go.Proofs.YtnelakpdmjfolaaGreat
open Go.RowKit Go.Lib

/-- what lies in the two slots: texts of counts that are not above the last one. -/
def SlI (g : Gd) : Prop := ∃ (F : Nat → List (List UInt8)) (n : Nat → Nat) (l : Nat → List UInt8), ∀ i, i < 2 → Zn g.zs (3 * i) (F i) ∧ SlC (F i) (n i) (l i) ∧ n i ≤ g.cnt
theorem SlI.new (lw : Nat) (ops : Int) : SlI (g00 lw ops) := ⟨fun _ => [], fun _ => 0, fun _ => [], fun i hi => ⟨fun q hq => by simp [g00], Or.inl ⟨rfl, rfl⟩, Nat.zero_le _⟩⟩
theorem logZ_low {zs : Nat → List (List UInt8)} {pos : Nat} {bl : List (List UInt8)} : ∀ (j z : Nat), z < 6 → logZ zs pos bl j z = zs z
  | 0, z, hz => rfl
  | j + 1, z, hz => by
    rcases hb : bl[j]? with _ | p
    · simp only [logZ, hb]
      exact logZ_low j z hz
    · simp only [logZ, hb]
      rw [upF, if_neg (by omega)]
      exact logZ_low j z hz
theorem SlI.done {g : Gd} {dv : Nat → Value} {k : Nat} {l : List (Int × List UInt8)} (h : SlI g) : SlI (doneT g dv k l) := by
  obtain ⟨F, n, x, h⟩ := h
  exact ⟨F, n, x, fun i hi => ⟨fun q hq => (logZ_low _ _ (by omega)).trans ((h i hi).1 q hq), (h i hi).2⟩⟩
/-- the newest slot holds tx, the log is empty, all is good. -/
def SlF (g : Gd) (tx : List UInt8) : Prop := (g.zs 6 = [] ∧ g.zs 7 = []) ∧ g.gs = lenF g.zs ∧ ∃ (F : Nat → List (List UInt8)) (n : Nat → Nat) (l : Nat → List UInt8) (i : Nat), (∀ i, i < 2 → Zn g.zs (3 * i) (F i) ∧ SlC (F i) (n i) (l i) ∧ n i ≤ g.cnt) ∧ i < 2 ∧ 1 ≤ n i ∧ (∀ j, j < 2 → j ≠ i → n j < n i) ∧ l i = tx
theorem SlF.is {g : Gd} {tx : List UInt8} (h : SlF g tx) : SlI g := by
  obtain ⟨-, -, F, n, l, i, h, -⟩ := h
  exact ⟨F, n, l, h⟩
theorem SlF.len {g : Gd} {tx : List UInt8} (h : SlF g tx) : ∀ z, z < 8 → (g.zs z).length ≤ 96 := fun z hz => by
  obtain ⟨⟨e6, e7⟩, -, F, n, l, i, h, -⟩ := h
  by_cases h6 : z < 6
  · have h1 := (h (z / 3) (by omega)).1 (z % 3) (Nat.mod_lt _ (by decide))
    rw [show 3 * (z / 3) + z % 3 = z by omega] at h1
    rw [h1]
    simp
    omega
  · rcases (by omega : z = 6 ∨ z = 7) with rfl | rfl
    · simp [e6]
    · simp [e7]
theorem SlI.check {g : Gd} {inn i a : Nat} {tv : Value} {ops : Int} {dv : Nat → Value} {tx : List UInt8} (h : SlI g) (hi : (inn = 1 ∧ i = 0 ∧ a = 0) ∨ (inn = 0 ∧ i = 1 ∧ a = 3)) (h0 : 0 < tx.length) (h1 : tx.length ≤ 11360) (hc : g.cnt < 1099511627776) :
    SlF (ckG g i tv ops dv (clrF (putF g.zs a (encS (g.cnt + 1) tx) (encS (g.cnt + 1) tx).length) 6 8)) tx := by
  obtain ⟨F, n, l, h⟩ := h
  obtain ⟨hi2, rfl⟩ : i < 2 ∧ a = 3 * i := by omega
  refine ⟨⟨rfl, rfl⟩, rfl, upF F i (encS (g.cnt + 1) tx), upF n i (g.cnt + 1), upF l i tx, i, fun k hk => ?_, hi2, ?_, fun k hk hki => ?_, upF_same _ _ _⟩
  · by_cases e : k = i
    · subst e
      rw [upF_same, upF_same, upF_same]
      refine ⟨fun q hq => ?_, Or.inr ⟨rfl, by omega, by omega, h0, h1⟩, Nat.le_refl _⟩
      show clrF (putF g.zs (3 * k) _ _) 6 8 (3 * k + q) = _
      rw [clrF, if_neg (by omega), putF, if_pos (by omega), List.take_length, Nat.add_sub_cancel_left]
    · have u1 : upF F i (encS (g.cnt + 1) tx) k = F k := if_neg e
      have u2 : upF n i (g.cnt + 1) k = n k := if_neg e
      have u3 : upF l i tx k = l k := if_neg e
      rw [u1, u2, u3]
      refine ⟨fun q hq => ?_, (h k hk).2.1, Nat.le_succ_of_le (h k hk).2.2⟩
      show clrF (putF g.zs (3 * i) _ _) 6 8 (3 * k + q) = _
      rw [clrF, if_neg (by omega), putF, if_neg (by omega)]
      exact (h k hk).1 q hq
  · rw [upF_same]
    omega
  · have u2 : upF n i (g.cnt + 1) k = n k := if_neg hki
    rw [u2, upF_same]
    have := (h k hk).2.2
    omega
theorem datB_ne (i : Nat) : datB i ≠ zeroB := by
  intro h
  have e0 : (datB i)[0]? = zeroB[0]? := by rw [h]
  have e1 : (datB i)[1]? = zeroB[1]? := by rw [h]
  rw [List.getElem?_eq_getElem (by rw [datB_length]; decide), datB_at] at e0 e1
  have z0 : zeroB[0]? = some 0 := rfl
  have z1 : zeroB[1]? = some 0 := rfl
  rw [z0] at e0
  rw [z1] at e1
  have f0 := congrArg UInt8.toNat (Option.some.inj e0)
  have f1 := congrArg UInt8.toNat (Option.some.inj e1)
  simp at f0 f1
  omega
theorem bytT_lastB {l : List (Int × List UInt8)} {t : Int} (hne : l ≠ []) (h : ∀ x ∈ l, x.1 ≤ t) : bytT l t = lastB l := by
  rcases List.eq_nil_or_concat l with rfl | ⟨i, x, rfl⟩
  · exact absurd rfl hne
  · obtain ⟨k, d⟩ := x
    rw [List.concat_eq_append, bytT_last _ _ (h (k, d) (by simp))]
    simp [lastB]
/-- all blocks with their bytes. -/
def allL (D : Nat → List UInt8) : List (Int × List UInt8) := (List.range 258).map fun b : Nat => ((b : Int), D b)
theorem allL_length (D : Nat → List UInt8) : (allL D).length = 258 := by simp [allL]
theorem allL_at (D : Nat → List UInt8) (i : Nat) (h : i < (allL D).length) : (allL D)[i] = ((i : Int), D i) := by simp [allL]
theorem allL_rise (D : Nat → List UInt8) : Rise (allL D) := fun i h => by
  rw [allL_at, allL_at]
  show (i : Int) < ((i + 1 : Nat) : Int)
  omega
theorem allL_mem {D : Nat → List UInt8} {b : Nat} (h : b < 258) : ((b : Int), D b) ∈ allL D := List.mem_map.2 ⟨b, List.mem_range.2 h, rfl⟩
theorem allL_in {D : Nat → List UInt8} : ∀ p ∈ allL D, ∃ b : Nat, b < 258 ∧ p = ((b : Int), D b) := fun p hp => by
  obtain ⟨b, hb, rfl⟩ := List.mem_map.1 hp
  exact ⟨b, List.mem_range.1 hb, rfl⟩
theorem dump_all {w : World} {lo X rx : Nat} {last : Int} {L : List (Int × Value)} {vs : Int → List (Int × List UInt8)} {D : Nat → List UInt8} (h : VerG w lo X rx last L vs) (hk : ∀ x ∈ L, 0 ≤ x.1 ∧ x.1 < 258) (hne : ∀ b : Nat, b < 258 → vs b ≠ [] ∧ lastB (vs b) = D b) : dumpL L vs = allL D := by
  have hR : sortI (L.map Prod.fst) = (List.range 258).map fun b : Nat => (b : Int) := by
    have hrp : ((List.range 258).map fun b : Nat => (b : Int)).Pairwise (fun a b => a < b) := by
      rw [List.pairwise_map]
      exact List.pairwise_lt_range.imp (fun h => by omega)
    refine List.Perm.eq_of_pairwise (le := fun a b : Int => a ≤ b) (fun a b _ _ h1 h2 => by omega) (sortI_pairwise _) (hrp.imp (fun h => by omega)) ?_
    refine (sortI_perm _).trans ((List.perm_ext_iff_of_nodup h.m.nodup (hrp.imp (fun h => by omega))).2 (fun a => ⟨fun ha => ?_, fun ha => ?_⟩))
    · obtain ⟨p, hp, rfl⟩ := List.mem_map.1 ha
      have := hk p hp
      exact List.mem_map.2 ⟨p.1.toNat, List.mem_range.2 (by omega), by omega⟩
    · obtain ⟨b, hb, rfl⟩ := List.mem_map.1 ha
      have hb2 := List.mem_range.1 hb
      rcases h.row b (by omega) (by omega) with ⟨-, e⟩ | ⟨v, e, -⟩
      · exact absurd e (hne b hb2).1
      · exact getL_mem e
  unfold dumpL allL
  rw [hR, List.map_map]
  refine List.map_congr_left (fun b hb => ?_)
  simp only [Function.comp]
  rw [(hne b (List.mem_range.1 hb)).2]
theorem dump_full {w : World} {j : Nat} {d : Ids} {s : Gs} {g : Gd} {q : Int → List UInt8} {D : Nat → List UInt8} (hv : VerG w s.lo d.X d.rx s.lastv s.Lv s.vs) (hk : ∀ x ∈ s.Lv, 0 ≤ x.1 ∧ x.1 < 258) (hp : Pln s g q j) (hq : ∀ b : Nat, b < 258 → q b = D b ∧ D b ≠ zeroB) : dumpL s.Lv s.vs = allL D :=
  dump_all hv hk (fun b hb => by
    have h1 := hp.blk b (by omega) (by omega)
    have hne : s.vs b ≠ [] := fun e => by
      rw [e] at h1
      exact (hq b hb).2 ((hq b hb).1 ▸ h1.symm)
    exact ⟨hne, by rw [← bytT_lastB hne (fun x hx => hp.old b x hx), h1, (hq b hb).1]⟩)
theorem rcheckS (w : World) {lw j : Nat} {d : Ids} {s : Gs} {g : Gd} {q : Int → List UInt8} (h : Rst w lw d s g q j) (hs : SlI g) (hj : j ≤ 1900) :
    Calls Tryz.prog 16 #[.pointer (some ⟨d.P, 0, none⟩)] w fun e w' => e = .returned (.int .i64 0) ∧ (∃ g', Rst w' lw d s g' q (j + 1) ∧ g'.pos = 0 ∧ SlI g') ∧ Kp lw w w' := by
  have hp := h.pl
  have hl := hp.last
  have hg := hp.given
  obtain ⟨inn, i, a, hi, hinn⟩ : ∃ inn i a : Nat, ((inn = 1 ∧ i = 0 ∧ a = 0) ∨ (inn = 0 ∧ i = 1 ∧ a = 3)) ∧ g.inn = inn := by
    rcases hp.inn with e | e
    · exact ⟨1, 0, 0, Or.inl ⟨rfl, rfl, rfl⟩, e⟩
    · exact ⟨0, 1, 3, Or.inr ⟨rfl, rfl, rfl⟩, e⟩
  have hops := hp.ops
  have hcnt := hp.cnt
  have htl := textB_length s.last.toNat _ (dumpL_data h.sto.mx.ver h.sto.keys)
  have hdl : (dumpL s.Lv s.vs).length ≤ 258 := by
    have := h.sto.lv
    simpa [dumpL, sortI_length] using this
  refine (scheck_ok w (lst := s.last.toNat) h.sto hi hinn h.sto.lv (by omega) (by omega) hops.1 (by omega) (by omega) h.lw).mono ?_
  rintro e w' ⟨rfl, tv, ops, dv, ho, k1, k2⟩
  refine ⟨rfl, ⟨_, ⟨k1, ⟨hp.out, hp.rd, hp.lastv, ⟨hg.1, by omega⟩, hl, ⟨hp.num.1, by have := hp.num.2; omega⟩, ⟨hp.bl.1, by have := hp.bl.2; omega⟩, hp.old, fun b => Nat.le_succ_of_le (hp.small b), ?_, ?_, ?_, ⟨rfl, rfl, Nat.zero_le _⟩, hp.blk⟩, h.lb, ?_, by have := k2.cs.size; have := h.lw; omega⟩, rfl, (hs.check hi (by omega) (by omega) (by omega)).is⟩, Kp.of_cs k2.cs⟩
  · show (i : Int) = 1 ∨ (i : Int) = 0
    omega
  · show 0 ≤ ops ∧ ops ≤ _
    omega
  · show g.cnt + 1 ≤ _ ∧ 0 ≤ _
    omega
  · obtain ⟨U, u1, u2⟩ := k2
    obtain ⟨pq, cq, e, ho⟩ := h.qn
    refine ⟨pq, cq, e, own_chgB ho u1 (fun g hg hm => ?_)⟩
    obtain ⟨-, cur, hh⟩ := own_elem ho hg
    obtain ⟨-, cs, t, e1, e2⟩ := u2 g hm (heap_lt hh)
    rw [hh] at e1
    cases e1
    revert e2
    decide
/-- a device whose newest text is tx. -/
def DvT (w : World) (N : Nat) (tx : List UInt8) : Prop := ∃ A c Z g, DevG w g.dlo N A c g.ops Z g.dv g.gs g.zs ∧ SlF g tx
theorem rcheck_o (w : World) {lw j base : Nat} {d : Ids} {s : Gs} {g : Gd} {q0 q : Int → List UInt8} {L : List (Int × Value)} {D : Nat → List UInt8} (h : Opn w lw d s g q0 j base q L) (hs : SlI g) (hq : ∀ b : Nat, b < 258 → q0 b = D b ∧ D b ≠ zeroB) (hj : j ≤ 1900) :
    Calls Tryz.prog 16 #[.pointer (some ⟨d.P, 0, none⟩)] w fun e w' => e = .returned (.int .i64 0) ∧ DvT w' d.N (textB s.last.toNat (allL D)) ∧ Kp lw w w' := by
  have hS : Sto w lw d (begS s d.T) g := h.su.env
  have hp := h.pl
  have hl := hp.last
  have hg := hp.given
  obtain ⟨inn, i, a, hi, hinn⟩ : ∃ inn i a : Nat, ((inn = 1 ∧ i = 0 ∧ a = 0) ∨ (inn = 0 ∧ i = 1 ∧ a = 3)) ∧ g.inn = inn := by
    rcases hp.inn with e | e
    · exact ⟨1, 0, 0, Or.inl ⟨rfl, rfl, rfl⟩, e⟩
    · exact ⟨0, 1, 3, Or.inr ⟨rfl, rfl, rfl⟩, e⟩
  have hops := hp.ops
  have hcnt := hp.cnt
  have hdm : dumpL (begS s d.T).Lv (begS s d.T).vs = allL D := dump_full (d := d) (s := s) hS.mx.ver hS.keys hp hq
  have htl := textB_length s.last.toNat _ (dumpL_data hS.mx.ver hS.keys)
  refine (scheck_ok w (lst := s.last.toNat) hS hi hinn hS.lv (by show s.last = _; omega) (by omega) hops.1 (by omega) (by omega) h.low.2.1).mono ?_
  rw [hdm] at htl ⊢
  rw [allL_length] at htl
  rintro e w' ⟨rfl, tv, ops, dv, ho, k1, k2⟩
  exact ⟨rfl, ⟨_, _, _, _, k1.dev, hs.check hi (by omega) (by omega) (by omega)⟩, Kp.of_cs k2.cs⟩
end Go.Proofs.YtnelakpdmjfolaaGreat
namespace Go.Proofs.YtnelakpdmjfolaaGreat
open Go.RowKit Go.Lib

/-- a row of ints that is only read. -/
def IntsR (w : World) (v : Value) (m : Nat) : Prop := ∃ pa c, v = .slice pa m c ∧ m ≤ c ∧ ∀ j, j < m → ∃ g o x, pa = some ⟨g, o, none⟩ ∧ w.cell? ⟨g, o + j, none⟩ = some (.int .i64 x)
set_option maxRecDepth 100000 in
theorem pick_row {w : World} {v : Value} {m : Nat} (h : IntsR w v m) (hm : m ≤ 1000) : PickOk v w := by
  intro w2 k2 k hk
  obtain ⟨pa, c, rfl, hmc, hx⟩ := h
  by_cases h0 : m = 0
  · subst h0
    go_enter Tryz.func53, Tryz.ntmps53
    go_wp2_with fail
    go_ret2
    exact ⟨0, false, rfl, rfl⟩
  · obtain ⟨g, o, x, rfl, hc⟩ := hx (k % m) (Nat.mod_lt _ (by omega))
    have hc2 := k2.cell hc (by simp)
    have hr : (k : Int).tmod (m : Int) = ((k % m : Nat) : Int) := by
      rw [Int.tmod_eq_emod_of_nonneg (by omega)]
      omega
    have hlt : k % m < m := Nat.mod_lt _ (by omega)
    have hm0 : ¬ ((m : Int) = 0) := by omega
    have hm1 : ((m : Int) == 0) = false := beq_eq_false_iff_ne.2 hm0
    have hd : decide ((m : Int) = 0) = false := decide_eq_false hm0
    have hmc1 : (m : Int) ≤ c := by omega
    generalize k % m = t at *
    clear hc hx
    go_enter Tryz.func53, Tryz.ntmps53
    go_wp2_with fail
    go_ret2
    exact ⟨x, true, rfl, rfl⟩
theorem PickOk.keep {v : Value} {w w' : World} (h : PickOk v w) (k : Chg [] w w') : PickOk v w' := fun w2 k2 j hj => h w2 (k.then k2) j hj
/-- a crashed device, not below lw, whose newest text is tx. -/
def CrD (w : World) (lw N : Nat) (tx : List UInt8) : Prop := ∃ (base A c : Nat) (Z : List Nat) (vs : Nat → Value) (gs : Nat → Nat) (zs : Nat → List (List UInt8)) (F : Nat → List (List UInt8)) (n : Nat → Nat) (l : Nat → List UInt8) (i : Nat),
  DevK w base N A c 0 0 Z vs gs zs ∧ (zs 6 = [] ∧ zs 7 = []) ∧ (∀ i, i < 2 → Zn zs (3 * i) (F i) ∧ SlC (F i) (n i) (l i)) ∧ i < 2 ∧ 1 ≤ n i ∧ (∀ j, j < 2 → j ≠ i → n j < n i) ∧ l i = tx ∧ lw ≤ N ∧ (∀ z ∈ Z, lw ≤ z) ∧ N < w.heap.size ∧ (∀ z ∈ Z, z < w.heap.size)
theorem crash_t (w : World) {N : Nat} {tx : List UInt8} (h : DvT w N tx) {pv tv : Value} (hp : PickOk pv w) (ht : PickOk tv w) : Calls Tryz.prog 19 #[.pointer (some ⟨N, 0, none⟩), pv, tv] w fun e w' => ∃ N', e = .returned (.pointer (some ⟨N', 0, none⟩)) ∧ Chg [] w w' ∧ CrD w' w.heap.size N' tx := by
  obtain ⟨A, c, Z, g, hD, hs⟩ := h
  have hg : ∀ j, j < 8 → g.gs j = (g.zs j).length := fun j _ => by rw [hs.2.1]; rfl
  refine (crash_ok w hD.k hg hs.len hp ht).mono ?_
  rintro e w' ⟨N', A', c', Z', vs', rfl, k, hD', lN, lA, lZ⟩
  obtain ⟨⟨e6, e7⟩, -, F, n, l, i, h1, h2, h3, h4, h5⟩ := hs
  refine ⟨N', rfl, k, _, A', c', Z', vs', _, _, F, n, l, i, hD'.k, ⟨by simp [cutZ, e6], by simp [cutZ, e7]⟩, fun i hi => ⟨fun q hq => ?_, (h1 i hi).2.1⟩, h2, h3, h4, h5, lN, lZ, heap_lt hD'.hdr, fun z hz => ?_⟩
  · have hlt : 3 * i + q < 8 := by omega
    have := (h1 i hi).1 q hq
    simpa [cutZ, hlt] using this
  · obtain ⟨j, hj, e⟩ := List.getElem_of_mem hz
    rw [← e]
    exact heap_lt (hD'.zone j hj)
/-- its dump is all blocks. -/
def DmpOk (w : World) (P : Nat) (D : Nat → List UInt8) : Prop := ∀ wx, Chg [] w wx → Calls Tryz.prog 20 #[.pointer (some ⟨P, 0, none⟩)] wx fun e w' => ∃ v, e = .returned v ∧ Chg [] wx w' ∧ PutsAt w' wx.heap.size v (allL D)
theorem mount_t (w : World) {lw N last : Nat} {D : Nat → List UInt8} (h : CrD w lw N (textB last (allL D))) (h0 : 1 ≤ last) (h1 : last ≤ 1099511627776) (h40 : ∀ b, (D b).length = 40) : Calls Tryz.prog 8 #[.pointer (some ⟨N, 0, none⟩)] w fun e w' => ∃ P, e = .returned (.tuple #[.pointer (some ⟨P, 0, none⟩), .int .i64 0]) ∧ Kp lw w w' ∧ DmpOk w' P D := by
  obtain ⟨base, A, c, Z, vs, gs, zs, F, n, l, i, hD, he, hz, hi, hn1, hn2, hli, lN, lZ, ltN, ltZ⟩ := h
  refine (kmount_c w hD (fun i hi => (hz i hi).1) (fun i hi => (hz i hi).2) he hi hn1 hn2 hli (fun p hp => ?_) (allL_rise D) (by rw [allL_length]; decide) (by rw [allL_length]; decide) ltZ ltN (by decide) (by decide) (by decide) (by decide) ⟨h0, h1⟩ (fun p hp => ?_)).mono ?_
  · obtain ⟨b, -, rfl⟩ := allL_in p hp
    exact h40 b
  · obtain ⟨b, hb, rfl⟩ := allL_in p hp
    exact ⟨by show (0 : Int) ≤ b; omega, by show (b : Int) < 258; omega⟩
  · rintro e w' ⟨P, S, M, X, rx, B, rb, r, lo, Lv, rds', rfl, hM⟩
    refine ⟨P, rfl, ⟨_, hM.chg, fun x hx _ => ?_⟩, fun wx kx => ?_⟩
    · rcases List.mem_cons.1 hx with rfl | hx
      · exact lN
      · exact lZ x hx
    · have hV := hM.ver.keep kx
      have hlen : Lv.length ≤ 1000 := by
        have := nodup_258 (Lv.map Prod.fst) hM.ver.m.nodup (fun x hx => by
          obtain ⟨p, hp, rfl⟩ := List.mem_map.1 hx
          exact hM.keys p hp)
        simp at this
        omega
      refine (sdump_ok wx (kx.heap hM.store (by simp)) (kx.heap hM.mgr (by simp)) hV hM.keys hlen).mono ?_
      rintro e w' ⟨v, rfl, k, hp⟩
      refine ⟨v, rfl, k, ?_⟩
      rw [dump_all hV hM.keys (D := D) (fun b hb => ?_)] at hp
      · exact hp
      · have hnd := (rise_nodup (allL_rise D)).imp (S := fun a b => a ≠ b) (fun h => by omega)
        rw [applyV_mem hnd (allL_mem hb)]
        exact ⟨by simp, by simp [lastB]⟩
/-- puts of blocks that follow each other. -/
def seqP (a k m : Nat) : List (Int × List UInt8) := (List.range m).map fun i : Nat => (((a + i : Nat) : Int), datB (a + i + k))
theorem seqP_length (a k m : Nat) : (seqP a k m).length = m := by simp [seqP]
theorem seqP_at (a k m i : Nat) (h : i < (seqP a k m).length) : (seqP a k m)[i] = (((a + i : Nat) : Int), datB (a + i + k)) := by simp [seqP]
theorem seqP_succ (a k m : Nat) : seqP a k (m + 1) = seqP a k m ++ [(((a + m : Nat) : Int), datB (a + m + k))] := by simp [seqP, List.range_succ]
theorem seqP_nodup (a k m : Nat) : ((seqP a k m).map Prod.fst).Nodup := by
  refine List.pairwise_iff_getElem.2 (fun i j hi hj h => ?_)
  rw [List.getElem_map, List.getElem_map, seqP_at, seqP_at]
  show ((a + i : Nat) : Int) ≠ ((a + j : Nat) : Int)
  omega
theorem seqP_in {a k m : Nat} (h : a + m ≤ 258) : ∀ p ∈ seqP a k m, 0 ≤ p.1 ∧ p.1 < 258 := fun p hp => by
  obtain ⟨i, hi, rfl⟩ := List.mem_map.1 hp
  have := List.mem_range.1 hi
  exact ⟨by show (0 : Int) ≤ ((a + i : Nat) : Int); omega, by show ((a + i : Nat) : Int) < 258; omega⟩
theorem putA_seq {q : Int → List UInt8} {a k m b : Nat} : putA q (seqP a k m) b = if a ≤ b ∧ b < a + m then datB (b + k) else q b := by
  split
  · rename_i h
    have h1 := putA_at (q := q) (seqP_nodup a k m) (b - a) (by rw [seqP_length]; omega)
    rw [seqP_at] at h1
    have e : a + (b - a) = b := by omega
    rw [e] at h1
    exact h1
  · rename_i h
    refine putA_not (fun i hi => ?_)
    rw [seqP_at]
    rw [seqP_length] at hi
    show ((a + i : Nat) : Int) ≠ (b : Int)
    omega
/-- a put more is gathered. -/
theorem PutsAt.seq {wa wb : World} {lo a k m x gd cd : Nat} {v v' : Value} {xs : List Value} (hr : PutsAt wa lo v (seqP a k m)) (hxs : ∀ i (h : i < (seqP a k m).length), xs[i * 2]? = some (.int .i64 (seqP a k m)[i].1) ∧ ∃ g c, xs[i * 2 + 1]? = some (.slice (some ⟨g, 0, none⟩) 40 c) ∧ Bs wa (some ⟨g, 0, none⟩) (seqP a k m)[i].2 ∧ (seqP a k m)[i].2.length = 40 ∧ Bt wa g) (hxl : xs.length = (seqP a k m).length * 2)
    (hx : x = a + m) (ho : wb.ownsRow lo 41 2 v' (m + 1) (xs ++ [.int .i64 (x : Nat), .slice (some ⟨gd, 0, none⟩) 40 cd])) (kb : Chg v.ownBlock.toList wa wb) (hb : Bs wa (some ⟨gd, 0, none⟩) (datB (x + k))) (hbt : Bt wa gd) : PutsAt wb lo v' (seqP a k (m + 1)) := by
  rw [seqP_succ, ← hx]
  exact PutsAt.push hxs hxl (seqP_length a k m).symm (fun g hg => (hr.block g hg).2) ho kb hb (datB_length _) hbt
/-- 0 at 0, else 1. -/
def flagP (o : Option Value) : Nat := match o with
  | some v => min 1 (intOf v).toNat
  | none => 0
end Go.Proofs.YtnelakpdmjfolaaGreat
