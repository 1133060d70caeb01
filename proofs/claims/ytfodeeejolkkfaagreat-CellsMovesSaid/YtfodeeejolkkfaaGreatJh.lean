/- Lemmas and walks: Walks: a block is put behind a zone's blocks; a device is flushed. Walks: sets of spans, whatever the spans are: nothing panics. Walks: a set's extents, their count; a view's set. Maps with int keys: their keys in order; an entry is taken away. Walks: what a buffer holds, as puts. Walks: a buffer's set; a transaction is checked against nothing. Walks: a transaction is checked against no versions and no queue. Walks: may a transaction be committed? Where nothing was written and nothing waits: yes. Walks: Commit of a store; the transaction that waits. Walks: the next batch, of one transaction. Walks: a batch of one transaction may be. Walks: a batch of one transaction is checked. -/
import Derived.WideShapes
import Derived.Laws.IdiomRangeMap
import Derived.StillTailTactics
import Derived.BigQuiet
import Derived.Test.YtfodeeejolkkfaaGreatJc
import Derived.Test.YtfodeeejolkkfaaGreatJe
import Derived.Test.YtfodeeejolkkfaaGreatJf
import Derived.Test.YtfodeeejolkkfaaGreatJg
namespace Go.Proofs.YtfodeeejolkkfaaGreat
open Go.RowKit Go.Lib

theorem nodup_ne {Z : List Nat} (h : Z.Nodup) {i j : Nat} (hi : i < Z.length) (hj : j < Z.length) (hij : i ≠ j) : Z[i] ≠ Z[j] := by
  have h2 := List.pairwise_iff_getElem.1 h
  rcases Nat.lt_or_gt_of_ne hij with h3 | h3
  · exact h2 i j hi hj h3
  · exact (h2 j i hj hi h3).symm
/-- a family with one member turned. -/
def upF {α : Type} (f : Nat → α) (j : Nat) (x : α) : Nat → α := fun k => if k = j then x else f k
theorem DevG.put {w w' : World} {base N A c : Nat} {ops : Int} {Z : List Nat} {vs : Nat → Value} {gs : Nat → Nat} {zs : Nat → List (List UInt8)} (h : DevG w base N A c ops Z vs gs zs) {j : Nat} (hj : j < Z.length) {v' : Value} {l' : List (List UInt8)}
    (hc : Chg (Z[j] :: (vs j).ownBlock.toList) w w') (hz : w'.heap[Z[j]]? = some (.cells #[v', .int .i64 (gs j : Nat)] 134 (0, 0))) (hr : RowsAt w' base v' l') (hb : ∀ g, v'.ownBlock = some g → (vs j).ownBlock = some g ∨ w.heap.size ≤ g) :
    DevG w' base N A c ops Z (upF vs j v') gs (upF zs j l') := by
  have hj8 : j < 8 := by have := h.len; omega
  have hzj := h.zone j hj
  have ht : ∀ {g : Nat} {cs : Array Value} {t : TypeId}, w.heap[g]? = some (.cells cs t (0, 0)) → t ≠ 134 → t ≠ 23 → g ∉ Z[j] :: (vs j).ownBlock.toList := by
    intro g cs t hg h1 h2 hm
    rcases List.mem_cons.1 hm with rfl | hm
    · rw [hzj] at hg; cases hg; exact h1 rfl
    · obtain ⟨cs2, hb2⟩ := (h.rows j hj8).block g (by simpa using hm)
      rw [hg] at hb2; cases hb2; exact h2 rfl
  have hzk : ∀ k (hk : k < Z.length), k ≠ j → Z[k] ∉ Z[j] :: (vs j).ownBlock.toList := by
    intro k hk hkj hm
    rcases List.mem_cons.1 hm with e | hm
    · exact nodup_ne h.nodup hk hj hkj e
    · obtain ⟨cs2, hb2⟩ := (h.rows j hj8).block _ (by simpa using hm)
      rw [h.zone k hk] at hb2; cases hb2
  have hvk : ∀ k g, k < 8 → k ≠ j → (vs k).ownBlock = some g → g ∉ Z[j] :: (vs j).ownBlock.toList := by
    intro k g hk hkj hg hm
    rcases List.mem_cons.1 hm with e | hm
    · obtain ⟨cs2, hb2⟩ := (h.rows k hk).block g hg
      rw [e, hzj] at hb2; cases hb2
    · exact h.apart k j g hk hj8 hkj hg (by simpa using hm)
  obtain ⟨cA, hA⟩ := h.tA
  have av5 : Av w (Z[j] :: (vs j).ownBlock.toList) [5] := fun x hx cs t fr hh h5 => by
    simp at h5
    subst h5
    rcases List.mem_cons.1 hx with rfl | hm
    · rw [hzj] at hh; cases hh
    · obtain ⟨cs2, hb2⟩ := (h.rows j hj8).block x (by simpa using hm)
      rw [hh] at hb2; cases hb2
  refine ⟨hc.heap h.hdr (ht h.hdr (by decide) (by decide)), h.cap, h.len, ⟨cA, hc.heap hA (ht hA (by decide) (by decide))⟩, fun k hk => hc.cell (h.ptr k hk) (ht hA (by decide) (by decide)), fun k hk => ?_, fun k hk => ?_, fun a b g ha hb8 hab hg => ?_, h.nodup⟩
  · by_cases hkj : k = j
    · subst hkj
      simpa [upF] using hz
    · simpa [upF, hkj] using hc.heap (h.zone k hk) (hzk k hk hkj)
  · by_cases hkj : k = j
    · subst hkj
      simpa [upF] using hr
    · simpa [upF, hkj] using (h.rows k hk).keep hc av5 (fun g hg => hvk k g hk hkj hg)
  · by_cases haj : a = j
    · have hbj : b ≠ j := fun e => hab (haj.trans e.symm)
      simp only [upF, if_pos haj] at hg
      simp only [upF, if_neg hbj]
      intro hg2
      rcases hb g hg with h1 | h1
      · exact h.apart j b g hj8 hb8 (fun e => hbj e.symm) h1 hg2
      · obtain ⟨cs2, hb2⟩ := (h.rows b hb8).block g hg2
        have := heap_lt hb2
        omega
    · simp only [upF, if_neg haj] at hg
      by_cases hbj : b = j
      · simp only [upF, if_pos hbj]
        intro hg2
        rcases hb g hg2 with h1 | h1
        · exact h.apart a j g ha hj8 haj hg h1
        · obtain ⟨cs2, hb2⟩ := (h.rows a ha).block g hg
          have := heap_lt hb2
          omega
      · simp only [upF, if_neg hbj]
        exact h.apart a b g ha hb8 hab hg
theorem DevG.appended {wy w5 : World} {base N A c : Nat} {ops : Int} {Z : List Nat} {vs : Nat → Value} {gs : Nat → Nat} {zs : Nat → List (List UInt8)} (dy : DevG wy base N A c ops Z vs gs zs) {j : Nat} (hj : j < Z.length)
    {pa : Option Addr} {cv g2 c2 g5 cp5 : Nat} {xs : List Value} {l : List UInt8} (hv : vs j = .slice pa (zs j).length cv) (hx : ∀ i (h : i < (zs j).length), ∃ g c, xs[i]? = some (.slice (some ⟨g, 0, none⟩) 64 c) ∧ Bs wy (some ⟨g, 0, none⟩) (zs j)[i] ∧ (zs j)[i].length = 64 ∧ Bt wy g)
    (hxl : xs.length = (zs j).length) (o5 : w5.ownsRow base 23 1 (.slice (some ⟨g5, 0, none⟩) ((zs j).length + 1) cp5) ((zs j).length + 1) (xs ++ [.slice (some ⟨g2, 0, none⟩) 64 c2])) (k5 : Chg (Value.slice pa (zs j).length cv).ownBlock.toList wy w5)
    (i5 : (Value.slice pa (zs j).length cv).ownBlock = some g5 ∨ g5 = wy.heap.size) (b2 : Bs wy (some ⟨g2, 0, none⟩) l) (hl : l.length = 64) (t2 : Bt wy g2) :
    Chg (Z[j] :: (vs j).ownBlock.toList) wy (w5.setCell ⟨Z[j], 0, none⟩ (.slice (some ⟨g5, 0, none⟩) ((zs j).length + 1) cp5)) ∧
    DevG (w5.setCell ⟨Z[j], 0, none⟩ (.slice (some ⟨g5, 0, none⟩) ((zs j).length + 1) cp5)) base N A c ops Z (upF vs j (.slice (some ⟨g5, 0, none⟩) ((zs j).length + 1) cp5)) gs (upF zs j (zs j ++ [l])) := by
  have hj8 : j < 8 := by have := dy.len; omega
  have hb23 := (dy.rows j hj8).block
  have hzj := dy.zone j hj
  have hzn : Z[j] ∉ (vs j).ownBlock.toList := by
    intro hm
    obtain ⟨cs, h1⟩ := hb23 _ (by simpa using hm)
    rw [hzj] at h1
    cases h1
  have Z5 := k5.heap hzj (by rw [← hv]; exact hzn)
  rw [hv] at Z5
  have r5 : RowsAt w5 base (.slice (some ⟨g5, 0, none⟩) ((zs j).length + 1) cp5) (zs j ++ [l]) := RowsAt.push (v := .slice pa (zs j).length cv) hx hxl (by rw [← hv]; exact hb23) o5 k5 b2 hl t2
  have hset := Chg.set w5 Z[j] 0 (.slice (some ⟨g5, 0, none⟩) ((zs j).length + 1) cp5)
  have rF := r5.keep hset (Av.row Z5 (by simp)) (by
    intro g hg hm
    rw [List.mem_singleton] at hm
    obtain ⟨cs, h1⟩ := r5.block g hg
    rw [hm, Z5] at h1
    cases h1)
  have kF : Chg (Z[j] :: (vs j).ownBlock.toList) wy (w5.setCell ⟨Z[j], 0, none⟩ (.slice (some ⟨g5, 0, none⟩) ((zs j).length + 1) cp5)) := by
    rw [hv]
    exact (k5.mono (fun x hx _ => List.mem_cons_of_mem _ hx)).then (hset.mono (fun x hx _ => by rw [List.mem_singleton] at hx; subst hx; exact List.mem_cons_self))
  refine ⟨kF, dy.put hj kF (heap_set Z5 0 _ rfl) rF (fun g hg => ?_)⟩
  have e : g5 = g := by simpa [Value.ownBlock] using hg
  subst e
  rw [hv]
  rcases i5 with h | h
  · exact Or.inl h
  · exact Or.inr (Nat.le_of_eq h.symm)
set_option maxRecDepth 100000 in
set_option maxHeartbeats 2000000 in
theorem dappend_any (w : World) {base N A c : Nat} {ops : Int} {Z : List Nat} {vs : Nat → Value} {gs : Nat → Nat} {zs : Nat → List (List UInt8)} (h : DevG w base N A c ops Z vs gs zs) (h0 : 0 ≤ ops) (h1 : ops ≤ 1000000) (j : Nat) (hj : j < Z.length) (hroom : (zs j).length < 96)
    {D o cd : Nat} {l : List UInt8} (hb : Bs w (some ⟨D, o, none⟩) l) (hl : l.length = 64) (hD : ∀ g, D = g → g ≠ N) (hlow : base ≤ N) :
    Calls Tryz.prog 102 #[.pointer (some ⟨N, 0, none⟩), .int .i64 j, .slice (some ⟨D, o, none⟩) 64 cd] w fun e w' => ∃ v', e = .returned (.tuple #[.int .i64 ((zs j).length : Nat), .int .i64 0]) ∧ Chg (N :: Z[j] :: (vs j).ownBlock.toList) w w' ∧ DevG w' base N A c (ops + 1) Z (upF vs j v') gs (upF zs j (zs j ++ [l])) ∧ (∀ g, v'.ownBlock = some g → (vs j).ownBlock = some g ∨ w.heap.size ≤ g) := by
  have hj8 : j < 8 := by have := h.len; omega
  have HA := Lib.hid (dat_any w h j hj)
  have HB := Lib.hid (dbegin_any w h h0 h1)
  have hbN : Bs w (some ⟨D, o, none⟩) l := hb
  have HD := Lib.hid (hD D rfl)
  clear hb hD
  go_enter Tryz.func102, Tryz.ntmps102
  go_wp2_with fail
  refine HA.out.mono ?_
  rintro e w1 ⟨rfl, rfl⟩
  go_wp2_with fail
  refine HB.out.mono ?_
  rintro e w1 ⟨rfl, k1, d1⟩
  have hb1 : Bs w1 (some ⟨D, o, none⟩) l := hbN.chgT k1 (by simpa using HD.out)
  obtain ⟨xs, ho, hx⟩ := d1.rows j hj8
  obtain ⟨pa, cv, hv, hcv⟩ := own_form ho
  have hz1 := d1.zone j hj
  have hb23 := (d1.rows j hj8).block
  have hN1 := heap_lt d1.hdr
  rw [hv] at hz1 ho hb23
  have z0 : w1.cell? ⟨Z[j], 0, none⟩ = some (.slice pa (zs j).length cv) := cell_is hz1 0 rfl
  have s1 : w1.cell? ⟨N, 1, none⟩ = some (.int .i64 96) := cell_is d1.hdr 1 rfl
  have hnl : ¬ (((zs j).length : Int) ≥ 96) := by omega
  have HX := Lib.hid hx
  have HO := Lib.hid ho
  have H1 := Lib.hid d1
  have H23 := Lib.hid hb23
  have HZ := Lib.hid hz1
  have HR := Lib.hid hroom
  clear hx ho d1 HA HB h hb23 hroom hz1
  generalize hzz : Z[j] = z at *
  go_wp2_with fail
  go_quiet (fail)
  have z0d : (w1.drewN nq).cell? ⟨z, 0, none⟩ = some (.slice pa (zs j).length cv) := z0
  have k2 : Chg [N] w (w1.drewN nq) := k1.drewN nq
  have hN2 : N < (w1.drewN nq).heap.size := hN1
  have hb2 : Bs (w1.drewN nq) (some ⟨D, o, none⟩) l := hb1
  have H2 := Lib.hid (H1.out.keep ((Chg.refl [] w1).drewN nq) (Av.nil _ _))
  have HX2 : Hid (∀ (i : Nat) (h : i < (zs j).length), ∃ g c, xs[i]? = some (.slice (some ⟨g, 0, none⟩) 64 c) ∧ Bs (w1.drewN nq) (some ⟨g, 0, none⟩) (zs j)[i] ∧ (zs j)[i].length = 64 ∧ Bt (w1.drewN nq) g) := HX
  have HO2 : Hid ((w1.drewN nq).ownsRow base 23 1 (.slice pa (zs j).length cv) (zs j).length xs) := HO
  have HZ2 : Hid ((w1.drewN nq).heap[z]? = some (.cells #[.slice pa (zs j).length cv, .int .i64 (gs j : Nat)] 134 (0, 0))) := HZ
  clear z0 k1 hN1 hb1 H1 HX HO HZ s1
  generalize w1.drewN nq = w2 at *
  go_wp2_with fail
  have z0e : w2.drew.cell? ⟨z, 0, none⟩ = some (.slice pa (zs j).length cv) := z0d
  go_region_law
    (first
      | (go_simp; go_at_call 113; refine (clone_bt w2.drew (l := l) (m := 64) hl (by decide) (by decide) (hb2.chg (Chg.refl [] w2).drew)).mono ?_; rintro e w6 ⟨g2, c2, rfl, k6, bs6, l6, bt6⟩; have z6 := k6.cell z0e (by simp); have ky : Chg [] w2 (w6.alloc (.cells #[.slice (some ⟨g2, 0, none⟩) 64 c2] 23)) := ((Chg.refl [] w2).drew.then k6).then_alloc _; have y0 := heap_new w6 (.cells #[.slice (some ⟨g2, 0, none⟩) 64 c2] 23); have zy := ky.cell z0d (by simp); have oy := ownsRow_av HO2.out ky (Av.nil _ _); have Zy := ky.heap HZ2.out (by simp); have hby : base ≤ (w6.alloc (.cells #[.slice (some ⟨g2, 0, none⟩) 64 c2] 23)).heap.size := (by have := ky.size; omega))
      | (refine step_append_bk rfl (.tmp 39) (.tmp 42) rfl base _ (zs j).length xs rfl oy w6.heap.size 1 _ rfl (cell_is y0 0 rfl) rfl (by have := HR.out; omega) hby ?_; intro g5 cp5 w5 o5 k5 i5; have Z5 := k5.heap Zy (own_block_ne oy Zy (by decide)); have z5 := cell_is Z5 0 rfl; have f5 := unfrozen Z5 0))
  all_goals
    have dy := H2.out.keep ky (Av.nil _ _)
    have hxl : xs.length = (zs j).length := by have := oy.1; omega
    obtain ⟨kF, dF⟩ := dy.appended hj hv (fun i hi => by
      obtain ⟨g, c, h1, h2, h3, h4⟩ := HX2.out i hi
      exact ⟨g, c, h1, h2.chg ky, h3, h4.keep ky (by simp)⟩) hxl o5 k5 i5 (bs6.chg (Chg.alloc _ _)) hl (bt6.keep (Chg.alloc (S := []) _ _) (by simp))
    have kT : Chg (N :: Z[j] :: (vs j).ownBlock.toList) w (w5.setCell ⟨Z[j], 0, none⟩ (.slice (some ⟨g5, 0, none⟩) ((zs j).length + 1) cp5)) := ((k2.mono (fun x hx _ => by rw [List.mem_singleton] at hx; subst hx; exact List.mem_cons_self)).then (ky.mono (fun x hx _ => by cases hx))).then (kF.mono (fun x hx _ => List.mem_cons_of_mem _ hx))
    have KT := Lib.hid kT
    have DF := Lib.hid dF
    have HI : Hid (∀ g, (Value.slice (some ⟨g5, 0, none⟩) ((zs j).length + 1) cp5).ownBlock = some g → (vs j).ownBlock = some g ∨ w.heap.size ≤ g) := Lib.hid (fun g hg => by
      have hg' : g5 = g := Option.some.inj hg
      subst hg'
      rw [hv]
      rcases i5 with i | i
      · exact Or.inl i
      · have := k2.size
        have := ky.size
        exact Or.inr (by omega))
    rw [hzz] at KT DF
    clear kT dF kF dy oy o5 k5 i5 bs6 bt6 ky y0 zy Zy z6 k6 H23
    have hsub : wrap64 (((zs j).length : Int) + 1 - 1) = ((zs j).length : Nat) := by have := HR.out; unfold wrap64; omega
    go_wp2_with fail
    go_ret2
    have hC := KT.out
    have hD := DF.out
    rw [← hzz] at hD ⊢
    exact ⟨_, rfl, by rw [hzz]; exact hC, hD, HI.out⟩
/-- .. when what is for good of a zone is turned. -/
theorem DevG.setGood {w : World} {base N A c : Nat} {ops : Int} {Z : List Nat} {vs : Nat → Value} {gs : Nat → Nat} {zs : Nat → List (List UInt8)} (h : DevG w base N A c ops Z vs gs zs) {j : Nat} (hj : j < Z.length) (n : Nat) :
    DevG (w.setCell ⟨Z[j], 1, none⟩ (.int .i64 n)) base N A c ops Z vs (upF gs j n) zs := by
  have hc := Chg.set w Z[j] 1 (.int .i64 n)
  have hzj := h.zone j hj
  have ht : ∀ {g : Nat} {cs : Array Value} {t : TypeId}, w.heap[g]? = some (.cells cs t (0, 0)) → t ≠ 134 → g ∉ [Z[j]] := by
    intro g cs t hg h1 hm
    rw [List.mem_singleton] at hm
    subst hm
    rw [hzj] at hg; cases hg; exact h1 rfl
  obtain ⟨cA, hA⟩ := h.tA
  refine ⟨hc.heap h.hdr (ht h.hdr (by decide)), h.cap, h.len, ⟨cA, hc.heap hA (ht hA (by decide))⟩, fun k hk => hc.cell (h.ptr k hk) (ht hA (by decide)), fun k hk => ?_, fun k hk => (h.rows k hk).keep hc (Av.row hzj (by simp)) (fun g hg => ?_), h.apart, h.nodup⟩
  · by_cases hkj : k = j
    · subst hkj
      simpa [upF] using heap_set hzj 1 (.int .i64 n) rfl
    · simpa [upF, hkj] using hc.heap (h.zone k hk) (by simpa using nodup_ne h.nodup hk hj hkj)
  · obtain ⟨cs, hb⟩ := (h.rows k hk).block g hg
    exact ht hb (by decide)
/-- the first j zones' blocks are for good. -/
def goodF (gs : Nat → Nat) (zs : Nat → List (List UInt8)) (j : Nat) : Nat → Nat := fun k => if k < j then (zs k).length else gs k
theorem goodF_succ (gs : Nat → Nat) (zs : Nat → List (List UInt8)) (j : Nat) : upF (goodF gs zs j) j (zs j).length = goodF gs zs (j + 1) := by
  funext k
  unfold upF goodF
  by_cases h : k = j
  · subst h; simp
  · rw [if_neg h]
    by_cases h2 : k < j
    · rw [if_pos h2, if_pos (by omega)]
    · rw [if_neg h2, if_neg (by omega)]
set_option maxRecDepth 100000 in
set_option maxHeartbeats 1000000 in
theorem dflush_any (w : World) {base N A c : Nat} {ops : Int} {Z : List Nat} {vs : Nat → Value} {gs : Nat → Nat} {zs : Nat → List (List UInt8)} (h : DevG w base N A c ops Z vs gs zs) (h0 : 0 ≤ ops) (h1 : ops ≤ 1000000) : Calls Tryz.prog 103 #[.pointer (some ⟨N, 0, none⟩)] w fun e w' =>
    e = .returned (.int .i64 0) ∧ Chg (N :: Z) w w' ∧ DevG w' base N A c (ops + 1) Z vs (goodF gs zs 8) zs := by
  have HG := Lib.hid (dgone_any w h)
  have HB := Lib.hid (dbegin_any w h h0 h1)
  clear h
  go_enter Tryz.func103, Tryz.ntmps103
  go_wp2_with fail
  refine HG.out.mono ?_
  rintro e w1 ⟨rfl, rfl⟩
  go_wp2_with fail
  refine HB.out.mono ?_
  rintro e w1 ⟨rfl, hc1, h2⟩
  have hC1 : Chg (N :: Z) w w1 := hc1.mono (fun x hx _ => by rw [List.mem_singleton] at hx; simp [hx])
  have e2 : w1.cell? ⟨N, 2, none⟩ = some (.slice (some ⟨A, 0, none⟩) 8 c) := cell_is h2.hdr 2 rfl
  have hc8 := h2.cap
  have hg0 : goodF gs zs 0 = gs := by funext k; simp [goodF]
  rw [← hg0] at h2
  clear hc1 HG HB
  go_wp2_with fail
  go_loopw [17] (fun i wr => ∃ j : Nat, i = .int .i64 j ∧ j ≤ 8 ∧ DevG wr base N A c (ops + 1) Z vs (goodF gs zs j) zs ∧ Chg (N :: Z) w wr) (fun i _ => 8 - (intOf i).toNat)
  case atStart => exact ⟨0, rfl, by omega, h2, hC1⟩
  case round =>
    obtain ⟨j, rfl, hj, hD, hC⟩ := hrel
    by_cases hlt : j < 8
    · have hjz : j < Z.length := by have := hD.len; omega
      have hm : Z[j] ∈ Z := List.getElem_mem hjz
      obtain ⟨xs, ho, -⟩ := hD.rows j hlt
      obtain ⟨pa, cv, hv, -⟩ := own_form ho
      have hfin : ∀ w', w' = wr.setCell ⟨Z[j], 1, none⟩ (.int .i64 (zs j).length) → DevG w' base N A c (ops + 1) Z vs (goodF gs zs (j + 1)) zs ∧ Chg (N :: Z) w w' := by
        rintro w' rfl
        exact ⟨goodF_succ gs zs j ▸ hD.setGood hjz _, hC.then_set (fun _ => List.mem_cons_of_mem _ hm) _ _⟩
      have a0 := hD.ptr j hjz
      have k0 := hD.zone j hjz
      rw [hv] at k0
      have b0 : wr.cell? ⟨Z[j], 0, none⟩ = some (.slice pa (zs j).length cv) := cell_is k0 0 rfl
      have b1 : wr.cell? ⟨Z[j], 1, none⟩ = some (.int .i64 (goodF gs zs j j : Nat)) := cell_is k0 1 rfl
      have f1 := unfrozen k0 1
      have HF := Lib.hid hfin
      clear hfin hD hC k0 h2 hC1 e2 hm ho hv
      generalize Z[j] = z at *
      go_wp2_with fail
      go_roundw
      case rel => exact ⟨j + 1, by go_num, by omega, HF.out _ rfl⟩
      case measure => simp [intOf]; omega
    · obtain rfl : j = 8 := by omega
      go_wp2_with fail
      go_ret
      exact ⟨rfl, hC, hD⟩
end Go.Proofs.YtfodeeejolkkfaaGreat
namespace Go.Proofs.YtfodeeejolkkfaaGreat
open Go.RowKit Go.Lib

/-- a bool is handed back. -/
def isB (e : Ending) : Prop := ∃ r : Bool, e = .returned (.bool r)
set_option maxRecDepth 100000 in
theorem imay_any (w : World) (b n : Int) : Calls Tryz.prog 245 #[.agg #[.int .i64 b, .int .i64 n]] w fun e w' => isB e ∧ Chg [] w w' := by
  have kc : Chg [] w (w.alloc (.cells #[.int .i64 b, .int .i64 n] 117)) := Chg.alloc w _
  by_cases h0 : 0 ≤ b
  · by_cases h1 : b ≤ 1048576
    · by_cases h2 : 1 ≤ n
      · by_cases h3 : n ≤ 1048576
        · have n0 : decide (0 ≤ b) = true := decide_eq_true h0
          have n1 : decide (b ≤ 1048576) = true := decide_eq_true h1
          have n2 : decide (1 ≤ n) = true := decide_eq_true h2
          have n3 : decide (n ≤ 1048576) = true := decide_eq_true h3
          go_enter Tryz.func245, Tryz.ntmps245
          go_wp2_with fail
          go_ret
          exact ⟨⟨_, rfl⟩, kc⟩
        · have n0 : decide (0 ≤ b) = true := decide_eq_true h0
          have n1 : decide (b ≤ 1048576) = true := decide_eq_true h1
          have n2 : decide (1 ≤ n) = true := decide_eq_true h2
          have n3 : decide (n ≤ 1048576) = false := decide_eq_false h3
          go_enter Tryz.func245, Tryz.ntmps245
          go_wp2_with fail
          go_ret
          exact ⟨⟨_, rfl⟩, kc⟩
      · have n0 : decide (0 ≤ b) = true := decide_eq_true h0
        have n1 : decide (b ≤ 1048576) = true := decide_eq_true h1
        have n2 : decide (1 ≤ n) = false := decide_eq_false h2
        go_enter Tryz.func245, Tryz.ntmps245
        go_wp2_with fail
        go_ret
        exact ⟨⟨_, rfl⟩, kc⟩
    · have n0 : decide (0 ≤ b) = true := decide_eq_true h0
      have n1 : decide (b ≤ 1048576) = false := decide_eq_false h1
      go_enter Tryz.func245, Tryz.ntmps245
      go_wp2_with fail
      go_ret
      exact ⟨⟨_, rfl⟩, kc⟩
  · have n0 : decide (0 ≤ b) = false := decide_eq_false h0
    go_enter Tryz.func245, Tryz.ntmps245
    go_wp2_with fail
    go_ret
    exact ⟨⟨_, rfl⟩, kc⟩
set_option maxRecDepth 100000 in
theorem inot_any (w : World) (b n : Int) : Calls Tryz.prog 244 #[.agg #[.int .i64 b, .int .i64 n]] w fun e w' => isB e ∧ Chg [] w w' := by
  have kc : Chg [] w (w.alloc (.cells #[.int .i64 b, .int .i64 n] 117)) := Chg.alloc w _
  go_enter Tryz.func244, Tryz.ntmps244
  go_wp2_with fail
  refine (imay_any _ b n).mono ?_
  rintro e w2 ⟨⟨r, rfl⟩, k2⟩
  cases r
  all_goals
    go_wp2_with fail
    go_ret
    exact ⟨⟨_, rfl⟩, kc.then k2⟩
theorem SpQ.get {w : World} {pa : Option Addr} {l : List (Int × Int)} (h : SpQ w pa l) (j : Nat) (hj : j < l.length) : ∃ b o, pa = some ⟨b, o, none⟩ ∧ w.cell? ⟨b, o + j * 2, none⟩ = some (.int .i64 l[j].1) ∧ w.cell? ⟨b, o + j * 2 + 1, none⟩ = some (.int .i64 l[j].2) := by
  rcases h with ⟨rfl, _⟩ | ⟨b, o, rfl, h⟩
  · simp at hj
  · have hc : ∀ (l : List (Int × Int)) (j : Nat) (hj : j < l.length), (spCells l)[j * 2]? = some (.int .i64 l[j].1) ∧ (spCells l)[j * 2 + 1]? = some (.int .i64 l[j].2) := by
      intro l
      induction l with
      | nil => intro j hj; simp at hj
      | cons p l ih =>
        intro j hj
        cases j with
        | zero => exact ⟨rfl, rfl⟩
        | succ j =>
          have := ih j (by simpa using hj)
          have e1 : (j + 1) * 2 = j * 2 + 1 + 1 := by omega
          have e2 : spCells (p :: l) = .int .i64 p.1 :: .int .i64 p.2 :: spCells l := rfl
          rw [e1, e2]
          simpa using this
    obtain ⟨h1, h2⟩ := hc l j hj
    exact ⟨b, o, rfl, h _ _ h1, by have := h _ _ h2; rwa [← Nat.add_assoc] at this⟩
set_option maxRecDepth 100000 in
set_option maxHeartbeats 1000000 in
theorem idxspan_any (w : World) {pa : Option Addr} {m c : Nat} {l : List (Int × Int)} (hl : l.length = m) (hm : m ≤ 1000) (hs : SpQ w pa l) : Calls Tryz.prog 260 #[.slice pa m c, .func (.func 244) #[] #[]] w fun e w' => ∃ i : Int, e = .returned (.int .i64 i) ∧ Chg [] w w' ∧ -1 ≤ i ∧ i ≤ 1000 := by
  have HS := Lib.hid hs
  clear hs
  go_enter Tryz.func260, Tryz.ntmps260
  go_wp2_with fail
  go_loopw [8] (fun i wr => ∃ j : Nat, j ≤ m ∧ i = .int .i64 j ∧ Chg [] w wr) (fun i _ => m - (intOf i).toNat)
  case atStart => exact ⟨0, by omega, rfl, Chg.refl _ _⟩
  case round =>
    obtain ⟨j, hj, rfl, kr⟩ := hrel
    by_cases hlt : j < m
    · obtain ⟨b, o, rfl, c0, c1⟩ := (HS.out.keep kr).get j (by omega)
      generalize (l[j]'(by omega)).1 = x at *
      generalize (l[j]'(by omega)).2 = y at *
      go_wp2_with fail
      refine (inot_any wr x y).mono ?_
      rintro e w2 ⟨⟨r, rfl⟩, k2⟩
      have k3 := kr.then k2
      cases r
      · go_wp2_with fail
        go_roundw
        case rel => exact ⟨j + 1, by omega, by simp, k3⟩
        case measure => simp [intOf]; omega
      · go_wp2_with fail
        go_ret
        exact ⟨_, rfl, k3, by omega, by omega⟩
    · obtain rfl : j = m := by omega
      go_wp2_with fail
      go_ret
      exact ⟨_, rfl, kr, by omega, by omega⟩
set_option maxRecDepth 100000 in
theorem contspan_any (w : World) {pa : Option Addr} {m c : Nat} {l : List (Int × Int)} (hl : l.length = m) (hm : m ≤ 1000) (hs : SpQ w pa l) : Calls Tryz.prog 243 #[.slice pa m c, .func (.func 244) #[] #[]] w fun e w' => isB e ∧ Chg [] w w' := by
  have HI := Lib.hid (idxspan_any w (c := c) hl hm hs)
  clear hs
  go_enter Tryz.func243, Tryz.ntmps243
  go_wp2_with fail
  refine HI.out.mono ?_
  rintro e w2 ⟨i, rfl, k, -, -⟩
  go_wp2_with fail
  go_ret
  exact ⟨⟨_, rfl⟩, k⟩
set_option maxRecDepth 100000 in
theorem iall_any (w : World) {pa : Option Addr} {m c : Nat} {l : List (Int × Int)} (hl : l.length = m) (hm : m ≤ 1000) (hs : SpQ w pa l) : Calls Tryz.prog 220 #[.slice pa m c] w fun e w' => isB e ∧ Chg [] w w' := by
  have HI := Lib.hid (contspan_any w (c := c) hl hm hs)
  clear hs
  go_enter Tryz.func220, Tryz.ntmps220
  go_wp2_with fail
  refine HI.out.mono ?_
  rintro e w2 ⟨⟨r, rfl⟩, k⟩
  go_wp2_with fail
  go_ret
  exact ⟨⟨_, rfl⟩, k⟩
/-- a set of at most n spans, of which it may hold 'most'; its row lies behind base. -/
def SpW (w : World) (base V : Nat) (most : Nat) (n : Nat) : Prop := ∃ v l, w.heap[V]? = some (.cells #[.int .i64 most, v] 312 (0, 0)) ∧ l.length ≤ n ∧ w.ownsRow base 117 2 v l.length (spCells l)
theorem SpV.to {w : World} {base V n : Nat} (h : SpV w base V n) : SpW w base V 64 n := h
theorem SpW.keep {w w' : World} {S : List Nat} {base V most n : Nat} (h : SpW w base V most n) (hc : Chg S w w') (hS : Av w S [117, 312]) : SpW w' base V most n := by
  obtain ⟨v, l, h1, h2, h3⟩ := h
  exact ⟨v, l, hc.heap h1 (hS.ne h1 (by simp)), h2, ownsRow_av h3 hc (fun x hx cs t fr hh ht => hS x hx cs t fr hh (by simp at ht; simp [ht]))⟩
theorem SpW.keep0 {w w' : World} {base V most n : Nat} (h : SpW w base V most n) (hc : Chg [] w w') : SpW w' base V most n := h.keep hc (Av.nil _ _)
set_option maxRecDepth 100000 in
set_option maxHeartbeats 2000000 in
theorem iadd_any (w : World) {base V most n m c0' : Nat} {pe : Option Addr} {l2 : List (Int × Int)} (h : SpW w base V most n) (hn : n + m ≤ 12) (hbase : base ≤ w.heap.size) (hl2 : l2.length = m) (hE : SpQ w pe l2) :
    Calls Tryz.prog 197 #[.pointer (some ⟨V, 0, none⟩), .slice pe m c0'] w fun e w' => ∃ r : Int, e = .returned (.int .i64 r) ∧ Chg [V] w w' ∧ SpW w' base V most (n + m) := by
  obtain ⟨v, l, hV, hl, ho⟩ := h
  obtain ⟨pa, c, rfl, hq⟩ := own_spq ho
  have v1 : w.cell? ⟨V, 1, none⟩ = some (.slice pa l.length c) := cell_is hV 1 rfl
  go_enter Tryz.func197, Tryz.ntmps197
  go_wp2_with fail
  refine (iall_any w (c := c0') hl2 (by omega) hE).mono ?_
  rintro e w1 ⟨⟨r, rfl⟩, k1⟩
  have v2 := k1.cell v1 (by simp)
  have hq2 := hq.keep k1
  have hE2 := hE.keep k1
  have hV2 := k1.heap hV (by simp)
  have ho2 := ownsRow_chg ho k1
  have H0 := Lib.hid (show SpW w1 base V most (n + m) from ⟨_, l, hV2, by omega, ho2⟩)
  clear v1 hV hq hE ho
  have k1V : Chg [V] w w1 := k1.mono (fun x hx _ => by cases hx)
  cases r
  · go_wp2_with fail
    go_ret
    exact ⟨_, rfl, k1V, H0.out⟩
  · by_cases hm : m = 0
    · subst hm
      go_wp2_with fail
      go_ret
      exact ⟨_, rfl, k1V, H0.out⟩
    · have hmi : ¬ (m : Int) = 0 := by omega
      go_wp2_with fail
      have kx : Chg [] w1 (w1.alloc (.cells #[.slice pa l.length c, .slice pe m c0'] 217)) := Chg.alloc _ _
      have x0 : (w1.alloc (.cells #[.slice pa l.length c, .slice pe m c0'] 217)).cell? ⟨w1.heap.size, 0, none⟩ = some (.slice pa l.length c) := cell_is (heap_new w1 _) 0 rfl
      have x1 : (w1.alloc (.cells #[.slice pa l.length c, .slice pe m c0'] 217)).cell? ⟨w1.heap.size, 1, none⟩ = some (.slice pe m c0') := cell_is (heap_new w1 _) 1 rfl
      refine (concat_two _ x0 x1 rfl hl2 (by omega) (by omega) (by omega) (hq2.keep kx) (hE2.keep kx)).mono ?_
      rintro e w2 ⟨v', rfl, k2, o2⟩
      obtain ⟨g, cap, cur, rfl, hgb, hgc, hgs, _, hgl⟩ := own_sp o2 (by omega)
      have k3 := (k1.then kx).then k2
      go_wp2_with fail
      refine (joined_any w2 hgl (by omega) (by omega) hgs).mono ?_
      rintro e w3 ⟨v3, k, l3, rfl, k4, hk, hl3, o3⟩
      have k5 := k3.then k4
      have hV3 : w3.heap[V]? = some (.cells #[.int .i64 most, .slice pa l.length c] 312 (0, 0)) := ((kx.then k2).then k4).heap hV2 (by simp)
      have c0 : w3.cell? ⟨V, 0, none⟩ = some (.int .i64 most) := cell_is hV3 0 rfl
      have c1 : w3.cell? ⟨V, 1, none⟩ = some (.slice pa l.length c) := cell_is hV3 1 rfl
      have f1 := unfrozen hV3 1
      obtain ⟨pq, cq, hv3, hcq⟩ := own_form o3
      subst hv3
      have hsz := k3.size
      have HF := Lib.hid (show SpW (w3.setCell ⟨V, 1, none⟩ (.slice pq k cq)) base V most (n + m) from by
        refine ⟨_, l3, heap_set hV3 1 _ rfl, by omega, ?_⟩
        have kk := Chg.set w3 V 1 (.slice pq k cq)
        refine ownsRow_base (base := w2.heap.size) ?_ (by omega)
        rw [hl3]
        refine ownsRow_chg o3 kk ?_
        intro x hx
        have := heap_lt hV2
        have := (kx.then k2).size
        simp at hx
        omega)
      have HN := Lib.hid (show SpW w3 base V most (n + m) from ⟨_, l, hV3, by omega, ownsRow_chg ho2 ((kx.then k2).then k4)⟩)
      have k5V : Chg [V] w w3 := k5.mono (fun x hx _ => by cases hx)
      clear k3 k4 o3 hV3 hV2 x0 x1 hgs hgc o2 hq2 hE2 ho2 H0
      by_cases hcmp : (k : Int) > most
      · go_wp2_with fail
        go_ret
        exact ⟨_, rfl, k5V, HN.out⟩
      · go_wp2_with fail
        go_ret
        exact ⟨_, rfl, k5V.then (Chg.set w3 V 1 _), HF.out⟩
end Go.Proofs.YtfodeeejolkkfaaGreat
namespace Go.Proofs.YtfodeeejolkkfaaGreat
open Go.RowKit Go.Lib

set_option maxRecDepth 100000 in
theorem inewm_any (w : World) (k : Nat) : Calls Tryz.prog 167 #[.int .i64 k] w fun e w' => ∃ V, e = .returned (.pointer (some ⟨V, 0, none⟩)) ∧ Chg [] w w' ∧ SpW w' w.heap.size V k 0 ∧ w.heap.size ≤ V := by
  have h1 := heap_new w (.cells #[.int .i64 k, .slice none 0 0] 312)
  have hc : Chg [] w (w.alloc (.cells #[.int .i64 k, .slice none 0 0] 312)) := Chg.alloc w _
  go_enter Tryz.func167, Tryz.ntmps167
  go_wp2_with fail
  go_ret
  exact ⟨_, rfl, hc, ⟨_, [], h1, Nat.le_refl _, World.ownsRow_nil _ _ _ _⟩, Nat.le_refl _⟩
set_option maxRecDepth 100000 in
set_option maxHeartbeats 1000000 in
theorem clonesp_any (w : World) {pa : Option Addr} {m c : Nat} {l : List (Int × Int)} (hl : l.length = m) (hm : m ≤ 1000) (hs : SpQ w pa l) (hn0 : pa = none → m = 0 ∧ c = 0) : Calls Tryz.prog 217 #[.slice pa m c] w fun e w' => ∃ pb cb, e = .returned (.slice pb m cb) ∧ Chg [] w w' ∧ SpQ w' pb l := by
  rcases hs with ⟨rfl, rfl⟩ | ⟨b, o, rfl, hs⟩
  · obtain ⟨rfl, rfl⟩ := hn0 rfl
    have hq : ∀ w, (binOp .eql 217 (.slice none 0 0) (.slice none 0 0)).run Tryz.prog w = .ok (.bool true) w := fun w => by kernel_rfl
    go_enter Tryz.func217, Tryz.ntmps217
    go_wp2_with fail
    go_ret
    first | exact ⟨none, 0, rfl, Chg.refl _ _, Or.inl ⟨rfl, rfl⟩⟩ | exact ⟨none, ⟨0, rfl⟩, Chg.refl _ _, Or.inl ⟨rfl, rfl⟩⟩ | exact ⟨Chg.refl _ _, Or.inl ⟨rfl, rfl⟩⟩
  · have hq : ∀ w, (binOp .eql 217 (.slice (some ⟨b, o, none⟩) m c) (.slice none 0 0)).run Tryz.prog w = .ok (.bool false) w := fun w => Lib.run_eql_slice_nil w 217 117 _ _ _ 0 0 ty217
    have HB := Lib.hid (show SpQ w (some ⟨b, o, none⟩) l from Or.inr ⟨b, o, rfl, hs⟩)
    have HL := Lib.hid hl
    clear hs hl
    go_enter Tryz.func217, Tryz.ntmps217
    go_wp2_with (first | (at_builtin; refine wpList_append_spq rfl (.tmp 5) (.tmp 6) rfl w.heap.size _ 0 [] l rfl (own_empty2 w) (some ⟨b, o, none⟩) m c rfl HL.out (HB.out.keep (Chg.alloc w _)) (by omega) (by simp) ?_; intro v1 w1 h1))
    go_ret
    have h2 : w1.ownsRow w.heap.size 117 2 v1 l.length (spCells l) := by simpa [HL.out] using h1.1
    obtain ⟨pb, cb, rfl, hq⟩ := own_spq h2
    exact ⟨pb, cb, by show Ending.returned (.slice pb l.length cb) = _; rw [HL.out], Chg.of_below ((Below.of_alloc w _).trans h1.2.1), hq⟩
set_option maxRecDepth 100000 in
theorem extents_any (w : World) {base V most n : Nat} (h : SpW w base V most n) (hn : n ≤ 1000) : Calls Tryz.prog 194 #[.pointer (some ⟨V, 0, none⟩)] w fun e w' => ∃ pb m cb l, e = .returned (.slice pb m cb) ∧ Chg [] w w' ∧ SpQ w' pb l ∧ l.length = m ∧ m ≤ n := by
  obtain ⟨v, l, hV, hl, ho⟩ := h
  obtain ⟨pa, c, rfl, hq⟩ := own_spq ho
  have v1 : w.cell? ⟨V, 1, none⟩ = some (.slice pa l.length c) := cell_is hV 1 rfl
  have h0 : pa = none → l.length = 0 ∧ c = 0 := by
    rintro rfl
    rcases ho.2 with ⟨e, h0⟩ | ⟨g, cap, cur, e, _⟩
    · injection e with _ _ e3; exact ⟨h0, e3⟩
    · injection e with e1; cases e1
  have HC := Lib.hid (clonesp_any w (c := c) rfl (by omega) hq h0)
  clear hV ho hq h0
  go_enter Tryz.func194, Tryz.ntmps194
  go_wp2_with fail
  refine HC.out.mono ?_
  rintro e w1 ⟨pb, cb, rfl, k, hq⟩
  go_wp2_with fail
  go_ret
  exact ⟨pb, l.length, cb, l, rfl, k, hq, rfl, hl⟩
/-- an int is handed back. -/
def isI (e : Ending) : Prop := ∃ r : Int, e = .returned (.int .i64 r)
set_option maxRecDepth 100000 in
set_option maxHeartbeats 1000000 in
theorem count_any (w : World) {base V most n : Nat} (h : SpW w base V most n) (hn : n ≤ 1000) : Calls Tryz.prog 193 #[.pointer (some ⟨V, 0, none⟩)] w fun e w' => isI e ∧ Chg [] w w' := by
  have HE := Lib.hid (extents_any w h hn)
  clear h
  go_enter Tryz.func193, Tryz.ntmps193
  go_wp2_with fail
  refine HE.out.mono ?_
  rintro e w1 ⟨pb, m, cb, l, rfl, k1, hq, hl, hm⟩
  have HQ := Lib.hid hq
  clear hq
  go_wp2_with fail
  go_loopw [2, 4, 8] (fun s _ i wr => ∃ (j : Nat) (r : Int), j ≤ m ∧ i = .int .i64 j ∧ s = .int .i64 r ∧ Chg [] w1 wr) (fun _ _ i _ => m - (intOf i).toNat)
  case atStart => exact ⟨0, 0, by omega, rfl, rfl, Chg.refl _ _⟩
  case round =>
    obtain ⟨j, r, hj, rfl, rfl, kr⟩ := hrel
    by_cases hlt : j < m
    · obtain ⟨b, o, rfl, c0, c1⟩ := (HQ.out.keep kr).get j (by omega)
      generalize (l[j]'(by omega)).1 = x at *
      generalize (l[j]'(by omega)).2 = y at *
      go_wp2_with fail
      go_roundw
      case rel => exact ⟨j + 1, _, by omega, by simp, rfl, kr.then_alloc _⟩
      case measure => simp [intOf]; omega
    · obtain rfl : j = m := by omega
      go_wp2_with fail
      go_ret
      exact ⟨⟨_, rfl⟩, k1.then kr⟩
set_option maxRecDepth 100000 in
set_option maxHeartbeats 1000000 in
theorem vset_any (w : World) {base Q X W V n : Nat} {t : Int} (h : VwT w base Q X W V t n) (hs : SpV w base V n) (hn : n ≤ 12) : Calls Tryz.prog 156 #[.pointer (some ⟨Q, 0, none⟩)] w fun e w' => ∃ U lo, e = .returned (.pointer (some ⟨U, 0, none⟩)) ∧ Chg [] w w' ∧ SpW w' lo U 64 n ∧ w.heap.size ≤ U := by
  obtain ⟨s, m, xs, hq, -, -⟩ := h
  have HN := Lib.hid (inewm_any w 64)
  have hsz := heap_lt hq
  have HQ := Lib.hid hq
  have HS := Lib.hid hs.to
  clear hq hs
  go_enter Tryz.func156, Tryz.ntmps156
  go_wp2_with fail
  refine HN.out.mono ?_
  rintro e w1 ⟨U, rfl, k1, hU, lU⟩
  have q3 : w1.cell? ⟨Q, 3, none⟩ = some (.pointer (some ⟨V, 0, none⟩)) := cell_is (k1.heap HQ.out (by simp)) 3 rfl
  have hs1 := HS.out.keep0 k1
  have HU := Lib.hid hU
  clear hU
  go_wp2_with fail
  refine (extents_any w1 hs1 (by omega)).mono ?_
  rintro e w2 ⟨pb, m2, cb, l, rfl, k2, hq2, hl2, hm2⟩
  have hU2 := HU.out.keep0 k2
  go_wp2_with fail
  refine (iadd_any w2 (m := m2) hU2 (by omega) (by have := (k1.then k2).size; omega) hl2 hq2).mono ?_
  rintro e w3 ⟨r, rfl, k3, hU3⟩
  go_wp2_with fail
  go_ret
  refine ⟨U, w.heap.size, rfl, (k1.then k2).trans k3 (fun x hx hlt => by rw [List.mem_singleton] at hx; omega), ?_, lU⟩
  obtain ⟨v, l3, h1, h2, h3⟩ := hU3
  exact ⟨v, l3, h1, by omega, h3⟩
end Go.Proofs.YtfodeeejolkkfaaGreat
namespace Go.Proofs.YtfodeeejolkkfaaGreat
open Go.RowKit Go.Maps Go.Sort Go.Shelf

/-- a map without one key. -/
def delL : List (Int × Value) → Int → List (Int × Value)
  | [], _ => []
  | p :: l, k => if k = p.1 then l else p :: delL l k
theorem delL_none {L : List (Int × Value)} {k : Int} {i : Nat} (h : findL L k i = none) : delL L k = L := by
  induction L generalizing i with
  | nil => rfl
  | cons p l ih =>
    simp only [findL] at h
    split at h
    · cases h
    · rename_i hk
      simp only [delL, if_neg hk, ih h]
theorem delL_some {L : List (Int × Value)} {k : Int} {i : Nat} {x : Nat × Value} (h : findL L k i = some x) : delL L k = L.eraseIdx (x.1 - i) := by
  induction L generalizing i with
  | nil => cases h
  | cons p l ih =>
    simp only [findL] at h
    split at h
    · rename_i hk
      injection h with h
      subst h
      simp [delL, hk]
    · rename_i hk
      have h2 := findL_ge h
      have e : x.1 - i = (x.1 - (i + 1)) + 1 := by omega
      rw [e]
      simp only [delL, if_neg hk, ih h, List.eraseIdx_cons_succ]
theorem erase_map {α β : Type} (f : α → β) (l : List α) (i : Nat) : (l.eraseIdx i).map f = (l.map f).eraseIdx i := by
  induction l generalizing i with
  | nil => rfl
  | cons a l ih =>
    cases i with
    | zero => rfl
    | succ i => simp [ih]
theorem run_delete_im {P : Program} {w : World} {mty kt et : TypeId} (hm : P.underlying mty = some (.map kt et)) (hk : P.underlying kt = some (.int .i64)) {r : Nat} {L : List (Int × Value)} (hM : MapAt w r L) (k : Int) (ty : TypeId) :
    ∃ w', (Builtin.delete_ #[mty, kt] ty #[.map (some r), .int .i64 k]).run P w = .ok (.tuple #[]) w' ∧ MapAt w' r (delL L k) ∧ Chg [r] w w' ∧ w'.heap.size = w.heap.size := by
  obtain ⟨es, clock, hb, hI, hS⟩ := hM
  have hf := findNow_im .i64 k es.toList L hI 0
  have hc : ∀ e, (Instr.checkKey e 10000 kt (.int .i64 k)).run P w = .ok () w := fun e => MapKept.run_checkKey (k := .int .i64 k) hk (by simp [MapKept.IsKey]) e 9999
  cases hfl : findL L k 0 with
  | none =>
    rw [hfl] at hf
    refine ⟨mapSet w r (.map es clock), ?_, ⟨_, _, mapSet_heap hb, ?_, hS⟩, mapSet_chg _ _ _, by simp [mapSet]⟩
    · simp [Builtin.delete_, run_underlying hm, MapKept.run_getObj_map hb, hc, MapKept.run_findKey hk hf, MapKept.run_setObj_map _ hb, Result.andThen, mapSet]
    · rw [delL_none hfl]
      exact hI
  | some x =>
    rw [hfl] at hf
    obtain ⟨i, u⟩ := x
    refine ⟨mapSet w r (.map (es.eraseIdxIfInBounds i) clock), ?_, ⟨_, _, mapSet_heap hb, ?_, MapKept.stamped_erase hS i⟩, mapSet_chg _ _ _, by simp [mapSet]⟩
    · simp [Builtin.delete_, run_underlying hm, MapKept.run_getObj_map hb, hc, MapKept.run_findKey hk hf, MapKept.run_setObj_map _ hb, Result.andThen, mapSet]
    · rw [delL_some hfl]
      unfold IM at hI ⊢
      have e : (es.eraseIdxIfInBounds i).toList = es.toList.eraseIdx i := by
        unfold Array.eraseIdxIfInBounds
        split
        · simp
        · rename_i h
          rw [List.eraseIdx_of_length_le]
          simpa using h
      rw [e, Nat.sub_zero, erase_map, erase_map, hI]
/-- ints in order. -/
def sortI (l : List Int) : List Int := l.mergeSort (fun x y => decide (x ≤ y))
theorem sortI_perm (l : List Int) : (sortI l).Perm l := List.mergeSort_perm l _
theorem sortI_length (l : List Int) : (sortI l).length = l.length := (sortI_perm l).length_eq
theorem owns_any {w : World} {r : Nat} {L : List (Int × Value)} (h : MapAt w r L) (k : TypeId) (hk : Tryz.prog.underlying k = some (.int .i64)) (hw : ∀ p ∈ L, (Lit.int .i64 p.1).wf = true) (hl : L.length ≤ maxLen) :
    ∃ D : DataW Unit, w.ownsMap Tryz.prog k (fun _ => some (.nil, [])) r L.length D ∧ (intKeys D).Perm (L.map Prod.fst) ∧ Maps.size D = L.length := by
  obtain ⟨es, clock, hb, hI, hS⟩ := h
  have hrd : ∀ x ∈ es.toList, ∃ a : Int, Go.WideElems.rd Tryz.prog k (fun _ => some ((.nil : DataW Unit), [])) x = some (.int .i64 a, .nil) ∧ x.key = .int .i64 a := by
    intro x hx
    have h1 : (x.key, x.val) ∈ es.toList.map (fun e => (e.key, e.val)) := List.mem_map.2 ⟨x, hx, rfl⟩
    rw [hI] at h1
    obtain ⟨p, hp, e⟩ := List.mem_map.1 h1
    have e1 : x.key = .int .i64 p.1 := (congrArg Prod.fst e).symm
    refine ⟨p.1, ?_, e1⟩
    unfold Go.WideElems.rd
    rw [e1, Go.Maps.keyOf_int_mk hk (hw p hp)]
    rfl
  have hlen : es.size = L.length := by
    have := congrArg List.length hI
    simpa using this
  have hmap : (es.toList.map (Go.WideElems.rg Tryz.prog k (fun _ => some ((.nil : DataW Unit), [])))).map (fun p => Go.intOf p.1) = L.map Prod.fst := by
    have e1 : (es.toList.map (Go.WideElems.rg Tryz.prog k (fun _ => some ((.nil : DataW Unit), [])))).map (fun p => Go.intOf p.1) = es.toList.map (fun x => match x.key with | .int _ a => a | _ => 0) := by
      rw [List.map_map]
      refine List.map_congr_left (fun x hx => ?_)
      obtain ⟨a, h1, h2⟩ := hrd x hx
      simp only [Function.comp, Go.WideElems.rg, h1, Option.getD_some, h2]
      rfl
    have e2 : es.toList.map (fun x => match x.key with | .int _ a => a | _ => 0) = (es.toList.map (fun e => (e.key, e.val))).map (fun p => match p.1 with | .int _ a => a | _ => 0) := by
      rw [List.map_map]; rfl
    rw [e1, e2, hI, List.map_map]
    rfl
  refine ⟨.map ((es.toList.map (Go.WideElems.rg Tryz.prog k (fun _ => some (.nil, [])))).foldr DataW.insert []), ⟨es, clock, hb, ⟨by omega, hS, fun x hx => ?_⟩, by omega, rfl⟩, ?_, ?_⟩
  · obtain ⟨a, h1, _⟩ := hrd x hx
    exact ⟨_, h1⟩
  · rw [← hmap]
    exact (Go.WideShapes.sorted_perm _).map _
  · rw [Maps.size_eq, (Go.WideShapes.sorted_perm _).length_eq, List.length_map, Array.length_toList, hlen]
set_option maxRecDepth 100000 in
/-- slices.Sorted(maps.Keys(m)). -/
theorem sortedA_any (W : World) {r : Nat} {L : List (Int × Value)} (h : MapAt W r L) (hw : ∀ p ∈ L, (Lit.int .i64 p.1).wf = true) (hl : L.length ≤ 100000) :
    Calls Tryz.prog 150 #[.func (.func 188) #[] #[.pointer (some ⟨W.heap.size, 0, none⟩)]] (W.alloc (.cells #[.map (some r)] 151)) fun e w' => ∃ v, e = .returned v ∧ w'.ownsRow W.heap.size 3 1 v L.length ((sortI (L.map Prod.fst)).map encZ) ∧ Chg [] W w' := by
  obtain ⟨D, hown, hp, hsz⟩ := owns_any (h.keep (Chg.alloc (S := []) W (.cells #[.map (some r)] 151)) (by simp)) 3 (by kernel_rfl) hw (by unfold maxLen; omega)
  have hseq : SeqGives Fence.wide 2 Tryz.prog 188 #[.pointer (some ⟨W.heap.size, 0, none⟩)] encZ (fun ss => ss.Perm (intKeys D)) (Maps.size D) (W.alloc (.cells #[.map (some r)] 151)) :=
    AnyZI.keys_gives (ρ := Tryz.keysA_ren) { Tryz.keysA with } Fence.wide _ trivial rfl (by omega) W.heap.size r L.length D _ (by simp) (by simp) hown
  have cS := AnyZI.sorted_in Tryz.sortedA Fence.wide 5 trivial trivial trivial trivial rfl (by omega) (sorts_all _) (enters_of Tryz.func187 (by kernel_rfl) rfl) 188 #[.pointer (some ⟨W.heap.size, 0, none⟩)] trivial (enters_of Tryz.func188 (by kernel_rfl) rfl) _ (Maps.size D) (by rw [hsz]; unfold maxLen; omega) (by rw [hsz]; omega) _ hseq
  refine (callsIn_wide.1 cS).mono ?_
  rintro e w' ⟨v, ss, rfl, hS, hrow, hnil, hbl⟩
  have hs : ss.mergeSort (fun x y => decide (x ≤ y)) = sortI (L.map Prod.fst) := mergeSort_of_perm_i (hS.trans hp)
  have hsl : ss.length = L.length := by rw [(hS.trans hp).length_eq, List.length_map]
  rw [hs, hsl] at hrow
  exact ⟨v, rfl, own_base hrow (by simp), (Chg.alloc W _).then (Chg.of_below hbl)⟩
end Go.Proofs.YtfodeeejolkkfaaGreat
namespace Go.Proofs.YtfodeeejolkkfaaGreat
open Go.RowKit Go.Lib

theorem wf_i64 {x : Int} (h0 : -9223372036854775808 ≤ x) (h1 : x ≤ 9223372036854775807) : (Lit.int .i64 x).wf = true := by
  have e1 : IntKind.i64.min = -9223372036854775808 := by decide
  have e2 : IntKind.i64.max = 9223372036854775807 := by decide
  simp only [Lit.wf, e1, e2, Bool.and_eq_true, decide_eq_true_eq]
  omega
theorem ty69 : Tryz.prog.underlying 69 = some (.slice 92) := by kernel_rfl
theorem inf92 : (Tryz.prog.info? 92).map (fun i => (i.zero, i.size, i.bytes)) = some (some (.agg #[.int .i64 0, .slice none 0 0]), 2, 32) := by kernel_rfl
/-- puts (a block's number, its bytes) in an own row. -/
def PutsAt (w : World) (base : Nat) (v : Value) (l : List (Int × List UInt8)) : Prop :=
  ∃ xs, w.ownsRow base 92 2 v l.length xs ∧ ∀ i (h : i < l.length), xs[i * 2]? = some (.int .i64 l[i].1) ∧ ∃ g c, xs[i * 2 + 1]? = some (.slice (some ⟨g, 0, none⟩) 40 c) ∧ Bs w (some ⟨g, 0, none⟩) l[i].2 ∧ l[i].2.length = 40 ∧ Bt w g
theorem PutsAt.nil (w : World) (base : Nat) : PutsAt w base (.slice none 0 0) [] := ⟨[], World.ownsRow_nil _ _ _ _, fun i h => by simp at h⟩
theorem PutsAt.block {w : World} {lo : Nat} {v : Value} {l : List (Int × List UInt8)} (h : PutsAt w lo v l) : ∀ g, v.ownBlock = some g → lo ≤ g ∧ ∃ cs, w.heap[g]? = some (.cells cs 92 (0, 0)) := by
  intro g hg
  obtain ⟨xs, ho, -⟩ := h
  exact own_elem ho hg
theorem PutsAt.keep {w w' : World} {T : List Nat} {lo : Nat} {v : Value} {l : List (Int × List UInt8)} (h : PutsAt w lo v l) (hc : Chg T w w') (hT : Av w T [5]) (hv : ∀ g, v.ownBlock = some g → g ∉ T) : PutsAt w' lo v l := by
  obtain ⟨xs, ho, hx⟩ := h
  refine ⟨xs, ?_, fun i hi => ?_⟩
  · refine ⟨ho.1, ?_⟩
    rcases ho.2 with hn | ⟨g, cap, cur, rfl, hb, hg, rest⟩
    · exact Or.inl hn
    · exact Or.inr ⟨g, cap, cur, rfl, hb, hc.heap hg (hv g rfl), rest⟩
  · obtain ⟨h0, g, c, h1, h2, h3, cs, h4⟩ := hx i hi
    have hg : g ∉ T := hT.ne h4 (by simp)
    exact ⟨h0, g, c, h1, h2.chgT hc hg, h3, cs, hc.heap h4 hg⟩
theorem PutsAt.keep0 {w w' : World} {lo : Nat} {v : Value} {l : List (Int × List UInt8)} (h : PutsAt w lo v l) (hc : Chg [] w w') : PutsAt w' lo v l := h.keep hc (Av.nil _ _) (fun _ _ => by simp)
/-- .. when a put is put behind them. -/
theorem PutsAt.push {w w' : World} {base gb cb n : Nat} {v v' : Value} {l : List (Int × List UInt8)} {k : Int} {b : List UInt8} {xs : List Value} (hx : ∀ i (h : i < l.length), xs[i * 2]? = some (.int .i64 l[i].1) ∧ ∃ g c, xs[i * 2 + 1]? = some (.slice (some ⟨g, 0, none⟩) 40 c) ∧ Bs w (some ⟨g, 0, none⟩) l[i].2 ∧ l[i].2.length = 40 ∧ Bt w g)
    (hl : xs.length = l.length * 2) (hn : n = l.length) (hv : ∀ g, v.ownBlock = some g → ∃ cs, w.heap[g]? = some (.cells cs 92 (0, 0))) (ho : w'.ownsRow base 92 2 v' (n + 1) (xs ++ [.int .i64 k, .slice (some ⟨gb, 0, none⟩) 40 cb])) (hc : Chg v.ownBlock.toList w w')
    (hb : Bs w (some ⟨gb, 0, none⟩) b) (hb4 : b.length = 40) (hbt : Bt w gb) : PutsAt w' base v' (l ++ [(k, b)]) := by
  subst hn
  have hne : ∀ {g}, Bt w g → g ∉ v.ownBlock.toList := by
    rintro g ⟨cs2, h2⟩ hm
    obtain ⟨cs, h1⟩ := hv g (by simpa using hm)
    rw [h1] at h2
    cases h2
  have keepB : ∀ {g}, Bt w g → Bt w' g := fun {g} h => by
    obtain ⟨cs, h2⟩ := id h
    exact ⟨cs, hc.heap h2 (hne h)⟩
  refine ⟨_, by rw [List.length_append]; exact ho, fun i hi => ?_⟩
  by_cases h : i < l.length
  · obtain ⟨h0, g, c, h1, h2, h3, h4⟩ := hx i h
    rw [List.getElem_append_left h]
    exact ⟨by rw [List.getElem?_append_left (by omega)]; exact h0, g, c, by rw [List.getElem?_append_left (by omega)]; exact h1, h2.chgT hc (hne h4), h3, keepB h4⟩
  · have hi2 : i = l.length := by simp at hi; omega
    subst hi2
    have e : (l ++ [(k, b)])[l.length]'(by simp) = (k, b) := by simp
    rw [e]
    exact ⟨by rw [← hl]; simp, gb, cb, by rw [← hl, List.getElem?_append_right (by omega)]; simp, hb.chgT hc (hne hbt), hb4, keepB hbt⟩
/-- a buffer's entries are blocks' bytes. -/
def BufD (w : World) (L : List (Int × Value)) (D : Int → List UInt8) : Prop := ∀ k v, getL L k = some v → ∃ g c, v = .slice (some ⟨g, 0, none⟩) 40 c ∧ Bs w (some ⟨g, 0, none⟩) (D k) ∧ (D k).length = 40 ∧ Bt w g
theorem BufD.keep {w w' : World} {L : List (Int × Value)} {D : Int → List UInt8} (h : BufD w L D) (hc : Chg [] w w') : BufD w' L D := fun k v hv => by
  obtain ⟨g, c, h1, h2, h3, cs, h4⟩ := h k v hv
  exact ⟨g, c, h1, h2.chg hc, h3, cs, hc.heap h4 (by simp)⟩
/-- the puts of a buffer, by rising number. -/
def putsL (L : List (Int × Value)) (D : Int → List UInt8) : List (Int × List UInt8) := (sortI (L.map Prod.fst)).map fun k => (k, D k)
theorem putsL_length (L : List (Int × Value)) (D : Int → List UInt8) : (putsL L D).length = L.length := by simp [putsL, sortI_length]
theorem getL_key {L : List (Int × Value)} {k : Int} (h : k ∈ L.map Prod.fst) : ∃ v, getL L k = some v := by
  induction L with
  | nil => simp at h
  | cons p l ih =>
    simp only [getL]
    by_cases e : k = p.1
    · exact ⟨_, if_pos e⟩
    · rw [if_neg e]
      simp only [List.map_cons, List.mem_cons] at h
      exact ih (h.resolve_left e)
set_option maxRecDepth 100000 in
set_option maxHeartbeats 2000000 in
theorem bputs_any (w : World) {W rw : Nat} {L : List (Int × Value)} {D : Int → List UInt8} (h : BufAt w W rw L) (hD : BufD w L D) (hk : ∀ x ∈ L, 0 ≤ x.1 ∧ x.1 < 258) (hl : L.length ≤ 1000) : Calls Tryz.prog 136 #[.pointer (some ⟨W, 0, none⟩)] w fun e w' =>
    ∃ v, e = .returned v ∧ Chg [] w w' ∧ PutsAt w' w.heap.size v (putsL L D) := by
  have c2 : w.cell? ⟨W, 2, none⟩ = some (.map (some rw)) := cell_is h.1 2 rfl
  have HS := Lib.hid (sortedA_any w h.2 (fun p hp => wf_i64 (by have := hk p hp; omega) (by have := hk p hp; omega)) (by omega))
  have HB := Lib.hid h
  have HD := Lib.hid hD
  have HK := Lib.hid hk
  clear h hD hk
  go_enter Tryz.func136, Tryz.ntmps136
  go_wp2_with (first
    | (go_at_call 151; refine (keysA_any (some rw) _).mono ?_; rintro e w1 ⟨rfl, rfl⟩)
    | (go_at_call 150; refine HS.out.mono ?_; rintro e w2 ⟨v2, rfl, o2, k2⟩; obtain ⟨pk, ck, rfl, hck⟩ := own_form o2))
  have hsl : (sortI (L.map Prod.fst)).length = L.length := by rw [sortI_length, List.length_map]
  have hmem : ∀ k, k ∈ sortI (L.map Prod.fst) → ∃ v, getL L k = some v := fun k hk => getL_key ((sortI_perm _).mem_iff.1 hk)
  have hpl : putsL L D = (sortI (L.map Prod.fst)).map fun k => (k, D k) := rfl
  have HP := Lib.hid hpl
  have HM := Lib.hid hmem
  have O2 := Lib.hid o2
  clear hmem hpl o2
  generalize hks : sortI (L.map Prod.fst) = ks at *
  have c22 := k2.cell c2 (by simp)
  generalize hn : L.length = n at *
  have hcki : (n : Int) ≤ ck := by omega
  go_loopw [2, 4, 14] (fun v _ i wr => ∃ j : Nat, j ≤ n ∧ i = .int .i64 j ∧ Chg [] w2 wr ∧ PutsAt wr w2.heap.size v ((ks.take j).map fun k => (k, D k))) (fun _ _ i _ => n - (intOf i).toNat)
  case atStart => exact ⟨0, by omega, rfl, Chg.refl _ _, PutsAt.nil _ _⟩
  case round =>
    obtain ⟨j, hj, rfl, kr, hp⟩ := hrel
    by_cases hlt : j < n
    · have hjk : j < ks.length := by omega
      obtain ⟨v, hv⟩ := HM.out ks[j] (List.getElem_mem hjk)
      obtain ⟨g, cg, rfl, hb, hb4, hbt⟩ := HD.out _ _ hv
      have kwr : Chg [] w wr := k2.then kr
      have hlook : (Instr.lookup 151 (.map (some rw)) (.int .i64 ks[j]) false).run Tryz.prog wr = .ok (.slice (some ⟨g, 0, none⟩) 40 cg) wr := by
        have := lookup151 (HB.out.2.keep kwr (by simp)) ks[j] false
        rw [hv] at this
        exact this
      have ck0 : ∃ gk, pk = some ⟨gk, 0, none⟩ ∧ wr.cell? ⟨gk, j, none⟩ = some (.int .i64 ks[j]) := by
        rcases O2.out.2 with ⟨_, h0⟩ | ⟨gk, cap, cur, e, hA, hg, hc1, hc2, hc3, ht⟩
        · omega
        · injection e with e1
          refine ⟨gk, e1, kr.cell (cell_is hg j ?_) (by simp)⟩
          have h1 : (ks.map encZ)[j]? = some (.int .i64 ks[j]) := by simp [hjk]
          rw [← ht, List.getElem?_take_of_lt (by omega), Array.getElem?_toList] at h1
          exact h1
      obtain ⟨gk, rfl, ck1⟩ := ck0
      have cw2 := kr.cell c22 (by simp)
      have HBs := Lib.hid (hb.chg kwr)
      have HPt := Lib.hid hp
      have HTk := Lib.hid (show (ks.take (j + 1)).map (fun k => (k, D k)) = (ks.take j).map (fun k => (k, D k)) ++ [(ks[j], D ks[j])] by rw [List.take_succ_eq_append_getElem hjk, List.map_append]; rfl)
      have HL4 := Lib.hid hb4
      have HBt := Lib.hid hbt
      clear hb hp hb4 hbt hv
      generalize ks[j] = k at *
      go_wp2_with fail
      refine (clone_bt wr HL4.out (by decide) (by decide) HBs.out).mono ?_
      rintro e w3 ⟨g2, c2, rfl, k3, b3, l3, t3⟩
      obtain ⟨xs, ho3, hx3⟩ := HPt.out.keep0 k3
      have hpl3 : ((ks.take j).map fun k => (k, D k)).length = j := by simp; omega
      have hb23 := (HPt.out.keep0 k3).block
      have hs3 : w2.heap.size ≤ w3.heap.size := (kr.then k3).size
      have B3 := Lib.hid b3
      have T3 := Lib.hid t3
      have HX3 := Lib.hid hx3
      have HO3 := Lib.hid ho3
      have H23 := Lib.hid hb23
      clear b3 t3 hx3 hb23 ho3
      go_wp2_with (at_builtin; refine wpList_append_lit rfl (.tmp 18) (.tmp 28) 69 92 rfl ty69 inf92 rfl (by decide) w2.heap.size w3 [.int .i64 k, .slice (some ⟨g2, 0, none⟩) 40 c2] 1 rfl _ ((ks.take j).map fun k => (k, D k)).length xs rfl HO3.out (by omega) (by decide) hs3 (k := 0) rfl (by simp [Value.oneCell']) rfl 1 rfl ?_; intro v' w4 hap)
      have hxl : xs.length = ((ks.take j).map fun k => (k, D k)).length * 2 := HO3.out.1
      have hfin : PutsAt w4 w2.heap.size v' (((ks.take j).map fun k => (k, D k)) ++ [(k, D k)]) := PutsAt.push HX3.out hxl rfl (fun g hg => (H23.out g hg).2) hap.1 (Chg.own hap.2.2 (fun g hg _ => by have hg2 : u2.ownBlock = some g := hg; simp [hg2])) B3.out HL4.out T3.out
      rw [← HTk.out] at hfin
      go_roundw
      case rel => exact ⟨j + 1, by omega, by simp, Chg.of_below ((kr.then k3).below0.trans hap.2.1), hfin⟩
      case measure => simp [intOf]; omega
    · obtain rfl : j = n := by omega
      go_wp2_with fail
      go_ret
      refine ⟨_, rfl, k2.then kr, ?_⟩
      rw [HP.out]
      rw [List.take_of_length_le (by omega)] at hp
      obtain ⟨xs, ho, hx⟩ := hp
      exact ⟨xs, own_base ho k2.size, hx⟩
end Go.Proofs.YtfodeeejolkkfaaGreat
namespace Go.Proofs.YtfodeeejolkkfaaGreat
open Go.RowKit Go.Lib

set_option maxRecDepth 100000 in
theorem blen_any (w : World) {W rw : Nat} {L : List (Int × Value)} {D : Int → List UInt8} (h : BufAt w W rw L) (hD : BufD w L D) (hk : ∀ x ∈ L, 0 ≤ x.1 ∧ x.1 < 258) (hl : L.length ≤ 1000) : Calls Tryz.prog 95 #[.pointer (some ⟨W, 0, none⟩)] w fun e w' => e = .returned (.int .i64 L.length) ∧ Chg [] w w' := by
  have HP := Lib.hid (bputs_any w h hD hk hl)
  clear h hD hk
  go_enter Tryz.func95, Tryz.ntmps95
  go_wp2_with fail
  refine HP.out.mono ?_
  rintro e w1 ⟨v, rfl, k, xs, ho, -⟩
  obtain ⟨pa, c, rfl, -⟩ := own_form ho
  go_wp2_with fail
  go_ret
  exact ⟨by rw [← putsL_length L D]; rfl, k⟩
/-- one put, at its place. -/
theorem PutsAt.get {w : World} {lo : Nat} {v : Value} {l : List (Int × List UInt8)} (h : PutsAt w lo v l) (k : Nat) (hk : k < l.length) : ∃ g cap gd cd, v = .slice (some ⟨g, 0, none⟩) l.length cap ∧ l.length ≤ cap ∧
    w.cell? ⟨g, k * 2, none⟩ = some (.int .i64 l[k].1) ∧ w.cell? ⟨g, k * 2 + 1, none⟩ = some (.slice (some ⟨gd, 0, none⟩) 40 cd) ∧ Bs w (some ⟨gd, 0, none⟩) l[k].2 ∧ l[k].2.length = 40 ∧ Bt w gd := by
  obtain ⟨xs, ho, hx⟩ := h
  obtain ⟨h0, gd, cd, h1, h2, h3, h4⟩ := hx k hk
  rcases ho.2 with ⟨_, e⟩ | ⟨g, cap, cur, rfl, hA, hg, hc1, hc2, hc3, ht⟩
  · omega
  · refine ⟨g, cap, gd, cd, rfl, hc1, cell_is hg _ ?_, cell_is hg _ ?_, h2, h3, h4⟩
    · rw [← ht, List.getElem?_take_of_lt (by omega), Array.getElem?_toList] at h0
      exact h0
    · rw [← ht, List.getElem?_take_of_lt (by omega), Array.getElem?_toList] at h1
      exact h1
set_option maxRecDepth 100000 in
set_option maxHeartbeats 2000000 in
theorem bset_any (w : World) {W rw : Nat} {L : List (Int × Value)} {D : Int → List UInt8} (h : BufAt w W rw L) (hD : BufD w L D) (hk : ∀ x ∈ L, 0 ≤ x.1 ∧ x.1 < 258) (hl : L.length ≤ 12) : Calls Tryz.prog 157 #[.pointer (some ⟨W, 0, none⟩)] w fun e w' =>
    ∃ U lo most, e = .returned (.pointer (some ⟨U, 0, none⟩)) ∧ Chg [] w w' ∧ SpW w' lo U most 12 ∧ w.heap.size ≤ U := by
  have HP := Lib.hid (bputs_any w h hD hk (by omega))
  clear h hD hk
  go_enter Tryz.func157, Tryz.ntmps157
  go_wp2_with fail
  refine HP.out.mono ?_
  rintro e w1 ⟨v, rfl, k1, hp⟩
  obtain ⟨pa, c, rfl, hcap⟩ := own_form hp.choose_spec.1
  have hpl : (putsL L D).length ≤ 12 := by rw [putsL_length]; exact hl
  have HPt := Lib.hid hp
  clear hp
  generalize putsL L D = l at *
  go_wp2_with fail
  refine (inewm_any w1 l.length).mono ?_
  rintro e w2 ⟨U, rfl, k2, hU, lU⟩
  have HPt2 := Lib.hid (HPt.out.keep0 k2)
  go_wp2_with fail
  go_loopw [6, 14] (fun _ i wr => ∃ j : Nat, j ≤ l.length ∧ i = .int .i64 j ∧ Chg [U] w2 wr ∧ SpW wr w1.heap.size U l.length j) (fun _ i _ => l.length - (intOf i).toNat)
  case atStart => exact ⟨0, by omega, rfl, Chg.refl _ _, hU⟩
  case round =>
    obtain ⟨j, hj, rfl, kr, hs⟩ := hrel
    by_cases hlt : j < l.length
    · obtain ⟨g, cap, gd, cd, hv, -, d0, d1, -, -, -⟩ := HPt2.out.get j hlt
      cases hv
      have hU312 : ∃ v0, w2.heap[U]? = some (.cells #[.int .i64 l.length, v0] 312 (0, 0)) := ⟨_, hU.choose_spec.choose_spec.1⟩
      have hg92 : ∃ cs, w2.heap[g]? = some (.cells cs 92 (0, 0)) := (HPt2.out.block g rfl).2
      have hgU : g ∉ [U] := by
        obtain ⟨v0, h1⟩ := hU312
        obtain ⟨cs, h2⟩ := hg92
        intro hm
        rw [List.mem_singleton] at hm
        rw [hm, h1] at h2
        cases h2
      have e0 := kr.cell d0 hgU
      have e1 := kr.cell d1 hgU
      have hS := Lib.hid hs
      clear hs hU hU312 hg92 d0 d1
      generalize (l[j]).1 = b at *
      go_wp2_with fail
      have kA : Chg [] wr ((wr.alloc (.cells #[.int .i64 b, .slice (some ⟨gd, 0, none⟩) 40 cd] 92)).alloc (.cells #[.int .i64 b, .int .i64 1] 117)) := chg_two wr _ _
      have hE := (two_new wr (.cells #[.int .i64 b, .slice (some ⟨gd, 0, none⟩) 40 cd] 92) (.cells #[.int .i64 b, .int .i64 1] 117)).2
      have hSpQ : SpQ ((wr.alloc (.cells #[.int .i64 b, .slice (some ⟨gd, 0, none⟩) 40 cd] 92)).alloc (.cells #[.int .i64 b, .int .i64 1] 117)) (some ⟨wr.heap.size + 1, 0, none⟩) [(b, 1)] := Or.inr ⟨_, 0, rfl, fun i u hu => by
        rw [Nat.zero_add]
        match i with
        | 0 => cases hu; exact cell_is hE 0 rfl
        | 1 => cases hu; exact cell_is hE 1 rfl
        | i + 2 => simp [spCells] at hu⟩
      refine (iadd_any _ (n := j) (m := 1) (hS.out.keep0 kA) (by omega) (by have := kA.size; have := k2.size; have := kr.size; omega) rfl hSpQ).mono ?_
      rintro e w3 ⟨r, rfl, k3, hs3⟩
      have kk : Chg [U] w2 w3 := (kr.then (kA.mono (fun x hx _ => by cases hx))).then k3
      clear hSpQ hE kA e0 e1
      go_wp2_with fail
      go_roundw
      case rel => exact ⟨j + 1, by omega, by simp, kk, hs3⟩
      case measure => simp [intOf]; omega
    · obtain rfl : j = l.length := by omega
      go_wp2_with fail
      go_ret
      obtain ⟨v, l3, h1, h2, h3⟩ := hs
      exact ⟨U, _, _, rfl, (k1.then k2).trans kr (fun x hx hlt => by rw [List.mem_singleton] at hx; have := k1.size; omega), ⟨v, l3, h1, by omega, h3⟩, by have := k1.size; omega⟩
set_option maxRecDepth 100000 in
theorem xgone_any (w : World) {X : Nat} (h : w.cell? ⟨X, 0, none⟩ = some (.int .i64 258)) : Calls Tryz.prog 160 #[.pointer (some ⟨X, 0, none⟩)] w fun e w' => e = .returned (.bool false) ∧ w = w' := by
  go_enter Tryz.func160, Tryz.ntmps160
  go_wp2_with fail
  go_ret
  exact ⟨rfl, rfl⟩
set_option maxRecDepth 100000 in
set_option maxHeartbeats 1000000 in
theorem written_none (w : World) {lo X rx : Nat} {last : Int} {vs : Int → List (Int × List UInt8)} (h : VerG w lo X rx last [] vs) (b n t : Int) : Calls Tryz.prog 195 #[.pointer (some ⟨X, 0, none⟩), .agg #[.int .i64 b, .int .i64 n], .int .i64 t] w fun e w' => e = .returned (.bool false) ∧ Chg [] w w' := by
  have kA : Chg [] w (w.alloc (.cells #[.int .i64 b, .int .i64 n] 117)) := Chg.alloc w _
  have A0 := heap_new w (.cells #[.int .i64 b, .int .i64 n] 117)
  have h2 := h.keep kA
  have x0 : (w.alloc (.cells #[.int .i64 b, .int .i64 n] 117)).cell? ⟨X, 0, none⟩ = some (.int .i64 258) := cell_is h2.x 0 rfl
  have x1 : (w.alloc (.cells #[.int .i64 b, .int .i64 n] 117)).cell? ⟨X, 1, none⟩ = some (.map (some rx)) := cell_is h2.x 1 rfl
  obtain ⟨clock, hm⟩ := h2.m.none
  have a0 : (w.alloc (.cells #[.int .i64 b, .int .i64 n] 117)).cell? ⟨w.heap.size, 0, none⟩ = some (.int .i64 b) := cell_is A0 0 rfl
  have a1 : (w.alloc (.cells #[.int .i64 b, .int .i64 n] 117)).cell? ⟨w.heap.size, 1, none⟩ = some (.int .i64 n) := cell_is A0 1 rfl
  have HG := Lib.hid (xgone_any _ x0)
  clear h h2 A0
  go_enter Tryz.func195, Tryz.ntmps195
  go_upto_region 1 with fail
  generalize w.alloc (.cells #[.int .i64 b, .int .i64 n] 117) = w1 at *
  go_cut [38] from 7 (fun v wx => (∃ r : Bool, v = .bool r) ∧ wx = w1)
  case first =>
    go_wp2_with fail
    refine HG.out.mono ?_
    rintro e w2 ⟨rfl, rfl⟩
    go_wp2_with fail
    all_goals
      go_meet
      exact ⟨⟨_, rfl⟩, rfl⟩
  case rest =>
    obtain ⟨⟨r, rfl⟩, rfl⟩ := hcut
    rename World => wd
    cases r
    · have hr1 := run_range_map (P := Tryz.prog) wd 258 3 265 rx #[] clock (by kernel_rfl) hm
      have hn1 : ∀ ty, (Instr.next (.pointer (some ⟨wd.heap.size, 0, none⟩)) false ty).run Tryz.prog (wd.alloc (.mapIter (some rx) clock #[] clock)) = .ok (.tuple #[.bool false]) (wd.alloc (.mapIter (some rx) clock #[] clock)) := by
        intro ty
        rcases run_next_map (P := Tryz.prog) wd ty rx clock clock #[] #[] clock hm (by simp) (Nat.le_refl _) with ⟨_, h⟩ | ⟨e, he, _⟩
        · exact h
        · simp [leftOf] at he
      have kI : Chg [] w (wd.alloc (.mapIter (some rx) clock #[] clock)) := kA.then_alloc _
      go_wp2_with fail
      generalize wd.alloc (.mapIter (some rx) clock #[] clock) = w3 at *
      go_loopw [7, 8] (fun _ _ wr => wr = w3) (fun _ _ _ => 0)
      case atStart => rfl
      case round =>
        subst hrel
        go_wp2_with fail
        go_ret
        exact ⟨rfl, kI⟩
    · go_wp2_with fail
      go_ret
      exact ⟨rfl, kA⟩
end Go.Proofs.YtfodeeejolkkfaaGreat
namespace Go.Proofs.YtfodeeejolkkfaaGreat
open Go.RowKit Go.Lib

set_option maxRecDepth 100000 in
set_option maxHeartbeats 4000000 in
theorem check_none (w : World) {lo X rx lo1 U1 m1 n1 lo2 U2 m2 n2 cq : Nat} {pq : Option Addr} {last t : Int} {vs : Int → List (Int × List UInt8)} (h : VerG w lo X rx last [] vs) (hr : SpW w lo1 U1 m1 n1) (hw : SpW w lo2 U2 m2 n2) (hn1 : n1 ≤ 1000) (hn2 : n2 ≤ 1000) :
    Calls Tryz.prog 155 #[.pointer (some ⟨X, 0, none⟩), .slice pq 0 cq, .int .i64 t, .pointer (some ⟨U1, 0, none⟩), .pointer (some ⟨U2, 0, none⟩)] w fun e w' => e = .returned (.int .i64 0) ∧ Chg [] w w' := by
  have HC := Lib.hid (count_any w hw hn2)
  have HV := Lib.hid h
  have HR := Lib.hid hr
  have HW := Lib.hid hw
  clear h hr hw
  go_enter Tryz.func155, Tryz.ntmps155
  go_wp2_with fail
  go_step3
  go_wp2_with fail
  refine HC.out.mono ?_
  rintro e w1 ⟨⟨r, rfl⟩, k1⟩
  by_cases hr0 : r = 0
  · subst hr0
    go_wp2_with fail
    simp only [Exit.noGoto]
    go_ret
    exact ⟨rfl, k1⟩
  · go_wp2_with fail
    go_step3
    go_wp2_with fail
    have hrb : (r == 0) = false := by simpa using hr0
    rw [hrb]
    have hi0 : ∀ w, (Instr.index 299 (.agg #[.pointer (some ⟨U1, 0, none⟩), .pointer (some ⟨U2, 0, none⟩)]) (.int .i64 ((0 : Nat) : Int))).run Tryz.prog w = .ok (.pointer (some ⟨U1, 0, none⟩)) w := fun w => by kernel_rfl
    have hi1 : ∀ w, (Instr.index 299 (.agg #[.pointer (some ⟨U1, 0, none⟩), .pointer (some ⟨U2, 0, none⟩)]) (.int .i64 ((1 : Nat) : Int))).run Tryz.prog w = .ok (.pointer (some ⟨U2, 0, none⟩)) w := fun w => by kernel_rfl
    go_loopw [11, 13, 15, 17, 24] (fun e _ _ _ i wr => ∃ j : Nat, j ≤ 2 ∧ i = .int .i64 j ∧ e = .int .i64 0 ∧ Chg [] w1 wr) (fun _ _ _ _ i _ => 2 - (intOf i).toNat)
    case atStart => exact ⟨0, by omega, rfl, rfl, Chg.refl _ _⟩
    case round =>
      obtain ⟨j, hj, rfl, rfl, kr⟩ := hrel
      by_cases hj2 : j < 2
      · obtain ⟨U, lo3, m3, n3, hi, hS, hn3⟩ : ∃ U lo3 m3 n3, (∀ w, (Instr.index 299 (.agg #[.pointer (some ⟨U1, 0, none⟩), .pointer (some ⟨U2, 0, none⟩)]) (.int .i64 (j : Int))).run Tryz.prog w = .ok (.pointer (some ⟨U, 0, none⟩)) w) ∧ SpW wr lo3 U m3 n3 ∧ n3 ≤ 1000 := by
          have kk := k1.then kr
          rcases (show j = 0 ∨ j = 1 by omega) with rfl | rfl
          · exact ⟨U1, _, _, _, hi0, HR.out.keep0 kk, hn1⟩
          · exact ⟨U2, _, _, _, hi1, HW.out.keep0 kk, hn2⟩
        have HE := Lib.hid (extents_any wr hS hn3)
        clear hi0 hi1 hS
        go_wp2_with fail
        refine HE.out.mono ?_
        rintro e w2 ⟨pb, m, cb, l, rfl, k2, hq, hl, hm⟩
        have HQ := Lib.hid hq
        clear hq
        go_wp2_with fail
        go_loopw [11, 15, 30] (fun e _ i wz => ∃ q : Nat, q ≤ m ∧ i = .int .i64 q ∧ e = .int .i64 0 ∧ Chg [] w2 wz) (fun _ _ i _ => m - (intOf i).toNat)
        case atStart => exact ⟨0, by omega, rfl, rfl, Chg.refl _ _⟩
        case round =>
          obtain ⟨q, hq, rfl, rfl, kz⟩ := hrel
          rename World => wz
          have kk : Chg [] w1 wz := (kr.then k2).then kz
          by_cases hqm : q < m
          · obtain ⟨b, o, rfl, c0, c1⟩ := (HQ.out.keep kz).get q (by omega)
            generalize (l[q]'(by omega)).1 = x at *
            generalize (l[q]'(by omega)).2 = y at *
            have ka : Chg [] wz (wz.alloc (.cells #[.int .i64 x, .int .i64 y] 117)) := Chg.alloc wz _
            have HWr := Lib.hid (written_none (wz.alloc (.cells #[.int .i64 x, .int .i64 y] 117)) (HV.out.keep ((k1.then kk).then ka)) x y t)
            go_wp2_with fail
            refine HWr.out.mono ?_
            rintro e w5 ⟨rfl, k5⟩
            go_wp2_with fail
            go_roundw
            case rel => exact ⟨q + 1, by omega, by simp, rfl, (kz.then ka).then k5⟩
            case measure => simp [intOf]; omega
          · obtain rfl : q = m := by omega
            go_wp2_with fail
            go_loopw [11, 17, 41] (fun e _ i wy => i = .int .i64 0 ∧ e = .int .i64 0 ∧ wy = wz) (fun _ _ _ _ => 0)
            case atStart => exact ⟨rfl, rfl, rfl⟩
            case round =>
              obtain ⟨rfl, rfl, rfl⟩ := hrel
              go_wp2_with fail
              go_roundw
              case rel => exact ⟨j + 1, by omega, by simp, rfl, kk⟩
              case measure => simp [intOf]; omega
      · obtain rfl : j = 2 := by omega
        go_wp2_with fail
        simp only [Exit.noGoto]
        go_ret
        exact ⟨rfl, k1.then kr⟩
end Go.Proofs.YtfodeeejolkkfaaGreat
namespace Go.Proofs.YtfodeeejolkkfaaGreat
open Go.RowKit Go.Lib

/-- block M is a manager. -/
def MgrG (w : World) (M X B r : Nat) (qv : Value) (out num bas last given : Int) (rd : Bool) : Prop :=
  w.heap[M]? = some (.cells #[.pointer (some ⟨X, 0, none⟩), .pointer (some ⟨B, 0, none⟩), .map (some r), qv, .int .i64 out, .int .i64 num, .int .i64 bas, .int .i64 last, .int .i64 given, .bool rd] 180 (0, 0))
set_option maxRecDepth 100000 in
theorem waiting_none (w : World) {M X B r cq : Nat} {pq : Option Addr} {out num bas last given : Int} {rd : Bool} (h : MgrG w M X B r (.slice pq 0 cq) out num bas last given rd) : Calls Tryz.prog 99 #[.pointer (some ⟨M, 0, none⟩)] w fun e w' => e = .returned (.slice none 0 0) ∧ w = w' := by
  have m3 : w.cell? ⟨M, 3, none⟩ = some (.slice pq 0 cq) := cell_is h 3 rfl
  clear h
  go_enter Tryz.func99, Tryz.ntmps99
  go_wp2_with fail
  go_loopw [2, 4, 5, 11] (fun v _ _ i wr => i = .int .i64 0 ∧ w = wr ∧ v = .slice none 0 0) (fun _ _ _ _ _ => 0)
  case atStart => exact ⟨rfl, rfl, rfl⟩
  case round =>
    obtain ⟨rfl, rfl, rfl⟩ := hrel
    go_wp2_with fail
    go_ret
    exact ⟨rfl, rfl⟩
set_option maxRecDepth 100000 in
set_option maxHeartbeats 4000000 in
theorem may_none (w : World) {M X B r cq lo rx T W rw Q V n base : Nat} {pq : Option Addr} {out num bas last given lastv t : Int} {vs : Int → List (Int × List UInt8)} {L : List (Int × Value)} {D : Int → List UInt8}
    (h : MgrG w M X B r (.slice pq 0 cq) out num bas last given false) (hg : given < 1099511627776) (hv : VerG w lo X rx lastv [] vs) (hT : TxT w T W Q t) (hb : BufAt w W rw L) (hD : BufD w L D) (hk : ∀ x ∈ L, 0 ≤ x.1 ∧ x.1 < 258) (hl : L.length ≤ 12)
    (hV : VwT w base Q X W V t n) (hS : SpV w base V n) (hn : n ≤ 12) : Calls Tryz.prog 97 #[.pointer (some ⟨M, 0, none⟩), .pointer (some ⟨T, 0, none⟩)] w fun e w' => e = .returned (.int .i64 0) ∧ Chg [] w w' := by
  have m9 : w.cell? ⟨M, 9, none⟩ = some (.bool false) := cell_is h 9 rfl
  have m0 : w.cell? ⟨M, 0, none⟩ = some (.pointer (some ⟨X, 0, none⟩)) := cell_is h 0 rfl
  have m8 : w.cell? ⟨M, 8, none⟩ = some (.int .i64 given) := cell_is h 8 rfl
  have t3 : w.cell? ⟨T, 3, none⟩ = some (.int .i64 t) := cell_is hT 3 rfl
  have t4 : w.cell? ⟨T, 4, none⟩ = some (.pointer (some ⟨W, 0, none⟩)) := cell_is hT 4 rfl
  have t5 : w.cell? ⟨T, 5, none⟩ = some (.pointer (some ⟨Q, 0, none⟩)) := cell_is hT 5 rfl
  have kd : Chg [] w w.drew := (Chg.refl [] w).drew
  have HW := Lib.hid (waiting_none w.drew (kd.heap h (by simp)))
  have HV := Lib.hid (vset_any w.drew (hV.keep kd (Av.nil _ _)) (hS.keep0 kd) hn)
  have hS2 : ∀ wx, Chg [] w wx → wx.cell? ⟨M, 0, none⟩ = some (.pointer (some ⟨X, 0, none⟩)) ∧ wx.cell? ⟨T, 3, none⟩ = some (.int .i64 t) ∧ wx.cell? ⟨T, 4, none⟩ = some (.pointer (some ⟨W, 0, none⟩)) ∧ wx.cell? ⟨T, 5, none⟩ = some (.pointer (some ⟨Q, 0, none⟩)) :=
    fun wx k => ⟨k.cell m0 (by simp), k.cell t3 (by simp), k.cell t4 (by simp), k.cell t5 (by simp)⟩
  have HS2 := Lib.hid hS2
  have HBf := Lib.hid hb
  have HD := Lib.hid hD
  have HK := Lib.hid hk
  have HVr := Lib.hid hv
  clear h hT hb hD hk hV hS hv hS2
  go_enter Tryz.func97, Tryz.ntmps97
  go_upto_region 3 with fail
  go_region_held3 (fun wx => wx.cell? ⟨M, 0, none⟩ = some (.pointer (some ⟨X, 0, none⟩)) ∧ wx.cell? ⟨T, 3, none⟩ = some (.int .i64 t) ∧ wx.cell? ⟨T, 4, none⟩ = some (.pointer (some ⟨W, 0, none⟩)) ∧ wx.cell? ⟨T, 5, none⟩ = some (.pointer (some ⟨Q, 0, none⟩)))
    (first
      | (with_reducible exact HS2.out _ kF) | (with_reducible exact HS2.out _ k3) | (with_reducible exact HS2.out _ k2) | (exact HS2.out _ kd))
    (first
      | (go_at_call 99; refine HW.out.mono ?_; rintro e w1 ⟨rfl, rfl⟩)
      | (go_at_call 156; refine HV.out.mono ?_; rintro e w2 ⟨U, loU, rfl, k2', hU, lU⟩; have k2 := kd.then k2')
      | (go_at_call 157; refine (bset_any w2 (HBf.out.keep k2 (by simp) (by simp)) (HD.out.keep k2) HK.out hl).mono ?_; rintro e w3 ⟨U2, loU2, most, rfl, k3', hU2, lU2⟩; have k3 := k2.then k3'; have hU3 := hU.keep0 k3')
      | (go_at_call 155; refine (check_none w3 (HVr.out.keep k3) hU3 hU2 (by omega) (by omega)).mono ?_; rintro e w4 ⟨rfl, k4⟩; have kF := k3.then k4))
  all_goals
    have m84 := kF.cell m8 (by simp)
    have hng : ¬ (given ≥ 1099511627776) := by omega
    clear HW HV HS2 HBf HD HK HVr hU hU2 hU3
    go_wp2_with fail
    go_ret
    exact ⟨rfl, kF⟩
theorem own_some {w : World} {base e size n : Nat} {v : Value} {xs : List Value} (h : w.ownsRow base e size v n xs) (hn : 0 < n) : ∃ g c, v = .slice (some ⟨g, 0, none⟩) n c := by
  rcases h.2 with ⟨_, h0⟩ | ⟨g, cap, cur, rfl, _⟩
  · omega
  · exact ⟨g, cap, rfl⟩
/-- block T is a transaction that waits: its time k. -/
def TxW (w : World) (T W Q : Nat) (k t : Int) : Prop := w.heap[T]? = some (.cells #[.int .i64 2, .int .i64 k, .int .i64 0, .int .i64 t, .pointer (some ⟨W, 0, none⟩), .pointer (some ⟨Q, 0, none⟩)] 173 (0, 0))
set_option maxRecDepth 100000 in
set_option maxHeartbeats 4000000 in
theorem tcommit_one (w : World) {d : Ids} {p : Par} {cq n base loq : Nat} {pq : Option Addr} {out num bas last given : Int} {L : List (Int × Value)} {D : Int → List UInt8}
    (hN : Need w d p) (hv0 : p.Lv = []) (h : MgrG w d.M d.X d.B d.r (.slice pq 0 cq) out num bas last given false) (hg0 : 0 ≤ given) (hg : given < 1099511627776) (hq : w.ownsRow loq 3 1 (.slice pq 0 cq) 0 []) (hlq : loq ≤ w.heap.size) (hT : TxT w d.T d.W d.Q p.t) (hb : BufAt w d.W d.rw L) (hD : BufD w L D) (hk : ∀ x ∈ L, 0 ≤ x.1 ∧ x.1 < 258) (hl : L.length ≤ 12) (hl0 : 0 < L.length)
    (hV : VwT w base d.Q d.X d.W d.V p.t n) (hS : SpV w base d.V n) (hn : n ≤ 12) : Calls Tryz.prog 54 #[.pointer (some ⟨d.M, 0, none⟩), .int .i64 p.h] w fun e w' =>
    ∃ g c, e = .returned (.int .i64 0) ∧ Chg (d.M :: d.T :: (Value.slice pq 0 cq).ownBlock.toList) w w' ∧ MgrG w' d.M d.X d.B d.r (.slice (some ⟨g, 0, none⟩) 1 c) out num bas last (given + 1) false ∧ w'.ownsRow loq 3 1 (.slice (some ⟨g, 0, none⟩) 1 c) 1 [.int .i64 p.h] ∧ TxW w' d.T d.W d.Q (given + 1) p.t := by
  have HO := Lib.hid (topen_gen w hN hT)
  have t4 : w.cell? ⟨d.T, 4, none⟩ = some (.pointer (some ⟨d.W, 0, none⟩)) := cell_is hT 4 rfl
  have HLn := Lib.hid (blen_any w hb hD hk (by omega))
  have hver := hN.ver
  rw [hv0] at hver
  have HMy := Lib.hid (fun w1 (k : Chg [] w w1) => may_none w1 (k.heap h (by simp)) hg (hver.keep k) (k.heap hT (by simp)) (hb.keep k (by simp) (by simp)) (hD.keep k) hk hl (hV.keep k (Av.nil _ _)) (hS.keep0 k) hn)
  have hMT : d.M ≠ d.T := heap_ne h hT (by simp)
  have HM := Lib.hid h
  have HT := Lib.hid hT
  have HQ := Lib.hid hq
  have hl0i : ¬ (L.length : Int) = 0 := by omega
  have HL0 := Lib.hid hl0i
  clear hN hb hD hV hS hver h hT hq
  go_enter Tryz.func54, Tryz.ntmps54
  go_wp2_with fail
  refine HO.out.mono ?_
  rintro e w1 ⟨rfl, rfl⟩
  go_wp2_with fail
  refine HLn.out.mono ?_
  rintro e w1 ⟨rfl, k1⟩
  go_wp2_with fail
  refine (HMy.out w1 k1).mono ?_
  rintro e w2 ⟨rfl, k2'⟩
  have k2 := k1.then k2'
  have hM2 := k2.heap HM.out (by simp)
  have hT2 := k2.heap HT.out (by simp)
  have hq2 := ownsRow_av HQ.out k2 (Av.nil _ _)
  have hs2 := k2.size
  have m8 : w2.cell? ⟨d.M, 8, none⟩ = some (.int .i64 given) := cell_is hM2 8 rfl
  have f8 := unfrozen hM2 8
  have m3 : w2.cell? ⟨d.M, 3, none⟩ = some (.slice pq 0 cq) := cell_is hM2 3 rfl
  have f3 := unfrozen hM2 3
  have t0 : w2.cell? ⟨d.T, 0, none⟩ = some (.int .i64 1) := cell_is hT2 0 rfl
  have t1 : w2.cell? ⟨d.T, 1, none⟩ = some (.int .i64 0) := cell_is hT2 1 rfl
  have ft0 := unfrozen hT2 0
  have ft1 := unfrozen hT2 1
  have hgw : wrap64 (given + 1) = given + 1 := by unfold wrap64; omega
  have kS := ((((Chg.refl [] w2).mono (T := [d.M, d.T]) (fun x hx _ => by cases hx)).then_set (g := d.M) (fun _ => by simp) 8 (.int .i64 (given + 1))).then_set (g := d.T) (fun _ => by simp) 0 (.int .i64 2)).then_set (g := d.T) (fun _ => by simp) 1 (.int .i64 (given + 1))
  have hMS : MgrG (((w2.setCell ⟨d.M, 8, none⟩ (.int .i64 (given + 1))).setCell ⟨d.T, 0, none⟩ (.int .i64 2)).setCell ⟨d.T, 1, none⟩ (.int .i64 (given + 1))) d.M d.X d.B d.r (.slice pq 0 cq) out num bas last (given + 1) false :=
    heap_set_ne (heap_set_ne (heap_set hM2 8 _ rfl) hMT _ _) hMT _ _
  have hTS : TxW (((w2.setCell ⟨d.M, 8, none⟩ (.int .i64 (given + 1))).setCell ⟨d.T, 0, none⟩ (.int .i64 2)).setCell ⟨d.T, 1, none⟩ (.int .i64 (given + 1))) d.T d.W d.Q (given + 1) p.t :=
    heap_set (heap_set (heap_set_ne hT2 hMT.symm _ _) 0 _ rfl) 1 _ rfl
  have avS : Av w2 [d.M, d.T] [3] := fun x hx cs t fr hh => by
    simp at hx
    rcases hx with rfl | rfl
    · rw [show w2.heap[d.M]? = _ from hM2] at hh; cases hh; simp
    · rw [show w2.heap[d.T]? = _ from hT2] at hh; cases hh; simp
  have hqS := ownsRow_av hq2 kS avS
  clear HMy HLn HO k1 k2' t4
  go_upto_region 14 with fail
  have hsS : loq ≤ (((w2.setCell ⟨d.M, 8, none⟩ (.int .i64 (given + 1))).setCell ⟨d.T, 0, none⟩ (.int .i64 2)).setCell ⟨d.T, 1, none⟩ (.int .i64 (given + 1))).heap.size := by have := kS.size; omega
  clear m8 f8 m3 f3 t0 t1 ft0 ft1 avS hq2
  generalize ((w2.setCell ⟨d.M, 8, none⟩ (.int .i64 (given + 1))).setCell ⟨d.T, 0, none⟩ (.int .i64 2)).setCell ⟨d.T, 1, none⟩ (.int .i64 (given + 1)) = wS at *
  have m3 : wS.cell? ⟨d.M, 3, none⟩ = some (.slice pq 0 cq) := cell_is hMS 3 rfl
  go_wp2_with (at_builtin; refine wpList_append_lit rfl (.tmp 59) (.tmp 61) 62 3 rfl ty62 inf3 rfl (by decide) loq wS [.int .i64 p.h] 1 rfl (.slice pq 0 cq) 0 [] rfl hqS (by omega) (by decide) hsS (k := 0) rfl (by simp [Value.oneCell']) rfl 1 rfl ?_; intro v' w4 hap; obtain ⟨g4, c4, rfl⟩ := own_some hap.1 (by decide); have k4 : Chg (Value.slice pq 0 cq).ownBlock.toList wS w4 := Chg.own hap.2.2 (fun g hg _ => by have hg2 : (Value.slice pq 0 cq).ownBlock = some g := hg; simp [hg2]); have hM4 := k4.heap hMS (own_block_ne hqS hMS (by decide)); have m34 := cell_is hM4 3 rfl; have f34 := unfrozen hM4 3)
  have hT4 := k4.heap hTS (own_block_ne hqS hTS (by decide))
  have hset := Chg.set w4 d.M 3 (.slice (some ⟨g4, 0, none⟩) (0 + 1) c4)
  have hq4 := ownsRow_av hap.1 hset (Av.row hM4 (by decide))
  go_ret
  refine ⟨g4, c4, rfl, ?_, heap_set hM4 3 _ rfl, hq4, heap_set_ne hT4 hMT.symm _ _⟩
  refine (((k2.mono (fun x hx _ => by cases hx)).then (kS.mono ?_)).then (k4.mono ?_)).then (hset.mono ?_)
  · intro x hx _; simp only [List.mem_cons, List.not_mem_nil, or_false] at hx; rcases hx with rfl | rfl <;> simp
  · intro x hx _; exact List.mem_cons_of_mem _ (List.mem_cons_of_mem _ hx)
  · intro x hx _; rw [List.mem_singleton] at hx; subst hx; exact List.mem_cons_self
end Go.Proofs.YtfodeeejolkkfaaGreat
namespace Go.Proofs.YtfodeeejolkkfaaGreat
open Go.RowKit Go.Lib

set_option maxRecDepth 100000 in
theorem scommit_one (w : World) {d : Ids} {p : Par} {P : World → Prop} (hN : Need w d p) (hC : Calls Tryz.prog 54 #[.pointer (some ⟨d.M, 0, none⟩), .int .i64 p.h] w fun e w' => e = .returned (.int .i64 0) ∧ P w') :
    Calls Tryz.prog 26 #[.pointer (some ⟨d.P, 0, none⟩), .int .i64 p.h] w fun e w' => e = .returned (.int .i64 0) ∧ P w' := by
  have c5 := hN.p5
  have HO := Lib.hid (dead_gen w hN)
  have HC := Lib.hid hC
  clear hN hC
  go_enter Tryz.func26, Tryz.ntmps26
  go_wp2_with fail
  refine HO.out.mono ?_
  rintro e w1 ⟨rfl, rfl⟩
  go_wp2_with fail
  refine HC.out.mono ?_
  rintro e w1 ⟨rfl, hp⟩
  have HPp := Lib.hid hp
  clear hp
  go_wp2_with fail
  go_ret
  exact ⟨rfl, HPp.out⟩
theorem ty100 : Tryz.prog.underlying 100 = some (.slice 189) := by kernel_rfl
theorem inf189 : (Tryz.prog.info? 189).map (fun i => (i.zero, i.size, i.bytes)) = some (some (.agg #[.int .i64 0, .slice none 0 0]), 2, 32) := by kernel_rfl
/-- a transaction's part is put behind none, as a step of a region that draws. -/
theorem step_append_tx {ops : Array Oper} {o : Oper} {a : Act} {w : World} {K : Act → World → Prop} {Q : Exit → Act → World → Prop} {E : Prop} (hgd : o.guard = none) (s x : Operand)
    (ho : o.op = .call { callee := .builtin .append, args := #[s, x], argTypes := #[100, 100] }) (b c : Nat) (u0 u1 : Value) (hs : a.eval s = .slice none 0 0)
    (hx : a.eval x = .slice (some ⟨b, 0, none⟩) 1 c) (c0 : w.cell? ⟨b, 0, none⟩ = some u0) (c1 : w.cell? ⟨b, 1, none⟩ = some u1) (h1 : u0.oneCell' = true ∧ u1.oneCell' = true)
    (h : ∀ g cap w', w'.ownsRow w.heap.size 189 2 (.slice (some ⟨g, 0, none⟩) 1 cap) 1 [u0, u1] → Chg [] w w' → K (a.put o.dst (.slice (some ⟨g, 0, none⟩) 1 cap)) w') :
    if Region.wanted o (yielded ops a.tmps) = true then Oper.wp Tryz.prog o a w K Q else E := by
  obtain ⟨i, hi0, hz, hz1, hz2⟩ := info_parts inf189
  refine step_append_lies w hgd s x 100 ho w.heap.size 189 i _ 2 32 ty100 hi0 hz hz1 hz2 rfl (by decide) _ 0 [] hs (World.ownsRow_nil _ _ _ _) ⟨b, 0, none⟩ 1 c [u0, u1] hx rfl ?_ ?_ (by decide) (by unfold maxLen; omega) (by omega) (Nat.le_refl _) _ rfl ?_
  · intro j u hu
    rw [add_lit, Nat.zero_add]
    match j with
    | 0 => cases hu; exact c0
    | 1 => cases hu; exact c1
    | j + 2 => simp at hu
  · intro u hu
    simp at hu
    rcases hu with rfl | rfl
    · exact h1.1
    · exact h1.2
  · intro g cap w' h2 h3 _ _
    exact h g cap w' h2 (Chg.of_grown0 h3)
/-- one transaction's part: its time k, its puts l. -/
def TxOne (w : World) (lo : Nat) (v : Value) (k : Int) (l : List (Int × List UInt8)) : Prop :=
  ∃ g c cs pv, v = .slice (some ⟨g, 0, none⟩) 1 c ∧ 1 ≤ c ∧ lo ≤ g ∧ w.heap[g]? = some (.cells cs 189 (0, 0)) ∧ cs[0]? = some (.int .i64 k) ∧ cs[1]? = some pv ∧ PutsAt w lo pv l
theorem TxOne.keep {w w' : World} {lo : Nat} {v : Value} {k : Int} {l : List (Int × List UInt8)} (h : TxOne w lo v k l) (hc : Chg [] w w') : TxOne w' lo v k l := by
  obtain ⟨g, c, cs, pv, h1, h2, h3, h4, h5, h6, h7⟩ := h
  exact ⟨g, c, cs, pv, h1, h2, h3, hc.heap h4 (by simp), h5, h6, h7.keep0 hc⟩
theorem tx_of_own {w : World} {b lo g c : Nat} {k : Int} {pv : Value} {l : List (Int × List UInt8)} (ho : w.ownsRow b 189 2 (.slice (some ⟨g, 0, none⟩) 1 c) 1 [.int .i64 k, pv]) (hb : lo ≤ b) (hp : PutsAt w lo pv l) : TxOne w lo (.slice (some ⟨g, 0, none⟩) 1 c) k l := by
  rcases ho.2 with ⟨e, _⟩ | ⟨g', cap, cur, e, hA, hg, hc1, hc2, hc3, ht⟩
  · cases e
  · cases e
    have h0 : cur[0]? = some (.int .i64 k) := by
      have : (cur.toList.take (1 * 2))[0]? = some (.int .i64 k) := by rw [ht]; rfl
      rwa [List.getElem?_take_of_lt (by omega), Array.getElem?_toList] at this
    have h1 : cur[1]? = some pv := by
      have : (cur.toList.take (1 * 2))[1]? = some pv := by rw [ht]; rfl
      rwa [List.getElem?_take_of_lt (by omega), Array.getElem?_toList] at this
    exact ⟨g, c, cur, pv, rfl, hc1, by omega, hg, h0, h1, hp⟩
set_option maxRecDepth 100000 in
set_option maxHeartbeats 4000000 in
theorem waiting_one (w : World) {M X B r cq gq T W rw Q : Nat} {out num bas last given k t h : Int} {rd : Bool} {Lr L : List (Int × Value)} {D : Int → List UInt8} (hM : MgrG w M X B r (.slice (some ⟨gq, 0, none⟩) 1 cq) out num bas last given rd)
    (hq : w.cell? ⟨gq, 0, none⟩ = some (.int .i64 h)) (hr : MapAt w r Lr) (hg : getL Lr h = some (.pointer (some ⟨T, 0, none⟩))) (hT : TxW w T W Q k t) (hb : BufAt w W rw L) (hD : BufD w L D) (hk : ∀ x ∈ L, 0 ≤ x.1 ∧ x.1 < 258) (hl : L.length ≤ 1000) :
    Calls Tryz.prog 99 #[.pointer (some ⟨M, 0, none⟩)] w fun e w' => ∃ v, e = .returned v ∧ Chg [] w w' ∧ TxOne w' w.heap.size v k (putsL L D) := by
  have m3 : w.cell? ⟨M, 3, none⟩ = some (.slice (some ⟨gq, 0, none⟩) 1 cq) := cell_is hM 3 rfl
  have m2 : w.cell? ⟨M, 2, none⟩ = some (.map (some r)) := cell_is hM 2 rfl
  have t1 : w.cell? ⟨T, 1, none⟩ = some (.int .i64 k) := cell_is hT 1 rfl
  have t4 : w.cell? ⟨T, 4, none⟩ = some (.pointer (some ⟨W, 0, none⟩)) := cell_is hT 4 rfl
  have hlook : (Instr.lookup 178 (.map (some r)) (.int .i64 h) false).run Tryz.prog w = .ok (.pointer (some ⟨T, 0, none⟩)) w := by
    have := lookup178 hr h false
    rw [hg] at this
    exact this
  have kd : Chg [] w w.drew := (Chg.refl [] w).drew
  have HP := Lib.hid (bputs_any w.drew (hb.keep kd (by simp) (by simp)) (hD.keep kd) hk hl)
  have t1d : w.drew.cell? ⟨T, 1, none⟩ = some (.int .i64 k) := t1
  have t4d : w.drew.cell? ⟨T, 4, none⟩ = some (.pointer (some ⟨W, 0, none⟩)) := t4
  clear hM hr hg hT hb hD hk
  go_enter Tryz.func99, Tryz.ntmps99
  go_wp2_with fail
  go_loopw [2, 4, 5, 11] (fun v _ _ i wr => (i = .int .i64 0 ∧ w = wr ∧ v = .slice none 0 0) ∨ (i = .int .i64 1 ∧ Chg [] w wr ∧ TxOne wr w.heap.size v k (putsL L D))) (fun _ _ _ i _ => 1 - (intOf i).toNat)
  case atStart => exact Or.inl ⟨rfl, rfl, rfl⟩
  case round =>
    rcases hrel with ⟨rfl, rfl, rfl⟩ | ⟨rfl, kr, hv⟩
    · go_wp2_with fail
      go_region_law
        (first
          | (go_simp; go_at_call 136; refine HP.out.mono ?_; rintro e w6 ⟨pv, rfl, k6, hp6⟩; obtain ⟨pb, cb, rfl, hcb⟩ := own_form hp6.choose_spec.1; have t16 := k6.cell t1d (by simp); have kA : Chg [] w (w6.alloc (.cells #[.int .i64 k, (.slice pb (putsL L D).length cb)] 189)) := (kd.then k6).then_alloc _; have y0 := heap_new w6 (.cells #[.int .i64 k, (.slice pb (putsL L D).length cb)] 189); have hp7 := hp6.keep0 (Chg.alloc (S := []) w6 (.cells #[.int .i64 k, (.slice pb (putsL L D).length cb)] 189)))
          | (refine step_append_tx rfl (.tmp 21) (.tmp 32) rfl w6.heap.size 1 _ _ rfl rfl (cell_is y0 0 rfl) (cell_is y0 1 rfl) ⟨rfl, rfl⟩ ?_; intro g5 cp5 w5 o5 k5))
      all_goals
        have HF := Lib.hid (show Chg [] w w5 ∧ TxOne w5 w.heap.size (.slice (some ⟨g5, 0, none⟩) 1 cp5) k (putsL L D) from by
          refine ⟨kA.then k5, tx_of_own o5 kA.size ?_⟩
          obtain ⟨xs, ho, hx⟩ := hp7.keep0 k5
          exact ⟨xs, own_base ho (kd.size), hx⟩)
        clear kA y0 hp6 hp7 o5 k5 k6
        go_wp2_with fail
        go_roundw
        case rel => exact Or.inr ⟨rfl, HF.out⟩
        case measure => decide
    · go_wp2_with fail
      go_ret
      exact ⟨_, rfl, kr, hv⟩
end Go.Proofs.YtfodeeejolkkfaaGreat
namespace Go.Proofs.YtfodeeejolkkfaaGreat
open Go.RowKit Go.Lib

theorem TxOne.keepA {w w' : World} {T : List Nat} {lo : Nat} {v : Value} {k : Int} {l : List (Int × List UInt8)} (h : TxOne w lo v k l) (hc : Chg T w w') (hT : Av w T [189, 92, 5]) : TxOne w' lo v k l := by
  obtain ⟨g, c, cs, pv, h1, h2, h3, h4, h5, h6, h7⟩ := h
  refine ⟨g, c, cs, pv, h1, h2, h3, hc.heap h4 (hT.ne h4 (by simp)), h5, h6, h7.keep hc (fun x hx cs t fr hh ht => hT x hx cs t fr hh (by simp at ht; simp [ht])) (fun g hg => ?_)⟩
  obtain ⟨_, cs, hb⟩ := h7.block g hg
  exact hT.ne hb (by simp)
theorem TxOne.low {w : World} {lo lo' : Nat} {v : Value} {k : Int} {l : List (Int × List UInt8)} (h : TxOne w lo v k l) (hl : lo' ≤ lo) : TxOne w lo' v k l := by
  obtain ⟨g, c, cs, pv, h1, h2, h3, h4, h5, h6, xs, ho, hx⟩ := h
  exact ⟨g, c, cs, pv, h1, h2, by omega, h4, h5, h6, xs, own_base ho hl, hx⟩
/-- .. opened: the cells of a transaction's part. -/
theorem TxOne.open_ {w : World} {lo : Nat} {v : Value} {k : Int} {l : List (Int × List UInt8)} (h : TxOne w lo v k l) : ∃ g c pb cb, v = .slice (some ⟨g, 0, none⟩) 1 c ∧ 1 ≤ c ∧ lo ≤ g ∧ g < w.heap.size ∧ w.cell? ⟨g, 0, none⟩ = some (.int .i64 k) ∧ w.cell? ⟨g, 1, none⟩ = some (.slice pb l.length cb) ∧ l.length ≤ cb ∧ PutsAt w lo (.slice pb l.length cb) l := by
  obtain ⟨g, c, cs, pv, h1, h2, h3, h4, h5, h6, h7⟩ := h
  obtain ⟨pb, cb, rfl, hcb⟩ := own_form h7.choose_spec.1
  exact ⟨g, c, pb, cb, h1, h2, h3, heap_lt h4, cell_is h4 0 h5, cell_is h4 1 h6, hcb, h7⟩
set_option maxRecDepth 100000 in
set_option maxHeartbeats 1000000 in
theorem form_one (w : World) {lo : Nat} {v : Value} {k : Int} {l : List (Int × List UInt8)} (h : TxOne w lo v k l) (hl : l.length ≤ 32) : Calls Tryz.prog 100 #[v] w fun e w' => e = .returned (.int .i64 1) ∧ Chg [] w w' := by
  obtain ⟨g, c, pb, cb, rfl, -, -, -, c0, c1, hcb, -⟩ := h.open_
  clear h
  go_enter Tryz.func100, Tryz.ntmps100
  go_wp2_with fail
  go_loopw [2, 3, 5, 8] (fun n p _ i wr => (i = .int .i64 0 ∧ n = .int .i64 0 ∧ p = .int .i64 0 ∧ wr = w) ∨ (i = .int .i64 1 ∧ n = .int .i64 1 ∧ Chg [] w wr)) (fun _ _ _ i _ => 1 - (intOf i).toNat)
  case atStart => exact Or.inl ⟨rfl, rfl, rfl, rfl⟩
  case round =>
    rcases hrel with ⟨rfl, rfl, rfl, rfl⟩ | ⟨rfl, rfl, kr⟩
    · have ka : Chg [] wr (wr.alloc (.cells #[.int .i64 k, .slice pb l.length cb] 189)) := Chg.alloc wr _
      go_wp2_with fail
      go_roundw
      case rel => exact Or.inr ⟨rfl, rfl, ka⟩
      case measure => decide
    · go_wp2_with fail
      go_ret
      exact ⟨rfl, kr⟩
set_option maxRecDepth 100000 in
set_option maxHeartbeats 4000000 in
theorem tbatch_one (w : World) {M X B r cq gq : Nat} {num bas last given k : Int} {rd : Bool} {l : List (Int × List UInt8)} (hM : MgrG w M X B r (.slice (some ⟨gq, 0, none⟩) 1 cq) 0 num bas last given rd) (hl : l.length ≤ 32) (hn0 : 0 ≤ num) (hn1 : num ≤ 1000000000000)
    (hW : ∀ w1, Chg [] w w1 → Calls Tryz.prog 99 #[.pointer (some ⟨M, 0, none⟩)] w1 fun e w' => ∃ v, e = .returned v ∧ Chg [] w1 w' ∧ TxOne w' w1.heap.size v k l) :
    Calls Tryz.prog 55 #[.pointer (some ⟨M, 0, none⟩)] w fun e w' => ∃ g c, e = .returned (.tuple #[.agg #[.int .i64 (num + 1), .slice (some ⟨g, 0, none⟩) 1 c], .int .i64 0]) ∧ Chg [M] w w' ∧ MgrG w' M X B r (.slice (some ⟨gq, 0, none⟩) 1 cq) 1 num bas last given rd ∧ TxOne w' w.heap.size (.slice (some ⟨g, 0, none⟩) 1 c) k l := by
  have k0 : Chg [] w (w.alloc (.cells #[.int .i64 0, .slice none 0 0] 102)) := Chg.alloc w _
  have K0 := heap_new w (.cells #[.int .i64 0, .slice none 0 0] 102)
  have hM0 := k0.heap hM (by simp)
  have HW := Lib.hid (hW _ k0)
  have m0 : (w.alloc (.cells #[.int .i64 0, .slice none 0 0] 102)).cell? ⟨M, 0, none⟩ = some (.pointer (some ⟨X, 0, none⟩)) := cell_is hM0 0 rfl
  have m4 : (w.alloc (.cells #[.int .i64 0, .slice none 0 0] 102)).cell? ⟨M, 4, none⟩ = some (.int .i64 0) := cell_is hM0 4 rfl
  have m3 : (w.alloc (.cells #[.int .i64 0, .slice none 0 0] 102)).cell? ⟨M, 3, none⟩ = some (.slice (some ⟨gq, 0, none⟩) 1 cq) := cell_is hM0 3 rfl
  have hgone : ∀ w1 : World, w1.cell? ⟨M, 0, none⟩ = some (.pointer (some ⟨X, 0, none⟩)) → Calls Tryz.prog 98 #[.pointer (some ⟨M, 0, none⟩)] w1 fun e w' => e = .returned (.bool false) ∧ w1 = w' := by
    intro w1 c0
    clear hW HW hM hM0 m0 m4 m3 K0
    go_enter Tryz.func98, Tryz.ntmps98
    go_wp2_with fail
    go_ret
    exact ⟨rfl, rfl⟩
  have HG := Lib.hid (hgone _ m0)
  clear hW hM hgone
  go_enter Tryz.func55, Tryz.ntmps55
  go_wp2_with fail
  generalize w.alloc (.cells #[.int .i64 0, .slice none 0 0] 102) = w1 at *
  generalize hR : w.heap.size = R at *
  refine HG.out.mono ?_
  rintro e w2 ⟨rfl, rfl⟩
  go_wp2_with fail
  refine HW.out.mono ?_
  rintro e w2 ⟨v, rfl, k2, ht⟩
  have hM2 := k2.heap hM0 (by simp)
  have K2 := k2.heap K0 (by simp)
  have HF := Lib.hid (form_one w2 ht hl)
  have kk2 := k0.then k2
  obtain ⟨g, c, pb, cb, rfl, hc1, hlo, -, -, -, -, -⟩ := ht.open_
  have HT := Lib.hid ht
  clear m0 m4 m3 ht hM0 K0 HG HW
  go_wp2_with fail
  refine HF.out.mono ?_
  rintro e w3 ⟨rfl, k3⟩
  have hM3 := k3.heap hM2 (by simp)
  have K3 := k3.heap K2 (by simp)
  have HT3 := Lib.hid (HT.out.keep k3)
  have kk3 := kk2.then k3
  have m4 : w3.cell? ⟨M, 4, none⟩ = some (.int .i64 0) := cell_is hM3 4 rfl
  have f4 := unfrozen hM3 4
  clear hM2 K2 HF HT k3 kk2
  have hMR : M ≠ R := heap_ne hM3 K3 (by simp)
  have kS := Chg.set w3 M 4 (.int .i64 1)
  have hM4 : MgrG (w3.setCell ⟨M, 4, none⟩ (.int .i64 1)) M X B r (.slice (some ⟨gq, 0, none⟩) 1 cq) 1 num bas last given rd := heap_set hM3 4 _ rfl
  have K4 := heap_set_ne K3 hMR.symm 4 (.int .i64 1)
  have HT4 := Lib.hid (HT3.out.keepA kS (Av.row hM3 (by decide)))
  have kk4 : Chg [M] w (w3.setCell ⟨M, 4, none⟩ (.int .i64 1)) := (kk3.mono (fun x hx _ => by cases hx)).then kS
  go_upto_region 9 with fail
  clear kk3 K3 hM3 HT3 m4 f4 kS
  generalize w3.setCell ⟨M, 4, none⟩ (.int .i64 1) = w4 at *
  have n5 : w4.drew.cell? ⟨M, 5, none⟩ = some (.int .i64 num) := cell_is hM4 5 rfl
  have n4 : w4.drew.cell? ⟨M, 4, none⟩ = some (.int .i64 1) := cell_is hM4 4 rfl
  have r0 : w4.drew.cell? ⟨R, 0, none⟩ = some (.int .i64 0) := cell_is K4 0 rfl
  have r1 : w4.drew.cell? ⟨R, 1, none⟩ = some (.slice none 0 0) := cell_is K4 1 rfl
  have z0 : w4.drew.frozen? ⟨R, 0, none⟩ = false := unfrozen K4 0
  have z1 : w4.drew.frozen? ⟨R, 1, none⟩ = false := unfrozen K4 1
  have r0' : w4.cell? ⟨R, 0, none⟩ = some (.int .i64 0) := r0
  have r1' : w4.cell? ⟨R, 1, none⟩ = some (.slice none 0 0) := r1
  have z0' : w4.frozen? ⟨R, 0, none⟩ = false := z0
  have z1' : w4.frozen? ⟨R, 1, none⟩ = false := z1
  have hcl : (1 : Int) ≤ c := by omega
  have hnw : IntKind.i64.wrap (num + 1) = num + 1 := by rw [IntKind.wrap_i64]; omega
  have kR : ∀ a b, Chg [R] w4 ((w4.setCell ⟨R, 0, none⟩ a).setCell ⟨R, 1, none⟩ b).drew := fun a b => (((Chg.refl [R] w4).then_set (fun _ => by simp) 0 a).then_set (fun _ => by simp) 1 b).drew
  have fR : ∀ a b, ((w4.setCell ⟨R, 0, none⟩ a).setCell ⟨R, 1, none⟩ b).drew.cell? ⟨M, 5, none⟩ = some (.int .i64 num) ∧ ((w4.setCell ⟨R, 0, none⟩ a).setCell ⟨R, 1, none⟩ b).drew.cell? ⟨M, 4, none⟩ = some (.int .i64 1) := fun a b => ⟨(kR a b).cell n5 (by simpa using hMR), (kR a b).cell n4 (by simpa using hMR)⟩
  go_region_held3 (fun wx => wx.cell? ⟨M, 5, none⟩ = some (.int .i64 num) ∧ wx.cell? ⟨M, 4, none⟩ = some (.int .i64 1))
    (first | (with_reducible exact ⟨n5, n4⟩) | (with_reducible exact fR _ _))
    (first | (fail))
  all_goals
    have kF := kR (.int .i64 (num + 1)) (.slice (some ⟨g, 0, none⟩) 1 c)
    have K6 : ((w4.setCell ⟨R, 0, none⟩ (.int .i64 (num + 1))).setCell ⟨R, 1, none⟩ (.slice (some ⟨g, 0, none⟩) 1 c)).drew.heap[R]? = some (.cells #[.int .i64 (num + 1), .slice (some ⟨g, 0, none⟩) 1 c] 102 (0, 0)) := heap_set (heap_set K4 0 _ rfl) 1 _ rfl
    have hM6 := kF.heap hM4 (by simpa using hMR)
    have HT6 := Lib.hid (HT4.out.keepA kF (Av.row K4 (by decide)))
    have kk6 : Chg [M] w ((w4.setCell ⟨R, 0, none⟩ (.int .i64 (num + 1))).setCell ⟨R, 1, none⟩ (.slice (some ⟨g, 0, none⟩) 1 c)).drew := kk4.trans kF (fun x hx hlt => by rw [List.mem_singleton] at hx; omega)
    have c0 : ((w4.setCell ⟨R, 0, none⟩ (.int .i64 (num + 1))).setCell ⟨R, 1, none⟩ (.slice (some ⟨g, 0, none⟩) 1 c)).drew.cell? ⟨R, 0, none⟩ = some (.int .i64 (num + 1)) := cell_is K6 0 rfl
    have c1 : ((w4.setCell ⟨R, 0, none⟩ (.int .i64 (num + 1))).setCell ⟨R, 1, none⟩ (.slice (some ⟨g, 0, none⟩) 1 c)).drew.cell? ⟨R, 1, none⟩ = some (.slice (some ⟨g, 0, none⟩) 1 c) := cell_is K6 1 rfl
    clear kR fR HT4 r0 r1 z0 z1 r0' r1' z0' z1' n5 n4 K4
    go_wp2_with fail
    refine bodyPost_ret (v := .tuple #[.agg #[.int .i64 (num + 1), .slice (some ⟨g, 0, none⟩) 1 c], .int .i64 0]) (by simp [results, Tryz.results55, go_sem, c0, c1]) rfl ?_
    exact ⟨g, c, rfl, kk6, hM6, HT6.out.low (by rw [hR]; have := k0.size; omega)⟩
end Go.Proofs.YtfodeeejolkkfaaGreat
namespace Go.Proofs.YtfodeeejolkkfaaGreat
open Go.RowKit Go.Lib

/-- the numbers of puts rise. -/
def Rise (l : List (Int × List UInt8)) : Prop := ∀ i (h : i + 1 < l.length), l[i].1 < l[i + 1].1
set_option maxRecDepth 100000 in
set_option maxHeartbeats 4000000 in
theorem order_one (w : World) {lo : Nat} {v : Value} {k : Int} {l : List (Int × List UInt8)} (h : TxOne w lo v k l) (hk0 : 1 ≤ k) (hk1 : k ≤ 1099511627776) (hl0 : 0 < l.length) (hl : l.length ≤ 1000) (hr : Rise l) : Calls Tryz.prog 198 #[v] w fun e w' => e = .returned (.bool true) ∧ Chg [] w w' := by
  obtain ⟨g, c, pb, cb, rfl, -, -, -, c0, c1, hcb, hp⟩ := h.open_
  have HP := Lib.hid hp
  have HR := Lib.hid hr
  have n0 : decide (k ≤ 0) = false := decide_eq_false (by omega)
  have n1 : decide (1099511627776 < k) = false := decide_eq_false (by omega)
  have n2 : ((l.length : Int) == 0) = false := beq_eq_false_iff_ne.2 (by omega)
  have hcbi : (l.length : Int) ≤ cb := by omega
  clear h hp hr
  go_enter Tryz.func198, Tryz.ntmps198
  go_wp2_with fail
  go_loopw [3, 5, 6, 9] (fun s _ _ i wr => (i = .int .i64 0 ∧ s = .int .i64 0 ∧ wr = w) ∨ (i = .int .i64 1 ∧ Chg [] w wr)) (fun _ _ _ i _ => 1 - (intOf i).toNat)
  case atStart => exact Or.inl ⟨rfl, rfl, rfl⟩
  case round =>
    rcases hrel with ⟨rfl, rfl, rfl⟩ | ⟨rfl, kr⟩
    · have ka : Chg [] wr (wr.alloc (.cells #[.int .i64 k, .slice pb l.length cb] 189)) := Chg.alloc wr _
      have A0 := heap_new wr (.cells #[.int .i64 k, .slice pb l.length cb] 189)
      go_wp2_with fail
      generalize hzz : wr.heap.size = z at *
      generalize wr.alloc (.cells #[.int .i64 k, .slice pb l.length cb] 189) = w2 at *
      go_loopw [6] (fun i wz => ∃ j : Nat, 1 ≤ j ∧ j ≤ l.length ∧ i = .int .i64 j ∧ Chg [] w2 wz) (fun i _ => l.length - (intOf i).toNat)
      case atStart => exact ⟨1, by omega, by omega, rfl, Chg.refl _ _⟩
      case round =>
        obtain ⟨j, hj1, hj, rfl, kz⟩ := hrel
        rename World => wz
        have b1 : wz.cell? ⟨z, 1, none⟩ = some (.slice pb l.length cb) := cell_is (kz.heap A0 (by simp)) 1 rfl
        by_cases hlt : j < l.length
        · obtain ⟨q, rfl⟩ : ∃ q, j = q + 1 := ⟨j - 1, by omega⟩
          have hP2 := (HP.out.keep0 ka).keep0 kz
          obtain ⟨gp, cap, gd, cd, hv, -, d1, -, -, -, -⟩ := hP2.get (q + 1) hlt
          obtain ⟨gp', cap', gd', cd', hv', -, d0, -, -, -, -⟩ := hP2.get q (by omega)
          cases hv
          cases hv'
          have hlt2 := HR.out q hlt
          have hnle : decide ((l[q + 1]).1 ≤ (l[q]'(by omega)).1) = false := decide_eq_false (by omega)
          have hwq : IntKind.i64.wrap (((q + 1 : Nat) : Int) - 1) = q := by rw [IntKind.wrap_i64]; omega
          have hqi : (q : Int) < l.length := by omega
          have hqi2 : ((q + 1 : Nat) : Int) < l.length := by omega
          clear hP2 HP HR hlt2
          generalize (l[q + 1]).1 = x at *
          generalize (l[q]'(by omega)).1 = y at *
          go_wp2_with fail
          go_quiet (fail)
          go_wp2_with fail
          exact ⟨⟨q + 2, by omega, by omega, by go_num, kz.drewN nq⟩, by simp [intOf]; omega⟩
        · obtain rfl : j = l.length := by omega
          go_wp2_with fail
          exact ⟨Or.inr ⟨rfl, ka.then kz⟩, by decide⟩
    · go_wp2_with fail
      go_ret
      exact ⟨rfl, kr⟩
set_option maxRecDepth 100000 in
set_option maxHeartbeats 1000000 in
theorem blocks_one (w : World) {lo : Nat} {v : Value} {k num : Int} {l : List (Int × List UInt8)} (h : TxOne w lo v k l) (hl : l.length ≤ 1000) : Calls Tryz.prog 199 #[.agg #[.int .i64 num, v]] w fun e w' => e = .returned (.int .i64 ((1 + l.length : Nat) : Int)) ∧ Chg [] w w' := by
  have k0 : Chg [] w (w.alloc (.cells #[.int .i64 num, v] 102)) := Chg.alloc w _
  have K0 := heap_new w (.cells #[.int .i64 num, v] 102)
  obtain ⟨g, c, pb, cb, rfl, -, -, -, c0, c1, hcb, -⟩ := (h.keep k0).open_
  have b1 : (w.alloc (.cells #[.int .i64 num, .slice (some ⟨g, 0, none⟩) 1 c] 102)).cell? ⟨w.heap.size, 1, none⟩ = some (.slice (some ⟨g, 0, none⟩) 1 c) := cell_is K0 1 rfl
  clear h K0
  go_enter Tryz.func199, Tryz.ntmps199
  go_wp2_with fail
  generalize w.alloc (.cells #[.int .i64 num, .slice (some ⟨g, 0, none⟩) 1 c] 102) = w1 at *
  go_loopw [3, 5, 9] (fun n _ i wr => (i = .int .i64 0 ∧ n = .int .i64 1 ∧ wr = w1) ∨ (i = .int .i64 1 ∧ n = .int .i64 ((1 + l.length : Nat) : Int) ∧ Chg [] w1 wr)) (fun _ _ i _ => 1 - (intOf i).toNat)
  case atStart => exact Or.inl ⟨rfl, rfl, rfl⟩
  case round =>
    rcases hrel with ⟨rfl, rfl, rfl⟩ | ⟨rfl, rfl, kr⟩
    · have ka : Chg [] wr (wr.alloc (.cells #[.int .i64 k, .slice pb l.length cb] 189)) := Chg.alloc wr _
      go_wp2_with fail
      go_roundw
      case rel => exact Or.inr ⟨rfl, by go_num, ka⟩
      case measure => decide
    · go_wp2_with fail
      go_ret
      exact ⟨rfl, k0.then kr⟩
set_option maxRecDepth 100000 in
theorem bput_ok (w : World) {b : Int} {pd : Option Addr} {cd : Nat} (h0 : 0 ≤ b) (h1 : b < 258) : Calls Tryz.prog 201 #[.agg #[.int .i64 b, .slice pd 40 cd]] w fun e w' => e = .returned (.bool true) ∧ Chg [] w w' := by
  have kc : Chg [] w (w.alloc (.cells #[.int .i64 b, .slice pd 40 cd] 92)) := Chg.alloc w _
  have n0 : decide (0 ≤ b) = true := decide_eq_true h0
  have n1 : decide (b ≤ 1048576) = true := decide_eq_true (by omega)
  go_enter Tryz.func201, Tryz.ntmps201
  go_wp2_with fail
  go_ret
  exact ⟨rfl, kc⟩
set_option maxRecDepth 100000 in
theorem bcheck1_ok (w : World) {b : Int} {pd : Option Addr} {cd : Nat} (h0 : 0 ≤ b) (h1 : b < 258) : Calls Tryz.prog 200 #[.agg #[.int .i64 b, .slice pd 40 cd]] w fun e w' => e = .returned (.bool false) ∧ Chg [] w w' := by
  have kc : Chg [] w (w.alloc (.cells #[.int .i64 b, .slice pd 40 cd] 92)) := Chg.alloc w _
  go_enter Tryz.func200, Tryz.ntmps200
  go_wp2_with fail
  refine (bput_ok _ h0 h1).mono ?_
  rintro e w2 ⟨rfl, k2⟩
  go_wp2_with fail
  go_ret
  exact ⟨rfl, kc.then k2⟩
set_option maxRecDepth 100000 in
theorem apply1_ok (w : World) {b : Int} {pd : Option Addr} {cd : Nat} : Calls Tryz.prog 164 #[.agg #[.int .i64 b, .slice pd 40 cd]] w fun e w' => e = .returned (.bool false) ∧ Chg [] w w' := by
  have kc : Chg [] w (w.alloc (.cells #[.int .i64 b, .slice pd 40 cd] 92)) := Chg.alloc w _
  go_enter Tryz.func164, Tryz.ntmps164
  go_wp2_with fail
  go_ret
  exact ⟨rfl, kc⟩
set_option maxRecDepth 100000 in
set_option maxHeartbeats 1000000 in
/-- IndexFunc over puts, by a function that says no. -/
theorem idxputs_200 (w : World) {lo cb : Nat} {pb : Option Addr} {l : List (Int × List UInt8)} (hp : PutsAt w lo (.slice pb l.length cb) l) (hk : ∀ x ∈ l, 0 ≤ x.1 ∧ x.1 < 258) (hl : l.length ≤ 1000) : Calls Tryz.prog 205 #[.slice pb l.length cb, .func (.func 200) #[] #[]] w fun e w' => e = .returned (.int .i64 (-1)) ∧ Chg [] w w' := by
  have hG : ∀ (w1 : World) (b : Int) (pd : Option Addr) (cd : Nat), 0 ≤ b → b < 258 → Calls Tryz.prog 200 #[.agg #[.int .i64 b, .slice pd 40 cd]] w1 fun e w' => e = .returned (.bool false) ∧ Chg [] w1 w' := fun w1 b pd cd h0 h1 => bcheck1_ok w1 h0 h1
  have HG := Lib.hid hG
  have HP := Lib.hid hp
  have HK := Lib.hid hk
  have hcb : l.length ≤ cb := by obtain ⟨pa, c, e, h⟩ := own_form hp.choose_spec.1; cases e; exact h
  clear hG hp hk
  go_enter Tryz.func205, Tryz.ntmps205
  go_wp2_with fail
  go_loopw [5, 8] (fun _ i wr => ∃ j : Nat, j ≤ l.length ∧ i = .int .i64 j ∧ Chg [] w wr) (fun _ i _ => l.length - (intOf i).toNat)
  case atStart => exact ⟨0, by omega, rfl, Chg.refl _ _⟩
  case round =>
    obtain ⟨j, hj, rfl, kr⟩ := hrel
    by_cases hlt : j < l.length
    · obtain ⟨g, cap, gd, cd, hv, -, d0, d1, -, -, -⟩ := (HP.out.keep0 kr).get j hlt
      cases hv
      have hb := HK.out l[j] (List.getElem_mem hlt)
      have HB := Lib.hid (HG.out wr l[j].1 (some ⟨gd, 0, none⟩) cd hb.1 hb.2)
      clear hb
      generalize (l[j]).1 = x at *
      go_wp2_with fail
      refine HB.out.mono ?_
      rintro e w2 ⟨rfl, k2⟩
      go_wp2_with fail
      go_roundw
      case rel => exact ⟨j + 1, by omega, by simp, kr.then k2⟩
      case measure => simp [intOf]; omega
    · obtain rfl : j = l.length := by omega
      go_wp2_with fail
      go_ret
      exact ⟨rfl, kr⟩
set_option maxRecDepth 100000 in
theorem contputs_200 (w : World) {lo cb : Nat} {pb : Option Addr} {l : List (Int × List UInt8)} (hp : PutsAt w lo (.slice pb l.length cb) l) (hk : ∀ x ∈ l, 0 ≤ x.1 ∧ x.1 < 258) (hl : l.length ≤ 1000) : Calls Tryz.prog 163 #[.slice pb l.length cb, .func (.func 200) #[] #[]] w fun e w' => e = .returned (.bool false) ∧ Chg [] w w' := by
  have HI := Lib.hid (idxputs_200 w hp hk hl)
  clear hp hk
  go_enter Tryz.func163, Tryz.ntmps163
  go_wp2_with fail
  refine HI.out.mono ?_
  rintro e w2 ⟨rfl, k⟩
  go_wp2_with fail
  go_ret
  exact ⟨rfl, k⟩
set_option maxRecDepth 100000 in
set_option maxHeartbeats 1000000 in
/-- IndexFunc over puts, by a function that says no. -/
theorem idxputs_164 (w : World) {lo cb : Nat} {pb : Option Addr} {l : List (Int × List UInt8)} (hp : PutsAt w lo (.slice pb l.length cb) l) (hk : ∀ x ∈ l, 0 ≤ x.1 ∧ x.1 < 258) (hl : l.length ≤ 1000) : Calls Tryz.prog 205 #[.slice pb l.length cb, .func (.func 164) #[] #[]] w fun e w' => e = .returned (.int .i64 (-1)) ∧ Chg [] w w' := by
  have hG : ∀ (w1 : World) (b : Int) (pd : Option Addr) (cd : Nat), 0 ≤ b → b < 258 → Calls Tryz.prog 164 #[.agg #[.int .i64 b, .slice pd 40 cd]] w1 fun e w' => e = .returned (.bool false) ∧ Chg [] w1 w' := fun w1 _ _ _ _ _ => apply1_ok w1
  have HG := Lib.hid hG
  have HP := Lib.hid hp
  have HK := Lib.hid hk
  have hcb : l.length ≤ cb := by obtain ⟨pa, c, e, h⟩ := own_form hp.choose_spec.1; cases e; exact h
  clear hG hp hk
  go_enter Tryz.func205, Tryz.ntmps205
  go_wp2_with fail
  go_loopw [5, 8] (fun _ i wr => ∃ j : Nat, j ≤ l.length ∧ i = .int .i64 j ∧ Chg [] w wr) (fun _ i _ => l.length - (intOf i).toNat)
  case atStart => exact ⟨0, by omega, rfl, Chg.refl _ _⟩
  case round =>
    obtain ⟨j, hj, rfl, kr⟩ := hrel
    by_cases hlt : j < l.length
    · obtain ⟨g, cap, gd, cd, hv, -, d0, d1, -, -, -⟩ := (HP.out.keep0 kr).get j hlt
      cases hv
      have hb := HK.out l[j] (List.getElem_mem hlt)
      have HB := Lib.hid (HG.out wr l[j].1 (some ⟨gd, 0, none⟩) cd hb.1 hb.2)
      clear hb
      generalize (l[j]).1 = x at *
      go_wp2_with fail
      refine HB.out.mono ?_
      rintro e w2 ⟨rfl, k2⟩
      go_wp2_with fail
      go_roundw
      case rel => exact ⟨j + 1, by omega, by simp, kr.then k2⟩
      case measure => simp [intOf]; omega
    · obtain rfl : j = l.length := by omega
      go_wp2_with fail
      go_ret
      exact ⟨rfl, kr⟩
set_option maxRecDepth 100000 in
theorem contputs_164 (w : World) {lo cb : Nat} {pb : Option Addr} {l : List (Int × List UInt8)} (hp : PutsAt w lo (.slice pb l.length cb) l) (hk : ∀ x ∈ l, 0 ≤ x.1 ∧ x.1 < 258) (hl : l.length ≤ 1000) : Calls Tryz.prog 163 #[.slice pb l.length cb, .func (.func 164) #[] #[]] w fun e w' => e = .returned (.bool false) ∧ Chg [] w w' := by
  have HI := Lib.hid (idxputs_164 w hp hk hl)
  clear hp hk
  go_enter Tryz.func163, Tryz.ntmps163
  go_wp2_with fail
  refine HI.out.mono ?_
  rintro e w2 ⟨rfl, k⟩
  go_wp2_with fail
  go_ret
  exact ⟨rfl, k⟩
end Go.Proofs.YtfodeeejolkkfaaGreat
namespace Go.Proofs.YtfodeeejolkkfaaGreat
open Go.RowKit Go.Lib

theorem still_of_quiet {P : Program} {ops : Array Oper} {w : World} {Q : Act → Prop} : ∀ (l : List Oper) (a : Act), wpQuiet P ops (fun w' => w' = w) Q l a → wpStill P ops w Q l a
  | [], _, h => h
  | o :: l, a, h => by
    unfold wpQuiet at h
    unfold wpStill
    by_cases hw : Region.wanted o (yielded ops a.tmps) = true
    · rw [if_pos hw] at h ⊢
      obtain ⟨v, h1, h2⟩ := h
      have h3 := h1 w rfl
      unfold Oper.quietAt at h3
      unfold Oper.still
      generalize (execOp a.eval o).run P w = r at h3
      unfold Oper.quietUpon at h3
      unfold Oper.stillUpon
      split at h3
      · obtain ⟨rfl, rfl⟩ := h3; exact ⟨rfl, still_of_quiet l _ h2⟩
      · obtain ⟨rfl, rfl⟩ := h3; exact ⟨rfl, still_of_quiet l _ h2⟩
      · obtain ⟨rfl, h4⟩ := h3; exact ⟨rfl, v, h4, still_of_quiet l _ h2⟩
      · exact h3.elim
    · rw [if_neg hw] at h ⊢
      exact still_of_quiet l _ h
/-- a region that draws: operations that only read, guarded or not, then a tail in one order. -/
theorem region_tail {P : Program} {id : Nat} {Q : Exit → Act → World → Prop} {a : Act} {w : World} {l : List Oper} (n : Nat) (hm : P.follows .mixedOrders = true) (hB : Region.lexTailB .any l.toArray n = true)
    (h : wpQuiet P l.toArray (fun w' => w' = w.drew) (fun a' => wpList P l.toArray Q (l.drop n) a' w.drew) (l.take n) a) : (Code.region id l.toArray true).wp P Q a w :=
  wp_region_still_tail n hm hB (still_of_quiet _ _ h)

set_option maxRecDepth 100000 in
set_option maxHeartbeats 4000000 in
theorem bcheck_one (w : World) {lo : Nat} {v : Value} {k num : Int} {l : List (Int × List UInt8)} (h : TxOne w lo v k l) (hn0 : 1 ≤ num) (hn1 : num ≤ 1099511627776) (hk0 : 1 ≤ k) (hk1 : k ≤ 1099511627776) (hl0 : 0 < l.length) (hl : l.length ≤ 16) (hr : Rise l) (hk : ∀ x ∈ l, 0 ≤ x.1 ∧ x.1 < 258) :
    Calls Tryz.prog 158 #[.agg #[.int .i64 num, v]] w fun e w' => e = .returned (.int .i64 0) ∧ Chg [] w w' := by
  have k0 : Chg [] w (w.alloc (.cells #[.int .i64 num, v] 102)) := Chg.alloc w _
  have K0 := heap_new w (.cells #[.int .i64 num, v] 102)
  have h1 := h.keep k0
  obtain ⟨g, c, pb, cb, rfl, hc1, -, -, c0, c1, hcb, hp⟩ := h1.open_
  have b0 : (w.alloc (.cells #[.int .i64 num, .slice (some ⟨g, 0, none⟩) 1 c] 102)).cell? ⟨w.heap.size, 0, none⟩ = some (.int .i64 num) := cell_is K0 0 rfl
  have b1 : (w.alloc (.cells #[.int .i64 num, .slice (some ⟨g, 0, none⟩) 1 c] 102)).cell? ⟨w.heap.size, 1, none⟩ = some (.slice (some ⟨g, 0, none⟩) 1 c) := cell_is K0 1 rfl
  have n0 : decide (num < 1) = false := decide_eq_false (by omega)
  have n1 : decide (1099511627776 < num) = false := decide_eq_false (by omega)
  have n2 : decide (16 < (l.length : Int)) = false := decide_eq_false (by omega)
  have n3 : decide (33 < ((1 + l.length : Nat) : Int)) = false := decide_eq_false (by omega)
  have n3' : decide (33 < 1 + (l.length : Int)) = false := decide_eq_false (by omega)
  have HO := Lib.hid (order_one _ h1 hk0 hk1 hl0 (by omega) hr)
  have HB := Lib.hid (fun w1 (kk : Chg [] (w.alloc (.cells #[.int .i64 num, .slice (some ⟨g, 0, none⟩) 1 c] 102)) w1) => blocks_one w1 (num := num) (h1.keep kk) (by omega))
  have HC := Lib.hid (fun w1 (kk : Chg [] (w.alloc (.cells #[.int .i64 num, .slice (some ⟨g, 0, none⟩) 1 c] 102)) w1) => contputs_200 w1 (hp.keep0 kk) hk (by omega))
  clear h h1 hp hr hk
  go_enter Tryz.func158, Tryz.ntmps158
  go_wp2_with fail
  generalize w.alloc (.cells #[.int .i64 num, .slice (some ⟨g, 0, none⟩) 1 c] 102) = w1 at *
  generalize hz : w.heap.size = z at *
  refine HO.out.mono ?_
  rintro e w2 ⟨rfl, k2⟩
  have b02 := k2.cell b0 (by simp)
  have b12 := k2.cell b1 (by simp)
  go_wp2_with fail
  refine (HB.out w2 k2).mono ?_
  rintro e w3 ⟨rfl, k3⟩
  have k23 := k2.then k3
  have b13 := k23.cell b1 (by simp)
  have c03 := k23.cell c0 (by simp)
  have c13 := k23.cell c1 (by simp)
  clear HO HB
  go_wp2_with fail
  go_loopw [3, 4, 39] (fun _ _ i wr => (i = .int .i64 0 ∧ wr = w3) ∨ (i = .int .i64 1 ∧ Chg [] w1 wr)) (fun _ _ i _ => 1 - (intOf i).toNat)
  case atStart => exact Or.inl ⟨rfl, rfl⟩
  case round =>
    rcases hrel with ⟨rfl, rfl⟩ | ⟨rfl, kr⟩
    · have ka : Chg [] wr (wr.alloc (.cells #[.int .i64 k, .slice pb l.length cb] 189)) := Chg.alloc wr _
      have A0 := heap_new wr (.cells #[.int .i64 k, .slice pb l.length cb] 189)
      have HC4 := Lib.hid (HC.out _ ((k23.then ka).drew))
      go_wp2_with fail
      generalize wr.alloc (.cells #[.int .i64 k, .slice pb l.length cb] 189) = w4 at *
      generalize wr.heap.size = z4 at *
      have a1 : w4.cell? ⟨z4, 1, none⟩ = some (.slice pb l.length cb) := cell_is A0 1 rfl
      have a1d : w4.drew.cell? ⟨z4, 1, none⟩ = some (.slice pb l.length cb) := a1
      refine region_tail 24 (by kernel_rfl) (by kernel_rfl) ?_
      simp only [List.take_succ_cons, List.take_zero, List.drop_succ_cons, List.drop_zero]
      repeat (go_big_quiet_step (fail))
      refine wpQuiet_nil ?_
      go_wp2_with fail
      refine HC4.out.mono ?_
      rintro e w6 ⟨rfl, k6⟩
      have kf := ((k23.then ka).drew).then k6
      clear HC4 HC k6
      go_wp2_with fail
      go_roundw
      case rel => exact Or.inr ⟨rfl, kf⟩
      case measure => decide
    · go_wp2_with fail
      go_ret
      exact ⟨rfl, k0.then kr⟩
end Go.Proofs.YtfodeeejolkkfaaGreat
