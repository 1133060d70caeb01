/- Lemmas and walks: Walks: a device whose log holds batches is mounted (store.Mount). Walks: what all blocks are that were written (extmap.Dump, txn.Dump, store.Dump, store.Last). Walks: what a crash leaves of a device whose blocks are all for good (zdev.Crash). Walks: the bytes that the law writes. Walks: the bytes that hang on a number, told exactly (scarpalike.Data); like bytes are found alike (scarpalike.Bytes). Walks: a store's batch of one transaction is flushed. Walks: versions that are no newer than a time: nothing was written behind it. Walks: a transaction is checked, and may be committed, where all versions are no newer than its time and nothing waits. Walks: a store's Begin and Commit, in general. Walks: a new world of law 26, with all that its store holds. Walks: a new world of law 24. -/
import Derived.Deep.RegionHeld3
import Derived.Maps.RangeRun
import Derived.Test.YtkhionhicegfmaaGreatCc
import Derived.Test.YtkhionhicegfmaaGreatCd
import Derived.Test.YtkhionhicegfmaaGreatCe
import Derived.Test.YtkhionhicegfmaaGreatCf
import Derived.Test.YtkhionhicegfmaaGreatCg
import Derived.Test.YtkhionhicegfmaaGreatCh
import Derived.Test.YtkhionhicegfmaaGreatCi
namespace Go.Proofs.YtkhionhicegfmaaGreat
open Go.RowKit Go.Lib

/-- what all blocks hold behind some puts, by rising number. -/
def finL (ps : List (Int × List UInt8)) : List (Int × List UInt8) := (sortI (appK ps)).map fun k => (k, appD ps k)
theorem finL_length (ps : List (Int × List UInt8)) : (finL ps).length = (appK ps).length := by simp [finL, sortI_length]
theorem putsL_fin {L : List (Int × Value)} {ps : List (Int × List UInt8)} (h : L.map Prod.fst = appK ps) : putsL L (appD ps) = finL ps := by
  rw [putsL, finL, h]
theorem appK_in {P : Int → Prop} (ps : List (Int × List UInt8)) (h : ∀ x ∈ ps, P x.1) : ∀ k ∈ appK ps, P k := by
  have h2 : ∀ (ps : List (Int × List UInt8)) (K : List Int), (∀ x ∈ ps, P x.1) → (∀ k ∈ K, P k) → ∀ k ∈ ps.foldl (fun K x => if x.1 ∈ K then K else K ++ [x.1]) K, P k := by
    intro ps
    induction ps with
    | nil => intro K _ hK; exact hK
    | cons x ps ih =>
      intro K hp hK
      refine ih _ (fun y hy => hp y (List.mem_cons_of_mem _ hy)) ?_
      intro k hk
      dsimp only at hk
      by_cases e : x.1 ∈ K
      · rw [if_pos e] at hk
        exact hK k hk
      · rw [if_neg e] at hk
        rcases List.mem_append.1 hk with hk | hk
        · exact hK k hk
        · rw [List.mem_singleton] at hk
          subst hk
          exact hp x (List.mem_cons_self ..)
  exact h2 ps [] h (fun k hk => by cases hk)
/-- what stands while a store with a log is mounted. -/
structure Bq (w wx : World) (base N A c : Nat) (ops rds : Int) (Z : List Nat) (vs : Nat → Value) (gs : Nat → Nat) (zs : Nat → List (List UInt8)) (P S R r pos num last : Nat) (ps : List (Int × List UInt8)) : Prop where
  chg : Chg (N :: Z) w wx
  dev : DevK wx base N A c ops rds Z vs gs zs
  slot : SlotAt wx S N
  store : ∃ q, StoreM wx P N S q pos num
  state : StateM wx R r last
  map : ∃ L, MapAt wx r L ∧ BufD wx L (appD ps) ∧ L.map Prod.fst = appK ps
theorem Bq.keep {w w1 w2 : World} {base N A c : Nat} {ops rds : Int} {Z : List Nat} {vs : Nat → Value} {gs : Nat → Nat} {zs : Nat → List (List UInt8)} {P S R r pos num last : Nat} {ps : List (Int × List UInt8)} (h : Bq w w1 base N A c ops rds Z vs gs zs P S R r pos num last ps) (hc : Chg [] w1 w2) : Bq w w2 base N A c ops rds Z vs gs zs P S R r pos num last ps := by
  obtain ⟨q, hs⟩ := h.store
  obtain ⟨L, h1, h2, h3⟩ := h.map
  exact ⟨h.chg.then (hc.mono (fun x hx _ => by cases hx)), h.dev.keep hc (Av.nil _ _), h.slot.keep hc (by simp), ⟨q, hc.heap hs (by simp)⟩, hc.heap h.state (by simp), L, h1.keep hc (by simp), h2.keep hc, h3⟩
theorem Bq.drew {w w1 : World} {base N A c : Nat} {ops rds : Int} {Z : List Nat} {vs : Nat → Value} {gs : Nat → Nat} {zs : Nat → List (List UInt8)} {P S R r pos num last : Nat} {ps : List (Int × List UInt8)} (h : Bq w w1 base N A c ops rds Z vs gs zs P S R r pos num last ps) : Bq w w1.drew base N A c ops rds Z vs gs zs P S R r pos num last ps := h.keep (Chg.refl [] w1).drew
theorem Bq.r0 {w w1 : World} {base N A c : Nat} {ops rds : Int} {Z : List Nat} {vs : Nat → Value} {gs : Nat → Nat} {zs : Nat → List (List UInt8)} {P S R r pos num last : Nat} {ps : List (Int × List UInt8)} (h : Bq w w1 base N A c ops rds Z vs gs zs P S R r pos num last ps) : w1.cell? ⟨R, 0, none⟩ = some (.int .i64 last) := cell_is h.state 0 rfl
theorem Bq.p5 {w w1 : World} {base N A c : Nat} {ops rds : Int} {Z : List Nat} {vs : Nat → Value} {gs : Nat → Nat} {zs : Nat → List (List UInt8)} {P S R r pos num last : Nat} {ps : List (Int × List UInt8)} (h : Bq w w1 base N A c ops rds Z vs gs zs P S R r pos num last ps) : (∃ m, w1.cell? ⟨P, 5, none⟩ = some (.pointer m)) ∧ w1.frozen? ⟨P, 5, none⟩ = false := by
  obtain ⟨q, hs⟩ := h.store
  exact ⟨⟨q, cell_is hs 5 rfl⟩, unfrozen hs 5⟩
theorem Bq.set {w w1 : World} {base N A c : Nat} {ops rds : Int} {Z : List Nat} {vs : Nat → Value} {gs : Nat → Nat} {zs : Nat → List (List UInt8)} {P S R r pos num last : Nat} {ps : List (Int × List UInt8)} (h : Bq w w1 base N A c ops rds Z vs gs zs P S R r pos num last ps) (hP : w.heap.size ≤ P) (q : Option Addr) :
    Bq w (w1.setCell ⟨P, 5, none⟩ (.pointer q)) base N A c ops rds Z vs gs zs P S R r pos num last ps ∧ StoreM (w1.setCell ⟨P, 5, none⟩ (.pointer q)) P N S q pos num := by
  obtain ⟨m, hs⟩ := h.store
  obtain ⟨L, h1, h2, h3⟩ := h.map
  have k := Chg.set w1 P 5 (.pointer q)
  have b2 : StoreM (w1.setCell ⟨P, 5, none⟩ (.pointer q)) P N S q pos num := heap_set hs 5 _ rfl
  refine ⟨⟨h.chg.new_set hP 5 _, h.dev.keep k (Av.row hs (by decide)), h.slot.keep k (by simpa using heap_ne h.slot hs (by simp)), ⟨q, b2⟩, k.heap h.state (by simpa using heap_ne h.state hs (by simp)), L, h1.keep k (by simpa using map_cells h1 hs), ?_, h3⟩, b2⟩
  intro j v hv
  obtain ⟨g, cc, e1, e2, e3, e4⟩ := h2 j v hv
  have hn : g ∉ [P] := Bt.av e4 (Av.row hs (ts := [5]) (by decide)) (by simp)
  exact ⟨g, cc, e1, e2.chgT k hn, e3, Bt.keep e4 k hn⟩
/-- a manager of it, that has taken nothing in. -/
structure Mq (w wx : World) (base N A c : Nat) (ops rds : Int) (Z : List Nat) (vs : Nat → Value) (gs : Nat → Nat) (zs : Nat → List (List UInt8)) (P S R r pos num last : Nat) (ps : List (Int × List UInt8)) (M X rx B rb rc lo : Nat) : Prop where
  bq : Bq w wx base N A c ops rds Z vs gs zs P S R r pos num last ps
  store : StoreM wx P N S (some ⟨M, 0, none⟩) pos num
  mgr : MgrG wx M X B rc (.slice none 0 0) 0 0 last last last false
  ver : VerG wx lo X rx 0 [] (fun _ => [])
  book : BookAt wx B rb 0 []
  mp : MapAt wx rc []
theorem Mq.keep {w w1 w2 : World} {base N A c : Nat} {ops rds : Int} {Z : List Nat} {vs : Nat → Value} {gs : Nat → Nat} {zs : Nat → List (List UInt8)} {P S R r pos num last : Nat} {ps : List (Int × List UInt8)} {M X rx B rb rc lo : Nat} (h : Mq w w1 base N A c ops rds Z vs gs zs P S R r pos num last ps M X rx B rb rc lo) (hc : Chg [] w1 w2) : Mq w w2 base N A c ops rds Z vs gs zs P S R r pos num last ps M X rx B rb rc lo :=
  ⟨h.bq.keep hc, hc.heap h.store (by simp), hc.heap h.mgr (by simp), h.ver.keep hc, h.book.keep hc (by simp) (by simp), h.mp.keep hc (by simp)⟩
theorem Mq.drew {w w1 : World} {base N A c : Nat} {ops rds : Int} {Z : List Nat} {vs : Nat → Value} {gs : Nat → Nat} {zs : Nat → List (List UInt8)} {P S R r pos num last : Nat} {ps : List (Int × List UInt8)} {M X rx B rb rc lo : Nat} (h : Mq w w1 base N A c ops rds Z vs gs zs P S R r pos num last ps M X rx B rb rc lo) : Mq w w1.drew base N A c ops rds Z vs gs zs P S R r pos num last ps M X rx B rb rc lo := h.keep (Chg.refl [] w1).drew
theorem Mq.p5 {w w1 : World} {base N A c : Nat} {ops rds : Int} {Z : List Nat} {vs : Nat → Value} {gs : Nat → Nat} {zs : Nat → List (List UInt8)} {P S R r pos num last : Nat} {ps : List (Int × List UInt8)} {M X rx B rb rc lo : Nat} (h : Mq w w1 base N A c ops rds Z vs gs zs P S R r pos num last ps M X rx B rb rc lo) : w1.cell? ⟨P, 5, none⟩ = some (.pointer (some ⟨M, 0, none⟩)) := cell_is h.store 5 rfl
/-- a store that was mounted with a log. -/
structure Mo (w wx : World) (base N A c : Nat) (ops rds : Int) (Z : List Nat) (vs : Nat → Value) (gs : Nat → Nat) (zs : Nat → List (List UInt8)) (P S M X rx B rb r lo pos num k : Nat) (Lv : List (Int × Value)) (l : List (Int × List UInt8)) : Prop where
  chg : Chg (N :: Z) w wx
  dev : DevK wx base N A c ops rds Z vs gs zs
  store : StoreG wx P N S M pos num
  slot : SlotAt wx S N
  mgr : MgrG wx M X B r (.slice none 0 0) 0 0 k k k false
  ver : VerG wx lo X rx k Lv (applyV (fun _ => []) k l)
  ap : ApL Lv
  keys : ∀ p ∈ Lv, 0 ≤ p.1 ∧ p.1 < 258
  book : BookAt wx B rb 0 []
  map : MapAt wx r []
  bnd : w.heap.size ≤ P ∧ w.heap.size ≤ S ∧ w.heap.size ≤ M ∧ w.heap.size ≤ X ∧ w.heap.size ≤ rx ∧ w.heap.size ≤ B ∧ w.heap.size ≤ rb ∧ w.heap.size ≤ r ∧ w.heap.size ≤ lo ∧ lo ≤ wx.heap.size
  ne : rx ≠ rb ∧ r ≠ rb ∧ r ≠ rx
/-- .. behind the taking in of what was there. -/
theorem Mq.mo {w w1 w2 : World} {base N A c : Nat} {ops rds : Int} {Z : List Nat} {vs : Nat → Value} {gs : Nat → Nat} {zs : Nat → List (List UInt8)} {P S R r pos num last : Nat} {ps : List (Int × List UInt8)} {M X rx B rb rc lo : Nat} {Lv : List (Int × Value)} {l : List (Int × List UInt8)} (h : Mq w w1 base N A c ops rds Z vs gs zs P S R r pos num last ps M X rx B rb rc lo) (hv : Cv lo X rx w1 w2) (hV : VerG w2 lo X rx last Lv (applyV (fun _ => []) last l)) (hap : ApL Lv) (hk : ∀ p ∈ Lv, 0 ≤ p.1 ∧ p.1 < 258)
    (hb : w.heap.size ≤ P ∧ w.heap.size ≤ S ∧ w.heap.size ≤ M ∧ w.heap.size ≤ X ∧ w.heap.size ≤ rx ∧ w.heap.size ≤ B ∧ w.heap.size ≤ rb ∧ w.heap.size ≤ rc ∧ w.heap.size ≤ lo ∧ lo ≤ w1.heap.size) (hn : rx ≠ rb ∧ rc ≠ rb ∧ rc ≠ rx) : Mo w w2 base N A c ops rds Z vs gs zs P S M X rx B rb rc lo pos num last Lv l := by
  obtain ⟨T, k, hT⟩ := hv
  have av : ∀ ts, 253 ∉ ts → 262 ∉ ts → Av w1 T ts := fun ts a b => Cv.av hT h.ver.x h.ver.m a b
  refine ⟨h.bq.chg.trans k (fun x hx hlt => ?_), h.bq.dev.keep k (av _ (by decide) (by decide)), k.heap h.store ((av [105] (by decide) (by decide)).ne h.store (by simp)), h.bq.slot.keep k ((av [166] (by decide) (by decide)).ne h.bq.slot (by simp)), k.heap h.mgr ((av [189] (by decide) (by decide)).ne h.mgr (by simp)), hV, hap, hk,
    ⟨k.heap h.book.1 ((av [256] (by decide) (by decide)).ne h.book.1 (by simp)), h.book.2.keep k (Cv.map hT h.ver.x h.book.2 hn.1.symm)⟩, h.mp.keep k (Cv.map hT h.ver.x h.mp hn.2.2), ⟨hb.1, hb.2.1, hb.2.2.1, hb.2.2.2.1, hb.2.2.2.2.1, hb.2.2.2.2.2.1, hb.2.2.2.2.2.2.1, hb.2.2.2.2.2.2.2.1, hb.2.2.2.2.2.2.2.2.1, Nat.le_trans hb.2.2.2.2.2.2.2.2.2 k.size⟩, hn⟩
  have := h.bq.chg.size
  rcases hT x hx (by omega) with e | e | ⟨e, -⟩ <;> omega
theorem fin_in {ps : List (Int × List UInt8)} (h : ∀ x ∈ ps, 0 ≤ x.1 ∧ x.1 < 258) : ∀ x ∈ finL ps, 0 ≤ x.1 ∧ x.1 < 258 := by
  intro x hx
  obtain ⟨k, hk, rfl⟩ := List.mem_map.1 hx
  exact appK_in (P := fun k => 0 ≤ k ∧ k < 258) ps h k ((sortI_perm _).mem_iff.1 hk)
theorem Bq.rise {w w1 : World} {base N A c : Nat} {ops rds : Int} {Z : List Nat} {vs : Nat → Value} {gs : Nat → Nat} {zs : Nat → List (List UInt8)} {P S R r pos num last : Nat} {ps : List (Int × List UInt8)} (h : Bq w w1 base N A c ops rds Z vs gs zs P S R r pos num last ps) : Rise (finL ps) := by
  obtain ⟨L, hm, -, hK⟩ := h.map
  rw [← putsL_fin hK]
  exact rise_puts _ hm.nodup
theorem Bq.puts {w w1 : World} {base N A c : Nat} {ops rds : Int} {Z : List Nat} {vs : Nat → Value} {gs : Nat → Nat} {zs : Nat → List (List UInt8)} {P S R r pos num last : Nat} {ps : List (Int × List UInt8)} (h : Bq w w1 base N A c ops rds Z vs gs zs P S R r pos num last ps) (hin : ∀ x ∈ ps, 0 ≤ x.1 ∧ x.1 < 258) (hl : (finL ps).length ≤ 16) :
    Calls Tryz.prog 57 #[.pointer (some ⟨R, 0, none⟩)] w1 fun e w' => ∃ pb cb, e = .returned (.slice pb (finL ps).length cb) ∧ Chg [] w1 w' ∧ PutsAt w' w1.heap.size (.slice pb (finL ps).length cb) (finL ps) := by
  obtain ⟨L, hm, hD, hK⟩ := h.map
  have hlen : L.length = (finL ps).length := by rw [finL_length, ← hK, List.length_map]
  refine (sputs_ok w1 h.state hm hD (fun x hx => ?_) (by omega)).mono ?_
  · exact appK_in (P := fun k => 0 ≤ k ∧ k < 258) ps hin x.1 (by rw [← hK]; exact List.mem_map_of_mem hx)
  · rintro e w' ⟨v, rfl, k, hp⟩
    rw [putsL_fin hK] at hp
    obtain ⟨xs, ho, -⟩ := id hp
    obtain ⟨pb, cb, rfl, -⟩ := own_form ho
    exact ⟨pb, cb, rfl, k, hp⟩
theorem Mq.load {w w1 : World} {base N A c : Nat} {ops rds : Int} {Z : List Nat} {vs : Nat → Value} {gs : Nat → Nat} {zs : Nat → List (List UInt8)} {P S R r pos num last : Nat} {ps : List (Int × List UInt8)} {M X rx B rb rc lo lp cb : Nat} {pb : Option Addr} (h : Mq w w1 base N A c ops rds Z vs gs zs P S R r pos num last ps M X rx B rb rc lo) (hin : ∀ x ∈ ps, 0 ≤ x.1 ∧ x.1 < 258) (hl0 : 0 < (finL ps).length) (hl : (finL ps).length ≤ 16)
    (hp : PutsAt w1 lp (.slice pb (finL ps).length cb) (finL ps)) (hlast : 0 < last ∧ last ≤ 1099511627776)
    (hb : w.heap.size ≤ P ∧ w.heap.size ≤ S ∧ w.heap.size ≤ M ∧ w.heap.size ≤ X ∧ w.heap.size ≤ rx ∧ w.heap.size ≤ B ∧ w.heap.size ≤ rb ∧ w.heap.size ≤ rc) (hlo : lo = w.heap.size) (hn : rx ≠ rb ∧ rc ≠ rb ∧ rc ≠ rx) :
    Calls Tryz.prog 56 #[.pointer (some ⟨M, 0, none⟩), .slice pb (finL ps).length cb] w1 fun e w' => e = .returned (.int .i64 0) ∧ ∃ Lv, Mo w w' base N A c ops rds Z vs gs zs P S M X rx B rb rc lo pos num last Lv (finL ps) := by
  have hsz := h.bq.chg.size
  refine (tload_ok w1 h.mgr h.mp h.ver (fun b c v u g _ h => (by cases h)) (fun p hp => (by cases hp)) (by omega) hp (fin_in hin) h.bq.rise hl0 hl (by omega) (by omega) (by omega) (fun c => by simp)).mono ?_
  rintro e w' ⟨rfl, hcv, Lv, h1, h2, h3⟩
  exact ⟨rfl, Lv, h.mo hcv h1 h2 h3 ⟨hb.1, hb.2.1, hb.2.2.1, hb.2.2.2.1, hb.2.2.2.2.1, hb.2.2.2.2.2.1, hb.2.2.2.2.2.2.1, hb.2.2.2.2.2.2.2, by omega, by omega⟩ hn⟩
/-- what Mount hands back. -/
def MountK (w : World) (base N A c : Nat) (ops rds : Int) (Z : List Nat) (vs : Nat → Value) (gs : Nat → Nat) (zs : Nat → List (List UInt8)) (bs : List (Nat × List (Int × List UInt8))) (e : Ending) (w' : World) : Prop :=
  ∃ P S M X rx B rb r lo Lv, e = .returned (.tuple #[.pointer (some ⟨P, 0, none⟩), .int .i64 0]) ∧ Mo w w' base N A c (ops + 1) (rds + (zs 6).length) Z vs (goodF gs zs 8) zs P S M X rx B rb r lo (zs 6).length bs.length (lastT bs) Lv (finL (allP bs))
set_option maxRecDepth 100000 in
set_option maxHeartbeats 8000000 in
theorem kmount (w : World) {base N A c : Nat} {ops rds : Int} {Z : List Nat} {vs : Nat → Value} {gs : Nat → Nat} {zs : Nat → List (List UInt8)} {bs : List (Nat × List (Int × List UInt8))} (hD : DevK w base N A c ops rds Z vs gs zs) (hz : zs 0 = [] ∧ zs 3 = [] ∧ zs 7 = []) (h6 : zs 6 = logL 0 1 bs) (hB : BsOk bs) (hb0 : 0 < bs.length) (h96 : (zs 6).length < 96)
    (hf0 : 0 < (finL (allP bs)).length) (hf1 : (finL (allP bs)).length ≤ 16) (hlt : ∀ z ∈ Z, z < w.heap.size) (hNA : N < w.heap.size) (h0 : 0 ≤ ops) (h1 : ops ≤ 1000000) (hr0 : 0 ≤ rds) (hr1 : rds ≤ 1000000) (hlast : 0 < lastT bs ∧ lastT bs ≤ 1099511627776) (hin : ∀ x ∈ allP bs, 0 ≤ x.1 ∧ x.1 < 258) :
    Calls Tryz.prog 13 #[.pointer (some ⟨N, 0, none⟩)] w (MountK w base N A c ops rds Z vs gs zs bs) := by
  go_enter Tryz.func13, Tryz.ntmps13
  go_wp2_with fail
  refine (kgeometry w hD).mono ?_
  rintro e w1 ⟨rfl, hc1⟩
  go_wp2_with fail
  refine (split_min w1).mono ?_
  rintro e w2 ⟨rfl, hc2⟩
  have hc := hc1.then hc2
  have hsz := hc.size
  clear hc1 hc2
  go_wp2_with fail
  obtain ⟨-, g1⟩ := two_new w2 (.cells #[.int .i64 0, .int .i64 3, .int .i64 6, .int .i64 7] 99) (.cells #[.pointer (some ⟨N, 0, none⟩), .int .i64 0, .int .i64 3, .int .i64 6, .int .i64 7, .pointer none, .pointer none, .int .i64 0, .int .i64 0, .bool false] 105)
  have hc3 := hc.then (chg_two w2 (.cells #[.int .i64 0, .int .i64 3, .int .i64 6, .int .i64 7] 99) (.cells #[.pointer (some ⟨N, 0, none⟩), .int .i64 0, .int .i64 3, .int .i64 6, .int .i64 7, .pointer none, .pointer none, .int .i64 0, .int .i64 0, .bool false] 105))
  generalize (w2.alloc (.cells #[.int .i64 0, .int .i64 3, .int .i64 6, .int .i64 7] 99)).alloc (.cells #[.pointer (some ⟨N, 0, none⟩), .int .i64 0, .int .i64 3, .int .i64 6, .int .i64 7, .pointer none, .pointer none, .int .i64 0, .int .i64 0, .bool false] 105) = w3 at *
  have hPl : w.heap.size ≤ w2.heap.size + 1 := by omega
  generalize w2.heap.size + 1 = P at *
  generalize w2.heap.size = q at *
  have hPZ : P ∉ N :: Z := by
    intro hm
    rcases List.mem_cons.1 hm with hm | hm
    · omega
    · have := hlt _ hm; omega
  have hD3 := hD.keep hc3 (Av.nil _ _)
  have hlt3 : ∀ z ∈ Z, z < w3.heap.size := fun z hz => Nat.lt_of_lt_of_le (hlt z hz) hc3.size
  refine (kopen w3 hD3 hz.1 hz.2.1 hlt3 h0 h1).mono ?_
  rintro e w4 ⟨S, rfl, hc4, hD4, hS4, l4⟩
  have g4 := hc4.heap g1 hPZ
  have hPs : w.heap.size ≤ S := Nat.le_trans hc3.size l4
  have hc5 : Chg (N :: Z) w w4 := (hc3.mono (T := N :: Z) (fun x hx _ => by cases hx)).then hc4
  have hSP : S ≠ P := by have := heap_lt g1; omega
  have c6 := cell_is g4 6 rfl
  have f6 := unfrozen g4 6
  have g5 : StoreAt (w4.setCell ⟨P, 6, none⟩ (.pointer (some ⟨S, 0, none⟩))) P N S none := heap_set g4 6 _ rfl
  have hc6 : Chg (N :: Z) w (w4.setCell ⟨P, 6, none⟩ (.pointer (some ⟨S, 0, none⟩))) := hc5.new_set hPl 6 _
  have hS6 : SlotAt (w4.setCell ⟨P, 6, none⟩ (.pointer (some ⟨S, 0, none⟩))) S N := heap_set_ne hS4 hSP 6 _
  have hD6 := hD4.keep (Chg.set w4 P 6 (.pointer (some ⟨S, 0, none⟩))) (Av.row g4 (by decide))
  clear g4 hS4 hD4 hc5 hc4 hc3 g1 hD hD3 hlt3
  clear hc
  go_wp2_with fail
  generalize w4.setCell ⟨P, 6, none⟩ (.pointer (some ⟨S, 0, none⟩)) = w5 at *
  refine (load_any w5 hS6).mono ?_
  rintro e w6 ⟨rfl, k6⟩
  have g6 := g5.keep k6 (by simp)
  have S6 := hS6.keep k6 (by simp)
  have D6 := hD6.keep k6 (Av.nil _ _)
  have hc7 : Chg (N :: Z) w w6 := hc6.then (k6.mono (fun x hx _ => by cases hx))
  clear hc6 hS6 g5 hD6 k6
  go_wp2_with fail
  refine (parse_nil w6).mono ?_
  rintro e w7 ⟨R, r, rfl, k6, hR, l5, l6⟩
  have hs6 := hc7.size
  have g7 := g6.keep k6 (by simp)
  have S7 := S6.keep k6 (by simp)
  have D7 := D6.keep k6 (Av.nil _ _)
  have hc8 : Chg (N :: Z) w w7 := hc7.then (k6.mono (fun x hx _ => by cases hx))
  have hPw : P < w7.heap.size := heap_lt g7
  have hRw : R < w7.heap.size := heap_lt hR.1
  have hrw : r < w7.heap.size := hR.2.lt
  clear hc7 S6 g6 D6 k6
  go_wp2_with fail
  refine (klog w7 g7 D7 hz.2.2 h96 hr0 hr1).mono ?_
  rintro e w8 ⟨lv, rfl, k6, D8, hrw8⟩
  have av8 : ∀ {g : Nat} {cs : Array Value} {t : TypeId}, w7.heap[g]? = some (.cells cs t (0, 0)) → t ≠ 93 → g ∉ [N] := fun hg ht => by
    have := heap_ne hg D7.hdr (by intro e; cases e; exact ht rfl)
    simpa using this
  have hR8 : StateM w8 R r 0 := k6.heap hR.1 (av8 hR.1 (by decide))
  have hm8 : MapAt w8 r [] := hR.2.keep k6 (by simpa using map_cells hR.2 D7.hdr)
  have g8 : StoreM w8 P N S none 0 0 := k6.heap g7 (av8 g7 (by decide))
  have S8 : SlotAt w8 S N := S7.keep k6 (av8 S7 (by decide))
  have hc9 : Chg (N :: Z) w w8 := hc8.then (k6.mono (fun x hx _ => by simp at hx; simp [hx]))
  rw [h6] at hrw8
  have hl0 : 0 < (logL 0 1 bs).length := by have := logL_le 0 1 bs 0 hb0; omega
  obtain ⟨G, cG, rfl, hcG, hX8, hG8⟩ := hrw8.x hl0
  have hT8 : Tk w8 w8 P N S R r none 0 0 0 [] := ⟨Chg.refl _ _, g8, hR8, [], hm8, fun k v hv => (by cases hv), rfl⟩
  clear hc8 S7 g7 D7 k6 hR hrw8 av8
  have HX := Lib.hid hX8
  go_wp2_with fail
  refine (contf_rows w8 HX.out rfl hcG hB.len (logL_kind 0 1 bs)).mono ?_
  rintro e w9 ⟨rfl, rfl⟩
  go_wp2_with fail
  refine (contf_nil _ w8).mono ?_
  rintro e w9 ⟨rfl, rfl⟩
  go_wp2_with fail
  refine (replay_many w8 hB hT8 S8 HX.out rfl hcG (by simp; omega)).mono ?_
  rintro e w9 ⟨rfl, hT9⟩
  have av9 : ∀ {ts : List Nat}, 105 ∉ ts → 123 ∉ ts → Av w8 [P, R, r] ts := fun a b => hT8.av a b
  have S9 : SlotAt w9 S N := S8.keep hT9.chg ((av9 (ts := [166]) (by decide) (by decide)).ne S8 (by simp))
  have D9 := D8.keep hT9.chg (av9 (by decide) (by decide))
  have hc10 : Chg (N :: Z) w w9 := hc9.trans hT9.chg (fun x hx hlt => by
    simp at hx
    rcases hx with rfl | rfl | rfl <;> omega)
  have hBq : Bq w w9 base N A c (ops + 1) (rds + (zs 6).length) Z vs (goodF gs zs 8) zs P S R r (logL 0 1 bs).length bs.length (lastT bs) (allP bs) := ⟨hc10, D9, S9, ⟨none, hT9.store⟩, hT9.state, hT9.map⟩
  clear hc10 S9 D9 hT9 hT8 S8 D8 hc9 g8 hm8 hR8 HX hX8 av9
  go_wp2_with fail
  go_region_held3 (fun wx => Bq w wx base N A c (ops + 1) (rds + (zs 6).length) Z vs (goodF gs zs 8) zs P S R r (logL 0 1 bs).length bs.length (lastT bs) (allP bs) ∧ wx.cell? ⟨R, 0, none⟩ = some (.int .i64 (lastT bs)))
    (first
      | (exact ⟨hBq, hBq.r0⟩)
      | (exact ⟨hBq.drew, hBq.drew.r0⟩)
      | (exact ⟨(hBq.set hPl _).1, (hBq.set hPl _).1.r0⟩))
    (first
      | (go_at_call 46; (first | refine (kgeometry _ hBq.drew.dev).mono ?_ | refine (kgeometry _ hBq.dev).mono ?_); rintro e wb ⟨rfl, k1⟩; (first | replace hBq := hBq.keep k1 | replace hBq := hBq.drew.keep k1))
      | (go_at_call 55; refine (cap_min _).mono ?_; rintro e wb ⟨rfl, k2⟩; (first | replace hBq := hBq.keep k2 | replace hBq := hBq.drew.keep k2))
      | (go_at_call 54; refine (tnew_at _ (by omega) (by omega)).mono ?_; rintro e wb ⟨M, X, rx, B, rb, rc, rfl, k3, hM, hX, hBk, hrc, l10, l11, l12, l13, l14, l15, n1, n2, n3⟩; have hsz3 := hBq.chg.size; (first | replace hBq := hBq.keep k3 | replace hBq := hBq.drew.keep k3); obtain ⟨⟨m5, p5⟩, f5⟩ := hBq.p5))
  have hB2 := hBq.set hPl (some ⟨M, 0, none⟩)
  obtain ⟨q5, hst5⟩ := hBq.store
  have kS := Chg.set wb P 5 (.pointer (some ⟨M, 0, none⟩))
  have hMq : Mq w (wb.setCell ⟨P, 5, none⟩ (.pointer (some ⟨M, 0, none⟩))) base N A c (ops + 1) (rds + (zs 6).length) Z vs (goodF gs zs 8) zs P S R r (logL 0 1 bs).length bs.length (lastT bs) (allP bs) M X rx B rb rc w.heap.size :=
    ⟨hB2.1, hB2.2, kS.heap hM (by simpa using heap_ne hM hst5 (by simp)), (hX.full _).keepA kS (Av.row hst5 (by decide)) (by simpa using map_cells hX.2 hst5), ⟨kS.heap hBk.1 (by simpa using heap_ne hBk.1 hst5 (by simp)), hBk.2.keep kS (by simpa using map_cells hBk.2 hst5)⟩, hrc.keep kS (by simpa using map_cells hrc hst5)⟩
  have hb8 : w.heap.size ≤ P ∧ w.heap.size ≤ S ∧ w.heap.size ≤ M ∧ w.heap.size ≤ X ∧ w.heap.size ≤ rx ∧ w.heap.size ≤ B ∧ w.heap.size ≤ rb ∧ w.heap.size ≤ rc := ⟨hPl, hPs, by omega, by omega, by omega, by omega, by omega, by omega⟩
  clear hB2 kS hM hX hBk hrc hBq k1 k2 k3 f5 p5 hst5
  generalize wb.setCell ⟨P, 5, none⟩ (.pointer (some ⟨M, 0, none⟩)) = v1 at *
  go_wp2_with fail
  have hpd : ∀ wx : World, wx.cell? ⟨P, 5, none⟩ = some (.pointer (some ⟨M, 0, none⟩)) → wx.drew.cell? ⟨P, 5, none⟩ = some (.pointer (some ⟨M, 0, none⟩)) := fun wx h => h
  go_region_held3 (fun wx => wx.cell? ⟨P, 5, none⟩ = some (.pointer (some ⟨M, 0, none⟩)))
    (first
      | (exact hMq.p5)
      | (exact hMq.drew.p5)
      | (exact cell_is hMo.store 5 rfl)
      | (exact hpd _ (cell_is hMo.store 5 rfl)))
    (first
      | (go_at_call 57; (first | refine (hMq.drew.bq.puts hin hf1).mono ?_ | refine (hMq.bq.puts hin hf1).mono ?_); rintro e v2 ⟨pb, cb, rfl, k1, hpv⟩; (first | replace hMq := hMq.drew.keep k1 | replace hMq := hMq.keep k1))
      | (go_at_call 56; refine (hMq.load hin hf0 hf1 hpv hlast hb8 rfl ⟨n1, n2, n3⟩).mono ?_; rintro e v3 ⟨rfl, Lv, hMo⟩))
  have HMo := Lib.hid hMo
  clear hMo
  go_wp2_with fail
  go_ret2
  exact ⟨P, S, M, X, rx, B, rb, rc, _, Lv, rfl, by rw [h6] at *; exact HMo.out⟩
end Go.Proofs.YtkhionhicegfmaaGreat
namespace Go.Proofs
open Go.Shelf
def Tryz.keysC_ren : Go.Shelf.Ren := ⟨fun | 7 => 157 | 10 => 184 | n => n, fun | 23 => 251 | 26 => 3 | 3 => 260 | 28 => 193 | 0 => 0 | 27 => 192 | 33 => 58 | 4 => 4 | n => n, fun | n => n⟩
theorem Tryz.keysC : Go.Proofs.SlLaysZI.n7 Tryz.prog Tryz.keysC_ren := {
  mixed := by kernel_rfl
  f7 := ⟨Tryz.f157.name, by decide, Tryz.func157.trans (congrArg some (by kernel_rfl))⟩
  f10 := ⟨Tryz.f184.name, by decide, Tryz.func184.trans (congrArg some (by kernel_rfl))⟩
  t0 := Tryz.underlying0
  a0 := Tryz.isAgg0
  z0 := Tryz.sizeOf0
  v0 := Tryz.zeroValue0
  t4 := Tryz.underlying4
  a4 := Tryz.isAgg4
  z4 := Tryz.sizeOf4
  v4 := Tryz.zeroValue4
  t23 := Tryz.underlying251
  a23 := Tryz.isAgg251
  z23 := Tryz.sizeOf251
  v23 := Tryz.zeroValue251
  t26 := Tryz.underlying3
  a26 := Tryz.isAgg3
  z26 := Tryz.sizeOf3
  v26 := Tryz.zeroValue3
  t27 := Tryz.underlying192
  a27 := Tryz.isAgg192
  z27 := Tryz.sizeOf192
  v27 := Tryz.zeroValue192
  t28 := Tryz.underlying193
  a28 := Tryz.isAgg193
  z28 := Tryz.sizeOf193
  v28 := Tryz.zeroValue193
  t33 := Tryz.underlying58
  a33 := Tryz.isAgg58
  z33 := Tryz.sizeOf58
  v33 := Tryz.zeroValue58 }
end Go.Proofs
namespace Go.Proofs.YtkhionhicegfmaaGreat
open Go.RowKit Go.Lib Go.Maps Go.Sort Go.Shelf

theorem keysC_any (mb : Option Nat) (W : World) : Calls Tryz.prog 157 #[.map mb] W fun e w' => e = .returned (.func (.func 184) #[] #[.pointer (some ⟨W.heap.size, 0, none⟩)]) ∧ w' = W.alloc (.cells #[.map mb] 251) :=
  callsIn_wide.1 (AnyZI.keys_in Tryz.keysC Fence.wide 5 trivial rfl mb W)
set_option maxRecDepth 100000 in
/-- slices.Sorted(maps.Keys(m)), of a map of versions. -/
theorem sortedC_any (W : World) {r : Nat} {L : List (Int × Value)} (h : MapAt W r L) (hw : ∀ p ∈ L, (Lit.int .i64 p.1).wf = true) (hl : L.length ≤ 100000) :
    Calls Tryz.prog 107 #[.func (.func 184) #[] #[.pointer (some ⟨W.heap.size, 0, none⟩)]] (W.alloc (.cells #[.map (some r)] 251)) fun e w' => ∃ v, e = .returned v ∧ w'.ownsRow W.heap.size 3 1 v L.length ((sortI (L.map Prod.fst)).map encZ) ∧ Chg [] W w' := by
  obtain ⟨D, hown, hp, hsz⟩ := owns_any (h.keep (Chg.alloc (S := []) W (.cells #[.map (some r)] 251)) (by simp)) 3 (by kernel_rfl) hw (by unfold maxLen; omega)
  have hseq : SeqGives Fence.wide 2 Tryz.prog 184 #[.pointer (some ⟨W.heap.size, 0, none⟩)] encZ (fun ss => ss.Perm (intKeys D)) (Maps.size D) (W.alloc (.cells #[.map (some r)] 251)) :=
    AnyZI.keys_gives (ρ := Tryz.keysC_ren) { Tryz.keysC with } Fence.wide _ trivial rfl (by omega) W.heap.size r L.length D _ (by simp) (by simp) hown
  have cS := AnyZI.sorted_in Tryz.sortedA Fence.wide 5 trivial trivial trivial trivial rfl (by omega) (sorts_all _) (enters_of Tryz.func155 (by kernel_rfl) rfl) 184 #[.pointer (some ⟨W.heap.size, 0, none⟩)] trivial (enters_of Tryz.func184 (by kernel_rfl) rfl) _ (Maps.size D) (by rw [hsz]; unfold maxLen; omega) (by rw [hsz]; omega) _ hseq
  refine (callsIn_wide.1 cS).mono ?_
  rintro e w' ⟨v, ss, rfl, hS, hrow, hnil, hbl⟩
  have hs : ss.mergeSort (fun x y => decide (x ≤ y)) = sortI (L.map Prod.fst) := mergeSort_of_perm_i (hS.trans hp)
  have hsl : ss.length = L.length := by rw [(hS.trans hp).length_eq, List.length_map]
  rw [hs, hsl] at hrow
  exact ⟨v, rfl, own_base hrow (by simp), (Chg.alloc W _).then (Chg.of_below hbl)⟩
/-- a block's newest bytes. -/
def lastB (l : List (Int × List UInt8)) : List UInt8 := ((l.getLast?).map Prod.snd).getD []
theorem VRow.last {w : World} {lo n : Nat} {v : Value} {l : List (Int × List UInt8)} (h : VRow w lo v l) (hl : l.length = n + 1) : ∃ g cap gd cd, v = .slice (some ⟨g, 0, none⟩) ((n : Int) + 1).toNat cap ∧ n + 1 ≤ cap ∧
    w.cell? ⟨g, n * 2 + 1, none⟩ = some (.slice (some ⟨gd, 0, none⟩) 40 cd) ∧ Bs w (some ⟨gd, 0, none⟩) (lastB l) ∧ (lastB l).length = 40 ∧ Bt w gd := by
  obtain ⟨xs, ho, hx⟩ := h
  obtain ⟨-, gd, cd, h1, h2, h3, h4⟩ := hx n (by omega)
  have e : lastB l = (l[n]).2 := by
    have hn : l.length - 1 = n := by omega
    unfold lastB
    rw [List.getLast?_eq_getElem?, hn, List.getElem?_eq_getElem (by omega)]
    rfl
  rw [e]
  rcases ho.2 with ⟨_, e0⟩ | ⟨g, cap, cur, rfl, hA, hg, hc1, hc2, hc3, ht⟩
  · omega
  · refine ⟨g, cap, gd, cd, ?_, by omega, cell_is hg _ ?_, h2, h3, h4⟩
    · rw [hl]; rfl
    · rw [← ht, List.getElem?_take_of_lt (by omega), Array.getElem?_toList] at h1
      exact h1
/-- what all blocks are. -/
def dumpL (L : List (Int × Value)) (vs : Int → List (Int × List UInt8)) : List (Int × List UInt8) := (sortI (L.map Prod.fst)).map fun k => (k, lastB (vs k))
set_option maxRecDepth 100000 in
set_option maxHeartbeats 4000000 in
theorem mdump_ok (w : World) {lo X rx : Nat} {last : Int} {L : List (Int × Value)} {vs : Int → List (Int × List UInt8)} (h : VerG w lo X rx last L vs) (hk : ∀ x ∈ L, 0 ≤ x.1 ∧ x.1 < 258) (hl : L.length ≤ 1000) : Calls Tryz.prog 109 #[.pointer (some ⟨X, 0, none⟩)] w fun e w' =>
    ∃ v, e = .returned v ∧ Chg [] w w' ∧ PutsAt w' w.heap.size v (dumpL L vs) := by
  have c0 : w.cell? ⟨X, 0, none⟩ = some (.int .i64 258) := cell_is h.x 0 rfl
  have c1 : w.cell? ⟨X, 1, none⟩ = some (.map (some rx)) := cell_is h.x 1 rfl
  have HG := Lib.hid (xgone_any w c0)
  have HS := Lib.hid (sortedC_any w h.m (fun p hp => wf_i64 (by have := hk p hp; omega) (by have := hk p hp; omega)) (by omega))
  have HB := Lib.hid h
  have HK := Lib.hid hk
  clear h hk
  go_enter Tryz.func109, Tryz.ntmps109
  go_wp2_with fail
  refine HG.out.mono ?_
  rintro e w1 ⟨rfl, rfl⟩
  go_wp2_with (first
    | (go_at_call 157; refine (keysC_any (some rx) _).mono ?_; rintro e w1 ⟨rfl, rfl⟩)
    | (go_at_call 107; refine HS.out.mono ?_; rintro e w2 ⟨v2, rfl, o2, k2⟩; obtain ⟨pk, ck, rfl, hck⟩ := own_form o2))
  have hsl : (sortI (L.map Prod.fst)).length = L.length := by rw [sortI_length, List.length_map]
  have hmem : ∀ k, k ∈ sortI (L.map Prod.fst) → 0 ≤ k ∧ k < 258 ∧ ∃ v, getL L k = some v := fun k hk => by
    have hk2 := (sortI_perm _).mem_iff.1 hk
    obtain ⟨p, hp, e⟩ := List.mem_map.1 hk2
    have := HK.out p hp
    exact ⟨by omega, by omega, getL_key hk2⟩
  have hpl : dumpL L vs = (sortI (L.map Prod.fst)).map fun k => (k, lastB (vs k)) := rfl
  have HP := Lib.hid hpl
  have HM := Lib.hid hmem
  have O2 := Lib.hid o2
  clear hmem hpl o2 HG HS
  generalize hks : sortI (L.map Prod.fst) = ks at *
  have c21 := k2.cell c1 (by simp)
  generalize hn : L.length = n at *
  have hcki : (n : Int) ≤ ck := by omega
  go_loopw [2, 4, 5, 15] (fun v _ _ i wr => ∃ j : Nat, j ≤ n ∧ i = .int .i64 j ∧ Chg [] w2 wr ∧ PutsAt wr w2.heap.size v ((ks.take j).map fun k => (k, lastB (vs k)))) (fun _ _ _ i _ => n - (intOf i).toNat)
  case atStart => exact ⟨0, by omega, rfl, Chg.refl _ _, PutsAt.nil _ _⟩
  case round =>
    obtain ⟨j, hj, rfl, kr, hp⟩ := hrel
    by_cases hlt : j < n
    · have hjk : j < ks.length := by omega
      obtain ⟨hk0, hk1, v, hv⟩ := HM.out ks[j] (List.getElem_mem hjk)
      have kwr : Chg [] w wr := k2.then kr
      have hVr := HB.out.keep kwr
      obtain ⟨m, g, cg, gd, cd, hvv, hcg, hd, hb, hb4, hbt⟩ : ∃ m g cg gd cd, v = .slice (some ⟨g, 0, none⟩) (m + 1) cg ∧ m + 1 ≤ cg ∧ wr.cell? ⟨g, m * 2 + 1, none⟩ = some (.slice (some ⟨gd, 0, none⟩) 40 cd) ∧ Bs wr (some ⟨gd, 0, none⟩) (lastB (vs ks[j])) ∧ (lastB (vs ks[j])).length = 40 ∧ Bt wr gd := by
        rcases hVr.row ks[j] hk0 hk1 with ⟨e1, -⟩ | ⟨v', e1, e2, e3⟩
        · rw [hv] at e1; cases e1
        · rw [hv] at e1
          cases e1
          obtain ⟨m, hm⟩ : ∃ m, (vs ks[j]).length = m + 1 := ⟨(vs ks[j]).length - 1, by have := List.length_pos_iff.2 e3; omega⟩
          obtain ⟨g, cg, gd, cd, a1, a2, a3, a4, a5, a6⟩ := e2.last hm
          exact ⟨m, g, cg, gd, cd, by rw [a1]; congr 1, a2, a3, a4, a5, a6⟩
      subst hvv
      have hlook : (Instr.lookup 251 (.map (some rx)) (.int .i64 ks[j]) false).run Tryz.prog wr = .ok (.slice (some ⟨g, 0, none⟩) (m + 1) cg) wr := by
        have := lookup258g hVr.m ks[j]
        rw [hv] at this
        exact this
      have hm1 : m + 1 ≤ 1000000 := by
        have h1 := hVr.small ks[j]
        rcases hVr.row ks[j] hk0 hk1 with ⟨e1, -⟩ | ⟨v', e1, ⟨xs, e2, -⟩, e3⟩
        · rw [hv] at e1; cases e1
        · rw [hv] at e1
          cases e1
          rcases e2.2 with ⟨e, -⟩ | ⟨g', cap, cur, e, -⟩
          · cases e
          · injection e with _ e
            omega
      have ck0 : ∃ gk, pk = some ⟨gk, 0, none⟩ ∧ wr.cell? ⟨gk, j, none⟩ = some (.int .i64 ks[j]) := by
        rcases O2.out.2 with ⟨_, h0⟩ | ⟨gk, cap, cur, e, hA, hg, hc1, hc2, hc3, ht⟩
        · omega
        · injection e with e1
          refine ⟨gk, e1, kr.cell (cell_is hg j ?_) (by simp)⟩
          have h1 : (ks.map encZ)[j]? = some (.int .i64 ks[j]) := by simp [hjk]
          rw [← ht, List.getElem?_take_of_lt (by omega), Array.getElem?_toList] at h1
          exact h1
      obtain ⟨gk, rfl, ck1⟩ := ck0
      have cw2 := kr.cell c21 (by simp)
      have HBs := Lib.hid hb
      have HPt := Lib.hid hp
      have HTk := Lib.hid (show (ks.take (j + 1)).map (fun k => (k, lastB (vs k))) = (ks.take j).map (fun k => (k, lastB (vs k))) ++ [(ks[j], lastB (vs ks[j]))] by rw [List.take_succ_eq_append_getElem hjk, List.map_append]; rfl)
      have HL4 := Lib.hid hb4
      have HBt := Lib.hid hbt
      have hsub : wrap64 ((m : Int) + 1 - 1) = (m : Nat) := by unfold wrap64; omega
      have hcgi : (m : Int) < cg := by omega
      clear hb hp hb4 hbt hv hVr kwr
      generalize ks[j] = k at *
      go_wp2_with fail
      refine (clone_bt wr HL4.out (by decide) (by decide) HBs.out).mono ?_
      rintro e w3 ⟨g2, c2, rfl, k3, b3, l3, t3⟩
      obtain ⟨xs, ho3, hx3⟩ := HPt.out.keep0 k3
      have hpl3 : ((ks.take j).map fun k => (k, lastB (vs k))).length = j := by simp; omega
      have hb23 := (HPt.out.keep0 k3).block
      have hs3 : w2.heap.size ≤ w3.heap.size := (kr.then k3).size
      have B3 := Lib.hid b3
      have T3 := Lib.hid t3
      have HX3 := Lib.hid hx3
      have HO3 := Lib.hid ho3
      have H23 := Lib.hid hb23
      clear b3 t3 hx3 hb23 ho3
      go_wp2_with (at_builtin; refine wpList_append_lit rfl (.tmp 25) (.tmp 36) 35 43 rfl ty69 inf92 rfl (by decide) w2.heap.size w3 [.int .i64 k, .slice (some ⟨g2, 0, none⟩) 40 c2] 1 rfl _ ((ks.take j).map fun k => (k, lastB (vs k))).length xs rfl HO3.out (by omega) (by decide) hs3 (k := 0) rfl (by simp [Value.oneCell']) rfl 1 rfl ?_; intro v' w4 hap)
      have hxl : xs.length = ((ks.take j).map fun k => (k, lastB (vs k))).length * 2 := HO3.out.1
      have hfin : PutsAt w4 w2.heap.size v' (((ks.take j).map fun k => (k, lastB (vs k))) ++ [(k, lastB (vs k))]) := PutsAt.push HX3.out hxl rfl (fun g hg => (H23.out g hg).2) hap.1 (Chg.own hap.2.2 (fun g hg _ => by have hg2 : u2.ownBlock = some g := hg; simp [hg2])) B3.out HL4.out T3.out
      rw [← HTk.out] at hfin
      go_roundw
      case rel => exact ⟨j + 1, by omega, by simp, Chg.of_below ((kr.then k3).below0.trans hap.2.1), hfin⟩
      case measure => simp [intOf]; omega
    · obtain rfl : j = n := by omega
      go_wp2_with fail
      go_ret
      refine ⟨_, rfl, k2.then kr, ?_⟩
      rw [HP.out]
      rw [List.take_of_length_le (by omega)] at hp
      obtain ⟨xs, ho, hx⟩ := hp
      exact ⟨xs, own_base ho k2.size, hx⟩
set_option maxRecDepth 100000 in
theorem mgrdump_ok (w : World) {lo M X B r rx : Nat} {qv : Value} {out num bas last given lastv : Int} {rd : Bool} {L : List (Int × Value)} {vs : Int → List (Int × List UInt8)} (hM : MgrG w M X B r qv out num bas last given rd) (h : VerG w lo X rx lastv L vs) (hk : ∀ x ∈ L, 0 ≤ x.1 ∧ x.1 < 258) (hl : L.length ≤ 1000) : Calls Tryz.prog 60 #[.pointer (some ⟨M, 0, none⟩)] w fun e w' =>
    ∃ v, e = .returned v ∧ Chg [] w w' ∧ PutsAt w' w.heap.size v (dumpL L vs) := by
  have HG := Lib.hid (tgone_mg w hM)
  have HD := Lib.hid (mdump_ok w h hk hl)
  have c0 : w.cell? ⟨M, 0, none⟩ = some (.pointer (some ⟨X, 0, none⟩)) := cell_is hM 0 rfl
  clear h hM
  go_enter Tryz.func60, Tryz.ntmps60
  go_wp2_with fail
  refine HG.out.mono ?_
  rintro e w1 ⟨rfl, rfl⟩
  go_wp2_with fail
  refine HD.out.mono ?_
  rintro e w1 ⟨v, rfl, hh⟩
  have HH := Lib.hid hh
  clear hh
  go_wp2_with fail
  go_ret
  exact ⟨v, rfl, HH.out⟩
set_option maxRecDepth 100000 in
theorem smanager_ok (w : World) {P N S M pos num : Nat} (h : StoreG w P N S M pos num) : Calls Tryz.prog 58 #[.pointer (some ⟨P, 0, none⟩)] w fun e w' => e = .returned (.pointer (some ⟨M, 0, none⟩)) ∧ w = w' := by
  have c5 : w.cell? ⟨P, 5, none⟩ = some (.pointer (some ⟨M, 0, none⟩)) := cell_is h 5 rfl
  clear h
  go_enter Tryz.func58, Tryz.ntmps58
  go_wp2_with fail
  go_ret
  exact ⟨rfl, rfl⟩
set_option maxRecDepth 100000 in
theorem sdump_ok (w : World) {lo P N S M X B r rx pos num : Nat} {qv : Value} {out nm bas last given lastv : Int} {rd : Bool} {L : List (Int × Value)} {vs : Int → List (Int × List UInt8)} (hS : StoreG w P N S M pos num) (hM : MgrG w M X B r qv out nm bas last given rd) (h : VerG w lo X rx lastv L vs) (hk : ∀ x ∈ L, 0 ≤ x.1 ∧ x.1 < 258) (hl : L.length ≤ 1000) : Calls Tryz.prog 15 #[.pointer (some ⟨P, 0, none⟩)] w fun e w' =>
    ∃ v, e = .returned v ∧ Chg [] w w' ∧ PutsAt w' w.heap.size v (dumpL L vs) := by
  have HG := Lib.hid (smanager_ok w hS)
  have HD := Lib.hid (mgrdump_ok w hM h hk hl)
  clear h hM hS
  go_enter Tryz.func15, Tryz.ntmps15
  go_wp2_with fail
  refine HG.out.mono ?_
  rintro e w1 ⟨rfl, rfl⟩
  go_wp2_with fail
  refine HD.out.mono ?_
  rintro e w1 ⟨v, rfl, hh⟩
  have HH := Lib.hid hh
  clear hh
  go_wp2_with fail
  go_ret
  exact ⟨v, rfl, HH.out⟩
set_option maxRecDepth 100000 in
theorem slast_ok (w : World) {P N S M X B r pos num : Nat} {qv : Value} {out nm bas last given : Int} {rd : Bool} (hS : StoreG w P N S M pos num) (hM : MgrG w M X B r qv out nm bas last given rd) : Calls Tryz.prog 14 #[.pointer (some ⟨P, 0, none⟩)] w fun e w' => e = .returned (.int .i64 last) ∧ w = w' := by
  have HG := Lib.hid (smanager_ok w hS)
  have HD : Hid (Calls Tryz.prog 59 #[.pointer (some ⟨M, 0, none⟩)] w fun e w' => e = .returned (.int .i64 last) ∧ w = w') := Lib.hid (by
    have HT := Lib.hid (tgone_mg w hM)
    have c7 : w.cell? ⟨M, 7, none⟩ = some (.int .i64 last) := cell_is hM 7 rfl
    clear hM hS HG
    go_enter Tryz.func59, Tryz.ntmps59
    go_wp2_with fail
    refine HT.out.mono ?_
    rintro e w1 ⟨rfl, rfl⟩
    go_wp2_with fail
    go_ret
    exact ⟨rfl, rfl⟩)
  clear hM hS
  go_enter Tryz.func14, Tryz.ntmps14
  go_wp2_with fail
  refine HG.out.mono ?_
  rintro e w1 ⟨rfl, rfl⟩
  go_wp2_with fail
  refine HD.out.mono ?_
  rintro e w1 ⟨rfl, rfl⟩
  go_wp2_with fail
  go_ret
  exact ⟨rfl, rfl⟩
end Go.Proofs.YtkhionhicegfmaaGreat
namespace Go.Proofs.YtkhionhicegfmaaGreat
open Go.RowKit Go.Lib

theorem RowsC.at_ {w : World} {base : Nat} {v : Value} {l : List (List UInt8)} (h : RowsC w base v l) : RowsAt w base v l := by
  obtain ⟨xs, ho, hx⟩ := h
  refine ⟨xs, ho, fun i hi => ?_⟩
  obtain ⟨g, c, h1, -, h2⟩ := hx i hi
  exact ⟨g, c, h1, h2⟩
set_option maxRecDepth 100000 in
set_option maxHeartbeats 4000000 in
theorem zown_ok (w : World) {lo c n : Nat} {pa : Option Addr} {l : List (List UInt8)} (h : RowsAt w lo (.slice pa n c) l) (hn : l.length = n) (hn1 : n ≤ 1000) : Calls Tryz.prog 76 #[.slice pa n c] w fun e w' => ∃ v, e = .returned v ∧ Chg [] w w' ∧ RowsC w' w.heap.size v l := by
  have HP := Lib.hid h
  clear h
  go_enter Tryz.func76, Tryz.ntmps76
  go_wp2_with fail
  go_loopw [2, 4, 7] (fun v _ i wr => ∃ j : Nat, j ≤ n ∧ i = .int .i64 j ∧ Chg [] w wr ∧ RowsC wr w.heap.size v (l.take j)) (fun _ _ i _ => n - (intOf i).toNat)
  case atStart => exact ⟨0, by omega, rfl, Chg.refl _ _, by simpa using RowsC.nil _ _⟩
  case round =>
    obtain ⟨j, hj, rfl, kr, hrx⟩ := hrel
    by_cases hlt : j < n
    · have hjl : j < l.length := by omega
      obtain ⟨ga, ca, gd, cd, hv, hca, r0, hb, h64, -, -⟩ := (HP.out.keep kr (Av.nil _ _) (fun _ _ => by simp)).at2 j hjl
      have hpa : pa = some ⟨ga, 0, none⟩ ∧ n ≤ c := by
        injection hv with e1 e2 e3
        exact ⟨e1, by omega⟩
      obtain ⟨rfl, hnc⟩ := hpa
      have HC := Lib.hid (clone_btc wr (D := gd) (o := 0) (c := cd) (m := 64) h64 (by decide) (by decide) hb)
      have HX := Lib.hid (And.intro kr hrx)
      have H64 := Lib.hid h64
      have hji : (j : Int) < n := by omega
      clear kr hrx hb h64 hv
      go_wp2_with fail
      refine HC.out.mono ?_
      rintro e w2 ⟨g, c', rfl, k2, b2, hg2, t2, c64⟩
      obtain ⟨kr, hrx⟩ := HX.out
      obtain ⟨xs, ho, hxs⟩ := hrx.keep0 k2
      have hjt : (l.take j).length = j := by simp; omega
      rw [hjt] at ho
      obtain ⟨pv, cv, rfl, -⟩ := own_form ho
      have ka : Chg [] w2 (w2.alloc (.cells #[.slice (some ⟨g, 0, none⟩) 64 c'] 40)) := Chg.alloc w2 _
      have ya := heap_new w2 (.cells #[.slice (some ⟨g, 0, none⟩) 64 c'] 40)
      have oa := own_keep ho ka.below0
      have hk2 := k2.size
      have hkr := kr.size
      have hba : w.heap.size ≤ (w2.alloc (.cells #[.slice (some ⟨g, 0, none⟩) 64 c'] 40)).heap.size := by have := ka.size; omega
      have H2 := Lib.hid (And.intro (kr.then k2) (And.intro b2 (And.intro t2 (And.intro c64 (And.intro hxs ho)))))
      clear kr hrx k2 b2 t2 c64 hxs ho HX HC
      go_wp2_with (first | (at_builtin; refine wpList_append_bk rfl (.tmp 11) (.tmp 14) rfl w.heap.size (.slice pv j cv) j xs rfl oa w2.heap.size 1 _ rfl (cell_is ya 0 rfl) rfl (by omega) hba ?_; intro g5 c5 w5 o5 k5 i5))
      obtain ⟨k2, b2, t2, c64, hxs, ho⟩ := H2.out
      have hfin : Chg [] w w5 ∧ RowsC w5 w.heap.size (.slice (some ⟨g5, 0, none⟩) (j + 1) c5) (l.take (j + 1)) := by
        refine ⟨(k2.then ka).trans k5 (fun x hx hl => ?_), ?_⟩
        · obtain ⟨hge, -⟩ := own_elem oa (show (Value.slice pv j cv).ownBlock = some x by simpa using hx)
          omega
        · rw [List.take_succ_eq_append_getElem hjl]
          have hp := RowsC.push (w := w2.alloc (.cells #[.slice (some ⟨g, 0, none⟩) 64 c'] 40)) (w' := w5) (base := w.heap.size) (g := g5) (gb := g) (cb := c') (cap := c5) (v := .slice pv j cv) (l := l.take j) (b := l[j]) (xs := xs)
            (fun i hi => by obtain ⟨g', c'', e1, e2, e3, e4, e5⟩ := hxs i hi; exact ⟨g', c'', e1, e2, e3.chg ka, e4, e5.keep ka (by simp)⟩)
            (by rw [hjt]; have := ho.1; omega) (fun g' hg' => (own_elem oa hg').2) (by rw [hjt]; exact o5) k5 (b2.chg ka) H64.out (t2.keep ka (by simp)) c64
          rw [hjt] at hp
          exact hp
      have HF := Lib.hid hfin
      clear hfin k2 b2 t2 c64 hxs ho ka ya oa o5 k5 i5
      go_wp2_with fail
      go_roundw
      case rel => exact ⟨j + 1, hlt, by go_num, HF.out⟩
      case measure => simp [intOf]; omega
    · obtain rfl : j = n := by omega
      rw [List.take_of_length_le (by omega)] at hrx
      go_wp2_with fail
      go_ret
      exact ⟨_, rfl, kr, hrx⟩
/-- what pick answers. -/
def PickOk (pv : Value) (w : World) : Prop := ∀ w2, Chg [] w w2 → ∀ k : Nat, k < 8 → Calls Tryz.prog 74 #[pv, .int .i64 k] w2 fun e w' => ∃ x b, e = .returned (.tuple #[.int .i64 x, .bool b]) ∧ w2 = w'
set_option maxRecDepth 100000 in
theorem pick_nil (w : World) : PickOk (.slice none 0 0) w := by
  intro w2 _ k _
  go_enter Tryz.func74, Tryz.ntmps74
  go_wp2_with fail
  go_ret2
  exact ⟨0, false, rfl, rfl⟩
set_option maxRecDepth 100000 in
theorem rest_one (w : World) (x : Int) : Calls Tryz.prog 75 #[.int .i64 x, .int .i64 1] w fun e w' => e = .returned (.int .i64 0) ∧ w = w' := by
  go_enter Tryz.func75, Tryz.ntmps75
  go_wp2_with fail
  go_ret
  exact ⟨rfl, rfl⟩
/-- a zone is laid anew. -/
theorem DevG.lay {w : World} {base N A c : Nat} {ops : Int} {Z : List Nat} {vs : Nat → Value} {gs : Nat → Nat} {zs : Nat → List (List UInt8)} (h : DevG w base N A c ops Z vs gs zs) {j : Nat} (hj : j < Z.length) {v' : Value} {l' : List (List UInt8)} (hr : RowsAt w base v' l')
    (hap : ∀ g, v'.ownBlock = some g → ∀ i, i < 8 → i ≠ j → (vs i).ownBlock ≠ some g) : DevG ((w.setCell ⟨Z[j], 0, none⟩ v').setCell ⟨Z[j], 1, none⟩ (.int .i64 (l'.length : Nat))) base N A c ops Z (upF vs j v') (upF gs j l'.length) (upF zs j l') := by
  have hc : Chg [Z[j]] w ((w.setCell ⟨Z[j], 0, none⟩ v').setCell ⟨Z[j], 1, none⟩ (.int .i64 (l'.length : Nat))) := (Chg.set w Z[j] 0 v').then (Chg.set _ Z[j] 1 _)
  have hzj := h.zone j hj
  have ht : ∀ {g : Nat} {cs : Array Value} {t : TypeId}, w.heap[g]? = some (.cells cs t (0, 0)) → t ≠ 97 → g ∉ [Z[j]] := by
    intro g cs t hg h1 hm
    rw [List.mem_singleton] at hm
    subst hm
    rw [hzj] at hg; cases hg; exact h1 rfl
  have keepR : ∀ {v l}, RowsAt w base v l → RowsAt ((w.setCell ⟨Z[j], 0, none⟩ v').setCell ⟨Z[j], 1, none⟩ (.int .i64 (l'.length : Nat))) base v l := fun {v l} hh => hh.keep hc (Av.row hzj (by simp)) (fun g hg => by
    obtain ⟨cs, hb⟩ := hh.block g hg
    exact ht hb (by decide))
  obtain ⟨cA, hA⟩ := h.tA
  refine ⟨hc.heap h.hdr (ht h.hdr (by decide)), h.cap, h.len, ⟨cA, hc.heap hA (ht hA (by decide))⟩, fun k hk => hc.cell (h.ptr k hk) (ht hA (by decide)), fun k hk => ?_, fun k hk => ?_, fun i k g hi hk hik hg => ?_, h.nodup⟩
  · by_cases hkj : k = j
    · subst hkj
      simpa [upF] using heap_set (heap_set hzj 0 v' rfl) 1 (.int .i64 (l'.length : Nat)) rfl
    · simpa [upF, hkj] using hc.heap (h.zone k hk) (by simpa using nodup_ne h.nodup hk hj hkj)
  · by_cases hkj : k = j
    · subst hkj
      simpa [upF] using keepR hr
    · simpa [upF, hkj] using keepR (h.rows k hk)
  · by_cases hij : i = j
    · subst hij
      rw [show upF vs i v' i = v' by simp [upF]] at hg
      rw [show upF vs i v' k = vs k by simp [upF, hik.symm]]
      exact hap g hg k hk hik.symm
    · rw [show upF vs j v' i = vs i by simp [upF, hij]] at hg
      by_cases hkj : k = j
      · subst hkj
        rw [show upF vs k v' k = v' by simp [upF]]
        intro e
        exact hap g e i hi hij hg
      · rw [show upF vs j v' k = vs k by simp [upF, hkj]]
        exact h.apart i k g hi hk hik hg
/-- the first j zones. -/
def cutZ (zs : Nat → List (List UInt8)) (j : Nat) : Nat → List (List UInt8) := fun i => if i < j then zs i else []
theorem cutZ_succ (zs : Nat → List (List UInt8)) (j : Nat) : upF (cutZ zs j) j (zs j) = cutZ zs (j + 1) := by
  funext k
  unfold upF cutZ
  by_cases h : k = j
  · subst h; simp
  · rw [if_neg h]
    by_cases h2 : k < j
    · rw [if_pos h2, if_pos (by omega)]
    · rw [if_neg h2, if_neg (by omega)]
theorem cutG_succ (zs : Nat → List (List UInt8)) (j : Nat) : upF (fun i => (cutZ zs j i).length) j (zs j).length = fun i => (cutZ zs (j + 1) i).length := by
  funext k
  rw [← cutZ_succ]
  unfold upF
  split <;> rfl
/-- what a crash hands back. -/
def CrashR (w : World) (zs : Nat → List (List UInt8)) (e : Ending) (w' : World) : Prop :=
  ∃ N A c Z vs, e = .returned (.pointer (some ⟨N, 0, none⟩)) ∧ Chg [] w w' ∧ DevG w' w.heap.size N A c 0 Z vs (fun i => (cutZ zs 8 i).length) (cutZ zs 8) ∧ w.heap.size ≤ N ∧ w.heap.size ≤ A ∧ (∀ z ∈ Z, w.heap.size ≤ z)
set_option maxRecDepth 100000 in
set_option maxHeartbeats 8000000 in
theorem crash_ok (w : World) {base N A c : Nat} {ops rds : Int} {Z : List Nat} {vs : Nat → Value} {gs : Nat → Nat} {zs : Nat → List (List UInt8)} (hD : DevK w base N A c ops rds Z vs gs zs) (hg : ∀ j, j < 8 → gs j = (zs j).length) (hlen : ∀ j, j < 8 → (zs j).length ≤ 96) {pv tv : Value} (hp : PickOk pv w) (ht : PickOk tv w) :
    Calls Tryz.prog 23 #[.pointer (some ⟨N, 0, none⟩), pv, tv] w (CrashR w zs) := by
  have HG := Lib.hid (kgone w hD)
  have n0 : w.cell? ⟨N, 0, none⟩ = some (.int .i64 8) := cell_is hD.hdr 0 rfl
  have n1 : w.cell? ⟨N, 1, none⟩ = some (.int .i64 96) := cell_is hD.hdr 1 rfl
  have HD := Lib.hid hD
  have HP := Lib.hid hp
  have HT := Lib.hid ht
  have HE := Lib.hid hg
  have HL := Lib.hid hlen
  clear hD hp ht hg hlen
  go_enter Tryz.func23, Tryz.ntmps23
  go_wp2_with fail
  refine HG.out.mono ?_
  rintro e w1 ⟨rfl, rfl⟩
  go_wp2_with fail
  refine (new_any2 w).mono ?_
  rintro e w1 ⟨N', A', c', Z', rfl, k1, hD1, hO, lN, lA, lZ, hAx, hZn⟩
  have hG0 : DevG w1 w.heap.size N' A' c' 0 Z' (fun _ => .slice none 0 0) (fun i => (cutZ zs 0 i).length) (cutZ zs 0) := by
    have e : cutZ zs 0 = fun _ => [] := by funext i; simp [cutZ]
    rw [e]
    exact ⟨hD1.1, hD1.2.1, hD1.2.2.1, hAx, hD1.2.2.2.1, hD1.2.2.2.2, fun _ _ => RowsAt.nil w1 _, fun _ _ _ _ _ _ e => by simp [Value.ownBlock] at e, hZn⟩
  have m2' : w.cell? ⟨N, 2, none⟩ = some (.slice (some ⟨A, 0, none⟩) 8 c) := cell_is HD.out.hdr 2 rfl
  have m2 := k1.cell m2' (by simp)
  have HI := Lib.hid (And.intro lN (And.intro lA lZ))
  have hcap : (8 : Int) ≤ c := by have := HD.out.cap; omega
  clear hD1 hO hAx hZn lN lA lZ n0 n1 HG
  go_wp2_with fail
  go_loopw [33] (fun i wr => ∃ j : Nat, ∃ vs', i = .int .i64 j ∧ j ≤ 8 ∧ Chg [] w wr ∧ DevG wr w.heap.size N' A' c' 0 Z' vs' (fun i => (cutZ zs j i).length) (cutZ zs j)) (fun i _ => 8 - (intOf i).toNat)
  case atStart => exact ⟨0, _, rfl, by omega, k1, hG0⟩
  case round =>
    obtain ⟨j, vs', rfl, hj, kr, hG⟩ := hrel
    by_cases hlt : j < 8
    · have hDr := HD.out.keep kr (Av.nil _ _)
      have hjz : j < Z.length := by have := hDr.len; omega
      have hjz' : j < Z'.length := by have := hG.len; omega
      have a0 := hDr.ptr j hjz
      have k0 := hDr.zone j hjz
      have hrows := hDr.rows j hlt
      obtain ⟨pa, cc, hv, hcc⟩ : ∃ pa cc, vs j = .slice pa (zs j).length cc ∧ (zs j).length ≤ cc := by
        obtain ⟨xs, ho, -⟩ := hDr.rows j hlt
        exact own_form ho
      rw [hv] at k0 hrows
      have b0 : wr.cell? ⟨Z[j], 0, none⟩ = some (.slice pa (zs j).length cc) := cell_is k0 0 rfl
      have b1 : wr.cell? ⟨Z[j], 1, none⟩ = some (.int .i64 (zs j).length) := by
        have := cell_is k0 1 (v := .int .i64 (gs j : Nat)) rfl
        rwa [HE.out j hlt] at this
      have HO := Lib.hid (fun wx (kx : Chg [] wr wx) => zown_ok wx (hrows.keep kx (Av.nil _ _) (fun _ _ => by simp)) rfl (by have := HL.out j hlt; omega))
      have h96 : (zs j).length ≤ 96 := HL.out j hlt
      have hji : (j : Int) < 8 := by omega
      have HGr := Lib.hid (And.intro kr hG)
      have kd : Chg [] wr wr.drew := (Chg.refl [] wr).drew
      have b0d : wr.drew.cell? ⟨Z[j], 0, none⟩ = some (.slice pa (zs j).length cc) := b0
      have b1d : wr.drew.cell? ⟨Z[j], 1, none⟩ = some (.int .i64 (zs j).length) := b1
      have krd := kr.then kd
      have m2r := kr.cell m2' (by simp)
      clear hDr hrows k0 hv kr hG
      generalize hZZ : Z[j] = z at *
      go_upto_region 7 with fail
      go_region_law (fail)
      all_goals
        have HKd := Lib.hid (And.intro kd krd)
        clear kd krd
        go_wp2_with fail
        refine (HP.out _ HKd.out.2 j hlt).mono ?_
        rintro e w2 ⟨x, b, rfl, rfl⟩
        cases b
        all_goals
          go_wp2_with (first | (go_at_call 75; refine (rest_one _ x).mono ?_; rintro e w2 ⟨rfl, rfl⟩))
          refine (HO.out _ HKd.out.1).mono ?_
          rintro e w3 ⟨v3, rfl, k3, r3⟩
          obtain ⟨xs3, ho3, -⟩ := id r3
          obtain ⟨p3, c3, rfl, -⟩ := own_form ho3
          have kk3 := HKd.out.1.then k3
          have hG3 := HGr.out.2.keep kk3 (Av.nil _ _)
          obtain ⟨pz, cz, hvz⟩ := (hG3.rows j hlt).len
          have hz3 := hG3.zone j hjz'
          rw [hvz] at hz3
          have n2 : w3.cell? ⟨N', 2, none⟩ = some (.slice (some ⟨A', 0, none⟩) 8 c') := cell_is hG3.hdr 2 rfl
          have na := hG3.ptr j hjz'
          have hc8 := hG3.cap
          have z0 := cell_is hz3 0 rfl
          have z1 := cell_is hz3 1 rfl
          have f0 := unfrozen hz3 0
          have f1 := unfrozen hz3 1
          have hlay := hG3.lay hjz' (v' := .slice p3 (zs j).length c3) (l' := zs j) (r3.at_.base HGr.out.1.size) (fun g hg i hi hij e => by
            obtain ⟨h1, -⟩ := own_elem ho3 hg
            obtain ⟨cs, h2⟩ := (HGr.out.2.rows i hi).block g e
            have h3 := heap_lt h2
            have h4 := HKd.out.1.size
            omega)
          rw [cutG_succ, cutZ_succ] at hlay
          have hfin := ((HGr.out.1.then kk3).new_set (HI.out.2.2 _ (List.getElem_mem hjz')) 0 (.slice p3 (zs j).length c3)).new_set (HI.out.2.2 _ (List.getElem_mem hjz')) 1 (.int .i64 (zs j).length)
          have HF := Lib.hid (And.intro hfin hlay)
          have HTk := Lib.hid (HT.out _ (HGr.out.1.then kk3) j hlt)
          clear hlay hfin hz3 hG3 hvz k3 r3 ho3 kk3
          generalize hZ2 : Z'[j] = z2 at *
          go_wp2_with fail
          refine HTk.out.mono ?_
          rintro e w4 ⟨x2, b2, rfl, rfl⟩
          cases b2
          all_goals
            go_wp2_with fail
            go_roundw
            case rel => exact ⟨j + 1, _, by go_num, by omega, HF.out.1, HF.out.2⟩
            case measure => simp [intOf]; omega
    · obtain rfl : j = 8 := by omega
      go_wp2_with fail
      go_ret
      exact ⟨N', A', c', Z', vs', rfl, kr, hG, HI.out.1, HI.out.2.1, HI.out.2.2⟩
end Go.Proofs.YtkhionhicegfmaaGreat
namespace Go.Proofs.YtkhionhicegfmaaGreat
open Go.RowKit Go.Lib

set_option maxRecDepth 100000 in
theorem round251_any (w : World) (i : Int) : Calls Tryz.prog 116 #[.int .i64 i, .int .i64 251] w fun e w' => ∃ m : Nat, m < 251 ∧ e = .returned (.int .i64 m) ∧ w = w' := by
  have h1 : -251 < i.tmod 251 ∧ i.tmod 251 < 251 := by
    have := Int.tmod_lt_of_pos i (b := 251) (by omega)
    have := Int.lt_tmod_of_pos i (b := 251) (by omega)
    omega
  go_enter Tryz.func116, Tryz.ntmps116
  go_wp2_with fail
  · obtain ⟨m, hm⟩ : ∃ m : Nat, i.tmod 251 + 251 = m := ⟨(i.tmod 251 + 251).toNat, by omega⟩
    go_ret
    exact ⟨m, by omega, by rw [← hm]; rfl, rfl⟩
  · obtain ⟨m, hm⟩ : ∃ m : Nat, i.tmod 251 = m := ⟨(i.tmod 251).toNat, by omega⟩
    go_ret
    exact ⟨m, by omega, by rw [← hm]; rfl, rfl⟩
/-- block g is a row of forty bytes. -/
def Fo (w : World) (g : Nat) (r : List UInt8) : Prop := r.length = 40 ∧ w.heap[g]? = some (.cells (Lib.byteCells r).toArray 5 (0, 0))
theorem Fo.bs {w : World} {g : Nat} {r : List UInt8} (h : Fo w g r) : Bs w (some ⟨g, 0, none⟩) r := by
  refine Or.inr ⟨g, 0, rfl, heap_lt h.2, fun j hj => ?_⟩
  rw [Nat.zero_add]
  refine cell_is h.2 j ?_
  simp [Lib.byteCells, hj]
def zeroF : List UInt8 := List.replicate 40 0
theorem wrap251 : ∀ x : Fin 251, IntKind.u8.wrap (x.val : Int) = (x.val : Int) := by decide +kernel
theorem makeF (w : World) : (Instr.makeSlice 40 (.int .i64 40) (.int .i64 40)).run Tryz.prog w = .ok (.slice (some ⟨w.heap.size, 0, none⟩) 40 40) (w.alloc (.cells (Lib.byteCells zeroF).toArray 5)) := by kernel_rfl
set_option maxRecDepth 100000 in
set_option maxHeartbeats 1000000 in
theorem block_ok (w : World) (i : Int) : Calls Tryz.prog 63 #[.int .i64 40, .int .i64 i] w fun e w' => ∃ g r, e = .returned (.slice (some ⟨g, 0, none⟩) 40 40) ∧ Chg [] w w' ∧ w.heap.size ≤ g ∧ Fo w' g r := by
  have g0 := heap_new w (.cells (Lib.byteCells zeroF).toArray 5)
  have k0 : Chg [] w (w.alloc (.cells (Lib.byteCells zeroF).toArray 5)) := Chg.alloc w _
  have hmk := makeF
  have mx : max (40 : Int) 0 = 40 := by decide
  go_enter Tryz.func63, Tryz.ntmps63
  go_wp2_with fail
  have hz1 := heap_lt g0
  generalize w.alloc (.cells (Lib.byteCells zeroF).toArray 5) = w1 at *
  generalize hz : w.heap.size = z at *
  go_loopw [6] (fun i wr => ∃ j : Nat, j ≤ 40 ∧ i = .int .i64 j ∧ Chg [] w wr ∧ ∃ r, Fo wr z r) (fun i _ => 40 - (intOf i).toNat)
  case atStart => exact ⟨0, by omega, rfl, k0, zeroF, rfl, g0⟩
  case round =>
    obtain ⟨j, hj, rfl, kc, r, hr, gr⟩ := hrel
    by_cases hlt : j < 40
    · have n1 : decide ((j : Int) < 40) = true := decide_eq_true (by omega)
      go_wp2_with fail
      refine (round251_any wr _).mono ?_
      rintro e w2 ⟨m, hm, rfl, rfl⟩
      have cj : wr.cell? ⟨z, j, none⟩ = some (.int .u8 (r.getD j 0).toNat) := by
        refine cell_is gr j ?_
        simp [Lib.byteCells, hr, hlt, List.getD]
      have fj := unfrozen gr j
      have hm2 : IntKind.u8.wrap (m : Int) = (m : Int) := wrap251 ⟨m, hm⟩
      have gs := heap_set gr j (.int .u8 (m : Int)) (cs' := (Lib.byteCells (r.set j (UInt8.ofNat m))).toArray) (by
        have : Value.int .u8 (m : Int) = (fun b : UInt8 => Value.int .u8 b.toNat) (UInt8.ofNat m) := by
          show _ = Value.int .u8 ((UInt8.ofNat m).toNat : Int)
          rw [UInt8.toNat_ofNat', Nat.mod_eq_of_lt (by omega)]
        rw [this]
        unfold Lib.byteCells
        rw [List.setIfInBounds_toArray, List.map_set])
      have ks : Chg [] w (wr.setCell ⟨z, j, none⟩ (.int .u8 (m : Int))) := kc.trans (Chg.set _ _ _ _) (fun x hx hlt => by simp at hx; omega)
      have HF := Lib.hid (And.intro ks gs)
      clear ks gs kc
      go_wp2_with fail
      refine ⟨⟨j + 1, by omega, by simp, HF.out.1, _, by simpa using hr, HF.out.2⟩, by simp [intOf]; omega⟩
    · obtain rfl : j = 40 := by omega
      go_wp2_with fail
      go_ret
      exact ⟨z, r, rfl, kc, by omega, hr, gr⟩
set_option maxRecDepth 100000 in
theorem data_ok (w : World) (i : Int) : Calls Tryz.prog 18 #[.int .i64 i] w fun e w' => ∃ g r, e = .returned (.slice (some ⟨g, 0, none⟩) 40 40) ∧ Chg [] w w' ∧ w.heap.size ≤ g ∧ Fo w' g r := by
  go_enter Tryz.func18, Tryz.ntmps18
  go_wp2_with fail
  refine (block_ok w i).mono ?_
  rintro e w1 ⟨g, r, rfl, k, hl, hf⟩
  go_wp2_with fail
  go_ret
  exact ⟨g, r, rfl, k, hl, hf⟩
end Go.Proofs.YtkhionhicegfmaaGreat
namespace Go.Proofs.YtkhionhicegfmaaGreat
open Go.RowKit Go.Lib

set_option maxRecDepth 100000 in
theorem round_nat (w : World) (x : Nat) : Calls Tryz.prog 116 #[.int .i64 x, .int .i64 251] w fun e w' => e = .returned (.int .i64 (x % 251 : Nat)) ∧ w = w' := by
  have ht : (x : Int).tmod 251 = ((x % 251 : Nat) : Int) := by
    rw [Int.tmod_eq_emod_of_nonneg (by omega)]
    omega
  obtain ⟨m, hm⟩ : ∃ m : Nat, m = x % 251 := ⟨_, rfl⟩
  rw [← hm] at ht ⊢
  have hm1 : m < 251 := by omega
  clear hm
  go_enter Tryz.func116, Tryz.ntmps116
  go_wp2_with fail
  go_ret
  exact ⟨rfl, rfl⟩
/-- the bytes that hang on a number. -/
def datB (i : Nat) : List UInt8 := (List.range 40).map fun j => UInt8.ofNat ((j * j + i * 7 + 1) % 251)
theorem datB_length (i : Nat) : (datB i).length = 40 := by simp [datB]
theorem datB_at (i j : Nat) (h : j < (datB i).length) : (datB i)[j] = UInt8.ofNat ((j * j + i * 7 + 1) % 251) := by simp [datB]
set_option maxRecDepth 100000 in
set_option maxHeartbeats 1000000 in
theorem block_ex (w : World) (i : Nat) (hi : i ≤ 1000) : Calls Tryz.prog 63 #[.int .i64 40, .int .i64 i] w fun e w' => ∃ g, e = .returned (.slice (some ⟨g, 0, none⟩) 40 40) ∧ Chg [] w w' ∧ w.heap.size ≤ g ∧ Fo w' g (datB i) := by
  have g0 := heap_new w (.cells (Lib.byteCells zeroF).toArray 5)
  have k0 : Chg [] w (w.alloc (.cells (Lib.byteCells zeroF).toArray 5)) := Chg.alloc w _
  have hmk := makeF
  have mx : max (40 : Int) 0 = 40 := by decide
  go_enter Tryz.func63, Tryz.ntmps63
  go_wp2_with fail
  have hz1 := heap_lt g0
  generalize w.alloc (.cells (Lib.byteCells zeroF).toArray 5) = w1 at *
  generalize hz : w.heap.size = z at *
  go_loopw [6] (fun i' wr => ∃ j : Nat, j ≤ 40 ∧ i' = .int .i64 j ∧ Chg [] w wr ∧ ∃ r, Fo wr z r ∧ r.take j = (datB i).take j) (fun i _ => 40 - (intOf i).toNat)
  case atStart => exact ⟨0, by omega, rfl, k0, zeroF, ⟨rfl, g0⟩, rfl⟩
  case round =>
    obtain ⟨j, hj, rfl, kc, r, ⟨hr, gr⟩, hrt⟩ := hrel
    by_cases hlt : j < 40
    · have n1 : decide ((j : Int) < 40) = true := decide_eq_true (by omega)
      obtain ⟨s, hs⟩ : ∃ s : Nat, s = j * j := ⟨_, rfl⟩
      have hs1 : s ≤ 1600 := by rw [hs]; exact Nat.mul_le_mul (show j ≤ 40 by omega) (show j ≤ 40 by omega)
      have hsi : (j : Int) * (j : Int) = (s : Int) := by rw [hs]; push_cast; rfl
      have HS := Lib.hid hs
      have HRt := Lib.hid hrt
      clear hs hrt
      have hfe : (s : Int) + (i : Int) * 7 + 1 = ((s + i * 7 + 1 : Nat) : Int) := by push_cast; rfl
      have HRn := Lib.hid (round_nat wr (s + i * 7 + 1))
      rw [← hfe] at HRn
      clear hfe
      go_wp2_with fail
      refine HRn.out.mono ?_
      rintro e w2 ⟨rfl, rfl⟩
      obtain ⟨m, hmm⟩ : ∃ m : Nat, m = (s + i * 7 + 1) % 251 := ⟨_, rfl⟩
      have hm : m < 251 := by omega
      rw [← hmm]
      have HMm := Lib.hid hmm
      clear hmm HRn
      have cj : wr.cell? ⟨z, j, none⟩ = some (.int .u8 (r.getD j 0).toNat) := by
        refine cell_is gr j ?_
        simp [Lib.byteCells, hr, hlt, List.getD]
      have fj := unfrozen gr j
      have hm2 : IntKind.u8.wrap (m : Int) = (m : Int) := wrap251 ⟨m, hm⟩
      have gs := heap_set gr j (.int .u8 (m : Int)) (cs' := (Lib.byteCells (r.set j (UInt8.ofNat m))).toArray) (by
        have : Value.int .u8 (m : Int) = (fun b : UInt8 => Value.int .u8 b.toNat) (UInt8.ofNat m) := by
          show _ = Value.int .u8 ((UInt8.ofNat m).toNat : Int)
          rw [UInt8.toNat_ofNat', Nat.mod_eq_of_lt (by omega)]
        rw [this]
        unfold Lib.byteCells
        rw [List.setIfInBounds_toArray, List.map_set])
      have ks : Chg [] w (wr.setCell ⟨z, j, none⟩ (.int .u8 (m : Int))) := kc.trans (Chg.set _ _ _ _) (fun x hx hlt => by simp at hx; omega)
      have htk : (r.set j (UInt8.ofNat m)).take (j + 1) = (datB i).take (j + 1) := by
        have h1 : j < (r.set j (UInt8.ofNat m)).length := by rw [List.length_set]; omega
        have h2 : j < (datB i).length := by rw [datB_length]; omega
        rw [List.take_succ_eq_append_getElem h1, List.take_succ_eq_append_getElem h2, List.take_set_of_le (Nat.le_refl j), HRt.out, datB_at, ← HS.out, List.getElem_set_self, HMm.out]
      have HF := Lib.hid (And.intro ks (And.intro gs htk))
      clear ks gs kc htk
      go_wp2_with fail
      refine ⟨⟨j + 1, by omega, by simp, HF.out.1, _, ⟨by simpa using hr, HF.out.2.1⟩, HF.out.2.2⟩, by simp [intOf]; omega⟩
    · obtain rfl : j = 40 := by omega
      have e : r = datB i := by
        rw [List.take_of_length_le (by omega), List.take_of_length_le (by rw [datB_length]; omega)] at hrt
        exact hrt
      subst e
      have HF := Lib.hid (And.intro kc gr)
      clear kc gr
      go_wp2_with fail
      go_ret
      exact ⟨z, rfl, HF.out.1, by omega, datB_length i, HF.out.2⟩
set_option maxRecDepth 100000 in
theorem data_ex (w : World) (i : Nat) (hi : i ≤ 1000) : Calls Tryz.prog 18 #[.int .i64 i] w fun e w' => ∃ g, e = .returned (.slice (some ⟨g, 0, none⟩) 40 40) ∧ Chg [] w w' ∧ w.heap.size ≤ g ∧ Fo w' g (datB i) := by
  go_enter Tryz.func18, Tryz.ntmps18
  go_wp2_with fail
  refine (block_ex w i hi).mono ?_
  rintro e w1 ⟨g, rfl, k, hl, hf⟩
  have HF := Lib.hid (And.intro k (And.intro hl hf))
  clear k hl hf
  go_wp2_with fail
  go_ret
  exact ⟨g, rfl, HF.out⟩
set_option maxRecDepth 100000 in
set_option maxHeartbeats 1000000 in
theorem bytes_same (w : World) {ga gb ca cb : Nat} {l : List UInt8} (ha : Bs w (some ⟨ga, 0, none⟩) l) (hb : Bs w (some ⟨gb, 0, none⟩) l) (hl : l.length = 40) : Calls Tryz.prog 24 #[.slice (some ⟨ga, 0, none⟩) 40 ca, .slice (some ⟨gb, 0, none⟩) 40 cb] w fun e w' => e = .returned (.bool true) ∧ Chg [] w w' := by
  have HA := Lib.hid ha
  have HB := Lib.hid hb
  clear ha hb
  go_enter Tryz.func24, Tryz.ntmps24
  go_wp2_with fail
  go_loopw [5] (fun i wr => ∃ j : Nat, j ≤ 40 ∧ i = .int .i64 j ∧ Chg [] w wr) (fun i _ => 40 - (intOf i).toNat)
  case atStart => exact ⟨0, by omega, rfl, Chg.refl _ _⟩
  case round =>
    obtain ⟨j, hj, rfl, kr⟩ := hrel
    by_cases hlt : j < 40
    · have n1 : decide ((j : Int) < 40) = true := decide_eq_true (by omega)
      have hjl : j < l.length := by omega
      have a0 := (HA.out.chg kr).at_ j hjl
      have b0 := (HB.out.chg kr).at_ j hjl
      rw [Nat.zero_add] at a0 b0
      generalize (l[j].toNat : Int) = x at *
      have hx : (x != x) = false := bne_self_eq_false x
      have HK := Lib.hid kr
      clear kr
      go_wp2_with fail
      go_quiet (fail)
      have HK2 := Lib.hid (HK.out.drewN nq)
      clear a0 b0
      go_wp2_with fail
      exact ⟨⟨j + 1, by omega, by simp, HK2.out⟩, by simp [intOf]; omega⟩
    · obtain rfl : j = 40 := by omega
      go_wp2_with fail
      go_ret
      exact ⟨rfl, kr⟩
end Go.Proofs.YtkhionhicegfmaaGreat
namespace Go.Proofs.YtkhionhicegfmaaGreat
open Go.RowKit Go.Lib

theorem BufD.keepA {w w' : World} {U : List Nat} {L : List (Int × Value)} {D : Int → List UInt8} (h : BufD w L D) (hc : Chg U w w') (hU : Av w U [5]) : BufD w' L D := fun k v hv => by
  obtain ⟨g, c, h1, h2, h3, h4⟩ := h k v hv
  have hn : g ∉ U := Bt.av h4 hU (by simp)
  exact ⟨g, c, h1, h2.chgT hc hn, h3, Bt.keep h4 hc hn⟩
theorem Cd.av {lo M T rb X rx : Nat} {w : World} {S ts : List Nat} {csM csT csX : Array Value} {L1 L2 : List (Int × Value)} (hS : ∀ x ∈ S, x < w.heap.size → x = M ∨ x = T ∨ x = rb ∨ x = X ∨ x = rx ∨ (lo ≤ x ∧ ∃ cs, w.heap[x]? = some (.cells cs 262 (0, 0))))
    (hM : w.heap[M]? = some (.cells csM 189 (0, 0))) (hT : w.heap[T]? = some (.cells csT 202 (0, 0))) (hX : w.heap[X]? = some (.cells csX 253 (0, 0))) (h1 : MapAt w rb L1) (h2 : MapAt w rx L2) (h : ∀ t ∈ ts, t ∉ [189, 202, 253, 262]) : Av w S ts := by
  intro x hx cs t fr hh ht
  have hn := h t ht
  rcases hS x hx (heap_lt hh) with rfl | rfl | rfl | rfl | rfl | ⟨-, cs2, h3⟩
  · rw [hM] at hh; cases hh; exact hn (by simp)
  · rw [hT] at hh; cases hh; exact hn (by simp)
  · exact map_cells h1 hh rfl
  · rw [hX] at hh; cases hh; exact hn (by simp)
  · exact map_cells h2 hh rfl
  · rw [h3] at hh; cases hh; exact hn (by simp)
theorem Cs.of_cd {lw lo M T rb X rx : Nat} {w w' : World} {csM csT csX : Array Value} {L1 L2 : List (Int × Value)} (h : Cd lo M T rb X rx w w')
    (hM : w.heap[M]? = some (.cells csM 189 (0, 0))) (hT : w.heap[T]? = some (.cells csT 202 (0, 0))) (hX : w.heap[X]? = some (.cells csX 253 (0, 0))) (h1 : MapAt w rb L1) (h2 : MapAt w rx L2) (hb : lw ≤ lo ∧ lw ≤ M ∧ lw ≤ T ∧ lw ≤ rb ∧ lw ≤ X ∧ lw ≤ rx) : Cs lw w w' := by
  obtain ⟨S, k1, k2⟩ := h
  refine ⟨S, k1, fun x hx hlt => ?_⟩
  obtain ⟨b1, b2, b3, b4, b5, b6⟩ := hb
  rcases k2 x hx hlt with rfl | rfl | rfl | rfl | rfl | ⟨hl, cs2, h3⟩
  · exact ⟨b2, fun cs t fr hh => by rw [hM] at hh; cases hh; simp⟩
  · exact ⟨b3, fun cs t fr hh => by rw [hT] at hh; cases hh; simp⟩
  · exact ⟨b4, fun cs t fr hh => absurd rfl (map_cells h1 hh)⟩
  · exact ⟨b5, fun cs t fr hh => by rw [hX] at hh; cases hh; simp⟩
  · exact ⟨b6, fun cs t fr hh => absurd rfl (map_cells h2 hh)⟩
  · exact ⟨by omega, fun cs t fr hh => by rw [h3] at hh; cases hh; simp⟩
/-- the blocks that a write of a batch changes. -/
theorem Sto.wtp {w : World} {lw : Nat} {d : Ids} {s : Gs} {g : Gd} (h : Sto w lw d s g) : Tp w (d.P :: d.N :: d.Z ++ (g.dv 6).ownBlock.toList) [105, 93, 97, 40] ∧ ∀ x ∈ d.P :: d.N :: d.Z ++ (g.dv 6).ownBlock.toList, lw ≤ x := by
  have hb := h.bnd
  refine ⟨fun x hx => ?_, fun x hx => ?_⟩
  · simp only [List.cons_append, List.mem_cons, List.mem_append] at hx
    rcases hx with rfl | rfl | hx | hx
    · exact ⟨_, _, h.store, by simp⟩
    · exact ⟨_, _, h.dev.hdr, by simp⟩
    · obtain ⟨i, hi, rfl⟩ := List.getElem_of_mem hx
      exact ⟨_, _, h.dev.zone i hi, by simp⟩
    · obtain ⟨cs, hh⟩ := (h.dev.rows 6 (by omega)).block x (by simpa using hx)
      exact ⟨_, _, hh, by simp⟩
  · simp only [List.cons_append, List.mem_cons, List.mem_append] at hx
    rcases hx with rfl | rfl | hx | hx
    · omega
    · omega
    · exact h.bndZ x hx
    · obtain ⟨xs, ho, -⟩ := h.dev.rows 6 (by omega)
      have := (own_elem ho (show (g.dv 6).ownBlock = some x by simpa using hx)).1
      omega
/-- what a transaction that waits holds beside the store. -/
structure Wtx (w : World) (d : Ids) (s : Gs) (gq cq : Nat) (hdl : Int) (k : Nat) (t t0 : Int) (L : List (Int × Value)) (D : Int → List UInt8) : Prop where
  qv : s.qv = .slice (some ⟨gq, 0, none⟩) 1 cq
  cq : 1 ≤ cq
  q : ∃ cs, w.heap[gq]? = some (.cells cs 3 (0, 0)) ∧ cs[0]? = some (.int .i64 hdl)
  tab : getL s.Lr hdl = some (.pointer (some ⟨d.T, 0, none⟩))
  tx : TxW w d.T d.W d.Q k t
  buf : BufAt w d.W d.rw L
  bd : BufD w L D
  bk : ∀ x ∈ L, 0 ≤ x.1 ∧ x.1 < 258
  len0 : 0 < L.length
  len : L.length ≤ 16
  book : getL s.Lb hdl = some (.int .i64 t0)
theorem Wtx.keepA {w w' : World} {U : List Nat} {d : Ids} {s : Gs} {gq cq : Nat} {hdl : Int} {k : Nat} {t t0 : Int} {L : List (Int × Value)} {D : Int → List UInt8} (h : Wtx w d s gq cq hdl k t t0 L D) (hc : Chg U w w') (hU : Av w U [3, 202, 266, 5]) (hr : d.rw ∉ U) : Wtx w' d s gq cq hdl k t t0 L D := by
  obtain ⟨cs, q1, q2⟩ := h.q
  exact ⟨h.qv, h.cq, ⟨cs, hc.heap q1 (hU.ne q1 (by simp)), q2⟩, h.tab, hc.heap h.tx (hU.ne h.tx (by simp)), h.buf.keep hc (hU.ne h.buf.1 (by simp)) hr, h.bd.keepA hc (fun x hx cs t fr hh ht => hU x hx cs t fr hh (by simp at ht; simp [ht])), h.bk, h.len0, h.len, h.book⟩
theorem Wtx.keep {w w' : World} {d : Ids} {s : Gs} {gq cq : Nat} {hdl : Int} {k : Nat} {t t0 : Int} {L : List (Int × Value)} {D : Int → List UInt8} (h : Wtx w d s gq cq hdl k t t0 L D) (hc : Chg [] w w') : Wtx w' d s gq cq hdl k t t0 L D := h.keepA hc (Av.nil _ _) (by simp)
/-- the manager behind a batch. -/
def doneS (s : Gs) (z : Nat) (k : Nat) (hdl : Int) (Lv' : List (Int × Value)) (l : List (Int × List UInt8)) : Gs :=
  { s with qv := .slice (some ⟨z, 0, none⟩) 0 0, out := 0, num := s.num + 1, last := k, lastv := k, Lv := Lv', vs := applyV s.vs k l, Lb := delL s.Lb hdl }
/-- the log behind a batch. -/
def doneG (g : Gd) (v6 : Value) (k : Nat) (l : List (Int × List UInt8)) : Gd :=
  { g with pos := g.pos + l.length + 1, num := g.num + 1, ops := g.ops + l.length + 2, dv := upF g.dv 6 v6, gs := goodF g.gs (upF g.zs 6 (g.zs 6 ++ batL g.cnt (g.num + 1) k l)) 8, zs := upF g.zs 6 (g.zs 6 ++ batL g.cnt (g.num + 1) k l) }
/-- what a flush of one transaction leaves. -/
def FlushR (w w' : World) (lw : Nat) (d : Ids) (s : Gs) (g : Gd) (k : Nat) (hdl : Int) (l : List (Int × List UInt8)) : Prop :=
  ∃ z Lv' v6, Sto w' lw d (doneS s z k hdl Lv' l) (doneG g v6 k l) ∧ Cs lw w w' ∧ w'.ownsRow lw 3 1 (.slice (some ⟨z, 0, none⟩) 0 0) 0 []
set_option maxRecDepth 100000 in
set_option maxHeartbeats 4000000 in
theorem sflush_ok (w : World) {lw : Nat} {d : Ids} {s : Gs} {g : Gd} {gq cq : Nat} {hdl : Int} {k : Nat} {t t0 : Int} {L : List (Int × Value)} {D : Int → List UInt8} (h : Sto w lw d s g) (hw : Wtx w d s gq cq hdl k t t0 L D) (hout : s.out = 0) (hT : lw ≤ d.T) (hlw : lw ≤ w.heap.size)
    (hk0 : 1 ≤ k) (hlast : s.lastv < k) (hk1 : k ≤ 1099511627776) (hs : ∀ c, (s.vs c).length + 16 < 1000000) (hn0 : 0 ≤ s.num) (hn1 : s.num ≤ 100000000) (hroom : (g.zs 6).length + L.length + 1 ≤ 96) (hpos : g.pos + L.length + 1 ≤ 96) (ho0 : 0 ≤ g.ops) (ho1 : g.ops ≤ 100000) (hcnt : g.cnt < 4294967296) (hnum : g.num < 1000000000) :
    Calls Tryz.prog 20 #[.pointer (some ⟨d.P, 0, none⟩)] w fun e w' => e = .returned (.int .i64 0) ∧ FlushR w w' lw d s g k hdl (putsL L D) := by
  have HD := Lib.hid (dead_g w h.store)
  have p5 : w.cell? ⟨d.P, 5, none⟩ = some (.pointer (some ⟨d.M, 0, none⟩)) := cell_is h.store 5 rfl
  have hm := h.mx.mgr
  rw [hw.qv, hout] at hm
  obtain ⟨cs, hq1, hq2⟩ := hw.q
  have hpl : (putsL L D).length = L.length := putsL_length L D
  have HB := Lib.hid (tbatch_one w (k := k) (l := putsL L D) hm (by have := hw.len; omega) hn0 (by omega) (fun w1 k1 => waiting_one w1 (k1.heap hm (by simp)) (k1.cell (cell_is hq1 0 hq2) (by simp)) (h.mx.map.keep k1 (by simp)) hw.tab (k1.heap hw.tx (by simp)) (hw.buf.keep k1 (by simp) (by simp)) (hw.bd.keep k1) hw.bk (by have := hw.len; omega)))
  have HS := Lib.hid h
  have HW := Lib.hid hw
  have HO := Lib.hid hout
  have HQv := Lib.hid hw.qv
  clear h hw hm hout hq1 hq2
  go_enter Tryz.func20, Tryz.ntmps20
  go_wp2_with fail
  refine HD.out.mono ?_
  rintro e w1 ⟨rfl, rfl⟩
  go_wp2_with fail
  refine HB.out.mono ?_
  rintro e w1 ⟨gt, ct, rfl, k1, hm1, ht1⟩
  have hS := HS.out
  have avM : ∀ ts, 189 ∉ ts → Av w [d.M] ts := fun ts h1 => Av.row hS.mx.mgr h1
  have nmM : ∀ {x L}, MapAt w x L → x ∉ [d.M] := fun hm => by simpa using map_cells hm hS.mx.mgr
  have S1 : Sto w1 lw d { s with out := 1 } g :=
    ⟨k1.heap hS.store ((avM [105] (by decide)).ne hS.store (by simp)), k1.heap hS.slot ((avM [166] (by decide)).ne hS.slot (by simp)), hS.text.keep k1 (avM _ (by decide)), hS.dev.keep k1 (avM _ (by decide)),
      hS.mx.chgM k1 (by rw [HQv.out]; exact hm1) rfl rfl rfl rfl rfl rfl rfl, hS.ap, hS.keys, hS.bnd, hS.bndZ, Nat.le_trans hS.slo k1.size, hS.dlo⟩
  have W1 := HW.out.keepA k1 (avM _ (by decide)) (nmM HW.out.buf.2)
  have c1 : Cs lw w w1 := Cs.of_tp (ts := [189]) k1 (fun x hx => by rw [List.mem_singleton] at hx; subst hx; exact ⟨_, _, hS.mx.mgr, by simp⟩) (by decide) (fun x hx => by rw [List.mem_singleton] at hx; subst hx; exact hS.bnd.2.2.2.1)
  have ka : Chg [] w1 (w1.alloc (.cells #[.int .i64 (s.num + 1), .slice (some ⟨gt, 0, none⟩) 1 ct] 129)) := Chg.alloc w1 _
  have A0 := heap_new w1 (.cells #[.int .i64 (s.num + 1), .slice (some ⟨gt, 0, none⟩) 1 ct] 129)
  have S2 := S1.keep ka
  have W2 := W1.keep ka
  have c2 := c1.trans (Cs.of_chg ka)
  have ht2 := ht1.keep ka
  have h6 : 6 < d.Z.length := by have := S2.dev.len; omega
  have hl0 : 0 < (putsL L D).length := by have := HW.out.len0; omega
  have hl16 : (putsL L D).length ≤ 16 := by have := HW.out.len; omega
  have hwr := swrite_log _ (num0 := s.num + 1) S2.store (fun w' k' => load_g w' (k'.heap S2.slot (by simp)) (S2.text.keep k' (Av.nil _ _))) S2.dev ho0 ho1 S2.dlo ht2 hk0 hk1 hcnt (by omega) hl0 hl16 (rise_puts D HW.out.buf.2.nodup) (putsL_in D HW.out.bk) (by rw [hpl]; exact hroom) (by rw [hpl]; exact hpos) h6
  have HWr := Lib.hid hwr
  have q5 : w1.cell? ⟨d.P, 5, none⟩ = some (.pointer (some ⟨d.M, 0, none⟩)) := cell_is S1.store 5 rfl
  have HS2 := Lib.hid S2
  have HW2 := Lib.hid W2
  have HC2 := Lib.hid c2
  have Hpl := Lib.hid hpl
  clear hwr S1 S2 W1 W2 c1 c2 ht1 ht2 hm1 k1 ka hS avM nmM hroom hpos hl0 hl16 HB HD hpl hk0
  go_wp2_with fail
  generalize w1.alloc (.cells #[.int .i64 (s.num + 1), .slice (some ⟨gt, 0, none⟩) 1 ct] 129) = w2 at *
  refine HWr.out.mono ?_
  rintro e w3 ⟨rfl, k3, hP3, v6, hd3⟩
  have S2 := HS2.out
  have tp := S2.wtp.1
  have S3x : Mx w3 d.M d.X d.rx d.B d.rb d.r { s with out := 1 } := S2.mx.keepA k3 (tp.av (by decide)) (tp.map S2.mx.ver.m) (tp.map S2.mx.book.2) (tp.map S2.mx.map)
  have slot3 := k3.heap S2.slot ((tp.av (ts' := [166]) (by decide)).ne S2.slot (by simp))
  have text3 := S2.text.keep k3 (tp.av (by decide))
  have W3 := HW2.out.keepA k3 (tp.av (by decide)) (tp.map HW2.out.buf.2)
  have c3 := HC2.out.trans (Cs.of_tp k3 tp (by decide) S2.wtp.2)
  obtain ⟨cs, hq1, hq2⟩ := W3.q
  have hdn := tdone_ok w3 S3x (show ({ s with out := 1 } : Gs).qv = _ from W3.qv) W3.cq rfl (cell_is hq1 0 hq2) W3.tab W3.tx W3.buf W3.bd W3.bk W3.len0 W3.len S2.ap S2.keys (Nat.le_trans S2.slo k3.size) hlast (by omega) hs W3.book hn0 (by show s.num ≤ _; omega)
  have HDn := Lib.hid hdn
  have r5 : w3.cell? ⟨d.P, 5, none⟩ = some (.pointer (some ⟨d.M, 0, none⟩)) := cell_is hP3 5 rfl
  have HS3 := Lib.hid (And.intro S3x (And.intro slot3 (And.intro text3 (And.intro hP3 hd3))))
  have HW3 := Lib.hid W3
  have HC3 := Lib.hid c3
  clear hdn S2 tp S3x slot3 text3 hP3 hd3 W3 c3 hq1 hq2 k3 HWr HC2 HW2 q5
  go_wp2_with fail
  refine HDn.out.mono ?_
  rintro e w4 ⟨rfl, z, ⟨⟨Lv', hx4, hap4, hk4⟩, hcd, -⟩, o4⟩
  have hF : FlushR w w4 lw d s g k hdl (putsL L D) := by
    obtain ⟨hx3, slot3, text3, hP3, hd3⟩ := HS3.out
    have c4 := HC3.out.trans (Cs.of_cd hcd hx3.mgr HW3.out.tx hx3.ver.x hx3.book.2 hx3.ver.m (by
      have := HS.out.bnd
      exact ⟨this.2.2.2.2.2.2.2.2.2.1, this.2.2.2.1, hT, this.2.2.2.2.2.2.2.1, this.2.2.2.2.1, this.2.2.2.2.2.1⟩))
    obtain ⟨U, kU, hU⟩ := hcd
    have av : ∀ ts : List Nat, (∀ t ∈ ts, t ∉ [189, 202, 253, 262]) → Av w3 U ts := fun ts hts => Cd.av hU hx3.mgr HW3.out.tx hx3.ver.x hx3.book.2 hx3.ver.m hts
    refine ⟨z, Lv', v6, ⟨?_, kU.heap slot3 ((av [166] (by decide)).ne slot3 (by simp)), text3.keep kU (av _ (by decide)), hd3.keep kU (av _ (by decide)), hx4, hap4, hk4, HS.out.bnd, HS.out.bndZ, Nat.le_trans HS.out.slo c4.size, HS.out.dlo⟩, c4, ownsRow_low o4 (Nat.le_trans hlw HC3.out.size)⟩
    exact kU.heap hP3 ((av [105] (by decide)).ne hP3 (by simp))
  have HF := Lib.hid hF
  clear hF hx4 hap4 hk4 hcd o4 HDn HS3 HW3 HC3 r5
  go_wp2_with fail
  go_ret
  exact ⟨rfl, HF.out⟩
end Go.Proofs.YtkhionhicegfmaaGreat
namespace Go.Proofs.YtkhionhicegfmaaGreat
open Go.RowKit Go.Lib

theorem getL_of_mem {L : List (Int × Value)} (hn : (L.map Prod.fst).Nodup) {p : Int × Value} (hp : p ∈ L) : getL L p.1 = some p.2 := by
  induction L with
  | nil => cases hp
  | cons a l ih =>
    rw [List.map_cons, List.nodup_cons] at hn
    simp only [getL]
    rcases List.mem_cons.1 hp with rfl | h
    · rw [if_pos rfl]
    · rw [if_neg (fun e => hn.1 (by rw [← e]; exact List.mem_map.2 ⟨p, h, rfl⟩))]
      exact ih hn.2 h
/-- a map's entries, one by one. -/
theorem MapAt.entries {w : World} {r : Nat} {L : List (Int × Value)} (h : MapAt w r L) : ∃ es clock, w.heap[r]? = some (.map es clock) ∧ MapKept.Stamped es clock ∧ ∀ e ∈ es.toList, ∃ k, e.key = .int .i64 k ∧ (k, e.val) ∈ L ∧ getL L k = some e.val := by
  have hn := h.nodup
  obtain ⟨es, clock, hb, hI, hS⟩ := h
  refine ⟨es, clock, hb, hS, fun e he => ?_⟩
  have h1 : (e.key, e.val) ∈ es.toList.map (fun e => (e.key, e.val)) := List.mem_map.2 ⟨e, he, rfl⟩
  rw [hI] at h1
  obtain ⟨p, hp, e1⟩ := List.mem_map.1 h1
  have e2 : e.key = .int .i64 p.1 := (congrArg Prod.fst e1).symm
  have e3 : e.val = p.2 := (congrArg Prod.snd e1).symm
  exact ⟨p.1, e2, by rw [e3]; exact hp, by rw [e3]; exact getL_of_mem hn hp⟩
/-- all versions are no newer than a time; the map's keys are blocks. -/
def OldV (L : List (Int × Value)) (vs : Int → List (Int × List UInt8)) (t : Int) : Prop := (∀ p ∈ L, 0 ≤ p.1 ∧ p.1 < 258) ∧ ∀ b, ∀ x ∈ vs b, x.1 ≤ t
set_option maxRecDepth 100000 in
set_option maxHeartbeats 1000000 in
theorem written_old (w : World) {lo X rx : Nat} {last : Int} {L : List (Int × Value)} {vs : Int → List (Int × List UInt8)} (h : VerG w lo X rx last L vs) (b n t : Int) (ho : OldV L vs t) : Calls Tryz.prog 188 #[.pointer (some ⟨X, 0, none⟩), .agg #[.int .i64 b, .int .i64 n], .int .i64 t] w fun e w' => e = .returned (.bool false) ∧ Chg [] w w' := by
  have kA : Chg [] w (w.alloc (.cells #[.int .i64 b, .int .i64 n] 285)) := Chg.alloc w _
  have A0 := heap_new w (.cells #[.int .i64 b, .int .i64 n] 285)
  have h2 := h.keep kA
  have x0 : (w.alloc (.cells #[.int .i64 b, .int .i64 n] 285)).cell? ⟨X, 0, none⟩ = some (.int .i64 258) := cell_is h2.x 0 rfl
  have x1 : (w.alloc (.cells #[.int .i64 b, .int .i64 n] 285)).cell? ⟨X, 1, none⟩ = some (.map (some rx)) := cell_is h2.x 1 rfl
  have a0 : (w.alloc (.cells #[.int .i64 b, .int .i64 n] 285)).cell? ⟨w.heap.size, 0, none⟩ = some (.int .i64 b) := cell_is A0 0 rfl
  have a1 : (w.alloc (.cells #[.int .i64 b, .int .i64 n] 285)).cell? ⟨w.heap.size, 1, none⟩ = some (.int .i64 n) := cell_is A0 1 rfl
  have HG := Lib.hid (xgone_any _ x0)
  have H2 := Lib.hid h2
  clear h h2 A0
  go_enter Tryz.func188, Tryz.ntmps188
  go_upto_region 1 with fail
  generalize w.alloc (.cells #[.int .i64 b, .int .i64 n] 285) = w1 at *
  generalize hz : w.heap.size = z at *
  go_cut [38] from 7 (fun v wx => (∃ r : Bool, v = .bool r) ∧ wx = w1)
  case first =>
    go_wp2_with fail
    refine HG.out.mono ?_
    rintro e w2 ⟨rfl, rfl⟩
    go_wp2_with fail
    all_goals
      go_meet
      exact ⟨⟨_, rfl⟩, rfl⟩
  case rest =>
    obtain ⟨⟨r, rfl⟩, rfl⟩ := hcut
    rename World => wd
    cases r
    · obtain ⟨es, clock, hm, hst, hen⟩ := H2.out.m.entries
      have hr1 := run_range_map (P := Tryz.prog) wd 251 3 260 rx es clock (by kernel_rfl) hm
      have HE := Lib.hid hen
      have HO := Lib.hid ho
      clear hen ho
      have kR : Chg [] wd (wd.alloc (.mapIter (some rx) clock #[] clock)) := Chg.alloc wd _
      have R0 := heap_new wd (.mapIter (some rx) clock #[] clock)
      go_wp2_with fail
      generalize hzR : wd.heap.size = R at *
      generalize wd.alloc (.mapIter (some rx) clock #[] clock) = w3 at *
      go_loopw [7, 8] (fun _ _ wr => ∃ seen, wr.heap[R]? = some (.mapIter (some rx) clock seen clock) ∧ Chg [] wd wr) (fun _ _ wr => (leftOf es (wr.iterSeen R)).size)
      case atStart => exact ⟨#[], R0, kR⟩
      case round =>
        obtain ⟨seen, hR, kr⟩ := hrel
        have hb1 : wr.heap[rx]? = some (.map es clock) := kr.heap hm (by simp)
        rcases run_next_at (P := Tryz.prog) wr 0 R rx clock clock seen es clock hR hb1 hst.1 (Nat.le_refl _) with ⟨h0, hrun⟩ | ⟨e, he, w2, hal2, hrun⟩
        · have hnx : ∀ ty, (Instr.next (.pointer (some ⟨R, 0, none⟩)) false ty).run Tryz.prog wr = _ := fun _ => hrun
          have kF : Chg [] w wr := kA.then kr
          go_wp2_with fail
          go_ret
          exact ⟨rfl, kF⟩
        · obtain ⟨k, hk, hL, hget⟩ := HE.out e (mem_left he).1
          obtain ⟨hk0, hk1⟩ := HO.out.1 _ hL
          have hk0' : 0 ≤ k := hk0
          have hk1' : k < 258 := hk1
          obtain ⟨v, hv, hrow, hne⟩ : ∃ v, e.val = v ∧ VRow wd lo v (vs k) ∧ vs k ≠ [] := by
            rcases H2.out.row k hk0' hk1' with ⟨e1, _⟩ | ⟨v, e1, e2, e3⟩
            · rw [hget] at e1; cases e1
            · rw [hget] at e1; cases e1; exact ⟨_, rfl, e2, e3⟩
          have h5 : ∃ w5, w5 = Go.ChangeMaps.setBlock w2 R (.mapIter (some rx) clock (seen.push e.born) clock) ∧ w5.heap[R]? = some (.mapIter (some rx) clock (seen.push e.born) clock) ∧ Chg [] wd w5 := by
            refine ⟨_, rfl, ?_, ?_⟩
            · have hl : R < w2.heap.size := by rcases hal2 with rfl | rfl <;> exact heap_lt hR
              simp [Go.ChangeMaps.setBlock, hl]
            · have kk : Chg [] wd w2 := by rcases hal2 with e | e <;> rw [e]; exact kr; exact kr.drew
              refine kk.trans (T := [R]) ⟨rfl, rfl, rfl, by simp [Go.ChangeMaps.setBlock], fun q _ hq => ?_⟩ (fun x hx hlt => by rw [List.mem_singleton] at hx; omega)
              have : R ≠ q := by intro e; exact hq (by rw [e]; simp)
              simp [Go.ChangeMaps.setBlock, this]
          obtain ⟨w5, e5, hR5, k5⟩ := h5
          rw [← e5] at hrun
          have hen := run_entry_at (P := Tryz.prog) w5 R rx clock seen es clock e hR5 (k5.heap hm (by simp)) (mem_left he).1 hst.2.1
          have HM := Lib.hid (left_shrinks es seen e he)
          obtain ⟨j, hj⟩ : ∃ j, (vs k).length = j + 1 := ⟨(vs k).length - 1, by have := List.length_pos_iff.2 hne; omega⟩
          obtain ⟨g, cap, gd, cd, rfl, hcap, d0, -, -, -, -⟩ := hrow.get j (by omega)
          have hsm := H2.out.small k
          have hold : ((vs k)[j]'(by omega)).1 ≤ t := HO.out.2 k _ (List.getElem_mem _)
          have d5 := k5.cell d0 (by simp)
          have y0 := k5.cell a0 (by simp)
          have y1 := k5.cell a1 (by simp)
          rw [hk, hv, hj] at hrun hen
          rw [hj] at hcap
          have kz : Chg [] w w5 := kA.then k5
          have hnx : ∀ ty, (Instr.next (.pointer (some ⟨R, 0, none⟩)) false ty).run Tryz.prog wr = _ := fun _ => hrun
          clear d0 hrow hL hget hk hv hne hal2 kr hb1 hrun e5
          generalize ((vs k)[j]'(by omega)).1 = tl at *
          go_upto_region 6 with fail
          have ej : wrap64 (((j + 1 : Nat) : Int) - 1) = j := by unfold wrap64; omega
          go_cut [72] from 44 (fun v wx => v = .bool false ∧ wx = w5)
          case first =>
            have hl1 : j < j + 1 := by omega
            have htl : decide (tl > t) = false := decide_eq_false (by omega)
            go_wp2_with fail
            all_goals
              go_meet
              exact ⟨by simp, rfl⟩
          case rest =>
            obtain ⟨rfl, rfl⟩ := hcut
            go_wp2_with fail
            go_roundw
            case rel => exact ⟨_, hR5, k5⟩
            case measure => simp only [World.iterSeen, hR5, hR]; exact HM.out
    · go_wp2_with fail
      go_ret
      exact ⟨rfl, kA⟩
end Go.Proofs.YtkhionhicegfmaaGreat
namespace Go.Proofs.YtkhionhicegfmaaGreat
open Go.RowKit Go.Lib

set_option maxRecDepth 100000 in
set_option maxHeartbeats 4000000 in
theorem check_old (w : World) {lo X rx lo1 U1 m1 n1 lo2 U2 m2 n2 cq : Nat} {pq : Option Addr} {last t : Int} {Lv : List (Int × Value)} {vs : Int → List (Int × List UInt8)} (h : VerG w lo X rx last Lv vs) (ho : OldV Lv vs t) (hr : SpW w lo1 U1 m1 n1) (hw : SpW w lo2 U2 m2 n2) (hn1 : n1 ≤ 1000) (hn2 : n2 ≤ 1000) :
    Calls Tryz.prog 165 #[.pointer (some ⟨X, 0, none⟩), .slice pq 0 cq, .int .i64 t, .pointer (some ⟨U1, 0, none⟩), .pointer (some ⟨U2, 0, none⟩)] w fun e w' => e = .returned (.int .i64 0) ∧ Chg [] w w' := by
  have HC := Lib.hid (count_any w hw hn2)
  have HV := Lib.hid h
  have HOl := Lib.hid ho
  have HR := Lib.hid hr
  have HW := Lib.hid hw
  clear h ho hr hw
  go_enter Tryz.func165, Tryz.ntmps165
  go_wp2_with fail
  go_step3
  go_wp2_with fail
  refine HC.out.mono ?_
  rintro e w1 ⟨⟨r, rfl⟩, k1⟩
  by_cases hr0 : r = 0
  · subst hr0
    go_wp2_with fail
    simp only [Exit.noGoto]
    go_ret
    exact ⟨rfl, k1⟩
  · go_wp2_with fail
    go_step3
    go_wp2_with fail
    have hrb : (r == 0) = false := by simpa using hr0
    rw [hrb]
    have hi0 : ∀ w, (Instr.index 297 (.agg #[.pointer (some ⟨U1, 0, none⟩), .pointer (some ⟨U2, 0, none⟩)]) (.int .i64 ((0 : Nat) : Int))).run Tryz.prog w = .ok (.pointer (some ⟨U1, 0, none⟩)) w := fun w => by kernel_rfl
    have hi1 : ∀ w, (Instr.index 297 (.agg #[.pointer (some ⟨U1, 0, none⟩), .pointer (some ⟨U2, 0, none⟩)]) (.int .i64 ((1 : Nat) : Int))).run Tryz.prog w = .ok (.pointer (some ⟨U2, 0, none⟩)) w := fun w => by kernel_rfl
    go_loopw [11, 13, 15, 17, 24] (fun e _ _ _ i wr => ∃ j : Nat, j ≤ 2 ∧ i = .int .i64 j ∧ e = .int .i64 0 ∧ Chg [] w1 wr) (fun _ _ _ _ i _ => 2 - (intOf i).toNat)
    case atStart => exact ⟨0, by omega, rfl, rfl, Chg.refl _ _⟩
    case round =>
      obtain ⟨j, hj, rfl, rfl, kr⟩ := hrel
      by_cases hj2 : j < 2
      · obtain ⟨U, lo3, m3, n3, hi, hS, hn3⟩ : ∃ U lo3 m3 n3, (∀ w, (Instr.index 297 (.agg #[.pointer (some ⟨U1, 0, none⟩), .pointer (some ⟨U2, 0, none⟩)]) (.int .i64 (j : Int))).run Tryz.prog w = .ok (.pointer (some ⟨U, 0, none⟩)) w) ∧ SpW wr lo3 U m3 n3 ∧ n3 ≤ 1000 := by
          have kk := k1.then kr
          rcases (show j = 0 ∨ j = 1 by omega) with rfl | rfl
          · exact ⟨U1, _, _, _, hi0, HR.out.keep0 kk, hn1⟩
          · exact ⟨U2, _, _, _, hi1, HW.out.keep0 kk, hn2⟩
        have HE := Lib.hid (extents_any wr hS hn3)
        clear hi0 hi1 hS
        go_wp2_with fail
        refine HE.out.mono ?_
        rintro e w2 ⟨pb, m, cb, l, rfl, k2, hq, hl, hm⟩
        have HQ := Lib.hid hq
        clear hq
        go_wp2_with fail
        go_loopw [11, 15, 30] (fun e _ i wz => ∃ q : Nat, q ≤ m ∧ i = .int .i64 q ∧ e = .int .i64 0 ∧ Chg [] w2 wz) (fun _ _ i _ => m - (intOf i).toNat)
        case atStart => exact ⟨0, by omega, rfl, rfl, Chg.refl _ _⟩
        case round =>
          obtain ⟨q, hq, rfl, rfl, kz⟩ := hrel
          rename World => wz
          have kk : Chg [] w1 wz := (kr.then k2).then kz
          by_cases hqm : q < m
          · obtain ⟨b, o, rfl, c0, c1⟩ := (HQ.out.keep kz).get q (by omega)
            generalize (l[q]'(by omega)).1 = x at *
            generalize (l[q]'(by omega)).2 = y at *
            have ka : Chg [] wz (wz.alloc (.cells #[.int .i64 x, .int .i64 y] 285)) := Chg.alloc wz _
            have HWr := Lib.hid (written_old (wz.alloc (.cells #[.int .i64 x, .int .i64 y] 285)) (HV.out.keep ((k1.then kk).then ka)) x y t HOl.out)
            go_wp2_with fail
            refine HWr.out.mono ?_
            rintro e w5 ⟨rfl, k5⟩
            go_wp2_with fail
            go_roundw
            case rel => exact ⟨q + 1, by omega, by simp, rfl, (kz.then ka).then k5⟩
            case measure => simp [intOf]; omega
          · obtain rfl : q = m := by omega
            go_wp2_with fail
            go_loopw [11, 17, 41] (fun e _ i wy => i = .int .i64 0 ∧ e = .int .i64 0 ∧ wy = wz) (fun _ _ _ _ => 0)
            case atStart => exact ⟨rfl, rfl, rfl⟩
            case round =>
              obtain ⟨rfl, rfl, rfl⟩ := hrel
              go_wp2_with fail
              go_roundw
              case rel => exact ⟨j + 1, by omega, by simp, rfl, kk⟩
              case measure => simp [intOf]; omega
      · obtain rfl : j = 2 := by omega
        go_wp2_with fail
        simp only [Exit.noGoto]
        go_ret
        exact ⟨rfl, k1.then kr⟩
set_option maxRecDepth 100000 in
set_option maxHeartbeats 4000000 in
theorem may_old (w : World) {M X B r cq lo rx T W rw Q V n base : Nat} {pq : Option Addr} {out num bas last given lastv t : Int} {Lv : List (Int × Value)} {vs : Int → List (Int × List UInt8)} {L : List (Int × Value)} {D : Int → List UInt8}
    (h : MgrG w M X B r (.slice pq 0 cq) out num bas last given false) (hg : given < 1099511627776) (hv : VerG w lo X rx lastv Lv vs) (ho : OldV Lv vs t) (hT : TxT w T W Q t) (hb : BufAt w W rw L) (hD : BufD w L D) (hk : ∀ x ∈ L, 0 ≤ x.1 ∧ x.1 < 258) (hl : L.length ≤ 12)
    (hV : VwT w base Q X W V t n) (hS : SpV w base V n) (hn : n ≤ 12) : Calls Tryz.prog 119 #[.pointer (some ⟨M, 0, none⟩), .pointer (some ⟨T, 0, none⟩)] w fun e w' => e = .returned (.int .i64 0) ∧ Chg [] w w' := by
  have m9 : w.cell? ⟨M, 9, none⟩ = some (.bool false) := cell_is h 9 rfl
  have m0 : w.cell? ⟨M, 0, none⟩ = some (.pointer (some ⟨X, 0, none⟩)) := cell_is h 0 rfl
  have m8 : w.cell? ⟨M, 8, none⟩ = some (.int .i64 given) := cell_is h 8 rfl
  have t3 : w.cell? ⟨T, 3, none⟩ = some (.int .i64 t) := cell_is hT 3 rfl
  have t4 : w.cell? ⟨T, 4, none⟩ = some (.pointer (some ⟨W, 0, none⟩)) := cell_is hT 4 rfl
  have t5 : w.cell? ⟨T, 5, none⟩ = some (.pointer (some ⟨Q, 0, none⟩)) := cell_is hT 5 rfl
  have kd : Chg [] w w.drew := (Chg.refl [] w).drew
  have HW := Lib.hid (waiting_none w.drew (kd.heap h (by simp)))
  have HV := Lib.hid (vset_any w.drew (hV.keep kd (Av.nil _ _)) (hS.keep0 kd) hn)
  have hS2 : ∀ wx, Chg [] w wx → wx.cell? ⟨M, 0, none⟩ = some (.pointer (some ⟨X, 0, none⟩)) ∧ wx.cell? ⟨T, 3, none⟩ = some (.int .i64 t) ∧ wx.cell? ⟨T, 4, none⟩ = some (.pointer (some ⟨W, 0, none⟩)) ∧ wx.cell? ⟨T, 5, none⟩ = some (.pointer (some ⟨Q, 0, none⟩)) :=
    fun wx k => ⟨k.cell m0 (by simp), k.cell t3 (by simp), k.cell t4 (by simp), k.cell t5 (by simp)⟩
  have HS2 := Lib.hid hS2
  have HBf := Lib.hid hb
  have HD := Lib.hid hD
  have HK := Lib.hid hk
  have HVr := Lib.hid hv
  have HOl := Lib.hid ho
  clear h hT hb hD hk hV hS hv ho hS2
  go_enter Tryz.func119, Tryz.ntmps119
  go_upto_region 3 with fail
  go_region_held3 (fun wx => wx.cell? ⟨M, 0, none⟩ = some (.pointer (some ⟨X, 0, none⟩)) ∧ wx.cell? ⟨T, 3, none⟩ = some (.int .i64 t) ∧ wx.cell? ⟨T, 4, none⟩ = some (.pointer (some ⟨W, 0, none⟩)) ∧ wx.cell? ⟨T, 5, none⟩ = some (.pointer (some ⟨Q, 0, none⟩)))
    (first
      | (with_reducible exact HS2.out _ kF) | (with_reducible exact HS2.out _ k3) | (with_reducible exact HS2.out _ k2) | (exact HS2.out _ kd))
    (first
      | (go_at_call 120; refine HW.out.mono ?_; rintro e w1 ⟨rfl, rfl⟩)
      | (go_at_call 166; refine HV.out.mono ?_; rintro e w2 ⟨U, loU, rfl, k2', hU, lU⟩; have k2 := kd.then k2')
      | (go_at_call 167; refine (bset_any w2 (HBf.out.keep k2 (by simp) (by simp)) (HD.out.keep k2) HK.out hl).mono ?_; rintro e w3 ⟨U2, loU2, most, rfl, k3', hU2, lU2⟩; have k3 := k2.then k3'; have hU3 := hU.keep0 k3')
      | (go_at_call 165; refine (check_old w3 (HVr.out.keep k3) HOl.out hU3 hU2 (by omega) (by omega)).mono ?_; rintro e w4 ⟨rfl, k4⟩; have kF := k3.then k4))
  all_goals
    have m84 := kF.cell m8 (by simp)
    have hng : ¬ (given ≥ 1099511627776) := by omega
    clear HW HV HS2 HBf HD HK HVr HOl hU hU2 hU3
    go_wp2_with fail
    go_ret
    exact ⟨rfl, kF⟩
set_option maxRecDepth 100000 in
set_option maxHeartbeats 4000000 in
theorem tcommit_old (w : World) {d : Ids} {p : Par} {cq n base loq : Nat} {pq : Option Addr} {out num bas last given : Int} {L : List (Int × Value)} {D : Int → List UInt8}
    (hN : Need w d p) (hv0 : OldV p.Lv p.vs p.t) (h : MgrG w d.M d.X d.B d.r (.slice pq 0 cq) out num bas last given false) (hg0 : 0 ≤ given) (hg : given < 1099511627776) (hq : w.ownsRow loq 3 1 (.slice pq 0 cq) 0 []) (hlq : loq ≤ w.heap.size) (hT : TxT w d.T d.W d.Q p.t) (hb : BufAt w d.W d.rw L) (hD : BufD w L D) (hk : ∀ x ∈ L, 0 ≤ x.1 ∧ x.1 < 258) (hl : L.length ≤ 12) (hl0 : 0 < L.length)
    (hV : VwT w base d.Q d.X d.W d.V p.t n) (hS : SpV w base d.V n) (hn : n ≤ 12) : Calls Tryz.prog 64 #[.pointer (some ⟨d.M, 0, none⟩), .int .i64 p.h] w fun e w' =>
    ∃ g c, e = .returned (.int .i64 0) ∧ Chg (d.M :: d.T :: (Value.slice pq 0 cq).ownBlock.toList) w w' ∧ MgrG w' d.M d.X d.B d.r (.slice (some ⟨g, 0, none⟩) 1 c) out num bas last (given + 1) false ∧ w'.ownsRow loq 3 1 (.slice (some ⟨g, 0, none⟩) 1 c) 1 [.int .i64 p.h] ∧ TxW w' d.T d.W d.Q (given + 1) p.t := by
  have HO := Lib.hid (topen_gen w hN hT)
  have t4 : w.cell? ⟨d.T, 4, none⟩ = some (.pointer (some ⟨d.W, 0, none⟩)) := cell_is hT 4 rfl
  have HLn := Lib.hid (blen_any w hb hD hk (by omega))
  have hver := hN.ver
  have HMy := Lib.hid (fun w1 (k : Chg [] w w1) => may_old w1 (k.heap h (by simp)) hg (hver.keep k) hv0 (k.heap hT (by simp)) (hb.keep k (by simp) (by simp)) (hD.keep k) hk hl (hV.keep k (Av.nil _ _)) (hS.keep0 k) hn)
  have hMT : d.M ≠ d.T := heap_ne h hT (by simp)
  have HM := Lib.hid h
  have HT := Lib.hid hT
  have HQ := Lib.hid hq
  have hl0i : ¬ (L.length : Int) = 0 := by omega
  have HL0 := Lib.hid hl0i
  clear hN hb hD hV hS hver h hT hq
  go_enter Tryz.func64, Tryz.ntmps64
  go_wp2_with fail
  refine HO.out.mono ?_
  rintro e w1 ⟨rfl, rfl⟩
  go_wp2_with fail
  refine HLn.out.mono ?_
  rintro e w1 ⟨rfl, k1⟩
  go_wp2_with fail
  refine (HMy.out w1 k1).mono ?_
  rintro e w2 ⟨rfl, k2'⟩
  have k2 := k1.then k2'
  have hM2 := k2.heap HM.out (by simp)
  have hT2 := k2.heap HT.out (by simp)
  have hq2 := ownsRow_av HQ.out k2 (Av.nil _ _)
  have hs2 := k2.size
  have m8 : w2.cell? ⟨d.M, 8, none⟩ = some (.int .i64 given) := cell_is hM2 8 rfl
  have f8 := unfrozen hM2 8
  have m3 : w2.cell? ⟨d.M, 3, none⟩ = some (.slice pq 0 cq) := cell_is hM2 3 rfl
  have f3 := unfrozen hM2 3
  have t0 : w2.cell? ⟨d.T, 0, none⟩ = some (.int .i64 1) := cell_is hT2 0 rfl
  have t1 : w2.cell? ⟨d.T, 1, none⟩ = some (.int .i64 0) := cell_is hT2 1 rfl
  have ft0 := unfrozen hT2 0
  have ft1 := unfrozen hT2 1
  have hgw : wrap64 (given + 1) = given + 1 := by unfold wrap64; omega
  have kS := ((((Chg.refl [] w2).mono (T := [d.M, d.T]) (fun x hx _ => by cases hx)).then_set (g := d.M) (fun _ => by simp) 8 (.int .i64 (given + 1))).then_set (g := d.T) (fun _ => by simp) 0 (.int .i64 2)).then_set (g := d.T) (fun _ => by simp) 1 (.int .i64 (given + 1))
  have hMS : MgrG (((w2.setCell ⟨d.M, 8, none⟩ (.int .i64 (given + 1))).setCell ⟨d.T, 0, none⟩ (.int .i64 2)).setCell ⟨d.T, 1, none⟩ (.int .i64 (given + 1))) d.M d.X d.B d.r (.slice pq 0 cq) out num bas last (given + 1) false :=
    heap_set_ne (heap_set_ne (heap_set hM2 8 _ rfl) hMT _ _) hMT _ _
  have hTS : TxW (((w2.setCell ⟨d.M, 8, none⟩ (.int .i64 (given + 1))).setCell ⟨d.T, 0, none⟩ (.int .i64 2)).setCell ⟨d.T, 1, none⟩ (.int .i64 (given + 1))) d.T d.W d.Q (given + 1) p.t :=
    heap_set (heap_set (heap_set_ne hT2 hMT.symm _ _) 0 _ rfl) 1 _ rfl
  have avS : Av w2 [d.M, d.T] [3] := fun x hx cs t fr hh => by
    simp at hx
    rcases hx with rfl | rfl
    · rw [show w2.heap[d.M]? = _ from hM2] at hh; cases hh; simp
    · rw [show w2.heap[d.T]? = _ from hT2] at hh; cases hh; simp
  have hqS := ownsRow_av hq2 kS avS
  clear HMy HLn HO k1 k2' t4
  go_upto_region 14 with fail
  have hsS : loq ≤ (((w2.setCell ⟨d.M, 8, none⟩ (.int .i64 (given + 1))).setCell ⟨d.T, 0, none⟩ (.int .i64 2)).setCell ⟨d.T, 1, none⟩ (.int .i64 (given + 1))).heap.size := by have := kS.size; omega
  clear m8 f8 m3 f3 t0 t1 ft0 ft1 avS hq2
  generalize ((w2.setCell ⟨d.M, 8, none⟩ (.int .i64 (given + 1))).setCell ⟨d.T, 0, none⟩ (.int .i64 2)).setCell ⟨d.T, 1, none⟩ (.int .i64 (given + 1)) = wS at *
  have m3 : wS.cell? ⟨d.M, 3, none⟩ = some (.slice pq 0 cq) := cell_is hMS 3 rfl
  go_wp2_with (at_builtin; refine wpList_append_lit rfl (.tmp 59) (.tmp 61) 22 3 rfl ty62 inf3 rfl (by decide) loq wS [.int .i64 p.h] 1 rfl (.slice pq 0 cq) 0 [] rfl hqS (by omega) (by decide) hsS (k := 0) rfl (by simp [Value.oneCell']) rfl 1 rfl ?_; intro v' w4 hap; obtain ⟨g4, c4, rfl⟩ := own_some hap.1 (by decide); have k4 : Chg (Value.slice pq 0 cq).ownBlock.toList wS w4 := Chg.own hap.2.2 (fun g hg _ => by have hg2 : (Value.slice pq 0 cq).ownBlock = some g := hg; simp [hg2]); have hM4 := k4.heap hMS (own_block_ne hqS hMS (by decide)); have m34 := cell_is hM4 3 rfl; have f34 := unfrozen hM4 3)
  have hT4 := k4.heap hTS (own_block_ne hqS hTS (by decide))
  have hset := Chg.set w4 d.M 3 (.slice (some ⟨g4, 0, none⟩) (0 + 1) c4)
  have hq4 := ownsRow_av hap.1 hset (Av.row hM4 (by decide))
  go_ret
  refine ⟨g4, c4, rfl, ?_, heap_set hM4 3 _ rfl, hq4, heap_set_ne hT4 hMT.symm _ _⟩
  refine (((k2.mono (fun x hx _ => by cases hx)).then (kS.mono ?_)).then (k4.mono ?_)).then (hset.mono ?_)
  · intro x hx _; simp only [List.mem_cons, List.not_mem_nil, or_false] at hx; rcases hx with rfl | rfl <;> simp
  · intro x hx _; exact List.mem_cons_of_mem _ (List.mem_cons_of_mem _ hx)
  · intro x hx _; rw [List.mem_singleton] at hx; subst hx; exact List.mem_cons_self
end Go.Proofs.YtkhionhicegfmaaGreat
namespace Go.Proofs.YtkhionhicegfmaaGreat
open Go.RowKit Go.Lib

/-- the manager behind a Begin. -/
def begS (s : Gs) (T : Nat) : Gs := { s with bl := s.bl + 1, Lb := [(s.bl + 1, .int .i64 s.last)], Lr := putL s.Lr (s.bl + 1) (.pointer (some ⟨T, 0, none⟩)) }
/-- a transaction that has begun. -/
def begP (s : Gs) : Par := ⟨s.bl + 1, s.last, s.lo, s.lastv, s.Lv, s.vs⟩
/-- a store about its transaction. -/
def StoF (lw : Nat) (d : Ids) (s : Gs) (g : Gd) (w : World) : Prop := Sto w lw d s g
theorem fr_sto {lw base : Nat} {d : Ids} {s : Gs} {g : Gd} {p : Par} (hl : d.rx < base ∧ d.rb < base ∧ d.r < base) (hg : getL s.Lr p.h = some (.pointer (some ⟨d.T, 0, none⟩))) (e1 : p.lo = s.lo) (e2 : p.last = s.lastv) (e3 : p.Lv = s.Lv) (e4 : p.vs = s.vs) : Fr base d p (StoF lw d s g) := by
  refine ⟨fun w h => ?_, fun a b ho h => ?_⟩
  · have h' : Sto w lw d s g := h
    exact ⟨cell_is h'.store 0 rfl, cell_is h'.store 5 rfl, cell_is h'.store 9 rfl, ⟨_, h'.dev.hdr⟩, h'.mx.cells.1, h'.mx.cells.2.2.1, ⟨_, h'.mx.map, hg⟩, by rw [e1, e2, e3, e4]; exact h'.mx.ver⟩
  · have h' : Sto a lw d s g := h
    obtain ⟨T, h1, h2⟩ := ho
    refine h'.keepA h1 (fun x hx cs t fr hh ht => ?_) (fun hm => ?_) (fun hm => ?_) (fun hm => ?_)
    · rcases (h2 x hx).2 cs t fr hh with rfl | rfl | rfl <;> simp at ht
    · have := (h2 _ hm).1; omega
    · have := (h2 _ hm).1; omega
    · have := (h2 _ hm).1; omega
/-- what a store's Begin leaves. -/
def BegT (w w' : World) (lw : Nat) (d : Ids) (s : Gs) (g : Gd) : Prop := ∃ T W rw Q V, Cs lw w w' ∧ w.heap.size ≤ T ∧
  Su w' w.heap.size { d with T := T, W := W, rw := rw, Q := Q, V := V } (begP s) (StoF lw { d with T := T, W := W, rw := rw, Q := Q, V := V } (begS s T) g) (fun b => bytT (s.vs b) s.last) [] 0
set_option maxRecDepth 100000 in
theorem sbegin_gen (w : World) {lw : Nat} {d : Ids} {s : Gs} {g : Gd} (h : Sto w lw d s g) (hLb : s.Lb = []) (h0 : 0 ≤ s.last) (h1 : s.last ≤ 1099511627776) (hb0 : 0 ≤ s.bl) (hb1 : s.bl ≤ 1000000) :
    Calls Tryz.prog 16 #[.pointer (some ⟨d.P, 0, none⟩)] w fun e w' => e = .returned (.tuple #[.int .i64 (s.bl + 1), .int .i64 0]) ∧ BegT w w' lw d s g := by
  have HD := Lib.hid (dead_g w h.store)
  have p5 : w.cell? ⟨d.P, 5, none⟩ = some (.pointer (some ⟨d.M, 0, none⟩)) := cell_is h.store 5 rfl
  have HB := Lib.hid (tbegin_gen w h.mx hLb h0 h1 hb0 hb1)
  have HS := Lib.hid h
  clear h hLb h0 h1 hb0 hb1
  go_enter Tryz.func16, Tryz.ntmps16
  go_wp2_with fail
  refine HD.out.mono ?_
  rintro e w1 ⟨rfl, rfl⟩
  go_wp2_with fail
  refine HB.out.mono ?_
  rintro e w1 ⟨rfl, T, W, rw, Q, V, k1, hx, hT, hb, hv, hs, n1, n2, n3, b1, b2, b3, b4, b5⟩
  have hF : BegT w w1 lw d s g := by
    have hS := HS.out
    have avB : Av w [d.B, d.rb, d.r] [105, 166, 5, 93, 94, 97, 40] := fun x hx cs t fr hh => by
      simp at hx
      rcases hx with rfl | rfl | rfl
      · rw [hS.mx.book.1] at hh; cases hh; simp
      · exact absurd rfl (map_cells hS.mx.book.2 hh)
      · exact absurd rfl (map_cells hS.mx.map hh)
    have sub : ∀ ts : List Nat, (∀ t ∈ ts, t ∈ [105, 166, 5, 93, 94, 97, 40]) → Av w [d.B, d.rb, d.r] ts := fun ts hts x hx cs t fr hh ht => avB x hx cs t fr hh (hts t ht)
    have hSto : Sto w1 lw { d with T := T, W := W, rw := rw, Q := Q, V := V } (begS s T) g :=
      ⟨k1.heap hS.store (avB.ne hS.store (by simp)), k1.heap hS.slot (avB.ne hS.slot (by simp)), hS.text.keep k1 (sub _ (by decide)), hS.dev.keep k1 (sub _ (by decide)), hx, hS.ap, hS.keys, hS.bnd, hS.bndZ, Nat.le_trans hS.slo k1.size, hS.dlo⟩
    refine ⟨T, W, rw, Q, V, ⟨[d.B, d.rb, d.r], k1, fun x hx _ => ?_⟩, b1, hSto, hT, hb, (fun x hx => by cases hx), fun b _ _ => Or.inl ⟨rfl, rfl⟩, ⟨_, 0, [], hv, Nat.le_refl _, World.ownsRow_nil _ _ _ _⟩, ⟨_, [], hs, Nat.le_refl _, World.ownsRow_nil _ _ _ _⟩, b4, b5, b3⟩
    have hbn := hS.bnd
    simp at hx
    rcases hx with rfl | rfl | rfl
    · exact ⟨by omega, fun cs t fr hh => by rw [hS.mx.book.1] at hh; cases hh; simp⟩
    · exact ⟨by omega, fun cs t fr hh => absurd rfl (map_cells hS.mx.book.2 hh)⟩
    · exact ⟨by omega, fun cs t fr hh => absurd rfl (map_cells hS.mx.map hh)⟩
  have HF := Lib.hid hF
  clear hF hx hT hb hv hs k1 b1 b2 b3 b4 b5 n1 n2 n3
  go_wp2_with fail
  go_ret2
  exact ⟨rfl, HF.out⟩
/-- a buffer's entries are what its transaction sees. -/
theorem Su.bufD {w : World} {base : Nat} {d : Ids} {p : Par} {F : World → Prop} {q : Int → List UInt8} {L : List (Int × Value)} {n : Nat} (h : Su w base d p F q L n) : BufD w L q := by
  intro k v hv
  have hk := h.keys (k, v) (getL_memk hv)
  rcases h.blk k hk.1 hk.2 with ⟨e, -⟩ | ⟨g, c, e, h1, h2, h3⟩
  · rw [e] at hv; cases hv
  · rw [e] at hv
    cases hv
    exact ⟨g, c, rfl, h1, h2, h3⟩
/-- the manager behind a Commit. -/
def comS (s : Gs) (g c : Nat) : Gs := { s with qv := .slice (some ⟨g, 0, none⟩) 1 c, given := s.given + 1 }
/-- what a Commit leaves. -/
def ComR (w w' : World) (lw : Nat) (d : Ids) (s : Gs) (g : Gd) (p : Par) (L : List (Int × Value)) (q : Int → List UInt8) (k : Nat) : Prop :=
  ∃ gq cq, Sto w' lw d (comS s gq cq) g ∧ Wtx w' d (comS s gq cq) gq cq p.h k p.t p.t L q ∧ Cs lw w w'
set_option maxRecDepth 100000 in
theorem scommit_sto (w : World) {lw base loq n k : Nat} {d : Ids} {s : Gs} {g : Gd} {p : Par} {q : Int → List UInt8} {L : List (Int × Value)} {pq : Option Addr} {cq : Nat} (hf : Fr base d p (StoF lw d s g)) (h : Su w base d p (StoF lw d s g) q L n) (hqv : s.qv = .slice pq 0 cq) (hq : w.ownsRow loq 3 1 (.slice pq 0 cq) 0 []) (hlq : loq ≤ w.heap.size) (hlw : lw ≤ loq)
    (hrd : s.rd = false) (ho : OldV p.Lv p.vs p.t) (hg : s.given + 1 = (k : Nat)) (hg1 : s.given < 1099511627776) (hg0 : 0 ≤ s.given) (hl : L.length ≤ 12) (hl0 : 0 < L.length) (hn : n ≤ 12) (htab : getL s.Lr p.h = some (.pointer (some ⟨d.T, 0, none⟩))) (hbook : getL s.Lb p.h = some (.int .i64 p.t)) (hT : lw ≤ d.T) :
    Calls Tryz.prog 19 #[.pointer (some ⟨d.P, 0, none⟩), .int .i64 p.h] w fun e w' => e = .returned (.int .i64 0) ∧ ComR w w' lw d s g p L q k := by
  have hS : Sto w lw d s g := h.env
  have hN := hf.need w h.env
  have hm := hS.mx.mgr
  rw [hqv, hrd] at hm
  refine scommit_one w hN ((tcommit_old w hN ho hm hg0 hg1 hq hlq h.tx h.buf h.bufD h.keys hl hl0 h.vw h.sp hn).mono ?_)
  rintro e w' ⟨gq, c, rfl, k1, hm', ho', hT'⟩
  refine ⟨rfl, gq, c, ?_⟩
  have tp : Tp w (d.M :: d.T :: (Value.slice pq 0 cq).ownBlock.toList) [189, 202, 3] := fun x hx => by
    simp only [List.mem_cons] at hx
    rcases hx with rfl | rfl | hx
    · exact ⟨_, _, hm, by simp⟩
    · exact ⟨_, _, h.tx, by simp⟩
    · obtain ⟨-, cs, hh⟩ := own_elem hq (show (Value.slice pq 0 cq).ownBlock = some x by simpa using hx)
      exact ⟨_, _, hh, by simp⟩
  have hbn := hS.bnd
  refine ⟨⟨k1.heap hS.store ((tp.av (ts' := [105]) (by decide)).ne hS.store (by simp)), k1.heap hS.slot ((tp.av (ts' := [166]) (by decide)).ne hS.slot (by simp)), hS.text.keep k1 (tp.av (by decide)), hS.dev.keep k1 (tp.av (by decide)),
    ⟨by show MgrG w' d.M d.X d.B d.r (.slice (some ⟨gq, 0, none⟩) 1 c) s.out s.num s.bas s.last (s.given + 1) s.rd; rw [hrd]; exact hm', hS.mx.ver.keepA k1 (tp.av (by decide)) (tp.map hS.mx.ver.m), ⟨k1.heap hS.mx.book.1 ((tp.av (ts' := [256]) (by decide)).ne hS.mx.book.1 (by simp)), hS.mx.book.2.keep k1 (tp.map hS.mx.book.2)⟩, hS.mx.map.keep k1 (tp.map hS.mx.map), hS.mx.n1, hS.mx.n2, hS.mx.n3⟩, hS.ap, hS.keys, hS.bnd, hS.bndZ, Nat.le_trans hS.slo k1.size, hS.dlo⟩, ?_, Cs.of_tp k1 tp (by decide) (fun x hx => ?_)⟩
  · refine ⟨rfl, ?_, ?_, htab, by rw [← hg]; exact hT', h.buf.keep k1 ((tp.av (ts' := [266]) (by decide)).ne h.buf.1 (by simp)) (tp.map h.buf.2), h.bufD.keepA k1 (tp.av (by decide)), h.keys, hl0, by omega, hbook⟩
    · obtain ⟨pz, cz', e, hle⟩ := own_form ho'
      cases e
      omega
    · rcases ho'.2 with ⟨e, h0⟩ | ⟨g', cap', cur', e, -, hh, -, -, -, ht⟩
      · omega
      · cases e
        refine ⟨_, hh, ?_⟩
        have := congrArg (fun l => l[0]?) ht
        simpa [List.getElem?_take] using this
  · simp only [List.mem_cons] at hx
    rcases hx with rfl | rfl | hx
    · omega
    · exact hT
    · have := (own_elem hq (show (Value.slice pq 0 cq).ownBlock = some x by simpa using hx)).1
      omega
end Go.Proofs.YtkhionhicegfmaaGreat
namespace Go.Proofs.YtkhionhicegfmaaGreat
open Go.RowKit Go.Lib

/-- a manager without transactions. -/
def s00 (lw : Nat) : Gs := ⟨.slice none 0 0, 0, 0, 0, 0, 0, false, lw, 0, [], fun _ => [], 0, [], []⟩
/-- an empty log on an empty device. -/
def g00 (lw : Nat) (ops : Int) : Gd := ⟨0, 0, 1, .slice none 0 0, 0, lw, ops, fun _ => .slice none 0 0, fun _ => 0, fun _ => []⟩
/-- the parts' places, without a transaction. -/
def d00 (N A c : Nat) (Z : List Nat) (P S M X rx B rb r : Nat) : Ids := ⟨P, N, S, M, X, rx, B, rb, r, A, c, Z, 0, 0, 0, 0, 0⟩
theorem Mk.sto {w wx : World} {lw N A c : Nat} {ops : Int} {Z : List Nat} {P S M X rx B rb r : Nat} (h : Mk w wx N A c ops Z P S M X rx B rb r) (hx : ExAt wx S N A Z) (n1 : rx ≠ rb) (n2 : r ≠ rb) (n3 : r ≠ rx) (hb : lw ≤ P ∧ lw ≤ N ∧ lw ≤ S ∧ lw ≤ M ∧ lw ≤ X ∧ lw ≤ rx ∧ lw ≤ B ∧ lw ≤ rb ∧ lw ≤ r) (hZ : ∀ z ∈ Z, lw ≤ z) (hl : lw ≤ wx.heap.size) :
    Sto wx lw (d00 N A c Z P S M X rx B rb r) (s00 lw) (g00 lw ops) := by
  obtain ⟨k2, hD2, hP2, hS2, hm2, hx2, hb2, hr2⟩ := h
  exact ⟨hP2, hS2, Or.inl rfl, hD2.full hx lw, ⟨hm2, hx2.full lw, hb2, hr2, n1, n2, n3⟩, fun b c v u g _ h => (by cases h), fun p hp => (by cases hp), ⟨hb.1, hb.2.1, hb.2.2.1, hb.2.2.2.1, hb.2.2.2.2.1, hb.2.2.2.2.2.1, hb.2.2.2.2.2.2.1, hb.2.2.2.2.2.2.2.1, hb.2.2.2.2.2.2.2.2, Nat.le_refl _, Nat.le_refl _⟩, hZ, hl, hb.2.1⟩
/-- a transaction's state is kept where other blocks change. -/
theorem Su.keepA {w w' : World} {U : List Nat} {base : Nat} {d : Ids} {p : Par} {F : World → Prop} {q : Int → List UInt8} {L : List (Int × Value)} {n : Nat} (h : Su w base d p F q L n) (hc : Chg U w w') (hU : Av w U [202, 266, 270, 241, 285, 296, 5]) (hr : d.rw ∉ U) (hF : F w') : Su w' base d p F q L n := by
  have sub : ∀ ts : List Nat, (∀ t ∈ ts, t ∈ [202, 266, 270, 241, 285, 296, 5]) → Av w U ts := fun ts hts x hx cs t fr hh ht => hU x hx cs t fr hh (hts t ht)
  refine ⟨hF, hc.heap h.tx (hU.ne h.tx (by simp)), h.buf.keep hc (hU.ne h.buf.1 (by simp)) hr, h.keys, fun b h0 h1 => ?_, h.vw.keep hc (sub _ (by decide)), h.sp.keep hc (sub _ (by decide)), h.high⟩
  rcases h.blk b h0 h1 with e | ⟨g, c, e1, e2, e3, e4⟩
  · exact Or.inl e
  · have hn : g ∉ U := Bt.av e4 hU (by simp)
    exact Or.inr ⟨g, c, e1, e2.chgT hc hn, e3, Bt.keep e4 hc hn⟩
end Go.Proofs.YtkhionhicegfmaaGreat
namespace Go.Proofs.YtkhionhicegfmaaGreat
open Go.RowKit Go.Lib

set_option maxRecDepth 100000 in
theorem least24 (w : World) : Calls Tryz.prog 12 #[] w fun e w' => e = .returned (.agg #[.int .i64 8, .int .i64 96]) ∧ Chg [] w w' := by
  have k1 : Chg [] w (w.alloc (.cells #[.int .i64 8, .int .i64 96] 29)) := Chg.alloc w _
  have y1 := heap_new w (.cells #[.int .i64 8, .int .i64 96] 29)
  have c0 := cell_is y1 0 rfl
  have c1 := cell_is y1 1 rfl
  go_enter Tryz.func12, Tryz.ntmps12
  go_wp2_with fail
  refine bodyPost_ret (v := .agg #[.int .i64 8, .int .i64 96]) (by simp [results, Tryz.results12, go_sem]) rfl ?_
  exact ⟨rfl, k1⟩
/-- a new world of law 24: block K, its store, all of it new. -/
def Fr24 (w : World) (e : Ending) (w' : World) : Prop :=
  ∃ K G d ops, e = .returned (.tuple #[.pointer (some ⟨K, 0, none⟩), .bool true]) ∧ Chg [] w w' ∧ w'.heap[K]? = some (.cells #[.pointer (some ⟨d.N, 0, none⟩), .pointer (some ⟨d.P, 0, none⟩), .pointer (some ⟨G, 0, none⟩), .int .i64 0] 56 (0, 0)) ∧
    Sto w' w.heap.size d (s00 w.heap.size) (g00 w.heap.size ops) ∧ (0 ≤ ops ∧ ops ≤ 2)
set_option maxRecDepth 100000 in
set_option maxHeartbeats 4000000 in
theorem fresh24 (w : World) : Calls Tryz.prog 25 #[.agg #[.int .i64 8, .int .i64 96]] w (Fr24 w) := by
  have kg : Chg [] w (w.alloc (.cells #[.int .i64 8, .int .i64 96] 29)) := Chg.alloc w _
  have g0 := heap_new w (.cells #[.int .i64 8, .int .i64 96] 29)
  have a0 : (w.alloc (.cells #[.int .i64 8, .int .i64 96] 29)).cell? ⟨w.heap.size, 0, none⟩ = some (.int .i64 8) := cell_is g0 0 rfl
  have a1 : (w.alloc (.cells #[.int .i64 8, .int .i64 96] 29)).cell? ⟨w.heap.size, 1, none⟩ = some (.int .i64 96) := cell_is g0 1 rfl
  go_enter Tryz.func25, Tryz.ntmps25
  go_wp2_with fail
  generalize w.alloc (.cells #[.int .i64 8, .int .i64 96] 29) = w0 at *
  have hw0 := kg.size
  generalize hz0 : w.heap.size = z0 at *
  refine (new_any2 w0).mono ?_
  rintro e w1 ⟨N, A, c, Z, rfl, k1, hD, hO, lN, lA, lZ, hAx, hZn⟩
  have g1 := k1.heap g0 (by simp)
  have hs1 := k1.size
  have hAl := hD.A_lt
  have hNl := heap_lt hD.1
  have hZl : ∀ z ∈ Z, z < w1.heap.size := fun z hz => by
    obtain ⟨j, hj, e⟩ := List.getElem_of_mem hz
    rw [← e]
    exact heap_lt (hD.2.2.2.2 j hj)
  clear a0 a1
  go_wp2_with fail
  refine (mount_any w1 hD hO hZl (by omega) (by omega)).mono ?_
  rintro e w2 ⟨P, S, M, X, rx, B, rb, r, rfl, hM, lP, lS, lM, lX, lrx, lB, lrb, lr, n1, n2, n3⟩
  have h0l := heap_lt g0
  have k2 := hM.1
  have hX2 : ExAt w2 S N A Z := by
    obtain ⟨cs, hAx⟩ := hAx
    exact ⟨hM.2.2.2.1, ⟨cs, k2.heap hAx (by intro hm; rcases List.mem_cons.1 hm with e | hm; exact hO.1 e; exact hO.2.2 hm)⟩, hZn⟩
  have g2 := k2.heap g1 (by
    intro hm
    rcases List.mem_cons.1 hm with e | hm
    · omega
    · have := lZ _ hm; omega)
  have hs2 := k2.size
  have b0 : w2.cell? ⟨z0, 0, none⟩ = some (.int .i64 8) := cell_is g2 0 rfl
  have b1 : w2.cell? ⟨z0, 1, none⟩ = some (.int .i64 96) := cell_is g2 1 rfl
  have hSt := hM.sto (lw := z0) hX2 n1 n2 n3 (by omega) (fun z hz => by have := lZ z hz; omega) (by omega)
  have kk2 : Chg [] w w2 := (kg.then k1).trans k2 (fun x hx hlt => by
    rcases List.mem_cons.1 hx with e | hx
    · have := kg.size; omega
    · have := lZ x hx; have := kg.size; omega)
  have HM := Lib.hid hM
  clear hD hO hM hX2 k2 g1 g0 k1 kg
  go_wp2_with fail
  refine (rcap_min w2).mono ?_
  rintro e w3 ⟨rfl, k3⟩
  have h3 := hSt.keep k3
  have kk3 := kk2.then k3
  clear b0 b1
  go_wp2_with fail
  refine (rm_new w3).mono ?_
  rintro e w4 ⟨G, Y, rfl, k4, -, lG⟩
  have h4 := h3.keep k4
  have kk4 := kk3.then k4
  have g4 := (k3.then k4).heap g2 (by simp)
  have HM4 := Lib.hid (HM.out.keep (k3.then k4))
  have H4 := Lib.hid (And.intro kk4 h4)
  have b0 : w4.cell? ⟨z0, 0, none⟩ = some (.int .i64 8) := cell_is g4 0 rfl
  have b1 : w4.cell? ⟨z0, 1, none⟩ = some (.int .i64 96) := cell_is g4 1 rfl
  clear h3 h4 hSt kk3 kk2 kk4 k3 k4 g2 HM
  have kk : Chg [] w4 w4 := Chg.refl _ _
  have hh : ∀ wx, Chg [] w4 wx → Chg [] w4 wx ∧ wx.cell? ⟨z0, 0, none⟩ = some (.int .i64 8) ∧ wx.cell? ⟨z0, 1, none⟩ = some (.int .i64 96) := fun wx k => ⟨k, k.cell b0 (by simp), k.cell b1 (by simp)⟩
  have hBl : ∀ wx, Chg [] w4 wx → Calls Tryz.prog 29 #[.pointer (some ⟨P, 0, none⟩)] wx fun e w' => e = .returned (.int .i64 258) ∧ Chg [] wx w' := fun wx k => by
    have h := HM4.out.keep k
    exact sblocks_any wx h.2.2.1 h.2.1
  have HBl := Lib.hid hBl
  have hfin : ∀ K wx, Chg [] w4 wx → wx.heap[K]? = some (.cells #[.pointer (some ⟨N, 0, none⟩), .pointer (some ⟨P, 0, none⟩), .pointer (some ⟨G, 0, none⟩), .int .i64 0] 56 (0, 0)) → Fr24 w (.returned (.tuple #[.pointer (some ⟨K, 0, none⟩), .bool true])) wx := fun K wx k y =>
    ⟨K, G, d00 N A c Z P S M X rx B rb r, 0 + 1, rfl, H4.out.1.then k, y, by rw [hz0]; exact H4.out.2.keep k, by omega⟩
  have HFin := Lib.hid hfin
  have HH := Lib.hid hh
  clear hBl hh hfin
  go_wp2_with fail
  go_region_held3 (fun wx => Chg [] w4 wx ∧ wx.cell? ⟨z0, 0, none⟩ = some (.int .i64 8) ∧ wx.cell? ⟨z0, 1, none⟩ = some (.int .i64 96))
    (first
      | (exact HH.out _ kk)
      | (exact HH.out _ kk.drew)
      | (exact HH.out _ (kk.then_alloc _))
      | (exact HH.out _ (kk.drew.then_alloc _)))
    (first
      | (go_at_call 29; refine (HBl.out _ (by first | exact kk | exact kk.drew | exact kk.then_alloc _ | exact kk.drew.then_alloc _)).mono ?_; rintro e wb ⟨rfl, kb⟩; replace kk : Chg [] w4 wb := (by first | exact kk.then kb | exact kk.drew.then kb | exact (kk.then_alloc _).then kb | exact (kk.drew.then_alloc _).then kb))
      | (go_at_call 79; refine (rcap_min _).mono ?_; rintro e wc ⟨rfl, kc⟩; replace kk : Chg [] w4 wc := (by first | exact kk.then kc | exact kk.drew.then kc | exact (kk.then_alloc _).then kc | exact (kk.drew.then_alloc _).then kc)))
  all_goals
    have HK := Lib.hid (And.intro kb (And.intro kc kk))
    clear kb kc kk
    go_wp2_with fail
    go_ret2
    first
      | (exact HFin.out _ _ HK.out.2.2 ((HK.out.1.then HK.out.2.1).heap (heap_new w4 _) (by simp)))
      | (exact HFin.out _ _ HK.out.2.2 (HK.out.2.1.heap (heap_new wb _) (by simp)))
      | (exact HFin.out _ _ (HK.out.2.2.then_alloc _) (heap_new wc _))
      | (exact HFin.out _ _ (HK.out.2.2.drew.then_alloc _) (heap_new wc _))
end Go.Proofs.YtkhionhicegfmaaGreat
