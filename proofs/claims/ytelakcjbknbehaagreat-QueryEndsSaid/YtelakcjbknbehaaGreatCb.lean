/- Lemmas and walks: Walks: horizon.Low 141 where one handle is open, txn.Prune 64, store.Clean 22 beside it. Walks: store.Commit and Flush once more, told which old blocks change. Printed by mkHk.py out of Yj and Ki. Walks: a transaction begins beside others. Printed by mkMi.py out of Ua. A store with a reader open: another transaction begins, writes one block, commits; checkpoint, flush, clean; the reader's blocks stay. Walks: scarpalike.Block 18, forty bytes that hang on a number. A reader's questions beside others; what fresh leaves is a store with a reader. Walk: QuerySnaps 4, for any arguments. Questions of cells: what they leave as it is. Walks: query.Most 12, Least 29, Mean 28, Quantile 30. Plain: what QueryEnds asks of its numbers; what a quantile of whole numbers is. Walk: QueryEnds 6, for any arguments. -/
import Derived.Deep.CutBlock
import Derived.Test.YtelakcjbknbehaaGreatAd
import Derived.Test.YtelakcjbknbehaaGreatAg
import Derived.Test.YtelakcjbknbehaaGreatAj
import Derived.Test.YtelakcjbknbehaaGreatAl
import Derived.Test.YtelakcjbknbehaaGreatAm
import Derived.Test.YtelakcjbknbehaaGreatAo
import Derived.Test.YtelakcjbknbehaaGreatCa
namespace Go.Proofs.YtelakcjbknbehaaGreat
open Go.RowKit Go.Lib Go.Maps Go.Shelf

end Go.Proofs.YtelakcjbknbehaaGreat
namespace Go.Proofs.YtelakcjbknbehaaGreat
open Go.RowKit Go.Lib

/-- the old blocks that a Flush changes. -/
def FlX (d : Ids) (w w' : World) : Prop := ∃ U, Chg U w w' ∧ ∀ x ∈ U, x < w.heap.size → x = d.M ∨ x = d.T ∨ x = d.rb ∨ x = d.X ∨ x = d.rx ∨ ∃ cs t, w.heap[x]? = some (.cells cs t (0, 0)) ∧ t ∈ [288, 102, 128, 132, 47]
theorem FlX.of_chg {d : Ids} {w w' : World} (h : Chg [] w w') : FlX d w w' := ⟨[], h, fun x hx => by cases hx⟩
theorem FlX.trans {d : Ids} {a b c : World} (h : FlX d a b) (k : FlX d b c) : FlX d a c := by
  obtain ⟨S, h1, h2⟩ := h
  obtain ⟨U, k1, k2⟩ := k
  refine ⟨S ++ U, (h1.mono (fun x hx _ => List.mem_append_left _ hx)).trans k1 (fun x hx _ => List.mem_append_right _ hx), fun x hx hlt => ?_⟩
  by_cases hT : x ∈ S
  · exact h2 x hT hlt
  · rcases List.mem_append.1 hx with hx | hx
    · exact absurd hx hT
    · rcases k2 x hx (Nat.lt_of_lt_of_le hlt h1.size) with e | e | e | e | e | ⟨cs, t, e, ht⟩
      · exact Or.inl e
      · exact Or.inr (Or.inl e)
      · exact Or.inr (Or.inr (Or.inl e))
      · exact Or.inr (Or.inr (Or.inr (Or.inl e)))
      · exact Or.inr (Or.inr (Or.inr (Or.inr (Or.inl e))))
      · exact Or.inr (Or.inr (Or.inr (Or.inr (Or.inr ⟨cs, t, by rw [← h1.block x hlt hT]; exact e, ht⟩))))
theorem FlX.of_tp {d : Ids} {w w' : World} {U : List Nat} (h : Chg U w w') (ht : Tp w U [102, 128, 132, 47]) : FlX d w w' :=
  ⟨U, h, fun x hx _ => by
    obtain ⟨cs, t, e1, e2⟩ := ht x hx
    exact Or.inr (Or.inr (Or.inr (Or.inr (Or.inr ⟨cs, t, e1, List.mem_cons_of_mem _ e2⟩))))⟩
theorem FlX.of_cd {d : Ids} {lo : Nat} {w w' : World} (h : Cd lo d.M d.T d.rb d.X d.rx w w') : FlX d w w' := by
  obtain ⟨U, h1, h2⟩ := h
  refine ⟨U, h1, fun x hx hlt => ?_⟩
  rcases h2 x hx hlt with e | e | e | e | e | ⟨-, cs, e⟩
  · exact Or.inl e
  · exact Or.inr (Or.inl e)
  · exact Or.inr (Or.inr (Or.inl e))
  · exact Or.inr (Or.inr (Or.inr (Or.inl e)))
  · exact Or.inr (Or.inr (Or.inr (Or.inr (Or.inl e))))
  · exact Or.inr (Or.inr (Or.inr (Or.inr (Or.inr ⟨cs, 288, e, by simp⟩))))
end Go.Proofs.YtelakcjbknbehaaGreat
namespace Go.Proofs.YtelakcjbknbehaaGreat
open Go.RowKit Go.Lib Go.Maps Go.Sort Go.Shelf

/-- the manager behind a Begin. -/
def begM (s : Gs) (T : Nat) : Gs := { s with bl := s.bl + 1, Lb := putL s.Lb (s.bl + 1) (.int .i64 s.last), Lr := putL s.Lr (s.bl + 1) (.pointer (some ⟨T, 0, none⟩)) }
end Go.Proofs.YtelakcjbknbehaaGreat
namespace Go.Proofs.YtelakcjbknbehaaGreat
open Go.RowKit Go.Lib

/-- old blocks that change are none of a reader's. -/
def RdK (T rw : Nat) (w w' : World) : Prop := ∃ U, Chg U w w' ∧ ∀ x ∈ U, x < w.heap.size → x ≠ T ∧ x ≠ rw ∧ ∀ cs t fr, w.heap[x]? = some (.cells cs t fr) → t ∉ [267, 274, 305, 79, 255, 33]
theorem RdK.trans {T rw : Nat} {a b c : World} (h : RdK T rw a b) (k : RdK T rw b c) : RdK T rw a c := by
  obtain ⟨S, h1, h2⟩ := h
  obtain ⟨U, k1, k2⟩ := k
  refine ⟨S ++ U, (h1.mono (fun x hx _ => List.mem_append_left _ hx)).trans k1 (fun x hx _ => List.mem_append_right _ hx), fun x hx hlt => ?_⟩
  by_cases hT : x ∈ S
  · exact h2 x hT hlt
  · rcases List.mem_append.1 hx with hx | hx
    · exact absurd hx hT
    · obtain ⟨e1, e2, e3⟩ := k2 x hx (Nat.lt_of_lt_of_le hlt h1.size)
      exact ⟨e1, e2, fun cs t fr hc => e3 cs t fr (by rw [h1.block x hlt hT]; exact hc)⟩
theorem RdK.of_chg {T rw : Nat} {w w' : World} (h : Chg [] w w') : RdK T rw w w' := ⟨[], h, fun x hx => by cases hx⟩
/-- a reader: a transaction of time t that has only read. -/
structure Rdr (w : World) (base X T W rw Q V : Nat) (t : Int) (k : Nat) : Prop where
  tx : TxT w T W Q t
  buf : BufAt w W rw []
  vw : VwT w base Q X W V t k
  sp : SpV w base V k
  high : base ≤ Q ∧ base ≤ V ∧ base ≤ rw
theorem Rdr.keep {w w' : World} {base X T W rw Q V k : Nat} {t : Int} (h : Rdr w base X T W rw Q V t k) (hk : RdK T rw w w') : Rdr w' base X T W rw Q V t k := by
  obtain ⟨U, h1, h2⟩ := hk
  have av : ∀ ts : List Nat, (∀ t ∈ ts, t ∈ [267, 274, 305, 79, 255, 33]) → Av w U ts := fun ts hts x hx cs t fr hh ht => (h2 x hx (heap_lt hh)).2.2 cs t fr hh (hts t ht)
  have hT : T ∉ U := fun hm => (h2 T hm (heap_lt h.tx)).1 rfl
  have hr : rw ∉ U := fun hm => (h2 rw hm h.buf.2.lt).2.1 rfl
  exact ⟨h1.heap h.tx hT, h.buf.keep h1 ((av [267] (by decide)).ne h.buf.1 (by simp)) hr, h.vw.keep h1 (av _ (by decide)), h.sp.keep h1 (av _ (by decide)), h.high⟩
/-- a store at rest, with a reader of handle hr; j bounds its numbers. -/
structure SnR (w : World) (lw base T W rw Q V : Nat) (hr t : Int) (k : Nat) (qR : Int → List UInt8) (j : Nat) (d : Ids) (s : Gs) (g : Gd) (q : Int → List UInt8) : Prop where
  sto : Sto w lw d s g
  pl : Pln s g q j
  lb : s.Lb = [(hr, .int .i64 t)]
  qn : QN0 w lw s
  lw : lw ≤ w.heap.size ∧ lw ≤ base
  rd : Rdr w base d.X T W rw Q V t k
  tab : getL s.Lr hr = some (.pointer (some ⟨T, 0, none⟩))
  rng : 0 ≤ hr ∧ hr ≤ s.bl ∧ t ≤ s.last
  ids : d.rx < base ∧ d.rb < base ∧ d.r < base
  old : ∀ b, 0 ≤ b → b < 258 → bytT (s.vs b) t = qR b
/-- .. with a second transaction open. -/
structure SnO (w : World) (lw base T W rw Q V : Nat) (hr t : Int) (k : Nat) (qR : Int → List UInt8) (j bk : Nat) (d : Ids) (s : Gs) (g : Gd) (q0 q : Int → List UInt8) (L : List (Int × Value)) : Prop where
  su : Su w bk d (begP s) (StoF lw d (begM s d.T) g) q L 0
  pl : Pln s g q0 j
  lb : s.Lb = [(hr, .int .i64 t)]
  qn : QN0 w lw s
  lw : lw ≤ w.heap.size ∧ lw ≤ base ∧ lw ≤ bk ∧ lw ≤ d.T
  rd : Rdr w base d.X T W rw Q V t k
  tab : getL s.Lr hr = some (.pointer (some ⟨T, 0, none⟩))
  rng : 0 ≤ hr ∧ hr ≤ s.bl ∧ t ≤ s.last
  ids : d.rx < base ∧ d.rb < base ∧ d.r < base
  idk : d.rx < bk ∧ d.rb < bk ∧ d.r < bk
  new : T < bk ∧ rw < bk ∧ bk ≤ d.T
  old : ∀ b, 0 ≤ b → b < 258 → bytT (s.vs b) t = qR b
section
variable {lw base T W rw Q V k j : Nat} {hr t : Int} {qR : Int → List UInt8} {d : Ids} {s : Gs} {g : Gd} {q0 q : Int → List UInt8}
end
end Go.Proofs.YtelakcjbknbehaaGreat
namespace Go.Proofs.YtelakcjbknbehaaGreat
open Go.RowKit Go.Lib

end Go.Proofs.YtelakcjbknbehaaGreat
namespace Go.Proofs.YtelakcjbknbehaaGreat
open Go.RowKit Go.Lib

section
variable {base : Nat} {d : Ids} {p : Par} {F : World → Prop}
set_option maxRecDepth 100000 in
set_option maxHeartbeats 20000000 in
theorem qcells_x (w : World) {q : Int → List UInt8} {L : List (Int × Value)} {c : Nat → Nat} {k f n : Nat} (hf : Fr base d p F) (h : Su w base d p F q L k) (hq : CellQ q c) (hk : k + readsC f n ≤ 60) (hn : 0 < n) (hn2 : n ≤ 2000) (hfn : f + n ≤ 1290) :
    Calls Tryz.prog 15 #[.pointer (some ⟨d.P, 0, none⟩), .int .i64 p.h, .int .i64 f, .int .i64 n] w fun e w' =>
    ∃ g o cp k', e = .returned (.tuple #[.slice (some ⟨g, o, none⟩) n cp, .int .i64 0]) ∧ n ≤ cp ∧ w.heap.size ≤ g ∧ Ow base w w' ∧ Fl w' (some ⟨g, o, none⟩) (cellsC c f n) ∧ Su w' base d p F q L k' ∧ k' ≤ k + readsC f n ∧ ∃ cs, w'.heap[g]? = some (.cells cs 33 (0, 0)) := by
  have HC := Lib.hid (ccount_need w (hf.need _ h.env))
  have c1 : ¬ ((n : Int) < 0) := by omega
  have c2 : ¬ ((n : Int) > 2000) := by omega
  have c3 : ¬ ((f : Int) < 0) := by omega
  have hw : IntKind.i64.wrap (1290 - (n : Int)) = 1290 - n := by rw [IntKind.wrap_i64]; omega
  have c4 : ¬ ((f : Int) > 1290 - n) := by omega
  have c5 : (n : Int) ≠ 0 := by omega
  have HK := Lib.hid hk
  clear hk
  unfold readsC at HK ⊢
  obtain ⟨Fb, hF⟩ : ∃ Fb, f / 5 = Fb := ⟨_, rfl⟩
  obtain ⟨Lb, hL⟩ : ∃ Lb, (f + n - 1) / 5 = Lb := ⟨_, rfl⟩
  rw [hF, hL] at HK ⊢
  go_enter Tryz.func15, Tryz.ntmps15
  go_wp2_with fail
  go_step3
  go_wp2_with fail
  refine HC.out.mono ?_
  rintro e w1 ⟨rfl, k1⟩
  have h1 := h.keep hf k1
  have henv := h1.env
  clear h HC
  go_wp2_with fail
  have eF : (f : Int) / 5 = (Fb : Int) := by omega
  have eL : ((f : Int) + n - 1) / 5 = (Lb : Int) := by omega
  simp only [eF, eL]
  have hFL : Fb ≤ Lb ∧ Lb ≤ 257 ∧ 5 * Fb ≤ f ∧ f + n ≤ 5 * (Lb + 1) := by omega
  have HX := Lib.hid hFL
  clear eF eL hF hL hFL c1 c2 c3 c4 c5 hw
  have HCQ := Lib.hid hq
  have hu5 : ∀ b : Nat, b < 258 → unpackB (q (b : Int)) = some (rowC c b) := fun b hb => hq.unpack hb
  have hl40 : ∀ b : Nat, b < 258 → (q (b : Int)).length = 40 := fun b hb => hq.len hb
  have HU5 := Lib.hid hu5
  have HL40 := Lib.hid hl40
  have hw1 := k1.size
  clear hq hu5 hl40
  go_step3
  go_wp2_with fail
  go_loopw [13, 14, 15, 16, 17, 18, 19] (fun v i _ _ _ _ _ wr => ∃ j t : Nat, i = .int .i64 ((Fb + j : Nat) : Int) ∧ Hid (Fb + j ≤ Lb + 1 ∧ t * 16 ≤ j + 15 ∧ (Fb + j ≤ Lb → j = 16 * t)) ∧ Ow base w1 wr ∧ wr.ownsRow w1.heap.size 33 1 v (5 * j) (flCells (cellsC c (5 * Fb) (5 * j))) ∧ Su wr base d p F q L (k + t)) (fun _ i _ _ _ _ _ _ => Lb + 1 - (intOf i).toNat)
  case atStart => exact ⟨0, 0, rfl, Lib.hid (by have := HX.out; omega), Ow.refl _ _, World.ownsRow_nil _ _ _ _, h1⟩
  case round =>
    obtain ⟨j, t, rfl, hjt, kr, hor, hsr⟩ := hrel
    rcases Nat.lt_or_ge (Fb + j) (Lb + 1) with hlt | hge
    · have hlt' : ((Fb + j : Nat) : Int) ≤ Lb := by omega
      go_wp2_with fail
      obtain ⟨s, hs, hs1, hs2, hs3, hs4⟩ : ∃ s : Nat, min 16 (wrap64 (wrap64 ((Lb : Int) - (Fb + j)) + 1)) = (s : Int) ∧ 1 ≤ s ∧ s ≤ 16 ∧ Fb + j + s ≤ Lb + 1 ∧ (Fb + j + s ≤ Lb → s = 16) := by
        refine ⟨min 16 (Lb + 1 - Fb - j), ?_, by omega, by omega, by omega, by omega⟩
        have := HX.out
        unfold wrap64
        omega
      simp only [hs]
      have hjt2 := hjt.out
      refine (sread_m wr (m := s) (b := ((Fb : Int) + (j : Int))) hf hsr (by have := HK.out; have := HX.out; omega) (by omega) hs1 hs2 (by have := HX.out; omega)).mono ?_
      rintro e w2 ⟨g, c', rfl, hc', k2, h2, hg, hB, hT⟩
      have kr2 := kr.trans k2.ow
      have ho2 := ownsRow_ow hor k2.ow
      have hsz2 := kr2.size
      have HS := Lib.hid hs
      have HJT := Lib.hid hjt2
      have HS4 := Lib.hid (And.intro hs1 (And.intro hs2 (And.intro hs3 hs4)))
      have hl40s : ∀ i : Nat, i < s → (q ((Fb : Int) + (j : Int) + (i : Int))).length = 40 := fun i hi => by
        have := HL40.out (Fb + j + i) (by have := HX.out; omega)
        rw [← this]; congr 2
      have HLS := Lib.hid hl40s
      clear hsr kr k2 hor hs hg hjt2 hl40s hs4
      go_wp2_with fail
      go_loopw [13, 16, 18, 19] (fun v b _ _ wx => ∃ (i : Nat) (pa : Option Addr), i ≤ s ∧ b = .slice pa (40 * (s - i)) (c' - 40 * i) ∧ (i < s → pa = some ⟨g, 40 * i, none⟩) ∧ Ow base w1 wx ∧ wx.ownsRow w1.heap.size 33 1 v (5 * (j + i)) (flCells (cellsC c (5 * Fb) (5 * (j + i)))) ∧ Su wx base d p F q L (k + t + 1) ∧ Bs wx (some ⟨g, 0, none⟩) (catQ q ((Fb : Int) + (j : Int)) s) ∧ Bt wx g) (fun _ b _ _ _ => lenV b)
      case atStart => exact ⟨0, _, by omega, rfl, fun _ => rfl, kr2, ho2, h2, hB, hT⟩
      case round =>
        obtain ⟨i, pa, hi, rfl, hpa, kx, hox, hzx, hBx, hTx⟩ := hrel
        rcases Nat.lt_or_ge i s with hl | hl
        · obtain rfl := hpa hl
          have hpos : 0 < 40 * (s - i) := by omega
          have hbi : (Fb : Int) + (j : Int) + (i : Int) = ((Fb + j + i : Nat) : Int) := by omega
          have hb258 : Fb + j + i < 258 := by have := HX.out; omega
          have hBi : Bs wr (some ⟨g, 40 * i, none⟩) (q ((Fb + j + i : Nat) : Int)) := by
            rw [← hbi]
            exact Bs.catQ hBx HLS.out hl
          have HU := Lib.hid (unpack_forty wr (c := c' - 40 * i) (HL40.out _ hb258) (by omega) hBi)
          clear hbi
          go_wp2_with fail
          refine HU.out.mono ?_
          rintro e w4 hu
          have hu5 := HU5.out _ hb258
          rcases hu with ⟨v5, xs5, hu6, rfl, k4, o5⟩ | ⟨hu6, _⟩
          rotate_left
          · rw [hu5] at hu6; cases hu6
          obtain rfl : rowC c (Fb + j + i) = xs5 := by rw [hu5] at hu6; exact Option.some.inj hu6
          clear hu5 hu6 HU hBi
          obtain ⟨g5, c5, rfl, hF5, -, -⟩ := fl_own o5 (by decide)
          have kx4 := kx.then k4
          have hz4 := hzx.keep hf k4
          have hB4 := hBx.chg k4
          have hT4 : Bt w4 g := ⟨_, k4.heap hTx.choose_spec (by simp)⟩
          have ho4 := ownsRow_chg hox k4
          have hb4 := kx4.size
          have HFl := Lib.hid hF5
          have HRL := Lib.hid (rowC_len c (Fb + j + i))
          clear kx hzx hBx hTx hox hF5 o5
          go_wp2_with (at_builtin; refine wpList_append_fl rfl (.tmp 84) (.tmp 85) rfl w1.heap.size _ (5 * (j + i)) (cellsC c (5 * Fb) (5 * (j + i))) (rowC c (Fb + j + i)) rfl ho4 g5 0 5 c5 rfl HRL.out (by decide) HFl.out (by have := HX.out; omega) hb4 ?_; intro g9 cap9 w9 h9 k9)
          have hgn := own_block_ne ho4 hT4.choose_spec (by decide)
          have HB9 := Lib.hid (hB4.chgT k9 hgn)
          have HT9 := Lib.hid (show Bt w9 g from ⟨_, k9.heap hT4.choose_spec hgn⟩)
          have HK9 := Lib.hid (kx4.then_new k9 (own_lowF ho4))
          have HZ9 := Lib.hid (hz4.keepF ho4 k9 (hf.keep _ _ HK9.out henv))
          have h9' : w9.ownsRow w1.heap.size 33 1 (.slice (some ⟨g9, 0, none⟩) (5 * (j + i) + 5) cap9) (5 * (j + (i + 1))) (flCells (cellsC c (5 * Fb) (5 * (j + (i + 1))))) := by
            have e1 : 5 * (j + (i + 1)) = 5 * (j + i) + 5 := by omega
            have e2 : cellsC c (5 * Fb) (5 * (j + (i + 1))) = cellsC c (5 * Fb) (5 * (j + i)) ++ rowC c (Fb + j + i) := by rw [← Nat.add_assoc, cellsC_row, Nat.add_assoc]
            rw [e2, e1]; exact h9
          clear hB4 hT4 hz4 ho4 h9 k9 k4 HFl HRL
          go_roundw
          case rel => exact ⟨i + 1, _, by omega, by congr 1 <;> omega, fun h => by rw [if_neg (by omega)]; congr 2, HK9.out, h9', HZ9.out, HB9.out, HT9.out⟩
          case measure => simp [lenV]; omega
        · obtain rfl : i = s := by omega
          have hz0 : 40 * (i - i) = 0 := by omega
          have hnz : ¬ ((0 : Int) < ((40 * (i - i) : Nat) : Int)) := by omega
          have HA := Lib.hid (show Fb + (j + i) ≤ Lb + 1 ∧ (t + 1) * 16 ≤ (j + i) + 15 ∧ (Fb + (j + i) ≤ Lb → j + i = 16 * (t + 1)) by have h1 := HJT.out; have h2 := HS4.out; omega)
          have HR := Lib.hid (show Value.int IntKind.i64 (wrap64 ((Fb : Int) + j + i)) = Value.int IntKind.i64 ((Fb : Int) + ((j + i : Nat) : Int)) from congrArg _ (by have := HX.out; unfold wrap64; omega))
          have HZ := Lib.hid (show Su wr base d p F q L (k + (t + 1)) by rw [← Nat.add_assoc]; exact hzx)
          have HM := Lib.hid (meas_lt hs1 hs3 HX.out.2.1)
          go_wp2_with fail
          go_roundw
          case rel => exact ⟨_, _, _, _, ⟨j + i, rfl, t + 1, by first | exact ⟨HA, kx, hox, HZ.out⟩ | exact ⟨HA, hox, HZ.out⟩⟩, rfl, rfl, rfl, HR.out⟩
          case measure => exact HM.out
    · have hnl : ¬ ((Fb + j : Nat) : Int) ≤ Lb := by omega
      have hjt2 := hjt.out
      obtain ⟨gv, cv, rfl, hFv, hgv, hle⟩ := fl_own hor (by have := HX.out; omega)
      have e1 : IntKind.i64.wrap ((Fb : Int) * 5) = ((5 * Fb : Nat) : Int) := by rw [IntKind.wrap_i64]; have := HX.out; omega
      have e2 : IntKind.i64.wrap ((f : Int) - ((5 * Fb : Nat) : Int)) = ((f - 5 * Fb : Nat) : Int) := by rw [IntKind.wrap_i64]; have := HX.out; omega
      have e3 : IntKind.i64.wrap (((f - 5 * Fb : Nat) : Int) + n) = ((f - 5 * Fb + n : Nat) : Int) := by rw [IntKind.wrap_i64]; have := HX.out; omega
      have e4 : f - 5 * Fb + n ≤ 5 * j := by have := HX.out; omega
      have e5 : 5 * Fb ≤ f := by have := HX.out; omega
      have HT33 := Lib.hid (own_elem hor (g := gv) rfl).2
      have HE := Lib.hid (fl_cut (f := f) (n := n) hFv e5 e4)
      have HK2 := Lib.hid ((Ow.of_chg (base := base) k1).trans kr)
      have HM := Lib.hid (show k + t ≤ k + ((Lb - Fb) / 16 + 1) by have := HX.out; omega)
      have HC := Lib.hid (show n ≤ cv - (f - 5 * Fb) by omega)
      have HG := Lib.hid (show w.heap.size ≤ gv by omega)
      clear hjt2 hjt
      go_wp2_with fail
      go_ret2
      exact ⟨gv, f - 5 * Fb, cv - (f - 5 * Fb), k + t, rfl, HC.out, HG.out, HK2.out, HE.out, hsr, HM.out, HT33.out⟩
end
/-- no old block of numbers changes. -/
def K33 (w w' : World) : Prop := ∃ U, Chg U w w' ∧ ∀ x ∈ U, ∀ cs fr, w.heap[x]? ≠ some (.cells cs 33 fr)
theorem RdK.k33 {T rw : Nat} {w w' : World} (h : RdK T rw w w') : K33 w w' := by
  obtain ⟨U, h1, h2⟩ := h
  exact ⟨U, h1, fun x hx cs fr hh => (h2 x hx (heap_lt hh)).2.2 _ _ _ hh (by simp)⟩
/-- the ids of a store, with a reader's. -/
def rId (d : Ids) (T W rw Q V : Nat) : Ids := { d with T := T, W := W, rw := rw, Q := Q, V := V }
theorem Sto.ids {w : World} {lw T W rw Q V : Nat} {d : Ids} {s : Gs} {g : Gd} (h : Sto w lw d s g) : Sto w lw (rId d T W rw Q V) s g :=
  ⟨h.store, h.slot, h.text, h.dev, h.mx, h.ap, h.keys, h.bnd, h.bndZ, h.slo, h.dlo⟩
/-- a reader's handle, time, versions. -/
def rPar (s : Gs) (hr t : Int) : Par := ⟨hr, t, s.lo, s.lastv, s.Lv, s.vs⟩
section
variable {lw base T W rw Q V k j : Nat} {hr t : Int} {qR : Int → List UInt8} {d : Ids} {s : Gs} {g : Gd} {q : Int → List UInt8}
theorem SnR.fr {w : World} (h : SnR w lw base T W rw Q V hr t k qR j d s g q) : Fr base (rId d T W rw Q V) (rPar s hr t) (StoF lw (rId d T W rw Q V) s g) :=
  fr_sto h.ids h.tab rfl rfl rfl rfl
theorem SnR.su {w : World} (h : SnR w lw base T W rw Q V hr t k qR j d s g q) : Su w base (rId d T W rw Q V) (rPar s hr t) (StoF lw (rId d T W rw Q V) s g) qR [] k :=
  ⟨h.sto.ids, h.rd.tx, h.rd.buf, (fun x hx => by cases hx), fun b b0 b1 => Or.inl ⟨rfl, (h.old b b0 b1).symm⟩, h.rd.vw, h.rd.sp, h.rd.high⟩
theorem SnR.keep {w w' : World} (h : SnR w lw base T W rw Q V hr t k qR j d s g q) (hc : Chg [] w w') : SnR w' lw base T W rw Q V hr t k qR j d s g q :=
  ⟨h.sto.keep hc, h.pl, h.lb, h.qn.keep hc (fun x hx => by cases hx), ⟨Nat.le_trans h.lw.1 hc.size, h.lw.2⟩, h.rd.keep (RdK.of_chg hc), h.tab, h.rng, h.ids, h.old⟩
end
end Go.Proofs.YtelakcjbknbehaaGreat
namespace Go.Proofs.YtelakcjbknbehaaGreat
open Go.RowKit Go.Lib

/-- numbers that lie in a block of numbers. -/
def FlT (w : World) (p : Option Addr) (l : List Nat) : Prop := Fl w p l ∧ (l = [] ∨ ∃ g o cs, p = some ⟨g, o, none⟩ ∧ w.heap[g]? = some (.cells cs 33 (0, 0)))
theorem FlT.keep {w w' : World} {p : Option Addr} {l : List Nat} (h : FlT w p l) (hc : Chg [] w w') : FlT w' p l := by
  refine ⟨h.1.keep hc, ?_⟩
  rcases h.2 with e | ⟨g, o, cs, e, hg⟩
  · exact Or.inl e
  · exact Or.inr ⟨g, o, cs, e, hc.heap hg (by simp)⟩
theorem FlT.k33 {w w' : World} {p : Option Addr} {l : List Nat} (h : FlT w p l) (hk : K33 w w') : FlT w' p l := by
  obtain ⟨U, h1, h2⟩ := hk
  rcases h.2 with e | ⟨g, o, cs, e, hg⟩
  · exact ⟨Or.inl e, Or.inl e⟩
  · subst e
    have hn : g ∉ U := fun hm => h2 g hm _ _ hg
    refine ⟨?_, Or.inr ⟨g, o, cs, rfl, h1.heap hg hn⟩⟩
    rcases h.1 with e | ⟨b, o', e, hc⟩
    · exact Or.inl e
    · cases e
      exact Or.inr ⟨g, o, rfl, fun j hj => h1.cell (hc j hj) hn⟩
theorem SnO.keep {w w' : World} {lw base T W rw Q V k j bk : Nat} {hr t : Int} {qR : Int → List UInt8} {d : Ids} {s : Gs} {g : Gd} {q0 q : Int → List UInt8} {L : List (Int × Value)} (h : SnO w lw base T W rw Q V hr t k qR j bk d s g q0 q L) (hc : Chg [] w w') : SnO w' lw base T W rw Q V hr t k qR j bk d s g q0 q L :=
  ⟨h.su.keep (fr_sto h.idk ((getL_put _ _ _ _).trans (if_pos rfl)) rfl rfl rfl rfl) hc, h.pl, h.lb, h.qn.keep hc (fun x hx => by cases hx), ⟨Nat.le_trans h.lw.1 hc.size, h.lw.2⟩, h.rd.keep (RdK.of_chg hc), h.tab, h.rng, h.ids, h.idk, h.new, h.old⟩
end Go.Proofs.YtelakcjbknbehaaGreat
namespace Go.Proofs.YtelakcjbknbehaaGreat
open Go.RowKit Go.Lib

theorem Ow.low {lw base : Nat} {w w' : World} (h : Ow base w w') (hb : lw ≤ base) : Ow lw w w' := by
  obtain ⟨T, h1, h2⟩ := h
  exact ⟨T, h1, fun x hx => ⟨Nat.le_trans hb (h2 x hx).1, (h2 x hx).2⟩⟩
theorem Ow.k33 {base : Nat} {w w' : World} (h : Ow base w w') : K33 w w' := by
  obtain ⟨U, u1, u2⟩ := h
  exact ⟨U, u1, fun x hx cs fr hh => absurd ((u2 x hx).2 _ _ _ hh) (by decide)⟩
section
variable {lw P k : Nat} {hd : Int} {c : Nat → Nat}
theorem qw_cells (w : World) {f n : Nat} (h : QO w lw P hd c k) (hk : k + readsC f n ≤ 60) (hn : 0 < n) (hn2 : n ≤ 2000) (hfn : f + n ≤ 1290) :
    Calls Tryz.prog 15 #[.pointer (some ⟨P, 0, none⟩), .int .i64 hd, .int .i64 f, .int .i64 n] w fun e w' =>
    ∃ g o cp k', e = .returned (.tuple #[.slice (some ⟨g, o, none⟩) n cp, .int .i64 0]) ∧ n ≤ cp ∧ w.heap.size ≤ g ∧ Ow lw w w' ∧ FlT w' (some ⟨g, o, none⟩) (cellsC c f n) ∧ QO w' lw P hd c k' ∧ k' ≤ k + readsC f n := by
  obtain ⟨base, d, p, F, q, L, rfl, rfl, h3, h4, h5, h6⟩ := h
  refine (qcells_x w h4 h5 h6 hk hn hn2 hfn).mono ?_
  rintro e w' ⟨g, o, cp, k', rfl, a1, a2, a3, a4, a5, a6, cs, a7⟩
  exact ⟨g, o, cp, k', rfl, a1, a2, a3.low h3, ⟨a4, Or.inr ⟨g, o, cs, rfl, a7⟩⟩, ⟨base, d, p, F, q, L, rfl, rfl, h3, h4, a5, h6⟩, a6⟩
set_option maxRecDepth 100000 in
set_option maxHeartbeats 2000000 in
theorem qw_most (w : World) {f n : Nat} (h : QO w lw P hd c k) (hk : k + readsC f n ≤ 60) (hn : 0 < n) (hn2 : n ≤ 2000) (hfn : f + n ≤ 1290) :
    Calls Tryz.prog 12 #[.pointer (some ⟨P, 0, none⟩), .int .i64 hd, .int .i64 f, .int .i64 n] w fun e w' =>
    ∃ k', e = .returned (.tuple #[.float .f64 (maxB (cellsC c f n)), .int .i64 0]) ∧ Ow lw w w' ∧ QO w' lw P hd c k' ∧ k' ≤ k + readsC f n := by
  have H45 : Calls Tryz.prog 45 #[.pointer (some ⟨P, 0, none⟩), .int .i64 hd, .int .i64 f, .int .i64 n, .func (.func 46) #[] #[]] w fun e w' =>
    ∃ k', e = .returned (.tuple #[.float .f64 (maxB (cellsC c f n)), .int .i64 0]) ∧ Ow lw w w' ∧ QO w' lw P hd c k' ∧ k' ≤ k + readsC f n := by
    have HC := Lib.hid (qw_cells w h hk hn hn2 hfn)
    have HCAN := Lib.hid (cellsC_can h.can f n)
    clear h
    go_enter Tryz.func45, Tryz.ntmps45
    go_wp2_with fail
    refine HC.out.mono ?_
    rintro e w1 ⟨g, o, cp, k', rfl, hcp, hg, k1, ⟨hF, -⟩, hq, hk'⟩
    have HS := Lib.hid (fmax_any w1 (cp := cp) (cellsC_len c f n) hn (by omega) hF HCAN.out)
    clear HC hF
    go_wp2_with (first | (go_at_call 46; refine HS.out.mono ?_; rintro e w2 ⟨rfl, rfl⟩))
    go_ret2
    exact ⟨k', rfl, k1, hq, hk'⟩
  have HQ := Lib.hid H45
  clear h H45
  go_enter Tryz.func12, Tryz.ntmps12
  go_wp2_with fail
  refine HQ.out.mono ?_
  rintro e w1 ⟨k', rfl, hr⟩
  go_wp2_with fail
  go_ret2
  exact ⟨k', rfl, hr⟩
set_option maxRecDepth 100000 in
set_option maxHeartbeats 2000000 in
theorem qw_least (w : World) {f n : Nat} (h : QO w lw P hd c k) (hk : k + readsC f n ≤ 60) (hn : 0 < n) (hn2 : n ≤ 2000) (hfn : f + n ≤ 1290) :
    Calls Tryz.prog 29 #[.pointer (some ⟨P, 0, none⟩), .int .i64 hd, .int .i64 f, .int .i64 n] w fun e w' =>
    ∃ k', e = .returned (.tuple #[.float .f64 (minB (cellsC c f n)), .int .i64 0]) ∧ Ow lw w w' ∧ QO w' lw P hd c k' ∧ k' ≤ k + readsC f n := by
  have H45 : Calls Tryz.prog 45 #[.pointer (some ⟨P, 0, none⟩), .int .i64 hd, .int .i64 f, .int .i64 n, .func (.func 73) #[] #[]] w fun e w' =>
    ∃ k', e = .returned (.tuple #[.float .f64 (minB (cellsC c f n)), .int .i64 0]) ∧ Ow lw w w' ∧ QO w' lw P hd c k' ∧ k' ≤ k + readsC f n := by
    have HC := Lib.hid (qw_cells w h hk hn hn2 hfn)
    have HCAN := Lib.hid (cellsC_can h.can f n)
    clear h
    go_enter Tryz.func45, Tryz.ntmps45
    go_wp2_with fail
    refine HC.out.mono ?_
    rintro e w1 ⟨g, o, cp, k', rfl, hcp, hg, k1, ⟨hF, -⟩, hq, hk'⟩
    have HS := Lib.hid (fleast_any w1 (cp := cp) (cellsC_len c f n) hn (by omega) hF HCAN.out)
    clear HC hF
    go_wp2_with (first | (go_at_call 73; refine HS.out.mono ?_; rintro e w2 ⟨rfl, rfl⟩))
    go_ret2
    exact ⟨k', rfl, k1, hq, hk'⟩
  have HQ := Lib.hid H45
  clear h H45
  go_enter Tryz.func29, Tryz.ntmps29
  go_wp2_with fail
  refine HQ.out.mono ?_
  rintro e w1 ⟨k', rfl, hr⟩
  go_wp2_with fail
  go_ret2
  exact ⟨k', rfl, hr⟩
set_option maxRecDepth 100000 in
set_option maxHeartbeats 2000000 in
theorem qw_mean (w : World) {f n : Nat} (h : QO w lw P hd c k) (hk : k + readsC f n ≤ 60) (hn : 0 < n) (hn2 : n ≤ 2000) (hfn : f + n ≤ 1290) :
    Calls Tryz.prog 28 #[.pointer (some ⟨P, 0, none⟩), .int .i64 hd, .int .i64 f, .int .i64 n] w fun e w' =>
    ∃ k', e = .returned (.tuple #[.float .f64 (meanC (cellsC c f n)), .int .i64 0]) ∧ Ow lw w w' ∧ QO w' lw P hd c k' ∧ k' ≤ k + readsC f n := by
  have H45 : Calls Tryz.prog 45 #[.pointer (some ⟨P, 0, none⟩), .int .i64 hd, .int .i64 f, .int .i64 n, .func (.func 71) #[] #[]] w fun e w' =>
    ∃ k', e = .returned (.tuple #[.float .f64 (meanC (cellsC c f n)), .int .i64 0]) ∧ Ow lw w w' ∧ QO w' lw P hd c k' ∧ k' ≤ k + readsC f n := by
    have HC := Lib.hid (qw_cells w h hk hn hn2 hfn)
    have HCAN := Lib.hid (fun x hx => (cellsC_can h.can f n x hx).1)
    clear h
    go_enter Tryz.func45, Tryz.ntmps45
    go_wp2_with fail
    refine HC.out.mono ?_
    rintro e w1 ⟨g, o, cp, k', rfl, hcp, hg, k1, ⟨hF, -⟩, hq, hk'⟩
    have HS := Lib.hid (fmean71 w1 (cp := cp) (cellsC_len c f n) hn (by omega) hF HCAN.out)
    clear HC hF
    go_wp2_with (first | (go_at_call 71; refine HS.out.mono ?_; rintro e w2 ⟨rfl, k2⟩))
    go_ret2
    exact ⟨k', rfl, k1.then k2, hq.keep k2, hk'⟩
  have HQ := Lib.hid H45
  clear h H45
  go_enter Tryz.func28, Tryz.ntmps28
  go_wp2_with fail
  refine HQ.out.mono ?_
  rintro e w1 ⟨k', rfl, hr⟩
  go_wp2_with fail
  go_ret2
  exact ⟨k', rfl, hr⟩
set_option maxRecDepth 100000 in
set_option maxHeartbeats 2000000 in
theorem quant75 (w : World) {B g o n cp q z : Nat} (hB : w.cell? ⟨B, 0, none⟩ = some (.float .f64 q)) (hQ : Calls Tryz.prog 76 #[.slice (some ⟨g, o, none⟩) n cp, .float .f64 q] w fun e w' => e = .returned (.tuple #[.float .f64 z, .int .i64 0]) ∧ Chg [] w w') :
    Calls Tryz.prog 75 #[.slice (some ⟨g, o, none⟩) n cp, .pointer (some ⟨B, 0, none⟩)] w fun e w' => e = .returned (.tuple #[.float .f64 z, .int .i64 0]) ∧ Chg [] w w' := by
  have HQ := Lib.hid hQ
  clear hQ
  go_enter Tryz.func75, Tryz.ntmps75
  go_wp2_with fail
  refine HQ.out.mono ?_
  rintro e w1 ⟨rfl, k1⟩
  go_wp2_with fail
  go_ret2
  exact ⟨rfl, k1⟩
set_option maxRecDepth 100000 in
set_option maxHeartbeats 2000000 in
theorem qw_quant (w : World) {f n q z : Nat} (h : QO w lw P hd c k) (hk : k + readsC f n ≤ 60) (hn : 0 < n) (hn2 : n ≤ 2000) (hfn : f + n ≤ 1290)
    (hQ : ∀ w g o cp, Fl w (some ⟨g, o, none⟩) (cellsC c f n) → Calls Tryz.prog 76 #[.slice (some ⟨g, o, none⟩) n cp, .float .f64 q] w fun e w' => e = .returned (.tuple #[.float .f64 z, .int .i64 0]) ∧ Chg [] w w') :
    Calls Tryz.prog 30 #[.pointer (some ⟨P, 0, none⟩), .int .i64 hd, .int .i64 f, .int .i64 n, .float .f64 q] w fun e w' =>
    ∃ k', e = .returned (.tuple #[.float .f64 z, .int .i64 0]) ∧ Ow lw w w' ∧ QO w' lw P hd c k' ∧ k' ≤ k + readsC f n := by
  have H45 : ∀ W B, QO W lw P hd c k → W.heap[B]? = some (.cells #[.float .f64 q] 33 (0, 0)) → Calls Tryz.prog 45 #[.pointer (some ⟨P, 0, none⟩), .int .i64 hd, .int .i64 f, .int .i64 n, .func (.func 75) #[] #[.pointer (some ⟨B, 0, none⟩)]] W fun e w' =>
    ∃ k', e = .returned (.tuple #[.float .f64 z, .int .i64 0]) ∧ Ow lw W w' ∧ QO w' lw P hd c k' ∧ k' ≤ k + readsC f n := by
    intro W B h hB
    have HC := Lib.hid (qw_cells W h hk hn hn2 hfn)
    have HQ := Lib.hid hQ
    clear h hQ
    go_enter Tryz.func45, Tryz.ntmps45
    go_wp2_with fail
    refine HC.out.mono ?_
    rintro e w1 ⟨g, o, cp, k', rfl, hcp, hg, k1, ⟨hF, -⟩, hq, hk'⟩
    have hB1 := cell_is (k1.heap hB (by decide)) 0 rfl
    have HS := Lib.hid (quant75 w1 hB1 (HQ.out w1 g o cp hF))
    clear HC HQ hF hB hB1
    go_wp2_with (first | (go_at_call 75; refine HS.out.mono ?_; rintro e w2 ⟨rfl, k2⟩))
    go_ret2
    exact ⟨k', rfl, k1.then k2, hq.keep k2, hk'⟩
  have ka : Chg [] w (w.alloc (.cells #[.float .f64 q] 33)) := Chg.alloc w _
  have HH := Lib.hid (H45 (w.alloc (.cells #[.float .f64 q] 33)) w.heap.size (h.keep ka) (heap_new w _))
  clear h H45 hQ
  go_enter Tryz.func30, Tryz.ntmps30
  go_wp2_with fail
  refine HH.out.mono ?_
  rintro e w1 ⟨k', rfl, hr⟩
  have HR := Lib.hid hr
  clear hr
  go_wp2_with fail
  go_ret2
  exact ⟨k', rfl, (Ow.of_chg ka).trans HR.out.1, HR.out.2⟩
end
end Go.Proofs.YtelakcjbknbehaaGreat
namespace Go.Proofs.YtelakcjbknbehaaGreat
open Go.RowKit Go.Lib Ieee

/-- minus a million, a million. -/
theorem million : WhB 13920209183539462144 (-1000000) ∧ WhB 4696837146684686336 1000000 := by
  have h1 := wh_int (n := -1000000) (by decide)
  have h2 := wh_int (n := 1000000) (by decide)
  rw [show intB (-1000000) = 13920209183539462144 by decide +kernel] at h1
  rw [show intB 1000000 = 4696837146684686336 by decide +kernel] at h2
  exact ⟨h1, h2⟩
theorem in_range {x : Nat} (hx : x < 18446744073709551616) (h1 : (FloatKind.f64.format.order x 13920209183539462144 == some .gt) = true) (h2 : (FloatKind.f64.format.order x 4696837146684686336 == some .lt) = true) :
    FinB x ∧ (toI x).natAbs ≤ 1000000 := by
  have e1 : double.order x 13920209183539462144 = some .gt := eq_of_beq h1
  have e2 : double.order x 4696837146684686336 = some .lt := eq_of_beq h2
  obtain ⟨m1, m2⟩ := million
  have hf : FinB x := by
    rcases kinds hx with hN | ⟨-, hI⟩ | ⟨-, hF⟩
    · rw [nan_order hN] at e1; cases e1
    · exfalso
      obtain ⟨m, i, r1, -⟩ := read_fin m1.1
      obtain ⟨n, j, r2, -⟩ := read_fin m2.1
      unfold Format.order at e1 e2
      rw [read_inf hx hI, r1] at e1
      rw [read_inf hx hI, r2] at e2
      cases hs : negB x
      · rw [hs] at e2; cases e2
      · rw [hs] at e1; cases e1
    · exact hF
  rw [order_fin hf m1.1] at e1
  rw [order_fin hf m2.1] at e2
  have g1 := Int.compare_eq_gt.1 (Option.some.inj e1)
  have g2 := Int.compare_eq_lt.1 (Option.some.inj e2)
  rw [m1.2] at g1
  rw [m2.2] at g2
  refine ⟨hf, ?_⟩
  have hT := T1_pos
  have hv : valR (magB x) ≤ 1000000 * T1 := by
    cases hs : negB x
    · rw [rv_pos hs] at g2; omega
    · rw [rv_neg hs] at g1; omega
  have hw : wholeN .zero x ≤ 1000000 := by
    unfold wholeN cutW
    rw [← T1_pow]
    simp only [Bool.toNat_false, Nat.add_zero]
    have := Nat.div_le_div_right (c := T1) hv
    rwa [Nat.mul_div_cancel _ hT] at this
  unfold toI sgnI
  split <;> omega
theorem whole_eq {x : Nat} (hf : FinB x) (hs : (toI x).natAbs ≤ 1000000) (h : (FloatKind.f64.format.order x (intB (toI x)) != some .eq) = false) : WhB x (toI x) := by
  have e : double.order x (intB (toI x)) = some .eq := bne_eq_false_iff_eq.1 h
  have hi := wh_int (n := toI x) (by omega)
  rw [order_fin hf hi.1] at e
  have := Int.compare_eq_eq.1 (Option.some.inj e)
  exact ⟨hf, by rw [this, hi.2]⟩
theorem run_toI {x : Nat} (hf : FinB x) (hs : (toI x).natAbs ≤ 1000000) (w : World) : (convert 33 3 (.float .f64 x)).run Tryz.prog w = .ok (.int .i64 (toI x)) w := by
  refine run_convert_float_int w 33 3 .f64 .i64 x (toI x) (by rw [Tryz.underlying33]; rfl) Tryz.underlying3 ?_
  unfold floatToIntVal
  have e : (FloatKind.f64.decode x).toInt .zero = some (toI x) := toInt_fin hf
  rw [e]
  simp only
  rw [if_pos]
  have e1 : IntKind.i64.min = -9223372036854775808 := by decide
  have e2 : IntKind.i64.max = 9223372036854775807 := by decide
  rw [e1, e2]
  omega
/-- cells that are made of whole numbers are whole. -/
theorem putC_wh {c : Nat → Nat} (hc : ∀ i, WhB (c i) (toI (c i)) ∧ (toI (c i)).natAbs ≤ 1000000) {l : List (Int × Nat)} (hx : ∀ x ∈ l, WhB x.2 (toI x.2) ∧ (toI x.2).natAbs ≤ 1000000) : ∀ i, WhB (putC c l i) (toI (putC c l i)) ∧ (toI (putC c l i)).natAbs ≤ 1000000 := by
  induction l generalizing c with
  | nil => exact hc
  | cons x l ih =>
    refine ih (c := setC c (rnd x.1).toNat x.2) (fun i => ?_) (fun y hy => hx y (List.mem_cons_of_mem _ hy))
    unfold setC
    split
    · rw [canB_fin (hx x List.mem_cons_self).1.1]
      exact hx x List.mem_cons_self
    · exact hc i
theorem zero_toI : WhB 0 (toI 0) ∧ (toI 0).natAbs ≤ 1000000 := by
  rw [zero_wh.toI]
  exact ⟨zero_wh, by decide⟩
theorem cellsC_wh {l : List (Int × Nat)} (hx : ∀ x ∈ l, WhB x.2 (toI x.2) ∧ (toI x.2).natAbs ≤ 1000000) (f n : Nat) : WhL (cellsC (putC (fun _ => 0) l) f n) := fun x hm => by
  unfold cellsC at hm
  obtain ⟨i, -, rfl⟩ := List.mem_map.1 hm
  exact putC_wh (fun _ => zero_toI) hx _
/-- a sorted list's members stand in their order. -/
theorem sortK_get {l : List Nat} {i j : Nat} {x y : Nat} (hi : (sortK l)[i]? = some x) (hj : (sortK l)[j]? = some y) (h : i ≤ j) : keyB x ≤ keyB y := by
  obtain ⟨a, rfl⟩ := List.getElem?_eq_some_iff.1 hi
  obtain ⟨b, rfl⟩ := List.getElem?_eq_some_iff.1 hj
  rcases Nat.lt_or_ge i j with hlt | hge
  · exact List.pairwise_iff_getElem.1 (sortK_pair l) i j a b hlt
  · obtain rfl : i = j := by omega
    exact Nat.le_refl _
/-- a number from 0 up to 1. -/
theorem q_range {q : Nat} (hq : q < 18446744073709551616) (hq0 : (FloatKind.f64.format.order q 0 == some .gt || FloatKind.f64.format.order q 0 == some .eq) = true)
    (hq1 : (FloatKind.f64.format.order q 4607182418800017408 == some .lt || FloatKind.f64.format.order q 4607182418800017408 == some .eq) = true) : FinB q ∧ 0 ≤ rv q ∧ rv q ≤ (T1 : Int) := by
  have e0 : double.order q 0 = some .gt ∨ double.order q 0 = some .eq := (Bool.or_eq_true_iff.1 hq0).imp eq_of_beq eq_of_beq
  have e1 : double.order q 4607182418800017408 = some .lt ∨ double.order q 4607182418800017408 = some .eq := (Bool.or_eq_true_iff.1 hq1).imp eq_of_beq eq_of_beq
  obtain ⟨o1, o2⟩ := one_fin
  have hf : FinB q := by
    rcases kinds hq with hN | ⟨-, hI⟩ | ⟨-, hF⟩
    · rw [nan_order hN] at e0; rcases e0 with e | e <;> cases e
    · exfalso
      obtain ⟨m, i, r1, -⟩ := read_fin zero_fin.1
      obtain ⟨n, j, r2, -⟩ := read_fin o1
      unfold Format.order at e0 e1
      rw [read_inf hq hI, r1] at e0
      rw [read_inf hq hI, r2] at e1
      cases hs : negB q
      · rw [hs] at e1; rcases e1 with e | e <;> cases e
      · rw [hs] at e0; rcases e0 with e | e <;> cases e
    · exact hF
  rw [order_fin hf zero_fin.1, zero_fin.2] at e0
  rw [order_fin hf o1, o2] at e1
  refine ⟨hf, ?_, ?_⟩
  · rcases e0 with e | e
    · have := Int.compare_eq_gt.1 (Option.some.inj e); omega
    · have := Int.compare_eq_eq.1 (Option.some.inj e); omega
  · rcases e1 with e | e
    · have := Int.compare_eq_lt.1 (Option.some.inj e); omega
    · have := Int.compare_eq_eq.1 (Option.some.inj e); omega
/-- a quantile of whole numbers lies between two of them. -/
theorem quant_wh {l : List Nat} {m q : Nat} (hm : l.length = m + 1) (hm2 : m ≤ 100000) (hw : WhL l) (hc : ∀ x ∈ l, CanB x) (hq : q < 18446744073709551616)
    (hq0 : (FloatKind.f64.format.order q 0 == some .gt || FloatKind.f64.format.order q 0 == some .eq) = true)
    (hq1 : (FloatKind.f64.format.order q 4607182418800017408 == some .lt || FloatKind.f64.format.order q 4607182418800017408 == some .eq) = true) :
    ∃ z, FinB z ∧ rv (minB l) ≤ rv z ∧ rv z ≤ rv (maxB l) ∧
      ∀ (w : World) (g o cp : Nat), Fl w (some ⟨g, o, none⟩) l → Calls Tryz.prog 76 #[.slice (some ⟨g, o, none⟩) (m + 1 : Nat) cp, .float .f64 q] w fun e w' => e = .returned (.tuple #[.float .f64 z, .int .i64 0]) ∧ Chg [] w w' := by
  obtain ⟨qf, q0, q1⟩ := q_range hq hq0 hq1
  have hne : l ≠ [] := fun e => by rw [e] at hm; cases hm
  obtain ⟨mi1, mi2⟩ := minB_is hw.nan hne
  obtain ⟨ma1, ma2⟩ := maxB_is hw.nan hne
  have hlen : (sortK l).length = m + 1 := by rw [sortK_len, hm]
  have hin : ∀ {j x}, (sortK l)[j]? = some x → x ∈ l := fun h => (sortK_perm l).mem_iff.1 (List.mem_of_getElem? h)
  have hM := wh_int (n := (m : Int)) (by omega)
  have hT := T1_posI
  obtain ⟨k, ek, kf, k0, k1⟩ := mul_part qf hM.1 q0 q1 (by rw [hM.2]; exact Int.mul_nonneg (by omega) (Int.le_of_lt hT))
  rw [hM.2] at k1
  obtain ⟨low, hlm, hlow, l0, l1⟩ := floor_wh kf k0 k1
  have hL := wh_int (n := (low : Int)) (by omega)
  obtain ⟨part, ep, pf, p0, p1⟩ := sub_between kf hL.1 zero_fin.1 one_fin.1 (by rw [zero_fin.2, hL.2]; omega) (by rw [one_fin.2, hL.2]; exact l1)
  rw [zero_fin.2] at p0
  rw [one_fin.2] at p1
  obtain ⟨a, ha⟩ : ∃ a, (sortK l)[low]? = some a := ⟨_, List.getElem?_eq_getElem (by omega)⟩
  obtain ⟨b, hb⟩ : ∃ b, (sortK l)[min (low + 1) m]? = some b := ⟨_, List.getElem?_eq_getElem (by omega)⟩
  obtain ⟨zl, hzl⟩ : ∃ zl, (sortK l)[m]? = some zl := ⟨_, List.getElem?_eq_getElem (by omega)⟩
  have wa := hw a (hin ha)
  have wb := hw b (hin hb)
  have hzn := fin_not_nan (hw zl (hin hzl)).1.1
  have hab : rv a ≤ rv b := key_rv wa.1.1 wb.1.1 (sortK_get ha hb (by omega))
  have ba : rv (minB l) ≤ rv a := key_rv (hw _ mi1).1.1 wa.1.1 (mi2 a (hin ha))
  have bb : rv b ≤ rv (maxB l) := key_rv wb.1.1 (hw _ ma1).1.1 (ma2 b (hin hb))
  have fin : ∀ z, ((a = b ∧ z = a) ∨ (a ≠ b ∧ (FloatKind.f64.format.order part 0 == some .eq) = true ∧ z = a) ∨
      (a ≠ b ∧ (FloatKind.f64.format.order part 0 == some .eq) = false ∧ ∃ d p, floatBits .sub .f64 b a = some d ∧ floatBits .mul .f64 part d = some p ∧ floatBits .add .f64 a p = some z ∧ isNaNB z = false)) →
      ∀ (w : World) (g o cp : Nat), Fl w (some ⟨g, o, none⟩) l → Calls Tryz.prog 76 #[.slice (some ⟨g, o, none⟩) (m + 1 : Nat) cp, .float .f64 q] w fun e w' => e = .returned (.tuple #[.float .f64 z, .int .i64 0]) ∧ Chg [] w w' :=
    fun z hz w g o cp hF => quant_any w hm rfl (by omega) hF hc hq0 hq1 hzl hzn ek (fin_not_nan kf) hlow hlm ep ha rfl hb hz
  by_cases c1 : a = b
  · exact ⟨a, wa.1.1, ba, by omega, fin a (Or.inl ⟨c1, rfl⟩)⟩
  · cases c2 : (FloatKind.f64.format.order part 0 == some .eq)
    · have hd := wa.2
      have he := wb.2
      obtain ⟨d, ed, wd⟩ := wh_sub wb.1 wa.1 (by omega)
      have d0 : rv d = rv b - rv a := by rw [wd.2, wa.1.2, wb.1.2, Int.sub_mul]
      obtain ⟨p, epp, fp, pp0, pp1⟩ := mul_part pf wd.1 p0 p1 (by omega)
      obtain ⟨z, ez, fz, z0, z1⟩ := add_between wa.1.1 fp wa.1.1 wb.1.1 (by omega) (by omega)
      exact ⟨z, fz, by omega, by omega, fin z (Or.inr (Or.inr ⟨c1, c2, d, p, ed, epp, ez, fin_not_nan fz⟩))⟩
    · exact ⟨a, wa.1.1, ba, by omega, fin a (Or.inr (Or.inl ⟨c1, c2, rfl⟩))⟩
end Go.Proofs.YtelakcjbknbehaaGreat
namespace Go.Proofs.YtelakcjbknbehaaGreat
open Go.RowKit Go.Lib Ieee

theorem ArgX.keep {w w' : World} {pa : Option Addr} {l : List (Int × Nat)} (h : ArgX w pa l) (k : Chg [] w w') : ArgX w' pa l := by
  rcases h with e | ⟨A, o, h1, h2, h3⟩
  · exact Or.inl e
  · exact Or.inr ⟨A, o, h1, Nat.lt_of_lt_of_le h2 k.size, fun j hj => ⟨k.cell (h3 j hj).1 (by simp), k.cell (h3 j hj).2 (by simp)⟩⟩
theorem ord_le {x y : Nat} (hx : FinB x) (hy : FinB y) (h : rv x ≤ rv y) : (FloatKind.f64.format.order x y == some .lt || FloatKind.f64.format.order x y == some .eq) = true ∧ (FloatKind.f64.format.order x y == some .gt) = false ∧ (FloatKind.f64.format.order y x == some .lt) = false := by
  have e1 : FloatKind.f64.format.order x y = some (compare (rv x) (rv y)) := order_fin hx hy
  have e2 : FloatKind.f64.format.order y x = some (compare (rv y) (rv x)) := order_fin hy hx
  rw [e1, e2]
  refine ⟨?_, ?_, ?_⟩
  · rcases Int.lt_or_eq_of_le h with c | c
    · rw [Int.compare_eq_lt.2 c]; rfl
    · rw [Int.compare_eq_eq.2 c]; rfl
  · rw [beq_eq_false_iff_ne]
    intro e
    have := Int.compare_eq_gt.1 (Option.some.inj e)
    omega
  · rw [beq_eq_false_iff_ne]
    intro e
    have := Int.compare_eq_lt.1 (Option.some.inj e)
    omega
set_option maxRecDepth 100000 in
set_option maxHeartbeats 20000000 in
theorem law6_any (w : World) {pa : Option Addr} {N cp q : Nat} {l : List (Int × Nat)} (f n : Int) (hl : l.length = N) (hA : ArgX w pa l) (hx : ∀ x ∈ l, x.2 < 18446744073709551616) (hq : q < 18446744073709551616) :
    Calls Tryz.prog 6 #[.slice pa N cp, .int .i64 f, .int .i64 n, .float .f64 q] w fun e w' => e = .returned (.bool true) ∧ Chg [] w w' := by
  have HS := Lib.hid (small_any w (pa := pa) (N := N) (cp := cp))
  have HAW := Lib.hid (fun w => awake27 w)
  have HAX := Lib.hid hA
  have HXL := Lib.hid hx
  by_cases h1 : N ≤ 60
  rotate_left
  · have d1 : decide ((N : Int) ≤ 60) = false := decide_eq_false (by omega)
    rw [d1] at HS
    clear hA hx
    go_enter Tryz.func6, Tryz.ntmps6
    go_wp2_with fail
    refine HS.out.mono ?_
    rintro e w1 ⟨rfl, rfl⟩
    go_wp2_with fail
    refine (HAW.out _).mono ?_
    rintro e w1 ⟨rfl, k1⟩
    go_wp2_with fail
    go_ret
    exact ⟨rfl, k1⟩
  have d1 : decide ((N : Int) ≤ 60) = true := decide_eq_true (by omega)
  rw [d1] at HS
  clear d1
  by_cases g0 : f < 0
  · clear hA hx
    go_enter Tryz.func6, Tryz.ntmps6
    go_wp2_with fail
    refine HS.out.mono ?_
    rintro e w1 ⟨rfl, rfl⟩
    go_wp2_with fail
    refine (HAW.out _).mono ?_
    rintro e w1 ⟨rfl, k1⟩
    go_wp2_with fail
    go_ret
    exact ⟨rfl, k1⟩
  by_cases g1 : f > 500
  · clear hA hx
    go_enter Tryz.func6, Tryz.ntmps6
    go_wp2_with fail
    refine HS.out.mono ?_
    rintro e w1 ⟨rfl, rfl⟩
    go_wp2_with fail
    refine (HAW.out _).mono ?_
    rintro e w1 ⟨rfl, k1⟩
    go_wp2_with fail
    go_ret
    exact ⟨rfl, k1⟩
  by_cases g2 : n < 1
  · clear hA hx
    go_enter Tryz.func6, Tryz.ntmps6
    go_wp2_with fail
    refine HS.out.mono ?_
    rintro e w1 ⟨rfl, rfl⟩
    go_wp2_with fail
    refine (HAW.out _).mono ?_
    rintro e w1 ⟨rfl, k1⟩
    go_wp2_with fail
    go_ret
    exact ⟨rfl, k1⟩
  by_cases g3 : n > 200
  · clear hA hx
    go_enter Tryz.func6, Tryz.ntmps6
    go_wp2_with fail
    refine HS.out.mono ?_
    rintro e w1 ⟨rfl, rfl⟩
    go_wp2_with fail
    refine (HAW.out _).mono ?_
    rintro e w1 ⟨rfl, k1⟩
    go_wp2_with fail
    go_ret
    exact ⟨rfl, k1⟩
  cases hq0 : (FloatKind.f64.format.order q 0 == some .gt || FloatKind.f64.format.order q 0 == some .eq) with
  | false =>
    clear hA hx
    go_enter Tryz.func6, Tryz.ntmps6
    go_wp2_with fail
    refine HS.out.mono ?_
    rintro e w1 ⟨rfl, rfl⟩
    go_wp2_with fail
    refine (HAW.out _).mono ?_
    rintro e w1 ⟨rfl, k1⟩
    go_wp2_with fail
    go_ret
    exact ⟨rfl, k1⟩
  | true =>
  cases hq1 : (FloatKind.f64.format.order q 4607182418800017408 == some .lt || FloatKind.f64.format.order q 4607182418800017408 == some .eq) with
  | false =>
    clear hA hx
    go_enter Tryz.func6, Tryz.ntmps6
    go_wp2_with fail
    refine HS.out.mono ?_
    rintro e w1 ⟨rfl, rfl⟩
    go_wp2_with fail
    refine (HAW.out _).mono ?_
    rintro e w1 ⟨rfl, k1⟩
    go_wp2_with fail
    go_ret
    exact ⟨rfl, k1⟩
  | true =>
  clear hA hx
  have HL := Lib.hid hl
  clear hl
  obtain ⟨a, rfl⟩ : ∃ a : Nat, f = a := ⟨f.toNat, by omega⟩
  obtain ⟨b, rfl⟩ : ∃ b : Nat, n = b := ⟨n.toNat, by omega⟩
  have hab : a ≤ 500 ∧ 1 ≤ b ∧ b ≤ 200 := by omega
  have HQ := Lib.hid (And.intro hq (And.intro hq0 hq1))
  go_enter Tryz.func6, Tryz.ntmps6
  go_wp2_with fail
  refine HS.out.mono ?_
  rintro e w1 ⟨rfl, rfl⟩
  go_wp2_with fail
  go_loopw [9] (fun i wr => ∃ j : Nat, i = .int .i64 j ∧ j ≤ N ∧ Chg [] w wr ∧ Hid (∀ x ∈ l.take j, WhB x.2 (toI x.2) ∧ (toI x.2).natAbs ≤ 1000000)) (fun i _ => N - (intOf i).toNat)
  case atStart => exact ⟨0, rfl, Nat.zero_le _, Chg.refl _ _, Lib.hid (fun x hx => by simp at hx)⟩
  case round =>
    obtain ⟨j, rfl, hj, kr, hw⟩ := hrel
    by_cases hlt : j < N
    · have hlt' : (j : Int) < N := by omega
      have hjl : j < l.length := by have := HL.out; omega
      obtain ⟨A, o, hpa, -, hcl⟩ : ∃ A o, pa = some ⟨A, o, none⟩ ∧ A < w.heap.size ∧ ClX w A o l := by
        rcases HAX.out with e | h
        · rw [e] at hjl; simp at hjl
        · exact h
      subst hpa
      obtain ⟨x, hxe⟩ : ∃ x, x = l[j].2 := ⟨_, rfl⟩
      have c1 : wr.cell? ⟨A, o + j * 2 + 1, none⟩ = some (.float .f64 x) := by rw [hxe]; exact kr.cell (hcl j hjl).2 (by simp)
      have hxlt : x < 18446744073709551616 := by rw [hxe]; exact HXL.out _ (List.getElem_mem _)
      have HXE := Lib.hid hxe
      clear hcl hxe
      have aw : ∀ w1, Chg [] w w1 → Calls Tryz.prog 8 #[] w1 fun e w' => e = .returned (.bool true) ∧ Chg [] w w' := fun w1 k1 => (HAW.out w1).mono fun _ _ ⟨he, hk⟩ => ⟨he, k1.then hk⟩
      have kd : ∀ nq, Chg [] w (wr.drewN nq) := fun nq => kr.drewN nq
      have HAW2 := Lib.hid (fun nq => aw _ (kd nq))
      have KD := Lib.hid kd
      clear aw kd kr
      cases r1 : (FloatKind.f64.format.order x 13920209183539462144 == some .gt) with
      | false =>
        clear hxlt
        go_wp2_with fail
        go_quiet (fail)
        go_wp2_with fail
        refine (HAW2.out _).mono ?_
        rintro e w1 ⟨rfl, k1⟩
        go_wp2_with fail
        go_ret
        exact ⟨rfl, k1⟩
      | true =>
      cases r2 : (FloatKind.f64.format.order x 4696837146684686336 == some .lt) with
      | false =>
        clear hxlt
        go_wp2_with fail
        go_quiet (fail)
        go_wp2_with fail
        refine (HAW2.out _).mono ?_
        rintro e w1 ⟨rfl, k1⟩
        go_wp2_with fail
        go_ret
        exact ⟨rfl, k1⟩
      | true =>
      obtain ⟨hfin, hsm⟩ := in_range hxlt r1 r2
      have rti := fun w => run_toI hfin hsm w
      have rfi := fun w => run_fromI (toI x) w
      cases r3 : (FloatKind.f64.format.order x (intB (toI x)) != some .eq) with
      | true =>
        clear hxlt hfin hsm
        generalize intB (toI x) = y at *
        generalize toI x = t at *
        go_wp2_with fail
        go_quiet (fail)
        go_wp2_with fail
        refine (HAW2.out _).mono ?_
        rintro e w1 ⟨rfl, k1⟩
        go_wp2_with fail
        go_ret
        exact ⟨rfl, k1⟩
      | false =>
        have HW2 := Lib.hid (show ∀ x ∈ l.take (j + 1), WhB x.2 (toI x.2) ∧ (toI x.2).natAbs ≤ 1000000 by
          intro y hy
          rw [List.take_succ_eq_append_getElem hjl] at hy
          rcases List.mem_append.1 hy with h | h
          · exact hw.out y h
          · rw [List.mem_singleton.1 h, ← HXE.out]
            exact ⟨whole_eq hfin hsm r3, hsm⟩)
        clear hxlt hfin hsm
        generalize intB (toI x) = y at *
        generalize toI x = t at *
        go_wp2_with fail
        go_quiet (fail)
        go_wp2_with fail
        go_roundw
        case rel => exact ⟨j + 1, by go_num, hlt, KD.out _, HW2⟩
        case measure => simp [intOf]; omega
    · obtain rfl : j = N := by omega
      have hnl : ¬ ((j : Int) < j) := by omega
      have hall : ∀ x ∈ l, WhB x.2 (toI x.2) ∧ (toI x.2).natAbs ≤ 1000000 := fun x hx => hw.out x (by rw [List.take_of_length_le (by have := HL.out; omega)]; exact hx)
      obtain ⟨c, hc⟩ : ∃ c, c = putC (fun _ => 0) l := ⟨_, rfl⟩
      obtain ⟨L, hLL⟩ : ∃ L, L = cellsC c a b := ⟨_, rfl⟩
      have hWL : WhL L := by rw [hLL, hc]; exact cellsC_wh hall a b
      have hCN : ∀ x ∈ L, CanB x := by rw [hLL, hc]; exact cellsC_can (putC_can (fun _ => can_zero) (fun y hy => HXL.out y hy)) a b
      have hlen : L.length = b := by rw [hLL, cellsC_len]
      have hne : L ≠ [] := fun e => by rw [e] at hlen; simp at hlen; omega
      obtain ⟨z, zf, z1, z2, hZ⟩ := quant_wh (l := L) (m := b - 1) (by omega) (by omega) hWL hCN HQ.out.1 HQ.out.2.1 HQ.out.2.2
      rw [show b - 1 + 1 = b by omega] at hZ
      obtain ⟨mf, m1, m2⟩ := meanC_wh hWL hne (by omega)
      obtain ⟨mi1, mi2⟩ := minB_is hWL.nan hne
      obtain ⟨ma1, ma2⟩ := maxB_is hWL.nan hne
      have fA := (hWL _ mi1).1.1
      have fB := (hWL _ ma1).1.1
      have oAM := (ord_le fA mf m1).1
      have oMB := (ord_le mf fB m2).1
      have oAz := (ord_le fA zf z1).1
      have ozB := (ord_le zf fB z2).1
      have HORD := Lib.hid (show ∀ x ∈ L, (FloatKind.f64.format.order x (minB L) == some .lt) = false ∧ (FloatKind.f64.format.order x (maxB L) == some .gt) = false from fun x hx =>
        ⟨(ord_le fA (hWL x hx).1.1 (key_rv fA (hWL x hx).1.1 (mi2 x hx))).2.2, (ord_le (hWL x hx).1.1 fB (key_rv (hWL x hx).1.1 fB (ma2 x hx))).2.1⟩)
      have HMEM := Lib.hid (And.intro mi1 ma1)
      have HLEN := Lib.hid hlen
      have HCN := Lib.hid hCN
      have HZ := Lib.hid hZ
      have HLL := Lib.hid hLL
      have HFR := Lib.hid (fresh_any wr (pa := pa) (cp := cp) HL.out h1 (HAX.out.keep kr) HXL.out)
      have HCC := Lib.hid hc
      have HKR := Lib.hid kr
      clear hall hWL hCN hlen hne zf z1 z2 hZ mf m1 m2 mi1 mi2 ma1 ma2 fA fB hw hc hLL kr
      go_wp2_with fail
      refine HFR.out.mono ?_
      rintro e w1 ⟨m, P, G, rfl, hm, k1, hfo⟩
      obtain ⟨hd, hhd⟩ : ∃ hd : Int, hd = ((m + 1 : Nat) : Int) := ⟨_, rfl⟩
      have hqo := hfo.qo
      rw [← hhd, ← HCC.out] at hqo
      rw [← hhd]
      have hr4 : readsC a b ≤ 4 := readsC_le a b (by omega)
      have HR4 := Lib.hid hr4
      have H1 := Lib.hid (qw_cells w1 (f := a) (n := b) hqo (by omega) (by omega) (by omega) (by omega))
      rw [← HLL.out] at H1
      clear HFR hfo hhd hqo hr4
      go_wp2_with fail
      refine H1.out.mono ?_
      rintro e w2 ⟨g, o, cp2, n1, rfl, hcp, -, o1, hF1, hq2, hn1⟩
      have kx1 := chg_kp k1 (kp_ow o1 (Nat.le_refl _))
      have H2 := Lib.hid (qw_least w2 (f := a) (n := b) hq2 (by have := HR4.out; omega) (by omega) (by omega) (by omega))
      rw [← HLL.out] at H2
      have hn1' : n1 ≤ 4 := by have := HR4.out; omega
      clear H1 o1 hq2 hn1 k1
      go_wp2_with fail
      refine H2.out.mono ?_
      rintro e w3 ⟨n2, rfl, o2, hq3, hn2⟩
      have kx2 := chg_kp kx1 (kp_ow o2 (Nat.le_refl _))
      have hF2 := hF1.k33 o2.k33
      have H3 := Lib.hid (qw_most w3 (f := a) (n := b) hq3 (by have := HR4.out; omega) (by omega) (by omega) (by omega))
      rw [← HLL.out] at H3
      have hn2' : n2 ≤ 8 := by have := HR4.out; omega
      clear H2 o2 hq3 hn2 kx1 hF1
      go_wp2_with fail
      refine H3.out.mono ?_
      rintro e w4 ⟨n3, rfl, o3, hq4, hn3⟩
      have kx3 := chg_kp kx2 (kp_ow o3 (Nat.le_refl _))
      have hF3 := hF2.k33 o3.k33
      have H4 := Lib.hid (qw_mean w4 (f := a) (n := b) hq4 (by have := HR4.out; omega) (by omega) (by omega) (by omega))
      rw [← HLL.out] at H4
      have hn3' : n3 ≤ 12 := by have := HR4.out; omega
      clear H3 o3 hq4 hn3 kx2 hF2
      go_wp2_with fail
      refine H4.out.mono ?_
      rintro e w5 ⟨n4, rfl, o4, hq5, hn4⟩
      have kx4 := chg_kp kx3 (kp_ow o4 (Nat.le_refl _))
      have hF4 := hF3.k33 o4.k33
      have H5 := Lib.hid (qw_quant w5 (f := a) (n := b) (q := q) (z := z) hq5 (by have := HR4.out; omega) (by omega) (by omega) (by omega) (by rw [← HLL.out]; exact HZ.out))
      clear H4 o4 hq5 hn4 kx3 hF3
      go_wp2_with fail
      refine H5.out.mono ?_
      rintro e w6 ⟨n5, rfl, o5, -, -⟩
      have HKX := Lib.hid (HKR.out.then (chg_kp kx4 (kp_ow o5 (Nat.le_refl _))))
      have HF := Lib.hid (hF4.k33 o5.k33).1
      clear H5 o5 kx4 hF4
      obtain ⟨A, hA⟩ : ∃ A, A = minB L := ⟨_, rfl⟩
      obtain ⟨B, hB⟩ : ∃ B, B = maxB L := ⟨_, rfl⟩
      obtain ⟨M, hM⟩ : ∃ M, M = meanC L := ⟨_, rfl⟩
      rw [← hA] at oAM oAz HORD HMEM ⊢
      rw [← hB] at oMB ozB HORD HMEM ⊢
      rw [← hM] at oAM oMB ⊢
      clear hA hB hM
      go_wp2_with fail
      go_loopw [24, 25, 26] (fun lo hi i wr => w6 = wr ∧ ∃ (s t : Bool) (k : Nat), lo = .bool s ∧ hi = .bool t ∧ i = .int .i64 k ∧ k ≤ b ∧ Hid ((s = false → A ∉ L.take k) ∧ (t = false → B ∉ L.take k))) (fun _ _ i _ => b - (intOf i).toNat)
      case atStart => exact ⟨rfl, false, false, 0, rfl, rfl, rfl, Nat.zero_le _, Lib.hid ⟨fun _ h => by simp at h, fun _ h => by simp at h⟩⟩
      case round =>
        obtain ⟨rfl, s, u, i, rfl, rfl, rfl, hib, hy⟩ := hrel
        rcases Nat.lt_or_ge i b with hlt | hge
        · have hlt' : (i : Int) < b := by omega
          have hil : i < L.length := by have := HLEN.out; omega
          obtain ⟨x, hx⟩ : ∃ x, x = L[i] := ⟨_, rfl⟩
          have ci : w6.cell? ⟨g, o + i, none⟩ = some (.float .f64 x) := by rw [hx]; exact fl_at HF.out i hil
          have hxm : x ∈ L := by rw [hx]; exact List.getElem_mem _
          obtain ⟨ox1, ox2⟩ := HORD.out x hxm
          have hsA := same_any' x A w6
          have hsB := same_any' x B w6
          rw [canB_of (HCN.out x hxm), canB_of (HCN.out _ HMEM.out.1)] at hsA
          rw [canB_of (HCN.out x hxm), canB_of (HCN.out _ HMEM.out.2)] at hsB
          obtain ⟨sa, hsa⟩ : ∃ sa, sa = ((x : Int) == (A : Int)) := ⟨_, rfl⟩
          obtain ⟨sb, hsb⟩ : ∃ sb, sb = ((x : Int) == (B : Int)) := ⟨_, rfl⟩
          rw [← hsa] at hsA
          rw [← hsb] at hsB
          have HSA := Lib.hid hsA
          have HSB := Lib.hid hsB
          have HT := Lib.hid (show L.take (i + 1) = L.take i ++ [x] by rw [hx]; exact List.take_succ_eq_append_getElem hil)
          have HNA := Lib.hid (show A ∉ L.take i → sa = false → A ∉ L.take (i + 1) from fun h1 h2 h3 => by
            rw [HT.out] at h3
            rcases List.mem_append.1 h3 with h | h
            · exact h1 h
            · rw [hsa] at h2
              have := beq_eq_false_iff_ne.1 h2
              rw [List.mem_singleton.1 h] at this
              exact this rfl)
          have HNB := Lib.hid (show B ∉ L.take i → sb = false → B ∉ L.take (i + 1) from fun h1 h2 h3 => by
            rw [HT.out] at h3
            rcases List.mem_append.1 h3 with h | h
            · exact h1 h
            · rw [hsb] at h2
              have := beq_eq_false_iff_ne.1 h2
              rw [List.mem_singleton.1 h] at this
              exact this rfl)
          clear hx hxm hsA hsB hsa hsb
          rcases s with _ | _ <;> rcases u with _ | _
          · go_wp2_with fail
            refine HSA.out.mono ?_
            rintro e w7 ⟨rfl, rfl⟩
            go_wp2_with fail
            refine HSB.out.mono ?_
            rintro e w7 ⟨rfl, rfl⟩
            go_wp2_with fail
            go_roundw
            case rel => exact ⟨trivial, sa, sb, i + 1, rfl, rfl, by go_num, hlt, Lib.hid ⟨HNA.out (hy.out.1 (by first | rfl | trivial)), HNB.out (hy.out.2 (by first | rfl | trivial))⟩⟩
            case measure => simp [intOf]; omega
          · go_wp2_with fail
            refine HSA.out.mono ?_
            rintro e w7 ⟨rfl, rfl⟩
            go_wp2_with fail
            go_roundw
            case rel => exact ⟨trivial, sa, true, i + 1, rfl, rfl, by go_num, hlt, Lib.hid ⟨HNA.out (hy.out.1 (by first | rfl | trivial)), (fun h => by cases h)⟩⟩
            case measure => simp [intOf]; omega
          · go_wp2_with fail
            refine HSB.out.mono ?_
            rintro e w7 ⟨rfl, rfl⟩
            go_wp2_with fail
            go_roundw
            case rel => exact ⟨trivial, true, sb, i + 1, rfl, rfl, by go_num, hlt, Lib.hid ⟨(fun h => by cases h), HNB.out (hy.out.2 (by first | rfl | trivial))⟩⟩
            case measure => simp [intOf]; omega
          · go_wp2_with fail
            go_roundw
            case rel => exact ⟨trivial, true, true, i + 1, rfl, rfl, by go_num, hlt, Lib.hid ⟨(fun h => by cases h), (fun h => by cases h)⟩⟩
            case measure => simp [intOf]; omega
        · obtain rfl : i = b := by omega
          have hnl2 : ¬ ((i : Int) < i) := by omega
          have htl : L.take i = L := List.take_of_length_le (by have := HLEN.out; omega)
          obtain rfl : s = true := by
            cases s
            · exact absurd HMEM.out.1 (htl ▸ hy.out.1 rfl)
            · rfl
          obtain rfl : u = true := by
            cases u
            · exact absurd HMEM.out.2 (htl ▸ hy.out.2 rfl)
            · rfl
          have HA8 := Lib.hid (HAW.out w6)
          clear htl
          go_wp2_with fail
          refine HA8.out.mono ?_
          rintro e w7 ⟨rfl, k7⟩
          go_wp2_with fail
          go_ret
          exact ⟨rfl, HKX.out.then k7⟩
end Go.Proofs.YtelakcjbknbehaaGreat
